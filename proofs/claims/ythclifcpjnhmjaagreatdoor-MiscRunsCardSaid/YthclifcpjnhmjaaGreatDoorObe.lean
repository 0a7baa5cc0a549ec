/- A part of the proof: MiscRuns holds. -/
import Derived.Test.YthclifcpjnhmjaaGreatDoorObd
import Derived.Shelf.Strconv.Itoa3
import Derived.Shelf.LaysM
import Derived.Ground.NamesProg
import Derived.Test.YthclifcpjnhmjaaGreatDoorProg
set_option maxRecDepth 100000
namespace Go.Proofs.YthclifcpjnhmjaaGreatDoor
open Go Go.HL Go.Wk
attribute [local irreducible] ptrW ifW brW andW rdT alW letJ stW muW biW vaW imW callT cvalT app callW invW callVW sizeT oW nilF oneK loopW rfW funW begW roundK exW idxW Gr Put
theorem und_MSFI : Tryz.prog.underlying 215 = some (.map 9 129) := by kernel_rfl
theorem und_MSFB : Tryz.prog.underlying 222 = some (.map 9 23) := by kernel_rfl
theorem app_RBm {v : Value} {x : Bool} {F : Value -> Bool -> H -> Prop} {σ : H} (h2:F v x σ) : HL.app (.tup [.sc .raw,.sc .bool]) F (.tuple ⟨[v,.bool x]⟩) σ := by
 unfold HL.app;exact h2
def askL : List (ByteArray × Value) := [(⟨⟨[45,101,113]⟩⟩,.func (.func 177) ⟨[]⟩ ⟨[]⟩),(⟨⟨[45,110,101]⟩⟩,.func (.func 178) ⟨[]⟩ ⟨[]⟩),(⟨⟨[45,108,116]⟩⟩,.func (.func 179) ⟨[]⟩ ⟨[]⟩),(⟨⟨[45,108,101]⟩⟩,.func (.func 180) ⟨[]⟩ ⟨[]⟩),(⟨⟨[45,103,116]⟩⟩,.func (.func 181) ⟨[]⟩ ⟨[]⟩),(⟨⟨[45,103,101]⟩⟩,.func (.func 182) ⟨[]⟩ ⟨[]⟩)]
theorem ask_lk (q:ByteArray) : (askP q = none /\ lk q askL = none) \/ ∃ f v,askP q = some f /\ lk q askL = some v /\ ∀ (x y:Int) {F : Bool -> H -> Prop} {σ : H},F (f x y) σ -> cvalT Tryz.prog v [.int .i64 x,.int .i64 y] kB F σ := by
 unfold askP askL
 simp only [lkS]
 cases sEq q ⟨⟨[45,101,113]⟩⟩ with
 | true => exact .inr ⟨_,_,rfl,rfl,fun x y F σ h => cval_i (by kernel_rfl) (c177 _ _ (by unfold g177;exact app_B h))⟩
 | false =>
  cases sEq q ⟨⟨[45,110,101]⟩⟩ with
  | true => exact .inr ⟨_,_,rfl,rfl,fun x y F σ h => cval_i (by kernel_rfl) (c178 _ _ (by unfold g178;exact app_B h))⟩
  | false =>
   cases sEq q ⟨⟨[45,108,116]⟩⟩ with
   | true => exact .inr ⟨_,_,rfl,rfl,fun x y F σ h => cval_i (by kernel_rfl) (c179 _ _ (by unfold g179;exact app_B h))⟩
   | false =>
    cases sEq q ⟨⟨[45,108,101]⟩⟩ with
    | true => exact .inr ⟨_,_,rfl,rfl,fun x y F σ h => cval_i (by kernel_rfl) (c180 _ _ (by unfold g180;exact app_B h))⟩
    | false =>
     cases sEq q ⟨⟨[45,103,116]⟩⟩ with
     | true => exact .inr ⟨_,_,rfl,rfl,fun x y F σ h => cval_i (by kernel_rfl) (c181 _ _ (by unfold g181;exact app_B h))⟩
     | false =>
      cases sEq q ⟨⟨[45,103,101]⟩⟩ with
      | true => exact .inr ⟨_,_,rfl,rfl,fun x y F σ h => cval_i (by kernel_rfl) (c182 _ _ (by unfold g182;exact app_B h))⟩
      | false => exact .inl ⟨rfl,rfl⟩
theorem s_between (a q b:ByteArray) (ha:a.size <= 1000000000) (hb:b.size <= 1000000000) {σ : H} {K : KH} (hK:K (.tuple ⟨[.bool (betweenP a q b).1,.bool (betweenP a q b).2.1,.bool (betweenP a q b).2.2]⟩) σ) : callW Tryz.prog 146 [.string a,.string q,.string b] K σ := by
 refine pure_i _ hK (c146 _ _ _ ?_)
 clear hK
 unfold g146
 unfold betweenP
 simp only [<- sEq_eq]
 cases c1 : sEq q ⟨⟨[61]⟩⟩ with
 | true => exact br_t rfl ⟨rfl,Gr.refl _⟩
 | false =>
  refine br_f rfl ?_
  cases c2 : sEq q ⟨⟨[33,61]⟩⟩ with
  | true => exact br_t rfl ⟨rfl,Gr.refl _⟩
  | false =>
   refine br_f rfl ?_
   cases c3 : sEq q ⟨⟨[45,97]⟩⟩ with
   | true =>
    refine br_t rfl ?_
    cases sEq a ⟨⟨[]⟩⟩ with
    | true => exact br_f rfl ⟨rfl,Gr.refl _⟩
    | false => exact br_t rfl ⟨rfl,Gr.refl _⟩
   | false =>
    refine br_f rfl ?_
    cases c4 : sEq q ⟨⟨[45,111]⟩⟩ with
    | true =>
     refine br_t rfl ?_
     cases sEq a ⟨⟨[]⟩⟩ with
     | true => exact br_f rfl ⟨rfl,Gr.refl _⟩
     | false => exact br_t rfl ⟨rfl,Gr.refl _⟩
    | false =>
     refine br_f rfl ?_
     refine mul_i und_MSFI und_strM askL (by decide +kernel) ?_
     intro bm σ1 g1 n1 hm
     refine rd_G (mul_rd hm .nilFunc q) (app_RBm ?_)
     refine call_i (s_whole a.data.toList (by rw [<- size_list];exact ha) ?_)
     rw [show (⟨⟨a.data.toList⟩⟩ : ByteArray) = a from rfl]
     (refine app_of rfl ?_;try dsimp only)
     refine call_i (s_whole b.data.toList (by rw [<- size_list];exact hb) ?_)
     rw [show (⟨⟨b.data.toList⟩⟩ : ByteArray) = b from rfl]
     (refine app_of rfl ?_;try dsimp only)
     rcases ask_lk q with ⟨h1,h2⟩ | ⟨f,v,h1,h2,h3⟩
     ·rw [h1,h2]
      exact j_d (br_t rfl (br_t rfl ⟨rfl,g1⟩))
     ·rw [h1,h2]
      refine j_d (br_f rfl ?_)
      cases hwa : wholeP a with
      | none => exact br_t rfl (br_t rfl ⟨rfl,g1⟩)
      | some x =>
       refine br_f rfl ?_
       cases hwb : wholeP b with
       | none => exact br_t rfl ⟨rfl,g1⟩
       | some y => exact br_f rfl (h3 x y ⟨rfl,g1⟩)
def AskOk (σ:H) (ask:Value) (f:IN -> Bool) : Prop := ∀ (n:IN) (τ:H) (F:Bool -> H -> Prop),Gr σ τ -> (∀ τ',Gr τ τ' -> F (f n) τ') -> cvalT Tryz.prog ask [.agg ⟨inV n⟩] kB F τ
section
variable {σ : H} {bf : Nat} {A : AT} {B : Nat -> Prop}
theorem s_of (hF:FsAt σ bf A B) {b8 b9 : Nat} {nm inn cwd s : ByteArray} {x : Sl} {t8 t9 : TypeId} (h8:σ b8 = some (.cells ⟨[.string nm,.slice x.base x.len x.cap,.string inn,.string cwd,.pointer (some ⟨bf,0,none⟩)]⟩ t8 (0,0))) (h9:σ b9 = some (.cells ⟨[.string s]⟩ t9 (0,0)))
 (follow:Bool) (ask:Value) (f:IN -> Bool) (ha:AskOk σ ask f) {K : KH} (hK:∀ σ',Gr σ σ' -> K (.bool (A.ofP cwd s follow f)) σ') : callW Tryz.prog 183 [.bool follow,ask,.pointer (some ⟨b8,0,none⟩),.pointer (some ⟨b9,0,none⟩)] K σ := by
 refine c183 _ _ _ _ ?_
 unfold g183
 refine ptr_i (rd_P (rdC_of h8 (by rfl)) (ptr_i (rd_S (rdC_of h8 (by rfl)) (ptr_i (rd_S (rdC_of h9 (by rfl)) ?_)))))
 refine call_i (s_Stat hF cwd s follow ?_)
 have hd : A.ofP cwd s follow f = (((A.stat cwd s follow).1 == 0) && f (A.stat cwd s follow).2) := rfl
 unfold inV
 (refine app_of rfl ?_;try dsimp only)
 refine al_i ?_;intro b19 σ1 g1 e1 n1
 refine st_i2 e1 sz_Inode (by rfl) (by rfl) ?_;intro σ2 p2
 have g2 : Gr σ σ2 := g1.putF p2 n1
 cases hc : (A.stat cwd s follow).1 == 0 with
 | false => rw [hc,Bool.false_and] at hd;rw [hd] at hK;exact br_f rfl (hK σ2 g2)
 | true =>
  rw [hc,Bool.true_and] at hd
  refine br_t rfl (rd_G (rdA_of' p2.same (by rfl)) ?_)
  (refine app_of rfl ?_;try dsimp only)
  refine ha (A.stat cwd s follow).2 σ2 _ g2 ?_
  intro σ3 g3
  rw [hd] at hK
  exact hK σ3 (g2.trans g3)
theorem ask_k (k:Int) {bk : Nat} {tk : TypeId} (h:σ bk = some (.cells ⟨[.int .i64 k]⟩ tk (0,0))) : AskOk σ (.func (.func 186) ⟨[]⟩ ⟨[.pointer (some ⟨bk,0,none⟩)]⟩) (fun n => n.kind == k) := by
 intro n τ F hg hF
 refine cval_i (by kernel_rfl) (c186 _ _ _ _ _ ?_)
 unfold g186
 refine al_i ?_;intro b σ1 g1 e1 n1
 exact rd_I (rdC_of e1 (by rfl)) (ptr_i (rd_I (rdC_of (g1.get (hg.get h)) (by rfl)) (app_B (hF σ1 g1))))
theorem ask_e : AskOk σ (.func (.func 191) ⟨[]⟩ ⟨[]⟩) (fun _ => true) := by
 intro n τ F hg hF
 refine cval_i (by kernel_rfl) (c191 _ _ _ _ ?_)
 unfold g191
 refine al_i ?_;intro b σ1 g1 e1 n1
 exact app_B (hF σ1 g1)
theorem ask_x : AskOk σ (.func (.func 195) ⟨[]⟩ ⟨[]⟩) (fun n => xbit n.mode) := by
 intro n τ F hg hF
 refine cval_i (by kernel_rfl) (c195 _ _ _ _ ?_)
 unfold g195
 refine al_i ?_;intro b σ1 g1 e1 n1
 exact rd_I (rdC_of e1 (by rfl)) (app_B (hF σ1 g1))
theorem ask_s : AskOk σ (.func (.func 197) ⟨[]⟩ ⟨[]⟩) (fun n => n.kind == 1 && !sEq n.data ⟨⟨[]⟩⟩) := by
 intro n τ F hg hF
 refine cval_i (by kernel_rfl) (c197 _ _ _ _ ?_)
 unfold g197
 refine al_i ?_;intro b σ1 g1 e1 n1
 refine rd_I (rdC_of e1 (by rfl)) ?_
 have this : F (n.kind == 1 && !sEq n.data ⟨⟨[]⟩⟩) σ1 := hF σ1 g1
 cases hk : n.kind == 1 with
 | false => rw [hk] at this;exact br_f rfl (app_B this)
 | true =>
  rw [hk] at this
  refine br_t rfl (rd_S (rdC_of e1 (by rfl)) (app_B ?_))
  rw [<- sEq_eq];exact this
def aboutL (b9 b10 b11:Nat) : List (ByteArray × Value) := [(⟨⟨[45,110]⟩⟩,.func (.func 188) ⟨[]⟩ ⟨[.pointer (some ⟨b9,0,none⟩)]⟩),(⟨⟨[45,122]⟩⟩,.func (.func 189) ⟨[]⟩ ⟨[.pointer (some ⟨b9,0,none⟩)]⟩),(⟨⟨[45,101]⟩⟩,.func (.func 190) ⟨[]⟩ ⟨[.pointer (some ⟨b10,0,none⟩)]⟩),
 (⟨⟨[45,102]⟩⟩,.func (.func 192) ⟨[]⟩ ⟨[.pointer (some ⟨b10,0,none⟩),.pointer (some ⟨b11,0,none⟩)]⟩),(⟨⟨[45,100]⟩⟩,.func (.func 193) ⟨[]⟩ ⟨[.pointer (some ⟨b10,0,none⟩),.pointer (some ⟨b11,0,none⟩)]⟩),(⟨⟨[45,76]⟩⟩,.func (.func 187) ⟨[]⟩ ⟨[.pointer (some ⟨b10,0,none⟩),.pointer (some ⟨b11,0,none⟩)]⟩),(⟨⟨[45,104]⟩⟩,.func (.func 187) ⟨[]⟩ ⟨[.pointer (some ⟨b10,0,none⟩),.pointer (some ⟨b11,0,none⟩)]⟩),
 (⟨⟨[45,120]⟩⟩,.func (.func 194) ⟨[]⟩ ⟨[.pointer (some ⟨b10,0,none⟩)]⟩),(⟨⟨[45,115]⟩⟩,.func (.func 196) ⟨[]⟩ ⟨[.pointer (some ⟨b10,0,none⟩)]⟩)]
theorem about_nd (b9 b10 b11:Nat) : ((aboutL b9 b10 b11).map fun x => x.1.data.toList).Nodup := by
 show ([[45,110],[45,122],[45,101],[45,102],[45,100],[45,76],[45,104],[45,120],[45,115]] : List (List UInt8)).Nodup
 decide
theorem sz_askF : sizeT Tryz.prog 219 = some 1 := by kernel_rfl
theorem sz_kindF2 : sizeT Tryz.prog 220 = some 1 := by kernel_rfl
theorem s_about (hF:FsAt σ bf A B) (nm inn cwd q s:ByteArray) (x:Sl) {K : KH} (hK:K (.tuple ⟨[.bool (A.aboutP cwd q s).1,.bool (A.aboutP cwd q s).2]⟩) σ) : callW Tryz.prog 147 [.agg ⟨[.string nm,.slice x.base x.len x.cap,.string inn,.string cwd,.pointer (some ⟨bf,0,none⟩)]⟩,.string q,.string s] K σ := by
 refine pure_i _ hK (c147 _ _ _ _ _ _ _ ?_)
 clear hK
 unfold g147
 refine al_i ?_;intro b8 σ1 g1 e1 n1
 refine al_i ?_;intro b9 σ2 g2 e2 n2
 refine al_i ?_;intro b10 σ3 g3 e3 n3
 refine st_i2 e3 sz_askF (by rfl) (by rfl) ?_;intro σ4 p4
 refine al_i ?_;intro b11 σ5 g5 e5 n5
 refine st_i2 e5 sz_kindF2 (by rfl) (by rfl) ?_;intro σ6 p6
 have G3 : Gr σ2 σ4 := g3.putF p4 n3
 have G5 : Gr σ4 σ6 := g5.putF p6 n5
 refine mul_i und_MSFB und_strM (aboutL b9 b10 b11) (about_nd b9 b10 b11) ?_
 intro bm σ7 g7 n7 hm
 have G27 : Gr σ2 σ7 := (G3.trans G5).trans g7
 have G : Gr σ σ7 := (g1.trans g2).trans G27
 have k8 := G27.get (g2.get e1)
 have k9 := G27.get e2
 have k10 := g7.get (G5.get p4.same)
 have k11 := g7.get p6.same
 have hF7 := hF.gr G
 refine rd_G (mul_rd hm .nilFunc q) (app_RBm ?_)
 have kof : ∀ (follow:Bool) (ask:Value) (f:IN -> Bool) (τ:H) (F:Bool -> H -> Prop),Gr σ7 τ -> AskOk τ ask f -> (∀ τ',Gr τ τ' -> F (A.ofP cwd s follow f) τ') -> cvalT Tryz.prog (.func (.func 183) ⟨[]⟩ ⟨[.pointer (some ⟨b8,0,none⟩),.pointer (some ⟨b9,0,none⟩)]⟩) [.bool follow,ask] kB F τ := by
  intro follow ask f τ F hg ha hF'
  exact cval_i (by kernel_rfl) (s_of (hF7.gr hg) (hg.get k8) (hg.get k9) follow ask f ha fun τ' hg' => app_B (hF' τ' hg'))
 have kkd : ∀ (k:Int) (τ:H) (F:Value -> H -> Prop),Gr σ7 τ -> (∀ bk τ',Gr τ τ' -> τ' bk = some (.cells ⟨[.int .i64 k]⟩ 3 (0,0)) -> F (.func (.func 186) ⟨[]⟩ ⟨[.pointer (some ⟨bk,0,none⟩)]⟩) τ') -> cvalT Tryz.prog (.func (.func 185) ⟨[]⟩ ⟨[]⟩) [.int .i64 k] kR F τ := by
  intro k τ F hg hF'
  refine cval_i (by kernel_rfl) (c185 _ ?_)
  unfold g185
  refine al_i ?_;intro b σ1 g1 e1 n1
  exact app_R (hF' b σ1 g1 e1)
 unfold aboutL AT.aboutP
 simp only [lkS]
 cases sEq q ⟨⟨[45,110]⟩⟩ with
 | true =>
  refine br_t rfl (cval_i (by kernel_rfl) (c188 _ ?_))
  unfold g188
  refine ptr_i (rd_S (rdC_of k9 (by rfl)) (app_B ⟨?_,G⟩))
  rw [<- sEq_eq];rfl
 | false =>
 cases sEq q ⟨⟨[45,122]⟩⟩ with
 | true =>
  refine br_t rfl (cval_i (by kernel_rfl) (c189 _ ?_))
  unfold g189
  refine ptr_i (rd_S (rdC_of k9 (by rfl)) (app_B ⟨?_,G⟩))
  rw [<- sEq_eq];rfl
 | false =>
 cases sEq q ⟨⟨[45,101]⟩⟩ with
 | true =>
  refine br_t rfl (cval_i (by kernel_rfl) (c190 _ ?_))
  unfold g190
  refine ptr_i (rd_R (rdC_of k10 (by rfl)) (kof true _ (fun _ => true) σ7 _ (Gr.refl _) ask_e fun τ' hg => app_B ⟨rfl,G.trans hg⟩))
 | false =>
 cases sEq q ⟨⟨[45,102]⟩⟩ with
 | true =>
  refine br_t rfl (cval_i (by kernel_rfl) (c192 _ _ ?_))
  unfold g192
  refine ptr_i (rd_R (rdC_of k10 (by rfl)) (ptr_i (rd_R (rdC_of k11 (by rfl)) (kkd 1 σ7 _ (Gr.refl _) fun bk τ hg hb => and_i (rdC_of (hg.get k10) (by rfl)) (kof true _ (fun n => n.kind == 1) τ _ hg (ask_k 1 hb) fun τ' hg' => app_B ⟨rfl,(G.trans hg).trans hg'⟩)))))
 | false =>
 cases sEq q ⟨⟨[45,100]⟩⟩ with
 | true =>
  refine br_t rfl (cval_i (by kernel_rfl) (c193 _ _ ?_))
  unfold g193
  refine ptr_i (rd_R (rdC_of k10 (by rfl)) (ptr_i (rd_R (rdC_of k11 (by rfl)) (kkd 2 σ7 _ (Gr.refl _) fun bk τ hg hb => and_i (rdC_of (hg.get k10) (by rfl)) (kof true _ (fun n => n.kind == 2) τ _ hg (ask_k 2 hb) fun τ' hg' => app_B ⟨rfl,(G.trans hg).trans hg'⟩)))))
 | false =>
 have hlink : ∀ (F:Bool -> H -> Prop),(∀ τ',Gr σ7 τ' -> F (A.ofP cwd s false fun n => n.kind == 3) τ') -> cvalT Tryz.prog (.func (.func 187) ⟨[]⟩ ⟨[.pointer (some ⟨b10,0,none⟩),.pointer (some ⟨b11,0,none⟩)]⟩) [] kB F σ7 := by
  intro F hF'
  refine cval_i (by kernel_rfl) (c187 _ _ ?_)
  unfold g187
  refine ptr_i (rd_R (rdC_of k10 (by rfl)) (ptr_i (rd_R (rdC_of k11 (by rfl)) (kkd 3 σ7 _ (Gr.refl _) fun bk τ hg hb => and_i (rdC_of (hg.get k10) (by rfl)) (kof false _ (fun n => n.kind == 3) τ _ hg (ask_k 3 hb) fun τ' hg' => app_B (hF' τ' (hg.trans hg')))))))
 cases sEq q ⟨⟨[45,76]⟩⟩ with
 | true => exact br_t rfl (hlink _ fun τ' hg => ⟨rfl,G.trans hg⟩)
 | false =>
 cases sEq q ⟨⟨[45,104]⟩⟩ with
 | true => exact br_t rfl (hlink _ fun τ' hg => ⟨rfl,G.trans hg⟩)
 | false =>
 cases sEq q ⟨⟨[45,120]⟩⟩ with
 | true =>
  refine br_t rfl (cval_i (by kernel_rfl) (c194 _ ?_))
  unfold g194
  refine ptr_i (rd_R (rdC_of k10 (by rfl)) (kof true _ (fun n => xbit n.mode) σ7 _ (Gr.refl _) ask_x fun τ' hg => app_B ⟨rfl,G.trans hg⟩))
 | false =>
 cases sEq q ⟨⟨[45,115]⟩⟩ with
 | true =>
  refine br_t rfl (cval_i (by kernel_rfl) (c196 _ ?_))
  unfold g196
  refine ptr_i (rd_R (rdC_of k10 (by rfl)) (kof true _ (fun n => n.kind == 1 && !sEq n.data ⟨⟨[]⟩⟩) σ7 _ (Gr.refl _) ask_s fun τ' hg => app_B ⟨rfl,G.trans hg⟩))
 | false => exact br_f rfl ⟨rfl,G⟩
end
end Go.Proofs.YthclifcpjnhmjaaGreatDoor

set_option maxRecDepth 100000
namespace Go.Proofs.YthclifcpjnhmjaaGreatDoor
open Go Go.HL Go.Wk
def joinB (sep:List UInt8) : List (List UInt8) -> List UInt8
 | [] => []
 | [a] => a
 | a :: b :: r => a ++ sep ++ joinB sep (b :: r)
theorem joinB_cons (sep:List UInt8) (a:List UInt8) (l:List (List UInt8)) : joinB sep (a :: l) = a ++ l.flatMap fun x => sep ++ x := by
 induction l generalizing a with
 | nil => simp [joinB]
 | cons b r ih => rw [joinB,ih b,List.flatMap_cons];simp
def sumS (l:List ByteArray) : Nat := (l.map ByteArray.size).sum
theorem sumS_cons (a:ByteArray) (l:List ByteArray) : sumS (a :: l) = a.size + sumS l := by simp [sumS]
theorem sumS_app (a b:List ByteArray) : sumS (a ++ b) = sumS a + sumS b := by simp [sumS]
theorem sumS_take (l:List ByteArray) (i:Nat) : sumS (l.take i) <= sumS l := by
 have : sumS l = sumS (l.take i) + sumS (l.drop i) := by rw [<- sumS_app,List.take_append_drop]
 omega
theorem flat_le (sep:List UInt8) (hs:sep.length <= 1) (l:List ByteArray) : (l.flatMap fun x => sep ++ x.data.toList).length <= l.length + sumS l := by
 induction l with
 | nil => exact Nat.le_refl _
 | cons a r ih => rw [List.flatMap_cons,List.length_append,List.length_append,sumS_cons,List.length_cons,<- size_list];omega
theorem joinP_B (sep:ByteArray) : ∀ l : List ByteArray,joinP sep l = ⟨⟨joinB sep.data.toList (l.map fun s => s.data.toList)⟩⟩
 | [] => rfl
 | [a] => rfl
 | a :: b :: r => by
  rw [joinP,joinP_B sep (b :: r)]
  refine bytes_ext ?_
  rw [app_data,app_data];rfl
attribute [local irreducible] ptrW ifW brW andW rdT alW letJ stW muW biW vaW imW callT cvalT app callW invW callVW sizeT oW nilF oneK loopW rfW funW begW roundK exW idxW Gr Put
section
variable {σ : H}
theorem s_Join {l : List ByteArray} {x : Sl} (hx:RowsAt σ 1 (strRows l) x) (hcap:x.len <= x.cap) (sep:ByteArray) (hsep:sep.size <= 1) (hl:l.length <= 1000000000) (hz:sumS l <= 1000000000) {K : KH} (hK:∀ σ',Gr σ σ' -> K (.string ⟨⟨joinB sep.data.toList (l.map fun s => s.data.toList)⟩⟩) σ') :
 callW Tryz.prog 23 [.slice x.base x.len x.cap,.string sep] K σ := by
 refine c23 _ _ ?_
 unfold g23
 have hxl : x.len = l.length := by rw [hx.1];simp [strRows]
 match l,hx,hl,hz,hK,hxl with
 | [],hx,hl,hz,hK,hxl =>
  exact br_t (by rw [hxl];rfl) (hK σ (Gr.refl _))
 | [a],hx,hl,hz,hK,hxl =>
  refine br_f (by rw [hxl];rfl) (br_t (by rw [hxl];rfl) ?_)
  obtain ⟨g,o,a1,a2,a3⟩ := sRow hx (i := 0) (s := a) rfl
  rw [a1]
  refine ptr_i (if_i ⟨by omega,by show _ < ((x.len:Nat) : Int);omega⟩ (rd_S a3 ?_))
  exact hK σ (Gr.refl _)
 | a :: b :: r,hx,hl,hz,hK,hxl =>
  have hne : ¬ (((x.len:Nat) : Int) = 0) := by simp only [hxl,List.length_cons];omega
  have hne1 : ¬ (((x.len:Nat) : Int) = 1) := by simp only [hxl,List.length_cons];omega
  refine br_f (by simpa using hne) (br_f (by simpa using hne1) ?_)
  generalize hL : b :: r = rest at hx hl hz hK hxl
  have hrl : 1 <= rest.length := by rw [<- hL];simp
  simp only [List.length_cons] at hl hxl
  obtain ⟨q,hq,hqs⟩ : ∃ q : Nat,q <= rest.length /\ q = sep.size * rest.length := ⟨_,by rcases (by omega:sep.size = 0 \/ sep.size = 1) with e | e <;> rw [e] <;> omega,rfl⟩
  refine j_i (fun j => j x sep (q:Int) σ) ?_ ?_
  ·refine loop_i ?_
   intro R hR
   have key : ∀ (c i:Nat),c + i = rest.length + 1 -> R x sep ((q + sumS ((a :: rest).take i) : Nat) : Int) x ((x.len:Nat) : Int) (i:Int) σ := by
    intro c
    induction c with
    | zero =>
     intro i hc
     refine hR _ _ _ _ _ _ _ ?_
     refine br_f (by simp only [decide_eq_false_iff_not];omega) ?_
     have hst := sumS_take (a :: rest) i
     refine al_i ?_;intro b20 σ1 g1 e1 n1
     refine call_i (s_BuGrow e1 (by omega) ?_)
     intro σ2 D2 hB2 S2
     refine app_of rfl ?_
     have k2 : Gr σ σ2 := gr_of fun c o hc => (S2 c o (g1.get hc) (fun e => by rw [e,n1] at hc;cases hc)).1
     have d2 : ∀ c,D2 c -> σ c = none := fun c hd => by
      cases hc : σ c with
      | none => rfl
      | some o => exact absurd hd (S2 c o (g1.get hc) (fun e => by rw [e,n1] at hc;cases hc)).2
     obtain ⟨g,o,a1,a2,a3⟩ := sRow (hx.gr k2) (i := 0) (s := a) rfl
     rw [a1]
     refine ptr_i (if_i ⟨by omega,by show _ < ((x.len:Nat) : Int);omega⟩ (rd_S a3 ?_))
     rw [sumS_cons] at hz
     refine call_i (s_BuWrS hB2 a (by simp;omega) ?_)
     intro σ3 D3 hB3 S3
     refine app_of rfl ?_
     have k3 : Gr σ σ3 := gr_of fun c o hc => (S3 c o (k2.get hc) (fun hd => by rw [d2 c hd] at hc;cases hc)).1
     have d3 : ∀ c,D3 c -> σ c = none := fun c hd => by
      cases hc : σ c with
      | none => rfl
      | some o => exact absurd hd (S3 c o (k2.get hc) (fun hd => by rw [d2 c hd] at hc;cases hc)).2
     refine if_i ⟨bnd_none,bnd_some (by omega) (by show (1:Int) <= ((x.len:Nat) : Int);omega)⟩ ?_
     have hsub : RowsAt σ 1 (strRows rest) ⟨slBase x.base ((1:Int).toNat) x.cap 1,x.len - ((1:Int).toNat),x.cap - ((1:Int).toNat)⟩ := by
      have := hx.sub hcap (k := 1) (e := (strRows (a :: rest)).length) (by simp [strRows]) (Nat.le_refl _) (x.cap - 1)
      rw [List.take_length] at this
      have e : x.len - 1 = (strRows (a :: rest)).length - 1 := by simp [strRows];omega
      show RowsAt σ 1 _ ⟨slBase x.base 1 x.cap 1,x.len - 1,x.cap - 1⟩
      rw [e];exact this
     rw [<- a1]
     generalize hy : (⟨slBase x.base ((1:Int).toNat) x.cap 1,x.len - ((1:Int).toNat),x.cap - ((1:Int).toNat)⟩ : Sl) = y at hsub ⊢
     have hyl : y.len = rest.length := by rw [hsub.1];simp [strRows]
     have hyn : ((x.len - ((1:Int).toNat) : Nat) : Int) = ((rest.length:Nat) : Int) := by show ((x.len - 1 : Nat) : Int) = _;omega
     rw [hyn]
     refine loop_i ?_
     intro R2 hR2
     have key2 : ∀ (c i:Nat) (τ:H) (D:Nat -> Prop),c + i = rest.length -> BuAt τ b20 (a.data.toList ++ (rest.take i).flatMap fun s => sep.data.toList ++ s.data.toList) D -> Gr σ τ -> (∀ c,D c -> σ c = none) -> R2 sep (some ⟨b20,0,none⟩) y ((rest.length:Nat) : Int) (i:Int) τ := by
      have hsl : sep.data.toList.length <= 1 := by rw [<- size_list];exact hsep
      have hal : a.data.toList.length = a.size := (size_list a).symm
      intro c
      induction c with
      | zero =>
       intro i τ D hc hB hg hD
       refine hR2 _ _ _ _ _ _ ?_
       refine br_f (by simp only [decide_eq_false_iff_not];omega) ?_
       rw [List.take_of_length_le (by omega)] at hB
       have hfl := flat_le sep.data.toList hsl rest
       refine call_i (s_BuStr hB (by rw [List.length_append,hal];omega) ?_)
       intro σ' hkeep
       refine app_S ?_
       have := hK σ' (gr_of fun c o hc => hkeep c o (hg.get hc) (fun hd => by rw [hD c hd] at hc;cases hc))
       rw [List.map_cons,joinB_cons,List.flatMap_map] at this
       exact this
      | succ c ih =>
       intro i τ D hc hB hg hD
       obtain ⟨s,hs⟩ : ∃ s,rest[i]? = some s := ⟨_,List.getElem?_eq_getElem (by omega)⟩
       obtain ⟨g,o,z1,z2,z3⟩ := sRow (hsub.gr hg) hs
       refine hR2 _ _ _ _ _ _ ?_
       refine br_t (by simp only [decide_eq_true_eq];omega) ?_
       rw [z1]
       have hfl := flat_le sep.data.toList hsl (rest.take i)
       have hst2 := sumS_take rest (i + 1)
       have htk : rest.take (i + 1) = rest.take i ++ [s] := by rw [List.take_add_one,hs];rfl
       rw [htk,sumS_app] at hst2
       have hs1 : sumS [s] = s.size := by simp [sumS]
       have hti : (rest.take i).length <= rest.length := by rw [List.length_take];omega
       refine ptr_i (if_i ⟨by omega,by show _ < ((y.len:Nat) : Int);omega⟩ (rd_S (by rw [Int.toNat_natCast];exact z3) ?_))
       refine call_i (s_BuWrS hB sep (by rw [List.length_append,hal];omega) ?_)
       intro τ2 D2 hB2 T2
       refine app_of rfl ?_
       refine call_i (s_BuWrS hB2 s (by rw [List.length_append,List.length_append,hal];omega) ?_)
       intro τ3 D3 hB3 T3
       refine app_of rfl ?_
       rw [wrapS (i := i) (by omega)]
       have h2 : ∀ c o,σ c = some o -> τ2 c = some o /\ ¬ D2 c := fun c o hc => T2 c o (hg.get hc) (fun hd => by rw [hD c hd] at hc;cases hc)
       have h3 : ∀ c o,σ c = some o -> τ3 c = some o /\ ¬ D3 c := fun c o hc => T3 c o (h2 c o hc).1 (h2 c o hc).2
       refine ih (i + 1) τ3 D3 (by omega) ?_ (gr_of fun c o hc => (h3 c o hc).1) (fun c hd => ?_)
       ·rw [htk,List.flatMap_append]
        simp only [List.flatMap_cons,List.flatMap_nil,List.append_nil]
        rw [<- List.append_assoc,<- List.append_assoc]
        exact hB3
       ·cases hc : σ c with
        | none => rfl
        | some o => exact absurd hd (h3 c o hc).2
     exact key2 rest.length 0 σ3 D3 (by omega) (by simpa using hB3) k3 d3
    | succ c ih =>
     intro i hc
     obtain ⟨s,hs⟩ : ∃ s,(a :: rest)[i]? = some s := ⟨_,List.getElem?_eq_getElem (by simp only [List.length_cons];omega)⟩
     obtain ⟨g,o,z1,z2,z3⟩ := sRow hx hs
     have hst := sumS_take (a :: rest) (i + 1)
     have htk : (a :: rest).take (i + 1) = (a :: rest).take i ++ [s] := by rw [List.take_add_one,hs];rfl
     have hs1 : sumS [s] = s.size := by simp [sumS]
     rw [htk,sumS_app,hs1] at hst
     refine hR _ _ _ _ _ _ _ ?_
     refine br_t (by simp only [decide_eq_true_eq];omega) ?_
     rw [z1]
     refine ptr_i (if_i ⟨by omega,by show _ < ((x.len:Nat) : Int);omega⟩ (rd_S (by rw [Int.toNat_natCast];exact z3) ?_))
     refine br_f (by
      simp only [decide_eq_false_iff_not]
      rw [wrap_id (by omega) (by omega)];omega) ?_
     rw [wrapS (i := i) (by omega)]
     rw [wrap_id (x := ((q + sumS ((a :: rest).take i) : Nat) : Int) + ((s.size:Nat) : Int)) (by omega) (by omega)]
     have := ih (i + 1) (by omega)
     rw [htk,sumS_app,hs1] at this
     have e : ((q + sumS ((a :: rest).take i) : Nat) : Int) + ((s.size:Nat) : Int) = ((q + (sumS ((a :: rest).take i) + s.size) : Nat) : Int) := by omega
     rw [e];exact this
   have := key (rest.length + 1) 0 (by omega)
   simpa [sumS] using this
  ·intro j hj
   rcases (by omega:sep.size = 0 \/ sep.size = 1) with e | hsep
   ·rw [e,Nat.zero_mul] at hqs
    subst hqs
    refine br_f (by rw [e];rfl) hj
   rw [hsep,Nat.one_mul] at hqs
   rw [hqs] at hj
   refine br_t (by rw [hsep];rfl) ?_
   have e1 : IntKind.i64.wrap (((x.len:Nat) : Int) - 1) = ((rest.length:Nat) : Int) := by rw [wrap_id (by omega) (by omega)];omega
   rw [e1,hsep]
   refine if_i (by omega) (br_f ?_ ?_)
   ·simp only [decide_eq_false_iff_not]
    have h1 : (2:Int) <= (9223372036854775807:Int).tdiv ((rest.length:Nat) : Int) := by
     rw [Int.tdiv_eq_ediv_of_nonneg (by omega)]
     exact Int.le_ediv_of_mul_le (by omega) (by omega)
    have h2 : (9223372036854775807:Int).tdiv ((rest.length:Nat) : Int) <= 9223372036854775807 := by
     rw [Int.tdiv_eq_ediv_of_nonneg (by omega)]
     exact Int.ediv_le_self _ (by omega)
    rw [wrap_id (by omega) (by omega)]
    omega
   ·have e2 : IntKind.i64.wrap (0 + IntKind.i64.wrap (((1 : Nat) : Int) * ((rest.length : Nat) : Int))) = ((rest.length : Nat) : Int) := by
     rw [wrap_id (x := ((1:Nat) : Int) * _) (by omega) (by omega),wrap_id (by omega) (by omega)];omega
    rw [e2];exact hj
end
end Go.Proofs.YthclifcpjnhmjaaGreatDoor

set_option maxRecDepth 100000
namespace Go.Proofs.YthclifcpjnhmjaaGreatDoor
open Go Go.HL Go.Wk
attribute [local irreducible] ptrW ifW brW andW rdT alW letJ stW muW biW vaW imW callT cvalT app callW invW callVW sizeT oW nilF oneK loopW rfW funW begW roundK exW idxW Gr Put
section
variable {σ : H} {bf : Nat} {A : AT} {B : Nat -> Prop}
theorem so_rest (A:AT) (cwd a b:ByteArray) (r:List ByteArray) (h:∀ c,r = [c] -> (betweenP a b c).2.1 = false) : A.soP cwd (a :: b :: r) = if decide ((a :: b :: r).length <= 4) && sEq a ⟨⟨[33]⟩⟩ then (!(A.soP cwd (b :: r)).1,(A.soP cwd (b :: r)).2) else if r.isEmpty then A.aboutP cwd a b else (false,false) := by
 cases r with
 | nil =>
  rw [soP_two,show decide ((a :: b :: ([] : List ByteArray)).length <= 4) = true from rfl,Bool.true_and];rfl
 | cons c r =>
  rw [soP_many]
  have e : Nat.ble r.length 1 = decide ((a :: b :: c :: r).length <= 4) := by
   rw [Bool.eq_iff_iff,Nat.ble_eq,decide_eq_true_eq];simp only [List.length_cons];omega
  rw [e]
  cases r with
  | nil =>
   rw [h c rfl];rfl
  | cons d r => rfl
theorem s_so (nm inn cwd:ByteArray) (x:Sl) : ∀ (l:List ByteArray) (y:Sl) {σ : H},FsAt σ bf A B -> RowsAt σ 1 (strRows l) y -> y.len <= y.cap -> (∀ a ∈ l,a.size <= 1000000000) -> l.length <= 1000 -> ∀ {K : KH},K (.tuple ⟨[.bool (A.soP cwd l).1,.bool (A.soP cwd l).2]⟩) σ ->
 callW Tryz.prog 99 [.agg ⟨[.string nm,.slice x.base x.len x.cap,.string inn,.string cwd,.pointer (some ⟨bf,0,none⟩)]⟩,.slice y.base y.len y.cap] K σ := by
 intro l
 induction l with
 | nil =>
  intro y σ hF hy hc hz hl K hK
  refine pure_i _ hK (c99 _ _ _ _ _ _ ?_)
  clear hK
  unfold g99
  have hyl := sLen hy
  refine al_i ?_;intro b7 σ1 g1 e1 n1
  exact j_d (br_t (by rw [hyl];rfl) ⟨rfl,g1⟩)
 | cons a t ih =>
  intro y σ hF hy hc hz hl K hK
  refine pure_i _ hK (c99 _ _ _ _ _ _ ?_)
  clear hK
  unfold g99
  have hyl := sLen hy
  refine al_i ?_;intro b7 σ1 g1 e1 n1
  obtain ⟨g,o,a1,a2,a3⟩ := sRow (hy.gr g1) (i := 0) (s := a) rfl
  cases t with
  | nil =>
   refine j_d (br_f (by rw [hyl];rfl) (br_t (by rw [hyl];rfl) ?_))
   rw [a1]
   refine ptr_i (if_i ⟨by decide,by omega⟩ (rd_S a3 ⟨?_,g1⟩))
   rw [<- sEq_eq];rfl
  | cons b r =>
   have hyl2 : y.len = r.length + 2 := hyl
   obtain ⟨gb,ob,b1,b2,b3⟩ := sRow (hy.gr g1) (i := 1) (s := b) rfl
   have hge : g = gb /\ o = ob := by rw [a1] at b1;cases b1;exact ⟨rfl,rfl⟩
   obtain ⟨rfl,rfl⟩ := hge
   simp only [List.length_cons] at hl
   refine j_i (fun j => (∀ c,r = [c] -> (betweenP a b c).2.1 = false) -> j y (some ⟨b7,0,none⟩) σ1) ?_ ?_
   ·intro h
    rw [so_rest A cwd a b r h]
    refine j_i (fun j => ∀ cb : Bool,cb = (decide ((a :: b :: r).length <= 4) && sEq a ⟨⟨[33]⟩⟩) -> j y (some ⟨b7,0,none⟩) cb σ1) ?_ ?_
    ·intro cb hcb
     rw [<- hcb]
     cases cb with
     | true =>
      refine br_t rfl (ptr_i (rd_G (rdA_of' e1 (by rfl)) ?_))
      (refine app_of rfl ?_;try dsimp only)
      refine if_i ⟨bnd_none,bnd_some (by decide) (by omega)⟩ ?_
      refine call_i (ih ⟨slBase y.base 1 y.cap 1,y.len - 1,y.cap - 1⟩ (hF.gr g1) (sTail (hy.gr g1) hc) (by show y.len - 1 <= y.cap - 1;omega) (fun q hq => hz q (List.mem_cons_of_mem _ hq)) (by simp only [List.length_cons];omega) ?_)
      (refine app_of rfl ?_;try dsimp only)
      exact ⟨rfl,g1⟩
     | false =>
      refine br_f rfl ?_
      cases r with
      | nil =>
       refine br_t (by rw [hyl2];rfl) (ptr_i (rd_G (rdA_of' e1 (by rfl)) ?_))
       (refine app_of rfl ?_;try dsimp only)
       rw [a1]
       refine ptr_i (if_i ⟨by decide,by omega⟩ (rd_S a3 (ptr_i (if_i ⟨by decide,by omega⟩ (rd_S b3 ?_)))))
       refine call_i (s_about (hF.gr g1) nm inn cwd a b x ?_)
       (refine app_of rfl ?_;try dsimp only)
       exact ⟨rfl,g1⟩
      | cons c r => exact br_f (by rw [hyl2];simp only [List.length_cons,beq_eq_false_iff_ne];omega) ⟨rfl,g1⟩
    ·intro j hj
     by_cases h4 : (a :: b :: r).length <= 4
     ·refine br_t (by rw [hyl2,decide_eq_true_eq];simp only [List.length_cons] at h4;omega) ?_
      rw [a1]
      refine ptr_i (if_i ⟨by decide,by omega⟩ (rd_S a3 ?_))
      exact hj _ (by rw [decide_eq_true h4,Bool.true_and,sEq_eq])
     ·exact br_f (by rw [hyl2,decide_eq_false_iff_not];simp only [List.length_cons] at h4;omega) (hj _ (by rw [decide_eq_false h4];rfl))
   ·intro j hj
    refine br_f (by rw [hyl2];simp only [beq_eq_false_iff_ne];omega) (br_f (by rw [hyl2];simp only [beq_eq_false_iff_ne];omega) ?_)
    by_cases h3 : r.length = 1
    ·obtain ⟨c,rfl⟩ := List.length_eq_one_iff.1 h3
     obtain ⟨gc,oc,c1,c2,c3⟩ := sRow (hy.gr g1) (i := 2) (s := c) rfl
     have hge : g = gc /\ o = oc := by rw [a1] at c1;cases c1;exact ⟨rfl,rfl⟩
     obtain ⟨rfl,rfl⟩ := hge
     refine br_t (by rw [hyl2];rfl) ?_
     rw [a1]
     refine ptr_i (if_i ⟨by decide,by omega⟩ (rd_S a3 (ptr_i (if_i ⟨by decide,by omega⟩ (rd_S b3 (ptr_i (if_i ⟨by decide,by omega⟩ (rd_S c3 ?_))))))))
     refine call_i (s_between a b c (hz a (by simp)) (hz c (by simp)) ?_)
     (refine app_of rfl ?_;try dsimp only)
     cases hs : (betweenP a b c).2.1 with
     | true =>
      refine br_t rfl ⟨?_,g1⟩
      rw [soP_many,hs];rfl
     | false => exact br_f rfl (hj fun c' hc' => by cases hc';exact hs)
    ·refine br_f (by rw [hyl2];simp only [beq_eq_false_iff_ne];omega) (hj fun c hc' => ?_)
     rw [hc'] at h3;exact absurd rfl h3
theorem testP_def (A:AT) (cwd nm:ByteArray) (args:List ByteArray) : A.testP cwd nm args = if sEq nm ⟨⟨[91]⟩⟩ then (match args.getLast? with | none => usageP nm | some z => if sEq z ⟨⟨[93]⟩⟩ then doneOf nm (A.soP cwd args.dropLast) else usageP nm) else doneOf nm (A.soP cwd args) := rfl
theorem s_test (hF:FsAt σ bf A B) (nm inn cwd:ByteArray) {x : Sl} {args : List ByteArray} (hx:RowsAt σ 1 (strRows args) x) (hc:x.len <= x.cap) (hn:nm.size <= 1000) (ha:∀ a ∈ args,a.size <= 1000) (hl:args.length <= 20) {K : KH} (hK:K (.agg ⟨dnV (A.testP cwd nm args)⟩) σ) :
 callW Tryz.prog 50 [.agg ⟨[.string nm,.slice x.base x.len x.cap,.string inn,.string cwd,.pointer (some ⟨bf,0,none⟩)]⟩] K σ := by
 refine pure_i _ hK (c50 _ _ _ _ _ ?_)
 clear hK
 unfold g50
 rw [testP_def]
 have hxl := sLen hx
 refine al_i ?_;intro b6 σ1 g1 e1 n1
 refine al_i ?_;intro b7 σ2 g2 e2 n2
 have k6 := g2.get e1
 have G2 := g1.trans g2
 have f7 : σ b7 = none := none_of g1 n2
 generalize hR : (if sEq nm ⟨⟨[91]⟩⟩ then (match args.getLast? with | none => usageP nm | some z => if sEq z ⟨⟨[93]⟩⟩ then doneOf nm (A.soP cwd args.dropLast) else usageP nm) else doneOf nm (A.soP cwd args)) = R
 refine rd_Y (y := x) (rdC_of k6 (by rfl)) ?_
 refine j_i (fun j => ∀ (l:List ByteArray) (y:Sl),RowsAt σ2 1 (strRows l) y -> y.len <= y.cap -> (∀ a ∈ l,a.size <= 1000) -> l.length <= 20 -> R = doneOf nm (A.soP cwd l) -> j (some ⟨b6,0,none⟩) (some ⟨b7,0,none⟩) y σ2) ?_ ?_
 ·intro l y hy hyc hyz hyl hRl
  refine ptr_i (rd_G (rdA_of' k6 (by rfl)) ?_)
  (refine app_of rfl ?_;try dsimp only)
  refine call_i (s_so nm inn cwd x l y (hF.gr G2) hy hyc (fun a h => by have := hyz a h;omega) (by omega) ?_)
  (refine app_of rfl ?_;try dsimp only)
  rw [hRl]
  cases h2 : (A.soP cwd l).2 with
  | false =>
   refine br_t rfl (ptr_i (rd_G (rdA_of' k6 (by rfl)) ?_))
   (refine app_of rfl ?_;try dsimp only)
   refine call_i (s_usage nm inn cwd x _ (by omega) ?_)
   unfold dnV
   (refine app_of rfl ?_;try dsimp only)
   refine st_i2 e2 sz_Done (by rfl) (by rfl) ?_;intro σ3 p3
   refine ptr_i (rd_G (rdA_of' p3.same (by rfl)) ?_)
   (refine app_of rfl ?_;try dsimp only)
   exact ⟨by unfold doneOf;rw [h2];rfl,G2.putF p3 f7⟩
  | true =>
   refine br_f rfl ?_
   cases h1 : (A.soP cwd l).1 with
   | true =>
    refine br_t rfl (ptr_i (rd_G (rdA_of' k6 (by rfl)) ?_))
    (refine app_of rfl ?_;try dsimp only)
    refine call_i (s_yes nm inn cwd x _ ?_)
    unfold dnV
    (refine app_of rfl ?_;try dsimp only)
    refine st_i2 e2 sz_Done (by rfl) (by rfl) ?_;intro σ3 p3
    refine ptr_i (rd_G (rdA_of' p3.same (by rfl)) ?_)
    (refine app_of rfl ?_;try dsimp only)
    exact ⟨by unfold doneOf;rw [h2,h1];rfl,G2.putF p3 f7⟩
   | false =>
    refine br_f rfl (ptr_i (rd_G (rdA_of' k6 (by rfl)) ?_))
    (refine app_of rfl ?_;try dsimp only)
    refine call_i (s_no nm inn cwd x _ ?_)
    unfold dnV
    (refine app_of rfl ?_;try dsimp only)
    refine st_i2 e2 sz_Done (by rfl) (by rfl) ?_;intro σ3 p3
    refine ptr_i (rd_G (rdA_of' p3.same (by rfl)) ?_)
    (refine app_of rfl ?_;try dsimp only)
    exact ⟨by unfold doneOf;rw [h2,h1];rfl,G2.putF p3 f7⟩
 ·intro j hj
  refine rd_S (rdC_of k6 (by rfl)) ?_
  rw [<- sEq_eq]
  cases hb : sEq nm ⟨⟨[91]⟩⟩ with
  | false =>
   rw [hb,if_neg (by simp)] at hR
   exact br_f rfl (hj args x (hx.gr G2) hc ha hl hR.symm)
  | true =>
   rw [hb,if_pos rfl] at hR
   refine br_t rfl ?_
   refine j_i (fun j => ∀ cb : Bool,(cb = true -> R = usageP nm) -> (cb = false -> 1 <= args.length /\ R = doneOf nm (A.soP cwd args.dropLast)) -> j (some ⟨b6,0,none⟩) (some ⟨b7,0,none⟩) x cb σ2) ?_ ?_
   ·intro cb hu hd
    cases cb with
    | true =>
     refine br_t rfl (ptr_i (rd_G (rdA_of' k6 (by rfl)) ?_))
     (refine app_of rfl ?_;try dsimp only)
     refine call_i (s_usage nm inn cwd x _ (by omega) ?_)
     unfold dnV
     (refine app_of rfl ?_;try dsimp only)
     refine st_i2 e2 sz_Done (by rfl) (by rfl) ?_;intro σ3 p3
     refine ptr_i (rd_G (rdA_of' p3.same (by rfl)) ?_)
     (refine app_of rfl ?_;try dsimp only)
     exact ⟨by rw [hu rfl],G2.putF p3 f7⟩
    | false =>
     obtain ⟨h1,h2⟩ := hd rfl
     refine br_f rfl ?_
     rw [wrap_id (by omega) (by omega),show (((x.len:Nat) : Int) - 1).toNat = x.len - 1 by omega]
     refine if_i ⟨bnd_some (by omega) (by omega),bnd_none⟩ ?_
     exact hj args.dropLast ⟨slBase x.base 0 x.cap 1,x.len - 1 - 0,x.cap - 0⟩ (sInit (hx.gr G2) hc) (by show x.len - 1 - 0 <= x.cap - 0;omega) (fun a h => ha a (List.dropLast_subset _ h)) (by rw [List.length_dropLast];omega) h2
   ·intro j hj
    cases hlast : args.getLast? with
    | none =>
     rw [hlast] at hR
     have : args = [] := List.getLast?_eq_none_iff.1 hlast
     subst this
     exact br_t (by rw [hxl];rfl) (hj true (fun _ => hR.symm) (fun h => by cases h))
    | some z =>
     rw [hlast] at hR
     have hne : args ≠ [] := by intro e;rw [e] at hlast;cases hlast
     have hpos := List.length_pos_iff.2 hne
     have hz : args[args.length - 1]? = some z := by rw [<- List.getLast?_eq_getElem?];exact hlast
     obtain ⟨g,o,a1,a2,a3⟩ := sRow (hx.gr G2) hz
     refine br_f (by simp only [beq_eq_false_iff_ne];omega) ?_
     rw [a1,wrap_id (by omega) (by omega)]
     refine ptr_i (if_i ⟨by omega,by omega⟩ (rd_S (by rw [show (((x.len:Nat) : Int) - 1).toNat = args.length - 1 by omega];exact a3) ?_))
     rw [<- sEq_eq]
     cases hzz : sEq z ⟨⟨[93]⟩⟩ with
     | true =>
      simp only [hzz,if_true] at hR
      exact hj false (fun h => by cases h) (fun _ => ⟨hpos,hR.symm⟩)
     | false =>
      simp only [hzz] at hR
      exact hj true (fun _ => hR.symm) (fun h => by cases h)
theorem s_echo (nm inn cwd:ByteArray) (p:Option Addr) {x : Sl} {args : List ByteArray} (hx:RowsAt σ 1 (strRows args) x) (hc:x.len <= x.cap) (ha:∀ a ∈ args,a.size <= 1000) (hl:args.length <= 20) {K : KH} (hK:K (.agg ⟨dnV (echoP args)⟩) σ) :
 callW Tryz.prog 48 [.agg ⟨[.string nm,.slice x.base x.len x.cap,.string inn,.string cwd,.pointer p]⟩] K σ := by
 refine pure_i _ hK (c48 _ _ _ _ _ ?_)
 clear hK
 unfold g48
 have hxl := sLen hx
 refine al_i ?_;intro b6 σ1 g1 e1 n1
 refine al_i ?_;intro b7 σ2 g2 e2 n2
 have G2 := g1.trans g2
 refine rd_Y (y := x) (rdC_of (g2.get e1) (by rfl)) ?_
 have hsum : ∀ l : List ByteArray,(∀ a ∈ l,a.size <= 1000) -> sumS l <= 1000 * l.length := by
  intro l
  induction l with
  | nil => intro _;exact Nat.le_refl _
  | cons a r ih => intro h;rw [sumS_cons,List.length_cons];have := h a (List.mem_cons_self ..);have := ih fun b hb => h b (List.mem_cons_of_mem _ hb);omega
 refine j_i (fun j => ∀ (l:List ByteArray) (y:Sl) (e:ByteArray),RowsAt σ2 1 (strRows l) y -> y.len <= y.cap -> (∀ a ∈ l,a.size <= 1000) -> l.length <= 20 -> e.size <= 1 -> echoP args = ⟨joinP ⟨⟨[32]⟩⟩ l ++ e,⟨⟨[]⟩⟩,0⟩ -> j (some ⟨b7,0,none⟩) y e σ2) ?_ ?_
 ·intro l y e hy hyc hyz hyl he hE
  have hs := hsum l hyz
  refine call_i (s_Join hy hyc ⟨⟨[32]⟩⟩ (by decide) (by omega) (by omega) ?_)
  intro σ3 g3
  rw [<- joinP_B]
  refine app_S (if_i ?_ ?_)
  ·rw [joinP_B]
   show ((joinB _ _:List UInt8)).length + _ <= _
   have hjb : ∀ l : List ByteArray,(joinB [32] (l.map fun s => s.data.toList)).length <= l.length + sumS l := by
    intro l
    cases l with
    | nil => exact Nat.le_refl _
    | cons a r =>
     rw [List.map_cons,joinB_cons,List.flatMap_map,List.length_append,sumS_cons,List.length_cons]
     have := flat_le [32] (by decide) r
     rw [<- size_list];omega
   have := hjb l
   show (joinB [32] (l.map fun s => s.data.toList)).length + e.size <= _
   omega
  ·refine st_i2 (g3.get e2) sz_Done (by rfl) (by rfl) ?_;intro σ4 p4
   refine ptr_i (rd_G (rdA_of' p4.same (by rfl)) ?_)
   (refine app_of rfl ?_;try dsimp only)
   exact ⟨by rw [hE];rfl,(G2.trans g3).putF p4 (none_of g1 n2)⟩
 ·intro j hj
  refine j_d ?_
  cases args with
  | nil => exact br_f (by rw [hxl];rfl) (br_f rfl (hj [] x ⟨⟨[10]⟩⟩ (hx.gr G2) hc (fun a h => by cases h) (by decide) (by decide) rfl))
  | cons a r =>
   obtain ⟨g,o,a1,a2,a3⟩ := sRow (hx.gr G2) (i := 0) (s := a) rfl
   have hE : echoP (a :: r) = if sEq a ⟨⟨[45,110]⟩⟩ then ⟨joinP ⟨⟨[32]⟩⟩ r,⟨⟨[]⟩⟩,0⟩ else ⟨joinP ⟨⟨[32]⟩⟩ (a :: r) ++ ⟨⟨[10]⟩⟩,⟨⟨[]⟩⟩,0⟩ := rfl
   refine br_t (by rw [decide_eq_true_eq];omega) ?_
   rw [a1]
   refine ptr_i (if_i ⟨by decide,by omega⟩ (rd_S a3 ?_))
   rw [<- sEq_eq]
   cases hn : sEq a ⟨⟨[45,110]⟩⟩ with
   | true =>
    rw [hn,if_pos rfl] at hE
    refine br_t rfl (if_i ⟨bnd_none,bnd_some (by decide) (by omega)⟩ ?_)
    refine hj r ⟨slBase x.base 1 x.cap 1,x.len - 1,x.cap - 1⟩ ⟨⟨[]⟩⟩ (sTail (hx.gr G2) hc) (by show x.len - 1 <= x.cap - 1;omega) (fun b h => ha b (List.mem_cons_of_mem _ h)) (by simp only [List.length_cons] at hl;omega) (by decide) ?_
    rw [hE,app_nil]
   | false =>
    rw [hn,if_neg (by simp)] at hE
    exact br_f rfl (hj (a :: r) x ⟨⟨[10]⟩⟩ (hx.gr G2) hc ha hl (by decide) hE)
end
section
variable {σ : H} {bf : Nat} {A : AT} {B : Nat -> Prop}
theorem bareL_len (l:List UInt8) : (bareL l).length <= l.length := by
 unfold bareL
 rw [List.length_reverse]
 have := (List.dropWhile_sublist (· == 47) (l := l.reverse)).length_le
 rw [List.length_reverse] at this;exact this
theorem trimEnd_len (l e:List UInt8) : (trimEnd l e).length <= l.length := by
 unfold trimEnd
 split
 ·rw [List.length_take];omega
 ·exact Nat.le_refl _
theorem wrL (c:UInt8) (l:List UInt8) (h:l.length <= 1000000000) : IntKind.i64.wrap ((((lastN c l:Nat) : Int) - 1) + 1) = ((lastN c l:Nat) : Int) := by
 have := lastN_le c l
 rw [wrap_id (by omega) (by omega)];omega
def tailB (bh:List UInt8) : Option ByteArray -> List UInt8
 | none => bh
 | some x => if bh == x.data.toList then bh else trimEnd bh x.data.toList
def difB (bh:List UInt8) : Option ByteArray -> Bool
 | none => false
 | some x => !(bh == x.data.toList)
def baseGo (l:List UInt8) (e:Option ByteArray) : Dn :=
 if (bareL l).isEmpty && !l.isEmpty then ⟨⟨⟨[47,10]⟩⟩,⟨⟨[]⟩⟩,0⟩
 else ⟨⟨⟨tailB (behind (bareL l)) e⟩⟩ ++ ⟨⟨[10]⟩⟩,⟨⟨[]⟩⟩,0⟩
theorem sEq_nil' (a:ByteArray) : sEq a ⟨⟨[]⟩⟩ = a.data.toList.isEmpty := by
 unfold sEq
 cases a.data.toList <;> rfl
theorem base1 (nm a:ByteArray) : basenameP nm [a] = baseGo a.data.toList none := by
 unfold basenameP baseGo tailB
 simp only [sEq_nil']
theorem base2 (nm a e:ByteArray) : basenameP nm [a,e] = baseGo a.data.toList (some e) := by
 unfold basenameP baseGo tailB
 simp only [sEq_nil']
theorem s_base (nm inn cwd:ByteArray) (p:Option Addr) {x : Sl} {args : List ByteArray} (hx:RowsAt σ 1 (strRows args) x) (hn:nm.size <= 1000) (ha:∀ a ∈ args,a.size <= 1000) {K : KH} (hK:K (.agg ⟨dnV (basenameP nm args)⟩) σ) :
 callW Tryz.prog 51 [.agg ⟨[.string nm,.slice x.base x.len x.cap,.string inn,.string cwd,.pointer p]⟩] K σ := by
 refine pure_i _ hK (c51 _ _ _ _ _ ?_)
 clear hK
 unfold g51
 have hxl := sLen hx
 refine al_i ?_;intro b6 σ1 g1 e1 n1
 refine al_i ?_;intro b7 σ2 g2 e2 n2
 have k6 := g2.get e1
 have G2 := g1.trans g2
 have f7 : σ b7 = none := none_of g1 n2
 have hx2 := hx.gr G2
 refine j_i (fun j => ∀ cb : Bool,cb = (!(args.length == 1) && !(args.length == 2)) -> j (some ⟨b6,0,none⟩) (some ⟨b7,0,none⟩) cb σ2) ?_ ?_
 case refine_2 =>
  intro j hj
  refine rd_Y (y := x) (rdC_of k6 (by rfl)) ?_
  by_cases h1 : args.length = 1
  ·exact br_f (by rw [hxl,h1];rfl) (hj _ (by rw [h1];rfl))
  ·refine br_t (by rw [bne_iff_ne];omega) (rd_Y (y := x) (rdC_of k6 (by rfl)) (hj _ ?_))
   have e1 : (args.length == 1) = false := by simpa using h1
   rw [e1,hxl]
   by_cases h2 : args.length = 2
   ·rw [h2];rfl
   ·have e2 : (args.length == 2) = false := by simpa using h2
    rw [e2]
    show (((args.length:Nat) : Int) != 2) = true
    rw [bne_iff_ne];omega
 intro cb hcb
 cases cb with
 | true =>
  have hu : basenameP nm args = usageP nm := by
   match args,hcb with
   | [],_ => rfl
   | [a],h => cases h
   | [a,e],h => cases h
   | a :: b :: c :: r,_ => rfl
  refine br_t rfl (ptr_i (rd_G (rdA_of' k6 (by rfl)) ?_))
  (refine app_of rfl ?_;try dsimp only)
  refine call_i (s_usage nm inn cwd x _ (by omega) ?_)
  unfold dnV
  (refine app_of rfl ?_;try dsimp only)
  refine st_i2 e2 sz_Done (by rfl) (by rfl) ?_;intro σ3 p3
  refine ptr_i (rd_G (rdA_of' p3.same (by rfl)) ?_)
  (refine app_of rfl ?_;try dsimp only)
  exact ⟨by rw [hu],G2.putF p3 f7⟩
 | false =>
  obtain ⟨a,r,rfl⟩ : ∃ a r,args = a :: r := by
   cases args with
   | nil => cases hcb
   | cons a r => exact ⟨a,r,rfl⟩
  have haz := ha a (List.mem_cons_self ..)
  obtain ⟨g,o,a1,a2,a3⟩ := sRow hx2 (i := 0) (s := a) rfl
  obtain ⟨e,he,hre⟩ : ∃ e : Option ByteArray,basenameP nm (a :: r) = baseGo a.data.toList e /\ ((e = none /\ r = []) \/ ∃ z,e = some z /\ r = [z]) := by
   match r,hcb with
   | [],_ => exact ⟨none,base1 nm a,.inl ⟨rfl,rfl⟩⟩
   | [z],_ => exact ⟨some z,base2 nm a z,.inr ⟨z,rfl,rfl⟩⟩
   | _ :: _ :: _,h => simp at h
  rw [he]
  have hal : a.data.toList.length <= 1000 := by rw [<- size_list];exact haz
  have hbl := bareL_len a.data.toList
  refine br_f rfl (ptr_i (rd_Y (y := x) (rdC_of k6 (by rfl)) ?_))
  rw [a1]
  refine ptr_i (if_i ⟨by decide,by omega⟩ (rd_S a3 ?_))
  refine call_i (s_bare a.data.toList (by omega) (app_S ?_))
  refine j_i (fun j => ∀ cb : Bool,cb = ((bareL a.data.toList).isEmpty && !a.data.toList.isEmpty) -> j (some ⟨b6,0,none⟩) (some ⟨b7,0,none⟩) ⟨⟨bareL a.data.toList⟩⟩ cb σ2) ?_ ?_
  case refine_2 =>
   intro j hj
   rw [strEq_nil]
   cases hb : (bareL a.data.toList).isEmpty with
   | false => exact br_f rfl (hj _ (by rw [hb];rfl))
   | true =>
    refine br_t rfl (ptr_i (rd_Y (y := x) (rdC_of k6 (by rfl)) ?_))
    rw [a1]
    refine ptr_i (if_i ⟨by decide,by omega⟩ (rd_S a3 ?_))
    rw [<- sEq_eq,sEq_nil']
    exact hj _ (by rw [hb];rfl)
  intro cb hcb2
  have hgo : baseGo a.data.toList e = if cb then ⟨⟨⟨[47,10]⟩⟩,⟨⟨[]⟩⟩,0⟩ else ⟨⟨⟨tailB (behind (bareL a.data.toList)) e⟩⟩ ++ ⟨⟨[10]⟩⟩,⟨⟨[]⟩⟩,0⟩ := by rw [hcb2];rfl
  rw [hgo]
  cases cb with
  | true =>
   refine br_t rfl (st_i2 e2 sz_Done (by rfl) (by rfl) ?_);intro σ3 p3
   refine ptr_i (rd_G (rdA_of' p3.same (by rfl)) ?_)
   (refine app_of rfl ?_;try dsimp only)
   exact ⟨rfl,G2.putF p3 f7⟩
  | false =>
   have hll := lastN_le 47 (bareL a.data.toList)
   refine br_f rfl (call_i (x_LastIB 47 (bareL a.data.toList) (by omega) (app_I ?_)))
   rw [wrL 47 _ (by omega),Int.toNat_natCast,ext_drop,(upto_last (bareL a.data.toList)).2]
   refine if_i ⟨bnd_none,bnd_some (by omega) (by rw [bsz];omega)⟩ ?_
   have hbh : (behind (bareL a.data.toList)).length <= 1000 := by
    rw [<- (upto_last (bareL a.data.toList)).2,List.length_drop];omega
   generalize hbe : behind (bareL a.data.toList) = bh at hbh ⊢
   refine j_i (fun j => j (some ⟨b7,0,none⟩) ⟨⟨tailB bh e⟩⟩ σ2) ?_ ?_
   ·refine if_i ?_ ?_
    ·show List.length _ + 1 <= _
     rcases hre with ⟨rfl,_⟩ | ⟨z,rfl,_⟩
     ·show bh.length + 1 <= _;omega
     ·show (if bh == z.data.toList then bh else trimEnd bh z.data.toList).length + 1 <= _
      have := trimEnd_len bh z.data.toList
      split <;> omega
    ·refine st_i2 e2 sz_Done (by rfl) (by rfl) ?_;intro σ3 p3
     refine ptr_i (rd_G (rdA_of' p3.same (by rfl)) ?_)
     (refine app_of rfl ?_;try dsimp only)
     exact ⟨rfl,G2.putF p3 f7⟩
   ·intro j hj
    refine j_i (fun j => ∀ cb : Bool,cb = difB bh e -> j (some ⟨b6,0,none⟩) (some ⟨b7,0,none⟩) ⟨⟨bh⟩⟩ cb σ2) ?_ ?_
    ·intro cb hcb3
     rcases hre with ⟨rfl,rfl⟩ | ⟨z,rfl,rfl⟩
     ·subst hcb3;exact br_f rfl hj
     ·have hcb4 : cb = !(bh == z.data.toList) := hcb3
      obtain ⟨g',o',z1,z2,z3⟩ := sRow hx2 (i := 1) (s := z) rfl
      have hzz := ha z (by simp)
      cases hq : bh == z.data.toList with
      | true =>
       rw [hq] at hcb4
       subst hcb4
       have : tailB bh (some z) = bh := by show (if bh == z.data.toList then bh else trimEnd bh z.data.toList) = bh;rw [hq];rfl
       rw [this] at hj
       exact br_f rfl hj
      | false =>
       rw [hq] at hcb4
       subst hcb4
       have : tailB bh (some z) = trimEnd bh z.data.toList := by show (if bh == z.data.toList then bh else trimEnd bh z.data.toList) = _;rw [hq];rfl
       rw [this] at hj
       refine br_t rfl (ptr_i (rd_Y (y := x) (rdC_of k6 (by rfl)) ?_))
       rw [z1]
       refine ptr_i (if_i ⟨by decide,by omega⟩ (rd_S z3 ?_))
       exact call_i (x_TrimSuf bh z.data.toList (by omega) (by rw [<- size_list];omega) (app_S hj))
    ·intro j hj
     refine ptr_i (rd_Y (y := x) (rdC_of k6 (by rfl)) ?_)
     rcases hre with ⟨rfl,rfl⟩ | ⟨z,rfl,rfl⟩
     ·exact br_f (by rw [hxl];rfl) (hj false rfl)
     ·obtain ⟨g',o',z1,z2,z3⟩ := sRow hx2 (i := 1) (s := z) rfl
      refine br_t (by rw [hxl];rfl) (ptr_i (rd_Y (y := x) (rdC_of k6 (by rfl)) ?_))
      rw [z1]
      refine ptr_i (if_i ⟨by decide,by omega⟩ (rd_S z3 ?_))
      rw [<- sEq_eq]
      exact hj _ rfl
theorem s_dirn (nm inn cwd:ByteArray) (p:Option Addr) {x : Sl} {args : List ByteArray} (hx:RowsAt σ 1 (strRows args) x) (hn:nm.size <= 1000) (ha:∀ a ∈ args,a.size <= 1000) {K : KH} (hK:K (.agg ⟨dnV (dirnameP nm args)⟩) σ) :
 callW Tryz.prog 52 [.agg ⟨[.string nm,.slice x.base x.len x.cap,.string inn,.string cwd,.pointer p]⟩] K σ := by
 refine pure_i _ hK (c52 _ _ _ _ _ ?_)
 clear hK
 unfold g52
 have hxl := sLen hx
 refine al_i ?_;intro b6 σ1 g1 e1 n1
 refine al_i ?_;intro b7 σ2 g2 e2 n2
 have k6 := g2.get e1
 have G2 := g1.trans g2
 have f7 : σ b7 = none := none_of g1 n2
 have hx2 := hx.gr G2
 refine rd_Y (y := x) (rdC_of k6 (by rfl)) ?_
 by_cases h1 : args.length = 1
 case neg =>
  have hu : dirnameP nm args = usageP nm := by
   match args,h1 with
   | [],_ => rfl
   | [a],h => exact absurd rfl h
   | a :: b :: r,_ => rfl
  refine br_t (by rw [bne_iff_ne];omega) (rd_G (rdA_of' k6 (by rfl)) ?_)
  (refine app_of rfl ?_;try dsimp only)
  refine call_i (s_usage nm inn cwd x _ (by omega) ?_)
  unfold dnV
  (refine app_of rfl ?_;try dsimp only)
  refine st_i2 e2 sz_Done (by rfl) (by rfl) ?_;intro σ3 p3
  refine rd_G (rdA_of' p3.same (by rfl)) ?_
  (refine app_of rfl ?_;try dsimp only)
  exact ⟨by rw [hu],G2.putF p3 f7⟩
 case pos =>
  obtain ⟨a,rfl⟩ := List.length_eq_one_iff.1 h1
  have haz := ha a (List.mem_cons_self ..)
  obtain ⟨g,o,a1,a2,a3⟩ := sRow hx2 (i := 0) (s := a) rfl
  have hal : a.data.toList.length <= 1000 := by rw [<- size_list];exact haz
  have hbl := bareL_len a.data.toList
  have hll := lastN_le 47 (bareL a.data.toList)
  refine br_f (by rw [hxl];rfl) (rd_Y (y := x) (rdC_of k6 (by rfl)) ?_)
  rw [a1]
  refine ptr_i (if_i ⟨by decide,by omega⟩ (rd_S a3 ?_))
  refine call_i (s_bare a.data.toList (by omega) (app_S (call_i (x_LastIB 47 (bareL a.data.toList) (by omega) (app_I ?_)))))
  rw [wrL 47 _ (by omega),Int.toNat_natCast]
  refine if_i ⟨bnd_some (by omega) (by rw [bsz];omega),bnd_none⟩ ?_
  rw [show (⟨⟨bareL a.data.toList⟩⟩ : ByteArray).extract 0 (lastN 47 (bareL a.data.toList)) = ⟨⟨upto (bareL a.data.toList)⟩⟩ from by rw [bex,List.drop_zero,(upto_last _).1]]
  have hup : (upto (bareL a.data.toList)).length <= 1000 := by rw [<- (upto_last (bareL a.data.toList)).1,List.length_take];omega
  refine call_i (s_bare (upto (bareL a.data.toList)) (by omega) (app_S ?_))
  have hb2 := bareL_len (upto (bareL a.data.toList))
  have hd : dirnameP nm [a] = ⟨(if !(bareL (upto (bareL a.data.toList))).isEmpty then ⟨⟨bareL (upto (bareL a.data.toList))⟩⟩ else if headIs 47 a then ⟨⟨[47]⟩⟩ else ⟨⟨[46]⟩⟩) ++ ⟨⟨[10]⟩⟩,⟨⟨[]⟩⟩,0⟩ := rfl
  rw [hd]
  generalize bareL (upto (bareL a.data.toList)) = u at hb2 ⊢
  refine j_i (fun j => ∀ s : ByteArray,s.size <= 1000 -> s = (if !u.isEmpty then ⟨⟨u⟩⟩ else if headIs 47 a then ⟨⟨[47]⟩⟩ else ⟨⟨[46]⟩⟩) -> j (some ⟨b7,0,none⟩) s σ2) ?_ ?_
  ·intro s hs1 hs2
   rw [<- hs2]
   refine if_i (by show s.size + 1 <= _;omega) ?_
   refine st_i2 e2 sz_Done (by rfl) (by rfl) ?_;intro σ3 p3
   refine ptr_i (rd_G (rdA_of' p3.same (by rfl)) ?_)
   (refine app_of rfl ?_;try dsimp only)
   exact ⟨rfl,G2.putF p3 f7⟩
  ·intro j hj
   rw [strEq_nil]
   cases hu : u.isEmpty with
   | false => exact br_t rfl (hj _ (by rw [bsz];omega) (by rw [hu];rfl))
   | true =>
    refine br_f rfl (rd_Y (y := x) (rdC_of k6 (by rfl)) ?_)
    rw [a1]
    refine ptr_i (if_i ⟨by decide,by omega⟩ (rd_S a3 ?_))
    refine call_i (x_HasPrefix a ⟨⟨[47]⟩⟩ (app_B ?_))
    rw [show List.isPrefixOf (⟨⟨[47]⟩⟩ : ByteArray).data.toList a.data.toList = headIs 47 a from prefix_head a 47]
    cases hh : headIs 47 a with
    | true => exact br_t rfl (hj _ (by decide) (by rw [hu,hh];rfl))
    | false => exact br_f rfl (hj _ (by decide) (by rw [hu,hh];rfl))
theorem und_MSFD : Tryz.prog.underlying 89 = some (.map 9 84) := by kernel_rfl
def runLst : List (ByteArray × Value) := [(⟨⟨[116,114,117,101]⟩⟩,.func (.func 46) ⟨[]⟩ ⟨[]⟩),(⟨⟨[102,97,108,115,101]⟩⟩,.func (.func 47) ⟨[]⟩ ⟨[]⟩),(⟨⟨[101,99,104,111]⟩⟩,.func (.func 48) ⟨[]⟩ ⟨[]⟩),(⟨⟨[112,114,105,110,116,102]⟩⟩,.func (.func 49) ⟨[]⟩ ⟨[]⟩),(⟨⟨[116,101,115,116]⟩⟩,.func (.func 50) ⟨[]⟩ ⟨[]⟩),(⟨⟨[91]⟩⟩,.func (.func 50) ⟨[]⟩ ⟨[]⟩),(⟨⟨[98,97,115,101,110,97,109,101]⟩⟩,.func (.func 51) ⟨[]⟩ ⟨[]⟩),(⟨⟨[100,105,114,110,97,109,101]⟩⟩,.func (.func 52) ⟨[]⟩ ⟨[]⟩)]
theorem s_Run (hF:FsAt σ bf A B) (nm inn cwd:ByteArray) {x : Sl} {args : List ByteArray} (hx:RowsAt σ 1 (strRows args) x) (hc:x.len <= x.cap) (hT:Tabs σ) (hn:nm.size <= 1000) (ha:∀ a ∈ args,a.size <= 1000) (hl:args.length <= 20) {K : KH} (hK:K (.tuple ⟨[.agg ⟨dnV (A.runP cwd nm args).1⟩,.bool (A.runP cwd nm args).2]⟩) σ) :
 callW Tryz.prog 17 [.pointer (some ⟨bf,0,none⟩),.agg ⟨[.string nm,.slice x.base x.len x.cap,.string inn,.string cwd]⟩] K σ := by
 refine pure_i _ hK (c17 _ _ _ _ _ ?_)
 clear hK
 unfold g17
 refine al_i ?_;intro b6 σ1 g1 e1 n1
 refine al_i ?_;intro b7 σ2 g2 e2 n2
 refine mul_i und_MSFD und_strM runLst (by decide +kernel) ?_
 intro bm σ3 g3 n3 hm
 have G3 : Gr σ σ3 := (g1.trans g2).trans g3
 have k6 := g3.get (g2.get e1)
 have k7 := g3.get e2
 have f7 : σ b7 = none := none_of g1 n2
 have hx3 := hx.gr G3
 have hT3 := hT.gr G3
 have hF3 := hF.gr G3
 refine rd_S (rdC_of k6 (by rfl)) (rd_G (mul_rd hm .nilFunc nm) (app_RBm ?_))
 have go : ∀ (f:FuncId) (d:Dn),isGo Tryz.prog f = true -> (∀ {K' : KH},(∀ τ,Gr σ3 τ -> K' (.agg ⟨dnV d⟩) τ) -> callW Tryz.prog f [.agg ⟨[.string nm,.slice x.base x.len x.cap,.string inn,.string cwd,.pointer (some ⟨bf,0,none⟩)]⟩] K' σ3) -> brW (!true) (stW Tryz.prog 35 (.pointer (some ⟨b7,0,none⟩)) (.agg ⟨[.string (⟨⟨[]⟩⟩ : ByteArray),.string (⟨⟨[]⟩⟩ : ByteArray),.int .i64 0]⟩) (rdT (rdA 3 b7 0) (.one (.agg [.str,.str,(.int .i64)])) (fun (r12:ByteArray) (r13:ByteArray) (r14:Int) =>
  (fun u σ' => u = Value.tuple ⟨[.agg ⟨dnV d⟩,.bool true]⟩ /\ Gr σ σ') (.tuple ⟨[.agg ⟨[.string r12,.string r13,.int .i64 r14]⟩,.bool false]⟩)))) (rdT (rdA 4 b6 0) (.one (.agg [.str,.slc,.str,.str])) (fun (x15:ByteArray) (x16:Sl) (x17:ByteArray) (x18:ByteArray) =>
   cvalT Tryz.prog (.func (.func f) ⟨[]⟩ ⟨[]⟩) [.agg ⟨[.string x15,.slice x16.base x16.len x16.cap,.string x17,.string x18,.pointer (some ⟨bf,0,none⟩)]⟩] (.one (.agg [.str,.str,(.int .i64)])) (fun (x19:ByteArray) (x20:ByteArray) (x21:Int) =>
    stW Tryz.prog 35 (.pointer (some ⟨b7,0,none⟩)) (.agg ⟨[.string x19,.string x20,.int .i64 x21]⟩) (rdT (rdA 3 b7 0) (.one (.agg [.str,.str,(.int .i64)])) (fun (r22:ByteArray) (r23:ByteArray) (r24:Int) =>
     (fun u σ' => u = Value.tuple ⟨[.agg ⟨dnV d⟩,.bool true]⟩ /\ Gr σ σ') (.tuple ⟨[.agg ⟨[.string r22,.string r23,.int .i64 r24]⟩,.bool true]⟩)))))) σ3 := by
  intro f d hgo hcall
  refine br_f rfl (rd_G (rdA_of' k6 (by rfl)) ?_)
  (refine app_of rfl ?_;try dsimp only)
  refine cval_i hgo (hcall ?_)
  intro τ g4
  unfold dnV
  (refine app_of rfl ?_;try dsimp only)
  refine st_i2 (g4.get k7) sz_Done (by rfl) (by rfl) ?_;intro τ2 p2
  refine rd_G (rdA_of' p2.same (by rfl)) ?_
  (refine app_of rfl ?_;try dsimp only)
  exact ⟨rfl,(G3.trans g4).putF p2 f7⟩
 unfold runLst AT.runP
 simp only [lkS]
 cases sEq nm ⟨⟨[116,114,117,101]⟩⟩ with
 | true => exact go 46 yesP (by kernel_rfl) (fun h => s_yes nm inn cwd x _ (h σ3 (Gr.refl _)))
 | false =>
 cases sEq nm ⟨⟨[102,97,108,115,101]⟩⟩ with
 | true => exact go 47 noP (by kernel_rfl) (fun h => s_no nm inn cwd x _ (h σ3 (Gr.refl _)))
 | false =>
 cases sEq nm ⟨⟨[101,99,104,111]⟩⟩ with
 | true => exact go 48 (echoP args) (by kernel_rfl) (fun h => s_echo nm inn cwd _ hx3 hc ha hl (h σ3 (Gr.refl _)))
 | false =>
 cases sEq nm ⟨⟨[112,114,105,110,116,102]⟩⟩ with
 | true => exact go 49 (printfP nm args) (by kernel_rfl) (fun h => s_printf nm inn cwd _ hx3 hc hT3 hn ha hl h)
 | false =>
 cases sEq nm ⟨⟨[116,101,115,116]⟩⟩ with
 | true => exact go 50 (A.testP cwd nm args) (by kernel_rfl) (fun h => s_test hF3 nm inn cwd hx3 hc hn ha hl (h σ3 (Gr.refl _)))
 | false =>
 cases sEq nm ⟨⟨[91]⟩⟩ with
 | true => exact go 50 (A.testP cwd nm args) (by kernel_rfl) (fun h => s_test hF3 nm inn cwd hx3 hc hn ha hl (h σ3 (Gr.refl _)))
 | false =>
 cases sEq nm ⟨⟨[98,97,115,101,110,97,109,101]⟩⟩ with
 | true => exact go 51 (basenameP nm args) (by kernel_rfl) (fun h => s_base nm inn cwd _ hx3 hn ha (h σ3 (Gr.refl _)))
 | false =>
 cases sEq nm ⟨⟨[100,105,114,110,97,109,101]⟩⟩ with
 | true => exact go 52 (dirnameP nm args) (by kernel_rfl) (fun h => s_dirn nm inn cwd _ hx3 hn ha (h σ3 (Gr.refl _)))
 | false =>
  refine br_t rfl (st_i2 k7 sz_Done (by rfl) (by rfl) ?_);intro τ2 p2
  refine rd_G (rdA_of' p2.same (by rfl)) ?_
  (refine app_of rfl ?_;try dsimp only)
  exact ⟨rfl,G3.putF p2 f7⟩
end
end Go.Proofs.YthclifcpjnhmjaaGreatDoor

set_option maxRecDepth 100000
namespace Go.Wk
open Go Go.HL
theorem fmtL_fuelG {b : Nat} (hb:2 <= b) : ∀ (f g n:Nat),n < b ^ f -> 0 < f -> f <= g -> fmtL b g n [] = fmtL b f n [] := by
 intro f
 induction f with
 | zero => intro g n _ h;cases h
 | succ f ih =>
  intro g n hn _ hg
  cases g with
  | zero => omega
  | succ g =>
   by_cases h : n < b
   ·rw [fmtL,fmtL,if_pos h,if_pos h]
   ·rw [fmtL_step h,fmtL_step h]
    have hf : 0 < f := by
     rcases Nat.eq_zero_or_pos f with e | e
     ·subst e;simp at hn;omega
     ·exact e
    rw [ih g (n / b) (by rw [Nat.pow_succ] at hn;exact Nat.div_lt_of_lt_mul (by rw [Nat.mul_comm];exact hn)) hf (by omega)]
theorem fmtL_rec {b n : Nat} (hb:b = 10 \/ b = 16) (hn:n < 1000000000000000) : fmtL b 64 n [] = if n < b then [digitL n] else fmtL b 64 (n / b) [] ++ [digitL (n % b)] := by
 have h2 : 2 <= b := by omega
 by_cases h : n < b
 ·rw [fmtL,if_pos h,if_pos h]
 ·rw [if_neg h,fmtL_step h]
  congr 1
  refine (fmtL_fuelG h2 63 64 (n / b) ?_ (by decide) (by decide)).symm
  have h3 : n / b < 1000000000000000 := Nat.lt_of_le_of_lt (Nat.div_le_self _ _) hn
  rcases hb with rfl | rfl
  ·exact Nat.lt_trans h3 (by decide)
  ·exact Nat.lt_trans h3 (by decide)
theorem fmtP_neg (b:Nat) {n : Int} (h:n < 0) : fmtP b n = ⟨⟨[45]⟩⟩ ++ fmtP b (-n) := by
 refine bytes_ext ?_
 rw [app_data]
 unfold fmtP
 rw [if_pos h,if_neg (by omega),show (-n).natAbs = n.natAbs from Int.natAbs_neg n];rfl
theorem fmtP_dig {b : Nat} (hb:b = 10 \/ b = 16) {n : Int} (h0:0 <= n) (h:n < (b:Int)) : fmtP b n = ⟨⟨[digitL n.toNat]⟩⟩ := by
 unfold fmtP
 rw [if_neg (by omega),fmtL_rec hb (by omega),if_pos (by omega),show n.natAbs = n.toNat by omega]
theorem fmtP_step {b : Nat} (hb:b = 10 \/ b = 16) {n : Int} (h0:0 <= n) (h:¬ n < (b:Int)) (hn:n < 1000000000000000) : fmtP b n = fmtP b (n / (b:Int)) ++ ⟨⟨[digitL (n % (b:Int)).toNat]⟩⟩ := by
 refine bytes_ext ?_
 rw [app_data]
 unfold fmtP
 have e1 : (n / (b:Int)).natAbs = n.natAbs / b := by rcases hb with rfl | rfl <;> omega
 have e2 : (n % (b:Int)).toNat = n.natAbs % b := by rcases hb with rfl | rfl <;> omega
 rw [if_neg (by omega),if_neg (by rcases hb with rfl | rfl <;> omega),fmtL_rec hb (by omega),if_neg (by omega),e1,e2]
def codeP (x:Bool × Bool) : Int := if x.2 = true then (if x.1 = true then 1 else 0) else 2
def PcK (p:Pc) : Prop := (p.kind = 0 /\ p.width = 0) \/ (consP p = true /\ p.text = ⟨⟨[]⟩⟩)
theorem argP_k {l : List UInt8} {p : Pc} {r : List UInt8} (h:argP l = some (p,r)) : PcK p := by
 have key : ∀ b m,argT b (digsP m) = some (p,r) -> PcK p := by
  intro b m h
  unfold argT at h
  split at h
  ·cases h
  ·rename_i c r' hc
   split at h
   ·cases h
   ·rename_i hk
    cases h
    simp only [Bool.or_eq_true,Bool.not_eq_true',not_or,Bool.not_eq_false] at hk
    exact .inr ⟨hk.1,rfl⟩
 unfold argP at h
 split at h
 ·exact key _ _ h
 ·exact key _ _ h
theorem pieces_k : ∀ (f:Nat) (l:List UInt8) (ps:List Pc),piecesP f l = some ps -> ∀ p ∈ ps,PcK p := by
 intro f
 induction f with
 | zero =>
  intro l ps h
  cases l with
  | nil => cases h;simp
  | cons => cases h
 | succ f ih =>
  intro l ps h
  cases l with
  | nil => cases h;simp
  | cons c r =>
   have go : ∀ (p:Pc) (o:Option (List Pc)),PcK p -> (∀ qs,o = some qs -> ∀ q ∈ qs,PcK q) -> o.map (p :: ·) = some ps -> ∀ p ∈ ps,PcK p := by
    intro p o hp ho he
    cases o with
    | none => cases he
    | some qs =>
     cases he
     intro q hq
     rcases List.mem_cons.1 hq with e | e
     ·rw [e];exact hp
     ·exact ho qs rfl q e
   have lit : ∀ s,PcK (litP s) := fun s => .inl ⟨rfl,rfl⟩
   unfold piecesP at h
   split at h
   ·split at h
    ·cases h
    ·exact go _ _ (lit _) (fun qs hq => ih _ qs hq) h
   ·split at h
    ·split at h
     ·exact go _ _ (lit _) (fun qs hq => ih _ qs hq) h
     ·split at h
      ·cases h
      ·rename_i ha
       exact go _ _ (argP_k ha) (fun qs hq => ih _ qs hq) h
    ·exact go _ _ (lit _) (fun qs hq => ih _ qs hq) h
def PS.said (s:PS) (p:Pc) : ByteArray := if p.kind == 115 then s.a0 else if p.kind == 100 then fmtP 10 ((wholeP s.a0).getD 0) else if p.kind == 120 then fmtP 16 ((wholeP s.a0).getD 0) else s.a0.extract 0 (min s.a0.size 1)
def PS.took1 (nm:ByteArray) (s:PS) (p:Pc) : PS := if p.kind == 100 || p.kind == 120 then s.num nm else s.next
theorem piece_cons (nm:ByteArray) (s:PS) {p : Pc} (h:consP p = true) : PS.piece nm s p = (s.took1 nm p).put p (s.said p) := by
 unfold PS.piece PS.took1 PS.said
 unfold consP at h
 cases h1 : p.kind == 115 with
 | true =>
  have : p.kind = 115 := by simpa using h1
  rw [this];rfl
 | false =>
 cases h2 : p.kind == 100 with
 | true => rfl
 | false =>
 cases h3 : p.kind == 120 with
 | true => rfl
 | false =>
 cases h4 : p.kind == 99 with
 | true => rfl
 | false => rw [h1,h2,h3,h4] at h;cases h
theorem piece_text (nm:ByteArray) (s:PS) {p : Pc} (h:p.kind = 0 /\ p.width = 0) : PS.piece nm s p = { s with out := s.out ++ p.text } := by
 unfold PS.piece
 rw [h.1]
 exact put0 _ _ _ h.2
theorem spaces_succ (n:Nat) : spaces (n + 1) = ⟨⟨[32]⟩⟩ ++ spaces n /\ spaces (n + 1) = spaces n ++ ⟨⟨[32]⟩⟩ := by
 constructor
 ·refine bytes_ext ?_
  rw [app_data];rfl
 ·refine bytes_ext ?_
  rw [app_data]
  show List.replicate (n + 1) 32 = List.replicate n 32 ++ [32]
  rw [List.replicate_succ']
end Go.Wk

set_option maxRecDepth 100000
namespace Go.Proofs.YthclifcpjnhmjaaGreatDoor
open Go Go.HL Go.Wk
attribute [local irreducible] ptrW ifW brW andW rdT alW letJ stW muW biW vaW imW callT cvalT app callW invW callVW sizeT oW nilF oneK loopW rfW funW begW roundK exW idxW Gr Put
section
variable {σ : H}
theorem r_usage (nm inn cwd:ByteArray) (x:Sl) (hn:nm.size <= 1000000000) {K : KH} (hK:K (.agg ⟨dnV (usageP nm)⟩) σ) : callW Tryz.prog 103 [.agg ⟨[.string nm,.slice x.base x.len x.cap,.string inn,.string cwd]⟩] K σ := by
 refine pure_i _ hK (c103 _ _ _ _ ?_)
 clear hK
 unfold g103
 refine al_i ?_;intro b6 σ1 g1 e1 n1
 refine al_i ?_;intro b7 σ2 g2 e2 n2
 refine rd_S (rdC_of (g2.get e1) (by rfl)) (if_i (by show nm.size + 8 <= _;omega) ?_)
 refine st_i2 e2 sz_Done (by rfl) (by rfl) ?_;intro σ3 p3
 refine rd_G (rdA_of' p3.same (by rfl)) ?_
 (refine app_of rfl ?_;try dsimp only)
 exact ⟨rfl,(g1.trans g2).putF p3 (none_of g1 n2)⟩
theorem dig_dec (c:UInt8) : (decide (((c.toNat:Nat) : Int) < 48) || decide (((c.toNat:Nat) : Int) > 57)) = !dig c := by
 unfold dig
 rw [Bool.eq_iff_iff];simp only [Bool.or_eq_true,decide_eq_true_eq,Bool.not_eq_true',Bool.and_eq_false_iff]
 have e1 : Nat.ble 48 c.toNat = false ↔ ¬ 48 <= c.toNat := by rw [<- Nat.ble_eq,Bool.not_eq_true]
 have e2 : Nat.ble c.toNat 57 = false ↔ ¬ c.toNat <= 57 := by rw [<- Nat.ble_eq,Bool.not_eq_true]
 rw [e1,e2];omega
theorem r_whole (l:List UInt8) (hl:l.length <= 1000000000) {K : KH} (hK:K (.tuple ⟨[.int .i64 ((wholeP ⟨⟨l⟩⟩).getD 0),.bool (wholeP ⟨⟨l⟩⟩).isSome]⟩) σ) : callW Tryz.prog 105 [.string ⟨⟨l⟩⟩] K σ := by
 refine c105 _ ?_
 unfold g105
 rw [wholeP_def] at hK
 refine j_i (fun j => j ⟨⟨l⟩⟩ ⟨⟨unsign l⟩⟩ σ) ?_ ?_
 case refine_2 =>
  intro j2 hj2
  refine j_i (fun j => j ⟨⟨l⟩⟩ ⟨⟨l⟩⟩ (headIs 45 ⟨⟨l⟩⟩) σ) ?_ ?_
  ·cases l with
   | nil => exact br_f rfl hj2
   | cons c r =>
    have hu : unsign (c :: r) = if (c == 45) = true then r else c :: r := rfl
    rw [show headIs 45 ⟨⟨c :: r⟩⟩ = (c == 45) from rfl]
    cases hc : c == 45 with
    | true =>
     rw [hu,hc,if_pos rfl] at hj2
     refine br_t rfl (if_i ⟨bnd_none,bnd_some (by decide) (by show (1:Int) <= ((r.length + 1 : Nat) : Int);omega)⟩ ?_)
     rw [show ((1:Int).toNat) = 1 from rfl,ext_hd]
     exact hj2
    | false =>
     rw [hu,hc,if_neg (by simp)] at hj2
     exact br_f rfl hj2
  ·intro j hj
   cases l with
   | nil => exact br_f (by decide) hj
   | cons c r =>
    have hs : (⟨⟨c :: r⟩⟩ : ByteArray).size = r.length + 1 := rfl
    refine br_t (by rw [hs,decide_eq_true_eq];omega) (idx_l (c := c) (by omega) (by rfl) ?_)
    rw [show ((((c.toNat:Nat) : Int) : Int) == 45) = (c == 45) from u8e c 45]
    exact hj
 have hdl : (unsign l).length <= l.length := by
  cases l with
  | nil => exact Nat.le_refl _
  | cons c r =>
   show (if (c == 45) = true then r else c :: r).length <= _
   split <;> simp
 have hlt : headIs 45 ⟨⟨l⟩⟩ = true ↔ (unsign l).length < l.length := by
  cases l with
  | nil => exact ⟨fun h => (by cases h),fun h => (by cases h)⟩
  | cons c r =>
   have hu : unsign (c :: r) = if (c == 45) = true then r else c :: r := rfl
   rw [show headIs 45 ⟨⟨c :: r⟩⟩ = (c == 45) from rfl,hu]
   cases c == 45 <;> simp
 generalize unsign l = d at *
 refine j_i (fun j => ∀ b : Bool,b = (d.isEmpty || decide (d.length > 15)) -> j ⟨⟨l⟩⟩ ⟨⟨d⟩⟩ b σ) ?_ ?_
 case refine_2 =>
  intro j hj
  rw [bsz]
  cases hd : d.isEmpty with
  | true => exact br_t (by rw [List.isEmpty_iff.1 hd];rfl) (hj _ (by rw [hd];rfl))
  | false =>
   have : d ≠ [] := by intro e;rw [e] at hd;cases hd
   have := List.length_pos_iff.2 this
   refine br_f (by rw [decide_eq_false_iff_not];omega) (hj _ ?_)
   rw [hd,Bool.false_or]
   by_cases h : d.length > 15
   ·rw [decide_eq_true h,decide_eq_true_eq];omega
   ·rw [decide_eq_false h,decide_eq_false_iff_not];omega
 intro b hb
 cases b with
 | true =>
  have : (d.isEmpty || (decide (d.length > 15) || !d.all dig)) = true := by
   rw [<- Bool.or_assoc,<- hb];rfl
  rw [if_pos this] at hK
  exact br_t rfl hK
 | false =>
  have hb' := hb.symm
  rw [Bool.or_eq_false_iff,decide_eq_false_iff_not] at hb'
  obtain ⟨h1,h2⟩ := hb'
  refine br_f rfl (loop_i ?_)
  intro R hR
  have key : ∀ (k i:Nat),k + i = d.length -> (d.take i).all dig = true -> R ⟨⟨l⟩⟩ ⟨⟨d⟩⟩ ((numL (d.take i) 0 : Nat) : Int) (i:Int) σ := by
   intro k
   induction k with
   | zero =>
    intro i hi hall
    refine hR _ _ _ _ _ ?_
    refine br_f (by rw [bsz,decide_eq_false_iff_not];omega) ?_
    rw [List.take_of_length_le (by omega)] at hall ⊢
    have hc : (d.isEmpty || (decide (d.length > 15) || !d.all dig)) = false := by rw [h1,decide_eq_false h2,hall];rfl
    rw [if_neg (by rw [hc];simp)] at hK
    refine j_i (fun j => j (if headIs 45 ⟨⟨l⟩⟩ then -(numL d 0:Int) else (numL d 0:Int)) σ) hK ?_
    intro j hj
    have hb := numL_lt d 0 hall
    have hb2 : 10 ^ d.length <= 10 ^ 15 := Nat.pow_le_pow_right (by decide) (by omega)
    rw [bsz,bsz]
    cases hh : headIs 45 ⟨⟨l⟩⟩ with
    | true =>
     rw [hh,if_pos rfl] at hj
     refine br_t (by rw [decide_eq_true_eq];have := hlt.1 hh;omega) ?_
     rw [wrap_id (by omega) (by omega),Int.zero_sub];exact hj
    | false =>
     rw [hh,if_neg (by simp)] at hj
     exact br_f (by rw [decide_eq_false_iff_not];intro h;have := hlt.2 (by omega);rw [this] at hh;cases hh) hj
   | succ k ih =>
    intro i hi hall
    obtain ⟨q,hq⟩ : ∃ q,d[i]? = some q := ⟨_,List.getElem?_eq_getElem (by omega)⟩
    refine hR _ _ _ _ _ ?_
    refine br_t (by rw [bsz,decide_eq_true_eq];omega) ?_
    refine j_i (fun j => ∀ b : Bool,b = !dig q -> j ⟨⟨l⟩⟩ ⟨⟨d⟩⟩ ((numL (d.take i) 0 : Nat) : Int) (i:Int) b σ) ?_ ?_
    case refine_2 =>
     intro j hj
     refine idx_l (c := q) (by omega) (by rw [Int.toNat_natCast];exact hq) ?_
     have hdd := dig_dec q
     by_cases c1 : ((q.toNat:Nat) : Int) < 48
     ·exact br_t (decide_eq_true c1) (hj _ (by rw [<- hdd,decide_eq_true c1];rfl))
     ·exact br_f (decide_eq_false c1) (idx_l (c := q) (by omega) (by rw [Int.toNat_natCast];exact hq) (hj _ (by rw [<- hdd,decide_eq_false c1,Bool.false_or])))
    intro b hb
    cases b with
    | true =>
     have hna : d.all dig = false := by
      cases ha : d.all dig with
      | false => rfl
      | true => rw [all_at ha hq] at hb;cases hb
     have hc : (d.isEmpty || (decide (d.length > 15) || !d.all dig)) = true := by rw [hna];simp
     rw [if_pos hc] at hK
     exact br_t rfl hK
    | false =>
     have hdq : dig q = true := by simpa using hb.symm
     have hr := dig_rng hdq
     refine br_f rfl (idx_l (c := q) (by omega) (by rw [Int.toNat_natCast];exact hq) ?_)
     have e1 : IntKind.u8.wrap (((q.toNat:Nat) : Int) - 48) = ((q.toNat - 48 : Nat) : Int) := by
      have : IntKind.u8.wrap (((q.toNat:Nat) : Int) - 48) = (((q.toNat:Nat) : Int) - 48) % 256 := rfl
      rw [this];omega
     have hb1 := numL_lt (d.take i) 0 hall
     have hb2 : 10 ^ (d.take i).length <= 10 ^ 15 := Nat.pow_le_pow_right (by decide) (by rw [List.length_take];omega)
     have e2 : IntKind.i64.wrap ((q.toNat - 48 : Nat) : Int) = ((q.toNat - 48 : Nat) : Int) := wrap_id (by omega) (by omega)
     have e3 : IntKind.i64.wrap (10 * ((numL (d.take i) 0 : Nat) : Int)) = 10 * ((numL (d.take i) 0 : Nat) : Int) := wrap_id (by omega) (by omega)
     rw [e1,e2,e3,wrap_id (by omega) (by omega),wrap_id (x := (i:Int) + 1) (by omega) (by omega)]
     have e5 : d.take (i + 1) = d.take i ++ [q] := by rw [List.take_add_one,hq];rfl
     have e4 : 10 * ((numL (d.take i) 0 : Nat) : Int) + ((q.toNat - 48 : Nat) : Int) = ((numL (d.take (i + 1)) 0 : Nat) : Int) := by
      rw [e5,numL_snoc];omega
     rw [e4,show (i:Int) + 1 = ((i + 1 : Nat) : Int) from by omega]
     exact ih (i + 1) (by omega) (by rw [e5,List.all_append,hall];simp [hdq])
  exact key d.length 0 (by omega) rfl
theorem r_bare (l:List UInt8) (hl:l.length <= 1000000000) {K : KH} (hK:K (.string ⟨⟨bareL l⟩⟩) σ) : callW Tryz.prog 109 [.string ⟨⟨l⟩⟩] K σ := by
 refine c109 _ ?_
 unfold g109
 refine loop_i ?_
 intro R hR
 have key : ∀ (n:Nat) (m:List UInt8),m.length = n -> n <= 1000000000 -> trR (· == 47) m = bareL l -> R ⟨⟨m⟩⟩ σ := by
  intro n
  induction n with
  | zero =>
   intro m hm _ ht
   have : m = [] := List.eq_nil_of_length_eq_zero hm
   subst this
   refine hR _ _ (j_d (br_f (by decide) (br_f rfl ?_)))
   rw [<- ht] at hK;exact hK
  | succ n ih =>
   intro m hm hn ht
   obtain ⟨q,x,rfl,hq⟩ := snoc_of hm
   rw [trR_snoc] at ht
   refine hR _ _ (j_d (br_t (by rw [sz_snoc,decide_eq_true_eq];omega) ?_))
   rw [sz_snoc,wrS1 (by omega)]
   refine idx_l (c := x) (by omega) (by rw [Int.toNat_natCast];exact get_snoc q x) ?_
   rw [show ((((x.toNat:Nat) : Int) : Int) == 47) = (x == 47) from u8e x 47]
   cases hx : x == 47 with
   | true =>
    rw [hx,if_pos rfl] at ht
    refine br_t rfl ?_
    rw [sz_snoc,wrS1 (by omega)]
    refine if_i ⟨bnd_some (by omega) (by omega),bnd_none⟩ ?_
    rw [Int.toNat_natCast,ext_tl]
    exact ih q hq (by omega) ht
   | false =>
    rw [hx,if_neg (by simp)] at ht
    refine br_f rfl ?_
    rw [ht];exact hK
 exact key l.length l rfl hl rfl
theorem r_behind (l:List UInt8) (hl:l.length <= 1000000000) {K : KH} (hK:K (.int .i64 ((lastN 47 l:Nat) : Int)) σ) : callW Tryz.prog 110 [.string ⟨⟨l⟩⟩] K σ := by
 refine c110 _ ?_
 unfold g110
 refine loop_i ?_
 intro R hR
 have key : ∀ (n:Nat) (m q:List UInt8),m.length = n -> n <= 1000000000 -> l = m ++ q -> lastN 47 m = lastN 47 l -> R ⟨⟨l⟩⟩ ((n:Int) - 1) σ := by
  intro n
  induction n with
  | zero =>
   intro m q hm _ _ ht
   have : m = [] := List.eq_nil_of_length_eq_zero hm
   subst this
   refine hR _ _ _ (br_f (by simp only [decide_eq_false_iff_not];omega) ?_)
   rw [<- ht] at hK;exact hK
  | succ n ih =>
   intro m q hm hn hlq ht
   obtain ⟨p,x,rfl,hp⟩ := snoc_of hm
   rw [lastN_snoc] at ht
   refine hR _ _ _ (br_t (by simp only [decide_eq_true_eq];omega) ?_)
   have e1 : (((n + 1 : Nat) : Int) - 1) = (n:Int) := by omega
   rw [e1]
   refine idx_l (c := x) (by omega) (by rw [Int.toNat_natCast,hlq];show ((p ++ [x]) ++ q)[n]? = some x;rw [List.append_assoc,List.getElem?_append_right (by omega),hp];simp) ?_
   rw [show ((((x.toNat:Nat) : Int) : Int) == 47) = (x == 47) from u8e x 47]
   cases hx : x == 47 with
   | true =>
    rw [hx,if_pos rfl] at ht
    refine br_t rfl ?_
    rw [wrap_id (by omega) (by omega)]
    rw [<- ht,hp] at hK;exact hK
   | false =>
    rw [hx,if_neg (by simp)] at ht
    refine br_f rfl ?_
    rw [wrap_id (by omega) (by omega)]
    exact ih p ([x] ++ q) hp (by omega) (by rw [hlq,List.append_assoc]) ht
 have h := key l.length l [] rfl hl (by simp) rfl
 have e : IntKind.i64.wrap ((((⟨⟨l⟩⟩ : ByteArray).size : Nat) : Int) - 1) = ((l.length:Nat) : Int) - 1 := by rw [bsz,wrap_id (by omega) (by omega)]
 rw [e];exact h
end
section
variable {σ : H}
theorem tail_ref (bh t:List UInt8) : (if (decide (bh.length > t.length) && (bh.drop (bh.length - t.length) == t)) = true then bh.take (bh.length - t.length) else bh) = tailB bh (some ⟨⟨t⟩⟩) := by
 show _ = if bh == t then bh else trimEnd bh t
 unfold trimEnd hasEnd
 by_cases he : bh = t
 ·subst he
  rw [decide_eq_false (by omega),if_neg (by simp),if_pos (by simp)]
 ·have h1 : (bh == t) = false := by simpa using he
  rw [h1]
  by_cases hl : bh.length > t.length
  ·rw [decide_eq_true hl,Nat.ble_eq_true_of_le (by omega)]
   simp
  ·rw [decide_eq_false hl]
   by_cases hl2 : t.length <= bh.length
   ·have : bh.length - t.length = 0 := by omega
    rw [this,List.drop_zero,h1];simp
   ·have : Nat.ble t.length bh.length = false := by
     cases hb : Nat.ble t.length bh.length with
     | false => rfl
     | true => exact absurd (Nat.le_of_ble_eq_true hb) hl2
    rw [this];simp
theorem sEq_list (a b:List UInt8) : strEq ⟨⟨a⟩⟩ ⟨⟨b⟩⟩ = (a == b) := by rw [<- sEq_eq];rfl
theorem r_base (nm inn cwd:ByteArray) {x : Sl} {args : List ByteArray} (hx:RowsAt σ 1 (strRows args) x) (hn:nm.size <= 1000) (ha:∀ a ∈ args,a.size <= 1000) {K : KH} (hK:K (.agg ⟨dnV (basenameP nm args)⟩) σ) :
 callW Tryz.prog 57 [.agg ⟨[.string nm,.slice x.base x.len x.cap,.string inn,.string cwd]⟩] K σ := by
 refine pure_i _ hK (c57 _ _ _ _ ?_)
 clear hK
 unfold g57
 have hxl := sLen hx
 refine al_i ?_;intro b6 σ1 g1 e1 n1
 refine al_i ?_;intro b7 σ2 g2 e2 n2
 have k6 := g2.get e1
 have G2 := g1.trans g2
 have f7 : σ b7 = none := none_of g1 n2
 have hx2 := hx.gr G2
 refine j_i (fun j => ∀ cb : Bool,cb = (!(args.length == 1) && !(args.length == 2)) -> j (some ⟨b6,0,none⟩) (some ⟨b7,0,none⟩) cb σ2) ?_ ?_
 case refine_2 =>
  intro j hj
  refine rd_Y (y := x) (rdC_of k6 (by rfl)) ?_
  by_cases h1 : args.length = 1
  ·exact br_f (by rw [hxl,h1];rfl) (hj _ (by rw [h1];rfl))
  ·refine br_t (by rw [bne_iff_ne];omega) (rd_Y (y := x) (rdC_of k6 (by rfl)) (hj _ ?_))
   have e1 : (args.length == 1) = false := by simpa using h1
   rw [e1,hxl]
   by_cases h2 : args.length = 2
   ·rw [h2];rfl
   ·have e2 : (args.length == 2) = false := by simpa using h2
    rw [e2]
    show (((args.length:Nat) : Int) != 2) = true
    rw [bne_iff_ne];omega
 intro cb hcb
 cases cb with
 | true =>
  have hu : basenameP nm args = usageP nm := by
   match args,hcb with
   | [],_ => rfl
   | [a],h => cases h
   | [a,e],h => cases h
   | a :: b :: c :: r,_ => rfl
  refine br_t rfl (ptr_i (rd_G (rdA_of' k6 (by rfl)) ?_))
  (refine app_of rfl ?_;try dsimp only)
  refine call_i (r_usage nm inn cwd x (by omega) ?_)
  unfold dnV
  (refine app_of rfl ?_;try dsimp only)
  refine st_i2 e2 sz_Done (by rfl) (by rfl) ?_;intro σ3 p3
  refine ptr_i (rd_G (rdA_of' p3.same (by rfl)) ?_)
  (refine app_of rfl ?_;try dsimp only)
  exact ⟨by rw [hu],G2.putF p3 f7⟩
 | false =>
  obtain ⟨a,r,rfl⟩ : ∃ a r,args = a :: r := by
   cases args with
   | nil => cases hcb
   | cons a r => exact ⟨a,r,rfl⟩
  have haz := ha a (List.mem_cons_self ..)
  obtain ⟨g,o,a1,a2,a3⟩ := sRow hx2 (i := 0) (s := a) rfl
  obtain ⟨e,he,hre⟩ : ∃ e : Option ByteArray,basenameP nm (a :: r) = baseGo a.data.toList e /\ ((e = none /\ r = []) \/ ∃ z,e = some z /\ r = [z]) := by
   match r,hcb with
   | [],_ => exact ⟨none,base1 nm a,.inl ⟨rfl,rfl⟩⟩
   | [z],_ => exact ⟨some z,base2 nm a z,.inr ⟨z,rfl,rfl⟩⟩
   | _ :: _ :: _,h => simp at h
  rw [he]
  have hal : a.data.toList.length <= 1000 := by rw [<- size_list];exact haz
  have hbl := bareL_len a.data.toList
  refine br_f rfl (ptr_i (rd_Y (y := x) (rdC_of k6 (by rfl)) ?_))
  rw [a1]
  refine ptr_i (if_i ⟨by decide,by omega⟩ (rd_S a3 ?_))
  refine call_i (r_bare a.data.toList (by omega) (app_S ?_))
  refine j_i (fun j => ∀ cb : Bool,cb = ((bareL a.data.toList).isEmpty && !a.data.toList.isEmpty) -> j (some ⟨b6,0,none⟩) (some ⟨b7,0,none⟩) ⟨⟨bareL a.data.toList⟩⟩ cb σ2) ?_ ?_
  case refine_2 =>
   intro j hj
   rw [strEq_nil]
   cases hb : (bareL a.data.toList).isEmpty with
   | false => exact br_f rfl (hj _ (by rw [hb];rfl))
   | true =>
    refine br_t rfl (ptr_i (rd_Y (y := x) (rdC_of k6 (by rfl)) ?_))
    rw [a1]
    refine ptr_i (if_i ⟨by decide,by omega⟩ (rd_S a3 ?_))
    rw [<- sEq_eq,sEq_nil']
    exact hj _ (by rw [hb];rfl)
  intro cb hcb2
  have hgo : baseGo a.data.toList e = if cb then ⟨⟨⟨[47,10]⟩⟩,⟨⟨[]⟩⟩,0⟩ else ⟨⟨⟨tailB (behind (bareL a.data.toList)) e⟩⟩ ++ ⟨⟨[10]⟩⟩,⟨⟨[]⟩⟩,0⟩ := by rw [hcb2];rfl
  rw [hgo]
  cases cb with
  | true =>
   refine br_t rfl (st_i2 e2 sz_Done (by rfl) (by rfl) ?_);intro σ3 p3
   refine ptr_i (rd_G (rdA_of' p3.same (by rfl)) ?_)
   (refine app_of rfl ?_;try dsimp only)
   exact ⟨rfl,G2.putF p3 f7⟩
  | false =>
   have hll := lastN_le 47 (bareL a.data.toList)
   refine br_f rfl (call_i (r_behind (bareL a.data.toList) (by omega) (app_I ?_)))
   refine if_i ⟨bnd_none,bnd_some (by omega) (by rw [bsz];omega)⟩ ?_
   rw [Int.toNat_natCast,ext_drop,(upto_last (bareL a.data.toList)).2]
   have hbh : (behind (bareL a.data.toList)).length <= 1000 := by
    rw [<- (upto_last (bareL a.data.toList)).2,List.length_drop];omega
   generalize hbe : behind (bareL a.data.toList) = bh at hbh ⊢
   refine j_i (fun j => j (some ⟨b7,0,none⟩) ⟨⟨tailB bh e⟩⟩ σ2) ?_ ?_
   ·refine if_i ?_ ?_
    ·show List.length _ + 1 <= _
     rcases hre with ⟨rfl,_⟩ | ⟨z,rfl,_⟩
     ·show bh.length + 1 <= _;omega
     ·show (if bh == z.data.toList then bh else trimEnd bh z.data.toList).length + 1 <= _
      have := trimEnd_len bh z.data.toList
      split <;> omega
    ·refine st_i2 e2 sz_Done (by rfl) (by rfl) ?_;intro σ3 p3
     refine ptr_i (rd_G (rdA_of' p3.same (by rfl)) ?_)
     (refine app_of rfl ?_;try dsimp only)
     exact ⟨rfl,G2.putF p3 f7⟩
   ·intro j hj
    refine ptr_i (rd_Y (y := x) (rdC_of k6 (by rfl)) ?_)
    rcases hre with ⟨rfl,rfl⟩ | ⟨z,rfl,rfl⟩
    ·exact br_f (by rw [hxl];rfl) hj
    ·obtain ⟨g',o',z1,z2,z3⟩ := sRow hx2 (i := 1) (s := z) rfl
     have hzz := ha z (by simp)
     have hzl : z.data.toList.length = z.size := (size_list z).symm
     refine br_t (by rw [hxl];rfl) (ptr_i (rd_Y (y := x) (rdC_of k6 (by rfl)) ?_))
     rw [z1]
     refine ptr_i (if_i ⟨by decide,by omega⟩ (rd_S z3 ?_))
     rw [<- tail_ref] at hj
     refine j_i (fun j => ∀ cb : Bool,cb = (decide (bh.length > z.data.toList.length) && (bh.drop (bh.length - z.data.toList.length) == z.data.toList)) -> j (some ⟨b7,0,none⟩) ⟨⟨bh⟩⟩ z cb σ2) ?_ ?_
     ·intro cb hcb3
      rw [<- hcb3] at hj
      cases cb with
      | false => exact br_f rfl hj
      | true =>
       have h1 : decide (bh.length > z.data.toList.length) = true := (Bool.and_eq_true .. ▸ hcb3.symm).1
       rw [decide_eq_true_eq] at h1
       refine br_t rfl ?_
       rw [bsz]
       have ew : IntKind.i64.wrap ((bh.length:Int) - (z.size:Int)) = ((bh.length - z.data.toList.length : Nat) : Int) := by rw [wrap_id (by omega) (by omega)];omega
       rw [ew]
       refine if_i ⟨bnd_some (by omega) (by omega),bnd_none⟩ ?_
       rw [Int.toNat_natCast,bex,List.drop_zero]
       exact hj
     ·intro j hj
      rw [bsz]
      by_cases h1 : bh.length > z.data.toList.length
      ·have ew : IntKind.i64.wrap ((bh.length:Int) - (z.size:Int)) = ((bh.length - z.data.toList.length : Nat) : Int) := by rw [wrap_id (by omega) (by omega)];omega
       rw [ew]
       refine br_t (by rw [decide_eq_true_eq];omega) (if_i ⟨bnd_none,bnd_some (by omega) (by omega)⟩ (hj _ ?_))
       have e2 : (⟨⟨bh⟩⟩ : ByteArray).extract (((bh.length - z.data.toList.length : Nat) : Int).toNat) bh.length = ⟨⟨bh.drop (bh.length - z.data.toList.length)⟩⟩ := by rw [Int.toNat_natCast];exact ext_drop bh _
       rw [e2,decide_eq_true h1,Bool.true_and]
       exact sEq_list _ z.data.toList
      ·exact br_f (by rw [decide_eq_false_iff_not];omega) (hj _ (by rw [decide_eq_false h1];rfl))
theorem r_dir (nm inn cwd:ByteArray) {x : Sl} {args : List ByteArray} (hx:RowsAt σ 1 (strRows args) x) (hn:nm.size <= 1000) (ha:∀ a ∈ args,a.size <= 1000) {K : KH} (hK:K (.agg ⟨dnV (dirnameP nm args)⟩) σ) :
 callW Tryz.prog 58 [.agg ⟨[.string nm,.slice x.base x.len x.cap,.string inn,.string cwd]⟩] K σ := by
 refine pure_i _ hK (c58 _ _ _ _ ?_)
 clear hK
 unfold g58
 have hxl := sLen hx
 refine al_i ?_;intro b6 σ1 g1 e1 n1
 refine al_i ?_;intro b7 σ2 g2 e2 n2
 have k6 := g2.get e1
 have G2 := g1.trans g2
 have f7 : σ b7 = none := none_of g1 n2
 have hx2 := hx.gr G2
 refine rd_Y (y := x) (rdC_of k6 (by rfl)) ?_
 by_cases h1 : args.length = 1
 case neg =>
  have hu : dirnameP nm args = usageP nm := by
   match args,h1 with
   | [],_ => rfl
   | [a],h => exact absurd rfl h
   | a :: b :: r,_ => rfl
  refine br_t (by rw [bne_iff_ne];omega) (rd_G (rdA_of' k6 (by rfl)) ?_)
  (refine app_of rfl ?_;try dsimp only)
  refine call_i (r_usage nm inn cwd x (by omega) ?_)
  unfold dnV
  (refine app_of rfl ?_;try dsimp only)
  refine st_i2 e2 sz_Done (by rfl) (by rfl) ?_;intro σ3 p3
  refine rd_G (rdA_of' p3.same (by rfl)) ?_
  (refine app_of rfl ?_;try dsimp only)
  exact ⟨by rw [hu],G2.putF p3 f7⟩
 case pos =>
  obtain ⟨a,rfl⟩ := List.length_eq_one_iff.1 h1
  have haz := ha a (List.mem_cons_self ..)
  obtain ⟨g,o,a1,a2,a3⟩ := sRow hx2 (i := 0) (s := a) rfl
  have hal : a.data.toList.length <= 1000 := by rw [<- size_list];exact haz
  have hbl := bareL_len a.data.toList
  have hll := lastN_le 47 (bareL a.data.toList)
  refine br_f (by rw [hxl];rfl) (rd_Y (y := x) (rdC_of k6 (by rfl)) ?_)
  rw [a1]
  refine ptr_i (if_i ⟨by decide,by omega⟩ (rd_S a3 ?_))
  refine call_i (r_bare a.data.toList (by omega) (app_S (call_i (r_behind (bareL a.data.toList) (by omega) (app_I ?_)))))
  refine if_i ⟨bnd_some (by omega) (by rw [bsz];omega),bnd_none⟩ ?_
  rw [Int.toNat_natCast,show (⟨⟨bareL a.data.toList⟩⟩ : ByteArray).extract 0 (lastN 47 (bareL a.data.toList)) = ⟨⟨upto (bareL a.data.toList)⟩⟩ from by rw [bex,List.drop_zero,(upto_last _).1]]
  have hup : (upto (bareL a.data.toList)).length <= 1000 := by rw [<- (upto_last (bareL a.data.toList)).1,List.length_take];omega
  refine call_i (r_bare (upto (bareL a.data.toList)) (by omega) (app_S ?_))
  have hb2 := bareL_len (upto (bareL a.data.toList))
  have hd : dirnameP nm [a] = ⟨(if !(bareL (upto (bareL a.data.toList))).isEmpty then ⟨⟨bareL (upto (bareL a.data.toList))⟩⟩ else if headIs 47 a then ⟨⟨[47]⟩⟩ else ⟨⟨[46]⟩⟩) ++ ⟨⟨[10]⟩⟩,⟨⟨[]⟩⟩,0⟩ := rfl
  rw [hd]
  generalize bareL (upto (bareL a.data.toList)) = u at hb2 ⊢
  refine j_i (fun j => ∀ s : ByteArray,s.size <= 1000 -> s = (if !u.isEmpty then ⟨⟨u⟩⟩ else if headIs 47 a then ⟨⟨[47]⟩⟩ else ⟨⟨[46]⟩⟩) -> j (some ⟨b7,0,none⟩) s σ2) ?_ ?_
  ·intro s hs1 hs2
   rw [<- hs2]
   refine if_i (by show s.size + 1 <= _;omega) ?_
   refine st_i2 e2 sz_Done (by rfl) (by rfl) ?_;intro σ3 p3
   refine ptr_i (rd_G (rdA_of' p3.same (by rfl)) ?_)
   (refine app_of rfl ?_;try dsimp only)
   exact ⟨rfl,G2.putF p3 f7⟩
  ·intro j hj
   rw [strEq_nil]
   cases hu : u.isEmpty with
   | false => exact br_f rfl (hj _ (by rw [bsz];omega) (by rw [hu];rfl))
   | true =>
    refine br_t rfl ?_
    refine j_i (fun j' => ∀ cb : Bool,cb = headIs 47 a -> j' (some ⟨b7,0,none⟩) ⟨⟨[46]⟩⟩ cb σ2) ?_ ?_
    ·intro cb hcb
     cases cb with
     | true => exact br_t rfl (hj _ (by decide) (by rw [hu,<- hcb];rfl))
     | false => exact br_f rfl (hj _ (by decide) (by rw [hu,<- hcb];rfl))
    ·intro j' hj'
     refine rd_Y (y := x) (rdC_of k6 (by rfl)) ?_
     rw [a1]
     refine ptr_i (if_i ⟨by decide,by omega⟩ (rd_S a3 ?_))
     obtain ⟨⟨la⟩⟩ := a
     cases la with
     | nil => exact br_f (by decide) (hj' _ rfl)
     | cons c r =>
      refine br_t (by show decide (((r.length + 1 : Nat) : Int) > 0) = true;rw [decide_eq_true_eq];omega) (rd_Y (y := x) (rdC_of k6 (by rfl)) ?_)
      rw [a1]
      refine ptr_i (if_i ⟨by decide,by omega⟩ (rd_S a3 (idx_l (c := c) (by omega) (by rfl) (hj' _ ?_))))
      exact u8e c 47
theorem joinB_take (sep:List UInt8) (l:List (List UInt8)) {i : Nat} {s : List UInt8} (hs:l[i]? = some s) : joinB sep (l.take (i + 1)) = (if i = 0 then [] else joinB sep (l.take i) ++ sep) ++ s := by
 cases l with
 | nil => simp at hs
 | cons a r =>
  cases i with
  | zero => simp at hs;subst hs;rfl
  | succ i =>
   simp at hs
   rw [if_neg (by omega),List.take_succ_cons,List.take_succ_cons,joinB_cons,joinB_cons,List.take_add_one,hs]
   simp
theorem joinB_len (sep:List UInt8) (hs:sep.length <= 1) : ∀ (l:List (List UInt8)),(∀ a ∈ l,a.length <= 1000) -> (joinB sep l).length <= 1001 * l.length := by
 intro l
 induction l with
 | nil => intro _;exact Nat.zero_le _
 | cons a r ih =>
  intro h
  have h1 := h a (List.mem_cons_self ..)
  have h2 := ih fun b hb => h b (List.mem_cons_of_mem _ hb)
  cases r with
  | nil => show a.length <= _;simp;omega
  | cons b r =>
   show (a ++ sep ++ joinB sep (b :: r)).length <= _
   rw [List.length_append,List.length_append]
   simp only [List.length_cons] at h2 ⊢;omega
theorem r_echo (nm inn cwd:ByteArray) {x : Sl} {args : List ByteArray} (hx:RowsAt σ 1 (strRows args) x) (hc:x.len <= x.cap) (ha:∀ a ∈ args,a.size <= 1000) (hl:args.length <= 20) {K : KH} (hK:K (.agg ⟨dnV (echoP args)⟩) σ) :
 callW Tryz.prog 54 [.agg ⟨[.string nm,.slice x.base x.len x.cap,.string inn,.string cwd]⟩] K σ := by
 refine pure_i _ hK (c54 _ _ _ _ ?_)
 clear hK
 unfold g54
 have hxl := sLen hx
 refine al_i ?_;intro b6 σ1 g1 e1 n1
 refine al_i ?_;intro b7 σ2 g2 e2 n2
 have k6 := g2.get e1
 have G2 := g1.trans g2
 have f7 : σ b7 = none := none_of g1 n2
 have hx2 := hx.gr G2
 refine rd_Y (y := x) (rdC_of k6 (by rfl)) ?_
 refine j_i (fun j => ∀ (y:Sl) (l:List ByteArray) (e:ByteArray),RowsAt σ 1 (strRows l) y -> (∀ a ∈ l,a.size <= 1000) -> l.length <= 20 -> e.size <= 1 -> echoP args = ⟨joinP ⟨⟨[32]⟩⟩ l ++ e,⟨⟨[]⟩⟩,0⟩ -> j (some ⟨b7,0,none⟩) y e σ2) ?_ ?_
 ·intro y l e hy hsz hll he hP
  rw [hP]
  have hyl := sLen hy
  have hy2 := hy.gr G2
  refine loop_i ?_
  intro R hR
  have hlm : ∀ k,(joinB [32] ((l.map fun s => s.data.toList).take k)).length <= 21000 := by
   intro k
   have := joinB_len [32] (by decide) ((l.map fun s => s.data.toList).take k) (fun a ha' => by
    have := List.mem_of_mem_take ha'
    obtain ⟨s,hs,rfl⟩ := List.mem_map.1 this
    rw [<- size_list];exact hsz s hs)
   rw [List.length_take,List.length_map] at this
   have : 1001 * min k l.length <= 1001 * 20 := Nat.mul_le_mul_left _ (by omega)
   omega
  have key : ∀ (c i:Nat),c + i = l.length -> R (some ⟨b7,0,none⟩) y e ⟨⟨joinB [32] ((l.map fun s => s.data.toList).take i)⟩⟩ (i:Int) σ2 := by
   intro c
   induction c with
   | zero =>
    intro i hc'
    refine hR _ _ _ _ _ _ ?_
    have hm := hlm i
    refine br_f (by rw [decide_eq_false_iff_not];omega) (if_i (by rw [bsz];omega) ?_)
    refine st_i2 e2 sz_Done (by rfl) (by rfl) ?_;intro σ3 p3
    refine ptr_i (rd_G (rdA_of' p3.same (by rfl)) ?_)
    (refine app_of rfl ?_;try dsimp only)
    refine ⟨?_,G2.putF p3 f7⟩
    rw [joinP_B,List.take_of_length_le (by rw [List.length_map];omega)]
    rfl
   | succ c ih =>
    intro i hc'
    obtain ⟨s,hs⟩ : ∃ s,l[i]? = some s := ⟨_,List.getElem?_eq_getElem (by omega)⟩
    obtain ⟨g,o,z1,z2,z3⟩ := sRow hy2 hs
    have hss := hsz s (List.mem_of_getElem? hs)
    have hm := hlm i
    have hst := joinB_take [32] (l.map fun s => s.data.toList) (i := i) (s := s.data.toList) (by rw [List.getElem?_map,hs];rfl)
    refine hR _ _ _ _ _ _ ?_
    refine br_t (by rw [decide_eq_true_eq];omega) ?_
    refine j_i (fun j => ∀ out : List UInt8,out.length <= 21001 -> out ++ s.data.toList = joinB [32] ((l.map fun s => s.data.toList).take (i + 1)) -> j (some ⟨b7,0,none⟩) y e ⟨⟨out⟩⟩ (i:Int) σ2) ?_ ?_
    ·intro out ho1 ho2
     rw [z1]
     refine ptr_i (if_i ⟨by omega,by show _ < ((y.len:Nat) : Int);omega⟩ (rd_S (by rw [Int.toNat_natCast];exact z3) ?_))
     refine if_i (by rw [bsz];omega) ?_
     have e0 : (⟨⟨out⟩⟩ : ByteArray) ++ s = ⟨⟨joinB [32] ((l.map fun s => s.data.toList).take (i + 1))⟩⟩ := by
      refine bytes_ext ?_
      rw [app_data];exact ho2
     rw [e0,wrap_id (x := (i:Int) + 1) (by omega) (by omega),show (i:Int) + 1 = ((i + 1 : Nat) : Int) from by omega]
     exact ih (i + 1) (by omega)
    ·intro j hj
     by_cases h0 : i = 0
     ·refine br_f (by rw [decide_eq_false_iff_not];omega) (hj _ (by omega) ?_)
      rw [hst,if_pos h0];subst h0;rfl
     ·refine br_t (by rw [decide_eq_true_eq];omega) (if_i (by rw [bsz];show _ + 1 <= _;omega) ?_)
      have e0 : (⟨⟨joinB [32] ((l.map fun s => s.data.toList).take i)⟩⟩ : ByteArray) ++ ⟨⟨[32]⟩⟩ = ⟨⟨joinB [32] ((l.map fun s => s.data.toList).take i) ++ [32]⟩⟩ := by
       refine bytes_ext ?_
       rw [app_data]
      rw [e0]
      exact hj _ (by rw [List.length_append];show _ + 1 <= _;omega) (by rw [hst,if_neg h0])
  exact key l.length 0 rfl
 ·intro j hj
  refine j_i (fun j' => ∀ cb : Bool,cb = (match args with | [] => false | a :: _ => sEq a ⟨⟨[45,110]⟩⟩) -> j' (some ⟨b7,0,none⟩) x ⟨⟨[10]⟩⟩ cb σ2) ?_ ?_
  ·intro cb hcb
   cases args with
   | nil =>
    subst hcb
    exact br_f rfl (hj x [] _ hx ha hl (by decide) rfl)
   | cons a r =>
    have he : echoP (a :: r) = if sEq a ⟨⟨[45,110]⟩⟩ then ⟨joinP ⟨⟨[32]⟩⟩ r,⟨⟨[]⟩⟩,0⟩ else ⟨joinP ⟨⟨[32]⟩⟩ (a :: r) ++ ⟨⟨[10]⟩⟩,⟨⟨[]⟩⟩,0⟩ := rfl
    have hcb' : cb = sEq a ⟨⟨[45,110]⟩⟩ := hcb
    rw [<- hcb'] at he
    rw [List.length_cons] at hxl hl
    cases cb with
    | true =>
     refine br_t rfl (if_i ⟨bnd_none,bnd_some (by decide) (by show (1:Int) <= ((x.len:Nat) : Int);omega)⟩ ?_)
     exact hj ⟨slBase x.base 1 x.cap 1,x.len - 1,x.cap - 1⟩ r ⟨⟨[]⟩⟩ (sTail hx hc) (fun b hb => ha b (List.mem_cons_of_mem _ hb)) (by omega) (by decide) (by rw [he,app_nil];rfl)
    | false => exact br_f rfl (hj x (a :: r) _ hx ha (by rw [List.length_cons];omega) (by decide) (by rw [he];rfl))
  ·intro j' hj'
   cases args with
   | nil => exact br_f (by rw [hxl];rfl) (hj' _ rfl)
   | cons a r =>
    obtain ⟨g,o,a1,a2,a3⟩ := sRow hx2 (i := 0) (s := a) rfl
    rw [List.length_cons] at hxl
    refine br_t (by rw [decide_eq_true_eq];omega) ?_
    rw [a1]
    refine ptr_i (if_i ⟨by decide,by omega⟩ (rd_S a3 ?_))
    rw [<- sEq_eq]
    exact hj' _ rfl
theorem digitS : ∀ n,n < 16 -> sEq ((⟨⟨[48,49,50,51,52,53,54,55,56,57,97,98,99,100,101,102]⟩⟩ : ByteArray).extract n (n + 1)) ⟨⟨[digitL n]⟩⟩ = true := by decide +kernel
theorem r_hex0 : ∀ (m:Nat) (n:Int),n.toNat <= m -> 0 <= n -> n < 1000000000000000 -> ∀ {K : KH},K (.string (fmtP 16 n)) σ -> callW Tryz.prog 107 [.int .i64 n] K σ := by
 intro m
 induction m using Nat.strongRecOn with
 | ind m ih =>
  intro n hm h0 h1 K hK
  refine c107 _ ?_
  unfold g107
  obtain ⟨k,hk,hk2⟩ : ∃ k : Nat,Int.tmod n 16 = (k:Int) /\ k < 16 := by
   rw [Int.tmod_eq_emod_of_nonneg h0];exact ⟨(n % 16).toNat,by omega,by omega⟩
  have hkm : (n % ((16:Nat) : Int)).toNat = k := by rw [Int.tmod_eq_emod_of_nonneg h0] at hk;omega
  have e1 : IntKind.i64.wrap ((k:Int) + 1) = ((k + 1 : Nat) : Int) := by rw [wrap_id (by omega) (by omega)];omega
  refine br_f (by rw [decide_eq_false_iff_not];omega) (if_i (by decide) (if_i (by decide) ?_))
  rw [hk,e1,Int.toNat_natCast,Int.toNat_natCast,sEq_iff.1 (digitS k hk2)]
  refine if_i ⟨bnd_some (by omega) (by show _ <= ((16:Nat) : Int);omega),bnd_some (by omega) (by omega)⟩ ?_
  by_cases hl : n < 16
  ·refine br_t (decide_eq_true hl) ?_
   rw [fmtP_dig (.inr rfl) h0 (by exact hl)] at hK
   have : n.toNat = k := by rw [Int.tmod_eq_emod_of_nonneg h0] at hk;omega
   rw [this] at hK;exact hK
  ·refine br_f (decide_eq_false hl) (if_i (by decide) ?_)
   rw [fmtP_step (.inr rfl) h0 (by exact hl) h1,hkm] at hK
   have e2 : IntKind.i64.wrap (Int.tdiv n 16) = n / ((16:Nat) : Int) := by
    rw [Int.tdiv_eq_ediv_of_nonneg h0,wrap_id (by omega) (by omega)];rfl
   rw [e2]
   refine call_i (ih (n / ((16:Nat) : Int)).toNat (by omega) _ (Nat.le_refl _) (by omega) (by omega) (app_S (if_i ?_ hK)))
   have := fmtP_size 16 (n / ((16:Nat) : Int))
   show _ + 1 <= _;omega
theorem r_hex (n:Int) (h1:-1000000000000000 < n) (h2:n < 1000000000000000) {K : KH} (hK:K (.string (fmtP 16 n)) σ) : callW Tryz.prog 107 [.int .i64 n] K σ := by
 by_cases h : 0 <= n
 ·exact r_hex0 n.toNat n (Nat.le_refl _) h h2 hK
 ·refine c107 _ ?_
  unfold g107
  rw [fmtP_neg 16 (by omega)] at hK
  refine br_t (by rw [decide_eq_true_eq];omega) ?_
  have e2 : IntKind.i64.wrap (0 - n) = -n := by rw [wrap_id (by omega) (by omega)];omega
  rw [e2]
  refine call_i (r_hex0 (-n).toNat (-n) (Nat.le_refl _) (by omega) (by omega) (app_S (if_i ?_ hK)))
  have := fmtP_size 16 (-n)
  show 1 + _ <= _;omega
end
theorem sz_r2part : sizeT Tryz.prog 158 = some 4 := by kernel_rfl
theorem el_r2part : ElT Tryz.prog 154 158 4 := elT_of (by kernel_rfl) (by decide) (by kernel_rfl)
theorem ext_at {l : List UInt8} {i : Nat} (k:Nat) : (⟨⟨l⟩⟩ : ByteArray).extract i (i + k) = ⟨⟨(l.drop i).take k⟩⟩ := by
 rw [bex,List.drop_take,Nat.add_sub_cancel_left]
theorem drop_lt {l : List UInt8} {n : Nat} {c : UInt8} {r : List UInt8} (h:l.drop n = c :: r) : n < l.length := by
 obtain ⟨h1,_⟩ := drop_head h
 rcases Nat.lt_or_ge n l.length with h | h
 ·exact h
 ·rw [List.getElem?_eq_none h] at h1;cases h1
theorem r_form (l:List UInt8) (hl:l.length <= 1000000) {σ : H} {K : KH} (hN:piecesP l.length l = none -> ∀ σ',Gr σ σ' -> K (.tuple ⟨[.slice none 0 0,.bool false]⟩) σ')
 (hS:∀ ps,piecesP l.length l = some ps -> ∀ x σ',RNew σ σ' 158 4 (pcRows ps) x -> K (.tuple ⟨[.slice x.base x.len x.cap,.bool true]⟩) σ') : callW Tryz.prog 104 [.string ⟨⟨l⟩⟩] K σ := by
 refine c104 _ ?_
 unfold g104
 have hls : (⟨⟨l⟩⟩ : ByteArray).size = l.length := rfl
 refine loop_i ?_
 intro R hR
 have key : ∀ (f i:Nat) (acc:List Pc) (x:Sl) (τ:H),l.length <= i + f -> acc.length + f <= l.length -> (piecesP f (l.drop i)).map (acc ++ ·) = piecesP l.length l -> RNew σ τ 158 4 (pcRows acc) x -> R ⟨⟨l⟩⟩ x (i:Int) τ := by
  intro f
  induction f with
  | zero =>
   intro i acc x τ hm hf hT hx
   have : l.drop i = [] := List.drop_eq_nil_of_le (by omega)
   rw [this] at hT
   refine hR _ _ _ _ ?_
   refine br_f (by rw [hls,decide_eq_false_iff_not];omega) (hS acc ?_ x τ hx)
   rw [<- hT];simp [piecesP]
  | succ f ih =>
   intro i acc x τ hm hf hT hx
   cases hd : l.drop i with
   | nil =>
    have hi : l.length <= i := List.drop_eq_nil_iff.1 hd
    rw [hd] at hT
    refine hR _ _ _ _ ?_
    refine br_f (by rw [hls,decide_eq_false_iff_not];omega) (hS acc ?_ x τ hx)
    rw [<- hT];simp [piecesP]
   | cons c r =>
    obtain ⟨hc,hr⟩ := drop_head hd
    have hi := drop_lt hd
    rw [hd] at hT
    have w1 : IntKind.i64.wrap ((i:Int) + 1) = ((i + 1 : Nat) : Int) := by rw [wrap_id (by omega) (by omega)];omega
    have w2 : IntKind.i64.wrap ((i:Int) + 2) = ((i + 2 : Nat) : Int) := by rw [wrap_id (by omega) (by omega)];omega
    have hlen : (pcRows acc).length < 1000000000 := by rw [pcRows_len];omega
    have go : ∀ (p:Pc) (n:Nat) (y:Sl) (τ2:H),i + 1 <= n -> (piecesP (f + 1) (c :: r)).map (acc ++ ·) = (piecesP f (l.drop n)).map ((acc ++ [p]) ++ ·) -> RNew σ τ2 158 4 (pcRows acc ++ [pcV p]) y -> R ⟨⟨l⟩⟩ y (n:Int) τ2 := by
     intro p n y τ2 h1 h2 h3
     rw [pcRows_snoc] at h3
     exact ih n (acc ++ [p]) y τ2 (by omega) (by rw [List.length_append,List.length_singleton];omega) (by rw [<- h2];exact hT) h3
    refine hR _ _ _ _ ?_
    refine br_t (by rw [hls,decide_eq_true_eq];omega) ?_
    refine j_i (fun j => ∀ cb : Bool,cb = (c == 92 && !r.isEmpty) -> j ⟨⟨l⟩⟩ x (i:Int) cb τ) ?_ ?_
    case refine_2 =>
     intro j hj
     refine idx_l (c := c) (by omega) (by rw [Int.toNat_natCast];exact hc) ?_
     rw [show ((((c.toNat:Nat) : Int) : Int) == 92) = (c == 92) from u8e c 92]
     cases h92 : c == 92 with
     | false => exact br_f rfl (hj _ (by rw [h92];rfl))
     | true =>
      refine br_t rfl (hj _ ?_)
      rw [h92,w1,hls,Bool.true_and]
      cases r with
      | nil =>
       have : l.length <= i + 1 := List.drop_eq_nil_iff.1 hr
       rw [decide_eq_false (by omega)];rfl
      | cons d r2 =>
       have := drop_lt hr
       rw [decide_eq_true (by omega)];rfl
    intro cb hcb
    cases cb with
    | true =>
     have hcb' := hcb.symm
     rw [Bool.and_eq_true] at hcb'
     obtain ⟨h92,hrn⟩ := hcb'
     have h92' : c = 92 := by simpa using h92
     obtain ⟨d,r2,rfl⟩ : ∃ d r2,r = d :: r2 := by
      cases r with
      | nil => cases hrn
      | cons d r2 => exact ⟨d,r2,rfl⟩
     obtain ⟨hd1,hd2⟩ := drop_head hr
     have hi2 := drop_lt hr
     refine br_t rfl ?_
     rw [w2,w1]
     refine if_i ⟨bnd_some (by omega) (by rw [hls];omega),bnd_some (by omega) (by omega)⟩ ?_
     refine j_i (fun j => ∀ t,t = escP d -> j ⟨⟨l⟩⟩ x (i:Int) t τ) ?_ ?_
     ·intro t ht
      subst ht
      rw [w2]
      refine RNew.app1 el_r2part hx (r := pcV (litP (escP d))) rfl rfl hlen ?_
      intro y τ2 h1 _ _
      refine go (litP (escP d)) (i + 2) y τ2 (by omega) ?_ h1
      rw [<- mapT,hd2]
      show (if (c == 92 && !(d :: r2).isEmpty) = true then _ else _ : Option (List Pc)).map _ = _
      rw [<- hcb];rfl
     ·intro j hj
      refine idx_l (c := d) (by omega) (by rw [Int.toNat_natCast];exact hd1) ?_
      have e110 : ((((d.toNat:Nat) : Int) : Int) == 110) = (d == 110) := u8e d 110
      have e116 : ((((d.toNat:Nat) : Int) : Int) == 116) = (d == 116) := u8e d 116
      have e92 : ((((d.toNat:Nat) : Int) : Int) == 92) = (d == 92) := u8e d 92
      rw [e110,e116,e92]
      have hx2 : (⟨⟨l⟩⟩ : ByteArray).extract ((i:Int).toNat) (((i + 2 : Nat) : Int).toNat) = ⟨⟨[92,d]⟩⟩ := by
       rw [Int.toNat_natCast,Int.toNat_natCast,ext_at,hd,h92'];rfl
      rw [hx2]
      unfold escP at hj
      cases h1 : d == 110 with
      | true => exact br_t rfl (hj _ (by rw [h1];rfl))
      | false =>
      cases h2 : d == 116 with
      | true => exact br_f rfl (br_t rfl (hj _ (by rw [h1,h2];rfl)))
      | false =>
      cases h3 : d == 92 with
      | true => exact br_f rfl (br_f rfl (br_t rfl (hj _ (by rw [h1,h2,h3];rfl))))
      | false => exact br_f rfl (br_f rfl (br_f rfl (hj _ (by rw [h1,h2,h3];rfl))))
    | false =>
     have hp : piecesP (f + 1) (c :: r) = if (c == 37) = true then (if headIs 37 ⟨⟨r⟩⟩ = true then (piecesP f (r.drop 1)).map (litP ⟨⟨[37]⟩⟩ :: ·) else match argP r with
      | none => none
      | some (p,r2) => (piecesP f r2).map (p :: ·)) else (piecesP f r).map (litP ⟨⟨[c]⟩⟩ :: ·) := by
      show (if (c == 92 && !r.isEmpty) = true then _ else _ : Option (List Pc)) = _
      rw [<- hcb];rfl
     refine br_f rfl (idx_l (c := c) (by omega) (by rw [Int.toNat_natCast];exact hc) ?_)
     have e37 : (((((c.toNat:Nat) : Int) : Int)) != 37) = !(c == 37) := by unfold bne;rw [show ((((c.toNat:Nat) : Int) : Int) == 37) = (c == 37) from u8e c 37]
     rw [e37]
     cases h37 : c == 37 with
     | false =>
      rw [h37,if_neg (by simp)] at hp
      refine br_t rfl ?_
      rw [w1]
      refine if_i ⟨bnd_some (by omega) (by rw [hls];omega),bnd_some (by omega) (by omega)⟩ ?_
      rw [Int.toNat_natCast,Int.toNat_natCast,ext_at,hd]
      refine RNew.app1 el_r2part hx (r := pcV (litP ⟨⟨[c]⟩⟩)) rfl rfl hlen ?_
      intro y τ2 h1 _ _
      exact go (litP ⟨⟨[c]⟩⟩) (i + 1) y τ2 (by omega) (by rw [<- mapT,hp,hr]) h1
     | true =>
      rw [h37,if_pos rfl] at hp
      refine br_f rfl ?_
      rw [w1]
      refine j_i (fun j => ∀ cb : Bool,cb = headIs 37 ⟨⟨r⟩⟩ -> j ⟨⟨l⟩⟩ x ((i + 1 : Nat) : Int) cb τ) ?_ ?_
      case refine_2 =>
       intro j hj
       rw [hls]
       cases r with
       | nil =>
        have : l.length <= i + 1 := List.drop_eq_nil_iff.1 hr
        exact br_f (by rw [decide_eq_false_iff_not];omega) (hj _ rfl)
       | cons d r2 =>
        obtain ⟨hd1,hd2⟩ := drop_head hr
        have hi2 := drop_lt hr
        exact br_t (by rw [decide_eq_true_eq];omega) (idx_l (c := d) (by omega) (by rw [Int.toNat_natCast];exact hd1) (hj _ (u8e d 37)))
      intro cb hcb37
      have w11 : IntKind.i64.wrap (((i + 1 : Nat) : Int) + 1) = ((i + 2 : Nat) : Int) := by rw [wrap_id (by omega) (by omega)];omega
      cases cb with
      | true =>
       rw [<- hcb37,if_pos rfl] at hp
       refine br_t rfl ?_
       refine RNew.app1 el_r2part hx (r := pcV (litP ⟨⟨[37]⟩⟩)) rfl rfl hlen ?_
       intro y τ2 h1 _ _
       rw [w11]
       refine go (litP ⟨⟨[37]⟩⟩) (i + 2) y τ2 (by omega) ?_ h1
       rw [<- mapT,hp,<- hr,List.drop_drop]
      | false =>
       rw [<- hcb37,if_neg (by simp)] at hp
       refine br_f rfl (al_i ?_);intro b τ1 g1 e1 n1
       refine st_i2 e1 sz_r2part (by rfl) (by rfl) ?_;intro τ2 p2
       have hx2 := hx.gr (g1.putF p2 n1)
       have e2 : τ2 b = some (.cells ⟨[.string ⟨⟨[]⟩⟩,.int .u8 0,.int .i64 0,.bool false]⟩ 158 (0,0)) := p2.same
       have nb : σ b = none := none_of hx.1 n1
       have hxb : x.base ≠ some ⟨b,0,none⟩ := fun e => hx.2.1.has e n1
       clear p2 e1 g1 hx
       refine j_i (fun j => ∀ (left:Bool) (n:Nat) (τ:H),n <= l.length -> i + 1 <= n -> argP r = argT left (digsP (l.drop n)) -> RNew σ τ 158 4 (pcRows acc) x -> τ b = some (.cells ⟨[.string ⟨⟨[]⟩⟩,.int .u8 0,.int .i64 0,.bool left]⟩ 158 (0,0)) -> j ⟨⟨l⟩⟩ x ((n:Nat) : Int) (some ⟨b,0,none⟩) τ) ?_ ?_
       case refine_2 =>
        intro j hj
        have hdd : argP r = if headIs 45 ⟨⟨r⟩⟩ then argT true (digsP (r.drop 1)) else argT false (digsP r) := rfl
        refine j_i (fun j => ∀ cb : Bool,cb = headIs 45 ⟨⟨r⟩⟩ -> j ⟨⟨l⟩⟩ x ((i + 1 : Nat) : Int) (some ⟨b,0,none⟩) cb τ2) ?_ ?_
        ·intro cb hcb45
         rw [<- hcb45] at hdd
         cases cb with
         | true =>
          have hd2 : argP r = argT true (digsP (l.drop (i + 2))) := by rw [hdd,if_pos rfl,<- hr,List.drop_drop]
          refine br_t rfl (ptr_i ?_)
          refine st_i2 e2 sz_bool (by rfl) (by rfl) ?_;intro τ3 p3
          rw [w11]
          have hi2 : i + 2 <= l.length := by
           cases hr0 : r with
           | nil => rw [hr0] at hcb45;cases hcb45
           | cons d r2 => rw [hr0] at hr;have := drop_lt hr;omega
          exact hj true (i + 2) τ3 hi2 (by omega) hd2 (hx2.putF p3 nb hxb) p3.same
         | false =>
          have hd2 : argP r = argT false (digsP (l.drop (i + 1))) := by rw [hdd,if_neg (by simp),hr]
          exact br_f rfl (hj false (i + 1) τ2 (by omega) (Nat.le_refl _) hd2 hx2 e2)
        ·intro j hj
         rw [hls]
         cases hr0 : r with
         | nil =>
          rw [hr0] at hr
          have : l.length <= i + 1 := List.drop_eq_nil_iff.1 hr
          exact br_f (by rw [decide_eq_false_iff_not];omega) (hj _ (by rw [hr0];rfl))
         | cons d r2 =>
          rw [hr0] at hr
          obtain ⟨hd1,hd2⟩ := drop_head hr
          have hi2 := drop_lt hr
          exact br_t (by rw [decide_eq_true_eq];omega) (idx_l (c := d) (by omega) (by rw [Int.toNat_natCast];exact hd1) (hj _ (by rw [hr0];exact u8e d 45)))
       intro left n0 τ0 hn0 hin hP hx0 hb0
       refine loop_i ?_
       intro R2 hR2
       have key2 : ∀ (f2 k w n:Nat) (τ:H),f2 + k = 2 -> w < 10 ^ k -> (k = 0 -> w = 0) -> (1 <= k -> 1 <= w) -> n <= l.length -> i + 1 <= n -> argP r = argT left (gdig f2 k w (l.drop n)) -> RNew σ τ 158 4 (pcRows acc) x -> τ b = some (.cells ⟨[.string ⟨⟨[]⟩⟩,.int .u8 0,.int .i64 ((w:Nat) : Int),.bool left]⟩ 158 (0,0)) -> R2 ⟨⟨l⟩⟩ x ((n:Nat) : Int) (some ⟨b,0,none⟩) ((k:Nat) : Int) τ := by
        intro f2
        induction f2 using Nat.strongRecOn with
        | ind f2 ih2 =>
         intro k w n τ hk hw hk0 hk1 hn hin hP hx hb
         refine hR2 _ _ _ _ _ _ ?_
         refine j_i (fun j => ∀ cb : Bool,cb = cnd f2 k (l.drop n) -> j ⟨⟨l⟩⟩ x ((n:Nat) : Int) (some ⟨b,0,none⟩) ((k:Nat) : Int) cb τ) ?_ ?_
         case refine_2 =>
          intro j hj
          match f2,hk,hj with
          | 0,hk,hj => exact br_f (by simp only [decide_eq_false_iff_not];omega) (hj _ rfl)
          | f2 + 1,hk,hj =>
           refine br_t (by simp only [decide_eq_true_eq];omega) ?_
           cases hm : l.drop n with
           | nil =>
            have : l.length <= n := List.drop_eq_nil_iff.1 hm
            rw [hm] at hj
            exact br_f (by rw [hls,decide_eq_false_iff_not];omega) (hj _ rfl)
           | cons c r =>
            obtain ⟨h1,h2⟩ := drop_head hm
            have hlt := drop_lt hm
            rw [hm] at hj
            have hc : cnd (f2 + 1) k (c :: r) = (dig c && (Nat.ble 1 k || !(c == 48))) := rfl
            have hd : dig c = (decide ((c.toNat:Int) >= 48) && decide ((c.toNat:Int) <= 57)) := by
             unfold dig
             rw [Bool.eq_iff_iff];simp only [Bool.and_eq_true,Nat.ble_eq,decide_eq_true_eq];omega
            refine br_t (by rw [hls,decide_eq_true_eq];omega) (idx_l (c := c) (by omega) (by rw [Int.toNat_natCast];exact h1) ?_)
            by_cases c1 : (c.toNat:Int) >= 48
            case neg => exact br_f (decide_eq_false c1) (hj _ (by rw [hc,hd,decide_eq_false c1];rfl))
            refine br_t (decide_eq_true c1) (idx_l (c := c) (by omega) (by rw [Int.toNat_natCast];exact h1) ?_)
            by_cases c2 : (c.toNat:Int) <= 57
            case neg => exact br_f (decide_eq_false c2) (hj _ (by rw [hc,hd,decide_eq_false c2,Bool.and_false];rfl))
            refine br_t (decide_eq_true c2) ?_
            rw [hd,decide_eq_true c1,decide_eq_true c2] at hc
            by_cases c3 : k = 0
            ·subst c3
             refine br_t rfl (idx_l (c := c) (by omega) (by rw [Int.toNat_natCast];exact h1) (hj _ ?_))
             rw [hc]
             show (!(((c.toNat:Nat) : Int) == ((48:UInt8).toNat : Int))) = _
             rw [u8e];rfl
            ·refine br_f (by simp only [beq_eq_false_iff_ne];omega) (hj _ ?_)
             rw [hc,Nat.ble_eq_true_of_le (by omega:1 <= k)];rfl
         intro cb hcb
         cases cb with
         | true =>
          obtain ⟨f',c,r',rfl,hm,hdg,hgd⟩ := gdig_yes (w := w) hcb.symm
          obtain ⟨h1,h2⟩ := drop_head hm
          have hlt := drop_lt hm
          have hr' := dig_rng hdg
          have hw2 : w < 10 := by
           have : k <= 1 := by omega
           rcases (by omega:k = 0 \/ k = 1) with e | e <;> subst e <;> omega
          have hw3 : 1 <= 10 * w + (c.toNat - 48) := by
           rcases Nat.eq_zero_or_pos k with e | e
           ·subst e
            have h3 : (dig c && (Nat.ble 1 0 || !(c == 48))) = true := by
             have h3 := hcb.symm
             rw [hm] at h3;exact h3
            rw [hdg] at h3
            have h4 : c ≠ 48 := by
             intro e;rw [e] at h3;revert h3;decide
            have h5 : c.toNat ≠ 48 := fun e => h4 (UInt8.toNat_inj.1 e)
            omega
           ·have := hk1 e;omega
          refine br_t rfl (ptr_i (rd_I (rdC_of hb (by rfl)) (idx_l (c := c) (by omega) (by rw [Int.toNat_natCast];exact h1) (ptr_i ?_))))
          have e1 : IntKind.u8.wrap (((c.toNat:Nat) : Int) - 48) = ((c.toNat - 48 : Nat) : Int) := by
           have : IntKind.u8.wrap (((c.toNat:Nat) : Int) - 48) = (((c.toNat:Nat) : Int) - 48) % 256 := rfl
           rw [this];omega
          rw [e1,wrap_id (x := 10 * ((w:Nat) : Int)) (by omega) (by omega),wrap_id (x := ((c.toNat - 48 : Nat) : Int)) (by omega) (by omega),wrap_id (by omega) (by omega),wrap_id (x := ((n:Nat) : Int) + 1) (by omega) (by omega),wrap_id (x := ((k:Nat) : Int) + 1) (by omega) (by omega)]
          refine st_i2 hb sz_int (by rfl) (by rfl) ?_;intro τ2 p2
          have k2 := p2.same
          rw [show 10 * ((w:Nat) : Int) + ((c.toNat - 48 : Nat) : Int) = ((10 * w + (c.toNat - 48) : Nat) : Int) by omega] at k2
          rw [show ((n:Nat) : Int) + 1 = ((n + 1 : Nat) : Int) by omega,show ((k:Nat) : Int) + 1 = ((k + 1 : Nat) : Int) by omega]
          refine ih2 f' (by omega) (k + 1) _ (n + 1) τ2 (by omega) ?_ (by omega) (fun _ => hw3) (by omega) (by omega) (by rw [hP,hgd,h2]) (hx.putF p2 nb hxb) k2
          rw [Nat.pow_succ];omega
         | false =>
          rw [gdig_no hcb.symm] at hP
          clear ih2 hcb hR2
          refine br_f rfl ?_
          refine j_i (fun j => ∀ cb : Bool,cb = (argP r).isNone -> j ⟨⟨l⟩⟩ x ((n:Nat) : Int) (some ⟨b,0,none⟩) cb τ) ?_ ?_
          case refine_2 =>
           intro j hj
           cases hm : l.drop n with
           | nil =>
            have : l.length <= n := List.drop_eq_nil_iff.1 hm
            rw [hm] at hP
            exact br_t (by rw [hls,decide_eq_true_eq];omega) (hj _ (by rw [hP];rfl))
           | cons c r' =>
            obtain ⟨h1,h2⟩ := drop_head hm
            have hlt := drop_lt hm
            rw [hm] at hP
            have hP2 : argP r = if !kindOkP c || (left && k == 0) then none else some (⟨⟨⟨[]⟩⟩,c,w,left⟩,r') := hP
            have hkd : kindOkP c = (c == 115 || (c == 100 || (c == 120 || c == 99))) := rfl
            have en : ∀ q : UInt8,((((c.toNat:Nat) : Int)) != ((q.toNat:Nat) : Int)) = !(c == q) := by intro q;unfold bne;rw [u8e]
            refine br_f (by rw [hls,decide_eq_false_iff_not];omega) ?_
            have fin : kindOkP c = true -> ptrW (some ⟨b,0,none⟩) (fun (b75 o76:Nat) => rdT (rdC b75 (o76 + 3)) kB (fun (x77:Bool) => brW x77 (ptrW (some ⟨b,0,none⟩) (fun (b78 o79:Nat) => rdT (rdC b78 (o79 + 2)) kI (fun (x80:Int) => j ⟨⟨l⟩⟩ x ((n:Nat) : Int) (some ⟨b,0,none⟩) ((x80:Int) == 0)))) (j ⟨⟨l⟩⟩ x ((n:Nat) : Int) (some ⟨b,0,none⟩) false))) τ := by
             intro hk3
             rw [hk3] at hP2
             refine ptr_i (rd_B (rdC_of hb (by rfl)) ?_)
             cases left with
             | false => exact br_f rfl (hj _ (by rw [hP2];rfl))
             | true =>
              refine br_t rfl (ptr_i (rd_I (rdC_of hb (by rfl)) (hj _ ?_)))
              rw [hP2]
              rcases Nat.eq_zero_or_pos k with e | e
              ·subst e;rw [hk0 rfl];rfl
              ·have h9 := hk1 e
               have e5 : (k == 0) = false := by simp;omega
               rw [e5]
               show (((w:Nat) : Int) == 0) = false
               simp;omega
            have e115 := en 115
            have e100 := en 100
            have e120 := en 120
            have e99 := en 99
            refine idx_l (c := c) (by omega) (by rw [Int.toNat_natCast];exact h1) ?_
            cases q1 : c == 115 with
            | true =>
             rw [q1] at e115
             exact br_f e115 (fin (by rw [hkd,q1];rfl))
            | false =>
            rw [q1] at e115
            refine br_t e115 (idx_l (c := c) (by omega) (by rw [Int.toNat_natCast];exact h1) ?_)
            cases q2 : c == 100 with
            | true =>
             rw [q2] at e100
             exact br_f e100 (fin (by rw [hkd,q1,q2];rfl))
            | false =>
            rw [q2] at e100
            refine br_t e100 (idx_l (c := c) (by omega) (by rw [Int.toNat_natCast];exact h1) ?_)
            cases q3 : c == 120 with
            | true =>
             rw [q3] at e120
             exact br_f e120 (fin (by rw [hkd,q1,q2,q3];rfl))
            | false =>
            rw [q3] at e120
            refine br_t e120 (idx_l (c := c) (by omega) (by rw [Int.toNat_natCast];exact h1) ?_)
            cases q4 : c == 99 with
            | true =>
             rw [q4] at e99
             exact br_f e99 (fin (by rw [hkd,q1,q2,q3,q4];rfl))
            | false =>
             rw [q4] at e99
             refine br_t e99 (hj _ ?_)
             rw [hP2,hkd,q1,q2,q3,q4];rfl
          intro cb hcb
          cases cb with
          | true =>
           refine br_t rfl (hN ?_ τ hx.1)
           rw [<- hT,hp,Option.isNone_iff_eq_none.1 hcb.symm];rfl
          | false =>
           cases hm : l.drop n with
           | nil => rw [hm] at hP;rw [hP] at hcb;cases hcb
           | cons c' r' =>
            obtain ⟨h1,h2⟩ := drop_head hm
            have hlt := drop_lt hm
            rw [hm] at hP
            have hP2 : argP r = if !kindOkP c' || (left && k == 0) then none else some (⟨⟨⟨[]⟩⟩,c',w,left⟩,r') := hP
            cases hq : (!kindOkP c' || (left && k == 0)) with
            | true => rw [hq] at hP2;rw [hP2] at hcb;cases hcb
            | false =>
             rw [hq,if_neg (by simp)] at hP2
             refine br_f rfl (idx_l (c := c') (by omega) (by rw [Int.toNat_natCast];exact h1) (ptr_i ?_))
             refine st_i2 hb sz_u8M (by rfl) (by rfl) ?_;intro τ2 p2
             have k2 : τ2 b = some (.cells ⟨pcV ⟨⟨⟨[]⟩⟩,c',w,left⟩⟩ 158 (0,0)) := p2.same
             unfold pcV at k2
             refine ptr_i (rd_G (rdA_of' k2 (by rfl)) ?_)
             (refine app_of rfl ?_;try dsimp only)
             refine RNew.app1 el_r2part (hx.putF p2 nb hxb) (r := pcV ⟨⟨⟨[]⟩⟩,c',w,left⟩) rfl rfl hlen ?_
             intro y τ5 h1 _ _
             rw [wrap_id (by omega) (by omega),show ((n:Nat) : Int) + 1 = ((n + 1 : Nat) : Int) by omega]
             exact go ⟨⟨⟨[]⟩⟩,c',w,left⟩ (n + 1) y τ5 (by omega) (by rw [<- mapT,hp,hP2,h2]) h1
       exact key2 2 0 0 n0 τ0 rfl (by decide) (fun _ => rfl) (fun h => by omega) hn0 hin hP hx0 hb0
 exact key l.length 0 [] ⟨none,0,0⟩ σ (by omega) (by simp) (by simp) (RNew.nil σ _ _)
end Go.Proofs.YthclifcpjnhmjaaGreatDoor

namespace Go.Proofs
open Go.Shelf
def Tryz.laysM171_ren : Go.Shelf.Ren := ⟨fun | 171 => 106 | 243 => 150 | 246 => 145 | 283 => 173 | 284 => 174 | 285 => 175 | 286 => 176 | 129 => 211 | 317 => 210 | 318 => 212 | 319 => 213 | 320 => 214 | 337 => 222 | 338 => 223 | n => n,fun | 3 => 3 | 9 => 9 | 2 => 2 | 4 => 4 | 171 => 209 | 0 => 0 | 53 => 134 | 37 => 22 | 5 => 5 | 173 => 212 | 212 => 236 | 51 => 131 | 20 => 20 | 213 => 237 | 46 => 63 | 232 => 251 | 233 => 252 | n => n,fun | 17 => 3 | 18 => 6 | 19 => 7 | n => n⟩
theorem Tryz.laysM171 : Go.Proofs.LaysM.n171 Tryz.prog Tryz.laysM171_ren := {
 mixed := by kernel_rfl
 f129 := Tryz.func211.trans (congrArg some (by kernel_rfl))
 f171 := Tryz.func106.trans (congrArg some (by kernel_rfl))
 f243 := Tryz.func150.trans (congrArg some (by kernel_rfl))
 f246 := Tryz.func145.trans (congrArg some (by kernel_rfl))
 f283 := Tryz.func173.trans (congrArg some (by kernel_rfl))
 f284 := Tryz.func174.trans (congrArg some (by kernel_rfl))
 f285 := Tryz.func175.trans (congrArg some (by kernel_rfl))
 f286 := Tryz.func176.trans (congrArg some (by kernel_rfl))
 f317 := Tryz.func210.trans (congrArg some (by kernel_rfl))
 f318 := Tryz.func212.trans (congrArg some (by kernel_rfl))
 f319 := Tryz.func213.trans (congrArg some (by kernel_rfl))
 f320 := Tryz.func214.trans (congrArg some (by kernel_rfl))
 f337 := Tryz.func222.trans (congrArg some (by kernel_rfl))
 f338 := Tryz.func223.trans (congrArg some (by kernel_rfl))
 t0 := Tryz.underlying0
 a0 := Tryz.isAgg0
 z0 := Tryz.sizeOf0
 v0 := Tryz.zeroValue0
 t2 := Tryz.underlying2
 a2 := Tryz.isAgg2
 z2 := Tryz.sizeOf2
 v2 := Tryz.zeroValue2
 t3 := Tryz.underlying3
 a3 := Tryz.isAgg3
 z3 := Tryz.sizeOf3
 v3 := Tryz.zeroValue3
 t4 := Tryz.underlying4
 a4 := Tryz.isAgg4
 z4 := Tryz.sizeOf4
 v4 := Tryz.zeroValue4
 t5 := Tryz.underlying5
 a5 := Tryz.isAgg5
 z5 := Tryz.sizeOf5
 v5 := Tryz.zeroValue5
 t9 := Tryz.underlying9
 a9 := Tryz.isAgg9
 z9 := Tryz.sizeOf9
 v9 := Tryz.zeroValue9
 t20 := Tryz.underlying20
 a20 := Tryz.isAgg20
 z20 := Tryz.sizeOf20
 v20 := Tryz.zeroValue20
 t37 := Tryz.underlying22
 a37 := Tryz.isAgg22
 z37 := Tryz.sizeOf22
 v37 := Tryz.zeroValue22
 t46 := Tryz.underlying63
 a46 := Tryz.isAgg63
 z46 := Tryz.sizeOf63
 v46 := Tryz.zeroValue63
 t51 := Tryz.underlying131
 a51 := Tryz.isAgg131
 z51 := Tryz.sizeOf131
 v51 := Tryz.zeroValue131
 t53 := Tryz.underlying134
 a53 := Tryz.isAgg134
 z53 := Tryz.sizeOf134
 v53 := Tryz.zeroValue134
 t171 := Tryz.underlying209
 a171 := Tryz.isAgg209
 z171 := Tryz.sizeOf209
 v171 := Tryz.zeroValue209
 t173 := Tryz.underlying212
 a173 := Tryz.isAgg212
 z173 := Tryz.sizeOf212
 v173 := Tryz.zeroValue212
 t212 := Tryz.underlying236
 a212 := Tryz.isAgg236
 z212 := Tryz.sizeOf236
 v212 := Tryz.zeroValue236
 t213 := Tryz.underlying237
 a213 := Tryz.isAgg237
 z213 := Tryz.sizeOf237
 t232 := Tryz.underlying251
 a232 := Tryz.isAgg251
 z232 := Tryz.sizeOf251
 v232 := Tryz.zeroValue251
 t233 := Tryz.underlying252
 a233 := Tryz.isAgg252
 z233 := Tryz.sizeOf252
 v233 := Tryz.zeroValue252
 g17 := by kernel_rfl
 g18 := by kernel_rfl
 g19 := by kernel_rfl
 i0 := by kernel_rfl
 i2 := by kernel_rfl
 i3 := by kernel_rfl
 i4 := by kernel_rfl
 i5 := by kernel_rfl
 i9 := by kernel_rfl
 i20 := by kernel_rfl
 i37 := by kernel_rfl
 i46 := by kernel_rfl
 i51 := by kernel_rfl
 i53 := by kernel_rfl
 i171 := by kernel_rfl
 i173 := by kernel_rfl
 i212 := by kernel_rfl
 i232 := by kernel_rfl
 i233 := by kernel_rfl
 m17 := by kernel_rfl
 m18 := by kernel_rfl
 m19 := by kernel_rfl }
end Go.Proofs

set_option maxRecDepth 100000
namespace Go.Proofs.YthclifcpjnhmjaaGreatDoor
open Go Go.HL Go.Wk
theorem x_Itoa (n:Int) (h1:-1000000000000000 < n) (h2:n < 1000000000000000) {σ : H} (hT:Tabs σ) {K : KH} (hK:K (.string (fmtP 10 n)) σ) : callW Tryz.prog 106 [.int .i64 n] K σ := by
 intro w hw
 refine callsIn_wide.2 ((Any.strconv_Itoa Tryz.laysM171 n (by omega) (by omega) w (hT.p10.is hw (by kernel_rfl))).mono ?_)
 rintro en w' ⟨rfl,k,os,hb⟩
 refine ⟨_,rfl,σ,ext_below hw (hb ▸ below_gr w k os),?_⟩
 rw [<- itoa_fmt h1 h2] at hK;exact hK
attribute [local irreducible] ptrW ifW brW andW rdT alW letJ stW muW biW vaW imW callT cvalT app callW invW callVW sizeT oW nilF oneK loopW rfW funW begW roundK exW idxW Gr Put
theorem consP_ne {p : Pc} (h:consP p = true) : (p.kind == 0) = false := by
 cases hk : p.kind == 0 with
 | false => rfl
 | true =>
  have : p.kind = 0 := by simpa using hk
  unfold consP at h
  rw [this] at h;cases h
theorem kind_cons {p : Pc} (h:PcK p) : consP p = !(p.kind == 0) := by
 rcases h with ⟨h,_⟩ | ⟨h,_⟩
 ·unfold consP;rw [h];rfl
 ·rw [h,consP_ne h];rfl
theorem getD_rng (s:ByteArray) : -1000000000000000 < (wholeP s).getD 0 /\ (wholeP s).getD 0 < 1000000000000000 := by
 cases hw : wholeP s with
 | none => decide
 | some n => exact whole_rng hw
theorem whole_fmt (s:ByteArray) : wholeP (fmtP 10 ((wholeP s).getD 0)) = some ((wholeP s).getD 0) := whole_say (getD_rng s).1 (getD_rng s).2
def preP (s:PS) (p:Pc) : ByteArray := if p.kind == 100 || p.kind == 120 then fmtP 10 ((wholeP s.a0).getD 0) else s.a0
theorem took1_args (nm:ByteArray) (s:PS) (p:Pc) : (s.took1 nm p).args = s.args.drop 1 := by
 unfold PS.took1
 split
 ·exact (num_f nm s).1
 ·rfl
def dC (s:PS) : List Value := [.string s.out,.string s.err,.int .i64 s.st]
def padL (p:Pc) (s:ByteArray) (n:Nat) : ByteArray := if p.left then s ++ spaces n else spaces n ++ s
theorem padL_size (p:Pc) (s:ByteArray) (n:Nat) : (padL p s n).size = s.size + n := by
 unfold padL
 split <;> rw [ByteArray.size_append,spaces_size] <;> omega
theorem padL_succ (p:Pc) (s:ByteArray) (n:Nat) : padL p s (n + 1) = if p.left then padL p s n ++ ⟨⟨[32]⟩⟩ else ⟨⟨[32]⟩⟩ ++ padL p s n := by
 unfold padL
 cases p.left with
 | true => rw [if_pos rfl,if_pos rfl,if_pos rfl,(spaces_succ n).2,ByteArray.append_assoc]
 | false => rw [if_neg (by simp),if_neg (by simp),if_neg (by simp),(spaces_succ n).1,ByteArray.append_assoc]
theorem padL_zero (p:Pc) (s:ByteArray) : padL p s 0 = s := by
 unfold padL
 split
 ·exact app_nil s
 ·exact nil_app s
theorem drop_nth {r args : List ByteArray} {n : Nat} (h:args = r.drop n) (hn:n < r.length) : ∃ a q,args = a :: q /\ r[n]? = some a /\ q = r.drop (n + 1) := by
 refine ⟨r[n],r.drop (n + 1),?_,List.getElem?_eq_getElem hn,rfl⟩
 rw [h,List.drop_eq_getElem_cons hn]
section
variable {σ : H}
set_option maxHeartbeats 1000000 in
theorem r_printf (nm inn cwd:ByteArray) {x : Sl} {args : List ByteArray} (hx:RowsAt σ 1 (strRows args) x) (hc:x.len <= x.cap) (hT:Tabs σ) (hn:nm.size <= 1000) (ha:∀ a ∈ args,a.size <= 1000) (hl:args.length <= 20) {K : KH} (hK:∀ σ',Gr σ σ' -> K (.agg ⟨dnV (printfP nm args)⟩) σ') :
 callW Tryz.prog 55 [.agg ⟨[.string nm,.slice x.base x.len x.cap,.string inn,.string cwd]⟩] K σ := by
 refine c55 _ _ _ _ ?_
 unfold g55
 have hxl := sLen hx
 refine al_i ?_;intro b5 σ1 g1 e1 n1
 refine al_i ?_;intro b6 σ2 g2 e2 n2
 have k5 := g2.get e1
 have G2 := g1.trans g2
 have f6 : σ b6 = none := none_of g1 n2
 refine rd_Y (y := x) (rdC_of k5 (by rfl)) ?_
 cases args with
 | nil =>
  refine br_t (by rw [hxl];rfl) (rd_G (rdA_of' k5 (by rfl)) ?_)
  (refine app_of rfl ?_;try dsimp only)
  refine call_i (r_usage nm inn cwd x (by omega) ?_)
  unfold dnV
  (refine app_of rfl ?_;try dsimp only)
  refine st_i2 e2 sz_Done (by rfl) (by rfl) ?_;intro σ3 p3
  refine rd_G (rdA_of' p3.same (by rfl)) ?_
  (refine app_of rfl ?_;try dsimp only)
  exact hK σ3 (G2.putF p3 f6)
 | cons a r =>
  rw [List.length_cons] at hxl hl
  have hal := ha a (List.mem_cons_self ..)
  obtain ⟨g,o,a1,a2,a3⟩ := sRow (hx.gr G2) (i := 0) (s := a) rfl
  refine br_f (by rw [beq_eq_false_iff_ne];omega) (rd_Y (y := x) (rdC_of k5 (by rfl)) ?_)
  rw [a1]
  refine ptr_i (if_i ⟨by decide,by omega⟩ (rd_S a3 ?_))
  rw [printfP_cons] at hK
  refine call_i (r_form a.data.toList (by rw [<- size_list];omega) ?_ ?_)
  ·intro hps σ3 g3
   have hK := hK
   rw [show piecesP a.size a.data.toList = none from by rw [size_list];exact hps] at hK
   (refine app_of rfl ?_;try dsimp only)
   refine br_t rfl (rd_G (rdA_of' (g3.get k5) (by rfl)) ?_)
   (refine app_of rfl ?_;try dsimp only)
   refine call_i (r_usage nm inn cwd x (by omega) ?_)
   unfold dnV
   (refine app_of rfl ?_;try dsimp only)
   refine st_i2 (g3.get e2) sz_Done (by rfl) (by rfl) ?_;intro σ4 p4
   refine rd_G (rdA_of' p4.same (by rfl)) ?_
   (refine app_of rfl ?_;try dsimp only)
   exact hK σ4 ((G2.trans g3).putF p4 f6)
  intro ps hps y σ3 hy
  rw [show piecesP a.size a.data.toList = some ps from by rw [size_list];exact hps] at hK
  obtain ⟨hpo,hpl⟩ := pieces_ok _ _ _ hps
  have hpk := pieces_k _ _ _ hps
  rw [<- size_list] at hpl
  have g3 := hy.1
  have G3 := G2.trans g3
  have q5 := g3.get k5
  have q6 := g3.get e2
  have hyl := hy.len
  rw [pcRows_len] at hyl
  have hya := hy.at
  have hx3 := hx.gr G3
  (refine app_of rfl ?_;try dsimp only)
  refine br_f rfl (loop_i ?_)
  intro R0 hR0
  have keyT : ∀ (c i:Nat),c + i = ps.length -> R0 (some ⟨b5,0,none⟩) (some ⟨b6,0,none⟩) y (((ps.take i).countP consP : Nat) : Int) (i:Int) σ3 := by
   intro c
   induction c with
   | succ c ih =>
    intro i hci
    obtain ⟨pc,hpc⟩ : ∃ pc,ps[i]? = some pc := ⟨_,List.getElem?_eq_getElem (by omega)⟩
    obtain ⟨gy,oy,y1,_,y3⟩ := hya.rdA (i := i) (r := pcV pc) (by unfold pcRows;rw [List.getElem?_map,hpc];rfl) (by decide)
    have y4 := y3 1 _ rfl
    have htk : (ps.take (i + 1)).countP consP = (ps.take i).countP consP + (if consP pc then 1 else 0) := by
     rw [List.take_add_one,hpc,List.countP_append];simp [List.countP_cons]
    have hcn : (ps.take i).countP consP <= ps.length := by
     have := List.countP_le_length (p := consP) (l := ps.take i)
     rw [List.length_take] at this;omega
    refine hR0 _ _ _ _ _ _ ?_
    refine br_t (by rw [decide_eq_true_eq];omega) ?_
    refine j_i (fun j => j (some ⟨b5,0,none⟩) (some ⟨b6,0,none⟩) y (((ps.take (i + 1)).countP consP : Nat) : Int) (i:Int) σ3) ?_ ?_
    ·rw [wrapS (i := i) (by omega)]
     exact ih (i + 1) (by omega)
    ·intro j hj
     rw [y1]
     refine ptr_i (if_i ⟨by omega,by omega⟩ (rd_I (by rw [Int.toNat_natCast];exact y4) ?_))
     have e0 : ((((pc.kind.toNat:Nat) : Int)) != 0) = consP pc := by
      rw [kind_cons (hpk pc (List.mem_of_getElem? hpc))]
      unfold bne
      rw [show ((((pc.kind.toNat:Nat) : Int)) == 0) = (pc.kind == 0) from u8e pc.kind 0]
     rw [e0]
     rw [htk] at hj
     cases hcp : consP pc with
     | true =>
      rw [hcp,if_pos rfl] at hj
      refine br_t rfl ?_
      rw [wrap_id (by omega) (by omega)]
      exact hj
     | false =>
      rw [hcp,if_neg (by simp)] at hj
      exact br_f rfl hj
   | zero =>
    intro i hci
    refine hR0 _ _ _ _ _ _ ?_
    rw [List.take_of_length_le (by omega)]
    refine br_f (by rw [decide_eq_false_iff_not];omega) (ptr_i (rd_Y (y := x) (rdC_of q5 (by rfl)) ?_))
    refine if_i ⟨bnd_none,bnd_some (by decide) (by omega)⟩ (al_i ?_);intro b52 σ4 g4 e4 n4
    have hz : RowsAt σ3 1 (strRows r) ⟨slBase x.base ((1:Int).toNat) x.cap 1,x.len - ((1:Int).toNat),x.cap - ((1:Int).toNat)⟩ := sTail hx3 hc
    generalize (⟨slBase x.base ((1:Int).toNat) x.cap 1,x.len - ((1:Int).toNat),x.cap - ((1:Int).toNat)⟩ : Sl) = z at hz ⊢
    have hzl := sLen hz
    generalize hTT : ps.countP consP = T
    have hTc : T <= ps.length := by rw [<- hTT];exact List.countP_le_length
    have hTany : ps.any consP = decide (0 < T) := by
     rw [Bool.eq_iff_iff,decide_eq_true_eq,<- hTT,List.countP_pos_iff,List.any_eq_true]
    have hTT3 := hT.gr G3
    refine loop_i ?_
    intro R hR
    have key : ∀ (f:Nat) (s:PS) (τ:H) (k at_:Nat),s.args.length < f -> f <= 21 -> Gr σ3 τ -> τ b52 = some (.cells ⟨dC s⟩ 35 (0,0)) -> s.args = r.drop at_ -> at_ <= r.length -> PB k s -> k <= (21 - f) * 1000 -> (s.took = true -> ps.any consP = true) -> formR nm r (some ps) = ⟨(PS.loop nm ps f s).out,(PS.loop nm ps f s).err,(PS.loop nm ps f s).st⟩ -> R (some ⟨b5,0,none⟩) (some ⟨b6,0,none⟩) y (T:Int) z (some ⟨b52,0,none⟩) (at_:Int) τ := by
     intro f
     induction f with
     | zero => intro s τ k at_ h;cases h
     | succ f ih =>
      intro s τ k at_ hsl hf hg hd hargs hat hB hk htk hS
      refine hR _ _ _ _ _ _ _ _ (loop_i ?_)
      intro R2 hR2
      have hpass := pass_ok hn ps k s hB hpo
      have key2 : ∀ (c i:Nat) (s':PS) (τ':H) (at':Nat),c + i = ps.length -> s' = (ps.take i).foldl (PS.piece nm) s -> Gr σ3 τ' -> τ' b52 = some (.cells ⟨dC s'⟩ 35 (0,0)) -> s'.args = r.drop at' -> at' <= r.length -> PB (k + i) s' -> R2 (some ⟨b5,0,none⟩) (some ⟨b6,0,none⟩) y (T:Int) z (some ⟨b52,0,none⟩) (at':Int) (i:Int) τ' := by
       intro c
       induction c with
       | zero =>
        intro i s' τ' at' hci hs' hg' hd' hargs' hat' hB'
        rw [List.take_of_length_le (by omega)] at hs'
        have hs2 : s' = s.pass nm ps := hs'
        rw [<- hs2] at hpass
        refine hR2 _ _ _ _ _ _ _ _ _ (br_f (by rw [decide_eq_false_iff_not];omega) ?_)
        have hL : PS.loop nm ps (f + 1) s = if s'.took && !s'.args.isEmpty then PS.loop nm ps f s' else s' := by rw [hs2];rfl
        have hemp : s'.args.isEmpty = decide (at' >= r.length) := by
         rw [hargs',Bool.eq_iff_iff,List.isEmpty_iff,List.drop_eq_nil_iff,decide_eq_true_eq]
        have htook : s'.took = ps.any consP := by
         rw [hpass.2.2]
         cases h1 : s.took with
         | false => rfl
         | true => rw [htk h1];rfl
        refine j_i (fun j => ∀ cb : Bool,cb = (decide (T = 0) || decide (at' >= r.length)) -> j (some ⟨b5,0,none⟩) (some ⟨b6,0,none⟩) y (T:Int) z (some ⟨b52,0,none⟩) (at':Int) cb τ') ?_ ?_
        case refine_2 =>
         intro j hj
         by_cases h0 : T = 0
         ·exact br_t (by rw [beq_iff_eq];omega) (hj _ (by rw [decide_eq_true h0];rfl))
         ·refine br_f (by rw [beq_eq_false_iff_ne];omega) (hj _ ?_)
          rw [decide_eq_false h0,Bool.false_or,hzl]
          by_cases h1 : at' >= r.length
          ·rw [decide_eq_true h1,decide_eq_true_eq];omega
          ·rw [decide_eq_false h1,decide_eq_false_iff_not];omega
        intro cb hcb
        cases cb with
        | true =>
         have hno : (s'.took && !s'.args.isEmpty) = false := by
          rw [htook,hTany,hemp]
          have := hcb.symm
          rw [Bool.or_eq_true,decide_eq_true_eq,decide_eq_true_eq] at this
          rcases this with h | h
          ·rw [decide_eq_false (by omega)];rfl
          ·rw [decide_eq_true h];simp
         rw [hL,if_neg (by rw [hno];simp)] at hS
         unfold dC at hd'
         refine br_t rfl (ptr_i (rd_G (rdA_of' hd' (by rfl)) ?_))
         (refine app_of rfl ?_;try dsimp only)
         refine st_i2 (hg'.get q6) sz_Done (by rfl) (by rfl) ?_;intro τ2 p2
         refine ptr_i (rd_G (rdA_of' p2.same (by rfl)) ?_)
         (refine app_of rfl ?_;try dsimp only)
         have := hK τ2 ((G3.trans hg').putF p2 f6)
         rw [hS] at this
         exact this
        | false =>
         have hcb' := hcb.symm
         rw [Bool.or_eq_false_iff,decide_eq_false_iff_not,decide_eq_false_iff_not] at hcb'
         obtain ⟨c1,c2⟩ := hcb'
         have hyes : (s'.took && !s'.args.isEmpty) = true := by
          rw [htook,hTany,hemp,decide_eq_true (by omega),decide_eq_false c2];rfl
         rw [hL,if_pos hyes] at hS
         have htk' : s'.took = true := (Bool.and_eq_true .. ▸ hyes).1
         have hne' : s'.args ≠ [] := by
          intro e;rw [e] at hyes;simp at hyes
         obtain ⟨l1,l2⟩ := pass_less hn hB hpo htk (by rw [<- hs2];exact htk') (by rw [<- hs2];exact hne')
         rw [<- hs2] at l1
         refine br_f rfl (ih s' τ' (k + ps.length) at' (by omega) (by omega) hg' hd' hargs' hat' hpass.1 ?_ (fun _ => l2) hS)
         rw [show 21 - f = (21 - (f + 1)) + 1 by omega,Nat.add_mul];omega
       | succ c ih2 =>
        intro i s' τ' at' hci hs' hg' hd' hargs' hat' hB'
        obtain ⟨pc,hpc⟩ : ∃ pc,ps[i]? = some pc := ⟨_,List.getElem?_eq_getElem (by omega)⟩
        have hpm := List.mem_of_getElem? hpc
        have hpo1 := hpo pc hpm
        have hkp := hpk pc hpm
        have hki : k + i <= 100000 := by
         have : (21 - (f + 1)) * 1000 <= 21 * 1000 := Nat.mul_le_mul_right _ (by omega)
         omega
        have hB1 := (piece_ok hn hB' hpo1).1
        have ha0 := hB'.a0
        obtain ⟨gy,oy,y1,y2,_⟩ := hya.rdA (i := i) (r := pcV pc) (by unfold pcRows;rw [List.getElem?_map,hpc];rfl) (by decide)
        refine hR2 _ _ _ _ _ _ _ _ _ (br_t (by rw [decide_eq_true_eq];omega) ?_)
        refine j_i (fun j => ∀ (τ1:H) (at1:Nat) (s2:PS),Gr σ3 τ1 -> τ1 b52 = some (.cells ⟨dC s2⟩ 35 (0,0)) -> s2 = PS.piece nm s' pc -> s2.args = r.drop at1 -> at1 <= r.length -> j (some ⟨b5,0,none⟩) (some ⟨b6,0,none⟩) y (T:Int) z (some ⟨b52,0,none⟩) (at1:Int) (i:Int) τ1) ?_ ?_
        ·intro τ1 at1 s2 h1 h2 h3 h4 h5
         rw [wrapS (i := i) (by omega)]
         refine ih2 (i + 1) s2 τ1 at1 (by omega) ?_ h1 h2 h4 h5 (by rw [h3];exact hB1)
         rw [h3,hs',List.take_add_one,hpc,List.foldl_append];rfl
        intro j70 hj70
        rw [y1]
        refine ptr_i (if_i ⟨by omega,by omega⟩ (rd_G (by rw [Int.toNat_natCast];exact rdA_gr hg' y2) ?_))
        unfold pcV
        (refine app_of rfl ?_;try dsimp only)
        refine al_i ?_;intro b85 τ1 h1 w1 m1
        refine st_i2 w1 sz_r2part (by rfl) (by rfl) ?_;intro τ2 p2
        have k85 : τ2 b85 = some (.cells ⟨pcV pc⟩ 158 (0,0)) := p2.same
        have q2 := h1.putF p2 m1
        have hg2 := hg'.trans q2
        have hd2 := q2.get hd'
        have hne85 : b52 ≠ b85 := fun e => by rw [<- e,hd'] at m1;cases m1
        have n52 : σ3 b52 = none := n4
        clear p2 w1 m1 h1
        unfold pcV at k85
        refine rd_I (rdC_of k85 (by rfl)) ?_
        rw [show ((((pc.kind.toNat:Nat) : Int)) == 0) = (pc.kind == 0) from u8e pc.kind 0]
        rcases hkp with hkt | ⟨hcp,htx⟩
        ·-- a text
         have hpt := piece_text nm s' hkt
         refine br_t (by rw [hkt.1];rfl) ?_
         unfold dC at hd2
         refine ptr_i (rd_S (rdC_of hd2 (by rfl)) (rd_S (rdC_of k85 (by rfl)) (if_i ?_ (ptr_i ?_))))
         ·have := hB'.out
          have := hpo1.text
          omega
         refine st_i2 hd2 sz_string (by rfl) (by rfl) ?_;intro τ3 p3
         exact hj70 τ3 at' { s' with out := s'.out ++ pc.text } (hg2.putF p3 n52) p3.same hpt.symm hargs' hat'
        have hpc1 := piece_cons nm s' hcp
        refine br_f (consP_ne hcp) ?_
        -- what is said is padded
        have e115 : ((((pc.kind.toNat:Nat) : Int)) == 115) = (pc.kind == 115) := u8e pc.kind 115
        have e100 : ((((pc.kind.toNat:Nat) : Int)) == 100) = (pc.kind == 100) := u8e pc.kind 100
        have e120 : ((((pc.kind.toNat:Nat) : Int)) == 120) = (pc.kind == 120) := u8e pc.kind 120
        have e99 : ((((pc.kind.toNat:Nat) : Int)) == 99) = (pc.kind == 99) := u8e pc.kind 99
        have hsd : (s'.said pc).size <= 1000 := by
         unfold PS.said
         split
         ·exact ha0
         ·split
          ·have := fmtP_size 10 ((wholeP s'.a0).getD 0);omega
          ·split
           ·have := fmtP_size 16 ((wholeP s'.a0).getD 0);omega
           ·rw [ByteArray.size_extract];omega
        have hpre : (preP s' pc).size <= 1000 := by
         unfold preP
         split
         ·have := fmtP_size 10 ((wholeP s'.a0).getD 0);omega
         ·exact ha0
        have hout : (s'.took1 nm pc).out.size <= 3000 * (k + i) := by
         have h1 : (s'.took1 nm pc).out = s'.out := by
          unfold PS.took1
          split
          ·exact (num_f nm s').2.2.1
          ·rfl
         rw [h1];exact hB'.out
        refine j_i (fun j => ∀ (τ3:H) (at1:Nat) (s1:ByteArray),Gr σ3 τ3 -> τ3 b85 = some (.cells ⟨[.string pc.text,.int .u8 ((pc.kind.toNat:Nat) : Int),.int .i64 ((pc.width:Nat) : Int),.bool pc.left]⟩ 158 (0,0)) -> τ3 b52 = some (.cells ⟨dC (s'.took1 nm pc)⟩ 35 (0,0)) -> (s'.took1 nm pc).args = r.drop at1 -> at1 <= r.length -> s1 = preP s' pc -> j (some ⟨b5,0,none⟩) (some ⟨b6,0,none⟩) y (T:Int) z (some ⟨b52,0,none⟩) (at1:Int) (i:Int) (some ⟨b85,0,none⟩) s1 τ3) ?_ ?_
        ·intro τ3 at1 s1 i1 i2 i3 i4 i5 i6
         refine j_i (fun j => ∀ s3 : ByteArray,s3.size <= 1000 -> (if (pc.kind == 99) = true then s3.extract 0 (min s3.size 1) else s3) = s'.said pc -> j (some ⟨b5,0,none⟩) (some ⟨b6,0,none⟩) y (T:Int) z (some ⟨b52,0,none⟩) (at1:Int) (i:Int) (some ⟨b85,0,none⟩) s3 τ3) ?_ ?_
         ·intro s3 hz3 hs3
          refine j_i (fun j => j (some ⟨b5,0,none⟩) (some ⟨b6,0,none⟩) y (T:Int) z (some ⟨b52,0,none⟩) (at1:Int) (i:Int) (some ⟨b85,0,none⟩) (s'.said pc) τ3) ?_ ?_
          ·refine loop_i ?_
           intro R3 hR3
           have hwd := hpo1.width
           have key3 : ∀ (c j:Nat),c + j = pc.width - (s'.said pc).size -> R3 (some ⟨b5,0,none⟩) (some ⟨b6,0,none⟩) y (T:Int) z (some ⟨b52,0,none⟩) (at1:Int) (i:Int) (some ⟨b85,0,none⟩) (padL pc (s'.said pc) j) τ3 := by
            intro c
            induction c with
            | zero =>
             intro j hcj
             have hps := padL_size pc (s'.said pc) j
             unfold dC at i3
             refine hR3 _ _ _ _ _ _ _ _ _ _ _ (ptr_i (rd_I (rdC_of i2 (by rfl)) (br_f (by rw [decide_eq_false_iff_not];omega) ?_)))
             refine ptr_i (rd_S (rdC_of i3 (by rfl)) (if_i (by omega) (ptr_i ?_)))
             refine st_i2 i3 sz_string (by rfl) (by rfl) ?_;intro τ4 p4
             refine hj70 τ4 at1 { (s'.took1 nm pc) with out := (s'.took1 nm pc).out ++ padL pc (s'.said pc) j } (i1.putF p4 n52) p4.same ?_ i4 i5
             rw [hpc1]
             rw [Nat.zero_add] at hcj
             rw [hcj];rfl
            | succ c ih3 =>
             intro j hcj
             have hps := padL_size pc (s'.said pc) j
             have hp1 := padL_succ pc (s'.said pc) j
             refine hR3 _ _ _ _ _ _ _ _ _ _ _ (ptr_i (rd_I (rdC_of i2 (by rfl)) (br_t (by rw [decide_eq_true_eq];omega) (ptr_i (rd_B (rdC_of i2 (by rfl)) ?_)))))
             have hn3 := ih3 (j + 1) (by omega)
             rw [hp1] at hn3
             cases hlf : pc.left with
             | true =>
              rw [hlf,if_pos rfl] at hn3
              exact br_t rfl (if_i (by rw [hps];show _ + 1 <= _;omega) hn3)
             | false =>
              rw [hlf,if_neg (by simp)] at hn3
              exact br_f rfl (if_i (by rw [hps];show 1 + _ <= _;omega) hn3)
           have := key3 (pc.width - (s'.said pc).size) 0 rfl
           rw [padL_zero] at this
           exact this
          ·intro j115 hj115
           refine ptr_i (rd_I (rdC_of i2 (by rfl)) ?_)
           cases hk9 : pc.kind == 99 with
           | true =>
            rw [hk9] at e99 hs3
            rw [if_pos rfl] at hs3
            refine br_t e99 ?_
            rw [min_1]
            refine if_i ⟨bnd_some (by omega) (by omega),bnd_none⟩ ?_
            rw [Int.toNat_natCast,hs3];exact hj115
           | false =>
            rw [hk9] at e99 hs3
            rw [if_neg (by simp)] at hs3
            refine br_f e99 ?_
            rw [hs3];exact hj115
         ·intro j104 hj104
          refine ptr_i (rd_I (rdC_of i2 (by rfl)) ?_)
          have hcp2 : (pc.kind == 115 || (pc.kind == 100 || (pc.kind == 120 || pc.kind == 99))) = true := hcp
          cases hk2 : pc.kind == 120 with
          | true =>
           have hke : pc.kind = 120 := by simpa using hk2
           rw [hk2] at e120
           have hpv : preP s' pc = fmtP 10 ((wholeP s'.a0).getD 0) := by unfold preP;rw [hke];rfl
           have hsv : s'.said pc = fmtP 16 ((wholeP s'.a0).getD 0) := by unfold PS.said;rw [hke];rfl
           rw [i6,hpv]
           have hfs := fmtP_size 10 ((wholeP s'.a0).getD 0)
           refine br_t e120 (call_i (r_whole (fmtP 10 ((wholeP s'.a0).getD 0)).data.toList (by rw [<- size_list];omega) ?_))
           rw [show (⟨⟨(fmtP 10 ((wholeP s'.a0).getD 0)).data.toList⟩⟩ : ByteArray) = fmtP 10 ((wholeP s'.a0).getD 0) from rfl,whole_fmt]
           (refine app_of rfl ?_;try dsimp only)
           refine call_i (r_hex _ (getD_rng s'.a0).1 (getD_rng s'.a0).2 (app_S ?_))
           refine hj104 _ ?_ ?_
           ·have := fmtP_size 16 ((wholeP s'.a0).getD 0)
            show (fmtP 16 ((wholeP s'.a0).getD 0)).size <= 1000
            omega
           ·rw [hke,hsv];rfl
          | false =>
           rw [hk2] at e120
           refine br_f e120 (hj104 _ (by rw [i6];exact hpre) ?_)
           rw [i6]
           unfold preP PS.said
           cases hk5 : pc.kind == 115 with
           | true =>
            have hke : pc.kind = 115 := by simpa using hk5
            rw [hke];rfl
           | false =>
           cases hk1 : pc.kind == 100 with
           | true =>
            have hke : pc.kind = 100 := by simpa using hk1
            rw [hke];rfl
           | false =>
            rw [hk5,hk1,hk2] at hcp2
            have hke : pc.kind = 99 := by simpa using hcp2
            rw [hke];rfl
        intro j93 hj93
        have hdx : ∀ b : Bool,b = (pc.kind == 100 || pc.kind == 120) -> ((if b then s'.num nm else s'.next) = s'.took1 nm pc /\ (if b then fmtP 10 ((wholeP s'.a0).getD 0) else s'.a0) = preP s' pc) := by
         intro b hb
         subst hb
         exact ⟨rfl,rfl⟩
        have htka := took1_args nm s' pc
        by_cases hat1 : at' < r.length
        ·obtain ⟨av,q,ea,er,eq⟩ := drop_nth hargs' hat1
         have ea0 : s'.a0 = av := by unfold PS.a0;rw [ea]
         have hav : av.size <= 1000 := by rw [<- ea0];exact ha0
         have hta : (s'.took1 nm pc).args = r.drop (at' + 1) := by rw [htka,ea,eq];rfl
         obtain ⟨gz,oz,z1,z2,z3⟩ := sRow (hz.gr hg2) er
         refine br_t (by rw [decide_eq_true_eq];omega) ?_
         rw [z1]
         refine ptr_i (if_i ⟨by omega,by omega⟩ (rd_S (by rw [Int.toNat_natCast];exact z3) ?_))
         refine j_i (fun j => ∀ cb : Bool,cb = (pc.kind == 100 || pc.kind == 120) -> j (some ⟨b5,0,none⟩) (some ⟨b6,0,none⟩) y (T:Int) z (some ⟨b52,0,none⟩) ((at' + 1 : Nat) : Int) (i:Int) (some ⟨b85,0,none⟩) av cb τ2) ?_ ?_
         ·intro cb hcb
          obtain ⟨hd3,hd4⟩ := hdx cb hcb
          cases cb with
          | false =>
           refine br_f rfl (hj93 τ2 (at' + 1) av hg2 k85 ?_ hta (by omega) ?_)
           ·rw [<- hd3];exact hd2
           ·rw [<- hd4,<- ea0];rfl
          | true =>
           replace hd3 : s'.num nm = s'.took1 nm pc := hd3
           replace hd4 : fmtP 10 ((wholeP s'.a0).getD 0) = preP s' pc := hd4
           rw [ea0] at hd4
           refine br_t rfl (call_i (r_whole av.data.toList (by rw [<- size_list];omega) ?_))
           rw [show (⟨⟨av.data.toList⟩⟩ : ByteArray) = av from rfl]
           (refine app_of rfl ?_;try dsimp only)
           refine j_i (fun j => ∀ τ3 : H,Gr σ3 τ3 -> τ3 b85 = some (.cells ⟨[.string pc.text,.int .u8 ((pc.kind.toNat:Nat) : Int),.int .i64 ((pc.width:Nat) : Int),.bool pc.left]⟩ 158 (0,0)) -> τ3 b52 = some (.cells ⟨dC (s'.num nm)⟩ 35 (0,0)) -> j (some ⟨b5,0,none⟩) (some ⟨b6,0,none⟩) y (T:Int) z (some ⟨b52,0,none⟩) ((at' + 1 : Nat) : Int) (i:Int) (some ⟨b85,0,none⟩) ((wholeP av).getD 0) τ3) ?_ ?_
           ·intro τ3 i1 i2 i3
            refine call_i (x_Itoa _ (getD_rng av).1 (getD_rng av).2 (hTT3.gr i1) (app_S ?_))
            exact hj93 τ3 (at' + 1) _ i1 i2 (by rw [<- hd3];exact i3) hta (by omega) hd4
           ·intro j175 hj175
            have hnum : s'.num nm = match wholeP av with
             | some _ => s'.next
             | none => { s'.next with err := s'.err ++ errP nm av,st := 1 } := by
             unfold PS.num
             rw [ea0]
             cases wholeP av with
             | some n => rfl
             | none => simp only [ea];rfl
            cases hw : wholeP av with
            | some nn =>
             rw [hw] at hnum
             rw [hw] at hj175
             exact br_f rfl (hj175 τ2 hg2 k85 (by rw [hnum];exact hd2))
            | none =>
             rw [hw] at hnum
             rw [hw] at hj175
             have hbe := hB'.err
             unfold dC at hd2
             refine br_t rfl (ptr_i (rd_S (rdC_of hd2 (by rfl)) (ptr_i (rd_S (rdC_of (hg2.get q5) (by rfl)) ?_))))
             have c2 : (⟨⟨[58,32]⟩⟩ : ByteArray).size = 2 := rfl
             have c4 : (⟨⟨[58,32,50,10]⟩⟩ : ByteArray).size = 4 := rfl
             refine if_i (by omega) (if_i (by rw [ByteArray.size_append,c2];omega) (if_i (by rw [ByteArray.size_append,ByteArray.size_append,c2];omega) (if_i (by rw [ByteArray.size_append,ByteArray.size_append,ByteArray.size_append,c2,c4];omega) (ptr_i ?_))))
             refine st_i2 hd2 sz_string (by rfl) (by rfl) ?_;intro τ3 p3
             refine ptr_i (st_i2 p3.same sz_int (by rfl) (by rfl) ?_);intro τ4 p4
             refine hj175 τ4 ((hg2.putF p3 n52).putF p4 n52) (p4.get (Ne.symm hne85) (p3.get (Ne.symm hne85) k85)) ?_
             rw [hnum]
             have e9 : ((((s'.err ++ nm) ++ (⟨⟨[58,32]⟩⟩ : ByteArray)) ++ av) ++ (⟨⟨[58,32,50,10]⟩⟩ : ByteArray)) = s'.err ++ errP nm av := by
              unfold errP
              simp only [ByteArray.append_assoc]
             have p5 := p4.same
             rw [e9] at p5
             exact p5
         ·intro j161 hj161
          have w1 : IntKind.i64.wrap ((at':Int) + 1) = ((at' + 1 : Nat) : Int) := by rw [wrap_id (by omega) (by omega)];omega
          rw [w1]
          refine rd_I (rdC_of k85 (by rfl)) ?_
          cases hk1 : pc.kind == 100 with
          | true => rw [hk1] at e100;exact br_t e100 (hj161 _ (by rw [hk1];rfl))
          | false => rw [hk1] at e100;exact br_f e100 (rd_I (rdC_of k85 (by rfl)) (hj161 _ (by rw [e120,hk1];rfl)))
        ·have hemp : s'.args = [] := by rw [hargs'];exact List.drop_eq_nil_of_le (by omega)
         have ea0 : s'.a0 = ⟨⟨[]⟩⟩ := by unfold PS.a0;rw [hemp]
         have hta : (s'.took1 nm pc).args = r.drop at' := by rw [htka,<- hargs',hemp];rfl
         have hnum : s'.num nm = s'.next := by
          unfold PS.num
          rw [ea0,show wholeP ⟨⟨[]⟩⟩ = none from rfl,hemp];rfl
         refine br_f (by rw [decide_eq_false_iff_not];omega) ?_
         refine j_i (fun j => ∀ cb : Bool,cb = (pc.kind == 100 || pc.kind == 120) -> j (some ⟨b5,0,none⟩) (some ⟨b6,0,none⟩) y (T:Int) z (some ⟨b52,0,none⟩) (at':Int) (i:Int) (some ⟨b85,0,none⟩) ⟨⟨[]⟩⟩ cb τ2) ?_ ?_
         ·intro cb hcb
          obtain ⟨hd3,hd4⟩ := hdx cb hcb
          rw [ea0] at hd4
          have hd5 : dC (s'.took1 nm pc) = dC s' := by
           rw [<- hd3,hnum]
           cases cb <;> rfl
          cases cb with
          | false => exact br_f rfl (hj93 τ2 at' _ hg2 k85 (by rw [hd5];exact hd2) hta hat' hd4)
          | true => exact br_t rfl (hj93 τ2 at' _ hg2 k85 (by rw [hd5];exact hd2) hta hat' (by rw [<- hd4];rfl))
         ·intro j199 hj199
          refine rd_I (rdC_of k85 (by rfl)) ?_
          cases hk1 : pc.kind == 100 with
          | true => rw [hk1] at e100;exact br_t e100 (hj199 _ (by rw [hk1];rfl))
          | false => rw [hk1] at e100;exact br_f e100 (rd_I (rdC_of k85 (by rfl)) (hj199 _ (by rw [e120,hk1];rfl)))
      exact key2 ps.length 0 s τ at_ (by omega) rfl hg hd hargs hat hB
    refine key (r.length + 1) ⟨r,false,⟨⟨[]⟩⟩,0,⟨⟨[]⟩⟩⟩ σ4 0 0 (Nat.lt_succ_self _) (by omega) g4 e4 rfl (Nat.zero_le _) ⟨Nat.zero_le _,Nat.zero_le _,fun b hb => ha b (List.mem_cons_of_mem _ hb)⟩ (Nat.zero_le _) (fun h => by cases h) rfl
  exact keyT ps.length 0 rfl
end
end Go.Proofs.YthclifcpjnhmjaaGreatDoor

namespace Go.Wk
open Go Go.HL
variable {A : AT}
def Below (A:AT) (ino:Int) : Nat -> Int -> Prop
 | 0,k => k = ino
 | r + 1,k => k ≠ ino /\ k ≠ 1 /\ Below A ino r (A.upOf k)
end Go.Wk

namespace Go.Wk
open Go Go.HL
end Go.Wk
namespace Go.Wk
open Go Go.HL
end Go.Wk

namespace Go.Wk
open Go Go.HL
variable {A : AT}
end Go.Wk

namespace Go.Wk
open Go Go.HL
variable {A : AT}
end Go.Wk

namespace Go.Wk
open Go Go.HL
def six : List ByteArray := [⟨⟨[97]⟩⟩,⟨⟨[98]⟩⟩,⟨⟨[99]⟩⟩,⟨⟨[66]⟩⟩,⟨⟨[97,46,98]⟩⟩,⟨⟨[122]⟩⟩]
def pN : ByteArray := ⟨⟨[112]⟩⟩
def qN : ByteArray := ⟨⟨[113]⟩⟩
def rN : ByteArray := ⟨⟨[114]⟩⟩
def fl (data k:ByteArray) : AN := ⟨1,420,data ++ k,1,0,[]⟩
def drN (es:List (ByteArray × Int)) : AN := ⟨2,493,⟨⟨[]⟩⟩,1,1,es⟩
def DD (d:Int) : Prop := d = 2 \/ d = 3 \/ d = 4
structure Ords (data:ByteArray) (A:AT) (E:Int -> List (ByteArray × Int)) (m:Nat) : Prop where
 inv : Inv A
 bd : Bd (10 + m) A
 rt : A.get 1 = some ⟨2,493,⟨⟨[]⟩⟩,1,1,[(pN,2),(qN,3),(rN,4)]⟩
 nd : ∀ d,DD d -> A.get d = some (drN (E d))
 he : ∀ d,DD d -> ∀ k i,lk k (E d) = some i -> k ∈ six /\ 4 < i /\ A.get i = some (fl data k)
 dj : ∀ d d' k k' i,DD d -> DD d' -> lk k (E d) = some i -> lk k' (E d') = some i -> d = d'
 qi : A.qi = 100
 qb : A.qb = 9000
 ui : A.ui <= 4 + m
 ub : A.ub <= 63 * m
variable {A : AT} {data : ByteArray} {E : Int -> List (ByteArray × Int)} {m : Nat}
theorem Ords.find (h:Ords data A E m) {d : Int} (hd:DD d) (k:ByteArray) : A.find d k = lk k (E d) := by
 unfold AT.find;rw [h.nd d hd];rfl
theorem Ords.kindF (h:Ords data A E m) {d : Int} (hd:DD d) {k : ByteArray} {i : Int} (hk:lk k (E d) = some i) : A.kind i = 1 := by
 unfold AT.kind;rw [(h.he d hd k i hk).2.2];rfl
theorem Ords.same (h:Ords data A E m) {A' : AT} {m' : Nat} (hi:Inv A') (hb:Bd (10 + m') A') (hg:∀ j,A'.get j = A.get j) (q1:A'.qi = A.qi) (q2:A'.qb = A.qb) (u1:A'.ui <= 4 + m') (u2:A'.ub <= 63 * m') : Ords data A' E m' :=
 ⟨hi,hb,by rw [hg];exact h.rt,fun d hd => by rw [hg];exact h.nd d hd,fun d hd k i hk => by rw [hg];exact h.he d hd k i hk,h.dj,by rw [q1];exact h.qi,by rw [q2];exact h.qb,u1,u2⟩
theorem Ords.levels (h:Ords data A E m) {d : Int} (hd:DD d) {k : ByteArray} {i : Int} (hk:lk k (E d) = some i) : A.levels 14 i = 0 := by
 rw [AT.levels,if_pos (by rw [h.kindF hd hk];decide)]
end Go.Wk

namespace Go.Wk
open Go Go.HL
theorem sortN_perm (l:List ByteArray) : (sortN l).Perm l := by
 unfold sortN
 have h := (sortB_perm (l.map fun s => s.data.toList)).map fun x => (⟨⟨x⟩⟩ : ByteArray)
 have e : ((l.map fun s => s.data.toList).map fun x => (⟨⟨x⟩⟩ : ByteArray)) = l := by
  rw [List.map_map]
  conv => rhs;rw [<- List.map_id l]
  apply List.map_congr_left
  intro s _
  rfl
 rw [e] at h
 exact h
variable {A : AT} {data : ByteArray} {E : Int -> List (ByteArray × Int)} {m : Nat}
def o0 : AT := newT 100 9000
def o1 : AT := (o0.mkdirF ⟨⟨[47]⟩⟩ pN).2
def o2 : AT := (o1.mkdirF ⟨⟨[47]⟩⟩ qN).2
def o3 : AT := (o2.mkdirF ⟨⟨[47]⟩⟩ rN).2
end Go.Wk

set_option maxRecDepth 100000
namespace Go.Proofs.YthclifcpjnhmjaaGreatDoor
open Go Go.HL Go.Wk
attribute [local irreducible] ptrW ifW brW andW rdT alW letJ stW muW biW vaW imW callT cvalT app callW invW callVW sizeT oW nilF oneK loopW rfW funW begW roundK exW idxW Gr Put
def eRow (es:List (ByteArray × Int)) : List (List Value) := (sortN (keysL es)).map fun k => [.string k,.int .i64 ((lk k es).getD 0 - 1)]
def ptrRow (A:AT) (cb:Int -> Nat) : List (List Value) := (List.range A.last.toNat).map fun (i:Nat) => [.pointer (if (A.get ((i:Int) + 1)).isSome then some ⟨cb ((i:Int) + 1),0,none⟩ else none)]
def upR (n:AN) : Int := if n.kind = 2 then n.up - 1 else 0
def nodeO (n:AN) (y:Sl) : Obj := .cells ⟨[.int .i64 n.kind,.int .i64 n.mode,.string n.data,.slice y.base y.len y.cap,.int .i64 (upR n)]⟩ 101 (0,0)
structure RfM where
 x : Sl
 cb : Int -> Nat
 ey : Int -> Sl
 w : Nat -> Option (Int × Bool)
structure RfIn (σ:H) (b:Nat) (A:AT) (M:RfM) : Prop where
 top : σ b = some (.cells ⟨[.int .i64 A.qi,.int .i64 A.qb,.slice M.x.base M.x.len M.x.cap]⟩ 97 (0,0))
 tab : RowsOwn σ 98 1 (ptrRow A M.cb) M.x
 nod : ∀ i n,A.get i = some n -> σ (M.cb i) = some (nodeO n (M.ey i))
 ent : ∀ i n,A.get i = some n -> RowsOwn σ 206 2 (eRow n.ents) (M.ey i)
 wb : M.w b = some (0,false)
 wt : ∀ g,M.x.base = some ⟨g,0,none⟩ -> M.w g = some (0,true)
 wn : ∀ i n,A.get i = some n -> M.w (M.cb i) = some (i,false)
 we : ∀ i n g,A.get i = some n -> (M.ey i).base = some ⟨g,0,none⟩ -> M.w g = some (i,true)
 has : ∀ c,M.w c ≠ none -> σ c ≠ none
def RfAt (σ:H) (b:Nat) (A:AT) (D:Nat -> Prop) : Prop := ∃ M,RfIn σ b A M /\ ∀ c,D c ↔ M.w c ≠ none
theorem RfIn.gr {σ σ' : H} {b : Nat} {A : AT} {M : RfM} (h:RfIn σ b A M) (hg:Gr σ σ') : RfIn σ' b A M :=
 ⟨hg.get h.top,h.tab.gr hg,fun i n hn => hg.get (h.nod i n hn),fun i n hn => (h.ent i n hn).gr hg,h.wb,h.wt,h.wn,h.we,fun c hc => by
  have := h.has c hc
  cases ho : σ c with
  | none => exact absurd ho this
  | some o => rw [hg.get ho];simp⟩
theorem RfAt.gr {σ σ' : H} {b : Nat} {A : AT} {D : Nat -> Prop} (h:RfAt σ b A D) (hg:Gr σ σ') : RfAt σ' b A D := by
 obtain ⟨M,h1,h2⟩ := h
 exact ⟨M,h1.gr hg,h2⟩
theorem RfAt.has {σ : H} {b c : Nat} {A : AT} {D : Nat -> Prop} (h:RfAt σ b A D) (hc:D c) : σ c ≠ none := by
 obtain ⟨M,h1,h2⟩ := h
 exact h1.has c ((h2 c).1 hc)
section
variable {σ : H} {b : Nat} {A : AT} {M : RfM}
theorem RfIn.len (h:RfIn σ b A M) : M.x.len = A.last.toNat := by
 have := h.tab.1
 simpa [ptrRow] using this
theorem RfIn.slot (h:RfIn σ b A M) (hI:Inv A) {d : Int} {n : AN} (hn:A.get (d + 1) = some n) : ∃ g o,M.x.base = some ⟨g,o,none⟩ /\ (0 <= d /\ d < ((M.x.len:Nat) : Int)) /\ rdC g (o + d.toNat * 1) σ = some (.pointer (some ⟨M.cb (d + 1),0,none⟩)) := by
 obtain ⟨l1,l2⟩ := hI.low _ _ hn
 have hl := h.len
 have hr : (ptrRow A M.cb)[d.toNat]? = some [.pointer (some ⟨M.cb (d + 1),0,none⟩)] := by
  unfold ptrRow
  rw [List.getElem?_map,List.getElem?_range (by omega)]
  have : ((d.toNat:Nat) : Int) = d := by omega
  simp [this,hn]
 obtain ⟨g,o,h2,h3⟩ := RowsAt.rd h.tab.rows hr (by decide)
 refine ⟨g,o,h2,by omega,?_⟩
 obtain ⟨h1,h4 | ⟨g',o',cur,t,fz,q2,q3,q4⟩⟩ := h.tab.rows
 ·rw [h4] at hr;simp at hr
 ·rw [h2] at q2
  injection q2 with q2
  injection q2 with e1 e2
  subst e1;subst e2
  refine rdC_of q3 ?_
  obtain ⟨_,h5⟩ := q4 _ _ hr
  have : ((cur.drop (o + d.toNat * 1)).take 1)[0]? = some (.pointer (some ⟨M.cb (d + 1),0,none⟩)) := by rw [h5];rfl
  rw [List.getElem?_take] at this
  simpa using this
theorem rf_p (h:RfIn σ b A M) (hI:Inv A) {d : Int} {n : AN} (hn:A.get (d + 1) = some n) {F : Option Addr -> H -> Prop} (hF:F (some ⟨M.cb (d + 1),0,none⟩) σ) :
 ptrW (some ⟨b,0,none⟩) (fun (b4 o5:Nat) => rdT (rdC b4 (o5 + 2)) kL (fun (x6:Sl) => ptrW x6.base (fun (b7 o8:Nat) => ifW (0 <= d /\ d < ((x6.len:Nat) : Int)) (rdT (rdC b7 (o8 + d.toNat * 1)) kP F)))) σ := by
 obtain ⟨g,o,h1,h2,h3⟩ := h.slot hI hn
 refine ptr_i (rd_L (rdC_of h.top (by rfl)) ?_)
 rw [h1]
 exact ptr_i (if_i h2 (rd_P h3 hF))
theorem rf_at (h:RfIn σ b A M) (hI:Inv A) {d : Int} {n : AN} (hn:A.get (d + 1) = some n) {F : Nat -> Nat -> H -> Prop} (hF:F (M.cb (d + 1)) 0 σ) :
 ptrW (some ⟨b,0,none⟩) (fun (b4 o5:Nat) => rdT (rdC b4 (o5 + 2)) kL (fun (x6:Sl) => ptrW x6.base (fun (b7 o8:Nat) => ifW (0 <= d /\ d < ((x6.len:Nat) : Int)) (rdT (rdC b7 (o8 + d.toNat * 1)) kP (fun x9 => ptrW x9 F))))) σ :=
 rf_p h hI hn (ptr_i hF)
def less1 (o:Option Int) : Int := (o.map (· - 1)).getD (-1)
theorem erow_at {es : List (ByteArray × Int)} {y : Sl} (h:RowsOwn σ 206 2 (eRow es) y) {i : Nat} {k : ByteArray} (hk:(sortN (keysL es))[i]? = some k) : ∃ g o,y.base = some ⟨g,o,none⟩ /\ rdC g (o + i * 2) σ = some (.string k) /\ rdC g (o + i * 2 + 1) σ = some (.int .i64 ((lk k es).getD 0 - 1)) /\ rdA 2 g (o + i * 2) σ = some (.agg ⟨[.string k,.int .i64 ((lk k es).getD 0 - 1)]⟩) := by
 have hr : (eRow es)[i]? = some [.string k,.int .i64 ((lk k es).getD 0 - 1)] := by unfold eRow;rw [List.getElem?_map,hk];rfl
 obtain ⟨g,o,h2,h3⟩ := RowsAt.rd h.rows hr (by decide)
 refine ⟨g,o,h2,?_,?_,h3⟩
 all_goals
  obtain ⟨h1,h4 | ⟨g',o',cur,t,fz,q2,q3,q4⟩⟩ := h.rows
  ·rw [h4] at hr;simp at hr
  ·rw [h2] at q2
   injection q2 with q2
   injection q2 with e1 e2
   subst e1;subst e2
   refine rdC_of q3 ?_
   obtain ⟨_,h5⟩ := q4 _ _ hr
   first
    | (have : ((cur.drop (o + i * 2)).take 2)[0]? = some (.string k) := by rw [h5]; rfl
       rw [List.getElem?_take] at this
       simpa using this)
    | (have : ((cur.drop (o + i * 2)).take 2)[1]? = some (.int .i64 ((lk k es).getD 0 - 1)) := by rw [h5]; rfl
       rw [List.getElem?_take] at this
       simpa [Nat.add_assoc] using this)
theorem s_rfFind (h:RfIn σ b A M) (hI:Inv A) {N : Nat} (hB:Bd N A) (hN:N <= 1000000000000) {d : Int} {n : AN} (hn:A.get (d + 1) = some n) (name:ByteArray) {K : KH} (hK:K (.int .i64 (less1 (A.find (d + 1) name))) σ) :
 callW Tryz.prog 204 [.pointer (some ⟨b,0,none⟩),.int .i64 d,.string name] K σ := by
 refine c204 _ _ _ ?_
 unfold g204
 have hf : A.find (d + 1) name = lk name n.ents := by unfold AT.find;rw [hn];rfl
 rw [hf] at hK
 refine rf_at h hI hn (rd_L (rdC_of (h.nod _ _ hn) (by rfl)) (loop_i ?_))
 intro R hR
 have he := h.ent _ _ hn
 have hlen : (M.ey (d + 1)).len = (sortN (keysL n.ents)).length := by have := he.1;simpa [eRow] using this
 have hle : (sortN (keysL n.ents)).length <= N := by
  rw [(sortN_perm _).length_eq]
  have := hB.ents _ _ hn
  simpa [keysL] using this
 have key : ∀ (c i:Nat),c + i = (sortN (keysL n.ents)).length -> name ∉ (sortN (keysL n.ents)).take i -> R name (M.ey (d + 1)) (i:Int) σ := by
  intro c
  induction c with
  | zero =>
   intro i hc hno
   refine hR _ _ _ _ ?_
   refine br_f (by simp only [decide_eq_false_iff_not];omega) ?_
   have : lk name n.ents = none := by
    rw [lk_none_iff]
    intro hm
    apply hno
    rw [show i = (sortN (keysL n.ents)).length from by omega,List.take_length]
    exact (sortN_perm _).mem_iff.2 hm
   rw [this] at hK
   exact hK
  | succ c ih =>
   intro i hc hno
   refine hR _ _ _ _ ?_
   refine br_t (by simp only [decide_eq_true_eq];omega) ?_
   obtain ⟨k,hk⟩ : ∃ k,(sortN (keysL n.ents))[i]? = some k := ⟨_,List.getElem?_eq_getElem (by omega)⟩
   obtain ⟨g,o,q1,q2,q3,_⟩ := erow_at he hk
   rw [q1]
   have e0 : (i:Int).toNat = i := by omega
   refine ptr_i (if_i ⟨by omega,by omega⟩ (rd_S (by rw [e0];exact q2) ?_))
   by_cases hkn : k = name
   ·subst hkn
    refine br_t (strEq_iff.2 rfl) (ptr_i (if_i ⟨by omega,by omega⟩ (rd_I (by rw [e0];exact q3) ?_)))
    have hm : k ∈ keysL n.ents := (sortN_perm _).mem_iff.1 (List.mem_of_getElem? hk)
    cases hl : lk k n.ents with
    | none => exact absurd hm (lk_none_iff.1 hl)
    | some v => rw [hl] at hK;exact hK
   ·refine br_f (by rw [Bool.eq_false_iff];intro e;exact hkn (strEq_iff.1 e)) ?_
    rw [wrap_id (x := (i:Int) + 1) (by omega) (by omega)]
    refine ih (i + 1) (by omega) ?_
    rw [List.take_add_one,hk]
    simp only [Option.toList_some,List.mem_append,List.mem_singleton,not_or]
    exact ⟨hno,fun e => hkn e.symm⟩
 exact key _ 0 (by omega) (by simp)
theorem s_rfDeep (h:RfIn σ b A M) (hI:Inv A) {d : Int} (hd:A.isDir (d + 1)) {x : Int} (hx:A.deep 13 (d + 1) = some x) {K : KH} (hK:K (.int .i64 x) σ) : callW Tryz.prog 84 [.pointer (some ⟨b,0,none⟩),.int .i64 d] K σ := by
 refine c84 _ _ ?_
 unfold g84
 refine loop_i ?_
 intro R hR
 have key : ∀ (f:Nat) (d c y:Int),f <= 13 -> A.isDir (d + 1) -> A.deep f (d + 1) = some y -> c + y - 1 = x -> 0 <= c -> c + f <= 14 -> R (some ⟨b,0,none⟩) d c σ := by
  intro f
  induction f with
  | zero => intro d c y _ _ h;simp [AT.deep] at h
  | succ f ih =>
   intro d c y hf hd hy hc h0 h1
   refine hR _ _ _ _ ?_
   rw [AT.deep] at hy
   by_cases e : d = 0
   ·subst e
    rw [if_pos (show (0:Int) + 1 = 1 from rfl)] at hy
    have : y = 1 := (Option.some.inj hy).symm
    refine br_f rfl ?_
    rw [show c = x from by omega]
    exact hK
   ·rw [if_neg (by omega)] at hy
    obtain ⟨n,hn,hk⟩ := hd
    have hu : A.upOf (d + 1) = n.up := by unfold AT.upOf;rw [hn];rfl
    have hdu := hI.isDir_up ⟨n,hn,hk⟩
    rw [hu] at hy hdu
    cases hy' : A.deep f n.up with
    | none => rw [hy'] at hy;cases hy
    | some y' =>
     rw [hy'] at hy
     have hy2 : y = y' + 1 := (Option.some.inj hy).symm
     refine br_t (by simpa using e) (rf_at h hI hn (rd_I (rdC_of (h.nod _ _ hn) (by rfl)) ?_))
     rw [wrap_id (x := c + 1) (by omega) (by omega)]
     have hup : upR n = n.up - 1 := by unfold upR;rw [if_pos hk]
     rw [hup]
     exact ih (n.up - 1) (c + 1) y' (by omega) (by rw [show n.up - 1 + 1 = n.up from by omega];exact hdu) (by rw [show n.up - 1 + 1 = n.up from by omega];exact hy') (by omega) (by omega) (by omega)
 exact key 13 d 1 x (by omega) hd hx (by omega) (by omega) (by omega)
theorem sz_RPlace : sizeT Tryz.prog 125 = some 3 := by kernel_rfl
def plV (p:Pl) : List Value := [.int .i64 (p.dir - 1),.string p.name,.int .i64 (if p.there then p.ino - 1 else -1)]
def plZ : List Value := [.int .i64 0,.string ⟨⟨[]⟩⟩,.int .i64 0]
theorem s_rfStep (h:RfIn σ b A M) (hI:Inv A) {N : Nat} (hB:Bd N A) (hN:N <= 1000000000000) {d : Int} {n : AN} (hn:A.get (d + 1) = some n) (name:ByteArray) {K : KH}
 (hK:∀ σ',Gr σ σ' -> K (if A.kind (d + 1) ≠ 2 then .tuple ⟨[.agg ⟨plZ⟩,.int .i64 8]⟩ else if sEq name ⟨⟨[46,46]⟩⟩ = true then .tuple ⟨[.agg ⟨plV ⟨A.upOf (d + 1),⟨⟨[]⟩⟩,A.upOf (d + 1),true⟩⟩,.int .i64 0]⟩ else if name.size > 56 then .tuple ⟨[.agg ⟨plZ⟩,.int .i64 3]⟩ else .tuple ⟨[.agg ⟨plV ⟨d + 1,name,(A.find (d + 1) name).getD 0,(A.find (d + 1) name).isSome⟩⟩,.int .i64 0]⟩) σ') :
 callW Tryz.prog 168 [.pointer (some ⟨b,0,none⟩),.int .i64 d,.string name] K σ := by
 refine c168 _ _ _ ?_
 unfold g168
 refine al_i ?_;intro b4 σ1 g1 e1 n1
 have h1 := h.gr g1
 have hk : A.kind (d + 1) = n.kind := by unfold AT.kind;rw [hn];rfl
 have hu : A.upOf (d + 1) = n.up := by unfold AT.upOf;rw [hn];rfl
 rw [hk,hu] at hK
 refine rf_at h1 hI hn (rd_I (rdC_of (h1.nod _ _ hn) (by rfl)) ?_)
 by_cases c1 : n.kind = 2
 ·refine br_f (by simpa using c1) ?_
  rw [if_neg (by simpa using c1)] at hK
  have hup : upR n = n.up - 1 := by unfold upR;rw [if_pos c1]
  by_cases c2 : sEq name ⟨⟨[46,46]⟩⟩ = true
  ·rw [if_pos c2] at hK
   refine br_t (by rw [<- sEq_eq];exact c2) ?_
   refine rf_at h1 hI hn (rd_I (rdC_of (h1.nod _ _ hn) (by rfl)) ?_)
   refine rf_at h1 hI hn (rd_I (rdC_of (h1.nod _ _ hn) (by rfl)) ?_)
   refine st_i2 e1 sz_RPlace (by rfl) (by rfl) ?_;intro σ2 p2
   refine rd_G (rdA_of' p2.same (by rfl)) ?_
   (refine app_of rfl ?_;try dsimp only)
   rw [hup]
   exact hK σ2 (g1.putF p2 n1)
  ·rw [if_neg c2] at hK
   refine br_f (by rw [<- sEq_eq];simpa using c2) ?_
   by_cases c3 : name.size > 56
   ·rw [if_pos c3] at hK
    refine br_t (by simp only [decide_eq_true_eq];omega) ?_
    refine st_i2 e1 sz_RPlace (by rfl) (by rfl) ?_;intro σ2 p2
    refine rd_G (rdA_of' p2.same (by rfl)) ?_
    (refine app_of rfl ?_;try dsimp only)
    exact hK σ2 (g1.putF p2 n1)
   ·rw [if_neg c3] at hK
    refine br_f (by simp only [decide_eq_false_iff_not];omega) (call_i (s_rfFind h1 hI hB hN hn name (app_I ?_)))
    refine st_i2 e1 sz_RPlace (by rfl) (by rfl) ?_;intro σ2 p2
    refine rd_G (rdA_of' p2.same (by rfl)) ?_
    (refine app_of rfl ?_;try dsimp only)
    have := hK σ2 (g1.putF p2 n1)
    have e2 : d + 1 - 1 = d := by omega
    have e3 : (if (A.find (d + 1) name).isSome then (A.find (d + 1) name).getD 0 - 1 else -1) = less1 (A.find (d + 1) name) := by
     cases A.find (d + 1) name <;> rfl
    unfold plV at this
    simp only [e2,e3] at this
    exact this
 ·refine br_t (by simpa using c1) ?_
  rw [if_pos (by simpa using c1)] at hK
  refine st_i2 e1 sz_RPlace (by rfl) (by rfl) ?_;intro σ2 p2
  refine rd_G (rdA_of' p2.same (by rfl)) ?_
  (refine app_of rfl ?_;try dsimp only)
  exact hK σ2 (g1.putF p2 n1)
end
theorem und_strs : Tryz.prog.underlying 38 = some (.slice 9) := by kernel_rfl
theorem info_strR : ∃ i,Tryz.prog.info? 9 = some i /\ i.zero = some (.string ⟨⟨[]⟩⟩) /\ i.size = 1 /\ i.bytes = 16 := by
 have h1 : (Tryz.prog.info? 9).map (fun i => (i.zero,i.size,i.bytes)) = some (some (.string ⟨⟨[]⟩⟩),1,16) := by kernel_rfl
 cases hi : Tryz.prog.info? 9 with
 | none => rw [hi] at h1;cases h1
 | some i =>
  rw [hi] at h1
  simp only [Option.map_some,Option.some.injEq,Prod.mk.injEq] at h1
  exact ⟨i,rfl,h1.1,h1.2.1,h1.2.2⟩
def srows (l:List ByteArray) : List (List Value) := l.map fun s => [.string s]
def StrsNew (σ0 σ:H) (l:List ByteArray) (y:Sl) : Prop := Gr σ0 σ /\ RowsOwn σ 9 1 (srows l) y /\ ∀ g,y.base = some ⟨g,0,none⟩ -> σ0 g = none
theorem app_str {σ0 σ : H} {l : List ByteArray} {y : Sl} {s : ByteArray} {ty : TypeId} {cs : List Bool} (h:StrsNew σ0 σ l y) (hl:l.length < 1000000000) {F : Sl -> H -> Prop} (hF:∀ y' σ',StrsNew σ0 σ' (l ++ [s]) y' -> F y' σ') :
 alW (.cells ⟨[.string s]⟩ 9 (0,0)) (fun (b48:Nat) => biW Tryz.prog .append #[38,38] ty cs [.slice y.base y.len y.cap,.slice (some ⟨b48,0,none⟩) 1 1] kL F) σ := by
 obtain ⟨h1,h2,h3⟩ := h
 refine al_i ?_;intro b48 σ1 g1 e1 n1
 obtain ⟨i,i1,i2,i3,i4⟩ := info_strR
 refine append_i und_strs i1 i2 i3 i4 rfl (by decide) (h2.gr g1) e1 rfl (by intro u hu;simp at hu;subst hu;rfl) (by simpa [srows] using hl) (by decide) ?_
 intro y' σ' hy' hcase
 refine hF y' σ' ⟨?_,by simpa [srows] using hy',?_⟩
 ·rcases hcase with ⟨g,o,q1,q2,q3⟩ | ⟨g,q1,q2,q3⟩
  ·exact (h1.trans g1).putF q3 (h3 g q1)
  ·exact (h1.trans g1).trans q3
 ·intro g hg
  rcases hcase with ⟨g',o,q1,q2,q3⟩ | ⟨g',q1,q2,q3⟩
  ·rw [q2] at hg;exact h3 g hg
  ·rw [q1] at hg
   injection hg with hg
   injection hg with hg
   subst hg
   exact none_of (h1.trans g1) q2
theorem take_one {l : List UInt8} {i : Nat} {c : UInt8} (h:l[i]? = some c) (f:Nat) (hf:f <= i) : (l.drop f).take (i + 1 - f) = (l.drop f).take (i - f) ++ [c] := by
 rw [show i + 1 - f = (i - f) + 1 from by omega,List.take_add_one]
 congr 1
 rw [List.getElem?_drop,show f + (i - f) = i from by omega,h];rfl
def okP (s:ByteArray) : List ByteArray := if okPart s then [s] else []
theorem parts_cons {l a b : List UInt8} (hl:l = a ++ 47 :: b) (ha:(47:UInt8) ∉ a) : ((splitL 47 l).map fun l => (⟨⟨l⟩⟩ : ByteArray)).filter okPart = okP ⟨⟨a⟩⟩ ++ ((splitL 47 b).map fun l => (⟨⟨l⟩⟩ : ByteArray)).filter okPart := by
 rw [hl,splitL_some ha]
 simp only [List.map_cons,List.filter_cons,okP]
 split <;> simp
theorem parts_end {l : List UInt8} (ha:(47:UInt8) ∉ l) : ((splitL 47 l).map fun l => (⟨⟨l⟩⟩ : ByteArray)).filter okPart = okP ⟨⟨l⟩⟩ := by
 rw [splitL_none ha]
 simp only [List.map_cons,List.map_nil,List.filter_cons,okP,List.filter_nil]
theorem s_rfNames (path:ByteArray) (hz:path.size <= 1000000) {σ : H} {K : KH} (hK:∀ y σ',StrsNew σ σ' (partsB path) y -> K (.slice y.base y.len y.cap) σ') : callW Tryz.prog 167 [.string path] K σ := by
 refine c167 _ ?_
 unfold g167
 have hlen : path.data.toList.length = path.size := (size_list path).symm
 refine loop_i ?_
 intro R hR
 have fin : ∀ (y:Sl) (f:Int) (τ:H),StrsNew σ τ (partsB path) y -> R path y f ((path.size + 1 : Nat) : Int) τ := by
  intro y f τ h
  refine hR _ _ _ _ _ ?_
  exact br_f (by simp only [decide_eq_false_iff_not];omega) (hK y τ h)
 have key : ∀ (c i f:Nat) (out:List ByteArray) (y:Sl) (τ:H),c + i = path.size -> f <= i -> out.length <= i -> StrsNew σ τ out y -> (47:UInt8) ∉ (path.data.toList.drop f).take (i - f) -> out ++ ((splitL 47 (path.data.toList.drop f)).map fun l => (⟨⟨l⟩⟩ : ByteArray)).filter okPart = partsB path -> R path y (f:Int) (i:Int) τ := by
  intro c
  induction c with
  | zero =>
   intro i f out y τ hc hf hol hS hno hp
   have hi : i = path.size := by omega
   refine hR _ _ _ _ _ ?_
   refine br_t (by simp only [decide_eq_true_eq];omega) ?_
   refine j_i (fun j => ∀ y' τ' v1 v2 v3 v4,StrsNew σ τ' (partsB path) y' -> j path y' (((path.size + 1 : Nat)) : Int) (i:Int) v1 v2 v3 v4 τ') ?_ ?_
   ·intro y' τ' v1 v2 v3 v4 h
    rw [wrap_id (x := (i:Int) + 1) (by omega) (by omega)]
    rw [show (i:Int) + 1 = ((path.size + 1 : Nat) : Int) from by omega]
    exact fin y' _ τ' h
   intro j7 hj7
   refine j_i (fun j => ∀ v1 v2 v3 v4,j path y (f:Int) (i:Int) v1 v2 v3 v4 false τ) ?_ ?_
   case refine_2 =>
    intro j hj
    exact br_f (by simp only [decide_eq_false_iff_not];omega) (hj _ _ _ _)
   intro v1 v2 v3 v4
   have e0 : (i:Int).toNat = i := by omega
   have e1 : (f:Int).toNat = f := by omega
   refine br_f rfl (if_i ⟨bnd_some (by omega) (by omega),bnd_some (by omega) (by omega)⟩ ?_)
   rw [e0,e1]
   have hex : path.extract f i = ⟨⟨path.data.toList.drop f⟩⟩ := by
    apply bytes_ext
    rw [extract_toList,hi,<- hlen,List.take_length]
   rw [hex]
   have hfull : (path.data.toList.drop f).take (i - f) = path.data.toList.drop f := by
    rw [List.take_of_length_le];rw [List.length_drop];omega
   rw [hfull] at hno
   rw [parts_end hno] at hp
   generalize (⟨⟨path.data.toList.drop f⟩⟩ : ByteArray) = s at hp
   refine j_i (fun j => ∀ y' τ' v1 v2 v3 v4 v5 v6,StrsNew σ τ' (partsB path) y' -> j path y' (i:Int) v1 v2 v3 v4 v5 v6 τ') ?_ ?_
   ·intro y' τ' v1 v2 v3 v4 v5 v6 h
    rw [wrap_id (x := (i:Int) + 1) (by omega) (by omega)]
    rw [show (i:Int) + 1 = ((path.size + 1 : Nat) : Int) from by omega]
    exact hj7 _ _ _ _ _ _ h
   intro j26 hj26
   refine j_i (fun j => ∀ v1 v2 v3 v4 v5 v6,j path y (i:Int) s v1 v2 v3 v4 v5 v6 (okPart s) τ) ?_ ?_
   ·intro v1 v2 v3 v4 v5 v6
    unfold okP at hp
    cases ho : okPart s with
    | true =>
     rw [ho] at hp
     refine br_t rfl (app_str hS (by omega) ?_)
     intro y' σ' h'
     rw [show out ++ [s] = partsB path from hp] at h'
     exact hj26 _ _ _ _ _ _ _ _ h'
    | false =>
     rw [ho] at hp
     have hp : out = partsB path := by simpa using hp
     rw [hp] at hS
     exact br_f rfl (hj26 _ _ _ _ _ _ _ _ hS)
   ·intro j36 hj36
    have ho : okPart s = (!strEq s ⟨⟨[]⟩⟩ && !strEq s ⟨⟨[46]⟩⟩) := by unfold okPart;rw [sEq_eq,sEq_eq]
    cases hs0 : strEq s ⟨⟨[]⟩⟩ with
    | true =>
     have := hj36 v1 v2 v3 v4 (.tuple ⟨[]⟩) (.tuple ⟨[]⟩)
     rw [ho,hs0] at this
     exact br_f rfl this
    | false =>
     have := fun a b => hj36 v1 v2 v3 v4 a b
     rw [ho,hs0] at this
     exact br_t rfl (this _ _)
  | succ c ih =>
   intro i f out y τ hc hf hol hS hno hp
   refine hR _ _ _ _ _ ?_
   refine br_t (by simp only [decide_eq_true_eq];omega) ?_
   obtain ⟨ch,hch⟩ : ∃ ch,path.data.toList[i]? = some ch := ⟨_,List.getElem?_eq_getElem (by omega)⟩
   refine j_i (fun j => ∀ (f':Nat) out' y' τ' v1 v2 v3 v4,f' <= i + 1 -> out'.length <= i + 1 -> StrsNew σ τ' out' y' -> (47:UInt8) ∉ (path.data.toList.drop f').take (i + 1 - f') -> out' ++ ((splitL 47 (path.data.toList.drop f')).map fun l => (⟨⟨l⟩⟩ : ByteArray)).filter okPart = partsB path -> j path y' (f':Int) (i:Int) v1 v2 v3 v4 τ') ?_ ?_
   ·intro f' out' y' τ' v1 v2 v3 v4 a1 a2 a3 a4 a5
    rw [wrap_id (x := (i:Int) + 1) (by omega) (by omega)]
    rw [show (i:Int) + 1 = ((i + 1 : Nat) : Int) from by omega]
    exact ih (i + 1) f' out' y' τ' (by omega) a1 a2 a3 a4 a5
   intro j7 hj7
   refine j_i (fun j => ∀ v1 v2 v3 v4,j path y (f:Int) (i:Int) v1 v2 v3 v4 (((ch.toNat:Int) : Int) != 47) τ) ?_ ?_
   case refine_2 =>
    intro j hj
    refine br_t (by simp only [decide_eq_true_eq];omega) (idx_l (c := ch) (by omega) (by simpa using hch) ?_)
    exact hj _ _ _ _
   intro v1 v2 v3 v4
   by_cases hc47 : ch = 47
   ·subst hc47
    have e0 : (i:Int).toNat = i := by omega
    have e1 : (f:Int).toNat = f := by omega
    refine br_f (by decide) (if_i ⟨bnd_some (by omega) (by omega),bnd_some (by omega) (by omega)⟩ ?_)
    rw [e0,e1]
    have hsp : path.data.toList.drop f = (path.data.toList.drop f).take (i - f) ++ 47 :: path.data.toList.drop (i + 1) := by
     have h1 : (path.data.toList.drop f).drop (i - f) = 47 :: path.data.toList.drop (i + 1) := by
      rw [List.drop_drop,show f + (i - f) = i from by omega,List.drop_eq_getElem_cons (by omega)]
      rw [List.getElem?_eq_getElem (by omega)] at hch
      rw [Option.some.inj hch]
     conv => lhs;rw [<- List.take_append_drop (i - f) (path.data.toList.drop f),h1]
    have hex : path.extract f i = ⟨⟨(path.data.toList.drop f).take (i - f)⟩⟩ := by
     apply bytes_ext
     rw [extract_toList]
     simp [List.drop_take]
    rw [hex]
    rw [parts_cons hsp hno] at hp
    generalize (⟨⟨(path.data.toList.drop f).take (i - f)⟩⟩ : ByteArray) = s at hp
    have hol2 : (okP s).length <= 1 := by unfold okP;split <;> simp
    refine j_i (fun j => ∀ y' τ' v1 v2 v3 v4 v5 v6,StrsNew σ τ' (out ++ okP s) y' -> j path y' (i:Int) v1 v2 v3 v4 v5 v6 τ') ?_ ?_
    ·intro y' τ' v1 v2 v3 v4 v5 v6 h
     rw [wrap_id (x := (i:Int) + 1) (by omega) (by omega)]
     have := hj7 (i + 1) (out ++ okP s) y' τ' v1 v2 v3 v4 (by omega) (by rw [List.length_append];omega) h (by simp) (by rw [List.append_assoc];exact hp)
     rw [show (i:Int) + 1 = ((i + 1 : Nat) : Int) from by omega]
     exact this
    intro j26 hj26
    refine j_i (fun j => ∀ v1 v2 v3 v4 v5 v6,j path y (i:Int) s v1 v2 v3 v4 v5 v6 (okPart s) τ) ?_ ?_
    ·intro v1 v2 v3 v4 v5 v6
     cases ho : okPart s with
     | true =>
      refine br_t rfl (app_str hS (by omega) ?_)
      intro y' σ' h'
      exact hj26 _ _ _ _ _ _ _ _ (by unfold okP;rw [ho];exact h')
     | false =>
      refine br_f rfl (hj26 _ _ _ _ _ _ _ _ (by unfold okP;rw [ho];simpa using hS))
    ·intro j36 hj36
     have ho : okPart s = (!strEq s ⟨⟨[]⟩⟩ && !strEq s ⟨⟨[46]⟩⟩) := by unfold okPart;rw [sEq_eq,sEq_eq]
     cases hs0 : strEq s ⟨⟨[]⟩⟩ with
     | true =>
      have := hj36 v1 v2 v3 v4 (.tuple ⟨[]⟩) (.tuple ⟨[]⟩)
      rw [ho,hs0] at this
      exact br_f rfl this
     | false =>
      have := fun a b => hj36 v1 v2 v3 v4 a b
      rw [ho,hs0] at this
      exact br_t rfl (this _ _)
   ·have hne : ¬ ((ch.toNat : Int) = 47) := by
     intro e
     apply hc47
     have : ch.toNat = 47 := by omega
     exact UInt8.toNat_inj.1 this
    refine br_t (by simpa using hne) ?_
    refine hj7 f out y τ _ _ _ _ (by omega) (by omega) hS ?_ hp
    rw [take_one hch f hf]
    simp only [List.mem_append,List.mem_singleton,not_or]
    exact ⟨hno,fun e => hc47 e.symm⟩
 exact key path.size 0 0 [] ⟨none,0,0⟩ σ (by omega) (by omega) (by simp) ⟨Gr.refl _,RowsOwn.nil _ _ _,by intro g h;cases h⟩ (by simp) (by simp [partsB])
theorem RfIn.keep {σ σ' : H} {b : Nat} {A : AT} {M : RfM} (h:RfIn σ b A M) (hk:∀ c o,σ c = some o -> M.w c ≠ none -> σ' c = some o) : RfIn σ' b A M := by
 have hw : ∀ c r,M.w c = some r -> M.w c ≠ none := fun c r e => by rw [e];simp
 refine ⟨hk _ _ h.top (hw _ _ h.wb),h.tab.keep fun g o hx hg => hk g o hg (hw _ _ (h.wt g hx)),fun i n hn => hk _ _ (h.nod i n hn) (hw _ _ (h.wn i n hn)),fun i n hn => (h.ent i n hn).keep fun g o hx hg => hk g o hg (hw _ _ (h.we i n g hn hx)),h.wb,h.wt,h.wn,h.we,fun c hc => ?_⟩
 have := h.has c hc
 cases ho : σ c with
 | none => exact absurd ho this
 | some o => rw [hk c o ho hc];simp
def But (bh:Nat) (σ σ':H) : Prop := ∀ c o,σ c = some o -> c ≠ bh -> σ' c = some o
theorem But.of_gr {bh : Nat} {σ σ' : H} (h:Gr σ σ') : But bh σ σ' := fun _ _ hc _ => h.get hc
theorem But.trans {bh : Nat} {σ σ' σ'' : H} (h:But bh σ σ') (k:But bh σ' σ'') : But bh σ σ'' := fun c o hc hn => k c o (h c o hc hn) hn
theorem But.put {bh b : Nat} {o : Obj} {σ σ' σ'' : H} (h:But bh σ σ') (hp:Put σ' b o σ'') (hn:σ b = none) : But bh σ σ'' := fun c o hc hne => hp.get (fun e => by rw [e,hn] at hc;cases hc) (h c o hc hne)
theorem But.puth {bh : Nat} {o : Obj} {σ σ' σ'' : H} (h:But bh σ σ') (hp:Put σ' bh o σ'') : But bh σ σ'' := fun c o hc hne => hp.get hne (h c o hc hne)
theorem RfIn.but {bh : Nat} {σ σ' : H} {b : Nat} {A : AT} {M : RfM} (h:RfIn σ b A M) (hw:M.w bh = none) (hb:But bh σ σ') : RfIn σ' b A M := h.keep fun c o hc hwc => hb c o hc (fun e => hwc (by rw [e];exact hw))
theorem ret_pl {τ : H} {b6 : Nat} {l : List Value} {x z e : Int} {s : ByteArray} (h6:τ b6 = some (.cells ⟨l⟩ 125 (0,0))) (hl:l.length = 3) {K : KH} (hK:∀ τ' o,Put τ b6 o τ' -> K (.tuple ⟨[.agg ⟨[.int .i64 x,.string s,.int .i64 z]⟩,.int .i64 e]⟩) τ') :
 stW Tryz.prog 125 (.pointer (some ⟨b6,0,none⟩)) (.agg ⟨[.int .i64 x,.string s,.int .i64 z]⟩) (ptrW (some ⟨b6,0,none⟩) (fun (b22 o23:Nat) => rdT (rdA 3 b22 o23) (.one (.agg [(.int .i64),.str,(.int .i64)])) (fun (r24:Int) (r25:ByteArray) (r26:Int) => K (.tuple ⟨[.agg ⟨[.int .i64 r24,.string r25,.int .i64 r26]⟩,.int .i64 e]⟩)))) τ := by
 match l,hl with
 | [l0,l1,l2],_ =>
  refine st_i2 h6 sz_RPlace (by rfl) (by rfl) ?_;intro τ' p
  refine ptr_i (rd_G (rdA_of' p.same (by rfl)) ?_)
  (refine app_of rfl ?_;try dsimp only)
  exact hK τ' _ p
theorem srow_at {τ : H} {L : List ByteArray} {y : Sl} (h:RowsOwn τ 9 1 (srows L) y) {i : Nat} {s : ByteArray} (hi:L[i]? = some s) : ∃ g o,y.base = some ⟨g,o,none⟩ /\ rdC g (o + i * 1) τ = some (.string s) := by
 have hr : (srows L)[i]? = some [.string s] := by unfold srows;rw [List.getElem?_map,hi];rfl
 obtain ⟨h1,h2 | ⟨g,o,cur,t,fz,h2,h3,h4⟩⟩ := h.rows
 ·rw [h2] at hr;simp at hr
 ·refine ⟨g,o,h2,rdC_of h3 ?_⟩
  obtain ⟨_,h5⟩ := h4 i _ hr
  have : ((cur.drop (o + i * 1)).take 1)[0]? = some (.string s) := by rw [h5];rfl
  rw [List.getElem?_take] at this
  simpa using this
theorem split_len (l:List UInt8) : (splitL 47 l).length <= l.length + 1 := by
 induction l with
 | nil => simp [splitL]
 | cons x r ih =>
  unfold splitL
  cases (x == 47) with
  | true => simp;exact ih
  | false =>
   cases h : splitL 47 r with
   | nil => simp
   | cons a t => rw [h] at ih;simp at ih ⊢;omega
theorem parts_len (path:ByteArray) : (partsB path).length <= path.size + 1 := by
 unfold partsB
 refine Nat.le_trans (List.length_filter_le ..) ?_
 rw [List.length_map,size_list]
 exact split_len _
def Good (A:AT) (p:Pl) : Prop := p.there = true -> ∃ n,A.get p.ino = some n
def plR (r:Int × Pl × Int) : List Value := if r.1 = 0 then plV r.2.1 else plZ
section
variable {A : AT} {N : Nat}
theorem step_case (hI:Wk.Inv A) {f : Nat} {fo : Bool} {name : ByteArray} {rest : List ByteArray} {p : Pl} {h' : Int} {r : Int × Pl × Int} {n : AN} (ht:p.there = true) (hn:A.get p.ino = some n)
 (hr:A.steps (fun d s x => A.walk f d s true x) fo (name :: rest) p h' = r) :
 (∃ e : Int,e ≠ 0 /\ (if A.kind p.ino ≠ 2 then Value.tuple ⟨[.agg ⟨plZ⟩,.int .i64 8]⟩ else if sEq name ⟨⟨[46,46]⟩⟩ = true then .tuple ⟨[.agg ⟨plV ⟨A.upOf p.ino,⟨⟨[]⟩⟩,A.upOf p.ino,true⟩⟩,.int .i64 0]⟩ else if name.size > 56 then .tuple ⟨[.agg ⟨plZ⟩,.int .i64 3]⟩ else .tuple ⟨[.agg ⟨plV ⟨p.ino,name,(A.find p.ino name).getD 0,(A.find p.ino name).isSome⟩⟩,.int .i64 0]⟩) = .tuple ⟨[.agg ⟨plZ⟩,.int .i64 e]⟩ /\ r = (e,Pl.z,h')) \/
 ∃ q : Pl,(if A.kind p.ino ≠ 2 then Value.tuple ⟨[.agg ⟨plZ⟩,.int .i64 8]⟩ else if sEq name ⟨⟨[46,46]⟩⟩ = true then .tuple ⟨[.agg ⟨plV ⟨A.upOf p.ino,⟨⟨[]⟩⟩,A.upOf p.ino,true⟩⟩,.int .i64 0]⟩ else if name.size > 56 then .tuple ⟨[.agg ⟨plZ⟩,.int .i64 3]⟩ else .tuple ⟨[.agg ⟨plV ⟨p.ino,name,(A.find p.ino name).getD 0,(A.find p.ino name).isSome⟩⟩,.int .i64 0]⟩) = .tuple ⟨[.agg ⟨plV q⟩,.int .i64 0]⟩ /\ Good A q /\
  ((((!rest.isEmpty) || fo) && (q.there && (A.kind q.ino == 3))) = false -> A.steps (fun d s x => A.walk f d s true x) fo rest q h' = r) /\
  ((((!rest.isEmpty) || fo) && (q.there && (A.kind q.ino == 3))) = true -> A.isDir q.dir /\ ((h' - 1 < 0 -> r = (9,Pl.z,h' - 1)) /\ (¬ h' - 1 < 0 -> ((A.walk f q.dir (A.data q.ino) true (h' - 1)).1 ≠ 0 -> r = ((A.walk f q.dir (A.data q.ino) true (h' - 1)).1,Pl.z,(A.walk f q.dir (A.data q.ino) true (h' - 1)).2.2)) /\ ((A.walk f q.dir (A.data q.ino) true (h' - 1)).1 = 0 -> A.steps (fun d s x => A.walk f d s true x) fo rest (A.walk f q.dir (A.data q.ino) true (h' - 1)).2.1 (A.walk f q.dir (A.data q.ino) true (h' - 1)).2.2 = r)))) := by
 by_cases h2 : A.kind p.ino = 2
 case neg => exact .inl ⟨8,by decide,by rw [if_pos h2],by rw [<- hr,steps_notdir ht h2]⟩
 have hd := kind_dir h2
 rw [if_neg (by simpa using h2)]
 cases h3 : sEq name ⟨⟨[46,46]⟩⟩ with
 | true =>
  refine .inr ⟨⟨A.upOf p.ino,⟨⟨[]⟩⟩,A.upOf p.ino,true⟩,by rw [if_pos rfl],?_,?_,?_⟩
  ·intro _
   obtain ⟨m,hm,_⟩ := hI.isDir_up hd
   exact ⟨m,hm⟩
  ·intro _;rw [<- hr,steps_up ht h2 h3]
  ·intro hc
   have : A.kind (A.upOf p.ino) = 2 := dir_kind (hI.isDir_up hd)
   simp [this] at hc
 | false =>
  rw [if_neg (by decide)]
  by_cases h4 : name.size > 56
  ·exact .inl ⟨3,by decide,by rw [if_pos h4],by rw [<- hr,steps_long ht h2 h3 h4]⟩
  rw [if_neg h4]
  refine .inr ⟨⟨p.ino,name,(A.find p.ino name).getD 0,(A.find p.ino name).isSome⟩,rfl,?_,?_,?_⟩
  ·intro hs
   obtain ⟨j,hj⟩ := Option.isSome_iff_exists.1 hs
   obtain ⟨_,_,_,_,_,m,hm,_⟩ := hI.find hj
   exact ⟨m,by rw [hj];exact hm⟩
  ·intro hc
   have h5 : (A.find p.ino name).isSome = false \/ (rest.isEmpty && !fo) = true \/ A.kind ((A.find p.ino name).getD 0) ≠ 3 := by
    cases c1 : (A.find p.ino name).isSome with
    | false => exact .inl rfl
    | true =>
     by_cases c3 : A.kind ((A.find p.ino name).getD 0) = 3
     ·refine .inr (.inl ?_)
      simp only [c1,c3,beq_self_eq_true,Bool.and_true] at hc
      cases c4 : rest.isEmpty <;> cases c5 : fo <;> simp [c4,c5] at hc ⊢
     ·exact .inr (.inr c3)
   rw [<- hr,steps_name ht h2 h3 h4 h5]
  ·intro hc
   have h5 : ¬ ((A.find p.ino name).isSome = false \/ (rest.isEmpty && !fo) = true \/ A.kind ((A.find p.ino name).getD 0) ≠ 3) := by
    simp only [Bool.and_eq_true,Bool.or_eq_true,Bool.not_eq_true',beq_iff_eq] at hc
    obtain ⟨q1,q2,q3⟩ := hc
    rintro (e | e | e)
    ·rw [e] at q2;cases q2
    ·simp only [Bool.and_eq_true,Bool.not_eq_true'] at e
     rcases q1 with q1 | q1
     ·rw [q1] at e;cases e.1
     ·rw [q1] at e;cases e.2
    ·exact e q3
   refine ⟨hd,fun h6 => ?_,fun h6 => ⟨fun h7 => ?_,fun h7 => ?_⟩⟩
   ·rw [<- hr,steps_loop ht h2 h3 h4 h5 h6]
   ·rw [<- hr,steps_err ht h2 h3 h4 h5 h6 h7]
   ·rw [<- hr,steps_link ht h2 h3 h4 h5 h6 h7]
theorem s_rfWay (hI:Wk.Inv A) (hB:Bd N A) (hN:N <= 1000000000000) : ∀ (f:Nat) (d:Int) (path:ByteArray) (fo:Bool) (h:Int) {σ : H} {b bh : Nat} {M : RfM},RfIn σ b A M -> A.isDir (d + 1) -> 0 <= h -> h + 2 <= f -> f <= 100 -> σ bh = some (.cells ⟨[.int .i64 h]⟩ 3 (0,0)) -> M.w bh = none -> ∀ {K : KH},(∀ σ',But bh σ σ' -> σ' bh = some (.cells ⟨[.int .i64 (A.walk f (d + 1) path fo h).2.2]⟩ 3 (0,0)) -> K (.tuple ⟨[.agg ⟨plR (A.walk f (d + 1) path fo h)⟩,.int .i64 (A.walk f (d + 1) path fo h).1]⟩) σ') ->
 callW Tryz.prog 134 [.pointer (some ⟨b,0,none⟩),.int .i64 d,.string path,.bool fo,.pointer (some ⟨bh,0,none⟩)] K σ := by
 intro f
 induction f with
 | zero => intro d path fo h σ b bh M _ _ h0 hh;omega
 | succ f ih =>
  intro d path fo h σ b bh M hM hd h0 hh hf hbh hw K hK
  have hE : ∀ e,mayE path = e -> e ≠ 0 -> ∀ σ2,But bh σ σ2 -> σ2 bh = some (.cells ⟨[.int .i64 h]⟩ 3 (0,0)) -> K (.tuple ⟨[.agg ⟨plZ⟩,.int .i64 e]⟩) σ2 := by
   intro e he hne σ2 hb hc
   have hwk : A.walk (f + 1) (d + 1) path fo h = (e,Pl.z,h) := by rw [AT.walk,if_pos (by rw [he];exact hne),he]
   rw [hwk] at hK
   have := hK σ2 hb hc
   unfold plR at this
   rw [if_neg hne] at this
   exact this
  refine c134 _ _ _ _ _ ?_
  unfold g134
  refine al_i ?_;intro b6 σ1 g1 e1 n1
  have hbh1 := g1.get hbh
  have nb6 : b6 ≠ bh := by intro e;rw [e,hbh] at n1;cases n1
  cases c1 : sEq path ⟨⟨[]⟩⟩ with
  | true =>
   refine br_t (by rw [<- sEq_eq];exact c1) ?_
   refine st_i2 e1 sz_RPlace (by rfl) (by rfl) ?_;intro σ2 p2
   refine rd_G (rdA_of' p2.same (by rfl)) ?_
   (refine app_of rfl ?_;try dsimp only)
   exact hE 5 (by unfold mayE;rw [c1];rfl) (by decide) σ2 ((But.of_gr g1).put p2 n1) (p2.get (Ne.symm nb6) hbh1)
  | false =>
  refine br_f (by rw [<- sEq_eq];exact c1) ?_
  by_cases c2 : path.size > 255
  ·refine br_t (by simp only [decide_eq_true_eq];omega) ?_
   refine st_i2 e1 sz_RPlace (by rfl) (by rfl) ?_;intro σ2 p2
   refine rd_G (rdA_of' p2.same (by rfl)) ?_
   (refine app_of rfl ?_;try dsimp only)
   exact hE 3 (by unfold mayE;rw [c1,if_neg (by decide),if_pos c2]) (by decide) σ2 ((But.of_gr g1).put p2 n1) (p2.get (Ne.symm nb6) hbh1)
  refine br_f (by simp only [decide_eq_false_iff_not];omega) (loop_i ?_)
  intro R hR
  have hlen : path.data.toList.length = path.size := (size_list path).symm
  have key : ∀ (c i:Nat),c + i = path.size -> (0:UInt8) ∉ path.data.toList.take i -> R (some ⟨b,0,none⟩) d path fo (some ⟨bh,0,none⟩) (some ⟨b6,0,none⟩) (i:Int) σ1 := by
   intro c
   induction c with
   | succ c ihc =>
    intro i hc hno
    refine hR _ _ _ _ _ _ _ _ ?_
    obtain ⟨ch,hch⟩ : ∃ ch,path.data.toList[i]? = some ch := ⟨_,List.getElem?_eq_getElem (by omega)⟩
    refine br_t (by simp only [decide_eq_true_eq];omega) (idx_l (c := ch) (by omega) (by simpa using hch) ?_)
    by_cases hc0 : ch = 0
    ·subst hc0
     have hnul : hasNul path = true := by
      unfold hasNul
      rw [List.any_eq_true]
      exact ⟨0,List.mem_of_getElem? hch,by decide⟩
     refine br_t rfl (ret_pl e1 rfl ?_)
     intro σ2 o p2
     exact hE 2 (by unfold mayE;rw [c1,if_neg (by decide),if_neg c2,hnul];rfl) (by decide) σ2 ((But.of_gr g1).put p2 n1) (p2.get (Ne.symm nb6) hbh1)
    ·refine br_f ?_ ?_
     ·have : ¬ ((ch.toNat : Int) = 0) := by
       intro e;apply hc0
       have : ch.toNat = 0 := by omega
       exact UInt8.toNat_inj.1 this
      simpa using this
     ·rw [wrap_id (x := (i:Int) + 1) (by omega) (by omega)]
      refine ihc (i + 1) (by omega) ?_
      rw [List.take_add_one,hch]
      simp only [Option.toList_some,List.mem_append,List.mem_singleton,not_or]
      exact ⟨hno,fun e => hc0 e.symm⟩
   | zero =>
    intro i hc hno
    have hi : i = path.size := by omega
    have hnul : hasNul path = false := by
     rw [hi,<- hlen,List.take_length] at hno
     unfold hasNul
     rw [List.any_eq_false]
     intro x hx
     simp only [beq_iff_eq]
     rintro rfl;exact hno hx
    have hm : mayE path = 0 := by unfold mayE;rw [c1,if_neg (by decide),if_neg c2,hnul];rfl
    refine hR _ _ _ _ _ _ _ _ ?_
    refine br_f (by simp only [decide_eq_false_iff_not];omega) ?_
    have hwk : A.walk (f + 1) (d + 1) path fo h = A.steps (fun d s h' => A.walk f d s true h') fo (partsB path) ⟨if headIs 47 path then 1 else d + 1,⟨⟨[]⟩⟩,if headIs 47 path then 1 else d + 1,true⟩ h := by
     rw [AT.walk,if_neg (by simpa using hm)]
    generalize hr : A.walk (f + 1) (d + 1) path fo h = r at hK hwk
    refine j_i (fun j => ∀ ad : Int,ad + 1 = (if headIs 47 path then 1 else d + 1) -> j (some ⟨b,0,none⟩) ad path fo (some ⟨bh,0,none⟩) (some ⟨b6,0,none⟩) σ1) ?_ ?_
    case refine_2 =>
     intro j hj
     cases hl : path.data.toList with
     | nil =>
      exfalso
      have : path = ⟨⟨[]⟩⟩ := bytes_ext hl
      rw [this] at c1;exact absurd c1 (by decide)
     | cons c0 cr =>
      have hh0 : headIs 47 path = (c0 == 47) := by unfold headIs;rw [hl]
      refine idx_l (c := c0) (by decide) (by rw [hl];rfl) ?_
      rw [hh0] at hj
      by_cases e47 : c0 = 47
      ·subst e47
       exact br_t rfl (hj 0 (by simp))
      ·refine br_f ?_ (hj d (by simp [e47]))
       have : ¬ ((c0.toNat:Int) = 47) := by
        intro e;apply e47
        have : c0.toNat = 47 := by omega
        exact UInt8.toNat_inj.1 this
       simpa using this
    intro ad had
    rw [<- had] at hwk
    have hda : A.isDir (ad + 1) := by
     rw [had]
     cases headIs 47 path with
     | true => exact hI.root_dir
     | false => exact hd
    refine al_i ?_;intro b34 σ2 g2 e2 n2
    refine st_i2 e2 sz_RPlace (by rfl) (by rfl) ?_;intro σ3 p3
    have k34 : σ3 b34 = some (.cells ⟨plV ⟨ad + 1,⟨⟨[]⟩⟩,ad + 1,true⟩⟩ 125 (0,0)) := by
     have e : plV ⟨ad + 1,⟨⟨[]⟩⟩,ad + 1,true⟩ = [.int .i64 ad,.string ⟨⟨[]⟩⟩,.int .i64 ad] := by
      unfold plV;simp
     rw [e];exact p3.same
    have g3 : Gr σ1 σ3 := g2.putF p3 n2
    refine call_i (s_rfNames path (by omega) ?_)
    intro y σ4 hS
    obtain ⟨g4,own,fr⟩ := hS
    refine app_L (loop_i ?_)
    intro R2 hR2
    have n6 : σ b6 = none := n1
    have n34 : σ b34 = none := none_of g1 n2
    have nb34 : b34 ≠ bh := by intro e;rw [e,hbh] at n34;cases n34
    have nb34b : b34 ≠ b6 := by intro e;rw [e,e1] at n2;cases n2
    have hyb : ∀ g,y.base = some ⟨g,0,none⟩ -> g ≠ bh /\ g ≠ b34 /\ g ≠ b6 := by
     intro g hg
     have hn := fr g hg
     refine ⟨?_,?_,?_⟩
     ·intro e;rw [e,g3.get hbh1] at hn;cases hn
     ·intro e;rw [e,k34] at hn;cases hn
     ·intro e;rw [e,g3.get e1] at hn;cases hn
    have hLz : (partsB path).length <= 300 := by
     have := parts_len path
     omega
    generalize partsB path = L at hwk own hLz
    have hyl : y.len = L.length := by have := own.1;simpa [srows] using this
    have key2 : ∀ (c i:Nat) (p:Pl) (h':Int) (τ:H),c + i = L.length -> But bh σ τ -> τ b6 = some (.cells ⟨plZ⟩ 125 (0,0)) -> τ b34 = some (.cells ⟨plV p⟩ 125 (0,0)) -> τ bh = some (.cells ⟨[.int .i64 h']⟩ 3 (0,0)) -> RowsOwn τ 9 1 (srows L) y -> Good A p -> 0 <= h' -> h' <= h -> A.steps (fun d s h' => A.walk f d s true h') fo (L.drop i) p h' = r -> R2 (some ⟨b,0,none⟩) fo (some ⟨bh,0,none⟩) (some ⟨b6,0,none⟩) (some ⟨b34,0,none⟩) y (i:Int) τ := by
     intro c
     induction c with
     | zero =>
      intro i p h' τ hc hBu k6 k34 kh own hG z0 z1 hs
      rw [show L.drop i = [] from List.drop_eq_nil_of_le (by omega)] at hs
      have hs : (0,p,h') = r := hs
      subst hs
      refine hR2 _ _ _ _ _ _ _ _ ?_
      unfold plV at k34
      refine br_f (by simp only [decide_eq_false_iff_not];omega) (ptr_i (rd_G (rdA_of' k34 (by rfl)) ?_))
      (refine app_of rfl ?_;try dsimp only)
      refine ret_pl k6 rfl ?_
      intro τ' o hp
      exact hK τ' (hBu.put hp n6) (hp.get (Ne.symm nb6) kh)
     | succ c ihc =>
      intro i p h' τ hc hBu k6 k34 kh own hG z0 z1 hs
      refine hR2 _ _ _ _ _ _ _ _ ?_
      refine br_t (by simp only [decide_eq_true_eq];omega) ?_
      have ferr : ∀ (e:Int) (h'':Int) (τ':H),e ≠ 0 -> r = (e,Pl.z,h'') -> But bh σ τ' -> τ' bh = some (.cells ⟨[.int .i64 h'']⟩ 3 (0,0)) -> K (.tuple ⟨[.agg ⟨[.int .i64 0,.string ⟨⟨[]⟩⟩,.int .i64 0]⟩,.int .i64 e]⟩) τ' := by
       intro e h'' τ' he hre hb hk
       subst hre
       have := hK τ' hb hk
       unfold plR at this
       rw [if_neg he] at this
       exact this
      refine j_i (fun j => ∀ (p':Pl) (h'':Int) (τ':H) v1 v2 v3 v4 v5 v6 v7 v8 v9 v10 v11 v12 v13 v14 v15 v16,But bh σ τ' -> τ' b6 = some (.cells ⟨plZ⟩ 125 (0,0)) -> τ' b34 = some (.cells ⟨plV p'⟩ 125 (0,0)) -> τ' bh = some (.cells ⟨[.int .i64 h'']⟩ 3 (0,0)) -> RowsOwn τ' 9 1 (srows L) y -> Good A p' -> 0 <= h'' -> h'' <= h -> A.steps (fun d s h' => A.walk f d s true h') fo (L.drop (i + 1)) p' h'' = r -> j (some ⟨b,0,none⟩) fo (some ⟨bh,0,none⟩) (some ⟨b6,0,none⟩) (some ⟨b34,0,none⟩) y (i:Int) v1 v2 v3 v4 v5 v6 v7 v8 v9 v10 v11 v12 v13 v14 v15 v16 τ') ?_ ?_
      ·intro p' h'' τ' v1 v2 v3 v4 v5 v6 v7 v8 v9 v10 v11 v12 v13 v14 v15 v16 a1 a2 a3 a4 a5 a6 a7 a8 a9
       rw [wrap_id (x := (i:Int) + 1) (by omega) (by omega)]
       rw [show (i:Int) + 1 = ((i + 1 : Nat) : Int) from by omega]
       exact ihc (i + 1) p' h'' τ' (by omega) a1 a2 a3 a4 a5 a6 a7 a8 a9
      intro j44 h44
      obtain ⟨name,hname⟩ : ∃ name,L[i]? = some name := ⟨_,List.getElem?_eq_getElem (by omega)⟩
      have hdrop : L.drop i = name :: L.drop (i + 1) := by
       rw [List.drop_eq_getElem_cons (by omega)]
       rw [List.getElem?_eq_getElem (by omega)] at hname
       rw [Option.some.inj hname]
      rw [hdrop] at hs
      cases ht : p.there with
      | false =>
       rw [steps_none ht] at hs
       unfold plV at k34
       rw [ht] at k34
       refine ptr_i (rd_I (rdC_of k34 (by rfl)) (br_t rfl (ret_pl k6 rfl ?_)))
       intro τ' o hp
       exact ferr 5 h' τ' (by decide) hs.symm (hBu.put hp n6) (hp.get (Ne.symm nb6) kh)
      | true =>
       obtain ⟨n,hn⟩ := hG ht
       have hlow := (hI.low _ _ hn).1
       have hcase := step_case hI ht hn hs
       have hp1 : p.ino - 1 + 1 = p.ino := by omega
       unfold plV at k34
       rw [if_pos ht] at k34
       obtain ⟨gy,oy,q1,q2⟩ := srow_at own hname
       refine ptr_i (rd_I (rdC_of k34 (by rfl)) (br_f (by simp only [decide_eq_false_iff_not];omega) (ptr_i (rd_I (rdC_of k34 (by rfl)) ?_))))
       rw [q1]
       have e0 : (i:Int).toNat = i := by omega
       refine ptr_i (if_i ⟨by omega,by omega⟩ (rd_S (by rw [e0];exact q2) ?_))
       refine call_i (s_rfStep (hM.but hw hBu) hI hB hN (d := p.ino - 1) (n := n) (by rw [hp1];exact hn) name ?_)
       intro τ1 gt
       rw [hp1]
       have k6 := gt.get k6
       have k34 := gt.get k34
       have kh := gt.get kh
       have own := own.gr gt
       have hBu := hBu.trans (But.of_gr gt)
       rcases hcase with ⟨e,he,hv,hre⟩ | ⟨q,hv,hGq,hq1,hq2⟩
       ·rw [hv]
        unfold plZ
        (refine app_of rfl ?_;try dsimp only)
        refine al_i ?_;intro b86 τ2 g5 e5 n5
        refine st_i2 e5 sz_RPlace (by rfl) (by rfl) ?_;intro τ3 p5
        have g6 : Gr τ1 τ3 := g5.putF p5 n5
        refine br_t (by simpa using he) (ret_pl (g6.get k6) rfl ?_)
        intro τ' o hp
        exact ferr e h' τ' he hre ((hBu.trans (But.of_gr g6)).put hp n6) (hp.get (Ne.symm nb6) (g6.get kh))
       ·rw [hv]
        unfold plV
        (refine app_of rfl ?_;try dsimp only)
        refine al_i ?_;intro b86 τ2 g5 e5 n5
        refine st_i2 e5 sz_RPlace (by rfl) (by rfl) ?_;intro τ3 p5
        have g6 : Gr τ1 τ3 := g5.putF p5 n5
        refine br_f rfl (rd_G (rdA_of' p5.same (by rfl)) ?_)
        (refine app_of rfl ?_;try dsimp only)
        refine st_i2 (g6.get k34) sz_RPlace (by rfl) (by rfl) ?_;intro τ4 p6
        have k34q : τ4 b34 = some (.cells ⟨[.int .i64 (q.dir - 1),.string q.name,.int .i64 (if q.there then q.ino - 1 else -1)]⟩ 125 (0,0)) := p6.same
        have k6q := p6.get (Ne.symm nb34b) (g6.get k6)
        have khq := p6.get (Ne.symm nb34) (g6.get kh)
        have ownq := (own.gr g6).put p6 (fun e => (hyb b34 e).2.1 rfl)
        have hBq : But bh σ τ4 := (hBu.trans (But.of_gr g6)).put p6 n34
        have hM4 := hM.but hw hBq
        clear p5 p6 e5 k34 k6 kh own hBu
        have hmore : decide ((i:Int) + 1 < ((y.len:Nat) : Int)) = !(L.drop (i + 1)).isEmpty := by
         have hdl : (L.drop (i + 1)).length = L.length - (i + 1) := List.length_drop
         cases hD : L.drop (i + 1) with
         | nil => rw [hD] at hdl;simp at hdl;simp;omega
         | cons a r => rw [hD] at hdl;simp at hdl;simp;omega
        generalize hT : (((!(L.drop (i + 1)).isEmpty) || fo) && (q.there && (A.kind q.ino == 3))) = t at hq1 hq2
        refine j_i (fun j => ∀ v1 v2 v3 v4 v5 v6 v7 v8 v9 v10 v11 v12 v13 v14 v15 v16,j (some ⟨b,0,none⟩) fo (some ⟨bh,0,none⟩) (some ⟨b6,0,none⟩) (some ⟨b34,0,none⟩) y (i:Int) v1 v2 v3 v4 v5 v6 v7 v8 v9 v10 v11 v12 v13 v14 v15 v16 t τ4) ?_ ?_
        case refine_2 =>
         intro j95 h95
         rw [wrap_id (x := (i:Int) + 1) (by omega) (by omega),hmore]
         cases hqt : q.there with
         | false =>
          have ht0 : t = false := by rw [<- hT,hqt];simp
          rw [ht0] at h95
          rw [if_neg (by rw [hqt];decide)] at k34q
          cases (L.drop (i + 1)).isEmpty with
          | false => exact br_t rfl (ptr_i (rd_I (rdC_of k34q (by rfl)) (br_f rfl (h95 _ _ _ _ _ _ _ _ _ _ _ _ _ _ _ _))))
          | true =>
           refine br_f rfl ?_
           cases fo with
           | true => exact br_t rfl (ptr_i (rd_I (rdC_of k34q (by rfl)) (br_f rfl (h95 _ _ _ _ _ _ _ _ _ _ _ _ _ _ _ _))))
           | false => exact br_f rfl (h95 _ _ _ _ _ _ _ _ _ _ _ _ _ _ _ _)
         | true =>
          obtain ⟨nq,hnq⟩ := hGq hqt
          have hqlow := (hI.low _ _ hnq).1
          have hq11 : q.ino - 1 + 1 = q.ino := by omega
          have hkq : A.kind q.ino = nq.kind := by unfold AT.kind;rw [hnq];rfl
          rw [if_pos hqt] at k34q
          obtain ⟨gs,os,s1,s2,s3⟩ := hM4.slot hI (d := q.ino - 1) (n := nq) (by rw [hq11];exact hnq)
          rw [hq11] at s3
          rw [hkq,hqt] at hT
          cases hem : (L.drop (i + 1)).isEmpty with
          | false =>
           have ht1 : t = (nq.kind == 3) := by rw [<- hT,hem];simp
           rw [ht1] at h95
           refine br_t rfl (ptr_i (rd_I (rdC_of k34q (by rfl)) (br_t (by simp only [decide_eq_true_eq];omega) ?_)))
           refine ptr_i (rd_L (rdC_of hM4.top (by rfl)) (ptr_i (rd_I (rdC_of k34q (by rfl)) ?_)))
           rw [s1]
           exact ptr_i (if_i s2 (rd_P s3 (ptr_i (rd_I (rdC_of (hM4.nod _ _ hnq) (by rfl)) (h95 _ _ _ _ _ _ _ _ _ _ _ _ _ _ _ _)))))
          | true =>
           refine br_f rfl ?_
           cases fo with
           | true =>
            have ht1 : t = (nq.kind == 3) := by rw [<- hT,hem];simp
            rw [ht1] at h95
            refine br_t rfl (ptr_i (rd_I (rdC_of k34q (by rfl)) (br_t (by simp only [decide_eq_true_eq];omega) ?_)))
            refine ptr_i (rd_L (rdC_of hM4.top (by rfl)) (ptr_i (rd_I (rdC_of k34q (by rfl)) ?_)))
            rw [s1]
            exact ptr_i (if_i s2 (rd_P s3 (ptr_i (rd_I (rdC_of (hM4.nod _ _ hnq) (by rfl)) (h95 _ _ _ _ _ _ _ _ _ _ _ _ _ _ _ _)))))
           | false =>
            have ht1 : t = false := by rw [<- hT,hem];simp
            rw [ht1] at h95
            exact br_f rfl (h95 _ _ _ _ _ _ _ _ _ _ _ _ _ _ _ _)
        intro v1 v2 v3 v4 v5 v6 v7 v8 v9 v10 v11 v12 v13 v14 v15 v16
        cases t with
        | false =>
         exact br_f rfl (h44 q h' τ4 _ _ _ _ _ _ _ _ _ _ _ _ _ _ _ _ hBq k6q k34q khq ownq hGq z0 z1 (hq1 rfl))
        | true =>
         obtain ⟨hqd,hq9,hqw⟩ := hq2 rfl
         have hqt : q.there = true := by
          simp only [Bool.and_eq_true] at hT
          exact hT.2.1
         obtain ⟨nq,hnq⟩ := hGq hqt
         have hqlow := (hI.low _ _ hnq).1
         have hq11 : q.ino - 1 + 1 = q.ino := by omega
         have hd11 : q.dir - 1 + 1 = q.dir := by omega
         have hdat : A.data q.ino = nq.data := by unfold AT.data;rw [hnq];rfl
         rw [hdat] at hqw
         rw [if_pos hqt] at k34q
         refine br_t rfl (ptr_i (rd_I (rdC_of khq (by rfl)) (ptr_i ?_)))
         rw [wrap_id (x := h' - 1) (by omega) (by omega)]
         refine st_i2 khq sz_int (by rfl) (by rfl) ?_;intro τ5 p7
         have kh5 : τ5 bh = some (.cells ⟨[.int .i64 (h' - 1)]⟩ 3 (0,0)) := p7.same
         have k65 := p7.get nb6 k6q
         have k345 := p7.get nb34 k34q
         have own5 := ownq.put p7 (fun e => (hyb bh e).1 rfl)
         have hB5 : But bh σ τ5 := hBq.puth p7
         have hM5 := hM.but hw hB5
         clear p7
         refine ptr_i (rd_I (rdC_of kh5 (by rfl)) ?_)
         by_cases h6 : h' - 1 < 0
         ·refine br_t (by simpa using h6) (ret_pl k65 rfl ?_)
          intro τ' o hp
          exact ferr 9 (h' - 1) τ' (by decide) (hq9 h6) (hB5.put hp n6) (hp.get (Ne.symm nb6) kh5)
         ·obtain ⟨hw1,hw2⟩ := hqw h6
          obtain ⟨gs,os,s1,s2,s3⟩ := hM5.slot hI (d := q.ino - 1) (n := nq) (by rw [hq11];exact hnq)
          rw [hq11] at s3
          refine br_f (by simpa using h6) (ptr_i (rd_I (rdC_of k345 (by rfl)) ?_))
          refine ptr_i (rd_L (rdC_of hM5.top (by rfl)) (ptr_i (rd_I (rdC_of k345 (by rfl)) ?_)))
          rw [s1]
          refine ptr_i (if_i s2 (rd_P s3 (ptr_i (rd_S (rdC_of (hM5.nod _ _ hnq) (by rfl)) ?_))))
          refine call_i (ih (q.dir - 1) nq.data true (h' - 1) hM5 (by rw [hd11];exact hqd) (by omega) (by omega) (by omega) kh5 hw ?_)
          intro τ6 hb6 kh6
          rw [hd11] at kh6 ⊢
          have hops := walk_hops A f q.dir nq.data true (h' - 1) (by omega)
          have hpl := fun e => walk_place hI f q.dir nq.data true (h' - 1) hqd e
          generalize A.walk f q.dir nq.data true (h' - 1) = W at hw1 hw2 kh6 hops hpl ⊢
          obtain ⟨w1,w2,w3⟩ := W
          have k66 := hb6 _ _ k65 nb6
          have k346 := hb6 _ _ k345 nb34
          have own6 := own5.keep fun g o hx hg => hb6 g o hg (hyb g hx).1
          have hB6 := hB5.trans hb6
          by_cases hW0 : w1 = 0
          ·subst hW0
           have hgw : Good A w2 := fun e => PlOk.get hI (hpl rfl) e
           unfold plR
           rw [if_pos rfl]
           unfold plV
           (refine app_of rfl ?_;try dsimp only)
           refine st_i2 k346 sz_RPlace (by rfl) (by rfl) ?_;intro τ7 p8
           refine br_f rfl (h44 w2 w3 τ7 _ _ _ _ _ _ _ _ _ _ _ _ _ _ _ _ (hB6.put p8 n34) (p8.get (Ne.symm nb34b) k66) p8.same (p8.get (Ne.symm nb34) kh6) (own6.put p8 (fun e => (hyb b34 e).2.1 rfl)) hgw (hops.2.2 rfl) (by have := hops.2.1;simp only at this;omega) (hw2 rfl))
          ·unfold plR
           rw [if_neg hW0]
           unfold plZ
           (refine app_of rfl ?_;try dsimp only)
           refine st_i2 k346 sz_RPlace (by rfl) (by rfl) ?_;intro τ7 p8
           refine br_t (by simpa using hW0) (ret_pl (p8.get (Ne.symm nb34b) k66) rfl ?_)
           intro τ' o hp
           exact ferr w1 w3 τ' hW0 (hw1 hW0) ((hB6.put p8 n34).put hp n6) (hp.get (Ne.symm nb6) (p8.get (Ne.symm nb34) kh6))
    refine key2 L.length 0 ⟨ad + 1,⟨⟨[]⟩⟩,ad + 1,true⟩ h σ4 (by omega) (But.of_gr (g1.trans (g3.trans g4))) (g4.get (g3.get e1)) (g4.get k34) (g4.get (g3.get hbh1)) own ?_ h0 (Int.le_refl _) (by simpa using hwk.symm)
    intro _
    obtain ⟨n,hn,_⟩ := hda
    exact ⟨n,hn⟩
  exact key path.size 0 (by omega) (by simp)
end
end Go.Proofs.YthclifcpjnhmjaaGreatDoor

set_option maxRecDepth 100000
namespace Go.Proofs.YthclifcpjnhmjaaGreatDoor
open Go Go.HL Go.Wk
theorem But.gr {bh : Nat} {σ σ' : H} (h:But bh σ σ') (hn:σ bh = none) : Gr σ σ' := fun c o hc => h c o hc (fun e => by rw [e,hn] at hc;cases hc)
attribute [local irreducible] ptrW ifW brW andW rdT alW letJ stW muW biW vaW imW callT cvalT app callW invW callVW sizeT oW nilF oneK loopW rfW funW begW roundK exW idxW Gr Put
theorem byte_ne (c:UInt8) : (((c.toNat:Int) : Int) != 47) = !(c == 47) := by
 by_cases h : c = 47
 ·subst h;rfl
 ·have : ¬ ((c.toNat : Int) = 47) := by
   intro e;apply h
   have : c.toNat = 47 := by omega
   exact UInt8.toNat_inj.1 this
  have h1 : (((c.toNat:Int) : Int) != 47) = true := by simpa using this
  have h2 : (c == 47) = false := by simpa using h
  rw [h1,h2];rfl
theorem head_at {s : ByteArray} (h:sEq s ⟨⟨[]⟩⟩ = false) : ∃ c,s.data.toList[(0:Int).toNat]? = some c /\ headIs 47 s = (c == 47) := by
 cases hl : s.data.toList with
 | nil =>
  exfalso
  have : s = ⟨⟨[]⟩⟩ := bytes_ext hl
  rw [this] at h;exact absurd h (by decide)
 | cons c r => exact ⟨c,rfl,by unfold headIs;rw [hl]⟩
def plL (r:Int × Pl) : List Value := if r.1 = 0 then plV r.2 else plZ
section
variable {σ : H} {b : Nat} {A : AT} {M : RfM} {N : Nat}
theorem RfIn.new (h:RfIn σ b A M) {c : Nat} (hc:σ c = none) : M.w c = none := by
 cases hw : M.w c with
 | none => rfl
 | some r => exact absurd hc (h.has c (by rw [hw];simp))
theorem s_rfGo (hI:Wk.Inv A) (hB:Bd N A) (hN:N <= 1000000000000) (hM:RfIn σ b A M) (cwd path:ByteArray) (fo:Bool) {K : KH} (hK:∀ σ',Gr σ σ' -> K (.tuple ⟨[.agg ⟨plL (A.locate cwd path fo)⟩,.int .i64 (A.locate cwd path fo).1]⟩) σ') :
 callW Tryz.prog 80 [.pointer (some ⟨b,0,none⟩),.string cwd,.string path,.bool fo] K σ := by
 refine c80 _ _ _ _ ?_
 unfold g80
 refine al_i ?_;intro b5 σ1 g1 e1 n1
 refine al_i ?_;intro b6 σ2 g2 e2 n2
 refine st_i2 e2 sz_int (by rfl) (by rfl) ?_;intro σ3 p3
 have k6 : σ3 b6 = some (.cells ⟨[.int .i64 8]⟩ 3 (0,0)) := p3.same
 have n6 : σ b6 = none := none_of g1 n2
 have n56 : b5 ≠ b6 := by intro e;rw [<- e,e1] at n2;cases n2
 have g3 : Gr σ σ3 := (g1.trans g2).putF p3 n6
 have k5 : σ3 b5 = some (.cells ⟨plZ⟩ 125 (0,0)) := p3.get n56 (g2.get e1)
 have hw6 := hM.new n6
 clear p3 e1 e2
 generalize hloc : A.locate cwd path fo = r at hK
 have hR : ∀ e τ,e ≠ 0 -> r.1 = e -> Gr σ τ -> K (.tuple ⟨[.agg ⟨[.int .i64 0,.string ⟨⟨[]⟩⟩,.int .i64 0]⟩,.int .i64 e]⟩) τ := by
  intro e τ he hr hg
  have := hK τ hg
  unfold plL at this
  rw [hr,if_neg he] at this
  exact this
 refine j_i (fun j => ∀ (ad:Int) τ,A.isDir (ad + 1) -> (A.walk 10 (ad + 1) path fo 8).1 = r.1 -> ((A.walk 10 (ad + 1) path fo 8).1 = 0 -> (A.walk 10 (ad + 1) path fo 8).2.1 = r.2) -> But b6 σ τ -> τ b5 = some (.cells ⟨plZ⟩ 125 (0,0)) -> τ b6 = some (.cells ⟨[.int .i64 8]⟩ 3 (0,0)) -> j (some ⟨b,0,none⟩) path fo (some ⟨b5,0,none⟩) ad (some ⟨b6,0,none⟩) τ) ?_ ?_
 ·intro ad τ hd w1 w2 hBu k5 k6
  refine call_i (s_rfWay hI hB hN 10 ad path fo 8 (hM.but hw6 hBu) hd (by decide) (by decide) (by decide) k6 hw6 ?_)
  intro τ' hb kh
  generalize A.walk 10 (ad + 1) path fo 8 = W at w1 w2 kh ⊢
  obtain ⟨x1,x2,x3⟩ := W
  have k5' := hb _ _ k5 n56
  have hB' := hBu.trans hb
  unfold plR
  by_cases h0 : x1 = 0
  ·subst h0
   rw [if_pos rfl]
   unfold plV
   (refine app_of rfl ?_;try dsimp only)
   refine ret_pl k5' rfl ?_
   intro τ2 o hp
   have := hK τ2 ((hB'.gr n6).putF hp n1)
   unfold plL at this
   have hr1 : r.1 = 0 := w1.symm
   rw [hr1,if_pos rfl,<- w2 rfl] at this
   exact this
  ·rw [if_neg h0]
   unfold plZ
   (refine app_of rfl ?_;try dsimp only)
   refine ret_pl k5' rfl ?_
   intro τ2 o hp
   exact hR x1 τ2 h0 w1.symm ((hB'.gr n6).putF hp n1)
 intro j7 h7
 have hB3 : But b6 σ σ3 := But.of_gr g3
 refine j_i (fun j => ∀ t : Bool,(t = false -> headIs 47 path = true) -> (t = true -> headIs 47 path = false) -> j (some ⟨b,0,none⟩) cwd path fo (some ⟨b5,0,none⟩) 0 (some ⟨b6,0,none⟩) t σ3) ?_ ?_
 case refine_2 =>
  intro j hj
  cases h0 : sEq path ⟨⟨[]⟩⟩ with
  | true => exact br_t (by rw [<- sEq_eq];exact h0) (hj true (fun e => by cases e) (fun _ => by rw [sEq_iff.1 h0];rfl))
  | false =>
   obtain ⟨c,hc,hh⟩ := head_at h0
   refine br_f (by rw [<- sEq_eq];exact h0) (idx_l (by decide) hc ?_)
   rw [byte_ne]
   refine hj _ (fun e => ?_) (fun e => ?_)
   ·rw [hh];simpa using e
   ·rw [hh];simpa using e
 intro t ht1 ht2
 cases t with
 | false =>
  have hh := ht1 rfl
  have h0 : sEq path ⟨⟨[]⟩⟩ = false := headIs_ne hh
  refine br_f rfl (h7 0 σ3 hI.root_dir ?_ ?_ hB3 k5 k6)
  ·rw [<- hloc];unfold AT.locate;rw [h0,hh];rfl
  ·intro _;rw [<- hloc];unfold AT.locate;rw [h0,hh];rfl
 | true =>
  have hh := ht2 rfl
  refine br_t rfl ?_
  cases h0 : sEq path ⟨⟨[]⟩⟩ with
  | true =>
   refine br_t (by rw [<- sEq_eq];exact h0) (ret_pl k5 rfl ?_)
   intro τ o hp
   exact hR 5 τ (by decide) (by rw [<- hloc];unfold AT.locate;rw [h0];rfl) (g3.putF hp n1)
  | false =>
   refine br_f (by rw [<- sEq_eq];exact h0) ?_
   refine j_i (fun j => ∀ t : Bool,(t = false -> headIs 47 cwd = true) -> (t = true -> headIs 47 cwd = false) -> j (some ⟨b,0,none⟩) cwd path fo (some ⟨b5,0,none⟩) (some ⟨b6,0,none⟩) t σ3) ?_ ?_
   case refine_2 =>
    intro j hj
    cases hc0 : sEq cwd ⟨⟨[]⟩⟩ with
    | true => exact br_t (by rw [<- sEq_eq];exact hc0) (hj true (fun e => by cases e) (fun _ => by rw [sEq_iff.1 hc0];rfl))
    | false =>
     obtain ⟨c,hc,hhc⟩ := head_at hc0
     refine br_f (by rw [<- sEq_eq];exact hc0) (idx_l (by decide) hc ?_)
     rw [byte_ne]
     refine hj _ (fun e => ?_) (fun e => ?_)
     ·rw [hhc];simpa using e
     ·rw [hhc];simpa using e
   intro t ht1 ht2
   cases t with
   | true =>
    have hc := ht2 rfl
    refine br_t rfl (ret_pl k5 rfl ?_)
    intro τ o hp
    exact hR 5 τ (by decide) (by rw [<- hloc];unfold AT.locate;rw [h0,hh,hc];rfl) (g3.putF hp n1)
   | false =>
    have hc := ht1 rfl
    refine br_f rfl (call_i (s_rfWay hI hB hN 10 0 cwd true 8 (hM.but hw6 hB3) hI.root_dir (by decide) (by decide) (by decide) k6 hw6 ?_))
    intro τ hb kh
    have hl : r = (let w := A.walk 10 1 cwd true 8
     if w.1 ≠ 0 then (w.1,Pl.z) else if w.2.1.there = false then (5,Pl.z) else if A.kind w.2.1.ino ≠ 2 then (8,Pl.z) else let r' := A.walk 10 w.2.1.ino path fo 8;(r'.1,r'.2.1)) := by
     rw [<- hloc];unfold AT.locate;rw [h0,hh,hc];rfl
    have hpl := fun e => walk_place hI 10 1 cwd true 8 hI.root_dir e
    rw [show (0:Int) + 1 = 1 from rfl] at kh ⊢
    generalize A.walk 10 1 cwd true 8 = W at hl kh hpl ⊢
    obtain ⟨x1,x2,x3⟩ := W
    have k5' := hb _ _ k5 n56
    have hB' := hB3.trans hb
    unfold plR
    by_cases hx : x1 = 0
    case neg =>
     rw [if_neg hx]
     have hl1 : r = (x1,Pl.z) := by rw [hl];simp [hx]
     unfold plZ
     (refine app_of rfl ?_;try dsimp only)
     refine al_i ?_;intro b54 τ2 g4 e4 n4
     refine st_i2 e4 sz_RPlace (by rfl) (by rfl) ?_;intro τ3 p4
     have g5 : Gr τ τ3 := g4.putF p4 n4
     refine br_t (by simpa using hx) (ret_pl (g5.get k5') rfl ?_)
     intro τ4 o hp
     exact hR x1 τ4 hx (by rw [hl1]) (((hB'.gr n6).trans g5).putF hp n1)
    subst hx
    rw [if_pos rfl]
    simp only [ne_eq,not_true_eq_false,if_false] at hl
    unfold plV
    (refine app_of rfl ?_;try dsimp only)
    refine al_i ?_;intro b54 τ2 g4 e4 n4
    refine st_i2 e4 sz_RPlace (by rfl) (by rfl) ?_;intro τ3 p4
    have g5 : Gr τ τ3 := g4.putF p4 n4
    have k54 : τ3 b54 = some (.cells ⟨[.int .i64 (x2.dir - 1),.string x2.name,.int .i64 (if x2.there then x2.ino - 1 else -1)]⟩ 125 (0,0)) := p4.same
    have hB5 : But b6 σ τ3 := hB'.trans (But.of_gr g5)
    have hM5 := hM.but hw6 hB5
    have k55 := g5.get k5'
    have kh5 := g5.get kh
    have n546 : b54 ≠ b6 := by intro e;rw [e,kh] at n4;cases n4
    clear p4 e4
    cases hxt : x2.there with
    | false =>
     rw [if_neg (by rw [hxt];decide)] at k54
     rw [if_pos hxt] at hl
     refine br_f rfl (rd_I (rdC_of k54 (by rfl)) (br_t rfl (ret_pl k55 rfl ?_)))
     intro τ4 o hp
     exact hR 5 τ4 (by decide) (by rw [hl]) ((hB5.gr n6).putF hp n1)
    | true =>
     obtain ⟨nx,hnx⟩ := PlOk.get hI (hpl rfl) hxt
     have hlow := (hI.low _ _ hnx).1
     have h11 : x2.ino - 1 + 1 = x2.ino := by omega
     have hkx : A.kind x2.ino = nx.kind := by unfold AT.kind;rw [hnx];rfl
     rw [if_pos hxt] at k54
     rw [if_neg (by rw [hxt];decide)] at hl
     obtain ⟨gs,os,s1,s2,s3⟩ := hM5.slot hI (d := x2.ino - 1) (n := nx) (by rw [h11];exact hnx)
     rw [h11] at s3
     refine br_f rfl (rd_I (rdC_of k54 (by rfl)) (br_f (by simp only [decide_eq_false_iff_not];omega) ?_))
     refine ptr_i (rd_L (rdC_of hM5.top (by rfl)) (rd_I (rdC_of k54 (by rfl)) ?_))
     rw [s1]
     refine ptr_i (if_i s2 (rd_P s3 (ptr_i (rd_I (rdC_of (hM5.nod _ _ hnx) (by rfl)) ?_))))
     rw [hkx] at hl
     by_cases hk2 : nx.kind = 2
     ·rw [if_neg (by simpa using hk2)] at hl
      refine br_f (by simpa using hk2) (rd_I (rdC_of k54 (by rfl)) ?_)
      refine st_i2 kh5 sz_int (by rfl) (by rfl) ?_;intro τ6 p6
      refine h7 (x2.ino - 1) τ6 (by rw [h11];exact ⟨nx,hnx,hk2⟩) ?_ ?_ (hB5.puth p6) (p6.get n56 k55) p6.same
      ·rw [h11,hl]
      ·intro _;rw [h11,hl]
     ·rw [if_pos (by simpa using hk2)] at hl
      refine br_t (by simpa using hk2) (ret_pl k55 rfl ?_)
      intro τ4 o hp
      exact hR 8 τ4 (by decide) (by rw [hl]) ((hB5.gr n6).putF hp n1)
end
end Go.Proofs.YthclifcpjnhmjaaGreatDoor

namespace Go.Wk
open Go Go.HL
def sumL (f:AN -> Nat) (l:List (Int × AN)) : Nat -> Nat
 | 0 => 0
 | i + 1 => sumL f l i + ((lk ((i:Int) + 1) l).map f).getD 0
theorem sumL_cons (f:AN -> Nat) {k : Int} {v : AN} {r : List (Int × AN)} (h:lk k r = none) : ∀ n : Nat,sumL f ((k,v) :: r) n = sumL f r n + if 1 <= k /\ k <= n then f v else 0 := by
 intro n
 induction n with
 | zero => simp only [sumL];rw [if_neg (by omega)]
 | succ n ih =>
  simp only [sumL,ih]
  by_cases e : (n:Int) + 1 = k
  ·have h1 : lk ((n:Int) + 1) ((k,v) :: r) = some v := by simp [lk,e]
   have h2 : lk ((n:Int) + 1) r = none := by rw [e];exact h
   rw [h1,h2,if_neg (by omega),if_pos (by omega)]
   simp
  ·have h1 : lk ((n : Int) + 1) ((k, v) :: r) = lk ((n : Int) + 1) r := by
    have : (((n:Int) + 1) == k) = false := by simpa using e
    simp [lk,this]
   rw [h1]
   by_cases c : 1 <= k /\ k <= n
   ·rw [if_pos c,if_pos (by omega)];omega
   ·rw [if_neg c,if_neg (by omega)];omega
theorem sumL_all (f:AN -> Nat) : ∀ (l:List (Int × AN)) (n:Nat),(keysL l).Nodup -> (∀ k ∈ keysL l,1 <= k /\ k <= n) -> sumL f l n = sumF f l := by
 intro l
 induction l with
 | nil =>
  intro n _ _
  have : ∀ n : Nat,sumL f [] n = 0 := by
   intro n
   induction n with
   | zero => rfl
   | succ n ih => simp only [sumL,ih];rfl
  rw [this];rfl
 | cons p r ih =>
  intro n h1 h2
  obtain ⟨k,v⟩ := p
  obtain ⟨h3,h4⟩ := List.nodup_cons.1 (show (k :: keysL r).Nodup from h1)
  rw [sumL_cons f (lk_none_iff.2 h3),ih n h4 fun x hx => h2 x (List.mem_cons_of_mem _ hx)]
  have := h2 k (List.mem_cons_self ..)
  rw [if_pos this]
  simp only [sumF];omega
theorem sumL_mono (f:AN -> Nat) (l:List (Int × AN)) : ∀ {n m : Nat},n <= m -> sumL f l n <= sumL f l m := by
 intro n m h
 induction h with
 | refl => exact Nat.le_refl _
 | step _ ih => simp only [sumL];omega
theorem Inv.sums {A : AT} (h:Inv A) : (sumL (fun _ => 1) A.nodes A.last.toNat : Int) = A.ui /\ (sumL (fun n => n.data.size) A.nodes A.last.toNat : Int) = A.ub := by
 have hk : ∀ k ∈ keysL A.nodes,1 <= k /\ k <= ((A.last.toNat:Nat) : Int) := by
  intro k hk
  cases hl : A.get k with
  | none => exact absurd hk (lk_none_iff.1 hl)
  | some n => have := h.low k n hl;omega
 rw [sumL_all _ _ _ h.nodup hk,sumL_all _ _ _ h.nodup hk]
 refine ⟨?_,?_⟩
 ·rw [sumF_len,h.ui]
 ·rw [h.ub];rfl
def entN (name:ByteArray) : List ByteArray -> List ByteArray
 | [] => [name]
 | k :: r => if ltB name k = true then name :: k :: r else k :: entN name r
theorem entN_perm (name:ByteArray) : ∀ l,(entN name l).Perm (name :: l) := by
 intro l
 induction l with
 | nil => exact List.Perm.refl _
 | cons k r ih =>
  unfold entN
  split
  ·exact List.Perm.refl _
  ·exact (ih.cons k).trans (List.Perm.swap name k r)
def leN (a b:ByteArray) : Prop := a.data.toList <= b.data.toList
theorem entN_sorted {name : ByteArray} : ∀ {l : List ByteArray},l.Pairwise leN -> (entN name l).Pairwise leN := by
 intro l
 induction l with
 | nil => intro _;simp [entN]
 | cons k r ih =>
  intro h
  obtain ⟨h1,h2⟩ := List.pairwise_cons.1 h
  unfold entN
  by_cases c : ltB name k = true
  ·rw [if_pos c]
   have hnk : leN name k := by
    unfold ltB at c
    cases hb : leB k.data.toList name.data.toList with
    | true => rw [hb] at c;cases c
    | false =>
     have : ¬ k.data.toList <= name.data.toList := by rw [<- leB_iff,hb];simp
     exact (List.le_total _ _).resolve_left this
   refine List.pairwise_cons.2 ⟨fun z hz => ?_,h⟩
   rcases List.mem_cons.1 hz with e | e
   ·rw [e];exact hnk
   ·exact List.le_trans hnk (h1 z e)
  ·rw [if_neg c]
   have hkn : leN k name := by
    unfold ltB at c
    cases hb : leB k.data.toList name.data.toList with
    | false => rw [hb] at c;exact absurd rfl c
    | true => exact (leB_iff _ _).1 hb
   refine List.pairwise_cons.2 ⟨fun z hz => ?_,ih h2⟩
   rcases List.mem_cons.1 ((entN_perm name r).mem_iff.1 hz) with e | e
   ·rw [e];exact hkn
   ·exact h1 z e
theorem sortN_sorted (l:List ByteArray) : (sortN l).Pairwise leN := by
 unfold sortN
 rw [List.pairwise_map]
 exact (sortB_sorted _).imp fun h => h
theorem sorted_eq {a b : List ByteArray} (ha:a.Pairwise leN) (hb:b.Pairwise leN) (h:a.Perm b) : a = b :=
 List.Perm.eq_of_pairwise (le := leN) (fun x y _ _ h1 h2 => bytes_ext (List.le_antisymm h1 h2)) ha hb h
theorem sortN_snoc (l:List ByteArray) (name:ByteArray) : sortN (l ++ [name]) = entN name (sortN l) := by
 refine sorted_eq (sortN_sorted _) (entN_sorted (sortN_sorted _)) ?_
 refine (sortN_perm _).trans ?_
 refine List.Perm.trans ?_ (entN_perm name _).symm
 refine (List.perm_append_comm (l₁ := l) (l₂ := [name])).trans ?_
 exact ((sortN_perm l).symm).cons name
def entR {α : Type} (name:ByteArray) (new:α) (row:ByteArray -> α) : Bool -> List ByteArray -> List α
 | done,[] => if done then [] else [new]
 | done,k :: r => if (!done && ltB name k) = true then new :: row k :: entR name new row true r else row k :: entR name new row done r
theorem entR_done {α : Type} (name:ByteArray) (new:α) (row:ByteArray -> α) : ∀ l,entR name new row true l = l.map row := by
 intro l
 induction l with
 | nil => rfl
 | cons k r ih => unfold entR;simp [ih]
theorem entR_eq {α : Type} (name:ByteArray) (row:ByteArray -> α) : ∀ l,entR name (row name) row false l = (entN name l).map row := by
 intro l
 induction l with
 | nil => rfl
 | cons k r ih =>
  unfold entR entN
  by_cases c : ltB name k = true
  ·rw [if_pos (by simp [c]),if_pos c,entR_done];rfl
  ·rw [if_neg (by simp [c]),if_neg c,ih];rfl
theorem entR_congr {α : Type} (name:ByteArray) (new:α) {row row' : ByteArray -> α} : ∀ (l:List ByteArray) (d:Bool),(∀ k ∈ l,row k = row' k) -> entR name new row d l = entR name new row' d l := by
 intro l
 induction l with
 | nil => intro d _;cases d <;> rfl
 | cons k r ih =>
  intro d h
  unfold entR
  rw [h k (List.mem_cons_self ..),ih true fun x hx => h x (List.mem_cons_of_mem _ hx),ih d fun x hx => h x (List.mem_cons_of_mem _ hx)]
theorem steps_nolink {A : AT} (hI:Inv A) {go : Int -> ByteArray -> Int -> Int × Pl × Int} (hgo:∀ d s x,A.isDir d -> (go d s x).1 = 0 -> (go d s x).2.1.there = true -> A.kind (go d s x).2.1.ino ≠ 3) : ∀ (l:List ByteArray) (p:Pl) (h:Int),(p.there = true -> A.kind p.ino ≠ 3) -> (A.steps go true l p h).1 = 0 -> (A.steps go true l p h).2.1.there = true -> A.kind (A.steps go true l p h).2.1.ino ≠ 3 := by
 intro l
 induction l with
 | nil => intro p h hp _;exact hp
 | cons n r ih =>
  intro p h hp he
  cases h1 : p.there with
  | false => rw [steps_none h1] at he;cases he
  | true =>
   by_cases h2 : A.kind p.ino = 2
   case neg => rw [steps_notdir h1 h2] at he;cases he
   have hd := kind_dir h2
   cases h3 : sEq n ⟨⟨[46,46]⟩⟩ with
   | true =>
    rw [steps_up h1 h2 h3] at he ⊢
    exact ih _ h (fun _ => by show A.kind (A.upOf p.ino) ≠ 3;rw [dir_kind (hI.isDir_up hd)];decide) he
   | false =>
    by_cases h4 : n.size > 56
    ·rw [steps_long h1 h2 h3 h4] at he;cases he
    by_cases h5 : (A.find p.ino n).isSome = false \/ (r.isEmpty && !true) = true \/ A.kind ((A.find p.ino n).getD 0) ≠ 3
    ·rw [steps_name h1 h2 h3 h4 h5] at he ⊢
     refine ih _ h (fun hs => ?_) he
     have hs : (A.find p.ino n).isSome = true := hs
     rcases h5 with e | e | e
     ·rw [hs] at e;cases e
     ·simp at e
     ·exact e
    by_cases h6 : h - 1 < 0
    ·rw [steps_loop h1 h2 h3 h4 h5 h6] at he;cases he
    by_cases h7 : (go p.ino (A.data ((A.find p.ino n).getD 0)) (h - 1)).1 = 0
    ·rw [steps_link h1 h2 h3 h4 h5 h6 h7] at he ⊢
     exact ih _ _ (hgo _ _ _ hd h7) he
    ·rw [steps_err h1 h2 h3 h4 h5 h6 h7] at he;exact absurd he h7
theorem walk_nolink {A : AT} (hI:Inv A) : ∀ (f:Nat) (d:Int) (s:ByteArray) (h:Int),A.isDir d -> (A.walk f d s true h).1 = 0 -> (A.walk f d s true h).2.1.there = true -> A.kind (A.walk f d s true h).2.1.ino ≠ 3 := by
 intro f
 induction f with
 | zero => intro d s h _ he;cases he
 | succ f ih =>
  intro d s h hd he
  rw [AT.walk] at he ⊢
  by_cases hm : mayE s = 0
  case neg => rw [if_pos hm] at he;exact absurd he hm
  rw [if_neg (by simpa using hm)] at he ⊢
  refine steps_nolink hI (fun d s x hd he => ih d s x hd he) _ _ _ (fun _ => ?_) he
  show A.kind (if headIs 47 s then 1 else d) ≠ 3
  cases headIs 47 s with
  | true => rw [if_pos rfl,dir_kind hI.root_dir];decide
  | false => rw [if_neg (by decide),dir_kind hd];decide
theorem locate_nolink {A : AT} (hI:Inv A) (cwd path:ByteArray) (he:(A.locate cwd path true).1 = 0) (ht:(A.locate cwd path true).2.there = true) : A.kind (A.locate cwd path true).2.ino ≠ 3 := by
 unfold AT.locate at he ht ⊢
 cases h1 : sEq path ⟨⟨[]⟩⟩ with
 | true => rw [h1] at he;simp at he
 | false =>
  rw [h1] at he ht
  simp only [Bool.false_eq_true,if_false] at he ht ⊢
  cases h2 : headIs 47 path with
  | true => rw [h2] at he ht;exact walk_nolink hI 10 1 path 8 hI.root_dir he ht
  | false =>
   rw [h2] at he ht
   simp only [Bool.false_eq_true,if_false] at he ht ⊢
   cases h3 : headIs 47 cwd with
   | false => rw [h3] at he;simp at he
   | true =>
    rw [h3] at he ht
    simp only [Bool.true_eq_false,if_false] at he ht ⊢
    by_cases h4 : (A.walk 10 1 cwd true 8).1 = 0
    case neg => rw [if_pos h4] at he;exact absurd he h4
    rw [if_neg (by simpa using h4)] at he ht ⊢
    cases h5 : (A.walk 10 1 cwd true 8).2.1.there with
    | false => rw [h5] at he;simp at he
    | true =>
     rw [h5] at he ht
     simp only [Bool.true_eq_false,if_false] at he ht ⊢
     by_cases h6 : A.kind (A.walk 10 1 cwd true 8).2.1.ino = 2
     case neg => rw [if_pos h6] at he;simp at he
     rw [if_neg (by simpa using h6)] at he ht ⊢
     exact walk_nolink hI 10 _ path 8 (kind_dir h6) he ht
theorem kind_cases {k m : Int} {d : ByteArray} (h:likeE k m d = 0) : k = 1 \/ k = 2 \/ k = 3 := by
 unfold likeE at h
 by_cases hk : kindOkE k d = true
 ·unfold kindOkE at hk
  simp only [lk] at hk
  by_cases e1 : k = 1
  ·exact .inl e1
  by_cases e2 : k = 2
  ·exact .inr (.inl e2)
  by_cases e3 : k = 3
  ·exact .inr (.inr e3)
  have h1 : (k == 1) = false := by simpa using e1
  have h2 : (k == 2) = false := by simpa using e2
  have h3 : (k == 3) = false := by simpa using e3
  rw [h1,h2,h3] at hk
  simp at hk
 ·have : kindOkE k d = false := by simpa using hk
  rw [this] at h;simp at h
def cntR (es:List (ByteArray × Int)) (j:Int) : List ByteArray -> Nat
 | [] => 0
 | k :: r => one j ((lk k es).getD 0) + cntR es j r
theorem cntR_perm (es:List (ByteArray × Int)) (j:Int) {l l' : List ByteArray} (h:l.Perm l') : cntR es j l = cntR es j l' := by
 induction h with
 | nil => rfl
 | cons x _ ih => simp only [cntR,ih]
 | swap x y l => simp only [cntR];omega
 | trans _ _ h1 h2 => rw [h1,h2]
theorem cntR_app (es:List (ByteArray × Int)) (j:Int) (a b:List ByteArray) : cntR es j (a ++ b) = cntR es j a + cntR es j b := by
 induction a with
 | nil => simp [cntR]
 | cons x a ih => simp only [List.cons_append,cntR,ih];omega
theorem cntR_keys {es : List (ByteArray × Int)} (j:Int) (h:(keysL es).Nodup) : cntR es j (keysL es) = sumF (one j) es := by
 have key : ∀ l : List (ByteArray × Int),(∀ p ∈ l,lk p.1 es = some p.2) -> cntR es j (keysL l) = sumF (one j) l := by
  intro l
  induction l with
  | nil => intro _;rfl
  | cons p r ih =>
   intro hl
   obtain ⟨k,v⟩ := p
   have h1 := hl (k,v) (List.mem_cons_self ..)
   show one j ((lk k es).getD 0) + cntR es j (keysL r) = one j v + sumF (one j) r
   rw [ih fun q hq => hl q (List.mem_cons_of_mem _ hq)]
   have h1 : lk k es = some v := h1
   rw [h1];rfl
 exact key es fun p hp => lk_of_mem h hp
theorem cntR_sorted {es : List (ByteArray × Int)} (j:Int) (h:(keysL es).Nodup) : cntR es j (sortN (keysL es)) = sumF (one j) es := by
 rw [cntR_perm es j (sortN_perm _),cntR_keys j h]
end Go.Wk

set_option maxRecDepth 100000
namespace Go.Proofs.YthclifcpjnhmjaaGreatDoor
open Go Go.HL Go.Wk
attribute [local irreducible] ptrW ifW brW andW rdT alW letJ stW muW biW vaW imW callT cvalT app callW invW callVW sizeT oW nilF oneK loopW rfW funW begW roundK exW idxW Gr Put
section
variable {σ : H} {b : Nat} {A : AT} {M : RfM} {N : Nat}
theorem RfIn.ptr (h:RfIn σ b A M) {i : Nat} (hi:i < A.last.toNat) : ∃ g o,M.x.base = some ⟨g,o,none⟩ /\ (0 <= (i:Int) /\ (i:Int) < ((M.x.len:Nat) : Int)) /\ rdC g (o + (i:Int).toNat * 1) σ = some (.pointer (if (A.get ((i:Int) + 1)).isSome then some ⟨M.cb ((i:Int) + 1),0,none⟩ else none)) := by
 have hl := h.len
 have hr : (ptrRow A M.cb)[i]? = some [.pointer (if (A.get ((i:Int) + 1)).isSome then some ⟨M.cb ((i:Int) + 1),0,none⟩ else none)] := by
  unfold ptrRow
  rw [List.getElem?_map,List.getElem?_range (by omega)];rfl
 obtain ⟨h1,h4 | ⟨g,o,cur,t,fz,q2,q3,q4⟩⟩ := h.tab.rows
 ·rw [h4] at hr;simp at hr
 ·refine ⟨g,o,q2,by omega,rdC_of q3 ?_⟩
  obtain ⟨_,h5⟩ := q4 _ _ hr
  have : ((cur.drop (o + i * 1)).take 1)[0]? = some (.pointer (if (A.get ((i:Int) + 1)).isSome then some ⟨M.cb ((i:Int) + 1),0,none⟩ else none)) := by rw [h5];rfl
  rw [List.getElem?_take] at this
  simpa using this
theorem s_rfUsed (hI:Wk.Inv A) (hB:Bd N A) (hN:N <= 1000000000000) (hM:RfIn σ b A M) {K : KH} (hK:K (.agg ⟨[.int .i64 A.ui,.int .i64 A.ub]⟩) σ) : callW Tryz.prog 22 [.pointer (some ⟨b,0,none⟩)] K σ := by
 refine pure_i _ hK (c22 _ ?_)
 clear hK
 unfold g22
 refine al_i ?_;intro b2 σ1 g1 e1 n1
 refine al_i ?_;intro b3 σ2 g2 e2 n2
 refine st_i2 e2 sz_Quota (by rfl) (by rfl) ?_;intro σ3 p3
 have n3 : σ b3 = none := none_of g1 n2
 have n23 : b2 ≠ b3 := by intro e;rw [<- e,e1] at n2;cases n2
 have k3 : σ3 b3 = some (.cells ⟨[.int .i64 0,.int .i64 0]⟩ 50 (0,0)) := p3.same
 have k2 : σ3 b2 = some (.cells ⟨[.int .i64 0,.int .i64 0]⟩ 50 (0,0)) := p3.get n23 (g2.get e1)
 have g3 : Gr σ σ3 := (g1.trans g2).putF p3 n3
 clear p3 e1 e2
 refine loop_i ?_
 intro R hR
 obtain ⟨u1,u2⟩ := hI.sums
 have hl := hM.len
 have hlast := hB.last
 have hub := hI.bq
 have huq := hI.uq
 have key : ∀ (c i:Nat) (τ:H),c + i = A.last.toNat -> Gr σ τ -> τ b2 = some (.cells ⟨[.int .i64 0,.int .i64 0]⟩ 50 (0,0)) -> τ b3 = some (.cells ⟨[.int .i64 (sumL (fun _ => 1) A.nodes i : Int),.int .i64 (sumL (fun n => n.data.size) A.nodes i : Int)]⟩ 50 (0,0)) ->
  R (some ⟨b,0,none⟩) (some ⟨b2,0,none⟩) (some ⟨b3,0,none⟩) (i:Int) τ := by
  intro c
  induction c with
  | zero =>
   intro i τ hc hg k2 k3
   have hMt := hM.gr hg
   refine hR _ _ _ _ _ ?_
   refine ptr_i (rd_L (rdC_of hMt.top (by rfl)) (br_f (by simp only [decide_eq_false_iff_not];omega) ?_))
   refine ptr_i (rd_G (rdA_of' k3 (by rfl)) ?_)
   (refine app_of rfl ?_;try dsimp only)
   refine st_i2 k2 sz_Quota (by rfl) (by rfl) ?_;intro τ' p
   refine ptr_i (rd_G (rdA_of' p.same (by rfl)) ?_)
   (refine app_of rfl ?_;try dsimp only)
   have hi : i = A.last.toNat := by omega
   rw [hi,u1,u2]
   exact ⟨rfl,hg.putF p n1⟩
  | succ c ih =>
   intro i τ hc hg k2 k3
   have hMt := hM.gr hg
   obtain ⟨gs,os,s1,s2,s3⟩ := hMt.ptr (i := i) (by omega)
   refine hR _ _ _ _ _ ?_
   refine ptr_i (rd_L (rdC_of hMt.top (by rfl)) (br_t (by simp only [decide_eq_true_eq];omega) ?_))
   refine j_i (fun j => ∀ τ',Gr σ τ' -> τ' b2 = some (.cells ⟨[.int .i64 0,.int .i64 0]⟩ 50 (0,0)) -> τ' b3 = some (.cells ⟨[.int .i64 (sumL (fun _ => 1) A.nodes (i + 1) : Int),.int .i64 (sumL (fun n => n.data.size) A.nodes (i + 1) : Int)]⟩ 50 (0,0)) -> j (some ⟨b,0,none⟩) (some ⟨b2,0,none⟩) (some ⟨b3,0,none⟩) (i:Int) τ') ?_ ?_
   ·intro τ' a1 a2 a3
    rw [wrap_id (x := (i:Int) + 1) (by omega) (by omega)]
    rw [show (i:Int) + 1 = ((i + 1 : Nat) : Int) from by omega]
    exact ih (i + 1) τ' (by omega) a1 a2 a3
   intro j hj
   refine ptr_i (rd_L (rdC_of hMt.top (by rfl)) ?_)
   rw [s1]
   refine ptr_i (if_i s2 (rd_P s3 ?_))
   have hm1 := sumL_mono (fun _ => 1) A.nodes (n := i + 1) (m := A.last.toNat) (by omega)
   have hm2 := sumL_mono (fun n => n.data.size) A.nodes (n := i + 1) (m := A.last.toNat) (by omega)
   cases hget : A.get ((i:Int) + 1) with
   | none =>
    have z1 : sumL (fun _ => 1) A.nodes (i + 1) = sumL (fun _ => 1) A.nodes i := by
     simp only [sumL];rw [show lk ((i:Int) + 1) A.nodes = none from hget];rfl
    have z2 : sumL (fun n => n.data.size) A.nodes (i + 1) = sumL (fun n => n.data.size) A.nodes i := by
     simp only [sumL];rw [show lk ((i:Int) + 1) A.nodes = none from hget];rfl
    refine br_f rfl (hj τ hg k2 ?_)
    rw [z1,z2];exact k3
   | some n =>
    have z1 : sumL (fun _ => 1) A.nodes (i + 1) = sumL (fun _ => 1) A.nodes i + 1 := by
     simp only [sumL];rw [show lk ((i:Int) + 1) A.nodes = some n from hget];rfl
    have z2 : sumL (fun n => n.data.size) A.nodes (i + 1) = sumL (fun n => n.data.size) A.nodes i + n.data.size := by
     simp only [sumL];rw [show lk ((i:Int) + 1) A.nodes = some n from hget];rfl
    rw [z1] at hm1
    rw [z2] at hm2
    refine br_t rfl (ptr_i (rd_I (rdC_of k3 (by rfl)) (ptr_i ?_)))
    rw [wrap_id (by omega) (by omega)]
    refine st_i2 k3 sz_int (by rfl) (by rfl) ?_;intro τ1 p1
    have k31 : τ1 b3 = some (.cells ⟨[.int .i64 ((sumL (fun _ => 1) A.nodes i : Int) + 1),.int .i64 (sumL (fun n => n.data.size) A.nodes i : Int)]⟩ 50 (0,0)) := p1.same
    have hg1 := hg.putF p1 n3
    have hM1 := hM.gr hg1
    obtain ⟨gs,os,s1,s2,s3⟩ := hM1.ptr (i := i) (by omega)
    rw [hget] at s3
    refine ptr_i (rd_I (rdC_of k31 (by rfl)) (ptr_i (rd_L (rdC_of hM1.top (by rfl)) ?_)))
    rw [s1]
    refine ptr_i (if_i s2 (rd_P s3 (ptr_i (rd_S (rdC_of (hM1.nod _ _ hget) (by rfl)) (ptr_i ?_)))))
    rw [wrap_id (by omega) (by omega)]
    refine st_i2 k31 sz_int (by rfl) (by rfl) ?_;intro τ2 p2
    refine hj τ2 (hg1.putF p2 n3) (p2.get n23 (p1.get n23 k2)) ?_
    have := p2.same
    rw [z1,z2]
    have e1 : ((sumL (fun _ => 1) A.nodes i + 1 : Nat) : Int) = (sumL (fun _ => 1) A.nodes i : Int) + 1 := by omega
    have e2 : ((sumL (fun n => n.data.size) A.nodes i + n.data.size : Nat) : Int) = (sumL (fun n => n.data.size) A.nodes i : Int) + ((n.data.size:Nat) : Int) := by omega
    rw [e1,e2]
    exact this
 exact key A.last.toNat 0 σ3 (by omega) g3 k2 k3
theorem s_rfRoom (hI:Wk.Inv A) (hB:Bd N A) (hN:N <= 1000000000000) (hM:RfIn σ b A M) (i n:Int) {K : KH} (hK:K (.bool (A.roomE i n == 0)) σ) : callW Tryz.prog 82 [.pointer (some ⟨b,0,none⟩),.int .i64 i,.int .i64 n] K σ := by
 refine pure_i _ hK (c82 _ _ _ ?_)
 clear hK
 unfold g82
 refine call_i (s_rfUsed hI hB hN hM ?_)
 (refine app_of rfl ?_;try dsimp only)
 refine al_i ?_;intro b6 σ1 g1 e1 n1
 refine st_i2 e1 sz_Quota (by rfl) (by rfl) ?_;intro σ2 p2
 have hg : Gr σ σ2 := g1.putF p2 n1
 have hM2 := hM.gr hg
 have k6 : σ2 b6 = some (.cells ⟨[.int .i64 A.ui,.int .i64 A.ub]⟩ 50 (0,0)) := p2.same
 refine rd_I (rdC_of k6 (by rfl)) (ptr_i (rd_I (rdC_of hM2.top (by rfl)) ?_))
 have hr : (A.roomE i n == 0) = (decide (wr (A.ui + i) <= A.qi) && decide (wr (A.ub + n) <= A.qb)) := by
  unfold AT.roomE
  by_cases h1 : wr (A.ui + i) <= A.qi <;> by_cases h2 : wr (A.ub + n) <= A.qb <;> simp [h1,h2]
 rw [hr]
 cases h1 : decide (wr (A.ui + i) <= A.qi) with
 | true =>
  refine br_t h1 (rd_I (rdC_of k6 (by rfl)) (ptr_i (rd_I (rdC_of hM2.top (by rfl)) ?_)))
  exact ⟨rfl,hg⟩
 | false => exact br_f h1 ⟨rfl,hg⟩
end
theorem s_rfNew (qi qb:Int) {σ : H} {K : KH} (hN:newOk qi qb = false -> ∀ σ',Gr σ σ' -> K (.pointer none) σ')
 (hK:newOk qi qb = true -> ∀ bf σ' D,RfAt σ' bf (newT qi qb) D -> Gr σ σ' -> (∀ c,D c -> σ c = none) -> K (.pointer (some ⟨bf,0,none⟩)) σ') :
 callW Tryz.prog 27 [.agg ⟨[.int .i64 qi,.int .i64 qb]⟩] K σ := by
 refine c27 _ _ ?_
 unfold g27
 refine al_i ?_;intro b3 σ1 g1 e1 n1
 refine j_i (fun j => ∀ t : Bool,t = !newOk qi qb -> j (some ⟨b3,0,none⟩) t σ1) ?_ ?_
 ·intro t ht
  cases t with
  | true => exact br_t rfl (hN (by cases h:newOk qi qb <;> simp [h] at ht ⊢) σ1 g1)
  | false =>
   refine br_f rfl (ptr_i (rd_G (rdA_of' e1 (by rfl)) ?_))
   (refine app_of rfl ?_;try dsimp only)
   refine al_i ?_;intro b11 σ2 g2 e2 n2
   refine al_i ?_;intro b12 σ3 g3 e3 n3
   refine al_i ?_;intro b13 σ4 g4 e4 n4
   have z11 : σ b11 = none := none_of g1 n2
   have z12 : σ b12 = none := none_of (g1.trans g2) n3
   have z13 : σ b13 = none := none_of ((g1.trans g2).trans g3) n4
   have d1 : b11 ≠ b12 := by intro e;rw [<- e,e2] at n3;cases n3
   have d2 : b11 ≠ b13 := by intro e;rw [<- e,g3.get e2] at n4;cases n4
   have d3 : b12 ≠ b13 := by intro e;rw [<- e,e3] at n4;cases n4
   have hget : ∀ i n,(newT qi qb).get i = some n -> i = 1 /\ n = ⟨2,493,⟨⟨[]⟩⟩,1,1,[]⟩ := by
    intro i n h
    unfold AT.get newT at h
    simp only [lk] at h
    by_cases e : i = 1
    ·subst e;simp at h;exact ⟨rfl,h.symm⟩
    ·have : (i == 1) = false := by simpa using e
     rw [this] at h;simp at h
   refine hK (by cases h:newOk qi qb <;> simp [h] at ht ⊢) b13 σ4 (fun c => c = b11 \/ c = b12 \/ c = b13) ⟨⟨⟨some ⟨b12,0,none⟩,1,1⟩,fun _ => b11,fun _ => ⟨none,0,0⟩,fun c => if c = b13 then some (0,false) else if c = b12 then some (0,true) else if c = b11 then some (1,false) else none⟩,⟨?_,?_,?_,?_,?_,?_,?_,?_,?_⟩,?_⟩ (((g1.trans g2).trans g3).trans g4) ?_
   ·exact e4
   ·refine ⟨rfl,by intro r hr;unfold ptrRow at hr;rw [List.mem_map] at hr;obtain ⟨_,_,rfl⟩ := hr;rfl,.inr ⟨b12,[.pointer (some ⟨b11,0,none⟩)],rfl,g4.get e3,rfl,Nat.le_refl _,rfl⟩⟩
   ·intro i n hn
    obtain ⟨rfl,rfl⟩ := hget i n hn
    exact (g3.trans g4).get e2
   ·intro i n hn
    obtain ⟨rfl,rfl⟩ := hget i n hn
    exact RowsOwn.nil _ _ _
   ·simp
   ·intro g hg
    have hg : some (⟨b12,0,none⟩ : Addr) = some ⟨g,0,none⟩ := hg
    injection hg with hg
    injection hg with hg
    subst hg
    simp [d3]
   ·intro i n hn
    obtain ⟨rfl,rfl⟩ := hget i n hn
    simp [d1,d2]
   ·intro i n g _ h;cases h
   ·intro c hc
    by_cases h1 : c = b13
    ·subst h1;rw [e4];simp
    by_cases h2 : c = b12
    ·subst h2;rw [g4.get e3];simp
    by_cases h3 : c = b11
    ·subst h3;rw [(g3.trans g4).get e2];simp
    ·simp [h1,h2,h3] at hc
   ·intro c
    by_cases h1 : c = b13
    ·simp [h1]
    by_cases h2 : c = b12
    ·simp [h2,d3]
    by_cases h3 : c = b11
    ·simp [h3,d1,d2]
    ·simp [h1,h2,h3]
   ·rintro c (h | h | h) <;> subst h
    ·exact z11
    ·exact z12
    ·exact z13
 ·intro j hj
  have hnew : (!newOk qi qb) = (decide (qi < 1) || (decide (qi > 1048576) || (decide (qb < 0) || decide (qb > 1073741824)))) := by unfold newOk;simp
  rw [hnew] at hj
  refine rd_I (rdC_of e1 (by rfl)) ?_
  by_cases c1 : qi < 1
  ·exact br_t (by simpa using c1) (hj true (by simp [c1]))
  refine br_f (by simpa using c1) (rd_I (rdC_of e1 (by rfl)) ?_)
  by_cases c2 : qi > 1048576
  ·exact br_t (by simpa using c2) (hj true (by simp [c2]))
  refine br_f (by simpa using c2) (rd_I (rdC_of e1 (by rfl)) ?_)
  by_cases c3 : qb < 0
  ·exact br_t (by simpa using c3) (hj true (by simp [c3]))
  refine br_f (by simpa using c3) (rd_I (rdC_of e1 (by rfl)) ?_)
  exact hj _ (by simp [c1,c2,c3])
section
variable {σ σ' : H} {b : Nat} {A : AT} {M : RfM} {N : Nat}
def RfM.setE (M:RfM) (i:Int) (y':Sl) : RfM := ⟨M.x,M.cb,fun j => if j = i then y' else M.ey j,fun c => if y'.base = some ⟨c,0,none⟩ then some (i,true) else M.w c⟩
theorem RfIn.low (h:RfIn σ b A M) (hL:∀ i n,A.get i = some n -> 1 <= i) {i : Int} {n : AN} (hn:A.get i = some n) : M.cb i ≠ b /\ M.x.base ≠ some ⟨M.cb i,0,none⟩ := by
 have h1 := h.wn i n hn
 have := hL i n hn
 refine ⟨?_,?_⟩
 ·intro e;rw [e,h.wb] at h1;injection h1 with h1;injection h1 with h1 _;omega
 ·intro e;rw [h.wt _ e] at h1;injection h1 with h1;injection h1 with h1 _;omega
theorem RfIn.setN (h:RfIn σ b A M) (hL:∀ i n,A.get i = some n -> 1 <= i) {i : Int} {n n' : AN} (hn:A.get i = some n) {y' : Sl} (hp:Put σ (M.cb i) (nodeO n' y') σ') (ho:RowsOwn σ 206 2 (eRow n'.ents) y') (hy:∀ g,y'.base = some ⟨g,0,none⟩ -> M.w g = none \/ M.w g = some (i,true)) : RfIn σ' b (A.set i n') (M.setE i y') := by
 obtain ⟨q1,q2⟩ := h.low hL hn
 have hw := h.wn i n hn
 have hi1 := hL i n hn
 have hycb : y'.base ≠ some ⟨M.cb i,0,none⟩ := by
  intro e
  rcases hy _ e with e2 | e2 <;> rw [hw] at e2
  ·cases e2
  ·injection e2 with e2;injection e2 with _ e2;cases e2
 have hyw : ∀ c r,M.w c = some r -> r ≠ (i,true) -> y'.base ≠ some ⟨c,0,none⟩ := by
  intro c r hc hr e
  rcases hy _ e with e2 | e2 <;> rw [hc] at e2
  ·cases e2
  ·injection e2 with e2;exact hr e2
 have hcb : ∀ j m,A.get j = some m -> j ≠ i -> M.cb j ≠ M.cb i := by
  intro j m hm hj e
  have := h.wn j m hm
  rw [e,hw] at this;injection this with this;injection this with this _;exact hj this.symm
 have hget : ∀ j m,(A.set i n').get j = some m -> (j = i /\ m = n') \/ (j ≠ i /\ A.get j = some m) := by
  intro j m hm
  rw [AT.get_set] at hm
  by_cases e : j = i
  ·rw [if_pos e] at hm;exact .inl ⟨e,(Option.some.inj hm).symm⟩
  ·rw [if_neg e] at hm;exact .inr ⟨e,hm⟩
 refine ⟨?_,?_,?_,?_,?_,?_,?_,?_,?_⟩
 ·exact hp.get (Ne.symm q1) h.top
 ·have : ptrRow (A.set i n') M.cb = ptrRow A M.cb := by
   unfold ptrRow
   apply List.map_congr_left
   intro k _
   rw [AT.get_set]
   by_cases e : (k:Int) + 1 = i
   ·rw [if_pos e,e,hn];rfl
   ·rw [if_neg e]
  show RowsOwn σ' 98 1 (ptrRow (A.set i n') M.cb) M.x
  rw [this]
  exact h.tab.put hp q2
 ·intro j m hm
  rcases hget j m hm with ⟨e1,e2⟩ | ⟨e1,e2⟩
  ·subst e1;subst e2
   show σ' (M.cb j) = some (nodeO m (if j = j then y' else M.ey j))
   rw [if_pos rfl];exact hp.same
  ·show σ' (M.cb j) = some (nodeO m (if j = i then y' else M.ey j))
   rw [if_neg e1];exact hp.get (hcb j m e2 e1) (h.nod j m e2)
 ·intro j m hm
  rcases hget j m hm with ⟨e1,e2⟩ | ⟨e1,e2⟩
  ·subst e1;subst e2
   show RowsOwn σ' 206 2 (eRow m.ents) (if j = j then y' else M.ey j)
   rw [if_pos rfl];exact ho.put hp hycb
  ·show RowsOwn σ' 206 2 (eRow m.ents) (if j = i then y' else M.ey j)
   rw [if_neg e1]
   refine (h.ent j m e2).put hp fun e => ?_
   have := h.we j m _ e2 e
   rw [hw] at this;injection this with this;injection this with _ this;cases this
 ·show (if y'.base = some ⟨b,0,none⟩ then some (i,true) else M.w b) = _
  rw [if_neg (hyw b _ h.wb (by intro e;injection e with e _;omega))];exact h.wb
 ·intro g hg
  show (if y'.base = some ⟨g,0,none⟩ then some (i,true) else M.w g) = _
  have := h.wt g hg
  rw [if_neg (hyw g _ this (by intro e;injection e with e _;omega))];exact this
 ·intro j m hm
  show (if y'.base = some ⟨M.cb j,0,none⟩ then some (i,true) else M.w (M.cb j)) = _
  have : M.w (M.cb j) = some (j,false) := by
   rcases hget j m hm with ⟨e1,e2⟩ | ⟨e1,e2⟩
   ·rw [e1];exact hw
   ·exact h.wn j m e2
  rw [if_neg (hyw _ _ this (by intro e;injection e with _ e;cases e))];exact this
 ·intro j m g hm hg
  show (if y'.base = some ⟨g,0,none⟩ then some (i,true) else M.w g) = _
  rcases hget j m hm with ⟨e1,e2⟩ | ⟨e1,e2⟩
  ·subst e1
   have hg : (if j = j then y' else M.ey j).base = some ⟨g,0,none⟩ := hg
   rw [if_pos rfl] at hg
   rw [if_pos hg]
  ·have hg : (if j = i then y' else M.ey j).base = some ⟨g,0,none⟩ := hg
   rw [if_neg e1] at hg
   have := h.we j m g e2 hg
   rw [if_neg (hyw g _ this (by intro e;injection e with e _;exact e1 e))];exact this
 ·intro c hc
  have hc : (if y'.base = some ⟨c,0,none⟩ then some (i,true) else M.w c) ≠ none := hc
  have hs : σ c ≠ none := by
   by_cases e : y'.base = some ⟨c,0,none⟩
   ·exact ho.has e
   ·rw [if_neg e] at hc;exact h.has c hc
  cases ho2 : σ c with
  | none => exact absurd ho2 hs
  | some o =>
   by_cases e : c = M.cb i
   ·rw [e,hp.same];simp
   ·rw [hp.get e ho2];simp
theorem und_REnts : Tryz.prog.underlying 99 = some (.slice 206) := by kernel_rfl
theorem info_REntry : ∃ i z,Tryz.prog.info? 206 = some i /\ i.zero = some z /\ i.size = 2 /\ i.bytes = 24 /\ z.cells.size = 2 := by
 have h1 : (Tryz.prog.info? 206).map (fun i => (i.zero.map (fun z => z.cells.size),i.size,i.bytes)) = some (some 2,2,24) := by kernel_rfl
 cases hi : Tryz.prog.info? 206 with
 | none => rw [hi] at h1;cases h1
 | some i =>
  rw [hi] at h1
  simp only [Option.map_some,Option.some.injEq,Prod.mk.injEq] at h1
  cases hz : i.zero with
  | none => rw [hz] at h1;cases h1.1
  | some z =>
   rw [hz] at h1
   exact ⟨i,z,rfl,hz,h1.2.1,h1.2.2,by simpa using h1.1⟩
def EntNew (σ0 σ:H) (l:List (List Value)) (y:Sl) : Prop := Gr σ0 σ /\ RowsOwn σ 206 2 l y /\ ∀ g,y.base = some ⟨g,0,none⟩ -> σ0 g = none
theorem app_ent {σ0 σ : H} {l : List (List Value)} {y : Sl} {s : ByteArray} {v : Int} {ty : TypeId} {cs : List Bool} (h:EntNew σ0 σ l y) (hl:l.length < 1000000000) {F : Sl -> H -> Prop} (hF:∀ y' σ',EntNew σ0 σ' (l ++ [[.string s,.int .i64 v]]) y' -> (∀ c o,σ c = some o -> y.base ≠ some ⟨c,0,none⟩ -> σ' c = some o) -> F y' σ') :
 alW (.cells ⟨[.string s,.int .i64 v]⟩ 206 (0,0)) (fun (b48:Nat) => biW Tryz.prog .append #[99,99] ty cs [.slice y.base y.len y.cap,.slice (some ⟨b48,0,none⟩) 1 1] kL F) σ := by
 obtain ⟨h1,h2,h3⟩ := h
 refine al_i ?_;intro b48 σ1 g1 e1 n1
 obtain ⟨i,z,i1,i2,i3,i4,i5⟩ := info_REntry
 refine append_i und_REnts i1 i2 i3 i4 i5 (by decide) (h2.gr g1) e1 rfl (by intro u hu;simp at hu;rcases hu with rfl | rfl <;> rfl) hl (by decide) ?_
 intro y' σ' hy' hcase
 refine hF y' σ' ⟨?_,hy',?_⟩ ?_
 ·rcases hcase with ⟨g,o,q1,q2,q3⟩ | ⟨g,q1,q2,q3⟩
  ·exact (h1.trans g1).putF q3 (h3 g q1)
  ·exact (h1.trans g1).trans q3
 ·intro g hg
  rcases hcase with ⟨g',o,q1,q2,q3⟩ | ⟨g',q1,q2,q3⟩
  ·rw [q2] at hg;exact h3 g hg
  ·rw [q1] at hg
   injection hg with hg
   injection hg with hg
   subst hg
   exact none_of (h1.trans g1) q2
 ·intro c o hc hne
  rcases hcase with ⟨g,o',q1,q2,q3⟩ | ⟨g,q1,q2,q3⟩
  ·exact q3.get (fun e => hne (by rw [e];exact q1)) (g1.get hc)
  ·exact q3.get (g1.get hc)
theorem sz_REntry : sizeT Tryz.prog 206 = some 2 := by kernel_rfl
theorem sz_REnts : sizeT Tryz.prog 99 = some 1 := by kernel_rfl
theorem RfIn.slot2 (h:RfIn σ b A M) (hL:∀ i n,A.get i = some n -> 1 <= i /\ i <= A.last) {d : Int} {n : AN} (hn:A.get (d + 1) = some n) : ∃ g o,M.x.base = some ⟨g,o,none⟩ /\ (0 <= d /\ d < ((M.x.len:Nat) : Int)) /\ rdC g (o + d.toNat * 1) σ = some (.pointer (some ⟨M.cb (d + 1),0,none⟩)) := by
 obtain ⟨l1,l2⟩ := hL _ _ hn
 obtain ⟨g,o,h1,h2,h3⟩ := h.ptr (i := d.toNat) (by omega)
 have e : ((d.toNat:Nat) : Int) = d := by omega
 rw [e,hn] at h3
 rw [e] at h2
 exact ⟨g,o,h1,h2,h3⟩
theorem rf_at2 (h:RfIn σ b A M) (hL:∀ i n,A.get i = some n -> 1 <= i /\ i <= A.last) {d : Int} {n : AN} (hn:A.get (d + 1) = some n) {F : Nat -> Nat -> H -> Prop} (hF:F (M.cb (d + 1)) 0 σ) :
 ptrW (some ⟨b,0,none⟩) (fun (b4 o5:Nat) => rdT (rdC b4 (o5 + 2)) kL (fun (x6:Sl) => ptrW x6.base (fun (b7 o8:Nat) => ifW (0 <= d /\ d < ((x6.len:Nat) : Int)) (rdT (rdC b7 (o8 + d.toNat * 1)) kP (fun x9 => ptrW x9 F))))) σ := by
 obtain ⟨g,o,h1,h2,h3⟩ := h.slot2 hL hn
 refine ptr_i (rd_L (rdC_of h.top (by rfl)) ?_)
 rw [h1]
 exact ptr_i (if_i h2 (rd_P h3 (ptr_i hF)))
theorem RfIn.congr (h:RfIn σ b A M) {A' : AT} (q1:A'.qi = A.qi) (q2:A'.qb = A.qb) (q3:A'.last = A.last) (hg:∀ j,A'.get j = A.get j) : RfIn σ b A' M := by
 refine ⟨?_,?_,fun i n hn => h.nod i n (by rw [<- hg];exact hn),fun i n hn => h.ent i n (by rw [<- hg];exact hn),h.wb,h.wt,fun i n hn => h.wn i n (by rw [<- hg];exact hn),fun i n g hn => h.we i n g (by rw [<- hg];exact hn),h.has⟩
 ·rw [q1,q2];exact h.top
 ·have : ptrRow A' M.cb = ptrRow A M.cb := by unfold ptrRow;rw [q3];apply List.map_congr_left;intro k _;rw [hg]
  rw [this];exact h.tab
theorem s_rfEnter {dir ino : Int} {nd ni : AN} {name : ByteArray} (hM:RfIn σ b A M) (hL:∀ i n,A.get i = some n -> 1 <= i /\ i <= A.last) (hz:A.last <= 1000000000000) (hd:A.get (dir + 1) = some nd) (hi:A.get (ino + 1) = some ni) (hne:dir ≠ ino) (hnk:lk name nd.ents = none) (hnod:(keysL nd.ents).Nodup) (hlen:nd.ents.length <= 100000000) {K : KH}
 (hK:∀ σ' M',(∀ A' : AT,A'.qi = A.qi -> A'.qb = A.qb -> A'.last = A.last -> (∀ j,A'.get j = if j = ino + 1 then some (if ni.kind = 2 then { ni with up := dir + 1 } else ni) else if j = dir + 1 then some { nd with ents := up name (ino + 1) nd.ents } else A.get j) -> RfIn σ' b A' M') -> (∀ c o,σ c = some o -> M.w c = none -> σ' c = some o /\ M'.w c = none) -> K (.tuple ⟨[]⟩) σ') :
 callW Tryz.prog 135 [.pointer (some ⟨b,0,none⟩),.int .i64 dir,.string name,.int .i64 ino] K σ := by
 refine c135 _ _ _ _ ?_
 unfold g135
 refine loop_i ?_
 intro R hR
 generalize hks : sortN (keysL nd.ents) = ks
 have hkl : ks.length = nd.ents.length := by rw [<- hks,(sortN_perm _).length_eq];simp [keysL]
 have hke : ∀ {τ : H},RfIn τ b A M -> (M.ey (dir + 1)).len = ks.length := by
  intro τ h
  have := (h.ent _ _ hd).1
  rw [<- hks];simpa [eRow] using this
 have hnm : name ∉ ks := by rw [<- hks];intro h;exact (lk_none_iff.1 hnk) ((sortN_perm _).mem_iff.1 h)
 have hT : entR name [.string name,.int .i64 ino] (fun k => [Value.string k,.int .i64 ((lk k nd.ents).getD 0 - 1)]) false ks = eRow (up name (ino + 1) nd.ents) := by
  unfold eRow
  rw [keys_up_none hnk,sortN_snoc,hks,<- entR_eq]
  have e1 : [Value.string name,.int .i64 ((lk name (up name (ino + 1) nd.ents)).getD 0 - 1)] = [Value.string name,.int .i64 ino] := by
   rw [lk_up];simp
  rw [e1]
  refine entR_congr _ _ ks false fun k hk => ?_
  have : k ≠ name := fun e => hnm (by rw [<- e];exact hk)
  rw [lk_up]
  have : (k == name) = false := by simpa using this
  rw [this];rfl
 generalize hTe : eRow (up name (ino + 1) nd.ents) = T at hT
 have wnew : ∀ c,σ c = none -> M.w c = none := fun c hc => hM.new hc
 have key : ∀ (c i:Nat) (l:Sl) (done:Bool) (acc:List (List Value)) (τ:H),c + i = ks.length -> EntNew σ τ acc l -> acc.length <= 2 * i -> acc ++ entR name [.string name,.int .i64 ino] (fun k => [Value.string k,.int .i64 ((lk k nd.ents).getD 0 - 1)]) done (ks.drop i) = T -> R (some ⟨b,0,none⟩) dir name ino l done (i:Int) τ := by
  intro c
  induction c with
  | zero =>
   intro i l done acc τ hc hE hal hacc
   have hMt := hM.gr hE.1
   have hlen2 := hke hMt
   rw [show ks.drop i = [] from List.drop_eq_nil_of_le (by omega)] at hacc
   refine hR _ _ _ _ _ _ _ _ ?_
   refine rf_at2 hMt hL hd (rd_L (rdC_of (hMt.nod _ _ hd) (by rfl)) (br_f (by simp only [decide_eq_false_iff_not];omega) ?_))
   refine j_i (fun j => ∀ l' τ',EntNew σ τ' T l' -> j (some ⟨b,0,none⟩) dir ino l' τ') ?_ ?_
   case refine_2 =>
    intro j hj
    cases done with
    | true =>
     have : acc = T := by simpa [entR] using hacc
     rw [this] at hE
     exact br_f rfl (hj l τ hE)
    | false =>
     refine br_t rfl (app_ent hE (by omega) ?_)
     intro l' τ' hE' _
     have : acc ++ [[Value.string name,.int .i64 ino]] = T := by simpa [entR] using hacc
     rw [this] at hE'
     exact hj l' τ' hE'
   intro l' τ' hE'
   have hM' := hM.gr hE'.1
   have hlow : ∀ i n,A.get i = some n -> 1 <= i := fun i n hn => (hL i n hn).1
   refine rf_at2 hM' hL hd ?_
   refine st_i2 (hM'.nod _ _ hd) sz_REnts (by rfl) (by rfl) ?_;intro τ1 p1
   have p1' : Put τ' (M.cb (dir + 1)) (nodeO { nd with ents := up name (ino + 1) nd.ents } l') τ1 := p1
   clear p1
   have hM1 := hM'.setN hlow hd (n' := { nd with ents := up name (ino + 1) nd.ents }) (y' := l') p1' (by rw [show eRow ({ nd with ents := up name (ino + 1) nd.ents } : AN).ents = T from hTe];exact hE'.2.1) (fun g hg => .inl (wnew g (hE'.2.2 g hg)))
   have hgi : (A.set (dir + 1) { nd with ents := up name (ino + 1) nd.ents }).get (ino + 1) = some ni := by rw [AT.get_set_ne _ _ (by omega)];exact hi
   have hL1 : ∀ i n,(A.set (dir + 1) { nd with ents := up name (ino + 1) nd.ents }).get i = some n -> 1 <= i /\ i <= (A.set (dir + 1) { nd with ents := up name (ino + 1) nd.ents }).last := by
    intro i n hn
    rw [AT.get_set] at hn
    by_cases e : i = dir + 1
    ·rw [e];exact hL _ _ hd
    ·rw [if_neg e] at hn;exact hL _ _ hn
   have fr1 : ∀ c o,σ c = some o -> M.w c = none -> τ1 c = some o /\ (M.setE (dir + 1) l').w c = none := by
    intro c o hc hw
    have h1 := hE'.1.get hc
    have hcb : c ≠ M.cb (dir + 1) := fun e => by rw [e,hM.wn _ _ hd] at hw;cases hw
    refine ⟨p1'.get hcb h1,?_⟩
    show (if l'.base = some ⟨c,0,none⟩ then some (dir + 1,true) else M.w c) = none
    rw [if_neg (fun e => by rw [hE'.2.2 c e] at hc;cases hc)];exact hw
   refine rf_at2 hM1 hL1 hgi (rd_I (rdC_of (hM1.nod _ _ hgi) (by rfl)) ?_)
   by_cases hk2 : ni.kind = 2
   ·refine br_t (by simpa using hk2) (rf_at2 hM1 hL1 hgi ?_)
    refine st_i2 (hM1.nod _ _ hgi) sz_int (by rfl) (by rfl) ?_;intro τ2 p2
    have p2' : Put τ1 ((M.setE (dir + 1) l').cb (ino + 1)) (nodeO { ni with up := dir + 1 } ((M.setE (dir + 1) l').ey (ino + 1))) τ2 := by
     have e : upR ({ ni with up := dir + 1 } : AN) = dir := by
      unfold upR
      rw [if_pos (show ({ ni with up := dir + 1 } : AN).kind = 2 from hk2)]
      show dir + 1 - 1 = dir
      omega
     unfold nodeO
     rw [e]
     exact p2
    clear p2
    have hM2 := hM1.setN (fun i n hn => (hL1 i n hn).1) hgi (n' := { ni with up := dir + 1 }) p2' (show RowsOwn τ1 206 2 (eRow ni.ents) _ from hM1.ent _ _ hgi) (fun g hg => .inr (hM1.we _ _ g hgi hg))
    refine hK τ2 _ (fun A' q1 q2 q3 hg => hM2.congr q1 q2 q3 fun j => ?_) ?_
    ·rw [hg j,AT.get_set,AT.get_set,if_pos hk2]
    ·intro c o hc hw
     obtain ⟨f1,f2⟩ := fr1 c o hc hw
     have hcb : c ≠ M.cb (ino + 1) := fun e => by rw [e,hM.wn _ _ hi] at hw;cases hw
     refine ⟨p2'.get hcb f1,?_⟩
     show (if ((M.setE (dir + 1) l').ey (ino + 1)).base = some ⟨c,0,none⟩ then some (ino + 1,true) else (M.setE (dir + 1) l').w c) = none
     rw [if_neg (fun e => by rw [hM1.we _ _ c hgi e] at f2;cases f2)];exact f2
   ·refine br_f (by simpa using hk2) (hK τ1 _ (fun A' q1 q2 q3 hg => hM1.congr q1 q2 q3 fun j => ?_) fr1)
    rw [hg j,AT.get_set,if_neg hk2]
    by_cases e : j = ino + 1
    ·rw [if_pos e,e,if_neg (by omega)];exact hi.symm
    ·rw [if_neg e]
  | succ c ih =>
   intro i l done acc τ hc hE hal hacc
   have hMt := hM.gr hE.1
   have hlen2 := hke hMt
   obtain ⟨k,hk⟩ : ∃ k,ks[i]? = some k := ⟨_,List.getElem?_eq_getElem (by omega)⟩
   have hdrop : ks.drop i = k :: ks.drop (i + 1) := by
    rw [List.drop_eq_getElem_cons (by omega)]
    rw [List.getElem?_eq_getElem (by omega)] at hk
    rw [Option.some.inj hk]
   rw [hdrop] at hacc
   obtain ⟨gy,oy,q1,_,_,q4⟩ := erow_at (hMt.ent _ _ hd) (by rw [hks];exact hk)
   refine hR _ _ _ _ _ _ _ _ ?_
   refine rf_at2 hMt hL hd (rd_L (rdC_of (hMt.nod _ _ hd) (by rfl)) (br_t (by simp only [decide_eq_true_eq];omega) ?_))
   refine rf_at2 hMt hL hd (rd_L (rdC_of (hMt.nod _ _ hd) (by rfl)) ?_)
   rw [q1]
   have e0 : (i:Int).toNat = i := by omega
   refine ptr_i (if_i ⟨by omega,by show (i:Int) < (((M.ey (dir + 1)).len : Nat) : Int);omega⟩ (rd_G (by rw [e0];exact q4) ?_))
   (refine app_of rfl ?_;try dsimp only)
   refine al_i ?_;intro b35 τ1 g1 e1 n1
   refine st_i2 e1 sz_REntry (by rfl) (by rfl) ?_;intro τ2 p2
   have g2 : Gr τ τ2 := g1.putF p2 n1
   have k35 : τ2 b35 = some (.cells ⟨[.string k,.int .i64 ((lk k nd.ents).getD 0 - 1)]⟩ 206 (0,0)) := p2.same
   clear p2 e1
   have hE2 : EntNew σ τ2 acc l := ⟨hE.1.trans g2,hE.2.1.gr g2,hE.2.2⟩
   have hlb : l.base ≠ some ⟨b35,0,none⟩ := fun e => hE.2.1.has e n1
   refine j_i (fun j => ∀ (l':Sl) (done':Bool) (acc':List (List Value)) (τ':H) v1 v2 v3 v4,EntNew σ τ' acc' l' -> acc'.length <= 2 * i + 1 -> τ' b35 = some (.cells ⟨[.string k,.int .i64 ((lk k nd.ents).getD 0 - 1)]⟩ 206 (0,0)) -> acc' ++ [.string k,.int .i64 ((lk k nd.ents).getD 0 - 1)] :: entR name [.string name,.int .i64 ino] (fun k => [Value.string k,.int .i64 ((lk k nd.ents).getD 0 - 1)]) done' (ks.drop (i + 1)) = T -> j (some ⟨b,0,none⟩) dir name ino l' done' (i:Int) (some ⟨b35,0,none⟩) v1 v2 v3 v4 τ') ?_ ?_
   ·intro l' done' acc' τ' v1 v2 v3 v4 a1 a2 a3 a4
    refine ptr_i (rd_G (rdA_of' a3 (by rfl)) ?_)
    (refine app_of rfl ?_;try dsimp only)
    refine app_ent a1 (by omega) ?_
    intro l'' τ'' hE'' _
    rw [wrap_id (x := (i:Int) + 1) (by omega) (by omega)]
    rw [show (i:Int) + 1 = ((i + 1 : Nat) : Int) from by omega]
    refine ih (i + 1) l'' done' _ τ'' (by omega) hE'' (by rw [List.length_append];simp;omega) ?_
    rw [List.append_assoc];exact a4
   intro j36 h36
   refine j_i (fun j => ∀ v1 v2 v3 v4,j (some ⟨b,0,none⟩) dir name ino l done (i:Int) (some ⟨b35,0,none⟩) v1 v2 v3 v4 (!done && ltB name k) τ2) ?_ ?_
   ·intro v1 v2 v3 v4
    cases ht : (!done && ltB name k) with
    | false =>
     refine br_f rfl (h36 l done acc τ2 _ _ _ _ hE2 (by omega) k35 ?_)
     unfold entR at hacc
     rw [if_neg (by rw [ht];decide)] at hacc
     exact hacc
    | true =>
     refine br_t rfl (app_ent hE2 (by omega) ?_)
     intro l' τ' hE' hkeep
     refine h36 l' true _ τ' _ _ _ _ hE' (by rw [List.length_append];simp;omega) (hkeep _ _ k35 hlb) ?_
     unfold entR at hacc
     rw [if_pos ht] at hacc
     rw [List.append_assoc];exact hacc
   ·intro j55 h55
    cases done with
    | true => exact br_f rfl (h55 _ _ _ _)
    | false =>
     refine br_t rfl (rd_S (rdC_of k35 (by rfl)) ?_)
     rw [strLt_eq]
     exact h55 _ _ _ _
 exact key ks.length 0 ⟨none,0,0⟩ false [] σ (by omega) ⟨Gr.refl _,RowsOwn.nil _ _ _,fun g h => by cases h⟩ (by simp) (by simpa using hT)
end
section
variable {σ σ' : H} {b : Nat} {A : AT} {M : RfM} {N : Nat}
theorem und_RNodes : Tryz.prog.underlying 95 = some (.slice 98) := by kernel_rfl
theorem sz_RNodes : sizeT Tryz.prog 95 = some 1 := by kernel_rfl
theorem info_PRNode : ∃ i z,Tryz.prog.info? 98 = some i /\ i.zero = some z /\ i.size = 1 /\ i.bytes = 8 /\ z.cells.size = 1 := by
 have h1 : (Tryz.prog.info? 98).map (fun i => (i.zero.map (fun z => z.cells.size),i.size,i.bytes)) = some (some 1,1,8) := by kernel_rfl
 cases hi : Tryz.prog.info? 98 with
 | none => rw [hi] at h1;cases h1
 | some i =>
  rw [hi] at h1
  simp only [Option.map_some,Option.some.injEq,Prod.mk.injEq] at h1
  cases hz : i.zero with
  | none => rw [hz] at h1;cases h1.1
  | some z =>
   rw [hz] at h1
   exact ⟨i,z,rfl,hz,h1.2.1,h1.2.2,by simpa using h1.1⟩
def AT.plus (A:AT) (n:AN) : AT := { A with last := A.last + 1,nodes := up (A.last + 1) n A.nodes }
theorem plus_get (A:AT) (n:AN) (j:Int) : (AT.plus A n).get j = if j = A.last + 1 then some n else A.get j := by
 unfold AT.plus AT.get;simp only [lk_up]
 by_cases h : j = A.last + 1 <;> simp [h]
def RfM.plus (M:RfM) (l:Int) (x':Sl) (c13:Nat) : RfM := ⟨x',fun j => if j = l then c13 else M.cb j,fun j => if j = l then ⟨none,0,0⟩ else M.ey j,fun c => if c = c13 then some (l,false) else if x'.base = some ⟨c,0,none⟩ then some (0,true) else M.w c⟩
theorem RfIn.plus (h:RfIn σ b A M) (hI:Wk.Inv A) {n : AN} (hne:n.ents = []) {c13 : Nat} {x' : Sl} {τ1 τ2 : H} (hg:Gr σ σ') (hn13:σ c13 = none) (h13:σ' c13 = some (nodeO n ⟨none,0,0⟩))
 (hx:RowsOwn τ1 98 1 (ptrRow A M.cb ++ [[.pointer (some ⟨c13,0,none⟩)]]) x') (hcase:(∃ g o,M.x.base = some ⟨g,0,none⟩ /\ x'.base = M.x.base /\ Put σ' g o τ1) \/ (∃ g,x'.base = some ⟨g,0,none⟩ /\ σ' g = none /\ Gr σ' τ1))
 (hp:Put τ1 b (.cells ⟨[.int .i64 A.qi,.int .i64 A.qb,.slice x'.base x'.len x'.cap]⟩ 97 (0,0)) τ2) :
 RfIn τ2 b (AT.plus A n) (M.plus (A.last + 1) x' c13) /\ (∀ c o,σ c = some o -> M.w c = none -> τ2 c = some o /\ (M.plus (A.last + 1) x' c13).w c = none) := by
 have hlow : ∀ i n,A.get i = some n -> 1 <= i /\ i <= A.last := hI.low
 have hl0 := hI.last_pos
 have w13 : M.w c13 = none := h.new hn13
 have hcb13 : c13 ≠ b := fun e => by rw [e,h.wb] at w13;cases w13
 -- the new row's block
 have hxw : ∀ g,x'.base = some ⟨g,0,none⟩ -> M.w g = some (0,true) \/ (σ' g = none /\ M.w g = none) := by
  intro g hg2
  rcases hcase with ⟨g',o,q1,q2,q3⟩ | ⟨g',q1,q2,q3⟩
  ·rw [q2] at hg2;exact .inl (h.wt g hg2)
  ·rw [q1] at hg2
   injection hg2 with hg2
   injection hg2 with hg2
   subst hg2
   exact .inr ⟨q2,h.new (none_of hg q2)⟩
 have hxb : x'.base ≠ some ⟨b,0,none⟩ := by
  intro e
  rcases hxw b e with e2 | ⟨_,e2⟩ <;> rw [h.wb] at e2 <;> cases e2
 have hx13 : x'.base ≠ some ⟨c13,0,none⟩ := by
  intro e
  rcases hxw c13 e with e2 | ⟨e2,_⟩
  ·rw [w13] at e2;cases e2
  ·rw [h13] at e2;cases e2
 have keep : ∀ c o,σ' c = some o -> M.w c ≠ some (0,true) -> c ≠ b -> τ2 c = some o := by
  intro c o hc hw hb
  refine hp.get hb ?_
  rcases hcase with ⟨g',o',q1,q2,q3⟩ | ⟨g',q1,q2,q3⟩
  ·exact q3.get (fun e => hw (by rw [e];exact h.wt g' q1)) hc
  ·exact q3.get hc
 have keepR : ∀ i n,A.get i = some n -> RowsOwn τ2 206 2 (eRow n.ents) (M.ey i) := by
  intro i m hm
  refine (h.ent i m hm).keep fun g o hg2 ho => keep g o (hg.get ho) ?_ ?_
  ·rw [h.we i m g hm hg2]
   intro e;injection e with e;injection e with e _;have := (hlow i m hm).1;omega
  ·intro e;have := h.we i m g hm hg2;rw [e,h.wb] at this;injection this with this;injection this with _ this;cases this
 have hget : ∀ j m,(AT.plus A n).get j = some m -> (j = A.last + 1 /\ m = n) \/ (j ≠ A.last + 1 /\ A.get j = some m) := by
  intro j m hm
  rw [plus_get] at hm
  by_cases e : j = A.last + 1
  ·rw [if_pos e] at hm;exact .inl ⟨e,(Option.some.inj hm).symm⟩
  ·rw [if_neg e] at hm;exact .inr ⟨e,hm⟩
 have h13' : τ2 c13 = some (nodeO n ⟨none,0,0⟩) := keep c13 _ h13 (by rw [w13];simp) hcb13
 refine ⟨⟨?_,?_,?_,?_,?_,?_,?_,?_,?_⟩,?_⟩
 ·exact hp.same
 ·have : ptrRow (AT.plus A n) (M.plus (A.last + 1) x' c13).cb = ptrRow A M.cb ++ [[.pointer (some ⟨c13, 0, none⟩)]] := by
   unfold ptrRow
   have e1 : (AT.plus A n).last.toNat = A.last.toNat + 1 := by show (A.last + 1).toNat = _;omega
   rw [e1,List.range_succ,List.map_append]
   congr 1
   ·apply List.map_congr_left
    intro k hk
    have hk : k < A.last.toNat := List.mem_range.1 hk
    rw [plus_get,if_neg (show ¬ ((k:Int) + 1 = A.last + 1) by omega)]
    show [Value.pointer (if (A.get ((k:Int) + 1)).isSome then some ⟨(if (k:Int) + 1 = A.last + 1 then c13 else M.cb ((k:Int) + 1)),0,none⟩ else none)] = _
    rw [if_neg (show ¬ ((k:Int) + 1 = A.last + 1) by omega)]
   ·have e2 : ((A.last.toNat:Nat) : Int) + 1 = A.last + 1 := by omega
    simp only [List.map_cons,List.map_nil,e2,plus_get,if_true]
    show [[Value.pointer (some ⟨(if A.last + 1 = A.last + 1 then c13 else M.cb (A.last + 1)),0,none⟩)]] = _
    rw [if_pos rfl]
  show RowsOwn τ2 98 1 (ptrRow (AT.plus A n) (M.plus (A.last + 1) x' c13).cb) x'
  rw [this]
  exact hx.put hp hxb
 ·intro j m hm
  rcases hget j m hm with ⟨e1,e2⟩ | ⟨e1,e2⟩
  ·subst e1;subst e2
   show τ2 (if A.last + 1 = A.last + 1 then c13 else M.cb (A.last + 1)) = some (nodeO m (if A.last + 1 = A.last + 1 then ⟨none,0,0⟩ else M.ey (A.last + 1)))
   rw [if_pos rfl,if_pos rfl];exact h13'
  ·show τ2 (if j = A.last + 1 then c13 else M.cb j) = some (nodeO m (if j = A.last + 1 then ⟨none,0,0⟩ else M.ey j))
   rw [if_neg e1,if_neg e1]
   obtain ⟨l1,_⟩ := h.low (fun i n hn => (hlow i n hn).1) e2
   refine keep _ _ (hg.get (h.nod j m e2)) ?_ l1
   rw [h.wn j m e2]
   intro e;injection e with e;injection e with _ e;cases e
 ·intro j m hm
  rcases hget j m hm with ⟨e1,e2⟩ | ⟨e1,e2⟩
  ·subst e1;subst e2
   show RowsOwn τ2 206 2 (eRow m.ents) (if A.last + 1 = A.last + 1 then ⟨none,0,0⟩ else M.ey (A.last + 1))
   rw [if_pos rfl,hne];exact RowsOwn.nil _ _ _
  ·show RowsOwn τ2 206 2 (eRow m.ents) (if j = A.last + 1 then ⟨none,0,0⟩ else M.ey j)
   rw [if_neg e1];exact keepR j m e2
 ·show (if b = c13 then _ else if x'.base = some ⟨b,0,none⟩ then _ else M.w b) = _
  rw [if_neg (Ne.symm hcb13),if_neg hxb];exact h.wb
 ·intro g hg2
  have hg2 : x'.base = some ⟨g,0,none⟩ := hg2
  show (if g = c13 then _ else if x'.base = some ⟨g,0,none⟩ then _ else M.w g) = _
  rw [if_neg (fun e => hx13 (by rw [<- e];exact hg2)),if_pos hg2]
 ·intro j m hm
  rcases hget j m hm with ⟨e1,e2⟩ | ⟨e1,e2⟩
  ·subst e1
   show (if (if A.last + 1 = A.last + 1 then c13 else M.cb (A.last + 1)) = c13 then _ else _) = _
   rw [if_pos rfl,if_pos rfl]
  ·have hwj := h.wn j m e2
   show (if (if j = A.last + 1 then c13 else M.cb j) = c13 then _ else if x'.base = some ⟨(if j = A.last + 1 then c13 else M.cb j),0,none⟩ then _ else M.w (if j = A.last + 1 then c13 else M.cb j)) = _
   rw [if_neg e1,if_neg (fun e => by rw [e,w13] at hwj;cases hwj),if_neg (fun e => by
    rcases hxw _ e with e3 | ⟨_,e3⟩ <;> rw [hwj] at e3
    ·injection e3 with e3;injection e3 with _ e3;cases e3
    ·cases e3)]
   exact hwj
 ·intro j m g hm hg2
  rcases hget j m hm with ⟨e1,e2⟩ | ⟨e1,e2⟩
  ·subst e1
   have hg2 : (if A.last + 1 = A.last + 1 then (⟨none,0,0⟩ : Sl) else M.ey (A.last + 1)).base = some ⟨g,0,none⟩ := hg2
   rw [if_pos rfl] at hg2;cases hg2
  ·have hg2 : (if j = A.last + 1 then (⟨none,0,0⟩ : Sl) else M.ey j).base = some ⟨g,0,none⟩ := hg2
   rw [if_neg e1] at hg2
   have hwj := h.we j m g e2 hg2
   have hj1 := (hlow j m e2).1
   show (if g = c13 then _ else if x'.base = some ⟨g,0,none⟩ then _ else M.w g) = _
   rw [if_neg (fun e => by rw [e,w13] at hwj;cases hwj),if_neg (fun e => by
    rcases hxw _ e with e3 | ⟨_,e3⟩ <;> rw [hwj] at e3
    ·injection e3 with e3;injection e3 with e3 _;omega
    ·cases e3)]
   exact hwj
 ·intro c hc
  have hc : (if c = c13 then some (A.last + 1,false) else if x'.base = some ⟨c,0,none⟩ then some (0,true) else M.w c) ≠ none := hc
  by_cases e1 : c = c13
  ·rw [e1,h13'];simp
  by_cases e2 : c = b
  ·rw [e2,hp.same];simp
  by_cases e3 : x'.base = some ⟨c,0,none⟩
  ·exact (hx.put hp hxb).has e3
  ·rw [if_neg e1,if_neg e3] at hc
   have := h.has c hc
   cases ho : σ c with
   | none => exact absurd ho this
   | some o =>
    by_cases e4 : M.w c = some (0,true)
    ·-- the old row: it stays,or it was the same block
     rcases hcase with ⟨g',o',q1,q2,q3⟩ | ⟨g',q1,q2,q3⟩
     ·by_cases e5 : c = g'
      ·exfalso;apply e3;rw [q2,q1,e5]
      ·rw [hp.get e2 (q3.get e5 (hg.get ho))];simp
     ·rw [hp.get e2 (q3.get (hg.get ho))];simp
    ·rw [keep c o (hg.get ho) e4 e2];simp
 ·intro c o hc hw
  refine ⟨keep c o (hg.get hc) (by rw [hw];simp) (fun e => by rw [e,h.wb] at hw;cases hw),?_⟩
  show (if c = c13 then some (A.last + 1,false) else if x'.base = some ⟨c,0,none⟩ then some (0,true) else M.w c) = none
  rw [if_neg (fun e => by rw [e,hn13] at hc;cases hc),if_neg (fun e => by
   rcases hxw _ e with e3 | ⟨e3,_⟩
   ·rw [hw] at e3;cases e3
   ·rw [hg.get hc] at e3;cases e3)]
  exact hw
end
section
variable {σ σ' : H} {b : Nat} {A : AT} {M : RfM} {N : Nat}
theorem s_rfMade (hI:Wk.Inv A) (hB:Bd N A) (hN:N <= 100000000) (hM:RfIn σ b A M) {d : Int} {name data : ByteArray} {kind mode px : Int} (hdir:A.isDir (d + 1)) (hnm:namedE name = 0) (hlk:likeE kind mode data = 0) (hf:A.find (d + 1) name = none) {K : KH}
 (hK:∀ σ' M',RfIn σ' b (A.makeR (d + 1) name kind mode data).2.2 M' -> (∀ c o,σ c = some o -> M.w c = none -> σ' c = some o /\ M'.w c = none) -> K (.int .i64 (A.makeR (d + 1) name kind mode data).2.1) σ') :
 callW Tryz.prog 81 [.pointer (some ⟨b,0,none⟩),.agg ⟨[.int .i64 d,.string name,.int .i64 px]⟩,.int .i64 kind,.int .i64 mode,.string data] K σ := by
 have hmk : A.makeE (d + 1) name kind mode data = A.roomE 1 (data.size:Int) := by
  unfold AT.makeE
  simp only [firstE,AT.dirE_of hdir,hnm,hlk,hf,Option.isSome_none,Bool.false_eq_true,if_false,if_true]
  by_cases h : A.roomE 1 (data.size:Int) = 0
  ·rw [if_pos h,h]
  ·rw [if_neg h]
 refine c81 _ _ _ _ _ _ _ ?_
 unfold g81
 refine al_i ?_;intro b8 σ1 g1 e1 n1
 refine call_i (s_rfRoom hI hB (by omega) (hM.gr g1) 1 (data.size:Int) (app_B ?_))
 by_cases hr : A.roomE 1 (data.size:Int) = 0
 case neg =>
  have h10 : A.roomE 1 (data.size:Int) = 10 := by
   unfold AT.roomE at hr ⊢
   split at hr
   ·exact absurd rfl hr
   ·rename_i h;rw [if_neg h]
  refine br_t (by simp [h10]) ?_
  have hmr : A.makeR (d + 1) name kind mode data = (0,10,A) := by
   rw [makeR_n (by rw [hmk,h10];decide),hmk,h10]
  have := hK σ1 M (by rw [hmr];exact hM.gr g1) (fun c o hc hw => ⟨g1.get hc,hw⟩)
  rw [hmr] at this
  exact this
 refine br_f (by simp [hr]) ?_
 have hmz : A.makeE (d + 1) name kind mode data = 0 := by rw [hmk,hr]
 have hlast := hB.last
 have hl0 := hI.last_pos
 obtain ⟨nd,hnd,hnd2⟩ := hdir
 have hM1 := hM.gr g1
 refine ptr_i (rd_L (rdC_of hM1.top (by rfl)) ?_)
 refine al_i ?_;intro b13 σ2 g2 e2 n2
 refine al_i ?_;intro b14 σ3 g3 e3 n3
 obtain ⟨i,z,i1,i2,i3,i4,i5⟩ := info_PRNode
 have hM3 := hM1.gr (g2.trans g3)
 have hplen : (ptrRow A M.cb).length = A.last.toNat := by simp [ptrRow]
 refine append_i und_RNodes i1 i2 i3 i4 i5 (by decide) hM3.tab e3 rfl (by intro u hu;simp at hu;subst hu;rfl) (by omega) (by decide) ?_
 intro x' τ1 hx hcase
 refine ptr_i ?_
 have htop1 : τ1 b = some (.cells ⟨[.int .i64 A.qi,.int .i64 A.qb,.slice M.x.base M.x.len M.x.cap]⟩ 97 (0,0)) := by
  rcases hcase with ⟨g,o,q1,q2,q3⟩ | ⟨g,q1,q2,q3⟩
  ·refine q3.get (fun e => ?_) hM3.top
   have := hM3.wt g q1
   rw [<- e,hM3.wb] at this;injection this with this;injection this with _ this;cases this
  ·exact q3.get hM3.top
 refine st_i2 htop1 sz_RNodes (by rfl) (by rfl) ?_;intro τ2 p2
 have p2' : Put τ1 b (.cells ⟨[.int .i64 A.qi,.int .i64 A.qb,.slice x'.base x'.len x'.cap]⟩ 97 (0,0)) τ2 := p2
 clear p2
 have hup : upR (⟨kind,mode,data,1,if kind = 2 then 1 else 0,[]⟩ : AN) = 0 := by
  unfold upR
  by_cases h : kind = 2
  ·rw [if_pos h];show (if kind = 2 then (1:Int) else 0) - 1 = 0;rw [if_pos h];rfl
  ·rw [if_neg h]
 have h13 : σ3 b13 = some (nodeO ⟨kind,mode,data,1,if kind = 2 then 1 else 0,[]⟩ ⟨none,0,0⟩) := by
  unfold nodeO
  rw [hup]
  exact g3.get e2
 obtain ⟨hP,hPf⟩ := RfIn.plus (n := ⟨kind,mode,data,1,if kind = 2 then 1 else 0,[]⟩) hM hI rfl ((g1.trans g2).trans g3) (none_of g1 n2) h13 hx hcase p2'
 -- the place is still there
 have k8 : τ2 b8 = some (.cells ⟨[.int .i64 d,.string name,.int .i64 px]⟩ 125 (0,0)) := by
  have h3 := (g2.trans g3).get e1
  have hb8 : b8 ≠ b := by intro e;rw [e,hM.top] at n1;cases n1
  refine p2'.get hb8 ?_
  rcases hcase with ⟨g,o,q1,q2,q3⟩ | ⟨g,q1,q2,q3⟩
  ·exact q3.get (fun e => by rw [e] at n1;exact hM.tab.has q1 n1) h3
  ·exact q3.get h3
 refine rd_I (rdC_of k8 (by rfl)) (rd_S (rdC_of k8 (by rfl)) (ptr_i (rd_L (rdC_of p2'.same (by rfl)) ?_)))
 have hxl : x'.len = A.last.toNat + 1 := by
  have := hx.1
  rw [List.length_append,hplen] at this
  simpa using this
 have ew : IntKind.i64.wrap (((x'.len:Nat) : Int) - 1) = A.last := by
  rw [wrap_id (by omega) (by omega)];omega
 show callT _ _ [_,_,_,.int .i64 (IntKind.i64.wrap (((x'.len:Nat) : Int) - 1))] _ _ _
 rw [ew]
 have hdl := hI.low _ _ hnd
 have hd1 : (AT.plus A ⟨kind,mode,data,1,if kind = 2 then 1 else 0,[]⟩).get (d + 1) = some nd := by rw [plus_get,if_neg (by omega)];exact hnd
 have hd2 : (AT.plus A ⟨kind,mode,data,1,if kind = 2 then 1 else 0,[]⟩).get (A.last + 1) = some ⟨kind,mode,data,1,if kind = 2 then 1 else 0,[]⟩ := by rw [plus_get,if_pos rfl]
 have hL2 : ∀ i n,(AT.plus A ⟨kind,mode,data,1,if kind = 2 then 1 else 0,[]⟩).get i = some n -> 1 <= i /\ i <= (AT.plus A ⟨kind,mode,data,1,if kind = 2 then 1 else 0,[]⟩).last := by
  intro i n hn
  rw [plus_get] at hn
  show 1 <= i /\ i <= A.last + 1
  by_cases e : i = A.last + 1
  ·omega
  ·rw [if_neg e] at hn;have := hI.low _ _ hn;omega
 have hfl : lk name nd.ents = none := by unfold AT.find at hf;rw [hnd] at hf;exact hf
 refine call_i (s_rfEnter hP hL2 (by show A.last + 1 <= _;omega) hd1 hd2 (by omega) hfl (hI.enod _ _ hnd) (by have := hB.ents _ _ hnd;omega) ?_)
 intro σ' M' hR hfr
 refine app_U ?_
 have hmr : A.makeR (d + 1) name kind mode data = (wr (A.last + 1),0,A.made (d + 1) name kind mode data) := makeR_z hmz
 have hL62 : A.last < 4611686018427387904 := by omega
 have := hK σ' M' (by
  rw [hmr]
  refine hR _ ?_ ?_ ?_ fun j => ?_
  ·show (A.made (d + 1) name kind mode data).qi = A.qi;rw [made_eq hI hL62 hnd];rfl
  ·show (A.made (d + 1) name kind mode data).qb = A.qb;rw [made_eq hI hL62 hnd];rfl
  ·show (A.made (d + 1) name kind mode data).last = A.last + 1;rw [made_eq hI hL62 hnd];rfl
  ·show (A.made (d + 1) name kind mode data).get j = _
   rw [made_get hI hL62 hnd]
   by_cases e1 : j = d + 1
   ·rw [if_pos e1,if_neg (by omega),if_pos e1]
   ·rw [if_neg e1]
    by_cases e2 : j = A.last + 1
    ·rw [if_pos e2,if_pos e2]
     unfold newN
     by_cases h : kind = 2
     ·rw [if_pos h];simp [h]
     ·rw [if_neg h]
      have : (kind == 2) = false := by simpa using h
      simp [this,h]
    ·rw [if_neg e2,if_neg e2,if_neg e1,plus_get,if_neg e2]) (fun c o hc hw => by
  obtain ⟨q1,q2⟩ := hPf c o hc hw
  exact hfr c o q1 q2)
 rw [hmr] at this
 exact this
theorem s_rfMkdir (hI:Wk.Inv A) (hB:Bd N A) (hN:N <= 100000000) {D : Nat -> Prop} (hA:RfAt σ b A D) (cwd path:ByteArray) {K : KH}
 (hK:∀ σ' D',RfAt σ' b (A.mkdirF cwd path).2 D' -> Sep σ D σ' D' -> K (.int .i64 (A.mkdirF cwd path).1) σ') :
 callW Tryz.prog 34 [.pointer (some ⟨b,0,none⟩),.string cwd,.string path] K σ := by
 obtain ⟨M,hM,hD⟩ := hA
 refine c34 _ _ _ ?_
 unfold g34
 refine call_i (s_rfGo hI hB (by omega) hM cwd path false ?_)
 intro σ1 g1
 have hpl := fun e => locate_place hI cwd path false e
 have hmk : A.mkdirF cwd path = (let r := A.locate cwd path false
  if r.1 ≠ 0 then (r.1,A) else if r.2.there = true then (6,A) else if (A.deep 13 r.2.dir).getD 0 >= 12 then (3,A) else let m := A.makeR r.2.dir r.2.name 2 493 ⟨⟨[]⟩⟩;(m.2.1,m.2.2)) := by
  unfold AT.mkdirF AT.freshP
  simp only
  by_cases h : (A.locate cwd path false).1 = 0
  ·simp only [h,ne_eq,not_true_eq_false,if_false]
   cases h2 : (A.locate cwd path false).2.there <;> simp
  ·simp [h]
 generalize A.locate cwd path false = r at hpl hmk ⊢
 obtain ⟨e,p⟩ := r
 simp only at hmk
 have same : ∀ (τ:H) (x:Int),A.mkdirF cwd path = (x,A) -> Gr σ τ -> K (.int .i64 x) τ := by
  intro τ x hx hg
  rw [hx] at hK
  exact hK τ D ⟨M,hM.gr hg,hD⟩ (Sep.gr hg)
 unfold plL
 by_cases he : e = 0
 case neg =>
  rw [if_neg he]
  unfold plZ
  (refine app_of rfl ?_;try dsimp only)
  refine al_i ?_;intro b8 σ2 g2 e2 n2
  refine st_i2 e2 sz_RPlace (by rfl) (by rfl) ?_;intro σ3 p3
  refine br_t (by simpa using he) (same σ3 e (by rw [hmk,if_pos he]) (g1.trans (g2.putF p3 n2)))
 subst he
 rw [if_pos rfl]
 rw [if_neg (by decide)] at hmk
 unfold plV
 (refine app_of rfl ?_;try dsimp only)
 refine al_i ?_;intro b8 σ2 g2 e2 n2
 refine st_i2 e2 sz_RPlace (by rfl) (by rfl) ?_;intro σ3 p3
 have hg3 : Gr σ σ3 := g1.trans (g2.putF p3 n2)
 have k8 : σ3 b8 = some (.cells ⟨[.int .i64 (p.dir - 1),.string p.name,.int .i64 (if p.there then p.ino - 1 else -1)]⟩ 125 (0,0)) := p3.same
 have hM3 := hM.gr hg3
 have hP : PlOk A p := hpl rfl
 refine br_f rfl (rd_I (rdC_of k8 (by rfl)) ?_)
 cases ht : p.there with
 | true =>
  obtain ⟨n,hn⟩ := PlOk.get hI hP ht
  have hlow := (hI.low _ _ hn).1
  rw [if_pos ht] at hmk
  refine br_t (by simp;omega) (same σ3 6 hmk hg3)
 | false =>
  rw [if_neg (by rw [ht];decide)] at hmk
  have hdir : A.isDir p.dir := hP.1
  obtain ⟨x,x1,_,x3,x4⟩ := hI.deep13 hdir
  have hd11 : p.dir - 1 + 1 = p.dir := by omega
  refine br_f rfl (rd_I (rdC_of k8 (by rfl)) (call_i (s_rfDeep hM3 hI (d := p.dir - 1) (by rw [hd11];exact hdir) (by rw [hd11];exact x1) (app_I ?_))))
  rw [x1] at hmk
  simp only [Option.getD_some] at hmk
  by_cases hx : x >= 12
  ·rw [if_pos hx] at hmk
   exact br_t (by simpa using hx) (same σ3 3 hmk hg3)
  ·rw [if_neg hx] at hmk
   refine br_f (by simpa using hx) (rd_G (rdA_of' k8 (by rfl)) ?_)
   (refine app_of rfl ?_;try dsimp only)
   obtain ⟨nm,fd⟩ := hP.named (hP.notThere ht)
   rw [if_neg (by rw [ht];decide)] at fd
   refine call_i (s_rfMade hI hB hN hM3 (d := p.dir - 1) (by rw [hd11];exact hdir) nm (by unfold likeE kindOkE;simp [lk,sEq_self]) (by rw [hd11];exact fd) ?_)
   intro σ' M' hR hfr
   rw [hd11] at hR ⊢
   rw [hmk] at hK
   refine app_I (hK σ' (fun c => M'.w c ≠ none) ⟨M',hR,fun c => Iff.rfl⟩ ?_)
   intro c o hc hn
   have hw : M.w c = none := by
    cases h : M.w c with
    | none => rfl
    | some r => exact absurd ((hD c).2 (by rw [h];simp)) hn
   obtain ⟨q1,q2⟩ := hfr c o (hg3.get hc) hw
   exact ⟨q1,fun h => h q2⟩
end
section
variable {σ σ' : H} {b : Nat} {A : AT} {M : RfM} {N : Nat}
theorem Sep.of_frame {D : Nat -> Prop} {M M' : RfM} (hD:∀ c,D c ↔ M.w c ≠ none) (h:∀ c o,σ c = some o -> M.w c = none -> σ' c = some o /\ M'.w c = none) : Sep σ D σ' (fun c => M'.w c ≠ none) := by
 intro c o hc hn
 have hw : M.w c = none := by
  cases h : M.w c with
  | none => rfl
  | some r => exact absurd ((hD c).2 (by rw [h];simp)) hn
 obtain ⟨q1,q2⟩ := h c o hc hw
 exact ⟨q1,fun h => h q2⟩
theorem s_rfWrite (hI:Wk.Inv A) (hB:Bd N A) (hN:N <= 100000000) {D : Nat -> Prop} (hA:RfAt σ b A D) (cwd path data:ByteArray) (more:Bool) (hz:data.size <= 1000000000000000) {K : KH}
 (hK:∀ σ' D',RfAt σ' b (A.writeF cwd path data more).2 D' -> Sep σ D σ' D' -> K (.int .i64 (A.writeF cwd path data more).1) σ') :
 callW Tryz.prog 32 [.pointer (some ⟨b,0,none⟩),.string cwd,.string path,.string data,.bool more] K σ := by
 obtain ⟨M,hM,hD⟩ := hA
 refine c32 _ _ _ _ _ ?_
 unfold g32
 refine call_i (s_rfGo hI hB (by omega) hM cwd path true ?_)
 intro σ1 g1
 have hpl := fun e => locate_place hI cwd path true e
 have hnl := fun e t => locate_nolink hI cwd path e t
 have hmk : A.writeF cwd path data more = (let r := A.locate cwd path true
  if r.1 ≠ 0 then (r.1,A) else if r.2.there = false then (let m := A.makeR r.2.dir r.2.name 1 420 data;(m.2.1,m.2.2)) else if A.kind r.2.ino = 2 then (7,A) else A.writeR r.2.ino (if more then A.data r.2.ino ++ data else data)) := rfl
 generalize A.locate cwd path true = r at hpl hmk hnl ⊢
 obtain ⟨e,p⟩ := r
 simp only at hmk
 have same : ∀ (τ:H) (x:Int),A.writeF cwd path data more = (x,A) -> Gr σ τ -> K (.int .i64 x) τ := by
  intro τ x hx hg
  rw [hx] at hK
  exact hK τ D ⟨M,hM.gr hg,hD⟩ (Sep.gr hg)
 unfold plL
 by_cases he : e = 0
 case neg =>
  rw [if_neg he]
  unfold plZ
  (refine app_of rfl ?_;try dsimp only)
  refine al_i ?_;intro b8 σ2 g2 e2 n2
  refine st_i2 e2 sz_RPlace (by rfl) (by rfl) ?_;intro σ3 p3
  refine br_t (by simpa using he) (same σ3 e (by rw [hmk,if_pos he]) (g1.trans (g2.putF p3 n2)))
 subst he
 rw [if_pos rfl]
 rw [if_neg (by decide)] at hmk
 unfold plV
 (refine app_of rfl ?_;try dsimp only)
 refine al_i ?_;intro b8 σ2 g2 e2 n2
 refine st_i2 e2 sz_RPlace (by rfl) (by rfl) ?_;intro σ3 p3
 have hg3 : Gr σ σ3 := g1.trans (g2.putF p3 n2)
 have k8 : σ3 b8 = some (.cells ⟨[.int .i64 (p.dir - 1),.string p.name,.int .i64 (if p.there then p.ino - 1 else -1)]⟩ 125 (0,0)) := p3.same
 have hM3 := hM.gr hg3
 have hP : PlOk A p := hpl rfl
 refine br_f rfl (rd_I (rdC_of k8 (by rfl)) ?_)
 cases ht : p.there with
 | false =>
  rw [if_pos ht] at hmk
  have hdir : A.isDir p.dir := hP.1
  have hd11 : p.dir - 1 + 1 = p.dir := by omega
  refine br_t rfl (rd_G (rdA_of' k8 (by rfl)) ?_)
  (refine app_of rfl ?_;try dsimp only)
  obtain ⟨nm,fd⟩ := hP.named (hP.notThere ht)
  rw [if_neg (by rw [ht];decide)] at fd
  refine call_i (s_rfMade hI hB hN hM3 (d := p.dir - 1) (by rw [hd11];exact hdir) nm (by unfold likeE kindOkE;simp [lk]) (by rw [hd11];exact fd) ?_)
  intro σ' M' hR hfr
  rw [hd11] at hR ⊢
  rw [hmk] at hK
  refine app_I (hK σ' (fun c => M'.w c ≠ none) ⟨M',hR,fun c => Iff.rfl⟩ (Sep.of_frame hD fun c o hc hw => hfr c o (hg3.get hc) hw))
 | true =>
  obtain ⟨n,hn⟩ := PlOk.get hI hP ht
  have hlow := (hI.low _ _ hn).1
  have hkn : A.kind p.ino = n.kind := by unfold AT.kind;rw [hn];rfl
  have hdat : A.data p.ino = n.data := by unfold AT.data;rw [hn];rfl
  have hnl := hnl rfl ht
  rw [if_neg (by rw [ht];decide),hkn,hdat] at hmk
  rw [hkn] at hnl
  rw [if_pos ht] at k8
  have h11 : p.ino - 1 + 1 = p.ino := by omega
  obtain ⟨gs,os,s1,s2,s3⟩ := hM3.slot hI (d := p.ino - 1) (n := n) (by rw [h11];exact hn)
  rw [h11] at s3
  rw [if_pos rfl]
  refine br_f (by simp only [decide_eq_false_iff_not];omega) (ptr_i (rd_L (rdC_of hM3.top (by rfl)) (rd_I (rdC_of k8 (by rfl)) ?_)))
  rw [s1]
  refine ptr_i (if_i s2 (rd_P s3 (ptr_i (rd_I (rdC_of (hM3.nod _ _ hn) (by rfl)) ?_))))
  by_cases hk2 : n.kind = 2
  ·rw [if_pos hk2] at hmk
   exact br_t (by simpa using hk2) (same σ3 7 hmk hg3)
  rw [if_neg hk2] at hmk
  have hk1 : n.kind = 1 := by
   rcases kind_cases (hI.like _ _ hn) with h | h | h
   ·exact h
   ·exact absurd h hk2
   ·exact absurd h hnl
  have hsz := hI.size_le hn
  have hbq := hI.bq
  refine br_f (by simpa using hk2) ?_
  refine j_i (fun j => ∀ s : ByteArray,s = (if more then n.data ++ data else data) -> j (some ⟨b,0,none⟩) s (some ⟨M.cb p.ino,0,none⟩) σ3) ?_ ?_
  case refine_2 =>
   intro j hj
   cases more with
   | true =>
    refine br_t rfl (ptr_i (rd_S (rdC_of (hM3.nod _ _ hn) (by rfl)) (if_i (by omega) (hj _ rfl))))
   | false => exact br_f rfl (hj _ rfl)
  intro s hs
  rw [<- hs] at hmk
  have hss : s.size <= 2000000000000000 := by
   rw [hs]
   cases more with
   | true => rw [if_pos rfl,ByteArray.size_append];omega
   | false => rw [if_neg (by decide)];omega
  refine ptr_i (rd_S (rdC_of (hM3.nod _ _ hn) (by rfl)) ?_)
  refine call_i (s_rfRoom hI hB (by omega) hM3 0 _ (app_B ?_))
  have hwe : A.writeE p.ino s = A.roomE 0 (IntKind.i64.wrap (((s.size:Nat) : Int) - ((n.data.size:Nat) : Int))) := by
   have hfe : A.fileE p.ino = 0 := by unfold AT.fileE;rw [hn];simp [hk1]
   unfold AT.writeE
   rw [hn]
   simp only [firstE,hfe,if_true,Option.map_some,Option.getD_some]
   show (if A.roomE 0 (wr (((s.size:Nat) : Int) - ((n.data.size:Nat) : Int))) = 0 then 0 else A.roomE 0 (wr (((s.size:Nat) : Int) - ((n.data.size:Nat) : Int)))) = _
   by_cases h : A.roomE 0 (wr (((s.size:Nat) : Int) - ((n.data.size:Nat) : Int))) = 0
   ·rw [if_pos h];exact h.symm
   ·rw [if_neg h];rfl
  by_cases hr : A.roomE 0 (IntKind.i64.wrap (((s.size:Nat) : Int) - ((n.data.size:Nat) : Int))) = 0
  case neg =>
   have h10 : A.roomE 0 (IntKind.i64.wrap (((s.size:Nat) : Int) - ((n.data.size:Nat) : Int))) = 10 := by
    unfold AT.roomE at hr ⊢
    split at hr
    ·exact absurd rfl hr
    ·rename_i h;rw [if_neg h]
   refine br_t (by simp [h10]) (same σ3 10 ?_ hg3)
   rw [hmk];unfold AT.writeR
   rw [if_neg (by rw [hwe];exact hr),hwe,h10]
  ·refine br_f (by simp [hr]) (ptr_i ?_)
   refine st_i2 (hM3.nod _ _ hn) sz_string (by rfl) (by rfl) ?_;intro σ4 p4
   have p4' : Put σ3 (M.cb p.ino) (nodeO { n with data := s } (M.ey p.ino)) σ4 := p4
   have hlow2 : ∀ i n,A.get i = some n -> 1 <= i := fun i n hn => (hI.low i n hn).1
   have hM4 := hM3.setN hlow2 hn (n' := { n with data := s }) (y' := M.ey p.ino) p4' (show RowsOwn σ3 206 2 (eRow n.ents) _ from hM3.ent _ _ hn) (fun g hg => .inr (hM3.we _ _ g hn hg))
   have hw0 : A.writeF cwd path data more = (0,A.written p.ino s) := by
    rw [hmk];unfold AT.writeR;rw [if_pos (by rw [hwe];exact hr)]
   rw [hw0] at hK
   refine hK σ4 (fun c => (M.setE p.ino (M.ey p.ino)).w c ≠ none) ⟨_,hM4.congr ?_ ?_ ?_ ?_,fun c => Iff.rfl⟩ (Sep.of_frame hD fun c o hc hw => ?_)
   ·unfold AT.written;rw [hn]
   ·unfold AT.written;rw [hn]
   ·unfold AT.written;rw [hn]
   ·intro j;unfold AT.written;rw [hn];rfl
   ·have hcb : c ≠ M.cb p.ino := fun e => by rw [e,hM.wn _ _ hn] at hw;cases hw
    refine ⟨p4'.get hcb (hg3.get hc),?_⟩
    show (if (M.ey p.ino).base = some ⟨c,0,none⟩ then some (p.ino,true) else M.w c) = none
    rw [if_neg (fun e => by rw [hM.we _ _ c hn e] at hw;cases hw)];exact hw
end
end Go.Proofs.YthclifcpjnhmjaaGreatDoor

