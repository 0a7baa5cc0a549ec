/- A part of the proof: MiscNumbers holds. -/
import Derived.Test.YthclifcpjnhmjaaGreatDoorPbd
import Derived.Shelf.Strings.Search3
import Derived.Shelf.LaysM
import Derived.Ground.NamesProg
import Derived.Test.YthclifcpjnhmjaaGreatDoorProg
import Derived.Test.YthclifcpjnhmjaaGreatDoorChecked
import GoSem.ClaimJoined
set_option maxRecDepth 100000
namespace Go.Proofs.YthclifcpjnhmjaaGreatDoor
open Go Go.HL Go.Wk
attribute [local irreducible] ptrW ifW brW andW rdT alW letJ stW muW biW vaW imW callT cvalT app callW invW callVW sizeT oW nilF oneK loopW rfW funW begW roundK exW idxW Gr Put
theorem und_MSFI : Tryz.prog.underlying 215 = some (.map 9 129) := by kernel_rfl
theorem und_MSFB : Tryz.prog.underlying 222 = some (.map 9 23) := by kernel_rfl
theorem app_RBm {v : Value} {x : Bool} {F : Value -> Bool -> H -> Prop} {σ : H} (h2 : F v x σ) : HL.app (.tup [.sc .raw, .sc .bool]) F (.tuple ⟨[v, .bool x]⟩) σ := by
 unfold HL.app; exact h2
def askL : List (ByteArray × Value) := [(⟨⟨[45, 101, 113]⟩⟩, .func (.func 177) ⟨[]⟩ ⟨[]⟩), (⟨⟨[45, 110, 101]⟩⟩, .func (.func 178) ⟨[]⟩ ⟨[]⟩), (⟨⟨[45, 108, 116]⟩⟩, .func (.func 179) ⟨[]⟩ ⟨[]⟩), (⟨⟨[45, 108, 101]⟩⟩, .func (.func 180) ⟨[]⟩ ⟨[]⟩), (⟨⟨[45, 103, 116]⟩⟩, .func (.func 181) ⟨[]⟩ ⟨[]⟩), (⟨⟨[45, 103, 101]⟩⟩, .func (.func 182) ⟨[]⟩ ⟨[]⟩)]
theorem ask_lk (q : ByteArray) : (askP q = none /\ lk q askL = none) \/ ∃ f v, askP q = some f /\ lk q askL = some v /\ ∀ (x y : Int) {F : Bool -> H -> Prop} {σ : H}, F (f x y) σ -> cvalT Tryz.prog v [.int .i64 x, .int .i64 y] kB F σ := by
 unfold askP askL
 simp only [lkS]
 cases sEq q ⟨⟨[45, 101, 113]⟩⟩ with
 | true => exact .inr ⟨_, _, rfl, rfl, fun x y F σ h => cval_i (by kernel_rfl) (c177 _ _ (by unfold g177; exact app_B h))⟩
 | false =>
  cases sEq q ⟨⟨[45, 110, 101]⟩⟩ with
  | true => exact .inr ⟨_, _, rfl, rfl, fun x y F σ h => cval_i (by kernel_rfl) (c178 _ _ (by unfold g178; exact app_B h))⟩
  | false =>
   cases sEq q ⟨⟨[45, 108, 116]⟩⟩ with
   | true => exact .inr ⟨_, _, rfl, rfl, fun x y F σ h => cval_i (by kernel_rfl) (c179 _ _ (by unfold g179; exact app_B h))⟩
   | false =>
    cases sEq q ⟨⟨[45, 108, 101]⟩⟩ with
    | true => exact .inr ⟨_, _, rfl, rfl, fun x y F σ h => cval_i (by kernel_rfl) (c180 _ _ (by unfold g180; exact app_B h))⟩
    | false =>
     cases sEq q ⟨⟨[45, 103, 116]⟩⟩ with
     | true => exact .inr ⟨_, _, rfl, rfl, fun x y F σ h => cval_i (by kernel_rfl) (c181 _ _ (by unfold g181; exact app_B h))⟩
     | false =>
      cases sEq q ⟨⟨[45, 103, 101]⟩⟩ with
      | true => exact .inr ⟨_, _, rfl, rfl, fun x y F σ h => cval_i (by kernel_rfl) (c182 _ _ (by unfold g182; exact app_B h))⟩
      | false => exact .inl ⟨rfl, rfl⟩
theorem s_between (a q b : ByteArray) (ha : a.size <= 1000000000) (hb : b.size <= 1000000000) {σ : H} {K : KH} (hK : K (.tuple ⟨[.bool (betweenP a q b).1, .bool (betweenP a q b).2.1, .bool (betweenP a q b).2.2]⟩) σ) : callW Tryz.prog 146 [.string a, .string q, .string b] K σ := by
 refine pure_i _ hK (c146 _ _ _ ?_)
 clear hK
 unfold g146
 unfold betweenP
 simp only [<- sEq_eq]
 cases c1 : sEq q ⟨⟨[61]⟩⟩ with
 | true => exact br_t rfl ⟨rfl, Gr.refl _⟩
 | false =>
  refine br_f rfl ?_
  cases c2 : sEq q ⟨⟨[33, 61]⟩⟩ with
  | true => exact br_t rfl ⟨rfl, Gr.refl _⟩
  | false =>
   refine br_f rfl ?_
   cases c3 : sEq q ⟨⟨[45, 97]⟩⟩ with
   | true =>
    refine br_t rfl ?_
    cases sEq a ⟨⟨[]⟩⟩ with
    | true => exact br_f rfl ⟨rfl, Gr.refl _⟩
    | false => exact br_t rfl ⟨rfl, Gr.refl _⟩
   | false =>
    refine br_f rfl ?_
    cases c4 : sEq q ⟨⟨[45, 111]⟩⟩ with
    | true =>
     refine br_t rfl ?_
     cases sEq a ⟨⟨[]⟩⟩ with
     | true => exact br_f rfl ⟨rfl, Gr.refl _⟩
     | false => exact br_t rfl ⟨rfl, Gr.refl _⟩
    | false =>
     refine br_f rfl ?_
     refine mul_i und_MSFI und_strM askL (by decide +kernel) ?_
     intro bm σ1 g1 n1 hm
     refine rd_G (mul_rd hm .nilFunc q) (app_RBm ?_)
     refine call_i (s_whole a.data.toList (by rw [<- size_list]; exact ha) ?_)
     rw [show (⟨⟨a.data.toList⟩⟩ : ByteArray) = a from rfl]
     (refine app_of rfl ?_; try dsimp only)
     refine call_i (s_whole b.data.toList (by rw [<- size_list]; exact hb) ?_)
     rw [show (⟨⟨b.data.toList⟩⟩ : ByteArray) = b from rfl]
     (refine app_of rfl ?_; try dsimp only)
     rcases ask_lk q with ⟨h1, h2⟩ | ⟨f, v, h1, h2, h3⟩
     ·rw [h1, h2]
      exact j_d (br_t rfl (br_t rfl ⟨rfl, g1⟩))
     ·rw [h1, h2]
      refine j_d (br_f rfl ?_)
      cases hwa : wholeP a with
      | none => exact br_t rfl (br_t rfl ⟨rfl, g1⟩)
      | some x =>
       refine br_f rfl ?_
       cases hwb : wholeP b with
       | none => exact br_t rfl ⟨rfl, g1⟩
       | some y => exact br_f rfl (h3 x y ⟨rfl, g1⟩)
def AskOk (σ : H) (ask : Value) (f : IN -> Bool) : Prop := ∀ (n : IN) (τ : H) (F : Bool -> H -> Prop), Gr σ τ -> (∀ τ', Gr τ τ' -> F (f n) τ') -> cvalT Tryz.prog ask [.agg ⟨inV n⟩] kB F τ
section
variable {σ : H} {bf : Nat} {A : AT} {B : Nat -> Prop}
theorem s_of (hF : FsAt σ bf A B) {b8 b9 : Nat} {nm inn cwd s : ByteArray} {x : Sl} {t8 t9 : TypeId} (h8 : σ b8 = some (.cells ⟨[.string nm, .slice x.base x.len x.cap, .string inn, .string cwd, .pointer (some ⟨bf, 0, none⟩)]⟩ t8 (0, 0))) (h9 : σ b9 = some (.cells ⟨[.string s]⟩ t9 (0, 0)))
 (follow : Bool) (ask : Value) (f : IN -> Bool) (ha : AskOk σ ask f) {K : KH} (hK : ∀ σ', Gr σ σ' -> K (.bool (A.ofP cwd s follow f)) σ') : callW Tryz.prog 183 [.bool follow, ask, .pointer (some ⟨b8, 0, none⟩), .pointer (some ⟨b9, 0, none⟩)] K σ := by
 refine c183 _ _ _ _ ?_
 unfold g183
 refine ptr_i (rd_P (rdC_of h8 (by rfl)) (ptr_i (rd_S (rdC_of h8 (by rfl)) (ptr_i (rd_S (rdC_of h9 (by rfl)) ?_)))))
 refine call_i (s_Stat hF cwd s follow ?_)
 have hd : A.ofP cwd s follow f = (((A.stat cwd s follow).1 == 0) && f (A.stat cwd s follow).2) := rfl
 unfold inV
 (refine app_of rfl ?_; try dsimp only)
 refine al_i ?_; intro b19 σ1 g1 e1 n1
 refine st_i2 e1 sz_Inode (by rfl) (by rfl) ?_; intro σ2 p2
 have g2 : Gr σ σ2 := g1.putF p2 n1
 cases hc : (A.stat cwd s follow).1 == 0 with
 | false => rw [hc, Bool.false_and] at hd; rw [hd] at hK; exact br_f rfl (hK σ2 g2)
 | true =>
  rw [hc, Bool.true_and] at hd
  refine br_t rfl (rd_G (rdA_of' p2.same (by rfl)) ?_)
  (refine app_of rfl ?_; try dsimp only)
  refine ha (A.stat cwd s follow).2 σ2 _ g2 ?_
  intro σ3 g3
  rw [hd] at hK
  exact hK σ3 (g2.trans g3)
theorem ask_k (k : Int) {bk : Nat} {tk : TypeId} (h : σ bk = some (.cells ⟨[.int .i64 k]⟩ tk (0, 0))) : AskOk σ (.func (.func 186) ⟨[]⟩ ⟨[.pointer (some ⟨bk, 0, none⟩)]⟩) (fun n => n.kind == k) := by
 intro n τ F hg hF
 refine cval_i (by kernel_rfl) (c186 _ _ _ _ _ ?_)
 unfold g186
 refine al_i ?_; intro b σ1 g1 e1 n1
 exact rd_I (rdC_of e1 (by rfl)) (ptr_i (rd_I (rdC_of (g1.get (hg.get h)) (by rfl)) (app_B (hF σ1 g1))))
theorem ask_e : AskOk σ (.func (.func 191) ⟨[]⟩ ⟨[]⟩) (fun _ => true) := by
 intro n τ F hg hF
 refine cval_i (by kernel_rfl) (c191 _ _ _ _ ?_)
 unfold g191
 refine al_i ?_; intro b σ1 g1 e1 n1
 exact app_B (hF σ1 g1)
theorem ask_x : AskOk σ (.func (.func 195) ⟨[]⟩ ⟨[]⟩) (fun n => xbit n.mode) := by
 intro n τ F hg hF
 refine cval_i (by kernel_rfl) (c195 _ _ _ _ ?_)
 unfold g195
 refine al_i ?_; intro b σ1 g1 e1 n1
 exact rd_I (rdC_of e1 (by rfl)) (app_B (hF σ1 g1))
theorem ask_s : AskOk σ (.func (.func 197) ⟨[]⟩ ⟨[]⟩) (fun n => n.kind == 1 && !sEq n.data ⟨⟨[]⟩⟩) := by
 intro n τ F hg hF
 refine cval_i (by kernel_rfl) (c197 _ _ _ _ ?_)
 unfold g197
 refine al_i ?_; intro b σ1 g1 e1 n1
 refine rd_I (rdC_of e1 (by rfl)) ?_
 have this : F (n.kind == 1 && !sEq n.data ⟨⟨[]⟩⟩) σ1 := hF σ1 g1
 cases hk : n.kind == 1 with
 | false => rw [hk] at this; exact br_f rfl (app_B this)
 | true =>
  rw [hk] at this
  refine br_t rfl (rd_S (rdC_of e1 (by rfl)) (app_B ?_))
  rw [<- sEq_eq]; exact this
def aboutL (b9 b10 b11 : Nat) : List (ByteArray × Value) := [(⟨⟨[45, 110]⟩⟩, .func (.func 188) ⟨[]⟩ ⟨[.pointer (some ⟨b9, 0, none⟩)]⟩), (⟨⟨[45, 122]⟩⟩, .func (.func 189) ⟨[]⟩ ⟨[.pointer (some ⟨b9, 0, none⟩)]⟩), (⟨⟨[45, 101]⟩⟩, .func (.func 190) ⟨[]⟩ ⟨[.pointer (some ⟨b10, 0, none⟩)]⟩),
 (⟨⟨[45, 102]⟩⟩, .func (.func 192) ⟨[]⟩ ⟨[.pointer (some ⟨b10, 0, none⟩), .pointer (some ⟨b11, 0, none⟩)]⟩), (⟨⟨[45, 100]⟩⟩, .func (.func 193) ⟨[]⟩ ⟨[.pointer (some ⟨b10, 0, none⟩), .pointer (some ⟨b11, 0, none⟩)]⟩), (⟨⟨[45, 76]⟩⟩, .func (.func 187) ⟨[]⟩ ⟨[.pointer (some ⟨b10, 0, none⟩), .pointer (some ⟨b11, 0, none⟩)]⟩), (⟨⟨[45, 104]⟩⟩, .func (.func 187) ⟨[]⟩ ⟨[.pointer (some ⟨b10, 0, none⟩), .pointer (some ⟨b11, 0, none⟩)]⟩),
 (⟨⟨[45, 120]⟩⟩, .func (.func 194) ⟨[]⟩ ⟨[.pointer (some ⟨b10, 0, none⟩)]⟩), (⟨⟨[45, 115]⟩⟩, .func (.func 196) ⟨[]⟩ ⟨[.pointer (some ⟨b10, 0, none⟩)]⟩)]
theorem about_nd (b9 b10 b11 : Nat) : ((aboutL b9 b10 b11).map fun x => x.1.data.toList).Nodup := by
 show ([[45, 110], [45, 122], [45, 101], [45, 102], [45, 100], [45, 76], [45, 104], [45, 120], [45, 115]] : List (List UInt8)).Nodup
 decide
theorem sz_askF : sizeT Tryz.prog 219 = some 1 := by kernel_rfl
theorem sz_kindF2 : sizeT Tryz.prog 220 = some 1 := by kernel_rfl
theorem s_about (hF : FsAt σ bf A B) (nm inn cwd q s : ByteArray) (x : Sl) {K : KH} (hK : K (.tuple ⟨[.bool (A.aboutP cwd q s).1, .bool (A.aboutP cwd q s).2]⟩) σ) : callW Tryz.prog 147 [.agg ⟨[.string nm, .slice x.base x.len x.cap, .string inn, .string cwd, .pointer (some ⟨bf, 0, none⟩)]⟩, .string q, .string s] K σ := by
 refine pure_i _ hK (c147 _ _ _ _ _ _ _ ?_)
 clear hK
 unfold g147
 refine al_i ?_; intro b8 σ1 g1 e1 n1
 refine al_i ?_; intro b9 σ2 g2 e2 n2
 refine al_i ?_; intro b10 σ3 g3 e3 n3
 refine st_i2 e3 sz_askF (by rfl) (by rfl) ?_; intro σ4 p4
 refine al_i ?_; intro b11 σ5 g5 e5 n5
 refine st_i2 e5 sz_kindF2 (by rfl) (by rfl) ?_; intro σ6 p6
 have G3 : Gr σ2 σ4 := g3.putF p4 n3
 have G5 : Gr σ4 σ6 := g5.putF p6 n5
 refine mul_i und_MSFB und_strM (aboutL b9 b10 b11) (about_nd b9 b10 b11) ?_
 intro bm σ7 g7 n7 hm
 have G27 : Gr σ2 σ7 := (G3.trans G5).trans g7
 have G : Gr σ σ7 := (g1.trans g2).trans G27
 have k8 := G27.get (g2.get e1)
 have k9 := G27.get e2
 have k10 := g7.get (G5.get p4.same)
 have k11 := g7.get p6.same
 have hF7 := hF.gr G
 refine rd_G (mul_rd hm .nilFunc q) (app_RBm ?_)
 have kof : ∀ (follow : Bool) (ask : Value) (f : IN -> Bool) (τ : H) (F : Bool -> H -> Prop), Gr σ7 τ -> AskOk τ ask f -> (∀ τ', Gr τ τ' -> F (A.ofP cwd s follow f) τ') -> cvalT Tryz.prog (.func (.func 183) ⟨[]⟩ ⟨[.pointer (some ⟨b8, 0, none⟩), .pointer (some ⟨b9, 0, none⟩)]⟩) [.bool follow, ask] kB F τ := by
  intro follow ask f τ F hg ha hF'
  exact cval_i (by kernel_rfl) (s_of (hF7.gr hg) (hg.get k8) (hg.get k9) follow ask f ha fun τ' hg' => app_B (hF' τ' hg'))
 have kkd : ∀ (k : Int) (τ : H) (F : Value -> H -> Prop), Gr σ7 τ -> (∀ bk τ', Gr τ τ' -> τ' bk = some (.cells ⟨[.int .i64 k]⟩ 3 (0, 0)) -> F (.func (.func 186) ⟨[]⟩ ⟨[.pointer (some ⟨bk, 0, none⟩)]⟩) τ') -> cvalT Tryz.prog (.func (.func 185) ⟨[]⟩ ⟨[]⟩) [.int .i64 k] kR F τ := by
  intro k τ F hg hF'
  refine cval_i (by kernel_rfl) (c185 _ ?_)
  unfold g185
  refine al_i ?_; intro b σ1 g1 e1 n1
  exact app_R (hF' b σ1 g1 e1)
 unfold aboutL AT.aboutP
 simp only [lkS]
 cases sEq q ⟨⟨[45, 110]⟩⟩ with
 | true =>
  refine br_t rfl (cval_i (by kernel_rfl) (c188 _ ?_))
  unfold g188
  refine ptr_i (rd_S (rdC_of k9 (by rfl)) (app_B ⟨?_, G⟩))
  rw [<- sEq_eq]; rfl
 | false =>
 cases sEq q ⟨⟨[45, 122]⟩⟩ with
 | true =>
  refine br_t rfl (cval_i (by kernel_rfl) (c189 _ ?_))
  unfold g189
  refine ptr_i (rd_S (rdC_of k9 (by rfl)) (app_B ⟨?_, G⟩))
  rw [<- sEq_eq]; rfl
 | false =>
 cases sEq q ⟨⟨[45, 101]⟩⟩ with
 | true =>
  refine br_t rfl (cval_i (by kernel_rfl) (c190 _ ?_))
  unfold g190
  refine ptr_i (rd_R (rdC_of k10 (by rfl)) (kof true _ (fun _ => true) σ7 _ (Gr.refl _) ask_e fun τ' hg => app_B ⟨rfl, G.trans hg⟩))
 | false =>
 cases sEq q ⟨⟨[45, 102]⟩⟩ with
 | true =>
  refine br_t rfl (cval_i (by kernel_rfl) (c192 _ _ ?_))
  unfold g192
  refine ptr_i (rd_R (rdC_of k10 (by rfl)) (ptr_i (rd_R (rdC_of k11 (by rfl)) (kkd 1 σ7 _ (Gr.refl _) fun bk τ hg hb => and_i (rdC_of (hg.get k10) (by rfl)) (kof true _ (fun n => n.kind == 1) τ _ hg (ask_k 1 hb) fun τ' hg' => app_B ⟨rfl, (G.trans hg).trans hg'⟩)))))
 | false =>
 cases sEq q ⟨⟨[45, 100]⟩⟩ with
 | true =>
  refine br_t rfl (cval_i (by kernel_rfl) (c193 _ _ ?_))
  unfold g193
  refine ptr_i (rd_R (rdC_of k10 (by rfl)) (ptr_i (rd_R (rdC_of k11 (by rfl)) (kkd 2 σ7 _ (Gr.refl _) fun bk τ hg hb => and_i (rdC_of (hg.get k10) (by rfl)) (kof true _ (fun n => n.kind == 2) τ _ hg (ask_k 2 hb) fun τ' hg' => app_B ⟨rfl, (G.trans hg).trans hg'⟩)))))
 | false =>
 have hlink : ∀ (F : Bool -> H -> Prop), (∀ τ', Gr σ7 τ' -> F (A.ofP cwd s false fun n => n.kind == 3) τ') -> cvalT Tryz.prog (.func (.func 187) ⟨[]⟩ ⟨[.pointer (some ⟨b10, 0, none⟩), .pointer (some ⟨b11, 0, none⟩)]⟩) [] kB F σ7 := by
  intro F hF'
  refine cval_i (by kernel_rfl) (c187 _ _ ?_)
  unfold g187
  refine ptr_i (rd_R (rdC_of k10 (by rfl)) (ptr_i (rd_R (rdC_of k11 (by rfl)) (kkd 3 σ7 _ (Gr.refl _) fun bk τ hg hb => and_i (rdC_of (hg.get k10) (by rfl)) (kof false _ (fun n => n.kind == 3) τ _ hg (ask_k 3 hb) fun τ' hg' => app_B (hF' τ' (hg.trans hg')))))))
 cases sEq q ⟨⟨[45, 76]⟩⟩ with
 | true => exact br_t rfl (hlink _ fun τ' hg => ⟨rfl, G.trans hg⟩)
 | false =>
 cases sEq q ⟨⟨[45, 104]⟩⟩ with
 | true => exact br_t rfl (hlink _ fun τ' hg => ⟨rfl, G.trans hg⟩)
 | false =>
 cases sEq q ⟨⟨[45, 120]⟩⟩ with
 | true =>
  refine br_t rfl (cval_i (by kernel_rfl) (c194 _ ?_))
  unfold g194
  refine ptr_i (rd_R (rdC_of k10 (by rfl)) (kof true _ (fun n => xbit n.mode) σ7 _ (Gr.refl _) ask_x fun τ' hg => app_B ⟨rfl, G.trans hg⟩))
 | false =>
 cases sEq q ⟨⟨[45, 115]⟩⟩ with
 | true =>
  refine br_t rfl (cval_i (by kernel_rfl) (c196 _ ?_))
  unfold g196
  refine ptr_i (rd_R (rdC_of k10 (by rfl)) (kof true _ (fun n => n.kind == 1 && !sEq n.data ⟨⟨[]⟩⟩) σ7 _ (Gr.refl _) ask_s fun τ' hg => app_B ⟨rfl, G.trans hg⟩))
 | false => exact br_f rfl ⟨rfl, G⟩
end
end Go.Proofs.YthclifcpjnhmjaaGreatDoor

set_option maxRecDepth 100000
namespace Go.Proofs.YthclifcpjnhmjaaGreatDoor
open Go Go.HL Go.Wk
def joinB (sep : List UInt8) : List (List UInt8) -> List UInt8
 | [] => []
 | [a] => a
 | a :: b :: r => a ++ sep ++ joinB sep (b :: r)
theorem joinB_cons (sep : List UInt8) (a : List UInt8) (l : List (List UInt8)) : joinB sep (a :: l) = a ++ l.flatMap fun x => sep ++ x := by
 induction l generalizing a with
 | nil => simp [joinB]
 | cons b r ih => rw [joinB, ih b, List.flatMap_cons]; simp
def sumS (l : List ByteArray) : Nat := (l.map ByteArray.size).sum
theorem sumS_cons (a : ByteArray) (l : List ByteArray) : sumS (a :: l) = a.size + sumS l := by simp [sumS]
theorem sumS_app (a b : List ByteArray) : sumS (a ++ b) = sumS a + sumS b := by simp [sumS]
theorem sumS_take (l : List ByteArray) (i : Nat) : sumS (l.take i) <= sumS l := by
 have : sumS l = sumS (l.take i) + sumS (l.drop i) := by rw [<- sumS_app, List.take_append_drop]
 omega
theorem flat_le (sep : List UInt8) (hs : sep.length <= 1) (l : List ByteArray) : (l.flatMap fun x => sep ++ x.data.toList).length <= l.length + sumS l := by
 induction l with
 | nil => exact Nat.le_refl _
 | cons a r ih => rw [List.flatMap_cons, List.length_append, List.length_append, sumS_cons, List.length_cons, <- size_list]; omega
theorem joinP_B (sep : ByteArray) : ∀ l : List ByteArray, joinP sep l = ⟨⟨joinB sep.data.toList (l.map fun s => s.data.toList)⟩⟩
 | [] => rfl
 | [a] => rfl
 | a :: b :: r => by
  rw [joinP, joinP_B sep (b :: r)]
  refine bytes_ext ?_
  rw [app_data, app_data]; rfl
attribute [local irreducible] ptrW ifW brW andW rdT alW letJ stW muW biW vaW imW callT cvalT app callW invW callVW sizeT oW nilF oneK loopW rfW funW begW roundK exW idxW Gr Put
section
variable {σ : H}
theorem s_Join {l : List ByteArray} {x : Sl} (hx : RowsAt σ 1 (strRows l) x) (hcap : x.len <= x.cap) (sep : ByteArray) (hsep : sep.size <= 1) (hl : l.length <= 1000000000) (hz : sumS l <= 1000000000) {K : KH} (hK : ∀ σ', Gr σ σ' -> K (.string ⟨⟨joinB sep.data.toList (l.map fun s => s.data.toList)⟩⟩) σ') :
 callW Tryz.prog 23 [.slice x.base x.len x.cap, .string sep] K σ := by
 refine c23 _ _ ?_
 unfold g23
 have hxl : x.len = l.length := by rw [hx.1]; simp [strRows]
 match l, hx, hl, hz, hK, hxl with
 | [], hx, hl, hz, hK, hxl =>
  exact br_t (by rw [hxl]; rfl) (hK σ (Gr.refl _))
 | [a], hx, hl, hz, hK, hxl =>
  refine br_f (by rw [hxl]; rfl) (br_t (by rw [hxl]; rfl) ?_)
  obtain ⟨g, o, a1, a2, a3⟩ := sRow hx (i := 0) (s := a) rfl
  rw [a1]
  refine ptr_i (if_i ⟨by omega, by show _ < ((x.len : Nat) : Int); omega⟩ (rd_S a3 ?_))
  exact hK σ (Gr.refl _)
 | a :: b :: r, hx, hl, hz, hK, hxl =>
  have hne : ¬ (((x.len : Nat) : Int) = 0) := by simp only [hxl, List.length_cons]; omega
  have hne1 : ¬ (((x.len : Nat) : Int) = 1) := by simp only [hxl, List.length_cons]; omega
  refine br_f (by simpa using hne) (br_f (by simpa using hne1) ?_)
  generalize hL : b :: r = rest at hx hl hz hK hxl
  have hrl : 1 <= rest.length := by rw [<- hL]; simp
  simp only [List.length_cons] at hl hxl
  obtain ⟨q, hq, hqs⟩ : ∃ q : Nat, q <= rest.length /\ q = sep.size * rest.length := ⟨_, by rcases (by omega : sep.size = 0 \/ sep.size = 1) with e | e <;> rw [e] <;> omega, rfl⟩
  refine j_i (fun j => j x sep (q : Int) σ) ?_ ?_
  ·refine loop_i ?_
   intro R hR
   have key : ∀ (c i : Nat), c + i = rest.length + 1 -> R x sep ((q + sumS ((a :: rest).take i) : Nat) : Int) x ((x.len : Nat) : Int) (i : Int) σ := by
    intro c
    induction c with
    | zero =>
     intro i hc
     refine hR _ _ _ _ _ _ _ ?_
     refine br_f (by simp only [decide_eq_false_iff_not]; omega) ?_
     have hst := sumS_take (a :: rest) i
     refine al_i ?_; intro b20 σ1 g1 e1 n1
     refine call_i (s_BuGrow e1 (by omega) ?_)
     intro σ2 D2 hB2 S2
     refine app_of rfl ?_
     have k2 : Gr σ σ2 := gr_of fun c o hc => (S2 c o (g1.get hc) (fun e => by rw [e, n1] at hc; cases hc)).1
     have d2 : ∀ c, D2 c -> σ c = none := fun c hd => by
      cases hc : σ c with
      | none => rfl
      | some o => exact absurd hd (S2 c o (g1.get hc) (fun e => by rw [e, n1] at hc; cases hc)).2
     obtain ⟨g, o, a1, a2, a3⟩ := sRow (hx.gr k2) (i := 0) (s := a) rfl
     rw [a1]
     refine ptr_i (if_i ⟨by omega, by show _ < ((x.len : Nat) : Int); omega⟩ (rd_S a3 ?_))
     rw [sumS_cons] at hz
     refine call_i (s_BuWrS hB2 a (by simp; omega) ?_)
     intro σ3 D3 hB3 S3
     refine app_of rfl ?_
     have k3 : Gr σ σ3 := gr_of fun c o hc => (S3 c o (k2.get hc) (fun hd => by rw [d2 c hd] at hc; cases hc)).1
     have d3 : ∀ c, D3 c -> σ c = none := fun c hd => by
      cases hc : σ c with
      | none => rfl
      | some o => exact absurd hd (S3 c o (k2.get hc) (fun hd => by rw [d2 c hd] at hc; cases hc)).2
     refine if_i ⟨bnd_none, bnd_some (by omega) (by show (1 : Int) <= ((x.len : Nat) : Int); omega)⟩ ?_
     have hsub : RowsAt σ 1 (strRows rest) ⟨slBase x.base ((1 : Int).toNat) x.cap 1, x.len - ((1 : Int).toNat), x.cap - ((1 : Int).toNat)⟩ := by
      have := hx.sub hcap (k := 1) (e := (strRows (a :: rest)).length) (by simp [strRows]) (Nat.le_refl _) (x.cap - 1)
      rw [List.take_length] at this
      have e : x.len - 1 = (strRows (a :: rest)).length - 1 := by simp [strRows]; omega
      show RowsAt σ 1 _ ⟨slBase x.base 1 x.cap 1, x.len - 1, x.cap - 1⟩
      rw [e]; exact this
     rw [<- a1]
     generalize hy : (⟨slBase x.base ((1 : Int).toNat) x.cap 1, x.len - ((1 : Int).toNat), x.cap - ((1 : Int).toNat)⟩ : Sl) = y at hsub ⊢
     have hyl : y.len = rest.length := by rw [hsub.1]; simp [strRows]
     have hyn : ((x.len - ((1 : Int).toNat) : Nat) : Int) = ((rest.length : Nat) : Int) := by show ((x.len - 1 : Nat) : Int) = _; omega
     rw [hyn]
     refine loop_i ?_
     intro R2 hR2
     have key2 : ∀ (c i : Nat) (τ : H) (D : Nat -> Prop), c + i = rest.length -> BuAt τ b20 (a.data.toList ++ (rest.take i).flatMap fun s => sep.data.toList ++ s.data.toList) D -> Gr σ τ -> (∀ c, D c -> σ c = none) -> R2 sep (some ⟨b20, 0, none⟩) y ((rest.length : Nat) : Int) (i : Int) τ := by
      have hsl : sep.data.toList.length <= 1 := by rw [<- size_list]; exact hsep
      have hal : a.data.toList.length = a.size := (size_list a).symm
      intro c
      induction c with
      | zero =>
       intro i τ D hc hB hg hD
       refine hR2 _ _ _ _ _ _ ?_
       refine br_f (by simp only [decide_eq_false_iff_not]; omega) ?_
       rw [List.take_of_length_le (by omega)] at hB
       have hfl := flat_le sep.data.toList hsl rest
       refine call_i (s_BuStr hB (by rw [List.length_append, hal]; omega) ?_)
       intro σ' hkeep
       refine app_S ?_
       have := hK σ' (gr_of fun c o hc => hkeep c o (hg.get hc) (fun hd => by rw [hD c hd] at hc; cases hc))
       rw [List.map_cons, joinB_cons, List.flatMap_map] at this
       exact this
      | succ c ih =>
       intro i τ D hc hB hg hD
       obtain ⟨s, hs⟩ : ∃ s, rest[i]? = some s := ⟨_, List.getElem?_eq_getElem (by omega)⟩
       obtain ⟨g, o, z1, z2, z3⟩ := sRow (hsub.gr hg) hs
       refine hR2 _ _ _ _ _ _ ?_
       refine br_t (by simp only [decide_eq_true_eq]; omega) ?_
       rw [z1]
       have hfl := flat_le sep.data.toList hsl (rest.take i)
       have hst2 := sumS_take rest (i + 1)
       have htk : rest.take (i + 1) = rest.take i ++ [s] := by rw [List.take_add_one, hs]; rfl
       rw [htk, sumS_app] at hst2
       have hs1 : sumS [s] = s.size := by simp [sumS]
       have hti : (rest.take i).length <= rest.length := by rw [List.length_take]; omega
       refine ptr_i (if_i ⟨by omega, by show _ < ((y.len : Nat) : Int); omega⟩ (rd_S (by rw [Int.toNat_natCast]; exact z3) ?_))
       refine call_i (s_BuWrS hB sep (by rw [List.length_append, hal]; omega) ?_)
       intro τ2 D2 hB2 T2
       refine app_of rfl ?_
       refine call_i (s_BuWrS hB2 s (by rw [List.length_append, List.length_append, hal]; omega) ?_)
       intro τ3 D3 hB3 T3
       refine app_of rfl ?_
       rw [wrapS (i := i) (by omega)]
       have h2 : ∀ c o, σ c = some o -> τ2 c = some o /\ ¬ D2 c := fun c o hc => T2 c o (hg.get hc) (fun hd => by rw [hD c hd] at hc; cases hc)
       have h3 : ∀ c o, σ c = some o -> τ3 c = some o /\ ¬ D3 c := fun c o hc => T3 c o (h2 c o hc).1 (h2 c o hc).2
       refine ih (i + 1) τ3 D3 (by omega) ?_ (gr_of fun c o hc => (h3 c o hc).1) (fun c hd => ?_)
       ·rw [htk, List.flatMap_append]
        simp only [List.flatMap_cons, List.flatMap_nil, List.append_nil]
        rw [<- List.append_assoc, <- List.append_assoc]
        exact hB3
       ·cases hc : σ c with
        | none => rfl
        | some o => exact absurd hd (h3 c o hc).2
     exact key2 rest.length 0 σ3 D3 (by omega) (by simpa using hB3) k3 d3
    | succ c ih =>
     intro i hc
     obtain ⟨s, hs⟩ : ∃ s, (a :: rest)[i]? = some s := ⟨_, List.getElem?_eq_getElem (by simp only [List.length_cons]; omega)⟩
     obtain ⟨g, o, z1, z2, z3⟩ := sRow hx hs
     have hst := sumS_take (a :: rest) (i + 1)
     have htk : (a :: rest).take (i + 1) = (a :: rest).take i ++ [s] := by rw [List.take_add_one, hs]; rfl
     have hs1 : sumS [s] = s.size := by simp [sumS]
     rw [htk, sumS_app, hs1] at hst
     refine hR _ _ _ _ _ _ _ ?_
     refine br_t (by simp only [decide_eq_true_eq]; omega) ?_
     rw [z1]
     refine ptr_i (if_i ⟨by omega, by show _ < ((x.len : Nat) : Int); omega⟩ (rd_S (by rw [Int.toNat_natCast]; exact z3) ?_))
     refine br_f (by
      simp only [decide_eq_false_iff_not]
      rw [wrap_id (by omega) (by omega)]; omega) ?_
     rw [wrapS (i := i) (by omega)]
     rw [wrap_id (x := ((q + sumS ((a :: rest).take i) : Nat) : Int) + ((s.size : Nat) : Int)) (by omega) (by omega)]
     have := ih (i + 1) (by omega)
     rw [htk, sumS_app, hs1] at this
     have e : ((q + sumS ((a :: rest).take i) : Nat) : Int) + ((s.size : Nat) : Int) = ((q + (sumS ((a :: rest).take i) + s.size) : Nat) : Int) := by omega
     rw [e]; exact this
   have := key (rest.length + 1) 0 (by omega)
   simpa [sumS] using this
  ·intro j hj
   rcases (by omega : sep.size = 0 \/ sep.size = 1) with e | hsep
   ·rw [e, Nat.zero_mul] at hqs
    subst hqs
    refine br_f (by rw [e]; rfl) hj
   rw [hsep, Nat.one_mul] at hqs
   rw [hqs] at hj
   refine br_t (by rw [hsep]; rfl) ?_
   have e1 : IntKind.i64.wrap (((x.len : Nat) : Int) - 1) = ((rest.length : Nat) : Int) := by rw [wrap_id (by omega) (by omega)]; omega
   rw [e1, hsep]
   refine if_i (by omega) (br_f ?_ ?_)
   ·simp only [decide_eq_false_iff_not]
    have h1 : (2 : Int) <= (9223372036854775807 : Int).tdiv ((rest.length : Nat) : Int) := by
     rw [Int.tdiv_eq_ediv_of_nonneg (by omega)]
     exact Int.le_ediv_of_mul_le (by omega) (by omega)
    have h2 : (9223372036854775807 : Int).tdiv ((rest.length : Nat) : Int) <= 9223372036854775807 := by
     rw [Int.tdiv_eq_ediv_of_nonneg (by omega)]
     exact Int.ediv_le_self _ (by omega)
    rw [wrap_id (by omega) (by omega)]
    omega
   ·have e2 : IntKind.i64.wrap (0 + IntKind.i64.wrap (((1 : Nat) : Int) * ((rest.length : Nat) : Int))) = ((rest.length : Nat) : Int) := by
     rw [wrap_id (x := ((1 : Nat) : Int) * _) (by omega) (by omega), wrap_id (by omega) (by omega)]; omega
    rw [e2]; exact hj
end
end Go.Proofs.YthclifcpjnhmjaaGreatDoor

set_option maxRecDepth 100000
namespace Go.Proofs.YthclifcpjnhmjaaGreatDoor
open Go Go.HL Go.Wk
attribute [local irreducible] ptrW ifW brW andW rdT alW letJ stW muW biW vaW imW callT cvalT app callW invW callVW sizeT oW nilF oneK loopW rfW funW begW roundK exW idxW Gr Put
section
variable {σ : H} {bf : Nat} {A : AT} {B : Nat -> Prop}
theorem so_rest (A : AT) (cwd a b : ByteArray) (r : List ByteArray) (h : ∀ c, r = [c] -> (betweenP a b c).2.1 = false) : A.soP cwd (a :: b :: r) = if decide ((a :: b :: r).length <= 4) && sEq a ⟨⟨[33]⟩⟩ then (!(A.soP cwd (b :: r)).1, (A.soP cwd (b :: r)).2) else if r.isEmpty then A.aboutP cwd a b else (false, false) := by
 cases r with
 | nil =>
  rw [soP_two, show decide ((a :: b :: ([] : List ByteArray)).length <= 4) = true from rfl, Bool.true_and]; rfl
 | cons c r =>
  rw [soP_many]
  have e : Nat.ble r.length 1 = decide ((a :: b :: c :: r).length <= 4) := by
   rw [Bool.eq_iff_iff, Nat.ble_eq, decide_eq_true_eq]; simp only [List.length_cons]; omega
  rw [e]
  cases r with
  | nil =>
   rw [h c rfl]; rfl
  | cons d r => rfl
theorem s_so (nm inn cwd : ByteArray) (x : Sl) : ∀ (l : List ByteArray) (y : Sl) {σ : H}, FsAt σ bf A B -> RowsAt σ 1 (strRows l) y -> y.len <= y.cap -> (∀ a ∈ l, a.size <= 1000000000) -> l.length <= 1000 -> ∀ {K : KH}, K (.tuple ⟨[.bool (A.soP cwd l).1, .bool (A.soP cwd l).2]⟩) σ ->
 callW Tryz.prog 99 [.agg ⟨[.string nm, .slice x.base x.len x.cap, .string inn, .string cwd, .pointer (some ⟨bf, 0, none⟩)]⟩, .slice y.base y.len y.cap] K σ := by
 intro l
 induction l with
 | nil =>
  intro y σ hF hy hc hz hl K hK
  refine pure_i _ hK (c99 _ _ _ _ _ _ ?_)
  clear hK
  unfold g99
  have hyl := sLen hy
  refine al_i ?_; intro b7 σ1 g1 e1 n1
  exact j_d (br_t (by rw [hyl]; rfl) ⟨rfl, g1⟩)
 | cons a t ih =>
  intro y σ hF hy hc hz hl K hK
  refine pure_i _ hK (c99 _ _ _ _ _ _ ?_)
  clear hK
  unfold g99
  have hyl := sLen hy
  refine al_i ?_; intro b7 σ1 g1 e1 n1
  obtain ⟨g, o, a1, a2, a3⟩ := sRow (hy.gr g1) (i := 0) (s := a) rfl
  cases t with
  | nil =>
   refine j_d (br_f (by rw [hyl]; rfl) (br_t (by rw [hyl]; rfl) ?_))
   rw [a1]
   refine ptr_i (if_i ⟨by decide, by omega⟩ (rd_S a3 ⟨?_, g1⟩))
   rw [<- sEq_eq]; rfl
  | cons b r =>
   have hyl2 : y.len = r.length + 2 := hyl
   obtain ⟨gb, ob, b1, b2, b3⟩ := sRow (hy.gr g1) (i := 1) (s := b) rfl
   have hge : g = gb /\ o = ob := by rw [a1] at b1; cases b1; exact ⟨rfl, rfl⟩
   obtain ⟨rfl, rfl⟩ := hge
   simp only [List.length_cons] at hl
   refine j_i (fun j => (∀ c, r = [c] -> (betweenP a b c).2.1 = false) -> j y (some ⟨b7, 0, none⟩) σ1) ?_ ?_
   ·intro h
    rw [so_rest A cwd a b r h]
    refine j_i (fun j => ∀ cb : Bool, cb = (decide ((a :: b :: r).length <= 4) && sEq a ⟨⟨[33]⟩⟩) -> j y (some ⟨b7, 0, none⟩) cb σ1) ?_ ?_
    ·intro cb hcb
     rw [<- hcb]
     cases cb with
     | true =>
      refine br_t rfl (ptr_i (rd_G (rdA_of' e1 (by rfl)) ?_))
      (refine app_of rfl ?_; try dsimp only)
      refine if_i ⟨bnd_none, bnd_some (by decide) (by omega)⟩ ?_
      refine call_i (ih ⟨slBase y.base 1 y.cap 1, y.len - 1, y.cap - 1⟩ (hF.gr g1) (sTail (hy.gr g1) hc) (by show y.len - 1 <= y.cap - 1; omega) (fun q hq => hz q (List.mem_cons_of_mem _ hq)) (by simp only [List.length_cons]; omega) ?_)
      (refine app_of rfl ?_; try dsimp only)
      exact ⟨rfl, g1⟩
     | false =>
      refine br_f rfl ?_
      cases r with
      | nil =>
       refine br_t (by rw [hyl2]; rfl) (ptr_i (rd_G (rdA_of' e1 (by rfl)) ?_))
       (refine app_of rfl ?_; try dsimp only)
       rw [a1]
       refine ptr_i (if_i ⟨by decide, by omega⟩ (rd_S a3 (ptr_i (if_i ⟨by decide, by omega⟩ (rd_S b3 ?_)))))
       refine call_i (s_about (hF.gr g1) nm inn cwd a b x ?_)
       (refine app_of rfl ?_; try dsimp only)
       exact ⟨rfl, g1⟩
      | cons c r => exact br_f (by rw [hyl2]; simp only [List.length_cons, beq_eq_false_iff_ne]; omega) ⟨rfl, g1⟩
    ·intro j hj
     by_cases h4 : (a :: b :: r).length <= 4
     ·refine br_t (by rw [hyl2, decide_eq_true_eq]; simp only [List.length_cons] at h4; omega) ?_
      rw [a1]
      refine ptr_i (if_i ⟨by decide, by omega⟩ (rd_S a3 ?_))
      exact hj _ (by rw [decide_eq_true h4, Bool.true_and, sEq_eq])
     ·exact br_f (by rw [hyl2, decide_eq_false_iff_not]; simp only [List.length_cons] at h4; omega) (hj _ (by rw [decide_eq_false h4]; rfl))
   ·intro j hj
    refine br_f (by rw [hyl2]; simp only [beq_eq_false_iff_ne]; omega) (br_f (by rw [hyl2]; simp only [beq_eq_false_iff_ne]; omega) ?_)
    by_cases h3 : r.length = 1
    ·obtain ⟨c, rfl⟩ := List.length_eq_one_iff.1 h3
     obtain ⟨gc, oc, c1, c2, c3⟩ := sRow (hy.gr g1) (i := 2) (s := c) rfl
     have hge : g = gc /\ o = oc := by rw [a1] at c1; cases c1; exact ⟨rfl, rfl⟩
     obtain ⟨rfl, rfl⟩ := hge
     refine br_t (by rw [hyl2]; rfl) ?_
     rw [a1]
     refine ptr_i (if_i ⟨by decide, by omega⟩ (rd_S a3 (ptr_i (if_i ⟨by decide, by omega⟩ (rd_S b3 (ptr_i (if_i ⟨by decide, by omega⟩ (rd_S c3 ?_))))))))
     refine call_i (s_between a b c (hz a (by simp)) (hz c (by simp)) ?_)
     (refine app_of rfl ?_; try dsimp only)
     cases hs : (betweenP a b c).2.1 with
     | true =>
      refine br_t rfl ⟨?_, g1⟩
      rw [soP_many, hs]; rfl
     | false => exact br_f rfl (hj fun c' hc' => by cases hc'; exact hs)
    ·refine br_f (by rw [hyl2]; simp only [beq_eq_false_iff_ne]; omega) (hj fun c hc' => ?_)
     rw [hc'] at h3; exact absurd rfl h3
theorem testP_def (A : AT) (cwd nm : ByteArray) (args : List ByteArray) : A.testP cwd nm args = if sEq nm ⟨⟨[91]⟩⟩ then (match args.getLast? with | none => usageP nm | some z => if sEq z ⟨⟨[93]⟩⟩ then doneOf nm (A.soP cwd args.dropLast) else usageP nm) else doneOf nm (A.soP cwd args) := rfl
theorem s_test (hF : FsAt σ bf A B) (nm inn cwd : ByteArray) {x : Sl} {args : List ByteArray} (hx : RowsAt σ 1 (strRows args) x) (hc : x.len <= x.cap) (hn : nm.size <= 1000) (ha : ∀ a ∈ args, a.size <= 1000) (hl : args.length <= 20) {K : KH} (hK : K (.agg ⟨dnV (A.testP cwd nm args)⟩) σ) :
 callW Tryz.prog 50 [.agg ⟨[.string nm, .slice x.base x.len x.cap, .string inn, .string cwd, .pointer (some ⟨bf, 0, none⟩)]⟩] K σ := by
 refine pure_i _ hK (c50 _ _ _ _ _ ?_)
 clear hK
 unfold g50
 rw [testP_def]
 have hxl := sLen hx
 refine al_i ?_; intro b6 σ1 g1 e1 n1
 refine al_i ?_; intro b7 σ2 g2 e2 n2
 have k6 := g2.get e1
 have G2 := g1.trans g2
 have f7 : σ b7 = none := none_of g1 n2
 generalize hR : (if sEq nm ⟨⟨[91]⟩⟩ then (match args.getLast? with | none => usageP nm | some z => if sEq z ⟨⟨[93]⟩⟩ then doneOf nm (A.soP cwd args.dropLast) else usageP nm) else doneOf nm (A.soP cwd args)) = R
 refine rd_Y (y := x) (rdC_of k6 (by rfl)) ?_
 refine j_i (fun j => ∀ (l : List ByteArray) (y : Sl), RowsAt σ2 1 (strRows l) y -> y.len <= y.cap -> (∀ a ∈ l, a.size <= 1000) -> l.length <= 20 -> R = doneOf nm (A.soP cwd l) -> j (some ⟨b6, 0, none⟩) (some ⟨b7, 0, none⟩) y σ2) ?_ ?_
 ·intro l y hy hyc hyz hyl hRl
  refine ptr_i (rd_G (rdA_of' k6 (by rfl)) ?_)
  (refine app_of rfl ?_; try dsimp only)
  refine call_i (s_so nm inn cwd x l y (hF.gr G2) hy hyc (fun a h => by have := hyz a h; omega) (by omega) ?_)
  (refine app_of rfl ?_; try dsimp only)
  rw [hRl]
  cases h2 : (A.soP cwd l).2 with
  | false =>
   refine br_t rfl (ptr_i (rd_G (rdA_of' k6 (by rfl)) ?_))
   (refine app_of rfl ?_; try dsimp only)
   refine call_i (s_usage nm inn cwd x _ (by omega) ?_)
   unfold dnV
   (refine app_of rfl ?_; try dsimp only)
   refine st_i2 e2 sz_Done (by rfl) (by rfl) ?_; intro σ3 p3
   refine ptr_i (rd_G (rdA_of' p3.same (by rfl)) ?_)
   (refine app_of rfl ?_; try dsimp only)
   exact ⟨by unfold doneOf; rw [h2]; rfl, G2.putF p3 f7⟩
  | true =>
   refine br_f rfl ?_
   cases h1 : (A.soP cwd l).1 with
   | true =>
    refine br_t rfl (ptr_i (rd_G (rdA_of' k6 (by rfl)) ?_))
    (refine app_of rfl ?_; try dsimp only)
    refine call_i (s_yes nm inn cwd x _ ?_)
    unfold dnV
    (refine app_of rfl ?_; try dsimp only)
    refine st_i2 e2 sz_Done (by rfl) (by rfl) ?_; intro σ3 p3
    refine ptr_i (rd_G (rdA_of' p3.same (by rfl)) ?_)
    (refine app_of rfl ?_; try dsimp only)
    exact ⟨by unfold doneOf; rw [h2, h1]; rfl, G2.putF p3 f7⟩
   | false =>
    refine br_f rfl (ptr_i (rd_G (rdA_of' k6 (by rfl)) ?_))
    (refine app_of rfl ?_; try dsimp only)
    refine call_i (s_no nm inn cwd x _ ?_)
    unfold dnV
    (refine app_of rfl ?_; try dsimp only)
    refine st_i2 e2 sz_Done (by rfl) (by rfl) ?_; intro σ3 p3
    refine ptr_i (rd_G (rdA_of' p3.same (by rfl)) ?_)
    (refine app_of rfl ?_; try dsimp only)
    exact ⟨by unfold doneOf; rw [h2, h1]; rfl, G2.putF p3 f7⟩
 ·intro j hj
  refine rd_S (rdC_of k6 (by rfl)) ?_
  rw [<- sEq_eq]
  cases hb : sEq nm ⟨⟨[91]⟩⟩ with
  | false =>
   rw [hb, if_neg (by simp)] at hR
   exact br_f rfl (hj args x (hx.gr G2) hc ha hl hR.symm)
  | true =>
   rw [hb, if_pos rfl] at hR
   refine br_t rfl ?_
   refine j_i (fun j => ∀ cb : Bool, (cb = true -> R = usageP nm) -> (cb = false -> 1 <= args.length /\ R = doneOf nm (A.soP cwd args.dropLast)) -> j (some ⟨b6, 0, none⟩) (some ⟨b7, 0, none⟩) x cb σ2) ?_ ?_
   ·intro cb hu hd
    cases cb with
    | true =>
     refine br_t rfl (ptr_i (rd_G (rdA_of' k6 (by rfl)) ?_))
     (refine app_of rfl ?_; try dsimp only)
     refine call_i (s_usage nm inn cwd x _ (by omega) ?_)
     unfold dnV
     (refine app_of rfl ?_; try dsimp only)
     refine st_i2 e2 sz_Done (by rfl) (by rfl) ?_; intro σ3 p3
     refine ptr_i (rd_G (rdA_of' p3.same (by rfl)) ?_)
     (refine app_of rfl ?_; try dsimp only)
     exact ⟨by rw [hu rfl], G2.putF p3 f7⟩
    | false =>
     obtain ⟨h1, h2⟩ := hd rfl
     refine br_f rfl ?_
     rw [wrap_id (by omega) (by omega), show (((x.len : Nat) : Int) - 1).toNat = x.len - 1 by omega]
     refine if_i ⟨bnd_some (by omega) (by omega), bnd_none⟩ ?_
     exact hj args.dropLast ⟨slBase x.base 0 x.cap 1, x.len - 1 - 0, x.cap - 0⟩ (sInit (hx.gr G2) hc) (by show x.len - 1 - 0 <= x.cap - 0; omega) (fun a h => ha a (List.dropLast_subset _ h)) (by rw [List.length_dropLast]; omega) h2
   ·intro j hj
    cases hlast : args.getLast? with
    | none =>
     rw [hlast] at hR
     have : args = [] := List.getLast?_eq_none_iff.1 hlast
     subst this
     exact br_t (by rw [hxl]; rfl) (hj true (fun _ => hR.symm) (fun h => by cases h))
    | some z =>
     rw [hlast] at hR
     have hne : args ≠ [] := by intro e; rw [e] at hlast; cases hlast
     have hpos := List.length_pos_iff.2 hne
     have hz : args[args.length - 1]? = some z := by rw [<- List.getLast?_eq_getElem?]; exact hlast
     obtain ⟨g, o, a1, a2, a3⟩ := sRow (hx.gr G2) hz
     refine br_f (by simp only [beq_eq_false_iff_ne]; omega) ?_
     rw [a1, wrap_id (by omega) (by omega)]
     refine ptr_i (if_i ⟨by omega, by omega⟩ (rd_S (by rw [show (((x.len : Nat) : Int) - 1).toNat = args.length - 1 by omega]; exact a3) ?_))
     rw [<- sEq_eq]
     cases hzz : sEq z ⟨⟨[93]⟩⟩ with
     | true =>
      simp only [hzz, if_true] at hR
      exact hj false (fun h => by cases h) (fun _ => ⟨hpos, hR.symm⟩)
     | false =>
      simp only [hzz] at hR
      exact hj true (fun _ => hR.symm) (fun h => by cases h)
theorem s_echo (nm inn cwd : ByteArray) (p : Option Addr) {x : Sl} {args : List ByteArray} (hx : RowsAt σ 1 (strRows args) x) (hc : x.len <= x.cap) (ha : ∀ a ∈ args, a.size <= 1000) (hl : args.length <= 20) {K : KH} (hK : K (.agg ⟨dnV (echoP args)⟩) σ) :
 callW Tryz.prog 48 [.agg ⟨[.string nm, .slice x.base x.len x.cap, .string inn, .string cwd, .pointer p]⟩] K σ := by
 refine pure_i _ hK (c48 _ _ _ _ _ ?_)
 clear hK
 unfold g48
 have hxl := sLen hx
 refine al_i ?_; intro b6 σ1 g1 e1 n1
 refine al_i ?_; intro b7 σ2 g2 e2 n2
 have G2 := g1.trans g2
 refine rd_Y (y := x) (rdC_of (g2.get e1) (by rfl)) ?_
 have hsum : ∀ l : List ByteArray, (∀ a ∈ l, a.size <= 1000) -> sumS l <= 1000 * l.length := by
  intro l
  induction l with
  | nil => intro _; exact Nat.le_refl _
  | cons a r ih => intro h; rw [sumS_cons, List.length_cons]; have := h a (List.mem_cons_self ..); have := ih fun b hb => h b (List.mem_cons_of_mem _ hb); omega
 refine j_i (fun j => ∀ (l : List ByteArray) (y : Sl) (e : ByteArray), RowsAt σ2 1 (strRows l) y -> y.len <= y.cap -> (∀ a ∈ l, a.size <= 1000) -> l.length <= 20 -> e.size <= 1 -> echoP args = ⟨joinP ⟨⟨[32]⟩⟩ l ++ e, ⟨⟨[]⟩⟩, 0⟩ -> j (some ⟨b7, 0, none⟩) y e σ2) ?_ ?_
 ·intro l y e hy hyc hyz hyl he hE
  have hs := hsum l hyz
  refine call_i (s_Join hy hyc ⟨⟨[32]⟩⟩ (by decide) (by omega) (by omega) ?_)
  intro σ3 g3
  rw [<- joinP_B]
  refine app_S (if_i ?_ ?_)
  ·rw [joinP_B]
   show ((joinB _ _ : List UInt8)).length + _ <= _
   have hjb : ∀ l : List ByteArray, (joinB [32] (l.map fun s => s.data.toList)).length <= l.length + sumS l := by
    intro l
    cases l with
    | nil => exact Nat.le_refl _
    | cons a r =>
     rw [List.map_cons, joinB_cons, List.flatMap_map, List.length_append, sumS_cons, List.length_cons]
     have := flat_le [32] (by decide) r
     rw [<- size_list]; omega
   have := hjb l
   show (joinB [32] (l.map fun s => s.data.toList)).length + e.size <= _
   omega
  ·refine st_i2 (g3.get e2) sz_Done (by rfl) (by rfl) ?_; intro σ4 p4
   refine ptr_i (rd_G (rdA_of' p4.same (by rfl)) ?_)
   (refine app_of rfl ?_; try dsimp only)
   exact ⟨by rw [hE]; rfl, (G2.trans g3).putF p4 (none_of g1 n2)⟩
 ·intro j hj
  refine j_d ?_
  cases args with
  | nil => exact br_f (by rw [hxl]; rfl) (br_f rfl (hj [] x ⟨⟨[10]⟩⟩ (hx.gr G2) hc (fun a h => by cases h) (by decide) (by decide) rfl))
  | cons a r =>
   obtain ⟨g, o, a1, a2, a3⟩ := sRow (hx.gr G2) (i := 0) (s := a) rfl
   have hE : echoP (a :: r) = if sEq a ⟨⟨[45, 110]⟩⟩ then ⟨joinP ⟨⟨[32]⟩⟩ r, ⟨⟨[]⟩⟩, 0⟩ else ⟨joinP ⟨⟨[32]⟩⟩ (a :: r) ++ ⟨⟨[10]⟩⟩, ⟨⟨[]⟩⟩, 0⟩ := rfl
   refine br_t (by rw [decide_eq_true_eq]; omega) ?_
   rw [a1]
   refine ptr_i (if_i ⟨by decide, by omega⟩ (rd_S a3 ?_))
   rw [<- sEq_eq]
   cases hn : sEq a ⟨⟨[45, 110]⟩⟩ with
   | true =>
    rw [hn, if_pos rfl] at hE
    refine br_t rfl (if_i ⟨bnd_none, bnd_some (by decide) (by omega)⟩ ?_)
    refine hj r ⟨slBase x.base 1 x.cap 1, x.len - 1, x.cap - 1⟩ ⟨⟨[]⟩⟩ (sTail (hx.gr G2) hc) (by show x.len - 1 <= x.cap - 1; omega) (fun b h => ha b (List.mem_cons_of_mem _ h)) (by simp only [List.length_cons] at hl; omega) (by decide) ?_
    rw [hE, app_nil]
   | false =>
    rw [hn, if_neg (by simp)] at hE
    exact br_f rfl (hj (a :: r) x ⟨⟨[10]⟩⟩ (hx.gr G2) hc ha hl (by decide) hE)
end
section
variable {σ : H} {bf : Nat} {A : AT} {B : Nat -> Prop}
theorem bareL_len (l : List UInt8) : (bareL l).length <= l.length := by
 unfold bareL
 rw [List.length_reverse]
 have := (List.dropWhile_sublist (· == 47) (l := l.reverse)).length_le
 rw [List.length_reverse] at this; exact this
theorem trimEnd_len (l e : List UInt8) : (trimEnd l e).length <= l.length := by
 unfold trimEnd
 split
 ·rw [List.length_take]; omega
 ·exact Nat.le_refl _
theorem wrL (c : UInt8) (l : List UInt8) (h : l.length <= 1000000000) : IntKind.i64.wrap ((((lastN c l : Nat) : Int) - 1) + 1) = ((lastN c l : Nat) : Int) := by
 have := lastN_le c l
 rw [wrap_id (by omega) (by omega)]; omega
def tailB (bh : List UInt8) : Option ByteArray -> List UInt8
 | none => bh
 | some x => if bh == x.data.toList then bh else trimEnd bh x.data.toList
def difB (bh : List UInt8) : Option ByteArray -> Bool
 | none => false
 | some x => !(bh == x.data.toList)
def baseGo (l : List UInt8) (e : Option ByteArray) : Dn :=
 if (bareL l).isEmpty && !l.isEmpty then ⟨⟨⟨[47, 10]⟩⟩, ⟨⟨[]⟩⟩, 0⟩
 else ⟨⟨⟨tailB (behind (bareL l)) e⟩⟩ ++ ⟨⟨[10]⟩⟩, ⟨⟨[]⟩⟩, 0⟩
theorem sEq_nil' (a : ByteArray) : sEq a ⟨⟨[]⟩⟩ = a.data.toList.isEmpty := by
 unfold sEq
 cases a.data.toList <;> rfl
theorem base1 (nm a : ByteArray) : basenameP nm [a] = baseGo a.data.toList none := by
 unfold basenameP baseGo tailB
 simp only [sEq_nil']
theorem base2 (nm a e : ByteArray) : basenameP nm [a, e] = baseGo a.data.toList (some e) := by
 unfold basenameP baseGo tailB
 simp only [sEq_nil']
theorem s_base (nm inn cwd : ByteArray) (p : Option Addr) {x : Sl} {args : List ByteArray} (hx : RowsAt σ 1 (strRows args) x) (hn : nm.size <= 1000) (ha : ∀ a ∈ args, a.size <= 1000) {K : KH} (hK : K (.agg ⟨dnV (basenameP nm args)⟩) σ) :
 callW Tryz.prog 51 [.agg ⟨[.string nm, .slice x.base x.len x.cap, .string inn, .string cwd, .pointer p]⟩] K σ := by
 refine pure_i _ hK (c51 _ _ _ _ _ ?_)
 clear hK
 unfold g51
 have hxl := sLen hx
 refine al_i ?_; intro b6 σ1 g1 e1 n1
 refine al_i ?_; intro b7 σ2 g2 e2 n2
 have k6 := g2.get e1
 have G2 := g1.trans g2
 have f7 : σ b7 = none := none_of g1 n2
 have hx2 := hx.gr G2
 refine j_i (fun j => ∀ cb : Bool, cb = (!(args.length == 1) && !(args.length == 2)) -> j (some ⟨b6, 0, none⟩) (some ⟨b7, 0, none⟩) cb σ2) ?_ ?_
 case refine_2 =>
  intro j hj
  refine rd_Y (y := x) (rdC_of k6 (by rfl)) ?_
  by_cases h1 : args.length = 1
  ·exact br_f (by rw [hxl, h1]; rfl) (hj _ (by rw [h1]; rfl))
  ·refine br_t (by rw [bne_iff_ne]; omega) (rd_Y (y := x) (rdC_of k6 (by rfl)) (hj _ ?_))
   have e1 : (args.length == 1) = false := by simpa using h1
   rw [e1, hxl]
   by_cases h2 : args.length = 2
   ·rw [h2]; rfl
   ·have e2 : (args.length == 2) = false := by simpa using h2
    rw [e2]
    show (((args.length : Nat) : Int) != 2) = true
    rw [bne_iff_ne]; omega
 intro cb hcb
 cases cb with
 | true =>
  have hu : basenameP nm args = usageP nm := by
   match args, hcb with
   | [], _ => rfl
   | [a], h => cases h
   | [a, e], h => cases h
   | a :: b :: c :: r, _ => rfl
  refine br_t rfl (ptr_i (rd_G (rdA_of' k6 (by rfl)) ?_))
  (refine app_of rfl ?_; try dsimp only)
  refine call_i (s_usage nm inn cwd x _ (by omega) ?_)
  unfold dnV
  (refine app_of rfl ?_; try dsimp only)
  refine st_i2 e2 sz_Done (by rfl) (by rfl) ?_; intro σ3 p3
  refine ptr_i (rd_G (rdA_of' p3.same (by rfl)) ?_)
  (refine app_of rfl ?_; try dsimp only)
  exact ⟨by rw [hu], G2.putF p3 f7⟩
 | false =>
  obtain ⟨a, r, rfl⟩ : ∃ a r, args = a :: r := by
   cases args with
   | nil => cases hcb
   | cons a r => exact ⟨a, r, rfl⟩
  have haz := ha a (List.mem_cons_self ..)
  obtain ⟨g, o, a1, a2, a3⟩ := sRow hx2 (i := 0) (s := a) rfl
  obtain ⟨e, he, hre⟩ : ∃ e : Option ByteArray, basenameP nm (a :: r) = baseGo a.data.toList e /\ ((e = none /\ r = []) \/ ∃ z, e = some z /\ r = [z]) := by
   match r, hcb with
   | [], _ => exact ⟨none, base1 nm a, .inl ⟨rfl, rfl⟩⟩
   | [z], _ => exact ⟨some z, base2 nm a z, .inr ⟨z, rfl, rfl⟩⟩
   | _ :: _ :: _, h => simp at h
  rw [he]
  have hal : a.data.toList.length <= 1000 := by rw [<- size_list]; exact haz
  have hbl := bareL_len a.data.toList
  refine br_f rfl (ptr_i (rd_Y (y := x) (rdC_of k6 (by rfl)) ?_))
  rw [a1]
  refine ptr_i (if_i ⟨by decide, by omega⟩ (rd_S a3 ?_))
  refine call_i (s_bare a.data.toList (by omega) (app_S ?_))
  refine j_i (fun j => ∀ cb : Bool, cb = ((bareL a.data.toList).isEmpty && !a.data.toList.isEmpty) -> j (some ⟨b6, 0, none⟩) (some ⟨b7, 0, none⟩) ⟨⟨bareL a.data.toList⟩⟩ cb σ2) ?_ ?_
  case refine_2 =>
   intro j hj
   rw [strEq_nil]
   cases hb : (bareL a.data.toList).isEmpty with
   | false => exact br_f rfl (hj _ (by rw [hb]; rfl))
   | true =>
    refine br_t rfl (ptr_i (rd_Y (y := x) (rdC_of k6 (by rfl)) ?_))
    rw [a1]
    refine ptr_i (if_i ⟨by decide, by omega⟩ (rd_S a3 ?_))
    rw [<- sEq_eq, sEq_nil']
    exact hj _ (by rw [hb]; rfl)
  intro cb hcb2
  have hgo : baseGo a.data.toList e = if cb then ⟨⟨⟨[47, 10]⟩⟩, ⟨⟨[]⟩⟩, 0⟩ else ⟨⟨⟨tailB (behind (bareL a.data.toList)) e⟩⟩ ++ ⟨⟨[10]⟩⟩, ⟨⟨[]⟩⟩, 0⟩ := by rw [hcb2]; rfl
  rw [hgo]
  cases cb with
  | true =>
   refine br_t rfl (st_i2 e2 sz_Done (by rfl) (by rfl) ?_); intro σ3 p3
   refine ptr_i (rd_G (rdA_of' p3.same (by rfl)) ?_)
   (refine app_of rfl ?_; try dsimp only)
   exact ⟨rfl, G2.putF p3 f7⟩
  | false =>
   have hll := lastN_le 47 (bareL a.data.toList)
   refine br_f rfl (call_i (x_LastIB 47 (bareL a.data.toList) (by omega) (app_I ?_)))
   rw [wrL 47 _ (by omega), Int.toNat_natCast, ext_drop, (upto_last (bareL a.data.toList)).2]
   refine if_i ⟨bnd_none, bnd_some (by omega) (by rw [bsz]; omega)⟩ ?_
   have hbh : (behind (bareL a.data.toList)).length <= 1000 := by
    rw [<- (upto_last (bareL a.data.toList)).2, List.length_drop]; omega
   generalize hbe : behind (bareL a.data.toList) = bh at hbh ⊢
   refine j_i (fun j => j (some ⟨b7, 0, none⟩) ⟨⟨tailB bh e⟩⟩ σ2) ?_ ?_
   ·refine if_i ?_ ?_
    ·show List.length _ + 1 <= _
     rcases hre with ⟨rfl, _⟩ | ⟨z, rfl, _⟩
     ·show bh.length + 1 <= _; omega
     ·show (if bh == z.data.toList then bh else trimEnd bh z.data.toList).length + 1 <= _
      have := trimEnd_len bh z.data.toList
      split <;> omega
    ·refine st_i2 e2 sz_Done (by rfl) (by rfl) ?_; intro σ3 p3
     refine ptr_i (rd_G (rdA_of' p3.same (by rfl)) ?_)
     (refine app_of rfl ?_; try dsimp only)
     exact ⟨rfl, G2.putF p3 f7⟩
   ·intro j hj
    refine j_i (fun j => ∀ cb : Bool, cb = difB bh e -> j (some ⟨b6, 0, none⟩) (some ⟨b7, 0, none⟩) ⟨⟨bh⟩⟩ cb σ2) ?_ ?_
    ·intro cb hcb3
     rcases hre with ⟨rfl, rfl⟩ | ⟨z, rfl, rfl⟩
     ·subst hcb3; exact br_f rfl hj
     ·have hcb4 : cb = !(bh == z.data.toList) := hcb3
      obtain ⟨g', o', z1, z2, z3⟩ := sRow hx2 (i := 1) (s := z) rfl
      have hzz := ha z (by simp)
      cases hq : bh == z.data.toList with
      | true =>
       rw [hq] at hcb4
       subst hcb4
       have : tailB bh (some z) = bh := by show (if bh == z.data.toList then bh else trimEnd bh z.data.toList) = bh; rw [hq]; rfl
       rw [this] at hj
       exact br_f rfl hj
      | false =>
       rw [hq] at hcb4
       subst hcb4
       have : tailB bh (some z) = trimEnd bh z.data.toList := by show (if bh == z.data.toList then bh else trimEnd bh z.data.toList) = _; rw [hq]; rfl
       rw [this] at hj
       refine br_t rfl (ptr_i (rd_Y (y := x) (rdC_of k6 (by rfl)) ?_))
       rw [z1]
       refine ptr_i (if_i ⟨by decide, by omega⟩ (rd_S z3 ?_))
       exact call_i (x_TrimSuf bh z.data.toList (by omega) (by rw [<- size_list]; omega) (app_S hj))
    ·intro j hj
     refine ptr_i (rd_Y (y := x) (rdC_of k6 (by rfl)) ?_)
     rcases hre with ⟨rfl, rfl⟩ | ⟨z, rfl, rfl⟩
     ·exact br_f (by rw [hxl]; rfl) (hj false rfl)
     ·obtain ⟨g', o', z1, z2, z3⟩ := sRow hx2 (i := 1) (s := z) rfl
      refine br_t (by rw [hxl]; rfl) (ptr_i (rd_Y (y := x) (rdC_of k6 (by rfl)) ?_))
      rw [z1]
      refine ptr_i (if_i ⟨by decide, by omega⟩ (rd_S z3 ?_))
      rw [<- sEq_eq]
      exact hj _ rfl
theorem s_dirn (nm inn cwd : ByteArray) (p : Option Addr) {x : Sl} {args : List ByteArray} (hx : RowsAt σ 1 (strRows args) x) (hn : nm.size <= 1000) (ha : ∀ a ∈ args, a.size <= 1000) {K : KH} (hK : K (.agg ⟨dnV (dirnameP nm args)⟩) σ) :
 callW Tryz.prog 52 [.agg ⟨[.string nm, .slice x.base x.len x.cap, .string inn, .string cwd, .pointer p]⟩] K σ := by
 refine pure_i _ hK (c52 _ _ _ _ _ ?_)
 clear hK
 unfold g52
 have hxl := sLen hx
 refine al_i ?_; intro b6 σ1 g1 e1 n1
 refine al_i ?_; intro b7 σ2 g2 e2 n2
 have k6 := g2.get e1
 have G2 := g1.trans g2
 have f7 : σ b7 = none := none_of g1 n2
 have hx2 := hx.gr G2
 refine rd_Y (y := x) (rdC_of k6 (by rfl)) ?_
 by_cases h1 : args.length = 1
 case neg =>
  have hu : dirnameP nm args = usageP nm := by
   match args, h1 with
   | [], _ => rfl
   | [a], h => exact absurd rfl h
   | a :: b :: r, _ => rfl
  refine br_t (by rw [bne_iff_ne]; omega) (rd_G (rdA_of' k6 (by rfl)) ?_)
  (refine app_of rfl ?_; try dsimp only)
  refine call_i (s_usage nm inn cwd x _ (by omega) ?_)
  unfold dnV
  (refine app_of rfl ?_; try dsimp only)
  refine st_i2 e2 sz_Done (by rfl) (by rfl) ?_; intro σ3 p3
  refine rd_G (rdA_of' p3.same (by rfl)) ?_
  (refine app_of rfl ?_; try dsimp only)
  exact ⟨by rw [hu], G2.putF p3 f7⟩
 case pos =>
  obtain ⟨a, rfl⟩ := List.length_eq_one_iff.1 h1
  have haz := ha a (List.mem_cons_self ..)
  obtain ⟨g, o, a1, a2, a3⟩ := sRow hx2 (i := 0) (s := a) rfl
  have hal : a.data.toList.length <= 1000 := by rw [<- size_list]; exact haz
  have hbl := bareL_len a.data.toList
  have hll := lastN_le 47 (bareL a.data.toList)
  refine br_f (by rw [hxl]; rfl) (rd_Y (y := x) (rdC_of k6 (by rfl)) ?_)
  rw [a1]
  refine ptr_i (if_i ⟨by decide, by omega⟩ (rd_S a3 ?_))
  refine call_i (s_bare a.data.toList (by omega) (app_S (call_i (x_LastIB 47 (bareL a.data.toList) (by omega) (app_I ?_)))))
  rw [wrL 47 _ (by omega), Int.toNat_natCast]
  refine if_i ⟨bnd_some (by omega) (by rw [bsz]; omega), bnd_none⟩ ?_
  rw [show (⟨⟨bareL a.data.toList⟩⟩ : ByteArray).extract 0 (lastN 47 (bareL a.data.toList)) = ⟨⟨upto (bareL a.data.toList)⟩⟩ from by rw [bex, List.drop_zero, (upto_last _).1]]
  have hup : (upto (bareL a.data.toList)).length <= 1000 := by rw [<- (upto_last (bareL a.data.toList)).1, List.length_take]; omega
  refine call_i (s_bare (upto (bareL a.data.toList)) (by omega) (app_S ?_))
  have hb2 := bareL_len (upto (bareL a.data.toList))
  have hd : dirnameP nm [a] = ⟨(if !(bareL (upto (bareL a.data.toList))).isEmpty then ⟨⟨bareL (upto (bareL a.data.toList))⟩⟩ else if headIs 47 a then ⟨⟨[47]⟩⟩ else ⟨⟨[46]⟩⟩) ++ ⟨⟨[10]⟩⟩, ⟨⟨[]⟩⟩, 0⟩ := rfl
  rw [hd]
  generalize bareL (upto (bareL a.data.toList)) = u at hb2 ⊢
  refine j_i (fun j => ∀ s : ByteArray, s.size <= 1000 -> s = (if !u.isEmpty then ⟨⟨u⟩⟩ else if headIs 47 a then ⟨⟨[47]⟩⟩ else ⟨⟨[46]⟩⟩) -> j (some ⟨b7, 0, none⟩) s σ2) ?_ ?_
  ·intro s hs1 hs2
   rw [<- hs2]
   refine if_i (by show s.size + 1 <= _; omega) ?_
   refine st_i2 e2 sz_Done (by rfl) (by rfl) ?_; intro σ3 p3
   refine ptr_i (rd_G (rdA_of' p3.same (by rfl)) ?_)
   (refine app_of rfl ?_; try dsimp only)
   exact ⟨rfl, G2.putF p3 f7⟩
  ·intro j hj
   rw [strEq_nil]
   cases hu : u.isEmpty with
   | false => exact br_t rfl (hj _ (by rw [bsz]; omega) (by rw [hu]; rfl))
   | true =>
    refine br_f rfl (rd_Y (y := x) (rdC_of k6 (by rfl)) ?_)
    rw [a1]
    refine ptr_i (if_i ⟨by decide, by omega⟩ (rd_S a3 ?_))
    refine call_i (x_HasPrefix a ⟨⟨[47]⟩⟩ (app_B ?_))
    rw [show List.isPrefixOf (⟨⟨[47]⟩⟩ : ByteArray).data.toList a.data.toList = headIs 47 a from prefix_head a 47]
    cases hh : headIs 47 a with
    | true => exact br_t rfl (hj _ (by decide) (by rw [hu, hh]; rfl))
    | false => exact br_f rfl (hj _ (by decide) (by rw [hu, hh]; rfl))
theorem und_MSFD : Tryz.prog.underlying 89 = some (.map 9 84) := by kernel_rfl
def runLst : List (ByteArray × Value) := [(⟨⟨[116, 114, 117, 101]⟩⟩, .func (.func 46) ⟨[]⟩ ⟨[]⟩), (⟨⟨[102, 97, 108, 115, 101]⟩⟩, .func (.func 47) ⟨[]⟩ ⟨[]⟩), (⟨⟨[101, 99, 104, 111]⟩⟩, .func (.func 48) ⟨[]⟩ ⟨[]⟩), (⟨⟨[112, 114, 105, 110, 116, 102]⟩⟩, .func (.func 49) ⟨[]⟩ ⟨[]⟩), (⟨⟨[116, 101, 115, 116]⟩⟩, .func (.func 50) ⟨[]⟩ ⟨[]⟩), (⟨⟨[91]⟩⟩, .func (.func 50) ⟨[]⟩ ⟨[]⟩), (⟨⟨[98, 97, 115, 101, 110, 97, 109, 101]⟩⟩, .func (.func 51) ⟨[]⟩ ⟨[]⟩), (⟨⟨[100, 105, 114, 110, 97, 109, 101]⟩⟩, .func (.func 52) ⟨[]⟩ ⟨[]⟩)]
theorem s_Run (hF : FsAt σ bf A B) (nm inn cwd : ByteArray) {x : Sl} {args : List ByteArray} (hx : RowsAt σ 1 (strRows args) x) (hc : x.len <= x.cap) (hT : Tabs σ) (hn : nm.size <= 1000) (ha : ∀ a ∈ args, a.size <= 1000) (hl : args.length <= 20) {K : KH} (hK : K (.tuple ⟨[.agg ⟨dnV (A.runP cwd nm args).1⟩, .bool (A.runP cwd nm args).2]⟩) σ) :
 callW Tryz.prog 17 [.pointer (some ⟨bf, 0, none⟩), .agg ⟨[.string nm, .slice x.base x.len x.cap, .string inn, .string cwd]⟩] K σ := by
 refine pure_i _ hK (c17 _ _ _ _ _ ?_)
 clear hK
 unfold g17
 refine al_i ?_; intro b6 σ1 g1 e1 n1
 refine al_i ?_; intro b7 σ2 g2 e2 n2
 refine mul_i und_MSFD und_strM runLst (by decide +kernel) ?_
 intro bm σ3 g3 n3 hm
 have G3 : Gr σ σ3 := (g1.trans g2).trans g3
 have k6 := g3.get (g2.get e1)
 have k7 := g3.get e2
 have f7 : σ b7 = none := none_of g1 n2
 have hx3 := hx.gr G3
 have hT3 := hT.gr G3
 have hF3 := hF.gr G3
 refine rd_S (rdC_of k6 (by rfl)) (rd_G (mul_rd hm .nilFunc nm) (app_RBm ?_))
 have go : ∀ (f : FuncId) (d : Dn), isGo Tryz.prog f = true -> (∀ {K' : KH}, (∀ τ, Gr σ3 τ -> K' (.agg ⟨dnV d⟩) τ) -> callW Tryz.prog f [.agg ⟨[.string nm, .slice x.base x.len x.cap, .string inn, .string cwd, .pointer (some ⟨bf, 0, none⟩)]⟩] K' σ3) -> brW (!true) (stW Tryz.prog 35 (.pointer (some ⟨b7, 0, none⟩)) (.agg ⟨[.string (⟨⟨[]⟩⟩ : ByteArray), .string (⟨⟨[]⟩⟩ : ByteArray), .int .i64 0]⟩) (rdT (rdA 3 b7 0) (.one (.agg [.str, .str, (.int .i64)])) (fun (r12 : ByteArray) (r13 : ByteArray) (r14 : Int) =>
  (fun u σ' => u = Value.tuple ⟨[.agg ⟨dnV d⟩, .bool true]⟩ /\ Gr σ σ') (.tuple ⟨[.agg ⟨[.string r12, .string r13, .int .i64 r14]⟩, .bool false]⟩)))) (rdT (rdA 4 b6 0) (.one (.agg [.str, .slc, .str, .str])) (fun (x15 : ByteArray) (x16 : Sl) (x17 : ByteArray) (x18 : ByteArray) =>
   cvalT Tryz.prog (.func (.func f) ⟨[]⟩ ⟨[]⟩) [.agg ⟨[.string x15, .slice x16.base x16.len x16.cap, .string x17, .string x18, .pointer (some ⟨bf, 0, none⟩)]⟩] (.one (.agg [.str, .str, (.int .i64)])) (fun (x19 : ByteArray) (x20 : ByteArray) (x21 : Int) =>
    stW Tryz.prog 35 (.pointer (some ⟨b7, 0, none⟩)) (.agg ⟨[.string x19, .string x20, .int .i64 x21]⟩) (rdT (rdA 3 b7 0) (.one (.agg [.str, .str, (.int .i64)])) (fun (r22 : ByteArray) (r23 : ByteArray) (r24 : Int) =>
     (fun u σ' => u = Value.tuple ⟨[.agg ⟨dnV d⟩, .bool true]⟩ /\ Gr σ σ') (.tuple ⟨[.agg ⟨[.string r22, .string r23, .int .i64 r24]⟩, .bool true]⟩)))))) σ3 := by
  intro f d hgo hcall
  refine br_f rfl (rd_G (rdA_of' k6 (by rfl)) ?_)
  (refine app_of rfl ?_; try dsimp only)
  refine cval_i hgo (hcall ?_)
  intro τ g4
  unfold dnV
  (refine app_of rfl ?_; try dsimp only)
  refine st_i2 (g4.get k7) sz_Done (by rfl) (by rfl) ?_; intro τ2 p2
  refine rd_G (rdA_of' p2.same (by rfl)) ?_
  (refine app_of rfl ?_; try dsimp only)
  exact ⟨rfl, (G3.trans g4).putF p2 f7⟩
 unfold runLst AT.runP
 simp only [lkS]
 cases sEq nm ⟨⟨[116, 114, 117, 101]⟩⟩ with
 | true => exact go 46 yesP (by kernel_rfl) (fun h => s_yes nm inn cwd x _ (h σ3 (Gr.refl _)))
 | false =>
 cases sEq nm ⟨⟨[102, 97, 108, 115, 101]⟩⟩ with
 | true => exact go 47 noP (by kernel_rfl) (fun h => s_no nm inn cwd x _ (h σ3 (Gr.refl _)))
 | false =>
 cases sEq nm ⟨⟨[101, 99, 104, 111]⟩⟩ with
 | true => exact go 48 (echoP args) (by kernel_rfl) (fun h => s_echo nm inn cwd _ hx3 hc ha hl (h σ3 (Gr.refl _)))
 | false =>
 cases sEq nm ⟨⟨[112, 114, 105, 110, 116, 102]⟩⟩ with
 | true => exact go 49 (printfP nm args) (by kernel_rfl) (fun h => s_printf nm inn cwd _ hx3 hc hT3 hn ha hl h)
 | false =>
 cases sEq nm ⟨⟨[116, 101, 115, 116]⟩⟩ with
 | true => exact go 50 (A.testP cwd nm args) (by kernel_rfl) (fun h => s_test hF3 nm inn cwd hx3 hc hn ha hl (h σ3 (Gr.refl _)))
 | false =>
 cases sEq nm ⟨⟨[91]⟩⟩ with
 | true => exact go 50 (A.testP cwd nm args) (by kernel_rfl) (fun h => s_test hF3 nm inn cwd hx3 hc hn ha hl (h σ3 (Gr.refl _)))
 | false =>
 cases sEq nm ⟨⟨[98, 97, 115, 101, 110, 97, 109, 101]⟩⟩ with
 | true => exact go 51 (basenameP nm args) (by kernel_rfl) (fun h => s_base nm inn cwd _ hx3 hn ha (h σ3 (Gr.refl _)))
 | false =>
 cases sEq nm ⟨⟨[100, 105, 114, 110, 97, 109, 101]⟩⟩ with
 | true => exact go 52 (dirnameP nm args) (by kernel_rfl) (fun h => s_dirn nm inn cwd _ hx3 hn ha (h σ3 (Gr.refl _)))
 | false =>
  refine br_t rfl (st_i2 k7 sz_Done (by rfl) (by rfl) ?_); intro τ2 p2
  refine rd_G (rdA_of' p2.same (by rfl)) ?_
  (refine app_of rfl ?_; try dsimp only)
  exact ⟨rfl, G3.putF p2 f7⟩
end
end Go.Proofs.YthclifcpjnhmjaaGreatDoor

namespace Go.Wk
open Go Go.HL
variable {A : AT}
def Below (A : AT) (ino : Int) : Nat -> Int -> Prop
 | 0, k => k = ino
 | r + 1, k => k ≠ ino /\ k ≠ 1 /\ Below A ino r (A.upOf k)
end Go.Wk

namespace Go.Wk
open Go Go.HL
end Go.Wk
namespace Go.Wk
open Go Go.HL
end Go.Wk

namespace Go.Wk
open Go Go.HL
variable {A : AT}
end Go.Wk

namespace Go.Wk
open Go Go.HL
variable {A : AT}
end Go.Wk

namespace Go.Wk
open Go Go.HL
def six : List ByteArray := [⟨⟨[97]⟩⟩, ⟨⟨[98]⟩⟩, ⟨⟨[99]⟩⟩, ⟨⟨[66]⟩⟩, ⟨⟨[97, 46, 98]⟩⟩, ⟨⟨[122]⟩⟩]
def pN : ByteArray := ⟨⟨[112]⟩⟩
def qN : ByteArray := ⟨⟨[113]⟩⟩
def rN : ByteArray := ⟨⟨[114]⟩⟩
def fl (data k : ByteArray) : AN := ⟨1, 420, data ++ k, 1, 0, []⟩
def drN (es : List (ByteArray × Int)) : AN := ⟨2, 493, ⟨⟨[]⟩⟩, 1, 1, es⟩
def DD (d : Int) : Prop := d = 2 \/ d = 3 \/ d = 4
structure Ords (data : ByteArray) (A : AT) (E : Int -> List (ByteArray × Int)) (m : Nat) : Prop where
 inv : Inv A
 bd : Bd (10 + m) A
 rt : A.get 1 = some ⟨2, 493, ⟨⟨[]⟩⟩, 1, 1, [(pN, 2), (qN, 3), (rN, 4)]⟩
 nd : ∀ d, DD d -> A.get d = some (drN (E d))
 he : ∀ d, DD d -> ∀ k i, lk k (E d) = some i -> k ∈ six /\ 4 < i /\ A.get i = some (fl data k)
 dj : ∀ d d' k k' i, DD d -> DD d' -> lk k (E d) = some i -> lk k' (E d') = some i -> d = d'
 qi : A.qi = 100
 qb : A.qb = 9000
 ui : A.ui <= 4 + m
 ub : A.ub <= 63 * m
variable {A : AT} {data : ByteArray} {E : Int -> List (ByteArray × Int)} {m : Nat}
theorem Ords.find (h : Ords data A E m) {d : Int} (hd : DD d) (k : ByteArray) : A.find d k = lk k (E d) := by
 unfold AT.find; rw [h.nd d hd]; rfl
theorem Ords.kindF (h : Ords data A E m) {d : Int} (hd : DD d) {k : ByteArray} {i : Int} (hk : lk k (E d) = some i) : A.kind i = 1 := by
 unfold AT.kind; rw [(h.he d hd k i hk).2.2]; rfl
theorem Ords.same (h : Ords data A E m) {A' : AT} {m' : Nat} (hi : Inv A') (hb : Bd (10 + m') A') (hg : ∀ j, A'.get j = A.get j) (q1 : A'.qi = A.qi) (q2 : A'.qb = A.qb) (u1 : A'.ui <= 4 + m') (u2 : A'.ub <= 63 * m') : Ords data A' E m' :=
 ⟨hi, hb, by rw [hg]; exact h.rt, fun d hd => by rw [hg]; exact h.nd d hd, fun d hd k i hk => by rw [hg]; exact h.he d hd k i hk, h.dj, by rw [q1]; exact h.qi, by rw [q2]; exact h.qb, u1, u2⟩
theorem Ords.levels (h : Ords data A E m) {d : Int} (hd : DD d) {k : ByteArray} {i : Int} (hk : lk k (E d) = some i) : A.levels 14 i = 0 := by
 rw [AT.levels, if_pos (by rw [h.kindF hd hk]; decide)]
end Go.Wk

namespace Go.Wk
open Go Go.HL
theorem sortN_perm (l : List ByteArray) : (sortN l).Perm l := by
 unfold sortN
 have h := (sortB_perm (l.map fun s => s.data.toList)).map fun x => (⟨⟨x⟩⟩ : ByteArray)
 have e : ((l.map fun s => s.data.toList).map fun x => (⟨⟨x⟩⟩ : ByteArray)) = l := by
  rw [List.map_map]
  conv => rhs; rw [<- List.map_id l]
  apply List.map_congr_left
  intro s _
  rfl
 rw [e] at h
 exact h
variable {A : AT} {data : ByteArray} {E : Int -> List (ByteArray × Int)} {m : Nat}
def o0 : AT := newT 100 9000
def o1 : AT := (o0.mkdirF ⟨⟨[47]⟩⟩ pN).2
def o2 : AT := (o1.mkdirF ⟨⟨[47]⟩⟩ qN).2
def o3 : AT := (o2.mkdirF ⟨⟨[47]⟩⟩ rN).2
end Go.Wk

set_option maxRecDepth 100000
namespace Go.Proofs.YthclifcpjnhmjaaGreatDoor
open Go Go.HL Go.Wk
attribute [local irreducible] ptrW ifW brW andW rdT alW letJ stW muW biW vaW imW callT cvalT app callW invW callVW sizeT oW nilF oneK loopW rfW funW begW roundK exW idxW Gr Put
def eRow (es : List (ByteArray × Int)) : List (List Value) := (sortN (keysL es)).map fun k => [.string k, .int .i64 ((lk k es).getD 0 - 1)]
def ptrRow (A : AT) (cb : Int -> Nat) : List (List Value) := (List.range A.last.toNat).map fun (i : Nat) => [.pointer (if (A.get ((i : Int) + 1)).isSome then some ⟨cb ((i : Int) + 1), 0, none⟩ else none)]
def upR (n : AN) : Int := if n.kind = 2 then n.up - 1 else 0
def nodeO (n : AN) (y : Sl) : Obj := .cells ⟨[.int .i64 n.kind, .int .i64 n.mode, .string n.data, .slice y.base y.len y.cap, .int .i64 (upR n)]⟩ 101 (0, 0)
structure RfM where
 x : Sl
 cb : Int -> Nat
 ey : Int -> Sl
 w : Nat -> Option (Int × Bool)
structure RfIn (σ : H) (b : Nat) (A : AT) (M : RfM) : Prop where
 top : σ b = some (.cells ⟨[.int .i64 A.qi, .int .i64 A.qb, .slice M.x.base M.x.len M.x.cap]⟩ 97 (0, 0))
 tab : RowsOwn σ 98 1 (ptrRow A M.cb) M.x
 nod : ∀ i n, A.get i = some n -> σ (M.cb i) = some (nodeO n (M.ey i))
 ent : ∀ i n, A.get i = some n -> RowsOwn σ 206 2 (eRow n.ents) (M.ey i)
 wb : M.w b = some (0, false)
 wt : ∀ g, M.x.base = some ⟨g, 0, none⟩ -> M.w g = some (0, true)
 wn : ∀ i n, A.get i = some n -> M.w (M.cb i) = some (i, false)
 we : ∀ i n g, A.get i = some n -> (M.ey i).base = some ⟨g, 0, none⟩ -> M.w g = some (i, true)
 has : ∀ c, M.w c ≠ none -> σ c ≠ none
def RfAt (σ : H) (b : Nat) (A : AT) (D : Nat -> Prop) : Prop := ∃ M, RfIn σ b A M /\ ∀ c, D c ↔ M.w c ≠ none
theorem RfIn.gr {σ σ' : H} {b : Nat} {A : AT} {M : RfM} (h : RfIn σ b A M) (hg : Gr σ σ') : RfIn σ' b A M :=
 ⟨hg.get h.top, h.tab.gr hg, fun i n hn => hg.get (h.nod i n hn), fun i n hn => (h.ent i n hn).gr hg, h.wb, h.wt, h.wn, h.we, fun c hc => by
  have := h.has c hc
  cases ho : σ c with
  | none => exact absurd ho this
  | some o => rw [hg.get ho]; simp⟩
theorem RfAt.gr {σ σ' : H} {b : Nat} {A : AT} {D : Nat -> Prop} (h : RfAt σ b A D) (hg : Gr σ σ') : RfAt σ' b A D := by
 obtain ⟨M, h1, h2⟩ := h
 exact ⟨M, h1.gr hg, h2⟩
section
variable {σ : H} {b : Nat} {A : AT} {M : RfM}
theorem RfIn.len (h : RfIn σ b A M) : M.x.len = A.last.toNat := by
 have := h.tab.1
 simpa [ptrRow] using this
theorem RfIn.slot (h : RfIn σ b A M) (hI : Inv A) {d : Int} {n : AN} (hn : A.get (d + 1) = some n) : ∃ g o, M.x.base = some ⟨g, o, none⟩ /\ (0 <= d /\ d < ((M.x.len : Nat) : Int)) /\ rdC g (o + d.toNat * 1) σ = some (.pointer (some ⟨M.cb (d + 1), 0, none⟩)) := by
 obtain ⟨l1, l2⟩ := hI.low _ _ hn
 have hl := h.len
 have hr : (ptrRow A M.cb)[d.toNat]? = some [.pointer (some ⟨M.cb (d + 1), 0, none⟩)] := by
  unfold ptrRow
  rw [List.getElem?_map, List.getElem?_range (by omega)]
  have : ((d.toNat : Nat) : Int) = d := by omega
  simp [this, hn]
 obtain ⟨g, o, h2, h3⟩ := RowsAt.rd h.tab.rows hr (by decide)
 refine ⟨g, o, h2, by omega, ?_⟩
 obtain ⟨h1, h4 | ⟨g', o', cur, t, fz, q2, q3, q4⟩⟩ := h.tab.rows
 ·rw [h4] at hr; simp at hr
 ·rw [h2] at q2
  injection q2 with q2
  injection q2 with e1 e2
  subst e1; subst e2
  refine rdC_of q3 ?_
  obtain ⟨_, h5⟩ := q4 _ _ hr
  have : ((cur.drop (o + d.toNat * 1)).take 1)[0]? = some (.pointer (some ⟨M.cb (d + 1), 0, none⟩)) := by rw [h5]; rfl
  rw [List.getElem?_take] at this
  simpa using this
theorem rf_p (h : RfIn σ b A M) (hI : Inv A) {d : Int} {n : AN} (hn : A.get (d + 1) = some n) {F : Option Addr -> H -> Prop} (hF : F (some ⟨M.cb (d + 1), 0, none⟩) σ) :
 ptrW (some ⟨b, 0, none⟩) (fun (b4 o5 : Nat) => rdT (rdC b4 (o5 + 2)) kL (fun (x6 : Sl) => ptrW x6.base (fun (b7 o8 : Nat) => ifW (0 <= d /\ d < ((x6.len : Nat) : Int)) (rdT (rdC b7 (o8 + d.toNat * 1)) kP F)))) σ := by
 obtain ⟨g, o, h1, h2, h3⟩ := h.slot hI hn
 refine ptr_i (rd_L (rdC_of h.top (by rfl)) ?_)
 rw [h1]
 exact ptr_i (if_i h2 (rd_P h3 hF))
theorem rf_at (h : RfIn σ b A M) (hI : Inv A) {d : Int} {n : AN} (hn : A.get (d + 1) = some n) {F : Nat -> Nat -> H -> Prop} (hF : F (M.cb (d + 1)) 0 σ) :
 ptrW (some ⟨b, 0, none⟩) (fun (b4 o5 : Nat) => rdT (rdC b4 (o5 + 2)) kL (fun (x6 : Sl) => ptrW x6.base (fun (b7 o8 : Nat) => ifW (0 <= d /\ d < ((x6.len : Nat) : Int)) (rdT (rdC b7 (o8 + d.toNat * 1)) kP (fun x9 => ptrW x9 F))))) σ :=
 rf_p h hI hn (ptr_i hF)
def less1 (o : Option Int) : Int := (o.map (· - 1)).getD (-1)
theorem erow_at {es : List (ByteArray × Int)} {y : Sl} (h : RowsOwn σ 206 2 (eRow es) y) {i : Nat} {k : ByteArray} (hk : (sortN (keysL es))[i]? = some k) : ∃ g o, y.base = some ⟨g, o, none⟩ /\ rdC g (o + i * 2) σ = some (.string k) /\ rdC g (o + i * 2 + 1) σ = some (.int .i64 ((lk k es).getD 0 - 1)) /\ rdA 2 g (o + i * 2) σ = some (.agg ⟨[.string k, .int .i64 ((lk k es).getD 0 - 1)]⟩) := by
 have hr : (eRow es)[i]? = some [.string k, .int .i64 ((lk k es).getD 0 - 1)] := by unfold eRow; rw [List.getElem?_map, hk]; rfl
 obtain ⟨g, o, h2, h3⟩ := RowsAt.rd h.rows hr (by decide)
 refine ⟨g, o, h2, ?_, ?_, h3⟩
 all_goals
  obtain ⟨h1, h4 | ⟨g', o', cur, t, fz, q2, q3, q4⟩⟩ := h.rows
  ·rw [h4] at hr; simp at hr
  ·rw [h2] at q2
   injection q2 with q2
   injection q2 with e1 e2
   subst e1; subst e2
   refine rdC_of q3 ?_
   obtain ⟨_, h5⟩ := q4 _ _ hr
   first
    | (have : ((cur.drop (o + i * 2)).take 2)[0]? = some (.string k) := by rw [h5]; rfl
       rw [List.getElem?_take] at this
       simpa using this)
    | (have : ((cur.drop (o + i * 2)).take 2)[1]? = some (.int .i64 ((lk k es).getD 0 - 1)) := by rw [h5]; rfl
       rw [List.getElem?_take] at this
       simpa [Nat.add_assoc] using this)
theorem s_rfFind (h : RfIn σ b A M) (hI : Inv A) {N : Nat} (hB : Bd N A) (hN : N <= 1000000000000) {d : Int} {n : AN} (hn : A.get (d + 1) = some n) (name : ByteArray) {K : KH} (hK : K (.int .i64 (less1 (A.find (d + 1) name))) σ) :
 callW Tryz.prog 204 [.pointer (some ⟨b, 0, none⟩), .int .i64 d, .string name] K σ := by
 refine c204 _ _ _ ?_
 unfold g204
 have hf : A.find (d + 1) name = lk name n.ents := by unfold AT.find; rw [hn]; rfl
 rw [hf] at hK
 refine rf_at h hI hn (rd_L (rdC_of (h.nod _ _ hn) (by rfl)) (loop_i ?_))
 intro R hR
 have he := h.ent _ _ hn
 have hlen : (M.ey (d + 1)).len = (sortN (keysL n.ents)).length := by have := he.1; simpa [eRow] using this
 have hle : (sortN (keysL n.ents)).length <= N := by
  rw [(sortN_perm _).length_eq]
  have := hB.ents _ _ hn
  simpa [keysL] using this
 have key : ∀ (c i : Nat), c + i = (sortN (keysL n.ents)).length -> name ∉ (sortN (keysL n.ents)).take i -> R name (M.ey (d + 1)) (i : Int) σ := by
  intro c
  induction c with
  | zero =>
   intro i hc hno
   refine hR _ _ _ _ ?_
   refine br_f (by simp only [decide_eq_false_iff_not]; omega) ?_
   have : lk name n.ents = none := by
    rw [lk_none_iff]
    intro hm
    apply hno
    rw [show i = (sortN (keysL n.ents)).length from by omega, List.take_length]
    exact (sortN_perm _).mem_iff.2 hm
   rw [this] at hK
   exact hK
  | succ c ih =>
   intro i hc hno
   refine hR _ _ _ _ ?_
   refine br_t (by simp only [decide_eq_true_eq]; omega) ?_
   obtain ⟨k, hk⟩ : ∃ k, (sortN (keysL n.ents))[i]? = some k := ⟨_, List.getElem?_eq_getElem (by omega)⟩
   obtain ⟨g, o, q1, q2, q3, _⟩ := erow_at he hk
   rw [q1]
   have e0 : (i : Int).toNat = i := by omega
   refine ptr_i (if_i ⟨by omega, by omega⟩ (rd_S (by rw [e0]; exact q2) ?_))
   by_cases hkn : k = name
   ·subst hkn
    refine br_t (strEq_iff.2 rfl) (ptr_i (if_i ⟨by omega, by omega⟩ (rd_I (by rw [e0]; exact q3) ?_)))
    have hm : k ∈ keysL n.ents := (sortN_perm _).mem_iff.1 (List.mem_of_getElem? hk)
    cases hl : lk k n.ents with
    | none => exact absurd hm (lk_none_iff.1 hl)
    | some v => rw [hl] at hK; exact hK
   ·refine br_f (by rw [Bool.eq_false_iff]; intro e; exact hkn (strEq_iff.1 e)) ?_
    rw [wrap_id (x := (i : Int) + 1) (by omega) (by omega)]
    refine ih (i + 1) (by omega) ?_
    rw [List.take_add_one, hk]
    simp only [Option.toList_some, List.mem_append, List.mem_singleton, not_or]
    exact ⟨hno, fun e => hkn e.symm⟩
 exact key _ 0 (by omega) (by simp)
theorem s_rfDeep (h : RfIn σ b A M) (hI : Inv A) {d : Int} (hd : A.isDir (d + 1)) {x : Int} (hx : A.deep 13 (d + 1) = some x) {K : KH} (hK : K (.int .i64 x) σ) : callW Tryz.prog 84 [.pointer (some ⟨b, 0, none⟩), .int .i64 d] K σ := by
 refine c84 _ _ ?_
 unfold g84
 refine loop_i ?_
 intro R hR
 have key : ∀ (f : Nat) (d c y : Int), f <= 13 -> A.isDir (d + 1) -> A.deep f (d + 1) = some y -> c + y - 1 = x -> 0 <= c -> c + f <= 14 -> R (some ⟨b, 0, none⟩) d c σ := by
  intro f
  induction f with
  | zero => intro d c y _ _ h; simp [AT.deep] at h
  | succ f ih =>
   intro d c y hf hd hy hc h0 h1
   refine hR _ _ _ _ ?_
   rw [AT.deep] at hy
   by_cases e : d = 0
   ·subst e
    rw [if_pos (show (0 : Int) + 1 = 1 from rfl)] at hy
    have : y = 1 := (Option.some.inj hy).symm
    refine br_f rfl ?_
    rw [show c = x from by omega]
    exact hK
   ·rw [if_neg (by omega)] at hy
    obtain ⟨n, hn, hk⟩ := hd
    have hu : A.upOf (d + 1) = n.up := by unfold AT.upOf; rw [hn]; rfl
    have hdu := hI.isDir_up ⟨n, hn, hk⟩
    rw [hu] at hy hdu
    cases hy' : A.deep f n.up with
    | none => rw [hy'] at hy; cases hy
    | some y' =>
     rw [hy'] at hy
     have hy2 : y = y' + 1 := (Option.some.inj hy).symm
     refine br_t (by simpa using e) (rf_at h hI hn (rd_I (rdC_of (h.nod _ _ hn) (by rfl)) ?_))
     rw [wrap_id (x := c + 1) (by omega) (by omega)]
     have hup : upR n = n.up - 1 := by unfold upR; rw [if_pos hk]
     rw [hup]
     exact ih (n.up - 1) (c + 1) y' (by omega) (by rw [show n.up - 1 + 1 = n.up from by omega]; exact hdu) (by rw [show n.up - 1 + 1 = n.up from by omega]; exact hy') (by omega) (by omega) (by omega)
 exact key 13 d 1 x (by omega) hd hx (by omega) (by omega) (by omega)
theorem sz_RPlace : sizeT Tryz.prog 125 = some 3 := by kernel_rfl
def plV (p : Pl) : List Value := [.int .i64 (p.dir - 1), .string p.name, .int .i64 (if p.there then p.ino - 1 else -1)]
def plZ : List Value := [.int .i64 0, .string ⟨⟨[]⟩⟩, .int .i64 0]
theorem s_rfStep (h : RfIn σ b A M) (hI : Inv A) {N : Nat} (hB : Bd N A) (hN : N <= 1000000000000) {d : Int} {n : AN} (hn : A.get (d + 1) = some n) (name : ByteArray) {K : KH}
 (hK : ∀ σ', Gr σ σ' -> K (if A.kind (d + 1) ≠ 2 then .tuple ⟨[.agg ⟨plZ⟩, .int .i64 8]⟩ else if sEq name ⟨⟨[46, 46]⟩⟩ = true then .tuple ⟨[.agg ⟨plV ⟨A.upOf (d + 1), ⟨⟨[]⟩⟩, A.upOf (d + 1), true⟩⟩, .int .i64 0]⟩ else if name.size > 56 then .tuple ⟨[.agg ⟨plZ⟩, .int .i64 3]⟩ else .tuple ⟨[.agg ⟨plV ⟨d + 1, name, (A.find (d + 1) name).getD 0, (A.find (d + 1) name).isSome⟩⟩, .int .i64 0]⟩) σ') :
 callW Tryz.prog 168 [.pointer (some ⟨b, 0, none⟩), .int .i64 d, .string name] K σ := by
 refine c168 _ _ _ ?_
 unfold g168
 refine al_i ?_; intro b4 σ1 g1 e1 n1
 have h1 := h.gr g1
 have hk : A.kind (d + 1) = n.kind := by unfold AT.kind; rw [hn]; rfl
 have hu : A.upOf (d + 1) = n.up := by unfold AT.upOf; rw [hn]; rfl
 rw [hk, hu] at hK
 refine rf_at h1 hI hn (rd_I (rdC_of (h1.nod _ _ hn) (by rfl)) ?_)
 by_cases c1 : n.kind = 2
 ·refine br_f (by simpa using c1) ?_
  rw [if_neg (by simpa using c1)] at hK
  have hup : upR n = n.up - 1 := by unfold upR; rw [if_pos c1]
  by_cases c2 : sEq name ⟨⟨[46, 46]⟩⟩ = true
  ·rw [if_pos c2] at hK
   refine br_t (by rw [<- sEq_eq]; exact c2) ?_
   refine rf_at h1 hI hn (rd_I (rdC_of (h1.nod _ _ hn) (by rfl)) ?_)
   refine rf_at h1 hI hn (rd_I (rdC_of (h1.nod _ _ hn) (by rfl)) ?_)
   refine st_i2 e1 sz_RPlace (by rfl) (by rfl) ?_; intro σ2 p2
   refine rd_G (rdA_of' p2.same (by rfl)) ?_
   (refine app_of rfl ?_; try dsimp only)
   rw [hup]
   exact hK σ2 (g1.putF p2 n1)
  ·rw [if_neg c2] at hK
   refine br_f (by rw [<- sEq_eq]; simpa using c2) ?_
   by_cases c3 : name.size > 56
   ·rw [if_pos c3] at hK
    refine br_t (by simp only [decide_eq_true_eq]; omega) ?_
    refine st_i2 e1 sz_RPlace (by rfl) (by rfl) ?_; intro σ2 p2
    refine rd_G (rdA_of' p2.same (by rfl)) ?_
    (refine app_of rfl ?_; try dsimp only)
    exact hK σ2 (g1.putF p2 n1)
   ·rw [if_neg c3] at hK
    refine br_f (by simp only [decide_eq_false_iff_not]; omega) (call_i (s_rfFind h1 hI hB hN hn name (app_I ?_)))
    refine st_i2 e1 sz_RPlace (by rfl) (by rfl) ?_; intro σ2 p2
    refine rd_G (rdA_of' p2.same (by rfl)) ?_
    (refine app_of rfl ?_; try dsimp only)
    have := hK σ2 (g1.putF p2 n1)
    have e2 : d + 1 - 1 = d := by omega
    have e3 : (if (A.find (d + 1) name).isSome then (A.find (d + 1) name).getD 0 - 1 else -1) = less1 (A.find (d + 1) name) := by
     cases A.find (d + 1) name <;> rfl
    unfold plV at this
    simp only [e2, e3] at this
    exact this
 ·refine br_t (by simpa using c1) ?_
  rw [if_pos (by simpa using c1)] at hK
  refine st_i2 e1 sz_RPlace (by rfl) (by rfl) ?_; intro σ2 p2
  refine rd_G (rdA_of' p2.same (by rfl)) ?_
  (refine app_of rfl ?_; try dsimp only)
  exact hK σ2 (g1.putF p2 n1)
end
theorem und_strs : Tryz.prog.underlying 38 = some (.slice 9) := by kernel_rfl
theorem info_strR : ∃ i, Tryz.prog.info? 9 = some i /\ i.zero = some (.string ⟨⟨[]⟩⟩) /\ i.size = 1 /\ i.bytes = 16 := by
 have h1 : (Tryz.prog.info? 9).map (fun i => (i.zero, i.size, i.bytes)) = some (some (.string ⟨⟨[]⟩⟩), 1, 16) := by kernel_rfl
 cases hi : Tryz.prog.info? 9 with
 | none => rw [hi] at h1; cases h1
 | some i =>
  rw [hi] at h1
  simp only [Option.map_some, Option.some.injEq, Prod.mk.injEq] at h1
  exact ⟨i, rfl, h1.1, h1.2.1, h1.2.2⟩
def srows (l : List ByteArray) : List (List Value) := l.map fun s => [.string s]
def StrsNew (σ0 σ : H) (l : List ByteArray) (y : Sl) : Prop := Gr σ0 σ /\ RowsOwn σ 9 1 (srows l) y /\ ∀ g, y.base = some ⟨g, 0, none⟩ -> σ0 g = none
theorem app_str {σ0 σ : H} {l : List ByteArray} {y : Sl} {s : ByteArray} {ty : TypeId} {cs : List Bool} (h : StrsNew σ0 σ l y) (hl : l.length < 1000000000) {F : Sl -> H -> Prop} (hF : ∀ y' σ', StrsNew σ0 σ' (l ++ [s]) y' -> F y' σ') :
 alW (.cells ⟨[.string s]⟩ 9 (0, 0)) (fun (b48 : Nat) => biW Tryz.prog .append #[38, 38] ty cs [.slice y.base y.len y.cap, .slice (some ⟨b48, 0, none⟩) 1 1] kL F) σ := by
 obtain ⟨h1, h2, h3⟩ := h
 refine al_i ?_; intro b48 σ1 g1 e1 n1
 obtain ⟨i, i1, i2, i3, i4⟩ := info_strR
 refine append_i und_strs i1 i2 i3 i4 rfl (by decide) (h2.gr g1) e1 rfl (by intro u hu; simp at hu; subst hu; rfl) (by simpa [srows] using hl) (by decide) ?_
 intro y' σ' hy' hcase
 refine hF y' σ' ⟨?_, by simpa [srows] using hy', ?_⟩
 ·rcases hcase with ⟨g, o, q1, q2, q3⟩ | ⟨g, q1, q2, q3⟩
  ·exact (h1.trans g1).putF q3 (h3 g q1)
  ·exact (h1.trans g1).trans q3
 ·intro g hg
  rcases hcase with ⟨g', o, q1, q2, q3⟩ | ⟨g', q1, q2, q3⟩
  ·rw [q2] at hg; exact h3 g hg
  ·rw [q1] at hg
   injection hg with hg
   injection hg with hg
   subst hg
   exact none_of (h1.trans g1) q2
theorem take_one {l : List UInt8} {i : Nat} {c : UInt8} (h : l[i]? = some c) (f : Nat) (hf : f <= i) : (l.drop f).take (i + 1 - f) = (l.drop f).take (i - f) ++ [c] := by
 rw [show i + 1 - f = (i - f) + 1 from by omega, List.take_add_one]
 congr 1
 rw [List.getElem?_drop, show f + (i - f) = i from by omega, h]; rfl
def okP (s : ByteArray) : List ByteArray := if okPart s then [s] else []
theorem parts_cons {l a b : List UInt8} (hl : l = a ++ 47 :: b) (ha : (47 : UInt8) ∉ a) : ((splitL 47 l).map fun l => (⟨⟨l⟩⟩ : ByteArray)).filter okPart = okP ⟨⟨a⟩⟩ ++ ((splitL 47 b).map fun l => (⟨⟨l⟩⟩ : ByteArray)).filter okPart := by
 rw [hl, splitL_some ha]
 simp only [List.map_cons, List.filter_cons, okP]
 split <;> simp
theorem parts_end {l : List UInt8} (ha : (47 : UInt8) ∉ l) : ((splitL 47 l).map fun l => (⟨⟨l⟩⟩ : ByteArray)).filter okPart = okP ⟨⟨l⟩⟩ := by
 rw [splitL_none ha]
 simp only [List.map_cons, List.map_nil, List.filter_cons, okP, List.filter_nil]
theorem s_rfNames (path : ByteArray) (hz : path.size <= 1000000) {σ : H} {K : KH} (hK : ∀ y σ', StrsNew σ σ' (partsB path) y -> K (.slice y.base y.len y.cap) σ') : callW Tryz.prog 167 [.string path] K σ := by
 refine c167 _ ?_
 unfold g167
 have hlen : path.data.toList.length = path.size := (size_list path).symm
 refine loop_i ?_
 intro R hR
 have fin : ∀ (y : Sl) (f : Int) (τ : H), StrsNew σ τ (partsB path) y -> R path y f ((path.size + 1 : Nat) : Int) τ := by
  intro y f τ h
  refine hR _ _ _ _ _ ?_
  exact br_f (by simp only [decide_eq_false_iff_not]; omega) (hK y τ h)
 have key : ∀ (c i f : Nat) (out : List ByteArray) (y : Sl) (τ : H), c + i = path.size -> f <= i -> out.length <= i -> StrsNew σ τ out y -> (47 : UInt8) ∉ (path.data.toList.drop f).take (i - f) -> out ++ ((splitL 47 (path.data.toList.drop f)).map fun l => (⟨⟨l⟩⟩ : ByteArray)).filter okPart = partsB path -> R path y (f : Int) (i : Int) τ := by
  intro c
  induction c with
  | zero =>
   intro i f out y τ hc hf hol hS hno hp
   have hi : i = path.size := by omega
   refine hR _ _ _ _ _ ?_
   refine br_t (by simp only [decide_eq_true_eq]; omega) ?_
   refine j_i (fun j => ∀ y' τ' v1 v2 v3 v4, StrsNew σ τ' (partsB path) y' -> j path y' (((path.size + 1 : Nat)) : Int) (i : Int) v1 v2 v3 v4 τ') ?_ ?_
   ·intro y' τ' v1 v2 v3 v4 h
    rw [wrap_id (x := (i : Int) + 1) (by omega) (by omega)]
    rw [show (i : Int) + 1 = ((path.size + 1 : Nat) : Int) from by omega]
    exact fin y' _ τ' h
   intro j7 hj7
   refine j_i (fun j => ∀ v1 v2 v3 v4, j path y (f : Int) (i : Int) v1 v2 v3 v4 false τ) ?_ ?_
   case refine_2 =>
    intro j hj
    exact br_f (by simp only [decide_eq_false_iff_not]; omega) (hj _ _ _ _)
   intro v1 v2 v3 v4
   have e0 : (i : Int).toNat = i := by omega
   have e1 : (f : Int).toNat = f := by omega
   refine br_f rfl (if_i ⟨bnd_some (by omega) (by omega), bnd_some (by omega) (by omega)⟩ ?_)
   rw [e0, e1]
   have hex : path.extract f i = ⟨⟨path.data.toList.drop f⟩⟩ := by
    apply bytes_ext
    rw [extract_toList, hi, <- hlen, List.take_length]
   rw [hex]
   have hfull : (path.data.toList.drop f).take (i - f) = path.data.toList.drop f := by
    rw [List.take_of_length_le]; rw [List.length_drop]; omega
   rw [hfull] at hno
   rw [parts_end hno] at hp
   generalize (⟨⟨path.data.toList.drop f⟩⟩ : ByteArray) = s at hp
   refine j_i (fun j => ∀ y' τ' v1 v2 v3 v4 v5 v6, StrsNew σ τ' (partsB path) y' -> j path y' (i : Int) v1 v2 v3 v4 v5 v6 τ') ?_ ?_
   ·intro y' τ' v1 v2 v3 v4 v5 v6 h
    rw [wrap_id (x := (i : Int) + 1) (by omega) (by omega)]
    rw [show (i : Int) + 1 = ((path.size + 1 : Nat) : Int) from by omega]
    exact hj7 _ _ _ _ _ _ h
   intro j26 hj26
   refine j_i (fun j => ∀ v1 v2 v3 v4 v5 v6, j path y (i : Int) s v1 v2 v3 v4 v5 v6 (okPart s) τ) ?_ ?_
   ·intro v1 v2 v3 v4 v5 v6
    unfold okP at hp
    cases ho : okPart s with
    | true =>
     rw [ho] at hp
     refine br_t rfl (app_str hS (by omega) ?_)
     intro y' σ' h'
     rw [show out ++ [s] = partsB path from hp] at h'
     exact hj26 _ _ _ _ _ _ _ _ h'
    | false =>
     rw [ho] at hp
     have hp : out = partsB path := by simpa using hp
     rw [hp] at hS
     exact br_f rfl (hj26 _ _ _ _ _ _ _ _ hS)
   ·intro j36 hj36
    have ho : okPart s = (!strEq s ⟨⟨[]⟩⟩ && !strEq s ⟨⟨[46]⟩⟩) := by unfold okPart; rw [sEq_eq, sEq_eq]
    cases hs0 : strEq s ⟨⟨[]⟩⟩ with
    | true =>
     have := hj36 v1 v2 v3 v4 (.tuple ⟨[]⟩) (.tuple ⟨[]⟩)
     rw [ho, hs0] at this
     exact br_f rfl this
    | false =>
     have := fun a b => hj36 v1 v2 v3 v4 a b
     rw [ho, hs0] at this
     exact br_t rfl (this _ _)
  | succ c ih =>
   intro i f out y τ hc hf hol hS hno hp
   refine hR _ _ _ _ _ ?_
   refine br_t (by simp only [decide_eq_true_eq]; omega) ?_
   obtain ⟨ch, hch⟩ : ∃ ch, path.data.toList[i]? = some ch := ⟨_, List.getElem?_eq_getElem (by omega)⟩
   refine j_i (fun j => ∀ (f' : Nat) out' y' τ' v1 v2 v3 v4, f' <= i + 1 -> out'.length <= i + 1 -> StrsNew σ τ' out' y' -> (47 : UInt8) ∉ (path.data.toList.drop f').take (i + 1 - f') -> out' ++ ((splitL 47 (path.data.toList.drop f')).map fun l => (⟨⟨l⟩⟩ : ByteArray)).filter okPart = partsB path -> j path y' (f' : Int) (i : Int) v1 v2 v3 v4 τ') ?_ ?_
   ·intro f' out' y' τ' v1 v2 v3 v4 a1 a2 a3 a4 a5
    rw [wrap_id (x := (i : Int) + 1) (by omega) (by omega)]
    rw [show (i : Int) + 1 = ((i + 1 : Nat) : Int) from by omega]
    exact ih (i + 1) f' out' y' τ' (by omega) a1 a2 a3 a4 a5
   intro j7 hj7
   refine j_i (fun j => ∀ v1 v2 v3 v4, j path y (f : Int) (i : Int) v1 v2 v3 v4 (((ch.toNat : Int) : Int) != 47) τ) ?_ ?_
   case refine_2 =>
    intro j hj
    refine br_t (by simp only [decide_eq_true_eq]; omega) (idx_l (c := ch) (by omega) (by simpa using hch) ?_)
    exact hj _ _ _ _
   intro v1 v2 v3 v4
   by_cases hc47 : ch = 47
   ·subst hc47
    have e0 : (i : Int).toNat = i := by omega
    have e1 : (f : Int).toNat = f := by omega
    refine br_f (by decide) (if_i ⟨bnd_some (by omega) (by omega), bnd_some (by omega) (by omega)⟩ ?_)
    rw [e0, e1]
    have hsp : path.data.toList.drop f = (path.data.toList.drop f).take (i - f) ++ 47 :: path.data.toList.drop (i + 1) := by
     have h1 : (path.data.toList.drop f).drop (i - f) = 47 :: path.data.toList.drop (i + 1) := by
      rw [List.drop_drop, show f + (i - f) = i from by omega, List.drop_eq_getElem_cons (by omega)]
      rw [List.getElem?_eq_getElem (by omega)] at hch
      rw [Option.some.inj hch]
     conv => lhs; rw [<- List.take_append_drop (i - f) (path.data.toList.drop f), h1]
    have hex : path.extract f i = ⟨⟨(path.data.toList.drop f).take (i - f)⟩⟩ := by
     apply bytes_ext
     rw [extract_toList]
     simp [List.drop_take]
    rw [hex]
    rw [parts_cons hsp hno] at hp
    generalize (⟨⟨(path.data.toList.drop f).take (i - f)⟩⟩ : ByteArray) = s at hp
    have hol2 : (okP s).length <= 1 := by unfold okP; split <;> simp
    refine j_i (fun j => ∀ y' τ' v1 v2 v3 v4 v5 v6, StrsNew σ τ' (out ++ okP s) y' -> j path y' (i : Int) v1 v2 v3 v4 v5 v6 τ') ?_ ?_
    ·intro y' τ' v1 v2 v3 v4 v5 v6 h
     rw [wrap_id (x := (i : Int) + 1) (by omega) (by omega)]
     have := hj7 (i + 1) (out ++ okP s) y' τ' v1 v2 v3 v4 (by omega) (by rw [List.length_append]; omega) h (by simp) (by rw [List.append_assoc]; exact hp)
     rw [show (i : Int) + 1 = ((i + 1 : Nat) : Int) from by omega]
     exact this
    intro j26 hj26
    refine j_i (fun j => ∀ v1 v2 v3 v4 v5 v6, j path y (i : Int) s v1 v2 v3 v4 v5 v6 (okPart s) τ) ?_ ?_
    ·intro v1 v2 v3 v4 v5 v6
     cases ho : okPart s with
     | true =>
      refine br_t rfl (app_str hS (by omega) ?_)
      intro y' σ' h'
      exact hj26 _ _ _ _ _ _ _ _ (by unfold okP; rw [ho]; exact h')
     | false =>
      refine br_f rfl (hj26 _ _ _ _ _ _ _ _ (by unfold okP; rw [ho]; simpa using hS))
    ·intro j36 hj36
     have ho : okPart s = (!strEq s ⟨⟨[]⟩⟩ && !strEq s ⟨⟨[46]⟩⟩) := by unfold okPart; rw [sEq_eq, sEq_eq]
     cases hs0 : strEq s ⟨⟨[]⟩⟩ with
     | true =>
      have := hj36 v1 v2 v3 v4 (.tuple ⟨[]⟩) (.tuple ⟨[]⟩)
      rw [ho, hs0] at this
      exact br_f rfl this
     | false =>
      have := fun a b => hj36 v1 v2 v3 v4 a b
      rw [ho, hs0] at this
      exact br_t rfl (this _ _)
   ·have hne : ¬ ((ch.toNat : Int) = 47) := by
     intro e
     apply hc47
     have : ch.toNat = 47 := by omega
     exact UInt8.toNat_inj.1 this
    refine br_t (by simpa using hne) ?_
    refine hj7 f out y τ _ _ _ _ (by omega) (by omega) hS ?_ hp
    rw [take_one hch f hf]
    simp only [List.mem_append, List.mem_singleton, not_or]
    exact ⟨hno, fun e => hc47 e.symm⟩
 exact key path.size 0 0 [] ⟨none, 0, 0⟩ σ (by omega) (by omega) (by simp) ⟨Gr.refl _, RowsOwn.nil _ _ _, by intro g h; cases h⟩ (by simp) (by simp [partsB])
theorem RfIn.keep {σ σ' : H} {b : Nat} {A : AT} {M : RfM} (h : RfIn σ b A M) (hk : ∀ c o, σ c = some o -> M.w c ≠ none -> σ' c = some o) : RfIn σ' b A M := by
 have hw : ∀ c r, M.w c = some r -> M.w c ≠ none := fun c r e => by rw [e]; simp
 refine ⟨hk _ _ h.top (hw _ _ h.wb), h.tab.keep fun g o hx hg => hk g o hg (hw _ _ (h.wt g hx)), fun i n hn => hk _ _ (h.nod i n hn) (hw _ _ (h.wn i n hn)), fun i n hn => (h.ent i n hn).keep fun g o hx hg => hk g o hg (hw _ _ (h.we i n g hn hx)), h.wb, h.wt, h.wn, h.we, fun c hc => ?_⟩
 have := h.has c hc
 cases ho : σ c with
 | none => exact absurd ho this
 | some o => rw [hk c o ho hc]; simp
def But (bh : Nat) (σ σ' : H) : Prop := ∀ c o, σ c = some o -> c ≠ bh -> σ' c = some o
theorem But.of_gr {bh : Nat} {σ σ' : H} (h : Gr σ σ') : But bh σ σ' := fun _ _ hc _ => h.get hc
theorem But.trans {bh : Nat} {σ σ' σ'' : H} (h : But bh σ σ') (k : But bh σ' σ'') : But bh σ σ'' := fun c o hc hn => k c o (h c o hc hn) hn
theorem But.put {bh b : Nat} {o : Obj} {σ σ' σ'' : H} (h : But bh σ σ') (hp : Put σ' b o σ'') (hn : σ b = none) : But bh σ σ'' := fun c o hc hne => hp.get (fun e => by rw [e, hn] at hc; cases hc) (h c o hc hne)
theorem But.puth {bh : Nat} {o : Obj} {σ σ' σ'' : H} (h : But bh σ σ') (hp : Put σ' bh o σ'') : But bh σ σ'' := fun c o hc hne => hp.get hne (h c o hc hne)
theorem RfIn.but {bh : Nat} {σ σ' : H} {b : Nat} {A : AT} {M : RfM} (h : RfIn σ b A M) (hw : M.w bh = none) (hb : But bh σ σ') : RfIn σ' b A M := h.keep fun c o hc hwc => hb c o hc (fun e => hwc (by rw [e]; exact hw))
theorem ret_pl {τ : H} {b6 : Nat} {l : List Value} {x z e : Int} {s : ByteArray} (h6 : τ b6 = some (.cells ⟨l⟩ 125 (0, 0))) (hl : l.length = 3) {K : KH} (hK : ∀ τ' o, Put τ b6 o τ' -> K (.tuple ⟨[.agg ⟨[.int .i64 x, .string s, .int .i64 z]⟩, .int .i64 e]⟩) τ') :
 stW Tryz.prog 125 (.pointer (some ⟨b6, 0, none⟩)) (.agg ⟨[.int .i64 x, .string s, .int .i64 z]⟩) (ptrW (some ⟨b6, 0, none⟩) (fun (b22 o23 : Nat) => rdT (rdA 3 b22 o23) (.one (.agg [(.int .i64), .str, (.int .i64)])) (fun (r24 : Int) (r25 : ByteArray) (r26 : Int) => K (.tuple ⟨[.agg ⟨[.int .i64 r24, .string r25, .int .i64 r26]⟩, .int .i64 e]⟩)))) τ := by
 match l, hl with
 | [l0, l1, l2], _ =>
  refine st_i2 h6 sz_RPlace (by rfl) (by rfl) ?_; intro τ' p
  refine ptr_i (rd_G (rdA_of' p.same (by rfl)) ?_)
  (refine app_of rfl ?_; try dsimp only)
  exact hK τ' _ p
theorem srow_at {τ : H} {L : List ByteArray} {y : Sl} (h : RowsOwn τ 9 1 (srows L) y) {i : Nat} {s : ByteArray} (hi : L[i]? = some s) : ∃ g o, y.base = some ⟨g, o, none⟩ /\ rdC g (o + i * 1) τ = some (.string s) := by
 have hr : (srows L)[i]? = some [.string s] := by unfold srows; rw [List.getElem?_map, hi]; rfl
 obtain ⟨h1, h2 | ⟨g, o, cur, t, fz, h2, h3, h4⟩⟩ := h.rows
 ·rw [h2] at hr; simp at hr
 ·refine ⟨g, o, h2, rdC_of h3 ?_⟩
  obtain ⟨_, h5⟩ := h4 i _ hr
  have : ((cur.drop (o + i * 1)).take 1)[0]? = some (.string s) := by rw [h5]; rfl
  rw [List.getElem?_take] at this
  simpa using this
theorem split_len (l : List UInt8) : (splitL 47 l).length <= l.length + 1 := by
 induction l with
 | nil => simp [splitL]
 | cons x r ih =>
  unfold splitL
  cases (x == 47) with
  | true => simp; exact ih
  | false =>
   cases h : splitL 47 r with
   | nil => simp
   | cons a t => rw [h] at ih; simp at ih ⊢; omega
theorem parts_len (path : ByteArray) : (partsB path).length <= path.size + 1 := by
 unfold partsB
 refine Nat.le_trans (List.length_filter_le ..) ?_
 rw [List.length_map, size_list]
 exact split_len _
def Good (A : AT) (p : Pl) : Prop := p.there = true -> ∃ n, A.get p.ino = some n
def plR (r : Int × Pl × Int) : List Value := if r.1 = 0 then plV r.2.1 else plZ
section
variable {A : AT} {N : Nat}
theorem step_case (hI : Wk.Inv A) {f : Nat} {fo : Bool} {name : ByteArray} {rest : List ByteArray} {p : Pl} {h' : Int} {r : Int × Pl × Int} {n : AN} (ht : p.there = true) (hn : A.get p.ino = some n)
 (hr : A.steps (fun d s x => A.walk f d s true x) fo (name :: rest) p h' = r) :
 (∃ e : Int, e ≠ 0 /\ (if A.kind p.ino ≠ 2 then Value.tuple ⟨[.agg ⟨plZ⟩, .int .i64 8]⟩ else if sEq name ⟨⟨[46, 46]⟩⟩ = true then .tuple ⟨[.agg ⟨plV ⟨A.upOf p.ino, ⟨⟨[]⟩⟩, A.upOf p.ino, true⟩⟩, .int .i64 0]⟩ else if name.size > 56 then .tuple ⟨[.agg ⟨plZ⟩, .int .i64 3]⟩ else .tuple ⟨[.agg ⟨plV ⟨p.ino, name, (A.find p.ino name).getD 0, (A.find p.ino name).isSome⟩⟩, .int .i64 0]⟩) = .tuple ⟨[.agg ⟨plZ⟩, .int .i64 e]⟩ /\ r = (e, Pl.z, h')) \/
 ∃ q : Pl, (if A.kind p.ino ≠ 2 then Value.tuple ⟨[.agg ⟨plZ⟩, .int .i64 8]⟩ else if sEq name ⟨⟨[46, 46]⟩⟩ = true then .tuple ⟨[.agg ⟨plV ⟨A.upOf p.ino, ⟨⟨[]⟩⟩, A.upOf p.ino, true⟩⟩, .int .i64 0]⟩ else if name.size > 56 then .tuple ⟨[.agg ⟨plZ⟩, .int .i64 3]⟩ else .tuple ⟨[.agg ⟨plV ⟨p.ino, name, (A.find p.ino name).getD 0, (A.find p.ino name).isSome⟩⟩, .int .i64 0]⟩) = .tuple ⟨[.agg ⟨plV q⟩, .int .i64 0]⟩ /\ Good A q /\
  ((((!rest.isEmpty) || fo) && (q.there && (A.kind q.ino == 3))) = false -> A.steps (fun d s x => A.walk f d s true x) fo rest q h' = r) /\
  ((((!rest.isEmpty) || fo) && (q.there && (A.kind q.ino == 3))) = true -> A.isDir q.dir /\ ((h' - 1 < 0 -> r = (9, Pl.z, h' - 1)) /\ (¬ h' - 1 < 0 -> ((A.walk f q.dir (A.data q.ino) true (h' - 1)).1 ≠ 0 -> r = ((A.walk f q.dir (A.data q.ino) true (h' - 1)).1, Pl.z, (A.walk f q.dir (A.data q.ino) true (h' - 1)).2.2)) /\ ((A.walk f q.dir (A.data q.ino) true (h' - 1)).1 = 0 -> A.steps (fun d s x => A.walk f d s true x) fo rest (A.walk f q.dir (A.data q.ino) true (h' - 1)).2.1 (A.walk f q.dir (A.data q.ino) true (h' - 1)).2.2 = r)))) := by
 by_cases h2 : A.kind p.ino = 2
 case neg => exact .inl ⟨8, by decide, by rw [if_pos h2], by rw [<- hr, steps_notdir ht h2]⟩
 have hd := kind_dir h2
 rw [if_neg (by simpa using h2)]
 cases h3 : sEq name ⟨⟨[46, 46]⟩⟩ with
 | true =>
  refine .inr ⟨⟨A.upOf p.ino, ⟨⟨[]⟩⟩, A.upOf p.ino, true⟩, by rw [if_pos rfl], ?_, ?_, ?_⟩
  ·intro _
   obtain ⟨m, hm, _⟩ := hI.isDir_up hd
   exact ⟨m, hm⟩
  ·intro _; rw [<- hr, steps_up ht h2 h3]
  ·intro hc
   have : A.kind (A.upOf p.ino) = 2 := dir_kind (hI.isDir_up hd)
   simp [this] at hc
 | false =>
  rw [if_neg (by decide)]
  by_cases h4 : name.size > 56
  ·exact .inl ⟨3, by decide, by rw [if_pos h4], by rw [<- hr, steps_long ht h2 h3 h4]⟩
  rw [if_neg h4]
  refine .inr ⟨⟨p.ino, name, (A.find p.ino name).getD 0, (A.find p.ino name).isSome⟩, rfl, ?_, ?_, ?_⟩
  ·intro hs
   obtain ⟨j, hj⟩ := Option.isSome_iff_exists.1 hs
   obtain ⟨_, _, _, _, _, m, hm, _⟩ := hI.find hj
   exact ⟨m, by rw [hj]; exact hm⟩
  ·intro hc
   have h5 : (A.find p.ino name).isSome = false \/ (rest.isEmpty && !fo) = true \/ A.kind ((A.find p.ino name).getD 0) ≠ 3 := by
    cases c1 : (A.find p.ino name).isSome with
    | false => exact .inl rfl
    | true =>
     by_cases c3 : A.kind ((A.find p.ino name).getD 0) = 3
     ·refine .inr (.inl ?_)
      simp only [c1, c3, beq_self_eq_true, Bool.and_true] at hc
      cases c4 : rest.isEmpty <;> cases c5 : fo <;> simp [c4, c5] at hc ⊢
     ·exact .inr (.inr c3)
   rw [<- hr, steps_name ht h2 h3 h4 h5]
  ·intro hc
   have h5 : ¬ ((A.find p.ino name).isSome = false \/ (rest.isEmpty && !fo) = true \/ A.kind ((A.find p.ino name).getD 0) ≠ 3) := by
    simp only [Bool.and_eq_true, Bool.or_eq_true, Bool.not_eq_true', beq_iff_eq] at hc
    obtain ⟨q1, q2, q3⟩ := hc
    rintro (e | e | e)
    ·rw [e] at q2; cases q2
    ·simp only [Bool.and_eq_true, Bool.not_eq_true'] at e
     rcases q1 with q1 | q1
     ·rw [q1] at e; cases e.1
     ·rw [q1] at e; cases e.2
    ·exact e q3
   refine ⟨hd, fun h6 => ?_, fun h6 => ⟨fun h7 => ?_, fun h7 => ?_⟩⟩
   ·rw [<- hr, steps_loop ht h2 h3 h4 h5 h6]
   ·rw [<- hr, steps_err ht h2 h3 h4 h5 h6 h7]
   ·rw [<- hr, steps_link ht h2 h3 h4 h5 h6 h7]
theorem s_rfWay (hI : Wk.Inv A) (hB : Bd N A) (hN : N <= 1000000000000) : ∀ (f : Nat) (d : Int) (path : ByteArray) (fo : Bool) (h : Int) {σ : H} {b bh : Nat} {M : RfM}, RfIn σ b A M -> A.isDir (d + 1) -> 0 <= h -> h + 2 <= f -> f <= 100 -> σ bh = some (.cells ⟨[.int .i64 h]⟩ 3 (0, 0)) -> M.w bh = none -> ∀ {K : KH}, (∀ σ', But bh σ σ' -> σ' bh = some (.cells ⟨[.int .i64 (A.walk f (d + 1) path fo h).2.2]⟩ 3 (0, 0)) -> K (.tuple ⟨[.agg ⟨plR (A.walk f (d + 1) path fo h)⟩, .int .i64 (A.walk f (d + 1) path fo h).1]⟩) σ') ->
 callW Tryz.prog 134 [.pointer (some ⟨b, 0, none⟩), .int .i64 d, .string path, .bool fo, .pointer (some ⟨bh, 0, none⟩)] K σ := by
 intro f
 induction f with
 | zero => intro d path fo h σ b bh M _ _ h0 hh; omega
 | succ f ih =>
  intro d path fo h σ b bh M hM hd h0 hh hf hbh hw K hK
  have hE : ∀ e, mayE path = e -> e ≠ 0 -> ∀ σ2, But bh σ σ2 -> σ2 bh = some (.cells ⟨[.int .i64 h]⟩ 3 (0, 0)) -> K (.tuple ⟨[.agg ⟨plZ⟩, .int .i64 e]⟩) σ2 := by
   intro e he hne σ2 hb hc
   have hwk : A.walk (f + 1) (d + 1) path fo h = (e, Pl.z, h) := by rw [AT.walk, if_pos (by rw [he]; exact hne), he]
   rw [hwk] at hK
   have := hK σ2 hb hc
   unfold plR at this
   rw [if_neg hne] at this
   exact this
  refine c134 _ _ _ _ _ ?_
  unfold g134
  refine al_i ?_; intro b6 σ1 g1 e1 n1
  have hbh1 := g1.get hbh
  have nb6 : b6 ≠ bh := by intro e; rw [e, hbh] at n1; cases n1
  cases c1 : sEq path ⟨⟨[]⟩⟩ with
  | true =>
   refine br_t (by rw [<- sEq_eq]; exact c1) ?_
   refine st_i2 e1 sz_RPlace (by rfl) (by rfl) ?_; intro σ2 p2
   refine rd_G (rdA_of' p2.same (by rfl)) ?_
   (refine app_of rfl ?_; try dsimp only)
   exact hE 5 (by unfold mayE; rw [c1]; rfl) (by decide) σ2 ((But.of_gr g1).put p2 n1) (p2.get (Ne.symm nb6) hbh1)
  | false =>
  refine br_f (by rw [<- sEq_eq]; exact c1) ?_
  by_cases c2 : path.size > 255
  ·refine br_t (by simp only [decide_eq_true_eq]; omega) ?_
   refine st_i2 e1 sz_RPlace (by rfl) (by rfl) ?_; intro σ2 p2
   refine rd_G (rdA_of' p2.same (by rfl)) ?_
   (refine app_of rfl ?_; try dsimp only)
   exact hE 3 (by unfold mayE; rw [c1, if_neg (by decide), if_pos c2]) (by decide) σ2 ((But.of_gr g1).put p2 n1) (p2.get (Ne.symm nb6) hbh1)
  refine br_f (by simp only [decide_eq_false_iff_not]; omega) (loop_i ?_)
  intro R hR
  have hlen : path.data.toList.length = path.size := (size_list path).symm
  have key : ∀ (c i : Nat), c + i = path.size -> (0 : UInt8) ∉ path.data.toList.take i -> R (some ⟨b, 0, none⟩) d path fo (some ⟨bh, 0, none⟩) (some ⟨b6, 0, none⟩) (i : Int) σ1 := by
   intro c
   induction c with
   | succ c ihc =>
    intro i hc hno
    refine hR _ _ _ _ _ _ _ _ ?_
    obtain ⟨ch, hch⟩ : ∃ ch, path.data.toList[i]? = some ch := ⟨_, List.getElem?_eq_getElem (by omega)⟩
    refine br_t (by simp only [decide_eq_true_eq]; omega) (idx_l (c := ch) (by omega) (by simpa using hch) ?_)
    by_cases hc0 : ch = 0
    ·subst hc0
     have hnul : hasNul path = true := by
      unfold hasNul
      rw [List.any_eq_true]
      exact ⟨0, List.mem_of_getElem? hch, by decide⟩
     refine br_t rfl (ret_pl e1 rfl ?_)
     intro σ2 o p2
     exact hE 2 (by unfold mayE; rw [c1, if_neg (by decide), if_neg c2, hnul]; rfl) (by decide) σ2 ((But.of_gr g1).put p2 n1) (p2.get (Ne.symm nb6) hbh1)
    ·refine br_f ?_ ?_
     ·have : ¬ ((ch.toNat : Int) = 0) := by
       intro e; apply hc0
       have : ch.toNat = 0 := by omega
       exact UInt8.toNat_inj.1 this
      simpa using this
     ·rw [wrap_id (x := (i : Int) + 1) (by omega) (by omega)]
      refine ihc (i + 1) (by omega) ?_
      rw [List.take_add_one, hch]
      simp only [Option.toList_some, List.mem_append, List.mem_singleton, not_or]
      exact ⟨hno, fun e => hc0 e.symm⟩
   | zero =>
    intro i hc hno
    have hi : i = path.size := by omega
    have hnul : hasNul path = false := by
     rw [hi, <- hlen, List.take_length] at hno
     unfold hasNul
     rw [List.any_eq_false]
     intro x hx
     simp only [beq_iff_eq]
     rintro rfl; exact hno hx
    have hm : mayE path = 0 := by unfold mayE; rw [c1, if_neg (by decide), if_neg c2, hnul]; rfl
    refine hR _ _ _ _ _ _ _ _ ?_
    refine br_f (by simp only [decide_eq_false_iff_not]; omega) ?_
    have hwk : A.walk (f + 1) (d + 1) path fo h = A.steps (fun d s h' => A.walk f d s true h') fo (partsB path) ⟨if headIs 47 path then 1 else d + 1, ⟨⟨[]⟩⟩, if headIs 47 path then 1 else d + 1, true⟩ h := by
     rw [AT.walk, if_neg (by simpa using hm)]
    generalize hr : A.walk (f + 1) (d + 1) path fo h = r at hK hwk
    refine j_i (fun j => ∀ ad : Int, ad + 1 = (if headIs 47 path then 1 else d + 1) -> j (some ⟨b, 0, none⟩) ad path fo (some ⟨bh, 0, none⟩) (some ⟨b6, 0, none⟩) σ1) ?_ ?_
    case refine_2 =>
     intro j hj
     cases hl : path.data.toList with
     | nil =>
      exfalso
      have : path = ⟨⟨[]⟩⟩ := bytes_ext hl
      rw [this] at c1; exact absurd c1 (by decide)
     | cons c0 cr =>
      have hh0 : headIs 47 path = (c0 == 47) := by unfold headIs; rw [hl]
      refine idx_l (c := c0) (by decide) (by rw [hl]; rfl) ?_
      rw [hh0] at hj
      by_cases e47 : c0 = 47
      ·subst e47
       exact br_t rfl (hj 0 (by simp))
      ·refine br_f ?_ (hj d (by simp [e47]))
       have : ¬ ((c0.toNat : Int) = 47) := by
        intro e; apply e47
        have : c0.toNat = 47 := by omega
        exact UInt8.toNat_inj.1 this
       simpa using this
    intro ad had
    rw [<- had] at hwk
    have hda : A.isDir (ad + 1) := by
     rw [had]
     cases headIs 47 path with
     | true => exact hI.root_dir
     | false => exact hd
    refine al_i ?_; intro b34 σ2 g2 e2 n2
    refine st_i2 e2 sz_RPlace (by rfl) (by rfl) ?_; intro σ3 p3
    have k34 : σ3 b34 = some (.cells ⟨plV ⟨ad + 1, ⟨⟨[]⟩⟩, ad + 1, true⟩⟩ 125 (0, 0)) := by
     have e : plV ⟨ad + 1, ⟨⟨[]⟩⟩, ad + 1, true⟩ = [.int .i64 ad, .string ⟨⟨[]⟩⟩, .int .i64 ad] := by
      unfold plV; simp
     rw [e]; exact p3.same
    have g3 : Gr σ1 σ3 := g2.putF p3 n2
    refine call_i (s_rfNames path (by omega) ?_)
    intro y σ4 hS
    obtain ⟨g4, own, fr⟩ := hS
    refine app_L (loop_i ?_)
    intro R2 hR2
    have n6 : σ b6 = none := n1
    have n34 : σ b34 = none := none_of g1 n2
    have nb34 : b34 ≠ bh := by intro e; rw [e, hbh] at n34; cases n34
    have nb34b : b34 ≠ b6 := by intro e; rw [e, e1] at n2; cases n2
    have hyb : ∀ g, y.base = some ⟨g, 0, none⟩ -> g ≠ bh /\ g ≠ b34 /\ g ≠ b6 := by
     intro g hg
     have hn := fr g hg
     refine ⟨?_, ?_, ?_⟩
     ·intro e; rw [e, g3.get hbh1] at hn; cases hn
     ·intro e; rw [e, k34] at hn; cases hn
     ·intro e; rw [e, g3.get e1] at hn; cases hn
    have hLz : (partsB path).length <= 300 := by
     have := parts_len path
     omega
    generalize partsB path = L at hwk own hLz
    have hyl : y.len = L.length := by have := own.1; simpa [srows] using this
    have key2 : ∀ (c i : Nat) (p : Pl) (h' : Int) (τ : H), c + i = L.length -> But bh σ τ -> τ b6 = some (.cells ⟨plZ⟩ 125 (0, 0)) -> τ b34 = some (.cells ⟨plV p⟩ 125 (0, 0)) -> τ bh = some (.cells ⟨[.int .i64 h']⟩ 3 (0, 0)) -> RowsOwn τ 9 1 (srows L) y -> Good A p -> 0 <= h' -> h' <= h -> A.steps (fun d s h' => A.walk f d s true h') fo (L.drop i) p h' = r -> R2 (some ⟨b, 0, none⟩) fo (some ⟨bh, 0, none⟩) (some ⟨b6, 0, none⟩) (some ⟨b34, 0, none⟩) y (i : Int) τ := by
     intro c
     induction c with
     | zero =>
      intro i p h' τ hc hBu k6 k34 kh own hG z0 z1 hs
      rw [show L.drop i = [] from List.drop_eq_nil_of_le (by omega)] at hs
      have hs : (0, p, h') = r := hs
      subst hs
      refine hR2 _ _ _ _ _ _ _ _ ?_
      unfold plV at k34
      refine br_f (by simp only [decide_eq_false_iff_not]; omega) (ptr_i (rd_G (rdA_of' k34 (by rfl)) ?_))
      (refine app_of rfl ?_; try dsimp only)
      refine ret_pl k6 rfl ?_
      intro τ' o hp
      exact hK τ' (hBu.put hp n6) (hp.get (Ne.symm nb6) kh)
     | succ c ihc =>
      intro i p h' τ hc hBu k6 k34 kh own hG z0 z1 hs
      refine hR2 _ _ _ _ _ _ _ _ ?_
      refine br_t (by simp only [decide_eq_true_eq]; omega) ?_
      have ferr : ∀ (e : Int) (h'' : Int) (τ' : H), e ≠ 0 -> r = (e, Pl.z, h'') -> But bh σ τ' -> τ' bh = some (.cells ⟨[.int .i64 h'']⟩ 3 (0, 0)) -> K (.tuple ⟨[.agg ⟨[.int .i64 0, .string ⟨⟨[]⟩⟩, .int .i64 0]⟩, .int .i64 e]⟩) τ' := by
       intro e h'' τ' he hre hb hk
       subst hre
       have := hK τ' hb hk
       unfold plR at this
       rw [if_neg he] at this
       exact this
      refine j_i (fun j => ∀ (p' : Pl) (h'' : Int) (τ' : H) v1 v2 v3 v4 v5 v6 v7 v8 v9 v10 v11 v12 v13 v14 v15 v16, But bh σ τ' -> τ' b6 = some (.cells ⟨plZ⟩ 125 (0, 0)) -> τ' b34 = some (.cells ⟨plV p'⟩ 125 (0, 0)) -> τ' bh = some (.cells ⟨[.int .i64 h'']⟩ 3 (0, 0)) -> RowsOwn τ' 9 1 (srows L) y -> Good A p' -> 0 <= h'' -> h'' <= h -> A.steps (fun d s h' => A.walk f d s true h') fo (L.drop (i + 1)) p' h'' = r -> j (some ⟨b, 0, none⟩) fo (some ⟨bh, 0, none⟩) (some ⟨b6, 0, none⟩) (some ⟨b34, 0, none⟩) y (i : Int) v1 v2 v3 v4 v5 v6 v7 v8 v9 v10 v11 v12 v13 v14 v15 v16 τ') ?_ ?_
      ·intro p' h'' τ' v1 v2 v3 v4 v5 v6 v7 v8 v9 v10 v11 v12 v13 v14 v15 v16 a1 a2 a3 a4 a5 a6 a7 a8 a9
       rw [wrap_id (x := (i : Int) + 1) (by omega) (by omega)]
       rw [show (i : Int) + 1 = ((i + 1 : Nat) : Int) from by omega]
       exact ihc (i + 1) p' h'' τ' (by omega) a1 a2 a3 a4 a5 a6 a7 a8 a9
      intro j44 h44
      obtain ⟨name, hname⟩ : ∃ name, L[i]? = some name := ⟨_, List.getElem?_eq_getElem (by omega)⟩
      have hdrop : L.drop i = name :: L.drop (i + 1) := by
       rw [List.drop_eq_getElem_cons (by omega)]
       rw [List.getElem?_eq_getElem (by omega)] at hname
       rw [Option.some.inj hname]
      rw [hdrop] at hs
      cases ht : p.there with
      | false =>
       rw [steps_none ht] at hs
       unfold plV at k34
       rw [ht] at k34
       refine ptr_i (rd_I (rdC_of k34 (by rfl)) (br_t rfl (ret_pl k6 rfl ?_)))
       intro τ' o hp
       exact ferr 5 h' τ' (by decide) hs.symm (hBu.put hp n6) (hp.get (Ne.symm nb6) kh)
      | true =>
       obtain ⟨n, hn⟩ := hG ht
       have hlow := (hI.low _ _ hn).1
       have hcase := step_case hI ht hn hs
       have hp1 : p.ino - 1 + 1 = p.ino := by omega
       unfold plV at k34
       rw [if_pos ht] at k34
       obtain ⟨gy, oy, q1, q2⟩ := srow_at own hname
       refine ptr_i (rd_I (rdC_of k34 (by rfl)) (br_f (by simp only [decide_eq_false_iff_not]; omega) (ptr_i (rd_I (rdC_of k34 (by rfl)) ?_))))
       rw [q1]
       have e0 : (i : Int).toNat = i := by omega
       refine ptr_i (if_i ⟨by omega, by omega⟩ (rd_S (by rw [e0]; exact q2) ?_))
       refine call_i (s_rfStep (hM.but hw hBu) hI hB hN (d := p.ino - 1) (n := n) (by rw [hp1]; exact hn) name ?_)
       intro τ1 gt
       rw [hp1]
       have k6 := gt.get k6
       have k34 := gt.get k34
       have kh := gt.get kh
       have own := own.gr gt
       have hBu := hBu.trans (But.of_gr gt)
       rcases hcase with ⟨e, he, hv, hre⟩ | ⟨q, hv, hGq, hq1, hq2⟩
       ·rw [hv]
        unfold plZ
        (refine app_of rfl ?_; try dsimp only)
        refine al_i ?_; intro b86 τ2 g5 e5 n5
        refine st_i2 e5 sz_RPlace (by rfl) (by rfl) ?_; intro τ3 p5
        have g6 : Gr τ1 τ3 := g5.putF p5 n5
        refine br_t (by simpa using he) (ret_pl (g6.get k6) rfl ?_)
        intro τ' o hp
        exact ferr e h' τ' he hre ((hBu.trans (But.of_gr g6)).put hp n6) (hp.get (Ne.symm nb6) (g6.get kh))
       ·rw [hv]
        unfold plV
        (refine app_of rfl ?_; try dsimp only)
        refine al_i ?_; intro b86 τ2 g5 e5 n5
        refine st_i2 e5 sz_RPlace (by rfl) (by rfl) ?_; intro τ3 p5
        have g6 : Gr τ1 τ3 := g5.putF p5 n5
        refine br_f rfl (rd_G (rdA_of' p5.same (by rfl)) ?_)
        (refine app_of rfl ?_; try dsimp only)
        refine st_i2 (g6.get k34) sz_RPlace (by rfl) (by rfl) ?_; intro τ4 p6
        have k34q : τ4 b34 = some (.cells ⟨[.int .i64 (q.dir - 1), .string q.name, .int .i64 (if q.there then q.ino - 1 else -1)]⟩ 125 (0, 0)) := p6.same
        have k6q := p6.get (Ne.symm nb34b) (g6.get k6)
        have khq := p6.get (Ne.symm nb34) (g6.get kh)
        have ownq := (own.gr g6).put p6 (fun e => (hyb b34 e).2.1 rfl)
        have hBq : But bh σ τ4 := (hBu.trans (But.of_gr g6)).put p6 n34
        have hM4 := hM.but hw hBq
        clear p5 p6 e5 k34 k6 kh own hBu
        have hmore : decide ((i : Int) + 1 < ((y.len : Nat) : Int)) = !(L.drop (i + 1)).isEmpty := by
         have hdl : (L.drop (i + 1)).length = L.length - (i + 1) := List.length_drop
         cases hD : L.drop (i + 1) with
         | nil => rw [hD] at hdl; simp at hdl; simp; omega
         | cons a r => rw [hD] at hdl; simp at hdl; simp; omega
        generalize hT : (((!(L.drop (i + 1)).isEmpty) || fo) && (q.there && (A.kind q.ino == 3))) = t at hq1 hq2
        refine j_i (fun j => ∀ v1 v2 v3 v4 v5 v6 v7 v8 v9 v10 v11 v12 v13 v14 v15 v16, j (some ⟨b, 0, none⟩) fo (some ⟨bh, 0, none⟩) (some ⟨b6, 0, none⟩) (some ⟨b34, 0, none⟩) y (i : Int) v1 v2 v3 v4 v5 v6 v7 v8 v9 v10 v11 v12 v13 v14 v15 v16 t τ4) ?_ ?_
        case refine_2 =>
         intro j95 h95
         rw [wrap_id (x := (i : Int) + 1) (by omega) (by omega), hmore]
         cases hqt : q.there with
         | false =>
          have ht0 : t = false := by rw [<- hT, hqt]; simp
          rw [ht0] at h95
          rw [if_neg (by rw [hqt]; decide)] at k34q
          cases (L.drop (i + 1)).isEmpty with
          | false => exact br_t rfl (ptr_i (rd_I (rdC_of k34q (by rfl)) (br_f rfl (h95 _ _ _ _ _ _ _ _ _ _ _ _ _ _ _ _))))
          | true =>
           refine br_f rfl ?_
           cases fo with
           | true => exact br_t rfl (ptr_i (rd_I (rdC_of k34q (by rfl)) (br_f rfl (h95 _ _ _ _ _ _ _ _ _ _ _ _ _ _ _ _))))
           | false => exact br_f rfl (h95 _ _ _ _ _ _ _ _ _ _ _ _ _ _ _ _)
         | true =>
          obtain ⟨nq, hnq⟩ := hGq hqt
          have hqlow := (hI.low _ _ hnq).1
          have hq11 : q.ino - 1 + 1 = q.ino := by omega
          have hkq : A.kind q.ino = nq.kind := by unfold AT.kind; rw [hnq]; rfl
          rw [if_pos hqt] at k34q
          obtain ⟨gs, os, s1, s2, s3⟩ := hM4.slot hI (d := q.ino - 1) (n := nq) (by rw [hq11]; exact hnq)
          rw [hq11] at s3
          rw [hkq, hqt] at hT
          cases hem : (L.drop (i + 1)).isEmpty with
          | false =>
           have ht1 : t = (nq.kind == 3) := by rw [<- hT, hem]; simp
           rw [ht1] at h95
           refine br_t rfl (ptr_i (rd_I (rdC_of k34q (by rfl)) (br_t (by simp only [decide_eq_true_eq]; omega) ?_)))
           refine ptr_i (rd_L (rdC_of hM4.top (by rfl)) (ptr_i (rd_I (rdC_of k34q (by rfl)) ?_)))
           rw [s1]
           exact ptr_i (if_i s2 (rd_P s3 (ptr_i (rd_I (rdC_of (hM4.nod _ _ hnq) (by rfl)) (h95 _ _ _ _ _ _ _ _ _ _ _ _ _ _ _ _)))))
          | true =>
           refine br_f rfl ?_
           cases fo with
           | true =>
            have ht1 : t = (nq.kind == 3) := by rw [<- hT, hem]; simp
            rw [ht1] at h95
            refine br_t rfl (ptr_i (rd_I (rdC_of k34q (by rfl)) (br_t (by simp only [decide_eq_true_eq]; omega) ?_)))
            refine ptr_i (rd_L (rdC_of hM4.top (by rfl)) (ptr_i (rd_I (rdC_of k34q (by rfl)) ?_)))
            rw [s1]
            exact ptr_i (if_i s2 (rd_P s3 (ptr_i (rd_I (rdC_of (hM4.nod _ _ hnq) (by rfl)) (h95 _ _ _ _ _ _ _ _ _ _ _ _ _ _ _ _)))))
           | false =>
            have ht1 : t = false := by rw [<- hT, hem]; simp
            rw [ht1] at h95
            exact br_f rfl (h95 _ _ _ _ _ _ _ _ _ _ _ _ _ _ _ _)
        intro v1 v2 v3 v4 v5 v6 v7 v8 v9 v10 v11 v12 v13 v14 v15 v16
        cases t with
        | false =>
         exact br_f rfl (h44 q h' τ4 _ _ _ _ _ _ _ _ _ _ _ _ _ _ _ _ hBq k6q k34q khq ownq hGq z0 z1 (hq1 rfl))
        | true =>
         obtain ⟨hqd, hq9, hqw⟩ := hq2 rfl
         have hqt : q.there = true := by
          simp only [Bool.and_eq_true] at hT
          exact hT.2.1
         obtain ⟨nq, hnq⟩ := hGq hqt
         have hqlow := (hI.low _ _ hnq).1
         have hq11 : q.ino - 1 + 1 = q.ino := by omega
         have hd11 : q.dir - 1 + 1 = q.dir := by omega
         have hdat : A.data q.ino = nq.data := by unfold AT.data; rw [hnq]; rfl
         rw [hdat] at hqw
         rw [if_pos hqt] at k34q
         refine br_t rfl (ptr_i (rd_I (rdC_of khq (by rfl)) (ptr_i ?_)))
         rw [wrap_id (x := h' - 1) (by omega) (by omega)]
         refine st_i2 khq sz_int (by rfl) (by rfl) ?_; intro τ5 p7
         have kh5 : τ5 bh = some (.cells ⟨[.int .i64 (h' - 1)]⟩ 3 (0, 0)) := p7.same
         have k65 := p7.get nb6 k6q
         have k345 := p7.get nb34 k34q
         have own5 := ownq.put p7 (fun e => (hyb bh e).1 rfl)
         have hB5 : But bh σ τ5 := hBq.puth p7
         have hM5 := hM.but hw hB5
         clear p7
         refine ptr_i (rd_I (rdC_of kh5 (by rfl)) ?_)
         by_cases h6 : h' - 1 < 0
         ·refine br_t (by simpa using h6) (ret_pl k65 rfl ?_)
          intro τ' o hp
          exact ferr 9 (h' - 1) τ' (by decide) (hq9 h6) (hB5.put hp n6) (hp.get (Ne.symm nb6) kh5)
         ·obtain ⟨hw1, hw2⟩ := hqw h6
          obtain ⟨gs, os, s1, s2, s3⟩ := hM5.slot hI (d := q.ino - 1) (n := nq) (by rw [hq11]; exact hnq)
          rw [hq11] at s3
          refine br_f (by simpa using h6) (ptr_i (rd_I (rdC_of k345 (by rfl)) ?_))
          refine ptr_i (rd_L (rdC_of hM5.top (by rfl)) (ptr_i (rd_I (rdC_of k345 (by rfl)) ?_)))
          rw [s1]
          refine ptr_i (if_i s2 (rd_P s3 (ptr_i (rd_S (rdC_of (hM5.nod _ _ hnq) (by rfl)) ?_))))
          refine call_i (ih (q.dir - 1) nq.data true (h' - 1) hM5 (by rw [hd11]; exact hqd) (by omega) (by omega) (by omega) kh5 hw ?_)
          intro τ6 hb6 kh6
          rw [hd11] at kh6 ⊢
          have hops := walk_hops A f q.dir nq.data true (h' - 1) (by omega)
          have hpl := fun e => walk_place hI f q.dir nq.data true (h' - 1) hqd e
          generalize A.walk f q.dir nq.data true (h' - 1) = W at hw1 hw2 kh6 hops hpl ⊢
          obtain ⟨w1, w2, w3⟩ := W
          have k66 := hb6 _ _ k65 nb6
          have k346 := hb6 _ _ k345 nb34
          have own6 := own5.keep fun g o hx hg => hb6 g o hg (hyb g hx).1
          have hB6 := hB5.trans hb6
          by_cases hW0 : w1 = 0
          ·subst hW0
           have hgw : Good A w2 := fun e => PlOk.get hI (hpl rfl) e
           unfold plR
           rw [if_pos rfl]
           unfold plV
           (refine app_of rfl ?_; try dsimp only)
           refine st_i2 k346 sz_RPlace (by rfl) (by rfl) ?_; intro τ7 p8
           refine br_f rfl (h44 w2 w3 τ7 _ _ _ _ _ _ _ _ _ _ _ _ _ _ _ _ (hB6.put p8 n34) (p8.get (Ne.symm nb34b) k66) p8.same (p8.get (Ne.symm nb34) kh6) (own6.put p8 (fun e => (hyb b34 e).2.1 rfl)) hgw (hops.2.2 rfl) (by have := hops.2.1; simp only at this; omega) (hw2 rfl))
          ·unfold plR
           rw [if_neg hW0]
           unfold plZ
           (refine app_of rfl ?_; try dsimp only)
           refine st_i2 k346 sz_RPlace (by rfl) (by rfl) ?_; intro τ7 p8
           refine br_t (by simpa using hW0) (ret_pl (p8.get (Ne.symm nb34b) k66) rfl ?_)
           intro τ' o hp
           exact ferr w1 w3 τ' hW0 (hw1 hW0) ((hB6.put p8 n34).put hp n6) (hp.get (Ne.symm nb6) (p8.get (Ne.symm nb34) kh6))
    refine key2 L.length 0 ⟨ad + 1, ⟨⟨[]⟩⟩, ad + 1, true⟩ h σ4 (by omega) (But.of_gr (g1.trans (g3.trans g4))) (g4.get (g3.get e1)) (g4.get k34) (g4.get (g3.get hbh1)) own ?_ h0 (Int.le_refl _) (by simpa using hwk.symm)
    intro _
    obtain ⟨n, hn, _⟩ := hda
    exact ⟨n, hn⟩
  exact key path.size 0 (by omega) (by simp)
end
end Go.Proofs.YthclifcpjnhmjaaGreatDoor

set_option maxRecDepth 100000
namespace Go.Proofs.YthclifcpjnhmjaaGreatDoor
open Go Go.HL Go.Wk
theorem But.gr {bh : Nat} {σ σ' : H} (h : But bh σ σ') (hn : σ bh = none) : Gr σ σ' := fun c o hc => h c o hc (fun e => by rw [e, hn] at hc; cases hc)
attribute [local irreducible] ptrW ifW brW andW rdT alW letJ stW muW biW vaW imW callT cvalT app callW invW callVW sizeT oW nilF oneK loopW rfW funW begW roundK exW idxW Gr Put
theorem byte_ne (c : UInt8) : (((c.toNat : Int) : Int) != 47) = !(c == 47) := by
 by_cases h : c = 47
 ·subst h; rfl
 ·have : ¬ ((c.toNat : Int) = 47) := by
   intro e; apply h
   have : c.toNat = 47 := by omega
   exact UInt8.toNat_inj.1 this
  have h1 : (((c.toNat : Int) : Int) != 47) = true := by simpa using this
  have h2 : (c == 47) = false := by simpa using h
  rw [h1, h2]; rfl
theorem head_at {s : ByteArray} (h : sEq s ⟨⟨[]⟩⟩ = false) : ∃ c, s.data.toList[(0 : Int).toNat]? = some c /\ headIs 47 s = (c == 47) := by
 cases hl : s.data.toList with
 | nil =>
  exfalso
  have : s = ⟨⟨[]⟩⟩ := bytes_ext hl
  rw [this] at h; exact absurd h (by decide)
 | cons c r => exact ⟨c, rfl, by unfold headIs; rw [hl]⟩
def plL (r : Int × Pl) : List Value := if r.1 = 0 then plV r.2 else plZ
section
variable {σ : H} {b : Nat} {A : AT} {M : RfM} {N : Nat}
theorem RfIn.new (h : RfIn σ b A M) {c : Nat} (hc : σ c = none) : M.w c = none := by
 cases hw : M.w c with
 | none => rfl
 | some r => exact absurd hc (h.has c (by rw [hw]; simp))
theorem s_rfGo (hI : Wk.Inv A) (hB : Bd N A) (hN : N <= 1000000000000) (hM : RfIn σ b A M) (cwd path : ByteArray) (fo : Bool) {K : KH} (hK : ∀ σ', Gr σ σ' -> K (.tuple ⟨[.agg ⟨plL (A.locate cwd path fo)⟩, .int .i64 (A.locate cwd path fo).1]⟩) σ') :
 callW Tryz.prog 80 [.pointer (some ⟨b, 0, none⟩), .string cwd, .string path, .bool fo] K σ := by
 refine c80 _ _ _ _ ?_
 unfold g80
 refine al_i ?_; intro b5 σ1 g1 e1 n1
 refine al_i ?_; intro b6 σ2 g2 e2 n2
 refine st_i2 e2 sz_int (by rfl) (by rfl) ?_; intro σ3 p3
 have k6 : σ3 b6 = some (.cells ⟨[.int .i64 8]⟩ 3 (0, 0)) := p3.same
 have n6 : σ b6 = none := none_of g1 n2
 have n56 : b5 ≠ b6 := by intro e; rw [<- e, e1] at n2; cases n2
 have g3 : Gr σ σ3 := (g1.trans g2).putF p3 n6
 have k5 : σ3 b5 = some (.cells ⟨plZ⟩ 125 (0, 0)) := p3.get n56 (g2.get e1)
 have hw6 := hM.new n6
 clear p3 e1 e2
 generalize hloc : A.locate cwd path fo = r at hK
 have hR : ∀ e τ, e ≠ 0 -> r.1 = e -> Gr σ τ -> K (.tuple ⟨[.agg ⟨[.int .i64 0, .string ⟨⟨[]⟩⟩, .int .i64 0]⟩, .int .i64 e]⟩) τ := by
  intro e τ he hr hg
  have := hK τ hg
  unfold plL at this
  rw [hr, if_neg he] at this
  exact this
 refine j_i (fun j => ∀ (ad : Int) τ, A.isDir (ad + 1) -> (A.walk 10 (ad + 1) path fo 8).1 = r.1 -> ((A.walk 10 (ad + 1) path fo 8).1 = 0 -> (A.walk 10 (ad + 1) path fo 8).2.1 = r.2) -> But b6 σ τ -> τ b5 = some (.cells ⟨plZ⟩ 125 (0, 0)) -> τ b6 = some (.cells ⟨[.int .i64 8]⟩ 3 (0, 0)) -> j (some ⟨b, 0, none⟩) path fo (some ⟨b5, 0, none⟩) ad (some ⟨b6, 0, none⟩) τ) ?_ ?_
 ·intro ad τ hd w1 w2 hBu k5 k6
  refine call_i (s_rfWay hI hB hN 10 ad path fo 8 (hM.but hw6 hBu) hd (by decide) (by decide) (by decide) k6 hw6 ?_)
  intro τ' hb kh
  generalize A.walk 10 (ad + 1) path fo 8 = W at w1 w2 kh ⊢
  obtain ⟨x1, x2, x3⟩ := W
  have k5' := hb _ _ k5 n56
  have hB' := hBu.trans hb
  unfold plR
  by_cases h0 : x1 = 0
  ·subst h0
   rw [if_pos rfl]
   unfold plV
   (refine app_of rfl ?_; try dsimp only)
   refine ret_pl k5' rfl ?_
   intro τ2 o hp
   have := hK τ2 ((hB'.gr n6).putF hp n1)
   unfold plL at this
   have hr1 : r.1 = 0 := w1.symm
   rw [hr1, if_pos rfl, <- w2 rfl] at this
   exact this
  ·rw [if_neg h0]
   unfold plZ
   (refine app_of rfl ?_; try dsimp only)
   refine ret_pl k5' rfl ?_
   intro τ2 o hp
   exact hR x1 τ2 h0 w1.symm ((hB'.gr n6).putF hp n1)
 intro j7 h7
 have hB3 : But b6 σ σ3 := But.of_gr g3
 refine j_i (fun j => ∀ t : Bool, (t = false -> headIs 47 path = true) -> (t = true -> headIs 47 path = false) -> j (some ⟨b, 0, none⟩) cwd path fo (some ⟨b5, 0, none⟩) 0 (some ⟨b6, 0, none⟩) t σ3) ?_ ?_
 case refine_2 =>
  intro j hj
  cases h0 : sEq path ⟨⟨[]⟩⟩ with
  | true => exact br_t (by rw [<- sEq_eq]; exact h0) (hj true (fun e => by cases e) (fun _ => by rw [sEq_iff.1 h0]; rfl))
  | false =>
   obtain ⟨c, hc, hh⟩ := head_at h0
   refine br_f (by rw [<- sEq_eq]; exact h0) (idx_l (by decide) hc ?_)
   rw [byte_ne]
   refine hj _ (fun e => ?_) (fun e => ?_)
   ·rw [hh]; simpa using e
   ·rw [hh]; simpa using e
 intro t ht1 ht2
 cases t with
 | false =>
  have hh := ht1 rfl
  have h0 : sEq path ⟨⟨[]⟩⟩ = false := headIs_ne hh
  refine br_f rfl (h7 0 σ3 hI.root_dir ?_ ?_ hB3 k5 k6)
  ·rw [<- hloc]; unfold AT.locate; rw [h0, hh]; rfl
  ·intro _; rw [<- hloc]; unfold AT.locate; rw [h0, hh]; rfl
 | true =>
  have hh := ht2 rfl
  refine br_t rfl ?_
  cases h0 : sEq path ⟨⟨[]⟩⟩ with
  | true =>
   refine br_t (by rw [<- sEq_eq]; exact h0) (ret_pl k5 rfl ?_)
   intro τ o hp
   exact hR 5 τ (by decide) (by rw [<- hloc]; unfold AT.locate; rw [h0]; rfl) (g3.putF hp n1)
  | false =>
   refine br_f (by rw [<- sEq_eq]; exact h0) ?_
   refine j_i (fun j => ∀ t : Bool, (t = false -> headIs 47 cwd = true) -> (t = true -> headIs 47 cwd = false) -> j (some ⟨b, 0, none⟩) cwd path fo (some ⟨b5, 0, none⟩) (some ⟨b6, 0, none⟩) t σ3) ?_ ?_
   case refine_2 =>
    intro j hj
    cases hc0 : sEq cwd ⟨⟨[]⟩⟩ with
    | true => exact br_t (by rw [<- sEq_eq]; exact hc0) (hj true (fun e => by cases e) (fun _ => by rw [sEq_iff.1 hc0]; rfl))
    | false =>
     obtain ⟨c, hc, hhc⟩ := head_at hc0
     refine br_f (by rw [<- sEq_eq]; exact hc0) (idx_l (by decide) hc ?_)
     rw [byte_ne]
     refine hj _ (fun e => ?_) (fun e => ?_)
     ·rw [hhc]; simpa using e
     ·rw [hhc]; simpa using e
   intro t ht1 ht2
   cases t with
   | true =>
    have hc := ht2 rfl
    refine br_t rfl (ret_pl k5 rfl ?_)
    intro τ o hp
    exact hR 5 τ (by decide) (by rw [<- hloc]; unfold AT.locate; rw [h0, hh, hc]; rfl) (g3.putF hp n1)
   | false =>
    have hc := ht1 rfl
    refine br_f rfl (call_i (s_rfWay hI hB hN 10 0 cwd true 8 (hM.but hw6 hB3) hI.root_dir (by decide) (by decide) (by decide) k6 hw6 ?_))
    intro τ hb kh
    have hl : r = (let w := A.walk 10 1 cwd true 8
     if w.1 ≠ 0 then (w.1, Pl.z) else if w.2.1.there = false then (5, Pl.z) else if A.kind w.2.1.ino ≠ 2 then (8, Pl.z) else let r' := A.walk 10 w.2.1.ino path fo 8; (r'.1, r'.2.1)) := by
     rw [<- hloc]; unfold AT.locate; rw [h0, hh, hc]; rfl
    have hpl := fun e => walk_place hI 10 1 cwd true 8 hI.root_dir e
    rw [show (0 : Int) + 1 = 1 from rfl] at kh ⊢
    generalize A.walk 10 1 cwd true 8 = W at hl kh hpl ⊢
    obtain ⟨x1, x2, x3⟩ := W
    have k5' := hb _ _ k5 n56
    have hB' := hB3.trans hb
    unfold plR
    by_cases hx : x1 = 0
    case neg =>
     rw [if_neg hx]
     have hl1 : r = (x1, Pl.z) := by rw [hl]; simp [hx]
     unfold plZ
     (refine app_of rfl ?_; try dsimp only)
     refine al_i ?_; intro b54 τ2 g4 e4 n4
     refine st_i2 e4 sz_RPlace (by rfl) (by rfl) ?_; intro τ3 p4
     have g5 : Gr τ τ3 := g4.putF p4 n4
     refine br_t (by simpa using hx) (ret_pl (g5.get k5') rfl ?_)
     intro τ4 o hp
     exact hR x1 τ4 hx (by rw [hl1]) (((hB'.gr n6).trans g5).putF hp n1)
    subst hx
    rw [if_pos rfl]
    simp only [ne_eq, not_true_eq_false, if_false] at hl
    unfold plV
    (refine app_of rfl ?_; try dsimp only)
    refine al_i ?_; intro b54 τ2 g4 e4 n4
    refine st_i2 e4 sz_RPlace (by rfl) (by rfl) ?_; intro τ3 p4
    have g5 : Gr τ τ3 := g4.putF p4 n4
    have k54 : τ3 b54 = some (.cells ⟨[.int .i64 (x2.dir - 1), .string x2.name, .int .i64 (if x2.there then x2.ino - 1 else -1)]⟩ 125 (0, 0)) := p4.same
    have hB5 : But b6 σ τ3 := hB'.trans (But.of_gr g5)
    have hM5 := hM.but hw6 hB5
    have k55 := g5.get k5'
    have kh5 := g5.get kh
    have n546 : b54 ≠ b6 := by intro e; rw [e, kh] at n4; cases n4
    clear p4 e4
    cases hxt : x2.there with
    | false =>
     rw [if_neg (by rw [hxt]; decide)] at k54
     rw [if_pos hxt] at hl
     refine br_f rfl (rd_I (rdC_of k54 (by rfl)) (br_t rfl (ret_pl k55 rfl ?_)))
     intro τ4 o hp
     exact hR 5 τ4 (by decide) (by rw [hl]) ((hB5.gr n6).putF hp n1)
    | true =>
     obtain ⟨nx, hnx⟩ := PlOk.get hI (hpl rfl) hxt
     have hlow := (hI.low _ _ hnx).1
     have h11 : x2.ino - 1 + 1 = x2.ino := by omega
     have hkx : A.kind x2.ino = nx.kind := by unfold AT.kind; rw [hnx]; rfl
     rw [if_pos hxt] at k54
     rw [if_neg (by rw [hxt]; decide)] at hl
     obtain ⟨gs, os, s1, s2, s3⟩ := hM5.slot hI (d := x2.ino - 1) (n := nx) (by rw [h11]; exact hnx)
     rw [h11] at s3
     refine br_f rfl (rd_I (rdC_of k54 (by rfl)) (br_f (by simp only [decide_eq_false_iff_not]; omega) ?_))
     refine ptr_i (rd_L (rdC_of hM5.top (by rfl)) (rd_I (rdC_of k54 (by rfl)) ?_))
     rw [s1]
     refine ptr_i (if_i s2 (rd_P s3 (ptr_i (rd_I (rdC_of (hM5.nod _ _ hnx) (by rfl)) ?_))))
     rw [hkx] at hl
     by_cases hk2 : nx.kind = 2
     ·rw [if_neg (by simpa using hk2)] at hl
      refine br_f (by simpa using hk2) (rd_I (rdC_of k54 (by rfl)) ?_)
      refine st_i2 kh5 sz_int (by rfl) (by rfl) ?_; intro τ6 p6
      refine h7 (x2.ino - 1) τ6 (by rw [h11]; exact ⟨nx, hnx, hk2⟩) ?_ ?_ (hB5.puth p6) (p6.get n56 k55) p6.same
      ·rw [h11, hl]
      ·intro _; rw [h11, hl]
     ·rw [if_pos (by simpa using hk2)] at hl
      refine br_t (by simpa using hk2) (ret_pl k55 rfl ?_)
      intro τ4 o hp
      exact hR 8 τ4 (by decide) (by rw [hl]) ((hB5.gr n6).putF hp n1)
end
end Go.Proofs.YthclifcpjnhmjaaGreatDoor

namespace Go.Wk
open Go Go.HL
def sumL (f : AN -> Nat) (l : List (Int × AN)) : Nat -> Nat
 | 0 => 0
 | i + 1 => sumL f l i + ((lk ((i : Int) + 1) l).map f).getD 0
theorem sumL_cons (f : AN -> Nat) {k : Int} {v : AN} {r : List (Int × AN)} (h : lk k r = none) : ∀ n : Nat, sumL f ((k, v) :: r) n = sumL f r n + if 1 <= k /\ k <= n then f v else 0 := by
 intro n
 induction n with
 | zero => simp only [sumL]; rw [if_neg (by omega)]
 | succ n ih =>
  simp only [sumL, ih]
  by_cases e : (n : Int) + 1 = k
  ·have h1 : lk ((n : Int) + 1) ((k, v) :: r) = some v := by simp [lk, e]
   have h2 : lk ((n : Int) + 1) r = none := by rw [e]; exact h
   rw [h1, h2, if_neg (by omega), if_pos (by omega)]
   simp
  ·have h1 : lk ((n : Int) + 1) ((k, v) :: r) = lk ((n : Int) + 1) r := by
    have : (((n : Int) + 1) == k) = false := by simpa using e
    simp [lk, this]
   rw [h1]
   by_cases c : 1 <= k /\ k <= n
   ·rw [if_pos c, if_pos (by omega)]; omega
   ·rw [if_neg c, if_neg (by omega)]; omega
theorem sumL_all (f : AN -> Nat) : ∀ (l : List (Int × AN)) (n : Nat), (keysL l).Nodup -> (∀ k ∈ keysL l, 1 <= k /\ k <= n) -> sumL f l n = sumF f l := by
 intro l
 induction l with
 | nil =>
  intro n _ _
  have : ∀ n : Nat, sumL f [] n = 0 := by
   intro n
   induction n with
   | zero => rfl
   | succ n ih => simp only [sumL, ih]; rfl
  rw [this]; rfl
 | cons p r ih =>
  intro n h1 h2
  obtain ⟨k, v⟩ := p
  obtain ⟨h3, h4⟩ := List.nodup_cons.1 (show (k :: keysL r).Nodup from h1)
  rw [sumL_cons f (lk_none_iff.2 h3), ih n h4 fun x hx => h2 x (List.mem_cons_of_mem _ hx)]
  have := h2 k (List.mem_cons_self ..)
  rw [if_pos this]
  simp only [sumF]; omega
theorem sumL_mono (f : AN -> Nat) (l : List (Int × AN)) : ∀ {n m : Nat}, n <= m -> sumL f l n <= sumL f l m := by
 intro n m h
 induction h with
 | refl => exact Nat.le_refl _
 | step _ ih => simp only [sumL]; omega
theorem Inv.sums {A : AT} (h : Inv A) : (sumL (fun _ => 1) A.nodes A.last.toNat : Int) = A.ui /\ (sumL (fun n => n.data.size) A.nodes A.last.toNat : Int) = A.ub := by
 have hk : ∀ k ∈ keysL A.nodes, 1 <= k /\ k <= ((A.last.toNat : Nat) : Int) := by
  intro k hk
  cases hl : A.get k with
  | none => exact absurd hk (lk_none_iff.1 hl)
  | some n => have := h.low k n hl; omega
 rw [sumL_all _ _ _ h.nodup hk, sumL_all _ _ _ h.nodup hk]
 refine ⟨?_, ?_⟩
 ·rw [sumF_len, h.ui]
 ·rw [h.ub]; rfl
def entN (name : ByteArray) : List ByteArray -> List ByteArray
 | [] => [name]
 | k :: r => if ltB name k = true then name :: k :: r else k :: entN name r
theorem entN_perm (name : ByteArray) : ∀ l, (entN name l).Perm (name :: l) := by
 intro l
 induction l with
 | nil => exact List.Perm.refl _
 | cons k r ih =>
  unfold entN
  split
  ·exact List.Perm.refl _
  ·exact (ih.cons k).trans (List.Perm.swap name k r)
def leN (a b : ByteArray) : Prop := a.data.toList <= b.data.toList
theorem entN_sorted {name : ByteArray} : ∀ {l : List ByteArray}, l.Pairwise leN -> (entN name l).Pairwise leN := by
 intro l
 induction l with
 | nil => intro _; simp [entN]
 | cons k r ih =>
  intro h
  obtain ⟨h1, h2⟩ := List.pairwise_cons.1 h
  unfold entN
  by_cases c : ltB name k = true
  ·rw [if_pos c]
   have hnk : leN name k := by
    unfold ltB at c
    cases hb : leB k.data.toList name.data.toList with
    | true => rw [hb] at c; cases c
    | false =>
     have : ¬ k.data.toList <= name.data.toList := by rw [<- leB_iff, hb]; simp
     exact (List.le_total _ _).resolve_left this
   refine List.pairwise_cons.2 ⟨fun z hz => ?_, h⟩
   rcases List.mem_cons.1 hz with e | e
   ·rw [e]; exact hnk
   ·exact List.le_trans hnk (h1 z e)
  ·rw [if_neg c]
   have hkn : leN k name := by
    unfold ltB at c
    cases hb : leB k.data.toList name.data.toList with
    | false => rw [hb] at c; exact absurd rfl c
    | true => exact (leB_iff _ _).1 hb
   refine List.pairwise_cons.2 ⟨fun z hz => ?_, ih h2⟩
   rcases List.mem_cons.1 ((entN_perm name r).mem_iff.1 hz) with e | e
   ·rw [e]; exact hkn
   ·exact h1 z e
theorem sortN_sorted (l : List ByteArray) : (sortN l).Pairwise leN := by
 unfold sortN
 rw [List.pairwise_map]
 exact (sortB_sorted _).imp fun h => h
theorem sorted_eq {a b : List ByteArray} (ha : a.Pairwise leN) (hb : b.Pairwise leN) (h : a.Perm b) : a = b :=
 List.Perm.eq_of_pairwise (le := leN) (fun x y _ _ h1 h2 => bytes_ext (List.le_antisymm h1 h2)) ha hb h
theorem sortN_snoc (l : List ByteArray) (name : ByteArray) : sortN (l ++ [name]) = entN name (sortN l) := by
 refine sorted_eq (sortN_sorted _) (entN_sorted (sortN_sorted _)) ?_
 refine (sortN_perm _).trans ?_
 refine List.Perm.trans ?_ (entN_perm name _).symm
 refine (List.perm_append_comm (l₁ := l) (l₂ := [name])).trans ?_
 exact ((sortN_perm l).symm).cons name
def entR {α : Type} (name : ByteArray) (new : α) (row : ByteArray -> α) : Bool -> List ByteArray -> List α
 | done, [] => if done then [] else [new]
 | done, k :: r => if (!done && ltB name k) = true then new :: row k :: entR name new row true r else row k :: entR name new row done r
theorem entR_done {α : Type} (name : ByteArray) (new : α) (row : ByteArray -> α) : ∀ l, entR name new row true l = l.map row := by
 intro l
 induction l with
 | nil => rfl
 | cons k r ih => unfold entR; simp [ih]
theorem entR_eq {α : Type} (name : ByteArray) (row : ByteArray -> α) : ∀ l, entR name (row name) row false l = (entN name l).map row := by
 intro l
 induction l with
 | nil => rfl
 | cons k r ih =>
  unfold entR entN
  by_cases c : ltB name k = true
  ·rw [if_pos (by simp [c]), if_pos c, entR_done]; rfl
  ·rw [if_neg (by simp [c]), if_neg c, ih]; rfl
theorem entR_congr {α : Type} (name : ByteArray) (new : α) {row row' : ByteArray -> α} : ∀ (l : List ByteArray) (d : Bool), (∀ k ∈ l, row k = row' k) -> entR name new row d l = entR name new row' d l := by
 intro l
 induction l with
 | nil => intro d _; cases d <;> rfl
 | cons k r ih =>
  intro d h
  unfold entR
  rw [h k (List.mem_cons_self ..), ih true fun x hx => h x (List.mem_cons_of_mem _ hx), ih d fun x hx => h x (List.mem_cons_of_mem _ hx)]
theorem steps_nolink {A : AT} (hI : Inv A) {go : Int -> ByteArray -> Int -> Int × Pl × Int} (hgo : ∀ d s x, A.isDir d -> (go d s x).1 = 0 -> (go d s x).2.1.there = true -> A.kind (go d s x).2.1.ino ≠ 3) : ∀ (l : List ByteArray) (p : Pl) (h : Int), (p.there = true -> A.kind p.ino ≠ 3) -> (A.steps go true l p h).1 = 0 -> (A.steps go true l p h).2.1.there = true -> A.kind (A.steps go true l p h).2.1.ino ≠ 3 := by
 intro l
 induction l with
 | nil => intro p h hp _; exact hp
 | cons n r ih =>
  intro p h hp he
  cases h1 : p.there with
  | false => rw [steps_none h1] at he; cases he
  | true =>
   by_cases h2 : A.kind p.ino = 2
   case neg => rw [steps_notdir h1 h2] at he; cases he
   have hd := kind_dir h2
   cases h3 : sEq n ⟨⟨[46, 46]⟩⟩ with
   | true =>
    rw [steps_up h1 h2 h3] at he ⊢
    exact ih _ h (fun _ => by show A.kind (A.upOf p.ino) ≠ 3; rw [dir_kind (hI.isDir_up hd)]; decide) he
   | false =>
    by_cases h4 : n.size > 56
    ·rw [steps_long h1 h2 h3 h4] at he; cases he
    by_cases h5 : (A.find p.ino n).isSome = false \/ (r.isEmpty && !true) = true \/ A.kind ((A.find p.ino n).getD 0) ≠ 3
    ·rw [steps_name h1 h2 h3 h4 h5] at he ⊢
     refine ih _ h (fun hs => ?_) he
     have hs : (A.find p.ino n).isSome = true := hs
     rcases h5 with e | e | e
     ·rw [hs] at e; cases e
     ·simp at e
     ·exact e
    by_cases h6 : h - 1 < 0
    ·rw [steps_loop h1 h2 h3 h4 h5 h6] at he; cases he
    by_cases h7 : (go p.ino (A.data ((A.find p.ino n).getD 0)) (h - 1)).1 = 0
    ·rw [steps_link h1 h2 h3 h4 h5 h6 h7] at he ⊢
     exact ih _ _ (hgo _ _ _ hd h7) he
    ·rw [steps_err h1 h2 h3 h4 h5 h6 h7] at he; exact absurd he h7
theorem walk_nolink {A : AT} (hI : Inv A) : ∀ (f : Nat) (d : Int) (s : ByteArray) (h : Int), A.isDir d -> (A.walk f d s true h).1 = 0 -> (A.walk f d s true h).2.1.there = true -> A.kind (A.walk f d s true h).2.1.ino ≠ 3 := by
 intro f
 induction f with
 | zero => intro d s h _ he; cases he
 | succ f ih =>
  intro d s h hd he
  rw [AT.walk] at he ⊢
  by_cases hm : mayE s = 0
  case neg => rw [if_pos hm] at he; exact absurd he hm
  rw [if_neg (by simpa using hm)] at he ⊢
  refine steps_nolink hI (fun d s x hd he => ih d s x hd he) _ _ _ (fun _ => ?_) he
  show A.kind (if headIs 47 s then 1 else d) ≠ 3
  cases headIs 47 s with
  | true => rw [if_pos rfl, dir_kind hI.root_dir]; decide
  | false => rw [if_neg (by decide), dir_kind hd]; decide
theorem locate_nolink {A : AT} (hI : Inv A) (cwd path : ByteArray) (he : (A.locate cwd path true).1 = 0) (ht : (A.locate cwd path true).2.there = true) : A.kind (A.locate cwd path true).2.ino ≠ 3 := by
 unfold AT.locate at he ht ⊢
 cases h1 : sEq path ⟨⟨[]⟩⟩ with
 | true => rw [h1] at he; simp at he
 | false =>
  rw [h1] at he ht
  simp only [Bool.false_eq_true, if_false] at he ht ⊢
  cases h2 : headIs 47 path with
  | true => rw [h2] at he ht; exact walk_nolink hI 10 1 path 8 hI.root_dir he ht
  | false =>
   rw [h2] at he ht
   simp only [Bool.false_eq_true, if_false] at he ht ⊢
   cases h3 : headIs 47 cwd with
   | false => rw [h3] at he; simp at he
   | true =>
    rw [h3] at he ht
    simp only [Bool.true_eq_false, if_false] at he ht ⊢
    by_cases h4 : (A.walk 10 1 cwd true 8).1 = 0
    case neg => rw [if_pos h4] at he; exact absurd he h4
    rw [if_neg (by simpa using h4)] at he ht ⊢
    cases h5 : (A.walk 10 1 cwd true 8).2.1.there with
    | false => rw [h5] at he; simp at he
    | true =>
     rw [h5] at he ht
     simp only [Bool.true_eq_false, if_false] at he ht ⊢
     by_cases h6 : A.kind (A.walk 10 1 cwd true 8).2.1.ino = 2
     case neg => rw [if_pos h6] at he; simp at he
     rw [if_neg (by simpa using h6)] at he ht ⊢
     exact walk_nolink hI 10 _ path 8 (kind_dir h6) he ht
theorem kind_cases {k m : Int} {d : ByteArray} (h : likeE k m d = 0) : k = 1 \/ k = 2 \/ k = 3 := by
 unfold likeE at h
 by_cases hk : kindOkE k d = true
 ·unfold kindOkE at hk
  simp only [lk] at hk
  by_cases e1 : k = 1
  ·exact .inl e1
  by_cases e2 : k = 2
  ·exact .inr (.inl e2)
  by_cases e3 : k = 3
  ·exact .inr (.inr e3)
  have h1 : (k == 1) = false := by simpa using e1
  have h2 : (k == 2) = false := by simpa using e2
  have h3 : (k == 3) = false := by simpa using e3
  rw [h1, h2, h3] at hk
  simp at hk
 ·have : kindOkE k d = false := by simpa using hk
  rw [this] at h; simp at h
end Go.Wk

set_option maxRecDepth 100000
namespace Go.Proofs.YthclifcpjnhmjaaGreatDoor
open Go Go.HL Go.Wk
attribute [local irreducible] ptrW ifW brW andW rdT alW letJ stW muW biW vaW imW callT cvalT app callW invW callVW sizeT oW nilF oneK loopW rfW funW begW roundK exW idxW Gr Put
section
variable {σ : H} {b : Nat} {A : AT} {M : RfM} {N : Nat}
theorem RfIn.ptr (h : RfIn σ b A M) {i : Nat} (hi : i < A.last.toNat) : ∃ g o, M.x.base = some ⟨g, o, none⟩ /\ (0 <= (i : Int) /\ (i : Int) < ((M.x.len : Nat) : Int)) /\ rdC g (o + (i : Int).toNat * 1) σ = some (.pointer (if (A.get ((i : Int) + 1)).isSome then some ⟨M.cb ((i : Int) + 1), 0, none⟩ else none)) := by
 have hl := h.len
 have hr : (ptrRow A M.cb)[i]? = some [.pointer (if (A.get ((i : Int) + 1)).isSome then some ⟨M.cb ((i : Int) + 1), 0, none⟩ else none)] := by
  unfold ptrRow
  rw [List.getElem?_map, List.getElem?_range (by omega)]; rfl
 obtain ⟨h1, h4 | ⟨g, o, cur, t, fz, q2, q3, q4⟩⟩ := h.tab.rows
 ·rw [h4] at hr; simp at hr
 ·refine ⟨g, o, q2, by omega, rdC_of q3 ?_⟩
  obtain ⟨_, h5⟩ := q4 _ _ hr
  have : ((cur.drop (o + i * 1)).take 1)[0]? = some (.pointer (if (A.get ((i : Int) + 1)).isSome then some ⟨M.cb ((i : Int) + 1), 0, none⟩ else none)) := by rw [h5]; rfl
  rw [List.getElem?_take] at this
  simpa using this
theorem s_rfUsed (hI : Wk.Inv A) (hB : Bd N A) (hN : N <= 1000000000000) (hM : RfIn σ b A M) {K : KH} (hK : K (.agg ⟨[.int .i64 A.ui, .int .i64 A.ub]⟩) σ) : callW Tryz.prog 22 [.pointer (some ⟨b, 0, none⟩)] K σ := by
 refine pure_i _ hK (c22 _ ?_)
 clear hK
 unfold g22
 refine al_i ?_; intro b2 σ1 g1 e1 n1
 refine al_i ?_; intro b3 σ2 g2 e2 n2
 refine st_i2 e2 sz_Quota (by rfl) (by rfl) ?_; intro σ3 p3
 have n3 : σ b3 = none := none_of g1 n2
 have n23 : b2 ≠ b3 := by intro e; rw [<- e, e1] at n2; cases n2
 have k3 : σ3 b3 = some (.cells ⟨[.int .i64 0, .int .i64 0]⟩ 50 (0, 0)) := p3.same
 have k2 : σ3 b2 = some (.cells ⟨[.int .i64 0, .int .i64 0]⟩ 50 (0, 0)) := p3.get n23 (g2.get e1)
 have g3 : Gr σ σ3 := (g1.trans g2).putF p3 n3
 clear p3 e1 e2
 refine loop_i ?_
 intro R hR
 obtain ⟨u1, u2⟩ := hI.sums
 have hl := hM.len
 have hlast := hB.last
 have hub := hI.bq
 have huq := hI.uq
 have key : ∀ (c i : Nat) (τ : H), c + i = A.last.toNat -> Gr σ τ -> τ b2 = some (.cells ⟨[.int .i64 0, .int .i64 0]⟩ 50 (0, 0)) -> τ b3 = some (.cells ⟨[.int .i64 (sumL (fun _ => 1) A.nodes i : Int), .int .i64 (sumL (fun n => n.data.size) A.nodes i : Int)]⟩ 50 (0, 0)) ->
  R (some ⟨b, 0, none⟩) (some ⟨b2, 0, none⟩) (some ⟨b3, 0, none⟩) (i : Int) τ := by
  intro c
  induction c with
  | zero =>
   intro i τ hc hg k2 k3
   have hMt := hM.gr hg
   refine hR _ _ _ _ _ ?_
   refine ptr_i (rd_L (rdC_of hMt.top (by rfl)) (br_f (by simp only [decide_eq_false_iff_not]; omega) ?_))
   refine ptr_i (rd_G (rdA_of' k3 (by rfl)) ?_)
   (refine app_of rfl ?_; try dsimp only)
   refine st_i2 k2 sz_Quota (by rfl) (by rfl) ?_; intro τ' p
   refine ptr_i (rd_G (rdA_of' p.same (by rfl)) ?_)
   (refine app_of rfl ?_; try dsimp only)
   have hi : i = A.last.toNat := by omega
   rw [hi, u1, u2]
   exact ⟨rfl, hg.putF p n1⟩
  | succ c ih =>
   intro i τ hc hg k2 k3
   have hMt := hM.gr hg
   obtain ⟨gs, os, s1, s2, s3⟩ := hMt.ptr (i := i) (by omega)
   refine hR _ _ _ _ _ ?_
   refine ptr_i (rd_L (rdC_of hMt.top (by rfl)) (br_t (by simp only [decide_eq_true_eq]; omega) ?_))
   refine j_i (fun j => ∀ τ', Gr σ τ' -> τ' b2 = some (.cells ⟨[.int .i64 0, .int .i64 0]⟩ 50 (0, 0)) -> τ' b3 = some (.cells ⟨[.int .i64 (sumL (fun _ => 1) A.nodes (i + 1) : Int), .int .i64 (sumL (fun n => n.data.size) A.nodes (i + 1) : Int)]⟩ 50 (0, 0)) -> j (some ⟨b, 0, none⟩) (some ⟨b2, 0, none⟩) (some ⟨b3, 0, none⟩) (i : Int) τ') ?_ ?_
   ·intro τ' a1 a2 a3
    rw [wrap_id (x := (i : Int) + 1) (by omega) (by omega)]
    rw [show (i : Int) + 1 = ((i + 1 : Nat) : Int) from by omega]
    exact ih (i + 1) τ' (by omega) a1 a2 a3
   intro j hj
   refine ptr_i (rd_L (rdC_of hMt.top (by rfl)) ?_)
   rw [s1]
   refine ptr_i (if_i s2 (rd_P s3 ?_))
   have hm1 := sumL_mono (fun _ => 1) A.nodes (n := i + 1) (m := A.last.toNat) (by omega)
   have hm2 := sumL_mono (fun n => n.data.size) A.nodes (n := i + 1) (m := A.last.toNat) (by omega)
   cases hget : A.get ((i : Int) + 1) with
   | none =>
    have z1 : sumL (fun _ => 1) A.nodes (i + 1) = sumL (fun _ => 1) A.nodes i := by
     simp only [sumL]; rw [show lk ((i : Int) + 1) A.nodes = none from hget]; rfl
    have z2 : sumL (fun n => n.data.size) A.nodes (i + 1) = sumL (fun n => n.data.size) A.nodes i := by
     simp only [sumL]; rw [show lk ((i : Int) + 1) A.nodes = none from hget]; rfl
    refine br_f rfl (hj τ hg k2 ?_)
    rw [z1, z2]; exact k3
   | some n =>
    have z1 : sumL (fun _ => 1) A.nodes (i + 1) = sumL (fun _ => 1) A.nodes i + 1 := by
     simp only [sumL]; rw [show lk ((i : Int) + 1) A.nodes = some n from hget]; rfl
    have z2 : sumL (fun n => n.data.size) A.nodes (i + 1) = sumL (fun n => n.data.size) A.nodes i + n.data.size := by
     simp only [sumL]; rw [show lk ((i : Int) + 1) A.nodes = some n from hget]; rfl
    rw [z1] at hm1
    rw [z2] at hm2
    refine br_t rfl (ptr_i (rd_I (rdC_of k3 (by rfl)) (ptr_i ?_)))
    rw [wrap_id (by omega) (by omega)]
    refine st_i2 k3 sz_int (by rfl) (by rfl) ?_; intro τ1 p1
    have k31 : τ1 b3 = some (.cells ⟨[.int .i64 ((sumL (fun _ => 1) A.nodes i : Int) + 1), .int .i64 (sumL (fun n => n.data.size) A.nodes i : Int)]⟩ 50 (0, 0)) := p1.same
    have hg1 := hg.putF p1 n3
    have hM1 := hM.gr hg1
    obtain ⟨gs, os, s1, s2, s3⟩ := hM1.ptr (i := i) (by omega)
    rw [hget] at s3
    refine ptr_i (rd_I (rdC_of k31 (by rfl)) (ptr_i (rd_L (rdC_of hM1.top (by rfl)) ?_)))
    rw [s1]
    refine ptr_i (if_i s2 (rd_P s3 (ptr_i (rd_S (rdC_of (hM1.nod _ _ hget) (by rfl)) (ptr_i ?_)))))
    rw [wrap_id (by omega) (by omega)]
    refine st_i2 k31 sz_int (by rfl) (by rfl) ?_; intro τ2 p2
    refine hj τ2 (hg1.putF p2 n3) (p2.get n23 (p1.get n23 k2)) ?_
    have := p2.same
    rw [z1, z2]
    have e1 : ((sumL (fun _ => 1) A.nodes i + 1 : Nat) : Int) = (sumL (fun _ => 1) A.nodes i : Int) + 1 := by omega
    have e2 : ((sumL (fun n => n.data.size) A.nodes i + n.data.size : Nat) : Int) = (sumL (fun n => n.data.size) A.nodes i : Int) + ((n.data.size : Nat) : Int) := by omega
    rw [e1, e2]
    exact this
 exact key A.last.toNat 0 σ3 (by omega) g3 k2 k3
theorem s_rfRoom (hI : Wk.Inv A) (hB : Bd N A) (hN : N <= 1000000000000) (hM : RfIn σ b A M) (i n : Int) {K : KH} (hK : K (.bool (A.roomE i n == 0)) σ) : callW Tryz.prog 82 [.pointer (some ⟨b, 0, none⟩), .int .i64 i, .int .i64 n] K σ := by
 refine pure_i _ hK (c82 _ _ _ ?_)
 clear hK
 unfold g82
 refine call_i (s_rfUsed hI hB hN hM ?_)
 (refine app_of rfl ?_; try dsimp only)
 refine al_i ?_; intro b6 σ1 g1 e1 n1
 refine st_i2 e1 sz_Quota (by rfl) (by rfl) ?_; intro σ2 p2
 have hg : Gr σ σ2 := g1.putF p2 n1
 have hM2 := hM.gr hg
 have k6 : σ2 b6 = some (.cells ⟨[.int .i64 A.ui, .int .i64 A.ub]⟩ 50 (0, 0)) := p2.same
 refine rd_I (rdC_of k6 (by rfl)) (ptr_i (rd_I (rdC_of hM2.top (by rfl)) ?_))
 have hr : (A.roomE i n == 0) = (decide (wr (A.ui + i) <= A.qi) && decide (wr (A.ub + n) <= A.qb)) := by
  unfold AT.roomE
  by_cases h1 : wr (A.ui + i) <= A.qi <;> by_cases h2 : wr (A.ub + n) <= A.qb <;> simp [h1, h2]
 rw [hr]
 cases h1 : decide (wr (A.ui + i) <= A.qi) with
 | true =>
  refine br_t h1 (rd_I (rdC_of k6 (by rfl)) (ptr_i (rd_I (rdC_of hM2.top (by rfl)) ?_)))
  exact ⟨rfl, hg⟩
 | false => exact br_f h1 ⟨rfl, hg⟩
end
theorem s_rfNew (qi qb : Int) {σ : H} {K : KH} (hN : newOk qi qb = false -> ∀ σ', Gr σ σ' -> K (.pointer none) σ')
 (hK : newOk qi qb = true -> ∀ bf σ' D, RfAt σ' bf (newT qi qb) D -> Gr σ σ' -> (∀ c, D c -> σ c = none) -> K (.pointer (some ⟨bf, 0, none⟩)) σ') :
 callW Tryz.prog 27 [.agg ⟨[.int .i64 qi, .int .i64 qb]⟩] K σ := by
 refine c27 _ _ ?_
 unfold g27
 refine al_i ?_; intro b3 σ1 g1 e1 n1
 refine j_i (fun j => ∀ t : Bool, t = !newOk qi qb -> j (some ⟨b3, 0, none⟩) t σ1) ?_ ?_
 ·intro t ht
  cases t with
  | true => exact br_t rfl (hN (by cases h : newOk qi qb <;> simp [h] at ht ⊢) σ1 g1)
  | false =>
   refine br_f rfl (ptr_i (rd_G (rdA_of' e1 (by rfl)) ?_))
   (refine app_of rfl ?_; try dsimp only)
   refine al_i ?_; intro b11 σ2 g2 e2 n2
   refine al_i ?_; intro b12 σ3 g3 e3 n3
   refine al_i ?_; intro b13 σ4 g4 e4 n4
   have z11 : σ b11 = none := none_of g1 n2
   have z12 : σ b12 = none := none_of (g1.trans g2) n3
   have z13 : σ b13 = none := none_of ((g1.trans g2).trans g3) n4
   have d1 : b11 ≠ b12 := by intro e; rw [<- e, e2] at n3; cases n3
   have d2 : b11 ≠ b13 := by intro e; rw [<- e, g3.get e2] at n4; cases n4
   have d3 : b12 ≠ b13 := by intro e; rw [<- e, e3] at n4; cases n4
   have hget : ∀ i n, (newT qi qb).get i = some n -> i = 1 /\ n = ⟨2, 493, ⟨⟨[]⟩⟩, 1, 1, []⟩ := by
    intro i n h
    unfold AT.get newT at h
    simp only [lk] at h
    by_cases e : i = 1
    ·subst e; simp at h; exact ⟨rfl, h.symm⟩
    ·have : (i == 1) = false := by simpa using e
     rw [this] at h; simp at h
   refine hK (by cases h : newOk qi qb <;> simp [h] at ht ⊢) b13 σ4 (fun c => c = b11 \/ c = b12 \/ c = b13) ⟨⟨⟨some ⟨b12, 0, none⟩, 1, 1⟩, fun _ => b11, fun _ => ⟨none, 0, 0⟩, fun c => if c = b13 then some (0, false) else if c = b12 then some (0, true) else if c = b11 then some (1, false) else none⟩, ⟨?_, ?_, ?_, ?_, ?_, ?_, ?_, ?_, ?_⟩, ?_⟩ (((g1.trans g2).trans g3).trans g4) ?_
   ·exact e4
   ·refine ⟨rfl, by intro r hr; unfold ptrRow at hr; rw [List.mem_map] at hr; obtain ⟨_, _, rfl⟩ := hr; rfl, .inr ⟨b12, [.pointer (some ⟨b11, 0, none⟩)], rfl, g4.get e3, rfl, Nat.le_refl _, rfl⟩⟩
   ·intro i n hn
    obtain ⟨rfl, rfl⟩ := hget i n hn
    exact (g3.trans g4).get e2
   ·intro i n hn
    obtain ⟨rfl, rfl⟩ := hget i n hn
    exact RowsOwn.nil _ _ _
   ·simp
   ·intro g hg
    have hg : some (⟨b12, 0, none⟩ : Addr) = some ⟨g, 0, none⟩ := hg
    injection hg with hg
    injection hg with hg
    subst hg
    simp [d3]
   ·intro i n hn
    obtain ⟨rfl, rfl⟩ := hget i n hn
    simp [d1, d2]
   ·intro i n g _ h; cases h
   ·intro c hc
    by_cases h1 : c = b13
    ·subst h1; rw [e4]; simp
    by_cases h2 : c = b12
    ·subst h2; rw [g4.get e3]; simp
    by_cases h3 : c = b11
    ·subst h3; rw [(g3.trans g4).get e2]; simp
    ·simp [h1, h2, h3] at hc
   ·intro c
    by_cases h1 : c = b13
    ·simp [h1]
    by_cases h2 : c = b12
    ·simp [h2, d3]
    by_cases h3 : c = b11
    ·simp [h3, d1, d2]
    ·simp [h1, h2, h3]
   ·rintro c (h | h | h) <;> subst h
    ·exact z11
    ·exact z12
    ·exact z13
 ·intro j hj
  have hnew : (!newOk qi qb) = (decide (qi < 1) || (decide (qi > 1048576) || (decide (qb < 0) || decide (qb > 1073741824)))) := by unfold newOk; simp
  rw [hnew] at hj
  refine rd_I (rdC_of e1 (by rfl)) ?_
  by_cases c1 : qi < 1
  ·exact br_t (by simpa using c1) (hj true (by simp [c1]))
  refine br_f (by simpa using c1) (rd_I (rdC_of e1 (by rfl)) ?_)
  by_cases c2 : qi > 1048576
  ·exact br_t (by simpa using c2) (hj true (by simp [c2]))
  refine br_f (by simpa using c2) (rd_I (rdC_of e1 (by rfl)) ?_)
  by_cases c3 : qb < 0
  ·exact br_t (by simpa using c3) (hj true (by simp [c3]))
  refine br_f (by simpa using c3) (rd_I (rdC_of e1 (by rfl)) ?_)
  exact hj _ (by simp [c1, c2, c3])
section
variable {σ σ' : H} {b : Nat} {A : AT} {M : RfM} {N : Nat}
def RfM.setE (M : RfM) (i : Int) (y' : Sl) : RfM := ⟨M.x, M.cb, fun j => if j = i then y' else M.ey j, fun c => if y'.base = some ⟨c, 0, none⟩ then some (i, true) else M.w c⟩
theorem RfIn.low (h : RfIn σ b A M) (hL : ∀ i n, A.get i = some n -> 1 <= i) {i : Int} {n : AN} (hn : A.get i = some n) : M.cb i ≠ b /\ M.x.base ≠ some ⟨M.cb i, 0, none⟩ := by
 have h1 := h.wn i n hn
 have := hL i n hn
 refine ⟨?_, ?_⟩
 ·intro e; rw [e, h.wb] at h1; injection h1 with h1; injection h1 with h1 _; omega
 ·intro e; rw [h.wt _ e] at h1; injection h1 with h1; injection h1 with h1 _; omega
theorem RfIn.setN (h : RfIn σ b A M) (hL : ∀ i n, A.get i = some n -> 1 <= i) {i : Int} {n n' : AN} (hn : A.get i = some n) {y' : Sl} (hp : Put σ (M.cb i) (nodeO n' y') σ') (ho : RowsOwn σ 206 2 (eRow n'.ents) y') (hy : ∀ g, y'.base = some ⟨g, 0, none⟩ -> M.w g = none \/ M.w g = some (i, true)) : RfIn σ' b (A.set i n') (M.setE i y') := by
 obtain ⟨q1, q2⟩ := h.low hL hn
 have hw := h.wn i n hn
 have hi1 := hL i n hn
 have hycb : y'.base ≠ some ⟨M.cb i, 0, none⟩ := by
  intro e
  rcases hy _ e with e2 | e2 <;> rw [hw] at e2
  ·cases e2
  ·injection e2 with e2; injection e2 with _ e2; cases e2
 have hyw : ∀ c r, M.w c = some r -> r ≠ (i, true) -> y'.base ≠ some ⟨c, 0, none⟩ := by
  intro c r hc hr e
  rcases hy _ e with e2 | e2 <;> rw [hc] at e2
  ·cases e2
  ·injection e2 with e2; exact hr e2
 have hcb : ∀ j m, A.get j = some m -> j ≠ i -> M.cb j ≠ M.cb i := by
  intro j m hm hj e
  have := h.wn j m hm
  rw [e, hw] at this; injection this with this; injection this with this _; exact hj this.symm
 have hget : ∀ j m, (A.set i n').get j = some m -> (j = i /\ m = n') \/ (j ≠ i /\ A.get j = some m) := by
  intro j m hm
  rw [AT.get_set] at hm
  by_cases e : j = i
  ·rw [if_pos e] at hm; exact .inl ⟨e, (Option.some.inj hm).symm⟩
  ·rw [if_neg e] at hm; exact .inr ⟨e, hm⟩
 refine ⟨?_, ?_, ?_, ?_, ?_, ?_, ?_, ?_, ?_⟩
 ·exact hp.get (Ne.symm q1) h.top
 ·have : ptrRow (A.set i n') M.cb = ptrRow A M.cb := by
   unfold ptrRow
   apply List.map_congr_left
   intro k _
   rw [AT.get_set]
   by_cases e : (k : Int) + 1 = i
   ·rw [if_pos e, e, hn]; rfl
   ·rw [if_neg e]
  show RowsOwn σ' 98 1 (ptrRow (A.set i n') M.cb) M.x
  rw [this]
  exact h.tab.put hp q2
 ·intro j m hm
  rcases hget j m hm with ⟨e1, e2⟩ | ⟨e1, e2⟩
  ·subst e1; subst e2
   show σ' (M.cb j) = some (nodeO m (if j = j then y' else M.ey j))
   rw [if_pos rfl]; exact hp.same
  ·show σ' (M.cb j) = some (nodeO m (if j = i then y' else M.ey j))
   rw [if_neg e1]; exact hp.get (hcb j m e2 e1) (h.nod j m e2)
 ·intro j m hm
  rcases hget j m hm with ⟨e1, e2⟩ | ⟨e1, e2⟩
  ·subst e1; subst e2
   show RowsOwn σ' 206 2 (eRow m.ents) (if j = j then y' else M.ey j)
   rw [if_pos rfl]; exact ho.put hp hycb
  ·show RowsOwn σ' 206 2 (eRow m.ents) (if j = i then y' else M.ey j)
   rw [if_neg e1]
   refine (h.ent j m e2).put hp fun e => ?_
   have := h.we j m _ e2 e
   rw [hw] at this; injection this with this; injection this with _ this; cases this
 ·show (if y'.base = some ⟨b, 0, none⟩ then some (i, true) else M.w b) = _
  rw [if_neg (hyw b _ h.wb (by intro e; injection e with e _; omega))]; exact h.wb
 ·intro g hg
  show (if y'.base = some ⟨g, 0, none⟩ then some (i, true) else M.w g) = _
  have := h.wt g hg
  rw [if_neg (hyw g _ this (by intro e; injection e with e _; omega))]; exact this
 ·intro j m hm
  show (if y'.base = some ⟨M.cb j, 0, none⟩ then some (i, true) else M.w (M.cb j)) = _
  have : M.w (M.cb j) = some (j, false) := by
   rcases hget j m hm with ⟨e1, e2⟩ | ⟨e1, e2⟩
   ·rw [e1]; exact hw
   ·exact h.wn j m e2
  rw [if_neg (hyw _ _ this (by intro e; injection e with _ e; cases e))]; exact this
 ·intro j m g hm hg
  show (if y'.base = some ⟨g, 0, none⟩ then some (i, true) else M.w g) = _
  rcases hget j m hm with ⟨e1, e2⟩ | ⟨e1, e2⟩
  ·subst e1
   have hg : (if j = j then y' else M.ey j).base = some ⟨g, 0, none⟩ := hg
   rw [if_pos rfl] at hg
   rw [if_pos hg]
  ·have hg : (if j = i then y' else M.ey j).base = some ⟨g, 0, none⟩ := hg
   rw [if_neg e1] at hg
   have := h.we j m g e2 hg
   rw [if_neg (hyw g _ this (by intro e; injection e with e _; exact e1 e))]; exact this
 ·intro c hc
  have hc : (if y'.base = some ⟨c, 0, none⟩ then some (i, true) else M.w c) ≠ none := hc
  have hs : σ c ≠ none := by
   by_cases e : y'.base = some ⟨c, 0, none⟩
   ·exact ho.has e
   ·rw [if_neg e] at hc; exact h.has c hc
  cases ho2 : σ c with
  | none => exact absurd ho2 hs
  | some o =>
   by_cases e : c = M.cb i
   ·rw [e, hp.same]; simp
   ·rw [hp.get e ho2]; simp
theorem und_REnts : Tryz.prog.underlying 99 = some (.slice 206) := by kernel_rfl
theorem info_REntry : ∃ i z, Tryz.prog.info? 206 = some i /\ i.zero = some z /\ i.size = 2 /\ i.bytes = 24 /\ z.cells.size = 2 := by
 have h1 : (Tryz.prog.info? 206).map (fun i => (i.zero.map (fun z => z.cells.size), i.size, i.bytes)) = some (some 2, 2, 24) := by kernel_rfl
 cases hi : Tryz.prog.info? 206 with
 | none => rw [hi] at h1; cases h1
 | some i =>
  rw [hi] at h1
  simp only [Option.map_some, Option.some.injEq, Prod.mk.injEq] at h1
  cases hz : i.zero with
  | none => rw [hz] at h1; cases h1.1
  | some z =>
   rw [hz] at h1
   exact ⟨i, z, rfl, hz, h1.2.1, h1.2.2, by simpa using h1.1⟩
def EntNew (σ0 σ : H) (l : List (List Value)) (y : Sl) : Prop := Gr σ0 σ /\ RowsOwn σ 206 2 l y /\ ∀ g, y.base = some ⟨g, 0, none⟩ -> σ0 g = none
theorem app_ent {σ0 σ : H} {l : List (List Value)} {y : Sl} {s : ByteArray} {v : Int} {ty : TypeId} {cs : List Bool} (h : EntNew σ0 σ l y) (hl : l.length < 1000000000) {F : Sl -> H -> Prop} (hF : ∀ y' σ', EntNew σ0 σ' (l ++ [[.string s, .int .i64 v]]) y' -> (∀ c o, σ c = some o -> y.base ≠ some ⟨c, 0, none⟩ -> σ' c = some o) -> F y' σ') :
 alW (.cells ⟨[.string s, .int .i64 v]⟩ 206 (0, 0)) (fun (b48 : Nat) => biW Tryz.prog .append #[99, 99] ty cs [.slice y.base y.len y.cap, .slice (some ⟨b48, 0, none⟩) 1 1] kL F) σ := by
 obtain ⟨h1, h2, h3⟩ := h
 refine al_i ?_; intro b48 σ1 g1 e1 n1
 obtain ⟨i, z, i1, i2, i3, i4, i5⟩ := info_REntry
 refine append_i und_REnts i1 i2 i3 i4 i5 (by decide) (h2.gr g1) e1 rfl (by intro u hu; simp at hu; rcases hu with rfl | rfl <;> rfl) hl (by decide) ?_
 intro y' σ' hy' hcase
 refine hF y' σ' ⟨?_, hy', ?_⟩ ?_
 ·rcases hcase with ⟨g, o, q1, q2, q3⟩ | ⟨g, q1, q2, q3⟩
  ·exact (h1.trans g1).putF q3 (h3 g q1)
  ·exact (h1.trans g1).trans q3
 ·intro g hg
  rcases hcase with ⟨g', o, q1, q2, q3⟩ | ⟨g', q1, q2, q3⟩
  ·rw [q2] at hg; exact h3 g hg
  ·rw [q1] at hg
   injection hg with hg
   injection hg with hg
   subst hg
   exact none_of (h1.trans g1) q2
 ·intro c o hc hne
  rcases hcase with ⟨g, o', q1, q2, q3⟩ | ⟨g, q1, q2, q3⟩
  ·exact q3.get (fun e => hne (by rw [e]; exact q1)) (g1.get hc)
  ·exact q3.get (g1.get hc)
theorem sz_REntry : sizeT Tryz.prog 206 = some 2 := by kernel_rfl
theorem sz_REnts : sizeT Tryz.prog 99 = some 1 := by kernel_rfl
theorem RfIn.slot2 (h : RfIn σ b A M) (hL : ∀ i n, A.get i = some n -> 1 <= i /\ i <= A.last) {d : Int} {n : AN} (hn : A.get (d + 1) = some n) : ∃ g o, M.x.base = some ⟨g, o, none⟩ /\ (0 <= d /\ d < ((M.x.len : Nat) : Int)) /\ rdC g (o + d.toNat * 1) σ = some (.pointer (some ⟨M.cb (d + 1), 0, none⟩)) := by
 obtain ⟨l1, l2⟩ := hL _ _ hn
 obtain ⟨g, o, h1, h2, h3⟩ := h.ptr (i := d.toNat) (by omega)
 have e : ((d.toNat : Nat) : Int) = d := by omega
 rw [e, hn] at h3
 rw [e] at h2
 exact ⟨g, o, h1, h2, h3⟩
theorem rf_at2 (h : RfIn σ b A M) (hL : ∀ i n, A.get i = some n -> 1 <= i /\ i <= A.last) {d : Int} {n : AN} (hn : A.get (d + 1) = some n) {F : Nat -> Nat -> H -> Prop} (hF : F (M.cb (d + 1)) 0 σ) :
 ptrW (some ⟨b, 0, none⟩) (fun (b4 o5 : Nat) => rdT (rdC b4 (o5 + 2)) kL (fun (x6 : Sl) => ptrW x6.base (fun (b7 o8 : Nat) => ifW (0 <= d /\ d < ((x6.len : Nat) : Int)) (rdT (rdC b7 (o8 + d.toNat * 1)) kP (fun x9 => ptrW x9 F))))) σ := by
 obtain ⟨g, o, h1, h2, h3⟩ := h.slot2 hL hn
 refine ptr_i (rd_L (rdC_of h.top (by rfl)) ?_)
 rw [h1]
 exact ptr_i (if_i h2 (rd_P h3 (ptr_i hF)))
theorem RfIn.congr (h : RfIn σ b A M) {A' : AT} (q1 : A'.qi = A.qi) (q2 : A'.qb = A.qb) (q3 : A'.last = A.last) (hg : ∀ j, A'.get j = A.get j) : RfIn σ b A' M := by
 refine ⟨?_, ?_, fun i n hn => h.nod i n (by rw [<- hg]; exact hn), fun i n hn => h.ent i n (by rw [<- hg]; exact hn), h.wb, h.wt, fun i n hn => h.wn i n (by rw [<- hg]; exact hn), fun i n g hn => h.we i n g (by rw [<- hg]; exact hn), h.has⟩
 ·rw [q1, q2]; exact h.top
 ·have : ptrRow A' M.cb = ptrRow A M.cb := by unfold ptrRow; rw [q3]; apply List.map_congr_left; intro k _; rw [hg]
  rw [this]; exact h.tab
theorem s_rfEnter {dir ino : Int} {nd ni : AN} {name : ByteArray} (hM : RfIn σ b A M) (hL : ∀ i n, A.get i = some n -> 1 <= i /\ i <= A.last) (hz : A.last <= 1000000000000) (hd : A.get (dir + 1) = some nd) (hi : A.get (ino + 1) = some ni) (hne : dir ≠ ino) (hnk : lk name nd.ents = none) (hnod : (keysL nd.ents).Nodup) (hlen : nd.ents.length <= 100000000) {K : KH}
 (hK : ∀ σ' M', (∀ A' : AT, A'.qi = A.qi -> A'.qb = A.qb -> A'.last = A.last -> (∀ j, A'.get j = if j = ino + 1 then some (if ni.kind = 2 then { ni with up := dir + 1 } else ni) else if j = dir + 1 then some { nd with ents := up name (ino + 1) nd.ents } else A.get j) -> RfIn σ' b A' M') -> (∀ c o, σ c = some o -> M.w c = none -> σ' c = some o /\ M'.w c = none) -> K (.tuple ⟨[]⟩) σ') :
 callW Tryz.prog 135 [.pointer (some ⟨b, 0, none⟩), .int .i64 dir, .string name, .int .i64 ino] K σ := by
 refine c135 _ _ _ _ ?_
 unfold g135
 refine loop_i ?_
 intro R hR
 generalize hks : sortN (keysL nd.ents) = ks
 have hkl : ks.length = nd.ents.length := by rw [<- hks, (sortN_perm _).length_eq]; simp [keysL]
 have hke : ∀ {τ : H}, RfIn τ b A M -> (M.ey (dir + 1)).len = ks.length := by
  intro τ h
  have := (h.ent _ _ hd).1
  rw [<- hks]; simpa [eRow] using this
 have hnm : name ∉ ks := by rw [<- hks]; intro h; exact (lk_none_iff.1 hnk) ((sortN_perm _).mem_iff.1 h)
 have hT : entR name [.string name, .int .i64 ino] (fun k => [Value.string k, .int .i64 ((lk k nd.ents).getD 0 - 1)]) false ks = eRow (up name (ino + 1) nd.ents) := by
  unfold eRow
  rw [keys_up_none hnk, sortN_snoc, hks, <- entR_eq]
  have e1 : [Value.string name, .int .i64 ((lk name (up name (ino + 1) nd.ents)).getD 0 - 1)] = [Value.string name, .int .i64 ino] := by
   rw [lk_up]; simp
  rw [e1]
  refine entR_congr _ _ ks false fun k hk => ?_
  have : k ≠ name := fun e => hnm (by rw [<- e]; exact hk)
  rw [lk_up]
  have : (k == name) = false := by simpa using this
  rw [this]; rfl
 generalize hTe : eRow (up name (ino + 1) nd.ents) = T at hT
 have wnew : ∀ c, σ c = none -> M.w c = none := fun c hc => hM.new hc
 have key : ∀ (c i : Nat) (l : Sl) (done : Bool) (acc : List (List Value)) (τ : H), c + i = ks.length -> EntNew σ τ acc l -> acc.length <= 2 * i -> acc ++ entR name [.string name, .int .i64 ino] (fun k => [Value.string k, .int .i64 ((lk k nd.ents).getD 0 - 1)]) done (ks.drop i) = T -> R (some ⟨b, 0, none⟩) dir name ino l done (i : Int) τ := by
  intro c
  induction c with
  | zero =>
   intro i l done acc τ hc hE hal hacc
   have hMt := hM.gr hE.1
   have hlen2 := hke hMt
   rw [show ks.drop i = [] from List.drop_eq_nil_of_le (by omega)] at hacc
   refine hR _ _ _ _ _ _ _ _ ?_
   refine rf_at2 hMt hL hd (rd_L (rdC_of (hMt.nod _ _ hd) (by rfl)) (br_f (by simp only [decide_eq_false_iff_not]; omega) ?_))
   refine j_i (fun j => ∀ l' τ', EntNew σ τ' T l' -> j (some ⟨b, 0, none⟩) dir ino l' τ') ?_ ?_
   case refine_2 =>
    intro j hj
    cases done with
    | true =>
     have : acc = T := by simpa [entR] using hacc
     rw [this] at hE
     exact br_f rfl (hj l τ hE)
    | false =>
     refine br_t rfl (app_ent hE (by omega) ?_)
     intro l' τ' hE' _
     have : acc ++ [[Value.string name, .int .i64 ino]] = T := by simpa [entR] using hacc
     rw [this] at hE'
     exact hj l' τ' hE'
   intro l' τ' hE'
   have hM' := hM.gr hE'.1
   have hlow : ∀ i n, A.get i = some n -> 1 <= i := fun i n hn => (hL i n hn).1
   refine rf_at2 hM' hL hd ?_
   refine st_i2 (hM'.nod _ _ hd) sz_REnts (by rfl) (by rfl) ?_; intro τ1 p1
   have p1' : Put τ' (M.cb (dir + 1)) (nodeO { nd with ents := up name (ino + 1) nd.ents } l') τ1 := p1
   clear p1
   have hM1 := hM'.setN hlow hd (n' := { nd with ents := up name (ino + 1) nd.ents }) (y' := l') p1' (by rw [show eRow ({ nd with ents := up name (ino + 1) nd.ents } : AN).ents = T from hTe]; exact hE'.2.1) (fun g hg => .inl (wnew g (hE'.2.2 g hg)))
   have hgi : (A.set (dir + 1) { nd with ents := up name (ino + 1) nd.ents }).get (ino + 1) = some ni := by rw [AT.get_set_ne _ _ (by omega)]; exact hi
   have hL1 : ∀ i n, (A.set (dir + 1) { nd with ents := up name (ino + 1) nd.ents }).get i = some n -> 1 <= i /\ i <= (A.set (dir + 1) { nd with ents := up name (ino + 1) nd.ents }).last := by
    intro i n hn
    rw [AT.get_set] at hn
    by_cases e : i = dir + 1
    ·rw [e]; exact hL _ _ hd
    ·rw [if_neg e] at hn; exact hL _ _ hn
   have fr1 : ∀ c o, σ c = some o -> M.w c = none -> τ1 c = some o /\ (M.setE (dir + 1) l').w c = none := by
    intro c o hc hw
    have h1 := hE'.1.get hc
    have hcb : c ≠ M.cb (dir + 1) := fun e => by rw [e, hM.wn _ _ hd] at hw; cases hw
    refine ⟨p1'.get hcb h1, ?_⟩
    show (if l'.base = some ⟨c, 0, none⟩ then some (dir + 1, true) else M.w c) = none
    rw [if_neg (fun e => by rw [hE'.2.2 c e] at hc; cases hc)]; exact hw
   refine rf_at2 hM1 hL1 hgi (rd_I (rdC_of (hM1.nod _ _ hgi) (by rfl)) ?_)
   by_cases hk2 : ni.kind = 2
   ·refine br_t (by simpa using hk2) (rf_at2 hM1 hL1 hgi ?_)
    refine st_i2 (hM1.nod _ _ hgi) sz_int (by rfl) (by rfl) ?_; intro τ2 p2
    have p2' : Put τ1 ((M.setE (dir + 1) l').cb (ino + 1)) (nodeO { ni with up := dir + 1 } ((M.setE (dir + 1) l').ey (ino + 1))) τ2 := by
     have e : upR ({ ni with up := dir + 1 } : AN) = dir := by
      unfold upR
      rw [if_pos (show ({ ni with up := dir + 1 } : AN).kind = 2 from hk2)]
      show dir + 1 - 1 = dir
      omega
     unfold nodeO
     rw [e]
     exact p2
    clear p2
    have hM2 := hM1.setN (fun i n hn => (hL1 i n hn).1) hgi (n' := { ni with up := dir + 1 }) p2' (show RowsOwn τ1 206 2 (eRow ni.ents) _ from hM1.ent _ _ hgi) (fun g hg => .inr (hM1.we _ _ g hgi hg))
    refine hK τ2 _ (fun A' q1 q2 q3 hg => hM2.congr q1 q2 q3 fun j => ?_) ?_
    ·rw [hg j, AT.get_set, AT.get_set, if_pos hk2]
    ·intro c o hc hw
     obtain ⟨f1, f2⟩ := fr1 c o hc hw
     have hcb : c ≠ M.cb (ino + 1) := fun e => by rw [e, hM.wn _ _ hi] at hw; cases hw
     refine ⟨p2'.get hcb f1, ?_⟩
     show (if ((M.setE (dir + 1) l').ey (ino + 1)).base = some ⟨c, 0, none⟩ then some (ino + 1, true) else (M.setE (dir + 1) l').w c) = none
     rw [if_neg (fun e => by rw [hM1.we _ _ c hgi e] at f2; cases f2)]; exact f2
   ·refine br_f (by simpa using hk2) (hK τ1 _ (fun A' q1 q2 q3 hg => hM1.congr q1 q2 q3 fun j => ?_) fr1)
    rw [hg j, AT.get_set, if_neg hk2]
    by_cases e : j = ino + 1
    ·rw [if_pos e, e, if_neg (by omega)]; exact hi.symm
    ·rw [if_neg e]
  | succ c ih =>
   intro i l done acc τ hc hE hal hacc
   have hMt := hM.gr hE.1
   have hlen2 := hke hMt
   obtain ⟨k, hk⟩ : ∃ k, ks[i]? = some k := ⟨_, List.getElem?_eq_getElem (by omega)⟩
   have hdrop : ks.drop i = k :: ks.drop (i + 1) := by
    rw [List.drop_eq_getElem_cons (by omega)]
    rw [List.getElem?_eq_getElem (by omega)] at hk
    rw [Option.some.inj hk]
   rw [hdrop] at hacc
   obtain ⟨gy, oy, q1, _, _, q4⟩ := erow_at (hMt.ent _ _ hd) (by rw [hks]; exact hk)
   refine hR _ _ _ _ _ _ _ _ ?_
   refine rf_at2 hMt hL hd (rd_L (rdC_of (hMt.nod _ _ hd) (by rfl)) (br_t (by simp only [decide_eq_true_eq]; omega) ?_))
   refine rf_at2 hMt hL hd (rd_L (rdC_of (hMt.nod _ _ hd) (by rfl)) ?_)
   rw [q1]
   have e0 : (i : Int).toNat = i := by omega
   refine ptr_i (if_i ⟨by omega, by show (i : Int) < (((M.ey (dir + 1)).len : Nat) : Int); omega⟩ (rd_G (by rw [e0]; exact q4) ?_))
   (refine app_of rfl ?_; try dsimp only)
   refine al_i ?_; intro b35 τ1 g1 e1 n1
   refine st_i2 e1 sz_REntry (by rfl) (by rfl) ?_; intro τ2 p2
   have g2 : Gr τ τ2 := g1.putF p2 n1
   have k35 : τ2 b35 = some (.cells ⟨[.string k, .int .i64 ((lk k nd.ents).getD 0 - 1)]⟩ 206 (0, 0)) := p2.same
   clear p2 e1
   have hE2 : EntNew σ τ2 acc l := ⟨hE.1.trans g2, hE.2.1.gr g2, hE.2.2⟩
   have hlb : l.base ≠ some ⟨b35, 0, none⟩ := fun e => hE.2.1.has e n1
   refine j_i (fun j => ∀ (l' : Sl) (done' : Bool) (acc' : List (List Value)) (τ' : H) v1 v2 v3 v4, EntNew σ τ' acc' l' -> acc'.length <= 2 * i + 1 -> τ' b35 = some (.cells ⟨[.string k, .int .i64 ((lk k nd.ents).getD 0 - 1)]⟩ 206 (0, 0)) -> acc' ++ [.string k, .int .i64 ((lk k nd.ents).getD 0 - 1)] :: entR name [.string name, .int .i64 ino] (fun k => [Value.string k, .int .i64 ((lk k nd.ents).getD 0 - 1)]) done' (ks.drop (i + 1)) = T -> j (some ⟨b, 0, none⟩) dir name ino l' done' (i : Int) (some ⟨b35, 0, none⟩) v1 v2 v3 v4 τ') ?_ ?_
   ·intro l' done' acc' τ' v1 v2 v3 v4 a1 a2 a3 a4
    refine ptr_i (rd_G (rdA_of' a3 (by rfl)) ?_)
    (refine app_of rfl ?_; try dsimp only)
    refine app_ent a1 (by omega) ?_
    intro l'' τ'' hE'' _
    rw [wrap_id (x := (i : Int) + 1) (by omega) (by omega)]
    rw [show (i : Int) + 1 = ((i + 1 : Nat) : Int) from by omega]
    refine ih (i + 1) l'' done' _ τ'' (by omega) hE'' (by rw [List.length_append]; simp; omega) ?_
    rw [List.append_assoc]; exact a4
   intro j36 h36
   refine j_i (fun j => ∀ v1 v2 v3 v4, j (some ⟨b, 0, none⟩) dir name ino l done (i : Int) (some ⟨b35, 0, none⟩) v1 v2 v3 v4 (!done && ltB name k) τ2) ?_ ?_
   ·intro v1 v2 v3 v4
    cases ht : (!done && ltB name k) with
    | false =>
     refine br_f rfl (h36 l done acc τ2 _ _ _ _ hE2 (by omega) k35 ?_)
     unfold entR at hacc
     rw [if_neg (by rw [ht]; decide)] at hacc
     exact hacc
    | true =>
     refine br_t rfl (app_ent hE2 (by omega) ?_)
     intro l' τ' hE' hkeep
     refine h36 l' true _ τ' _ _ _ _ hE' (by rw [List.length_append]; simp; omega) (hkeep _ _ k35 hlb) ?_
     unfold entR at hacc
     rw [if_pos ht] at hacc
     rw [List.append_assoc]; exact hacc
   ·intro j55 h55
    cases done with
    | true => exact br_f rfl (h55 _ _ _ _)
    | false =>
     refine br_t rfl (rd_S (rdC_of k35 (by rfl)) ?_)
     rw [strLt_eq]
     exact h55 _ _ _ _
 exact key ks.length 0 ⟨none, 0, 0⟩ false [] σ (by omega) ⟨Gr.refl _, RowsOwn.nil _ _ _, fun g h => by cases h⟩ (by simp) (by simpa using hT)
end
section
variable {σ σ' : H} {b : Nat} {A : AT} {M : RfM} {N : Nat}
theorem und_RNodes : Tryz.prog.underlying 95 = some (.slice 98) := by kernel_rfl
theorem sz_RNodes : sizeT Tryz.prog 95 = some 1 := by kernel_rfl
theorem info_PRNode : ∃ i z, Tryz.prog.info? 98 = some i /\ i.zero = some z /\ i.size = 1 /\ i.bytes = 8 /\ z.cells.size = 1 := by
 have h1 : (Tryz.prog.info? 98).map (fun i => (i.zero.map (fun z => z.cells.size), i.size, i.bytes)) = some (some 1, 1, 8) := by kernel_rfl
 cases hi : Tryz.prog.info? 98 with
 | none => rw [hi] at h1; cases h1
 | some i =>
  rw [hi] at h1
  simp only [Option.map_some, Option.some.injEq, Prod.mk.injEq] at h1
  cases hz : i.zero with
  | none => rw [hz] at h1; cases h1.1
  | some z =>
   rw [hz] at h1
   exact ⟨i, z, rfl, hz, h1.2.1, h1.2.2, by simpa using h1.1⟩
def AT.plus (A : AT) (n : AN) : AT := { A with last := A.last + 1, nodes := up (A.last + 1) n A.nodes }
theorem plus_get (A : AT) (n : AN) (j : Int) : (AT.plus A n).get j = if j = A.last + 1 then some n else A.get j := by
 unfold AT.plus AT.get; simp only [lk_up]
 by_cases h : j = A.last + 1 <;> simp [h]
def RfM.plus (M : RfM) (l : Int) (x' : Sl) (c13 : Nat) : RfM := ⟨x', fun j => if j = l then c13 else M.cb j, fun j => if j = l then ⟨none, 0, 0⟩ else M.ey j, fun c => if c = c13 then some (l, false) else if x'.base = some ⟨c, 0, none⟩ then some (0, true) else M.w c⟩
theorem RfIn.plus (h : RfIn σ b A M) (hI : Wk.Inv A) {n : AN} (hne : n.ents = []) {c13 : Nat} {x' : Sl} {τ1 τ2 : H} (hg : Gr σ σ') (hn13 : σ c13 = none) (h13 : σ' c13 = some (nodeO n ⟨none, 0, 0⟩))
 (hx : RowsOwn τ1 98 1 (ptrRow A M.cb ++ [[.pointer (some ⟨c13, 0, none⟩)]]) x') (hcase : (∃ g o, M.x.base = some ⟨g, 0, none⟩ /\ x'.base = M.x.base /\ Put σ' g o τ1) \/ (∃ g, x'.base = some ⟨g, 0, none⟩ /\ σ' g = none /\ Gr σ' τ1))
 (hp : Put τ1 b (.cells ⟨[.int .i64 A.qi, .int .i64 A.qb, .slice x'.base x'.len x'.cap]⟩ 97 (0, 0)) τ2) :
 RfIn τ2 b (AT.plus A n) (M.plus (A.last + 1) x' c13) /\ (∀ c o, σ c = some o -> M.w c = none -> τ2 c = some o /\ (M.plus (A.last + 1) x' c13).w c = none) := by
 have hlow : ∀ i n, A.get i = some n -> 1 <= i /\ i <= A.last := hI.low
 have hl0 := hI.last_pos
 have w13 : M.w c13 = none := h.new hn13
 have hcb13 : c13 ≠ b := fun e => by rw [e, h.wb] at w13; cases w13
 -- the new row's block
 have hxw : ∀ g, x'.base = some ⟨g, 0, none⟩ -> M.w g = some (0, true) \/ (σ' g = none /\ M.w g = none) := by
  intro g hg2
  rcases hcase with ⟨g', o, q1, q2, q3⟩ | ⟨g', q1, q2, q3⟩
  ·rw [q2] at hg2; exact .inl (h.wt g hg2)
  ·rw [q1] at hg2
   injection hg2 with hg2
   injection hg2 with hg2
   subst hg2
   exact .inr ⟨q2, h.new (none_of hg q2)⟩
 have hxb : x'.base ≠ some ⟨b, 0, none⟩ := by
  intro e
  rcases hxw b e with e2 | ⟨_, e2⟩ <;> rw [h.wb] at e2 <;> cases e2
 have hx13 : x'.base ≠ some ⟨c13, 0, none⟩ := by
  intro e
  rcases hxw c13 e with e2 | ⟨e2, _⟩
  ·rw [w13] at e2; cases e2
  ·rw [h13] at e2; cases e2
 have keep : ∀ c o, σ' c = some o -> M.w c ≠ some (0, true) -> c ≠ b -> τ2 c = some o := by
  intro c o hc hw hb
  refine hp.get hb ?_
  rcases hcase with ⟨g', o', q1, q2, q3⟩ | ⟨g', q1, q2, q3⟩
  ·exact q3.get (fun e => hw (by rw [e]; exact h.wt g' q1)) hc
  ·exact q3.get hc
 have keepR : ∀ i n, A.get i = some n -> RowsOwn τ2 206 2 (eRow n.ents) (M.ey i) := by
  intro i m hm
  refine (h.ent i m hm).keep fun g o hg2 ho => keep g o (hg.get ho) ?_ ?_
  ·rw [h.we i m g hm hg2]
   intro e; injection e with e; injection e with e _; have := (hlow i m hm).1; omega
  ·intro e; have := h.we i m g hm hg2; rw [e, h.wb] at this; injection this with this; injection this with _ this; cases this
 have hget : ∀ j m, (AT.plus A n).get j = some m -> (j = A.last + 1 /\ m = n) \/ (j ≠ A.last + 1 /\ A.get j = some m) := by
  intro j m hm
  rw [plus_get] at hm
  by_cases e : j = A.last + 1
  ·rw [if_pos e] at hm; exact .inl ⟨e, (Option.some.inj hm).symm⟩
  ·rw [if_neg e] at hm; exact .inr ⟨e, hm⟩
 have h13' : τ2 c13 = some (nodeO n ⟨none, 0, 0⟩) := keep c13 _ h13 (by rw [w13]; simp) hcb13
 refine ⟨⟨?_, ?_, ?_, ?_, ?_, ?_, ?_, ?_, ?_⟩, ?_⟩
 ·exact hp.same
 ·have : ptrRow (AT.plus A n) (M.plus (A.last + 1) x' c13).cb = ptrRow A M.cb ++ [[.pointer (some ⟨c13, 0, none⟩)]] := by
   unfold ptrRow
   have e1 : (AT.plus A n).last.toNat = A.last.toNat + 1 := by show (A.last + 1).toNat = _; omega
   rw [e1, List.range_succ, List.map_append]
   congr 1
   ·apply List.map_congr_left
    intro k hk
    have hk : k < A.last.toNat := List.mem_range.1 hk
    rw [plus_get, if_neg (show ¬ ((k : Int) + 1 = A.last + 1) by omega)]
    show [Value.pointer (if (A.get ((k : Int) + 1)).isSome then some ⟨(if (k : Int) + 1 = A.last + 1 then c13 else M.cb ((k : Int) + 1)), 0, none⟩ else none)] = _
    rw [if_neg (show ¬ ((k : Int) + 1 = A.last + 1) by omega)]
   ·have e2 : ((A.last.toNat : Nat) : Int) + 1 = A.last + 1 := by omega
    simp only [List.map_cons, List.map_nil, e2, plus_get, if_true]
    show [[Value.pointer (some ⟨(if A.last + 1 = A.last + 1 then c13 else M.cb (A.last + 1)), 0, none⟩)]] = _
    rw [if_pos rfl]
  show RowsOwn τ2 98 1 (ptrRow (AT.plus A n) (M.plus (A.last + 1) x' c13).cb) x'
  rw [this]
  exact hx.put hp hxb
 ·intro j m hm
  rcases hget j m hm with ⟨e1, e2⟩ | ⟨e1, e2⟩
  ·subst e1; subst e2
   show τ2 (if A.last + 1 = A.last + 1 then c13 else M.cb (A.last + 1)) = some (nodeO m (if A.last + 1 = A.last + 1 then ⟨none, 0, 0⟩ else M.ey (A.last + 1)))
   rw [if_pos rfl, if_pos rfl]; exact h13'
  ·show τ2 (if j = A.last + 1 then c13 else M.cb j) = some (nodeO m (if j = A.last + 1 then ⟨none, 0, 0⟩ else M.ey j))
   rw [if_neg e1, if_neg e1]
   obtain ⟨l1, _⟩ := h.low (fun i n hn => (hlow i n hn).1) e2
   refine keep _ _ (hg.get (h.nod j m e2)) ?_ l1
   rw [h.wn j m e2]
   intro e; injection e with e; injection e with _ e; cases e
 ·intro j m hm
  rcases hget j m hm with ⟨e1, e2⟩ | ⟨e1, e2⟩
  ·subst e1; subst e2
   show RowsOwn τ2 206 2 (eRow m.ents) (if A.last + 1 = A.last + 1 then ⟨none, 0, 0⟩ else M.ey (A.last + 1))
   rw [if_pos rfl, hne]; exact RowsOwn.nil _ _ _
  ·show RowsOwn τ2 206 2 (eRow m.ents) (if j = A.last + 1 then ⟨none, 0, 0⟩ else M.ey j)
   rw [if_neg e1]; exact keepR j m e2
 ·show (if b = c13 then _ else if x'.base = some ⟨b, 0, none⟩ then _ else M.w b) = _
  rw [if_neg (Ne.symm hcb13), if_neg hxb]; exact h.wb
 ·intro g hg2
  have hg2 : x'.base = some ⟨g, 0, none⟩ := hg2
  show (if g = c13 then _ else if x'.base = some ⟨g, 0, none⟩ then _ else M.w g) = _
  rw [if_neg (fun e => hx13 (by rw [<- e]; exact hg2)), if_pos hg2]
 ·intro j m hm
  rcases hget j m hm with ⟨e1, e2⟩ | ⟨e1, e2⟩
  ·subst e1
   show (if (if A.last + 1 = A.last + 1 then c13 else M.cb (A.last + 1)) = c13 then _ else _) = _
   rw [if_pos rfl, if_pos rfl]
  ·have hwj := h.wn j m e2
   show (if (if j = A.last + 1 then c13 else M.cb j) = c13 then _ else if x'.base = some ⟨(if j = A.last + 1 then c13 else M.cb j), 0, none⟩ then _ else M.w (if j = A.last + 1 then c13 else M.cb j)) = _
   rw [if_neg e1, if_neg (fun e => by rw [e, w13] at hwj; cases hwj), if_neg (fun e => by
    rcases hxw _ e with e3 | ⟨_, e3⟩ <;> rw [hwj] at e3
    ·injection e3 with e3; injection e3 with _ e3; cases e3
    ·cases e3)]
   exact hwj
 ·intro j m g hm hg2
  rcases hget j m hm with ⟨e1, e2⟩ | ⟨e1, e2⟩
  ·subst e1
   have hg2 : (if A.last + 1 = A.last + 1 then (⟨none, 0, 0⟩ : Sl) else M.ey (A.last + 1)).base = some ⟨g, 0, none⟩ := hg2
   rw [if_pos rfl] at hg2; cases hg2
  ·have hg2 : (if j = A.last + 1 then (⟨none, 0, 0⟩ : Sl) else M.ey j).base = some ⟨g, 0, none⟩ := hg2
   rw [if_neg e1] at hg2
   have hwj := h.we j m g e2 hg2
   have hj1 := (hlow j m e2).1
   show (if g = c13 then _ else if x'.base = some ⟨g, 0, none⟩ then _ else M.w g) = _
   rw [if_neg (fun e => by rw [e, w13] at hwj; cases hwj), if_neg (fun e => by
    rcases hxw _ e with e3 | ⟨_, e3⟩ <;> rw [hwj] at e3
    ·injection e3 with e3; injection e3 with e3 _; omega
    ·cases e3)]
   exact hwj
 ·intro c hc
  have hc : (if c = c13 then some (A.last + 1, false) else if x'.base = some ⟨c, 0, none⟩ then some (0, true) else M.w c) ≠ none := hc
  by_cases e1 : c = c13
  ·rw [e1, h13']; simp
  by_cases e2 : c = b
  ·rw [e2, hp.same]; simp
  by_cases e3 : x'.base = some ⟨c, 0, none⟩
  ·exact (hx.put hp hxb).has e3
  ·rw [if_neg e1, if_neg e3] at hc
   have := h.has c hc
   cases ho : σ c with
   | none => exact absurd ho this
   | some o =>
    by_cases e4 : M.w c = some (0, true)
    ·-- the old row: it stays, or it was the same block
     rcases hcase with ⟨g', o', q1, q2, q3⟩ | ⟨g', q1, q2, q3⟩
     ·by_cases e5 : c = g'
      ·exfalso; apply e3; rw [q2, q1, e5]
      ·rw [hp.get e2 (q3.get e5 (hg.get ho))]; simp
     ·rw [hp.get e2 (q3.get (hg.get ho))]; simp
    ·rw [keep c o (hg.get ho) e4 e2]; simp
 ·intro c o hc hw
  refine ⟨keep c o (hg.get hc) (by rw [hw]; simp) (fun e => by rw [e, h.wb] at hw; cases hw), ?_⟩
  show (if c = c13 then some (A.last + 1, false) else if x'.base = some ⟨c, 0, none⟩ then some (0, true) else M.w c) = none
  rw [if_neg (fun e => by rw [e, hn13] at hc; cases hc), if_neg (fun e => by
   rcases hxw _ e with e3 | ⟨e3, _⟩
   ·rw [hw] at e3; cases e3
   ·rw [hg.get hc] at e3; cases e3)]
  exact hw
end
section
variable {σ σ' : H} {b : Nat} {A : AT} {M : RfM} {N : Nat}
theorem s_rfMade (hI : Wk.Inv A) (hB : Bd N A) (hN : N <= 100000000) (hM : RfIn σ b A M) {d : Int} {name data : ByteArray} {kind mode px : Int} (hdir : A.isDir (d + 1)) (hnm : namedE name = 0) (hlk : likeE kind mode data = 0) (hf : A.find (d + 1) name = none) {K : KH}
 (hK : ∀ σ' M', RfIn σ' b (A.makeR (d + 1) name kind mode data).2.2 M' -> (∀ c o, σ c = some o -> M.w c = none -> σ' c = some o /\ M'.w c = none) -> K (.int .i64 (A.makeR (d + 1) name kind mode data).2.1) σ') :
 callW Tryz.prog 81 [.pointer (some ⟨b, 0, none⟩), .agg ⟨[.int .i64 d, .string name, .int .i64 px]⟩, .int .i64 kind, .int .i64 mode, .string data] K σ := by
 have hmk : A.makeE (d + 1) name kind mode data = A.roomE 1 (data.size : Int) := by
  unfold AT.makeE
  simp only [firstE, AT.dirE_of hdir, hnm, hlk, hf, Option.isSome_none, Bool.false_eq_true, if_false, if_true]
  by_cases h : A.roomE 1 (data.size : Int) = 0
  ·rw [if_pos h, h]
  ·rw [if_neg h]
 refine c81 _ _ _ _ _ _ _ ?_
 unfold g81
 refine al_i ?_; intro b8 σ1 g1 e1 n1
 refine call_i (s_rfRoom hI hB (by omega) (hM.gr g1) 1 (data.size : Int) (app_B ?_))
 by_cases hr : A.roomE 1 (data.size : Int) = 0
 case neg =>
  have h10 : A.roomE 1 (data.size : Int) = 10 := by
   unfold AT.roomE at hr ⊢
   split at hr
   ·exact absurd rfl hr
   ·rename_i h; rw [if_neg h]
  refine br_t (by simp [h10]) ?_
  have hmr : A.makeR (d + 1) name kind mode data = (0, 10, A) := by
   rw [makeR_n (by rw [hmk, h10]; decide), hmk, h10]
  have := hK σ1 M (by rw [hmr]; exact hM.gr g1) (fun c o hc hw => ⟨g1.get hc, hw⟩)
  rw [hmr] at this
  exact this
 refine br_f (by simp [hr]) ?_
 have hmz : A.makeE (d + 1) name kind mode data = 0 := by rw [hmk, hr]
 have hlast := hB.last
 have hl0 := hI.last_pos
 obtain ⟨nd, hnd, hnd2⟩ := hdir
 have hM1 := hM.gr g1
 refine ptr_i (rd_L (rdC_of hM1.top (by rfl)) ?_)
 refine al_i ?_; intro b13 σ2 g2 e2 n2
 refine al_i ?_; intro b14 σ3 g3 e3 n3
 obtain ⟨i, z, i1, i2, i3, i4, i5⟩ := info_PRNode
 have hM3 := hM1.gr (g2.trans g3)
 have hplen : (ptrRow A M.cb).length = A.last.toNat := by simp [ptrRow]
 refine append_i und_RNodes i1 i2 i3 i4 i5 (by decide) hM3.tab e3 rfl (by intro u hu; simp at hu; subst hu; rfl) (by omega) (by decide) ?_
 intro x' τ1 hx hcase
 refine ptr_i ?_
 have htop1 : τ1 b = some (.cells ⟨[.int .i64 A.qi, .int .i64 A.qb, .slice M.x.base M.x.len M.x.cap]⟩ 97 (0, 0)) := by
  rcases hcase with ⟨g, o, q1, q2, q3⟩ | ⟨g, q1, q2, q3⟩
  ·refine q3.get (fun e => ?_) hM3.top
   have := hM3.wt g q1
   rw [<- e, hM3.wb] at this; injection this with this; injection this with _ this; cases this
  ·exact q3.get hM3.top
 refine st_i2 htop1 sz_RNodes (by rfl) (by rfl) ?_; intro τ2 p2
 have p2' : Put τ1 b (.cells ⟨[.int .i64 A.qi, .int .i64 A.qb, .slice x'.base x'.len x'.cap]⟩ 97 (0, 0)) τ2 := p2
 clear p2
 have hup : upR (⟨kind, mode, data, 1, if kind = 2 then 1 else 0, []⟩ : AN) = 0 := by
  unfold upR
  by_cases h : kind = 2
  ·rw [if_pos h]; show (if kind = 2 then (1 : Int) else 0) - 1 = 0; rw [if_pos h]; rfl
  ·rw [if_neg h]
 have h13 : σ3 b13 = some (nodeO ⟨kind, mode, data, 1, if kind = 2 then 1 else 0, []⟩ ⟨none, 0, 0⟩) := by
  unfold nodeO
  rw [hup]
  exact g3.get e2
 obtain ⟨hP, hPf⟩ := RfIn.plus (n := ⟨kind, mode, data, 1, if kind = 2 then 1 else 0, []⟩) hM hI rfl ((g1.trans g2).trans g3) (none_of g1 n2) h13 hx hcase p2'
 -- the place is still there
 have k8 : τ2 b8 = some (.cells ⟨[.int .i64 d, .string name, .int .i64 px]⟩ 125 (0, 0)) := by
  have h3 := (g2.trans g3).get e1
  have hb8 : b8 ≠ b := by intro e; rw [e, hM.top] at n1; cases n1
  refine p2'.get hb8 ?_
  rcases hcase with ⟨g, o, q1, q2, q3⟩ | ⟨g, q1, q2, q3⟩
  ·exact q3.get (fun e => by rw [e] at n1; exact hM.tab.has q1 n1) h3
  ·exact q3.get h3
 refine rd_I (rdC_of k8 (by rfl)) (rd_S (rdC_of k8 (by rfl)) (ptr_i (rd_L (rdC_of p2'.same (by rfl)) ?_)))
 have hxl : x'.len = A.last.toNat + 1 := by
  have := hx.1
  rw [List.length_append, hplen] at this
  simpa using this
 have ew : IntKind.i64.wrap (((x'.len : Nat) : Int) - 1) = A.last := by
  rw [wrap_id (by omega) (by omega)]; omega
 show callT _ _ [_, _, _, .int .i64 (IntKind.i64.wrap (((x'.len : Nat) : Int) - 1))] _ _ _
 rw [ew]
 have hdl := hI.low _ _ hnd
 have hd1 : (AT.plus A ⟨kind, mode, data, 1, if kind = 2 then 1 else 0, []⟩).get (d + 1) = some nd := by rw [plus_get, if_neg (by omega)]; exact hnd
 have hd2 : (AT.plus A ⟨kind, mode, data, 1, if kind = 2 then 1 else 0, []⟩).get (A.last + 1) = some ⟨kind, mode, data, 1, if kind = 2 then 1 else 0, []⟩ := by rw [plus_get, if_pos rfl]
 have hL2 : ∀ i n, (AT.plus A ⟨kind, mode, data, 1, if kind = 2 then 1 else 0, []⟩).get i = some n -> 1 <= i /\ i <= (AT.plus A ⟨kind, mode, data, 1, if kind = 2 then 1 else 0, []⟩).last := by
  intro i n hn
  rw [plus_get] at hn
  show 1 <= i /\ i <= A.last + 1
  by_cases e : i = A.last + 1
  ·omega
  ·rw [if_neg e] at hn; have := hI.low _ _ hn; omega
 have hfl : lk name nd.ents = none := by unfold AT.find at hf; rw [hnd] at hf; exact hf
 refine call_i (s_rfEnter hP hL2 (by show A.last + 1 <= _; omega) hd1 hd2 (by omega) hfl (hI.enod _ _ hnd) (by have := hB.ents _ _ hnd; omega) ?_)
 intro σ' M' hR hfr
 refine app_U ?_
 have hmr : A.makeR (d + 1) name kind mode data = (wr (A.last + 1), 0, A.made (d + 1) name kind mode data) := makeR_z hmz
 have hL62 : A.last < 4611686018427387904 := by omega
 have := hK σ' M' (by
  rw [hmr]
  refine hR _ ?_ ?_ ?_ fun j => ?_
  ·show (A.made (d + 1) name kind mode data).qi = A.qi; rw [made_eq hI hL62 hnd]; rfl
  ·show (A.made (d + 1) name kind mode data).qb = A.qb; rw [made_eq hI hL62 hnd]; rfl
  ·show (A.made (d + 1) name kind mode data).last = A.last + 1; rw [made_eq hI hL62 hnd]; rfl
  ·show (A.made (d + 1) name kind mode data).get j = _
   rw [made_get hI hL62 hnd]
   by_cases e1 : j = d + 1
   ·rw [if_pos e1, if_neg (by omega), if_pos e1]
   ·rw [if_neg e1]
    by_cases e2 : j = A.last + 1
    ·rw [if_pos e2, if_pos e2]
     unfold newN
     by_cases h : kind = 2
     ·rw [if_pos h]; simp [h]
     ·rw [if_neg h]
      have : (kind == 2) = false := by simpa using h
      simp [this, h]
    ·rw [if_neg e2, if_neg e2, if_neg e1, plus_get, if_neg e2]) (fun c o hc hw => by
  obtain ⟨q1, q2⟩ := hPf c o hc hw
  exact hfr c o q1 q2)
 rw [hmr] at this
 exact this
theorem s_rfMkdir (hI : Wk.Inv A) (hB : Bd N A) (hN : N <= 100000000) {D : Nat -> Prop} (hA : RfAt σ b A D) (cwd path : ByteArray) {K : KH}
 (hK : ∀ σ' D', RfAt σ' b (A.mkdirF cwd path).2 D' -> Sep σ D σ' D' -> K (.int .i64 (A.mkdirF cwd path).1) σ') :
 callW Tryz.prog 34 [.pointer (some ⟨b, 0, none⟩), .string cwd, .string path] K σ := by
 obtain ⟨M, hM, hD⟩ := hA
 refine c34 _ _ _ ?_
 unfold g34
 refine call_i (s_rfGo hI hB (by omega) hM cwd path false ?_)
 intro σ1 g1
 have hpl := fun e => locate_place hI cwd path false e
 have hmk : A.mkdirF cwd path = (let r := A.locate cwd path false
  if r.1 ≠ 0 then (r.1, A) else if r.2.there = true then (6, A) else if (A.deep 13 r.2.dir).getD 0 >= 12 then (3, A) else let m := A.makeR r.2.dir r.2.name 2 493 ⟨⟨[]⟩⟩; (m.2.1, m.2.2)) := by
  unfold AT.mkdirF AT.freshP
  simp only
  by_cases h : (A.locate cwd path false).1 = 0
  ·simp only [h, ne_eq, not_true_eq_false, if_false]
   cases h2 : (A.locate cwd path false).2.there <;> simp
  ·simp [h]
 generalize A.locate cwd path false = r at hpl hmk ⊢
 obtain ⟨e, p⟩ := r
 simp only at hmk
 have same : ∀ (τ : H) (x : Int), A.mkdirF cwd path = (x, A) -> Gr σ τ -> K (.int .i64 x) τ := by
  intro τ x hx hg
  rw [hx] at hK
  exact hK τ D ⟨M, hM.gr hg, hD⟩ (Sep.gr hg)
 unfold plL
 by_cases he : e = 0
 case neg =>
  rw [if_neg he]
  unfold plZ
  (refine app_of rfl ?_; try dsimp only)
  refine al_i ?_; intro b8 σ2 g2 e2 n2
  refine st_i2 e2 sz_RPlace (by rfl) (by rfl) ?_; intro σ3 p3
  refine br_t (by simpa using he) (same σ3 e (by rw [hmk, if_pos he]) (g1.trans (g2.putF p3 n2)))
 subst he
 rw [if_pos rfl]
 rw [if_neg (by decide)] at hmk
 unfold plV
 (refine app_of rfl ?_; try dsimp only)
 refine al_i ?_; intro b8 σ2 g2 e2 n2
 refine st_i2 e2 sz_RPlace (by rfl) (by rfl) ?_; intro σ3 p3
 have hg3 : Gr σ σ3 := g1.trans (g2.putF p3 n2)
 have k8 : σ3 b8 = some (.cells ⟨[.int .i64 (p.dir - 1), .string p.name, .int .i64 (if p.there then p.ino - 1 else -1)]⟩ 125 (0, 0)) := p3.same
 have hM3 := hM.gr hg3
 have hP : PlOk A p := hpl rfl
 refine br_f rfl (rd_I (rdC_of k8 (by rfl)) ?_)
 cases ht : p.there with
 | true =>
  obtain ⟨n, hn⟩ := PlOk.get hI hP ht
  have hlow := (hI.low _ _ hn).1
  rw [if_pos ht] at hmk
  refine br_t (by simp; omega) (same σ3 6 hmk hg3)
 | false =>
  rw [if_neg (by rw [ht]; decide)] at hmk
  have hdir : A.isDir p.dir := hP.1
  obtain ⟨x, x1, _, x3, x4⟩ := hI.deep13 hdir
  have hd11 : p.dir - 1 + 1 = p.dir := by omega
  refine br_f rfl (rd_I (rdC_of k8 (by rfl)) (call_i (s_rfDeep hM3 hI (d := p.dir - 1) (by rw [hd11]; exact hdir) (by rw [hd11]; exact x1) (app_I ?_))))
  rw [x1] at hmk
  simp only [Option.getD_some] at hmk
  by_cases hx : x >= 12
  ·rw [if_pos hx] at hmk
   exact br_t (by simpa using hx) (same σ3 3 hmk hg3)
  ·rw [if_neg hx] at hmk
   refine br_f (by simpa using hx) (rd_G (rdA_of' k8 (by rfl)) ?_)
   (refine app_of rfl ?_; try dsimp only)
   obtain ⟨nm, fd⟩ := hP.named (hP.notThere ht)
   rw [if_neg (by rw [ht]; decide)] at fd
   refine call_i (s_rfMade hI hB hN hM3 (d := p.dir - 1) (by rw [hd11]; exact hdir) nm (by unfold likeE kindOkE; simp [lk, sEq_self]) (by rw [hd11]; exact fd) ?_)
   intro σ' M' hR hfr
   rw [hd11] at hR ⊢
   rw [hmk] at hK
   refine app_I (hK σ' (fun c => M'.w c ≠ none) ⟨M', hR, fun c => Iff.rfl⟩ ?_)
   intro c o hc hn
   have hw : M.w c = none := by
    cases h : M.w c with
    | none => rfl
    | some r => exact absurd ((hD c).2 (by rw [h]; simp)) hn
   obtain ⟨q1, q2⟩ := hfr c o (hg3.get hc) hw
   exact ⟨q1, fun h => h q2⟩
end
section
variable {σ σ' : H} {b : Nat} {A : AT} {M : RfM} {N : Nat}
theorem Sep.of_frame {D : Nat -> Prop} {M M' : RfM} (hD : ∀ c, D c ↔ M.w c ≠ none) (h : ∀ c o, σ c = some o -> M.w c = none -> σ' c = some o /\ M'.w c = none) : Sep σ D σ' (fun c => M'.w c ≠ none) := by
 intro c o hc hn
 have hw : M.w c = none := by
  cases h : M.w c with
  | none => rfl
  | some r => exact absurd ((hD c).2 (by rw [h]; simp)) hn
 obtain ⟨q1, q2⟩ := h c o hc hw
 exact ⟨q1, fun h => h q2⟩
theorem s_rfWrite (hI : Wk.Inv A) (hB : Bd N A) (hN : N <= 100000000) {D : Nat -> Prop} (hA : RfAt σ b A D) (cwd path data : ByteArray) (more : Bool) (hz : data.size <= 1000000000000000) {K : KH}
 (hK : ∀ σ' D', RfAt σ' b (A.writeF cwd path data more).2 D' -> Sep σ D σ' D' -> K (.int .i64 (A.writeF cwd path data more).1) σ') :
 callW Tryz.prog 32 [.pointer (some ⟨b, 0, none⟩), .string cwd, .string path, .string data, .bool more] K σ := by
 obtain ⟨M, hM, hD⟩ := hA
 refine c32 _ _ _ _ _ ?_
 unfold g32
 refine call_i (s_rfGo hI hB (by omega) hM cwd path true ?_)
 intro σ1 g1
 have hpl := fun e => locate_place hI cwd path true e
 have hnl := fun e t => locate_nolink hI cwd path e t
 have hmk : A.writeF cwd path data more = (let r := A.locate cwd path true
  if r.1 ≠ 0 then (r.1, A) else if r.2.there = false then (let m := A.makeR r.2.dir r.2.name 1 420 data; (m.2.1, m.2.2)) else if A.kind r.2.ino = 2 then (7, A) else A.writeR r.2.ino (if more then A.data r.2.ino ++ data else data)) := rfl
 generalize A.locate cwd path true = r at hpl hmk hnl ⊢
 obtain ⟨e, p⟩ := r
 simp only at hmk
 have same : ∀ (τ : H) (x : Int), A.writeF cwd path data more = (x, A) -> Gr σ τ -> K (.int .i64 x) τ := by
  intro τ x hx hg
  rw [hx] at hK
  exact hK τ D ⟨M, hM.gr hg, hD⟩ (Sep.gr hg)
 unfold plL
 by_cases he : e = 0
 case neg =>
  rw [if_neg he]
  unfold plZ
  (refine app_of rfl ?_; try dsimp only)
  refine al_i ?_; intro b8 σ2 g2 e2 n2
  refine st_i2 e2 sz_RPlace (by rfl) (by rfl) ?_; intro σ3 p3
  refine br_t (by simpa using he) (same σ3 e (by rw [hmk, if_pos he]) (g1.trans (g2.putF p3 n2)))
 subst he
 rw [if_pos rfl]
 rw [if_neg (by decide)] at hmk
 unfold plV
 (refine app_of rfl ?_; try dsimp only)
 refine al_i ?_; intro b8 σ2 g2 e2 n2
 refine st_i2 e2 sz_RPlace (by rfl) (by rfl) ?_; intro σ3 p3
 have hg3 : Gr σ σ3 := g1.trans (g2.putF p3 n2)
 have k8 : σ3 b8 = some (.cells ⟨[.int .i64 (p.dir - 1), .string p.name, .int .i64 (if p.there then p.ino - 1 else -1)]⟩ 125 (0, 0)) := p3.same
 have hM3 := hM.gr hg3
 have hP : PlOk A p := hpl rfl
 refine br_f rfl (rd_I (rdC_of k8 (by rfl)) ?_)
 cases ht : p.there with
 | false =>
  rw [if_pos ht] at hmk
  have hdir : A.isDir p.dir := hP.1
  have hd11 : p.dir - 1 + 1 = p.dir := by omega
  refine br_t rfl (rd_G (rdA_of' k8 (by rfl)) ?_)
  (refine app_of rfl ?_; try dsimp only)
  obtain ⟨nm, fd⟩ := hP.named (hP.notThere ht)
  rw [if_neg (by rw [ht]; decide)] at fd
  refine call_i (s_rfMade hI hB hN hM3 (d := p.dir - 1) (by rw [hd11]; exact hdir) nm (by unfold likeE kindOkE; simp [lk]) (by rw [hd11]; exact fd) ?_)
  intro σ' M' hR hfr
  rw [hd11] at hR ⊢
  rw [hmk] at hK
  refine app_I (hK σ' (fun c => M'.w c ≠ none) ⟨M', hR, fun c => Iff.rfl⟩ (Sep.of_frame hD fun c o hc hw => hfr c o (hg3.get hc) hw))
 | true =>
  obtain ⟨n, hn⟩ := PlOk.get hI hP ht
  have hlow := (hI.low _ _ hn).1
  have hkn : A.kind p.ino = n.kind := by unfold AT.kind; rw [hn]; rfl
  have hdat : A.data p.ino = n.data := by unfold AT.data; rw [hn]; rfl
  have hnl := hnl rfl ht
  rw [if_neg (by rw [ht]; decide), hkn, hdat] at hmk
  rw [hkn] at hnl
  rw [if_pos ht] at k8
  have h11 : p.ino - 1 + 1 = p.ino := by omega
  obtain ⟨gs, os, s1, s2, s3⟩ := hM3.slot hI (d := p.ino - 1) (n := n) (by rw [h11]; exact hn)
  rw [h11] at s3
  rw [if_pos rfl]
  refine br_f (by simp only [decide_eq_false_iff_not]; omega) (ptr_i (rd_L (rdC_of hM3.top (by rfl)) (rd_I (rdC_of k8 (by rfl)) ?_)))
  rw [s1]
  refine ptr_i (if_i s2 (rd_P s3 (ptr_i (rd_I (rdC_of (hM3.nod _ _ hn) (by rfl)) ?_))))
  by_cases hk2 : n.kind = 2
  ·rw [if_pos hk2] at hmk
   exact br_t (by simpa using hk2) (same σ3 7 hmk hg3)
  rw [if_neg hk2] at hmk
  have hk1 : n.kind = 1 := by
   rcases kind_cases (hI.like _ _ hn) with h | h | h
   ·exact h
   ·exact absurd h hk2
   ·exact absurd h hnl
  have hsz := hI.size_le hn
  have hbq := hI.bq
  refine br_f (by simpa using hk2) ?_
  refine j_i (fun j => ∀ s : ByteArray, s = (if more then n.data ++ data else data) -> j (some ⟨b, 0, none⟩) s (some ⟨M.cb p.ino, 0, none⟩) σ3) ?_ ?_
  case refine_2 =>
   intro j hj
   cases more with
   | true =>
    refine br_t rfl (ptr_i (rd_S (rdC_of (hM3.nod _ _ hn) (by rfl)) (if_i (by omega) (hj _ rfl))))
   | false => exact br_f rfl (hj _ rfl)
  intro s hs
  rw [<- hs] at hmk
  have hss : s.size <= 2000000000000000 := by
   rw [hs]
   cases more with
   | true => rw [if_pos rfl, ByteArray.size_append]; omega
   | false => rw [if_neg (by decide)]; omega
  refine ptr_i (rd_S (rdC_of (hM3.nod _ _ hn) (by rfl)) ?_)
  refine call_i (s_rfRoom hI hB (by omega) hM3 0 _ (app_B ?_))
  have hwe : A.writeE p.ino s = A.roomE 0 (IntKind.i64.wrap (((s.size : Nat) : Int) - ((n.data.size : Nat) : Int))) := by
   have hfe : A.fileE p.ino = 0 := by unfold AT.fileE; rw [hn]; simp [hk1]
   unfold AT.writeE
   rw [hn]
   simp only [firstE, hfe, if_true, Option.map_some, Option.getD_some]
   show (if A.roomE 0 (wr (((s.size : Nat) : Int) - ((n.data.size : Nat) : Int))) = 0 then 0 else A.roomE 0 (wr (((s.size : Nat) : Int) - ((n.data.size : Nat) : Int)))) = _
   by_cases h : A.roomE 0 (wr (((s.size : Nat) : Int) - ((n.data.size : Nat) : Int))) = 0
   ·rw [if_pos h]; exact h.symm
   ·rw [if_neg h]; rfl
  by_cases hr : A.roomE 0 (IntKind.i64.wrap (((s.size : Nat) : Int) - ((n.data.size : Nat) : Int))) = 0
  case neg =>
   have h10 : A.roomE 0 (IntKind.i64.wrap (((s.size : Nat) : Int) - ((n.data.size : Nat) : Int))) = 10 := by
    unfold AT.roomE at hr ⊢
    split at hr
    ·exact absurd rfl hr
    ·rename_i h; rw [if_neg h]
   refine br_t (by simp [h10]) (same σ3 10 ?_ hg3)
   rw [hmk]; unfold AT.writeR
   rw [if_neg (by rw [hwe]; exact hr), hwe, h10]
  ·refine br_f (by simp [hr]) (ptr_i ?_)
   refine st_i2 (hM3.nod _ _ hn) sz_string (by rfl) (by rfl) ?_; intro σ4 p4
   have p4' : Put σ3 (M.cb p.ino) (nodeO { n with data := s } (M.ey p.ino)) σ4 := p4
   have hlow2 : ∀ i n, A.get i = some n -> 1 <= i := fun i n hn => (hI.low i n hn).1
   have hM4 := hM3.setN hlow2 hn (n' := { n with data := s }) (y' := M.ey p.ino) p4' (show RowsOwn σ3 206 2 (eRow n.ents) _ from hM3.ent _ _ hn) (fun g hg => .inr (hM3.we _ _ g hn hg))
   have hw0 : A.writeF cwd path data more = (0, A.written p.ino s) := by
    rw [hmk]; unfold AT.writeR; rw [if_pos (by rw [hwe]; exact hr)]
   rw [hw0] at hK
   refine hK σ4 (fun c => (M.setE p.ino (M.ey p.ino)).w c ≠ none) ⟨_, hM4.congr ?_ ?_ ?_ ?_, fun c => Iff.rfl⟩ (Sep.of_frame hD fun c o hc hw => ?_)
   ·unfold AT.written; rw [hn]
   ·unfold AT.written; rw [hn]
   ·unfold AT.written; rw [hn]
   ·intro j; unfold AT.written; rw [hn]; rfl
   ·have hcb : c ≠ M.cb p.ino := fun e => by rw [e, hM.wn _ _ hn] at hw; cases hw
    refine ⟨p4'.get hcb (hg3.get hc), ?_⟩
    show (if (M.ey p.ino).base = some ⟨c, 0, none⟩ then some (p.ino, true) else M.w c) = none
    rw [if_neg (fun e => by rw [hM.we _ _ c hn e] at hw; cases hw)]; exact hw
end
section
variable {σ σ' : H} {b : Nat} {A : AT} {M : RfM} {N : Nat}
theorem s_rfThere (hI : Wk.Inv A) (hB : Bd N A) (hN : N <= 1000000000000) (hM : RfIn σ b A M) (cwd path : ByteArray) (fo : Bool) {K : KH}
 (hK : ∀ σ', Gr σ σ' -> K (.tuple ⟨[.int .i64 (if (A.with_ cwd path fo).1 = 0 then (A.with_ cwd path fo).2.1 - 1 else 0), .int .i64 (A.with_ cwd path fo).1]⟩) σ') :
 callW Tryz.prog 83 [.pointer (some ⟨b, 0, none⟩), .string cwd, .string path, .bool fo] K σ := by
 refine c83 _ _ _ _ ?_
 unfold g83
 refine call_i (s_rfGo hI hB hN hM cwd path fo ?_)
 intro σ1 g1
 have hpl := fun e => locate_place hI cwd path fo e
 have hmk : A.with_ cwd path fo = (let r := A.locate cwd path fo
  if r.1 ≠ 0 then (r.1, 0, IN.z) else if r.2.there = false then (5, 0, IN.z) else match A.get r.2.ino with
   | none => (5, 0, IN.z)
   | some n => (0, r.2.ino, n.inode)) := rfl
 generalize A.locate cwd path fo = r at hpl hmk ⊢
 obtain ⟨e, p⟩ := r
 simp only at hmk
 unfold plL
 by_cases he : e = 0
 case neg =>
  rw [if_neg he]
  rw [if_pos he] at hmk
  unfold plZ
  (refine app_of rfl ?_; try dsimp only)
  refine al_i ?_; intro b8 σ2 g2 e2 n2
  refine st_i2 e2 sz_RPlace (by rfl) (by rfl) ?_; intro σ3 p3
  have hg3 : Gr σ σ3 := g1.trans (g2.putF p3 n2)
  refine j_i (fun j => j (some ⟨b8, 0, none⟩) e false σ3) ?_ (fun j hj => br_f (by simpa using he) hj)
  refine br_f rfl (ptr_i (rd_I (rdC_of p3.same (by rfl)) ?_))
  have := hK σ3 hg3
  rw [hmk] at this
  simp only [he, if_false] at this
  exact this
 subst he
 rw [if_pos rfl]
 rw [if_neg (by decide)] at hmk
 unfold plV
 (refine app_of rfl ?_; try dsimp only)
 refine al_i ?_; intro b8 σ2 g2 e2 n2
 refine st_i2 e2 sz_RPlace (by rfl) (by rfl) ?_; intro σ3 p3
 have hg3 : Gr σ σ3 := g1.trans (g2.putF p3 n2)
 have k8 : σ3 b8 = some (.cells ⟨[.int .i64 (p.dir - 1), .string p.name, .int .i64 (if p.there then p.ino - 1 else -1)]⟩ 125 (0, 0)) := p3.same
 have hP : PlOk A p := hpl rfl
 have := hK σ3 hg3
 cases ht : p.there with
 | false =>
  rw [if_pos ht] at hmk
  rw [hmk] at this
  rw [if_neg (by rw [ht]; decide)] at k8
  refine j_i (fun j => j (some ⟨b8, 0, none⟩) 0 true σ3) (br_t rfl this) ?_
  intro j hj
  refine br_t rfl (rd_I (rdC_of k8 (by rfl)) ?_)
  exact hj
 | true =>
  obtain ⟨n, hn⟩ := PlOk.get hI hP ht
  have hlow := (hI.low _ _ hn).1
  rw [if_neg (by rw [ht]; decide), hn] at hmk
  rw [hmk] at this
  rw [if_pos ht] at k8
  refine j_i (fun j => j (some ⟨b8, 0, none⟩) 0 false σ3) ?_ (fun j hj => br_t rfl (rd_I (rdC_of k8 (by rfl)) ?_))
  ·exact br_f rfl (ptr_i (rd_I (rdC_of k8 (by rfl)) this))
  ·have : decide (p.ino - 1 < 0) = false := by simp only [decide_eq_false_iff_not]; omega
   rw [this]; exact hj
theorem s_rfChmod (hI : Wk.Inv A) (hB : Bd N A) (hN : N <= 100000000) {D : Nat -> Prop} (hA : RfAt σ b A D) (cwd path : ByteArray) (mode : Int) {K : KH}
 (hK : ∀ σ' D', RfAt σ' b (A.chmodF cwd path mode).2 D' -> Sep σ D σ' D' -> K (.int .i64 (A.chmodF cwd path mode).1) σ') :
 callW Tryz.prog 33 [.pointer (some ⟨b, 0, none⟩), .string cwd, .string path, .int .i64 mode] K σ := by
 obtain ⟨M, hM, hD⟩ := hA
 refine c33 _ _ _ _ ?_
 unfold g33
 have same : ∀ (τ : H) (x : Int), A.chmodF cwd path mode = (x, A) -> Gr σ τ -> K (.int .i64 x) τ := by
  intro τ x hx hg
  rw [hx] at hK
  exact hK τ D ⟨M, hM.gr hg, hD⟩ (Sep.gr hg)
 refine j_i (fun j => j (some ⟨b, 0, none⟩) cwd path mode (decide (mode < 0 \/ mode > 511)) σ) ?_ ?_
 case refine_2 =>
  intro j hj
  by_cases c1 : mode < 0
  ·refine br_t (by simpa using c1) ?_
   have : decide (mode < 0 \/ mode > 511) = true := by simp [c1]
   rw [this] at hj; exact hj
  ·refine br_f (by simpa using c1) ?_
   have : decide (mode < 0 \/ mode > 511) = decide (mode > 511) := by simp [c1]
   rw [this] at hj; exact hj
 by_cases hm : mode < 0 \/ mode > 511
 ·refine br_t (by simpa using hm) (same σ 2 (by unfold AT.chmodF; rw [if_pos hm]) (Gr.refl _))
 refine br_f (by simpa using hm) (call_i (s_rfThere hI hB (by omega) hM cwd path true ?_))
 intro σ1 g1
 have hmk : A.chmodF cwd path mode = (if (A.with_ cwd path true).1 ≠ 0 then ((A.with_ cwd path true).1, A) else A.chmodR (A.with_ cwd path true).2.1 mode) := by
  unfold AT.chmodF; rw [if_neg hm]
 have hw : (A.with_ cwd path true).1 = 0 -> ∃ n, A.get (A.with_ cwd path true).2.1 = some n := by
  unfold AT.with_
  simp only
  intro h
  split at h
  ·rename_i h2; exact absurd h h2
  ·rename_i h2
   rw [if_neg h2]
   split at h
   ·cases h
   ·rename_i h3
    rw [if_neg h3]
    cases hg : A.get (A.locate cwd path true).2.ino with
    | none => rw [hg] at h; cases h
    | some n => exact ⟨n, hg⟩
 generalize A.with_ cwd path true = w at hmk hw ⊢
 obtain ⟨e, ino, x⟩ := w
 simp only at hmk hw
 by_cases he : e = 0
 case neg =>
  (refine app_of rfl ?_; try dsimp only)
  refine j_i (fun j => j e σ1) ?_ (fun j hj => br_f (by simpa using he) hj)
  exact same σ1 e (by rw [hmk, if_pos he]) g1
 subst he
 obtain ⟨n, hn⟩ := hw rfl
 rw [if_neg (by decide)] at hmk
 rw [if_pos rfl]
 (refine app_of rfl ?_; try dsimp only)
 have hlow := (hI.low _ _ hn).1
 have h11 : ino - 1 + 1 = ino := by omega
 have hM1 := hM.gr g1
 have hc : A.chmodF cwd path mode = (0, A.chmoded ino mode) := by
  rw [hmk]; unfold AT.chmodR AT.chmodE
  rw [if_pos (show 0 <= mode /\ mode <= 511 by omega), hn]; rfl
 refine j_i (fun j => ∀ τ M', RfIn τ b (A.chmoded ino mode) M' -> (∀ c o, σ c = some o -> M.w c = none -> τ c = some o /\ M'.w c = none) -> j 0 τ) ?_ ?_
 ·intro τ M' h1 h2
  rw [hc] at hK
  exact hK τ (fun c => M'.w c ≠ none) ⟨M', h1, fun c => Iff.rfl⟩ (Sep.of_frame hD h2)
 intro j hj
 refine br_t rfl (rf_at hM1 hI (d := ino - 1) (n := n) (by rw [h11]; exact hn) ?_)
 rw [h11]
 refine st_i2 (hM1.nod _ _ hn) sz_int (by rfl) (by rfl) ?_; intro σ4 p4
 have p4' : Put σ1 (M.cb ino) (nodeO { n with mode := mode } (M.ey ino)) σ4 := p4
 have hM4 := hM1.setN (fun i n hn => (hI.low i n hn).1) hn (n' := { n with mode := mode }) (y' := M.ey ino) p4' (show RowsOwn σ1 206 2 (eRow n.ents) _ from hM1.ent _ _ hn) (fun g hg => .inr (hM1.we _ _ g hn hg))
 have hch : A.chmoded ino mode = A.set ino { n with mode := mode } := by unfold AT.chmoded AT.mod; rw [hn]
 rw [hch] at hj
 refine hj σ4 _ hM4 fun c o hc hw => ?_
 have hcb : c ≠ M.cb ino := fun e => by rw [e, hM.wn _ _ hn] at hw; cases hw
 refine ⟨p4'.get hcb (g1.get hc), ?_⟩
 show (if (M.ey ino).base = some ⟨c, 0, none⟩ then some (ino, true) else M.w c) = none
 rw [if_neg (fun e => by rw [hM.we _ _ c hn e] at hw; cases hw)]; exact hw
theorem s_rfSymlink (hI : Wk.Inv A) (hB : Bd N A) (hN : N <= 100000000) {D : Nat -> Prop} (hA : RfAt σ b A D) (cwd target path : ByteArray) (hz : target.size <= 1000000000000) {K : KH}
 (hK : ∀ σ' D', RfAt σ' b (A.symlinkF cwd target path).2 D' -> Sep σ D σ' D' -> K (.int .i64 (A.symlinkF cwd target path).1) σ') :
 callW Tryz.prog 35 [.pointer (some ⟨b, 0, none⟩), .string cwd, .string target, .string path] K σ := by
 obtain ⟨M, hM, hD⟩ := hA
 refine c35 _ _ _ _ ?_
 unfold g35
 have same : ∀ (τ : H) (x : Int), A.symlinkF cwd target path = (x, A) -> Gr σ τ -> K (.int .i64 x) τ := by
  intro τ x hx hg
  rw [hx] at hK
  exact hK τ D ⟨M, hM.gr hg, hD⟩ (Sep.gr hg)
 have hlen : target.data.toList.length = target.size := (size_list target).symm
 refine loop_i ?_
 intro R hR
 have key : ∀ (c i : Nat), c + i = target.size -> (0 : UInt8) ∉ target.data.toList.take i -> R (some ⟨b, 0, none⟩) cwd target path (i : Int) σ := by
  intro c
  induction c with
  | succ c ihc =>
   intro i hc hno
   refine hR _ _ _ _ _ _ ?_
   obtain ⟨ch, hch⟩ : ∃ ch, target.data.toList[i]? = some ch := ⟨_, List.getElem?_eq_getElem (by omega)⟩
   refine br_t (by simp only [decide_eq_true_eq]; omega) (idx_l (c := ch) (by omega) (by simpa using hch) ?_)
   by_cases hc0 : ch = 0
   ·subst hc0
    have hnul : hasNul target = true := by
     unfold hasNul
     rw [List.any_eq_true]
     exact ⟨0, List.mem_of_getElem? hch, by decide⟩
    refine br_t rfl (same σ 2 ?_ (Gr.refl _))
    unfold AT.symlinkF
    rw [if_pos (by unfold linkOk; rw [hnul]; simp)]
   ·refine br_f ?_ ?_
    ·have : ¬ ((ch.toNat : Int) = 0) := by
      intro e; apply hc0
      have : ch.toNat = 0 := by omega
      exact UInt8.toNat_inj.1 this
     simpa using this
    ·rw [wrap_id (x := (i : Int) + 1) (by omega) (by omega)]
     refine ihc (i + 1) (by omega) ?_
     rw [List.take_add_one, hch]
     simp only [Option.toList_some, List.mem_append, List.mem_singleton, not_or]
     exact ⟨hno, fun e => hc0 e.symm⟩
  | zero =>
   intro i hc hno
   have hi : i = target.size := by omega
   have hnul : hasNul target = false := by
    rw [hi, <- hlen, List.take_length] at hno
    unfold hasNul
    rw [List.any_eq_false]
    intro x hx
    simp only [beq_iff_eq]
    rintro rfl; exact hno hx
   refine hR _ _ _ _ _ _ ?_
   refine br_f (by simp only [decide_eq_false_iff_not]; omega) ?_
   have hlk : linkOk target = !(decide (target.size < 1 \/ target.size > 255)) := by
    unfold linkOk
    rw [hnul]
    cases h0 : sEq target ⟨⟨[]⟩⟩ with
    | true =>
     have : target.size = 0 := by rw [sEq_iff.1 h0]; rfl
     simp [this]
    | false =>
     have : target.size ≠ 0 := by
      intro e
      have : target = ⟨⟨[]⟩⟩ := bytes_ext (List.length_eq_zero_iff.1 (by rw [hlen, e]))
      rw [this] at h0; exact absurd h0 (by decide)
     by_cases h2 : target.size > 255
     ·simp [h2]
     ·have h3 : target.size <= 255 := by omega
      have h4 : ¬ (target.size < 1 \/ target.size > 255) := by omega
      have e1 : decide (target.size <= 255) = true := by simpa using h3
      have e2 : decide (target.size < 1 \/ target.size > 255) = false := by simp only [decide_eq_false_iff_not]; exact h4
      rw [e1, e2]; rfl
   refine j_i (fun j => j (some ⟨b, 0, none⟩) cwd target path (!linkOk target) σ) ?_ ?_
   case refine_2 =>
    intro j hj
    rw [hlk, Bool.not_not] at hj
    by_cases c1 : target.size < 1
    ·refine br_t (by simp only [decide_eq_true_eq]; omega) ?_
     have : decide (target.size < 1 \/ target.size > 255) = true := by simp [c1]
     rw [this] at hj; exact hj
    ·refine br_f (by simp only [decide_eq_false_iff_not]; omega) ?_
     have : decide (target.size < 1 \/ target.size > 255) = decide ((((target.size : Nat) : Int)) > 255) := by
      by_cases h2 : target.size > 255
      ·have : ((target.size : Nat) : Int) > 255 := by omega
       simp [h2, this]
      ·have h3 : ¬ ((target.size : Nat) : Int) > 255 := by omega
       have h4 : ¬ (target.size < 1 \/ target.size > 255) := by omega
       simp only [h3, h4]
     rw [this] at hj; exact hj
   cases hl : linkOk target with
   | false => exact br_t rfl (same σ 2 (by unfold AT.symlinkF; rw [if_pos hl]) (Gr.refl _))
   | true =>
    refine br_f rfl (call_i (s_rfGo hI hB (by omega) hM cwd path false ?_))
    intro σ1 g1
    have hpl := fun e => locate_place hI cwd path false e
    have hmk : A.symlinkF cwd target path = (let r := A.locate cwd path false
     if r.1 ≠ 0 then (r.1, A) else if r.2.there = true then (6, A) else let m := A.makeR r.2.dir r.2.name 3 511 target; (m.2.1, m.2.2)) := by
     unfold AT.symlinkF AT.freshP
     rw [if_neg (by rw [hl]; decide)]
     simp only
     by_cases h : (A.locate cwd path false).1 = 0
     ·simp only [h, ne_eq, not_true_eq_false, if_false]
      cases h2 : (A.locate cwd path false).2.there <;> simp
     ·simp [h]
    generalize A.locate cwd path false = r at hpl hmk ⊢
    obtain ⟨e, p⟩ := r
    simp only at hmk
    unfold plL
    by_cases he : e = 0
    case neg =>
     rw [if_neg he]
     unfold plZ
     (refine app_of rfl ?_; try dsimp only)
     refine al_i ?_; intro b8 σ2 g2 e2 n2
     refine st_i2 e2 sz_RPlace (by rfl) (by rfl) ?_; intro σ3 p3
     refine br_t (by simpa using he) (same σ3 e (by rw [hmk, if_pos he]) (g1.trans (g2.putF p3 n2)))
    subst he
    rw [if_pos rfl]
    rw [if_neg (by decide)] at hmk
    unfold plV
    (refine app_of rfl ?_; try dsimp only)
    refine al_i ?_; intro b8 σ2 g2 e2 n2
    refine st_i2 e2 sz_RPlace (by rfl) (by rfl) ?_; intro σ3 p3
    have hg3 : Gr σ σ3 := g1.trans (g2.putF p3 n2)
    have k8 : σ3 b8 = some (.cells ⟨[.int .i64 (p.dir - 1), .string p.name, .int .i64 (if p.there then p.ino - 1 else -1)]⟩ 125 (0, 0)) := p3.same
    have hM3 := hM.gr hg3
    have hP : PlOk A p := hpl rfl
    refine br_f rfl (rd_I (rdC_of k8 (by rfl)) ?_)
    cases ht : p.there with
    | true =>
     obtain ⟨n, hn⟩ := PlOk.get hI hP ht
     have hlow := (hI.low _ _ hn).1
     rw [if_pos ht] at hmk
     exact br_t (by simp; omega) (same σ3 6 hmk hg3)
    | false =>
     rw [if_neg (by rw [ht]; decide)] at hmk
     have hdir : A.isDir p.dir := hP.1
     have hd11 : p.dir - 1 + 1 = p.dir := by omega
     refine br_f rfl (rd_G (rdA_of' k8 (by rfl)) ?_)
     (refine app_of rfl ?_; try dsimp only)
     obtain ⟨nm, fd⟩ := hP.named (hP.notThere ht)
     rw [if_neg (by rw [ht]; decide)] at fd
     refine call_i (s_rfMade hI hB hN hM3 (d := p.dir - 1) (by rw [hd11]; exact hdir) nm (by unfold likeE kindOkE; simp [lk, hl]) (by rw [hd11]; exact fd) ?_)
     intro σ' M' hR hfr
     rw [hd11] at hR ⊢
     rw [hmk] at hK
     exact app_I (hK σ' (fun c => M'.w c ≠ none) ⟨M', hR, fun c => Iff.rfl⟩ (Sep.of_frame hD fun c o hc hw => hfr c o (hg3.get hc) hw))
 exact key target.size 0 (by omega) (by simp)
end
end Go.Proofs.YthclifcpjnhmjaaGreatDoor

set_option maxRecDepth 100000
namespace Go.Wk
open Go Go.HL
def m0 : AT := newT 20 1000
def m1 : AT := (m0.writeF ⟨⟨[47]⟩⟩ ⟨⟨[102]⟩⟩ ⟨⟨[120]⟩⟩ false).2
def m2 : AT := (m1.writeF ⟨⟨[47]⟩⟩ ⟨⟨[101]⟩⟩ ⟨⟨[]⟩⟩ false).2
def m3 : AT := (m2.chmodF ⟨⟨[47]⟩⟩ ⟨⟨[101]⟩⟩ 64).2
def m4 : AT := (m3.mkdirF ⟨⟨[47]⟩⟩ ⟨⟨[100]⟩⟩).2
def m5 : AT := (m4.symlinkF ⟨⟨[47]⟩⟩ ⟨⟨[102]⟩⟩ ⟨⟨[108]⟩⟩).2
def m6 : AT := (m5.symlinkF ⟨⟨[47]⟩⟩ ⟨⟨[122, 122]⟩⟩ ⟨⟨[110]⟩⟩).2
theorem mv1 : (m0.writeF ⟨⟨[47]⟩⟩ ⟨⟨[102]⟩⟩ ⟨⟨[120]⟩⟩ false).1 = 0 := by decide +kernel
theorem mv2 : (m1.writeF ⟨⟨[47]⟩⟩ ⟨⟨[101]⟩⟩ ⟨⟨[]⟩⟩ false).1 = 0 := by decide +kernel
theorem mv3 : (m2.chmodF ⟨⟨[47]⟩⟩ ⟨⟨[101]⟩⟩ 64).1 = 0 := by decide +kernel
theorem mv4 : (m3.mkdirF ⟨⟨[47]⟩⟩ ⟨⟨[100]⟩⟩).1 = 0 := by decide +kernel
theorem mv5 : (m4.symlinkF ⟨⟨[47]⟩⟩ ⟨⟨[102]⟩⟩ ⟨⟨[108]⟩⟩).1 = 0 := by decide +kernel
theorem mv6 : (m5.symlinkF ⟨⟨[47]⟩⟩ ⟨⟨[122, 122]⟩⟩ ⟨⟨[110]⟩⟩).1 = 0 := by decide +kernel
theorem m0_ok : Inv m0 /\ Bd 1 m0 := newT_ok rfl
theorem m1_ok : OpOk 2 m0 (m0.writeF ⟨⟨[47]⟩⟩ ⟨⟨[102]⟩⟩ ⟨⟨[120]⟩⟩ false) := writeF_ok m0_ok.1 m0_ok.2 (by decide) _ _ _ _ (by decide)
theorem m2_ok : OpOk 3 m1 (m1.writeF ⟨⟨[47]⟩⟩ ⟨⟨[101]⟩⟩ ⟨⟨[]⟩⟩ false) := writeF_ok m1_ok.inv m1_ok.bd (by decide) _ _ _ _ (by decide)
theorem m3_ok : OpOk 3 m2 (m2.chmodF ⟨⟨[47]⟩⟩ ⟨⟨[101]⟩⟩ 64) := chmodF_ok m2_ok.inv m2_ok.bd _ _ _
theorem m4_ok : OpOk 4 m3 (m3.mkdirF ⟨⟨[47]⟩⟩ ⟨⟨[100]⟩⟩) := mkdirF_ok m3_ok.inv m3_ok.bd (by decide) _ _
theorem m5_ok : OpOk 5 m4 (m4.symlinkF ⟨⟨[47]⟩⟩ ⟨⟨[102]⟩⟩ ⟨⟨[108]⟩⟩) := symlinkF_ok m4_ok.inv m4_ok.bd (by decide) _ _ _
def wantD (w : ByteArray ⊕ Int) (nm : ByteArray) : Dn := match w with
 | .inl s => ⟨s, ⟨⟨[]⟩⟩, 0⟩
 | .inr n => if n == 2 then usageP nm else ⟨⟨⟨[]⟩⟩, ⟨⟨[]⟩⟩, n⟩
def runL (A : AT) : List ByteArray -> Dn
 | [] => Dn.z
 | nm :: args => let d := A.runP ⟨⟨[47]⟩⟩ nm args; if d.2 then d.1 else ⟨⟨⟨[]⟩⟩, ⟨⟨[]⟩⟩, 99⟩
def dEq (a b : Dn) : Bool := sEq a.out b.out && (sEq a.err b.err && a.st == b.st)
theorem dEq_iff {a b : Dn} : dEq a b = true ↔ a = b := by
 obtain ⟨a1, a2, a3⟩ := a
 obtain ⟨b1, b2, b3⟩ := b
 simp only [dEq, Bool.and_eq_true, sEq_iff, beq_iff_eq, Dn.mk.injEq]
def rowOk (A : AT) (r : (ByteArray ⊕ Int) × List ByteArray) : Bool := match r.2 with
 | [] => false
 | nm :: _ => dEq (runL A r.2) (wantD r.1 nm)
def worksL : List ((ByteArray ⊕ Int) × List ByteArray) := [
 (.inl ⟨⟨[97, 32, 98, 32, 99, 10]⟩⟩, [⟨⟨[101, 99, 104, 111]⟩⟩, ⟨⟨[97]⟩⟩, ⟨⟨[98, 32, 99]⟩⟩]),
 (.inl ⟨⟨[120]⟩⟩, [⟨⟨[101, 99, 104, 111]⟩⟩, ⟨⟨[45, 110]⟩⟩, ⟨⟨[120]⟩⟩]),
 (.inl ⟨⟨[97, 61, 49, 10, 98, 61, 50, 10]⟩⟩, [⟨⟨[112, 114, 105, 110, 116, 102]⟩⟩, ⟨⟨[37, 115, 61, 37, 100, 92, 110]⟩⟩, ⟨⟨[97]⟩⟩, ⟨⟨[49]⟩⟩, ⟨⟨[98]⟩⟩, ⟨⟨[50]⟩⟩]),
 (.inl ⟨⟨[32, 32, 53, 124, 97, 32, 32, 124, 102, 102]⟩⟩, [⟨⟨[112, 114, 105, 110, 116, 102]⟩⟩, ⟨⟨[37, 51, 100, 124, 37, 45, 51, 115, 124, 37, 120]⟩⟩, ⟨⟨[53]⟩⟩, ⟨⟨[97]⟩⟩, ⟨⟨[50, 53, 53]⟩⟩]),
 (.inr 0, [⟨⟨[116, 101, 115, 116]⟩⟩, ⟨⟨[97]⟩⟩, ⟨⟨[61]⟩⟩, ⟨⟨[97]⟩⟩]),
 (.inr 0, [⟨⟨[116, 101, 115, 116]⟩⟩, ⟨⟨[51]⟩⟩, ⟨⟨[45, 108, 116]⟩⟩, ⟨⟨[50, 48]⟩⟩]),
 (.inr 0, [⟨⟨[116, 101, 115, 116]⟩⟩, ⟨⟨[33]⟩⟩, ⟨⟨[]⟩⟩]),
 (.inr 1, [⟨⟨[91]⟩⟩, ⟨⟨[45, 110]⟩⟩, ⟨⟨[]⟩⟩, ⟨⟨[93]⟩⟩]),
 (.inr 2, [⟨⟨[91]⟩⟩, ⟨⟨[120]⟩⟩]),
 (.inl ⟨⟨[98, 10]⟩⟩, [⟨⟨[98, 97, 115, 101, 110, 97, 109, 101]⟩⟩, ⟨⟨[47, 97, 47, 98, 46, 99]⟩⟩, ⟨⟨[46, 99]⟩⟩]),
 (.inl ⟨⟨[97, 10]⟩⟩, [⟨⟨[98, 97, 115, 101, 110, 97, 109, 101]⟩⟩, ⟨⟨[97, 47]⟩⟩]),
 (.inl ⟨⟨[97, 10]⟩⟩, [⟨⟨[100, 105, 114, 110, 97, 109, 101]⟩⟩, ⟨⟨[97, 47, 98]⟩⟩]),
 (.inl ⟨⟨[47, 10]⟩⟩, [⟨⟨[100, 105, 114, 110, 97, 109, 101]⟩⟩, ⟨⟨[47, 97]⟩⟩]),
 (.inl ⟨⟨[46, 10]⟩⟩, [⟨⟨[100, 105, 114, 110, 97, 109, 101]⟩⟩, ⟨⟨[97]⟩⟩])]
theorem works_ok : worksL.all (rowOk m6) = true := by decide +kernel
def pfN : ByteArray := ⟨⟨[112, 114, 105, 110, 116, 102]⟩⟩
end Go.Wk

set_option maxRecDepth 100000
namespace Go.Proofs.YthclifcpjnhmjaaGreatDoor
open Go Go.HL Go.Wk
attribute [local irreducible] ptrW ifW brW andW rdT alW letJ stW muW biW vaW imW callT cvalT app callW invW callVW sizeT oW nilF oneK loopW rfW funW begW roundK exW idxW Gr Put
structure W2 (σ τ ρF ρR : H) : Prop where
 gF : Gr ρF τ
 gR : Gr ρR τ
 gσ : Gr σ τ
 dF : ∀ b, σ b ≠ none -> ρF b = none
 dR : ∀ b, σ b ≠ none -> ρR b = none
 dFR : ∀ b, ρF b ≠ none -> ρR b = none
theorem gr_sub {ρ σ σ' : H} (h3 : ∀ b o, ρ b = none -> σ b = some o -> σ' b = some o) {θ : H} (hg : Gr θ σ) (hd : ∀ b, θ b ≠ none -> ρ b = none) : Gr θ σ' := gr_of fun b o hb => h3 b o (hd b (by rw [hb]; simp)) (hg.get hb)
theorem ne_get {σ σ' : H} (hg : Gr σ σ') {b : Nat} (hb : σ b ≠ none) : σ' b ≠ none := by
 cases h : σ b with
 | none => exact absurd h hb
 | some o => rw [hg.get h]; simp
section
variable {σ τ ρF ρR : H}
theorem W2.swap (h : W2 σ τ ρF ρR) : W2 σ τ ρR ρF := ⟨h.gR, h.gF, h.gσ, h.dR, h.dF, fun b hb => by
 cases h2 : ρF b with
 | none => rfl
 | some o => exact absurd (h.dFR b (by rw [h2]; simp)) hb⟩
theorem w2_call (h : W2 σ τ ρF ρR) {f : FuncId} {args : List Value} {K' : KH} {t : TK} {F : t.Fn (H -> Prop)} (hc : callW Tryz.prog f args K' ρF) (hk : ∀ v τ' ρ', K' v ρ' -> W2 σ τ' ρ' ρR -> app t F v τ') : callT Tryz.prog f args t F τ := by
 refine call_from h.gF hc ?_
 intro v τ' ρ' h1 f1 f2 f3
 have dRF := h.swap.dFR
 refine hk v τ' ρ' h1 ⟨f1, gr_sub f2 h.gR dRF, gr_sub f2 h.gσ h.dF, fun b hb => f3 b (ne_get h.gσ hb) (h.dF b hb), h.dR, fun b hb => ?_⟩
 cases h2 : ρR b with
 | none => rfl
 | some o => exact absurd (f3 b (ne_get h.gR (by rw [h2]; simp)) (dRF b (by rw [h2]; simp))) hb
theorem s_both20 {K : KH} (hK : ∀ bf br τ ρF ρR B D, FsAt ρF bf m6 B -> RfAt ρR br m6 D -> W2 σ τ ρF ρR -> K (.tuple ⟨[.pointer (some ⟨bf, 0, none⟩), .pointer (some ⟨br, 0, none⟩)]⟩) τ) : callW Tryz.prog 10 [] K σ := by
 refine c10 ?_
 unfold g10
 refine al_i ?_; intro b1 σ1 g1 e1 n1
 refine st_i2 e1 sz_Quota (by rfl) (by rfl) ?_; intro σ2 p2
 have g2 : Gr σ σ2 := g1.putF p2 n1
 have k2 : σ2 b1 = some (.cells ⟨[.int .i64 20, .int .i64 1000]⟩ 50 (0, 0)) := p2.same
 refine rd_G (rdA_of' k2 (by rfl)) ?_
 (refine app_of rfl ?_; try dsimp only)
 refine rd_G (rdA_of' k2 (by rfl)) ?_
 (refine app_of rfl ?_; try dsimp only)
 have W0 : W2 σ2 σ2 (fun _ => none) (fun _ => none) := ⟨gr_empty _, gr_empty _, Gr.refl _, fun _ _ => rfl, fun _ _ => rfl, fun _ _ => rfl⟩
 refine w2_call W0 (s_New 20 1000 (K := fun v τ => ∃ bf B, v = .pointer (some ⟨bf, 0, none⟩) /\ FsAt τ bf m0 B) (fun h => by cases h) fun _ bf σ' B' h1 _ _ => ⟨bf, B', rfl, h1⟩) ?_
 rintro v τ1 ρF1 ⟨bf, B1, rfl, F1⟩ W1
 refine app_P (and_i (rdA_of' (W1.gσ.get k2) (by rfl)) ?_)
 refine w2_call W1.swap (s_rfNew 20 1000 (K := fun v τ => ∃ br D, v = .pointer (some ⟨br, 0, none⟩) /\ RfAt τ br m0 D) (fun h => by cases h) fun _ bf σ' B' h1 _ _ => ⟨bf, B', rfl, h1⟩) ?_
 rintro v τ2 ρR1 ⟨br, D1, rfl, R1⟩ W2'
 have V2 := W2'.swap
 refine app_P (j_i (fun j => ∀ τ ρF ρR B D, FsAt ρF bf m6 B -> RfAt ρR br m0 D -> W2 σ2 τ ρF ρR -> j (some ⟨bf, 0, none⟩) (some ⟨br, 0, none⟩) false τ) ?_ ?_)
 case refine_2 =>
  intro j hj
  refine br_f rfl (br_f rfl ?_)
  refine w2_call V2 (s_Write (A := m0) (K := fun v τ' => ∃ B', v = .int .i64 (m0.writeF ⟨⟨[47]⟩⟩ ⟨⟨[102]⟩⟩ ⟨⟨[120]⟩⟩ false).1 /\ FsAt τ' bf m1 B') m0_ok.1 m0_ok.2 (by decide) F1 ⟨⟨[47]⟩⟩ ⟨⟨[102]⟩⟩ ⟨⟨[120]⟩⟩ false (by decide) fun σ' B' h1 _ => ⟨B', rfl, h1⟩) ?_
  rintro v τ3 ρF2 ⟨B2, rfl, F2⟩ V3
  refine app_I ?_
  rw [mv1]
  refine br_f rfl ?_
  refine w2_call V3 (s_Write (A := m1) (K := fun v τ' => ∃ B', v = .int .i64 (m1.writeF ⟨⟨[47]⟩⟩ ⟨⟨[101]⟩⟩ ⟨⟨[]⟩⟩ false).1 /\ FsAt τ' bf m2 B') m1_ok.inv m1_ok.bd (by decide) F2 ⟨⟨[47]⟩⟩ ⟨⟨[101]⟩⟩ ⟨⟨[]⟩⟩ false (by decide) fun σ' B' h1 _ => ⟨B', rfl, h1⟩) ?_
  rintro v τ4 ρF3 ⟨B3, rfl, F3⟩ V4
  refine app_I ?_
  rw [mv2]
  refine br_f rfl ?_
  refine w2_call V4 (s_Chmod (A := m2) (K := fun v τ' => ∃ B', v = .int .i64 (m2.chmodF ⟨⟨[47]⟩⟩ ⟨⟨[101]⟩⟩ 64).1 /\ FsAt τ' bf m3 B') F3 ⟨⟨[47]⟩⟩ ⟨⟨[101]⟩⟩ 64 fun σ' B' h1 _ => ⟨B', rfl, h1⟩) ?_
  rintro v τ5 ρF4 ⟨B4, rfl, F4⟩ V5
  refine app_I ?_
  rw [mv3]
  refine br_f rfl ?_
  refine w2_call V5 (s_Mkdir (A := m3) (K := fun v τ' => ∃ B', v = .int .i64 (m3.mkdirF ⟨⟨[47]⟩⟩ ⟨⟨[100]⟩⟩).1 /\ FsAt τ' bf m4 B') m3_ok.inv m3_ok.bd (by decide) F4 ⟨⟨[47]⟩⟩ ⟨⟨[100]⟩⟩ fun σ' B' h1 _ => ⟨B', rfl, h1⟩) ?_
  rintro v τ6 ρF5 ⟨B5, rfl, F5⟩ V6
  refine app_I ?_
  rw [mv4]
  refine br_f rfl ?_
  refine w2_call V6 (s_Symlink (A := m4) (K := fun v τ' => ∃ B', v = .int .i64 (m4.symlinkF ⟨⟨[47]⟩⟩ ⟨⟨[102]⟩⟩ ⟨⟨[108]⟩⟩).1 /\ FsAt τ' bf m5 B') m4_ok.inv m4_ok.bd (by decide) F5 ⟨⟨[47]⟩⟩ ⟨⟨[102]⟩⟩ ⟨⟨[108]⟩⟩ fun σ' B' h1 _ => ⟨B', rfl, h1⟩) ?_
  rintro v τ7 ρF6 ⟨B6, rfl, F6⟩ V7
  refine app_I ?_
  rw [mv5]
  refine br_f rfl ?_
  refine w2_call V7 (s_Symlink (A := m5) (K := fun v τ' => ∃ B', v = .int .i64 (m5.symlinkF ⟨⟨[47]⟩⟩ ⟨⟨[122, 122]⟩⟩ ⟨⟨[110]⟩⟩).1 /\ FsAt τ' bf m6 B') m5_ok.inv m5_ok.bd (by decide) F6 ⟨⟨[47]⟩⟩ ⟨⟨[122, 122]⟩⟩ ⟨⟨[110]⟩⟩ fun σ' B' h1 _ => ⟨B', rfl, h1⟩) ?_
  rintro v τ8 ρF7 ⟨B7, rfl, F7⟩ V8
  refine app_I ?_
  rw [mv6]
  exact hj _ _ _ _ _ F7 R1 V8
 intro τ ρF ρR B D F R W
 refine br_f rfl ?_
 refine w2_call W.swap (s_rfWrite (A := m0) (K := fun v τ' => ∃ B', v = .int .i64 (m0.writeF ⟨⟨[47]⟩⟩ ⟨⟨[102]⟩⟩ ⟨⟨[120]⟩⟩ false).1 /\ RfAt τ' br m1 B') m0_ok.1 m0_ok.2 (by decide) R ⟨⟨[47]⟩⟩ ⟨⟨[102]⟩⟩ ⟨⟨[120]⟩⟩ false (by decide) fun σ' B' h1 _ => ⟨B', rfl, h1⟩) ?_
 rintro v τ3 ρR2 ⟨D2, rfl, R2⟩ V3
 replace V3 := V3.swap
 refine app_I ?_
 refine w2_call V3.swap (s_rfWrite (A := m1) (K := fun v τ' => ∃ B', v = .int .i64 (m1.writeF ⟨⟨[47]⟩⟩ ⟨⟨[101]⟩⟩ ⟨⟨[]⟩⟩ false).1 /\ RfAt τ' br m2 B') m1_ok.inv m1_ok.bd (by decide) R2 ⟨⟨[47]⟩⟩ ⟨⟨[101]⟩⟩ ⟨⟨[]⟩⟩ false (by decide) fun σ' B' h1 _ => ⟨B', rfl, h1⟩) ?_
 rintro v τ4 ρR3 ⟨D3, rfl, R3⟩ V4
 replace V4 := V4.swap
 refine app_I ?_
 refine w2_call V4.swap (s_rfChmod (A := m2) (K := fun v τ' => ∃ B', v = .int .i64 (m2.chmodF ⟨⟨[47]⟩⟩ ⟨⟨[101]⟩⟩ 64).1 /\ RfAt τ' br m3 B') m2_ok.inv m2_ok.bd (by decide) R3 ⟨⟨[47]⟩⟩ ⟨⟨[101]⟩⟩ 64 fun σ' B' h1 _ => ⟨B', rfl, h1⟩) ?_
 rintro v τ5 ρR4 ⟨D4, rfl, R4⟩ V5
 replace V5 := V5.swap
 refine app_I ?_
 refine w2_call V5.swap (s_rfMkdir (A := m3) (K := fun v τ' => ∃ B', v = .int .i64 (m3.mkdirF ⟨⟨[47]⟩⟩ ⟨⟨[100]⟩⟩).1 /\ RfAt τ' br m4 B') m3_ok.inv m3_ok.bd (by decide) R4 ⟨⟨[47]⟩⟩ ⟨⟨[100]⟩⟩ fun σ' B' h1 _ => ⟨B', rfl, h1⟩) ?_
 rintro v τ6 ρR5 ⟨D5, rfl, R5⟩ V6
 replace V6 := V6.swap
 refine app_I ?_
 refine w2_call V6.swap (s_rfSymlink (A := m4) (K := fun v τ' => ∃ B', v = .int .i64 (m4.symlinkF ⟨⟨[47]⟩⟩ ⟨⟨[102]⟩⟩ ⟨⟨[108]⟩⟩).1 /\ RfAt τ' br m5 B') m4_ok.inv m4_ok.bd (by decide) R5 ⟨⟨[47]⟩⟩ ⟨⟨[102]⟩⟩ ⟨⟨[108]⟩⟩ (by decide) fun σ' B' h1 _ => ⟨B', rfl, h1⟩) ?_
 rintro v τ7 ρR6 ⟨D6, rfl, R6⟩ V7
 replace V7 := V7.swap
 refine app_I ?_
 refine w2_call V7.swap (s_rfSymlink (A := m5) (K := fun v τ' => ∃ B', v = .int .i64 (m5.symlinkF ⟨⟨[47]⟩⟩ ⟨⟨[122, 122]⟩⟩ ⟨⟨[110]⟩⟩).1 /\ RfAt τ' br m6 B') m5_ok.inv m5_ok.bd (by decide) R6 ⟨⟨[47]⟩⟩ ⟨⟨[122, 122]⟩⟩ ⟨⟨[110]⟩⟩ (by decide) fun σ' B' h1 _ => ⟨B', rfl, h1⟩) ?_
 rintro v τ8 ρR7 ⟨D7, rfl, R7⟩ V8
 replace V8 := V8.swap
 refine app_I ?_
 have f1 : ∀ b, σ b ≠ none -> σ2 b ≠ none := fun b hb => ne_get g2 hb
 exact hK bf br _ _ _ _ _ F R7 ⟨V8.gF, V8.gR, g2.trans V8.gσ, fun b hb => V8.dF b (f1 b hb), fun b hb => V8.dR b (f1 b hb), V8.dFR⟩
end
section
variable {σ : H} {bf : Nat} {A : AT} {B : Nat -> Prop}
theorem sz_Done2 : sizeT Tryz.prog 35 = some 3 := by kernel_rfl
theorem s_run20 (hF : FsAt σ bf A B) (hT : Tabs σ) {x : Sl} {nm : ByteArray} {args : List ByteArray} (hx : RowsAt σ 1 (strRows (nm :: args)) x) (hc : x.len <= x.cap) (ha : ∀ a ∈ nm :: args, a.size <= 1000) (hl : args.length <= 20) {K : KH} (hK : K (.agg ⟨dnV (runL A (nm :: args))⟩) σ) :
 callW Tryz.prog 15 [.pointer (some ⟨bf, 0, none⟩), .slice x.base x.len x.cap] K σ := by
 refine pure_i _ hK (c15 _ _ ?_)
 clear hK
 unfold g15
 have hxl := sLen hx
 refine al_i ?_; intro b3 σ1 g1 e1 n1
 obtain ⟨g, o, a1, a2, a3⟩ := sRow (hx.gr g1) (i := 0) (s := nm) rfl
 rw [a1]
 refine ptr_i (if_i ⟨by decide, by omega⟩ (rd_S a3 ?_))
 refine if_i ⟨bnd_none, bnd_some (by decide) (by omega)⟩ ?_
 rw [<- a1]
 refine call_i (s_Run (hF.gr g1) nm ⟨⟨[]⟩⟩ ⟨⟨[47]⟩⟩ (x := ⟨slBase x.base 1 x.cap 1, x.len - 1, x.cap - 1⟩) (sTail (hx.gr g1) hc) (by show x.len - 1 <= x.cap - 1; omega) (hT.gr g1) (ha nm (List.mem_cons_self ..)) (fun a h => ha a (List.mem_cons_of_mem _ h)) hl ?_)
 have hr : runL A (nm :: args) = if (A.runP ⟨⟨[47]⟩⟩ nm args).2 then (A.runP ⟨⟨[47]⟩⟩ nm args).1 else ⟨⟨⟨[]⟩⟩, ⟨⟨[]⟩⟩, 99⟩ := rfl
 rw [hr]
 unfold dnV
 (refine app_of rfl ?_; try dsimp only)
 refine al_i ?_; intro b11 σ2 g2 e2 n2
 refine st_i2 e2 sz_Done2 (by rfl) (by rfl) ?_; intro σ3 p3
 have G3 : Gr σ σ3 := (g1.trans g2).putF p3 (none_of g1 n2)
 have k3 := p3.get (ne_fr n2 (isSome_of e1)) (g2.get e1)
 cases hb : (A.runP ⟨⟨[47]⟩⟩ nm args).2 with
 | false =>
  refine br_t rfl (st_i2 k3 sz_Done2 (by rfl) (by rfl) ?_); intro σ4 p4
  refine rd_G (rdA_of' p4.same (by rfl)) ?_
  (refine app_of rfl ?_; try dsimp only)
  exact ⟨rfl, G3.putF p4 n1⟩
 | true =>
  refine br_f rfl (rd_G (rdA_of' p3.same (by rfl)) ?_)
  (refine app_of rfl ?_; try dsimp only)
  refine st_i2 k3 sz_Done2 (by rfl) (by rfl) ?_; intro σ4 p4
  refine rd_G (rdA_of' p4.same (by rfl)) ?_
  (refine app_of rfl ?_; try dsimp only)
  exact ⟨rfl, G3.putF p4 n1⟩
theorem s_says20 (hF : FsAt σ bf A B) (hT : Tabs σ) {x : Sl} (want : ByteArray) {l : List ByteArray} (hne : l ≠ []) (hx : RowsAt σ 1 (strRows l) x) (hc : x.len <= x.cap) (ha : ∀ a ∈ l, a.size <= 1000) (hl : l.length <= 21) {K : KH} (hK : K (.bool (dEq (runL A l) ⟨want, ⟨⟨[]⟩⟩, 0⟩)) σ) :
 callW Tryz.prog 12 [.pointer (some ⟨bf, 0, none⟩), .string want, .slice x.base x.len x.cap] K σ := by
 obtain ⟨nm, args, rfl⟩ : ∃ nm args, l = nm :: args := by
  cases l with
  | nil => exact absurd rfl hne
  | cons a r => exact ⟨a, r, rfl⟩
 refine c12 _ _ _ ?_
 unfold g12
 refine call_i (s_run20 hF hT hx hc ha (by simp only [List.length_cons] at hl; omega) ?_)
 unfold dnV
 (refine app_of rfl ?_; try dsimp only)
 unfold dEq at hK
 rw [sEq_eq, sEq_eq] at hK
 rw [Bool.and_true]; exact hK
theorem s_ends20 (hF : FsAt σ bf A B) (hT : Tabs σ) {x : Sl} (n : Int) {nm : ByteArray} {args : List ByteArray} (hx : RowsAt σ 1 (strRows (nm :: args)) x) (hc : x.len <= x.cap) (ha : ∀ a ∈ nm :: args, a.size <= 1000) (hl : args.length <= 20) {K : KH} (hK : K (.bool (dEq (runL A (nm :: args)) (wantD (.inr n) nm))) σ) :
 callW Tryz.prog 16 [.pointer (some ⟨bf, 0, none⟩), .int .i64 n, .slice x.base x.len x.cap] K σ := by
 refine pure_i _ hK (c16 _ _ _ ?_)
 clear hK
 unfold g16
 have hxl := sLen hx
 refine call_i (s_run20 hF hT hx hc ha hl ?_)
 unfold dnV
 (refine app_of rfl ?_; try dsimp only)
 refine al_i ?_; intro b7 σ1 g1 e1 n1
 refine st_i2 e1 sz_Done2 (by rfl) (by rfl) ?_; intro σ2 p2
 have G2 : Gr σ σ2 := g1.putF p2 n1
 have hw : wantD (.inr n) nm = if n == 2 then usageP nm else ⟨⟨⟨[]⟩⟩, ⟨⟨[]⟩⟩, n⟩ := rfl
 rw [hw]
 cases h2 : n == 2 with
 | true =>
  refine br_t rfl (rd_G (rdA_of' p2.same (by rfl)) ?_)
  (refine app_of rfl ?_; try dsimp only)
  obtain ⟨g, o, a1, a2, a3⟩ := sRow (hx.gr G2) (i := 0) (s := nm) rfl
  rw [a1]
  refine ptr_i (if_i ⟨by decide, by omega⟩ (rd_S a3 (if_i ?_ ⟨?_, G2⟩)))
  ·have := ha nm (List.mem_cons_self ..)
   show nm.size + 8 <= _; omega
  ·unfold dEq usageP
   rw [if_pos rfl, sEq_eq, sEq_eq, Bool.and_true]
 | false =>
  refine br_f rfl (rd_G (rdA_of' p2.same (by rfl)) ?_)
  (refine app_of rfl ?_; try dsimp only)
  refine ⟨?_, G2⟩
  unfold dEq
  rw [if_neg (by simp), sEq_eq, sEq_eq, Bool.and_true]
end
theorem lit2 {σ : H} {b : Nat} {ty : TypeId} {fz : Nat × Nat} {a0 a1 : ByteArray} (h : σ b = some (.cells ⟨[.string a0, .string a1]⟩ ty fz)) : RowsAt σ 1 (strRows [a0, a1]) ⟨some ⟨b, 0, none⟩, 2, 2⟩ := by
 refine ⟨rfl, .inr ⟨b, 0, _, _, _, rfl, h, fun i r hr => ?_⟩⟩
 match i, hr with
 | 0, hr => cases hr; exact ⟨rfl, rfl⟩
 | 1, hr => cases hr; exact ⟨rfl, rfl⟩
 | i + 2, hr => simp [strRows] at hr
theorem lit3 {σ : H} {b : Nat} {ty : TypeId} {fz : Nat × Nat} {a0 a1 a2 : ByteArray} (h : σ b = some (.cells ⟨[.string a0, .string a1, .string a2]⟩ ty fz)) : RowsAt σ 1 (strRows [a0, a1, a2]) ⟨some ⟨b, 0, none⟩, 3, 3⟩ := by
 refine ⟨rfl, .inr ⟨b, 0, _, _, _, rfl, h, fun i r hr => ?_⟩⟩
 match i, hr with
 | 0, hr => cases hr; exact ⟨rfl, rfl⟩
 | 1, hr => cases hr; exact ⟨rfl, rfl⟩
 | 2, hr => cases hr; exact ⟨rfl, rfl⟩
 | i + 3, hr => simp [strRows] at hr
theorem lit4 {σ : H} {b : Nat} {ty : TypeId} {fz : Nat × Nat} {a0 a1 a2 a3 : ByteArray} (h : σ b = some (.cells ⟨[.string a0, .string a1, .string a2, .string a3]⟩ ty fz)) : RowsAt σ 1 (strRows [a0, a1, a2, a3]) ⟨some ⟨b, 0, none⟩, 4, 4⟩ := by
 refine ⟨rfl, .inr ⟨b, 0, _, _, _, rfl, h, fun i r hr => ?_⟩⟩
 match i, hr with
 | 0, hr => cases hr; exact ⟨rfl, rfl⟩
 | 1, hr => cases hr; exact ⟨rfl, rfl⟩
 | 2, hr => cases hr; exact ⟨rfl, rfl⟩
 | 3, hr => cases hr; exact ⟨rfl, rfl⟩
 | i + 4, hr => simp [strRows] at hr
theorem lit5 {σ : H} {b : Nat} {ty : TypeId} {fz : Nat × Nat} {a0 a1 a2 a3 a4 : ByteArray} (h : σ b = some (.cells ⟨[.string a0, .string a1, .string a2, .string a3, .string a4]⟩ ty fz)) : RowsAt σ 1 (strRows [a0, a1, a2, a3, a4]) ⟨some ⟨b, 0, none⟩, 5, 5⟩ := by
 refine ⟨rfl, .inr ⟨b, 0, _, _, _, rfl, h, fun i r hr => ?_⟩⟩
 match i, hr with
 | 0, hr => cases hr; exact ⟨rfl, rfl⟩
 | 1, hr => cases hr; exact ⟨rfl, rfl⟩
 | 2, hr => cases hr; exact ⟨rfl, rfl⟩
 | 3, hr => cases hr; exact ⟨rfl, rfl⟩
 | 4, hr => cases hr; exact ⟨rfl, rfl⟩
 | i + 5, hr => simp [strRows] at hr
theorem lit6 {σ : H} {b : Nat} {ty : TypeId} {fz : Nat × Nat} {a0 a1 a2 a3 a4 a5 : ByteArray} (h : σ b = some (.cells ⟨[.string a0, .string a1, .string a2, .string a3, .string a4, .string a5]⟩ ty fz)) : RowsAt σ 1 (strRows [a0, a1, a2, a3, a4, a5]) ⟨some ⟨b, 0, none⟩, 6, 6⟩ := by
 refine ⟨rfl, .inr ⟨b, 0, _, _, _, rfl, h, fun i r hr => ?_⟩⟩
 match i, hr with
 | 0, hr => cases hr; exact ⟨rfl, rfl⟩
 | 1, hr => cases hr; exact ⟨rfl, rfl⟩
 | 2, hr => cases hr; exact ⟨rfl, rfl⟩
 | 3, hr => cases hr; exact ⟨rfl, rfl⟩
 | 4, hr => cases hr; exact ⟨rfl, rfl⟩
 | 5, hr => cases hr; exact ⟨rfl, rfl⟩
 | i + 6, hr => simp [strRows] at hr
theorem row_at {A : AT} {l : List ((ByteArray ⊕ Int) × List ByteArray)} (h : l.all (rowOk A) = true) {i : Nat} {w : ByteArray ⊕ Int} {nm : ByteArray} {args : List ByteArray} (hi : l[i]? = some (w, nm :: args)) : dEq (runL A (nm :: args)) (wantD w nm) = true := List.all_eq_true.1 h _ (List.mem_of_getElem? hi)
theorem row_says {A : AT} {l : List ((ByteArray ⊕ Int) × List ByteArray)} (h : l.all (rowOk A) = true) (i : Nat) {w nm : ByteArray} {args : List ByteArray} (hi : l[i]? = some (.inl w, nm :: args)) : dEq (runL A (nm :: args)) ⟨w, ⟨⟨[]⟩⟩, 0⟩ = true := row_at h hi
theorem row_ends {A : AT} {l : List ((ByteArray ⊕ Int) × List ByteArray)} (h : l.all (rowOk A) = true) (i : Nat) {n : Int} {nm : ByteArray} {args : List ByteArray} (hi : l[i]? = some (.inr n, nm :: args)) : dEq (runL A (nm :: args)) (wantD (.inr n) nm) = true := row_at h hi
theorem s_works20 {σ : H} (hT : Tabs σ) {K : KH} (hK : K (.bool true) σ) : callW Tryz.prog 9 [] K σ := by
 refine pure_i _ hK (c9 ?_)
 clear hK
 unfold g9
 refine call_i (s_both20 ?_)
 intro bf br τ0 ρF ρR B D hF hR W
 have hF := hF.gr W.gF
 have hT := hT.gr W.gσ
 have G0 := W.gσ
 (refine app_of rfl ?_; try dsimp only)
 refine br_f rfl ?_
 refine al_i ?_; intro b0 τ1 g0 e0 n0
 replace hF := hF.gr g0; replace hT := hT.gr g0; replace G0 := G0.trans g0
 refine call_i (s_says20 hF hT _ (by simp) (lit3 e0) (Nat.le_refl _) (by decide) (by decide) (app_B ?_))
 rw [row_says works_ok 0 rfl]
 refine br_t rfl ?_
 refine al_i ?_; intro b1 τ2 g1 e1 n1
 replace hF := hF.gr g1; replace hT := hT.gr g1; replace G0 := G0.trans g1
 refine call_i (s_says20 hF hT _ (by simp) (lit3 e1) (Nat.le_refl _) (by decide) (by decide) (app_B ?_))
 rw [row_says works_ok 1 rfl]
 refine br_t rfl ?_
 refine al_i ?_; intro b2 τ3 g2 e2 n2
 replace hF := hF.gr g2; replace hT := hT.gr g2; replace G0 := G0.trans g2
 refine call_i (s_says20 hF hT _ (by simp) (lit6 e2) (Nat.le_refl _) (by decide) (by decide) (app_B ?_))
 rw [row_says works_ok 2 rfl]
 refine br_t rfl ?_
 refine al_i ?_; intro b3 τ4 g3 e3 n3
 replace hF := hF.gr g3; replace hT := hT.gr g3; replace G0 := G0.trans g3
 refine call_i (s_says20 hF hT _ (by simp) (lit5 e3) (Nat.le_refl _) (by decide) (by decide) (app_B ?_))
 rw [row_says works_ok 3 rfl]
 refine br_t rfl ?_
 refine al_i ?_; intro b4 τ5 g4 e4 n4
 replace hF := hF.gr g4; replace hT := hT.gr g4; replace G0 := G0.trans g4
 refine call_i (s_ends20 hF hT 0 (lit4 e4) (Nat.le_refl _) (by decide) (by decide) (app_B ?_))
 rw [row_ends works_ok 4 rfl]
 refine br_t rfl ?_
 refine al_i ?_; intro b5 τ6 g5 e5 n5
 replace hF := hF.gr g5; replace hT := hT.gr g5; replace G0 := G0.trans g5
 refine call_i (s_ends20 hF hT 0 (lit4 e5) (Nat.le_refl _) (by decide) (by decide) (app_B ?_))
 rw [row_ends works_ok 5 rfl]
 refine br_t rfl ?_
 refine al_i ?_; intro b6 τ7 g6 e6 n6
 replace hF := hF.gr g6; replace hT := hT.gr g6; replace G0 := G0.trans g6
 refine call_i (s_ends20 hF hT 0 (lit3 e6) (Nat.le_refl _) (by decide) (by decide) (app_B ?_))
 rw [row_ends works_ok 6 rfl]
 refine br_t rfl ?_
 refine al_i ?_; intro b7 τ8 g7 e7 n7
 replace hF := hF.gr g7; replace hT := hT.gr g7; replace G0 := G0.trans g7
 refine call_i (s_ends20 hF hT 1 (lit4 e7) (Nat.le_refl _) (by decide) (by decide) (app_B ?_))
 rw [row_ends works_ok 7 rfl]
 refine br_t rfl ?_
 refine al_i ?_; intro b8 τ9 g8 e8 n8
 replace hF := hF.gr g8; replace hT := hT.gr g8; replace G0 := G0.trans g8
 refine call_i (s_ends20 hF hT 2 (lit2 e8) (Nat.le_refl _) (by decide) (by decide) (app_B ?_))
 rw [row_ends works_ok 8 rfl]
 refine br_t rfl ?_
 refine al_i ?_; intro b9 τ10 g9 e9 n9
 replace hF := hF.gr g9; replace hT := hT.gr g9; replace G0 := G0.trans g9
 refine call_i (s_says20 hF hT _ (by simp) (lit3 e9) (Nat.le_refl _) (by decide) (by decide) (app_B ?_))
 rw [row_says works_ok 9 rfl]
 refine br_t rfl ?_
 refine al_i ?_; intro b10 τ11 g10 e10 n10
 replace hF := hF.gr g10; replace hT := hT.gr g10; replace G0 := G0.trans g10
 refine call_i (s_says20 hF hT _ (by simp) (lit2 e10) (Nat.le_refl _) (by decide) (by decide) (app_B ?_))
 rw [row_says works_ok 10 rfl]
 refine br_t rfl ?_
 refine al_i ?_; intro b11 τ12 g11 e11 n11
 replace hF := hF.gr g11; replace hT := hT.gr g11; replace G0 := G0.trans g11
 refine call_i (s_says20 hF hT _ (by simp) (lit2 e11) (Nat.le_refl _) (by decide) (by decide) (app_B ?_))
 rw [row_says works_ok 11 rfl]
 refine br_t rfl ?_
 refine al_i ?_; intro b12 τ13 g12 e12 n12
 replace hF := hF.gr g12; replace hT := hT.gr g12; replace G0 := G0.trans g12
 refine call_i (s_says20 hF hT _ (by simp) (lit2 e12) (Nat.le_refl _) (by decide) (by decide) (app_B ?_))
 rw [row_says works_ok 12 rfl]
 refine br_t rfl ?_
 refine al_i ?_; intro b13 τ14 g13 e13 n13
 replace hF := hF.gr g13; replace hT := hT.gr g13; replace G0 := G0.trans g13
 refine call_i (s_says20 hF hT _ (by simp) (lit2 e13) (Nat.le_refl _) (by decide) (by decide) (app_B ?_))
 rw [row_says works_ok 13 rfl]
 exact ⟨rfl, G0⟩
end Go.Proofs.YthclifcpjnhmjaaGreatDoor

namespace Go.Proofs
open Go.Shelf
end Go.Proofs

set_option maxRecDepth 100000
namespace Go.Proofs.YthclifcpjnhmjaaGreatDoor
open Go Go.HL Go.Wk
def MaxAt (σ : H) (m : Int) : Prop := ∃ t fz, σ 0 = some (.cells ⟨[.int .i64 m]⟩ t fz)
theorem MaxAt.gr {σ σ' : H} {m : Int} (h : MaxAt σ m) (hg : Gr σ σ') : MaxAt σ' m := by
 obtain ⟨t, fz, h⟩ := h; exact ⟨t, fz, hg.get h⟩
end Go.Proofs.YthclifcpjnhmjaaGreatDoor

set_option maxRecDepth 100000
namespace Go.Proofs.YthclifcpjnhmjaaGreatDoor
open Go Go.HL Go.Wk
attribute [local irreducible] ptrW ifW brW andW rdT alW letJ stW muW biW vaW imW callT cvalT app callW invW callVW sizeT oW nilF oneK loopW rfW funW begW roundK exW idxW Gr Put
theorem RowsOwn.cap {σ : H} {e : TypeId} {n : Nat} {rows : List (List Value)} {x : Sl} (h : RowsOwn σ e n rows x) : x.len <= x.cap := by
 obtain ⟨h1, h2, ⟨_, h4, h5⟩ | ⟨g, cur, a1, a2, a3, a4, a5⟩⟩ := h
 ·rw [h1, h5, h4]; exact Nat.le_refl _
 ·exact a4
end Go.Proofs.YthclifcpjnhmjaaGreatDoor

set_option maxRecDepth 100000
namespace Go.Wk
open Go Go.HL
theorem fmtL_fuelG {b : Nat} (hb : 2 <= b) : ∀ (f g n : Nat), n < b ^ f -> 0 < f -> f <= g -> fmtL b g n [] = fmtL b f n [] := by
 intro f
 induction f with
 | zero => intro g n _ h; cases h
 | succ f ih =>
  intro g n hn _ hg
  cases g with
  | zero => omega
  | succ g =>
   by_cases h : n < b
   ·rw [fmtL, fmtL, if_pos h, if_pos h]
   ·rw [fmtL_step h, fmtL_step h]
    have hf : 0 < f := by
     rcases Nat.eq_zero_or_pos f with e | e
     ·subst e; simp at hn; omega
     ·exact e
    rw [ih g (n / b) (by rw [Nat.pow_succ] at hn; exact Nat.div_lt_of_lt_mul (by rw [Nat.mul_comm]; exact hn)) hf (by omega)]
theorem fmtL_rec {b n : Nat} (hb : b = 10 \/ b = 16) (hn : n < 1000000000000000) : fmtL b 64 n [] = if n < b then [digitL n] else fmtL b 64 (n / b) [] ++ [digitL (n % b)] := by
 have h2 : 2 <= b := by omega
 by_cases h : n < b
 ·rw [fmtL, if_pos h, if_pos h]
 ·rw [if_neg h, fmtL_step h]
  congr 1
  refine (fmtL_fuelG h2 63 64 (n / b) ?_ (by decide) (by decide)).symm
  have h3 : n / b < 1000000000000000 := Nat.lt_of_le_of_lt (Nat.div_le_self _ _) hn
  rcases hb with rfl | rfl
  ·exact Nat.lt_trans h3 (by decide)
  ·exact Nat.lt_trans h3 (by decide)
theorem fmtP_neg (b : Nat) {n : Int} (h : n < 0) : fmtP b n = ⟨⟨[45]⟩⟩ ++ fmtP b (-n) := by
 refine bytes_ext ?_
 rw [app_data]
 unfold fmtP
 rw [if_pos h, if_neg (by omega), show (-n).natAbs = n.natAbs from Int.natAbs_neg n]; rfl
theorem fmtP_dig {b : Nat} (hb : b = 10 \/ b = 16) {n : Int} (h0 : 0 <= n) (h : n < (b : Int)) : fmtP b n = ⟨⟨[digitL n.toNat]⟩⟩ := by
 unfold fmtP
 rw [if_neg (by omega), fmtL_rec hb (by omega), if_pos (by omega), show n.natAbs = n.toNat by omega]
theorem fmtP_step {b : Nat} (hb : b = 10 \/ b = 16) {n : Int} (h0 : 0 <= n) (h : ¬ n < (b : Int)) (hn : n < 1000000000000000) : fmtP b n = fmtP b (n / (b : Int)) ++ ⟨⟨[digitL (n % (b : Int)).toNat]⟩⟩ := by
 refine bytes_ext ?_
 rw [app_data]
 unfold fmtP
 have e1 : (n / (b : Int)).natAbs = n.natAbs / b := by rcases hb with rfl | rfl <;> omega
 have e2 : (n % (b : Int)).toNat = n.natAbs % b := by rcases hb with rfl | rfl <;> omega
 rw [if_neg (by omega), if_neg (by rcases hb with rfl | rfl <;> omega), fmtL_rec hb (by omega), if_neg (by omega), e1, e2]
end Go.Wk

namespace Go.HL
open Go
section
variable {P : Program} {ops : Array Oper} {cl : Nat -> Nat} {A : Nat -> Nat -> Bool}
theorem SRunD.monoF {K K' : Pq -> Act -> H -> Prop} (hk : ∀ p a σ, Fin σ -> K p a σ -> K' p a σ) : ∀ (l : List Nat) {pend : Pq} {a : Act} {σ : H}, Fin σ -> SRunD P ops cl A pend l a K σ -> SRunD P ops cl A pend l a K' σ := by
 intro l
 induction l with
 | nil => intro pend a σ hf h; exact hk _ _ _ hf h
 | cons i l ih => intro pend a σ hf h; exact SRunD.head (l := l) (l' := l) (fun p a σ hf h => ih hf h) hf h
theorem SRunD.both {k : Nat} {l1 l2 : List Nat} {K : Pq -> Act -> H -> Prop} {pend : Pq} {a : Act} {σ : H} (hk : cl k = 2) (h1 : SRunD P ops cl A pend (k :: l1) a K σ) (h2 : SRunD P ops cl A pend (k :: l2) a K σ) :
 SRunD P ops cl A pend [k] a (fun q a σ => SRunD P ops cl A q l1 a K σ /\ SRunD P ops cl A q l2 a K σ) σ := by
 obtain ⟨o, ho, hp, h1⟩ := h1
 obtain ⟨o', ho', _, h2⟩ := h2
 rw [ho] at ho'; cases ho'
 refine ⟨o, ho, hp, ?_⟩
 by_cases hw : Region.wanted o (yielded ops a.tmps) = true
 ·rw [if_pos hw] at h1 h2 ⊢
  rw [hk] at h1 h2 ⊢
  obtain ⟨mk, obj, hu, h1⟩ := h1
  obtain ⟨mk', obj', hu', h2⟩ := h2
  refine ⟨mk, obj, hu, fun b hb => ⟨h1 b hb, ?_⟩⟩
  have h3 := h2 b hb
  have e1 := hu { (default : World) with heap := Array.replicate b default }
  have e2 := hu' { (default : World) with heap := Array.replicate b default }
  rw [e1] at e2
  simp only [Result.ok.injEq, Next.value.injEq] at e2
  obtain ⟨e3, e4⟩ := e2
  simp only [Array.size_replicate] at e3
  have e5 := congrArg World.heap e4
  have e6 : (Array.replicate b (default : Obj)).push obj = (Array.replicate b (default : Obj)).push obj' := e5
  have e7 := congrArg Array.back? e6
  have e8 : obj = obj' := by simpa using e7
  rw [<- e3, <- e8] at h3
  exact h3
 ·rw [if_neg hw] at h1 h2 ⊢
  exact ⟨h1, h2⟩
theorem any3_sound {ro : Option Nat} {n : Nat} {Q : Exit -> Act -> World -> Prop} {K : Pq -> Act -> H -> Prop} (hK : PMono K) {AL : List (List Nat)} (hanc : ancOk ops AL = true) {i j k : Nat} {m1 m2 : List Nat} (hij : i ∈ m2 /\ j ∈ m1) (hm : ∀ x ∈ m1, x = j \/ ancOf AL i x = true \/ ancOf AL j x = true) (hk2 : cl k = 2) (hki : ancOf AL i k = false /\ swapOk ops cl i k = true) (hkj : ancOf AL k j = true) :
 ∀ (fuel : Nat) (p : List Nat) (listed : Array Bool) {pend : Pq} {a : Act} {σ : H} {w : World}, (p ++ i :: k :: m1).length <= fuel -> (p ++ k :: j :: m2).length <= fuel -> σ.le w -> SRunD P ops cl (ancOf AL) pend p a (fun q a σ => SRunD P ops cl (ancOf AL) q (i :: k :: m1) a K σ /\ SRunD P ops cl (ancOf AL) q (k :: j :: m2) a K σ) σ ->
 RemOk ops listed (p ++ i :: k :: m1) -> RemOk ops listed (p ++ k :: j :: m2) -> (p ++ k :: m1).Pairwise (Rl ops cl AL) -> (p ++ m1).Pairwise (Rl ops cl AL) -> (p ++ m2).Pairwise (Rl ops cl AL) -> (∀ y ∈ p, Rl ops cl AL y i /\ Rl ops cl AL y j /\ Rl ops cl AL y k) ->
 (∀ p' a' σ' w', Ext σ w σ' w' -> K p' a' σ' -> Q .normal a' w') -> wpAnyIn (FW ro) n P .any ops Q fuel listed a w := by
 have hK2 : PMono (fun q a σ => SRunD P ops cl (ancOf AL) q (i :: k :: m1) a K σ /\ SRunD P ops cl (ancOf AL) q (k :: j :: m2) a K σ) := fun _ _ _ _ hs h => ⟨SRunD.pend hK hs h.1, SRunD.pend hK hs h.2⟩
 have hK3 : PMono (fun q a σ => SRunD P ops cl (ancOf AL) q (i :: m1) a K σ /\ SRunD P ops cl (ancOf AL) q (j :: m2) a K σ) := fun _ _ _ _ hs h => ⟨SRunD.pend hK hs h.1, SRunD.pend hK hs h.2⟩
 intro fuel
 induction fuel with
 | zero => intro p listed pend a σ w hlen; simp at hlen
 | succ fuel ih =>
  intro p listed pend a σ w hlen hlen2 hw h hr1 hr2 hpk hp1 hp2 hpR hq
  refine ⟨fun hnil => ?_, fun x hx => ?_⟩
  ·exfalso
   obtain ⟨y, r, hy⟩ : ∃ y r, p ++ i :: k :: m1 = y :: r := by cases p <;> exact ⟨_, _, rfl⟩
   have hx := hr1.ahead y (by rw [hy]; exact List.mem_cons_self ..)
   have : y ∈ Region.ready .any ops listed := by
    rw [ready_iff]
    refine ⟨hx.1, hx.2, fun z hz => ?_⟩
    rcases hr1.lin [] y r hy z hz with h' | h'
    ·exact h'
    ·simp at h'
   rw [hnil] at this; simp at this
  ·have hx' := hx
   rw [ready_iff] at hx'
   obtain ⟨hxs, hxl, hxp⟩ := hx'
   have hmem : x ∈ p ++ i :: k :: m1 := by
    rcases hr1.all x hxs with h1 | h1
    ·have : x < listed.size := by rw [hr1.cls.size]; exact hxs
     simp [this] at h1 hxl; rw [h1] at hxl; simp at hxl
    ·exact h1
   have hno : ∀ y, y ∈ p ++ i :: k :: m1 -> ancOf AL y x = true -> False := by
    intro y hy ha
    have h1 := anc_listed hanc hr1.cls x y hxs ha hxp
    have h2 := (hr1.ahead y hy).2
    have hys : y < listed.size := by rw [hr1.cls.size]; exact (hr1.ahead y hy).1
    simp [hys] at h1 h2; rw [h1] at h2; simp at h2
   rcases List.mem_append.1 hmem with hmem | hmem
   ·obtain ⟨p1, p2, rfl⟩ := List.append_of_mem hmem
    simp only [List.append_assoc, List.cons_append] at hr1 hr2 hpk hp1 hp2
    have hR : ∀ y ∈ p1, Rl ops cl AL y x := by
     intro y hy
     rw [List.pairwise_append] at hp1
     exact hp1.2.2 y hy x (List.mem_cons_self ..)
    have hfr := SRunD.front hK2 p1 (front_ok (cl := cl) hanc hr1 hx hR) (Fin.of_le hw) h
    refine op_sound hw hfr fun pend' v σ' w' he h' => ?_
    have s1 := hr1.step hx
    have s2 := hr2.step hx
    refine ih (p1 ++ p2) _ (by simp at hlen ⊢; omega) (by simp at hlen2 ⊢; omega) he.le h' (by simpa using s1) (by simpa using s2) ?_ ?_ ?_ ?_ fun p₂ a₂ σ₂ w₂ he₂ hk => hq _ _ _ _ (he.trans he₂) hk
    ·rw [List.append_assoc]
     exact hpk.sublist (List.Sublist.append (List.Sublist.refl _) (List.sublist_cons_self ..))
    ·rw [List.append_assoc]
     exact hp1.sublist (List.Sublist.append (List.Sublist.refl _) (List.sublist_cons_self ..))
    ·rw [List.append_assoc]
     exact hp2.sublist (List.Sublist.append (List.Sublist.refl _) (List.sublist_cons_self ..))
    ·intro y hy
     refine hpR y ?_
     simp at hy ⊢
     rcases hy with h | h
     ·exact .inl h
     ·exact .inr (.inr h)
   ·rcases List.mem_cons.1 hmem with rfl | hmem
    ·exact any1_sound hK hanc hlen hw (SRunD.mono (fun _ _ _ h => h.1) p (Fin.of_le hw) h) hr1 hx (fun y hy => (hpR y hy).1) hpk hq
    ·rcases List.mem_cons.1 hmem with rfl | hmem
     ·have h3 : SRunD P ops cl (ancOf AL) pend p a (fun q a σ => SRunD P ops cl (ancOf AL) q [x] a (fun q a σ => SRunD P ops cl (ancOf AL) q (i :: m1) a K σ /\ SRunD P ops cl (ancOf AL) q (j :: m2) a K σ) σ) σ :=
       SRunD.monoF (fun q a σ hf h => SRunD.both hk2 (SRunD.front hK [i] (fun y hy => by rw [List.mem_singleton.1 hy]; exact hki) hf h.1) h.2) p (Fin.of_le hw) h
      have hfr := SRunD.front hK3 (r := []) p (front_ok (cl := cl) hanc hr2 hx (fun y hy => (hpR y hy).2.2)) (Fin.of_le hw) (SRunD.app p (Fin.of_le hw) h3)
      refine op_sound hw hfr fun pend' v σ' w' he h' => ?_
      have s1 : RemOk ops (listed.setIfInBounds x true) (p ++ i :: m1) := by
       have : RemOk ops listed ((p ++ [i]) ++ x :: m1) := by simpa using hr1
       simpa using this.step hx
      have s2 := hr2.step hx
      rw [List.append_nil] at h'
      exact any2_sound hK hanc hij hm fuel p _ (by simp at hlen ⊢; omega) (by simp at hlen2 ⊢; omega) he.le h' s1 s2 hp1 hp2 (fun y hy => ⟨(hpR y hy).1, (hpR y hy).2.1⟩) fun p₂ a₂ σ₂ w₂ he₂ hk => hq _ _ _ _ (he.trans he₂) hk
     ·exfalso
      by_cases hxj : x = j
      ·subst hxj
       exact hno k (by simp) hkj
      ·rcases (hm x hmem).resolve_left hxj with h1 | h1
       ·exact hno i (by simp) h1
       ·exact hno j (by simp [hij.2]) h1
def draw3Ok (ops : Array Oper) (cl : Nat -> Nat) (AL : List (List Nat)) (p : List Nat) (i k : Nat) (m1 : List Nat) (j : Nat) (m2 : List Nat) : Bool :=
 listOk ops (p ++ i :: k :: m1) && listOk ops (p ++ k :: j :: m2) && pairOk ops cl (ancOf AL) (p ++ k :: m1) && pairOk ops cl (ancOf AL) (p ++ m1) && pairOk ops cl (ancOf AL) (p ++ m2) && p.all (fun y => rlB ops cl AL y i && (rlB ops cl AL y j && rlB ops cl AL y k)) && m1.all (fun x => Nat.beq x j || (ancOf AL i x || ancOf AL j x)) && (m2.contains i && m1.contains j) && (Nat.beq (cl k) 2 && (!ancOf AL i k && (swapOk ops cl i k && ancOf AL k j))) && ancOk ops AL
theorem draw3_sound {ro : Option Nat} {n : Nat} {Q : Exit -> Act -> World -> Prop} {K : Pq -> Act -> H -> Prop} (hK : PMono K) {AL : List (List Nat)} {p m1 m2 : List Nat} {i j k : Nat} (hm : P.follows .mixedOrders = true) (hok : draw3Ok ops cl AL p i k m1 j m2 = true) {id : Nat} {a : Act} {σ : H} {w : World} (hw : σ.le w)
 (h : SRunD P ops cl (ancOf AL) [] p a (fun q a σ => SRunD P ops cl (ancOf AL) q (i :: k :: m1) a K σ /\ SRunD P ops cl (ancOf AL) q (k :: j :: m2) a K σ) σ) (hq : ∀ p' a' σ' w', Ext σ w σ' w' -> K p' a' σ' -> Q .normal a' w') : (Code.region id ops true).wpIn (FW ro) n P Q a w := by
 unfold draw3Ok at hok
 simp only [Bool.and_eq_true] at hok
 obtain ⟨⟨⟨⟨⟨⟨⟨⟨⟨h1, h2⟩, h3⟩, h3'⟩, h4⟩, h5⟩, h6⟩, h7, h8⟩, h9, h10, h11, h12⟩, hanc⟩ := hok
 obtain ⟨l1, r1⟩ := listOk_rem h1
 obtain ⟨l2, r2⟩ := listOk_rem h2
 refine wpIn_region_any hm ?_
 refine any3_sound hK hanc ⟨by simpa using h7, by simpa using h8⟩ ?_ (Nat.eq_of_beq_eq_true h9) ⟨by simpa using h10, h11⟩ h12 _ p _ (by omega) (by omega) (w := { w with drawn := w.drawn + 1 }) hw h r1 r2 (pairOk_pairwise _ h3) (pairOk_pairwise _ h3') (pairOk_pairwise _ h4) ?_ ?_
 ·intro x hx
  have := List.all_eq_true.1 h6 x hx
  simp only [Bool.or_eq_true] at this
  rcases this with h | h
  ·exact .inl (Nat.eq_of_beq_eq_true h)
  ·exact .inr h
 ·intro y hy
  have := List.all_eq_true.1 h5 y hy
  simp only [Bool.and_eq_true, rlB, Bool.or_eq_true] at this
  exact this
 ·intro p' a' σ' w' he hk
  exact hq p' a' σ' w' ((Ext.drew hw _).trans he) hk
end
def D3 (P : Program) (τ : TypeId -> TK) (N : Nat) : Code -> Ann -> Option Nat -> Env -> (Env -> H -> Prop) -> (Nat -> Env -> H -> Prop) -> (Env -> H -> Prop) -> H -> Prop
 | .skip, _, _, e, Kn, _, _, σ => Kn e σ
 | .label _, _, _, e, Kn, _, _, σ => Kn e σ
 | .exit i, _, _, e, _, Kx, _, σ => Kx i e σ
 | .scope x, an, ro, e, Kn, Kx, Kr, σ => match an with
  | .blk a => D3 P τ N x a ro e Kn Kx Kr σ
  | _ => False
 | .ret, _, _, e, _, _, Kr, σ => Kr e σ
 | .seq x y, an, ro, e, Kn, Kx, Kr, σ => match an with
  | .seq none a b => D3 P τ N x a ro e (fun e' => D3 P τ N y b ro e' Kn Kx Kr) Kx Kr σ
  | .seq (some l) a b => letJ (l.lam fun e' => D3 P τ N y b ro e' Kn Kx Kr) (fun j => D3 P τ N x a ro e (fun e' => l.app j e') Kx Kr) σ
  | _ => False
 | .cond c x y, an, ro, e, Kn, Kx, Kr, σ => match an, evO e c with
  | .cond a b, some (.bool t) => brW t (D3 P τ N x a ro e Kn Kx Kr) (D3 P τ N y b ro e Kn Kx Kr) σ
  | _, _ => False
 | .block id x, an, ro, e, Kn, Kx, Kr, σ => match an with
  | .blk a => D3 P τ N x a ro e Kn (fun i e' σ => match Nat.beq i id with | true => Kn e' σ | false => Kx i e' σ) Kr σ
  | _ => False
 | .loop x, an, ro, e, _, Kx, Kr, σ => match an with
  | .loop l a => loopW l.ks (fun R => l.lam fun e' => D3 P τ N x a ro e' (fun e'' => l.app R e'') Kx Kr) (fun R => l.app R e) σ
  | _ => False
 | .region _ ops draw, an, _, e, Kn, _, _, σ => match an, draw with
  | .reg π AL, true => match drawOk ops (clI P ops.toList) AL π with
   | true => rgF P τ N ops.toList (ancOf AL) π [] e (fun _ => Kn) σ
   | false => False
  | .reg _ _, false => rgF P τ N ops.toList (fun _ _ => true) (List.range ops.size) [] e (fun _ => Kn) σ
  | .reg2 p i (k :: m1) j m2 AL, true => match draw3Ok ops (clI P ops.toList) AL p i k m1 j m2 with
   | true => rgF P τ N ops.toList (ancOf AL) p [] e (fun q e' => bothW (rgF P τ N ops.toList (ancOf AL) (i :: k :: m1) q e' (fun _ => Kn)) (rgF P τ N ops.toList (ancOf AL) (k :: j :: m2) q e' (fun _ => Kn))) σ
   | false => False
  | _, _ => False
 | .rangeFunc f ps asg body, an, ro, e, Kn, Kx, Kr, σ => match an, evO e f with
  | .rf ks a b, some fv => match sameLen ps.toList ks && allLt N ps.toList with
   | true => funW fv (fun g as0 cs => rfW P ro g as0 cs ks (fun l obj K => lamC ks fun vs => D3 P τ N asg a (some l) (e.puts ps.toList vs)
    (fun e1 => begW l obj (D3 P τ N body b (some l) e1 (fun _ => roundK l obj K none true .ready) (fun i _ => roundK l obj K (some (.exit i)) false .done) (fun _ => roundK l obj K (some .ret) false .done)))
    (fun _ _ _ => False) (fun _ _ => False)) (Kn e) (fun i => Kx i e) (Kr e)) σ
   | false => False
  | _, _ => False
 | _, _, _, _, _, _, _, _ => False

section
variable {P : Program} {τ : TypeId -> TK} {N : Nat}
theorem D3_sound (hm : P.follows .mixedOrders = true) : ∀ (c : Code) (an : Ann) (ro : Option Nat) {e : Env} {Kn : Env -> H -> Prop} {Kx : Nat -> Env -> H -> Prop} {Kr : Env -> H -> Prop} {σ : H}, D3 P τ N c an ro e Kn Kx Kr σ ->
 ∀ (n B : Nat) (a : Act) (w : World), FR N e a -> σ.le w -> DefOk B σ w a.defers -> B <= w.heap.size -> c.wpIn (FW ro) n P (Post N B σ w Kn Kx Kr) a w := by
 intro c
 induction c with
 | skip => intro an ro e Kn Kx Kr σ h n B a w fr hw hd hB; exact wpIn_skip ⟨e, σ, fr, Ext.refl hw, hd, h⟩
 | label l => intro an ro e Kn Kx Kr σ h n B a w fr hw hd hB; exact wpIn_label ⟨e, σ, fr, Ext.refl hw, hd, h⟩
 | exit i => intro an ro e Kn Kx Kr σ h n B a w fr hw hd hB; exact wpIn_exit ⟨e, σ, fr, Ext.refl hw, hd, h⟩
 | ret => intro an ro e Kn Kx Kr σ h n B a w fr hw hd hB; exact wpIn_ret ⟨e, σ, fr, Ext.refl hw, hd, h⟩
 | goto l => intro an ro e Kn Kx Kr σ h; exact h.elim
 | refuse s => intro an ro e Kn Kx Kr σ h; exact h.elim
 | scope b ih =>
  intro an ro e Kn Kx Kr σ h n B a w fr hw hd hB
  cases an with
  | blk an => exact wpIn_scope (fun l a w h => h) (ih an ro h n B a w fr hw hd hB)
  | _ => exact h.elim
 | seq x y ihx ihy =>
  intro an ro e Kn Kx Kr σ h n B a w fr hw hd hB
  simp only [D3] at h
  split at h
  ·rename_i ax ay
   refine wpIn_seq (wpIn_mono (ihx _ _ h n B a w fr hw hd hB) fun ex a' w' hp => ?_)
   cases ex with
   | normal =>
    obtain ⟨e', σ', fr', he, hd', h'⟩ := hp
    exact wpIn_mono (ihy _ _ h' n B a' w' fr' he.le hd' (Nat.le_trans hB he.size)) fun _ _ _ => Post.pre he
   | exit i => exact hp
   | ret => exact hp
   | goto l => exact hp.elim
   | panic c => exact hp.elim
   | outgrown => exact hp.elim
  ·rename_i l ax ay
   refine wpIn_seq (wpIn_mono (ihx _ _ h n B a w fr hw hd hB) fun ex a' w' hp => ?_)
   cases ex with
   | normal =>
    obtain ⟨e', σ', fr', he, hd', h'⟩ := hp
    obtain ⟨vs, hs, h'⟩ := Live.app_lam h'
    exact wpIn_mono (ihy _ _ h' n B a' w' (fr'.sel hs) he.le hd' (Nat.le_trans hB he.size)) fun _ _ _ => Post.pre he
   | exit i => exact hp
   | ret => exact hp
   | goto l => exact hp.elim
   | panic c => exact hp.elim
   | outgrown => exact hp.elim
  ·exact h.elim
 | cond c x y ihx ihy =>
  intro an ro e Kn Kx Kr σ h n B a w fr hw hd hB
  simp only [D3] at h
  split at h
  ·rename_i ax ay t ht
   cases t with
   | true => exact wpIn_cond_true (fr.evO ht) (ihx _ _ h n B a w fr hw hd hB)
   | false => exact wpIn_cond_false (fr.evO ht) (ihy _ _ h n B a w fr hw hd hB)
  ·exact h.elim
 | block id x ih =>
  intro an ro e Kn Kx Kr σ h n B a w fr hw hd hB
  simp only [D3] at h
  split at h
  ·refine wpIn_block (wpIn_mono (ih _ _ h n B a w fr hw hd hB) fun ex a' w' hp => ?_)
   cases ex with
   | normal => exact hp
   | exit i =>
    obtain ⟨e', σ', fr', he, hd', h'⟩ := hp
    simp only [Exit.inBlock]
    split at h'
    ·rename_i hb
     rw [if_pos (Nat.eq_of_beq_eq_true hb)]; exact ⟨e', σ', fr', he, hd', h'⟩
    ·rename_i hb
     rw [if_neg (Nat.ne_of_beq_eq_false hb)]; exact ⟨e', σ', fr', he, hd', h'⟩
   | ret => exact hp
   | goto l => exact hp.elim
   | panic c => exact hp.elim
   | outgrown => exact hp.elim
  ·exact h.elim
 | loop x ih =>
  intro an ro e Kn Kx Kr σ h n B a w fr hw hd hB
  simp only [D3] at h
  split at h
  ·rename_i l ax
   have h1 := h (lamC l.ks fun vs σ' => ∀ a w, FR N (l.zip vs) a -> σ'.le w -> DefOk B σ' w a.defers -> B <= w.heap.size -> LoopIn (FW ro) n P x (Post N B σ' w Kn Kx Kr) a w) (leC_lam _ fun vs σ' hD a w fr hw hd hB => ?_)
   ·obtain ⟨vs, g, hs, hg, h1⟩ := Live.app_get h1
    rw [prjC_lamC _ _ _ _ hg] at h1
    exact wpIn_loopIn (h1 a w (fr.sel hs) hw hd hB)
   ·refine loopIn_round (wpIn_mono (ih _ _ hD n B a w fr hw hd hB) fun ex a' w' hp => ?_)
    cases ex with
    | normal =>
     obtain ⟨e', σ'', fr', he, hd', h'⟩ := hp
     obtain ⟨vs', g, hs, hg, h'⟩ := Live.app_get h'
     rw [prjC_lamC _ _ _ _ hg] at h'
     intro b k cs hro hb hr
     obtain ⟨e2, a2, w2, hq, harr⟩ := h' a' w' (fr'.sel hs) he.le hd' (Nat.le_trans hB he.size) b k cs hro hb hr
     exact ⟨e2, a2, w2, Post.pre he hq, harr⟩
    | exit i => exact hp
    | ret => exact hp
    | goto l => exact hp.elim
    | panic c => exact hp.elim
    | outgrown => exact hp.elim
  ·exact h.elim
 | region id ops draw =>
  intro an ro e Kn Kx Kr σ h n B a w fr hw hd hB
  simp only [D3] at h
  split at h
  ·rename_i π AL
   split at h
   ·rename_i hok
    refine draw_sound (fun _ _ _ _ hs ⟨q', e', hpr, h⟩ => ⟨q', e', hpr.mono hs, h⟩) hm hok hw (rgF_sound (p := []) _ (fun y hy => by simp at hy) fr h) fun p' a' σ' w' he ⟨q', e', _, fr', hde, hk⟩ => ?_
    exact ⟨e', σ', fr', he, by rw [hde]; exact hd.ext he, hk⟩
   ·exact h.elim
  ·refine wpIn_region (run_sound _ hw (rgF_sound (p := []) _ (fun y hy => by simp at hy) fr h) fun p' a' σ' w' he ⟨q', e', _, fr', hde, hk⟩ => ?_)
   exact ⟨e', σ', fr', he, by rw [hde]; exact hd.ext he, hk⟩
  ·rename_i p i k m1 j m2 AL
   split at h
   ·rename_i hok
    have h0 := rgF_sound (p := []) _ (fun y hy => by simp at hy) fr h
    have h1 := SRunD.mono (K' := fun q a1 σ1 => SRunD P ops (clI P ops.toList) (ancOf AL) q (i :: k :: m1) a1 (fun p' a' σ' => ∃ q' e', PR P q' p' /\ FR N e' a' /\ a'.defers = a.defers /\ Kn e' σ') σ1 /\ SRunD P ops (clI P ops.toList) (ancOf AL) q (k :: j :: m2) a1 (fun p' a' σ' => ∃ q' e', PR P q' p' /\ FR N e' a' /\ a'.defers = a.defers /\ Kn e' σ') σ1)
     (fun q a1 σ1 ⟨q', e', hpr, fr', hde, hb⟩ => ⟨by rw [<- hde]; exact rgF_sound _ hpr fr' hb.1, by rw [<- hde]; exact rgF_sound _ hpr fr' hb.2⟩) p (Fin.of_le hw) h0
    refine draw3_sound (fun _ _ _ _ hs ⟨q', e', hpr, h⟩ => ⟨q', e', hpr.mono hs, h⟩) hm hok hw h1 fun p' a' σ' w' he ⟨q', e', _, fr', hde, hk⟩ => ?_
    exact ⟨e', σ', fr', he, by rw [hde]; exact hd.ext he, hk⟩
   ·exact h.elim
  ·exact h.elim
 | rangeFunc f ps asg body iha ihb =>
  intro an ro e Kn Kx Kr σ h n B a w fr hw hd hB
  simp only [D3] at h
  split at h
  ·rename_i ks aa ab fv hf
   split at h
   ·rename_i hgl
    simp only [Bool.and_eq_true] at hgl
    obtain ⟨hsl, hlt⟩ := hgl
    have hsl := sameLen_eq _ _ hsl
    unfold funW at h
    split at h
    case h_2 => exact h.elim
    rename_i g as0 cs
    obtain ⟨hg, hro, h⟩ := h
    refine wpIn_rangeFunc fun fn _ => ?_
    -- the record
    have enter : ∃ (l dblk : Nat) (mark : List Deferred) (w₁ : World),
     (Instr.enterLoop fn a.tmps ps asg body ro).run P w = .ok (l, mark) w₁ /\ σ l = none /\
     Ext σ w (σ.put l (.loop { state := .ready, pending := none, fn, tmps := a.tmps, params := ps, assign := asg, body, defers := dblk })) w₁ /\ DefOk B (σ.put l (.loop { state := .ready, pending := none, fn, tmps := a.tmps, params := ps, assign := asg, body, defers := dblk })) w₁ (mark ++ a.defers) := by
     cases ro with
     | none =>
      refine ⟨w.heap.size + 1, w.heap.size, [markOf w.heap.size], (w.alloc (.deferred (some []))).alloc (.loop { state := .ready, pending := none, fn, tmps := a.tmps, params := ps, assign := asg, body, defers := w.heap.size }), ?_, ?_, ?_, ?_⟩
      ·simp [Instr.enterLoop, markOf, World.alloc_eq]
      ·cases hc : σ (w.heap.size + 1) with
       | none => rfl
       | some o => have := hw.lt hc; omega
      ·have e1 := Ext.allocOut hw (.deferred (some []))
       have e2 := (Ext.alloc e1.le (.loop { state := .ready, pending := none, fn, tmps := a.tmps, params := ps, assign := asg, body, defers := w.heap.size })).2
       have : (w.alloc (.deferred (some []))).heap.size = w.heap.size + 1 := by show (w.heap.push _).size = _; simp
       rw [this] at e2
       exact e1.trans e2
      ·obtain ⟨ms, h1, h2, h3⟩ := hd
       have hlt' : ∀ r ∈ ms, r < w.heap.size := fun r hr => by
        have := (h3 r hr).2.2
        rcases Nat.lt_or_ge r w.heap.size with h | h
        ·exact h
        ·rw [Array.getElem?_eq_none h] at this; cases this
       have hget : ∀ (o o' : Obj) (r : Nat), r < w.heap.size -> ((w.alloc o).alloc o').heap[r]? = w.heap[r]? := by
        intro o o' r hr
        show ((w.heap.push o).push o')[r]? = _
        rw [Array.getElem?_push, if_neg (by simp only [Array.size_push]; omega), Array.getElem?_push, if_neg (by omega)]
       refine ⟨w.heap.size :: ms, List.nodup_cons.2 ⟨fun hr => Nat.lt_irrefl _ (hlt' _ hr), h1⟩, by simp [h2], fun r hr => ?_⟩
       rcases List.mem_cons.1 hr with rfl | hr
       ·refine ⟨hB, ?_, ?_⟩
        ·rw [H.put_other _ _ (by omega)]
         cases hc : σ w.heap.size with
         | none => rfl
         | some o => have := hw.lt hc; omega
        ·show ((w.heap.push _).push _)[w.heap.size]? = _
         rw [Array.getElem?_push, if_neg (by simp)]
         simp
       ·obtain ⟨q1, q2, q3⟩ := h3 r hr
        have := hlt' r hr
        exact ⟨q1, by rw [H.put_other _ _ (by omega)]; exact q2, by rw [hget _ _ r this]; exact q3⟩
     | some l0 =>
      obtain ⟨r0, hr0⟩ := hro l0 rfl
      have e1 := Ext.alloc hw (.loop { state := .ready, pending := none, fn, tmps := a.tmps, params := ps, assign := asg, body, defers := r0.defers })
      refine ⟨w.heap.size, r0.defers, [], w.alloc (.loop { state := .ready, pending := none, fn, tmps := a.tmps, params := ps, assign := asg, body, defers := r0.defers }), ?_, e1.1, e1.2, ?_⟩
      ·simp [Instr.enterLoop, run_getLoop (hw _ _ hr0), World.alloc_eq]
      ·exact hd.ext e1.2
    obtain ⟨l, dblk, mark, w₁, hrun, hfresh, hext, hdef⟩ := enter
    let obj : LoopState -> Option Code -> Obj := fun s j => .loop { state := s, pending := j, fn, tmps := a.tmps, params := ps, assign := asg, body, defers := dblk }
    have hobj : LoopObj obj := ⟨{ state := .ready, pending := none, fn, tmps := a.tmps, params := ps, assign := asg, body, defers := dblk }, fun _ _ => rfl⟩
    refine ⟨l, mark, w₁, { target := .fn (.func g) ⟨cs⟩, args := ⟨as0⟩ ++ #[yv l] }, w₁, g, (as0 ++ [yv l] ++ cs).toArray, w₁, hrun, ?_, fun _ _ => trivial, ?_, (fun h => by cases h), ?_⟩
    ·have : a.eval f = .func (.func g) ⟨as0⟩ ⟨cs⟩ := fr.evO hf
     show (Deferred.ofValue (a.eval f) (#[Operand.const (yv l)].map a.eval)).run P w₁ = _
     rw [this]
     simp [Deferred.ofValue, Act.eval]
    ·show (callFunc g _).run P w₁ = _
     rw [callFunc_go hg]; simp
    ·have hY := h l obj hfresh hobj (by
      intro args K σ' hb wy hwy
      obtain ⟨hl, hD⟩ := hb
      unfold runO at hD
      split at hD
      case h_2 => exact hD.elim
      rename_i gD hgD
      have hlen : ps.toList.length = args.length := by rw [hsl]; exact prjC_len _ _ _ _ hgD
      rw [prjC_lamC _ _ _ _ hgD] at hD
      have fr' := puts_fr _ _ fr hlt hlen
      have hgl := run_getLoop (P := P) (hwy l _ hl)
      have hy : (callS (.func (.yield l) #[] #[]) args).run P wy = .ok (.round l fn ((ps.toList.zip args).foldl (fun tmps (x : Nat × Value) => tmps.setIfInBounds x.1 x.2) a.tmps) asg body) wy := by
       have hsz : ¬ (args.length ≠ ps.size) := by
        have : ps.toList.length = args.length := hlen
        simp at this; omega
       simp only [callS, Deferred.ofValue, Sem.run_bind, Sem.run_pure, Result.andThen_ok, invoke, Instr.yield, hgl]
       have hz : (ps.zip (#[] ++ (⟨args⟩ : Array Value))) = ⟨ps.toList.zip args⟩ := by apply Array.ext'; simp
       rw [hz]
       simp [hsz]
      rw [hy]
      show RoundIn Fence.wide 0 P l fn _ asg body wy _
      refine roundIn_of_wpIn trivial ?_
      refine wpIn_mono (iha aa (some l) hD 0 0 { tmps := _, defers := [] } wy ⟨fr'.size, fr'.get⟩ hwy (DefOk.nil _ _ _) (Nat.zero_le _)) fun ex a₁ w₂ hp => ?_
      cases ex with
      | normal =>
       obtain ⟨e1, σ1, fr1, he1, _, hl1, hD1⟩ := hp
       have hgl1 := run_getLoop (P := P) (he1.le l _ hl1)
       refine ⟨{ w₂ with heap := w₂.heap.setIfInBounds l (obj .busy none) }, ?_, ?_⟩
       ·simp only [Instr.beginRound, Sem.run_bind, hgl1, Result.andThen_ok]
        rw [run_setLoop (P := P) (he1.le l _ hl1)]
        rfl
       ·have e2 : Ext σ1 w₂ (σ1.put l (obj .busy none)) { w₂ with heap := w₂.heap.setIfInBounds l (obj .busy none) } := Ext.set he1.le hl1 rfl rfl rfl rfl
        refine wpIn_mono (ihb ab (some l) hD1 0 0 a₁ _ fr1 e2.le (by rename_i hdd; exact hdd.ext e2) (Nat.zero_le _)) fun ex a₃ w₃ hp => ?_
        have fin : ∀ (σ2 : H) (j : Option Code) (b : Bool) (s : LoopState), Ext (σ1.put l (obj .busy none)) { w₂ with heap := w₂.heap.setIfInBounds l (obj .busy none) } σ2 w₃ -> roundK l obj K j b s σ2 -> b = j.isNone -> s = (if j.isNone then .ready else .done) ->
         ∃ v w', (Instr.endRound l j).run P w₃ = .ok v w' /\ ∃ v', Ending.returned v = .returned v' /\ ∃ σ'', Ext σ' wy σ'' w' /\ K v' σ'' := by
         intro σ2 j b s he2 hrk hb hs
         obtain ⟨hl2, hk⟩ := hrk
         have hgl2 := run_getLoop (P := P) (he2.le l _ hl2)
         refine ⟨.bool b, { w₃ with heap := w₃.heap.setIfInBounds l (obj s j) }, ?_, .bool b, rfl, σ2.put l (obj s j), ?_, hk⟩
         ·simp only [Instr.endRound, Sem.run_bind, hgl2, Result.andThen_ok]
          rw [run_setLoop (P := P) (he2.le l _ hl2)]
          subst hb hs; rfl
         ·exact ((he1.trans e2).trans he2).trans (Ext.set he2.le hl2 rfl rfl rfl rfl)
        cases ex with
        | normal => obtain ⟨_, σ2, _, he2, _, hk⟩ := hp; exact fin σ2 none true .ready he2 hk rfl rfl
        | exit i => obtain ⟨_, σ2, _, he2, _, hk⟩ := hp; exact fin σ2 (some (.exit i)) false .done he2 hk rfl rfl
        | ret => obtain ⟨_, σ2, _, he2, _, hk⟩ := hp; exact fin σ2 (some .ret) false .done he2 hk rfl rfl
        | goto l => exact hp.elim
        | panic c => exact hp.elim
        | outgrown => exact hp.elim
      | exit i => obtain ⟨_, _, _, _, _, hk⟩ := hp; exact hk.elim
      | ret => obtain ⟨_, _, _, _, _, hk⟩ := hp; exact hk.elim
      | goto l => exact hp.elim
      | panic c => exact hp.elim
      | outgrown => exact hp.elim)
     refine (callsIn_any (ro := ro) (n := n - 1) (hY w₁ hext.le)).mono fun en w₃ hr => ?_
     obtain ⟨v, rfl, σ', he', s, j, hl', hns, hj⟩ := hr
     have hgl := run_getLoop (P := P) (he'.le l _ hl')
     have e4 : Ext σ' w₃ (σ'.put l (obj .exhausted j)) { w₃ with heap := w₃.heap.setIfInBounds l (obj .exhausted j) } := Ext.set he'.le hl' rfl rfl rfl rfl
     refine ⟨j, { w₃ with heap := w₃.heap.setIfInBounds l (obj .exhausted j) }, ?_, ?_⟩
     ·simp only [Instr.endLoop, Sem.run_bind, hgl, Result.andThen_ok]
      have : (s == LoopState.busy) = false := by simpa using hns
      simp only [this, Bool.false_eq_true, if_false, Sem.run_bind]
      rw [run_setLoop (P := P) (he'.le l _ hl')]
      rfl
     ·have hde := (hdef.ext he').ext e4
      have het := (hext.trans he').trans e4
      split at hj
      ·exact ⟨e, _, ⟨fr.size, fr.get⟩, het, hde, hj⟩
      ·exact wpIn_exit ⟨e, _, ⟨fr.size, fr.get⟩, het, hde, hj⟩
      ·exact wpIn_ret ⟨e, _, ⟨fr.size, fr.get⟩, het, hde, hj⟩
      ·exact hj.elim
   ·exact h.elim
  ·exact h.elim
def bodyF3 (P : Program) (τ : TypeId -> TK) (fn : Func) (an : Ann) (args : List Value) (K : KH) (σ : H) : Prop :=
 match fn.body with
 | some c => match Nat.ble args.length fn.ntmps with
  | true => D3 P τ fn.ntmps c an none (argE 0 args) (resF P τ fn.results.toList K) (fun _ _ _ => False) (resF P τ fn.results.toList K) σ
  | false => False
 | none => False
theorem call_of_body3 (hm : P.follows .mixedOrders = true) {f : FuncId} {fn : Func} (hf : P.funcs[f]? = some fn) {an : Ann} {args : List Value} {K : KH} {σ : H} (h : bodyF3 P τ fn an args K σ) : callW P f args K σ := by
 unfold bodyF3 at h
 split at h
 ·rename_i c hc
  split at h
  ·rename_i hle
   have hle := Nat.le_of_ble_eq_true hle
   intro w hw
   refine callsIn_of_wp_marks hf hc trivial ?_
   have fr : FR fn.ntmps (argE 0 args) { tmps := args.toArray ++ Array.replicate (fn.ntmps - args.toArray.size) undef, defers := [] } := by
    refine ⟨by simp; omega, fun i v hi => ?_⟩
    obtain ⟨_, h2⟩ := argE_get args 0 i v hi
    simp only [Nat.sub_zero] at h2
    have hlt : i < args.length := by
     rcases Nat.lt_or_ge i args.length with h | h
     ·exact h
     ·rw [List.getElem?_eq_none h] at h2; cases h2
    rw [Array.getElem?_append, if_pos (by simpa using hlt)]
    simpa using h2
   refine wpIn_mono (D3_sound hm c an none h 0 w.heap.size _ w fr hw (DefOk.nil _ _ _) (Nat.le_refl _)) fun ex a w' hp => ?_
   have fin : ∀ e σ', FR fn.ntmps e a -> Ext σ w σ' w' -> DefOk w.heap.size σ' w' a.defers -> resF P τ fn.results.toList K e σ' ->
    LeavesInM Fence.wide 0 P fn a.tmps (fun e w' => ∃ v, e = .returned v /\ ∃ σ', Ext σ w σ' w' /\ K v σ') a.defers .returning w' := by
    intro e σ' fr' he hd hres
    obtain ⟨ms, h1, h2, h3⟩ := hd
    rw [h2]
    refine leaves_marks ms w' h1 h3 he.le fun w'' q1 q2 q3 q4 q5 q6 => ?_
    obtain ⟨v, hv, hk⟩ := resF_sound fr' q1 hres
    refine ⟨v, hv, v, rfl, σ', ⟨q1, by rw [q2]; exact he.size, fun b hb hn => by rw [q3 b hb]; exact he.keep b hb hn, he.own, q4.trans he.os, q5.trans he.tape, q6.trans he.output⟩, hk⟩
   cases ex with
   | normal => obtain ⟨e, σ', fr', he, hd, hres⟩ := hp; exact fin e σ' fr' he hd hres
   | ret => obtain ⟨e, σ', fr', he, hd, hres⟩ := hp; exact fin e σ' fr' he hd hres
   | exit i => obtain ⟨_, _, _, _, _, hres⟩ := hp; exact hres.elim
   | goto l => exact hp.elim
   | panic c => exact hp.elim
   | outgrown => exact hp.elim
  ·exact h.elim
 ·exact h.elim
end
end Go.HL

set_option maxRecDepth 100000
namespace Go.Proofs.YthclifcpjnhmjaaGreatDoor
open Go Go.HL
def an14 : Ann := (.q (.n (.q (.h)) (.n (.q (.h)) (.n (.reg2 [0,1,3,4,5,6] 2 [7,8,9,10] 8 [2,9,10] [[],[0],[0,1],[],[3],[3,4],[3,4,5],[3,4,5,6],[3,4,5,6,7],(rn 9),(rn 10)]) .z))))
def g14 (n_1 : Int) (K : KH) : H -> Prop :=
 brW (decide ((n_1 : Int) < 0))
 (callT Tryz.prog 14 [.int .i64 (IntKind.i64.wrap (0 - n_1))] kS (fun (x2 : ByteArray) =>
  ifW ((⟨⟨[45]⟩⟩ : ByteArray).size + x2.size <= 9223372036854775807)
  (K (.string ((⟨⟨[45]⟩⟩ : ByteArray) ++ x2)))))
 (brW (decide ((n_1 : Int) < 10))
  (alW (.cells ⟨[.int .u8 (IntKind.u8.wrap (IntKind.i64.wrap (48 + n_1)))]⟩ 5 (0, 0)) (fun (b3 : Nat) =>
   vaW Tryz.prog (convert 22 9 (.slice (some ⟨b3, 0, none⟩) 1 1)) kS (fun (x4 : ByteArray) =>
    K (.string x4))))
  (ifW ((10 : Int) ≠ 0)
   (ifW ((10 : Int) ≠ 0)
    (bothW
     (callT Tryz.prog 14 [.int .i64 (IntKind.i64.wrap (Int.tdiv n_1 10))] kS (fun (x5 : ByteArray) =>
      alW (.cells ⟨[.int .u8 (IntKind.u8.wrap (IntKind.i64.wrap (48 + (Int.tmod n_1 10))))]⟩ 5 (0, 0)) (fun (b6 : Nat) =>
       vaW Tryz.prog (convert 22 9 (.slice (some ⟨b6, 0, none⟩) 1 1)) kS (fun (x7 : ByteArray) =>
        ifW (x5.size + x7.size <= 9223372036854775807)
        (K (.string (x5 ++ x7)))))))
     (alW (.cells ⟨[.int .u8 (IntKind.u8.wrap (IntKind.i64.wrap (48 + (Int.tmod n_1 10))))]⟩ 5 (0, 0)) (fun (b8 : Nat) =>
      vaW Tryz.prog (convert 22 9 (.slice (some ⟨b8, 0, none⟩) 1 1)) kS (fun (x9 : ByteArray) =>
       callT Tryz.prog 14 [.int .i64 (IntKind.i64.wrap (Int.tdiv n_1 10))] kS (fun (x10 : ByteArray) =>
        ifW (x10.size + x9.size <= 9223372036854775807)
        (K (.string (x10 ++ x9)))))))))))
theorem e14 (n_1 : Int) (K : KH) : bodyF3 Tryz.prog tau Tryz.f14 an14 [.int .i64 n_1] K = g14 n_1 K := by kernel_rfl
theorem c14 (n_1 : Int) {K : KH} {σ : H} (h : g14 n_1 K σ) : callW Tryz.prog 14 [.int .i64 n_1] K σ := call_of_body3 mixed Tryz.func14 (by rw [e14]; exact h)

end Go.Proofs.YthclifcpjnhmjaaGreatDoor

set_option maxRecDepth 100000
namespace Go.Proofs.YthclifcpjnhmjaaGreatDoor
open Go Go.HL Go.Wk
attribute [local irreducible] ptrW ifW brW andW rdT alW letJ stW muW biW vaW imW callT cvalT app callW invW callVW sizeT oW nilF oneK loopW rfW funW begW roundK exW idxW Gr Put
theorem digT : ∀ k, k < 10 -> (digitL k).toNat = 48 + k := by decide +kernel
theorem row_u8 {σ : H} {b : Nat} {c : UInt8} {t : TypeId} {fz : Nat × Nat} (h : σ b = some (.cells ⟨[.int .u8 ((c.toNat : Nat) : Int)]⟩ t fz)) : RowsAt σ 1 (brows [c]) ⟨some ⟨b, 0, none⟩, 1, 1⟩ := by
 refine ⟨rfl, .inr ⟨b, 0, _, _, _, rfl, h, fun i r hr => ?_⟩⟩
 match i, hr with
 | 0, hr => cases hr; exact ⟨rfl, rfl⟩
 | i + 1, hr => simp [brows] at hr
theorem dig_w {k : Nat} (h : k < 10) : IntKind.u8.wrap (IntKind.i64.wrap (48 + (k : Int))) = (((digitL k).toNat : Nat) : Int) := by
 rw [digT k h, wrap_id (by omega) (by omega)]
 have : ∀ x : Int, IntKind.u8.wrap x = x % 256 := fun _ => rfl
 rw [this]; omega
theorem s_say0 : ∀ (m : Nat) (n : Int), n.toNat <= m -> 0 <= n -> n < 1000000000000000 -> ∀ {σ : H} {K : KH}, K (.string (fmtP 10 n)) σ -> callW Tryz.prog 14 [.int .i64 n] K σ := by
 intro m
 induction m using Nat.strongRecOn with
 | ind m ih =>
  intro n hm h0 h1 σ K hK
  refine pure_i _ hK (c14 _ ?_)
  clear hK
  unfold g14
  refine br_f (by rw [decide_eq_false_iff_not]; omega) ?_
  by_cases hl : n < 10
  ·refine br_t (decide_eq_true hl) ?_
   obtain ⟨k, rfl⟩ : ∃ k : Nat, n = (k : Int) := ⟨n.toNat, by omega⟩
   rw [dig_w (by omega)]
   refine al_i ?_; intro b3 σ1 g1 e1 n1
   refine bstr_i und_bytesM und_u8M und_strM (l := [digitL k]) (x := ⟨some ⟨b3, 0, none⟩, 1, 1⟩) (row_u8 e1) ⟨?_, g1⟩
   rw [fmtP_dig (.inl rfl) h0 (by exact hl)]; rfl
  ·refine br_f (decide_eq_false hl) (if_i (by decide) (if_i (by decide) ?_))
   obtain ⟨k, hk, hk2⟩ : ∃ k : Nat, Int.tmod n 10 = (k : Int) /\ k < 10 := by
    rw [Int.tmod_eq_emod_of_nonneg h0]; exact ⟨(n % 10).toNat, by omega, by omega⟩
   have hkm : (n % ((10 : Nat) : Int)).toNat = k := by rw [Int.tmod_eq_emod_of_nonneg h0] at hk; omega
   have hst := fmtP_step (b := 10) (.inl rfl) h0 (by exact hl) h1
   rw [hkm] at hst
   have e2 : IntKind.i64.wrap (Int.tdiv n 10) = n / ((10 : Nat) : Int) := by
    rw [Int.tdiv_eq_ediv_of_nonneg h0, wrap_id (by omega) (by omega)]; rfl
   rw [hk, dig_w hk2, e2]
   have hsz := fmtP_size 10 (n / ((10 : Nat) : Int))
   have ihn : ∀ {σ : H} {K : KH}, K (.string (fmtP 10 (n / ((10 : Nat) : Int)))) σ -> callW Tryz.prog 14 [.int .i64 (n / ((10 : Nat) : Int))] K σ := fun h => ih (n / ((10 : Nat) : Int)).toNat (by omega) _ (Nat.le_refl _) (by omega) (by omega) h
   refine both_i ?_ ?_
   ·refine call_i (ihn (app_S (al_i ?_))); intro b3 σ1 g1 e1 n1
    refine bstr_i und_bytesM und_u8M und_strM (l := [digitL k]) (x := ⟨some ⟨b3, 0, none⟩, 1, 1⟩) (row_u8 e1) (if_i ?_ ⟨?_, g1⟩)
    ·show _ + 1 <= _; omega
    ·rw [hst]
   ·refine al_i ?_; intro b3 σ1 g1 e1 n1
    refine bstr_i und_bytesM und_u8M und_strM (l := [digitL k]) (x := ⟨some ⟨b3, 0, none⟩, 1, 1⟩) (row_u8 e1) (call_i (ihn (app_S (if_i ?_ ⟨?_, g1⟩))))
    ·show _ + 1 <= _; omega
    ·rw [hst]
theorem s_say (n : Int) (h1 : -1000000000000000 < n) (h2 : n < 1000000000000000) {σ : H} {K : KH} (hK : K (.string (fmtP 10 n)) σ) : callW Tryz.prog 14 [.int .i64 n] K σ := by
 by_cases h : 0 <= n
 ·exact s_say0 n.toNat n (Nat.le_refl _) h h2 hK
 ·refine c14 _ ?_
  unfold g14
  rw [fmtP_neg 10 (by omega)] at hK
  refine br_t (by rw [decide_eq_true_eq]; omega) ?_
  have e2 : IntKind.i64.wrap (0 - n) = -n := by rw [wrap_id (by omega) (by omega)]; omega
  rw [e2]
  refine call_i (s_say0 (-n).toNat (-n) (Nat.le_refl _) (by omega) (by omega) (app_S (if_i ?_ hK)))
  have := fmtP_size 10 (-n)
  show 1 + _ <= _; omega
theorem st_zero2 (nm : ByteArray) (b : Bool) : ((doneOf nm (b, true)).st == 0) = b := by cases b <;> rfl
theorem run_te2 (A : AT) (l : List ByteArray) : runL A (TE :: l) = A.testP ⟨⟨[47]⟩⟩ TE l := rfl
theorem run_br2 (A : AT) (l : List ByteArray) : runL A (BR :: l) = A.testP ⟨⟨[47]⟩⟩ BR l := rfl
theorem run_pf2 (A : AT) (l : List ByteArray) : runL A (pfN :: l) = printfP pfN l := rfl
theorem tmod_lt (a : Int) : -1000000000000 < Int.tmod a 1000000000000 /\ Int.tmod a 1000000000000 < 1000000000000 := by
 have h1 := Int.tmod_lt_of_pos a (show (0 : Int) < 1000000000000 by decide)
 have h2 := Int.tmod_lt_of_pos (-a) (show (0 : Int) < 1000000000000 by decide)
 rw [Int.neg_tmod] at h2
 exact ⟨by omega, h1⟩
theorem s_MiscNumbers {σ : H} (a : Int) (_ha : (-9223372036854775808 : Int) <= a /\ a <= 9223372036854775807) (b : Int) (_hb : (-9223372036854775808 : Int) <= b /\ b <= 9223372036854775807) (hT : Tabs σ) {K : KH} (hK : ∀ σ', Gr σ σ' -> K (.bool true) σ') :
 callW Tryz.prog 4 [.int .i64 a, .int .i64 b] K σ := by
 refine c4 _ _ ?_
 unfold g4
 refine call_i (s_works20 hT (app_B (br_f rfl ?_)))
 refine call_i (s_both20 ?_)
 intro bf br τ0 ρF ρR B D hF _ W
 replace hF := hF.gr W.gF
 have G := W.gσ
 replace hT := hT.gr G
 clear W
 (refine app_of rfl ?_; try dsimp only)
 obtain ⟨x1, x2⟩ := tmod_lt a
 obtain ⟨y1, y2⟩ := tmod_lt b
 generalize Int.tmod a 1000000000000 = x at x1 x2 ⊢
 generalize Int.tmod b 1000000000000 = y at y1 y2 ⊢
 have hs : wholeP (fmtP 10 x) = some x := whole_say (by omega) (by omega)
 have ht : wholeP (fmtP 10 y) = some y := whole_say (by omega) (by omega)
 have heq := say_inj (x := x) (y := y) (by omega) (by omega) (by omega) (by omega)
 have sx := fmtP_size 10 x
 have sy := fmtP_size 10 y
 refine br_f rfl (if_i (by decide) (if_i (by decide) ?_))
 refine call_i (s_say x (by omega) (by omega) (app_S (call_i (s_say y (by omega) (by omega) (app_S ?_)))))
 generalize hS : fmtP 10 x = s at hs heq sx ⊢
 generalize hTT : fmtP 10 y = t at ht heq sy ⊢
 have szl : ∀ l : List ByteArray, (∀ q ∈ l, q = s \/ q = t \/ q.size <= 1000) -> ∀ q ∈ l, q.size <= 1000 := by
  intro l h q hq
  rcases h q hq with e | e | e
  ·rw [e]; omega
  ·rw [e]; omega
  ·exact e
 refine j_i (fun j => ∀ τ, Gr τ0 τ -> j (some ⟨bf, 0, none⟩) x y s t false τ) ?_ ?_
 ·intro τ g0
  refine br_f rfl (al_i ?_); intro c1 τ1 g1 e1 n1
  have k1 := g0.trans g1
  refine call_i (s_run20 (hF.gr k1) (hT.gr k1) (nm := TE) (args := [s, ltQ, t]) (lit4 e1) (Nat.le_refl _) (szl _ (by intro q hq; simp only [List.mem_cons, List.mem_nil_iff, or_false] at hq; rcases hq with rfl | rfl | rfl | rfl <;> first | exact .inl rfl | exact .inr (.inl rfl) | exact .inr (.inr (by decide)))) (by show (3 : Nat) <= 20; decide) ?_)
  rw [run_te2, testP_te, so_lt m6 _ hs ht]
  unfold dnV
  (refine app_of rfl ?_; try dsimp only)
  rw [st_zero2, beq_self_eq_true]
  refine br_t rfl (al_i ?_); intro c2 τ2 g2 e2 n2
  have k2 := k1.trans g2
  refine call_i (s_run20 (hF.gr k2) (hT.gr k2) (nm := TE) (args := [s, geQ, t]) (lit4 e2) (Nat.le_refl _) (szl _ (by intro q hq; simp only [List.mem_cons, List.mem_nil_iff, or_false] at hq; rcases hq with rfl | rfl | rfl | rfl <;> first | exact .inl rfl | exact .inr (.inl rfl) | exact .inr (.inr (by decide)))) (by show (3 : Nat) <= 20; decide) ?_)
  rw [run_te2, testP_te, so_ge m6 _ hs ht]
  unfold dnV
  (refine app_of rfl ?_; try dsimp only)
  rw [st_zero2, beq_self_eq_true]
  refine br_t rfl (al_i ?_); intro c3 τ3 g3 e3 n3
  have k3 := k2.trans g3
  refine call_i (s_run20 (hF.gr k3) (hT.gr k3) (nm := BR) (args := [s, eqQ, t] ++ [CL]) (lit5 e3) (Nat.le_refl _) (szl _ (by intro q hq; simp only [List.cons_append, List.nil_append, List.mem_cons, List.mem_nil_iff, or_false] at hq; rcases hq with rfl | rfl | rfl | rfl | rfl <;> first | exact .inl rfl | exact .inr (.inl rfl) | exact .inr (.inr (by decide)))) (by show (4 : Nat) <= 20; decide) ?_)
  rw [run_br2, testP_br, so_eq m6 _ hs ht]
  unfold dnV
  (refine app_of rfl ?_; try dsimp only)
  rw [st_zero2, beq_self_eq_true]
  refine br_t rfl (al_i ?_); intro c4 τ4 g4 e4 n4
  have k4 := k3.trans g4
  refine call_i (s_run20 (hF.gr k4) (hT.gr k4) (nm := TE) (args := [s, isQ, t]) (lit4 e4) (Nat.le_refl _) (szl _ (by intro q hq; simp only [List.mem_cons, List.mem_nil_iff, or_false] at hq; rcases hq with rfl | rfl | rfl | rfl <;> first | exact .inl rfl | exact .inr (.inl rfl) | exact .inr (.inr (by decide)))) (by show (3 : Nat) <= 20; decide) ?_)
  rw [run_te2, testP_te, so_is m6 _, heq]
  unfold dnV
  (refine app_of rfl ?_; try dsimp only)
  rw [st_zero2, beq_self_eq_true]
  refine br_t rfl (al_i ?_); intro c5 τ5 g5 e5 n5
  have k5 := k4.trans g5
  refine call_i (s_run20 (hF.gr k5) (hT.gr k5) (nm := TE) (args := [s, leQ, s]) (lit4 e5) (Nat.le_refl _) (szl _ (by intro q hq; simp only [List.mem_cons, List.mem_nil_iff, or_false] at hq; rcases hq with rfl | rfl | rfl | rfl <;> first | exact .inl rfl | exact .inr (.inl rfl) | exact .inr (.inr (by decide)))) (by show (3 : Nat) <= 20; decide) ?_)
  rw [run_te2, testP_te, so_le m6 _ hs hs]
  unfold dnV
  (refine app_of rfl ?_; try dsimp only)
  rw [st_zero2, decide_eq_true (Int.le_refl x)]
  exact hK τ5 (G.trans k5)
 ·intro j hj
  refine if_i (by show s.size + 1 <= _; omega) (if_i (by rw [ByteArray.size_append]; show s.size + 1 + t.size <= _; omega) (al_i ?_)); intro c1 τ1 g1 e1 n1
  refine call_i (s_says20 (hF.gr g1) (hT.gr g1) _ (l := [pfN, ⟨⟨[37, 100, 32, 37, 100]⟩⟩, s, t]) (by simp) (lit4 e1) (Nat.le_refl _) (szl _ (by intro q hq; simp only [List.mem_cons, List.mem_nil_iff, or_false] at hq; rcases hq with rfl | rfl | rfl | rfl <;> first | exact .inl rfl | exact .inr (.inl rfl) | exact .inr (.inr (by decide)))) (by show (4 : Nat) <= 21; decide) (app_B ?_))
  rw [show dEq (runL m6 [pfN, ⟨⟨[37, 100, 32, 37, 100]⟩⟩, s, t]) _ = true from dEq_iff.2 (by rw [run_pf2, printf_dd pfN hs ht, hS, hTT])]
  refine br_f rfl (al_i ?_); intro c2 τ2 g2 e2 n2
  have k2 := g1.trans g2
  refine call_i (s_says20 (hF.gr k2) (hT.gr k2) _ (l := [pfN, pcS, s]) (by simp) (lit3 e2) (Nat.le_refl _) (szl _ (by intro q hq; simp only [List.mem_cons, List.mem_nil_iff, or_false] at hq; rcases hq with rfl | rfl | rfl <;> first | exact .inl rfl | exact .inr (.inl rfl) | exact .inr (.inr (by decide)))) (by show (3 : Nat) <= 21; decide) (app_B ?_))
  rw [show dEq (runL m6 [pfN, pcS, s]) _ = true from dEq_iff.2 (by rw [run_pf2]; exact printf_s pfN [s])]
  exact hj τ2 k2
end Go.Proofs.YthclifcpjnhmjaaGreatDoor

set_option maxRecDepth 100000
namespace Go.Proofs.YthclifcpjnhmjaaGreatDoor
open Go Go.HL Go.Wk
theorem tab_of {P : Program} {W : World} {name : String} {k : IntKind} {zs : List Int} {rest : List (String × DataW Unit)} {ps : List MemPlace} {g : Nat} {t e : TypeId} {n : Nat}
 (hg : P.globalNamed name = some g) (hty : (P.globals[g]?).map (·.type) = some t) (ht : P.underlying t = some (.array n e)) (he : P.underlying e = some (.int k)) (hce : P.cellsOf e = 1) (hct : P.cellsOf t = n)
 (h : DataW.LaidVars P W ((name, Lib.tabData k zs) :: rest) ps) : TabC (whole W) g k zs /\ ∃ q, DataW.LaidVars P W rest q := by
 obtain ⟨g', t', cs, fuel, p, q, hg', ht', hvar, hd, hr, _⟩ := h
 obtain rfl := Option.some.inj (hg.symm.trans hg')
 obtain rfl := Option.some.inj (hty.symm.trans ht')
 refine ⟨TabC.of ?_ hg, q, hr⟩
 unfold Lib.TabIs
 rw [hvar, <- Lib.cells_of_tab ht he hce hct hd]
theorem tabs_of {W : World} {x : String × DataW Unit} {rest : List (String × DataW Unit)} (h : laidMet Tryz.prog (x :: ("math/bits.deBruijn64tab", Lib.tabData .u8 dbTab) :: ("internal/strconv.uint64pow10", Lib.tabData .u64 Lib.pow10Tab) :: rest) W) : Tabs (whole W) := by
 obtain ⟨ps, ⟨_, _, _, _, _, q, _, _, _, _, h, _⟩, _⟩ := h
 obtain ⟨t1, q1, h1⟩ := tab_of (t := 252) (e := 5) (n := 64) (by kernel_rfl) (by kernel_rfl) (by kernel_rfl) (by kernel_rfl) (by kernel_rfl) (by kernel_rfl) h
 obtain ⟨t2, _⟩ := tab_of (t := 236) (e := 134) (n := 20) (by kernel_rfl) (by kernel_rfl) (by kernel_rfl) (by kernel_rfl) (by kernel_rfl) (by kernel_rfl) h1
 exact ⟨t2, t1⟩
end Go.Proofs.YthclifcpjnhmjaaGreatDoor

