/- A part of the proof: FsQuota returns true for every input and leaves its arguments as they were; no condition beside the row's own (the two tables of unicode/utf8 hold what the program's text lays). -/
import Derived.Test.YtlpcehbfoogejaaGreatDoorQae
/- A FILE SYSTEM: Lay, Real. -/
set_option maxRecDepth 100000
namespace Go.Proofs.YtlpcehbfoogejaaGreatDoor
open Go Go.HL Go.Wk
attribute [local irreducible] ptrW ifW brW andW rdT alW letJ stW muW biW vaW imW callT cvalT app callW invW callVW sizeT oW nilF oneK loopW rfW funW begW roundK exW idxW Gr Put
theorem go_LayF1 : isGo Tryz.prog 56 = true := by kernel_rfl
theorem sizeT_le (t : Tr) : 0 ≤ t.sizeT.1 ∧ 0 ≤ t.sizeT.2 ∧ t.sizeT.1 + t.sizeT.2 ≤ t.total := by
  unfold Tr.sizeT
  have := Tr.size_le t
  split
  · simp
  · omega
/-- Lay -/
theorem s_Lay (t : Tr) (y : Sl) {A : AT} {N : Nat} {σ τ : H} {bf : Nat} {B : Nat → Prop} (path : ByteArray) (hI : Inv A) (hB : Bd N A) (hN : N + t.total ≤ 1000000000000) (hF : FsAt σ bf A B) (hO : Off τ σ B) (hs : SlAt τ t.kids y) {K : Value → H → Prop}
    (hK : ∀ σ' B', FsAt σ' bf (A.layF path t).2 B' → Sep σ B σ' B' → K (.int .i64 (A.layF path t).1) σ') :
    callW Tryz.prog 17 [.pointer (some ⟨bf, 0, none⟩), .string path, .agg ⟨trC t y⟩] K σ := by
  refine c17 _ _ _ _ _ _ _ ?_
  unfold g17
  unfold AT.layF at hK
  simp only at hK
  refine al_i ?_; intro b8 σ1 g1 e1 n1
  refine al_i ?_; intro b9 σ2 g2 e2 n2
  have hg2 : Lng σ σ2 := ⟨g1.trans g2⟩
  have hF2 := hF.gr hg2.gr
  have hO2 := hO.gr hg2.gr
  have k8 := g2.get e1
  refine rd_P (rdC_of k8 (by rfl)) ?_
  refine call_i (s_none hF2 (app_B (br_f rfl ?_)))
  refine rd_G (rdA_of' e2 (by rfl)) ?_
  (refine app_of rfl ?_; try dsimp only)
  refine call_i (s_Check t y (hs.gr hO2.1) (by omega) (app_I ?_))
  by_cases hc : t.check = 0
  case neg =>
    rw [if_pos hc] at hK
    exact br_t (by simpa using hc) (hK σ2 B hF2 (Sep.gr hg2.gr))
  rw [if_neg (by simpa using hc)] at hK
  refine br_f (by simpa using hc) (rd_P (rdC_of k8 (by rfl)) ?_)
  refine call_i (s_fresh hF2 _ path _ ?_ ?_)
  · intro he σ3 g3
    refine app_I ?_
    rw [if_pos he] at hK
    exact hK σ3 B (hF2.gr g3) (Sep.gr (hg2.gr.trans g3))
  · intro he σ3 g3
    rw [if_neg (by simpa using he)] at hK
    obtain ⟨⟨hd, hp⟩, ht⟩ := freshP_ok hI he
    generalize (A.freshP ⟨⟨[47]⟩⟩ path).2 = p at *
    unfold plC
    refine cval_i go_LayF1 (c56 _ _ _ _ _ _ ?_)
    unfold g56
    refine al_i ?_; intro b7 σ4 g4 e4 n4
    have hg4 : Lng σ σ4 := ⟨(hg2.gr.trans g3).trans g4⟩
    have k8' := (g3.trans g4).get k8
    have k9' := (g3.trans g4).get e2
    have hF4 := hF.gr hg4.gr
    have hO4 := hO.gr hg4.gr
    refine ptr_i (rd_G (rdA_of' k9' (by rfl)) ?_)
    (refine app_of rfl ?_; try dsimp only)
    refine call_i (s_tSize t y (hs.gr hO4.1) (by omega) (app_II ?_))
    obtain ⟨bt, B0, q1, q2, q3, q4⟩ := id hF4
    refine ptr_i (rd_P (rdC_of k8' (by rfl)) (ptr_i (rd_P (rdC_of k8' (by rfl)) (ptr_i (rd_P (rdC_of q1 (by rfl)) ?_)))))
    refine call_i (s_Used hF4 ?_)
    (refine app_of rfl ?_; try dsimp only)
    refine and_i (rdC_of q1 (by rfl)) (and_i (rdC_of k8' (by rfl)) ?_)
    refine call_i (t_Quota q2 ?_)
    (refine app_of rfl ?_; try dsimp only)
    refine al_i ?_; intro b30 σ5 g5 e5 n5
    refine al_i ?_; intro b31 σ6 g6 e6 n6
    have n3031 : b30 ≠ b31 := ne_fr n6 (isSome_of e5)
    have k30 := g6.get e5
    refine st_i2 k30 sz_Quota (by rfl) (by rfl) ?_; intro σ7 p7
    have k31 := p7.get n3031.symm e6
    refine st_i2 k31 sz_Quota (by rfl) (by rfl) ?_; intro σ8 p8
    have f30 : σ4 b30 = none := n5
    have f31 : σ4 b31 = none := none_of g5 n6
    have hg48 : Lng σ4 σ8 := ⟨((g5.trans g6).putF p7 f30).putF p8 f31⟩
    have h30 := p8.get n3031 p7.same
    have h31 := p8.same
    clear p7 p8 k30 k31 e5 e6
    have hg8 : Lng σ σ8 := ⟨hg4.gr.trans hg48.gr⟩
    have hF8 := hF.gr hg8.gr
    have hO8 := hO.gr hg8.gr
    have h8 := hg48.gr.get k8'
    have h9 := hg48.gr.get k9'
    have h7 := hg48.gr.get e4
    refine ptr_i (rd_P (rdC_of h8 (by rfl)) (rd_I (rdC_of h7 (by rfl)) (ptr_i (rd_G (rdA_of' h9 (by rfl)) ?_))))
    (refine app_of rfl ?_; try dsimp only)
    obtain ⟨d, hd13, hd12, hd1, hd2⟩ := hI.deep13 hd
    rw [hd13] at hK
    simp only [Option.getD_some] at hK
    refine call_i (s_deep hF8 hd13 (by decide) (app_I ?_))
    refine and_i (rdA_of' h9 (by rfl)) ?_
    refine call_i (s_levelsN t y (hs.gr hO8.1) (by omega) (app_I ?_))
    have hlv := levels_total t
    have hl0 := levels_pos t
    rw [wrap_id (x := d + t.levels) (by omega) (by omega)]
    by_cases hdl : d + t.levels > 12
    · rw [if_pos hdl] at hK
      exact br_t (by simpa using hdl) (app_I (app_I (hK σ8 B hF8 (Sep.gr hg8.gr))))
    rw [if_neg hdl] at hK
    refine br_f (by simpa using hdl) ?_
    have hsz := sizeT_le t
    have hu1 := hI.ui_pos
    have hu2 := hI.ub_pos
    have hq1 := hI.uq
    have hq2 := hI.bq
    refine j_i (fun j => ∀ b : Bool, (b = true ↔ A.ui + t.sizeT.1 > A.qi ∨ A.ub + t.sizeT.2 > A.qb) → j (some ⟨b9, 0, none⟩) (some ⟨b8, 0, none⟩) (some ⟨b7, 0, none⟩) b σ8) ?_ ?_
    · intro b hb
      cases b with
      | true =>
        rw [if_pos (hb.1 rfl)] at hK
        exact br_t rfl (app_I (app_I (hK σ8 B hF8 (Sep.gr hg8.gr))))
      | false =>
        rw [if_neg (fun h => by have := hb.2 h; cases this)] at hK
        refine br_f rfl (ptr_i (rd_P (rdC_of h8 (by rfl)) (ptr_i (rd_I (rdC_of h7 (by rfl)) (ptr_i (rd_S (rdC_of h7 (by rfl)) (ptr_i (rd_G (rdA_of' h9 (by rfl)) ?_))))))))
        (refine app_of rfl ?_; try dsimp only)
        refine call_i (s_lay t y p.dir p.name hI hB hN ?_ hF8 hO8 hs ?_)
        · intro d' _ hd'
          rw [hd12] at hd'; cases hd'; omega
        · intro σ9 B9 hF9 hS9
          exact app_I (app_I (app_I (hK σ9 B9 hF9 (hS9.of_gr hg8.gr))))
    · intro j hj
      refine rd_I (rdC_of h30 (by rfl)) (rd_I (rdC_of h31 (by rfl)) ?_)
      rw [wrap_id (x := A.ui + t.sizeT.1) (by omega) (by omega)]
      by_cases h1 : A.ui + t.sizeT.1 > A.qi
      · exact br_t (by simpa using h1) (hj true (by simp [h1]))
      · refine br_f (by simpa using h1) (rd_I (rdC_of h30 (by rfl)) (rd_I (rdC_of h31 (by rfl)) ?_))
        rw [wrap_id (x := A.ub + t.sizeT.2) (by omega) (by omega)]
        exact hj _ (by simp [h1])
theorem StrSl.at {σ : H} {x : Sl} {l : List ByteArray} (h : StrSl σ x l) {i : Nat} {s : ByteArray} (hi : l[i]? = some s) : ∃ g cur, x.base = some ⟨g, 0, none⟩ ∧ σ g = some (.cells ⟨cur⟩ 9 (0, 0)) ∧ cur[i]? = some (.string s) := by
  obtain ⟨h1, h2 | ⟨g, cur, e1, e2, e3⟩⟩ := h
  · subst h2; simp at hi
  · refine ⟨g, cur, e1, e2, ?_⟩
    have hlt : i < l.length := by
      rcases Nat.lt_or_ge i l.length with h | h
      · exact h
      · rw [List.getElem?_eq_none h] at hi; cases hi
    have : (cur.take l.length)[i]? = some (.string s) := by rw [e3]; simp [hi]
    rw [List.getElem?_take_of_lt hlt] at this
    exact this
theorem names_len {A : AT} {d : Int} {N : Nat} (hB : Bd N A) : (A.names d).length ≤ N := by
  unfold AT.names
  cases hn : A.get d with
  | none => simp
  | some n =>
    have := hB.ents d n hn
    simp only [sortN, List.length_map]
    rw [(sortB_perm _).length_eq]
    simp [keysL]; omega
theorem names_mem {A : AT} (hI : Inv A) {d : Int} {s : ByteArray} (h : s ∈ A.names d) : ∃ j, A.find d s = some j := by
  unfold AT.names at h
  cases hn : A.get d with
  | none => rw [hn] at h; simp at h
  | some n =>
    rw [hn] at h
    simp only [sortN, List.mem_map] at h
    obtain ⟨l, hl, rfl⟩ := h
    have := (sortB_perm _).mem_iff.1 hl
    obtain ⟨k, hk, rfl⟩ := List.mem_map.1 this
    show ∃ j, A.find d k = some j
    unfold AT.find; rw [hn]
    cases hlk : lk k n.ents with
    | some j => exact ⟨j, hlk⟩
    | none => exact absurd hk (lk_none_iff.1 hlk)
theorem names_size {A : AT} (hI : Inv A) {d : Int} {s : ByteArray} (h : s ∈ A.names d) : s.size ≤ 56 := by
  obtain ⟨j, hj⟩ := names_mem hI h
  obtain ⟨n, hn, _, hl, _⟩ := hI.find hj
  exact namedE_size (hI.ent d n s j hn hl).1
/-- Real -/
theorem s_Real {A : AT} {N : Nat} {σ : H} {bf : Nat} {B : Nat → Prop} (hI : Inv A) (hB : Bd N A) (hN : N ≤ 1000000000000) (hF : FsAt σ bf A B) (cwd path : ByteArray) {K : Value → H → Prop}
    (hK : K (.tuple ⟨[.string (A.realF cwd path).2, .int .i64 (A.realF cwd path).1]⟩) σ) :
    callW Tryz.prog 48 [.pointer (some ⟨bf, 0, none⟩), .string cwd, .string path] K σ := by
  generalize hres : A.realF cwd path = res at hK
  unfold AT.realF at hres
  refine pure_i _ hK (c48 _ _ _ ?_)
  clear hK
  unfold g48
  refine call_i (s_locate hF cwd path true ?_)
  have hpl := locate_place hI cwd path true
  generalize A.locate cwd path true = r at hres hpl
  obtain ⟨re, p⟩ := r
  simp only at hres hpl
  unfold plC
  (refine app_of rfl ?_; try dsimp only)
  refine al_i ?_; intro b9 σ1 g1 e1 n1
  refine st_i2 e1 sz_place (by rfl) (by rfl) ?_; intro σ2 p2
  have hg2 : Lng σ σ2 := ⟨g1.putF p2 n1⟩
  have hF2 := hF.gr hg2.gr
  have k := p2.same
  clear p2
  by_cases he : re = 0
  case neg =>
    rw [if_pos he] at hres
    exact br_t (by simpa using he) ⟨by rw [← hres], hg2.gr⟩
  subst he
  simp only [ne_eq, not_true_eq_false, if_false] at hres
  refine br_f rfl (rd_B (rdC_of k (by rfl)) ?_)
  have hpl := hpl rfl
  cases hth : p.there with
  | false => rw [hth] at hres; exact br_t rfl ⟨by rw [← hres]; rfl, hg2.gr⟩
  | true =>
    rw [hth] at hres
    simp only [Bool.true_eq_false, if_false] at hres
    refine br_f rfl (rd_I (rdC_of k (by rfl)) ?_)
    refine j_i (fun j => ∀ (out : ByteArray) (dir : Int), A.isDir dir → out.size ≤ 100 → res = (0, if sEq (A.realUp 13 dir out) ⟨⟨[]⟩⟩ then ⟨⟨[47]⟩⟩ else A.realUp 13 dir out) → j (some ⟨bf, 0, none⟩) out dir σ2) ?_ ?_
    · intro out dir hdir hos hr
      refine loop_i ?_
      intro R hR
      have key : ∀ (f : Nat) (dir : Int) (out : ByteArray) (τ : H), A.isDir dir → (A.deep f dir).isSome = true → out.size + f * (60 * N) ≤ 1000000000000000 → Gr σ τ → res = (0, if sEq (A.realUp f dir out) ⟨⟨[]⟩⟩ then ⟨⟨[47]⟩⟩ else A.realUp f dir out) → R (some ⟨bf, 0, none⟩) out dir τ := by
        intro f
        induction f with
        | zero => intro dir out τ _ hd; simp [AT.deep] at hd
        | succ f ihf =>
          intro dir out τ hdir hd hsz hg hr
          have hFt := hF.gr hg
          obtain ⟨bt, B0, q1, q2, q3, q4⟩ := id hFt
          refine hR _ _ _ _ ?_
          refine ptr_i (rd_P (rdC_of q1 (by rfl)) (call_i (s_Root _ (app_I ?_))))
          unfold AT.realUp at hr
          by_cases hd1 : dir = 1
          · rw [if_pos hd1] at hr
            refine br_f (by simpa using hd1) ?_
            refine j_i (fun j => j (if sEq out ⟨⟨[]⟩⟩ then ⟨⟨[47]⟩⟩ else out) τ) ⟨by rw [hr], hg⟩ ?_
            intro j hj
            rw [sEq_eq] at hj
            cases hso : strEq out ⟨⟨[]⟩⟩ with
            | true => rw [hso] at hj; exact br_t rfl hj
            | false => rw [hso] at hj; exact br_f rfl hj
          rw [if_neg hd1] at hr
          refine br_t (by simpa using hd1) (ptr_i (rd_P (rdC_of q1 (by rfl)) (call_i (t_Up q2 _ (app_I ?_)))))
          refine ptr_i (rd_P (rdC_of q1 (by rfl)) (call_i (s_Names q2 _ (names_ok hI hB hN _) ?_)))
          intro x τ1 g1' hx
          refine app_L ?_
          have hdu : (A.deep f (A.upOf dir)).isSome = true := by
            unfold AT.deep at hd
            rw [if_neg hd1] at hd
            cases hq : A.deep f (A.upOf dir) with
            | none => rw [hq] at hd; cases hd
            | some _ => rfl
          have hnl := names_len (d := A.upOf dir) hB
          refine loop_i ?_
          intro R2 hR2
          have key2 : ∀ (l : List ByteArray) (i : Nat) (out : ByteArray), (A.names (A.upOf dir)).drop i = l → out.size + l.length * 60 + f * (60 * N) ≤ 1000000000000000 → res = (0, if sEq (A.realUp f (A.upOf dir) (l.foldl (fun o n => if (A.find (A.upOf dir) n).getD 0 = dir then (⟨⟨[47]⟩⟩ ++ n) ++ o else o) out)) ⟨⟨[]⟩⟩ then ⟨⟨[47]⟩⟩ else A.realUp f (A.upOf dir) (l.foldl (fun o n => if (A.find (A.upOf dir) n).getD 0 = dir then (⟨⟨[47]⟩⟩ ++ n) ++ o else o) out)) → R2 (some ⟨bf, 0, none⟩) out dir (A.upOf dir) x ((x.len : Nat) : Int) (i : Int) τ1 := by
            intro l
            induction l with
            | nil =>
              intro i out hd' hsz' hr'
              have hge : (A.names (A.upOf dir)).length ≤ i := by simpa using hd'
              refine hR2 _ _ _ _ _ _ _ _ ?_
              refine br_f (by rw [hx.1]; simp only [decide_eq_false_iff_not]; omega) ?_
              exact ihf _ _ τ1 (hI.isDir_up hdir) hdu (by simp only [List.length_nil] at hsz'; omega) (hg.trans g1') hr'
            | cons s r ihl =>
              intro i out hd' hsz' hr'
              obtain ⟨hs, hlt, hd''⟩ := drop_get hd'
              obtain ⟨g, cur, hb, hc, hcv⟩ := hx.at hs
              have hss := names_size hI (List.mem_of_getElem? hs)
              simp only [List.length_cons] at hsz'
              refine hR2 _ _ _ _ _ _ _ _ ?_
              refine br_t (by rw [hx.1]; simp only [decide_eq_true_eq]; omega) ?_
              refine j_i (fun j => j (some ⟨bf, 0, none⟩) (if (A.find (A.upOf dir) s).getD 0 = dir then (⟨⟨[47]⟩⟩ ++ s) ++ out else out) dir (A.upOf dir) x ((x.len : Nat) : Int) (i : Int) τ1) ?_ ?_
              · rw [wrap_id (x := (i : Int) + 1) (by omega) (by omega)]
                refine ihl (i + 1) _ hd'' ?_ hr'
                split
                · simp only [ByteArray.size_append]
                  have : (⟨⟨[47]⟩⟩ : ByteArray).size = 1 := rfl
                  omega
                · omega
              · intro j hj
                rw [hb]
                refine ptr_i (if_i ⟨by omega, by rw [hx.1]; omega⟩ (rd_S (rdC_of hc (by simpa using hcv)) ?_))
                obtain ⟨bt, B0, q1, q2, q3, q4⟩ := hF.gr (hg.trans g1')
                refine ptr_i (rd_P (rdC_of q1 (by rfl)) (call_i (t_Find q2 _ _ (app_IB ?_))))
                have h1 : (⟨⟨[47]⟩⟩ : ByteArray).size = 1 := rfl
                by_cases hf : (A.find (A.upOf dir) s).getD 0 = dir
                · rw [if_pos hf] at hj
                  refine br_t (by simpa using hf) (if_i (by omega) (if_i (by rw [ByteArray.size_append]; omega) hj))
                · rw [if_neg hf] at hj
                  exact br_f (by simpa using hf) hj
          refine key2 (A.names (A.upOf dir)) 0 out rfl ?_ hr
          have hm : (f + 1) * (60 * N) = f * (60 * N) + 60 * N := by rw [Nat.add_mul, Nat.one_mul]
          omega
      obtain ⟨d, hd13, _⟩ := hI.deep13 hdir
      exact key 13 dir out σ2 hdir (by rw [hd13]; rfl) (by omega) hg2.gr hr
    · intro j hj
      refine rd_I (rdC_of k (by rfl)) (call_i (s_kind hF2 _ (app_I ?_)))
      by_cases hk : A.kind p.ino = 2
      · have hif : (if A.kind p.ino ≠ 2 then A.realUp 13 p.dir (⟨⟨[47]⟩⟩ ++ p.name) else A.realUp 13 p.ino ⟨⟨[]⟩⟩) = A.realUp 13 p.ino ⟨⟨[]⟩⟩ := if_neg (by simpa using hk)
        rw [hif] at hres
        refine br_f (by simpa using hk) (hj ⟨⟨[]⟩⟩ p.ino (kind_dir hk) (by decide) hres.symm)
      · have hif : (if A.kind p.ino ≠ 2 then A.realUp 13 p.dir (⟨⟨[47]⟩⟩ ++ p.name) else A.realUp 13 p.ino ⟨⟨[]⟩⟩) = A.realUp 13 p.dir (⟨⟨[47]⟩⟩ ++ p.name) := if_pos hk
        rw [hif] at hres
        obtain ⟨hd, hcase⟩ := hpl
        have hnm : p.name.size ≤ 56 := by
          rcases hcase with ⟨h1, _⟩ | ⟨_, _, h, _⟩
          · rw [h1]; decide
          · exact h
        have h1 : (⟨⟨[47]⟩⟩ : ByteArray).size = 1 := rfl
        refine br_t (by simpa using hk) (rd_S (rdC_of k (by rfl)) (if_i (by show _ + p.name.size ≤ _; omega) (rd_I (rdC_of k (by rfl)) ?_)))
        exact hj _ p.dir hd (by rw [ByteArray.size_append]; show _ + p.name.size ≤ _; omega) hres.symm
end Go.Proofs.YtlpcehbfoogejaaGreatDoor

/- A TABLE OF INODES: writing, modes, other entries, letting go: what always holds stays so. -/
namespace Go.Wk
open Go Go.HL
variable {A : AT}
/-- an inode is changed, but not what it names, nor its kind -/
theorem Inv.mod {N : Nat} (h : Inv A) (hb : Bd N A) {i : Int} {n n' : AN} (hn : A.get i = some n) (h1 : n'.kind = n.kind) (h2 : n'.up = n.up) (h3 : n'.ents = n.ents) (h4 : likeE n'.kind n'.mode n'.data = 0) (h5 : n'.links = n.links) {ub : Int} (hub : ub = A.ub + n'.data.size - n.data.size) (hq : ub ≤ A.qb) :
    Inv { A.set i n' with ub := ub } ∧ Bd N { A.set i n' with ub := ub } := by
  have hG : ∀ j, ({ A.set i n' with ub := ub } : AT).get j = if j = i then some n' else A.get j := fun j => AT.get_set A i j n'
  have hc : ∀ j m, ({ A.set i n' with ub := ub } : AT).get j = some m → ∃ m0, A.get j = some m0 ∧ m.kind = m0.kind ∧ m.up = m0.up ∧ m.ents = m0.ents ∧ m.links = m0.links ∧ likeE m.kind m.mode m.data = 0 := by
    intro j m hm
    rw [hG] at hm
    by_cases e : j = i
    · rw [if_pos e] at hm; cases hm; subst e; exact ⟨n, hn, h1, h2, h3, h5, h4⟩
    · rw [if_neg e] at hm; exact ⟨m, hm, rfl, rfl, rfl, rfl, h.like j m hm⟩
  have hx : ∀ j m, A.get j = some m → ∃ m', ({ A.set i n' with ub := ub } : AT).get j = some m' ∧ m'.kind = m.kind ∧ m'.up = m.up ∧ m'.ents = m.ents ∧ m'.links = m.links := by
    intro j m hm
    rw [hG]
    by_cases e : j = i
    · subst e; rw [if_pos rfl]; rw [hn] at hm; cases hm; exact ⟨n', rfl, h1, h2, h3, h5⟩
    · rw [if_neg e]; exact ⟨m, hm, rfl, rfl, rfl, rfl⟩
  have hsum : ∀ f : AN → Nat, sumF f (A.set i n').nodes + f n = sumF f A.nodes + f n' := by
    intro f
    have := AT.sum_set A f i n'
    rw [hn] at this; simpa using this
  have hrefs : ∀ j, ({ A.set i n' with ub := ub } : AT).refs j = A.refs j := by
    intro j
    have := hsum (cntE j)
    have e : cntE j n' = cntE j n := by unfold cntE; rw [h3]
    show sumF (cntE j) (A.set i n').nodes = sumF (cntE j) A.nodes
    omega
  have hupO : ∀ k, A.isDir k → ({ A.set i n' with ub := ub } : AT).upOf k = A.upOf k := by
    rintro k ⟨m, hm, _⟩
    obtain ⟨m', q1, _, q3, _⟩ := hx k m hm
    unfold AT.upOf; rw [hm, q1]; simp [q3]
  refine ⟨⟨?_, ?_, ?_, ?_, ?_, ?_, ?_, ?_, ?_, ?_, ?_, ?_, ?_⟩, ⟨?_, ?_, ?_⟩⟩
  · exact nodup_up h.nodup
  · intro j m hm; obtain ⟨m0, q1, _, _, q4, _⟩ := hc j m hm; rw [q4]; exact h.enod j m0 q1
  · obtain ⟨r, r1, r2, r3⟩ := h.root
    obtain ⟨m', q1, q2, q3, _⟩ := hx 1 r r1
    exact ⟨m', q1, by rw [q2, r2], by rw [q3, r3]⟩
  · intro j m hm; obtain ⟨m0, q1, _⟩ := hc j m hm; exact h.low j m0 q1
  · intro j m hm; obtain ⟨m0, _, _, _, _, _, q⟩ := hc j m hm; exact q
  · intro j m hm hk; obtain ⟨m0, q1, q2, _, q4, _⟩ := hc j m hm; rw [q4]; exact h.file j m0 q1 (by rw [← q2]; exact hk)
  · intro j m s t hm hs
    obtain ⟨m0, q1, _, _, q4, _⟩ := hc j m hm
    rw [q4] at hs
    obtain ⟨a1, a2, m1, a3, a4⟩ := h.ent j m0 s t q1 hs
    obtain ⟨m', b1, b2, b3, _⟩ := hx t m1 a3
    exact ⟨a1, a2, m', b1, fun hk => by rw [b3]; exact a4 (by rw [← b2]; exact hk)⟩
  · intro j m hm hj
    obtain ⟨m0, q1, q2, _, _, q5, _⟩ := hc j m hm
    rw [hrefs, q2, q5]; exact h.links j m0 q1 hj
  · rintro k ⟨m, hm, hk⟩
    obtain ⟨m0, q1, q2, _⟩ := hc k m hm
    have hd : A.isDir k := ⟨m0, q1, by rw [← q2]; exact hk⟩
    rw [deep_same h hupO 12 k hd]; exact h.deep k hd
  · have := hsum (fun _ => 1)
    rw [sumF_len, sumF_len] at this
    have e := h.ui
    show A.ui = (A.set i n').nodes.length
    omega
  · have := hsum (fun n => n.data.size)
    have e := h.ub
    show ub = (sumF (fun n : AN => n.data.size) (A.set i n').nodes : Nat)
    unfold AT.bytes at e
    omega
  · exact h.uq
  · exact ⟨hq, h.bq.2⟩
  · exact hb.last
  · intro j m hm; obtain ⟨m0, q1, _, _, _, q5, _⟩ := hc j m hm; rw [q5]; exact hb.links j m0 q1
  · intro j m hm; obtain ⟨m0, q1, _, _, q4, _⟩ := hc j m hm; rw [q4]; exact hb.ents j m0 q1
/-! ### Write -/
theorem likeE_file {mode : Int} {data : ByteArray} {d : ByteArray} (h : likeE 1 mode d = 0) : likeE 1 mode data = 0 := by
  unfold likeE kindOkE at h ⊢
  simpa [lk] using h
theorem writeR_ok {N : Nat} (h : Inv A) (hb : Bd N A) (ino : Int) (data : ByteArray) (hs : data.size < 4611686018427387904) : Inv (A.writeR ino data).2 ∧ Bd N (A.writeR ino data).2 ∧ ((A.writeR ino data).1 ≠ 0 → (A.writeR ino data).2 = A) ∧ (A.writeR ino data).2.qi = A.qi ∧ (A.writeR ino data).2.qb = A.qb := by
  unfold AT.writeR
  by_cases he : A.writeE ino data = 0
  case neg => rw [if_neg he]; exact ⟨h, hb, fun _ => rfl, rfl, rfl⟩
  rw [if_pos he]
  unfold AT.writeE at he
  obtain ⟨_, he⟩ := AT.firstE_z he
  obtain ⟨h1, he⟩ := AT.firstE_z he
  obtain ⟨h2, _⟩ := AT.firstE_z he
  obtain ⟨n, hn, hk⟩ := AT.fileE_z h1
  obtain ⟨_, hr⟩ := roomE_z h2
  have hsz := h.size_le hn
  have hub := h.ub_pos
  have hq := h.bq
  rw [hn] at hr
  simp only [Option.map_some, Option.getD_some] at hr
  have e1 : A.written ino data = { A.set ino { n with data := data } with ub := wr (A.ub + wr ((data.size : Int) - n.data.size)) } := by unfold AT.written; rw [hn]
  have w1 : wr ((data.size : Int) - n.data.size) = (data.size : Int) - n.data.size := wr_id (by omega) (by omega)
  rw [w1] at hr
  have w2 : wr (A.ub + ((data.size : Int) - n.data.size)) = A.ub + data.size - n.data.size := by rw [wr_id (by omega) (by omega)]; omega
  rw [w2] at hr
  rw [e1, w1, w2]
  have hlike : likeE n.kind n.mode data = 0 := by
    have := h.like ino n hn
    rw [hk] at this ⊢
    exact likeE_file this
  obtain ⟨a, b⟩ := h.mod hb hn (n' := { n with data := data }) rfl rfl rfl hlike rfl rfl hr
  exact ⟨a, b, fun h => absurd rfl h, rfl, rfl⟩
/-! ### Chmod -/
theorem likeE_mode {k m m' : Int} {d : ByteArray} (h : likeE k m d = 0) (h1 : 0 ≤ m' ∧ m' ≤ 511) : likeE k m' d = 0 := by
  unfold likeE at h ⊢
  by_cases hk : kindOkE k d = true
  · simp [hk, h1]
  · simp [hk] at h
theorem chmodR_ok {N : Nat} (h : Inv A) (hb : Bd N A) (ino mode : Int) : Inv (A.chmodR ino mode).2 ∧ Bd N (A.chmodR ino mode).2 ∧ ((A.chmodR ino mode).1 ≠ 0 → (A.chmodR ino mode).2 = A) ∧ (A.chmodR ino mode).2.qi = A.qi ∧ (A.chmodR ino mode).2.qb = A.qb := by
  unfold AT.chmodR
  by_cases he : A.chmodE ino mode = 0
  case neg => rw [if_neg he]; exact ⟨h, hb, fun _ => rfl, rfl, rfl⟩
  rw [if_pos he]
  unfold AT.chmodE at he
  obtain ⟨_, he⟩ := AT.firstE_z he
  obtain ⟨h1, he⟩ := AT.firstE_z he
  obtain ⟨h2, _⟩ := AT.firstE_z he
  have hm : 0 ≤ mode ∧ mode ≤ 511 := by
    by_cases hm : 0 ≤ mode ∧ mode ≤ 511
    · exact hm
    · rw [if_neg hm] at h1; cases h1
  cases hn : A.get ino with
  | none => rw [hn] at h2; simp at h2
  | some n =>
    have e1 : A.chmoded ino mode = { A.set ino { n with mode := mode } with ub := A.ub } := by unfold AT.chmoded AT.mod; rw [hn]; rfl
    rw [e1]
    obtain ⟨a, b⟩ := h.mod hb hn (n' := { n with mode := mode }) (ub := A.ub) rfl rfl rfl (likeE_mode (h.like ino n hn) hm) rfl (by show A.ub = A.ub + n.data.size - n.data.size; omega) h.bq.1
    exact ⟨a, b, fun h => absurd rfl h, rfl, rfl⟩
/-! ### Unlink -/
theorem unlinkE_z {dir : Int} {name : ByteArray} (he : A.unlinkE dir name = 0) : A.isDir dir ∧ ∃ j, A.find dir name = some j ∧ ∀ m, A.get j = some m → m.ents = [] := by
  unfold AT.unlinkE at he
  obtain ⟨_, he⟩ := AT.firstE_z he
  obtain ⟨h1, he⟩ := AT.firstE_z he
  obtain ⟨h2, he⟩ := AT.firstE_z he
  obtain ⟨h3, _⟩ := AT.firstE_z he
  refine ⟨AT.dirE_z h1, ?_⟩
  cases hf : A.find dir name with
  | none => rw [hf] at h2; simp at h2
  | some j =>
    refine ⟨j, rfl, fun m hm => ?_⟩
    rw [hf] at h3
    simp only [Option.getD_some, hm, Option.map_some] at h3
    by_cases hl : m.ents.length = 0
    · exact List.eq_nil_of_length_eq_zero hl
    · rw [if_neg hl] at h3; cases h3
theorem unlinkR_ok {N : Nat} (h : Inv A) (hb : Bd N A) (hN : N < 4611686018427387904) (dir : Int) (name : ByteArray) : Inv (A.unlinkR dir name).2 ∧ Bd N (A.unlinkR dir name).2 ∧ ((A.unlinkR dir name).1 ≠ 0 → (A.unlinkR dir name).2 = A) ∧ (A.unlinkR dir name).2.qi = A.qi ∧ (A.unlinkR dir name).2.qb = A.qb := by
  unfold AT.unlinkR
  by_cases he : A.unlinkE dir name = 0
  case neg => rw [if_neg he]; exact ⟨h, hb, fun _ => rfl, rfl, rfl⟩
  rw [if_pos he]
  obtain ⟨⟨nd, hd, hd2⟩, ino, hf, hem⟩ := unlinkE_z he
  obtain ⟨nd', hd', _, hlk, hi1, nn, hnn, hup⟩ := h.find hf
  rw [hd] at hd'; cases hd'
  have hens := hem nn hnn
  have hne : ino ≠ dir := by
    intro e; subst e; rw [hd] at hnn; cases hnn
    rw [hens] at hlk; simp [lk] at hlk
  obtain ⟨hl1, hl2, hl3⟩ := h.links ino nn hnn hi1
  -- the table with the entry gone and one link less
  have e1 : A.ent dir (rm name) = A.set dir { nd with ents := rm name nd.ents } := by unfold AT.ent; rw [hd]
  have g1 : (A.set dir { nd with ents := rm name nd.ents }).get ino = some nn := by rw [AT.get_set_ne _ _ hne]; exact hnn
  have hlb : nn.links ≤ N := hb.links ino nn hnn
  have wl : wr (nn.links - 1) = nn.links - 1 := wr_id (by omega) (by omega)
  let A1 : AT := (A.set dir { nd with ents := rm name nd.ents }).set ino { nn with links := nn.links - 1 }
  have e2 : A.unlinked dir name = if nn.links - 1 = 0 then { A1 with nodes := rm ino A1.nodes, ui := wr (A.ui - 1), ub := wr (A.ub - nn.data.size) } else A1 := by
    unfold AT.unlinked
    rw [hf]
    simp only [Option.getD_some]
    rw [e1]
    unfold AT.mod
    rw [g1]
    simp only
    rw [AT.get_set_self, wl]
    by_cases hz : nn.links - 1 = 0
    · rw [if_pos hz]
      have : (nn.links - 1 == 0) = true := by simpa using hz
      simp only [this]; rfl
    · rw [if_neg hz]
      have : (nn.links - 1 == 0) = false := by simpa using hz
      simp only [this]; rfl
  have hG1 : ∀ j, A1.get j = if j = ino then some { nn with links := nn.links - 1 } else if j = dir then some { nd with ents := rm name nd.ents } else A.get j := by
    intro j; show ((A.set dir _).set ino _).get j = _; rw [AT.get_set, AT.get_set]
  have hsum : ∀ f : AN → Nat, sumF f A1.nodes + f nd + f nn = sumF f A.nodes + f { nd with ents := rm name nd.ents } + f { nn with links := nn.links - 1 } := by
    intro f
    have q1 := AT.sum_set (A.set dir { nd with ents := rm name nd.ents }) f ino { nn with links := nn.links - 1 }
    have q2 := AT.sum_set A f dir { nd with ents := rm name nd.ents }
    rw [g1] at q1; rw [hd] at q2
    simp only [Option.map_some, Option.getD_some] at q1 q2
    show sumF f ((A.set dir { nd with ents := rm name nd.ents }).set ino { nn with links := nn.links - 1 }).nodes + f nd + f nn = _
    omega
  have hcE : ∀ j, cntE j { nd with ents := rm name nd.ents } + one j ino = cntE j nd := by
    intro j
    have := sumF_rm (one j) name nd.ents
    rw [hlk] at this
    simpa [cntE] using this
  have hrefs : ∀ j, A1.refs j + one j ino = A.refs j := by
    intro j
    have := hsum (cntE j)
    have e : cntE j { nn with links := nn.links - 1 } = cntE j nn := rfl
    have := hcE j
    unfold AT.refs
    omega
  have hN1 : (keysL A1.nodes).Nodup := nodup_up (nodup_up h.nodup)
  -- the end result's inodes
  let Z := A.unlinked dir name
  have hZ : ∀ j m, Z.get j = some m → (j = ino ∧ m = { nn with links := nn.links - 1 } ∧ nn.links - 1 ≠ 0) ∨ (j = dir ∧ m = { nd with ents := rm name nd.ents }) ∨ (j ≠ ino ∧ j ≠ dir ∧ A.get j = some m) := by
    intro j m hm
    have hm : (A.unlinked dir name).get j = some m := hm
    rw [e2] at hm
    by_cases hz : nn.links - 1 = 0
    · rw [if_pos hz] at hm
      have hm : lk j (rm ino A1.nodes) = some m := hm
      rw [lk_rm hN1] at hm
      by_cases e : j = ino
      · subst e; simp at hm
      · have : (j == ino) = false := by simpa using e
        rw [this] at hm
        have hm : A1.get j = some m := hm
        rw [hG1, if_neg e] at hm
        by_cases e' : j = dir
        · rw [if_pos e'] at hm; cases hm; exact .inr (.inl ⟨e', rfl⟩)
        · rw [if_neg e'] at hm; exact .inr (.inr ⟨e, e', hm⟩)
    · rw [if_neg hz] at hm
      rw [hG1] at hm
      by_cases e : j = ino
      · rw [if_pos e] at hm; cases hm; exact .inl ⟨e, rfl, hz⟩
      · rw [if_neg e] at hm
        by_cases e' : j = dir
        · rw [if_pos e'] at hm; cases hm; exact .inr (.inl ⟨e', rfl⟩)
        · rw [if_neg e'] at hm; exact .inr (.inr ⟨e, e', hm⟩)
  have hXn : ∀ j m, A.get j = some m → j ≠ ino → ∃ m', Z.get j = some m' ∧ m'.kind = m.kind ∧ m'.up = m.up ∧ m'.links = m.links := by
    intro j m hm hj
    show ∃ m', (A.unlinked dir name).get j = some m' ∧ _
    have key : ∃ m', A1.get j = some m' ∧ m'.kind = m.kind ∧ m'.up = m.up ∧ m'.links = m.links := by
      rw [hG1, if_neg hj]
      by_cases e' : j = dir
      · subst e'; rw [if_pos rfl]; rw [hd] at hm; cases hm; exact ⟨_, rfl, rfl, rfl, rfl⟩
      · rw [if_neg e']; exact ⟨m, hm, rfl, rfl, rfl⟩
    obtain ⟨m', q1, q2⟩ := key
    refine ⟨m', ?_, q2⟩
    rw [e2]
    by_cases hz : nn.links - 1 = 0
    · rw [if_pos hz]
      show lk j (rm ino A1.nodes) = some m'
      rw [lk_rm hN1]
      have : (j == ino) = false := by simpa using hj
      rw [this]; exact q1
    · rw [if_neg hz]; exact q1
  have hlz : nn.links - 1 = 0 ↔ A.refs ino = 1 := by omega
  have hone : one ino ino = 1 := by unfold one; simp
  have hZr : ∀ j, Z.refs j + one j ino = A.refs j := by
    intro j
    show (A.unlinked dir name).refs j + _ = _
    rw [e2]
    by_cases hz : nn.links - 1 = 0
    · rw [if_pos hz]
      have q := sumF_rm (cntE j) ino A1.nodes
      have g2 : lk ino A1.nodes = some { nn with links := nn.links - 1 } := by have := hG1 ino; rw [if_pos rfl] at this; exact this
      rw [g2] at q
      have e0 : cntE j { nn with links := nn.links - 1 } = 0 := by unfold cntE; simp only; rw [hens]; rfl
      simp only [Option.map_some, Option.getD_some, e0] at q
      have := hrefs j
      unfold AT.refs at this ⊢
      show sumF (cntE j) (rm ino A1.nodes) + _ = _
      omega
    · rw [if_neg hz]; exact hrefs j
  -- nothing that stays names what goes
  have hgone : nn.links - 1 = 0 → ∀ j m s, Z.get j = some m → lk s m.ents ≠ some ino := by
    intro hz j m s hm hs
    have h0 : Z.refs ino = 0 := by have := hZr ino; rw [hone] at this; omega
    have hnd : (keysL Z.nodes).Nodup := by
      show (keysL (A.unlinked dir name).nodes).Nodup
      rw [e2, if_pos hz]; exact nodup_rm hN1
    have a := sumF_ge (f := cntE ino) (show lk j Z.nodes = some m from hm)
    have b := sumF_ge (f := one ino) hs
    unfold AT.refs at h0
    have : one ino ino ≤ cntE ino m := b
    omega
  have hnokid : ∀ k, A.isDir k → k ≠ 1 → A.upOf k ≠ ino := by
    intro k hk hk1 e
    obtain ⟨s, hs⟩ := h.named hk hk1
    rw [e] at hs
    unfold AT.find at hs; rw [hnn] at hs
    have hs : lk s nn.ents = some k := hs
    rw [hens] at hs; simp [lk] at hs
  have hq := h.uq
  have hq2 := h.bq
  have hui := h.ui_pos
  have hub := h.ub_pos
  have hszl := h.size_le hnn
  have hqs : Z.qi = A.qi ∧ Z.qb = A.qb ∧ Z.last = A.last := by
    show (A.unlinked dir name).qi = _ ∧ (A.unlinked dir name).qb = _ ∧ (A.unlinked dir name).last = _
    rw [e2]; split <;> exact ⟨rfl, rfl, rfl⟩
  have huse : (nn.links - 1 = 0 → Z.ui = A.ui - 1 ∧ Z.ub = A.ub - nn.data.size) ∧ (nn.links - 1 ≠ 0 → Z.ui = A.ui ∧ Z.ub = A.ub) := by
    refine ⟨fun hz => ?_, fun hz => ?_⟩
    · show (A.unlinked dir name).ui = _ ∧ (A.unlinked dir name).ub = _
      rw [e2, if_pos hz]
      exact ⟨wr_id (by omega) (by omega), wr_id (by omega) (by omega)⟩
    · show (A.unlinked dir name).ui = _ ∧ (A.unlinked dir name).ub = _
      rw [e2, if_neg hz]; exact ⟨rfl, rfl⟩
  have hZsum : ∀ f : AN → Nat, (f { nd with ents := rm name nd.ents } = f nd) → f { nn with links := nn.links - 1 } = f nn → (nn.links - 1 = 0 → sumF f Z.nodes + f nn = sumF f A.nodes) ∧ (nn.links - 1 ≠ 0 → sumF f Z.nodes = sumF f A.nodes) := by
    intro f hf1 hf2
    have q := hsum f
    rw [hf1, hf2] at q
    refine ⟨fun hz => ?_, fun hz => ?_⟩
    · show sumF f (A.unlinked dir name).nodes + _ = _
      rw [e2, if_pos hz]
      have q2 := sumF_rm f ino A1.nodes
      have g2 : lk ino A1.nodes = some { nn with links := nn.links - 1 } := by have := hG1 ino; rw [if_pos rfl] at this; exact this
      rw [g2] at q2
      simp only [Option.map_some, Option.getD_some, hf2] at q2
      show sumF f (rm ino A1.nodes) + _ = _
      omega
    · show sumF f (A.unlinked dir name).nodes = _
      rw [e2, if_neg hz]; omega
  show Inv Z ∧ Bd N Z ∧ ((0 : Int) ≠ 0 → Z = A) ∧ Z.qi = A.qi ∧ Z.qb = A.qb
  refine ⟨⟨?_, ?_, ?_, ?_, ?_, ?_, ?_, ?_, ?_, ?_, ?_, ?_, ?_⟩, ⟨?_, ?_, ?_⟩, fun h => absurd rfl h, hqs.1, hqs.2.1⟩
  · show (keysL (A.unlinked dir name).nodes).Nodup
    rw [e2]
    split
    · exact nodup_rm hN1
    · exact hN1
  · intro j m hm
    rcases hZ j m hm with ⟨_, rfl, _⟩ | ⟨_, rfl⟩ | ⟨_, _, hm⟩
    · exact h.enod ino nn hnn
    · exact nodup_rm (h.enod dir nd hd)
    · exact h.enod j m hm
  · obtain ⟨r, r1, r2, r3⟩ := h.root
    obtain ⟨m', q1, q2, q3, _⟩ := hXn 1 r r1 (fun e => hi1 e.symm)
    exact ⟨m', q1, by rw [q2, r2], by rw [q3, r3]⟩
  · intro j m hm
    rw [hqs.2.2]
    rcases hZ j m hm with ⟨rfl, _, _⟩ | ⟨rfl, _⟩ | ⟨_, _, hm⟩
    · exact h.low _ nn hnn
    · exact h.low _ nd hd
    · exact h.low j m hm
  · intro j m hm
    rcases hZ j m hm with ⟨_, rfl, _⟩ | ⟨_, rfl⟩ | ⟨_, _, hm⟩
    · exact h.like ino nn hnn
    · exact h.like dir nd hd
    · exact h.like j m hm
  · intro j m hm hk
    rcases hZ j m hm with ⟨_, rfl, _⟩ | ⟨_, rfl⟩ | ⟨_, _, hm⟩
    · exact hens
    · exact absurd hd2 hk
    · exact h.file j m hm hk
  · intro j m s t hm hs
    have hold : ∃ m0, A.get j = some m0 ∧ lk s m0.ents = some t := by
      rcases hZ j m hm with ⟨rfl, rfl, _⟩ | ⟨rfl, rfl⟩ | ⟨_, _, hm⟩
      · exact ⟨nn, hnn, hs⟩
      · simp only [lk_rm (h.enod j nd hd)] at hs
        by_cases e : (s == name) = true
        · rw [if_pos e] at hs; cases hs
        · rw [if_neg e] at hs; exact ⟨nd, hd, hs⟩
      · exact ⟨m, hm, hs⟩
    obtain ⟨m0, q1, q2⟩ := hold
    obtain ⟨a1, a2, m1, a3, a4⟩ := h.ent j m0 s t q1 q2
    refine ⟨a1, a2, ?_⟩
    by_cases e : t = ino
    · subst e
      by_cases hz : nn.links - 1 = 0
      · exact absurd hs (hgone hz j m s hm)
      · rw [hnn] at a3; cases a3
        have : Z.get t = some { nn with links := nn.links - 1 } := by
          show (A.unlinked dir name).get t = _
          rw [e2, if_neg hz, hG1, if_pos rfl]
        exact ⟨_, this, a4⟩
    · obtain ⟨m', b1, b2, b3, _⟩ := hXn t m1 a3 e
      exact ⟨m', b1, fun hk => by rw [b3]; exact a4 (by rw [← b2]; exact hk)⟩
  · intro j m hm hj
    have hr := hZr j
    rcases hZ j m hm with ⟨rfl, rfl, hz⟩ | ⟨rfl, rfl⟩ | ⟨hji, _, hm⟩
    · rw [hone] at hr
      refine ⟨?_, by omega, fun hk => ?_⟩
      · show nn.links - 1 = _; omega
      · have := hl3 hk; omega
    · have : one j ino = 0 := by unfold one; rw [if_neg hne]
      rw [this] at hr
      have := h.links j nd hd hj
      simp only at this ⊢
      rw [← hr] at this; exact this
    · have : one j ino = 0 := by unfold one; rw [if_neg (fun e => hji e.symm)]
      rw [this] at hr
      have := h.links j m hm hj
      rw [← hr] at this; exact this
  · rintro k ⟨m, hm, hk⟩
    have hkd : A.isDir k ∧ (k ≠ ino) := by
      rcases hZ k m hm with ⟨rfl, rfl, hz⟩ | ⟨rfl, rfl⟩ | ⟨hji, _, hm⟩
      · exfalso; exact hz (hlz.2 (hl3 hk))
      · exact ⟨⟨nd, hd, hk⟩, hne.symm⟩
      · exact ⟨⟨m, hm, hk⟩, hji⟩
    have hdd : Z.deep 12 k = A.deep 12 k := by
      refine deep_on (S := fun k => A.isDir k ∧ k ≠ ino) (fun k hk h1 => ⟨h.isDir_up hk.1, hnokid k hk.1 h1⟩) (fun k hk h1 => ?_) 12 k hkd
      obtain ⟨⟨m, hm, _⟩, hki⟩ := hk
      obtain ⟨m', q1, _, q3, _⟩ := hXn k m hm hki
      unfold AT.upOf; rw [hm, q1]; simp [q3]
    rw [hdd]; exact h.deep k hkd.1
  · have q := hZsum (fun _ => 1) rfl rfl
    rw [sumF_len, sumF_len] at q
    have e := h.ui
    by_cases hz : nn.links - 1 = 0
    · rw [(huse.1 hz).1]; have := q.1 hz; omega
    · rw [(huse.2 hz).1]; have := q.2 hz; omega
  · have q := hZsum (fun n => n.data.size) rfl rfl
    have e := h.ub
    unfold AT.bytes at e
    show Z.ub = (sumF (fun n : AN => n.data.size) Z.nodes : Nat)
    by_cases hz : nn.links - 1 = 0
    · rw [(huse.1 hz).2]; have := q.1 hz; omega
    · rw [(huse.2 hz).2]; have := q.2 hz; omega
  · rw [hqs.1]
    by_cases hz : nn.links - 1 = 0
    · rw [(huse.1 hz).1]; omega
    · rw [(huse.2 hz).1]; exact hq
  · rw [hqs.2.1]
    by_cases hz : nn.links - 1 = 0
    · rw [(huse.1 hz).2]; omega
    · rw [(huse.2 hz).2]; exact hq2
  · rw [hqs.2.2]; exact hb.last
  · intro j m hm
    rcases hZ j m hm with ⟨_, rfl, _⟩ | ⟨rfl, rfl⟩ | ⟨_, _, hm⟩
    · show nn.links - 1 ≤ N; omega
    · exact hb.links _ nd hd
    · exact hb.links j m hm
  · intro j m hm
    rcases hZ j m hm with ⟨_, rfl, _⟩ | ⟨rfl, rfl⟩ | ⟨_, _, hm⟩
    · exact hb.ents _ nn hnn
    · have := hb.ents _ nd hd
      have := (rm_sub (k := name) (l := nd.ents)).length_le
      show (rm name nd.ents).length ≤ N; omega
    · exact hb.ents j m hm
theorem newT_ok {qi qb : Int} (h : newOk qi qb = true) : Inv (newT qi qb) ∧ Bd 1 (newT qi qb) := by
  have hq : 1 ≤ qi ∧ qi ≤ 1048576 ∧ 0 ≤ qb ∧ qb ≤ 1073741824 := by
    unfold newOk at h
    simp at h
    omega
  have hg : ∀ i n, (newT qi qb).get i = some n → i = 1 ∧ n = ⟨2, 493, ⟨⟨[]⟩⟩, 1, 1, []⟩ := by
    intro i n hn
    have hn : lk i [((1 : Int), (⟨2, 493, ⟨⟨[]⟩⟩, 1, 1, []⟩ : AN))] = some n := hn
    simp only [lk] at hn
    cases hb : (i == 1) with
    | true => rw [hb] at hn; cases hn; exact ⟨by simpa using hb, rfl⟩
    | false => rw [hb] at hn; cases hn
  refine ⟨⟨?_, ?_, ?_, ?_, ?_, ?_, ?_, ?_, ?_, rfl, rfl, ⟨hq.1, hq.2.1⟩, ⟨hq.2.2.1, hq.2.2.2⟩⟩, ⟨?_, ?_, ?_⟩⟩
  · show [(1 : Int)].Nodup; simp
  · intro i n hn; obtain ⟨_, rfl⟩ := hg i n hn; exact List.nodup_nil
  · exact ⟨_, rfl, rfl, rfl⟩
  · intro i n hn; obtain ⟨rfl, rfl⟩ := hg i n hn; show (1 : Int) ≤ 1 ∧ (1 : Int) ≤ 1; omega
  · intro i n hn; obtain ⟨_, rfl⟩ := hg i n hn; rfl
  · intro i n hn; obtain ⟨_, rfl⟩ := hg i n hn; intro _; rfl
  · intro i n s j hn hs; obtain ⟨_, rfl⟩ := hg i n hn; simp [lk] at hs
  · intro i n hn h1; exact absurd (hg i n hn).1 h1
  · rintro i ⟨n, hn, _⟩; obtain ⟨rfl, _⟩ := hg i n hn; exact ⟨1, rfl⟩
  · show (1 : Int) ≤ (1 : Nat); omega
  · intro i n hn; obtain ⟨_, rfl⟩ := hg i n hn; show (1 : Int) ≤ (1 : Nat); omega
  · intro i n hn; obtain ⟨_, rfl⟩ := hg i n hn; show (0 : Nat) ≤ 1; omega
end Go.Wk

/- LAYING A TREE that may be, where there is room: it lies there, just so. -/
namespace Go.Wk
open Go Go.HL
mutual
def Tr.count : Tr → Nat
  | .mk _ _ _ _ kids => 1 + Tr.countRow kids
def Tr.countRow : List Tr → Nat
  | [] => 0
  | t :: r => Tr.count t + Tr.countRow r
end
mutual
def Tr.bytes : Tr → Nat
  | .mk _ _ _ d kids => d.size + Tr.bytesRow kids
def Tr.bytesRow : List Tr → Nat
  | [] => 0
  | t :: r => Tr.bytes t + Tr.bytesRow r
end
theorem Tr.count_eq (t : Tr) : t.count = 1 + Tr.countRow t.kids := by obtain ⟨n, k, e, d, kids⟩ := t; simp only [Tr.count, Tr.kids]
theorem Tr.bytes_eq (t : Tr) : t.bytes = t.data.size + Tr.bytesRow t.kids := by obtain ⟨n, k, e, d, kids⟩ := t; simp only [Tr.bytes, Tr.kids, Tr.data]
theorem Tr.may_eq (t : Tr) : t.may = if t.kind = 1 then t.kids.isEmpty else if t.kind = 3 then t.kids.isEmpty && (!t.exec && linkOk t.data) else if t.kind = 2 then !t.exec && (sEq t.data ⟨⟨[]⟩⟩ && Tr.mayRow none t.kids) else false := by
  obtain ⟨n, k, e, d, kids⟩ := t
  rw [Tr.may]; rfl
theorem fold_gr (f : Tr → Int) : ∀ (l : List Tr) (d : Int), d ≤ l.foldl (fun d x => gr d (f x)) d ∧ ∀ x ∈ l, f x ≤ l.foldl (fun d x => gr d (f x)) d := by
  intro l
  induction l with
  | nil => intro d; exact ⟨Int.le_refl _, by simp⟩
  | cons y r ih =>
    intro d
    simp only [List.foldl_cons]
    obtain ⟨h1, h2⟩ := ih (gr d (f y))
    have hg : d ≤ gr d (f y) ∧ f y ≤ gr d (f y) := by unfold gr; split <;> omega
    refine ⟨by omega, fun x hx => ?_⟩
    rcases List.mem_cons.1 hx with e | e
    · subst e; omega
    · exact h2 x e
theorem deep_stays : ∀ (m : Nat) (t : Tr), t.deep m < m → t.deep (m + 1) = t.deep m := by
  intro m
  induction m with
  | zero => intro t h; simp [Tr.deep] at h
  | succ m ih =>
    intro t h
    unfold Tr.deep at h ⊢
    by_cases hk : t.kind ≠ 2
    · rw [if_pos (.inl hk), if_pos (.inl hk)]
    · by_cases hm : m = 0
      · subst hm; rw [if_pos (.inr rfl)] at h; omega
      · have c1 : ¬ (t.kind ≠ 2 ∨ m = 0) := by rintro (h | h); exact hk h; exact hm h
        have c2 : ¬ (t.kind ≠ 2 ∨ m + 1 = 0) := by rintro (h | h); exact hk h; omega
        rw [if_neg c1] at h
        rw [if_neg c2, if_neg c1]
        have hx : ∀ x ∈ t.kids, Tr.deep (m + 1) x = Tr.deep m x := by
          intro x hx
          have := (fold_gr (fun x => 1 + Tr.deep m x) t.kids 1).2 x hx
          exact ih x (by omega)
        have key : ∀ (l : List Tr) (d : Int), (∀ x ∈ l, Tr.deep (m + 1) x = Tr.deep m x) → l.foldl (fun d x => gr d (1 + Tr.deep (m + 1) x)) d = l.foldl (fun d x => gr d (1 + Tr.deep m x)) d := by
          intro l
          induction l with
          | nil => intro d _; rfl
          | cons y r ihr => intro d h; simp only [List.foldl_cons]; rw [h y (List.mem_cons_self ..)]; exact ihr _ fun x hx => h x (List.mem_cons_of_mem _ hx)
        exact key t.kids 1 hx
theorem kid_shallow {t x : Tr} (hk : t.kind = 2) (h : t.tooDeep = false) (hx : x ∈ t.kids) : x.tooDeep = false := by
  unfold Tr.tooDeep at h ⊢
  simp only [decide_eq_false_iff_not] at h ⊢
  have h2 : t.deep 14 = t.kids.foldl (fun d x => gr d (1 + Tr.deep 13 x)) 1 := by
    rw [Tr.deep, if_neg (by rintro (h | h); exact h hk; omega)]
  have := (fold_gr (fun x => 1 + Tr.deep 13 x) t.kids 1).2 x hx
  rw [h2] at h
  rw [deep_stays 13 x (by omega)]
  omega
/-- kids that may be -/
theorem may_kids {t : Tr} (h : t.may = true) : t.kids = [] ∨ (t.kind = 2 ∧ Tr.mayRow none t.kids = true) := by
  rw [Tr.may_eq] at h
  by_cases k1 : t.kind = 1
  · rw [if_pos k1] at h; exact .inl (List.isEmpty_iff.1 h)
  · rw [if_neg k1] at h
    by_cases k3 : t.kind = 3
    · rw [if_pos k3] at h; simp only [Bool.and_eq_true] at h; exact .inl (List.isEmpty_iff.1 h.1)
    · rw [if_neg k3] at h
      by_cases k2 : t.kind = 2
      · rw [if_pos k2] at h; simp only [Bool.and_eq_true] at h; exact .inr ⟨k2, h.2.2⟩
      · rw [if_neg k2] at h; cases h
theorem mayRow_all : ∀ {l : List Tr} {p : Option ByteArray}, Tr.mayRow p l = true → ∀ x ∈ l, mayName x.name = true ∧ x.may = true := by
  intro l
  induction l with
  | nil => intro p _ x hx; simp at hx
  | cons y r ih =>
    intro p h x hx
    simp only [Tr.mayRow, Bool.and_eq_true] at h
    rcases List.mem_cons.1 hx with e | e
    · subst e; exact ⟨h.1, h.2.1⟩
    · exact ih h.2.2.2 x e
theorem may_size : ∀ t : Tr, t.may = true → t.tooDeep = false → t.size = ((t.count : Int), (t.bytes : Int)) := by
  refine Tr.ind ?_
  intro t ih hm hd
  have hsz : t.size = Tr.sizeRow t.kids (1, (t.data.size : Int)) := by obtain ⟨n, k, e, d, kids⟩ := t; simp only [Tr.size, Tr.kids, Tr.data]
  have key : ∀ (l : List Tr) (a b : Nat), (∀ x ∈ l, x ∈ t.kids) → Tr.sizeRow l ((a : Int), (b : Int)) = (((a + Tr.countRow l : Nat) : Int), ((b + Tr.bytesRow l : Nat) : Int)) := by
    intro l
    induction l with
    | nil => intro a b _; simp [Tr.sizeRow, Tr.countRow, Tr.bytesRow]
    | cons x r ihl =>
      intro a b hx
      have hx0 := hx x (List.mem_cons_self ..)
      rcases may_kids hm with h0 | ⟨hk, hrow⟩
      · rw [h0] at hx0; simp at hx0
      · have hsh := kid_shallow hk hd hx0
        have := ih x hx0 (mayRow_all hrow x hx0).2 hsh
        simp only [Tr.sizeRow, hsh, Bool.false_eq_true, if_false, this, Tr.countRow, Tr.bytesRow]
        have h2 := ihl (a + x.count) (b + x.bytes) (fun y hy => hx y (List.mem_cons_of_mem _ hy))
        simp only [Int.natCast_add] at h2 ⊢
        rw [h2, Int.add_assoc, Int.add_assoc]
  have := key t.kids 1 t.data.size (fun _ h => h)
  rw [hsz, Tr.count_eq, Tr.bytes_eq]
  exact this
/-! ### What lies there -/
mutual
def Lies (A : AT) : Tr → Int → Prop
  | .mk _ k e d kids, i => ∃ n, A.get i = some n ∧ n.kind = k ∧ n.mode = modeOf k e ∧ n.data = d ∧ n.links = 1 ∧ keysL n.ents = kids.map Tr.name ∧ LiesRow A i n.ents kids
def LiesRow (A : AT) (i : Int) (es : List (ByteArray × Int)) : List Tr → Prop
  | [] => True
  | t :: r => (∃ j, i < j ∧ lk t.name es = some j ∧ Lies A t j) ∧ LiesRow A i es r
end
theorem lies_iff {A : AT} {t : Tr} {i : Int} : Lies A t i ↔ ∃ n, A.get i = some n ∧ n.kind = t.kind ∧ n.mode = modeOf t.kind t.exec ∧ n.data = t.data ∧ n.links = 1 ∧ keysL n.ents = t.kids.map Tr.name ∧ LiesRow A i n.ents t.kids := by
  obtain ⟨nm, k, e, d, kids⟩ := t
  simp only [Lies, Tr.kind, Tr.exec, Tr.data, Tr.kids]
theorem liesRow_iff {A : AT} {i : Int} {es : List (ByteArray × Int)} : ∀ {l : List Tr}, LiesRow A i es l ↔ ∀ x ∈ l, ∃ j, i < j ∧ lk x.name es = some j ∧ Lies A x j := by
  intro l
  induction l with
  | nil => simp [LiesRow]
  | cons y r ih => simp only [LiesRow, ih, List.mem_cons, forall_eq_or_imp]
theorem Lies.frame {A A' : AT} : ∀ (t : Tr) (i : Int), Lies A t i → (∀ k n, i ≤ k → A.get k = some n → A'.get k = some n) → Lies A' t i := by
  refine Tr.ind ?_
  intro t ih i h hf
  rw [lies_iff] at h ⊢
  obtain ⟨n, h1, h2, h3, h4, h5, h6, h7⟩ := h
  refine ⟨n, hf i n (Int.le_refl _) h1, h2, h3, h4, h5, h6, ?_⟩
  rw [liesRow_iff] at h7 ⊢
  intro x hx
  obtain ⟨j, q1, q2, q3⟩ := h7 x hx
  exact ⟨j, q1, q2, ih x hx j q3 fun k n hk hn => hf k n (by omega) hn⟩
theorem leB_refl (x : List UInt8) : leB x x = true := (leB_iff x x).2 (List.le_refl x)
theorem ltB_trans {a b c : ByteArray} (h1 : ltB a b = true) (h2 : ltB b c = true) : ltB a c = true := by
  unfold ltB at *
  simp only [Bool.not_eq_true'] at *
  rw [← Bool.not_eq_true, leB_iff] at *
  intro h
  have hbc : b.data.toList ≤ c.data.toList := (List.le_total _ _).resolve_right h2
  exact h1 (List.le_trans hbc h)
theorem ltB_irrefl (a : ByteArray) : ltB a a = false := by unfold ltB; rw [leB_refl]; rfl
theorem mayRow_lt : ∀ {l : List Tr} {p : ByteArray}, Tr.mayRow (some p) l = true → ∀ x ∈ l, ltB p x.name = true := by
  intro l
  induction l with
  | nil => intro p _ x hx; simp at hx
  | cons y r ih =>
    intro p h x hx
    simp only [Tr.mayRow, Bool.and_eq_true, above] at h
    rcases List.mem_cons.1 hx with e | e
    · subst e; exact h.2.2.1
    · exact ltB_trans h.2.2.1 (ih h.2.2.2 x e)
theorem mayRow_weaken {l : List Tr} {p : Option ByteArray} (h : Tr.mayRow p l = true) : Tr.mayRow none l = true := by
  cases l with
  | nil => rfl
  | cons y r => simp only [Tr.mayRow, Bool.and_eq_true, above] at h ⊢; exact ⟨h.1, h.2.1, trivial, h.2.2.2⟩
theorem mayName_named {s : ByteArray} (h : mayName s = true) : namedE s = 0 := by
  unfold mayName at h
  simp only [Bool.and_eq_true, decide_eq_true_eq, Bool.not_eq_true'] at h
  obtain ⟨h1, h2, h3, h4, h5⟩ := h
  unfold namedE
  have h0 : sEq s ⟨⟨[]⟩⟩ = false := by
    refine sEq_false ?_
    intro e; rw [e] at h1; exact absurd h1 (by decide)
  rw [if_neg (by omega), h0, h3, h4, h5]; rfl
theorem may_like {t : Tr} (h : t.may = true) : likeE t.kind (modeOf t.kind t.exec) t.data = 0 := by
  rw [Tr.may_eq] at h
  unfold likeE kindOkE modeOf
  by_cases k1 : t.kind = 1
  · rw [k1]; cases t.exec <;> rfl
  · rw [if_neg k1] at h
    by_cases k3 : t.kind = 3
    · rw [if_pos k3] at h
      simp only [Bool.and_eq_true, Bool.not_eq_true'] at h
      rw [k3, h.2.1]
      simp [lk, h.2.2]
    · rw [if_neg k3] at h
      by_cases k2 : t.kind = 2
      · rw [if_pos k2] at h
        simp only [Bool.and_eq_true, Bool.not_eq_true'] at h
        rw [k2, h.1]
        simp [lk, h.2.1]
      · rw [if_neg k2] at h; cases h
theorem room_of {A : AT} (hI : Inv A) {n : Nat} (h1 : A.ui + 1 ≤ A.qi) (h2 : A.ub + n ≤ A.qb) : A.roomE 1 (n : Int) = 0 := by
  have q1 := hI.uq
  have q2 := hI.bq
  have q3 := hI.ui_pos
  have q4 := hI.ub_pos
  unfold AT.roomE
  rw [wr_id (by omega) (by omega), wr_id (by omega) (by omega), if_pos ⟨h1, h2⟩]
theorem countRow_total : ∀ l : List Tr, Tr.countRow l ≤ Tr.totalRow l ∧ Tr.bytesRow l ≤ Tr.totalRow l := by
  have key : ∀ t : Tr, t.count ≤ t.total ∧ t.bytes ≤ t.total := by
    refine Tr.ind ?_
    intro t ih
    have htot : 1 + t.data.size + Tr.totalRow t.kids ≤ t.total := by obtain ⟨n, k, e, d, kids⟩ := t; simp only [Tr.total, Tr.kids, Tr.data]; omega
    rw [Tr.count_eq, Tr.bytes_eq]
    have : ∀ l : List Tr, (∀ x ∈ l, x ∈ t.kids) → Tr.countRow l ≤ Tr.totalRow l ∧ Tr.bytesRow l ≤ Tr.totalRow l := by
      intro l
      induction l with
      | nil => intro _; simp [Tr.countRow, Tr.bytesRow]
      | cons x r ihl =>
        intro hx
        have a := ih x (hx x (List.mem_cons_self ..))
        have b := ihl fun y hy => hx y (List.mem_cons_of_mem _ hy)
        simp only [Tr.countRow, Tr.bytesRow, Tr.totalRow]; omega
    have := this t.kids (fun _ h => h)
    omega
  intro l
  induction l with
  | nil => simp [Tr.countRow, Tr.bytesRow]
  | cons x r ihl => have := key x; simp only [Tr.countRow, Tr.bytesRow, Tr.totalRow]; omega
/-- what laying gives -/
structure Laid (A : AT) (dir : Int) (name : ByteArray) (t : Tr) (r : Int × AT) : Prop where
  ok : r.1 = 0
  ui : r.2.ui = A.ui + t.count
  ub : r.2.ub = A.ub + t.bytes
  last : r.2.last = A.last + t.count
  lies : Lies r.2 t (A.last + 1)
  atDir : ∀ nd, A.get dir = some nd → r.2.get dir = some { nd with ents := up name (A.last + 1) nd.ents }
  old : ∀ k n, A.get k = some n → k ≠ dir → r.2.get k = some n
theorem lay_done : ∀ (t : Tr) (A : AT) (N : Nat) (dir : Int) (name : ByteArray), Inv A → Bd N A → N + t.total < 4611686018427387904 → (∀ d, A.isDir dir → A.deep 12 dir = some d → d + t.levels ≤ 12) → A.isDir dir → namedE name = 0 → A.find dir name = none → t.may = true → A.ui + t.count ≤ A.qi → A.ub + t.bytes ≤ A.qb →
    Laid A dir name t (AT.lay dir name t A) := by
  refine Tr.ind ?_
  intro t ih A N dir name hI hB hN hd hdir hnm hfn hmay hq1 hq2
  have htot : 1 + t.data.size + Tr.totalRow t.kids ≤ t.total := by obtain ⟨n, k, e, d, kids⟩ := t; simp only [Tr.total, Tr.kids, Tr.data]; omega
  have hce := t.count_eq
  have hbe := t.bytes_eq
  have hl : A.last < 4611686018427387904 := by have := hB.last; omega
  have hp := hI.last_pos
  have u1 := hI.ui_pos
  have u2 := hI.ub_pos
  have u3 := hI.uq
  have u4 := hI.bq
  have he : A.makeE dir name t.kind (modeOf t.kind t.exec) t.data = 0 := makeE_of hdir hnm (may_like hmay) hfn (room_of hI (by omega) (by omega))
  obtain ⟨h1, h2, h3⟩ := makeR_ok (dir := dir) (name := name) (kind := t.kind) (mode := modeOf t.kind t.exec) (data := t.data) hI hB (by omega) (by omega) (made_deep hI hd)
  have hrow := made_row hI hl he hd
  obtain ⟨nd, hnd, hnd2⟩ := hdir
  have hG := made_get (name := name) (kind := t.kind) (mode := modeOf t.kind t.exec) (data := t.data) hI hl hnd
  have hE := made_eq (name := name) (kind := t.kind) (mode := modeOf t.kind t.exec) (data := t.data) hI hl hnd
  have hdl := hI.low dir nd hnd
  rw [lay_eq]
  rw [makeR_z he] at h1 h2 h3 ⊢
  rw [wr_id (x := A.last + 1) (by omega) (by omega)]
  simp only at *
  have hA1 : (A.made dir name t.kind (modeOf t.kind t.exec) t.data).ui = A.ui + 1 ∧ (A.made dir name t.kind (modeOf t.kind t.exec) t.data).ub = A.ub + t.data.size ∧ (A.made dir name t.kind (modeOf t.kind t.exec) t.data).last = A.last + 1 ∧ (A.made dir name t.kind (modeOf t.kind t.exec) t.data).qi = A.qi ∧ (A.made dir name t.kind (modeOf t.kind t.exec) t.data).qb = A.qb := by
    rw [hE]
    exact ⟨wr_id (by omega) (by omega), wr_id (by omega) (by omega), rfl, rfl, rfl⟩
  have key : ∀ (l dn : List Tr) (A1 : AT) (M : Nat) (es : List (ByteArray × Int)), t.kids = dn ++ l → Inv A1 → Bd M A1 → M + Tr.totalRow l ≤ N + t.total → RowD A1 (A.last + 1) l → Grows A A1 →
      A1.get (A.last + 1) = some { newN dir t.kind (modeOf t.kind t.exec) t.data with ents := es } → keysL es = dn.map Tr.name → LiesRow A1 (A.last + 1) es dn → A.last + 1 ≤ A1.last →
      A1.last + Tr.countRow l = A.last + t.count → A1.ui + Tr.countRow l = A.ui + t.count → A1.ub + Tr.bytesRow l = A.ub + t.bytes → A1.qi = A.qi → A1.qb = A.qb →
      (∀ k n, A.get k = some n → k ≠ dir → A1.get k = some n) → A1.get dir = some { nd with ents := up name (A.last + 1) nd.ents } →
      (∃ p, Tr.mayRow p l = true) → (∀ x ∈ dn, ∀ y ∈ l, ltB x.name y.name = true) → (l ≠ [] → t.kind = 2) → Laid A dir name t (AT.layRow (A.last + 1) l (0, A1)) := by
    intro l
    induction l with
    | nil =>
      intro dn A1 M es e1 a1 a2 a3 a4 a5 a6 a7 a8 a9 a10 a11 a12 a13 a14 a15 a16 a17 a18 a19
      simp only [AT.layRow, Tr.countRow, Tr.bytesRow, List.append_nil] at *
      subst e1
      refine ⟨rfl, by show A1.ui = _; omega, by show A1.ub = _; omega, by show A1.last = _; omega, ?_, ?_, a15⟩
      · rw [lies_iff]
        exact ⟨_, a6, rfl, rfl, rfl, rfl, a7, a8⟩
      · intro nd' hnd'; rw [hnd] at hnd'; cases hnd'; exact a16
    | cons x r ihl =>
      intro dn A1 M es e1 a1 a2 a3 a4 a5 a6 a7 a8 a9 a10 a11 a12 a13 a14 a15 a16 a17 a18 a19
      simp only [Tr.countRow, Tr.bytesRow, Tr.totalRow] at *
      obtain ⟨p, hp'⟩ := a17
      simp only [Tr.mayRow, Bool.and_eq_true] at hp'
      have hk2 := a19 (by simp)
      have hxin : x ∈ t.kids := by rw [e1]; simp
      have hdirI : A1.isDir (A.last + 1) := ⟨_, a6, hk2⟩
      have hnotin : x.name ∉ keysL es := by
        rw [a7]
        intro hm
        obtain ⟨y, hy, hyn⟩ := List.mem_map.1 hm
        have := a18 y hy x (List.mem_cons_self ..)
        rw [hyn, ltB_irrefl] at this; cases this
      have hlkn : lk x.name es = none := lk_none_iff.2 hnotin
      have hfx : A1.find (A.last + 1) x.name = none := by unfold AT.find; rw [a6]; exact hlkn
      have hc1 := Tr.count_eq x
      have L := ih x hxin A1 M (A.last + 1) x.name a1 a2 (by omega) a4.head hdirI (mayName_named hp'.1) hfx hp'.2.1 (by omega) (by omega)
      obtain ⟨b1, b2, b3⟩ := lay_ok x A1 M (A.last + 1) x.name a1 a2 (by omega) a4.head
      rw [AT.layRow, if_pos rfl]
      generalize hres : AT.lay (A.last + 1) x.name x A1 = res at *
      obtain ⟨re, A2⟩ := res
      have h0 : re = 0 := L.ok
      subst h0
      have L2 : A2.ui = A1.ui + x.count := L.ui
      have L3 : A2.ub = A1.ub + x.bytes := L.ub
      have L4 : A2.last = A1.last + x.count := L.last
      have L5 : Lies A2 x (A1.last + 1) := L.lies
      have L6 : A2.get (A.last + 1) = some { newN dir t.kind (modeOf t.kind t.exec) t.data with ents := up x.name (A1.last + 1) es } := L.atDir _ a6
      have L7 : ∀ k n, A1.get k = some n → k ≠ A.last + 1 → A2.get k = some n := L.old
      have hgr2 : Grows A1 A2 := b3
      refine ihl (dn ++ [x]) A2 (M + x.total) (up x.name (A1.last + 1) es) (by rw [e1]; simp) b1 b2 (by omega) (a4.next a1 b3) (a5.trans b3) L6 ?_ ?_ (by omega) (by omega) (by omega) (by omega) (by rw [hgr2.qi]; exact a13) (by rw [hgr2.qb]; exact a14) ?_ ?_ ⟨some x.name, hp'.2.2.2⟩ ?_ (fun _ => hk2)
      · rw [keys_up_none hlkn, a7]; simp
      · rw [liesRow_iff] at a8 ⊢
        intro z hz
        rcases List.mem_append.1 hz with hz | hz
        · obtain ⟨j, q1, q2, q3⟩ := a8 z hz
          refine ⟨j, q1, ?_, q3.frame z j fun k n hk hn => L7 k n hn (by omega)⟩
          rw [lk_up]
          have : (z.name == x.name) = false := by
            cases hb : (z.name == x.name) with
            | false => rfl
            | true => rw [eq_of_beq hb, hlkn] at q2; cases q2
          rw [this]; exact q2
        · simp at hz; subst hz
          exact ⟨A1.last + 1, by omega, by rw [lk_up]; simp, L5⟩
      · intro k n hk hkd
        refine L7 k n (a15 k n hk hkd) ?_
        have := (hI.low k n hk).2; omega
      · exact L7 dir _ a16 (by omega)
      · intro y hy z hz
        rcases List.mem_append.1 hy with hy | hy
        · exact a18 y hy z (List.mem_cons_of_mem _ hz)
        · simp at hy; subst hy; exact mayRow_lt hp'.2.2.2 z hz
  have hne : A.last + 1 ≠ dir := by omega
  refine key t.kids [] (A.made dir name t.kind (modeOf t.kind t.exec) t.data) (N + 1) [] rfl h1 h2 (by omega) hrow h3 ?_ rfl ?_ (by rw [hA1.2.2.1]; omega) (by rw [hA1.2.2.1]; omega) (by rw [hA1.1]; omega) (by rw [hA1.2.1]; omega) hA1.2.2.2.1 hA1.2.2.2.2 ?_ ?_ ?_ (by simp) ?_
  · rw [hG, if_neg hne, if_pos rfl]; rfl
  · simp [LiesRow]
  · intro k n hk hkd
    rw [hG, if_neg hkd]
    have := (hI.low k n hk).2
    rw [if_neg (by omega)]; exact hk
  · rw [hG, if_pos rfl]
  · rcases may_kids hmay with h0 | ⟨_, h0⟩
    · exact ⟨none, by rw [h0]; rfl⟩
    · exact ⟨none, h0⟩
  · intro hne
    rcases may_kids hmay with h0 | ⟨h0, _⟩
    · exact absurd h0 hne
    · exact h0
end Go.Wk

/- A FILE SYSTEM's OPERATIONS keep what always holds; what fails changes nothing. -/
namespace Go.Wk
open Go Go.HL
structure OpOk (N : Nat) (A : AT) (r : Int × AT) : Prop where
  inv : Inv r.2
  bd : Bd N r.2
  same : r.1 ≠ 0 → r.2 = A
  qi : r.2.qi = A.qi
  qb : r.2.qb = A.qb
variable {A : AT} {N : Nat}
theorem OpOk.self (h : Inv A) (hb : Bd N A) (e : Int) : OpOk N A (e, A) := ⟨h, hb, fun _ => rfl, rfl, rfl⟩
theorem OpOk.mono {M : Nat} {r : Int × AT} (h : OpOk N A r) (hl : N ≤ M) : OpOk M A r := ⟨h.inv, h.bd.mono hl, h.same, h.qi, h.qb⟩
theorem make_op (h : Inv A) (hb : Bd N A) (hN : N < 4611686018427387904) {dir : Int} {name : ByteArray} {kind mode : Int} {data : ByteArray} (hs : data.size < 4611686018427387904) (hdp : A.isDir dir → kind = 2 → ∃ d, A.deep 11 dir = some d) : OpOk (N + 1) A ((A.makeR dir name kind mode data).2.1, (A.makeR dir name kind mode data).2.2) := by
  obtain ⟨h1, h2, h3⟩ := makeR_ok (dir := dir) (name := name) (kind := kind) (mode := mode) (data := data) h hb hN hs hdp
  refine ⟨h1, h2, fun he => ?_, h3.qi, h3.qb⟩
  by_cases he' : A.makeE dir name kind mode data = 0
  · rw [makeR_z he'] at he; exact absurd rfl he
  · rw [makeR_n he']
theorem mkdirF_ok (h : Inv A) (hb : Bd N A) (hN : N < 4611686018427387904) (cwd path : ByteArray) : OpOk (N + 1) A (A.mkdirF cwd path) := by
  unfold AT.mkdirF
  simp only
  by_cases h1 : (A.freshP cwd path).1 ≠ 0
  · rw [if_pos h1]; exact OpOk.self h (hb.mono (by omega)) _
  rw [if_neg h1]
  by_cases h2 : (A.deep 13 (A.freshP cwd path).2.dir).getD 0 ≥ 12
  · rw [if_pos h2]; exact OpOk.self h (hb.mono (by omega)) _
  rw [if_neg h2]
  refine make_op h hb hN (by decide) fun hd _ => ?_
  obtain ⟨d, hd13, hd12, _⟩ := h.deep13 hd
  rw [hd13] at h2
  simp only [Option.getD_some] at h2
  exact ⟨d, deep_low hd12 11 (by omega)⟩
theorem symlinkF_ok (h : Inv A) (hb : Bd N A) (hN : N < 4611686018427387904) (cwd target path : ByteArray) : OpOk (N + 1) A (A.symlinkF cwd target path) := by
  unfold AT.symlinkF
  simp only
  cases hl : linkOk target with
  | false => exact OpOk.self h (hb.mono (by omega)) _
  | true =>
    simp only [Bool.true_eq_false, if_false]
    by_cases h1 : (A.freshP cwd path).1 ≠ 0
    · rw [if_pos h1]; exact OpOk.self h (hb.mono (by omega)) _
    rw [if_neg h1]
    refine make_op h hb hN ?_ (fun _ hk => by cases hk)
    unfold linkOk at hl
    simp only [Bool.and_eq_true, decide_eq_true_eq] at hl
    omega
theorem writeF_ok (h : Inv A) (hb : Bd N A) (hN : N < 4611686018427387904) (cwd path data : ByteArray) (more : Bool) (hs : data.size < 2305843009213693952) : OpOk (N + 1) A (A.writeF cwd path data more) := by
  unfold AT.writeF
  simp only
  by_cases h1 : (A.locate cwd path true).1 ≠ 0
  · rw [if_pos h1]; exact OpOk.self h (hb.mono (by omega)) _
  rw [if_neg h1]
  by_cases h2 : (A.locate cwd path true).2.there = false
  · rw [if_pos h2]; exact make_op h hb hN (by omega) (fun _ hk => by cases hk)
  rw [if_neg h2]
  by_cases h3 : A.kind (A.locate cwd path true).2.ino = 2
  · rw [if_pos h3]; exact OpOk.self h (hb.mono (by omega)) _
  rw [if_neg h3]
  obtain ⟨a, b, c, d, e⟩ := writeR_ok h hb (A.locate cwd path true).2.ino (if more then A.data (A.locate cwd path true).2.ino ++ data else data) (by
    have hq := h.bq
    cases more with
    | false => simp only [Bool.false_eq_true, if_false]; omega
    | true =>
      simp only [if_true, ByteArray.size_append]
      have : (A.data (A.locate cwd path true).2.ino).size ≤ 1073741824 := by
        unfold AT.data
        cases hg : A.get (A.locate cwd path true).2.ino with
        | none => decide
        | some n => have := h.size_le hg; show n.data.size ≤ _; omega
      omega)
  exact ⟨a, b.mono (by omega), c, d, e⟩
theorem chmodF_ok (h : Inv A) (hb : Bd N A) (cwd path : ByteArray) (mode : Int) : OpOk N A (A.chmodF cwd path mode) := by
  unfold AT.chmodF
  simp only
  split
  · exact OpOk.self h hb _
  split
  · exact OpOk.self h hb _
  obtain ⟨a, b, c, d, e⟩ := chmodR_ok h hb (A.with_ cwd path true).2.1 mode
  exact ⟨a, b, c, d, e⟩
theorem removeF_ok (h : Inv A) (hb : Bd N A) (hN : N < 4611686018427387904) (cwd path : ByteArray) : OpOk N A (A.removeF cwd path) := by
  unfold AT.removeF
  simp only
  split
  · exact OpOk.self h hb _
  split
  · exact OpOk.self h hb _
  split
  · exact OpOk.self h hb _
  split
  · exact OpOk.self h hb _
  obtain ⟨a, b, c, d, e⟩ := unlinkR_ok h hb hN (A.locate cwd path false).2.dir (A.locate cwd path false).2.name
  exact ⟨a, b, c, d, e⟩
theorem check_z {t : Tr} (h : t.check = 0) : t.tooDeep = false ∧ t.name = ⟨⟨[]⟩⟩ ∧ t.may = true ∧ t.sizeT = ((t.count : Int), (t.bytes : Int)) ∧ t.count ≤ 2000 ∧ t.bytes ≤ 100000 := by
  unfold Tr.check at h
  cases h1 : t.tooDeep with
  | true => rw [h1] at h; simp at h
  | false =>
    rw [h1] at h
    simp only [Bool.false_eq_true, if_false] at h
    by_cases h2 : sEq t.name ⟨⟨[]⟩⟩ = false ∨ t.may = false
    · rw [if_pos h2] at h; cases h
    rw [if_neg h2] at h
    have hm : t.may = true := by
      cases hm : t.may with
      | true => rfl
      | false => exact absurd (.inr hm) h2
    have hn : t.name = ⟨⟨[]⟩⟩ := by
      cases hn : sEq t.name ⟨⟨[]⟩⟩ with
      | true => exact sEq_iff.1 hn
      | false => exact absurd (.inl hn) h2
    have hs : t.sizeT = ((t.count : Int), (t.bytes : Int)) := by
      unfold Tr.sizeT; rw [h1]; simp only [Bool.false_eq_true, if_false]; exact may_size t hm h1
    by_cases h3 : t.sizeT.1 > 2000 ∨ t.sizeT.2 > 100000
    · rw [if_pos h3] at h; cases h
    rw [hs] at h3
    simp only at h3
    refine ⟨rfl, hn, hm, hs, ?_, ?_⟩ <;> omega
theorem freshP_place (hI : Inv A) {cwd path : ByteArray} (h : (A.freshP cwd path).1 = 0) : PlOk A (A.freshP cwd path).2 ∧ (A.freshP cwd path).2.there = false := by
  unfold AT.freshP at h ⊢
  simp only at h ⊢
  by_cases he : (A.locate cwd path false).1 = 0
  case neg => rw [if_pos he] at h; exact absurd h he
  rw [if_neg (by simpa using he)] at h ⊢
  cases ht : (A.locate cwd path false).2.there with
  | true => rw [ht] at h; simp at h
  | false => exact ⟨locate_place hI _ _ _ he, ht⟩
/-- Lay: either nothing, or all -/
theorem layF_cases (h : Inv A) (hb : Bd N A) (path : ByteArray) (t : Tr) (hN : N + t.total < 4611686018427387904) : ((A.layF path t).1 ≠ 0 ∧ (A.layF path t).2 = A) ∨
    (t.check = 0 ∧ (A.freshP ⟨⟨[47]⟩⟩ path).1 = 0 ∧ A.layF path t = AT.lay (A.freshP ⟨⟨[47]⟩⟩ path).2.dir (A.freshP ⟨⟨[47]⟩⟩ path).2.name t A ∧ (∀ d, A.isDir (A.freshP ⟨⟨[47]⟩⟩ path).2.dir → A.deep 12 (A.freshP ⟨⟨[47]⟩⟩ path).2.dir = some d → d + t.levels ≤ 12) ∧
      Laid A (A.freshP ⟨⟨[47]⟩⟩ path).2.dir (A.freshP ⟨⟨[47]⟩⟩ path).2.name t (A.layF path t)) := by
  generalize hr : A.layF path t = r
  unfold AT.layF at hr
  simp only at hr
  by_cases h1 : t.check ≠ 0
  · rw [if_pos h1] at hr; subst hr; exact .inl ⟨h1, rfl⟩
  rw [if_neg h1] at hr
  by_cases h2 : (A.freshP ⟨⟨[47]⟩⟩ path).1 ≠ 0
  · rw [if_pos h2] at hr; subst hr; exact .inl ⟨h2, rfl⟩
  rw [if_neg h2] at hr
  have hc : t.check = 0 := by simpa using h1
  have hf : (A.freshP ⟨⟨[47]⟩⟩ path).1 = 0 := by simpa using h2
  obtain ⟨hp, ht⟩ := freshP_place h hf
  have hnn := hp.notThere ht
  obtain ⟨hnm, hfd⟩ := hp.named hnn
  rw [ht] at hfd
  obtain ⟨d, hd13, hd12, _⟩ := h.deep13 hp.1
  rw [hd13] at hr
  simp only [Option.getD_some] at hr
  by_cases h3 : d + t.levels > 12
  · rw [if_pos h3] at hr; subst hr; exact .inl ⟨(by show (3 : Int) ≠ 0; decide), rfl⟩
  rw [if_neg h3] at hr
  by_cases h4 : A.ui + t.sizeT.1 > A.qi ∨ A.ub + t.sizeT.2 > A.qb
  · rw [if_pos h4] at hr; subst hr; exact .inl ⟨(by show (10 : Int) ≠ 0; decide), rfl⟩
  rw [if_neg h4] at hr
  obtain ⟨c1, c2, c3, c4, c5, c6⟩ := check_z hc
  rw [c4] at h4
  simp only at h4
  have hdeep : ∀ d, A.isDir (A.freshP ⟨⟨[47]⟩⟩ path).2.dir → A.deep 12 (A.freshP ⟨⟨[47]⟩⟩ path).2.dir = some d → d + t.levels ≤ 12 := by
    intro d' _ hd'
    rw [hd12] at hd'; cases hd'; omega
  have L := lay_done t A N _ _ h hb hN hdeep hp.1 hnm hfd c3 (by omega) (by omega)
  rw [hr] at L
  exact .inr ⟨hc, hf, hr.symm, hdeep, L⟩
theorem layF_ok (h : Inv A) (hb : Bd N A) (path : ByteArray) (t : Tr) (hN : N + t.total < 4611686018427387904) : OpOk (N + t.total) A (A.layF path t) := by
  rcases layF_cases h hb path t hN with ⟨h1, h2⟩ | ⟨_, _, h3, h4, h5⟩
  · refine ⟨by rw [h2]; exact h, by rw [h2]; exact hb.mono (by omega), fun _ => h2, by rw [h2], by rw [h2]⟩
  · obtain ⟨a, b, c⟩ := lay_ok t A N (A.freshP ⟨⟨[47]⟩⟩ path).2.dir (A.freshP ⟨⟨[47]⟩⟩ path).2.name h hb hN h4
    rw [← h3] at a b c
    exact ⟨a, b, fun he => absurd h5.ok he, c.qi, c.qb⟩
end Go.Wk

/- THE STATEMENTS OF LAYER 8: the chapter's rows. -/
set_option maxRecDepth 100000
namespace Go.Proofs.YtlpcehbfoogejaaGreatDoor
open Go Go.HL Go.Wk
attribute [local irreducible] ptrW ifW brW andW rdT alW letJ stW muW biW vaW imW callT cvalT app callW invW callVW sizeT oW nilF oneK loopW rfW funW begW roundK exW idxW Gr Put
def bl (l : List UInt8) : ByteArray := ⟨⟨l⟩⟩
/-- the chapter's file system, step by step -/
def w0 : AT := newT 60 2000
def w1 : AT := (w0.mkdirF (bl [47]) (bl [97])).2
def w2 : AT := (w1.writeF (bl [47, 97]) (bl [102]) (bl [104, 105]) false).2
def w3 : AT := (w2.symlinkF (bl [47]) (bl [97, 47, 102]) (bl [108])).2
def w4 : AT := (w3.symlinkF (bl [47]) (bl [109]) (bl [109])).2
def w5 : AT := (w4.writeF (bl [47]) (bl [108]) (bl [33]) true).2
theorem w0_ok : Inv w0 ∧ Bd 1 w0 := newT_ok rfl
theorem w1_ok : OpOk 2 w0 (w0.mkdirF (bl [47]) (bl [97])) := mkdirF_ok w0_ok.1 w0_ok.2 (by decide) _ _
theorem w2_ok : OpOk 3 w1 (w1.writeF (bl [47, 97]) (bl [102]) (bl [104, 105]) false) := writeF_ok w1_ok.inv w1_ok.bd (by decide) _ _ _ _ (by decide)
theorem w3_ok : OpOk 4 w2 (w2.symlinkF (bl [47]) (bl [97, 47, 102]) (bl [108])) := symlinkF_ok w2_ok.inv w2_ok.bd (by decide) _ _ _
theorem w4_ok : OpOk 5 w3 (w3.symlinkF (bl [47]) (bl [109]) (bl [109])) := symlinkF_ok w3_ok.inv w3_ok.bd (by decide) _ _ _
theorem w5_ok : OpOk 6 w4 (w4.writeF (bl [47]) (bl [108]) (bl [33]) true) := writeF_ok w4_ok.inv w4_ok.bd (by decide) _ _ _ _ (by decide)
theorem i1 : Inv w1 := w1_ok.inv
theorem d1 : Bd 2 w1 := w1_ok.bd
theorem i2 : Inv w2 := w2_ok.inv
theorem d2 : Bd 3 w2 := w2_ok.bd
theorem i3 : Inv w3 := w3_ok.inv
theorem d3 : Bd 4 w3 := w3_ok.bd
theorem i4 : Inv w4 := w4_ok.inv
theorem d4 : Bd 5 w4 := w4_ok.bd
theorem i5 : Inv w5 := w5_ok.inv
theorem d5 : Bd 6 w5 := w5_ok.bd
theorem v1 : (w0.mkdirF (bl [47]) (bl [97])).1 = 0 := by decide +kernel
theorem v2 : (w1.writeF (bl [47, 97]) (bl [102]) (bl [104, 105]) false).1 = 0 := by decide +kernel
theorem v3 : (w2.symlinkF (bl [47]) (bl [97, 47, 102]) (bl [108])).1 = 0 := by decide +kernel
theorem v4 : (w3.symlinkF (bl [47]) (bl [109]) (bl [109])).1 = 0 := by decide +kernel
theorem v5 : (w4.writeF (bl [47]) (bl [108]) (bl [33]) true).1 = 0 := by decide +kernel
theorem r1 : w4.read (bl [47]) (bl [108]) = (0, bl [104, 105]) := by decide +kernel
theorem r2 : w4.read (bl [47, 97]) (bl [46, 46, 47, 46, 46, 47, 97, 47, 46, 47, 102]) = (0, bl [104, 105]) := by decide +kernel
theorem r3 : w4.read (bl [47]) (bl [109]) = (9, bl []) := by decide +kernel
theorem r4 : w4.read (bl [47]) (bl [97]) = (7, bl []) := by decide +kernel
theorem r5 : w5.read (bl [47, 97]) (bl [102]) = (0, bl [104, 105, 33]) := by decide +kernel
theorem x1 : (w5.stat (bl [47]) (bl [108]) false).1 = 0 ∧ (w5.stat (bl [47]) (bl [108]) false).2.kind = 3 := by decide +kernel
theorem x2 : w5.realF (bl [47, 97]) (bl [46, 46, 47, 108]) = (0, bl [47, 97, 47, 102]) := by decide +kernel
theorem x3 : w5.realF (bl [47]) (bl [46, 46]) = (0, bl [47]) := by decide +kernel
theorem x4 : (w5.mkdirF (bl [47]) (bl [97, 47, 102, 47, 120])).1 = 8 := by decide +kernel
theorem x5 : (w5.removeF (bl [47]) (bl [97])).1 = 20 := by decide +kernel
theorem Off.new {σ σ' : H} {B : Nat → Prop} (hg : Gr σ σ') (h : ∀ b, B b → σ b = none) : Off σ σ' B := ⟨hg, fun b o hb hB => by rw [h b hB] at hb; cases hb⟩
theorem s_quota8 {σ : H} {K : Value → H → Prop} (hK : K (.agg ⟨[.int .i64 60, .int .i64 2000]⟩) σ) : callW Tryz.prog 97 [] K σ := by
  refine pure_i _ hK (c97 ?_)
  unfold g97
  refine al_i ?_; intro b1 σ1 g1 e1 n1
  refine st_i2 e1 sz_Quota (by rfl) (by rfl) ?_; intro σ2 p2
  refine rd_G (rdA_of' p2.same (by rfl)) ?_
  (refine app_of rfl ?_; try dsimp only)
  exact ⟨rfl, g1.putF p2 n1⟩
theorem s_small8 {σ : H} {K : Value → H → Prop} (hK : ∀ bf σ' B', FsAt σ' bf w4 B' → Off σ σ' B' → K (.pointer (some ⟨bf, 0, none⟩)) σ') : callW Tryz.prog 43 [] K σ := by
  refine c43 ?_
  unfold g43
  refine call_i (s_quota8 ?_)
  (refine app_of rfl ?_; try dsimp only)
  refine call_i (s_New 60 2000 (fun h => by cases h) ?_)
  intro _ bf σ1 B1 F1 g1 hf1
  have O1 := Off.new g1 hf1
  refine app_P ?_
  refine j_d ?_
  refine br_f rfl ?_
  refine call_i (s_Mkdir w0_ok.1 w0_ok.2 (by decide) F1 _ _ ?_)
  intro σ2 B2 F2 S2
  have O2 := O1.sep S2
  refine app_I ?_
  have e := v1
  unfold bl at e
  show brW ((w0.mkdirF ⟨⟨[47]⟩⟩ ⟨⟨[97]⟩⟩).1 != 0) _ _ _
  rw [e]
  refine br_f rfl ?_
  refine call_i (s_Write (A := w1) i1 d1 (by decide) F2 _ _ _ _ (by decide) ?_)
  intro σ3 B3 F3 S3
  have O3 := O2.sep S3
  refine app_I ?_
  have e := v2
  unfold bl at e
  rw [e]
  refine br_f rfl ?_
  refine call_i (s_Symlink (A := w2) i2 d2 (by decide) F3 _ _ _ ?_)
  intro σ4 B4 F4 S4
  have O4 := O3.sep S4
  refine app_I ?_
  have e := v3
  unfold bl at e
  rw [e]
  refine br_f rfl ?_
  refine call_i (s_Symlink (A := w3) i3 d3 (by decide) F4 _ _ _ ?_)
  intro σ5 B5 F5 S5
  have O5 := O4.sep S5
  refine app_I ?_
  have e := v4
  unfold bl at e
  rw [e]
  exact br_f rfl (hK bf σ5 B5 F5 O5)
theorem s_reads8 {A : AT} {σ : H} {bf : Nat} {B : Nat → Prop} (hF : FsAt σ bf A B) (cwd path want : ByteArray) (e : Int) {K : Value → H → Prop} (hK : K (.bool (strEq (A.read cwd path).2 want && ((A.read cwd path).1 == e))) σ) :
    callW Tryz.prog 44 [.pointer (some ⟨bf, 0, none⟩), .string cwd, .string path, .string want, .int .i64 e] K σ := by
  refine c44 _ _ _ _ _ ?_
  unfold g44
  refine call_i (s_Read hF cwd path ?_)
  (refine app_of rfl ?_; try dsimp only)
  cases h : strEq (A.read cwd path).2 want with
  | true => rw [h] at hK; exact br_t rfl hK
  | false => rw [h] at hK; exact br_f rfl hK
theorem strEq_self (s : ByteArray) : strEq s s = true := strEq_iff.2 rfl
theorem s_works8 {σ : H} {K : Value → H → Prop} (hK : K (.bool true) σ) : callW Tryz.prog 13 [] K σ := by
  refine pure_i _ hK (c13 ?_)
  clear hK
  unfold g13
  refine call_i (s_small8 ?_)
  intro bf σ1 B1 F1 O1
  refine app_P ?_
  refine j_i (fun j => ∀ σ2 B2, FsAt σ2 bf w5 B2 → Off σ σ2 B2 → j (some ⟨bf, 0, none⟩) false σ2) ?_ ?_
  · intro σ2 B2 F2 O2
    refine br_f rfl ?_
    refine call_i (s_Stat F2 _ _ _ ?_)
    have e := x1
    unfold bl at e
    obtain ⟨ea, eb⟩ := e
    rw [ea]
    unfold inV
    (refine app_of rfl ?_; try dsimp only)
    refine al_i ?_; intro b10 σ3 g3 e3 n3
    refine st_i2 e3 sz_Inode (by rfl) (by rfl) ?_; intro σ4 p4
    have hg4 : Gr σ2 σ4 := g3.putF p4 n3
    have F4 := F2.gr hg4
    have O4 := O2.gr hg4
    have k10 := p4.same
    refine call_i (s_Real i5 d5 (by decide) F4 _ _ ?_)
    have e := x2
    unfold bl at e
    rw [e]
    (refine app_of rfl ?_; try dsimp only)
    refine call_i (s_Real i5 d5 (by decide) F4 _ _ ?_)
    have e := x3
    unfold bl at e
    rw [e]
    (refine app_of rfl ?_; try dsimp only)
    refine br_t rfl (rd_I (rdC_of k10 (by rfl)) ?_)
    rw [eb]
    refine br_t rfl (br_t rfl (br_t (strEq_self _) (br_t rfl (br_t (strEq_self _) ?_))))
    refine call_i (s_Mkdir i5 d5 (by decide) F4 _ _ ?_)
    intro σ5 B5 F5 S5
    refine app_I ?_
    have hsame := (mkdirF_ok i5 d5 (by decide) (bl [47]) (bl [97, 47, 102, 47, 120])).same (by rw [x4]; decide)
    have e := x4
    unfold bl at e hsame
    rw [e]
    have F5' : FsAt σ5 bf w5 B5 := by have := F5; rw [show (w5.mkdirF ⟨⟨[47]⟩⟩ ⟨⟨[97, 47, 102, 47, 120]⟩⟩).2 = w5 from hsame] at this; exact this
    refine br_t rfl ?_
    refine call_i (s_Remove i5 d5 (by decide) F5' _ _ ?_)
    intro σ6 B6 F6 S6
    refine app_I ?_
    have e := x5
    unfold bl at e
    show (fun u σ' => u = Value.bool true ∧ Gr σ σ') (.bool ((w5.removeF ⟨⟨[47]⟩⟩ ⟨⟨[97]⟩⟩).1 == 20)) σ6
    rw [e]
    exact ⟨rfl, ((O4.sep S5).sep S6).1⟩
  · intro j hj
    refine br_f rfl ?_
    refine call_i (s_reads8 F1 _ _ _ _ (app_B ?_))
    have e := r1
    unfold bl at e
    rw [e]
    refine br_f (by rw [strEq_self]; rfl) ?_
    refine call_i (s_reads8 F1 _ _ _ _ (app_B ?_))
    have e := r2
    unfold bl at e
    rw [e]
    refine br_f (by rw [strEq_self]; rfl) ?_
    refine call_i (s_reads8 F1 _ _ _ _ (app_B ?_))
    have e := r3
    unfold bl at e
    rw [e]
    refine br_f (by rw [strEq_self]; rfl) ?_
    refine call_i (s_reads8 F1 _ _ _ _ (app_B ?_))
    have e := r4
    unfold bl at e
    rw [e]
    refine br_f (by rw [strEq_self]; rfl) ?_
    refine call_i (s_Write i4 d4 (by decide) F1 _ _ _ _ (by decide) ?_)
    intro σ2 B2 F2 S2
    refine app_I ?_
    have e := v5
    unfold bl at e
    show brW ((w4.writeF ⟨⟨[47]⟩⟩ ⟨⟨[108]⟩⟩ ⟨⟨[33]⟩⟩ true).1 != 0) _ _ _
    rw [e]
    refine br_f rfl ?_
    refine call_i (s_reads8 (A := w5) F2 _ _ _ _ (app_B ?_))
    have e := r5
    unfold bl at e
    rw [e, strEq_self]
    exact hj σ2 B2 F2 (O1.sep S2)
theorem s_text8 (s : ByteArray) {σ : H} {K : Value → H → Prop} (hK : K (.string (s.extract 0 (min s.size 300))) σ) : callW Tryz.prog 20 [.string s] K σ := by
  refine c20 _ ?_
  unfold g20
  have e : (if 300 < ((s.size : Nat) : Int) then (300 : Int) else ((s.size : Nat) : Int)).toNat = min s.size 300 := by split <;> omega
  rw [e]
  refine if_i ⟨bnd_some (by split <;> omega) (by split <;> omega), bnd_none⟩ hK
end Go.Proofs.YtlpcehbfoogejaaGreatDoor

/- FROM A HEAPLET TO A STATEMENT: arguments that were read; what is left behind a call. -/
namespace Go.HL
open Go Go.RowKit
/-- all of memory -/
def whole (W : World) : H := fun b => W.heap[b]?
theorem whole_le (W : World) : (whole W).le W := fun _ _ h => h
theorem calls_of {P : Program} {f : FuncId} {args : List Value} {W : World} {v : Value} (h : callW P f args (fun u σ' => u = v ∧ Gr (whole W) σ') (whole W)) :
    Calls P f args.toArray W fun e W' => e = .returned v ∧ Below W.heap.size W W' := by
  refine callsIn_wide.1 ((h W (whole_le W)).mono ?_)
  rintro e W' ⟨u, he, σ', hx, hu, hg⟩
  subst hu
  refine ⟨he, ⟨hx.os, hx.tape, hx.output, hx.size, fun k hk => ?_⟩⟩
  have : W.heap[k]? = some W.heap[k] := Array.getElem?_eq_getElem hk
  rw [this]
  exact hx.le k _ (hg.get this)
/-- rows of so many cells, in memory -/
def RowsAt (σ : H) (n : Nat) (rows : List (List Value)) (x : Sl) : Prop := x.len = rows.length ∧ (rows = [] ∨ ∃ g o cur t fz, x.base = some ⟨g, o, none⟩ ∧ σ g = some (.cells ⟨cur⟩ t fz) ∧ ∀ i r, rows[i]? = some r → r.length = n ∧ (cur.drop (o + i * n)).take n = r)
theorem RowsAt.gr {σ σ' : H} {n : Nat} {rows : List (List Value)} {x : Sl} (h : RowsAt σ n rows x) (hg : Gr σ σ') : RowsAt σ' n rows x := by
  obtain ⟨h1, h2 | ⟨g, o, cur, t, fz, h3, h4, h5⟩⟩ := h
  · exact ⟨h1, .inl h2⟩
  · exact ⟨h1, .inr ⟨g, o, cur, t, fz, h3, hg.get h4, h5⟩⟩
theorem RowsAt.rd {σ : H} {n : Nat} {rows : List (List Value)} {x : Sl} (h : RowsAt σ n rows x) {i : Nat} {r : List Value} (hi : rows[i]? = some r) (hn : 0 < n) : ∃ g o, x.base = some ⟨g, o, none⟩ ∧ rdA n g (o + i * n) σ = some (.agg ⟨r⟩) := by
  obtain ⟨h1, h2 | ⟨g, o, cur, t, fz, h3, h4, h5⟩⟩ := h
  · subst h2; simp at hi
  · obtain ⟨h6, h7⟩ := h5 i r hi
    refine ⟨g, o, h3, ?_⟩
    have hlen : o + i * n + n ≤ cur.length := by
      have := congrArg List.length h7
      simp at this
      omega
    rw [rdA_of h4 hlen, h7]
section
variable {D : Type} {enc : TypeId × Value → D} {P : Program} {W : World}
/-- a slice that was read as data -/
theorem rows_of {t e : TypeId} {n fuel : Nat} {v : Value} {x : DataW D × List MemPlace} (ht : P.underlying t = some (.slice e)) (hc : P.cellsOf e = n) (hn : 0 < n) (h : DataW.trod enc P W 0 (fun _ => true) true fuel t [v] = some x) :
    ∃ (y : Sl) (rows : List (List Value)), v = .slice y.base y.len y.cap ∧ RowsAt (whole W) n rows y ∧ y.len ≤ maxLen ∧ ∃ m, ∀ r ∈ rows, ∃ d ps, DataW.trod enc P W 0 (fun _ => true) true m e r = some (d, ps) := by
  rcases Deep.open_slice ht h with ⟨h0, _⟩ | ⟨a, len, cap, m, k, D, Pl, h0, _, hl, hm, hmm, hxx, hall⟩
  · refine ⟨⟨none, 0, 0⟩, [], by simpa using h0, ⟨rfl, .inl rfl⟩, Nat.zero_le _, 0, fun r hr => by simp at hr⟩
  · have hv : v = .slice (some a) len cap := by simpa using h0
    subst hv
    have hle : len ≤ m := by rw [hmm]; simp; exact hl
    rw [hc] at hall
    have hch : ∀ i, i < len → ∃ cs, W.cells? 0 (a.add (i * n)) n = some cs ∧ ∃ d ps, DataW.trod enc P W 0 (fun _ => true) true k e cs = some (d, ps) := by
      intro i hi
      obtain ⟨cs, h1, h2⟩ := hall i (by omega)
      exact ⟨cs, h1, _, _, h2⟩
    have hrows : ∃ rows : List (List Value), rows.length = len ∧ ∀ i r, rows[i]? = some r → W.cells? 0 (a.add (i * n)) n = some r ∧ ∃ d ps, DataW.trod enc P W 0 (fun _ => true) true k e r = some (d, ps) := by
      clear hall hmm hle hm hl h0 h hxx
      induction len with
      | zero => exact ⟨[], rfl, fun i r hr => by simp at hr⟩
      | succ j ih =>
        obtain ⟨rows, h1, h2⟩ := ih (fun i hi => hch i (by omega))
        obtain ⟨cs, h3, h4⟩ := hch j (by omega)
        refine ⟨rows ++ [cs], by simp [h1], fun i r hr => ?_⟩
        rw [List.getElem?_append] at hr
        split at hr
        · exact h2 i r hr
        · rename_i hge
          have : i - rows.length = 0 := by
            rcases Nat.eq_zero_or_pos (i - rows.length) with h | h
            · exact h
            · rw [List.getElem?_eq_none (by simp; omega)] at hr; cases hr
          rw [this] at hr
          have hij : i = j := by omega
          subst hij
          simp at hr; subst hr
          exact ⟨h3, h4⟩
    obtain ⟨rows, hlen, hr⟩ := hrows
    refine ⟨⟨some a, len, cap⟩, rows, rfl, ⟨hlen.symm, ?_⟩, by show len ≤ maxLen; omega, k, fun r hrr => ?_⟩
    · cases len with
      | zero => exact .inl (List.eq_nil_of_length_eq_zero hlen)
      | succ j =>
        right
        obtain ⟨r0, hr0⟩ : ∃ r0, rows[0]? = some r0 := ⟨_, List.getElem?_eq_getElem (by omega)⟩
        obtain ⟨hc0, _⟩ := hr 0 r0 hr0
        obtain ⟨_, hl0, hg0⟩ := World.cells?_some hc0
        have h00 := hg0 0 hn
        rw [Nat.zero_mul] at h00
        have ha0 : (a.add 0).add 0 = a := by unfold Addr.add; simp
        rw [ha0] at h00
        obtain ⟨u, hu⟩ : ∃ u, r0[0]? = some u := ⟨_, List.getElem?_eq_getElem (by omega)⟩
        rw [hu] at h00
        unfold World.cell? at h00
        cases hb : W.heap[a.block]? with
        | none => rw [hb] at h00; cases h00
        | some ob =>
          rw [hb] at h00
          cases ob with
          | cells c ty fz =>
            simp only at h00
            have hsp : a.spot = none := by
              cases hs : a.spot with
              | none => rfl
              | some q => rw [hs] at h00; simp at h00
            obtain ⟨l⟩ := c
            have hae : a = ⟨a.block, a.off, none⟩ := by cases a; simp at hsp; simp [hsp]
            refine ⟨a.block, a.off, l, ty, fz, by rw [← hae], hb, fun i r hir => ?_⟩
            obtain ⟨hci, _⟩ := hr i r hir
            obtain ⟨_, hli, hgi⟩ := World.cells?_some hci
            refine ⟨hli, ?_⟩
            apply List.ext_getElem?
            intro q
            by_cases hq : q < n
            · have h5 := hgi q hq
              rw [hae, add_none, add_none] at h5
              rw [← h5, List.getElem?_take_of_lt hq, List.getElem?_drop]
              simp [World.cell?, hb]
            · rw [List.getElem?_eq_none (by simp; omega), List.getElem?_eq_none (by omega)]
          | _ => cases h00
    · obtain ⟨i, hi⟩ := List.getElem?_of_mem hrr
      exact (hr i r hi).2
/-- what is left behind a law's call -/
theorem law_post {s : ChangeSpec} {f : Func} {W' : World} {args : Array Value} {ds gs : List (DataW D)} {before : List MemPlace} {tb : TypeId} (hW : DataW.Whole enc P f.params.toList s.vars false W args.toList ds gs before) (hv : s.vars = [])
    (hfn : s.fn D (ds ++ gs) = { results := [.lit (.bool true)], args := ds }) (hl : laidOutB P = true) (hr : ∀ t ∈ f.params.toList, P.readableRec t = true ∧ t < P.types.size) (hres : f.resultTypes = #[tb]) (hb : P.underlying tb = some .bool) (hbel : Below W.heap.size W W') :
    s.post enc P f false true false false W args (.bool true) W' := by
  have hlt := hW.lt
  have hW0 := hW
  obtain ⟨p, q, hA, hV, hps, hz, hn⟩ := hW
  rw [hv] at hV
  have hgq : gs = [] ∧ q = [] := by
    cases gs with
    | nil => exact ⟨rfl, hV⟩
    | cons g gs => exact hV.elim
  obtain ⟨rfl, rfl⟩ := hgq
  have hps : before = p := by simpa using hps
  subst hps
  have hargs : ∀ sp : Nat → Bool, (∀ x ∈ before, sp x.block = true) → DataW.TrodAll enc P W' 0 sp true f.params.toList args.toList ds before := by
    intro sp hsp
    have key : ∀ (ts : List TypeId) (vs : List Value) (ds : List (DataW D)) (ps : List MemPlace), (∀ t ∈ ts, P.readableRec t = true ∧ t < P.types.size) → (∀ x ∈ ps, x.block < W.heap.size ∧ sp x.block = true) → DataW.TrodAll enc P W 0 (fun _ => true) true ts vs ds ps → DataW.TrodAll enc P W' 0 sp true ts vs ds ps := by
      intro ts
      induction ts with
      | nil =>
        intro vs ds ps _ _ h
        cases vs <;> cases ds <;> first | exact h | exact h.elim
      | cons t ts ih =>
        intro vs ds ps ht hx h
        cases vs with
        | nil => exact h.elim
        | cons v vs =>
          cases ds with
          | nil => exact h.elim
          | cons d ds =>
            obtain ⟨p, q, h1, h2, rfl⟩ := h
            obtain ⟨r1, r2⟩ := ht t (List.mem_cons_self ..)
            exact ⟨p, q, WideElems.Trod_stays hl r1 r2 h1 (fun x hx' => hbel.same (hx x (List.mem_append_left _ hx')).1) (fun x hx' => (hx x (List.mem_append_left _ hx')).2), ih vs ds q (fun t h => ht t (List.mem_cons_of_mem _ h)) (fun x hx' => hx x (List.mem_append_right _ hx')) h2, rfl⟩
    exact key _ _ _ _ hr (fun x hx => ⟨hlt x hx, hsp x hx⟩) hA
  have hresT : ∀ (b : Nat) (sp : Nat → Bool) (hd : Bool), DataW.TrodAll enc P W' b sp hd f.resultTypes.toList ((Value.bool true).resultList f.resultTypes.size) [.lit (.bool true)] [] := by
    intro b sp hd
    rw [hres]
    exact ⟨[], [], shut_bool hb true, rfl, rfl⟩
  have hold : ∀ p ∈ before, (fun b => decide (b < W.heap.size)) p.block = true := fun p hp => by simpa using hlt p hp
  have hvars : ∀ sp : Nat → Bool, DataW.TrodVars enc P W' sp s.vars [] [] := by intro sp; rw [hv]; rfl
  refine ⟨ds, [], before, [], before, [], hW0, ?_, ?_, ?_, World.keptBut_mono (fun p hp => ⟨hp, .inr (.inl hp)⟩) (hbel.frame _), fun h => by cases h⟩
  · rw [hfn]; exact hresT _ _ _
  · rw [hfn]; exact hargs _ hold
  · rw [hfn]; exact hvars _
end
end Go.HL

/- FsQuota: the walk. -/
set_option maxRecDepth 100000
namespace Go.Proofs.YtlpcehbfoogejaaGreatDoor
open Go Go.HL Go.Wk
attribute [local irreducible] ptrW ifW brW andW rdT alW letJ stW muW biW vaW imW callT cvalT app callW invW callVW sizeT oW nilF oneK loopW rfW funW begW roundK exW idxW Gr Put
structure Act where
  what : Int
  cwd : ByteArray
  a : ByteArray
  b : ByteArray
  mode : Int
  flag : Bool
def Act.cells (a : Act) : List Value := [.int .u8 a.what, .string a.cwd, .string a.a, .string a.b, .int .i64 a.mode, .bool a.flag]
def ActsAt (σ : H) (l : List Act) (x : Sl) : Prop := RowsAt σ 6 (l.map Act.cells) x
theorem ActsAt.rd {σ : H} {l : List Act} {x : Sl} (h : ActsAt σ l x) {i : Nat} {a : Act} (hi : l[i]? = some a) : ∃ g o, x.base = some ⟨g, o, none⟩ ∧ rdA 6 g (o + i * 6) σ = some (.agg ⟨a.cells⟩) := RowsAt.rd h (by simp [hi]) (by decide)
theorem ActsAt.len {σ : H} {l : List Act} {x : Sl} (h : ActsAt σ l x) : x.len = l.length := by have := h.1; simpa using this
theorem sz_Act8 : sizeT Tryz.prog 40 = some 6 := by kernel_rfl
def tx (s : ByteArray) : ByteArray := s.extract 0 (min s.size 300)
theorem tx_size (s : ByteArray) : (tx s).size ≤ 300 := by unfold tx; rw [ByteArray.size_extract]; omega
def kTree (b : ByteArray) : Tr := .mk ⟨⟨[]⟩⟩ 2 false ⟨⟨[]⟩⟩ [.mk ⟨⟨[107]⟩⟩ 1 false b []]
theorem s_FsQuota {σ : H} (inodes bytes : Int) (x : Sl) (acts : List Act) (hx : ActsAt σ acts x) (h1 : 0 ≤ inodes ∧ inodes < 256) (h2 : 0 ≤ bytes ∧ bytes < 256) {K : Value → H → Prop} (hK : ∀ σ', Gr σ σ' → K (.bool true) σ') :
    callW Tryz.prog 4 [.int .u8 inodes, .int .u8 bytes, .slice x.base x.len x.cap] K σ := by
  refine c4 _ _ _ ?_
  unfold g4
  refine call_i (s_works8 (app_B (br_f rfl (if_i (by decide) (if_i (by decide) ?_)))))
  have t1 : 0 ≤ Int.tmod inodes 12 ∧ Int.tmod inodes 12 ≤ 11 := by
    rw [Int.tmod_eq_emod_of_nonneg h1.1]; omega
  have t2 : 0 ≤ Int.tmod bytes 60 ∧ Int.tmod bytes 60 ≤ 59 := by
    rw [Int.tmod_eq_emod_of_nonneg h2.1]; omega
  rw [wrap_id (x := Int.tmod inodes 12) (by omega) (by omega), wrap_id (x := 1 + Int.tmod inodes 12) (by omega) (by omega), wrap_id (x := Int.tmod bytes 60) (by omega) (by omega)]
  generalize hqi : 1 + Int.tmod inodes 12 = qi
  generalize hqb : Int.tmod bytes 60 = qb
  refine al_i ?_; intro b5 σ1 g1 e1 n1
  refine st_i2 e1 sz_Quota (by rfl) (by rfl) ?_; intro σ2 p2
  have hg2 : Gr σ σ2 := g1.putF p2 n1
  have k5 : σ2 b5 = some (.cells ⟨[.int .i64 qi, .int .i64 qb]⟩ 31 (0, 0)) := p2.same
  refine rd_G (rdA_of' k5 (by rfl)) ?_
  (refine app_of rfl ?_; try dsimp only)
  have hnew : newOk qi qb = true := by unfold newOk; simp; omega
  refine call_i (s_New qi qb (fun h => by rw [hnew] at h; cases h) ?_)
  intro _ bf σ3 B3 F3 g3 hf3
  have O3 : Off σ2 σ3 B3 := Off.new g3 hf3
  clear p2 e1 g1
  refine app_P (br_f rfl ?_)
  refine loop_i ?_
  intro R hR
  have key : ∀ (k i : Nat) (A : AT) (N : Nat) (τ : H) (B : Nat → Prop), k + i = 60 → Inv A → Bd N A → N ≤ 1 + i * 1000 → A.qi = qi → A.qb = qb → FsAt τ bf A B → Off σ2 τ B → R x (some ⟨b5, 0, none⟩) (some ⟨bf, 0, none⟩) (i : Int) τ := by
    intro k
    induction k with
    | zero =>
      intro i A N τ B hki hI hB hN q1 q2 hF hO
      refine hR _ _ _ _ _ ?_
      refine j_i (fun j => ∀ v1 v2, j x (some ⟨b5, 0, none⟩) (some ⟨bf, 0, none⟩) (i : Int) v1 v2 false τ) ?_ ?_
      · intro v1 v2
        exact br_f rfl (hK τ (hg2.trans hO.1))
      · intro j hj
        by_cases hl : (i : Int) < ((x.len : Nat) : Int)
        · refine br_t (by simpa using hl) ?_
          have : decide ((i : Int) < 60) = false := by simp only [decide_eq_false_iff_not]; omega
          rw [this]; exact hj _ _
        · exact br_f (by simpa using hl) (hj _ _)
    | succ k ih =>
      intro i A N τ B hki hI hB hN q1 q2 hF hO
      refine hR _ _ _ _ _ ?_
      refine j_i (fun j => ∀ v1 v2 (b : Bool), (b = true → i < acts.length) → j x (some ⟨b5, 0, none⟩) (some ⟨bf, 0, none⟩) (i : Int) v1 v2 b τ) ?_ ?_
      case refine_2 =>
        intro j hj
        have hlen := hx.len
        by_cases hl : (i : Int) < ((x.len : Nat) : Int)
        · exact br_t (by simpa using hl) (hj _ _ _ (fun _ => by omega))
        · exact br_f (by simpa using hl) (hj _ _ _ (fun h => by cases h))
      intro v1 v2 b hb
      cases b with
      | false => exact br_f rfl (hK τ (hg2.trans hO.1))
      | true =>
        have hlt := hb rfl
        refine br_t rfl ?_
        obtain ⟨ac, hac⟩ : ∃ ac, acts[i]? = some ac := ⟨_, List.getElem?_eq_getElem hlt⟩
        have hgt : Gr σ τ := hg2.trans hO.1
        obtain ⟨g, o, hbs, hrd⟩ := ActsAt.rd (show ActsAt τ acts x from RowsAt.gr hx hgt) hac
        rw [hbs]
        have hrd' : rdA 6 g (o + (i : Int).toNat * 6) τ = some (.agg ⟨ac.cells⟩) := by simpa using hrd
        refine ptr_i (if_i ⟨by omega, by have := hx.len; omega⟩ (rd_G hrd' ?_))
        unfold Act.cells
        (refine app_of rfl ?_; try dsimp only)
        refine al_i ?_; intro b30 τ1 g4 e4 n4
        refine st_i2 e4 sz_Act8 (by rfl) (by rfl) ?_; intro τ2 p4
        have hg4 : Gr τ τ2 := g4.putF p4 n4
        have k30 : τ2 b30 = some (.cells ⟨[.int .u8 ac.what, .string ac.cwd, .string ac.a, .string ac.b, .int .i64 ac.mode, .bool ac.flag]⟩ 40 (0, 0)) := p4.same
        clear p4 e4
        have F2 := hF.gr hg4
        have O2 := hO.gr hg4
        refine rd_S (rdC_of k30 (by rfl)) (rd_S (rdC_of k30 (by rfl)) (rd_S (rdC_of k30 (by rfl)) ?_))
        refine call_i (s_text8 _ (app_S (and_i (rdC_of k30 (by rfl)) (and_i (rdC_of k30 (by rfl)) ?_))))
        refine call_i (s_text8 _ (app_S (and_i (rdC_of k30 (by rfl)) ?_)))
        refine call_i (s_text8 _ (app_S ?_))
        refine call_i (s_Used F2 ?_)
        (refine app_of rfl ?_; try dsimp only)
        refine al_i ?_; intro b39 τ3 g5 e5 n5
        refine st_i2 e5 sz_Quota (by rfl) (by rfl) ?_; intro τ4 p5
        have hg5 : Gr τ2 τ4 := g5.putF p5 n5
        have k39 : τ4 b39 = some (.cells ⟨[.int .i64 A.ui, .int .i64 A.ub]⟩ 31 (0, 0)) := p5.same
        clear p5 e5
        have F4 := F2.gr hg5
        have O4 := O2.gr hg5
        have k30' := hg5.get k30
        have n39 : σ2 b39 = none := none_of O2.1 n5
        have B39 : ¬ B b39 := F2.fresh n5
        refine j_i (fun j => ∀ (r : Int × AT) τ5 B5 v1 v2, OpOk (N + 1000) A r → FsAt τ5 bf r.2 B5 → Sep τ4 B τ5 B5 → j x (some ⟨b5, 0, none⟩) (some ⟨bf, 0, none⟩) (i : Int) (some ⟨b39, 0, none⟩) r.1 v1 v2 τ5) ?_ ?_
        · intro r τ5 B5 v1 v2 hop F5 S5
          obtain ⟨re, A'⟩ := r
          have k39' := (S5 b39 _ k39 B39).1
          have O5 := O4.sep S5
          have I5 : Inv A' := hop.inv
          refine call_i (s_Used F5 ?_)
          (refine app_of rfl ?_; try dsimp only)
          refine al_i ?_; intro b51 τ6 g6 e6 n6
          refine st_i2 e6 sz_Quota (by rfl) (by rfl) ?_; intro τ7 p6
          have hg6 : Gr τ5 τ7 := g6.putF p6 n6
          have k51 : τ7 b51 = some (.cells ⟨[.int .i64 A'.ui, .int .i64 A'.ub]⟩ 31 (0, 0)) := p6.same
          clear p6 e6
          have O7 := O5.gr hg6
          have F7 := F5.gr hg6
          have hk5 := O7.get k5
          have hk39 := hg6.get k39'
          have u1 := I5.ui_pos
          have u2 := I5.ub_pos
          have u3 := I5.uq
          have u4 := I5.bq
          have hq1 : A'.qi = qi := by have : A'.qi = A.qi := hop.qi; rw [this, q1]
          have hq2 : A'.qb = qb := by have : A'.qb = A.qb := hop.qb; rw [this, q2]
          refine j_i (fun j => ∀ w1 w2 w3 w4 w5 w6 w7 w8 w9 w10 w11 w12 w13 w14 w15 w16 w17 w18 w19 w20, j x (some ⟨b5, 0, none⟩) (some ⟨bf, 0, none⟩) (i : Int) w1 w2 w3 w4 w5 w6 w7 w8 w9 w10 w11 w12 w13 w14 w15 w16 w17 w18 w19 w20 false τ7) ?_ ?_
          · intro w1 w2 w3 w4 w5 w6 w7 w8 w9 w10 w11 w12 w13 w14 w15 w16 w17 w18 w19 w20
            refine br_f rfl ?_
            rw [wrap_id (x := (i : Int) + 1) (by omega) (by omega)]
            exact ih (i + 1) A' (N + 1000) τ7 B5 (by omega) I5 hop.bd (by omega) hq1 hq2 F7 O7
          · intro j hj
            refine rd_I (rdC_of k51 (by rfl)) (ptr_i (rd_I (rdC_of hk5 (by rfl)) ?_))
            refine br_f (by simp only [decide_eq_false_iff_not]; omega) (rd_I (rdC_of k51 (by rfl)) (ptr_i (rd_I (rdC_of hk5 (by rfl)) ?_)))
            refine br_f (by simp only [decide_eq_false_iff_not]; omega) (rd_I (rdC_of k51 (by rfl)) ?_)
            refine br_f (by simp only [decide_eq_false_iff_not]; omega) (rd_I (rdC_of k51 (by rfl)) ?_)
            refine br_f (by simp only [decide_eq_false_iff_not]; omega) ?_
            by_cases he : re = 0
            · exact br_f (by simpa using he) (hj _ _ _ _ _ _ _ _ _ _ _ _ _ _ _ _ _ _ _ _)
            · refine br_t (by simpa using he) (rd_G (rdA_of' k51 (by rfl)) ?_)
              (refine app_of rfl ?_; try dsimp only)
              refine ptr_i (rd_G (rdA_of' hk39 (by rfl)) ?_)
              (refine app_of rfl ?_; try dsimp only)
              have hs : A' = A := hop.same he
              have : (!((A'.ui == A.ui) && ((A'.ub == A.ub) && true))) = false := by rw [hs]; simp
              rw [this]
              exact hj _ _ _ _ _ _ _ _ _ _ _ _ _ _ _ _ _ _ _ _
        · intro j hj
          refine rd_I (rdC_of k30' (by rfl)) (if_i (by decide) ?_)
          show brW ((Int.tmod ac.what 5 : Int) == 0) _ _ _
          have hN1 : N ≤ 1000000000000 := by omega
          by_cases c0 : Int.tmod ac.what 5 = 0
          · refine br_t (by simpa using c0) (rd_B (rdC_of k30' (by rfl)) ?_)
            refine call_i (s_Write hI hB hN1 F4 _ _ _ _ (by have := tx_size ac.b; unfold tx at this; omega) ?_)
            intro τ5 B5 F5 S5
            exact app_I (hj _ τ5 B5 _ _ ((writeF_ok hI hB (by omega) _ _ _ _ (by have := tx_size ac.b; unfold tx at this; omega)).mono (by omega)) F5 S5)
          refine br_f (by simpa using c0) ?_
          by_cases c1 : Int.tmod ac.what 5 = 1
          · refine br_t (by simpa using c1) (call_i (s_Mkdir hI hB hN1 F4 _ _ ?_))
            intro τ5 B5 F5 S5
            exact app_I (hj _ τ5 B5 _ _ ((mkdirF_ok hI hB (by omega) _ _).mono (by omega)) F5 S5)
          refine br_f (by simpa using c1) ?_
          by_cases c2 : Int.tmod ac.what 5 = 2
          · refine br_t (by simpa using c2) (call_i (s_Symlink hI hB hN1 F4 _ _ _ ?_))
            intro τ5 B5 F5 S5
            exact app_I (hj _ τ5 B5 _ _ ((symlinkF_ok hI hB (by omega) _ _ _).mono (by omega)) F5 S5)
          refine br_f (by simpa using c2) ?_
          by_cases c3 : Int.tmod ac.what 5 = 3
          · refine br_t (by simpa using c3) ?_
            refine al_i ?_; intro b99 τ5 g7 e7 n7
            have F5 := F4.gr g7
            have hkt : (kTree (ac.b.extract 0 (min ac.b.size 300))).total ≤ 400 := by
              have := tx_size ac.b
              unfold tx at this
              simp only [kTree, Tr.total, Tr.totalRow]
              have q1 : (⟨⟨[]⟩⟩ : ByteArray).size = 0 := rfl
              have q2 : (⟨⟨[107]⟩⟩ : ByteArray).size = 1 := rfl
              omega
            have hsl : SlAt (fun b => if b = b99 then τ5 b else none) (kTree (ac.b.extract 0 (min ac.b.size 300))).kids ⟨some ⟨b99, 0, none⟩, 1, 1⟩ := by
              refine ⟨rfl, .inr ⟨b99, 0, _, _, _, rfl, by show (if b99 = b99 then τ5 b99 else none) = _; rw [if_pos rfl]; exact e7, ?_⟩⟩
              show TrAt _ (.mk ⟨⟨[107]⟩⟩ 1 false (ac.b.extract 0 (min ac.b.size 300)) []) _ ∧ True
              refine ⟨trAt_iff.2 ⟨⟨none, 0, 0⟩, rfl, rfl, .inl rfl⟩, trivial⟩
            have hof : Off (fun b => if b = b99 then τ5 b else none) τ5 B := by
              refine ⟨?_, ?_⟩
              · unfold Gr
                intro b o hb
                by_cases e : b = b99
                · simp only [e, if_true] at hb ⊢; exact hb
                · simp [e] at hb
              · intro b o hb
                by_cases e : b = b99
                · subst e; exact F4.fresh n7
                · simp [e] at hb
            refine call_i (s_Lay (kTree (ac.b.extract 0 (min ac.b.size 300))) ⟨some ⟨b99, 0, none⟩, 1, 1⟩ _ hI hB (by omega) F5 hof hsl ?_)
            intro τ6 B6 F6 S6
            exact app_I (hj _ τ6 B6 _ _ ((layF_ok hI hB _ _ (by omega)).mono (by omega)) F6 (S6.of_gr g7))
          · refine br_f (by simpa using c3) (call_i (s_Remove hI hB hN1 F4 _ _ ?_))
            intro τ5 B5 F5 S5
            exact app_I (hj _ τ5 B5 _ _ ((removeF_ok hI hB (by omega) _ _).mono (by omega)) F5 S5)
  obtain ⟨hI0, hB0⟩ := newT_ok hnew
  exact key 60 0 (newT qi qb) 1 σ3 B3 rfl hI0 hB0 (by omega) rfl rfl F3 O3
end Go.Proofs.YtlpcehbfoogejaaGreatDoor

/- THE CARDS: what they have in common. -/
set_option maxRecDepth 100000
namespace Go.Proofs.YtlpcehbfoogejaaGreatDoor
open Go Go.HL Go.Wk Go.ChangeShapes Go.WideShapes Go.ChangeAt Go.RowKit
theorem own : ownKnob Tryz.prog.godebug = none := by kernel_rfl
theorem laidOut : laidOutB Tryz.prog = true := by kernel_rfl
def accCells : Array Value := #[.int .u8 128, .int .u8 191, .int .u8 160, .int .u8 191, .int .u8 128, .int .u8 159, .int .u8 144, .int .u8 191, .int .u8 128, .int .u8 143, .int .u8 0, .int .u8 0, .int .u8 0, .int .u8 0, .int .u8 0, .int .u8 0, .int .u8 0, .int .u8 0, .int .u8 0, .int .u8 0, .int .u8 0, .int .u8 0, .int .u8 0, .int .u8 0, .int .u8 0, .int .u8 0, .int .u8 0, .int .u8 0, .int .u8 0, .int .u8 0, .int .u8 0, .int .u8 0]
def firstCells : Array Value := ⟨Go.Pinned.utf8FirstZ.map fun (n : Nat) => .int .u8 (n : Int)⟩
def setC (cs : Array Value) : Obj → Obj
  | .cells _ t frozen => .cells cs t frozen
  | o => o
/-- a world for the witness: the two tables hold what they must -/
noncomputable def laidWorld (os : Os) : World :=
  { World.holding Tryz.prog os ⟨#[], #[], []⟩ with heap := ((World.holding Tryz.prog os ⟨#[], #[], []⟩).heap.modify 1 (setC firstCells)).modify 2 (setC accCells) }
end Go.Proofs.YtlpcehbfoogejaaGreatDoor

