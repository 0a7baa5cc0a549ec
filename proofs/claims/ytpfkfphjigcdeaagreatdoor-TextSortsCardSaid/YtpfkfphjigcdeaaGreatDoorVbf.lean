/- A part of a proof. -/
import Derived.Test.YtpfkfphjigcdeaaGreatDoorVbe
import Derived.Test.YtpfkfphjigcdeaaGreatDoorChecked
import Derived.Maps.RangeRun
import Derived.Shelf.Strings.SlTrimAscii
import Derived.Shelf.LaysM
import Derived.Ground.NamesProg
import Derived.Test.YtpfkfphjigcdeaaGreatDoorProg
import Derived.RecoverIn
import Derived.Shelf.Strconv.Itoa3
import GoSem.ClaimJoined
set_option maxRecDepth 100000
namespace Go.Proofs.YtpfkfphjigcdeaaGreatDoor
open Go Go.HL Go.Wk
attribute [local irreducible] ptrW ifW brW andW rdT alW letJ stW muW biW vaW imW callT cvalT app callW invW callVW sizeT oW nilF oneK loopW rfW funW begW roundK exW idxW Gr Put
theorem und_mapFD : Tryz.prog.underlying 60 = some (.map 9 (Tryz.prog.underlying 60 |>.elim 0 fun d => match d with | .map _ e => e | _ => 0)) := by kernel_rfl
def fnv (k : FuncId) (v : Value) : Value := .func (.func k) ⟨[v]⟩ ⟨[]⟩
def txTbl (v : Value) : List (ByteArray × Value) :=
 up ⟨⟨[117, 110, 105, 113]⟩⟩ (fnv 27 v) (up ⟨⟨[115, 111, 114, 116]⟩⟩ (fnv 26 v) (up ⟨⟨[99, 117, 116]⟩⟩ (fnv 25 v) (up ⟨⟨[116, 114]⟩⟩ (fnv 24 v) (up ⟨⟨[119, 99]⟩⟩ (fnv 23 v) (up ⟨⟨[116, 97, 105, 108]⟩⟩ (fnv 22 v) (up ⟨⟨[104, 101, 97, 100]⟩⟩ (fnv 21 v) (up ⟨⟨[99, 97, 116]⟩⟩ (fnv 20 v) [])))))))
def RunEx (A : AT) (nm inn cwd : ByteArray) (args : List ByteArray) (Q : Dn -> Prop) : Prop := ∀ (σ : H) (x : Sl) (bf : Nat) (K : KH), FT A bf σ -> RowsAt σ 1 (strRows args) x -> x.len <= x.cap -> (∀ σ' d, Q d -> Gr σ σ' -> K (.tuple ⟨[dnW d, .bool true]⟩) σ') ->
 callW Tryz.prog 16 [.pointer (some ⟨bf, 0, none⟩), .agg ⟨[.string nm, .slice x.base x.len x.cap, .string inn, .string cwd]⟩] K σ
theorem run_ex {A : AT} {nm inn cwd : ByteArray} {args : List ByteArray} {Q : Dn -> Prop} {k : FuncId} (hk : ∀ v, lk nm (txTbl v) = some (fnv k v)) (hgo : isGo Tryz.prog k = true) (h : TlEx A k nm inn cwd args Q) : RunEx A nm inn cwd args Q := by
 intro σ x bf K hF hx hxc hK
 refine c16 _ nm x inn cwd ?_
 unfold g16
 refine al_i ?_; intro b6 σ1 g1 e1 n1
 refine al_i ?_; intro b7 σ2 g2 e2 n2
 refine rd_G (rdA_of (g2.get e1) (Nat.le_refl 4)) (app_of rfl ?_)
 refine al_i ?_; intro b12 σ3 g3 e3 n3
 refine st_i2 e3 sz_tool (by rfl) (by rfl) ?_; intro σ4 p4
 have g34 := g3.putF p4 n3
 refine al_i ?_; intro bm σ5 g5 e5 n5
 have k12 : σ5 b12 = some (toolC nm x inn cwd (some ⟨bf, 0, none⟩)) := g5.get p4.same
 have d12 : b12 ≠ bm := ne_fresh p4.same n5
 have m5 : MapAt σ5 bm (encL kkS (fun v : Value => v) []) := MapAt.new e5
 have N2 := g1.trans g2
 have nbm : σ2 bm = none := none_of g34 n5
 have G5 := g34.trans g5
 have step : ∀ (key : ByteArray) (f : FuncId) (l : List (ByteArray × Value)) (τ : H) (g : H -> Prop), MapAt τ bm (encL kkS (fun v : Value => v) l) -> τ b12 = some (toolC nm x inn cwd (some ⟨bf, 0, none⟩)) -> Gr σ2 τ ->
  (∀ τ', MapAt τ' bm (encL kkS (fun v : Value => v) (up key (fnv f (toolV nm x inn cwd (some ⟨bf, 0, none⟩))) l)) -> τ' b12 = some (toolC nm x inn cwd (some ⟨bf, 0, none⟩)) -> Gr σ2 τ' -> g τ') ->
  rdT (rdA 5 b12 0) (.one (.agg [.str, .slc, .str, .str, .ptr])) (fun (x14 : ByteArray) (x15 : Sl) (x16 : ByteArray) (x17 : ByteArray) (x18 : Option Addr) =>
   muW Tryz.prog 60 (.map (some bm)) (.string key) (.func (.func f) ⟨[.agg ⟨[.string x14, .slice x15.base x15.len x15.cap, .string x16, .string x17, .pointer x18]⟩]⟩ ⟨[]⟩) g) τ := by
  intro key f l τ g hm h12 hg hn
  refine rd_G (rdA_of h12 (Nat.le_refl 5)) (app_of rfl ?_)
  refine mu_i (kk := kkS) (f := fun v : Value => v) und_mapFD und_strT hm key (fnv f (toolV nm x inn cwd (some ⟨bf, 0, none⟩))) ?_
  intro o τ' p m
  exact hn τ' m (p.get d12 h12) (hg.putF p nbm)
 refine step _ 20 _ σ5 _ m5 k12 G5 fun τ1 m1 k1 G1 => ?_
 refine step _ 21 _ τ1 _ m1 k1 G1 fun τ2 m2 k2 G2 => ?_
 refine step _ 22 _ τ2 _ m2 k2 G2 fun τ3 m3 k3 G3 => ?_
 refine step _ 23 _ τ3 _ m3 k3 G3 fun τ4 m4 k4 G4 => ?_
 refine step _ 24 _ τ4 _ m4 k4 G4 fun τ5 m5' k5 G5' => ?_
 refine step _ 25 _ τ5 _ m5' k5 G5' fun τ6 m6 k6 G6 => ?_
 refine step _ 26 _ τ6 _ m6 k6 G6 fun τ7 m7 k7 G7 => ?_
 refine step _ 27 _ τ7 _ m7 k7 G7 fun τ8 m8 k8 G8 => ?_
 refine rd_S (rdC_of (G8.get (g2.get e1)) (by rfl)) ?_
 refine rd_G (rdM_at (kk := kkS) (f := fun v : Value => v) m8 (.nilFunc) true nm) ?_
 have hlk := hk (toolV nm x inn cwd (some ⟨bf, 0, none⟩))
 unfold txTbl at hlk
 rw [hlk]
 refine app_of rfl ?_
 have GG := N2.trans G8
 refine br_f rfl (cval_i hgo (h τ8 x bf _ (hF.gr GG) (hx.gr GG) hxc fun τ9 d hQ g9 => app_of rfl ?_))
 refine st_i2 (g9.get (G8.get e2)) sz_done (by rfl) (by rfl) ?_; intro τt pt
 refine rd_G (rdA_of pt.same (Nat.le_refl 3)) (app_of rfl ?_)
 exact hK τt d hQ ((GG.trans g9).putF pt (none_of g1 n2))
theorem lk_cat (v : Value) : lk (⟨⟨[99, 97, 116]⟩⟩ : ByteArray) (txTbl v) = some (fnv 20 v) := by rfl
theorem lk_head (v : Value) : lk (⟨⟨[104, 101, 97, 100]⟩⟩ : ByteArray) (txTbl v) = some (fnv 21 v) := by rfl
theorem lk_tail (v : Value) : lk (⟨⟨[116, 97, 105, 108]⟩⟩ : ByteArray) (txTbl v) = some (fnv 22 v) := by rfl
theorem lk_wc (v : Value) : lk (⟨⟨[119, 99]⟩⟩ : ByteArray) (txTbl v) = some (fnv 23 v) := by rfl
theorem lk_tr (v : Value) : lk (⟨⟨[116, 114]⟩⟩ : ByteArray) (txTbl v) = some (fnv 24 v) := by rfl
theorem lk_cut (v : Value) : lk (⟨⟨[99, 117, 116]⟩⟩ : ByteArray) (txTbl v) = some (fnv 25 v) := by rfl
theorem lk_sort (v : Value) : lk (⟨⟨[115, 111, 114, 116]⟩⟩ : ByteArray) (txTbl v) = some (fnv 26 v) := by rfl
theorem lk_uniq (v : Value) : lk (⟨⟨[117, 110, 105, 113]⟩⟩ : ByteArray) (txTbl v) = some (fnv 27 v) := by rfl
end Go.Proofs.YtpfkfphjigcdeaaGreatDoor

namespace Go.HL
open Go
section
variable {P : Program} {ops : Array Oper} {cl : Nat -> Nat} {A : Nat -> Nat -> Bool}
def draw3Ok (ops : Array Oper) (cl : Nat -> Nat) (AL : List (List Nat)) (p : List Nat) (i k : Nat) (m1 : List Nat) (j : Nat) (m2 : List Nat) : Bool :=
 listOk ops (p ++ i :: k :: m1) && listOk ops (p ++ k :: j :: m2) && pairOk ops cl (ancOf AL) (p ++ k :: m1) && pairOk ops cl (ancOf AL) (p ++ m1) && pairOk ops cl (ancOf AL) (p ++ m2) && p.all (fun y => rlB ops cl AL y i && (rlB ops cl AL y j && rlB ops cl AL y k)) && m1.all (fun x => Nat.beq x j || (ancOf AL i x || ancOf AL j x)) && (m2.contains i && m1.contains j) && (Nat.beq (cl k) 2 && (!ancOf AL i k && (swapOk ops cl i k && ancOf AL k j))) && ancOk ops AL
end
def D3 (P : Program) (τ : TypeId -> TK) (N : Nat) : Code -> Ann -> Option Nat -> Env -> (Env -> H -> Prop) -> (Nat -> Env -> H -> Prop) -> (Env -> H -> Prop) -> H -> Prop
 | .skip, _, _, e, Kn, _, _, σ => Kn e σ
 | .label _, _, _, e, Kn, _, _, σ => Kn e σ
 | .exit i, _, _, e, _, Kx, _, σ => Kx i e σ
 | .scope x, an, ro, e, Kn, Kx, Kr, σ => match an with
  | .blk a => D3 P τ N x a ro e Kn Kx Kr σ
  | _ => False
 | .ret, _, _, e, _, _, Kr, σ => Kr e σ
 | .seq x y, an, ro, e, Kn, Kx, Kr, σ => match an with
  | .seq none a b => D3 P τ N x a ro e (fun e' => D3 P τ N y b ro e' Kn Kx Kr) Kx Kr σ
  | .seq (some l) a b => letJ (l.lam fun e' => D3 P τ N y b ro e' Kn Kx Kr) (fun j => D3 P τ N x a ro e (fun e' => l.app j e') Kx Kr) σ
  | _ => False
 | .cond c x y, an, ro, e, Kn, Kx, Kr, σ => match an, evO e c with
  | .cond a b, some (.bool t) => brW t (D3 P τ N x a ro e Kn Kx Kr) (D3 P τ N y b ro e Kn Kx Kr) σ
  | _, _ => False
 | .block id x, an, ro, e, Kn, Kx, Kr, σ => match an with
  | .blk a => D3 P τ N x a ro e Kn (fun i e' σ => match Nat.beq i id with | true => Kn e' σ | false => Kx i e' σ) Kr σ
  | _ => False
 | .loop x, an, ro, e, _, Kx, Kr, σ => match an with
  | .loop l a => loopW l.ks (fun R => l.lam fun e' => D3 P τ N x a ro e' (fun e'' => l.app R e'') Kx Kr) (fun R => l.app R e) σ
  | _ => False
 | .region _ ops draw, an, _, e, Kn, _, _, σ => match an, draw with
  | .reg π AL, true => match drawOk ops (clI P ops.toList) AL π with
   | true => rgF P τ N ops.toList (ancOf AL) π [] e (fun _ => Kn) σ
   | false => False
  | .reg _ _, false => rgF P τ N ops.toList (fun _ _ => true) (List.range ops.size) [] e (fun _ => Kn) σ
  | .reg2 p i (k :: m1) j m2 AL, true => match draw3Ok ops (clI P ops.toList) AL p i k m1 j m2 with
   | true => rgF P τ N ops.toList (ancOf AL) p [] e (fun q e' => bothW (rgF P τ N ops.toList (ancOf AL) (i :: k :: m1) q e' (fun _ => Kn)) (rgF P τ N ops.toList (ancOf AL) (k :: j :: m2) q e' (fun _ => Kn))) σ
   | false => False
  | _, _ => False
 | .rangeFunc f ps asg body, an, ro, e, Kn, Kx, Kr, σ => match an, evO e f with
  | .rf ks a b, some fv => match sameLen ps.toList ks && allLt N ps.toList with
   | true => funW fv (fun g as0 cs => rfW P ro g as0 cs ks (fun l obj K => lamC ks fun vs => D3 P τ N asg a (some l) (e.puts ps.toList vs)
    (fun e1 => begW l obj (D3 P τ N body b (some l) e1 (fun _ => roundK l obj K none true .ready) (fun i _ => roundK l obj K (some (.exit i)) false .done) (fun _ => roundK l obj K (some .ret) false .done)))
    (fun _ _ _ => False) (fun _ _ => False)) (Kn e) (fun i => Kx i e) (Kr e)) σ
   | false => False
  | _, _ => False
 | _, _, _, _, _, _, _, _ => False

section
variable {P : Program} {τ : TypeId -> TK} {N : Nat}
end
end Go.HL

set_option maxRecDepth 100000
namespace Go.Proofs.YtpfkfphjigcdeaaGreatDoor
open Go Go.HL
end Go.Proofs.YtpfkfphjigcdeaaGreatDoor

set_option maxRecDepth 100000
namespace Go.Proofs.YtpfkfphjigcdeaaGreatDoor
open Go Go.HL Go.Wk
attribute [local irreducible] ptrW ifW brW andW rdT alW letJ stW muW biW vaW imW callT cvalT app callW invW callVW sizeT oW nilF oneK loopW rfW funW begW roundK exW idxW Gr Put
theorem sz_arr12 : sizeT Tryz.prog 43 = some 12 := by kernel_rfl
section
variable {A : AT} {σ : H} {bf : Nat} {K : KH}
theorem s_out {inn call nm : ByteArray} {args : List ByteArray} {Q : Dn -> Prop} (hp : partsOf 124 call = nm :: args) (hcs : call.size <= 1000000000) (h : RunEx A nm inn ⟨⟨[47]⟩⟩ args Q) (hQ : ∀ d, Q d -> d.st = 0 /\ d.err = ⟨⟨[]⟩⟩) (hF : FT A bf σ) (hK : ∀ σ' d, Q d -> Gr σ σ' -> K (.string d.out) σ') :
 callW Tryz.prog 9 [.pointer (some ⟨bf, 0, none⟩), .string inn, .string call] K σ := by
 refine c9 _ _ _ ?_
 unfold g9
 refine call_i (s_SplitC call 124 hcs fun y σ1 hy => app_L ?_)
 rw [hp] at hy
 obtain ⟨g, o, q1, q2, q3⟩ := sRow (i := 0) (s := nm) hy.at (by rfl)
 rw [q1]
 refine ptr_i (if_i ⟨Int.le_refl _, by show (0 : Int) < ((y.len : Nat) : Int); omega⟩ (rd_S q3 (if_i ⟨bnd_none, bnd_some (by decide) (by show (1 : Int) <= ((y.len : Nat) : Int); omega)⟩ ?_)))
 have ht := sTail hy.at (rnew_cap hy)
 rw [q1] at ht
 refine call_i (h σ1 _ bf _ (hF.gr hy.1) ht (by have := rnew_cap hy; simp only; omega) fun σ2 d hd g2 => app_of rfl ?_)
 refine al_i ?_; intro b σ3 g3 e3 n3
 refine st_i2 e3 sz_done (by rfl) (by rfl) ?_; intro σ4 p4
 obtain ⟨d1, d2⟩ := hQ d hd
 refine j_i (fun j => j (some ⟨b, 0, none⟩) false σ4) ?_ ?_
 ·refine br_f rfl (ptr_i (rd_S (rdC_of p4.same (by rfl)) ?_))
  exact hK σ4 d hd ((hy.1.trans g2).trans (g3.putF p4 n3))
 ·intro j hj
  refine br_f rfl (rd_I (rdC_of p4.same (by rfl)) ?_)
  rw [d1]
  refine br_f rfl (rd_S (rdC_of p4.same (by rfl)) ?_)
  rw [d2]
  rw [strEq_iff.2 rfl]
  exact hj
theorem s_fails {call nm err : ByteArray} {st : Int} {args : List ByteArray} {d : Dn} (hp : partsOf 124 call = nm :: args) (hcs : call.size <= 1000000000) (h : RunEx A nm ⟨⟨[]⟩⟩ ⟨⟨[47]⟩⟩ args (· = d)) (h1 : d.st = st) (h2 : d.err = err) (h3 : d.out = ⟨⟨[]⟩⟩) (hF : FT A bf σ) (hK : ∀ σ', Gr σ σ' -> K (.bool true) σ') :
 callW Tryz.prog 14 [.pointer (some ⟨bf, 0, none⟩), .string call, .string err, .int .i64 st] K σ := by
 refine c14 _ _ _ _ ?_
 unfold g14
 refine call_i (s_SplitC call 124 hcs fun y σ1 hy => app_L ?_)
 rw [hp] at hy
 obtain ⟨g, o, q1, q2, q3⟩ := sRow (i := 0) (s := nm) hy.at (by rfl)
 rw [q1]
 refine ptr_i (if_i ⟨Int.le_refl _, by show (0 : Int) < ((y.len : Nat) : Int); omega⟩ (rd_S q3 (if_i ⟨bnd_none, bnd_some (by decide) (by show (1 : Int) <= ((y.len : Nat) : Int); omega)⟩ ?_)))
 have ht := sTail hy.at (rnew_cap hy)
 rw [q1] at ht
 refine call_i (h σ1 _ bf _ (hF.gr hy.1) ht (by have := rnew_cap hy; simp only; omega) fun σ2 d' hd g2 => app_of rfl ?_)
 subst hd
 refine al_i ?_; intro b σ3 g3 e3 n3
 refine st_i2 e3 sz_done (by rfl) (by rfl) ?_; intro σ4 p4
 refine br_t rfl (rd_I (rdC_of p4.same (by rfl)) (br_t (by rw [h1]; simp) (rd_S (rdC_of p4.same (by rfl)) (br_t (by rw [h2]; exact strEq_iff.2 rfl) (rd_S (rdC_of p4.same (by rfl)) ?_)))))
 rw [h3, strEq_iff.2 rfl]
 exact hK σ4 ((hy.1.trans g2).trans (g3.putF p4 n3))
theorem s_empty (hI : ItoaT σ) (hK : ∀ bf σ', Gr σ σ' -> FT (newT 9 900) bf σ' -> K (.pointer (some ⟨bf, 0, none⟩)) σ') : callW Tryz.prog 7 [] K σ := by
 refine c7 ?_
 unfold g7
 refine call_i (s_New 9 900 (fun h => by cases h) fun _ bf σ' B' hF hg _ => app_P (hK bf σ' hg ⟨hI.gr hg, B', hF⟩))
end
def words18 : List ByteArray := [⟨⟨[]⟩⟩, ⟨⟨[97]⟩⟩, ⟨⟨[98]⟩⟩, ⟨⟨[97, 98]⟩⟩, ⟨⟨[49, 48]⟩⟩, ⟨⟨[57]⟩⟩, ⟨⟨[45, 51]⟩⟩, ⟨⟨[32, 55]⟩⟩, ⟨⟨[49, 101, 51]⟩⟩, ⟨⟨[110, 97, 110]⟩⟩, ⟨⟨[48, 120]⟩⟩, ⟨⟨[45, 48]⟩⟩]
def wordOf (c : UInt8) : ByteArray := words18.getD (c.toNat % 12) ⟨⟨[]⟩⟩
def all18 (l : List UInt8) : List ByteArray := (l.take 80).map wordOf
theorem word_size (c : UInt8) : (wordOf c).size <= 3 := by
 unfold wordOf
 have : c.toNat % 12 < 12 := Nat.mod_lt _ (by decide)
 generalize c.toNat % 12 = i at this
 revert i; decide
theorem s_joined18 {l : List UInt8} {x : Sl} {σ : H} (hx : RowsAt σ 1 (brows l) x) {K : KH} (hK : ∀ y σ', RNew σ σ' 9 1 (strRows (all18 l)) y -> K (.tuple ⟨[.string ⟨⟨joinedP (all18 l)⟩⟩, .slice y.base y.len y.cap]⟩) σ') : callW Tryz.prog 8 [.slice x.base x.len x.cap] K σ := by
 refine c8 x ?_
 unfold g8
 have hxl : x.len = l.length := by rw [hx.1, brows_len]
 refine al_i ?_; intro b2 σ1 g1 e1 n1
 refine st_i2 e1 sz_arr12 (by rfl) (by rfl) ?_; intro σ2 p2
 have e2 : σ2 b2 = some (.cells ⟨words18.map Value.string⟩ 43 (0, 0)) := p2.same
 have g2 := g1.putF p2 n1
 refine loop_i fun R hR => ?_
 have jl : ∀ l : List UInt8, (joinedP (l.map wordOf)).length <= 4 * l.length := by
  intro l
  induction l with
  | nil => exact Nat.le_refl _
  | cons c r ih =>
   rw [List.map_cons, joined_cons_len, List.length_cons]
   have := word_size c
   have h2 : (bl (wordOf c)).length = (wordOf c).size := rfl
   omega
 have key : ∀ m k o τ, 80 - k = m -> k <= 80 -> k <= l.length -> RNew σ2 τ 9 1 (strRows ((l.take k).map wordOf)) o -> R x (some ⟨b2, 0, none⟩) ⟨⟨joinedP ((l.take k).map wordOf)⟩⟩ o (k : Int) τ := by
  intro m
  induction m with
  | zero =>
   intro k o τ hm hk hkl ho
   have hk80 : k = 80 := by omega
   subst hk80
   have hfin : app (.tup []) (K (.tuple ⟨[.string ⟨⟨joinedP ((l.take 80).map wordOf)⟩⟩, .slice o.base o.len o.cap]⟩)) (.tuple ⟨[]⟩) τ := app_U (hK o τ (ho.since g2))
   refine hR _ _ _ _ _ _ (j_i (fun j => ∀ b, b = false -> j x (some ⟨b2, 0, none⟩) ⟨⟨joinedP ((l.take 80).map wordOf)⟩⟩ o ((80 : Nat) : Int) b τ) (fun b hb => by subst hb; exact br_f rfl (hK o τ (ho.since g2))) fun j hj => ?_)
   by_cases h : 80 < l.length
   ·exact br_t (by rw [decide_eq_true_eq]; omega) (hj _ (by decide))
   ·exact br_f (by rw [decide_eq_false_iff_not]; omega) (hj _ rfl)
  | succ m ih =>
   intro k o τ hm hk hkl ho
   by_cases h : k < l.length
   ·obtain ⟨c, hc⟩ : ∃ c, l[k]? = some c := ⟨_, List.getElem?_eq_getElem h⟩
    obtain ⟨g, oo, q1, q2, q3⟩ := bRow ((hx.gr g2).gr ho.1) hc
    have hj80 := jl (l.take k)
    rw [List.length_take] at hj80
    have hws := word_size c
    refine hR _ _ _ _ _ _ (j_i (fun j => ∀ b, b = true -> j x (some ⟨b2, 0, none⟩) ⟨⟨joinedP ((l.take k).map wordOf)⟩⟩ o (k : Int) b τ) (fun b hb => ?_) fun j hj => br_t (by rw [decide_eq_true_eq]; omega) (hj _ (by rw [decide_eq_true_eq]; omega)))
    subst hb
    refine br_t rfl ?_
    rw [q1]
    refine ptr_i (if_i ⟨by omega, by omega⟩ (rd_I (by rw [Int.toNat_natCast]; exact q3) (if_i (by decide) ?_)))
    have hmod : Int.tmod ((c.toNat : Nat) : Int) 12 = ((c.toNat % 12 : Nat) : Int) := by rw [Int.tmod_eq_emod_of_nonneg (by omega)]; omega
    have hlt : c.toNat % 12 < 12 := Nat.mod_lt _ (by decide)
    rw [hmod]
    have hw : (words18.map Value.string)[c.toNat % 12]? = some (.string (wordOf c)) := by
     unfold wordOf
     rw [List.getElem?_map, List.getD_eq_getElem?_getD, List.getElem?_eq_getElem (by exact hlt)]; rfl
    refine ptr_i (if_i ⟨by omega, by omega⟩ (rd_S (rdC_of (ho.1.get e2) (by rw [show 0 + ((c.toNat % 12 : Nat) : Int).toNat * 1 = c.toNat % 12 by omega]; exact hw)) ?_))
    refine if_i ?_ (if_i ?_ ?_)
    ·show (joinedP ((l.take k).map wordOf)).length + (wordOf c).size <= _; omega
    ·rw [ByteArray.size_append]; show (joinedP ((l.take k).map wordOf)).length + (wordOf c).size + 1 <= _; omega
    refine ho.app1 el_strsT rfl rfl (by rw [strRows_len, List.length_map, List.length_take]; omega) fun o' τ' h' _ _ => ?_
    rw [wS (a := k) (by omega)]
    have htk : (l.take (k + 1)).map wordOf = (l.take k).map wordOf ++ [wordOf c] := by rw [List.take_add_one, hc, List.map_append]; rfl
    have hjn : ((⟨⟨joinedP ((l.take k).map wordOf)⟩⟩ : ByteArray) ++ wordOf c) ++ ⟨⟨[10]⟩⟩ = ⟨⟨joinedP ((l.take (k + 1)).map wordOf)⟩⟩ := by
     refine bytes_ext ?_
     rw [htk]
     unfold joinedP bl
     simp
    rw [hjn]
    refine ih (k + 1) o' τ' (by omega) (by omega) (by omega) ?_
    rw [htk]
    unfold strRows at h' ⊢
    rw [List.map_append (f := fun s => [Value.string s])]; exact h'
   ·have hk' : (l.take k).map wordOf = all18 l := by
     unfold all18
     rw [List.take_of_length_le (by omega), List.take_of_length_le (by omega)]
    rw [hk'] at ho ⊢
    refine hR _ _ _ _ _ _ (j_i (fun j => j x (some ⟨b2, 0, none⟩) ⟨⟨joinedP (all18 l)⟩⟩ o (k : Int) false τ) (br_f rfl (hK o τ (ho.since g2))) fun j hj => br_f (by rw [decide_eq_false_iff_not]; omega) hj)
 exact key 80 0 ⟨none, 0, 0⟩ σ2 rfl (by decide) (Nat.zero_le _) (RNew.nil _ _ _)
theorem go_txCat : isGo Tryz.prog 20 = true := by kernel_rfl
theorem go_txHead : isGo Tryz.prog 21 = true := by kernel_rfl
theorem go_txTail : isGo Tryz.prog 22 = true := by kernel_rfl
theorem go_txWc : isGo Tryz.prog 23 = true := by kernel_rfl
theorem go_txTr : isGo Tryz.prog 24 = true := by kernel_rfl
theorem go_txCut : isGo Tryz.prog 25 = true := by kernel_rfl
theorem go_txSort : isGo Tryz.prog 26 = true := by kernel_rfl
theorem go_txUniq : isGo Tryz.prog 27 = true := by kernel_rfl
def OutIs (A : AT) (inn call : ByteArray) (Q : ByteArray -> Prop) : Prop := ∀ (σ : H) (bf : Nat) (K : KH), FT A bf σ -> (∀ σ' o, Q o -> Gr σ σ' -> K (.string o) σ') -> callW Tryz.prog 9 [.pointer (some ⟨bf, 0, none⟩), .string inn, .string call] K σ
section
variable {A : AT} {inn call nm : ByteArray} {args : List ByteArray}
theorem out_ok {k : FuncId} {o : List UInt8} (hp : partsOf 124 call = nm :: args) (hcs : call.size <= 1000000000) (hk : ∀ v, lk nm (txTbl v) = some (fnv k v)) (hgo : isGo Tryz.prog k = true) (h : TlOk A k nm inn ⟨⟨[47]⟩⟩ args (doneP o)) : OutIs A inn call (· = ⟨⟨o⟩⟩) := by
 intro σ bf K hF hK
 refine s_out hp hcs (run_ex hk hgo h.ex) (fun d hd => by subst hd; exact ⟨rfl, rfl⟩) hF fun σ' d hd hg => ?_
 subst hd
 exact hK σ' _ rfl hg
theorem out_head {n : Nat} {m : List (Int × ByteArray)} (hp : partsOf 124 call = ⟨⟨[104, 101, 97, 100]⟩⟩ :: args) (hcs : call.size <= 1000000000) (hz : ∀ a ∈ args, a.size <= 1000000000) (hv : valuesP [110] args = some (m, [])) (hnum : (lk (110 : Int) m = none /\ n = 10) \/ ∃ s, lk (110 : Int) m = some s /\ numberP (bl s) = some n) (hi : inn.size <= 1000000000)
 (hj : (joinedP ((linesP (bl inn)).take (min n (linesP (bl inn)).length))).length <= 1000000000) : OutIs A inn call (· = ⟨⟨joinedP ((linesP (bl inn)).take (min n (linesP (bl inn)).length))⟩⟩) :=
 out_ok hp hcs lk_head go_txHead (tl_head hz hv hnum hi hj)
theorem out_tail {n : Nat} {m : List (Int × ByteArray)} (hp : partsOf 124 call = ⟨⟨[116, 97, 105, 108]⟩⟩ :: args) (hcs : call.size <= 1000000000) (hz : ∀ a ∈ args, a.size <= 1000000000) (hv : valuesP [110] args = some (m, [])) (hnum : (lk (110 : Int) m = none /\ n = 10) \/ ∃ s, lk (110 : Int) m = some s /\ numberP (bl s) = some n) (hi : inn.size <= 1000000000)
 (hj : (joinedP ((linesP (bl inn)).drop ((linesP (bl inn)).length - min n (linesP (bl inn)).length))).length <= 1000000000) : OutIs A inn call (· = ⟨⟨joinedP ((linesP (bl inn)).drop ((linesP (bl inn)).length - min n (linesP (bl inn)).length))⟩⟩) :=
 out_ok hp hcs lk_tail go_txTail (tl_tail hz hv hnum hi hj)
theorem out_uniq {got : List UInt8} (hp : partsOf 124 call = ⟨⟨[117, 110, 105, 113]⟩⟩ :: args) (hcs : call.size <= 1000000000) (hz : ∀ a ∈ args, a.size <= 1000000000) (hlen : (opsF [99, 100] [] args).1.length <= 1000000000) (hv : flagsP [99, 100] args = some (got, [])) (hi : inn.size <= 100000)
 (hj : (joinedP (uniqP (got.contains 99) (got.contains 100) ((linesP (bl inn)).length + 1) (linesP (bl inn)))).length <= 1000000000) (hlz : ∀ a ∈ linesP (bl inn), a.size <= 1000000000) : OutIs A inn call (· = ⟨⟨joinedP (uniqP (got.contains 99) (got.contains 100) ((linesP (bl inn)).length + 1) (linesP (bl inn)))⟩⟩) :=
 out_ok hp hcs lk_uniq go_txUniq (tl_uniq hz hlen hv hi hj hlz)
theorem out_wc {got : List UInt8} (hp : partsOf 124 call = ⟨⟨[119, 99]⟩⟩ :: args) (hcs : call.size <= 1000000000) (hz : ∀ a ∈ args, a.size <= 1000000000) (hlen : (opsF [108, 119, 99] [] args).1.length <= 1000000000) (hv : flagsP [108, 119, 99] args = some (got, [])) (hi : inn.size <= 100000) (ha : ∀ c ∈ bl inn, c.toNat < 128) :
 OutIs A inn call (· = ⟨⟨joinB [32] ((wcL got (bl inn)).map fun s => s.data.toList) ++ [10]⟩⟩) :=
 out_ok hp hcs lk_wc go_txWc (tl_wc hz hlen hv hi ha)
theorem out_tr {got : List UInt8} {s1 s2 : List UInt8} {rest : List ByteArray} {fr tq : List UInt8} (hp : partsOf 124 call = ⟨⟨[116, 114]⟩⟩ :: args) (hcs : call.size <= 1000000000) (hz : ∀ a ∈ args, a.size <= 1000000000) (hlen : (opsF [100] [] args).1.length <= 1000000000) (hv : flagsP [100] args = some (got, rest)) (hi : inn.size <= 100000)
 (hrest : (got ≠ [] /\ rest = [⟨⟨s1⟩⟩] /\ s2 = s1) \/ (got = [] /\ rest = [⟨⟨s1⟩⟩, ⟨⟨s2⟩⟩])) (h1 : setP s1 = some fr) (h2 : setP s2 = some tq) (hb1 : ∀ c ∈ s1, c ≠ 92) (hb2 : ∀ c ∈ s2, c ≠ 92) (hl1 : s1.length <= 1000000) (hl2 : s2.length <= 1000000) (hf1 : fr.length <= 1000000) (hf2 : tq.length <= 1000000) (hn1 : fr ≠ []) (hn2 : tq ≠ []) :
 OutIs A inn call (· = ⟨⟨trP fr tq (!got.isEmpty) (bl inn)⟩⟩) :=
 out_ok hp hcs lk_tr go_txTr (tl_tr hz hlen hv hi hrest h1 h2 hb1 hb2 hl1 hl2 hf1 hf2 hn1 hn2)
theorem out_cut {m : List (Int × ByteArray)} {isF : Bool} {c : UInt8} {w : List UInt8} {x y : Int} (hp : partsOf 124 call = ⟨⟨[99, 117, 116]⟩⟩ :: args) (hcs : call.size <= 1000000000) (hz : ∀ a ∈ args, a.size <= 1000000000) (hv : valuesP [100, 102, 99] args = some (m, [])) (hi : inn.size <= 100000)
 (hm : (isF = true /\ lk (100 : Int) m = some ⟨⟨[c]⟩⟩ /\ lk (102 : Int) m = some ⟨⟨w⟩⟩ /\ lk (99 : Int) m = none) \/ (isF = false /\ lk (100 : Int) m = none /\ lk (102 : Int) m = none /\ lk (99 : Int) m = some ⟨⟨w⟩⟩))
 (hc : w.contains 44 = false) (hl : w.length <= 1000000) (hd : strEq ⟨⟨w⟩⟩ ⟨⟨[45]⟩⟩ = false) (hx : NumOr (bl (cutB1 45 ⟨⟨w⟩⟩).1) 1 x) (hy : NumOr (if (cutB1 45 ⟨⟨w⟩⟩).2.2 then bl (cutB1 45 ⟨⟨w⟩⟩).2.1 else bl (cutB1 45 ⟨⟨w⟩⟩).1) 9223372036854775807 y) (hw : w ≠ []) (h1 : 1 <= x) (hxy : x <= y)
 (hlz : ∀ a ∈ linesP (bl inn), a.size <= 1000000) (hj : (joinedP (cutP isF c x y (linesP (bl inn)))).length <= 1000000000) :
 OutIs A inn call (· = ⟨⟨joinedP (cutP isF c x y (linesP (bl inn)))⟩⟩) :=
 out_ok hp hcs lk_cut go_txCut (tl_cut hz hv hi hm hc hl hd hx hy hw h1 hxy hlz hj)
theorem out_sort {got : List UInt8} (hp : partsOf 124 call = ⟨⟨[115, 111, 114, 116]⟩⟩ :: args) (hcs : call.size <= 1000000000) (hz : ∀ a ∈ args, a.size <= 1000000000) (hlen : (opsF [110, 114, 117, 103] [] args).1.length <= 1000000000) (hv : flagsP [110, 114, 117, 103] args = some (got, [])) (hgl : got.length <= 1000000000) (hi : inn.size <= 100000)
 {fv : Value} (hone : fv.oneCell' = true) (hcs' : arrL fv.cells = [fv]) {D : ByteArray -> Prop} {c : ByteArray -> ByteArray -> Int} (h3 : Ord3 c) (hb : ∀ ρ, ItoaT ρ -> ByOk ρ fv D c) (hD : ∀ a ∈ linesP (bl inn), D a)
 (hfv : (lastN 110 got > lastN 103 got /\ fv = .func (.func 55) ⟨[]⟩ ⟨[]⟩) \/ (lastN 103 got > lastN 110 got /\ fv = .func (.func 58) ⟨[]⟩ ⟨[]⟩) \/ (lastN 110 got = lastN 103 got /\ fv = .func (.func 53) ⟨[]⟩ ⟨[]⟩))
 (hj : (joinedP (linesP (bl inn))).length <= 1000000000) : OutIs A inn call (fun o => ∃ out, SortR c (got.contains 117) (got.contains 114) (linesP (bl inn)) out /\ o = ⟨⟨joinedP out⟩⟩) := by
 intro σ bf K hF hK
 refine s_out hp hcs (run_ex lk_sort go_txSort (tl_sort hz hlen hv hgl hi hone hcs' h3 hb hD hfv hj)) (fun d hd => by obtain ⟨out, _, rfl⟩ := hd; exact ⟨rfl, rfl⟩) hF fun σ' d hd hg => ?_
 obtain ⟨out, h, rfl⟩ := hd
 exact hK σ' _ ⟨out, h, rfl⟩ hg
theorem out_sortS {got : List UInt8} (hp : partsOf 124 call = ⟨⟨[115, 111, 114, 116]⟩⟩ :: args) (hcs : call.size <= 1000000000) (hz : ∀ a ∈ args, a.size <= 1000000000) (hlen : (opsF [110, 114, 117, 103] [] args).1.length <= 1000000000) (hv : flagsP [110, 114, 117, 103] args = some (got, [])) (hgl : got.length <= 1000000000) (hi : inn.size <= 100000) (hfv : lastN 110 got = lastN 103 got) (hj : (joinedP (linesP (bl inn))).length <= 1000000000) :
 OutIs A inn call (fun o => ∃ out, SortR cmpS (got.contains 117) (got.contains 114) (linesP (bl inn)) out /\ o = ⟨⟨joinedP out⟩⟩) :=
 out_sort hp hcs hz hlen hv hgl hi (fv := .func (.func 53) ⟨[]⟩ ⟨[]⟩) rfl rfl ord_S (fun ρ _ => by_str ρ) (fun _ _ => trivial) (.inr (.inr ⟨hfv, rfl⟩)) hj
end
theorem OutIs.imp {A : AT} {inn call : ByteArray} {Q Q' : ByteArray -> Prop} (h : OutIs A inn call Q) (hq : ∀ o, Q o -> Q' o) : OutIs A inn call Q' := fun σ bf K hF hK => h σ bf K hF fun σ' o ho hg => hK σ' o (hq o ho) hg
theorem sort_uniq {c : ByteArray -> ByteArray -> Int} {once turned : Bool} (h3 : Ord3 (sortC c once turned)) (hz : ∀ a b, sortC c once turned a b = 0 -> a = b) {L l1 l2 : List ByteArray} (p1 : l1.Perm L) (p2 : l2.Perm L) (s1 : l1.Pairwise fun a b => 0 <= sortC c once turned b a) (s2 : l2.Pairwise fun a b => 0 <= sortC c once turned b a) : l1 = l2 := by
 refine List.Perm.eq_of_pairwise (fun a b _ _ h1 h2 => ?_) s1 s2 (p1.trans p2.symm)
 have := h3.anti a b
 exact (hz a b (by omega))
theorem sortS_zero {once turned : Bool} {a b : ByteArray} (h : sortC cmpS once turned a b = 0) : a = b := by
 cases once with
 | false => exact sortC_zero h
 | true =>
  unfold sortC at h
  simp only [Bool.not_true, Bool.and_false, Bool.false_eq_true, if_false] at h
  cases turned with
  | true => simp only [if_true] at h; exact cmpS_zero (by omega)
  | false => exact cmpS_zero (by simpa using h)
theorem sortR_uniq {once turned : Bool} {L o1 o2 : List ByteArray} (h1 : SortR cmpS once turned L o1) (h2 : SortR cmpS once turned L o2) : o1 = o2 := by
 obtain ⟨l1, p1, s1, e1⟩ := h1
 obtain ⟨l2, p2, s2, e2⟩ := h2
 have := sort_uniq (ord_sort _ ord_S once turned) (fun a b => sortS_zero) p1 p2 s1 s2
 rw [e1, e2, this]
def cmpB (a b : ByteArray) : Int := if Op.bytesLess a.data.toList b.data.toList then -1 else if sEq a b then 0 else 1
theorem cmpB_eq : cmpS = cmpB := by funext a b; unfold cmpS cmpB; rw [strLt_data, sEq_eq]
def sortB3 (once turned : Bool) (a b : ByteArray) : Int :=
 let k := if cmpB a b == 0 && !once then cmpB a b else cmpB a b
 if turned then -k else k
theorem sortB3_eq (once turned : Bool) : sortC cmpS once turned = sortB3 once turned := by funext a b; unfold sortC sortB3; rw [cmpB_eq]
def in18 : ByteArray := ⟨⟨[98, 32, 50, 10, 97, 32, 49, 48, 10, 97, 32, 49, 48, 10]⟩⟩
theorem in18_lines : linesP (bl in18) = [⟨⟨[98, 32, 50]⟩⟩, ⟨⟨[97, 32, 49, 48]⟩⟩, ⟨⟨[97, 32, 49, 48]⟩⟩] := by rfl
theorem in18_sz : ∀ a ∈ linesP (bl in18), a.size <= 1000000 := by rw [in18_lines]; decide
theorem sE_ne {a b : List UInt8} (h : a ≠ b) : strEq ⟨⟨a⟩⟩ ⟨⟨b⟩⟩ = false := by
 rw [Bool.eq_false_iff]; intro e
 have := strEq_iff.1 e
 injection this with this; injection this with this
 exact h this
theorem sE50 : strEq ⟨⟨[50]⟩⟩ ⟨⟨[45]⟩⟩ = false := sE_ne (by decide)
theorem sE49 : strEq ⟨⟨[49]⟩⟩ ⟨⟨[45]⟩⟩ = false := sE_ne (by decide)
section
variable {A : AT}

theorem w_sort : OutIs A in18 ⟨⟨[115, 111, 114, 116]⟩⟩ (· = ⟨⟨[97, 32, 49, 48, 10, 97, 32, 49, 48, 10, 98, 32, 50, 10]⟩⟩) := by
 refine (out_sortS (args := []) (got := []) (by rfl) (by decide) (by decide) (by decide) (by rfl) (by decide) (by decide) (by decide) (by rw [in18_lines]; decide)).imp fun o ho => ?_
 obtain ⟨out, h, rfl⟩ := ho
 have : out = [⟨⟨[97, 32, 49, 48]⟩⟩, ⟨⟨[97, 32, 49, 48]⟩⟩, ⟨⟨[98, 32, 50]⟩⟩] := by
  refine sortR_uniq h ⟨[⟨⟨[97, 32, 49, 48]⟩⟩, ⟨⟨[97, 32, 49, 48]⟩⟩, ⟨⟨[98, 32, 50]⟩⟩], ?_, ?_, ?_⟩
  ·rw [in18_lines]; exact ((List.Perm.swap _ _ _).cons _).trans (List.Perm.swap _ _ _)
  ·rw [show ([] : List UInt8).contains 117 = false by decide, show ([] : List UInt8).contains 114 = false by decide, sortB3_eq]; decide +kernel
  ·rfl
 rw [this]; rfl
theorem w_sortu : OutIs A in18 ⟨⟨[115, 111, 114, 116, 124, 45, 117]⟩⟩ (· = ⟨⟨[97, 32, 49, 48, 10, 98, 32, 50, 10]⟩⟩) := by
 refine (out_sortS (args := [⟨⟨[45, 117]⟩⟩]) (got := [117]) (by rfl) (by decide) (by decide) (by decide) (by rfl) (by decide) (by decide) (by decide) (by rw [in18_lines]; decide)).imp fun o ho => ?_
 obtain ⟨out, h, rfl⟩ := ho
 have : out = [⟨⟨[97, 32, 49, 48]⟩⟩, ⟨⟨[98, 32, 50]⟩⟩] := by
  refine sortR_uniq h ⟨[⟨⟨[97, 32, 49, 48]⟩⟩, ⟨⟨[97, 32, 49, 48]⟩⟩, ⟨⟨[98, 32, 50]⟩⟩], ?_, ?_, ?_⟩
  ·rw [in18_lines]; exact ((List.Perm.swap _ _ _).cons _).trans (List.Perm.swap _ _ _)
  ·rw [show ([117] : List UInt8).contains 117 = true by decide, show ([117] : List UInt8).contains 114 = false by decide, sortB3_eq]; decide +kernel
  ·rw [show ([117] : List UInt8).contains 117 = true by decide, cmpB_eq]; rfl
 rw [this]; rfl
theorem w_sortr : OutIs A in18 ⟨⟨[115, 111, 114, 116, 124, 45, 114]⟩⟩ (· = ⟨⟨[98, 32, 50, 10, 97, 32, 49, 48, 10, 97, 32, 49, 48, 10]⟩⟩) := by
 refine (out_sortS (args := [⟨⟨[45, 114]⟩⟩]) (got := [114]) (by rfl) (by decide) (by decide) (by decide) (by rfl) (by decide) (by decide) (by decide) (by rw [in18_lines]; decide)).imp fun o ho => ?_
 obtain ⟨out, h, rfl⟩ := ho
 have : out = [⟨⟨[98, 32, 50]⟩⟩, ⟨⟨[97, 32, 49, 48]⟩⟩, ⟨⟨[97, 32, 49, 48]⟩⟩] := by
  refine sortR_uniq h ⟨[⟨⟨[98, 32, 50]⟩⟩, ⟨⟨[97, 32, 49, 48]⟩⟩, ⟨⟨[97, 32, 49, 48]⟩⟩], ?_, ?_, ?_⟩
  ·rw [in18_lines]
  ·rw [show ([114] : List UInt8).contains 117 = false by decide, show ([114] : List UInt8).contains 114 = true by decide, sortB3_eq]; decide +kernel
  ·rfl
 rw [this]; rfl
theorem w_uniq : OutIs A in18 ⟨⟨[117, 110, 105, 113, 124, 45, 99]⟩⟩ (· = ⟨⟨[49, 32, 98, 32, 50, 10, 50, 32, 97, 32, 49, 48, 10]⟩⟩) :=
 (out_uniq (args := [⟨⟨[45, 99]⟩⟩]) (got := [99]) (by rfl) (by decide) (by decide) (by decide) (by rfl) (by decide) (by rw [in18_lines]; decide +kernel) (fun a h => Nat.le_trans (in18_sz a h) (by decide))).imp fun o h => h.trans (by rfl)
theorem w_head : OutIs A in18 ⟨⟨[104, 101, 97, 100, 124, 45, 110, 124, 49]⟩⟩ (· = ⟨⟨[98, 32, 50, 10]⟩⟩) :=
 (out_head (args := [⟨⟨[45, 110]⟩⟩, ⟨⟨[49]⟩⟩]) (n := 1) (m := [(110, ⟨⟨[49]⟩⟩)]) (by rfl) (by decide) (by decide) (by rfl) (.inr ⟨_, rfl, rfl⟩) (by decide) (by rw [in18_lines]; decide)).imp fun o h => h.trans (by rfl)
theorem w_tail : OutIs A in18 ⟨⟨[116, 97, 105, 108, 124, 45, 110, 49]⟩⟩ (· = ⟨⟨[97, 32, 49, 48, 10]⟩⟩) :=
 (out_tail (args := [⟨⟨[45, 110, 49]⟩⟩]) (n := 1) (m := [(110, ⟨⟨[49]⟩⟩)]) (by rfl) (by decide) (by decide) (by rfl) (.inr ⟨_, rfl, rfl⟩) (by decide) (by rw [in18_lines]; decide)).imp fun o h => h.trans (by rfl)
theorem w_wc : OutIs A in18 ⟨⟨[119, 99]⟩⟩ (· = ⟨⟨[51, 32, 54, 32, 49, 52, 10]⟩⟩) :=
 (out_wc (args := []) (got := []) (by rfl) (by decide) (by decide) (by decide) (by rfl) (by decide) (by decide)).imp fun o h => h.trans (by rfl)
theorem w_wcl : OutIs A in18 ⟨⟨[119, 99, 124, 45, 108]⟩⟩ (· = ⟨⟨[51, 10]⟩⟩) :=
 (out_wc (args := [⟨⟨[45, 108]⟩⟩]) (got := [108]) (by rfl) (by decide) (by decide) (by decide) (by rfl) (by decide) (by decide)).imp fun o h => h.trans (by rfl)
theorem w_tr : OutIs A in18 ⟨⟨[116, 114, 124, 97, 45, 98, 124, 120]⟩⟩ (· = ⟨⟨[120, 32, 50, 10, 120, 32, 49, 48, 10, 120, 32, 49, 48, 10]⟩⟩) :=
 (out_tr (args := [⟨⟨[97, 45, 98]⟩⟩, ⟨⟨[120]⟩⟩]) (got := []) (s1 := [97, 45, 98]) (s2 := [120]) (fr := [97, 98]) (tq := [120]) (by rfl) (by decide) (by decide) (by decide) (by rfl) (by decide) (.inr ⟨rfl, rfl⟩) (by rfl) (by rfl) (by decide) (by decide) (by decide) (by decide) (by decide) (by decide) (by decide) (by decide)).imp fun o h => h.trans (by rfl)
theorem w_trd : OutIs A in18 ⟨⟨[116, 114, 124, 45, 100, 124, 48]⟩⟩ (· = ⟨⟨[98, 32, 50, 10, 97, 32, 49, 10, 97, 32, 49, 10]⟩⟩) :=
 (out_tr (args := [⟨⟨[45, 100]⟩⟩, ⟨⟨[48]⟩⟩]) (got := [100]) (s1 := [48]) (s2 := [48]) (fr := [48]) (tq := [48]) (by rfl) (by decide) (by decide) (by decide) (by rfl) (by decide) (.inl ⟨by decide, rfl, rfl⟩) (by rfl) (by rfl) (by decide) (by decide) (by decide) (by decide) (by decide) (by decide) (by decide) (by decide)).imp fun o h => h.trans (by rfl)
theorem w_cutf : OutIs A in18 ⟨⟨[99, 117, 116, 124, 45, 100, 124, 32, 124, 45, 102, 124, 50]⟩⟩ (· = ⟨⟨[50, 10, 49, 48, 10, 49, 48, 10]⟩⟩) :=
 (out_cut (args := [⟨⟨[45, 100]⟩⟩, ⟨⟨[32]⟩⟩, ⟨⟨[45, 102]⟩⟩, ⟨⟨[50]⟩⟩]) (isF := true) (c := 32) (w := [50]) (x := 2) (y := 2) (m := [(100, ⟨⟨[32]⟩⟩), (102, ⟨⟨[50]⟩⟩)]) (by rfl) (by decide) (by decide) (by rfl) (by decide) (.inl ⟨rfl, rfl, rfl, rfl⟩) (by decide) (by decide) sE50 (.inr ⟨by decide, 2, by rfl, rfl⟩) (.inr ⟨by decide, 2, by rfl, rfl⟩) (by decide) (by decide) (by decide) in18_sz (by rw [in18_lines]; decide +kernel)).imp fun o h => h.trans (by rfl)
theorem w_cutc : OutIs A in18 ⟨⟨[99, 117, 116, 124, 45, 99, 124, 49]⟩⟩ (· = ⟨⟨[98, 10, 97, 10, 97, 10]⟩⟩) :=
 (out_cut (args := [⟨⟨[45, 99]⟩⟩, ⟨⟨[49]⟩⟩]) (isF := false) (c := 32) (w := [49]) (x := 1) (y := 1) (m := [(99, ⟨⟨[49]⟩⟩)]) (by rfl) (by decide) (by decide) (by rfl) (by decide) (.inr ⟨rfl, rfl, rfl, rfl⟩) (by decide) (by decide) sE49 (.inr ⟨by decide, 1, by rfl, rfl⟩) (.inr ⟨by decide, 1, by rfl, rfl⟩) (by decide) (by decide) (by decide) in18_sz (by rw [in18_lines]; decide +kernel)).imp fun o h => h.trans (by rfl)
end
theorem s_works18 {σ : H} (hI : ItoaT σ) {K : KH} (hK : ∀ σ', Gr σ σ' -> K (.bool true) σ') : callW Tryz.prog 6 [] K σ := by
 refine c6 ?_
 unfold g6
 refine call_i (s_empty hI fun bf σ0 g0 hF0 => app_P (br_f rfl ?_))
 refine call_i (w_sort σ0 bf _ hF0 fun σ1 o1 h1 g1 => app_S (br_t (by rw [h1]; exact strEq_iff.2 rfl) ?_))
 have hF1 := hF0.gr g1
 refine call_i (w_sortu σ1 bf _ hF1 fun σ2 o2 h2 g2 => app_S (br_t (by rw [h2]; exact strEq_iff.2 rfl) ?_))
 have hF2 := hF1.gr g2
 refine call_i (w_sortr σ2 bf _ hF2 fun σ3 o3 h3 g3 => app_S (br_t (by rw [h3]; exact strEq_iff.2 rfl) ?_))
 have hF3 := hF2.gr g3
 refine call_i (w_uniq σ3 bf _ hF3 fun σ4 o4 h4 g4 => app_S (br_t (by rw [h4]; exact strEq_iff.2 rfl) ?_))
 have hF4 := hF3.gr g4
 refine call_i (w_head σ4 bf _ hF4 fun σ5 o5 h5 g5 => app_S (br_t (by rw [h5]; exact strEq_iff.2 rfl) ?_))
 have hF5 := hF4.gr g5
 refine call_i (w_tail σ5 bf _ hF5 fun σ6 o6 h6 g6 => app_S (br_t (by rw [h6]; exact strEq_iff.2 rfl) ?_))
 have hF6 := hF5.gr g6
 refine call_i (w_wc σ6 bf _ hF6 fun σ7 o7 h7 g7 => app_S (br_t (by rw [h7]; exact strEq_iff.2 rfl) ?_))
 have hF7 := hF6.gr g7
 refine call_i (w_wcl σ7 bf _ hF7 fun σ8 o8 h8 g8 => app_S (br_t (by rw [h8]; exact strEq_iff.2 rfl) ?_))
 have hF8 := hF7.gr g8
 refine call_i (w_tr σ8 bf _ hF8 fun σ9 o9 h9 g9 => app_S (br_t (by rw [h9]; exact strEq_iff.2 rfl) ?_))
 have hF9 := hF8.gr g9
 refine call_i (w_trd σ9 bf _ hF9 fun σ10 o10 h10 g10 => app_S (br_t (by rw [h10]; exact strEq_iff.2 rfl) ?_))
 have hF10 := hF9.gr g10
 refine call_i (w_cutf σ10 bf _ hF10 fun σ11 o11 h11 g11 => app_S (br_t (by rw [h11]; exact strEq_iff.2 rfl) ?_))
 have hF11 := hF10.gr g11
 refine call_i (w_cutc σ11 bf _ hF11 fun σ12 o12 h12 g12 => app_S (br_t (by rw [h12]; exact strEq_iff.2 rfl) ?_))
 have hF12 := hF11.gr g12
 refine call_i (s_fails (d := failsP ⟨⟨[99, 97, 116]⟩⟩ ⟨⟨[110, 111, 110, 101]⟩⟩ 5) (nm := ⟨⟨[99, 97, 116]⟩⟩) (args := [⟨⟨[110, 111, 110, 101]⟩⟩]) (by rfl) (by decide) (run_ex lk_cat go_txCat (tl_cat1 (got := []) (name := ⟨⟨[110, 111, 110, 101]⟩⟩) (e := 5) (by decide) (by decide) (by rfl) (sE_ne (by decide)) (by rfl) (by decide) (by decide) (by decide) (by decide)).ex) rfl (by rfl) rfl hF12 fun σa ga => app_B (br_t rfl ?_))
 refine call_i (s_fails (d := usageP ⟨⟨[104, 101, 97, 100]⟩⟩) (nm := ⟨⟨[104, 101, 97, 100]⟩⟩) (args := [⟨⟨[45, 120]⟩⟩]) (by rfl) (by decide) (run_ex lk_head go_txHead (tl_head_bad (by decide) (by decide) (by rfl)).ex) rfl (by rfl) rfl (hF12.gr ga) fun σb gb => app_B ?_)
 exact hK σb (g0 |>.trans g1 |>.trans g2 |>.trans g3 |>.trans g4 |>.trans g5 |>.trans g6 |>.trans g7 |>.trans g8 |>.trans g9 |>.trans g10 |>.trans g11 |>.trans g12 |>.trans ga |>.trans gb)
end Go.Proofs.YtpfkfphjigcdeaaGreatDoor

namespace Go.Wk
open Go Go.HL
theorem joined_cons (a : ByteArray) (r : List ByteArray) : joinedP (a :: r) = bl a ++ 10 :: joinedP r := by unfold joinedP; rw [List.flatMap_cons]; simp
theorem joined_app (a b : List ByteArray) : joinedP (a ++ b) = joinedP a ++ joinedP b := by unfold joinedP; rw [List.flatMap_append]
theorem parts_joined : ∀ {L : List ByteArray}, (∀ s ∈ L, (10 : UInt8) ∉ bl s) -> partsOf 10 ⟨⟨joinedP L⟩⟩ = L ++ [⟨⟨[]⟩⟩] := by
 intro L
 induction L with
 | nil => intro _; rfl
 | cons a r ih =>
  intro h
  unfold partsOf at ih ⊢
  show (splitL 10 (joinedP (a :: r))).map _ = _
  rw [joined_cons, splitL_some (h a (List.mem_cons_self ..)), List.map_cons]
  have := ih fun s hs => h s (List.mem_cons_of_mem _ hs)
  show _ :: (splitL 10 (joinedP r)).map _ = _
  rw [show (splitL 10 (joinedP r)).map (fun l => (⟨⟨l⟩⟩ : ByteArray)) = r ++ [⟨⟨[]⟩⟩] from this]; rfl
theorem trim_snoc (l : List UInt8) : trimEnd (l ++ [10]) [10] = l := by
 unfold trimEnd
 have : hasEnd (l ++ [10]) [10] = true := by
  unfold hasEnd
  rw [List.length_append, List.length_singleton, Nat.add_sub_cancel, List.drop_left]
  simp
 rw [this, if_pos rfl, List.length_append, List.length_singleton, Nat.add_sub_cancel, List.take_left]
theorem lines_joined {L : List ByteArray} (h : ∀ s ∈ L, (10 : UInt8) ∉ bl s) : linesP (joinedP L) = L := by
 rcases List.eq_nil_or_concat L with rfl | ⟨I, z, rfl⟩
 ·rfl
 ·have hz := h z (by simp)
  have hI : ∀ s ∈ I, (10 : UInt8) ∉ bl s := fun s hs => h s (by simp [hs])
  have e : joinedP (I ++ [z]) = (joinedP I ++ bl z) ++ [10] := by rw [joined_app, joined_cons]; simp [joinedP]
  rw [List.concat_eq_append]
  unfold linesP
  rw [e, trim_snoc]
  have hne : ((joinedP I ++ bl z) ++ [10]).isEmpty = false := by simp
  rw [hne, if_neg (by simp)]
  clear e hne h
  induction I with
  | nil =>
   unfold partsOf
   show (splitL 10 ([] ++ bl z)).map _ = _
   rw [List.nil_append, splitL_none hz]; rfl
  | cons a r ih =>
   unfold partsOf at ih ⊢
   show (splitL 10 (joinedP (a :: r) ++ bl z)).map _ = _
   rw [joined_cons, List.append_assoc, List.cons_append, splitL_some (hI a (List.mem_cons_self ..)), List.map_cons]
   have := ih fun s hs => hI s (List.mem_cons_of_mem _ hs)
   rw [show (splitL 10 (joinedP r ++ bl z)).map (fun l => (⟨⟨l⟩⟩ : ByteArray)) = r ++ [z] from this]; rfl
end Go.Wk

set_option maxRecDepth 100000
namespace Go.Proofs.YtpfkfphjigcdeaaGreatDoor
open Go Go.HL Go.Wk
attribute [local irreducible] ptrW ifW brW andW rdT alW letJ stW muW biW vaW imW callT cvalT app callW invW callVW sizeT oW nilF oneK loopW rfW funW begW roundK exW idxW Gr Put
theorem word_mem (c : UInt8) : wordOf c ∈ words18 := by
 unfold wordOf
 have : c.toNat % 12 < 12 := Nat.mod_lt _ (by decide)
 generalize c.toNat % 12 = i at this
 revert i; decide
theorem all_mem {l : List UInt8} {s : ByteArray} (h : s ∈ all18 l) : s ∈ words18 := by
 unfold all18 at h
 obtain ⟨c, _, rfl⟩ := List.mem_map.1 h
 exact word_mem c
theorem words_no10 : ∀ s ∈ words18, (10 : UInt8) ∉ bl s := by decide
theorem words_len : ∀ s ∈ words18, s.size <= 3 := by decide
theorem all_len (l : List UInt8) : (all18 l).length <= 80 := by unfold all18; rw [List.length_map, List.length_take]; omega
theorem joined_len {L : List ByteArray} (h : ∀ s ∈ L, s.size <= 3) : (joinedP L).length <= 4 * L.length := by
 induction L with
 | nil => exact Nat.le_refl _
 | cons a r ih =>
  have h1 := h a (List.mem_cons_self ..)
  have h2 := ih fun s hs => h s (List.mem_cons_of_mem _ hs)
  rw [joined_cons_len, List.length_cons]
  have : (bl a).length = a.size := rfl
  omega
section
variable {A : AT} {L : List ByteArray}
end
end Go.Proofs.YtpfkfphjigcdeaaGreatDoor

namespace Go.Wk
open Go Go.HL
theorem ba_beq {a b : ByteArray} : (a == b) = true ↔ a = b := by
 constructor
 ·intro h
  rw [beq_toListBytes] at h
  exact ba_ext (eq_of_beq h)
 ·rintro rfl
  rw [beq_toListBytes]; simp
instance baLawful : LawfulBEq ByteArray where
 eq_of_beq h := ba_beq.1 h
 rfl := ba_beq.2 rfl
def cntF (m : List (ByteArray × Int)) (s : ByteArray) : List (ByteArray × Int) := up s ((lk s m).getD 0 + 1) m
def cntL (L : List ByteArray) : List (ByteArray × Int) := L.foldl cntF []
theorem lk_up (k s : ByteArray) (v : Int) : ∀ m : List (ByteArray × Int), lk k (up s v m) = if k = s then some v else lk k m := by
 intro m
 induction m with
 | nil =>
  by_cases h : k = s
  ·rw [if_pos h]; simp [up, lk, h]
  ·have : (k == s) = false := by simpa using h
   rw [if_neg h]; simp [up, lk, this]
 | cons x r ih =>
  obtain ⟨j, u⟩ := x
  cases hj : (s == j) with
  | true =>
   have := ba_beq.1 hj; subst this
   simp only [up, hj, lk]
   by_cases h : k = s
   ·rw [if_pos h]; simp [h]
   ·have : (k == s) = false := by simpa using h
    rw [if_neg h, this]
  | false =>
   simp only [up, hj, lk]
   rw [ih]
   cases hk : (k == j) with
   | true =>
    have := ba_beq.1 hk; subst this
    have : k ≠ s := fun e => by rw [e] at hj; simp at hj
    simp only [if_neg this]
   | false => rfl
theorem keys_up (s : ByteArray) (v : Int) : ∀ m : List (ByteArray × Int), (up s v m).map (·.1) = if s ∈ m.map (·.1) then m.map (·.1) else m.map (·.1) ++ [s] := by
 intro m
 induction m with
 | nil => rfl
 | cons x r ih =>
  obtain ⟨j, u⟩ := x
  cases hj : (s == j) with
  | true =>
   have := ba_beq.1 hj; subst this
   simp only [up, hj]
   rw [if_pos (by simp)]; rfl
  | false =>
   simp only [up, hj, List.map_cons]
   have hne : s ≠ j := fun e => by rw [e] at hj; simp at hj
   rw [ih]
   by_cases h : s ∈ r.map (·.1)
   ·rw [if_pos h, if_pos (List.mem_cons_of_mem _ h)]
   ·rw [if_neg h, if_neg (fun q => (List.mem_cons.1 q).elim hne h)]; rfl
structure CntOk (m : List (ByteArray × Int)) (L : List ByteArray) : Prop where
 nd : (m.map (·.1)).Nodup
 mem : ∀ k, k ∈ m.map (·.1) ↔ k ∈ L
 val : ∀ k n, (k, n) ∈ m -> n = (L.count k : Nat)
 lk : ∀ k, (lk k m).getD 0 = (L.count k : Nat)
theorem lk_mem {m : List (ByteArray × Int)} (hn : (m.map (·.1)).Nodup) {k : ByteArray} {n : Int} (h : (k, n) ∈ m) : lk k m = some n := by
 induction m with
 | nil => cases h
 | cons x r ih =>
  obtain ⟨j, u⟩ := x
  rw [List.map_cons, List.nodup_cons] at hn
  rcases List.mem_cons.1 h with e | e
  ·cases e; simp [lk]
  ·have : (k == j) = false := by
    cases hk : (k == j) with
    | false => rfl
    | true =>
     have := ba_beq.1 hk; subst this
     exact absurd (List.mem_map.2 ⟨_, e, rfl⟩) hn.1
   simp only [lk, this]
   exact ih hn.2 e
theorem cntF_ok {m : List (ByteArray × Int)} {L : List ByteArray} (h : CntOk m L) (s : ByteArray) : CntOk (cntF m s) (L ++ [s]) := by
 have hlk : ∀ k, (lk k (cntF m s)).getD 0 = ((L ++ [s]).count k : Nat) := by
  intro k
  unfold cntF
  rw [lk_up, List.count_append, List.count_singleton]
  by_cases e : k = s
  ·rw [if_pos e, e, Option.getD_some, h.lk]; simp
  ·have e' : (s == k) = false := by
    cases hk : (s == k) with
    | false => rfl
    | true => exact absurd (ba_beq.1 hk).symm e
   rw [if_neg e, h.lk, e']; simp
 have hnd : ((cntF m s).map (·.1)).Nodup := by
  unfold cntF
  rw [keys_up]
  split
  ·exact h.nd
  ·rename_i hn
   rw [List.nodup_append]
   exact ⟨h.nd, by simp, fun a ha b hb => by rw [List.mem_singleton] at hb; subst hb; intro e; subst e; exact hn ha⟩
 refine ⟨hnd, fun k => ?_, fun k n hkn => ?_, hlk⟩
 ·unfold cntF
  rw [keys_up, List.mem_append, <- h.mem k]
  split
  ·rename_i hs
   constructor
   ·exact fun q => .inl q
   ·rintro (q | q)
    ·exact q
    ·rw [List.mem_singleton] at q; subst q; exact hs
  ·rw [List.mem_append]
 ·have := hlk k
  rw [lk_mem hnd hkn] at this
  exact this
theorem cntL_ok (L : List ByteArray) : CntOk (cntL L) L := by
 have key : ∀ (r d : List ByteArray) (m : List (ByteArray × Int)), CntOk m d -> CntOk (r.foldl cntF m) (d ++ r) := by
  intro r
  induction r with
  | nil => intro d m h; rw [List.append_nil]; exact h
  | cons a r ih =>
   intro d m h
   have := ih (d ++ [a]) _ (cntF_ok h a)
   rw [List.append_assoc] at this
   exact this
 exact key L [] [] ⟨List.nodup_nil, (fun k => by simp), (fun k n h => by cases h), (fun k => rfl)⟩
variable {le : ByteArray -> ByteArray -> Prop}
def oncesP (S : List ByteArray) : List ByteArray := uniqP false false (S.length + 1) S
end Go.Wk

namespace Go.HL
open Go
variable {P : Program}
def ItAt (σ : H) (b r : Nat) (rem : List (Value × Value)) (cur : Option (Value × Value)) : Prop :=
 ∃ es clock since c0 seen, σ b = some (.map es clock) /\ MapKept.Stamped es clock /\ σ r = some (.mapIter (some b) since seen c0) /\ (∀ x ∈ es.toList, x.born < since) /\ since <= c0 /\ since <= clock /\
  ((es.toList.filter fun e => !seen.contains e.born).map fun e => (e.key, e.val)) = rem /\ b ≠ r /\
  ∀ p, cur = some p -> ∃ (s0 : Array Nat) (e : MapEntry), seen = s0.push e.born /\ c0 = clock /\ e ∈ es.toList /\ (e.key, e.val) = p
theorem ItAt.get {σ σ' : H} {b r : Nat} {rem : List (Value × Value)} {cur : Option (Value × Value)} (h : ItAt σ b r rem cur) (h1 : ∀ o, σ b = some o -> σ' b = some o) (h2 : ∀ o, σ r = some o -> σ' r = some o) : ItAt σ' b r rem cur := by
 obtain ⟨es, clock, since, c0, seen, a1, a2, a3, a4⟩ := h
 exact ⟨es, clock, since, c0, seen, h1 _ a1, a2, h2 _ a3, a4⟩
theorem ItAt.gr {σ σ' : H} {b r : Nat} {rem : List (Value × Value)} {cur : Option (Value × Value)} (h : ItAt σ b r rem cur) (hg : Gr σ σ') : ItAt σ' b r rem cur := h.get (fun o h => hg b o h) (fun o h => hg r o h)
theorem rng_i {t kt et : TypeId} (ht : P.underlying t = some (.map kt et)) {σ : H} {b : Nat} {l : List (Value × Value)} (h : MapAt σ b l) {F : Option Addr -> H -> Prop}
 (hF : ∀ r σ', Gr σ σ' -> σ r = none -> ItAt σ' b r l none -> F (some ⟨r, 0, none⟩) σ') : vaW P (Instr.range t (.map (some b))) (.one (.sc .ptr)) F σ := by
 obtain ⟨es, c, hb, rfl, hs⟩ := h
 intro w hw
 have hrun : (valS (Instr.range t (.map (some b)))).run P w = .ok (.value (.pointer (some ⟨w.heap.size, 0, none⟩))) (w.alloc (.mapIter (some b) c #[] c)) := by
  simp only [valS, Sem.run_bind, run_range_map w t kt et b es c ht (hw b _ hb), Result.andThen_ok, Sem.run_pure]
 rw [hrun]
 have hn : σ w.heap.size = none := by
  cases hg : σ w.heap.size with
  | none => rfl
  | some o => have := hw.lt hg; omega
 have hbr : b ≠ w.heap.size := by
  intro e; rw [<- e, hb] at hn; cases hn
 refine ⟨_, (Ext.alloc hw _).2, app_P (hF w.heap.size _ (Gr.put hn _) hn ⟨es, c, c, c, #[], by rw [H.put_other _ _ hbr]; exact hb, hs, H.put_same _ _ _, ((MapKept.stamped_iff es c).1 hs).1, Nat.le_refl _, Nat.le_refl _, congrArg _ (List.filter_eq_self.2 fun _ _ => by simp), hbr, fun p hp => by cases hp⟩)⟩
theorem nxt_i {ty : TypeId} {b r : Nat} {rem : List (Value × Value)} {cur : Option (Value × Value)} {A : H -> Prop} {F : Value -> Value -> H -> Prop} {σ : H} (h : ItAt σ b r rem cur)
 (h0 : rem = [] -> A σ) (h1 : ∀ pre k v post o, rem = pre ++ (k, v) :: post -> ItAt (σ.put r o) b r (pre ++ post) (some (k, v)) -> F k v (σ.put r o)) :
 vaW P (Instr.next (.pointer (some ⟨r, 0, none⟩)) false ty) (.opt [.sc .raw, .sc .raw]) (A, F) σ := by
 obtain ⟨es, clock, since, c0, seen, hb, hs, hr, hold, hsc, hsk, hrem, hbr, _⟩ := h
 intro w hw
 have hl : (leftOf es seen).toList = es.toList.filter fun e => !seen.contains e.born := by unfold leftOf; rw [Array.toList_filter]
 rcases run_next_at (P := P) w ty r b since c0 seen es clock (hw r _ hr) (hw b _ hb) hold hsc with ⟨hz, hrun⟩ | ⟨e, he, w1, hal, hrun⟩
 ·simp only [valS, Sem.run_bind, hrun, Result.andThen_ok, Sem.run_pure]
  refine ⟨σ, Ext.refl hw, h0 ?_⟩
  have : (leftOf es seen).toList = [] := by rw [<- List.length_eq_zero_iff, Array.length_toList, hz]
  rw [<- hrem, <- hl, this]; rfl
 ·simp only [valS, Sem.run_bind, hrun, Result.andThen_ok, Sem.run_pure]
  have hw1 : σ.le w1 := by rcases hal with rfl | rfl <;> exact hw
  have hx : Ext σ w σ w1 := by
   rcases hal with rfl | rfl
   ·exact Ext.refl hw
   ·exact Ext.drew hw _
  have hset : Ext σ w1 (σ.put r (.mapIter (some b) since (seen.push e.born) clock)) (ChangeMaps.setBlock w1 r (.mapIter (some b) since (seen.push e.born) clock)) := Ext.set hw1 hr rfl rfl rfl rfl
  refine ⟨_, hx.trans hset, ?_⟩
  obtain ⟨hem, hes⟩ := mem_left he
  have hst := (MapKept.stamped_iff es clock).1 hs
  rw [hl] at he
  obtain ⟨pre, post, hpp⟩ := List.append_of_mem he
  have hk : F e.key e.val (σ.put r (.mapIter (some b) since (seen.push e.born) clock)) := by
   refine h1 (pre.map fun e => (e.key, e.val)) e.key e.val (post.map fun e => (e.key, e.val)) _ (by rw [<- hrem, hpp]; simp) ⟨es, clock, since, clock, seen.push e.born, by rw [H.put_other _ _ hbr]; exact hb, hs, H.put_same _ _ _, hold, hsk, hsk, ?_, hbr, fun p hp => ⟨seen, e, rfl, rfl, hem, by cases hp; rfl⟩⟩
   have hnd : ((es.toList.filter fun e => !seen.contains e.born).map (·.born)).Nodup := (List.filter_sublist.map _).nodup hst.2.1
   rw [hpp] at hnd
   simp only [List.map_append, List.map_cons, List.nodup_append, List.nodup_cons] at hnd
   obtain ⟨_, ⟨n1, _⟩, n2⟩ := hnd
   have e1 : (es.toList.filter fun x => !(seen.push e.born).contains x.born) = (es.toList.filter fun x => !seen.contains x.born).filter fun x => !(x.born == e.born) := by
    rw [List.filter_filter]
    refine List.filter_congr fun x _ => ?_
    rw [Array.contains_push]
    cases seen.contains x.born <;> cases (x.born == e.born) <;> rfl
   rw [e1, hpp, List.filter_append, List.filter_cons]
   have f1 : pre.filter (fun x => !(x.born == e.born)) = pre := List.filter_eq_self.2 fun x hx => by
    have := n2 x.born (List.mem_map.2 ⟨x, hx, rfl⟩) e.born (List.mem_cons_self ..)
    simp [this]
   have f2 : post.filter (fun x => !(x.born == e.born)) = post := List.filter_eq_self.2 fun x hx => by
    have : x.born ≠ e.born := fun q => n1 (List.mem_map.2 ⟨x, hx, q⟩)
    simp [this]
   rw [f1, f2]
   simp
  show app _ _ _ _
  simp only [app, TK.prj, optOf, prjC, CK.prj, SK.prj, runO]
  exact hk
theorem ent_i {b r : Nat} {rem : List (Value × Value)} {k v : Value} {t : TK} {F : t.Fn (H -> Prop)} {σ : H} (h : ItAt σ b r rem (some (k, v))) (hF : app t F (.tuple #[k, v]) σ) :
 vaW P (Instr.entry (.pointer (some ⟨r, 0, none⟩))) t F σ := by
 obtain ⟨es, clock, since, c0, seen, hb, hs, hr, hold, hsc, hsk, hrem, hbr, hc⟩ := h
 obtain ⟨s0, e, rfl, rfl, hem, hp⟩ := hc _ rfl
 cases hp
 intro w hw
 simp only [valS, Sem.run_bind, run_entry_at (P := P) w r b since s0 es c0 e (hw r _ hr) (hw b _ hb) hem ((MapKept.stamped_iff es c0).1 hs).2.1, Result.andThen_ok, Sem.run_pure]
 exact ⟨σ, Ext.refl hw, hF⟩
end Go.HL

set_option maxRecDepth 100000
namespace Go.Proofs.YtpfkfphjigcdeaaGreatDoor
open Go Go.HL Go.Wk
attribute [local irreducible] ptrW ifW brW andW rdT alW letJ stW muW biW vaW imW callT cvalT app callW invW callVW sizeT oW nilF oneK loopW rfW funW begW roundK exW idxW Gr Put
theorem und_strK : Tryz.prog.underlying 9 = some kkS.d := by kernel_rfl
def CtAt (σ : H) (b : Nat) (m : List (ByteArray × Int)) : Prop := MapAt σ b (encL kkS (Value.int .i64) m)
theorem CtAt.gr {σ σ' : H} {b : Nat} {m : List (ByteArray × Int)} (h : CtAt σ b m) (hg : Gr σ σ') : CtAt σ' b m := MapAt.gr h hg
theorem ct_rd {σ : H} {b : Nat} {m : List (ByteArray × Int)} (h : CtAt σ b m) (k : ByteArray) : rdM .string (.int .i64 0) false (some b) (.string k) σ = some (.int .i64 ((lk k m).getD 0)) := by
 have := rdM_at h (.int .i64 0) false k
 rw [show rdM .string (.int .i64 0) false (some b) (.string k) σ = rdM kkS.d (.int .i64 0) false (some b) (kkS.inj k) σ from rfl, this]
 cases lk k m <;> rfl
theorem ct_len {σ : H} {b : Nat} {m : List (ByteArray × Int)} (h : CtAt σ b m) : rdLen (some b) σ = some (.int .i64 ((m.length : Nat) : Int)) := by
 rw [rdLen_at h, encL, List.length_map]
theorem joined_length (L : List ByteArray) : L.length <= (joinedP L).length := by
 induction L with
 | nil => exact Nat.le_refl _
 | cons a r ih => rw [joined_cons_len, List.length_cons]; omega
theorem s_counts {L : List ByteArray} {σ : H} (hL : ∀ s ∈ L, (10 : UInt8) ∉ bl s) (hz : (joinedP L).length <= 1000000) {K : KH} (hK : ∀ b σ', Gr σ σ' -> σ b = none -> CtAt σ' b (cntL L) -> K (.map (some b)) σ') :
 callW Tryz.prog 11 [.string ⟨⟨joinedP L⟩⟩] K σ := by
 refine c11 _ ?_
 unfold g11
 refine al_i ?_; intro b2 σ1 g1 e1 n1
 have m1 : CtAt σ1 b2 [] := MapAt.new e1
 refine j_i (fun j => ∀ τ, Gr σ τ -> CtAt τ b2 (cntL L) -> j (some b2) τ) (fun τ hg hm => hK b2 τ hg n1 hm) fun j hj => ?_
 have hlin := lines_joined hL
 rw [strEq_nil]
 cases h : (joinedP L).isEmpty with
 | true =>
  have : L = [] := by
   have := joined_length L
   rw [List.isEmpty_iff.1 h] at this
   exact List.length_eq_zero_iff.1 (Nat.le_zero.1 this)
  subst this
  exact br_f rfl (hj σ1 g1 m1)
 | false =>
  refine br_t rfl (call_i (x_TrimSuf (joinedP L) [10] (by omega) (by decide) (app_S ?_)))
  have ht : (trimEnd (joinedP L) [10]).length <= (joinedP L).length := by
   unfold trimEnd; split
   ·rw [List.length_take]; omega
   ·exact Nat.le_refl _
  refine call_i (s_SplitC _ 10 (by rw [bsz]; omega) fun y σ2 h' => app_L ?_)
  unfold linesP at hlin
  rw [h] at hlin
  rw [show partsOf 10 ⟨⟨trimEnd (joinedP L) [10]⟩⟩ = L from hlin] at h'
  have hyl : y.len = L.length := by rw [h'.len, strRows_len]
  have hLz := joined_length L
  have hnb : y.base ≠ some ⟨b2, 0, none⟩ := fun e => by have := h'.2.2 b2 e; rw [e1] at this; cases this
  refine loop_i fun R hR => ?_
  have key : ∀ (r d : List ByteArray) (m : List (ByteArray × Int)) (τ : H), L = d ++ r -> RNew σ τ 9 1 (strRows L) y -> CtAt τ b2 m -> CntOk m d -> r.foldl cntF m = cntL L -> R (some b2) y ((d.length : Nat) : Int) τ := by
   intro r
   induction r with
   | nil =>
    intro d m τ hd hx hm hc he
    rw [List.append_nil] at hd
    subst hd
    refine hR _ _ _ _ (br_f (by rw [decide_eq_false_iff_not]; omega) (hj τ hx.1 ?_))
    rw [<- he]; exact hm
   | cons a r ih =>
    intro d m τ hd hx hm hc he
    have hi : L[d.length]? = some a := by rw [hd]; simp
    have hlen : L.length = d.length + (r.length + 1) := by rw [hd]; simp
    obtain ⟨g, o, q1, q2, q3⟩ := sRow hx.at hi
    refine hR _ _ _ _ (br_t (by rw [decide_eq_true_eq]; omega) ?_)
    rw [q1]
    refine ptr_i (if_i ⟨by omega, by omega⟩ (rd_S (by rw [Int.toNat_natCast]; exact q3) (rd_I (ct_rd hm a) ?_)))
    have hcount : (lk a m).getD 0 = ((d.count a : Nat) : Int) := hc.lk a
    have hcl : d.count a <= d.length := List.count_le_length
    have hw : IntKind.i64.wrap ((lk a m).getD 0 + 1) = (lk a m).getD 0 + 1 := by
     rw [hcount]
     exact wI (k := d.count a + 1) (by omega) (by omega)
    rw [hw]
    refine mu_i (kk := kkS) (f := Value.int .i64) und_MSI und_strK hm a _ fun o' τ' hp hm' => ?_
    rw [wS (by omega)]
    have := ih (d ++ [a]) (cntF m a) τ' (by rw [hd]; simp) (hx.putF hp n1 hnb) hm' (cntF_ok hc a) he
    rw [List.length_append] at this
    exact this
  exact key L [] [] σ2 rfl (h'.since g1) (m1.gr h'.1) (cntL_ok []) rfl
section
variable {A : AT} {L : List ByteArray}
end
theorem enc_split {m : List (ByteArray × Int)} {pre post : List (Value × Value)} {k v : Value} (h : encL kkS (Value.int .i64) m = pre ++ (k, v) :: post) : ∃ m1 s n m2, m = m1 ++ (s, n) :: m2 /\ k = .string s /\ v = .int .i64 n /\ pre ++ post = encL kkS (Value.int .i64) (m1 ++ m2) := by
 unfold encL at h
 obtain ⟨m1, m2', rfl, h1, h2⟩ := List.map_eq_append_iff.1 h
 obtain ⟨p, m2, rfl, h3, h4⟩ := List.map_eq_cons_iff.1 h2
 obtain ⟨s, n⟩ := p
 injection h3 with e1 e2
 refine ⟨m1, s, n, m2, rfl, e1.symm, e2.symm, ?_⟩
 unfold encL
 rw [List.map_append, h1, h4]
theorem s_same {L1 L2 : List ByteArray} (hp : L1.Perm L2) (hl : L1.length <= 1000000) {σ : H} {b1 b2 : Nat} (h1 : CtAt σ b1 (cntL L1)) (h2 : CtAt σ b2 (cntL L2)) {K : KH} (hK : ∀ σ', Gr σ σ' -> K (.bool true) σ') : callW Tryz.prog 10 [.map (some b1), .map (some b2)] K σ := by
 refine c10 _ _ ?_
 unfold g10
 have c1 := cntL_ok L1
 have c2 := cntL_ok L2
 have hlen : (cntL L1).length = (cntL L2).length := by
  have e := ((List.perm_ext_iff_of_nodup c1.nd c2.nd).2 fun k => by rw [c1.mem, c2.mem, hp.mem_iff]).length_eq
  rw [List.length_map, List.length_map] at e; exact e
 refine rd_I (ct_len h1) (rd_I (ct_len h2) (br_f (by rw [hlen]; simp) ?_))
 refine rng_i und_MSI h1 fun r σA gA nA hItA => ?_
 refine loop_i fun R hR => ?_
 have key : ∀ (n : Nat) (rem : List (ByteArray × Int)) (cur : Option (Value × Value)) (τ : H), rem.length = n -> Gr σ τ -> ItAt τ b1 r (encL kkS (Value.int .i64) rem) cur -> (∀ p ∈ rem, p ∈ cntL L1) -> R (some b2) (some ⟨r, 0, none⟩) τ := by
  intro n
  induction n with
  | zero =>
   intro rem cur τ hrl hg hIt hin
   have : rem = [] := List.length_eq_zero_iff.1 hrl
   subst this
   exact hR _ _ _ (nxt_i hIt (fun _ => hK τ hg) fun pre k v post o h => by cases pre <;> cases h)
  | succ n ih =>
   intro rem cur τ hrl hg hIt hin
   refine hR _ _ _ (nxt_i hIt (fun h => ?_) fun pre k v post o hrem hIt' => ?_)
   ·cases rem with
    | nil => cases hrl
    | cons a b => cases h
   obtain ⟨m1, s, c, m2, rfl, rfl, rfl, hpp⟩ := enc_split hrem
   rw [hpp] at hIt'
   have hmem : (s, c) ∈ cntL L1 := hin _ (by simp)
   have hc := c1.val s c hmem
   have hg' : Gr σ (τ.put r o) := hg.putF (by unfold Put; rfl) nA
   refine ent_i hIt' (app_of rfl ?_)
   refine rd_I (ct_rd (h2.gr hg') s) (br_f ?_ ?_)
   ·rw [c2.lk, <- hp.count_eq, hc]; simp
   ·exact ih (m1 ++ m2) _ _ (by simp at hrl ⊢; omega) hg' hIt' fun p h => hin p (by
     rcases List.mem_append.1 h with h | h
     ·exact List.mem_append_left _ h
     ·exact List.mem_append_right _ (List.mem_cons_of_mem _ h))
 exact key _ (cntL L1) none σA rfl gA hItA fun p h => h
end Go.Proofs.YtpfkfphjigcdeaaGreatDoor

namespace Go.Proofs
open Go.Shelf
def Tryz.lays161_ren : Go.Shelf.Ren := ⟨fun | 161 => 83 | 231 => 103 | 227 => 104 | 233 => 105 | 235 => 106 | 228 => 129 | 197 => 65 | 151 => 130 | 260 => 87 | 152 => 152 | 137 => 40 | 119 => 165 | 224 => 89 | 225 => 88 | 217 => 73 | 266 => 97 | n => n, fun | 9 => 9 | 4 => 4 | 3 => 3 | 5 => 5 | 117 => 157 | 116 => 156 | 0 => 0 | 124 => 160 | 105 => 101 | 21 => 21 | 119 => 166 | 46 => 146 | 139 => 169 | 138 => 168 | n => n, fun | 3 => 1 | 4 => 2 | n => n⟩
theorem Tryz.lays161 : Go.Proofs.Lays.n161 Tryz.prog Tryz.lays161_ren := {
 mixed := by kernel_rfl
 f119 := Tryz.func165.trans (congrArg some (by kernel_rfl))
 f137 := Tryz.func40.trans (congrArg some (by kernel_rfl))
 f151 := Tryz.func130.trans (congrArg some (by kernel_rfl))
 f152 := Tryz.func152.trans (congrArg some (by kernel_rfl))
 f161 := Tryz.func83.trans (congrArg some (by kernel_rfl))
 f197 := Tryz.func65.trans (congrArg some (by kernel_rfl))
 f217 := Tryz.func73.trans (congrArg some (by kernel_rfl))
 f224 := Tryz.func89.trans (congrArg some (by kernel_rfl))
 f225 := Tryz.func88.trans (congrArg some (by kernel_rfl))
 f227 := Tryz.func104.trans (congrArg some (by kernel_rfl))
 f228 := Tryz.func129.trans (congrArg some (by kernel_rfl))
 f231 := Tryz.func103.trans (congrArg some (by kernel_rfl))
 f233 := Tryz.func105.trans (congrArg some (by kernel_rfl))
 f235 := Tryz.func106.trans (congrArg some (by kernel_rfl))
 f260 := Tryz.func87.trans (congrArg some (by kernel_rfl))
 f266 := Tryz.func97.trans (congrArg some (by kernel_rfl))
 t0 := Tryz.underlying0
 a0 := Tryz.isAgg0
 z0 := Tryz.sizeOf0
 v0 := Tryz.zeroValue0
 t3 := Tryz.underlying3
 a3 := Tryz.isAgg3
 z3 := Tryz.sizeOf3
 v3 := Tryz.zeroValue3
 t4 := Tryz.underlying4
 a4 := Tryz.isAgg4
 z4 := Tryz.sizeOf4
 v4 := Tryz.zeroValue4
 t5 := Tryz.underlying5
 a5 := Tryz.isAgg5
 z5 := Tryz.sizeOf5
 v5 := Tryz.zeroValue5
 t9 := Tryz.underlying9
 a9 := Tryz.isAgg9
 z9 := Tryz.sizeOf9
 v9 := Tryz.zeroValue9
 t21 := Tryz.underlying21
 a21 := Tryz.isAgg21
 z21 := Tryz.sizeOf21
 v21 := Tryz.zeroValue21
 t46 := Tryz.underlying146
 a46 := Tryz.isAgg146
 z46 := Tryz.sizeOf146
 v46 := Tryz.zeroValue146
 t105 := Tryz.underlying101
 a105 := Tryz.isAgg101
 z105 := Tryz.sizeOf101
 v105 := Tryz.zeroValue101
 t116 := Tryz.underlying156
 a116 := Tryz.isAgg156
 z116 := Tryz.sizeOf156
 t117 := Tryz.underlying157
 a117 := Tryz.isAgg157
 z117 := Tryz.sizeOf157
 v117 := Tryz.zeroValue157
 t119 := Tryz.underlying166
 a119 := Tryz.isAgg166
 z119 := Tryz.sizeOf166
 t124 := Tryz.underlying160
 a124 := Tryz.isAgg160
 z124 := Tryz.sizeOf160
 v124 := Tryz.zeroValue160
 t138 := Tryz.underlying168
 a138 := Tryz.isAgg168
 z138 := Tryz.sizeOf168
 v138 := Tryz.zeroValue168
 t139 := Tryz.underlying169
 a139 := Tryz.isAgg169
 z139 := Tryz.sizeOf169
 v139 := Tryz.zeroValue169
 g3 := by kernel_rfl
 g4 := by kernel_rfl }
end Go.Proofs

set_option maxRecDepth 100000
namespace Go.Proofs.YtpfkfphjigcdeaaGreatDoor
open Go Go.HL Go.Wk
theorem trimL_laid (l cs : List UInt8) (hc : cs.length <= 100) (ha : ∀ c ∈ cs, c.toNat < 128) {σ : H} {K : KH} (hK : K (.string ⟨⟨Lib.trimLeftS l cs⟩⟩) σ) : callW Tryz.prog 83 [.string ⟨⟨l⟩⟩, .string ⟨⟨cs⟩⟩] K σ := by
 intro w hw
 refine callsIn_wide.2 ((Any.strings_TrimLeft_laid Tryz.lays161 (by kernel_rfl) ⟨⟨l⟩⟩ ⟨⟨cs⟩⟩ w (by rw [bsz]; omega) (ascii_of_all (List.all_eq_true.2 fun c h => by simpa using ha c h))).mono ?_)
 rintro en w' ⟨rfl, hb⟩
 exact ⟨_, rfl, σ, ext_below hw hb, hK⟩
attribute [local irreducible] ptrW ifW brW andW rdT alW letJ stW muW biW vaW imW callT cvalT app callW invW callVW sizeT oW nilF oneK loopW rfW funW begW roundK exW idxW Gr Put
def cutOne (c : UInt8) : List UInt8 -> List UInt8 × Bool
 | [] => ([], false)
 | x :: r => if x == c then (r, true) else (x :: r, false)
theorem x_CutPre (c : UInt8) (l : List UInt8) {σ : H} {K : KH} (hK : K (.tuple ⟨[.string ⟨⟨(cutOne c l).1⟩⟩, .bool (cutOne c l).2]⟩) σ) : callW Tryz.prog 84 [.string ⟨⟨l⟩⟩, .string ⟨⟨[c]⟩⟩] K σ := by
 refine c84 _ _ ?_
 unfold g84
 refine call_i (c107 _ _ ?_)
 unfold g107
 refine call_i (x_sliHP ⟨⟨l⟩⟩ ⟨⟨[c]⟩⟩ (app_B ?_))
 cases l with
 | nil => exact br_t rfl (app_of rfl hK)
 | cons x r =>
  have e : List.isPrefixOf (⟨⟨[c]⟩⟩ : ByteArray).data.toList (⟨⟨x :: r⟩⟩ : ByteArray).data.toList = (x == c) := by
   show (c == x && true) = (x == c)
   rw [Bool.and_true, Bool.eq_iff_iff]; simp only [beq_iff_eq]; exact eq_comm
  rw [e]
  cases h : x == c with
  | true =>
   have e2 : cutOne c (x :: r) = (r, true) := by show (if x == c then _ else _) = _; rw [h, if_pos rfl]
   rw [e2] at hK
   refine br_f rfl (if_i ⟨bnd_none, bnd_some (by simp) (by show (1 : Int) <= ((r.length + 1 : Nat) : Int); omega)⟩ (app_of rfl ?_))
   have e1 : (⟨⟨x :: r⟩⟩ : ByteArray).extract ((((⟨⟨[c]⟩⟩ : ByteArray).size : Nat) : Int).toNat) (⟨⟨x :: r⟩⟩ : ByteArray).size = ⟨⟨r⟩⟩ := ext_hd x r
   rw [e1]; exact hK
  | false =>
   have e2 : cutOne c (x :: r) = (x :: r, false) := by show (if x == c then _ else _) = _; rw [h, if_neg (by decide)]
   rw [e2] at hK
   exact br_t rfl (app_of rfl hK)
def rankN (s : ByteArray) : Int := (lk s [((⟨⟨[49, 48]⟩⟩ : ByteArray), (10 : Int)), (⟨⟨[57]⟩⟩, 9), (⟨⟨[45, 51]⟩⟩, -3), (⟨⟨[32, 55]⟩⟩, 7), (⟨⟨[49, 101, 51]⟩⟩, 1)]).getD 0
theorem s_whole (s : ByteArray) (hs : s ∈ words18) {σ : H} {K : KH} (hK : K (.int .i64 (rankN s)) σ) : callW Tryz.prog 57 [.string s] K σ := by
 refine c57 _ ?_
 unfold g57
 obtain ⟨l, rfl⟩ := wT s
 refine call_i (trimL_laid l [32, 9] (by decide) (by decide) (app_S ?_))
 refine call_i (x_CutPre 45 _ (app_of rfl ?_))
 refine loop_i fun R hR => ?_
 simp only [words18, List.mem_cons, List.mem_nil_iff, or_false] at hs
 rcases hs with hs | hs | hs | hs | hs | hs | hs | hs | hs | hs | hs | hs <;> (injection hs with hs; injection hs with hs; subst hs) <;> 
  repeat (first | exact hK | refine hR _ _ _ _ _ ?_ | refine br_t (by decide) ?_ | refine br_f (by decide) ?_ | refine j_d ?_ | refine idx_l (by decide) (by rfl) ?_)
theorem by_whole (ρ : H) : ByOk ρ (.func (.func 55) ⟨[]⟩ ⟨[]⟩) (· ∈ words18) (cmpK rankN) := by
 intro a b σ K _ ha hb hK
 refine callVW_ofT (by kernel_rfl) (c55 _ _ ?_)
 unfold g55
 refine call_i (s_whole a ha (app_I ?_))
 refine call_i (s_whole b hb (app_I ?_))
 refine call_i (c56 _ _ ?_)
 unfold g56
 refine call_i (c82 _ ?_)
 unfold g82
 refine app_B (call_i (c82 _ ?_))
 unfold g82
 have hK := hK σ (Gr.refl _)
 unfold cmpK at hK
 refine app_B (br_f (by simp) (br_f (by simp) ?_))
 by_cases h : rankN a < rankN b
 ·rw [if_pos h] at hK
  exact br_t (by rw [decide_eq_true_eq]; exact h) (app_I hK)
 ·rw [if_neg h] at hK
  refine br_f (by rw [decide_eq_false_iff_not]; exact h) ?_
  by_cases h2 : rankN a > rankN b
  ·rw [if_pos h2] at hK
   exact br_t (by rw [decide_eq_true_eq]; exact h2) (app_I hK)
  ·rw [if_neg h2] at hK
   exact br_f (by rw [decide_eq_false_iff_not]; exact h2) (app_I hK)
end Go.Proofs.YtpfkfphjigcdeaaGreatDoor

namespace Go.HL
open Go
def chain1 (v : Value) : List PanicEntry := [{ v, recovered := false }]
def callX (P : Program) (f : FuncId) (args : List Value) (K X : Value -> H -> Prop) (σ : H) : Prop :=
 ∀ w, σ.le w -> CallsIn Fence.wide 0 P f args.toArray w fun e w' => (∃ v, e = .returned v /\ ∃ σ', Ext σ w σ' w' /\ K v σ') \/ (∃ v, e = .panicked (chain1 v) /\ ∃ σ', Ext σ w σ' w' /\ X v σ')
theorem callX.mono {P : Program} {f : FuncId} {args : List Value} {K K' X X' : Value -> H -> Prop} {σ : H} (h : callX P f args K X σ) (hk : ∀ v σ', K v σ' -> K' v σ') (hx : ∀ v σ', X v σ' -> X' v σ') : callX P f args K' X' σ :=
 fun w hw => (h w hw).mono fun _ _ h => h.imp (fun ⟨v, e, σ', he, hv⟩ => ⟨v, e, σ', he, hk _ _ hv⟩) (fun ⟨v, e, σ', he, hv⟩ => ⟨v, e, σ', he, hx _ _ hv⟩)
theorem callX.drop {P : Program} {f : FuncId} {args : List Value} {K K' X X' : Value -> H -> Prop} {σ : H} (h : callX P f args K' X' σ) (hk : ∀ v σ', K' v σ' -> ∃ σ'', Gr σ'' σ' /\ K v σ'') (hx : ∀ v σ', X' v σ' -> ∃ σ'', Gr σ'' σ' /\ X v σ'') : callX P f args K X σ := by
 intro w hw
 refine (h w hw).mono fun e w' h => ?_
 rcases h with ⟨v, he, σ', hx', hk'⟩ | ⟨v, he, σ', hx', hk'⟩
 ·obtain ⟨σ'', hg, hk''⟩ := hk v σ' hk'
  exact .inl ⟨v, he, σ'', ⟨fun b o hb => hx'.le b o (hg b o hb), hx'.size, hx'.keep, fun b o hb hn => hx'.own b o (hg b o hb) hn, hx'.os, hx'.tape, hx'.output⟩, hk''⟩
 ·obtain ⟨σ'', hg, hk''⟩ := hx v σ' hk'
  exact .inr ⟨v, he, σ'', ⟨fun b o hb => hx'.le b o (hg b o hb), hx'.size, hx'.keep, fun b o hb hn => hx'.own b o (hg b o hb) hn, hx'.os, hx'.tape, hx'.output⟩, hk''⟩
theorem callX.ret {P : Program} {f : FuncId} {args : List Value} {K X : Value -> H -> Prop} {σ : H} (h : callX P f args K (fun _ _ => False) σ) : callW P f args K σ := by
 intro w hw
 refine (h w hw).mono fun e w' h => ?_
 rcases h with h | ⟨v, he, σ', hx', hk'⟩
 ·exact h
 ·exact hk'.elim
def reachX (P : Program) (R RX : Value -> World -> Prop) : Result Next -> Prop
 | .ok (.value v) w => R v w
 | .ok .skip w => R undef w
 | .ok (.enter f args) w => CallsIn Fence.wide 0 P f args w fun e w' => (∃ v, e = .returned v /\ R v w') \/ (∃ v, e = .panicked (chain1 v) /\ RX v w')
 | .ok (.round l f tmps assign body) w => RoundIn Fence.wide 0 P l f tmps assign body w fun e w' => ∃ v, e = .returned v /\ R v w'
 | .halt (.panic v) w => RX v w
 | _ => False
section
variable {P : Program} {τ : TypeId -> TK} {N : Nat} {pan : List Nat} {X : Env -> Value -> H -> Prop}
end
end Go.HL

namespace Go.HL
open Go
theorem reachX.mono {P : Program} {x : Result Next} {R R' RX RX' : Value -> World -> Prop} (h1 : ∀ v w, R v w -> R' v w) (h2 : ∀ v w, RX v w -> RX' v w) (h : reachX P R RX x) : reachX P R' RX' x := by
 unfold reachX at h ⊢
 split at h
 ·exact h1 _ _ h
 ·exact h1 _ _ h
 ·exact CallsIn.mono h fun e w h => h.imp (fun ⟨v, q, r⟩ => ⟨v, q, h1 _ _ r⟩) (fun ⟨v, q, r⟩ => ⟨v, q, h2 _ _ r⟩)
 ·exact RoundIn.mono h fun e w ⟨v, q, r⟩ => ⟨v, q, h1 _ _ r⟩
 ·exact h2 _ _ h
 ·exact h.elim
def invWX (P : Program) (s : Sem Next) (K X : Value -> H -> Prop) (σ : H) : Prop :=
 ∀ w, σ.le w -> reachX P (fun v w' => ∃ σ', Ext σ w σ' w' /\ K v σ') (fun v w' => ∃ σ', Ext σ w σ' w' /\ X v σ') (s.run P w)
theorem invWX.mono {P : Program} {s : Sem Next} {K K' X : Value -> H -> Prop} {σ : H} (h : invWX P s K X σ) (hk : ∀ v σ', K v σ' -> K' v σ') : invWX P s K' X σ :=
 fun w hw => (h w hw).mono (fun _ _ ⟨σ', he, hv⟩ => ⟨σ', he, hk _ _ hv⟩) fun _ _ h => h
theorem invWX.fin {P : Program} {s : Sem Next} {K X : Value -> H -> Prop} {σ : H} (h : invWX P s K X σ) : invWX P s (fun v σ' => Fin σ' /\ K v σ') X σ :=
 fun w hw => (h w hw).mono (fun _ _ ⟨σ', he, hk⟩ => ⟨σ', he, Fin.of_le he.le, hk⟩) fun _ _ h => h
section
variable (P : Program) (ops : Array Oper) (cl : Nat -> Nat) (A : Nat -> Nat -> Bool) (X : Value -> H -> Prop)
def SRunX : List (Nat × Sem Next × Value) -> List Nat -> Act -> (Pq -> Act -> H -> Prop) -> H -> Prop
 | p, [], a, K, σ => K p a σ
 | pend, i :: l, a, K, σ => ∃ o, ops[i]? = some o /\ plainOp o.op = true /\
  if Region.wanted o (yielded ops a.tmps) then
   match cl i with
   | 0 => ∃ v, Sil P (execOp a.eval o) v /\ SRunX pend l (a.put o.dst v) K σ
   | 1 => ∃ v, RdS P (execOp a.eval o) σ v /\ SRunX ((i, execOp a.eval o, v) :: pend) l (a.put o.dst v) K σ
   | 2 => ∃ mk obj, IsAl P (execOp a.eval o) mk obj /\ ∀ b, σ b = none -> SRunX pend l (a.put o.dst (mk b)) K (σ.put b obj)
   | _ => invWX P (execOp a.eval o) (fun v σ' => (∀ q ∈ pend, A q.1 i = true \/ RdS P q.2.1 σ' q.2.2) /\ SRunX pend l (a.put o.dst v) K σ') X σ
  else SRunX pend l (a.put o.dst undef) K σ
end
section
variable {P : Program} {ops : Array Oper} {cl : Nat -> Nat} {A : Nat -> Nat -> Bool} {X : Value -> H -> Prop}
theorem SRunX.pend {l : List Nat} : ∀ {p p' : List (Nat × Sem Next × Value)} {a : Act} {K : Pq -> Act -> H -> Prop} {σ : H}, PMono K -> (∀ q ∈ p', q ∈ p) -> SRunX P ops cl A X p l a K σ -> SRunX P ops cl A X p' l a K σ := by
 induction l with
 | nil => intro p p' a K σ hm hs h; exact hm _ _ _ _ hs h
 | cons i l ih =>
  intro p p' a K σ hm hs h
  obtain ⟨o, ho, hp, h⟩ := h
  refine ⟨o, ho, hp, ?_⟩
  split at h
  ·rename_i hw
   rw [if_pos hw]
   split at h
   ·obtain ⟨v, hv, h⟩ := h; exact ⟨v, hv, ih hm hs h⟩
   ·obtain ⟨v, hv, h⟩ := h
    refine ⟨v, hv, ih hm (fun q hq => ?_) h⟩
    cases hq with
    | head => exact List.mem_cons_self ..
    | tail _ hq => exact List.mem_cons_of_mem _ (hs q hq)
   ·obtain ⟨mk, obj, hv, h⟩ := h; exact ⟨mk, obj, hv, fun b hb => ih hm hs (h b hb)⟩
   ·exact h.mono fun v σ' ⟨h1, h2⟩ => ⟨fun q hq => h1 q (hs q hq), ih hm hs h2⟩
  ·rename_i hw
   rw [if_neg hw]
   exact ih hm hs h

theorem SRunX.head {l l' : List Nat} {K K' : Pq -> Act -> H -> Prop} (hll : ∀ p a σ, Fin σ -> SRunX P ops cl A X p l a K σ -> SRunX P ops cl A X p l' a K' σ) {i : Nat} {p : List (Nat × Sem Next × Value)} {a : Act} {σ : H}
 (hf : Fin σ) (h : SRunX P ops cl A X p (i :: l) a K σ) : SRunX P ops cl A X p (i :: l') a K' σ := by
 obtain ⟨o, ho, hp, h⟩ := h
 refine ⟨o, ho, hp, ?_⟩
 split at h
 ·rename_i hw
  rw [if_pos hw]
  split at h
  ·obtain ⟨v, hv, h⟩ := h; exact ⟨v, hv, hll _ _ _ hf h⟩
  ·obtain ⟨v, hv, h⟩ := h; exact ⟨v, hv, hll _ _ _ hf h⟩
  ·obtain ⟨mk, obj, hv, h⟩ := h; exact ⟨mk, obj, hv, fun b hb => hll _ _ _ (hf.put _ _) (h b hb)⟩
  ·exact h.fin.mono fun v σ' ⟨hf', h1, h2⟩ => ⟨h1, hll _ _ _ hf' h2⟩
 ·rename_i hw
  rw [if_neg hw]
  exact hll _ _ _ hf h

end
section
variable {P : Program} {τ : TypeId -> TK} {N : Nat} {ops : Array Oper} {A : Nat -> Nat -> Bool} {pan : List Nat} {X : Value -> H -> Prop}
end
end Go.HL

namespace Go.HL
open Go
section
variable {P : Program} {τ : TypeId -> TK} {N : Nat} {pan : List Nat} {X : Env -> Value -> H -> Prop}
end

section
variable {P : Program} {τ : TypeId -> TK} {N : Nat} {pan : List Nat} {X : Env -> Value -> H -> Prop}
end
end Go.HL

namespace Go.HL
open Go
section
variable {P : Program} {τ : TypeId -> TK} {pan : List Nat}
end
structure Df where
 g : FuncId
 as_ : List Value
 cs : List Value
def Df.d (x : Df) : Deferred := { target := .fn (.func x.g) ⟨x.cs⟩, args := ⟨x.as_⟩ }
inductive Md where
 | ret | pan (v : Value)
def Md.mode : Md -> FrameMode
 | .ret => .returning
 | .pan v => .panicking (chain1 v)
section
variable {P : Program} {τ : TypeId -> TK} {pan : List Nat} {N : Nat}
end
end Go.HL

namespace Go.HL
open Go
section
variable {P : Program} {τ : TypeId -> TK} {N : Nat}
end
end Go.HL

namespace Go.HL
open Go
section
variable {P : Program} {σ : H} {X : Value -> H -> Prop} {pan : List Nat} {t : TK} {F : t.Fn (H -> Prop)}
theorem va_run {s : Sem Value} {v : Value} (h : ∀ w, s.run P w = .ok v w) (hF : app t F v σ) : vaW P s t F σ := by
 intro w hw
 simp only [valS, Sem.run_bind, h w, Result.andThen_ok, Sem.run_pure]
 exact ⟨_, Ext.refl hw, hF⟩
end
end Go.HL

set_option maxRecDepth 100000
namespace Go.Proofs.YtpfkfphjigcdeaaGreatDoor
open Go Go.HL Go.Wk
theorem go_f64b : isGo Tryz.prog 181 = false := by kernel_rfl
theorem fn_f64b : (Tryz.prog.funcs[181]?).map (fun fn => ((fn.name == "runtime.NumGoroutine"), fn.body.isNone)) = some (false, true) := by kernel_rfl
theorem ex_f64b : (Tryz.prog.funcs[181]?).bind (fun fn => Extern.find fn) = some Extern.MathFloatBits.float64frombits := by kernel_rfl
theorem en_f64b : (Tryz.prog.funcs[181]?).map (fun fn => (Extern.findNext fn).isNone) = some true := by kernel_rfl
theorem x_f64b (n : Int) {σ : H} {F : Value -> H -> Prop} (hF : F (.float .f64 n.toNat) σ) : cvalT Tryz.prog (.func (.func 181) ⟨[]⟩ ⟨[]⟩) [.int .u64 n] kR F σ := by
 unfold cvalT callVW
 simp only [go_f64b]
 intro w hw
 have h1 := fn_f64b
 have h2 := ex_f64b
 have h3 := en_f64b
 cases hf : Tryz.prog.funcs[181]? with
 | none => rw [hf] at h1; cases h1
 | some fn =>
  rw [hf] at h1 h2 h3
  simp only [Option.map_some, Option.some.injEq, Prod.mk.injEq, Option.bind_some] at h1 h2 h3
  have hr := run_callFunc_extern hf h1.1 h1.2 (Option.isNone_iff_eq_none.1 h3) h2 #[.int .u64 n] w
  have : (callS (.func (.func 181) ⟨[]⟩ ⟨[]⟩) [.int .u64 n]).run Tryz.prog w = .ok (.value (.float .f64 n.toNat)) w := by
   refine Eq.trans ?_ hr
   simp [callS, Deferred.ofValue, invoke]
  rw [this]
  exact ⟨σ, Ext.refl hw, app_R hF⟩
attribute [local irreducible] ptrW ifW brW andW rdT alW letJ stW muW biW vaW imW callT cvalT app callW invW callVW sizeT oW nilF oneK loopW rfW funW begW roundK exW idxW Gr Put
def rdRes (m e : Int) (neg : Bool) (n : Int) : Value := .tuple ⟨[.int .u64 m, .int .i64 e, .bool neg, .bool false, .bool false, .int .i64 n, .bool true]⟩
theorem x_lower (c : Int) {σ : H} {K : KH} (hK : K (.int .u8 (bitV .or .u8 c 32)) σ) : callW Tryz.prog 169 [.int .u8 c] K σ := by
 refine c169 _ ?_
 unfold g169
 exact hK
theorem x_bool64 (x : Bool) {σ : H} {K : KH} (hK : K (.int .u64 (if x then 1 else 0)) σ) : callW Tryz.prog 180 [.bool x] K σ := by
 refine c180 _ ?_
 unfold g180
 cases x with
 | true => exact br_t rfl hK
 | false => exact br_f rfl hK
theorem cpl_nan {σ : H} {K : KH} (hK : K (.int .i64 3) σ) : callW Tryz.prog 184 [.string ⟨⟨[110, 97, 110]⟩⟩, .string ⟨⟨[110, 97, 110]⟩⟩] K σ := by
 refine c184 _ _ ?_
 unfold g184
 refine loop_i fun R hR => ?_
 repeat (first | exact hK | refine hR _ _ _ _ _ ?_ | refine br_t (by decide) ?_ | refine br_f (by decide) ?_ | refine j_d ?_ | refine idx_l (by decide) (by rfl) ?_)
theorem sp_nan {σ : H} {K : KH} (hK : K (.tuple ⟨[.float .f64 9221120237041090561, .int .i64 3, .bool true]⟩) σ) : callW Tryz.prog 171 [.string ⟨⟨[110, 97, 110]⟩⟩] K σ := by
 refine c171 _ ?_
 unfold g171
 repeat (first | exact hK | refine br_t (by decide) ?_ | refine br_f (by decide) ?_ | refine j_d ?_ | refine idx_l (by decide) (by rfl) ?_ | refine call_i (cpl_nan (app_I ?_)) | refine call_i (c186 ?_))
 unfold g186
 exact x_f64b _ (app_R hK)
theorem cpl_0 {s : ByteArray} (hs : s = ⟨⟨[51]⟩⟩ \/ s = ⟨⟨[48]⟩⟩) {σ : H} {K : KH} (hK : K (.int .i64 0) σ) : callW Tryz.prog 184 [.string s, .string ⟨⟨[105, 110, 102, 105, 110, 105, 116, 121]⟩⟩] K σ := by
 refine c184 _ _ ?_
 unfold g184
 refine loop_i fun R hR => ?_
 rcases hs with rfl | rfl <;> repeat (first | exact hK | refine hR _ _ _ _ _ ?_ | refine br_t (by decide) ?_ | refine br_f (by decide) ?_ | refine j_d ?_ | refine idx_l (by decide) (by rfl) ?_)
theorem rf_10 {σ : H} {K : KH} (hK : K (rdRes 10 0 false 2) σ) : callW Tryz.prog 172 [.string ⟨⟨[49, 48]⟩⟩] K σ := by
 refine c172 _ ?_
 unfold g172
 repeat (first | exact hK | refine br_t (by decide) ?_ | refine br_f (by decide) ?_ | refine j_d ?_ | refine idx_l (by decide) (by rfl) ?_ | refine loop_i fun R hR => ?_ | refine hR _ _ _ _ _ _ _ _ _ _ _ _ _ _ _ _ _ _ ?_ | refine hR _ _ _ _ _ _ _ _ _ _ _ _ _ _ ?_ | refine call_i (x_lower _ (app_I ?_)))
theorem sp_10 {σ : H} {K : KH} (hK : K (.tuple ⟨[.float .f64 0, .int .i64 0, .bool false]⟩) σ) : callW Tryz.prog 171 [.string ⟨⟨[49, 48]⟩⟩] K σ := by
 refine c171 _ ?_
 unfold g171
 repeat (first | exact hK | refine br_t (by decide) ?_ | refine br_f (by decide) ?_ | refine j_d ?_ | refine idx_l (by decide) (by rfl) ?_)
theorem rf_9 {σ : H} {K : KH} (hK : K (rdRes 9 0 false 1) σ) : callW Tryz.prog 172 [.string ⟨⟨[57]⟩⟩] K σ := by
 refine c172 _ ?_
 unfold g172
 repeat (first | exact hK | refine br_t (by decide) ?_ | refine br_f (by decide) ?_ | refine j_d ?_ | refine idx_l (by decide) (by rfl) ?_ | refine loop_i fun R hR => ?_ | refine hR _ _ _ _ _ _ _ _ _ _ _ _ _ _ _ _ _ _ ?_ | refine hR _ _ _ _ _ _ _ _ _ _ _ _ _ _ ?_ | refine call_i (x_lower _ (app_I ?_)))
theorem sp_9 {σ : H} {K : KH} (hK : K (.tuple ⟨[.float .f64 0, .int .i64 0, .bool false]⟩) σ) : callW Tryz.prog 171 [.string ⟨⟨[57]⟩⟩] K σ := by
 refine c171 _ ?_
 unfold g171
 repeat (first | exact hK | refine br_t (by decide) ?_ | refine br_f (by decide) ?_ | refine j_d ?_ | refine idx_l (by decide) (by rfl) ?_)
theorem rf_m3 {σ : H} {K : KH} (hK : K (rdRes 3 0 true 2) σ) : callW Tryz.prog 172 [.string ⟨⟨[45, 51]⟩⟩] K σ := by
 refine c172 _ ?_
 unfold g172
 repeat (first | exact hK | refine br_t (by decide) ?_ | refine br_f (by decide) ?_ | refine j_d ?_ | refine idx_l (by decide) (by rfl) ?_ | refine loop_i fun R hR => ?_ | refine hR _ _ _ _ _ _ _ _ _ _ _ _ _ _ _ _ _ _ ?_ | refine hR _ _ _ _ _ _ _ _ _ _ _ _ _ _ ?_ | refine call_i (x_lower _ (app_I ?_)))
theorem sp_m3 {σ : H} {K : KH} (hK : K (.tuple ⟨[.float .f64 0, .int .i64 0, .bool false]⟩) σ) : callW Tryz.prog 171 [.string ⟨⟨[45, 51]⟩⟩] K σ := by
 refine c171 _ ?_
 unfold g171
 repeat (first | exact hK | refine if_i ⟨bnd_none, bnd_some (by decide) (by decide)⟩ ?_ | refine call_i (cpl_0 (.inl (by rfl)) (app_I ?_)) | refine br_t (by decide) ?_ | refine br_f (by decide) ?_ | refine j_d ?_ | refine idx_l (by decide) (by rfl) ?_)
theorem rf_7 {σ : H} {K : KH} (hK : K (rdRes 7 0 false 1) σ) : callW Tryz.prog 172 [.string ⟨⟨[55]⟩⟩] K σ := by
 refine c172 _ ?_
 unfold g172
 repeat (first | exact hK | refine br_t (by decide) ?_ | refine br_f (by decide) ?_ | refine j_d ?_ | refine idx_l (by decide) (by rfl) ?_ | refine loop_i fun R hR => ?_ | refine hR _ _ _ _ _ _ _ _ _ _ _ _ _ _ _ _ _ _ ?_ | refine hR _ _ _ _ _ _ _ _ _ _ _ _ _ _ ?_ | refine call_i (x_lower _ (app_I ?_)))
theorem sp_7 {σ : H} {K : KH} (hK : K (.tuple ⟨[.float .f64 0, .int .i64 0, .bool false]⟩) σ) : callW Tryz.prog 171 [.string ⟨⟨[55]⟩⟩] K σ := by
 refine c171 _ ?_
 unfold g171
 repeat (first | exact hK | refine br_t (by decide) ?_ | refine br_f (by decide) ?_ | refine j_d ?_ | refine idx_l (by decide) (by rfl) ?_)
theorem rf_1e3 {σ : H} {K : KH} (hK : K (rdRes 1 3 false 3) σ) : callW Tryz.prog 172 [.string ⟨⟨[49, 101, 51]⟩⟩] K σ := by
 refine c172 _ ?_
 unfold g172
 repeat (first | exact hK | refine br_t (by decide) ?_ | refine br_f (by decide) ?_ | refine j_d ?_ | refine idx_l (by decide) (by rfl) ?_ | refine loop_i fun R hR => ?_ | refine hR _ _ _ _ _ _ _ _ _ _ _ _ _ _ _ _ _ _ ?_ | refine hR _ _ _ _ _ _ _ _ _ _ _ _ _ _ ?_ | refine call_i (x_lower _ (app_I ?_)))
theorem sp_1e3 {σ : H} {K : KH} (hK : K (.tuple ⟨[.float .f64 0, .int .i64 0, .bool false]⟩) σ) : callW Tryz.prog 171 [.string ⟨⟨[49, 101, 51]⟩⟩] K σ := by
 refine c171 _ ?_
 unfold g171
 repeat (first | exact hK | refine br_t (by decide) ?_ | refine br_f (by decide) ?_ | refine j_d ?_ | refine idx_l (by decide) (by rfl) ?_)
theorem rf_m0 {σ : H} {K : KH} (hK : K (rdRes 0 0 true 2) σ) : callW Tryz.prog 172 [.string ⟨⟨[45, 48]⟩⟩] K σ := by
 refine c172 _ ?_
 unfold g172
 repeat (first | exact hK | refine br_t (by decide) ?_ | refine br_f (by decide) ?_ | refine j_d ?_ | refine idx_l (by decide) (by rfl) ?_ | refine loop_i fun R hR => ?_ | refine hR _ _ _ _ _ _ _ _ _ _ _ _ _ _ _ _ _ _ ?_ | refine hR _ _ _ _ _ _ _ _ _ _ _ _ _ _ ?_ | refine call_i (x_lower _ (app_I ?_)))
theorem sp_m0 {σ : H} {K : KH} (hK : K (.tuple ⟨[.float .f64 0, .int .i64 0, .bool false]⟩) σ) : callW Tryz.prog 171 [.string ⟨⟨[45, 48]⟩⟩] K σ := by
 refine c171 _ ?_
 unfold g171
 repeat (first | exact hK | refine if_i ⟨bnd_none, bnd_some (by decide) (by decide)⟩ ?_ | refine call_i (cpl_0 (.inr (by rfl)) (app_I ?_)) | refine br_t (by decide) ?_ | refine br_f (by decide) ?_ | refine j_d ?_ | refine idx_l (by decide) (by rfl) ?_)
theorem rd_inf {σ : H} (h : FloT σ) : rdC 11 0 σ = some (.int .u64 52) := by
 obtain ⟨_, ⟨t, z, h⟩, _⟩ := h
 exact rdC_of h (by rfl)
theorem rd_opt {σ : H} (h : FloT σ) : rdC 10 0 σ = some (.bool true) := by
 obtain ⟨⟨t, z, h⟩, _⟩ := h
 exact rdC_of h (by rfl)
theorem ex_10 {σ : H} (hf : FloT σ) {K : KH} (hK : K (.tuple ⟨[.float .f64 4621819117588971520, .bool true]⟩) σ) : callW Tryz.prog 182 [.int .u64 10, .int .i64 0, .bool false] K σ := by
 refine c182 _ _ _ ?_
 unfold g182
 refine rd_I (rd_inf hf) (if_i (by decide) (br_f (by decide) (va_run (v := .float .f64 4621819117588971520) (fun w => by kernel_rfl) (app_R (j_d ?_)))))
 exact br_f rfl (br_t (by decide) hK)
theorem ex_9 {σ : H} (hf : FloT σ) {K : KH} (hK : K (.tuple ⟨[.float .f64 4621256167635550208, .bool true]⟩) σ) : callW Tryz.prog 182 [.int .u64 9, .int .i64 0, .bool false] K σ := by
 refine c182 _ _ _ ?_
 unfold g182
 refine rd_I (rd_inf hf) (if_i (by decide) (br_f (by decide) (va_run (v := .float .f64 4621256167635550208) (fun w => by kernel_rfl) (app_R (j_d ?_)))))
 exact br_f rfl (br_t (by decide) hK)
theorem ex_m3 {σ : H} (hf : FloT σ) {K : KH} (hK : K (.tuple ⟨[.float .f64 13837309855095848960, .bool true]⟩) σ) : callW Tryz.prog 182 [.int .u64 3, .int .i64 0, .bool true] K σ := by
 refine c182 _ _ _ ?_
 unfold g182
 refine rd_I (rd_inf hf) (if_i (by decide) (br_f (by decide) (va_run (v := .float .f64 4613937818241073152) (fun w => by kernel_rfl) (app_R (j_d ?_)))))
 refine br_t rfl (va_run (v := .float .f64 13837309855095848960) (fun w => by kernel_rfl) (app_R ?_))
 exact br_t (by decide) hK
theorem ex_7 {σ : H} (hf : FloT σ) {K : KH} (hK : K (.tuple ⟨[.float .f64 4619567317775286272, .bool true]⟩) σ) : callW Tryz.prog 182 [.int .u64 7, .int .i64 0, .bool false] K σ := by
 refine c182 _ _ _ ?_
 unfold g182
 refine rd_I (rd_inf hf) (if_i (by decide) (br_f (by decide) (va_run (v := .float .f64 4619567317775286272) (fun w => by kernel_rfl) (app_R (j_d ?_)))))
 exact br_f rfl (br_t (by decide) hK)
theorem ex_1e3 {σ : H} (hf : FloT σ) {K : KH} (hK : K (.tuple ⟨[.float .f64 4652007308841189376, .bool true]⟩) σ) : callW Tryz.prog 182 [.int .u64 1, .int .i64 3, .bool false] K σ := by
 refine c182 _ _ _ ?_
 unfold g182
 refine rd_I (rd_inf hf) (if_i (by decide) (br_f (by decide) (va_run (v := .float .f64 4607182418800017408) (fun w => by kernel_rfl) (app_R (j_d ?_)))))
 refine br_f rfl (br_f (by decide) (j_d (br_t (by decide) (br_t (by decide) (j_d (br_f (by decide) (j_d ?_)))))))
 refine va_run (v := .bool false) (fun w => by kernel_rfl) (app_B (br_f rfl (va_run (v := .bool false) (fun w => by kernel_rfl) (app_B (br_f rfl ?_)))))
 obtain ⟨_, _, x, t, z, hx, hr⟩ := hf
 have hl : x.len = 23 := hr.1
 obtain ⟨g, o, q1, q2, q3⟩ := hr.rdA (i := 3) (r := [.float .f64 4652007308841189376]) (by rfl) (by decide)
 refine rd_L (rdC_of hx (by rfl)) ?_
 rw [q1]
 refine ptr_i (if_i ⟨by decide, by show (3 : Int) < ((x.len : Nat) : Int); omega⟩ (rd_R (q3 0 _ (by rfl)) ?_))
 exact va_run (v := .float .f64 4652007308841189376) (fun w => by kernel_rfl) (app_R hK)
theorem at_10 {σ : H} (hf : FloT σ) {K : KH} (hK : K (.tuple ⟨[.float .f64 4621819117588971520, .int .i64 2, .nilIface]⟩) σ) : callW Tryz.prog 167 [.string ⟨⟨[49, 48]⟩⟩] K σ := by
 refine c167 _ ?_
 unfold g167
 refine call_i (sp_10 (app_of rfl (br_f rfl (call_i (rf_10 (app_of rfl ?_))))))
 refine br_f rfl (br_f rfl (j_d (rd_B (rd_opt hf) (br_t rfl (call_i (x_bool64 _ (app_I (if_i (by decide) ?_))))))))
 exact br_f (by decide) (br_f (by decide) (br_f (by decide) (j_d (br_t rfl (call_i (ex_10 hf (app_of rfl (br_t rfl hK))))))))
theorem at_9 {σ : H} (hf : FloT σ) {K : KH} (hK : K (.tuple ⟨[.float .f64 4621256167635550208, .int .i64 1, .nilIface]⟩) σ) : callW Tryz.prog 167 [.string ⟨⟨[57]⟩⟩] K σ := by
 refine c167 _ ?_
 unfold g167
 refine call_i (sp_9 (app_of rfl (br_f rfl (call_i (rf_9 (app_of rfl ?_))))))
 refine br_f rfl (br_f rfl (j_d (rd_B (rd_opt hf) (br_t rfl (call_i (x_bool64 _ (app_I (if_i (by decide) ?_))))))))
 exact br_f (by decide) (br_f (by decide) (br_f (by decide) (j_d (br_t rfl (call_i (ex_9 hf (app_of rfl (br_t rfl hK))))))))
theorem at_m3 {σ : H} (hf : FloT σ) {K : KH} (hK : K (.tuple ⟨[.float .f64 13837309855095848960, .int .i64 2, .nilIface]⟩) σ) : callW Tryz.prog 167 [.string ⟨⟨[45, 51]⟩⟩] K σ := by
 refine c167 _ ?_
 unfold g167
 refine call_i (sp_m3 (app_of rfl (br_f rfl (call_i (rf_m3 (app_of rfl ?_))))))
 refine br_f rfl (br_f rfl (j_d (rd_B (rd_opt hf) (br_t rfl (call_i (x_bool64 _ (app_I (if_i (by decide) ?_))))))))
 exact br_f (by decide) (br_f (by decide) (br_f (by decide) (j_d (br_t rfl (call_i (ex_m3 hf (app_of rfl (br_t rfl hK))))))))
theorem at_7 {σ : H} (hf : FloT σ) {K : KH} (hK : K (.tuple ⟨[.float .f64 4619567317775286272, .int .i64 1, .nilIface]⟩) σ) : callW Tryz.prog 167 [.string ⟨⟨[55]⟩⟩] K σ := by
 refine c167 _ ?_
 unfold g167
 refine call_i (sp_7 (app_of rfl (br_f rfl (call_i (rf_7 (app_of rfl ?_))))))
 refine br_f rfl (br_f rfl (j_d (rd_B (rd_opt hf) (br_t rfl (call_i (x_bool64 _ (app_I (if_i (by decide) ?_))))))))
 exact br_f (by decide) (br_f (by decide) (br_f (by decide) (j_d (br_t rfl (call_i (ex_7 hf (app_of rfl (br_t rfl hK))))))))
theorem at_1e3 {σ : H} (hf : FloT σ) {K : KH} (hK : K (.tuple ⟨[.float .f64 4652007308841189376, .int .i64 3, .nilIface]⟩) σ) : callW Tryz.prog 167 [.string ⟨⟨[49, 101, 51]⟩⟩] K σ := by
 refine c167 _ ?_
 unfold g167
 refine call_i (sp_1e3 (app_of rfl (br_f rfl (call_i (rf_1e3 (app_of rfl ?_))))))
 refine br_f rfl (br_f rfl (j_d (rd_B (rd_opt hf) (br_t rfl (call_i (x_bool64 _ (app_I (if_i (by decide) ?_))))))))
 exact br_f (by decide) (br_f (by decide) (br_f (by decide) (j_d (br_t rfl (call_i (ex_1e3 hf (app_of rfl (br_t rfl hK))))))))
theorem at_m0 {σ : H} (hf : FloT σ) {K : KH} (hK : K (.tuple ⟨[.float .f64 9223372036854775808, .int .i64 2, .nilIface]⟩) σ) : callW Tryz.prog 167 [.string ⟨⟨[45, 48]⟩⟩] K σ := by
 refine c167 _ ?_
 unfold g167
 refine call_i (sp_m0 (app_of rfl (br_f rfl (call_i (rf_m0 (app_of rfl ?_))))))
 refine br_f rfl (br_f rfl (j_d (rd_B (rd_opt hf) (br_t rfl (call_i (x_bool64 _ (app_I (if_i (by decide) ?_))))))))
 exact br_t (by decide) (x_f64b _ hK)
theorem at_nan {σ : H} {K : KH} (hK : K (.tuple ⟨[.float .f64 9221120237041090561, .int .i64 3, .nilIface]⟩) σ) : callW Tryz.prog 167 [.string ⟨⟨[110, 97, 110]⟩⟩] K σ := by
 refine c167 _ ?_
 unfold g167
 exact call_i (sp_nan (app_of rfl (br_t rfl hK)))
end Go.Proofs.YtpfkfphjigcdeaaGreatDoor

set_option maxRecDepth 100000
namespace Go.Proofs.YtpfkfphjigcdeaaGreatDoor
open Go Go.HL Go.Wk
theorem trimS_laid (l cs : List UInt8) (hl : l.length <= 1000000000) (hc : cs.length <= 100) (ha : ∀ c ∈ cs, c.toNat < 128) {σ : H} {K : KH} (hK : K (.string ⟨⟨Lib.trimS l cs⟩⟩) σ) : callW Tryz.prog 95 [.string ⟨⟨l⟩⟩, .string ⟨⟨cs⟩⟩] K σ := by
 intro w hw
 refine callsIn_wide.2 ((Any.strings_Trim_laid Tryz.lays160 (by kernel_rfl) ⟨⟨l⟩⟩ ⟨⟨cs⟩⟩ w (by rw [bsz]; omega) (by rw [bsz]; omega) (ascii_of_all (List.all_eq_true.2 fun c h => by simpa using ha c h))).mono ?_)
 rintro en w' ⟨rfl, hb⟩
 exact ⟨_, rfl, σ, ext_below hw hb, hK⟩
attribute [local irreducible] ptrW ifW brW andW rdT alW letJ stW muW biW vaW imW callT cvalT app callW invW callVW sizeT oW nilF oneK loopW rfW funW begW roundK exW idxW Gr Put
theorem x_pf (s : ByteArray) (bits : Nat) (n : Int) (hn : n = ((s.size : Nat) : Int)) {σ : H} {K : KH} (hat : ∀ {K : KH}, K (.tuple ⟨[.float .f64 bits, .int .i64 n, .nilIface]⟩) σ -> callW Tryz.prog 167 [.string s] K σ) (hK : K (.tuple ⟨[.float .f64 bits, .nilIface]⟩) σ) : callW Tryz.prog 110 [.string s, .int .i64 64] K σ := by
 refine c110 _ _ ?_
 unfold g110
 refine call_i (c133 _ _ ?_)
 unfold g133
 refine call_i (c153 _ _ ?_)
 unfold g153
 refine br_f (by decide) (call_i (hat (app_of rfl (app_of rfl (br_f ?_ (app_of rfl ?_))))))
 ·rw [hn]; simp
 ·exact va_run (v := .bool false) (fun w => by kernel_rfl) (app_B (br_f rfl hK))
def unsP : List UInt8 -> List UInt8
 | [] => []
 | c :: r => if c == 43 || c == 45 then r else c :: r
theorem x_uns (s : ByteArray) {σ : H} {K : KH} (hK : K (.string ⟨⟨unsP s.data.toList⟩⟩) σ) : callW Tryz.prog 109 [.string s] K σ := by
 refine c109 _ ?_
 unfold g109
 obtain ⟨l, rfl⟩ := wT s
 refine j_d ?_
 cases l with
 | nil => exact br_f (by rw [strEq_nil]; rfl) (br_f rfl hK)
 | cons c r =>
  have hs : strEq ⟨⟨c :: r⟩⟩ ⟨⟨[]⟩⟩ = false := by rw [strEq_nil]; rfl
  have e1 : (⟨⟨c :: r⟩⟩ : ByteArray).extract ((1 : Int).toNat) (⟨⟨c :: r⟩⟩ : ByteArray).size = ⟨⟨r⟩⟩ := ext_hd c r
  have hb : bndOk none (⟨⟨c :: r⟩⟩ : ByteArray).size /\ bndOk (some 1) ((⟨⟨c :: r⟩⟩ : ByteArray).size) := ⟨bnd_none, bnd_some (by decide) (by show (1 : Int) <= ((r.length + 1 : Nat) : Int); omega)⟩
  refine br_t (by rw [hs]; rfl) (idx_l (c := c) (Int.le_refl _) rfl ?_)
  by_cases h1 : c = 43
  ·subst h1
   refine br_t rfl (br_t rfl (if_i hb ?_))
   rw [e1]; exact hK
  ·have h1' : (c.toNat : Int) ≠ 43 := fun e => h1 (UInt8.toNat_inj.1 (by show c.toNat = 43; omega))
   refine br_f (by simpa using h1') (idx_l (c := c) (Int.le_refl _) rfl ?_)
   by_cases h2 : c = 45
   ·subst h2
    refine br_t rfl (if_i hb ?_)
    rw [e1]; exact hK
   ·have h2' : (c.toNat : Int) ≠ 45 := fun e => h2 (UInt8.toNat_inj.1 (by show c.toNat = 45; omega))
    refine br_f (by simpa using h2') ?_
    have e2 : unsP (c :: r) = c :: r := by
     show (if c == 43 || c == 45 then r else c :: r) = _
     rw [if_neg (by simp [h1, h2])]
    rw [show (⟨⟨c :: r⟩⟩ : ByteArray).data.toList = c :: r from rfl, e2] at hK
    exact hK
theorem x_digs (s : ByteArray) {σ : H} {K : KH} (hK : K (.tuple ⟨[.string ⟨⟨Lib.trimLeftS s.data.toList [48, 49, 50, 51, 52, 53, 54, 55, 56, 57]⟩⟩, .int .i64 (IntKind.i64.wrap (((s.size : Nat) : Int) - (((Lib.trimLeftS s.data.toList [48, 49, 50, 51, 52, 53, 54, 55, 56, 57]).length : Nat) : Int)))]⟩) σ) : callW Tryz.prog 132 [.string s] K σ := by
 refine c132 _ ?_
 unfold g132
 exact call_i (trimL_laid s.data.toList _ (by decide) (by decide) (app_S hK))
theorem x_CutPre' (c : UInt8) (s : ByteArray) {σ : H} {K : KH} (hK : K (.tuple ⟨[.string ⟨⟨(cutOne c s.data.toList).1⟩⟩, .bool (cutOne c s.data.toList).2]⟩) σ) : callW Tryz.prog 84 [.string s, .string ⟨⟨[c]⟩⟩] K σ := by
 obtain ⟨l, rfl⟩ := wT s
 exact x_CutPre c l hK
theorem dec_e {σ : H} {K : KH} (hK : K (.bool false) σ) : callW Tryz.prog 108 [.string ⟨⟨[]⟩⟩] K σ := by
 refine c108 _ ?_
 unfold g108
 repeat (first | exact hK | (rw [<- sEq_eq]; exact hK) | refine br_t (by rw [<- sEq_eq]; decide) ?_ | refine br_f (by rw [<- sEq_eq]; decide) ?_ | refine br_t (by decide) ?_ | refine br_f (by decide) ?_ | refine j_d ?_ | refine idx_l (by decide) (by rfl) ?_ | refine call_i (x_uns _ (app_S ?_)) | refine call_i (x_digs _ (app_of rfl ?_)) | refine call_i (x_CutPre' _ _ (app_of rfl ?_)) | refine if_i ⟨bnd_none, bnd_some (by decide) (by decide)⟩ ?_)
theorem dec_a {σ : H} {K : KH} (hK : K (.bool false) σ) : callW Tryz.prog 108 [.string ⟨⟨[97]⟩⟩] K σ := by
 refine c108 _ ?_
 unfold g108
 repeat (first | exact hK | (rw [<- sEq_eq]; exact hK) | refine br_t (by rw [<- sEq_eq]; decide) ?_ | refine br_f (by rw [<- sEq_eq]; decide) ?_ | refine br_t (by decide) ?_ | refine br_f (by decide) ?_ | refine j_d ?_ | refine idx_l (by decide) (by rfl) ?_ | refine call_i (x_uns _ (app_S ?_)) | refine call_i (x_digs _ (app_of rfl ?_)) | refine call_i (x_CutPre' _ _ (app_of rfl ?_)) | refine if_i ⟨bnd_none, bnd_some (by decide) (by decide)⟩ ?_)
theorem dec_b {σ : H} {K : KH} (hK : K (.bool false) σ) : callW Tryz.prog 108 [.string ⟨⟨[98]⟩⟩] K σ := by
 refine c108 _ ?_
 unfold g108
 repeat (first | exact hK | (rw [<- sEq_eq]; exact hK) | refine br_t (by rw [<- sEq_eq]; decide) ?_ | refine br_f (by rw [<- sEq_eq]; decide) ?_ | refine br_t (by decide) ?_ | refine br_f (by decide) ?_ | refine j_d ?_ | refine idx_l (by decide) (by rfl) ?_ | refine call_i (x_uns _ (app_S ?_)) | refine call_i (x_digs _ (app_of rfl ?_)) | refine call_i (x_CutPre' _ _ (app_of rfl ?_)) | refine if_i ⟨bnd_none, bnd_some (by decide) (by decide)⟩ ?_)
theorem dec_ab {σ : H} {K : KH} (hK : K (.bool false) σ) : callW Tryz.prog 108 [.string ⟨⟨[97, 98]⟩⟩] K σ := by
 refine c108 _ ?_
 unfold g108
 repeat (first | exact hK | (rw [<- sEq_eq]; exact hK) | refine br_t (by rw [<- sEq_eq]; decide) ?_ | refine br_f (by rw [<- sEq_eq]; decide) ?_ | refine br_t (by decide) ?_ | refine br_f (by decide) ?_ | refine j_d ?_ | refine idx_l (by decide) (by rfl) ?_ | refine call_i (x_uns _ (app_S ?_)) | refine call_i (x_digs _ (app_of rfl ?_)) | refine call_i (x_CutPre' _ _ (app_of rfl ?_)) | refine if_i ⟨bnd_none, bnd_some (by decide) (by decide)⟩ ?_)
theorem dec_10 {σ : H} {K : KH} (hK : K (.bool true) σ) : callW Tryz.prog 108 [.string ⟨⟨[49, 48]⟩⟩] K σ := by
 refine c108 _ ?_
 unfold g108
 repeat (first | exact hK | (rw [<- sEq_eq]; exact hK) | refine br_t (by rw [<- sEq_eq]; decide) ?_ | refine br_f (by rw [<- sEq_eq]; decide) ?_ | refine br_t (by decide) ?_ | refine br_f (by decide) ?_ | refine j_d ?_ | refine idx_l (by decide) (by rfl) ?_ | refine call_i (x_uns _ (app_S ?_)) | refine call_i (x_digs _ (app_of rfl ?_)) | refine call_i (x_CutPre' _ _ (app_of rfl ?_)) | refine if_i ⟨bnd_none, bnd_some (by decide) (by decide)⟩ ?_)
theorem dec_9 {σ : H} {K : KH} (hK : K (.bool true) σ) : callW Tryz.prog 108 [.string ⟨⟨[57]⟩⟩] K σ := by
 refine c108 _ ?_
 unfold g108
 repeat (first | exact hK | (rw [<- sEq_eq]; exact hK) | refine br_t (by rw [<- sEq_eq]; decide) ?_ | refine br_f (by rw [<- sEq_eq]; decide) ?_ | refine br_t (by decide) ?_ | refine br_f (by decide) ?_ | refine j_d ?_ | refine idx_l (by decide) (by rfl) ?_ | refine call_i (x_uns _ (app_S ?_)) | refine call_i (x_digs _ (app_of rfl ?_)) | refine call_i (x_CutPre' _ _ (app_of rfl ?_)) | refine if_i ⟨bnd_none, bnd_some (by decide) (by decide)⟩ ?_)
theorem dec_m3 {σ : H} {K : KH} (hK : K (.bool true) σ) : callW Tryz.prog 108 [.string ⟨⟨[45, 51]⟩⟩] K σ := by
 refine c108 _ ?_
 unfold g108
 repeat (first | exact hK | (rw [<- sEq_eq]; exact hK) | refine br_t (by rw [<- sEq_eq]; decide) ?_ | refine br_f (by rw [<- sEq_eq]; decide) ?_ | refine br_t (by decide) ?_ | refine br_f (by decide) ?_ | refine j_d ?_ | refine idx_l (by decide) (by rfl) ?_ | refine call_i (x_uns _ (app_S ?_)) | refine call_i (x_digs _ (app_of rfl ?_)) | refine call_i (x_CutPre' _ _ (app_of rfl ?_)) | refine if_i ⟨bnd_none, bnd_some (by decide) (by decide)⟩ ?_)
theorem dec_7 {σ : H} {K : KH} (hK : K (.bool true) σ) : callW Tryz.prog 108 [.string ⟨⟨[55]⟩⟩] K σ := by
 refine c108 _ ?_
 unfold g108
 repeat (first | exact hK | (rw [<- sEq_eq]; exact hK) | refine br_t (by rw [<- sEq_eq]; decide) ?_ | refine br_f (by rw [<- sEq_eq]; decide) ?_ | refine br_t (by decide) ?_ | refine br_f (by decide) ?_ | refine j_d ?_ | refine idx_l (by decide) (by rfl) ?_ | refine call_i (x_uns _ (app_S ?_)) | refine call_i (x_digs _ (app_of rfl ?_)) | refine call_i (x_CutPre' _ _ (app_of rfl ?_)) | refine if_i ⟨bnd_none, bnd_some (by decide) (by decide)⟩ ?_)
theorem dec_1e3 {σ : H} {K : KH} (hK : K (.bool true) σ) : callW Tryz.prog 108 [.string ⟨⟨[49, 101, 51]⟩⟩] K σ := by
 refine c108 _ ?_
 unfold g108
 repeat (first | exact hK | (rw [<- sEq_eq]; exact hK) | refine br_t (by rw [<- sEq_eq]; decide) ?_ | refine br_f (by rw [<- sEq_eq]; decide) ?_ | refine br_t (by decide) ?_ | refine br_f (by decide) ?_ | refine j_d ?_ | refine idx_l (by decide) (by rfl) ?_ | refine call_i (x_uns _ (app_S ?_)) | refine call_i (x_digs _ (app_of rfl ?_)) | refine call_i (x_CutPre' _ _ (app_of rfl ?_)) | refine if_i ⟨bnd_none, bnd_some (by decide) (by decide)⟩ ?_)
theorem dec_nan {σ : H} {K : KH} (hK : K (.bool false) σ) : callW Tryz.prog 108 [.string ⟨⟨[110, 97, 110]⟩⟩] K σ := by
 refine c108 _ ?_
 unfold g108
 repeat (first | exact hK | (rw [<- sEq_eq]; exact hK) | refine br_t (by rw [<- sEq_eq]; decide) ?_ | refine br_f (by rw [<- sEq_eq]; decide) ?_ | refine br_t (by decide) ?_ | refine br_f (by decide) ?_ | refine j_d ?_ | refine idx_l (by decide) (by rfl) ?_ | refine call_i (x_uns _ (app_S ?_)) | refine call_i (x_digs _ (app_of rfl ?_)) | refine call_i (x_CutPre' _ _ (app_of rfl ?_)) | refine if_i ⟨bnd_none, bnd_some (by decide) (by decide)⟩ ?_)
theorem dec_0x {σ : H} {K : KH} (hK : K (.bool false) σ) : callW Tryz.prog 108 [.string ⟨⟨[48, 120]⟩⟩] K σ := by
 refine c108 _ ?_
 unfold g108
 repeat (first | exact hK | (rw [<- sEq_eq]; exact hK) | refine br_t (by rw [<- sEq_eq]; decide) ?_ | refine br_f (by rw [<- sEq_eq]; decide) ?_ | refine br_t (by decide) ?_ | refine br_f (by decide) ?_ | refine j_d ?_ | refine idx_l (by decide) (by rfl) ?_ | refine call_i (x_uns _ (app_S ?_)) | refine call_i (x_digs _ (app_of rfl ?_)) | refine call_i (x_CutPre' _ _ (app_of rfl ?_)) | refine if_i ⟨bnd_none, bnd_some (by decide) (by decide)⟩ ?_)
theorem dec_m0 {σ : H} {K : KH} (hK : K (.bool true) σ) : callW Tryz.prog 108 [.string ⟨⟨[45, 48]⟩⟩] K σ := by
 refine c108 _ ?_
 unfold g108
 repeat (first | exact hK | (rw [<- sEq_eq]; exact hK) | refine br_t (by rw [<- sEq_eq]; decide) ?_ | refine br_f (by rw [<- sEq_eq]; decide) ?_ | refine br_t (by decide) ?_ | refine br_f (by decide) ?_ | refine j_d ?_ | refine idx_l (by decide) (by rfl) ?_ | refine call_i (x_uns _ (app_S ?_)) | refine call_i (x_digs _ (app_of rfl ?_)) | refine call_i (x_CutPre' _ _ (app_of rfl ?_)) | refine if_i ⟨bnd_none, bnd_some (by decide) (by decide)⟩ ?_)
end Go.Proofs.YtpfkfphjigcdeaaGreatDoor

set_option maxRecDepth 100000
namespace Go.Proofs.YtpfkfphjigcdeaaGreatDoor
open Go Go.HL Go.Wk
attribute [local irreducible] ptrW ifW brW andW rdT alW letJ stW muW biW vaW imW callT cvalT app callW invW callVW sizeT oW nilF oneK loopW rfW funW begW roundK exW idxW Gr Put
def kdF (s : ByteArray) : Int := (lk s [((⟨⟨[49, 48]⟩⟩ : ByteArray), (2 : Int)), ((⟨⟨[57]⟩⟩ : ByteArray), (2 : Int)), ((⟨⟨[45, 51]⟩⟩ : ByteArray), (2 : Int)), ((⟨⟨[32, 55]⟩⟩ : ByteArray), (2 : Int)), ((⟨⟨[49, 101, 51]⟩⟩ : ByteArray), (2 : Int)), ((⟨⟨[110, 97, 110]⟩⟩ : ByteArray), (1 : Int)), ((⟨⟨[45, 48]⟩⟩ : ByteArray), (2 : Int))]).getD 0
def btF (s : ByteArray) : Nat := (lk s [((⟨⟨[49, 48]⟩⟩ : ByteArray), (4621819117588971520 : Nat)), ((⟨⟨[57]⟩⟩ : ByteArray), (4621256167635550208 : Nat)), ((⟨⟨[45, 51]⟩⟩ : ByteArray), (13837309855095848960 : Nat)), ((⟨⟨[32, 55]⟩⟩ : ByteArray), (4619567317775286272 : Nat)), ((⟨⟨[49, 101, 51]⟩⟩ : ByteArray), (4652007308841189376 : Nat)), ((⟨⟨[110, 97, 110]⟩⟩ : ByteArray), (0 : Nat)), ((⟨⟨[45, 48]⟩⟩ : ByteArray), (9223372036854775808 : Nat))]).getD 0
def rankG (s : ByteArray) : Int := (lk s [((⟨⟨[49, 48]⟩⟩ : ByteArray), (10 : Int)), ((⟨⟨[57]⟩⟩ : ByteArray), (9 : Int)), ((⟨⟨[45, 51]⟩⟩ : ByteArray), (-3 : Int)), ((⟨⟨[32, 55]⟩⟩ : ByteArray), (7 : Int)), ((⟨⟨[49, 101, 51]⟩⟩ : ByteArray), (1000 : Int)), ((⟨⟨[110, 97, 110]⟩⟩ : ByteArray), (-1999 : Int)), ((⟨⟨[45, 48]⟩⟩ : ByteArray), (0 : Int))]).getD (-2000)
theorem x_isNaN {b : Nat} {r : Bool} (hr : ∀ w, (do eqGuard .neq 141 (.tmp 3) (.tmp 4) (.float .f64 b) (.float .f64 b); binOp .neq 141 (.float .f64 b) (.float .f64 b)).run Tryz.prog w = .ok (.bool r) w) {σ : H} {K : KH} (hK : K (.bool r) σ) : callW Tryz.prog 111 [.float .f64 b] K σ := by
 refine c111 _ ?_
 unfold g111
 exact va_run hr (app_B hK)
theorem fl_e {σ : H} (hf : FloT σ) {K : KH} (hK : K (.tuple ⟨[.int .i64 0, .float .f64 0]⟩) σ) : callW Tryz.prog 85 [.string ⟨⟨[]⟩⟩] K σ := by
 refine c85 _ ?_
 unfold g85
 refine call_i (trimS_laid _ [32, 9] (by decide) (by decide) (by decide) (app_S (j_d (call_i (dec_e (app_B ?_))))))
 refine br_t rfl (br_t (by rw [<- sEq_eq]; decide) (call_i (x_uns _ (app_S (br_t (by rw [<- sEq_eq]; decide) hK)))))
theorem fl_a {σ : H} (hf : FloT σ) {K : KH} (hK : K (.tuple ⟨[.int .i64 0, .float .f64 0]⟩) σ) : callW Tryz.prog 85 [.string ⟨⟨[97]⟩⟩] K σ := by
 refine c85 _ ?_
 unfold g85
 refine call_i (trimS_laid _ [32, 9] (by decide) (by decide) (by decide) (app_S (j_d (call_i (dec_a (app_B ?_))))))
 refine br_t rfl (br_t (by rw [<- sEq_eq]; decide) (call_i (x_uns _ (app_S (br_t (by rw [<- sEq_eq]; decide) hK)))))
theorem fl_b {σ : H} (hf : FloT σ) {K : KH} (hK : K (.tuple ⟨[.int .i64 0, .float .f64 0]⟩) σ) : callW Tryz.prog 85 [.string ⟨⟨[98]⟩⟩] K σ := by
 refine c85 _ ?_
 unfold g85
 refine call_i (trimS_laid _ [32, 9] (by decide) (by decide) (by decide) (app_S (j_d (call_i (dec_b (app_B ?_))))))
 refine br_t rfl (br_t (by rw [<- sEq_eq]; decide) (call_i (x_uns _ (app_S (br_t (by rw [<- sEq_eq]; decide) hK)))))
theorem fl_ab {σ : H} (hf : FloT σ) {K : KH} (hK : K (.tuple ⟨[.int .i64 0, .float .f64 0]⟩) σ) : callW Tryz.prog 85 [.string ⟨⟨[97, 98]⟩⟩] K σ := by
 refine c85 _ ?_
 unfold g85
 refine call_i (trimS_laid _ [32, 9] (by decide) (by decide) (by decide) (app_S (j_d (call_i (dec_ab (app_B ?_))))))
 refine br_t rfl (br_t (by rw [<- sEq_eq]; decide) (call_i (x_uns _ (app_S (br_t (by rw [<- sEq_eq]; decide) hK)))))
theorem fl_10 {σ : H} (hf : FloT σ) {K : KH} (hK : K (.tuple ⟨[.int .i64 2, .float .f64 4621819117588971520]⟩) σ) : callW Tryz.prog 85 [.string ⟨⟨[49, 48]⟩⟩] K σ := by
 refine c85 _ ?_
 unfold g85
 refine call_i (trimS_laid _ [32, 9] (by decide) (by decide) (by decide) (app_S (j_d (call_i (dec_10 (app_B ?_))))))
 refine br_f rfl (br_f rfl (call_i (x_pf _ 4621819117588971520 2 (by decide) (fun h => at_10 hf h) (app_of rfl ?_))))
 exact call_i (x_isNaN (r := false) (fun w => by kernel_rfl) (app_B (br_f rfl hK)))
theorem fl_9 {σ : H} (hf : FloT σ) {K : KH} (hK : K (.tuple ⟨[.int .i64 2, .float .f64 4621256167635550208]⟩) σ) : callW Tryz.prog 85 [.string ⟨⟨[57]⟩⟩] K σ := by
 refine c85 _ ?_
 unfold g85
 refine call_i (trimS_laid _ [32, 9] (by decide) (by decide) (by decide) (app_S (j_d (call_i (dec_9 (app_B ?_))))))
 refine br_f rfl (br_f rfl (call_i (x_pf _ 4621256167635550208 1 (by decide) (fun h => at_9 hf h) (app_of rfl ?_))))
 exact call_i (x_isNaN (r := false) (fun w => by kernel_rfl) (app_B (br_f rfl hK)))
theorem fl_m3 {σ : H} (hf : FloT σ) {K : KH} (hK : K (.tuple ⟨[.int .i64 2, .float .f64 13837309855095848960]⟩) σ) : callW Tryz.prog 85 [.string ⟨⟨[45, 51]⟩⟩] K σ := by
 refine c85 _ ?_
 unfold g85
 refine call_i (trimS_laid _ [32, 9] (by decide) (by decide) (by decide) (app_S (j_d (call_i (dec_m3 (app_B ?_))))))
 refine br_f rfl (br_f rfl (call_i (x_pf _ 13837309855095848960 2 (by decide) (fun h => at_m3 hf h) (app_of rfl ?_))))
 exact call_i (x_isNaN (r := false) (fun w => by kernel_rfl) (app_B (br_f rfl hK)))
theorem fl_7 {σ : H} (hf : FloT σ) {K : KH} (hK : K (.tuple ⟨[.int .i64 2, .float .f64 4619567317775286272]⟩) σ) : callW Tryz.prog 85 [.string ⟨⟨[32, 55]⟩⟩] K σ := by
 refine c85 _ ?_
 unfold g85
 refine call_i (trimS_laid _ [32, 9] (by decide) (by decide) (by decide) (app_S (j_d (call_i (dec_7 (app_B ?_))))))
 refine br_f rfl (br_f rfl (call_i (x_pf _ 4619567317775286272 1 (by decide) (fun h => at_7 hf h) (app_of rfl ?_))))
 exact call_i (x_isNaN (r := false) (fun w => by kernel_rfl) (app_B (br_f rfl hK)))
theorem fl_1e3 {σ : H} (hf : FloT σ) {K : KH} (hK : K (.tuple ⟨[.int .i64 2, .float .f64 4652007308841189376]⟩) σ) : callW Tryz.prog 85 [.string ⟨⟨[49, 101, 51]⟩⟩] K σ := by
 refine c85 _ ?_
 unfold g85
 refine call_i (trimS_laid _ [32, 9] (by decide) (by decide) (by decide) (app_S (j_d (call_i (dec_1e3 (app_B ?_))))))
 refine br_f rfl (br_f rfl (call_i (x_pf _ 4652007308841189376 3 (by decide) (fun h => at_1e3 hf h) (app_of rfl ?_))))
 exact call_i (x_isNaN (r := false) (fun w => by kernel_rfl) (app_B (br_f rfl hK)))
theorem fl_nan {σ : H} (hf : FloT σ) {K : KH} (hK : K (.tuple ⟨[.int .i64 1, .float .f64 0]⟩) σ) : callW Tryz.prog 85 [.string ⟨⟨[110, 97, 110]⟩⟩] K σ := by
 refine c85 _ ?_
 unfold g85
 refine call_i (trimS_laid _ [32, 9] (by decide) (by decide) (by decide) (app_S (j_d (call_i (dec_nan (app_B ?_))))))
 refine br_t rfl (br_f (by rw [<- sEq_eq]; decide) (br_f rfl (call_i (x_pf _ 9221120237041090561 3 (by decide) (fun h => at_nan h) (app_of rfl ?_)))))
 exact call_i (x_isNaN (r := true) (fun w => by kernel_rfl) (app_B (br_t rfl hK)))
theorem fl_0x {σ : H} (hf : FloT σ) {K : KH} (hK : K (.tuple ⟨[.int .i64 0, .float .f64 0]⟩) σ) : callW Tryz.prog 85 [.string ⟨⟨[48, 120]⟩⟩] K σ := by
 refine c85 _ ?_
 unfold g85
 refine call_i (trimS_laid _ [32, 9] (by decide) (by decide) (by decide) (app_S (j_d (call_i (dec_0x (app_B ?_))))))
 refine br_t rfl (br_t (by rw [<- sEq_eq]; decide) (call_i (x_uns _ (app_S (br_t (by rw [<- sEq_eq]; decide) hK)))))
theorem fl_m0 {σ : H} (hf : FloT σ) {K : KH} (hK : K (.tuple ⟨[.int .i64 2, .float .f64 9223372036854775808]⟩) σ) : callW Tryz.prog 85 [.string ⟨⟨[45, 48]⟩⟩] K σ := by
 refine c85 _ ?_
 unfold g85
 refine call_i (trimS_laid _ [32, 9] (by decide) (by decide) (by decide) (app_S (j_d (call_i (dec_m0 (app_B ?_))))))
 refine br_f rfl (br_f rfl (call_i (x_pf _ 9223372036854775808 2 (by decide) (fun h => at_m0 hf h) (app_of rfl ?_))))
 exact call_i (x_isNaN (r := false) (fun w => by kernel_rfl) (app_B (br_f rfl hK)))
theorem s_float (s : ByteArray) (hs : s ∈ words18) {σ : H} (hf : FloT σ) {K : KH} (hK : K (.tuple ⟨[.int .i64 (kdF s), .float .f64 (btF s)]⟩) σ) : callW Tryz.prog 85 [.string s] K σ := by
 simp only [words18, List.mem_cons, List.mem_nil_iff, or_false] at hs
 rcases hs with rfl | rfl | rfl | rfl | rfl | rfl | rfl | rfl | rfl | rfl | rfl | rfl
 ·exact fl_e hf hK
 ·exact fl_a hf hK
 ·exact fl_b hf hK
 ·exact fl_ab hf hK
 ·exact fl_10 hf hK
 ·exact fl_9 hf hK
 ·exact fl_m3 hf hK
 ·exact fl_7 hf hK
 ·exact fl_1e3 hf hK
 ·exact fl_nan hf hK
 ·exact fl_0x hf hK
 ·exact fl_m0 hf hK
def ordF (x y : Nat) (r : Ordering) : Bool := FloatKind.f64.format.order x y == some r
theorem run_lss (x y : Nat) (w : World) : (do eqGuard .lss 141 (.tmp 27) (.tmp 28) (.float .f64 x) (.float .f64 y); binOp .lss 141 (.float .f64 x) (.float .f64 y)).run Tryz.prog w = .ok (.bool (ordF x y .lt)) w := by kernel_rfl
theorem run_gtr (x y : Nat) (w : World) : (do eqGuard .gtr 141 (.tmp 31) (.tmp 32) (.float .f64 x) (.float .f64 y); binOp .gtr 141 (.float .f64 x) (.float .f64 y)).run Tryz.prog w = .ok (.bool (ordF x y .gt)) w := by kernel_rfl
def cmpF (a b : ByteArray) : Int := if (kdF a != kdF b) then (if kdF a < kdF b then -1 else if kdF a > kdF b then 1 else 0) else if ordF (btF a) (btF b) .lt then -1 else if ordF (btF a) (btF b) .gt then 1 else 0
theorem cmpF_eq : ∀ a ∈ words18, ∀ b ∈ words18, cmpF a b = cmpK rankG a b := by decide +kernel
theorem by_float (ρ : H) (hf : FloT ρ) : ByOk ρ (.func (.func 58) ⟨[]⟩ ⟨[]⟩) (· ∈ words18) (cmpK rankG) := by
 intro a b σ K hg ha hb hK
 have hK := hK σ (Gr.refl _)
 rw [<- cmpF_eq a ha b hb] at hK
 refine callVW_ofT (by kernel_rfl) (c58 _ _ ?_)
 unfold g58
 refine call_i (s_float a ha (hf.gr hg) (app_of rfl ?_))
 refine call_i (s_float b hb (hf.gr hg) (app_of rfl ?_))
 unfold cmpF at hK
 cases hk : (kdF a != kdF b) with
 | true =>
  rw [hk, if_pos rfl] at hK
  refine br_t hk (call_i (c56 _ _ ?_))
  unfold g56
  refine call_i (c82 _ ?_)
  unfold g82
  refine app_B (call_i (c82 _ ?_))
  unfold g82
  refine app_B (br_f (by simp) (br_f (by simp) ?_))
  by_cases h : kdF a < kdF b
  ·rw [if_pos h] at hK
   exact br_t (by rw [decide_eq_true_eq]; exact h) (app_I hK)
  ·rw [if_neg h] at hK
   refine br_f (by rw [decide_eq_false_iff_not]; exact h) ?_
   by_cases h2 : kdF a > kdF b
   ·rw [if_pos h2] at hK
    exact br_t (by rw [decide_eq_true_eq]; exact h2) (app_I hK)
   ·rw [if_neg h2] at hK
    exact br_f (by rw [decide_eq_false_iff_not]; exact h2) (app_I hK)
 | false =>
  rw [hk, if_neg (by decide)] at hK
  refine br_f hk (va_run (v := .bool (ordF (btF a) (btF b) .lt)) (fun w => run_lss _ _ w) (app_B ?_))
  cases h1 : ordF (btF a) (btF b) .lt with
  | true => rw [h1, if_pos rfl] at hK; exact br_t rfl hK
  | false =>
   rw [h1, if_neg (by decide)] at hK
   refine br_f rfl (va_run (v := .bool (ordF (btF a) (btF b) .gt)) (fun w => run_gtr _ _ w) (app_B ?_))
   cases h2 : ordF (btF a) (btF b) .gt with
   | true => rw [h2, if_pos rfl] at hK; exact br_t rfl hK
   | false => rw [h2, if_neg (by decide)] at hK; exact br_f rfl hK
end Go.Proofs.YtpfkfphjigcdeaaGreatDoor

namespace Go.Wk
open Go Go.HL
variable {c : ByteArray -> ByteArray -> Int}
theorem ord_self (h : Ord3 c) (a : ByteArray) : c a a = 0 := by have := h.anti a a; omega
theorem lt_tr (h : Ord3 c) {a b d : ByteArray} (h1 : c a b <= 0) (h2 : c b d < 0) : c a d < 0 := by
 have h3 := h.tr a b d h1 (by omega)
 rcases Int.lt_or_eq_of_le h3 with e | e
 ·exact e
 ·have h4 := h.anti a d
  have h5 := h.tr d a b (by omega) h1
  have h6 := h.anti b d
  omega
theorem dgT_up (h : Ord3 c) : ∀ (r : List ByteArray) (p : ByteArray), (p :: r).Pairwise (fun a b => 0 <= c b a) -> (∀ x ∈ dgT (fun a b => c a b == 0) p r, c p x < 0) /\ (dgT (fun a b => c a b == 0) p r).Pairwise fun a b => c a b < 0 := by
 intro r
 induction r with
 | nil => intro p _; exact ⟨(fun x hx => by cases hx), List.Pairwise.nil⟩
 | cons b r ih =>
  intro p hp
  rw [List.pairwise_cons] at hp
  obtain ⟨i1, i2⟩ := ih b hp.2
  have hb := hp.1 b (List.mem_cons_self ..)
  have ha := h.anti b p
  unfold dgT
  by_cases e : c b p = 0
  ·rw [if_pos (by simp [e])]
   exact ⟨fun x hx => lt_tr h (by omega) (i1 x hx), i2⟩
  ·rw [if_neg (by simp [e])]
   refine ⟨fun x hx => ?_, List.pairwise_cons.2 ⟨i1, i2⟩⟩
   rcases List.mem_cons.1 hx with q | q
   ·rw [q]; omega
   ·exact lt_tr h (by omega) (i1 x q)
theorem dgP_nodup (h : Ord3 c) {l : List ByteArray} (hl : l.Pairwise fun a b => 0 <= c b a) : (dgP (fun a b => c a b == 0) l).Nodup := by
 cases l with
 | nil => exact List.nodup_nil
 | cons a r =>
  obtain ⟨i1, i2⟩ := dgT_up h r a hl
  have : (a :: dgT (fun a b => c a b == 0) a r).Pairwise fun a b => c a b < 0 := List.pairwise_cons.2 ⟨i1, i2⟩
  refine this.imp fun {x y} hxy e => ?_
  subst e
  rw [ord_self h] at hxy
  omega
theorem sortC_once (c : ByteArray -> ByteArray -> Int) : sortC c true false = c := by funext a b; unfold sortC; simp
theorem sortC_turn (h : Ord3 c) (a b : ByteArray) : sortC c false true b a = sortC c false false a b := by
 have := (ord_sort c h false false).anti b a
 have e : sortC c false true b a = - sortC c false false b a := by unfold sortC; simp
 omega
theorem sorted_turn (h : Ord3 c) {S : List ByteArray} (hs : S.Pairwise fun a b => 0 <= sortC c false false b a) : S.reverse.Pairwise fun a b => 0 <= sortC c false true b a := by
 rw [List.pairwise_reverse]
 refine hs.imp fun {a b} hab => ?_
 rw [sortC_turn h]; exact hab
theorem uniq_ff (f : Nat) (a : ByteArray) (r : List ByteArray) : uniqP false false (f + 1) (a :: r) = a :: uniqP false false f (r.drop (aliN a r)) := by
 show (if Nat.ble 2 (aliN a r + 1) || !false then [if false then (fmtP 10 ((aliN a r + 1 : Nat) : Int) ++ ⟨⟨[32]⟩⟩) ++ a else a] else []) ++ _ = _
 simp
theorem dg_uniq : ∀ (r : List ByteArray) (a : ByteArray) (f : Nat), r.length < f -> dgT (fun a b => cmpS a b == 0) a r = uniqP false false f (r.drop (aliN a r)) := by
 intro r
 induction r with
 | nil =>
  intro a f hf
  cases f with
  | zero => omega
  | succ f => rfl
 | cons b r ih =>
  intro a f hf
  rw [List.length_cons] at hf
  unfold dgT aliN
  by_cases e : cmpS b a = 0
  ·have := cmpS_zero e; subst this
   rw [if_pos (by simp [e]), if_pos (by rw [sEq_eq, strEq_iff.2 rfl]), List.drop_succ_cons]
   exact ih b f (by omega)
  ·have hne : sEq b a = false := by
    cases hh : sEq b a with
    | false => rfl
    | true => rw [sEq_eq, strEq_iff] at hh; subst hh; exact absurd (cmpS_self b) e
   rw [if_neg (by simp [e]), hne, if_neg (by decide), List.drop_zero]
   cases f with
   | zero => omega
   | succ f =>
    rw [uniq_ff, ih b f (by omega)]
theorem dgP_onces (S : List ByteArray) : dgP (fun a b => cmpS a b == 0) S = oncesP S := by
 cases S with
 | nil => rfl
 | cons a r =>
  unfold oncesP
  rw [List.length_cons, uniq_ff, <- dg_uniq r a (r.length + 1) (by omega)]; rfl
end Go.Wk

set_option maxRecDepth 100000
namespace Go.Proofs.YtpfkfphjigcdeaaGreatDoor
open Go Go.HL Go.Wk
attribute [local irreducible] ptrW ifW brW andW rdT alW letJ stW muW biW vaW imW callT cvalT app callW invW callVW sizeT oW nilF oneK loopW rfW funW begW roundK exW idxW Gr Put
structure ByCall (by_ : ByteArray) (c : ByteArray -> ByteArray -> Int) : Prop where
 ord : Ord3 c
 sz : by_.size <= 7
 o1 : ∀ (A : AT) (L : List ByteArray), (∀ s ∈ L, s ∈ words18) -> L.length <= 80 -> OutIs A ⟨⟨joinedP L⟩⟩ by_ (fun o => ∃ S, SortR c false false L S /\ o = ⟨⟨joinedP S⟩⟩)
 o2 : ∀ (A : AT) (L : List ByteArray), (∀ s ∈ L, s ∈ words18) -> L.length <= 80 -> OutIs A ⟨⟨joinedP L⟩⟩ (by_ ++ ⟨⟨[124, 45, 114]⟩⟩) (fun o => ∃ S, SortR c false true L S /\ o = ⟨⟨joinedP S⟩⟩)
 o3 : ∀ (A : AT) (L : List ByteArray), (∀ s ∈ L, s ∈ words18) -> L.length <= 80 -> OutIs A ⟨⟨joinedP L⟩⟩ (by_ ++ ⟨⟨[124, 45, 117]⟩⟩) (fun o => ∃ S, SortR c true false L S /\ o = ⟨⟨joinedP S⟩⟩)
theorem wl {L : List ByteArray} (hL : ∀ s ∈ L, s ∈ words18) (hl : L.length <= 80) : linesP (bl (⟨⟨joinedP L⟩⟩ : ByteArray)) = L /\ (⟨⟨joinedP L⟩⟩ : ByteArray).size <= 100000 /\ (joinedP (linesP (bl (⟨⟨joinedP L⟩⟩ : ByteArray)))).length <= 1000000000 := by
 have hjl := joined_len (L := L) fun s hs => words_len s (hL s hs)
 have hlin : linesP (bl (⟨⟨joinedP L⟩⟩ : ByteArray)) = L := lines_joined fun s hs => words_no10 s (hL s hs)
 exact ⟨hlin, by show (joinedP L).length <= _; omega, by rw [hlin]; omega⟩
theorem by0 : ByCall ⟨⟨[115, 111, 114, 116]⟩⟩ cmpS where
 ord := ord_S
 sz := by decide
 o1 := fun A L hL hl => by
  obtain ⟨h1, h2, h3⟩ := wl hL hl
  have := out_sortS (A := A) (inn := ⟨⟨joinedP L⟩⟩) (call := ⟨⟨[115, 111, 114, 116]⟩⟩) (args := []) (got := []) (by rfl) (by decide) (by decide) (by decide) (by rfl) (by decide) h2 (by decide) h3
  rw [h1] at this; exact this
 o2 := fun A L hL hl => by
  obtain ⟨h1, h2, h3⟩ := wl hL hl
  have := out_sortS (A := A) (inn := ⟨⟨joinedP L⟩⟩) (call := ⟨⟨[115, 111, 114, 116]⟩⟩ ++ ⟨⟨[124, 45, 114]⟩⟩) (args := [⟨⟨[45, 114]⟩⟩]) (got := [114]) (by rfl) (by decide) (by decide) (by decide) (by rfl) (by decide) h2 (by decide) h3
  rw [h1] at this; exact this
 o3 := fun A L hL hl => by
  obtain ⟨h1, h2, h3⟩ := wl hL hl
  have := out_sortS (A := A) (inn := ⟨⟨joinedP L⟩⟩) (call := ⟨⟨[115, 111, 114, 116]⟩⟩ ++ ⟨⟨[124, 45, 117]⟩⟩) (args := [⟨⟨[45, 117]⟩⟩]) (got := [117]) (by rfl) (by decide) (by decide) (by decide) (by rfl) (by decide) h2 (by decide) h3
  rw [h1] at this; exact this
theorem by1 : ByCall ⟨⟨[115, 111, 114, 116, 124, 45, 110]⟩⟩ (cmpK rankN) where
 ord := ord_K _
 sz := by decide
 o1 := fun A L hL hl => by
  obtain ⟨h1, h2, h3⟩ := wl hL hl
  have := out_sort (A := A) (inn := ⟨⟨joinedP L⟩⟩) (call := ⟨⟨[115, 111, 114, 116, 124, 45, 110]⟩⟩) (args := [⟨⟨[45, 110]⟩⟩]) (got := [110]) (by rfl) (by decide) (by decide) (by decide) (by rfl) (by decide) h2 (fv := .func (.func 55) ⟨[]⟩ ⟨[]⟩) rfl rfl (ord_K _) (fun ρ _ => by_whole ρ) (by rw [h1]; exact hL) (.inl ⟨by decide, rfl⟩) h3
  rw [h1] at this; exact this
 o2 := fun A L hL hl => by
  obtain ⟨h1, h2, h3⟩ := wl hL hl
  have := out_sort (A := A) (inn := ⟨⟨joinedP L⟩⟩) (call := ⟨⟨[115, 111, 114, 116, 124, 45, 110]⟩⟩ ++ ⟨⟨[124, 45, 114]⟩⟩) (args := [⟨⟨[45, 110]⟩⟩, ⟨⟨[45, 114]⟩⟩]) (got := [110, 114]) (by rfl) (by decide) (by decide) (by decide) (by rfl) (by decide) h2 (fv := .func (.func 55) ⟨[]⟩ ⟨[]⟩) rfl rfl (ord_K _) (fun ρ _ => by_whole ρ) (by rw [h1]; exact hL) (.inl ⟨by decide, rfl⟩) h3
  rw [h1] at this; exact this
 o3 := fun A L hL hl => by
  obtain ⟨h1, h2, h3⟩ := wl hL hl
  have := out_sort (A := A) (inn := ⟨⟨joinedP L⟩⟩) (call := ⟨⟨[115, 111, 114, 116, 124, 45, 110]⟩⟩ ++ ⟨⟨[124, 45, 117]⟩⟩) (args := [⟨⟨[45, 110]⟩⟩, ⟨⟨[45, 117]⟩⟩]) (got := [110, 117]) (by rfl) (by decide) (by decide) (by decide) (by rfl) (by decide) h2 (fv := .func (.func 55) ⟨[]⟩ ⟨[]⟩) rfl rfl (ord_K _) (fun ρ _ => by_whole ρ) (by rw [h1]; exact hL) (.inl ⟨by decide, rfl⟩) h3
  rw [h1] at this; exact this
theorem by2 : ByCall ⟨⟨[115, 111, 114, 116, 124, 45, 103]⟩⟩ (cmpK rankG) where
 ord := ord_K _
 sz := by decide
 o1 := fun A L hL hl => by
  obtain ⟨h1, h2, h3⟩ := wl hL hl
  have := out_sort (A := A) (inn := ⟨⟨joinedP L⟩⟩) (call := ⟨⟨[115, 111, 114, 116, 124, 45, 103]⟩⟩) (args := [⟨⟨[45, 103]⟩⟩]) (got := [103]) (by rfl) (by decide) (by decide) (by decide) (by rfl) (by decide) h2 (fv := .func (.func 58) ⟨[]⟩ ⟨[]⟩) rfl rfl (ord_K _) (fun ρ h => by_float ρ h.flo) (by rw [h1]; exact hL) (.inr (.inl ⟨by decide, rfl⟩)) h3
  rw [h1] at this; exact this
 o2 := fun A L hL hl => by
  obtain ⟨h1, h2, h3⟩ := wl hL hl
  have := out_sort (A := A) (inn := ⟨⟨joinedP L⟩⟩) (call := ⟨⟨[115, 111, 114, 116, 124, 45, 103]⟩⟩ ++ ⟨⟨[124, 45, 114]⟩⟩) (args := [⟨⟨[45, 103]⟩⟩, ⟨⟨[45, 114]⟩⟩]) (got := [103, 114]) (by rfl) (by decide) (by decide) (by decide) (by rfl) (by decide) h2 (fv := .func (.func 58) ⟨[]⟩ ⟨[]⟩) rfl rfl (ord_K _) (fun ρ h => by_float ρ h.flo) (by rw [h1]; exact hL) (.inr (.inl ⟨by decide, rfl⟩)) h3
  rw [h1] at this; exact this
 o3 := fun A L hL hl => by
  obtain ⟨h1, h2, h3⟩ := wl hL hl
  have := out_sort (A := A) (inn := ⟨⟨joinedP L⟩⟩) (call := ⟨⟨[115, 111, 114, 116, 124, 45, 103]⟩⟩ ++ ⟨⟨[124, 45, 117]⟩⟩) (args := [⟨⟨[45, 103]⟩⟩, ⟨⟨[45, 117]⟩⟩]) (got := [103, 117]) (by rfl) (by decide) (by decide) (by decide) (by rfl) (by decide) h2 (fv := .func (.func 58) ⟨[]⟩ ⟨[]⟩) rfl rfl (ord_K _) (fun ρ h => by_float ρ h.flo) (by rw [h1]; exact hL) (.inr (.inl ⟨by decide, rfl⟩)) h3
  rw [h1] at this; exact this
theorem dgT_mem {e : ByteArray -> ByteArray -> Bool} : ∀ (r : List ByteArray) (p x : ByteArray), x ∈ dgT e p r -> x ∈ r := by
 intro r
 induction r with
 | nil => intro p x h; exact h
 | cons b r ih =>
  intro p x h
  unfold dgT at h
  split at h
  ·exact List.mem_cons_of_mem _ (ih b x h)
  ·rcases List.mem_cons.1 h with q | q
   ·rw [q]; exact List.mem_cons_self ..
   ·exact List.mem_cons_of_mem _ (ih b x q)
theorem dgP_mem {e : ByteArray -> ByteArray -> Bool} {l : List ByteArray} {x : ByteArray} (h : x ∈ dgP e l) : x ∈ l := by
 cases l with
 | nil => exact h
 | cons a r =>
  rcases List.mem_cons.1 h with q | q
  ·rw [q]; exact List.mem_cons_self ..
  ·exact List.mem_cons_of_mem _ (dgT_mem r a x q)
theorem sortS_eq : sortC cmpS true false = sortC cmpS false false := by funext a b; unfold sortC; simp
theorem out_uniq0 {A : AT} {S : List ByteArray} (hS : ∀ s ∈ S, s ∈ words18) (hl : S.length <= 80) : OutIs A ⟨⟨joinedP S⟩⟩ ⟨⟨[117, 110, 105, 113]⟩⟩ (· = ⟨⟨joinedP (oncesP S)⟩⟩) := by
 obtain ⟨h1, h2, h3⟩ := wl hS hl
 have hon : (oncesP S).length <= S.length := by
  rw [<- dgP_onces]
  cases S with
  | nil => exact Nat.le_refl _
  | cons a r =>
   have : ∀ (r : List ByteArray) (p : ByteArray), (dgT (fun a b => cmpS a b == 0) p r).length <= r.length := by
    intro r
    induction r with
    | nil => intro p; exact Nat.le_refl _
    | cons b r ih =>
     intro p
     unfold dgT
     split
     ·have := ih b; rw [List.length_cons]; omega
     ·have := ih b; rw [List.length_cons, List.length_cons]; omega
   have := this r a
   show (a :: dgT _ a r).length <= _
   rw [List.length_cons, List.length_cons]; omega
 have hj : (joinedP (oncesP S)).length <= 4 * (oncesP S).length := joined_len fun s h => words_len s (hS s (by rw [<- dgP_onces] at h; exact dgP_mem h))
 refine (out_uniq (A := A) (inn := ⟨⟨joinedP S⟩⟩) (args := []) (got := []) (by rfl) (by decide) (by decide) (by decide) (by rfl) h2 ?_ ?_).imp fun o h => ?_
 ·rw [h1]; show (joinedP (oncesP S)).length <= _; omega
 ·rw [h1]; intro a ha; exact Nat.le_trans (words_len a (hS a ha)) (by decide)
 ·rw [h, h1]; rfl
theorem s_TextSorts {l : List UInt8} {x : Sl} {how : UInt8} {σ : H} (hI : ItoaT σ) (hx : RowsAt σ 1 (brows l) x) {K : KH} (hK : ∀ σ', Gr σ σ' -> K (.bool true) σ') : callW Tryz.prog 3 [.slice x.base x.len x.cap, .int .u8 ((how.toNat : Nat) : Int)] K σ := by
 refine c3 x _ ?_
 unfold g3
 refine call_i (s_works18 hI fun σ1 g1 => app_B (br_f rfl ?_))
 refine call_i (s_empty (hI.gr g1) fun bf σ2 g2 hF2 => app_P (br_f rfl ?_))
 refine call_i (s_joined18 ((hx.gr g1).gr g2) fun y σ3 hy => app_of rfl (if_i (by decide) ?_))
 have hL : ∀ s ∈ all18 l, s ∈ words18 := fun s hs => all_mem hs
 have hl := all_len l
 generalize all18 l = L at hy hL hl
 have g3 := hy.1
 clear hy
 have hF3 := hF2.gr g3
 have G3 : Gr σ σ3 := (g1.trans g2).trans g3
 have hm3 : Int.tmod ((how.toNat : Nat) : Int) 3 = ((how.toNat % 3 : Nat) : Int) := by rw [Int.tmod_eq_emod_of_nonneg (by omega)]; omega
 rw [hm3]
 have h3 : how.toNat % 3 < 3 := Nat.mod_lt _ (by decide)
 obtain ⟨by_, c, hb, hrd, hwhat⟩ : ∃ by_ c, ByCall by_ c /\ (∀ τ, rdX 3 [.string (⟨⟨[115, 111, 114, 116]⟩⟩ : ByteArray), .string (⟨⟨[115, 111, 114, 116, 124, 45, 110]⟩⟩ : ByteArray), .string (⟨⟨[115, 111, 114, 116, 124, 45, 103]⟩⟩ : ByteArray)] ((how.toNat % 3 : Nat) : Int) τ = some (.string by_)) /\ (0 < how.toNat % 3 \/ c = cmpS) := by
  generalize how.toNat % 3 = q at h3
  match q, h3 with
  | 0, _ => exact ⟨_, _, by0, fun _ => rfl, .inr rfl⟩
  | 1, _ => exact ⟨_, _, by1, fun _ => rfl, .inl (by decide)⟩
  | 2, _ => exact ⟨_, _, by2, fun _ => rfl, .inl (by decide)⟩
 refine rd_S (hrd _) ?_
 refine call_i (hb.o1 _ L hL hl σ3 bf _ hF3 fun σ4 o4 ho4 g4 => app_S ?_)
 obtain ⟨S', ⟨S, hp, hs, e⟩, rfl⟩ := ho4
 obtain rfl : S' = S := e
 have hSl : S'.length <= 80 := by rw [hp.length_eq]; exact hl
 have hSw : ∀ s ∈ S', s ∈ words18 := fun s h => hL s (hp.mem_iff.1 h)
 have hF4 := hF3.gr g4
 have G4 := G3.trans g4
 have hjL := joined_len (L := L) fun s hs => words_len s (hL s hs)
 have hjS := joined_len (L := S') fun s hs => words_len s (hSw s hs)
 have hbz := hb.sz
 refine j_i (fun j => ∀ τ, Gr σ4 τ -> j ((how.toNat : Nat) : Int) (some ⟨bf, 0, none⟩) ⟨⟨joinedP L⟩⟩ by_ ⟨⟨joinedP S'⟩⟩ false τ) (fun τ gτ => ?_) fun j hj => ?_
 case refine_2 =>
  refine call_i (s_counts (fun s hs => words_no10 s (hSw s hs)) (by omega) fun b1 σ5 g5 n5 m5 => app_M ?_)
  refine call_i (s_counts (fun s hs => words_no10 s (hL s hs)) (by omega) fun b2 σ6 g6 n6 m6 => app_M ?_)
  refine call_i (s_same hp (by omega) (m5.gr g6) m6 fun σ7 g7 => app_B (br_f rfl ?_))
  have G7 := (g5.trans g6).trans g7
  refine call_i (hb.o1 _ S' hSw hSl σ7 bf _ (hF4.gr G7) fun σ8 o8 ho8 g8 => app_S ?_)
  obtain ⟨T', ⟨T, hp2, hs2, e⟩, rfl⟩ := ho8
  obtain rfl : T' = T := e
  have : T' = S' := sort_uniq (ord_sort _ hb.ord false false) (fun a b h => sortC_zero h) (hp2.trans hp) hp hs2 hs
  subst this
  rw [strEq_iff.2 rfl]
  exact hj σ8 (G7.trans g8)
 have hF5 := hF4.gr gτ
 have G5 := G4.trans gτ
 refine br_f rfl (if_i (by show by_.size + 3 <= _; omega) ?_)
 refine call_i (hb.o2 _ L hL hl τ bf _ hF5 fun σ6 o6 ho6 g6 => app_S ?_)
 obtain ⟨R', ⟨R1, hp2, hs2, e⟩, rfl⟩ := ho6
 obtain rfl : R' = R1 := e
 have hR' : R' = S'.reverse := sort_uniq (ord_sort _ hb.ord false true) (fun a b h => sortC_zero h) hp2 ((List.reverse_perm _).trans hp) hs2 (sorted_turn hb.ord hs)
 subst hR'
 have hRw : ∀ s ∈ S'.reverse, s ∈ words18 := fun s h => hSw s (List.mem_reverse.1 h)
 have hjR := joined_len (L := S'.reverse) fun s hs => words_len s (hRw s hs)
 rw [List.length_reverse] at hjR
 refine call_i (s_SplitC ⟨⟨joinedP S'.reverse⟩⟩ 10 (by show (joinedP S'.reverse).length <= _; omega) fun ya σ7 hya => app_L ?_)
 rw [parts_joined fun s hs => words_no10 s (hRw s hs)] at hya
 refine call_i (s_SplitC ⟨⟨joinedP S'⟩⟩ 10 (by show (joinedP S').length <= _; omega) fun yb σ8 hyb => app_L ?_)
 rw [parts_joined fun s hs => words_no10 s (hSw s hs)] at hyb
 have hyal : ya.len = S'.length + 1 := by rw [hya.len, strRows_len, List.length_append, List.length_reverse]; rfl
 have hybl : yb.len = S'.length + 1 := by rw [hyb.len, strRows_len, List.length_append]; rfl
 have hF8 := ((hF5.gr g6).gr hya.1).gr hyb.1
 have G8 := ((G5.trans g6).trans hya.1).trans hyb.1
 refine br_f (by rw [hyal, hybl]; simp) ?_
 have hn : IntKind.i64.wrap (((yb.len : Nat) : Int) - 1) = ((S'.length : Nat) : Int) := wI (by omega) (by omega)
 refine loop_i fun R hR => ?_
 have hya8 := hya.at.gr hyb.1
 have key : ∀ m i, S'.length - i = m -> i <= S'.length -> R ((how.toNat : Nat) : Int) (some ⟨bf, 0, none⟩) ⟨⟨joinedP L⟩⟩ by_ ⟨⟨joinedP S'⟩⟩ ya yb ((S'.length : Nat) : Int) ((i : Nat) : Int) σ8 := by
  intro m
  induction m with
  | succ m ih =>
   intro i hm hi
   obtain ⟨s, hsi⟩ : ∃ s, S'[S'.length - 1 - i]? = some s := ⟨_, List.getElem?_eq_getElem (by omega)⟩
   have hri : S'.reverse[i]? = some s := by rw [List.getElem?_reverse (by omega)]; exact hsi
   obtain ⟨ga, oa, a1, a2, a3⟩ := sRow hya8 (i := i) (s := s) (by rw [List.getElem?_append_left (by rw [List.length_reverse]; omega)]; exact hri)
   obtain ⟨gB, oB, b1, b2, b3⟩ := sRow hyb.at (i := S'.length - 1 - i) (s := s) (by rw [List.getElem?_append_left (by omega)]; exact hsi)
   have hw : IntKind.i64.wrap (IntKind.i64.wrap (((S'.length : Nat) : Int) - 1) - ((i : Nat) : Int)) = ((S'.length - 1 - i : Nat) : Int) := by
    rw [wI (x := ((S'.length : Nat) : Int) - 1) (k := S'.length - 1) (by omega) (by omega)]
    exact wI (by omega) (by omega)
   refine hR _ _ _ _ _ _ _ _ _ _ (br_t (by rw [decide_eq_true_eq]; omega) ?_)
   rw [a1]
   refine ptr_i (if_i ⟨by omega, by omega⟩ (rd_S (by rw [Int.toNat_natCast]; exact a3) ?_))
   rw [b1]
   refine ptr_i (if_i (by rw [hw]; exact ⟨by omega, by omega⟩) (rd_S (by rw [hw, Int.toNat_natCast]; exact b3) (br_f (by rw [strEq_iff.2 rfl]; rfl) ?_)))
   rw [wS (by omega)]
   exact ih (i + 1) (by omega) (by omega)
  | zero =>
   intro i hm hi
   refine hR _ _ _ _ _ _ _ _ _ _ (br_f (by rw [decide_eq_false_iff_not]; omega) (if_i (by show by_.size + 3 <= _; omega) ?_))
   refine call_i (hb.o3 _ L hL hl σ8 bf _ hF8 fun σ9 o9 ho9 g9 => app_S ?_)
   obtain ⟨U, ⟨U1, hp3, hs3, e⟩, rfl⟩ := ho9
   have e' : U = dgP (fun a b => c a b == 0) U1 := e
   clear e
   have hs3' : U1.Pairwise fun a b => 0 <= c b a := by rw [sortC_once] at hs3; exact hs3
   have hUn : U.Nodup := by rw [e']; exact dgP_nodup hb.ord hs3'
   have hUw : ∀ s ∈ U, s ∈ words18 := fun s h => by rw [e'] at h; exact hL s (hp3.mem_iff.1 (dgP_mem h))
   have hUl : U.length <= U1.length := hUn.length_le_of_subset fun s h => by rw [e'] at h; exact dgP_mem h
   rw [hp3.length_eq] at hUl
   have hjU := joined_len (L := U) fun s hs => words_len s (hUw s hs)
   refine call_i (s_counts (fun s hs => words_no10 s (hUw s hs)) (by omega) fun bu σa ga na hma => app_M ?_)
   refine rng_i und_MSI hma fun r σb gb nb hItb => ?_
   refine loop_i fun R2 hR2 => ?_
   have cU := cntL_ok U
   have hFa := (hF8.gr g9).gr ga
   have Ga := (G8.trans g9).trans ga
   have key2 : ∀ (n : Nat) (rem : List (ByteArray × Int)) (cur : Option (Value × Value)) (ω : H), rem.length = n -> Gr σa ω -> ItAt ω bu r (encL kkS (Value.int .i64) rem) cur -> (∀ p ∈ rem, p ∈ cntL U) -> R2 ((how.toNat : Nat) : Int) (some ⟨bf, 0, none⟩) ⟨⟨joinedP L⟩⟩ ⟨⟨joinedP S'⟩⟩ (some ⟨r, 0, none⟩) ω := by
    intro n
    induction n with
    | zero =>
     intro rem cur ω hrl hg hIt hin
     have : rem = [] := List.length_eq_zero_iff.1 hrl
     subst this
     refine hR2 _ _ _ _ _ _ (nxt_i hIt (fun _ => ?_) fun pre k v post o h => by cases pre <;> cases h)
     have hF := hFa.gr hg
     refine call_i (by0.o3 _ L hL hl ω bf _ hF fun ω1 p1 ho1 q1 => app_S ?_)
     obtain ⟨V, ⟨V1, hp4, hs4, e4⟩, rfl⟩ := ho1
     have e4' : V = dgP (fun a b => cmpS a b == 0) V1 := e4
     refine call_i (out_uniq0 hSw hSl ω1 bf _ (hF.gr q1) fun ω2 p2 ho2 q2 => app_S ?_)
     subst ho2
     have hfin := hK ω2 (((Ga.trans hg).trans q1).trans q2)
     cases hse : strEq ⟨⟨joinedP V⟩⟩ ⟨⟨joinedP (oncesP S')⟩⟩ with
     | true => exact br_t rfl hfin
     | false =>
      refine br_f rfl (if_i (by decide) ?_)
      rw [hm3]
      have : decide (((how.toNat % 3 : Nat) : Int) > 0) = true := by
       rcases hwhat with h | h
       ·rw [decide_eq_true_eq]; omega
       ·subst h
        rw [sortS_eq] at hs4
        have : V1 = S' := sort_uniq (ord_sort _ ord_S false false) (fun a b h => sortC_zero h) hp4 hp hs4 hs
        subst this
        rw [e4', dgP_onces, strEq_iff.2 rfl] at hse
        cases hse
      rw [this]; exact hfin
    | succ n ih2 =>
     intro rem cur ω hrl hg hIt hin
     refine hR2 _ _ _ _ _ _ (nxt_i hIt (fun h => ?_) fun pre k v post o hrem hIt' => ?_)
     ·cases rem with
      | nil => cases hrl
      | cons a b => cases h
     obtain ⟨m1, s, cc, m2, rfl, rfl, rfl, hpp⟩ := enc_split hrem
     rw [hpp] at hIt'
     have hmem : (s, cc) ∈ cntL U := hin _ (by simp)
     have hc := cU.val s cc hmem
     have hsU : s ∈ U := (cU.mem s).1 (List.mem_map.2 ⟨_, hmem, rfl⟩)
     have h1 := List.count_pos_iff.2 hsU
     have h2 := List.nodup_iff_count.1 hUn s
     have hc1 : cc = 1 := by rw [hc]; omega
     have hg' : Gr σa (ω.put r o) := hg.putF (by unfold Put; rfl) nb
     refine ent_i hIt' (app_of rfl (br_f (by rw [hc1]; rfl) ?_))
     exact ih2 (m1 ++ m2) _ _ (by simp at hrl ⊢; omega) hg' hIt' fun p h => hin p (by
      rcases List.mem_append.1 h with h | h
      ·exact List.mem_append_left _ h
      ·exact List.mem_append_right _ (List.mem_cons_of_mem _ h))
   exact key2 _ (cntL U) none σb rfl gb hItb fun p h => h
 rw [hn]
 exact key _ 0 rfl (Nat.zero_le _)
end Go.Proofs.YtpfkfphjigcdeaaGreatDoor

namespace Go.Proofs
open Go.Shelf
def Tryz.laysM171_ren : Go.Shelf.Ren := ⟨fun | 171 => 41 | 243 => 74 | 246 => 98 | 283 => 123 | 284 => 124 | 285 => 125 | 286 => 126 | 129 => 148 | 317 => 147 | 318 => 149 | 319 => 150 | 320 => 151 | 337 => 163 | 338 => 164 | n => n, fun | 3 => 3 | 9 => 9 | 2 => 2 | 4 => 4 | 171 => 182 | 0 => 0 | 53 => 183 | 37 => 22 | 5 => 5 | 173 => 186 | 212 => 204 | 51 => 170 | 20 => 20 | 213 => 205 | 46 => 146 | 232 => 230 | 233 => 231 | n => n, fun | 17 => 4 | 18 => 7 | 19 => 8 | n => n⟩
theorem Tryz.laysM171 : Go.Proofs.LaysM.n171 Tryz.prog Tryz.laysM171_ren := {
 mixed := by kernel_rfl
 f129 := Tryz.func148.trans (congrArg some (by kernel_rfl))
 f171 := Tryz.func41.trans (congrArg some (by kernel_rfl))
 f243 := Tryz.func74.trans (congrArg some (by kernel_rfl))
 f246 := Tryz.func98.trans (congrArg some (by kernel_rfl))
 f283 := Tryz.func123.trans (congrArg some (by kernel_rfl))
 f284 := Tryz.func124.trans (congrArg some (by kernel_rfl))
 f285 := Tryz.func125.trans (congrArg some (by kernel_rfl))
 f286 := Tryz.func126.trans (congrArg some (by kernel_rfl))
 f317 := Tryz.func147.trans (congrArg some (by kernel_rfl))
 f318 := Tryz.func149.trans (congrArg some (by kernel_rfl))
 f319 := Tryz.func150.trans (congrArg some (by kernel_rfl))
 f320 := Tryz.func151.trans (congrArg some (by kernel_rfl))
 f337 := Tryz.func163.trans (congrArg some (by kernel_rfl))
 f338 := Tryz.func164.trans (congrArg some (by kernel_rfl))
 t0 := Tryz.underlying0
 a0 := Tryz.isAgg0
 z0 := Tryz.sizeOf0
 v0 := Tryz.zeroValue0
 t2 := Tryz.underlying2
 a2 := Tryz.isAgg2
 z2 := Tryz.sizeOf2
 v2 := Tryz.zeroValue2
 t3 := Tryz.underlying3
 a3 := Tryz.isAgg3
 z3 := Tryz.sizeOf3
 v3 := Tryz.zeroValue3
 t4 := Tryz.underlying4
 a4 := Tryz.isAgg4
 z4 := Tryz.sizeOf4
 v4 := Tryz.zeroValue4
 t5 := Tryz.underlying5
 a5 := Tryz.isAgg5
 z5 := Tryz.sizeOf5
 v5 := Tryz.zeroValue5
 t9 := Tryz.underlying9
 a9 := Tryz.isAgg9
 z9 := Tryz.sizeOf9
 v9 := Tryz.zeroValue9
 t20 := Tryz.underlying20
 a20 := Tryz.isAgg20
 z20 := Tryz.sizeOf20
 v20 := Tryz.zeroValue20
 t37 := Tryz.underlying22
 a37 := Tryz.isAgg22
 z37 := Tryz.sizeOf22
 v37 := Tryz.zeroValue22
 t46 := Tryz.underlying146
 a46 := Tryz.isAgg146
 z46 := Tryz.sizeOf146
 v46 := Tryz.zeroValue146
 t51 := Tryz.underlying170
 a51 := Tryz.isAgg170
 z51 := Tryz.sizeOf170
 v51 := Tryz.zeroValue170
 t53 := Tryz.underlying183
 a53 := Tryz.isAgg183
 z53 := Tryz.sizeOf183
 v53 := Tryz.zeroValue183
 t171 := Tryz.underlying182
 a171 := Tryz.isAgg182
 z171 := Tryz.sizeOf182
 v171 := Tryz.zeroValue182
 t173 := Tryz.underlying186
 a173 := Tryz.isAgg186
 z173 := Tryz.sizeOf186
 v173 := Tryz.zeroValue186
 t212 := Tryz.underlying204
 a212 := Tryz.isAgg204
 z212 := Tryz.sizeOf204
 v212 := Tryz.zeroValue204
 t213 := Tryz.underlying205
 a213 := Tryz.isAgg205
 z213 := Tryz.sizeOf205
 t232 := Tryz.underlying230
 a232 := Tryz.isAgg230
 z232 := Tryz.sizeOf230
 v232 := Tryz.zeroValue230
 t233 := Tryz.underlying231
 a233 := Tryz.isAgg231
 z233 := Tryz.sizeOf231
 v233 := Tryz.zeroValue231
 g17 := by kernel_rfl
 g18 := by kernel_rfl
 g19 := by kernel_rfl
 i0 := by kernel_rfl
 i2 := by kernel_rfl
 i3 := by kernel_rfl
 i4 := by kernel_rfl
 i5 := by kernel_rfl
 i9 := by kernel_rfl
 i20 := by kernel_rfl
 i37 := by kernel_rfl
 i46 := by kernel_rfl
 i51 := by kernel_rfl
 i53 := by kernel_rfl
 i171 := by kernel_rfl
 i173 := by kernel_rfl
 i212 := by kernel_rfl
 i232 := by kernel_rfl
 i233 := by kernel_rfl
 m17 := by kernel_rfl
 m18 := by kernel_rfl
 m19 := by kernel_rfl }
end Go.Proofs

namespace Go.HL
open Go Go.RowKit Go.WideShapes Go.ChangeShapes
section
variable {D : Type} {enc : TypeId × Value -> D} {P : Program} {W : World}
theorem rows_of2 {t e : TypeId} {n fuel : Nat} {v : Value} {x : DataW D × List MemPlace} {hd : Bool} (ht : P.underlying t = some (.slice e)) (hc : P.cellsOf e = n) (hn : 0 < n) (h : DataW.trod enc P W 0 (fun _ => true) hd fuel t [v] = some x) :
 (v = .slice none 0 0 /\ x.1 = .nil) \/ ∃ (y : Sl) (rows : List (List Value)) (elems rest : List (DataW D × List MemPlace)) (m : Nat), v = .slice y.base y.len y.cap /\ RowsAt (whole W) n rows y /\ x.1 = .slice (elems.map (·.1)) (rest.map (·.1)) /\ rows.length = elems.length /\ ∀ (i : Nat) (r : List Value), rows[i]? = some r -> DataW.trod enc P W 0 (fun _ => true) hd m e r = elems[i]? := by
 rcases DataW.trod_slice ht h with ⟨h0, h0x⟩ | ⟨a, len, cap, elems, rest, k, hfu, h0, hx, -, hl, hm, hlen, hall, -, -⟩
 ·exact .inl ⟨by simpa using h0, by rw [h0x]⟩
 ·have hv : v = .slice (some a) len cap := by simpa using h0
  subst hv
  rw [hc] at hall
  have hch : ∀ i, i < len -> ∃ cs, W.cells? 0 (a.add (i * n)) n = some cs /\ DataW.trod enc P W 0 (fun _ => true) hd k e cs = elems[i]? := by
   intro i hi
   have h1 := hall i hi
   rw [List.getElem?_eq_getElem (show i < elems.length by omega)] at h1
   cases hcs : W.cells? 0 (a.add (i * n)) n with
   | none => rw [hcs] at h1; cases h1
   | some cs => rw [hcs] at h1; exact ⟨cs, rfl, by rw [List.getElem?_eq_getElem (show i < elems.length by omega)]; exact h1⟩
  have hrows : ∃ rows : List (List Value), rows.length = len /\ ∀ i r, rows[i]? = some r -> W.cells? 0 (a.add (i * n)) n = some r /\ DataW.trod enc P W 0 (fun _ => true) hd k e r = elems[i]? := by
   clear hall hm hl h0 h hlen hfu hx
   induction len with
   | zero => exact ⟨[], rfl, fun i r hr => by simp at hr⟩
   | succ j ih =>
    obtain ⟨rows, h1, h2⟩ := ih (fun i hi => hch i (by omega))
    obtain ⟨cs, h3, h4⟩ := hch j (by omega)
    refine ⟨rows ++ [cs], by simp [h1], fun i r hr => ?_⟩
    rw [List.getElem?_append] at hr
    split at hr
    ·exact h2 i r hr
    ·rename_i hge
     have : i - rows.length = 0 := by
      rcases Nat.eq_zero_or_pos (i - rows.length) with h | h
      ·exact h
      ·rw [List.getElem?_eq_none (by simp; omega)] at hr; cases hr
     rw [this] at hr
     have hij : i = j := by omega
     subst hij
     simp at hr; subst hr
     exact ⟨h3, h4⟩
  obtain ⟨rows, hlen2, hr⟩ := hrows
  refine .inr ⟨⟨some a, len, cap⟩, rows, elems, rest, k, rfl, ⟨hlen2.symm, ?_⟩, by rw [hx], by omega, fun i r hir => (hr i r hir).2⟩
  ·cases len with
   | zero => exact .inl (List.eq_nil_of_length_eq_zero hlen2)
   | succ j =>
    right
    obtain ⟨r0, hr0⟩ : ∃ r0, rows[0]? = some r0 := ⟨_, List.getElem?_eq_getElem (by omega)⟩
    obtain ⟨hc0, _⟩ := hr 0 r0 hr0
    obtain ⟨_, hl0, hg0⟩ := World.cells?_some hc0
    have h00 := hg0 0 hn
    rw [Nat.zero_mul] at h00
    have ha0 : (a.add 0).add 0 = a := by unfold Addr.add; simp
    rw [ha0] at h00
    obtain ⟨u, hu⟩ : ∃ u, r0[0]? = some u := ⟨_, List.getElem?_eq_getElem (by omega)⟩
    rw [hu] at h00
    unfold World.cell? at h00
    cases hb : W.heap[a.block]? with
    | none => rw [hb] at h00; cases h00
    | some ob =>
     rw [hb] at h00
     cases ob with
     | cells c ty fz =>
      simp only at h00
      have hsp : a.spot = none := by
       cases hs : a.spot with
       | none => rfl
       | some q => rw [hs] at h00; simp at h00
      obtain ⟨l⟩ := c
      have hae : a = ⟨a.block, a.off, none⟩ := by cases a; simp at hsp; simp [hsp]
      refine ⟨a.block, a.off, l, ty, fz, by rw [<- hae], hb, fun i r hir => ?_⟩
      obtain ⟨hci, _⟩ := hr i r hir
      obtain ⟨_, hli, hgi⟩ := World.cells?_some hci
      refine ⟨hli, ?_⟩
      apply List.ext_getElem?
      intro q
      by_cases hq : q < n
      ·have h5 := hgi q hq
       rw [hae, add_none, add_none] at h5
       rw [<- h5, List.getElem?_take_of_lt hq, List.getElem?_drop]
       simp [World.cell?, hb]
      ·rw [List.getElem?_eq_none (by simp; omega), List.getElem?_eq_none (by omega)]
     | _ => cases h00
end
end Go.HL

set_option maxRecDepth 100000
namespace Go.Proofs.YtpfkfphjigcdeaaGreatDoor
open Go Go.HL Go.Wk
theorem below_gr (w : World) (k : Nat) (os : Array Obj) : RowKit.Below w.heap.size w (Sort.grow (w.drewN k) os) := ⟨rfl, rfl, rfl, by show w.heap.size <= (w.heap ++ os).size; simp, fun j hj => by show (w.heap ++ os)[j]? = _; exact Array.getElem?_append_left hj⟩
theorem itoaT_of {σ : H} (hp : TabC σ 4 .u64 Lib.pow10Tab) (hf : FloT σ) : ItoaT σ := by
 refine ⟨?_, hf⟩
 intro τ n K hg hn hK w hw
 have hp := hp.gr hg
 refine callsIn_wide.2 ((Any.strconv_Itoa Tryz.laysM171 n (by omega) (by omega) w (hp.is hw (by kernel_rfl))).mono ?_)
 rintro en w' ⟨rfl, k, os, hb⟩
 refine ⟨_, rfl, τ, ext_below hw (hb ▸ below_gr w k os), ?_⟩
 rw [<- itoa_fmt (by omega) (by omega)] at hK; exact hK
attribute [local irreducible] ptrW ifW brW andW rdT alW letJ stW muW biW vaW imW callT cvalT app callW invW callVW sizeT oW nilF oneK loopW rfW funW begW roundK exW idxW Gr Put
theorem tab_of {P : Program} {W : World} {name : String} {k : IntKind} {zs : List Int} {rest : List (String × DataW Unit)} {ps : List MemPlace} {g : Nat} {t e : TypeId} {n : Nat}
 (hg : P.globalNamed name = some g) (hty : (P.globals[g]?).map (·.type) = some t) (ht : P.underlying t = some (.array n e)) (he : P.underlying e = some (.int k)) (hce : P.cellsOf e = 1) (hct : P.cellsOf t = n)
 (h : DataW.LaidVars P W ((name, Lib.tabData k zs) :: rest) ps) : TabC (whole W) g k zs /\ ∃ q, DataW.LaidVars P W rest q := by
 obtain ⟨g', t', cs, fuel, p, q, hg', ht', hvar, hd, hr, _⟩ := h
 obtain rfl := Option.some.inj (hg.symm.trans hg')
 obtain rfl := Option.some.inj (hty.symm.trans ht')
 refine ⟨TabC.of ?_ hg, q, hr⟩
 unfold Lib.TabIs
 rw [hvar, <- Lib.cells_of_tab ht he hce hct hd]
theorem skip_of {P : Program} {W : World} {x : String × DataW Unit} {rest : List (String × DataW Unit)} {ps : List MemPlace} (h : DataW.LaidVars P W (x :: rest) ps) : ∃ q, DataW.LaidVars P W rest q := by
 obtain ⟨_, _, _, _, _, q, _, _, _, _, hr, _⟩ := h
 exact ⟨q, hr⟩
theorem laid_of {P : Program} {W : World} {name : String} {d : DataW Unit} {rest : List (String × DataW Unit)} {ps : List MemPlace} {g : Nat} {t : TypeId} (hg : P.globalNamed name = some g) (hty : (P.globals[g]?).map (·.type) = some t) (h : DataW.LaidVars P W ((name, d) :: rest) ps) :
 ∃ (cs : List Value) (ty : TypeId) (fz : Nat × Nat) (fuel : Nat) (p q : List MemPlace), whole W g = some (.cells ⟨cs⟩ ty fz) /\ DataW.trod (fun _ => ()) P W 0 (fun _ => true) false fuel t cs = some (d, p) /\ DataW.LaidVars P W rest q := by
 obtain ⟨g', t', cs, fuel, p, q, hg', ht', hvar, hd, hr, _⟩ := h
 obtain rfl := Option.some.inj (hg.symm.trans hg')
 obtain rfl := Option.some.inj (hty.symm.trans ht')
 unfold World.var? at hvar
 rw [hg] at hvar
 simp only [Option.bind_some] at hvar
 cases hb : W.heap[g]? with
 | none => rw [hb] at hvar; cases hvar
 | some o =>
  rw [hb] at hvar
  cases o with
  | cells c ty fz =>
   simp only [Option.some.injEq] at hvar
   subst hvar
   exact ⟨c.toList, ty, fz, fuel, p, q, hb, hd, hr⟩
  | _ => cases hvar
theorem trod_flt {P : Program} {W : World} {hd : Bool} {fuel : Nat} {t : TypeId} {k : FloatKind} {cs : List Value} {x : DataW Unit × List MemPlace} (ht : P.underlying t = some (.float k)) (h : DataW.trod (fun _ => ()) P W 0 (fun _ => true) hd fuel t cs = some x) : ∃ b, cs = [.float k b] /\ x = (.lit (.float k b), []) := by
 cases fuel with
 | zero => simp [DataW.trod] at h
 | succ n =>
  unfold DataW.trod at h
  rw [ht] at h
  split at h <;> simp_all
def f64B : List Nat := [4607182418800017408,4621819117588971520,4636737291354636288,4652007308841189376,4666723172467343360,4681608360884174848,4696837146684686336,4711630319722168320,4726483295884279808,4741671816366391296,4756540486875873280,4771362005757984768,4786511204640096256,4801453603149578240,4816244402031689728,4831355200913801216,4846369599423283200,4861130398305394688,4876203697187506176,4891288408196988160,4906019910204099648,4921056587992461136,4936209963552724370]
theorem flo_pow {W : World} {fuel : Nat} {p : List MemPlace} {cs : List Value} (h : DataW.trod (fun _ => ()) Tryz.prog W 0 (fun _ => true) false fuel 269 cs = some (.slice (f64B.map fun b => .lit (.float .f64 b)) [], p)) : ∃ x : Sl, cs = [.slice x.base x.len x.cap] /\ RowsAt (whole W) 1 f64R x := by
 have hu : Tryz.prog.underlying 269 = some (.slice 141) := by kernel_rfl
 have hue : Tryz.prog.underlying 141 = some (.float .f64) := by kernel_rfl
 obtain ⟨v, rfl⟩ : ∃ v, cs = [v] := by
  rcases DataW.trod_slice hu h with ⟨h0, _⟩ | ⟨a, len, cap, _, _, _, _, h0, _⟩
  ·exact ⟨_, h0⟩
  ·exact ⟨_, h0⟩
 rcases rows_of2 hu (show Tryz.prog.cellsOf 141 = 1 by kernel_rfl) (by decide) h with ⟨_, h0⟩ | ⟨y, rows, elems, rest, m, hv, hr, hx, hlen, hall⟩
 ·cases h0
 refine ⟨y, by rw [hv], ?_⟩
 injection hx with hx1 hx2
 have e : rows = f64R := by
  have hel : elems.length = f64B.length := by have := congrArg List.length hx1; rw [List.length_map, List.length_map] at this; exact this.symm
  have hR : f64R = f64B.map fun b => [Value.float .f64 b] := by rfl
  rw [hR]
  refine List.ext_getElem? fun i => ?_
  rw [List.getElem?_map]
  cases hi : rows[i]? with
  | none =>
   rw [List.getElem?_eq_none_iff] at hi
   rw [List.getElem?_eq_none (by omega)]; rfl
  | some r =>
   have hlt : i < rows.length := (List.getElem?_eq_some_iff.1 hi).1
   have h1 := hall i r hi
   obtain ⟨z, hz⟩ : ∃ z, elems[i]? = some z := ⟨_, List.getElem?_eq_getElem (by omega)⟩
   rw [hz] at h1
   obtain ⟨b, rfl, rfl⟩ := trod_flt hue h1
   have h2 : (elems.map (·.1))[i]? = some (.lit (.float .f64 b)) := by rw [List.getElem?_map, hz]; rfl
   rw [<- hx1, List.getElem?_map] at h2
   cases hb : f64B[i]? with
   | none => rw [hb] at h2; cases h2
   | some b' =>
    rw [hb] at h2
    injection h2 with h2; injection h2 with h2; injection h2 with _ h2
    rw [h2]; rfl
 rw [<- e]; exact hr
theorem flo_inf {W : World} {fuel : Nat} {p : List MemPlace} {cs : List Value} (h : DataW.trod (fun _ => ()) Tryz.prog W 0 (fun _ => true) false fuel 239 cs = some (.agg [.lit (.int .u64 52), .lit (.int .u64 11), .lit (.int .i64 (-1023))], p)) : cs = [.int .u64 52, .int .u64 11, .int .i64 (-1023)] := by
 obtain ⟨xs, n, hfu, hx, hl, hlen, hf⟩ := DataW.trod_struct Tryz.underlying239 h
 have hl : cs.length = 3 := hl.trans (by kernel_rfl)
 obtain ⟨a0, a1, a2, rfl⟩ : ∃ a0 a1 a2, cs = [a0, a1, a2] := by
  match cs, hl with
  | [a0, a1, a2], _ => exact ⟨_, _, _, rfl⟩
 injection hx with hx _
 injection hx with hx
 match xs, hx with
 | [x0, x1, x2], hx =>
  simp only [List.map_cons, List.map_nil, List.cons.injEq, and_true] at hx
  obtain ⟨e0, e1, e2⟩ := hx
  have h0 := hf 0 _ rfl
  have h1 := hf 1 _ rfl
  have h2 := hf 2 _ rfl
  obtain ⟨n0, q0, r0, _⟩ := DataW.trod_int Tryz.underlying146 h0
  obtain ⟨n1, q1, r1, _⟩ := DataW.trod_int Tryz.underlying146 h1
  obtain ⟨n2, q2, r2, _⟩ := DataW.trod_int Tryz.underlying3 h2
  rw [r0] at e0; rw [r1] at e1; rw [r2] at e2
  cases e0; cases e1; cases e2
  have q0 : [a0] = _ := q0
  have q1 : [a1] = _ := q1
  have q2 : [a2] = _ := q2
  cases q0; cases q1; cases q2
  rfl
theorem tabs_of {W : World} {a b c f h : String × DataW Unit} {rest : List (String × DataW Unit)} (hl : laidMet Tryz.prog (a :: b :: c :: ("internal/strconv.float64info", .agg [.lit (.int .u64 52), .lit (.int .u64 11), .lit (.int .i64 (-1023))]) :: ("internal/strconv.optimize", .lit (.bool true)) :: f :: ("internal/strconv.float64pow10", .slice (f64B.map fun b => .lit (.float .f64 b)) []) :: h :: ("internal/strconv.uint64pow10", Lib.tabData .u64 Lib.pow10Tab) :: rest) W) : ItoaT (whole W) := by
 obtain ⟨ps, hl, _⟩ := hl
 obtain ⟨_, hl⟩ := skip_of hl
 obtain ⟨_, hl⟩ := skip_of hl
 obtain ⟨_, hl⟩ := skip_of hl
 obtain ⟨ci, t1, z1, _, _, _, hci, hti, hl⟩ := laid_of (g := 11) (t := 239) (by kernel_rfl) (by kernel_rfl) hl
 obtain ⟨co, t2, z2, _, _, _, hco, hto, hl⟩ := laid_of (g := 10) (t := 4) (by kernel_rfl) (by kernel_rfl) hl
 obtain ⟨_, hl⟩ := skip_of hl
 obtain ⟨cp, t3, z3, _, _, _, hcp, htp, hl⟩ := laid_of (g := 14) (t := 269) (by kernel_rfl) (by kernel_rfl) hl
 obtain ⟨_, hl⟩ := skip_of hl
 obtain ⟨tt, _⟩ := tab_of (t := 204) (e := 183) (n := 20) (by kernel_rfl) (by kernel_rfl) (by kernel_rfl) (by kernel_rfl) (by kernel_rfl) (by kernel_rfl) hl
 refine itoaT_of tt ⟨⟨t2, z2, ?_⟩, ⟨t1, z1, ?_⟩, ?_⟩
 ·obtain ⟨v, rfl, e⟩ := DataW.trod_bool (show Tryz.prog.underlying 4 = some .bool by kernel_rfl) hto
  injection e with e _; injection e with e; injection e with e
  subst e; exact hco
 ·rw [<- flo_inf hti]; exact hci
 ·obtain ⟨x, rfl, hx⟩ := flo_pow htp
  exact ⟨x, t3, z3, hcp, hx⟩
theorem brows_ns : ∀ {ns : List Int}, (∀ n ∈ ns, (0 : Int) <= n /\ n <= 255) -> ∃ l : List UInt8, ns.map (fun n => [Value.int .u8 n]) = brows l
 | [], _ => ⟨[], rfl⟩
 | n :: ns, h => by
  obtain ⟨l, hl⟩ := brows_ns fun m hm => h m (List.mem_cons_of_mem _ hm)
  have := h n (List.mem_cons_self ..)
  refine ⟨UInt8.ofNat n.toNat :: l, ?_⟩
  have e : (((UInt8.ofNat n.toNat).toNat : Nat) : Int) = n := by
   rw [UInt8.toNat_ofNat']
   omega
  rw [List.map_cons, hl]
  show _ = [Value.int .u8 (((UInt8.ofNat n.toNat).toNat : Nat) : Int)] :: brows l
  rw [e]
theorem byte_of {n : Int} (h : (0 : Int) <= n /\ n <= 255) : ∃ b : UInt8, n = ((b.toNat : Nat) : Int) := ⟨UInt8.ofNat n.toNat, by rw [UInt8.toNat_ofNat']; omega⟩
end Go.Proofs.YtpfkfphjigcdeaaGreatDoor

set_option maxRecDepth 100000
namespace Go.Proofs.YtpfkfphjigcdeaaGreatDoor
open Go Go.HL Go.Wk
theorem s_TextSorts' {σ : H} (y : Sl) (ns : List Int) (hx : RowsAt σ 1 (ns.map fun n => [.int .u8 n]) y) (hr : ∀ n ∈ ns, (0 : Int) <= n /\ n <= 255) (n : Int) (hn : (0 : Int) <= n /\ n <= 255) (hI : ItoaT σ) {K : KH} (hK : ∀ σ', Gr σ σ' -> K (.bool true) σ') : callW Tryz.prog 3 [.slice y.base y.len y.cap, .int .u8 n] K σ := by
 obtain ⟨l, hl⟩ := brows_ns hr
 obtain ⟨b, rfl⟩ := byte_of hn
 rw [hl] at hx
 exact s_TextSorts hI hx hK
end Go.Proofs.YtpfkfphjigcdeaaGreatDoor

