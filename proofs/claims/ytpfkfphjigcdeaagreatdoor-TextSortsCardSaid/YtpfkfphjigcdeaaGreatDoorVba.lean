/- A part of a proof. -/
import Derived.Test.YtpfkfphjigcdeaaGreatDoorVaz
import Derived.Laws.MakeOwn
import Derived.Laws.CopyRow
namespace Go.HL
open Go
def RowsOz (σ : H) (e : TypeId) (n : Nat) (rows : List (List Value)) (x : Sl) : Prop :=
 x.len = rows.length /\ (∀ r ∈ rows, r.length = n) /\ ((x.base = none /\ x.cap = 0 /\ rows = []) \/ ∃ g cur fz, (fz.2 <= fz.1 \/ cur.length <= fz.1) /\ x.base = some ⟨g, 0, none⟩ /\ σ g = some (.cells ⟨cur⟩ e fz) /\ cur.length = x.cap * n /\ x.len <= x.cap /\ cur.take (x.len * n) = rows.flatten)
theorem RowsOz.gr {σ σ' : H} {e : TypeId} {n : Nat} {rows : List (List Value)} {x : Sl} (h : RowsOz σ e n rows x) (hg : Gr σ σ') : RowsOz σ' e n rows x := by
 obtain ⟨h1, h2, h3 | ⟨g, cur, fz, h0, h3, h4, h5⟩⟩ := h
 ·exact ⟨h1, h2, .inl h3⟩
 ·exact ⟨h1, h2, .inr ⟨g, cur, fz, h0, h3, hg.get h4, h5⟩⟩
theorem RowsOz.rows {σ : H} {e : TypeId} {n : Nat} {rows : List (List Value)} {x : Sl} (h : RowsOz σ e n rows x) : RowsAt σ n rows x := by
 obtain ⟨h1, h2, ⟨_, _, h5⟩ | ⟨g, cur, fz, h0, h3, h4, h5, h6, h7⟩⟩ := h
 ·exact ⟨h1, .inl h5⟩
 ·refine ⟨h1, .inr ⟨g, 0, cur, e, fz, h3, h4, fun i r hi => ?_⟩⟩
  have hr := h2 r (List.mem_of_getElem? hi)
  refine ⟨hr, ?_⟩
  have hlt : i < rows.length := by
   rcases Nat.lt_or_ge i rows.length with h | h
   ·exact h
   ·rw [List.getElem?_eq_none h] at hi; cases hi
  have := flat_get h2 i r hi
  rw [<- h7, List.drop_take, List.take_take] at this
  rw [Nat.zero_add]
  have hle : i * n + n <= x.len * n := by rw [h1, <- Nat.succ_mul]; exact Nat.mul_le_mul_right n hlt
  rw [Nat.min_eq_left (by omega)] at this
  exact this
section
variable {P : Program} {σ : H}
end
def RNz (σ0 σ : H) (e : TypeId) (n : Nat) (rows : List (List Value)) (y : Sl) : Prop := Gr σ0 σ /\ RowsOz σ e n rows y /\ ∀ g, y.base = some ⟨g, 0, none⟩ -> σ0 g = none
theorem RNz.gr {σ0 σ σ' : H} {e : TypeId} {n : Nat} {rows : List (List Value)} {y : Sl} (h : RNz σ0 σ e n rows y) (hg : Gr σ σ') : RNz σ0 σ' e n rows y := ⟨h.1.trans hg, h.2.1.gr hg, h.2.2⟩
theorem RNz.at {σ0 σ : H} {e : TypeId} {n : Nat} {rows : List (List Value)} {y : Sl} (h : RNz σ0 σ e n rows y) : RowsAt σ n rows y := h.2.1.rows
theorem RNz.len {σ0 σ : H} {e : TypeId} {n : Nat} {rows : List (List Value)} {y : Sl} (h : RNz σ0 σ e n rows y) : y.len = rows.length := h.2.1.1
theorem RNz.cap {σ0 σ : H} {e : TypeId} {n : Nat} {rows : List (List Value)} {y : Sl} (h : RNz σ0 σ e n rows y) : y.len <= y.cap := by
 obtain ⟨h1, _, ⟨_, h2, h3⟩ | ⟨g, cur, fz, _, _, _, _, h4, _⟩⟩ := h.2.1
 ·rw [h1, h3]; exact Nat.zero_le _
 ·exact h4
end Go.HL

namespace Go.HL
open Go
section
variable {P : Program} {σ : H}
theorem madeCells_one (v : Value) (n : Nat) : madeCells #[v] n = ⟨List.replicate n v⟩ := by
 apply Array.ext'
 unfold madeCells
 apply List.ext_getElem
 ·simp
 ·intro i h1 h2
  simp [Nat.mod_one]
theorem mk_i {t e : TypeId} {i : TypeInfo} {z : Value} (ht : P.underlying t = some (.slice e)) (hi : P.info? e = some i) (hz : i.zero = some z) (hs : i.size = 1) (hby : i.bytes <= 100) (hzc : z.cells = #[z]) {l : Int} {n : Nat} (hl : l = (n : Int)) (hn : n <= 100000000000) {F : Sl -> H -> Prop}
 (hF : ∀ b σ', Gr σ σ' -> σ b = none -> σ' b = some (.cells ⟨List.replicate n z⟩ e (0, 0)) -> F ⟨some ⟨b, 0, none⟩, n, n⟩ σ') : vaW P (Instr.makeSlice t (.int .i64 l) (.int .i64 l)) (.one (.sc .slc)) F σ := by
 subst hl
 intro w hw
 have hbytes : (i.bytes : Int) * ((n : Nat) : Int) <= 281474976710656 := by
  have : i.bytes * n <= 100 * 100000000000 := Nat.mul_le_mul hby hn
  have h2 : ((i.bytes * n : Nat) : Int) <= 281474976710656 := by omega
  rw [Int.natCast_mul] at h2; exact h2
 have hrun : (valS (Instr.makeSlice t (.int .i64 (n : Int)) (.int .i64 (n : Int)))).run P w = .ok (.value (.slice (some ⟨w.heap.size, 0, none⟩) n n)) (w.alloc (.cells ⟨List.replicate n z⟩ e)) := by
  simp only [valS, Sem.run_bind, run_make (P := P) w t e i z ht hi hz .i64 .i64 (n : Int) (n : Int) (by omega) (by omega) hbytes (by omega), Result.andThen_ok, Sem.run_pure, Int.toNat_natCast, hs, Nat.mul_one, hzc, madeCells_one]
 rw [hrun]
 obtain ⟨h1, h2⟩ := Ext.alloc hw (.cells ⟨List.replicate n z⟩ e)
 exact ⟨_, h2, app_L (hF w.heap.size _ (Gr.put h1 _) h1 (H.put_same _ _ _))⟩
end
end Go.HL

set_option maxRecDepth 100000
namespace Go.Wk
open Go Go.HL
abbrev bs (l : List UInt8) : ByteArray := ⟨⟨l⟩⟩
structure Dn where
 out : ByteArray
 err : ByteArray
 st : Int
def Dn.z : Dn := ⟨⟨⟨[]⟩⟩, ⟨⟨[]⟩⟩, 0⟩
def usageP (nm : ByteArray) : Dn := ⟨⟨⟨[]⟩⟩, nm ++ ⟨⟨[58, 32, 117, 115, 97, 103, 101, 10]⟩⟩, 2⟩
def dig (c : UInt8) : Bool := Nat.ble 48 c.toNat && Nat.ble c.toNat 57
def numL : List UInt8 -> Nat -> Nat
 | [], n => n
 | c :: r, n => numL r (10 * n + (c.toNat - 48))
def unsign (l : List UInt8) : List UInt8 := match l with
 | [] => []
 | c :: r => if c == 45 then r else c :: r
def wholeP (s : ByteArray) : Option Int :=
 let l := s.data.toList
 let n := unsign l
 if n.isEmpty || (decide (n.length > 15) || !n.all dig) then none else some (if headIs 45 s then -(numL n 0 : Int) else (numL n 0 : Int))
structure Pc where
 text : ByteArray
 kind : UInt8
 width : Nat
 left : Bool
def digitL (c : Nat) : UInt8 := if c < 10 then 48 + UInt8.ofNat c else 87 + UInt8.ofNat c
def fmtL (base : Nat) : Nat -> Nat -> List UInt8 -> List UInt8
 | 0, _, acc => acc
 | f + 1, n, acc => if n < base then digitL n :: acc else fmtL base f (n / base) (digitL (n % base) :: acc)
def fmtP (base : Nat) (n : Int) : ByteArray := ⟨⟨if n < 0 then 45 :: fmtL base 64 n.natAbs [] else fmtL base 64 n.natAbs []⟩⟩
structure PS where
 args : List ByteArray
 took : Bool
 err : ByteArray
 st : Int
 out : ByteArray
def PS.a0 (s : PS) : ByteArray := match s.args with
 | [] => ⟨⟨[]⟩⟩
 | a :: _ => a
def PS.next (s : PS) : PS := { s with took := true, args := s.args.drop 1 }
def errP (nm a : ByteArray) : ByteArray := nm ++ ⟨⟨[58, 32]⟩⟩ ++ a ++ ⟨⟨[58, 32, 50, 10]⟩⟩
def PS.num (nm : ByteArray) (s : PS) : PS := match wholeP s.a0 with
 | some _ => s.next
 | none => if s.args.isEmpty then s.next else { s.next with err := s.err ++ errP nm s.a0, st := 1 }
def spaces (n : Nat) : ByteArray := ⟨⟨List.replicate n 32⟩⟩
def PS.put (s : PS) (p : Pc) (x : ByteArray) : PS := { s with out := s.out ++ (if p.left then x ++ spaces (p.width - x.size) else spaces (p.width - x.size) ++ x) }
def PS.piece (nm : ByteArray) (s : PS) (p : Pc) : PS :=
 if p.kind == 115 then s.next.put p s.a0
 else if p.kind == 100 then (s.num nm).put p (fmtP 10 ((wholeP s.a0).getD 0))
 else if p.kind == 120 then (s.num nm).put p (fmtP 16 ((wholeP s.a0).getD 0))
 else if p.kind == 99 then s.next.put p (s.a0.extract 0 (min s.a0.size 1))
 else s.put p p.text
def PS.pass (nm : ByteArray) (form : List Pc) (s : PS) : PS := form.foldl (PS.piece nm) s
def PS.loop (nm : ByteArray) (form : List Pc) : Nat -> PS -> PS
 | 0, s => s
 | f + 1, s => let t := s.pass nm form; if t.took && !t.args.isEmpty then PS.loop nm form f t else t
def hasEnd (l e : List UInt8) : Bool := Nat.ble e.length l.length && l.drop (l.length - e.length) == e
def trimEnd (l e : List UInt8) : List UInt8 := if hasEnd l e then l.take (l.length - e.length) else l
end Go.Wk

set_option maxRecDepth 100000
namespace Go.Wk
open Go Go.HL
def pS (w : Nat) (l : Bool) : Pc := ⟨⟨⟨[]⟩⟩, 115, w, l⟩
end Go.Wk

namespace Go.Wk
open Go Go.HL
def Tr.z : Tr := .mk ⟨⟨[]⟩⟩ 0 false ⟨⟨[]⟩⟩ []
def Tr.named (s : ByteArray) : Tr -> Tr
 | .mk _ k e d kids => .mk s k e d kids
def trimL : List UInt8 -> List UInt8
 | [] => []
 | x :: r => match r with
  | [] => (match x == 47 with | true => [] | false => [x])
  | _ :: _ => x :: trimL r
def trimS (p : ByteArray) : ByteArray := ⟨⟨trimL p.data.toList⟩⟩
def kidP (p n : ByteArray) : ByteArray := sub (trimS p) n
def takeRow (g : ByteArray -> Int × Tr) (path : ByteArray) : List ByteArray -> Int × List Tr
 | [] => (0, [])
 | n :: r => let x := g (kidP path n)
  if x.1 ≠ 0 then (x.1, []) else
   let y := takeRow g path r
   (y.1, x.2.named n :: y.2)
def xOf (k m : Int) : Bool := k == 1 && (bitV .and .i64 m 73 : Int) != 0
def AT.take (A : AT) : Nat -> ByteArray -> Int × Tr
 | 0, _ => (3, Tr.z)
 | f + 1, path =>
  let x := A.stat ⟨⟨[47]⟩⟩ path false
  if x.1 ≠ 0 then (x.1, Tr.z)
  else if x.2.kind = 2 then
   let l := A.listF ⟨⟨[47]⟩⟩ path
   if l.1 ≠ 0 then (l.1, Tr.z)
   else
    let r := takeRow (AT.take A f) path l.2
    (r.1, .mk ⟨⟨[]⟩⟩ 2 false x.2.data r.2)
  else (0, .mk ⟨⟨[]⟩⟩ x.2.kind (xOf x.2.kind x.2.mode) x.2.data [])
mutual
def Tr.same : Tr -> Tr -> Bool
 | .mk n k e d kids, u => !(Tr.mk n k e d kids).tooDeep && (!u.tooDeep && (sEq n u.name && ((k == u.kind) && ((e == u.exec) && (sEq d u.data && (Nat.beq kids.length u.kids.length && Tr.sameRow kids u.kids))))))
def Tr.sameRow : List Tr -> List Tr -> Bool
 | [], _ => true
 | t :: r, l => match l with
  | [] => false
  | u :: s => Tr.same t u && Tr.sameRow r s
end
theorem size_list (s : ByteArray) : s.size = s.data.toList.length := by cases s with | mk d => simp [ByteArray.size]
theorem bytes_ext {a b : ByteArray} (h : a.data.toList = b.data.toList) : a = b := by
 obtain ⟨⟨a⟩⟩ := a; obtain ⟨⟨b⟩⟩ := b
 have h : a = b := h
 rw [h]
end Go.Wk

