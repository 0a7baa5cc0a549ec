/- A part of a proof. -/
import Derived.Test.YtpfkfphjigcdeaaGreatDoorVaf
namespace Go.HL
open Go

def rdC (b o : Nat) (σ : H) : Option Value :=
 match σ b with
 | some (.cells ⟨c⟩ _ _) => c[o]?
 | _ => none
def rdA (n b o : Nat) (σ : H) : Option Value :=
 match σ b with
 | some (.cells ⟨c⟩ _ _) => if o + n <= c.length then some (.agg ⟨(c.drop o).take n⟩) else none
 | _ => none
def okV (ok : Bool) (v : Value) (b : Bool) : Value :=
 match ok with
 | true => .tuple ⟨[v, .bool b]⟩
 | false => v
def rdM (d : TypeDesc) (z : Value) (ok : Bool) (m : Option Nat) (k : Value) (σ : H) : Option Value :=
 match m with
 | none => some (okV ok z false)
 | some r => match σ r with
  | some (.map es _) => match Instr.findNow d k es.toList 0 with
   | some (some (_, v)) => some (okV ok v true)
   | some none => some (okV ok z false)
   | none => none
  | _ => none
def rdLen (m : Option Nat) (σ : H) : Option Value :=
 match m with
 | none => some (.int .i64 0)
 | some r => match σ r with
  | some (.map es _) => some (.int .i64 es.size)
  | _ => none
def scalD : TypeDesc -> Bool
 | .int _ => true
 | .string => true
 | .bool => true
 | _ => false

def rdX (len : Nat) (l : List Value) (i : Int) (_ : H) : Option Value := if 0 <= i /\ i < len then l[i.toNat]? else none
def rdOp (P : Program) (e : Env) (K : (H -> Option Value) -> H -> Prop) (o : Op) (σ : H) : Prop :=
 match o with
 | .load t x => match evO e x, isAggT P t, sizeT P t with
  | some (.pointer p), some false, _ => ptrW p (fun b o => K (rdC b o)) σ
  | some (.pointer p), some true, some n => ptrW p (fun b o => K (rdA n b o)) σ
  | _, _, _ => False
 | .lookup t x i ok => match evO e x, evO e i, P.underlying t with
  | some (.map m), some k, some (.map kt et) => match P.underlying kt, zeroT P et with
   | some d, some z => match scalD d with
    | true => K (rdM d z ok m k) σ
    | false => False
   | _, _ => False
  | _, _, _ => False
 | .call { callee := .builtin .len, args := ⟨[x]⟩, argTypes := ⟨t :: _⟩ } => match evO e x, P.underlying t with
  | some (.map m), some (.map _ _) => K (rdLen m) σ
  | _, _ => False
 | .index t x i => match evO e x, evO e i, P.underlying t with
  | some (.agg ⟨l⟩), some (.int _ i), some (.array len el) => match isAggT P el, sizeT P el with
   | some false, some 1 => K (rdX len l i) σ
   | _, _ => False
  | _, _, _ => False
 | _ => False

section
variable {P : Program}
theorem le_cells {σ : H} {w : World} (h : σ.le w) {b : Nat} {c : List Value} {t : TypeId} {fz : Nat × Nat} (hb : σ b = some (.cells ⟨c⟩ t fz)) (o : Nat) : w.cell? ⟨b, o, none⟩ = c[o]? := by
 simp [World.cell?, h b _ hb]
theorem run_sureAddr (a : Addr) (w : World) : (Instr.sureAddr (.pointer (some a))).run P w = .ok a w := rfl
theorem rdC_sound {t : TypeId} (ha : isAggT P t = some false) {b o : Nat} {σ : H} {v : Value} (hr : rdC b o σ = some v) {w : World} (hw : σ.le w) :
 (Instr.loadAt t (.pointer (some ⟨b, o, none⟩))).run P w = .ok v w := by
 unfold rdC at hr
 split at hr
 ·rename_i c t' fz hb
  simp only [Instr.loadAt, Sem.run_bind, run_sureAddr, Result.andThen_ok, loadVar, run_isAgg ha, Bool.false_eq_true, if_false, run_load, le_cells hw hb, hr]
 ·cases hr
theorem rdA_sound {t : TypeId} (ha : isAggT P t = some true) {n b o : Nat} (hn : sizeT P t = some n) {σ : H} {v : Value} (hr : rdA n b o σ = some v) {w : World} (hw : σ.le w) :
 (Instr.loadAt t (.pointer (some ⟨b, o, none⟩))).run P w = .ok v w := by
 unfold rdA at hr
 split at hr
 ·rename_i c t' fz hb
  split at hr
  ·rename_i hle
   cases hr
   have hl : (loadCells ⟨b, o, none⟩ n).run P w = .ok ⟨(c.drop o).take n⟩ w := by
    have := run_loadCells_list (P := P) (w := w) ⟨b, o, none⟩ ((c.drop o).take n) (fun j v hj => by
     rw [add_none, le_cells hw hb]
     rw [List.getElem?_take] at hj
     split at hj
     ·rw [List.getElem?_drop] at hj; exact hj
     ·cases hj)
    rw [show ((c.drop o).take n).length = n from by simp; omega] at this
    exact this
   simp only [Instr.loadAt, Sem.run_bind, run_sureAddr, Result.andThen_ok, loadVar, run_isAgg ha, if_true, run_sizeOf hn, hl, Sem.run_pure]
  ·cases hr
 ·cases hr
theorem run_checkKey {b : Bool} {n : Nat} {t : TypeId} {d : TypeDesc} {v : Value} (hu : P.underlying t = some d) (hd : scalD d = true) (w : World) : (Instr.checkKey b (n + 1) t v).run P w = .ok () w := by
 cases d <;> first | (cases hd; done) | simp [Instr.checkKey, run_underlying hu]
theorem run_findKey {t : TypeId} {d : TypeDesc} {k : Value} {es : List MapEntry} {r : Option (Nat × Value)} (hu : P.underlying t = some d) (hr : Instr.findNow d k es 0 = some r) (w : World) :
 (Instr.findKey t k es).run P w = .ok r w := by
 simp [Instr.findKey, run_underlying hu, hr]
theorem rdM_sound {t kt et : TypeId} {d : TypeDesc} {z k : Value} {ok : Bool} {m : Option Nat} (ht : P.underlying t = some (.map kt et)) (hd : P.underlying kt = some d) (hs : scalD d = true) (hz : zeroT P et = some z) {σ : H} {v : Value}
 (hr : rdM d z ok m k σ = some v) {w : World} (hw : σ.le w) : (Instr.lookup t (.map m) k ok).run P w = .ok v w := by
 unfold rdM at hr
 split at hr
 ·cases hr
  have h1 : Instr.findNow d k [] 0 = some none := rfl
  cases ok <;> simp [Instr.lookup, run_underlying ht, run_checkKey hd hs, run_findKey hd h1, run_zeroValue hz, okV]
 ·rename_i r
  split at hr
  ·rename_i es c hb
   have hg : (getObj r).run P w = .ok (.map es c) w := by simp [getObj, Sem.run, hw r _ hb]
   split at hr
   ·rename_i i u hf
    cases hr
    cases ok <;> simp [Instr.lookup, run_underlying ht, hg, run_checkKey hd hs, run_findKey hd hf, okV]
   ·rename_i hf
    cases hr
    cases ok <;> simp [Instr.lookup, run_underlying ht, hg, run_checkKey hd hs, run_findKey hd hf, run_zeroValue hz, okV]
   ·cases hr
  ·cases hr

theorem rdOp_sound {N : Nat} {e : Env} {a : Act} (fr : FR N e a) {o : Oper} {K : (H -> Option Value) -> H -> Prop} {σ : H} (h : rdOp P e K o.op σ) :
 ∃ r, (∀ σ' v, r σ' = some v -> RdS P (execOp a.eval o) σ' v) /\ K r σ := by
 obtain ⟨dst, op, type, pos, after, guard⟩ := o
 simp only at h
 unfold rdOp at h
 split at h
 ·split at h
  ·rename_i p hp ha
   obtain ⟨b, o, rfl, h⟩ := ptrW_get h
   exact ⟨_, fun σ' v hr w hw => by simp [execOp, fr.evO hp, rdC_sound ha hr hw], h⟩
  ·rename_i p n hp ha hn
   obtain ⟨b, o, rfl, h⟩ := ptrW_get h
   exact ⟨_, fun σ' v hr w hw => by simp [execOp, fr.evO hp, rdA_sound ha hn hr hw], h⟩
  ·exact h.elim
 ·split at h
  ·rename_i m k kt et hm hk ht
   split at h
   ·rename_i d z hd hz
    split at h
    ·rename_i hs
     exact ⟨_, fun σ' v hr w hw => by simp [execOp, fr.evO hm, fr.evO hk, rdM_sound ht hd hs hz hr hw], h⟩
    ·exact h.elim
   ·exact h.elim
  ·exact h.elim
 ·split at h
  ·rename_i m _ _ hm ht
   refine ⟨_, fun σ' v hr w hw => ?_, h⟩
   unfold rdLen at hr
   split at hr
   ·cases hr
    simp [execOp, resolve, invoke, builtin, Builtin.len_, fr.evO hm, run_underlying ht, goInt]
   ·rename_i r
    split at hr
    ·rename_i es c hb
     cases hr
     have hg : (getObj r).run P w = .ok (.map es c) w := by simp [getObj, Sem.run, hw r _ hb]
     simp [execOp, resolve, invoke, builtin, Builtin.len_, fr.evO hm, run_underlying ht, hg, goInt]
    ·cases hr
  ·exact h.elim
 ·split at h
  ·rename_i l k i len el hl hi hu
   split at h
   ·rename_i ha hs
    refine ⟨_, fun σ' v hr w hw => ?_, h⟩
    unfold rdX at hr
    split at hr
    ·rename_i hb
     have hp : (part el ⟨l⟩ (i.toNat * 1)).run P w = .ok v w := run_part (by simp [partV, ha, hr]) w
     simp [execOp, fr.evO hl, fr.evO hi, Instr.index, asIntOf, run_underlying hu, hb, run_sizeOf hs]
     rw [Nat.mul_one] at hp
     simp [hp]
    ·cases hr
   ·exact h.elim
  ·exact h.elim
 ·exact h.elim
end

def ptrTo (b : Nat) : Value := .pointer (some ⟨b, 0, none⟩)
def rowTo (n b : Nat) : Value := .slice (some ⟨b, 0, none⟩) n n
def mapTo (b : Nat) : Value := .map (some b)
def rowCells (z : List Value) (n : Nat) : List Value := (List.replicate n z).flatten
def alF (P : Program) (e : Env) (K : Obj -> (Nat -> Value) -> H -> Prop) (o : Op) (σ : H) : Prop :=
 match o with
 | .alloc t => match zeroT P t with
  | some z => K (.cells ⟨arrL z.cells⟩ t (0, 0)) ptrTo σ
  | none => False
 | .box t x => match evO e x, isAggT P t with
  | some v, some false => oneK v (K (.cells ⟨[v]⟩ t (0, 0)) ptrTo) σ
  | some v, some true => K (.cells ⟨arrL v.cells⟩ t (0, 0)) ptrTo σ
  | _, _ => False
 | .buildSlice t n ⟨ps⟩ => match evP e ps, P.underlying t with
  | some us, some (.slice el) => match sizeT P el, zeroT P el with
   | some s, some z => wrapP P (partTy P t) us (fun us σ => match Nat.ble (n * s) 16777216, Nat.beq (arrL z.cells).length s, Instr.fill (fun i => some (i * s, s)) ⟨rowCells (arrL z.cells) n⟩ us with
    | true, true, some cs => K (.cells ⟨arrL cs⟩ el (0, 0)) (rowTo n) σ
    | _, _, _ => False) σ
   | _, _ => False
  | _, _ => False
 | .makeMap _ none => K (.map #[] 0) mapTo σ
 | _ => False
def alW (obj : Obj) (g : Nat -> H -> Prop) (σ : H) : Prop := ∀ b, σ b = none -> g b (σ.put b obj)

section
variable {P : Program}
theorem rowCells_eq (z : List Value) (n : Nat) : (Array.range (n * z.length)).map (fun i => z.toArray[i % z.toArray.size]!) = ⟨rowCells z n⟩ := by
 apply Array.ext'
 simp only [Array.toList_map, Array.toList_range, List.size_toArray]
 induction n with
 | zero => simp [rowCells]
 | succ n ih =>
  have h1 : (n + 1) * z.length = z.length + n * z.length := by rw [Nat.add_mul, Nat.one_mul, Nat.add_comm]
  rw [h1, List.range_add, List.map_append]
  have h2 : rowCells z (n + 1) = z ++ rowCells z n := by simp [rowCells, List.replicate_succ]
  rw [h2]
  congr 1
  ·apply List.ext_getElem
   ·simp
   ·intro i h1 h2
    simp at h1
    simp [Nat.mod_eq_of_lt h1, h1]
  ·rw [List.map_map, <- ih]
   apply List.map_congr_left
   intro i _
   simp
theorem alF_sound {N : Nat} {e : Env} {a : Act} (fr : FR N e a) {o : Oper} {K : Obj -> (Nat -> Value) -> H -> Prop} {σ : H} (h : alF P e K o.op σ) :
 ∃ obj mk, IsAl P (execOp a.eval o) mk obj /\ K obj mk σ := by
 obtain ⟨dst, op, type, pos, after, guard⟩ := o
 simp only at h
 unfold alF at h
 split at h
 ·split at h
  ·rename_i t _ z hz
   refine ⟨_, _, fun w => ?_, h⟩
   simp [execOp, Instr.alloc, run_zeroValue hz, newVar, newRow, arrL_eq, ptrTo, World.alloc_eq]
  ·exact h.elim
 ·split at h
  ·rename_i v hv _
   obtain ⟨hc, _, h⟩ := oneK_get h
   refine ⟨_, _, fun w => ?_, h⟩
   simp [execOp, Instr.box, fr.evO hv, newVar, newRow, hc, ptrTo, World.alloc_eq]
  ·rename_i v hv _
   refine ⟨_, _, fun w => ?_, h⟩
   simp [execOp, Instr.box, fr.evO hv, newVar, newRow, arrL_eq, ptrTo, World.alloc_eq]
  ·exact h.elim
 ·split at h
  ·rename_i t n ps _ _ us el hus hu
   split at h
   ·rename_i s z hs hz
    obtain ⟨us', hus', h⟩ := wrapP_get h
    split at h
    ·rename_i cs hle hlen hfill
     rw [fill_congr _ _ _ hus'] at hfill
     refine ⟨_, _, fun w => ?_, h⟩
     have hle' : ¬ (n * s > 2 ^ 24) := by have := Nat.le_of_ble_eq_true hle; omega
     have hlen' : (arrL z.cells).length = s := Nat.eq_of_beq_eq_true hlen
     have h3 := evP_val fr hus
     have hparts : (Array.map (fun (x : Nat × Operand) => (x.1, a.eval x.2)) ⟨ps⟩ : Array (Nat × Value)) = ⟨us⟩ := by apply Array.ext'; simpa using h3
     have hrow : (Array.range (n * s)).map (fun i => z.cells[i % z.cells.size]!) = ⟨rowCells (arrL z.cells) n⟩ := by
      have := rowCells_eq (arrL z.cells) n
      rw [hlen'] at this
      rw [<- this]
      congr 1
     have hfill' : Instr.fill (fun i => some (i * s, s)) (if n * s = 0 then (Array.range (n * s)).map (fun i => (#[] : Array Value)[i % (#[] : Array Value).size]!) else (Array.range (n * s)).map (fun i => z.cells[i % z.cells.size]!)) us = some cs := by
      split
      ·rename_i h0
       have : rowCells (arrL z.cells) n = [] := by
        have := congrArg Array.size hrow
        simp [h0] at this
        exact List.length_eq_zero_iff.1 this.symm
       rw [this] at hfill
       rw [h0, show (Array.range 0).map (fun i => (#[] : Array Value)[i % (#[] : Array Value).size]!) = ⟨[]⟩ from by apply Array.ext'; simp]
       exact hfill
      ·rw [hrow]; exact hfill
     have key : (Instr.buildSlice t n (Array.map (fun (x : Nat × Operand) => (x.1, a.eval x.2)) ⟨ps⟩)).run P w = .ok (rowTo n w.heap.size) (w.alloc (.cells ⟨arrL cs⟩ el (0, 0))) := by
      rw [hparts]
      simp only [Instr.buildSlice, Sem.run_bind, run_underlying hu, Result.andThen_ok, run_sizeOf hs, hle', if_false]
      by_cases h0 : n * s = 0
      ·rw [if_pos h0] at hfill'
       simp only [h0, if_true]
       rw [h0] at hfill'
       simp only [hfill', Sem.run_bind, newRow, run_newObj, Result.andThen_ok, Sem.run_pure, arrL_eq, rowTo]
       rfl
      ·rw [if_neg h0] at hfill'
       simp only [h0, if_false, Sem.run_bind, run_zeroValue hz, Sem.run_pure, Result.andThen_ok]
       simp only [hfill', Sem.run_bind, newRow, run_newObj, Result.andThen_ok, Sem.run_pure, arrL_eq, rowTo]
       rfl
     simp only [execOp, Sem.run_bind]
     rw [key]; rfl
    ·exact h.elim
   ·exact h.elim
  ·exact h.elim
 ·refine ⟨_, _, fun w => ?_, h⟩
  simp [execOp, Instr.makeMap, mapTo, World.alloc_eq]
 ·exact h.elim
end
end Go.HL

