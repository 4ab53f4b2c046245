import Derived.Test.YtadbkppgaekmpaaPtProcOwn6
/-
  Arrays in a variable: an element's address, a store at a reckoned place, the whole read; keys that are arrays or pairs of numbers. Over any program.
-/
set_option linter.unusedVariables false
set_option linter.unusedSimpArgs false
namespace Go.Proofs.Ytadbkppgaekmpaa
open Go.RowKit

class IsA (P : Program) (t : TypeId) (k : outParam Nat) (e : outParam TypeId) : Prop where
  ok : P.underlying t = some (.array k e)
section
variable {P : Program} {Q : Exit → Act → World → Prop} {n : Nat} {σ : Sg} {w : World} {L rest : List Oper} {d : Nat} {ty : TypeId} {pos : String} {af : Array Edge} {g : Option (Nat × Bool)} {t e : TypeId} {x y : Operand} {b o : Nat} {cells : List Value}
/-- &x[i], x an array -/
theorem WL.idxA {ix : Operand} {i k : Nat} {kd : IntKind} {e' : TypeId} (hg : gd L σ ⟨some d, .indexAddr t x ix, ty, pos, af, g⟩ = some true) (hd : Nat.ble (d + 1) n = true) (hx : ev σ x = some (.pointer (some ⟨b, o, none⟩))) (hi : ev σ ix = some (.int kd (i : Int)))
    [ha : IsA P t k e'] [hc : IsC P e' 1 false] (h1 : i < k) (h : WL P L Q rest n ((d, .pointer (some ⟨b, o + i, none⟩)) :: σ) w) : WL P L Q (⟨some d, .indexAddr t x ix, ty, pos, af, g⟩ :: rest) n σ w := by
  obtain ⟨inf, dd, hi1, hi2, _, _⟩ := hc.ok
  refine WL.run hg hd (fun a ha0 => ?_) h
  simp [execOp, ha0.ev hx, ha0.ev hi, Instr.indexAt, asIntOf, run_underlying ha.ok, Instr.sureAddr, h1, sizeOf, typeInfo, hi1, hi2, WideShapes.add_plain]
/-- *p = v, one cell, wherever it lies -/
theorem WL.st1 {v : Value} (hg : gd L σ ⟨none, .store t x y, ty, pos, af, g⟩ = some true) (hx : ev σ x = some (.pointer (some ⟨b, o, none⟩))) (hy : ev σ y = some v) [hc : IsC P t 1 false] (hb : Blk w b e cells)
    (ho : o < cells.length) (hv : cellsL v = [v]) (h1 : v.oneCell' = true)
    (h : ∀ w', Blk w' b e (cells.set o v) → w.grownBy w' (some b) → WL P L Q rest n σ w') : WL P L Q (⟨none, .store t x y, ty, pos, af, g⟩ :: rest) n σ w := by
  obtain ⟨i, dd, hi1, hi2, _, _⟩ := hc.ok
  have hst := run_storeCells_at P b o e [v] 0 cells.toArray w hb (by simp; omega) (by simpa using h1)
  simp only [Nat.add_zero] at hst
  have e1 : cells.take o ++ [v] ++ cells.drop (o + [v].length) = cells.set o v := by
    rw [List.set_eq_take_append_cons_drop, if_pos ho]; simp
  refine WL.runU hg (fun a ha => ?_) (h _ (by
    have := setRow_heap w b cells.toArray (cells.set o v).toArray e (0, 0) hb
    exact this) (grown_setRow w b _))
  simp only [execOp, ha.ev hx, ha.ev hy, Instr.storeAt, Sem.run_bind, Instr.sureAddr, Sem.run_pure, Result.andThen_ok, storeVar, sizeOf, typeInfo, run_program, hi1, hi2, cellsL_eq, hv]
  rw [← e1]
  simp
  simp [hst]
theorem run_ldAll {k : Nat} (w : World) (hb : Blk w b e cells) (hk : cells.length = k) [hc : IsC P t k true] : (Instr.loadAt t (.pointer (some ⟨b, 0, none⟩))).run P w = .ok (.agg cells.toArray) w := by
  obtain ⟨i, dd, h1, h2, h3, h4⟩ := hc.ok
  have hagg : (isAgg t).run P w = .ok true w := by
    unfold isAgg
    rw [Sem.run_bind, run_underlying h3 w, ← h4]
    cases dd <;> rfl
  have hld := run_loadCells_list (P := P) w ⟨b, 0, none⟩ cells (fun j u hu => by rw [WideShapes.add_plain, Nat.zero_add]; exact hb.cell hu)
  rw [hk] at hld
  simp [Instr.loadAt, Instr.sureAddr, loadVar, hagg, sizeOf, typeInfo, h1, h2, hld]
/-- the whole variable, however its cells are spelt -/
theorem WL.ldAll {k : Nat} (hg : gd L σ ⟨some d, .load t x, ty, pos, af, g⟩ = some true) (hd : Nat.ble (d + 1) n = true) (hx : ev σ x = some (.pointer (some ⟨b, 0, none⟩))) [hc : IsC P t k true] (hb : Blk w b e cells) (hk : cells.length = k)
    (h : WL P L Q rest n ((d, .agg cells.toArray) :: σ) w) : WL P L Q (⟨some d, .load t x, ty, pos, af, g⟩ :: rest) n σ w := by
  refine WL.run hg hd (fun a ha => ?_) h
  simp [execOp, ha.ev hx, run_ldAll (P := P) (t := t) w hb hk]
theorem WL.stAll {k : Nat} {cs : List Value} (hg : gd L σ ⟨none, .store t x y, ty, pos, af, g⟩ = some true) (hx : ev σ x = some (.pointer (some ⟨b, 0, none⟩))) (hy : ev σ y = some (.agg cs.toArray)) [hc : IsC P t k true] (hb : Blk w b e cells)
    (hk : cs.length = k) (hl : cells.length = k) (h1 : ∀ u ∈ cs, u.oneCell' = true)
    (h : ∀ w', Blk w' b e cs → w.grownBy w' (some b) → WL P L Q rest n σ w') : WL P L Q (⟨none, .store t x y, ty, pos, af, g⟩ :: rest) n σ w := by
  obtain ⟨i, dd, hi1, hi2, _, _⟩ := hc.ok
  subst hk
  have hst := run_storeCells_at P b 0 e cs 0 cells.toArray w hb (by simp; omega) h1
  simp only [Nat.add_zero, Nat.zero_add, List.take_zero, List.nil_append] at hst
  have e1 : cells.toArray.toList.drop cs.length = [] := List.drop_eq_nil_of_le (by simp; omega)
  rw [e1, List.append_nil] at hst
  refine WL.runU hg (fun a ha => ?_) (h _ (by
    have := setRow_heap w b cells.toArray cs.toArray e (0, 0) hb
    exact this) (grown_setRow w b _))
  simp only [execOp, ha.ev hx, ha.ev hy, Instr.storeAt, Sem.run_bind, Instr.sureAddr, Sem.run_pure, Result.andThen_ok, storeVar, sizeOf, typeInfo, run_program, hi1, hi2, Value.cells]
  simp
  simp [hst]
theorem EX.retCA {fn : Func} {a : Nat} {k : Nat} {R : Value → World → Prop} (hr : fn.results = #[.cell a t]) (ha : fnd σ a = some (.pointer (some ⟨b, 0, none⟩))) [hc : IsC P t k true] (hb : Blk w b e cells) (hk : cells.length = k) (h : R (.agg cells.toArray) w) :
    EX (bodyPost P fn fun e w' => ∃ v, e = .returned v ∧ R v w') .ret n σ w := by
  unfold EX; intro ac hac
  refine bodyPost_ret ?_ hac.defers ⟨_, rfl, h⟩
  have hld := run_loadCells_list (P := P) w ⟨b, 0, none⟩ cells (fun j u hu => by rw [WideShapes.add_plain, Nat.zero_add]; exact hb.cell hu)
  obtain ⟨i, dd, h1, h2, h3, h4⟩ := hc.ok
  have hagg : (isAgg t).run P w = .ok true w := by
    unfold isAgg
    rw [Sem.run_bind, run_underlying h3 w, ← h4]
    cases dd <;> rfl
  rw [hk] at hld
  have hs := hac.slot a _ ha
  simp only [Array.getD_eq_getD_getElem?] at hs
  simp [results, hr, hs, asAddr, loadVar, hagg, sizeOf, typeInfo, h1, h2, hld]
end
theorem mapM_some {α β : Type} {f : α → Option β} {g : α → β} : ∀ (l : List α), (∀ x ∈ l, f x = some (g x)) → l.mapM f = some (l.map g)
  | [], _ => rfl
  | x :: r, h => by
    rw [List.mapM_cons, h x (by simp), mapM_some r (fun y hy => h y (by simp [hy]))]
    rfl
/-- a key that is an array of numbers -/
theorem KeyV.arr {P : Program} {k e : TypeId} {n : Nat} {q : IntKind} (hu : P.underlying k = some (.array n e)) (he : P.underlying e = some (.int q)) (hce : P.cellsOf e = 1) (hck : P.cellsOf k = n) (hkt : P.keyType k = true) (hts : Nat.ble 1 P.types.size = true)
    {xs : List Int} (hl : xs.length = n) (hx : ∀ x ∈ xs, (Lit.int q x).wf = true) : KeyV P k (.agg (xs.map fun x => .int q x).toArray) := by
  obtain ⟨s, hs⟩ : ∃ s, P.types.size = s + 1 := ⟨P.types.size - 1, by have := Nat.le_of_ble_eq_true hts; omega⟩
  have hlits : P.keyLits (P.types.size + 1) k (xs.map fun x => .int q x) = some (((List.range n).map fun i => [Lit.int q (xs.getD i 0)]).flatten) := by
    rw [hs, Program.keyLits.eq_def]
    simp only [hu]
    rw [if_pos (by rw [hck]; simpa using hl), mapM_some (g := fun i => [Lit.int q (xs.getD i 0)])]
    · rfl
    · intro i hi
      have hi := List.mem_range.1 hi
      have hix : i < xs.length := by omega
      have hseg : ((xs.map fun x => Value.int q x).drop (i * P.cellsOf e)).take (P.cellsOf e) = [.int q xs[i]] := by
        rw [hce, Nat.mul_one, List.drop_eq_getElem_cons (by simpa using hix)]
        simp
      rw [hseg, Program.keyLits.eq_def]
      simp only [he]
      rw [if_pos ⟨trivial, hx _ (List.getElem_mem hix)⟩, List.getD_eq_getElem?_getD, List.getElem?_eq_getElem hix]
      rfl
  refine ⟨.string (keyBytes (((List.range n).map fun i => [Lit.int q (xs.getD i 0)]).flatten)), ?_⟩
  unfold keyOf
  rw [hu]
  dsimp only
  have hf : Value.formed P k (.agg (xs.map fun x => Value.int q x).toArray) = true := by
    unfold Value.formed
    rw [hu, hck]
    simp [hl]
  rw [hkt, hf]
  show Option.map _ (P.keyLits (P.types.size + 1) k (xs.map fun x => Value.int q x)) = _
  rw [hlits]
  rfl
end Go.Proofs.Ytadbkppgaekmpaa
/-
  The steps of a process: plain lists, no program in sight.
-/
set_option linter.unusedVariables false
set_option linter.unusedSimpArgs false
namespace Go.Proofs.Ytadbkppgaekmpaa

abbrev LStep := Int × Int × Int
def stepsK (kind n : Int) (ins : List Int) (o : Nat) : List LStep :=
  if kind = 4 ∨ kind = 2 ∨ kind = 3 then ins.map fun f => (n, f, (2 : Int) ^ o - 1)
  else if kind = 5 then ins.flatMap fun f => (List.range o).map fun k : Nat => (n, f, (2 : Int) ^ k)
  else if kind = 6 then [(n, -1, (2 : Int) ^ o - 1)]
  else if kind = 7 then (List.range (2 ^ o - 1)).map fun k : Nat => (n, -1, (k : Int) + 1)
  else []
def kindAt (p : LProc) (n : Nat) : Int := (p.1.getD n (⟨#[]⟩, 0)).2
def stepsN (p : LProc) (n : Nat) : List LStep := stepsK (kindAt p n) (n : Int) (insL p.2 (n : Int)) (outsL p.2 (n : Int)).length
def stepsP (p : LProc) (k : Nat) : List LStep := (List.range k).flatMap (stepsN p)
abbrev stepsL (p : LProc) : List LStep := stepsP p p.1.length
noncomputable def stepsE (p : LProc) : List LStep × Int := if chkPr p ≠ 0 then ([], chkPr p) else if (stepsL p).length > 60 then ([], 2) else (stepsL p, 0)
theorem stepsP_next {p : LProc} {k : Nat} : stepsP p (k + 1) = stepsP p k ++ stepsN p k := by
  unfold stepsP; rw [List.range_succ, List.flatMap_append]; simp
theorem pow_pos2 (o : Nat) : (1 : Int) ≤ 2 ^ o := by
  have := Nat.one_le_two_pow (n := o)
  exact_mod_cast this
theorem pow_le2 {o m : Nat} (h : o ≤ m) : (2 : Int) ^ o ≤ 2 ^ m := by
  have := Nat.pow_le_pow_right (n := 2) (by omega) h
  exact_mod_cast this
theorem pow_lt2 {o m : Nat} (h : o < m) : (2 : Int) ^ o < 2 ^ m := by
  have := Nat.pow_lt_pow_right (a := 2) (by omega) h
  exact_mod_cast this
section
variable {kind n : Int} {ins : List Int} {o : Nat}
theorem stepsK_node : ∀ s ∈ stepsK kind n ins o, s.1 = n := by
  intro s hs
  unfold stepsK at hs
  split at hs
  · obtain ⟨f, _, rfl⟩ := List.mem_map.1 hs; rfl
  split at hs
  · obtain ⟨f, _, hs⟩ := List.mem_flatMap.1 hs
    obtain ⟨k, _, rfl⟩ := List.mem_map.1 hs; rfl
  split at hs
  · rw [List.mem_singleton] at hs; subst hs; rfl
  split at hs
  · obtain ⟨k, _, rfl⟩ := List.mem_map.1 hs; rfl
  · cases hs
theorem stepsK_in : ∀ s ∈ stepsK kind n ins o, s.2.1 = -1 ∨ s.2.1 ∈ ins := by
  intro s hs
  unfold stepsK at hs
  split at hs
  · obtain ⟨f, h, rfl⟩ := List.mem_map.1 hs; exact .inr h
  split at hs
  · obtain ⟨f, h, hs⟩ := List.mem_flatMap.1 hs
    obtain ⟨k, _, rfl⟩ := List.mem_map.1 hs; exact .inr h
  split at hs
  · rw [List.mem_singleton] at hs; subst hs; exact .inl rfl
  split at hs
  · obtain ⟨k, _, rfl⟩ := List.mem_map.1 hs; exact .inl rfl
  · cases hs
theorem stepsK_out : ∀ s ∈ stepsK kind n ins o, 0 ≤ s.2.2 ∧ s.2.2 < 2 ^ o := by
  intro s hs
  have hp := pow_pos2 o
  unfold stepsK at hs
  split at hs
  · obtain ⟨f, h, rfl⟩ := List.mem_map.1 hs; dsimp only; omega
  split at hs
  · obtain ⟨f, h, hs⟩ := List.mem_flatMap.1 hs
    obtain ⟨k, hk, rfl⟩ := List.mem_map.1 hs
    have := pow_lt2 (List.mem_range.1 hk)
    have := pow_pos2 k
    dsimp only; omega
  split at hs
  · rw [List.mem_singleton] at hs; subst hs; dsimp only; omega
  split at hs
  · obtain ⟨k, hk, rfl⟩ := List.mem_map.1 hs
    have hk := List.mem_range.1 hk
    have : ((2 ^ o : Nat) : Int) = (2 : Int) ^ o := by push_cast; rfl
    dsimp only; omega
  · cases hs
theorem stepsK_nodup (h : ins.Nodup) : (stepsK kind n ins o).Nodup := by
  unfold stepsK
  split
  · rw [List.Nodup, List.pairwise_map]
    exact h.imp fun hab e => hab (by injection e with _ e; injection e)
  split
  · rw [List.Nodup, List.pairwise_flatMap]
    refine ⟨fun f _ => ?_, ?_⟩
    · rw [List.pairwise_map]
      refine List.nodup_range.imp fun {a b} hab e => hab ?_
      have e : (2 : Int) ^ a = 2 ^ b := by injection e with _ e; injection e
      rcases Nat.lt_trichotomy a b with h | h | h
      · have := pow_lt2 h; omega
      · exact h
      · have := pow_lt2 h; omega
    · refine h.imp fun {a b} hab x hx y hy e => hab ?_
      obtain ⟨k, _, rfl⟩ := List.mem_map.1 hx
      obtain ⟨j, _, rfl⟩ := List.mem_map.1 hy
      injection e with _ e; injection e
  split
  · simp
  split
  · rw [List.Nodup, List.pairwise_map]
    refine List.nodup_range.imp fun {a b} hab e => hab ?_
    have e : (a : Int) + 1 = b + 1 := by injection e with _ e; injection e
    omega
  · simp
theorem stepsK_len (h : ins.length ≤ 30) (ho : o ≤ 30) (h7 : kind = 7 → o ≤ 4) : (stepsK kind n ins o).length ≤ 900 := by
  unfold stepsK
  split
  · rw [List.length_map]; omega
  split
  · rw [List.length_flatMap]
    have : ∀ l : List Int, (l.map fun f : Int => ((List.range o).map fun k : Nat => ((n, f, (2 : Int) ^ k) : LStep)).length).sum = l.length * o := fun l => by
      induction l with
      | nil => simp
      | cons a l ih => rw [List.map_cons, List.sum_cons, ih, List.length_map, List.length_range, List.length_cons, Nat.add_mul]; omega
    rw [this]
    exact Nat.mul_le_mul h ho
  split
  · simp
  split
  · rename_i h7'
    have := h7 h7'
    rw [List.length_map, List.length_range]
    have : 2 ^ o ≤ 2 ^ 4 := Nat.pow_le_pow_right (by omega) this
    omega
  · simp
end
theorem insL_nodup {fl : List LFlow} {n : Int} : (insL fl n).Nodup := by
  unfold insL insP
  rw [List.Nodup, List.pairwise_map]
  exact (List.nodup_range.filter _).imp fun hab e => hab (by omega)
theorem okPr_outs {p : LProc} (h : OkPr p) {n : Nat} (hn : n < p.1.length) (hk : kindAt p n = 7) : (outsL p.2 (n : Int)).length ≤ 4 := by
  have := h.count n hn
  unfold kindAt at hk
  rw [hk] at this
  unfold countsB at this
  simp at this
  omega
theorem stepsP_len {p : LProc} (h : OkPr p) : ∀ k, k ≤ p.1.length → (stepsP p k).length ≤ 900 * k
  | 0, _ => by simp [stepsP]
  | k + 1, hk => by
    have ih := stepsP_len h k (by omega)
    rw [stepsP_next, List.length_append]
    have h1 : (insL p.2 (k : Int)).length ≤ p.2.length := insP_len
    have h2 : (outsL p.2 (k : Int)).length ≤ p.2.length := outsP_len
    have := h.f
    have := stepsK_len (kind := kindAt p k) (n := (k : Int)) (ins := insL p.2 (k : Int)) (o := (outsL p.2 (k : Int)).length) (by omega) (by omega) (fun h7 => okPr_outs h (by omega) h7)
    unfold stepsN
    omega
theorem stepsP_mem {p : LProc} {k : Nat} {s : LStep} : s ∈ stepsP p k ↔ ∃ n, n < k ∧ s ∈ stepsN p n := by
  unfold stepsP
  rw [List.mem_flatMap]
  exact exists_congr fun n => by rw [List.mem_range]
theorem stepsP_nodup {p : LProc} {k : Nat} : (stepsP p k).Nodup := by
  unfold stepsP
  rw [List.Nodup, List.pairwise_flatMap]
  refine ⟨fun n _ => stepsK_nodup insL_nodup, ?_⟩
  refine List.nodup_range.imp fun {a b} hab x hx y hy e => hab ?_
  have h1 := stepsK_node x hx
  have h2 := stepsK_node y hy
  rw [e] at h1
  omega
/-- each node but the start has a step -/
theorem stepsN_some {p : LProc} (h : OkPr p) {n : Nat} (hn : n < p.1.length) : (stepsN p n ≠ []) ↔ kindAt p n ≠ 1 := by
  have hc := h.count n hn
  have hnd := h.nodes n hn
  have hkk : 1 ≤ kindAt p n ∧ kindAt p n ≤ 7 := by
    unfold nodeE at hnd
    unfold kindAt
    split at hnd
    · cases hnd
    · rename_i hx
      rw [Bool.not_eq_true, Bool.or_eq_false_iff, Bool.or_eq_false_iff, decide_eq_false_iff_not, decide_eq_false_iff_not] at hx
      omega
  unfold stepsN
  unfold kindAt at hkk ⊢
  generalize (p.1.getD n (⟨#[]⟩, 0)).2 = k at *
  generalize insL p.2 (n : Int) = ins at *
  generalize (outsL p.2 (n : Int)).length = o at *
  have hne : ∀ (l : List LStep), l ≠ [] ↔ 0 < l.length := fun l => by cases l <;> simp
  rw [hne]
  unfold countsB at hc
  unfold stepsK
  rcases (show k = 1 ∨ k = 2 ∨ k = 3 ∨ k = 4 ∨ k = 5 ∨ k = 6 ∨ k = 7 by omega) with rfl | rfl | rfl | rfl | rfl | rfl | rfl
  · simp
  · simp at hc; simp; omega
  · simp at hc; simp; omega
  · simp at hc; simp; omega
  · simp at hc
    simp
    obtain ⟨h1, h2⟩ := hc
    obtain ⟨a, r, rfl⟩ := List.exists_cons_of_length_pos h1
    simp; omega
  · simp
  · simp at hc
    simp
    have : 2 ^ 1 ≤ 2 ^ o := Nat.pow_le_pow_right (by omega) (by omega)
    omega
end Go.Proofs.Ytadbkppgaekmpaa
/-
  Tokens: plain lists, no program in sight.
-/
set_option linter.unusedVariables false
set_option linter.unusedSimpArgs false
namespace Go.Proofs.Ytadbkppgaekmpaa

def beginL (p : LProc) : List Int := p.2.map fun f => if kindAt p f.1.toNat = 1 then 1 else 0
def tokB (n : Int) : Bool := decide (n < 0) || decide (n > 9)
noncomputable def chkM (p : LProc) (m : List Int) : Int := if (stepsE p).2 ≠ 0 then (stepsE p).2 else if m.length ≠ p.2.length ∨ m.any tokB = true then 1 else 0
def comeStep (fl : List LFlow) (n : Int) (s : List Bool × List Int) (i : Nat) : List Bool × List Int :=
  if (fl.getD i (0, 0)).2 = n ∧ s.1.getD i false = false then (s.1.set i true, s.2 ++ [(i : Int)]) else s
def comeGo (fl : List LFlow) (but : Int) : Nat → List Bool → List Int → List Bool
  | 0, out, _ => out
  | _ + 1, out, [] => out
  | f + 1, out, x :: r =>
    if (fl.getD x.toNat (0, 0)).1 = but then comeGo fl but f out r
    else comeGo fl but f ((List.range fl.length).foldl (comeStep fl (fl.getD x.toNat (0, 0)).1) (out, r)).1 ((List.range fl.length).foldl (comeStep fl (fl.getD x.toNat (0, 0)).1) (out, r)).2
def comeL (fl : List LFlow) (flow : Nat) (but : Int) : List Bool := comeGo fl but fl.length ((List.replicate fl.length false).set flow true) [(flow : Int)]
def falses (l : List Bool) : Nat := l.countP fun b => !b
theorem falses_set {l : List Bool} {k : Nat} (hk : k < l.length) (h : l.getD k false = false) : falses (l.set k true) + 1 = falses l := by
  unfold falses
  rw [List.getD_eq_getElem?_getD, List.getElem?_eq_getElem hk] at h
  have h : l[k] = false := h
  rw [List.countP_set hk, h]
  have : 0 < l.countP fun b => !b := List.countP_pos_iff.2 ⟨l[k], List.getElem_mem hk, by simp [h]⟩
  simp; omega
theorem falses_rep {n : Nat} : falses (List.replicate n false) = n := by simp [falses, List.countP_replicate]
theorem falses_le {l : List Bool} : falses l ≤ l.length := List.countP_le_length
structure ComeI (fl : List LFlow) (out : List Bool) (todo : List Int) : Prop where
  len : out.length = fl.length
  ok : ∀ x ∈ todo, 0 ≤ x ∧ x < fl.length
theorem comeStep_ok {fl : List LFlow} {n : Int} {out : List Bool} {todo : List Int} {i : Nat} (hi : i < fl.length) (h : ComeI fl out todo) :
    ComeI fl (comeStep fl n (out, todo) i).1 (comeStep fl n (out, todo) i).2 ∧ (comeStep fl n (out, todo) i).2.length + falses (comeStep fl n (out, todo) i).1 = todo.length + falses out := by
  unfold comeStep
  split
  · rename_i hc
    have := falses_set (l := out) (k := i) (by rw [h.len]; exact hi) hc.2
    refine ⟨⟨by simpa using h.len, fun x hx => ?_⟩, by simp only [List.length_append, List.length_cons, List.length_nil]; omega⟩
    rcases List.mem_append.1 hx with hx | hx
    · exact h.ok x hx
    · rw [List.mem_singleton] at hx; omega
  · exact ⟨h, rfl⟩
theorem comeGo_nil {fl : List LFlow} {but : Int} {f : Nat} {out : List Bool} : comeGo fl but f out [] = out := by cases f <;> rfl
theorem comeGo_len {fl : List LFlow} {but : Int} : ∀ (f : Nat) (out : List Bool) (todo : List Int), out.length = fl.length → (comeGo fl but f out todo).length = fl.length
  | 0, out, _, h => h
  | _ + 1, out, [], h => h
  | f + 1, out, x :: r, h => by
    unfold comeGo
    split
    · exact comeGo_len f _ _ h
    · refine comeGo_len f _ _ ?_
      have : ∀ (l : List Nat) (s : List Bool × List Int), s.1.length = fl.length → (l.foldl (comeStep fl (fl.getD x.toNat (0, 0)).1) s).1.length = fl.length := by
        intro l
        induction l with
        | nil => intro s h; exact h
        | cons a l ih =>
          intro s h
          refine ih _ ?_
          unfold comeStep
          split
          · simpa using h
          · exact h
      exact this _ _ h
theorem comeL_len {fl : List LFlow} {flow : Nat} {but : Int} : (comeL fl flow but).length = fl.length := comeGo_len _ _ _ (by simp)
def badIn (p : LProc) (m : List Int) (node f : Int) : Bool := (List.range p.2.length).any fun i => (comeL p.2 f.toNat node).getD i false && decide (m.getD i 0 > 0) && decide ((p.2.getD i (0, 0)).2 ≠ node)
def joinsP (p : LProc) (m : List Int) (node : Int) : Bool :=
  if (insL p.2 node).any (fun f => !decide (m.getD f.toNat 0 > 0) && badIn p m node f) = true then false else (insL p.2 node).any fun f => decide (m.getD f.toNat 0 > 0)
def enabledP (p : LProc) (m : List Int) (s : LStep) : Bool :=
  if 0 ≤ s.2.1 then decide (m.getD s.2.1.toNat 0 > 0) else if kindAt p s.1.toNat = 7 then joinsP p m s.1 else !(insL p.2 s.1).any fun f => m.getD f.toNat 0 == 0
/-- the numbers of the steps that are enabled -/
def canP (p : LProc) (m : List Int) (k : Nat) : List Int := ((List.range k).filter fun i => enabledP p m ((stepsL p).getD i (0, 0, 0))).map fun i : Nat => (i : Int)
abbrev canL (p : LProc) (m : List Int) : List Int := canP p m (stepsL p).length
theorem canP_next {p : LProc} {m : List Int} {k : Nat} : canP p m (k + 1) = canP p m k ++ (if enabledP p m ((stepsL p).getD k (0, 0, 0)) = true then [(k : Int)] else []) := by
  unfold canP
  rw [List.range_succ, List.filter_append, List.map_append]
  congr 1
  by_cases h : enabledP p m ((stepsL p).getD k (0, 0, 0)) = true
  · rw [if_pos h, List.filter_cons_of_pos (p := fun i => enabledP p m ((stepsL p).getD i (0, 0, 0))) h]; rfl
  · rw [if_neg h, List.filter_cons_of_neg (p := fun i => enabledP p m ((stepsL p).getD i (0, 0, 0))) h]; rfl
/-- what a step takes off flow f -/
def takes (m : List Int) (s : LStep) (f : Int) : Int := if s.2.1 = f ∨ s.2.1 < 0 ∧ m.getD f.toNat 0 > 0 then m.getD f.toNat 0 - 1 else m.getD f.toNat 0
def takeAll (s : LStep) : List Int → List Int → List Int
  | m, [] => m
  | m, f :: r => takeAll s (m.set f.toNat (takes m s f)) r
/-- bit k of n -/
def bitK (n : Int) (k : Nat) : Int := (n / 2 ^ k) % 2
def putAll (n : Int) : Nat → List Int → List Int → Option (List Int)
  | _, m, [] => some m
  | k, m, f :: r => if bitK n k = 1 then (if m.getD f.toNat 0 + 1 > 9 then none else putAll n (k + 1) (m.set f.toNat (m.getD f.toNat 0 + 1)) r) else putAll n (k + 1) m r
def fireP (p : LProc) (m : List Int) (s : LStep) : Option (List Int) :=
  if kindAt p s.1.toNat = 3 then some (m.map fun _ => 0) else putAll s.2.2 0 (takeAll s m (insL p.2 s.1)) (outsL p.2 s.1)
noncomputable def fireE (p : LProc) (m : List Int) (k : Int) : List Int × Int :=
  if chkM p m ≠ 0 then ([], chkM p m) else if k < 0 ∨ k ≥ (stepsL p).length then ([], 1)
  else if enabledP p m ((stepsL p).getD k.toNat (0, 0, 0)) = false then ([], 9)
  else ((fireP p m ((stepsL p).getD k.toNat (0, 0, 0))).getD [], if (fireP p m ((stepsL p).getD k.toNat (0, 0, 0))).isSome then 0 else 7)
noncomputable def canE (p : LProc) (m : List Int) : List Int := if chkM p m = 0 then canL p m else []
def pickD (d : Int) (can : List Int) : Int := can.getD (d % can.length).toNat 0
/-- markings along steps that are chosen by dice -/
noncomputable def walkGo (p : LProc) : List Int → List Int → List (List Int) × List Int
  | [], _ => ([], [])
  | d :: r, m =>
    if canE p m = [] then ([], [])
    else if (fireE p m (pickD d (canE p m))).2 ≠ 0 then ([], [])
    else ((fireE p m (pickD d (canE p m))).1 :: (walkGo p r (fireE p m (pickD d (canE p m))).1).1, pickD d (canE p m) :: (walkGo p r (fireE p m (pickD d (canE p m))).1).2)
noncomputable def walkedP (p : LProc) (dice : List Int) : List (List Int) × List Int :=
  if (stepsE p).2 ≠ 0 then ([], []) else (beginL p :: (walkGo p dice (beginL p)).1, (walkGo p dice (beginL p)).2)
end Go.Proofs.Ytadbkppgaekmpaa
/-
  All markings: plain lists, no program in sight.
-/
set_option linter.unusedVariables false
set_option linter.unusedSimpArgs false
namespace Go.Proofs.Ytadbkppgaekmpaa

abbrev LEdge := Int × Int
/-- markings; whence they came; the last step that was tried -/
abbrev Sr := List (List Int) × List (Int × Int) × (Int × Int)
def tooMany (tok : Int) (m : List Int) : Bool := m.any fun n => decide (n > tok)
def posOf (m : List Int) : List (List Int) → Nat
  | [] => 0
  | x :: r => if x = m then 0 else posOf m r + 1
/-- a marking's number, or an error -/
def putE (tok st : Int) (s : Sr) (m : List Int) (fr : Int × Int) : Sr × Int × Int :=
  if tooMany tok m = true then ((s.1, s.2.1, fr), 0, 7)
  else if m ∈ s.1 then ((s.1, s.2.1, fr), (posOf m s.1 : Int), 0)
  else if (s.1.length : Int) = st then ((s.1, s.2.1, fr), 0, 8)
  else ((s.1 ++ [m], s.2.1 ++ [fr], fr), (s.1.length : Int), 0)
noncomputable def edgesGo (p : LProc) (tok st n : Int) (m : List Int) : List Int → Sr → List LEdge → Sr × List LEdge × Int
  | [], s, out => (s, out, 0)
  | k :: r, s, out =>
    if (fireE p m k).2 ≠ 0 then ((s.1, s.2.1, (n, k)), [], (fireE p m k).2)
    else if (putE tok st s (fireE p m k).1 (n, k)).2.2 ≠ 0 then ((putE tok st s (fireE p m k).1 (n, k)).1, [], (putE tok st s (fireE p m k).1 (n, k)).2.2)
    else edgesGo p tok st n m r (putE tok st s (fireE p m k).1 (n, k)).1 (out ++ [(k, (putE tok st s (fireE p m k).1 (n, k)).2.1)])
noncomputable def edgesE (p : LProc) (tok st : Int) (n : Nat) (s : Sr) : Sr × List LEdge × Int := edgesGo p tok st (n : Int) (s.1.getD n []) (canE p (s.1.getD n [])) s []
noncomputable def runGo (p : LProc) (tok st : Int) : Nat → Nat → Sr → List (List LEdge) → Sr × List (List LEdge) × Int
  | 0, n, s, nx => (s, nx, 0)
  | f + 1, n, s, nx =>
    if n < s.1.length then
      (if (edgesE p tok st n s).2.2 ≠ 0 then ((edgesE p tok st n s).1, nx, (edgesE p tok st n s).2.2) else runGo p tok st f (n + 1) (edgesE p tok st n s).1 (nx ++ [(edgesE p tok st n s).2.1]))
    else (s, nx, 0)
def runArg (tok st : Int) : Int := if tok < 1 ∨ tok > 9 ∨ st < 1 ∨ st > 200 then 1 else 0
noncomputable def runB (p : LProc) (tok st : Int) : Sr × List (List LEdge) × Int :=
  if (putE tok st ([], [], (0, 0)) (beginL p) (-1, -1)).2.2 ≠ 0 then ((putE tok st ([], [], (0, 0)) (beginL p) (-1, -1)).1, [], (putE tok st ([], [], (0, 0)) (beginL p) (-1, -1)).2.2)
  else runGo p tok st 201 0 (putE tok st ([], [], (0, 0)) (beginL p) (-1, -1)).1 []
/-- an error ahead of the search, 0: none -/
noncomputable def runPre (p : LProc) (tok st : Int) : Int := if (stepsE p).2 ≠ 0 then (stepsE p).2 else runArg tok st
noncomputable def exploreE (p : LProc) (tok st : Int) : (List (List Int) × List (List LEdge)) × Int :=
  if runPre p tok st ≠ 0 then (([], []), runPre p tok st)
  else if (runB p tok st).2.2 ≠ 0 then (([], []), (runB p tok st).2.2) else (((runB p tok st).1.1, (runB p tok st).2.1), 0)

/- KEYS -/
def keyX (m : List Int) : List Int := (List.range 30).map fun i => m.getD i 0
theorem keyX_len (m : List Int) : (keyX m).length = 30 := by simp [keyX]
theorem keyX_inj {a b : List Int} (ha : a.length ≤ 30) (h : a.length = b.length) (he : keyX a = keyX b) : a = b := by
  refine List.ext_getElem h fun i h1 h2 => ?_
  have hi : i < 30 := by omega
  have h3 : (keyX a)[i]'(by rw [keyX_len]; exact hi) = (keyX b)[i]'(by rw [keyX_len]; exact hi) := by simp only [he]
  simp only [keyX, List.getElem_map, List.getElem_range, List.getD_eq_getElem?_getD, List.getElem?_eq_getElem h1, List.getElem?_eq_getElem h2, Option.getD_some] at h3
  exact h3
theorem posOf_at {m : List Int} : ∀ {l : List (List Int)} {j : Nat} (hj : j < l.length), l.Nodup → l[j] = m → posOf m l = j
  | x :: r, 0, _, _, h => by
    unfold posOf
    rw [if_pos (by simpa using h)]
  | x :: r, j + 1, hj, hd, h => by
    rw [List.nodup_cons] at hd
    unfold posOf
    have hmem : m ∈ r := by
      rw [← h, List.getElem_cons_succ]
      exact List.getElem_mem _
    rw [if_neg (fun e => hd.1 (by rw [e]; exact hmem)), posOf_at (j := j) (by simpa using hj) hd.2 (by simpa using h)]
end Go.Proofs.Ytadbkppgaekmpaa
/-
  x >> s of a signed number. Over any program.
-/
set_option linter.unusedVariables false
set_option linter.unusedSimpArgs false
namespace Go.Proofs.Ytadbkppgaekmpaa
open Go.RowKit

theorem run_shrZ (P : Program) (w : World) (a : Int) (s : Nat) (hs : s ≤ 62) (t : TypeId) : (binOp .shr t (.int .i64 a) (.int .i64 (s : Int))).run P w = .ok (.int .i64 (a / 2 ^ s)) w := by
  rw [binOp_shr, shift_shr_i64 (h₀ := by omega) (h₁ := by omega), Int.toNat_natCast]; rfl
section
variable {P : Program} {Q : Exit → Act → World → Prop} {n : Nat} {σ : Sg} {w : World} {L rest : List Oper} {d : Nat} {ty : TypeId} {pos : String} {af : Array Edge} {g : Option (Nat × Bool)} {t yt : TypeId} {x y : Operand}
theorem WL.shrZ {a : Int} {s : Nat} (hg : gd L σ ⟨some d, .binOp .shr t x y yt, ty, pos, af, g⟩ = some true) (hd : Nat.ble (d + 1) n = true) (hx : ev σ x = some (.int .i64 a)) (hy : ev σ y = some (.int .i64 (s : Int))) (hs : s ≤ 62)
    (h : WL P L Q rest n ((d, .int .i64 (a / 2 ^ s)) :: σ) w) : WL P L Q (⟨some d, .binOp .shr t x y yt, ty, pos, af, g⟩ :: rest) n σ w := by
  refine WL.run hg hd (fun a0 ha0 => ?_) h
  have := run_shrZ P w a s hs t
  simp [execOp, ha0.ev hx, ha0.ev hy, eqG (op := .shr) rfl, this]
end
end Go.Proofs.Ytadbkppgaekmpaa
/-
  slices.Index and slices.Contains at []bool.
-/
set_option linter.unusedVariables false
namespace Go.Proofs.Ytadbkppgaekmpaa
open Go.RowKit
theorem index_bool (w0 : World) {ao : Option Addr} {cap : Nat} {xs : List Bool} (x : Bool) (hs : Sl w0 (Old w0) ao cap xs) :
    Rt Try.prog 128 [.slice ao xs.length cap, .bool x].toArray w0 fun v w' => v = .int .i64 (idxOf (fun y => x == y) xs) ∧ Ext w0 w' := by
  have hm := hs.len63
  refine Rt.enter2 Try.func128 Try.ntmps128 rfl rfl ?_
  (repeat (first | (apply WL.pure; rfl; rfl; rfl) | (apply WL.nil) | (apply EX.thenN) | (apply CW.seq) | (apply CW.region) | (apply WL.lenS; rfl; rfl; rfl) | (apply CW.block)))
  refine CW.loop (S := Nat) (fun k => [(0, .slice ao xs.length cap), (1, .bool x), (7, .int .i64 xs.length), (8, .int .i64 k)])
    (fun k w => k ≤ xs.length ∧ Ext w0 w ∧ ∀ j (h : j < xs.length), j < k → (x == xs[j]) = false) (fun k => xs.length - k) 0 (by repeat (first | exact trivial | refine ⟨rfl, ?_⟩)) ⟨by omega, Ext.refl _, by omega⟩ ?_
  rintro k w ⟨hk, hB, hn⟩
  (repeat (first | (apply WL.pure; rfl; rfl; rfl) | (apply WL.nil) | (apply EX.thenN) | (apply CW.seq) | (apply CW.region)))
  refine CW.cond rfl (fun h => ?_) (fun h => ?_)
  · simp at h
    (repeat (first | (apply WL.pure; rfl; rfl; rfl) | (apply WL.nil) | (apply EX.thenN) | (apply CW.seq) | (apply CW.region) | (apply CW.block) | (apply CW.skip)))
    refine WL.elemB rfl rfl rfl rfl rfl (hs.at hB) h rfl (fun _ => rfl) (fun q => ?_)
    (repeat (first | (apply WL.nil) | (apply EX.thenN) | (apply WL.eqB; rfl; rfl; rfl; rfl)))
    refine CW.cond rfl (fun h' => ?_) (fun h' => ?_)
    · (repeat (first | (apply WL.pure; rfl; rfl; rfl) | (apply WL.nil) | (apply EX.thenN) | (apply CW.seq) | (apply CW.region) | (apply CW.ret) | (apply EX.thenR) | (apply EX.inR)))
      refine EX.ret1 rfl rfl ⟨?_, hB⟩
      rw [idxOf_here h hn h']
    · (repeat (first | (apply WL.add; rfl; rfl; rfl; rfl; omega; omega) | (apply WL.pure; rfl; rfl; rfl) | (apply WL.nil) | (apply EX.thenN) | (apply CW.region) | (apply EX.inN) | (apply CW.skip)))
      refine EX.back (k + 1) (by repeat (first | exact trivial | refine ⟨rfl, ?_⟩)) ⟨h, hB, ?_⟩ (by omega)
      intro j hj hlt
      by_cases e : j = k
      · subst e; exact h'
      · exact hn j hj (by omega)
  · simp at h
    (repeat (first | (apply WL.pure; rfl; rfl; rfl) | (apply WL.nil) | (apply EX.thenN) | (apply CW.seq) | (apply CW.region) | (apply CW.exit) | (apply EX.thenX) | (apply EX.inX) | (apply CW.ret)))
    refine EX.ret1 rfl rfl ⟨?_, hB⟩
    rw [idxOf_none (fun j hj => hn j hj (by omega))]
theorem contains_bool (w0 : World) {ao : Option Addr} {cap : Nat} {xs : List Bool} (x : Bool) (hs : Sl w0 (Old w0) ao cap xs) :
    Rt Try.prog 64 [.slice ao xs.length cap, .bool x].toArray w0 fun v w' => v = .bool (xs.contains x) ∧ Ext w0 w' := by
  refine Rt.enter2 Try.func64 Try.ntmps64 rfl rfl ?_
  (repeat (first | (apply WL.pure; rfl; rfl; rfl) | (apply WL.nil) | (apply EX.thenN) | (apply CW.seq) | (apply CW.region)))
  refine WL.call rfl rfl rfl (index_bool w0 x hs) ?_
  rintro v w' ⟨rfl, hB⟩
  (repeat (first | (apply WL.pure; rfl; rfl; rfl) | (apply WL.nil) | (apply EX.thenN) | (apply CW.ret)))
  refine EX.ret1 rfl rfl ⟨?_, hB⟩
  rw [← List.any_beq, ← idxOf_any]
end Go.Proofs.Ytadbkppgaekmpaa
/-
  Package proc: nodes, Check, Ins, Outs: walked.
-/
set_option linter.unusedVariables false
set_option linter.unusedSimpArgs false
namespace Go.Proofs.Ytadbkppgaekmpaa
open Go.RowKit

theorem nodes1 (w : World) (m : LNode) (b : Nat) {x : LNode} (hb : Blk w b 59 [.string x.1, .int .i64 x.2]) :
    Rt Try.prog 187 [.agg [.string m.1, .int .i64 m.2].toArray, .pointer (some ⟨b, 0, none⟩)].toArray w fun v w' => v = .bool (nameEq m.1 x.1) ∧ Ext w w' := by
  refine Rt.enter2 Try.func187 Try.ntmps187 rfl rfl ?_
  (repeat (first | (apply CW.seq) | (apply CW.region)))
  refine WL.boxB rfl rfl rfl fun w1 hb1 e1 => ?_
  have hb := hb.ext e1
  (repeat (first | (apply WL.pure; rfl; rfl; rfl) | (apply WL.nil) | (apply EX.thenN) | (apply CW.seq) | (apply CW.region) | (apply WL.fa; rfl; rfl; rfl) | (apply WL.ld; rfl; rfl; rfl; assumption; rfl) | (apply CW.ret)))
  exact EX.ret1 rfl rfl ⟨rfl, e1⟩
theorem nodes_ok (w0 : World) {so fo : Option Addr} {sc fc k : Nat} {ns : List LNode} (hs : Sl w0 (Old w0) so sc ns) :
    Rt Try.prog 145 [procV so sc fo fc ns.length k].toArray w0 fun v w' => v = .int .i64 (nodesE ns) ∧ Ext w0 w' := by
  have hm := hs.len63
  have hle := hs.le
  refine Rt.enter1 Try.func145 Try.ntmps145 rfl rfl ?_
  (repeat (first | (apply CW.seq) | (apply CW.region)))
  refine WL.boxB rfl rfl rfl fun w1 hb1 e1 => ?_
  have hl1 := hb1.lt
  (repeat (first | (apply WL.pure; rfl; rfl; rfl) | (apply WL.nil) | (apply EX.thenN) | (apply CW.seq) | (apply CW.region) | (apply WL.lenS; rfl; rfl; rfl) | (apply WL.fa; rfl; rfl; rfl) | (apply WL.ld; rfl; rfl; rfl; assumption; rfl) | (apply CW.block)))
  refine CW.loop (S := Nat) (fun i => [(1, .pointer (some ⟨w0.heap.size, 0, none⟩)), (6, .slice so ns.length sc), (7, .int .i64 ns.length), (8, .int .i64 i)])
    (fun i w => i ≤ ns.length ∧ Ext w1 w ∧ ∀ j, j < i → nodeE ns j = 0) (fun i => ns.length - i) 0 (by repeat (first | exact trivial | refine ⟨rfl, ?_⟩)) ⟨by omega, Ext.refl _, by omega⟩ ?_
  rintro i w ⟨hi, e, hno⟩
  have hE := e1.trans e
  have hb1 := hb1.ext e
  (repeat (first | (apply WL.pure; rfl; rfl; rfl) | (apply WL.nil) | (apply EX.thenN) | (apply CW.seq) | (apply CW.region)))
  refine CW.cond rfl (fun h => ?_) (fun h => ?_)
  · have hi' : i < ns.length := by simp at h; omega
    have hnd := getDNd_at hi'
    (repeat (first | (apply WL.pure; rfl; rfl; rfl) | (apply EX.thenN) | (apply CW.seq) | (apply CW.region) | (apply CW.block) | (apply CW.skip)))
    refine WL.elemN rfl rfl rfl rfl rfl (hs.at hE) hi' (fun _ => rfl) (fun u q hu => ?_)
    obtain rfl := hu.node
    skip
    refine WL.alloc rfl rfl (fun w2 hb4 e2 => ?_)
    have hl4 := hb4.lt
    (repeat (apply WL.pure; rfl; rfl; rfl))
    refine WL.st rfl rfl rfl hb4 rfl rfl (ones_of rfl) (fun w3 hb4 hg3 => ?_)
    have e3 : Ext w w3 := e2.grown hg3 e2.size (fun g hg => by cases hg; exact Nat.le_refl _)
    have hb1 := hb1.ext e3
    have hE := hE.trans e3
    (repeat (first | (apply WL.nil) | (apply EX.thenN) | (apply CW.seq) | (apply CW.region) | (apply WL.fa; rfl; rfl; rfl) | (apply WL.ld; rfl; rfl; rfl; assumption; rfl)))
    refine WL.call rfl rfl rfl (Named_ok w3 ns[i].1) ?_
    rintro _ w4 ⟨rfl, e4⟩
    have hb1 := hb1.ext e4
    have hb4 := hb4.ext e4
    have hE := hE.trans e4
    have e34 := e3.trans e4
    have hbad : (!namedB ns[i].1 || decide (ns[i].2 < 1) || decide (ns[i].2 > 7)) = true → nodesE ns = 1 := fun hb => by
      have : nodeE ns i = 1 := by unfold nodeE; rw [hnd, if_pos hb]
      rw [nodesE_first hi' hno (by rw [this]; decide), this]
    (repeat (apply WL.pure; rfl; rfl; rfl))
    by_cases c1 : namedB ns[i].1 = true
    · rw [c1] at hbad ⊢
      (repeat (first | (apply WL.pure; rfl; rfl; rfl) | (apply WL.fa; rfl; rfl; rfl) | (apply WL.ld; rfl; rfl; rfl; assumption; rfl)))
      by_cases c2 : decide (ns[i].2 < 1) = true
      · rw [c2]
        (repeat (first | (apply WL.pure; rfl; rfl; rfl) | (apply WL.nil) | (apply EX.thenN) | (apply CW.seq) | (apply CW.region) | (apply WL.pass; rfl; rfl) | (apply CW.condT; rfl) | (apply CW.ret) | (apply EX.thenR) | (apply EX.inR)))
        refine EX.ret1 rfl rfl ⟨?_, hE⟩
        rw [hbad (by rw [c2]; rfl)]
      have c2 : decide (ns[i].2 < 1) = false := by simpa using c2
      rw [c2]
      (repeat (first | (apply WL.pure; rfl; rfl; rfl) | (apply WL.nil) | (apply EX.thenN) | (apply WL.fa; rfl; rfl; rfl) | (apply WL.ld; rfl; rfl; rfl; assumption; rfl)))
      by_cases c3 : decide (ns[i].2 > 7) = true
      · rw [c3]
        (repeat (first | (apply WL.pure; rfl; rfl; rfl) | (apply WL.nil) | (apply EX.thenN) | (apply CW.seq) | (apply CW.region) | (apply CW.condT; rfl) | (apply CW.ret) | (apply EX.thenR) | (apply EX.inR)))
        refine EX.ret1 rfl rfl ⟨?_, hE⟩
        rw [hbad (by rw [c2, c3]; rfl)]
      have c3 : decide (ns[i].2 > 7) = false := by simpa using c3
      rw [c3]
      (repeat (first | (apply WL.pure; rfl; rfl; rfl) | (apply EX.thenN) | (apply CW.seq) | (apply CW.region) | (apply WL.fa; rfl; rfl; rfl) | (apply WL.ld; rfl; rfl; rfl; assumption; rfl) | (apply CW.condF; rfl) | (apply CW.skip)))
      refine WL.cutHi (α := LNode) i rfl rfl rfl rfl rfl (by omega) ?_
      (repeat (apply WL.makeFunc; rfl; rfl; rfl; rfl))
      have hcut := (hs.up hE).take (k := i) (by omega)
      have htl : (ns.take i).length = i := by rw [List.length_take]; omega
      have hcf := containsFunc_node w4 (fv := .func (.func 187) [].toArray [.pointer (some ⟨w.heap.size, 0, none⟩)].toArray) (fun m => nameEq m.1 ns[i].1) hcut (fun w5 hw j hj u hu => by
        obtain rfl := hu.node
        exact FnV.mk (cs := [_]) (nodes1 w5 _ _ (hb4.ext hw)))
      rw [htl] at hcf
      refine WL.call rfl rfl rfl hcf ?_
      rintro _ w5 ⟨rfl, e5⟩
      have hb1 := hb1.ext e5
      (repeat (first | (apply WL.nil) | (apply EX.thenN)))
      refine CW.cond rfl (fun h2 => ?_) (fun h2 => ?_)
      · (repeat (first | (apply WL.pure; rfl; rfl; rfl) | (apply WL.nil) | (apply EX.thenN) | (apply CW.seq) | (apply CW.region) | (apply CW.ret) | (apply EX.thenR) | (apply EX.inR)))
        refine EX.ret1 rfl rfl ⟨?_, hE.trans e5⟩
        have : nodeE ns i = 4 := by unfold nodeE; rw [hnd, if_neg (by rw [show namedB ns[i].1 = true from c1, c2, c3]; simp), if_pos h2]
        rw [nodesE_first hi' hno (by rw [this]; decide), this]
      · (repeat (first | (apply WL.add; rfl; rfl; rfl; rfl; omega; omega) | (apply WL.pure; rfl; rfl; rfl) | (apply WL.nil) | (apply EX.thenN) | (apply CW.region) | (apply EX.inN) | (apply CW.skip)))
        refine EX.back (i + 1) (by repeat (first | exact trivial | refine ⟨rfl, ?_⟩)) ⟨hi', (e.trans e34).trans e5, fun j hj => ?_⟩ (by omega)
        by_cases ej : j = i
        · subst ej
          unfold nodeE; rw [hnd, if_neg (by rw [show namedB ns[j].1 = true from c1, c2, c3]; simp), if_neg (by rw [h2]; simp)]
        · exact hno j (by omega)
    · have c1 : namedB ns[i].1 = false := by simpa using c1
      rw [c1] at hbad ⊢
      (repeat (first | (apply WL.pure; rfl; rfl; rfl) | (apply WL.nil) | (apply EX.thenN) | (apply CW.seq) | (apply CW.region) | (apply WL.pass; rfl; rfl) | (apply CW.condT; rfl) | (apply CW.ret) | (apply EX.thenR) | (apply EX.inR)))
      refine EX.ret1 rfl rfl ⟨?_, hE⟩
      rw [hbad rfl]
  · obtain rfl : i = ns.length := by simp at h; omega
    (repeat (first | (apply WL.pure; rfl; rfl; rfl) | (apply WL.nil) | (apply EX.thenN) | (apply CW.seq) | (apply CW.region) | (apply CW.exit) | (apply EX.thenX) | (apply EX.inX) | (apply CW.ret)))
    refine EX.ret1 rfl rfl ⟨?_, hE⟩
    rw [nodesE_zero hno]

/- THE GRAPH OF THE FLOWS -/
def flowsP (n : Nat) (fl : List LFlow) (i : Nat) : Graph := flowsG n (fl.take i)
theorem flowsP_len {n : Nat} {fl : List LFlow} {i : Nat} : (flowsP n fl i).length = n := by simp [flowsP, flowsG]
theorem flowsP_zero {n : Nat} {fl : List LFlow} : flowsP n fl 0 = List.replicate n [] := by
  refine List.ext_getElem (by simp [flowsP, flowsG]) fun k h1 h2 => ?_
  simp [flowsP, flowsG]
theorem flowsP_get {n : Nat} {fl : List LFlow} {i k : Nat} (h : k < n) : (flowsP n fl i)[k]'(by rw [flowsP_len]; exact h) = ((fl.take i).filter fun f => f.1 == (k : Int)).map (·.2) := by simp [flowsP, flowsG]
theorem flowsP_next {n : Nat} {fl : List LFlow} {i a : Nat} {b : Int} (hi : i < fl.length) (hf : fl[i] = ((a : Int), b)) (ha : a < n) :
    (flowsP n fl i).set a ((((fl.take i).filter fun f => f.1 == (a : Int)).map (·.2)) ++ [b]) = flowsP n fl (i + 1) := by
  refine List.ext_getElem (by simp [flowsP_len]) fun k h1 h2 => ?_
  have hk : k < n := by rw [flowsP_len] at h2; exact h2
  rw [List.getElem_set, flowsP_get hk, flowsP_get hk, ← List.take_append_getElem hi, hf, List.filter_append, List.map_append]
  by_cases e : a = k
  · subst e; rw [if_pos rfl]; simp
  · rw [if_neg e]
    have : ((a : Int) == (k : Int)) = false := by simpa using fun h : (a : Int) = k => e (by omega)
    simp [List.filter_cons, this]
theorem flowsG_ok {n : Nat} {fl : List LFlow} (h : ∀ f ∈ fl, 0 ≤ f.2 ∧ f.2 < n) : okG (flowsG n fl) := by
  intro r hr x hx
  rw [show (flowsG n fl).length = n by simp [flowsG]]
  obtain ⟨k, _, rfl⟩ := List.mem_map.1 hr
  obtain ⟨f, hf, rfl⟩ := List.mem_map.1 hx
  exact h f (List.mem_filter.1 hf).1
theorem flowsG_edges {n : Nat} {fl : List LFlow} : edges (flowsG n fl) ≤ n * fl.length := by
  unfold edges flowsG
  rw [List.map_map]
  have : ∀ m : List Nat, (m.map (List.length ∘ fun k : Nat => (fl.filter fun f => f.1 == (k : Int)).map (·.2))).sum ≤ m.length * fl.length := fun m => by
    induction m with
    | nil => simp
    | cons a m ih =>
      simp only [List.map_cons, List.sum_cons, List.length_cons, Nat.add_mul, Nat.one_mul]
      have : (List.length ∘ fun k : Nat => (fl.filter fun f => f.1 == (k : Int)).map (·.2)) a ≤ fl.length := by
        show ((fl.filter fun f => f.1 == (a : Int)).map (·.2)).length ≤ _
        rw [List.length_map]; exact List.length_filter_le _ _
      omega
  have := this (List.range n)
  rwa [List.length_range] at this
theorem startsL_next {ns : List LNode} {k : Nat} : startsL ns (k + 1) = startsL ns k ++ if ((ns.getD k (⟨#[]⟩, 0)).2 == 1) = true then [k] else [] := by
  unfold startsL
  rw [List.range_succ, List.filter_append]
  congr 1
  by_cases e : ((ns.getD k (⟨#[]⟩, 0)).2 == 1) = true
  · rw [if_pos e]; simp only [List.filter_cons, e, List.filter_nil]; rfl
  · rw [if_neg e]; simp only [List.filter_cons, e, List.filter_nil]; rfl
def lastI (l : List Nat) : Int := (l.getLast?.map fun n : Nat => (n : Int)).getD (-1)
theorem startsL_len {ns : List LNode} {k : Nat} : (startsL ns k).length ≤ k := by
  unfold startsL; exact Nat.le_trans (List.length_filter_le _ _) (by simp)
theorem chkR_eq {ns : List LNode} {fl : List LFlow} {s : Nat} (h : startsL ns ns.length = [s]) : chkR (ns, fl) = if (rchB (flowsG ns.length fl) [(s : Int)]).contains false = true then 6 else 0 := by
  have hgl : (flowsG ns.length fl).length = ns.length := by simp [flowsG]
  have hiff : (∃ n, n < ns.length ∧ ¬ Rch (flowsG ns.length fl) (((startsL ns ns.length).getLast?.map fun n : Nat => (n : Int)).toList) n) ↔ (rchB (flowsG ns.length fl) [(s : Int)]).contains false = true := by
    rw [h, List.contains_iff_mem, List.mem_iff_getElem]
    show (∃ n, n < ns.length ∧ ¬ Rch (flowsG ns.length fl) [(s : Int)] n) ↔ _
    constructor
    · rintro ⟨n, hn, hr⟩
      have hn' : n < (rchB (flowsG ns.length fl) [(s : Int)]).length := by rw [rchB_len, hgl]; exact hn
      refine ⟨n, hn', ?_⟩
      rw [← Bool.not_eq_true, rchB_iff hn']; exact hr
    · rintro ⟨n, hn, he⟩
      have hn' : n < ns.length := by rw [rchB_len, hgl] at hn; exact hn
      exact ⟨n, hn', fun hr => by rw [(rchB_iff hn).2 hr] at he; cases he⟩
  unfold chkR
  by_cases hc : (rchB (flowsG ns.length fl) [(s : Int)]).contains false = true
  · rw [if_pos hc]; exact if_pos (hiff.2 hc)
  · rw [if_neg hc]; exact if_neg (fun h => hc (hiff.1 h))
theorem Check_pr (w0 : World) {so fo : Option Addr} {sc fc : Nat} {ns : List LNode} {fl : List LFlow} (hs : Sl w0 (Old w0) so sc ns) (hf : Sl w0 (Old w0) fo fc fl) :
    Rt Try.prog 100 [procV so sc fo fc ns.length fl.length].toArray w0 fun v w' => v = .int .i64 (chkPr (ns, fl)) ∧ Ext w0 w' := by
  have hms := hs.len63
  have hmf := hf.len63
  refine Rt.enter1 Try.func100 Try.ntmps100 rfl rfl ?_
  have hE := Ext.refl w0
  (repeat (first | (apply CW.seq) | (apply CW.region)))
  refine WL.boxB rfl rfl rfl fun w1 hb1 e1 => ?_
  have hE := hE.trans e1
  unfold chkPr
  dsimp only
  (repeat (first | (apply WL.pure; rfl; rfl; rfl) | (apply WL.nil) | (apply EX.thenN) | (apply CW.seq) | (apply CW.region) | (apply WL.lenS; rfl; rfl; rfl) | (apply WL.fa; rfl; rfl; rfl) | (apply WL.ld; rfl; rfl; rfl; assumption; rfl)))
  (refine WL.lookG rfl rfl (fun h => ?_) (fun h => ?_))
  · (repeat (first | (apply WL.pure; rfl; rfl; rfl) | (apply WL.nil) | (apply EX.thenN) | (apply CW.seq) | (apply CW.region) | (apply WL.pass; rfl; rfl) | (apply CW.condT; rfl) | (apply CW.ret) | (apply EX.thenR)))
    refine EX.ret1 rfl rfl ⟨?_, hE⟩
    rw [if_pos (.inl (by simp at h; omega))]
  have c1 : ns.length ≤ 20 := by simp at h; omega
  clear h
  (repeat (first | (apply WL.pure; rfl; rfl; rfl) | (apply WL.nil) | (apply EX.thenN) | (apply WL.lenS; rfl; rfl; rfl) | (apply WL.fa; rfl; rfl; rfl) | (apply WL.ld; rfl; rfl; rfl; assumption; rfl)))
  refine CW.cond rfl (fun h => ?_) (fun h => ?_)
  · (repeat (first | (apply WL.pure; rfl; rfl; rfl) | (apply WL.nil) | (apply EX.thenN) | (apply CW.seq) | (apply CW.region) | (apply CW.ret) | (apply EX.thenR)))
    refine EX.ret1 rfl rfl ⟨?_, hE⟩
    rw [if_pos (.inr (by simp at h; omega))]
  have c2 : fl.length ≤ 30 := by simp at h; omega
  clear h
  rw [if_neg (by omega)]
  (repeat (first | (apply EX.thenN) | (apply CW.seq) | (apply CW.region) | (apply WL.ldA; rfl; rfl; rfl; assumption; rfl) | (apply CW.skip)))
  refine WL.call rfl rfl rfl (nodes_ok w1 (hs.up hE)) ?_
  rintro _ w2 ⟨rfl, e2⟩
  have hb1 := hb1.ext e2
  have hE := hE.trans e2
  (repeat (first | (apply WL.pure; rfl; rfl; rfl) | (apply WL.nil) | (apply EX.thenN) | (apply CW.seq) | (apply CW.region)))
  refine CW.cond rfl (fun h => ?_) (fun h => ?_)
  · have h : nodesE ns ≠ 0 := by simpa using h
    (repeat (first | (apply WL.pure; rfl; rfl; rfl) | (apply WL.nil) | (apply EX.thenN) | (apply CW.seq) | (apply CW.region) | (apply CW.ret) | (apply EX.thenR)))
    refine EX.ret1 rfl rfl ⟨?_, hE⟩
    rw [if_pos h]
  have h : nodesE ns = 0 := by simpa using h
  rw [if_neg (by simp [h])]
  clear h e1 e2
  have z2 := hE.size
  (repeat (first | (apply EX.thenN) | (apply CW.seq) | (apply CW.region) | (apply WL.lenS; rfl; rfl; rfl) | (apply WL.fa; rfl; rfl; rfl) | (apply WL.ld; rfl; rfl; rfl; assumption; rfl) | (apply CW.skip)))
  refine WL.make (α := Raw) rfl rfl rfl rfl (by omega) (by unfold maxLen; omega) (fun w3 ho3 hg3 => ?_)
  have e3 : Ext w2 w3 := (Below.refl _ _).grown hg3 (Nat.le_refl _) (fun k h => by cases h)
  have hN3 : OwnN w3 w2.heap.size 22 3 (.slice (some ⟨w2.heap.size, 0, none⟩) ns.length ns.length) _ (List.replicate ns.length ([] : List Int)) := OwnN.made ho3
  rw [← flowsP_zero (fl := fl)] at hN3
  have hb13 := hb1.ext e3
  clear ho3 hg3
  (repeat (first | (apply WL.pure; rfl; rfl; rfl) | (apply WL.nil) | (apply EX.thenN) | (apply CW.seq) | (apply CW.region) | (apply WL.lenS; rfl; rfl; rfl) | (apply WL.fa; rfl; rfl; rfl) | (apply WL.ld; rfl; rfl; rfl; assumption; rfl) | (apply CW.block)))
  refine CW.loop (S := Nat × List Raw) (fun s => [(1, .pointer (some ⟨w0.heap.size, 0, none⟩)), (4, .slice (some ⟨w2.heap.size, 0, none⟩) ns.length ns.length), (35, .slice fo fl.length fc), (36, .int .i64 fl.length), (37, .int .i64 s.1)])
    (fun s w => s.1 ≤ fl.length ∧ (∀ f ∈ fl.take s.1, flowOdd ns.length f = false) ∧ OwnN w w2.heap.size 22 3 (.slice (some ⟨w2.heap.size, 0, none⟩) ns.length ns.length) s.2 (flowsP ns.length fl s.1) ∧ Ext w2 w) (fun s => fl.length - s.1) (0, _) (by repeat (first | exact trivial | refine ⟨rfl, ?_⟩)) ⟨Nat.zero_le _, (fun f hf => by simp at hf), hN3, e3⟩ ?_
  rintro ⟨i, vs⟩ w4 ⟨hi, hev, hN, e4⟩
  dsimp only at hi hev hN ⊢
  have hE4 := hE.trans e4
  have hN4 := hN
  have hsz : w2.heap.size < w4.heap.size := (hN.out.lt _ rfl).2.1
  (repeat (first | (apply WL.pure; rfl; rfl; rfl) | (apply WL.nil) | (apply EX.thenN) | (apply CW.seq) | (apply CW.region)))
  refine CW.cond rfl (fun h => ?_) (fun h => ?_)
  · have hi' : i < fl.length := by simp at h; omega
    have hbad : flowOdd ns.length fl[i] = true → (if fl.any (flowOdd ns.length) = true then (1 : Int) else if (startsL ns ns.length).length ≠ 1 then 1 else if (List.range ns.length).any (badCount (ns, fl)) = true then 1 else chkR (ns, fl)) = 1 := fun hb => by
      rw [if_pos (List.any_eq_true.2 ⟨_, List.getElem_mem hi', hb⟩)]
    (repeat (first | (apply EX.thenN) | (apply CW.seq) | (apply CW.region) | (apply CW.block) | (apply CW.skip)))
    refine WL.elemN rfl rfl rfl rfl rfl (hf.at hE4) hi' (fun _ => rfl) (fun u q hu => ?_)
    obtain rfl := hu.flow
    skip
    refine WL.alloc rfl rfl (fun w5 hb6 e5 => ?_)
    skip
    refine WL.st rfl rfl rfl hb6 rfl rfl (ones_of rfl) (fun w6 hb6 hg6 => ?_)
    have e6 : Ext w4 w6 := e5.grown hg6 e5.size (fun g hg => by cases hg; exact Nat.le_refl _)
    have hN := hN.ext e6
    have hE6 := hE4.trans e6
    have e26 := e4.trans e6
    (repeat (first | (apply WL.pure; rfl; rfl; rfl) | (apply WL.nil) | (apply EX.thenN) | (apply CW.seq) | (apply CW.region) | (apply WL.fa; rfl; rfl; rfl) | (apply WL.ld; rfl; rfl; rfl; assumption; rfl)))
    by_cases d1 : decide (fl[i].1 < 0) = true
    · rw [d1]
      (repeat (first | (apply WL.pure; rfl; rfl; rfl) | (apply WL.nil) | (apply EX.thenN) | (apply CW.seq) | (apply CW.region) | (apply WL.pass; rfl; rfl) | (apply CW.condT; rfl) | (apply CW.ret) | (apply EX.thenR) | (apply EX.inR)))
      refine EX.ret1 rfl rfl ⟨?_, hE6⟩
      rw [hbad (by unfold flowOdd; rw [d1]; rfl)]
    have d1 : decide (fl[i].1 < 0) = false := by simpa using d1
    rw [d1]
    (repeat (first | (apply WL.pure; rfl; rfl; rfl) | (apply WL.lenS; rfl; rfl; rfl) | (apply WL.fa; rfl; rfl; rfl) | (apply WL.ld; rfl; rfl; rfl; assumption; rfl)))
    by_cases d2 : decide (fl[i].1 ≥ (ns.length : Int)) = true
    · rw [d2]
      (repeat (first | (apply WL.pure; rfl; rfl; rfl) | (apply WL.nil) | (apply EX.thenN) | (apply CW.seq) | (apply CW.region) | (apply WL.pass; rfl; rfl) | (apply CW.condT; rfl) | (apply CW.ret) | (apply EX.thenR) | (apply EX.inR)))
      refine EX.ret1 rfl rfl ⟨?_, hE6⟩
      rw [hbad (by unfold flowOdd; rw [d1, d2]; rfl)]
    have d2 : decide (fl[i].1 ≥ (ns.length : Int)) = false := by simpa using d2
    rw [d2]
    (repeat (first | (apply WL.pure; rfl; rfl; rfl) | (apply WL.fa; rfl; rfl; rfl) | (apply WL.ld; rfl; rfl; rfl; assumption; rfl)))
    by_cases d3 : decide (fl[i].2 < 0) = true
    · rw [d3]
      (repeat (first | (apply WL.pure; rfl; rfl; rfl) | (apply WL.nil) | (apply EX.thenN) | (apply CW.seq) | (apply CW.region) | (apply WL.pass; rfl; rfl) | (apply CW.condT; rfl) | (apply CW.ret) | (apply EX.thenR) | (apply EX.inR)))
      refine EX.ret1 rfl rfl ⟨?_, hE6⟩
      rw [hbad (by unfold flowOdd; rw [d1, d2, d3]; rfl)]
    have d3 : decide (fl[i].2 < 0) = false := by simpa using d3
    rw [d3]
    (repeat (first | (apply WL.pure; rfl; rfl; rfl) | (apply WL.nil) | (apply EX.thenN) | (apply WL.lenS; rfl; rfl; rfl) | (apply WL.fa; rfl; rfl; rfl) | (apply WL.ld; rfl; rfl; rfl; assumption; rfl)))
    refine CW.cond rfl (fun d4 => ?_) (fun d4 => ?_)
    · (repeat (first | (apply WL.pure; rfl; rfl; rfl) | (apply WL.nil) | (apply EX.thenN) | (apply CW.seq) | (apply CW.region) | (apply CW.ret) | (apply EX.thenR) | (apply EX.inR)))
      refine EX.ret1 rfl rfl ⟨?_, hE6⟩
      rw [hbad (by unfold flowOdd; rw [d1, d2, d3, d4]; rfl)]
    have hgd : flowOdd ns.length fl[i] = false := by unfold flowOdd; rw [d1, d2, d3, d4]; rfl
    simp at d1 d2 d3 d4
    obtain ⟨a, ea⟩ := Int.eq_ofNat_of_zero_le d1
    have han : a < ns.length := by omega
    have hfi : fl[i] = ((a : Int), fl[i].2) := by rw [← ea]
    have hnext := flowsP_next hi' hfi han
    have hlen := hN.len
    rw [flowsP_len] at hlen
    have hav : a < vs.length := by omega
    have hd := Ext.drew w6
    have hNd := hN.ext hd
    have hb6d := hb6.ext hd
    have hin := hNd.inn a hav (by rw [flowsP_len]; exact han)
    rw [flowsP_get han] at hin
    have hrl : (((fl.take i).filter fun f => f.1 == (a : Int)).map (·.2)).length ≤ 30 := by
      rw [List.length_map]; exact Nat.le_trans (List.length_filter_le _ _) (by rw [List.length_take]; omega)
    obtain ⟨oo, oc, hov, hout⟩ := hNd.out.slF (F' := fun b => b = w2.heap.size) (fun _ h => h.elim) (fun g hg => by cases hg; rfl)
    obtain ⟨rfl, _, rfl⟩ := Value.slice.inj hov
    rw [← hlen] at hout
    have hsz6 := e6.size
    have hszd := hd.size
    have hl6 := hb6.lt
    rw [ea] at hb6d
    (repeat (first | (apply EX.thenN) | (apply CW.skip)))
    have hK : ∀ z, (fun z : World => ∀ b, b = w2.heap.size ∨ b = w4.heap.size → z.heap[b]? = (drew w6).heap[b]?) z → z.heap[w4.heap.size]? = (drew w6).heap[w4.heap.size]? := fun z hz => hz _ (.inr rfl)
    refine CW.drawE (fun z : World => ∀ b, b = w2.heap.size ∨ b = w4.heap.size → z.heap[b]? = (drew w6).heap[b]?) [(0, true), (1, true), (2, true), (3, true), (4, true), (5, true), (6, true), (7, true), (8, true), (9, true), (10, false), (11, false), (12, true)] 13 mixed (by kernel_rfl) (fun _ _ => rfl) ?_
    (repeat (first | (apply HL.pure; rfl; rfl; rfl; rfl) | (refine HL.fa rfl rfl rfl rfl ?_) | (refine HL.ldK (by assumption) rfl rfl rfl rfl (by assumption) rfl ?_)))
    rw [← hlen]
    refine HL.elemK (w := drew w6) (F := fun b => b = w2.heap.size) (fun z hz b hb => hz b (.inl hb)) rfl rfl rfl rfl rfl rfl rfl hout hav (fun _ => rfl) (fun u q hu => ?_)
    obtain ⟨rfl, _⟩ := hu.raw
    rw [hlen]
    (repeat (first | (refine HL.fa rfl rfl rfl rfl ?_) | (refine HL.ldK (by assumption) rfl rfl rfl rfl (by assumption) rfl ?_)))
    refine HL.app1 (bytes := 8) rfl rfl rfl rfl (fun _ => rfl) rfl rfl (fun _ => rfl) hin (Rd.mkInt _ _ _) (by omega) (fun _ h => h.elim) (by decide) (by unfold maxLen; omega) (by omega)
      (fun z hz b hb => hz.block b (by omega) (fun e => ?_)) (fun v' w7 p ho7 hg7 hnb => ?_)
    · rcases hb with rfl | rfl
      · exact hNd.dio a hav _ e.symm rfl
      · exact absurd ((hN4.inn a hav (by rw [flowsP_len]; exact han)).lt _ e.symm).2.1 (Nat.lt_irrefl _)
    rw [hfi] at ho7
    have hmid := hNd.mid hav hg7
    skip
    refine HL.setTail (yv := (⟨v'⟩ : Raw)) rfl rfl rfl rfl rfl rfl hmid hav (fun _ => rfl) (fun _ => rfl) (Rd.mkRaw _ _ _ ?_) (fun w8 q ho8 hg8 => ?_)
    · obtain ⟨a, b, rfl⟩ := ho7.val; rfl
    have hN8 := hNd.set hav ho7 hg7 hnb ho8 hg8
    rw [hnext] at hN8
    have e26d := e26.trans hd
    have e8 : Ext w2 w8 := (e26d.grown hg7 e26d.size (fun b hb => (hin.lt b hb).1)).grown hg8 (Nat.le_trans e26d.size hg7.size) (fun b hb => (hNd.out.lt b hb).1)
    (repeat (first | (apply WL.add; rfl; rfl; rfl; rfl; omega; omega) | (apply WL.pure; rfl; rfl; rfl) | (apply WL.nil) | (apply EX.thenN) | (apply CW.region) | (apply EX.inN)))
    refine EX.back (i + 1, vs.set a ⟨v'⟩) (by repeat (first | exact trivial | refine ⟨rfl, ?_⟩)) ⟨hi', fun f hf' => ?_, hN8, e8⟩ (by dsimp only; omega)
    dsimp only at hf'
    rw [← List.take_append_getElem hi'] at hf'
    rcases List.mem_append.1 hf' with h1 | h1
    · exact hev f h1
    · rw [List.mem_singleton] at h1; subst h1; exact hgd
  obtain rfl : i = fl.length := by simp at h; omega
  rw [List.take_length] at hev
  have hany : fl.any (flowOdd ns.length) = false := List.any_eq_false.2 (fun f hf => by simp [hev f hf])
  have hfok : ∀ f ∈ fl, 0 ≤ f.1 ∧ f.1 < ns.length ∧ 0 ≤ f.2 ∧ f.2 < ns.length := fun f hf => by
    have := hev f hf
    unfold flowOdd at this
    simp at this
    omega
  rw [if_neg (by rw [hany]; simp)]
  have hgG : flowsP ns.length fl fl.length = flowsG ns.length fl := by unfold flowsP; rw [List.take_length]
  rw [hgG] at hN
  have hgl : (flowsG ns.length fl).length = ns.length := by simp [flowsG]
  have hgok : okG (flowsG ns.length fl) := by
    intro r hr x hx
    rw [hgl]
    obtain ⟨k, _, rfl⟩ := List.mem_map.1 hr
    obtain ⟨f, hf, rfl⟩ := List.mem_map.1 hx
    exact (hfok f (List.mem_filter.1 hf).1).2.2
  have hge := flowsG_edges (n := ns.length) (fl := fl)
  have hge2 : ns.length * fl.length ≤ 20 * 30 := Nat.mul_le_mul c1 c2
  obtain ⟨go, gc, hgv, hg⟩ := hN.old.sl
  rw [hgl] at hgv
  obtain ⟨rfl, _, rfl⟩ := Value.slice.inj hgv
  have hb14 := hb1.ext e4
  clear h hi hev hN hN4 hN3 hany hgv
  (repeat (first | (apply WL.pure; rfl; rfl; rfl) | (apply WL.nil) | (apply EX.thenN) | (apply CW.seq) | (apply CW.region) | (apply WL.lenS; rfl; rfl; rfl) | (apply WL.fa; rfl; rfl; rfl) | (apply WL.ld; rfl; rfl; rfl; assumption; rfl) | (apply CW.block) | (apply CW.exit) | (apply EX.thenX) | (apply EX.inX)))
  refine CW.loop (S := Nat) (fun i => [(1, .pointer (some ⟨w0.heap.size, 0, none⟩)), (4, .slice (some ⟨w2.heap.size, 0, none⟩) ns.length ns.length), (7, .int .i64 (lastI (startsL ns i))), (8, .int .i64 ((startsL ns i).length : Int)), (78, .slice so ns.length sc), (79, .int .i64 ns.length), (80, .int .i64 i)])
    (fun i w => i ≤ ns.length ∧ Ext w4 w) (fun i => ns.length - i) 0 (by repeat (first | exact trivial | refine ⟨rfl, ?_⟩)) ⟨by omega, Ext.refl _⟩ ?_
  rintro i w5 ⟨hi, e5⟩
  have hE5 := hE4.trans e5
  have hnext := startsL_next (ns := ns) (k := i)
  have hsl := startsL_len (ns := ns) (k := i)
  (repeat (first | (apply WL.pure; rfl; rfl; rfl) | (apply WL.nil) | (apply EX.thenN) | (apply CW.seq) | (apply CW.region)))
  refine CW.cond rfl (fun h => ?_) (fun h => ?_)
  · have hi' : i < ns.length := by simp at h; omega
    rw [getDNd_at hi'] at hnext
    (repeat (first | (apply WL.pure; rfl; rfl; rfl) | (apply EX.thenN) | (apply CW.seq) | (apply CW.region) | (apply CW.block) | (apply CW.skip)))
    refine WL.elemN rfl rfl rfl rfl rfl (hs.at hE5) hi' (fun _ => rfl) (fun u q hu => ?_)
    obtain rfl := hu.node
    skip
    refine WL.alloc rfl rfl (fun w6 hb10 e6 => ?_)
    (repeat (apply WL.pure; rfl; rfl; rfl))
    refine WL.st rfl rfl rfl hb10 rfl rfl (ones_of rfl) (fun w7 hb10 hg7 => ?_)
    have e7 : Ext w5 w7 := e6.grown hg7 e6.size (fun g hg => by cases hg; exact Nat.le_refl _)
    (repeat (first | (apply WL.pure; rfl; rfl; rfl) | (apply WL.nil) | (apply EX.thenN) | (apply CW.seq) | (apply CW.region) | (apply WL.fa; rfl; rfl; rfl) | (apply WL.ld; rfl; rfl; rfl; assumption; rfl)))
    refine CW.cond rfl (fun h2 => ?_) (fun h2 => ?_)
    · rw [if_pos h2] at hnext
      have hn1 : ((startsL ns i).length : Int) + 1 = ((startsL ns (i + 1)).length : Int) := by rw [hnext]; simp
      have hn2 : (i : Int) = lastI (startsL ns (i + 1)) := by rw [hnext]; simp [lastI]
      (repeat (first | (apply WL.add; rfl; rfl; rfl; rfl; omega; omega) | (apply WL.pure; rfl; rfl; rfl) | (apply WL.nil) | (apply EX.thenN) | (apply CW.seq) | (apply CW.region) | (apply EX.inN)))
      refine EX.back (i + 1) ⟨rfl, rfl, ?_, ?_, rfl, rfl, rfl, trivial⟩ ⟨hi', e5.trans e7⟩ (by omega)
      · rw [← hn2]; rfl
      · rw [← hn1]; rfl
    · rw [if_neg (by rw [h2]; simp), List.append_nil] at hnext
      (repeat (first | (apply WL.add; rfl; rfl; rfl; rfl; omega; omega) | (apply WL.pure; rfl; rfl; rfl) | (apply WL.nil) | (apply EX.thenN) | (apply CW.region) | (apply EX.inN) | (apply CW.skip)))
      refine EX.back (i + 1) ?_ ⟨hi', e5.trans e7⟩ (by omega)
      rw [hnext]; exact (by repeat (first | exact trivial | refine ⟨rfl, ?_⟩))
  obtain rfl : i = ns.length := by simp at h; omega
  have hb15 := hb14.ext e5
  clear h hi hnext
  (repeat (first | (apply WL.pure; rfl; rfl; rfl) | (apply WL.nil) | (apply EX.thenN) | (apply CW.seq) | (apply CW.region) | (apply CW.exit) | (apply EX.thenX) | (apply EX.inX)))
  refine CW.cond rfl (fun h => ?_) (fun h => ?_)
  · have h : (startsL ns ns.length).length ≠ 1 := by simp at h; omega
    (repeat (first | (apply WL.pure; rfl; rfl; rfl) | (apply WL.nil) | (apply EX.thenN) | (apply CW.seq) | (apply CW.region) | (apply CW.ret) | (apply EX.thenR)))
    refine EX.ret1 rfl rfl ⟨?_, hE5⟩
    rw [if_pos h]
  have h1 : (startsL ns ns.length).length = 1 := by simp at h; omega
  rw [if_neg (by omega)]
  obtain ⟨s, hs1⟩ := List.length_eq_one_iff.1 h1
  have hsn : s < ns.length := by
    have : s ∈ startsL ns ns.length := by rw [hs1]; simp
    unfold startsL at this
    exact List.mem_range.1 (List.mem_filter.1 this).1
  rw [chkR_eq hs1, hs1]
  rw [show lastI [s] = (s : Int) from rfl]
  clear h
  (repeat (first | (apply WL.pure; rfl; rfl; rfl) | (apply WL.nil) | (apply EX.thenN) | (apply CW.seq) | (apply CW.region) | (apply WL.lenS; rfl; rfl; rfl) | (apply WL.fa; rfl; rfl; rfl) | (apply WL.ld; rfl; rfl; rfl; assumption; rfl) | (apply CW.block) | (apply CW.skip)))
  refine CW.loop (S := Nat) (fun i => [(1, .pointer (some ⟨w0.heap.size, 0, none⟩)), (4, .slice (some ⟨w2.heap.size, 0, none⟩) ns.length ns.length), (7, .int .i64 (s : Int)), (95, .slice so ns.length sc), (96, .int .i64 ns.length), (97, .int .i64 i)])
    (fun i w => i ≤ ns.length ∧ Ext w5 w ∧ ∀ j, j < i → badCount (ns, fl) j = false) (fun i => ns.length - i) 0 (by repeat (first | exact trivial | refine ⟨rfl, ?_⟩)) ⟨by omega, Ext.refl _, by omega⟩ ?_
  rintro i w6 ⟨hi, e6, hno⟩
  have hE6 := hE5.trans e6
  have hb16 := hb15.ext e6
  (repeat (first | (apply WL.pure; rfl; rfl; rfl) | (apply WL.nil) | (apply EX.thenN) | (apply CW.seq) | (apply CW.region)))
  refine CW.cond rfl (fun h => ?_) (fun h => ?_)
  · have hi' : i < ns.length := by simp at h; omega
    have hnd := getDNd_at hi'
    (repeat (first | (apply WL.pure; rfl; rfl; rfl) | (apply EX.thenN) | (apply CW.seq) | (apply CW.region) | (apply CW.block) | (apply CW.skip)))
    refine WL.elemN rfl rfl rfl rfl rfl (hs.at hE6) hi' (fun _ => rfl) (fun u q hu => ?_)
    obtain rfl := hu.node
    skip
    refine WL.alloc rfl rfl (fun w7 hb12 e7 => ?_)
    (repeat (apply WL.pure; rfl; rfl; rfl))
    refine WL.st rfl rfl rfl hb12 rfl rfl (ones_of rfl) (fun w8 hb12 hg8 => ?_)
    have e8 : Ext w6 w8 := e7.grown hg8 e7.size (fun g hg => by cases hg; exact Nat.le_refl _)
    have hb18 := hb16.ext e8
    have hE8 := hE6.trans e8
    have hd := Ext.drew w8
    have hSE : ∀ x, (fun x => Ext w8 x) x → Ext w8 x := fun _ h => h
    have hb12d := hb12
    (repeat (first | (apply WL.nil) | (apply EX.thenN) | (apply CW.seq)))
    refine CW.drawH (fun x => Ext w8 x) [(0, true), (1, true), (2, true), (3, true), (6, true), (7, true), (4, false), (5, true), (8, false), (9, true), (10, false), (11, true)] mixed (by kernel_rfl) (Ext.drew w8) ?_
    (repeat (first | (apply HL.pure; rfl; rfl; rfl; rfl) | (refine HL.fa rfl rfl rfl rfl ?_) | (refine HL.ld (by assumption) rfl rfl rfl rfl (by assumption) rfl ?_) | (refine HL.ldA (by assumption) rfl rfl rfl rfl (by assumption) rfl ?_)))
    refine HL.mut rfl (WL.call rfl rfl rfl (ins_ok (drew w8) (hf.up (hE8.trans hd)) (i : Int) (by omega)) ?_)
    rintro iv w9 ⟨hoi, e9⟩
    have hT9 := hd.trans e9
    obtain ⟨iao, ica, rfl⟩ := hoi.val
    refine WL.nil (EX.mut hT9 ?_)
    (repeat (refine HL.lenS rfl rfl rfl rfl ?_))
    refine HL.mut rfl (WL.call rfl rfl rfl (outs_ok w9 (hf.up (hE8.trans hT9)) (i : Int) (by omega)) ?_)
    rintro ov w10 ⟨hoo, e10⟩
    have hT10 := hT9.trans e10
    obtain ⟨oao, oca, rfl⟩ := hoo.val
    refine WL.nil (EX.mut hT10 ?_)
    (repeat (refine HL.lenS rfl rfl rfl rfl ?_))
    refine HL.mut rfl (WL.call rfl rfl rfl (counts_ok w10 ns[i].2 (insL fl (i : Int)).length (outsL fl (i : Int)).length) ?_)
    rintro _ _ ⟨rfl, rfl⟩
    refine WL.nil (EX.mut hT10 ?_)
    have hbc : badCount (ns, fl) i = !countsB ns[i].2 (insL fl (i : Int)).length (outsL fl (i : Int)).length := by unfold badCount; rw [hnd]
    (repeat (first | (apply HL.pure; rfl; rfl; rfl; rfl) | (apply HL.nil)))
    (repeat (apply EX.thenN))
    refine CW.cond rfl (fun h2 => ?_) (fun h2 => ?_)
    · (repeat (first | (apply WL.pure; rfl; rfl; rfl) | (apply WL.nil) | (apply EX.thenN) | (apply CW.seq) | (apply CW.region) | (apply CW.ret) | (apply EX.thenR) | (apply EX.inR)))
      refine EX.ret1 rfl rfl ⟨?_, hE8.trans hT10⟩
      rw [if_pos (List.any_eq_true.2 ⟨i, List.mem_range.2 hi', by rw [hbc]; exact h2⟩)]
    · (repeat (first | (apply WL.add; rfl; rfl; rfl; rfl; omega; omega) | (apply WL.pure; rfl; rfl; rfl) | (apply WL.nil) | (apply EX.thenN) | (apply CW.region) | (apply EX.inN) | (apply CW.skip)))
      refine EX.back (i + 1) (by repeat (first | exact trivial | refine ⟨rfl, ?_⟩)) ⟨hi', (e6.trans e8).trans hT10, fun j hj => ?_⟩ (by omega)
      by_cases e : j = i
      · subst e; rw [hbc]; exact h2
      · exact hno j (by omega)
  obtain rfl : i = ns.length := by simp at h; omega
  have hany : (List.range ns.length).any (badCount (ns, fl)) = false := List.any_eq_false.2 (fun j hj => by simp [hno j (List.mem_range.1 hj)])
  rw [if_neg (by rw [hany]; simp)]
  clear h hi hno
  have hg6 := hg.up (e5.trans e6)
  (repeat (first | (apply WL.pure; rfl; rfl; rfl) | (apply EX.thenN) | (apply CW.seq) | (apply CW.region) | (apply CW.exit) | (apply EX.thenX) | (apply EX.inX)))
  refine WL.litR [(s : Int)] rfl rfl rfl rfl rfl (.cons (Rd.mkInt _ _ _) .nil) (by show 1 * 1 ≤ 16777216; decide) (fun v7 w7 e7 r7 _ => ?_)
  obtain ⟨lo, lc, rfl, hls⟩ := r7.sl
  have hsok : okL (flowsG ns.length fl).length [(s : Int)] := fun x hx => by rw [List.mem_singleton] at hx; subst hx; rw [hgl]; omega
  have hrF := reachF_of hgok hsok (by omega)
  rw [← hgl]
  have hRR := Reach_ok w7 (hg6.up e7) hls (by simp only [List.length_singleton]; omega)
  rw [hrF, hgl] at hRR
  rw [hgl]
  skip
  refine WL.call rfl rfl rfl hRR ?_
  rintro _ w8 ⟨rv, rfl, hor, e8⟩
  obtain ⟨ro, rc, rfl, hrs⟩ := hor.oldN.sl
  (repeat (first | (apply WL.pure; rfl; rfl; rfl) | (apply WL.nil) | (apply EX.thenN) | (apply CW.seq) | (apply CW.region)))
  refine WL.call rfl rfl rfl (contains_bool w8 false hrs) ?_
  rintro _ w9 ⟨rfl, e9⟩
  have hE9 := ((hE6.trans e7).trans e8).trans e9
  (repeat (first | (apply WL.nil) | (apply EX.thenN)))
  refine CW.cond rfl (fun h2 => ?_) (fun h2 => ?_)
  · (repeat (first | (apply WL.pure; rfl; rfl; rfl) | (apply WL.nil) | (apply EX.thenN) | (apply CW.seq) | (apply CW.region) | (apply CW.ret) | (apply EX.thenR)))
    refine EX.ret1 rfl rfl ⟨?_, hE9⟩
    rw [if_pos h2]
  · (repeat (first | (apply WL.pure; rfl; rfl; rfl) | (apply WL.nil) | (apply EX.thenN) | (apply CW.seq) | (apply CW.region) | (apply CW.ret) | (apply CW.skip)))
    refine EX.ret1 rfl rfl ⟨?_, hE9⟩
    rw [if_neg (by rw [h2]; simp)]
end Go.Proofs.Ytadbkppgaekmpaa
/-
  Literals all of whose blocks are new.
-/
set_option linter.unusedVariables false
set_option linter.unusedSimpArgs false
namespace Go.Proofs.Ytadbkppgaekmpaa
open Go.RowKit

/-- the blocks from c on -/
def From (c : Nat) (w : World) : Nat → Prop := fun b => c ≤ b ∧ b < w.heap.size
theorem Rd.upF {α : Type} [Rep α] {w w' : World} {c : Nat} {v : Value} {x : α} (h : Rd w (From c w) v x) (hE : Ext w w') : Rd w' (From c w') v x := h.mono (fun b hb => hE.block b hb.2) fun b hb => ⟨hb.1, Nat.lt_of_lt_of_le hb.2 hE.size⟩
section
variable {P : Program} {Q : Exit → Act → World → Prop} {n : Nat} {σ : Sg} {w : World} {L rest : List Oper} {d : Nat} {ty : TypeId} {pos : String} {af : Array Edge} {g : Option (Nat × Bool)}
variable {α : Type} [Rep α] {e t : TypeId} {x0 : α} {bytes : Nat}
theorem WL.litF (c : Nat) (hc : c ≤ w.heap.size) {len : Nat} {parts : List (Nat × Operand)} {vs : List Value} (ys : List α) (hg : gd L σ ⟨some d, .buildSlice t len parts.toArray, ty, pos, af, g⟩ = some true) (hd : Nat.ble (d + 1) n = true)
    (hp : idxL 0 (sndL parts) = parts) (hv : evs σ (sndL parts) = some vs) [hs : IsS P t e] [ht : IsT P e α] [hz : IsZ P e x0 bytes] (hlen : len = ys.length) (hr : RdAll w (From c w) vs ys) (hsz : ys.length * sz α ≤ 16777216)
    (h : ∀ v w', Ext w w' → Rd w' (From c w') v ys → WL P L Q rest n ((d, v) :: σ) w') :
    WL P L Q (⟨some d, .buildSlice t len parts.toArray, ty, pos, af, g⟩ :: rest) n σ w :=
  WL.lit hg hd hp hv hlen hr hsz (fun b h => h.2) fun w' ho hgr => by
    have hE : Ext w w' := (Below.refl _ _).grown hgr (Nat.le_refl _) (fun k h => by cases h)
    refine h _ w' hE (ho.rd.mono (fun _ _ => rfl) fun b hb => ?_)
    rcases hb with hb | hb
    · exact ⟨hb.1, Nat.lt_of_lt_of_le hb.2 hE.size⟩
    · have := ho.lt b hb; exact ⟨by omega, this.2.1⟩
end
end Go.Proofs.Ytadbkppgaekmpaa
/-
  Results that lie in a variable; slices that are read, later on; slices cut with their capacity. Over any program.
-/
set_option linter.unusedVariables false
set_option linter.unusedSimpArgs false
namespace Go.Proofs.Ytadbkppgaekmpaa
open Go.RowKit

theorem results_cell {fn : Func} {a : Nat} {t : TypeId} (h : fn.results = #[.cell a t]) (tmps : Array Value) (P : Program) (w : World) {p : Addr} {v : Value} (ha : tmps.getD a undef = .pointer (some p)) (hl : (loadVar t p).run P w = .ok v w) :
    (results fn tmps).run P w = .ok v w := by
  simp only [Array.getD_eq_getD_getElem?] at ha
  simp [results, h, ha, asAddr, hl]
theorem EX.retC {P : Program} {n : Nat} {σ : Sg} {w : World} {fn : Func} {a b : Nat} {t e : TypeId} {cells : List Value} {k : Nat} {R : Value → World → Prop} (hr : fn.results = #[.cell a t]) (ha : fnd σ a = some (.pointer (some ⟨b, 0, none⟩))) [hc : IsC P t k true] (hb : Blk w b e cells) (hk : lenL cells = k) (h : R (.agg cells.toArray) w) :
    EX (bodyPost P fn fun e w' => ∃ v, e = .returned v ∧ R v w') .ret n σ w := by
  unfold EX; intro ac hac
  refine bodyPost_ret (results_cell hr _ _ _ (hac.slot a _ ha) (v := .agg cells.toArray) ?_) hac.defers ⟨_, rfl, h⟩
  rw [lenL_eq] at hk
  have hld := run_loadCells_list (P := P) w ⟨b, 0, none⟩ cells (fun j u hu => by rw [WideShapes.add_plain, Nat.zero_add]; exact hb.cell hu)
  obtain ⟨i, dd, h1, h2, h3, h4⟩ := hc.ok
  have hagg : (isAgg t).run P w = .ok true w := by
    unfold isAgg
    rw [Sem.run_bind, run_underlying h3 w, ← h4]
    cases dd <;> rfl
  rw [hk] at hld
  simp [loadVar, hagg, sizeOf, typeInfo, h1, h2, hld]
theorem results_cell2 {fn : Func} {a u : Nat} {t : TypeId} (h : fn.results = #[.cell a t, .tmp u]) (tmps : Array Value) (P : Program) (w : World) {p : Addr} {v : Value} (ha : tmps.getD a undef = .pointer (some p)) (hl : (loadVar t p).run P w = .ok v w) :
    (results fn tmps).run P w = .ok (.tuple ⟨[v, tmps.getD u undef]⟩) w := by
  simp only [Array.getD_eq_getD_getElem?] at ha ⊢
  simp [results, h, ha, asAddr, hl]
theorem EX.retC2 {P : Program} {n : Nat} {σ : Sg} {w : World} {fn : Func} {a b u : Nat} {t e : TypeId} {cells : List Value} {k : Nat} {x : Value} {R : Value → World → Prop} (hr : fn.results = #[.cell a t, .tmp u]) (ha : fnd σ a = some (.pointer (some ⟨b, 0, none⟩))) (hu : fnd σ u = some x) [hc : IsC P t k true] (hb : Blk w b e cells) (hk : lenL cells = k) (h : R (.tuple ⟨[.agg cells.toArray, x]⟩) w) :
    EX (bodyPost P fn fun e w' => ∃ v, e = .returned v ∧ R v w') .ret n σ w := by
  unfold EX; intro ac hac
  refine bodyPost_ret (results_cell2 hr _ _ _ (hac.slot a _ ha) (v := .agg cells.toArray) ?_) hac.defers ⟨_, by rw [hac.slot u x hu], h⟩
  rw [lenL_eq] at hk
  have hld := run_loadCells_list (P := P) w ⟨b, 0, none⟩ cells (fun j u hu => by rw [WideShapes.add_plain, Nat.zero_add]; exact hb.cell hu)
  obtain ⟨i, dd, h1, h2, h3, h4⟩ := hc.ok
  have hagg : (isAgg t).run P w = .ok true w := by
    unfold isAgg
    rw [Sem.run_bind, run_underlying h3 w, ← h4]
    cases dd <;> rfl
  rw [hk] at hld
  simp [loadVar, hagg, sizeOf, typeInfo, h1, h2, hld]
theorem Sl.zero {α : Type} [Rep α] (w : World) (F : Nat → Prop) : Sl w F none 0 ([] : List α) := ⟨by simp, by simp [maxLen], fun _ => rfl, fun i hi => absurd hi (by simp)⟩
theorem Sl.up0 {α : Type} [Rep α] {w w' : World} {F : Nat → Prop} {ao : Option Addr} {cap : Nat} {xs : List α} (h : Sl w F ao cap xs) (hE : Ext w w') (hF : ∀ b, F b → b < w.heap.size) : Sl w' F ao cap xs := h.mono (fun b hb => hE.block b (hF b hb)) fun _ h => h
section
variable {P : Program} {Q : Exit → Act → World → Prop} {n : Nat} {σ : Sg} {w : World} {L rest : List Oper} {d : Nat} {ty : TypeId} {pos : String} {af : Array Edge} {g : Option (Nat × Bool)} {t e : TypeId} {α : Type} [Rep α] {F : Nat → Prop}
theorem run_cut3 {ao : Option Addr} {len cap k : Nat} {k1 k2 : IntKind} (w : World) [hs : IsS P t e] [ht : IsT P e α] (h : k ≤ cap) :
    (Instr.sliceAt t (.slice ao len cap) none (some (.int k1 (k : Int))) (some (.int k2 (k : Int)))).run P w = .ok (.slice ao k k) w := by
  have a2 : (k : Int) ≤ (cap : Int) := by omega
  have a3 : (0 : Int) ≤ (k : Int) := by omega
  simp only [Instr.sliceAt, Sem.run_bind, run_underlying hs.ok, Result.andThen_ok, Instr.slice, Instr.sliceBounds]
  simp [run_sizeOf (α := α), Instr.sliceBound, asIntOf, h, Addr.add_zero']
/-- x[:k:k] -/
theorem WL.cut3O {x y z : Operand} {v : Value} {xs : List α} {B : Nat} {k1 k2 : IntKind} {k : Nat} (hg : gd L σ ⟨some d, .slice t x none (some y) (some z), ty, pos, af, g⟩ = some true) (hd : Nat.ble (d + 1) n = true)
    (hx : ev σ x = some v) (hy : ev σ y = some (.int k1 (k : Int))) (hz : ev σ z = some (.int k2 (k : Int))) [hs : IsS P t e] [ht : IsT P e α] (hown : Own w B e F v xs) (hk : k ≤ xs.length)
    (h : ∀ v', Own w B e F v' (xs.take k) → v'.ownBlock = v.ownBlock → WL P L Q rest n ((d, v') :: σ) w) : WL P L Q (⟨some d, .slice t x none (some y) (some z), ty, pos, af, g⟩ :: rest) n σ w := by
  obtain ⟨ao, cap, rfl⟩ := hown.val
  have hle := hown.le rfl
  refine WL.run (v := .slice ao k k) hg hd (fun a ha => ?_) (h _ ?_ (by cases ao <;> rfl))
  · have := run_cut3 (P := P) (t := t) (e := e) (α := α) (ao := ao) (len := xs.length) (cap := cap) (k := k) (k1 := k1) (k2 := k2) w (by omega)
    simp [execOp, ha.ev hx, ha.ev hy, ha.ev hz, this]
  · rcases hown with ⟨h1, rfl⟩ | ⟨g', off, cp, cur, h1, ho⟩
    · obtain ⟨rfl, _, rfl⟩ := Value.slice.inj h1
      have : k = 0 := by simpa using hk
      subst this
      exact .inl ⟨rfl, by simp⟩
    · obtain ⟨rfl, _, rfl⟩ := Value.slice.inj h1
      have hlen : (xs.take k).length = k := by rw [List.length_take]; omega
      have hmul : k * sz α ≤ cap * sz α := Nat.mul_le_mul_right _ (by omega)
      refine .inr ⟨g', off, k, cur, by rw [hlen], ⟨ho.blk, ho.ge, ho.nF, by omega, by have := ho.mx; omega, by have := ho.fit; omega, ?_⟩⟩
      have := ho.el.take k hk
      rw [List.take_take, Nat.min_eq_left (Nat.mul_le_mul_right _ hk)] at this
      rw [hlen]; exact this
end
end Go.Proofs.Ytadbkppgaekmpaa
/-
  Package proc: Ins, Outs; watchkeep.straight: walked.
-/
set_option linter.unusedVariables false
set_option linter.unusedSimpArgs false
namespace Go.Proofs.Ytadbkppgaekmpaa
open Go.RowKit

noncomputable def listE (p : LProc) (n : Int) : Int := if chkPr p ≠ 0 then chkPr p else if n < 0 ∨ n ≥ p.1.length then 1 else 0
theorem list_ok (w0 : World) {so fo : Option Addr} {sc fc : Nat} {ns : List LNode} {fl : List LFlow} (hs : Sl w0 (Old w0) so sc ns) (hf : Sl w0 (Old w0) fo fc fl) (n : Int) {fv : Value} (sel : List Int)
    (hfv : fl.length ≤ 30 → ∀ w, Ext w0 w → FnV Try.prog fv [procV so sc fo fc ns.length fl.length, .int .i64 n] w fun v w' => Own w' w.heap.size 3 Non v sel ∧ Ext w w') :
    Rt Try.prog 84 [procV so sc fo fc ns.length fl.length, .int .i64 n, fv].toArray w0 fun v w' => ∃ x, v = .tuple ⟨[x, .int .i64 (listE (ns, fl) n)]⟩ ∧ Own w' w0.heap.size 3 Non x (if listE (ns, fl) n = 0 then sel else []) ∧ Ext w0 w' := by
  have hms := hs.len63
  refine Rt.enter3 Try.func84 Try.ntmps84 rfl rfl ?_
  have hE := Ext.refl w0
  (repeat (first | (apply CW.seq) | (apply CW.region)))
  refine WL.boxB rfl rfl rfl fun w1 hb3 e1 => ?_
  have hE := hE.trans e1
  unfold listE
  dsimp only
  (repeat (first | (apply WL.pure; rfl; rfl; rfl) | (apply WL.nil) | (apply EX.thenN) | (apply CW.seq) | (apply CW.region) | (apply WL.ldA; rfl; rfl; rfl; assumption; rfl)))
  refine WL.call rfl rfl rfl (Check_pr w1 (hs.up hE) (hf.up hE)) ?_
  rintro _ w2 ⟨rfl, e2⟩
  have hb3 := hb3.ext e2
  have hE := hE.trans e2
  (repeat (first | (apply WL.pure; rfl; rfl; rfl) | (apply WL.nil) | (apply EX.thenN) | (apply CW.seq) | (apply CW.region)))
  refine CW.cond rfl (fun h => ?_) (fun h => ?_)
  · have h : chkPr (ns, fl) ≠ 0 := by simpa using h
    (repeat (first | (apply WL.pure; rfl; rfl; rfl) | (apply WL.nil) | (apply EX.thenN) | (apply CW.seq) | (apply CW.region) | (apply CW.ret) | (apply EX.thenR)))
    refine EX.ret2 rfl rfl rfl ⟨_, by rw [if_pos h], ?_, hE⟩
    rw [if_pos h, if_neg h]; exact Own.nil
  have h : chkPr (ns, fl) = 0 := by simpa using h
  have hok := chkPr_ok h
  rw [if_neg (by simp [h])]
  clear h
  (repeat (first | (apply WL.pure; rfl; rfl; rfl) | (apply EX.thenN) | (apply CW.seq) | (apply CW.region) | (apply CW.skip)))
  (refine WL.lookG rfl rfl (fun h => ?_) (fun h => ?_))
  · (repeat (first | (apply WL.pure; rfl; rfl; rfl) | (apply WL.nil) | (apply EX.thenN) | (apply CW.seq) | (apply CW.region) | (apply WL.pass; rfl; rfl) | (apply CW.condT; rfl) | (apply CW.ret) | (apply EX.thenR)))
    have e : (if n < 0 ∨ n ≥ (ns.length : Int) then (1 : Int) else 0) = 1 := if_pos (.inl (by simpa using h))
    exact EX.ret2 rfl rfl rfl ⟨_, by rw [e], by rw [e, if_neg (by decide)]; exact Own.nil, hE⟩
  have h1 : ¬ n < 0 := by simpa using h
  clear h
  (repeat (first | (apply WL.pure; rfl; rfl; rfl) | (apply WL.nil) | (apply EX.thenN) | (apply WL.lenS; rfl; rfl; rfl) | (apply WL.fa; rfl; rfl; rfl) | (apply WL.ld; rfl; rfl; rfl; assumption; rfl)))
  refine CW.cond rfl (fun h => ?_) (fun h => ?_)
  · have h : n ≥ ns.length := by simpa using h
    (repeat (first | (apply WL.pure; rfl; rfl; rfl) | (apply WL.nil) | (apply EX.thenN) | (apply CW.seq) | (apply CW.region) | (apply CW.ret) | (apply EX.thenR)))
    have e : (if n < 0 ∨ n ≥ (ns.length : Int) then (1 : Int) else 0) = 1 := if_pos (.inr h)
    exact EX.ret2 rfl rfl rfl ⟨_, by rw [e], by rw [e, if_neg (by decide)]; exact Own.nil, hE⟩
  have h2 : ¬ n ≥ ns.length := by simpa using h
  rw [if_neg (by omega), if_pos rfl]
  clear h
  (repeat (first | (apply WL.pure; rfl; rfl; rfl) | (apply EX.thenN) | (apply CW.seq) | (apply CW.region) | (apply WL.ldA; rfl; rfl; rfl; assumption; rfl) | (apply CW.skip)))
  refine WL.callF rfl rfl rfl rfl (hfv hok.f w2 hE) ?_
  rintro x w3 ⟨ho, e3⟩
  (repeat (first | (apply WL.pure; rfl; rfl; rfl) | (apply WL.nil) | (apply EX.thenN) | (apply CW.ret)))
  exact EX.ret2 rfl rfl rfl ⟨_, rfl, ho.low hE.size, hE.trans e3⟩
theorem Ins_ok (w0 : World) {so fo : Option Addr} {sc fc : Nat} {ns : List LNode} {fl : List LFlow} (hs : Sl w0 (Old w0) so sc ns) (hf : Sl w0 (Old w0) fo fc fl) (n : Int) :
    Rt Try.prog 141 [procV so sc fo fc ns.length fl.length, .int .i64 n].toArray w0 fun v w' => ∃ x, v = .tuple ⟨[x, .int .i64 (listE (ns, fl) n)]⟩ ∧ Own w' w0.heap.size 3 Non x (if listE (ns, fl) n = 0 then insL fl n else []) ∧ Ext w0 w' := by
  refine Rt.enter2 Try.func141 Try.ntmps141 rfl rfl ?_
  (repeat (first | (apply CW.seq) | (apply CW.region)))
  refine WL.boxB rfl rfl rfl fun w1 hb e1 => ?_
  (repeat (first | (apply WL.pure; rfl; rfl; rfl) | (apply WL.nil) | (apply EX.thenN) | (apply CW.seq) | (apply CW.region) | (apply WL.ldA; rfl; rfl; rfl; assumption; rfl)))
  refine WL.call rfl rfl rfl (list_ok w1 (hs.up e1) (hf.up e1) n (insL fl n) (fun hl w hw => FnV.mk (cs := []) (ins_ok w (hf.up (e1.trans hw)) n (by omega)))) ?_
  rintro _ w2 ⟨x, rfl, ho, e2⟩
  (repeat (first | (apply WL.pure; rfl; rfl; rfl) | (apply WL.nil) | (apply EX.thenN) | (apply CW.ret)))
  exact EX.ret2 rfl rfl rfl ⟨x, rfl, ho.low e1.size, e1.trans e2⟩
theorem Outs_ok (w0 : World) {so fo : Option Addr} {sc fc : Nat} {ns : List LNode} {fl : List LFlow} (hs : Sl w0 (Old w0) so sc ns) (hf : Sl w0 (Old w0) fo fc fl) (n : Int) :
    Rt Try.prog 28 [procV so sc fo fc ns.length fl.length, .int .i64 n].toArray w0 fun v w' => ∃ x, v = .tuple ⟨[x, .int .i64 (listE (ns, fl) n)]⟩ ∧ Own w' w0.heap.size 3 Non x (if listE (ns, fl) n = 0 then outsL fl n else []) ∧ Ext w0 w' := by
  refine Rt.enter2 Try.func28 Try.ntmps28 rfl rfl ?_
  (repeat (first | (apply CW.seq) | (apply CW.region)))
  refine WL.boxB rfl rfl rfl fun w1 hb e1 => ?_
  (repeat (first | (apply WL.pure; rfl; rfl; rfl) | (apply WL.nil) | (apply EX.thenN) | (apply CW.seq) | (apply CW.region) | (apply WL.ldA; rfl; rfl; rfl; assumption; rfl)))
  refine WL.call rfl rfl rfl (list_ok w1 (hs.up e1) (hf.up e1) n (outsL fl n) (fun hl w hw => FnV.mk (cs := []) (outs_ok w (hf.up (e1.trans hw)) n (by omega)))) ?_
  rintro _ w2 ⟨x, rfl, ho, e2⟩
  (repeat (first | (apply WL.pure; rfl; rfl; rfl) | (apply WL.nil) | (apply EX.thenN) | (apply CW.ret)))
  exact EX.ret2 rfl rfl rfl ⟨x, rfl, ho.low e1.size, e1.trans e2⟩
def straightP : LProc := ([(⟨#[97]⟩, 1), (⟨#[98]⟩, 4), (⟨#[99]⟩, 2)], [(0, 1), (1, 2)])
theorem rdNd (w : World) (F : Nat → Prop) (s : ByteArray) (k : Int) (h : s.size ≤ maxLen) : Rd w F (.agg [.string s, .int .i64 k].toArray) ((s, k) : LNode) := Rd.mkPr (c1 := [.string s]) (c2 := [.int .i64 k]) ⟨rfl, h⟩ (rd_mkInt _ _ _)
theorem rdFl (w : World) (F : Nat → Prop) (a b : Int) : Rd w F (.agg [.int .i64 a, .int .i64 b].toArray) ((a, b) : LFlow) := Rd.mkPr (c1 := [.int .i64 a]) (c2 := [.int .i64 b]) (rd_mkInt _ _ _) (rd_mkInt _ _ _)
theorem straight_ok (w0 : World) : Rt Try.prog 29 [].toArray w0 fun v w' => (∃ so sc fo fc, v = procV so sc fo fc 3 2 ∧ Sl w' (Old w') so sc straightP.1 ∧ Sl w' (Old w') fo fc straightP.2) ∧ Ext w0 w' := by
  refine Rt.enter0 Try.func29 Try.ntmps29 rfl ?_
  (repeat (first | (apply CW.seq) | (apply CW.region)))
  refine WL.alloc rfl rfl (fun w1 hb hE1 => ?_)
  have hc1 : w0.heap.size + 1 ≤ w1.heap.size := hb.lt
  generalize hcc : w0.heap.size + 1 = c at hc1
  (repeat (first | (apply WL.nil) | (apply EX.thenN) | (apply CW.seq) | (apply CW.region)))
  refine WL.build rfl rfl rfl rfl ?_
  refine WL.build rfl rfl rfl rfl ?_
  refine WL.build rfl rfl rfl rfl ?_
  refine WL.litF c (by omega) straightP.1 rfl rfl rfl rfl rfl (.cons (rdNd _ _ _ _ (by decide)) (.cons (rdNd _ _ _ _ (by decide)) (.cons (rdNd _ _ _ _ (by decide)) .nil))) (by decide) (fun v2 w2 e2 r2 => ?_)
  have z2 := e2.size
  refine WL.build rfl rfl rfl rfl ?_
  refine WL.build rfl rfl rfl rfl ?_
  refine WL.litF c (by omega) straightP.2 rfl rfl rfl rfl rfl (.cons (rdFl _ _ _ _) (.cons (rdFl _ _ _ _) .nil)) (by decide) (fun v3 w3 e3 r3 => ?_)
  have r2 := r2.upF e3
  have hb3 := hb.ext (e2.trans e3)
  have hE3 := hE1.trans (e2.trans e3)
  obtain ⟨a1, c1, rfl, s1⟩ := r2.sl
  obtain ⟨a2, c2, rfl, s2⟩ := r3.sl
  refine WL.build rfl rfl rfl rfl ?_
  skip
  refine WL.st rfl rfl rfl hb3 rfl rfl (ones_of rfl) (fun w4 hb4 hg4 => ?_)
  have hE4 : Ext w0 w4 := hE3.grown hg4 hE3.size (fun g hg => by cases hg; exact Nat.le_refl _)
  have hF : ∀ b, From c w3 b → w4.heap[b]? = w3.heap[b]? := fun b hb => hg4.block b hb.2 (fun e => by cases e; have := hb.1; omega)
  have hO : ∀ b, From c w3 b → Old w4 b := fun b hb => Nat.lt_of_lt_of_le hb.2 hg4.size
  (repeat (first | (apply WL.nil) | (apply EX.thenN) | (apply CW.ret)))
  exact EX.retC rfl rfl hb4 rfl ⟨⟨a1, c1, a2, c2, rfl, s1.mono hF hO, s2.mono hF hO⟩, hE4⟩
theorem straight_chk : chkPr straightP = 0 := by
  have hst : startsL straightP.1 straightP.1.length = [0] := by decide
  have hok : okG (flowsG straightP.1.length straightP.2) := (chkG_ok (by decide : chkG (flowsG straightP.1.length straightP.2) = 0)).1
  have hR : chkR straightP = 0 := by
    have := chkR_eq (ns := straightP.1) (fl := straightP.2) hst
    rw [rchB_run hok (by intro x hx; simp at hx; subst hx; decide) 20 (by decide)] at this
    rw [show chkR straightP = chkR (straightP.1, straightP.2) from rfl, this]
    decide
  unfold chkPr
  rw [hR, if_neg (by decide), if_neg (by decide), if_neg (by decide), if_neg (by decide), if_neg (by decide)]
end Go.Proofs.Ytadbkppgaekmpaa
