import Derived.Laws.Bits64b
import Derived.Laws.Shifts
import Derived.OrdersHeld
import Derived.Test.YtllpfgcngokhnaaPtTableauJoins2
/-
  Structs: variables of the call's own whose cells are known one by one; fields; values built; numbers of 64 bits; conversions. Over any program.
-/
set_option linter.unusedVariables false
set_option linter.unusedSimpArgs false
namespace Go.Proofs.Ytllpfgcngokhnaa
open Go.RowKit

/- BLOCKS WHOSE CELLS ARE KNOWN -/
def Blk (w : World) (b : Nat) (e : TypeId) (cells : List Value) : Prop := w.heap[b]? = some (.cells cells.toArray e (0, 0))
section
variable {w w' : World} {b : Nat} {e : TypeId} {cells : List Value}
theorem Blk.lt (h : Blk w b e cells) : b < w.heap.size := (Array.getElem?_eq_some_iff.1 h).1
theorem Blk.ext (h : Blk w b e cells) (hE : Ext w w') : Blk w' b e cells := (hE.block b h.lt).trans h
theorem Blk.below {B : Nat} (h : Blk w b e cells) (hE : Below B w w') (hb : b < B) : Blk w' b e cells := (hE.block b hb).trans h
theorem Blk.kept {row : Option Nat} (h : Blk w b e cells) (hg : w.grownBy w' row) (hne : some b ≠ row) : Blk w' b e cells := (hg.block b h.lt hne).trans h
theorem Blk.cell (h : Blk w b e cells) {o : Nat} {v : Value} (hv : cells[o]? = some v) : w.cell? ⟨b, o, none⟩ = some v := by
  rw [cell_of_row w b o cells.toArray e (0, 0) h]; simpa using hv
theorem Blk.all (h : Blk w b e cells) : Cells w b 0 cells := fun j u hu => by rw [Nat.zero_add]; exact h.cell hu
theorem Blk.alloc (w : World) (cells : List Value) (e : TypeId) : Blk (w.alloc (.cells cells.toArray e)) w.heap.size e cells := heap_alloc_new w _
end

/-- a field of a struct type, and its offset -/
class IsFd (P : Program) (t f : Nat) (o : outParam Nat) : Prop where
  ok : ∃ fs fld i, P.underlying t = some (.struct fs) ∧ fs[f]? = some fld ∧ fld.offset = o ∧ P.info? fld.type = some i ∧ i.size ≠ 0
def fdFact (P : Program) (t f : Nat) : Option (Nat × Bool) := match P.underlying t with
  | some (.struct fs) => (fs[f]?).bind fun fld => (P.info? fld.type).map fun i => (fld.offset, Nat.beq i.size 0)
  | _ => none
theorem IsFd.of {P : Program} {t f o : Nat} (h : fdFact P t f = some (o, false)) : IsFd P t f o := by
  unfold fdFact at h
  split at h
  · rename_i fs hu
    obtain ⟨fld, h1, h2⟩ := Option.bind_eq_some_iff.1 h
    obtain ⟨i, h3, h4⟩ := Option.map_eq_some_iff.1 h2
    simp only [Prod.mk.injEq] at h4
    refine ⟨fs, fld, i, hu, h1, h4.1, h3, fun e => ?_⟩
    rw [e] at h4; exact absurd h4.2 (by decide)
  · cases h
/-- a type's number of cells, and whether it is a struct or an array -/
class IsC (P : Program) (t : TypeId) (k : outParam Nat) (ag : outParam Bool) : Prop where
  ok : ∃ i d, P.info? t = some i ∧ i.size = k ∧ P.underlying t = some d ∧ aggD d = ag
theorem IsC.of {P : Program} {t : TypeId} {k : Nat} {ag : Bool} {d : TypeDesc} (h : (P.info? t).map (fun i => Nat.beq i.size k) = some true) (hu : P.underlying t = some d) (hd : aggD d = ag) : IsC P t k ag := by
  obtain ⟨i, hi, he⟩ := Option.map_eq_some_iff.1 h
  exact ⟨i, d, hi, Nat.eq_of_beq_eq_true he, hu, hd⟩
/-- a type's zero cells -/
class IsZC (P : Program) (t : TypeId) (zs : outParam (List Value)) : Prop where
  ok : ∃ i z, P.info? t = some i ∧ i.zero = some z ∧ z.cells = zs.toArray
theorem IsZC.of {P : Program} {t : TypeId} {z : Value} {zs : List Value} (h : (P.info? t).map (fun i => i.zero) = some (some z)) (hz : z.cells = zs.toArray) : IsZC P t zs := by
  obtain ⟨i, hi, he⟩ := Option.map_eq_some_iff.1 h
  exact ⟨i, z, hi, he, hz⟩
/-- the places of a struct's fields -/
class IsBd (P : Program) (t : TypeId) (places : outParam (List (Nat × Nat))) : Prop where
  ok : ∃ fs, P.underlying t = some (.struct fs) ∧ fs.toList.mapM (fun f => (P.info? f.type).map fun i => (f.offset, i.size)) = some places
def bdFact (P : Program) (t : TypeId) : Option (List (Nat × Nat)) := match P.underlying t with
  | some (.struct fs) => fs.toList.mapM (fun f => (P.info? f.type).map fun i => (f.offset, i.size))
  | _ => none
theorem IsBd.of {P : Program} {t : TypeId} {places : List (Nat × Nat)} (h : bdFact P t = some places) : IsBd P t places := by
  unfold bdFact at h
  split at h
  · rename_i fs hu; exact ⟨fs, hu, h⟩
  · cases h

def segL : List Value → Nat → Nat → Option (List Value)
  | _, 0, 0 => some []
  | v :: r, 0, n + 1 => (segL r 0 n).map (v :: ·)
  | _ :: r, o + 1, n => segL r o n
  | [], _, _ => none
theorem segL_eq : ∀ (l : List Value) (o n : Nat) (vs : List Value), segL l o n = some vs → vs.length = n ∧ ∀ j u, vs[j]? = some u → l[o + j]? = some u
  | [], 0, 0, vs, h => by simp [segL] at h; subst h; exact ⟨rfl, fun j u hu => by simp at hu⟩
  | v :: r, 0, 0, vs, h => by simp [segL] at h; subst h; exact ⟨rfl, fun j u hu => by simp at hu⟩
  | [], 0, n + 1, vs, h => by simp [segL] at h
  | [], o + 1, n, vs, h => by simp [segL] at h
  | v :: r, 0, n + 1, vs, h => by
    simp only [segL] at h
    obtain ⟨us, h1, h2⟩ := Option.map_eq_some_iff.1 h
    subst h2
    obtain ⟨h3, h4⟩ := segL_eq r 0 n us h1
    refine ⟨by simp [h3], fun j u hu => ?_⟩
    cases j with
    | zero => simpa using hu
    | succ j =>
      have := h4 j u (by simpa using hu)
      simpa using this
  | v :: r, o + 1, n, vs, h => by
    have h' : segL r o n = some vs := by cases n <;> simpa [segL] using h
    obtain ⟨h3, h4⟩ := segL_eq r o n vs h'
    refine ⟨h3, fun j u hu => ?_⟩
    have := h4 j u hu
    rw [show o + 1 + j = (o + j) + 1 by omega, List.getElem?_cons_succ]; exact this
/-- a value's cells -/
def cellsL : Value → List Value
  | .agg cs => cs.toList
  | v => [v]
theorem cellsL_eq (v : Value) : v.cells = (cellsL v).toArray := by cases v <;> rfl
def setL : List Value → Nat → Value → List Value
  | [], _, _ => []
  | _ :: r, 0, v => v :: r
  | u :: r, o + 1, v => u :: setL r o v
theorem setL_eq : ∀ (l : List Value) (o : Nat) (v : Value), setL l o v = l.set o v
  | [], _, _ => by simp [setL]
  | u :: r, 0, v => by simp [setL]
  | u :: r, o + 1, v => by simp [setL, setL_eq r o v]
def overL : List Value → Nat → List Value → Option (List Value)
  | l, 0, [] => some l
  | _ :: r, 0, v :: vs => (overL r 0 vs).map (v :: ·)
  | u :: r, o + 1, vs => (overL r o vs).map (u :: ·)
  | [], _, _ => none
theorem overL_eq : ∀ (l : List Value) (o : Nat) (vs out : List Value), overL l o vs = some out → o + vs.length ≤ l.length ∧ out = l.take o ++ vs ++ l.drop (o + vs.length)
  | [], 0, [], out, h => by simp [overL] at h; subst h; simp
  | v :: r, 0, [], out, h => by simp [overL] at h; subst h; simp
  | [], 0, v :: vs, out, h => by simp [overL] at h
  | [], o + 1, vs, out, h => by simp [overL] at h
  | u :: r, 0, v :: vs, out, h => by
    simp only [overL] at h
    obtain ⟨us, h1, h2⟩ := Option.map_eq_some_iff.1 h
    subst h2
    obtain ⟨h3, h4⟩ := overL_eq r 0 vs us h1
    refine ⟨by simp at h3 ⊢; omega, ?_⟩
    rw [h4]; simp
  | u :: r, o + 1, vs, out, h => by
    have h' : (overL r o vs).map (u :: ·) = some out := by cases vs <;> simpa [overL] using h
    obtain ⟨us, h1, h2⟩ := Option.map_eq_some_iff.1 h'
    subst h2
    obtain ⟨h3, h4⟩ := overL_eq r o vs us h1
    refine ⟨by simp at h3 ⊢; omega, ?_⟩
    rw [h4]
    rw [show o + 1 + vs.length = (o + vs.length) + 1 by omega]
    simp
def nthP : List (Nat × Nat) → Nat → Option (Nat × Nat)
  | [], _ => none
  | x :: _, 0 => some x
  | _ :: r, i + 1 => nthP r i
theorem nthP_eq : ∀ (l : List (Nat × Nat)) (i : Nat), nthP l i = l[i]?
  | [], i => by simp [nthP]
  | x :: r, 0 => by simp [nthP]
  | x :: r, i + 1 => by simp [nthP, nthP_eq r i]
def lenL : List Value → Nat
  | [] => 0
  | _ :: r => lenL r + 1
theorem lenL_eq : ∀ l : List Value, lenL l = l.length
  | [] => rfl
  | _ :: r => by simp [lenL, lenL_eq r]
/-- a struct's cells, field by field -/
def fillL (places : List (Nat × Nat)) : List Value → List (Nat × Value) → Option (List Value)
  | cells, [] => some cells
  | cells, (i, v) :: rest => match nthP places i with
    | none => none
    | some (off, k) => match Nat.beq (lenL (cellsL v)) k, overL cells off (cellsL v) with
      | true, some out => fillL places out rest
      | _, _ => none
theorem fillL_eq (places : List (Nat × Nat)) : ∀ (parts : List (Nat × Value)) (cells out : List Value), fillL places cells parts = some out → Instr.fill (places.toArray[·]?) cells.toArray parts = some out.toArray
  | [], cells, out, h => by simp [fillL] at h; subst h; simp [Instr.fill]
  | (i, v) :: rest, cells, out, h => by
    simp only [fillL] at h
    split at h
    · cases h
    · rename_i off k hp
      split at h
      · rename_i out1 hb ho
        obtain ⟨h1, h2⟩ := overL_eq _ _ _ _ ho
        have hk : (cellsL v).length = k := by rw [← lenL_eq]; exact Nat.eq_of_beq_eq_true hb
        have ih := fillL_eq places rest out1 out h
        rw [nthP_eq] at hp
        have hfs := fold_set (cellsL v) off cells.toArray (by simpa using h1)
        have hfa : (v.cells.zipIdx.foldl (fun (cs : Array Value) (x : Value × Nat) => cs.setIfInBounds (off + x.2) x.1) cells.toArray) = out1.toArray := by
          rw [cellsL_eq, ← Array.foldl_toList, Array.toList_zipIdx, h2]
          simpa using hfs
        have hfb : (v.cells.zipIdx.foldl (fun cs (x : Value × Nat) => match x with | (c, j) => cs.setIfInBounds (off + j) c) cells.toArray) = out1.toArray := hfa
        simp only [Instr.fill]
        rw [show (places.toArray[i]?) = some (off, k) by simpa using hp]
        simp only
        rw [if_neg (by rw [cellsL_eq]; simp [hk]; omega), hfb]
        exact ih
      · cases h

section
variable {P : Program} {Q : Exit → Act → World → Prop} {n : Nat} {σ : Sg} {w : World} {L rest : List Oper} {d : Nat} {ty : TypeId} {pos : String} {af : Array Edge} {g : Option (Nat × Bool)} {t e : TypeId} {x y : Operand} {b o : Nat} {cells : List Value}

theorem run_fa {f k : Nat} [hf : IsFd P t f k] (w : World) : (Instr.fieldAt t (.pointer (some ⟨b, o, none⟩)) f).run P w = .ok (.pointer (some ⟨b, o + k, none⟩)) w := by
  obtain ⟨fs, fld, i, h1, h2, h3, h4, h5⟩ := hf.ok
  simp [Instr.fieldAt, run_underlying h1, h2, Instr.sureAddr, fieldPlace, sizeOf, typeInfo, h4, h5, h3, WideShapes.add_plain]
/-- &x.f -/
theorem WL.fa {f k : Nat} (hg : gd L σ ⟨some d, .fieldAddr t x f, ty, pos, af, g⟩ = some true) (hd : Nat.ble (d + 1) n = true) (hx : ev σ x = some (.pointer (some ⟨b, o, none⟩))) [hf : IsFd P t f k]
    (h : WL P L Q rest n ((d, .pointer (some ⟨b, o + k, none⟩)) :: σ) w) : WL P L Q (⟨some d, .fieldAddr t x f, ty, pos, af, g⟩ :: rest) n σ w := by
  refine WL.run hg hd (fun a ha => ?_) h
  simp [execOp, ha.ev hx, run_fa (P := P) (t := t) (f := f) (k := k)]
theorem QL.fa {f k : Nat} (hg : gd L σ ⟨some d, .fieldAddr t x f, ty, pos, af, g⟩ = some true) (hd : Nat.ble (d + 1) n = true) (hx : ev σ x = some (.pointer (some ⟨b, o, none⟩))) [hf : IsFd P t f k]
    (h : QL P L w Q rest n ((d, .pointer (some ⟨b, o + k, none⟩)) :: σ)) : QL P L w Q (⟨some d, .fieldAddr t x f, ty, pos, af, g⟩ :: rest) n σ := by
  refine QL.run hg hd (fun a ha w' _ => ?_) h
  simp [execOp, ha.ev hx, run_fa (P := P) (t := t) (f := f) (k := k)]
theorem run_ld {v : Value} (w : World) (hb : Blk w b e cells) (hv : nthV cells o = some v) [hc : IsC P t 1 false] : (Instr.loadAt t (.pointer (some ⟨b, o, none⟩))).run P w = .ok v w := by
  obtain ⟨i, dd, h1, h2, h3, h4⟩ := hc.ok
  have hagg : (isAgg t).run P w = .ok false w := by
    unfold isAgg
    rw [Sem.run_bind, run_underlying h3 w, ← h4]
    cases dd <;> rfl
  rw [nthV_eq] at hv
  simp only [Instr.loadAt, Sem.run_bind, Instr.sureAddr, Sem.run_pure, Result.andThen_ok, loadVar, hagg]
  simp [hb.cell hv]
theorem run_ldA {vs : List Value} {k : Nat} (w : World) (hb : Blk w b e cells) (hv : segL cells o k = some vs) [hc : IsC P t k true] : (Instr.loadAt t (.pointer (some ⟨b, o, none⟩))).run P w = .ok (.agg vs.toArray) w := by
  obtain ⟨i, dd, h1, h2, h3, h4⟩ := hc.ok
  have hagg : (isAgg t).run P w = .ok true w := by
    unfold isAgg
    rw [Sem.run_bind, run_underlying h3 w, ← h4]
    cases dd <;> rfl
  obtain ⟨hl, hs⟩ := segL_eq _ _ _ _ hv
  have hld := run_loadCells_list (P := P) w ⟨b, o, none⟩ vs (fun j u hu => by rw [WideShapes.add_plain]; exact hb.cell (hs j u hu))
  rw [hl] at hld
  simp [Instr.loadAt, Instr.sureAddr, loadVar, hagg, sizeOf, typeInfo, h1, h2, hld]
/-- *p, one cell -/
theorem WL.ld {v : Value} (hg : gd L σ ⟨some d, .load t x, ty, pos, af, g⟩ = some true) (hd : Nat.ble (d + 1) n = true) (hx : ev σ x = some (.pointer (some ⟨b, o, none⟩))) [hc : IsC P t 1 false] (hb : Blk w b e cells) (hv : nthV cells o = some v)
    (h : WL P L Q rest n ((d, v) :: σ) w) : WL P L Q (⟨some d, .load t x, ty, pos, af, g⟩ :: rest) n σ w := by
  refine WL.run hg hd (fun a ha => ?_) h
  simp [execOp, ha.ev hx, run_ld (P := P) (t := t) w hb hv]
theorem QL.ld {v : Value} (hg : gd L σ ⟨some d, .load t x, ty, pos, af, g⟩ = some true) (hd : Nat.ble (d + 1) n = true) (hx : ev σ x = some (.pointer (some ⟨b, o, none⟩))) [hc : IsC P t 1 false] (hb : Blk w b e cells) (hv : nthV cells o = some v)
    (h : QL P L w Q rest n ((d, v) :: σ)) : QL P L w Q (⟨some d, .load t x, ty, pos, af, g⟩ :: rest) n σ := by
  refine QL.run hg hd (fun a ha w' hE => ?_) h
  simp [execOp, ha.ev hx, run_ld (P := P) (t := t) w' (hb.ext hE) hv]
/-- *p, a struct -/
theorem WL.ldA {vs : List Value} {k : Nat} (hg : gd L σ ⟨some d, .load t x, ty, pos, af, g⟩ = some true) (hd : Nat.ble (d + 1) n = true) (hx : ev σ x = some (.pointer (some ⟨b, o, none⟩))) [hc : IsC P t k true] (hb : Blk w b e cells) (hv : segL cells o k = some vs)
    (h : WL P L Q rest n ((d, .agg vs.toArray) :: σ) w) : WL P L Q (⟨some d, .load t x, ty, pos, af, g⟩ :: rest) n σ w := by
  refine WL.run hg hd (fun a ha => ?_) h
  simp [execOp, ha.ev hx, run_ldA (P := P) (t := t) w hb hv]
theorem QL.ldA {vs : List Value} {k : Nat} (hg : gd L σ ⟨some d, .load t x, ty, pos, af, g⟩ = some true) (hd : Nat.ble (d + 1) n = true) (hx : ev σ x = some (.pointer (some ⟨b, o, none⟩))) [hc : IsC P t k true] (hb : Blk w b e cells) (hv : segL cells o k = some vs)
    (h : QL P L w Q rest n ((d, .agg vs.toArray) :: σ)) : QL P L w Q (⟨some d, .load t x, ty, pos, af, g⟩ :: rest) n σ := by
  refine QL.run hg hd (fun a ha w' hE => ?_) h
  simp [execOp, ha.ev hx, run_ldA (P := P) (t := t) w' (hb.ext hE) hv]
/-- a nil check that passes -/
theorem WL.nck {p : Addr} (hg : gd L σ ⟨some d, .nilCheck x, ty, pos, af, g⟩ = some true) (hd : Nat.ble (d + 1) n = true) (hx : ev σ x = some (.pointer (some p)))
    (h : WL P L Q rest n ((d, .pointer (some p)) :: σ) w) : WL P L Q (⟨some d, .nilCheck x, ty, pos, af, g⟩ :: rest) n σ w := by
  refine WL.run hg hd (fun a ha => ?_) h
  simp [execOp, ha.ev hx]
theorem QL.nck {p : Addr} (hg : gd L σ ⟨some d, .nilCheck x, ty, pos, af, g⟩ = some true) (hd : Nat.ble (d + 1) n = true) (hx : ev σ x = some (.pointer (some p)))
    (h : QL P L w Q rest n ((d, .pointer (some p)) :: σ)) : QL P L w Q (⟨some d, .nilCheck x, ty, pos, af, g⟩ :: rest) n σ := by
  refine QL.run hg hd (fun a ha _ _ => ?_) h
  simp [execOp, ha.ev hx]
/-- a variable of the call's own, with a value -/
theorem WL.boxB {v : Value} (hg : gd L σ ⟨some d, .box e x, ty, pos, af, g⟩ = some true) (hd : Nat.ble (d + 1) n = true) (hx : ev σ x = some v)
    (h : ∀ w', Blk w' w.heap.size e (cellsL v) → Ext w w' → WL P L Q rest n ((d, .pointer (some ⟨w.heap.size, 0, none⟩)) :: σ) w') : WL P L Q (⟨some d, .box e x, ty, pos, af, g⟩ :: rest) n σ w := by
  refine WL.box hg hd hx ?_
  have := Blk.alloc w (cellsL v) e
  rw [← cellsL_eq] at this
  exact h _ this (Ext.alloc w _)
/-- .. with the zero value -/
theorem WL.alloc {zs : List Value} (hg : gd L σ ⟨some d, .alloc e, ty, pos, af, g⟩ = some true) (hd : Nat.ble (d + 1) n = true) [hz : IsZC P e zs]
    (h : ∀ w', Blk w' w.heap.size e zs → Ext w w' → WL P L Q rest n ((d, .pointer (some ⟨w.heap.size, 0, none⟩)) :: σ) w') : WL P L Q (⟨some d, .alloc e, ty, pos, af, g⟩ :: rest) n σ w := by
  obtain ⟨i, z, h1, h2, h3⟩ := hz.ok
  refine WL.run hg hd (fun a ha => ?_) (h _ (Blk.alloc w zs e) (Ext.alloc w _))
  simp [execOp, Instr.alloc, zeroValue, typeInfo, h1, h2, newVar, newRow, h3]
theorem grown_setRow (w : World) (b : Nat) (cs : Array Value) : w.grownBy (w.setRow b cs) (some b) := ⟨rfl, rfl, rfl, by simp, fun k _ hk => setRow_other w b k _ (fun e => hk (by simp [e]))⟩
/-- *p = v, as many cells as v has -/
theorem WL.st {v : Value} {k : Nat} {ag : Bool} {out : List Value} (hg : gd L σ ⟨none, .store t x y, ty, pos, af, g⟩ = some true) (hx : ev σ x = some (.pointer (some ⟨b, o, none⟩))) (hy : ev σ y = some v) [hc : IsC P t k ag] (hb : Blk w b e cells)
    (hk : lenL (cellsL v) = k) (hout : overL cells o (cellsL v) = some out) (h1 : ∀ u ∈ cellsL v, u.oneCell' = true)
    (h : ∀ w', Blk w' b e out → w.grownBy w' (some b) → WL P L Q rest n σ w') : WL P L Q (⟨none, .store t x y, ty, pos, af, g⟩ :: rest) n σ w := by
  obtain ⟨hle, rfl⟩ := overL_eq _ _ _ _ hout
  obtain ⟨i, dd, hi1, hi2, _, _⟩ := hc.ok
  rw [lenL_eq] at hk
  subst hk
  have hst := run_storeCells_at P b o e (cellsL v) 0 cells.toArray w hb (by simpa using hle) h1
  simp only [Nat.add_zero] at hst
  refine WL.runU hg (fun a ha => ?_) (h _ (by
    have := setRow_heap w b cells.toArray (cells.take o ++ cellsL v ++ cells.drop (o + (cellsL v).length)).toArray e (0, 0) hb
    exact this) (grown_setRow w b _))
  simp only [execOp, ha.ev hx, ha.ev hy, Instr.storeAt, Sem.run_bind, Instr.sureAddr, Sem.run_pure, Result.andThen_ok, storeVar, sizeOf, typeInfo, run_program, hi1, hi2, cellsL_eq, hst]
  simp
  simp [hst]
theorem run_buildA {parts : List (Nat × Operand)} {vs : List Value} {places : List (Nat × Nat)} {zs out : List Value} {a : Act} (ha : Fr n σ a)
    (hv : evs σ (sndL parts) = some vs) [hz : IsZC P t zs] [hp : IsBd P t places] (hf : fillL places zs ((parts.map (·.1)).zip vs) = some out) {w : World} {dd : Option Nat} :
    (execOp a.eval ⟨dd, .build t parts.toArray, ty, pos, af, g⟩).run P w = .ok (.value (.agg out.toArray)) w := by
  obtain ⟨i, z, h1, h2, h3⟩ := hz.ok
  obtain ⟨fs, h4, h5⟩ := hp.ok
  have hsnd : ∀ l : List (Nat × Operand), sndL l = l.map (·.2) := by
    intro l; induction l with
    | nil => rfl
    | cons p r ih => obtain ⟨i, x⟩ := p; simp [sndL, ih]
  have e1 := evs_eq ha (sndL parts) vs hv
  rw [hsnd, List.map_map] at e1
  have e2 : (parts.toArray.map fun (x : Nat × Operand) => (x.1, a.eval x.2)).toList = (parts.map (·.1)).zip vs := by
    rw [← e1]
    simp only [List.map_toArray]
    clear hv hf e1
    induction parts with
    | nil => rfl
    | cons p r ih => simpa using ih
  have hb : P.built t ((parts.map (·.1)).zip vs) = some out.toArray := by
    unfold Program.built
    rw [h1, h4]
    simp only [h2, h5]
    rw [h3]
    exact fillL_eq places _ zs out hf
  have hrun := run_build (P := P) w t (parts.toArray.map fun (x : Nat × Operand) => (x.1, a.eval x.2)) out.toArray (by rw [e2]; exact hb)
  have e3 : (execOp a.eval ⟨dd, .build t parts.toArray, ty, pos, af, g⟩) = (do let v ← Instr.build t (parts.toArray.map fun (x : Nat × Operand) => (x.1, a.eval x.2)); Pure.pure (Next.value v) : Sem Next) := rfl
  rw [e3, Sem.run_bind, hrun]
  rfl
/-- a struct's value -/
theorem WL.build {parts : List (Nat × Operand)} {vs : List Value} {places : List (Nat × Nat)} {zs out : List Value} (hg : gd L σ ⟨some d, .build t parts.toArray, ty, pos, af, g⟩ = some true) (hd : Nat.ble (d + 1) n = true)
    (hv : evs σ (sndL parts) = some vs) [hz : IsZC P t zs] [hp : IsBd P t places] (hf : fillL places zs ((parts.map (·.1)).zip vs) = some out)
    (h : WL P L Q rest n ((d, .agg out.toArray) :: σ) w) : WL P L Q (⟨some d, .build t parts.toArray, ty, pos, af, g⟩ :: rest) n σ w := by
  exact WL.run hg hd (fun a ha => run_buildA ha hv hf) h
end
end Go.Proofs.Ytllpfgcngokhnaa
/-
  Numbers: shifts, bits, division, conversions. Over any program.
-/
set_option linter.unusedVariables false
set_option linter.unusedSimpArgs false
namespace Go.Proofs.Ytllpfgcngokhnaa
open Go.RowKit

/-- a region, and what holds behind it: many ways that meet again -/
theorem CW.cut {P : Program} {Q : Exit → Act → World → Prop} {n : Nat} {σ : Sg} {w : World} {x y : Code} (τ : Sg) (h : CW P x (fun e a w' => e = .normal ∧ Fr n τ a ∧ w' = w) n σ w) (hr : CW P y Q n τ w) : CW P (.seq x y) Q n σ w := by
  refine CW.seq ?_
  unfold CW at *
  intro a ha
  refine wp_mono (h a ha) ?_
  rintro e a' w' ⟨rfl, hF, rfl⟩
  exact hr a' hF
theorem EX.cut {n : Nat} {σ τ : Sg} {w : World} (hs : Sub τ σ) : EX (fun e a w' => e = .normal ∧ Fr n τ a ∧ w' = w) .normal n σ w := by
  unfold EX; exact fun a ha => ⟨rfl, ha.sub hs, rfl⟩
/-- the same, with new memory -/
theorem CW.cutE {P : Program} {Q : Exit → Act → World → Prop} {n : Nat} {σ : Sg} {w : World} {x y : Code} (τ : Sg) (h : CW P x (fun e a w' => e = .normal ∧ Fr n τ a ∧ Ext w w') n σ w) (hr : ∀ w', Ext w w' → CW P y Q n τ w') : CW P (.seq x y) Q n σ w := by
  refine CW.seq ?_
  unfold CW at *
  intro a ha
  refine wp_mono (h a ha) ?_
  rintro e a' w' ⟨rfl, hF, hE⟩
  exact hr w' hE a' hF
theorem EX.cutE {n : Nat} {σ τ : Sg} {w w' : World} (hs : Sub τ σ) (hE : Ext w w') : EX (fun e a w' => e = .normal ∧ Fr n τ a ∧ Ext w w') .normal n σ w' := by
  unfold EX; exact fun a ha => ⟨rfl, ha.sub hs, hE⟩

/-- the same, with a state -/
theorem CW.cutI {P : Program} {Q : Exit → Act → World → Prop} {n : Nat} {σ : Sg} {w : World} {x y : Code} {S : Type} (σs : S → Sg) (I : S → World → Prop) (h : CW P x (fun e a w' => e = .normal ∧ ∃ s, Fr n (σs s) a ∧ I s w') n σ w) (hr : ∀ s w', I s w' → CW P y Q n (σs s) w') : CW P (.seq x y) Q n σ w := by
  refine CW.seq ?_
  unfold CW at *
  intro a ha
  refine wp_mono (h a ha) ?_
  rintro e a' w' ⟨rfl, s, hF, hI⟩
  exact hr s w' hI a' hF
theorem EX.cutI {n : Nat} {σ : Sg} {w : World} {S : Type} {σs : S → Sg} {I : S → World → Prop} (s : S) (hs : Sub (σs s) σ) (hI : I s w) : EX (fun e a w' => e = .normal ∧ ∃ s, Fr n (σs s) a ∧ I s w') .normal n σ w := by
  unfold EX; exact fun a ha => ⟨rfl, s, ha.sub hs, hI⟩

def onesL : List Value → Bool
  | [] => true
  | v :: r => match v.oneCell' with
    | true => onesL r
    | false => false
theorem ones_of : ∀ {l : List Value}, onesL l = true → ∀ u ∈ l, u.oneCell' = true
  | [], _, u, hu => by cases hu
  | v :: r, h, u, hu => by
    simp only [onesL] at h
    split at h
    · rename_i hv
      rcases List.mem_cons.1 hu with rfl | hu
      · exact hv
      · exact ones_of h u hu
    · cases h
theorem eqG {op : BinOp} (h : (op == .eql || op == .neq) = false) (t : TypeId) (x y : Operand) (u v : Value) : eqGuard op t x y u v = Pure.pure () := by
  cases op <;> first | rfl | (simp at h)
theorem shr_nat (a s : Nat) (ha : a < 18446744073709551616) : (a : Int) / 2 ^ min s 64 = ((a >>> s : Nat) : Int) := by
  rw [Nat.shiftRight_eq_div_pow]
  by_cases h : s ≤ 64
  · rw [Nat.min_eq_left h]; simp
  · rw [Nat.min_eq_right (by omega)]
    have h1 : a / 2 ^ s = 0 := Nat.div_eq_of_lt (Nat.lt_of_lt_of_le ha (by
      have := Nat.pow_le_pow_right (n := 2) (by omega) (show 64 ≤ s by omega)
      simpa using this))
    rw [h1]
    omega
theorem run_shrN (P : Program) (w : World) (a s : Nat) (ha : a < 18446744073709551616) (t : TypeId) : (binOp .shr t (.int .u64 (a : Int)) (.int .i64 (s : Int))).run P w = .ok (.int .u64 ((a >>> s : Nat) : Int)) w := by
  have h : binOp .shr t (.int .u64 (a : Int)) (.int .i64 (s : Int)) = Op.shift .shr .u64 (a : Int) .i64 (s : Int) := rfl
  rw [h, shift_shr_any _ _ _ _ (by omega)]
  have := shr_nat a s ha
  simp only [Int.toNat_natCast, IntKind.bits]
  rw [this]
  rfl
theorem run_shrI (P : Program) (w : World) (a : Nat) (s : Int) (ha : a < 18446744073709551616) (hs : 0 ≤ s) (t : TypeId) : (binOp .shr t (.int .u64 (a : Int)) (.int .i64 s)).run P w = .ok (.int .u64 ((a >>> s.toNat : Nat) : Int)) w := by
  have h1 := run_shrN P w a s.toNat ha t
  rwa [Int.toNat_of_nonneg hs] at h1
theorem run_shrN63 (P : Program) (w : World) (a s : Nat) (ha : a < 18446744073709551616) (t : TypeId) : (binOp .shr t (.int .u64 (a : Int)) (.int .u64 (s : Int))).run P w = .ok (.int .u64 ((a >>> s : Nat) : Int)) w := by
  have h : binOp .shr t (.int .u64 (a : Int)) (.int .u64 (s : Int)) = Op.shift .shr .u64 (a : Int) .u64 (s : Int) := rfl
  rw [h, shift_shr_any _ _ _ _ (by omega)]
  have := shr_nat a s ha
  simp only [Int.toNat_natCast, IntKind.bits]
  rw [this]
  rfl
theorem run_andN (P : Program) (w : World) (a b : Nat) (ha : a < 18446744073709551616) (hb : b < 18446744073709551616) (t : TypeId) : (binOp .and t (.int .u64 (a : Int)) (.int .u64 (b : Int))).run P w = .ok (.int .u64 ((a &&& b : Nat) : Int)) w := by
  have h : binOp .and t (.int .u64 (a : Int)) (.int .u64 (b : Int)) = Op.intBits .and .u64 (a : Int) (b : Int) := rfl
  rw [h, intBits_and, bits_and_u64_nat a b ha hb]; rfl
theorem run_orN (P : Program) (w : World) (a b : Nat) (ha : a < 18446744073709551616) (hb : b < 18446744073709551616) (t : TypeId) : (binOp .or t (.int .u64 (a : Int)) (.int .u64 (b : Int))).run P w = .ok (.int .u64 ((a ||| b : Nat) : Int)) w := by
  have h : binOp .or t (.int .u64 (a : Int)) (.int .u64 (b : Int)) = Op.intBits .or .u64 (a : Int) (b : Int) := rfl
  rw [h, intBits_or, bits_or_u64_nat a b ha hb]; rfl
theorem run_rem (P : Program) (w : World) (a b : Int) (ha : 0 ≤ a) (hb : 0 < b) (t : TypeId) (k : IntKind) : (binOp .rem t (.int k a) (.int k b)).run P w = .ok (.int k (a % b)) w := by
  have h : binOp .rem t (.int k a) (.int k b) = Op.intDiv .rem k a b := by simp [binOp]
  have h0 : ¬ b = 0 := by omega
  rw [h]
  simp [Op.intDiv, h0, Int.tmod_eq_emod_of_nonneg ha]
theorem run_remT (P : Program) (w : World) (a b : Int) (hb : b ≠ 0) (t : TypeId) (k : IntKind) : (binOp .rem t (.int k a) (.int k b)).run P w = .ok (.int k (a.tmod b)) w := by
  have h : binOp .rem t (.int k a) (.int k b) = Op.intDiv .rem k a b := by simp [binOp]
  rw [h]
  simp [Op.intDiv, hb]
theorem run_quo (P : Program) (w : World) (a b : Int) (ha : 0 ≤ a) (hb : 0 < b) (hm : a < 9223372036854775808) (t : TypeId) : (binOp .quo t (.int .i64 a) (.int .i64 b)).run P w = .ok (.int .i64 (a / b)) w := by
  have h : binOp .quo t (.int .i64 a) (.int .i64 b) = Op.intDiv .quo .i64 a b := by simp [binOp]
  have h0 : ¬ b = 0 := by omega
  have h1 : 0 ≤ a / b := Int.ediv_nonneg ha (by omega)
  have h2 : a / b ≤ a := Int.ediv_le_self b ha
  rw [h]
  simp [Op.intDiv, h0, Int.tdiv_eq_ediv_of_nonneg ha, wrap_in (a := a / b) (by omega) (by omega)]

class IsI (P : Program) (t : TypeId) (k : IntKind) : Prop where
  ok : P.underlying t = some (.int k)

section
variable {P : Program} {Q : Exit → Act → World → Prop} {n : Nat} {σ : Sg} {w : World} {L rest : List Oper} {d : Nat} {ty : TypeId} {pos : String} {af : Array Edge} {g : Option (Nat × Bool)} {t yt : TypeId} {x y : Operand}
theorem WL.shrN {a s : Nat} (hg : gd L σ ⟨some d, .binOp .shr t x y yt, ty, pos, af, g⟩ = some true) (hd : Nat.ble (d + 1) n = true) (hx : ev σ x = some (.int .u64 (a : Int))) (hy : ev σ y = some (.int .i64 (s : Int))) (ha : a < 18446744073709551616)
    (h : WL P L Q rest n ((d, .int .u64 ((a >>> s : Nat) : Int)) :: σ) w) : WL P L Q (⟨some d, .binOp .shr t x y yt, ty, pos, af, g⟩ :: rest) n σ w := by
  refine WL.run hg hd (fun a0 ha0 => ?_) h
  have := run_shrN P w a s ha t
  simp [execOp, ha0.ev hx, ha0.ev hy, eqG (op := .shr) rfl, this]
theorem WL.shrN63 {a : Nat} (hg : gd L σ ⟨some d, .binOp .shr t x y yt, ty, pos, af, g⟩ = some true) (hd : Nat.ble (d + 1) n = true) (hx : ev σ x = some (.int .u64 (a : Int))) (hy : ev σ y = some (.int .u64 63)) (ha : a < 18446744073709551616)
    (h : WL P L Q rest n ((d, .int .u64 ((a >>> 63 : Nat) : Int)) :: σ) w) : WL P L Q (⟨some d, .binOp .shr t x y yt, ty, pos, af, g⟩ :: rest) n σ w := by
  refine WL.run hg hd (fun a0 ha0 => ?_) h
  have := (show (binOp .shr t (.int .u64 (a : Int)) (.int .u64 63)).run P w = .ok (.int .u64 ((a >>> 63 : Nat) : Int)) w from run_shrN63 P w a 63 ha t)
  simp [execOp, ha0.ev hx, ha0.ev hy, eqG (op := .shr) rfl, this]
theorem WL.shrI {a : Nat} {s : Int} (hg : gd L σ ⟨some d, .binOp .shr t x y yt, ty, pos, af, g⟩ = some true) (hd : Nat.ble (d + 1) n = true) (hx : ev σ x = some (.int .u64 (a : Int))) (hy : ev σ y = some (.int .i64 s)) (ha : a < 18446744073709551616) (hs : 0 ≤ s)
    (h : WL P L Q rest n ((d, .int .u64 ((a >>> s.toNat : Nat) : Int)) :: σ) w) : WL P L Q (⟨some d, .binOp .shr t x y yt, ty, pos, af, g⟩ :: rest) n σ w := by
  refine WL.run hg hd (fun a0 ha0 => ?_) h
  have := run_shrI P w a s ha hs t
  simp [execOp, ha0.ev hx, ha0.ev hy, eqG (op := .shr) rfl, this]
theorem WL.andN {a b : Nat} (hg : gd L σ ⟨some d, .binOp .and t x y yt, ty, pos, af, g⟩ = some true) (hd : Nat.ble (d + 1) n = true) (hx : ev σ x = some (.int .u64 (a : Int))) (hy : ev σ y = some (.int .u64 (b : Int))) (ha : a < 18446744073709551616) (hb : b < 18446744073709551616)
    (h : WL P L Q rest n ((d, .int .u64 ((a &&& b : Nat) : Int)) :: σ) w) : WL P L Q (⟨some d, .binOp .and t x y yt, ty, pos, af, g⟩ :: rest) n σ w := by
  refine WL.run hg hd (fun a0 ha0 => ?_) h
  have := run_andN P w a b ha hb t
  simp [execOp, ha0.ev hx, ha0.ev hy, eqG (op := .and) rfl, this]
theorem WL.and1 {a : Nat} (hg : gd L σ ⟨some d, .binOp .and t x y yt, ty, pos, af, g⟩ = some true) (hd : Nat.ble (d + 1) n = true) (hx : ev σ x = some (.int .u64 (a : Int))) (hy : ev σ y = some (.int .u64 1)) (ha : a < 18446744073709551616)
    (h : WL P L Q rest n ((d, .int .u64 ((a &&& 1 : Nat) : Int)) :: σ) w) : WL P L Q (⟨some d, .binOp .and t x y yt, ty, pos, af, g⟩ :: rest) n σ w := by
  refine WL.run hg hd (fun a0 ha0 => ?_) h
  have : (binOp .and t (.int .u64 (a : Int)) (.int .u64 1)).run P w = .ok (.int .u64 ((a &&& 1 : Nat) : Int)) w := run_andN P w a 1 ha (by omega) t
  simp [execOp, ha0.ev hx, ha0.ev hy, eqG (op := .and) rfl, this]
theorem WL.orN {a b : Nat} (hg : gd L σ ⟨some d, .binOp .or t x y yt, ty, pos, af, g⟩ = some true) (hd : Nat.ble (d + 1) n = true) (hx : ev σ x = some (.int .u64 (a : Int))) (hy : ev σ y = some (.int .u64 (b : Int))) (ha : a < 18446744073709551616) (hb : b < 18446744073709551616)
    (h : WL P L Q rest n ((d, .int .u64 ((a ||| b : Nat) : Int)) :: σ) w) : WL P L Q (⟨some d, .binOp .or t x y yt, ty, pos, af, g⟩ :: rest) n σ w := by
  refine WL.run hg hd (fun a0 ha0 => ?_) h
  have := run_orN P w a b ha hb t
  simp [execOp, ha0.ev hx, ha0.ev hy, eqG (op := .or) rfl, this]
theorem WL.rem {a b : Int} {k : IntKind} (hg : gd L σ ⟨some d, .binOp .rem t x y yt, ty, pos, af, g⟩ = some true) (hd : Nat.ble (d + 1) n = true) (hx : ev σ x = some (.int k a)) (hy : ev σ y = some (.int k b)) (ha : 0 ≤ a) (hb : 0 < b)
    (h : WL P L Q rest n ((d, .int k (a % b)) :: σ) w) : WL P L Q (⟨some d, .binOp .rem t x y yt, ty, pos, af, g⟩ :: rest) n σ w := by
  refine WL.run hg hd (fun a0 ha0 => ?_) h
  have := run_rem P w a b ha hb t k
  simp [execOp, ha0.ev hx, ha0.ev hy, eqG (op := .rem) rfl, this]
theorem WL.remT {a b : Int} {k : IntKind} (hg : gd L σ ⟨some d, .binOp .rem t x y yt, ty, pos, af, g⟩ = some true) (hd : Nat.ble (d + 1) n = true) (hx : ev σ x = some (.int k a)) (hy : ev σ y = some (.int k b)) (hb : b ≠ 0)
    (h : WL P L Q rest n ((d, .int k (a.tmod b)) :: σ) w) : WL P L Q (⟨some d, .binOp .rem t x y yt, ty, pos, af, g⟩ :: rest) n σ w := by
  refine WL.run hg hd (fun a0 ha0 => ?_) h
  have := run_remT P w a b hb t k
  simp [execOp, ha0.ev hx, ha0.ev hy, eqG (op := .rem) rfl, this]
theorem WL.quo {a b : Int} (hg : gd L σ ⟨some d, .binOp .quo t x y yt, ty, pos, af, g⟩ = some true) (hd : Nat.ble (d + 1) n = true) (hx : ev σ x = some (.int .i64 a)) (hy : ev σ y = some (.int .i64 b)) (ha : 0 ≤ a) (hb : 0 < b) (hm : a < 9223372036854775808)
    (h : WL P L Q rest n ((d, .int .i64 (a / b)) :: σ) w) : WL P L Q (⟨some d, .binOp .quo t x y yt, ty, pos, af, g⟩ :: rest) n σ w := by
  refine WL.run hg hd (fun a0 ha0 => ?_) h
  have := run_quo P w a b ha hb hm t
  simp [execOp, ha0.ev hx, ha0.ev hy, eqG (op := .quo) rfl, this]
theorem WL.conv {a : Int} {k k' : IntKind} (hg : gd L σ ⟨some d, .convert t yt x, ty, pos, af, g⟩ = some true) (hd : Nat.ble (d + 1) n = true) (hx : ev σ x = some (.int k a)) [h1 : IsI P t k] [h2 : IsI P yt k']
    (h : WL P L Q rest n ((d, .int k' (k'.wrap a)) :: σ) w) : WL P L Q (⟨some d, .convert t yt x, ty, pos, af, g⟩ :: rest) n σ w := by
  refine WL.run hg hd (fun a0 ha0 => ?_) h
  simp [execOp, ha0.ev hx, convert, run_underlying h1.ok, run_underlying h2.ok, Conv.intToInt]
theorem QL.shrN {a s : Nat} (hg : gd L σ ⟨some d, .binOp .shr t x y yt, ty, pos, af, g⟩ = some true) (hd : Nat.ble (d + 1) n = true) (hx : ev σ x = some (.int .u64 (a : Int))) (hy : ev σ y = some (.int .i64 (s : Int))) (ha : a < 18446744073709551616)
    (h : QL P L w Q rest n ((d, .int .u64 ((a >>> s : Nat) : Int)) :: σ)) : QL P L w Q (⟨some d, .binOp .shr t x y yt, ty, pos, af, g⟩ :: rest) n σ := by
  refine QL.run hg hd (fun a0 ha0 w1 _ => ?_) h
  have := run_shrN P w1 a s ha t
  simp [execOp, ha0.ev hx, ha0.ev hy, eqG (op := .shr) rfl, this]
theorem QL.shrN63 {a : Nat} (hg : gd L σ ⟨some d, .binOp .shr t x y yt, ty, pos, af, g⟩ = some true) (hd : Nat.ble (d + 1) n = true) (hx : ev σ x = some (.int .u64 (a : Int))) (hy : ev σ y = some (.int .u64 63)) (ha : a < 18446744073709551616)
    (h : QL P L w Q rest n ((d, .int .u64 ((a >>> 63 : Nat) : Int)) :: σ)) : QL P L w Q (⟨some d, .binOp .shr t x y yt, ty, pos, af, g⟩ :: rest) n σ := by
  refine QL.run hg hd (fun a0 ha0 w1 _ => ?_) h
  have := (show (binOp .shr t (.int .u64 (a : Int)) (.int .u64 63)).run P w1 = .ok (.int .u64 ((a >>> 63 : Nat) : Int)) w1 from run_shrN63 P w1 a 63 ha t)
  simp [execOp, ha0.ev hx, ha0.ev hy, eqG (op := .shr) rfl, this]
theorem QL.shrI {a : Nat} {s : Int} (hg : gd L σ ⟨some d, .binOp .shr t x y yt, ty, pos, af, g⟩ = some true) (hd : Nat.ble (d + 1) n = true) (hx : ev σ x = some (.int .u64 (a : Int))) (hy : ev σ y = some (.int .i64 s)) (ha : a < 18446744073709551616) (hs : 0 ≤ s)
    (h : QL P L w Q rest n ((d, .int .u64 ((a >>> s.toNat : Nat) : Int)) :: σ)) : QL P L w Q (⟨some d, .binOp .shr t x y yt, ty, pos, af, g⟩ :: rest) n σ := by
  refine QL.run hg hd (fun a0 ha0 w1 _ => ?_) h
  have := run_shrI P w1 a s ha hs t
  simp [execOp, ha0.ev hx, ha0.ev hy, eqG (op := .shr) rfl, this]
theorem QL.andN {a b : Nat} (hg : gd L σ ⟨some d, .binOp .and t x y yt, ty, pos, af, g⟩ = some true) (hd : Nat.ble (d + 1) n = true) (hx : ev σ x = some (.int .u64 (a : Int))) (hy : ev σ y = some (.int .u64 (b : Int))) (ha : a < 18446744073709551616) (hb : b < 18446744073709551616)
    (h : QL P L w Q rest n ((d, .int .u64 ((a &&& b : Nat) : Int)) :: σ)) : QL P L w Q (⟨some d, .binOp .and t x y yt, ty, pos, af, g⟩ :: rest) n σ := by
  refine QL.run hg hd (fun a0 ha0 w1 _ => ?_) h
  have := run_andN P w1 a b ha hb t
  simp [execOp, ha0.ev hx, ha0.ev hy, eqG (op := .and) rfl, this]
theorem QL.and1 {a : Nat} (hg : gd L σ ⟨some d, .binOp .and t x y yt, ty, pos, af, g⟩ = some true) (hd : Nat.ble (d + 1) n = true) (hx : ev σ x = some (.int .u64 (a : Int))) (hy : ev σ y = some (.int .u64 1)) (ha : a < 18446744073709551616)
    (h : QL P L w Q rest n ((d, .int .u64 ((a &&& 1 : Nat) : Int)) :: σ)) : QL P L w Q (⟨some d, .binOp .and t x y yt, ty, pos, af, g⟩ :: rest) n σ := by
  refine QL.run hg hd (fun a0 ha0 w1 _ => ?_) h
  have : (binOp .and t (.int .u64 (a : Int)) (.int .u64 1)).run P w1 = .ok (.int .u64 ((a &&& 1 : Nat) : Int)) w1 := run_andN P w1 a 1 ha (by omega) t
  simp [execOp, ha0.ev hx, ha0.ev hy, eqG (op := .and) rfl, this]
theorem QL.orN {a b : Nat} (hg : gd L σ ⟨some d, .binOp .or t x y yt, ty, pos, af, g⟩ = some true) (hd : Nat.ble (d + 1) n = true) (hx : ev σ x = some (.int .u64 (a : Int))) (hy : ev σ y = some (.int .u64 (b : Int))) (ha : a < 18446744073709551616) (hb : b < 18446744073709551616)
    (h : QL P L w Q rest n ((d, .int .u64 ((a ||| b : Nat) : Int)) :: σ)) : QL P L w Q (⟨some d, .binOp .or t x y yt, ty, pos, af, g⟩ :: rest) n σ := by
  refine QL.run hg hd (fun a0 ha0 w1 _ => ?_) h
  have := run_orN P w1 a b ha hb t
  simp [execOp, ha0.ev hx, ha0.ev hy, eqG (op := .or) rfl, this]
theorem QL.rem {a b : Int} {k : IntKind} (hg : gd L σ ⟨some d, .binOp .rem t x y yt, ty, pos, af, g⟩ = some true) (hd : Nat.ble (d + 1) n = true) (hx : ev σ x = some (.int k a)) (hy : ev σ y = some (.int k b)) (ha : 0 ≤ a) (hb : 0 < b)
    (h : QL P L w Q rest n ((d, .int k (a % b)) :: σ)) : QL P L w Q (⟨some d, .binOp .rem t x y yt, ty, pos, af, g⟩ :: rest) n σ := by
  refine QL.run hg hd (fun a0 ha0 w1 _ => ?_) h
  have := run_rem P w1 a b ha hb t k
  simp [execOp, ha0.ev hx, ha0.ev hy, eqG (op := .rem) rfl, this]
theorem QL.remT {a b : Int} {k : IntKind} (hg : gd L σ ⟨some d, .binOp .rem t x y yt, ty, pos, af, g⟩ = some true) (hd : Nat.ble (d + 1) n = true) (hx : ev σ x = some (.int k a)) (hy : ev σ y = some (.int k b)) (hb : b ≠ 0)
    (h : QL P L w Q rest n ((d, .int k (a.tmod b)) :: σ)) : QL P L w Q (⟨some d, .binOp .rem t x y yt, ty, pos, af, g⟩ :: rest) n σ := by
  refine QL.run hg hd (fun a0 ha0 w1 _ => ?_) h
  have := run_remT P w1 a b hb t k
  simp [execOp, ha0.ev hx, ha0.ev hy, eqG (op := .rem) rfl, this]
theorem QL.quo {a b : Int} (hg : gd L σ ⟨some d, .binOp .quo t x y yt, ty, pos, af, g⟩ = some true) (hd : Nat.ble (d + 1) n = true) (hx : ev σ x = some (.int .i64 a)) (hy : ev σ y = some (.int .i64 b)) (ha : 0 ≤ a) (hb : 0 < b) (hm : a < 9223372036854775808)
    (h : QL P L w Q rest n ((d, .int .i64 (a / b)) :: σ)) : QL P L w Q (⟨some d, .binOp .quo t x y yt, ty, pos, af, g⟩ :: rest) n σ := by
  refine QL.run hg hd (fun a0 ha0 w1 _ => ?_) h
  have := run_quo P w1 a b ha hb hm t
  simp [execOp, ha0.ev hx, ha0.ev hy, eqG (op := .quo) rfl, this]
theorem QL.conv {a : Int} {k k' : IntKind} (hg : gd L σ ⟨some d, .convert t yt x, ty, pos, af, g⟩ = some true) (hd : Nat.ble (d + 1) n = true) (hx : ev σ x = some (.int k a)) [h1 : IsI P t k] [h2 : IsI P yt k']
    (h : QL P L w Q rest n ((d, .int k' (k'.wrap a)) :: σ)) : QL P L w Q (⟨some d, .convert t yt x, ty, pos, af, g⟩ :: rest) n σ := by
  refine QL.run hg hd (fun a0 ha0 w1 _ => ?_) h
  simp [execOp, ha0.ev hx, convert, run_underlying h1.ok, run_underlying h2.ok, Conv.intToInt]
end
end Go.Proofs.Ytllpfgcngokhnaa
/-
  Structs as pairs: their readings, their opening. Over any program.
-/
set_option linter.unusedVariables false
set_option linter.unusedSimpArgs false
namespace Go.Proofs.Ytllpfgcngokhnaa
open Go.RowKit

instance iPr1 {α β : Type} [Rep α] [Rep β] : Rep (α × β) where
  sz := sz α + sz β
  pos := by have := (Rep.pos : 0 < Rep.sz α); show 0 < Rep.sz α + Rep.sz β; omega
  agg := true
  rd := fun w F cs x => ∃ c1 c2, cs = c1 ++ c2 ∧ rd w F c1 x.1 ∧ rd w F c2 x.2
  len := by rintro w F cs x ⟨c1, c2, rfl, h1, h2⟩; rw [List.length_append, Rep.len h1, Rep.len h2]
  one := by
    rintro w F cs x ⟨c1, c2, rfl, h1, h2⟩ v hv
    rcases List.mem_append.1 hv with h | h
    · exact Rep.one h1 v h
    · exact Rep.one h2 v h
  szAgg := fun h => by cases h
  mono := by rintro w w' F F' cs x ⟨c1, c2, rfl, h1, h2⟩ hb hF; exact ⟨c1, c2, rfl, Rep.mono h1 hb hF, Rep.mono h2 hb hF⟩

/-- a struct's cells and what they say: field by field -/
theorem Rd.pr {α β : Type} [Rep α] [Rep β] {w : World} {F : Nat → Prop} {v : Value} {x : α × β} (h : Rd w F v x) : ∃ c1 c2, v = .agg (c1 ++ c2).toArray ∧ rd w F c1 x.1 ∧ rd w F c2 x.2 := by
  obtain ⟨cs, rfl, c1, c2, rfl, h1, h2⟩ := h
  exact ⟨c1, c2, rfl, h1, h2⟩
theorem rd_pr {α β : Type} [Rep α] [Rep β] {w : World} {F : Nat → Prop} {cs : List Value} {x : α × β} (h : rd w F cs x) : ∃ c1 c2, cs = c1 ++ c2 ∧ rd w F c1 x.1 ∧ rd w F c2 x.2 := h
theorem rd_int {w : World} {F : Nat → Prop} {cs : List Value} {x : Int} (h : rd w F cs x) : cs = [.int .i64 x] := h
theorem rd_bool {w : World} {F : Nat → Prop} {cs : List Value} {x : Bool} (h : rd w F cs x) : cs = [.bool x] := h
theorem rd_u64 {w : World} {F : Nat → Prop} {cs : List Value} {x : Nat} (h : rd w F cs x) : cs = [.int .u64 (x : Int)] ∧ x < 18446744073709551616 := h
theorem rd_sl {α : Type} [Rep α] {w : World} {F : Nat → Prop} {cs : List Value} {x : List α} (h : rd w F cs x) : ∃ ao cap, cs = [.slice ao x.length cap] ∧ Sl w F ao cap x := h
theorem Rd.mkPr {α β : Type} [Rep α] [Rep β] {w : World} {F : Nat → Prop} {c1 c2 : List Value} {x : α} {y : β} (h1 : rd w F c1 x) (h2 : rd w F c2 y) : Rd w F (.agg (c1 ++ c2).toArray) (x, y) := ⟨_, rfl, c1, c2, rfl, h1, h2⟩
theorem rd_mk {α β : Type} [Rep α] [Rep β] {w : World} {F : Nat → Prop} {c1 c2 : List Value} {x : α} {y : β} (h1 : rd w F c1 x) (h2 : rd w F c2 y) : rd w F (c1 ++ c2) (x, y) := ⟨c1, c2, rfl, h1, h2⟩
theorem rd_mkInt (w : World) (F : Nat → Prop) (x : Int) : rd w F [.int .i64 x] x := rfl
theorem rd_mkBool (w : World) (F : Nat → Prop) (x : Bool) : rd w F [.bool x] x := rfl
theorem rd_mkU64 (w : World) (F : Nat → Prop) (x : Nat) (h : x < 18446744073709551616) : rd w F [.int .u64 (x : Int)] x := ⟨rfl, h⟩
theorem rd_mkSl {α : Type} [Rep α] {w : World} {F : Nat → Prop} {ao : Option Addr} {cap : Nat} {x : List α} (h : Sl w F ao cap x) : rd w F [.slice ao x.length cap] x := ⟨ao, cap, rfl, h⟩

/-- words and patterns -/
abbrev LWord := List Nat × List Nat
abbrev LPat := Int × Int × Int × Int × Int × Int × Int
theorem Rd.word {w : World} {F : Nat → Prop} {v : Value} {x : LWord} (h : Rd w F v x) : ∃ so sc lo lc, v = .agg [.slice so x.1.length sc, .slice lo x.2.length lc].toArray ∧ Sl w F so sc x.1 ∧ Sl w F lo lc x.2 := by
  obtain ⟨c1, c2, rfl, h1, h2⟩ := h.pr
  obtain ⟨so, sc, rfl, k1⟩ := rd_sl h1
  obtain ⟨lo, lc, rfl, k2⟩ := rd_sl h2
  exact ⟨so, sc, lo, lc, rfl, k1, k2⟩
theorem Rd.pat {w : World} {F : Nat → Prop} {v : Value} {x : LPat} (h : Rd w F v x) : v = .agg [.int .i64 x.1, .int .i64 x.2.1, .int .i64 x.2.2.1, .int .i64 x.2.2.2.1, .int .i64 x.2.2.2.2.1, .int .i64 x.2.2.2.2.2.1, .int .i64 x.2.2.2.2.2.2].toArray := by
  obtain ⟨c1, r1, rfl, h1, k1⟩ := h.pr
  obtain ⟨c2, r2, rfl, h2, k2⟩ := rd_pr k1
  obtain ⟨c3, r3, rfl, h3, k3⟩ := rd_pr k2
  obtain ⟨c4, r4, rfl, h4, k4⟩ := rd_pr k3
  obtain ⟨c5, r5, rfl, h5, k5⟩ := rd_pr k4
  obtain ⟨c6, c7, rfl, h6, h7⟩ := rd_pr k5
  rw [rd_int h1, rd_int h2, rd_int h3, rd_int h4, rd_int h5, rd_int h6, rd_int h7]
  rfl
end Go.Proofs.Ytllpfgcngokhnaa
/-
  Regions whose order is open and which change memory: what only reads is taken first, what changes memory comes alone. Over any program.
-/
set_option linter.unusedVariables false
set_option linter.unusedSimpArgs false
namespace Go.Proofs.Ytllpfgcngokhnaa
open Go.RowKit

def nthO : List Oper → Nat → Option Oper
  | [], _ => none
  | o :: _, 0 => some o
  | _ :: r, i + 1 => nthO r i
theorem nthO_eq : ∀ (l : List Oper) (i : Nat), nthO l i = l[i]?
  | [], i => by simp [nthO]
  | o :: r, 0 => by simp [nthO]
  | o :: r, i + 1 => by simp [nthO, nthO_eq r i]
/-- an order that stands for all: (i, true): number i may be taken first; (i, false): nothing else may come -/
def ordB (ops : Array Oper) : List (Nat × Bool) → Array Bool → Bool
  | [], listed => (Region.ready .any ops listed).isEmpty
  | (i, true) :: r, listed => (Region.ready .any ops listed).contains i && Region.free .any ops listed i && ordB ops r (listed.setIfInBounds i true)
  | (i, false) :: r, listed => decide (Region.ready .any ops listed = [i]) && ordB ops r (listed.setIfInBounds i true)
def ordOk (l : List Oper) (ord : List (Nat × Bool)) : Bool := Region.noSelect l.toArray && decide (ord.length = l.length) && ordB l.toArray ord (Array.replicate l.length false)

/-- the walk along the order -/
def wpHL (P : Program) (ops : List Oper) (S : World → Prop) (Q : Act → World → Prop) : List (Nat × Bool) → Act → World → Prop
  | [], a, w => Q a w
  | (i, true) :: r, a, w => ∃ o v, ops[i]? = some o ∧ YieldsIf P ops.toArray S o v a ∧ wpHL P ops S Q r (a.put o.dst v) w
  | (i, false) :: r, a, w => ∃ o, ops[i]? = some o ∧ (if Region.wanted o (yielded ops.toArray a.tmps) = true then o.wp P a w (fun a' w' => S w' ∧ wpHL P ops S Q r a' w') (fun e a w => e = .normal ∧ Q a w) else S w ∧ wpHL P ops S Q r (a.put o.dst undef) w)

theorem wpHL_sound {P : Program} {ops : List Oper} {S : World → Prop} {Q : Act → World → Prop} (hs : Region.noSelect ops.toArray = true) :
    ∀ (ord : List (Nat × Bool)) (listed : Array Bool) (a : Act) (w : World), ordB ops.toArray ord listed = true → S w → wpHL P ops S Q ord a w → wpAnyH P .any ops.toArray (fun e a w => e = .normal ∧ Q a w) S ord.length listed a w
  | [], listed, a, w, hB, _, h => by
    simp only [ordB, List.isEmpty_iff] at hB
    exact ⟨hB, rfl, h⟩
  | (i, true) :: r, listed, a, w, hB, hS, ⟨o, v, ho, hy, h⟩ => by
    simp only [ordB, Bool.and_eq_true] at hB
    exact wpAnyH_take (by simpa using ho) hs hB.1.2 hB.1.1 (fun _ _ _ h => by cases h.1) hy hS (wpHL_sound hs r _ _ _ hB.2 hS h)
  | (i, false) :: r, listed, a, w, hB, hS, ⟨o, ho, h⟩ => by
    simp only [ordB, Bool.and_eq_true, decide_eq_true_eq] at hB
    refine wpAnyH_all hB.1 (by simp) ?_
    intro j hj
    have hji : j = i := by simpa using hj
    subst hji
    have ho' : ops.toArray[j]? = some o := by simpa using ho
    unfold wpOp
    simp only [ho']
    split
    · rename_i hw
      rw [if_pos hw] at h
      exact .inl (Oper.wp_mono (fun a' w' h' => ⟨h'.1, wpHL_sound hs r _ _ _ hB.2 h'.1 h'.2⟩) h)
    · rename_i hw
      rw [if_neg hw] at h
      exact ⟨h.1, wpHL_sound hs r _ _ _ hB.2 h.1 h.2⟩

@[irreducible] def HL (P : Program) (ops : List Oper) (S : World → Prop) (Q : Exit → Act → World → Prop) (ord : List (Nat × Bool)) (n : Nat) (σ : Sg) (w : World) : Prop :=
  ∀ a, Fr n σ a → wpHL P ops S (fun a w => Q .normal a w) ord a w
/-- behind the draw -/
abbrev drew (w : World) : World := { w with drawn := w.drawn + 1 }
theorem Ext.drew (w : World) : Ext w (drew w) := ⟨rfl, rfl, rfl, Nat.le_refl _, fun _ _ => rfl⟩
/-- behind one operation -/
def AfterOp (P : Program) (ops : List Oper) (S : World → Prop) (Q : Exit → Act → World → Prop) (ord : List (Nat × Bool)) : Exit → Act → World → Prop :=
  fun e a w => e = .normal ∧ S w ∧ wpHL P ops S (fun a w => Q .normal a w) ord a w

section
variable {P : Program} {Q : Exit → Act → World → Prop} {n : Nat} {σ : Sg} {w : World} {L : List Oper} {S : World → Prop} {rest : List (Nat × Bool)} {i d : Nat} {op : Op} {ty : TypeId} {pos : String} {af : Array Edge} {g : Option (Nat × Bool)}

theorem CW.drawH {id : Nat} (S : World → Prop) (ord : List (Nat × Bool)) (hm : P.follows .mixedOrders = true) (hB : ordOk L ord = true) (hS : S (drew w)) (h : HL P L S Q ord n σ (drew w)) : CW P (.region id L.toArray true) Q n σ w := by
  unfold CW; unfold HL at h; intro a ha
  simp only [ordOk, Bool.and_eq_true, decide_eq_true_eq] at hB
  obtain ⟨⟨hs, hl⟩, hB⟩ := hB
  have h1 := wpHL_sound hs ord (Array.replicate L.length false) a (Go.Proofs.Ytllpfgcngokhnaa.drew w) hB hS (h a ha)
  rw [hl] at h1
  have h2 := wp_region_held (id := id) (S := S) hm (w := w) (ops := L.toArray) (by simpa using h1)
  exact wp_mono h2 (fun e a' w' ⟨he, hq⟩ => by subst he; exact hq)
theorem HL.nil (h : EX Q .normal n σ w) : HL P L S Q [] n σ w := by
  unfold HL; unfold EX at h; exact fun a ha => h a ha
theorem HL.run {v : Value} (ho : nthO L i = some ⟨some d, op, ty, pos, af, g⟩) (hg : gd L σ ⟨some d, op, ty, pos, af, g⟩ = some true) (hd : Nat.ble (d + 1) n = true)
    (hr : ∀ a, Fr n σ a → ∀ w', S w' → (execOp a.eval ⟨some d, op, ty, pos, af, g⟩).run P w' = .ok (.value v) w') (h : HL P L S Q rest n ((d, v) :: σ) w) : HL P L S Q ((i, true) :: rest) n σ w := by
  unfold HL at *
  intro a ha
  rw [nthO_eq] at ho
  exact ⟨_, v, ho, .inl ⟨gd_wanted ha hg, fun w' hw' => hr a ha w' hw'⟩, h _ (ha.put (d := some d) hd)⟩
theorem HL.pure {v : Value} (ho : nthO L i = some ⟨some d, op, ty, pos, af, g⟩) (hg : gd L σ ⟨some d, op, ty, pos, af, g⟩ = some true) (hd : Nat.ble (d + 1) n = true)
    (hv : pureOp σ op = some v) (h : HL P L S Q rest n ((d, v) :: σ) w) : HL P L S Q ((i, true) :: rest) n σ w :=
  HL.run ho hg hd (fun a ha _ _ => pureOp_run ha hv) h
theorem HL.pass (ho : nthO L i = some ⟨some d, op, ty, pos, af, g⟩) (hg : gd L σ ⟨some d, op, ty, pos, af, g⟩ = some false) (hd : Nat.ble (d + 1) n = true)
    (h : HL P L S Q rest n ((d, undef) :: σ) w) : HL P L S Q ((i, true) :: rest) n σ w := by
  unfold HL at *
  intro a ha
  rw [nthO_eq] at ho
  exact ⟨_, undef, ho, .inr ⟨gd_wanted ha hg, rfl⟩, h _ (ha.put (d := some d) hd)⟩
theorem HL.passF (ho : nthO L i = some ⟨some d, op, ty, pos, af, g⟩) (hg : gd L σ ⟨some d, op, ty, pos, af, g⟩ = some false) (hd : Nat.ble (d + 1) n = true) (hS : S w)
    (h : HL P L S Q rest n ((d, undef) :: σ) w) : HL P L S Q ((i, false) :: rest) n σ w := by
  unfold HL at *
  intro a ha
  rw [nthO_eq] at ho
  refine ⟨_, ho, ?_⟩
  rw [gd_wanted ha hg, if_neg (by simp)]
  exact ⟨hS, h _ (ha.put (d := some d) hd)⟩
theorem HL.passU (ho : nthO L i = some ⟨none, op, ty, pos, af, g⟩) (hg : gd L σ ⟨none, op, ty, pos, af, g⟩ = some false) (hS : S w)
    (h : HL P L S Q rest n σ w) : HL P L S Q ((i, false) :: rest) n σ w := by
  unfold HL at *
  intro a ha
  rw [nthO_eq] at ho
  refine ⟨_, ho, ?_⟩
  rw [gd_wanted ha hg, if_neg (by simp)]
  exact ⟨hS, h _ ha⟩
theorem HL.look {s : Nat} {b : Bool} {ord : List (Nat × Bool)} (hs : fnd σ s = some (.bool b)) (ht : b = true → HL P L S Q ord n ((s, .bool true) :: σ) w) (hf : b = false → HL P L S Q ord n ((s, .bool false) :: σ) w) : HL P L S Q ord n σ w := by
  unfold HL at *
  intro a ha
  cases b with
  | true => exact ht rfl a (ha.set hs)
  | false => exact hf rfl a (ha.set hs)
theorem HL.lookG {o : Oper} {j s : Nat} {want b t : Bool} (ho : nthO L i = some o) (hgd : o.guard = some (j, want)) (hj : gslot L j = some s) (hs : fnd σ s = some (.bool b)) (ht : b = true → HL P L S Q ((i, t) :: rest) n ((s, .bool true) :: σ) w)
    (hf : b = false → HL P L S Q ((i, t) :: rest) n ((s, .bool false) :: σ) w) : HL P L S Q ((i, t) :: rest) n σ w := HL.look hs ht hf
theorem HL.lookP {s : Nat} {x y : Operand} {b t : Bool} (ho : nthO L i = some ⟨some d, .pick (.tmp s) x y, ty, pos, af, g⟩) (hs : fnd σ s = some (.bool b)) (ht : b = true → HL P L S Q ((i, t) :: rest) n ((s, .bool true) :: σ) w)
    (hf : b = false → HL P L S Q ((i, t) :: rest) n ((s, .bool false) :: σ) w) : HL P L S Q ((i, t) :: rest) n σ w := HL.look hs ht hf
/-- an operation that changes memory, by the rule for its like where the order is fixed -/
theorem HL.mut {o : Oper} (ho : nthO L i = some o) (h : WL P L (AfterOp P L S Q rest) [o] n σ w) : HL P L S Q ((i, false) :: rest) n σ w := by
  unfold HL; unfold WL at h
  intro a ha
  rw [nthO_eq] at ho
  have h1 := h a ha
  refine ⟨o, ho, ?_⟩
  have h2 : wpList P L.toArray (AfterOp P L S Q rest) [o] a w := h1
  simp only [wpList] at h2
  split
  · rename_i hw
    rw [if_pos hw] at h2
    rcases h2 with h2 | ⟨_, hlets⟩
    · unfold Oper.wp at *
      generalize (execOp a.eval o).run P w = r at *
      cases r with
      | ok k w' =>
        cases k <;> simp only [Oper.upon] at h2 ⊢ <;> first
          | exact h2.2
          | exact h2
          | (refine Calls.mono h2 (fun e w'' he => ?_); cases e <;> first | exact he.2 | (exact absurd he.1 (by simp)) | (obtain ⟨_, _, hx⟩ := he; exact absurd hx.1 (by simp)))
          | exact Rows.mono h2 (fun _ _ he => he.2)
      | halt x w' => cases x <;> simp only [Oper.upon] at h2 ⊢ <;> first | exact h2 | (exact absurd h2.1 (by simp))
    · obtain ⟨_, _, hx⟩ := hlets
      exact absurd hx.1 (by simp)
  · rename_i hw
    rw [if_neg hw] at h2
    exact h2.2
theorem EX.mut (hS : S w) (h : HL P L S Q rest n σ w) : EX (AfterOp P L S Q rest) .normal n σ w := by
  unfold EX; unfold HL at h; exact fun a ha => ⟨rfl, hS, h a ha⟩
end
section
variable {P : Program} {Q : Exit → Act → World → Prop} {n : Nat} {σ : Sg} {w wc : World} {L : List Oper} {S : World → Prop} {rest : List (Nat × Bool)} {i d : Nat} {op : Op} {ty : TypeId} {pos : String} {af : Array Edge} {g : Option (Nat × Bool)} {t yt e : TypeId} {x y : Operand} {b o : Nat} {cells : List Value}
theorem HL.add {t yt : TypeId} {x y : Operand} {a b : Int} (ho : nthO L i = some ⟨some d, .binOp .add t x y yt, ty, pos, af, g⟩) (hg : gd L σ ⟨some d, .binOp .add t x y yt, ty, pos, af, g⟩ = some true) (hd : Nat.ble (d + 1) n = true)
    (hx : ev σ x = some (.int .i64 a)) (hy : ev σ y = some (.int .i64 b)) (h0 : -9223372036854775808 ≤ a + b) (h1 : a + b < 9223372036854775808) (h : HL P L S Q rest n ((d, .int .i64 (a + b)) :: σ) wc) : HL P L S Q ((i, true) :: rest) n σ wc := by
  refine HL.pure ho hg hd (v := .int .i64 (a + b)) ?_ h
  simp only [pureOp, hx, hy, pbin]
  rw [wrap_in h0 h1]
theorem HL.sub' {t yt : TypeId} {x y : Operand} {a b : Int} (ho : nthO L i = some ⟨some d, .binOp .sub t x y yt, ty, pos, af, g⟩) (hg : gd L σ ⟨some d, .binOp .sub t x y yt, ty, pos, af, g⟩ = some true) (hd : Nat.ble (d + 1) n = true)
    (hx : ev σ x = some (.int .i64 a)) (hy : ev σ y = some (.int .i64 b)) (h0 : -9223372036854775808 ≤ a - b) (h1 : a - b < 9223372036854775808) (h : HL P L S Q rest n ((d, .int .i64 (a - b)) :: σ) wc) : HL P L S Q ((i, true) :: rest) n σ wc := by
  refine HL.pure ho hg hd (v := .int .i64 (a - b)) ?_ h
  simp only [pureOp, hx, hy, pbin]
  rw [wrap_in h0 h1]
theorem HL.mul {t yt : TypeId} {x y : Operand} {a b : Int} (ho : nthO L i = some ⟨some d, .binOp .mul t x y yt, ty, pos, af, g⟩) (hg : gd L σ ⟨some d, .binOp .mul t x y yt, ty, pos, af, g⟩ = some true) (hd : Nat.ble (d + 1) n = true)
    (hx : ev σ x = some (.int .i64 a)) (hy : ev σ y = some (.int .i64 b)) (h0 : -9223372036854775808 ≤ a * b) (h1 : a * b < 9223372036854775808) (h : HL P L S Q rest n ((d, .int .i64 (a * b)) :: σ) wc) : HL P L S Q ((i, true) :: rest) n σ wc := by
  refine HL.pure ho hg hd (v := .int .i64 (a * b)) ?_ h
  simp only [pureOp, hx, hy, pbin]
  rw [wrap_in h0 h1]
theorem HL.eqB {a b : Bool} (ho : nthO L i = some ⟨some d, .binOp .eql t x y yt, ty, pos, af, g⟩) (hg : gd L σ ⟨some d, .binOp .eql t x y yt, ty, pos, af, g⟩ = some true) (hd : Nat.ble (d + 1) n = true) (hx : ev σ x = some (.bool a)) (hy : ev σ y = some (.bool b)) [hb : IsB P t]
    (h : HL P L S Q rest n ((d, .bool (a == b)) :: σ) wc) : HL P L S Q ((i, true) :: rest) n σ wc := by
  refine HL.run ho hg hd (fun c hc w' _ => ?_) h
  have := run_eqB (P := P) (t := t) (x := x) (y := y) a b w'
  simp only [execOp, hc.ev hx, hc.ev hy]
  rw [Sem.run_bind, this]; rfl
theorem HL.neB {a b : Bool} (ho : nthO L i = some ⟨some d, .binOp .neq t x y yt, ty, pos, af, g⟩) (hg : gd L σ ⟨some d, .binOp .neq t x y yt, ty, pos, af, g⟩ = some true) (hd : Nat.ble (d + 1) n = true) (hx : ev σ x = some (.bool a)) (hy : ev σ y = some (.bool b)) [hb : IsB P t]
    (h : HL P L S Q rest n ((d, .bool (a != b)) :: σ) wc) : HL P L S Q ((i, true) :: rest) n σ wc := by
  refine HL.run ho hg hd (fun c hc w' _ => ?_) h
  have := run_neB (P := P) (t := t) (x := x) (y := y) a b w'
  simp only [execOp, hc.ev hx, hc.ev hy]
  rw [Sem.run_bind, this]; rfl
theorem HL.lenS {t e : TypeId} {x : Operand} {ao : Option Addr} {k cap : Nat} (ho : nthO L i = some ⟨some d, .call ⟨.builtin .len, #[x], #[t]⟩, ty, pos, af, g⟩) (hg : gd L σ ⟨some d, .call ⟨.builtin .len, #[x], #[t]⟩, ty, pos, af, g⟩ = some true) (hd : Nat.ble (d + 1) n = true)
    (hx : ev σ x = some (.slice ao k cap)) [hs : IsS P t e] (h : HL P L S Q rest n ((d, .int .i64 (k : Int)) :: σ) wc) : HL P L S Q ((i, true) :: rest) n σ wc := by
  refine HL.run ho hg hd (fun a ha _ _ => ?_) h
  simp [execOp, resolve, invoke, builtin, ha.ev hx, Builtin.len_, run_underlying hs.ok, goInt]
theorem HL.makeFunc {fn : Fn} {fs cs : List Operand} {fv cv : List Value} (ho : nthO L i = some ⟨some d, .makeFunc fn fs.toArray cs.toArray, ty, pos, af, g⟩) (hg : gd L σ ⟨some d, .makeFunc fn fs.toArray cs.toArray, ty, pos, af, g⟩ = some true) (hd : Nat.ble (d + 1) n = true)
    (hf : evs σ fs = some fv) (hc : evs σ cs = some cv) (h : HL P L S Q rest n ((d, .func fn fv.toArray cv.toArray) :: σ) wc) : HL P L S Q ((i, true) :: rest) n σ wc := by
  refine HL.run ho hg hd (fun a ha _ _ => ?_) h
  have e1 := evs_eq ha fs fv hf
  have e2 := evs_eq ha cs cv hc
  simp [execOp, Instr.makeFunc, e1, e2]
theorem HL.fa {f k : Nat} (ho : nthO L i = some ⟨some d, .fieldAddr t x f, ty, pos, af, g⟩) (hg : gd L σ ⟨some d, .fieldAddr t x f, ty, pos, af, g⟩ = some true) (hd : Nat.ble (d + 1) n = true) (hx : ev σ x = some (.pointer (some ⟨b, o, none⟩))) [hf : IsFd P t f k]
    (h : HL P L S Q rest n ((d, .pointer (some ⟨b, o + k, none⟩)) :: σ) wc) : HL P L S Q ((i, true) :: rest) n σ wc := by
  refine HL.run ho hg hd (fun a ha w' _ => ?_) h
  simp [execOp, ha.ev hx, run_fa (P := P) (t := t) (f := f) (k := k)]
theorem HL.ld {v : Value} (hSE : ∀ w1, S w1 → Ext w w1) (ho : nthO L i = some ⟨some d, .load t x, ty, pos, af, g⟩) (hg : gd L σ ⟨some d, .load t x, ty, pos, af, g⟩ = some true) (hd : Nat.ble (d + 1) n = true) (hx : ev σ x = some (.pointer (some ⟨b, o, none⟩))) [hc : IsC P t 1 false] (hb : Blk w b e cells) (hv : nthV cells o = some v)
    (h : HL P L S Q rest n ((d, v) :: σ) wc) : HL P L S Q ((i, true) :: rest) n σ wc := by
  refine HL.run ho hg hd (fun a ha w' hsw => ?_) h
  have hE := hSE _ hsw
  simp [execOp, ha.ev hx, run_ld (P := P) (t := t) w' (hb.ext hE) hv]
theorem HL.ldA {vs : List Value} {k : Nat} (hSE : ∀ w1, S w1 → Ext w w1) (ho : nthO L i = some ⟨some d, .load t x, ty, pos, af, g⟩) (hg : gd L σ ⟨some d, .load t x, ty, pos, af, g⟩ = some true) (hd : Nat.ble (d + 1) n = true) (hx : ev σ x = some (.pointer (some ⟨b, o, none⟩))) [hc : IsC P t k true] (hb : Blk w b e cells) (hv : segL cells o k = some vs)
    (h : HL P L S Q rest n ((d, .agg vs.toArray) :: σ) wc) : HL P L S Q ((i, true) :: rest) n σ wc := by
  refine HL.run ho hg hd (fun a ha w' hsw => ?_) h
  have hE := hSE _ hsw
  simp [execOp, ha.ev hx, run_ldA (P := P) (t := t) w' (hb.ext hE) hv]
theorem HL.nck {p : Addr} (ho : nthO L i = some ⟨some d, .nilCheck x, ty, pos, af, g⟩) (hg : gd L σ ⟨some d, .nilCheck x, ty, pos, af, g⟩ = some true) (hd : Nat.ble (d + 1) n = true) (hx : ev σ x = some (.pointer (some p)))
    (h : HL P L S Q rest n ((d, .pointer (some p)) :: σ) wc) : HL P L S Q ((i, true) :: rest) n σ wc := by
  refine HL.run ho hg hd (fun a ha _ _ => ?_) h
  simp [execOp, ha.ev hx]
theorem HL.shrN {a s : Nat} (ho : nthO L i = some ⟨some d, .binOp .shr t x y yt, ty, pos, af, g⟩) (hg : gd L σ ⟨some d, .binOp .shr t x y yt, ty, pos, af, g⟩ = some true) (hd : Nat.ble (d + 1) n = true) (hx : ev σ x = some (.int .u64 (a : Int))) (hy : ev σ y = some (.int .i64 (s : Int))) (ha : a < 18446744073709551616)
    (h : HL P L S Q rest n ((d, .int .u64 ((a >>> s : Nat) : Int)) :: σ) wc) : HL P L S Q ((i, true) :: rest) n σ wc := by
  refine HL.run ho hg hd (fun a0 ha0 w1 _ => ?_) h
  have := run_shrN P w1 a s ha t
  simp [execOp, ha0.ev hx, ha0.ev hy, eqG (op := .shr) rfl, this]
theorem HL.shrI {a : Nat} {s : Int} (ho : nthO L i = some ⟨some d, .binOp .shr t x y yt, ty, pos, af, g⟩) (hg : gd L σ ⟨some d, .binOp .shr t x y yt, ty, pos, af, g⟩ = some true) (hd : Nat.ble (d + 1) n = true) (hx : ev σ x = some (.int .u64 (a : Int))) (hy : ev σ y = some (.int .i64 s)) (ha : a < 18446744073709551616) (hs : 0 ≤ s)
    (h : HL P L S Q rest n ((d, .int .u64 ((a >>> s.toNat : Nat) : Int)) :: σ) wc) : HL P L S Q ((i, true) :: rest) n σ wc := by
  refine HL.run ho hg hd (fun a0 ha0 w1 _ => ?_) h
  have := run_shrI P w1 a s ha hs t
  simp [execOp, ha0.ev hx, ha0.ev hy, eqG (op := .shr) rfl, this]
theorem HL.andN {a b : Nat} (ho : nthO L i = some ⟨some d, .binOp .and t x y yt, ty, pos, af, g⟩) (hg : gd L σ ⟨some d, .binOp .and t x y yt, ty, pos, af, g⟩ = some true) (hd : Nat.ble (d + 1) n = true) (hx : ev σ x = some (.int .u64 (a : Int))) (hy : ev σ y = some (.int .u64 (b : Int))) (ha : a < 18446744073709551616) (hb : b < 18446744073709551616)
    (h : HL P L S Q rest n ((d, .int .u64 ((a &&& b : Nat) : Int)) :: σ) wc) : HL P L S Q ((i, true) :: rest) n σ wc := by
  refine HL.run ho hg hd (fun a0 ha0 w1 _ => ?_) h
  have := run_andN P w1 a b ha hb t
  simp [execOp, ha0.ev hx, ha0.ev hy, eqG (op := .and) rfl, this]
theorem HL.and1 {a : Nat} (ho : nthO L i = some ⟨some d, .binOp .and t x y yt, ty, pos, af, g⟩) (hg : gd L σ ⟨some d, .binOp .and t x y yt, ty, pos, af, g⟩ = some true) (hd : Nat.ble (d + 1) n = true) (hx : ev σ x = some (.int .u64 (a : Int))) (hy : ev σ y = some (.int .u64 1)) (ha : a < 18446744073709551616)
    (h : HL P L S Q rest n ((d, .int .u64 ((a &&& 1 : Nat) : Int)) :: σ) wc) : HL P L S Q ((i, true) :: rest) n σ wc := by
  refine HL.run ho hg hd (fun a0 ha0 w1 _ => ?_) h
  have : (binOp .and t (.int .u64 (a : Int)) (.int .u64 1)).run P w1 = .ok (.int .u64 ((a &&& 1 : Nat) : Int)) w1 := run_andN P w1 a 1 ha (by omega) t
  simp [execOp, ha0.ev hx, ha0.ev hy, eqG (op := .and) rfl, this]
theorem HL.orN {a b : Nat} (ho : nthO L i = some ⟨some d, .binOp .or t x y yt, ty, pos, af, g⟩) (hg : gd L σ ⟨some d, .binOp .or t x y yt, ty, pos, af, g⟩ = some true) (hd : Nat.ble (d + 1) n = true) (hx : ev σ x = some (.int .u64 (a : Int))) (hy : ev σ y = some (.int .u64 (b : Int))) (ha : a < 18446744073709551616) (hb : b < 18446744073709551616)
    (h : HL P L S Q rest n ((d, .int .u64 ((a ||| b : Nat) : Int)) :: σ) wc) : HL P L S Q ((i, true) :: rest) n σ wc := by
  refine HL.run ho hg hd (fun a0 ha0 w1 _ => ?_) h
  have := run_orN P w1 a b ha hb t
  simp [execOp, ha0.ev hx, ha0.ev hy, eqG (op := .or) rfl, this]
theorem HL.rem {a b : Int} {k : IntKind} (ho : nthO L i = some ⟨some d, .binOp .rem t x y yt, ty, pos, af, g⟩) (hg : gd L σ ⟨some d, .binOp .rem t x y yt, ty, pos, af, g⟩ = some true) (hd : Nat.ble (d + 1) n = true) (hx : ev σ x = some (.int k a)) (hy : ev σ y = some (.int k b)) (ha : 0 ≤ a) (hb : 0 < b)
    (h : HL P L S Q rest n ((d, .int k (a % b)) :: σ) wc) : HL P L S Q ((i, true) :: rest) n σ wc := by
  refine HL.run ho hg hd (fun a0 ha0 w1 _ => ?_) h
  have := run_rem P w1 a b ha hb t k
  simp [execOp, ha0.ev hx, ha0.ev hy, eqG (op := .rem) rfl, this]
theorem HL.quo {a b : Int} (ho : nthO L i = some ⟨some d, .binOp .quo t x y yt, ty, pos, af, g⟩) (hg : gd L σ ⟨some d, .binOp .quo t x y yt, ty, pos, af, g⟩ = some true) (hd : Nat.ble (d + 1) n = true) (hx : ev σ x = some (.int .i64 a)) (hy : ev σ y = some (.int .i64 b)) (ha : 0 ≤ a) (hb : 0 < b) (hm : a < 9223372036854775808)
    (h : HL P L S Q rest n ((d, .int .i64 (a / b)) :: σ) wc) : HL P L S Q ((i, true) :: rest) n σ wc := by
  refine HL.run ho hg hd (fun a0 ha0 w1 _ => ?_) h
  have := run_quo P w1 a b ha hb hm t
  simp [execOp, ha0.ev hx, ha0.ev hy, eqG (op := .quo) rfl, this]
theorem HL.conv {a : Int} {k k' : IntKind} (ho : nthO L i = some ⟨some d, .convert t yt x, ty, pos, af, g⟩) (hg : gd L σ ⟨some d, .convert t yt x, ty, pos, af, g⟩ = some true) (hd : Nat.ble (d + 1) n = true) (hx : ev σ x = some (.int k a)) [h1 : IsI P t k] [h2 : IsI P yt k']
    (h : HL P L S Q rest n ((d, .int k' (k'.wrap a)) :: σ) wc) : HL P L S Q ((i, true) :: rest) n σ wc := by
  refine HL.run ho hg hd (fun a0 ha0 w1 _ => ?_) h
  simp [execOp, ha0.ev hx, convert, run_underlying h1.ok, run_underlying h2.ok, Conv.intToInt]
theorem HL.idx {α : Type} [Rep α] {t e : TypeId} {x ix : Operand} {b off : Nat} {k cap : Nat} {ii : Int} {kd : IntKind} (ho : nthO L i = some ⟨some d, .indexAddr t x ix, ty, pos, af, g⟩) (hg : gd L σ ⟨some d, .indexAddr t x ix, ty, pos, af, g⟩ = some true) (hd : Nat.ble (d + 1) n = true)
    (hx : ev σ x = some (.slice (some ⟨b, off, none⟩) k cap)) (hi : ev σ ix = some (.int kd ii)) [hs : IsS P t e] [ht : IsT P e α] (h0 : 0 ≤ ii) (h1 : ii < k)
    (h : HL P L S Q rest n ((d, .pointer (some ⟨b, off + ii.toNat * sz α, none⟩)) :: σ) wc) : HL P L S Q ((i, true) :: rest) n σ wc := by
  refine HL.run ho hg hd (fun a ha _ _ => ?_) h
  simp [execOp, ha.ev hx, ha.ev hi, Instr.indexAt, asIntOf, run_underlying hs.ok, h0, h1, run_sizeOf (α := α), WideShapes.add_plain]
theorem HL.load {α : Type} [Rep α] {t : TypeId} {x : Operand} {b off : Nat} {F : Nat → Prop} {cs : List Value} {y : α} (hSE : ∀ w1, S w1 → Ext w w1) (ho : nthO L i = some ⟨some d, .load t x, ty, pos, af, g⟩) (hg : gd L σ ⟨some d, .load t x, ty, pos, af, g⟩ = some true) (hd : Nat.ble (d + 1) n = true)
    (hx : ev σ x = some (.pointer (some ⟨b, off, none⟩))) [ht : IsT P t α] (hb : b < w.heap.size) (hF : ∀ b, F b → b < w.heap.size) (hc : Cells w b off cs) (hr : rd w F cs y)
    (h : HL P L S Q rest n ((d, vOf α cs) :: σ) wc) : HL P L S Q ((i, true) :: rest) n σ wc := by
  refine HL.run ho hg hd (fun a ha w' hsw => ?_) h
  have hw' := hSE _ hsw
  have hc' : Cells w' b off cs := hc.mono (hw'.block b hb)
  have hr' : rd w' F cs y := Rep.mono hr (fun k hk => hw'.block k (hF k hk)) fun _ h => h
  simp [execOp, ha.ev hx, Instr.loadAt, Instr.sureAddr, run_loadAt hc' hr']
theorem HL.build {parts : List (Nat × Operand)} {vs : List Value} {places : List (Nat × Nat)} {zs out : List Value} (ho : nthO L i = some ⟨some d, .build t parts.toArray, ty, pos, af, g⟩) (hg : gd L σ ⟨some d, .build t parts.toArray, ty, pos, af, g⟩ = some true) (hd : Nat.ble (d + 1) n = true)
    (hv : evs σ (sndL parts) = some vs) [hz : IsZC P t zs] [hp : IsBd P t places] (hf : fillL places zs ((parts.map (·.1)).zip vs) = some out)
    (h : HL P L S Q rest n ((d, .agg out.toArray) :: σ) wc) : HL P L S Q ((i, true) :: rest) n σ wc :=
  HL.run ho hg hd (fun a ha w1 _ => run_buildA ha hv hf) h
/-- append(x, y): y's own row of one, and the append -/
theorem HL.app1 {α : Type} [Rep α] {x0 : α} {bytes : Nat} {F : Nat → Prop} {i1 d1 : Nat} {ty1 : TypeId} {pos1 : String} {af1 : Array Edge} {g1 : Option (Nat × Bool)} {v u : Value} {xs : List α} {yv : α} {B : Nat}
    (ho1 : nthO L i1 = some ⟨some d1, .buildSlice t 1 [(0, y)].toArray, ty1, pos1, af1, g1⟩) (ho : nthO L i = some ⟨some d, .call ⟨.builtin .append, #[x, .tmp d1], #[t, t]⟩, ty, pos, af, g⟩)
    (hg1 : gd L σ ⟨some d1, .buildSlice t 1 [(0, y)].toArray, ty1, pos1, af1, g1⟩ = some true) (hd1 : Nat.ble (d1 + 1) n = true)
    (hg : ∀ u, gd L ((d1, .slice u 1 1) :: σ) ⟨some d, .call ⟨.builtin .append, #[x, .tmp d1], #[t, t]⟩, ty, pos, af, g⟩ = some true) (hd : Nat.ble (d + 1) n = true)
    (hy : ev σ y = some u) (hx : ∀ u, ev ((d1, .slice u 1 1) :: σ) x = some v) [hs : IsS P t e] [ht : IsT P e α] [hz : IsZ P e x0 bytes] (hown : Own wc B e F v xs) (hu : Rd wc F u yv) (hB : B ≤ wc.heap.size) (hF : ∀ b, F b → b < wc.heap.size)
    (hsz : sz α ≤ 16777216) (hm : xs.length + 1 ≤ maxLen) (hb : (xs.length + 1) * bytes ≤ 140737488355328) (hS : ∀ w', wc.grownBy w' v.ownBlock → S w')
    (h : ∀ v' w' p, Own w' B e F v' (xs ++ [yv]) → wc.grownBy w' v.ownBlock → (∀ g, v'.ownBlock = some g → v.ownBlock = some g ∨ wc.heap.size ≤ g) → HL P L S Q rest n ((d, v') :: (d1, .slice p 1 1) :: σ) w') :
    HL P L S Q ((i1, false) :: (i, false) :: rest) n σ wc := by
  refine HL.mut ho1 ?_
  refine WL.lit (vs := [u]) (ys := [yv]) hg1 hd1 rfl (by simp [sndL, evs, hy]) rfl ⟨hu, trivial⟩ (by simpa using hsz) hF (fun w1 ho1 hgr1 => ?_)
  have hsize : wc.heap.size ≤ w1.heap.size := hgr1.size
  have hkeep : Own w1 B e F v xs := hown.kept hgr1 (fun _ _ h => by cases h) fun b hb => ⟨hF b hb, fun h => by cases h⟩
  have g2 : wc.grownBy w1 v.ownBlock := ⟨hgr1.os, hgr1.tape, hgr1.output, hgr1.size, fun k hk _ => hgr1.block k hk (fun h => by cases h)⟩
  refine WL.nil (EX.mut (hS _ g2) ?_)
  refine HL.mut ho ?_
  refine WL.app (ys := [yv]) (hg _) hd (hx _) fnd_cons_eq hkeep ho1.src (Nat.le_trans hB hsize) (fun b hb => Nat.lt_of_lt_of_le (hF b hb) hsize) (by simpa using hm) (by simpa using hb) (fun v' w' ho' hgr hnb => ?_)
  have g3 : wc.grownBy w' v.ownBlock := ⟨hgr.os.trans hgr1.os, hgr.tape.trans hgr1.tape, hgr.output.trans hgr1.output, Nat.le_trans hsize hgr.size, fun k hk hne => (hgr.block k (Nat.lt_of_lt_of_le hk hsize) hne).trans (hgr1.block k hk (fun h => by cases h))⟩
  exact WL.nil (EX.mut (hS _ g3) (h v' w' _ ho' g3 (fun g hg => (hnb g hg).imp id (fun h => Nat.le_trans hsize h))))

end
end Go.Proofs.Ytllpfgcngokhnaa
/-
  Drawn regions that change memory: elements read and written. Over any program.
-/
set_option linter.unusedVariables false
set_option linter.unusedSimpArgs false
namespace Go.Proofs.Ytllpfgcngokhnaa
open Go.RowKit
section
variable {P : Program} {Q : Exit → Act → World → Prop} {n : Nat} {σ : Sg} {w wc : World} {L : List Oper} {S : World → Prop} {rest : List (Nat × Bool)} {i j d d' : Nat} {ty : TypeId} {pos : String} {af : Array Edge} {g : Option (Nat × Bool)} {ty' : TypeId} {pos' : String} {af' : Array Edge} {g' : Option (Nat × Bool)} {t e : TypeId} {x ix y : Operand}
variable {α : Type} [Rep α] {F : Nat → Prop}
/-- x[k], read, of what stands since the base world w -/
theorem HL.elemN {ao : Option Addr} {cap : Nat} {xs : List α} {k : Nat} {kd : IntKind} (hSE : ∀ w1, S w1 → Ext w w1)
    (ho1 : nthO L i = some ⟨some d, .indexAddr t x ix, ty, pos, af, g⟩) (ho2 : nthO L j = some ⟨some d', .load e (.tmp d), ty', pos', af', g'⟩)
    (hg : gd L σ ⟨some d, .indexAddr t x ix, ty, pos, af, g⟩ = some true) (hd : Nat.ble (d + 1) n = true) (hd' : Nat.ble (d' + 1) n = true)
    (hx : ev σ x = some (.slice ao xs.length cap)) (hi : ev σ ix = some (.int kd (k : Int))) [hs : IsS P t e] [ht : IsT P e α] (hF : ∀ b, F b → b < w.heap.size) (hsl : Sl w F ao cap xs) (h1 : k < xs.length)
    (hg' : ∀ p, gd L ((d, .pointer p) :: σ) ⟨some d', .load e (.tmp d), ty', pos', af', g'⟩ = some true)
    (h : ∀ u p, Rd w F u xs[k] → HL P L S Q rest n ((d', u) :: (d, .pointer p) :: σ) wc) :
    HL P L S Q ((i, true) :: (j, true) :: rest) n σ wc := by
  obtain ⟨b, off, rfl, hFb, es, hc, hr⟩ := hsl.el k h1
  refine HL.idx (α := α) ho1 hg hd hx hi (by omega) (by omega) ?_
  refine HL.load (α := α) hSE ho2 (hg' _) hd' fnd_cons_eq (hF b hFb) hF (by simpa using hc) hr ?_
  exact h _ _ ⟨es, rfl, hr⟩
/-- x[k], read, of blocks that nobody changes -/
theorem HL.elemK {ao : Option Addr} {cap : Nat} {xs : List α} {k : Nat} {kd : IntKind} (hK : ∀ w1, S w1 → ∀ b, F b → w1.heap[b]? = w.heap[b]?)
    (ho1 : nthO L i = some ⟨some d, .indexAddr t x ix, ty, pos, af, g⟩) (ho2 : nthO L j = some ⟨some d', .load e (.tmp d), ty', pos', af', g'⟩)
    (hg : gd L σ ⟨some d, .indexAddr t x ix, ty, pos, af, g⟩ = some true) (hd : Nat.ble (d + 1) n = true) (hd' : Nat.ble (d' + 1) n = true)
    (hx : ev σ x = some (.slice ao xs.length cap)) (hi : ev σ ix = some (.int kd (k : Int))) [hs : IsS P t e] [ht : IsT P e α] (hsl : Sl w F ao cap xs) (h1 : k < xs.length)
    (hg' : ∀ p, gd L ((d, .pointer p) :: σ) ⟨some d', .load e (.tmp d), ty', pos', af', g'⟩ = some true)
    (h : ∀ u p, Rd w F u xs[k] → HL P L S Q rest n ((d', u) :: (d, .pointer p) :: σ) wc) :
    HL P L S Q ((i, true) :: (j, true) :: rest) n σ wc := by
  obtain ⟨b, off, rfl, hFb, es, hc, hr⟩ := hsl.el k h1
  refine HL.idx (α := α) ho1 hg hd hx hi (by omega) (by omega) ?_
  refine HL.run ho2 (hg' _) hd' (v := vOf α es) (fun a ha w' hw' => ?_) (h _ _ ⟨es, rfl, hr⟩)
  have hc' : Cells w' b (off + k * sz α) es := hc.mono (hK w' hw' b hFb)
  have hr' : rd w' F es xs[k] := Rep.mono hr (hK w' hw') fun _ h => h
  have e1 := ha.ev (x := .tmp d) fnd_cons_eq
  simp only [Int.toNat_natCast] at e1
  simp [execOp, e1, Instr.loadAt, Instr.sureAddr, run_loadAt hc' hr']
/-- x[k] = y, of a slice that the call owns -/
theorem HL.setN {v u : Value} {B : Nat} {xs : List α} {yv : α} {k : Nat} {kd : IntKind}
    (ho1 : nthO L i = some ⟨some d, .indexAddr t x ix, ty, pos, af, g⟩) (ho2 : nthO L j = some ⟨none, .store e (.tmp d) y, ty', pos', af', g'⟩)
    (hg : gd L σ ⟨some d, .indexAddr t x ix, ty, pos, af, g⟩ = some true) (hd : Nat.ble (d + 1) n = true)
    (hx : ev σ x = some v) (hi : ev σ ix = some (.int kd (k : Int))) [hs : IsS P t e] [ht : IsT P e α] (hown : Own wc B e F v xs) (h1 : k < xs.length)
    (hg' : ∀ p, gd L ((d, .pointer p) :: σ) ⟨none, .store e (.tmp d) y, ty', pos', af', g'⟩ = some true) (hy : ∀ p, ev ((d, .pointer p) :: σ) y = some u) (hu : Rd wc F u yv)
    (hS : ∀ w', wc.grownBy w' v.ownBlock → S w')
    (h : ∀ w' p, Own w' B e F v (xs.set k yv) → wc.grownBy w' v.ownBlock → HL P L S Q rest n ((d, .pointer p) :: σ) w') :
    HL P L S Q ((i, true) :: (j, false) :: rest) n σ wc := by
  rcases hown with ⟨rfl, rfl⟩ | ⟨b, off, cap, cur, rfl, ho⟩
  · simp at h1
  · refine HL.idx (α := α) ho1 hg hd hx hi (by omega) (by omega) ?_
    obtain ⟨w', hr, ho', hgr⟩ := run_set (P := P) (v := u) (i := k) ho h1 hu
    refine HL.mut ho2 ?_
    refine WL.runU (hg' _) (fun a ha => ?_) (WL.nil (EX.mut (hS w' hgr) (h w' _ ho' hgr)))
    have e1 := ha.ev (x := .tmp d) fnd_cons_eq
    have e2 := ha.ev (hy _)
    simp only [Int.toNat_natCast] at e1
    simp [execOp, e1, e2, Instr.storeAt, Instr.sureAddr, hr]
/-- x[:k] -/
theorem HL.cutHi {ao : Option Addr} {len cap : Nat} {i0 : Int} {kd : IntKind} (k : Nat) (hik : i0 = (k : Int)) (ho : nthO L i = some ⟨some d, .slice t x none (some y) none, ty, pos, af, g⟩) (hg : gd L σ ⟨some d, .slice t x none (some y) none, ty, pos, af, g⟩ = some true) (hd : Nat.ble (d + 1) n = true)
    (hx : ev σ x = some (.slice ao len cap)) (hy : ev σ y = some (.int kd i0)) [hs : IsS P t e] [ht : IsT P e α] (hk : k ≤ cap)
    (h : HL P L S Q rest n ((d, .slice ao k cap) :: σ) wc) : HL P L S Q ((i, true) :: rest) n σ wc := by
  subst hik
  refine HL.run ho hg hd (fun a ha w1 _ => ?_) h
  have := run_cut (P := P) (t := t) (e := e) (α := α) (ao := ao) (len := len) (cap := cap) (lo := 0) (hi := k) w1 (by omega) hk none (some (.int kd (k : Int))) (.inl ⟨rfl, rfl⟩) (.inr ⟨kd, rfl⟩)
  simp [execOp, ha.ev hx, ha.ev hy, this, Addr.add_zero']
/-- x[k:] -/
theorem HL.cutLo {ao : Option Addr} {len cap : Nat} {i0 : Int} {kd : IntKind} (k : Nat) (hik : i0 = (k : Int)) (ho : nthO L i = some ⟨some d, .slice t x (some y) none none, ty, pos, af, g⟩) (hg : gd L σ ⟨some d, .slice t x (some y) none none, ty, pos, af, g⟩ = some true) (hd : Nat.ble (d + 1) n = true)
    (hx : ev σ x = some (.slice ao len cap)) (hy : ev σ y = some (.int kd i0)) [hs : IsS P t e] [ht : IsT P e α] (hk : k ≤ len) (hc : len ≤ cap)
    (h : HL P L S Q rest n ((d, .slice (if cap = k then ao else ao.map (·.add (k * sz α))) (len - k) (cap - k)) :: σ) wc) : HL P L S Q ((i, true) :: rest) n σ wc := by
  subst hik
  refine HL.run ho hg hd (fun a ha w1 _ => ?_) h
  have := run_cut (P := P) (t := t) (e := e) (α := α) (ao := ao) (len := len) (cap := cap) (lo := k) (hi := len) w1 hk hc (some (.int kd (k : Int))) none (.inr ⟨kd, rfl⟩) (.inl ⟨rfl, rfl⟩)
  simp [execOp, ha.ev hx, ha.ev hy, this]
end
end Go.Proofs.Ytllpfgcngokhnaa
