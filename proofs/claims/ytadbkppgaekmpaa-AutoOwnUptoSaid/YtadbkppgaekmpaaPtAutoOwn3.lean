import Derived.DeepKeys4
import Derived.Maps.Keyed
import Derived.Laws.Bits64b
import Derived.Laws.Shifts
import Derived.Test.YtadbkppgaekmpaaPtAutoOwn2
/-
  Structs: variables of the call's own whose cells are known one by one; fields; values built; numbers of 64 bits; conversions. Over any program.
-/
set_option linter.unusedVariables false
set_option linter.unusedSimpArgs false
namespace Go.Proofs.Ytadbkppgaekmpaa
open Go.RowKit

/- BLOCKS WHOSE CELLS ARE KNOWN -/
def Blk (w : World) (b : Nat) (e : TypeId) (cells : List Value) : Prop := w.heap[b]? = some (.cells cells.toArray e (0, 0))
section
variable {w w' : World} {b : Nat} {e : TypeId} {cells : List Value}
theorem Blk.lt (h : Blk w b e cells) : b < w.heap.size := (Array.getElem?_eq_some_iff.1 h).1
theorem Blk.ext (h : Blk w b e cells) (hE : Ext w w') : Blk w' b e cells := (hE.block b h.lt).trans h
theorem Blk.below {B : Nat} (h : Blk w b e cells) (hE : Below B w w') (hb : b < B) : Blk w' b e cells := (hE.block b hb).trans h
theorem Blk.kept {row : Option Nat} (h : Blk w b e cells) (hg : w.grownBy w' row) (hne : some b ≠ row) : Blk w' b e cells := (hg.block b h.lt hne).trans h
theorem Blk.cell (h : Blk w b e cells) {o : Nat} {v : Value} (hv : cells[o]? = some v) : w.cell? ⟨b, o, none⟩ = some v := by
  rw [cell_of_row w b o cells.toArray e (0, 0) h]; simpa using hv
theorem Blk.all (h : Blk w b e cells) : Cells w b 0 cells := fun j u hu => by rw [Nat.zero_add]; exact h.cell hu
theorem Blk.alloc (w : World) (cells : List Value) (e : TypeId) : Blk (w.alloc (.cells cells.toArray e)) w.heap.size e cells := heap_alloc_new w _
end

/-- a field of a struct type, and its offset -/
class IsFd (P : Program) (t f : Nat) (o : outParam Nat) : Prop where
  ok : ∃ fs fld i, P.underlying t = some (.struct fs) ∧ fs[f]? = some fld ∧ fld.offset = o ∧ P.info? fld.type = some i ∧ i.size ≠ 0
def fdFact (P : Program) (t f : Nat) : Option (Nat × Bool) := match P.underlying t with
  | some (.struct fs) => (fs[f]?).bind fun fld => (P.info? fld.type).map fun i => (fld.offset, Nat.beq i.size 0)
  | _ => none
theorem IsFd.of {P : Program} {t f o : Nat} (h : fdFact P t f = some (o, false)) : IsFd P t f o := by
  unfold fdFact at h
  split at h
  · rename_i fs hu
    obtain ⟨fld, h1, h2⟩ := Option.bind_eq_some_iff.1 h
    obtain ⟨i, h3, h4⟩ := Option.map_eq_some_iff.1 h2
    simp only [Prod.mk.injEq] at h4
    refine ⟨fs, fld, i, hu, h1, h4.1, h3, fun e => ?_⟩
    rw [e] at h4; exact absurd h4.2 (by decide)
  · cases h
/-- a type's number of cells, and whether it is a struct or an array -/
class IsC (P : Program) (t : TypeId) (k : outParam Nat) (ag : outParam Bool) : Prop where
  ok : ∃ i d, P.info? t = some i ∧ i.size = k ∧ P.underlying t = some d ∧ aggD d = ag
theorem IsC.of {P : Program} {t : TypeId} {k : Nat} {ag : Bool} {d : TypeDesc} (h : (P.info? t).map (fun i => Nat.beq i.size k) = some true) (hu : P.underlying t = some d) (hd : aggD d = ag) : IsC P t k ag := by
  obtain ⟨i, hi, he⟩ := Option.map_eq_some_iff.1 h
  exact ⟨i, d, hi, Nat.eq_of_beq_eq_true he, hu, hd⟩
/-- a type's zero cells -/
class IsZC (P : Program) (t : TypeId) (zs : outParam (List Value)) : Prop where
  ok : ∃ i z, P.info? t = some i ∧ i.zero = some z ∧ z.cells = zs.toArray
theorem IsZC.of {P : Program} {t : TypeId} {z : Value} {zs : List Value} (h : (P.info? t).map (fun i => i.zero) = some (some z)) (hz : z.cells = zs.toArray) : IsZC P t zs := by
  obtain ⟨i, hi, he⟩ := Option.map_eq_some_iff.1 h
  exact ⟨i, z, hi, he, hz⟩
/-- the places of a struct's fields -/
class IsBd (P : Program) (t : TypeId) (places : outParam (List (Nat × Nat))) : Prop where
  ok : ∃ fs, P.underlying t = some (.struct fs) ∧ fs.toList.mapM (fun f => (P.info? f.type).map fun i => (f.offset, i.size)) = some places
def bdFact (P : Program) (t : TypeId) : Option (List (Nat × Nat)) := match P.underlying t with
  | some (.struct fs) => fs.toList.mapM (fun f => (P.info? f.type).map fun i => (f.offset, i.size))
  | _ => none
theorem IsBd.of {P : Program} {t : TypeId} {places : List (Nat × Nat)} (h : bdFact P t = some places) : IsBd P t places := by
  unfold bdFact at h
  split at h
  · rename_i fs hu; exact ⟨fs, hu, h⟩
  · cases h

def segL : List Value → Nat → Nat → Option (List Value)
  | _, 0, 0 => some []
  | v :: r, 0, n + 1 => (segL r 0 n).map (v :: ·)
  | _ :: r, o + 1, n => segL r o n
  | [], _, _ => none
theorem segL_eq : ∀ (l : List Value) (o n : Nat) (vs : List Value), segL l o n = some vs → vs.length = n ∧ ∀ j u, vs[j]? = some u → l[o + j]? = some u
  | [], 0, 0, vs, h => by simp [segL] at h; subst h; exact ⟨rfl, fun j u hu => by simp at hu⟩
  | v :: r, 0, 0, vs, h => by simp [segL] at h; subst h; exact ⟨rfl, fun j u hu => by simp at hu⟩
  | [], 0, n + 1, vs, h => by simp [segL] at h
  | [], o + 1, n, vs, h => by simp [segL] at h
  | v :: r, 0, n + 1, vs, h => by
    simp only [segL] at h
    obtain ⟨us, h1, h2⟩ := Option.map_eq_some_iff.1 h
    subst h2
    obtain ⟨h3, h4⟩ := segL_eq r 0 n us h1
    refine ⟨by simp [h3], fun j u hu => ?_⟩
    cases j with
    | zero => simpa using hu
    | succ j =>
      have := h4 j u (by simpa using hu)
      simpa using this
  | v :: r, o + 1, n, vs, h => by
    have h' : segL r o n = some vs := by cases n <;> simpa [segL] using h
    obtain ⟨h3, h4⟩ := segL_eq r o n vs h'
    refine ⟨h3, fun j u hu => ?_⟩
    have := h4 j u hu
    rw [show o + 1 + j = (o + j) + 1 by omega, List.getElem?_cons_succ]; exact this
/-- a value's cells -/
def cellsL : Value → List Value
  | .agg cs => cs.toList
  | v => [v]
theorem cellsL_eq (v : Value) : v.cells = (cellsL v).toArray := by cases v <;> rfl
def setL : List Value → Nat → Value → List Value
  | [], _, _ => []
  | _ :: r, 0, v => v :: r
  | u :: r, o + 1, v => u :: setL r o v
theorem setL_eq : ∀ (l : List Value) (o : Nat) (v : Value), setL l o v = l.set o v
  | [], _, _ => by simp [setL]
  | u :: r, 0, v => by simp [setL]
  | u :: r, o + 1, v => by simp [setL, setL_eq r o v]
def overL : List Value → Nat → List Value → Option (List Value)
  | l, 0, [] => some l
  | _ :: r, 0, v :: vs => (overL r 0 vs).map (v :: ·)
  | u :: r, o + 1, vs => (overL r o vs).map (u :: ·)
  | [], _, _ => none
theorem overL_eq : ∀ (l : List Value) (o : Nat) (vs out : List Value), overL l o vs = some out → o + vs.length ≤ l.length ∧ out = l.take o ++ vs ++ l.drop (o + vs.length)
  | [], 0, [], out, h => by simp [overL] at h; subst h; simp
  | v :: r, 0, [], out, h => by simp [overL] at h; subst h; simp
  | [], 0, v :: vs, out, h => by simp [overL] at h
  | [], o + 1, vs, out, h => by simp [overL] at h
  | u :: r, 0, v :: vs, out, h => by
    simp only [overL] at h
    obtain ⟨us, h1, h2⟩ := Option.map_eq_some_iff.1 h
    subst h2
    obtain ⟨h3, h4⟩ := overL_eq r 0 vs us h1
    refine ⟨by simp at h3 ⊢; omega, ?_⟩
    rw [h4]; simp
  | u :: r, o + 1, vs, out, h => by
    have h' : (overL r o vs).map (u :: ·) = some out := by cases vs <;> simpa [overL] using h
    obtain ⟨us, h1, h2⟩ := Option.map_eq_some_iff.1 h'
    subst h2
    obtain ⟨h3, h4⟩ := overL_eq r o vs us h1
    refine ⟨by simp at h3 ⊢; omega, ?_⟩
    rw [h4]
    rw [show o + 1 + vs.length = (o + vs.length) + 1 by omega]
    simp
def nthP : List (Nat × Nat) → Nat → Option (Nat × Nat)
  | [], _ => none
  | x :: _, 0 => some x
  | _ :: r, i + 1 => nthP r i
theorem nthP_eq : ∀ (l : List (Nat × Nat)) (i : Nat), nthP l i = l[i]?
  | [], i => by simp [nthP]
  | x :: r, 0 => by simp [nthP]
  | x :: r, i + 1 => by simp [nthP, nthP_eq r i]
def lenL : List Value → Nat
  | [] => 0
  | _ :: r => lenL r + 1
theorem lenL_eq : ∀ l : List Value, lenL l = l.length
  | [] => rfl
  | _ :: r => by simp [lenL, lenL_eq r]
/-- a struct's cells, field by field -/
def fillL (places : List (Nat × Nat)) : List Value → List (Nat × Value) → Option (List Value)
  | cells, [] => some cells
  | cells, (i, v) :: rest => match nthP places i with
    | none => none
    | some (off, k) => match Nat.beq (lenL (cellsL v)) k, overL cells off (cellsL v) with
      | true, some out => fillL places out rest
      | _, _ => none
theorem fillL_eq (places : List (Nat × Nat)) : ∀ (parts : List (Nat × Value)) (cells out : List Value), fillL places cells parts = some out → Instr.fill (places.toArray[·]?) cells.toArray parts = some out.toArray
  | [], cells, out, h => by simp [fillL] at h; subst h; simp [Instr.fill]
  | (i, v) :: rest, cells, out, h => by
    simp only [fillL] at h
    split at h
    · cases h
    · rename_i off k hp
      split at h
      · rename_i out1 hb ho
        obtain ⟨h1, h2⟩ := overL_eq _ _ _ _ ho
        have hk : (cellsL v).length = k := by rw [← lenL_eq]; exact Nat.eq_of_beq_eq_true hb
        have ih := fillL_eq places rest out1 out h
        rw [nthP_eq] at hp
        have hfs := fold_set (cellsL v) off cells.toArray (by simpa using h1)
        have hfa : (v.cells.zipIdx.foldl (fun (cs : Array Value) (x : Value × Nat) => cs.setIfInBounds (off + x.2) x.1) cells.toArray) = out1.toArray := by
          rw [cellsL_eq, ← Array.foldl_toList, Array.toList_zipIdx, h2]
          simpa using hfs
        have hfb : (v.cells.zipIdx.foldl (fun cs (x : Value × Nat) => match x with | (c, j) => cs.setIfInBounds (off + j) c) cells.toArray) = out1.toArray := hfa
        simp only [Instr.fill]
        rw [show (places.toArray[i]?) = some (off, k) by simpa using hp]
        simp only
        rw [if_neg (by rw [cellsL_eq]; simp [hk]; omega), hfb]
        exact ih
      · cases h

section
variable {P : Program} {Q : Exit → Act → World → Prop} {n : Nat} {σ : Sg} {w : World} {L rest : List Oper} {d : Nat} {ty : TypeId} {pos : String} {af : Array Edge} {g : Option (Nat × Bool)} {t e : TypeId} {x y : Operand} {b o : Nat} {cells : List Value}

theorem run_fa {f k : Nat} [hf : IsFd P t f k] (w : World) : (Instr.fieldAt t (.pointer (some ⟨b, o, none⟩)) f).run P w = .ok (.pointer (some ⟨b, o + k, none⟩)) w := by
  obtain ⟨fs, fld, i, h1, h2, h3, h4, h5⟩ := hf.ok
  simp [Instr.fieldAt, run_underlying h1, h2, Instr.sureAddr, fieldPlace, sizeOf, typeInfo, h4, h5, h3, WideShapes.add_plain]
/-- &x.f -/
theorem WL.fa {f k : Nat} (hg : gd L σ ⟨some d, .fieldAddr t x f, ty, pos, af, g⟩ = some true) (hd : Nat.ble (d + 1) n = true) (hx : ev σ x = some (.pointer (some ⟨b, o, none⟩))) [hf : IsFd P t f k]
    (h : WL P L Q rest n ((d, .pointer (some ⟨b, o + k, none⟩)) :: σ) w) : WL P L Q (⟨some d, .fieldAddr t x f, ty, pos, af, g⟩ :: rest) n σ w := by
  refine WL.run hg hd (fun a ha => ?_) h
  simp [execOp, ha.ev hx, run_fa (P := P) (t := t) (f := f) (k := k)]
theorem QL.fa {f k : Nat} (hg : gd L σ ⟨some d, .fieldAddr t x f, ty, pos, af, g⟩ = some true) (hd : Nat.ble (d + 1) n = true) (hx : ev σ x = some (.pointer (some ⟨b, o, none⟩))) [hf : IsFd P t f k]
    (h : QL P L w Q rest n ((d, .pointer (some ⟨b, o + k, none⟩)) :: σ)) : QL P L w Q (⟨some d, .fieldAddr t x f, ty, pos, af, g⟩ :: rest) n σ := by
  refine QL.run hg hd (fun a ha w' _ => ?_) h
  simp [execOp, ha.ev hx, run_fa (P := P) (t := t) (f := f) (k := k)]
theorem run_ld {v : Value} (w : World) (hb : Blk w b e cells) (hv : nthV cells o = some v) [hc : IsC P t 1 false] : (Instr.loadAt t (.pointer (some ⟨b, o, none⟩))).run P w = .ok v w := by
  obtain ⟨i, dd, h1, h2, h3, h4⟩ := hc.ok
  have hagg : (isAgg t).run P w = .ok false w := by
    unfold isAgg
    rw [Sem.run_bind, run_underlying h3 w, ← h4]
    cases dd <;> rfl
  rw [nthV_eq] at hv
  simp only [Instr.loadAt, Sem.run_bind, Instr.sureAddr, Sem.run_pure, Result.andThen_ok, loadVar, hagg]
  simp [hb.cell hv]
theorem run_ldA {vs : List Value} {k : Nat} (w : World) (hb : Blk w b e cells) (hv : segL cells o k = some vs) [hc : IsC P t k true] : (Instr.loadAt t (.pointer (some ⟨b, o, none⟩))).run P w = .ok (.agg vs.toArray) w := by
  obtain ⟨i, dd, h1, h2, h3, h4⟩ := hc.ok
  have hagg : (isAgg t).run P w = .ok true w := by
    unfold isAgg
    rw [Sem.run_bind, run_underlying h3 w, ← h4]
    cases dd <;> rfl
  obtain ⟨hl, hs⟩ := segL_eq _ _ _ _ hv
  have hld := run_loadCells_list (P := P) w ⟨b, o, none⟩ vs (fun j u hu => by rw [WideShapes.add_plain]; exact hb.cell (hs j u hu))
  rw [hl] at hld
  simp [Instr.loadAt, Instr.sureAddr, loadVar, hagg, sizeOf, typeInfo, h1, h2, hld]
/-- *p, one cell -/
theorem WL.ld {v : Value} (hg : gd L σ ⟨some d, .load t x, ty, pos, af, g⟩ = some true) (hd : Nat.ble (d + 1) n = true) (hx : ev σ x = some (.pointer (some ⟨b, o, none⟩))) [hc : IsC P t 1 false] (hb : Blk w b e cells) (hv : nthV cells o = some v)
    (h : WL P L Q rest n ((d, v) :: σ) w) : WL P L Q (⟨some d, .load t x, ty, pos, af, g⟩ :: rest) n σ w := by
  refine WL.run hg hd (fun a ha => ?_) h
  simp [execOp, ha.ev hx, run_ld (P := P) (t := t) w hb hv]
theorem QL.ld {v : Value} (hg : gd L σ ⟨some d, .load t x, ty, pos, af, g⟩ = some true) (hd : Nat.ble (d + 1) n = true) (hx : ev σ x = some (.pointer (some ⟨b, o, none⟩))) [hc : IsC P t 1 false] (hb : Blk w b e cells) (hv : nthV cells o = some v)
    (h : QL P L w Q rest n ((d, v) :: σ)) : QL P L w Q (⟨some d, .load t x, ty, pos, af, g⟩ :: rest) n σ := by
  refine QL.run hg hd (fun a ha w' hE => ?_) h
  simp [execOp, ha.ev hx, run_ld (P := P) (t := t) w' (hb.ext hE) hv]
/-- *p, a struct -/
theorem WL.ldA {vs : List Value} {k : Nat} (hg : gd L σ ⟨some d, .load t x, ty, pos, af, g⟩ = some true) (hd : Nat.ble (d + 1) n = true) (hx : ev σ x = some (.pointer (some ⟨b, o, none⟩))) [hc : IsC P t k true] (hb : Blk w b e cells) (hv : segL cells o k = some vs)
    (h : WL P L Q rest n ((d, .agg vs.toArray) :: σ) w) : WL P L Q (⟨some d, .load t x, ty, pos, af, g⟩ :: rest) n σ w := by
  refine WL.run hg hd (fun a ha => ?_) h
  simp [execOp, ha.ev hx, run_ldA (P := P) (t := t) w hb hv]
theorem QL.ldA {vs : List Value} {k : Nat} (hg : gd L σ ⟨some d, .load t x, ty, pos, af, g⟩ = some true) (hd : Nat.ble (d + 1) n = true) (hx : ev σ x = some (.pointer (some ⟨b, o, none⟩))) [hc : IsC P t k true] (hb : Blk w b e cells) (hv : segL cells o k = some vs)
    (h : QL P L w Q rest n ((d, .agg vs.toArray) :: σ)) : QL P L w Q (⟨some d, .load t x, ty, pos, af, g⟩ :: rest) n σ := by
  refine QL.run hg hd (fun a ha w' hE => ?_) h
  simp [execOp, ha.ev hx, run_ldA (P := P) (t := t) w' (hb.ext hE) hv]
/-- a nil check that passes -/
theorem WL.nck {p : Addr} (hg : gd L σ ⟨some d, .nilCheck x, ty, pos, af, g⟩ = some true) (hd : Nat.ble (d + 1) n = true) (hx : ev σ x = some (.pointer (some p)))
    (h : WL P L Q rest n ((d, .pointer (some p)) :: σ) w) : WL P L Q (⟨some d, .nilCheck x, ty, pos, af, g⟩ :: rest) n σ w := by
  refine WL.run hg hd (fun a ha => ?_) h
  simp [execOp, ha.ev hx]
theorem QL.nck {p : Addr} (hg : gd L σ ⟨some d, .nilCheck x, ty, pos, af, g⟩ = some true) (hd : Nat.ble (d + 1) n = true) (hx : ev σ x = some (.pointer (some p)))
    (h : QL P L w Q rest n ((d, .pointer (some p)) :: σ)) : QL P L w Q (⟨some d, .nilCheck x, ty, pos, af, g⟩ :: rest) n σ := by
  refine QL.run hg hd (fun a ha _ _ => ?_) h
  simp [execOp, ha.ev hx]
/-- a variable of the call's own, with a value -/
theorem WL.boxB {v : Value} (hg : gd L σ ⟨some d, .box e x, ty, pos, af, g⟩ = some true) (hd : Nat.ble (d + 1) n = true) (hx : ev σ x = some v)
    (h : ∀ w', Blk w' w.heap.size e (cellsL v) → Ext w w' → WL P L Q rest n ((d, .pointer (some ⟨w.heap.size, 0, none⟩)) :: σ) w') : WL P L Q (⟨some d, .box e x, ty, pos, af, g⟩ :: rest) n σ w := by
  refine WL.box hg hd hx ?_
  have := Blk.alloc w (cellsL v) e
  rw [← cellsL_eq] at this
  exact h _ this (Ext.alloc w _)
/-- .. with the zero value -/
theorem WL.alloc {zs : List Value} (hg : gd L σ ⟨some d, .alloc e, ty, pos, af, g⟩ = some true) (hd : Nat.ble (d + 1) n = true) [hz : IsZC P e zs]
    (h : ∀ w', Blk w' w.heap.size e zs → Ext w w' → WL P L Q rest n ((d, .pointer (some ⟨w.heap.size, 0, none⟩)) :: σ) w') : WL P L Q (⟨some d, .alloc e, ty, pos, af, g⟩ :: rest) n σ w := by
  obtain ⟨i, z, h1, h2, h3⟩ := hz.ok
  refine WL.run hg hd (fun a ha => ?_) (h _ (Blk.alloc w zs e) (Ext.alloc w _))
  simp [execOp, Instr.alloc, zeroValue, typeInfo, h1, h2, newVar, newRow, h3]
theorem grown_setRow (w : World) (b : Nat) (cs : Array Value) : w.grownBy (w.setRow b cs) (some b) := ⟨rfl, rfl, rfl, by simp, fun k _ hk => setRow_other w b k _ (fun e => hk (by simp [e]))⟩
/-- *p = v, as many cells as v has -/
theorem WL.st {v : Value} {k : Nat} {ag : Bool} {out : List Value} (hg : gd L σ ⟨none, .store t x y, ty, pos, af, g⟩ = some true) (hx : ev σ x = some (.pointer (some ⟨b, o, none⟩))) (hy : ev σ y = some v) [hc : IsC P t k ag] (hb : Blk w b e cells)
    (hk : lenL (cellsL v) = k) (hout : overL cells o (cellsL v) = some out) (h1 : ∀ u ∈ cellsL v, u.oneCell' = true)
    (h : ∀ w', Blk w' b e out → w.grownBy w' (some b) → WL P L Q rest n σ w') : WL P L Q (⟨none, .store t x y, ty, pos, af, g⟩ :: rest) n σ w := by
  obtain ⟨hle, rfl⟩ := overL_eq _ _ _ _ hout
  obtain ⟨i, dd, hi1, hi2, _, _⟩ := hc.ok
  rw [lenL_eq] at hk
  subst hk
  have hst := run_storeCells_at P b o e (cellsL v) 0 cells.toArray w hb (by simpa using hle) h1
  simp only [Nat.add_zero] at hst
  refine WL.runU hg (fun a ha => ?_) (h _ (by
    have := setRow_heap w b cells.toArray (cells.take o ++ cellsL v ++ cells.drop (o + (cellsL v).length)).toArray e (0, 0) hb
    exact this) (grown_setRow w b _))
  simp only [execOp, ha.ev hx, ha.ev hy, Instr.storeAt, Sem.run_bind, Instr.sureAddr, Sem.run_pure, Result.andThen_ok, storeVar, sizeOf, typeInfo, run_program, hi1, hi2, cellsL_eq, hst]
  simp
  simp [hst]
theorem run_buildA {parts : List (Nat × Operand)} {vs : List Value} {places : List (Nat × Nat)} {zs out : List Value} {a : Act} (ha : Fr n σ a)
    (hv : evs σ (sndL parts) = some vs) [hz : IsZC P t zs] [hp : IsBd P t places] (hf : fillL places zs ((parts.map (·.1)).zip vs) = some out) {w : World} {dd : Option Nat} :
    (execOp a.eval ⟨dd, .build t parts.toArray, ty, pos, af, g⟩).run P w = .ok (.value (.agg out.toArray)) w := by
  obtain ⟨i, z, h1, h2, h3⟩ := hz.ok
  obtain ⟨fs, h4, h5⟩ := hp.ok
  have hsnd : ∀ l : List (Nat × Operand), sndL l = l.map (·.2) := by
    intro l; induction l with
    | nil => rfl
    | cons p r ih => obtain ⟨i, x⟩ := p; simp [sndL, ih]
  have e1 := evs_eq ha (sndL parts) vs hv
  rw [hsnd, List.map_map] at e1
  have e2 : (parts.toArray.map fun (x : Nat × Operand) => (x.1, a.eval x.2)).toList = (parts.map (·.1)).zip vs := by
    rw [← e1]
    simp only [List.map_toArray]
    clear hv hf e1
    induction parts with
    | nil => rfl
    | cons p r ih => simpa using ih
  have hb : P.built t ((parts.map (·.1)).zip vs) = some out.toArray := by
    unfold Program.built
    rw [h1, h4]
    simp only [h2, h5]
    rw [h3]
    exact fillL_eq places _ zs out hf
  have hrun := run_build (P := P) w t (parts.toArray.map fun (x : Nat × Operand) => (x.1, a.eval x.2)) out.toArray (by rw [e2]; exact hb)
  have e3 : (execOp a.eval ⟨dd, .build t parts.toArray, ty, pos, af, g⟩) = (do let v ← Instr.build t (parts.toArray.map fun (x : Nat × Operand) => (x.1, a.eval x.2)); Pure.pure (Next.value v) : Sem Next) := rfl
  rw [e3, Sem.run_bind, hrun]
  rfl
/-- a struct's value -/
theorem WL.build {parts : List (Nat × Operand)} {vs : List Value} {places : List (Nat × Nat)} {zs out : List Value} (hg : gd L σ ⟨some d, .build t parts.toArray, ty, pos, af, g⟩ = some true) (hd : Nat.ble (d + 1) n = true)
    (hv : evs σ (sndL parts) = some vs) [hz : IsZC P t zs] [hp : IsBd P t places] (hf : fillL places zs ((parts.map (·.1)).zip vs) = some out)
    (h : WL P L Q rest n ((d, .agg out.toArray) :: σ) w) : WL P L Q (⟨some d, .build t parts.toArray, ty, pos, af, g⟩ :: rest) n σ w := by
  exact WL.run hg hd (fun a ha => run_buildA ha hv hf) h
end
end Go.Proofs.Ytadbkppgaekmpaa
/-
  Maps from a key to its number, made by the call: the keys as a list, in the order in which they came. Over any program.
-/
set_option linter.unusedVariables false
set_option linter.unusedSimpArgs false
namespace Go.Proofs.Ytadbkppgaekmpaa
open Go.RowKit

/-- a map type, its key's type and its element's type -/
class IsM (P : Program) (t : TypeId) (k e : outParam TypeId) : Prop where
  ok : P.underlying t = some (.map k e)
/-- keys of which the model's order is whole -/
class IsKy (P : Program) (k : TypeId) : Prop where
  ok : WideMaps.KeyLaw P k
theorem IsKy.of {P : Program} {k : TypeId} {d : TypeDesc} (hl : laidOutB P = true) {m : Nat} (hm : Nat.ble (m + 1) 10000 = true) (hrow : Nat.ble (k + 1) P.types.size = true) (hk : P.keyTypeAt m k = true) (hu : P.underlying k = some d) (hd : aggD d = true) : IsKy P k :=
  ⟨deep_law_laid hl (Nat.le_of_ble_eq_true hm) (Nat.lt_of_succ_le (Nat.le_of_ble_eq_true hrow)) hk (by
    rw [hu]; cases d <;> first | rfl | (cases hd))⟩
/-- a type whose zero value is the number 0 -/
class IsZ0 (P : Program) (e : TypeId) : Prop where
  ok : (P.info? e).map (fun i => i.zero) = some (some (.int .i64 0))
/-- v is a key of type k -/
def KeyV (P : Program) (k : TypeId) (v : Value) : Prop := ∃ l, keyOf P k v = some l
/-- block b is a map that holds the keys ks, each with its number -/
def NumM (P : Program) (k : TypeId) (w : World) (b : Nat) (ks : List Value) : Prop :=
  ∃ (es : Array MapEntry) (clock : Nat), w.heap[b]? = some (.map es clock) ∧ es.toList.map (·.key) = ks ∧ (∀ (i : Nat) (e : MapEntry), es.toList[i]? = some e → e.val = .int .i64 (i : Int)) ∧ (∀ x ∈ ks, KeyV P k x) ∧ ks.Nodup
section
variable {P : Program} {k : TypeId} {w w' : World} {b : Nat} {ks : List Value}
theorem NumM.lt (h : NumM P k w b ks) : b < w.heap.size := by
  obtain ⟨es, clock, hb, _⟩ := h
  exact (Array.getElem?_eq_some_iff.1 hb).1
theorem NumM.at (h : NumM P k w b ks) (hb : w'.heap[b]? = w.heap[b]?) : NumM P k w' b ks := by
  obtain ⟨es, clock, h1, h2⟩ := h
  exact ⟨es, clock, hb.trans h1, h2⟩
theorem NumM.ext (h : NumM P k w b ks) (hE : Ext w w') : NumM P k w' b ks := h.at (hE.block b h.lt)
theorem NumM.kept {row : Option Nat} (h : NumM P k w b ks) (hg : w.grownBy w' row) (hne : some b ≠ row) : NumM P k w' b ks := h.at (hg.block b h.lt hne)
theorem NumM.made (w : World) : NumM P k (w.alloc (.map #[] 0)) w.heap.size [] :=
  ⟨#[], 0, heap_alloc_new w _, rfl, fun i e h => by simp at h, fun x h => by simp at h, List.Pairwise.nil⟩
theorem run_num {t e : TypeId} {x : Value} [ht : IsM P t k e] [hk : IsKy P k] [hz : IsZ0 P e] (h : NumM P k w b ks) (hx : KeyV P k x) :
    (x ∉ ks ∧ (Instr.lookup t (.map (some b)) x true).run P w = .ok (.tuple #[.int .i64 0, .bool false]) w) ∨
    ∃ (j : Nat) (hj : j < ks.length), ks[j] = x ∧ (Instr.lookup t (.map (some b)) x true).run P w = .ok (.tuple #[.int .i64 (j : Int), .bool true]) w := by
  obtain ⟨es, clock, hb, hes, hv, hks, hnd⟩ := h
  obtain ⟨l, hx⟩ := hx
  obtain ⟨i, h1, h2⟩ := Option.map_eq_some_iff.1 hz.ok
  have hzr : (zeroValue e).run P w = .ok (.int .i64 0) w := by simp [zeroValue, typeInfo, h1, h2]
  have hkeys : ∀ e ∈ es.toList, ∃ l, keyOf P k e.key = some l := fun e he => hks _ (hes ▸ List.mem_map.2 ⟨e, he, rfl⟩)
  rcases hk.ok.find w hx es.toList hkeys with ⟨g1, g2⟩ | ⟨j, e0, g1, g2, g3⟩
  · refine .inl ⟨fun hm => ?_, by simp [Instr.lookup, run_underlying ht.ok, MapKept.run_getObj_map hb, hk.ok.check w _ hx, g1, hzr, Result.andThen]⟩
    rw [← hes] at hm
    obtain ⟨e, he, hke⟩ := List.mem_map.1 hm
    exact g2 e he hke
  · have hj : j < ks.length := by rw [← hes, List.length_map]; exact (List.getElem?_eq_some_iff.1 g2).1
    refine .inr ⟨j, hj, ?_, ?_⟩
    · subst hes
      rw [List.getElem_map, ← g3]
      congr 1
      exact (List.getElem?_eq_some_iff.1 g2).2
    · have hval := hv j e0 g2
      simp [Instr.lookup, run_underlying ht.ok, MapKept.run_getObj_map hb, hk.ok.check w _ hx, g1, Result.andThen, hval]
theorem run_numPut {t e : TypeId} {x : Value} [ht : IsM P t k e] [hk : IsKy P k] (h : NumM P k w b ks) (hx : KeyV P k x) (hn : x ∉ ks) :
    ∃ w', (Instr.mapUpdate t (.map (some b)) x (.int .i64 (ks.length : Int))).run P w = .ok () w' ∧ NumM P k w' b (ks ++ [x]) ∧ w.grownBy w' (some b) := by
  obtain ⟨es, clock, hb, hes, hv, hks, hnd⟩ := h
  obtain ⟨l, hx'⟩ := hx
  have hkeys : ∀ e ∈ es.toList, ∃ l, keyOf P k e.key = some l := fun e he => hks _ (hes ▸ List.mem_map.2 ⟨e, he, rfl⟩)
  have hsz : es.toList.length = ks.length := by rw [← hes, List.length_map]
  have hlt := (Array.getElem?_eq_some_iff.1 hb).1
  rcases hk.ok.find w hx' es.toList hkeys with ⟨g1, g2⟩ | ⟨j, e0, g1, g2, g3⟩
  · refine ⟨_, by simp [Instr.mapUpdate, run_underlying ht.ok, MapKept.run_getObj_map hb, hk.ok.check w false hx', g1, MapKept.run_setObj_map _ hb, Result.andThen]; rfl, ?_, ?_⟩
    · refine ⟨es.push ⟨x, .int .i64 (ks.length : Int), clock⟩, clock + 1, by simp [hlt], by simp [hes], fun i e he => ?_, fun y hy => ?_, ?_⟩
      · rw [Array.toList_push] at he
        rcases Nat.lt_or_ge i es.toList.length with hi | hi
        · rw [List.getElem?_append_left hi] at he
          exact hv i e he
        · rw [List.getElem?_append_right hi] at he
          have h0 : i - es.toList.length = 0 := by
            have := (List.getElem?_eq_some_iff.1 he).1
            simp at this; omega
          rw [h0] at he
          simp at he
          subst he
          show Value.int .i64 (ks.length : Int) = _
          congr 1; omega
      · rcases List.mem_append.1 hy with hy | hy
        · exact hks y hy
        · rw [List.mem_singleton] at hy; subst hy; exact ⟨l, hx'⟩
      · rw [List.nodup_append]
        refine ⟨hnd, by simp, fun a ha c hc e => ?_⟩
        rw [List.mem_singleton] at hc
        subst hc; subst e; exact hn ha
    · exact ⟨rfl, rfl, rfl, by simp, fun i _ hi => by
        simp only [Array.getElem?_setIfInBounds]
        rw [if_neg (fun e => hi (by rw [e]))]⟩
  · exact absurd (hes ▸ List.mem_map.2 ⟨e0, List.mem_of_getElem? g2, g3⟩) hn
end

section
variable {P : Program} {Q : Exit → Act → World → Prop} {n : Nat} {σ : Sg} {w : World} {L rest : List Oper} {d : Nat} {ty : TypeId} {pos : String} {af : Array Edge} {g : Option (Nat × Bool)} {t k e : TypeId} {b : Nat} {ks : List Value} {x y z : Operand} {v : Value}
/-- v, ok := m[x] -/
theorem WL.num (hg : gd L σ ⟨some d, .lookup t x y true, ty, pos, af, g⟩ = some true) (hd : Nat.ble (d + 1) n = true) (hx : ev σ x = some (.map (some b))) (hy : ev σ y = some v) [ht : IsM P t k e] [hk : IsKy P k] [hz : IsZ0 P e]
    (h : NumM P k w b ks) (hv : KeyV P k v)
    (h1 : v ∉ ks → WL P L Q rest n ((d, .tuple ⟨[.int .i64 0, .bool false]⟩) :: σ) w)
    (h2 : ∀ (j : Nat) (hj : j < ks.length), ks[j] = v → WL P L Q rest n ((d, .tuple ⟨[.int .i64 (j : Int), .bool true]⟩) :: σ) w) :
    WL P L Q (⟨some d, .lookup t x y true, ty, pos, af, g⟩ :: rest) n σ w := by
  rcases run_num (t := t) h hv with ⟨g1, g2⟩ | ⟨j, hj, g1, g2⟩
  · refine WL.run hg hd (fun a ha => ?_) (h1 g1)
    simp [execOp, ha.ev hx, ha.ev hy, g2]
  · refine WL.run hg hd (fun a ha => ?_) (h2 j hj g1)
    simp [execOp, ha.ev hx, ha.ev hy, g2]
/-- m[x] = len(m), at a new key -/
theorem WL.numPut (hg : gd L σ ⟨none, .mapUpdate t x y z, ty, pos, af, g⟩ = some true) (hx : ev σ x = some (.map (some b))) (hy : ev σ y = some v) (hzv : ev σ z = some (.int .i64 (ks.length : Int))) [ht : IsM P t k e] [hk : IsKy P k]
    (h : NumM P k w b ks) (hv : KeyV P k v) (hn : v ∉ ks)
    (hr : ∀ w', NumM P k w' b (ks ++ [v]) → w.grownBy w' (some b) → WL P L Q rest n σ w') :
    WL P L Q (⟨none, .mapUpdate t x y z, ty, pos, af, g⟩ :: rest) n σ w := by
  obtain ⟨w', g1, g2, g3⟩ := run_numPut (t := t) h hv hn
  refine WL.runU hg (fun a ha => ?_) (hr w' g2 g3)
  simp [execOp, ha.ev hx, ha.ev hy, ha.ev hzv, g1]
/-- make(map[K]int) -/
theorem WL.mkMap (hg : gd L σ ⟨some d, .makeMap t none, ty, pos, af, g⟩ = some true) (hd : Nat.ble (d + 1) n = true)
    (h : NumM P k (w.alloc (.map #[] 0)) w.heap.size [] → WL P L Q rest n ((d, .map (some w.heap.size)) :: σ) (w.alloc (.map #[] 0))) :
    WL P L Q (⟨some d, .makeMap t none, ty, pos, af, g⟩ :: rest) n σ w := by
  refine WL.run hg hd (fun a ha => ?_) (h (NumM.made w))
  simp [execOp, Instr.makeMap]
end
/-- a key that is a pair of numbers -/
theorem KeyV.pair {P : Program} {k fa fb : TypeId} {x y : Int} (h : (P.keyType k && Value.formed P k (.agg #[.int .i64 0, .int .i64 0])) = true)
    (hk : ∀ a b : Int, P.keyLits (P.types.size + 1) k [.int .i64 a, .int .i64 b] = (if (Lit.int .i64 a).wf = true ∧ (Lit.int .i64 b).wf = true then some [.int .i64 a, .int .i64 b] else none))
    (hd : ∃ d, P.underlying k = some (.struct d)) (hx : (Lit.int .i64 x).wf = true) (hy : (Lit.int .i64 y).wf = true) : KeyV P k (.agg ⟨[.int .i64 x, .int .i64 y]⟩) := by
  obtain ⟨d, hd⟩ := hd
  refine ⟨.string (keyBytes [.int .i64 x, .int .i64 y]), ?_⟩
  unfold keyOf
  rw [hd]
  dsimp only
  have hf : Value.formed P k (.agg ⟨[.int .i64 x, .int .i64 y]⟩) = Value.formed P k (.agg #[.int .i64 0, .int .i64 0]) := by
    unfold Value.formed
    rw [hd]; rfl
  rw [hf, if_pos h]
  show Option.map _ (P.keyLits (P.types.size + 1) k [.int .i64 x, .int .i64 y]) = _
  rw [hk, if_pos ⟨hx, hy⟩]
  rfl
end Go.Proofs.Ytadbkppgaekmpaa
/-
  What comes from some nodes of a graph: plain lists, no program in sight.
-/
set_option linter.unusedVariables false
set_option linter.unusedSimpArgs false
namespace Go.Proofs.Ytadbkppgaekmpaa

abbrev Graph := List (List Int)
inductive Rch (g : Graph) (from' : List Int) : Nat → Prop
  | base {x : Int} : x ∈ from' → Rch g from' x.toNat
  | step {n : Nat} {x : Int} : Rch g from' n → x ∈ g.getD n [] → Rch g from' x.toNat
open Classical in
noncomputable def rchB (g : Graph) (from' : List Int) : List Bool := (List.range g.length).map fun n => decide (Rch g from' n)
theorem rchB_len (g : Graph) (f : List Int) : (rchB g f).length = g.length := by simp [rchB]
theorem rchB_get {g : Graph} {f : List Int} {n : Nat} (h : n < g.length) : (rchB g f)[n]? = some (@decide (Rch g f n) (Classical.propDecidable _)) := by
  simp [rchB, h]
theorem rchB_iff {g : Graph} {f : List Int} {n : Nat} (h : n < (rchB g f).length) : (rchB g f)[n] = true ↔ Rch g f n := by
  have h' : n < g.length := by rwa [rchB_len] at h
  simp [rchB]

/-- all its numbers are nodes -/
def okL (n : Nat) (l : List Int) : Prop := ∀ x ∈ l, 0 ≤ x ∧ x < n
def okG (g : Graph) : Prop := ∀ l ∈ g, okL g.length l
theorem okG_row {g : Graph} (h : okG g) (n : Nat) : okL g.length (g.getD n []) := by
  intro x hx
  by_cases hn : n < g.length
  · rw [List.getD_eq_getElem?_getD, List.getElem?_eq_getElem hn] at hx
    exact h _ (List.getElem_mem hn) x hx
  · rw [List.getD_eq_getElem?_getD, List.getElem?_eq_none (by omega)] at hx
    simp at hx

/-- what is still to be looked at -/
def pot : Graph → List Bool → Nat
  | l :: g, s :: r => (match s with | true => 0 | false => l.length + 1) + pot g r
  | _, _ => 0
theorem pot_set : ∀ (g : Graph) (seen : List Bool) (n : Nat), n < g.length → seen.length = g.length → seen.getD n true = false → pot g (seen.set n true) + (g.getD n []).length + 1 = pot g seen
  | [], _, n, h, _, _ => absurd h (by simp)
  | l :: g, [], n, _, h, _ => absurd h (by simp)
  | l :: g, s :: r, 0, _, _, h => by
    simp at h; subst h; simp [pot]; omega
  | l :: g, s :: r, n + 1, h1, h2, h3 => by
    have := pot_set g r n (by simpa using h1) (by simpa using h2) (by simpa using h3)
    simp only [List.set_cons_succ, pot, List.getD_cons_succ]
    omega
def edges (g : Graph) : Nat := (g.map List.length).sum
theorem pot_start : ∀ g : Graph, pot g (List.replicate g.length false) = edges g + g.length
  | [] => rfl
  | l :: g => by
    simp only [List.length_cons, List.replicate_succ, pot, pot_start g, edges, List.map_cons, List.sum_cons]
    omega

structure RInv (g : Graph) (f : List Int) (seen : List Bool) (todo : List Int) : Prop where
  len : seen.length = g.length
  ok : okL g.length todo
  sound : ∀ n, seen.getD n false = true → Rch g f n
  tsound : ∀ x ∈ todo, Rch g f x.toNat
  base : ∀ x ∈ f, seen.getD x.toNat false = true ∨ x ∈ todo
  clo : ∀ n, seen.getD n false = true → ∀ x ∈ g.getD n [], seen.getD x.toNat false = true ∨ x ∈ todo

theorem getD_set {l : List Bool} {n k : Nat} {b : Bool} (h : n < l.length) : (l.set n b).getD k false = if n = k then b else l.getD k false := by
  simp only [List.getD_eq_getElem?_getD, List.getElem?_set]
  split
  · subst_vars; simp [h]
  · rfl
theorem getD_rep {n k : Nat} : (List.replicate n false).getD k false = false := by
  simp only [List.getD_eq_getElem?_getD, List.getElem?_replicate]
  split <;> rfl
theorem RInv.start {g : Graph} {f : List Int} (hf : okL g.length f) : RInv g f (List.replicate g.length false) f where
  len := by simp
  ok := hf
  sound := fun n h => by rw [getD_rep] at h; cases h
  tsound := fun x hx => .base hx
  base := fun x hx => .inr hx
  clo := fun n h => by rw [getD_rep] at h; cases h
theorem RInv.pass {g : Graph} {f : List Int} {seen : List Bool} {todo : List Int} {x : Int} (h : RInv g f seen (todo ++ [x])) (hs : seen.getD x.toNat false = true) : RInv g f seen todo where
  len := h.len
  ok := fun y hy => h.ok y (by simp [hy])
  sound := h.sound
  tsound := fun y hy => h.tsound y (by simp [hy])
  base := fun y hy => by
    rcases h.base y hy with h1 | h1
    · exact .inl h1
    · rcases List.mem_append.1 h1 with h2 | h2
      · exact .inr h2
      · simp at h2; subst h2; exact .inl hs
  clo := fun n hn y hy => by
    rcases h.clo n hn y hy with h1 | h1
    · exact .inl h1
    · rcases List.mem_append.1 h1 with h2 | h2
      · exact .inr h2
      · simp at h2; subst h2; exact .inl hs
theorem RInv.mark {g : Graph} {f : List Int} {seen : List Bool} {todo : List Int} {x : Int} (hg : okG g) (h : RInv g f seen (todo ++ [x])) : RInv g f (seen.set x.toNat true) (todo ++ g.getD x.toNat []) := by
  have hx := h.ok x (by simp)
  have hlt : x.toNat < seen.length := by rw [h.len]; omega
  have key : ∀ y, seen.getD y.toNat false = true ∨ y ∈ todo ++ [x] → (seen.set x.toNat true).getD y.toNat false = true ∨ y ∈ todo ++ g.getD x.toNat [] := by
    intro y hy
    rw [getD_set hlt]
    rcases hy with h1 | h1
    · left; split
      · rfl
      · exact h1
    · rcases List.mem_append.1 h1 with h2 | h2
      · exact .inr (by simp [h2])
      · simp at h2; subst h2; left; simp
  refine ⟨by simpa using h.len, ?_, ?_, ?_, ?_, ?_⟩
  · intro y hy
    rcases List.mem_append.1 hy with h1 | h1
    · exact h.ok y (by simp [h1])
    · exact okG_row hg _ y h1
  · intro n hn
    rw [getD_set hlt] at hn
    split at hn
    · rename_i e; subst e; exact h.tsound x (by simp)
    · exact h.sound n hn
  · intro y hy
    rcases List.mem_append.1 hy with h1 | h1
    · exact h.tsound y (by simp [h1])
    · exact .step (h.tsound x (by simp)) h1
  · intro y hy; exact key y (h.base y hy)
  · intro n hn y hy
    rw [getD_set hlt] at hn
    split at hn
    · rename_i e; subst e; exact .inr (List.mem_append.2 (.inr hy))
    · exact key y (h.clo n hn y hy)
theorem RInv.done {g : Graph} {f : List Int} {seen : List Bool} (h : RInv g f seen []) : seen = rchB g f := by
  have all : ∀ n, Rch g f n → seen.getD n false = true := by
    intro n hn
    induction hn with
    | base hx => exact (h.base _ hx).resolve_right (by simp)
    | step _ hx ih => exact (h.clo _ ih _ hx).resolve_right (by simp)
  apply List.ext_getElem (by rw [h.len, rchB_len])
  intro n h1 h2
  have e1 : seen.getD n false = seen[n] := by simp [List.getD_eq_getElem?_getD, h1]
  rw [Bool.eq_iff_iff, rchB_iff h2, ← e1]
  exact ⟨h.sound n, all n⟩

/-- the search itself, to be run on small graphs -/
def dfs (g : Graph) : Nat → List Bool → List Int → List Bool
  | 0, seen, _ => seen
  | k + 1, seen, todo => match todo.reverse with
    | [] => seen
    | x :: r => match seen.getD x.toNat false with
      | true => dfs g k seen r.reverse
      | false => dfs g k (seen.set x.toNat true) (r.reverse ++ g.getD x.toNat [])
theorem dfs_eq {g : Graph} {f : List Int} (hg : okG g) : ∀ (k : Nat) (seen : List Bool) (todo : List Int), RInv g f seen todo → todo.length + pot g seen ≤ k → dfs g k seen todo = rchB g f := by
  intro k
  induction k with
  | zero =>
    intro seen todo h hk
    have : todo = [] := List.eq_nil_of_length_eq_zero (by omega)
    subst this
    exact h.done
  | succ k ih =>
    intro seen todo h hk
    unfold dfs
    split
    · rename_i he
      have : todo = [] := by simpa using he
      subst this
      exact h.done
    · rename_i x r he
      have ht : todo = r.reverse ++ [x] := by
        have := congrArg List.reverse he
        simpa using this
      subst ht
      have hx := h.ok x (by simp)
      split
      · rename_i hs
        exact ih _ _ (h.pass hs) (by simp at hk ⊢; omega)
      · rename_i hs
        have hxl : x.toNat < seen.length := by rw [h.len]; omega
        have hp := pot_set g seen x.toNat (by omega) h.len (by
          simp only [List.getD_eq_getElem?_getD, List.getElem?_eq_getElem hxl, Option.getD_some] at hs ⊢; exact hs)
        exact ih _ _ (RInv.mark hg h) (by simp only [List.length_append, List.length_cons, List.length_nil] at hk ⊢; omega)
theorem rchB_run {g : Graph} {f : List Int} (hg : okG g) (hf : okL g.length f) (k : Nat) (hk : f.length + edges g + g.length ≤ k) : rchB g f = dfs g k (List.replicate g.length false) f :=
  (dfs_eq hg k _ _ (RInv.start hf) (by rw [pot_start]; omega)).symm

/- WHAT THE LAW SAYS -/
theorem Rch.mono {g : Graph} {a b : List Int} (h : ∀ x ∈ a, x ∈ b) {n : Nat} (hn : Rch g a n) : Rch g b n := by
  induction hn with
  | base hx => exact .base (h _ hx)
  | step _ hx ih => exact .step ih hx
theorem Rch.app {g : Graph} {a b : List Int} {n : Nat} : Rch g (a ++ b) n ↔ Rch g a n ∨ Rch g b n := by
  constructor
  · intro h
    induction h with
    | base hx =>
      rcases List.mem_append.1 hx with h | h
      · exact .inl (.base h)
      · exact .inr (.base h)
    | step _ hx ih => exact ih.imp (fun h => .step h hx) (fun h => .step h hx)
  · rintro (h | h)
    · exact h.mono fun x hx => by simp [hx]
    · exact h.mono fun x hx => by simp [hx]

/- CHECKS -/
def oddB (n : Nat) (l : List Int) : Bool := l.any fun x => decide (x < 0 ∨ x ≥ n)
theorem oddB_false {n : Nat} {l : List Int} : oddB n l = false ↔ okL n l := by
  unfold oddB okL
  rw [List.any_eq_false]
  constructor
  · intro h x hx; have := h x hx; simp at this; omega
  · intro h x hx; have := h x hx; simp; omega
def chkG (g : Graph) : Int := match decide (g.length > 20000), g.any (oddB g.length) with
  | true, _ => 2
  | false, true => 1
  | false, false => 0
theorem chkG_ok {g : Graph} (h : chkG g = 0) : okG g ∧ g.length ≤ 20000 := by
  unfold chkG at h
  split at h
  · cases h
  · cases h
  · rename_i h1 h2
    simp at h1
    refine ⟨fun l hl => oddB_false.1 ?_, h1⟩
    rw [List.any_eq_false] at h2
    simpa using h2 l hl
end Go.Proofs.Ytadbkppgaekmpaa
/-
  Ways through a graph that meet sets again and again: plain lists, no program in sight.
-/
set_option linter.unusedVariables false
set_option linter.unusedSimpArgs false
namespace Go.Proofs.Ytadbkppgaekmpaa

/-- n steps of E along p -/
structure Wlk (E : Nat → Nat → Prop) (p : Nat → Nat) (n a b : Nat) : Prop where
  first : p 0 = a
  last : p n = b
  step : ∀ i, i < n → E (p i) (p (i + 1))
def glue (p q : Nat → Nat) (n : Nat) : Nat → Nat := fun i => if i < n then p i else q (i - n)
theorem glue_lt {p q : Nat → Nat} {n i : Nat} (h : i < n) : glue p q n i = p i := by unfold glue; rw [if_pos h]
theorem glue_ge {p q : Nat → Nat} {n i : Nat} (h : n ≤ i) : glue p q n i = q (i - n) := by unfold glue; rw [if_neg (by omega)]
theorem glue_le {p q : Nat → Nat} {n i : Nat} (h : i ≤ n) (he : p n = q 0) : glue p q n i = p i := by
  by_cases hi : i < n
  · exact glue_lt hi
  · obtain rfl : i = n := by omega
    rw [glue_ge (Nat.le_refl _), Nat.sub_self, he]
theorem Wlk.trans {E : Nat → Nat → Prop} {p q : Nat → Nat} {n m a b c : Nat} (h : Wlk E p n a b) (k : Wlk E q m b c) : Wlk E (glue p q n) (n + m) a c := by
  have he : p n = q 0 := h.last.trans k.first.symm
  refine ⟨(glue_le (Nat.zero_le _) he).trans h.first, ?_, fun i hi => ?_⟩
  · rw [glue_ge (by omega), show n + m - n = m by omega]; exact k.last
  · by_cases hn : i < n
    · rw [glue_lt hn, glue_le (i := i + 1) (Nat.succ_le_of_lt hn) he]; exact h.step i hn
    · rw [glue_ge (by omega), glue_ge (by omega), show i + 1 - n = (i - n) + 1 by omega]
      exact k.step _ (by omega)
def Rc (E : Nat → Nat → Prop) (a b : Nat) : Prop := ∃ p n, Wlk E p n a b
theorem Rc.refl {E : Nat → Nat → Prop} (a : Nat) : Rc E a a := ⟨fun _ => a, 0, rfl, rfl, fun i h => absurd h (by omega)⟩
theorem Rc.trans {E : Nat → Nat → Prop} {a b c : Nat} : Rc E a b → Rc E b c → Rc E a c
  | ⟨_, _, h⟩, ⟨_, _, k⟩ => ⟨_, _, h.trans k⟩
theorem Wlk.one {E : Nat → Nat → Prop} {a b : Nat} (h : E a b) : Wlk E (fun i => if i = 0 then a else b) 1 a b :=
  ⟨rfl, rfl, fun i hi => by obtain rfl : i = 0 := by omega
                            exact h⟩
theorem Rc.one {E : Nat → Nat → Prop} {a b : Nat} (h : E a b) : Rc E a b := ⟨_, _, Wlk.one h⟩
theorem Rc.of_way {E : Nat → Nat → Prop} {r : Nat → Nat} (h : ∀ i, E (r i) (r (i + 1))) {i j : Nat} (hij : i ≤ j) : Rc E (r i) (r j) :=
  ⟨fun k => r (i + k), j - i, by simp, by rw [show i + (j - i) = j by omega], fun k _ => by
    have := h (i + k)
    rwa [show i + k + 1 = i + (k + 1) by omega] at this⟩
theorem Rc.mono {E E' : Nat → Nat → Prop} (h : ∀ a b, E a b → E' a b) {a b : Nat} : Rc E a b → Rc E' a b
  | ⟨p, n, k⟩ => ⟨p, n, k.first, k.last, fun i hi => h _ _ (k.step i hi)⟩

theorem inf_often : ∀ (N : Nat) (r : Nat → Nat), (∀ i, r i < N) → ∃ v, v < N ∧ ∀ i, ∃ j, i ≤ j ∧ r j = v
  | 0, r, h => absurd (h 0) (by omega)
  | N + 1, r, h => by
    by_cases hv : ∀ i, ∃ j, i ≤ j ∧ r j = N
    · exact ⟨N, by omega, hv⟩
    · obtain ⟨i0, h0⟩ := Classical.not_forall.1 hv
      have h1 : ∀ j, i0 ≤ j → r j ≠ N := fun j hj he => h0 ⟨j, hj, he⟩
      obtain ⟨v, hv1, hv2⟩ := inf_often N (fun k => r (i0 + k)) (fun k => by
        have a := h (i0 + k); have b := h1 (i0 + k) (by omega); omega)
      refine ⟨v, by omega, fun i => ?_⟩
      obtain ⟨j, hj1, hj2⟩ := hv2 i
      exact ⟨i0 + j, by omega, hj2⟩

/-- a round from v that meets all of some sets -/
theorem loop_all {E : Nat → Nat → Prop} {v u : Nat} (hu : E v u) (hb : Rc E u v) : ∀ Ps : List (Nat → Prop), (∀ P ∈ Ps, ∃ x, P x ∧ Rc E v x ∧ Rc E x v) →
    ∃ p n, 0 < n ∧ Wlk E p n v v ∧ ∀ P ∈ Ps, ∃ i, i < n ∧ P (p i)
  | [], _ => by
    obtain ⟨q, m, hq⟩ := hb
    exact ⟨_, _, by omega, (Wlk.one hu).trans hq, fun P hP => by cases hP⟩
  | P :: Ps, h => by
    obtain ⟨p, n, hn, hp, hall⟩ := loop_all hu hb Ps (fun Q hQ => h Q (by simp [hQ]))
    obtain ⟨x, hx, ⟨q1, n1, h1⟩, ⟨q2, n2, h2⟩⟩ := h P (by simp)
    refine ⟨glue p (glue q1 q2 n1) n, n + (n1 + n2), by omega, hp.trans (h1.trans h2), fun Q hQ => ?_⟩
    rcases List.mem_cons.1 hQ with rfl | hQ
    · by_cases h0 : n2 = 0
      · subst h0
        have hxv : x = v := h2.first.symm.trans h2.last
        exact ⟨0, by omega, by rw [glue_lt hn, hp.first, ← hxv]; exact hx⟩
      · refine ⟨n + n1, by omega, ?_⟩
        rw [glue_ge (by omega), show n + n1 - n = n1 by omega, glue_ge (Nat.le_refl _), Nat.sub_self, h2.first]
        exact hx
    · obtain ⟨i, hi, hq⟩ := hall Q hQ
      exact ⟨i, by omega, by rw [glue_lt hi]; exact hq⟩

/-- a way without end from a that meets each of some sets again and again -/
def Way8 (E : Nat → Nat → Prop) (Ps : List (Nat → Prop)) (r : Nat → Nat) : Prop := (∀ i, E (r i) (r (i + 1))) ∧ ∀ P ∈ Ps, ∀ i, ∃ j, i ≤ j ∧ P (r j)
def Core (E : Nat → Nat → Prop) (Ps : List (Nat → Prop)) (v : Nat) : Prop := (∃ u, E v u ∧ Rc E u v) ∧ ∀ P ∈ Ps, ∃ x, P x ∧ Rc E v x ∧ Rc E x v
theorem way8_core {E : Nat → Nat → Prop} {Ps : List (Nat → Prop)} {N : Nat} {r : Nat → Nat} (hN : ∀ i, r i < N) (h : Way8 E Ps r) : ∃ v, Rc E (r 0) v ∧ Core E Ps v ∧ ∃ i, r i = v := by
  obtain ⟨v, _, hv⟩ := inf_often N r hN
  obtain ⟨i0, _, h0⟩ := hv 0
  refine ⟨v, by rw [← h0]; exact Rc.of_way h.1 (Nat.zero_le _), ⟨⟨r (i0 + 1), by rw [← h0]; exact h.1 i0, ?_⟩, fun P hP => ?_⟩, i0, h0⟩
  · obtain ⟨j, hj, hr⟩ := hv (i0 + 1)
    rw [← hr]; exact Rc.of_way h.1 hj
  · obtain ⟨j, hj, hr⟩ := h.2 P hP i0
    obtain ⟨k, hk, hkr⟩ := hv j
    exact ⟨r j, hr, by rw [← h0]; exact Rc.of_way h.1 hj, by rw [← hkr]; exact Rc.of_way h.1 hk⟩
/-- a stem, and a round again and again -/
def lassoW (q p : Nat → Nat) (m n : Nat) : Nat → Nat := glue q (fun i => p (i % n)) m
theorem lassoW_step {E : Nat → Nat → Prop} {q p : Nat → Nat} {m n a v : Nat} (hn : 0 < n) (hq : Wlk E q m a v) (hp : Wlk E p n v v) : ∀ i, E (lassoW q p m n i) (lassoW q p m n (i + 1)) := by
  intro i
  have he : q m = (fun i => p (i % n)) 0 := by show _ = p (0 % n); rw [Nat.zero_mod, hp.first, hq.last]
  unfold lassoW
  by_cases h : i < m
  · rw [glue_lt h, glue_le (q := fun i => p (i % n)) (i := i + 1) (Nat.succ_le_of_lt h) he]; exact hq.step i h
  · rw [glue_ge (by omega), glue_ge (by omega), show i + 1 - m = (i - m) + 1 by omega]
    generalize i - m = k
    have hlt := Nat.mod_lt k hn
    have hs := hp.step (k % n) hlt
    show E (p (k % n)) (p ((k + 1) % n))
    by_cases h1 : k % n + 1 = n
    · rw [h1, hp.last] at hs
      have : (k + 1) % n = 0 := by rw [Nat.add_mod]; by_cases hn1 : n = 1
                                   · subst hn1; omega
                                   · rw [Nat.mod_eq_of_lt (show 1 < n by omega), h1, Nat.mod_self]
      rw [this, hp.first]; exact hs
    · have : (k + 1) % n = k % n + 1 := by
        rw [Nat.add_mod, Nat.mod_eq_of_lt (show 1 < n by omega), Nat.mod_eq_of_lt (by omega)]
      rw [this]; exact hs
theorem core_way8 {E : Nat → Nat → Prop} {Ps : List (Nat → Prop)} {a v : Nat} (hr : Rc E a v) (h : Core E Ps v) : ∃ r, r 0 = a ∧ Way8 E Ps r := by
  obtain ⟨⟨u, hu, hb⟩, hP⟩ := h
  obtain ⟨p, n, hn, hp, hall⟩ := loop_all hu hb Ps hP
  obtain ⟨q, m, hq⟩ := hr
  refine ⟨lassoW q p m n, ?_, lassoW_step hn hq hp, fun P hP i => ?_⟩
  · have he : q m = (fun i => p (i % n)) 0 := by show _ = p (0 % n); rw [Nat.zero_mod, hp.first, hq.last]
    show glue q (fun i => p (i % n)) m 0 = a
    rw [glue_le (q := fun i => p (i % n)) (Nat.zero_le _) he]; exact hq.first
  · obtain ⟨k, hk, hx⟩ := hall P hP
    refine ⟨m + (i * n + k), by have := Nat.le_mul_of_pos_right i hn; omega, ?_⟩
    unfold lassoW
    rw [glue_ge (by omega), show m + (i * n + k) - m = i * n + k by omega]
    show P (p ((i * n + k) % n))
    rw [Nat.add_comm, Nat.add_mul_mod_self_right, Nat.mod_eq_of_lt hk]
    exact hx
theorem fair_iff {E : Nat → Nat → Prop} {Ps : List (Nat → Prop)} {N a : Nat} (hN : ∀ u v, E u v → v < N) (ha : a < N) : (∃ r, r 0 = a ∧ Way8 E Ps r) ↔ ∃ v, Rc E a v ∧ Core E Ps v := by
  constructor
  · rintro ⟨r, h0, h⟩
    obtain ⟨v, h1, h2, _⟩ := way8_core (N := N) (fun i => by
      cases i with
      | zero => rw [h0]; exact ha
      | succ i => exact hN _ _ (h.1 i)) h
    exact ⟨v, by rw [← h0]; exact h1, h2⟩
  · rintro ⟨v, h1, h2⟩
    exact core_way8 h1 h2

/- GRAPHS OF LISTS -/
def Eg (g : Graph) (u v : Nat) : Prop := (v : Int) ∈ g.getD u []
theorem Eg.lt {g : Graph} (hg : okG g) {u v : Nat} (h : Eg g u v) : v < g.length := by have := okG_row hg u _ h; omega
theorem rch_rc {g : Graph} (hg : okG g) {f : List Int} (hf : ∀ x ∈ f, 0 ≤ x) {b : Nat} : Rch g f b ↔ ∃ a : Nat, (a : Int) ∈ f ∧ Rc (Eg g) a b := by
  constructor
  · intro h
    induction h with
    | base hx => rename_i x; exact ⟨x.toNat, by rw [show ((x.toNat : Nat) : Int) = x by have := hf x hx; omega]; exact hx, Rc.refl _⟩
    | step _ hx ih =>
      obtain ⟨a, h1, h2⟩ := ih
      refine ⟨a, h1, h2.trans (Rc.one ?_)⟩
      rename_i n x _
      have := (okG_row hg n x hx).1
      show ((x.toNat : Nat) : Int) ∈ _
      rw [show ((x.toNat : Nat) : Int) = x by omega]; exact hx
  · rintro ⟨a, h1, p, n, h⟩
    have : ∀ i, i ≤ n → Rch g f (p i) := by
      intro i
      induction i with
      | zero => intro _; rw [h.first]; exact Rch.base (x := (a : Int)) h1
      | succ i ih => intro hi; exact Rch.step (x := (p (i + 1) : Int)) (ih (by omega)) (h.step i (by omega))
    rw [← h.last]; exact this n (Nat.le_refl _)
theorem rch1 {g : Graph} (hg : okG g) {a b : Nat} : Rch g [(a : Int)] b ↔ Rc (Eg g) a b := by
  rw [rch_rc hg (fun x hx => by simp at hx; omega)]
  constructor
  · rintro ⟨c, hc, h⟩
    simp at hc
    obtain rfl : c = a := by omega
    exact h
  · exact fun h => ⟨a, by simp, h⟩
end Go.Proofs.Ytadbkppgaekmpaa
/-
  Numbers: shifts, bits, division, conversions. Over any program.
-/
set_option linter.unusedVariables false
set_option linter.unusedSimpArgs false
namespace Go.Proofs.Ytadbkppgaekmpaa
open Go.RowKit

/-- a region, and what holds behind it: many ways that meet again -/
theorem CW.cut {P : Program} {Q : Exit → Act → World → Prop} {n : Nat} {σ : Sg} {w : World} {x y : Code} (τ : Sg) (h : CW P x (fun e a w' => e = .normal ∧ Fr n τ a ∧ w' = w) n σ w) (hr : CW P y Q n τ w) : CW P (.seq x y) Q n σ w := by
  refine CW.seq ?_
  unfold CW at *
  intro a ha
  refine wp_mono (h a ha) ?_
  rintro e a' w' ⟨rfl, hF, rfl⟩
  exact hr a' hF
theorem EX.cut {n : Nat} {σ τ : Sg} {w : World} (hs : Sub τ σ) : EX (fun e a w' => e = .normal ∧ Fr n τ a ∧ w' = w) .normal n σ w := by
  unfold EX; exact fun a ha => ⟨rfl, ha.sub hs, rfl⟩
/-- the same, with new memory -/
theorem CW.cutE {P : Program} {Q : Exit → Act → World → Prop} {n : Nat} {σ : Sg} {w : World} {x y : Code} (τ : Sg) (h : CW P x (fun e a w' => e = .normal ∧ Fr n τ a ∧ Ext w w') n σ w) (hr : ∀ w', Ext w w' → CW P y Q n τ w') : CW P (.seq x y) Q n σ w := by
  refine CW.seq ?_
  unfold CW at *
  intro a ha
  refine wp_mono (h a ha) ?_
  rintro e a' w' ⟨rfl, hF, hE⟩
  exact hr w' hE a' hF
theorem EX.cutE {n : Nat} {σ τ : Sg} {w w' : World} (hs : Sub τ σ) (hE : Ext w w') : EX (fun e a w' => e = .normal ∧ Fr n τ a ∧ Ext w w') .normal n σ w' := by
  unfold EX; exact fun a ha => ⟨rfl, ha.sub hs, hE⟩

/-- the same, with a state -/
theorem CW.cutI {P : Program} {Q : Exit → Act → World → Prop} {n : Nat} {σ : Sg} {w : World} {x y : Code} {S : Type} (σs : S → Sg) (I : S → World → Prop) (h : CW P x (fun e a w' => e = .normal ∧ ∃ s, Fr n (σs s) a ∧ I s w') n σ w) (hr : ∀ s w', I s w' → CW P y Q n (σs s) w') : CW P (.seq x y) Q n σ w := by
  refine CW.seq ?_
  unfold CW at *
  intro a ha
  refine wp_mono (h a ha) ?_
  rintro e a' w' ⟨rfl, s, hF, hI⟩
  exact hr s w' hI a' hF
theorem EX.cutI {n : Nat} {σ : Sg} {w : World} {S : Type} {σs : S → Sg} {I : S → World → Prop} (s : S) (hs : Sub (σs s) σ) (hI : I s w) : EX (fun e a w' => e = .normal ∧ ∃ s, Fr n (σs s) a ∧ I s w') .normal n σ w := by
  unfold EX; exact fun a ha => ⟨rfl, s, ha.sub hs, hI⟩

def onesL : List Value → Bool
  | [] => true
  | v :: r => match v.oneCell' with
    | true => onesL r
    | false => false
theorem ones_of : ∀ {l : List Value}, onesL l = true → ∀ u ∈ l, u.oneCell' = true
  | [], _, u, hu => by cases hu
  | v :: r, h, u, hu => by
    simp only [onesL] at h
    split at h
    · rename_i hv
      rcases List.mem_cons.1 hu with rfl | hu
      · exact hv
      · exact ones_of h u hu
    · cases h
theorem eqG {op : BinOp} (h : (op == .eql || op == .neq) = false) (t : TypeId) (x y : Operand) (u v : Value) : eqGuard op t x y u v = Pure.pure () := by
  cases op <;> first | rfl | (simp at h)
theorem shr_nat (a s : Nat) (ha : a < 18446744073709551616) : (a : Int) / 2 ^ min s 64 = ((a >>> s : Nat) : Int) := by
  rw [Nat.shiftRight_eq_div_pow]
  by_cases h : s ≤ 64
  · rw [Nat.min_eq_left h]; simp
  · rw [Nat.min_eq_right (by omega)]
    have h1 : a / 2 ^ s = 0 := Nat.div_eq_of_lt (Nat.lt_of_lt_of_le ha (by
      have := Nat.pow_le_pow_right (n := 2) (by omega) (show 64 ≤ s by omega)
      simpa using this))
    rw [h1]
    omega
theorem run_shrN (P : Program) (w : World) (a s : Nat) (ha : a < 18446744073709551616) (t : TypeId) : (binOp .shr t (.int .u64 (a : Int)) (.int .i64 (s : Int))).run P w = .ok (.int .u64 ((a >>> s : Nat) : Int)) w := by
  have h : binOp .shr t (.int .u64 (a : Int)) (.int .i64 (s : Int)) = Op.shift .shr .u64 (a : Int) .i64 (s : Int) := rfl
  rw [h, shift_shr_any _ _ _ _ (by omega)]
  have := shr_nat a s ha
  simp only [Int.toNat_natCast, IntKind.bits]
  rw [this]
  rfl
theorem run_shrI (P : Program) (w : World) (a : Nat) (s : Int) (ha : a < 18446744073709551616) (hs : 0 ≤ s) (t : TypeId) : (binOp .shr t (.int .u64 (a : Int)) (.int .i64 s)).run P w = .ok (.int .u64 ((a >>> s.toNat : Nat) : Int)) w := by
  have h1 := run_shrN P w a s.toNat ha t
  rwa [Int.toNat_of_nonneg hs] at h1
theorem run_shrN63 (P : Program) (w : World) (a s : Nat) (ha : a < 18446744073709551616) (t : TypeId) : (binOp .shr t (.int .u64 (a : Int)) (.int .u64 (s : Int))).run P w = .ok (.int .u64 ((a >>> s : Nat) : Int)) w := by
  have h : binOp .shr t (.int .u64 (a : Int)) (.int .u64 (s : Int)) = Op.shift .shr .u64 (a : Int) .u64 (s : Int) := rfl
  rw [h, shift_shr_any _ _ _ _ (by omega)]
  have := shr_nat a s ha
  simp only [Int.toNat_natCast, IntKind.bits]
  rw [this]
  rfl
theorem run_andN (P : Program) (w : World) (a b : Nat) (ha : a < 18446744073709551616) (hb : b < 18446744073709551616) (t : TypeId) : (binOp .and t (.int .u64 (a : Int)) (.int .u64 (b : Int))).run P w = .ok (.int .u64 ((a &&& b : Nat) : Int)) w := by
  have h : binOp .and t (.int .u64 (a : Int)) (.int .u64 (b : Int)) = Op.intBits .and .u64 (a : Int) (b : Int) := rfl
  rw [h, intBits_and, bits_and_u64_nat a b ha hb]; rfl
theorem run_orN (P : Program) (w : World) (a b : Nat) (ha : a < 18446744073709551616) (hb : b < 18446744073709551616) (t : TypeId) : (binOp .or t (.int .u64 (a : Int)) (.int .u64 (b : Int))).run P w = .ok (.int .u64 ((a ||| b : Nat) : Int)) w := by
  have h : binOp .or t (.int .u64 (a : Int)) (.int .u64 (b : Int)) = Op.intBits .or .u64 (a : Int) (b : Int) := rfl
  rw [h, intBits_or, bits_or_u64_nat a b ha hb]; rfl
theorem run_rem (P : Program) (w : World) (a b : Int) (ha : 0 ≤ a) (hb : 0 < b) (t : TypeId) (k : IntKind) : (binOp .rem t (.int k a) (.int k b)).run P w = .ok (.int k (a % b)) w := by
  have h : binOp .rem t (.int k a) (.int k b) = Op.intDiv .rem k a b := by simp [binOp]
  have h0 : ¬ b = 0 := by omega
  rw [h]
  simp [Op.intDiv, h0, Int.tmod_eq_emod_of_nonneg ha]
theorem run_remT (P : Program) (w : World) (a b : Int) (hb : b ≠ 0) (t : TypeId) (k : IntKind) : (binOp .rem t (.int k a) (.int k b)).run P w = .ok (.int k (a.tmod b)) w := by
  have h : binOp .rem t (.int k a) (.int k b) = Op.intDiv .rem k a b := by simp [binOp]
  rw [h]
  simp [Op.intDiv, hb]
theorem run_quo (P : Program) (w : World) (a b : Int) (ha : 0 ≤ a) (hb : 0 < b) (hm : a < 9223372036854775808) (t : TypeId) : (binOp .quo t (.int .i64 a) (.int .i64 b)).run P w = .ok (.int .i64 (a / b)) w := by
  have h : binOp .quo t (.int .i64 a) (.int .i64 b) = Op.intDiv .quo .i64 a b := by simp [binOp]
  have h0 : ¬ b = 0 := by omega
  have h1 : 0 ≤ a / b := Int.ediv_nonneg ha (by omega)
  have h2 : a / b ≤ a := Int.ediv_le_self b ha
  rw [h]
  simp [Op.intDiv, h0, Int.tdiv_eq_ediv_of_nonneg ha, wrap_in (a := a / b) (by omega) (by omega)]

class IsI (P : Program) (t : TypeId) (k : IntKind) : Prop where
  ok : P.underlying t = some (.int k)

section
variable {P : Program} {Q : Exit → Act → World → Prop} {n : Nat} {σ : Sg} {w : World} {L rest : List Oper} {d : Nat} {ty : TypeId} {pos : String} {af : Array Edge} {g : Option (Nat × Bool)} {t yt : TypeId} {x y : Operand}
theorem WL.shrN {a s : Nat} (hg : gd L σ ⟨some d, .binOp .shr t x y yt, ty, pos, af, g⟩ = some true) (hd : Nat.ble (d + 1) n = true) (hx : ev σ x = some (.int .u64 (a : Int))) (hy : ev σ y = some (.int .i64 (s : Int))) (ha : a < 18446744073709551616)
    (h : WL P L Q rest n ((d, .int .u64 ((a >>> s : Nat) : Int)) :: σ) w) : WL P L Q (⟨some d, .binOp .shr t x y yt, ty, pos, af, g⟩ :: rest) n σ w := by
  refine WL.run hg hd (fun a0 ha0 => ?_) h
  have := run_shrN P w a s ha t
  simp [execOp, ha0.ev hx, ha0.ev hy, eqG (op := .shr) rfl, this]
theorem WL.shrN63 {a : Nat} (hg : gd L σ ⟨some d, .binOp .shr t x y yt, ty, pos, af, g⟩ = some true) (hd : Nat.ble (d + 1) n = true) (hx : ev σ x = some (.int .u64 (a : Int))) (hy : ev σ y = some (.int .u64 63)) (ha : a < 18446744073709551616)
    (h : WL P L Q rest n ((d, .int .u64 ((a >>> 63 : Nat) : Int)) :: σ) w) : WL P L Q (⟨some d, .binOp .shr t x y yt, ty, pos, af, g⟩ :: rest) n σ w := by
  refine WL.run hg hd (fun a0 ha0 => ?_) h
  have := (show (binOp .shr t (.int .u64 (a : Int)) (.int .u64 63)).run P w = .ok (.int .u64 ((a >>> 63 : Nat) : Int)) w from run_shrN63 P w a 63 ha t)
  simp [execOp, ha0.ev hx, ha0.ev hy, eqG (op := .shr) rfl, this]
theorem WL.shrI {a : Nat} {s : Int} (hg : gd L σ ⟨some d, .binOp .shr t x y yt, ty, pos, af, g⟩ = some true) (hd : Nat.ble (d + 1) n = true) (hx : ev σ x = some (.int .u64 (a : Int))) (hy : ev σ y = some (.int .i64 s)) (ha : a < 18446744073709551616) (hs : 0 ≤ s)
    (h : WL P L Q rest n ((d, .int .u64 ((a >>> s.toNat : Nat) : Int)) :: σ) w) : WL P L Q (⟨some d, .binOp .shr t x y yt, ty, pos, af, g⟩ :: rest) n σ w := by
  refine WL.run hg hd (fun a0 ha0 => ?_) h
  have := run_shrI P w a s ha hs t
  simp [execOp, ha0.ev hx, ha0.ev hy, eqG (op := .shr) rfl, this]
theorem WL.andN {a b : Nat} (hg : gd L σ ⟨some d, .binOp .and t x y yt, ty, pos, af, g⟩ = some true) (hd : Nat.ble (d + 1) n = true) (hx : ev σ x = some (.int .u64 (a : Int))) (hy : ev σ y = some (.int .u64 (b : Int))) (ha : a < 18446744073709551616) (hb : b < 18446744073709551616)
    (h : WL P L Q rest n ((d, .int .u64 ((a &&& b : Nat) : Int)) :: σ) w) : WL P L Q (⟨some d, .binOp .and t x y yt, ty, pos, af, g⟩ :: rest) n σ w := by
  refine WL.run hg hd (fun a0 ha0 => ?_) h
  have := run_andN P w a b ha hb t
  simp [execOp, ha0.ev hx, ha0.ev hy, eqG (op := .and) rfl, this]
theorem WL.and1 {a : Nat} (hg : gd L σ ⟨some d, .binOp .and t x y yt, ty, pos, af, g⟩ = some true) (hd : Nat.ble (d + 1) n = true) (hx : ev σ x = some (.int .u64 (a : Int))) (hy : ev σ y = some (.int .u64 1)) (ha : a < 18446744073709551616)
    (h : WL P L Q rest n ((d, .int .u64 ((a &&& 1 : Nat) : Int)) :: σ) w) : WL P L Q (⟨some d, .binOp .and t x y yt, ty, pos, af, g⟩ :: rest) n σ w := by
  refine WL.run hg hd (fun a0 ha0 => ?_) h
  have : (binOp .and t (.int .u64 (a : Int)) (.int .u64 1)).run P w = .ok (.int .u64 ((a &&& 1 : Nat) : Int)) w := run_andN P w a 1 ha (by omega) t
  simp [execOp, ha0.ev hx, ha0.ev hy, eqG (op := .and) rfl, this]
theorem WL.orN {a b : Nat} (hg : gd L σ ⟨some d, .binOp .or t x y yt, ty, pos, af, g⟩ = some true) (hd : Nat.ble (d + 1) n = true) (hx : ev σ x = some (.int .u64 (a : Int))) (hy : ev σ y = some (.int .u64 (b : Int))) (ha : a < 18446744073709551616) (hb : b < 18446744073709551616)
    (h : WL P L Q rest n ((d, .int .u64 ((a ||| b : Nat) : Int)) :: σ) w) : WL P L Q (⟨some d, .binOp .or t x y yt, ty, pos, af, g⟩ :: rest) n σ w := by
  refine WL.run hg hd (fun a0 ha0 => ?_) h
  have := run_orN P w a b ha hb t
  simp [execOp, ha0.ev hx, ha0.ev hy, eqG (op := .or) rfl, this]
theorem WL.rem {a b : Int} {k : IntKind} (hg : gd L σ ⟨some d, .binOp .rem t x y yt, ty, pos, af, g⟩ = some true) (hd : Nat.ble (d + 1) n = true) (hx : ev σ x = some (.int k a)) (hy : ev σ y = some (.int k b)) (ha : 0 ≤ a) (hb : 0 < b)
    (h : WL P L Q rest n ((d, .int k (a % b)) :: σ) w) : WL P L Q (⟨some d, .binOp .rem t x y yt, ty, pos, af, g⟩ :: rest) n σ w := by
  refine WL.run hg hd (fun a0 ha0 => ?_) h
  have := run_rem P w a b ha hb t k
  simp [execOp, ha0.ev hx, ha0.ev hy, eqG (op := .rem) rfl, this]
theorem WL.remT {a b : Int} {k : IntKind} (hg : gd L σ ⟨some d, .binOp .rem t x y yt, ty, pos, af, g⟩ = some true) (hd : Nat.ble (d + 1) n = true) (hx : ev σ x = some (.int k a)) (hy : ev σ y = some (.int k b)) (hb : b ≠ 0)
    (h : WL P L Q rest n ((d, .int k (a.tmod b)) :: σ) w) : WL P L Q (⟨some d, .binOp .rem t x y yt, ty, pos, af, g⟩ :: rest) n σ w := by
  refine WL.run hg hd (fun a0 ha0 => ?_) h
  have := run_remT P w a b hb t k
  simp [execOp, ha0.ev hx, ha0.ev hy, eqG (op := .rem) rfl, this]
theorem WL.quo {a b : Int} (hg : gd L σ ⟨some d, .binOp .quo t x y yt, ty, pos, af, g⟩ = some true) (hd : Nat.ble (d + 1) n = true) (hx : ev σ x = some (.int .i64 a)) (hy : ev σ y = some (.int .i64 b)) (ha : 0 ≤ a) (hb : 0 < b) (hm : a < 9223372036854775808)
    (h : WL P L Q rest n ((d, .int .i64 (a / b)) :: σ) w) : WL P L Q (⟨some d, .binOp .quo t x y yt, ty, pos, af, g⟩ :: rest) n σ w := by
  refine WL.run hg hd (fun a0 ha0 => ?_) h
  have := run_quo P w a b ha hb hm t
  simp [execOp, ha0.ev hx, ha0.ev hy, eqG (op := .quo) rfl, this]
theorem WL.conv {a : Int} {k k' : IntKind} (hg : gd L σ ⟨some d, .convert t yt x, ty, pos, af, g⟩ = some true) (hd : Nat.ble (d + 1) n = true) (hx : ev σ x = some (.int k a)) [h1 : IsI P t k] [h2 : IsI P yt k']
    (h : WL P L Q rest n ((d, .int k' (k'.wrap a)) :: σ) w) : WL P L Q (⟨some d, .convert t yt x, ty, pos, af, g⟩ :: rest) n σ w := by
  refine WL.run hg hd (fun a0 ha0 => ?_) h
  simp [execOp, ha0.ev hx, convert, run_underlying h1.ok, run_underlying h2.ok, Conv.intToInt]
theorem QL.shrN {a s : Nat} (hg : gd L σ ⟨some d, .binOp .shr t x y yt, ty, pos, af, g⟩ = some true) (hd : Nat.ble (d + 1) n = true) (hx : ev σ x = some (.int .u64 (a : Int))) (hy : ev σ y = some (.int .i64 (s : Int))) (ha : a < 18446744073709551616)
    (h : QL P L w Q rest n ((d, .int .u64 ((a >>> s : Nat) : Int)) :: σ)) : QL P L w Q (⟨some d, .binOp .shr t x y yt, ty, pos, af, g⟩ :: rest) n σ := by
  refine QL.run hg hd (fun a0 ha0 w1 _ => ?_) h
  have := run_shrN P w1 a s ha t
  simp [execOp, ha0.ev hx, ha0.ev hy, eqG (op := .shr) rfl, this]
theorem QL.shrN63 {a : Nat} (hg : gd L σ ⟨some d, .binOp .shr t x y yt, ty, pos, af, g⟩ = some true) (hd : Nat.ble (d + 1) n = true) (hx : ev σ x = some (.int .u64 (a : Int))) (hy : ev σ y = some (.int .u64 63)) (ha : a < 18446744073709551616)
    (h : QL P L w Q rest n ((d, .int .u64 ((a >>> 63 : Nat) : Int)) :: σ)) : QL P L w Q (⟨some d, .binOp .shr t x y yt, ty, pos, af, g⟩ :: rest) n σ := by
  refine QL.run hg hd (fun a0 ha0 w1 _ => ?_) h
  have := (show (binOp .shr t (.int .u64 (a : Int)) (.int .u64 63)).run P w1 = .ok (.int .u64 ((a >>> 63 : Nat) : Int)) w1 from run_shrN63 P w1 a 63 ha t)
  simp [execOp, ha0.ev hx, ha0.ev hy, eqG (op := .shr) rfl, this]
theorem QL.shrI {a : Nat} {s : Int} (hg : gd L σ ⟨some d, .binOp .shr t x y yt, ty, pos, af, g⟩ = some true) (hd : Nat.ble (d + 1) n = true) (hx : ev σ x = some (.int .u64 (a : Int))) (hy : ev σ y = some (.int .i64 s)) (ha : a < 18446744073709551616) (hs : 0 ≤ s)
    (h : QL P L w Q rest n ((d, .int .u64 ((a >>> s.toNat : Nat) : Int)) :: σ)) : QL P L w Q (⟨some d, .binOp .shr t x y yt, ty, pos, af, g⟩ :: rest) n σ := by
  refine QL.run hg hd (fun a0 ha0 w1 _ => ?_) h
  have := run_shrI P w1 a s ha hs t
  simp [execOp, ha0.ev hx, ha0.ev hy, eqG (op := .shr) rfl, this]
theorem QL.andN {a b : Nat} (hg : gd L σ ⟨some d, .binOp .and t x y yt, ty, pos, af, g⟩ = some true) (hd : Nat.ble (d + 1) n = true) (hx : ev σ x = some (.int .u64 (a : Int))) (hy : ev σ y = some (.int .u64 (b : Int))) (ha : a < 18446744073709551616) (hb : b < 18446744073709551616)
    (h : QL P L w Q rest n ((d, .int .u64 ((a &&& b : Nat) : Int)) :: σ)) : QL P L w Q (⟨some d, .binOp .and t x y yt, ty, pos, af, g⟩ :: rest) n σ := by
  refine QL.run hg hd (fun a0 ha0 w1 _ => ?_) h
  have := run_andN P w1 a b ha hb t
  simp [execOp, ha0.ev hx, ha0.ev hy, eqG (op := .and) rfl, this]
theorem QL.and1 {a : Nat} (hg : gd L σ ⟨some d, .binOp .and t x y yt, ty, pos, af, g⟩ = some true) (hd : Nat.ble (d + 1) n = true) (hx : ev σ x = some (.int .u64 (a : Int))) (hy : ev σ y = some (.int .u64 1)) (ha : a < 18446744073709551616)
    (h : QL P L w Q rest n ((d, .int .u64 ((a &&& 1 : Nat) : Int)) :: σ)) : QL P L w Q (⟨some d, .binOp .and t x y yt, ty, pos, af, g⟩ :: rest) n σ := by
  refine QL.run hg hd (fun a0 ha0 w1 _ => ?_) h
  have : (binOp .and t (.int .u64 (a : Int)) (.int .u64 1)).run P w1 = .ok (.int .u64 ((a &&& 1 : Nat) : Int)) w1 := run_andN P w1 a 1 ha (by omega) t
  simp [execOp, ha0.ev hx, ha0.ev hy, eqG (op := .and) rfl, this]
theorem QL.orN {a b : Nat} (hg : gd L σ ⟨some d, .binOp .or t x y yt, ty, pos, af, g⟩ = some true) (hd : Nat.ble (d + 1) n = true) (hx : ev σ x = some (.int .u64 (a : Int))) (hy : ev σ y = some (.int .u64 (b : Int))) (ha : a < 18446744073709551616) (hb : b < 18446744073709551616)
    (h : QL P L w Q rest n ((d, .int .u64 ((a ||| b : Nat) : Int)) :: σ)) : QL P L w Q (⟨some d, .binOp .or t x y yt, ty, pos, af, g⟩ :: rest) n σ := by
  refine QL.run hg hd (fun a0 ha0 w1 _ => ?_) h
  have := run_orN P w1 a b ha hb t
  simp [execOp, ha0.ev hx, ha0.ev hy, eqG (op := .or) rfl, this]
theorem QL.rem {a b : Int} {k : IntKind} (hg : gd L σ ⟨some d, .binOp .rem t x y yt, ty, pos, af, g⟩ = some true) (hd : Nat.ble (d + 1) n = true) (hx : ev σ x = some (.int k a)) (hy : ev σ y = some (.int k b)) (ha : 0 ≤ a) (hb : 0 < b)
    (h : QL P L w Q rest n ((d, .int k (a % b)) :: σ)) : QL P L w Q (⟨some d, .binOp .rem t x y yt, ty, pos, af, g⟩ :: rest) n σ := by
  refine QL.run hg hd (fun a0 ha0 w1 _ => ?_) h
  have := run_rem P w1 a b ha hb t k
  simp [execOp, ha0.ev hx, ha0.ev hy, eqG (op := .rem) rfl, this]
theorem QL.remT {a b : Int} {k : IntKind} (hg : gd L σ ⟨some d, .binOp .rem t x y yt, ty, pos, af, g⟩ = some true) (hd : Nat.ble (d + 1) n = true) (hx : ev σ x = some (.int k a)) (hy : ev σ y = some (.int k b)) (hb : b ≠ 0)
    (h : QL P L w Q rest n ((d, .int k (a.tmod b)) :: σ)) : QL P L w Q (⟨some d, .binOp .rem t x y yt, ty, pos, af, g⟩ :: rest) n σ := by
  refine QL.run hg hd (fun a0 ha0 w1 _ => ?_) h
  have := run_remT P w1 a b hb t k
  simp [execOp, ha0.ev hx, ha0.ev hy, eqG (op := .rem) rfl, this]
theorem QL.quo {a b : Int} (hg : gd L σ ⟨some d, .binOp .quo t x y yt, ty, pos, af, g⟩ = some true) (hd : Nat.ble (d + 1) n = true) (hx : ev σ x = some (.int .i64 a)) (hy : ev σ y = some (.int .i64 b)) (ha : 0 ≤ a) (hb : 0 < b) (hm : a < 9223372036854775808)
    (h : QL P L w Q rest n ((d, .int .i64 (a / b)) :: σ)) : QL P L w Q (⟨some d, .binOp .quo t x y yt, ty, pos, af, g⟩ :: rest) n σ := by
  refine QL.run hg hd (fun a0 ha0 w1 _ => ?_) h
  have := run_quo P w1 a b ha hb hm t
  simp [execOp, ha0.ev hx, ha0.ev hy, eqG (op := .quo) rfl, this]
theorem QL.conv {a : Int} {k k' : IntKind} (hg : gd L σ ⟨some d, .convert t yt x, ty, pos, af, g⟩ = some true) (hd : Nat.ble (d + 1) n = true) (hx : ev σ x = some (.int k a)) [h1 : IsI P t k] [h2 : IsI P yt k']
    (h : QL P L w Q rest n ((d, .int k' (k'.wrap a)) :: σ)) : QL P L w Q (⟨some d, .convert t yt x, ty, pos, af, g⟩ :: rest) n σ := by
  refine QL.run hg hd (fun a0 ha0 w1 _ => ?_) h
  simp [execOp, ha0.ev hx, convert, run_underlying h1.ok, run_underlying h2.ok, Conv.intToInt]
end
end Go.Proofs.Ytadbkppgaekmpaa
/-
  Structs as pairs: their readings, their opening. Over any program.
-/
set_option linter.unusedVariables false
set_option linter.unusedSimpArgs false
namespace Go.Proofs.Ytadbkppgaekmpaa
open Go.RowKit

instance iPr1 {α β : Type} [Rep α] [Rep β] : Rep (α × β) where
  sz := sz α + sz β
  pos := by have := (Rep.pos : 0 < Rep.sz α); show 0 < Rep.sz α + Rep.sz β; omega
  agg := true
  rd := fun w F cs x => ∃ c1 c2, cs = c1 ++ c2 ∧ rd w F c1 x.1 ∧ rd w F c2 x.2
  len := by rintro w F cs x ⟨c1, c2, rfl, h1, h2⟩; rw [List.length_append, Rep.len h1, Rep.len h2]
  one := by
    rintro w F cs x ⟨c1, c2, rfl, h1, h2⟩ v hv
    rcases List.mem_append.1 hv with h | h
    · exact Rep.one h1 v h
    · exact Rep.one h2 v h
  szAgg := fun h => by cases h
  mono := by rintro w w' F F' cs x ⟨c1, c2, rfl, h1, h2⟩ hb hF; exact ⟨c1, c2, rfl, Rep.mono h1 hb hF, Rep.mono h2 hb hF⟩

/-- a struct's cells and what they say: field by field -/
theorem Rd.pr {α β : Type} [Rep α] [Rep β] {w : World} {F : Nat → Prop} {v : Value} {x : α × β} (h : Rd w F v x) : ∃ c1 c2, v = .agg (c1 ++ c2).toArray ∧ rd w F c1 x.1 ∧ rd w F c2 x.2 := by
  obtain ⟨cs, rfl, c1, c2, rfl, h1, h2⟩ := h
  exact ⟨c1, c2, rfl, h1, h2⟩
theorem rd_pr {α β : Type} [Rep α] [Rep β] {w : World} {F : Nat → Prop} {cs : List Value} {x : α × β} (h : rd w F cs x) : ∃ c1 c2, cs = c1 ++ c2 ∧ rd w F c1 x.1 ∧ rd w F c2 x.2 := h
theorem rd_int {w : World} {F : Nat → Prop} {cs : List Value} {x : Int} (h : rd w F cs x) : cs = [.int .i64 x] := h
theorem rd_bool {w : World} {F : Nat → Prop} {cs : List Value} {x : Bool} (h : rd w F cs x) : cs = [.bool x] := h
theorem rd_u64 {w : World} {F : Nat → Prop} {cs : List Value} {x : Nat} (h : rd w F cs x) : cs = [.int .u64 (x : Int)] ∧ x < 18446744073709551616 := h
theorem rd_sl {α : Type} [Rep α] {w : World} {F : Nat → Prop} {cs : List Value} {x : List α} (h : rd w F cs x) : ∃ ao cap, cs = [.slice ao x.length cap] ∧ Sl w F ao cap x := h
theorem Rd.mkPr {α β : Type} [Rep α] [Rep β] {w : World} {F : Nat → Prop} {c1 c2 : List Value} {x : α} {y : β} (h1 : rd w F c1 x) (h2 : rd w F c2 y) : Rd w F (.agg (c1 ++ c2).toArray) (x, y) := ⟨_, rfl, c1, c2, rfl, h1, h2⟩
theorem rd_mk {α β : Type} [Rep α] [Rep β] {w : World} {F : Nat → Prop} {c1 c2 : List Value} {x : α} {y : β} (h1 : rd w F c1 x) (h2 : rd w F c2 y) : rd w F (c1 ++ c2) (x, y) := ⟨c1, c2, rfl, h1, h2⟩
theorem rd_mkInt (w : World) (F : Nat → Prop) (x : Int) : rd w F [.int .i64 x] x := rfl
theorem rd_mkBool (w : World) (F : Nat → Prop) (x : Bool) : rd w F [.bool x] x := rfl
theorem rd_mkU64 (w : World) (F : Nat → Prop) (x : Nat) (h : x < 18446744073709551616) : rd w F [.int .u64 (x : Int)] x := ⟨rfl, h⟩
theorem rd_mkSl {α : Type} [Rep α] {w : World} {F : Nat → Prop} {ao : Option Addr} {cap : Nat} {x : List α} (h : Sl w F ao cap x) : rd w F [.slice ao x.length cap] x := ⟨ao, cap, rfl, h⟩

/-- words and patterns -/
abbrev LWord := List Nat × List Nat
abbrev LPat := Int × Int × Int × Int × Int × Int × Int
theorem Rd.word {w : World} {F : Nat → Prop} {v : Value} {x : LWord} (h : Rd w F v x) : ∃ so sc lo lc, v = .agg [.slice so x.1.length sc, .slice lo x.2.length lc].toArray ∧ Sl w F so sc x.1 ∧ Sl w F lo lc x.2 := by
  obtain ⟨c1, c2, rfl, h1, h2⟩ := h.pr
  obtain ⟨so, sc, rfl, k1⟩ := rd_sl h1
  obtain ⟨lo, lc, rfl, k2⟩ := rd_sl h2
  exact ⟨so, sc, lo, lc, rfl, k1, k2⟩
theorem Rd.pat {w : World} {F : Nat → Prop} {v : Value} {x : LPat} (h : Rd w F v x) : v = .agg [.int .i64 x.1, .int .i64 x.2.1, .int .i64 x.2.2.1, .int .i64 x.2.2.2.1, .int .i64 x.2.2.2.2.1, .int .i64 x.2.2.2.2.2.1, .int .i64 x.2.2.2.2.2.2].toArray := by
  obtain ⟨c1, r1, rfl, h1, k1⟩ := h.pr
  obtain ⟨c2, r2, rfl, h2, k2⟩ := rd_pr k1
  obtain ⟨c3, r3, rfl, h3, k3⟩ := rd_pr k2
  obtain ⟨c4, r4, rfl, h4, k4⟩ := rd_pr k3
  obtain ⟨c5, r5, rfl, h5, k5⟩ := rd_pr k4
  obtain ⟨c6, c7, rfl, h6, h7⟩ := rd_pr k5
  rw [rd_int h1, rd_int h2, rd_int h3, rd_int h4, rd_int h5, rd_int h6, rd_int h7]
  rfl
end Go.Proofs.Ytadbkppgaekmpaa
