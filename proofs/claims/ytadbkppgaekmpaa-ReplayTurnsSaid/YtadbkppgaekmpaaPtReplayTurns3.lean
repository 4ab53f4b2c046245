import Derived.Laws.Bits64b
import Derived.Laws.Shifts
import Derived.Test.YtadbkppgaekmpaaPtReplayTurns2
/-
  Structs: variables of the call's own whose cells are known one by one; fields; values built; numbers of 64 bits; conversions. Over any program.
-/
set_option linter.unusedVariables false
set_option linter.unusedSimpArgs false
namespace Go.Proofs.Ytadbkppgaekmpaa
open Go.RowKit

/- BLOCKS WHOSE CELLS ARE KNOWN -/
def Blk (w : World) (b : Nat) (e : TypeId) (cells : List Value) : Prop := w.heap[b]? = some (.cells cells.toArray e (0, 0))
section
variable {w w' : World} {b : Nat} {e : TypeId} {cells : List Value}
theorem Blk.lt (h : Blk w b e cells) : b < w.heap.size := (Array.getElem?_eq_some_iff.1 h).1
theorem Blk.ext (h : Blk w b e cells) (hE : Ext w w') : Blk w' b e cells := (hE.block b h.lt).trans h
theorem Blk.below {B : Nat} (h : Blk w b e cells) (hE : Below B w w') (hb : b < B) : Blk w' b e cells := (hE.block b hb).trans h
theorem Blk.kept {row : Option Nat} (h : Blk w b e cells) (hg : w.grownBy w' row) (hne : some b ≠ row) : Blk w' b e cells := (hg.block b h.lt hne).trans h
theorem Blk.cell (h : Blk w b e cells) {o : Nat} {v : Value} (hv : cells[o]? = some v) : w.cell? ⟨b, o, none⟩ = some v := by
  rw [cell_of_row w b o cells.toArray e (0, 0) h]; simpa using hv
theorem Blk.all (h : Blk w b e cells) : Cells w b 0 cells := fun j u hu => by rw [Nat.zero_add]; exact h.cell hu
theorem Blk.alloc (w : World) (cells : List Value) (e : TypeId) : Blk (w.alloc (.cells cells.toArray e)) w.heap.size e cells := heap_alloc_new w _
end

/-- a field of a struct type, and its offset -/
class IsFd (P : Program) (t f : Nat) (o : outParam Nat) : Prop where
  ok : ∃ fs fld i, P.underlying t = some (.struct fs) ∧ fs[f]? = some fld ∧ fld.offset = o ∧ P.info? fld.type = some i ∧ i.size ≠ 0
def fdFact (P : Program) (t f : Nat) : Option (Nat × Bool) := match P.underlying t with
  | some (.struct fs) => (fs[f]?).bind fun fld => (P.info? fld.type).map fun i => (fld.offset, Nat.beq i.size 0)
  | _ => none
theorem IsFd.of {P : Program} {t f o : Nat} (h : fdFact P t f = some (o, false)) : IsFd P t f o := by
  unfold fdFact at h
  split at h
  · rename_i fs hu
    obtain ⟨fld, h1, h2⟩ := Option.bind_eq_some_iff.1 h
    obtain ⟨i, h3, h4⟩ := Option.map_eq_some_iff.1 h2
    simp only [Prod.mk.injEq] at h4
    refine ⟨fs, fld, i, hu, h1, h4.1, h3, fun e => ?_⟩
    rw [e] at h4; exact absurd h4.2 (by decide)
  · cases h
/-- a type's number of cells, and whether it is a struct or an array -/
class IsC (P : Program) (t : TypeId) (k : outParam Nat) (ag : outParam Bool) : Prop where
  ok : ∃ i d, P.info? t = some i ∧ i.size = k ∧ P.underlying t = some d ∧ aggD d = ag
theorem IsC.of {P : Program} {t : TypeId} {k : Nat} {ag : Bool} {d : TypeDesc} (h : (P.info? t).map (fun i => Nat.beq i.size k) = some true) (hu : P.underlying t = some d) (hd : aggD d = ag) : IsC P t k ag := by
  obtain ⟨i, hi, he⟩ := Option.map_eq_some_iff.1 h
  exact ⟨i, d, hi, Nat.eq_of_beq_eq_true he, hu, hd⟩
/-- a type's zero cells -/
class IsZC (P : Program) (t : TypeId) (zs : outParam (List Value)) : Prop where
  ok : ∃ i z, P.info? t = some i ∧ i.zero = some z ∧ z.cells = zs.toArray
theorem IsZC.of {P : Program} {t : TypeId} {z : Value} {zs : List Value} (h : (P.info? t).map (fun i => i.zero) = some (some z)) (hz : z.cells = zs.toArray) : IsZC P t zs := by
  obtain ⟨i, hi, he⟩ := Option.map_eq_some_iff.1 h
  exact ⟨i, z, hi, he, hz⟩
/-- the places of a struct's fields -/
class IsBd (P : Program) (t : TypeId) (places : outParam (List (Nat × Nat))) : Prop where
  ok : ∃ fs, P.underlying t = some (.struct fs) ∧ fs.toList.mapM (fun f => (P.info? f.type).map fun i => (f.offset, i.size)) = some places
def bdFact (P : Program) (t : TypeId) : Option (List (Nat × Nat)) := match P.underlying t with
  | some (.struct fs) => fs.toList.mapM (fun f => (P.info? f.type).map fun i => (f.offset, i.size))
  | _ => none
theorem IsBd.of {P : Program} {t : TypeId} {places : List (Nat × Nat)} (h : bdFact P t = some places) : IsBd P t places := by
  unfold bdFact at h
  split at h
  · rename_i fs hu; exact ⟨fs, hu, h⟩
  · cases h

def segL : List Value → Nat → Nat → Option (List Value)
  | _, 0, 0 => some []
  | v :: r, 0, n + 1 => (segL r 0 n).map (v :: ·)
  | _ :: r, o + 1, n => segL r o n
  | [], _, _ => none
theorem segL_eq : ∀ (l : List Value) (o n : Nat) (vs : List Value), segL l o n = some vs → vs.length = n ∧ ∀ j u, vs[j]? = some u → l[o + j]? = some u
  | [], 0, 0, vs, h => by simp [segL] at h; subst h; exact ⟨rfl, fun j u hu => by simp at hu⟩
  | v :: r, 0, 0, vs, h => by simp [segL] at h; subst h; exact ⟨rfl, fun j u hu => by simp at hu⟩
  | [], 0, n + 1, vs, h => by simp [segL] at h
  | [], o + 1, n, vs, h => by simp [segL] at h
  | v :: r, 0, n + 1, vs, h => by
    simp only [segL] at h
    obtain ⟨us, h1, h2⟩ := Option.map_eq_some_iff.1 h
    subst h2
    obtain ⟨h3, h4⟩ := segL_eq r 0 n us h1
    refine ⟨by simp [h3], fun j u hu => ?_⟩
    cases j with
    | zero => simpa using hu
    | succ j =>
      have := h4 j u (by simpa using hu)
      simpa using this
  | v :: r, o + 1, n, vs, h => by
    have h' : segL r o n = some vs := by cases n <;> simpa [segL] using h
    obtain ⟨h3, h4⟩ := segL_eq r o n vs h'
    refine ⟨h3, fun j u hu => ?_⟩
    have := h4 j u hu
    rw [show o + 1 + j = (o + j) + 1 by omega, List.getElem?_cons_succ]; exact this
/-- a value's cells -/
def cellsL : Value → List Value
  | .agg cs => cs.toList
  | v => [v]
theorem cellsL_eq (v : Value) : v.cells = (cellsL v).toArray := by cases v <;> rfl
def setL : List Value → Nat → Value → List Value
  | [], _, _ => []
  | _ :: r, 0, v => v :: r
  | u :: r, o + 1, v => u :: setL r o v
theorem setL_eq : ∀ (l : List Value) (o : Nat) (v : Value), setL l o v = l.set o v
  | [], _, _ => by simp [setL]
  | u :: r, 0, v => by simp [setL]
  | u :: r, o + 1, v => by simp [setL, setL_eq r o v]
def overL : List Value → Nat → List Value → Option (List Value)
  | l, 0, [] => some l
  | _ :: r, 0, v :: vs => (overL r 0 vs).map (v :: ·)
  | u :: r, o + 1, vs => (overL r o vs).map (u :: ·)
  | [], _, _ => none
theorem overL_eq : ∀ (l : List Value) (o : Nat) (vs out : List Value), overL l o vs = some out → o + vs.length ≤ l.length ∧ out = l.take o ++ vs ++ l.drop (o + vs.length)
  | [], 0, [], out, h => by simp [overL] at h; subst h; simp
  | v :: r, 0, [], out, h => by simp [overL] at h; subst h; simp
  | [], 0, v :: vs, out, h => by simp [overL] at h
  | [], o + 1, vs, out, h => by simp [overL] at h
  | u :: r, 0, v :: vs, out, h => by
    simp only [overL] at h
    obtain ⟨us, h1, h2⟩ := Option.map_eq_some_iff.1 h
    subst h2
    obtain ⟨h3, h4⟩ := overL_eq r 0 vs us h1
    refine ⟨by simp at h3 ⊢; omega, ?_⟩
    rw [h4]; simp
  | u :: r, o + 1, vs, out, h => by
    have h' : (overL r o vs).map (u :: ·) = some out := by cases vs <;> simpa [overL] using h
    obtain ⟨us, h1, h2⟩ := Option.map_eq_some_iff.1 h'
    subst h2
    obtain ⟨h3, h4⟩ := overL_eq r o vs us h1
    refine ⟨by simp at h3 ⊢; omega, ?_⟩
    rw [h4]
    rw [show o + 1 + vs.length = (o + vs.length) + 1 by omega]
    simp
def nthP : List (Nat × Nat) → Nat → Option (Nat × Nat)
  | [], _ => none
  | x :: _, 0 => some x
  | _ :: r, i + 1 => nthP r i
theorem nthP_eq : ∀ (l : List (Nat × Nat)) (i : Nat), nthP l i = l[i]?
  | [], i => by simp [nthP]
  | x :: r, 0 => by simp [nthP]
  | x :: r, i + 1 => by simp [nthP, nthP_eq r i]
def lenL : List Value → Nat
  | [] => 0
  | _ :: r => lenL r + 1
theorem lenL_eq : ∀ l : List Value, lenL l = l.length
  | [] => rfl
  | _ :: r => by simp [lenL, lenL_eq r]
/-- a struct's cells, field by field -/
def fillL (places : List (Nat × Nat)) : List Value → List (Nat × Value) → Option (List Value)
  | cells, [] => some cells
  | cells, (i, v) :: rest => match nthP places i with
    | none => none
    | some (off, k) => match Nat.beq (lenL (cellsL v)) k, overL cells off (cellsL v) with
      | true, some out => fillL places out rest
      | _, _ => none
theorem fillL_eq (places : List (Nat × Nat)) : ∀ (parts : List (Nat × Value)) (cells out : List Value), fillL places cells parts = some out → Instr.fill (places.toArray[·]?) cells.toArray parts = some out.toArray
  | [], cells, out, h => by simp [fillL] at h; subst h; simp [Instr.fill]
  | (i, v) :: rest, cells, out, h => by
    simp only [fillL] at h
    split at h
    · cases h
    · rename_i off k hp
      split at h
      · rename_i out1 hb ho
        obtain ⟨h1, h2⟩ := overL_eq _ _ _ _ ho
        have hk : (cellsL v).length = k := by rw [← lenL_eq]; exact Nat.eq_of_beq_eq_true hb
        have ih := fillL_eq places rest out1 out h
        rw [nthP_eq] at hp
        have hfs := fold_set (cellsL v) off cells.toArray (by simpa using h1)
        have hfa : (v.cells.zipIdx.foldl (fun (cs : Array Value) (x : Value × Nat) => cs.setIfInBounds (off + x.2) x.1) cells.toArray) = out1.toArray := by
          rw [cellsL_eq, ← Array.foldl_toList, Array.toList_zipIdx, h2]
          simpa using hfs
        have hfb : (v.cells.zipIdx.foldl (fun cs (x : Value × Nat) => match x with | (c, j) => cs.setIfInBounds (off + j) c) cells.toArray) = out1.toArray := hfa
        simp only [Instr.fill]
        rw [show (places.toArray[i]?) = some (off, k) by simpa using hp]
        simp only
        rw [if_neg (by rw [cellsL_eq]; simp [hk]; omega), hfb]
        exact ih
      · cases h

section
variable {P : Program} {Q : Exit → Act → World → Prop} {n : Nat} {σ : Sg} {w : World} {L rest : List Oper} {d : Nat} {ty : TypeId} {pos : String} {af : Array Edge} {g : Option (Nat × Bool)} {t e : TypeId} {x y : Operand} {b o : Nat} {cells : List Value}

theorem run_fa {f k : Nat} [hf : IsFd P t f k] (w : World) : (Instr.fieldAt t (.pointer (some ⟨b, o, none⟩)) f).run P w = .ok (.pointer (some ⟨b, o + k, none⟩)) w := by
  obtain ⟨fs, fld, i, h1, h2, h3, h4, h5⟩ := hf.ok
  simp [Instr.fieldAt, run_underlying h1, h2, Instr.sureAddr, fieldPlace, sizeOf, typeInfo, h4, h5, h3, WideShapes.add_plain]
/-- &x.f -/
theorem WL.fa {f k : Nat} (hg : gd L σ ⟨some d, .fieldAddr t x f, ty, pos, af, g⟩ = some true) (hd : Nat.ble (d + 1) n = true) (hx : ev σ x = some (.pointer (some ⟨b, o, none⟩))) [hf : IsFd P t f k]
    (h : WL P L Q rest n ((d, .pointer (some ⟨b, o + k, none⟩)) :: σ) w) : WL P L Q (⟨some d, .fieldAddr t x f, ty, pos, af, g⟩ :: rest) n σ w := by
  refine WL.run hg hd (fun a ha => ?_) h
  simp [execOp, ha.ev hx, run_fa (P := P) (t := t) (f := f) (k := k)]
theorem QL.fa {f k : Nat} (hg : gd L σ ⟨some d, .fieldAddr t x f, ty, pos, af, g⟩ = some true) (hd : Nat.ble (d + 1) n = true) (hx : ev σ x = some (.pointer (some ⟨b, o, none⟩))) [hf : IsFd P t f k]
    (h : QL P L w Q rest n ((d, .pointer (some ⟨b, o + k, none⟩)) :: σ)) : QL P L w Q (⟨some d, .fieldAddr t x f, ty, pos, af, g⟩ :: rest) n σ := by
  refine QL.run hg hd (fun a ha w' _ => ?_) h
  simp [execOp, ha.ev hx, run_fa (P := P) (t := t) (f := f) (k := k)]
theorem run_ld {v : Value} (w : World) (hb : Blk w b e cells) (hv : nthV cells o = some v) [hc : IsC P t 1 false] : (Instr.loadAt t (.pointer (some ⟨b, o, none⟩))).run P w = .ok v w := by
  obtain ⟨i, dd, h1, h2, h3, h4⟩ := hc.ok
  have hagg : (isAgg t).run P w = .ok false w := by
    unfold isAgg
    rw [Sem.run_bind, run_underlying h3 w, ← h4]
    cases dd <;> rfl
  rw [nthV_eq] at hv
  simp only [Instr.loadAt, Sem.run_bind, Instr.sureAddr, Sem.run_pure, Result.andThen_ok, loadVar, hagg]
  simp [hb.cell hv]
theorem run_ldA {vs : List Value} {k : Nat} (w : World) (hb : Blk w b e cells) (hv : segL cells o k = some vs) [hc : IsC P t k true] : (Instr.loadAt t (.pointer (some ⟨b, o, none⟩))).run P w = .ok (.agg vs.toArray) w := by
  obtain ⟨i, dd, h1, h2, h3, h4⟩ := hc.ok
  have hagg : (isAgg t).run P w = .ok true w := by
    unfold isAgg
    rw [Sem.run_bind, run_underlying h3 w, ← h4]
    cases dd <;> rfl
  obtain ⟨hl, hs⟩ := segL_eq _ _ _ _ hv
  have hld := run_loadCells_list (P := P) w ⟨b, o, none⟩ vs (fun j u hu => by rw [WideShapes.add_plain]; exact hb.cell (hs j u hu))
  rw [hl] at hld
  simp [Instr.loadAt, Instr.sureAddr, loadVar, hagg, sizeOf, typeInfo, h1, h2, hld]
/-- *p, one cell -/
theorem WL.ld {v : Value} (hg : gd L σ ⟨some d, .load t x, ty, pos, af, g⟩ = some true) (hd : Nat.ble (d + 1) n = true) (hx : ev σ x = some (.pointer (some ⟨b, o, none⟩))) [hc : IsC P t 1 false] (hb : Blk w b e cells) (hv : nthV cells o = some v)
    (h : WL P L Q rest n ((d, v) :: σ) w) : WL P L Q (⟨some d, .load t x, ty, pos, af, g⟩ :: rest) n σ w := by
  refine WL.run hg hd (fun a ha => ?_) h
  simp [execOp, ha.ev hx, run_ld (P := P) (t := t) w hb hv]
theorem QL.ld {v : Value} (hg : gd L σ ⟨some d, .load t x, ty, pos, af, g⟩ = some true) (hd : Nat.ble (d + 1) n = true) (hx : ev σ x = some (.pointer (some ⟨b, o, none⟩))) [hc : IsC P t 1 false] (hb : Blk w b e cells) (hv : nthV cells o = some v)
    (h : QL P L w Q rest n ((d, v) :: σ)) : QL P L w Q (⟨some d, .load t x, ty, pos, af, g⟩ :: rest) n σ := by
  refine QL.run hg hd (fun a ha w' hE => ?_) h
  simp [execOp, ha.ev hx, run_ld (P := P) (t := t) w' (hb.ext hE) hv]
/-- *p, a struct -/
theorem WL.ldA {vs : List Value} {k : Nat} (hg : gd L σ ⟨some d, .load t x, ty, pos, af, g⟩ = some true) (hd : Nat.ble (d + 1) n = true) (hx : ev σ x = some (.pointer (some ⟨b, o, none⟩))) [hc : IsC P t k true] (hb : Blk w b e cells) (hv : segL cells o k = some vs)
    (h : WL P L Q rest n ((d, .agg vs.toArray) :: σ) w) : WL P L Q (⟨some d, .load t x, ty, pos, af, g⟩ :: rest) n σ w := by
  refine WL.run hg hd (fun a ha => ?_) h
  simp [execOp, ha.ev hx, run_ldA (P := P) (t := t) w hb hv]
theorem QL.ldA {vs : List Value} {k : Nat} (hg : gd L σ ⟨some d, .load t x, ty, pos, af, g⟩ = some true) (hd : Nat.ble (d + 1) n = true) (hx : ev σ x = some (.pointer (some ⟨b, o, none⟩))) [hc : IsC P t k true] (hb : Blk w b e cells) (hv : segL cells o k = some vs)
    (h : QL P L w Q rest n ((d, .agg vs.toArray) :: σ)) : QL P L w Q (⟨some d, .load t x, ty, pos, af, g⟩ :: rest) n σ := by
  refine QL.run hg hd (fun a ha w' hE => ?_) h
  simp [execOp, ha.ev hx, run_ldA (P := P) (t := t) w' (hb.ext hE) hv]
/-- a nil check that passes -/
theorem WL.nck {p : Addr} (hg : gd L σ ⟨some d, .nilCheck x, ty, pos, af, g⟩ = some true) (hd : Nat.ble (d + 1) n = true) (hx : ev σ x = some (.pointer (some p)))
    (h : WL P L Q rest n ((d, .pointer (some p)) :: σ) w) : WL P L Q (⟨some d, .nilCheck x, ty, pos, af, g⟩ :: rest) n σ w := by
  refine WL.run hg hd (fun a ha => ?_) h
  simp [execOp, ha.ev hx]
theorem QL.nck {p : Addr} (hg : gd L σ ⟨some d, .nilCheck x, ty, pos, af, g⟩ = some true) (hd : Nat.ble (d + 1) n = true) (hx : ev σ x = some (.pointer (some p)))
    (h : QL P L w Q rest n ((d, .pointer (some p)) :: σ)) : QL P L w Q (⟨some d, .nilCheck x, ty, pos, af, g⟩ :: rest) n σ := by
  refine QL.run hg hd (fun a ha _ _ => ?_) h
  simp [execOp, ha.ev hx]
/-- a variable of the call's own, with a value -/
theorem WL.boxB {v : Value} (hg : gd L σ ⟨some d, .box e x, ty, pos, af, g⟩ = some true) (hd : Nat.ble (d + 1) n = true) (hx : ev σ x = some v)
    (h : ∀ w', Blk w' w.heap.size e (cellsL v) → Ext w w' → WL P L Q rest n ((d, .pointer (some ⟨w.heap.size, 0, none⟩)) :: σ) w') : WL P L Q (⟨some d, .box e x, ty, pos, af, g⟩ :: rest) n σ w := by
  refine WL.box hg hd hx ?_
  have := Blk.alloc w (cellsL v) e
  rw [← cellsL_eq] at this
  exact h _ this (Ext.alloc w _)
/-- .. with the zero value -/
theorem WL.alloc {zs : List Value} (hg : gd L σ ⟨some d, .alloc e, ty, pos, af, g⟩ = some true) (hd : Nat.ble (d + 1) n = true) [hz : IsZC P e zs]
    (h : ∀ w', Blk w' w.heap.size e zs → Ext w w' → WL P L Q rest n ((d, .pointer (some ⟨w.heap.size, 0, none⟩)) :: σ) w') : WL P L Q (⟨some d, .alloc e, ty, pos, af, g⟩ :: rest) n σ w := by
  obtain ⟨i, z, h1, h2, h3⟩ := hz.ok
  refine WL.run hg hd (fun a ha => ?_) (h _ (Blk.alloc w zs e) (Ext.alloc w _))
  simp [execOp, Instr.alloc, zeroValue, typeInfo, h1, h2, newVar, newRow, h3]
theorem grown_setRow (w : World) (b : Nat) (cs : Array Value) : w.grownBy (w.setRow b cs) (some b) := ⟨rfl, rfl, rfl, by simp, fun k _ hk => setRow_other w b k _ (fun e => hk (by simp [e]))⟩
/-- *p = v, as many cells as v has -/
theorem WL.st {v : Value} {k : Nat} {ag : Bool} {out : List Value} (hg : gd L σ ⟨none, .store t x y, ty, pos, af, g⟩ = some true) (hx : ev σ x = some (.pointer (some ⟨b, o, none⟩))) (hy : ev σ y = some v) [hc : IsC P t k ag] (hb : Blk w b e cells)
    (hk : lenL (cellsL v) = k) (hout : overL cells o (cellsL v) = some out) (h1 : ∀ u ∈ cellsL v, u.oneCell' = true)
    (h : ∀ w', Blk w' b e out → w.grownBy w' (some b) → WL P L Q rest n σ w') : WL P L Q (⟨none, .store t x y, ty, pos, af, g⟩ :: rest) n σ w := by
  obtain ⟨hle, rfl⟩ := overL_eq _ _ _ _ hout
  obtain ⟨i, dd, hi1, hi2, _, _⟩ := hc.ok
  rw [lenL_eq] at hk
  subst hk
  have hst := run_storeCells_at P b o e (cellsL v) 0 cells.toArray w hb (by simpa using hle) h1
  simp only [Nat.add_zero] at hst
  refine WL.runU hg (fun a ha => ?_) (h _ (by
    have := setRow_heap w b cells.toArray (cells.take o ++ cellsL v ++ cells.drop (o + (cellsL v).length)).toArray e (0, 0) hb
    exact this) (grown_setRow w b _))
  simp only [execOp, ha.ev hx, ha.ev hy, Instr.storeAt, Sem.run_bind, Instr.sureAddr, Sem.run_pure, Result.andThen_ok, storeVar, sizeOf, typeInfo, run_program, hi1, hi2, cellsL_eq, hst]
  simp
  simp [hst]
theorem run_buildA {parts : List (Nat × Operand)} {vs : List Value} {places : List (Nat × Nat)} {zs out : List Value} {a : Act} (ha : Fr n σ a)
    (hv : evs σ (sndL parts) = some vs) [hz : IsZC P t zs] [hp : IsBd P t places] (hf : fillL places zs ((parts.map (·.1)).zip vs) = some out) {w : World} {dd : Option Nat} :
    (execOp a.eval ⟨dd, .build t parts.toArray, ty, pos, af, g⟩).run P w = .ok (.value (.agg out.toArray)) w := by
  obtain ⟨i, z, h1, h2, h3⟩ := hz.ok
  obtain ⟨fs, h4, h5⟩ := hp.ok
  have hsnd : ∀ l : List (Nat × Operand), sndL l = l.map (·.2) := by
    intro l; induction l with
    | nil => rfl
    | cons p r ih => obtain ⟨i, x⟩ := p; simp [sndL, ih]
  have e1 := evs_eq ha (sndL parts) vs hv
  rw [hsnd, List.map_map] at e1
  have e2 : (parts.toArray.map fun (x : Nat × Operand) => (x.1, a.eval x.2)).toList = (parts.map (·.1)).zip vs := by
    rw [← e1]
    simp only [List.map_toArray]
    clear hv hf e1
    induction parts with
    | nil => rfl
    | cons p r ih => simpa using ih
  have hb : P.built t ((parts.map (·.1)).zip vs) = some out.toArray := by
    unfold Program.built
    rw [h1, h4]
    simp only [h2, h5]
    rw [h3]
    exact fillL_eq places _ zs out hf
  have hrun := run_build (P := P) w t (parts.toArray.map fun (x : Nat × Operand) => (x.1, a.eval x.2)) out.toArray (by rw [e2]; exact hb)
  have e3 : (execOp a.eval ⟨dd, .build t parts.toArray, ty, pos, af, g⟩) = (do let v ← Instr.build t (parts.toArray.map fun (x : Nat × Operand) => (x.1, a.eval x.2)); Pure.pure (Next.value v) : Sem Next) := rfl
  rw [e3, Sem.run_bind, hrun]
  rfl
/-- a struct's value -/
theorem WL.build {parts : List (Nat × Operand)} {vs : List Value} {places : List (Nat × Nat)} {zs out : List Value} (hg : gd L σ ⟨some d, .build t parts.toArray, ty, pos, af, g⟩ = some true) (hd : Nat.ble (d + 1) n = true)
    (hv : evs σ (sndL parts) = some vs) [hz : IsZC P t zs] [hp : IsBd P t places] (hf : fillL places zs ((parts.map (·.1)).zip vs) = some out)
    (h : WL P L Q rest n ((d, .agg out.toArray) :: σ) w) : WL P L Q (⟨some d, .build t parts.toArray, ty, pos, af, g⟩ :: rest) n σ w := by
  exact WL.run hg hd (fun a ha => run_buildA ha hv hf) h
end
end Go.Proofs.Ytadbkppgaekmpaa
/-
  Numbers: shifts, bits, division, conversions. Over any program.
-/
set_option linter.unusedVariables false
set_option linter.unusedSimpArgs false
namespace Go.Proofs.Ytadbkppgaekmpaa
open Go.RowKit

/-- a region, and what holds behind it: many ways that meet again -/
theorem CW.cut {P : Program} {Q : Exit → Act → World → Prop} {n : Nat} {σ : Sg} {w : World} {x y : Code} (τ : Sg) (h : CW P x (fun e a w' => e = .normal ∧ Fr n τ a ∧ w' = w) n σ w) (hr : CW P y Q n τ w) : CW P (.seq x y) Q n σ w := by
  refine CW.seq ?_
  unfold CW at *
  intro a ha
  refine wp_mono (h a ha) ?_
  rintro e a' w' ⟨rfl, hF, rfl⟩
  exact hr a' hF
theorem EX.cut {n : Nat} {σ τ : Sg} {w : World} (hs : Sub τ σ) : EX (fun e a w' => e = .normal ∧ Fr n τ a ∧ w' = w) .normal n σ w := by
  unfold EX; exact fun a ha => ⟨rfl, ha.sub hs, rfl⟩
/-- the same, with new memory -/
theorem CW.cutE {P : Program} {Q : Exit → Act → World → Prop} {n : Nat} {σ : Sg} {w : World} {x y : Code} (τ : Sg) (h : CW P x (fun e a w' => e = .normal ∧ Fr n τ a ∧ Ext w w') n σ w) (hr : ∀ w', Ext w w' → CW P y Q n τ w') : CW P (.seq x y) Q n σ w := by
  refine CW.seq ?_
  unfold CW at *
  intro a ha
  refine wp_mono (h a ha) ?_
  rintro e a' w' ⟨rfl, hF, hE⟩
  exact hr w' hE a' hF
theorem EX.cutE {n : Nat} {σ τ : Sg} {w w' : World} (hs : Sub τ σ) (hE : Ext w w') : EX (fun e a w' => e = .normal ∧ Fr n τ a ∧ Ext w w') .normal n σ w' := by
  unfold EX; exact fun a ha => ⟨rfl, ha.sub hs, hE⟩

/-- the same, with a state -/
theorem CW.cutI {P : Program} {Q : Exit → Act → World → Prop} {n : Nat} {σ : Sg} {w : World} {x y : Code} {S : Type} (σs : S → Sg) (I : S → World → Prop) (h : CW P x (fun e a w' => e = .normal ∧ ∃ s, Fr n (σs s) a ∧ I s w') n σ w) (hr : ∀ s w', I s w' → CW P y Q n (σs s) w') : CW P (.seq x y) Q n σ w := by
  refine CW.seq ?_
  unfold CW at *
  intro a ha
  refine wp_mono (h a ha) ?_
  rintro e a' w' ⟨rfl, s, hF, hI⟩
  exact hr s w' hI a' hF
theorem EX.cutI {n : Nat} {σ : Sg} {w : World} {S : Type} {σs : S → Sg} {I : S → World → Prop} (s : S) (hs : Sub (σs s) σ) (hI : I s w) : EX (fun e a w' => e = .normal ∧ ∃ s, Fr n (σs s) a ∧ I s w') .normal n σ w := by
  unfold EX; exact fun a ha => ⟨rfl, s, ha.sub hs, hI⟩

def onesL : List Value → Bool
  | [] => true
  | v :: r => match v.oneCell' with
    | true => onesL r
    | false => false
theorem ones_of : ∀ {l : List Value}, onesL l = true → ∀ u ∈ l, u.oneCell' = true
  | [], _, u, hu => by cases hu
  | v :: r, h, u, hu => by
    simp only [onesL] at h
    split at h
    · rename_i hv
      rcases List.mem_cons.1 hu with rfl | hu
      · exact hv
      · exact ones_of h u hu
    · cases h
theorem eqG {op : BinOp} (h : (op == .eql || op == .neq) = false) (t : TypeId) (x y : Operand) (u v : Value) : eqGuard op t x y u v = Pure.pure () := by
  cases op <;> first | rfl | (simp at h)
theorem shr_nat (a s : Nat) (ha : a < 18446744073709551616) : (a : Int) / 2 ^ min s 64 = ((a >>> s : Nat) : Int) := by
  rw [Nat.shiftRight_eq_div_pow]
  by_cases h : s ≤ 64
  · rw [Nat.min_eq_left h]; simp
  · rw [Nat.min_eq_right (by omega)]
    have h1 : a / 2 ^ s = 0 := Nat.div_eq_of_lt (Nat.lt_of_lt_of_le ha (by
      have := Nat.pow_le_pow_right (n := 2) (by omega) (show 64 ≤ s by omega)
      simpa using this))
    rw [h1]
    omega
theorem run_shrN (P : Program) (w : World) (a s : Nat) (ha : a < 18446744073709551616) (t : TypeId) : (binOp .shr t (.int .u64 (a : Int)) (.int .i64 (s : Int))).run P w = .ok (.int .u64 ((a >>> s : Nat) : Int)) w := by
  have h : binOp .shr t (.int .u64 (a : Int)) (.int .i64 (s : Int)) = Op.shift .shr .u64 (a : Int) .i64 (s : Int) := rfl
  rw [h, shift_shr_any _ _ _ _ (by omega)]
  have := shr_nat a s ha
  simp only [Int.toNat_natCast, IntKind.bits]
  rw [this]
  rfl
theorem run_shrI (P : Program) (w : World) (a : Nat) (s : Int) (ha : a < 18446744073709551616) (hs : 0 ≤ s) (t : TypeId) : (binOp .shr t (.int .u64 (a : Int)) (.int .i64 s)).run P w = .ok (.int .u64 ((a >>> s.toNat : Nat) : Int)) w := by
  have h1 := run_shrN P w a s.toNat ha t
  rwa [Int.toNat_of_nonneg hs] at h1
theorem run_shrN63 (P : Program) (w : World) (a s : Nat) (ha : a < 18446744073709551616) (t : TypeId) : (binOp .shr t (.int .u64 (a : Int)) (.int .u64 (s : Int))).run P w = .ok (.int .u64 ((a >>> s : Nat) : Int)) w := by
  have h : binOp .shr t (.int .u64 (a : Int)) (.int .u64 (s : Int)) = Op.shift .shr .u64 (a : Int) .u64 (s : Int) := rfl
  rw [h, shift_shr_any _ _ _ _ (by omega)]
  have := shr_nat a s ha
  simp only [Int.toNat_natCast, IntKind.bits]
  rw [this]
  rfl
theorem run_andN (P : Program) (w : World) (a b : Nat) (ha : a < 18446744073709551616) (hb : b < 18446744073709551616) (t : TypeId) : (binOp .and t (.int .u64 (a : Int)) (.int .u64 (b : Int))).run P w = .ok (.int .u64 ((a &&& b : Nat) : Int)) w := by
  have h : binOp .and t (.int .u64 (a : Int)) (.int .u64 (b : Int)) = Op.intBits .and .u64 (a : Int) (b : Int) := rfl
  rw [h, intBits_and, bits_and_u64_nat a b ha hb]; rfl
theorem run_orN (P : Program) (w : World) (a b : Nat) (ha : a < 18446744073709551616) (hb : b < 18446744073709551616) (t : TypeId) : (binOp .or t (.int .u64 (a : Int)) (.int .u64 (b : Int))).run P w = .ok (.int .u64 ((a ||| b : Nat) : Int)) w := by
  have h : binOp .or t (.int .u64 (a : Int)) (.int .u64 (b : Int)) = Op.intBits .or .u64 (a : Int) (b : Int) := rfl
  rw [h, intBits_or, bits_or_u64_nat a b ha hb]; rfl
theorem run_rem (P : Program) (w : World) (a b : Int) (ha : 0 ≤ a) (hb : 0 < b) (t : TypeId) (k : IntKind) : (binOp .rem t (.int k a) (.int k b)).run P w = .ok (.int k (a % b)) w := by
  have h : binOp .rem t (.int k a) (.int k b) = Op.intDiv .rem k a b := by simp [binOp]
  have h0 : ¬ b = 0 := by omega
  rw [h]
  simp [Op.intDiv, h0, Int.tmod_eq_emod_of_nonneg ha]
theorem run_remT (P : Program) (w : World) (a b : Int) (hb : b ≠ 0) (t : TypeId) (k : IntKind) : (binOp .rem t (.int k a) (.int k b)).run P w = .ok (.int k (a.tmod b)) w := by
  have h : binOp .rem t (.int k a) (.int k b) = Op.intDiv .rem k a b := by simp [binOp]
  rw [h]
  simp [Op.intDiv, hb]
theorem run_quo (P : Program) (w : World) (a b : Int) (ha : 0 ≤ a) (hb : 0 < b) (hm : a < 9223372036854775808) (t : TypeId) : (binOp .quo t (.int .i64 a) (.int .i64 b)).run P w = .ok (.int .i64 (a / b)) w := by
  have h : binOp .quo t (.int .i64 a) (.int .i64 b) = Op.intDiv .quo .i64 a b := by simp [binOp]
  have h0 : ¬ b = 0 := by omega
  have h1 : 0 ≤ a / b := Int.ediv_nonneg ha (by omega)
  have h2 : a / b ≤ a := Int.ediv_le_self b ha
  rw [h]
  simp [Op.intDiv, h0, Int.tdiv_eq_ediv_of_nonneg ha, wrap_in (a := a / b) (by omega) (by omega)]

class IsI (P : Program) (t : TypeId) (k : IntKind) : Prop where
  ok : P.underlying t = some (.int k)

section
variable {P : Program} {Q : Exit → Act → World → Prop} {n : Nat} {σ : Sg} {w : World} {L rest : List Oper} {d : Nat} {ty : TypeId} {pos : String} {af : Array Edge} {g : Option (Nat × Bool)} {t yt : TypeId} {x y : Operand}
theorem WL.shrN {a s : Nat} (hg : gd L σ ⟨some d, .binOp .shr t x y yt, ty, pos, af, g⟩ = some true) (hd : Nat.ble (d + 1) n = true) (hx : ev σ x = some (.int .u64 (a : Int))) (hy : ev σ y = some (.int .i64 (s : Int))) (ha : a < 18446744073709551616)
    (h : WL P L Q rest n ((d, .int .u64 ((a >>> s : Nat) : Int)) :: σ) w) : WL P L Q (⟨some d, .binOp .shr t x y yt, ty, pos, af, g⟩ :: rest) n σ w := by
  refine WL.run hg hd (fun a0 ha0 => ?_) h
  have := run_shrN P w a s ha t
  simp [execOp, ha0.ev hx, ha0.ev hy, eqG (op := .shr) rfl, this]
theorem WL.shrN63 {a : Nat} (hg : gd L σ ⟨some d, .binOp .shr t x y yt, ty, pos, af, g⟩ = some true) (hd : Nat.ble (d + 1) n = true) (hx : ev σ x = some (.int .u64 (a : Int))) (hy : ev σ y = some (.int .u64 63)) (ha : a < 18446744073709551616)
    (h : WL P L Q rest n ((d, .int .u64 ((a >>> 63 : Nat) : Int)) :: σ) w) : WL P L Q (⟨some d, .binOp .shr t x y yt, ty, pos, af, g⟩ :: rest) n σ w := by
  refine WL.run hg hd (fun a0 ha0 => ?_) h
  have := (show (binOp .shr t (.int .u64 (a : Int)) (.int .u64 63)).run P w = .ok (.int .u64 ((a >>> 63 : Nat) : Int)) w from run_shrN63 P w a 63 ha t)
  simp [execOp, ha0.ev hx, ha0.ev hy, eqG (op := .shr) rfl, this]
theorem WL.shrI {a : Nat} {s : Int} (hg : gd L σ ⟨some d, .binOp .shr t x y yt, ty, pos, af, g⟩ = some true) (hd : Nat.ble (d + 1) n = true) (hx : ev σ x = some (.int .u64 (a : Int))) (hy : ev σ y = some (.int .i64 s)) (ha : a < 18446744073709551616) (hs : 0 ≤ s)
    (h : WL P L Q rest n ((d, .int .u64 ((a >>> s.toNat : Nat) : Int)) :: σ) w) : WL P L Q (⟨some d, .binOp .shr t x y yt, ty, pos, af, g⟩ :: rest) n σ w := by
  refine WL.run hg hd (fun a0 ha0 => ?_) h
  have := run_shrI P w a s ha hs t
  simp [execOp, ha0.ev hx, ha0.ev hy, eqG (op := .shr) rfl, this]
theorem WL.andN {a b : Nat} (hg : gd L σ ⟨some d, .binOp .and t x y yt, ty, pos, af, g⟩ = some true) (hd : Nat.ble (d + 1) n = true) (hx : ev σ x = some (.int .u64 (a : Int))) (hy : ev σ y = some (.int .u64 (b : Int))) (ha : a < 18446744073709551616) (hb : b < 18446744073709551616)
    (h : WL P L Q rest n ((d, .int .u64 ((a &&& b : Nat) : Int)) :: σ) w) : WL P L Q (⟨some d, .binOp .and t x y yt, ty, pos, af, g⟩ :: rest) n σ w := by
  refine WL.run hg hd (fun a0 ha0 => ?_) h
  have := run_andN P w a b ha hb t
  simp [execOp, ha0.ev hx, ha0.ev hy, eqG (op := .and) rfl, this]
theorem WL.and1 {a : Nat} (hg : gd L σ ⟨some d, .binOp .and t x y yt, ty, pos, af, g⟩ = some true) (hd : Nat.ble (d + 1) n = true) (hx : ev σ x = some (.int .u64 (a : Int))) (hy : ev σ y = some (.int .u64 1)) (ha : a < 18446744073709551616)
    (h : WL P L Q rest n ((d, .int .u64 ((a &&& 1 : Nat) : Int)) :: σ) w) : WL P L Q (⟨some d, .binOp .and t x y yt, ty, pos, af, g⟩ :: rest) n σ w := by
  refine WL.run hg hd (fun a0 ha0 => ?_) h
  have : (binOp .and t (.int .u64 (a : Int)) (.int .u64 1)).run P w = .ok (.int .u64 ((a &&& 1 : Nat) : Int)) w := run_andN P w a 1 ha (by omega) t
  simp [execOp, ha0.ev hx, ha0.ev hy, eqG (op := .and) rfl, this]
theorem WL.orN {a b : Nat} (hg : gd L σ ⟨some d, .binOp .or t x y yt, ty, pos, af, g⟩ = some true) (hd : Nat.ble (d + 1) n = true) (hx : ev σ x = some (.int .u64 (a : Int))) (hy : ev σ y = some (.int .u64 (b : Int))) (ha : a < 18446744073709551616) (hb : b < 18446744073709551616)
    (h : WL P L Q rest n ((d, .int .u64 ((a ||| b : Nat) : Int)) :: σ) w) : WL P L Q (⟨some d, .binOp .or t x y yt, ty, pos, af, g⟩ :: rest) n σ w := by
  refine WL.run hg hd (fun a0 ha0 => ?_) h
  have := run_orN P w a b ha hb t
  simp [execOp, ha0.ev hx, ha0.ev hy, eqG (op := .or) rfl, this]
theorem WL.rem {a b : Int} {k : IntKind} (hg : gd L σ ⟨some d, .binOp .rem t x y yt, ty, pos, af, g⟩ = some true) (hd : Nat.ble (d + 1) n = true) (hx : ev σ x = some (.int k a)) (hy : ev σ y = some (.int k b)) (ha : 0 ≤ a) (hb : 0 < b)
    (h : WL P L Q rest n ((d, .int k (a % b)) :: σ) w) : WL P L Q (⟨some d, .binOp .rem t x y yt, ty, pos, af, g⟩ :: rest) n σ w := by
  refine WL.run hg hd (fun a0 ha0 => ?_) h
  have := run_rem P w a b ha hb t k
  simp [execOp, ha0.ev hx, ha0.ev hy, eqG (op := .rem) rfl, this]
theorem WL.remT {a b : Int} {k : IntKind} (hg : gd L σ ⟨some d, .binOp .rem t x y yt, ty, pos, af, g⟩ = some true) (hd : Nat.ble (d + 1) n = true) (hx : ev σ x = some (.int k a)) (hy : ev σ y = some (.int k b)) (hb : b ≠ 0)
    (h : WL P L Q rest n ((d, .int k (a.tmod b)) :: σ) w) : WL P L Q (⟨some d, .binOp .rem t x y yt, ty, pos, af, g⟩ :: rest) n σ w := by
  refine WL.run hg hd (fun a0 ha0 => ?_) h
  have := run_remT P w a b hb t k
  simp [execOp, ha0.ev hx, ha0.ev hy, eqG (op := .rem) rfl, this]
theorem WL.quo {a b : Int} (hg : gd L σ ⟨some d, .binOp .quo t x y yt, ty, pos, af, g⟩ = some true) (hd : Nat.ble (d + 1) n = true) (hx : ev σ x = some (.int .i64 a)) (hy : ev σ y = some (.int .i64 b)) (ha : 0 ≤ a) (hb : 0 < b) (hm : a < 9223372036854775808)
    (h : WL P L Q rest n ((d, .int .i64 (a / b)) :: σ) w) : WL P L Q (⟨some d, .binOp .quo t x y yt, ty, pos, af, g⟩ :: rest) n σ w := by
  refine WL.run hg hd (fun a0 ha0 => ?_) h
  have := run_quo P w a b ha hb hm t
  simp [execOp, ha0.ev hx, ha0.ev hy, eqG (op := .quo) rfl, this]
theorem WL.conv {a : Int} {k k' : IntKind} (hg : gd L σ ⟨some d, .convert t yt x, ty, pos, af, g⟩ = some true) (hd : Nat.ble (d + 1) n = true) (hx : ev σ x = some (.int k a)) [h1 : IsI P t k] [h2 : IsI P yt k']
    (h : WL P L Q rest n ((d, .int k' (k'.wrap a)) :: σ) w) : WL P L Q (⟨some d, .convert t yt x, ty, pos, af, g⟩ :: rest) n σ w := by
  refine WL.run hg hd (fun a0 ha0 => ?_) h
  simp [execOp, ha0.ev hx, convert, run_underlying h1.ok, run_underlying h2.ok, Conv.intToInt]
theorem QL.shrN {a s : Nat} (hg : gd L σ ⟨some d, .binOp .shr t x y yt, ty, pos, af, g⟩ = some true) (hd : Nat.ble (d + 1) n = true) (hx : ev σ x = some (.int .u64 (a : Int))) (hy : ev σ y = some (.int .i64 (s : Int))) (ha : a < 18446744073709551616)
    (h : QL P L w Q rest n ((d, .int .u64 ((a >>> s : Nat) : Int)) :: σ)) : QL P L w Q (⟨some d, .binOp .shr t x y yt, ty, pos, af, g⟩ :: rest) n σ := by
  refine QL.run hg hd (fun a0 ha0 w1 _ => ?_) h
  have := run_shrN P w1 a s ha t
  simp [execOp, ha0.ev hx, ha0.ev hy, eqG (op := .shr) rfl, this]
theorem QL.shrN63 {a : Nat} (hg : gd L σ ⟨some d, .binOp .shr t x y yt, ty, pos, af, g⟩ = some true) (hd : Nat.ble (d + 1) n = true) (hx : ev σ x = some (.int .u64 (a : Int))) (hy : ev σ y = some (.int .u64 63)) (ha : a < 18446744073709551616)
    (h : QL P L w Q rest n ((d, .int .u64 ((a >>> 63 : Nat) : Int)) :: σ)) : QL P L w Q (⟨some d, .binOp .shr t x y yt, ty, pos, af, g⟩ :: rest) n σ := by
  refine QL.run hg hd (fun a0 ha0 w1 _ => ?_) h
  have := (show (binOp .shr t (.int .u64 (a : Int)) (.int .u64 63)).run P w1 = .ok (.int .u64 ((a >>> 63 : Nat) : Int)) w1 from run_shrN63 P w1 a 63 ha t)
  simp [execOp, ha0.ev hx, ha0.ev hy, eqG (op := .shr) rfl, this]
theorem QL.shrI {a : Nat} {s : Int} (hg : gd L σ ⟨some d, .binOp .shr t x y yt, ty, pos, af, g⟩ = some true) (hd : Nat.ble (d + 1) n = true) (hx : ev σ x = some (.int .u64 (a : Int))) (hy : ev σ y = some (.int .i64 s)) (ha : a < 18446744073709551616) (hs : 0 ≤ s)
    (h : QL P L w Q rest n ((d, .int .u64 ((a >>> s.toNat : Nat) : Int)) :: σ)) : QL P L w Q (⟨some d, .binOp .shr t x y yt, ty, pos, af, g⟩ :: rest) n σ := by
  refine QL.run hg hd (fun a0 ha0 w1 _ => ?_) h
  have := run_shrI P w1 a s ha hs t
  simp [execOp, ha0.ev hx, ha0.ev hy, eqG (op := .shr) rfl, this]
theorem QL.andN {a b : Nat} (hg : gd L σ ⟨some d, .binOp .and t x y yt, ty, pos, af, g⟩ = some true) (hd : Nat.ble (d + 1) n = true) (hx : ev σ x = some (.int .u64 (a : Int))) (hy : ev σ y = some (.int .u64 (b : Int))) (ha : a < 18446744073709551616) (hb : b < 18446744073709551616)
    (h : QL P L w Q rest n ((d, .int .u64 ((a &&& b : Nat) : Int)) :: σ)) : QL P L w Q (⟨some d, .binOp .and t x y yt, ty, pos, af, g⟩ :: rest) n σ := by
  refine QL.run hg hd (fun a0 ha0 w1 _ => ?_) h
  have := run_andN P w1 a b ha hb t
  simp [execOp, ha0.ev hx, ha0.ev hy, eqG (op := .and) rfl, this]
theorem QL.and1 {a : Nat} (hg : gd L σ ⟨some d, .binOp .and t x y yt, ty, pos, af, g⟩ = some true) (hd : Nat.ble (d + 1) n = true) (hx : ev σ x = some (.int .u64 (a : Int))) (hy : ev σ y = some (.int .u64 1)) (ha : a < 18446744073709551616)
    (h : QL P L w Q rest n ((d, .int .u64 ((a &&& 1 : Nat) : Int)) :: σ)) : QL P L w Q (⟨some d, .binOp .and t x y yt, ty, pos, af, g⟩ :: rest) n σ := by
  refine QL.run hg hd (fun a0 ha0 w1 _ => ?_) h
  have : (binOp .and t (.int .u64 (a : Int)) (.int .u64 1)).run P w1 = .ok (.int .u64 ((a &&& 1 : Nat) : Int)) w1 := run_andN P w1 a 1 ha (by omega) t
  simp [execOp, ha0.ev hx, ha0.ev hy, eqG (op := .and) rfl, this]
theorem QL.orN {a b : Nat} (hg : gd L σ ⟨some d, .binOp .or t x y yt, ty, pos, af, g⟩ = some true) (hd : Nat.ble (d + 1) n = true) (hx : ev σ x = some (.int .u64 (a : Int))) (hy : ev σ y = some (.int .u64 (b : Int))) (ha : a < 18446744073709551616) (hb : b < 18446744073709551616)
    (h : QL P L w Q rest n ((d, .int .u64 ((a ||| b : Nat) : Int)) :: σ)) : QL P L w Q (⟨some d, .binOp .or t x y yt, ty, pos, af, g⟩ :: rest) n σ := by
  refine QL.run hg hd (fun a0 ha0 w1 _ => ?_) h
  have := run_orN P w1 a b ha hb t
  simp [execOp, ha0.ev hx, ha0.ev hy, eqG (op := .or) rfl, this]
theorem QL.rem {a b : Int} {k : IntKind} (hg : gd L σ ⟨some d, .binOp .rem t x y yt, ty, pos, af, g⟩ = some true) (hd : Nat.ble (d + 1) n = true) (hx : ev σ x = some (.int k a)) (hy : ev σ y = some (.int k b)) (ha : 0 ≤ a) (hb : 0 < b)
    (h : QL P L w Q rest n ((d, .int k (a % b)) :: σ)) : QL P L w Q (⟨some d, .binOp .rem t x y yt, ty, pos, af, g⟩ :: rest) n σ := by
  refine QL.run hg hd (fun a0 ha0 w1 _ => ?_) h
  have := run_rem P w1 a b ha hb t k
  simp [execOp, ha0.ev hx, ha0.ev hy, eqG (op := .rem) rfl, this]
theorem QL.remT {a b : Int} {k : IntKind} (hg : gd L σ ⟨some d, .binOp .rem t x y yt, ty, pos, af, g⟩ = some true) (hd : Nat.ble (d + 1) n = true) (hx : ev σ x = some (.int k a)) (hy : ev σ y = some (.int k b)) (hb : b ≠ 0)
    (h : QL P L w Q rest n ((d, .int k (a.tmod b)) :: σ)) : QL P L w Q (⟨some d, .binOp .rem t x y yt, ty, pos, af, g⟩ :: rest) n σ := by
  refine QL.run hg hd (fun a0 ha0 w1 _ => ?_) h
  have := run_remT P w1 a b hb t k
  simp [execOp, ha0.ev hx, ha0.ev hy, eqG (op := .rem) rfl, this]
theorem QL.quo {a b : Int} (hg : gd L σ ⟨some d, .binOp .quo t x y yt, ty, pos, af, g⟩ = some true) (hd : Nat.ble (d + 1) n = true) (hx : ev σ x = some (.int .i64 a)) (hy : ev σ y = some (.int .i64 b)) (ha : 0 ≤ a) (hb : 0 < b) (hm : a < 9223372036854775808)
    (h : QL P L w Q rest n ((d, .int .i64 (a / b)) :: σ)) : QL P L w Q (⟨some d, .binOp .quo t x y yt, ty, pos, af, g⟩ :: rest) n σ := by
  refine QL.run hg hd (fun a0 ha0 w1 _ => ?_) h
  have := run_quo P w1 a b ha hb hm t
  simp [execOp, ha0.ev hx, ha0.ev hy, eqG (op := .quo) rfl, this]
theorem QL.conv {a : Int} {k k' : IntKind} (hg : gd L σ ⟨some d, .convert t yt x, ty, pos, af, g⟩ = some true) (hd : Nat.ble (d + 1) n = true) (hx : ev σ x = some (.int k a)) [h1 : IsI P t k] [h2 : IsI P yt k']
    (h : QL P L w Q rest n ((d, .int k' (k'.wrap a)) :: σ)) : QL P L w Q (⟨some d, .convert t yt x, ty, pos, af, g⟩ :: rest) n σ := by
  refine QL.run hg hd (fun a0 ha0 w1 _ => ?_) h
  simp [execOp, ha0.ev hx, convert, run_underlying h1.ok, run_underlying h2.ok, Conv.intToInt]
end
end Go.Proofs.Ytadbkppgaekmpaa
/-
  x >> s of a signed number. Over any program.
-/
set_option linter.unusedVariables false
set_option linter.unusedSimpArgs false
namespace Go.Proofs.Ytadbkppgaekmpaa
open Go.RowKit

theorem run_shrZ (P : Program) (w : World) (a : Int) (s : Nat) (hs : s ≤ 62) (t : TypeId) : (binOp .shr t (.int .i64 a) (.int .i64 (s : Int))).run P w = .ok (.int .i64 (a / 2 ^ s)) w := by
  rw [binOp_shr, shift_shr_i64 (h₀ := by omega) (h₁ := by omega), Int.toNat_natCast]; rfl
section
variable {P : Program} {Q : Exit → Act → World → Prop} {n : Nat} {σ : Sg} {w : World} {L rest : List Oper} {d : Nat} {ty : TypeId} {pos : String} {af : Array Edge} {g : Option (Nat × Bool)} {t yt : TypeId} {x y : Operand}
theorem WL.shrZ {a : Int} {s : Nat} (hg : gd L σ ⟨some d, .binOp .shr t x y yt, ty, pos, af, g⟩ = some true) (hd : Nat.ble (d + 1) n = true) (hx : ev σ x = some (.int .i64 a)) (hy : ev σ y = some (.int .i64 (s : Int))) (hs : s ≤ 62)
    (h : WL P L Q rest n ((d, .int .i64 (a / 2 ^ s)) :: σ) w) : WL P L Q (⟨some d, .binOp .shr t x y yt, ty, pos, af, g⟩ :: rest) n σ w := by
  refine WL.run hg hd (fun a0 ha0 => ?_) h
  have := run_shrZ P w a s hs t
  simp [execOp, ha0.ev hx, ha0.ev hy, eqG (op := .shr) rfl, this]
end
end Go.Proofs.Ytadbkppgaekmpaa
/-
  What comes from some nodes of a graph: plain lists, no program in sight.
-/
set_option linter.unusedVariables false
set_option linter.unusedSimpArgs false
namespace Go.Proofs.Ytadbkppgaekmpaa

abbrev Graph := List (List Int)
inductive Rch (g : Graph) (from' : List Int) : Nat → Prop
  | base {x : Int} : x ∈ from' → Rch g from' x.toNat
  | step {n : Nat} {x : Int} : Rch g from' n → x ∈ g.getD n [] → Rch g from' x.toNat
open Classical in
noncomputable def rchB (g : Graph) (from' : List Int) : List Bool := (List.range g.length).map fun n => decide (Rch g from' n)
theorem rchB_len (g : Graph) (f : List Int) : (rchB g f).length = g.length := by simp [rchB]
theorem rchB_get {g : Graph} {f : List Int} {n : Nat} (h : n < g.length) : (rchB g f)[n]? = some (@decide (Rch g f n) (Classical.propDecidable _)) := by
  simp [rchB, h]
theorem rchB_iff {g : Graph} {f : List Int} {n : Nat} (h : n < (rchB g f).length) : (rchB g f)[n] = true ↔ Rch g f n := by
  have h' : n < g.length := by rwa [rchB_len] at h
  simp [rchB]

/-- all its numbers are nodes -/
def okL (n : Nat) (l : List Int) : Prop := ∀ x ∈ l, 0 ≤ x ∧ x < n
def okG (g : Graph) : Prop := ∀ l ∈ g, okL g.length l
theorem okG_row {g : Graph} (h : okG g) (n : Nat) : okL g.length (g.getD n []) := by
  intro x hx
  by_cases hn : n < g.length
  · rw [List.getD_eq_getElem?_getD, List.getElem?_eq_getElem hn] at hx
    exact h _ (List.getElem_mem hn) x hx
  · rw [List.getD_eq_getElem?_getD, List.getElem?_eq_none (by omega)] at hx
    simp at hx

/-- what is still to be looked at -/
def pot : Graph → List Bool → Nat
  | l :: g, s :: r => (match s with | true => 0 | false => l.length + 1) + pot g r
  | _, _ => 0
theorem pot_set : ∀ (g : Graph) (seen : List Bool) (n : Nat), n < g.length → seen.length = g.length → seen.getD n true = false → pot g (seen.set n true) + (g.getD n []).length + 1 = pot g seen
  | [], _, n, h, _, _ => absurd h (by simp)
  | l :: g, [], n, _, h, _ => absurd h (by simp)
  | l :: g, s :: r, 0, _, _, h => by
    simp at h; subst h; simp [pot]; omega
  | l :: g, s :: r, n + 1, h1, h2, h3 => by
    have := pot_set g r n (by simpa using h1) (by simpa using h2) (by simpa using h3)
    simp only [List.set_cons_succ, pot, List.getD_cons_succ]
    omega
def edges (g : Graph) : Nat := (g.map List.length).sum
theorem pot_start : ∀ g : Graph, pot g (List.replicate g.length false) = edges g + g.length
  | [] => rfl
  | l :: g => by
    simp only [List.length_cons, List.replicate_succ, pot, pot_start g, edges, List.map_cons, List.sum_cons]
    omega

structure RInv (g : Graph) (f : List Int) (seen : List Bool) (todo : List Int) : Prop where
  len : seen.length = g.length
  ok : okL g.length todo
  sound : ∀ n, seen.getD n false = true → Rch g f n
  tsound : ∀ x ∈ todo, Rch g f x.toNat
  base : ∀ x ∈ f, seen.getD x.toNat false = true ∨ x ∈ todo
  clo : ∀ n, seen.getD n false = true → ∀ x ∈ g.getD n [], seen.getD x.toNat false = true ∨ x ∈ todo

theorem getD_set {l : List Bool} {n k : Nat} {b : Bool} (h : n < l.length) : (l.set n b).getD k false = if n = k then b else l.getD k false := by
  simp only [List.getD_eq_getElem?_getD, List.getElem?_set]
  split
  · subst_vars; simp [h]
  · rfl
theorem getD_rep {n k : Nat} : (List.replicate n false).getD k false = false := by
  simp only [List.getD_eq_getElem?_getD, List.getElem?_replicate]
  split <;> rfl
theorem RInv.start {g : Graph} {f : List Int} (hf : okL g.length f) : RInv g f (List.replicate g.length false) f where
  len := by simp
  ok := hf
  sound := fun n h => by rw [getD_rep] at h; cases h
  tsound := fun x hx => .base hx
  base := fun x hx => .inr hx
  clo := fun n h => by rw [getD_rep] at h; cases h
theorem RInv.pass {g : Graph} {f : List Int} {seen : List Bool} {todo : List Int} {x : Int} (h : RInv g f seen (todo ++ [x])) (hs : seen.getD x.toNat false = true) : RInv g f seen todo where
  len := h.len
  ok := fun y hy => h.ok y (by simp [hy])
  sound := h.sound
  tsound := fun y hy => h.tsound y (by simp [hy])
  base := fun y hy => by
    rcases h.base y hy with h1 | h1
    · exact .inl h1
    · rcases List.mem_append.1 h1 with h2 | h2
      · exact .inr h2
      · simp at h2; subst h2; exact .inl hs
  clo := fun n hn y hy => by
    rcases h.clo n hn y hy with h1 | h1
    · exact .inl h1
    · rcases List.mem_append.1 h1 with h2 | h2
      · exact .inr h2
      · simp at h2; subst h2; exact .inl hs
theorem RInv.mark {g : Graph} {f : List Int} {seen : List Bool} {todo : List Int} {x : Int} (hg : okG g) (h : RInv g f seen (todo ++ [x])) : RInv g f (seen.set x.toNat true) (todo ++ g.getD x.toNat []) := by
  have hx := h.ok x (by simp)
  have hlt : x.toNat < seen.length := by rw [h.len]; omega
  have key : ∀ y, seen.getD y.toNat false = true ∨ y ∈ todo ++ [x] → (seen.set x.toNat true).getD y.toNat false = true ∨ y ∈ todo ++ g.getD x.toNat [] := by
    intro y hy
    rw [getD_set hlt]
    rcases hy with h1 | h1
    · left; split
      · rfl
      · exact h1
    · rcases List.mem_append.1 h1 with h2 | h2
      · exact .inr (by simp [h2])
      · simp at h2; subst h2; left; simp
  refine ⟨by simpa using h.len, ?_, ?_, ?_, ?_, ?_⟩
  · intro y hy
    rcases List.mem_append.1 hy with h1 | h1
    · exact h.ok y (by simp [h1])
    · exact okG_row hg _ y h1
  · intro n hn
    rw [getD_set hlt] at hn
    split at hn
    · rename_i e; subst e; exact h.tsound x (by simp)
    · exact h.sound n hn
  · intro y hy
    rcases List.mem_append.1 hy with h1 | h1
    · exact h.tsound y (by simp [h1])
    · exact .step (h.tsound x (by simp)) h1
  · intro y hy; exact key y (h.base y hy)
  · intro n hn y hy
    rw [getD_set hlt] at hn
    split at hn
    · rename_i e; subst e; exact .inr (List.mem_append.2 (.inr hy))
    · exact key y (h.clo n hn y hy)
theorem RInv.done {g : Graph} {f : List Int} {seen : List Bool} (h : RInv g f seen []) : seen = rchB g f := by
  have all : ∀ n, Rch g f n → seen.getD n false = true := by
    intro n hn
    induction hn with
    | base hx => exact (h.base _ hx).resolve_right (by simp)
    | step _ hx ih => exact (h.clo _ ih _ hx).resolve_right (by simp)
  apply List.ext_getElem (by rw [h.len, rchB_len])
  intro n h1 h2
  have e1 : seen.getD n false = seen[n] := by simp [List.getD_eq_getElem?_getD, h1]
  rw [Bool.eq_iff_iff, rchB_iff h2, ← e1]
  exact ⟨h.sound n, all n⟩

/-- the search itself, to be run on small graphs -/
def dfs (g : Graph) : Nat → List Bool → List Int → List Bool
  | 0, seen, _ => seen
  | k + 1, seen, todo => match todo.reverse with
    | [] => seen
    | x :: r => match seen.getD x.toNat false with
      | true => dfs g k seen r.reverse
      | false => dfs g k (seen.set x.toNat true) (r.reverse ++ g.getD x.toNat [])
theorem dfs_eq {g : Graph} {f : List Int} (hg : okG g) : ∀ (k : Nat) (seen : List Bool) (todo : List Int), RInv g f seen todo → todo.length + pot g seen ≤ k → dfs g k seen todo = rchB g f := by
  intro k
  induction k with
  | zero =>
    intro seen todo h hk
    have : todo = [] := List.eq_nil_of_length_eq_zero (by omega)
    subst this
    exact h.done
  | succ k ih =>
    intro seen todo h hk
    unfold dfs
    split
    · rename_i he
      have : todo = [] := by simpa using he
      subst this
      exact h.done
    · rename_i x r he
      have ht : todo = r.reverse ++ [x] := by
        have := congrArg List.reverse he
        simpa using this
      subst ht
      have hx := h.ok x (by simp)
      split
      · rename_i hs
        exact ih _ _ (h.pass hs) (by simp at hk ⊢; omega)
      · rename_i hs
        have hxl : x.toNat < seen.length := by rw [h.len]; omega
        have hp := pot_set g seen x.toNat (by omega) h.len (by
          simp only [List.getD_eq_getElem?_getD, List.getElem?_eq_getElem hxl, Option.getD_some] at hs ⊢; exact hs)
        exact ih _ _ (RInv.mark hg h) (by simp only [List.length_append, List.length_cons, List.length_nil] at hk ⊢; omega)
theorem rchB_run {g : Graph} {f : List Int} (hg : okG g) (hf : okL g.length f) (k : Nat) (hk : f.length + edges g + g.length ≤ k) : rchB g f = dfs g k (List.replicate g.length false) f :=
  (dfs_eq hg k _ _ (RInv.start hf) (by rw [pot_start]; omega)).symm

/- WHAT THE LAW SAYS -/
theorem Rch.mono {g : Graph} {a b : List Int} (h : ∀ x ∈ a, x ∈ b) {n : Nat} (hn : Rch g a n) : Rch g b n := by
  induction hn with
  | base hx => exact .base (h _ hx)
  | step _ hx ih => exact .step ih hx
theorem Rch.app {g : Graph} {a b : List Int} {n : Nat} : Rch g (a ++ b) n ↔ Rch g a n ∨ Rch g b n := by
  constructor
  · intro h
    induction h with
    | base hx =>
      rcases List.mem_append.1 hx with h | h
      · exact .inl (.base h)
      · exact .inr (.base h)
    | step _ hx ih => exact ih.imp (fun h => .step h hx) (fun h => .step h hx)
  · rintro (h | h)
    · exact h.mono fun x hx => by simp [hx]
    · exact h.mono fun x hx => by simp [hx]

/- CHECKS -/
def oddB (n : Nat) (l : List Int) : Bool := l.any fun x => decide (x < 0 ∨ x ≥ n)
theorem oddB_false {n : Nat} {l : List Int} : oddB n l = false ↔ okL n l := by
  unfold oddB okL
  rw [List.any_eq_false]
  constructor
  · intro h x hx; have := h x hx; simp at this; omega
  · intro h x hx; have := h x hx; simp; omega
def chkG (g : Graph) : Int := match decide (g.length > 20000), g.any (oddB g.length) with
  | true, _ => 2
  | false, true => 1
  | false, false => 0
theorem chkG_ok {g : Graph} (h : chkG g = 0) : okG g ∧ g.length ≤ 20000 := by
  unfold chkG at h
  split at h
  · cases h
  · cases h
  · rename_i h1 h2
    simp at h1
    refine ⟨fun l hl => oddB_false.1 ?_, h1⟩
    rw [List.any_eq_false] at h2
    simpa using h2 l hl
end Go.Proofs.Ytadbkppgaekmpaa
/-
  Processes: what is right, what flows a node has: plain lists, no program in sight.
-/
set_option linter.unusedVariables false
set_option linter.unusedSimpArgs false
namespace Go.Proofs.Ytadbkppgaekmpaa

abbrev LNode := ByteArray × Int
abbrev LFlow := Int × Int
abbrev LProc := List LNode × List LFlow
def lowB (c : UInt8) : Bool := !(decide (((c.toNat : Nat) : Int) < 97)) && !(decide (((c.toNat : Nat) : Int) > 122))
def namedL (l : List UInt8) : Bool := !(l == []) && !(decide ((l.length : Int) > 8)) && !(l == [116, 114, 117, 101]) && !(l == [102, 97, 108, 115, 101]) && !(l == [115, 105, 108, 101, 110, 116]) && l.all lowB
abbrev namedB (s : ByteArray) : Bool := namedL s.data.toList
def nameEq (a b : ByteArray) : Bool := a.data.toList == b.data.toList
def nodeE (ns : List LNode) (i : Nat) : Int :=
  if !namedB (ns.getD i (⟨#[]⟩, 0)).1 || decide ((ns.getD i (⟨#[]⟩, 0)).2 < 1) || decide ((ns.getD i (⟨#[]⟩, 0)).2 > 7) then 1
  else if (ns.take i).any (fun m => nameEq m.1 (ns.getD i (⟨#[]⟩, 0)).1) then 4 else 0
def nodesGo (ns : List LNode) : Nat → Nat → Int
  | 0, _ => 0
  | f + 1, i => if nodeE ns i ≠ 0 then nodeE ns i else nodesGo ns f (i + 1)
def nodesE (ns : List LNode) : Int := nodesGo ns ns.length 0
theorem nodesGo_step {ns : List LNode} : ∀ (f i k : Nat), i ≤ k → k < i + f → (∀ j, i ≤ j → j < k → nodeE ns j = 0) → nodeE ns k ≠ 0 → nodesGo ns f i = nodeE ns k
  | 0, i, k, h1, h2, _, _ => by omega
  | f + 1, i, k, h1, h2, h3, h4 => by
    unfold nodesGo
    by_cases e : i = k
    · subst e; rw [if_pos h4]
    · rw [if_neg (by rw [h3 i (Nat.le_refl _) (by omega)]; simp)]
      exact nodesGo_step f (i + 1) k (by omega) (by omega) (fun j h5 h6 => h3 j (by omega) h6) h4
theorem nodesGo_zero {ns : List LNode} : ∀ (f i : Nat), (∀ j, i ≤ j → j < i + f → nodeE ns j = 0) → nodesGo ns f i = 0
  | 0, _, _ => rfl
  | f + 1, i, h => by
    unfold nodesGo
    rw [if_neg (by rw [h i (Nat.le_refl _) (by omega)]; simp)]
    exact nodesGo_zero f (i + 1) (fun j h1 h2 => h j (by omega) (by omega))
theorem nodesE_first {ns : List LNode} {k : Nat} (hk : k < ns.length) (h0 : ∀ j, j < k → nodeE ns j = 0) (h : nodeE ns k ≠ 0) : nodesE ns = nodeE ns k := nodesGo_step _ 0 k (Nat.zero_le _) (by omega) (fun j _ => h0 j) h
theorem nodesE_zero {ns : List LNode} (h0 : ∀ j, j < ns.length → nodeE ns j = 0) : nodesE ns = 0 := nodesGo_zero _ 0 (fun j _ h => h0 j (by omega))
theorem nodesE_all {ns : List LNode} (h : nodesE ns = 0) : ∀ j, j < ns.length → nodeE ns j = 0 := by
  intro j
  induction j using Nat.strongRecOn with
  | _ j ih =>
    intro hj
    apply Classical.byContradiction
    intro hn
    have := nodesE_first hj (fun k hk => ih k hk (by omega)) hn
    exact hn (by rw [← this]; exact h)
def countsB (kind : Int) (i o : Nat) : Bool :=
  if kind = 1 then decide (i = 0) && decide (o = 1)
  else if kind = 2 ∨ kind = 3 then decide (0 < i) && decide (o = 0)
  else if kind = 4 then decide (0 < i) && decide (o = 1)
  else if kind = 7 then if o > 4 then false else decide (0 < i) && decide (0 < o)
  else if kind = 5 ∨ kind = 6 then decide (0 < i) && decide (0 < o)
  else false
/-- flows into a node, and out of it, by number -/
def insP (fl : List LFlow) (n : Int) (k : Nat) : List Int := ((List.range k).filter fun i => (fl.getD i (0, 0)).2 == n).map fun i : Nat => (i : Int)
def outsP (fl : List LFlow) (n : Int) (k : Nat) : List Int := ((List.range k).filter fun i => (fl.getD i (0, 0)).1 == n).map fun i : Nat => (i : Int)
abbrev insL (fl : List LFlow) (n : Int) : List Int := insP fl n fl.length
abbrev outsL (fl : List LFlow) (n : Int) : List Int := outsP fl n fl.length
theorem insP_next {fl : List LFlow} {n : Int} {k : Nat} : insP fl n (k + 1) = insP fl n k ++ if ((fl.getD k (0, 0)).2 == n) = true then [(k : Int)] else [] := by
  unfold insP
  rw [List.range_succ, List.filter_append, List.map_append]
  congr 1
  by_cases e : ((fl.getD k (0, 0)).2 == n) = true
  · rw [if_pos e]; simp only [List.filter_cons, e, List.filter_nil]; rfl
  · rw [if_neg e]; simp only [List.filter_cons, e, List.filter_nil]; rfl
theorem outsP_next {fl : List LFlow} {n : Int} {k : Nat} : outsP fl n (k + 1) = outsP fl n k ++ if ((fl.getD k (0, 0)).1 == n) = true then [(k : Int)] else [] := by
  unfold outsP
  rw [List.range_succ, List.filter_append, List.map_append]
  congr 1
  by_cases e : ((fl.getD k (0, 0)).1 == n) = true
  · rw [if_pos e]; simp only [List.filter_cons, e, List.filter_nil]; rfl
  · rw [if_neg e]; simp only [List.filter_cons, e, List.filter_nil]; rfl
theorem insP_len {fl : List LFlow} {n : Int} {k : Nat} : (insP fl n k).length ≤ k := by
  unfold insP; rw [List.length_map]; exact Nat.le_trans (List.length_filter_le _ _) (by simp)
theorem outsP_len {fl : List LFlow} {n : Int} {k : Nat} : (outsP fl n k).length ≤ k := by
  unfold outsP; rw [List.length_map]; exact Nat.le_trans (List.length_filter_le _ _) (by simp)
theorem insP_mem {fl : List LFlow} {n : Int} {k : Nat} {x : Int} : x ∈ insP fl n k ↔ ∃ i : Nat, x = (i : Int) ∧ i < k ∧ (fl.getD i (0, 0)).2 = n := by
  unfold insP
  rw [List.mem_map]
  constructor
  · rintro ⟨i, h1, rfl⟩
    have := List.mem_filter.1 h1
    exact ⟨i, rfl, List.mem_range.1 this.1, by simpa using this.2⟩
  · rintro ⟨i, rfl, h1, h2⟩
    exact ⟨i, List.mem_filter.2 ⟨List.mem_range.2 h1, by simpa using h2⟩, rfl⟩
theorem outsP_mem {fl : List LFlow} {n : Int} {k : Nat} {x : Int} : x ∈ outsP fl n k ↔ ∃ i : Nat, x = (i : Int) ∧ i < k ∧ (fl.getD i (0, 0)).1 = n := by
  unfold outsP
  rw [List.mem_map]
  constructor
  · rintro ⟨i, h1, rfl⟩
    have := List.mem_filter.1 h1
    exact ⟨i, rfl, List.mem_range.1 this.1, by simpa using this.2⟩
  · rintro ⟨i, rfl, h1, h2⟩
    exact ⟨i, List.mem_filter.2 ⟨List.mem_range.2 h1, by simpa using h2⟩, rfl⟩
/-- is a flow's end no node? -/
def flowOdd (n : Nat) (f : LFlow) : Bool := decide (f.1 < 0) || decide (f.1 ≥ n) || decide (f.2 < 0) || decide (f.2 ≥ n)
/-- the graph of some flows -/
def flowsG (n : Nat) (fl : List LFlow) : Graph := (List.range n).map fun k : Nat => (fl.filter fun f => f.1 == (k : Int)).map (·.2)
def startsL (ns : List LNode) (k : Nat) : List Nat := (List.range k).filter fun i => (ns.getD i (⟨#[]⟩, 0)).2 == 1
def badCount (p : LProc) (i : Nat) : Bool := !countsB (p.1.getD i (⟨#[]⟩, 0)).2 (insL p.2 i).length (outsL p.2 i).length
open Classical in
noncomputable def chkR (p : LProc) : Int := if ∃ n, n < p.1.length ∧ ¬ Rch (flowsG p.1.length p.2) (((startsL p.1 p.1.length).getLast?.map fun n : Nat => (n : Int)).toList) n then 6 else 0
noncomputable def chkPr (p : LProc) : Int :=
  if p.1.length > 20 ∨ p.2.length > 30 then 2 else if nodesE p.1 ≠ 0 then nodesE p.1
  else if p.2.any (flowOdd p.1.length) = true then 1 else if (startsL p.1 p.1.length).length ≠ 1 then 1
  else if (List.range p.1.length).any (badCount p) = true then 1
  else chkR p
structure OkPr (p : LProc) : Prop where
  n : p.1.length ≤ 20
  f : p.2.length ≤ 30
  nodes : ∀ i, i < p.1.length → nodeE p.1 i = 0
  flows : ∀ f ∈ p.2, 0 ≤ f.1 ∧ f.1 < p.1.length ∧ 0 ≤ f.2 ∧ f.2 < p.1.length
  start : (startsL p.1 p.1.length).length = 1
  count : ∀ i, i < p.1.length → countsB (p.1.getD i (⟨#[]⟩, 0)).2 (insL p.2 i).length (outsL p.2 i).length = true
theorem chkPr_ok {p : LProc} (h : chkPr p = 0) : OkPr p := by
  unfold chkPr at h
  split at h
  · cases h
  split at h
  · rename_i h1 h2; exact absurd h h2
  split at h
  · cases h
  split at h
  · cases h
  split at h
  · cases h
  rename_i h1 h2 h3 h4 h5
  refine ⟨by omega, by omega, nodesE_all (by simpa using h2), fun f hf => ?_, by simpa using h4, fun i hi => ?_⟩
  · have h3 := List.any_eq_false.1 (by simpa using h3) f hf
    unfold flowOdd at h3
    simp at h3
    omega
  · have h5 := List.any_eq_false.1 (by simpa using h5) i (List.mem_range.2 hi)
    unfold badCount at h5
    simpa using h5
/- FLOWS, COUNTED BY THEIR NODES -/
theorem sum_ite {k : Nat} (G : Nat → Nat) : ∀ m : List Nat, m.Nodup → (m.map fun n => G n + if k = n then 1 else 0).sum = (m.map G).sum + if k ∈ m then 1 else 0
  | [], _ => rfl
  | a :: m, hd => by
    rw [List.nodup_cons] at hd
    have ih := sum_ite (k := k) G m hd.2
    simp only [List.map_cons, List.sum_cons, ih]
    by_cases e : k = a
    · subst e
      rw [if_pos rfl, if_neg hd.1, if_pos (by simp)]; omega
    · rw [if_neg e]
      by_cases hm : k ∈ m
      · rw [if_pos hm, if_pos (List.mem_cons_of_mem _ hm)]; omega
      · rw [if_neg hm, if_neg (fun h => (List.mem_cons.1 h).elim e hm)]; omega
theorem count_by {α : Type} {N : Nat} (key : α → Int) : ∀ l : List α, (∀ x ∈ l, 0 ≤ key x ∧ key x < N) → ((List.range N).map fun n : Nat => (l.filter fun x => key x == (n : Int)).length).sum = l.length
  | [], _ => by
    have : ∀ m : List Nat, (m.map fun n : Nat => (([] : List α).filter fun x => key x == (n : Int)).length).sum = 0 := fun m => by
      induction m with
      | nil => rfl
      | cons a m ih => simp only [List.map_cons, List.sum_cons, ih]; rfl
    exact this _
  | x :: r, h => by
    have ih := count_by key r (fun y hy => h y (by simp [hy]))
    obtain ⟨h0, h1⟩ := h x (by simp)
    have hFG : (fun n : Nat => ((x :: r).filter fun x => key x == (n : Int)).length) = fun n : Nat => (r.filter fun x => key x == (n : Int)).length + if (key x).toNat = n then 1 else 0 := by
      funext n
      rw [List.filter_cons]
      by_cases e : key x = (n : Int)
      · rw [if_pos (by simpa using e), if_pos (by omega)]; rfl
      · rw [if_neg (by simpa using e), if_neg (by omega)]; rfl
    rw [hFG, sum_ite _ _ List.nodup_range, ih, if_pos (by rw [List.mem_range]; omega)]
    rfl
end Go.Proofs.Ytadbkppgaekmpaa
/-
  The steps of a process: plain lists, no program in sight.
-/
set_option linter.unusedVariables false
set_option linter.unusedSimpArgs false
namespace Go.Proofs.Ytadbkppgaekmpaa

abbrev LStep := Int × Int × Int
def stepsK (kind n : Int) (ins : List Int) (o : Nat) : List LStep :=
  if kind = 4 ∨ kind = 2 ∨ kind = 3 then ins.map fun f => (n, f, (2 : Int) ^ o - 1)
  else if kind = 5 then ins.flatMap fun f => (List.range o).map fun k : Nat => (n, f, (2 : Int) ^ k)
  else if kind = 6 then [(n, -1, (2 : Int) ^ o - 1)]
  else if kind = 7 then (List.range (2 ^ o - 1)).map fun k : Nat => (n, -1, (k : Int) + 1)
  else []
def kindAt (p : LProc) (n : Nat) : Int := (p.1.getD n (⟨#[]⟩, 0)).2
def stepsN (p : LProc) (n : Nat) : List LStep := stepsK (kindAt p n) (n : Int) (insL p.2 (n : Int)) (outsL p.2 (n : Int)).length
def stepsP (p : LProc) (k : Nat) : List LStep := (List.range k).flatMap (stepsN p)
abbrev stepsL (p : LProc) : List LStep := stepsP p p.1.length
noncomputable def stepsE (p : LProc) : List LStep × Int := if chkPr p ≠ 0 then ([], chkPr p) else if (stepsL p).length > 60 then ([], 2) else (stepsL p, 0)
theorem stepsP_next {p : LProc} {k : Nat} : stepsP p (k + 1) = stepsP p k ++ stepsN p k := by
  unfold stepsP; rw [List.range_succ, List.flatMap_append]; simp
theorem pow_pos2 (o : Nat) : (1 : Int) ≤ 2 ^ o := by
  have := Nat.one_le_two_pow (n := o)
  exact_mod_cast this
theorem pow_le2 {o m : Nat} (h : o ≤ m) : (2 : Int) ^ o ≤ 2 ^ m := by
  have := Nat.pow_le_pow_right (n := 2) (by omega) h
  exact_mod_cast this
theorem pow_lt2 {o m : Nat} (h : o < m) : (2 : Int) ^ o < 2 ^ m := by
  have := Nat.pow_lt_pow_right (a := 2) (by omega) h
  exact_mod_cast this
section
variable {kind n : Int} {ins : List Int} {o : Nat}
theorem stepsK_node : ∀ s ∈ stepsK kind n ins o, s.1 = n := by
  intro s hs
  unfold stepsK at hs
  split at hs
  · obtain ⟨f, _, rfl⟩ := List.mem_map.1 hs; rfl
  split at hs
  · obtain ⟨f, _, hs⟩ := List.mem_flatMap.1 hs
    obtain ⟨k, _, rfl⟩ := List.mem_map.1 hs; rfl
  split at hs
  · rw [List.mem_singleton] at hs; subst hs; rfl
  split at hs
  · obtain ⟨k, _, rfl⟩ := List.mem_map.1 hs; rfl
  · cases hs
theorem stepsK_in : ∀ s ∈ stepsK kind n ins o, s.2.1 = -1 ∨ s.2.1 ∈ ins := by
  intro s hs
  unfold stepsK at hs
  split at hs
  · obtain ⟨f, h, rfl⟩ := List.mem_map.1 hs; exact .inr h
  split at hs
  · obtain ⟨f, h, hs⟩ := List.mem_flatMap.1 hs
    obtain ⟨k, _, rfl⟩ := List.mem_map.1 hs; exact .inr h
  split at hs
  · rw [List.mem_singleton] at hs; subst hs; exact .inl rfl
  split at hs
  · obtain ⟨k, _, rfl⟩ := List.mem_map.1 hs; exact .inl rfl
  · cases hs
theorem stepsK_out : ∀ s ∈ stepsK kind n ins o, 0 ≤ s.2.2 ∧ s.2.2 < 2 ^ o := by
  intro s hs
  have hp := pow_pos2 o
  unfold stepsK at hs
  split at hs
  · obtain ⟨f, h, rfl⟩ := List.mem_map.1 hs; dsimp only; omega
  split at hs
  · obtain ⟨f, h, hs⟩ := List.mem_flatMap.1 hs
    obtain ⟨k, hk, rfl⟩ := List.mem_map.1 hs
    have := pow_lt2 (List.mem_range.1 hk)
    have := pow_pos2 k
    dsimp only; omega
  split at hs
  · rw [List.mem_singleton] at hs; subst hs; dsimp only; omega
  split at hs
  · obtain ⟨k, hk, rfl⟩ := List.mem_map.1 hs
    have hk := List.mem_range.1 hk
    have : ((2 ^ o : Nat) : Int) = (2 : Int) ^ o := by push_cast; rfl
    dsimp only; omega
  · cases hs
theorem stepsK_nodup (h : ins.Nodup) : (stepsK kind n ins o).Nodup := by
  unfold stepsK
  split
  · rw [List.Nodup, List.pairwise_map]
    exact h.imp fun hab e => hab (by injection e with _ e; injection e)
  split
  · rw [List.Nodup, List.pairwise_flatMap]
    refine ⟨fun f _ => ?_, ?_⟩
    · rw [List.pairwise_map]
      refine List.nodup_range.imp fun {a b} hab e => hab ?_
      have e : (2 : Int) ^ a = 2 ^ b := by injection e with _ e; injection e
      rcases Nat.lt_trichotomy a b with h | h | h
      · have := pow_lt2 h; omega
      · exact h
      · have := pow_lt2 h; omega
    · refine h.imp fun {a b} hab x hx y hy e => hab ?_
      obtain ⟨k, _, rfl⟩ := List.mem_map.1 hx
      obtain ⟨j, _, rfl⟩ := List.mem_map.1 hy
      injection e with _ e; injection e
  split
  · simp
  split
  · rw [List.Nodup, List.pairwise_map]
    refine List.nodup_range.imp fun {a b} hab e => hab ?_
    have e : (a : Int) + 1 = b + 1 := by injection e with _ e; injection e
    omega
  · simp
theorem stepsK_len (h : ins.length ≤ 30) (ho : o ≤ 30) (h7 : kind = 7 → o ≤ 4) : (stepsK kind n ins o).length ≤ 900 := by
  unfold stepsK
  split
  · rw [List.length_map]; omega
  split
  · rw [List.length_flatMap]
    have : ∀ l : List Int, (l.map fun f : Int => ((List.range o).map fun k : Nat => ((n, f, (2 : Int) ^ k) : LStep)).length).sum = l.length * o := fun l => by
      induction l with
      | nil => simp
      | cons a l ih => rw [List.map_cons, List.sum_cons, ih, List.length_map, List.length_range, List.length_cons, Nat.add_mul]; omega
    rw [this]
    exact Nat.mul_le_mul h ho
  split
  · simp
  split
  · rename_i h7'
    have := h7 h7'
    rw [List.length_map, List.length_range]
    have : 2 ^ o ≤ 2 ^ 4 := Nat.pow_le_pow_right (by omega) this
    omega
  · simp
end
theorem insL_nodup {fl : List LFlow} {n : Int} : (insL fl n).Nodup := by
  unfold insL insP
  rw [List.Nodup, List.pairwise_map]
  exact (List.nodup_range.filter _).imp fun hab e => hab (by omega)
theorem okPr_outs {p : LProc} (h : OkPr p) {n : Nat} (hn : n < p.1.length) (hk : kindAt p n = 7) : (outsL p.2 (n : Int)).length ≤ 4 := by
  have := h.count n hn
  unfold kindAt at hk
  rw [hk] at this
  unfold countsB at this
  simp at this
  omega
theorem stepsP_len {p : LProc} (h : OkPr p) : ∀ k, k ≤ p.1.length → (stepsP p k).length ≤ 900 * k
  | 0, _ => by simp [stepsP]
  | k + 1, hk => by
    have ih := stepsP_len h k (by omega)
    rw [stepsP_next, List.length_append]
    have h1 : (insL p.2 (k : Int)).length ≤ p.2.length := insP_len
    have h2 : (outsL p.2 (k : Int)).length ≤ p.2.length := outsP_len
    have := h.f
    have := stepsK_len (kind := kindAt p k) (n := (k : Int)) (ins := insL p.2 (k : Int)) (o := (outsL p.2 (k : Int)).length) (by omega) (by omega) (fun h7 => okPr_outs h (by omega) h7)
    unfold stepsN
    omega
theorem stepsP_mem {p : LProc} {k : Nat} {s : LStep} : s ∈ stepsP p k ↔ ∃ n, n < k ∧ s ∈ stepsN p n := by
  unfold stepsP
  rw [List.mem_flatMap]
  exact exists_congr fun n => by rw [List.mem_range]
theorem stepsP_nodup {p : LProc} {k : Nat} : (stepsP p k).Nodup := by
  unfold stepsP
  rw [List.Nodup, List.pairwise_flatMap]
  refine ⟨fun n _ => stepsK_nodup insL_nodup, ?_⟩
  refine List.nodup_range.imp fun {a b} hab x hx y hy e => hab ?_
  have h1 := stepsK_node x hx
  have h2 := stepsK_node y hy
  rw [e] at h1
  omega
/-- each node but the start has a step -/
theorem stepsN_some {p : LProc} (h : OkPr p) {n : Nat} (hn : n < p.1.length) : (stepsN p n ≠ []) ↔ kindAt p n ≠ 1 := by
  have hc := h.count n hn
  have hnd := h.nodes n hn
  have hkk : 1 ≤ kindAt p n ∧ kindAt p n ≤ 7 := by
    unfold nodeE at hnd
    unfold kindAt
    split at hnd
    · cases hnd
    · rename_i hx
      rw [Bool.not_eq_true, Bool.or_eq_false_iff, Bool.or_eq_false_iff, decide_eq_false_iff_not, decide_eq_false_iff_not] at hx
      omega
  unfold stepsN
  unfold kindAt at hkk ⊢
  generalize (p.1.getD n (⟨#[]⟩, 0)).2 = k at *
  generalize insL p.2 (n : Int) = ins at *
  generalize (outsL p.2 (n : Int)).length = o at *
  have hne : ∀ (l : List LStep), l ≠ [] ↔ 0 < l.length := fun l => by cases l <;> simp
  rw [hne]
  unfold countsB at hc
  unfold stepsK
  rcases (show k = 1 ∨ k = 2 ∨ k = 3 ∨ k = 4 ∨ k = 5 ∨ k = 6 ∨ k = 7 by omega) with rfl | rfl | rfl | rfl | rfl | rfl | rfl
  · simp
  · simp at hc; simp; omega
  · simp at hc; simp; omega
  · simp at hc; simp; omega
  · simp at hc
    simp
    obtain ⟨h1, h2⟩ := hc
    obtain ⟨a, r, rfl⟩ := List.exists_cons_of_length_pos h1
    simp; omega
  · simp
  · simp at hc
    simp
    have : 2 ^ 1 ≤ 2 ^ o := Nat.pow_le_pow_right (by omega) (by omega)
    omega
end Go.Proofs.Ytadbkppgaekmpaa
/-
  Tokens: plain lists, no program in sight.
-/
set_option linter.unusedVariables false
set_option linter.unusedSimpArgs false
namespace Go.Proofs.Ytadbkppgaekmpaa

def beginL (p : LProc) : List Int := p.2.map fun f => if kindAt p f.1.toNat = 1 then 1 else 0
def tokB (n : Int) : Bool := decide (n < 0) || decide (n > 9)
noncomputable def chkM (p : LProc) (m : List Int) : Int := if (stepsE p).2 ≠ 0 then (stepsE p).2 else if m.length ≠ p.2.length ∨ m.any tokB = true then 1 else 0
def comeStep (fl : List LFlow) (n : Int) (s : List Bool × List Int) (i : Nat) : List Bool × List Int :=
  if (fl.getD i (0, 0)).2 = n ∧ s.1.getD i false = false then (s.1.set i true, s.2 ++ [(i : Int)]) else s
def comeGo (fl : List LFlow) (but : Int) : Nat → List Bool → List Int → List Bool
  | 0, out, _ => out
  | _ + 1, out, [] => out
  | f + 1, out, x :: r =>
    if (fl.getD x.toNat (0, 0)).1 = but then comeGo fl but f out r
    else comeGo fl but f ((List.range fl.length).foldl (comeStep fl (fl.getD x.toNat (0, 0)).1) (out, r)).1 ((List.range fl.length).foldl (comeStep fl (fl.getD x.toNat (0, 0)).1) (out, r)).2
def comeL (fl : List LFlow) (flow : Nat) (but : Int) : List Bool := comeGo fl but fl.length ((List.replicate fl.length false).set flow true) [(flow : Int)]
def falses (l : List Bool) : Nat := l.countP fun b => !b
theorem falses_set {l : List Bool} {k : Nat} (hk : k < l.length) (h : l.getD k false = false) : falses (l.set k true) + 1 = falses l := by
  unfold falses
  rw [List.getD_eq_getElem?_getD, List.getElem?_eq_getElem hk] at h
  have h : l[k] = false := h
  rw [List.countP_set hk, h]
  have : 0 < l.countP fun b => !b := List.countP_pos_iff.2 ⟨l[k], List.getElem_mem hk, by simp [h]⟩
  simp; omega
theorem falses_rep {n : Nat} : falses (List.replicate n false) = n := by simp [falses, List.countP_replicate]
theorem falses_le {l : List Bool} : falses l ≤ l.length := List.countP_le_length
structure ComeI (fl : List LFlow) (out : List Bool) (todo : List Int) : Prop where
  len : out.length = fl.length
  ok : ∀ x ∈ todo, 0 ≤ x ∧ x < fl.length
theorem comeStep_ok {fl : List LFlow} {n : Int} {out : List Bool} {todo : List Int} {i : Nat} (hi : i < fl.length) (h : ComeI fl out todo) :
    ComeI fl (comeStep fl n (out, todo) i).1 (comeStep fl n (out, todo) i).2 ∧ (comeStep fl n (out, todo) i).2.length + falses (comeStep fl n (out, todo) i).1 = todo.length + falses out := by
  unfold comeStep
  split
  · rename_i hc
    have := falses_set (l := out) (k := i) (by rw [h.len]; exact hi) hc.2
    refine ⟨⟨by simpa using h.len, fun x hx => ?_⟩, by simp only [List.length_append, List.length_cons, List.length_nil]; omega⟩
    rcases List.mem_append.1 hx with hx | hx
    · exact h.ok x hx
    · rw [List.mem_singleton] at hx; omega
  · exact ⟨h, rfl⟩
theorem comeGo_nil {fl : List LFlow} {but : Int} {f : Nat} {out : List Bool} : comeGo fl but f out [] = out := by cases f <;> rfl
theorem comeGo_len {fl : List LFlow} {but : Int} : ∀ (f : Nat) (out : List Bool) (todo : List Int), out.length = fl.length → (comeGo fl but f out todo).length = fl.length
  | 0, out, _, h => h
  | _ + 1, out, [], h => h
  | f + 1, out, x :: r, h => by
    unfold comeGo
    split
    · exact comeGo_len f _ _ h
    · refine comeGo_len f _ _ ?_
      have : ∀ (l : List Nat) (s : List Bool × List Int), s.1.length = fl.length → (l.foldl (comeStep fl (fl.getD x.toNat (0, 0)).1) s).1.length = fl.length := by
        intro l
        induction l with
        | nil => intro s h; exact h
        | cons a l ih =>
          intro s h
          refine ih _ ?_
          unfold comeStep
          split
          · simpa using h
          · exact h
      exact this _ _ h
theorem comeL_len {fl : List LFlow} {flow : Nat} {but : Int} : (comeL fl flow but).length = fl.length := comeGo_len _ _ _ (by simp)
def badIn (p : LProc) (m : List Int) (node f : Int) : Bool := (List.range p.2.length).any fun i => (comeL p.2 f.toNat node).getD i false && decide (m.getD i 0 > 0) && decide ((p.2.getD i (0, 0)).2 ≠ node)
def joinsP (p : LProc) (m : List Int) (node : Int) : Bool :=
  if (insL p.2 node).any (fun f => !decide (m.getD f.toNat 0 > 0) && badIn p m node f) = true then false else (insL p.2 node).any fun f => decide (m.getD f.toNat 0 > 0)
def enabledP (p : LProc) (m : List Int) (s : LStep) : Bool :=
  if 0 ≤ s.2.1 then decide (m.getD s.2.1.toNat 0 > 0) else if kindAt p s.1.toNat = 7 then joinsP p m s.1 else !(insL p.2 s.1).any fun f => m.getD f.toNat 0 == 0
/-- the numbers of the steps that are enabled -/
def canP (p : LProc) (m : List Int) (k : Nat) : List Int := ((List.range k).filter fun i => enabledP p m ((stepsL p).getD i (0, 0, 0))).map fun i : Nat => (i : Int)
abbrev canL (p : LProc) (m : List Int) : List Int := canP p m (stepsL p).length
theorem canP_next {p : LProc} {m : List Int} {k : Nat} : canP p m (k + 1) = canP p m k ++ (if enabledP p m ((stepsL p).getD k (0, 0, 0)) = true then [(k : Int)] else []) := by
  unfold canP
  rw [List.range_succ, List.filter_append, List.map_append]
  congr 1
  by_cases h : enabledP p m ((stepsL p).getD k (0, 0, 0)) = true
  · rw [if_pos h, List.filter_cons_of_pos (p := fun i => enabledP p m ((stepsL p).getD i (0, 0, 0))) h]; rfl
  · rw [if_neg h, List.filter_cons_of_neg (p := fun i => enabledP p m ((stepsL p).getD i (0, 0, 0))) h]; rfl
/-- what a step takes off flow f -/
def takes (m : List Int) (s : LStep) (f : Int) : Int := if s.2.1 = f ∨ s.2.1 < 0 ∧ m.getD f.toNat 0 > 0 then m.getD f.toNat 0 - 1 else m.getD f.toNat 0
def takeAll (s : LStep) : List Int → List Int → List Int
  | m, [] => m
  | m, f :: r => takeAll s (m.set f.toNat (takes m s f)) r
/-- bit k of n -/
def bitK (n : Int) (k : Nat) : Int := (n / 2 ^ k) % 2
def putAll (n : Int) : Nat → List Int → List Int → Option (List Int)
  | _, m, [] => some m
  | k, m, f :: r => if bitK n k = 1 then (if m.getD f.toNat 0 + 1 > 9 then none else putAll n (k + 1) (m.set f.toNat (m.getD f.toNat 0 + 1)) r) else putAll n (k + 1) m r
def fireP (p : LProc) (m : List Int) (s : LStep) : Option (List Int) :=
  if kindAt p s.1.toNat = 3 then some (m.map fun _ => 0) else putAll s.2.2 0 (takeAll s m (insL p.2 s.1)) (outsL p.2 s.1)
noncomputable def fireE (p : LProc) (m : List Int) (k : Int) : List Int × Int :=
  if chkM p m ≠ 0 then ([], chkM p m) else if k < 0 ∨ k ≥ (stepsL p).length then ([], 1)
  else if enabledP p m ((stepsL p).getD k.toNat (0, 0, 0)) = false then ([], 9)
  else ((fireP p m ((stepsL p).getD k.toNat (0, 0, 0))).getD [], if (fireP p m ((stepsL p).getD k.toNat (0, 0, 0))).isSome then 0 else 7)
noncomputable def canE (p : LProc) (m : List Int) : List Int := if chkM p m = 0 then canL p m else []
def pickD (d : Int) (can : List Int) : Int := can.getD (d % can.length).toNat 0
/-- markings along steps that are chosen by dice -/
noncomputable def walkGo (p : LProc) : List Int → List Int → List (List Int) × List Int
  | [], _ => ([], [])
  | d :: r, m =>
    if canE p m = [] then ([], [])
    else if (fireE p m (pickD d (canE p m))).2 ≠ 0 then ([], [])
    else ((fireE p m (pickD d (canE p m))).1 :: (walkGo p r (fireE p m (pickD d (canE p m))).1).1, pickD d (canE p m) :: (walkGo p r (fireE p m (pickD d (canE p m))).1).2)
noncomputable def walkedP (p : LProc) (dice : List Int) : List (List Int) × List Int :=
  if (stepsE p).2 ≠ 0 then ([], []) else (beginL p :: (walkGo p dice (beginL p)).1, (walkGo p dice (beginL p)).2)
end Go.Proofs.Ytadbkppgaekmpaa
/-
  Structs as pairs: their readings, their opening. Over any program.
-/
set_option linter.unusedVariables false
set_option linter.unusedSimpArgs false
namespace Go.Proofs.Ytadbkppgaekmpaa
open Go.RowKit

instance iPr1 {α β : Type} [Rep α] [Rep β] : Rep (α × β) where
  sz := sz α + sz β
  pos := by have := (Rep.pos : 0 < Rep.sz α); show 0 < Rep.sz α + Rep.sz β; omega
  agg := true
  rd := fun w F cs x => ∃ c1 c2, cs = c1 ++ c2 ∧ rd w F c1 x.1 ∧ rd w F c2 x.2
  len := by rintro w F cs x ⟨c1, c2, rfl, h1, h2⟩; rw [List.length_append, Rep.len h1, Rep.len h2]
  one := by
    rintro w F cs x ⟨c1, c2, rfl, h1, h2⟩ v hv
    rcases List.mem_append.1 hv with h | h
    · exact Rep.one h1 v h
    · exact Rep.one h2 v h
  szAgg := fun h => by cases h
  mono := by rintro w w' F F' cs x ⟨c1, c2, rfl, h1, h2⟩ hb hF; exact ⟨c1, c2, rfl, Rep.mono h1 hb hF, Rep.mono h2 hb hF⟩

/-- a struct's cells and what they say: field by field -/
theorem Rd.pr {α β : Type} [Rep α] [Rep β] {w : World} {F : Nat → Prop} {v : Value} {x : α × β} (h : Rd w F v x) : ∃ c1 c2, v = .agg (c1 ++ c2).toArray ∧ rd w F c1 x.1 ∧ rd w F c2 x.2 := by
  obtain ⟨cs, rfl, c1, c2, rfl, h1, h2⟩ := h
  exact ⟨c1, c2, rfl, h1, h2⟩
theorem rd_pr {α β : Type} [Rep α] [Rep β] {w : World} {F : Nat → Prop} {cs : List Value} {x : α × β} (h : rd w F cs x) : ∃ c1 c2, cs = c1 ++ c2 ∧ rd w F c1 x.1 ∧ rd w F c2 x.2 := h
theorem rd_int {w : World} {F : Nat → Prop} {cs : List Value} {x : Int} (h : rd w F cs x) : cs = [.int .i64 x] := h
theorem rd_bool {w : World} {F : Nat → Prop} {cs : List Value} {x : Bool} (h : rd w F cs x) : cs = [.bool x] := h
theorem rd_u64 {w : World} {F : Nat → Prop} {cs : List Value} {x : Nat} (h : rd w F cs x) : cs = [.int .u64 (x : Int)] ∧ x < 18446744073709551616 := h
theorem rd_sl {α : Type} [Rep α] {w : World} {F : Nat → Prop} {cs : List Value} {x : List α} (h : rd w F cs x) : ∃ ao cap, cs = [.slice ao x.length cap] ∧ Sl w F ao cap x := h
theorem Rd.mkPr {α β : Type} [Rep α] [Rep β] {w : World} {F : Nat → Prop} {c1 c2 : List Value} {x : α} {y : β} (h1 : rd w F c1 x) (h2 : rd w F c2 y) : Rd w F (.agg (c1 ++ c2).toArray) (x, y) := ⟨_, rfl, c1, c2, rfl, h1, h2⟩
theorem rd_mk {α β : Type} [Rep α] [Rep β] {w : World} {F : Nat → Prop} {c1 c2 : List Value} {x : α} {y : β} (h1 : rd w F c1 x) (h2 : rd w F c2 y) : rd w F (c1 ++ c2) (x, y) := ⟨c1, c2, rfl, h1, h2⟩
theorem rd_mkInt (w : World) (F : Nat → Prop) (x : Int) : rd w F [.int .i64 x] x := rfl
theorem rd_mkBool (w : World) (F : Nat → Prop) (x : Bool) : rd w F [.bool x] x := rfl
theorem rd_mkU64 (w : World) (F : Nat → Prop) (x : Nat) (h : x < 18446744073709551616) : rd w F [.int .u64 (x : Int)] x := ⟨rfl, h⟩
theorem rd_mkSl {α : Type} [Rep α] {w : World} {F : Nat → Prop} {ao : Option Addr} {cap : Nat} {x : List α} (h : Sl w F ao cap x) : rd w F [.slice ao x.length cap] x := ⟨ao, cap, rfl, h⟩

/-- words and patterns -/
abbrev LWord := List Nat × List Nat
abbrev LPat := Int × Int × Int × Int × Int × Int × Int
theorem Rd.word {w : World} {F : Nat → Prop} {v : Value} {x : LWord} (h : Rd w F v x) : ∃ so sc lo lc, v = .agg [.slice so x.1.length sc, .slice lo x.2.length lc].toArray ∧ Sl w F so sc x.1 ∧ Sl w F lo lc x.2 := by
  obtain ⟨c1, c2, rfl, h1, h2⟩ := h.pr
  obtain ⟨so, sc, rfl, k1⟩ := rd_sl h1
  obtain ⟨lo, lc, rfl, k2⟩ := rd_sl h2
  exact ⟨so, sc, lo, lc, rfl, k1, k2⟩
theorem Rd.pat {w : World} {F : Nat → Prop} {v : Value} {x : LPat} (h : Rd w F v x) : v = .agg [.int .i64 x.1, .int .i64 x.2.1, .int .i64 x.2.2.1, .int .i64 x.2.2.2.1, .int .i64 x.2.2.2.2.1, .int .i64 x.2.2.2.2.2.1, .int .i64 x.2.2.2.2.2.2].toArray := by
  obtain ⟨c1, r1, rfl, h1, k1⟩ := h.pr
  obtain ⟨c2, r2, rfl, h2, k2⟩ := rd_pr k1
  obtain ⟨c3, r3, rfl, h3, k3⟩ := rd_pr k2
  obtain ⟨c4, r4, rfl, h4, k4⟩ := rd_pr k3
  obtain ⟨c5, r5, rfl, h5, k5⟩ := rd_pr k4
  obtain ⟨c6, c7, rfl, h6, h7⟩ := rd_pr k5
  rw [rd_int h1, rd_int h2, rd_int h3, rd_int h4, rd_int h5, rd_int h6, rd_int h7]
  rfl
end Go.Proofs.Ytadbkppgaekmpaa
