/-
  Memory for our walks: typed readings of cells, slices that are read, slices that a call owns. Over any program.
-/
import Derived.Test.YthojdcbpglipeaaEng
set_option linter.unusedVariables false
set_option linter.unusedSimpArgs false
namespace Go.Proofs.Ythojdcbpglipeaa
open Go.RowKit

/- READINGS -/
/-- how a value of a Lean type lies in cells; F: blocks that the reading may meet -/
class Rep (α : Type) where
  sz : Nat
  pos : 0 < sz
  agg : Bool
  rd : World → (Nat → Prop) → List Value → α → Prop
  len : ∀ {w F cs x}, rd w F cs x → cs.length = sz
  one : ∀ {w F cs x}, rd w F cs x → ∀ v ∈ cs, v.oneCell' = true
  szAgg : agg = false → sz = 1
  mono : ∀ {w w' F F' cs x}, rd w F cs x → (∀ b, F b → w'.heap[b]? = w.heap[b]?) → (∀ b, F b → F' b) → rd w' F' cs x

abbrev sz (α : Type) [Rep α] : Nat := Rep.sz α
abbrev rd {α : Type} [Rep α] : World → (Nat → Prop) → List Value → α → Prop := Rep.rd

/-- the value that some cells make up -/
def vOf (α : Type) [Rep α] (cs : List Value) : Value := match Rep.agg α with
  | true => .agg cs.toArray
  | false => cs.headD undef
def Rd {α : Type} [Rep α] (w : World) (F : Nat → Prop) (v : Value) (x : α) : Prop := ∃ cs, v = vOf α cs ∧ rd w F cs x
theorem Rd.mono {α : Type} [Rep α] {w w' : World} {F F' : Nat → Prop} {v : Value} {x : α} (h : Rd w F v x) (hb : ∀ b, F b → w'.heap[b]? = w.heap[b]?) (hF : ∀ b, F b → F' b) : Rd w' F' v x := by
  obtain ⟨cs, e, hr⟩ := h
  exact ⟨cs, e, Rep.mono hr hb hF⟩
theorem vOf_cells {α : Type} [Rep α] {w : World} {F : Nat → Prop} {cs : List Value} {x : α} (h : rd w F cs x) : (vOf α cs).cells.toList = cs := by
  unfold vOf
  split
  · simp [Value.cells]
  · rename_i he
    have h1 := Rep.len h
    rw [Rep.szAgg he] at h1
    match cs, h1 with
    | [v], _ =>
      have := Rep.one h v (by simp)
      cases v <;> first | rfl | (simp [Value.oneCell'] at this)

instance iMem1 : Rep Int where
  sz := 1
  pos := by decide
  agg := false
  rd := fun _ _ cs x => cs = [.int .i64 x]
  len := by intro w F cs x h; subst h; rfl
  one := by intro w F cs x h v hv; subst h; simp at hv; subst hv; rfl
  szAgg := fun _ => rfl
  mono := fun h _ _ => h
instance iMem2 : Rep Bool where
  sz := 1
  pos := by decide
  agg := false
  rd := fun _ _ cs x => cs = [.bool x]
  len := by intro w F cs x h; subst h; rfl
  one := by intro w F cs x h v hv; subst h; simp at hv; subst hv; rfl
  szAgg := fun _ => rfl
  mono := fun h _ _ => h
/-- a letter: an uint64 -/
instance iMem3 : Rep Nat where
  sz := 1
  pos := by decide
  agg := false
  rd := fun _ _ cs x => cs = [.int .u64 (x : Int)] ∧ x < 18446744073709551616
  len := by intro w F cs x h; rw [h.1]; rfl
  one := by intro w F cs x h v hv; rw [h.1] at hv; simp at hv; subst hv; rfl
  szAgg := fun _ => rfl
  mono := fun h _ _ => h
instance iMem4 : Rep ByteArray where
  sz := 1
  pos := by decide
  agg := false
  rd := fun _ _ cs x => cs = [.string x] ∧ x.size ≤ maxLen
  len := by intro w F cs x h; rw [h.1]; rfl
  one := by intro w F cs x h v hv; rw [h.1] at hv; simp at hv; subst hv; rfl
  szAgg := fun _ => rfl
  mono := fun h _ _ => h

/-- cells in memory -/
def Cells (w : World) (b off : Nat) (cs : List Value) : Prop := ∀ j u, cs[j]? = some u → w.cell? ⟨b, off + j, none⟩ = some u
theorem Cells.mono {w w' : World} {b off : Nat} {cs : List Value} (h : Cells w b off cs) (hb : w'.heap[b]? = w.heap[b]?) : Cells w' b off cs :=
  fun j u hu => (World.cell?_of_block (w := w) (a := ⟨b, off + j, none⟩) hb).trans (h j u hu)

/-- a slice that is read -/
structure Sl {α : Type} [Rep α] (w : World) (F : Nat → Prop) (ao : Option Addr) (cap : Nat) (xs : List α) : Prop where
  le : xs.length ≤ cap
  mx : cap ≤ maxLen
  nil : ao = none → cap = 0
  el : ∀ i (h : i < xs.length), ∃ b off, ao = some ⟨b, off, none⟩ ∧ F b ∧ ∃ es, Cells w b (off + i * sz α) es ∧ rd w F es xs[i]
theorem Sl.mono {α : Type} [Rep α] {w w' : World} {F F' : Nat → Prop} {ao : Option Addr} {cap : Nat} {xs : List α} (h : Sl w F ao cap xs) (hb : ∀ b, F b → w'.heap[b]? = w.heap[b]?) (hF : ∀ b, F b → F' b) : Sl w' F' ao cap xs := by
  refine ⟨h.le, h.mx, h.nil, fun i hi => ?_⟩
  obtain ⟨b, off, e, hf, es, hc, hr⟩ := h.el i hi
  exact ⟨b, off, e, hF b hf, es, hc.mono (hb b hf), Rep.mono hr hb hF⟩
instance iMem5 {α : Type} [Rep α] : Rep (List α) where
  sz := 1
  pos := by decide
  agg := false
  rd := fun w F cs xs => ∃ ao cap, cs = [.slice ao xs.length cap] ∧ Sl w F ao cap xs
  len := by rintro w F cs x ⟨ao, cap, e, _⟩; subst e; rfl
  one := by rintro w F cs x ⟨ao, cap, e, _⟩ v hv; subst e; simp at hv; subst hv; rfl
  szAgg := fun _ => rfl
  mono := by rintro w w' F F' cs x ⟨ao, cap, e, h⟩ hb hF; exact ⟨ao, cap, e, h.mono hb hF⟩
theorem Rd.sl {α : Type} [Rep α] {w : World} {F : Nat → Prop} {v : Value} {xs : List α} (h : Rd w F v xs) : ∃ ao cap, v = .slice ao xs.length cap ∧ Sl w F ao cap xs := by
  obtain ⟨cs, e, ao, cap, rfl, hs⟩ := h
  exact ⟨ao, cap, e, hs⟩
theorem Sl.rd {α : Type} [Rep α] {w : World} {F : Nat → Prop} {ao : Option Addr} {cap : Nat} {xs : List α} (h : Sl w F ao cap xs) : Rd w F (.slice ao xs.length cap) xs := ⟨[.slice ao xs.length cap], rfl, ao, cap, rfl, h⟩
theorem Sl.len63 {α : Type} [Rep α] {w : World} {F : Nat → Prop} {ao : Option Addr} {cap : Nat} {xs : List α} (h : Sl w F ao cap xs) : xs.length ≤ 9223372036854775807 := by
  have := h.le; have := h.mx; unfold maxLen at this; omega
theorem Rd.int {w : World} {F : Nat → Prop} {v : Value} {x : Int} (h : Rd w F v x) : v = .int .i64 x := by obtain ⟨cs, e, rfl⟩ := h; exact e
theorem Rd.bool {w : World} {F : Nat → Prop} {v : Value} {x : Bool} (h : Rd w F v x) : v = .bool x := by obtain ⟨cs, e, rfl⟩ := h; exact e
theorem Rd.u64 {w : World} {F : Nat → Prop} {v : Value} {x : Nat} (h : Rd w F v x) : v = .int .u64 (x : Int) ∧ x < 18446744073709551616 := by obtain ⟨cs, e, rfl, h2⟩ := h; exact ⟨e, h2⟩
theorem Rd.str {w : World} {F : Nat → Prop} {v : Value} {x : ByteArray} (h : Rd w F v x) : v = .string x ∧ x.size ≤ maxLen := by obtain ⟨cs, e, rfl, h2⟩ := h; exact ⟨e, h2⟩
theorem Rd.mkInt (w : World) (F : Nat → Prop) (x : Int) : Rd w F (.int .i64 x) x := ⟨_, rfl, rfl⟩
theorem Rd.mkBool (w : World) (F : Nat → Prop) (x : Bool) : Rd w F (.bool x) x := ⟨_, rfl, rfl⟩
theorem Rd.mkStr (w : World) (F : Nat → Prop) (x : ByteArray) (h : x.size ≤ maxLen) : Rd w F (.string x) x := ⟨_, rfl, rfl, h⟩

/-- what was there in w -/
def Old (w : World) : Nat → Prop := fun b => b < w.heap.size
/-- what is there in w' and was not in w -/
def New (w : World) : Nat → Prop := fun b => w.heap.size ≤ b

abbrev Ext (w w' : World) : Prop := Below w.heap.size w w'
theorem Ext.refl (w : World) : Ext w w := Below.refl _ _
theorem Ext.trans {a b c : World} (h : Ext a b) (k : Ext b c) : Ext a c := Below.trans h (k.mono h.size)
theorem Ext.next {B : Nat} {a b c : World} (h : Below B a b) (hB : B ≤ a.heap.size) (k : Ext b c) : Below B a c := h.trans (k.mono (Nat.le_trans hB h.size))

section
variable {α : Type} [Rep α] {w w' w0 : World} {v : Value} {x : α} {ao : Option Addr} {cap : Nat} {xs : List α}
/-- an argument, read later on -/
theorem Sl.at (h : Sl w0 (Old w0) ao cap xs) (hB : Below w0.heap.size w0 w) : Sl w (Old w0) ao cap xs := h.mono (fun b hb => hB.block b hb) fun _ h => h
theorem Rd.at (h : Rd w0 (Old w0) v x) (hB : Below w0.heap.size w0 w) : Rd w (Old w0) v x := h.mono (fun b hb => hB.block b hb) fun _ h => h
theorem Sl.lift {F : Nat → Prop} (h : Sl w F ao cap xs) (hF : ∀ b, F b → b < w.heap.size) : Sl w (Old w) ao cap xs := h.mono (fun _ _ => rfl) hF
theorem Rd.lift {F : Nat → Prop} (h : Rd w F v x) (hF : ∀ b, F b → b < w.heap.size) : Rd w (Old w) v x := h.mono (fun _ _ => rfl) hF
theorem Sl.up (h : Sl w0 (Old w0) ao cap xs) (hB : Below w0.heap.size w0 w) : Sl w (Old w) ao cap xs := h.mono (fun b hb => hB.block b hb) fun b hb => Nat.lt_of_lt_of_le hb hB.size
theorem Rd.up (h : Rd w0 (Old w0) v x) (hB : Below w0.heap.size w0 w) : Rd w (Old w) v x := h.mono (fun b hb => hB.block b hb) fun b hb => Nat.lt_of_lt_of_le hb hB.size
/-- blocks that a reading truly meets are there -/
theorem Cells.lt {b off : Nat} {cs : List Value} (h : Cells w b off cs) (hn : 0 < cs.length) : b < w.heap.size :=
  World.block_lt_of_cell? w _ (h 0 cs[0] (by simp [hn]))
end

/- TYPES OF THE PROGRAM -/
/-- a type number, and the Lean type that its values read as -/
def aggD : TypeDesc → Bool | .struct _ => true | .array _ _ => true | _ => false
class IsT (P : Program) (t : TypeId) (α : Type) [Rep α] : Prop where
  ok : ∃ i d, P.info? t = some i ∧ i.size = sz α ∧ P.underlying t = some d ∧ aggD d = Rep.agg α
/-- a slice type and its elements' type -/
class IsS (P : Program) (t : TypeId) (e : outParam TypeId) : Prop where
  ok : P.underlying t = some (.slice e)
/-- a type's zero value, and its bytes -/
class IsZ (P : Program) (t : TypeId) {α : Type} [Rep α] (x : outParam α) (bytes : outParam Nat) : Prop where
  ok : ∃ i z, P.info? t = some i ∧ i.zero = some z ∧ i.bytes = bytes ∧ ∀ w F, rd w F z.cells.toList x

theorem IsT.of {P : Program} {t : TypeId} {α : Type} [Rep α] {d : TypeDesc} (h : (P.info? t).map (fun i => Nat.beq i.size (sz α)) = some true) (hu : P.underlying t = some d)
    (hd : aggD d = Rep.agg α) : IsT P t α := by
  obtain ⟨i, hi, he⟩ := Option.map_eq_some_iff.1 h
  exact ⟨i, d, hi, Nat.eq_of_beq_eq_true he, hu, hd⟩
theorem IsZ.of {P : Program} {t : TypeId} {α : Type} [Rep α] {x : α} {bytes : Nat} {z : Value} (h : (P.info? t).map (fun i => (i.zero, i.bytes)) = some (some z, bytes)) (hz : ∀ w F, rd w F z.cells.toList x) : IsZ P t x bytes := by
  obtain ⟨i, hi, he⟩ := Option.map_eq_some_iff.1 h
  simp only [Prod.mk.injEq] at he
  exact ⟨i, z, hi, he.1, he.2, hz⟩
theorem IsT.info {P : Program} {t : TypeId} {α : Type} [Rep α] [h : IsT P t α] : ∃ i, P.info? t = some i ∧ i.size = sz α := by
  obtain ⟨i, d, h1, h2, _⟩ := h.ok; exact ⟨i, h1, h2⟩
theorem run_sizeOf {P : Program} {t : TypeId} {α : Type} [Rep α] [IsT P t α] (w : World) : (sizeOf t).run P w = .ok (sz α) w := by
  obtain ⟨i, h1, h2⟩ := IsT.info (P := P) (t := t) (α := α)
  simp [sizeOf, typeInfo, h1, h2]
theorem run_isAgg {P : Program} {t : TypeId} {α : Type} [Rep α] [h : IsT P t α] (w : World) : (isAgg t).run P w = .ok (Rep.agg α) w := by
  obtain ⟨i, d, h1, h2, h3, h4⟩ := h.ok
  unfold isAgg
  rw [Sem.run_bind, run_underlying h3 w]
  rw [← h4]
  cases d <;> rfl
theorem run_loadAt {P : Program} {t : TypeId} {α : Type} [Rep α] [IsT P t α] {w : World} {F : Nat → Prop} {b off : Nat} {cs : List Value} {x : α} (hc : Cells w b off cs) (hr : rd w F cs x) :
    (loadVar t ⟨b, off, none⟩).run P w = .ok (vOf α cs) w := by
  have hl : cs.length = sz α := Rep.len hr
  unfold loadVar
  rw [Sem.run_bind, run_isAgg (α := α) w]
  simp only [Result.andThen_ok]
  unfold vOf
  cases he : Rep.agg α with
  | true =>
    simp only [if_true]
    rw [Sem.run_bind, run_sizeOf (α := α) w]
    simp only [Result.andThen_ok]
    rw [Sem.run_bind, ← hl, run_loadCells_list w ⟨b, off, none⟩ cs (fun j v hv => by rw [WideShapes.add_plain]; exact hc j v hv)]
    rfl
  | false =>
    rw [show sz α = 1 from Rep.szAgg he] at hl
    match cs, hl with
    | [v], _ =>
      have := hc 0 v rfl
      simp only [Nat.add_zero] at this
      simp [this]

section
variable {P : Program} {Q : Exit → Act → World → Prop} {n : Nat} {σ : Sg} {w : World} {L rest : List Oper} {d : Nat} {op : Op} {ty : TypeId} {pos : String} {af : Array Edge} {g : Option (Nat × Bool)}

/-- len(x), a slice -/
theorem WL.lenS {t e : TypeId} {x : Operand} {ao : Option Addr} {k cap : Nat} (hg : gd L σ ⟨some d, .call ⟨.builtin .len, #[x], #[t]⟩, ty, pos, af, g⟩ = some true) (hd : Nat.ble (d + 1) n = true)
    (hx : ev σ x = some (.slice ao k cap)) [hs : IsS P t e] (h : WL P L Q rest n ((d, .int .i64 (k : Int)) :: σ) w) : WL P L Q (⟨some d, .call ⟨.builtin .len, #[x], #[t]⟩, ty, pos, af, g⟩ :: rest) n σ w := by
  refine WL.run hg hd (fun a ha => ?_) h
  simp [execOp, resolve, invoke, builtin, ha.ev hx, Builtin.len_, run_underlying hs.ok, goInt]
/-- &x[i] -/
theorem WL.idx {α : Type} [Rep α] {t e : TypeId} {x ix : Operand} {b off : Nat} {k cap : Nat} {i : Int} {kd : IntKind} (hg : gd L σ ⟨some d, .indexAddr t x ix, ty, pos, af, g⟩ = some true) (hd : Nat.ble (d + 1) n = true)
    (hx : ev σ x = some (.slice (some ⟨b, off, none⟩) k cap)) (hi : ev σ ix = some (.int kd i)) [hs : IsS P t e] [ht : IsT P e α] (h0 : 0 ≤ i) (h1 : i < k)
    (h : WL P L Q rest n ((d, .pointer (some ⟨b, off + i.toNat * sz α, none⟩)) :: σ) w) : WL P L Q (⟨some d, .indexAddr t x ix, ty, pos, af, g⟩ :: rest) n σ w := by
  refine WL.run hg hd (fun a ha => ?_) h
  simp [execOp, ha.ev hx, ha.ev hi, Instr.indexAt, asIntOf, run_underlying hs.ok, h0, h1, run_sizeOf (α := α), WideShapes.add_plain]
/-- *p -/
theorem WL.load {α : Type} [Rep α] {t : TypeId} {x : Operand} {b off : Nat} {F : Nat → Prop} {cs : List Value} {y : α} (hg : gd L σ ⟨some d, .load t x, ty, pos, af, g⟩ = some true) (hd : Nat.ble (d + 1) n = true)
    (hx : ev σ x = some (.pointer (some ⟨b, off, none⟩))) [ht : IsT P t α] (hc : Cells w b off cs) (hr : rd w F cs y)
    (h : WL P L Q rest n ((d, vOf α cs) :: σ) w) : WL P L Q (⟨some d, .load t x, ty, pos, af, g⟩ :: rest) n σ w := by
  refine WL.run hg hd (fun a ha => ?_) h
  simp [execOp, ha.ev hx, Instr.loadAt, Instr.sureAddr, run_loadAt hc hr]
/-- x[i], read -/
theorem WL.elem {α : Type} [Rep α] {t e : TypeId} {x ix : Operand} {ao : Option Addr} {cap d' : Nat} {xs : List α} {F : Nat → Prop} {i : Int} {kd : IntKind} {ty' : TypeId} {pos' : String} {af' : Array Edge} {g' : Option (Nat × Bool)}
    (hg : gd L σ ⟨some d, .indexAddr t x ix, ty, pos, af, g⟩ = some true) (hd : Nat.ble (d + 1) n = true) (hd' : Nat.ble (d' + 1) n = true)
    (hx : ev σ x = some (.slice ao xs.length cap)) (hi : ev σ ix = some (.int kd i)) [hs : IsS P t e] [ht : IsT P e α] (hsl : Sl w F ao cap xs) (h0 : 0 ≤ i) (h1 : i < xs.length)
    (hg' : ∀ p, gd L ((d, .pointer p) :: σ) ⟨some d', .load e (.tmp d), ty', pos', af', g'⟩ = some true)
    (h : ∀ u p, Rd w F u (xs[i.toNat]'(by omega)) → WL P L Q rest n ((d', u) :: (d, .pointer p) :: σ) w) :
    WL P L Q (⟨some d, .indexAddr t x ix, ty, pos, af, g⟩ :: ⟨some d', .load e (.tmp d), ty', pos', af', g'⟩ :: rest) n σ w := by
  obtain ⟨b, off, rfl, hF, es, hc, hr⟩ := hsl.el i.toNat (by omega)
  refine WL.idx (α := α) hg hd hx hi h0 h1 ?_
  refine WL.load (α := α) (hg' _) hd' fnd_cons_eq hc hr ?_
  exact h _ _ ⟨es, rfl, hr⟩
/-- the same, the index a natural number -/
theorem WL.elemN {α : Type} [Rep α] {t e : TypeId} {x ix : Operand} {ao : Option Addr} {cap d' : Nat} {xs : List α} {F : Nat → Prop} {i : Nat} {kd : IntKind} {ty' : TypeId} {pos' : String} {af' : Array Edge} {g' : Option (Nat × Bool)}
    (hg : gd L σ ⟨some d, .indexAddr t x ix, ty, pos, af, g⟩ = some true) (hd : Nat.ble (d + 1) n = true) (hd' : Nat.ble (d' + 1) n = true)
    (hx : ev σ x = some (.slice ao xs.length cap)) (hi : ev σ ix = some (.int kd (i : Int))) [hs : IsS P t e] [ht : IsT P e α] (hsl : Sl w F ao cap xs) (h1 : i < xs.length)
    (hg' : ∀ p, gd L ((d, .pointer p) :: σ) ⟨some d', .load e (.tmp d), ty', pos', af', g'⟩ = some true)
    (h : ∀ u p, Rd w F u xs[i] → WL P L Q rest n ((d', u) :: (d, .pointer p) :: σ) w) :
    WL P L Q (⟨some d, .indexAddr t x ix, ty, pos, af, g⟩ :: ⟨some d', .load e (.tmp d), ty', pos', af', g'⟩ :: rest) n σ w :=
  WL.elem hg hd hd' hx hi hsl (by omega) (by omega) hg' (fun u p hu => h u p (by simpa using hu))
/-- .. of numbers -/
theorem WL.elemI {t e : TypeId} {x ix : Operand} {ao : Option Addr} {cap d' : Nat} {xs : List Int} {F : Nat → Prop} {i : Nat} {y : Int} {kd : IntKind} {ty' : TypeId} {pos' : String} {af' : Array Edge} {g' : Option (Nat × Bool)}
    (hg : gd L σ ⟨some d, .indexAddr t x ix, ty, pos, af, g⟩ = some true) (hd : Nat.ble (d + 1) n = true) (hd' : Nat.ble (d' + 1) n = true)
    (hx : ev σ x = some (.slice ao xs.length cap)) (hi : ev σ ix = some (.int kd (i : Int))) [hs : IsS P t e] [ht : IsT P e Int] (hsl : Sl w F ao cap xs) (h1 : i < xs.length) (hy : xs[i] = y)
    (hg' : ∀ p, gd L ((d, .pointer p) :: σ) ⟨some d', .load e (.tmp d), ty', pos', af', g'⟩ = some true)
    (h : ∀ p, WL P L Q rest n ((d', .int .i64 y) :: (d, .pointer p) :: σ) w) :
    WL P L Q (⟨some d, .indexAddr t x ix, ty, pos, af, g⟩ :: ⟨some d', .load e (.tmp d), ty', pos', af', g'⟩ :: rest) n σ w :=
  WL.elemN hg hd hd' hx hi hsl h1 hg' (fun u p hu => by rw [hu.int, hy]; exact h p)
theorem WL.elemB {t e : TypeId} {x ix : Operand} {ao : Option Addr} {cap d' : Nat} {xs : List Bool} {F : Nat → Prop} {i : Nat} {y : Bool} {kd : IntKind} {ty' : TypeId} {pos' : String} {af' : Array Edge} {g' : Option (Nat × Bool)}
    (hg : gd L σ ⟨some d, .indexAddr t x ix, ty, pos, af, g⟩ = some true) (hd : Nat.ble (d + 1) n = true) (hd' : Nat.ble (d' + 1) n = true)
    (hx : ev σ x = some (.slice ao xs.length cap)) (hi : ev σ ix = some (.int kd (i : Int))) [hs : IsS P t e] [ht : IsT P e Bool] (hsl : Sl w F ao cap xs) (h1 : i < xs.length) (hy : xs[i] = y)
    (hg' : ∀ p, gd L ((d, .pointer p) :: σ) ⟨some d', .load e (.tmp d), ty', pos', af', g'⟩ = some true)
    (h : ∀ p, WL P L Q rest n ((d', .bool y) :: (d, .pointer p) :: σ) w) :
    WL P L Q (⟨some d, .indexAddr t x ix, ty, pos, af, g⟩ :: ⟨some d', .load e (.tmp d), ty', pos', af', g'⟩ :: rest) n σ w :=
  WL.elemN hg hd hd' hx hi hsl h1 hg' (fun u p hu => by rw [hu.bool, hy]; exact h p)

/-- a new variable of the call's own -/
theorem WL.box {e : TypeId} {x : Operand} {v : Value} (hg : gd L σ ⟨some d, .box e x, ty, pos, af, g⟩ = some true) (hd : Nat.ble (d + 1) n = true)
    (hx : ev σ x = some v) (h : WL P L Q rest n ((d, .pointer (some ⟨w.heap.size, 0, none⟩)) :: σ) (w.alloc (.cells v.cells e))) : WL P L Q (⟨some d, .box e x, ty, pos, af, g⟩ :: rest) n σ w := by
  refine WL.run hg hd (fun a ha => ?_) h
  simp [execOp, ha.ev hx, Instr.box, newVar, newRow]
end
/- FUNCTIONS AS VALUES -/
/-- a call of a function's value -/
def FnV (P : Program) (fv : Value) (args : List Value) (w : World) (R : Value → World → Prop) : Prop :=
  ∃ f fs cs, fv = .func (.func f) (List.toArray fs) (List.toArray cs) ∧ IsF P f ∧ Rt P f (fs ++ args ++ cs).toArray w R
theorem FnV.mk {P : Program} {f : FuncId} {cs args : List Value} {w : World} {R : Value → World → Prop} [hf : IsF P f] (h : Rt P f (args ++ cs).toArray w R) : FnV P (.func (.func f) [].toArray cs.toArray) args w R :=
  ⟨f, [], cs, rfl, hf, h⟩
theorem FnV.mono {P : Program} {fv : Value} {args : List Value} {w : World} {R R' : Value → World → Prop} (h : FnV P fv args w R) (hr : ∀ v w', R v w' → R' v w') : FnV P fv args w R' := by
  obtain ⟨f, fs, cs, e, hf, h⟩ := h
  exact ⟨f, fs, cs, e, hf, h.mono hr⟩
theorem WL.callF {P : Program} {Q : Exit → Act → World → Prop} {n : Nat} {σ : Sg} {w : World} {L rest : List Oper} {d : Nat} {ty : TypeId} {pos : String} {af : Array Edge} {g : Option (Nat × Bool)}
    {x : Operand} {xs : List Operand} {ts : Array TypeId} {vs : List Value} {fv : Value} {R : Value → World → Prop}
    (hg : gd L σ ⟨some d, .call ⟨.value x, xs.toArray, ts⟩, ty, pos, af, g⟩ = some true) (hd : Nat.ble (d + 1) n = true) (hx : ev σ x = some fv) (hv : evs σ xs = some vs)
    (hc : FnV P fv vs w R) (h : ∀ v w', R v w' → WL P L Q rest n ((d, v) :: σ) w') : WL P L Q (⟨some d, .call ⟨.value x, xs.toArray, ts⟩, ty, pos, af, g⟩ :: rest) n σ w := by
  obtain ⟨f, fs, cs, rfl, hf, hc⟩ := hc
  exact WL.callV hg hd hx hv hc h
theorem Ext.alloc (w : World) (o : Obj) : Ext w (w.alloc o) := (Below.refl _ _).alloc (Nat.le_refl _) o
theorem Cells.alloc (w : World) (cs : Array Value) (e : TypeId) : Cells (w.alloc (.cells cs e)) w.heap.size 0 cs.toList := by
  intro j u hu
  rw [World.cell?_alloc_new]
  simpa using hu
/-- a reading in a boxed variable -/
theorem Cells.box {α : Type} [Rep α] {w w' : World} {F : Nat → Prop} {v : Value} {x : α} {e : TypeId} (h : Rd w F v x) : ∃ cs, v = vOf α cs ∧ Cells (w.alloc (.cells v.cells e)) w.heap.size 0 cs ∧ rd w F cs x := by
  obtain ⟨cs, rfl, hr⟩ := h
  refine ⟨cs, rfl, ?_, hr⟩
  have := Cells.alloc w (vOf α cs).cells e
  rwa [vOf_cells hr] at this
end Go.Proofs.Ythojdcbpglipeaa
