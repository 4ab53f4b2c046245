import Derived.OrdersHeld
import Derived.Test.YtikigaeihdmcaaaGreatDoorProg
import Derived.Shelf.Strings.Split
import Derived.Shelf.Strings.Cut
import Derived.Shelf.Strings.Builder1
import Derived.Shelf.Strings.OnBuilder
import Derived.Shelf.Vars
import Derived.Test.YtikigaeihdmcaaaGreatDoorPtReportLines2
/-
  Regions whose order is open and which change memory: what only reads is taken first, what changes memory comes alone. Over any program.
-/
set_option linter.unusedVariables false
set_option linter.unusedSimpArgs false
namespace Go.Proofs.YtikigaeihdmcaaaGreatDoor
open Go.RowKit

def nthO : List Oper → Nat → Option Oper
  | [], _ => none
  | o :: _, 0 => some o
  | _ :: r, i + 1 => nthO r i
theorem nthO_eq : ∀ (l : List Oper) (i : Nat), nthO l i = l[i]?
  | [], i => by simp [nthO]
  | o :: r, 0 => by simp [nthO]
  | o :: r, i + 1 => by simp [nthO, nthO_eq r i]
/-- an order that stands for all: (i, true): number i may be taken first; (i, false): nothing else may come -/
def ordB (ops : Array Oper) : List (Nat × Bool) → Array Bool → Bool
  | [], listed => (Region.ready .any ops listed).isEmpty
  | (i, true) :: r, listed => (Region.ready .any ops listed).contains i && Region.free .any ops listed i && ordB ops r (listed.setIfInBounds i true)
  | (i, false) :: r, listed => decide (Region.ready .any ops listed = [i]) && ordB ops r (listed.setIfInBounds i true)
def ordOk (l : List Oper) (ord : List (Nat × Bool)) : Bool := Region.noSelect l.toArray && decide (ord.length = l.length) && ordB l.toArray ord (Array.replicate l.length false)

/-- the walk along the order -/
def wpHL (P : Program) (ops : List Oper) (S : World → Prop) (Q : Act → World → Prop) : List (Nat × Bool) → Act → World → Prop
  | [], a, w => Q a w
  | (i, true) :: r, a, w => ∃ o v, ops[i]? = some o ∧ YieldsIf P ops.toArray S o v a ∧ wpHL P ops S Q r (a.put o.dst v) w
  | (i, false) :: r, a, w => ∃ o, ops[i]? = some o ∧ (if Region.wanted o (yielded ops.toArray a.tmps) = true then o.wp P a w (fun a' w' => S w' ∧ wpHL P ops S Q r a' w') (fun e a w => e = .normal ∧ Q a w) else S w ∧ wpHL P ops S Q r (a.put o.dst undef) w)

theorem wpHL_sound {P : Program} {ops : List Oper} {S : World → Prop} {Q : Act → World → Prop} (hs : Region.noSelect ops.toArray = true) :
    ∀ (ord : List (Nat × Bool)) (listed : Array Bool) (a : Act) (w : World), ordB ops.toArray ord listed = true → S w → wpHL P ops S Q ord a w → wpAnyH P .any ops.toArray (fun e a w => e = .normal ∧ Q a w) S ord.length listed a w
  | [], listed, a, w, hB, _, h => by
    simp only [ordB, List.isEmpty_iff] at hB
    exact ⟨hB, rfl, h⟩
  | (i, true) :: r, listed, a, w, hB, hS, ⟨o, v, ho, hy, h⟩ => by
    simp only [ordB, Bool.and_eq_true] at hB
    exact wpAnyH_take (by simpa using ho) hs hB.1.2 hB.1.1 (fun _ _ _ h => by cases h.1) hy hS (wpHL_sound hs r _ _ _ hB.2 hS h)
  | (i, false) :: r, listed, a, w, hB, hS, ⟨o, ho, h⟩ => by
    simp only [ordB, Bool.and_eq_true, decide_eq_true_eq] at hB
    refine wpAnyH_all hB.1 (by simp) ?_
    intro j hj
    have hji : j = i := by simpa using hj
    subst hji
    have ho' : ops.toArray[j]? = some o := by simpa using ho
    unfold wpOp
    simp only [ho']
    split
    · rename_i hw
      rw [if_pos hw] at h
      exact .inl (Oper.wp_mono (fun a' w' h' => ⟨h'.1, wpHL_sound hs r _ _ _ hB.2 h'.1 h'.2⟩) h)
    · rename_i hw
      rw [if_neg hw] at h
      exact ⟨h.1, wpHL_sound hs r _ _ _ hB.2 h.1 h.2⟩

@[irreducible] def HL (P : Program) (ops : List Oper) (S : World → Prop) (Q : Exit → Act → World → Prop) (ord : List (Nat × Bool)) (n : Nat) (σ : Sg) (w : World) : Prop :=
  ∀ a, Fr n σ a → wpHL P ops S (fun a w => Q .normal a w) ord a w
/-- behind the draw -/
abbrev drew (w : World) : World := { w with drawn := w.drawn + 1 }
theorem Ext.drew (w : World) : Ext w (drew w) := ⟨rfl, rfl, rfl, Nat.le_refl _, fun _ _ => rfl⟩
/-- behind one operation -/
def AfterOp (P : Program) (ops : List Oper) (S : World → Prop) (Q : Exit → Act → World → Prop) (ord : List (Nat × Bool)) : Exit → Act → World → Prop :=
  fun e a w => e = .normal ∧ S w ∧ wpHL P ops S (fun a w => Q .normal a w) ord a w

section
variable {P : Program} {Q : Exit → Act → World → Prop} {n : Nat} {σ : Sg} {w : World} {L : List Oper} {S : World → Prop} {rest : List (Nat × Bool)} {i d : Nat} {op : Op} {ty : TypeId} {pos : String} {af : Array Edge} {g : Option (Nat × Bool)}

theorem CW.drawH {id : Nat} (S : World → Prop) (ord : List (Nat × Bool)) (hm : P.follows .mixedOrders = true) (hB : ordOk L ord = true) (hS : S (drew w)) (h : HL P L S Q ord n σ (drew w)) : CW P (.region id L.toArray true) Q n σ w := by
  unfold CW; unfold HL at h; intro a ha
  simp only [ordOk, Bool.and_eq_true, decide_eq_true_eq] at hB
  obtain ⟨⟨hs, hl⟩, hB⟩ := hB
  have h1 := wpHL_sound hs ord (Array.replicate L.length false) a (Go.Proofs.YtikigaeihdmcaaaGreatDoor.drew w) hB hS (h a ha)
  rw [hl] at h1
  have h2 := wp_region_held (id := id) (S := S) hm (w := w) (ops := L.toArray) (by simpa using h1)
  exact wp_mono h2 (fun e a' w' ⟨he, hq⟩ => by subst he; exact hq)
theorem HL.nil (h : EX Q .normal n σ w) : HL P L S Q [] n σ w := by
  unfold HL; unfold EX at h; exact fun a ha => h a ha
theorem HL.run {v : Value} (ho : nthO L i = some ⟨some d, op, ty, pos, af, g⟩) (hg : gd L σ ⟨some d, op, ty, pos, af, g⟩ = some true) (hd : Nat.ble (d + 1) n = true)
    (hr : ∀ a, Fr n σ a → ∀ w', S w' → (execOp a.eval ⟨some d, op, ty, pos, af, g⟩).run P w' = .ok (.value v) w') (h : HL P L S Q rest n ((d, v) :: σ) w) : HL P L S Q ((i, true) :: rest) n σ w := by
  unfold HL at *
  intro a ha
  rw [nthO_eq] at ho
  exact ⟨_, v, ho, .inl ⟨gd_wanted ha hg, fun w' hw' => hr a ha w' hw'⟩, h _ (ha.put (d := some d) hd)⟩
theorem HL.pure {v : Value} (ho : nthO L i = some ⟨some d, op, ty, pos, af, g⟩) (hg : gd L σ ⟨some d, op, ty, pos, af, g⟩ = some true) (hd : Nat.ble (d + 1) n = true)
    (hv : pureOp σ op = some v) (h : HL P L S Q rest n ((d, v) :: σ) w) : HL P L S Q ((i, true) :: rest) n σ w :=
  HL.run ho hg hd (fun a ha _ _ => pureOp_run ha hv) h
theorem HL.pass (ho : nthO L i = some ⟨some d, op, ty, pos, af, g⟩) (hg : gd L σ ⟨some d, op, ty, pos, af, g⟩ = some false) (hd : Nat.ble (d + 1) n = true)
    (h : HL P L S Q rest n ((d, undef) :: σ) w) : HL P L S Q ((i, true) :: rest) n σ w := by
  unfold HL at *
  intro a ha
  rw [nthO_eq] at ho
  exact ⟨_, undef, ho, .inr ⟨gd_wanted ha hg, rfl⟩, h _ (ha.put (d := some d) hd)⟩
theorem HL.look {s : Nat} {b : Bool} {ord : List (Nat × Bool)} (hs : fnd σ s = some (.bool b)) (ht : b = true → HL P L S Q ord n ((s, .bool true) :: σ) w) (hf : b = false → HL P L S Q ord n ((s, .bool false) :: σ) w) : HL P L S Q ord n σ w := by
  unfold HL at *
  intro a ha
  cases b with
  | true => exact ht rfl a (ha.set hs)
  | false => exact hf rfl a (ha.set hs)
theorem HL.lookG {o : Oper} {j s : Nat} {want b t : Bool} (ho : nthO L i = some o) (hgd : o.guard = some (j, want)) (hj : gslot L j = some s) (hs : fnd σ s = some (.bool b)) (ht : b = true → HL P L S Q ((i, t) :: rest) n ((s, .bool true) :: σ) w)
    (hf : b = false → HL P L S Q ((i, t) :: rest) n ((s, .bool false) :: σ) w) : HL P L S Q ((i, t) :: rest) n σ w := HL.look hs ht hf
/-- an operation that changes memory, by the rule for its like where the order is fixed -/
theorem HL.mut {o : Oper} (ho : nthO L i = some o) (h : WL P L (AfterOp P L S Q rest) [o] n σ w) : HL P L S Q ((i, false) :: rest) n σ w := by
  unfold HL; unfold WL at h
  intro a ha
  rw [nthO_eq] at ho
  have h1 := h a ha
  refine ⟨o, ho, ?_⟩
  have h2 : wpList P L.toArray (AfterOp P L S Q rest) [o] a w := h1
  simp only [wpList] at h2
  split
  · rename_i hw
    rw [if_pos hw] at h2
    rcases h2 with h2 | ⟨_, hlets⟩
    · unfold Oper.wp at *
      generalize (execOp a.eval o).run P w = r at *
      cases r with
      | ok k w' =>
        cases k <;> simp only [Oper.upon] at h2 ⊢ <;> first
          | exact h2.2
          | exact h2
          | (refine Calls.mono h2 (fun e w'' he => ?_); cases e <;> first | exact he.2 | (exact absurd he.1 (by simp)) | (obtain ⟨_, _, hx⟩ := he; exact absurd hx.1 (by simp)))
          | exact Rows.mono h2 (fun _ _ he => he.2)
      | halt x w' => cases x <;> simp only [Oper.upon] at h2 ⊢ <;> first | exact h2 | (exact absurd h2.1 (by simp))
    · obtain ⟨_, _, hx⟩ := hlets
      exact absurd hx.1 (by simp)
  · rename_i hw
    rw [if_neg hw] at h2
    exact h2.2
theorem EX.mut (hS : S w) (h : HL P L S Q rest n σ w) : EX (AfterOp P L S Q rest) .normal n σ w := by
  unfold EX; unfold HL at h; exact fun a ha => ⟨rfl, hS, h a ha⟩
end
section
variable {P : Program} {Q : Exit → Act → World → Prop} {n : Nat} {σ : Sg} {w wc : World} {L : List Oper} {S : World → Prop} {rest : List (Nat × Bool)} {i d : Nat} {op : Op} {ty : TypeId} {pos : String} {af : Array Edge} {g : Option (Nat × Bool)} {t yt e : TypeId} {x y : Operand} {b o : Nat} {cells : List Value}
theorem HL.add {t yt : TypeId} {x y : Operand} {a b : Int} (ho : nthO L i = some ⟨some d, .binOp .add t x y yt, ty, pos, af, g⟩) (hg : gd L σ ⟨some d, .binOp .add t x y yt, ty, pos, af, g⟩ = some true) (hd : Nat.ble (d + 1) n = true)
    (hx : ev σ x = some (.int .i64 a)) (hy : ev σ y = some (.int .i64 b)) (h0 : -9223372036854775808 ≤ a + b) (h1 : a + b < 9223372036854775808) (h : HL P L S Q rest n ((d, .int .i64 (a + b)) :: σ) wc) : HL P L S Q ((i, true) :: rest) n σ wc := by
  refine HL.pure ho hg hd (v := .int .i64 (a + b)) ?_ h
  simp only [pureOp, hx, hy, pbin]
  rw [wrap_in h0 h1]
theorem HL.sub' {t yt : TypeId} {x y : Operand} {a b : Int} (ho : nthO L i = some ⟨some d, .binOp .sub t x y yt, ty, pos, af, g⟩) (hg : gd L σ ⟨some d, .binOp .sub t x y yt, ty, pos, af, g⟩ = some true) (hd : Nat.ble (d + 1) n = true)
    (hx : ev σ x = some (.int .i64 a)) (hy : ev σ y = some (.int .i64 b)) (h0 : -9223372036854775808 ≤ a - b) (h1 : a - b < 9223372036854775808) (h : HL P L S Q rest n ((d, .int .i64 (a - b)) :: σ) wc) : HL P L S Q ((i, true) :: rest) n σ wc := by
  refine HL.pure ho hg hd (v := .int .i64 (a - b)) ?_ h
  simp only [pureOp, hx, hy, pbin]
  rw [wrap_in h0 h1]
theorem HL.mul {t yt : TypeId} {x y : Operand} {a b : Int} (ho : nthO L i = some ⟨some d, .binOp .mul t x y yt, ty, pos, af, g⟩) (hg : gd L σ ⟨some d, .binOp .mul t x y yt, ty, pos, af, g⟩ = some true) (hd : Nat.ble (d + 1) n = true)
    (hx : ev σ x = some (.int .i64 a)) (hy : ev σ y = some (.int .i64 b)) (h0 : -9223372036854775808 ≤ a * b) (h1 : a * b < 9223372036854775808) (h : HL P L S Q rest n ((d, .int .i64 (a * b)) :: σ) wc) : HL P L S Q ((i, true) :: rest) n σ wc := by
  refine HL.pure ho hg hd (v := .int .i64 (a * b)) ?_ h
  simp only [pureOp, hx, hy, pbin]
  rw [wrap_in h0 h1]
theorem HL.lenS {t e : TypeId} {x : Operand} {ao : Option Addr} {k cap : Nat} (ho : nthO L i = some ⟨some d, .call ⟨.builtin .len, #[x], #[t]⟩, ty, pos, af, g⟩) (hg : gd L σ ⟨some d, .call ⟨.builtin .len, #[x], #[t]⟩, ty, pos, af, g⟩ = some true) (hd : Nat.ble (d + 1) n = true)
    (hx : ev σ x = some (.slice ao k cap)) [hs : IsS P t e] (h : HL P L S Q rest n ((d, .int .i64 (k : Int)) :: σ) wc) : HL P L S Q ((i, true) :: rest) n σ wc := by
  refine HL.run ho hg hd (fun a ha _ _ => ?_) h
  simp [execOp, resolve, invoke, builtin, ha.ev hx, Builtin.len_, run_underlying hs.ok, goInt]
theorem HL.makeFunc {fn : Fn} {fs cs : List Operand} {fv cv : List Value} (ho : nthO L i = some ⟨some d, .makeFunc fn fs.toArray cs.toArray, ty, pos, af, g⟩) (hg : gd L σ ⟨some d, .makeFunc fn fs.toArray cs.toArray, ty, pos, af, g⟩ = some true) (hd : Nat.ble (d + 1) n = true)
    (hf : evs σ fs = some fv) (hc : evs σ cs = some cv) (h : HL P L S Q rest n ((d, .func fn fv.toArray cv.toArray) :: σ) wc) : HL P L S Q ((i, true) :: rest) n σ wc := by
  refine HL.run ho hg hd (fun a ha _ _ => ?_) h
  have e1 := evs_eq ha fs fv hf
  have e2 := evs_eq ha cs cv hc
  simp [execOp, Instr.makeFunc, e1, e2]
theorem HL.fa {f k : Nat} (ho : nthO L i = some ⟨some d, .fieldAddr t x f, ty, pos, af, g⟩) (hg : gd L σ ⟨some d, .fieldAddr t x f, ty, pos, af, g⟩ = some true) (hd : Nat.ble (d + 1) n = true) (hx : ev σ x = some (.pointer (some ⟨b, o, none⟩))) [hf : IsFd P t f k]
    (h : HL P L S Q rest n ((d, .pointer (some ⟨b, o + k, none⟩)) :: σ) wc) : HL P L S Q ((i, true) :: rest) n σ wc := by
  refine HL.run ho hg hd (fun a ha w' _ => ?_) h
  simp [execOp, ha.ev hx, run_fa (P := P) (t := t) (f := f) (k := k)]
theorem HL.ld {v : Value} (hSE : ∀ w1, S w1 → Ext w w1) (ho : nthO L i = some ⟨some d, .load t x, ty, pos, af, g⟩) (hg : gd L σ ⟨some d, .load t x, ty, pos, af, g⟩ = some true) (hd : Nat.ble (d + 1) n = true) (hx : ev σ x = some (.pointer (some ⟨b, o, none⟩))) [hc : IsC P t 1 false] (hb : Blk w b e cells) (hv : nthV cells o = some v)
    (h : HL P L S Q rest n ((d, v) :: σ) wc) : HL P L S Q ((i, true) :: rest) n σ wc := by
  refine HL.run ho hg hd (fun a ha w' hsw => ?_) h
  have hE := hSE _ hsw
  simp [execOp, ha.ev hx, run_ld (P := P) (t := t) w' (hb.ext hE) hv]
theorem HL.ldA {vs : List Value} {k : Nat} (hSE : ∀ w1, S w1 → Ext w w1) (ho : nthO L i = some ⟨some d, .load t x, ty, pos, af, g⟩) (hg : gd L σ ⟨some d, .load t x, ty, pos, af, g⟩ = some true) (hd : Nat.ble (d + 1) n = true) (hx : ev σ x = some (.pointer (some ⟨b, o, none⟩))) [hc : IsC P t k true] (hb : Blk w b e cells) (hv : segL cells o k = some vs)
    (h : HL P L S Q rest n ((d, .agg vs.toArray) :: σ) wc) : HL P L S Q ((i, true) :: rest) n σ wc := by
  refine HL.run ho hg hd (fun a ha w' hsw => ?_) h
  have hE := hSE _ hsw
  simp [execOp, ha.ev hx, run_ldA (P := P) (t := t) w' (hb.ext hE) hv]
theorem HL.nck {p : Addr} (ho : nthO L i = some ⟨some d, .nilCheck x, ty, pos, af, g⟩) (hg : gd L σ ⟨some d, .nilCheck x, ty, pos, af, g⟩ = some true) (hd : Nat.ble (d + 1) n = true) (hx : ev σ x = some (.pointer (some p)))
    (h : HL P L S Q rest n ((d, .pointer (some p)) :: σ) wc) : HL P L S Q ((i, true) :: rest) n σ wc := by
  refine HL.run ho hg hd (fun a ha _ _ => ?_) h
  simp [execOp, ha.ev hx]
theorem HL.conv {a : Int} {k k' : IntKind} (ho : nthO L i = some ⟨some d, .convert t yt x, ty, pos, af, g⟩) (hg : gd L σ ⟨some d, .convert t yt x, ty, pos, af, g⟩ = some true) (hd : Nat.ble (d + 1) n = true) (hx : ev σ x = some (.int k a)) [h1 : IsI P t k] [h2 : IsI P yt k']
    (h : HL P L S Q rest n ((d, .int k' (k'.wrap a)) :: σ) wc) : HL P L S Q ((i, true) :: rest) n σ wc := by
  refine HL.run ho hg hd (fun a0 ha0 w1 _ => ?_) h
  simp [execOp, ha0.ev hx, convert, run_underlying h1.ok, run_underlying h2.ok, Conv.intToInt]
theorem HL.idx {α : Type} [Rep α] {t e : TypeId} {x ix : Operand} {b off : Nat} {k cap : Nat} {ii : Int} {kd : IntKind} (ho : nthO L i = some ⟨some d, .indexAddr t x ix, ty, pos, af, g⟩) (hg : gd L σ ⟨some d, .indexAddr t x ix, ty, pos, af, g⟩ = some true) (hd : Nat.ble (d + 1) n = true)
    (hx : ev σ x = some (.slice (some ⟨b, off, none⟩) k cap)) (hi : ev σ ix = some (.int kd ii)) [hs : IsS P t e] [ht : IsT P e α] (h0 : 0 ≤ ii) (h1 : ii < k)
    (h : HL P L S Q rest n ((d, .pointer (some ⟨b, off + ii.toNat * sz α, none⟩)) :: σ) wc) : HL P L S Q ((i, true) :: rest) n σ wc := by
  refine HL.run ho hg hd (fun a ha _ _ => ?_) h
  simp [execOp, ha.ev hx, ha.ev hi, Instr.indexAt, asIntOf, run_underlying hs.ok, h0, h1, run_sizeOf (α := α), WideShapes.add_plain]
theorem HL.load {α : Type} [Rep α] {t : TypeId} {x : Operand} {b off : Nat} {F : Nat → Prop} {cs : List Value} {y : α} (hSE : ∀ w1, S w1 → Ext w w1) (ho : nthO L i = some ⟨some d, .load t x, ty, pos, af, g⟩) (hg : gd L σ ⟨some d, .load t x, ty, pos, af, g⟩ = some true) (hd : Nat.ble (d + 1) n = true)
    (hx : ev σ x = some (.pointer (some ⟨b, off, none⟩))) [ht : IsT P t α] (hb : b < w.heap.size) (hF : ∀ b, F b → b < w.heap.size) (hc : Cells w b off cs) (hr : rd w F cs y)
    (h : HL P L S Q rest n ((d, vOf α cs) :: σ) wc) : HL P L S Q ((i, true) :: rest) n σ wc := by
  refine HL.run ho hg hd (fun a ha w' hsw => ?_) h
  have hw' := hSE _ hsw
  have hc' : Cells w' b off cs := hc.mono (hw'.block b hb)
  have hr' : rd w' F cs y := Rep.mono hr (fun k hk => hw'.block k (hF k hk)) fun _ h => h
  simp [execOp, ha.ev hx, Instr.loadAt, Instr.sureAddr, run_loadAt hc' hr']
theorem HL.build {parts : List (Nat × Operand)} {vs : List Value} {places : List (Nat × Nat)} {zs out : List Value} (ho : nthO L i = some ⟨some d, .build t parts.toArray, ty, pos, af, g⟩) (hg : gd L σ ⟨some d, .build t parts.toArray, ty, pos, af, g⟩ = some true) (hd : Nat.ble (d + 1) n = true)
    (hv : evs σ (sndL parts) = some vs) [hz : IsZC P t zs] [hp : IsBd P t places] (hf : fillL places zs ((parts.map (·.1)).zip vs) = some out)
    (h : HL P L S Q rest n ((d, .agg out.toArray) :: σ) wc) : HL P L S Q ((i, true) :: rest) n σ wc :=
  HL.run ho hg hd (fun a ha w1 _ => run_buildA ha hv hf) h
/-- append(x, y): y's own row of one, and the append -/
theorem HL.app1 {α : Type} [Rep α] {x0 : α} {bytes : Nat} {F : Nat → Prop} {i1 d1 : Nat} {ty1 : TypeId} {pos1 : String} {af1 : Array Edge} {g1 : Option (Nat × Bool)} {v u : Value} {xs : List α} {yv : α} {B : Nat}
    (ho1 : nthO L i1 = some ⟨some d1, .buildSlice t 1 [(0, y)].toArray, ty1, pos1, af1, g1⟩) (ho : nthO L i = some ⟨some d, .call ⟨.builtin .append, #[x, .tmp d1], #[t, t]⟩, ty, pos, af, g⟩)
    (hg1 : gd L σ ⟨some d1, .buildSlice t 1 [(0, y)].toArray, ty1, pos1, af1, g1⟩ = some true) (hd1 : Nat.ble (d1 + 1) n = true)
    (hg : ∀ u, gd L ((d1, .slice u 1 1) :: σ) ⟨some d, .call ⟨.builtin .append, #[x, .tmp d1], #[t, t]⟩, ty, pos, af, g⟩ = some true) (hd : Nat.ble (d + 1) n = true)
    (hy : ev σ y = some u) (hx : ∀ u, ev ((d1, .slice u 1 1) :: σ) x = some v) [hs : IsS P t e] [ht : IsT P e α] [hz : IsZ P e x0 bytes] (hown : Own wc B e F v xs) (hu : Rd wc F u yv) (hB : B ≤ wc.heap.size) (hF : ∀ b, F b → b < wc.heap.size)
    (hsz : sz α ≤ 16777216) (hm : xs.length + 1 ≤ maxLen) (hb : (xs.length + 1) * bytes ≤ 140737488355328) (hS : ∀ w', wc.grownBy w' v.ownBlock → S w')
    (h : ∀ v' w' p, Own w' B e F v' (xs ++ [yv]) → wc.grownBy w' v.ownBlock → (∀ g, v'.ownBlock = some g → v.ownBlock = some g ∨ wc.heap.size ≤ g) → HL P L S Q rest n ((d, v') :: (d1, .slice p 1 1) :: σ) w') :
    HL P L S Q ((i1, false) :: (i, false) :: rest) n σ wc := by
  refine HL.mut ho1 ?_
  refine WL.lit (vs := [u]) (ys := [yv]) hg1 hd1 rfl (by simp [sndL, evs, hy]) rfl ⟨hu, trivial⟩ (by simpa using hsz) hF (fun w1 ho1 hgr1 => ?_)
  have hsize : wc.heap.size ≤ w1.heap.size := hgr1.size
  have hkeep : Own w1 B e F v xs := hown.kept hgr1 (fun _ _ h => by cases h) fun b hb => ⟨hF b hb, fun h => by cases h⟩
  have g2 : wc.grownBy w1 v.ownBlock := ⟨hgr1.os, hgr1.tape, hgr1.output, hgr1.size, fun k hk _ => hgr1.block k hk (fun h => by cases h)⟩
  refine WL.nil (EX.mut (hS _ g2) ?_)
  refine HL.mut ho ?_
  refine WL.app (ys := [yv]) (hg _) hd (hx _) fnd_cons_eq hkeep ho1.src (Nat.le_trans hB hsize) (fun b hb => Nat.lt_of_lt_of_le (hF b hb) hsize) (by simpa using hm) (by simpa using hb) (fun v' w' ho' hgr hnb => ?_)
  have g3 : wc.grownBy w' v.ownBlock := ⟨hgr.os.trans hgr1.os, hgr.tape.trans hgr1.tape, hgr.output.trans hgr1.output, Nat.le_trans hsize hgr.size, fun k hk hne => (hgr.block k (Nat.lt_of_lt_of_le hk hsize) hne).trans (hgr1.block k hk (fun h => by cases h))⟩
  exact WL.nil (EX.mut (hS _ g3) (h v' w' _ ho' g3 (fun g hg => (hnb g hg).imp id (fun h => Nat.le_trans hsize h))))

end
end Go.Proofs.YtikigaeihdmcaaaGreatDoor

/-
  Drawn regions that change memory: elements read and written. Over any program.
-/
set_option linter.unusedVariables false
set_option linter.unusedSimpArgs false
namespace Go.Proofs.YtikigaeihdmcaaaGreatDoor
open Go.RowKit
section
variable {P : Program} {Q : Exit → Act → World → Prop} {n : Nat} {σ : Sg} {w wc : World} {L : List Oper} {S : World → Prop} {rest : List (Nat × Bool)} {i j d d' : Nat} {ty : TypeId} {pos : String} {af : Array Edge} {g : Option (Nat × Bool)} {ty' : TypeId} {pos' : String} {af' : Array Edge} {g' : Option (Nat × Bool)} {t e : TypeId} {x ix y : Operand}
variable {α : Type} [Rep α] {F : Nat → Prop}
/-- x[k], read, of what stands since the base world w -/
theorem HL.elemN {ao : Option Addr} {cap : Nat} {xs : List α} {k : Nat} {kd : IntKind} (hSE : ∀ w1, S w1 → Ext w w1)
    (ho1 : nthO L i = some ⟨some d, .indexAddr t x ix, ty, pos, af, g⟩) (ho2 : nthO L j = some ⟨some d', .load e (.tmp d), ty', pos', af', g'⟩)
    (hg : gd L σ ⟨some d, .indexAddr t x ix, ty, pos, af, g⟩ = some true) (hd : Nat.ble (d + 1) n = true) (hd' : Nat.ble (d' + 1) n = true)
    (hx : ev σ x = some (.slice ao xs.length cap)) (hi : ev σ ix = some (.int kd (k : Int))) [hs : IsS P t e] [ht : IsT P e α] (hF : ∀ b, F b → b < w.heap.size) (hsl : Sl w F ao cap xs) (h1 : k < xs.length)
    (hg' : ∀ p, gd L ((d, .pointer p) :: σ) ⟨some d', .load e (.tmp d), ty', pos', af', g'⟩ = some true)
    (h : ∀ u p, Rd w F u xs[k] → HL P L S Q rest n ((d', u) :: (d, .pointer p) :: σ) wc) :
    HL P L S Q ((i, true) :: (j, true) :: rest) n σ wc := by
  obtain ⟨b, off, rfl, hFb, es, hc, hr⟩ := hsl.el k h1
  refine HL.idx (α := α) ho1 hg hd hx hi (by omega) (by omega) ?_
  refine HL.load (α := α) hSE ho2 (hg' _) hd' fnd_cons_eq (hF b hFb) hF (by simpa using hc) hr ?_
  exact h _ _ ⟨es, rfl, hr⟩
/-- x[k], read, of blocks that nobody changes -/
theorem HL.elemK {ao : Option Addr} {cap : Nat} {xs : List α} {k : Nat} {kd : IntKind} (hK : ∀ w1, S w1 → ∀ b, F b → w1.heap[b]? = w.heap[b]?)
    (ho1 : nthO L i = some ⟨some d, .indexAddr t x ix, ty, pos, af, g⟩) (ho2 : nthO L j = some ⟨some d', .load e (.tmp d), ty', pos', af', g'⟩)
    (hg : gd L σ ⟨some d, .indexAddr t x ix, ty, pos, af, g⟩ = some true) (hd : Nat.ble (d + 1) n = true) (hd' : Nat.ble (d' + 1) n = true)
    (hx : ev σ x = some (.slice ao xs.length cap)) (hi : ev σ ix = some (.int kd (k : Int))) [hs : IsS P t e] [ht : IsT P e α] (hsl : Sl w F ao cap xs) (h1 : k < xs.length)
    (hg' : ∀ p, gd L ((d, .pointer p) :: σ) ⟨some d', .load e (.tmp d), ty', pos', af', g'⟩ = some true)
    (h : ∀ u p, Rd w F u xs[k] → HL P L S Q rest n ((d', u) :: (d, .pointer p) :: σ) wc) :
    HL P L S Q ((i, true) :: (j, true) :: rest) n σ wc := by
  obtain ⟨b, off, rfl, hFb, es, hc, hr⟩ := hsl.el k h1
  refine HL.idx (α := α) ho1 hg hd hx hi (by omega) (by omega) ?_
  refine HL.run ho2 (hg' _) hd' (v := vOf α es) (fun a ha w' hw' => ?_) (h _ _ ⟨es, rfl, hr⟩)
  have hc' : Cells w' b (off + k * sz α) es := hc.mono (hK w' hw' b hFb)
  have hr' : rd w' F es xs[k] := Rep.mono hr (hK w' hw') fun _ h => h
  have e1 := ha.ev (x := .tmp d) fnd_cons_eq
  simp only [Int.toNat_natCast] at e1
  simp [execOp, e1, Instr.loadAt, Instr.sureAddr, run_loadAt hc' hr']
/-- x[:k] -/
theorem HL.cutHi {ao : Option Addr} {len cap : Nat} {i0 : Int} {kd : IntKind} (k : Nat) (hik : i0 = (k : Int)) (ho : nthO L i = some ⟨some d, .slice t x none (some y) none, ty, pos, af, g⟩) (hg : gd L σ ⟨some d, .slice t x none (some y) none, ty, pos, af, g⟩ = some true) (hd : Nat.ble (d + 1) n = true)
    (hx : ev σ x = some (.slice ao len cap)) (hy : ev σ y = some (.int kd i0)) [hs : IsS P t e] [ht : IsT P e α] (hk : k ≤ cap)
    (h : HL P L S Q rest n ((d, .slice ao k cap) :: σ) wc) : HL P L S Q ((i, true) :: rest) n σ wc := by
  subst hik
  refine HL.run ho hg hd (fun a ha w1 _ => ?_) h
  have := run_cut (P := P) (t := t) (e := e) (α := α) (ao := ao) (len := len) (cap := cap) (lo := 0) (hi := k) w1 (by omega) hk none (some (.int kd (k : Int))) (.inl ⟨rfl, rfl⟩) (.inr ⟨kd, rfl⟩)
  simp [execOp, ha.ev hx, ha.ev hy, this, Addr.add_zero']
/-- x[k:] -/
theorem HL.cutLo {ao : Option Addr} {len cap : Nat} {i0 : Int} {kd : IntKind} (k : Nat) (hik : i0 = (k : Int)) (ho : nthO L i = some ⟨some d, .slice t x (some y) none none, ty, pos, af, g⟩) (hg : gd L σ ⟨some d, .slice t x (some y) none none, ty, pos, af, g⟩ = some true) (hd : Nat.ble (d + 1) n = true)
    (hx : ev σ x = some (.slice ao len cap)) (hy : ev σ y = some (.int kd i0)) [hs : IsS P t e] [ht : IsT P e α] (hk : k ≤ len) (hc : len ≤ cap)
    (h : HL P L S Q rest n ((d, .slice (if cap = k then ao else ao.map (·.add (k * sz α))) (len - k) (cap - k)) :: σ) wc) : HL P L S Q ((i, true) :: rest) n σ wc := by
  subst hik
  refine HL.run ho hg hd (fun a ha w1 _ => ?_) h
  have := run_cut (P := P) (t := t) (e := e) (α := α) (ao := ao) (len := len) (cap := cap) (lo := k) (hi := len) w1 hk hc (some (.int kd (k : Int))) none (.inr ⟨kd, rfl⟩) (.inl ⟨rfl, rfl⟩)
  simp [execOp, ha.ev hx, ha.ev hy, this]
end
end Go.Proofs.YtikigaeihdmcaaaGreatDoor

/-
  The types and functions of the program, as our walks ask for them.
-/
set_option linter.unusedVariables false
namespace Go.Proofs.YtikigaeihdmcaaaGreatDoor

theorem mixed : Tryz.prog.follows .mixedOrders = true := by kernel_rfl
instance : IsT Tryz.prog 3 Int := IsT.of (by kernel_rfl) Tryz.underlying3 rfl
instance : IsZ Tryz.prog 3 (0 : Int) 8 := IsZ.of (z := .int .i64 0) (by kernel_rfl) (fun _ _ => rfl)
instance : IsC Tryz.prog 3 1 false := IsC.of (by kernel_rfl) Tryz.underlying3 rfl
instance : IsZC Tryz.prog 3 [.int .i64 0] := IsZC.of (z := .int .i64 0) (by kernel_rfl) rfl
instance : IsT Tryz.prog 4 Bool := IsT.of (by kernel_rfl) Tryz.underlying4 rfl
instance : IsZ Tryz.prog 4 false 1 := IsZ.of (z := .bool false) (by kernel_rfl) (fun _ _ => rfl)
instance : IsC Tryz.prog 4 1 false := IsC.of (by kernel_rfl) Tryz.underlying4 rfl
instance : IsZC Tryz.prog 4 [.bool false] := IsZC.of (z := .bool false) (by kernel_rfl) rfl
instance : IsT Tryz.prog 9 ByteArray := IsT.of (by kernel_rfl) Tryz.underlying9 rfl
instance : IsC Tryz.prog 9 1 false := IsC.of (by kernel_rfl) Tryz.underlying9 rfl
instance : IsZC Tryz.prog 9 [.string ⟨#[]⟩] := IsZC.of (z := .string ⟨#[]⟩) (by kernel_rfl) rfl
instance : IsT Tryz.prog 35 Int := IsT.of (by kernel_rfl) Tryz.underlying35 rfl
instance : IsZ Tryz.prog 35 (0 : Int) 8 := IsZ.of (z := .int .i64 0) (by kernel_rfl) (fun _ _ => rfl)
instance : IsC Tryz.prog 35 1 false := IsC.of (by kernel_rfl) Tryz.underlying35 rfl
instance : IsZC Tryz.prog 35 [.int .i64 0] := IsZC.of (z := .int .i64 0) (by kernel_rfl) rfl
instance : IsB Tryz.prog 4 := ⟨Tryz.underlying4⟩
instance : IsI Tryz.prog 3 .i64 := ⟨Tryz.underlying3⟩
instance : IsI Tryz.prog 5 .u8 := ⟨Tryz.underlying5⟩
instance : IsT Tryz.prog 49 (List Int) := IsT.of (by kernel_rfl) Tryz.underlying49 rfl
instance : IsS Tryz.prog 49 3 := ⟨Tryz.underlying49⟩
instance : IsZ Tryz.prog 49 ([] : List Int) 24 := IsZ.of (z := .slice none 0 0) (by kernel_rfl) (fun _ _ => ⟨none, 0, rfl, by simp, by simp [maxLen], fun _ => rfl, fun i hi => absurd hi (by simp)⟩)
instance : IsC Tryz.prog 49 1 false := IsC.of (by kernel_rfl) Tryz.underlying49 rfl
instance : IsZC Tryz.prog 49 [.slice none 0 0] := IsZC.of (z := .slice none 0 0) (by kernel_rfl) rfl
instance : IsT Tryz.prog 34 (List ByteArray) := IsT.of (by kernel_rfl) Tryz.underlying34 rfl
instance : IsS Tryz.prog 34 9 := ⟨Tryz.underlying34⟩
instance : IsZ Tryz.prog 34 ([] : List ByteArray) 24 := IsZ.of (z := .slice none 0 0) (by kernel_rfl) (fun _ _ => ⟨none, 0, rfl, by simp, by simp [maxLen], fun _ => rfl, fun i hi => absurd hi (by simp)⟩)
instance : IsC Tryz.prog 34 1 false := IsC.of (by kernel_rfl) Tryz.underlying34 rfl
instance : IsZC Tryz.prog 34 [.slice none 0 0] := IsZC.of (z := .slice none 0 0) (by kernel_rfl) rfl
instance : IsT Tryz.prog 23 (Int × Int × Int × Int × Int × Int × Int) := IsT.of (by kernel_rfl) Tryz.underlying23 rfl
instance : IsC Tryz.prog 23 7 true := IsC.of (by kernel_rfl) Tryz.underlying23 rfl
instance : IsFd Tryz.prog 23 0 0 := IsFd.of (by kernel_rfl)
instance : IsFd Tryz.prog 23 1 1 := IsFd.of (by kernel_rfl)
instance : IsFd Tryz.prog 23 2 2 := IsFd.of (by kernel_rfl)
instance : IsFd Tryz.prog 23 3 3 := IsFd.of (by kernel_rfl)
instance : IsFd Tryz.prog 23 4 4 := IsFd.of (by kernel_rfl)
instance : IsFd Tryz.prog 23 5 5 := IsFd.of (by kernel_rfl)
instance : IsFd Tryz.prog 23 6 6 := IsFd.of (by kernel_rfl)
instance : IsZC Tryz.prog 23 [.int .i64 0, .int .i64 0, .int .i64 0, .int .i64 0, .int .i64 0, .int .i64 0, .int .i64 0] := IsZC.of (z := .agg #[.int .i64 0, .int .i64 0, .int .i64 0, .int .i64 0, .int .i64 0, .int .i64 0, .int .i64 0]) (by kernel_rfl) rfl
instance : IsBd Tryz.prog 23 [(0, 1), (1, 1), (2, 1), (3, 1), (4, 1), (5, 1), (6, 1)] := IsBd.of (by kernel_rfl)
instance : IsZ Tryz.prog 23 ((0, 0, 0, 0, 0, 0, 0) : (Int × Int × Int × Int × Int × Int × Int)) 56 := IsZ.of (z := .agg #[.int .i64 0, .int .i64 0, .int .i64 0, .int .i64 0, .int .i64 0, .int .i64 0, .int .i64 0]) (by kernel_rfl) (fun _ _ => rd_mk (rd_mkInt _ _ _) (rd_mk (rd_mkInt _ _ _) (rd_mk (rd_mkInt _ _ _) (rd_mk (rd_mkInt _ _ _) (rd_mk (rd_mkInt _ _ _) (rd_mk (rd_mkInt _ _ _) (rd_mkInt _ _ _)))))))
instance : IsT Tryz.prog 25 (Int × Int × Int × Int) := IsT.of (by kernel_rfl) Tryz.underlying25 rfl
instance : IsC Tryz.prog 25 4 true := IsC.of (by kernel_rfl) Tryz.underlying25 rfl
instance : IsFd Tryz.prog 25 0 0 := IsFd.of (by kernel_rfl)
instance : IsFd Tryz.prog 25 1 1 := IsFd.of (by kernel_rfl)
instance : IsFd Tryz.prog 25 2 2 := IsFd.of (by kernel_rfl)
instance : IsFd Tryz.prog 25 3 3 := IsFd.of (by kernel_rfl)
instance : IsZC Tryz.prog 25 [.int .i64 0, .int .i64 0, .int .i64 0, .int .i64 0] := IsZC.of (z := .agg #[.int .i64 0, .int .i64 0, .int .i64 0, .int .i64 0]) (by kernel_rfl) rfl
instance : IsBd Tryz.prog 25 [(0, 1), (1, 1), (2, 1), (3, 1)] := IsBd.of (by kernel_rfl)
instance : IsZ Tryz.prog 25 ((0, 0, 0, 0) : (Int × Int × Int × Int)) 32 := IsZ.of (z := .agg #[.int .i64 0, .int .i64 0, .int .i64 0, .int .i64 0]) (by kernel_rfl) (fun _ _ => rd_mk (rd_mkInt _ _ _) (rd_mk (rd_mkInt _ _ _) (rd_mk (rd_mkInt _ _ _) (rd_mkInt _ _ _))))
instance : IsF Tryz.prog 103 := ⟨_, Tryz.func103, rfl, by decide⟩
instance : IsF Tryz.prog 105 := ⟨_, Tryz.func105, rfl, by decide⟩
instance : IsF Tryz.prog 104 := ⟨_, Tryz.func104, rfl, by decide⟩
instance : IsF Tryz.prog 119 := ⟨_, Tryz.func119, rfl, by decide⟩
instance : IsF Tryz.prog 120 := ⟨_, Tryz.func120, rfl, by decide⟩
instance : IsF Tryz.prog 108 := ⟨_, Tryz.func108, rfl, by decide⟩
instance : IsF Tryz.prog 85 := ⟨_, Tryz.func85, rfl, by decide⟩
instance : IsF Tryz.prog 84 := ⟨_, Tryz.func84, rfl, by decide⟩
instance : IsF Tryz.prog 107 := ⟨_, Tryz.func107, rfl, by decide⟩
instance : IsF Tryz.prog 121 := ⟨_, Tryz.func121, rfl, by decide⟩
instance : IsF Tryz.prog 128 := ⟨_, Tryz.func128, rfl, by decide⟩
instance : IsF Tryz.prog 130 := ⟨_, Tryz.func130, rfl, by decide⟩
instance : IsF Tryz.prog 109 := ⟨_, Tryz.func109, rfl, by decide⟩
instance : IsF Tryz.prog 135 := ⟨_, Tryz.func135, rfl, by decide⟩
instance : IsF Tryz.prog 129 := ⟨_, Tryz.func129, rfl, by decide⟩
instance : IsF Tryz.prog 127 := ⟨_, Tryz.func127, rfl, by decide⟩
instance : IsF Tryz.prog 131 := ⟨_, Tryz.func131, rfl, by decide⟩
instance : IsF Tryz.prog 86 := ⟨_, Tryz.func86, rfl, by decide⟩
instance : IsF Tryz.prog 56 := ⟨_, Tryz.func56, rfl, by decide⟩
instance : IsF Tryz.prog 55 := ⟨_, Tryz.func55, rfl, by decide⟩
instance : IsF Tryz.prog 39 := ⟨_, Tryz.func39, rfl, by decide⟩
instance : IsF Tryz.prog 94 := ⟨_, Tryz.func94, rfl, by decide⟩
instance : IsF Tryz.prog 80 := ⟨_, Tryz.func80, rfl, by decide⟩
instance : IsF Tryz.prog 79 := ⟨_, Tryz.func79, rfl, by decide⟩
instance : IsF Tryz.prog 93 := ⟨_, Tryz.func93, rfl, by decide⟩
instance : IsF Tryz.prog 122 := ⟨_, Tryz.func122, rfl, by decide⟩
instance : IsF Tryz.prog 95 := ⟨_, Tryz.func95, rfl, by decide⟩
instance : IsF Tryz.prog 114 := ⟨_, Tryz.func114, rfl, by decide⟩
instance : IsF Tryz.prog 133 := ⟨_, Tryz.func133, rfl, by decide⟩
instance : IsF Tryz.prog 134 := ⟨_, Tryz.func134, rfl, by decide⟩
instance : IsF Tryz.prog 53 := ⟨_, Tryz.func53, rfl, by decide⟩
instance : IsF Tryz.prog 37 := ⟨_, Tryz.func37, rfl, by decide⟩
instance : IsF Tryz.prog 66 := ⟨_, Tryz.func66, rfl, by decide⟩
instance : IsF Tryz.prog 28 := ⟨_, Tryz.func28, rfl, by decide⟩
instance : IsF Tryz.prog 47 := ⟨_, Tryz.func47, rfl, by decide⟩
instance : IsF Tryz.prog 65 := ⟨_, Tryz.func65, rfl, by decide⟩
instance : IsF Tryz.prog 45 := ⟨_, Tryz.func45, rfl, by decide⟩
instance : IsF Tryz.prog 64 := ⟨_, Tryz.func64, rfl, by decide⟩
instance : IsF Tryz.prog 48 := ⟨_, Tryz.func48, rfl, by decide⟩
instance : IsF Tryz.prog 27 := ⟨_, Tryz.func27, rfl, by decide⟩
instance : IsF Tryz.prog 46 := ⟨_, Tryz.func46, rfl, by decide⟩
instance : IsF Tryz.prog 68 := ⟨_, Tryz.func68, rfl, by decide⟩
instance : IsF Tryz.prog 82 := ⟨_, Tryz.func82, rfl, by decide⟩
instance : IsF Tryz.prog 98 := ⟨_, Tryz.func98, rfl, by decide⟩
instance : IsF Tryz.prog 172 := ⟨_, Tryz.func172, rfl, by decide⟩
instance : IsF Tryz.prog 102 := ⟨_, Tryz.func102, rfl, by decide⟩
instance : IsF Tryz.prog 116 := ⟨_, Tryz.func116, rfl, by decide⟩
instance : IsF Tryz.prog 42 := ⟨_, Tryz.func42, rfl, by decide⟩
instance : IsF Tryz.prog 33 := ⟨_, Tryz.func33, rfl, by decide⟩
instance : IsF Tryz.prog 60 := ⟨_, Tryz.func60, rfl, by decide⟩
instance : IsF Tryz.prog 50 := ⟨_, Tryz.func50, rfl, by decide⟩
instance : IsF Tryz.prog 35 := ⟨_, Tryz.func35, rfl, by decide⟩
instance : IsF Tryz.prog 62 := ⟨_, Tryz.func62, rfl, by decide⟩
instance : IsF Tryz.prog 32 := ⟨_, Tryz.func32, rfl, by decide⟩
instance : IsF Tryz.prog 63 := ⟨_, Tryz.func63, rfl, by decide⟩
instance : IsF Tryz.prog 83 := ⟨_, Tryz.func83, rfl, by decide⟩
instance : IsF Tryz.prog 26 := ⟨_, Tryz.func26, rfl, by decide⟩
instance : IsF Tryz.prog 31 := ⟨_, Tryz.func31, rfl, by decide⟩
instance : IsF Tryz.prog 61 := ⟨_, Tryz.func61, rfl, by decide⟩
instance : IsF Tryz.prog 44 := ⟨_, Tryz.func44, rfl, by decide⟩
instance : IsF Tryz.prog 76 := ⟨_, Tryz.func76, rfl, by decide⟩
instance : IsF Tryz.prog 75 := ⟨_, Tryz.func75, rfl, by decide⟩
instance : IsF Tryz.prog 87 := ⟨_, Tryz.func87, rfl, by decide⟩
instance : IsF Tryz.prog 38 := ⟨_, Tryz.func38, rfl, by decide⟩
instance : IsF Tryz.prog 69 := ⟨_, Tryz.func69, rfl, by decide⟩
instance : IsF Tryz.prog 22 := ⟨_, Tryz.func22, rfl, by decide⟩
instance : IsF Tryz.prog 74 := ⟨_, Tryz.func74, rfl, by decide⟩
instance : IsF Tryz.prog 54 := ⟨_, Tryz.func54, rfl, by decide⟩
instance : IsF Tryz.prog 73 := ⟨_, Tryz.func73, rfl, by decide⟩
instance : IsF Tryz.prog 106 := ⟨_, Tryz.func106, rfl, by decide⟩
instance : IsF Tryz.prog 111 := ⟨_, Tryz.func111, rfl, by decide⟩
instance : IsF Tryz.prog 57 := ⟨_, Tryz.func57, rfl, by decide⟩
instance : IsF Tryz.prog 110 := ⟨_, Tryz.func110, rfl, by decide⟩
instance : IsF Tryz.prog 41 := ⟨_, Tryz.func41, rfl, by decide⟩
instance : IsF Tryz.prog 59 := ⟨_, Tryz.func59, rfl, by decide⟩
instance : IsF Tryz.prog 40 := ⟨_, Tryz.func40, rfl, by decide⟩
instance : IsF Tryz.prog 58 := ⟨_, Tryz.func58, rfl, by decide⟩
instance : IsF Tryz.prog 36 := ⟨_, Tryz.func36, rfl, by decide⟩
instance : IsF Tryz.prog 67 := ⟨_, Tryz.func67, rfl, by decide⟩
instance : IsF Tryz.prog 21 := ⟨_, Tryz.func21, rfl, by decide⟩
instance : IsF Tryz.prog 72 := ⟨_, Tryz.func72, rfl, by decide⟩
instance : IsF Tryz.prog 51 := ⟨_, Tryz.func51, rfl, by decide⟩
instance : IsF Tryz.prog 124 := ⟨_, Tryz.func124, rfl, by decide⟩
instance : IsF Tryz.prog 81 := ⟨_, Tryz.func81, rfl, by decide⟩
instance : IsF Tryz.prog 71 := ⟨_, Tryz.func71, rfl, by decide⟩
instance : IsF Tryz.prog 92 := ⟨_, Tryz.func92, rfl, by decide⟩
instance : IsF Tryz.prog 52 := ⟨_, Tryz.func52, rfl, by decide⟩
instance : IsF Tryz.prog 97 := ⟨_, Tryz.func97, rfl, by decide⟩
instance : IsF Tryz.prog 132 := ⟨_, Tryz.func132, rfl, by decide⟩
instance : IsF Tryz.prog 123 := ⟨_, Tryz.func123, rfl, by decide⟩
instance : IsF Tryz.prog 96 := ⟨_, Tryz.func96, rfl, by decide⟩
instance : IsF Tryz.prog 24 := ⟨_, Tryz.func24, rfl, by decide⟩
instance : IsF Tryz.prog 10 := ⟨_, Tryz.func10, rfl, by decide⟩
instance : IsF Tryz.prog 34 := ⟨_, Tryz.func34, rfl, by decide⟩
instance : IsF Tryz.prog 7 := ⟨_, Tryz.func7, rfl, by decide⟩
instance : IsF Tryz.prog 8 := ⟨_, Tryz.func8, rfl, by decide⟩
instance : IsF Tryz.prog 6 := ⟨_, Tryz.func6, rfl, by decide⟩
instance : IsF Tryz.prog 20 := ⟨_, Tryz.func20, rfl, by decide⟩
instance : IsF Tryz.prog 13 := ⟨_, Tryz.func13, rfl, by decide⟩
instance : IsF Tryz.prog 15 := ⟨_, Tryz.func15, rfl, by decide⟩
instance : IsF Tryz.prog 23 := ⟨_, Tryz.func23, rfl, by decide⟩
instance : IsF Tryz.prog 14 := ⟨_, Tryz.func14, rfl, by decide⟩
instance : IsF Tryz.prog 19 := ⟨_, Tryz.func19, rfl, by decide⟩
instance : IsF Tryz.prog 25 := ⟨_, Tryz.func25, rfl, by decide⟩
instance : IsF Tryz.prog 43 := ⟨_, Tryz.func43, rfl, by decide⟩
instance : IsF Tryz.prog 17 := ⟨_, Tryz.func17, rfl, by decide⟩
instance : IsF Tryz.prog 18 := ⟨_, Tryz.func18, rfl, by decide⟩
instance : IsF Tryz.prog 16 := ⟨_, Tryz.func16, rfl, by decide⟩
instance : IsF Tryz.prog 29 := ⟨_, Tryz.func29, rfl, by decide⟩
end Go.Proofs.YtikigaeihdmcaaaGreatDoor

/-
  The library's contracts of texts, laid over our own rows: strings.Cut, strings.Split, strings.Join, strings.Builder.
-/
set_option linter.unusedVariables false
set_option linter.unusedSimpArgs false
namespace Go.Proofs.YtikigaeihdmcaaaGreatDoor
open Go.RowKit Go.Shelf

def lookN : List (Nat × Nat) → Nat → Nat
  | [], _ => 0
  | (a, b) :: r, x => match Nat.beq a x with | true => b | false => lookN r x
def shF : List (Nat × Nat) :=
  (138, 62) ::
  (143, 63) ::
  (146, 26) ::
  (156, 83) ::
  (165, 103) ::
  (166, 104) ::
  (169, 105) ::
  (195, 75) ::
  (197, 76) ::
  (217, 88) ::
  (218, 77) ::
  (219, 78) ::
  (221, 44) ::
  (224, 90) ::
  (225, 89) ::
  (240, 119) ::
  (241, 120) ::
  (260, 87) ::
  (266, 112) ::
  (267, 91) ::
  (268, 61) ::
  (276, 125) ::
  (277, 126) ::
  (314, 113) ::
  []
def shT : List (Nat × Nat) :=
  (0, 0) ::
  (3, 3) ::
  (4, 4) ::
  (5, 5) ::
  (9, 9) ::
  (20, 20) ::
  (21, 21) ::
  (31, 34) ::
  (37, 73) ::
  (46, 143) ::
  (51, 175) ::
  (70, 162) ::
  (72, 164) ::
  (75, 127) ::
  (76, 166) ::
  (80, 91) ::
  (105, 120) ::
  (119, 171) ::
  (127, 193) ::
  (138, 173) ::
  (139, 174) ::
  (146, 176) ::
  (164, 149) ::
  []
def shG : List (Nat × Nat) :=
  (1, 1) ::
  (3, 5) ::
  (4, 6) ::
  []
def shR : Ren := ⟨fun x => lookN shF x, fun x => lookN shT x, fun x => lookN shG x⟩
set_option maxRecDepth 100000 in
theorem shL146 : Lays.n146 Tryz.prog shR where
  mixed := by kernel_rfl
  f138 := (Tryz.func62).trans (congrArg some (by kernel_rfl))
  f143 := (Tryz.func63).trans (congrArg some (by kernel_rfl))
  f146 := (Tryz.func26).trans (congrArg some (by kernel_rfl))
  f195 := (Tryz.func75).trans (congrArg some (by kernel_rfl))
  f197 := (Tryz.func76).trans (congrArg some (by kernel_rfl))
  f217 := (Tryz.func88).trans (congrArg some (by kernel_rfl))
  f218 := (Tryz.func77).trans (congrArg some (by kernel_rfl))
  f219 := (Tryz.func78).trans (congrArg some (by kernel_rfl))
  f221 := (Tryz.func44).trans (congrArg some (by kernel_rfl))
  f224 := (Tryz.func90).trans (congrArg some (by kernel_rfl))
  f225 := (Tryz.func89).trans (congrArg some (by kernel_rfl))
  f260 := (Tryz.func87).trans (congrArg some (by kernel_rfl))
  f266 := (Tryz.func112).trans (congrArg some (by kernel_rfl))
  f267 := (Tryz.func91).trans (congrArg some (by kernel_rfl))
  f268 := (Tryz.func61).trans (congrArg some (by kernel_rfl))
  f314 := (Tryz.func113).trans (congrArg some (by kernel_rfl))
  t0 := by kernel_rfl
  a0 := fun w => rfl
  z0 := fun w => rfl
  v0 := fun w => rfl
  t3 := Tryz.underlying3
  a3 := Tryz.isAgg3
  z3 := Tryz.sizeOf3
  v3 := Tryz.zeroValue3
  t4 := Tryz.underlying4
  a4 := Tryz.isAgg4
  z4 := Tryz.sizeOf4
  v4 := Tryz.zeroValue4
  t5 := Tryz.underlying5
  a5 := Tryz.isAgg5
  z5 := Tryz.sizeOf5
  v5 := Tryz.zeroValue5
  t9 := Tryz.underlying9
  a9 := Tryz.isAgg9
  z9 := Tryz.sizeOf9
  v9 := Tryz.zeroValue9
  t21 := Tryz.underlying21
  a21 := Tryz.isAgg21
  z21 := Tryz.sizeOf21
  v21 := Tryz.zeroValue21
  t31 := Tryz.underlying34
  a31 := Tryz.isAgg34
  z31 := Tryz.sizeOf34
  v31 := Tryz.zeroValue34
  t46 := Tryz.underlying143
  a46 := Tryz.isAgg143
  z46 := Tryz.sizeOf143
  v46 := Tryz.zeroValue143
  t51 := Tryz.underlying175
  a51 := Tryz.isAgg175
  z51 := Tryz.sizeOf175
  v51 := Tryz.zeroValue175
  t105 := Tryz.underlying120
  a105 := Tryz.isAgg120
  z105 := Tryz.sizeOf120
  v105 := Tryz.zeroValue120
  t119 := Tryz.underlying171
  a119 := Tryz.isAgg171
  z119 := Tryz.sizeOf171
  t138 := Tryz.underlying173
  a138 := Tryz.isAgg173
  z138 := Tryz.sizeOf173
  v138 := Tryz.zeroValue173
  t139 := Tryz.underlying174
  a139 := Tryz.isAgg174
  z139 := Tryz.sizeOf174
  v139 := Tryz.zeroValue174
  t146 := Tryz.underlying176
  a146 := Tryz.isAgg176
  z146 := Tryz.sizeOf176
  v146 := Tryz.zeroValue176
  g1 := by kernel_rfl
  g3 := by kernel_rfl
  g4 := by kernel_rfl
set_option maxRecDepth 100000 in
theorem shL156 : Lays.n156 Tryz.prog shR where
  mixed := by kernel_rfl
  f156 := (Tryz.func83).trans (congrArg some (by kernel_rfl))
  f165 := (Tryz.func103).trans (congrArg some (by kernel_rfl))
  f166 := (Tryz.func104).trans (congrArg some (by kernel_rfl))
  f169 := (Tryz.func105).trans (congrArg some (by kernel_rfl))
  f240 := (Tryz.func119).trans (congrArg some (by kernel_rfl))
  f241 := (Tryz.func120).trans (congrArg some (by kernel_rfl))
  f276 := (Tryz.func125).trans (congrArg some (by kernel_rfl))
  f277 := (Tryz.func126).trans (congrArg some (by kernel_rfl))
  t0 := by kernel_rfl
  a0 := fun w => rfl
  z0 := fun w => rfl
  v0 := fun w => rfl
  t3 := Tryz.underlying3
  a3 := Tryz.isAgg3
  z3 := Tryz.sizeOf3
  v3 := Tryz.zeroValue3
  t4 := Tryz.underlying4
  a4 := Tryz.isAgg4
  z4 := Tryz.sizeOf4
  v4 := Tryz.zeroValue4
  t9 := Tryz.underlying9
  a9 := Tryz.isAgg9
  z9 := Tryz.sizeOf9
  v9 := Tryz.zeroValue9
  t20 := Tryz.underlying20
  a20 := Tryz.isAgg20
  z20 := Tryz.sizeOf20
  v20 := Tryz.zeroValue20
  t31 := Tryz.underlying34
  a31 := Tryz.isAgg34
  z31 := Tryz.sizeOf34
  v31 := Tryz.zeroValue34
  t37 := Tryz.underlying73
  a37 := Tryz.isAgg73
  z37 := Tryz.sizeOf73
  v37 := Tryz.zeroValue73
  t70 := Tryz.underlying162
  a70 := Tryz.isAgg162
  z70 := Tryz.sizeOf162
  v70 := Tryz.zeroValue162
  t72 := Tryz.underlying164
  a72 := Tryz.isAgg164
  z72 := Tryz.sizeOf164
  v72 := Tryz.zeroValue164
  t75 := Tryz.underlying127
  a75 := Tryz.isAgg127
  z75 := Tryz.sizeOf127
  v75 := Tryz.zeroValue127
  t76 := Tryz.underlying166
  a76 := Tryz.isAgg166
  z76 := Tryz.sizeOf166
  v76 := Tryz.zeroValue166
  t127 := Tryz.underlying193
  a127 := Tryz.isAgg193
  z127 := Tryz.sizeOf193
  v127 := Tryz.zeroValue193
  t164 := Tryz.underlying149
  a164 := Tryz.isAgg149
  z164 := Tryz.sizeOf149
  v164 := Tryz.zeroValue149
theorem shX : Builder.Extra Tryz.prog shR where
  sizeBuilder := by kernel_rfl
  liesBuilder := by kernel_rfl
  t5 := Tryz.underlying5
  a5 := Tryz.isAgg5
  z5 := Tryz.sizeOf5
  v5 := Tryz.zeroValue5
  infoByte := by kernel_rfl
  cellsByte := by kernel_rfl
  sizeByte := by kernel_rfl
  neB5 := of_decide_eq_true (by kernel_rfl)
theorem shI : (Tryz.prog.info? (shR.t 9)).map (fun i => (i.zero, i.size, i.bytes)) = some (some (.string ByteArray.empty), 1, 16) := by kernel_rfl
/-- the cell that the library's search reads -/
def MaxH (w : World) : Prop := ∃ m, w.cell? ⟨1, 0, none⟩ = some (.int .i64 m)
theorem maxH_of {w : World} (h : w.ShapedOpen Tryz.prog) : MaxH w :=
  Go.Proofs.cell_of_shapedOpen_int (zero := #[.int .i64 0]) (t := 3) h (of_decide_eq_true (by kernel_rfl)) (by kernel_rfl) rfl (by kernel_rfl) (by kernel_rfl) Tryz.underlying3
end Go.Proofs.YtikigaeihdmcaaaGreatDoor

/-
  What comes from some nodes of a graph: plain lists, no program in sight.
-/
set_option linter.unusedVariables false
set_option linter.unusedSimpArgs false
namespace Go.Proofs.YtikigaeihdmcaaaGreatDoor

abbrev Graph := List (List Int)
inductive Rch (g : Graph) (from' : List Int) : Nat → Prop
  | base {x : Int} : x ∈ from' → Rch g from' x.toNat
  | step {n : Nat} {x : Int} : Rch g from' n → x ∈ g.getD n [] → Rch g from' x.toNat
open Classical in
noncomputable def rchB (g : Graph) (from' : List Int) : List Bool := (List.range g.length).map fun n => decide (Rch g from' n)
theorem rchB_len (g : Graph) (f : List Int) : (rchB g f).length = g.length := by simp [rchB]
theorem rchB_iff {g : Graph} {f : List Int} {n : Nat} (h : n < (rchB g f).length) : (rchB g f)[n] = true ↔ Rch g f n := by
  have h' : n < g.length := by rwa [rchB_len] at h
  simp [rchB]

/-- all its numbers are nodes -/
def okL (n : Nat) (l : List Int) : Prop := ∀ x ∈ l, 0 ≤ x ∧ x < n
def okG (g : Graph) : Prop := ∀ l ∈ g, okL g.length l
theorem okG_row {g : Graph} (h : okG g) (n : Nat) : okL g.length (g.getD n []) := by
  intro x hx
  by_cases hn : n < g.length
  · rw [List.getD_eq_getElem?_getD, List.getElem?_eq_getElem hn] at hx
    exact h _ (List.getElem_mem hn) x hx
  · rw [List.getD_eq_getElem?_getD, List.getElem?_eq_none (by omega)] at hx
    simp at hx

structure RInv (g : Graph) (f : List Int) (seen : List Bool) (todo : List Int) : Prop where
  len : seen.length = g.length
  ok : okL g.length todo
  sound : ∀ n, seen.getD n false = true → Rch g f n
  tsound : ∀ x ∈ todo, Rch g f x.toNat
  base : ∀ x ∈ f, seen.getD x.toNat false = true ∨ x ∈ todo
  clo : ∀ n, seen.getD n false = true → ∀ x ∈ g.getD n [], seen.getD x.toNat false = true ∨ x ∈ todo

theorem getD_set {l : List Bool} {n k : Nat} {b : Bool} (h : n < l.length) : (l.set n b).getD k false = if n = k then b else l.getD k false := by
  simp only [List.getD_eq_getElem?_getD, List.getElem?_set]
  split
  · subst_vars; simp [h]
  · rfl
theorem getD_rep {n k : Nat} : (List.replicate n false).getD k false = false := by
  simp only [List.getD_eq_getElem?_getD, List.getElem?_replicate]
  split <;> rfl
theorem RInv.start {g : Graph} {f : List Int} (hf : okL g.length f) : RInv g f (List.replicate g.length false) f where
  len := by simp
  ok := hf
  sound := fun n h => by rw [getD_rep] at h; cases h
  tsound := fun x hx => .base hx
  base := fun x hx => .inr hx
  clo := fun n h => by rw [getD_rep] at h; cases h
theorem RInv.pass {g : Graph} {f : List Int} {seen : List Bool} {todo : List Int} {x : Int} (h : RInv g f seen (todo ++ [x])) (hs : seen.getD x.toNat false = true) : RInv g f seen todo where
  len := h.len
  ok := fun y hy => h.ok y (by simp [hy])
  sound := h.sound
  tsound := fun y hy => h.tsound y (by simp [hy])
  base := fun y hy => by
    rcases h.base y hy with h1 | h1
    · exact .inl h1
    · rcases List.mem_append.1 h1 with h2 | h2
      · exact .inr h2
      · simp at h2; subst h2; exact .inl hs
  clo := fun n hn y hy => by
    rcases h.clo n hn y hy with h1 | h1
    · exact .inl h1
    · rcases List.mem_append.1 h1 with h2 | h2
      · exact .inr h2
      · simp at h2; subst h2; exact .inl hs
theorem RInv.mark {g : Graph} {f : List Int} {seen : List Bool} {todo : List Int} {x : Int} (hg : okG g) (h : RInv g f seen (todo ++ [x])) : RInv g f (seen.set x.toNat true) (todo ++ g.getD x.toNat []) := by
  have hx := h.ok x (by simp)
  have hlt : x.toNat < seen.length := by rw [h.len]; omega
  have key : ∀ y, seen.getD y.toNat false = true ∨ y ∈ todo ++ [x] → (seen.set x.toNat true).getD y.toNat false = true ∨ y ∈ todo ++ g.getD x.toNat [] := by
    intro y hy
    rw [getD_set hlt]
    rcases hy with h1 | h1
    · left; split
      · rfl
      · exact h1
    · rcases List.mem_append.1 h1 with h2 | h2
      · exact .inr (by simp [h2])
      · simp at h2; subst h2; left; simp
  refine ⟨by simpa using h.len, ?_, ?_, ?_, ?_, ?_⟩
  · intro y hy
    rcases List.mem_append.1 hy with h1 | h1
    · exact h.ok y (by simp [h1])
    · exact okG_row hg _ y h1
  · intro n hn
    rw [getD_set hlt] at hn
    split at hn
    · rename_i e; subst e; exact h.tsound x (by simp)
    · exact h.sound n hn
  · intro y hy
    rcases List.mem_append.1 hy with h1 | h1
    · exact h.tsound y (by simp [h1])
    · exact .step (h.tsound x (by simp)) h1
  · intro y hy; exact key y (h.base y hy)
  · intro n hn y hy
    rw [getD_set hlt] at hn
    split at hn
    · rename_i e; subst e; exact .inr (List.mem_append.2 (.inr hy))
    · exact key y (h.clo n hn y hy)
theorem RInv.done {g : Graph} {f : List Int} {seen : List Bool} (h : RInv g f seen []) : seen = rchB g f := by
  have all : ∀ n, Rch g f n → seen.getD n false = true := by
    intro n hn
    induction hn with
    | base hx => exact (h.base _ hx).resolve_right (by simp)
    | step _ hx ih => exact (h.clo _ ih _ hx).resolve_right (by simp)
  apply List.ext_getElem (by rw [h.len, rchB_len])
  intro n h1 h2
  have e1 : seen.getD n false = seen[n] := by simp [List.getD_eq_getElem?_getD, h1]
  rw [Bool.eq_iff_iff, rchB_iff h2, ← e1]
  exact ⟨h.sound n, all n⟩

/- WHAT THE LAW SAYS -/
theorem Rch.mono {g : Graph} {a b : List Int} (h : ∀ x ∈ a, x ∈ b) {n : Nat} (hn : Rch g a n) : Rch g b n := by
  induction hn with
  | base hx => exact .base (h _ hx)
  | step _ hx ih => exact .step ih hx
theorem Rch.app {g : Graph} {a b : List Int} {n : Nat} : Rch g (a ++ b) n ↔ Rch g a n ∨ Rch g b n := by
  constructor
  · intro h
    induction h with
    | base hx =>
      rcases List.mem_append.1 hx with h | h
      · exact .inl (.base h)
      · exact .inr (.base h)
    | step _ hx ih => exact ih.imp (fun h => .step h hx) (fun h => .step h hx)
  · rintro (h | h)
    · exact h.mono fun x hx => by simp [hx]
    · exact h.mono fun x hx => by simp [hx]

/- CHECKS -/
end Go.Proofs.YtikigaeihdmcaaaGreatDoor

/-
  Processes: what is right, what flows a node has: plain lists, no program in sight.
-/
set_option linter.unusedVariables false
set_option linter.unusedSimpArgs false
namespace Go.Proofs.YtikigaeihdmcaaaGreatDoor

abbrev LNode := ByteArray × Int
abbrev LFlow := Int × Int
abbrev LProc := List LNode × List LFlow
def lowB (c : UInt8) : Bool := !(decide (((c.toNat : Nat) : Int) < 97)) && !(decide (((c.toNat : Nat) : Int) > 122))
def namedL (l : List UInt8) : Bool := !(l == []) && !(decide ((l.length : Int) > 8)) && !(l == [116, 114, 117, 101]) && !(l == [102, 97, 108, 115, 101]) && !(l == [115, 105, 108, 101, 110, 116]) && l.all lowB
abbrev namedB (s : ByteArray) : Bool := namedL s.data.toList
def nameEq (a b : ByteArray) : Bool := a.data.toList == b.data.toList
def nodeE (ns : List LNode) (i : Nat) : Int :=
  if !namedB (ns.getD i (⟨#[]⟩, 0)).1 || decide ((ns.getD i (⟨#[]⟩, 0)).2 < 1) || decide ((ns.getD i (⟨#[]⟩, 0)).2 > 7) then 1
  else if (ns.take i).any (fun m => nameEq m.1 (ns.getD i (⟨#[]⟩, 0)).1) then 4 else 0
def countsB (kind : Int) (i o : Nat) : Bool :=
  if kind = 1 then decide (i = 0) && decide (o = 1)
  else if kind = 2 ∨ kind = 3 then decide (0 < i) && decide (o = 0)
  else if kind = 4 then decide (0 < i) && decide (o = 1)
  else if kind = 7 then if o > 4 then false else decide (0 < i) && decide (0 < o)
  else if kind = 5 ∨ kind = 6 then decide (0 < i) && decide (0 < o)
  else false
/-- flows into a node, and out of it, by number -/
def insP (fl : List LFlow) (n : Int) (k : Nat) : List Int := ((List.range k).filter fun i => (fl.getD i (0, 0)).2 == n).map fun i : Nat => (i : Int)
def outsP (fl : List LFlow) (n : Int) (k : Nat) : List Int := ((List.range k).filter fun i => (fl.getD i (0, 0)).1 == n).map fun i : Nat => (i : Int)
abbrev insL (fl : List LFlow) (n : Int) : List Int := insP fl n fl.length
abbrev outsL (fl : List LFlow) (n : Int) : List Int := outsP fl n fl.length
/-- the graph of some flows -/
def flowsG (n : Nat) (fl : List LFlow) : Graph := (List.range n).map fun k : Nat => (fl.filter fun f => f.1 == (k : Int)).map (·.2)
def startsL (ns : List LNode) (k : Nat) : List Nat := (List.range k).filter fun i => (ns.getD i (⟨#[]⟩, 0)).2 == 1
open Classical in
noncomputable def chkR (p : LProc) : Int := if ∃ n, n < p.1.length ∧ ¬ Rch (flowsG p.1.length p.2) (((startsL p.1 p.1.length).getLast?.map fun n : Nat => (n : Int)).toList) n then 6 else 0
structure OkPr (p : LProc) : Prop where
  n : p.1.length ≤ 20
  f : p.2.length ≤ 30
  nodes : ∀ i, i < p.1.length → nodeE p.1 i = 0
  flows : ∀ f ∈ p.2, 0 ≤ f.1 ∧ f.1 < p.1.length ∧ 0 ≤ f.2 ∧ f.2 < p.1.length
  start : (startsL p.1 p.1.length).length = 1
  count : ∀ i, i < p.1.length → countsB (p.1.getD i (⟨#[]⟩, 0)).2 (insL p.2 i).length (outsL p.2 i).length = true
/- FLOWS, COUNTED BY THEIR NODES -/
end Go.Proofs.YtikigaeihdmcaaaGreatDoor

/-
  Formulas of one way: how they lie in memory, their check.
-/
set_option linter.unusedVariables false
set_option linter.unusedSimpArgs false
namespace Go.Proofs.YtikigaeihdmcaaaGreatDoor
open Go.RowKit

inductive Ltl where
  | mk (k n : Int) (kids : List Ltl) : Ltl
def Ltl.k : Ltl → Int | .mk k _ _ => k
def Ltl.n : Ltl → Int | .mk _ n _ => n
def Ltl.kids : Ltl → List Ltl | .mk _ _ l => l
mutual
def Ltl.nodes : Ltl → Nat
  | .mk _ _ kids => 1 + Ltl.nodesL kids
def Ltl.nodesL : List Ltl → Nat
  | [] => 0
  | x :: r => x.nodes + Ltl.nodesL r
end
theorem Ltl.nodes_pos (t : Ltl) : 0 < t.nodes := by cases t; simp [Ltl.nodes]; omega
theorem Ltl.nodes_kid : ∀ (l : List Ltl) (x : Ltl), x ∈ l → x.nodes ≤ Ltl.nodesL l
  | [], x, h => by cases h
  | y :: r, x, h => by
    simp only [Ltl.nodesL]
    rcases List.mem_cons.1 h with rfl | h
    · omega
    · have := Ltl.nodes_kid r x h; omega

inductive RdT (w : World) (F : Nat → Prop) : List Value → Ltl → Prop
  | mk (k n : Int) (kids : List Ltl) (ao : Option Addr) (cap : Nat) (es : Nat → List Value) : kids.length ≤ cap → cap ≤ maxLen → (ao = none → cap = 0) →
      (∀ i, i < kids.length → ∃ b off, ao = some ⟨b, off, none⟩ ∧ F b ∧ Cells w b (off + i * 3) (es i)) → (∀ i (h : i < kids.length), RdT w F (es i) kids[i]) →
      RdT w F [.int .i64 k, .int .i64 n, .slice ao kids.length cap] (.mk k n kids)
instance iLtl1 : Rep Ltl where
  sz := 3
  pos := by decide
  agg := true
  rd := RdT
  len := by intro w F cs x h; cases h; rfl
  one := by
    intro w F cs x h v hv
    cases h
    simp at hv
    rcases hv with rfl | rfl | rfl <;> rfl
  szAgg := fun h => by cases h
  mono := by
    intro w w' F F' cs x h hb hF
    induction h with
    | mk k n kids ao cap es h1 h2 h3 h4 h5 ih =>
      refine .mk k n kids ao cap es h1 h2 h3 (fun i hi => ?_) (fun i hi => ih i hi)
      obtain ⟨b, off, e, hf, hc⟩ := h4 i hi
      exact ⟨b, off, e, hF b hf, hc.mono (hb b hf)⟩
theorem RdT.sl {w : World} {F : Nat → Prop} {cs : List Value} {t : Ltl} (h : rd w F cs t) : ∃ ao cap, cs = [.int .i64 t.k, .int .i64 t.n, .slice ao t.kids.length cap] ∧ Sl w F ao cap t.kids := by
  cases h with
  | mk k n kids ao cap es h1 h2 h3 h4 h5 =>
    refine ⟨ao, cap, rfl, h1, h2, h3, fun i hi => ?_⟩
    obtain ⟨b, off, e, hf, hc⟩ := h4 i hi
    exact ⟨b, off, e, hf, es i, hc, h5 i hi⟩
theorem RdT.of {w : World} {F : Nat → Prop} {k n : Int} {kids : List Ltl} {ao : Option Addr} {cap : Nat} (h : Sl w F ao cap kids) : rd w F [.int .i64 k, .int .i64 n, .slice ao kids.length cap] (Ltl.mk k n kids) := by
  have h4 : ∀ i, ∃ es : List Value, ∀ hi : i < kids.length, ∃ b off, ao = some ⟨b, off, none⟩ ∧ F b ∧ Cells w b (off + i * 3) es ∧ rd w F es kids[i] := by
    intro i
    by_cases hi : i < kids.length
    · obtain ⟨b, off, e, hf, es, hc, hr⟩ := h.el i hi
      exact ⟨es, fun _ => ⟨b, off, e, hf, hc, hr⟩⟩
    · exact ⟨[], fun h => absurd h hi⟩
  refine .mk k n kids ao cap (fun i => Classical.choose (h4 i)) h.le h.mx h.nil (fun i hi => ?_) (fun i hi => ?_)
  · obtain ⟨b, off, e, hf, hc, _⟩ := Classical.choose_spec (h4 i) hi
    exact ⟨b, off, e, hf, hc⟩
  · obtain ⟨b, off, e, hf, hc, hr⟩ := Classical.choose_spec (h4 i) hi
    exact hr
abbrev ltlV (k n : Int) (ao : Option Addr) (len cap : Nat) : Value := .agg [.int .i64 k, .int .i64 n, .slice ao len cap].toArray
theorem Rd.ltl {w : World} {F : Nat → Prop} {v : Value} {t : Ltl} (h : Rd w F v t) : ∃ ao cap, v = ltlV t.k t.n ao t.kids.length cap ∧ Sl w F ao cap t.kids := by
  obtain ⟨cs, e, hr⟩ := h
  obtain ⟨ao, cap, rfl, hs⟩ := RdT.sl hr
  exact ⟨ao, cap, e, hs⟩
theorem Rd.mkLtl {w : World} {F : Nat → Prop} {k n : Int} {kids : List Ltl} {ao : Option Addr} {cap : Nat} (h : Sl w F ao cap kids) : Rd w F (ltlV k n ao kids.length cap) (Ltl.mk k n kids) := ⟨_, rfl, RdT.of h⟩
instance iLtl2 : IsT Tryz.prog 28 Ltl := IsT.of (by kernel_rfl) Tryz.underlying28 rfl
instance iLtl3 : IsS Tryz.prog 26 28 := ⟨Tryz.underlying26⟩
instance iLtl4 : IsT Tryz.prog 26 (List Ltl) := IsT.of (by kernel_rfl) Tryz.underlying26 rfl
instance iLtl5 : IsZ Tryz.prog 28 (Ltl.mk 0 0 []) 40 := IsZ.of (z := .agg #[.int .i64 0, .int .i64 0, .slice none 0 0]) (by kernel_rfl) (fun _ _ => RdT.of (kids := []) ⟨by simp, by simp [maxLen], fun _ => rfl, fun i hi => absurd hi (by simp)⟩)
instance iLtl6 : IsC Tryz.prog 28 3 true := IsC.of (by kernel_rfl) Tryz.underlying28 rfl
instance iLtl7 : IsC Tryz.prog 26 1 false := IsC.of (by kernel_rfl) Tryz.underlying26 rfl
instance iLtl8 : IsZC Tryz.prog 26 [.slice none 0 0] := IsZC.of (z := .slice none 0 0) (by kernel_rfl) rfl
instance iLtl9 : IsFd Tryz.prog 28 0 0 := IsFd.of (by kernel_rfl)
instance iLtl10 : IsFd Tryz.prog 28 1 1 := IsFd.of (by kernel_rfl)
instance iLtl11 : IsFd Tryz.prog 28 2 2 := IsFd.of (by kernel_rfl)
instance iLtl12 : IsZC Tryz.prog 28 [.int .i64 0, .int .i64 0, .slice none 0 0] := IsZC.of (z := .agg #[.int .i64 0, .int .i64 0, .slice none 0 0]) (by kernel_rfl) rfl
instance iLtl13 : IsBd Tryz.prog 28 [(0, 1), (1, 1), (2, 1)] := IsBd.of (by kernel_rfl)
instance iLtl14 : IsC Tryz.prog 98 1 false := IsC.of (by kernel_rfl) Tryz.underlying98 rfl

def kidsK (k : Int) : Int := if k = 1 ∨ k = 2 ∨ k = 3 then 0 else if k = 4 ∨ k = 7 ∨ k = 10 ∨ k = 11 then 1 else if k = 5 ∨ k = 6 ∨ k = 8 ∨ k = 9 then 2 else -1
theorem kids_ok (w : World) (k : Int) : Rt Tryz.prog 71 [.int .i64 k].toArray w fun v w' => v = .int .i64 (kidsK k) ∧ w = w' := by
  refine Rt.enter1 Tryz.func71 Tryz.ntmps71 rfl rfl ?_
  unfold kidsK
  (repeat (first | (apply WL.pure; rfl; rfl; rfl) | (apply WL.nil) | (apply EX.thenN) | (apply CW.seq) | (apply CW.region) | (apply CW.block)))
  refine CW.cond rfl (fun h => ?_) (fun h => ?_) <;> simp at h
  · subst h; (repeat (first | (apply WL.pure; rfl; rfl; rfl) | (apply WL.nil) | (apply EX.thenN) | (apply CW.seq) | (apply CW.region) | (apply CW.condT; rfl) | (apply CW.ret) | (apply EX.thenR) | (apply EX.inR) | (apply CW.skip)))
    exact EX.ret1 rfl rfl ⟨rfl, rfl⟩
  (repeat (first | (apply WL.pure; rfl; rfl; rfl) | (apply WL.nil) | (apply EX.thenN) | (apply CW.seq) | (apply CW.region)))
  refine CW.cond rfl (fun h => ?_) (fun h => ?_) <;> simp at h
  · subst h; (repeat (first | (apply WL.pure; rfl; rfl; rfl) | (apply WL.nil) | (apply EX.thenN) | (apply CW.seq) | (apply CW.region) | (apply CW.condT; rfl) | (apply CW.ret) | (apply EX.thenR) | (apply EX.inR) | (apply CW.skip)))
    exact EX.ret1 rfl rfl ⟨rfl, rfl⟩
  (repeat (first | (apply WL.pure; rfl; rfl; rfl) | (apply WL.nil) | (apply EX.thenN) | (apply CW.region)))
  refine CW.cond rfl (fun h => ?_) (fun h => ?_) <;> simp at h
  · subst h; (repeat (first | (apply WL.pure; rfl; rfl; rfl) | (apply WL.nil) | (apply EX.thenN) | (apply CW.seq) | (apply CW.region) | (apply CW.ret) | (apply EX.thenR) | (apply EX.inR)))
    exact EX.ret1 rfl rfl ⟨rfl, rfl⟩
  rw [if_neg (by omega)]
  (repeat (first | (apply WL.pure; rfl; rfl; rfl) | (apply WL.nil) | (apply EX.thenN) | (apply CW.seq) | (apply CW.region)))
  refine CW.cond rfl (fun h => ?_) (fun h => ?_) <;> simp at h
  · subst h; (repeat (first | (apply WL.pure; rfl; rfl; rfl) | (apply WL.nil) | (apply EX.thenN) | (apply CW.seq) | (apply CW.region) | (apply CW.condT; rfl) | (apply CW.ret) | (apply EX.thenR) | (apply EX.inR) | (apply CW.skip)))
    exact EX.ret1 rfl rfl ⟨rfl, rfl⟩
  (repeat (first | (apply WL.pure; rfl; rfl; rfl) | (apply WL.nil) | (apply EX.thenN) | (apply CW.seq) | (apply CW.region)))
  refine CW.cond rfl (fun h => ?_) (fun h => ?_) <;> simp at h
  · subst h; (repeat (first | (apply WL.pure; rfl; rfl; rfl) | (apply WL.nil) | (apply EX.thenN) | (apply CW.seq) | (apply CW.region) | (apply CW.condT; rfl) | (apply CW.ret) | (apply EX.thenR) | (apply EX.inR) | (apply CW.skip)))
    exact EX.ret1 rfl rfl ⟨rfl, rfl⟩
  (repeat (first | (apply WL.pure; rfl; rfl; rfl) | (apply WL.nil) | (apply EX.thenN) | (apply CW.seq) | (apply CW.region)))
  refine CW.cond rfl (fun h => ?_) (fun h => ?_) <;> simp at h
  · subst h; (repeat (first | (apply WL.pure; rfl; rfl; rfl) | (apply WL.nil) | (apply EX.thenN) | (apply CW.seq) | (apply CW.region) | (apply CW.condT; rfl) | (apply CW.ret) | (apply EX.thenR) | (apply EX.inR) | (apply CW.skip)))
    exact EX.ret1 rfl rfl ⟨rfl, rfl⟩
  (repeat (first | (apply WL.pure; rfl; rfl; rfl) | (apply WL.nil) | (apply EX.thenN) | (apply CW.region)))
  refine CW.cond rfl (fun h => ?_) (fun h => ?_) <;> simp at h
  · subst h; (repeat (first | (apply WL.pure; rfl; rfl; rfl) | (apply WL.nil) | (apply EX.thenN) | (apply CW.seq) | (apply CW.region) | (apply CW.ret) | (apply EX.thenR) | (apply EX.inR)))
    exact EX.ret1 rfl rfl ⟨rfl, rfl⟩
  rw [if_neg (by omega)]
  (repeat (first | (apply WL.pure; rfl; rfl; rfl) | (apply WL.nil) | (apply EX.thenN) | (apply CW.seq) | (apply CW.region)))
  refine CW.cond rfl (fun h => ?_) (fun h => ?_) <;> simp at h
  · subst h; (repeat (first | (apply WL.pure; rfl; rfl; rfl) | (apply WL.nil) | (apply EX.thenN) | (apply CW.seq) | (apply CW.region) | (apply CW.condT; rfl) | (apply CW.ret) | (apply EX.thenR) | (apply EX.inR) | (apply CW.skip)))
    exact EX.ret1 rfl rfl ⟨rfl, rfl⟩
  (repeat (first | (apply WL.pure; rfl; rfl; rfl) | (apply WL.nil) | (apply EX.thenN) | (apply CW.seq) | (apply CW.region)))
  refine CW.cond rfl (fun h => ?_) (fun h => ?_) <;> simp at h
  · subst h; (repeat (first | (apply WL.pure; rfl; rfl; rfl) | (apply WL.nil) | (apply EX.thenN) | (apply CW.seq) | (apply CW.region) | (apply CW.condT; rfl) | (apply CW.ret) | (apply EX.thenR) | (apply EX.inR) | (apply CW.skip)))
    exact EX.ret1 rfl rfl ⟨rfl, rfl⟩
  (repeat (first | (apply WL.pure; rfl; rfl; rfl) | (apply WL.nil) | (apply EX.thenN) | (apply CW.seq) | (apply CW.region)))
  refine CW.cond rfl (fun h => ?_) (fun h => ?_) <;> simp at h
  · subst h; (repeat (first | (apply WL.pure; rfl; rfl; rfl) | (apply WL.nil) | (apply EX.thenN) | (apply CW.seq) | (apply CW.region) | (apply CW.condT; rfl) | (apply CW.ret) | (apply EX.thenR) | (apply EX.inR) | (apply CW.skip)))
    exact EX.ret1 rfl rfl ⟨rfl, rfl⟩
  (repeat (first | (apply WL.pure; rfl; rfl; rfl) | (apply WL.nil) | (apply EX.thenN) | (apply CW.region)))
  refine CW.cond rfl (fun h => ?_) (fun h => ?_) <;> simp at h
  · subst h; (repeat (first | (apply WL.pure; rfl; rfl; rfl) | (apply WL.nil) | (apply EX.thenN) | (apply CW.seq) | (apply CW.region) | (apply CW.ret) | (apply EX.thenR) | (apply EX.inR)))
    exact EX.ret1 rfl rfl ⟨rfl, rfl⟩
  rw [if_neg (by omega)]
  (repeat (first | (apply WL.pure; rfl; rfl; rfl) | (apply WL.nil) | (apply EX.thenN) | (apply CW.seq) | (apply CW.region) | (apply EX.inN) | (apply CW.ret) | (apply CW.skip)))
  exact EX.ret1 rfl rfl ⟨rfl, rfl⟩
end Go.Proofs.YtikigaeihdmcaaaGreatDoor

/-
  Package ltl: Check.
-/
set_option linter.unusedVariables false
set_option linter.unusedSimpArgs false
namespace Go.Proofs.YtikigaeihdmcaaaGreatDoor
open Go.RowKit

theorem grown_tr {w w1 w2 : World} {r : Option Nat} (h1 : w.grownBy w1 r) (h2 : w1.grownBy w2 r) : w.grownBy w2 r :=
  ⟨h2.os.trans h1.os, h2.tape.trans h1.tape, h2.output.trans h1.output, Nat.le_trans h1.size h2.size, fun k hk hne => (h2.block k (Nat.lt_of_lt_of_le hk h1.size) hne).trans (h1.block k hk hne)⟩
theorem Ext.grw {w w1 : World} (h : Ext w w1) (r : Option Nat) : w.grownBy w1 r := ⟨h.os, h.tape, h.output, h.size, fun k hk _ => h.block k hk⟩
theorem grown_new {w w1 w2 : World} {r : Option Nat} {b : Nat} (h1 : w.grownBy w1 r) (h2 : w1.grownBy w2 (some b)) (hb : w.heap.size ≤ b) : w.grownBy w2 r :=
  ⟨h2.os.trans h1.os, h2.tape.trans h1.tape, h2.output.trans h1.output, Nat.le_trans h1.size h2.size, fun k hk hne => (h2.block k (Nat.lt_of_lt_of_le hk h1.size) (by simp; omega)).trans (h1.block k hk hne)⟩

mutual
def chkF : Ltl → Int → Int → Int × Int
  | .mk k n kids, deep, c => if c + 1 > 60 then (2, c + 1) else if deep > 20 then (5, c + 1) else if kidsK k ≠ kids.length ∨ n < 0 ∨ n > 63 ∨ (k ≠ 3 ∧ n ≠ 0) then (1, c + 1) else chkFL kids (deep + 1) (c + 1)
def chkFL : List Ltl → Int → Int → Int × Int
  | [], _, c => (0, c)
  | x :: r, deep, c => if (chkF x deep c).1 ≠ 0 then chkF x deep c else chkFL r deep (chkF x deep c).2
end
mutual
theorem chkF_le : ∀ (t : Ltl) (deep c : Int), (chkF t deep c).1 = 0 → c < (chkF t deep c).2 ∧ (chkF t deep c).2 ≤ 60
  | .mk k n kids, deep, c, h => by
    simp only [chkF] at h ⊢
    split at h
    · cases h
    · rename_i h1
      rw [if_neg h1]
      split at h
      · cases h
      · rename_i h2
        rw [if_neg h2]
        split at h
        · cases h
        · rename_i h3
          rw [if_neg h3]
          have := chkFL_le kids (deep + 1) (c + 1) (by omega) h
          omega
theorem chkFL_le : ∀ (l : List Ltl) (deep c : Int), c ≤ 60 → (chkFL l deep c).1 = 0 → c ≤ (chkFL l deep c).2 ∧ (chkFL l deep c).2 ≤ 60
  | [], deep, c, hc, h => by simp only [chkFL]; omega
  | x :: r, deep, c, hc, h => by
    simp only [chkFL] at h ⊢
    split at h
    · rename_i h1; exact absurd h h1
    · rename_i h1
      rw [if_neg h1]
      have h2 := chkF_le x deep c (by simpa using h1)
      have h3 := chkFL_le r deep _ h2.2 h
      omega
end
theorem ltlCheck0_ok : ∀ (m : Nat) (t : Ltl), t.nodes ≤ m → ∀ (w : World) (F : Nat → Prop) (deep c : Int) (bn : Nat) (ao : Option Addr) (cap : Nat), Sl w F ao cap t.kids → (∀ b, F b → b < w.heap.size) → ¬ F bn →
    Blk w bn 3 [.int .i64 c] → 0 ≤ c → c ≤ 60 → 0 ≤ deep → deep ≤ 1000 →
    Rt Tryz.prog 51 [ltlV t.k t.n ao t.kids.length cap, .int .i64 deep, .pointer (some ⟨bn, 0, none⟩)].toArray w fun v w' => v = .int .i64 (chkF t deep c).1 ∧ Blk w' bn 3 [.int .i64 (chkF t deep c).2] ∧ w.grownBy w' (some bn)
  | 0, t, hm => by have := t.nodes_pos; omega
  | m + 1, .mk k n kids, hm => by
    intro w F deep c bn ao cap hs hF hn hb hc0 hc1 hd0 hd1
    simp only [Ltl.kids, Ltl.k, Ltl.n] at *
    refine Rt.enter3 Tryz.func51 Tryz.ntmps51 rfl rfl ?_
    have hlen := hs.len63
    have hbn := hb.lt
    (repeat (first | (apply CW.seq) | (apply CW.region)))
    refine WL.boxB rfl rfl rfl fun w1 hf hE1 => ?_
    have hb1 := hb.ext hE1
    have hg1 := hE1.grw (some bn)
    (repeat (first | (apply WL.add; rfl; rfl; rfl; rfl; omega; omega) | (apply WL.pure; rfl; rfl; rfl) | (apply WL.nil) | (apply EX.thenN) | (apply CW.seq) | (apply CW.region) | (apply WL.nck; rfl; rfl; rfl) | (apply WL.ld; rfl; rfl; rfl; assumption; rfl)))
    refine WL.st rfl rfl rfl hb1 rfl rfl (ones_of rfl) (fun w2 hb2 hgr => ?_)
    have hf2 := hf.kept hgr (by simp; omega)
    have hg2 := grown_tr hg1 hgr
    simp only [chkF]
    (repeat (first | (apply WL.pure; rfl; rfl; rfl) | (apply WL.nil) | (apply EX.thenN) | (apply CW.seq) | (apply CW.region) | (apply WL.nck; rfl; rfl; rfl) | (apply WL.ld; rfl; rfl; rfl; assumption; rfl) | (apply CW.block)))
    refine CW.cond rfl (fun h => ?_) (fun h => ?_) <;> simp only [decide_eq_true_eq, decide_eq_false_iff_not, gt_iff_lt] at h
    · (repeat (first | (apply WL.pure; rfl; rfl; rfl) | (apply WL.nil) | (apply EX.thenN) | (apply CW.seq) | (apply CW.region) | (apply CW.ret) | (apply EX.thenR) | (apply EX.inR)))
      refine EX.ret1 rfl rfl ?_
      rw [if_pos h]
      exact ⟨rfl, hb2, hg2⟩
    rw [if_neg (by omega)]
    (repeat (first | (apply WL.pure; rfl; rfl; rfl) | (apply WL.nil) | (apply EX.thenN) | (apply CW.seq) | (apply CW.region)))
    refine CW.cond rfl (fun h1 => ?_) (fun h1 => ?_) <;> simp only [decide_eq_true_eq, decide_eq_false_iff_not, gt_iff_lt] at h1
    · (repeat (first | (apply WL.pure; rfl; rfl; rfl) | (apply WL.nil) | (apply EX.thenN) | (apply CW.seq) | (apply CW.region) | (apply CW.ret) | (apply EX.thenR) | (apply EX.inR)))
      refine EX.ret1 rfl rfl ?_
      rw [if_pos h1]
      exact ⟨rfl, hb2, hg2⟩
    rw [if_neg (by omega)]
    refine CW.cutE [(1, .int .i64 deep), (2, .pointer (some ⟨bn, 0, none⟩)), (3, .pointer (some ⟨w.heap.size, 0, none⟩)), (23, .bool (decide (kidsK k ≠ kids.length ∨ n < 0 ∨ n > 63 ∨ (k ≠ 3 ∧ n ≠ 0))))] ?_ ?_
    · (repeat (first | (apply CW.seq) | (apply QL.fa; rfl; rfl; rfl) | (apply QL.ld; rfl; rfl; rfl; assumption; rfl) | (apply CW.draw; exact mixed; kernel_rfl)))
      refine QL.call rfl rfl rfl (fun w' h => Rt.mono (kids_ok w' k) (fun v w'' hv => ⟨hv.1, hv.2 ▸ Ext.refl _⟩)) ?_
      (repeat (first | (apply QL.pure; rfl; rfl; rfl) | (apply QL.lenS; rfl; rfl; rfl) | (apply QL.fa; rfl; rfl; rfl) | (apply QL.ld; rfl; rfl; rfl; assumption; rfl)))
      refine QL.nil fun w3 hE3 => ?_
      have hf3 := hf2.ext hE3
      (repeat (apply EX.thenN))
      refine CW.cond rfl (fun h2 => ?_) (fun h2 => ?_) <;> simp at h2
      · (repeat (apply CW.skip))
        refine EX.cutE ⟨rfl, rfl, rfl, ?_, trivial⟩ hE3
        refine congrArg (fun b => some (Value.bool b)) ?_
        have : (kidsK k != (kids.length : Int)) = true := by simpa using h2
        rw [this, decide_eq_true (.inl h2)]
      · (repeat (first | (apply WL.pure; rfl; rfl; rfl) | (apply CW.seq) | (apply CW.region) | (apply WL.fa; rfl; rfl; rfl) | (apply WL.ld; rfl; rfl; rfl; assumption; rfl)))
        (refine WL.lookG rfl rfl (fun h => ?_) (fun h => ?_)) <;> simp at h
        · (repeat (first | (apply WL.pure; rfl; rfl; rfl) | (apply WL.nil) | (apply EX.thenN) | (apply WL.pass; rfl; rfl) | (apply CW.condT; rfl) | (apply CW.skip)))
          refine EX.cutE ⟨rfl, rfl, rfl, ?_, trivial⟩ hE3
          refine congrArg (fun b => some (Value.bool b)) ?_
          rw [decide_eq_true (.inr (.inl h))]
        · (repeat (first | (apply WL.pure; rfl; rfl; rfl) | (apply WL.nil) | (apply EX.thenN) | (apply WL.fa; rfl; rfl; rfl) | (apply WL.ld; rfl; rfl; rfl; assumption; rfl)))
          refine CW.cond rfl (fun h3 => ?_) (fun h3 => ?_) <;> simp at h3
          · (repeat (apply CW.skip))
            refine EX.cutE ⟨rfl, rfl, rfl, ?_, trivial⟩ hE3
            refine congrArg (fun b => some (Value.bool b)) ?_
            rw [decide_eq_true h3, decide_eq_true (.inr (.inr (.inl h3)))]
          · (repeat (first | (apply WL.pure; rfl; rfl; rfl) | (apply CW.region) | (apply WL.fa; rfl; rfl; rfl) | (apply WL.ld; rfl; rfl; rfl; assumption; rfl)))
            (refine WL.lookG rfl rfl (fun h => ?_) (fun h => ?_)) <;> simp at h
            · (repeat (first | (apply WL.pure; rfl; rfl; rfl) | (apply WL.nil) | (apply WL.fa; rfl; rfl; rfl) | (apply WL.ld; rfl; rfl; rfl; assumption; rfl)))
              refine EX.cutE ⟨rfl, rfl, rfl, ?_, trivial⟩ hE3
              refine congrArg (fun b => some (Value.bool b)) ?_
              (rw [Bool.eq_iff_iff]; simp; try omega)
            · (repeat (first | (apply WL.pure; rfl; rfl; rfl) | (apply WL.nil) | (apply WL.pass; rfl; rfl)))
              refine EX.cutE ⟨rfl, rfl, rfl, ?_, trivial⟩ hE3
              refine congrArg (fun b => some (Value.bool b)) ?_
              (rw [Bool.eq_iff_iff]; simp; try omega)
    intro w3 hE3
    have hb3 := hb2.ext hE3
    have hf3 := hf2.ext hE3
    have hg3 := grown_tr hg2 (hE3.grw (some bn))
    refine CW.cond rfl (fun h2 => ?_) (fun h2 => ?_) <;> simp only [decide_eq_true_eq, decide_eq_false_iff_not] at h2
    · rw [if_pos h2]
      (repeat (first | (apply WL.pure; rfl; rfl; rfl) | (apply WL.nil) | (apply EX.thenN) | (apply CW.seq) | (apply CW.region) | (apply CW.ret) | (apply EX.thenR) | (apply EX.inR)))
      exact EX.ret1 rfl rfl ⟨rfl, hb3, hg3⟩
    rw [if_neg h2]
    (repeat (first | (apply WL.pure; rfl; rfl; rfl) | (apply WL.nil) | (apply EX.thenN) | (apply CW.seq) | (apply CW.region) | (apply WL.lenS; rfl; rfl; rfl) | (apply WL.fa; rfl; rfl; rfl) | (apply WL.ld; rfl; rfl; rfl; assumption; rfl) | (apply CW.block) | (apply EX.inN) | (apply CW.skip)))
    refine CW.loop (S := Nat × Int) (fun x => [(1, .int .i64 deep), (2, .pointer (some ⟨bn, 0, none⟩)), (48, .slice ao kids.length cap), (49, .int .i64 (kids.length : Int)), (50, .int .i64 (x.1 : Int))])
      (fun x w' => w.grownBy w' (some bn) ∧ Blk w' bn 3 [.int .i64 x.2] ∧ 0 ≤ x.2 ∧ x.2 ≤ 60 ∧ x.1 ≤ kids.length ∧ chkFL kids (deep + 1) (c + 1) = chkFL (kids.drop x.1) (deep + 1) x.2) (fun x => kids.length - x.1) (0, c + 1) (by repeat (first | exact trivial | refine ⟨rfl, ?_⟩)) ⟨hg3, hb3, by simp only; omega, by simp only; omega, by omega, rfl⟩ ?_
    rintro ⟨i, ci⟩ w4 ⟨hg4, hb4, hci0, hci, hi, heq⟩
    simp only at hb4 hci0 hci hi heq
    rw [heq]
    (repeat (first | (apply WL.pure; rfl; rfl; rfl) | (apply WL.nil) | (apply EX.thenN) | (apply CW.seq) | (apply CW.region)))
    refine CW.cond rfl (fun h3 => ?_) (fun h3 => ?_) <;> simp at h3
    · have hs4 : Sl w4 F ao cap kids := hs.mono (fun b hb => hg4.block b (hF b hb) (by intro e; cases e; exact hn hb)) fun _ h => h
      have hF4 : ∀ b, F b → b < w4.heap.size := fun b hb => Nat.lt_of_lt_of_le (hF b hb) hg4.size
      (repeat (first | (apply EX.thenN) | (apply CW.seq) | (apply CW.region) | (apply CW.block) | (apply CW.skip)))
      refine WL.elemN rfl rfl rfl rfl rfl hs4 h3 (fun _ => rfl) (fun u q hu => ?_)
      have hdrop : kids.drop i = kids[i] :: kids.drop (i + 1) := List.drop_eq_getElem_cons h3
      have hnode : (kids[i]).nodes ≤ m := by
        have := Ltl.nodes_kid kids _ (List.getElem_mem h3)
        simp only [Ltl.nodes] at hm; omega
      rw [hdrop]
      simp only [chkFL]
      generalize kids[i] = x at *
      obtain ⟨ao', cap', rfl, hx⟩ := hu.ltl
      have hw4 : w.heap.size ≤ w4.heap.size := hg4.size
      refine WL.alloc rfl rfl (fun w5 hb5 hE5 => ?_)
      refine WL.st rfl rfl rfl hb5 rfl rfl (ones_of rfl) (fun w6 hb6 hgr6 => ?_)
      have hE6 : Ext w4 w6 := hE5.grown hgr6 hE5.size (fun g hg => by cases hg; exact Nat.le_refl _)
      have hb46 := hb4.ext hE6
      have hg6 := grown_tr hg4 (hE6.grw (some bn))
      (repeat (first | (apply WL.add; rfl; rfl; rfl; rfl; omega; omega) | (apply WL.pure; rfl; rfl; rfl) | (apply WL.nil) | (apply EX.thenN) | (apply CW.seq) | (apply CW.region) | (apply WL.ldA; rfl; rfl; rfl; assumption; rfl)))
      refine WL.call rfl rfl rfl (ltlCheck0_ok m x hnode w6 F (deep + 1) ci bn ao' cap' (hx.mono (fun b hb => hE6.block b (hF4 b hb)) fun _ h => h) (fun b hb => Nat.lt_of_lt_of_le (hF4 b hb) hE6.size) hn hb46 hci0 hci (by omega) (by omega)) ?_
      rintro v w7 ⟨rfl, hb7, hg7⟩
      have hg7 := grown_tr hg6 hg7
      have hle := chkF_le x (deep + 1) ci
      generalize chkF x (deep + 1) ci = r at *
      obtain ⟨e, c'⟩ := r
      simp only at hle hb7
      (repeat (first | (apply WL.pure; rfl; rfl; rfl) | (apply WL.nil) | (apply EX.thenN) | (apply CW.seq) | (apply CW.region)))
      refine CW.cond rfl (fun h4 => ?_) (fun h4 => ?_) <;> simp at h4
      · (repeat (first | (apply WL.pure; rfl; rfl; rfl) | (apply WL.nil) | (apply EX.thenN) | (apply CW.seq) | (apply CW.region) | (apply CW.ret) | (apply EX.thenR) | (apply EX.inR)))
        refine EX.ret1 rfl rfl ?_
        rw [if_pos h4]
        exact ⟨rfl, hb7, hg7⟩
      · have := hle h4
        (repeat (first | (apply WL.add; rfl; rfl; rfl; rfl; omega; omega) | (apply WL.pure; rfl; rfl; rfl) | (apply WL.nil) | (apply EX.thenN) | (apply CW.region) | (apply EX.inN) | (apply CW.skip)))
        refine EX.back (i + 1, c') (by repeat (first | exact trivial | refine ⟨rfl, ?_⟩)) ⟨hg7, hb7, by simp only; omega, by simp only; omega, by simp only; omega, ?_⟩ (by simp only; omega)
        simp only
        rw [if_neg (by simp [h4])]
    · (repeat (first | (apply WL.pure; rfl; rfl; rfl) | (apply WL.nil) | (apply EX.thenN) | (apply CW.seq) | (apply CW.region) | (apply CW.exit) | (apply EX.thenX) | (apply EX.inX) | (apply CW.ret)))
      refine EX.ret1 rfl rfl ?_
      rw [List.drop_eq_nil_of_le (by omega)]
      exact ⟨rfl, hb4, hg4⟩
theorem ltlCheck (w : World) {F : Nat → Prop} {t : Ltl} {ao : Option Addr} {cap : Nat} (hs : Sl w F ao cap t.kids) (hF : ∀ b, F b → b < w.heap.size) :
    Rt Tryz.prog 36 [ltlV t.k t.n ao t.kids.length cap].toArray w fun v w' => v = .int .i64 (chkF t 1 0).1 ∧ Ext w w' := by
  refine Rt.enter1 Tryz.func36 Tryz.ntmps36 rfl rfl ?_
  (repeat (first | (apply CW.seq) | (apply CW.region)))
  refine WL.boxB rfl rfl rfl fun w1 hf hE1 => ?_
  (repeat (first | (apply WL.pure; rfl; rfl; rfl) | (apply WL.nil) | (apply EX.thenN) | (apply CW.seq) | (apply CW.region)))
  refine WL.alloc rfl rfl (fun w2 hb hE2 => ?_)
  have hlt := hb.lt
  refine WL.st rfl rfl rfl hb rfl rfl (ones_of rfl) (fun w3 hb hgr => ?_)
  have hE12 := hE1.trans hE2
  have hE3 : Ext w w3 := hE12.grown hgr hE12.size (fun g hg => by cases hg; exact hE1.size)
  have hf3 := (hf.ext hE2).kept hgr (by have := hf.lt; simp; omega)
  have hw1 : w.heap.size ≤ w1.heap.size := hE1.size
  (repeat (first | (apply WL.nil) | (apply EX.thenN) | (apply CW.seq) | (apply CW.region) | (apply WL.ldA; rfl; rfl; rfl; assumption; rfl)))
  refine WL.call rfl rfl rfl (ltlCheck0_ok t.nodes t (Nat.le_refl _) w3 F 1 0 w1.heap.size ao cap (hs.mono (fun b hb => hE3.block b (hF b hb)) fun _ h => h) (fun b hb => Nat.lt_of_lt_of_le (hF b hb) hE3.size) (fun h => by have := hF _ h; omega) hb (by omega) (by omega) (by omega) (by omega)) ?_
  rintro v w4 ⟨rfl, hb4, hg4⟩
  (repeat (first | (apply WL.pure; rfl; rfl; rfl) | (apply WL.nil) | (apply EX.thenN) | (apply CW.ret)))
  exact EX.ret1 rfl rfl ⟨rfl, hE3.grown hg4 hE3.size (fun g hg => by cases hg; exact hE1.size)⟩
end Go.Proofs.YtikigaeihdmcaaaGreatDoor

