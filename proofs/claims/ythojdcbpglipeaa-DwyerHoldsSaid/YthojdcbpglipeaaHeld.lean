/-
  Regions whose order is open and which change memory: what only reads is taken first, what changes memory comes alone. Over any program.
-/
import Derived.Test.YthojdcbpglipeaaNum
import Derived.OrdersHeld
set_option linter.unusedVariables false
set_option linter.unusedSimpArgs false
namespace Go.Proofs.Ythojdcbpglipeaa
open Go.RowKit

def nthO : List Oper → Nat → Option Oper
  | [], _ => none
  | o :: _, 0 => some o
  | _ :: r, i + 1 => nthO r i
theorem nthO_eq : ∀ (l : List Oper) (i : Nat), nthO l i = l[i]?
  | [], i => by simp [nthO]
  | o :: r, 0 => by simp [nthO]
  | o :: r, i + 1 => by simp [nthO, nthO_eq r i]
/-- an order that stands for all: (i, true): number i may be taken first; (i, false): nothing else may come -/
def ordB (ops : Array Oper) : List (Nat × Bool) → Array Bool → Bool
  | [], listed => (Region.ready .any ops listed).isEmpty
  | (i, true) :: r, listed => (Region.ready .any ops listed).contains i && Region.free .any ops listed i && ordB ops r (listed.setIfInBounds i true)
  | (i, false) :: r, listed => decide (Region.ready .any ops listed = [i]) && ordB ops r (listed.setIfInBounds i true)
def ordOk (l : List Oper) (ord : List (Nat × Bool)) : Bool := Region.noSelect l.toArray && decide (ord.length = l.length) && ordB l.toArray ord (Array.replicate l.length false)

/-- the walk along the order -/
def wpHL (P : Program) (ops : List Oper) (S : World → Prop) (Q : Act → World → Prop) : List (Nat × Bool) → Act → World → Prop
  | [], a, w => Q a w
  | (i, true) :: r, a, w => ∃ o v, ops[i]? = some o ∧ YieldsIf P ops.toArray S o v a ∧ wpHL P ops S Q r (a.put o.dst v) w
  | (i, false) :: r, a, w => ∃ o, ops[i]? = some o ∧ (if Region.wanted o (yielded ops.toArray a.tmps) = true then o.wp P a w (fun a' w' => S w' ∧ wpHL P ops S Q r a' w') (fun e a w => e = .normal ∧ Q a w) else S w ∧ wpHL P ops S Q r (a.put o.dst undef) w)

theorem wpHL_sound {P : Program} {ops : List Oper} {S : World → Prop} {Q : Act → World → Prop} (hs : Region.noSelect ops.toArray = true) :
    ∀ (ord : List (Nat × Bool)) (listed : Array Bool) (a : Act) (w : World), ordB ops.toArray ord listed = true → S w → wpHL P ops S Q ord a w → wpAnyH P .any ops.toArray (fun e a w => e = .normal ∧ Q a w) S ord.length listed a w
  | [], listed, a, w, hB, _, h => by
    simp only [ordB, List.isEmpty_iff] at hB
    exact ⟨hB, rfl, h⟩
  | (i, true) :: r, listed, a, w, hB, hS, ⟨o, v, ho, hy, h⟩ => by
    simp only [ordB, Bool.and_eq_true] at hB
    exact wpAnyH_take (by simpa using ho) hs hB.1.2 hB.1.1 (fun _ _ _ h => by cases h.1) hy hS (wpHL_sound hs r _ _ _ hB.2 hS h)
  | (i, false) :: r, listed, a, w, hB, hS, ⟨o, ho, h⟩ => by
    simp only [ordB, Bool.and_eq_true, decide_eq_true_eq] at hB
    refine wpAnyH_all hB.1 (by simp) ?_
    intro j hj
    have hji : j = i := by simpa using hj
    subst hji
    have ho' : ops.toArray[j]? = some o := by simpa using ho
    unfold wpOp
    simp only [ho']
    split
    · rename_i hw
      rw [if_pos hw] at h
      exact .inl (Oper.wp_mono (fun a' w' h' => ⟨h'.1, wpHL_sound hs r _ _ _ hB.2 h'.1 h'.2⟩) h)
    · rename_i hw
      rw [if_neg hw] at h
      exact ⟨h.1, wpHL_sound hs r _ _ _ hB.2 h.1 h.2⟩

@[irreducible] def HL (P : Program) (ops : List Oper) (S : World → Prop) (Q : Exit → Act → World → Prop) (ord : List (Nat × Bool)) (n : Nat) (σ : Sg) (w : World) : Prop :=
  ∀ a, Fr n σ a → wpHL P ops S (fun a w => Q .normal a w) ord a w
/-- behind the draw -/
abbrev drew (w : World) : World := { w with drawn := w.drawn + 1 }
theorem Ext.drew (w : World) : Ext w (drew w) := ⟨rfl, rfl, rfl, Nat.le_refl _, fun _ _ => rfl⟩
/-- behind one operation -/
def AfterOp (P : Program) (ops : List Oper) (S : World → Prop) (Q : Exit → Act → World → Prop) (ord : List (Nat × Bool)) : Exit → Act → World → Prop :=
  fun e a w => e = .normal ∧ S w ∧ wpHL P ops S (fun a w => Q .normal a w) ord a w

section
variable {P : Program} {Q : Exit → Act → World → Prop} {n : Nat} {σ : Sg} {w : World} {L : List Oper} {S : World → Prop} {rest : List (Nat × Bool)} {i d : Nat} {op : Op} {ty : TypeId} {pos : String} {af : Array Edge} {g : Option (Nat × Bool)}

theorem CW.drawH {id : Nat} (S : World → Prop) (ord : List (Nat × Bool)) (hm : P.follows .mixedOrders = true) (hB : ordOk L ord = true) (hS : S (drew w)) (h : HL P L S Q ord n σ (drew w)) : CW P (.region id L.toArray true) Q n σ w := by
  unfold CW; unfold HL at h; intro a ha
  simp only [ordOk, Bool.and_eq_true, decide_eq_true_eq] at hB
  obtain ⟨⟨hs, hl⟩, hB⟩ := hB
  have h1 := wpHL_sound hs ord (Array.replicate L.length false) a (Go.Proofs.Ythojdcbpglipeaa.drew w) hB hS (h a ha)
  rw [hl] at h1
  have h2 := wp_region_held (id := id) (S := S) hm (w := w) (ops := L.toArray) (by simpa using h1)
  exact wp_mono h2 (fun e a' w' ⟨he, hq⟩ => by subst he; exact hq)
theorem HL.nil (h : EX Q .normal n σ w) : HL P L S Q [] n σ w := by
  unfold HL; unfold EX at h; exact fun a ha => h a ha
theorem HL.run {v : Value} (ho : nthO L i = some ⟨some d, op, ty, pos, af, g⟩) (hg : gd L σ ⟨some d, op, ty, pos, af, g⟩ = some true) (hd : Nat.ble (d + 1) n = true)
    (hr : ∀ a, Fr n σ a → ∀ w', S w' → (execOp a.eval ⟨some d, op, ty, pos, af, g⟩).run P w' = .ok (.value v) w') (h : HL P L S Q rest n ((d, v) :: σ) w) : HL P L S Q ((i, true) :: rest) n σ w := by
  unfold HL at *
  intro a ha
  rw [nthO_eq] at ho
  exact ⟨_, v, ho, .inl ⟨gd_wanted ha hg, fun w' hw' => hr a ha w' hw'⟩, h _ (ha.put (d := some d) hd)⟩
theorem HL.pure {v : Value} (ho : nthO L i = some ⟨some d, op, ty, pos, af, g⟩) (hg : gd L σ ⟨some d, op, ty, pos, af, g⟩ = some true) (hd : Nat.ble (d + 1) n = true)
    (hv : pureOp σ op = some v) (h : HL P L S Q rest n ((d, v) :: σ) w) : HL P L S Q ((i, true) :: rest) n σ w :=
  HL.run ho hg hd (fun a ha _ _ => pureOp_run ha hv) h
theorem HL.pass (ho : nthO L i = some ⟨some d, op, ty, pos, af, g⟩) (hg : gd L σ ⟨some d, op, ty, pos, af, g⟩ = some false) (hd : Nat.ble (d + 1) n = true)
    (h : HL P L S Q rest n ((d, undef) :: σ) w) : HL P L S Q ((i, true) :: rest) n σ w := by
  unfold HL at *
  intro a ha
  rw [nthO_eq] at ho
  exact ⟨_, undef, ho, .inr ⟨gd_wanted ha hg, rfl⟩, h _ (ha.put (d := some d) hd)⟩
theorem HL.passF (ho : nthO L i = some ⟨some d, op, ty, pos, af, g⟩) (hg : gd L σ ⟨some d, op, ty, pos, af, g⟩ = some false) (hd : Nat.ble (d + 1) n = true) (hS : S w)
    (h : HL P L S Q rest n ((d, undef) :: σ) w) : HL P L S Q ((i, false) :: rest) n σ w := by
  unfold HL at *
  intro a ha
  rw [nthO_eq] at ho
  refine ⟨_, ho, ?_⟩
  rw [gd_wanted ha hg, if_neg (by simp)]
  exact ⟨hS, h _ (ha.put (d := some d) hd)⟩
theorem HL.passU (ho : nthO L i = some ⟨none, op, ty, pos, af, g⟩) (hg : gd L σ ⟨none, op, ty, pos, af, g⟩ = some false) (hS : S w)
    (h : HL P L S Q rest n σ w) : HL P L S Q ((i, false) :: rest) n σ w := by
  unfold HL at *
  intro a ha
  rw [nthO_eq] at ho
  refine ⟨_, ho, ?_⟩
  rw [gd_wanted ha hg, if_neg (by simp)]
  exact ⟨hS, h _ ha⟩
theorem HL.look {s : Nat} {b : Bool} {ord : List (Nat × Bool)} (hs : fnd σ s = some (.bool b)) (ht : b = true → HL P L S Q ord n ((s, .bool true) :: σ) w) (hf : b = false → HL P L S Q ord n ((s, .bool false) :: σ) w) : HL P L S Q ord n σ w := by
  unfold HL at *
  intro a ha
  cases b with
  | true => exact ht rfl a (ha.set hs)
  | false => exact hf rfl a (ha.set hs)
theorem HL.lookG {o : Oper} {j s : Nat} {want b t : Bool} (ho : nthO L i = some o) (hgd : o.guard = some (j, want)) (hj : gslot L j = some s) (hs : fnd σ s = some (.bool b)) (ht : b = true → HL P L S Q ((i, t) :: rest) n ((s, .bool true) :: σ) w)
    (hf : b = false → HL P L S Q ((i, t) :: rest) n ((s, .bool false) :: σ) w) : HL P L S Q ((i, t) :: rest) n σ w := HL.look hs ht hf
theorem HL.lookP {s : Nat} {x y : Operand} {b t : Bool} (ho : nthO L i = some ⟨some d, .pick (.tmp s) x y, ty, pos, af, g⟩) (hs : fnd σ s = some (.bool b)) (ht : b = true → HL P L S Q ((i, t) :: rest) n ((s, .bool true) :: σ) w)
    (hf : b = false → HL P L S Q ((i, t) :: rest) n ((s, .bool false) :: σ) w) : HL P L S Q ((i, t) :: rest) n σ w := HL.look hs ht hf
/-- an operation that changes memory, by the rule for its like where the order is fixed -/
theorem HL.mut {o : Oper} (ho : nthO L i = some o) (h : WL P L (AfterOp P L S Q rest) [o] n σ w) : HL P L S Q ((i, false) :: rest) n σ w := by
  unfold HL; unfold WL at h
  intro a ha
  rw [nthO_eq] at ho
  have h1 := h a ha
  refine ⟨o, ho, ?_⟩
  have h2 : wpList P L.toArray (AfterOp P L S Q rest) [o] a w := h1
  simp only [wpList] at h2
  split
  · rename_i hw
    rw [if_pos hw] at h2
    rcases h2 with h2 | ⟨_, hlets⟩
    · unfold Oper.wp at *
      generalize (execOp a.eval o).run P w = r at *
      cases r with
      | ok k w' =>
        cases k <;> simp only [Oper.upon] at h2 ⊢ <;> first
          | exact h2.2
          | exact h2
          | (refine Calls.mono h2 (fun e w'' he => ?_); cases e <;> first | exact he.2 | (exact absurd he.1 (by simp)) | (obtain ⟨_, _, hx⟩ := he; exact absurd hx.1 (by simp)))
          | exact Rows.mono h2 (fun _ _ he => he.2)
      | halt x w' => cases x <;> simp only [Oper.upon] at h2 ⊢ <;> first | exact h2 | (exact absurd h2.1 (by simp))
    · obtain ⟨_, _, hx⟩ := hlets
      exact absurd hx.1 (by simp)
  · rename_i hw
    rw [if_neg hw] at h2
    exact h2.2
theorem EX.mut (hS : S w) (h : HL P L S Q rest n σ w) : EX (AfterOp P L S Q rest) .normal n σ w := by
  unfold EX; unfold HL at h; exact fun a ha => ⟨rfl, hS, h a ha⟩
end
section
variable {P : Program} {Q : Exit → Act → World → Prop} {n : Nat} {σ : Sg} {w wc : World} {L : List Oper} {S : World → Prop} {rest : List (Nat × Bool)} {i d : Nat} {op : Op} {ty : TypeId} {pos : String} {af : Array Edge} {g : Option (Nat × Bool)} {t yt e : TypeId} {x y : Operand} {b o : Nat} {cells : List Value}
theorem HL.add {t yt : TypeId} {x y : Operand} {a b : Int} (ho : nthO L i = some ⟨some d, .binOp .add t x y yt, ty, pos, af, g⟩) (hg : gd L σ ⟨some d, .binOp .add t x y yt, ty, pos, af, g⟩ = some true) (hd : Nat.ble (d + 1) n = true)
    (hx : ev σ x = some (.int .i64 a)) (hy : ev σ y = some (.int .i64 b)) (h0 : -9223372036854775808 ≤ a + b) (h1 : a + b < 9223372036854775808) (h : HL P L S Q rest n ((d, .int .i64 (a + b)) :: σ) wc) : HL P L S Q ((i, true) :: rest) n σ wc := by
  refine HL.pure ho hg hd (v := .int .i64 (a + b)) ?_ h
  simp only [pureOp, hx, hy, pbin]
  rw [wrap_in h0 h1]
theorem HL.sub' {t yt : TypeId} {x y : Operand} {a b : Int} (ho : nthO L i = some ⟨some d, .binOp .sub t x y yt, ty, pos, af, g⟩) (hg : gd L σ ⟨some d, .binOp .sub t x y yt, ty, pos, af, g⟩ = some true) (hd : Nat.ble (d + 1) n = true)
    (hx : ev σ x = some (.int .i64 a)) (hy : ev σ y = some (.int .i64 b)) (h0 : -9223372036854775808 ≤ a - b) (h1 : a - b < 9223372036854775808) (h : HL P L S Q rest n ((d, .int .i64 (a - b)) :: σ) wc) : HL P L S Q ((i, true) :: rest) n σ wc := by
  refine HL.pure ho hg hd (v := .int .i64 (a - b)) ?_ h
  simp only [pureOp, hx, hy, pbin]
  rw [wrap_in h0 h1]
theorem HL.mul {t yt : TypeId} {x y : Operand} {a b : Int} (ho : nthO L i = some ⟨some d, .binOp .mul t x y yt, ty, pos, af, g⟩) (hg : gd L σ ⟨some d, .binOp .mul t x y yt, ty, pos, af, g⟩ = some true) (hd : Nat.ble (d + 1) n = true)
    (hx : ev σ x = some (.int .i64 a)) (hy : ev σ y = some (.int .i64 b)) (h0 : -9223372036854775808 ≤ a * b) (h1 : a * b < 9223372036854775808) (h : HL P L S Q rest n ((d, .int .i64 (a * b)) :: σ) wc) : HL P L S Q ((i, true) :: rest) n σ wc := by
  refine HL.pure ho hg hd (v := .int .i64 (a * b)) ?_ h
  simp only [pureOp, hx, hy, pbin]
  rw [wrap_in h0 h1]
theorem HL.eqB {a b : Bool} (ho : nthO L i = some ⟨some d, .binOp .eql t x y yt, ty, pos, af, g⟩) (hg : gd L σ ⟨some d, .binOp .eql t x y yt, ty, pos, af, g⟩ = some true) (hd : Nat.ble (d + 1) n = true) (hx : ev σ x = some (.bool a)) (hy : ev σ y = some (.bool b)) [hb : IsB P t]
    (h : HL P L S Q rest n ((d, .bool (a == b)) :: σ) wc) : HL P L S Q ((i, true) :: rest) n σ wc := by
  refine HL.run ho hg hd (fun c hc w' _ => ?_) h
  have := run_eqB (P := P) (t := t) (x := x) (y := y) a b w'
  simp only [execOp, hc.ev hx, hc.ev hy]
  rw [Sem.run_bind, this]; rfl
theorem HL.neB {a b : Bool} (ho : nthO L i = some ⟨some d, .binOp .neq t x y yt, ty, pos, af, g⟩) (hg : gd L σ ⟨some d, .binOp .neq t x y yt, ty, pos, af, g⟩ = some true) (hd : Nat.ble (d + 1) n = true) (hx : ev σ x = some (.bool a)) (hy : ev σ y = some (.bool b)) [hb : IsB P t]
    (h : HL P L S Q rest n ((d, .bool (a != b)) :: σ) wc) : HL P L S Q ((i, true) :: rest) n σ wc := by
  refine HL.run ho hg hd (fun c hc w' _ => ?_) h
  have := run_neB (P := P) (t := t) (x := x) (y := y) a b w'
  simp only [execOp, hc.ev hx, hc.ev hy]
  rw [Sem.run_bind, this]; rfl
theorem HL.lenS {t e : TypeId} {x : Operand} {ao : Option Addr} {k cap : Nat} (ho : nthO L i = some ⟨some d, .call ⟨.builtin .len, #[x], #[t]⟩, ty, pos, af, g⟩) (hg : gd L σ ⟨some d, .call ⟨.builtin .len, #[x], #[t]⟩, ty, pos, af, g⟩ = some true) (hd : Nat.ble (d + 1) n = true)
    (hx : ev σ x = some (.slice ao k cap)) [hs : IsS P t e] (h : HL P L S Q rest n ((d, .int .i64 (k : Int)) :: σ) wc) : HL P L S Q ((i, true) :: rest) n σ wc := by
  refine HL.run ho hg hd (fun a ha _ _ => ?_) h
  simp [execOp, resolve, invoke, builtin, ha.ev hx, Builtin.len_, run_underlying hs.ok, goInt]
theorem HL.makeFunc {fn : Fn} {fs cs : List Operand} {fv cv : List Value} (ho : nthO L i = some ⟨some d, .makeFunc fn fs.toArray cs.toArray, ty, pos, af, g⟩) (hg : gd L σ ⟨some d, .makeFunc fn fs.toArray cs.toArray, ty, pos, af, g⟩ = some true) (hd : Nat.ble (d + 1) n = true)
    (hf : evs σ fs = some fv) (hc : evs σ cs = some cv) (h : HL P L S Q rest n ((d, .func fn fv.toArray cv.toArray) :: σ) wc) : HL P L S Q ((i, true) :: rest) n σ wc := by
  refine HL.run ho hg hd (fun a ha _ _ => ?_) h
  have e1 := evs_eq ha fs fv hf
  have e2 := evs_eq ha cs cv hc
  simp [execOp, Instr.makeFunc, e1, e2]
theorem HL.fa {f k : Nat} (ho : nthO L i = some ⟨some d, .fieldAddr t x f, ty, pos, af, g⟩) (hg : gd L σ ⟨some d, .fieldAddr t x f, ty, pos, af, g⟩ = some true) (hd : Nat.ble (d + 1) n = true) (hx : ev σ x = some (.pointer (some ⟨b, o, none⟩))) [hf : IsFd P t f k]
    (h : HL P L S Q rest n ((d, .pointer (some ⟨b, o + k, none⟩)) :: σ) wc) : HL P L S Q ((i, true) :: rest) n σ wc := by
  refine HL.run ho hg hd (fun a ha w' _ => ?_) h
  simp [execOp, ha.ev hx, run_fa (P := P) (t := t) (f := f) (k := k)]
theorem HL.ld {v : Value} (hSE : ∀ w1, S w1 → Ext w w1) (ho : nthO L i = some ⟨some d, .load t x, ty, pos, af, g⟩) (hg : gd L σ ⟨some d, .load t x, ty, pos, af, g⟩ = some true) (hd : Nat.ble (d + 1) n = true) (hx : ev σ x = some (.pointer (some ⟨b, o, none⟩))) [hc : IsC P t 1 false] (hb : Blk w b e cells) (hv : nthV cells o = some v)
    (h : HL P L S Q rest n ((d, v) :: σ) wc) : HL P L S Q ((i, true) :: rest) n σ wc := by
  refine HL.run ho hg hd (fun a ha w' hsw => ?_) h
  have hE := hSE _ hsw
  simp [execOp, ha.ev hx, run_ld (P := P) (t := t) w' (hb.ext hE) hv]
theorem HL.ldA {vs : List Value} {k : Nat} (hSE : ∀ w1, S w1 → Ext w w1) (ho : nthO L i = some ⟨some d, .load t x, ty, pos, af, g⟩) (hg : gd L σ ⟨some d, .load t x, ty, pos, af, g⟩ = some true) (hd : Nat.ble (d + 1) n = true) (hx : ev σ x = some (.pointer (some ⟨b, o, none⟩))) [hc : IsC P t k true] (hb : Blk w b e cells) (hv : segL cells o k = some vs)
    (h : HL P L S Q rest n ((d, .agg vs.toArray) :: σ) wc) : HL P L S Q ((i, true) :: rest) n σ wc := by
  refine HL.run ho hg hd (fun a ha w' hsw => ?_) h
  have hE := hSE _ hsw
  simp [execOp, ha.ev hx, run_ldA (P := P) (t := t) w' (hb.ext hE) hv]
theorem HL.nck {p : Addr} (ho : nthO L i = some ⟨some d, .nilCheck x, ty, pos, af, g⟩) (hg : gd L σ ⟨some d, .nilCheck x, ty, pos, af, g⟩ = some true) (hd : Nat.ble (d + 1) n = true) (hx : ev σ x = some (.pointer (some p)))
    (h : HL P L S Q rest n ((d, .pointer (some p)) :: σ) wc) : HL P L S Q ((i, true) :: rest) n σ wc := by
  refine HL.run ho hg hd (fun a ha _ _ => ?_) h
  simp [execOp, ha.ev hx]
theorem HL.shrN {a s : Nat} (ho : nthO L i = some ⟨some d, .binOp .shr t x y yt, ty, pos, af, g⟩) (hg : gd L σ ⟨some d, .binOp .shr t x y yt, ty, pos, af, g⟩ = some true) (hd : Nat.ble (d + 1) n = true) (hx : ev σ x = some (.int .u64 (a : Int))) (hy : ev σ y = some (.int .i64 (s : Int))) (ha : a < 18446744073709551616)
    (h : HL P L S Q rest n ((d, .int .u64 ((a >>> s : Nat) : Int)) :: σ) wc) : HL P L S Q ((i, true) :: rest) n σ wc := by
  refine HL.run ho hg hd (fun a0 ha0 w1 _ => ?_) h
  have := run_shrN P w1 a s ha t
  simp [execOp, ha0.ev hx, ha0.ev hy, eqG (op := .shr) rfl, this]
theorem HL.shrI {a : Nat} {s : Int} (ho : nthO L i = some ⟨some d, .binOp .shr t x y yt, ty, pos, af, g⟩) (hg : gd L σ ⟨some d, .binOp .shr t x y yt, ty, pos, af, g⟩ = some true) (hd : Nat.ble (d + 1) n = true) (hx : ev σ x = some (.int .u64 (a : Int))) (hy : ev σ y = some (.int .i64 s)) (ha : a < 18446744073709551616) (hs : 0 ≤ s)
    (h : HL P L S Q rest n ((d, .int .u64 ((a >>> s.toNat : Nat) : Int)) :: σ) wc) : HL P L S Q ((i, true) :: rest) n σ wc := by
  refine HL.run ho hg hd (fun a0 ha0 w1 _ => ?_) h
  have := run_shrI P w1 a s ha hs t
  simp [execOp, ha0.ev hx, ha0.ev hy, eqG (op := .shr) rfl, this]
theorem HL.andN {a b : Nat} (ho : nthO L i = some ⟨some d, .binOp .and t x y yt, ty, pos, af, g⟩) (hg : gd L σ ⟨some d, .binOp .and t x y yt, ty, pos, af, g⟩ = some true) (hd : Nat.ble (d + 1) n = true) (hx : ev σ x = some (.int .u64 (a : Int))) (hy : ev σ y = some (.int .u64 (b : Int))) (ha : a < 18446744073709551616) (hb : b < 18446744073709551616)
    (h : HL P L S Q rest n ((d, .int .u64 ((a &&& b : Nat) : Int)) :: σ) wc) : HL P L S Q ((i, true) :: rest) n σ wc := by
  refine HL.run ho hg hd (fun a0 ha0 w1 _ => ?_) h
  have := run_andN P w1 a b ha hb t
  simp [execOp, ha0.ev hx, ha0.ev hy, eqG (op := .and) rfl, this]
theorem HL.and1 {a : Nat} (ho : nthO L i = some ⟨some d, .binOp .and t x y yt, ty, pos, af, g⟩) (hg : gd L σ ⟨some d, .binOp .and t x y yt, ty, pos, af, g⟩ = some true) (hd : Nat.ble (d + 1) n = true) (hx : ev σ x = some (.int .u64 (a : Int))) (hy : ev σ y = some (.int .u64 1)) (ha : a < 18446744073709551616)
    (h : HL P L S Q rest n ((d, .int .u64 ((a &&& 1 : Nat) : Int)) :: σ) wc) : HL P L S Q ((i, true) :: rest) n σ wc := by
  refine HL.run ho hg hd (fun a0 ha0 w1 _ => ?_) h
  have : (binOp .and t (.int .u64 (a : Int)) (.int .u64 1)).run P w1 = .ok (.int .u64 ((a &&& 1 : Nat) : Int)) w1 := run_andN P w1 a 1 ha (by omega) t
  simp [execOp, ha0.ev hx, ha0.ev hy, eqG (op := .and) rfl, this]
theorem HL.orN {a b : Nat} (ho : nthO L i = some ⟨some d, .binOp .or t x y yt, ty, pos, af, g⟩) (hg : gd L σ ⟨some d, .binOp .or t x y yt, ty, pos, af, g⟩ = some true) (hd : Nat.ble (d + 1) n = true) (hx : ev σ x = some (.int .u64 (a : Int))) (hy : ev σ y = some (.int .u64 (b : Int))) (ha : a < 18446744073709551616) (hb : b < 18446744073709551616)
    (h : HL P L S Q rest n ((d, .int .u64 ((a ||| b : Nat) : Int)) :: σ) wc) : HL P L S Q ((i, true) :: rest) n σ wc := by
  refine HL.run ho hg hd (fun a0 ha0 w1 _ => ?_) h
  have := run_orN P w1 a b ha hb t
  simp [execOp, ha0.ev hx, ha0.ev hy, eqG (op := .or) rfl, this]
theorem HL.rem {a b : Int} {k : IntKind} (ho : nthO L i = some ⟨some d, .binOp .rem t x y yt, ty, pos, af, g⟩) (hg : gd L σ ⟨some d, .binOp .rem t x y yt, ty, pos, af, g⟩ = some true) (hd : Nat.ble (d + 1) n = true) (hx : ev σ x = some (.int k a)) (hy : ev σ y = some (.int k b)) (ha : 0 ≤ a) (hb : 0 < b)
    (h : HL P L S Q rest n ((d, .int k (a % b)) :: σ) wc) : HL P L S Q ((i, true) :: rest) n σ wc := by
  refine HL.run ho hg hd (fun a0 ha0 w1 _ => ?_) h
  have := run_rem P w1 a b ha hb t k
  simp [execOp, ha0.ev hx, ha0.ev hy, eqG (op := .rem) rfl, this]
theorem HL.quo {a b : Int} (ho : nthO L i = some ⟨some d, .binOp .quo t x y yt, ty, pos, af, g⟩) (hg : gd L σ ⟨some d, .binOp .quo t x y yt, ty, pos, af, g⟩ = some true) (hd : Nat.ble (d + 1) n = true) (hx : ev σ x = some (.int .i64 a)) (hy : ev σ y = some (.int .i64 b)) (ha : 0 ≤ a) (hb : 0 < b) (hm : a < 9223372036854775808)
    (h : HL P L S Q rest n ((d, .int .i64 (a / b)) :: σ) wc) : HL P L S Q ((i, true) :: rest) n σ wc := by
  refine HL.run ho hg hd (fun a0 ha0 w1 _ => ?_) h
  have := run_quo P w1 a b ha hb hm t
  simp [execOp, ha0.ev hx, ha0.ev hy, eqG (op := .quo) rfl, this]
theorem HL.conv {a : Int} {k k' : IntKind} (ho : nthO L i = some ⟨some d, .convert t yt x, ty, pos, af, g⟩) (hg : gd L σ ⟨some d, .convert t yt x, ty, pos, af, g⟩ = some true) (hd : Nat.ble (d + 1) n = true) (hx : ev σ x = some (.int k a)) [h1 : IsI P t k] [h2 : IsI P yt k']
    (h : HL P L S Q rest n ((d, .int k' (k'.wrap a)) :: σ) wc) : HL P L S Q ((i, true) :: rest) n σ wc := by
  refine HL.run ho hg hd (fun a0 ha0 w1 _ => ?_) h
  simp [execOp, ha0.ev hx, convert, run_underlying h1.ok, run_underlying h2.ok, Conv.intToInt]
theorem HL.idx {α : Type} [Rep α] {t e : TypeId} {x ix : Operand} {b off : Nat} {k cap : Nat} {ii : Int} {kd : IntKind} (ho : nthO L i = some ⟨some d, .indexAddr t x ix, ty, pos, af, g⟩) (hg : gd L σ ⟨some d, .indexAddr t x ix, ty, pos, af, g⟩ = some true) (hd : Nat.ble (d + 1) n = true)
    (hx : ev σ x = some (.slice (some ⟨b, off, none⟩) k cap)) (hi : ev σ ix = some (.int kd ii)) [hs : IsS P t e] [ht : IsT P e α] (h0 : 0 ≤ ii) (h1 : ii < k)
    (h : HL P L S Q rest n ((d, .pointer (some ⟨b, off + ii.toNat * sz α, none⟩)) :: σ) wc) : HL P L S Q ((i, true) :: rest) n σ wc := by
  refine HL.run ho hg hd (fun a ha _ _ => ?_) h
  simp [execOp, ha.ev hx, ha.ev hi, Instr.indexAt, asIntOf, run_underlying hs.ok, h0, h1, run_sizeOf (α := α), WideShapes.add_plain]
theorem HL.load {α : Type} [Rep α] {t : TypeId} {x : Operand} {b off : Nat} {F : Nat → Prop} {cs : List Value} {y : α} (hSE : ∀ w1, S w1 → Ext w w1) (ho : nthO L i = some ⟨some d, .load t x, ty, pos, af, g⟩) (hg : gd L σ ⟨some d, .load t x, ty, pos, af, g⟩ = some true) (hd : Nat.ble (d + 1) n = true)
    (hx : ev σ x = some (.pointer (some ⟨b, off, none⟩))) [ht : IsT P t α] (hb : b < w.heap.size) (hF : ∀ b, F b → b < w.heap.size) (hc : Cells w b off cs) (hr : rd w F cs y)
    (h : HL P L S Q rest n ((d, vOf α cs) :: σ) wc) : HL P L S Q ((i, true) :: rest) n σ wc := by
  refine HL.run ho hg hd (fun a ha w' hsw => ?_) h
  have hw' := hSE _ hsw
  have hc' : Cells w' b off cs := hc.mono (hw'.block b hb)
  have hr' : rd w' F cs y := Rep.mono hr (fun k hk => hw'.block k (hF k hk)) fun _ h => h
  simp [execOp, ha.ev hx, Instr.loadAt, Instr.sureAddr, run_loadAt hc' hr']
theorem HL.build {parts : List (Nat × Operand)} {vs : List Value} {places : List (Nat × Nat)} {zs out : List Value} (ho : nthO L i = some ⟨some d, .build t parts.toArray, ty, pos, af, g⟩) (hg : gd L σ ⟨some d, .build t parts.toArray, ty, pos, af, g⟩ = some true) (hd : Nat.ble (d + 1) n = true)
    (hv : evs σ (sndL parts) = some vs) [hz : IsZC P t zs] [hp : IsBd P t places] (hf : fillL places zs ((parts.map (·.1)).zip vs) = some out)
    (h : HL P L S Q rest n ((d, .agg out.toArray) :: σ) wc) : HL P L S Q ((i, true) :: rest) n σ wc :=
  HL.run ho hg hd (fun a ha w1 _ => run_buildA ha hv hf) h
/-- append(x, y): y's own row of one, and the append -/
theorem HL.app1 {α : Type} [Rep α] {x0 : α} {bytes : Nat} {F : Nat → Prop} {i1 d1 : Nat} {ty1 : TypeId} {pos1 : String} {af1 : Array Edge} {g1 : Option (Nat × Bool)} {v u : Value} {xs : List α} {yv : α} {B : Nat}
    (ho1 : nthO L i1 = some ⟨some d1, .buildSlice t 1 [(0, y)].toArray, ty1, pos1, af1, g1⟩) (ho : nthO L i = some ⟨some d, .call ⟨.builtin .append, #[x, .tmp d1], #[t, t]⟩, ty, pos, af, g⟩)
    (hg1 : gd L σ ⟨some d1, .buildSlice t 1 [(0, y)].toArray, ty1, pos1, af1, g1⟩ = some true) (hd1 : Nat.ble (d1 + 1) n = true)
    (hg : ∀ u, gd L ((d1, .slice u 1 1) :: σ) ⟨some d, .call ⟨.builtin .append, #[x, .tmp d1], #[t, t]⟩, ty, pos, af, g⟩ = some true) (hd : Nat.ble (d + 1) n = true)
    (hy : ev σ y = some u) (hx : ∀ u, ev ((d1, .slice u 1 1) :: σ) x = some v) [hs : IsS P t e] [ht : IsT P e α] [hz : IsZ P e x0 bytes] (hown : Own wc B e F v xs) (hu : Rd wc F u yv) (hB : B ≤ wc.heap.size) (hF : ∀ b, F b → b < wc.heap.size)
    (hsz : sz α ≤ 16777216) (hm : xs.length + 1 ≤ maxLen) (hb : (xs.length + 1) * bytes ≤ 140737488355328) (hS : ∀ w', wc.grownBy w' v.ownBlock → S w')
    (h : ∀ v' w' p, Own w' B e F v' (xs ++ [yv]) → wc.grownBy w' v.ownBlock → (∀ g, v'.ownBlock = some g → v.ownBlock = some g ∨ wc.heap.size ≤ g) → HL P L S Q rest n ((d, v') :: (d1, .slice p 1 1) :: σ) w') :
    HL P L S Q ((i1, false) :: (i, false) :: rest) n σ wc := by
  refine HL.mut ho1 ?_
  refine WL.lit (vs := [u]) (ys := [yv]) hg1 hd1 rfl (by simp [sndL, evs, hy]) rfl ⟨hu, trivial⟩ (by simpa using hsz) hF (fun w1 ho1 hgr1 => ?_)
  have hsize : wc.heap.size ≤ w1.heap.size := hgr1.size
  have hkeep : Own w1 B e F v xs := hown.kept hgr1 (fun _ _ h => by cases h) fun b hb => ⟨hF b hb, fun h => by cases h⟩
  have g2 : wc.grownBy w1 v.ownBlock := ⟨hgr1.os, hgr1.tape, hgr1.output, hgr1.size, fun k hk _ => hgr1.block k hk (fun h => by cases h)⟩
  refine WL.nil (EX.mut (hS _ g2) ?_)
  refine HL.mut ho ?_
  refine WL.app (ys := [yv]) (hg _) hd (hx _) fnd_cons_eq hkeep ho1.src (Nat.le_trans hB hsize) (fun b hb => Nat.lt_of_lt_of_le (hF b hb) hsize) (by simpa using hm) (by simpa using hb) (fun v' w' ho' hgr hnb => ?_)
  have g3 : wc.grownBy w' v.ownBlock := ⟨hgr.os.trans hgr1.os, hgr.tape.trans hgr1.tape, hgr.output.trans hgr1.output, Nat.le_trans hsize hgr.size, fun k hk hne => (hgr.block k (Nat.lt_of_lt_of_le hk hsize) hne).trans (hgr1.block k hk (fun h => by cases h))⟩
  exact WL.nil (EX.mut (hS _ g3) (h v' w' _ ho' g3 (fun g hg => (hnb g hg).imp id (fun h => Nat.le_trans hsize h))))

end
end Go.Proofs.Ythojdcbpglipeaa
