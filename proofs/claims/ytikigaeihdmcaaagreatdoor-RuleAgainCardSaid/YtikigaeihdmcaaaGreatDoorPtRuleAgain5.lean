import Derived.Test.YtikigaeihdmcaaaGreatDoorPtRuleAgain4
/-
  Package declare: its check, what is seen, its small searches.
-/
set_option linter.unusedVariables false
set_option linter.unusedSimpArgs false
namespace Go.Proofs.YtikigaeihdmcaaaGreatDoor
open Go.RowKit

abbrev LTpl := Int × Int × Int × Int
abbrev tplV (t : LTpl) : Value := .agg [.int .i64 t.1, .int .i64 t.2.1, .int .i64 t.2.2.1, .int .i64 t.2.2.2].toArray
def countedB (k : Int) : Bool := decide (1 ≤ k ∧ k ≤ 3)
def chkT (t : LTpl) : Int :=
  if t.1 < 1 ∨ t.1 > 14 ∨ t.2.1 < 0 ∨ t.2.1 ≥ 63 ∨ t.2.2.1 < 0 ∨ t.2.2.1 ≥ 63 ∨ ((countedB t.1 || decide (t.1 = 4)) = true ∧ t.2.2.1 ≠ 0) then 1
  else if (countedB t.1 = true ∧ (t.2.2.2 < 1 ∨ t.2.2.2 > 3)) ∨ (countedB t.1 = false ∧ t.2.2.2 ≠ 0) then 1 else 0

theorem counted_ok (w : World) (k : Int) : Rt Tryz.prog 59 [.int .i64 k].toArray w fun v w' => v = .bool (countedB k) ∧ w = w' := by
  refine Rt.enter1 Tryz.func59 Tryz.ntmps59 rfl rfl ?_
  (repeat (first | (apply WL.pure; rfl; rfl; rfl) | (apply WL.nil) | (apply EX.thenN) | (apply CW.seq) | (apply CW.region)))
  (refine WL.lookG rfl rfl (fun h => ?_) (fun h => ?_)) <;> simp at h
  · (repeat (first | (apply WL.pure; rfl; rfl; rfl) | (apply WL.nil) | (apply EX.thenN) | (apply CW.ret)))
    refine EX.ret1 rfl rfl ⟨congrArg Value.bool ?_, rfl⟩
    unfold countedB
    (rw [Bool.eq_iff_iff]; simp; try omega)
  · (repeat (first | (apply WL.pure; rfl; rfl; rfl) | (apply WL.nil) | (apply EX.thenN) | (apply WL.pass; rfl; rfl) | (apply CW.ret)))
    refine EX.ret1 rfl rfl ⟨congrArg Value.bool ?_, rfl⟩
    unfold countedB
    (rw [Bool.eq_iff_iff]; simp; try omega)

theorem declareCheck (w : World) (t : LTpl) : Rt Tryz.prog 41 [tplV t].toArray w fun v w' => v = .int .i64 (chkT t) ∧ Ext w w' := by
  refine Rt.enter1 Tryz.func41 Tryz.ntmps41 rfl rfl ?_
  obtain ⟨k, A, B, c⟩ := t
  (repeat (first | (apply CW.seq) | (apply CW.region)))
  refine WL.boxB rfl rfl rfl fun w1 hb hE => ?_
  apply WL.pure; rfl; rfl; rfl
  apply WL.nil
  apply EX.thenN
  refine CW.cut [(1, .pointer (some ⟨w.heap.size, 0, none⟩)), (3, .bool (countedB k || decide (k = 4)))] ?_ ?_
  · (repeat (first | (apply CW.region) | (apply WL.fa; rfl; rfl; rfl) | (apply WL.ld; rfl; rfl; rfl; assumption; rfl)))
    refine WL.call rfl rfl rfl (counted_ok w1 k) ?_
    rintro v w2 ⟨rfl, rfl⟩
    (repeat (apply WL.pure; rfl; rfl; rfl))
    (refine WL.lookG rfl rfl (fun h => ?_) (fun h => ?_))
    · (repeat (first | (apply WL.pure; rfl; rfl; rfl) | (apply WL.nil) | (apply WL.pass; rfl; rfl)))
      refine EX.cut ⟨rfl, ?_, trivial⟩
      refine congrArg (fun b => some (Value.bool b)) ?_
      rw [h]; rfl
    · (repeat (first | (apply WL.pure; rfl; rfl; rfl) | (apply WL.nil) | (apply WL.fa; rfl; rfl; rfl) | (apply WL.ld; rfl; rfl; rfl; assumption; rfl)))
      refine EX.cut ⟨rfl, ?_, trivial⟩
      refine congrArg (fun b => some (Value.bool b)) ?_
      rw [h]
      (rw [Bool.eq_iff_iff]; simp; try omega)
  have e0 : chkT (k, A, B, c) = if k < 1 ∨ k > 14 ∨ A < 0 ∨ A ≥ 63 ∨ B < 0 ∨ B ≥ 63 ∨ ((countedB k || decide (k = 4)) = true ∧ B ≠ 0) then 1 else if (countedB k = true ∧ (c < 1 ∨ c > 3)) ∨ (countedB k = false ∧ c ≠ 0) then 1 else 0 := rfl
  rw [e0]
  clear e0
  generalize (countedB k || decide (k = 4)) = al
  apply CW.seq
  apply CW.block
  refine CW.cut [(1, .pointer (some ⟨w.heap.size, 0, none⟩)), (12, .bool (decide (k < 1 ∨ k > 14 ∨ A < 0 ∨ A ≥ 63 ∨ B < 0 ∨ B ≥ 63 ∨ (al = true ∧ B ≠ 0))))] ?_ ?_
  · (repeat (first | (apply WL.pure; rfl; rfl; rfl) | (apply CW.region) | (apply WL.fa; rfl; rfl; rfl) | (apply WL.ld; rfl; rfl; rfl; assumption; rfl)))
    (refine WL.lookG rfl rfl (fun h => ?_) (fun h => ?_)) <;> simp at h
    · (repeat (first | (apply WL.pure; rfl; rfl; rfl) | (apply WL.nil) | (apply WL.pass; rfl; rfl)))
      refine EX.cut ⟨rfl, ?_, trivial⟩
      refine congrArg (fun b => some (Value.bool b)) ?_
      simp; omega
    (repeat (first | (apply WL.pure; rfl; rfl; rfl) | (apply WL.fa; rfl; rfl; rfl) | (apply WL.ld; rfl; rfl; rfl; assumption; rfl)))
    (refine WL.lookG rfl rfl (fun h => ?_) (fun h => ?_)) <;> simp at h
    · (repeat (first | (apply WL.pure; rfl; rfl; rfl) | (apply WL.nil) | (apply WL.pass; rfl; rfl)))
      refine EX.cut ⟨rfl, ?_, trivial⟩
      refine congrArg (fun b => some (Value.bool b)) ?_
      simp; omega
    (repeat (first | (apply WL.pure; rfl; rfl; rfl) | (apply WL.fa; rfl; rfl; rfl) | (apply WL.ld; rfl; rfl; rfl; assumption; rfl)))
    (refine WL.lookG rfl rfl (fun h => ?_) (fun h => ?_)) <;> simp at h
    · (repeat (first | (apply WL.pure; rfl; rfl; rfl) | (apply WL.nil) | (apply WL.pass; rfl; rfl)))
      refine EX.cut ⟨rfl, ?_, trivial⟩
      refine congrArg (fun b => some (Value.bool b)) ?_
      simp; omega
    (repeat (first | (apply WL.pure; rfl; rfl; rfl) | (apply WL.fa; rfl; rfl; rfl) | (apply WL.ld; rfl; rfl; rfl; assumption; rfl)))
    (refine WL.lookG rfl rfl (fun h => ?_) (fun h => ?_)) <;> simp at h
    · (repeat (first | (apply WL.pure; rfl; rfl; rfl) | (apply WL.nil) | (apply WL.pass; rfl; rfl)))
      refine EX.cut ⟨rfl, ?_, trivial⟩
      refine congrArg (fun b => some (Value.bool b)) ?_
      simp; omega
    (repeat (first | (apply WL.pure; rfl; rfl; rfl) | (apply WL.fa; rfl; rfl; rfl) | (apply WL.ld; rfl; rfl; rfl; assumption; rfl)))
    (refine WL.lookG rfl rfl (fun h => ?_) (fun h => ?_)) <;> simp at h
    · (repeat (first | (apply WL.pure; rfl; rfl; rfl) | (apply WL.nil) | (apply WL.pass; rfl; rfl)))
      refine EX.cut ⟨rfl, ?_, trivial⟩
      refine congrArg (fun b => some (Value.bool b)) ?_
      simp; omega
    (repeat (first | (apply WL.pure; rfl; rfl; rfl) | (apply WL.fa; rfl; rfl; rfl) | (apply WL.ld; rfl; rfl; rfl; assumption; rfl)))
    (refine WL.lookG rfl rfl (fun h => ?_) (fun h => ?_)) <;> simp at h
    · (repeat (first | (apply WL.pure; rfl; rfl; rfl) | (apply WL.nil) | (apply WL.pass; rfl; rfl)))
      refine EX.cut ⟨rfl, ?_, trivial⟩
      refine congrArg (fun b => some (Value.bool b)) ?_
      simp; omega
    (repeat (apply WL.pure; rfl; rfl; rfl))
    (refine WL.lookG rfl rfl (fun h => ?_) (fun h => ?_))
    · subst h
      (repeat (first | (apply WL.pure; rfl; rfl; rfl) | (apply WL.nil) | (apply WL.fa; rfl; rfl; rfl) | (apply WL.ld; rfl; rfl; rfl; assumption; rfl)))
      refine EX.cut ⟨rfl, ?_, trivial⟩
      refine congrArg (fun b => some (Value.bool b)) ?_
      (rw [Bool.eq_iff_iff]; simp; try omega)
    · subst h
      (repeat (first | (apply WL.pure; rfl; rfl; rfl) | (apply WL.nil) | (apply WL.pass; rfl; rfl)))
      refine EX.cut ⟨rfl, ?_, trivial⟩
      refine congrArg (fun b => some (Value.bool b)) ?_
      simp; omega
  refine CW.cond rfl (fun h1 => ?_) (fun h1 => ?_)
  · rw [decide_eq_true_eq] at h1
    (repeat (first | (apply WL.pure; rfl; rfl; rfl) | (apply WL.nil) | (apply EX.thenN) | (apply CW.seq) | (apply CW.region) | (apply CW.ret) | (apply EX.thenR) | (apply EX.inR)))
    refine EX.ret1 rfl rfl ⟨?_, hE⟩
    rw [if_pos h1]
  · rw [decide_eq_false_iff_not] at h1
    rw [if_neg h1]
    (repeat (first | (apply CW.seq) | (apply CW.region) | (apply WL.fa; rfl; rfl; rfl) | (apply WL.ld; rfl; rfl; rfl; assumption; rfl)))
    refine WL.call rfl rfl rfl (counted_ok w1 k) ?_
    rintro v w2 ⟨rfl, rfl⟩
    (repeat (apply WL.pure; rfl; rfl; rfl))
    (refine WL.lookG rfl rfl (fun h => ?_) (fun h => ?_))
    · have hk := h
      (repeat (first | (apply WL.pure; rfl; rfl; rfl) | (apply WL.fa; rfl; rfl; rfl) | (apply WL.ld; rfl; rfl; rfl; assumption; rfl)))
      (refine WL.lookG rfl rfl (fun h => ?_) (fun h => ?_)) <;> simp at h
      · (repeat (first | (apply WL.pure; rfl; rfl; rfl) | (apply WL.nil) | (apply EX.thenN) | (apply CW.seq) | (apply CW.region) | (apply WL.pass; rfl; rfl) | (apply CW.condT; rfl) | (apply CW.ret) | (apply EX.thenR) | (apply EX.inR)))
        refine EX.ret1 rfl rfl ⟨?_, hE⟩
        rw [if_pos (.inl ⟨hk, .inl h⟩)]
      · (repeat (first | (apply WL.pure; rfl; rfl; rfl) | (apply WL.fa; rfl; rfl; rfl) | (apply WL.ld; rfl; rfl; rfl; assumption; rfl)))
        (refine WL.lookG rfl rfl (fun h => ?_) (fun h => ?_)) <;> simp at h
        · (repeat (first | (apply WL.pure; rfl; rfl; rfl) | (apply WL.nil) | (apply EX.thenN) | (apply CW.seq) | (apply CW.region) | (apply WL.pass; rfl; rfl) | (apply CW.condT; rfl) | (apply CW.ret) | (apply EX.thenR) | (apply EX.inR)))
          refine EX.ret1 rfl rfl ⟨?_, hE⟩
          rw [if_pos (.inl ⟨hk, .inr h⟩)]
        · (repeat (first | (apply WL.fa; rfl; rfl; rfl) | (apply WL.ld; rfl; rfl; rfl; assumption; rfl)))
          refine WL.call rfl rfl rfl (counted_ok w1 k) ?_
          rintro v w2 ⟨rfl, rfl⟩
          rw [hk]
          (repeat (first | (apply WL.pure; rfl; rfl; rfl) | (apply WL.nil) | (apply EX.thenN) | (apply CW.seq) | (apply CW.region) | (apply WL.pass; rfl; rfl) | (apply EX.inN) | (apply CW.condF; rfl) | (apply CW.ret) | (apply CW.skip)))
          refine EX.ret1 rfl rfl ⟨?_, hE⟩
          rw [if_neg]
          simp; omega
    · have hk := h
      (repeat (first | (apply WL.pure; rfl; rfl; rfl) | (apply WL.pass; rfl; rfl) | (apply WL.fa; rfl; rfl; rfl) | (apply WL.ld; rfl; rfl; rfl; assumption; rfl)))
      refine WL.call rfl rfl rfl (counted_ok w1 k) ?_
      rintro v w2 ⟨rfl, rfl⟩
      rw [hk]
      (repeat (first | (apply WL.pure; rfl; rfl; rfl) | (apply WL.nil) | (apply EX.thenN) | (apply WL.fa; rfl; rfl; rfl) | (apply WL.ld; rfl; rfl; rfl; assumption; rfl)))
      refine CW.cond rfl (fun h2 => ?_) (fun h2 => ?_) <;> simp at h2
      · (repeat (first | (apply WL.pure; rfl; rfl; rfl) | (apply WL.nil) | (apply EX.thenN) | (apply CW.seq) | (apply CW.region) | (apply CW.ret) | (apply EX.thenR) | (apply EX.inR)))
        refine EX.ret1 rfl rfl ⟨?_, hE⟩
        rw [if_pos (.inr ⟨rfl, h2⟩)]
      · (repeat (first | (apply WL.pure; rfl; rfl; rfl) | (apply WL.nil) | (apply EX.thenN) | (apply CW.seq) | (apply CW.region) | (apply EX.inN) | (apply CW.ret) | (apply CW.skip)))
        refine EX.ret1 rfl rfl ⟨?_, hE⟩
        rw [if_neg]
        simp; exact h2
end Go.Proofs.YtikigaeihdmcaaaGreatDoor

/-
  Rules: what is right: plain.
-/
set_option linter.unusedVariables false
set_option linter.unusedSimpArgs false
namespace Go.Proofs.YtikigaeihdmcaaaGreatDoor

abbrev LRule := ByteArray × Int × LPat × LTpl × Ltl × Ltl
def rnmL (nms : List ByteArray) (n : Int) (silent : Bool) : Bys :=
  if n = 63 ∧ silent = true then tSil else if n < 0 ∨ n ≥ (nms.length : Int) ∨ n ≥ 63 ∨ namedB (nms.getD n.toNat ⟨#[]⟩) = false ∨ idxB nms (nms.getD n.toNat ⟨#[]⟩).data.toList ≠ n then []
  else (nms.getD n.toNat ⟨#[]⟩).data.toList
def ownA (pt : LPat) : List Int := if pt.1 = 5 ∨ pt.1 = 6 then [pt.2.2.2.1, pt.2.2.1] else [pt.2.2.1]
def scopeA (pt : LPat) : List Int := if pt.2.1 = 2 then [pt.2.2.2.2.2.1] else if pt.2.1 = 3 then [pt.2.2.2.2.1] else if pt.2.1 = 4 ∨ pt.2.1 = 5 then [pt.2.2.2.2.1, pt.2.2.2.2.2.1] else []
def aloneB (k : Int) : Bool := decide (k ≤ 4)
/-- the atoms of a rule's part, and whether they may be silent -/
def atomsR (r : LRule) : List Int := if r.2.1 = 1 then ownA r.2.2.1 ++ scopeA r.2.2.1 else if r.2.1 = 2 then (if aloneB r.2.2.2.1.1 = true then [r.2.2.2.1.2.1] else [r.2.2.2.1.2.1, r.2.2.2.1.2.2.1]) else []
def partE0 (r : LRule) (nms : List ByteArray) : Int :=
  if r.2.1 = 1 then chkP r.2.2.1 else if r.2.1 = 2 then chkT r.2.2.2.1 else if r.2.1 = 3 then (printL r.2.2.2.2.1 nms).2 else if r.2.1 = 4 then (printC r.2.2.2.2.2 nms).2 else 0
def partE (r : LRule) (nms : List ByteArray) : Int :=
  if partE0 r nms = 0 ∧ (atomsR r).any (fun n => rnmL nms n (decide (r.2.1 = 1)) == []) = true then 4 else partE0 r nms
def patZ : LPat := (0, 0, 0, 0, 0, 0, 0)
def tplZ : LTpl := (0, 0, 0, 0)
def fillF (t : Ltl) : Bool := t.k != 0 || t.n != 0 || decide (0 < t.kids.length)
def otherB (r : LRule) : Bool := (r.2.1 != 1 && r.2.2.1 != patZ) || (r.2.1 != 2 && r.2.2.2.1 != tplZ) || (r.2.1 != 3 && fillF r.2.2.2.2.1) || (r.2.1 != 4 && fillF r.2.2.2.2.2)
def chkRl (r : LRule) (nms : List ByteArray) : Int :=
  if namedB r.1 = false ∨ r.2.1 < 1 ∨ r.2.1 > 4 then 1 else if partE r nms ≠ 0 then partE r nms else if otherB r = true then 1 else 0
end Go.Proofs.YtikigaeihdmcaaaGreatDoor

/-
  Texts: length, one byte.
-/
set_option linter.unusedVariables false
set_option linter.unusedSimpArgs false
namespace Go.Proofs.YtikigaeihdmcaaaGreatDoor
open Go.RowKit

class IsStr (P : Program) (t : TypeId) : Prop where
  ok : P.underlying t = some .string
instance iStrg1 : IsStr Tryz.prog 9 := ⟨Tryz.underlying9⟩
section
variable {P : Program} {Q : Exit → Act → World → Prop} {n : Nat} {σ : Sg} {w : World} {L rest : List Oper} {d : Nat} {op : Op} {ty : TypeId} {pos : String} {af : Array Edge} {g : Option (Nat × Bool)} {t : TypeId} {x ix : Operand}
/-- len(s), a text -/
theorem WL.lenT {s : ByteArray} (hg : gd L σ ⟨some d, .call ⟨.builtin .len, #[x], #[t]⟩, ty, pos, af, g⟩ = some true) (hd : Nat.ble (d + 1) n = true)
    (hx : ev σ x = some (.string s)) [hs : IsStr P t] (h : WL P L Q rest n ((d, .int .i64 (s.size : Int)) :: σ) w) : WL P L Q (⟨some d, .call ⟨.builtin .len, #[x], #[t]⟩, ty, pos, af, g⟩ :: rest) n σ w := by
  refine WL.run hg hd (fun a ha => ?_) h
  simp [execOp, resolve, invoke, builtin, ha.ev hx, Builtin.len_, run_underlying hs.ok, goInt]
theorem QL.lenT {s : ByteArray} (hg : gd L σ ⟨some d, .call ⟨.builtin .len, #[x], #[t]⟩, ty, pos, af, g⟩ = some true) (hd : Nat.ble (d + 1) n = true)
    (hx : ev σ x = some (.string s)) [hs : IsStr P t] (h : QL P L w Q rest n ((d, .int .i64 (s.size : Int)) :: σ)) : QL P L w Q (⟨some d, .call ⟨.builtin .len, #[x], #[t]⟩, ty, pos, af, g⟩ :: rest) n σ := by
  refine QL.run hg hd (fun a ha _ _ => ?_) h
  simp [execOp, resolve, invoke, builtin, ha.ev hx, Builtin.len_, run_underlying hs.ok, goInt]
/-- s[i] -/
theorem WL.byteT {s : ByteArray} {i : Nat} {kd : IntKind} (hg : gd L σ ⟨some d, .index t x ix, ty, pos, af, g⟩ = some true) (hd : Nat.ble (d + 1) n = true)
    (hx : ev σ x = some (.string s)) (hi : ev σ ix = some (.int kd (i : Int))) [hs : IsStr P t] (h1 : i < s.size) (h : WL P L Q rest n ((d, .int .u8 ((s[i]).toNat : Int)) :: σ) w) : WL P L Q (⟨some d, .index t x ix, ty, pos, af, g⟩ :: rest) n σ w := by
  refine WL.run hg hd (fun a ha => ?_) h
  have e : s[i]? = some s[i] := by simp [h1]
  simp [execOp, ha.ev hx, ha.ev hi, Instr.index, asIntOf, run_underlying hs.ok, e]
end
end Go.Proofs.YtikigaeihdmcaaaGreatDoor

/-
  Contracts of the generic functions of package slices, at the types where the program uses them.
-/
set_option linter.unusedVariables false
namespace Go.Proofs.YtikigaeihdmcaaaGreatDoor
open Go.RowKit

/-- the place of the first one that is so; -1: none is -/
def idxOf {α : Type} (p : α → Bool) (xs : List α) : Int := match xs.findIdx? p with | some i => (i : Int) | none => -1
theorem idxOf_here {α : Type} {p : α → Bool} {xs : List α} {k : Nat} (hk : k < xs.length) (hn : ∀ j (h : j < xs.length), j < k → p xs[j] = false) (hp : p xs[k] = true) : idxOf p xs = k := by
  have : xs.findIdx? p = some k := by
    rw [List.findIdx?_eq_some_iff_getElem]
    exact ⟨hk, hp, fun j hj => by simp [hn j (by omega) hj]⟩
  simp [idxOf, this]
theorem idxOf_none {α : Type} {p : α → Bool} {xs : List α} (hn : ∀ j (h : j < xs.length), p xs[j] = false) : idxOf p xs = -1 := by
  have : xs.findIdx? p = none := by
    rw [List.findIdx?_eq_none_iff]
    intro x hx
    obtain ⟨j, hj, rfl⟩ := List.mem_iff_getElem.1 hx
    exact hn j hj
  simp [idxOf, this]
theorem idxOf_any {α : Type} (p : α → Bool) (xs : List α) : decide (idxOf p xs ≥ 0) = xs.any p := by
  unfold idxOf
  cases h : xs.findIdx? p with
  | none =>
    rw [List.findIdx?_eq_none_iff] at h
    have : xs.any p = false := by rw [List.any_eq_false]; intro x hx; simp [h x hx]
    rw [this]; rfl
  | some i =>
    obtain ⟨h1, h2, _⟩ := List.findIdx?_eq_some_iff_getElem.1 h
    have : xs.any p = true := List.any_eq_true.2 ⟨xs[i], List.getElem_mem _, h2⟩
    rw [this]; simp

theorem indexFunc_int (w0 : World) {ao : Option Addr} {cap : Nat} {xs : List Int} {fv : Value} (p : Int → Bool) (hs : Sl w0 (Old w0) ao cap xs)
    (hf : ∀ w, Ext w0 w → ∀ i (h : i < xs.length), FnV Tryz.prog fv [.int .i64 xs[i]] w fun v w' => v = .bool (p xs[i]) ∧ Ext w w') :
    Rt Tryz.prog 60 [.slice ao xs.length cap, fv].toArray w0 fun v w' => v = .int .i64 (idxOf p xs) ∧ Ext w0 w' := by
  have hm := hs.len63
  refine Rt.enter2 Tryz.func60 Tryz.ntmps60 rfl rfl ?_
  (repeat (first | (apply WL.pure; rfl; rfl; rfl) | (apply WL.nil) | (apply EX.thenN) | (apply CW.seq) | (apply CW.region) | (apply WL.lenS; rfl; rfl; rfl) | (apply CW.block)))
  refine CW.loop (S := Nat) (fun k => [(0, .slice ao xs.length cap), (1, fv), (7, .int .i64 xs.length), (8, .int .i64 k)])
    (fun k w => k ≤ xs.length ∧ Ext w0 w ∧ ∀ j (h : j < xs.length), j < k → p xs[j] = false) (fun k => xs.length - k) 0 (by repeat (first | exact trivial | refine ⟨rfl, ?_⟩)) ⟨by omega, Ext.refl _, by omega⟩ ?_
  rintro k w ⟨hk, hB, hn⟩
  (repeat (first | (apply WL.pure; rfl; rfl; rfl) | (apply WL.nil) | (apply EX.thenN) | (apply CW.seq) | (apply CW.region)))
  refine CW.cond rfl (fun h => ?_) (fun h => ?_)
  · simp at h
    (repeat (first | (apply WL.pure; rfl; rfl; rfl) | (apply WL.nil) | (apply EX.thenN) | (apply CW.seq) | (apply CW.region) | (apply CW.block) | (apply CW.skip)))
    refine WL.elemI rfl rfl rfl rfl rfl (hs.at hB) h rfl (fun _ => rfl) (fun q => ?_)
    refine WL.callF rfl rfl rfl rfl (hf w hB k h) ?_
    rintro v w' ⟨rfl, hB'⟩
    (repeat (first | (apply WL.nil) | (apply EX.thenN)))
    refine CW.cond rfl (fun h' => ?_) (fun h' => ?_)
    · (repeat (first | (apply WL.pure; rfl; rfl; rfl) | (apply WL.nil) | (apply EX.thenN) | (apply CW.seq) | (apply CW.region) | (apply CW.ret) | (apply EX.thenR) | (apply EX.inR)))
      refine EX.ret1 rfl rfl ⟨?_, hB.trans hB'⟩
      rw [idxOf_here h hn h']
    · (repeat (first | (apply WL.add; rfl; rfl; rfl; rfl; omega; omega) | (apply WL.pure; rfl; rfl; rfl) | (apply WL.nil) | (apply EX.thenN) | (apply CW.region) | (apply EX.inN) | (apply CW.skip)))
      refine EX.back (k + 1) (by repeat (first | exact trivial | refine ⟨rfl, ?_⟩)) ⟨h, hB.trans hB', ?_⟩ (by omega)
      intro j hj hlt
      by_cases e : j = k
      · subst e; exact h'
      · exact hn j hj (by omega)
  · simp at h
    (repeat (first | (apply WL.pure; rfl; rfl; rfl) | (apply WL.nil) | (apply EX.thenN) | (apply CW.seq) | (apply CW.region) | (apply CW.exit) | (apply EX.thenX) | (apply EX.inX) | (apply CW.ret)))
    refine EX.ret1 rfl rfl ⟨?_, hB⟩
    rw [idxOf_none (fun j hj => hn j hj (by omega))]

theorem containsFunc_int (w0 : World) {ao : Option Addr} {cap : Nat} {xs : List Int} {fv : Value} (p : Int → Bool) (hs : Sl w0 (Old w0) ao cap xs)
    (hf : ∀ w, Ext w0 w → ∀ i (h : i < xs.length), FnV Tryz.prog fv [.int .i64 xs[i]] w fun v w' => v = .bool (p xs[i]) ∧ Ext w w') :
    Rt Tryz.prog 42 [.slice ao xs.length cap, fv].toArray w0 fun v w' => v = .bool (xs.any p) ∧ Ext w0 w' := by
  refine Rt.enter2 Tryz.func42 Tryz.ntmps42 rfl rfl ?_
  (repeat (first | (apply WL.pure; rfl; rfl; rfl) | (apply WL.nil) | (apply EX.thenN) | (apply CW.seq) | (apply CW.region)))
  refine WL.call rfl rfl rfl (indexFunc_int w0 p hs hf) ?_
  rintro v w' ⟨rfl, hB⟩
  (repeat (first | (apply WL.pure; rfl; rfl; rfl) | (apply WL.nil) | (apply EX.thenN) | (apply CW.ret)))
  refine EX.ret1 rfl rfl ⟨?_, hB⟩
  rw [← idxOf_any]

end Go.Proofs.YtikigaeihdmcaaaGreatDoor

/-
  Texts put together; a list of words that stands in an array. Over any program.
-/
set_option linter.unusedVariables false
set_option linter.unusedSimpArgs false
namespace Go.Proofs.YtikigaeihdmcaaaGreatDoor
open Go.RowKit

/-- a text by its bytes -/
def txA (l : List UInt8) : ByteArray := ⟨l.toArray⟩
theorem txA_list (l : List UInt8) : (txA l).data.toList = l := by simp [txA]
theorem txA_eta (s : ByteArray) : txA s.data.toList = s := by cases s; simp [txA]
theorem txA_app (a b : List UInt8) : txA a ++ txA b = txA (a ++ b) := by
  apply ByteArray.ext
  simp [txA, ByteArray.append]
theorem txA_size (l : List UInt8) : (txA l).size = l.length := by simp [txA, ByteArray.size]
abbrev tV (l : List UInt8) : Value := .string (txA l)
section
variable {P : Program} {Q : Exit → Act → World → Prop} {n : Nat} {σ : Sg} {w : World} {L rest : List Oper} {d : Nat} {op : Op} {ty : TypeId} {pos : String} {af : Array Edge} {g : Option (Nat × Bool)} {t yt : TypeId} {x y ix : Operand}
theorem run_cat {a b : List UInt8} (w : World) (h : a.length + b.length < 9223372036854775808) : ((do eqGuard .add t x y (tV a) (tV b); binOp .add t (tV a) (tV b) : Sem Value)).run P w = .ok (tV (a ++ b)) w := by
  have h1 : ((txA a).size : Int) + ((txA b).size : Int) ≤ 9223372036854775807 := by rw [txA_size, txA_size]; omega
  simp [eqGuard, binOp, Op.stringOp, h1, txA_app, show IntKind.i64.max = 9223372036854775807 by decide]
/-- a + b, texts -/
theorem WL.cat {a b : List UInt8} (hg : gd L σ ⟨some d, .binOp .add t x y yt, ty, pos, af, g⟩ = some true) (hd : Nat.ble (d + 1) n = true) (hx : ev σ x = some (tV a)) (hy : ev σ y = some (tV b)) (hl : a.length + b.length < 9223372036854775808)
    (h : WL P L Q rest n ((d, tV (a ++ b)) :: σ) w) : WL P L Q (⟨some d, .binOp .add t x y yt, ty, pos, af, g⟩ :: rest) n σ w := by
  refine WL.run hg hd (fun c hc => ?_) h
  simp only [execOp, hc.ev hx, hc.ev hy]
  rw [Sem.run_bind, run_cat w hl]; rfl
theorem QL.cat {a b : List UInt8} (hg : gd L σ ⟨some d, .binOp .add t x y yt, ty, pos, af, g⟩ = some true) (hd : Nat.ble (d + 1) n = true) (hx : ev σ x = some (tV a)) (hy : ev σ y = some (tV b)) (hl : a.length + b.length < 9223372036854775808)
    (h : QL P L w Q rest n ((d, tV (a ++ b)) :: σ)) : QL P L w Q (⟨some d, .binOp .add t x y yt, ty, pos, af, g⟩ :: rest) n σ := by
  refine QL.run hg hd (fun c hc w' _ => ?_) h
  simp only [execOp, hc.ev hx, hc.ev hy]
  rw [Sem.run_bind, run_cat w' hl]; rfl
theorem HL.cat {S : World → Prop} {ord : List (Nat × Bool)} {i : Nat} {a b : List UInt8} (ho : nthO L i = some ⟨some d, .binOp .add t x y yt, ty, pos, af, g⟩) (hg : gd L σ ⟨some d, .binOp .add t x y yt, ty, pos, af, g⟩ = some true) (hd : Nat.ble (d + 1) n = true)
    (hx : ev σ x = some (tV a)) (hy : ev σ y = some (tV b)) (hl : a.length + b.length < 9223372036854775808) (h : HL P L S Q ord n ((d, tV (a ++ b)) :: σ) w) : HL P L S Q ((i, true) :: ord) n σ w := by
  refine HL.run ho hg hd (fun c hc w' _ => ?_) h
  simp only [execOp, hc.ev hx, hc.ev hy]
  rw [Sem.run_bind, run_cat w' hl]; rfl
/-- an array type -/
class IsAr (P : Program) (t : TypeId) (k : outParam Nat) (e : outParam TypeId) : Prop where
  ok : P.underlying t = some (.array k e)
theorem fill_mono {p p' : Nat → Option (Nat × Nat)} (h : ∀ i q, p i = some q → p' i = some q) : ∀ (parts : List (Nat × Value)) (cells out : Array Value), Instr.fill p cells parts = some out → Instr.fill p' cells parts = some out
  | [], cells, out, e => e
  | (i, v) :: r, cells, out, e => by
    unfold Instr.fill at e ⊢
    cases hp : p i with
    | none => rw [hp] at e; cases e
    | some q =>
      obtain ⟨off, size⟩ := q
      rw [hp] at e
      rw [h i _ hp]
      dsimp only at e ⊢
      split at e
      · cases e
      · rename_i hc
        rw [if_neg hc]
        exact fill_mono h r _ out e
def placesA : Nat → Nat → List (Nat × Nat)
  | 0, _ => []
  | k + 1, o => (o, 1) :: placesA k (o + 1)
theorem placesA_get : ∀ (k o i : Nat) (q : Nat × Nat), (placesA k o)[i]? = some q → q = (o + i, 1)
  | 0, o, i, q, h => by simp [placesA] at h
  | k + 1, o, 0, q, h => by simp [placesA] at h; rw [← h]; rfl
  | k + 1, o, i + 1, q, h => by
    simp only [placesA, List.getElem?_cons_succ] at h
    rw [placesA_get k (o + 1) i q h, show o + 1 + i = o + (i + 1) by omega]
/-- an array's value, a word in each cell that is named -/
theorem WL.buildAr {parts : List (Nat × Operand)} {vs : List Value} {k : Nat} {e : TypeId} {zs out : List Value} (hg : gd L σ ⟨some d, .build t parts.toArray, ty, pos, af, g⟩ = some true) (hd : Nat.ble (d + 1) n = true)
    (hv : evs σ (sndL parts) = some vs) [hz : IsZC P t zs] [hp : IsAr P t k e] [hc : IsC P e 1 false] (hf : fillL (placesA k 0) zs ((parts.map (·.1)).zip vs) = some out)
    (h : WL P L Q rest n ((d, .agg out.toArray) :: σ) w) : WL P L Q (⟨some d, .build t parts.toArray, ty, pos, af, g⟩ :: rest) n σ w := by
  refine WL.run hg hd (fun a ha => ?_) h
  obtain ⟨i, z, hz1, hz2, hz3⟩ := hz.ok
  obtain ⟨j, dd, hc1, hc2, _, _⟩ := hc.ok
  have e1 := evs_eq ha (sndL parts) vs hv
  have e2 : (parts.toArray.map fun x => (x.1, a.eval x.2)).toList = (parts.map (·.1)).zip vs := by
    rw [← e1]
    clear hv hf hg h e1
    induction parts with
    | nil => simp [sndL]
    | cons p r ih => simpa [sndL] using ih
  have e3 := fill_mono (p' := fun i => some (i * 1, 1)) (fun i q hq => by
    have hq' : (placesA k 0)[i]? = some q := by simpa using hq
    rw [placesA_get k 0 i q hq']; simp) _ _ _ (fillL_eq (placesA k 0) _ _ _ hf)
  simp only [Nat.mul_one] at e3
  simp only [execOp, Instr.build, zeroValue, typeInfo, hz1, hz2, hz3, run_underlying hp.ok, sizeOf, hc1, hc2]
  simp [hz1, hz2, hz3, run_underlying hp.ok, hc1, hc2]
  simp at e2
  rw [e2, e3]
  rfl
/-- an array's cell -/
theorem WL.indexAr {k i : Nat} {e : TypeId} {kd : IntKind} {cells : List Value} {v : Value} (hg : gd L σ ⟨some d, .index t x ix, ty, pos, af, g⟩ = some true) (hd : Nat.ble (d + 1) n = true)
    (hx : ev σ x = some (.agg cells.toArray)) (hi : ev σ ix = some (.int kd (i : Int))) [ha : IsAr P t k e] [hc : IsC P e 1 false] (h1 : i < k) (hv : nthV cells i = some v)
    (h : WL P L Q rest n ((d, v) :: σ) w) : WL P L Q (⟨some d, .index t x ix, ty, pos, af, g⟩ :: rest) n σ w := by
  obtain ⟨j, dd, hc1, hc2, hc3, hc4⟩ := hc.ok
  rw [nthV_eq] at hv
  have hagg : (isAgg e).run P w = .ok false w := by
    unfold isAgg
    rw [Sem.run_bind, run_underlying hc3 w, ← hc4]
    cases dd <;> rfl
  have hv' : cells.toArray[i]? = some v := by simpa using hv
  refine WL.run hg hd (fun a ha0 => ?_) h
  simp [execOp, ha0.ev hx, ha0.ev hi, Instr.index, asIntOf, run_underlying ha.ok, h1, sizeOf, typeInfo, hc1, hc2, part, hagg, hv]
end
theorem index_str (w0 : World) {ao : Option Addr} {cap : Nat} {xs : List ByteArray} (x : ByteArray) (hs : Sl w0 (Old w0) ao cap xs) :
    Rt Tryz.prog 35 [.slice ao xs.length cap, .string x].toArray w0 fun v w' => v = .int .i64 (idxOf (fun y => x.data.toList == y.data.toList) xs) ∧ w0 = w' := by
  have hm := hs.len63
  refine Rt.enter2 Tryz.func35 Tryz.ntmps35 rfl rfl ?_
  (repeat (first | (apply WL.pure; rfl; rfl; rfl) | (apply WL.nil) | (apply EX.thenN) | (apply CW.seq) | (apply CW.region) | (apply WL.lenS; rfl; rfl; rfl) | (apply CW.block)))
  refine CW.loop (S := Nat) (fun k => [(0, .slice ao xs.length cap), (1, .string x), (7, .int .i64 xs.length), (8, .int .i64 k)])
    (fun k w => k ≤ xs.length ∧ w0 = w ∧ ∀ j (h : j < xs.length), j < k → (x.data.toList == xs[j].data.toList) = false) (fun k => xs.length - k) 0 (by repeat (first | exact trivial | refine ⟨rfl, ?_⟩)) ⟨by omega, rfl, by omega⟩ ?_
  rintro k w ⟨hk, rfl, hn⟩
  (repeat (first | (apply WL.pure; rfl; rfl; rfl) | (apply WL.nil) | (apply EX.thenN) | (apply CW.seq) | (apply CW.region)))
  refine CW.cond rfl (fun h => ?_) (fun h => ?_)
  · simp at h
    (repeat (first | (apply WL.pure; rfl; rfl; rfl) | (apply WL.nil) | (apply EX.thenN) | (apply CW.seq) | (apply CW.region) | (apply CW.block) | (apply CW.skip)))
    refine WL.elemN rfl rfl rfl rfl rfl hs h (fun _ => rfl) (fun u q hu => ?_)
    obtain ⟨rfl, _⟩ := hu.str
    (repeat (first | (apply WL.pure; rfl; rfl; rfl) | (apply WL.nil) | (apply EX.thenN)))
    refine CW.cond rfl (fun h' => ?_) (fun h' => ?_)
    · (repeat (first | (apply WL.pure; rfl; rfl; rfl) | (apply WL.nil) | (apply EX.thenN) | (apply CW.seq) | (apply CW.region) | (apply CW.ret) | (apply EX.thenR) | (apply EX.inR)))
      refine EX.ret1 rfl rfl ⟨?_, rfl⟩
      rw [idxOf_here h hn h']
    · (repeat (first | (apply WL.add; rfl; rfl; rfl; rfl; omega; omega) | (apply WL.pure; rfl; rfl; rfl) | (apply WL.nil) | (apply EX.thenN) | (apply CW.region) | (apply EX.inN) | (apply CW.skip)))
      refine EX.back (k + 1) (by repeat (first | exact trivial | refine ⟨rfl, ?_⟩)) ⟨h, rfl, ?_⟩ (by omega)
      intro j hj hlt
      by_cases e : j = k
      · subst e; exact h'
      · exact hn j hj (by omega)
  · simp at h
    (repeat (first | (apply WL.pure; rfl; rfl; rfl) | (apply WL.nil) | (apply EX.thenN) | (apply CW.seq) | (apply CW.region) | (apply CW.exit) | (apply EX.thenX) | (apply EX.inX) | (apply CW.ret)))
    refine EX.ret1 rfl rfl ⟨?_, rfl⟩
    rw [idxOf_none (fun j hj => hn j hj (by omega))]
end Go.Proofs.YtikigaeihdmcaaaGreatDoor

/-
  Texts of processes: printed, read. Plain: no program in sight.
-/
set_option linter.unusedVariables false
set_option linter.unusedSimpArgs false
namespace Go.Proofs.YtikigaeihdmcaaaGreatDoor

abbrev bysA (s : ByteArray) : Bys := s.data.toList
/- PARTS OF A TEXT -/
def splitL (c : UInt8) : Bys → List Bys
  | [] => [[]]
  | b :: l => if b = c then [] :: splitL c l else match splitL c l with
    | [] => [[b]]
    | x :: r => (b :: x) :: r
def joinS (c : UInt8) : List Bys → Bys
  | [] => []
  | [x] => x
  | x :: y :: r => x ++ c :: joinS c (y :: r)
theorem splitL_ne (c : UInt8) : ∀ s, splitL c s ≠ []
  | [] => by simp [splitL]
  | b :: l => by
    unfold splitL
    split
    · simp
    · split <;> simp
theorem splitL_no {c : UInt8} : ∀ {a : Bys}, c ∉ a → splitL c a = [a]
  | [], _ => rfl
  | b :: l, h => by
    have hb : ¬ b = c := fun e => h (by simp [e])
    have hl : c ∉ l := fun e => h (by simp [e])
    unfold splitL
    rw [if_neg hb, splitL_no hl]
theorem splitL_at {c : UInt8} : ∀ {a b : Bys}, c ∉ a → splitL c (a ++ c :: b) = a :: splitL c b
  | [], b, _ => by simp [splitL]
  | d :: l, b, h => by
    have hb : ¬ d = c := fun e => h (by simp [e])
    have hl : c ∉ l := fun e => h (by simp [e])
    simp only [List.cons_append]
    rw [splitL, if_neg hb, splitL_at hl]
theorem join_split (c : UInt8) : ∀ s, joinS c (splitL c s) = s
  | [] => rfl
  | b :: l => by
    have ih := join_split c l
    have hne := splitL_ne c l
    unfold splitL
    cases h : splitL c l with
    | nil => exact absurd h hne
    | cons x r =>
      rw [h] at ih
      split
      · rename_i e
        simp only [joinS, List.nil_append]
        rw [ih, e]
      · cases r with
        | nil => simp only [joinS] at ih ⊢; rw [ih]
        | cons y r => simp only [joinS, List.cons_append] at ih ⊢; rw [ih]
def cutL (c : UInt8) : Bys → Option (Bys × Bys)
  | [] => none
  | b :: l => if b = c then some ([], l) else (cutL c l).map fun x => (b :: x.1, x.2)
/- READ -/
/- WHAT IS READ IS PRINTED SO -/
/- WHAT IS PRINTED IS READ AS IT WAS -/
theorem named_no {l : Bys} (h : namedL l = true) : (32 : UInt8) ∉ l ∧ (10 : UInt8) ∉ l ∧ l.length ≤ 8 := by
  have hl := named_low h
  exact ⟨fun e => by have := hl _ e; exact absurd this (by decide), fun e => by have := hl _ e; exact absurd this (by decide), (named_ne h).2.2.2.2⟩
end Go.Proofs.YtikigaeihdmcaaaGreatDoor

/-
  Slices of slices that a call owns: the outer row holds slice headers, each inner row is owned by itself. Over any program, but for the instances at the end.
-/
set_option linter.unusedVariables false
set_option linter.unusedSimpArgs false
namespace Go.Proofs.YtikigaeihdmcaaaGreatDoor
open Go.RowKit

/-- a value of one cell, as it is -/
structure Raw where
  v : Value
instance iNest1 : Rep Raw where
  sz := 1
  pos := by decide
  agg := false
  rd := fun _ _ cs x => cs = [x.v] ∧ x.v.oneCell' = true
  len := by intro w F cs x h; rw [h.1]; rfl
  one := by intro w F cs x h v hv; rw [h.1] at hv; simp at hv; subst hv; exact h.2
  szAgg := fun _ => rfl
  mono := fun h _ _ => h
instance iNest2 : Flat Raw := ⟨fun h => h⟩
theorem Rd.mkRaw (w : World) (F : Nat → Prop) (v : Value) (h : v.oneCell' = true) : Rd w F v (⟨v⟩ : Raw) := ⟨[v], rfl, rfl, h⟩

section
variable {α : Type} [Rep α]
structure OwnN (w : World) (B : Nat) (eo ei : TypeId) (v : Value) (vs : List Raw) (xs : List (List α)) : Prop where
  out : Own w B eo Non v vs
  len : vs.length = xs.length
  inn : ∀ i (h : i < vs.length) (h' : i < xs.length), Own w B ei Non vs[i].v xs[i]
  dis : ∀ i j (hi : i < vs.length) (hj : j < vs.length), i ≠ j → ∀ g, vs[i].v.ownBlock = some g → vs[j].v.ownBlock = some g → False
  dio : ∀ i (hi : i < vs.length) g, vs[i].v.ownBlock = some g → v.ownBlock = some g → False
variable {w w' w'' : World} {B : Nat} {eo ei : TypeId} {v : Value} {vs : List Raw} {xs : List (List α)}
theorem OwnN.ext (h : OwnN w B eo ei v vs xs) (hE : Ext w w') : OwnN w' B eo ei v vs xs :=
  ⟨h.out.extN hE, h.len, fun i hi hi' => (h.inn i hi hi').extN hE, h.dis, h.dio⟩
theorem OwnN.low (h : OwnN w B eo ei v vs xs) {B' : Nat} (hB : B' ≤ B) : OwnN w B' eo ei v vs xs :=
  ⟨h.out.low hB, h.len, fun i hi hi' => (h.inn i hi hi').low hB, h.dis, h.dio⟩
/-- its blocks -/
def OwnN.blk (v : Value) (vs : List Raw) : Nat → Prop := fun b => v.ownBlock = some b ∨ ∃ x ∈ vs, x.v.ownBlock = some b
theorem OwnN.lt (h : OwnN w B eo ei v vs xs) : ∀ b, OwnN.blk v vs b → B ≤ b ∧ b < w.heap.size := by
  rintro b (hb | ⟨x, hx, hb⟩)
  · exact ⟨(h.out.lt b hb).1, (h.out.lt b hb).2.1⟩
  · obtain ⟨i, hi, rfl⟩ := List.mem_iff_getElem.1 hx
    have := (h.inn i hi (by rw [← h.len]; exact hi)).lt b hb
    exact ⟨this.1, this.2.1⟩
theorem OwnN.kept {row : Option Nat} (h : OwnN w B eo ei v vs xs) (hg : w.grownBy w' row) (hne : ∀ b, OwnN.blk v vs b → some b ≠ row) : OwnN w' B eo ei v vs xs :=
  ⟨h.out.keptN hg (fun g hg' => hne g (.inl hg')), h.len, fun i hi hi' => (h.inn i hi hi').keptN hg (fun g hg' => hne g (.inr ⟨_, List.getElem_mem hi, hg'⟩)), h.dis, h.dio⟩
theorem OwnN.nil : OwnN w B eo ei (.slice none 0 0) [] ([] : List (List α)) := ⟨Own.nil, rfl, fun i hi => absurd hi (by simp), fun i j hi => absurd hi (by simp), fun i hi => absurd hi (by simp)⟩
theorem OwnN.made {n : Nat} (h : Own w B eo Non v (List.replicate n (⟨.slice none 0 0⟩ : Raw))) : OwnN w B eo ei v (List.replicate n ⟨.slice none 0 0⟩) (List.replicate n ([] : List α)) := by
  refine ⟨h, by simp, fun i hi hi' => ?_, fun i j hi hj _ g hg => ?_, fun i hi g hg => ?_⟩
  · simp only [List.getElem_replicate]; exact Own.nil
  · simp only [List.getElem_replicate] at hg; simp [Value.ownBlock] at hg
  · simp only [List.getElem_replicate] at hg; simp [Value.ownBlock] at hg
theorem OwnN.set (h : OwnN w B eo ei v vs xs) {i : Nat} (hi : i < vs.length) {v' : Value} {ys : List α} (hin : Own w' B ei Non v' ys) (hg : w.grownBy w' vs[i].v.ownBlock) (hnb : ∀ g, v'.ownBlock = some g → vs[i].v.ownBlock = some g ∨ w.heap.size ≤ g)
    (ho : Own w'' B eo Non v (vs.set i ⟨v'⟩)) (hg2 : w'.grownBy w'' v.ownBlock) : OwnN w'' B eo ei v (vs.set i ⟨v'⟩) (xs.set i ys) := by
  have hold : ∀ j (hj : j < vs.length), ∀ g, vs[j].v.ownBlock = some g → g < w.heap.size := fun j hj g hg => ((h.inn j hj (by rw [← h.len]; exact hj)).lt g hg).2.1
  have holdv : ∀ g, v.ownBlock = some g → g < w.heap.size := fun g hg => (h.out.lt g hg).2.1
  have hnv : ∀ g, v'.ownBlock = some g → v.ownBlock = some g → False := fun g h1 h2 => by
    rcases hnb g h1 with h3 | h3
    · exact h.dio i hi g h3 h2
    · have := holdv g h2; omega
  have hnj : ∀ j (hj : j < vs.length), j ≠ i → ∀ g, v'.ownBlock = some g → vs[j].v.ownBlock = some g → False := fun j hj hne g h1 h2 => by
    rcases hnb g h1 with h3 | h3
    · exact h.dis i j hi hj (Ne.symm hne) g h3 h2
    · have := hold j hj g h2; omega
  refine ⟨ho, by simp [h.len], fun j hj hj' => ?_, fun j k hj hk hne g h1 h2 => ?_, fun j hj g h1 h2 => ?_⟩
  · rw [List.length_set] at hj hj'
    rw [List.getElem_set, List.getElem_set]
    by_cases e : i = j
    · rw [if_pos e, if_pos e]
      exact hin.keptN hg2 (fun g hg e => hnv g hg e.symm)
    · rw [if_neg e, if_neg e]
      exact ((h.inn j hj hj').keptN hg (fun g hg' e2 => h.dis i j hi hj e g e2.symm hg')).keptN hg2 (fun g hg' e2 => h.dio j hj g hg' e2.symm)
  · rw [List.length_set] at hj hk
    rw [List.getElem_set] at h1 h2
    by_cases e1 : i = j
    · subst e1
      rw [if_pos rfl] at h1
      rw [if_neg hne] at h2
      exact hnj k hk (Ne.symm hne) g h1 h2
    · rw [if_neg e1] at h1
      by_cases e2 : i = k
      · rw [if_pos e2] at h2
        exact hnj j hj (Ne.symm e1) g h2 h1
      · rw [if_neg e2] at h2
        exact h.dis j k hj hk hne g h1 h2
  · rw [List.length_set] at hj
    rw [List.getElem_set] at h1
    by_cases e : i = j
    · rw [if_pos e] at h1; exact hnv g h1 h2
    · rw [if_neg e] at h1; exact h.dio j hj g h1 h2
/-- as one that is read -/
theorem OwnN.sl (h : OwnN w B eo ei v vs xs) : ∃ ao cap, v = .slice ao xs.length cap ∧ Sl w (OwnN.blk v vs) ao cap xs := by
  obtain ⟨ao, cap, e, hs⟩ := h.out.sl
  refine ⟨ao, cap, by rw [← h.len]; exact e, ⟨by rw [← h.len]; exact hs.le, hs.mx, hs.nil, fun i hi => ?_⟩⟩
  have hi' : i < vs.length := by rw [h.len]; exact hi
  obtain ⟨b, off, e1, hF, es, hc, hr⟩ := hs.el i hi'
  obtain ⟨rfl, h1⟩ := hr
  obtain ⟨io, ic, e2, hs2⟩ := (h.inn i hi' hi).sl
  refine ⟨b, off, e1, hF.elim (fun h => h.elim) .inl, [vs[i].v], hc, io, ic, by rw [e2], hs2.mono (fun _ _ => rfl) ?_⟩
  intro b hb
  exact hb.elim (fun h => h.elim) (fun hb => .inr ⟨_, List.getElem_mem hi', hb⟩)
theorem OwnN.rd (h : OwnN w B eo ei v vs xs) : Rd w (OwnN.blk v vs) v xs := by
  obtain ⟨ao, cap, rfl, hs⟩ := h.sl
  exact hs.rd
theorem OwnN.old (h : OwnN w B eo ei v vs xs) : Rd w (Old w) v xs := h.rd.mono (fun _ _ => rfl) fun b hb => (h.lt b hb).2
end
instance iNest3 : IsT Tryz.prog 49 Raw := IsT.of (by kernel_rfl) Tryz.underlying49 rfl
instance iNest4 : IsZ Tryz.prog 49 (⟨.slice none 0 0⟩ : Raw) 24 := IsZ.of (z := .slice none 0 0) (by kernel_rfl) (fun _ _ => ⟨rfl, rfl⟩)
end Go.Proofs.YtikigaeihdmcaaaGreatDoor

/-
  Contracts of more of the generic functions of package slices, at the types where the program uses them.
-/
set_option linter.unusedVariables false
namespace Go.Proofs.YtikigaeihdmcaaaGreatDoor
open Go.RowKit
end Go.Proofs.YtikigaeihdmcaaaGreatDoor

/-
  slices.IndexFunc and slices.ContainsFunc at lists of structs.
-/
set_option linter.unusedVariables false
namespace Go.Proofs.YtikigaeihdmcaaaGreatDoor
open Go.RowKit
end Go.Proofs.YtikigaeihdmcaaaGreatDoor

/-
  Package scc: contracts of its simple functions.
-/
set_option linter.unusedVariables false
set_option linter.unusedSimpArgs false
namespace Go.Proofs.YtikigaeihdmcaaaGreatDoor
open Go.RowKit

end Go.Proofs.YtikigaeihdmcaaaGreatDoor

/-
  Package proc: Named, nodes, counts, ins, outs: walked.
-/
set_option linter.unusedVariables false
set_option linter.unusedSimpArgs false
namespace Go.Proofs.YtikigaeihdmcaaaGreatDoor
open Go.RowKit

theorem size_len (s : ByteArray) : s.data.toList.length = s.size := by simp
theorem Named_ok (w0 : World) (s : ByteArray) : Rt Tryz.prog 24 [.string s].toArray w0 fun v w' => v = .bool (namedB s) ∧ Ext w0 w' := by
  refine Rt.enter1 Tryz.func24 Tryz.ntmps24 rfl rfl ?_
  unfold namedB namedL
  (repeat (first | (apply WL.pure; rfl; rfl; rfl) | (apply WL.nil) | (apply EX.thenN) | (apply CW.seq) | (apply CW.region)))
  by_cases h1 : (s.data.toList == []) = true
  · rw [show (s.data.toList == (ByteArray.mk #[]).data.toList) = true from h1]
    (repeat (first | (apply WL.pure; rfl; rfl; rfl) | (apply WL.nil) | (apply EX.thenN) | (apply CW.seq) | (apply CW.region) | (apply WL.pass; rfl; rfl) | (apply CW.condT; rfl) | (apply CW.ret) | (apply EX.thenR)))
    refine EX.ret1 rfl rfl ⟨?_, Ext.refl _⟩
    rfl
  have h1 : (s.data.toList == []) = false := by simpa using h1
  rw [show (s.data.toList == (ByteArray.mk #[]).data.toList) = false from h1]
  try rw [h1]
  (repeat (apply WL.pure; rfl; rfl; rfl))
  refine WL.lenT rfl rfl rfl ?_
  rw [← size_len]
  (repeat (apply WL.pure; rfl; rfl; rfl))
  by_cases h2 : decide ((s.data.toList.length : Int) > 8) = true
  · rw [h2]
    (repeat (first | (apply WL.pure; rfl; rfl; rfl) | (apply WL.nil) | (apply EX.thenN) | (apply CW.seq) | (apply CW.region) | (apply WL.pass; rfl; rfl) | (apply CW.condT; rfl) | (apply CW.ret) | (apply EX.thenR)))
    exact EX.ret1 rfl rfl ⟨rfl, Ext.refl _⟩
  have h2 : decide ((s.data.toList.length : Int) > 8) = false := by simpa using h2
  rw [h2]
  (repeat (apply WL.pure; rfl; rfl; rfl))
  by_cases h3 : (s.data.toList == [116, 114, 117, 101]) = true
  · rw [show (s.data.toList == (ByteArray.mk #[116, 114, 117, 101]).data.toList) = true from h3]
    try rw [h3]
    (repeat (first | (apply WL.pure; rfl; rfl; rfl) | (apply WL.nil) | (apply EX.thenN) | (apply CW.seq) | (apply CW.region) | (apply WL.pass; rfl; rfl) | (apply CW.condT; rfl) | (apply CW.ret) | (apply EX.thenR)))
    exact EX.ret1 rfl rfl ⟨rfl, Ext.refl _⟩
  have h3 : (s.data.toList == [116, 114, 117, 101]) = false := by simpa using h3
  rw [show (s.data.toList == (ByteArray.mk #[116, 114, 117, 101]).data.toList) = false from h3]
  try rw [h3]
  (repeat (apply WL.pure; rfl; rfl; rfl))
  by_cases h4 : (s.data.toList == [102, 97, 108, 115, 101]) = true
  · rw [show (s.data.toList == (ByteArray.mk #[102, 97, 108, 115, 101]).data.toList) = true from h4]
    try rw [h4]
    (repeat (first | (apply WL.pure; rfl; rfl; rfl) | (apply WL.nil) | (apply EX.thenN) | (apply CW.seq) | (apply CW.region) | (apply WL.pass; rfl; rfl) | (apply CW.condT; rfl) | (apply CW.ret) | (apply EX.thenR)))
    exact EX.ret1 rfl rfl ⟨rfl, Ext.refl _⟩
  have h4 : (s.data.toList == [102, 97, 108, 115, 101]) = false := by simpa using h4
  rw [show (s.data.toList == (ByteArray.mk #[102, 97, 108, 115, 101]).data.toList) = false from h4]
  try rw [h4]
  (repeat (first | (apply WL.pure; rfl; rfl; rfl) | (apply WL.nil) | (apply EX.thenN)))
  by_cases h5 : (s.data.toList == [115, 105, 108, 101, 110, 116]) = true
  · rw [show (s.data.toList == (ByteArray.mk #[115, 105, 108, 101, 110, 116]).data.toList) = true from h5]
    try rw [h5]
    (repeat (first | (apply WL.pure; rfl; rfl; rfl) | (apply WL.nil) | (apply EX.thenN) | (apply CW.seq) | (apply CW.region) | (apply CW.condT; rfl) | (apply CW.ret) | (apply EX.thenR)))
    exact EX.ret1 rfl rfl ⟨rfl, Ext.refl _⟩
  have h5 : (s.data.toList == [115, 105, 108, 101, 110, 116]) = false := by simpa using h5
  rw [show (s.data.toList == (ByteArray.mk #[115, 105, 108, 101, 110, 116]).data.toList) = false from h5]
  try rw [h5]
  simp only [Bool.not_false, Bool.true_and]
  have h8 : s.size ≤ 8 := by have := size_len s; simp at h2; omega
  (repeat (first | (apply WL.pure; rfl; rfl; rfl) | (apply EX.thenN) | (apply CW.seq) | (apply CW.region) | (apply CW.condF; rfl) | (apply CW.skip)))
  refine WL.lenT rfl rfl rfl ?_
  (repeat (first | (apply WL.pure; rfl; rfl; rfl) | (apply WL.nil) | (apply EX.thenN) | (apply CW.block)))
  refine CW.loop (S := Nat) (fun i => [(0, .string s), (24, .int .i64 s.size), (25, .int .i64 i)])
    (fun i w => i ≤ s.size ∧ w = w0 ∧ ∀ j (h : j < s.size), j < i → lowB s[j] = true) (fun i => s.size - i) 0 (by repeat (first | exact trivial | refine ⟨rfl, ?_⟩)) ⟨by omega, rfl, by omega⟩ ?_
  rintro i w ⟨hi, rfl, hn⟩
  have hget : ∀ j (h : j < s.size), s.data.toList[j]'(by rw [size_len]; exact h) = s[j] := fun j h => by simp; rfl
  (repeat (first | (apply WL.pure; rfl; rfl; rfl) | (apply WL.nil) | (apply EX.thenN) | (apply CW.seq) | (apply CW.region)))
  refine CW.cond rfl (fun h => ?_) (fun h => ?_)
  · have hi' : i < s.size := by simp at h; omega
    have hbad : lowB s[i] = false → s.data.toList.all lowB = false := fun hb => by
      rw [List.all_eq_false]
      exact ⟨_, List.getElem_mem (by rw [size_len]; exact hi'), by rw [hget i hi', hb]; simp⟩
    (repeat (first | (apply WL.pure; rfl; rfl; rfl) | (apply WL.nil) | (apply EX.thenN) | (apply CW.seq) | (apply CW.region) | (apply CW.block) | (apply CW.skip)))
    refine WL.byteT rfl rfl rfl rfl hi' ?_
    (repeat (apply WL.pure; rfl; rfl; rfl))
    by_cases hb1 : decide (((s[i].toNat : Nat) : Int) < 97) = true
    · rw [hb1]
      (repeat (first | (apply WL.pure; rfl; rfl; rfl) | (apply WL.nil) | (apply EX.thenN) | (apply CW.seq) | (apply CW.region) | (apply WL.pass; rfl; rfl) | (apply CW.condT; rfl) | (apply CW.ret) | (apply EX.thenR) | (apply EX.inR)))
      refine EX.ret1 rfl rfl ⟨?_, Ext.refl _⟩
      rw [hbad (by unfold lowB; rw [hb1]; rfl)]
    have hb1 : decide (((s[i].toNat : Nat) : Int) < 97) = false := by simpa using hb1
    rw [hb1]
    (repeat (apply WL.pure; rfl; rfl; rfl))
    refine WL.byteT rfl rfl rfl rfl hi' ?_
    (repeat (first | (apply WL.pure; rfl; rfl; rfl) | (apply WL.nil) | (apply EX.thenN)))
    refine CW.cond rfl (fun hb2 => ?_) (fun hb2 => ?_)
    · (repeat (first | (apply WL.pure; rfl; rfl; rfl) | (apply WL.nil) | (apply EX.thenN) | (apply CW.seq) | (apply CW.region) | (apply CW.ret) | (apply EX.thenR) | (apply EX.inR)))
      refine EX.ret1 rfl rfl ⟨?_, Ext.refl _⟩
      rw [hbad (by unfold lowB; rw [hb1, hb2]; rfl)]
    · (repeat (first | (apply WL.add; rfl; rfl; rfl; rfl; omega; omega) | (apply WL.pure; rfl; rfl; rfl) | (apply WL.nil) | (apply EX.thenN) | (apply CW.region) | (apply EX.inN) | (apply CW.skip)))
      refine EX.back (i + 1) (by repeat (first | exact trivial | refine ⟨rfl, ?_⟩)) ⟨hi', rfl, fun j hj hlt => ?_⟩ (by omega)
      by_cases e : j = i
      · subst e; unfold lowB; rw [hb1, hb2]; rfl
      · exact hn j hj (by omega)
  · have hi' : i = s.size := by simp at h; omega
    subst hi'
    (repeat (first | (apply WL.pure; rfl; rfl; rfl) | (apply WL.nil) | (apply EX.thenN) | (apply CW.seq) | (apply CW.region) | (apply CW.exit) | (apply EX.thenX) | (apply EX.inX) | (apply CW.ret)))
    refine EX.ret1 rfl rfl ⟨?_, Ext.refl _⟩
    rw [List.all_eq_true.2]
    intro x hx
    obtain ⟨j, hj, rfl⟩ := List.mem_iff_getElem.1 hx
    rw [size_len] at hj
    rw [hget j hj]
    exact hn j hj hj
end Go.Proofs.YtikigaeihdmcaaaGreatDoor

/-
  ltl.Print, walked.
-/
set_option linter.unusedVariables false
set_option linter.unusedSimpArgs false
namespace Go.Proofs.YtikigaeihdmcaaaGreatDoor
open Go.RowKit

theorem idxB_of (x : ByteArray) (nms : List ByteArray) : idxOf (fun y : ByteArray => x.data.toList == y.data.toList) nms = idxB nms x.data.toList := by
  unfold idxOf idxB
  rw [show (fun y : ByteArray => x.data.toList == y.data.toList) = fun y => y.data.toList == x.data.toList from funext fun y => Bool.beq_comm]
  all_goals rfl
theorem getDNm_at {nms : List ByteArray} {i : Nat} (h : i < nms.length) : nms.getD i ⟨#[]⟩ = nms[i] := by rw [List.getD_eq_getElem?_getD, List.getElem?_eq_getElem h]; rfl
/-- the shape of a formula: as many kids as its kind has -/
inductive ShT (kk : Int → Int) : Ltl → Prop
  | mk (k n : Int) (kids : List Ltl) : kk k = kids.length → 0 ≤ n → n ≤ 63 → (∀ x ∈ kids, ShT kk x) → ShT kk (.mk k n kids)
mutual
theorem chkF_sh : ∀ (t : Ltl) (d c : Int), (chkF t d c).1 = 0 → ShT kidsK t ∧ (chkF t d c).2 = c + t.nodes
  | .mk k n kids, d, c, h => by
    simp only [chkF] at h ⊢
    split at h
    · cases h
    split at h
    · cases h
    split at h
    · cases h
    rename_i h1 h2 h3
    rw [if_neg h1, if_neg h2, if_neg h3]
    have ⟨g1, g2⟩ := chkFL_sh kids (d + 1) (c + 1) h
    simp only [not_or] at h3
    refine ⟨.mk k n kids (by omega) (by omega) (by omega) g1, ?_⟩
    rw [g2]; simp only [Ltl.nodes]; omega
theorem chkFL_sh : ∀ (l : List Ltl) (d c : Int), (chkFL l d c).1 = 0 → (∀ x ∈ l, ShT kidsK x) ∧ (chkFL l d c).2 = c + Ltl.nodesL l
  | [], d, c, h => ⟨fun x hx => by (cases hx), by simp [chkFL, Ltl.nodesL]⟩
  | y :: r, d, c, h => by
    simp only [chkFL] at h ⊢
    split at h
    · rename_i h1; exact absurd h h1
    rename_i h1
    rw [if_neg h1]
    have ⟨g1, g2⟩ := chkF_sh y d c (by simpa using h1)
    have ⟨g3, g4⟩ := chkFL_sh r d _ h
    refine ⟨fun x hx => ?_, ?_⟩
    · rcases List.mem_cons.1 hx with rfl | hx
      · exact g1
      · exact g3 x hx
    · rw [g4, g2]; simp only [Ltl.nodesL]; omega
end
section
variable {P : Program} {Q : Exit → Act → World → Prop} {n : Nat} {σ : Sg} {w wc : World} {L : List Oper} {S : World → Prop} {ord : List (Nat × Bool)} {i d : Nat} {ty : TypeId} {pos : String} {af : Array Edge} {g : Option (Nat × Bool)} {t e : TypeId} {x : Operand} {b o : Nat} {cells : List Value}
/-- what a block that nobody changes meanwhile holds -/
theorem HL.ldS {v : Value} (hK : ∀ w1, S w1 → Blk w1 b e cells) (ho : nthO L i = some ⟨some d, .load t x, ty, pos, af, g⟩) (hg : gd L σ ⟨some d, .load t x, ty, pos, af, g⟩ = some true) (hd : Nat.ble (d + 1) n = true) (hx : ev σ x = some (.pointer (some ⟨b, o, none⟩))) [hc : IsC P t 1 false] (hv : nthV cells o = some v)
    (h : HL P L S Q ord n ((d, v) :: σ) wc) : HL P L S Q ((i, true) :: ord) n σ wc := by
  refine HL.run ho hg hd (fun a ha w' hsw => ?_) h
  simp [execOp, ha.ev hx, run_ld (P := P) (t := t) w' (hK w' hsw) hv]
theorem HL.ldAS {vs : List Value} {k : Nat} (hK : ∀ w1, S w1 → Blk w1 b e cells) (ho : nthO L i = some ⟨some d, .load t x, ty, pos, af, g⟩) (hg : gd L σ ⟨some d, .load t x, ty, pos, af, g⟩ = some true) (hd : Nat.ble (d + 1) n = true) (hx : ev σ x = some (.pointer (some ⟨b, o, none⟩))) [hc : IsC P t k true] (hv : segL cells o k = some vs)
    (h : HL P L S Q ord n ((d, .agg vs.toArray) :: σ) wc) : HL P L S Q ((i, true) :: ord) n σ wc := by
  refine HL.run ho hg hd (fun a ha w' hsw => ?_) h
  simp [execOp, ha.ev hx, run_ldA (P := P) (t := t) w' (hK w' hsw) hv]
end
instance iPrn1 : IsFd Tryz.prog 80 0 0 := IsFd.of (by kernel_rfl)
instance iPrn2 : IsFd Tryz.prog 80 1 1 := IsFd.of (by kernel_rfl)
instance iPrn3 : IsBd Tryz.prog 80 [(0, 1), (1, 1)] := IsBd.of (by kernel_rfl)
instance iPrn4 : IsZC Tryz.prog 80 [.slice none 0 0, .bool false] := IsZC.of (z := .agg #[.slice none 0 0, .bool false]) (by kernel_rfl) rfl
instance iPrn5 : IsC Tryz.prog 80 2 true := IsC.of (by kernel_rfl) Tryz.underlying80 rfl
instance iPrn6 : IsAr Tryz.prog 101 10 9 := ⟨Tryz.underlying101⟩
abbrev noT : Value := .string ⟨#[]⟩
instance iPrn7 : IsZC Tryz.prog 101 [noT, noT, noT, noT, noT, noT, noT, noT, noT, noT] := IsZC.of (z := .agg #[noT, noT, noT, noT, noT, noT, noT, noT, noT, noT]) (by kernel_rfl) rfl
theorem lname_ok (w0 : World) {no : Option Addr} {nc : Nat} {nms : List ByteArray} (hn : Sl w0 (Old w0) no nc nms) (n : Int) (h0 : 0 ≤ n) :
    Rt Tryz.prog 52 [.int .i64 n, .slice no nms.length nc].toArray w0 fun v w' => v = tV (nmL nms n) ∧ Ext w0 w' := by
  have hm := hn.len63
  refine Rt.enter2 Tryz.func52 Tryz.ntmps52 rfl rfl ?_
  obtain ⟨i, rfl⟩ := Int.eq_ofNat_of_zero_le h0
  (repeat (first | (apply WL.pure; rfl; rfl; rfl) | (apply WL.nil) | (apply EX.thenN) | (apply CW.seq) | (apply CW.region)))
  refine CW.cond rfl (fun h => ?_) (fun h => ?_)
  · (repeat (first | (apply WL.pure; rfl; rfl; rfl) | (apply WL.nil) | (apply EX.thenN) | (apply CW.seq) | (apply CW.region) | (apply CW.ret) | (apply EX.thenR)))
    refine EX.ret1 rfl rfl ⟨?_, Ext.refl _⟩
    have : (i : Int) = 63 := by simpa using h
    unfold nmL; rw [if_pos this]; rfl
  have h63 : ¬ (i : Int) = 63 := by simpa using h
  (repeat (first | (apply WL.pure; rfl; rfl; rfl) | (apply EX.thenN) | (apply CW.seq) | (apply CW.region) | (apply WL.lenS; rfl; rfl; rfl) | (apply CW.skip)))
  (refine WL.lookG rfl rfl (fun h => ?_) (fun h => ?_))
  · have h1 : (i : Int) ≥ (nms.length : Int) := by simpa using h
    (repeat (first | (apply WL.pure; rfl; rfl; rfl) | (apply WL.nil) | (apply EX.thenN) | (apply CW.seq) | (apply CW.region) | (apply WL.pass; rfl; rfl) | (apply CW.condT; rfl) | (apply CW.ret) | (apply EX.thenR)))
    refine EX.ret1 rfl rfl ⟨?_, Ext.refl _⟩
    unfold nmL; rw [if_neg h63, if_pos h1]; rfl
  have h1 : ¬ (i : Int) ≥ (nms.length : Int) := by simpa using h
  have hi : i < nms.length := by omega
  (repeat (apply WL.pure; rfl; rfl; rfl))
  refine WL.elemN rfl rfl rfl rfl rfl hn hi (fun _ => rfl) (fun u1 q1 hu1 => ?_)
  obtain ⟨rfl, _⟩ := hu1.str
  skip
  refine WL.call rfl rfl rfl (Named_ok w0 nms[i]) ?_
  rintro _ w1 ⟨rfl, e1⟩
  (repeat (apply WL.pure; rfl; rfl; rfl))
  (refine WL.lookG rfl rfl (fun h => ?_) (fun h => ?_))
  · (repeat (first | (apply WL.pure; rfl; rfl; rfl) | (apply WL.nil) | (apply EX.thenN) | (apply CW.seq) | (apply CW.region) | (apply WL.pass; rfl; rfl) | (apply CW.condT; rfl) | (apply CW.ret) | (apply EX.thenR)))
    refine EX.ret1 rfl rfl ⟨?_, e1⟩
    unfold nmL; rw [if_neg h63, if_neg h1, if_pos (by rw [Int.toNat_natCast, getDNm_at hi]; simpa using h)]; rfl
  have h2 : ¬ namedB nms[i] = false := by simpa using h
  (repeat (apply WL.pure; rfl; rfl; rfl))
  refine WL.elemN rfl rfl rfl rfl rfl (hn.up e1) hi (fun _ => rfl) (fun u1 q1 hu1 => ?_)
  obtain ⟨rfl, _⟩ := hu1.str
  skip
  refine WL.call rfl rfl rfl (index_str w1 nms[i] (hn.up e1)) ?_
  rintro _ w2 ⟨rfl, rfl⟩
  (repeat (first | (apply WL.pure; rfl; rfl; rfl) | (apply WL.nil) | (apply EX.thenN)))
  refine CW.cond rfl (fun h => ?_) (fun h => ?_)
  · (repeat (first | (apply WL.pure; rfl; rfl; rfl) | (apply WL.nil) | (apply EX.thenN) | (apply CW.seq) | (apply CW.region) | (apply CW.ret) | (apply EX.thenR)))
    refine EX.ret1 rfl rfl ⟨?_, e1⟩
    unfold nmL; rw [if_neg h63, if_neg h1, if_neg (by rw [Int.toNat_natCast, getDNm_at hi]; exact h2), if_pos (by rw [Int.toNat_natCast, getDNm_at hi, ← idxB_of]; simpa using h)]; rfl
  (repeat (first | (apply WL.pure; rfl; rfl; rfl) | (apply EX.thenN) | (apply CW.seq) | (apply CW.region) | (apply CW.skip)))
  refine WL.elemN rfl rfl rfl rfl rfl (hn.up e1) hi (fun _ => rfl) (fun u1 q1 hu1 => ?_)
  obtain ⟨rfl, _⟩ := hu1.str
  (repeat (first | (apply WL.pure; rfl; rfl; rfl) | (apply WL.nil) | (apply EX.thenN) | (apply CW.ret)))
  refine EX.ret1 rfl rfl ⟨?_, e1⟩
  unfold nmL; rw [if_neg h63, if_neg h1, if_neg (by rw [Int.toNat_natCast, getDNm_at hi]; exact h2), if_neg (by rw [Int.toNat_natCast, getDNm_at hi, ← idxB_of]; simpa using h)]
  rw [Int.toNat_natCast, getDNm_at hi, tV, txA_eta]
theorem lbare_ok (w0 : World) (k i x : Int) : Rt Tryz.prog 72 [.int .i64 k, .int .i64 i, .int .i64 x].toArray w0 fun v w' => v = .bool (bareL k i x) ∧ w0 = w' := by
  refine Rt.enter3 Tryz.func72 Tryz.ntmps72 rfl rfl ?_
  unfold bareL
  (repeat (first | (apply WL.pure; rfl; rfl; rfl) | (apply WL.nil) | (apply EX.thenN) | (apply CW.seq) | (apply CW.region) | (apply CW.block)))
  refine CW.cond rfl (fun h => ?_) (fun h => ?_)
  · have hx : x = 5 := by simpa using h
    rw [if_pos hx]
    clear h
    (repeat (first | (apply WL.pure; rfl; rfl; rfl) | (apply CW.seq) | (apply CW.region)))
    (refine WL.lookG rfl rfl (fun h => ?_) (fun h => ?_))
    · (repeat (first | (apply WL.pure; rfl; rfl; rfl) | (apply WL.nil) | (apply EX.thenN) | (apply WL.pass; rfl; rfl) | (apply CW.ret) | (apply EX.thenR) | (apply EX.inR)))
      exact EX.ret1 rfl rfl ⟨by rw [h]; rfl, rfl⟩
    · rw [h]
      clear h
      (repeat (apply WL.pure; rfl; rfl; rfl))
      (refine WL.lookG rfl rfl (fun h => ?_) (fun h => ?_))
      · (repeat (first | (apply WL.pure; rfl; rfl; rfl) | (apply WL.nil) | (apply EX.thenN) | (apply CW.ret) | (apply EX.thenR) | (apply EX.inR)))
        exact EX.ret1 rfl rfl ⟨by rw [h]; rfl, rfl⟩
      · (repeat (first | (apply WL.pure; rfl; rfl; rfl) | (apply WL.nil) | (apply EX.thenN) | (apply WL.pass; rfl; rfl) | (apply CW.ret) | (apply EX.thenR) | (apply EX.inR)))
        exact EX.ret1 rfl rfl ⟨by rw [h]; rfl, rfl⟩
  have h5 : ¬ x = 5 := by simpa using h
  rw [if_neg h5]
  (repeat (first | (apply WL.pure; rfl; rfl; rfl) | (apply WL.nil) | (apply EX.thenN) | (apply CW.seq) | (apply CW.region)))
  refine CW.cond rfl (fun h => ?_) (fun h => ?_)
  · have h : x = 6 := by simpa using h
    rw [if_pos h]
    clear h
    (repeat (first | (apply WL.pure; rfl; rfl; rfl) | (apply CW.seq) | (apply CW.region)))
    (refine WL.lookG rfl rfl (fun h => ?_) (fun h => ?_))
    · (repeat (first | (apply WL.pure; rfl; rfl; rfl) | (apply WL.nil) | (apply EX.thenN) | (apply CW.ret) | (apply EX.thenR) | (apply EX.inR)))
      exact EX.ret1 rfl rfl ⟨by rw [h]; rfl, rfl⟩
    · (repeat (first | (apply WL.pure; rfl; rfl; rfl) | (apply WL.nil) | (apply EX.thenN) | (apply WL.pass; rfl; rfl) | (apply CW.ret) | (apply EX.thenR) | (apply EX.inR)))
      exact EX.ret1 rfl rfl ⟨by rw [h]; rfl, rfl⟩
  have h6 : ¬ x = 6 := by simpa using h
  rw [if_neg h6]
  refine CW.cut [(0, .int .i64 k), (1, .int .i64 i), (2, .int .i64 x), (28, .bool (decide (x = 8 ∨ x = 9)))] ?_ ?_
  · (repeat (first | (apply WL.pure; rfl; rfl; rfl) | (apply WL.nil) | (apply EX.thenN) | (apply CW.seq) | (apply CW.region)))
    refine CW.cond rfl (fun h => ?_) (fun h => ?_)
    · (repeat (apply CW.skip))
      refine EX.cut ⟨rfl, rfl, rfl, ?_, trivial⟩
      refine congrArg (fun b => some (Value.bool b)) ?_
      have : x = 8 := by simpa using h
      simp [this]
    · (repeat (first | (apply WL.pure; rfl; rfl; rfl) | (apply WL.nil) | (apply CW.region)))
      refine EX.cut ⟨rfl, rfl, rfl, ?_, trivial⟩
      refine congrArg (fun b => some (Value.bool b)) ?_
      have : ¬ x = 8 := by simpa using h
      rw [Bool.eq_iff_iff]; simp [this]
  refine CW.cond rfl (fun h => ?_) (fun h => ?_)
  · rw [if_pos (by simpa using h)]
    clear h
    (repeat (first | (apply WL.pure; rfl; rfl; rfl) | (apply CW.seq) | (apply CW.region)))
    (refine WL.lookG rfl rfl (fun h => ?_) (fun h => ?_))
    · (repeat (first | (apply WL.pure; rfl; rfl; rfl) | (apply WL.nil) | (apply EX.thenN) | (apply CW.ret) | (apply EX.thenR) | (apply EX.inR)))
      exact EX.ret1 rfl rfl ⟨by rw [h]; rfl, rfl⟩
    · (repeat (first | (apply WL.pure; rfl; rfl; rfl) | (apply WL.nil) | (apply EX.thenN) | (apply WL.pass; rfl; rfl) | (apply CW.ret) | (apply EX.thenR) | (apply EX.inR)))
      exact EX.ret1 rfl rfl ⟨by rw [h]; rfl, rfl⟩
  · rw [if_neg (by simpa using h)]
    (repeat (first | (apply WL.pure; rfl; rfl; rfl) | (apply WL.nil) | (apply EX.thenN) | (apply CW.seq) | (apply CW.region) | (apply EX.inN) | (apply CW.ret) | (apply CW.skip)))
    exact EX.ret1 rfl rfl ⟨rfl, rfl⟩
end Go.Proofs.YtikigaeihdmcaaaGreatDoor

/-
  ltl.Print, walked: the text.
-/
set_option linter.unusedVariables false
set_option linter.unusedSimpArgs false
namespace Go.Proofs.YtikigaeihdmcaaaGreatDoor
open Go.RowKit

theorem mk_k (k n : Int) (l : List Ltl) : (Ltl.mk k n l).k = k := rfl
theorem mk_n (k n : Int) (l : List Ltl) : (Ltl.mk k n l).n = n := rfl
theorem mk_kids (k n : Int) (l : List Ltl) : (Ltl.mk k n l).kids = l := rfl
theorem shT_inv {kk : Int → Int} {k n : Int} {kids : List Ltl} (h : ShT kk (.mk k n kids)) : kk k = kids.length ∧ 0 ≤ n ∧ n ≤ 63 ∧ ∀ x ∈ kids, ShT kk x := by
  cases h with
  | mk _ _ _ h1 h2 h3 h4 => exact ⟨h1, h2, h3, h4⟩
theorem txtL_bin {nm : Int → Bys} {k n : Int} {x y : Ltl} (hk : k = 5 ∨ k = 6 ∨ k = 8 ∨ k = 9) :
    txtL nm (.mk k n [x, y]) = kidT (bareL k 0 x.k) (txtL nm x) ++ [32] ++ sigL k ++ [32] ++ kidT (bareL k 1 y.k) (txtL nm y) := by
  rcases hk with rfl | rfl | rfl | rfl <;> simp [txtL, txtLs, joinL]
theorem kid_cells {w : World} {F : Nat → Prop} {es : List Value} {x : Ltl} (h : rd w F es x) {b off : Nat} (hc : Cells w b off es) : Cells w b off [.int .i64 x.k] := by
  obtain ⟨ao, cap, rfl, _⟩ := RdT.sl h
  intro j u hu
  cases j with
  | zero => exact hc 0 u hu
  | succ j => simp at hu
/-- a writer of texts -/
abbrev WrB (w : World) (bw : Nat) (no : Option Addr) (len nc : Nat) (b : Bool) : Prop := Blk w bw 80 [.slice no len nc, .bool b]
def LText (t : Ltl) : Prop := ∀ (w : World) (F : Nat → Prop) (bw : Nat) (ao : Option Addr) (cap : Nat) (no : Option Addr) (nc : Nat) (nms : List ByteArray) (b : Bool), Sl w F ao cap t.kids → Sl w F no nc nms → (∀ k, F k → k < w.heap.size) → ¬ F bw → WrB w bw no nms.length nc b →
  Rt Tryz.prog 37 [.pointer (some ⟨bw, 0, none⟩), ltlV t.k t.n ao t.kids.length cap].toArray w fun v w' => v = tV (txtL (nmL nms) t) ∧ WrB w' bw no nms.length nc (b || badF (nmL nms) t) ∧ w.grownBy w' (some bw)
theorem lkid_ok {t : Ltl} {i : Nat} (hi : i < t.kids.length) (ih : LText t.kids[i]) (hl : t.kids[i].nodes ≤ 1000) (w : World) (F : Nat → Prop) (bw : Nat) (ao : Option Addr) (cap : Nat) (no : Option Addr) (nc : Nat) (nms : List ByteArray) (b : Bool)
    (hs : Sl w F ao cap t.kids) (hn : Sl w F no nc nms) (hF : ∀ k, F k → k < w.heap.size) (hnb : ¬ F bw) (hb : WrB w bw no nms.length nc b) :
    Rt Tryz.prog 53 [.pointer (some ⟨bw, 0, none⟩), ltlV t.k t.n ao t.kids.length cap, .int .i64 (i : Int)].toArray w fun v w' => v = tV (kidT (bareL t.k i t.kids[i].k) (txtL (nmL nms) t.kids[i])) ∧ WrB w' bw no nms.length nc (b || badF (nmL nms) t.kids[i]) ∧ w.grownBy w' (some bw) := by
  have hm := hs.len63
  have hbl := hb.lt
  have htl := txtL_len (nmL_len nms) t.kids[i]
  obtain ⟨kb, koff, rfl, hFk, es, hcl, hrd⟩ := hs.el i hi
  refine Rt.enter3 Tryz.func53 Tryz.ntmps53 rfl rfl ?_
  (repeat (first | (apply CW.seq) | (apply CW.region)))
  refine WL.boxB rfl rfl rfl fun w1 hb4 e1 => ?_
  have hF1 : ∀ k, F k → k < w1.heap.size := fun k hk => Nat.lt_of_lt_of_le (hF k hk) e1.size
  have hs1 : Sl w1 F _ cap t.kids := hs.mono (fun k hk => e1.block k (hF k hk)) fun _ h => h
  have hn1 : Sl w1 F no nc nms := hn.mono (fun k hk => e1.block k (hF k hk)) fun _ h => h
  (repeat (first | (apply WL.pure; rfl; rfl; rfl) | (apply WL.nil) | (apply EX.thenN) | (apply CW.seq) | (apply CW.region) | (apply WL.fa; rfl; rfl; rfl) | (apply WL.ld; rfl; rfl; rfl; assumption; rfl)))
  refine WL.elemN rfl rfl rfl rfl rfl hs1 hi (fun _ => rfl) (fun u q hu => ?_)
  obtain ⟨ao', cap', rfl, hx⟩ := hu.ltl
  skip
  refine WL.call rfl rfl rfl (ih w1 F bw ao' cap' no nc nms b hx hn1 hF1 hnb (hb.ext e1)) ?_
  rintro _ w2 ⟨rfl, hb2, hg2⟩
  have hb42 := hb4.kept hg2 (fun e => by have := Option.some.inj e; omega)
  have hF2 : ∀ k, F k → k < w2.heap.size := fun k hk => Nat.lt_of_lt_of_le (hF1 k hk) hg2.size
  have hk2 : w2.heap[kb]? = w.heap[kb]? := (hg2.block kb (hF1 kb hFk) (fun e => by cases e; exact hnb hFk)).trans (e1.block kb (hF kb hFk))
  have hc2 : Cells w2 kb (koff + i * sz Ltl) [.int .i64 t.kids[i].k] := kid_cells (Rep.mono hrd (fun k hk => (hg2.block k (hF1 k hk) (fun e => by cases e; exact hnb hk)).trans (e1.block k (hF k hk))) fun _ h => h) (hcl.mono hk2)
  have hE : w.grownBy w2 (some bw) := grown_tr (e1.grw (some bw)) hg2
  generalize hT : txtL (nmL nms) t.kids[i] = T at *
  (repeat (first | (apply WL.pure; rfl; rfl; rfl) | (apply QL.pure; rfl; rfl; rfl) | (apply WL.nil) | (apply EX.thenN) | (apply CW.seq) | (apply QL.fa; rfl; rfl; rfl) | (apply QL.ld; rfl; rfl; rfl; assumption; rfl) | (apply CW.draw; exact mixed; kernel_rfl)))
  refine QL.idx (α := Ltl) rfl rfl rfl rfl (by omega) (by omega) ?_
  (repeat (apply QL.fa; rfl; rfl; rfl))
  refine QL.load (α := Int) (F := F) (y := t.kids[i].k) rfl rfl rfl (hF2 kb hFk) hF2 (by rw [Int.toNat_natCast]; exact hc2) rfl ?_
  rw [show vOf Int [.int .i64 t.kids[i].k] = .int .i64 t.kids[i].k from rfl]
  skip
  refine QL.call rfl rfl rfl (fun w' h => Rt.mono (lbare_ok w' t.k i t.kids[i].k) (fun v w'' hv => ⟨hv.1, hv.2 ▸ Ext.refl _⟩)) ?_
  refine QL.nil (fun w3 e3 => ?_)
  have hE3 : w.grownBy w3 (some bw) := grown_tr hE (e3.grw (some bw))
  have hb3 := hb2.ext e3
  unfold kidT
  (repeat (apply EX.thenN))
  refine CW.cond rfl (fun h => ?_) (fun h => ?_)
  · rw [if_pos h]
    (repeat (first | (apply WL.pure; rfl; rfl; rfl) | (apply WL.nil) | (apply EX.thenN) | (apply CW.seq) | (apply CW.region) | (apply CW.ret) | (apply EX.thenR)))
    exact EX.ret1 rfl rfl ⟨rfl, hb3, hE3⟩
  · rw [if_neg (by rw [h]; decide)]
    (repeat (first | (apply WL.pure; rfl; rfl; rfl) | (apply EX.thenN) | (apply CW.seq) | (apply CW.region) | (apply CW.skip)))
    refine WL.cat (a := [40]) (b := T) rfl rfl rfl rfl (by simp only [List.length_cons, List.length_nil]; omega) ?_
    refine WL.cat (a := [40] ++ T) (b := [41]) rfl rfl rfl rfl (by simp only [List.length_append, List.length_cons, List.length_nil]; omega) ?_
    (repeat (first | (apply WL.pure; rfl; rfl; rfl) | (apply WL.nil) | (apply EX.thenN) | (apply CW.ret)))
    exact EX.ret1 rfl rfl ⟨rfl, hb3, hE3⟩
set_option maxHeartbeats 1000000 in
theorem ltext_ok : ∀ (m : Nat) (t : Ltl), t.nodes ≤ m → m ≤ 1000 → ShT kidsK t → LText t
  | 0, t, hm, _, _ => by have := t.nodes_pos; omega
  | m + 1, .mk k n kids, hm, hm1, hsh => by
    intro w F bw ao cap no nc nms b hs hn hF hnb hb
    obtain ⟨hk, h0, h63, hkids⟩ := shT_inv hsh
    simp only [Ltl.nodes] at hm
    have hnd : ∀ i (hi : i < kids.length), kids[i].nodes ≤ m := fun i hi => by have := Ltl.nodes_kid kids _ (List.getElem_mem hi); omega
    have ihk : ∀ i (hi : i < kids.length), LText kids[i] := fun i hi => ltext_ok m kids[i] (hnd i hi) (by omega) (hkids _ (List.getElem_mem hi))
    have htl : ∀ i (hi : i < kids.length), (txtL (nmL nms) kids[i]).length ≤ 8000 := fun i hi => by have := txtL_len (nmL_len nms) kids[i]; have := hnd i hi; omega
    have hbl := hb.lt
    simp only [mk_kids] at hs
    simp only [mk_k, mk_n, mk_kids]
    refine Rt.enter2 Tryz.func37 Tryz.ntmps37 rfl rfl ?_
    (repeat (first | (apply CW.seq) | (apply CW.region)))
    refine WL.boxB rfl rfl rfl fun w1 hb3 e1 => ?_
    have hF1 : ∀ k, F k → k < w1.heap.size := fun k hk => Nat.lt_of_lt_of_le (hF k hk) e1.size
    have hs1 : Sl w1 F ao cap kids := hs.mono (fun k hk => e1.block k (hF k hk)) fun _ h => h
    have hn1 : Sl w1 F no nc nms := hn.mono (fun k hk => e1.block k (hF k hk)) fun _ h => h
    have hb1 := hb.ext e1
    have hg1 : w.grownBy w1 (some bw) := e1.grw (some bw)
    have hl3 := hb3.lt
    (repeat (first | (apply WL.pure; rfl; rfl; rfl) | (apply WL.nil) | (apply EX.thenN) | (apply CW.seq) | (apply CW.region) | (apply WL.fa; rfl; rfl; rfl) | (apply WL.ld; rfl; rfl; rfl; assumption; rfl) | (apply CW.block)))
    refine CW.cond rfl (fun h => ?_) (fun h => ?_)
    · obtain rfl : k = 1 := by simpa using h
      obtain rfl : kids = [] := List.eq_nil_of_length_eq_zero (by have : kidsK 1 = 0 := rfl; omega)
      (repeat (first | (apply WL.pure; rfl; rfl; rfl) | (apply WL.nil) | (apply EX.thenN) | (apply CW.seq) | (apply CW.region) | (apply CW.ret) | (apply EX.thenR) | (apply EX.inR)))
      exact EX.ret1 rfl rfl ⟨rfl, by simpa [badF, badFs] using hb1, hg1⟩
    have k1 : ¬ k = 1 := by simpa using h
    (repeat (first | (apply WL.pure; rfl; rfl; rfl) | (apply WL.nil) | (apply EX.thenN) | (apply CW.seq) | (apply CW.region)))
    refine CW.cond rfl (fun h => ?_) (fun h => ?_)
    · obtain rfl : k = 2 := by simpa using h
      obtain rfl : kids = [] := List.eq_nil_of_length_eq_zero (by have : kidsK 2 = 0 := rfl; omega)
      (repeat (first | (apply WL.pure; rfl; rfl; rfl) | (apply WL.nil) | (apply EX.thenN) | (apply CW.seq) | (apply CW.region) | (apply CW.ret) | (apply EX.thenR) | (apply EX.inR)))
      exact EX.ret1 rfl rfl ⟨rfl, by simpa [badF, badFs] using hb1, hg1⟩
    have k2 : ¬ k = 2 := by simpa using h
    (repeat (first | (apply WL.pure; rfl; rfl; rfl) | (apply WL.nil) | (apply EX.thenN) | (apply CW.seq) | (apply CW.region)))
    refine CW.cond rfl (fun h => ?_) (fun h => ?_)
    · obtain rfl : k = 3 := by simpa using h
      obtain rfl : kids = [] := List.eq_nil_of_length_eq_zero (by have : kidsK 3 = 0 := rfl; omega)
      (repeat (first | (apply QL.pure; rfl; rfl; rfl) | (apply CW.seq) | (apply QL.fa; rfl; rfl; rfl) | (apply QL.nck; rfl; rfl; rfl) | (apply QL.ld; rfl; rfl; rfl; assumption; rfl) | (apply CW.draw; exact mixed; kernel_rfl)))
      refine QL.call rfl rfl rfl (fun w' h => lname_ok w' ((hn1.mono (fun k hk => h.block k (hF1 k hk)) fun _ h => h).lift fun k hk => Nat.lt_of_lt_of_le (hF1 k hk) h.size) n h0) ?_
      (repeat (apply QL.pure; rfl; rfl; rfl))
      refine QL.nil (fun w2 e2 => ?_)
      have hb2 := hb1.ext e2
      (repeat (first | (apply WL.pure; rfl; rfl; rfl) | (apply EX.thenN) | (apply CW.seq) | (apply CW.region) | (apply WL.fa; rfl; rfl; rfl) | (apply WL.nck; rfl; rfl; rfl) | (apply WL.ld; rfl; rfl; rfl; assumption; rfl)))
      (refine WL.lookG rfl rfl (fun h => ?_) (fun h => ?_))
      · (repeat (first | (apply WL.pure; rfl; rfl; rfl) | (apply WL.pass; rfl; rfl) | (apply WL.fa; rfl; rfl; rfl) | (apply WL.nck; rfl; rfl; rfl)))
        refine WL.st rfl rfl rfl hb2 rfl rfl (ones_of rfl) (fun w3 hb23 hg3 => ?_)
        (repeat (first | (apply WL.pure; rfl; rfl; rfl) | (apply WL.nil) | (apply EX.thenN) | (apply CW.seq) | (apply CW.region) | (apply CW.ret) | (apply EX.thenR) | (apply EX.inR)))
        refine EX.ret1 rfl rfl ⟨by simp [txtL, joinL], ?_, grown_tr (grown_tr hg1 (e2.grw _)) hg3⟩
        rw [h]; exact hb23
      · (repeat (first | (apply WL.pure; rfl; rfl; rfl) | (apply WL.fa; rfl; rfl; rfl) | (apply WL.nck; rfl; rfl; rfl)))
        refine WL.st rfl rfl rfl hb2 rfl rfl (ones_of rfl) (fun w3 hb23 hg3 => ?_)
        (repeat (first | (apply WL.pure; rfl; rfl; rfl) | (apply WL.nil) | (apply EX.thenN) | (apply CW.seq) | (apply CW.region) | (apply CW.ret) | (apply EX.thenR) | (apply EX.inR)))
        refine EX.ret1 rfl rfl ⟨by simp [txtL, joinL], ?_, grown_tr (grown_tr hg1 (e2.grw _)) hg3⟩
        rw [h, show (false || badF (nmL nms) (.mk 3 n [])) = ((txA (nmL nms n)).data.toList == (⟨#[]⟩ : ByteArray).data.toList) by rw [txA_list]; simp [badF, badFs]]
        exact hb23
    have k3 : ¬ k = 3 := by simpa using h
    -- one kid
    have hone : ∀ K, kidsK K = 1 → k = K → ∃ x, kids = [x] := fun K hK e => List.length_eq_one_iff.1 (by rw [e] at hk; omega)
    have hkid : ∀ i (hi : i < kids.length), _ := fun i hi => lkid_ok (t := .mk k n kids) (i := i) hi (ihk i hi) (by have := hnd i hi; show kids[i].nodes ≤ 1000; omega) w1 F bw ao cap no nc nms b hs1 hn1 hF1 hnb hb1
    simp only [mk_k, mk_n, mk_kids] at hkid
    (repeat (first | (apply WL.pure; rfl; rfl; rfl) | (apply WL.nil) | (apply EX.thenN) | (apply CW.seq) | (apply CW.region)))
    refine CW.cond rfl (fun h => ?_) (fun h => ?_)
    · have hk4 : k = 4 := by simpa using h
      obtain ⟨x, rfl⟩ := hone 4 rfl hk4
      have hlx := htl 0 (by simp)
      have hky := kidT_len (bareL k ((0 : Nat) : Int) x.k) (txtL (nmL nms) x)
      simp only [List.getElem_cons_zero] at hlx
      (repeat (first | (apply WL.pure; rfl; rfl; rfl) | (apply CW.seq) | (apply CW.region) | (apply WL.ldA; rfl; rfl; rfl; assumption; rfl)))
      refine WL.call rfl rfl rfl (hkid 0 (by simp)) ?_
      rintro _ w2 ⟨rfl, hb2, hg2⟩
      simp only [List.getElem_cons_zero] at hb2 ⊢
      refine WL.cat (a := [33]) rfl rfl rfl rfl (by simp only [List.length_cons, List.length_nil]; omega) ?_
      (repeat (first | (apply WL.pure; rfl; rfl; rfl) | (apply WL.nil) | (apply EX.thenN) | (apply CW.ret) | (apply EX.thenR) | (apply EX.inR)))
      subst hk4
      exact EX.ret1 rfl rfl ⟨by simp [txtL, txtLs, joinL], by simpa [badF, badFs] using hb2, grown_tr hg1 hg2⟩
    (repeat (first | (apply WL.pure; rfl; rfl; rfl) | (apply WL.nil) | (apply EX.thenN) | (apply CW.seq) | (apply CW.region)))
    refine CW.cond rfl (fun h => ?_) (fun h => ?_)
    · have hk4 : k = 7 := by simpa using h
      obtain ⟨x, rfl⟩ := hone 7 rfl hk4
      have hlx := htl 0 (by simp)
      have hky := kidT_len (bareL k ((0 : Nat) : Int) x.k) (txtL (nmL nms) x)
      simp only [List.getElem_cons_zero] at hlx
      (repeat (first | (apply WL.pure; rfl; rfl; rfl) | (apply CW.seq) | (apply CW.region) | (apply WL.ldA; rfl; rfl; rfl; assumption; rfl)))
      refine WL.call rfl rfl rfl (hkid 0 (by simp)) ?_
      rintro _ w2 ⟨rfl, hb2, hg2⟩
      simp only [List.getElem_cons_zero] at hb2 ⊢
      refine WL.cat (a := [88, 32]) rfl rfl rfl rfl (by simp only [List.length_cons, List.length_nil]; omega) ?_
      (repeat (first | (apply WL.pure; rfl; rfl; rfl) | (apply WL.nil) | (apply EX.thenN) | (apply CW.ret) | (apply EX.thenR) | (apply EX.inR)))
      subst hk4
      exact EX.ret1 rfl rfl ⟨by simp [txtL, txtLs, joinL], by simpa [badF, badFs] using hb2, grown_tr hg1 hg2⟩
    (repeat (first | (apply WL.pure; rfl; rfl; rfl) | (apply WL.nil) | (apply EX.thenN) | (apply CW.seq) | (apply CW.region)))
    refine CW.cond rfl (fun h => ?_) (fun h => ?_)
    · have hk4 : k = 10 := by simpa using h
      obtain ⟨x, rfl⟩ := hone 10 rfl hk4
      have hlx := htl 0 (by simp)
      have hky := kidT_len (bareL k ((0 : Nat) : Int) x.k) (txtL (nmL nms) x)
      simp only [List.getElem_cons_zero] at hlx
      (repeat (first | (apply WL.pure; rfl; rfl; rfl) | (apply CW.seq) | (apply CW.region) | (apply WL.ldA; rfl; rfl; rfl; assumption; rfl)))
      refine WL.call rfl rfl rfl (hkid 0 (by simp)) ?_
      rintro _ w2 ⟨rfl, hb2, hg2⟩
      simp only [List.getElem_cons_zero] at hb2 ⊢
      refine WL.cat (a := [70, 32]) rfl rfl rfl rfl (by simp only [List.length_cons, List.length_nil]; omega) ?_
      (repeat (first | (apply WL.pure; rfl; rfl; rfl) | (apply WL.nil) | (apply EX.thenN) | (apply CW.ret) | (apply EX.thenR) | (apply EX.inR)))
      subst hk4
      exact EX.ret1 rfl rfl ⟨by simp [txtL, txtLs, joinL], by simpa [badF, badFs] using hb2, grown_tr hg1 hg2⟩
    (repeat (first | (apply WL.pure; rfl; rfl; rfl) | (apply WL.nil) | (apply EX.thenN) | (apply CW.seq) | (apply CW.region)))
    refine CW.cond rfl (fun h => ?_) (fun h => ?_)
    · have hk4 : k = 11 := by simpa using h
      obtain ⟨x, rfl⟩ := hone 11 rfl hk4
      have hlx := htl 0 (by simp)
      have hky := kidT_len (bareL k ((0 : Nat) : Int) x.k) (txtL (nmL nms) x)
      simp only [List.getElem_cons_zero] at hlx
      (repeat (first | (apply WL.pure; rfl; rfl; rfl) | (apply CW.seq) | (apply CW.region) | (apply WL.ldA; rfl; rfl; rfl; assumption; rfl)))
      refine WL.call rfl rfl rfl (hkid 0 (by simp)) ?_
      rintro _ w2 ⟨rfl, hb2, hg2⟩
      simp only [List.getElem_cons_zero] at hb2 ⊢
      refine WL.cat (a := [71, 32]) rfl rfl rfl rfl (by simp only [List.length_cons, List.length_nil]; omega) ?_
      (repeat (first | (apply WL.pure; rfl; rfl; rfl) | (apply WL.nil) | (apply EX.thenN) | (apply CW.ret) | (apply EX.thenR) | (apply EX.inR)))
      subst hk4
      exact EX.ret1 rfl rfl ⟨by simp [txtL, txtLs, joinL], by simpa [badF, badFs] using hb2, grown_tr hg1 hg2⟩
    -- two kids
    have hbin : (k = 5 ∨ k = 6 ∨ k = 8 ∨ k = 9) ∧ kids.length = 2 := by
      rcases kidsK_nat hk with ⟨_, e⟩ | ⟨_, e⟩ | ⟨e1, e⟩
      · omega
      · simp only [beq_iff_eq, beq_eq_false_iff_ne] at *; omega
      · exact ⟨e, e1⟩
    obtain ⟨hbk, hk2⟩ := hbin
    obtain ⟨x, y, rfl⟩ : ∃ x y, kids = [x, y] := by
      match kids, hk2 with
      | [x, y], _ => exact ⟨x, y, rfl⟩
    have hlx := htl 0 (by simp)
    have hly := htl 1 (by simp)
    simp only [List.getElem_cons_zero, List.getElem_cons_succ] at hlx hly
    have hkx := kidT_len (bareL k ((0 : Nat) : Int) x.k) (txtL (nmL nms) x)
    have hky := kidT_len (bareL k ((1 : Nat) : Int) y.k) (txtL (nmL nms) y)
    obtain ⟨ki, rfl, hki, hsg⟩ : ∃ i : Nat, k = (i : Int) ∧ i < 10 ∧ nthV [noT, noT, noT, noT, noT, tV [38], tV [47], noT, tV [85], tV [82]] i = some (tV (sigL k)) := by
      rcases hbk with rfl | rfl | rfl | rfl
      · exact ⟨5, rfl, by decide, rfl⟩
      · exact ⟨6, rfl, by decide, rfl⟩
      · exact ⟨8, rfl, by decide, rfl⟩
      · exact ⟨9, rfl, by decide, rfl⟩
    have hsl : (sigL (ki : Int)).length ≤ 1 := by unfold sigL; (repeat' split) <;> decide
    generalize hsig : sigL (ki : Int) = sg at *
    (repeat (first | (apply EX.thenN) | (apply CW.seq) | (apply CW.region) | (apply EX.inN) | (apply CW.skip)))
    refine WL.buildAr (out := [noT, noT, noT, noT, noT, tV [38], tV [47], noT, tV [85], tV [82]]) rfl rfl rfl rfl ?_
    (repeat (first | (apply WL.fa; rfl; rfl; rfl) | (apply WL.ld; rfl; rfl; rfl; assumption; rfl)))
    refine WL.indexAr rfl rfl rfl rfl hki hsg ?_
    (repeat (first | (apply WL.pure; rfl; rfl; rfl) | (apply WL.nil) | (apply EX.thenN) | (apply CW.seq)))
    have hD : Ext w1 (drew w1) := Ext.drew w1
    have hb3d := hb3.ext hD
    refine CW.drawH (fun z : World => z.heap[w.heap.size]? = (drew w1).heap[w.heap.size]?) [(0, true), (1, true), (4, true), (7, true), (8, true), (2, false), (3, true), (5, true), (6, true), (9, false), (10, true), (11, true)] mixed (by kernel_rfl) rfl ?_
    have hKS : ∀ z : World, (fun z : World => z.heap[w.heap.size]? = (drew w1).heap[w.heap.size]?) z → Blk z w.heap.size 28 [.int .i64 (ki : Int), .int .i64 n, .slice ao 2 cap] := fun z hz => hz.trans hb3d
    (repeat (apply HL.pure; rfl; rfl; rfl; rfl))
    refine HL.ldAS hKS rfl rfl rfl rfl rfl ?_
    (repeat (apply HL.pure; rfl; rfl; rfl; rfl))
    refine HL.ldAS hKS rfl rfl rfl rfl rfl ?_
    refine HL.mut rfl (WL.call rfl rfl rfl (lkid_ok (t := .mk (ki : Int) n [x, y]) (i := 0) (by simp [mk_kids]) (ihk 0 (by simp)) (by have := hnd 0 (by simp); show x.nodes ≤ 1000; simp only [List.getElem_cons_zero] at this; omega) (drew w1) F bw ao cap no nc nms b (hs1.mono (fun k hk => hD.block k (hF1 k hk)) fun _ h => h) (hn1.mono (fun k hk => hD.block k (hF1 k hk)) fun _ h => h) hF1 hnb (hb1.ext hD)) ?_)
    rintro _ w2 ⟨rfl, hb2, hg2⟩
    have hw2 : w2.heap[w.heap.size]? = (drew w1).heap[w.heap.size]? := hg2.block _ hl3 (fun e => by have := Option.some.inj e; omega)
    have hF2 : ∀ k, F k → k < w2.heap.size := fun k hk => Nat.lt_of_lt_of_le (hF1 k hk) hg2.size
    have hgd : w1.grownBy w2 (some bw) := grown_tr (hD.grw _) hg2
    have hbk2 : ∀ k, F k → w2.heap[k]? = w1.heap[k]? := fun k hk => hgd.block k (hF1 k hk) (fun e => by cases e; exact hnb hk)
    refine WL.nil (EX.mut hw2 ?_)
    simp only [mk_k, mk_kids, List.getElem_cons_zero] at hb2 ⊢
    refine HL.cat (b := [32]) rfl rfl rfl rfl rfl (by simp only [List.length_cons, List.length_nil]; omega) ?_
    refine HL.cat (b := sg) rfl rfl rfl rfl rfl (by simp only [List.length_append, List.length_cons, List.length_nil]; omega) ?_
    refine HL.cat (b := [32]) rfl rfl rfl rfl rfl (by simp only [List.length_append, List.length_cons, List.length_nil]; omega) ?_
    refine HL.mut rfl (WL.call rfl rfl rfl (lkid_ok (t := .mk (ki : Int) n [x, y]) (i := 1) (by simp [mk_kids]) (ihk 1 (by simp)) (by have := hnd 1 (by simp); show y.nodes ≤ 1000; simp only [List.getElem_cons_succ, List.getElem_cons_zero] at this; omega) w2 F bw ao cap no nc nms _ (hs1.mono hbk2 fun _ h => h) (hn1.mono hbk2 fun _ h => h) hF2 hnb hb2) ?_)
    rintro _ w3 ⟨rfl, hb23, hg3⟩
    have hw3 : w3.heap[w.heap.size]? = (drew w1).heap[w.heap.size]? := (hg3.block _ (by have := hg2.size; have : w1.heap.size ≤ w2.heap.size := this; omega) (fun e => by have := Option.some.inj e; omega)).trans hw2
    refine WL.nil (EX.mut hw3 ?_)
    simp only [mk_k, mk_kids, List.getElem_cons_succ, List.getElem_cons_zero] at hb23 ⊢
    refine HL.cat rfl rfl rfl rfl rfl (by simp only [List.length_append, List.length_cons, List.length_nil]; omega) ?_
    (repeat (first | (apply HL.pure; rfl; rfl; rfl; rfl) | (apply HL.nil)))
    (repeat (first | (apply EX.thenN) | (apply CW.ret)))
    refine EX.ret1 rfl rfl ⟨by rw [txtL_bin hbk, hsig]; rfl, ?_, grown_tr (grown_tr hg1 hgd) hg3⟩
    rw [show (b || badF (nmL nms) (.mk (ki : Int) n [x, y])) = (b || badF (nmL nms) x || badF (nmL nms) y) by
      have : ((ki : Int) == 3) = false := by rcases hbk with e | e | e | e <;> rw [e] <;> rfl
      simp [badF, badFs, this, Bool.or_assoc]]
    exact hb23
theorem lprint_ok (w0 : World) {ao no : Option Addr} {cap nc : Nat} {t : Ltl} {nms : List ByteArray} (hs : Sl w0 (Old w0) ao cap t.kids) (hn : Sl w0 (Old w0) no nc nms) :
    Rt Tryz.prog 21 [ltlV t.k t.n ao t.kids.length cap, .slice no nms.length nc].toArray w0 fun v w' => v = .tuple ⟨[tV (printL t nms).1, .int .i64 (printL t nms).2]⟩ ∧ Ext w0 w' := by
  refine Rt.enter2 Tryz.func21 Tryz.ntmps21 rfl rfl ?_
  unfold printL
  (repeat (first | (apply CW.seq) | (apply CW.region)))
  refine WL.boxB rfl rfl rfl fun w1 hb2 e1 => ?_
  (repeat (first | (apply WL.pure; rfl; rfl; rfl) | (apply WL.nil) | (apply EX.thenN) | (apply CW.seq) | (apply CW.region) | (apply WL.ldA; rfl; rfl; rfl; assumption; rfl)))
  refine WL.call rfl rfl rfl (ltlCheck w1 (hs.up e1) (fun _ h => h)) ?_
  rintro _ w2 ⟨rfl, e2⟩
  have hb2 := hb2.ext e2
  have hE := e1.trans e2
  (repeat (first | (apply WL.pure; rfl; rfl; rfl) | (apply WL.nil) | (apply EX.thenN) | (apply CW.seq) | (apply CW.region)))
  refine CW.cond rfl (fun h => ?_) (fun h => ?_)
  · rw [if_pos (by simpa using h)]
    (repeat (first | (apply WL.pure; rfl; rfl; rfl) | (apply WL.nil) | (apply EX.thenN) | (apply CW.seq) | (apply CW.region) | (apply CW.ret) | (apply EX.thenR)))
    exact EX.ret2 rfl rfl rfl ⟨rfl, hE⟩
  have hc : (chkF t 1 0).1 = 0 := by simpa using h
  rw [if_neg (by simpa using h)]
  obtain ⟨hsh, hnn⟩ := chkF_sh t 1 0 hc
  have hle := (chkF_le t 1 0 hc).2
  (repeat (first | (apply WL.pure; rfl; rfl; rfl) | (apply EX.thenN) | (apply CW.seq) | (apply CW.region) | (apply CW.skip)))
  refine WL.build rfl rfl rfl rfl ?_
  refine WL.boxB rfl rfl rfl fun w3 hb16 e3 => ?_
  have hb2 := hb2.ext e3
  have hE3 := hE.trans e3
  (repeat (first | (apply WL.pure; rfl; rfl; rfl) | (apply WL.nil) | (apply EX.thenN) | (apply CW.seq) | (apply CW.region) | (apply WL.ldA; rfl; rfl; rfl; assumption; rfl)))
  refine WL.call rfl rfl rfl (ltext_ok t.nodes t (Nat.le_refl _) (by omega) hsh w3 (Old w0) w2.heap.size ao cap no nc nms false (hs.at hE3) (hn.at hE3) (fun k hk => Nat.lt_of_lt_of_le hk hE3.size) (fun hk => by have h1 : w2.heap.size < w0.heap.size := hk; have := hE.size; omega) hb16) ?_
  rintro _ w4 ⟨rfl, hb4, hg4⟩
  have hE4 : Ext w0 w4 := hE3.grown hg4 hE3.size (fun g hg => by cases hg; exact hE.size)
  rw [Bool.false_or] at hb4
  (repeat (first | (apply WL.pure; rfl; rfl; rfl) | (apply WL.nil) | (apply EX.thenN) | (apply CW.seq) | (apply CW.region) | (apply WL.fa; rfl; rfl; rfl) | (apply WL.nck; rfl; rfl; rfl) | (apply WL.ld; rfl; rfl; rfl; assumption; rfl)))
  refine CW.cond rfl (fun h => ?_) (fun h => ?_)
  · rw [if_pos h]
    (repeat (first | (apply WL.pure; rfl; rfl; rfl) | (apply WL.nil) | (apply EX.thenN) | (apply CW.seq) | (apply CW.region) | (apply CW.ret) | (apply EX.thenR)))
    exact EX.ret2 rfl rfl rfl ⟨rfl, hE4⟩
  · rw [if_neg (by rw [h]; decide)]
    (repeat (first | (apply WL.pure; rfl; rfl; rfl) | (apply WL.nil) | (apply EX.thenN) | (apply CW.seq) | (apply CW.region) | (apply CW.ret) | (apply CW.skip)))
    exact EX.ret2 rfl rfl rfl ⟨rfl, hE4⟩
end Go.Proofs.YtikigaeihdmcaaaGreatDoor

