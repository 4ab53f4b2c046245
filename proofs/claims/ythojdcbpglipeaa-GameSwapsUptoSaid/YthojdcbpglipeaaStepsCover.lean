/-
  StepsCover: walked.
-/
import Derived.Test.YthojdcbpglipeaaStepEq
import Derived.Test.YthojdcbpglipeaaProcFlows
set_option linter.unusedVariables false
set_option linter.unusedSimpArgs false
namespace Go.Proofs.Ythojdcbpglipeaa
open Go.RowKit

section
variable {P : Program} {Q : Exit → Act → World → Prop} {n : Nat} {σ : Sg} {w : World} {L rest : List Oper} {d : Nat} {ty : TypeId} {pos : String} {af : Array Edge} {g : Option (Nat × Bool)} {t e : TypeId} {α : Type} [Rep α]
/-- x[:k] -/
theorem QL.cutHi {x y : Operand} {ao : Option Addr} {len cap : Nat} {i : Int} {kd : IntKind} (k : Nat) (hik : i = (k : Int)) (hg : gd L σ ⟨some d, .slice t x none (some y) none, ty, pos, af, g⟩ = some true) (hd : Nat.ble (d + 1) n = true)
    (hx : ev σ x = some (.slice ao len cap)) (hy : ev σ y = some (.int kd i)) [hs : IsS P t e] [ht : IsT P e α] (hk : k ≤ cap)
    (h : QL P L w Q rest n ((d, .slice ao k cap) :: σ)) : QL P L w Q (⟨some d, .slice t x none (some y) none, ty, pos, af, g⟩ :: rest) n σ := by
  subst hik
  refine QL.run hg hd (fun a ha w' _ => ?_) h
  have := run_cut (P := P) (t := t) (e := e) (α := α) (ao := ao) (len := len) (cap := cap) (lo := 0) (hi := k) w' (by omega) hk none (some (.int kd (k : Int))) (.inl ⟨rfl, rfl⟩) (.inr ⟨kd, rfl⟩)
  simp [execOp, ha.ev hx, ha.ev hy, this, Addr.add_zero']
end
theorem run_shr0 (P : Program) (w : World) (a : Int) (s : Nat) (h0 : 0 ≤ a) (h1 : a < 2 ^ s) (hs : s ≤ 62) (t : TypeId) : (binOp .shr t (.int .i64 a) (.int .i64 (s : Int))).run P w = .ok (.int .i64 0) w := by
  rw [binOp_shr, shift_shr_i64 (h₀ := by omega) (h₁ := by omega), Int.toNat_natCast, Int.ediv_eq_zero_of_lt h0 h1]; rfl
section
variable {P : Program} {Q : Exit → Act → World → Prop} {n : Nat} {σ : Sg} {w : World} {L rest : List Oper} {d : Nat} {ty : TypeId} {pos : String} {af : Array Edge} {g : Option (Nat × Bool)} {t yt : TypeId} {x y : Operand}
theorem QL.shr0 {a : Int} {s : Nat} (hg : gd L σ ⟨some d, .binOp .shr t x y yt, ty, pos, af, g⟩ = some true) (hd : Nat.ble (d + 1) n = true) (hx : ev σ x = some (.int .i64 a)) (hy : ev σ y = some (.int .i64 (s : Int))) (h0 : 0 ≤ a) (h1 : a < 2 ^ s) (hs : s ≤ 62)
    (h : QL P L w Q rest n ((d, .int .i64 0) :: σ)) : QL P L w Q (⟨some d, .binOp .shr t x y yt, ty, pos, af, g⟩ :: rest) n σ := by
  refine QL.run hg hd (fun a0 ha0 w' _ => ?_) h
  have := run_shr0 P w' a s h0 h1 hs t
  simp [execOp, ha0.ev hx, ha0.ev hy, eqG (op := .shr) rfl, this]
end
theorem straight_steps : stepsE straightP = ([(1, 0, 1), (2, 1, 0)], 0) := by
  have h : stepsL straightP = [(1, 0, 1), (2, 1, 0)] := by decide
  unfold stepsE
  rw [if_neg (by simp [straight_chk]), h]; rfl
theorem stepsE_ok {p : LProc} (h : (stepsE p).2 = 0) : chkPr p = 0 ∧ (stepsE p).1 = stepsL p ∧ (stepsL p).length ≤ 60 := by
  unfold stepsE at h ⊢
  split at h
  · rename_i h1; exact absurd h h1
  · split at h
    · simp at h
    · rename_i h1 h2
      rw [if_neg h1, if_neg h2]
      exact ⟨by simpa using h1, rfl, by omega⟩
theorem stepsE_bad {p : LProc} (h : (stepsE p).2 ≠ 0) : (stepsE p).1 = [] := by
  unfold stepsE at h ⊢
  split
  · rfl
  · split
    · rfl
    · rename_i h1 h2; rw [if_neg h1, if_neg h2] at h; exact absurd rfl h
theorem steps_any {p : LProc} (h : OkPr p) {n : Nat} (hn : n < p.1.length) : ((stepsL p).any (fun s : LStep => s.1 == (n : Int)) != (kindAt p n != 1)) = false := by
  have hs := stepsN_some h hn
  have : (stepsL p).any (fun s : LStep => s.1 == (n : Int)) = (kindAt p n != 1) := by
    rw [Bool.eq_iff_iff, List.any_eq_true, bne_iff_ne, ← hs]
    constructor
    · rintro ⟨s, hs, e⟩
      obtain ⟨m, hm, hsm⟩ := stepsP_mem.1 hs
      have := stepsK_node s hsm
      have e : s.1 = (n : Int) := by simpa using e
      obtain rfl : m = n := by omega
      intro e0
      rw [e0] at hsm; cases hsm
    · intro hne
      obtain ⟨s, hs⟩ := List.exists_mem_of_ne_nil _ hne
      exact ⟨s, stepsP_mem.2 ⟨n, hn, hs⟩, by simpa using stepsK_node s hs⟩
  rw [this]; simp
theorem nodup_take {α : Type} [BEq α] [LawfulBEq α] {l : List α} (h : l.Nodup) {i : Nat} (hi : i < l.length) : (l.take i).contains l[i] = false := by
  rw [List.contains_eq_mem, decide_eq_false_iff_not]
  intro hm
  obtain ⟨j, hj, e⟩ := List.mem_iff_getElem.1 hm
  rw [List.length_take] at hj
  rw [List.getElem_take] at e
  have := (List.getElem_inj h).1 e
  omega
end Go.Proofs.Ythojdcbpglipeaa
