/-
  A step compared with a step; slices.Equal, slices.Index, slices.Contains at lists of steps.
-/
import Derived.Laws.StructEq
import Derived.Test.YthojdcbpglipeaaLib3
import Derived.Test.YthojdcbpglipeaaSteps
set_option linter.unusedVariables false
set_option linter.unusedSimpArgs false
namespace Go.Proofs.Ythojdcbpglipeaa
open Go.RowKit

def stV (s : LStep) : Value := .agg [.int .i64 s.1, .int .i64 s.2.1, .int .i64 s.2.2].toArray
theorem Rd.step {w : World} {F : Nat → Prop} {v : Value} {x : LStep} (h : Rd w F v x) : v = stV x := by
  obtain ⟨c1, c2, rfl, h1, h2⟩ := h.pr
  obtain ⟨c3, c4, rfl, h3, h4⟩ := rd_pr h2
  rw [rd_int h1, rd_int h3, rd_int h4]; rfl
theorem equalIn_step0 (x y : LStep) (w : World) : (Op.equalIn 10000 84 (stV x) (stV y)).run Try.prog w = .ok (x == y) w := by
  have u3 := Try.underlying3
  have a3 := Try.isAgg3
  have z3 := Try.sizeOf3
  have hS : Try.prog.underlying 84 = some (.struct (Try.prog.fieldsOf 84)) := by kernel_rfl
  have hp : Try.prog.stoodInHeld 84 = false := by kernel_rfl
  obtain ⟨a, b, c⟩ := x
  obtain ⟨a', b', c'⟩ := y
  simp only [stV]
  rw [show (10000 : Nat) = 9999 + 1 from rfl, run_equalIn_agg w 9999 84 _ _ hS hp]
  simp only [Program.fieldsOf, Try.underlying84]
  go_simp
  by_cases h1 : a = a' <;> by_cases h2 : b = b' <;> by_cases h3 : c = c' <;> simp [h1, h2, h3]
theorem equalIn_step (x y : LStep) (w : World) : (binOp .eql 84 (stV x) (stV y)).run Try.prog w = .ok (.bool (x == y)) w := by
  have h := equalIn_step0 x y w
  unfold stV at h ⊢
  rw [run_eql_struct, h]; rfl
theorem nequalIn_step (x y : LStep) (w : World) : (binOp .neq 84 (stV x) (stV y)).run Try.prog w = .ok (.bool (x != y)) w := by
  have h := equalIn_step0 x y w
  unfold stV at h ⊢
  rw [run_neq_struct, h]; rfl
theorem run_eqSt (x y : LStep) (p q : Operand) (w : World) : ((do eqGuard .eql 84 p q (stV x) (stV y); binOp .eql 84 (stV x) (stV y) : Sem Value)).run Try.prog w = .ok (.bool (x == y)) w := by
  have hm : Try.prog.eqGuardType Try.prog.depth 84 = false := by kernel_rfl
  have h := equalIn_step x y w
  rw [Sem.run_bind]
  have hg : (eqGuard .eql 84 p q (stV x) (stV y)).run Try.prog w = .ok () w := run_eqGuard_agg w .eql 84 p q _ _ hm
  rw [hg, Result.andThen_ok, h]
theorem run_neSt (x y : LStep) (p q : Operand) (w : World) : ((do eqGuard .neq 84 p q (stV x) (stV y); binOp .neq 84 (stV x) (stV y) : Sem Value)).run Try.prog w = .ok (.bool (x != y)) w := by
  have hm : Try.prog.eqGuardType Try.prog.depth 84 = false := by kernel_rfl
  rw [Sem.run_bind]
  have hg : (eqGuard .neq 84 p q (stV x) (stV y)).run Try.prog w = .ok () w := run_eqGuard_agg w .neq 84 p q _ _ hm
  rw [hg, Result.andThen_ok, nequalIn_step]
section
variable {Q : Exit → Act → World → Prop} {n : Nat} {σ : Sg} {w : World} {L rest : List Oper} {d : Nat} {ty : TypeId} {pos : String} {af : Array Edge} {g : Option (Nat × Bool)} {yt : TypeId} {x y : Operand}
theorem QL.neSt {a b : LStep} (hg : gd L σ ⟨some d, .binOp .neq 84 x y yt, ty, pos, af, g⟩ = some true) (hd : Nat.ble (d + 1) n = true) (hx : ev σ x = some (stV a)) (hy : ev σ y = some (stV b))
    (h : QL Try.prog L w Q rest n ((d, .bool (a != b)) :: σ)) : QL Try.prog L w Q (⟨some d, .binOp .neq 84 x y yt, ty, pos, af, g⟩ :: rest) n σ := by
  refine QL.run hg hd (fun c hc w' _ => ?_) h
  have := run_neSt a b x y w'
  simp only [execOp, hc.ev hx, hc.ev hy]
  rw [Sem.run_bind, this]; rfl
theorem QL.eqSt {a b : LStep} (hg : gd L σ ⟨some d, .binOp .eql 84 x y yt, ty, pos, af, g⟩ = some true) (hd : Nat.ble (d + 1) n = true) (hx : ev σ x = some (stV a)) (hy : ev σ y = some (stV b))
    (h : QL Try.prog L w Q rest n ((d, .bool (a == b)) :: σ)) : QL Try.prog L w Q (⟨some d, .binOp .eql 84 x y yt, ty, pos, af, g⟩ :: rest) n σ := by
  refine QL.run hg hd (fun c hc w' _ => ?_) h
  have := run_eqSt a b x y w'
  simp only [execOp, hc.ev hx, hc.ev hy]
  rw [Sem.run_bind, this]; rfl
end
end Go.Proofs.Ythojdcbpglipeaa
