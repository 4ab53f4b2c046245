/-
  A step compared with a step; slices.Equal, slices.Index, slices.Contains at lists of steps.
-/
import Derived.Laws.StructEq
import Derived.Test.YthefpigolikmeaaLib3
import Derived.Test.YthefpigolikmeaaSteps
set_option linter.unusedVariables false
set_option linter.unusedSimpArgs false
namespace Go.Proofs.Ythefpigolikmeaa
open Go.RowKit

def stV (s : LStep) : Value := .agg [.int .i64 s.1, .int .i64 s.2.1, .int .i64 s.2.2].toArray
theorem Rd.step {w : World} {F : Nat → Prop} {v : Value} {x : LStep} (h : Rd w F v x) : v = stV x := by
  obtain ⟨c1, c2, rfl, h1, h2⟩ := h.pr
  obtain ⟨c3, c4, rfl, h3, h4⟩ := rd_pr h2
  rw [rd_int h1, rd_int h3, rd_int h4]; rfl
theorem equalIn_step0 (x y : LStep) (w : World) : (Op.equalIn 10000 60 (stV x) (stV y)).run Try.prog w = .ok (x == y) w := by
  have u3 := Try.underlying3
  have a3 := Try.isAgg3
  have z3 := Try.sizeOf3
  have hS : Try.prog.underlying 60 = some (.struct (Try.prog.fieldsOf 60)) := by kernel_rfl
  have hp : Try.prog.stoodInHeld 60 = false := by kernel_rfl
  obtain ⟨a, b, c⟩ := x
  obtain ⟨a', b', c'⟩ := y
  simp only [stV]
  rw [show (10000 : Nat) = 9999 + 1 from rfl, run_equalIn_agg w 9999 60 _ _ hS hp]
  simp only [Program.fieldsOf, Try.underlying60]
  go_simp
  by_cases h1 : a = a' <;> by_cases h2 : b = b' <;> by_cases h3 : c = c' <;> simp [h1, h2, h3]
theorem equalIn_step (x y : LStep) (w : World) : (binOp .eql 60 (stV x) (stV y)).run Try.prog w = .ok (.bool (x == y)) w := by
  have h := equalIn_step0 x y w
  unfold stV at h ⊢
  rw [run_eql_struct, h]; rfl
theorem nequalIn_step (x y : LStep) (w : World) : (binOp .neq 60 (stV x) (stV y)).run Try.prog w = .ok (.bool (x != y)) w := by
  have h := equalIn_step0 x y w
  unfold stV at h ⊢
  rw [run_neq_struct, h]; rfl
theorem run_eqSt (x y : LStep) (p q : Operand) (w : World) : ((do eqGuard .eql 60 p q (stV x) (stV y); binOp .eql 60 (stV x) (stV y) : Sem Value)).run Try.prog w = .ok (.bool (x == y)) w := by
  have hm : Try.prog.eqGuardType Try.prog.depth 60 = false := by kernel_rfl
  have h := equalIn_step x y w
  rw [Sem.run_bind]
  have hg : (eqGuard .eql 60 p q (stV x) (stV y)).run Try.prog w = .ok () w := run_eqGuard_agg w .eql 60 p q _ _ hm
  rw [hg, Result.andThen_ok, h]
theorem run_neSt (x y : LStep) (p q : Operand) (w : World) : ((do eqGuard .neq 60 p q (stV x) (stV y); binOp .neq 60 (stV x) (stV y) : Sem Value)).run Try.prog w = .ok (.bool (x != y)) w := by
  have hm : Try.prog.eqGuardType Try.prog.depth 60 = false := by kernel_rfl
  rw [Sem.run_bind]
  have hg : (eqGuard .neq 60 p q (stV x) (stV y)).run Try.prog w = .ok () w := run_eqGuard_agg w .neq 60 p q _ _ hm
  rw [hg, Result.andThen_ok, nequalIn_step]
section
variable {Q : Exit → Act → World → Prop} {n : Nat} {σ : Sg} {w : World} {L rest : List Oper} {d : Nat} {ty : TypeId} {pos : String} {af : Array Edge} {g : Option (Nat × Bool)} {yt : TypeId} {x y : Operand}
theorem QL.neSt {a b : LStep} (hg : gd L σ ⟨some d, .binOp .neq 60 x y yt, ty, pos, af, g⟩ = some true) (hd : Nat.ble (d + 1) n = true) (hx : ev σ x = some (stV a)) (hy : ev σ y = some (stV b))
    (h : QL Try.prog L w Q rest n ((d, .bool (a != b)) :: σ)) : QL Try.prog L w Q (⟨some d, .binOp .neq 60 x y yt, ty, pos, af, g⟩ :: rest) n σ := by
  refine QL.run hg hd (fun c hc w' _ => ?_) h
  have := run_neSt a b x y w'
  simp only [execOp, hc.ev hx, hc.ev hy]
  rw [Sem.run_bind, this]; rfl
theorem QL.eqSt {a b : LStep} (hg : gd L σ ⟨some d, .binOp .eql 60 x y yt, ty, pos, af, g⟩ = some true) (hd : Nat.ble (d + 1) n = true) (hx : ev σ x = some (stV a)) (hy : ev σ y = some (stV b))
    (h : QL Try.prog L w Q rest n ((d, .bool (a == b)) :: σ)) : QL Try.prog L w Q (⟨some d, .binOp .eql 60 x y yt, ty, pos, af, g⟩ :: rest) n σ := by
  refine QL.run hg hd (fun c hc w' _ => ?_) h
  have := run_eqSt a b x y w'
  simp only [execOp, hc.ev hx, hc.ev hy]
  rw [Sem.run_bind, this]; rfl
end
theorem equal_step (w0 : World) {ao bo : Option Addr} {cap cap' : Nat} {xs ys : List LStep} (hs : Sl w0 (Old w0) ao cap xs) (ht : Sl w0 (Old w0) bo cap' ys) :
    Rt Try.prog 35 [.slice ao xs.length cap, .slice bo ys.length cap'].toArray w0 fun v w' => v = .bool (xs == ys) ∧ Ext w0 w' := by
  have hm := hs.len63
  refine Rt.enter2 Try.func35 Try.ntmps35 rfl rfl ?_
  (repeat (first | (apply WL.pure; rfl; rfl; rfl) | (apply WL.nil) | (apply EX.thenN) | (apply CW.seq) | (apply CW.region) | (apply WL.lenS; rfl; rfl; rfl)))
  refine CW.cond rfl (fun h => ?_) (fun h => ?_)
  · (repeat (first | (apply WL.pure; rfl; rfl; rfl) | (apply WL.nil) | (apply EX.thenN) | (apply CW.seq) | (apply CW.region) | (apply CW.ret) | (apply EX.thenR)))
    refine EX.ret1 rfl rfl ⟨?_, Ext.refl _⟩
    simp at h
    have : (xs == ys) = false := by rw [beq_eq_false_iff_ne]; intro e; exact h (by rw [e])
    rw [this]
  · simp at h
    (repeat (first | (apply WL.pure; rfl; rfl; rfl) | (apply WL.nil) | (apply EX.thenN) | (apply CW.seq) | (apply CW.region) | (apply WL.lenS; rfl; rfl; rfl) | (apply CW.block) | (apply CW.skip)))
    refine CW.loop (S := Nat) (fun k => [(0, .slice ao xs.length cap), (1, .slice bo ys.length cap'), (12, .int .i64 xs.length), (13, .int .i64 k)])
      (fun k w => k ≤ xs.length ∧ Ext w0 w ∧ ∀ j (h : j < xs.length) (h' : j < ys.length), j < k → xs[j] = ys[j]) (fun k => xs.length - k) 0 (by repeat (first | exact trivial | refine ⟨rfl, ?_⟩)) ⟨by omega, Ext.refl _, by omega⟩ ?_
    rintro k w ⟨hk, hB, hn⟩
    (repeat (first | (apply WL.pure; rfl; rfl; rfl) | (apply WL.nil) | (apply EX.thenN) | (apply CW.seq) | (apply CW.region)))
    refine CW.cond rfl (fun h1 => ?_) (fun h1 => ?_)
    · simp at h1
      (repeat (first | (apply WL.pure; rfl; rfl; rfl) | (apply QL.pure; rfl; rfl; rfl) | (apply WL.nil) | (apply EX.thenN) | (apply CW.seq) | (apply CW.region) | (apply CW.block) | (apply CW.skip) | (apply CW.draw; exact mixed; kernel_rfl)))
      refine QL.elemN rfl rfl rfl rfl rfl (fun _ h => h) (hs.up hB) h1 (fun _ => rfl) (fun u q hu => ?_)
      rw [hu.step]
      (repeat (apply QL.pure; rfl; rfl; rfl))
      refine QL.elemN rfl rfl rfl rfl rfl (fun _ h => h) (ht.up hB) (show k < ys.length by omega) (fun _ => rfl) (fun u q' hu => ?_)
      rw [hu.step]
      skip
      refine QL.neSt rfl rfl rfl rfl ?_
      refine QL.nil (fun w1 hE => ?_)
      (repeat (apply EX.thenN))
      refine CW.cond rfl (fun h2 => ?_) (fun h2 => ?_)
      · (repeat (first | (apply WL.pure; rfl; rfl; rfl) | (apply WL.nil) | (apply EX.thenN) | (apply CW.seq) | (apply CW.region) | (apply CW.ret) | (apply EX.thenR) | (apply EX.inR)))
        refine EX.ret1 rfl rfl ⟨?_, hB.trans hE⟩
        simp at h2
        have : (xs == ys) = false := by rw [beq_eq_false_iff_ne]; intro e; subst e; exact h2 rfl
        rw [this]
      · simp at h2
        (repeat (first | (apply WL.add; rfl; rfl; rfl; rfl; omega; omega) | (apply WL.pure; rfl; rfl; rfl) | (apply WL.nil) | (apply EX.thenN) | (apply CW.region) | (apply EX.inN) | (apply CW.skip)))
        refine EX.back (k + 1) (by repeat (first | exact trivial | refine ⟨rfl, ?_⟩)) ⟨h1, hB.trans hE, ?_⟩ (by omega)
        intro j hj hj' hlt
        by_cases e : j = k
        · subst e; exact h2
        · exact hn j hj hj' (by omega)
    · simp at h1
      (repeat (first | (apply WL.pure; rfl; rfl; rfl) | (apply WL.nil) | (apply EX.thenN) | (apply CW.seq) | (apply CW.region) | (apply CW.exit) | (apply EX.thenX) | (apply EX.inX) | (apply CW.ret)))
      refine EX.ret1 rfl rfl ⟨?_, hB⟩
      have : (xs == ys) = true := by
        rw [beq_iff_eq]
        exact List.ext_getElem (by omega) fun j h1 h2 => hn j h1 h2 (by omega)
      rw [this]
theorem index_step (w0 : World) {ao : Option Addr} {cap : Nat} {xs : List LStep} (x : LStep) (hs : Sl w0 (Old w0) ao cap xs) :
    Rt Try.prog 81 [.slice ao xs.length cap, stV x].toArray w0 fun v w' => v = .int .i64 (idxOf (fun y => x == y) xs) ∧ Ext w0 w' := by
  have hm := hs.len63
  refine Rt.enter2 Try.func81 Try.ntmps81 rfl rfl ?_
  unfold stV
  (repeat (first | (apply CW.seq) | (apply CW.region)))
  refine WL.boxB rfl rfl rfl fun w1 hb e1 => ?_
  (repeat (first | (apply WL.pure; rfl; rfl; rfl) | (apply WL.nil) | (apply EX.thenN) | (apply CW.seq) | (apply CW.region) | (apply WL.lenS; rfl; rfl; rfl) | (apply CW.block)))
  refine CW.loop (S := Nat) (fun k => [(0, .slice ao xs.length cap), (3, .pointer (some ⟨w0.heap.size, 0, none⟩)), (7, .int .i64 xs.length), (8, .int .i64 k)])
    (fun k w => k ≤ xs.length ∧ Ext w1 w ∧ ∀ j (h : j < xs.length), j < k → (x == xs[j]) = false) (fun k => xs.length - k) 0 (by repeat (first | exact trivial | refine ⟨rfl, ?_⟩)) ⟨by omega, Ext.refl _, by omega⟩ ?_
  rintro k w ⟨hk, hB, hn⟩
  have hb := hb.ext hB
  have hB1 := hB
  have hB := e1.trans hB
  (repeat (first | (apply WL.pure; rfl; rfl; rfl) | (apply WL.nil) | (apply EX.thenN) | (apply CW.seq) | (apply CW.region)))
  refine CW.cond rfl (fun h => ?_) (fun h => ?_)
  · simp at h
    (repeat (first | (apply WL.pure; rfl; rfl; rfl) | (apply QL.pure; rfl; rfl; rfl) | (apply WL.nil) | (apply EX.thenN) | (apply CW.seq) | (apply CW.region) | (apply QL.ldA; rfl; rfl; rfl; assumption; rfl) | (apply CW.block) | (apply CW.skip) | (apply CW.draw; exact mixed; kernel_rfl)))
    refine QL.elemN rfl rfl rfl rfl rfl (fun _ h => h) (hs.up hB) h (fun _ => rfl) (fun u q hu => ?_)
    rw [hu.step]
    refine QL.eqSt (a := x) rfl rfl rfl rfl ?_
    refine QL.nil (fun w2 hE => ?_)
    (repeat (apply EX.thenN))
    refine CW.cond rfl (fun h' => ?_) (fun h' => ?_)
    · (repeat (first | (apply WL.pure; rfl; rfl; rfl) | (apply WL.nil) | (apply EX.thenN) | (apply CW.seq) | (apply CW.region) | (apply CW.ret) | (apply EX.thenR) | (apply EX.inR)))
      refine EX.ret1 rfl rfl ⟨?_, hB.trans hE⟩
      rw [idxOf_here h hn h']
    · (repeat (first | (apply WL.add; rfl; rfl; rfl; rfl; omega; omega) | (apply WL.pure; rfl; rfl; rfl) | (apply WL.nil) | (apply EX.thenN) | (apply CW.region) | (apply EX.inN) | (apply CW.skip)))
      refine EX.back (k + 1) (by repeat (first | exact trivial | refine ⟨rfl, ?_⟩)) ⟨h, ?_, ?_⟩ (by omega)
      · exact hB1.trans hE
      intro j hj hlt
      by_cases e : j = k
      · subst e; exact h'
      · exact hn j hj (by omega)
  · simp at h
    (repeat (first | (apply WL.pure; rfl; rfl; rfl) | (apply WL.nil) | (apply EX.thenN) | (apply CW.seq) | (apply CW.region) | (apply CW.exit) | (apply EX.thenX) | (apply EX.inX) | (apply CW.ret)))
    refine EX.ret1 rfl rfl ⟨?_, hB⟩
    rw [idxOf_none (fun j hj => hn j hj (by omega))]
theorem contains_step (w0 : World) {ao : Option Addr} {cap : Nat} {xs : List LStep} (x : LStep) (hs : Sl w0 (Old w0) ao cap xs) :
    Rt Try.prog 38 [.slice ao xs.length cap, stV x].toArray w0 fun v w' => v = .bool (xs.contains x) ∧ Ext w0 w' := by
  refine Rt.enter2 Try.func38 Try.ntmps38 rfl rfl ?_
  have hh := fun w1 e1 => index_step w1 x (hs.up (show Ext w0 w1 from e1))
  unfold stV at hh ⊢
  (repeat (first | (apply CW.seq) | (apply CW.region)))
  refine WL.boxB rfl rfl rfl fun w1 hb e1 => ?_
  (repeat (first | (apply WL.pure; rfl; rfl; rfl) | (apply WL.nil) | (apply EX.thenN) | (apply CW.seq) | (apply CW.region) | (apply WL.ldA; rfl; rfl; rfl; assumption; rfl)))
  refine WL.call rfl rfl rfl (hh w1 e1) ?_
  rintro v w' ⟨rfl, hB⟩
  (repeat (first | (apply WL.pure; rfl; rfl; rfl) | (apply WL.nil) | (apply EX.thenN) | (apply CW.ret)))
  refine EX.ret1 rfl rfl ⟨?_, e1.trans hB⟩
  rw [← List.any_beq, ← idxOf_any]
end Go.Proofs.Ythefpigolikmeaa
