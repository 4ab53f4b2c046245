/-
  Small helpers of package watchkeep.
-/
import Derived.Test.YthojdcbpglipeaaLib2
set_option linter.unusedVariables false
namespace Go.Proofs.Ythojdcbpglipeaa
open Go.RowKit
theorem wlists_ok (w0 : World) {ao bo : Option Addr} {cap cap' : Nat} {xs ys : List (List Int)} (hs : Sl w0 (Old w0) ao cap xs) (ht : Sl w0 (Old w0) bo cap' ys) :
    Rt Try.prog 52 [.slice ao xs.length cap, .slice bo ys.length cap'].toArray w0 fun v w' => v = .bool (xs == ys) ∧ Ext w0 w' := by
  refine Rt.enter2 Try.func52 Try.ntmps52 rfl rfl ?_
  (repeat (first | (apply WL.pure; rfl; rfl; rfl) | (apply WL.nil) | (apply EX.thenN) | (apply CW.seq) | (apply CW.region)))
  refine WL.call rfl rfl rfl (equalFunc_ll w0 hs ht (fun w hE i hi hi' u u' hu hu' => ?_)) ?_
  · obtain ⟨a, b, rfl, h1⟩ := hu.sl
    obtain ⟨a', b', rfl, h2⟩ := hu'.sl
    have := equal_int w (h1.lift fun b hb => Nat.lt_of_lt_of_le hb hE.size) (h2.lift fun b hb => Nat.lt_of_lt_of_le hb hE.size)
    exact FnV.mk (cs := []) (by simpa using this)
  · rintro v w' ⟨rfl, hE⟩
    (repeat (first | (apply WL.pure; rfl; rfl; rfl) | (apply WL.nil) | (apply EX.thenN) | (apply CW.ret)))
    exact EX.ret1 rfl rfl ⟨rfl, hE⟩
theorem wrest_ok (w : World) (n m : Int) (hm : 0 < m) (hm2 : m < 4611686018427387904) : Rt Try.prog 28 [.int .i64 n, .int .i64 m].toArray w fun v w' => v = .int .i64 (n % m) ∧ w = w' := by
  refine Rt.enter2 Try.func28 Try.ntmps28 rfl rfl ?_
  have h1 := Int.tmod_add_mul_tdiv n m
  have h2 : n.tmod m < m := Int.tmod_lt_of_pos n hm
  have h3 : -m < n.tmod m := by
    have := Int.tmod_lt_of_pos (-n) hm
    rw [Int.neg_tmod] at this; omega
  have hpos : 0 ≤ n.tmod m → n.tmod m = n % m := fun h => by
    have e : n % m = (n.tmod m + m * n.tdiv m) % m := by rw [h1]
    rw [e, Int.add_mul_emod_self_left, Int.emod_eq_of_lt h h2]
  have hneg : n.tmod m < 0 → n.tmod m + m = n % m := fun h => by
    have e : n % m = ((n.tmod m + m) + m * (n.tdiv m - 1)) % m := by rw [Int.mul_sub]; congr 1; omega
    rw [e, Int.add_mul_emod_self_left, Int.emod_eq_of_lt (by omega) (by omega)]
  (repeat (first | (apply WL.pure; rfl; rfl; rfl) | (apply WL.nil) | (apply EX.thenN) | (apply CW.seq) | (apply CW.region)))
  refine WL.remT rfl rfl rfl rfl (by omega) ?_
  (repeat (first | (apply WL.pure; rfl; rfl; rfl) | (apply WL.nil) | (apply EX.thenN) | (apply CW.seq) | (apply CW.region)))
  refine CW.cond rfl (fun h => ?_) (fun h => ?_) <;> simp only [decide_eq_true_eq, decide_eq_false_iff_not] at h
  · (repeat (first | (apply WL.add; rfl; rfl; rfl; rfl; omega; omega) | (apply WL.pure; rfl; rfl; rfl) | (apply WL.nil) | (apply EX.thenN) | (apply CW.seq) | (apply CW.region) | (apply CW.ret)))
    exact EX.ret1 rfl rfl ⟨congrArg (Value.int .i64) (hneg h), rfl⟩
  · (repeat (first | (apply WL.pure; rfl; rfl; rfl) | (apply WL.nil) | (apply EX.thenN) | (apply CW.seq) | (apply CW.region) | (apply CW.ret) | (apply CW.skip)))
    exact EX.ret1 rfl rfl ⟨congrArg (Value.int .i64) (hpos (by omega)), rfl⟩
end Go.Proofs.Ythojdcbpglipeaa
