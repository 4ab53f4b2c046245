/-
  slices.Index and slices.Contains at []bool.
-/
import Derived.Test.YthojdcbpglipeaaLib2
set_option linter.unusedVariables false
namespace Go.Proofs.Ythojdcbpglipeaa
open Go.RowKit
theorem index_bool (w0 : World) {ao : Option Addr} {cap : Nat} {xs : List Bool} (x : Bool) (hs : Sl w0 (Old w0) ao cap xs) :
    Rt Try.prog 106 [.slice ao xs.length cap, .bool x].toArray w0 fun v w' => v = .int .i64 (idxOf (fun y => x == y) xs) ∧ Ext w0 w' := by
  have hm := hs.len63
  refine Rt.enter2 Try.func106 Try.ntmps106 rfl rfl ?_
  (repeat (first | (apply WL.pure; rfl; rfl; rfl) | (apply WL.nil) | (apply EX.thenN) | (apply CW.seq) | (apply CW.region) | (apply WL.lenS; rfl; rfl; rfl) | (apply CW.block)))
  refine CW.loop (S := Nat) (fun k => [(0, .slice ao xs.length cap), (1, .bool x), (7, .int .i64 xs.length), (8, .int .i64 k)])
    (fun k w => k ≤ xs.length ∧ Ext w0 w ∧ ∀ j (h : j < xs.length), j < k → (x == xs[j]) = false) (fun k => xs.length - k) 0 (by repeat (first | exact trivial | refine ⟨rfl, ?_⟩)) ⟨by omega, Ext.refl _, by omega⟩ ?_
  rintro k w ⟨hk, hB, hn⟩
  (repeat (first | (apply WL.pure; rfl; rfl; rfl) | (apply WL.nil) | (apply EX.thenN) | (apply CW.seq) | (apply CW.region)))
  refine CW.cond rfl (fun h => ?_) (fun h => ?_)
  · simp at h
    (repeat (first | (apply WL.pure; rfl; rfl; rfl) | (apply WL.nil) | (apply EX.thenN) | (apply CW.seq) | (apply CW.region) | (apply CW.block) | (apply CW.skip)))
    refine WL.elemB rfl rfl rfl rfl rfl (hs.at hB) h rfl (fun _ => rfl) (fun q => ?_)
    (repeat (first | (apply WL.nil) | (apply EX.thenN) | (apply WL.eqB; rfl; rfl; rfl; rfl)))
    refine CW.cond rfl (fun h' => ?_) (fun h' => ?_)
    · (repeat (first | (apply WL.pure; rfl; rfl; rfl) | (apply WL.nil) | (apply EX.thenN) | (apply CW.seq) | (apply CW.region) | (apply CW.ret) | (apply EX.thenR) | (apply EX.inR)))
      refine EX.ret1 rfl rfl ⟨?_, hB⟩
      rw [idxOf_here h hn h']
    · (repeat (first | (apply WL.add; rfl; rfl; rfl; rfl; omega; omega) | (apply WL.pure; rfl; rfl; rfl) | (apply WL.nil) | (apply EX.thenN) | (apply CW.region) | (apply EX.inN) | (apply CW.skip)))
      refine EX.back (k + 1) (by repeat (first | exact trivial | refine ⟨rfl, ?_⟩)) ⟨h, hB, ?_⟩ (by omega)
      intro j hj hlt
      by_cases e : j = k
      · subst e; exact h'
      · exact hn j hj (by omega)
  · simp at h
    (repeat (first | (apply WL.pure; rfl; rfl; rfl) | (apply WL.nil) | (apply EX.thenN) | (apply CW.seq) | (apply CW.region) | (apply CW.exit) | (apply EX.thenX) | (apply EX.inX) | (apply CW.ret)))
    refine EX.ret1 rfl rfl ⟨?_, hB⟩
    rw [idxOf_none (fun j hj => hn j hj (by omega))]
theorem contains_bool (w0 : World) {ao : Option Addr} {cap : Nat} {xs : List Bool} (x : Bool) (hs : Sl w0 (Old w0) ao cap xs) :
    Rt Try.prog 60 [.slice ao xs.length cap, .bool x].toArray w0 fun v w' => v = .bool (xs.contains x) ∧ Ext w0 w' := by
  refine Rt.enter2 Try.func60 Try.ntmps60 rfl rfl ?_
  (repeat (first | (apply WL.pure; rfl; rfl; rfl) | (apply WL.nil) | (apply EX.thenN) | (apply CW.seq) | (apply CW.region)))
  refine WL.call rfl rfl rfl (index_bool w0 x hs) ?_
  rintro v w' ⟨rfl, hB⟩
  (repeat (first | (apply WL.pure; rfl; rfl; rfl) | (apply WL.nil) | (apply EX.thenN) | (apply CW.ret)))
  refine EX.ret1 rfl rfl ⟨?_, hB⟩
  rw [← List.any_beq, ← idxOf_any]
end Go.Proofs.Ythojdcbpglipeaa
