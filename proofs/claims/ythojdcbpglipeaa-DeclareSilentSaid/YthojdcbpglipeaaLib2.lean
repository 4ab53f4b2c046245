/-
  Contracts of more of the generic functions of package slices, at the types where the program uses them.
-/
import Derived.Test.YthojdcbpglipeaaLib
import Derived.Test.YthojdcbpglipeaaNest
set_option linter.unusedVariables false
namespace Go.Proofs.Ythojdcbpglipeaa
open Go.RowKit
theorem equal_int (w0 : World) {ao bo : Option Addr} {cap cap' : Nat} {xs ys : List Int} (hs : Sl w0 (Old w0) ao cap xs) (ht : Sl w0 (Old w0) bo cap' ys) :
    Rt Try.prog 39 [.slice ao xs.length cap, .slice bo ys.length cap'].toArray w0 fun v w' => v = .bool (xs == ys) ∧ Ext w0 w' := by
  have hm := hs.len63
  refine Rt.enter2 Try.func39 Try.ntmps39 rfl rfl ?_
  (repeat (first | (apply WL.pure; rfl; rfl; rfl) | (apply WL.nil) | (apply EX.thenN) | (apply CW.seq) | (apply CW.region) | (apply WL.lenS; rfl; rfl; rfl)))
  refine CW.cond rfl (fun h => ?_) (fun h => ?_)
  · (repeat (first | (apply WL.pure; rfl; rfl; rfl) | (apply WL.nil) | (apply EX.thenN) | (apply CW.seq) | (apply CW.region) | (apply CW.ret) | (apply EX.thenR)))
    refine EX.ret1 rfl rfl ⟨?_, Ext.refl _⟩
    simp at h
    have : (xs == ys) = false := by rw [beq_eq_false_iff_ne]; intro e; exact h (by rw [e])
    rw [this]
  · simp at h
    (repeat (first | (apply WL.pure; rfl; rfl; rfl) | (apply WL.nil) | (apply EX.thenN) | (apply CW.seq) | (apply CW.region) | (apply WL.lenS; rfl; rfl; rfl) | (apply CW.block) | (apply CW.skip)))
    refine CW.loop (S := Nat) (fun k => [(0, .slice ao xs.length cap), (1, .slice bo ys.length cap'), (12, .int .i64 xs.length), (13, .int .i64 k)])
      (fun k w => k ≤ xs.length ∧ Ext w0 w ∧ ∀ j (h : j < xs.length) (h' : j < ys.length), j < k → xs[j] = ys[j]) (fun k => xs.length - k) 0 (by repeat (first | exact trivial | refine ⟨rfl, ?_⟩)) ⟨by omega, Ext.refl _, by omega⟩ ?_
    rintro k w ⟨hk, hB, hn⟩
    (repeat (first | (apply WL.pure; rfl; rfl; rfl) | (apply WL.nil) | (apply EX.thenN) | (apply CW.seq) | (apply CW.region)))
    refine CW.cond rfl (fun h1 => ?_) (fun h1 => ?_)
    · simp at h1
      (repeat (first | (apply WL.pure; rfl; rfl; rfl) | (apply QL.pure; rfl; rfl; rfl) | (apply WL.nil) | (apply EX.thenN) | (apply CW.seq) | (apply CW.region) | (apply CW.block) | (apply CW.skip) | (apply CW.draw; exact mixed; kernel_rfl)))
      refine QL.elemI rfl rfl rfl rfl rfl (fun _ h => h) (hs.up hB) h1 rfl (fun _ => rfl) (fun q => ?_)
      (repeat (apply QL.pure; rfl; rfl; rfl))
      refine QL.elemI rfl rfl rfl rfl rfl (fun _ h => h) (ht.up hB) (by omega) rfl (fun _ => rfl) (fun q' => ?_)
      (repeat (apply QL.pure; rfl; rfl; rfl))
      refine QL.nil (fun w1 hE => ?_)
      (repeat (apply EX.thenN))
      refine CW.cond rfl (fun h2 => ?_) (fun h2 => ?_)
      · (repeat (first | (apply WL.pure; rfl; rfl; rfl) | (apply WL.nil) | (apply EX.thenN) | (apply CW.seq) | (apply CW.region) | (apply CW.ret) | (apply EX.thenR) | (apply EX.inR)))
        refine EX.ret1 rfl rfl ⟨?_, hB.trans hE⟩
        simp at h2
        have : (xs == ys) = false := by rw [beq_eq_false_iff_ne]; intro e; subst e; exact h2 rfl
        rw [this]
      · simp at h2
        (repeat (first | (apply WL.add; rfl; rfl; rfl; rfl; omega; omega) | (apply WL.pure; rfl; rfl; rfl) | (apply WL.nil) | (apply EX.thenN) | (apply CW.region) | (apply EX.inN) | (apply CW.skip)))
        refine EX.back (k + 1) (by repeat (first | exact trivial | refine ⟨rfl, ?_⟩)) ⟨h1, hB.trans hE, ?_⟩ (by omega)
        intro j hj hj' hlt
        by_cases e : j = k
        · subst e; exact h2
        · exact hn j hj hj' (by omega)
    · simp at h1
      (repeat (first | (apply WL.pure; rfl; rfl; rfl) | (apply WL.nil) | (apply EX.thenN) | (apply CW.seq) | (apply CW.region) | (apply CW.exit) | (apply EX.thenX) | (apply EX.inX) | (apply CW.ret)))
      refine EX.ret1 rfl rfl ⟨?_, hB⟩
      have : (xs == ys) = true := by
        rw [beq_iff_eq]
        exact List.ext_getElem (by omega) fun j h1 h2 => hn j h1 h2 (by omega)
      rw [this]
theorem equal_u64 (w0 : World) {ao bo : Option Addr} {cap cap' : Nat} {xs ys : List Nat} (hs : Sl w0 (Old w0) ao cap xs) (ht : Sl w0 (Old w0) bo cap' ys) :
    Rt Try.prog 67 [.slice ao xs.length cap, .slice bo ys.length cap'].toArray w0 fun v w' => v = .bool (xs == ys) ∧ Ext w0 w' := by
  have hm := hs.len63
  refine Rt.enter2 Try.func67 Try.ntmps67 rfl rfl ?_
  (repeat (first | (apply WL.pure; rfl; rfl; rfl) | (apply WL.nil) | (apply EX.thenN) | (apply CW.seq) | (apply CW.region) | (apply WL.lenS; rfl; rfl; rfl)))
  refine CW.cond rfl (fun h => ?_) (fun h => ?_)
  · (repeat (first | (apply WL.pure; rfl; rfl; rfl) | (apply WL.nil) | (apply EX.thenN) | (apply CW.seq) | (apply CW.region) | (apply CW.ret) | (apply EX.thenR)))
    refine EX.ret1 rfl rfl ⟨?_, Ext.refl _⟩
    simp at h
    have : (xs == ys) = false := by rw [beq_eq_false_iff_ne]; intro e; exact h (by rw [e])
    rw [this]
  · simp at h
    (repeat (first | (apply WL.pure; rfl; rfl; rfl) | (apply WL.nil) | (apply EX.thenN) | (apply CW.seq) | (apply CW.region) | (apply WL.lenS; rfl; rfl; rfl) | (apply CW.block) | (apply CW.skip)))
    refine CW.loop (S := Nat) (fun k => [(0, .slice ao xs.length cap), (1, .slice bo ys.length cap'), (12, .int .i64 xs.length), (13, .int .i64 k)])
      (fun k w => k ≤ xs.length ∧ Ext w0 w ∧ ∀ j (h : j < xs.length) (h' : j < ys.length), j < k → xs[j] = ys[j]) (fun k => xs.length - k) 0 (by repeat (first | exact trivial | refine ⟨rfl, ?_⟩)) ⟨by omega, Ext.refl _, by omega⟩ ?_
    rintro k w ⟨hk, hB, hn⟩
    (repeat (first | (apply WL.pure; rfl; rfl; rfl) | (apply WL.nil) | (apply EX.thenN) | (apply CW.seq) | (apply CW.region)))
    refine CW.cond rfl (fun h1 => ?_) (fun h1 => ?_)
    · simp at h1
      (repeat (first | (apply WL.pure; rfl; rfl; rfl) | (apply QL.pure; rfl; rfl; rfl) | (apply WL.nil) | (apply EX.thenN) | (apply CW.seq) | (apply CW.region) | (apply CW.block) | (apply CW.skip) | (apply CW.draw; exact mixed; kernel_rfl)))
      refine QL.elemN rfl rfl rfl rfl rfl (fun _ h => h) (hs.up hB) h1 (fun _ => rfl) (fun u q hu => ?_)
      obtain ⟨rfl, hu1⟩ := hu.u64
      (repeat (apply QL.pure; rfl; rfl; rfl))
      refine QL.elemN rfl rfl rfl rfl rfl (fun _ h => h) (ht.up hB) (show k < ys.length by omega) (fun _ => rfl) (fun u q' hu' => ?_)
      obtain ⟨rfl, hu2⟩ := hu'.u64
      (repeat (apply QL.pure; rfl; rfl; rfl))
      refine QL.nil (fun w1 hE => ?_)
      (repeat (apply EX.thenN))
      refine CW.cond rfl (fun h2 => ?_) (fun h2 => ?_)
      · (repeat (first | (apply WL.pure; rfl; rfl; rfl) | (apply WL.nil) | (apply EX.thenN) | (apply CW.seq) | (apply CW.region) | (apply CW.ret) | (apply EX.thenR) | (apply EX.inR)))
        refine EX.ret1 rfl rfl ⟨?_, hB.trans hE⟩
        simp [Int.ofNat_inj] at h2
        have : (xs == ys) = false := by rw [beq_eq_false_iff_ne]; intro e; subst e; exact h2 rfl
        rw [this]
      · simp [Int.ofNat_inj] at h2
        (repeat (first | (apply WL.add; rfl; rfl; rfl; rfl; omega; omega) | (apply WL.pure; rfl; rfl; rfl) | (apply WL.nil) | (apply EX.thenN) | (apply CW.region) | (apply EX.inN) | (apply CW.skip)))
        refine EX.back (k + 1) (by repeat (first | exact trivial | refine ⟨rfl, ?_⟩)) ⟨h1, hB.trans hE, ?_⟩ (by omega)
        intro j hj hj' hlt
        by_cases e : j = k
        · subst e; exact h2
        · exact hn j hj hj' (by omega)
    · simp at h1
      (repeat (first | (apply WL.pure; rfl; rfl; rfl) | (apply WL.nil) | (apply EX.thenN) | (apply CW.seq) | (apply CW.region) | (apply CW.exit) | (apply EX.thenX) | (apply EX.inX) | (apply CW.ret)))
      refine EX.ret1 rfl rfl ⟨?_, hB⟩
      have : (xs == ys) = true := by
        rw [beq_iff_eq]
        exact List.ext_getElem (by omega) fun j h1 h2 => hn j h1 h2 (by omega)
      rw [this]
theorem index_int (w0 : World) {ao : Option Addr} {cap : Nat} {xs : List Int} (x : Int) (hs : Sl w0 (Old w0) ao cap xs) :
    Rt Try.prog 103 [.slice ao xs.length cap, .int .i64 x].toArray w0 fun v w' => v = .int .i64 (idxOf (fun y => x == y) xs) ∧ Ext w0 w' := by
  have hm := hs.len63
  refine Rt.enter2 Try.func103 Try.ntmps103 rfl rfl ?_
  (repeat (first | (apply WL.pure; rfl; rfl; rfl) | (apply WL.nil) | (apply EX.thenN) | (apply CW.seq) | (apply CW.region) | (apply WL.lenS; rfl; rfl; rfl) | (apply CW.block)))
  refine CW.loop (S := Nat) (fun k => [(0, .slice ao xs.length cap), (1, .int .i64 x), (7, .int .i64 xs.length), (8, .int .i64 k)])
    (fun k w => k ≤ xs.length ∧ Ext w0 w ∧ ∀ j (h : j < xs.length), j < k → (x == xs[j]) = false) (fun k => xs.length - k) 0 (by repeat (first | exact trivial | refine ⟨rfl, ?_⟩)) ⟨by omega, Ext.refl _, by omega⟩ ?_
  rintro k w ⟨hk, hB, hn⟩
  (repeat (first | (apply WL.pure; rfl; rfl; rfl) | (apply WL.nil) | (apply EX.thenN) | (apply CW.seq) | (apply CW.region)))
  refine CW.cond rfl (fun h => ?_) (fun h => ?_)
  · simp at h
    (repeat (first | (apply WL.pure; rfl; rfl; rfl) | (apply WL.nil) | (apply EX.thenN) | (apply CW.seq) | (apply CW.region) | (apply CW.block) | (apply CW.skip)))
    refine WL.elemI rfl rfl rfl rfl rfl (hs.at hB) h rfl (fun _ => rfl) (fun q => ?_)
    (repeat (first | (apply WL.pure; rfl; rfl; rfl) | (apply WL.nil) | (apply EX.thenN)))
    refine CW.cond rfl (fun h' => ?_) (fun h' => ?_)
    · (repeat (first | (apply WL.pure; rfl; rfl; rfl) | (apply WL.nil) | (apply EX.thenN) | (apply CW.seq) | (apply CW.region) | (apply CW.ret) | (apply EX.thenR) | (apply EX.inR)))
      refine EX.ret1 rfl rfl ⟨?_, hB⟩
      rw [idxOf_here h hn h']
    · (repeat (first | (apply WL.add; rfl; rfl; rfl; rfl; omega; omega) | (apply WL.pure; rfl; rfl; rfl) | (apply WL.nil) | (apply EX.thenN) | (apply CW.region) | (apply EX.inN) | (apply CW.skip)))
      refine EX.back (k + 1) (by repeat (first | exact trivial | refine ⟨rfl, ?_⟩)) ⟨h, hB, ?_⟩ (by omega)
      intro j hj hlt
      by_cases e : j = k
      · subst e; exact h'
      · exact hn j hj (by omega)
  · simp at h
    (repeat (first | (apply WL.pure; rfl; rfl; rfl) | (apply WL.nil) | (apply EX.thenN) | (apply CW.seq) | (apply CW.region) | (apply CW.exit) | (apply EX.thenX) | (apply EX.inX) | (apply CW.ret)))
    refine EX.ret1 rfl rfl ⟨?_, hB⟩
    rw [idxOf_none (fun j hj => hn j hj (by omega))]
theorem contains_int (w0 : World) {ao : Option Addr} {cap : Nat} {xs : List Int} (x : Int) (hs : Sl w0 (Old w0) ao cap xs) :
    Rt Try.prog 53 [.slice ao xs.length cap, .int .i64 x].toArray w0 fun v w' => v = .bool (xs.contains x) ∧ Ext w0 w' := by
  refine Rt.enter2 Try.func53 Try.ntmps53 rfl rfl ?_
  (repeat (first | (apply WL.pure; rfl; rfl; rfl) | (apply WL.nil) | (apply EX.thenN) | (apply CW.seq) | (apply CW.region)))
  refine WL.call rfl rfl rfl (index_int w0 x hs) ?_
  rintro v w' ⟨rfl, hB⟩
  (repeat (first | (apply WL.pure; rfl; rfl; rfl) | (apply WL.nil) | (apply EX.thenN) | (apply CW.ret)))
  refine EX.ret1 rfl rfl ⟨?_, hB⟩
  rw [← List.any_beq, ← idxOf_any]
theorem equalFunc_ll (w0 : World) {ao bo : Option Addr} {cap cap' : Nat} {xs ys : List (List Int)} {fv : Value} (hs : Sl w0 (Old w0) ao cap xs) (ht : Sl w0 (Old w0) bo cap' ys)
    (hf : ∀ w, Ext w0 w → ∀ i (h : i < xs.length) (h' : i < ys.length) u u', Rd w (Old w0) u xs[i] → Rd w (Old w0) u' ys[i] → FnV Try.prog fv [u, u'] w fun v w' => v = .bool (xs[i] == ys[i]) ∧ Ext w w') :
    Rt Try.prog 66 [.slice ao xs.length cap, .slice bo ys.length cap', fv].toArray w0 fun v w' => v = .bool (xs == ys) ∧ Ext w0 w' := by
  have hm := hs.len63
  refine Rt.enter3 Try.func66 Try.ntmps66 rfl rfl ?_
  (repeat (first | (apply WL.pure; rfl; rfl; rfl) | (apply WL.nil) | (apply EX.thenN) | (apply CW.seq) | (apply CW.region) | (apply WL.lenS; rfl; rfl; rfl)))
  refine CW.cond rfl (fun h => ?_) (fun h => ?_)
  · (repeat (first | (apply WL.pure; rfl; rfl; rfl) | (apply WL.nil) | (apply EX.thenN) | (apply CW.seq) | (apply CW.region) | (apply CW.ret) | (apply EX.thenR)))
    refine EX.ret1 rfl rfl ⟨?_, Ext.refl _⟩
    simp at h
    have : (xs == ys) = false := by rw [beq_eq_false_iff_ne]; intro e; exact h (by rw [e])
    rw [this]
  · simp at h
    (repeat (first | (apply WL.pure; rfl; rfl; rfl) | (apply WL.nil) | (apply EX.thenN) | (apply CW.seq) | (apply CW.region) | (apply WL.lenS; rfl; rfl; rfl) | (apply CW.block) | (apply CW.skip)))
    refine CW.loop (S := Nat) (fun k => [(1, .slice bo ys.length cap'), (2, fv), (15, .slice ao xs.length cap), (16, .int .i64 xs.length), (17, .int .i64 k)])
      (fun k w => k ≤ xs.length ∧ Ext w0 w ∧ ∀ j (h : j < xs.length) (h' : j < ys.length), j < k → xs[j] = ys[j]) (fun k => xs.length - k) 0 (by repeat (first | exact trivial | refine ⟨rfl, ?_⟩)) ⟨by omega, Ext.refl _, by omega⟩ ?_
    rintro k w ⟨hk, hB, hn⟩
    (repeat (first | (apply WL.pure; rfl; rfl; rfl) | (apply WL.nil) | (apply EX.thenN) | (apply CW.seq) | (apply CW.region)))
    refine CW.cond rfl (fun h1 => ?_) (fun h1 => ?_)
    · simp at h1
      (repeat (first | (apply WL.pure; rfl; rfl; rfl) | (apply EX.thenN) | (apply CW.seq) | (apply CW.region) | (apply CW.block) | (apply CW.skip)))
      refine WL.elemN rfl rfl rfl rfl rfl (hs.at hB) h1 (fun _ => rfl) (fun u q hu => ?_)
      (repeat (first | (apply WL.pure; rfl; rfl; rfl) | (apply WL.nil) | (apply EX.thenN) | (apply CW.seq) | (apply CW.region)))
      refine WL.elemN rfl rfl rfl rfl rfl (ht.at hB) (show k < ys.length by omega) (fun _ => rfl) (fun u' q' hu' => ?_)
      (repeat (first | (apply WL.pure; rfl; rfl; rfl) | (apply WL.nil) | (apply EX.thenN) | (apply CW.seq) | (apply CW.region)))
      refine WL.callF rfl rfl rfl rfl (hf w hB k h1 (by omega) u u' hu hu') ?_
      rintro v w' ⟨rfl, hE⟩
      (repeat (first | (apply WL.pure; rfl; rfl; rfl) | (apply WL.nil) | (apply EX.thenN)))
      refine CW.cond rfl (fun h2 => ?_) (fun h2 => ?_)
      · (repeat (first | (apply WL.pure; rfl; rfl; rfl) | (apply WL.nil) | (apply EX.thenN) | (apply CW.seq) | (apply CW.region) | (apply CW.ret) | (apply EX.thenR) | (apply EX.inR)))
        refine EX.ret1 rfl rfl ⟨?_, hB.trans hE⟩
        simp at h2
        have : (xs == ys) = false := by rw [beq_eq_false_iff_ne]; intro e; subst e; exact h2 rfl
        rw [this]
      · simp at h2
        (repeat (first | (apply WL.add; rfl; rfl; rfl; rfl; omega; omega) | (apply WL.pure; rfl; rfl; rfl) | (apply WL.nil) | (apply EX.thenN) | (apply CW.region) | (apply EX.inN) | (apply CW.skip)))
        refine EX.back (k + 1) (by repeat (first | exact trivial | refine ⟨rfl, ?_⟩)) ⟨h1, hB.trans hE, ?_⟩ (by omega)
        intro j hj hj' hlt
        by_cases e : j = k
        · subst e; exact h2
        · exact hn j hj hj' (by omega)
    · simp at h1
      (repeat (first | (apply WL.pure; rfl; rfl; rfl) | (apply WL.nil) | (apply EX.thenN) | (apply CW.seq) | (apply CW.region) | (apply CW.exit) | (apply EX.thenX) | (apply EX.inX) | (apply CW.ret)))
      refine EX.ret1 rfl rfl ⟨?_, hB⟩
      have : (xs == ys) = true := by
        rw [beq_iff_eq]
        exact List.ext_getElem (by omega) fun j h1 h2 => hn j h1 h2 (by omega)
      rw [this]
theorem indexFunc_ll (w0 : World) {ao : Option Addr} {cap : Nat} {xs : List (List Int)} {fv : Value} (p : List Int → Bool) (hs : Sl w0 (Old w0) ao cap xs)
    (hf : ∀ w, Ext w0 w → ∀ i (h : i < xs.length) u, Rd w (Old w0) u xs[i] → FnV Try.prog fv [u] w fun v w' => v = .bool (p xs[i]) ∧ Ext w w') :
    Rt Try.prog 68 [.slice ao xs.length cap, fv].toArray w0 fun v w' => v = .int .i64 (idxOf p xs) ∧ Ext w0 w' := by
  have hm := hs.len63
  refine Rt.enter2 Try.func68 Try.ntmps68 rfl rfl ?_
  (repeat (first | (apply WL.pure; rfl; rfl; rfl) | (apply WL.nil) | (apply EX.thenN) | (apply CW.seq) | (apply CW.region) | (apply WL.lenS; rfl; rfl; rfl) | (apply CW.block)))
  refine CW.loop (S := Nat) (fun k => [(0, .slice ao xs.length cap), (1, fv), (7, .int .i64 xs.length), (8, .int .i64 k)])
    (fun k w => k ≤ xs.length ∧ Ext w0 w ∧ ∀ j (h : j < xs.length), j < k → p xs[j] = false) (fun k => xs.length - k) 0 (by repeat (first | exact trivial | refine ⟨rfl, ?_⟩)) ⟨by omega, Ext.refl _, by omega⟩ ?_
  rintro k w ⟨hk, hB, hn⟩
  (repeat (first | (apply WL.pure; rfl; rfl; rfl) | (apply WL.nil) | (apply EX.thenN) | (apply CW.seq) | (apply CW.region)))
  refine CW.cond rfl (fun h => ?_) (fun h => ?_)
  · simp at h
    (repeat (first | (apply WL.pure; rfl; rfl; rfl) | (apply WL.nil) | (apply EX.thenN) | (apply CW.seq) | (apply CW.region) | (apply CW.block) | (apply CW.skip)))
    refine WL.elemN rfl rfl rfl rfl rfl (hs.at hB) h (fun _ => rfl) (fun u q hu => ?_)
    refine WL.callF rfl rfl rfl rfl (hf w hB k h u hu) ?_
    rintro v w' ⟨rfl, hB'⟩
    (repeat (first | (apply WL.nil) | (apply EX.thenN)))
    refine CW.cond rfl (fun h' => ?_) (fun h' => ?_)
    · (repeat (first | (apply WL.pure; rfl; rfl; rfl) | (apply WL.nil) | (apply EX.thenN) | (apply CW.seq) | (apply CW.region) | (apply CW.ret) | (apply EX.thenR) | (apply EX.inR)))
      refine EX.ret1 rfl rfl ⟨?_, hB.trans hB'⟩
      rw [idxOf_here h hn h']
    · (repeat (first | (apply WL.add; rfl; rfl; rfl; rfl; omega; omega) | (apply WL.pure; rfl; rfl; rfl) | (apply WL.nil) | (apply EX.thenN) | (apply CW.region) | (apply EX.inN) | (apply CW.skip)))
      refine EX.back (k + 1) (by repeat (first | exact trivial | refine ⟨rfl, ?_⟩)) ⟨h, hB.trans hB', ?_⟩ (by omega)
      intro j hj hlt
      by_cases e : j = k
      · subst e; exact h'
      · exact hn j hj (by omega)
  · simp at h
    (repeat (first | (apply WL.pure; rfl; rfl; rfl) | (apply WL.nil) | (apply EX.thenN) | (apply CW.seq) | (apply CW.region) | (apply CW.exit) | (apply EX.thenX) | (apply EX.inX) | (apply CW.ret)))
    refine EX.ret1 rfl rfl ⟨?_, hB⟩
    rw [idxOf_none (fun j hj => hn j hj (by omega))]

theorem containsFunc_ll (w0 : World) {ao : Option Addr} {cap : Nat} {xs : List (List Int)} {fv : Value} (p : List Int → Bool) (hs : Sl w0 (Old w0) ao cap xs)
    (hf : ∀ w, Ext w0 w → ∀ i (h : i < xs.length) u, Rd w (Old w0) u xs[i] → FnV Try.prog fv [u] w fun v w' => v = .bool (p xs[i]) ∧ Ext w w') :
    Rt Try.prog 21 [.slice ao xs.length cap, fv].toArray w0 fun v w' => v = .bool (xs.any p) ∧ Ext w0 w' := by
  refine Rt.enter2 Try.func21 Try.ntmps21 rfl rfl ?_
  (repeat (first | (apply WL.pure; rfl; rfl; rfl) | (apply WL.nil) | (apply EX.thenN) | (apply CW.seq) | (apply CW.region)))
  refine WL.call rfl rfl rfl (indexFunc_ll w0 p hs hf) ?_
  rintro v w' ⟨rfl, hB⟩
  (repeat (first | (apply WL.pure; rfl; rfl; rfl) | (apply WL.nil) | (apply EX.thenN) | (apply CW.ret)))
  refine EX.ret1 rfl rfl ⟨?_, hB⟩
  rw [← idxOf_any]

theorem indexFunc_raw (w0 : World) {ao : Option Addr} {cap : Nat} {xs : List (Raw)} {fv : Value} (p : Raw → Bool) (hs : Sl w0 (Old w0) ao cap xs)
    (hf : ∀ w, Ext w0 w → ∀ i (h : i < xs.length) u, Rd w (Old w0) u xs[i] → FnV Try.prog fv [u] w fun v w' => v = .bool (p xs[i]) ∧ Ext w w') :
    Rt Try.prog 68 [.slice ao xs.length cap, fv].toArray w0 fun v w' => v = .int .i64 (idxOf p xs) ∧ Ext w0 w' := by
  have hm := hs.len63
  refine Rt.enter2 Try.func68 Try.ntmps68 rfl rfl ?_
  (repeat (first | (apply WL.pure; rfl; rfl; rfl) | (apply WL.nil) | (apply EX.thenN) | (apply CW.seq) | (apply CW.region) | (apply WL.lenS; rfl; rfl; rfl) | (apply CW.block)))
  refine CW.loop (S := Nat) (fun k => [(0, .slice ao xs.length cap), (1, fv), (7, .int .i64 xs.length), (8, .int .i64 k)])
    (fun k w => k ≤ xs.length ∧ Ext w0 w ∧ ∀ j (h : j < xs.length), j < k → p xs[j] = false) (fun k => xs.length - k) 0 (by repeat (first | exact trivial | refine ⟨rfl, ?_⟩)) ⟨by omega, Ext.refl _, by omega⟩ ?_
  rintro k w ⟨hk, hB, hn⟩
  (repeat (first | (apply WL.pure; rfl; rfl; rfl) | (apply WL.nil) | (apply EX.thenN) | (apply CW.seq) | (apply CW.region)))
  refine CW.cond rfl (fun h => ?_) (fun h => ?_)
  · simp at h
    (repeat (first | (apply WL.pure; rfl; rfl; rfl) | (apply WL.nil) | (apply EX.thenN) | (apply CW.seq) | (apply CW.region) | (apply CW.block) | (apply CW.skip)))
    refine WL.elemN rfl rfl rfl rfl rfl (hs.at hB) h (fun _ => rfl) (fun u q hu => ?_)
    refine WL.callF rfl rfl rfl rfl (hf w hB k h u hu) ?_
    rintro v w' ⟨rfl, hB'⟩
    (repeat (first | (apply WL.nil) | (apply EX.thenN)))
    refine CW.cond rfl (fun h' => ?_) (fun h' => ?_)
    · (repeat (first | (apply WL.pure; rfl; rfl; rfl) | (apply WL.nil) | (apply EX.thenN) | (apply CW.seq) | (apply CW.region) | (apply CW.ret) | (apply EX.thenR) | (apply EX.inR)))
      refine EX.ret1 rfl rfl ⟨?_, hB.trans hB'⟩
      rw [idxOf_here h hn h']
    · (repeat (first | (apply WL.add; rfl; rfl; rfl; rfl; omega; omega) | (apply WL.pure; rfl; rfl; rfl) | (apply WL.nil) | (apply EX.thenN) | (apply CW.region) | (apply EX.inN) | (apply CW.skip)))
      refine EX.back (k + 1) (by repeat (first | exact trivial | refine ⟨rfl, ?_⟩)) ⟨h, hB.trans hB', ?_⟩ (by omega)
      intro j hj hlt
      by_cases e : j = k
      · subst e; exact h'
      · exact hn j hj (by omega)
  · simp at h
    (repeat (first | (apply WL.pure; rfl; rfl; rfl) | (apply WL.nil) | (apply EX.thenN) | (apply CW.seq) | (apply CW.region) | (apply CW.exit) | (apply EX.thenX) | (apply EX.inX) | (apply CW.ret)))
    refine EX.ret1 rfl rfl ⟨?_, hB⟩
    rw [idxOf_none (fun j hj => hn j hj (by omega))]

theorem containsFunc_raw (w0 : World) {ao : Option Addr} {cap : Nat} {xs : List (Raw)} {fv : Value} (p : Raw → Bool) (hs : Sl w0 (Old w0) ao cap xs)
    (hf : ∀ w, Ext w0 w → ∀ i (h : i < xs.length) u, Rd w (Old w0) u xs[i] → FnV Try.prog fv [u] w fun v w' => v = .bool (p xs[i]) ∧ Ext w w') :
    Rt Try.prog 21 [.slice ao xs.length cap, fv].toArray w0 fun v w' => v = .bool (xs.any p) ∧ Ext w0 w' := by
  refine Rt.enter2 Try.func21 Try.ntmps21 rfl rfl ?_
  (repeat (first | (apply WL.pure; rfl; rfl; rfl) | (apply WL.nil) | (apply EX.thenN) | (apply CW.seq) | (apply CW.region)))
  refine WL.call rfl rfl rfl (indexFunc_raw w0 p hs hf) ?_
  rintro v w' ⟨rfl, hB⟩
  (repeat (first | (apply WL.pure; rfl; rfl; rfl) | (apply WL.nil) | (apply EX.thenN) | (apply CW.ret)))
  refine EX.ret1 rfl rfl ⟨?_, hB⟩
  rw [← idxOf_any]

end Go.Proofs.Ythojdcbpglipeaa
