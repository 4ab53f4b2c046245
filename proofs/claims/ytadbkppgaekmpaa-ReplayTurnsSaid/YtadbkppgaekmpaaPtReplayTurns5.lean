import Derived.Test.YtadbkppgaekmpaaPtReplayTurns4
/-
  Contracts of more of the generic functions of package slices, at the types where the program uses them.
-/
set_option linter.unusedVariables false
namespace Go.Proofs.Ytadbkppgaekmpaa
open Go.RowKit
theorem equal_int (w0 : World) {ao bo : Option Addr} {cap cap' : Nat} {xs ys : List Int} (hs : Sl w0 (Old w0) ao cap xs) (ht : Sl w0 (Old w0) bo cap' ys) :
    Rt Try.prog 36 [.slice ao xs.length cap, .slice bo ys.length cap'].toArray w0 fun v w' => v = .bool (xs == ys) ∧ Ext w0 w' := by
  have hm := hs.len63
  refine Rt.enter2 Try.func36 Try.ntmps36 rfl rfl ?_
  (repeat (first | (apply WL.pure; rfl; rfl; rfl) | (apply WL.nil) | (apply EX.thenN) | (apply CW.seq) | (apply CW.region) | (apply WL.lenS; rfl; rfl; rfl)))
  refine CW.cond rfl (fun h => ?_) (fun h => ?_)
  · (repeat (first | (apply WL.pure; rfl; rfl; rfl) | (apply WL.nil) | (apply EX.thenN) | (apply CW.seq) | (apply CW.region) | (apply CW.ret) | (apply EX.thenR)))
    refine EX.ret1 rfl rfl ⟨?_, Ext.refl _⟩
    simp at h
    have : (xs == ys) = false := by rw [beq_eq_false_iff_ne]; intro e; exact h (by rw [e])
    rw [this]
  · simp at h
    (repeat (first | (apply WL.pure; rfl; rfl; rfl) | (apply WL.nil) | (apply EX.thenN) | (apply CW.seq) | (apply CW.region) | (apply WL.lenS; rfl; rfl; rfl) | (apply CW.block) | (apply CW.skip)))
    refine CW.loop (S := Nat) (fun k => [(0, .slice ao xs.length cap), (1, .slice bo ys.length cap'), (12, .int .i64 xs.length), (13, .int .i64 k)])
      (fun k w => k ≤ xs.length ∧ Ext w0 w ∧ ∀ j (h : j < xs.length) (h' : j < ys.length), j < k → xs[j] = ys[j]) (fun k => xs.length - k) 0 (by repeat (first | exact trivial | refine ⟨rfl, ?_⟩)) ⟨by omega, Ext.refl _, by omega⟩ ?_
    rintro k w ⟨hk, hB, hn⟩
    (repeat (first | (apply WL.pure; rfl; rfl; rfl) | (apply WL.nil) | (apply EX.thenN) | (apply CW.seq) | (apply CW.region)))
    refine CW.cond rfl (fun h1 => ?_) (fun h1 => ?_)
    · simp at h1
      (repeat (first | (apply WL.pure; rfl; rfl; rfl) | (apply QL.pure; rfl; rfl; rfl) | (apply WL.nil) | (apply EX.thenN) | (apply CW.seq) | (apply CW.region) | (apply CW.block) | (apply CW.skip) | (apply CW.draw; exact mixed; kernel_rfl)))
      refine QL.elemI rfl rfl rfl rfl rfl (fun _ h => h) (hs.up hB) h1 rfl (fun _ => rfl) (fun q => ?_)
      (repeat (apply QL.pure; rfl; rfl; rfl))
      refine QL.elemI rfl rfl rfl rfl rfl (fun _ h => h) (ht.up hB) (by omega) rfl (fun _ => rfl) (fun q' => ?_)
      (repeat (apply QL.pure; rfl; rfl; rfl))
      refine QL.nil (fun w1 hE => ?_)
      (repeat (apply EX.thenN))
      refine CW.cond rfl (fun h2 => ?_) (fun h2 => ?_)
      · (repeat (first | (apply WL.pure; rfl; rfl; rfl) | (apply WL.nil) | (apply EX.thenN) | (apply CW.seq) | (apply CW.region) | (apply CW.ret) | (apply EX.thenR) | (apply EX.inR)))
        refine EX.ret1 rfl rfl ⟨?_, hB.trans hE⟩
        simp at h2
        have : (xs == ys) = false := by rw [beq_eq_false_iff_ne]; intro e; subst e; exact h2 rfl
        rw [this]
      · simp at h2
        (repeat (first | (apply WL.add; rfl; rfl; rfl; rfl; omega; omega) | (apply WL.pure; rfl; rfl; rfl) | (apply WL.nil) | (apply EX.thenN) | (apply CW.region) | (apply EX.inN) | (apply CW.skip)))
        refine EX.back (k + 1) (by repeat (first | exact trivial | refine ⟨rfl, ?_⟩)) ⟨h1, hB.trans hE, ?_⟩ (by omega)
        intro j hj hj' hlt
        by_cases e : j = k
        · subst e; exact h2
        · exact hn j hj hj' (by omega)
    · simp at h1
      (repeat (first | (apply WL.pure; rfl; rfl; rfl) | (apply WL.nil) | (apply EX.thenN) | (apply CW.seq) | (apply CW.region) | (apply CW.exit) | (apply EX.thenX) | (apply EX.inX) | (apply CW.ret)))
      refine EX.ret1 rfl rfl ⟨?_, hB⟩
      have : (xs == ys) = true := by
        rw [beq_iff_eq]
        exact List.ext_getElem (by omega) fun j h1 h2 => hn j h1 h2 (by omega)
      rw [this]
theorem equal_u64 (w0 : World) {ao bo : Option Addr} {cap cap' : Nat} {xs ys : List Nat} (hs : Sl w0 (Old w0) ao cap xs) (ht : Sl w0 (Old w0) bo cap' ys) :
    Rt Try.prog 71 [.slice ao xs.length cap, .slice bo ys.length cap'].toArray w0 fun v w' => v = .bool (xs == ys) ∧ Ext w0 w' := by
  have hm := hs.len63
  refine Rt.enter2 Try.func71 Try.ntmps71 rfl rfl ?_
  (repeat (first | (apply WL.pure; rfl; rfl; rfl) | (apply WL.nil) | (apply EX.thenN) | (apply CW.seq) | (apply CW.region) | (apply WL.lenS; rfl; rfl; rfl)))
  refine CW.cond rfl (fun h => ?_) (fun h => ?_)
  · (repeat (first | (apply WL.pure; rfl; rfl; rfl) | (apply WL.nil) | (apply EX.thenN) | (apply CW.seq) | (apply CW.region) | (apply CW.ret) | (apply EX.thenR)))
    refine EX.ret1 rfl rfl ⟨?_, Ext.refl _⟩
    simp at h
    have : (xs == ys) = false := by rw [beq_eq_false_iff_ne]; intro e; exact h (by rw [e])
    rw [this]
  · simp at h
    (repeat (first | (apply WL.pure; rfl; rfl; rfl) | (apply WL.nil) | (apply EX.thenN) | (apply CW.seq) | (apply CW.region) | (apply WL.lenS; rfl; rfl; rfl) | (apply CW.block) | (apply CW.skip)))
    refine CW.loop (S := Nat) (fun k => [(0, .slice ao xs.length cap), (1, .slice bo ys.length cap'), (12, .int .i64 xs.length), (13, .int .i64 k)])
      (fun k w => k ≤ xs.length ∧ Ext w0 w ∧ ∀ j (h : j < xs.length) (h' : j < ys.length), j < k → xs[j] = ys[j]) (fun k => xs.length - k) 0 (by repeat (first | exact trivial | refine ⟨rfl, ?_⟩)) ⟨by omega, Ext.refl _, by omega⟩ ?_
    rintro k w ⟨hk, hB, hn⟩
    (repeat (first | (apply WL.pure; rfl; rfl; rfl) | (apply WL.nil) | (apply EX.thenN) | (apply CW.seq) | (apply CW.region)))
    refine CW.cond rfl (fun h1 => ?_) (fun h1 => ?_)
    · simp at h1
      (repeat (first | (apply WL.pure; rfl; rfl; rfl) | (apply QL.pure; rfl; rfl; rfl) | (apply WL.nil) | (apply EX.thenN) | (apply CW.seq) | (apply CW.region) | (apply CW.block) | (apply CW.skip) | (apply CW.draw; exact mixed; kernel_rfl)))
      refine QL.elemN rfl rfl rfl rfl rfl (fun _ h => h) (hs.up hB) h1 (fun _ => rfl) (fun u q hu => ?_)
      obtain ⟨rfl, hu1⟩ := hu.u64
      (repeat (apply QL.pure; rfl; rfl; rfl))
      refine QL.elemN rfl rfl rfl rfl rfl (fun _ h => h) (ht.up hB) (show k < ys.length by omega) (fun _ => rfl) (fun u q' hu' => ?_)
      obtain ⟨rfl, hu2⟩ := hu'.u64
      (repeat (apply QL.pure; rfl; rfl; rfl))
      refine QL.nil (fun w1 hE => ?_)
      (repeat (apply EX.thenN))
      refine CW.cond rfl (fun h2 => ?_) (fun h2 => ?_)
      · (repeat (first | (apply WL.pure; rfl; rfl; rfl) | (apply WL.nil) | (apply EX.thenN) | (apply CW.seq) | (apply CW.region) | (apply CW.ret) | (apply EX.thenR) | (apply EX.inR)))
        refine EX.ret1 rfl rfl ⟨?_, hB.trans hE⟩
        simp [Int.ofNat_inj] at h2
        have : (xs == ys) = false := by rw [beq_eq_false_iff_ne]; intro e; subst e; exact h2 rfl
        rw [this]
      · simp [Int.ofNat_inj] at h2
        (repeat (first | (apply WL.add; rfl; rfl; rfl; rfl; omega; omega) | (apply WL.pure; rfl; rfl; rfl) | (apply WL.nil) | (apply EX.thenN) | (apply CW.region) | (apply EX.inN) | (apply CW.skip)))
        refine EX.back (k + 1) (by repeat (first | exact trivial | refine ⟨rfl, ?_⟩)) ⟨h1, hB.trans hE, ?_⟩ (by omega)
        intro j hj hj' hlt
        by_cases e : j = k
        · subst e; exact h2
        · exact hn j hj hj' (by omega)
    · simp at h1
      (repeat (first | (apply WL.pure; rfl; rfl; rfl) | (apply WL.nil) | (apply EX.thenN) | (apply CW.seq) | (apply CW.region) | (apply CW.exit) | (apply EX.thenX) | (apply EX.inX) | (apply CW.ret)))
      refine EX.ret1 rfl rfl ⟨?_, hB⟩
      have : (xs == ys) = true := by
        rw [beq_iff_eq]
        exact List.ext_getElem (by omega) fun j h1 h2 => hn j h1 h2 (by omega)
      rw [this]
theorem index_int (w0 : World) {ao : Option Addr} {cap : Nat} {xs : List Int} (x : Int) (hs : Sl w0 (Old w0) ao cap xs) :
    Rt Try.prog 129 [.slice ao xs.length cap, .int .i64 x].toArray w0 fun v w' => v = .int .i64 (idxOf (fun y => x == y) xs) ∧ Ext w0 w' := by
  have hm := hs.len63
  refine Rt.enter2 Try.func129 Try.ntmps129 rfl rfl ?_
  (repeat (first | (apply WL.pure; rfl; rfl; rfl) | (apply WL.nil) | (apply EX.thenN) | (apply CW.seq) | (apply CW.region) | (apply WL.lenS; rfl; rfl; rfl) | (apply CW.block)))
  refine CW.loop (S := Nat) (fun k => [(0, .slice ao xs.length cap), (1, .int .i64 x), (7, .int .i64 xs.length), (8, .int .i64 k)])
    (fun k w => k ≤ xs.length ∧ Ext w0 w ∧ ∀ j (h : j < xs.length), j < k → (x == xs[j]) = false) (fun k => xs.length - k) 0 (by repeat (first | exact trivial | refine ⟨rfl, ?_⟩)) ⟨by omega, Ext.refl _, by omega⟩ ?_
  rintro k w ⟨hk, hB, hn⟩
  (repeat (first | (apply WL.pure; rfl; rfl; rfl) | (apply WL.nil) | (apply EX.thenN) | (apply CW.seq) | (apply CW.region)))
  refine CW.cond rfl (fun h => ?_) (fun h => ?_)
  · simp at h
    (repeat (first | (apply WL.pure; rfl; rfl; rfl) | (apply WL.nil) | (apply EX.thenN) | (apply CW.seq) | (apply CW.region) | (apply CW.block) | (apply CW.skip)))
    refine WL.elemI rfl rfl rfl rfl rfl (hs.at hB) h rfl (fun _ => rfl) (fun q => ?_)
    (repeat (first | (apply WL.pure; rfl; rfl; rfl) | (apply WL.nil) | (apply EX.thenN)))
    refine CW.cond rfl (fun h' => ?_) (fun h' => ?_)
    · (repeat (first | (apply WL.pure; rfl; rfl; rfl) | (apply WL.nil) | (apply EX.thenN) | (apply CW.seq) | (apply CW.region) | (apply CW.ret) | (apply EX.thenR) | (apply EX.inR)))
      refine EX.ret1 rfl rfl ⟨?_, hB⟩
      rw [idxOf_here h hn h']
    · (repeat (first | (apply WL.add; rfl; rfl; rfl; rfl; omega; omega) | (apply WL.pure; rfl; rfl; rfl) | (apply WL.nil) | (apply EX.thenN) | (apply CW.region) | (apply EX.inN) | (apply CW.skip)))
      refine EX.back (k + 1) (by repeat (first | exact trivial | refine ⟨rfl, ?_⟩)) ⟨h, hB, ?_⟩ (by omega)
      intro j hj hlt
      by_cases e : j = k
      · subst e; exact h'
      · exact hn j hj (by omega)
  · simp at h
    (repeat (first | (apply WL.pure; rfl; rfl; rfl) | (apply WL.nil) | (apply EX.thenN) | (apply CW.seq) | (apply CW.region) | (apply CW.exit) | (apply EX.thenX) | (apply EX.inX) | (apply CW.ret)))
    refine EX.ret1 rfl rfl ⟨?_, hB⟩
    rw [idxOf_none (fun j hj => hn j hj (by omega))]
theorem contains_int (w0 : World) {ao : Option Addr} {cap : Nat} {xs : List Int} (x : Int) (hs : Sl w0 (Old w0) ao cap xs) :
    Rt Try.prog 65 [.slice ao xs.length cap, .int .i64 x].toArray w0 fun v w' => v = .bool (xs.contains x) ∧ Ext w0 w' := by
  refine Rt.enter2 Try.func65 Try.ntmps65 rfl rfl ?_
  (repeat (first | (apply WL.pure; rfl; rfl; rfl) | (apply WL.nil) | (apply EX.thenN) | (apply CW.seq) | (apply CW.region)))
  refine WL.call rfl rfl rfl (index_int w0 x hs) ?_
  rintro v w' ⟨rfl, hB⟩
  (repeat (first | (apply WL.pure; rfl; rfl; rfl) | (apply WL.nil) | (apply EX.thenN) | (apply CW.ret)))
  refine EX.ret1 rfl rfl ⟨?_, hB⟩
  rw [← List.any_beq, ← idxOf_any]
theorem equalFunc_ll (w0 : World) {ao bo : Option Addr} {cap cap' : Nat} {xs ys : List (List Int)} {fv : Value} (hs : Sl w0 (Old w0) ao cap xs) (ht : Sl w0 (Old w0) bo cap' ys)
    (hf : ∀ w, Ext w0 w → ∀ i (h : i < xs.length) (h' : i < ys.length) u u', Rd w (Old w0) u xs[i] → Rd w (Old w0) u' ys[i] → FnV Try.prog fv [u, u'] w fun v w' => v = .bool (xs[i] == ys[i]) ∧ Ext w w') :
    Rt Try.prog 70 [.slice ao xs.length cap, .slice bo ys.length cap', fv].toArray w0 fun v w' => v = .bool (xs == ys) ∧ Ext w0 w' := by
  have hm := hs.len63
  refine Rt.enter3 Try.func70 Try.ntmps70 rfl rfl ?_
  (repeat (first | (apply WL.pure; rfl; rfl; rfl) | (apply WL.nil) | (apply EX.thenN) | (apply CW.seq) | (apply CW.region) | (apply WL.lenS; rfl; rfl; rfl)))
  refine CW.cond rfl (fun h => ?_) (fun h => ?_)
  · (repeat (first | (apply WL.pure; rfl; rfl; rfl) | (apply WL.nil) | (apply EX.thenN) | (apply CW.seq) | (apply CW.region) | (apply CW.ret) | (apply EX.thenR)))
    refine EX.ret1 rfl rfl ⟨?_, Ext.refl _⟩
    simp at h
    have : (xs == ys) = false := by rw [beq_eq_false_iff_ne]; intro e; exact h (by rw [e])
    rw [this]
  · simp at h
    (repeat (first | (apply WL.pure; rfl; rfl; rfl) | (apply WL.nil) | (apply EX.thenN) | (apply CW.seq) | (apply CW.region) | (apply WL.lenS; rfl; rfl; rfl) | (apply CW.block) | (apply CW.skip)))
    refine CW.loop (S := Nat) (fun k => [(1, .slice bo ys.length cap'), (2, fv), (15, .slice ao xs.length cap), (16, .int .i64 xs.length), (17, .int .i64 k)])
      (fun k w => k ≤ xs.length ∧ Ext w0 w ∧ ∀ j (h : j < xs.length) (h' : j < ys.length), j < k → xs[j] = ys[j]) (fun k => xs.length - k) 0 (by repeat (first | exact trivial | refine ⟨rfl, ?_⟩)) ⟨by omega, Ext.refl _, by omega⟩ ?_
    rintro k w ⟨hk, hB, hn⟩
    (repeat (first | (apply WL.pure; rfl; rfl; rfl) | (apply WL.nil) | (apply EX.thenN) | (apply CW.seq) | (apply CW.region)))
    refine CW.cond rfl (fun h1 => ?_) (fun h1 => ?_)
    · simp at h1
      (repeat (first | (apply WL.pure; rfl; rfl; rfl) | (apply EX.thenN) | (apply CW.seq) | (apply CW.region) | (apply CW.block) | (apply CW.skip)))
      refine WL.elemN rfl rfl rfl rfl rfl (hs.at hB) h1 (fun _ => rfl) (fun u q hu => ?_)
      (repeat (first | (apply WL.pure; rfl; rfl; rfl) | (apply WL.nil) | (apply EX.thenN) | (apply CW.seq) | (apply CW.region)))
      refine WL.elemN rfl rfl rfl rfl rfl (ht.at hB) (show k < ys.length by omega) (fun _ => rfl) (fun u' q' hu' => ?_)
      (repeat (first | (apply WL.pure; rfl; rfl; rfl) | (apply WL.nil) | (apply EX.thenN) | (apply CW.seq) | (apply CW.region)))
      refine WL.callF rfl rfl rfl rfl (hf w hB k h1 (by omega) u u' hu hu') ?_
      rintro v w' ⟨rfl, hE⟩
      (repeat (first | (apply WL.pure; rfl; rfl; rfl) | (apply WL.nil) | (apply EX.thenN)))
      refine CW.cond rfl (fun h2 => ?_) (fun h2 => ?_)
      · (repeat (first | (apply WL.pure; rfl; rfl; rfl) | (apply WL.nil) | (apply EX.thenN) | (apply CW.seq) | (apply CW.region) | (apply CW.ret) | (apply EX.thenR) | (apply EX.inR)))
        refine EX.ret1 rfl rfl ⟨?_, hB.trans hE⟩
        simp at h2
        have : (xs == ys) = false := by rw [beq_eq_false_iff_ne]; intro e; subst e; exact h2 rfl
        rw [this]
      · simp at h2
        (repeat (first | (apply WL.add; rfl; rfl; rfl; rfl; omega; omega) | (apply WL.pure; rfl; rfl; rfl) | (apply WL.nil) | (apply EX.thenN) | (apply CW.region) | (apply EX.inN) | (apply CW.skip)))
        refine EX.back (k + 1) (by repeat (first | exact trivial | refine ⟨rfl, ?_⟩)) ⟨h1, hB.trans hE, ?_⟩ (by omega)
        intro j hj hj' hlt
        by_cases e : j = k
        · subst e; exact h2
        · exact hn j hj hj' (by omega)
    · simp at h1
      (repeat (first | (apply WL.pure; rfl; rfl; rfl) | (apply WL.nil) | (apply EX.thenN) | (apply CW.seq) | (apply CW.region) | (apply CW.exit) | (apply EX.thenX) | (apply EX.inX) | (apply CW.ret)))
      refine EX.ret1 rfl rfl ⟨?_, hB⟩
      have : (xs == ys) = true := by
        rw [beq_iff_eq]
        exact List.ext_getElem (by omega) fun j h1 h2 => hn j h1 h2 (by omega)
      rw [this]
theorem indexFunc_ll (w0 : World) {ao : Option Addr} {cap : Nat} {xs : List (List Int)} {fv : Value} (p : List Int → Bool) (hs : Sl w0 (Old w0) ao cap xs)
    (hf : ∀ w, Ext w0 w → ∀ i (h : i < xs.length) u, Rd w (Old w0) u xs[i] → FnV Try.prog fv [u] w fun v w' => v = .bool (p xs[i]) ∧ Ext w w') :
    Rt Try.prog 72 [.slice ao xs.length cap, fv].toArray w0 fun v w' => v = .int .i64 (idxOf p xs) ∧ Ext w0 w' := by
  have hm := hs.len63
  refine Rt.enter2 Try.func72 Try.ntmps72 rfl rfl ?_
  (repeat (first | (apply WL.pure; rfl; rfl; rfl) | (apply WL.nil) | (apply EX.thenN) | (apply CW.seq) | (apply CW.region) | (apply WL.lenS; rfl; rfl; rfl) | (apply CW.block)))
  refine CW.loop (S := Nat) (fun k => [(0, .slice ao xs.length cap), (1, fv), (7, .int .i64 xs.length), (8, .int .i64 k)])
    (fun k w => k ≤ xs.length ∧ Ext w0 w ∧ ∀ j (h : j < xs.length), j < k → p xs[j] = false) (fun k => xs.length - k) 0 (by repeat (first | exact trivial | refine ⟨rfl, ?_⟩)) ⟨by omega, Ext.refl _, by omega⟩ ?_
  rintro k w ⟨hk, hB, hn⟩
  (repeat (first | (apply WL.pure; rfl; rfl; rfl) | (apply WL.nil) | (apply EX.thenN) | (apply CW.seq) | (apply CW.region)))
  refine CW.cond rfl (fun h => ?_) (fun h => ?_)
  · simp at h
    (repeat (first | (apply WL.pure; rfl; rfl; rfl) | (apply WL.nil) | (apply EX.thenN) | (apply CW.seq) | (apply CW.region) | (apply CW.block) | (apply CW.skip)))
    refine WL.elemN rfl rfl rfl rfl rfl (hs.at hB) h (fun _ => rfl) (fun u q hu => ?_)
    refine WL.callF rfl rfl rfl rfl (hf w hB k h u hu) ?_
    rintro v w' ⟨rfl, hB'⟩
    (repeat (first | (apply WL.nil) | (apply EX.thenN)))
    refine CW.cond rfl (fun h' => ?_) (fun h' => ?_)
    · (repeat (first | (apply WL.pure; rfl; rfl; rfl) | (apply WL.nil) | (apply EX.thenN) | (apply CW.seq) | (apply CW.region) | (apply CW.ret) | (apply EX.thenR) | (apply EX.inR)))
      refine EX.ret1 rfl rfl ⟨?_, hB.trans hB'⟩
      rw [idxOf_here h hn h']
    · (repeat (first | (apply WL.add; rfl; rfl; rfl; rfl; omega; omega) | (apply WL.pure; rfl; rfl; rfl) | (apply WL.nil) | (apply EX.thenN) | (apply CW.region) | (apply EX.inN) | (apply CW.skip)))
      refine EX.back (k + 1) (by repeat (first | exact trivial | refine ⟨rfl, ?_⟩)) ⟨h, hB.trans hB', ?_⟩ (by omega)
      intro j hj hlt
      by_cases e : j = k
      · subst e; exact h'
      · exact hn j hj (by omega)
  · simp at h
    (repeat (first | (apply WL.pure; rfl; rfl; rfl) | (apply WL.nil) | (apply EX.thenN) | (apply CW.seq) | (apply CW.region) | (apply CW.exit) | (apply EX.thenX) | (apply EX.inX) | (apply CW.ret)))
    refine EX.ret1 rfl rfl ⟨?_, hB⟩
    rw [idxOf_none (fun j hj => hn j hj (by omega))]

theorem containsFunc_ll (w0 : World) {ao : Option Addr} {cap : Nat} {xs : List (List Int)} {fv : Value} (p : List Int → Bool) (hs : Sl w0 (Old w0) ao cap xs)
    (hf : ∀ w, Ext w0 w → ∀ i (h : i < xs.length) u, Rd w (Old w0) u xs[i] → FnV Try.prog fv [u] w fun v w' => v = .bool (p xs[i]) ∧ Ext w w') :
    Rt Try.prog 19 [.slice ao xs.length cap, fv].toArray w0 fun v w' => v = .bool (xs.any p) ∧ Ext w0 w' := by
  refine Rt.enter2 Try.func19 Try.ntmps19 rfl rfl ?_
  (repeat (first | (apply WL.pure; rfl; rfl; rfl) | (apply WL.nil) | (apply EX.thenN) | (apply CW.seq) | (apply CW.region)))
  refine WL.call rfl rfl rfl (indexFunc_ll w0 p hs hf) ?_
  rintro v w' ⟨rfl, hB⟩
  (repeat (first | (apply WL.pure; rfl; rfl; rfl) | (apply WL.nil) | (apply EX.thenN) | (apply CW.ret)))
  refine EX.ret1 rfl rfl ⟨?_, hB⟩
  rw [← idxOf_any]

theorem indexFunc_raw (w0 : World) {ao : Option Addr} {cap : Nat} {xs : List (Raw)} {fv : Value} (p : Raw → Bool) (hs : Sl w0 (Old w0) ao cap xs)
    (hf : ∀ w, Ext w0 w → ∀ i (h : i < xs.length) u, Rd w (Old w0) u xs[i] → FnV Try.prog fv [u] w fun v w' => v = .bool (p xs[i]) ∧ Ext w w') :
    Rt Try.prog 72 [.slice ao xs.length cap, fv].toArray w0 fun v w' => v = .int .i64 (idxOf p xs) ∧ Ext w0 w' := by
  have hm := hs.len63
  refine Rt.enter2 Try.func72 Try.ntmps72 rfl rfl ?_
  (repeat (first | (apply WL.pure; rfl; rfl; rfl) | (apply WL.nil) | (apply EX.thenN) | (apply CW.seq) | (apply CW.region) | (apply WL.lenS; rfl; rfl; rfl) | (apply CW.block)))
  refine CW.loop (S := Nat) (fun k => [(0, .slice ao xs.length cap), (1, fv), (7, .int .i64 xs.length), (8, .int .i64 k)])
    (fun k w => k ≤ xs.length ∧ Ext w0 w ∧ ∀ j (h : j < xs.length), j < k → p xs[j] = false) (fun k => xs.length - k) 0 (by repeat (first | exact trivial | refine ⟨rfl, ?_⟩)) ⟨by omega, Ext.refl _, by omega⟩ ?_
  rintro k w ⟨hk, hB, hn⟩
  (repeat (first | (apply WL.pure; rfl; rfl; rfl) | (apply WL.nil) | (apply EX.thenN) | (apply CW.seq) | (apply CW.region)))
  refine CW.cond rfl (fun h => ?_) (fun h => ?_)
  · simp at h
    (repeat (first | (apply WL.pure; rfl; rfl; rfl) | (apply WL.nil) | (apply EX.thenN) | (apply CW.seq) | (apply CW.region) | (apply CW.block) | (apply CW.skip)))
    refine WL.elemN rfl rfl rfl rfl rfl (hs.at hB) h (fun _ => rfl) (fun u q hu => ?_)
    refine WL.callF rfl rfl rfl rfl (hf w hB k h u hu) ?_
    rintro v w' ⟨rfl, hB'⟩
    (repeat (first | (apply WL.nil) | (apply EX.thenN)))
    refine CW.cond rfl (fun h' => ?_) (fun h' => ?_)
    · (repeat (first | (apply WL.pure; rfl; rfl; rfl) | (apply WL.nil) | (apply EX.thenN) | (apply CW.seq) | (apply CW.region) | (apply CW.ret) | (apply EX.thenR) | (apply EX.inR)))
      refine EX.ret1 rfl rfl ⟨?_, hB.trans hB'⟩
      rw [idxOf_here h hn h']
    · (repeat (first | (apply WL.add; rfl; rfl; rfl; rfl; omega; omega) | (apply WL.pure; rfl; rfl; rfl) | (apply WL.nil) | (apply EX.thenN) | (apply CW.region) | (apply EX.inN) | (apply CW.skip)))
      refine EX.back (k + 1) (by repeat (first | exact trivial | refine ⟨rfl, ?_⟩)) ⟨h, hB.trans hB', ?_⟩ (by omega)
      intro j hj hlt
      by_cases e : j = k
      · subst e; exact h'
      · exact hn j hj (by omega)
  · simp at h
    (repeat (first | (apply WL.pure; rfl; rfl; rfl) | (apply WL.nil) | (apply EX.thenN) | (apply CW.seq) | (apply CW.region) | (apply CW.exit) | (apply EX.thenX) | (apply EX.inX) | (apply CW.ret)))
    refine EX.ret1 rfl rfl ⟨?_, hB⟩
    rw [idxOf_none (fun j hj => hn j hj (by omega))]

theorem containsFunc_raw (w0 : World) {ao : Option Addr} {cap : Nat} {xs : List (Raw)} {fv : Value} (p : Raw → Bool) (hs : Sl w0 (Old w0) ao cap xs)
    (hf : ∀ w, Ext w0 w → ∀ i (h : i < xs.length) u, Rd w (Old w0) u xs[i] → FnV Try.prog fv [u] w fun v w' => v = .bool (p xs[i]) ∧ Ext w w') :
    Rt Try.prog 19 [.slice ao xs.length cap, fv].toArray w0 fun v w' => v = .bool (xs.any p) ∧ Ext w0 w' := by
  refine Rt.enter2 Try.func19 Try.ntmps19 rfl rfl ?_
  (repeat (first | (apply WL.pure; rfl; rfl; rfl) | (apply WL.nil) | (apply EX.thenN) | (apply CW.seq) | (apply CW.region)))
  refine WL.call rfl rfl rfl (indexFunc_raw w0 p hs hf) ?_
  rintro v w' ⟨rfl, hB⟩
  (repeat (first | (apply WL.pure; rfl; rfl; rfl) | (apply WL.nil) | (apply EX.thenN) | (apply CW.ret)))
  refine EX.ret1 rfl rfl ⟨?_, hB⟩
  rw [← idxOf_any]

end Go.Proofs.Ytadbkppgaekmpaa
/-
  slices.IndexFunc and slices.ContainsFunc at lists of structs.
-/
set_option linter.unusedVariables false
namespace Go.Proofs.Ytadbkppgaekmpaa
open Go.RowKit
theorem indexFunc_node (w0 : World) {ao : Option Addr} {cap : Nat} {xs : List (ByteArray × Int)} {fv : Value} (p : (ByteArray × Int) → Bool) (hs : Sl w0 (Old w0) ao cap xs)
    (hf : ∀ w, Ext w0 w → ∀ i (h : i < xs.length) u, Rd w (Old w0) u xs[i] → FnV Try.prog fv [u] w fun v w' => v = .bool (p xs[i]) ∧ Ext w w') :
    Rt Try.prog 204 [.slice ao xs.length cap, fv].toArray w0 fun v w' => v = .int .i64 (idxOf p xs) ∧ Ext w0 w' := by
  have hm := hs.len63
  refine Rt.enter2 Try.func204 Try.ntmps204 rfl rfl ?_
  (repeat (first | (apply WL.pure; rfl; rfl; rfl) | (apply WL.nil) | (apply EX.thenN) | (apply CW.seq) | (apply CW.region) | (apply WL.lenS; rfl; rfl; rfl) | (apply CW.block)))
  refine CW.loop (S := Nat) (fun k => [(0, .slice ao xs.length cap), (1, fv), (7, .int .i64 xs.length), (8, .int .i64 k)])
    (fun k w => k ≤ xs.length ∧ Ext w0 w ∧ ∀ j (h : j < xs.length), j < k → p xs[j] = false) (fun k => xs.length - k) 0 (by repeat (first | exact trivial | refine ⟨rfl, ?_⟩)) ⟨by omega, Ext.refl _, by omega⟩ ?_
  rintro k w ⟨hk, hB, hn⟩
  (repeat (first | (apply WL.pure; rfl; rfl; rfl) | (apply WL.nil) | (apply EX.thenN) | (apply CW.seq) | (apply CW.region)))
  refine CW.cond rfl (fun h => ?_) (fun h => ?_)
  · simp at h
    (repeat (first | (apply WL.pure; rfl; rfl; rfl) | (apply WL.nil) | (apply EX.thenN) | (apply CW.seq) | (apply CW.region) | (apply CW.block) | (apply CW.skip)))
    refine WL.elemN rfl rfl rfl rfl rfl (hs.at hB) h (fun _ => rfl) (fun u q hu => ?_)
    refine WL.callF rfl rfl rfl rfl (hf w hB k h u hu) ?_
    rintro v w' ⟨rfl, hB'⟩
    (repeat (first | (apply WL.nil) | (apply EX.thenN)))
    refine CW.cond rfl (fun h' => ?_) (fun h' => ?_)
    · (repeat (first | (apply WL.pure; rfl; rfl; rfl) | (apply WL.nil) | (apply EX.thenN) | (apply CW.seq) | (apply CW.region) | (apply CW.ret) | (apply EX.thenR) | (apply EX.inR)))
      refine EX.ret1 rfl rfl ⟨?_, hB.trans hB'⟩
      rw [idxOf_here h hn h']
    · (repeat (first | (apply WL.add; rfl; rfl; rfl; rfl; omega; omega) | (apply WL.pure; rfl; rfl; rfl) | (apply WL.nil) | (apply EX.thenN) | (apply CW.region) | (apply EX.inN) | (apply CW.skip)))
      refine EX.back (k + 1) (by repeat (first | exact trivial | refine ⟨rfl, ?_⟩)) ⟨h, hB.trans hB', ?_⟩ (by omega)
      intro j hj hlt
      by_cases e : j = k
      · subst e; exact h'
      · exact hn j hj (by omega)
  · simp at h
    (repeat (first | (apply WL.pure; rfl; rfl; rfl) | (apply WL.nil) | (apply EX.thenN) | (apply CW.seq) | (apply CW.region) | (apply CW.exit) | (apply EX.thenX) | (apply EX.inX) | (apply CW.ret)))
    refine EX.ret1 rfl rfl ⟨?_, hB⟩
    rw [idxOf_none (fun j hj => hn j hj (by omega))]
theorem containsFunc_node (w0 : World) {ao : Option Addr} {cap : Nat} {xs : List (ByteArray × Int)} {fv : Value} (p : (ByteArray × Int) → Bool) (hs : Sl w0 (Old w0) ao cap xs)
    (hf : ∀ w, Ext w0 w → ∀ i (h : i < xs.length) u, Rd w (Old w0) u xs[i] → FnV Try.prog fv [u] w fun v w' => v = .bool (p xs[i]) ∧ Ext w w') :
    Rt Try.prog 186 [.slice ao xs.length cap, fv].toArray w0 fun v w' => v = .bool (xs.any p) ∧ Ext w0 w' := by
  refine Rt.enter2 Try.func186 Try.ntmps186 rfl rfl ?_
  (repeat (first | (apply WL.pure; rfl; rfl; rfl) | (apply WL.nil) | (apply EX.thenN) | (apply CW.seq) | (apply CW.region)))
  refine WL.call rfl rfl rfl (indexFunc_node w0 p hs hf) ?_
  rintro v w' ⟨rfl, hB⟩
  (repeat (first | (apply WL.pure; rfl; rfl; rfl) | (apply WL.nil) | (apply EX.thenN) | (apply CW.ret)))
  refine EX.ret1 rfl rfl ⟨?_, hB⟩
  rw [← idxOf_any]
end Go.Proofs.Ytadbkppgaekmpaa
/-
  Texts: length, one byte.
-/
set_option linter.unusedVariables false
set_option linter.unusedSimpArgs false
namespace Go.Proofs.Ytadbkppgaekmpaa
open Go.RowKit

class IsStr (P : Program) (t : TypeId) : Prop where
  ok : P.underlying t = some .string
instance iStrg1 : IsStr Try.prog 9 := ⟨Try.underlying9⟩
section
variable {P : Program} {Q : Exit → Act → World → Prop} {n : Nat} {σ : Sg} {w : World} {L rest : List Oper} {d : Nat} {op : Op} {ty : TypeId} {pos : String} {af : Array Edge} {g : Option (Nat × Bool)} {t : TypeId} {x ix : Operand}
/-- len(s), a text -/
theorem WL.lenT {s : ByteArray} (hg : gd L σ ⟨some d, .call ⟨.builtin .len, #[x], #[t]⟩, ty, pos, af, g⟩ = some true) (hd : Nat.ble (d + 1) n = true)
    (hx : ev σ x = some (.string s)) [hs : IsStr P t] (h : WL P L Q rest n ((d, .int .i64 (s.size : Int)) :: σ) w) : WL P L Q (⟨some d, .call ⟨.builtin .len, #[x], #[t]⟩, ty, pos, af, g⟩ :: rest) n σ w := by
  refine WL.run hg hd (fun a ha => ?_) h
  simp [execOp, resolve, invoke, builtin, ha.ev hx, Builtin.len_, run_underlying hs.ok, goInt]
theorem QL.lenT {s : ByteArray} (hg : gd L σ ⟨some d, .call ⟨.builtin .len, #[x], #[t]⟩, ty, pos, af, g⟩ = some true) (hd : Nat.ble (d + 1) n = true)
    (hx : ev σ x = some (.string s)) [hs : IsStr P t] (h : QL P L w Q rest n ((d, .int .i64 (s.size : Int)) :: σ)) : QL P L w Q (⟨some d, .call ⟨.builtin .len, #[x], #[t]⟩, ty, pos, af, g⟩ :: rest) n σ := by
  refine QL.run hg hd (fun a ha _ _ => ?_) h
  simp [execOp, resolve, invoke, builtin, ha.ev hx, Builtin.len_, run_underlying hs.ok, goInt]
/-- s[i] -/
theorem WL.byteT {s : ByteArray} {i : Nat} {kd : IntKind} (hg : gd L σ ⟨some d, .index t x ix, ty, pos, af, g⟩ = some true) (hd : Nat.ble (d + 1) n = true)
    (hx : ev σ x = some (.string s)) (hi : ev σ ix = some (.int kd (i : Int))) [hs : IsStr P t] (h1 : i < s.size) (h : WL P L Q rest n ((d, .int .u8 ((s[i]).toNat : Int)) :: σ) w) : WL P L Q (⟨some d, .index t x ix, ty, pos, af, g⟩ :: rest) n σ w := by
  refine WL.run hg hd (fun a ha => ?_) h
  have e : s[i]? = some s[i] := by simp [h1]
  simp [execOp, ha.ev hx, ha.ev hi, Instr.index, asIntOf, run_underlying hs.ok, e]
end
end Go.Proofs.Ytadbkppgaekmpaa
/-
  Package scc: contracts of its simple functions.
-/
set_option linter.unusedVariables false
set_option linter.unusedSimpArgs false
namespace Go.Proofs.Ytadbkppgaekmpaa
open Go.RowKit

/-- 'n < 0 || n >= len(g)', g boxed -/
theorem odd1 (n : Int) (b : Nat) (w : World) {ao : Option Addr} {cap : Nat} {g : List (List Int)} {F : Nat → Prop} (hs : Sl w F ao cap g) (hb : Cells w b 0 [.slice ao g.length cap]) :
    Rt Try.prog 205 [.int .i64 n, .pointer (some ⟨b, 0, none⟩)].toArray w fun v w' => v = .bool (decide (n < 0 ∨ n ≥ g.length)) ∧ w = w' := by
  refine Rt.enter2 Try.func205 Try.ntmps205 rfl rfl ?_
  (repeat (first | (apply WL.pure; rfl; rfl; rfl) | (apply WL.nil) | (apply EX.thenN) | (apply CW.seq) | (apply CW.region)))
  refine WL.look (s := 6) rfl (fun h => ?_) (fun h => ?_)
  · (repeat (first | (apply WL.pure; rfl; rfl; rfl) | (apply WL.nil) | (apply EX.thenN) | (apply WL.pass; rfl; rfl) | (apply CW.ret)))
    refine EX.ret1 rfl rfl ?_
    simp at h
    simp [h]
  · (repeat (apply WL.pure; rfl; rfl; rfl))
    refine WL.load (α := List (List Int)) rfl rfl rfl hb ⟨ao, cap, rfl, hs⟩ ?_
    (repeat (first | (apply WL.pure; rfl; rfl; rfl) | (apply WL.nil) | (apply EX.thenN) | (apply WL.lenS; rfl; rfl; rfl) | (apply CW.ret)))
    refine EX.ret1 rfl rfl ?_
    simp at h
    simp [Int.not_lt.2 h]

theorem odd_ok (w0 : World) {ao lo : Option Addr} {cap lcap : Nat} {g : List (List Int)} {l : List Int} (hs : Sl w0 (Old w0) ao cap g) (hl : Sl w0 (Old w0) lo lcap l) :
    Rt Try.prog 189 [.slice ao g.length cap, .slice lo l.length lcap].toArray w0 fun v w' => v = .bool (oddB g.length l) ∧ Ext w0 w' := by
  refine Rt.enter2 Try.func189 Try.ntmps189 rfl rfl ?_
  (repeat (first | (apply CW.seq) | (apply CW.region)))
  refine WL.box rfl rfl rfl ?_
  (repeat (first | (apply WL.pure; rfl; rfl; rfl) | (apply WL.nil) | (apply EX.thenN) | (apply CW.seq) | (apply CW.region) | (apply WL.makeFunc; rfl; rfl; rfl; rfl)))
  have hE := Ext.alloc w0 (.cells (Value.cells (.slice ao g.length cap)) 23)
  have hc := Cells.alloc w0 (Value.cells (.slice ao g.length cap)) 23
  generalize w0.alloc (.cells (Value.cells (.slice ao g.length cap)) 23) = w1 at *
  have hlt : w0.heap.size < w1.heap.size := hc.lt (by simp [Value.cells])
  refine WL.call rfl rfl rfl (containsFunc_int w1 (fun x => decide (x < 0 ∨ x ≥ g.length)) (hl.up hE) (fun w hw i h => ?_)) ?_
  · refine FnV.mk (Rt.mono (odd1 _ _ w ((hs.at hE).mono (fun b hb => hw.block b (Nat.lt_of_lt_of_le hb hE.size)) fun _ h => h) (hc.mono (hw.block _ hlt))) ?_)
    rintro v w' ⟨rfl, rfl⟩
    exact ⟨rfl, Ext.refl _⟩
  · rintro v w' ⟨rfl, hB⟩
    (repeat (first | (apply WL.pure; rfl; rfl; rfl) | (apply WL.nil) | (apply EX.thenN) | (apply CW.ret)))
    exact EX.ret1 rfl rfl ⟨rfl, hE.trans hB⟩

theorem chk_ok (w0 : World) {ao : Option Addr} {cap : Nat} {g : List (List Int)} (hs : Sl w0 (Old w0) ao cap g) :
    Rt Try.prog 188 [.slice ao g.length cap].toArray w0 fun v w' => v = .int .i64 (chkG g) ∧ Ext w0 w' := by
  have hm := hs.len63
  refine Rt.enter1 Try.func188 Try.ntmps188 rfl rfl ?_
  (repeat (first | (apply WL.pure; rfl; rfl; rfl) | (apply WL.nil) | (apply EX.thenN) | (apply CW.seq) | (apply CW.region) | (apply WL.lenS; rfl; rfl; rfl)))
  refine CW.cond rfl (fun h => ?_) (fun h => ?_)
  · (repeat (first | (apply WL.pure; rfl; rfl; rfl) | (apply WL.nil) | (apply EX.thenN) | (apply CW.seq) | (apply CW.region) | (apply CW.ret) | (apply EX.thenR)))
    refine EX.ret1 rfl rfl ⟨?_, Ext.refl _⟩
    unfold chkG
    have : decide (g.length > 20000) = true := by simp at h ⊢; omega
    rw [this]
  · simp at h
    have hle : decide (g.length > 20000) = false := by simp; omega
    (repeat (first | (apply WL.pure; rfl; rfl; rfl) | (apply WL.nil) | (apply EX.thenN) | (apply CW.seq) | (apply CW.region) | (apply WL.lenS; rfl; rfl; rfl) | (apply CW.block) | (apply CW.skip)))
    refine CW.loop (S := Nat) (fun k => [(0, .slice ao g.length cap), (8, .slice ao g.length cap), (9, .int .i64 g.length), (10, .int .i64 k)])
      (fun k w => k ≤ g.length ∧ Ext w0 w ∧ ∀ j (h : j < g.length), j < k → oddB g.length g[j] = false) (fun k => g.length - k) 0 (by repeat (first | exact trivial | refine ⟨rfl, ?_⟩)) ⟨by omega, Ext.refl _, by omega⟩ ?_
    rintro k w ⟨hk, hB, hn⟩
    (repeat (first | (apply WL.pure; rfl; rfl; rfl) | (apply WL.nil) | (apply EX.thenN) | (apply CW.seq) | (apply CW.region)))
    refine CW.cond rfl (fun h1 => ?_) (fun h1 => ?_)
    · simp at h1
      (repeat (first | (apply EX.thenN) | (apply CW.seq) | (apply CW.region) | (apply CW.block) | (apply CW.skip)))
      refine WL.elemN rfl rfl rfl rfl rfl (hs.at hB) h1 (fun _ => rfl) (fun u q hu => ?_)
      obtain ⟨lo, lcap, rfl, hl⟩ := hu.sl
      (repeat (first | (apply WL.pure; rfl; rfl; rfl) | (apply WL.nil) | (apply EX.thenN) | (apply CW.seq) | (apply CW.region)))
      refine WL.call rfl rfl rfl (odd_ok w (hs.up hB) (hl.lift fun b hb => Nat.lt_of_lt_of_le hb hB.size)) ?_
      rintro v w' ⟨rfl, hB'⟩
      (repeat (first | (apply WL.nil) | (apply EX.thenN)))
      refine CW.cond rfl (fun h2 => ?_) (fun h2 => ?_)
      · (repeat (first | (apply WL.pure; rfl; rfl; rfl) | (apply WL.nil) | (apply EX.thenN) | (apply CW.seq) | (apply CW.region) | (apply CW.ret) | (apply EX.thenR) | (apply EX.inR)))
        refine EX.ret1 rfl rfl ⟨?_, hB.trans hB'⟩
        unfold chkG
        have : g.any (oddB g.length) = true := List.any_eq_true.2 ⟨_, List.getElem_mem h1, h2⟩
        rw [this, hle]
      · (repeat (first | (apply WL.add; rfl; rfl; rfl; rfl; omega; omega) | (apply WL.pure; rfl; rfl; rfl) | (apply WL.nil) | (apply EX.thenN) | (apply CW.region) | (apply EX.inN) | (apply CW.skip)))
        refine EX.back (k + 1) (by repeat (first | exact trivial | refine ⟨rfl, ?_⟩)) ⟨h1, hB.trans hB', ?_⟩ (by omega)
        intro j hj hlt
        by_cases e : j = k
        · subst e; exact h2
        · exact hn j hj (by omega)
    · simp at h1
      (repeat (first | (apply WL.pure; rfl; rfl; rfl) | (apply WL.nil) | (apply EX.thenN) | (apply CW.seq) | (apply CW.region) | (apply CW.exit) | (apply EX.thenX) | (apply EX.inX) | (apply CW.ret)))
      refine EX.ret1 rfl rfl ⟨?_, hB⟩
      unfold chkG
      have : g.any (oddB g.length) = false := by
        rw [List.any_eq_false]
        intro l hl
        obtain ⟨j, hj, rfl⟩ := List.mem_iff_getElem.1 hl
        simp [hn j hj (by omega)]
      rw [this, hle]

theorem clone_int (w0 : World) {ao : Option Addr} {cap : Nat} {xs : List Int} (hs : Sl w0 (Old w0) ao cap xs) (hb : xs.length * 8 ≤ 140737488355328) :
    Rt Try.prog 61 [.slice ao xs.length cap].toArray w0 fun v w' => Own w' w0.heap.size 3 Non v xs ∧ Ext w0 w' := by
  have hm := hs.len63
  refine Rt.enter1 Try.func61 Try.ntmps61 rfl rfl ?_
  (repeat (first | (apply WL.pure; rfl; rfl; rfl) | (apply WL.nil) | (apply EX.thenN) | (apply CW.seq) | (apply CW.region) | (apply WL.isNil; rfl; rfl; rfl)))
  refine CW.cond rfl (fun h => ?_) (fun h => ?_)
  · (repeat (first | (apply WL.pure; rfl; rfl; rfl) | (apply WL.nil) | (apply EX.thenN) | (apply CW.seq) | (apply CW.region) | (apply CW.ret) | (apply EX.thenR)))
    refine EX.ret1 rfl rfl ⟨?_, Ext.refl _⟩
    have h0 : ao = none := by simpa using h
    have : xs = [] := List.eq_nil_of_length_eq_zero (by have := hs.nil h0; have := hs.le; omega)
    subst this
    exact Own.nil
  · (repeat (first | (apply EX.thenN) | (apply CW.seq) | (apply CW.region) | (apply CW.skip)))
    refine WL.lit0 (α := Int) rfl rfl (fun w1 ho hg => ?_)
    (repeat (apply WL.pure; rfl; rfl; rfl))
    have hE : Ext w0 w1 := (Below.refl _ _).grown hg (Nat.le_refl _) (fun k h => by cases h)
    refine WL.app (F := Non) rfl rfl rfl rfl ho (hs.at hE).srcN hE.size (fun _ h => h.elim) (by simp [maxLen]; omega) (by simpa using hb) (fun v w2 ho2 hg2 _ => ?_)
    (repeat (first | (apply WL.pure; rfl; rfl; rfl) | (apply WL.nil) | (apply EX.thenN) | (apply CW.ret)))
    refine EX.ret1 rfl rfl ⟨by simpa using ho2, hE.grown hg2 hE.size ?_⟩
    intro k hk
    exact (ho.lt k hk).1

theorem take_last {todo : List Int} (h : 0 < todo.length) : todo = todo.take (todo.length - 1) ++ [todo[todo.length - 1]] := by
  have := List.take_succ_eq_append_getElem (l := todo) (i := todo.length - 1) (by omega)
  rw [← this, List.take_of_length_le (by omega)]

/-- reach: T bounds all that is ever to be looked at -/
theorem reach_ok (w0 : World) {ao fo : Option Addr} {cap fcap : Nat} {g : List (List Int)} {f : List Int} (hs : Sl w0 (Old w0) ao cap g) (hf : Sl w0 (Old w0) fo fcap f)
    (hg : okG g) (hof : okL g.length f) (hT : f.length + edges g + g.length ≤ 1099511627776) :
    Rt Try.prog 190 [.slice ao g.length cap, .slice fo f.length fcap].toArray w0 fun v w' => Own w' w0.heap.size 4 Non v (rchB g f) ∧ Ext w0 w' := by
  have hm := hs.len63
  have hm2 := hf.len63
  refine Rt.enter2 Try.func190 Try.ntmps190 rfl rfl ?_
  (repeat (first | (apply WL.pure; rfl; rfl; rfl) | (apply WL.nil) | (apply EX.thenN) | (apply CW.seq) | (apply CW.region) | (apply WL.lenS; rfl; rfl; rfl)))
  refine WL.make (α := Bool) rfl rfl rfl rfl (by omega) (by unfold maxLen; omega) (fun w1 ho1 hg1 => ?_)
  have hE1 : Ext w0 w1 := (Below.refl _ _).grown hg1 (Nat.le_refl _) (fun k h => by cases h)
  have hlt1 : w0.heap.size < w1.heap.size := (ho1.lt _ rfl).2.1
  (repeat (first | (apply WL.pure; rfl; rfl; rfl) | (apply WL.nil) | (apply EX.thenN) | (apply CW.seq) | (apply CW.region)))
  refine WL.call rfl rfl rfl (clone_int w1 (hf.up hE1) (by omega)) ?_
  rintro tv w2 ⟨ho2, hE2⟩
  (repeat (first | (apply WL.pure; rfl; rfl; rfl) | (apply WL.nil) | (apply EX.thenN) | (apply CW.seq) | (apply CW.block)))
  generalize hsv : Value.slice (some ⟨w0.heap.size, 0, none⟩) g.length g.length = sv at *
  have hsb : sv.ownBlock = some w0.heap.size := by rw [← hsv]; rfl
  refine CW.loop (S := Value × List Bool × List Int) (fun s => [(0, .slice ao g.length cap), (5, sv), (6, s.1)])
    (fun s w => RInv g f s.2.1 s.2.2 ∧ s.2.2.length + pot g s.2.1 ≤ f.length + edges g + g.length ∧ Own w w0.heap.size 4 Non sv s.2.1 ∧ Own w w0.heap.size 3 Non s.1 s.2.2 ∧ Ext w0 w ∧ (∀ k, s.1.ownBlock = some k → k ≠ w0.heap.size))
    (fun s => s.2.2.length + pot g s.2.1) (tv, List.replicate g.length false, f) (by repeat (first | exact trivial | refine ⟨rfl, ?_⟩))
    ⟨RInv.start hof, by show f.length + pot g (List.replicate g.length false) ≤ _; rw [pot_start]; omega, ho1.extN hE2, ho2.low (Nat.le_of_lt hlt1), hE1.trans hE2, fun k hk => by have := (ho2.lt k hk).1; omega⟩ ?_
  rintro ⟨tv, seen, todo⟩ w ⟨hR, hpot, hso, hto, hB, hne⟩
  simp only at hR hpot hso hto hne
  (repeat (first | (apply WL.pure; rfl; rfl; rfl) | (apply WL.nil) | (apply EX.thenN) | (apply CW.seq) | (apply CW.region) | (refine WL.lenO rfl rfl rfl (by assumption) ?_)))
  refine CW.cond rfl (fun h => ?_) (fun h => ?_)
  · simp at h
    have hlen : 0 < todo.length := by omega
    have hlast := take_last hlen
    (repeat (first | (apply WL.sub'; rfl; rfl; rfl; rfl; omega; omega) | (apply WL.pure; rfl; rfl; rfl) | (apply EX.thenN) | (apply CW.seq) | (apply CW.region) | (apply CW.block) | (apply CW.skip) | (refine WL.lenO rfl rfl rfl (by assumption) ?_)))
    refine WL.elemO rfl rfl rfl rfl rfl hto (by omega) (by omega) (fun _ => rfl) (fun u q hu => ?_)
    obtain rfl := hu.int
    have ei : ((todo.length : Int) - 1).toNat = todo.length - 1 := by omega
    simp only [ei]
    generalize hx : todo[todo.length - 1] = x at *
    generalize hrest : todo.take (todo.length - 1) = rest at *
    rw [hlast] at hR
    have hlr : todo.length = rest.length + 1 := by rw [hlast]; simp
    have hxo := hR.ok x (by simp)
    (repeat (first | (apply WL.sub'; rfl; rfl; rfl; rfl; omega; omega) | (apply WL.pure; rfl; rfl; rfl) | (apply WL.nil) | (apply EX.thenN) | (apply CW.seq) | (apply CW.region) | (refine WL.lenO rfl rfl rfl (by assumption) ?_)))
    refine WL.cutHiO (α := Int) (todo.length - 1) (by omega) rfl rfl rfl rfl hto (by omega) (fun tv' hto' hb' => ?_)
    rw [hrest] at hto'
    have hne' : ∀ k, tv'.ownBlock = some k → k ≠ w0.heap.size := fun k hk => hne k (by rw [← hb']; exact hk)
    (repeat (first | (apply WL.pure; rfl; rfl; rfl) | (apply WL.nil) | (apply EX.thenN) | (apply CW.seq) | (apply CW.region)))
    refine WL.elemO rfl rfl rfl rfl rfl hso (by omega) (by rw [hR.len]; omega) (fun _ => rfl) (fun u q2 hu => ?_)
    obtain rfl := hu.bool
    have hxl : x.toNat < seen.length := by rw [hR.len]; omega
    (repeat (first | (apply WL.pure; rfl; rfl; rfl) | (apply WL.nil) | (apply EX.thenN)))
    refine CW.cond rfl (fun h2 => ?_) (fun h2 => ?_)
    · have hs0 : seen[x.toNat] = false := by simpa using h2
      have hpm := pot_set g seen x.toNat (by omega) hR.len (by simp [List.getD_eq_getElem?_getD, hxl, hs0])
      (repeat (first | (apply WL.pure; rfl; rfl; rfl) | (apply CW.seq) | (apply CW.region)))
      refine WL.set rfl rfl rfl rfl hso (by omega) (by rw [hR.len]; omega) (fun _ => rfl) (fun _ => rfl) (Rd.mkBool _ _ true) (fun w3 q3 hso3 hg3 => ?_)
      have hB3 : Ext w0 w3 := hB.grown hg3 hB.size (fun k hk => by rw [hsb] at hk; cases hk; exact Nat.le_refl _)
      have hto3 : Own w3 w0.heap.size 3 Non tv' rest := hto'.keptN hg3 (fun k hk e => by rw [hsb] at e; cases e; exact hne' _ hk rfl)
      (repeat (first | (apply WL.pure; rfl; rfl; rfl) | (apply WL.nil) | (apply EX.thenN) | (apply CW.region)))
      have hxg : x.toNat < g.length := by omega
      refine WL.elem rfl rfl rfl rfl rfl (hs.at hB3) (by omega) (by omega) (fun _ => rfl) (fun u q4 hu => ?_)
      obtain ⟨ro, rcap, rfl, hrow⟩ := hu.sl
      have erow : g.getD x.toNat [] = g[x.toNat] := by simp [List.getD_eq_getElem?_getD, hxg]
      rw [erow] at hpm
      skip
      refine WL.app (F := Non) rfl rfl rfl rfl hto3 hrow.srcN hB3.size (fun _ h => h.elim) (by unfold maxLen; omega) (by omega) (fun tv4 w4 ho4 hg4 hn4 => ?_)
      (repeat (first | (apply WL.pure; rfl; rfl; rfl) | (apply WL.nil) | (apply EX.inN)))
      refine EX.back (tv4, seen.set x.toNat true, rest ++ g[x.toNat]) (by repeat (first | exact trivial | refine ⟨rfl, ?_⟩)) ⟨?_, ?_, ?_, ho4, ?_, ?_⟩ ?_
      · have := RInv.mark hg hR
        rwa [erow] at this
      · simp only [List.length_append]; omega
      · exact hso3.keptN hg4 (fun k hk e => by rw [hsb] at hk; cases hk; exact hne' _ e.symm rfl)
      · exact hB3.grown hg4 hB3.size (fun k hk => (hto3.lt k hk).1)
      · intro k hk
        rcases hn4 k hk with h | h
        · exact hne' k h
        · have := hB3.size; have := (hso3.lt _ hsb).2.1; omega
      · simp only [List.length_append]; omega
    · have hs1 : seen[x.toNat] = true := by simpa using h2
      (repeat (first | (apply EX.inN) | (apply CW.skip)))
      refine EX.back (tv', seen, rest) (by repeat (first | exact trivial | refine ⟨rfl, ?_⟩)) ⟨hR.pass (by simp [List.getD_eq_getElem?_getD, hxl, hs1]), by simp only; omega, hso, hto', hB, hne'⟩ (by simp only; omega)
  · have h0 : todo = [] := by simpa using h
    subst h0
    (repeat (first | (apply WL.pure; rfl; rfl; rfl) | (apply WL.nil) | (apply EX.thenN) | (apply CW.seq) | (apply CW.region) | (apply CW.exit) | (apply EX.thenX) | (apply EX.inX) | (apply CW.ret)))
    refine EX.ret1 rfl rfl ⟨?_, hB⟩
    rw [← hR.done]
    exact hso

noncomputable def reachF (g : Graph) (f : List Int) : List Bool × Int := match chkG g == 0, oddB g.length f with
  | true, false => (rchB g f, 0)
  | true, true => ([], 1)
  | false, _ => ([], chkG g)
theorem reachF_err {g : Graph} {f : List Int} (h : (reachF g f).2 ≠ 0) : (reachF g f).1 = [] := by
  cases h1 : (chkG g == 0) <;> cases h2 : oddB g.length f <;> simp only [reachF, h1, h2] at h ⊢
  exact absurd rfl h
theorem reachF_ok {g : Graph} {f : List Int} (h : (reachF g f).2 = 0) : (reachF g f).1 = rchB g f ∧ okG g ∧ okL g.length f ∧ g.length ≤ 20000 := by
  cases h1 : (chkG g == 0) <;> cases h2 : oddB g.length f <;> simp only [reachF, h1, h2] at h ⊢
  · rw [h] at h1; cases h1
  · rw [h] at h1; cases h1
  · exact ⟨trivial, (chkG_ok (by simpa using h1)).1, oddB_false.1 h2, (chkG_ok (by simpa using h1)).2⟩
  · cases h
theorem chkG_of {g : Graph} (h : okG g) (hl : g.length ≤ 20000) : chkG g = 0 := by
  unfold chkG
  have h1 : decide (g.length > 20000) = false := by simp; omega
  have h2 : g.any (oddB g.length) = false := by rw [List.any_eq_false]; intro l hl; simp [oddB_false.2 (h l hl)]
  rw [h1, h2]
theorem reachF_of {g : Graph} {f : List Int} (h : okG g) (hf : okL g.length f) (hl : g.length ≤ 20000) : reachF g f = (rchB g f, 0) := by
  unfold reachF
  have h1 : (chkG g == 0) = true := by rw [chkG_of h hl]; rfl
  rw [h1, oddB_false.2 hf]
theorem Reach_ok (w0 : World) {ao fo : Option Addr} {cap fcap : Nat} {g : List (List Int)} {f : List Int} (hs : Sl w0 (Old w0) ao cap g) (hf : Sl w0 (Old w0) fo fcap f) (hT : f.length + edges g + g.length ≤ 1099511627776) :
    Rt Try.prog 148 [.slice ao g.length cap, .slice fo f.length fcap].toArray w0 fun r w' => ∃ v, r = .tuple ⟨[v, .int .i64 (reachF g f).2]⟩ ∧ Own w' w0.heap.size 4 Non v (reachF g f).1 ∧ Ext w0 w' := by
  refine Rt.enter2 Try.func148 Try.ntmps148 rfl rfl ?_
  (repeat (first | (apply WL.pure; rfl; rfl; rfl) | (apply WL.nil) | (apply EX.thenN) | (apply CW.seq) | (apply CW.region)))
  refine WL.call rfl rfl rfl (chk_ok w0 hs) ?_
  rintro v w1 ⟨rfl, hE1⟩
  (repeat (first | (apply WL.pure; rfl; rfl; rfl) | (apply WL.nil) | (apply EX.thenN) | (apply CW.seq) | (apply CW.region)))
  refine CW.cond rfl (fun h => ?_) (fun h => ?_)
  · have hc : (chkG g == 0) = false := by simpa using h
    (repeat (first | (apply WL.pure; rfl; rfl; rfl) | (apply WL.nil) | (apply EX.thenN) | (apply CW.seq) | (apply CW.region) | (apply CW.ret) | (apply EX.thenR)))
    exact EX.ret2 rfl rfl rfl ⟨.slice none 0 0, by simp only [reachF, hc], by simp only [reachF, hc]; exact Own.nil, hE1⟩
  · have hc : (chkG g == 0) = true := by simpa using h
    obtain ⟨hg, _⟩ := chkG_ok (by simpa using hc)
    (repeat (first | (apply WL.pure; rfl; rfl; rfl) | (apply EX.thenN) | (apply CW.seq) | (apply CW.region) | (apply CW.skip)))
    refine WL.call rfl rfl rfl (odd_ok w1 (hs.up hE1) (hf.up hE1)) ?_
    rintro v w2 ⟨rfl, hE2⟩
    (repeat (first | (apply WL.nil) | (apply EX.thenN)))
    refine CW.cond rfl (fun h2 => ?_) (fun h2 => ?_)
    · (repeat (first | (apply WL.pure; rfl; rfl; rfl) | (apply WL.nil) | (apply EX.thenN) | (apply CW.seq) | (apply CW.region) | (apply CW.ret) | (apply EX.thenR)))
      exact EX.ret2 rfl rfl rfl ⟨.slice none 0 0, by simp only [reachF, hc, h2], by simp only [reachF, hc, h2]; exact Own.nil, hE1.trans hE2⟩
    · (repeat (first | (apply WL.pure; rfl; rfl; rfl) | (apply EX.thenN) | (apply CW.seq) | (apply CW.region) | (apply CW.skip)))
      have hE := hE1.trans hE2
      refine WL.call rfl rfl rfl (reach_ok w2 (hs.up hE) (hf.up hE) hg (oddB_false.1 h2) hT) ?_
      rintro v w3 ⟨ho3, hE3⟩
      (repeat (first | (apply WL.pure; rfl; rfl; rfl) | (apply WL.nil) | (apply EX.thenN) | (apply CW.ret)))
      exact EX.ret2 rfl rfl rfl ⟨v, by simp only [reachF, hc, h2], by simp only [reachF, hc, h2]; exact ho3.low hE.size, hE.trans hE3⟩
end Go.Proofs.Ytadbkppgaekmpaa
/-
  Package proc: Named, nodes, counts, ins, outs: walked.
-/
set_option linter.unusedVariables false
set_option linter.unusedSimpArgs false
namespace Go.Proofs.Ytadbkppgaekmpaa
open Go.RowKit

abbrev procV (so : Option Addr) (sc : Nat) (fo : Option Addr) (fc : Nat) (n m : Nat) : Value := .agg [.slice so n sc, .slice fo m fc].toArray
theorem Rd.proc {w : World} {F : Nat → Prop} {v : Value} {x : LProc} (h : Rd w F v x) : ∃ so sc fo fc, v = procV so sc fo fc x.1.length x.2.length ∧ Sl w F so sc x.1 ∧ Sl w F fo fc x.2 := by
  obtain ⟨c1, c2, rfl, h1, h2⟩ := h.pr
  obtain ⟨so, sc, rfl, k1⟩ := rd_sl h1
  obtain ⟨lo, lc, rfl, k2⟩ := rd_sl h2
  exact ⟨so, sc, lo, lc, rfl, k1, k2⟩
theorem Rd.flow {w : World} {F : Nat → Prop} {v : Value} {x : LFlow} (h : Rd w F v x) : v = .agg [.int .i64 x.1, .int .i64 x.2].toArray := by
  obtain ⟨c1, c2, rfl, h1, h2⟩ := h.pr
  rw [rd_int h1, rd_int h2]; rfl
theorem Rd.node {w : World} {F : Nat → Prop} {v : Value} {x : LNode} (h : Rd w F v x) : v = .agg [.string x.1, .int .i64 x.2].toArray := by
  obtain ⟨c1, c2, rfl, h1, h2⟩ := h.pr
  rw [rd_int h2, h1.1]; rfl
theorem getDF_at {l : List LFlow} {j : Nat} (h : j < l.length) : l.getD j (0, 0) = l[j] := by rw [List.getD_eq_getElem?_getD, List.getElem?_eq_getElem h]; rfl
theorem getDNd_at {l : List LNode} {j : Nat} (h : j < l.length) : l.getD j (⟨#[]⟩, 0) = l[j] := by rw [List.getD_eq_getElem?_getD, List.getElem?_eq_getElem h]; rfl
theorem size_len (s : ByteArray) : s.data.toList.length = s.size := by simp
theorem Named_ok (w0 : World) (s : ByteArray) : Rt Try.prog 185 [.string s].toArray w0 fun v w' => v = .bool (namedB s) ∧ Ext w0 w' := by
  refine Rt.enter1 Try.func185 Try.ntmps185 rfl rfl ?_
  unfold namedB namedL
  (repeat (first | (apply WL.pure; rfl; rfl; rfl) | (apply WL.nil) | (apply EX.thenN) | (apply CW.seq) | (apply CW.region)))
  by_cases h1 : (s.data.toList == []) = true
  · rw [show (s.data.toList == (ByteArray.mk #[]).data.toList) = true from h1]
    (repeat (first | (apply WL.pure; rfl; rfl; rfl) | (apply WL.nil) | (apply EX.thenN) | (apply CW.seq) | (apply CW.region) | (apply WL.pass; rfl; rfl) | (apply CW.condT; rfl) | (apply CW.ret) | (apply EX.thenR)))
    refine EX.ret1 rfl rfl ⟨?_, Ext.refl _⟩
    rfl
  have h1 : (s.data.toList == []) = false := by simpa using h1
  rw [show (s.data.toList == (ByteArray.mk #[]).data.toList) = false from h1]
  try rw [h1]
  (repeat (apply WL.pure; rfl; rfl; rfl))
  refine WL.lenT rfl rfl rfl ?_
  rw [← size_len]
  (repeat (apply WL.pure; rfl; rfl; rfl))
  by_cases h2 : decide ((s.data.toList.length : Int) > 8) = true
  · rw [h2]
    (repeat (first | (apply WL.pure; rfl; rfl; rfl) | (apply WL.nil) | (apply EX.thenN) | (apply CW.seq) | (apply CW.region) | (apply WL.pass; rfl; rfl) | (apply CW.condT; rfl) | (apply CW.ret) | (apply EX.thenR)))
    exact EX.ret1 rfl rfl ⟨rfl, Ext.refl _⟩
  have h2 : decide ((s.data.toList.length : Int) > 8) = false := by simpa using h2
  rw [h2]
  (repeat (apply WL.pure; rfl; rfl; rfl))
  by_cases h3 : (s.data.toList == [116, 114, 117, 101]) = true
  · rw [show (s.data.toList == (ByteArray.mk #[116, 114, 117, 101]).data.toList) = true from h3]
    try rw [h3]
    (repeat (first | (apply WL.pure; rfl; rfl; rfl) | (apply WL.nil) | (apply EX.thenN) | (apply CW.seq) | (apply CW.region) | (apply WL.pass; rfl; rfl) | (apply CW.condT; rfl) | (apply CW.ret) | (apply EX.thenR)))
    exact EX.ret1 rfl rfl ⟨rfl, Ext.refl _⟩
  have h3 : (s.data.toList == [116, 114, 117, 101]) = false := by simpa using h3
  rw [show (s.data.toList == (ByteArray.mk #[116, 114, 117, 101]).data.toList) = false from h3]
  try rw [h3]
  (repeat (apply WL.pure; rfl; rfl; rfl))
  by_cases h4 : (s.data.toList == [102, 97, 108, 115, 101]) = true
  · rw [show (s.data.toList == (ByteArray.mk #[102, 97, 108, 115, 101]).data.toList) = true from h4]
    try rw [h4]
    (repeat (first | (apply WL.pure; rfl; rfl; rfl) | (apply WL.nil) | (apply EX.thenN) | (apply CW.seq) | (apply CW.region) | (apply WL.pass; rfl; rfl) | (apply CW.condT; rfl) | (apply CW.ret) | (apply EX.thenR)))
    exact EX.ret1 rfl rfl ⟨rfl, Ext.refl _⟩
  have h4 : (s.data.toList == [102, 97, 108, 115, 101]) = false := by simpa using h4
  rw [show (s.data.toList == (ByteArray.mk #[102, 97, 108, 115, 101]).data.toList) = false from h4]
  try rw [h4]
  (repeat (first | (apply WL.pure; rfl; rfl; rfl) | (apply WL.nil) | (apply EX.thenN)))
  by_cases h5 : (s.data.toList == [115, 105, 108, 101, 110, 116]) = true
  · rw [show (s.data.toList == (ByteArray.mk #[115, 105, 108, 101, 110, 116]).data.toList) = true from h5]
    try rw [h5]
    (repeat (first | (apply WL.pure; rfl; rfl; rfl) | (apply WL.nil) | (apply EX.thenN) | (apply CW.seq) | (apply CW.region) | (apply CW.condT; rfl) | (apply CW.ret) | (apply EX.thenR)))
    exact EX.ret1 rfl rfl ⟨rfl, Ext.refl _⟩
  have h5 : (s.data.toList == [115, 105, 108, 101, 110, 116]) = false := by simpa using h5
  rw [show (s.data.toList == (ByteArray.mk #[115, 105, 108, 101, 110, 116]).data.toList) = false from h5]
  try rw [h5]
  simp only [Bool.not_false, Bool.true_and]
  have h8 : s.size ≤ 8 := by have := size_len s; simp at h2; omega
  (repeat (first | (apply WL.pure; rfl; rfl; rfl) | (apply EX.thenN) | (apply CW.seq) | (apply CW.region) | (apply CW.condF; rfl) | (apply CW.skip)))
  refine WL.lenT rfl rfl rfl ?_
  (repeat (first | (apply WL.pure; rfl; rfl; rfl) | (apply WL.nil) | (apply EX.thenN) | (apply CW.block)))
  refine CW.loop (S := Nat) (fun i => [(0, .string s), (24, .int .i64 s.size), (25, .int .i64 i)])
    (fun i w => i ≤ s.size ∧ w = w0 ∧ ∀ j (h : j < s.size), j < i → lowB s[j] = true) (fun i => s.size - i) 0 (by repeat (first | exact trivial | refine ⟨rfl, ?_⟩)) ⟨by omega, rfl, by omega⟩ ?_
  rintro i w ⟨hi, rfl, hn⟩
  have hget : ∀ j (h : j < s.size), s.data.toList[j]'(by rw [size_len]; exact h) = s[j] := fun j h => by simp; rfl
  (repeat (first | (apply WL.pure; rfl; rfl; rfl) | (apply WL.nil) | (apply EX.thenN) | (apply CW.seq) | (apply CW.region)))
  refine CW.cond rfl (fun h => ?_) (fun h => ?_)
  · have hi' : i < s.size := by simp at h; omega
    have hbad : lowB s[i] = false → s.data.toList.all lowB = false := fun hb => by
      rw [List.all_eq_false]
      exact ⟨_, List.getElem_mem (by rw [size_len]; exact hi'), by rw [hget i hi', hb]; simp⟩
    (repeat (first | (apply WL.pure; rfl; rfl; rfl) | (apply WL.nil) | (apply EX.thenN) | (apply CW.seq) | (apply CW.region) | (apply CW.block) | (apply CW.skip)))
    refine WL.byteT rfl rfl rfl rfl hi' ?_
    (repeat (apply WL.pure; rfl; rfl; rfl))
    by_cases hb1 : decide (((s[i].toNat : Nat) : Int) < 97) = true
    · rw [hb1]
      (repeat (first | (apply WL.pure; rfl; rfl; rfl) | (apply WL.nil) | (apply EX.thenN) | (apply CW.seq) | (apply CW.region) | (apply WL.pass; rfl; rfl) | (apply CW.condT; rfl) | (apply CW.ret) | (apply EX.thenR) | (apply EX.inR)))
      refine EX.ret1 rfl rfl ⟨?_, Ext.refl _⟩
      rw [hbad (by unfold lowB; rw [hb1]; rfl)]
    have hb1 : decide (((s[i].toNat : Nat) : Int) < 97) = false := by simpa using hb1
    rw [hb1]
    (repeat (apply WL.pure; rfl; rfl; rfl))
    refine WL.byteT rfl rfl rfl rfl hi' ?_
    (repeat (first | (apply WL.pure; rfl; rfl; rfl) | (apply WL.nil) | (apply EX.thenN)))
    refine CW.cond rfl (fun hb2 => ?_) (fun hb2 => ?_)
    · (repeat (first | (apply WL.pure; rfl; rfl; rfl) | (apply WL.nil) | (apply EX.thenN) | (apply CW.seq) | (apply CW.region) | (apply CW.ret) | (apply EX.thenR) | (apply EX.inR)))
      refine EX.ret1 rfl rfl ⟨?_, Ext.refl _⟩
      rw [hbad (by unfold lowB; rw [hb1, hb2]; rfl)]
    · (repeat (first | (apply WL.add; rfl; rfl; rfl; rfl; omega; omega) | (apply WL.pure; rfl; rfl; rfl) | (apply WL.nil) | (apply EX.thenN) | (apply CW.region) | (apply EX.inN) | (apply CW.skip)))
      refine EX.back (i + 1) (by repeat (first | exact trivial | refine ⟨rfl, ?_⟩)) ⟨hi', rfl, fun j hj hlt => ?_⟩ (by omega)
      by_cases e : j = i
      · subst e; unfold lowB; rw [hb1, hb2]; rfl
      · exact hn j hj (by omega)
  · have hi' : i = s.size := by simp at h; omega
    subst hi'
    (repeat (first | (apply WL.pure; rfl; rfl; rfl) | (apply WL.nil) | (apply EX.thenN) | (apply CW.seq) | (apply CW.region) | (apply CW.exit) | (apply EX.thenX) | (apply EX.inX) | (apply CW.ret)))
    refine EX.ret1 rfl rfl ⟨?_, Ext.refl _⟩
    rw [List.all_eq_true.2]
    intro x hx
    obtain ⟨j, hj, rfl⟩ := List.mem_iff_getElem.1 hx
    rw [size_len] at hj
    rw [hget j hj]
    exact hn j hj hj
theorem counts_ok (w0 : World) (k : Int) (i o : Nat) : Rt Try.prog 146 [.int .i64 k, .int .i64 (i : Int), .int .i64 (o : Int)].toArray w0 fun v w' => v = .bool (countsB k i o) ∧ w0 = w' := by
  refine Rt.enter3 Try.func146 Try.ntmps146 rfl rfl ?_
  have e0 : ∀ (a : Nat) (b : Nat), (((a : Int)) == (b : Int)) = decide (a = b) := fun a b => by rw [Bool.eq_iff_iff]; simp; omega
  have e1 : ∀ (a : Nat), decide ((a : Int) > 0) = decide (0 < a) := fun a => by rw [Bool.eq_iff_iff]; simp
  unfold countsB
  (repeat (first | (apply WL.pure; rfl; rfl; rfl) | (apply WL.nil) | (apply EX.thenN) | (apply CW.seq) | (apply CW.region) | (apply CW.block)))
  by_cases h1 : k = 1
  · subst h1
    (repeat (first | (apply WL.pure; rfl; rfl; rfl) | (apply EX.thenN) | (apply CW.seq) | (apply CW.region) | (apply CW.condT; rfl) | (apply CW.exit) | (apply EX.thenX) | (apply EX.inX)))
    by_cases hi : i = 0
    · subst hi
      (repeat (first | (apply WL.pure; rfl; rfl; rfl) | (apply WL.nil) | (apply EX.thenN) | (apply CW.ret) | (apply EX.thenR) | (apply EX.inR)))
      refine EX.ret1 rfl rfl ⟨?_, rfl⟩
      rw [show ((o : Int) == 1) = decide (o = 1) from e0 o 1]; simp
    · have : ((i : Int) == 0) = false := by simpa using hi
      rw [this]
      (repeat (first | (apply WL.pure; rfl; rfl; rfl) | (apply WL.nil) | (apply EX.thenN) | (apply WL.pass; rfl; rfl) | (apply CW.ret) | (apply EX.thenR) | (apply EX.inR)))
      refine EX.ret1 rfl rfl ⟨?_, rfl⟩
      simp [hi]
  have b1 : (k == 1) = false := by simpa using h1
  rw [if_neg h1, b1]
  (repeat (first | (apply WL.pure; rfl; rfl; rfl) | (apply WL.nil) | (apply EX.thenN) | (apply CW.seq) | (apply CW.region) | (apply CW.condF; rfl) | (apply CW.skip)))
  by_cases h2 : k = 2
  · subst h2
    (repeat (first | (apply WL.pure; rfl; rfl; rfl) | (apply EX.thenN) | (apply CW.seq) | (apply CW.region) | (apply CW.condT; rfl) | (apply CW.exit) | (apply EX.thenX) | (apply EX.inX) | (apply EX.inXne; rfl) | (apply CW.skip)))
    by_cases hi : 0 < i
    · rw [e1 i, decide_eq_true hi]
      (repeat (first | (apply WL.pure; rfl; rfl; rfl) | (apply WL.nil) | (apply EX.thenN) | (apply CW.ret) | (apply EX.thenR) | (apply EX.inR)))
      refine EX.ret1 rfl rfl ⟨?_, rfl⟩
      rw [show ((o : Int) == 0) = decide (o = 0) from e0 o 0]; simp
    · rw [e1 i, decide_eq_false hi]
      (repeat (first | (apply WL.pure; rfl; rfl; rfl) | (apply WL.nil) | (apply EX.thenN) | (apply WL.pass; rfl; rfl) | (apply CW.ret) | (apply EX.thenR) | (apply EX.inR)))
      refine EX.ret1 rfl rfl ⟨?_, rfl⟩
      simp
  have b2 : (k == 2) = false := by simpa using h2
  rw [b2]
  (repeat (first | (apply WL.pure; rfl; rfl; rfl) | (apply WL.nil) | (apply EX.thenN) | (apply CW.region) | (apply CW.condF; rfl)))
  by_cases h3 : k = 3
  · subst h3
    (repeat (first | (apply WL.pure; rfl; rfl; rfl) | (apply EX.thenN) | (apply CW.seq) | (apply CW.region) | (apply CW.condT; rfl) | (apply CW.exit) | (apply EX.thenX) | (apply EX.inX) | (apply EX.inXne; rfl)))
    by_cases hi : 0 < i
    · rw [e1 i, decide_eq_true hi]
      (repeat (first | (apply WL.pure; rfl; rfl; rfl) | (apply WL.nil) | (apply EX.thenN) | (apply CW.ret) | (apply EX.thenR) | (apply EX.inR)))
      refine EX.ret1 rfl rfl ⟨?_, rfl⟩
      rw [show ((o : Int) == 0) = decide (o = 0) from e0 o 0]; simp
    · rw [e1 i, decide_eq_false hi]
      (repeat (first | (apply WL.pure; rfl; rfl; rfl) | (apply WL.nil) | (apply EX.thenN) | (apply WL.pass; rfl; rfl) | (apply CW.ret) | (apply EX.thenR) | (apply EX.inR)))
      refine EX.ret1 rfl rfl ⟨?_, rfl⟩
      simp
  have b3 : (k == 3) = false := by simpa using h3
  rw [if_neg (by omega), b3]
  (repeat (first | (apply WL.pure; rfl; rfl; rfl) | (apply WL.nil) | (apply EX.thenN) | (apply CW.seq) | (apply CW.region) | (apply CW.condF; rfl) | (apply CW.skip)))
  by_cases h4 : k = 4
  · subst h4
    (repeat (first | (apply WL.pure; rfl; rfl; rfl) | (apply EX.thenN) | (apply CW.seq) | (apply CW.region) | (apply CW.condT; rfl) | (apply CW.exit) | (apply EX.thenX) | (apply EX.inX) | (apply EX.inXne; rfl)))
    by_cases hi : 0 < i
    · rw [e1 i, decide_eq_true hi]
      (repeat (first | (apply WL.pure; rfl; rfl; rfl) | (apply WL.nil) | (apply EX.thenN) | (apply CW.ret) | (apply EX.thenR) | (apply EX.inR)))
      refine EX.ret1 rfl rfl ⟨?_, rfl⟩
      rw [show ((o : Int) == 1) = decide (o = 1) from e0 o 1]; simp
    · rw [e1 i, decide_eq_false hi]
      (repeat (first | (apply WL.pure; rfl; rfl; rfl) | (apply WL.nil) | (apply EX.thenN) | (apply WL.pass; rfl; rfl) | (apply CW.ret) | (apply EX.thenR) | (apply EX.inR)))
      refine EX.ret1 rfl rfl ⟨?_, rfl⟩
      simp
  have b4 : (k == 4) = false := by simpa using h4
  rw [if_neg h4, b4]
  (repeat (first | (apply WL.pure; rfl; rfl; rfl) | (apply WL.nil) | (apply EX.thenN) | (apply CW.seq) | (apply CW.region) | (apply CW.condF; rfl) | (apply CW.skip)))
  by_cases h7 : k = 7
  · subst h7
    (repeat (first | (apply WL.pure; rfl; rfl; rfl) | (apply WL.nil) | (apply EX.thenN) | (apply CW.seq) | (apply CW.region) | (apply CW.condT; rfl) | (apply CW.exit) | (apply EX.thenX) | (apply EX.inX) | (apply EX.inXne; rfl)))
    refine CW.cond rfl (fun ho => ?_) (fun ho => ?_)
    · (repeat (first | (apply WL.pure; rfl; rfl; rfl) | (apply WL.nil) | (apply EX.thenN) | (apply CW.seq) | (apply CW.region) | (apply CW.ret) | (apply EX.thenR) | (apply EX.inR)))
      refine EX.ret1 rfl rfl ⟨?_, rfl⟩
      simp at ho
      simp; omega
    simp at ho
    (repeat (first | (apply WL.pure; rfl; rfl; rfl) | (apply EX.thenN) | (apply CW.seq) | (apply CW.region) | (apply EX.inN) | (apply CW.skip)))
    by_cases hi : 0 < i
    · rw [e1 i, decide_eq_true hi]
      (repeat (first | (apply WL.pure; rfl; rfl; rfl) | (apply WL.nil) | (apply EX.thenN) | (apply CW.ret) | (apply EX.thenR) | (apply EX.inR)))
      refine EX.ret1 rfl rfl ⟨?_, rfl⟩
      rw [e1 o]; simp; omega
    · rw [e1 i, decide_eq_false hi]
      (repeat (first | (apply WL.pure; rfl; rfl; rfl) | (apply WL.nil) | (apply EX.thenN) | (apply WL.pass; rfl; rfl) | (apply CW.ret) | (apply EX.thenR) | (apply EX.inR)))
      refine EX.ret1 rfl rfl ⟨?_, rfl⟩
      simp
  have b7 : (k == 7) = false := by simpa using h7
  rw [if_neg h7, b7]
  (repeat (first | (apply WL.pure; rfl; rfl; rfl) | (apply WL.nil) | (apply EX.thenN) | (apply CW.seq) | (apply CW.region) | (apply CW.condF; rfl) | (apply CW.skip)))
  by_cases h5 : k = 5
  · subst h5
    (repeat (first | (apply WL.pure; rfl; rfl; rfl) | (apply EX.thenN) | (apply CW.seq) | (apply CW.region) | (apply CW.condT; rfl) | (apply CW.exit) | (apply EX.thenX) | (apply EX.inX) | (apply EX.inXne; rfl) | (apply CW.skip)))
    by_cases hi : 0 < i
    · rw [e1 i, decide_eq_true hi]
      (repeat (first | (apply WL.pure; rfl; rfl; rfl) | (apply WL.nil) | (apply EX.thenN) | (apply CW.ret) | (apply EX.thenR) | (apply EX.inR)))
      refine EX.ret1 rfl rfl ⟨?_, rfl⟩
      rw [e1 o]; simp
    · rw [e1 i, decide_eq_false hi]
      (repeat (first | (apply WL.pure; rfl; rfl; rfl) | (apply WL.nil) | (apply EX.thenN) | (apply WL.pass; rfl; rfl) | (apply CW.ret) | (apply EX.thenR) | (apply EX.inR)))
      refine EX.ret1 rfl rfl ⟨?_, rfl⟩
      simp
  have b5 : (k == 5) = false := by simpa using h5
  rw [b5]
  (repeat (first | (apply WL.pure; rfl; rfl; rfl) | (apply WL.nil) | (apply EX.thenN) | (apply CW.region) | (apply CW.condF; rfl)))
  by_cases h6 : k = 6
  · subst h6
    (repeat (first | (apply WL.pure; rfl; rfl; rfl) | (apply EX.thenN) | (apply CW.seq) | (apply CW.region) | (apply CW.condT; rfl) | (apply CW.exit) | (apply EX.thenX) | (apply EX.inX) | (apply EX.inXne; rfl)))
    by_cases hi : 0 < i
    · rw [e1 i, decide_eq_true hi]
      (repeat (first | (apply WL.pure; rfl; rfl; rfl) | (apply WL.nil) | (apply EX.thenN) | (apply CW.ret) | (apply EX.thenR) | (apply EX.inR)))
      refine EX.ret1 rfl rfl ⟨?_, rfl⟩
      rw [e1 o]; simp
    · rw [e1 i, decide_eq_false hi]
      (repeat (first | (apply WL.pure; rfl; rfl; rfl) | (apply WL.nil) | (apply EX.thenN) | (apply WL.pass; rfl; rfl) | (apply CW.ret) | (apply EX.thenR) | (apply EX.inR)))
      refine EX.ret1 rfl rfl ⟨?_, rfl⟩
      simp
  have b6 : (k == 6) = false := by simpa using h6
  rw [if_neg (by omega), b6]
  (repeat (first | (apply WL.pure; rfl; rfl; rfl) | (apply WL.nil) | (apply EX.thenN) | (apply CW.seq) | (apply CW.region) | (apply CW.condF; rfl) | (apply CW.exit) | (apply EX.thenX) | (apply EX.inX) | (apply EX.inXne; rfl) | (apply CW.ret) | (apply CW.skip)))
  exact EX.ret1 rfl rfl ⟨rfl, rfl⟩
theorem ins_ok (w0 : World) {so fo : Option Addr} {sc fc k : Nat} {fl : List LFlow} (hf : Sl w0 (Old w0) fo fc fl) (n : Int) (hl : fl.length ≤ 1000) :
    Rt Try.prog 147 [procV so sc fo fc k fl.length, .int .i64 n].toArray w0 fun v w' => Own w' w0.heap.size 3 Non v (insL fl n) ∧ Ext w0 w' := by
  refine Rt.enter2 Try.func147 Try.ntmps147 rfl rfl ?_
  (repeat (first | (apply CW.seq) | (apply CW.region)))
  refine WL.boxB rfl rfl rfl fun w1 hb2 e1 => ?_
  (repeat (first | (apply WL.pure; rfl; rfl; rfl) | (apply WL.nil) | (apply EX.thenN) | (apply CW.seq) | (apply CW.region) | (apply WL.lenS; rfl; rfl; rfl) | (apply WL.fa; rfl; rfl; rfl) | (apply WL.ld; rfl; rfl; rfl; assumption; rfl) | (apply CW.block)))
  refine CW.loop (S := Nat × Value) (fun s => [(1, .int .i64 n), (2, .pointer (some ⟨w0.heap.size, 0, none⟩)), (5, s.2), (9, .slice fo fl.length fc), (10, .int .i64 fl.length), (11, .int .i64 s.1)])
    (fun s w => s.1 ≤ fl.length ∧ Own w w1.heap.size 3 Non s.2 (insP fl n s.1) ∧ Ext w1 w) (fun s => fl.length - s.1) (0, .slice none 0 0) (by repeat (first | exact trivial | refine ⟨rfl, ?_⟩)) ⟨Nat.zero_le _, Own.nil, Ext.refl _⟩ ?_
  rintro ⟨i, ov⟩ w2 ⟨hi, ho, e2⟩
  dsimp only at hi ho ⊢
  have hE := e1.trans e2
  have hpl := insP_len (fl := fl) (n := n) (k := i)
  have hnext := insP_next (fl := fl) (n := n) (k := i)
  (repeat (first | (apply WL.pure; rfl; rfl; rfl) | (apply WL.nil) | (apply EX.thenN) | (apply CW.seq) | (apply CW.region)))
  refine CW.cond rfl (fun h => ?_) (fun h => ?_)
  · have hi' : i < fl.length := by simp at h; omega
    rw [getDF_at hi'] at hnext
    (repeat (first | (apply WL.pure; rfl; rfl; rfl) | (apply EX.thenN) | (apply CW.seq) | (apply CW.region) | (apply CW.block) | (apply CW.skip)))
    refine WL.elemN rfl rfl rfl rfl rfl (hf.at hE) hi' (fun _ => rfl) (fun u q hu => ?_)
    obtain rfl := hu.flow
    skip
    refine WL.alloc rfl rfl (fun w3 hb7 e3 => ?_)
    (repeat (apply WL.pure; rfl; rfl; rfl))
    refine WL.st rfl rfl rfl hb7 rfl rfl (ones_of rfl) (fun w4 hb7 hg4 => ?_)
    have e4 : Ext w2 w4 := e3.grown hg4 e3.size (fun g hg => by cases hg; exact Nat.le_refl _)
    have ho := ho.extN e4
    have e4 := e2.trans e4
    (repeat (first | (apply WL.pure; rfl; rfl; rfl) | (apply WL.nil) | (apply EX.thenN) | (apply CW.seq) | (apply CW.region) | (apply WL.fa; rfl; rfl; rfl) | (apply WL.ld; rfl; rfl; rfl; assumption; rfl)))
    refine CW.cond rfl (fun h2 => ?_) (fun h2 => ?_)
    · rw [if_pos h2] at hnext
      (repeat (first | (apply WL.pure; rfl; rfl; rfl) | (apply CW.region)))
      refine WL.app1 (F := Non) (yv := (i : Int)) rfl rfl (fun _ => rfl) rfl rfl (fun _ => rfl) ho (Rd.mkInt _ _ _) e4.size (fun _ h => h.elim) (by decide) (by unfold maxLen; omega) (by omega) (fun v' w5 p ho5 hg5 hnb => ?_)
      rw [← hnext] at ho5
      have e5 : Ext w1 w5 := e4.grown hg5 e4.size (fun b hb => (ho.lt b hb).1)
      (repeat (first | (apply WL.add; rfl; rfl; rfl; rfl; omega; omega) | (apply WL.pure; rfl; rfl; rfl) | (apply WL.nil) | (apply EX.thenN) | (apply CW.region) | (apply EX.inN)))
      exact EX.back (i + 1, v') (by repeat (first | exact trivial | refine ⟨rfl, ?_⟩)) ⟨hi', ho5, e5⟩ (by dsimp only; omega)
    · rw [if_neg (by rw [h2]; simp), List.append_nil] at hnext
      (repeat (first | (apply WL.add; rfl; rfl; rfl; rfl; omega; omega) | (apply WL.pure; rfl; rfl; rfl) | (apply WL.nil) | (apply EX.thenN) | (apply CW.region) | (apply EX.inN) | (apply CW.skip)))
      exact EX.back (i + 1, ov) (by repeat (first | exact trivial | refine ⟨rfl, ?_⟩)) ⟨hi', by dsimp only; rw [hnext]; exact ho, e4⟩ (by dsimp only; omega)
  · obtain rfl : i = fl.length := by simp at h; omega
    (repeat (first | (apply WL.pure; rfl; rfl; rfl) | (apply WL.nil) | (apply EX.thenN) | (apply CW.seq) | (apply CW.region) | (apply CW.exit) | (apply EX.thenX) | (apply EX.inX) | (apply CW.ret)))
    exact EX.ret1 rfl rfl ⟨ho.low e1.size, hE⟩
theorem outs_ok (w0 : World) {so fo : Option Addr} {sc fc k : Nat} {fl : List LFlow} (hf : Sl w0 (Old w0) fo fc fl) (n : Int) (hl : fl.length ≤ 1000) :
    Rt Try.prog 85 [procV so sc fo fc k fl.length, .int .i64 n].toArray w0 fun v w' => Own w' w0.heap.size 3 Non v (outsL fl n) ∧ Ext w0 w' := by
  refine Rt.enter2 Try.func85 Try.ntmps85 rfl rfl ?_
  (repeat (first | (apply CW.seq) | (apply CW.region)))
  refine WL.boxB rfl rfl rfl fun w1 hb2 e1 => ?_
  (repeat (first | (apply WL.pure; rfl; rfl; rfl) | (apply WL.nil) | (apply EX.thenN) | (apply CW.seq) | (apply CW.region) | (apply WL.lenS; rfl; rfl; rfl) | (apply WL.fa; rfl; rfl; rfl) | (apply WL.ld; rfl; rfl; rfl; assumption; rfl) | (apply CW.block)))
  refine CW.loop (S := Nat × Value) (fun s => [(1, .int .i64 n), (2, .pointer (some ⟨w0.heap.size, 0, none⟩)), (5, s.2), (9, .slice fo fl.length fc), (10, .int .i64 fl.length), (11, .int .i64 s.1)])
    (fun s w => s.1 ≤ fl.length ∧ Own w w1.heap.size 3 Non s.2 (outsP fl n s.1) ∧ Ext w1 w) (fun s => fl.length - s.1) (0, .slice none 0 0) (by repeat (first | exact trivial | refine ⟨rfl, ?_⟩)) ⟨Nat.zero_le _, Own.nil, Ext.refl _⟩ ?_
  rintro ⟨i, ov⟩ w2 ⟨hi, ho, e2⟩
  dsimp only at hi ho ⊢
  have hE := e1.trans e2
  have hpl := outsP_len (fl := fl) (n := n) (k := i)
  have hnext := outsP_next (fl := fl) (n := n) (k := i)
  (repeat (first | (apply WL.pure; rfl; rfl; rfl) | (apply WL.nil) | (apply EX.thenN) | (apply CW.seq) | (apply CW.region)))
  refine CW.cond rfl (fun h => ?_) (fun h => ?_)
  · have hi' : i < fl.length := by simp at h; omega
    rw [getDF_at hi'] at hnext
    (repeat (first | (apply WL.pure; rfl; rfl; rfl) | (apply EX.thenN) | (apply CW.seq) | (apply CW.region) | (apply CW.block) | (apply CW.skip)))
    refine WL.elemN rfl rfl rfl rfl rfl (hf.at hE) hi' (fun _ => rfl) (fun u q hu => ?_)
    obtain rfl := hu.flow
    skip
    refine WL.alloc rfl rfl (fun w3 hb7 e3 => ?_)
    (repeat (apply WL.pure; rfl; rfl; rfl))
    refine WL.st rfl rfl rfl hb7 rfl rfl (ones_of rfl) (fun w4 hb7 hg4 => ?_)
    have e4 : Ext w2 w4 := e3.grown hg4 e3.size (fun g hg => by cases hg; exact Nat.le_refl _)
    have ho := ho.extN e4
    have e4 := e2.trans e4
    (repeat (first | (apply WL.pure; rfl; rfl; rfl) | (apply WL.nil) | (apply EX.thenN) | (apply CW.seq) | (apply CW.region) | (apply WL.fa; rfl; rfl; rfl) | (apply WL.ld; rfl; rfl; rfl; assumption; rfl)))
    refine CW.cond rfl (fun h2 => ?_) (fun h2 => ?_)
    · rw [if_pos h2] at hnext
      (repeat (first | (apply WL.pure; rfl; rfl; rfl) | (apply CW.region)))
      refine WL.app1 (F := Non) (yv := (i : Int)) rfl rfl (fun _ => rfl) rfl rfl (fun _ => rfl) ho (Rd.mkInt _ _ _) e4.size (fun _ h => h.elim) (by decide) (by unfold maxLen; omega) (by omega) (fun v' w5 p ho5 hg5 hnb => ?_)
      rw [← hnext] at ho5
      have e5 : Ext w1 w5 := e4.grown hg5 e4.size (fun b hb => (ho.lt b hb).1)
      (repeat (first | (apply WL.add; rfl; rfl; rfl; rfl; omega; omega) | (apply WL.pure; rfl; rfl; rfl) | (apply WL.nil) | (apply EX.thenN) | (apply CW.region) | (apply EX.inN)))
      exact EX.back (i + 1, v') (by repeat (first | exact trivial | refine ⟨rfl, ?_⟩)) ⟨hi', ho5, e5⟩ (by dsimp only; omega)
    · rw [if_neg (by rw [h2]; simp), List.append_nil] at hnext
      (repeat (first | (apply WL.add; rfl; rfl; rfl; rfl; omega; omega) | (apply WL.pure; rfl; rfl; rfl) | (apply WL.nil) | (apply EX.thenN) | (apply CW.region) | (apply EX.inN) | (apply CW.skip)))
      exact EX.back (i + 1, ov) (by repeat (first | exact trivial | refine ⟨rfl, ?_⟩)) ⟨hi', by dsimp only; rw [hnext]; exact ho, e4⟩ (by dsimp only; omega)
  · obtain rfl : i = fl.length := by simp at h; omega
    (repeat (first | (apply WL.pure; rfl; rfl; rfl) | (apply WL.nil) | (apply EX.thenN) | (apply CW.seq) | (apply CW.region) | (apply CW.exit) | (apply EX.thenX) | (apply EX.inX) | (apply CW.ret)))
    exact EX.ret1 rfl rfl ⟨ho.low e1.size, hE⟩
end Go.Proofs.Ytadbkppgaekmpaa
/-
  slices.Index and slices.Contains at []bool.
-/
set_option linter.unusedVariables false
namespace Go.Proofs.Ytadbkppgaekmpaa
open Go.RowKit
theorem index_bool (w0 : World) {ao : Option Addr} {cap : Nat} {xs : List Bool} (x : Bool) (hs : Sl w0 (Old w0) ao cap xs) :
    Rt Try.prog 128 [.slice ao xs.length cap, .bool x].toArray w0 fun v w' => v = .int .i64 (idxOf (fun y => x == y) xs) ∧ Ext w0 w' := by
  have hm := hs.len63
  refine Rt.enter2 Try.func128 Try.ntmps128 rfl rfl ?_
  (repeat (first | (apply WL.pure; rfl; rfl; rfl) | (apply WL.nil) | (apply EX.thenN) | (apply CW.seq) | (apply CW.region) | (apply WL.lenS; rfl; rfl; rfl) | (apply CW.block)))
  refine CW.loop (S := Nat) (fun k => [(0, .slice ao xs.length cap), (1, .bool x), (7, .int .i64 xs.length), (8, .int .i64 k)])
    (fun k w => k ≤ xs.length ∧ Ext w0 w ∧ ∀ j (h : j < xs.length), j < k → (x == xs[j]) = false) (fun k => xs.length - k) 0 (by repeat (first | exact trivial | refine ⟨rfl, ?_⟩)) ⟨by omega, Ext.refl _, by omega⟩ ?_
  rintro k w ⟨hk, hB, hn⟩
  (repeat (first | (apply WL.pure; rfl; rfl; rfl) | (apply WL.nil) | (apply EX.thenN) | (apply CW.seq) | (apply CW.region)))
  refine CW.cond rfl (fun h => ?_) (fun h => ?_)
  · simp at h
    (repeat (first | (apply WL.pure; rfl; rfl; rfl) | (apply WL.nil) | (apply EX.thenN) | (apply CW.seq) | (apply CW.region) | (apply CW.block) | (apply CW.skip)))
    refine WL.elemB rfl rfl rfl rfl rfl (hs.at hB) h rfl (fun _ => rfl) (fun q => ?_)
    (repeat (first | (apply WL.nil) | (apply EX.thenN) | (apply WL.eqB; rfl; rfl; rfl; rfl)))
    refine CW.cond rfl (fun h' => ?_) (fun h' => ?_)
    · (repeat (first | (apply WL.pure; rfl; rfl; rfl) | (apply WL.nil) | (apply EX.thenN) | (apply CW.seq) | (apply CW.region) | (apply CW.ret) | (apply EX.thenR) | (apply EX.inR)))
      refine EX.ret1 rfl rfl ⟨?_, hB⟩
      rw [idxOf_here h hn h']
    · (repeat (first | (apply WL.add; rfl; rfl; rfl; rfl; omega; omega) | (apply WL.pure; rfl; rfl; rfl) | (apply WL.nil) | (apply EX.thenN) | (apply CW.region) | (apply EX.inN) | (apply CW.skip)))
      refine EX.back (k + 1) (by repeat (first | exact trivial | refine ⟨rfl, ?_⟩)) ⟨h, hB, ?_⟩ (by omega)
      intro j hj hlt
      by_cases e : j = k
      · subst e; exact h'
      · exact hn j hj (by omega)
  · simp at h
    (repeat (first | (apply WL.pure; rfl; rfl; rfl) | (apply WL.nil) | (apply EX.thenN) | (apply CW.seq) | (apply CW.region) | (apply CW.exit) | (apply EX.thenX) | (apply EX.inX) | (apply CW.ret)))
    refine EX.ret1 rfl rfl ⟨?_, hB⟩
    rw [idxOf_none (fun j hj => hn j hj (by omega))]
theorem contains_bool (w0 : World) {ao : Option Addr} {cap : Nat} {xs : List Bool} (x : Bool) (hs : Sl w0 (Old w0) ao cap xs) :
    Rt Try.prog 64 [.slice ao xs.length cap, .bool x].toArray w0 fun v w' => v = .bool (xs.contains x) ∧ Ext w0 w' := by
  refine Rt.enter2 Try.func64 Try.ntmps64 rfl rfl ?_
  (repeat (first | (apply WL.pure; rfl; rfl; rfl) | (apply WL.nil) | (apply EX.thenN) | (apply CW.seq) | (apply CW.region)))
  refine WL.call rfl rfl rfl (index_bool w0 x hs) ?_
  rintro v w' ⟨rfl, hB⟩
  (repeat (first | (apply WL.pure; rfl; rfl; rfl) | (apply WL.nil) | (apply EX.thenN) | (apply CW.ret)))
  refine EX.ret1 rfl rfl ⟨?_, hB⟩
  rw [← List.any_beq, ← idxOf_any]
end Go.Proofs.Ytadbkppgaekmpaa
