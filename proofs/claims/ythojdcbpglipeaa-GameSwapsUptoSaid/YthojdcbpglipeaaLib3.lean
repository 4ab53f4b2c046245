/-
  slices.IndexFunc and slices.ContainsFunc at lists of structs.
-/
import Derived.Test.YthojdcbpglipeaaLib2
set_option linter.unusedVariables false
namespace Go.Proofs.Ythojdcbpglipeaa
open Go.RowKit
theorem indexFunc_node (w0 : World) {ao : Option Addr} {cap : Nat} {xs : List (ByteArray × Int)} {fv : Value} (p : (ByteArray × Int) → Bool) (hs : Sl w0 (Old w0) ao cap xs)
    (hf : ∀ w, Ext w0 w → ∀ i (h : i < xs.length) u, Rd w (Old w0) u xs[i] → FnV Try.prog fv [u] w fun v w' => v = .bool (p xs[i]) ∧ Ext w w') :
    Rt Try.prog 201 [.slice ao xs.length cap, fv].toArray w0 fun v w' => v = .int .i64 (idxOf p xs) ∧ Ext w0 w' := by
  have hm := hs.len63
  refine Rt.enter2 Try.func201 Try.ntmps201 rfl rfl ?_
  (repeat (first | (apply WL.pure; rfl; rfl; rfl) | (apply WL.nil) | (apply EX.thenN) | (apply CW.seq) | (apply CW.region) | (apply WL.lenS; rfl; rfl; rfl) | (apply CW.block)))
  refine CW.loop (S := Nat) (fun k => [(0, .slice ao xs.length cap), (1, fv), (7, .int .i64 xs.length), (8, .int .i64 k)])
    (fun k w => k ≤ xs.length ∧ Ext w0 w ∧ ∀ j (h : j < xs.length), j < k → p xs[j] = false) (fun k => xs.length - k) 0 (by repeat (first | exact trivial | refine ⟨rfl, ?_⟩)) ⟨by omega, Ext.refl _, by omega⟩ ?_
  rintro k w ⟨hk, hB, hn⟩
  (repeat (first | (apply WL.pure; rfl; rfl; rfl) | (apply WL.nil) | (apply EX.thenN) | (apply CW.seq) | (apply CW.region)))
  refine CW.cond rfl (fun h => ?_) (fun h => ?_)
  · simp at h
    (repeat (first | (apply WL.pure; rfl; rfl; rfl) | (apply WL.nil) | (apply EX.thenN) | (apply CW.seq) | (apply CW.region) | (apply CW.block) | (apply CW.skip)))
    refine WL.elemN rfl rfl rfl rfl rfl (hs.at hB) h (fun _ => rfl) (fun u q hu => ?_)
    refine WL.callF rfl rfl rfl rfl (hf w hB k h u hu) ?_
    rintro v w' ⟨rfl, hB'⟩
    (repeat (first | (apply WL.nil) | (apply EX.thenN)))
    refine CW.cond rfl (fun h' => ?_) (fun h' => ?_)
    · (repeat (first | (apply WL.pure; rfl; rfl; rfl) | (apply WL.nil) | (apply EX.thenN) | (apply CW.seq) | (apply CW.region) | (apply CW.ret) | (apply EX.thenR) | (apply EX.inR)))
      refine EX.ret1 rfl rfl ⟨?_, hB.trans hB'⟩
      rw [idxOf_here h hn h']
    · (repeat (first | (apply WL.add; rfl; rfl; rfl; rfl; omega; omega) | (apply WL.pure; rfl; rfl; rfl) | (apply WL.nil) | (apply EX.thenN) | (apply CW.region) | (apply EX.inN) | (apply CW.skip)))
      refine EX.back (k + 1) (by repeat (first | exact trivial | refine ⟨rfl, ?_⟩)) ⟨h, hB.trans hB', ?_⟩ (by omega)
      intro j hj hlt
      by_cases e : j = k
      · subst e; exact h'
      · exact hn j hj (by omega)
  · simp at h
    (repeat (first | (apply WL.pure; rfl; rfl; rfl) | (apply WL.nil) | (apply EX.thenN) | (apply CW.seq) | (apply CW.region) | (apply CW.exit) | (apply EX.thenX) | (apply EX.inX) | (apply CW.ret)))
    refine EX.ret1 rfl rfl ⟨?_, hB⟩
    rw [idxOf_none (fun j hj => hn j hj (by omega))]
theorem containsFunc_node (w0 : World) {ao : Option Addr} {cap : Nat} {xs : List (ByteArray × Int)} {fv : Value} (p : (ByteArray × Int) → Bool) (hs : Sl w0 (Old w0) ao cap xs)
    (hf : ∀ w, Ext w0 w → ∀ i (h : i < xs.length) u, Rd w (Old w0) u xs[i] → FnV Try.prog fv [u] w fun v w' => v = .bool (p xs[i]) ∧ Ext w w') :
    Rt Try.prog 178 [.slice ao xs.length cap, fv].toArray w0 fun v w' => v = .bool (xs.any p) ∧ Ext w0 w' := by
  refine Rt.enter2 Try.func178 Try.ntmps178 rfl rfl ?_
  (repeat (first | (apply WL.pure; rfl; rfl; rfl) | (apply WL.nil) | (apply EX.thenN) | (apply CW.seq) | (apply CW.region)))
  refine WL.call rfl rfl rfl (indexFunc_node w0 p hs hf) ?_
  rintro v w' ⟨rfl, hB⟩
  (repeat (first | (apply WL.pure; rfl; rfl; rfl) | (apply WL.nil) | (apply EX.thenN) | (apply CW.ret)))
  refine EX.ret1 rfl rfl ⟨?_, hB⟩
  rw [← idxOf_any]
theorem indexFunc_edge (w0 : World) {ao : Option Addr} {cap : Nat} {xs : List (Int × Int)} {fv : Value} (p : (Int × Int) → Bool) (hs : Sl w0 (Old w0) ao cap xs)
    (hf : ∀ w, Ext w0 w → ∀ i (h : i < xs.length) u, Rd w (Old w0) u xs[i] → FnV Try.prog fv [u] w fun v w' => v = .bool (p xs[i]) ∧ Ext w w') :
    Rt Try.prog 55 [.slice ao xs.length cap, fv].toArray w0 fun v w' => v = .int .i64 (idxOf p xs) ∧ Ext w0 w' := by
  have hm := hs.len63
  refine Rt.enter2 Try.func55 Try.ntmps55 rfl rfl ?_
  (repeat (first | (apply WL.add; rfl; rfl; rfl; rfl; omega; omega) | (apply QL.add; rfl; rfl; rfl; rfl; omega; omega) | (apply WL.sub'; rfl; rfl; rfl; rfl; omega; omega) | (apply QL.sub'; rfl; rfl; rfl; rfl; omega; omega) | (apply WL.mul; rfl; rfl; rfl; rfl; omega; omega) | (apply QL.mul; rfl; rfl; rfl; rfl; omega; omega) | (apply WL.pure; rfl; rfl; rfl) | (apply QL.pure; rfl; rfl; rfl) | (apply WL.nil) | (apply EX.thenN) | (apply CW.seq) | (apply CW.region) | (apply WL.pass; rfl; rfl) | (apply QL.pass; rfl; rfl) | (apply WL.eqB; rfl; rfl; rfl; rfl) | (apply QL.eqB; rfl; rfl; rfl; rfl) | (apply WL.neB; rfl; rfl; rfl; rfl) | (apply QL.neB; rfl; rfl; rfl; rfl) | (apply WL.lenS; rfl; rfl; rfl) | (apply QL.lenS; rfl; rfl; rfl) | (apply WL.makeFunc; rfl; rfl; rfl; rfl) | (apply QL.makeFunc; rfl; rfl; rfl; rfl) | (apply WL.fa; rfl; rfl; rfl) | (apply QL.fa; rfl; rfl; rfl) | (apply WL.nck; rfl; rfl; rfl) | (apply QL.nck; rfl; rfl; rfl) | (apply WL.ld; rfl; rfl; rfl; assumption; rfl) | (apply QL.ld; rfl; rfl; rfl; assumption; rfl) | (apply WL.ldA; rfl; rfl; rfl; assumption; rfl) | (apply QL.ldA; rfl; rfl; rfl; assumption; rfl) | (apply CW.block) | (apply EX.inN) | (apply CW.condT; rfl) | (apply CW.condF; rfl) | (apply CW.exit) | (apply EX.thenX) | (apply EX.inX) | (apply EX.inXne; rfl) | (apply CW.ret) | (apply EX.thenR) | (apply EX.inR) | (apply CW.skip) | (refine WL.lenO rfl rfl rfl (by assumption) ?_) | (apply WL.isNil; rfl; rfl; rfl) | (apply CW.draw; exact mixed; kernel_rfl)))
  refine CW.loop (S := Nat) (fun k => [(0, .slice ao xs.length cap), (1, fv), (7, .int .i64 xs.length), (8, .int .i64 k)])
    (fun k w => k ≤ xs.length ∧ Ext w0 w ∧ ∀ j (h : j < xs.length), j < k → p xs[j] = false) (fun k => xs.length - k) 0 (by repeat (first | exact trivial | refine ⟨rfl, ?_⟩)) ⟨by omega, Ext.refl _, by omega⟩ ?_
  rintro k w ⟨hk, hB, hn⟩
  (repeat (first | (apply WL.add; rfl; rfl; rfl; rfl; omega; omega) | (apply QL.add; rfl; rfl; rfl; rfl; omega; omega) | (apply WL.sub'; rfl; rfl; rfl; rfl; omega; omega) | (apply QL.sub'; rfl; rfl; rfl; rfl; omega; omega) | (apply WL.mul; rfl; rfl; rfl; rfl; omega; omega) | (apply QL.mul; rfl; rfl; rfl; rfl; omega; omega) | (apply WL.pure; rfl; rfl; rfl) | (apply QL.pure; rfl; rfl; rfl) | (apply WL.nil) | (apply EX.thenN) | (apply CW.seq) | (apply CW.region) | (apply WL.pass; rfl; rfl) | (apply QL.pass; rfl; rfl) | (apply WL.eqB; rfl; rfl; rfl; rfl) | (apply QL.eqB; rfl; rfl; rfl; rfl) | (apply WL.neB; rfl; rfl; rfl; rfl) | (apply QL.neB; rfl; rfl; rfl; rfl) | (apply WL.lenS; rfl; rfl; rfl) | (apply QL.lenS; rfl; rfl; rfl) | (apply WL.makeFunc; rfl; rfl; rfl; rfl) | (apply QL.makeFunc; rfl; rfl; rfl; rfl) | (apply WL.fa; rfl; rfl; rfl) | (apply QL.fa; rfl; rfl; rfl) | (apply WL.nck; rfl; rfl; rfl) | (apply QL.nck; rfl; rfl; rfl) | (apply WL.ld; rfl; rfl; rfl; assumption; rfl) | (apply QL.ld; rfl; rfl; rfl; assumption; rfl) | (apply WL.ldA; rfl; rfl; rfl; assumption; rfl) | (apply QL.ldA; rfl; rfl; rfl; assumption; rfl) | (apply CW.block) | (apply EX.inN) | (apply CW.condT; rfl) | (apply CW.condF; rfl) | (apply CW.exit) | (apply EX.thenX) | (apply EX.inX) | (apply EX.inXne; rfl) | (apply CW.ret) | (apply EX.thenR) | (apply EX.inR) | (apply CW.skip) | (refine WL.lenO rfl rfl rfl (by assumption) ?_) | (apply WL.isNil; rfl; rfl; rfl) | (apply CW.draw; exact mixed; kernel_rfl)))
  refine CW.cond rfl (fun h => ?_) (fun h => ?_)
  · simp at h
    (repeat (first | (apply WL.add; rfl; rfl; rfl; rfl; omega; omega) | (apply QL.add; rfl; rfl; rfl; rfl; omega; omega) | (apply WL.sub'; rfl; rfl; rfl; rfl; omega; omega) | (apply QL.sub'; rfl; rfl; rfl; rfl; omega; omega) | (apply WL.mul; rfl; rfl; rfl; rfl; omega; omega) | (apply QL.mul; rfl; rfl; rfl; rfl; omega; omega) | (apply WL.pure; rfl; rfl; rfl) | (apply QL.pure; rfl; rfl; rfl) | (apply WL.nil) | (apply EX.thenN) | (apply CW.seq) | (apply CW.region) | (apply WL.pass; rfl; rfl) | (apply QL.pass; rfl; rfl) | (apply WL.eqB; rfl; rfl; rfl; rfl) | (apply QL.eqB; rfl; rfl; rfl; rfl) | (apply WL.neB; rfl; rfl; rfl; rfl) | (apply QL.neB; rfl; rfl; rfl; rfl) | (apply WL.lenS; rfl; rfl; rfl) | (apply QL.lenS; rfl; rfl; rfl) | (apply WL.makeFunc; rfl; rfl; rfl; rfl) | (apply QL.makeFunc; rfl; rfl; rfl; rfl) | (apply WL.fa; rfl; rfl; rfl) | (apply QL.fa; rfl; rfl; rfl) | (apply WL.nck; rfl; rfl; rfl) | (apply QL.nck; rfl; rfl; rfl) | (apply WL.ld; rfl; rfl; rfl; assumption; rfl) | (apply QL.ld; rfl; rfl; rfl; assumption; rfl) | (apply WL.ldA; rfl; rfl; rfl; assumption; rfl) | (apply QL.ldA; rfl; rfl; rfl; assumption; rfl) | (apply CW.block) | (apply EX.inN) | (apply CW.condT; rfl) | (apply CW.condF; rfl) | (apply CW.exit) | (apply EX.thenX) | (apply EX.inX) | (apply EX.inXne; rfl) | (apply CW.ret) | (apply EX.thenR) | (apply EX.inR) | (apply CW.skip) | (refine WL.lenO rfl rfl rfl (by assumption) ?_) | (apply WL.isNil; rfl; rfl; rfl) | (apply CW.draw; exact mixed; kernel_rfl)))
    refine WL.elemN rfl rfl rfl rfl rfl (hs.at hB) h (fun _ => rfl) (fun u q hu => ?_)
    refine WL.callF rfl rfl rfl rfl (hf w hB k h u hu) ?_
    rintro v w' ⟨rfl, hB'⟩
    (repeat (first | (apply WL.add; rfl; rfl; rfl; rfl; omega; omega) | (apply QL.add; rfl; rfl; rfl; rfl; omega; omega) | (apply WL.sub'; rfl; rfl; rfl; rfl; omega; omega) | (apply QL.sub'; rfl; rfl; rfl; rfl; omega; omega) | (apply WL.mul; rfl; rfl; rfl; rfl; omega; omega) | (apply QL.mul; rfl; rfl; rfl; rfl; omega; omega) | (apply WL.pure; rfl; rfl; rfl) | (apply QL.pure; rfl; rfl; rfl) | (apply WL.nil) | (apply EX.thenN) | (apply CW.seq) | (apply CW.region) | (apply WL.pass; rfl; rfl) | (apply QL.pass; rfl; rfl) | (apply WL.eqB; rfl; rfl; rfl; rfl) | (apply QL.eqB; rfl; rfl; rfl; rfl) | (apply WL.neB; rfl; rfl; rfl; rfl) | (apply QL.neB; rfl; rfl; rfl; rfl) | (apply WL.lenS; rfl; rfl; rfl) | (apply QL.lenS; rfl; rfl; rfl) | (apply WL.makeFunc; rfl; rfl; rfl; rfl) | (apply QL.makeFunc; rfl; rfl; rfl; rfl) | (apply WL.fa; rfl; rfl; rfl) | (apply QL.fa; rfl; rfl; rfl) | (apply WL.nck; rfl; rfl; rfl) | (apply QL.nck; rfl; rfl; rfl) | (apply WL.ld; rfl; rfl; rfl; assumption; rfl) | (apply QL.ld; rfl; rfl; rfl; assumption; rfl) | (apply WL.ldA; rfl; rfl; rfl; assumption; rfl) | (apply QL.ldA; rfl; rfl; rfl; assumption; rfl) | (apply CW.block) | (apply EX.inN) | (apply CW.condT; rfl) | (apply CW.condF; rfl) | (apply CW.exit) | (apply EX.thenX) | (apply EX.inX) | (apply EX.inXne; rfl) | (apply CW.ret) | (apply EX.thenR) | (apply EX.inR) | (apply CW.skip) | (refine WL.lenO rfl rfl rfl (by assumption) ?_) | (apply WL.isNil; rfl; rfl; rfl) | (apply CW.draw; exact mixed; kernel_rfl)))
    refine CW.cond rfl (fun h' => ?_) (fun h' => ?_)
    · (repeat (first | (apply WL.add; rfl; rfl; rfl; rfl; omega; omega) | (apply QL.add; rfl; rfl; rfl; rfl; omega; omega) | (apply WL.sub'; rfl; rfl; rfl; rfl; omega; omega) | (apply QL.sub'; rfl; rfl; rfl; rfl; omega; omega) | (apply WL.mul; rfl; rfl; rfl; rfl; omega; omega) | (apply QL.mul; rfl; rfl; rfl; rfl; omega; omega) | (apply WL.pure; rfl; rfl; rfl) | (apply QL.pure; rfl; rfl; rfl) | (apply WL.nil) | (apply EX.thenN) | (apply CW.seq) | (apply CW.region) | (apply WL.pass; rfl; rfl) | (apply QL.pass; rfl; rfl) | (apply WL.eqB; rfl; rfl; rfl; rfl) | (apply QL.eqB; rfl; rfl; rfl; rfl) | (apply WL.neB; rfl; rfl; rfl; rfl) | (apply QL.neB; rfl; rfl; rfl; rfl) | (apply WL.lenS; rfl; rfl; rfl) | (apply QL.lenS; rfl; rfl; rfl) | (apply WL.makeFunc; rfl; rfl; rfl; rfl) | (apply QL.makeFunc; rfl; rfl; rfl; rfl) | (apply WL.fa; rfl; rfl; rfl) | (apply QL.fa; rfl; rfl; rfl) | (apply WL.nck; rfl; rfl; rfl) | (apply QL.nck; rfl; rfl; rfl) | (apply WL.ld; rfl; rfl; rfl; assumption; rfl) | (apply QL.ld; rfl; rfl; rfl; assumption; rfl) | (apply WL.ldA; rfl; rfl; rfl; assumption; rfl) | (apply QL.ldA; rfl; rfl; rfl; assumption; rfl) | (apply CW.block) | (apply EX.inN) | (apply CW.condT; rfl) | (apply CW.condF; rfl) | (apply CW.exit) | (apply EX.thenX) | (apply EX.inX) | (apply EX.inXne; rfl) | (apply CW.ret) | (apply EX.thenR) | (apply EX.inR) | (apply CW.skip) | (refine WL.lenO rfl rfl rfl (by assumption) ?_) | (apply WL.isNil; rfl; rfl; rfl) | (apply CW.draw; exact mixed; kernel_rfl)))
      refine EX.ret1 rfl rfl ⟨?_, hB.trans hB'⟩
      rw [idxOf_here h hn h']
    · (repeat (first | (apply WL.add; rfl; rfl; rfl; rfl; omega; omega) | (apply QL.add; rfl; rfl; rfl; rfl; omega; omega) | (apply WL.sub'; rfl; rfl; rfl; rfl; omega; omega) | (apply QL.sub'; rfl; rfl; rfl; rfl; omega; omega) | (apply WL.mul; rfl; rfl; rfl; rfl; omega; omega) | (apply QL.mul; rfl; rfl; rfl; rfl; omega; omega) | (apply WL.pure; rfl; rfl; rfl) | (apply QL.pure; rfl; rfl; rfl) | (apply WL.nil) | (apply EX.thenN) | (apply CW.seq) | (apply CW.region) | (apply WL.pass; rfl; rfl) | (apply QL.pass; rfl; rfl) | (apply WL.eqB; rfl; rfl; rfl; rfl) | (apply QL.eqB; rfl; rfl; rfl; rfl) | (apply WL.neB; rfl; rfl; rfl; rfl) | (apply QL.neB; rfl; rfl; rfl; rfl) | (apply WL.lenS; rfl; rfl; rfl) | (apply QL.lenS; rfl; rfl; rfl) | (apply WL.makeFunc; rfl; rfl; rfl; rfl) | (apply QL.makeFunc; rfl; rfl; rfl; rfl) | (apply WL.fa; rfl; rfl; rfl) | (apply QL.fa; rfl; rfl; rfl) | (apply WL.nck; rfl; rfl; rfl) | (apply QL.nck; rfl; rfl; rfl) | (apply WL.ld; rfl; rfl; rfl; assumption; rfl) | (apply QL.ld; rfl; rfl; rfl; assumption; rfl) | (apply WL.ldA; rfl; rfl; rfl; assumption; rfl) | (apply QL.ldA; rfl; rfl; rfl; assumption; rfl) | (apply CW.block) | (apply EX.inN) | (apply CW.condT; rfl) | (apply CW.condF; rfl) | (apply CW.exit) | (apply EX.thenX) | (apply EX.inX) | (apply EX.inXne; rfl) | (apply CW.ret) | (apply EX.thenR) | (apply EX.inR) | (apply CW.skip) | (refine WL.lenO rfl rfl rfl (by assumption) ?_) | (apply WL.isNil; rfl; rfl; rfl) | (apply CW.draw; exact mixed; kernel_rfl)))
      refine EX.back (k + 1) (by repeat (first | exact trivial | refine ⟨rfl, ?_⟩)) ⟨h, hB.trans hB', ?_⟩ (by omega)
      intro j hj hlt
      by_cases e : j = k
      · subst e; exact h'
      · exact hn j hj (by omega)
  · simp at h
    (repeat (first | (apply WL.add; rfl; rfl; rfl; rfl; omega; omega) | (apply QL.add; rfl; rfl; rfl; rfl; omega; omega) | (apply WL.sub'; rfl; rfl; rfl; rfl; omega; omega) | (apply QL.sub'; rfl; rfl; rfl; rfl; omega; omega) | (apply WL.mul; rfl; rfl; rfl; rfl; omega; omega) | (apply QL.mul; rfl; rfl; rfl; rfl; omega; omega) | (apply WL.pure; rfl; rfl; rfl) | (apply QL.pure; rfl; rfl; rfl) | (apply WL.nil) | (apply EX.thenN) | (apply CW.seq) | (apply CW.region) | (apply WL.pass; rfl; rfl) | (apply QL.pass; rfl; rfl) | (apply WL.eqB; rfl; rfl; rfl; rfl) | (apply QL.eqB; rfl; rfl; rfl; rfl) | (apply WL.neB; rfl; rfl; rfl; rfl) | (apply QL.neB; rfl; rfl; rfl; rfl) | (apply WL.lenS; rfl; rfl; rfl) | (apply QL.lenS; rfl; rfl; rfl) | (apply WL.makeFunc; rfl; rfl; rfl; rfl) | (apply QL.makeFunc; rfl; rfl; rfl; rfl) | (apply WL.fa; rfl; rfl; rfl) | (apply QL.fa; rfl; rfl; rfl) | (apply WL.nck; rfl; rfl; rfl) | (apply QL.nck; rfl; rfl; rfl) | (apply WL.ld; rfl; rfl; rfl; assumption; rfl) | (apply QL.ld; rfl; rfl; rfl; assumption; rfl) | (apply WL.ldA; rfl; rfl; rfl; assumption; rfl) | (apply QL.ldA; rfl; rfl; rfl; assumption; rfl) | (apply CW.block) | (apply EX.inN) | (apply CW.condT; rfl) | (apply CW.condF; rfl) | (apply CW.exit) | (apply EX.thenX) | (apply EX.inX) | (apply EX.inXne; rfl) | (apply CW.ret) | (apply EX.thenR) | (apply EX.inR) | (apply CW.skip) | (refine WL.lenO rfl rfl rfl (by assumption) ?_) | (apply WL.isNil; rfl; rfl; rfl) | (apply CW.draw; exact mixed; kernel_rfl)))
    refine EX.ret1 rfl rfl ⟨?_, hB⟩
    rw [idxOf_none (fun j hj => hn j hj (by omega))]
end Go.Proofs.Ythojdcbpglipeaa
