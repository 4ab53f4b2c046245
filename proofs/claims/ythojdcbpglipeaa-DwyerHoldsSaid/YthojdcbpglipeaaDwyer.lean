/-
  Package dwyer: what a pattern with its scope means for a word.
-/
import Derived.Test.YthojdcbpglipeaaLasso
set_option linter.unusedVariables false
set_option linter.unusedSimpArgs false
namespace Go.Proofs.Ythojdcbpglipeaa
open Go.RowKit

abbrev patV (pt : LPat) : Value := .agg [.int .i64 pt.1, .int .i64 pt.2.1, .int .i64 pt.2.2.1, .int .i64 pt.2.2.2.1, .int .i64 pt.2.2.2.2.1, .int .i64 pt.2.2.2.2.2.1, .int .i64 pt.2.2.2.2.2.2].toArray
def rightB (n : Int) (has : Bool) : Bool := decide (0 ≤ n ∧ n ≤ 63) && (has || decide (n = 0))
def chkP (pt : LPat) : Int :=
  if pt.1 < 1 ∨ pt.1 > 6 ∨ pt.2.1 < 1 ∨ pt.2.1 > 5 then 1
  else if (rightB pt.2.2.1 true && rightB pt.2.2.2.1 (decide (pt.1 = 5 ∨ pt.1 = 6)) && rightB pt.2.2.2.2.1 (decide (pt.2.1 = 3 ∨ pt.2.1 = 4 ∨ pt.2.1 = 5)) && rightB pt.2.2.2.2.2.1 (decide (pt.2.1 = 2 ∨ pt.2.1 = 4 ∨ pt.2.1 = 5))) = false then 1
  else if pt.2.2.2.2.2.2 < 0 ∨ pt.2.2.2.2.2.2 > 3 ∨ (pt.1 ≠ 4 ∧ pt.2.2.2.2.2.2 ≠ 0) then 1 else 0

theorem right_ok (w : World) (n : Int) (has : Bool) : Rt Try.prog 123 [.int .i64 n, .bool has].toArray w fun v w' => v = .bool (rightB n has) ∧ w = w' := by
  refine Rt.enter2 Try.func123 Try.ntmps123 rfl rfl ?_
  (repeat (first | (apply WL.pure; rfl; rfl; rfl) | (apply WL.nil) | (apply EX.thenN) | (apply CW.seq) | (apply CW.region)))
  (refine WL.lookG rfl rfl (fun h => ?_) (fun h => ?_))
  · simp at h
    (repeat (apply WL.pure; rfl; rfl; rfl))
    (refine WL.lookG rfl rfl (fun h => ?_) (fun h => ?_))
    · simp at h
      (repeat (apply WL.pure; rfl; rfl; rfl))
      (refine WL.lookG rfl rfl (fun h => ?_) (fun h => ?_))
      · subst h
        (repeat (first | (apply WL.pure; rfl; rfl; rfl) | (apply WL.nil) | (apply EX.thenN) | (apply WL.pass; rfl; rfl) | (apply CW.ret)))
        refine EX.ret1 rfl rfl ⟨?_, rfl⟩
        simp [rightB]; omega
      · subst h
        (repeat (first | (apply WL.pure; rfl; rfl; rfl) | (apply WL.nil) | (apply EX.thenN) | (apply CW.ret)))
        refine EX.ret1 rfl rfl ⟨?_, rfl⟩
        have : (decide (0 ≤ n) && decide (n ≤ 63)) = true := by simp; omega
        simp [rightB, this]
        by_cases hn : n = 0 <;> simp [hn]
    · simp at h
      (repeat (first | (apply WL.pure; rfl; rfl; rfl) | (apply WL.nil) | (apply EX.thenN) | (apply WL.pass; rfl; rfl) | (apply CW.ret)))
      refine EX.ret1 rfl rfl ⟨?_, rfl⟩
      simp [rightB]; intro _ h3; omega
  · simp at h
    (repeat (first | (apply WL.pure; rfl; rfl; rfl) | (apply WL.nil) | (apply EX.thenN) | (apply WL.pass; rfl; rfl) | (apply CW.ret)))
    refine EX.ret1 rfl rfl ⟨?_, rfl⟩
    simp [rightB]; intro h3; omega

theorem rightB_def (n : Int) (has : Bool) : rightB n has = (decide (0 ≤ n ∧ n ≤ 63) && (has || decide (n = 0))) := rfl
theorem dwyerCheck (w : World) (pt : LPat) : Rt Try.prog 76 [patV pt].toArray w fun v w' => v = .int .i64 (chkP pt) ∧ Ext w w' := by
  refine Rt.enter1 Try.func76 Try.ntmps76 rfl rfl ?_
  obtain ⟨k, sc, p, s, q, r, c⟩ := pt
  (repeat (first | (apply CW.seq) | (apply CW.region)))
  refine WL.boxB rfl rfl rfl fun w1 hb hE => ?_
  apply WL.pure; rfl; rfl; rfl
  apply WL.nil
  apply EX.thenN
  refine CW.cut [(1, .pointer (some ⟨w.heap.size, 0, none⟩)), (3, .bool (decide (k = 5 ∨ k = 6)))] ?_ ?_
  · (repeat (first | (apply WL.pure; rfl; rfl; rfl) | (apply CW.region) | (apply WL.fa; rfl; rfl; rfl) | (apply WL.ld; rfl; rfl; rfl; assumption; rfl)))
    (refine WL.lookG rfl rfl (fun h => ?_) (fun h => ?_)) <;> simp at h
    · (repeat (first | (apply WL.pure; rfl; rfl; rfl) | (apply WL.nil) | (apply WL.pass; rfl; rfl)))
      refine EX.cut ⟨rfl, ?_, trivial⟩
      refine congrArg (fun b => some (Value.bool b)) ?_
      (rw [Bool.eq_iff_iff]; simp; try omega)
    · (repeat (first | (apply WL.pure; rfl; rfl; rfl) | (apply WL.nil) | (apply WL.fa; rfl; rfl; rfl) | (apply WL.ld; rfl; rfl; rfl; assumption; rfl)))
      refine EX.cut ⟨rfl, ?_, trivial⟩
      refine congrArg (fun b => some (Value.bool b)) ?_
      (rw [Bool.eq_iff_iff]; simp; try omega)
  refine CW.cut [(1, .pointer (some ⟨w.heap.size, 0, none⟩)), (3, .bool (decide (k = 5 ∨ k = 6))), (4, .bool (decide (sc = 3 ∨ sc = 4 ∨ sc = 5)))] ?_ ?_
  · (repeat (first | (apply WL.pure; rfl; rfl; rfl) | (apply CW.region) | (apply WL.fa; rfl; rfl; rfl) | (apply WL.ld; rfl; rfl; rfl; assumption; rfl)))
    (refine WL.lookG rfl rfl (fun h => ?_) (fun h => ?_)) <;> simp at h
    · (repeat (first | (apply WL.pure; rfl; rfl; rfl) | (apply WL.nil) | (apply WL.pass; rfl; rfl)))
      refine EX.cut ⟨rfl, rfl, ?_, trivial⟩
      refine congrArg (fun b => some (Value.bool b)) ?_
      (rw [Bool.eq_iff_iff]; simp; try omega)
    · (repeat (first | (apply WL.pure; rfl; rfl; rfl) | (apply WL.fa; rfl; rfl; rfl) | (apply WL.ld; rfl; rfl; rfl; assumption; rfl)))
      (refine WL.lookG rfl rfl (fun h => ?_) (fun h => ?_)) <;> simp at h
      · (repeat (first | (apply WL.pure; rfl; rfl; rfl) | (apply WL.nil) | (apply WL.pass; rfl; rfl)))
        refine EX.cut ⟨rfl, rfl, ?_, trivial⟩
        refine congrArg (fun b => some (Value.bool b)) ?_
        (rw [Bool.eq_iff_iff]; simp; try omega)
      · (repeat (first | (apply WL.pure; rfl; rfl; rfl) | (apply WL.nil) | (apply WL.fa; rfl; rfl; rfl) | (apply WL.ld; rfl; rfl; rfl; assumption; rfl)))
        refine EX.cut ⟨rfl, rfl, ?_, trivial⟩
        refine congrArg (fun b => some (Value.bool b)) ?_
        (rw [Bool.eq_iff_iff]; simp; try omega)
  refine CW.cut [(1, .pointer (some ⟨w.heap.size, 0, none⟩)), (3, .bool (decide (k = 5 ∨ k = 6))), (4, .bool (decide (sc = 3 ∨ sc = 4 ∨ sc = 5))), (5, .bool (decide (sc = 2 ∨ sc = 4 ∨ sc = 5)))] ?_ ?_
  · (repeat (first | (apply WL.pure; rfl; rfl; rfl) | (apply CW.region) | (apply WL.fa; rfl; rfl; rfl) | (apply WL.ld; rfl; rfl; rfl; assumption; rfl)))
    (refine WL.lookG rfl rfl (fun h => ?_) (fun h => ?_)) <;> simp at h
    · (repeat (first | (apply WL.pure; rfl; rfl; rfl) | (apply WL.nil) | (apply WL.pass; rfl; rfl)))
      refine EX.cut ⟨rfl, rfl, rfl, ?_, trivial⟩
      refine congrArg (fun b => some (Value.bool b)) ?_
      (rw [Bool.eq_iff_iff]; simp; try omega)
    · (repeat (first | (apply WL.pure; rfl; rfl; rfl) | (apply WL.fa; rfl; rfl; rfl) | (apply WL.ld; rfl; rfl; rfl; assumption; rfl)))
      (refine WL.lookG rfl rfl (fun h => ?_) (fun h => ?_)) <;> simp at h
      · (repeat (first | (apply WL.pure; rfl; rfl; rfl) | (apply WL.nil) | (apply WL.pass; rfl; rfl)))
        refine EX.cut ⟨rfl, rfl, rfl, ?_, trivial⟩
        refine congrArg (fun b => some (Value.bool b)) ?_
        (rw [Bool.eq_iff_iff]; simp; try omega)
      · (repeat (first | (apply WL.pure; rfl; rfl; rfl) | (apply WL.nil) | (apply WL.fa; rfl; rfl; rfl) | (apply WL.ld; rfl; rfl; rfl; assumption; rfl)))
        refine EX.cut ⟨rfl, rfl, rfl, ?_, trivial⟩
        refine congrArg (fun b => some (Value.bool b)) ?_
        (rw [Bool.eq_iff_iff]; simp; try omega)
  generalize hS : decide (k = 5 ∨ k = 6) = bs
  generalize hQ : decide (sc = 3 ∨ sc = 4 ∨ sc = 5) = bq
  generalize hR : decide (sc = 2 ∨ sc = 4 ∨ sc = 5) = br
  have e0 : chkP (k, sc, p, s, q, r, c) = if k < 1 ∨ k > 6 ∨ sc < 1 ∨ sc > 5 then 1 else if (rightB p true && rightB s bs && rightB q bq && rightB r br) = false then 1 else if c < 0 ∨ c > 3 ∨ (k ≠ 4 ∧ c ≠ 0) then 1 else 0 := by
    simp only [chkP, hS, hQ, hR]
  rw [e0]
  clear e0 hS hQ hR
  (repeat (first | (apply WL.pure; rfl; rfl; rfl) | (apply CW.seq) | (apply CW.region) | (apply WL.fa; rfl; rfl; rfl) | (apply WL.ld; rfl; rfl; rfl; assumption; rfl) | (apply CW.block)))
  (refine WL.lookG rfl rfl (fun h => ?_) (fun h => ?_)) <;> simp at h
  · (repeat (first | (apply WL.pure; rfl; rfl; rfl) | (apply WL.nil) | (apply EX.thenN) | (apply CW.seq) | (apply CW.region) | (apply WL.pass; rfl; rfl) | (apply CW.condT; rfl) | (apply CW.ret) | (apply EX.thenR) | (apply EX.inR)))
    refine EX.ret1 rfl rfl ⟨?_, hE⟩
    rw [if_pos (by omega)]
  · (repeat (first | (apply WL.pure; rfl; rfl; rfl) | (apply WL.fa; rfl; rfl; rfl) | (apply WL.ld; rfl; rfl; rfl; assumption; rfl)))
    (refine WL.lookG rfl rfl (fun h => ?_) (fun h => ?_)) <;> simp at h
    · (repeat (first | (apply WL.pure; rfl; rfl; rfl) | (apply WL.nil) | (apply EX.thenN) | (apply CW.seq) | (apply CW.region) | (apply WL.pass; rfl; rfl) | (apply CW.condT; rfl) | (apply CW.ret) | (apply EX.thenR) | (apply EX.inR)))
      refine EX.ret1 rfl rfl ⟨?_, hE⟩
      rw [if_pos (by omega)]
    · (repeat (first | (apply WL.pure; rfl; rfl; rfl) | (apply WL.fa; rfl; rfl; rfl) | (apply WL.ld; rfl; rfl; rfl; assumption; rfl)))
      (refine WL.lookG rfl rfl (fun h => ?_) (fun h => ?_)) <;> simp at h
      · (repeat (first | (apply WL.pure; rfl; rfl; rfl) | (apply WL.nil) | (apply EX.thenN) | (apply CW.seq) | (apply CW.region) | (apply WL.pass; rfl; rfl) | (apply CW.condT; rfl) | (apply CW.ret) | (apply EX.thenR) | (apply EX.inR)))
        refine EX.ret1 rfl rfl ⟨?_, hE⟩
        rw [if_pos (by omega)]
      · (repeat (first | (apply WL.pure; rfl; rfl; rfl) | (apply WL.nil) | (apply EX.thenN) | (apply WL.fa; rfl; rfl; rfl) | (apply WL.ld; rfl; rfl; rfl; assumption; rfl)))
        (refine CW.cond rfl (fun h => ?_) (fun h => ?_)) <;> simp at h
        · (repeat (first | (apply WL.pure; rfl; rfl; rfl) | (apply WL.nil) | (apply EX.thenN) | (apply CW.seq) | (apply CW.region) | (apply CW.ret) | (apply EX.thenR) | (apply EX.inR)))
          refine EX.ret1 rfl rfl ⟨?_, hE⟩
          rw [if_pos (by omega)]
        · (repeat (first | (apply CW.seq) | (apply CW.region) | (apply WL.fa; rfl; rfl; rfl) | (apply WL.ld; rfl; rfl; rfl; assumption; rfl)))
          have hA : ¬ (k < 1 ∨ k > 6 ∨ sc < 1 ∨ sc > 5) := by omega
          refine WL.call rfl rfl rfl (right_ok w1 p true) ?_
          rintro v w2 ⟨rfl, rfl⟩
          (repeat (apply WL.pure; rfl; rfl; rfl))
          (refine WL.lookG rfl rfl (fun h => ?_) (fun h => ?_)) <;> simp at h
          · (repeat (first | (apply WL.pure; rfl; rfl; rfl) | (apply WL.nil) | (apply EX.thenN) | (apply CW.seq) | (apply CW.region) | (apply WL.pass; rfl; rfl) | (apply CW.condT; rfl) | (apply CW.ret) | (apply EX.thenR) | (apply EX.inR)))
            refine EX.ret1 rfl rfl ⟨?_, hE⟩
            rw [if_neg hA, if_pos (by simp [*])]
          · (repeat (first | (apply WL.pure; rfl; rfl; rfl) | (apply WL.fa; rfl; rfl; rfl) | (apply WL.ld; rfl; rfl; rfl; assumption; rfl)))
            refine WL.call rfl rfl rfl (right_ok w1 s bs) ?_
            rintro v w2 ⟨rfl, rfl⟩
            (repeat (apply WL.pure; rfl; rfl; rfl))
            (refine WL.lookG rfl rfl (fun h => ?_) (fun h => ?_)) <;> simp at h
            · (repeat (first | (apply WL.pure; rfl; rfl; rfl) | (apply WL.nil) | (apply EX.thenN) | (apply CW.seq) | (apply CW.region) | (apply WL.pass; rfl; rfl) | (apply CW.condT; rfl) | (apply CW.ret) | (apply EX.thenR) | (apply EX.inR)))
              refine EX.ret1 rfl rfl ⟨?_, hE⟩
              rw [if_neg hA, if_pos (by simp [*])]
            · (repeat (first | (apply WL.pure; rfl; rfl; rfl) | (apply WL.fa; rfl; rfl; rfl) | (apply WL.ld; rfl; rfl; rfl; assumption; rfl)))
              refine WL.call rfl rfl rfl (right_ok w1 q bq) ?_
              rintro v w2 ⟨rfl, rfl⟩
              (repeat (apply WL.pure; rfl; rfl; rfl))
              (refine WL.lookG rfl rfl (fun h => ?_) (fun h => ?_)) <;> simp at h
              · (repeat (first | (apply WL.pure; rfl; rfl; rfl) | (apply WL.nil) | (apply EX.thenN) | (apply CW.seq) | (apply CW.region) | (apply WL.pass; rfl; rfl) | (apply CW.condT; rfl) | (apply CW.ret) | (apply EX.thenR) | (apply EX.inR)))
                refine EX.ret1 rfl rfl ⟨?_, hE⟩
                rw [if_neg hA, if_pos (by simp [*])]
              · (repeat (first | (apply WL.pure; rfl; rfl; rfl) | (apply WL.fa; rfl; rfl; rfl) | (apply WL.ld; rfl; rfl; rfl; assumption; rfl)))
                refine WL.call rfl rfl rfl (right_ok w1 r br) ?_
                rintro v w2 ⟨rfl, rfl⟩
                (repeat (first | (apply WL.pure; rfl; rfl; rfl) | (apply WL.nil) | (apply EX.thenN)))
                (refine CW.cond rfl (fun h => ?_) (fun h => ?_)) <;> simp at h
                · (repeat (first | (apply WL.pure; rfl; rfl; rfl) | (apply WL.nil) | (apply EX.thenN) | (apply CW.seq) | (apply CW.region) | (apply CW.ret) | (apply EX.thenR) | (apply EX.inR)))
                  refine EX.ret1 rfl rfl ⟨?_, hE⟩
                  rw [if_neg hA, if_pos (by simp [*])]
                · (repeat (first | (apply WL.pure; rfl; rfl; rfl) | (apply CW.seq) | (apply CW.region) | (apply WL.fa; rfl; rfl; rfl) | (apply WL.ld; rfl; rfl; rfl; assumption; rfl)))
                  have hB : ¬ ((rightB p true && rightB s bs && rightB q bq && rightB r br) = false) := by simp [*]
                  (refine WL.lookG rfl rfl (fun h => ?_) (fun h => ?_)) <;> simp at h
                  · (repeat (first | (apply WL.pure; rfl; rfl; rfl) | (apply WL.nil) | (apply EX.thenN) | (apply CW.seq) | (apply CW.region) | (apply WL.pass; rfl; rfl) | (apply CW.condT; rfl) | (apply CW.ret) | (apply EX.thenR) | (apply EX.inR)))
                    refine EX.ret1 rfl rfl ⟨?_, hE⟩
                    rw [if_neg hA, if_neg hB, if_pos (by omega)]
                  · (repeat (first | (apply WL.pure; rfl; rfl; rfl) | (apply WL.fa; rfl; rfl; rfl) | (apply WL.ld; rfl; rfl; rfl; assumption; rfl)))
                    (refine WL.lookG rfl rfl (fun h => ?_) (fun h => ?_)) <;> simp at h
                    · (repeat (first | (apply WL.pure; rfl; rfl; rfl) | (apply WL.nil) | (apply EX.thenN) | (apply CW.seq) | (apply CW.region) | (apply WL.pass; rfl; rfl) | (apply CW.condT; rfl) | (apply CW.ret) | (apply EX.thenR) | (apply EX.inR)))
                      refine EX.ret1 rfl rfl ⟨?_, hE⟩
                      rw [if_neg hA, if_neg hB, if_pos (by omega)]
                    · (repeat (first | (apply WL.pure; rfl; rfl; rfl) | (apply WL.fa; rfl; rfl; rfl) | (apply WL.ld; rfl; rfl; rfl; assumption; rfl)))
                      (refine WL.lookG rfl rfl (fun h => ?_) (fun h => ?_)) <;> simp at h
                      · (repeat (first | (apply WL.pure; rfl; rfl; rfl) | (apply WL.nil) | (apply EX.thenN) | (apply WL.fa; rfl; rfl; rfl) | (apply WL.ld; rfl; rfl; rfl; assumption; rfl)))
                        (refine CW.cond rfl (fun h => ?_) (fun h => ?_)) <;> simp at h
                        · (repeat (first | (apply WL.pure; rfl; rfl; rfl) | (apply WL.nil) | (apply EX.thenN) | (apply CW.seq) | (apply CW.region) | (apply CW.ret) | (apply EX.thenR) | (apply EX.inR)))
                          refine EX.ret1 rfl rfl ⟨?_, hE⟩
                          rw [if_neg hA, if_neg hB, if_pos (by omega)]
                        · (repeat (first | (apply WL.pure; rfl; rfl; rfl) | (apply WL.nil) | (apply EX.thenN) | (apply CW.seq) | (apply CW.region) | (apply EX.inN) | (apply CW.ret) | (apply CW.skip)))
                          refine EX.ret1 rfl rfl ⟨?_, hE⟩
                          rw [if_neg hA, if_neg hB, if_neg (by omega)]
                      · (repeat (first | (apply WL.pure; rfl; rfl; rfl) | (apply WL.nil) | (apply EX.thenN) | (apply CW.seq) | (apply CW.region) | (apply WL.pass; rfl; rfl) | (apply EX.inN) | (apply CW.condF; rfl) | (apply CW.ret) | (apply CW.skip)))
                        refine EX.ret1 rfl rfl ⟨?_, hE⟩
                        rw [if_neg hA, if_neg hB, if_neg (by omega)]

end Go.Proofs.Ythojdcbpglipeaa
