/-
  dwyer.Make walked.
-/
import Derived.Test.YthojdcbpglipeaaDwForm
import Derived.Test.YthojdcbpglipeaaDwPl2
set_option linter.unusedVariables false
set_option linter.unusedSimpArgs false
namespace Go.Proofs.Ythojdcbpglipeaa
open Go.RowKit

def dwMakeE (pt : LPat) : Ltl × Int := if chkP pt ≠ 0 then (.mk 0 0 [], chkP pt) else if (chkF (dwyF pt) 1 0).1 ≠ 0 then (.mk 0 0 [], (chkF (dwyF pt) 1 0).1) else (dwyF pt, 0)
theorem chkP_cnt {pt : LPat} (h : chkP pt = 0) : ∃ n : Nat, pt.2.2.2.2.2.2 = (n : Int) ∧ n ≤ 3 := by
  unfold chkP at h
  split at h
  · cases h
  split at h
  · cases h
  split at h
  · cases h
  · rename_i h3
    exact ⟨pt.2.2.2.2.2.2.toNat, by omega, by omega⟩
theorem dwMake_ok (w : World) (pt : LPat) :
    Rt Try.prog 31 [patV pt].toArray w fun u w' => ∃ x, u = .tuple ⟨[x, .int .i64 (dwMakeE pt).2]⟩ ∧ Rd w' (Old w') x (dwMakeE pt).1 ∧ Ext w w' := by
  refine Rt.enter1 Try.func31 Try.ntmps31 rfl rfl ?_
  (repeat (first | (apply CW.seq) | (apply CW.region)))
  refine WL.boxB rfl rfl rfl fun w1 ht hE1 => ?_
  refine WL.alloc rfl rfl (fun w2 hr hE2 => ?_)
  have ht := ht.ext hE2
  have hE12 := hE1.trans hE2
  (repeat (first | (apply WL.pure; rfl; rfl; rfl) | (apply WL.nil) | (apply EX.thenN) | (apply CW.seq) | (apply CW.region) | (apply WL.ldA; rfl; rfl; rfl; assumption; rfl)))
  refine WL.call rfl rfl rfl (dwyerCheck w2 pt) ?_
  rintro _ w3 ⟨rfl, e3⟩
  have ht3 := ht.ext e3
  have hr3 := hr.ext e3
  have hE3 := hE12.trans e3
  have hz1 := hE1.size
  have hz2 := hE2.size
  have hlr := hr.lt
  have hz3 := e3.size
  (repeat (first | (apply WL.pure; rfl; rfl; rfl) | (apply WL.nil) | (apply EX.thenN) | (apply CW.seq) | (apply CW.region)))
  unfold dwMakeE
  refine CW.cond rfl (fun h0 => ?_) (fun h0 => ?_)
  · have h0 : chkP pt ≠ 0 := by simpa using h0
    rw [if_pos h0]
    (repeat (first | (apply CW.seq) | (apply CW.region)))
    refine WL.build (parts := []) rfl rfl rfl rfl ?_
    (repeat (apply WL.pure; rfl; rfl; rfl))
    refine WL.st rfl rfl rfl hr3 rfl rfl (ones_of rfl) (fun w4 hr4 hg4 => ?_)
    (repeat (first | (apply WL.pure; rfl; rfl; rfl) | (apply WL.nil) | (apply EX.thenN) | (apply CW.ret) | (apply EX.thenR)))
    exact EX.retC2 rfl rfl rfl hr4 rfl ⟨_, rfl, Rd.mkLtl (kids := []) (Sl.zero _ _), hE3.grown hg4 hE3.size (fun g hg => by cases hg; omega)⟩
  · have h0 : chkP pt = 0 := by simpa using h0
    rw [if_neg (by simp [h0])]
    (repeat (first | (apply EX.thenN) | (apply CW.seq) | (apply CW.region) | (apply WL.ldA; rfl; rfl; rfl; assumption; rfl) | (apply CW.skip)))
    have hfm : Rt Try.prog 80 [patV pt].toArray w3 (Fresh w3 (dwyF pt)) := by
      obtain ⟨n, hn, hn3⟩ := chkP_cnt h0
      obtain ⟨k, sc, P, S, Q, R, c⟩ := pt
      dsimp only at hn
      subst hn
      exact form_ok w3 k sc P S Q R n (by omega)
    refine WL.call rfl rfl rfl hfm ?_
    rintro v w4 ⟨hv, e4⟩
    have hz4 := e4.size
    refine WL.alloc rfl rfl (fun w5 hb5 e5 => ?_)
    have hz5 := e5.size
    obtain ⟨uo, uc, rfl, _⟩ := Rd.ltl hv
    refine WL.st rfl rfl rfl hb5 rfl rfl (ones_of rfl) (fun w6 hb6 hg6 => ?_)
    have e6 : Ext w4 w6 := e5.grown hg6 e5.size (fun g hg => by cases hg; exact Nat.le_refl _)
    have hv6 := hv.ext e6
    obtain ⟨uo', uc', hve, hku⟩ := Rd.ltl hv6
    obtain ⟨rfl, rfl⟩ : uo' = uo ∧ uc' = uc := by
      simp [ltlV] at hve
      exact ⟨hve.1.symm, hve.2.symm⟩
    have e46 := e4.trans e6
    have hr6 := hr3.ext e46
    have hE6 := hE3.trans e46
    have hz6 := e6.size
    (repeat (first | (apply WL.nil) | (apply EX.thenN) | (apply CW.seq) | (apply CW.region) | (apply WL.ldA; rfl; rfl; rfl; assumption; rfl)))
    refine WL.call rfl rfl rfl (ltlCheck w6 hku (fun b hb => hb.2)) ?_
    rintro _ w7 ⟨rfl, e7⟩
    have hr7 := hr6.ext e7
    have hb7 := hb6.ext e7
    have hE7 := hE6.trans e7
    have hv7 := hv6.ext e7
    have hz7 := e7.size
    (repeat (first | (apply WL.pure; rfl; rfl; rfl) | (apply WL.nil) | (apply EX.thenN) | (apply CW.seq) | (apply CW.region)))
    refine CW.cond rfl (fun h2 => ?_) (fun h2 => ?_)
    · have h2 : (chkF (dwyF pt) 1 0).1 ≠ 0 := by simpa using h2
      rw [if_pos h2]
      (repeat (first | (apply CW.seq) | (apply CW.region)))
      refine WL.build (parts := []) rfl rfl rfl rfl ?_
      (repeat (apply WL.pure; rfl; rfl; rfl))
      refine WL.st rfl rfl rfl hr7 rfl rfl (ones_of rfl) (fun w8 hr8 hg8 => ?_)
      (repeat (first | (apply WL.pure; rfl; rfl; rfl) | (apply WL.nil) | (apply EX.thenN) | (apply CW.ret) | (apply EX.thenR)))
      exact EX.retC2 rfl rfl rfl hr8 rfl ⟨_, rfl, Rd.mkLtl (kids := []) (Sl.zero _ _), hE7.grown hg8 hE7.size (fun g hg => by cases hg; omega)⟩
    · have h2 : (chkF (dwyF pt) 1 0).1 = 0 := by simpa using h2
      rw [if_neg (by simp [h2])]
      (repeat (first | (apply EX.thenN) | (apply CW.seq) | (apply CW.region) | (apply WL.ldA; rfl; rfl; rfl; assumption; rfl) | (apply CW.skip)))
      refine WL.st rfl rfl rfl hr7 rfl rfl (ones_of rfl) (fun w8 hr8 hg8 => ?_)
      (repeat (first | (apply WL.pure; rfl; rfl; rfl) | (apply WL.nil) | (apply EX.thenN) | (apply CW.ret)))
      exact EX.retC2 rfl rfl rfl hr8 rfl ⟨_, rfl, (hv7.st hg8 (by omega)).old, hE7.grown hg8 hE7.size (fun g hg => by cases hg; omega)⟩
end Go.Proofs.Ythojdcbpglipeaa
