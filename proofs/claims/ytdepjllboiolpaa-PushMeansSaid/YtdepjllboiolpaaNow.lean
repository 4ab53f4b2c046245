/-
  watchkeep.now: walked.
-/
import Derived.Test.YtdepjllboiolpaaLasso4
set_option linter.unusedVariables false
set_option linter.unusedSimpArgs false
namespace Go.Proofs.Ytdepjllboiolpaa
open Go.RowKit

theorem start_now : truthL [1] [2] (.mk 10 0 [.mk 3 1 []]) = (true, true) := by
  have hc : (chkF (.mk 10 0 [.mk 3 1 []]) 1 0) = (0, 2) := by simp [chkF, chkFL, kidsK]
  have hw : chkW [1] [2] = 0 := by decide
  have hh : holdsL [1] [2] (.mk 10 0 [.mk 3 1 []]) = [true, true] := by
    simp only [holdsL, holdsLs]
    decide
  unfold truthL holdsE
  rw [hc, hw, hh]
  simp
theorem Sl.none {α : Type} [Rep α] (w : World) (F : Nat → Prop) : Sl w F none 0 ([] : List α) := ⟨by simp, by simp [maxLen], fun _ => rfl, fun i hi => absurd hi (by simp)⟩
theorem now_ok (w : World) : Rt Try.prog 9 [].toArray w fun v w' => v = .bool true ∧ Ext w w' := by
  refine Rt.enter0 Try.func9 Try.ntmps9 rfl ?_
  (repeat (first | (apply WL.add; rfl; rfl; rfl; rfl; omega; omega) | (apply QL.add; rfl; rfl; rfl; rfl; omega; omega) | (apply WL.sub'; rfl; rfl; rfl; rfl; omega; omega) | (apply QL.sub'; rfl; rfl; rfl; rfl; omega; omega) | (apply WL.mul; rfl; rfl; rfl; rfl; omega; omega) | (apply QL.mul; rfl; rfl; rfl; rfl; omega; omega) | (apply WL.pure; rfl; rfl; rfl) | (apply QL.pure; rfl; rfl; rfl) | (apply WL.nil) | (apply EX.thenN) | (apply CW.seq) | (apply CW.region) | (apply WL.pass; rfl; rfl) | (apply QL.pass; rfl; rfl) | (apply WL.eqB; rfl; rfl; rfl; rfl) | (apply QL.eqB; rfl; rfl; rfl; rfl) | (apply WL.neB; rfl; rfl; rfl; rfl) | (apply QL.neB; rfl; rfl; rfl; rfl) | (apply WL.lenS; rfl; rfl; rfl) | (apply QL.lenS; rfl; rfl; rfl) | (apply WL.makeFunc; rfl; rfl; rfl; rfl) | (apply QL.makeFunc; rfl; rfl; rfl; rfl) | (apply WL.fa; rfl; rfl; rfl) | (apply QL.fa; rfl; rfl; rfl) | (apply WL.nck; rfl; rfl; rfl) | (apply QL.nck; rfl; rfl; rfl) | (apply WL.ld; rfl; rfl; rfl; assumption; rfl) | (apply QL.ld; rfl; rfl; rfl; assumption; rfl) | (apply WL.ldA; rfl; rfl; rfl; assumption; rfl) | (apply QL.ldA; rfl; rfl; rfl; assumption; rfl) | (apply CW.block) | (apply EX.inN) | (apply CW.condT; rfl) | (apply CW.condF; rfl) | (apply CW.exit) | (apply EX.thenX) | (apply EX.inX) | (apply EX.inXne; rfl) | (apply CW.ret) | (apply EX.thenR) | (apply EX.inR) | (apply CW.skip) | (refine WL.lenO rfl rfl rfl (by assumption) ?_) | (apply WL.isNil; rfl; rfl; rfl) | (apply CW.draw; exact mixed; kernel_rfl)))
  refine WL.call rfl rfl rfl (mk_atom w 1) ?_
  rintro v w1 ⟨hr1, hE1⟩
  refine WL.call rfl rfl rfl (mk_one w1 10 hr1) ?_
  rintro v2 w2 ⟨hr2, hE2⟩
  refine WL.litR [(1 : Nat)] rfl rfl rfl rfl rfl (.cons ⟨_, rfl, rd_mkU64 _ _ 1 (by decide)⟩ .nil) (by decide) (fun v3 w3 hE3 r3 _ => ?_)
  refine WL.litR [(2 : Nat)] rfl rfl rfl rfl rfl (.cons ⟨_, rfl, rd_mkU64 _ _ 2 (by decide)⟩ .nil) (by decide) (fun v4 w4 hE4 r4 _ => ?_)
  obtain ⟨o3, c3, rfl, s3⟩ := r3.sl
  obtain ⟨o4, c4, rfl, s4⟩ := r4.sl
  refine WL.build rfl rfl rfl rfl ?_
  obtain ⟨ao, cap, rfl, hk⟩ := Rd.ltl ((hr2.ext hE3).ext hE4)
  refine WL.call rfl rfl rfl (truth_ok w4 (t := .mk 10 0 [.mk 3 1 []]) hk (s3.up hE4) s4 (fun _ h => h)) ?_
  rintro v w5 ⟨rfl, hE5⟩
  rw [start_now]
  (repeat (first | (apply WL.add; rfl; rfl; rfl; rfl; omega; omega) | (apply QL.add; rfl; rfl; rfl; rfl; omega; omega) | (apply WL.sub'; rfl; rfl; rfl; rfl; omega; omega) | (apply QL.sub'; rfl; rfl; rfl; rfl; omega; omega) | (apply WL.mul; rfl; rfl; rfl; rfl; omega; omega) | (apply QL.mul; rfl; rfl; rfl; rfl; omega; omega) | (apply WL.pure; rfl; rfl; rfl) | (apply QL.pure; rfl; rfl; rfl) | (apply WL.nil) | (apply EX.thenN) | (apply CW.seq) | (apply CW.region) | (apply WL.pass; rfl; rfl) | (apply QL.pass; rfl; rfl) | (apply WL.eqB; rfl; rfl; rfl; rfl) | (apply QL.eqB; rfl; rfl; rfl; rfl) | (apply WL.neB; rfl; rfl; rfl; rfl) | (apply QL.neB; rfl; rfl; rfl; rfl) | (apply WL.lenS; rfl; rfl; rfl) | (apply QL.lenS; rfl; rfl; rfl) | (apply WL.makeFunc; rfl; rfl; rfl; rfl) | (apply QL.makeFunc; rfl; rfl; rfl; rfl) | (apply WL.fa; rfl; rfl; rfl) | (apply QL.fa; rfl; rfl; rfl) | (apply WL.nck; rfl; rfl; rfl) | (apply QL.nck; rfl; rfl; rfl) | (apply WL.ld; rfl; rfl; rfl; assumption; rfl) | (apply QL.ld; rfl; rfl; rfl; assumption; rfl) | (apply WL.ldA; rfl; rfl; rfl; assumption; rfl) | (apply QL.ldA; rfl; rfl; rfl; assumption; rfl) | (apply CW.block) | (apply EX.inN) | (apply CW.condT; rfl) | (apply CW.condF; rfl) | (apply CW.exit) | (apply EX.thenX) | (apply EX.inX) | (apply EX.inXne; rfl) | (apply CW.ret) | (apply EX.thenR) | (apply EX.inR) | (apply CW.skip) | (refine WL.lenO rfl rfl rfl (by assumption) ?_) | (apply WL.isNil; rfl; rfl; rfl) | (apply CW.draw; exact mixed; kernel_rfl)))
  exact EX.ret1 rfl rfl ⟨rfl, (((hE1.trans hE2).trans hE3).trans hE4).trans hE5⟩
end Go.Proofs.Ytdepjllboiolpaa
