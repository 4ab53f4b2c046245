/-
  DwyerHolds walked.
-/
import Derived.Test.YthojdcbpglipeaaDwMake
import Derived.Test.YthojdcbpglipeaaTruth
set_option linter.unusedVariables false
set_option linter.unusedSimpArgs false
namespace Go.Proofs.Ythojdcbpglipeaa
open Go.RowKit

theorem start_dw : meansL (3, 1, 0, 0, 0, 0, 0) [] [0, 1] = (true, 0) := by decide +kernel
set_option maxRecDepth 100000 in
theorem dwyerHolds_ok (w : World) {so lo : Option Addr} {sc lc : Nat} {s l : List Nat} (hs : Sl w (Old w) so sc s) (hl : Sl w (Old w) lo lc l) (pt : LPat) :
    Rt Try.prog 5 [patV pt, wordV so sc lo lc s l].toArray w fun v w' => v = .bool true ∧ Ext w w' := by
  refine Rt.enter2 Try.func5 Try.ntmps5 rfl rfl ?_
  (repeat (first | (apply CW.seq) | (apply CW.region)))
  refine WL.boxB rfl rfl rfl fun w1 ht hE1 => ?_
  refine WL.boxB rfl rfl rfl fun w2 hw hE2 => ?_
  have ht := ht.ext hE2
  have hE2 := hE1.trans hE2
  (repeat (first | (apply WL.pure; rfl; rfl; rfl) | (apply WL.nil) | (apply EX.thenN) | (apply CW.seq) | (apply CW.region)))
  refine WL.build rfl rfl rfl rfl ?_
  refine WL.lit (F := Non) (ys := [(0 : Nat), 1]) rfl rfl rfl rfl rfl ⟨⟨_, rfl, rd_mkU64 _ _ 0 (by decide)⟩, ⟨_, rfl, rd_mkU64 _ _ 1 (by decide)⟩, trivial⟩ (by decide) (fun _ h => h.elim) (fun w3 ho hgr => ?_)
  have e3 : Ext w2 w3 := (Ext.refl _).grown hgr (Nat.le_refl _) (fun k h => by cases h)
  obtain ⟨ao, cap, he, ho⟩ := ho.slF (F' := Old w3) (fun _ h => h.elim) (fun g hg => (ho.lt g hg).2.1)
  obtain ⟨rfl, _, rfl⟩ := Value.slice.inj he
  have ht := ht.ext e3
  have hw := hw.ext e3
  have hE3 := hE2.trans e3
  refine WL.build rfl rfl rfl rfl ?_
  refine WL.call rfl rfl rfl (means_ok w3 (Sl.zero w3 (Old w3)) ho (fun _ h => h) (3, 1, 0, 0, 0, 0, 0)) ?_
  rintro v w4 ⟨rfl, e4⟩
  rw [start_dw]
  have ht := ht.ext e4
  have hw := hw.ext e4
  have hE4 := hE3.trans e4
  (repeat (first | (apply WL.pure; rfl; rfl; rfl) | (apply WL.nil) | (apply EX.thenN) | (apply CW.seq) | (apply CW.region) | (apply WL.ldA; rfl; rfl; rfl; assumption; rfl) | (apply CW.condF; rfl) | (apply CW.skip)))
  refine WL.call rfl rfl rfl (means_ok w4 (hs.at hE4) (hl.at hE4) (fun _ h => Nat.lt_of_lt_of_le h hE4.size) pt) ?_
  rintro v w5 ⟨rfl, e5⟩
  have ht := ht.ext e5
  have hw := hw.ext e5
  have hE5 := hE4.trans e5
  (repeat (first | (apply WL.pure; rfl; rfl; rfl) | (apply WL.nil) | (apply EX.thenN) | (apply CW.seq) | (apply CW.region) | (apply WL.ldA; rfl; rfl; rfl; assumption; rfl)))
  refine WL.call rfl rfl rfl (dwMake_ok w5 pt) ?_
  rintro _ w6 ⟨x, rfl, hx, e6⟩
  have ht := ht.ext e6
  have hw := hw.ext e6
  have hE6 := hE5.trans e6
  obtain ⟨xo, xc, rfl, hkx⟩ := Rd.ltl hx
  (repeat (apply WL.pure; rfl; rfl; rfl))
  refine WL.alloc rfl rfl (fun w7 hb7 e7 => ?_)
  refine WL.st rfl rfl rfl hb7 rfl rfl (ones_of rfl) (fun w8 hb8 hg8 => ?_)
  have e8 : Ext w6 w8 := e7.grown hg8 e7.size (fun g hg => by cases hg; exact Nat.le_refl _)
  have hw := hw.ext e8
  have hE8 := hE6.trans e8
  have hkx := hkx.up e8
  clear hb7 hg8 e7
  by_cases he : (meansL pt s l).2 = 0
  · by_cases hg : (dwMakeE pt).2 = 0
    · obtain ⟨hT, hW⟩ := meansL_ok he
      have hm : dwMakeE pt = (dwyF pt, 0) := by
        unfold dwMakeE at hg ⊢
        rw [if_neg (by simp [hT])] at hg ⊢
        split at hg
        · rename_i h2; exact absurd hg h2
        · rename_i h2; rw [if_neg h2]
      have hF : (chkF (dwyF pt) 1 0).1 = 0 := by
        unfold dwMakeE at hm
        rw [if_neg (by simp [hT])] at hm
        by_cases h2 : (chkF (dwyF pt) 1 0).1 = 0
        · exact h2
        · rw [if_pos h2] at hm; exact absurd (congrArg Prod.snd hm) h2
      have hmean := dwyer_means hT hW
      obtain ⟨y, hy1, hy2⟩ := truthL_sem hW hF
      have hyx : y = (meansL pt s l).1 := by rw [Bool.eq_iff_iff, hy2, hmean]
      clear hmean hy2
      rw [hm] at hkx hb8 ⊢
      generalize dwyF pt = u at *
      dsimp only at hkx hb8 ⊢
      rw [he]
      (repeat (first | (apply WL.pure; rfl; rfl; rfl) | (apply WL.nil) | (apply EX.thenN) | (apply CW.seq) | (apply CW.region) | (apply WL.ldA; rfl; rfl; rfl; assumption; rfl) | (apply CW.condF; rfl) | (apply CW.skip)))
      refine WL.call rfl rfl rfl (truth_ok w8 hkx (hs.up hE8) (hl.up hE8) (fun _ h => h)) ?_
      rw [hy1]
      rintro _ w9 ⟨rfl, e9⟩
      (repeat (first | (apply WL.pure; rfl; rfl; rfl) | (apply WL.nil) | (apply EX.thenN) | (apply CW.seq) | (apply CW.region) | (apply WL.eqB; rfl; rfl; rfl; rfl) | (apply CW.ret)))
      refine EX.ret1 rfl rfl ⟨?_, hE8.trans e9⟩
      rw [hyx]; simp
    · rw [he]
      have hg' : ((dwMakeE pt).2 != 0) = true := by simpa using hg
      (repeat (first | (apply WL.pure; rfl; rfl; rfl) | (apply WL.nil) | (apply EX.thenN) | (apply CW.seq) | (apply CW.region)))
      rw [hg']
      (repeat (first | (apply WL.pure; rfl; rfl; rfl) | (apply WL.nil) | (apply EX.thenN) | (apply CW.seq) | (apply CW.region) | (apply WL.pass; rfl; rfl) | (apply CW.condT; rfl) | (apply CW.ret) | (apply EX.thenR)))
      exact EX.ret1 rfl rfl ⟨rfl, hE8⟩
  · have he' : ((meansL pt s l).2 != 0) = true := by simpa using he
    have he2 : ((meansL pt s l).2 == 0) = false := by simpa using he
    (repeat (first | (apply WL.pure; rfl; rfl; rfl) | (apply WL.nil) | (apply EX.thenN) | (apply CW.seq) | (apply CW.region)))
    rw [he']
    (repeat (first | (apply WL.pure; rfl; rfl; rfl) | (apply WL.nil) | (apply EX.thenN) | (apply CW.seq) | (apply CW.region) | (apply WL.pass; rfl; rfl) | (apply CW.condT; rfl)))
    rw [he2]
    (repeat (first | (apply WL.pure; rfl; rfl; rfl) | (apply WL.nil) | (apply EX.thenN) | (apply CW.ret) | (apply EX.thenR)))
    rw [meansL_err he]
    exact EX.ret1 rfl rfl ⟨rfl, hE8⟩
end Go.Proofs.Ythojdcbpglipeaa
