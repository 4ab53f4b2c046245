import Derived.Test.YtllpfgcngokhnaaGreatPtLabelWords7
/-
  Formulas of all ways: how they lie in memory (as those of one way do), their check.
-/
set_option linter.unusedVariables false
set_option linter.unusedSimpArgs false
namespace Go.Proofs.YtllpfgcngokhnaaGreat
open Go.RowKit

instance iCtl2 : IsT Tryz.prog 30 Ltl := IsT.of (by kernel_rfl) Tryz.underlying30 rfl
instance iCtl3 : IsS Tryz.prog 28 30 := ⟨Tryz.underlying28⟩
instance iCtl4 : IsT Tryz.prog 28 (List Ltl) := IsT.of (by kernel_rfl) Tryz.underlying28 rfl
instance iCtl5 : IsZ Tryz.prog 30 (Ltl.mk 0 0 []) 40 := IsZ.of (z := .agg #[.int .i64 0, .int .i64 0, .slice none 0 0]) (by kernel_rfl) (fun _ _ => RdT.of (kids := []) ⟨by simp, by simp [maxLen], fun _ => rfl, fun i hi => absurd hi (by simp)⟩)
instance iCtl6 : IsC Tryz.prog 30 3 true := IsC.of (by kernel_rfl) Tryz.underlying30 rfl
instance iCtl7 : IsC Tryz.prog 28 1 false := IsC.of (by kernel_rfl) Tryz.underlying28 rfl
instance iCtl8 : IsZC Tryz.prog 28 [.slice none 0 0] := IsZC.of (z := .slice none 0 0) (by kernel_rfl) rfl
instance iCtl9 : IsFd Tryz.prog 30 0 0 := IsFd.of (by kernel_rfl)
instance iCtl10 : IsFd Tryz.prog 30 1 1 := IsFd.of (by kernel_rfl)
instance iCtl11 : IsFd Tryz.prog 30 2 2 := IsFd.of (by kernel_rfl)
instance iCtl12 : IsZC Tryz.prog 30 [.int .i64 0, .int .i64 0, .slice none 0 0] := IsZC.of (z := .agg #[.int .i64 0, .int .i64 0, .slice none 0 0]) (by kernel_rfl) rfl
instance iCtl13 : IsBd Tryz.prog 30 [(0, 1), (1, 1), (2, 1)] := IsBd.of (by kernel_rfl)
def kidsC (k : Int) : Int := if k = 1 ∨ k = 2 ∨ k = 3 then 0 else if k = 4 ∨ k = 7 ∨ k = 8 ∨ k = 9 ∨ k = 11 ∨ k = 12 ∨ k = 13 then 1 else if k = 5 ∨ k = 6 ∨ k = 10 ∨ k = 14 then 2 else -1
theorem ckids_ok (w : World) (k : Int) : Rt Tryz.prog 113 [.int .i64 k].toArray w fun v w' => v = .int .i64 (kidsC k) ∧ w = w' := by
  refine Rt.enter1 Tryz.func113 Tryz.ntmps113 rfl rfl ?_
  unfold kidsC
  (repeat (first | (apply WL.pure; rfl; rfl; rfl) | (apply WL.nil) | (apply EX.thenN) | (apply CW.seq) | (apply CW.region) | (apply CW.block)))
  refine CW.cond rfl (fun h => ?_) (fun h => ?_) <;> simp at h
  · subst h; (repeat (first | (apply WL.pure; rfl; rfl; rfl) | (apply WL.nil) | (apply EX.thenN) | (apply CW.seq) | (apply CW.region) | (apply CW.condT; rfl) | (apply CW.ret) | (apply EX.thenR) | (apply EX.inR) | (apply CW.skip)))
    exact EX.ret1 rfl rfl ⟨rfl, rfl⟩
  (repeat (first | (apply WL.pure; rfl; rfl; rfl) | (apply WL.nil) | (apply EX.thenN) | (apply CW.seq) | (apply CW.region)))
  refine CW.cond rfl (fun h => ?_) (fun h => ?_) <;> simp at h
  · subst h; (repeat (first | (apply WL.pure; rfl; rfl; rfl) | (apply WL.nil) | (apply EX.thenN) | (apply CW.seq) | (apply CW.region) | (apply CW.condT; rfl) | (apply CW.ret) | (apply EX.thenR) | (apply EX.inR) | (apply CW.skip)))
    exact EX.ret1 rfl rfl ⟨rfl, rfl⟩
  (repeat (first | (apply WL.pure; rfl; rfl; rfl) | (apply WL.nil) | (apply EX.thenN) | (apply CW.region)))
  refine CW.cond rfl (fun h => ?_) (fun h => ?_) <;> simp at h
  · subst h; (repeat (first | (apply WL.pure; rfl; rfl; rfl) | (apply WL.nil) | (apply EX.thenN) | (apply CW.seq) | (apply CW.region) | (apply CW.ret) | (apply EX.thenR) | (apply EX.inR)))
    exact EX.ret1 rfl rfl ⟨rfl, rfl⟩
  rw [if_neg (by omega)]
  (repeat (first | (apply WL.pure; rfl; rfl; rfl) | (apply WL.nil) | (apply EX.thenN) | (apply CW.seq) | (apply CW.region)))
  refine CW.cond rfl (fun h => ?_) (fun h => ?_) <;> simp at h
  · subst h; (repeat (first | (apply WL.pure; rfl; rfl; rfl) | (apply WL.nil) | (apply EX.thenN) | (apply CW.seq) | (apply CW.region) | (apply CW.condT; rfl) | (apply CW.ret) | (apply EX.thenR) | (apply EX.inR) | (apply CW.skip)))
    exact EX.ret1 rfl rfl ⟨rfl, rfl⟩
  (repeat (first | (apply WL.pure; rfl; rfl; rfl) | (apply WL.nil) | (apply EX.thenN) | (apply CW.seq) | (apply CW.region)))
  refine CW.cond rfl (fun h => ?_) (fun h => ?_) <;> simp at h
  · subst h; (repeat (first | (apply WL.pure; rfl; rfl; rfl) | (apply WL.nil) | (apply EX.thenN) | (apply CW.seq) | (apply CW.region) | (apply CW.condT; rfl) | (apply CW.ret) | (apply EX.thenR) | (apply EX.inR) | (apply CW.skip)))
    exact EX.ret1 rfl rfl ⟨rfl, rfl⟩
  (repeat (first | (apply WL.pure; rfl; rfl; rfl) | (apply WL.nil) | (apply EX.thenN) | (apply CW.seq) | (apply CW.region)))
  refine CW.cond rfl (fun h => ?_) (fun h => ?_) <;> simp at h
  · subst h; (repeat (first | (apply WL.pure; rfl; rfl; rfl) | (apply WL.nil) | (apply EX.thenN) | (apply CW.seq) | (apply CW.region) | (apply CW.condT; rfl) | (apply CW.ret) | (apply EX.thenR) | (apply EX.inR) | (apply CW.skip)))
    exact EX.ret1 rfl rfl ⟨rfl, rfl⟩
  (repeat (first | (apply WL.pure; rfl; rfl; rfl) | (apply WL.nil) | (apply EX.thenN) | (apply CW.seq) | (apply CW.region)))
  refine CW.cond rfl (fun h => ?_) (fun h => ?_) <;> simp at h
  · subst h; (repeat (first | (apply WL.pure; rfl; rfl; rfl) | (apply WL.nil) | (apply EX.thenN) | (apply CW.seq) | (apply CW.region) | (apply CW.condT; rfl) | (apply CW.ret) | (apply EX.thenR) | (apply EX.inR) | (apply CW.skip)))
    exact EX.ret1 rfl rfl ⟨rfl, rfl⟩
  (repeat (first | (apply WL.pure; rfl; rfl; rfl) | (apply WL.nil) | (apply EX.thenN) | (apply CW.seq) | (apply CW.region)))
  refine CW.cond rfl (fun h => ?_) (fun h => ?_) <;> simp at h
  · subst h; (repeat (first | (apply WL.pure; rfl; rfl; rfl) | (apply WL.nil) | (apply EX.thenN) | (apply CW.seq) | (apply CW.region) | (apply CW.condT; rfl) | (apply CW.ret) | (apply EX.thenR) | (apply EX.inR) | (apply CW.skip)))
    exact EX.ret1 rfl rfl ⟨rfl, rfl⟩
  (repeat (first | (apply WL.pure; rfl; rfl; rfl) | (apply WL.nil) | (apply EX.thenN) | (apply CW.seq) | (apply CW.region)))
  refine CW.cond rfl (fun h => ?_) (fun h => ?_) <;> simp at h
  · subst h; (repeat (first | (apply WL.pure; rfl; rfl; rfl) | (apply WL.nil) | (apply EX.thenN) | (apply CW.seq) | (apply CW.region) | (apply CW.condT; rfl) | (apply CW.ret) | (apply EX.thenR) | (apply EX.inR) | (apply CW.skip)))
    exact EX.ret1 rfl rfl ⟨rfl, rfl⟩
  (repeat (first | (apply WL.pure; rfl; rfl; rfl) | (apply WL.nil) | (apply EX.thenN) | (apply CW.region)))
  refine CW.cond rfl (fun h => ?_) (fun h => ?_) <;> simp at h
  · subst h; (repeat (first | (apply WL.pure; rfl; rfl; rfl) | (apply WL.nil) | (apply EX.thenN) | (apply CW.seq) | (apply CW.region) | (apply CW.ret) | (apply EX.thenR) | (apply EX.inR)))
    exact EX.ret1 rfl rfl ⟨rfl, rfl⟩
  rw [if_neg (by omega)]
  (repeat (first | (apply WL.pure; rfl; rfl; rfl) | (apply WL.nil) | (apply EX.thenN) | (apply CW.seq) | (apply CW.region)))
  refine CW.cond rfl (fun h => ?_) (fun h => ?_) <;> simp at h
  · subst h; (repeat (first | (apply WL.pure; rfl; rfl; rfl) | (apply WL.nil) | (apply EX.thenN) | (apply CW.seq) | (apply CW.region) | (apply CW.condT; rfl) | (apply CW.ret) | (apply EX.thenR) | (apply EX.inR) | (apply CW.skip)))
    exact EX.ret1 rfl rfl ⟨rfl, rfl⟩
  (repeat (first | (apply WL.pure; rfl; rfl; rfl) | (apply WL.nil) | (apply EX.thenN) | (apply CW.seq) | (apply CW.region)))
  refine CW.cond rfl (fun h => ?_) (fun h => ?_) <;> simp at h
  · subst h; (repeat (first | (apply WL.pure; rfl; rfl; rfl) | (apply WL.nil) | (apply EX.thenN) | (apply CW.seq) | (apply CW.region) | (apply CW.condT; rfl) | (apply CW.ret) | (apply EX.thenR) | (apply EX.inR) | (apply CW.skip)))
    exact EX.ret1 rfl rfl ⟨rfl, rfl⟩
  (repeat (first | (apply WL.pure; rfl; rfl; rfl) | (apply WL.nil) | (apply EX.thenN) | (apply CW.seq) | (apply CW.region)))
  refine CW.cond rfl (fun h => ?_) (fun h => ?_) <;> simp at h
  · subst h; (repeat (first | (apply WL.pure; rfl; rfl; rfl) | (apply WL.nil) | (apply EX.thenN) | (apply CW.seq) | (apply CW.region) | (apply CW.condT; rfl) | (apply CW.ret) | (apply EX.thenR) | (apply EX.inR) | (apply CW.skip)))
    exact EX.ret1 rfl rfl ⟨rfl, rfl⟩
  (repeat (first | (apply WL.pure; rfl; rfl; rfl) | (apply WL.nil) | (apply EX.thenN) | (apply CW.region)))
  refine CW.cond rfl (fun h => ?_) (fun h => ?_) <;> simp at h
  · subst h; (repeat (first | (apply WL.pure; rfl; rfl; rfl) | (apply WL.nil) | (apply EX.thenN) | (apply CW.seq) | (apply CW.region) | (apply CW.ret) | (apply EX.thenR) | (apply EX.inR)))
    exact EX.ret1 rfl rfl ⟨rfl, rfl⟩
  rw [if_neg (by omega)]
  (repeat (first | (apply WL.pure; rfl; rfl; rfl) | (apply WL.nil) | (apply EX.thenN) | (apply CW.seq) | (apply CW.region) | (apply EX.inN) | (apply CW.ret) | (apply CW.skip)))
  exact EX.ret1 rfl rfl ⟨rfl, rfl⟩
mutual
def chkC : Ltl → Int → Int → Int × Int
  | .mk k n kids, deep, c => if c + 1 > 60 then (2, c + 1) else if deep > 20 then (5, c + 1) else if kidsC k ≠ kids.length ∨ n < 0 ∨ n > 63 ∨ (k ≠ 3 ∧ n ≠ 0) then (1, c + 1) else chkCL kids (deep + 1) (c + 1)
def chkCL : List Ltl → Int → Int → Int × Int
  | [], _, c => (0, c)
  | x :: r, deep, c => if (chkC x deep c).1 ≠ 0 then chkC x deep c else chkCL r deep (chkC x deep c).2
end
mutual
theorem chkC_le : ∀ (t : Ltl) (deep c : Int), (chkC t deep c).1 = 0 → c < (chkC t deep c).2 ∧ (chkC t deep c).2 ≤ 60
  | .mk k n kids, deep, c, h => by
    simp only [chkC] at h ⊢
    split at h
    · cases h
    · rename_i h1
      rw [if_neg h1]
      split at h
      · cases h
      · rename_i h2
        rw [if_neg h2]
        split at h
        · cases h
        · rename_i h3
          rw [if_neg h3]
          have := chkCL_le kids (deep + 1) (c + 1) (by omega) h
          omega
theorem chkCL_le : ∀ (l : List Ltl) (deep c : Int), c ≤ 60 → (chkCL l deep c).1 = 0 → c ≤ (chkCL l deep c).2 ∧ (chkCL l deep c).2 ≤ 60
  | [], deep, c, hc, h => by simp only [chkCL]; omega
  | x :: r, deep, c, hc, h => by
    simp only [chkCL] at h ⊢
    split at h
    · rename_i h1; exact absurd h h1
    · rename_i h1
      rw [if_neg h1]
      have h2 := chkC_le x deep c (by simpa using h1)
      have h3 := chkCL_le r deep _ h2.2 h
      omega
end
theorem ccheck_ok : ∀ (m : Nat) (t : Ltl), t.nodes ≤ m → ∀ (w : World) (F : Nat → Prop) (deep c : Int) (bn : Nat) (ao : Option Addr) (cap : Nat), Sl w F ao cap t.kids → (∀ b, F b → b < w.heap.size) → ¬ F bn →
    Blk w bn 3 [.int .i64 c] → 0 ≤ c → c ≤ 60 → 0 ≤ deep → deep ≤ 1000 →
    Rt Tryz.prog 85 [ltlV t.k t.n ao t.kids.length cap, .int .i64 deep, .pointer (some ⟨bn, 0, none⟩)].toArray w fun v w' => v = .int .i64 (chkC t deep c).1 ∧ Blk w' bn 3 [.int .i64 (chkC t deep c).2] ∧ w.grownBy w' (some bn)
  | 0, t, hm => by have := t.nodes_pos; omega
  | m + 1, .mk k n kids, hm => by
    intro w F deep c bn ao cap hs hF hn hb hc0 hc1 hd0 hd1
    simp only [Ltl.kids, Ltl.k, Ltl.n] at *
    refine Rt.enter3 Tryz.func85 Tryz.ntmps85 rfl rfl ?_
    have hlen := hs.len63
    have hbn := hb.lt
    (repeat (first | (apply CW.seq) | (apply CW.region)))
    refine WL.boxB rfl rfl rfl fun w1 hf hE1 => ?_
    have hb1 := hb.ext hE1
    have hg1 := hE1.grw (some bn)
    (repeat (first | (apply WL.add; rfl; rfl; rfl; rfl; omega; omega) | (apply WL.pure; rfl; rfl; rfl) | (apply WL.nil) | (apply EX.thenN) | (apply CW.seq) | (apply CW.region) | (apply WL.nck; rfl; rfl; rfl) | (apply WL.ld; rfl; rfl; rfl; assumption; rfl)))
    refine WL.st rfl rfl rfl hb1 rfl rfl (ones_of rfl) (fun w2 hb2 hgr => ?_)
    have hf2 := hf.kept hgr (by simp; omega)
    have hg2 := grown_tr hg1 hgr
    simp only [chkC]
    (repeat (first | (apply WL.pure; rfl; rfl; rfl) | (apply WL.nil) | (apply EX.thenN) | (apply CW.seq) | (apply CW.region) | (apply WL.nck; rfl; rfl; rfl) | (apply WL.ld; rfl; rfl; rfl; assumption; rfl) | (apply CW.block)))
    refine CW.cond rfl (fun h => ?_) (fun h => ?_) <;> simp only [decide_eq_true_eq, decide_eq_false_iff_not, gt_iff_lt] at h
    · (repeat (first | (apply WL.pure; rfl; rfl; rfl) | (apply WL.nil) | (apply EX.thenN) | (apply CW.seq) | (apply CW.region) | (apply CW.ret) | (apply EX.thenR) | (apply EX.inR)))
      refine EX.ret1 rfl rfl ?_
      rw [if_pos h]
      exact ⟨rfl, hb2, hg2⟩
    rw [if_neg (by omega)]
    (repeat (first | (apply WL.pure; rfl; rfl; rfl) | (apply WL.nil) | (apply EX.thenN) | (apply CW.seq) | (apply CW.region)))
    refine CW.cond rfl (fun h1 => ?_) (fun h1 => ?_) <;> simp only [decide_eq_true_eq, decide_eq_false_iff_not, gt_iff_lt] at h1
    · (repeat (first | (apply WL.pure; rfl; rfl; rfl) | (apply WL.nil) | (apply EX.thenN) | (apply CW.seq) | (apply CW.region) | (apply CW.ret) | (apply EX.thenR) | (apply EX.inR)))
      refine EX.ret1 rfl rfl ?_
      rw [if_pos h1]
      exact ⟨rfl, hb2, hg2⟩
    rw [if_neg (by omega)]
    refine CW.cutE [(1, .int .i64 deep), (2, .pointer (some ⟨bn, 0, none⟩)), (3, .pointer (some ⟨w.heap.size, 0, none⟩)), (23, .bool (decide (kidsC k ≠ kids.length ∨ n < 0 ∨ n > 63 ∨ (k ≠ 3 ∧ n ≠ 0))))] ?_ ?_
    · (repeat (first | (apply CW.seq) | (apply QL.fa; rfl; rfl; rfl) | (apply QL.ld; rfl; rfl; rfl; assumption; rfl) | (apply CW.draw; exact mixed; kernel_rfl)))
      refine QL.call rfl rfl rfl (fun w' h => Rt.mono (ckids_ok w' k) (fun v w'' hv => ⟨hv.1, hv.2 ▸ Ext.refl _⟩)) ?_
      (repeat (first | (apply QL.pure; rfl; rfl; rfl) | (apply QL.lenS; rfl; rfl; rfl) | (apply QL.fa; rfl; rfl; rfl) | (apply QL.ld; rfl; rfl; rfl; assumption; rfl)))
      refine QL.nil fun w3 hE3 => ?_
      have hf3 := hf2.ext hE3
      (repeat (apply EX.thenN))
      refine CW.cond rfl (fun h2 => ?_) (fun h2 => ?_) <;> simp at h2
      · (repeat (apply CW.skip))
        refine EX.cutE ⟨rfl, rfl, rfl, ?_, trivial⟩ hE3
        refine congrArg (fun b => some (Value.bool b)) ?_
        have : (kidsC k != (kids.length : Int)) = true := by simpa using h2
        rw [this, decide_eq_true (.inl h2)]
      · (repeat (first | (apply WL.pure; rfl; rfl; rfl) | (apply CW.seq) | (apply CW.region) | (apply WL.fa; rfl; rfl; rfl) | (apply WL.ld; rfl; rfl; rfl; assumption; rfl)))
        (refine WL.lookG rfl rfl (fun h => ?_) (fun h => ?_)) <;> simp at h
        · (repeat (first | (apply WL.pure; rfl; rfl; rfl) | (apply WL.nil) | (apply EX.thenN) | (apply WL.pass; rfl; rfl) | (apply CW.condT; rfl) | (apply CW.skip)))
          refine EX.cutE ⟨rfl, rfl, rfl, ?_, trivial⟩ hE3
          refine congrArg (fun b => some (Value.bool b)) ?_
          rw [decide_eq_true (.inr (.inl h))]
        · (repeat (first | (apply WL.pure; rfl; rfl; rfl) | (apply WL.nil) | (apply EX.thenN) | (apply WL.fa; rfl; rfl; rfl) | (apply WL.ld; rfl; rfl; rfl; assumption; rfl)))
          refine CW.cond rfl (fun h3 => ?_) (fun h3 => ?_) <;> simp at h3
          · (repeat (apply CW.skip))
            refine EX.cutE ⟨rfl, rfl, rfl, ?_, trivial⟩ hE3
            refine congrArg (fun b => some (Value.bool b)) ?_
            rw [decide_eq_true h3, decide_eq_true (.inr (.inr (.inl h3)))]
          · (repeat (first | (apply WL.pure; rfl; rfl; rfl) | (apply CW.region) | (apply WL.fa; rfl; rfl; rfl) | (apply WL.ld; rfl; rfl; rfl; assumption; rfl)))
            (refine WL.lookG rfl rfl (fun h => ?_) (fun h => ?_)) <;> simp at h
            · (repeat (first | (apply WL.pure; rfl; rfl; rfl) | (apply WL.nil) | (apply WL.fa; rfl; rfl; rfl) | (apply WL.ld; rfl; rfl; rfl; assumption; rfl)))
              refine EX.cutE ⟨rfl, rfl, rfl, ?_, trivial⟩ hE3
              refine congrArg (fun b => some (Value.bool b)) ?_
              (rw [Bool.eq_iff_iff]; simp; try omega)
            · (repeat (first | (apply WL.pure; rfl; rfl; rfl) | (apply WL.nil) | (apply WL.pass; rfl; rfl)))
              refine EX.cutE ⟨rfl, rfl, rfl, ?_, trivial⟩ hE3
              refine congrArg (fun b => some (Value.bool b)) ?_
              (rw [Bool.eq_iff_iff]; simp; try omega)
    intro w3 hE3
    have hb3 := hb2.ext hE3
    have hf3 := hf2.ext hE3
    have hg3 := grown_tr hg2 (hE3.grw (some bn))
    refine CW.cond rfl (fun h2 => ?_) (fun h2 => ?_) <;> simp only [decide_eq_true_eq, decide_eq_false_iff_not] at h2
    · rw [if_pos h2]
      (repeat (first | (apply WL.pure; rfl; rfl; rfl) | (apply WL.nil) | (apply EX.thenN) | (apply CW.seq) | (apply CW.region) | (apply CW.ret) | (apply EX.thenR) | (apply EX.inR)))
      exact EX.ret1 rfl rfl ⟨rfl, hb3, hg3⟩
    rw [if_neg h2]
    (repeat (first | (apply WL.pure; rfl; rfl; rfl) | (apply WL.nil) | (apply EX.thenN) | (apply CW.seq) | (apply CW.region) | (apply WL.lenS; rfl; rfl; rfl) | (apply WL.fa; rfl; rfl; rfl) | (apply WL.ld; rfl; rfl; rfl; assumption; rfl) | (apply CW.block) | (apply EX.inN) | (apply CW.skip)))
    refine CW.loop (S := Nat × Int) (fun x => [(1, .int .i64 deep), (2, .pointer (some ⟨bn, 0, none⟩)), (48, .slice ao kids.length cap), (49, .int .i64 (kids.length : Int)), (50, .int .i64 (x.1 : Int))])
      (fun x w' => w.grownBy w' (some bn) ∧ Blk w' bn 3 [.int .i64 x.2] ∧ 0 ≤ x.2 ∧ x.2 ≤ 60 ∧ x.1 ≤ kids.length ∧ chkCL kids (deep + 1) (c + 1) = chkCL (kids.drop x.1) (deep + 1) x.2) (fun x => kids.length - x.1) (0, c + 1) (by repeat (first | exact trivial | refine ⟨rfl, ?_⟩)) ⟨hg3, hb3, by simp only; omega, by simp only; omega, by omega, rfl⟩ ?_
    rintro ⟨i, ci⟩ w4 ⟨hg4, hb4, hci0, hci, hi, heq⟩
    simp only at hb4 hci0 hci hi heq
    rw [heq]
    (repeat (first | (apply WL.pure; rfl; rfl; rfl) | (apply WL.nil) | (apply EX.thenN) | (apply CW.seq) | (apply CW.region)))
    refine CW.cond rfl (fun h3 => ?_) (fun h3 => ?_) <;> simp at h3
    · have hs4 : Sl w4 F ao cap kids := hs.mono (fun b hb => hg4.block b (hF b hb) (by intro e; cases e; exact hn hb)) fun _ h => h
      have hF4 : ∀ b, F b → b < w4.heap.size := fun b hb => Nat.lt_of_lt_of_le (hF b hb) hg4.size
      (repeat (first | (apply EX.thenN) | (apply CW.seq) | (apply CW.region) | (apply CW.block) | (apply CW.skip)))
      refine WL.elemN rfl rfl rfl rfl rfl hs4 h3 (fun _ => rfl) (fun u q hu => ?_)
      have hdrop : kids.drop i = kids[i] :: kids.drop (i + 1) := List.drop_eq_getElem_cons h3
      have hnode : (kids[i]).nodes ≤ m := by
        have := Ltl.nodes_kid kids _ (List.getElem_mem h3)
        simp only [Ltl.nodes] at hm; omega
      rw [hdrop]
      simp only [chkCL]
      generalize kids[i] = x at *
      obtain ⟨ao', cap', rfl, hx⟩ := hu.ltl
      have hw4 : w.heap.size ≤ w4.heap.size := hg4.size
      refine WL.alloc rfl rfl (fun w5 hb5 hE5 => ?_)
      refine WL.st rfl rfl rfl hb5 rfl rfl (ones_of rfl) (fun w6 hb6 hgr6 => ?_)
      have hE6 : Ext w4 w6 := hE5.grown hgr6 hE5.size (fun g hg => by cases hg; exact Nat.le_refl _)
      have hb46 := hb4.ext hE6
      have hg6 := grown_tr hg4 (hE6.grw (some bn))
      (repeat (first | (apply WL.add; rfl; rfl; rfl; rfl; omega; omega) | (apply WL.pure; rfl; rfl; rfl) | (apply WL.nil) | (apply EX.thenN) | (apply CW.seq) | (apply CW.region) | (apply WL.ldA; rfl; rfl; rfl; assumption; rfl)))
      refine WL.call rfl rfl rfl (ccheck_ok m x hnode w6 F (deep + 1) ci bn ao' cap' (hx.mono (fun b hb => hE6.block b (hF4 b hb)) fun _ h => h) (fun b hb => Nat.lt_of_lt_of_le (hF4 b hb) hE6.size) hn hb46 hci0 hci (by omega) (by omega)) ?_
      rintro v w7 ⟨rfl, hb7, hg7⟩
      have hg7 := grown_tr hg6 hg7
      have hle := chkC_le x (deep + 1) ci
      generalize chkC x (deep + 1) ci = r at *
      obtain ⟨e, c'⟩ := r
      simp only at hle hb7
      (repeat (first | (apply WL.pure; rfl; rfl; rfl) | (apply WL.nil) | (apply EX.thenN) | (apply CW.seq) | (apply CW.region)))
      refine CW.cond rfl (fun h4 => ?_) (fun h4 => ?_) <;> simp at h4
      · (repeat (first | (apply WL.pure; rfl; rfl; rfl) | (apply WL.nil) | (apply EX.thenN) | (apply CW.seq) | (apply CW.region) | (apply CW.ret) | (apply EX.thenR) | (apply EX.inR)))
        refine EX.ret1 rfl rfl ?_
        rw [if_pos h4]
        exact ⟨rfl, hb7, hg7⟩
      · have := hle h4
        (repeat (first | (apply WL.add; rfl; rfl; rfl; rfl; omega; omega) | (apply WL.pure; rfl; rfl; rfl) | (apply WL.nil) | (apply EX.thenN) | (apply CW.region) | (apply EX.inN) | (apply CW.skip)))
        refine EX.back (i + 1, c') (by repeat (first | exact trivial | refine ⟨rfl, ?_⟩)) ⟨hg7, hb7, by simp only; omega, by simp only; omega, by simp only; omega, ?_⟩ (by simp only; omega)
        simp only
        rw [if_neg (by simp [h4])]
    · (repeat (first | (apply WL.pure; rfl; rfl; rfl) | (apply WL.nil) | (apply EX.thenN) | (apply CW.seq) | (apply CW.region) | (apply CW.exit) | (apply EX.thenX) | (apply EX.inX) | (apply CW.ret)))
      refine EX.ret1 rfl rfl ?_
      rw [List.drop_eq_nil_of_le (by omega)]
      exact ⟨rfl, hb4, hg4⟩
theorem ctlCheck (w : World) {F : Nat → Prop} {t : Ltl} {ao : Option Addr} {cap : Nat} (hs : Sl w F ao cap t.kids) (hF : ∀ b, F b → b < w.heap.size) :
    Rt Tryz.prog 48 [ltlV t.k t.n ao t.kids.length cap].toArray w fun v w' => v = .int .i64 (chkC t 1 0).1 ∧ Ext w w' := by
  refine Rt.enter1 Tryz.func48 Tryz.ntmps48 rfl rfl ?_
  (repeat (first | (apply CW.seq) | (apply CW.region)))
  refine WL.boxB rfl rfl rfl fun w1 hf hE1 => ?_
  (repeat (first | (apply WL.pure; rfl; rfl; rfl) | (apply WL.nil) | (apply EX.thenN) | (apply CW.seq) | (apply CW.region)))
  refine WL.alloc rfl rfl (fun w2 hb hE2 => ?_)
  have hlt := hb.lt
  refine WL.st rfl rfl rfl hb rfl rfl (ones_of rfl) (fun w3 hb hgr => ?_)
  have hE12 := hE1.trans hE2
  have hE3 : Ext w w3 := hE12.grown hgr hE12.size (fun g hg => by cases hg; exact hE1.size)
  have hf3 := (hf.ext hE2).kept hgr (by have := hf.lt; simp; omega)
  have hw1 : w.heap.size ≤ w1.heap.size := hE1.size
  (repeat (first | (apply WL.nil) | (apply EX.thenN) | (apply CW.seq) | (apply CW.region) | (apply WL.ldA; rfl; rfl; rfl; assumption; rfl)))
  refine WL.call rfl rfl rfl (ccheck_ok t.nodes t (Nat.le_refl _) w3 F 1 0 w1.heap.size ao cap (hs.mono (fun b hb => hE3.block b (hF b hb)) fun _ h => h) (fun b hb => Nat.lt_of_lt_of_le (hF b hb) hE3.size) (fun h => by have := hF _ h; omega) hb (by omega) (by omega) (by omega) (by omega)) ?_
  rintro v w4 ⟨rfl, hb4, hg4⟩
  (repeat (first | (apply WL.pure; rfl; rfl; rfl) | (apply WL.nil) | (apply EX.thenN) | (apply CW.ret)))
  exact EX.ret1 rfl rfl ⟨rfl, hE3.grown hg4 hE3.size (fun g hg => by cases hg; exact hE1.size)⟩
end Go.Proofs.YtllpfgcngokhnaaGreat

/-
  Formulas of all ways: what they mean in a world. Plain law, no program in sight.
-/
set_option linter.unusedVariables false
set_option linter.unusedSimpArgs false
namespace Go.Proofs.YtllpfgcngokhnaaGreat

open Classical in
/-- of each of n states whether it is so -/
noncomputable def boolsN (n : Nat) (P : Nat → Prop) : List Bool := (List.range n).map fun i => decide (P i)
theorem boolsN_len {n : Nat} {P : Nat → Prop} : (boolsN n P).length = n := by simp [boolsN]
theorem boolsN_iff {n i : Nat} {P : Nat → Prop} (h : i < n) : (boolsN n P).getD i false = true ↔ P i := by
  unfold boolsN; rw [List.getD_eq_getElem?_getD, List.getElem?_map, List.getElem?_range h]; simp
theorem boolsN_congr {n : Nat} {P Q : Nat → Prop} (h : ∀ i, i < n → (P i ↔ Q i)) : boolsN n P = boolsN n Q := by
  refine List.ext_getElem (by rw [boolsN_len, boolsN_len]) fun i h1 h2 => ?_
  have hi : i < n := by rw [boolsN_len] at h1; exact h1
  rw [Bool.eq_iff_iff, ← wgetB h1, ← wgetB h2, boolsN_iff hi, boolsN_iff hi]
  exact h i hi
theorem boolsN_of {n : Nat} {P : Nat → Prop} {l : List Bool} (hl : l.length = n) (h : ∀ i, i < n → (l.getD i false = true ↔ P i)) : l = boolsN n P := by
  refine List.ext_getElem (by rw [boolsN_len]; exact hl) fun i h1 h2 => ?_
  have hi : i < n := by omega
  rw [Bool.eq_iff_iff, ← wgetB h1, ← wgetB h2, boolsN_iff hi]
  exact h i hi

/-- a fair way begins there -/
def fairP (nx fr : Graph) (n : Nat) : Prop := ∃ r, r 0 = n ∧ Way8 (Eg nx) (setPs fr) r
/-- .. one along which all is so -/
def egP (nx fr : Graph) (A : Nat → Prop) (n : Nat) : Prop := ∃ r, r 0 = n ∧ Way8 (Eg nx) (setPs fr) r ∧ ∀ i, A (r i)
inductive EuP (E : Nat → Nat → Prop) (A B : Nat → Prop) : Nat → Prop
  | here {n : Nat} : B n → EuP E A B n
  | step {n m : Nat} : A n → E n m → EuP E A B m → EuP E A B n
def euP (nx fr : Graph) (A B : Nat → Prop) : Nat → Prop := EuP (Eg nx) A fun n => B n ∧ fairP nx fr n
def exP (nx fr : Graph) (A : Nat → Prop) (n : Nat) : Prop := ∃ m, Eg nx n m ∧ A m ∧ fairP nx fr m
def auP (nx fr : Graph) (A B : Nat → Prop) (n : Nat) : Prop := ¬ (euP nx fr (fun i => ¬ B i) (fun i => ¬ A i ∧ ¬ B i) n ∨ egP nx fr (fun i => ¬ B i) n)

theorem Way8.tail {E : Nat → Nat → Prop} {Ps : List (Nat → Prop)} {r : Nat → Nat} (h : Way8 E Ps r) : Way8 E Ps fun i => r (i + 1) :=
  ⟨fun i => h.1 (i + 1), fun P hP i => by
    obtain ⟨j, hj, hp⟩ := h.2 P hP (i + 1)
    exact ⟨j - 1, by omega, by show P (r (j - 1 + 1)); rw [show j - 1 + 1 = j by omega]; exact hp⟩⟩
theorem Way8.drop {E : Nat → Nat → Prop} {Ps : List (Nat → Prop)} {r : Nat → Nat} (h : Way8 E Ps r) : ∀ k, Way8 E Ps fun i => r (i + k)
  | 0 => h
  | k + 1 => by
    have := (Way8.drop h k).tail
    rw [show (fun i => r (i + (k + 1))) = fun i => (fun j => r (j + k)) (i + 1) from funext fun i => by show r _ = r _; congr 1; omega]
    exact this
def consW (n : Nat) (r : Nat → Nat) : Nat → Nat := fun i => match i with | 0 => n | i + 1 => r i
theorem Way8.cons {E : Nat → Nat → Prop} {Ps : List (Nat → Prop)} {r : Nat → Nat} {n : Nat} (h : Way8 E Ps r) (he : E n (r 0)) : Way8 E Ps (consW n r) :=
  ⟨fun i => by
    cases i with
    | zero => exact he
    | succ i => exact h.1 i, fun P hP i => by
    obtain ⟨j, hj, hp⟩ := h.2 P hP i
    exact ⟨j + 1, by omega, hp⟩⟩
section
variable {nx fr : Graph} {A B : Nat → Prop}
theorem fairP_step {n : Nat} : fairP nx fr n ↔ ∃ m, Eg nx n m ∧ fairP nx fr m := by
  constructor
  · rintro ⟨r, rfl, h⟩
    exact ⟨r 1, h.1 0, _, rfl, h.tail⟩
  · rintro ⟨m, he, r, rfl, h⟩
    exact ⟨_, rfl, h.cons he⟩
theorem egP.fair {n : Nat} (h : egP nx fr A n) : fairP nx fr n := by
  obtain ⟨r, h0, h, _⟩ := h
  exact ⟨r, h0, h⟩
theorem euP.fair {n : Nat} (h : euP nx fr A B n) : fairP nx fr n := by
  unfold euP at h
  induction h with
  | here h => exact h.2
  | step h1 h2 h3 ih => exact fairP_step.2 ⟨_, h2, ih⟩
theorem EuP.congr {E : Nat → Nat → Prop} {A' B' : Nat → Prop} {N : Nat} (hE : ∀ u v, E u v → v < N) (hA : ∀ i, i < N → (A i → A' i)) (hB : ∀ i, i < N → (B i → B' i)) {n : Nat} (h : EuP E A B n) : n < N → EuP E A' B' n := by
  induction h with
  | here h => exact fun hn => .here (hB _ hn h)
  | step h1 h2 h3 ih => exact fun hn => .step (hA _ hn h1) h2 (ih (hE _ _ h2))
theorem Way8.lt {r : Nat → Nat} (hok : okG nx) (h : Way8 (Eg nx) (setPs fr) r) (i : Nat) : r i < nx.length := by
  cases i with
  | zero => exact (h.1 0).lt1
  | succ i => exact (h.1 i).lt hok
theorem within_egP (hok : okG nx) : withinB nx (boolsN nx.length A) fr = boolsN nx.length (egP nx fr A) := by
  refine boolsN_of withinB_len fun n hn => ?_
  rw [withinB_iff hn]
  constructor
  · rintro ⟨r, h0, h1, h2⟩
    have h3 := fun i => inG_edge.1 (h1 i)
    exact ⟨r, h0, ⟨fun i => (h3 i).1, h2⟩, fun i => (boolsN_iff (h3 i).1.lt1).1 (h3 i).2.1⟩
  · rintro ⟨r, h0, h, ha⟩
    exact ⟨r, h0, fun i => inG_edge.2 ⟨h.1 i, (boolsN_iff (h.lt hok i)).2 (ha i), (boolsN_iff (h.lt hok (i + 1))).2 (ha (i + 1))⟩, h.2⟩
theorem all_fairP (hok : okG nx) : allB nx fr = boolsN nx.length (fairP nx fr) := boolsN_of withinB_len fun n hn => allB_iff hok hn
end

/- FORMULAS -/
def ctlK (nx : Graph) (lb : List Nat) (fr : Graph) (k n : Int) (ks : List (Nat → Prop)) : Nat → Prop :=
  if k = 1 then fun _ => True
  else if k = 3 then fun i => lb.getD i 0 >>> n.toNat &&& 1 = 1
  else if k = 4 then fun i => ¬ ks.getD 0 (fun _ => False) i
  else if k = 5 then fun i => ks.getD 0 (fun _ => False) i ∧ ks.getD 1 (fun _ => False) i
  else if k = 6 then fun i => ks.getD 0 (fun _ => False) i ∨ ks.getD 1 (fun _ => False) i
  else if k = 7 then exP nx fr (ks.getD 0 (fun _ => False))
  else if k = 8 then euP nx fr (fun _ => True) (ks.getD 0 (fun _ => False))
  else if k = 9 then egP nx fr (ks.getD 0 (fun _ => False))
  else if k = 10 then euP nx fr (ks.getD 0 (fun _ => False)) (ks.getD 1 (fun _ => False))
  else if k = 11 then fun i => ¬ exP nx fr (fun j => ¬ ks.getD 0 (fun _ => False) j) i
  else if k = 12 then fun i => ¬ egP nx fr (fun j => ¬ ks.getD 0 (fun _ => False) j) i
  else if k = 13 then fun i => ¬ euP nx fr (fun _ => True) (fun j => ¬ ks.getD 0 (fun _ => False) j) i
  else if k = 14 then auP nx fr (ks.getD 0 (fun _ => False)) (ks.getD 1 (fun _ => False))
  else fun _ => False
mutual
def ctlF (nx : Graph) (lb : List Nat) (fr : Graph) : Ltl → Nat → Prop
  | .mk k n kids => ctlK nx lb fr k n (ctlFs nx lb fr kids)
def ctlFs (nx : Graph) (lb : List Nat) (fr : Graph) : List Ltl → List (Nat → Prop)
  | [] => []
  | x :: r => ctlF nx lb fr x :: ctlFs nx lb fr r
end
/- LAWS -/
section
variable {nx fr : Graph} {lb : List Nat} {f g : Ltl}
theorem euP_none {A B : Nat → Prop} (h : ∀ n, ¬ B n) {n : Nat} : ¬ euP nx fr A B n := by
  intro hn
  unfold euP at hn
  induction hn with
  | here hb => exact h _ hb.1
  | step _ _ _ ih => exact ih
end

/- WHAT A FAIR WAY SHOWS -/
section
variable {nx fr : Graph} {lb : List Nat} {f : Ltl} {r : Nat → Nat}
theorem euP_way {A B : Nat → Prop} (hr : Way8 (Eg nx) (setPs fr) r) {i : Nat} (hb : B (r i)) (ha : ∀ j, j < i → A (r j)) : euP nx fr A B (r 0) := by
  have key : ∀ d, d ≤ i → euP nx fr A B (r (i - d)) := by
    intro d
    induction d with
    | zero => exact fun _ => .here ⟨hb, fun k => r (k + i), by show r (0 + i) = r (i - 0); congr 1; omega, hr.drop i⟩
    | succ d ih => exact fun hd => .step (ha _ (by omega)) (by have := hr.1 (i - (d + 1)); rwa [show i - (d + 1) + 1 = i - d by omega] at this) (ih (by omega))
  have := key i (Nat.le_refl _)
  rwa [Nat.sub_self] at this
end

/- TWINS -/
structure Twin (N : Nat) (nx nx' : Graph) (lb lb' : List Nat) (fr fr' : Graph) : Prop where
  n : nx.length = N
  ok : okG nx
  n' : nx'.length = 2 * N
  ok' : okG nx'
  lab : ∀ k, k < 2 * N → lb'.getD k 0 = lb.getD (k % N) 0
  to : ∀ k m, Eg nx' k m → Eg nx (k % N) (m % N)
  fro : ∀ k t, k < 2 * N → Eg nx (k % N) t → ∃ m, Eg nx' k m ∧ m % N = t
  fl : fr'.length = fr.length
  fs : ∀ j x, x < 2 * N → ((x : Int) ∈ fr'.getD j [] ↔ ((x % N : Nat) : Int) ∈ fr.getD j [])
theorem setPs_iff {fr : Graph} {Q : (Nat → Prop) → Prop} : (∀ P ∈ setPs fr, Q P) ↔ ∀ j, j < fr.length → Q fun x => (x : Int) ∈ fr.getD j [] := by
  constructor
  · intro h j hj
    refine h _ (List.mem_map.2 ⟨fr[j], List.getElem_mem hj, ?_⟩)
    funext x
    rw [wgetDG hj]
  · intro h P hP
    obtain ⟨F, hF, rfl⟩ := List.mem_map.1 hP
    obtain ⟨j, hj, rfl⟩ := List.mem_iff_getElem.1 hF
    have := h j hj
    simp only [wgetDG hj] at this
    exact this
section
variable {N : Nat} {nx nx' fr fr' : Graph} {lb lb' : List Nat}
theorem Twin.down (h : Twin N nx nx' lb lb' fr fr') {r : Nat → Nat} (hr : Way8 (Eg nx') (setPs fr') r) : Way8 (Eg nx) (setPs fr) fun i => r i % N := by
  have hlt : ∀ i, r i < 2 * N := fun i => by rw [← h.n']; exact hr.lt h.ok' i
  refine ⟨fun i => h.to _ _ (hr.1 i), setPs_iff.2 fun j hj i => ?_⟩
  obtain ⟨k, hk, hp⟩ := setPs_iff.1 hr.2 j (by rw [h.fl]; exact hj) i
  exact ⟨k, hk, (h.fs j _ (hlt k)).1 hp⟩
open Classical in
theorem Twin.up (h : Twin N nx nx' lb lb' fr fr') {r : Nat → Nat} (hr : Way8 (Eg nx) (setPs fr) r) {k : Nat} (hk : k < 2 * N) (h0 : r 0 = k % N) : ∃ r', r' 0 = k ∧ Way8 (Eg nx') (setPs fr') r' ∧ ∀ i, r' i % N = r i := by
  let nxt : Nat → Nat → Nat := fun i x => if hx : x < 2 * N ∧ x % N = r i then Classical.choose (h.fro x (r (i + 1)) hx.1 (by rw [hx.2]; exact hr.1 i)) else 0
  have hnxt : ∀ i x, x < 2 * N → x % N = r i → Eg nx' x (nxt i x) ∧ nxt i x % N = r (i + 1) := by
    intro i x h1 h2
    have hx : x < 2 * N ∧ x % N = r i := ⟨h1, h2⟩
    show Eg nx' x (if hx : x < 2 * N ∧ x % N = r i then _ else 0) ∧ _
    rw [dif_pos hx]
    have := Classical.choose_spec (h.fro x (r (i + 1)) hx.1 (by rw [hx.2]; exact hr.1 i))
    refine ⟨this.1, ?_⟩
    show (if hx : x < 2 * N ∧ x % N = r i then _ else 0) % N = _
    rw [dif_pos hx]
    exact this.2
  let r' : Nat → Nat := fun i => Nat.rec (motive := fun _ => Nat) k (fun i x => nxt i x) i
  have hinv : ∀ i, r' i < 2 * N ∧ r' i % N = r i := by
    intro i
    induction i with
    | zero => exact ⟨hk, h0.symm⟩
    | succ i ih =>
      have h1 := hnxt i (r' i) ih.1 ih.2
      refine ⟨?_, h1.2⟩
      have := h1.1.lt h.ok'
      rw [h.n'] at this
      exact this
  have hstep : ∀ i, Eg nx' (r' i) (r' (i + 1)) := fun i => (hnxt i (r' i) (hinv i).1 (hinv i).2).1
  refine ⟨r', rfl, ⟨hstep, setPs_iff.2 fun j hj i => ?_⟩, fun i => (hinv i).2⟩
  obtain ⟨m, hm, hp⟩ := setPs_iff.1 hr.2 j (by rw [← h.fl]; exact hj) i
  exact ⟨m, hm, (h.fs j _ (hinv m).1).2 (by rw [(hinv m).2]; exact hp)⟩
variable {A A' B B' : Nat → Prop}
theorem Twin.fair (h : Twin N nx nx' lb lb' fr fr') {k : Nat} (hk : k < 2 * N) : fairP nx' fr' k ↔ fairP nx fr (k % N) := by
  constructor
  · rintro ⟨r, rfl, hr⟩; exact ⟨_, rfl, h.down hr⟩
  · rintro ⟨r, h0, hr⟩
    obtain ⟨r', h1, h2, _⟩ := h.up hr hk h0
    exact ⟨r', h1, h2⟩
theorem Twin.ex (h : Twin N nx nx' lb lb' fr fr') (hA : ∀ k, k < 2 * N → (A' k ↔ A (k % N))) {k : Nat} (hk : k < 2 * N) : exP nx' fr' A' k ↔ exP nx fr A (k % N) := by
  constructor
  · rintro ⟨m, h1, h2, h3⟩
    have hm : m < 2 * N := by rw [← h.n']; exact h1.lt h.ok'
    exact ⟨m % N, h.to _ _ h1, (hA m hm).1 h2, (h.fair hm).1 h3⟩
  · rintro ⟨t, h1, h2, h3⟩
    obtain ⟨m, h4, rfl⟩ := h.fro k t hk h1
    have hm : m < 2 * N := by rw [← h.n']; exact h4.lt h.ok'
    exact ⟨m, h4, (hA m hm).2 h2, (h.fair hm).2 h3⟩
end
end Go.Proofs.YtllpfgcngokhnaaGreat

/-
  Automata of pairs: plain lists, no program in sight.
-/
set_option linter.unusedVariables false
set_option linter.unusedSimpArgs false
namespace Go.Proofs.YtllpfgcngokhnaaGreat

abbrev Pr2 := Int × Int
theorem idxOf_left {ps t : List Pr2} {p : Pr2} (h : p ∈ ps) : (ps ++ t).idxOf p = ps.idxOf p := by rw [List.idxOf_append, if_pos h]
theorem idxOf_new {ps : List Pr2} {p : Pr2} (h : p ∉ ps) : ps.idxOf p = ps.length := by
  have h1 := List.idxOf_le_length (a := p) (l := ps)
  have h2 := mt List.idxOf_lt_length_iff.1 h
  omega
structure PutOk (r ps : List Pr2) (l : List Int) (q : List Pr2 × Bool × List Int) : Prop where
  nd : q.1.Nodup
  ext : ∃ t, q.1 = ps ++ t ∧ ∀ x ∈ t, x ∈ r
  mem : ∀ p ∈ r, p ∈ q.1
  num : ∀ i, i ∈ q.2.2 ↔ i ∈ l ∨ ∃ p ∈ r, i = (q.1.idxOf p : Int)
  le : ps.length ≤ 2048 → q.1.length ≤ 2048
/-- numbers of pairs -/
structure MadeOk (next : Pr2 → List Pr2) (start ps : List Pr2) (st : List Int) (nx : List (List Int)) : Prop where
  nd : ps.Nodup
  st0 : ∀ p ∈ start, p ∈ ps
  st1 : ∀ i, i ∈ st ↔ ∃ p ∈ start, i = (ps.idxOf p : Int)
  le : ps.length ≤ 2048
  nxl : nx.length ≤ ps.length
  nx0 : ∀ n, n < nx.length → ∀ p ∈ next (ps.getD n (0, 0)), p ∈ ps
  nx1 : ∀ n, n < nx.length → ∀ i, i ∈ nx.getD n [] ↔ ∃ p ∈ next (ps.getD n (0, 0)), i = (ps.idxOf p : Int)
theorem getDP_left {α : Type} {l t : List α} {j : Nat} {d : α} (h : j < l.length) : (l ++ t).getD j d = l.getD j d := by rw [List.getD_eq_getElem?_getD, List.getD_eq_getElem?_getD, List.getElem?_append_left h]
theorem getDP_last {α : Type} {l : List α} {x d : α} : (l ++ [x]).getD l.length d = x := by rw [List.getD_eq_getElem?_getD, List.getElem?_append_right (Nat.le_refl _)]; simp
theorem getDP_mem {ps : List Pr2} {n : Nat} (h : n < ps.length) : ps.getD n (0, 0) ∈ ps := by rw [List.getD_eq_getElem?_getD, List.getElem?_eq_getElem h]; exact List.getElem_mem _
theorem idxOf_at {ps : List Pr2} {p : Pr2} (h : p ∈ ps) : ps.idxOf p < ps.length ∧ ps.getD (ps.idxOf p) (0, 0) = p := by
  have hl := List.idxOf_lt_length_iff.2 h
  exact ⟨hl, by rw [List.getD_eq_getElem?_getD, List.getElem?_eq_getElem hl, Option.getD_some, List.getElem_idxOf hl]⟩
/- BITS -/
/- BOTH -/
abbrev LAuto2 := List Int × List (List Int) × List Nat × List Nat × List (List Int)
def AccA (A : LAuto2) (L : Nat → Nat) : Prop := Acc A.1 A.2.1 A.2.2.1 A.2.2.2.1 A.2.2.2.2 L
/-- states are numbers -/
def PosA (A : LAuto2) : Prop := (∀ x ∈ A.1, 0 ≤ x) ∧ ∀ k, ∀ x ∈ A.2.1.getD k [], 0 ≤ x
end Go.Proofs.YtllpfgcngokhnaaGreat

/-
  Pairs of a world's states and an automaton's: how they are found. Plain lists.
-/
set_option linter.unusedVariables false
set_option linter.unusedSimpArgs false
namespace Go.Proofs.YtllpfgcngokhnaaGreat

def addF (ps : List Pr2) (p : Pr2) : List Pr2 := if p ∈ ps then ps else ps ++ [p]
def putF (fit : Pr2 → Bool) : List Pr2 → List Pr2 → List Int → List Pr2 × List Int
  | [], ps, l => (ps, l)
  | p :: r, ps, l => if fit p = true then putF fit r (addF ps p) (l ++ [(ps.idxOf p : Int)]) else putF fit r ps l
def pairsX (l k : List Int) : List Pr2 := l.flatMap fun x => k.map fun y => (x, y)
section
variable {fit : Pr2 → Bool}
theorem addF_mem {ps : List Pr2} {p q : Pr2} : q ∈ addF ps p ↔ q ∈ ps ∨ q = p := by
  unfold addF
  split
  · exact ⟨.inl, fun h => h.elim id (fun h => by subst h; assumption)⟩
  · simp
theorem addF_app {ps : List Pr2} {p : Pr2} : ∃ t, addF ps p = ps ++ t := by
  unfold addF
  split
  · exact ⟨[], by simp⟩
  · exact ⟨[p], rfl⟩
theorem addF_nd {ps : List Pr2} {p : Pr2} (h : ps.Nodup) : (addF ps p).Nodup := by
  unfold addF
  split
  · exact h
  · rename_i hn
    rw [List.nodup_append]
    refine ⟨h, List.pairwise_singleton _ _, fun a ha b hb e => ?_⟩
    rw [List.mem_singleton] at hb
    exact hn (by rw [← hb, ← e]; exact ha)
theorem addF_idx {ps : List Pr2} {p : Pr2} : (addF ps p).idxOf p = ps.idxOf p := by
  unfold addF
  split
  · rfl
  · rename_i hn
    rw [List.idxOf_append, if_neg hn, idxOf_new hn]; simp
structure PutF (fit : Pr2 → Bool) (r ps : List Pr2) (l : List Int) (q : List Pr2 × List Int) : Prop where
  nd : q.1.Nodup
  app : ∃ t, q.1 = ps ++ t
  new : ∀ p ∈ q.1, p ∈ ps ∨ (p ∈ r ∧ fit p = true)
  all : ∀ p ∈ r, fit p = true → p ∈ q.1
  num : ∀ i, i ∈ q.2 ↔ i ∈ l ∨ ∃ p ∈ r, fit p = true ∧ i = (q.1.idxOf p : Int)
  len : q.2.length ≤ l.length + r.length
theorem putF_law : ∀ (r ps : List Pr2) (l : List Int), ps.Nodup → PutF fit r ps l (putF fit r ps l)
  | [], ps, l, h => ⟨h, ⟨[], by simp [putF]⟩, fun p hp => .inl hp, (fun p hp => by cases hp), fun i => by simp [putF], by simp [putF]⟩
  | p :: r, ps, l, h => by
    rw [putF]
    split
    · rename_i hf
      have k := putF_law r (addF ps p) (l ++ [(ps.idxOf p : Int)]) (addF_nd h)
      obtain ⟨t, ht⟩ := k.app
      obtain ⟨t', ht'⟩ := addF_app (ps := ps) (p := p)
      refine ⟨k.nd, ⟨t' ++ t, by rw [ht, ht', List.append_assoc]⟩, fun q hq => ?_, fun q hq hqf => ?_, fun i => ?_, ?_⟩
      · rcases k.new q hq with h1 | h1
        · rcases addF_mem.1 h1 with h1 | h1
          · exact .inl h1
          · subst h1; exact .inr ⟨List.mem_cons_self, hf⟩
        · exact .inr ⟨List.mem_cons_of_mem _ h1.1, h1.2⟩
      · rcases List.mem_cons.1 hq with rfl | hq
        · rw [ht]; exact List.mem_append_left _ (addF_mem.2 (.inr rfl))
        · exact k.all q hq hqf
      · have hix : (putF fit r (addF ps p) (l ++ [(ps.idxOf p : Int)])).1.idxOf p = ps.idxOf p := by
          rw [ht, List.idxOf_append, if_pos (addF_mem.2 (.inr rfl)), addF_idx]
        rw [k.num]
        constructor
        · rintro (h1 | ⟨q, h1, h2, h3⟩)
          · rcases List.mem_append.1 h1 with h1 | h1
            · exact .inl h1
            · rw [List.mem_singleton] at h1
              exact .inr ⟨p, List.mem_cons_self, hf, by rw [hix]; exact h1⟩
          · exact .inr ⟨q, List.mem_cons_of_mem _ h1, h2, h3⟩
        · rintro (h1 | ⟨q, h1, h2, h3⟩)
          · exact .inl (List.mem_append_left _ h1)
          · rcases List.mem_cons.1 h1 with rfl | h1
            · exact .inl (List.mem_append_right _ (by rw [List.mem_singleton, h3, hix]))
            · exact .inr ⟨q, h1, h2, h3⟩
      · have := k.len; simp only [List.length_append, List.length_cons, List.length_nil] at this ⊢; omega
    · rename_i hf
      have k := putF_law r ps l h
      refine ⟨k.nd, k.app, fun q hq => ?_, fun q hq hqf => ?_, fun i => ?_, ?_⟩
      · exact (k.new q hq).imp id fun h1 => ⟨List.mem_cons_of_mem _ h1.1, h1.2⟩
      · rcases List.mem_cons.1 hq with rfl | hq
        · exact absurd hqf hf
        · exact k.all q hq hqf
      · rw [k.num]
        constructor
        · rintro (h1 | ⟨q, h1, h2, h3⟩)
          · exact .inl h1
          · exact .inr ⟨q, List.mem_cons_of_mem _ h1, h2, h3⟩
        · rintro (h1 | ⟨q, h1, h2, h3⟩)
          · exact .inl h1
          · rcases List.mem_cons.1 h1 with rfl | h1
            · exact absurd h2 hf
            · exact .inr ⟨q, h1, h2, h3⟩
      · have := k.len; simp only [List.length_cons] at this ⊢; omega
theorem pairsX_mem {l k : List Int} {p : Pr2} : p ∈ pairsX l k ↔ p.1 ∈ l ∧ p.2 ∈ k := by
  unfold pairsX
  simp only [List.mem_flatMap, List.mem_map]
  constructor
  · rintro ⟨x, hx, y, hy, rfl⟩; exact ⟨hx, hy⟩
  · rintro ⟨h1, h2⟩; exact ⟨p.1, h1, p.2, h2, rfl⟩
theorem nodup_lenE : ∀ (n : Nat) (l : List Nat), l.Nodup → (∀ x ∈ l, x < n) → l.length ≤ n
  | 0, l, _, h => by
    cases l with
    | nil => simp
    | cons x r => have := h x (by simp); omega
  | n + 1, l, hd, h => by
    by_cases hn : n ∈ l
    · have h1 := nodup_lenE n (l.erase n) (hd.erase n) (fun x hx => by
        have h2 := (List.Nodup.mem_erase_iff hd).1 hx
        have := h x h2.2; have := h2.1; omega)
      rw [List.length_erase_of_mem hn] at h1
      omega
    · have := nodup_lenE n l hd (fun x hx => by
        have h2 := h x hx
        have : x ≠ n := fun e => hn (e ▸ hx)
        omega)
      omega
/-- a list without twins in a box -/
theorem nodup_box {a b : Nat} {ps : List Pr2} (hn : ps.Nodup) (h : ∀ p ∈ ps, (0 ≤ p.1 ∧ p.1 < a) ∧ 0 ≤ p.2 ∧ p.2 < b) : ps.length ≤ a * b := by
  have hd : ∀ (x y : Nat), y < b → (b * x + y) / b = x ∧ (b * x + y) % b = y := fun x y hy => by
    have hb : 0 < b := by omega
    exact ⟨by rw [Nat.mul_add_div hb, Nat.div_eq_of_lt hy, Nat.add_zero], by rw [Nat.mul_add_mod, Nat.mod_eq_of_lt hy]⟩
  have h1 := nodup_lenE (a * b) (ps.map fun p => b * p.1.toNat + p.2.toNat) (by
    unfold List.Nodup at hn ⊢
    rw [List.pairwise_map]
    refine (List.pairwise_iff_forall_sublist.2 fun {p q} hs => ?_)
    have hp : p ∈ ps := hs.subset (by simp)
    have hq : q ∈ ps := hs.subset (by simp)
    have hne := List.pairwise_iff_forall_sublist.1 hn hs
    intro e
    obtain ⟨⟨p1, p2⟩, p3, p4⟩ := h p hp
    obtain ⟨⟨q1, q2⟩, q3, q4⟩ := h q hq
    have d1 := hd p.1.toNat p.2.toNat (by omega)
    have d2 := hd q.1.toNat q.2.toNat (by omega)
    rw [e] at d1
    exact hne (Prod.ext (by have := d1.1.symm.trans d2.1; omega) (by have := d1.2.symm.trans d2.2; omega))) (fun x hx => by
    obtain ⟨p, hp, rfl⟩ := List.mem_map.1 hx
    obtain ⟨⟨p1, p2⟩, p3, p4⟩ := h p hp
    have h2 : p.1.toNat + 1 ≤ a := by omega
    have h3 := Nat.mul_le_mul_left b h2
    rw [Nat.mul_add, Nat.mul_one, Nat.mul_comm b a] at h3
    omega)
  simpa using h1
end
end Go.Proofs.YtllpfgcngokhnaaGreat

/-
  Ways by breadth, with what each node was come to from. Plain lists.
-/
set_option linter.unusedVariables false
set_option linter.unusedSimpArgs false
namespace Go.Proofs.YtllpfgcngokhnaaGreat

abbrev UP := List (Int × Int)
abbrev keysU (up : UP) : List Int := up.map Prod.fst
structure WyC (g : List (List Int)) (fr : List Int) (al : Nat → Bool) (up : UP) : Prop where
  nd : (keysU up).Nodup
  rg : okL g.length (keysU up)
  par : ∀ i (hi : i < up.length), (up[i].2 = -1 ∧ up[i].1 ∈ fr) ∨ ∃ j, ∃ hj : j < up.length, j < i ∧ up[i].2 = up[j].1 ∧ up[i].1 ∈ g.getD up[j].1.toNat [] ∧ al up[i].1.toNat = true
structure WyOK (g : List (List Int)) (fr : List Int) (to al : Nat → Bool) (r : List Int) : Prop where
  ne : 0 < r.length
  len : r.length ≤ g.length
  rg : okL g.length r
  st : r.getD 0 0 ∈ fr
  ed : ∀ i, i + 1 < r.length → r.getD (i + 1) 0 ∈ g.getD (r.getD i 0).toNat [] ∧ al (r.getD (i + 1) 0).toNat = true
  en : to (r.getD (r.length - 1) 0).toNat = true
def WyNo (g : List (List Int)) (fr : List Int) (to al : Nat → Bool) : Prop := ∃ C : List Int, (∀ x ∈ fr, x ∈ C) ∧ ∀ x ∈ C, to x.toNat = false ∧ ∀ k ∈ g.getD x.toNat [], al k.toNat = true → k ∈ C
def alB (part : List Int) (only : Int) (k : Nat) : Bool := decide (only < 0) || decide (part.getD k 0 = only)
section
variable {g : List (List Int)} {fr : List Int} {to al : Nat → Bool} {up : UP}
theorem okL_len : ∀ {n : Nat} {l : List Int}, l.Nodup → okL n l → l.length ≤ n := fun {n l} hn h => by
  have h1 := nodup_lenE n (l.map Int.toNat) (by
    unfold List.Nodup at hn ⊢
    rw [List.pairwise_map]
    refine List.pairwise_iff_forall_sublist.2 fun {a b} hs => ?_
    have ha := h a (hs.subset (by simp))
    have hb := h b (hs.subset (by simp))
    have := List.pairwise_iff_forall_sublist.1 hn hs
    omega) (fun x hx => by
    obtain ⟨a, ha, rfl⟩ := List.mem_map.1 hx
    have := h a ha
    omega)
  simpa using h1
theorem WyC.nil : WyC g fr al [] := ⟨List.Pairwise.nil, (fun x hx => by cases hx), fun i hi => absurd hi (by simp)⟩
theorem WyC.len (h : WyC g fr al up) : up.length ≤ g.length := by
  have := okL_len h.nd h.rg
  simpa using this
theorem WyC.push (h : WyC g fr al up) {x : Int × Int} (hn : x.1 ∉ keysU up) (hr : 0 ≤ x.1 ∧ x.1 < g.length)
    (hp : (x.2 = -1 ∧ x.1 ∈ fr) ∨ ∃ j, ∃ hj : j < up.length, x.2 = up[j].1 ∧ x.1 ∈ g.getD up[j].1.toNat [] ∧ al x.1.toNat = true) : WyC g fr al (up ++ [x]) := by
  refine ⟨?_, fun y hy => ?_, fun i hi => ?_⟩
  · unfold keysU
    rw [List.map_append, List.nodup_append]
    refine ⟨h.nd, by simp, fun a ha b hb e => ?_⟩
    simp at hb
    subst hb; subst e
    exact hn ha
  · unfold keysU at hy
    rw [List.map_append] at hy
    rcases List.mem_append.1 hy with hy | hy
    · exact h.rg y hy
    · simp at hy; subst hy; exact hr
  · by_cases h' : i < up.length
    · rw [List.getElem_append_left h']
      rcases h.par i h' with k | ⟨j, hj, k1, k2, k3⟩
      · exact .inl k
      · exact .inr ⟨j, by simp; omega, k1, by rw [List.getElem_append_left hj]; exact k2, by rw [List.getElem_append_left hj]; exact k3⟩
    · have hiu : i = up.length := by simp at hi; omega
      subst hiu
      rw [List.getElem_append_right (Nat.le_refl _)]
      simp only [Nat.sub_self, List.getElem_cons_zero]
      rcases hp with k | ⟨j, hj, k⟩
      · exact .inl k
      · exact .inr ⟨j, by simp; omega, hj, by rw [List.getElem_append_left hj]; exact k⟩
/-- the way back from node h, so far -/
structure BackI (g : List (List Int)) (fr : List Int) (al : Nat → Bool) (up : UP) (h q : Nat) (out : List Int) : Prop where
  hq : q ≤ up.length
  hh : h < up.length
  len : out.length + q ≤ h + 1
  rg : okL g.length out
  rv : ∀ i, i + 1 < out.length → out.getD i 0 ∈ g.getD (out.getD (i + 1) 0).toNat [] ∧ al (out.getD i 0).toNat = true
  nx : ∀ (h0 : 0 < q), 0 < out.length → out.getD (out.length - 1) 0 ∈ g.getD (up[q - 1]'(by omega)).1.toNat [] ∧ al (out.getD (out.length - 1) 0).toNat = true
  hd : 0 < out.length → out.getD 0 0 = up[h].1
  em : out.length = 0 → q = h + 1
  fn : q = 0 → 0 < out.length ∧ out.getD (out.length - 1) 0 ∈ fr
def numQ (up : UP) (q : Nat) : Int := if h : 0 < q ∧ q ≤ up.length then (up[q - 1]'(by omega)).1 else -1
theorem BackI.start {h : Nat} (hh : h < up.length) : BackI g fr al up h (h + 1) [] :=
  ⟨hh, hh, by simp, (fun x hx => by cases hx), fun i hi => absurd hi (by simp), fun _ k => absurd k (by simp), fun k => absurd k (by simp), fun _ => rfl, fun k => by cases k⟩
theorem getD_app1 {l : List Int} {x : Int} {i : Nat} (h : i < l.length) : (l ++ [x]).getD i 0 = l.getD i 0 := by
  rw [List.getD_eq_getElem?_getD, List.getElem?_append_left h, ← List.getD_eq_getElem?_getD]
theorem getD_app2 {l : List Int} {x : Int} : (l ++ [x]).getD l.length 0 = x := by
  rw [List.getD_eq_getElem?_getD, List.getElem?_append_right (Nat.le_refl _)]; simp
/-- one step back -/
theorem BackI.step (hC : WyC g fr al up) {h q : Nat} {out : List Int} (hI : BackI g fr al up h q out) (h0 : 0 < q) : ∃ q', q' < q ∧ (up[q - 1]'(by have := hI.hq; omega)).2 = numQ up q' ∧ BackI g fr al up h q' (out ++ [(up[q - 1]'(by have := hI.hq; omega)).1]) := by
  have hq := hI.hq
  have hql : q - 1 < up.length := by omega
  have hrg : 0 ≤ up[q - 1].1 ∧ up[q - 1].1 < g.length := hC.rg _ (List.mem_map.2 ⟨_, List.getElem_mem hql, rfl⟩)
  have hlen := hI.len
  have common : ∀ q' (hq' : q' < q), (∀ (h1 : 0 < q'), up[q - 1].1 ∈ g.getD (up[q' - 1]'(by omega)).1.toNat [] ∧ al up[q - 1].1.toNat = true) → (q' = 0 → up[q - 1].1 ∈ fr) → BackI g fr al up h q' (out ++ [up[q - 1].1]) := by
    intro q' hq' hn hf
    refine ⟨by omega, hI.hh, by simp; omega, fun x hx => ?_, fun i hi => ?_, fun h1 _ => ?_, fun _ => ?_, fun k => by simp at k, fun k => ⟨by simp, ?_⟩⟩
    · rcases List.mem_append.1 hx with hx | hx
      · exact hI.rg x hx
      · rw [List.mem_singleton] at hx; subst hx; exact hrg
    · simp at hi
      rw [getD_app1 (i := i) (by omega)]
      by_cases e : i + 1 < out.length
      · rw [getD_app1 (i := i + 1) e]; exact hI.rv i e
      · obtain e : i + 1 = out.length := by omega
        rw [e, getD_app2]
        have := hI.nx h0 (by omega)
        rw [show out.length - 1 = i by omega] at this
        exact this
    · rw [show (out ++ [up[q - 1].1]).length - 1 = out.length by simp, getD_app2]
      exact hn h1
    · by_cases e : 0 < out.length
      · rw [getD_app1 e]; exact hI.hd e
      · have e0 : out.length = 0 := by omega
        have hqh := hI.em e0
        have : (out ++ [up[q - 1].1]).getD 0 0 = up[q - 1].1 := by
          have := getD_app2 (l := out) (x := up[q - 1].1)
          rwa [e0] at this
        rw [this]
        congr 2
        omega
    · rw [show (out ++ [up[q - 1].1]).length - 1 = out.length by simp, getD_app2]
      exact hf k
  rcases hC.par (q - 1) hql with ⟨k1, k2⟩ | ⟨j, hj, k1, k2, k3, k4⟩
  · exact ⟨0, h0, by rw [k1]; unfold numQ; rw [dif_neg (by omega)], common 0 h0 (fun h1 => absurd h1 (by omega)) (fun _ => k2)⟩
  · refine ⟨j + 1, by omega, ?_, common (j + 1) (by omega) (fun _ => ⟨k3, k4⟩) (fun e => by cases e)⟩
    rw [k2]
    unfold numQ
    rw [dif_pos ⟨by omega, by omega⟩]
    rfl
/-- turned round it is a way -/
theorem BackI.done (hC : WyC g fr al up) {h : Nat} {out : List Int} (hI : BackI g fr al up h 0 out) (ht : to (up[h]'hI.hh).1.toNat = true) : WyOK g fr to al out.reverse := by
  have hlen := hI.len
  have hul := hC.len
  have hh := hI.hh
  have h0 := (hI.fn rfl).1
  have hget : ∀ i, i < out.length → out.reverse.getD i 0 = out.getD (out.length - 1 - i) 0 := fun i hi => by
    rw [List.getD_eq_getElem?_getD, List.getElem?_reverse hi, ← List.getD_eq_getElem?_getD]
  refine ⟨by simpa using h0, by rw [List.length_reverse]; omega, fun x hx => hI.rg x (List.mem_reverse.1 hx), ?_, fun i hi => ?_, ?_⟩
  · rw [hget 0 h0]; exact (hI.fn rfl).2
  · rw [List.length_reverse] at hi
    rw [hget _ hi, hget i (by omega)]
    have := hI.rv (out.length - 1 - (i + 1)) (by omega)
    rw [show out.length - 1 - (i + 1) + 1 = out.length - 1 - i by omega] at this
    exact this
  · rw [List.length_reverse, hget _ (by omega), show out.length - 1 - (out.length - 1) = 0 by omega, hI.hd h0]; exact ht
end
end Go.Proofs.YtllpfgcngokhnaaGreat

/-
  Ways through pairs: when one is found. Plain lists.
-/
set_option linter.unusedVariables false
set_option linter.unusedSimpArgs false
namespace Go.Proofs.YtllpfgcngokhnaaGreat

theorem idxOf_lt {ps : List Pr2} {p : Pr2} (h : p ∈ ps) : ps.idxOf p < ps.length := (idxOf_at h).1
/-- the search, so far -/
structure RunE (fit : Pr2 → Bool) (next : Pr2 → List Pr2) (start ps : List Pr2) (fr : List Int) (nx : List (List Int)) : Prop where
  nd : ps.Nodup
  ok : ∀ p ∈ ps, fit p = true
  sm : ∀ p ∈ start, fit p = true → p ∈ ps
  sn : ∀ i, i ∈ fr ↔ ∃ p ∈ start, fit p = true ∧ i = (ps.idxOf p : Int)
  le : nx.length ≤ ps.length
  nm : ∀ n, n < nx.length → ∀ q ∈ next (ps.getD n (0, 0)), fit q = true → q ∈ ps
  nn : ∀ n, n < nx.length → ∀ i, i ∈ nx.getD n [] ↔ ∃ q ∈ next (ps.getD n (0, 0)), fit q = true ∧ i = (ps.idxOf q : Int)
  rc : ∀ i : Nat, i < ps.length → (i : Int) ∈ fr ∨ ∃ m, m < i ∧ m < nx.length ∧ (i : Int) ∈ nx.getD m []
section
variable {fit : Pr2 → Bool} {next : Pr2 → List Pr2} {start ps : List Pr2} {fr : List Int} {nx : List (List Int)}
theorem RunE.init : RunE fit next start (putF fit start [] []).1 (putF fit start [] []).2 [] := by
  have k := putF_law (fit := fit) start [] [] List.Pairwise.nil
  have hnew : ∀ p ∈ (putF fit start [] []).1, p ∈ start ∧ fit p = true := fun p hp => (k.new p hp).resolve_left (fun h => by cases h)
  refine ⟨k.nd, fun p hp => (hnew p hp).2, k.all, fun i => ?_, Nat.zero_le _, fun n hn => absurd hn (by simp), fun n hn => absurd hn (by simp), fun i hi => .inl ?_⟩
  · rw [k.num]
    exact ⟨fun h => h.resolve_left (fun h => by cases h), .inr⟩
  · rw [k.num]
    have hm := List.getElem_mem hi
    exact .inr ⟨_, (hnew _ hm).1, (hnew _ hm).2, by rw [k.nd.idxOf_getElem i hi]⟩
theorem RunE.step (h : RunE fit next start ps fr nx) (hn : nx.length < ps.length) :
    RunE fit next start (putF fit (next (ps.getD nx.length (0, 0))) ps []).1 fr (nx ++ [(putF fit (next (ps.getD nx.length (0, 0))) ps []).2]) := by
  generalize hr : next (ps.getD nx.length (0, 0)) = r
  have k := putF_law (fit := fit) r ps [] h.nd
  generalize putF fit r ps [] = q at *
  obtain ⟨t, ht⟩ := k.app
  have hin : ∀ p ∈ ps, p ∈ q.1 := fun p hp => by rw [ht]; exact List.mem_append_left _ hp
  have hix : ∀ p ∈ ps, q.1.idxOf p = ps.idxOf p := fun p hp => by rw [ht]; exact idxOf_left hp
  have hlen : q.1.length = ps.length + t.length := by rw [ht, List.length_append]
  have hget : ∀ n, n < ps.length → q.1.getD n (0, 0) = ps.getD n (0, 0) := fun n hn => by rw [ht]; exact getDP_left hn
  have hle := h.le
  refine ⟨k.nd, fun p hp => (k.new p hp).elim (h.ok p) (·.2), fun p hp hf => hin p (h.sm p hp hf), fun i => ?_, by rw [List.length_append]; simp; omega, fun n hn' x hx hf => ?_, fun n hn' i => ?_, fun i hi => ?_⟩
  · rw [h.sn]
    constructor
    · rintro ⟨p, h1, h2, h3⟩; exact ⟨p, h1, h2, by rw [hix p (h.sm p h1 h2)]; exact h3⟩
    · rintro ⟨p, h1, h2, h3⟩; exact ⟨p, h1, h2, by rw [← hix p (h.sm p h1 h2)]; exact h3⟩
  · simp at hn'
    rw [hget n (by omega)] at hx
    by_cases e : n < nx.length
    · exact hin x (h.nm n e x hx hf)
    · obtain rfl : n = nx.length := by omega
      rw [hr] at hx
      exact k.all x hx hf
  · simp at hn'
    rw [hget n (by omega)]
    by_cases e : n < nx.length
    · rw [getDP_left e, h.nn n e]
      constructor
      · rintro ⟨p, h1, h2, h3⟩; exact ⟨p, h1, h2, by rw [hix p (h.nm n e p h1 h2)]; exact h3⟩
      · rintro ⟨p, h1, h2, h3⟩; exact ⟨p, h1, h2, by rw [← hix p (h.nm n e p h1 h2)]; exact h3⟩
    · obtain rfl : n = nx.length := by omega
      rw [getDP_last, hr, k.num]
      exact ⟨fun h => h.resolve_left (fun h => by cases h), .inr⟩
  · by_cases e : i < ps.length
    · rcases h.rc i e with h1 | ⟨m, h1, h2, h3⟩
      · exact .inl h1
      · exact .inr ⟨m, h1, by simp; omega, by rw [getDP_left h2]; exact h3⟩
    · refine .inr ⟨nx.length, by omega, by simp, ?_⟩
      rw [getDP_last, k.num]
      have hm := List.getElem_mem hi
      have hnin : q.1[i] ∉ ps := fun hp => by
        have h1 := hix _ hp
        rw [k.nd.idxOf_getElem i hi] at h1
        have := idxOf_lt hp
        omega
      obtain ⟨h1, h2⟩ := (k.new _ hm).resolve_left hnin
      exact .inr ⟨_, h1, h2, by rw [k.nd.idxOf_getElem i hi]⟩
variable (h : RunE fit next start ps fr nx) (hl : nx.length = ps.length)
include h hl
theorem RunE.okG : okG nx := fun l hl' x hx => by
  obtain ⟨n, hn, rfl⟩ := List.mem_iff_getElem.1 hl'
  rw [← show nx.getD n [] = nx[n] by rw [List.getD_eq_getElem?_getD, List.getElem?_eq_getElem hn]; rfl] at hx
  obtain ⟨q, h1, h2, rfl⟩ := (h.nn n hn x).1 hx
  have := idxOf_lt (h.nm n hn q h1 h2)
  omega
theorem RunE.okF : okL nx.length fr := fun x hx => by
  obtain ⟨q, h1, h2, rfl⟩ := (h.sn x).1 hx
  have := idxOf_lt (h.sm q h1 h2)
  omega
theorem RunE.reach : ∀ i : Nat, i < nx.length → ∃ a : Nat, (a : Int) ∈ fr ∧ Rc (Eg nx) a i := fun i => by
  induction i using Nat.strongRecOn with
  | ind i ih =>
    intro hi
    rcases h.rc i (by omega) with h1 | ⟨m, h1, h2, h3⟩
    · exact ⟨i, h1, Rc.refl i⟩
    · obtain ⟨a, ha, hr⟩ := ih m h1 h2
      exact ⟨a, ha, hr.trans (Rc.one h3)⟩
end
/-- a way through pairs -/
structure PWay (fit : Pr2 → Bool) (next : Pr2 → List Pr2) (start : List Pr2) (Ss : List (Pr2 → Bool)) (r : Nat → Pr2) : Prop where
  first : r 0 ∈ start
  fits : ∀ i, fit (r i) = true
  step : ∀ i, r (i + 1) ∈ next (r i)
  fair : ∀ S ∈ Ss, ∀ i, ∃ j, i ≤ j ∧ S (r j) = true
def setsL (Ss : List (Pr2 → Bool)) (ps : List Pr2) : List (List Bool) := Ss.map fun S => ps.map S
def GoodC (g : Graph) (part : List Int) (sets : List (List Bool)) (c : Int) : Prop :=
  (∃ u, u < g.length ∧ part.getD u 0 = c ∧ ∃ to ∈ g.getD u [], part.getD to.toNat 0 = c) ∧ ∀ S ∈ sets, ∃ x, x < g.length ∧ S.getD x false = true ∧ part.getD x 0 = c
abbrev setP' (sets : List (List Bool)) : List (Nat → Prop) := sets.map fun S x => S.getD x false = true
theorem good_core' {g : Graph} {part : List Int} {sets : List (List Bool)} (hg : okG g) (hp : PartsOK g part) {i : Nat} (hi : i < g.length) : Core (Eg g) (setP' sets) i ↔ GoodC g part sets (part.getD i 0) := by
  rw [core_part hg hp hi]
  unfold GoodC
  refine and_congr_right fun _ => ⟨fun h S hS => ?_, fun h P hP => ?_⟩
  · obtain ⟨x, h1, h2, h3⟩ := h _ (List.mem_map.2 ⟨S, hS, rfl⟩)
    exact ⟨x, h1, h2, h3⟩
  · obtain ⟨S, hS, rfl⟩ := List.mem_map.1 hP
    obtain ⟨x, h1, h2, h3⟩ := h S hS
    exact ⟨x, h1, h2, h3⟩
theorem setsL_get {S : Pr2 → Bool} {ps : List Pr2} {x : Nat} (hx : x < ps.length) : (ps.map S).getD x false = S (ps.getD x (0, 0)) := by
  rw [List.getD_eq_getElem?_getD, List.getElem?_map, List.getElem?_eq_getElem hx, List.getD_eq_getElem?_getD, List.getElem?_eq_getElem hx]; rfl
section
variable {fit : Pr2 → Bool} {next : Pr2 → List Pr2} {start ps : List Pr2} {fr : List Int} {nx : List (List Int)} {Ss : List (Pr2 → Bool)} {part : List Int}
theorem pway_in (h : RunE fit next start ps fr nx) (hl : nx.length = ps.length) {r : Nat → Pr2} (hr : PWay fit next start Ss r) : ∀ i, r i ∈ ps
  | 0 => h.sm _ hr.first (hr.fits 0)
  | i + 1 => by
    have h1 := pway_in h hl hr i
    have h2 := idxOf_at h1
    refine h.nm (ps.idxOf (r i)) (by omega) _ ?_ (hr.fits (i + 1))
    rw [h2.2]
    exact hr.step i
theorem pway_good (h : RunE fit next start ps fr nx) (hl : nx.length = ps.length) (hp : PartsOK nx part) :
    (∃ r, PWay fit next start Ss r) ↔ ∃ c : Int, 0 ≤ c ∧ c < nx.length ∧ GoodC nx part (setsL Ss ps) c := by
  have hg := h.okG hl
  constructor
  · rintro ⟨r, hr⟩
    have hin := pway_in h hl hr
    have h8 : Way8 (Eg nx) (setP' (setsL Ss ps)) (fun i => ps.idxOf (r i)) := by
      refine ⟨fun i => ?_, fun P hP i => ?_⟩
      · have h2 := idxOf_at (hin i)
        refine (h.nn (ps.idxOf (r i)) (by omega) _).2 ⟨r (i + 1), ?_, hr.fits _, rfl⟩
        rw [h2.2]; exact hr.step i
      · obtain ⟨L, hL, rfl⟩ := List.mem_map.1 hP
        obtain ⟨S, hS, rfl⟩ := List.mem_map.1 hL
        obtain ⟨j, h1, h2⟩ := hr.fair S hS i
        have h3 := idxOf_at (hin j)
        refine ⟨j, h1, ?_⟩
        show (ps.map S).getD (ps.idxOf (r j)) false = true
        rw [setsL_get h3.1, h3.2]; exact h2
    obtain ⟨v, _, hc, i, hi⟩ := way8_core (N := ps.length) (fun i => idxOf_lt (hin i)) h8
    have hv : v < nx.length := by have := idxOf_lt (hin i); omega
    exact ⟨part.getD v 0, hp.ge v (by rw [hp.len]; exact hv), hp.lt v (by rw [hp.len]; exact hv), (good_core' hg hp hv).1 hc⟩
  · rintro ⟨c, _, _, hc⟩
    obtain ⟨u, hu, huc, _⟩ := hc.1
    rw [← huc] at hc
    have hcore := (good_core' hg hp hu).2 hc
    obtain ⟨a, ha, hrc⟩ := h.reach hl u hu
    obtain ⟨r, hr0, hr⟩ := core_way8 hrc hcore
    have hlt : ∀ i, r i < nx.length := fun i => by
      cases i with
      | zero => rw [hr0]; have := h.okF hl _ ha; omega
      | succ i => exact (hr.1 i).lt hg
    refine ⟨fun i => ps.getD (r i) (0, 0), ?_, fun i => h.ok _ (getDP_mem (by have := hlt i; omega)), fun i => ?_, fun S hS i => ?_⟩
    · rw [hr0]
      obtain ⟨p, h1, h2, h3⟩ := (h.sn _).1 ha
      have h4 := idxOf_at (h.sm p h1 h2)
      rw [show a = ps.idxOf p by omega, h4.2]
      exact h1
    · obtain ⟨q, h1, h2, h3⟩ := (h.nn (r i) (hlt i) _).1 (hr.1 i)
      have h4 := idxOf_at (h.nm (r i) (hlt i) q h1 h2)
      rw [show r (i + 1) = ps.idxOf q by omega, h4.2]
      exact h1
    · obtain ⟨j, h1, h2⟩ := hr.2 _ (List.mem_map.2 ⟨ps.map S, List.mem_map.2 ⟨S, hS, rfl⟩, rfl⟩) i
      refine ⟨j, h1, ?_⟩
      rw [setsL_get (by have := hlt j; omega)] at h2
      exact h2
end
/-- a set closed under the edges that stay in a part has all of the part, or none -/
theorem part_closed {g : Graph} {part : List Int} (hg : okG g) (hp : PartsOK g part) {C : List Int} {c : Int} (hC : ∀ x ∈ C, ∀ k ∈ g.getD x.toNat [], part.getD k.toNat 0 = c → k ∈ C)
    {u v : Nat} (hu : u < g.length) (hv : v < g.length) (pu : part.getD u 0 = c) (pv : part.getD v 0 = c) (h : (u : Int) ∈ C) : (v : Int) ∈ C := by
  have hN : ∀ u v, Eg g u v → v < g.length := fun u v h => h.lt hg
  obtain ⟨h1, h2⟩ := (hp.same u v hu hv).1 (pu.trans pv.symm)
  rw [rch1 hg] at h1 h2
  obtain ⟨p, n, hw⟩ := h1
  have hin : ∀ i, i ≤ n → Rc (Eg g) u (p i) ∧ Rc (Eg g) (p i) v := fun i hi =>
    ⟨⟨p, i, hw.first, rfl, fun j hj => hw.step j (by omega)⟩, ⟨fun j => p (i + j), n - i, by simp, by rw [show i + (n - i) = n by omega]; exact hw.last, fun j hj => hw.step (i + j) (by omega)⟩⟩
  have hlt : ∀ i, i ≤ n → p i < g.length := fun i hi => Rc.lt hN hu (hin i hi).1
  have hpc : ∀ i, i ≤ n → part.getD (p i) 0 = c := fun i hi => by
    rw [← pu]
    refine ((hp.same (p i) u (hlt i hi) hu).2 ?_)
    rw [rch1 hg, rch1 hg]
    exact ⟨(hin i hi).2.trans h2, (hin i hi).1⟩
  have : ∀ i, i ≤ n → ((p i : Nat) : Int) ∈ C := fun i => by
    induction i with
    | zero => intro _; rw [hw.first]; exact h
    | succ i ih =>
      intro hi
      refine hC _ (ih (by omega)) _ ?_ (by rw [Int.toNat_natCast]; exact hpc _ hi)
      rw [Int.toNat_natCast]
      exact hw.step i (by omega)
  have h3 := this n (Nat.le_refl _)
  rwa [hw.last] at h3
theorem alB_only {part : List Int} {c : Int} (h0 : 0 ≤ c) {k : Nat} : alB part c k = true ↔ part.getD k 0 = c := by
  unfold alB
  simp
  omega
/-- within a part one comes to each set -/
theorem way_inPart {g : Graph} {part : List Int} (hg : okG g) (hp : PartsOK g part) {c : Int} (h0 : 0 ≤ c) {fr : List Int} {to : Nat → Bool} {u x : Nat} (hu : u < g.length) (hx : x < g.length) (pu : part.getD u 0 = c) (px : part.getD x 0 = c) (hf : (u : Int) ∈ fr) (ht : to x = true) :
    ¬ WyNo g fr to (alB part c) := by
  rintro ⟨C, h1, h2⟩
  have := part_closed hg hp (C := C) (c := c) (fun y hy k hk hkc => (h2 y hy).2 k hk ((alB_only h0).2 hkc)) hu hx pu px (h1 _ hf)
  have h3 := (h2 _ this).1
  rw [Int.toNat_natCast, ht] at h3
  cases h3
/-- from the first pairs one comes to each node -/
theorem way_any {g : Graph} {part fr : List Int} {to : Nat → Bool} {x a : Nat} (ha : (a : Int) ∈ fr) (hr : Rc (Eg g) a x) (ht : to x = true) : ¬ WyNo g fr to (alB part (-1)) := by
  rintro ⟨C, h1, h2⟩
  obtain ⟨p, n, hw⟩ := hr
  have : ∀ i, i ≤ n → ((p i : Nat) : Int) ∈ C := fun i => by
    induction i with
    | zero => intro _; rw [hw.first]; exact h1 _ ha
    | succ i ih =>
      intro hi
      exact (h2 _ (ih (by omega))).2 _ (by rw [Int.toNat_natCast]; exact hw.step i (by omega)) (by unfold alB; simp)
  have h3 := this n (Nat.le_refl _)
  rw [hw.last] at h3
  have h4 := (h2 _ h3).1
  rw [Int.toNat_natCast, ht] at h4
  cases h4
/-- a round through a part, so far -/
structure RoI (g : Graph) (part : List Int) (n : Nat) (seen : List (List Bool)) (out : List Int) : Prop where
  ne : 0 < out.length
  len : out.length ≤ 1 + seen.length * g.length
  rg : okL g.length out
  pt : ∀ x ∈ out, part.getD x.toNat 0 = part.getD n 0
  st : out.getD 0 0 = (n : Int)
  ed : ∀ i, i + 1 < out.length → out.getD (i + 1) 0 ∈ g.getD (out.getD i 0).toNat []
  all : ∀ S ∈ seen, ∃ x ∈ out, S.getD x.toNat false = true
/-- a round -/
structure RoOK (g : Graph) (n : Nat) (sets : List (List Bool)) (out : List Int) : Prop where
  ne : 0 < out.length
  len : out.length ≤ 1 + (sets.length + 1) * g.length
  rg : okL g.length out
  st : out.getD 0 0 = (n : Int)
  ed : ∀ i, i + 1 < out.length → out.getD (i + 1) 0 ∈ g.getD (out.getD i 0).toNat []
  cl : (n : Int) ∈ g.getD (out.getD (out.length - 1) 0).toNat []
  all : ∀ S ∈ sets, ∃ x ∈ out, S.getD x.toNat false = true
section
variable {g : Graph} {part : List Int} {n : Nat} {seen : List (List Bool)} {out : List Int}
theorem RoI.start (hn : n < g.length) : RoI g part n [] [(n : Int)] :=
  ⟨by simp, by simp, fun x hx => by rw [List.mem_singleton] at hx; subst hx; omega, fun x hx => by rw [List.mem_singleton] at hx; subst hx; simp, rfl, fun i hi => by simp at hi, fun S hS => by cases hS⟩
theorem RoI.skip (h : RoI g part n seen out) {S : List Bool} (hS : ∃ x ∈ out, S.getD x.toNat false = true) : RoI g part n (seen ++ [S]) out :=
  ⟨h.ne, by have := h.len; rw [List.length_append, Nat.add_mul]; omega, h.rg, h.pt, h.st, h.ed, fun S' hS' => by
    rcases List.mem_append.1 hS' with h1 | h1
    · exact h.all S' h1
    · rw [List.mem_singleton] at h1; subst h1; exact hS⟩
theorem getI_app1 {l k : List Int} {i : Nat} (h : i < l.length) : (l ++ k).getD i 0 = l.getD i 0 := getDP_left h
theorem getI_app2 {l k : List Int} {i : Nat} (h : l.length ≤ i) : (l ++ k).getD i 0 = k.getD (i - l.length) 0 := by
  rw [List.getD_eq_getElem?_getD, List.getElem?_append_right h, ← List.getD_eq_getElem?_getD]
theorem getI_drop1 {l : List Int} {i : Nat} : (l.drop 1).getD i 0 = l.getD (i + 1) 0 := by
  rw [List.getD_eq_getElem?_getD, List.getElem?_drop, ← List.getD_eq_getElem?_getD, Nat.add_comm]
theorem wy_pt {fr : List Int} {to : Nat → Bool} {c : Int} {l : List Int} (h0 : 0 ≤ c) (h : WyOK g fr to (alB part c) l) (hf : ∀ x ∈ fr, part.getD x.toNat 0 = c) : ∀ x ∈ l, part.getD x.toNat 0 = c := fun x hx => by
  obtain ⟨i, hi, rfl⟩ := List.mem_iff_getElem.1 hx
  have e : l[i] = l.getD i 0 := by rw [List.getD_eq_getElem?_getD, List.getElem?_eq_getElem hi]; rfl
  rw [e]
  cases i with
  | zero => exact hf _ h.st
  | succ i => exact (alB_only h0).1 (h.ed i hi).2
/-- on to the next set -/
theorem RoI.go (h : RoI g part n seen out) (h0 : 0 ≤ part.getD n 0) {S : List Bool} {l : List Int} (hl : WyOK g [out.getD (out.length - 1) 0] (fun k => S.getD k false) (alB part (part.getD n 0)) l) : RoI g part n (seen ++ [S]) (out ++ l.drop 1) := by
  have hne := h.ne
  have hln := hl.ne
  have hst : l.getD 0 0 = out.getD (out.length - 1) 0 := by simpa using hl.st
  have hom : out.getD (out.length - 1) 0 ∈ out := by rw [List.getD_eq_getElem?_getD, List.getElem?_eq_getElem (by omega)]; exact List.getElem_mem _
  have hlp := wy_pt h0 hl (fun x hx => by rw [List.mem_singleton] at hx; subst hx; exact h.pt _ hom)
  have hdl : (l.drop 1).length = l.length - 1 := List.length_drop
  refine ⟨by rw [List.length_append]; omega, ?_, fun x hx => ?_, fun x hx => ?_, by rw [getI_app1 hne]; exact h.st, fun i hi => ?_, fun S' hS' => ?_⟩
  · have := h.len; have := hl.len
    rw [List.length_append, List.length_append, List.length_drop, Nat.add_mul]; simp; omega
  · rcases List.mem_append.1 hx with hx | hx
    · exact h.rg x hx
    · exact hl.rg x (List.mem_of_mem_drop hx)
  · rcases List.mem_append.1 hx with hx | hx
    · exact h.pt x hx
    · exact hlp x (List.mem_of_mem_drop hx)
  · rw [List.length_append, hdl] at hi
    by_cases e : i + 1 < out.length
    · rw [getI_app1 e, getI_app1 (by omega)]; exact h.ed i e
    · rw [getI_app2 (i := i + 1) (by omega), getI_drop1]
      by_cases e2 : i < out.length
      · obtain rfl : i = out.length - 1 := by omega
        rw [getI_app1 e2, ← hst, show out.length - 1 + 1 - out.length + 1 = 0 + 1 by omega]
        exact (hl.ed 0 (by omega)).1
      · rw [getI_app2 (i := i) (by omega), getI_drop1, show i + 1 - out.length + 1 = (i - out.length + 1) + 1 by omega]
        exact (hl.ed _ (by omega)).1
  · rcases List.mem_append.1 hS' with h1 | h1
    · obtain ⟨x, hx, hs⟩ := h.all S' h1
      exact ⟨x, List.mem_append_left _ hx, hs⟩
    · rw [List.mem_singleton] at h1; subst h1
      by_cases e : l.length = 1
      · refine ⟨_, List.mem_append_left _ hom, ?_⟩
        have := hl.en
        rw [e] at this
        rw [← hst]; exact this
      · refine ⟨l.getD (l.length - 1) 0, List.mem_append_right _ ?_, hl.en⟩
        rw [List.mem_iff_getElem]
        refine ⟨l.length - 2, by omega, ?_⟩
        rw [List.getElem_drop, List.getD_eq_getElem?_getD, List.getElem?_eq_getElem (by omega)]
        simp only [Option.getD_some]
        congr 1
        omega
/-- back to the first -/
theorem RoI.close (h : RoI g part n seen out) {fr : List Int} {al : Nat → Bool} {l : List Int} (hf : ∀ x ∈ fr, x ∈ g.getD (out.getD (out.length - 1) 0).toNat []) (hl : WyOK g fr (fun k => decide (k = n)) al l) : RoOK g n seen (out ++ l.take (l.length - 1)) := by
  have hne := h.ne
  have hln := hl.ne
  have hst := hf _ hl.st
  have htl : (l.take (l.length - 1)).length = l.length - 1 := by rw [List.length_take]; omega
  have hgt : ∀ i, i < l.length - 1 → (l.take (l.length - 1)).getD i 0 = l.getD i 0 := fun i hi => by
    rw [List.getD_eq_getElem?_getD, List.getElem?_take_of_lt hi, ← List.getD_eq_getElem?_getD]
  have hen : l.getD (l.length - 1) 0 = (n : Int) := by
    have h1 := hl.en
    have h2 : 0 ≤ l.getD (l.length - 1) 0 := by
      rw [List.getD_eq_getElem?_getD, List.getElem?_eq_getElem (by omega)]
      exact (hl.rg _ (List.getElem_mem (by omega))).1
    simp only [decide_eq_true_eq] at h1
    omega
  refine ⟨by rw [List.length_append]; omega, ?_, fun x hx => ?_, by rw [getI_app1 hne]; exact h.st, fun i hi => ?_, ?_, fun S hS => ?_⟩
  · have := h.len; have := hl.len
    rw [List.length_append, htl, Nat.add_mul]; omega
  · rcases List.mem_append.1 hx with hx | hx
    · exact h.rg x hx
    · exact hl.rg x (List.mem_of_mem_take hx)
  · rw [List.length_append, htl] at hi
    by_cases e : i + 1 < out.length
    · rw [getI_app1 e, getI_app1 (by omega)]; exact h.ed i e
    · rw [getI_app2 (i := i + 1) (by omega), hgt _ (by omega)]
      by_cases e2 : i < out.length
      · obtain rfl : i = out.length - 1 := by omega
        rw [getI_app1 e2, show out.length - 1 + 1 - out.length = 0 by omega]
        exact hst
      · rw [getI_app2 (i := i) (by omega), hgt _ (by omega), show i + 1 - out.length = (i - out.length) + 1 by omega]
        exact (hl.ed _ (by omega)).1
  · rw [List.length_append, htl]
    by_cases e : l.length = 1
    · rw [getI_app1 (by omega), show out.length + (l.length - 1) - 1 = out.length - 1 by omega]
      rw [← hen, e]; exact hst
    · rw [getI_app2 (by omega), hgt _ (by omega), show out.length + (l.length - 1) - 1 - out.length = l.length - 2 by omega, ← hen]
      have := (hl.ed (l.length - 2) (by omega)).1
      rwa [show l.length - 2 + 1 = l.length - 1 by omega] at this
  · obtain ⟨x, hx, hs⟩ := h.all S hS
    exact ⟨x, List.mem_append_left _ hx, hs⟩
end
end Go.Proofs.YtllpfgcngokhnaaGreat

/-
  watchkeep.unrolled: a word written otherwise.
-/
set_option linter.unusedVariables false
set_option linter.unusedSimpArgs false
namespace Go.Proofs.YtllpfgcngokhnaaGreat
open Go.RowKit

end Go.Proofs.YtllpfgcngokhnaaGreat

/-
  Package auto: odd, Check, Fits, member, product.
-/
set_option linter.unusedVariables false
set_option linter.unusedSimpArgs false
namespace Go.Proofs.YtllpfgcngokhnaaGreat
open Go.RowKit

abbrev LAuto := List Int × List (List Int) × List Nat × List Nat × List (List Int)
abbrev autoV (a1 : Option Addr) (c1 : Nat) (a2 : Option Addr) (c2 : Nat) (a3 : Option Addr) (c3 : Nat) (a4 : Option Addr) (c4 : Nat) (a5 : Option Addr) (c5 : Nat) (n1 n2 n3 n4 n5 : Nat) : Value := .agg [.slice a1 n1 c1, .slice a2 n2 c2, .slice a3 n3 c3, .slice a4 n4 c4, .slice a5 n5 c5].toArray
/-- the cells of an automaton: what they read as -/
structure AutoAt (w : World) (F : Nat → Prop) (v : Value) (A : LAuto) : Prop where
  ok : ∃ a1 c1 a2 c2 a3 c3 a4 c4 a5 c5, v = autoV a1 c1 a2 c2 a3 c3 a4 c4 a5 c5 A.1.length A.2.1.length A.2.2.1.length A.2.2.2.1.length A.2.2.2.2.length ∧ Sl w F a1 c1 A.1 ∧ Sl w F a2 c2 A.2.1 ∧ Sl w F a3 c3 A.2.2.1 ∧ Sl w F a4 c4 A.2.2.2.1 ∧ Sl w F a5 c5 A.2.2.2.2
def chkA (A : LAuto) : Int :=
  if A.2.1.length > 2048 ∨ A.2.2.2.2.length > 80 then 2 else if A.2.2.1.length ≠ A.2.1.length ∨ A.2.2.2.1.length ≠ A.2.1.length ∨ oddB A.2.1.length A.1 = true then 1
  else if A.2.1.any (oddB A.2.1.length) = true ∨ A.2.2.2.2.any (oddB A.2.1.length) = true then 1 else 0
structure OkA (A : LAuto) : Prop where
  n : A.2.1.length ≤ 2048
  f : A.2.2.2.2.length ≤ 80
  mu : A.2.2.1.length = A.2.1.length
  no : A.2.2.2.1.length = A.2.1.length
  st : okL A.2.1.length A.1
  nx : ∀ r ∈ A.2.1, okL A.2.1.length r
  fr : ∀ r ∈ A.2.2.2.2, okL A.2.1.length r
theorem any_odd {n : Nat} {g : List (List Int)} : g.any (oddB n) = false ↔ ∀ r ∈ g, okL n r := by
  rw [List.any_eq_false]
  refine forall_congr' fun r => forall_congr' fun _ => ?_
  rw [← oddB_false, Bool.not_eq_true]
theorem chkA_ok {A : LAuto} (h : chkA A = 0) : OkA A := by
  unfold chkA at h
  split at h
  · cases h
  split at h
  · cases h
  split at h
  · cases h
  rename_i h1 h2 h3
  rw [not_or] at h1 h2 h3
  rw [not_or] at h2
  exact ⟨by omega, by omega, by omega, by omega, oddB_false.1 (by simpa using h2.2.2), any_odd.1 (by simpa using h3.1), any_odd.1 (by simpa using h3.2)⟩
theorem chkA_of {A : LAuto} (h : OkA A) : chkA A = 0 := by
  unfold chkA
  have a := oddB_false.2 h.st; have b := any_odd.2 h.nx; have c := any_odd.2 h.fr; have d := h.mu; have e := h.no
  rw [if_neg (by have := h.n; have := h.f; omega), if_neg (by rw [a]; simp; omega), if_neg (by rw [b, c]; simp)]

theorem aodd1 (n : Nat) (x : Int) (b : Nat) (w : World) (hb : Blk w b 3 [.int .i64 n]) :
    Rt Tryz.prog 109 [.int .i64 x, .pointer (some ⟨b, 0, none⟩)].toArray w fun v w' => v = .bool (decide (x < 0 ∨ x ≥ n)) ∧ w = w' := by
  refine Rt.enter2 Tryz.func109 Tryz.ntmps109 rfl rfl ?_
  (repeat (first | (apply WL.pure; rfl; rfl; rfl) | (apply WL.nil) | (apply EX.thenN) | (apply CW.seq) | (apply CW.region)))
  refine WL.look (s := 6) rfl (fun h => ?_) (fun h => ?_)
  · (repeat (first | (apply WL.pure; rfl; rfl; rfl) | (apply WL.nil) | (apply EX.thenN) | (apply WL.pass; rfl; rfl) | (apply CW.ret)))
    refine EX.ret1 rfl rfl ?_
    simp at h
    simp [h]
  · (repeat (first | (apply WL.pure; rfl; rfl; rfl) | (apply WL.nil) | (apply EX.thenN) | (apply WL.ld; rfl; rfl; rfl; assumption; rfl) | (apply CW.ret)))
    refine EX.ret1 rfl rfl ?_
    simp at h
    simp [Int.not_lt.2 h]
theorem aodd_ok (w0 : World) {lo : Option Addr} {lcap : Nat} {l : List Int} (n : Nat) (hl : Sl w0 (Old w0) lo lcap l) :
    Rt Tryz.prog 71 [.slice lo l.length lcap, .int .i64 n].toArray w0 fun v w' => v = .bool (oddB n l) ∧ Ext w0 w' := by
  refine Rt.enter2 Tryz.func71 Tryz.ntmps71 rfl rfl ?_
  (repeat (first | (apply CW.seq) | (apply CW.region)))
  refine WL.boxB rfl rfl rfl fun w1 hb hE => ?_
  (repeat (first | (apply WL.pure; rfl; rfl; rfl) | (apply WL.nil) | (apply EX.thenN) | (apply CW.seq) | (apply CW.region) | (apply WL.makeFunc; rfl; rfl; rfl; rfl)))
  refine WL.call rfl rfl rfl (containsFunc_int w1 (fun x => decide (x < 0 ∨ x ≥ n)) (hl.up hE) (fun w hw i h => ?_)) ?_
  · refine FnV.mk (Rt.mono (aodd1 n _ _ w (hb.ext hw)) ?_)
    rintro v w' ⟨rfl, rfl⟩
    exact ⟨rfl, Ext.refl _⟩
  · rintro v w' ⟨rfl, hB⟩
    (repeat (first | (apply WL.pure; rfl; rfl; rfl) | (apply WL.nil) | (apply EX.thenN) | (apply CW.ret)))
    exact EX.ret1 rfl rfl ⟨rfl, hE.trans hB⟩
theorem achk1 (w : World) {lo : Option Addr} {lcap : Nat} {l : List Int} (n : Nat) (b : Nat) (hb : Blk w b 3 [.int .i64 n]) (hl : Sl w (Old w) lo lcap l) :
    Rt Tryz.prog 72 [.slice lo l.length lcap, .pointer (some ⟨b, 0, none⟩)].toArray w fun v w' => v = .bool (oddB n l) ∧ Ext w w' := by
  refine Rt.enter2 Tryz.func72 Tryz.ntmps72 rfl rfl ?_
  (repeat (first | (apply WL.pure; rfl; rfl; rfl) | (apply WL.nil) | (apply EX.thenN) | (apply CW.seq) | (apply CW.region) | (apply WL.ld; rfl; rfl; rfl; assumption; rfl)))
  refine WL.call rfl rfl rfl (aodd_ok w n hl) ?_
  rintro _ w' ⟨rfl, hE⟩
  (repeat (first | (apply WL.pure; rfl; rfl; rfl) | (apply WL.nil) | (apply EX.thenN) | (apply CW.ret)))
  exact EX.ret1 rfl rfl ⟨rfl, hE⟩
theorem achk2 (w : World) {lo : Option Addr} {lcap : Nat} {l : List Int} (n : Nat) (b : Nat) (hb : Blk w b 3 [.int .i64 n]) (hl : Sl w (Old w) lo lcap l) :
    Rt Tryz.prog 73 [.slice lo l.length lcap, .pointer (some ⟨b, 0, none⟩)].toArray w fun v w' => v = .bool (oddB n l) ∧ Ext w w' := by
  refine Rt.enter2 Tryz.func73 Tryz.ntmps73 rfl rfl ?_
  (repeat (first | (apply WL.pure; rfl; rfl; rfl) | (apply WL.nil) | (apply EX.thenN) | (apply CW.seq) | (apply CW.region) | (apply WL.ld; rfl; rfl; rfl; assumption; rfl)))
  refine WL.call rfl rfl rfl (aodd_ok w n hl) ?_
  rintro _ w' ⟨rfl, hE⟩
  (repeat (first | (apply WL.pure; rfl; rfl; rfl) | (apply WL.nil) | (apply EX.thenN) | (apply CW.ret)))
  exact EX.ret1 rfl rfl ⟨rfl, hE⟩
theorem aCheck_ok (w0 : World) {v0 : Value} {A : LAuto} (ha : AutoAt w0 (Old w0) v0 A) :
    Rt Tryz.prog 39 [v0].toArray w0 fun v w' => v = .int .i64 (chkA A) ∧ Ext w0 w' := by
  obtain ⟨a1, c1, a2, c2, a3, c3, a4, c4, a5, c5, rfl, h1, h2, h3, h4, h5⟩ := ha.ok
  obtain ⟨st, nx, mu, no, fr⟩ := A
  dsimp only at *
  have hm2 := h2.len63
  have hm3 := h3.len63
  have hm4 := h4.len63
  have hm5 := h5.len63
  refine Rt.enter1 Tryz.func39 Tryz.ntmps39 rfl rfl ?_
  have hE := Ext.refl w0
  (repeat (first | (apply CW.seq) | (apply CW.region)))
  refine WL.boxB rfl rfl rfl fun w1 hb1 e1 => ?_
  have hE := hE.trans e1
  have z1 := e1.size
  have hl1 := hb1.lt
  (repeat (first | (apply WL.pure; rfl; rfl; rfl) | (apply WL.nil) | (apply EX.thenN) | (apply CW.seq) | (apply CW.region) | (apply WL.lenS; rfl; rfl; rfl) | (apply WL.fa; rfl; rfl; rfl) | (apply WL.ld; rfl; rfl; rfl; assumption; rfl)))
  refine WL.alloc rfl rfl (fun w2 hb3 e2 => ?_)
  have hb1 := hb1.ext e2
  have hE := hE.trans e2
  skip
  refine WL.st rfl rfl rfl hb3 rfl rfl (ones_of rfl) (fun w3 hb3 hg3 => ?_)
  have hb1 := hb1.kept hg3 (by simp; omega)
  have hE : Ext w0 w3 := hE.grown hg3 hE.size (fun g hg => by cases hg; exact z1)
  unfold chkA
  dsimp only
  (repeat (first | (apply WL.pure; rfl; rfl; rfl) | (apply WL.nil) | (apply EX.thenN) | (apply CW.seq) | (apply CW.region) | (apply WL.ld; rfl; rfl; rfl; assumption; rfl)))
  (refine WL.lookG rfl rfl (fun h => ?_) (fun h => ?_))
  · (repeat (first | (apply WL.pure; rfl; rfl; rfl) | (apply WL.nil) | (apply EX.thenN) | (apply CW.seq) | (apply CW.region) | (apply WL.pass; rfl; rfl) | (apply CW.condT; rfl) | (apply CW.ret) | (apply EX.thenR)))
    skip
    refine EX.ret1 rfl rfl ⟨?_, hE⟩
    simp at h
    rw [if_pos (.inl (by omega))]
  (repeat (first | (apply WL.pure; rfl; rfl; rfl) | (apply WL.nil) | (apply EX.thenN) | (apply WL.lenS; rfl; rfl; rfl) | (apply WL.fa; rfl; rfl; rfl) | (apply WL.ld; rfl; rfl; rfl; assumption; rfl)))
  refine CW.cond rfl (fun h5' => ?_) (fun h5' => ?_)
  · (repeat (first | (apply WL.pure; rfl; rfl; rfl) | (apply WL.nil) | (apply EX.thenN) | (apply CW.seq) | (apply CW.region) | (apply CW.ret) | (apply EX.thenR)))
    refine EX.ret1 rfl rfl ⟨?_, hE⟩
    simp at h5'
    rw [if_pos (.inr (by omega))]
  simp at h h5'
  rw [if_neg (by omega)]
  clear h h5'
  (repeat (first | (apply WL.pure; rfl; rfl; rfl) | (apply EX.thenN) | (apply CW.seq) | (apply CW.region) | (apply WL.lenS; rfl; rfl; rfl) | (apply WL.fa; rfl; rfl; rfl) | (apply WL.ld; rfl; rfl; rfl; assumption; rfl) | (apply CW.skip)))
  (refine WL.lookG rfl rfl (fun h => ?_) (fun h => ?_))
  · simp at h
    (repeat (first | (apply WL.pure; rfl; rfl; rfl) | (apply WL.nil) | (apply EX.thenN) | (apply CW.seq) | (apply CW.region) | (apply WL.pass; rfl; rfl) | (apply CW.condT; rfl) | (apply CW.ret) | (apply EX.thenR)))
    refine EX.ret1 rfl rfl ⟨?_, hE⟩
    rw [if_pos (.inl (by omega))]
  simp at h
  have h0 := h
  clear h
  (repeat (first | (apply WL.pure; rfl; rfl; rfl) | (apply WL.lenS; rfl; rfl; rfl) | (apply WL.fa; rfl; rfl; rfl) | (apply WL.ld; rfl; rfl; rfl; assumption; rfl)))
  (refine WL.lookG rfl rfl (fun h => ?_) (fun h => ?_))
  · have hx := h
    simp at hx
    (repeat (first | (apply WL.pure; rfl; rfl; rfl) | (apply WL.nil) | (apply EX.thenN) | (apply CW.seq) | (apply CW.region) | (apply WL.pass; rfl; rfl) | (apply CW.condT; rfl) | (apply CW.ret) | (apply EX.thenR)))
    refine EX.ret1 rfl rfl ⟨?_, hE⟩
    rw [if_pos (.inr (.inl (by omega)))]
  have hx := h
  simp at hx
  (repeat (first | (apply WL.fa; rfl; rfl; rfl) | (apply WL.ld; rfl; rfl; rfl; assumption; rfl)))
  refine WL.call rfl rfl rfl (aodd_ok w3 nx.length (h1.up hE)) ?_
  rintro _ w4 ⟨rfl, e4⟩
  have hb1 := hb1.ext e4
  have hb3 := hb3.ext e4
  have hE := hE.trans e4
  (repeat (first | (apply WL.pure; rfl; rfl; rfl) | (apply WL.nil) | (apply EX.thenN)))
  refine CW.cond rfl (fun h7 => ?_) (fun h7 => ?_)
  · (repeat (first | (apply WL.pure; rfl; rfl; rfl) | (apply WL.nil) | (apply EX.thenN) | (apply CW.seq) | (apply CW.region) | (apply CW.ret) | (apply EX.thenR)))
    refine EX.ret1 rfl rfl ⟨?_, hE⟩
    rw [if_pos (.inr (.inr h7))]
  rw [if_neg (by rw [h7]; simp; omega)]
  (repeat (first | (apply EX.thenN) | (apply CW.seq) | (apply CW.region) | (apply WL.makeFunc; rfl; rfl; rfl; rfl) | (apply WL.fa; rfl; rfl; rfl) | (apply WL.ld; rfl; rfl; rfl; assumption; rfl) | (apply CW.skip)))
  refine WL.call rfl rfl rfl (containsFunc_ll w4 (oddB nx.length) (h2.up hE) (fun w hw i hi u hu => ?_)) ?_
  · obtain ⟨lo, lc, rfl, hl⟩ := hu.sl
    exact FnV.mk (Rt.mono (achk1 w nx.length _ (hb3.ext hw) (hl.lift fun b hb => Nat.lt_of_lt_of_le hb hw.size)) fun v w' h => h)
  rintro _ w5 ⟨rfl, e5⟩
  have hb1 := hb1.ext e5
  have hb3 := hb3.ext e5
  have hE := hE.trans e5
  (repeat (apply WL.pure; rfl; rfl; rfl))
  (refine WL.lookG rfl rfl (fun h => ?_) (fun h => ?_))
  · have h8 := h
    (repeat (first | (apply WL.pure; rfl; rfl; rfl) | (apply WL.nil) | (apply EX.thenN) | (apply CW.seq) | (apply CW.region) | (apply WL.pass; rfl; rfl) | (apply CW.condT; rfl) | (apply CW.ret) | (apply EX.thenR)))
    refine EX.ret1 rfl rfl ⟨?_, hE⟩
    rw [if_pos (.inl h8)]
  have h8 := h
  (repeat (first | (apply WL.makeFunc; rfl; rfl; rfl; rfl) | (apply WL.fa; rfl; rfl; rfl) | (apply WL.ld; rfl; rfl; rfl; assumption; rfl)))
  refine WL.call rfl rfl rfl (containsFunc_ll w5 (oddB nx.length) (h5.up hE) (fun w hw i hi u hu => ?_)) ?_
  · obtain ⟨lo, lc, rfl, hl⟩ := hu.sl
    exact FnV.mk (Rt.mono (achk2 w nx.length _ (hb3.ext hw) (hl.lift fun b hb => Nat.lt_of_lt_of_le hb hw.size)) fun v w' h => h)
  rintro _ w6 ⟨rfl, e6⟩
  have hb1 := hb1.ext e6
  have hb3 := hb3.ext e6
  have hE := hE.trans e6
  (repeat (first | (apply WL.pure; rfl; rfl; rfl) | (apply WL.nil) | (apply EX.thenN)))
  refine CW.cond rfl (fun h9 => ?_) (fun h9 => ?_)
  · (repeat (first | (apply WL.pure; rfl; rfl; rfl) | (apply WL.nil) | (apply EX.thenN) | (apply CW.seq) | (apply CW.region) | (apply CW.ret) | (apply EX.thenR)))
    refine EX.ret1 rfl rfl ⟨?_, hE⟩
    rw [if_pos (.inr h9)]
  (repeat (first | (apply WL.pure; rfl; rfl; rfl) | (apply WL.nil) | (apply EX.thenN) | (apply CW.seq) | (apply CW.region) | (apply CW.ret) | (apply CW.skip)))
  refine EX.ret1 rfl rfl ⟨?_, hE⟩
  rw [if_neg (by rw [h8, h9]; simp)]
theorem getDN_at {l : List Nat} {k : Nat} (h : k < l.length) : l.getD k 0 = l[k] := by rw [List.getD_eq_getElem?_getD, List.getElem?_eq_getElem h]; rfl
theorem Fits_ok (w0 : World) {a1 a2 a3 a4 a5 : Option Addr} {c1 c2 c3 c4 c5 n1 n2 n5 : Nat} {mu no : List Nat} (h3 : Sl w0 (Old w0) a3 c3 mu) (h4 : Sl w0 (Old w0) a4 c4 no) (k x : Nat) (hk : k < mu.length) (hk2 : k < no.length) (hx : x < 18446744073709551616) :
    Rt Tryz.prog 110 [autoV a1 c1 a2 c2 a3 c3 a4 c4 a5 c5 n1 n2 mu.length no.length n5, .int .i64 (k : Int), .int .u64 (x : Int)].toArray w0 fun v w' => v = .bool (fitB mu no k x) ∧ Ext w0 w' := by
  refine Rt.enter3 Tryz.func110 Tryz.ntmps110 rfl rfl ?_
  (repeat (first | (apply CW.seq) | (apply CW.region)))
  refine WL.boxB rfl rfl rfl fun w1 hb e1 => ?_
  have h3 := h3.up e1
  have h4 := h4.up e1
  (repeat (first | (apply WL.pure; rfl; rfl; rfl) | (apply QL.pure; rfl; rfl; rfl) | (apply WL.nil) | (apply EX.thenN) | (apply CW.seq) | (apply QL.fa; rfl; rfl; rfl) | (apply QL.ld; rfl; rfl; rfl; assumption; rfl) | (apply CW.draw; exact mixed; kernel_rfl)))
  refine QL.elemN rfl rfl rfl rfl rfl (fun _ h => h) h3 hk (fun _ => rfl) (fun u q hu => ?_)
  obtain ⟨rfl, hu1⟩ := hu.u64
  (repeat (first | (apply QL.pure; rfl; rfl; rfl) | (apply QL.fa; rfl; rfl; rfl) | (apply QL.ld; rfl; rfl; rfl; assumption; rfl)))
  rw [bits_and_u64_nat _ _ hx hu1]
  refine QL.elemN rfl rfl rfl rfl rfl (fun _ h => h) h3 hk (fun _ => rfl) (fun u q' hu => ?_)
  obtain ⟨rfl, _⟩ := hu.u64
  (repeat (apply QL.pure; rfl; rfl; rfl))
  unfold fitB
  rw [getDN_at hk, getDN_at hk2]
  (refine QL.lookG rfl rfl (fun h => ?_) (fun h => ?_))
  · simp only [beq_iff_eq] at h
    have h : x &&& mu[k] = mu[k] := by exact_mod_cast h
    rw [decide_eq_true h, Bool.true_and]
    (repeat (first | (apply QL.pure; rfl; rfl; rfl) | (apply QL.fa; rfl; rfl; rfl) | (apply QL.ld; rfl; rfl; rfl; assumption; rfl)))
    refine QL.elemN rfl rfl rfl rfl rfl (fun _ h => h) h4 hk2 (fun _ => rfl) (fun u q' hu => ?_)
    obtain ⟨rfl, hu2⟩ := hu.u64
    (repeat (apply QL.pure; rfl; rfl; rfl))
    rw [bits_and_u64_nat _ _ hx hu2]
    refine QL.nil (fun w2 e2 => ?_)
    (repeat (first | (apply EX.thenN) | (apply CW.ret)))
    refine EX.ret1 rfl rfl ⟨?_, e1.trans e2⟩
    congr 1
    rw [Bool.eq_iff_iff, beq_iff_eq, decide_eq_true_iff]
    exact_mod_cast Iff.rfl
  · have h : ¬ x &&& mu[k] = mu[k] := by
      intro e; rw [e] at h; simp at h
    rw [decide_eq_false h, Bool.false_and]
    (repeat (first | (apply QL.pure; rfl; rfl; rfl) | (apply QL.pass; rfl; rfl)))
    refine QL.nil (fun w2 e2 => ?_)
    (repeat (first | (apply EX.thenN) | (apply CW.ret)))
    exact EX.ret1 rfl rfl ⟨rfl, e1.trans e2⟩
end Go.Proofs.YtllpfgcngokhnaaGreat

/-
  Package auto: product.
-/
set_option linter.unusedVariables false
set_option linter.unusedSimpArgs false
namespace Go.Proofs.YtllpfgcngokhnaaGreat
open Go.RowKit

end Go.Proofs.YtllpfgcngokhnaaGreat

