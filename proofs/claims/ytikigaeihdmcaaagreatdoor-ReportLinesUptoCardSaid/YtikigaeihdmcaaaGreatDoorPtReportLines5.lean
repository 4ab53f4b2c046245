import Derived.Test.YtikigaeihdmcaaaGreatDoorPtReportLines4
/-
  Formulas of all ways: how they lie in memory (as those of one way do), their check.
-/
set_option linter.unusedVariables false
set_option linter.unusedSimpArgs false
namespace Go.Proofs.YtikigaeihdmcaaaGreatDoor
open Go.RowKit

instance iCtl2 : IsT Tryz.prog 31 Ltl := IsT.of (by kernel_rfl) Tryz.underlying31 rfl
instance iCtl3 : IsS Tryz.prog 29 31 := ⟨Tryz.underlying29⟩
instance iCtl4 : IsT Tryz.prog 29 (List Ltl) := IsT.of (by kernel_rfl) Tryz.underlying29 rfl
instance iCtl5 : IsZ Tryz.prog 31 (Ltl.mk 0 0 []) 40 := IsZ.of (z := .agg #[.int .i64 0, .int .i64 0, .slice none 0 0]) (by kernel_rfl) (fun _ _ => RdT.of (kids := []) ⟨by simp, by simp [maxLen], fun _ => rfl, fun i hi => absurd hi (by simp)⟩)
instance iCtl6 : IsC Tryz.prog 31 3 true := IsC.of (by kernel_rfl) Tryz.underlying31 rfl
instance iCtl7 : IsC Tryz.prog 29 1 false := IsC.of (by kernel_rfl) Tryz.underlying29 rfl
instance iCtl8 : IsZC Tryz.prog 29 [.slice none 0 0] := IsZC.of (z := .slice none 0 0) (by kernel_rfl) rfl
instance iCtl9 : IsFd Tryz.prog 31 0 0 := IsFd.of (by kernel_rfl)
instance iCtl10 : IsFd Tryz.prog 31 1 1 := IsFd.of (by kernel_rfl)
instance iCtl11 : IsFd Tryz.prog 31 2 2 := IsFd.of (by kernel_rfl)
instance iCtl12 : IsZC Tryz.prog 31 [.int .i64 0, .int .i64 0, .slice none 0 0] := IsZC.of (z := .agg #[.int .i64 0, .int .i64 0, .slice none 0 0]) (by kernel_rfl) rfl
instance iCtl13 : IsBd Tryz.prog 31 [(0, 1), (1, 1), (2, 1)] := IsBd.of (by kernel_rfl)
def kidsC (k : Int) : Int := if k = 1 ∨ k = 2 ∨ k = 3 then 0 else if k = 4 ∨ k = 7 ∨ k = 8 ∨ k = 9 ∨ k = 11 ∨ k = 12 ∨ k = 13 then 1 else if k = 5 ∨ k = 6 ∨ k = 10 ∨ k = 14 then 2 else -1
theorem ckids_ok (w : World) (k : Int) : Rt Tryz.prog 73 [.int .i64 k].toArray w fun v w' => v = .int .i64 (kidsC k) ∧ w = w' := by
  refine Rt.enter1 Tryz.func73 Tryz.ntmps73 rfl rfl ?_
  unfold kidsC
  (repeat (first | (apply WL.pure; rfl; rfl; rfl) | (apply WL.nil) | (apply EX.thenN) | (apply CW.seq) | (apply CW.region) | (apply CW.block)))
  refine CW.cond rfl (fun h => ?_) (fun h => ?_) <;> simp at h
  · subst h; (repeat (first | (apply WL.pure; rfl; rfl; rfl) | (apply WL.nil) | (apply EX.thenN) | (apply CW.seq) | (apply CW.region) | (apply CW.condT; rfl) | (apply CW.ret) | (apply EX.thenR) | (apply EX.inR) | (apply CW.skip)))
    exact EX.ret1 rfl rfl ⟨rfl, rfl⟩
  (repeat (first | (apply WL.pure; rfl; rfl; rfl) | (apply WL.nil) | (apply EX.thenN) | (apply CW.seq) | (apply CW.region)))
  refine CW.cond rfl (fun h => ?_) (fun h => ?_) <;> simp at h
  · subst h; (repeat (first | (apply WL.pure; rfl; rfl; rfl) | (apply WL.nil) | (apply EX.thenN) | (apply CW.seq) | (apply CW.region) | (apply CW.condT; rfl) | (apply CW.ret) | (apply EX.thenR) | (apply EX.inR) | (apply CW.skip)))
    exact EX.ret1 rfl rfl ⟨rfl, rfl⟩
  (repeat (first | (apply WL.pure; rfl; rfl; rfl) | (apply WL.nil) | (apply EX.thenN) | (apply CW.region)))
  refine CW.cond rfl (fun h => ?_) (fun h => ?_) <;> simp at h
  · subst h; (repeat (first | (apply WL.pure; rfl; rfl; rfl) | (apply WL.nil) | (apply EX.thenN) | (apply CW.seq) | (apply CW.region) | (apply CW.ret) | (apply EX.thenR) | (apply EX.inR)))
    exact EX.ret1 rfl rfl ⟨rfl, rfl⟩
  rw [if_neg (by omega)]
  (repeat (first | (apply WL.pure; rfl; rfl; rfl) | (apply WL.nil) | (apply EX.thenN) | (apply CW.seq) | (apply CW.region)))
  refine CW.cond rfl (fun h => ?_) (fun h => ?_) <;> simp at h
  · subst h; (repeat (first | (apply WL.pure; rfl; rfl; rfl) | (apply WL.nil) | (apply EX.thenN) | (apply CW.seq) | (apply CW.region) | (apply CW.condT; rfl) | (apply CW.ret) | (apply EX.thenR) | (apply EX.inR) | (apply CW.skip)))
    exact EX.ret1 rfl rfl ⟨rfl, rfl⟩
  (repeat (first | (apply WL.pure; rfl; rfl; rfl) | (apply WL.nil) | (apply EX.thenN) | (apply CW.seq) | (apply CW.region)))
  refine CW.cond rfl (fun h => ?_) (fun h => ?_) <;> simp at h
  · subst h; (repeat (first | (apply WL.pure; rfl; rfl; rfl) | (apply WL.nil) | (apply EX.thenN) | (apply CW.seq) | (apply CW.region) | (apply CW.condT; rfl) | (apply CW.ret) | (apply EX.thenR) | (apply EX.inR) | (apply CW.skip)))
    exact EX.ret1 rfl rfl ⟨rfl, rfl⟩
  (repeat (first | (apply WL.pure; rfl; rfl; rfl) | (apply WL.nil) | (apply EX.thenN) | (apply CW.seq) | (apply CW.region)))
  refine CW.cond rfl (fun h => ?_) (fun h => ?_) <;> simp at h
  · subst h; (repeat (first | (apply WL.pure; rfl; rfl; rfl) | (apply WL.nil) | (apply EX.thenN) | (apply CW.seq) | (apply CW.region) | (apply CW.condT; rfl) | (apply CW.ret) | (apply EX.thenR) | (apply EX.inR) | (apply CW.skip)))
    exact EX.ret1 rfl rfl ⟨rfl, rfl⟩
  (repeat (first | (apply WL.pure; rfl; rfl; rfl) | (apply WL.nil) | (apply EX.thenN) | (apply CW.seq) | (apply CW.region)))
  refine CW.cond rfl (fun h => ?_) (fun h => ?_) <;> simp at h
  · subst h; (repeat (first | (apply WL.pure; rfl; rfl; rfl) | (apply WL.nil) | (apply EX.thenN) | (apply CW.seq) | (apply CW.region) | (apply CW.condT; rfl) | (apply CW.ret) | (apply EX.thenR) | (apply EX.inR) | (apply CW.skip)))
    exact EX.ret1 rfl rfl ⟨rfl, rfl⟩
  (repeat (first | (apply WL.pure; rfl; rfl; rfl) | (apply WL.nil) | (apply EX.thenN) | (apply CW.seq) | (apply CW.region)))
  refine CW.cond rfl (fun h => ?_) (fun h => ?_) <;> simp at h
  · subst h; (repeat (first | (apply WL.pure; rfl; rfl; rfl) | (apply WL.nil) | (apply EX.thenN) | (apply CW.seq) | (apply CW.region) | (apply CW.condT; rfl) | (apply CW.ret) | (apply EX.thenR) | (apply EX.inR) | (apply CW.skip)))
    exact EX.ret1 rfl rfl ⟨rfl, rfl⟩
  (repeat (first | (apply WL.pure; rfl; rfl; rfl) | (apply WL.nil) | (apply EX.thenN) | (apply CW.seq) | (apply CW.region)))
  refine CW.cond rfl (fun h => ?_) (fun h => ?_) <;> simp at h
  · subst h; (repeat (first | (apply WL.pure; rfl; rfl; rfl) | (apply WL.nil) | (apply EX.thenN) | (apply CW.seq) | (apply CW.region) | (apply CW.condT; rfl) | (apply CW.ret) | (apply EX.thenR) | (apply EX.inR) | (apply CW.skip)))
    exact EX.ret1 rfl rfl ⟨rfl, rfl⟩
  (repeat (first | (apply WL.pure; rfl; rfl; rfl) | (apply WL.nil) | (apply EX.thenN) | (apply CW.region)))
  refine CW.cond rfl (fun h => ?_) (fun h => ?_) <;> simp at h
  · subst h; (repeat (first | (apply WL.pure; rfl; rfl; rfl) | (apply WL.nil) | (apply EX.thenN) | (apply CW.seq) | (apply CW.region) | (apply CW.ret) | (apply EX.thenR) | (apply EX.inR)))
    exact EX.ret1 rfl rfl ⟨rfl, rfl⟩
  rw [if_neg (by omega)]
  (repeat (first | (apply WL.pure; rfl; rfl; rfl) | (apply WL.nil) | (apply EX.thenN) | (apply CW.seq) | (apply CW.region)))
  refine CW.cond rfl (fun h => ?_) (fun h => ?_) <;> simp at h
  · subst h; (repeat (first | (apply WL.pure; rfl; rfl; rfl) | (apply WL.nil) | (apply EX.thenN) | (apply CW.seq) | (apply CW.region) | (apply CW.condT; rfl) | (apply CW.ret) | (apply EX.thenR) | (apply EX.inR) | (apply CW.skip)))
    exact EX.ret1 rfl rfl ⟨rfl, rfl⟩
  (repeat (first | (apply WL.pure; rfl; rfl; rfl) | (apply WL.nil) | (apply EX.thenN) | (apply CW.seq) | (apply CW.region)))
  refine CW.cond rfl (fun h => ?_) (fun h => ?_) <;> simp at h
  · subst h; (repeat (first | (apply WL.pure; rfl; rfl; rfl) | (apply WL.nil) | (apply EX.thenN) | (apply CW.seq) | (apply CW.region) | (apply CW.condT; rfl) | (apply CW.ret) | (apply EX.thenR) | (apply EX.inR) | (apply CW.skip)))
    exact EX.ret1 rfl rfl ⟨rfl, rfl⟩
  (repeat (first | (apply WL.pure; rfl; rfl; rfl) | (apply WL.nil) | (apply EX.thenN) | (apply CW.seq) | (apply CW.region)))
  refine CW.cond rfl (fun h => ?_) (fun h => ?_) <;> simp at h
  · subst h; (repeat (first | (apply WL.pure; rfl; rfl; rfl) | (apply WL.nil) | (apply EX.thenN) | (apply CW.seq) | (apply CW.region) | (apply CW.condT; rfl) | (apply CW.ret) | (apply EX.thenR) | (apply EX.inR) | (apply CW.skip)))
    exact EX.ret1 rfl rfl ⟨rfl, rfl⟩
  (repeat (first | (apply WL.pure; rfl; rfl; rfl) | (apply WL.nil) | (apply EX.thenN) | (apply CW.region)))
  refine CW.cond rfl (fun h => ?_) (fun h => ?_) <;> simp at h
  · subst h; (repeat (first | (apply WL.pure; rfl; rfl; rfl) | (apply WL.nil) | (apply EX.thenN) | (apply CW.seq) | (apply CW.region) | (apply CW.ret) | (apply EX.thenR) | (apply EX.inR)))
    exact EX.ret1 rfl rfl ⟨rfl, rfl⟩
  rw [if_neg (by omega)]
  (repeat (first | (apply WL.pure; rfl; rfl; rfl) | (apply WL.nil) | (apply EX.thenN) | (apply CW.seq) | (apply CW.region) | (apply EX.inN) | (apply CW.ret) | (apply CW.skip)))
  exact EX.ret1 rfl rfl ⟨rfl, rfl⟩
mutual
def chkC : Ltl → Int → Int → Int × Int
  | .mk k n kids, deep, c => if c + 1 > 60 then (2, c + 1) else if deep > 20 then (5, c + 1) else if kidsC k ≠ kids.length ∨ n < 0 ∨ n > 63 ∨ (k ≠ 3 ∧ n ≠ 0) then (1, c + 1) else chkCL kids (deep + 1) (c + 1)
def chkCL : List Ltl → Int → Int → Int × Int
  | [], _, c => (0, c)
  | x :: r, deep, c => if (chkC x deep c).1 ≠ 0 then chkC x deep c else chkCL r deep (chkC x deep c).2
end
mutual
theorem chkC_le : ∀ (t : Ltl) (deep c : Int), (chkC t deep c).1 = 0 → c < (chkC t deep c).2 ∧ (chkC t deep c).2 ≤ 60
  | .mk k n kids, deep, c, h => by
    simp only [chkC] at h ⊢
    split at h
    · cases h
    · rename_i h1
      rw [if_neg h1]
      split at h
      · cases h
      · rename_i h2
        rw [if_neg h2]
        split at h
        · cases h
        · rename_i h3
          rw [if_neg h3]
          have := chkCL_le kids (deep + 1) (c + 1) (by omega) h
          omega
theorem chkCL_le : ∀ (l : List Ltl) (deep c : Int), c ≤ 60 → (chkCL l deep c).1 = 0 → c ≤ (chkCL l deep c).2 ∧ (chkCL l deep c).2 ≤ 60
  | [], deep, c, hc, h => by simp only [chkCL]; omega
  | x :: r, deep, c, hc, h => by
    simp only [chkCL] at h ⊢
    split at h
    · rename_i h1; exact absurd h h1
    · rename_i h1
      rw [if_neg h1]
      have h2 := chkC_le x deep c (by simpa using h1)
      have h3 := chkCL_le r deep _ h2.2 h
      omega
end
theorem ccheck_ok : ∀ (m : Nat) (t : Ltl), t.nodes ≤ m → ∀ (w : World) (F : Nat → Prop) (deep c : Int) (bn : Nat) (ao : Option Addr) (cap : Nat), Sl w F ao cap t.kids → (∀ b, F b → b < w.heap.size) → ¬ F bn →
    Blk w bn 3 [.int .i64 c] → 0 ≤ c → c ≤ 60 → 0 ≤ deep → deep ≤ 1000 →
    Rt Tryz.prog 54 [ltlV t.k t.n ao t.kids.length cap, .int .i64 deep, .pointer (some ⟨bn, 0, none⟩)].toArray w fun v w' => v = .int .i64 (chkC t deep c).1 ∧ Blk w' bn 3 [.int .i64 (chkC t deep c).2] ∧ w.grownBy w' (some bn)
  | 0, t, hm => by have := t.nodes_pos; omega
  | m + 1, .mk k n kids, hm => by
    intro w F deep c bn ao cap hs hF hn hb hc0 hc1 hd0 hd1
    simp only [Ltl.kids, Ltl.k, Ltl.n] at *
    refine Rt.enter3 Tryz.func54 Tryz.ntmps54 rfl rfl ?_
    have hlen := hs.len63
    have hbn := hb.lt
    (repeat (first | (apply CW.seq) | (apply CW.region)))
    refine WL.boxB rfl rfl rfl fun w1 hf hE1 => ?_
    have hb1 := hb.ext hE1
    have hg1 := hE1.grw (some bn)
    (repeat (first | (apply WL.add; rfl; rfl; rfl; rfl; omega; omega) | (apply WL.pure; rfl; rfl; rfl) | (apply WL.nil) | (apply EX.thenN) | (apply CW.seq) | (apply CW.region) | (apply WL.nck; rfl; rfl; rfl) | (apply WL.ld; rfl; rfl; rfl; assumption; rfl)))
    refine WL.st rfl rfl rfl hb1 rfl rfl (ones_of rfl) (fun w2 hb2 hgr => ?_)
    have hf2 := hf.kept hgr (by simp; omega)
    have hg2 := grown_tr hg1 hgr
    simp only [chkC]
    (repeat (first | (apply WL.pure; rfl; rfl; rfl) | (apply WL.nil) | (apply EX.thenN) | (apply CW.seq) | (apply CW.region) | (apply WL.nck; rfl; rfl; rfl) | (apply WL.ld; rfl; rfl; rfl; assumption; rfl) | (apply CW.block)))
    refine CW.cond rfl (fun h => ?_) (fun h => ?_) <;> simp only [decide_eq_true_eq, decide_eq_false_iff_not, gt_iff_lt] at h
    · (repeat (first | (apply WL.pure; rfl; rfl; rfl) | (apply WL.nil) | (apply EX.thenN) | (apply CW.seq) | (apply CW.region) | (apply CW.ret) | (apply EX.thenR) | (apply EX.inR)))
      refine EX.ret1 rfl rfl ?_
      rw [if_pos h]
      exact ⟨rfl, hb2, hg2⟩
    rw [if_neg (by omega)]
    (repeat (first | (apply WL.pure; rfl; rfl; rfl) | (apply WL.nil) | (apply EX.thenN) | (apply CW.seq) | (apply CW.region)))
    refine CW.cond rfl (fun h1 => ?_) (fun h1 => ?_) <;> simp only [decide_eq_true_eq, decide_eq_false_iff_not, gt_iff_lt] at h1
    · (repeat (first | (apply WL.pure; rfl; rfl; rfl) | (apply WL.nil) | (apply EX.thenN) | (apply CW.seq) | (apply CW.region) | (apply CW.ret) | (apply EX.thenR) | (apply EX.inR)))
      refine EX.ret1 rfl rfl ?_
      rw [if_pos h1]
      exact ⟨rfl, hb2, hg2⟩
    rw [if_neg (by omega)]
    refine CW.cutE [(1, .int .i64 deep), (2, .pointer (some ⟨bn, 0, none⟩)), (3, .pointer (some ⟨w.heap.size, 0, none⟩)), (23, .bool (decide (kidsC k ≠ kids.length ∨ n < 0 ∨ n > 63 ∨ (k ≠ 3 ∧ n ≠ 0))))] ?_ ?_
    · (repeat (first | (apply CW.seq) | (apply QL.fa; rfl; rfl; rfl) | (apply QL.ld; rfl; rfl; rfl; assumption; rfl) | (apply CW.draw; exact mixed; kernel_rfl)))
      refine QL.call rfl rfl rfl (fun w' h => Rt.mono (ckids_ok w' k) (fun v w'' hv => ⟨hv.1, hv.2 ▸ Ext.refl _⟩)) ?_
      (repeat (first | (apply QL.pure; rfl; rfl; rfl) | (apply QL.lenS; rfl; rfl; rfl) | (apply QL.fa; rfl; rfl; rfl) | (apply QL.ld; rfl; rfl; rfl; assumption; rfl)))
      refine QL.nil fun w3 hE3 => ?_
      have hf3 := hf2.ext hE3
      (repeat (apply EX.thenN))
      refine CW.cond rfl (fun h2 => ?_) (fun h2 => ?_) <;> simp at h2
      · (repeat (apply CW.skip))
        refine EX.cutE ⟨rfl, rfl, rfl, ?_, trivial⟩ hE3
        refine congrArg (fun b => some (Value.bool b)) ?_
        have : (kidsC k != (kids.length : Int)) = true := by simpa using h2
        rw [this, decide_eq_true (.inl h2)]
      · (repeat (first | (apply WL.pure; rfl; rfl; rfl) | (apply CW.seq) | (apply CW.region) | (apply WL.fa; rfl; rfl; rfl) | (apply WL.ld; rfl; rfl; rfl; assumption; rfl)))
        (refine WL.lookG rfl rfl (fun h => ?_) (fun h => ?_)) <;> simp at h
        · (repeat (first | (apply WL.pure; rfl; rfl; rfl) | (apply WL.nil) | (apply EX.thenN) | (apply WL.pass; rfl; rfl) | (apply CW.condT; rfl) | (apply CW.skip)))
          refine EX.cutE ⟨rfl, rfl, rfl, ?_, trivial⟩ hE3
          refine congrArg (fun b => some (Value.bool b)) ?_
          rw [decide_eq_true (.inr (.inl h))]
        · (repeat (first | (apply WL.pure; rfl; rfl; rfl) | (apply WL.nil) | (apply EX.thenN) | (apply WL.fa; rfl; rfl; rfl) | (apply WL.ld; rfl; rfl; rfl; assumption; rfl)))
          refine CW.cond rfl (fun h3 => ?_) (fun h3 => ?_) <;> simp at h3
          · (repeat (apply CW.skip))
            refine EX.cutE ⟨rfl, rfl, rfl, ?_, trivial⟩ hE3
            refine congrArg (fun b => some (Value.bool b)) ?_
            rw [decide_eq_true h3, decide_eq_true (.inr (.inr (.inl h3)))]
          · (repeat (first | (apply WL.pure; rfl; rfl; rfl) | (apply CW.region) | (apply WL.fa; rfl; rfl; rfl) | (apply WL.ld; rfl; rfl; rfl; assumption; rfl)))
            (refine WL.lookG rfl rfl (fun h => ?_) (fun h => ?_)) <;> simp at h
            · (repeat (first | (apply WL.pure; rfl; rfl; rfl) | (apply WL.nil) | (apply WL.fa; rfl; rfl; rfl) | (apply WL.ld; rfl; rfl; rfl; assumption; rfl)))
              refine EX.cutE ⟨rfl, rfl, rfl, ?_, trivial⟩ hE3
              refine congrArg (fun b => some (Value.bool b)) ?_
              (rw [Bool.eq_iff_iff]; simp; try omega)
            · (repeat (first | (apply WL.pure; rfl; rfl; rfl) | (apply WL.nil) | (apply WL.pass; rfl; rfl)))
              refine EX.cutE ⟨rfl, rfl, rfl, ?_, trivial⟩ hE3
              refine congrArg (fun b => some (Value.bool b)) ?_
              (rw [Bool.eq_iff_iff]; simp; try omega)
    intro w3 hE3
    have hb3 := hb2.ext hE3
    have hf3 := hf2.ext hE3
    have hg3 := grown_tr hg2 (hE3.grw (some bn))
    refine CW.cond rfl (fun h2 => ?_) (fun h2 => ?_) <;> simp only [decide_eq_true_eq, decide_eq_false_iff_not] at h2
    · rw [if_pos h2]
      (repeat (first | (apply WL.pure; rfl; rfl; rfl) | (apply WL.nil) | (apply EX.thenN) | (apply CW.seq) | (apply CW.region) | (apply CW.ret) | (apply EX.thenR) | (apply EX.inR)))
      exact EX.ret1 rfl rfl ⟨rfl, hb3, hg3⟩
    rw [if_neg h2]
    (repeat (first | (apply WL.pure; rfl; rfl; rfl) | (apply WL.nil) | (apply EX.thenN) | (apply CW.seq) | (apply CW.region) | (apply WL.lenS; rfl; rfl; rfl) | (apply WL.fa; rfl; rfl; rfl) | (apply WL.ld; rfl; rfl; rfl; assumption; rfl) | (apply CW.block) | (apply EX.inN) | (apply CW.skip)))
    refine CW.loop (S := Nat × Int) (fun x => [(1, .int .i64 deep), (2, .pointer (some ⟨bn, 0, none⟩)), (48, .slice ao kids.length cap), (49, .int .i64 (kids.length : Int)), (50, .int .i64 (x.1 : Int))])
      (fun x w' => w.grownBy w' (some bn) ∧ Blk w' bn 3 [.int .i64 x.2] ∧ 0 ≤ x.2 ∧ x.2 ≤ 60 ∧ x.1 ≤ kids.length ∧ chkCL kids (deep + 1) (c + 1) = chkCL (kids.drop x.1) (deep + 1) x.2) (fun x => kids.length - x.1) (0, c + 1) (by repeat (first | exact trivial | refine ⟨rfl, ?_⟩)) ⟨hg3, hb3, by simp only; omega, by simp only; omega, by omega, rfl⟩ ?_
    rintro ⟨i, ci⟩ w4 ⟨hg4, hb4, hci0, hci, hi, heq⟩
    simp only at hb4 hci0 hci hi heq
    rw [heq]
    (repeat (first | (apply WL.pure; rfl; rfl; rfl) | (apply WL.nil) | (apply EX.thenN) | (apply CW.seq) | (apply CW.region)))
    refine CW.cond rfl (fun h3 => ?_) (fun h3 => ?_) <;> simp at h3
    · have hs4 : Sl w4 F ao cap kids := hs.mono (fun b hb => hg4.block b (hF b hb) (by intro e; cases e; exact hn hb)) fun _ h => h
      have hF4 : ∀ b, F b → b < w4.heap.size := fun b hb => Nat.lt_of_lt_of_le (hF b hb) hg4.size
      (repeat (first | (apply EX.thenN) | (apply CW.seq) | (apply CW.region) | (apply CW.block) | (apply CW.skip)))
      refine WL.elemN rfl rfl rfl rfl rfl hs4 h3 (fun _ => rfl) (fun u q hu => ?_)
      have hdrop : kids.drop i = kids[i] :: kids.drop (i + 1) := List.drop_eq_getElem_cons h3
      have hnode : (kids[i]).nodes ≤ m := by
        have := Ltl.nodes_kid kids _ (List.getElem_mem h3)
        simp only [Ltl.nodes] at hm; omega
      rw [hdrop]
      simp only [chkCL]
      generalize kids[i] = x at *
      obtain ⟨ao', cap', rfl, hx⟩ := hu.ltl
      have hw4 : w.heap.size ≤ w4.heap.size := hg4.size
      refine WL.alloc rfl rfl (fun w5 hb5 hE5 => ?_)
      refine WL.st rfl rfl rfl hb5 rfl rfl (ones_of rfl) (fun w6 hb6 hgr6 => ?_)
      have hE6 : Ext w4 w6 := hE5.grown hgr6 hE5.size (fun g hg => by cases hg; exact Nat.le_refl _)
      have hb46 := hb4.ext hE6
      have hg6 := grown_tr hg4 (hE6.grw (some bn))
      (repeat (first | (apply WL.add; rfl; rfl; rfl; rfl; omega; omega) | (apply WL.pure; rfl; rfl; rfl) | (apply WL.nil) | (apply EX.thenN) | (apply CW.seq) | (apply CW.region) | (apply WL.ldA; rfl; rfl; rfl; assumption; rfl)))
      refine WL.call rfl rfl rfl (ccheck_ok m x hnode w6 F (deep + 1) ci bn ao' cap' (hx.mono (fun b hb => hE6.block b (hF4 b hb)) fun _ h => h) (fun b hb => Nat.lt_of_lt_of_le (hF4 b hb) hE6.size) hn hb46 hci0 hci (by omega) (by omega)) ?_
      rintro v w7 ⟨rfl, hb7, hg7⟩
      have hg7 := grown_tr hg6 hg7
      have hle := chkC_le x (deep + 1) ci
      generalize chkC x (deep + 1) ci = r at *
      obtain ⟨e, c'⟩ := r
      simp only at hle hb7
      (repeat (first | (apply WL.pure; rfl; rfl; rfl) | (apply WL.nil) | (apply EX.thenN) | (apply CW.seq) | (apply CW.region)))
      refine CW.cond rfl (fun h4 => ?_) (fun h4 => ?_) <;> simp at h4
      · (repeat (first | (apply WL.pure; rfl; rfl; rfl) | (apply WL.nil) | (apply EX.thenN) | (apply CW.seq) | (apply CW.region) | (apply CW.ret) | (apply EX.thenR) | (apply EX.inR)))
        refine EX.ret1 rfl rfl ?_
        rw [if_pos h4]
        exact ⟨rfl, hb7, hg7⟩
      · have := hle h4
        (repeat (first | (apply WL.add; rfl; rfl; rfl; rfl; omega; omega) | (apply WL.pure; rfl; rfl; rfl) | (apply WL.nil) | (apply EX.thenN) | (apply CW.region) | (apply EX.inN) | (apply CW.skip)))
        refine EX.back (i + 1, c') (by repeat (first | exact trivial | refine ⟨rfl, ?_⟩)) ⟨hg7, hb7, by simp only; omega, by simp only; omega, by simp only; omega, ?_⟩ (by simp only; omega)
        simp only
        rw [if_neg (by simp [h4])]
    · (repeat (first | (apply WL.pure; rfl; rfl; rfl) | (apply WL.nil) | (apply EX.thenN) | (apply CW.seq) | (apply CW.region) | (apply CW.exit) | (apply EX.thenX) | (apply EX.inX) | (apply CW.ret)))
      refine EX.ret1 rfl rfl ?_
      rw [List.drop_eq_nil_of_le (by omega)]
      exact ⟨rfl, hb4, hg4⟩
theorem ctlCheck (w : World) {F : Nat → Prop} {t : Ltl} {ao : Option Addr} {cap : Nat} (hs : Sl w F ao cap t.kids) (hF : ∀ b, F b → b < w.heap.size) :
    Rt Tryz.prog 38 [ltlV t.k t.n ao t.kids.length cap].toArray w fun v w' => v = .int .i64 (chkC t 1 0).1 ∧ Ext w w' := by
  refine Rt.enter1 Tryz.func38 Tryz.ntmps38 rfl rfl ?_
  (repeat (first | (apply CW.seq) | (apply CW.region)))
  refine WL.boxB rfl rfl rfl fun w1 hf hE1 => ?_
  (repeat (first | (apply WL.pure; rfl; rfl; rfl) | (apply WL.nil) | (apply EX.thenN) | (apply CW.seq) | (apply CW.region)))
  refine WL.alloc rfl rfl (fun w2 hb hE2 => ?_)
  have hlt := hb.lt
  refine WL.st rfl rfl rfl hb rfl rfl (ones_of rfl) (fun w3 hb hgr => ?_)
  have hE12 := hE1.trans hE2
  have hE3 : Ext w w3 := hE12.grown hgr hE12.size (fun g hg => by cases hg; exact hE1.size)
  have hf3 := (hf.ext hE2).kept hgr (by have := hf.lt; simp; omega)
  have hw1 : w.heap.size ≤ w1.heap.size := hE1.size
  (repeat (first | (apply WL.nil) | (apply EX.thenN) | (apply CW.seq) | (apply CW.region) | (apply WL.ldA; rfl; rfl; rfl; assumption; rfl)))
  refine WL.call rfl rfl rfl (ccheck_ok t.nodes t (Nat.le_refl _) w3 F 1 0 w1.heap.size ao cap (hs.mono (fun b hb => hE3.block b (hF b hb)) fun _ h => h) (fun b hb => Nat.lt_of_lt_of_le (hF b hb) hE3.size) (fun h => by have := hF _ h; omega) hb (by omega) (by omega) (by omega) (by omega)) ?_
  rintro v w4 ⟨rfl, hb4, hg4⟩
  (repeat (first | (apply WL.pure; rfl; rfl; rfl) | (apply WL.nil) | (apply EX.thenN) | (apply CW.ret)))
  exact EX.ret1 rfl rfl ⟨rfl, hE3.grown hg4 hE3.size (fun g hg => by cases hg; exact hE1.size)⟩
end Go.Proofs.YtikigaeihdmcaaaGreatDoor

/-
  Formulas of all ways: what is printed is read as it was: plain.
-/
set_option linter.unusedVariables false
set_option linter.unusedSimpArgs false
namespace Go.Proofs.YtikigaeihdmcaaaGreatDoor

/- PRINTED -/
def bareC (k i kid : Int) : Bool := if kid = 5 then k == 6 || (k == 5 && i == 0) else if kid = 6 then k == 6 && i == 0 else true
def sigC (k : Int) : Bys := if k = 4 then [33] else if k = 7 then [69, 88, 32] else if k = 8 then [69, 70, 32] else if k = 9 then [69, 71, 32] else if k = 11 then [65, 88, 32] else if k = 12 then [65, 70, 32] else if k = 13 then [65, 71, 32] else []
def joinC (nm : Int → Bys) (k n : Int) (ks : List (Int × Bys)) : Bys :=
  if k = 1 then tTrue else if k = 2 then tFalse else if k = 3 then nm n
  else if k = 5 then kidT (bareC k 0 (ks.getD 0 (0, [])).1) (ks.getD 0 (0, [])).2 ++ [32, 38, 32] ++ kidT (bareC k 1 (ks.getD 1 (0, [])).1) (ks.getD 1 (0, [])).2
  else if k = 6 then kidT (bareC k 0 (ks.getD 0 (0, [])).1) (ks.getD 0 (0, [])).2 ++ [32, 47, 32] ++ kidT (bareC k 1 (ks.getD 1 (0, [])).1) (ks.getD 1 (0, [])).2
  else if k = 10 then [69, 32, 91] ++ (ks.getD 0 (0, [])).2 ++ [32, 85, 32] ++ (ks.getD 1 (0, [])).2 ++ [93]
  else if k = 14 then [65, 32, 91] ++ (ks.getD 0 (0, [])).2 ++ [32, 85, 32] ++ (ks.getD 1 (0, [])).2 ++ [93]
  else sigC k ++ kidT (bareC k 0 (ks.getD 0 (0, [])).1) (ks.getD 0 (0, [])).2
mutual
def txtC (nm : Int → Bys) : Ltl → Bys
  | .mk k n kids => joinC nm k n (txtCs nm kids)
def txtCs (nm : Int → Bys) : List Ltl → List (Int × Bys)
  | [] => []
  | x :: r => (x.k, txtC nm x) :: txtCs nm r
end
/-- what Print tells -/
def printC (f : Ltl) (nms : List ByteArray) : Bys × Int :=
  if (chkC f 1 0).1 ≠ 0 then ([], (chkC f 1 0).1) else if badF (nmL nms) f = true then ([], 4) else (txtC (nmL nms) f, 0)
theorem joinC_len {nm : Int → Bys} (hn : ∀ n, (nm n).length ≤ 8) (k n : Int) (ks : List (Int × Bys)) : (joinC nm k n ks).length ≤ (ks.getD 0 (0, [])).2.length + (ks.getD 1 (0, [])).2.length + 8 := by
  have h0 := kidT_len (bareC k 0 (ks.getD 0 (0, [])).1) (ks.getD 0 (0, [])).2
  have h1 := kidT_len (bareC k 1 (ks.getD 1 (0, [])).1) (ks.getD 1 (0, [])).2
  have h2 := hn n
  have h3 : (sigC k).length ≤ 3 := by unfold sigC; repeat (first | split | simp)
  unfold joinC tTrue tFalse
  iterate 7 (split; · (first | omega | (simp only [List.length_append, List.length_cons, List.length_nil]; omega)))
  simp only [List.length_append, List.length_cons, List.length_nil]
  omega
mutual
theorem txtC_len {nm : Int → Bys} (hn : ∀ n, (nm n).length ≤ 8) : ∀ f : Ltl, (txtC nm f).length ≤ 8 * f.nodes
  | .mk k n kids => by
    have h := joinC_len hn k n (txtCs nm kids)
    have h2 := txtCs_len hn kids
    simp only [txtC, Ltl.nodes]
    have : ((txtCs nm kids).getD 0 (0, [])).2.length + ((txtCs nm kids).getD 1 (0, [])).2.length ≤ ((txtCs nm kids).map fun x => x.2.length).sum := by
      rcases txtCs nm kids with _ | ⟨a, _ | ⟨b, r⟩⟩ <;> simp <;> omega
    omega
theorem txtCs_len {nm : Int → Bys} (hn : ∀ n, (nm n).length ≤ 8) : ∀ l : List Ltl, ((txtCs nm l).map fun x => x.2.length).sum ≤ 8 * Ltl.nodesL l
  | [] => by simp [txtCs, Ltl.nodesL]
  | x :: r => by
    have h1 := txtC_len hn x
    have h2 := txtCs_len hn r
    simp only [txtCs, Ltl.nodesL, List.map_cons, List.sum_cons]
    omega
end
/- READ -/
def wayK (t : Bys) : Int := if t = [88] then 7 else if t = [70] then 8 else if t = [71] then 9 else 0
def allC (a : Bool) (k : Int) : Int := if a = true then k + 4 else k
mutual
def cFor (nms : List ByteArray) (N : Nat) : Nat → Nat → List Ltl → Bys × Bys → PR
  | 0, _, _, _ => .er 3 0
  | n + 1, o, left, st => match cRow nms N n true o st with
    | .er c a => .er c a
    | .ok f st' => if st'.1 = [45, 62] then cFor nms N n o (left ++ [f]) (nxT st'.2) else .ok (arrows left f) st'
def cRow (nms : List ByteArray) (N : Nat) : Nat → Bool → Nat → Bys × Bys → PR
  | 0, _, _, _ => .er 3 0
  | n + 1, lv, o, st => match cPart nms N n lv o st with
    | .er c a => .er c a
    | .ok f st' => cRowL nms N n lv o f st'
def cRowL (nms : List ByteArray) (N : Nat) : Nat → Bool → Nat → Ltl → Bys × Bys → PR
  | 0, _, _, _, _ => .er 3 0
  | n + 1, lv, o, f, st => if st.1 = sgR lv then match cPart nms N n lv o (nxT st.2) with
      | .er c a => .er c a
      | .ok g st' => cRowL nms N n lv o (.mk (knR lv) 0 [f, g]) st'
    else .ok f st
def cPart (nms : List ByteArray) (N : Nat) : Nat → Bool → Nat → Bys × Bys → PR
  | 0, _, _, _ => .er 3 0
  | n + 1, true, o, st => cRow nms N n false o st
  | n + 1, false, o, st => cSin nms N n o st
/-- behind an E (false) or an A (true) -/
def cWays (nms : List ByteArray) (N : Nat) : Nat → Bool → Nat → Bys × Bys → PR
  | 0, _, _, _ => .er 3 0
  | n + 1, a, o, st => if st.1 = [91] then cUnt nms N n (allC a 10) o st else if wayK st.1 = 0 then .er 3 (atT N st) else match cSin nms N n o (nxT st.2) with
        | .er c x => .er c x
        | .ok f st' => .ok (.mk (allC a (wayK st.1)) 0 [f]) st'
def cUnt (nms : List ByteArray) (N : Nat) : Nat → Int → Nat → Bys × Bys → PR
  | 0, _, _, _ => .er 3 0
  | n + 1, k, o, st => match cFor nms N n o [] (nxT st.2) with
    | .er c a => .er c a
    | .ok f st' => if st'.1 = [85] then match cFor nms N n o [] (nxT st'.2) with
        | .er c a => .er c a
        | .ok g st2 => if st2.1 = [93] then .ok (.mk k 0 [f, g]) (nxT st2.2) else .er 3 (atT N st2)
      else .er 3 (atT N st')
def cSin (nms : List ByteArray) (N : Nat) : Nat → Nat → Bys × Bys → PR
  | 0, _, _ => .er 3 0
  | n + 1, o, st => if st.1 = [33] then if o = 20 then .er 5 (atT N st) else match cSin nms N n (o + 1) (nxT st.2) with
        | .er c a => .er c a
        | .ok f st' => .ok (.mk 4 0 [f]) st'
    else if st.1 = [69] then if o = 20 then .er 5 (atT N st) else cWays nms N n false (o + 1) (nxT st.2)
    else if st.1 = [65] then if o = 20 then .er 5 (atT N st) else cWays nms N n true (o + 1) (nxT st.2)
    else if st.1 = [40] then if o = 20 then .er 5 (atT N st) else match cFor nms N n (o + 1) [] (nxT st.2) with
        | .er c a => .er c a
        | .ok f st' => if st'.1 = [41] then .ok f (nxT st'.2) else .er 3 (atT N st')
    else if st.1 = [] ∨ lowB (st.1.headD 0) = false then .er 3 (atT N st)
    else wordR nms N st
end
/-- what Parse tells -/
def parseC (s : Bys) (nms : List ByteArray) : Ltl × Nat × Int :=
  if s.length > 300 then (.mk 0 0 [], 0, 2) else match cFor nms s.length (10 * s.length + 20) 0 [] (nxT s) with
    | .er c a => (.mk 0 0 [], a, c)
    | .ok f st => if st.1 ≠ [] then (.mk 0 0 [], atT s.length st, 3) else if (chkC f 1 0).1 ≠ 0 then (.mk 0 0 [], s.length, (chkC f 1 0).1) else (f, 0, 0)

inductive OkC (nms : List ByteArray) : Ltl → Prop
  | t : OkC nms (.mk 1 0 [])
  | f : OkC nms (.mk 2 0 [])
  | a (n : Int) : 0 ≤ n → n ≤ 63 → nmL nms n ≠ [] → OkC nms (.mk 3 n [])
  | one (k : Int) (x : Ltl) : (k = 4 ∨ k = 7 ∨ k = 8 ∨ k = 9 ∨ k = 11 ∨ k = 12 ∨ k = 13) → OkC nms x → OkC nms (.mk k 0 [x])
  | two (k : Int) (x y : Ltl) : (k = 5 ∨ k = 6 ∨ k = 10 ∨ k = 14) → OkC nms x → OkC nms y → OkC nms (.mk k 0 [x, y])
theorem kidsC_nat {k : Int} {m : Nat} (h : kidsC k = (m : Int)) : (m = 0 ∧ (k = 1 ∨ k = 2 ∨ k = 3)) ∨ (m = 1 ∧ (k = 4 ∨ k = 7 ∨ k = 8 ∨ k = 9 ∨ k = 11 ∨ k = 12 ∨ k = 13)) ∨ (m = 2 ∧ (k = 5 ∨ k = 6 ∨ k = 10 ∨ k = 14)) := by
  unfold kidsC at h
  split at h
  · left; exact ⟨by omega, by assumption⟩
  split at h
  · right; left; exact ⟨by omega, by assumption⟩
  split at h
  · right; right; exact ⟨by omega, by assumption⟩
  · omega
mutual
theorem okC_of {nms : List ByteArray} : ∀ (f : Ltl) (d c : Int), (chkC f d c).1 = 0 → badF (nmL nms) f = false → OkC nms f
  | .mk k n kids, d, c, h, hb => by
    simp only [chkC] at h
    split at h
    · cases h
    split at h
    · cases h
    split at h
    · cases h
    rename_i h1 h2 h3
    simp only [not_or] at h3
    obtain ⟨h3, h4, h5, h6⟩ := h3
    simp only [badF, Bool.or_eq_false_iff] at hb
    have hk := okC_ofL kids (d + 1) (c + 1) h hb.2
    have h3 : kidsC k = (kids.length : Int) := by omega
    have h6 : k = 3 ∨ n = 0 := by omega
    rcases kidsC_nat h3 with ⟨hl, hc⟩ | ⟨hl, hc⟩ | ⟨hl, hc⟩
    · obtain rfl : kids = [] := List.eq_nil_of_length_eq_zero hl
      rcases hc with rfl | rfl | rfl
      · obtain rfl : n = 0 := by omega
        exact .t
      · obtain rfl : n = 0 := by omega
        exact .f
      · refine .a n (by omega) (by omega) ?_
        have := hb.1
        simpa using this
    · obtain rfl : n = 0 := by omega
      match kids, hl, hk with
      | [x], _, hk => exact .one k x hc (hk x (by simp))
    · obtain rfl : n = 0 := by omega
      match kids, hl, hk with
      | [x, y], _, hk => exact .two k x y hc (hk x (by simp)) (hk y (by simp))
theorem okC_ofL {nms : List ByteArray} : ∀ (l : List Ltl) (d c : Int), (chkCL l d c).1 = 0 → badFs (nmL nms) l = false → ∀ x ∈ l, OkC nms x
  | [], _, _, _, _ => fun x h => by cases h
  | y :: r, d, c, h, hb => by
    simp only [chkCL] at h
    split at h
    · rename_i h1; exact absurd h h1
    rename_i h1
    simp only [badFs, Bool.or_eq_false_iff] at hb
    intro x hx
    rcases List.mem_cons.1 hx with e | hx
    · rw [e]; exact okC_of y d c (by simpa using h1) hb.1
    · exact okC_ofL r d _ h hb.2 x hx
end
section
variable {nms : List ByteArray} {t u : Bys} {f g : Ltl}
def CS (nms : List ByteArray) (t : Bys) (f : Ltl) : Prop := ∀ (r : Bys) (N o n : Nat), stopT r → 1 ≤ N → 10 * (t ++ r).length + 2 ≤ n → Dp N (cSin nms N n o (nxT (t ++ r))) (.ok f (nxT r))
def CA (nms : List ByteArray) (t : Bys) (f : Ltl) : Prop := ∀ (r : Bys) (N o n : Nat), stopT r → 1 ≤ N → 10 * (t ++ r).length + 5 ≤ n →
  (∃ a, a < N ∧ cRow nms N n false o (nxT (t ++ r)) = .er 5 a) ∨ ∃ m, 10 * r.length + 4 ≤ m ∧ cRow nms N n false o (nxT (t ++ r)) = cRowL nms N m false o f (nxT r)
def CO (nms : List ByteArray) (t : Bys) (f : Ltl) : Prop := ∀ (r : Bys) (N o n : Nat), stopT r → 1 ≤ N → (nxT r).1 ≠ [38] → 10 * (t ++ r).length + 7 ≤ n →
  (∃ a, a < N ∧ cRow nms N n true o (nxT (t ++ r)) = .er 5 a) ∨ ∃ m, 10 * r.length + 4 ≤ m ∧ cRow nms N n true o (nxT (t ++ r)) = cRowL nms N m true o f (nxT r)
def CF (nms : List ByteArray) (t : Bys) (f : Ltl) : Prop := ∀ (r : Bys) (N o n : Nat), stopT r → 1 ≤ N → (nxT r).1 ≠ [38] → (nxT r).1 ≠ [47] → (nxT r).1 ≠ [45, 62] → 10 * (t ++ r).length + 8 ≤ n → Dp N (cFor nms N n o [] (nxT (t ++ r))) (.ok f (nxT r))
theorem CS.ca (h : CS nms t f) : CA nms t f := by
  intro r N o n hr hN hn
  obtain ⟨n, rfl⟩ : ∃ m, n = m + 2 := ⟨n - 2, by omega⟩
  have hl : (t ++ r).length = t.length + r.length := List.length_append
  simp only [cRow, cPart]
  rcases h r N o n hr hN (by omega) with e | ⟨a, ha, e⟩
  · right; rw [e]; exact ⟨n + 1, by omega, rfl⟩
  · left; rw [e]; exact ⟨a, ha, rfl⟩
theorem CA.co (h : CA nms t f) : CO nms t f := by
  intro r N o n hr hN hA hn
  obtain ⟨n, rfl⟩ : ∃ m, n = m + 2 := ⟨n - 2, by omega⟩
  have hl : (t ++ r).length = t.length + r.length := List.length_append
  rw [cRow, cPart]
  rcases h r N o n hr hN (by omega) with ⟨a, ha, e⟩ | ⟨m, hm, e⟩
  · left; rw [e]; exact ⟨a, ha, rfl⟩
  · right
    rw [e]
    obtain ⟨m, rfl⟩ : ∃ k, m = k + 1 := ⟨m - 1, by omega⟩
    rw [cRowL, if_neg (show ¬ (nxT r).1 = sgR false from hA)]
    exact ⟨n + 1, by omega, rfl⟩
theorem CO.cf (h : CO nms t f) : CF nms t f := by
  intro r N o n hr hN hA hO hF hn
  obtain ⟨n, rfl⟩ : ∃ m, n = m + 1 := ⟨n - 1, by omega⟩
  rw [cFor]
  rcases h r N o n hr hN hA (by omega) with ⟨a, ha, e⟩ | ⟨m, hm, e⟩
  · right; rw [e]; exact ⟨a, ha, rfl⟩
  · left
    rw [e]
    obtain ⟨m, rfl⟩ : ∃ k, m = k + 1 := ⟨m - 1, by omega⟩
    rw [cRowL, if_neg (show ¬ (nxT r).1 = sgR true from hO)]
    show (if _ then _ else _) = _
    rw [if_neg hF]
    rfl
theorem stop_br (r : Bys) : stopT (93 :: r) := by intro c h; cases h; decide
theorem CF.cs (h : CF nms t f) : CS nms (40 :: (t ++ [41])) f := by
  intro r N o n hr hN hn
  have e1 : 40 :: (t ++ [41]) ++ r = 40 :: (t ++ (41 :: r)) := by simp
  rw [e1] at hn ⊢
  rw [nxT_sym (by decide) (by decide) (by decide)]
  obtain ⟨n, rfl⟩ : ∃ m, n = m + 1 := ⟨n - 1, by omega⟩
  rw [cSin, if_neg (show ¬ ([40] : Bys) = [33] by decide), if_neg (show ¬ ([40] : Bys) = [69] by decide), if_neg (show ¬ ([40] : Bys) = [65] by decide), if_pos rfl]
  by_cases ho : o = 20
  · rw [if_pos ho]; right; exact ⟨_, atT_lt (by simp) hN, rfl⟩
  rw [if_neg ho]
  have e2 : nxT (41 :: r) = ([41], r) := nxT_sym (by decide) (by decide) (by decide)
  simp only [List.length_cons] at hn
  rcases h (41 :: r) N (o + 1) n (stop_cl r) hN (by rw [e2]; show ([41] : Bys) ≠ [38]; decide) (by rw [e2]; show ([41] : Bys) ≠ [47]; decide) (by rw [e2]; show ([41] : Bys) ≠ [45, 62]; decide) (by omega) with e | ⟨a, ha, e⟩
  · left
    rw [show nxT (([40], t ++ 41 :: r) : Bys × Bys).2 = nxT (t ++ 41 :: r) from rfl, e, e2]
    show (if _ then _ else _) = _
    rw [if_pos rfl]
  · right
    rw [show nxT (([40], t ++ 41 :: r) : Bys × Bys).2 = nxT (t ++ 41 :: r) from rfl, e]
    exact ⟨a, ha, rfl⟩
theorem cs_not (h : CS nms t f) : CS nms (33 :: t) (.mk 4 0 [f]) := by
  intro r N o n hr hN hn
  rw [List.cons_append] at hn ⊢
  rw [nxT_sym (by decide) (by decide) (by decide)]
  obtain ⟨n, rfl⟩ : ∃ m, n = m + 1 := ⟨n - 1, by omega⟩
  rw [cSin, if_pos rfl]
  by_cases ho : o = 20
  · rw [if_pos ho]; right; exact ⟨_, atT_lt (by simp) hN, rfl⟩
  rw [if_neg ho]
  simp only [List.length_cons] at hn
  rw [show nxT (([33], t ++ r) : Bys × Bys).2 = nxT (t ++ r) from rfl]
  rcases h r N (o + 1) n hr hN (by omega) with e | ⟨a, ha, e⟩
  · left; rw [e]
  · right; rw [e]; exact ⟨a, ha, rfl⟩
def ea (a : Bool) : UInt8 := if a = true then 65 else 69
theorem cs_ea {a : Bool} {q : Bys} {g : Ltl} (h : ∀ r N o n, stopT r → 1 ≤ N → 10 * (q ++ r).length + 2 ≤ n → Dp N (cWays nms N n a o (nxT (q ++ r))) (.ok g (nxT r))) : CS nms (ea a :: q) g := by
  intro r N o n hr hN hn
  rw [List.cons_append] at hn ⊢
  rw [nxT_sym (by cases a <;> decide) (by cases a <;> decide) (by cases a <;> decide)]
  obtain ⟨n, rfl⟩ : ∃ m, n = m + 1 := ⟨n - 1, by omega⟩
  simp only [List.length_cons] at hn
  have hR := h r N (o + 1) n hr hN (by omega)
  cases a
  · rw [cSin, if_neg (show ¬ ([ea false] : Bys) = [33] by decide), if_pos (show ([ea false] : Bys) = [69] by decide)]
    by_cases ho : o = 20
    · rw [if_pos ho]; right; exact ⟨_, atT_lt (by simp) hN, rfl⟩
    rw [if_neg ho]; exact hR
  · rw [cSin, if_neg (show ¬ ([ea true] : Bys) = [33] by decide), if_neg (show ¬ ([ea true] : Bys) = [69] by decide), if_pos (show ([ea true] : Bys) = [65] by decide)]
    by_cases ho : o = 20
    · rw [if_pos ho]; right; exact ⟨_, atT_lt (by simp) hN, rfl⟩
    rw [if_neg ho]; exact hR
theorem cs_way {a : Bool} {c : UInt8} {k : Int} (hc : lowB c = false) (h1 : (c == 32) = false) (h2 : (c == 45) = false) (hk : wayK [c] = k) (hk0 : k ≠ 0) (h91 : ([c] : Bys) ≠ [91]) (h : CS nms t f) : CS nms (ea a :: c :: 32 :: t) (.mk (allC a k) 0 [f]) := by
  refine cs_ea fun r N o n hr hN hn => ?_
  simp only [List.cons_append] at hn ⊢
  rw [nxT_sym hc h1 h2]
  simp only [List.length_cons] at hn
  obtain ⟨n, rfl⟩ : ∃ m, n = m + 1 := ⟨n - 1, by omega⟩
  rw [cWays, if_neg h91, if_neg (by show ¬ wayK [c] = 0; rw [hk]; exact hk0)]
  rw [show nxT (([c], 32 :: (t ++ r)) : Bys × Bys).2 = nxT (t ++ r) from nxT_sp _]
  rcases h r N o n hr hN (by omega) with e | ⟨x, ha, e⟩
  · left; rw [e]; show PR.ok (.mk (allC a (wayK [c])) 0 [f]) _ = _; rw [hk]
  · right; rw [e]; exact ⟨x, ha, rfl⟩
theorem cs_unt {a : Bool} (h : CF nms t f) (h' : CF nms u g) : CS nms (ea a :: 32 :: 91 :: (t ++ 32 :: 85 :: 32 :: (u ++ [93]))) (.mk (allC a 10) 0 [f, g]) := by
  refine cs_ea fun r N o n hr hN hn => ?_
  have e1 : 32 :: 91 :: (t ++ 32 :: 85 :: 32 :: (u ++ [93])) ++ r = 32 :: 91 :: (t ++ (32 :: 85 :: 32 :: (u ++ (93 :: r)))) := by simp
  rw [e1] at hn ⊢
  rw [nxT_sp, nxT_sym (by decide) (by decide) (by decide)]
  simp only [List.length_cons] at hn
  obtain ⟨n, rfl⟩ : ∃ m, n = m + 2 := ⟨n - 2, by omega⟩
  rw [cWays, if_pos rfl, cUnt]
  dsimp only
  have e2 : nxT (32 :: 85 :: 32 :: (u ++ 93 :: r)) = ([85], 32 :: (u ++ 93 :: r)) := by rw [nxT_sp, nxT_sym (by decide) (by decide) (by decide)]
  have e3 : nxT (93 :: r) = ([93], r) := nxT_sym (by decide) (by decide) (by decide)
  rcases h _ N o n (stop_sp _) hN (by rw [e2]; show ([85] : Bys) ≠ [38]; decide) (by rw [e2]; show ([85] : Bys) ≠ [47]; decide) (by rw [e2]; show ([85] : Bys) ≠ [45, 62]; decide) (by omega) with e | ⟨x, ha, e⟩
  · rw [e, e2]
    dsimp only
    rw [if_pos rfl, nxT_sp]
    simp only [List.length_append, List.length_cons] at hn
    rcases h' _ N o n (stop_br r) hN (by rw [e3]; show ([93] : Bys) ≠ [38]; decide) (by rw [e3]; show ([93] : Bys) ≠ [47]; decide) (by rw [e3]; show ([93] : Bys) ≠ [45, 62]; decide) (by rw [List.length_append, List.length_cons]; omega) with e | ⟨x, ha, e⟩
    · rw [e, e3]
      left
      dsimp only
      rw [if_pos rfl]
    · right; rw [e]; exact ⟨x, ha, rfl⟩
  · right; rw [e]; exact ⟨x, ha, rfl⟩
theorem csin_word {l r : Bys} {N o n : Nat} (h : ∀ c ∈ l, lowB c = true) (hn : l ≠ []) (hr : stopT r) : cSin nms N (n + 1) o (nxT (l ++ r)) = wordR nms N (l, r) := by
  have hc : ∀ c : UInt8, lowB c = false → ¬ l = [c] := fun c hc e => by subst e; have := h c (by simp); rw [hc] at this; cases this
  rw [nxT_word h hn hr, cSin, if_neg (hc 33 (by decide)), if_neg (hc 69 (by decide)), if_neg (hc 65 (by decide)), if_neg (hc 40 (by decide))]
  rw [if_neg]
  show ¬ (l = [] ∨ lowB (l.headD 0) = false)
  cases l with
  | nil => exact absurd rfl hn
  | cons c l => simp [h c (by simp)]
theorem cs_word {f : Ltl} (h : ∀ c ∈ t, lowB c = true) (hn : t ≠ []) (hw : ∀ N r, wordR nms N (t, r) = .ok f (nxT r)) : CS nms t f := by
  intro r N o n hr hN hm
  obtain ⟨n, rfl⟩ : ∃ m, n = m + 1 := ⟨n - 1, by omega⟩
  left
  rw [csin_word h hn hr, hw]
theorem ca_two (h : CA nms t f) (h' : CS nms u g) : CA nms (t ++ [32, 38, 32] ++ u) (.mk 5 0 [f, g]) := by
  intro r N o n hr hN hn
  have e1 : t ++ [32, 38, 32] ++ u ++ r = t ++ (32 :: 38 :: 32 :: (u ++ r)) := by simp
  rw [e1] at hn ⊢
  have e2 : nxT (32 :: 38 :: 32 :: (u ++ r)) = ([38], 32 :: (u ++ r)) := by rw [nxT_sp, nxT_sym (by decide) (by decide) (by decide)]
  rcases h _ N o n (stop_sp _) hN (by omega) with ⟨a, ha, e⟩ | ⟨m, hm, e⟩
  · left; rw [e]; exact ⟨a, ha, rfl⟩
  · rw [e, e2]
    simp only [List.length_append, List.length_cons] at hm
    obtain ⟨m, rfl⟩ : ∃ k, m = k + 2 := ⟨m - 2, by omega⟩
    rw [cRowL, if_pos (show (([38], 32 :: (u ++ r)) : Bys × Bys).1 = sgR false from rfl), cPart]
    dsimp only
    rw [nxT_sp]
    rcases h' r N o m hr hN (by rw [List.length_append]; omega) with e | ⟨a, ha, e⟩
    · right; rw [e]; exact ⟨m + 1, by omega, rfl⟩
    · left; rw [e]; exact ⟨a, ha, rfl⟩
theorem co_two (h : CO nms t f) (h' : CA nms u g) : CO nms (t ++ [32, 47, 32] ++ u) (.mk 6 0 [f, g]) := by
  intro r N o n hr hN hA hn
  have e1 : t ++ [32, 47, 32] ++ u ++ r = t ++ (32 :: 47 :: 32 :: (u ++ r)) := by simp
  rw [e1] at hn ⊢
  have e2 : nxT (32 :: 47 :: 32 :: (u ++ r)) = ([47], 32 :: (u ++ r)) := by rw [nxT_sp, nxT_sym (by decide) (by decide) (by decide)]
  rcases h _ N o n (stop_sp _) hN (by rw [e2]; show ([47] : Bys) ≠ [38]; decide) (by omega) with ⟨a, ha, e⟩ | ⟨m, hm, e⟩
  · left; rw [e]; exact ⟨a, ha, rfl⟩
  · rw [e, e2]
    simp only [List.length_append, List.length_cons] at hm
    obtain ⟨m, rfl⟩ : ∃ k, m = k + 2 := ⟨m - 2, by omega⟩
    rw [cRowL, if_pos (show (([47], 32 :: (u ++ r)) : Bys × Bys).1 = sgR true from rfl), cPart]
    dsimp only
    rw [nxT_sp]
    rcases h' r N o m hr hN (by rw [List.length_append]; omega) with ⟨a, ha, e⟩ | ⟨j, hj, e⟩
    · left; rw [e]; exact ⟨a, ha, rfl⟩
    · right
      rw [e]
      obtain ⟨j, rfl⟩ : ∃ k, j = k + 1 := ⟨j - 1, by omega⟩
      rw [cRowL, if_neg (show ¬ (nxT r).1 = sgR false from hA)]
      exact ⟨m + 1, by omega, rfl⟩
end
structure CT (nms : List ByteArray) (t : Bys) (f : Ltl) : Prop where
  ss : f.k ≠ 5 → f.k ≠ 6 → CS nms t f
  aa : f.k ≠ 6 → CA nms t f
  oo : CO nms t f
theorem CT.ofS {nms : List ByteArray} {t : Bys} {f : Ltl} (h : CS nms t f) : CT nms t f := ⟨fun _ _ => h, fun _ => h.ca, h.ca.co⟩
section
variable {nms : List ByteArray} {t : Bys} {f : Ltl}
theorem CT.kS (h : CT nms t f) {b : Bool} (hb : b = true → f.k ≠ 5 ∧ f.k ≠ 6) : CS nms (kidT b t) f := by
  unfold kidT
  split
  · rename_i e; exact h.ss (hb e).1 (hb e).2
  · exact h.oo.cf.cs
theorem CT.kA (h : CT nms t f) {b : Bool} (hb : b = true → f.k ≠ 6) : CA nms (kidT b t) f := by
  unfold kidT
  split
  · rename_i e; exact h.aa (hb e)
  · exact h.oo.cf.cs.ca
theorem CT.kO (h : CT nms t f) {b : Bool} : CO nms (kidT b t) f := by
  unfold kidT
  split
  · exact h.oo
  · exact h.oo.cf.cs.ca.co
end
theorem bareC_one {k i x : Int} (hk : k ≠ 5 ∧ k ≠ 6) (h : bareC k i x = true) : x ≠ 5 ∧ x ≠ 6 := by
  unfold bareC at h
  constructor <;> rintro rfl <;> simp at h <;> omega
theorem bareC_andL {x : Int} (h : bareC 5 0 x = true) : x ≠ 6 := by rintro rfl; revert h; decide
theorem bareC_andR {x : Int} (h : bareC 5 1 x = true) : x ≠ 5 ∧ x ≠ 6 := by constructor <;> (rintro rfl; revert h; decide)
theorem bareC_orR {x : Int} (h : bareC 6 1 x = true) : x ≠ 6 := by rintro rfl; revert h; decide
theorem ct {nms : List ByteArray} {f : Ltl} (h : OkC nms f) : CT nms (txtC (nmL nms) f) f := by
  induction h with
  | t => exact CT.ofS (cs_word (t := tTrue) (by decide) (by decide) fun N r => by unfold wordR; rw [if_pos rfl])
  | f => exact CT.ofS (cs_word (t := tFalse) (by decide) (by decide) fun N r => by unfold wordR; rw [if_neg (show ¬ tFalse = tTrue by decide), if_pos rfl])
  | a n h0 h63 h =>
    have e : txtC (nmL nms) (.mk 3 n []) = nmL nms n := by simp [txtC, joinC]
    rw [e]
    exact CT.ofS (cs_word (nmL_low h0 h) h fun N r => word_nm h0 h63 h N r)
  | one k x hk hx ih =>
    have hS : CS nms (kidT (bareC k 0 x.k) (txtC (nmL nms) x)) x := ih.kS (bareC_one (by omega))
    refine CT.ofS ?_
    rcases hk with rfl | rfl | rfl | rfl | rfl | rfl | rfl
    · exact cs_not hS
    · exact cs_way (a := false) (c := 88) (k := 7) (by decide) (by decide) (by decide) rfl (by decide) (by decide) hS
    · exact cs_way (a := false) (c := 70) (k := 8) (by decide) (by decide) (by decide) rfl (by decide) (by decide) hS
    · exact cs_way (a := false) (c := 71) (k := 9) (by decide) (by decide) (by decide) rfl (by decide) (by decide) hS
    · exact cs_way (a := true) (c := 88) (k := 7) (by decide) (by decide) (by decide) rfl (by decide) (by decide) hS
    · exact cs_way (a := true) (c := 70) (k := 8) (by decide) (by decide) (by decide) rfl (by decide) (by decide) hS
    · exact cs_way (a := true) (c := 71) (k := 9) (by decide) (by decide) (by decide) rfl (by decide) (by decide) hS
  | two k x y hk hx hy ihx ihy =>
    rcases hk with rfl | rfl | rfl | rfl
    · have hA := ca_two (ihx.kA (b := bareC 5 0 x.k) bareC_andL) (ihy.kS (b := bareC 5 1 y.k) bareC_andR)
      exact ⟨fun h => absurd rfl h, fun _ => hA, hA.co⟩
    · have hO := co_two (ihx.kO (b := bareC 6 0 x.k)) (ihy.kA (b := bareC 6 1 y.k) bareC_orR)
      exact ⟨fun _ h => absurd rfl h, fun h => absurd rfl h, hO⟩
    · have hU := cs_unt (a := false) ihx.oo.cf ihy.oo.cf
      refine CT.ofS ?_
      have e : txtC (nmL nms) (.mk 10 0 [x, y]) = ea false :: 32 :: 91 :: (txtC (nmL nms) x ++ 32 :: 85 :: 32 :: (txtC (nmL nms) y ++ [93])) := by simp [txtC, txtCs, joinC, ea]
      rw [e]; exact hU
    · have hU := cs_unt (a := true) ihx.oo.cf ihy.oo.cf
      refine CT.ofS ?_
      have e : txtC (nmL nms) (.mk 14 0 [x, y]) = ea true :: 32 :: 91 :: (txtC (nmL nms) x ++ 32 :: 85 :: 32 :: (txtC (nmL nms) y ++ [93])) := by simp [txtC, txtCs, joinC, ea]
      rw [e]; exact hU
theorem txtC_ne {nms : List ByteArray} {f : Ltl} (h : OkC nms f) : txtC (nmL nms) f ≠ [] := by
  cases h with
  | t => simp [txtC, joinC, tTrue]
  | f => simp [txtC, joinC, tFalse]
  | a n h0 h63 h => simpa [txtC, joinC] using h
  | one k x hk hx => rcases hk with rfl | rfl | rfl | rfl | rfl | rfl | rfl <;> simp [txtC, joinC, sigC]
  | two k x y hk hx hy => rcases hk with rfl | rfl | rfl | rfl <;> simp [txtC, joinC]
/-- what is printed is read as it was, but for what is open together -/
theorem cback_law {nms : List ByteArray} {f : Ltl} (h : (printC f nms).2 = 0) : (printC f nms).1 = txtC (nmL nms) f ∧ ((printC f nms).1.length > 300 → parseC (printC f nms).1 nms = (.mk 0 0 [], 0, 2)) ∧
    ((printC f nms).1.length ≤ 300 → parseC (printC f nms).1 nms = (f, 0, 0) ∨ ∃ a, a < (printC f nms).1.length ∧ parseC (printC f nms).1 nms = (.mk 0 0 [], a, 5)) := by
  unfold printC at h ⊢
  by_cases h1 : (chkC f 1 0).1 ≠ 0
  · rw [if_pos h1] at h; exact absurd h h1
  rw [if_neg h1] at h ⊢
  by_cases h2 : badF (nmL nms) f = true
  · rw [if_pos h2] at h; cases h
  rw [if_neg h2]
  dsimp only
  have hok := okC_of f 1 0 (by simpa using h1) (by simpa using h2)
  have hne := List.length_pos_iff.2 (txtC_ne hok)
  refine ⟨rfl, fun hl => by unfold parseC; rw [if_pos hl], fun hl => ?_⟩
  unfold parseC
  rw [if_neg (by omega)]
  have hF := (ct hok).oo.cf [] (txtC (nmL nms) f).length 0 (10 * (txtC (nmL nms) f).length + 20) (fun c h => by cases h) hne (by decide) (by decide) (by decide) (by rw [List.append_nil]; omega)
  rw [List.append_nil] at hF
  rcases hF with e | ⟨a, ha, e⟩
  · left
    rw [e]
    dsimp only
    rw [if_neg (by rw [nxT_nil]; simp), if_neg h1]
  · right
    rw [e]
    exact ⟨a, ha, rfl⟩
end Go.Proofs.YtikigaeihdmcaaaGreatDoor

/-
  Package lasso: words, their check and their letters.
-/
set_option linter.unusedVariables false
set_option linter.unusedSimpArgs false
namespace Go.Proofs.YtikigaeihdmcaaaGreatDoor
open Go.RowKit

theorem Sl.u64 {w : World} {F : Nat → Prop} {ao : Option Addr} {cap : Nat} {xs : List Nat} (h : Sl w F ao cap xs) : ∀ x ∈ xs, x < 18446744073709551616 := by
  intro x hx
  obtain ⟨i, hi, rfl⟩ := List.getElem_of_mem hx
  obtain ⟨b, off, _, _, es, _, hr⟩ := h.el i hi
  exact hr.2
end Go.Proofs.YtikigaeihdmcaaaGreatDoor

/-
  Package dwyer: what a pattern with its scope means for a word.
-/
set_option linter.unusedVariables false
set_option linter.unusedSimpArgs false
namespace Go.Proofs.YtikigaeihdmcaaaGreatDoor
open Go.RowKit

abbrev patV (pt : LPat) : Value := .agg [.int .i64 pt.1, .int .i64 pt.2.1, .int .i64 pt.2.2.1, .int .i64 pt.2.2.2.1, .int .i64 pt.2.2.2.2.1, .int .i64 pt.2.2.2.2.2.1, .int .i64 pt.2.2.2.2.2.2].toArray
def rightB (n : Int) (has : Bool) : Bool := decide (0 ≤ n ∧ n ≤ 63) && (has || decide (n = 0))
def chkP (pt : LPat) : Int :=
  if pt.1 < 1 ∨ pt.1 > 6 ∨ pt.2.1 < 1 ∨ pt.2.1 > 5 then 1
  else if (rightB pt.2.2.1 true && rightB pt.2.2.2.1 (decide (pt.1 = 5 ∨ pt.1 = 6)) && rightB pt.2.2.2.2.1 (decide (pt.2.1 = 3 ∨ pt.2.1 = 4 ∨ pt.2.1 = 5)) && rightB pt.2.2.2.2.2.1 (decide (pt.2.1 = 2 ∨ pt.2.1 = 4 ∨ pt.2.1 = 5))) = false then 1
  else if pt.2.2.2.2.2.2 < 0 ∨ pt.2.2.2.2.2.2 > 3 ∨ (pt.1 ≠ 4 ∧ pt.2.2.2.2.2.2 ≠ 0) then 1 else 0

theorem right_ok (w : World) (n : Int) (has : Bool) : Rt Tryz.prog 58 [.int .i64 n, .bool has].toArray w fun v w' => v = .bool (rightB n has) ∧ w = w' := by
  refine Rt.enter2 Tryz.func58 Tryz.ntmps58 rfl rfl ?_
  (repeat (first | (apply WL.pure; rfl; rfl; rfl) | (apply WL.nil) | (apply EX.thenN) | (apply CW.seq) | (apply CW.region)))
  (refine WL.lookG rfl rfl (fun h => ?_) (fun h => ?_))
  · simp at h
    (repeat (apply WL.pure; rfl; rfl; rfl))
    (refine WL.lookG rfl rfl (fun h => ?_) (fun h => ?_))
    · simp at h
      (repeat (apply WL.pure; rfl; rfl; rfl))
      (refine WL.lookG rfl rfl (fun h => ?_) (fun h => ?_))
      · subst h
        (repeat (first | (apply WL.pure; rfl; rfl; rfl) | (apply WL.nil) | (apply EX.thenN) | (apply WL.pass; rfl; rfl) | (apply CW.ret)))
        refine EX.ret1 rfl rfl ⟨?_, rfl⟩
        simp [rightB]; omega
      · subst h
        (repeat (first | (apply WL.pure; rfl; rfl; rfl) | (apply WL.nil) | (apply EX.thenN) | (apply CW.ret)))
        refine EX.ret1 rfl rfl ⟨?_, rfl⟩
        have : (decide (0 ≤ n) && decide (n ≤ 63)) = true := by simp; omega
        simp [rightB, this]
        by_cases hn : n = 0 <;> simp [hn]
    · simp at h
      (repeat (first | (apply WL.pure; rfl; rfl; rfl) | (apply WL.nil) | (apply EX.thenN) | (apply WL.pass; rfl; rfl) | (apply CW.ret)))
      refine EX.ret1 rfl rfl ⟨?_, rfl⟩
      simp [rightB]; intro _ h3; omega
  · simp at h
    (repeat (first | (apply WL.pure; rfl; rfl; rfl) | (apply WL.nil) | (apply EX.thenN) | (apply WL.pass; rfl; rfl) | (apply CW.ret)))
    refine EX.ret1 rfl rfl ⟨?_, rfl⟩
    simp [rightB]; intro h3; omega

theorem dwyerCheck (w : World) (pt : LPat) : Rt Tryz.prog 40 [patV pt].toArray w fun v w' => v = .int .i64 (chkP pt) ∧ Ext w w' := by
  refine Rt.enter1 Tryz.func40 Tryz.ntmps40 rfl rfl ?_
  obtain ⟨k, sc, p, s, q, r, c⟩ := pt
  (repeat (first | (apply CW.seq) | (apply CW.region)))
  refine WL.boxB rfl rfl rfl fun w1 hb hE => ?_
  apply WL.pure; rfl; rfl; rfl
  apply WL.nil
  apply EX.thenN
  refine CW.cut [(1, .pointer (some ⟨w.heap.size, 0, none⟩)), (3, .bool (decide (k = 5 ∨ k = 6)))] ?_ ?_
  · (repeat (first | (apply WL.pure; rfl; rfl; rfl) | (apply CW.region) | (apply WL.fa; rfl; rfl; rfl) | (apply WL.ld; rfl; rfl; rfl; assumption; rfl)))
    (refine WL.lookG rfl rfl (fun h => ?_) (fun h => ?_)) <;> simp at h
    · (repeat (first | (apply WL.pure; rfl; rfl; rfl) | (apply WL.nil) | (apply WL.pass; rfl; rfl)))
      refine EX.cut ⟨rfl, ?_, trivial⟩
      refine congrArg (fun b => some (Value.bool b)) ?_
      (rw [Bool.eq_iff_iff]; simp; try omega)
    · (repeat (first | (apply WL.pure; rfl; rfl; rfl) | (apply WL.nil) | (apply WL.fa; rfl; rfl; rfl) | (apply WL.ld; rfl; rfl; rfl; assumption; rfl)))
      refine EX.cut ⟨rfl, ?_, trivial⟩
      refine congrArg (fun b => some (Value.bool b)) ?_
      (rw [Bool.eq_iff_iff]; simp; try omega)
  refine CW.cut [(1, .pointer (some ⟨w.heap.size, 0, none⟩)), (3, .bool (decide (k = 5 ∨ k = 6))), (4, .bool (decide (sc = 3 ∨ sc = 4 ∨ sc = 5)))] ?_ ?_
  · (repeat (first | (apply WL.pure; rfl; rfl; rfl) | (apply CW.region) | (apply WL.fa; rfl; rfl; rfl) | (apply WL.ld; rfl; rfl; rfl; assumption; rfl)))
    (refine WL.lookG rfl rfl (fun h => ?_) (fun h => ?_)) <;> simp at h
    · (repeat (first | (apply WL.pure; rfl; rfl; rfl) | (apply WL.nil) | (apply WL.pass; rfl; rfl)))
      refine EX.cut ⟨rfl, rfl, ?_, trivial⟩
      refine congrArg (fun b => some (Value.bool b)) ?_
      (rw [Bool.eq_iff_iff]; simp; try omega)
    · (repeat (first | (apply WL.pure; rfl; rfl; rfl) | (apply WL.fa; rfl; rfl; rfl) | (apply WL.ld; rfl; rfl; rfl; assumption; rfl)))
      (refine WL.lookG rfl rfl (fun h => ?_) (fun h => ?_)) <;> simp at h
      · (repeat (first | (apply WL.pure; rfl; rfl; rfl) | (apply WL.nil) | (apply WL.pass; rfl; rfl)))
        refine EX.cut ⟨rfl, rfl, ?_, trivial⟩
        refine congrArg (fun b => some (Value.bool b)) ?_
        (rw [Bool.eq_iff_iff]; simp; try omega)
      · (repeat (first | (apply WL.pure; rfl; rfl; rfl) | (apply WL.nil) | (apply WL.fa; rfl; rfl; rfl) | (apply WL.ld; rfl; rfl; rfl; assumption; rfl)))
        refine EX.cut ⟨rfl, rfl, ?_, trivial⟩
        refine congrArg (fun b => some (Value.bool b)) ?_
        (rw [Bool.eq_iff_iff]; simp; try omega)
  refine CW.cut [(1, .pointer (some ⟨w.heap.size, 0, none⟩)), (3, .bool (decide (k = 5 ∨ k = 6))), (4, .bool (decide (sc = 3 ∨ sc = 4 ∨ sc = 5))), (5, .bool (decide (sc = 2 ∨ sc = 4 ∨ sc = 5)))] ?_ ?_
  · (repeat (first | (apply WL.pure; rfl; rfl; rfl) | (apply CW.region) | (apply WL.fa; rfl; rfl; rfl) | (apply WL.ld; rfl; rfl; rfl; assumption; rfl)))
    (refine WL.lookG rfl rfl (fun h => ?_) (fun h => ?_)) <;> simp at h
    · (repeat (first | (apply WL.pure; rfl; rfl; rfl) | (apply WL.nil) | (apply WL.pass; rfl; rfl)))
      refine EX.cut ⟨rfl, rfl, rfl, ?_, trivial⟩
      refine congrArg (fun b => some (Value.bool b)) ?_
      (rw [Bool.eq_iff_iff]; simp; try omega)
    · (repeat (first | (apply WL.pure; rfl; rfl; rfl) | (apply WL.fa; rfl; rfl; rfl) | (apply WL.ld; rfl; rfl; rfl; assumption; rfl)))
      (refine WL.lookG rfl rfl (fun h => ?_) (fun h => ?_)) <;> simp at h
      · (repeat (first | (apply WL.pure; rfl; rfl; rfl) | (apply WL.nil) | (apply WL.pass; rfl; rfl)))
        refine EX.cut ⟨rfl, rfl, rfl, ?_, trivial⟩
        refine congrArg (fun b => some (Value.bool b)) ?_
        (rw [Bool.eq_iff_iff]; simp; try omega)
      · (repeat (first | (apply WL.pure; rfl; rfl; rfl) | (apply WL.nil) | (apply WL.fa; rfl; rfl; rfl) | (apply WL.ld; rfl; rfl; rfl; assumption; rfl)))
        refine EX.cut ⟨rfl, rfl, rfl, ?_, trivial⟩
        refine congrArg (fun b => some (Value.bool b)) ?_
        (rw [Bool.eq_iff_iff]; simp; try omega)
  generalize hS : decide (k = 5 ∨ k = 6) = bs
  generalize hQ : decide (sc = 3 ∨ sc = 4 ∨ sc = 5) = bq
  generalize hR : decide (sc = 2 ∨ sc = 4 ∨ sc = 5) = br
  have e0 : chkP (k, sc, p, s, q, r, c) = if k < 1 ∨ k > 6 ∨ sc < 1 ∨ sc > 5 then 1 else if (rightB p true && rightB s bs && rightB q bq && rightB r br) = false then 1 else if c < 0 ∨ c > 3 ∨ (k ≠ 4 ∧ c ≠ 0) then 1 else 0 := by
    simp only [chkP, hS, hQ, hR]
  rw [e0]
  clear e0 hS hQ hR
  (repeat (first | (apply WL.pure; rfl; rfl; rfl) | (apply CW.seq) | (apply CW.region) | (apply WL.fa; rfl; rfl; rfl) | (apply WL.ld; rfl; rfl; rfl; assumption; rfl) | (apply CW.block)))
  (refine WL.lookG rfl rfl (fun h => ?_) (fun h => ?_)) <;> simp at h
  · (repeat (first | (apply WL.pure; rfl; rfl; rfl) | (apply WL.nil) | (apply EX.thenN) | (apply CW.seq) | (apply CW.region) | (apply WL.pass; rfl; rfl) | (apply CW.condT; rfl) | (apply CW.ret) | (apply EX.thenR) | (apply EX.inR)))
    refine EX.ret1 rfl rfl ⟨?_, hE⟩
    rw [if_pos (by omega)]
  · (repeat (first | (apply WL.pure; rfl; rfl; rfl) | (apply WL.fa; rfl; rfl; rfl) | (apply WL.ld; rfl; rfl; rfl; assumption; rfl)))
    (refine WL.lookG rfl rfl (fun h => ?_) (fun h => ?_)) <;> simp at h
    · (repeat (first | (apply WL.pure; rfl; rfl; rfl) | (apply WL.nil) | (apply EX.thenN) | (apply CW.seq) | (apply CW.region) | (apply WL.pass; rfl; rfl) | (apply CW.condT; rfl) | (apply CW.ret) | (apply EX.thenR) | (apply EX.inR)))
      refine EX.ret1 rfl rfl ⟨?_, hE⟩
      rw [if_pos (by omega)]
    · (repeat (first | (apply WL.pure; rfl; rfl; rfl) | (apply WL.fa; rfl; rfl; rfl) | (apply WL.ld; rfl; rfl; rfl; assumption; rfl)))
      (refine WL.lookG rfl rfl (fun h => ?_) (fun h => ?_)) <;> simp at h
      · (repeat (first | (apply WL.pure; rfl; rfl; rfl) | (apply WL.nil) | (apply EX.thenN) | (apply CW.seq) | (apply CW.region) | (apply WL.pass; rfl; rfl) | (apply CW.condT; rfl) | (apply CW.ret) | (apply EX.thenR) | (apply EX.inR)))
        refine EX.ret1 rfl rfl ⟨?_, hE⟩
        rw [if_pos (by omega)]
      · (repeat (first | (apply WL.pure; rfl; rfl; rfl) | (apply WL.nil) | (apply EX.thenN) | (apply WL.fa; rfl; rfl; rfl) | (apply WL.ld; rfl; rfl; rfl; assumption; rfl)))
        (refine CW.cond rfl (fun h => ?_) (fun h => ?_)) <;> simp at h
        · (repeat (first | (apply WL.pure; rfl; rfl; rfl) | (apply WL.nil) | (apply EX.thenN) | (apply CW.seq) | (apply CW.region) | (apply CW.ret) | (apply EX.thenR) | (apply EX.inR)))
          refine EX.ret1 rfl rfl ⟨?_, hE⟩
          rw [if_pos (by omega)]
        · (repeat (first | (apply CW.seq) | (apply CW.region) | (apply WL.fa; rfl; rfl; rfl) | (apply WL.ld; rfl; rfl; rfl; assumption; rfl)))
          have hA : ¬ (k < 1 ∨ k > 6 ∨ sc < 1 ∨ sc > 5) := by omega
          refine WL.call rfl rfl rfl (right_ok w1 p true) ?_
          rintro v w2 ⟨rfl, rfl⟩
          (repeat (apply WL.pure; rfl; rfl; rfl))
          (refine WL.lookG rfl rfl (fun h => ?_) (fun h => ?_)) <;> simp at h
          · (repeat (first | (apply WL.pure; rfl; rfl; rfl) | (apply WL.nil) | (apply EX.thenN) | (apply CW.seq) | (apply CW.region) | (apply WL.pass; rfl; rfl) | (apply CW.condT; rfl) | (apply CW.ret) | (apply EX.thenR) | (apply EX.inR)))
            refine EX.ret1 rfl rfl ⟨?_, hE⟩
            rw [if_neg hA, if_pos (by simp [*])]
          · (repeat (first | (apply WL.pure; rfl; rfl; rfl) | (apply WL.fa; rfl; rfl; rfl) | (apply WL.ld; rfl; rfl; rfl; assumption; rfl)))
            refine WL.call rfl rfl rfl (right_ok w1 s bs) ?_
            rintro v w2 ⟨rfl, rfl⟩
            (repeat (apply WL.pure; rfl; rfl; rfl))
            (refine WL.lookG rfl rfl (fun h => ?_) (fun h => ?_)) <;> simp at h
            · (repeat (first | (apply WL.pure; rfl; rfl; rfl) | (apply WL.nil) | (apply EX.thenN) | (apply CW.seq) | (apply CW.region) | (apply WL.pass; rfl; rfl) | (apply CW.condT; rfl) | (apply CW.ret) | (apply EX.thenR) | (apply EX.inR)))
              refine EX.ret1 rfl rfl ⟨?_, hE⟩
              rw [if_neg hA, if_pos (by simp [*])]
            · (repeat (first | (apply WL.pure; rfl; rfl; rfl) | (apply WL.fa; rfl; rfl; rfl) | (apply WL.ld; rfl; rfl; rfl; assumption; rfl)))
              refine WL.call rfl rfl rfl (right_ok w1 q bq) ?_
              rintro v w2 ⟨rfl, rfl⟩
              (repeat (apply WL.pure; rfl; rfl; rfl))
              (refine WL.lookG rfl rfl (fun h => ?_) (fun h => ?_)) <;> simp at h
              · (repeat (first | (apply WL.pure; rfl; rfl; rfl) | (apply WL.nil) | (apply EX.thenN) | (apply CW.seq) | (apply CW.region) | (apply WL.pass; rfl; rfl) | (apply CW.condT; rfl) | (apply CW.ret) | (apply EX.thenR) | (apply EX.inR)))
                refine EX.ret1 rfl rfl ⟨?_, hE⟩
                rw [if_neg hA, if_pos (by simp [*])]
              · (repeat (first | (apply WL.pure; rfl; rfl; rfl) | (apply WL.fa; rfl; rfl; rfl) | (apply WL.ld; rfl; rfl; rfl; assumption; rfl)))
                refine WL.call rfl rfl rfl (right_ok w1 r br) ?_
                rintro v w2 ⟨rfl, rfl⟩
                (repeat (first | (apply WL.pure; rfl; rfl; rfl) | (apply WL.nil) | (apply EX.thenN)))
                (refine CW.cond rfl (fun h => ?_) (fun h => ?_)) <;> simp at h
                · (repeat (first | (apply WL.pure; rfl; rfl; rfl) | (apply WL.nil) | (apply EX.thenN) | (apply CW.seq) | (apply CW.region) | (apply CW.ret) | (apply EX.thenR) | (apply EX.inR)))
                  refine EX.ret1 rfl rfl ⟨?_, hE⟩
                  rw [if_neg hA, if_pos (by simp [*])]
                · (repeat (first | (apply WL.pure; rfl; rfl; rfl) | (apply CW.seq) | (apply CW.region) | (apply WL.fa; rfl; rfl; rfl) | (apply WL.ld; rfl; rfl; rfl; assumption; rfl)))
                  have hB : ¬ ((rightB p true && rightB s bs && rightB q bq && rightB r br) = false) := by simp [*]
                  (refine WL.lookG rfl rfl (fun h => ?_) (fun h => ?_)) <;> simp at h
                  · (repeat (first | (apply WL.pure; rfl; rfl; rfl) | (apply WL.nil) | (apply EX.thenN) | (apply CW.seq) | (apply CW.region) | (apply WL.pass; rfl; rfl) | (apply CW.condT; rfl) | (apply CW.ret) | (apply EX.thenR) | (apply EX.inR)))
                    refine EX.ret1 rfl rfl ⟨?_, hE⟩
                    rw [if_neg hA, if_neg hB, if_pos (by omega)]
                  · (repeat (first | (apply WL.pure; rfl; rfl; rfl) | (apply WL.fa; rfl; rfl; rfl) | (apply WL.ld; rfl; rfl; rfl; assumption; rfl)))
                    (refine WL.lookG rfl rfl (fun h => ?_) (fun h => ?_)) <;> simp at h
                    · (repeat (first | (apply WL.pure; rfl; rfl; rfl) | (apply WL.nil) | (apply EX.thenN) | (apply CW.seq) | (apply CW.region) | (apply WL.pass; rfl; rfl) | (apply CW.condT; rfl) | (apply CW.ret) | (apply EX.thenR) | (apply EX.inR)))
                      refine EX.ret1 rfl rfl ⟨?_, hE⟩
                      rw [if_neg hA, if_neg hB, if_pos (by omega)]
                    · (repeat (first | (apply WL.pure; rfl; rfl; rfl) | (apply WL.fa; rfl; rfl; rfl) | (apply WL.ld; rfl; rfl; rfl; assumption; rfl)))
                      (refine WL.lookG rfl rfl (fun h => ?_) (fun h => ?_)) <;> simp at h
                      · (repeat (first | (apply WL.pure; rfl; rfl; rfl) | (apply WL.nil) | (apply EX.thenN) | (apply WL.fa; rfl; rfl; rfl) | (apply WL.ld; rfl; rfl; rfl; assumption; rfl)))
                        (refine CW.cond rfl (fun h => ?_) (fun h => ?_)) <;> simp at h
                        · (repeat (first | (apply WL.pure; rfl; rfl; rfl) | (apply WL.nil) | (apply EX.thenN) | (apply CW.seq) | (apply CW.region) | (apply CW.ret) | (apply EX.thenR) | (apply EX.inR)))
                          refine EX.ret1 rfl rfl ⟨?_, hE⟩
                          rw [if_neg hA, if_neg hB, if_pos (by omega)]
                        · (repeat (first | (apply WL.pure; rfl; rfl; rfl) | (apply WL.nil) | (apply EX.thenN) | (apply CW.seq) | (apply CW.region) | (apply EX.inN) | (apply CW.ret) | (apply CW.skip)))
                          refine EX.ret1 rfl rfl ⟨?_, hE⟩
                          rw [if_neg hA, if_neg hB, if_neg (by omega)]
                      · (repeat (first | (apply WL.pure; rfl; rfl; rfl) | (apply WL.nil) | (apply EX.thenN) | (apply CW.seq) | (apply CW.region) | (apply WL.pass; rfl; rfl) | (apply EX.inN) | (apply CW.condF; rfl) | (apply CW.ret) | (apply CW.skip)))
                        refine EX.ret1 rfl rfl ⟨?_, hE⟩
                        rw [if_neg hA, if_neg hB, if_neg (by omega)]

end Go.Proofs.YtikigaeihdmcaaaGreatDoor

/-
  Package declare: its check, what is seen, its small searches.
-/
set_option linter.unusedVariables false
set_option linter.unusedSimpArgs false
namespace Go.Proofs.YtikigaeihdmcaaaGreatDoor
open Go.RowKit

abbrev LTpl := Int × Int × Int × Int
abbrev tplV (t : LTpl) : Value := .agg [.int .i64 t.1, .int .i64 t.2.1, .int .i64 t.2.2.1, .int .i64 t.2.2.2].toArray
def countedB (k : Int) : Bool := decide (1 ≤ k ∧ k ≤ 3)
def chkT (t : LTpl) : Int :=
  if t.1 < 1 ∨ t.1 > 14 ∨ t.2.1 < 0 ∨ t.2.1 ≥ 63 ∨ t.2.2.1 < 0 ∨ t.2.2.1 ≥ 63 ∨ ((countedB t.1 || decide (t.1 = 4)) = true ∧ t.2.2.1 ≠ 0) then 1
  else if (countedB t.1 = true ∧ (t.2.2.2 < 1 ∨ t.2.2.2 > 3)) ∨ (countedB t.1 = false ∧ t.2.2.2 ≠ 0) then 1 else 0

theorem counted_ok (w : World) (k : Int) : Rt Tryz.prog 59 [.int .i64 k].toArray w fun v w' => v = .bool (countedB k) ∧ w = w' := by
  refine Rt.enter1 Tryz.func59 Tryz.ntmps59 rfl rfl ?_
  (repeat (first | (apply WL.pure; rfl; rfl; rfl) | (apply WL.nil) | (apply EX.thenN) | (apply CW.seq) | (apply CW.region)))
  (refine WL.lookG rfl rfl (fun h => ?_) (fun h => ?_)) <;> simp at h
  · (repeat (first | (apply WL.pure; rfl; rfl; rfl) | (apply WL.nil) | (apply EX.thenN) | (apply CW.ret)))
    refine EX.ret1 rfl rfl ⟨congrArg Value.bool ?_, rfl⟩
    unfold countedB
    (rw [Bool.eq_iff_iff]; simp; try omega)
  · (repeat (first | (apply WL.pure; rfl; rfl; rfl) | (apply WL.nil) | (apply EX.thenN) | (apply WL.pass; rfl; rfl) | (apply CW.ret)))
    refine EX.ret1 rfl rfl ⟨congrArg Value.bool ?_, rfl⟩
    unfold countedB
    (rw [Bool.eq_iff_iff]; simp; try omega)

theorem declareCheck (w : World) (t : LTpl) : Rt Tryz.prog 41 [tplV t].toArray w fun v w' => v = .int .i64 (chkT t) ∧ Ext w w' := by
  refine Rt.enter1 Tryz.func41 Tryz.ntmps41 rfl rfl ?_
  obtain ⟨k, A, B, c⟩ := t
  (repeat (first | (apply CW.seq) | (apply CW.region)))
  refine WL.boxB rfl rfl rfl fun w1 hb hE => ?_
  apply WL.pure; rfl; rfl; rfl
  apply WL.nil
  apply EX.thenN
  refine CW.cut [(1, .pointer (some ⟨w.heap.size, 0, none⟩)), (3, .bool (countedB k || decide (k = 4)))] ?_ ?_
  · (repeat (first | (apply CW.region) | (apply WL.fa; rfl; rfl; rfl) | (apply WL.ld; rfl; rfl; rfl; assumption; rfl)))
    refine WL.call rfl rfl rfl (counted_ok w1 k) ?_
    rintro v w2 ⟨rfl, rfl⟩
    (repeat (apply WL.pure; rfl; rfl; rfl))
    (refine WL.lookG rfl rfl (fun h => ?_) (fun h => ?_))
    · (repeat (first | (apply WL.pure; rfl; rfl; rfl) | (apply WL.nil) | (apply WL.pass; rfl; rfl)))
      refine EX.cut ⟨rfl, ?_, trivial⟩
      refine congrArg (fun b => some (Value.bool b)) ?_
      rw [h]; rfl
    · (repeat (first | (apply WL.pure; rfl; rfl; rfl) | (apply WL.nil) | (apply WL.fa; rfl; rfl; rfl) | (apply WL.ld; rfl; rfl; rfl; assumption; rfl)))
      refine EX.cut ⟨rfl, ?_, trivial⟩
      refine congrArg (fun b => some (Value.bool b)) ?_
      rw [h]
      (rw [Bool.eq_iff_iff]; simp; try omega)
  have e0 : chkT (k, A, B, c) = if k < 1 ∨ k > 14 ∨ A < 0 ∨ A ≥ 63 ∨ B < 0 ∨ B ≥ 63 ∨ ((countedB k || decide (k = 4)) = true ∧ B ≠ 0) then 1 else if (countedB k = true ∧ (c < 1 ∨ c > 3)) ∨ (countedB k = false ∧ c ≠ 0) then 1 else 0 := rfl
  rw [e0]
  clear e0
  generalize (countedB k || decide (k = 4)) = al
  apply CW.seq
  apply CW.block
  refine CW.cut [(1, .pointer (some ⟨w.heap.size, 0, none⟩)), (12, .bool (decide (k < 1 ∨ k > 14 ∨ A < 0 ∨ A ≥ 63 ∨ B < 0 ∨ B ≥ 63 ∨ (al = true ∧ B ≠ 0))))] ?_ ?_
  · (repeat (first | (apply WL.pure; rfl; rfl; rfl) | (apply CW.region) | (apply WL.fa; rfl; rfl; rfl) | (apply WL.ld; rfl; rfl; rfl; assumption; rfl)))
    (refine WL.lookG rfl rfl (fun h => ?_) (fun h => ?_)) <;> simp at h
    · (repeat (first | (apply WL.pure; rfl; rfl; rfl) | (apply WL.nil) | (apply WL.pass; rfl; rfl)))
      refine EX.cut ⟨rfl, ?_, trivial⟩
      refine congrArg (fun b => some (Value.bool b)) ?_
      simp; omega
    (repeat (first | (apply WL.pure; rfl; rfl; rfl) | (apply WL.fa; rfl; rfl; rfl) | (apply WL.ld; rfl; rfl; rfl; assumption; rfl)))
    (refine WL.lookG rfl rfl (fun h => ?_) (fun h => ?_)) <;> simp at h
    · (repeat (first | (apply WL.pure; rfl; rfl; rfl) | (apply WL.nil) | (apply WL.pass; rfl; rfl)))
      refine EX.cut ⟨rfl, ?_, trivial⟩
      refine congrArg (fun b => some (Value.bool b)) ?_
      simp; omega
    (repeat (first | (apply WL.pure; rfl; rfl; rfl) | (apply WL.fa; rfl; rfl; rfl) | (apply WL.ld; rfl; rfl; rfl; assumption; rfl)))
    (refine WL.lookG rfl rfl (fun h => ?_) (fun h => ?_)) <;> simp at h
    · (repeat (first | (apply WL.pure; rfl; rfl; rfl) | (apply WL.nil) | (apply WL.pass; rfl; rfl)))
      refine EX.cut ⟨rfl, ?_, trivial⟩
      refine congrArg (fun b => some (Value.bool b)) ?_
      simp; omega
    (repeat (first | (apply WL.pure; rfl; rfl; rfl) | (apply WL.fa; rfl; rfl; rfl) | (apply WL.ld; rfl; rfl; rfl; assumption; rfl)))
    (refine WL.lookG rfl rfl (fun h => ?_) (fun h => ?_)) <;> simp at h
    · (repeat (first | (apply WL.pure; rfl; rfl; rfl) | (apply WL.nil) | (apply WL.pass; rfl; rfl)))
      refine EX.cut ⟨rfl, ?_, trivial⟩
      refine congrArg (fun b => some (Value.bool b)) ?_
      simp; omega
    (repeat (first | (apply WL.pure; rfl; rfl; rfl) | (apply WL.fa; rfl; rfl; rfl) | (apply WL.ld; rfl; rfl; rfl; assumption; rfl)))
    (refine WL.lookG rfl rfl (fun h => ?_) (fun h => ?_)) <;> simp at h
    · (repeat (first | (apply WL.pure; rfl; rfl; rfl) | (apply WL.nil) | (apply WL.pass; rfl; rfl)))
      refine EX.cut ⟨rfl, ?_, trivial⟩
      refine congrArg (fun b => some (Value.bool b)) ?_
      simp; omega
    (repeat (first | (apply WL.pure; rfl; rfl; rfl) | (apply WL.fa; rfl; rfl; rfl) | (apply WL.ld; rfl; rfl; rfl; assumption; rfl)))
    (refine WL.lookG rfl rfl (fun h => ?_) (fun h => ?_)) <;> simp at h
    · (repeat (first | (apply WL.pure; rfl; rfl; rfl) | (apply WL.nil) | (apply WL.pass; rfl; rfl)))
      refine EX.cut ⟨rfl, ?_, trivial⟩
      refine congrArg (fun b => some (Value.bool b)) ?_
      simp; omega
    (repeat (apply WL.pure; rfl; rfl; rfl))
    (refine WL.lookG rfl rfl (fun h => ?_) (fun h => ?_))
    · subst h
      (repeat (first | (apply WL.pure; rfl; rfl; rfl) | (apply WL.nil) | (apply WL.fa; rfl; rfl; rfl) | (apply WL.ld; rfl; rfl; rfl; assumption; rfl)))
      refine EX.cut ⟨rfl, ?_, trivial⟩
      refine congrArg (fun b => some (Value.bool b)) ?_
      (rw [Bool.eq_iff_iff]; simp; try omega)
    · subst h
      (repeat (first | (apply WL.pure; rfl; rfl; rfl) | (apply WL.nil) | (apply WL.pass; rfl; rfl)))
      refine EX.cut ⟨rfl, ?_, trivial⟩
      refine congrArg (fun b => some (Value.bool b)) ?_
      simp; omega
  refine CW.cond rfl (fun h1 => ?_) (fun h1 => ?_)
  · rw [decide_eq_true_eq] at h1
    (repeat (first | (apply WL.pure; rfl; rfl; rfl) | (apply WL.nil) | (apply EX.thenN) | (apply CW.seq) | (apply CW.region) | (apply CW.ret) | (apply EX.thenR) | (apply EX.inR)))
    refine EX.ret1 rfl rfl ⟨?_, hE⟩
    rw [if_pos h1]
  · rw [decide_eq_false_iff_not] at h1
    rw [if_neg h1]
    (repeat (first | (apply CW.seq) | (apply CW.region) | (apply WL.fa; rfl; rfl; rfl) | (apply WL.ld; rfl; rfl; rfl; assumption; rfl)))
    refine WL.call rfl rfl rfl (counted_ok w1 k) ?_
    rintro v w2 ⟨rfl, rfl⟩
    (repeat (apply WL.pure; rfl; rfl; rfl))
    (refine WL.lookG rfl rfl (fun h => ?_) (fun h => ?_))
    · have hk := h
      (repeat (first | (apply WL.pure; rfl; rfl; rfl) | (apply WL.fa; rfl; rfl; rfl) | (apply WL.ld; rfl; rfl; rfl; assumption; rfl)))
      (refine WL.lookG rfl rfl (fun h => ?_) (fun h => ?_)) <;> simp at h
      · (repeat (first | (apply WL.pure; rfl; rfl; rfl) | (apply WL.nil) | (apply EX.thenN) | (apply CW.seq) | (apply CW.region) | (apply WL.pass; rfl; rfl) | (apply CW.condT; rfl) | (apply CW.ret) | (apply EX.thenR) | (apply EX.inR)))
        refine EX.ret1 rfl rfl ⟨?_, hE⟩
        rw [if_pos (.inl ⟨hk, .inl h⟩)]
      · (repeat (first | (apply WL.pure; rfl; rfl; rfl) | (apply WL.fa; rfl; rfl; rfl) | (apply WL.ld; rfl; rfl; rfl; assumption; rfl)))
        (refine WL.lookG rfl rfl (fun h => ?_) (fun h => ?_)) <;> simp at h
        · (repeat (first | (apply WL.pure; rfl; rfl; rfl) | (apply WL.nil) | (apply EX.thenN) | (apply CW.seq) | (apply CW.region) | (apply WL.pass; rfl; rfl) | (apply CW.condT; rfl) | (apply CW.ret) | (apply EX.thenR) | (apply EX.inR)))
          refine EX.ret1 rfl rfl ⟨?_, hE⟩
          rw [if_pos (.inl ⟨hk, .inr h⟩)]
        · (repeat (first | (apply WL.fa; rfl; rfl; rfl) | (apply WL.ld; rfl; rfl; rfl; assumption; rfl)))
          refine WL.call rfl rfl rfl (counted_ok w1 k) ?_
          rintro v w2 ⟨rfl, rfl⟩
          rw [hk]
          (repeat (first | (apply WL.pure; rfl; rfl; rfl) | (apply WL.nil) | (apply EX.thenN) | (apply CW.seq) | (apply CW.region) | (apply WL.pass; rfl; rfl) | (apply EX.inN) | (apply CW.condF; rfl) | (apply CW.ret) | (apply CW.skip)))
          refine EX.ret1 rfl rfl ⟨?_, hE⟩
          rw [if_neg]
          simp; omega
    · have hk := h
      (repeat (first | (apply WL.pure; rfl; rfl; rfl) | (apply WL.pass; rfl; rfl) | (apply WL.fa; rfl; rfl; rfl) | (apply WL.ld; rfl; rfl; rfl; assumption; rfl)))
      refine WL.call rfl rfl rfl (counted_ok w1 k) ?_
      rintro v w2 ⟨rfl, rfl⟩
      rw [hk]
      (repeat (first | (apply WL.pure; rfl; rfl; rfl) | (apply WL.nil) | (apply EX.thenN) | (apply WL.fa; rfl; rfl; rfl) | (apply WL.ld; rfl; rfl; rfl; assumption; rfl)))
      refine CW.cond rfl (fun h2 => ?_) (fun h2 => ?_) <;> simp at h2
      · (repeat (first | (apply WL.pure; rfl; rfl; rfl) | (apply WL.nil) | (apply EX.thenN) | (apply CW.seq) | (apply CW.region) | (apply CW.ret) | (apply EX.thenR) | (apply EX.inR)))
        refine EX.ret1 rfl rfl ⟨?_, hE⟩
        rw [if_pos (.inr ⟨rfl, h2⟩)]
      · (repeat (first | (apply WL.pure; rfl; rfl; rfl) | (apply WL.nil) | (apply EX.thenN) | (apply CW.seq) | (apply CW.region) | (apply EX.inN) | (apply CW.ret) | (apply CW.skip)))
        refine EX.ret1 rfl rfl ⟨?_, hE⟩
        rw [if_neg]
        simp; exact h2
end Go.Proofs.YtikigaeihdmcaaaGreatDoor

/-
  Rules: what is right: plain.
-/
set_option linter.unusedVariables false
set_option linter.unusedSimpArgs false
namespace Go.Proofs.YtikigaeihdmcaaaGreatDoor

abbrev LRule := ByteArray × Int × LPat × LTpl × Ltl × Ltl
def rnmL (nms : List ByteArray) (n : Int) (silent : Bool) : Bys :=
  if n = 63 ∧ silent = true then tSil else if n < 0 ∨ n ≥ (nms.length : Int) ∨ n ≥ 63 ∨ namedB (nms.getD n.toNat ⟨#[]⟩) = false ∨ idxB nms (nms.getD n.toNat ⟨#[]⟩).data.toList ≠ n then []
  else (nms.getD n.toNat ⟨#[]⟩).data.toList
def ownA (pt : LPat) : List Int := if pt.1 = 5 ∨ pt.1 = 6 then [pt.2.2.2.1, pt.2.2.1] else [pt.2.2.1]
def scopeA (pt : LPat) : List Int := if pt.2.1 = 2 then [pt.2.2.2.2.2.1] else if pt.2.1 = 3 then [pt.2.2.2.2.1] else if pt.2.1 = 4 ∨ pt.2.1 = 5 then [pt.2.2.2.2.1, pt.2.2.2.2.2.1] else []
def aloneB (k : Int) : Bool := decide (k ≤ 4)
/-- the atoms of a rule's part, and whether they may be silent -/
def atomsR (r : LRule) : List Int := if r.2.1 = 1 then ownA r.2.2.1 ++ scopeA r.2.2.1 else if r.2.1 = 2 then (if aloneB r.2.2.2.1.1 = true then [r.2.2.2.1.2.1] else [r.2.2.2.1.2.1, r.2.2.2.1.2.2.1]) else []
def partE0 (r : LRule) (nms : List ByteArray) : Int :=
  if r.2.1 = 1 then chkP r.2.2.1 else if r.2.1 = 2 then chkT r.2.2.2.1 else if r.2.1 = 3 then (printL r.2.2.2.2.1 nms).2 else if r.2.1 = 4 then (printC r.2.2.2.2.2 nms).2 else 0
def partE (r : LRule) (nms : List ByteArray) : Int :=
  if partE0 r nms = 0 ∧ (atomsR r).any (fun n => rnmL nms n (decide (r.2.1 = 1)) == []) = true then 4 else partE0 r nms
def patZ : LPat := (0, 0, 0, 0, 0, 0, 0)
def tplZ : LTpl := (0, 0, 0, 0)
def fillF (t : Ltl) : Bool := t.k != 0 || t.n != 0 || decide (0 < t.kids.length)
def otherB (r : LRule) : Bool := (r.2.1 != 1 && r.2.2.1 != patZ) || (r.2.1 != 2 && r.2.2.2.1 != tplZ) || (r.2.1 != 3 && fillF r.2.2.2.2.1) || (r.2.1 != 4 && fillF r.2.2.2.2.2)
def chkRl (r : LRule) (nms : List ByteArray) : Int :=
  if namedB r.1 = false ∨ r.2.1 < 1 ∨ r.2.1 > 4 then 1 else if partE r nms ≠ 0 then partE r nms else if otherB r = true then 1 else 0
end Go.Proofs.YtikigaeihdmcaaaGreatDoor

/-
  Slices of slices that a call owns: the outer row holds slice headers, each inner row is owned by itself. Over any program, but for the instances at the end.
-/
set_option linter.unusedVariables false
set_option linter.unusedSimpArgs false
namespace Go.Proofs.YtikigaeihdmcaaaGreatDoor
open Go.RowKit

/-- a value of one cell, as it is -/
structure Raw where
  v : Value
instance iNest1 : Rep Raw where
  sz := 1
  pos := by decide
  agg := false
  rd := fun _ _ cs x => cs = [x.v] ∧ x.v.oneCell' = true
  len := by intro w F cs x h; rw [h.1]; rfl
  one := by intro w F cs x h v hv; rw [h.1] at hv; simp at hv; subst hv; exact h.2
  szAgg := fun _ => rfl
  mono := fun h _ _ => h
instance iNest2 : Flat Raw := ⟨fun h => h⟩
theorem Rd.mkRaw (w : World) (F : Nat → Prop) (v : Value) (h : v.oneCell' = true) : Rd w F v (⟨v⟩ : Raw) := ⟨[v], rfl, rfl, h⟩

section
variable {α : Type} [Rep α]
structure OwnN (w : World) (B : Nat) (eo ei : TypeId) (v : Value) (vs : List Raw) (xs : List (List α)) : Prop where
  out : Own w B eo Non v vs
  len : vs.length = xs.length
  inn : ∀ i (h : i < vs.length) (h' : i < xs.length), Own w B ei Non vs[i].v xs[i]
  dis : ∀ i j (hi : i < vs.length) (hj : j < vs.length), i ≠ j → ∀ g, vs[i].v.ownBlock = some g → vs[j].v.ownBlock = some g → False
  dio : ∀ i (hi : i < vs.length) g, vs[i].v.ownBlock = some g → v.ownBlock = some g → False
variable {w w' w'' : World} {B : Nat} {eo ei : TypeId} {v : Value} {vs : List Raw} {xs : List (List α)}
theorem OwnN.ext (h : OwnN w B eo ei v vs xs) (hE : Ext w w') : OwnN w' B eo ei v vs xs :=
  ⟨h.out.extN hE, h.len, fun i hi hi' => (h.inn i hi hi').extN hE, h.dis, h.dio⟩
theorem OwnN.low (h : OwnN w B eo ei v vs xs) {B' : Nat} (hB : B' ≤ B) : OwnN w B' eo ei v vs xs :=
  ⟨h.out.low hB, h.len, fun i hi hi' => (h.inn i hi hi').low hB, h.dis, h.dio⟩
/-- its blocks -/
def OwnN.blk (v : Value) (vs : List Raw) : Nat → Prop := fun b => v.ownBlock = some b ∨ ∃ x ∈ vs, x.v.ownBlock = some b
theorem OwnN.lt (h : OwnN w B eo ei v vs xs) : ∀ b, OwnN.blk v vs b → B ≤ b ∧ b < w.heap.size := by
  rintro b (hb | ⟨x, hx, hb⟩)
  · exact ⟨(h.out.lt b hb).1, (h.out.lt b hb).2.1⟩
  · obtain ⟨i, hi, rfl⟩ := List.mem_iff_getElem.1 hx
    have := (h.inn i hi (by rw [← h.len]; exact hi)).lt b hb
    exact ⟨this.1, this.2.1⟩
theorem OwnN.kept {row : Option Nat} (h : OwnN w B eo ei v vs xs) (hg : w.grownBy w' row) (hne : ∀ b, OwnN.blk v vs b → some b ≠ row) : OwnN w' B eo ei v vs xs :=
  ⟨h.out.keptN hg (fun g hg' => hne g (.inl hg')), h.len, fun i hi hi' => (h.inn i hi hi').keptN hg (fun g hg' => hne g (.inr ⟨_, List.getElem_mem hi, hg'⟩)), h.dis, h.dio⟩
theorem OwnN.nil : OwnN w B eo ei (.slice none 0 0) [] ([] : List (List α)) := ⟨Own.nil, rfl, fun i hi => absurd hi (by simp), fun i j hi => absurd hi (by simp), fun i hi => absurd hi (by simp)⟩
theorem OwnN.made {n : Nat} (h : Own w B eo Non v (List.replicate n (⟨.slice none 0 0⟩ : Raw))) : OwnN w B eo ei v (List.replicate n ⟨.slice none 0 0⟩) (List.replicate n ([] : List α)) := by
  refine ⟨h, by simp, fun i hi hi' => ?_, fun i j hi hj _ g hg => ?_, fun i hi g hg => ?_⟩
  · simp only [List.getElem_replicate]; exact Own.nil
  · simp only [List.getElem_replicate] at hg; simp [Value.ownBlock] at hg
  · simp only [List.getElem_replicate] at hg; simp [Value.ownBlock] at hg
theorem OwnN.set (h : OwnN w B eo ei v vs xs) {i : Nat} (hi : i < vs.length) {v' : Value} {ys : List α} (hin : Own w' B ei Non v' ys) (hg : w.grownBy w' vs[i].v.ownBlock) (hnb : ∀ g, v'.ownBlock = some g → vs[i].v.ownBlock = some g ∨ w.heap.size ≤ g)
    (ho : Own w'' B eo Non v (vs.set i ⟨v'⟩)) (hg2 : w'.grownBy w'' v.ownBlock) : OwnN w'' B eo ei v (vs.set i ⟨v'⟩) (xs.set i ys) := by
  have hold : ∀ j (hj : j < vs.length), ∀ g, vs[j].v.ownBlock = some g → g < w.heap.size := fun j hj g hg => ((h.inn j hj (by rw [← h.len]; exact hj)).lt g hg).2.1
  have holdv : ∀ g, v.ownBlock = some g → g < w.heap.size := fun g hg => (h.out.lt g hg).2.1
  have hnv : ∀ g, v'.ownBlock = some g → v.ownBlock = some g → False := fun g h1 h2 => by
    rcases hnb g h1 with h3 | h3
    · exact h.dio i hi g h3 h2
    · have := holdv g h2; omega
  have hnj : ∀ j (hj : j < vs.length), j ≠ i → ∀ g, v'.ownBlock = some g → vs[j].v.ownBlock = some g → False := fun j hj hne g h1 h2 => by
    rcases hnb g h1 with h3 | h3
    · exact h.dis i j hi hj (Ne.symm hne) g h3 h2
    · have := hold j hj g h2; omega
  refine ⟨ho, by simp [h.len], fun j hj hj' => ?_, fun j k hj hk hne g h1 h2 => ?_, fun j hj g h1 h2 => ?_⟩
  · rw [List.length_set] at hj hj'
    rw [List.getElem_set, List.getElem_set]
    by_cases e : i = j
    · rw [if_pos e, if_pos e]
      exact hin.keptN hg2 (fun g hg e => hnv g hg e.symm)
    · rw [if_neg e, if_neg e]
      exact ((h.inn j hj hj').keptN hg (fun g hg' e2 => h.dis i j hi hj e g e2.symm hg')).keptN hg2 (fun g hg' e2 => h.dio j hj g hg' e2.symm)
  · rw [List.length_set] at hj hk
    rw [List.getElem_set] at h1 h2
    by_cases e1 : i = j
    · subst e1
      rw [if_pos rfl] at h1
      rw [if_neg hne] at h2
      exact hnj k hk (Ne.symm hne) g h1 h2
    · rw [if_neg e1] at h1
      by_cases e2 : i = k
      · rw [if_pos e2] at h2
        exact hnj j hj (Ne.symm e1) g h2 h1
      · rw [if_neg e2] at h2
        exact h.dis j k hj hk hne g h1 h2
  · rw [List.length_set] at hj
    rw [List.getElem_set] at h1
    by_cases e : i = j
    · rw [if_pos e] at h1; exact hnv g h1 h2
    · rw [if_neg e] at h1; exact h.dio j hj g h1 h2
/-- as one that is read -/
theorem OwnN.sl (h : OwnN w B eo ei v vs xs) : ∃ ao cap, v = .slice ao xs.length cap ∧ Sl w (OwnN.blk v vs) ao cap xs := by
  obtain ⟨ao, cap, e, hs⟩ := h.out.sl
  refine ⟨ao, cap, by rw [← h.len]; exact e, ⟨by rw [← h.len]; exact hs.le, hs.mx, hs.nil, fun i hi => ?_⟩⟩
  have hi' : i < vs.length := by rw [h.len]; exact hi
  obtain ⟨b, off, e1, hF, es, hc, hr⟩ := hs.el i hi'
  obtain ⟨rfl, h1⟩ := hr
  obtain ⟨io, ic, e2, hs2⟩ := (h.inn i hi' hi).sl
  refine ⟨b, off, e1, hF.elim (fun h => h.elim) .inl, [vs[i].v], hc, io, ic, by rw [e2], hs2.mono (fun _ _ => rfl) ?_⟩
  intro b hb
  exact hb.elim (fun h => h.elim) (fun hb => .inr ⟨_, List.getElem_mem hi', hb⟩)
theorem OwnN.rd (h : OwnN w B eo ei v vs xs) : Rd w (OwnN.blk v vs) v xs := by
  obtain ⟨ao, cap, rfl, hs⟩ := h.sl
  exact hs.rd
theorem OwnN.old (h : OwnN w B eo ei v vs xs) : Rd w (Old w) v xs := h.rd.mono (fun _ _ => rfl) fun b hb => (h.lt b hb).2
end
instance iNest3 : IsT Tryz.prog 49 Raw := IsT.of (by kernel_rfl) Tryz.underlying49 rfl
instance iNest4 : IsZ Tryz.prog 49 (⟨.slice none 0 0⟩ : Raw) 24 := IsZ.of (z := .slice none 0 0) (by kernel_rfl) (fun _ _ => ⟨rfl, rfl⟩)
end Go.Proofs.YtikigaeihdmcaaaGreatDoor

/-
  Contracts of more of the generic functions of package slices, at the types where the program uses them.
-/
set_option linter.unusedVariables false
namespace Go.Proofs.YtikigaeihdmcaaaGreatDoor
open Go.RowKit
end Go.Proofs.YtikigaeihdmcaaaGreatDoor

/-
  slices.IndexFunc and slices.ContainsFunc at lists of structs.
-/
set_option linter.unusedVariables false
namespace Go.Proofs.YtikigaeihdmcaaaGreatDoor
open Go.RowKit
end Go.Proofs.YtikigaeihdmcaaaGreatDoor

/-
  Package scc: contracts of its simple functions.
-/
set_option linter.unusedVariables false
set_option linter.unusedSimpArgs false
namespace Go.Proofs.YtikigaeihdmcaaaGreatDoor
open Go.RowKit

end Go.Proofs.YtikigaeihdmcaaaGreatDoor

