/-
  Package ltl: Check.
-/
import Derived.Test.YthojdcbpglipeaaLtl
set_option linter.unusedVariables false
set_option linter.unusedSimpArgs false
namespace Go.Proofs.Ythojdcbpglipeaa
open Go.RowKit

theorem grown_tr {w w1 w2 : World} {r : Option Nat} (h1 : w.grownBy w1 r) (h2 : w1.grownBy w2 r) : w.grownBy w2 r :=
  ⟨h2.os.trans h1.os, h2.tape.trans h1.tape, h2.output.trans h1.output, Nat.le_trans h1.size h2.size, fun k hk hne => (h2.block k (Nat.lt_of_lt_of_le hk h1.size) hne).trans (h1.block k hk hne)⟩
theorem Ext.grw {w w1 : World} (h : Ext w w1) (r : Option Nat) : w.grownBy w1 r := ⟨h.os, h.tape, h.output, h.size, fun k hk _ => h.block k hk⟩
theorem grown_new {w w1 w2 : World} {r : Option Nat} {b : Nat} (h1 : w.grownBy w1 r) (h2 : w1.grownBy w2 (some b)) (hb : w.heap.size ≤ b) : w.grownBy w2 r :=
  ⟨h2.os.trans h1.os, h2.tape.trans h1.tape, h2.output.trans h1.output, Nat.le_trans h1.size h2.size, fun k hk hne => (h2.block k (Nat.lt_of_lt_of_le hk h1.size) (by simp; omega)).trans (h1.block k hk hne)⟩

mutual
def chkF : Ltl → Int → Int → Int × Int
  | .mk k n kids, deep, c => if c + 1 > 60 then (2, c + 1) else if deep > 20 then (5, c + 1) else if kidsK k ≠ kids.length ∨ n < 0 ∨ n > 63 ∨ (k ≠ 3 ∧ n ≠ 0) then (1, c + 1) else chkFL kids (deep + 1) (c + 1)
def chkFL : List Ltl → Int → Int → Int × Int
  | [], _, c => (0, c)
  | x :: r, deep, c => if (chkF x deep c).1 ≠ 0 then chkF x deep c else chkFL r deep (chkF x deep c).2
end
mutual
theorem chkF_le : ∀ (t : Ltl) (deep c : Int), (chkF t deep c).1 = 0 → c < (chkF t deep c).2 ∧ (chkF t deep c).2 ≤ 60
  | .mk k n kids, deep, c, h => by
    simp only [chkF] at h ⊢
    split at h
    · cases h
    · rename_i h1
      rw [if_neg h1]
      split at h
      · cases h
      · rename_i h2
        rw [if_neg h2]
        split at h
        · cases h
        · rename_i h3
          rw [if_neg h3]
          have := chkFL_le kids (deep + 1) (c + 1) (by omega) h
          omega
theorem chkFL_le : ∀ (l : List Ltl) (deep c : Int), c ≤ 60 → (chkFL l deep c).1 = 0 → c ≤ (chkFL l deep c).2 ∧ (chkFL l deep c).2 ≤ 60
  | [], deep, c, hc, h => by simp only [chkFL]; omega
  | x :: r, deep, c, hc, h => by
    simp only [chkFL] at h ⊢
    split at h
    · rename_i h1; exact absurd h h1
    · rename_i h1
      rw [if_neg h1]
      have h2 := chkF_le x deep c (by simpa using h1)
      have h3 := chkFL_le r deep _ h2.2 h
      omega
end

theorem check_ok : ∀ (m : Nat) (t : Ltl), t.nodes ≤ m → ∀ (w : World) (F : Nat → Prop) (deep c : Int) (bn : Nat) (ao : Option Addr) (cap : Nat), Sl w F ao cap t.kids → (∀ b, F b → b < w.heap.size) → ¬ F bn →
    Blk w bn 3 [.int .i64 c] → 0 ≤ c → c ≤ 60 → 0 ≤ deep → deep ≤ 1000 →
    Rt Try.prog 135 [ltlV t.k t.n ao t.kids.length cap, .int .i64 deep, .pointer (some ⟨bn, 0, none⟩)].toArray w fun v w' => v = .int .i64 (chkF t deep c).1 ∧ Blk w' bn 3 [.int .i64 (chkF t deep c).2] ∧ w.grownBy w' (some bn)
  | 0, t, hm => by have := t.nodes_pos; omega
  | m + 1, .mk k n kids, hm => by
    intro w F deep c bn ao cap hs hF hn hb hc0 hc1 hd0 hd1
    simp only [Ltl.kids, Ltl.k, Ltl.n] at *
    refine Rt.enter3 Try.func135 Try.ntmps135 rfl rfl ?_
    have hlen := hs.len63
    have hbn := hb.lt
    (repeat (first | (apply CW.seq) | (apply CW.region)))
    refine WL.boxB rfl rfl rfl fun w1 hf hE1 => ?_
    have hb1 := hb.ext hE1
    have hg1 := hE1.grw (some bn)
    (repeat (first | (apply WL.add; rfl; rfl; rfl; rfl; omega; omega) | (apply WL.pure; rfl; rfl; rfl) | (apply WL.nil) | (apply EX.thenN) | (apply CW.seq) | (apply CW.region) | (apply WL.nck; rfl; rfl; rfl) | (apply WL.ld; rfl; rfl; rfl; assumption; rfl)))
    refine WL.st rfl rfl rfl hb1 rfl rfl (ones_of rfl) (fun w2 hb2 hgr => ?_)
    have hf2 := hf.kept hgr (by simp; omega)
    have hg2 := grown_tr hg1 hgr
    simp only [chkF]
    (repeat (first | (apply WL.pure; rfl; rfl; rfl) | (apply WL.nil) | (apply EX.thenN) | (apply CW.seq) | (apply CW.region) | (apply WL.nck; rfl; rfl; rfl) | (apply WL.ld; rfl; rfl; rfl; assumption; rfl) | (apply CW.block)))
    refine CW.cond rfl (fun h => ?_) (fun h => ?_) <;> simp only [decide_eq_true_eq, decide_eq_false_iff_not, gt_iff_lt] at h
    · (repeat (first | (apply WL.pure; rfl; rfl; rfl) | (apply WL.nil) | (apply EX.thenN) | (apply CW.seq) | (apply CW.region) | (apply CW.ret) | (apply EX.thenR) | (apply EX.inR)))
      refine EX.ret1 rfl rfl ?_
      rw [if_pos h]
      exact ⟨rfl, hb2, hg2⟩
    rw [if_neg (by omega)]
    (repeat (first | (apply WL.pure; rfl; rfl; rfl) | (apply WL.nil) | (apply EX.thenN) | (apply CW.seq) | (apply CW.region)))
    refine CW.cond rfl (fun h1 => ?_) (fun h1 => ?_) <;> simp only [decide_eq_true_eq, decide_eq_false_iff_not, gt_iff_lt] at h1
    · (repeat (first | (apply WL.pure; rfl; rfl; rfl) | (apply WL.nil) | (apply EX.thenN) | (apply CW.seq) | (apply CW.region) | (apply CW.ret) | (apply EX.thenR) | (apply EX.inR)))
      refine EX.ret1 rfl rfl ?_
      rw [if_pos h1]
      exact ⟨rfl, hb2, hg2⟩
    rw [if_neg (by omega)]
    refine CW.cutE [(1, .int .i64 deep), (2, .pointer (some ⟨bn, 0, none⟩)), (3, .pointer (some ⟨w.heap.size, 0, none⟩)), (23, .bool (decide (kidsK k ≠ kids.length ∨ n < 0 ∨ n > 63 ∨ (k ≠ 3 ∧ n ≠ 0))))] ?_ ?_
    · (repeat (first | (apply CW.seq) | (apply QL.fa; rfl; rfl; rfl) | (apply QL.ld; rfl; rfl; rfl; assumption; rfl) | (apply CW.draw; exact mixed; kernel_rfl)))
      refine QL.call rfl rfl rfl (fun w' h => Rt.mono (kids_ok w' k) (fun v w'' hv => ⟨hv.1, hv.2 ▸ Ext.refl _⟩)) ?_
      (repeat (first | (apply QL.pure; rfl; rfl; rfl) | (apply QL.lenS; rfl; rfl; rfl) | (apply QL.fa; rfl; rfl; rfl) | (apply QL.ld; rfl; rfl; rfl; assumption; rfl)))
      refine QL.nil fun w3 hE3 => ?_
      have hf3 := hf2.ext hE3
      (repeat (apply EX.thenN))
      refine CW.cond rfl (fun h2 => ?_) (fun h2 => ?_) <;> simp at h2
      · (repeat (apply CW.skip))
        refine EX.cutE ⟨rfl, rfl, rfl, ?_, trivial⟩ hE3
        refine congrArg (fun b => some (Value.bool b)) ?_
        have : (kidsK k != (kids.length : Int)) = true := by simpa using h2
        rw [this, decide_eq_true (.inl h2)]
      · (repeat (first | (apply WL.pure; rfl; rfl; rfl) | (apply CW.seq) | (apply CW.region) | (apply WL.fa; rfl; rfl; rfl) | (apply WL.ld; rfl; rfl; rfl; assumption; rfl)))
        (refine WL.lookG rfl rfl (fun h => ?_) (fun h => ?_)) <;> simp at h
        · (repeat (first | (apply WL.pure; rfl; rfl; rfl) | (apply WL.nil) | (apply EX.thenN) | (apply WL.pass; rfl; rfl) | (apply CW.condT; rfl) | (apply CW.skip)))
          refine EX.cutE ⟨rfl, rfl, rfl, ?_, trivial⟩ hE3
          refine congrArg (fun b => some (Value.bool b)) ?_
          rw [decide_eq_true (.inr (.inl h))]
        · (repeat (first | (apply WL.pure; rfl; rfl; rfl) | (apply WL.nil) | (apply EX.thenN) | (apply WL.fa; rfl; rfl; rfl) | (apply WL.ld; rfl; rfl; rfl; assumption; rfl)))
          refine CW.cond rfl (fun h3 => ?_) (fun h3 => ?_) <;> simp at h3
          · (repeat (apply CW.skip))
            refine EX.cutE ⟨rfl, rfl, rfl, ?_, trivial⟩ hE3
            refine congrArg (fun b => some (Value.bool b)) ?_
            rw [decide_eq_true h3, decide_eq_true (.inr (.inr (.inl h3)))]
          · (repeat (first | (apply WL.pure; rfl; rfl; rfl) | (apply CW.region) | (apply WL.fa; rfl; rfl; rfl) | (apply WL.ld; rfl; rfl; rfl; assumption; rfl)))
            (refine WL.lookG rfl rfl (fun h => ?_) (fun h => ?_)) <;> simp at h
            · (repeat (first | (apply WL.pure; rfl; rfl; rfl) | (apply WL.nil) | (apply WL.fa; rfl; rfl; rfl) | (apply WL.ld; rfl; rfl; rfl; assumption; rfl)))
              refine EX.cutE ⟨rfl, rfl, rfl, ?_, trivial⟩ hE3
              refine congrArg (fun b => some (Value.bool b)) ?_
              (rw [Bool.eq_iff_iff]; simp; try omega)
            · (repeat (first | (apply WL.pure; rfl; rfl; rfl) | (apply WL.nil) | (apply WL.pass; rfl; rfl)))
              refine EX.cutE ⟨rfl, rfl, rfl, ?_, trivial⟩ hE3
              refine congrArg (fun b => some (Value.bool b)) ?_
              (rw [Bool.eq_iff_iff]; simp; try omega)
    intro w3 hE3
    have hb3 := hb2.ext hE3
    have hf3 := hf2.ext hE3
    have hg3 := grown_tr hg2 (hE3.grw (some bn))
    refine CW.cond rfl (fun h2 => ?_) (fun h2 => ?_) <;> simp only [decide_eq_true_eq, decide_eq_false_iff_not] at h2
    · rw [if_pos h2]
      (repeat (first | (apply WL.pure; rfl; rfl; rfl) | (apply WL.nil) | (apply EX.thenN) | (apply CW.seq) | (apply CW.region) | (apply CW.ret) | (apply EX.thenR) | (apply EX.inR)))
      exact EX.ret1 rfl rfl ⟨rfl, hb3, hg3⟩
    rw [if_neg h2]
    (repeat (first | (apply WL.pure; rfl; rfl; rfl) | (apply WL.nil) | (apply EX.thenN) | (apply CW.seq) | (apply CW.region) | (apply WL.lenS; rfl; rfl; rfl) | (apply WL.fa; rfl; rfl; rfl) | (apply WL.ld; rfl; rfl; rfl; assumption; rfl) | (apply CW.block) | (apply EX.inN) | (apply CW.skip)))
    refine CW.loop (S := Nat × Int) (fun x => [(1, .int .i64 deep), (2, .pointer (some ⟨bn, 0, none⟩)), (48, .slice ao kids.length cap), (49, .int .i64 (kids.length : Int)), (50, .int .i64 (x.1 : Int))])
      (fun x w' => w.grownBy w' (some bn) ∧ Blk w' bn 3 [.int .i64 x.2] ∧ 0 ≤ x.2 ∧ x.2 ≤ 60 ∧ x.1 ≤ kids.length ∧ chkFL kids (deep + 1) (c + 1) = chkFL (kids.drop x.1) (deep + 1) x.2) (fun x => kids.length - x.1) (0, c + 1) (by repeat (first | exact trivial | refine ⟨rfl, ?_⟩)) ⟨hg3, hb3, by simp only; omega, by simp only; omega, by omega, rfl⟩ ?_
    rintro ⟨i, ci⟩ w4 ⟨hg4, hb4, hci0, hci, hi, heq⟩
    simp only at hb4 hci0 hci hi heq
    rw [heq]
    (repeat (first | (apply WL.pure; rfl; rfl; rfl) | (apply WL.nil) | (apply EX.thenN) | (apply CW.seq) | (apply CW.region)))
    refine CW.cond rfl (fun h3 => ?_) (fun h3 => ?_) <;> simp at h3
    · have hs4 : Sl w4 F ao cap kids := hs.mono (fun b hb => hg4.block b (hF b hb) (by intro e; cases e; exact hn hb)) fun _ h => h
      have hF4 : ∀ b, F b → b < w4.heap.size := fun b hb => Nat.lt_of_lt_of_le (hF b hb) hg4.size
      (repeat (first | (apply EX.thenN) | (apply CW.seq) | (apply CW.region) | (apply CW.block) | (apply CW.skip)))
      refine WL.elemN rfl rfl rfl rfl rfl hs4 h3 (fun _ => rfl) (fun u q hu => ?_)
      have hdrop : kids.drop i = kids[i] :: kids.drop (i + 1) := List.drop_eq_getElem_cons h3
      have hnode : (kids[i]).nodes ≤ m := by
        have := Ltl.nodes_kid kids _ (List.getElem_mem h3)
        simp only [Ltl.nodes] at hm; omega
      rw [hdrop]
      simp only [chkFL]
      generalize kids[i] = x at *
      obtain ⟨ao', cap', rfl, hx⟩ := hu.ltl
      have hw4 : w.heap.size ≤ w4.heap.size := hg4.size
      refine WL.alloc rfl rfl (fun w5 hb5 hE5 => ?_)
      refine WL.st rfl rfl rfl hb5 rfl rfl (ones_of rfl) (fun w6 hb6 hgr6 => ?_)
      have hE6 : Ext w4 w6 := hE5.grown hgr6 hE5.size (fun g hg => by cases hg; exact Nat.le_refl _)
      have hb46 := hb4.ext hE6
      have hg6 := grown_tr hg4 (hE6.grw (some bn))
      (repeat (first | (apply WL.add; rfl; rfl; rfl; rfl; omega; omega) | (apply WL.pure; rfl; rfl; rfl) | (apply WL.nil) | (apply EX.thenN) | (apply CW.seq) | (apply CW.region) | (apply WL.ldA; rfl; rfl; rfl; assumption; rfl)))
      refine WL.call rfl rfl rfl (check_ok m x hnode w6 F (deep + 1) ci bn ao' cap' (hx.mono (fun b hb => hE6.block b (hF4 b hb)) fun _ h => h) (fun b hb => Nat.lt_of_lt_of_le (hF4 b hb) hE6.size) hn hb46 hci0 hci (by omega) (by omega)) ?_
      rintro v w7 ⟨rfl, hb7, hg7⟩
      have hg7 := grown_tr hg6 hg7
      have hle := chkF_le x (deep + 1) ci
      generalize chkF x (deep + 1) ci = r at *
      obtain ⟨e, c'⟩ := r
      simp only at hle hb7
      (repeat (first | (apply WL.pure; rfl; rfl; rfl) | (apply WL.nil) | (apply EX.thenN) | (apply CW.seq) | (apply CW.region)))
      refine CW.cond rfl (fun h4 => ?_) (fun h4 => ?_) <;> simp at h4
      · (repeat (first | (apply WL.pure; rfl; rfl; rfl) | (apply WL.nil) | (apply EX.thenN) | (apply CW.seq) | (apply CW.region) | (apply CW.ret) | (apply EX.thenR) | (apply EX.inR)))
        refine EX.ret1 rfl rfl ?_
        rw [if_pos h4]
        exact ⟨rfl, hb7, hg7⟩
      · have := hle h4
        (repeat (first | (apply WL.add; rfl; rfl; rfl; rfl; omega; omega) | (apply WL.pure; rfl; rfl; rfl) | (apply WL.nil) | (apply EX.thenN) | (apply CW.region) | (apply EX.inN) | (apply CW.skip)))
        refine EX.back (i + 1, c') (by repeat (first | exact trivial | refine ⟨rfl, ?_⟩)) ⟨hg7, hb7, by simp only; omega, by simp only; omega, by simp only; omega, ?_⟩ (by simp only; omega)
        simp only
        rw [if_neg (by simp [h4])]
    · (repeat (first | (apply WL.pure; rfl; rfl; rfl) | (apply WL.nil) | (apply EX.thenN) | (apply CW.seq) | (apply CW.region) | (apply CW.exit) | (apply EX.thenX) | (apply EX.inX) | (apply CW.ret)))
      refine EX.ret1 rfl rfl ?_
      rw [List.drop_eq_nil_of_le (by omega)]
      exact ⟨rfl, hb4, hg4⟩
theorem ltlCheck (w : World) {F : Nat → Prop} {t : Ltl} {ao : Option Addr} {cap : Nat} (hs : Sl w F ao cap t.kids) (hF : ∀ b, F b → b < w.heap.size) :
    Rt Try.prog 81 [ltlV t.k t.n ao t.kids.length cap].toArray w fun v w' => v = .int .i64 (chkF t 1 0).1 ∧ Ext w w' := by
  refine Rt.enter1 Try.func81 Try.ntmps81 rfl rfl ?_
  (repeat (first | (apply CW.seq) | (apply CW.region)))
  refine WL.boxB rfl rfl rfl fun w1 hf hE1 => ?_
  (repeat (first | (apply WL.pure; rfl; rfl; rfl) | (apply WL.nil) | (apply EX.thenN) | (apply CW.seq) | (apply CW.region)))
  refine WL.alloc rfl rfl (fun w2 hb hE2 => ?_)
  have hlt := hb.lt
  refine WL.st rfl rfl rfl hb rfl rfl (ones_of rfl) (fun w3 hb hgr => ?_)
  have hE12 := hE1.trans hE2
  have hE3 : Ext w w3 := hE12.grown hgr hE12.size (fun g hg => by cases hg; exact hE1.size)
  have hf3 := (hf.ext hE2).kept hgr (by have := hf.lt; simp; omega)
  have hw1 : w.heap.size ≤ w1.heap.size := hE1.size
  (repeat (first | (apply WL.nil) | (apply EX.thenN) | (apply CW.seq) | (apply CW.region) | (apply WL.ldA; rfl; rfl; rfl; assumption; rfl)))
  refine WL.call rfl rfl rfl (check_ok t.nodes t (Nat.le_refl _) w3 F 1 0 w1.heap.size ao cap (hs.mono (fun b hb => hE3.block b (hF b hb)) fun _ h => h) (fun b hb => Nat.lt_of_lt_of_le (hF b hb) hE3.size) (fun h => by have := hF _ h; omega) hb (by omega) (by omega) (by omega) (by omega)) ?_
  rintro v w4 ⟨rfl, hb4, hg4⟩
  (repeat (first | (apply WL.pure; rfl; rfl; rfl) | (apply WL.nil) | (apply EX.thenN) | (apply CW.ret)))
  exact EX.ret1 rfl rfl ⟨rfl, hE3.grown hg4 hE3.size (fun g hg => by cases hg; exact hE1.size)⟩
end Go.Proofs.Ythojdcbpglipeaa
