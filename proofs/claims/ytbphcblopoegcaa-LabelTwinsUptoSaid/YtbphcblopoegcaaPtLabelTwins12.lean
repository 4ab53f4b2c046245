import Derived.Test.YtbphcblopoegcaaPtLabelTwins11
/-
  Formulas of one way: how they lie in memory, their check.
-/
set_option linter.unusedVariables false
set_option linter.unusedSimpArgs false
namespace Go.Proofs.Ytbphcblopoegcaa
open Go.RowKit

inductive Ltl where
  | mk (k n : Int) (kids : List Ltl) : Ltl
def Ltl.k : Ltl → Int | .mk k _ _ => k
def Ltl.n : Ltl → Int | .mk _ n _ => n
def Ltl.kids : Ltl → List Ltl | .mk _ _ l => l
mutual
def Ltl.nodes : Ltl → Nat
  | .mk _ _ kids => 1 + Ltl.nodesL kids
def Ltl.nodesL : List Ltl → Nat
  | [] => 0
  | x :: r => x.nodes + Ltl.nodesL r
end
theorem Ltl.nodes_pos (t : Ltl) : 0 < t.nodes := by cases t; simp [Ltl.nodes]; omega
theorem Ltl.nodes_kid : ∀ (l : List Ltl) (x : Ltl), x ∈ l → x.nodes ≤ Ltl.nodesL l
  | [], x, h => by cases h
  | y :: r, x, h => by
    simp only [Ltl.nodesL]
    rcases List.mem_cons.1 h with rfl | h
    · omega
    · have := Ltl.nodes_kid r x h; omega

inductive RdT (w : World) (F : Nat → Prop) : List Value → Ltl → Prop
  | mk (k n : Int) (kids : List Ltl) (ao : Option Addr) (cap : Nat) (es : Nat → List Value) : kids.length ≤ cap → cap ≤ maxLen → (ao = none → cap = 0) →
      (∀ i, i < kids.length → ∃ b off, ao = some ⟨b, off, none⟩ ∧ F b ∧ Cells w b (off + i * 3) (es i)) → (∀ i (h : i < kids.length), RdT w F (es i) kids[i]) →
      RdT w F [.int .i64 k, .int .i64 n, .slice ao kids.length cap] (.mk k n kids)
instance iLtl1 : Rep Ltl where
  sz := 3
  pos := by decide
  agg := true
  rd := RdT
  len := by intro w F cs x h; cases h; rfl
  one := by
    intro w F cs x h v hv
    cases h
    simp at hv
    rcases hv with rfl | rfl | rfl <;> rfl
  szAgg := fun h => by cases h
  mono := by
    intro w w' F F' cs x h hb hF
    induction h with
    | mk k n kids ao cap es h1 h2 h3 h4 h5 ih =>
      refine .mk k n kids ao cap es h1 h2 h3 (fun i hi => ?_) (fun i hi => ih i hi)
      obtain ⟨b, off, e, hf, hc⟩ := h4 i hi
      exact ⟨b, off, e, hF b hf, hc.mono (hb b hf)⟩
theorem RdT.sl {w : World} {F : Nat → Prop} {cs : List Value} {t : Ltl} (h : rd w F cs t) : ∃ ao cap, cs = [.int .i64 t.k, .int .i64 t.n, .slice ao t.kids.length cap] ∧ Sl w F ao cap t.kids := by
  cases h with
  | mk k n kids ao cap es h1 h2 h3 h4 h5 =>
    refine ⟨ao, cap, rfl, h1, h2, h3, fun i hi => ?_⟩
    obtain ⟨b, off, e, hf, hc⟩ := h4 i hi
    exact ⟨b, off, e, hf, es i, hc, h5 i hi⟩
theorem RdT.of {w : World} {F : Nat → Prop} {k n : Int} {kids : List Ltl} {ao : Option Addr} {cap : Nat} (h : Sl w F ao cap kids) : rd w F [.int .i64 k, .int .i64 n, .slice ao kids.length cap] (Ltl.mk k n kids) := by
  have h4 : ∀ i, ∃ es : List Value, ∀ hi : i < kids.length, ∃ b off, ao = some ⟨b, off, none⟩ ∧ F b ∧ Cells w b (off + i * 3) es ∧ rd w F es kids[i] := by
    intro i
    by_cases hi : i < kids.length
    · obtain ⟨b, off, e, hf, es, hc, hr⟩ := h.el i hi
      exact ⟨es, fun _ => ⟨b, off, e, hf, hc, hr⟩⟩
    · exact ⟨[], fun h => absurd h hi⟩
  refine .mk k n kids ao cap (fun i => Classical.choose (h4 i)) h.le h.mx h.nil (fun i hi => ?_) (fun i hi => ?_)
  · obtain ⟨b, off, e, hf, hc, _⟩ := Classical.choose_spec (h4 i) hi
    exact ⟨b, off, e, hf, hc⟩
  · obtain ⟨b, off, e, hf, hc, hr⟩ := Classical.choose_spec (h4 i) hi
    exact hr
abbrev ltlV (k n : Int) (ao : Option Addr) (len cap : Nat) : Value := .agg [.int .i64 k, .int .i64 n, .slice ao len cap].toArray
theorem Rd.ltl {w : World} {F : Nat → Prop} {v : Value} {t : Ltl} (h : Rd w F v t) : ∃ ao cap, v = ltlV t.k t.n ao t.kids.length cap ∧ Sl w F ao cap t.kids := by
  obtain ⟨cs, e, hr⟩ := h
  obtain ⟨ao, cap, rfl, hs⟩ := RdT.sl hr
  exact ⟨ao, cap, e, hs⟩
theorem Rd.mkLtl {w : World} {F : Nat → Prop} {k n : Int} {kids : List Ltl} {ao : Option Addr} {cap : Nat} (h : Sl w F ao cap kids) : Rd w F (ltlV k n ao kids.length cap) (Ltl.mk k n kids) := ⟨_, rfl, RdT.of h⟩
instance iLtl2 : IsT Try.prog 129 Ltl := IsT.of (by kernel_rfl) Try.underlying129 rfl
instance iLtl3 : IsS Try.prog 127 129 := ⟨Try.underlying127⟩
instance iLtl4 : IsT Try.prog 127 (List Ltl) := IsT.of (by kernel_rfl) Try.underlying127 rfl
instance iLtl5 : IsZ Try.prog 129 (Ltl.mk 0 0 []) 40 := IsZ.of (z := .agg #[.int .i64 0, .int .i64 0, .slice none 0 0]) (by kernel_rfl) (fun _ _ => RdT.of (kids := []) ⟨by simp, by simp [maxLen], fun _ => rfl, fun i hi => absurd hi (by simp)⟩)
instance iLtl6 : IsC Try.prog 129 3 true := IsC.of (by kernel_rfl) Try.underlying129 rfl
instance iLtl7 : IsC Try.prog 127 1 false := IsC.of (by kernel_rfl) Try.underlying127 rfl
instance iLtl8 : IsZC Try.prog 127 [.slice none 0 0] := IsZC.of (z := .slice none 0 0) (by kernel_rfl) rfl
instance iLtl9 : IsFd Try.prog 129 0 0 := IsFd.of (by kernel_rfl)
instance iLtl10 : IsFd Try.prog 129 1 1 := IsFd.of (by kernel_rfl)
instance iLtl11 : IsFd Try.prog 129 2 2 := IsFd.of (by kernel_rfl)
instance iLtl12 : IsZC Try.prog 129 [.int .i64 0, .int .i64 0, .slice none 0 0] := IsZC.of (z := .agg #[.int .i64 0, .int .i64 0, .slice none 0 0]) (by kernel_rfl) rfl
instance iLtl13 : IsBd Try.prog 129 [(0, 1), (1, 1), (2, 1)] := IsBd.of (by kernel_rfl)
instance iLtl14 : IsC Try.prog 248 1 false := IsC.of (by kernel_rfl) Try.underlying248 rfl

def kidsK (k : Int) : Int := if k = 1 ∨ k = 2 ∨ k = 3 then 0 else if k = 4 ∨ k = 7 ∨ k = 10 ∨ k = 11 then 1 else if k = 5 ∨ k = 6 ∨ k = 8 ∨ k = 9 then 2 else -1
theorem kids_ok (w : World) (k : Int) : Rt Try.prog 207 [.int .i64 k].toArray w fun v w' => v = .int .i64 (kidsK k) ∧ w = w' := by
  refine Rt.enter1 Try.func207 Try.ntmps207 rfl rfl ?_
  unfold kidsK
  (repeat (first | (apply WL.pure; rfl; rfl; rfl) | (apply WL.nil) | (apply EX.thenN) | (apply CW.seq) | (apply CW.region) | (apply CW.block)))
  refine CW.cond rfl (fun h => ?_) (fun h => ?_) <;> simp at h
  · subst h; (repeat (first | (apply WL.pure; rfl; rfl; rfl) | (apply WL.nil) | (apply EX.thenN) | (apply CW.seq) | (apply CW.region) | (apply CW.condT; rfl) | (apply CW.ret) | (apply EX.thenR) | (apply EX.inR) | (apply CW.skip)))
    exact EX.ret1 rfl rfl ⟨rfl, rfl⟩
  (repeat (first | (apply WL.pure; rfl; rfl; rfl) | (apply WL.nil) | (apply EX.thenN) | (apply CW.seq) | (apply CW.region)))
  refine CW.cond rfl (fun h => ?_) (fun h => ?_) <;> simp at h
  · subst h; (repeat (first | (apply WL.pure; rfl; rfl; rfl) | (apply WL.nil) | (apply EX.thenN) | (apply CW.seq) | (apply CW.region) | (apply CW.condT; rfl) | (apply CW.ret) | (apply EX.thenR) | (apply EX.inR) | (apply CW.skip)))
    exact EX.ret1 rfl rfl ⟨rfl, rfl⟩
  (repeat (first | (apply WL.pure; rfl; rfl; rfl) | (apply WL.nil) | (apply EX.thenN) | (apply CW.region)))
  refine CW.cond rfl (fun h => ?_) (fun h => ?_) <;> simp at h
  · subst h; (repeat (first | (apply WL.pure; rfl; rfl; rfl) | (apply WL.nil) | (apply EX.thenN) | (apply CW.seq) | (apply CW.region) | (apply CW.ret) | (apply EX.thenR) | (apply EX.inR)))
    exact EX.ret1 rfl rfl ⟨rfl, rfl⟩
  rw [if_neg (by omega)]
  (repeat (first | (apply WL.pure; rfl; rfl; rfl) | (apply WL.nil) | (apply EX.thenN) | (apply CW.seq) | (apply CW.region)))
  refine CW.cond rfl (fun h => ?_) (fun h => ?_) <;> simp at h
  · subst h; (repeat (first | (apply WL.pure; rfl; rfl; rfl) | (apply WL.nil) | (apply EX.thenN) | (apply CW.seq) | (apply CW.region) | (apply CW.condT; rfl) | (apply CW.ret) | (apply EX.thenR) | (apply EX.inR) | (apply CW.skip)))
    exact EX.ret1 rfl rfl ⟨rfl, rfl⟩
  (repeat (first | (apply WL.pure; rfl; rfl; rfl) | (apply WL.nil) | (apply EX.thenN) | (apply CW.seq) | (apply CW.region)))
  refine CW.cond rfl (fun h => ?_) (fun h => ?_) <;> simp at h
  · subst h; (repeat (first | (apply WL.pure; rfl; rfl; rfl) | (apply WL.nil) | (apply EX.thenN) | (apply CW.seq) | (apply CW.region) | (apply CW.condT; rfl) | (apply CW.ret) | (apply EX.thenR) | (apply EX.inR) | (apply CW.skip)))
    exact EX.ret1 rfl rfl ⟨rfl, rfl⟩
  (repeat (first | (apply WL.pure; rfl; rfl; rfl) | (apply WL.nil) | (apply EX.thenN) | (apply CW.seq) | (apply CW.region)))
  refine CW.cond rfl (fun h => ?_) (fun h => ?_) <;> simp at h
  · subst h; (repeat (first | (apply WL.pure; rfl; rfl; rfl) | (apply WL.nil) | (apply EX.thenN) | (apply CW.seq) | (apply CW.region) | (apply CW.condT; rfl) | (apply CW.ret) | (apply EX.thenR) | (apply EX.inR) | (apply CW.skip)))
    exact EX.ret1 rfl rfl ⟨rfl, rfl⟩
  (repeat (first | (apply WL.pure; rfl; rfl; rfl) | (apply WL.nil) | (apply EX.thenN) | (apply CW.region)))
  refine CW.cond rfl (fun h => ?_) (fun h => ?_) <;> simp at h
  · subst h; (repeat (first | (apply WL.pure; rfl; rfl; rfl) | (apply WL.nil) | (apply EX.thenN) | (apply CW.seq) | (apply CW.region) | (apply CW.ret) | (apply EX.thenR) | (apply EX.inR)))
    exact EX.ret1 rfl rfl ⟨rfl, rfl⟩
  rw [if_neg (by omega)]
  (repeat (first | (apply WL.pure; rfl; rfl; rfl) | (apply WL.nil) | (apply EX.thenN) | (apply CW.seq) | (apply CW.region)))
  refine CW.cond rfl (fun h => ?_) (fun h => ?_) <;> simp at h
  · subst h; (repeat (first | (apply WL.pure; rfl; rfl; rfl) | (apply WL.nil) | (apply EX.thenN) | (apply CW.seq) | (apply CW.region) | (apply CW.condT; rfl) | (apply CW.ret) | (apply EX.thenR) | (apply EX.inR) | (apply CW.skip)))
    exact EX.ret1 rfl rfl ⟨rfl, rfl⟩
  (repeat (first | (apply WL.pure; rfl; rfl; rfl) | (apply WL.nil) | (apply EX.thenN) | (apply CW.seq) | (apply CW.region)))
  refine CW.cond rfl (fun h => ?_) (fun h => ?_) <;> simp at h
  · subst h; (repeat (first | (apply WL.pure; rfl; rfl; rfl) | (apply WL.nil) | (apply EX.thenN) | (apply CW.seq) | (apply CW.region) | (apply CW.condT; rfl) | (apply CW.ret) | (apply EX.thenR) | (apply EX.inR) | (apply CW.skip)))
    exact EX.ret1 rfl rfl ⟨rfl, rfl⟩
  (repeat (first | (apply WL.pure; rfl; rfl; rfl) | (apply WL.nil) | (apply EX.thenN) | (apply CW.seq) | (apply CW.region)))
  refine CW.cond rfl (fun h => ?_) (fun h => ?_) <;> simp at h
  · subst h; (repeat (first | (apply WL.pure; rfl; rfl; rfl) | (apply WL.nil) | (apply EX.thenN) | (apply CW.seq) | (apply CW.region) | (apply CW.condT; rfl) | (apply CW.ret) | (apply EX.thenR) | (apply EX.inR) | (apply CW.skip)))
    exact EX.ret1 rfl rfl ⟨rfl, rfl⟩
  (repeat (first | (apply WL.pure; rfl; rfl; rfl) | (apply WL.nil) | (apply EX.thenN) | (apply CW.region)))
  refine CW.cond rfl (fun h => ?_) (fun h => ?_) <;> simp at h
  · subst h; (repeat (first | (apply WL.pure; rfl; rfl; rfl) | (apply WL.nil) | (apply EX.thenN) | (apply CW.seq) | (apply CW.region) | (apply CW.ret) | (apply EX.thenR) | (apply EX.inR)))
    exact EX.ret1 rfl rfl ⟨rfl, rfl⟩
  rw [if_neg (by omega)]
  (repeat (first | (apply WL.pure; rfl; rfl; rfl) | (apply WL.nil) | (apply EX.thenN) | (apply CW.seq) | (apply CW.region) | (apply EX.inN) | (apply CW.ret) | (apply CW.skip)))
  exact EX.ret1 rfl rfl ⟨rfl, rfl⟩
end Go.Proofs.Ytbphcblopoegcaa
/-
  Package ltl: Check.
-/
set_option linter.unusedVariables false
set_option linter.unusedSimpArgs false
namespace Go.Proofs.Ytbphcblopoegcaa
open Go.RowKit

theorem grown_tr {w w1 w2 : World} {r : Option Nat} (h1 : w.grownBy w1 r) (h2 : w1.grownBy w2 r) : w.grownBy w2 r :=
  ⟨h2.os.trans h1.os, h2.tape.trans h1.tape, h2.output.trans h1.output, Nat.le_trans h1.size h2.size, fun k hk hne => (h2.block k (Nat.lt_of_lt_of_le hk h1.size) hne).trans (h1.block k hk hne)⟩
theorem Ext.grw {w w1 : World} (h : Ext w w1) (r : Option Nat) : w.grownBy w1 r := ⟨h.os, h.tape, h.output, h.size, fun k hk _ => h.block k hk⟩
theorem grown_new {w w1 w2 : World} {r : Option Nat} {b : Nat} (h1 : w.grownBy w1 r) (h2 : w1.grownBy w2 (some b)) (hb : w.heap.size ≤ b) : w.grownBy w2 r :=
  ⟨h2.os.trans h1.os, h2.tape.trans h1.tape, h2.output.trans h1.output, Nat.le_trans h1.size h2.size, fun k hk hne => (h2.block k (Nat.lt_of_lt_of_le hk h1.size) (by simp; omega)).trans (h1.block k hk hne)⟩

mutual
def chkF : Ltl → Int → Int → Int × Int
  | .mk k n kids, deep, c => if c + 1 > 60 then (2, c + 1) else if deep > 20 then (5, c + 1) else if kidsK k ≠ kids.length ∨ n < 0 ∨ n > 63 ∨ (k ≠ 3 ∧ n ≠ 0) then (1, c + 1) else chkFL kids (deep + 1) (c + 1)
def chkFL : List Ltl → Int → Int → Int × Int
  | [], _, c => (0, c)
  | x :: r, deep, c => if (chkF x deep c).1 ≠ 0 then chkF x deep c else chkFL r deep (chkF x deep c).2
end
mutual
theorem chkF_le : ∀ (t : Ltl) (deep c : Int), (chkF t deep c).1 = 0 → c < (chkF t deep c).2 ∧ (chkF t deep c).2 ≤ 60
  | .mk k n kids, deep, c, h => by
    simp only [chkF] at h ⊢
    split at h
    · cases h
    · rename_i h1
      rw [if_neg h1]
      split at h
      · cases h
      · rename_i h2
        rw [if_neg h2]
        split at h
        · cases h
        · rename_i h3
          rw [if_neg h3]
          have := chkFL_le kids (deep + 1) (c + 1) (by omega) h
          omega
theorem chkFL_le : ∀ (l : List Ltl) (deep c : Int), c ≤ 60 → (chkFL l deep c).1 = 0 → c ≤ (chkFL l deep c).2 ∧ (chkFL l deep c).2 ≤ 60
  | [], deep, c, hc, h => by simp only [chkFL]; omega
  | x :: r, deep, c, hc, h => by
    simp only [chkFL] at h ⊢
    split at h
    · rename_i h1; exact absurd h h1
    · rename_i h1
      rw [if_neg h1]
      have h2 := chkF_le x deep c (by simpa using h1)
      have h3 := chkFL_le r deep _ h2.2 h
      omega
end

theorem check_ok : ∀ (m : Nat) (t : Ltl), t.nodes ≤ m → ∀ (w : World) (F : Nat → Prop) (deep c : Int) (bn : Nat) (ao : Option Addr) (cap : Nat), Sl w F ao cap t.kids → (∀ b, F b → b < w.heap.size) → ¬ F bn →
    Blk w bn 3 [.int .i64 c] → 0 ≤ c → c ≤ 60 → 0 ≤ deep → deep ≤ 1000 →
    Rt Try.prog 182 [ltlV t.k t.n ao t.kids.length cap, .int .i64 deep, .pointer (some ⟨bn, 0, none⟩)].toArray w fun v w' => v = .int .i64 (chkF t deep c).1 ∧ Blk w' bn 3 [.int .i64 (chkF t deep c).2] ∧ w.grownBy w' (some bn)
  | 0, t, hm => by have := t.nodes_pos; omega
  | m + 1, .mk k n kids, hm => by
    intro w F deep c bn ao cap hs hF hn hb hc0 hc1 hd0 hd1
    simp only [Ltl.kids, Ltl.k, Ltl.n] at *
    refine Rt.enter3 Try.func182 Try.ntmps182 rfl rfl ?_
    have hlen := hs.len63
    have hbn := hb.lt
    (repeat (first | (apply CW.seq) | (apply CW.region)))
    refine WL.boxB rfl rfl rfl fun w1 hf hE1 => ?_
    have hb1 := hb.ext hE1
    have hg1 := hE1.grw (some bn)
    (repeat (first | (apply WL.add; rfl; rfl; rfl; rfl; omega; omega) | (apply WL.pure; rfl; rfl; rfl) | (apply WL.nil) | (apply EX.thenN) | (apply CW.seq) | (apply CW.region) | (apply WL.nck; rfl; rfl; rfl) | (apply WL.ld; rfl; rfl; rfl; assumption; rfl)))
    refine WL.st rfl rfl rfl hb1 rfl rfl (ones_of rfl) (fun w2 hb2 hgr => ?_)
    have hf2 := hf.kept hgr (by simp; omega)
    have hg2 := grown_tr hg1 hgr
    simp only [chkF]
    (repeat (first | (apply WL.pure; rfl; rfl; rfl) | (apply WL.nil) | (apply EX.thenN) | (apply CW.seq) | (apply CW.region) | (apply WL.nck; rfl; rfl; rfl) | (apply WL.ld; rfl; rfl; rfl; assumption; rfl) | (apply CW.block)))
    refine CW.cond rfl (fun h => ?_) (fun h => ?_) <;> simp only [decide_eq_true_eq, decide_eq_false_iff_not, gt_iff_lt] at h
    · (repeat (first | (apply WL.pure; rfl; rfl; rfl) | (apply WL.nil) | (apply EX.thenN) | (apply CW.seq) | (apply CW.region) | (apply CW.ret) | (apply EX.thenR) | (apply EX.inR)))
      refine EX.ret1 rfl rfl ?_
      rw [if_pos h]
      exact ⟨rfl, hb2, hg2⟩
    rw [if_neg (by omega)]
    (repeat (first | (apply WL.pure; rfl; rfl; rfl) | (apply WL.nil) | (apply EX.thenN) | (apply CW.seq) | (apply CW.region)))
    refine CW.cond rfl (fun h1 => ?_) (fun h1 => ?_) <;> simp only [decide_eq_true_eq, decide_eq_false_iff_not, gt_iff_lt] at h1
    · (repeat (first | (apply WL.pure; rfl; rfl; rfl) | (apply WL.nil) | (apply EX.thenN) | (apply CW.seq) | (apply CW.region) | (apply CW.ret) | (apply EX.thenR) | (apply EX.inR)))
      refine EX.ret1 rfl rfl ?_
      rw [if_pos h1]
      exact ⟨rfl, hb2, hg2⟩
    rw [if_neg (by omega)]
    refine CW.cutE [(1, .int .i64 deep), (2, .pointer (some ⟨bn, 0, none⟩)), (3, .pointer (some ⟨w.heap.size, 0, none⟩)), (23, .bool (decide (kidsK k ≠ kids.length ∨ n < 0 ∨ n > 63 ∨ (k ≠ 3 ∧ n ≠ 0))))] ?_ ?_
    · (repeat (first | (apply CW.seq) | (apply QL.fa; rfl; rfl; rfl) | (apply QL.ld; rfl; rfl; rfl; assumption; rfl) | (apply CW.draw; exact mixed; kernel_rfl)))
      refine QL.call rfl rfl rfl (fun w' h => Rt.mono (kids_ok w' k) (fun v w'' hv => ⟨hv.1, hv.2 ▸ Ext.refl _⟩)) ?_
      (repeat (first | (apply QL.pure; rfl; rfl; rfl) | (apply QL.lenS; rfl; rfl; rfl) | (apply QL.fa; rfl; rfl; rfl) | (apply QL.ld; rfl; rfl; rfl; assumption; rfl)))
      refine QL.nil fun w3 hE3 => ?_
      have hf3 := hf2.ext hE3
      (repeat (apply EX.thenN))
      refine CW.cond rfl (fun h2 => ?_) (fun h2 => ?_) <;> simp at h2
      · (repeat (apply CW.skip))
        refine EX.cutE ⟨rfl, rfl, rfl, ?_, trivial⟩ hE3
        refine congrArg (fun b => some (Value.bool b)) ?_
        have : (kidsK k != (kids.length : Int)) = true := by simpa using h2
        rw [this, decide_eq_true (.inl h2)]
      · (repeat (first | (apply WL.pure; rfl; rfl; rfl) | (apply CW.seq) | (apply CW.region) | (apply WL.fa; rfl; rfl; rfl) | (apply WL.ld; rfl; rfl; rfl; assumption; rfl)))
        (refine WL.lookG rfl rfl (fun h => ?_) (fun h => ?_)) <;> simp at h
        · (repeat (first | (apply WL.pure; rfl; rfl; rfl) | (apply WL.nil) | (apply EX.thenN) | (apply WL.pass; rfl; rfl) | (apply CW.condT; rfl) | (apply CW.skip)))
          refine EX.cutE ⟨rfl, rfl, rfl, ?_, trivial⟩ hE3
          refine congrArg (fun b => some (Value.bool b)) ?_
          rw [decide_eq_true (.inr (.inl h))]
        · (repeat (first | (apply WL.pure; rfl; rfl; rfl) | (apply WL.nil) | (apply EX.thenN) | (apply WL.fa; rfl; rfl; rfl) | (apply WL.ld; rfl; rfl; rfl; assumption; rfl)))
          refine CW.cond rfl (fun h3 => ?_) (fun h3 => ?_) <;> simp at h3
          · (repeat (apply CW.skip))
            refine EX.cutE ⟨rfl, rfl, rfl, ?_, trivial⟩ hE3
            refine congrArg (fun b => some (Value.bool b)) ?_
            rw [decide_eq_true h3, decide_eq_true (.inr (.inr (.inl h3)))]
          · (repeat (first | (apply WL.pure; rfl; rfl; rfl) | (apply CW.region) | (apply WL.fa; rfl; rfl; rfl) | (apply WL.ld; rfl; rfl; rfl; assumption; rfl)))
            (refine WL.lookG rfl rfl (fun h => ?_) (fun h => ?_)) <;> simp at h
            · (repeat (first | (apply WL.pure; rfl; rfl; rfl) | (apply WL.nil) | (apply WL.fa; rfl; rfl; rfl) | (apply WL.ld; rfl; rfl; rfl; assumption; rfl)))
              refine EX.cutE ⟨rfl, rfl, rfl, ?_, trivial⟩ hE3
              refine congrArg (fun b => some (Value.bool b)) ?_
              (rw [Bool.eq_iff_iff]; simp; try omega)
            · (repeat (first | (apply WL.pure; rfl; rfl; rfl) | (apply WL.nil) | (apply WL.pass; rfl; rfl)))
              refine EX.cutE ⟨rfl, rfl, rfl, ?_, trivial⟩ hE3
              refine congrArg (fun b => some (Value.bool b)) ?_
              (rw [Bool.eq_iff_iff]; simp; try omega)
    intro w3 hE3
    have hb3 := hb2.ext hE3
    have hf3 := hf2.ext hE3
    have hg3 := grown_tr hg2 (hE3.grw (some bn))
    refine CW.cond rfl (fun h2 => ?_) (fun h2 => ?_) <;> simp only [decide_eq_true_eq, decide_eq_false_iff_not] at h2
    · rw [if_pos h2]
      (repeat (first | (apply WL.pure; rfl; rfl; rfl) | (apply WL.nil) | (apply EX.thenN) | (apply CW.seq) | (apply CW.region) | (apply CW.ret) | (apply EX.thenR) | (apply EX.inR)))
      exact EX.ret1 rfl rfl ⟨rfl, hb3, hg3⟩
    rw [if_neg h2]
    (repeat (first | (apply WL.pure; rfl; rfl; rfl) | (apply WL.nil) | (apply EX.thenN) | (apply CW.seq) | (apply CW.region) | (apply WL.lenS; rfl; rfl; rfl) | (apply WL.fa; rfl; rfl; rfl) | (apply WL.ld; rfl; rfl; rfl; assumption; rfl) | (apply CW.block) | (apply EX.inN) | (apply CW.skip)))
    refine CW.loop (S := Nat × Int) (fun x => [(1, .int .i64 deep), (2, .pointer (some ⟨bn, 0, none⟩)), (48, .slice ao kids.length cap), (49, .int .i64 (kids.length : Int)), (50, .int .i64 (x.1 : Int))])
      (fun x w' => w.grownBy w' (some bn) ∧ Blk w' bn 3 [.int .i64 x.2] ∧ 0 ≤ x.2 ∧ x.2 ≤ 60 ∧ x.1 ≤ kids.length ∧ chkFL kids (deep + 1) (c + 1) = chkFL (kids.drop x.1) (deep + 1) x.2) (fun x => kids.length - x.1) (0, c + 1) (by repeat (first | exact trivial | refine ⟨rfl, ?_⟩)) ⟨hg3, hb3, by simp only; omega, by simp only; omega, by omega, rfl⟩ ?_
    rintro ⟨i, ci⟩ w4 ⟨hg4, hb4, hci0, hci, hi, heq⟩
    simp only at hb4 hci0 hci hi heq
    rw [heq]
    (repeat (first | (apply WL.pure; rfl; rfl; rfl) | (apply WL.nil) | (apply EX.thenN) | (apply CW.seq) | (apply CW.region)))
    refine CW.cond rfl (fun h3 => ?_) (fun h3 => ?_) <;> simp at h3
    · have hs4 : Sl w4 F ao cap kids := hs.mono (fun b hb => hg4.block b (hF b hb) (by intro e; cases e; exact hn hb)) fun _ h => h
      have hF4 : ∀ b, F b → b < w4.heap.size := fun b hb => Nat.lt_of_lt_of_le (hF b hb) hg4.size
      (repeat (first | (apply EX.thenN) | (apply CW.seq) | (apply CW.region) | (apply CW.block) | (apply CW.skip)))
      refine WL.elemN rfl rfl rfl rfl rfl hs4 h3 (fun _ => rfl) (fun u q hu => ?_)
      have hdrop : kids.drop i = kids[i] :: kids.drop (i + 1) := List.drop_eq_getElem_cons h3
      have hnode : (kids[i]).nodes ≤ m := by
        have := Ltl.nodes_kid kids _ (List.getElem_mem h3)
        simp only [Ltl.nodes] at hm; omega
      rw [hdrop]
      simp only [chkFL]
      generalize kids[i] = x at *
      obtain ⟨ao', cap', rfl, hx⟩ := hu.ltl
      have hw4 : w.heap.size ≤ w4.heap.size := hg4.size
      refine WL.alloc rfl rfl (fun w5 hb5 hE5 => ?_)
      refine WL.st rfl rfl rfl hb5 rfl rfl (ones_of rfl) (fun w6 hb6 hgr6 => ?_)
      have hE6 : Ext w4 w6 := hE5.grown hgr6 hE5.size (fun g hg => by cases hg; exact Nat.le_refl _)
      have hb46 := hb4.ext hE6
      have hg6 := grown_tr hg4 (hE6.grw (some bn))
      (repeat (first | (apply WL.add; rfl; rfl; rfl; rfl; omega; omega) | (apply WL.pure; rfl; rfl; rfl) | (apply WL.nil) | (apply EX.thenN) | (apply CW.seq) | (apply CW.region) | (apply WL.ldA; rfl; rfl; rfl; assumption; rfl)))
      refine WL.call rfl rfl rfl (check_ok m x hnode w6 F (deep + 1) ci bn ao' cap' (hx.mono (fun b hb => hE6.block b (hF4 b hb)) fun _ h => h) (fun b hb => Nat.lt_of_lt_of_le (hF4 b hb) hE6.size) hn hb46 hci0 hci (by omega) (by omega)) ?_
      rintro v w7 ⟨rfl, hb7, hg7⟩
      have hg7 := grown_tr hg6 hg7
      have hle := chkF_le x (deep + 1) ci
      generalize chkF x (deep + 1) ci = r at *
      obtain ⟨e, c'⟩ := r
      simp only at hle hb7
      (repeat (first | (apply WL.pure; rfl; rfl; rfl) | (apply WL.nil) | (apply EX.thenN) | (apply CW.seq) | (apply CW.region)))
      refine CW.cond rfl (fun h4 => ?_) (fun h4 => ?_) <;> simp at h4
      · (repeat (first | (apply WL.pure; rfl; rfl; rfl) | (apply WL.nil) | (apply EX.thenN) | (apply CW.seq) | (apply CW.region) | (apply CW.ret) | (apply EX.thenR) | (apply EX.inR)))
        refine EX.ret1 rfl rfl ?_
        rw [if_pos h4]
        exact ⟨rfl, hb7, hg7⟩
      · have := hle h4
        (repeat (first | (apply WL.add; rfl; rfl; rfl; rfl; omega; omega) | (apply WL.pure; rfl; rfl; rfl) | (apply WL.nil) | (apply EX.thenN) | (apply CW.region) | (apply EX.inN) | (apply CW.skip)))
        refine EX.back (i + 1, c') (by repeat (first | exact trivial | refine ⟨rfl, ?_⟩)) ⟨hg7, hb7, by simp only; omega, by simp only; omega, by simp only; omega, ?_⟩ (by simp only; omega)
        simp only
        rw [if_neg (by simp [h4])]
    · (repeat (first | (apply WL.pure; rfl; rfl; rfl) | (apply WL.nil) | (apply EX.thenN) | (apply CW.seq) | (apply CW.region) | (apply CW.exit) | (apply EX.thenX) | (apply EX.inX) | (apply CW.ret)))
      refine EX.ret1 rfl rfl ?_
      rw [List.drop_eq_nil_of_le (by omega)]
      exact ⟨rfl, hb4, hg4⟩
theorem ltlCheck (w : World) {F : Nat → Prop} {t : Ltl} {ao : Option Addr} {cap : Nat} (hs : Sl w F ao cap t.kids) (hF : ∀ b, F b → b < w.heap.size) :
    Rt Try.prog 128 [ltlV t.k t.n ao t.kids.length cap].toArray w fun v w' => v = .int .i64 (chkF t 1 0).1 ∧ Ext w w' := by
  refine Rt.enter1 Try.func128 Try.ntmps128 rfl rfl ?_
  (repeat (first | (apply CW.seq) | (apply CW.region)))
  refine WL.boxB rfl rfl rfl fun w1 hf hE1 => ?_
  (repeat (first | (apply WL.pure; rfl; rfl; rfl) | (apply WL.nil) | (apply EX.thenN) | (apply CW.seq) | (apply CW.region)))
  refine WL.alloc rfl rfl (fun w2 hb hE2 => ?_)
  have hlt := hb.lt
  refine WL.st rfl rfl rfl hb rfl rfl (ones_of rfl) (fun w3 hb hgr => ?_)
  have hE12 := hE1.trans hE2
  have hE3 : Ext w w3 := hE12.grown hgr hE12.size (fun g hg => by cases hg; exact hE1.size)
  have hf3 := (hf.ext hE2).kept hgr (by have := hf.lt; simp; omega)
  have hw1 : w.heap.size ≤ w1.heap.size := hE1.size
  (repeat (first | (apply WL.nil) | (apply EX.thenN) | (apply CW.seq) | (apply CW.region) | (apply WL.ldA; rfl; rfl; rfl; assumption; rfl)))
  refine WL.call rfl rfl rfl (check_ok t.nodes t (Nat.le_refl _) w3 F 1 0 w1.heap.size ao cap (hs.mono (fun b hb => hE3.block b (hF b hb)) fun _ h => h) (fun b hb => Nat.lt_of_lt_of_le (hF b hb) hE3.size) (fun h => by have := hF _ h; omega) hb (by omega) (by omega) (by omega) (by omega)) ?_
  rintro v w4 ⟨rfl, hb4, hg4⟩
  (repeat (first | (apply WL.pure; rfl; rfl; rfl) | (apply WL.nil) | (apply EX.thenN) | (apply CW.ret)))
  exact EX.ret1 rfl rfl ⟨rfl, hE3.grown hg4 hE3.size (fun g hg => by cases hg; exact hE1.size)⟩
end Go.Proofs.Ytbphcblopoegcaa
/-
  Formulas of all ways: how they lie in memory (as those of one way do), their check.
-/
set_option linter.unusedVariables false
set_option linter.unusedSimpArgs false
namespace Go.Proofs.Ytbphcblopoegcaa
open Go.RowKit

instance iCtl2 : IsT Try.prog 54 Ltl := IsT.of (by kernel_rfl) Try.underlying54 rfl
instance iCtl3 : IsS Try.prog 52 54 := ⟨Try.underlying52⟩
instance iCtl4 : IsT Try.prog 52 (List Ltl) := IsT.of (by kernel_rfl) Try.underlying52 rfl
instance iCtl5 : IsZ Try.prog 54 (Ltl.mk 0 0 []) 40 := IsZ.of (z := .agg #[.int .i64 0, .int .i64 0, .slice none 0 0]) (by kernel_rfl) (fun _ _ => RdT.of (kids := []) ⟨by simp, by simp [maxLen], fun _ => rfl, fun i hi => absurd hi (by simp)⟩)
instance iCtl6 : IsC Try.prog 54 3 true := IsC.of (by kernel_rfl) Try.underlying54 rfl
instance iCtl7 : IsC Try.prog 52 1 false := IsC.of (by kernel_rfl) Try.underlying52 rfl
instance iCtl8 : IsZC Try.prog 52 [.slice none 0 0] := IsZC.of (z := .slice none 0 0) (by kernel_rfl) rfl
instance iCtl9 : IsFd Try.prog 54 0 0 := IsFd.of (by kernel_rfl)
instance iCtl10 : IsFd Try.prog 54 1 1 := IsFd.of (by kernel_rfl)
instance iCtl11 : IsFd Try.prog 54 2 2 := IsFd.of (by kernel_rfl)
instance iCtl12 : IsZC Try.prog 54 [.int .i64 0, .int .i64 0, .slice none 0 0] := IsZC.of (z := .agg #[.int .i64 0, .int .i64 0, .slice none 0 0]) (by kernel_rfl) rfl
instance iCtl13 : IsBd Try.prog 54 [(0, 1), (1, 1), (2, 1)] := IsBd.of (by kernel_rfl)
def kidsC (k : Int) : Int := if k = 1 ∨ k = 2 ∨ k = 3 then 0 else if k = 4 ∨ k = 7 ∨ k = 8 ∨ k = 9 ∨ k = 11 ∨ k = 12 ∨ k = 13 then 1 else if k = 5 ∨ k = 6 ∨ k = 10 ∨ k = 14 then 2 else -1
theorem ckids_ok (w : World) (k : Int) : Rt Try.prog 208 [.int .i64 k].toArray w fun v w' => v = .int .i64 (kidsC k) ∧ w = w' := by
  refine Rt.enter1 Try.func208 Try.ntmps208 rfl rfl ?_
  unfold kidsC
  (repeat (first | (apply WL.pure; rfl; rfl; rfl) | (apply WL.nil) | (apply EX.thenN) | (apply CW.seq) | (apply CW.region) | (apply CW.block)))
  refine CW.cond rfl (fun h => ?_) (fun h => ?_) <;> simp at h
  · subst h; (repeat (first | (apply WL.pure; rfl; rfl; rfl) | (apply WL.nil) | (apply EX.thenN) | (apply CW.seq) | (apply CW.region) | (apply CW.condT; rfl) | (apply CW.ret) | (apply EX.thenR) | (apply EX.inR) | (apply CW.skip)))
    exact EX.ret1 rfl rfl ⟨rfl, rfl⟩
  (repeat (first | (apply WL.pure; rfl; rfl; rfl) | (apply WL.nil) | (apply EX.thenN) | (apply CW.seq) | (apply CW.region)))
  refine CW.cond rfl (fun h => ?_) (fun h => ?_) <;> simp at h
  · subst h; (repeat (first | (apply WL.pure; rfl; rfl; rfl) | (apply WL.nil) | (apply EX.thenN) | (apply CW.seq) | (apply CW.region) | (apply CW.condT; rfl) | (apply CW.ret) | (apply EX.thenR) | (apply EX.inR) | (apply CW.skip)))
    exact EX.ret1 rfl rfl ⟨rfl, rfl⟩
  (repeat (first | (apply WL.pure; rfl; rfl; rfl) | (apply WL.nil) | (apply EX.thenN) | (apply CW.region)))
  refine CW.cond rfl (fun h => ?_) (fun h => ?_) <;> simp at h
  · subst h; (repeat (first | (apply WL.pure; rfl; rfl; rfl) | (apply WL.nil) | (apply EX.thenN) | (apply CW.seq) | (apply CW.region) | (apply CW.ret) | (apply EX.thenR) | (apply EX.inR)))
    exact EX.ret1 rfl rfl ⟨rfl, rfl⟩
  rw [if_neg (by omega)]
  (repeat (first | (apply WL.pure; rfl; rfl; rfl) | (apply WL.nil) | (apply EX.thenN) | (apply CW.seq) | (apply CW.region)))
  refine CW.cond rfl (fun h => ?_) (fun h => ?_) <;> simp at h
  · subst h; (repeat (first | (apply WL.pure; rfl; rfl; rfl) | (apply WL.nil) | (apply EX.thenN) | (apply CW.seq) | (apply CW.region) | (apply CW.condT; rfl) | (apply CW.ret) | (apply EX.thenR) | (apply EX.inR) | (apply CW.skip)))
    exact EX.ret1 rfl rfl ⟨rfl, rfl⟩
  (repeat (first | (apply WL.pure; rfl; rfl; rfl) | (apply WL.nil) | (apply EX.thenN) | (apply CW.seq) | (apply CW.region)))
  refine CW.cond rfl (fun h => ?_) (fun h => ?_) <;> simp at h
  · subst h; (repeat (first | (apply WL.pure; rfl; rfl; rfl) | (apply WL.nil) | (apply EX.thenN) | (apply CW.seq) | (apply CW.region) | (apply CW.condT; rfl) | (apply CW.ret) | (apply EX.thenR) | (apply EX.inR) | (apply CW.skip)))
    exact EX.ret1 rfl rfl ⟨rfl, rfl⟩
  (repeat (first | (apply WL.pure; rfl; rfl; rfl) | (apply WL.nil) | (apply EX.thenN) | (apply CW.seq) | (apply CW.region)))
  refine CW.cond rfl (fun h => ?_) (fun h => ?_) <;> simp at h
  · subst h; (repeat (first | (apply WL.pure; rfl; rfl; rfl) | (apply WL.nil) | (apply EX.thenN) | (apply CW.seq) | (apply CW.region) | (apply CW.condT; rfl) | (apply CW.ret) | (apply EX.thenR) | (apply EX.inR) | (apply CW.skip)))
    exact EX.ret1 rfl rfl ⟨rfl, rfl⟩
  (repeat (first | (apply WL.pure; rfl; rfl; rfl) | (apply WL.nil) | (apply EX.thenN) | (apply CW.seq) | (apply CW.region)))
  refine CW.cond rfl (fun h => ?_) (fun h => ?_) <;> simp at h
  · subst h; (repeat (first | (apply WL.pure; rfl; rfl; rfl) | (apply WL.nil) | (apply EX.thenN) | (apply CW.seq) | (apply CW.region) | (apply CW.condT; rfl) | (apply CW.ret) | (apply EX.thenR) | (apply EX.inR) | (apply CW.skip)))
    exact EX.ret1 rfl rfl ⟨rfl, rfl⟩
  (repeat (first | (apply WL.pure; rfl; rfl; rfl) | (apply WL.nil) | (apply EX.thenN) | (apply CW.seq) | (apply CW.region)))
  refine CW.cond rfl (fun h => ?_) (fun h => ?_) <;> simp at h
  · subst h; (repeat (first | (apply WL.pure; rfl; rfl; rfl) | (apply WL.nil) | (apply EX.thenN) | (apply CW.seq) | (apply CW.region) | (apply CW.condT; rfl) | (apply CW.ret) | (apply EX.thenR) | (apply EX.inR) | (apply CW.skip)))
    exact EX.ret1 rfl rfl ⟨rfl, rfl⟩
  (repeat (first | (apply WL.pure; rfl; rfl; rfl) | (apply WL.nil) | (apply EX.thenN) | (apply CW.seq) | (apply CW.region)))
  refine CW.cond rfl (fun h => ?_) (fun h => ?_) <;> simp at h
  · subst h; (repeat (first | (apply WL.pure; rfl; rfl; rfl) | (apply WL.nil) | (apply EX.thenN) | (apply CW.seq) | (apply CW.region) | (apply CW.condT; rfl) | (apply CW.ret) | (apply EX.thenR) | (apply EX.inR) | (apply CW.skip)))
    exact EX.ret1 rfl rfl ⟨rfl, rfl⟩
  (repeat (first | (apply WL.pure; rfl; rfl; rfl) | (apply WL.nil) | (apply EX.thenN) | (apply CW.region)))
  refine CW.cond rfl (fun h => ?_) (fun h => ?_) <;> simp at h
  · subst h; (repeat (first | (apply WL.pure; rfl; rfl; rfl) | (apply WL.nil) | (apply EX.thenN) | (apply CW.seq) | (apply CW.region) | (apply CW.ret) | (apply EX.thenR) | (apply EX.inR)))
    exact EX.ret1 rfl rfl ⟨rfl, rfl⟩
  rw [if_neg (by omega)]
  (repeat (first | (apply WL.pure; rfl; rfl; rfl) | (apply WL.nil) | (apply EX.thenN) | (apply CW.seq) | (apply CW.region)))
  refine CW.cond rfl (fun h => ?_) (fun h => ?_) <;> simp at h
  · subst h; (repeat (first | (apply WL.pure; rfl; rfl; rfl) | (apply WL.nil) | (apply EX.thenN) | (apply CW.seq) | (apply CW.region) | (apply CW.condT; rfl) | (apply CW.ret) | (apply EX.thenR) | (apply EX.inR) | (apply CW.skip)))
    exact EX.ret1 rfl rfl ⟨rfl, rfl⟩
  (repeat (first | (apply WL.pure; rfl; rfl; rfl) | (apply WL.nil) | (apply EX.thenN) | (apply CW.seq) | (apply CW.region)))
  refine CW.cond rfl (fun h => ?_) (fun h => ?_) <;> simp at h
  · subst h; (repeat (first | (apply WL.pure; rfl; rfl; rfl) | (apply WL.nil) | (apply EX.thenN) | (apply CW.seq) | (apply CW.region) | (apply CW.condT; rfl) | (apply CW.ret) | (apply EX.thenR) | (apply EX.inR) | (apply CW.skip)))
    exact EX.ret1 rfl rfl ⟨rfl, rfl⟩
  (repeat (first | (apply WL.pure; rfl; rfl; rfl) | (apply WL.nil) | (apply EX.thenN) | (apply CW.seq) | (apply CW.region)))
  refine CW.cond rfl (fun h => ?_) (fun h => ?_) <;> simp at h
  · subst h; (repeat (first | (apply WL.pure; rfl; rfl; rfl) | (apply WL.nil) | (apply EX.thenN) | (apply CW.seq) | (apply CW.region) | (apply CW.condT; rfl) | (apply CW.ret) | (apply EX.thenR) | (apply EX.inR) | (apply CW.skip)))
    exact EX.ret1 rfl rfl ⟨rfl, rfl⟩
  (repeat (first | (apply WL.pure; rfl; rfl; rfl) | (apply WL.nil) | (apply EX.thenN) | (apply CW.region)))
  refine CW.cond rfl (fun h => ?_) (fun h => ?_) <;> simp at h
  · subst h; (repeat (first | (apply WL.pure; rfl; rfl; rfl) | (apply WL.nil) | (apply EX.thenN) | (apply CW.seq) | (apply CW.region) | (apply CW.ret) | (apply EX.thenR) | (apply EX.inR)))
    exact EX.ret1 rfl rfl ⟨rfl, rfl⟩
  rw [if_neg (by omega)]
  (repeat (first | (apply WL.pure; rfl; rfl; rfl) | (apply WL.nil) | (apply EX.thenN) | (apply CW.seq) | (apply CW.region) | (apply EX.inN) | (apply CW.ret) | (apply CW.skip)))
  exact EX.ret1 rfl rfl ⟨rfl, rfl⟩
mutual
def chkC : Ltl → Int → Int → Int × Int
  | .mk k n kids, deep, c => if c + 1 > 60 then (2, c + 1) else if deep > 20 then (5, c + 1) else if kidsC k ≠ kids.length ∨ n < 0 ∨ n > 63 ∨ (k ≠ 3 ∧ n ≠ 0) then (1, c + 1) else chkCL kids (deep + 1) (c + 1)
def chkCL : List Ltl → Int → Int → Int × Int
  | [], _, c => (0, c)
  | x :: r, deep, c => if (chkC x deep c).1 ≠ 0 then chkC x deep c else chkCL r deep (chkC x deep c).2
end
mutual
theorem chkC_le : ∀ (t : Ltl) (deep c : Int), (chkC t deep c).1 = 0 → c < (chkC t deep c).2 ∧ (chkC t deep c).2 ≤ 60
  | .mk k n kids, deep, c, h => by
    simp only [chkC] at h ⊢
    split at h
    · cases h
    · rename_i h1
      rw [if_neg h1]
      split at h
      · cases h
      · rename_i h2
        rw [if_neg h2]
        split at h
        · cases h
        · rename_i h3
          rw [if_neg h3]
          have := chkCL_le kids (deep + 1) (c + 1) (by omega) h
          omega
theorem chkCL_le : ∀ (l : List Ltl) (deep c : Int), c ≤ 60 → (chkCL l deep c).1 = 0 → c ≤ (chkCL l deep c).2 ∧ (chkCL l deep c).2 ≤ 60
  | [], deep, c, hc, h => by simp only [chkCL]; omega
  | x :: r, deep, c, hc, h => by
    simp only [chkCL] at h ⊢
    split at h
    · rename_i h1; exact absurd h h1
    · rename_i h1
      rw [if_neg h1]
      have h2 := chkC_le x deep c (by simpa using h1)
      have h3 := chkCL_le r deep _ h2.2 h
      omega
end

theorem ccheck_ok : ∀ (m : Nat) (t : Ltl), t.nodes ≤ m → ∀ (w : World) (F : Nat → Prop) (deep c : Int) (bn : Nat) (ao : Option Addr) (cap : Nat), Sl w F ao cap t.kids → (∀ b, F b → b < w.heap.size) → ¬ F bn →
    Blk w bn 3 [.int .i64 c] → 0 ≤ c → c ≤ 60 → 0 ≤ deep → deep ≤ 1000 →
    Rt Try.prog 186 [ltlV t.k t.n ao t.kids.length cap, .int .i64 deep, .pointer (some ⟨bn, 0, none⟩)].toArray w fun v w' => v = .int .i64 (chkC t deep c).1 ∧ Blk w' bn 3 [.int .i64 (chkC t deep c).2] ∧ w.grownBy w' (some bn)
  | 0, t, hm => by have := t.nodes_pos; omega
  | m + 1, .mk k n kids, hm => by
    intro w F deep c bn ao cap hs hF hn hb hc0 hc1 hd0 hd1
    simp only [Ltl.kids, Ltl.k, Ltl.n] at *
    refine Rt.enter3 Try.func186 Try.ntmps186 rfl rfl ?_
    have hlen := hs.len63
    have hbn := hb.lt
    (repeat (first | (apply CW.seq) | (apply CW.region)))
    refine WL.boxB rfl rfl rfl fun w1 hf hE1 => ?_
    have hb1 := hb.ext hE1
    have hg1 := hE1.grw (some bn)
    (repeat (first | (apply WL.add; rfl; rfl; rfl; rfl; omega; omega) | (apply WL.pure; rfl; rfl; rfl) | (apply WL.nil) | (apply EX.thenN) | (apply CW.seq) | (apply CW.region) | (apply WL.nck; rfl; rfl; rfl) | (apply WL.ld; rfl; rfl; rfl; assumption; rfl)))
    refine WL.st rfl rfl rfl hb1 rfl rfl (ones_of rfl) (fun w2 hb2 hgr => ?_)
    have hf2 := hf.kept hgr (by simp; omega)
    have hg2 := grown_tr hg1 hgr
    simp only [chkC]
    (repeat (first | (apply WL.pure; rfl; rfl; rfl) | (apply WL.nil) | (apply EX.thenN) | (apply CW.seq) | (apply CW.region) | (apply WL.nck; rfl; rfl; rfl) | (apply WL.ld; rfl; rfl; rfl; assumption; rfl) | (apply CW.block)))
    refine CW.cond rfl (fun h => ?_) (fun h => ?_) <;> simp only [decide_eq_true_eq, decide_eq_false_iff_not, gt_iff_lt] at h
    · (repeat (first | (apply WL.pure; rfl; rfl; rfl) | (apply WL.nil) | (apply EX.thenN) | (apply CW.seq) | (apply CW.region) | (apply CW.ret) | (apply EX.thenR) | (apply EX.inR)))
      refine EX.ret1 rfl rfl ?_
      rw [if_pos h]
      exact ⟨rfl, hb2, hg2⟩
    rw [if_neg (by omega)]
    (repeat (first | (apply WL.pure; rfl; rfl; rfl) | (apply WL.nil) | (apply EX.thenN) | (apply CW.seq) | (apply CW.region)))
    refine CW.cond rfl (fun h1 => ?_) (fun h1 => ?_) <;> simp only [decide_eq_true_eq, decide_eq_false_iff_not, gt_iff_lt] at h1
    · (repeat (first | (apply WL.pure; rfl; rfl; rfl) | (apply WL.nil) | (apply EX.thenN) | (apply CW.seq) | (apply CW.region) | (apply CW.ret) | (apply EX.thenR) | (apply EX.inR)))
      refine EX.ret1 rfl rfl ?_
      rw [if_pos h1]
      exact ⟨rfl, hb2, hg2⟩
    rw [if_neg (by omega)]
    refine CW.cutE [(1, .int .i64 deep), (2, .pointer (some ⟨bn, 0, none⟩)), (3, .pointer (some ⟨w.heap.size, 0, none⟩)), (23, .bool (decide (kidsC k ≠ kids.length ∨ n < 0 ∨ n > 63 ∨ (k ≠ 3 ∧ n ≠ 0))))] ?_ ?_
    · (repeat (first | (apply CW.seq) | (apply QL.fa; rfl; rfl; rfl) | (apply QL.ld; rfl; rfl; rfl; assumption; rfl) | (apply CW.draw; exact mixed; kernel_rfl)))
      refine QL.call rfl rfl rfl (fun w' h => Rt.mono (ckids_ok w' k) (fun v w'' hv => ⟨hv.1, hv.2 ▸ Ext.refl _⟩)) ?_
      (repeat (first | (apply QL.pure; rfl; rfl; rfl) | (apply QL.lenS; rfl; rfl; rfl) | (apply QL.fa; rfl; rfl; rfl) | (apply QL.ld; rfl; rfl; rfl; assumption; rfl)))
      refine QL.nil fun w3 hE3 => ?_
      have hf3 := hf2.ext hE3
      (repeat (apply EX.thenN))
      refine CW.cond rfl (fun h2 => ?_) (fun h2 => ?_) <;> simp at h2
      · (repeat (apply CW.skip))
        refine EX.cutE ⟨rfl, rfl, rfl, ?_, trivial⟩ hE3
        refine congrArg (fun b => some (Value.bool b)) ?_
        have : (kidsC k != (kids.length : Int)) = true := by simpa using h2
        rw [this, decide_eq_true (.inl h2)]
      · (repeat (first | (apply WL.pure; rfl; rfl; rfl) | (apply CW.seq) | (apply CW.region) | (apply WL.fa; rfl; rfl; rfl) | (apply WL.ld; rfl; rfl; rfl; assumption; rfl)))
        (refine WL.lookG rfl rfl (fun h => ?_) (fun h => ?_)) <;> simp at h
        · (repeat (first | (apply WL.pure; rfl; rfl; rfl) | (apply WL.nil) | (apply EX.thenN) | (apply WL.pass; rfl; rfl) | (apply CW.condT; rfl) | (apply CW.skip)))
          refine EX.cutE ⟨rfl, rfl, rfl, ?_, trivial⟩ hE3
          refine congrArg (fun b => some (Value.bool b)) ?_
          rw [decide_eq_true (.inr (.inl h))]
        · (repeat (first | (apply WL.pure; rfl; rfl; rfl) | (apply WL.nil) | (apply EX.thenN) | (apply WL.fa; rfl; rfl; rfl) | (apply WL.ld; rfl; rfl; rfl; assumption; rfl)))
          refine CW.cond rfl (fun h3 => ?_) (fun h3 => ?_) <;> simp at h3
          · (repeat (apply CW.skip))
            refine EX.cutE ⟨rfl, rfl, rfl, ?_, trivial⟩ hE3
            refine congrArg (fun b => some (Value.bool b)) ?_
            rw [decide_eq_true h3, decide_eq_true (.inr (.inr (.inl h3)))]
          · (repeat (first | (apply WL.pure; rfl; rfl; rfl) | (apply CW.region) | (apply WL.fa; rfl; rfl; rfl) | (apply WL.ld; rfl; rfl; rfl; assumption; rfl)))
            (refine WL.lookG rfl rfl (fun h => ?_) (fun h => ?_)) <;> simp at h
            · (repeat (first | (apply WL.pure; rfl; rfl; rfl) | (apply WL.nil) | (apply WL.fa; rfl; rfl; rfl) | (apply WL.ld; rfl; rfl; rfl; assumption; rfl)))
              refine EX.cutE ⟨rfl, rfl, rfl, ?_, trivial⟩ hE3
              refine congrArg (fun b => some (Value.bool b)) ?_
              (rw [Bool.eq_iff_iff]; simp; try omega)
            · (repeat (first | (apply WL.pure; rfl; rfl; rfl) | (apply WL.nil) | (apply WL.pass; rfl; rfl)))
              refine EX.cutE ⟨rfl, rfl, rfl, ?_, trivial⟩ hE3
              refine congrArg (fun b => some (Value.bool b)) ?_
              (rw [Bool.eq_iff_iff]; simp; try omega)
    intro w3 hE3
    have hb3 := hb2.ext hE3
    have hf3 := hf2.ext hE3
    have hg3 := grown_tr hg2 (hE3.grw (some bn))
    refine CW.cond rfl (fun h2 => ?_) (fun h2 => ?_) <;> simp only [decide_eq_true_eq, decide_eq_false_iff_not] at h2
    · rw [if_pos h2]
      (repeat (first | (apply WL.pure; rfl; rfl; rfl) | (apply WL.nil) | (apply EX.thenN) | (apply CW.seq) | (apply CW.region) | (apply CW.ret) | (apply EX.thenR) | (apply EX.inR)))
      exact EX.ret1 rfl rfl ⟨rfl, hb3, hg3⟩
    rw [if_neg h2]
    (repeat (first | (apply WL.pure; rfl; rfl; rfl) | (apply WL.nil) | (apply EX.thenN) | (apply CW.seq) | (apply CW.region) | (apply WL.lenS; rfl; rfl; rfl) | (apply WL.fa; rfl; rfl; rfl) | (apply WL.ld; rfl; rfl; rfl; assumption; rfl) | (apply CW.block) | (apply EX.inN) | (apply CW.skip)))
    refine CW.loop (S := Nat × Int) (fun x => [(1, .int .i64 deep), (2, .pointer (some ⟨bn, 0, none⟩)), (48, .slice ao kids.length cap), (49, .int .i64 (kids.length : Int)), (50, .int .i64 (x.1 : Int))])
      (fun x w' => w.grownBy w' (some bn) ∧ Blk w' bn 3 [.int .i64 x.2] ∧ 0 ≤ x.2 ∧ x.2 ≤ 60 ∧ x.1 ≤ kids.length ∧ chkCL kids (deep + 1) (c + 1) = chkCL (kids.drop x.1) (deep + 1) x.2) (fun x => kids.length - x.1) (0, c + 1) (by repeat (first | exact trivial | refine ⟨rfl, ?_⟩)) ⟨hg3, hb3, by simp only; omega, by simp only; omega, by omega, rfl⟩ ?_
    rintro ⟨i, ci⟩ w4 ⟨hg4, hb4, hci0, hci, hi, heq⟩
    simp only at hb4 hci0 hci hi heq
    rw [heq]
    (repeat (first | (apply WL.pure; rfl; rfl; rfl) | (apply WL.nil) | (apply EX.thenN) | (apply CW.seq) | (apply CW.region)))
    refine CW.cond rfl (fun h3 => ?_) (fun h3 => ?_) <;> simp at h3
    · have hs4 : Sl w4 F ao cap kids := hs.mono (fun b hb => hg4.block b (hF b hb) (by intro e; cases e; exact hn hb)) fun _ h => h
      have hF4 : ∀ b, F b → b < w4.heap.size := fun b hb => Nat.lt_of_lt_of_le (hF b hb) hg4.size
      (repeat (first | (apply EX.thenN) | (apply CW.seq) | (apply CW.region) | (apply CW.block) | (apply CW.skip)))
      refine WL.elemN rfl rfl rfl rfl rfl hs4 h3 (fun _ => rfl) (fun u q hu => ?_)
      have hdrop : kids.drop i = kids[i] :: kids.drop (i + 1) := List.drop_eq_getElem_cons h3
      have hnode : (kids[i]).nodes ≤ m := by
        have := Ltl.nodes_kid kids _ (List.getElem_mem h3)
        simp only [Ltl.nodes] at hm; omega
      rw [hdrop]
      simp only [chkCL]
      generalize kids[i] = x at *
      obtain ⟨ao', cap', rfl, hx⟩ := hu.ltl
      have hw4 : w.heap.size ≤ w4.heap.size := hg4.size
      refine WL.alloc rfl rfl (fun w5 hb5 hE5 => ?_)
      refine WL.st rfl rfl rfl hb5 rfl rfl (ones_of rfl) (fun w6 hb6 hgr6 => ?_)
      have hE6 : Ext w4 w6 := hE5.grown hgr6 hE5.size (fun g hg => by cases hg; exact Nat.le_refl _)
      have hb46 := hb4.ext hE6
      have hg6 := grown_tr hg4 (hE6.grw (some bn))
      (repeat (first | (apply WL.add; rfl; rfl; rfl; rfl; omega; omega) | (apply WL.pure; rfl; rfl; rfl) | (apply WL.nil) | (apply EX.thenN) | (apply CW.seq) | (apply CW.region) | (apply WL.ldA; rfl; rfl; rfl; assumption; rfl)))
      refine WL.call rfl rfl rfl (ccheck_ok m x hnode w6 F (deep + 1) ci bn ao' cap' (hx.mono (fun b hb => hE6.block b (hF4 b hb)) fun _ h => h) (fun b hb => Nat.lt_of_lt_of_le (hF4 b hb) hE6.size) hn hb46 hci0 hci (by omega) (by omega)) ?_
      rintro v w7 ⟨rfl, hb7, hg7⟩
      have hg7 := grown_tr hg6 hg7
      have hle := chkC_le x (deep + 1) ci
      generalize chkC x (deep + 1) ci = r at *
      obtain ⟨e, c'⟩ := r
      simp only at hle hb7
      (repeat (first | (apply WL.pure; rfl; rfl; rfl) | (apply WL.nil) | (apply EX.thenN) | (apply CW.seq) | (apply CW.region)))
      refine CW.cond rfl (fun h4 => ?_) (fun h4 => ?_) <;> simp at h4
      · (repeat (first | (apply WL.pure; rfl; rfl; rfl) | (apply WL.nil) | (apply EX.thenN) | (apply CW.seq) | (apply CW.region) | (apply CW.ret) | (apply EX.thenR) | (apply EX.inR)))
        refine EX.ret1 rfl rfl ?_
        rw [if_pos h4]
        exact ⟨rfl, hb7, hg7⟩
      · have := hle h4
        (repeat (first | (apply WL.add; rfl; rfl; rfl; rfl; omega; omega) | (apply WL.pure; rfl; rfl; rfl) | (apply WL.nil) | (apply EX.thenN) | (apply CW.region) | (apply EX.inN) | (apply CW.skip)))
        refine EX.back (i + 1, c') (by repeat (first | exact trivial | refine ⟨rfl, ?_⟩)) ⟨hg7, hb7, by simp only; omega, by simp only; omega, by simp only; omega, ?_⟩ (by simp only; omega)
        simp only
        rw [if_neg (by simp [h4])]
    · (repeat (first | (apply WL.pure; rfl; rfl; rfl) | (apply WL.nil) | (apply EX.thenN) | (apply CW.seq) | (apply CW.region) | (apply CW.exit) | (apply EX.thenX) | (apply EX.inX) | (apply CW.ret)))
      refine EX.ret1 rfl rfl ?_
      rw [List.drop_eq_nil_of_le (by omega)]
      exact ⟨rfl, hb4, hg4⟩
theorem ctlCheck (w : World) {F : Nat → Prop} {t : Ltl} {ao : Option Addr} {cap : Nat} (hs : Sl w F ao cap t.kids) (hF : ∀ b, F b → b < w.heap.size) :
    Rt Try.prog 144 [ltlV t.k t.n ao t.kids.length cap].toArray w fun v w' => v = .int .i64 (chkC t 1 0).1 ∧ Ext w w' := by
  refine Rt.enter1 Try.func144 Try.ntmps144 rfl rfl ?_
  (repeat (first | (apply CW.seq) | (apply CW.region)))
  refine WL.boxB rfl rfl rfl fun w1 hf hE1 => ?_
  (repeat (first | (apply WL.pure; rfl; rfl; rfl) | (apply WL.nil) | (apply EX.thenN) | (apply CW.seq) | (apply CW.region)))
  refine WL.alloc rfl rfl (fun w2 hb hE2 => ?_)
  have hlt := hb.lt
  refine WL.st rfl rfl rfl hb rfl rfl (ones_of rfl) (fun w3 hb hgr => ?_)
  have hE12 := hE1.trans hE2
  have hE3 : Ext w w3 := hE12.grown hgr hE12.size (fun g hg => by cases hg; exact hE1.size)
  have hf3 := (hf.ext hE2).kept hgr (by have := hf.lt; simp; omega)
  have hw1 : w.heap.size ≤ w1.heap.size := hE1.size
  (repeat (first | (apply WL.nil) | (apply EX.thenN) | (apply CW.seq) | (apply CW.region) | (apply WL.ldA; rfl; rfl; rfl; assumption; rfl)))
  refine WL.call rfl rfl rfl (ccheck_ok t.nodes t (Nat.le_refl _) w3 F 1 0 w1.heap.size ao cap (hs.mono (fun b hb => hE3.block b (hF b hb)) fun _ h => h) (fun b hb => Nat.lt_of_lt_of_le (hF b hb) hE3.size) (fun h => by have := hF _ h; omega) hb (by omega) (by omega) (by omega) (by omega)) ?_
  rintro v w4 ⟨rfl, hb4, hg4⟩
  (repeat (first | (apply WL.pure; rfl; rfl; rfl) | (apply WL.nil) | (apply EX.thenN) | (apply CW.ret)))
  exact EX.ret1 rfl rfl ⟨rfl, hE3.grown hg4 hE3.size (fun g hg => by cases hg; exact hE1.size)⟩
end Go.Proofs.Ytbphcblopoegcaa
/-
  Formulas of all ways: what they mean in a world. Plain law, no program in sight.
-/
set_option linter.unusedVariables false
set_option linter.unusedSimpArgs false
namespace Go.Proofs.Ytbphcblopoegcaa

open Classical in
/-- of each of n states whether it is so -/
noncomputable def boolsN (n : Nat) (P : Nat → Prop) : List Bool := (List.range n).map fun i => decide (P i)
theorem boolsN_len {n : Nat} {P : Nat → Prop} : (boolsN n P).length = n := by simp [boolsN]
theorem boolsN_iff {n i : Nat} {P : Nat → Prop} (h : i < n) : (boolsN n P).getD i false = true ↔ P i := by
  unfold boolsN; rw [List.getD_eq_getElem?_getD, List.getElem?_map, List.getElem?_range h]; simp
theorem boolsN_congr {n : Nat} {P Q : Nat → Prop} (h : ∀ i, i < n → (P i ↔ Q i)) : boolsN n P = boolsN n Q := by
  refine List.ext_getElem (by rw [boolsN_len, boolsN_len]) fun i h1 h2 => ?_
  have hi : i < n := by rw [boolsN_len] at h1; exact h1
  rw [Bool.eq_iff_iff, ← wgetB h1, ← wgetB h2, boolsN_iff hi, boolsN_iff hi]
  exact h i hi
theorem boolsN_of {n : Nat} {P : Nat → Prop} {l : List Bool} (hl : l.length = n) (h : ∀ i, i < n → (l.getD i false = true ↔ P i)) : l = boolsN n P := by
  refine List.ext_getElem (by rw [boolsN_len]; exact hl) fun i h1 h2 => ?_
  have hi : i < n := by omega
  rw [Bool.eq_iff_iff, ← wgetB h1, ← wgetB h2, boolsN_iff hi]
  exact h i hi

/-- a fair way begins there -/
def fairP (nx fr : Graph) (n : Nat) : Prop := ∃ r, r 0 = n ∧ Way8 (Eg nx) (setPs fr) r
/-- .. one along which all is so -/
def egP (nx fr : Graph) (A : Nat → Prop) (n : Nat) : Prop := ∃ r, r 0 = n ∧ Way8 (Eg nx) (setPs fr) r ∧ ∀ i, A (r i)
inductive EuP (E : Nat → Nat → Prop) (A B : Nat → Prop) : Nat → Prop
  | here {n : Nat} : B n → EuP E A B n
  | step {n m : Nat} : A n → E n m → EuP E A B m → EuP E A B n
def euP (nx fr : Graph) (A B : Nat → Prop) : Nat → Prop := EuP (Eg nx) A fun n => B n ∧ fairP nx fr n
def exP (nx fr : Graph) (A : Nat → Prop) (n : Nat) : Prop := ∃ m, Eg nx n m ∧ A m ∧ fairP nx fr m
def auP (nx fr : Graph) (A B : Nat → Prop) (n : Nat) : Prop := ¬ (euP nx fr (fun i => ¬ B i) (fun i => ¬ A i ∧ ¬ B i) n ∨ egP nx fr (fun i => ¬ B i) n)

theorem Way8.tail {E : Nat → Nat → Prop} {Ps : List (Nat → Prop)} {r : Nat → Nat} (h : Way8 E Ps r) : Way8 E Ps fun i => r (i + 1) :=
  ⟨fun i => h.1 (i + 1), fun P hP i => by
    obtain ⟨j, hj, hp⟩ := h.2 P hP (i + 1)
    exact ⟨j - 1, by omega, by show P (r (j - 1 + 1)); rw [show j - 1 + 1 = j by omega]; exact hp⟩⟩
theorem Way8.drop {E : Nat → Nat → Prop} {Ps : List (Nat → Prop)} {r : Nat → Nat} (h : Way8 E Ps r) : ∀ k, Way8 E Ps fun i => r (i + k)
  | 0 => h
  | k + 1 => by
    have := (Way8.drop h k).tail
    rw [show (fun i => r (i + (k + 1))) = fun i => (fun j => r (j + k)) (i + 1) from funext fun i => by show r _ = r _; congr 1; omega]
    exact this
def consW (n : Nat) (r : Nat → Nat) : Nat → Nat := fun i => match i with | 0 => n | i + 1 => r i
theorem Way8.cons {E : Nat → Nat → Prop} {Ps : List (Nat → Prop)} {r : Nat → Nat} {n : Nat} (h : Way8 E Ps r) (he : E n (r 0)) : Way8 E Ps (consW n r) :=
  ⟨fun i => by
    cases i with
    | zero => exact he
    | succ i => exact h.1 i, fun P hP i => by
    obtain ⟨j, hj, hp⟩ := h.2 P hP i
    exact ⟨j + 1, by omega, hp⟩⟩
section
variable {nx fr : Graph} {A B : Nat → Prop}
theorem fairP_step {n : Nat} : fairP nx fr n ↔ ∃ m, Eg nx n m ∧ fairP nx fr m := by
  constructor
  · rintro ⟨r, rfl, h⟩
    exact ⟨r 1, h.1 0, _, rfl, h.tail⟩
  · rintro ⟨m, he, r, rfl, h⟩
    exact ⟨_, rfl, h.cons he⟩
theorem egP_step {n : Nat} : egP nx fr A n ↔ A n ∧ ∃ m, Eg nx n m ∧ egP nx fr A m := by
  constructor
  · rintro ⟨r, rfl, h, ha⟩
    exact ⟨ha 0, r 1, h.1 0, _, rfl, h.tail, fun i => ha (i + 1)⟩
  · rintro ⟨ha, m, he, r, rfl, h, hr⟩
    refine ⟨_, rfl, h.cons he, fun i => ?_⟩
    cases i with
    | zero => exact ha
    | succ i => exact hr i
theorem egP.fair {n : Nat} (h : egP nx fr A n) : fairP nx fr n := by
  obtain ⟨r, h0, h, _⟩ := h
  exact ⟨r, h0, h⟩
theorem EuP.iff {E : Nat → Nat → Prop} {n : Nat} : EuP E A B n ↔ B n ∨ (A n ∧ ∃ m, E n m ∧ EuP E A B m) := by
  constructor
  · intro h
    cases h with
    | here h => exact .inl h
    | step h1 h2 h3 => exact .inr ⟨h1, _, h2, h3⟩
  · rintro (h | ⟨h1, m, h2, h3⟩)
    · exact .here h
    · exact .step h1 h2 h3
theorem euP.fair {n : Nat} (h : euP nx fr A B n) : fairP nx fr n := by
  unfold euP at h
  induction h with
  | here h => exact h.2
  | step h1 h2 h3 ih => exact fairP_step.2 ⟨_, h2, ih⟩
theorem exP_true {n : Nat} : exP nx fr (fun _ => True) n ↔ fairP nx fr n := by
  rw [fairP_step]
  exact ⟨fun ⟨m, h1, _, h2⟩ => ⟨m, h1, h2⟩, fun ⟨m, h1, h2⟩ => ⟨m, h1, trivial, h2⟩⟩
theorem EuP.congr {E : Nat → Nat → Prop} {A' B' : Nat → Prop} {N : Nat} (hE : ∀ u v, E u v → v < N) (hA : ∀ i, i < N → (A i → A' i)) (hB : ∀ i, i < N → (B i → B' i)) {n : Nat} (h : EuP E A B n) : n < N → EuP E A' B' n := by
  induction h with
  | here h => exact fun hn => .here (hB _ hn h)
  | step h1 h2 h3 ih => exact fun hn => .step (hA _ hn h1) h2 (ih (hE _ _ h2))
theorem euP_congr {A' B' : Nat → Prop} (hok : okG nx) (hA : ∀ i, i < nx.length → (A i ↔ A' i)) (hB : ∀ i, i < nx.length → (B i ↔ B' i)) {n : Nat} (hn : n < nx.length) : euP nx fr A B n ↔ euP nx fr A' B' n :=
  ⟨fun h => EuP.congr (fun u v h => h.lt hok) (fun i hi => (hA i hi).1) (fun i hi h => ⟨(hB i hi).1 h.1, h.2⟩) h hn, fun h => EuP.congr (fun u v h => h.lt hok) (fun i hi => (hA i hi).2) (fun i hi h => ⟨(hB i hi).2 h.1, h.2⟩) h hn⟩
theorem Way8.lt {r : Nat → Nat} (hok : okG nx) (h : Way8 (Eg nx) (setPs fr) r) (i : Nat) : r i < nx.length := by
  cases i with
  | zero => exact (h.1 0).lt1
  | succ i => exact (h.1 i).lt hok
theorem egP_congr {A' : Nat → Prop} (hok : okG nx) (hA : ∀ i, i < nx.length → (A i ↔ A' i)) {n : Nat} : egP nx fr A n ↔ egP nx fr A' n :=
  ⟨fun ⟨r, h0, h, ha⟩ => ⟨r, h0, h, fun i => (hA _ (h.lt hok i)).1 (ha i)⟩, fun ⟨r, h0, h, ha⟩ => ⟨r, h0, h, fun i => (hA _ (h.lt hok i)).2 (ha i)⟩⟩
theorem exP_congr {A' : Nat → Prop} (hok : okG nx) (hA : ∀ i, i < nx.length → (A i ↔ A' i)) {n : Nat} : exP nx fr A n ↔ exP nx fr A' n :=
  ⟨fun ⟨m, h1, h2, h3⟩ => ⟨m, h1, (hA m (h1.lt hok)).1 h2, h3⟩, fun ⟨m, h1, h2, h3⟩ => ⟨m, h1, (hA m (h1.lt hok)).2 h2, h3⟩⟩
theorem within_egP (hok : okG nx) : withinB nx (boolsN nx.length A) fr = boolsN nx.length (egP nx fr A) := by
  refine boolsN_of withinB_len fun n hn => ?_
  rw [withinB_iff hn]
  constructor
  · rintro ⟨r, h0, h1, h2⟩
    have h3 := fun i => inG_edge.1 (h1 i)
    exact ⟨r, h0, ⟨fun i => (h3 i).1, h2⟩, fun i => (boolsN_iff (h3 i).1.lt1).1 (h3 i).2.1⟩
  · rintro ⟨r, h0, h, ha⟩
    exact ⟨r, h0, fun i => inG_edge.2 ⟨h.1 i, (boolsN_iff (h.lt hok i)).2 (ha i), (boolsN_iff (h.lt hok (i + 1))).2 (ha (i + 1))⟩, h.2⟩
theorem all_fairP (hok : okG nx) : allB nx fr = boolsN nx.length (fairP nx fr) := boolsN_of withinB_len fun n hn => allB_iff hok hn
end

/- FORMULAS -/
def ctlK (nx : Graph) (lb : List Nat) (fr : Graph) (k n : Int) (ks : List (Nat → Prop)) : Nat → Prop :=
  if k = 1 then fun _ => True
  else if k = 3 then fun i => lb.getD i 0 >>> n.toNat &&& 1 = 1
  else if k = 4 then fun i => ¬ ks.getD 0 (fun _ => False) i
  else if k = 5 then fun i => ks.getD 0 (fun _ => False) i ∧ ks.getD 1 (fun _ => False) i
  else if k = 6 then fun i => ks.getD 0 (fun _ => False) i ∨ ks.getD 1 (fun _ => False) i
  else if k = 7 then exP nx fr (ks.getD 0 (fun _ => False))
  else if k = 8 then euP nx fr (fun _ => True) (ks.getD 0 (fun _ => False))
  else if k = 9 then egP nx fr (ks.getD 0 (fun _ => False))
  else if k = 10 then euP nx fr (ks.getD 0 (fun _ => False)) (ks.getD 1 (fun _ => False))
  else if k = 11 then fun i => ¬ exP nx fr (fun j => ¬ ks.getD 0 (fun _ => False) j) i
  else if k = 12 then fun i => ¬ egP nx fr (fun j => ¬ ks.getD 0 (fun _ => False) j) i
  else if k = 13 then fun i => ¬ euP nx fr (fun _ => True) (fun j => ¬ ks.getD 0 (fun _ => False) j) i
  else if k = 14 then auP nx fr (ks.getD 0 (fun _ => False)) (ks.getD 1 (fun _ => False))
  else fun _ => False
mutual
def ctlF (nx : Graph) (lb : List Nat) (fr : Graph) : Ltl → Nat → Prop
  | .mk k n kids => ctlK nx lb fr k n (ctlFs nx lb fr kids)
def ctlFs (nx : Graph) (lb : List Nat) (fr : Graph) : List Ltl → List (Nat → Prop)
  | [] => []
  | x :: r => ctlF nx lb fr x :: ctlFs nx lb fr r
end
theorem ctlFs_map {nx : Graph} {lb : List Nat} {fr : Graph} : ∀ l : List Ltl, ctlFs nx lb fr l = l.map (ctlF nx lb fr)
  | [] => rfl
  | x :: r => by rw [ctlFs, ctlFs_map r]; rfl

/- LAWS -/
section
variable {nx fr : Graph} {lb : List Nat} {f g : Ltl}
abbrev cone (k : Int) (f : Ltl) : Ltl := .mk k 0 [f]
abbrev ctwo (k : Int) (f g : Ltl) : Ltl := .mk k 0 [f, g]
abbrev cyes : Ltl := .mk 1 0 []
theorem notnot {p : Prop} : ¬ ¬ p ↔ p := Classical.not_not
theorem law_ef : ctlF nx lb fr (cone 8 g) = ctlF nx lb fr (ctwo 10 cyes g) := rfl
theorem euP_none {A B : Nat → Prop} (h : ∀ n, ¬ B n) {n : Nat} : ¬ euP nx fr A B n := by
  intro hn
  unfold euP at hn
  induction hn with
  | here hb => exact h _ hb.1
  | step _ _ _ ih => exact ih
theorem law_af {n : Nat} : ctlF nx lb fr (cone 12 g) n ↔ ctlF nx lb fr (ctwo 14 cyes g) n := by
  show ¬ egP nx fr (fun j => ¬ ctlF nx lb fr g j) n ↔ auP nx fr (fun _ => True) (ctlF nx lb fr g) n
  unfold auP
  have h : ¬ euP nx fr (fun i => ¬ ctlF nx lb fr g i) (fun i => ¬ True ∧ ¬ ctlF nx lb fr g i) n := euP_none (fun n h => h.1 trivial)
  rw [not_or]
  exact ⟨fun k => ⟨h, k⟩, fun k => k.2⟩
theorem law_ag : ctlF nx lb fr (cone 13 f) = ctlF nx lb fr (cone 4 (cone 8 (cone 4 f))) := rfl
theorem law_ax : ctlF nx lb fr (cone 11 f) = ctlF nx lb fr (cone 4 (cone 7 (cone 4 f))) := rfl
theorem law_eg (hok : okG nx) {n : Nat} : ctlF nx lb fr (cone 9 f) n ↔ ctlF nx lb fr (cone 4 (cone 12 (cone 4 f))) n := by
  show egP nx fr (ctlF nx lb fr f) n ↔ ¬ ¬ egP nx fr (fun j => ¬ ¬ ctlF nx lb fr f j) n
  rw [notnot]
  exact egP_congr hok (fun i _ => notnot.symm)
theorem law_eu {n : Nat} : ctlF nx lb fr (ctwo 10 f g) n ↔ ctlF nx lb fr (ctwo 6 (ctwo 5 g (cone 7 cyes)) (ctwo 5 f (cone 7 (ctwo 10 f g)))) n := by
  show euP nx fr (ctlF nx lb fr f) (ctlF nx lb fr g) n ↔ (ctlF nx lb fr g n ∧ exP nx fr (fun _ => True) n) ∨ (ctlF nx lb fr f n ∧ exP nx fr (euP nx fr (ctlF nx lb fr f) (ctlF nx lb fr g)) n)
  rw [exP_true]
  conv => lhs; unfold euP; rw [EuP.iff]
  refine or_congr Iff.rfl (and_congr Iff.rfl ⟨fun ⟨m, h1, h2⟩ => ⟨m, h1, h2, euP.fair h2⟩, fun ⟨m, h1, h2, _⟩ => ⟨m, h1, h2⟩⟩)
theorem law_au {n : Nat} : ctlF nx lb fr (ctwo 14 f g) n ↔ ctlF nx lb fr (ctwo 6 (cone 4 (cone 7 cyes)) (ctwo 6 g (ctwo 5 f (cone 11 (ctwo 14 f g))))) n := by
  show auP nx fr (ctlF nx lb fr f) (ctlF nx lb fr g) n ↔ ¬ exP nx fr (fun _ => True) n ∨ (ctlF nx lb fr g n ∨ (ctlF nx lb fr f n ∧ ¬ exP nx fr (fun j => ¬ auP nx fr (ctlF nx lb fr f) (ctlF nx lb fr g) j) n))
  rw [exP_true]
  generalize ctlF nx lb fr f = A
  generalize ctlF nx lb fr g = B
  have key : ∀ n, (euP nx fr (fun i => ¬ B i) (fun i => ¬ A i ∧ ¬ B i) n ∨ egP nx fr (fun i => ¬ B i) n) ↔ fairP nx fr n ∧ ¬ B n ∧ (¬ A n ∨ exP nx fr (fun j => ¬ auP nx fr A B j) n) := by
    intro n
    constructor
    · rintro (h | h)
      · have hf := euP.fair h
        unfold euP at h
        rcases EuP.iff.1 h with ⟨⟨h1, h2⟩, _⟩ | ⟨h1, m, h2, h3⟩
        · exact ⟨hf, h2, .inl h1⟩
        · exact ⟨hf, h1, .inr ⟨m, h2, notnot.2 (.inl h3), euP.fair h3⟩⟩
      · have hf := h.fair
        obtain ⟨h1, m, h2, h3⟩ := egP_step.1 h
        exact ⟨hf, h1, .inr ⟨m, h2, notnot.2 (.inr h3), h3.fair⟩⟩
    · rintro ⟨h1, h2, h3 | ⟨m, h3, h4, h5⟩⟩
      · exact .inl (.here ⟨⟨h3, h2⟩, h1⟩)
      · rcases notnot.1 h4 with h4 | h4
        · exact .inl (.step h2 h3 h4)
        · exact .inr (egP_step.2 ⟨h2, m, h3, h4⟩)
  conv => lhs; unfold auP; rw [key]
  by_cases h1 : fairP nx fr n <;> by_cases h2 : B n <;> by_cases h3 : A n <;> simp [h1, h2, h3]
theorem law_eg2 {n : Nat} : ctlF nx lb fr (cone 9 f) n ↔ ctlF nx lb fr (ctwo 5 f (cone 7 (cone 9 f))) n := by
  show egP nx fr (ctlF nx lb fr f) n ↔ ctlF nx lb fr f n ∧ exP nx fr (egP nx fr (ctlF nx lb fr f)) n
  rw [egP_step]
  exact and_congr Iff.rfl ⟨fun ⟨m, h1, h2⟩ => ⟨m, h1, h2, h2.fair⟩, fun ⟨m, h1, h2, _⟩ => ⟨m, h1, h2⟩⟩
end

/- WHAT A FAIR WAY SHOWS -/
section
variable {nx fr : Graph} {lb : List Nat} {f : Ltl} {r : Nat → Nat}
theorem euP_way {A B : Nat → Prop} (hr : Way8 (Eg nx) (setPs fr) r) {i : Nat} (hb : B (r i)) (ha : ∀ j, j < i → A (r j)) : euP nx fr A B (r 0) := by
  have key : ∀ d, d ≤ i → euP nx fr A B (r (i - d)) := by
    intro d
    induction d with
    | zero => exact fun _ => .here ⟨hb, fun k => r (k + i), by show r (0 + i) = r (i - 0); congr 1; omega, hr.drop i⟩
    | succ d ih => exact fun hd => .step (ha _ (by omega)) (by have := hr.1 (i - (d + 1)); rwa [show i - (d + 1) + 1 = i - d by omega] at this) (ih (by omega))
  have := key i (Nat.le_refl _)
  rwa [Nat.sub_self] at this
theorem path_ef (hr : Way8 (Eg nx) (setPs fr) r) {i : Nat} (h : ctlF nx lb fr f (r i)) : ctlF nx lb fr (cone 8 f) (r 0) := euP_way (A := fun _ => True) (B := ctlF nx lb fr f) hr h (fun _ _ => trivial)
theorem path_eg (hr : Way8 (Eg nx) (setPs fr) r) (h : ∀ i, ctlF nx lb fr f (r i)) : ctlF nx lb fr (cone 9 f) (r 0) := ⟨r, rfl, hr, h⟩
theorem path_af (hr : Way8 (Eg nx) (setPs fr) r) (h : ∀ i, ¬ ctlF nx lb fr f (r i)) : ¬ ctlF nx lb fr (cone 12 f) (r 0) := fun k => k ⟨r, rfl, hr, h⟩
theorem path_ag (hr : Way8 (Eg nx) (setPs fr) r) {i : Nat} (h : ¬ ctlF nx lb fr f (r i)) : ¬ ctlF nx lb fr (cone 13 f) (r 0) := fun k => k (euP_way (A := fun _ => True) (B := fun j => ¬ ctlF nx lb fr f j) hr h (fun _ _ => trivial))
end

/- TWINS -/
structure Twin (N : Nat) (nx nx' : Graph) (lb lb' : List Nat) (fr fr' : Graph) : Prop where
  n : nx.length = N
  ok : okG nx
  n' : nx'.length = 2 * N
  ok' : okG nx'
  lab : ∀ k, k < 2 * N → lb'.getD k 0 = lb.getD (k % N) 0
  to : ∀ k m, Eg nx' k m → Eg nx (k % N) (m % N)
  fro : ∀ k t, k < 2 * N → Eg nx (k % N) t → ∃ m, Eg nx' k m ∧ m % N = t
  fl : fr'.length = fr.length
  fs : ∀ j x, x < 2 * N → ((x : Int) ∈ fr'.getD j [] ↔ ((x % N : Nat) : Int) ∈ fr.getD j [])
theorem setPs_iff {fr : Graph} {Q : (Nat → Prop) → Prop} : (∀ P ∈ setPs fr, Q P) ↔ ∀ j, j < fr.length → Q fun x => (x : Int) ∈ fr.getD j [] := by
  constructor
  · intro h j hj
    refine h _ (List.mem_map.2 ⟨fr[j], List.getElem_mem hj, ?_⟩)
    funext x
    rw [wgetDG hj]
  · intro h P hP
    obtain ⟨F, hF, rfl⟩ := List.mem_map.1 hP
    obtain ⟨j, hj, rfl⟩ := List.mem_iff_getElem.1 hF
    have := h j hj
    simp only [wgetDG hj] at this
    exact this
section
variable {N : Nat} {nx nx' fr fr' : Graph} {lb lb' : List Nat}
theorem Twin.down (h : Twin N nx nx' lb lb' fr fr') {r : Nat → Nat} (hr : Way8 (Eg nx') (setPs fr') r) : Way8 (Eg nx) (setPs fr) fun i => r i % N := by
  have hlt : ∀ i, r i < 2 * N := fun i => by rw [← h.n']; exact hr.lt h.ok' i
  refine ⟨fun i => h.to _ _ (hr.1 i), setPs_iff.2 fun j hj i => ?_⟩
  obtain ⟨k, hk, hp⟩ := setPs_iff.1 hr.2 j (by rw [h.fl]; exact hj) i
  exact ⟨k, hk, (h.fs j _ (hlt k)).1 hp⟩
open Classical in
theorem Twin.up (h : Twin N nx nx' lb lb' fr fr') {r : Nat → Nat} (hr : Way8 (Eg nx) (setPs fr) r) {k : Nat} (hk : k < 2 * N) (h0 : r 0 = k % N) : ∃ r', r' 0 = k ∧ Way8 (Eg nx') (setPs fr') r' ∧ ∀ i, r' i % N = r i := by
  let nxt : Nat → Nat → Nat := fun i x => if hx : x < 2 * N ∧ x % N = r i then Classical.choose (h.fro x (r (i + 1)) hx.1 (by rw [hx.2]; exact hr.1 i)) else 0
  have hnxt : ∀ i x, x < 2 * N → x % N = r i → Eg nx' x (nxt i x) ∧ nxt i x % N = r (i + 1) := by
    intro i x h1 h2
    have hx : x < 2 * N ∧ x % N = r i := ⟨h1, h2⟩
    show Eg nx' x (if hx : x < 2 * N ∧ x % N = r i then _ else 0) ∧ _
    rw [dif_pos hx]
    have := Classical.choose_spec (h.fro x (r (i + 1)) hx.1 (by rw [hx.2]; exact hr.1 i))
    refine ⟨this.1, ?_⟩
    show (if hx : x < 2 * N ∧ x % N = r i then _ else 0) % N = _
    rw [dif_pos hx]
    exact this.2
  let r' : Nat → Nat := fun i => Nat.rec (motive := fun _ => Nat) k (fun i x => nxt i x) i
  have hinv : ∀ i, r' i < 2 * N ∧ r' i % N = r i := by
    intro i
    induction i with
    | zero => exact ⟨hk, h0.symm⟩
    | succ i ih =>
      have h1 := hnxt i (r' i) ih.1 ih.2
      refine ⟨?_, h1.2⟩
      have := h1.1.lt h.ok'
      rw [h.n'] at this
      exact this
  have hstep : ∀ i, Eg nx' (r' i) (r' (i + 1)) := fun i => (hnxt i (r' i) (hinv i).1 (hinv i).2).1
  refine ⟨r', rfl, ⟨hstep, setPs_iff.2 fun j hj i => ?_⟩, fun i => (hinv i).2⟩
  obtain ⟨m, hm, hp⟩ := setPs_iff.1 hr.2 j (by rw [← h.fl]; exact hj) i
  exact ⟨m, hm, (h.fs j _ (hinv m).1).2 (by rw [(hinv m).2]; exact hp)⟩
variable {A A' B B' : Nat → Prop}
theorem Twin.fair (h : Twin N nx nx' lb lb' fr fr') {k : Nat} (hk : k < 2 * N) : fairP nx' fr' k ↔ fairP nx fr (k % N) := by
  constructor
  · rintro ⟨r, rfl, hr⟩; exact ⟨_, rfl, h.down hr⟩
  · rintro ⟨r, h0, hr⟩
    obtain ⟨r', h1, h2, _⟩ := h.up hr hk h0
    exact ⟨r', h1, h2⟩
theorem Twin.eg (h : Twin N nx nx' lb lb' fr fr') (hA : ∀ k, k < 2 * N → (A' k ↔ A (k % N))) {k : Nat} (hk : k < 2 * N) : egP nx' fr' A' k ↔ egP nx fr A (k % N) := by
  constructor
  · rintro ⟨r, rfl, hr, ha⟩
    exact ⟨_, rfl, h.down hr, fun i => (hA _ (by rw [← h.n']; exact hr.lt h.ok' i)).1 (ha i)⟩
  · rintro ⟨r, h0, hr, ha⟩
    obtain ⟨r', h1, h2, h3⟩ := h.up hr hk h0
    exact ⟨r', h1, h2, fun i => (hA _ (by rw [← h.n']; exact h2.lt h.ok' i)).2 (by rw [h3]; exact ha i)⟩
theorem Twin.ex (h : Twin N nx nx' lb lb' fr fr') (hA : ∀ k, k < 2 * N → (A' k ↔ A (k % N))) {k : Nat} (hk : k < 2 * N) : exP nx' fr' A' k ↔ exP nx fr A (k % N) := by
  constructor
  · rintro ⟨m, h1, h2, h3⟩
    have hm : m < 2 * N := by rw [← h.n']; exact h1.lt h.ok'
    exact ⟨m % N, h.to _ _ h1, (hA m hm).1 h2, (h.fair hm).1 h3⟩
  · rintro ⟨t, h1, h2, h3⟩
    obtain ⟨m, h4, rfl⟩ := h.fro k t hk h1
    have hm : m < 2 * N := by rw [← h.n']; exact h4.lt h.ok'
    exact ⟨m, h4, (hA m hm).2 h2, (h.fair hm).2 h3⟩
theorem Twin.eu (h : Twin N nx nx' lb lb' fr fr') (hA : ∀ k, k < 2 * N → (A' k ↔ A (k % N))) (hB : ∀ k, k < 2 * N → (B' k ↔ B (k % N))) {k : Nat} (hk : k < 2 * N) : euP nx' fr' A' B' k ↔ euP nx fr A B (k % N) := by
  constructor
  · intro hu
    unfold euP at hu ⊢
    induction hu with
    | here hb => exact .here ⟨(hB _ hk).1 hb.1, (h.fair hk).1 hb.2⟩
    | @step n m h1 h2 h3 ih =>
      have hm : m < 2 * N := by rw [← h.n']; exact h2.lt h.ok'
      exact .step ((hA _ hk).1 h1) (h.to _ _ h2) (ih hm)
  · intro hu
    unfold euP at hu ⊢
    generalize hn : k % N = n at hu
    induction hu generalizing k with
    | here hb => subst hn; exact .here ⟨(hB _ hk).2 hb.1, (h.fair hk).2 hb.2⟩
    | @step n m h1 h2 h3 ih =>
      subst hn
      obtain ⟨m', h4, h5⟩ := h.fro k m hk h2
      have hm : m' < 2 * N := by rw [← h.n']; exact h4.lt h.ok'
      exact .step ((hA _ hk).2 h1) h4 (ih hm h5)
theorem Twin.au (h : Twin N nx nx' lb lb' fr fr') (hA : ∀ k, k < 2 * N → (A' k ↔ A (k % N))) (hB : ∀ k, k < 2 * N → (B' k ↔ B (k % N))) {k : Nat} (hk : k < 2 * N) : auP nx' fr' A' B' k ↔ auP nx fr A B (k % N) := by
  unfold auP
  rw [h.eu (A := fun i => ¬ B i) (B := fun i => ¬ A i ∧ ¬ B i) (fun k hk => not_congr (hB k hk)) (fun k hk => and_congr (not_congr (hA k hk)) (not_congr (hB k hk))) hk, h.eg (A := fun i => ¬ B i) (fun k hk => not_congr (hB k hk)) hk]
theorem ite_cong {P : Prop} [Decidable P] {a b a' b' : Nat → Prop} {k k' : Nat} (h1 : a k ↔ a' k') (h2 : b k ↔ b' k') : (if P then a else b) k ↔ (if P then a' else b') k' := by
  split
  · exact h1
  · exact h2
mutual
theorem Twin.form (h : Twin N nx nx' lb lb' fr fr') : ∀ (t : Ltl) (k : Nat), k < 2 * N → (ctlF nx' lb' fr' t k ↔ ctlF nx lb fr t (k % N))
  | .mk c n kids, k, hk => by
    have hs : ∀ i, ∀ k, k < 2 * N → ((ctlFs nx' lb' fr' kids).getD i (fun _ => False) k ↔ (ctlFs nx lb fr kids).getD i (fun _ => False) (k % N)) := fun i k hk => Twin.forms h kids i k hk
    simp only [ctlF]
    generalize ctlFs nx' lb' fr' kids = ks' at *
    generalize ctlFs nx lb fr kids = ks at *
    unfold ctlK
    refine ite_cong Iff.rfl (ite_cong ?_ (ite_cong (not_congr (hs 0 k hk)) (ite_cong (and_congr (hs 0 k hk) (hs 1 k hk)) (ite_cong (or_congr (hs 0 k hk) (hs 1 k hk)) (ite_cong (h.ex (hs 0) hk) (ite_cong (h.eu (A := fun _ => True) (fun _ _ => Iff.rfl) (hs 0) hk) (ite_cong (h.eg (hs 0) hk) (ite_cong (h.eu (hs 0) (hs 1) hk)
      (ite_cong (not_congr (h.ex (A := fun j => ¬ ks.getD 0 (fun _ => False) j) (fun k hk => not_congr (hs 0 k hk)) hk)) (ite_cong (not_congr (h.eg (A := fun j => ¬ ks.getD 0 (fun _ => False) j) (fun k hk => not_congr (hs 0 k hk)) hk))
      (ite_cong (not_congr (h.eu (A := fun _ => True) (B := fun j => ¬ ks.getD 0 (fun _ => False) j) (fun _ _ => Iff.rfl) (fun k hk => not_congr (hs 0 k hk)) hk)) (ite_cong (h.au (hs 0) (hs 1) hk) Iff.rfl))))))))))))
    show _ = _ ↔ _ = _; rw [h.lab k hk]
theorem Twin.forms (h : Twin N nx nx' lb lb' fr fr') : ∀ (l : List Ltl) (i k : Nat), k < 2 * N → ((ctlFs nx' lb' fr' l).getD i (fun _ => False) k ↔ (ctlFs nx lb fr l).getD i (fun _ => False) (k % N))
  | [], i, k, hk => by simp [ctlFs]
  | x :: r, 0, k, hk => by simpa [ctlFs] using Twin.form h x k hk
  | x :: r, i + 1, k, hk => by simpa [ctlFs] using Twin.forms h r i k hk
end
end
end Go.Proofs.Ytbphcblopoegcaa
/-
  Package label: each, not, both, ex: walked.
-/
set_option linter.unusedVariables false
set_option linter.unusedSimpArgs false
namespace Go.Proofs.Ytbphcblopoegcaa
open Go.RowKit

/-- a labeler of a world -/
def LabAt (w : World) (b : Nat) (nx : Graph) (lb : List Nat) (fr : Graph) : Prop :=
  ∃ (a1 : Option Addr) (c1 n1 : Nat) (a2 : Option Addr) (c2 : Nat) (a3 : Option Addr) (c3 : Nat) (a4 : Option Addr) (c4 : Nat) (ao : Option Addr) (ac : Nat) (bo : Option Addr) (bc : Nat),
    Blk w b 221 [.slice a1 n1 c1, .slice a2 nx.length c2, .slice a3 lb.length c3, .slice a4 fr.length c4, .slice ao (boolsN nx.length (fairP nx fr)).length ac, .slice bo (turnL nx).length bc] ∧
    Sl w (Old w) a2 c2 nx ∧ Sl w (Old w) a3 c3 lb ∧ Sl w (Old w) a4 c4 fr ∧ Sl w (Old w) ao ac (boolsN nx.length (fairP nx fr)) ∧ Sl w (Old w) bo bc (turnL nx)
theorem LabAt.up {w w' : World} {b : Nat} {nx fr : Graph} {lb : List Nat} (h : LabAt w b nx lb fr) (hE : Ext w w') : LabAt w' b nx lb fr := by
  obtain ⟨a1, c1, n1, a2, c2, a3, c3, a4, c4, ao, ac, bo, bc, hb, h2, h3, h4, h5, h6⟩ := h
  exact ⟨a1, c1, n1, a2, c2, a3, c3, a4, c4, ao, ac, bo, bc, hb.ext hE, h2.up hE, h3.up hE, h4.up hE, h5.up hE, h6.up hE⟩
/-- a world that passes -/
structure WOk (nx : Graph) (fr : Graph) : Prop where
  n : nx.length ≤ 600
  g : okG nx
  f : ∀ F ∈ fr, okL nx.length F
  e : edges nx ≤ 8589934592
abbrev labP (b : Nat) : Value := .pointer (some ⟨b, 0, none⟩)
theorem each_ok (w0 : World) {b : Nat} {nx fr : Graph} {lb : List Nat} (hL : LabAt w0 b nx lb fr) (hn : nx.length ≤ 600) {fv : Value} {P : Nat → Prop}
    (hf : ∀ (w : World) (n : Nat), Ext w0 w → n < nx.length → FnV Try.prog fv [.int .i64 (n : Int)] w fun v w' => ∃ c : Bool, v = .bool c ∧ (c = true ↔ P n) ∧ Ext w w') :
    Rt Try.prog 147 [labP b, fv].toArray w0 fun v w' => Own w' w0.heap.size 4 Non v (boolsN nx.length P) ∧ Ext w0 w' := by
  obtain ⟨a1, c1, n1, a2, c2, a3, c3, a4, c4, ao, ac, bo, bc, hb, h2, h3, h4, h5, h6⟩ := hL
  refine Rt.enter2 Try.func147 Try.ntmps147 rfl rfl ?_
  (repeat (first | (apply WL.pure; rfl; rfl; rfl) | (apply WL.nil) | (apply EX.thenN) | (apply CW.seq) | (apply CW.region) | (apply WL.lenS; rfl; rfl; rfl) | (apply WL.fa; rfl; rfl; rfl) | (apply WL.nck; rfl; rfl; rfl) | (apply WL.ld; rfl; rfl; rfl; assumption; rfl)))
  refine WL.make (α := Bool) rfl rfl rfl rfl (by omega) (by unfold maxLen; omega) (fun w3 ho3 hg3 => ?_)
  have e3 : Ext w0 w3 := (Below.refl _ _).grown hg3 (Nat.le_refl _) (fun k h => by cases h)
  generalize hsv : Value.slice (some ⟨w0.heap.size, 0, none⟩) nx.length nx.length = sv at *
  have hlv : ∃ ao cap, sv = .slice ao nx.length cap := ⟨_, _, hsv.symm⟩
  (repeat (first | (apply WL.pure; rfl; rfl; rfl) | (apply WL.nil) | (apply EX.thenN) | (apply CW.seq) | (apply CW.region) | (apply CW.block) | (refine WL.lenO rfl rfl rfl (by assumption) ?_)))
  rw [List.length_replicate]
  refine CW.loop (S := Nat × List Bool) (fun s => [(1, fv), (5, sv), (15, .int .i64 nx.length), (16, .int .i64 s.1)])
    (fun s w => s.1 ≤ nx.length ∧ Own w w0.heap.size 4 Non sv s.2 ∧ s.2.length = nx.length ∧ (∀ c, c < s.1 → (s.2.getD c false = true ↔ P c)) ∧ Ext w0 w) (fun s => nx.length - s.1) (0, List.replicate nx.length false) (by repeat (first | exact trivial | refine ⟨rfl, ?_⟩)) ⟨Nat.zero_le _, ho3, by simp, fun c hc => absurd hc (by dsimp only; omega), e3⟩ ?_
  rintro ⟨i, o⟩ w4 ⟨hi, ho, hil, hin, e4⟩
  dsimp only at hi ho hil hin ⊢
  (repeat (first | (apply WL.pure; rfl; rfl; rfl) | (apply WL.nil) | (apply EX.thenN) | (apply CW.seq) | (apply CW.region)))
  refine CW.cond rfl (fun h => ?_) (fun h => ?_)
  · have hi' : i < nx.length := by simp at h; omega
    (repeat (first | (apply WL.pure; rfl; rfl; rfl) | (apply WL.nil) | (apply EX.thenN) | (apply CW.seq) | (apply CW.region) | (apply CW.block) | (apply CW.skip)))
    refine WL.callF rfl rfl rfl rfl (hf w4 i e4 hi') ?_
    rintro _ w5 ⟨c, rfl, hc, e5⟩
    skip
    refine WL.setN (u := .bool c) (yv := c) rfl rfl rfl rfl (ho.extN e5) (show i < o.length by omega) (fun _ => rfl) (fun _ => rfl) (Rd.mkBool _ _ _) (fun w6 q2 ho6 hg6 => ?_)
    have e6 : Ext w0 w6 := (e4.trans e5).grown hg6 (e4.trans e5).size (fun b hb => (ho.lt b hb).1)
    (repeat (first | (apply WL.add; rfl; rfl; rfl; rfl; omega; omega) | (apply WL.pure; rfl; rfl; rfl) | (apply WL.nil) | (apply EX.thenN) | (apply CW.region) | (apply EX.inN)))
    refine EX.back (i + 1, o.set i c) (by repeat (first | exact trivial | refine ⟨rfl, ?_⟩)) ⟨hi', ho6, by simpa using hil, fun k hk => ?_, e6⟩ (by dsimp only; omega)
    dsimp only at hk ⊢
    rw [getD_set (by omega)]
    by_cases e : i = k
    · subst e; rw [if_pos rfl]; exact hc
    · rw [if_neg e]; exact hin k (by omega)
  obtain rfl : i = nx.length := by simp at h; omega
  rw [boolsN_of hil hin] at ho
  (repeat (first | (apply WL.pure; rfl; rfl; rfl) | (apply WL.nil) | (apply EX.thenN) | (apply CW.seq) | (apply CW.region) | (apply CW.exit) | (apply EX.thenX) | (apply EX.inX) | (apply CW.ret)))
  exact EX.ret1 rfl rfl ⟨ho, e4⟩
theorem lnot1 (w : World) {bb x : Nat} {ao : Option Addr} {ac : Nat} {l : List Bool} (hb : Blk w bb 55 [.slice ao l.length ac]) (hl : Sl w (Old w) ao ac l) (hx : x < l.length) :
    Rt Try.prog 190 [.int .i64 (x : Int), .pointer (some ⟨bb, 0, none⟩)].toArray w fun v w' => v = .bool (!l.getD x false) ∧ Ext w w' := by
  refine Rt.enter2 Try.func190 Try.ntmps190 rfl rfl ?_
  (repeat (first | (apply WL.pure; rfl; rfl; rfl) | (apply WL.nil) | (apply EX.thenN) | (apply CW.seq) | (apply CW.region) | (apply WL.ld; rfl; rfl; rfl; assumption; rfl)))
  refine WL.elemB rfl rfl rfl rfl rfl hl hx (wgetB hx).symm (fun _ => rfl) (fun q => ?_)
  (repeat (first | (apply WL.pure; rfl; rfl; rfl) | (apply WL.nil) | (apply EX.thenN) | (apply CW.ret)))
  exact EX.ret1 rfl rfl ⟨rfl, Ext.refl _⟩
theorem not_notB {c : Bool} {P : Prop} (h : c = true ↔ P) : (!c) = true ↔ ¬ P := by
  rw [← h]; cases c <;> simp
theorem lnot_ok (w0 : World) {b : Nat} {nx fr : Graph} {lb : List Nat} (hL : LabAt w0 b nx lb fr) (hn : nx.length ≤ 600) {ao : Option Addr} {ac : Nat} {P : Nat → Prop} (ha : Sl w0 (Old w0) ao ac (boolsN nx.length P)) :
    Rt Try.prog 150 [labP b, .slice ao (boolsN nx.length P).length ac].toArray w0 fun v w' => Own w' w0.heap.size 4 Non v (boolsN nx.length fun i => ¬ P i) ∧ Ext w0 w' := by
  refine Rt.enter2 Try.func150 Try.ntmps150 rfl rfl ?_
  (repeat (first | (apply CW.seq) | (apply CW.region)))
  refine WL.boxB rfl rfl rfl fun w1 hb1 e1 => ?_
  have hlt := hb1.lt
  (repeat (first | (apply WL.pure; rfl; rfl; rfl) | (apply WL.nil) | (apply EX.thenN) | (apply CW.seq) | (apply CW.region) | (apply WL.makeFunc; rfl; rfl; rfl; rfl)))
  refine WL.call rfl rfl rfl (each_ok w1 (P := fun i => ¬ P i) (hL.up e1) hn (fun w n hE hn => FnV.mk (f := 190) (Rt.mono (lnot1 w (hb1.ext hE) (ha.up (e1.trans hE)) (show n < _ by rw [boolsN_len]; exact hn)) (fun v w' hv => ⟨_, hv.1, not_notB (boolsN_iff hn), hv.2⟩)))) ?_
  rintro _ w2 ⟨ho, e2⟩
  (repeat (first | (apply WL.pure; rfl; rfl; rfl) | (apply WL.nil) | (apply EX.thenN) | (apply CW.ret)))
  exact EX.ret1 rfl rfl ⟨ho.low e1.size, e1.trans e2⟩
theorem lboth1 (w : World) {b1 b2 x : Nat} {ao bo : Option Addr} {ac bc : Nat} {l k : List Bool} (hb1 : Blk w b1 55 [.slice ao l.length ac]) (hb2 : Blk w b2 55 [.slice bo k.length bc]) (hl : Sl w (Old w) ao ac l) (hk : Sl w (Old w) bo bc k) (hx : x < l.length) (hx2 : x < k.length) :
    Rt Try.prog 191 [.int .i64 (x : Int), .pointer (some ⟨b1, 0, none⟩), .pointer (some ⟨b2, 0, none⟩)].toArray w fun v w' => v = .bool (l.getD x false && k.getD x false) ∧ Ext w w' := by
  refine Rt.enter3 Try.func191 Try.ntmps191 rfl rfl ?_
  (repeat (first | (apply WL.pure; rfl; rfl; rfl) | (apply WL.nil) | (apply EX.thenN) | (apply CW.seq) | (apply CW.region) | (apply WL.ld; rfl; rfl; rfl; assumption; rfl)))
  refine WL.elemB rfl rfl rfl rfl rfl hl hx (wgetB hx).symm (fun _ => rfl) (fun q => ?_)
  generalize l.getD x false = c
  cases c with
  | false =>
    (repeat (first | (apply WL.pure; rfl; rfl; rfl) | (apply WL.nil) | (apply EX.thenN) | (apply WL.pass; rfl; rfl) | (apply CW.ret)))
    exact EX.ret1 rfl rfl ⟨rfl, Ext.refl _⟩
  | true =>
    (repeat (first | (apply WL.pure; rfl; rfl; rfl) | (apply WL.ld; rfl; rfl; rfl; assumption; rfl)))
    refine WL.elemB rfl rfl rfl rfl rfl hk hx2 (wgetB hx2).symm (fun _ => rfl) (fun q2 => ?_)
    (repeat (first | (apply WL.pure; rfl; rfl; rfl) | (apply WL.nil) | (apply EX.thenN) | (apply CW.ret)))
    exact EX.ret1 rfl rfl ⟨rfl, Ext.refl _⟩
theorem and_andB {c d : Bool} {P Q : Prop} (h : c = true ↔ P) (k : d = true ↔ Q) : (c && d) = true ↔ P ∧ Q := by
  rw [← h, ← k]; cases c <;> cases d <;> simp
theorem lboth_ok (w0 : World) {b : Nat} {nx fr : Graph} {lb : List Nat} (hL : LabAt w0 b nx lb fr) (hn : nx.length ≤ 600) {ao bo : Option Addr} {ac bc : Nat} {P Q : Nat → Prop} (ha : Sl w0 (Old w0) ao ac (boolsN nx.length P)) (hb : Sl w0 (Old w0) bo bc (boolsN nx.length Q)) :
    Rt Try.prog 151 [labP b, .slice ao (boolsN nx.length P).length ac, .slice bo (boolsN nx.length Q).length bc].toArray w0 fun v w' => Own w' w0.heap.size 4 Non v (boolsN nx.length fun i => P i ∧ Q i) ∧ Ext w0 w' := by
  refine Rt.enter3 Try.func151 Try.ntmps151 rfl rfl ?_
  (repeat (first | (apply CW.seq) | (apply CW.region)))
  refine WL.boxB rfl rfl rfl fun w1 hb1 e1 => ?_
  skip
  refine WL.boxB rfl rfl rfl fun w2 hb2 e2 => ?_
  have hb1 := hb1.ext e2
  have hE := e1.trans e2
  (repeat (first | (apply WL.pure; rfl; rfl; rfl) | (apply WL.nil) | (apply EX.thenN) | (apply CW.seq) | (apply CW.region) | (apply WL.makeFunc; rfl; rfl; rfl; rfl)))
  refine WL.call rfl rfl rfl (each_ok w2 (P := fun i => P i ∧ Q i) (hL.up hE) hn (fun w n hE2 hn => FnV.mk (f := 191) (Rt.mono (lboth1 w (hb1.ext hE2) (hb2.ext hE2) (ha.up (hE.trans hE2)) (hb.up (hE.trans hE2)) (show n < _ by rw [boolsN_len]; exact hn) (show n < _ by rw [boolsN_len]; exact hn)) (fun v w' hv => ⟨_, hv.1, and_andB (boolsN_iff hn) (boolsN_iff hn), hv.2⟩)))) ?_
  rintro _ w3 ⟨ho, e3⟩
  (repeat (first | (apply WL.pure; rfl; rfl; rfl) | (apply WL.nil) | (apply EX.thenN) | (apply CW.ret)))
  exact EX.ret1 rfl rfl ⟨ho.low hE.size, hE.trans e3⟩
theorem lex1 (w : World) {b b1 b2 x : Nat} {nx fr : Graph} {lb : List Nat} (hL : LabAt w b nx lb fr) (hok : okG nx) {ao : Option Addr} {ac : Nat} {P : Nat → Prop} (hb1 : Blk w b1 161 [labP b]) (hb2 : Blk w b2 55 [.slice ao (boolsN nx.length P).length ac])
    (hl : Sl w (Old w) ao ac (boolsN nx.length P)) (hx : x < nx.length) :
    Rt Try.prog 192 [.int .i64 (x : Int), .pointer (some ⟨b1, 0, none⟩), .pointer (some ⟨b2, 0, none⟩)].toArray w fun v w' => ∃ c : Bool, v = .bool c ∧ (c = true ↔ exP nx fr P x) ∧ Ext w w' := by
  obtain ⟨a1, c1, n1, a2, c2, a3, c3, a4, c4, fo, fc, bo, bc, hb, h2, h3, h4, h5, h6⟩ := hL
  have hrow := okG_row hok x
  rw [wgetDG hx] at hrow
  have hmem : ∀ m : Nat, Eg nx x m ↔ (m : Int) ∈ nx[x] := fun m => by unfold Eg; rw [wgetDG hx]
  refine Rt.enter3 Try.func192 Try.ntmps192 rfl rfl ?_
  (repeat (first | (apply WL.pure; rfl; rfl; rfl) | (apply WL.nil) | (apply EX.thenN) | (apply CW.seq) | (apply CW.region) | (apply WL.fa; rfl; rfl; rfl) | (apply WL.nck; rfl; rfl; rfl) | (apply WL.ld; rfl; rfl; rfl; assumption; rfl)))
  refine WL.elemN rfl rfl rfl rfl rfl h2 hx (fun _ => rfl) (fun u q hu => ?_)
  obtain ⟨ro, rc, rfl, hr⟩ := hu.sl
  have hrl := hr.len63
  generalize nx[x] = row at *
  (repeat (first | (apply WL.pure; rfl; rfl; rfl) | (apply WL.nil) | (apply EX.thenN) | (apply WL.lenS; rfl; rfl; rfl) | (apply CW.block)))
  refine CW.loop (S := Nat) (fun i => [(1, .pointer (some ⟨b1, 0, none⟩)), (2, .pointer (some ⟨b2, 0, none⟩)), (14, .slice ro row.length rc), (15, .int .i64 row.length), (16, .int .i64 i)])
    (fun i w' => w' = w ∧ i ≤ row.length ∧ ∀ m : Nat, (m : Int) ∈ row.take i → ¬ (P m ∧ fairP nx fr m)) (fun i => row.length - i) 0 (by repeat (first | exact trivial | refine ⟨rfl, ?_⟩)) ⟨rfl, Nat.zero_le _, fun m hm => by simp at hm⟩ ?_
  rintro i w' ⟨rfl, hi, hno⟩
  (repeat (first | (apply WL.pure; rfl; rfl; rfl) | (apply WL.nil) | (apply EX.thenN) | (apply CW.seq) | (apply CW.region)))
  refine CW.cond rfl (fun h => ?_) (fun h => ?_)
  · have hi' : i < row.length := by simp at h; omega
    obtain ⟨k, hk⟩ : ∃ k : Nat, row[i] = (k : Int) := ⟨(row[i]).toNat, by have := hrow _ (List.getElem_mem hi'); omega⟩
    have hkn : k < nx.length := by have := hrow _ (List.getElem_mem hi'); omega
    have htk : row.take (i + 1) = row.take i ++ [(k : Int)] := by rw [List.take_add_one, List.getElem?_eq_getElem hi', hk]; rfl
    have hin : (k : Int) ∈ row := hk ▸ List.getElem_mem hi'
    have bP := boolsN_iff (P := P) hkn
    have bF := boolsN_iff (P := fairP nx fr) hkn
    (repeat (first | (apply EX.thenN) | (apply CW.seq) | (apply CW.region) | (apply CW.block) | (apply CW.skip)))
    refine WL.elemI rfl rfl rfl rfl rfl hr hi' hk (fun _ => rfl) (fun q => ?_)
    (repeat (first | (apply WL.pure; rfl; rfl; rfl) | (apply WL.nil) | (apply EX.thenN) | (apply CW.seq) | (apply CW.region) | (apply WL.ld; rfl; rfl; rfl; assumption; rfl)))
    refine WL.elemB rfl rfl rfl rfl rfl hl (show k < _ by rw [boolsN_len]; exact hkn) (wgetB _).symm (fun _ => rfl) (fun q2 => ?_)
    generalize (boolsN nx.length P).getD k false = c at *
    cases c with
    | false =>
      (repeat (first | (apply WL.add; rfl; rfl; rfl; rfl; omega; omega) | (apply WL.pure; rfl; rfl; rfl) | (apply WL.nil) | (apply EX.thenN) | (apply CW.region) | (apply WL.pass; rfl; rfl) | (apply EX.inN) | (apply CW.condF; rfl) | (apply CW.skip)))
      refine EX.back (i + 1) (by repeat (first | exact trivial | refine ⟨rfl, ?_⟩)) ⟨rfl, hi', fun m hm => ?_⟩ (by omega)
      rw [htk] at hm
      rcases List.mem_append.1 hm with hm | hm
      · exact hno m hm
      · have : m = k := by have := List.mem_singleton.1 hm; omega
        subst this
        exact fun h => by have := bP.2 h.1; cases this
    | true =>
      (repeat (first | (apply WL.pure; rfl; rfl; rfl) | (apply WL.fa; rfl; rfl; rfl) | (apply WL.nck; rfl; rfl; rfl) | (apply WL.ld; rfl; rfl; rfl; assumption; rfl)))
      refine WL.elemB rfl rfl rfl rfl rfl h5 (show k < _ by rw [boolsN_len]; exact hkn) (wgetB _).symm (fun _ => rfl) (fun q3 => ?_)
      generalize (boolsN nx.length (fairP nx fr)).getD k false = c at *
      cases c with
      | false =>
        (repeat (first | (apply WL.add; rfl; rfl; rfl; rfl; omega; omega) | (apply WL.pure; rfl; rfl; rfl) | (apply WL.nil) | (apply EX.thenN) | (apply CW.region) | (apply EX.inN) | (apply CW.condF; rfl) | (apply CW.skip)))
        refine EX.back (i + 1) (by repeat (first | exact trivial | refine ⟨rfl, ?_⟩)) ⟨rfl, hi', fun m hm => ?_⟩ (by omega)
        rw [htk] at hm
        rcases List.mem_append.1 hm with hm | hm
        · exact hno m hm
        · have : m = k := by have := List.mem_singleton.1 hm; omega
          subst this
          exact fun h => by have := bF.2 h.2; cases this
      | true =>
        (repeat (first | (apply WL.pure; rfl; rfl; rfl) | (apply WL.nil) | (apply EX.thenN) | (apply CW.seq) | (apply CW.region) | (apply CW.condT; rfl) | (apply CW.ret) | (apply EX.thenR) | (apply EX.inR)))
        exact EX.ret1 rfl rfl ⟨_, rfl, ⟨fun _ => ⟨k, (hmem k).2 hin, bP.1 rfl, bF.1 rfl⟩, fun _ => rfl⟩, Ext.refl _⟩
  · obtain rfl : i = row.length := by simp at h; omega
    rw [List.take_length] at hno
    (repeat (first | (apply WL.pure; rfl; rfl; rfl) | (apply WL.nil) | (apply EX.thenN) | (apply CW.seq) | (apply CW.region) | (apply CW.exit) | (apply EX.thenX) | (apply EX.inX) | (apply CW.ret)))
    refine EX.ret1 rfl rfl ⟨_, rfl, ⟨(fun h => by cases h), fun ⟨m, h1, h2⟩ => absurd h2 (hno m ((hmem m).1 h1))⟩, Ext.refl _⟩
theorem lex_ok (w0 : World) {b : Nat} {nx fr : Graph} {lb : List Nat} (hL : LabAt w0 b nx lb fr) (hok : okG nx) (hn : nx.length ≤ 600) {ao : Option Addr} {ac : Nat} {P : Nat → Prop} (ha : Sl w0 (Old w0) ao ac (boolsN nx.length P)) :
    Rt Try.prog 153 [labP b, .slice ao (boolsN nx.length P).length ac].toArray w0 fun v w' => Own w' w0.heap.size 4 Non v (boolsN nx.length (exP nx fr P)) ∧ Ext w0 w' := by
  refine Rt.enter2 Try.func153 Try.ntmps153 rfl rfl ?_
  (repeat (first | (apply CW.seq) | (apply CW.region)))
  refine WL.boxB rfl rfl rfl fun w1 hb1 e1 => ?_
  skip
  refine WL.boxB rfl rfl rfl fun w2 hb2 e2 => ?_
  have hb1 := hb1.ext e2
  have hE := e1.trans e2
  (repeat (first | (apply WL.pure; rfl; rfl; rfl) | (apply WL.nil) | (apply EX.thenN) | (apply CW.seq) | (apply CW.region) | (apply WL.makeFunc; rfl; rfl; rfl; rfl) | (apply WL.ld; rfl; rfl; rfl; assumption; rfl)))
  refine WL.call rfl rfl rfl (each_ok w2 (P := exP nx fr P) (hL.up hE) hn (fun w n hE2 hn => FnV.mk (f := 192) (lex1 w (hL.up (hE.trans hE2)) hok (hb1.ext hE2) (hb2.ext hE2) (ha.up (hE.trans hE2)) hn))) ?_
  rintro _ w3 ⟨ho, e3⟩
  (repeat (first | (apply WL.pure; rfl; rfl; rfl) | (apply WL.nil) | (apply EX.thenN) | (apply CW.ret)))
  exact EX.ret1 rfl rfl ⟨ho.low hE.size, hE.trans e3⟩
end Go.Proofs.Ytbphcblopoegcaa
