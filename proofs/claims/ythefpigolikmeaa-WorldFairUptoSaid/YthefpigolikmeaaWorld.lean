/-
  Package world: Check, Good, Word: walked.
-/
import Derived.Test.YthefpigolikmeaaWorldPl
import Derived.Test.YthefpigolikmeaaRet
import Derived.Test.YthefpigolikmeaaLib2
import Derived.Test.YthefpigolikmeaaTail
import Derived.Test.YthefpigolikmeaaScc
set_option linter.unusedVariables false
set_option linter.unusedSimpArgs false
namespace Go.Proofs.Ythefpigolikmeaa
open Go.RowKit

theorem wodd1 (n : Nat) (x : Int) (b : Nat) (w : World) (hb : Blk w b 3 [.int .i64 n]) :
    Rt Try.prog 126 [.int .i64 x, .pointer (some ⟨b, 0, none⟩)].toArray w fun v w' => v = .bool (decide (x < 0 ∨ x ≥ n)) ∧ w = w' := by
  refine Rt.enter2 Try.func126 Try.ntmps126 rfl rfl ?_
  (repeat (first | (apply WL.pure; rfl; rfl; rfl) | (apply WL.nil) | (apply EX.thenN) | (apply CW.seq) | (apply CW.region)))
  refine WL.look (s := 6) rfl (fun h => ?_) (fun h => ?_)
  · (repeat (first | (apply WL.pure; rfl; rfl; rfl) | (apply WL.nil) | (apply EX.thenN) | (apply WL.pass; rfl; rfl) | (apply CW.ret)))
    refine EX.ret1 rfl rfl ?_
    simp at h
    simp [h]
  · (repeat (first | (apply WL.pure; rfl; rfl; rfl) | (apply WL.nil) | (apply EX.thenN) | (apply WL.ld; rfl; rfl; rfl; assumption; rfl) | (apply CW.ret)))
    refine EX.ret1 rfl rfl ?_
    simp at h
    simp [Int.not_lt.2 h]
theorem wodd_ok (w0 : World) {lo : Option Addr} {lcap : Nat} {l : List Int} (n : Nat) (hl : Sl w0 (Old w0) lo lcap l) :
    Rt Try.prog 83 [.slice lo l.length lcap, .int .i64 n].toArray w0 fun v w' => v = .bool (oddB n l) ∧ Ext w0 w' := by
  refine Rt.enter2 Try.func83 Try.ntmps83 rfl rfl ?_
  (repeat (first | (apply CW.seq) | (apply CW.region)))
  refine WL.boxB rfl rfl rfl fun w1 hb hE => ?_
  (repeat (first | (apply WL.pure; rfl; rfl; rfl) | (apply WL.nil) | (apply EX.thenN) | (apply CW.seq) | (apply CW.region) | (apply WL.makeFunc; rfl; rfl; rfl; rfl)))
  refine WL.call rfl rfl rfl (containsFunc_int w1 (fun x => decide (x < 0 ∨ x ≥ n)) (hl.up hE) (fun w hw i h => ?_)) ?_
  · refine FnV.mk (Rt.mono (wodd1 n _ _ w (hb.ext hw)) ?_)
    rintro v w' ⟨rfl, rfl⟩
    exact ⟨rfl, Ext.refl _⟩
  · rintro v w' ⟨rfl, hB⟩
    (repeat (first | (apply WL.pure; rfl; rfl; rfl) | (apply WL.nil) | (apply EX.thenN) | (apply CW.ret)))
    exact EX.ret1 rfl rfl ⟨rfl, hE.trans hB⟩
abbrev worldV (a1 : Option Addr) (c1 : Nat) (a2 : Option Addr) (c2 : Nat) (a3 : Option Addr) (c3 : Nat) (a4 : Option Addr) (c4 : Nat) (n1 n2 n3 n4 : Nat) : Value := .agg [.slice a1 n1 c1, .slice a2 n2 c2, .slice a3 n3 c3, .slice a4 n4 c4].toArray
theorem wchk1 (w : World) {lo : Option Addr} {lcap : Nat} {l : List Int} (n : Nat) (b : Nat) (hb : Blk w b 3 [.int .i64 n]) (hl : Sl w (Old w) lo lcap l) :
    Rt Try.prog 84 [.slice lo l.length lcap, .pointer (some ⟨b, 0, none⟩)].toArray w fun v w' => v = .bool (oddB n l) ∧ Ext w w' := by
  refine Rt.enter2 Try.func84 Try.ntmps84 rfl rfl ?_
  (repeat (first | (apply WL.pure; rfl; rfl; rfl) | (apply WL.nil) | (apply EX.thenN) | (apply CW.seq) | (apply CW.region) | (apply WL.ld; rfl; rfl; rfl; assumption; rfl)))
  refine WL.call rfl rfl rfl (wodd_ok w n hl) ?_
  rintro _ w' ⟨rfl, hE⟩
  (repeat (first | (apply WL.pure; rfl; rfl; rfl) | (apply WL.nil) | (apply EX.thenN) | (apply CW.ret)))
  exact EX.ret1 rfl rfl ⟨rfl, hE⟩
theorem wCheck_ok (w0 : World) {a1 a2 a3 a4 : Option Addr} {c1 c2 c3 c4 k : Nat} {st : List Int} {nx fr : List (List Int)} (h1 : Sl w0 (Old w0) a1 c1 st) (h2 : Sl w0 (Old w0) a2 c2 nx) (hk : k ≤ 9223372036854775807) (h4 : Sl w0 (Old w0) a4 c4 fr) :
    Rt Try.prog 42 [worldV a1 c1 a2 c2 a3 c3 a4 c4 st.length nx.length k fr.length].toArray w0 fun v w' => v = .int .i64 (chkWd st nx k fr) ∧ Ext w0 w' := by
  have hm2 := h2.len63
  have hm4 := h4.len63
  refine Rt.enter1 Try.func42 Try.ntmps42 rfl rfl ?_
  (repeat (first | (apply CW.seq) | (apply CW.region)))
  refine WL.boxB rfl rfl rfl fun w1 hb hE1 => ?_
  (repeat (first | (apply WL.pure; rfl; rfl; rfl) | (apply WL.nil) | (apply EX.thenN) | (apply CW.seq) | (apply CW.region) | (apply WL.lenS; rfl; rfl; rfl) | (apply WL.fa; rfl; rfl; rfl) | (apply WL.ld; rfl; rfl; rfl; assumption; rfl)))
  refine WL.alloc rfl rfl (fun w2 hn hE2 => ?_)
  have hb2 := hb.ext hE2
  skip
  refine WL.st rfl rfl rfl hn rfl rfl (ones_of rfl) (fun w3 hn3 hg3 => ?_)
  have hb3 := hb2.kept hg3 (by simp; have := hb.lt; omega)
  have hE3 : Ext w0 w3 := (hE1.trans hE2).grown hg3 (Nat.le_trans hE1.size hE2.size) (fun g hg => by cases hg; exact hE1.size)
  clear hb hn hE1 hE2 hb2 hg3
  (repeat (first | (apply WL.pure; rfl; rfl; rfl) | (apply WL.nil) | (apply EX.thenN) | (apply CW.seq) | (apply CW.region) | (apply WL.ld; rfl; rfl; rfl; assumption; rfl)))
  (refine WL.lookG rfl rfl (fun h => ?_) (fun h => ?_))
  · (repeat (first | (apply WL.pure; rfl; rfl; rfl) | (apply WL.nil) | (apply EX.thenN) | (apply CW.seq) | (apply CW.region) | (apply WL.pass; rfl; rfl) | (apply CW.condT; rfl) | (apply CW.ret) | (apply EX.thenR)))
    refine EX.ret1 rfl rfl ⟨?_, hE3⟩
    have h : nx.length > 600 := by simp at h; omega
    unfold chkWd; rw [if_pos (.inl h)]
  have h : nx.length ≤ 600 := by simp at h; omega
  (repeat (first | (apply WL.pure; rfl; rfl; rfl) | (apply WL.nil) | (apply EX.thenN) | (apply WL.lenS; rfl; rfl; rfl) | (apply WL.fa; rfl; rfl; rfl) | (apply WL.ld; rfl; rfl; rfl; assumption; rfl)))
  refine CW.cond rfl (fun h5 => ?_) (fun h5 => ?_)
  · (repeat (first | (apply WL.pure; rfl; rfl; rfl) | (apply WL.nil) | (apply EX.thenN) | (apply CW.seq) | (apply CW.region) | (apply CW.ret) | (apply EX.thenR)))
    refine EX.ret1 rfl rfl ⟨?_, hE3⟩
    have h5 : fr.length > 80 := by simp at h5; omega
    unfold chkWd; rw [if_pos (.inr h5)]
  have h5 : fr.length ≤ 80 := by simp at h5; omega
  unfold chkWd
  rw [if_neg (by omega)]
  (repeat (first | (apply WL.pure; rfl; rfl; rfl) | (apply EX.thenN) | (apply CW.seq) | (apply CW.region) | (apply WL.lenS; rfl; rfl; rfl) | (apply WL.fa; rfl; rfl; rfl) | (apply WL.ld; rfl; rfl; rfl; assumption; rfl) | (apply CW.skip)))
  (refine WL.lookG rfl rfl (fun h => ?_) (fun h => ?_))
  · (repeat (first | (apply WL.pure; rfl; rfl; rfl) | (apply WL.nil) | (apply EX.thenN) | (apply CW.seq) | (apply CW.region) | (apply WL.pass; rfl; rfl) | (apply CW.condT; rfl) | (apply CW.ret) | (apply EX.thenR)))
    refine EX.ret1 rfl rfl ⟨?_, hE3⟩
    have h6 : k ≠ nx.length := by
      have : ¬ (k : Int) = (nx.length : Int) := by simp at h; omega
      omega
    rw [if_pos (.inl h6)]
  have h6 : k = nx.length := by
    have : (k : Int) = (nx.length : Int) := by simp at h; omega
    omega
  subst h6
  (repeat (first | (apply WL.fa; rfl; rfl; rfl) | (apply WL.ld; rfl; rfl; rfl; assumption; rfl)))
  refine WL.call rfl rfl rfl (wodd_ok w3 nx.length (h1.up hE3)) ?_
  rintro _ w4 ⟨rfl, e4⟩
  have hb4 := hb3.ext e4
  have hn4 := hn3.ext e4
  have hE4 := hE3.trans e4
  (repeat (first | (apply WL.pure; rfl; rfl; rfl) | (apply WL.nil) | (apply EX.thenN)))
  refine CW.cond rfl (fun h7 => ?_) (fun h7 => ?_)
  · (repeat (first | (apply WL.pure; rfl; rfl; rfl) | (apply WL.nil) | (apply EX.thenN) | (apply CW.seq) | (apply CW.region) | (apply CW.ret) | (apply EX.thenR)))
    refine EX.ret1 rfl rfl ⟨?_, hE4⟩
    rw [if_pos (.inr h7)]
  rw [if_neg (by rw [h7]; simp)]
  clear hb3 hn3 hE3 e4
  (repeat (first | (apply WL.pure; rfl; rfl; rfl) | (apply WL.nil) | (apply EX.thenN) | (apply CW.seq) | (apply CW.region) | (apply WL.lenS; rfl; rfl; rfl) | (apply WL.fa; rfl; rfl; rfl) | (apply WL.ld; rfl; rfl; rfl; assumption; rfl) | (apply CW.block) | (apply CW.skip)))
  refine CW.loop (S := Nat) (fun i => [(1, .pointer (some ⟨w0.heap.size, 0, none⟩)), (3, .pointer (some ⟨w1.heap.size, 0, none⟩)), (29, .slice a2 nx.length c2), (30, .int .i64 nx.length), (31, .int .i64 i)])
    (fun i w => i ≤ nx.length ∧ Ext w4 w ∧ ∀ j (h : j < nx.length), j < i → chkN nx.length nx[j] = false) (fun i => nx.length - i) 0 (by repeat (first | exact trivial | refine ⟨rfl, ?_⟩)) ⟨by omega, Ext.refl _, by omega⟩ ?_
  rintro i w5 ⟨hi, e5, hno⟩
  have hb5 := hb4.ext e5
  have hn5 := hn4.ext e5
  have hE5 := hE4.trans e5
  (repeat (first | (apply WL.pure; rfl; rfl; rfl) | (apply WL.nil) | (apply EX.thenN) | (apply CW.seq) | (apply CW.region)))
  refine CW.cond rfl (fun h8 => ?_) (fun h8 => ?_)
  · simp at h8
    (repeat (first | (apply EX.thenN) | (apply CW.seq) | (apply CW.region) | (apply CW.block) | (apply CW.skip)))
    refine WL.elemN rfl rfl rfl rfl rfl (h2.at hE5) h8 (fun _ => rfl) (fun u q hu => ?_)
    obtain ⟨lo, lc, rfl, hl⟩ := hu.sl
    (repeat (first | (apply WL.pure; rfl; rfl; rfl) | (apply WL.nil) | (apply EX.thenN) | (apply CW.seq) | (apply CW.region) | (apply WL.lenS; rfl; rfl; rfl)))
    (refine WL.lookG rfl rfl (fun h => ?_) (fun h => ?_))
    · (repeat (first | (apply WL.pure; rfl; rfl; rfl) | (apply WL.nil) | (apply EX.thenN) | (apply CW.seq) | (apply CW.region) | (apply WL.pass; rfl; rfl) | (apply CW.condT; rfl) | (apply CW.ret) | (apply EX.thenR) | (apply EX.inR)))
      refine EX.ret1 rfl rfl ⟨?_, hE5⟩
      have h9 : nx[i].length = 0 := by simp at h; simp [h]
      rw [if_pos (List.any_eq_true.2 ⟨nx[i], List.getElem_mem h8, by unfold chkN; simp only [Bool.or_eq_true, decide_eq_true_eq]; exact .inl h9⟩)]
    have h9 : nx[i].length ≠ 0 := by simp at h; simpa using h
    (repeat (first | (apply WL.pure; rfl; rfl; rfl) | (apply WL.ld; rfl; rfl; rfl; assumption; rfl)))
    refine WL.call rfl rfl rfl (wodd_ok w5 nx.length (hl.lift fun b hb => Nat.lt_of_lt_of_le hb hE5.size)) ?_
    rintro _ w6 ⟨rfl, e6⟩
    (repeat (first | (apply WL.pure; rfl; rfl; rfl) | (apply WL.nil) | (apply EX.thenN)))
    refine CW.cond rfl (fun ha => ?_) (fun ha => ?_)
    · (repeat (first | (apply WL.pure; rfl; rfl; rfl) | (apply WL.nil) | (apply EX.thenN) | (apply CW.seq) | (apply CW.region) | (apply CW.ret) | (apply EX.thenR) | (apply EX.inR)))
      refine EX.ret1 rfl rfl ⟨?_, hE5.trans e6⟩
      rw [if_pos (List.any_eq_true.2 ⟨nx[i], List.getElem_mem h8, by unfold chkN; rw [ha, Bool.or_true]⟩)]
    · (repeat (first | (apply WL.add; rfl; rfl; rfl; rfl; omega; omega) | (apply WL.pure; rfl; rfl; rfl) | (apply WL.nil) | (apply EX.thenN) | (apply CW.region) | (apply EX.inN) | (apply CW.skip)))
      refine EX.back (i + 1) (by repeat (first | exact trivial | refine ⟨rfl, ?_⟩)) ⟨h8, e5.trans e6, fun j hj hlt => ?_⟩ (by omega)
      by_cases e : j = i
      · subst e; unfold chkN; rw [ha, decide_eq_false h9]; rfl
      · exact hno j hj (by omega)
  simp at h8
  have hany : nx.any (chkN nx.length) = false := by
    rw [List.any_eq_false]
    intro l hl
    obtain ⟨j, hj, rfl⟩ := List.mem_iff_getElem.1 hl
    simp [hno j hj (by omega)]
  rw [if_neg (by rw [hany]; simp)]
  (repeat (first | (apply EX.thenN) | (apply CW.seq) | (apply CW.region) | (apply WL.makeFunc; rfl; rfl; rfl; rfl) | (apply WL.fa; rfl; rfl; rfl) | (apply WL.ld; rfl; rfl; rfl; assumption; rfl) | (apply CW.exit) | (apply EX.thenX) | (apply EX.inX)))
  refine WL.call rfl rfl rfl (containsFunc_ll w5 (oddB nx.length) (h4.up hE5) (fun w hw i hi u hu => ?_)) ?_
  · obtain ⟨lo, lc, rfl, hl⟩ := hu.sl
    exact FnV.mk (Rt.mono (wchk1 w nx.length _ (hn5.ext hw) (hl.lift fun b hb => Nat.lt_of_lt_of_le hb hw.size)) fun v w' h => h)
  rintro _ w6 ⟨rfl, e6⟩
  (repeat (first | (apply WL.nil) | (apply EX.thenN)))
  refine CW.cond rfl (fun ha => ?_) (fun ha => ?_)
  · (repeat (first | (apply WL.pure; rfl; rfl; rfl) | (apply WL.nil) | (apply EX.thenN) | (apply CW.seq) | (apply CW.region) | (apply CW.ret) | (apply EX.thenR)))
    refine EX.ret1 rfl rfl ⟨?_, hE5.trans e6⟩
    rw [if_pos ha]
  · (repeat (first | (apply WL.pure; rfl; rfl; rfl) | (apply WL.nil) | (apply EX.thenN) | (apply CW.seq) | (apply CW.region) | (apply CW.ret) | (apply CW.skip)))
    refine EX.ret1 rfl rfl ⟨?_, hE5.trans e6⟩
    rw [if_neg (by rw [ha]; simp)]
abbrev pathV (so : Option Addr) (sc : Nat) (lo : Option Addr) (lc : Nat) (s l : List Int) : Value := .agg [.slice so s.length sc, .slice lo l.length lc].toArray
theorem getI_at {l : List Int} {j : Nat} (h : j < l.length) : l.getD j 0 = l[j] := by rw [List.getD_eq_getElem?_getD, List.getElem?_eq_getElem h]; rfl
theorem getL_at {l : List (List Int)} {j : Nat} (h : j < l.length) : l.getD j [] = l[j] := by rw [List.getD_eq_getElem?_getD, List.getElem?_eq_getElem h]; rfl
theorem Rd.path {w : World} {F : Nat → Prop} {v : Value} {x : List Int × List Int} (h : Rd w F v x) : ∃ so sc lo lc, v = pathV so sc lo lc x.1 x.2 ∧ Sl w F so sc x.1 ∧ Sl w F lo lc x.2 := by
  obtain ⟨c1, c2, rfl, h1, h2⟩ := h.pr
  obtain ⟨so, sc, rfl, k1⟩ := rd_sl h1
  obtain ⟨lo, lc, rfl, k2⟩ := rd_sl h2
  exact ⟨so, sc, lo, lc, rfl, k1, k2⟩
abbrev LWorld := List Int × List (List Int) × List Nat × List (List Int)
theorem Rd.world {w : World} {F : Nat → Prop} {v : Value} {x : LWorld} (h : Rd w F v x) : ∃ a1 c1 a2 c2 a3 c3 a4 c4, v = worldV a1 c1 a2 c2 a3 c3 a4 c4 x.1.length x.2.1.length x.2.2.1.length x.2.2.2.length ∧ Sl w F a1 c1 x.1 ∧ Sl w F a2 c2 x.2.1 ∧ Sl w F a3 c3 x.2.2.1 ∧ Sl w F a4 c4 x.2.2.2 := by
  obtain ⟨c1, r1, rfl, h1, k1⟩ := h.pr
  obtain ⟨c2, r2, rfl, h2, k2⟩ := rd_pr k1
  obtain ⟨c3, r3, rfl, h3, h4⟩ := rd_pr k2
  obtain ⟨a1, d1, rfl, s1⟩ := rd_sl h1
  obtain ⟨a2, d2, rfl, s2⟩ := rd_sl h2
  obtain ⟨a3, d3, rfl, s3⟩ := rd_sl h3
  obtain ⟨a4, d4, rfl, s4⟩ := rd_sl h4
  exact ⟨a1, d1, a2, d2, a3, d3, a4, d4, rfl, s1, s2, s3, s4⟩
end Go.Proofs.Ythefpigolikmeaa
