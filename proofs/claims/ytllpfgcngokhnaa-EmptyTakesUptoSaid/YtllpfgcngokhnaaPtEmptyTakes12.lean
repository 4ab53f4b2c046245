import Derived.DeepKeys4
import Derived.Maps.Keyed
import Derived.Test.YtllpfgcngokhnaaPtEmptyTakes11
/-
  Package world: Check, Good, Word: walked.
-/
set_option linter.unusedVariables false
set_option linter.unusedSimpArgs false
namespace Go.Proofs.Ytllpfgcngokhnaa
open Go.RowKit

theorem wodd1 (n : Nat) (x : Int) (b : Nat) (w : World) (hb : Blk w b 3 [.int .i64 n]) :
    Rt Try.prog 103 [.int .i64 x, .pointer (some ⟨b, 0, none⟩)].toArray w fun v w' => v = .bool (decide (x < 0 ∨ x ≥ n)) ∧ w = w' := by
  refine Rt.enter2 Try.func103 Try.ntmps103 rfl rfl ?_
  (repeat (first | (apply WL.pure; rfl; rfl; rfl) | (apply WL.nil) | (apply EX.thenN) | (apply CW.seq) | (apply CW.region)))
  refine WL.look (s := 6) rfl (fun h => ?_) (fun h => ?_)
  · (repeat (first | (apply WL.pure; rfl; rfl; rfl) | (apply WL.nil) | (apply EX.thenN) | (apply WL.pass; rfl; rfl) | (apply CW.ret)))
    refine EX.ret1 rfl rfl ?_
    simp at h
    simp [h]
  · (repeat (first | (apply WL.pure; rfl; rfl; rfl) | (apply WL.nil) | (apply EX.thenN) | (apply WL.ld; rfl; rfl; rfl; assumption; rfl) | (apply CW.ret)))
    refine EX.ret1 rfl rfl ?_
    simp at h
    simp [Int.not_lt.2 h]
theorem wodd_ok (w0 : World) {lo : Option Addr} {lcap : Nat} {l : List Int} (n : Nat) (hl : Sl w0 (Old w0) lo lcap l) :
    Rt Try.prog 52 [.slice lo l.length lcap, .int .i64 n].toArray w0 fun v w' => v = .bool (oddB n l) ∧ Ext w0 w' := by
  refine Rt.enter2 Try.func52 Try.ntmps52 rfl rfl ?_
  (repeat (first | (apply CW.seq) | (apply CW.region)))
  refine WL.boxB rfl rfl rfl fun w1 hb hE => ?_
  (repeat (first | (apply WL.pure; rfl; rfl; rfl) | (apply WL.nil) | (apply EX.thenN) | (apply CW.seq) | (apply CW.region) | (apply WL.makeFunc; rfl; rfl; rfl; rfl)))
  refine WL.call rfl rfl rfl (containsFunc_int w1 (fun x => decide (x < 0 ∨ x ≥ n)) (hl.up hE) (fun w hw i h => ?_)) ?_
  · refine FnV.mk (Rt.mono (wodd1 n _ _ w (hb.ext hw)) ?_)
    rintro v w' ⟨rfl, rfl⟩
    exact ⟨rfl, Ext.refl _⟩
  · rintro v w' ⟨rfl, hB⟩
    (repeat (first | (apply WL.pure; rfl; rfl; rfl) | (apply WL.nil) | (apply EX.thenN) | (apply CW.ret)))
    exact EX.ret1 rfl rfl ⟨rfl, hE.trans hB⟩
abbrev worldV (a1 : Option Addr) (c1 : Nat) (a2 : Option Addr) (c2 : Nat) (a3 : Option Addr) (c3 : Nat) (a4 : Option Addr) (c4 : Nat) (n1 n2 n3 n4 : Nat) : Value := .agg [.slice a1 n1 c1, .slice a2 n2 c2, .slice a3 n3 c3, .slice a4 n4 c4].toArray
theorem wchk1 (w : World) {lo : Option Addr} {lcap : Nat} {l : List Int} (n : Nat) (b : Nat) (hb : Blk w b 3 [.int .i64 n]) (hl : Sl w (Old w) lo lcap l) :
    Rt Try.prog 88 [.slice lo l.length lcap, .pointer (some ⟨b, 0, none⟩)].toArray w fun v w' => v = .bool (oddB n l) ∧ Ext w w' := by
  refine Rt.enter2 Try.func88 Try.ntmps88 rfl rfl ?_
  (repeat (first | (apply WL.pure; rfl; rfl; rfl) | (apply WL.nil) | (apply EX.thenN) | (apply CW.seq) | (apply CW.region) | (apply WL.ld; rfl; rfl; rfl; assumption; rfl)))
  refine WL.call rfl rfl rfl (wodd_ok w n hl) ?_
  rintro _ w' ⟨rfl, hE⟩
  (repeat (first | (apply WL.pure; rfl; rfl; rfl) | (apply WL.nil) | (apply EX.thenN) | (apply CW.ret)))
  exact EX.ret1 rfl rfl ⟨rfl, hE⟩
theorem wCheck_ok (w0 : World) {a1 a2 a3 a4 : Option Addr} {c1 c2 c3 c4 k : Nat} {st : List Int} {nx fr : List (List Int)} (h1 : Sl w0 (Old w0) a1 c1 st) (h2 : Sl w0 (Old w0) a2 c2 nx) (hk : k ≤ 9223372036854775807) (h4 : Sl w0 (Old w0) a4 c4 fr) :
    Rt Try.prog 42 [worldV a1 c1 a2 c2 a3 c3 a4 c4 st.length nx.length k fr.length].toArray w0 fun v w' => v = .int .i64 (chkWd st nx k fr) ∧ Ext w0 w' := by
  have hm2 := h2.len63
  have hm4 := h4.len63
  refine Rt.enter1 Try.func42 Try.ntmps42 rfl rfl ?_
  (repeat (first | (apply CW.seq) | (apply CW.region)))
  refine WL.boxB rfl rfl rfl fun w1 hb hE1 => ?_
  (repeat (first | (apply WL.pure; rfl; rfl; rfl) | (apply WL.nil) | (apply EX.thenN) | (apply CW.seq) | (apply CW.region) | (apply WL.lenS; rfl; rfl; rfl) | (apply WL.fa; rfl; rfl; rfl) | (apply WL.ld; rfl; rfl; rfl; assumption; rfl)))
  refine WL.alloc rfl rfl (fun w2 hn hE2 => ?_)
  have hb2 := hb.ext hE2
  skip
  refine WL.st rfl rfl rfl hn rfl rfl (ones_of rfl) (fun w3 hn3 hg3 => ?_)
  have hb3 := hb2.kept hg3 (by simp; have := hb.lt; omega)
  have hE3 : Ext w0 w3 := (hE1.trans hE2).grown hg3 (Nat.le_trans hE1.size hE2.size) (fun g hg => by cases hg; exact hE1.size)
  clear hb hn hE1 hE2 hb2 hg3
  (repeat (first | (apply WL.pure; rfl; rfl; rfl) | (apply WL.nil) | (apply EX.thenN) | (apply CW.seq) | (apply CW.region) | (apply WL.ld; rfl; rfl; rfl; assumption; rfl)))
  (refine WL.lookG rfl rfl (fun h => ?_) (fun h => ?_))
  · (repeat (first | (apply WL.pure; rfl; rfl; rfl) | (apply WL.nil) | (apply EX.thenN) | (apply CW.seq) | (apply CW.region) | (apply WL.pass; rfl; rfl) | (apply CW.condT; rfl) | (apply CW.ret) | (apply EX.thenR)))
    refine EX.ret1 rfl rfl ⟨?_, hE3⟩
    have h : nx.length > 600 := by simp at h; omega
    unfold chkWd; rw [if_pos (.inl h)]
  have h : nx.length ≤ 600 := by simp at h; omega
  (repeat (first | (apply WL.pure; rfl; rfl; rfl) | (apply WL.nil) | (apply EX.thenN) | (apply WL.lenS; rfl; rfl; rfl) | (apply WL.fa; rfl; rfl; rfl) | (apply WL.ld; rfl; rfl; rfl; assumption; rfl)))
  refine CW.cond rfl (fun h5 => ?_) (fun h5 => ?_)
  · (repeat (first | (apply WL.pure; rfl; rfl; rfl) | (apply WL.nil) | (apply EX.thenN) | (apply CW.seq) | (apply CW.region) | (apply CW.ret) | (apply EX.thenR)))
    refine EX.ret1 rfl rfl ⟨?_, hE3⟩
    have h5 : fr.length > 80 := by simp at h5; omega
    unfold chkWd; rw [if_pos (.inr h5)]
  have h5 : fr.length ≤ 80 := by simp at h5; omega
  unfold chkWd
  rw [if_neg (by omega)]
  (repeat (first | (apply WL.pure; rfl; rfl; rfl) | (apply EX.thenN) | (apply CW.seq) | (apply CW.region) | (apply WL.lenS; rfl; rfl; rfl) | (apply WL.fa; rfl; rfl; rfl) | (apply WL.ld; rfl; rfl; rfl; assumption; rfl) | (apply CW.skip)))
  (refine WL.lookG rfl rfl (fun h => ?_) (fun h => ?_))
  · (repeat (first | (apply WL.pure; rfl; rfl; rfl) | (apply WL.nil) | (apply EX.thenN) | (apply CW.seq) | (apply CW.region) | (apply WL.pass; rfl; rfl) | (apply CW.condT; rfl) | (apply CW.ret) | (apply EX.thenR)))
    refine EX.ret1 rfl rfl ⟨?_, hE3⟩
    have h6 : k ≠ nx.length := by
      have : ¬ (k : Int) = (nx.length : Int) := by simp at h; omega
      omega
    rw [if_pos (.inl h6)]
  have h6 : k = nx.length := by
    have : (k : Int) = (nx.length : Int) := by simp at h; omega
    omega
  subst h6
  (repeat (first | (apply WL.fa; rfl; rfl; rfl) | (apply WL.ld; rfl; rfl; rfl; assumption; rfl)))
  refine WL.call rfl rfl rfl (wodd_ok w3 nx.length (h1.up hE3)) ?_
  rintro _ w4 ⟨rfl, e4⟩
  have hb4 := hb3.ext e4
  have hn4 := hn3.ext e4
  have hE4 := hE3.trans e4
  (repeat (first | (apply WL.pure; rfl; rfl; rfl) | (apply WL.nil) | (apply EX.thenN)))
  refine CW.cond rfl (fun h7 => ?_) (fun h7 => ?_)
  · (repeat (first | (apply WL.pure; rfl; rfl; rfl) | (apply WL.nil) | (apply EX.thenN) | (apply CW.seq) | (apply CW.region) | (apply CW.ret) | (apply EX.thenR)))
    refine EX.ret1 rfl rfl ⟨?_, hE4⟩
    rw [if_pos (.inr h7)]
  rw [if_neg (by rw [h7]; simp)]
  clear hb3 hn3 hE3 e4
  (repeat (first | (apply WL.pure; rfl; rfl; rfl) | (apply WL.nil) | (apply EX.thenN) | (apply CW.seq) | (apply CW.region) | (apply WL.lenS; rfl; rfl; rfl) | (apply WL.fa; rfl; rfl; rfl) | (apply WL.ld; rfl; rfl; rfl; assumption; rfl) | (apply CW.block) | (apply CW.skip)))
  refine CW.loop (S := Nat) (fun i => [(1, .pointer (some ⟨w0.heap.size, 0, none⟩)), (3, .pointer (some ⟨w1.heap.size, 0, none⟩)), (29, .slice a2 nx.length c2), (30, .int .i64 nx.length), (31, .int .i64 i)])
    (fun i w => i ≤ nx.length ∧ Ext w4 w ∧ ∀ j (h : j < nx.length), j < i → chkN nx.length nx[j] = false) (fun i => nx.length - i) 0 (by repeat (first | exact trivial | refine ⟨rfl, ?_⟩)) ⟨by omega, Ext.refl _, by omega⟩ ?_
  rintro i w5 ⟨hi, e5, hno⟩
  have hb5 := hb4.ext e5
  have hn5 := hn4.ext e5
  have hE5 := hE4.trans e5
  (repeat (first | (apply WL.pure; rfl; rfl; rfl) | (apply WL.nil) | (apply EX.thenN) | (apply CW.seq) | (apply CW.region)))
  refine CW.cond rfl (fun h8 => ?_) (fun h8 => ?_)
  · simp at h8
    (repeat (first | (apply EX.thenN) | (apply CW.seq) | (apply CW.region) | (apply CW.block) | (apply CW.skip)))
    refine WL.elemN rfl rfl rfl rfl rfl (h2.at hE5) h8 (fun _ => rfl) (fun u q hu => ?_)
    obtain ⟨lo, lc, rfl, hl⟩ := hu.sl
    (repeat (first | (apply WL.pure; rfl; rfl; rfl) | (apply WL.nil) | (apply EX.thenN) | (apply CW.seq) | (apply CW.region) | (apply WL.lenS; rfl; rfl; rfl)))
    (refine WL.lookG rfl rfl (fun h => ?_) (fun h => ?_))
    · (repeat (first | (apply WL.pure; rfl; rfl; rfl) | (apply WL.nil) | (apply EX.thenN) | (apply CW.seq) | (apply CW.region) | (apply WL.pass; rfl; rfl) | (apply CW.condT; rfl) | (apply CW.ret) | (apply EX.thenR) | (apply EX.inR)))
      refine EX.ret1 rfl rfl ⟨?_, hE5⟩
      have h9 : nx[i].length = 0 := by simp at h; simp [h]
      rw [if_pos (List.any_eq_true.2 ⟨nx[i], List.getElem_mem h8, by unfold chkN; simp only [Bool.or_eq_true, decide_eq_true_eq]; exact .inl h9⟩)]
    have h9 : nx[i].length ≠ 0 := by simp at h; simpa using h
    (repeat (first | (apply WL.pure; rfl; rfl; rfl) | (apply WL.ld; rfl; rfl; rfl; assumption; rfl)))
    refine WL.call rfl rfl rfl (wodd_ok w5 nx.length (hl.lift fun b hb => Nat.lt_of_lt_of_le hb hE5.size)) ?_
    rintro _ w6 ⟨rfl, e6⟩
    (repeat (first | (apply WL.pure; rfl; rfl; rfl) | (apply WL.nil) | (apply EX.thenN)))
    refine CW.cond rfl (fun ha => ?_) (fun ha => ?_)
    · (repeat (first | (apply WL.pure; rfl; rfl; rfl) | (apply WL.nil) | (apply EX.thenN) | (apply CW.seq) | (apply CW.region) | (apply CW.ret) | (apply EX.thenR) | (apply EX.inR)))
      refine EX.ret1 rfl rfl ⟨?_, hE5.trans e6⟩
      rw [if_pos (List.any_eq_true.2 ⟨nx[i], List.getElem_mem h8, by unfold chkN; rw [ha, Bool.or_true]⟩)]
    · (repeat (first | (apply WL.add; rfl; rfl; rfl; rfl; omega; omega) | (apply WL.pure; rfl; rfl; rfl) | (apply WL.nil) | (apply EX.thenN) | (apply CW.region) | (apply EX.inN) | (apply CW.skip)))
      refine EX.back (i + 1) (by repeat (first | exact trivial | refine ⟨rfl, ?_⟩)) ⟨h8, e5.trans e6, fun j hj hlt => ?_⟩ (by omega)
      by_cases e : j = i
      · subst e; unfold chkN; rw [ha, decide_eq_false h9]; rfl
      · exact hno j hj (by omega)
  simp at h8
  have hany : nx.any (chkN nx.length) = false := by
    rw [List.any_eq_false]
    intro l hl
    obtain ⟨j, hj, rfl⟩ := List.mem_iff_getElem.1 hl
    simp [hno j hj (by omega)]
  rw [if_neg (by rw [hany]; simp)]
  (repeat (first | (apply EX.thenN) | (apply CW.seq) | (apply CW.region) | (apply WL.makeFunc; rfl; rfl; rfl; rfl) | (apply WL.fa; rfl; rfl; rfl) | (apply WL.ld; rfl; rfl; rfl; assumption; rfl) | (apply CW.exit) | (apply EX.thenX) | (apply EX.inX)))
  refine WL.call rfl rfl rfl (containsFunc_ll w5 (oddB nx.length) (h4.up hE5) (fun w hw i hi u hu => ?_)) ?_
  · obtain ⟨lo, lc, rfl, hl⟩ := hu.sl
    exact FnV.mk (Rt.mono (wchk1 w nx.length _ (hn5.ext hw) (hl.lift fun b hb => Nat.lt_of_lt_of_le hb hw.size)) fun v w' h => h)
  rintro _ w6 ⟨rfl, e6⟩
  (repeat (first | (apply WL.nil) | (apply EX.thenN)))
  refine CW.cond rfl (fun ha => ?_) (fun ha => ?_)
  · (repeat (first | (apply WL.pure; rfl; rfl; rfl) | (apply WL.nil) | (apply EX.thenN) | (apply CW.seq) | (apply CW.region) | (apply CW.ret) | (apply EX.thenR)))
    refine EX.ret1 rfl rfl ⟨?_, hE5.trans e6⟩
    rw [if_pos ha]
  · (repeat (first | (apply WL.pure; rfl; rfl; rfl) | (apply WL.nil) | (apply EX.thenN) | (apply CW.seq) | (apply CW.region) | (apply CW.ret) | (apply CW.skip)))
    refine EX.ret1 rfl rfl ⟨?_, hE5.trans e6⟩
    rw [if_neg (by rw [ha]; simp)]
abbrev pathV (so : Option Addr) (sc : Nat) (lo : Option Addr) (lc : Nat) (s l : List Int) : Value := .agg [.slice so s.length sc, .slice lo l.length lc].toArray
theorem getI_at {l : List Int} {j : Nat} (h : j < l.length) : l.getD j 0 = l[j] := by rw [List.getD_eq_getElem?_getD, List.getElem?_eq_getElem h]; rfl
theorem getL_at {l : List (List Int)} {j : Nat} (h : j < l.length) : l.getD j [] = l[j] := by rw [List.getD_eq_getElem?_getD, List.getElem?_eq_getElem h]; rfl
theorem Rd.path {w : World} {F : Nat → Prop} {v : Value} {x : List Int × List Int} (h : Rd w F v x) : ∃ so sc lo lc, v = pathV so sc lo lc x.1 x.2 ∧ Sl w F so sc x.1 ∧ Sl w F lo lc x.2 := by
  obtain ⟨c1, c2, rfl, h1, h2⟩ := h.pr
  obtain ⟨so, sc, rfl, k1⟩ := rd_sl h1
  obtain ⟨lo, lc, rfl, k2⟩ := rd_sl h2
  exact ⟨so, sc, lo, lc, rfl, k1, k2⟩
abbrev LWorld := List Int × List (List Int) × List Nat × List (List Int)
theorem Rd.world {w : World} {F : Nat → Prop} {v : Value} {x : LWorld} (h : Rd w F v x) : ∃ a1 c1 a2 c2 a3 c3 a4 c4, v = worldV a1 c1 a2 c2 a3 c3 a4 c4 x.1.length x.2.1.length x.2.2.1.length x.2.2.2.length ∧ Sl w F a1 c1 x.1 ∧ Sl w F a2 c2 x.2.1 ∧ Sl w F a3 c3 x.2.2.1 ∧ Sl w F a4 c4 x.2.2.2 := by
  obtain ⟨c1, r1, rfl, h1, k1⟩ := h.pr
  obtain ⟨c2, r2, rfl, h2, k2⟩ := rd_pr k1
  obtain ⟨c3, r3, rfl, h3, h4⟩ := rd_pr k2
  obtain ⟨a1, d1, rfl, s1⟩ := rd_sl h1
  obtain ⟨a2, d2, rfl, s2⟩ := rd_sl h2
  obtain ⟨a3, d3, rfl, s3⟩ := rd_sl h3
  obtain ⟨a4, d4, rfl, s4⟩ := rd_sl h4
  exact ⟨a1, d1, a2, d2, a3, d3, a4, d4, rfl, s1, s2, s3, s4⟩
theorem wgood1 (w : World) (x : Int) (b : Nat) {so lo : Option Addr} {sc lc k : Nat} {l : List Int} (hb : Blk w b 30 [.slice so k sc, .slice lo l.length lc]) (hl : Sl w (Old w) lo lc l) :
    Rt Try.prog 55 [.int .i64 x, .pointer (some ⟨b, 0, none⟩)].toArray w fun v w' => v = .bool (l.contains x) ∧ Ext w w' := by
  refine Rt.enter2 Try.func55 Try.ntmps55 rfl rfl ?_
  (repeat (first | (apply WL.pure; rfl; rfl; rfl) | (apply WL.nil) | (apply EX.thenN) | (apply CW.seq) | (apply CW.region) | (apply WL.fa; rfl; rfl; rfl) | (apply WL.ld; rfl; rfl; rfl; assumption; rfl)))
  refine WL.call rfl rfl rfl (contains_int w x hl) ?_
  rintro _ w' ⟨rfl, hE⟩
  (repeat (first | (apply WL.pure; rfl; rfl; rfl) | (apply WL.nil) | (apply EX.thenN) | (apply CW.ret)))
  exact EX.ret1 rfl rfl ⟨rfl, hE⟩
theorem Good_ok (w0 : World) {a1 a2 a3 a4 so lo : Option Addr} {c1 c2 c3 c4 k sc lc : Nat} {st s l : List Int} {nx fr : List (List Int)} (h1 : Sl w0 (Old w0) a1 c1 st) (h2 : Sl w0 (Old w0) a2 c2 nx) (hk : k ≤ 9223372036854775807) (h4 : Sl w0 (Old w0) a4 c4 fr)
    (hs : Sl w0 (Old w0) so sc s) (hl : Sl w0 (Old w0) lo lc l) :
    Rt Try.prog 14 [worldV a1 c1 a2 c2 a3 c3 a4 c4 st.length nx.length k fr.length, pathV so sc lo lc s l].toArray w0 fun v w' => v = .tuple ⟨[.bool (goodF st nx k fr s l).1, .int .i64 (goodF st nx k fr s l).2]⟩ ∧ Ext w0 w' := by
  have hms := hs.len63
  have hml := hl.len63
  refine Rt.enter2 Try.func14 Try.ntmps14 rfl rfl ?_
  (repeat (first | (apply CW.seq) | (apply CW.region)))
  refine WL.boxB rfl rfl rfl fun w1 hw hE1 => ?_
  skip
  refine WL.boxB rfl rfl rfl fun w2 hp hE2 => ?_
  have hw2 := hw.ext hE2
  have hE2 := hE1.trans hE2
  (repeat (first | (apply WL.pure; rfl; rfl; rfl) | (apply WL.nil) | (apply EX.thenN) | (apply CW.seq) | (apply CW.region) | (apply WL.ldA; rfl; rfl; rfl; assumption; rfl)))
  refine WL.call rfl rfl rfl (wCheck_ok w2 (h1.up hE2) (h2.up hE2) hk (h4.up hE2)) ?_
  rintro _ w3 ⟨rfl, e3⟩
  have hw3 := hw2.ext e3
  have hp3 := hp.ext e3
  have hE3 := hE2.trans e3
  clear hw hp hw2 hE1 hE2 e3
  unfold goodF
  (repeat (first | (apply WL.pure; rfl; rfl; rfl) | (apply WL.nil) | (apply EX.thenN) | (apply CW.seq) | (apply CW.region)))
  refine CW.cond rfl (fun h => ?_) (fun h => ?_)
  · have h : chkWd st nx k fr ≠ 0 := by simpa using h
    rw [if_pos h]
    (repeat (first | (apply WL.pure; rfl; rfl; rfl) | (apply WL.nil) | (apply EX.thenN) | (apply CW.seq) | (apply CW.region) | (apply CW.ret) | (apply EX.thenR)))
    exact EX.ret2 rfl rfl rfl ⟨rfl, hE3⟩
  have h : chkWd st nx k fr = 0 := by simpa using h
  rw [if_neg (by simp [h])]
  obtain ⟨hn600, hf80, hkn, hokst, hoknx, hokfr⟩ := chkWd_ok h
  clear h
  (repeat (first | (apply WL.pure; rfl; rfl; rfl) | (apply EX.thenN) | (apply CW.seq) | (apply CW.region) | (apply WL.lenS; rfl; rfl; rfl) | (apply WL.fa; rfl; rfl; rfl) | (apply WL.ld; rfl; rfl; rfl; assumption; rfl) | (apply CW.skip)))
  (refine WL.lookG rfl rfl (fun h => ?_) (fun h => ?_))
  · (repeat (first | (apply WL.pure; rfl; rfl; rfl) | (apply WL.nil) | (apply EX.thenN) | (apply CW.seq) | (apply CW.region) | (apply WL.pass; rfl; rfl) | (apply CW.condT; rfl) | (apply CW.ret) | (apply EX.thenR)))
    refine EX.ret2 rfl rfl rfl ⟨?_, hE3⟩
    have h : s.length > 60000 := by simp at h; omega
    rw [if_pos (.inl h)]
  have h : s.length ≤ 60000 := by simp at h; omega
  (repeat (first | (apply WL.sub'; rfl; rfl; rfl; rfl; omega; omega) | (apply WL.pure; rfl; rfl; rfl) | (apply WL.nil) | (apply EX.thenN) | (apply WL.lenS; rfl; rfl; rfl) | (apply WL.fa; rfl; rfl; rfl) | (apply WL.ld; rfl; rfl; rfl; assumption; rfl)))
  refine CW.cond rfl (fun h5 => ?_) (fun h5 => ?_)
  · (repeat (first | (apply WL.pure; rfl; rfl; rfl) | (apply WL.nil) | (apply EX.thenN) | (apply CW.seq) | (apply CW.region) | (apply CW.ret) | (apply EX.thenR)))
    refine EX.ret2 rfl rfl rfl ⟨?_, hE3⟩
    have h5 : l.length > 60000 - s.length := by simp at h5; omega
    rw [if_pos (.inr h5)]
  have h5 : l.length ≤ 60000 - s.length := by simp at h5; omega
  rw [if_neg (by omega)]
  (repeat (first | (apply WL.pure; rfl; rfl; rfl) | (apply EX.thenN) | (apply CW.seq) | (apply CW.region) | (apply WL.lenS; rfl; rfl; rfl) | (apply WL.fa; rfl; rfl; rfl) | (apply WL.ld; rfl; rfl; rfl; assumption; rfl) | (apply CW.skip)))
  (refine WL.lookG rfl rfl (fun h => ?_) (fun h => ?_))
  · (repeat (first | (apply WL.pure; rfl; rfl; rfl) | (apply WL.nil) | (apply EX.thenN) | (apply CW.seq) | (apply CW.region) | (apply WL.pass; rfl; rfl) | (apply CW.condT; rfl) | (apply CW.ret) | (apply EX.thenR)))
    refine EX.ret2 rfl rfl rfl ⟨?_, hE3⟩
    have h6 : l.length = 0 := by simp at h; simp [h]
    rw [if_pos (.inl h6)]
  have h6 : l.length ≠ 0 := by simp at h; simpa using h
  (repeat (first | (apply WL.lenS; rfl; rfl; rfl) | (apply WL.fa; rfl; rfl; rfl) | (apply WL.ld; rfl; rfl; rfl; assumption; rfl)))
  refine WL.call rfl rfl rfl (wodd_ok w3 nx.length (hs.up hE3)) ?_
  rintro _ w4 ⟨rfl, e4⟩
  have hw4 := hw3.ext e4
  have hp4 := hp3.ext e4
  have hE4 := hE3.trans e4
  clear hw3 hp3 hE3 e4
  (repeat (apply WL.pure; rfl; rfl; rfl))
  (refine WL.lookG rfl rfl (fun h => ?_) (fun h => ?_))
  · have h7 := h
    (repeat (first | (apply WL.pure; rfl; rfl; rfl) | (apply WL.nil) | (apply EX.thenN) | (apply CW.seq) | (apply CW.region) | (apply WL.pass; rfl; rfl) | (apply CW.condT; rfl) | (apply CW.ret) | (apply EX.thenR)))
    refine EX.ret2 rfl rfl rfl ⟨?_, hE4⟩
    rw [if_pos (.inr (.inl h7))]
  have h7 := h
  clear h
  (repeat (first | (apply WL.lenS; rfl; rfl; rfl) | (apply WL.fa; rfl; rfl; rfl) | (apply WL.ld; rfl; rfl; rfl; assumption; rfl)))
  refine WL.call rfl rfl rfl (wodd_ok w4 nx.length (hl.up hE4)) ?_
  rintro _ w5 ⟨rfl, e5⟩
  have hw5 := hw4.ext e5
  have hp5 := hp4.ext e5
  have hE5 := hE4.trans e5
  clear hw4 hp4 hE4 e5
  (repeat (first | (apply WL.pure; rfl; rfl; rfl) | (apply WL.nil) | (apply EX.thenN)))
  refine CW.cond rfl (fun h8 => ?_) (fun h8 => ?_)
  · (repeat (first | (apply WL.pure; rfl; rfl; rfl) | (apply WL.nil) | (apply EX.thenN) | (apply CW.seq) | (apply CW.region) | (apply CW.ret) | (apply EX.thenR)))
    refine EX.ret2 rfl rfl rfl ⟨?_, hE5⟩
    rw [if_pos (.inr (.inr h8))]
  rw [if_neg (by rw [h7, h8]; simp [h6])]
  have hoks := oddB_false.1 h7
  have hokl := oddB_false.1 h8
  clear h7 h8
  (repeat (first | (apply EX.thenN) | (apply CW.seq) | (apply CW.skip)))
  have hSE : ∀ w3, (fun x => Ext w5 x) w3 → Ext w5 w3 := fun _ h => h
  refine CW.drawH (fun x => Ext w5 x) [(0, true), (1, true), (3, true), (4, true), (2, false), (5, false), (6, true)] mixed (by kernel_rfl) (Ext.drew w5) ?_
  (repeat (first | (refine HL.fa rfl rfl rfl rfl ?_) | (refine HL.ld (by assumption) rfl rfl rfl rfl (by assumption) rfl ?_)))
  have hd : Ext w0 (drew w5) := hE5.trans (Ext.drew w5)
  refine HL.mut rfl (WL.call rfl rfl rfl (clone_int (drew w5) (hs.up hd) (by omega)) ?_)
  rintro cV w6 ⟨hoc, hE6⟩
  have hT6 : Ext w5 w6 := (Ext.drew w5).trans hE6
  refine WL.nil (EX.mut hT6 ?_)
  have hd6 := hE5.trans hT6
  refine HL.mut rfl (WL.app (F := Non) rfl rfl rfl rfl hoc (hl.up hd6).srcN hE6.size (fun _ h => h.elim) (by unfold maxLen; omega) (by show _ * 8 ≤ _; omega) (fun v' w7 ho7 hg7 _ => ?_))
  have hT7 : Ext w5 w7 := hT6.grown hg7 hT6.size (fun g hg => Nat.le_trans (Ext.drew w5).size (hoc.lt g hg).1)
  refine WL.nil (EX.mut hT7 ?_)
  (repeat (first | (apply HL.pure; rfl; rfl; rfl; rfl) | (apply HL.nil)))
  have hE7 := hE5.trans hT7
  have hw7 := hw5.ext hT7
  have hp7 := hp5.ext hT7
  clear hw5 hp5 hoc hE6 hT6 hd6 hd hg7 hSE
  obtain ⟨ao, ac, rfl, hall⟩ := ho7.oldN.sl
  clear ho7
  have hallen : (s ++ l).length ≤ 60000 ∧ 0 < (s ++ l).length := by rw [List.length_append]; omega
  have hokal : okL nx.length (s ++ l) := fun x hx => (List.mem_append.1 hx).elim (hoks x) (hokl x)
  generalize s ++ l = al at *
  unfold goodB
  (repeat (first | (apply QL.pure; rfl; rfl; rfl) | (apply EX.thenN) | (apply CW.seq) | (apply QL.fa; rfl; rfl; rfl) | (apply QL.ld; rfl; rfl; rfl; assumption; rfl) | (apply CW.draw; exact mixed; kernel_rfl)))
  refine QL.elem rfl rfl rfl rfl rfl (fun _ h => h) hall (by omega) (by show (0 : Int) < al.length; omega) (fun _ => rfl) (fun u q hu => ?_)
  have e0 : al[(0 : Int).toNat]'(by simpa using hallen.2) = al.getD 0 0 := (getI_at hallen.2).symm
  rw [e0] at hu
  obtain rfl := hu.int
  clear e0
  skip
  refine QL.call rfl rfl rfl (fun w hE => contains_int w (al.getD 0 0) (h1.up (hE7.trans hE))) ?_
  (repeat (apply QL.pure; rfl; rfl; rfl))
  refine QL.nil (fun w8 e8 => ?_)
  have hw8 := hw7.ext e8
  have hp8 := hp7.ext e8
  have hE8 := hE7.trans e8
  have hall := hall.up e8
  clear hw7 hp7 hE7 e8
  (repeat (apply EX.thenN))
  refine CW.cond rfl (fun h => ?_) (fun h => ?_)
  · (repeat (first | (apply WL.pure; rfl; rfl; rfl) | (apply WL.nil) | (apply EX.thenN) | (apply CW.seq) | (apply CW.region) | (apply CW.ret) | (apply EX.thenR)))
    refine EX.ret2 rfl rfl rfl ⟨?_, hE8⟩
    have h : st.contains (al.getD 0 0) = false := by simpa only [Bool.not_eq_true', Bool.not_eq_true] using h
    rw [h, Bool.false_and, Bool.false_and]
  have h : st.contains (al.getD 0 0) = true := by simpa only [Bool.not_eq_false', Bool.not_eq_false] using h
  rw [h, Bool.true_and]
  clear h
  have hl0 : 0 < l.length := by omega
  (repeat (first | (apply WL.pure; rfl; rfl; rfl) | (apply WL.nil) | (apply EX.thenN) | (apply CW.seq) | (apply CW.region) | (apply WL.lenS; rfl; rfl; rfl) | (apply CW.block) | (apply CW.skip)))
  refine CW.loop (S := Nat) (fun i => [(2, .pointer (some ⟨w0.heap.size, 0, none⟩)), (3, .pointer (some ⟨w1.heap.size, 0, none⟩)), (7, .slice ao al.length ac), (65, .slice ao al.length ac), (66, .int .i64 al.length), (67, .int .i64 i)])
    (fun i w => i ≤ al.length ∧ Ext w8 w ∧ ∀ j, j < i → stepB nx al l j = true) (fun i => al.length - i) 0 (by repeat (first | exact trivial | refine ⟨rfl, ?_⟩)) ⟨by omega, Ext.refl _, by omega⟩ ?_
  rintro i w9 ⟨hi, e9, hno⟩
  have hw9 := hw8.ext e9
  have hp9 := hp8.ext e9
  have hE9 := hE8.trans e9
  (repeat (first | (apply WL.pure; rfl; rfl; rfl) | (apply WL.nil) | (apply EX.thenN) | (apply CW.seq) | (apply CW.region)))
  refine CW.cond rfl (fun h8 => ?_) (fun h8 => ?_)
  · simp at h8
    (repeat (first | (apply WL.pure; rfl; rfl; rfl) | (apply EX.thenN) | (apply CW.seq) | (apply CW.region) | (apply CW.block) | (apply CW.skip)))
    refine WL.elemI rfl rfl rfl rfl rfl (hall.up e9) h8 rfl (fun _ => rfl) (fun q => ?_)
    (repeat (first | (apply WL.pure; rfl; rfl; rfl) | (apply WL.nil) | (apply EX.thenN) | (apply CW.seq) | (apply CW.region) | (apply WL.fa; rfl; rfl; rfl) | (apply WL.ld; rfl; rfl; rfl; assumption; rfl)))
    refine WL.elem rfl rfl rfl rfl rfl (hl.up hE9) (by omega) (by show (0 : Int) < l.length; omega) (fun _ => rfl) (fun u q hu => ?_)
    have e0 : l[(0 : Int).toNat]'(by simpa using hl0) = l.getD 0 0 := (getI_at hl0).symm
    rw [e0] at hu
    obtain rfl := hu.int
    (repeat (apply WL.pure; rfl; rfl; rfl))
    apply WL.nil
    apply EX.thenN
    refine CW.cut [(2, .pointer (some ⟨w0.heap.size, 0, none⟩)), (3, .pointer (some ⟨w1.heap.size, 0, none⟩)), (7, .slice ao al.length ac), (8, .int .i64 i), (9, .int .i64 al[i]), (10, .int .i64 (toPw al l i)), (65, .slice ao al.length ac), (66, .int .i64 al.length), (67, .int .i64 i)] ?_ ?_
    · (repeat (first | (apply WL.add; rfl; rfl; rfl; rfl; omega; omega) | (apply WL.pure; rfl; rfl; rfl) | (apply WL.nil) | (apply EX.thenN) | (apply CW.seq) | (apply CW.region) | (apply WL.lenS; rfl; rfl; rfl)))
      refine CW.cond rfl (fun h9 => ?_) (fun h9 => ?_)
      · have h9 : i + 1 < al.length := by simp at h9; omega
        have et : toPw al l i = al[i + 1] := by unfold toPw; rw [if_pos h9, getI_at h9]
        rw [et]
        (repeat (first | (apply WL.add; rfl; rfl; rfl; rfl; omega; omega) | (apply WL.pure; rfl; rfl; rfl) | (apply CW.region)))
        refine WL.elem rfl rfl rfl rfl rfl (hall.up e9) (by omega) (by omega) (fun _ => rfl) (fun u q hu => ?_)
        have ei : ((i : Int) + 1).toNat = i + 1 := by omega
        simp only [ei] at hu
        obtain rfl := hu.int
        (repeat (apply WL.pure; rfl; rfl; rfl))
        exact WL.nil (EX.cut (by repeat (first | exact trivial | refine ⟨rfl, ?_⟩)))
      · have h9 : ¬ i + 1 < al.length := by simp at h9; omega
        have et : toPw al l i = l.getD 0 0 := by unfold toPw; rw [if_neg h9]
        rw [et]
        exact CW.skip (EX.cut (by repeat (first | exact trivial | refine ⟨rfl, ?_⟩)))
    have hai := hokal al[i] (List.getElem_mem h8)
    (repeat (first | (apply WL.pure; rfl; rfl; rfl) | (apply CW.seq) | (apply CW.region) | (apply WL.fa; rfl; rfl; rfl) | (apply WL.ld; rfl; rfl; rfl; assumption; rfl)))
    refine WL.elem rfl rfl rfl rfl rfl (h2.up hE9) hai.1 hai.2 (fun _ => rfl) (fun u q hu => ?_)
    obtain ⟨no, nc, rfl, hn⟩ := hu.sl
    (repeat (apply WL.pure; rfl; rfl; rfl))
    refine WL.call rfl rfl rfl (contains_int w9 (toPw al l i) hn) ?_
    rintro _ w10 ⟨rfl, e10⟩
    have est : stepB nx al l i = (nx[(al[i]).toNat]'(by omega)).contains (toPw al l i) := by unfold stepB; rw [getI_at h8, getL_at (show (al[i]).toNat < nx.length by omega)]
    rw [← est]
    (repeat (first | (apply WL.pure; rfl; rfl; rfl) | (apply WL.nil) | (apply EX.thenN)))
    refine CW.cond rfl (fun h9 => ?_) (fun h9 => ?_)
    · have h9 : stepB nx al l i = false := by simpa only [Bool.not_eq_true', Bool.not_eq_true] using h9
      (repeat (first | (apply WL.pure; rfl; rfl; rfl) | (apply WL.nil) | (apply EX.thenN) | (apply CW.seq) | (apply CW.region) | (apply CW.ret) | (apply EX.thenR) | (apply EX.inR)))
      refine EX.ret2 rfl rfl rfl ⟨?_, hE9.trans e10⟩
      have : (List.range al.length).all (stepB nx al l) = false := by
        rw [List.all_eq_false]
        exact ⟨i, List.mem_range.2 h8, by rw [h9]; simp⟩
      rw [this, Bool.false_and]
    · have h9 : stepB nx al l i = true := by simpa only [Bool.not_eq_false', Bool.not_eq_false] using h9
      (repeat (first | (apply WL.add; rfl; rfl; rfl; rfl; omega; omega) | (apply WL.pure; rfl; rfl; rfl) | (apply WL.nil) | (apply EX.thenN) | (apply CW.region) | (apply EX.inN) | (apply CW.skip)))
      refine EX.back (i + 1) (by repeat (first | exact trivial | refine ⟨rfl, ?_⟩)) ⟨h8, e9.trans e10, fun j hlt => ?_⟩ (by omega)
      by_cases e : j = i
      · subst e; exact h9
      · exact hno j (by omega)
  simp at h8
  have hst : (List.range al.length).all (stepB nx al l) = true := by
    rw [List.all_eq_true]
    exact fun j hj => hno j (by have := List.mem_range.1 hj; omega)
  rw [hst, Bool.true_and]
  clear hst hno h8 hw8 hp8 hall hokal hallen
  (repeat (first | (apply WL.pure; rfl; rfl; rfl) | (apply WL.nil) | (apply EX.thenN) | (apply CW.seq) | (apply CW.region) | (apply WL.lenS; rfl; rfl; rfl) | (apply WL.fa; rfl; rfl; rfl) | (apply WL.ld; rfl; rfl; rfl; assumption; rfl) | (apply CW.block) | (apply CW.exit) | (apply EX.thenX) | (apply EX.inX)))
  refine CW.loop (S := Nat) (fun i => [(2, .pointer (some ⟨w0.heap.size, 0, none⟩)), (3, .pointer (some ⟨w1.heap.size, 0, none⟩)), (96, .slice a4 fr.length c4), (97, .int .i64 fr.length), (98, .int .i64 i)])
    (fun i w => i ≤ fr.length ∧ Ext w9 w ∧ ∀ j (h : j < fr.length), j < i → fr[j].any (fun x => l.contains x) = true) (fun i => fr.length - i) 0 (by repeat (first | exact trivial | refine ⟨rfl, ?_⟩)) ⟨by omega, Ext.refl _, by omega⟩ ?_
  rintro m w10 ⟨hm, e10, hno⟩
  have hp10 := hp9.ext e10
  have hE10 := hE9.trans e10
  (repeat (first | (apply WL.pure; rfl; rfl; rfl) | (apply WL.nil) | (apply EX.thenN) | (apply CW.seq) | (apply CW.region)))
  refine CW.cond rfl (fun h8 => ?_) (fun h8 => ?_)
  · simp at h8
    (repeat (first | (apply EX.thenN) | (apply CW.seq) | (apply CW.region) | (apply CW.block) | (apply CW.skip)))
    refine WL.elemN rfl rfl rfl rfl rfl (h4.up hE10) h8 (fun _ => rfl) (fun u q hu => ?_)
    obtain ⟨fo, fc, rfl, hf⟩ := hu.sl
    (repeat (first | (apply WL.pure; rfl; rfl; rfl) | (apply WL.nil) | (apply EX.thenN) | (apply CW.seq) | (apply CW.region) | (apply WL.makeFunc; rfl; rfl; rfl; rfl)))
    refine WL.call rfl rfl rfl (containsFunc_int w10 (fun x => l.contains x) hf (fun w hw i hi => ?_)) ?_
    · exact FnV.mk (wgood1 w _ _ (hp10.ext hw) (hl.up (hE10.trans hw)))
    rintro _ w11 ⟨rfl, e11⟩
    (repeat (first | (apply WL.pure; rfl; rfl; rfl) | (apply WL.nil) | (apply EX.thenN)))
    refine CW.cond rfl (fun h9 => ?_) (fun h9 => ?_)
    · have h9 : fr[m].any (fun x => l.contains x) = false := by simpa only [Bool.not_eq_true', Bool.not_eq_true] using h9
      (repeat (first | (apply WL.pure; rfl; rfl; rfl) | (apply WL.nil) | (apply EX.thenN) | (apply CW.seq) | (apply CW.region) | (apply CW.ret) | (apply EX.thenR) | (apply EX.inR)))
      refine EX.ret2 rfl rfl rfl ⟨?_, hE10.trans e11⟩
      have : fr.all (fun f => f.any (fun x => l.contains x)) = false := by
        rw [List.all_eq_false]
        exact ⟨fr[m], List.getElem_mem h8, by rw [h9]; simp⟩
      rw [this]
    · have h9 : fr[m].any (fun x => l.contains x) = true := by simpa only [Bool.not_eq_false', Bool.not_eq_false] using h9
      (repeat (first | (apply WL.add; rfl; rfl; rfl; rfl; omega; omega) | (apply WL.pure; rfl; rfl; rfl) | (apply WL.nil) | (apply EX.thenN) | (apply CW.region) | (apply EX.inN) | (apply CW.skip)))
      refine EX.back (m + 1) (by repeat (first | exact trivial | refine ⟨rfl, ?_⟩)) ⟨h8, e10.trans e11, fun j hj hlt => ?_⟩ (by omega)
      by_cases e : j = m
      · subst e; exact h9
      · exact hno j hj (by omega)
  simp at h8
  have : fr.all (fun f => f.any (fun x => l.contains x)) = true := by
    rw [List.all_eq_true]
    intro f hf
    obtain ⟨j, hj, rfl⟩ := List.mem_iff_getElem.1 hf
    exact hno j hj (by omega)
  rw [this]
  (repeat (first | (apply WL.pure; rfl; rfl; rfl) | (apply WL.nil) | (apply EX.thenN) | (apply CW.seq) | (apply CW.region) | (apply CW.exit) | (apply EX.thenX) | (apply EX.inX) | (apply CW.ret)))
  exact EX.ret2 rfl rfl rfl ⟨rfl, hE10⟩
theorem labL_next {lb : List Nat} {s : List Int} {i : Nat} {a : Nat} (h : i < s.length) (ha : s[i] = (a : Int)) (hb : a < lb.length) : labL lb (s.take (i + 1)) = labL lb (s.take i) ++ [lb[a]] := by
  unfold labL
  rw [List.take_succ_eq_append_getElem h, List.map_append, ha]
  simp only [List.map_cons, List.map_nil, Int.toNat_natCast]
  rw [List.getD_eq_getElem?_getD, List.getElem?_eq_getElem hb]; rfl
theorem labL_len {lb : List Nat} (l : List Int) : (labL lb l).length = l.length := by unfold labL; rw [List.length_map]
theorem Word_ok (w0 : World) {a1 a2 a3 a4 so lo : Option Addr} {c1 c2 c3 c4 sc lc : Nat} {st s l : List Int} {nx fr : List (List Int)} {lb : List Nat} (h1 : Sl w0 (Old w0) a1 c1 st) (h2 : Sl w0 (Old w0) a2 c2 nx) (h3 : Sl w0 (Old w0) a3 c3 lb) (h4 : Sl w0 (Old w0) a4 c4 fr)
    (hs : Sl w0 (Old w0) so sc s) (hl : Sl w0 (Old w0) lo lc l) (hs6 : s.length ≤ 60000) (hl6 : l.length ≤ 60000) :
    Rt Try.prog 15 [worldV a1 c1 a2 c2 a3 c3 a4 c4 st.length nx.length lb.length fr.length, pathV so sc lo lc s l].toArray w0
      fun v w' => ∃ x, v = .tuple ⟨[x, .int .i64 (wordF st nx lb fr s l).2]⟩ ∧ Rd w' (Old w') x ((wordF st nx lb fr s l).1 : LWord) ∧ Ext w0 w' := by
  have hml := h3.len63
  have hz : ∀ (w : World), Rd w (Old w) (.agg [.slice none 0 0, .slice none 0 0].toArray) (([], []) : LWord) := fun w => Rd.mkPr (rd_mkSl (Sl.zero _ _)) (rd_mkSl (Sl.zero _ _))
  refine Rt.enter2 Try.func15 Try.ntmps15 rfl rfl ?_
  (repeat (first | (apply CW.seq) | (apply CW.region)))
  refine WL.boxB rfl rfl rfl fun w1 hw hE1 => ?_
  skip
  refine WL.boxB rfl rfl rfl fun w2 hp hE2 => ?_
  have hw2 := hw.ext hE2
  have hE2 := hE1.trans hE2
  skip
  refine WL.alloc rfl rfl (fun w3 ht e3 => ?_)
  have hw3 := hw2.ext e3
  have hp3 := hp.ext e3
  have hE3 := hE2.trans e3
  have hs01 : w0.heap.size ≤ w1.heap.size := hE1.size
  have hs12 : w1.heap.size < w2.heap.size := hp.lt
  have hs02 : w0.heap.size < w1.heap.size := hw.lt
  clear hw hp hw2 hE1 hE2 e3
  (repeat (first | (apply WL.pure; rfl; rfl; rfl) | (apply WL.nil) | (apply EX.thenN) | (apply CW.seq) | (apply CW.region) | (apply WL.ldA; rfl; rfl; rfl; assumption; rfl)))
  refine WL.call rfl rfl rfl (wCheck_ok w3 (h1.up hE3) (h2.up hE3) hml (h4.up hE3)) ?_
  rintro _ w4 ⟨rfl, e4⟩
  have hw4 := hw3.ext e4
  have hp4 := hp3.ext e4
  have ht4 := ht.ext e4
  have hE4 := hE3.trans e4
  clear hw3 hp3 hE3 e4 ht
  unfold wordF
  (repeat (first | (apply WL.pure; rfl; rfl; rfl) | (apply WL.nil) | (apply EX.thenN) | (apply CW.seq) | (apply CW.region)))
  refine CW.cond rfl (fun h => ?_) (fun h => ?_)
  · have h : chkWd st nx lb.length fr ≠ 0 := by simpa using h
    rw [if_pos h]
    (repeat (first | (apply CW.seq) | (apply CW.region)))
    refine WL.build (parts := []) rfl rfl rfl rfl ?_
    (repeat (apply WL.pure; rfl; rfl; rfl))
    refine WL.st rfl rfl rfl ht4 rfl rfl (ones_of rfl) (fun w5 ht5 hg5 => ?_)
    have hE5 : Ext w0 w5 := hE4.grown hg5 hE4.size (fun g hg => by cases hg; omega)
    (repeat (first | (apply WL.pure; rfl; rfl; rfl) | (apply WL.nil) | (apply EX.thenN) | (apply CW.ret) | (apply EX.thenR)))
    exact EX.retC2 rfl rfl rfl ht5 rfl ⟨_, rfl, hz _, hE5⟩
  have h : chkWd st nx lb.length fr = 0 := by simpa using h
  rw [if_neg (by simp [h])]
  obtain ⟨hn600, hf80, hkn, hokst, hoknx, hokfr⟩ := chkWd_ok h
  clear h
  (repeat (first | (apply WL.pure; rfl; rfl; rfl) | (apply EX.thenN) | (apply CW.seq) | (apply CW.region) | (apply WL.lenS; rfl; rfl; rfl) | (apply WL.fa; rfl; rfl; rfl) | (apply WL.ld; rfl; rfl; rfl; assumption; rfl) | (apply CW.skip)))
  (refine WL.lookG rfl rfl (fun h => ?_) (fun h => ?_))
  · have h6 : l.length = 0 := by simp at h; simp [h]
    rw [if_pos (.inl h6)]
    (repeat (first | (apply WL.pure; rfl; rfl; rfl) | (apply WL.nil) | (apply EX.thenN) | (apply CW.seq) | (apply CW.region) | (apply WL.pass; rfl; rfl) | (apply CW.condT; rfl)))
    refine WL.build (parts := []) rfl rfl rfl rfl ?_
    skip
    refine WL.st rfl rfl rfl ht4 rfl rfl (ones_of rfl) (fun w5 ht5 hg5 => ?_)
    have hE5 : Ext w0 w5 := hE4.grown hg5 hE4.size (fun g hg => by cases hg; omega)
    (repeat (first | (apply WL.pure; rfl; rfl; rfl) | (apply WL.nil) | (apply EX.thenN) | (apply CW.ret) | (apply EX.thenR)))
    exact EX.retC2 rfl rfl rfl ht5 rfl ⟨_, rfl, hz _, hE5⟩
  have h6 : l.length ≠ 0 := by simp at h; simpa using h
  clear h
  (repeat (first | (apply WL.lenS; rfl; rfl; rfl) | (apply WL.fa; rfl; rfl; rfl) | (apply WL.ld; rfl; rfl; rfl; assumption; rfl)))
  refine WL.call rfl rfl rfl (wodd_ok w4 nx.length (hs.up hE4)) ?_
  rintro _ w5 ⟨rfl, e5⟩
  have hw5 := hw4.ext e5
  have hp5 := hp4.ext e5
  have ht5 := ht4.ext e5
  have hE5 := hE4.trans e5
  have hsz5 := e5.size
  clear hw4 hp4 ht4 e5
  (repeat (apply WL.pure; rfl; rfl; rfl))
  (refine WL.lookG rfl rfl (fun h => ?_) (fun h => ?_))
  · rw [if_pos (.inr (.inl h))]
    (repeat (first | (apply WL.pure; rfl; rfl; rfl) | (apply WL.nil) | (apply EX.thenN) | (apply CW.seq) | (apply CW.region) | (apply WL.pass; rfl; rfl) | (apply CW.condT; rfl)))
    refine WL.build (parts := []) rfl rfl rfl rfl ?_
    skip
    refine WL.st rfl rfl rfl ht5 rfl rfl (ones_of rfl) (fun w6 ht6 hg6 => ?_)
    have hE6 : Ext w0 w6 := hE5.grown hg6 hE5.size (fun g hg => by cases hg; omega)
    (repeat (first | (apply WL.pure; rfl; rfl; rfl) | (apply WL.nil) | (apply EX.thenN) | (apply CW.ret) | (apply EX.thenR)))
    exact EX.retC2 rfl rfl rfl ht6 rfl ⟨_, rfl, hz _, hE6⟩
  have h7 := h
  clear h
  (repeat (first | (apply WL.lenS; rfl; rfl; rfl) | (apply WL.fa; rfl; rfl; rfl) | (apply WL.ld; rfl; rfl; rfl; assumption; rfl)))
  refine WL.call rfl rfl rfl (wodd_ok w5 nx.length (hl.up hE5)) ?_
  rintro _ w6 ⟨rfl, e6⟩
  have hw4 := hw5.ext e6
  have hp4 := hp5.ext e6
  have ht4 := ht5.ext e6
  have hE6 := hE5.trans e6
  have hsz6 := e6.size
  clear hw5 hp5 ht5 e6 hE4 hE5
  (repeat (first | (apply WL.pure; rfl; rfl; rfl) | (apply WL.nil) | (apply EX.thenN)))
  refine CW.cond rfl (fun h8 => ?_) (fun h8 => ?_)
  · rw [if_pos (.inr (.inr h8))]
    (repeat (first | (apply CW.seq) | (apply CW.region)))
    refine WL.build (parts := []) rfl rfl rfl rfl ?_
    skip
    refine WL.st rfl rfl rfl ht4 rfl rfl (ones_of rfl) (fun w7 ht7 hg7 => ?_)
    have hE7 : Ext w0 w7 := hE6.grown hg7 hE6.size (fun g hg => by cases hg; omega)
    (repeat (first | (apply WL.pure; rfl; rfl; rfl) | (apply WL.nil) | (apply EX.thenN) | (apply CW.ret) | (apply EX.thenR)))
    exact EX.retC2 rfl rfl rfl ht7 rfl ⟨_, rfl, hz _, hE7⟩
  rw [if_neg (by rw [h7, h8]; simp [h6])]
  have hoks := oddB_false.1 h7
  have hokl := oddB_false.1 h8
  have hs2w : w2.heap.size < w6.heap.size := ht4.lt
  clear h7 h8
  have hE4 := hE6
  clear hE6 hsz5 hsz6
  (repeat (first | (apply EX.thenN) | (apply CW.seq) | (apply CW.region) | (apply CW.skip)))
  refine WL.alloc rfl rfl (fun w7 ht7 hE47 => ?_)
  have hp7 := hp4.ext hE47
  (repeat (first | (apply WL.pure; rfl; rfl; rfl) | (apply WL.nil) | (apply EX.thenN) | (apply CW.seq) | (apply CW.region) | (apply WL.lenS; rfl; rfl; rfl) | (apply WL.fa; rfl; rfl; rfl) | (apply WL.ld; rfl; rfl; rfl; assumption; rfl) | (apply CW.block)))
  refine CW.loop (S := Nat × Value) (fun x => [(2, .pointer (some ⟨w0.heap.size, 0, none⟩)), (3, .pointer (some ⟨w1.heap.size, 0, none⟩)), (4, .pointer (some ⟨w2.heap.size, 0, none⟩)), (7, .pointer (some ⟨w6.heap.size, 0, none⟩)), (41, .slice so s.length sc), (42, .int .i64 s.length), (43, .int .i64 x.1)])
    (fun x w => x.1 ≤ s.length ∧ Blk w w6.heap.size 39 [x.2, .slice none 0 0] ∧ Own w (w6.heap.size + 1) 53 Non x.2 (labL lb (s.take x.1)) ∧ Ext w6 w) (fun x => s.length - x.1) (0, .slice none 0 0) (by repeat (first | exact trivial | refine ⟨rfl, ?_⟩)) ⟨Nat.zero_le _, ht7, Own.nil, hE47⟩ ?_
  rintro ⟨i, bV⟩ w8 ⟨hi, hb, ho, hE⟩
  dsimp only at hi hb ho hE ⊢
  have hp8 := hp4.ext hE
  have hw8 := hw4.ext hE
  have hE8 := hE4.trans hE
  (repeat (first | (apply WL.pure; rfl; rfl; rfl) | (apply WL.nil) | (apply EX.thenN) | (apply CW.seq) | (apply CW.region)))
  refine CW.cond rfl (fun h8 => ?_) (fun h8 => ?_)
  · simp at h8
    (repeat (first | (apply EX.thenN) | (apply CW.seq) | (apply CW.region) | (apply CW.block) | (apply CW.skip)))
    refine WL.elemI rfl rfl rfl rfl rfl (hs.up hE8) h8 rfl (fun _ => rfl) (fun q => ?_)
    have hbd := hoks s[i] (List.getElem_mem h8)
    obtain ⟨a, ha⟩ := Int.eq_ofNat_of_zero_le hbd.1
    have hal : a < lb.length := by rw [ha] at hbd; omega
    have ha' : s[i] = (a : Int) := ha
    rw [ha']
    have hwd := hw8.ext (Ext.drew w8)
    have hbb := hb.ext (Ext.drew w8)
    have hod := ho.extN (Ext.drew w8)
    have hEd := hE.trans (Ext.drew w8)
    have hdsz := (Ext.drew w8).size
    have hsz48 := hE.size
    have hsz4 := hb.lt
    have hbV : ∀ g, bV.ownBlock = some g → w6.heap.size < g := fun g hg => by have := (ho.lt g hg).1; omega
    have hK4 : ∀ w9, (fun x : World => ∀ b, b ≤ w6.heap.size → x.heap[b]? = (drew w8).heap[b]?) w9 → w9.heap[w6.heap.size]? = (drew w8).heap[w6.heap.size]? := fun _ h => h _ (Nat.le_refl _)
    have hK0 : ∀ w9, (fun x : World => ∀ b, b ≤ w6.heap.size → x.heap[b]? = (drew w8).heap[b]?) w9 → w9.heap[w0.heap.size]? = (drew w8).heap[w0.heap.size]? := fun _ h => h _ hE4.size
    have hS : ∀ w9, (drew w8).grownBy w9 bV.ownBlock → (fun x : World => ∀ b, b ≤ w6.heap.size → x.heap[b]? = (drew w8).heap[b]?) w9 := fun w9 hg b hb' => hg.block b (by omega) (fun e => by have := hbV b e.symm; omega)
    (repeat (first | (apply WL.pure; rfl; rfl; rfl) | (apply WL.nil) | (apply EX.thenN)))
    refine CW.drawE (fun x : World => ∀ b, b ≤ w6.heap.size → x.heap[b]? = (drew w8).heap[b]?) [(0, true), (1, true), (2, true), (3, true), (4, true), (5, true), (6, true), (7, false), (8, false), (9, true)] 10 mixed (by kernel_rfl) (fun _ _ => rfl) ?_
    (repeat (first | (apply HL.pure; rfl; rfl; rfl; rfl) | (refine HL.fa rfl rfl rfl rfl ?_) | (refine HL.ldK (by assumption) rfl rfl rfl rfl (by assumption) rfl ?_)))
    refine HL.elemK (w := drew w8) (F := Old w0) (fun w9 h9 b hb' => h9 b (by have := hE4.size; have : b < w0.heap.size := hb'; omega)) rfl rfl rfl rfl rfl rfl rfl (h3.at (hE8.trans (Ext.drew w8))) hal (fun _ => rfl) (fun u q hu => ?_)
    obtain ⟨rfl, hu64⟩ := hu.u64
    refine HL.app1 (bytes := 8) rfl rfl rfl rfl (fun _ => rfl) rfl rfl (fun _ => rfl) hod ⟨_, rfl, rd_mkU64 _ _ _ hu64⟩ (by omega) (fun _ h => h.elim) (by decide) (by rw [labL_len, List.length_take]; unfold maxLen; omega) (by rw [labL_len, List.length_take]; omega) hS (fun cV w9 q2 hoc hg9 hnb => ?_)
    rw [← labL_next h8 ha' hal] at hoc
    obtain ⟨co, cc, rfl⟩ := hoc.val
    have hb9 : Blk w9 w6.heap.size 39 [bV, .slice none 0 0] := hbb.kept hg9 (fun e => by have := hbV _ e.symm; omega)
    have hE9 : Ext w6 w9 := hEd.grown hg9 hEd.size (fun g hg => Nat.le_of_lt (hbV g hg))
    (repeat (first | (refine HL.fa rfl rfl rfl rfl ?_) | (apply HL.nil)))
    refine EX.tail rfl (WL.st rfl rfl rfl hb9 rfl rfl (ones_of rfl) (fun w10 hb10 hg10 => WL.nil (EX.tailE ?_)))
    have hE10 : Ext w6 w10 := hE9.grown hg10 hE9.size (fun g hg => by cases hg; exact Nat.le_refl _)
    have ho10 := hoc.keptN hg10 (fun g hg e => by cases e; have := (hoc.lt _ hg).1; omega)
    (repeat (first | (apply WL.add; rfl; rfl; rfl; rfl; omega; omega) | (apply WL.pure; rfl; rfl; rfl) | (apply WL.nil) | (apply EX.thenN) | (apply CW.region) | (apply EX.inN)))
    exact EX.back (i + 1, .slice co (labL lb (s.take (i + 1))).length cc) (by repeat (first | exact trivial | refine ⟨rfl, ?_⟩)) ⟨h8, hb10, ho10, hE10⟩ (by dsimp only; omega)
  simp at h8
  obtain rfl : i = s.length := by omega
  rw [List.take_length] at ho
  obtain ⟨ao, ac, hav⟩ := ho.val
  subst hav
  rw [labL_len] at ho hb
  have hoA := ho
  have hbA := hb
  have hEA := hE
  have hoAlt : ∀ g, Value.ownBlock (.slice ao s.length ac) = some g → g < w8.heap.size := fun g hg => (hoA.lt g hg).2.1
  have hszA := hbA.lt
  clear ho hb hE hw8 hE8 h8 hi ht7 hE47 hp7
  (repeat (first | (apply WL.pure; rfl; rfl; rfl) | (apply WL.nil) | (apply EX.thenN) | (apply CW.seq) | (apply CW.region) | (apply WL.lenS; rfl; rfl; rfl) | (apply WL.fa; rfl; rfl; rfl) | (apply WL.ld; rfl; rfl; rfl; assumption; rfl) | (apply CW.block) | (apply CW.exit) | (apply EX.thenX) | (apply EX.inX)))
  refine CW.loop (S := Nat × Value) (fun x => [(2, .pointer (some ⟨w0.heap.size, 0, none⟩)), (3, .pointer (some ⟨w1.heap.size, 0, none⟩)), (4, .pointer (some ⟨w2.heap.size, 0, none⟩)), (7, .pointer (some ⟨w6.heap.size, 0, none⟩)), (59, .slice lo l.length lc), (60, .int .i64 l.length), (61, .int .i64 x.1)])
    (fun x w => x.1 ≤ l.length ∧ Blk w w6.heap.size 39 [.slice ao s.length ac, x.2] ∧ Own w (w8.heap.size) 53 Non x.2 (labL lb (l.take x.1)) ∧ Ext w6 w ∧ Own w (w6.heap.size + 1) 53 Non (.slice ao s.length ac) (labL lb s) ∧ w8.heap.size ≤ w.heap.size) (fun x => l.length - x.1) (0, .slice none 0 0) (by repeat (first | exact trivial | refine ⟨rfl, ?_⟩)) ⟨Nat.zero_le _, hbA, Own.nil, hEA, hoA, Nat.le_refl _⟩ ?_
  rintro ⟨i, bV⟩ w12 ⟨hi, hb, ho, hE, hoA, hszA2⟩
  dsimp only at hi hb ho hE ⊢
  have hp8 := hp4.ext hE
  have hw8 := hw4.ext hE
  have hE8 := hE4.trans hE
  (repeat (first | (apply WL.pure; rfl; rfl; rfl) | (apply WL.nil) | (apply EX.thenN) | (apply CW.seq) | (apply CW.region)))
  refine CW.cond rfl (fun h8 => ?_) (fun h8 => ?_)
  · simp at h8
    (repeat (first | (apply EX.thenN) | (apply CW.seq) | (apply CW.region) | (apply CW.block) | (apply CW.skip)))
    refine WL.elemI rfl rfl rfl rfl rfl (hl.up hE8) h8 rfl (fun _ => rfl) (fun q => ?_)
    have hbd := hokl l[i] (List.getElem_mem h8)
    obtain ⟨a, ha⟩ := Int.eq_ofNat_of_zero_le hbd.1
    have hal : a < lb.length := by rw [ha] at hbd; omega
    have ha' : l[i] = (a : Int) := ha
    rw [ha']
    have hwd := hw8.ext (Ext.drew w12)
    have hbb := hb.ext (Ext.drew w12)
    have hod := ho.extN (Ext.drew w12)
    have hEd := hE.trans (Ext.drew w12)
    have hdsz := (Ext.drew w12).size
    have hsz48 := hE.size
    have hsz4 := hb.lt
    have hbV : ∀ g, bV.ownBlock = some g → w6.heap.size < g := fun g hg => by have := (ho.lt g hg).1; have := hszA; omega
    have hK4 : ∀ w13, (fun x : World => ∀ b, b ≤ w6.heap.size → x.heap[b]? = (drew w12).heap[b]?) w13 → w13.heap[w6.heap.size]? = (drew w12).heap[w6.heap.size]? := fun _ h => h _ (Nat.le_refl _)
    have hK0 : ∀ w13, (fun x : World => ∀ b, b ≤ w6.heap.size → x.heap[b]? = (drew w12).heap[b]?) w13 → w13.heap[w0.heap.size]? = (drew w12).heap[w0.heap.size]? := fun _ h => h _ hE4.size
    have hS : ∀ w13, (drew w12).grownBy w13 bV.ownBlock → (fun x : World => ∀ b, b ≤ w6.heap.size → x.heap[b]? = (drew w12).heap[b]?) w13 := fun w13 hg b hb' => hg.block b (by omega) (fun e => by have := hbV b e.symm; omega)
    (repeat (first | (apply WL.pure; rfl; rfl; rfl) | (apply WL.nil) | (apply EX.thenN)))
    refine CW.drawE (fun x : World => ∀ b, b ≤ w6.heap.size → x.heap[b]? = (drew w12).heap[b]?) [(0, true), (1, true), (2, true), (3, true), (4, true), (5, true), (6, true), (7, false), (8, false), (9, true)] 10 mixed (by kernel_rfl) (fun _ _ => rfl) ?_
    (repeat (first | (apply HL.pure; rfl; rfl; rfl; rfl) | (refine HL.fa rfl rfl rfl rfl ?_) | (refine HL.ldK (by assumption) rfl rfl rfl rfl (by assumption) rfl ?_)))
    refine HL.elemK (w := drew w12) (F := Old w0) (fun w13 h9 b hb' => h9 b (by have := hE4.size; have : b < w0.heap.size := hb'; omega)) rfl rfl rfl rfl rfl rfl rfl (h3.at (hE8.trans (Ext.drew w12))) hal (fun _ => rfl) (fun u q hu => ?_)
    obtain ⟨rfl, hu64⟩ := hu.u64
    refine HL.app1 (bytes := 8) rfl rfl rfl rfl (fun _ => rfl) rfl rfl (fun _ => rfl) hod ⟨_, rfl, rd_mkU64 _ _ _ hu64⟩ (Nat.le_trans hszA2 hdsz) (fun _ h => h.elim) (by decide) (by rw [labL_len, List.length_take]; unfold maxLen; omega) (by rw [labL_len, List.length_take]; omega) hS (fun cV w13 q2 hoc hg9 hnb => ?_)
    rw [← labL_next h8 ha' hal] at hoc
    obtain ⟨co, cc, rfl⟩ := hoc.val
    have hb9 : Blk w13 w6.heap.size 39 [.slice ao s.length ac, bV] := hbb.kept hg9 (fun e => by have := hbV _ e.symm; omega)
    have hE9 : Ext w6 w13 := hEd.grown hg9 hEd.size (fun g hg => Nat.le_of_lt (hbV g hg))
    (repeat (first | (refine HL.fa rfl rfl rfl rfl ?_) | (apply HL.nil)))
    refine EX.tail rfl (WL.st rfl rfl rfl hb9 rfl rfl (ones_of rfl) (fun w14 hb10 hg10 => WL.nil (EX.tailE ?_)))
    have hE10 : Ext w6 w14 := hE9.grown hg10 hE9.size (fun g hg => by cases hg; exact Nat.le_refl _)
    have ho10 := hoc.keptN hg10 (fun g hg e => by cases e; have := (hoc.lt _ hg).1; have := hszA; omega)
    have hoA10 : Own w14 (w6.heap.size + 1) 53 Non (.slice ao s.length ac) (labL lb s) := ((hoA.extN (Ext.drew w12)).keptN hg9 (fun g hg e => by have := hoAlt g hg; have := (ho.lt g e.symm).1; omega)).keptN hg10 (fun g hg e => by cases e; have := (hoA.lt _ hg).1; omega)
    (repeat (first | (apply WL.add; rfl; rfl; rfl; rfl; omega; omega) | (apply WL.pure; rfl; rfl; rfl) | (apply WL.nil) | (apply EX.thenN) | (apply CW.region) | (apply EX.inN)))
    exact EX.back (i + 1, .slice co (labL lb (l.take (i + 1))).length cc) (by repeat (first | exact trivial | refine ⟨rfl, ?_⟩)) ⟨h8, hb10, ho10, hE10, hoA10, Nat.le_trans hszA2 (Nat.le_trans hdsz (Nat.le_trans hg9.size hg10.size))⟩ (by dsimp only; omega)
  simp at h8
  obtain rfl : i = l.length := by omega
  rw [List.take_length] at ho
  obtain ⟨bo, bc, hbv⟩ := ho.val
  subst hbv
  have hlA : Sl w12 (Old w12) ao ac (labL lb s) := by
    obtain ⟨x, y, e, hsl⟩ := hoA.oldN.sl
    obtain ⟨rfl, _, rfl⟩ := Value.slice.inj e
    exact hsl
  have hlB : Sl w12 (Old w12) bo bc (labL lb l) := by
    obtain ⟨x, y, e, hsl⟩ := ho.oldN.sl
    obtain ⟨rfl, _, rfl⟩ := Value.slice.inj e
    exact hsl
  have hE12 := hE8
  have ht12 := ht4.ext hE
  have hL1 := labL_len (lb := lb) s
  rw [← hL1] at hb
  have hls : (labL lb s).length ≤ 60000 := by omega
  generalize labL lb s = p1 at *
  generalize labL lb l = p2 at *
  (repeat (first | (apply EX.thenN) | (apply CW.seq) | (apply CW.region) | (apply WL.ldA; rfl; rfl; rfl; assumption; rfl) | (apply CW.exit) | (apply EX.thenX) | (apply EX.inX)))
  refine WL.call rfl rfl rfl (lassoCheck w12 (s := p1) (l := p2) hlA.len63 hlB.len63) ?_
  rintro _ w13 ⟨rfl, e13⟩
  have hb13 := hb.ext e13
  have ht13 := ht12.ext e13
  have hE13 := hE12.trans e13
  have hs013 := hE13.size
  (repeat (first | (apply WL.pure; rfl; rfl; rfl) | (apply WL.nil) | (apply EX.thenN) | (apply CW.seq) | (apply CW.region)))
  refine CW.cond rfl (fun h => ?_) (fun h => ?_)
  · have h : chkW p1 p2 ≠ 0 := by simpa using h
    rw [if_pos h]
    (repeat (first | (apply CW.seq) | (apply CW.region)))
    refine WL.build (parts := []) rfl rfl rfl rfl ?_
    (repeat (apply WL.pure; rfl; rfl; rfl))
    refine WL.st rfl rfl rfl ht13 rfl rfl (ones_of rfl) (fun w14 ht14 hg14 => ?_)
    have hE14 : Ext w0 w14 := hE13.grown hg14 hE13.size (fun g hg => by cases hg; omega)
    (repeat (first | (apply WL.pure; rfl; rfl; rfl) | (apply WL.nil) | (apply EX.thenN) | (apply CW.ret) | (apply EX.thenR)))
    exact EX.retC2 rfl rfl rfl ht14 rfl ⟨_, rfl, hz _, hE14⟩
  have h : chkW p1 p2 = 0 := by simpa using h
  rw [if_neg (by simp [h])]
  (repeat (first | (apply EX.thenN) | (apply CW.seq) | (apply CW.region) | (apply WL.ldA; rfl; rfl; rfl; assumption; rfl) | (apply CW.skip)))
  refine WL.st rfl rfl rfl ht13 rfl rfl (ones_of rfl) (fun w14 ht14 hg14 => ?_)
  have hE14 : Ext w0 w14 := hE13.grown hg14 hE13.size (fun g hg => by cases hg; omega)
  have hoA14 := (hoA.extN e13).keptN hg14 (fun g hg e => by cases e; have := (hoA.lt _ hg).1; omega)
  have hoB14 := (ho.extN e13).keptN hg14 (fun g hg e => by cases e; have := (ho.lt _ hg).1; omega)
  rw [← hL1] at hoA14
  obtain ⟨x, y, e, hA14⟩ := hoA14.oldN.sl
  obtain ⟨rfl, _, rfl⟩ := Value.slice.inj e
  obtain ⟨x, y, e, hB14⟩ := hoB14.oldN.sl
  obtain ⟨rfl, _, rfl⟩ := Value.slice.inj e
  (repeat (first | (apply WL.pure; rfl; rfl; rfl) | (apply WL.nil) | (apply EX.thenN) | (apply CW.ret)))
  exact EX.retC2 rfl rfl rfl ht14 rfl ⟨_, rfl, Rd.mkPr (rd_mkSl hA14) (rd_mkSl hB14), hE14⟩
end Go.Proofs.Ytllpfgcngokhnaa
/-
  What Find tells, against fair ways that are accepted. Plain lists.
-/
set_option linter.unusedVariables false
set_option linter.unusedSimpArgs false
namespace Go.Proofs.Ytllpfgcngokhnaa

def fitW (W : LWorld) (A : LAuto2) (p : Pr2) : Bool := fitB A.2.2.1 A.2.2.2.1 p.2.toNat (W.2.2.1.getD p.1.toNat 0)
def nextE (W : LWorld) (A : LAuto2) (p : Pr2) : List Pr2 := pairsX (W.2.1.getD p.1.toNat []) (A.2.1.getD p.2.toNat [])
def startE (W : LWorld) (A : LAuto2) : List Pr2 := pairsX W.1 A.1
def ssE (W : LWorld) (A : LAuto2) : List (Pr2 → Bool) := W.2.2.2.map (fun F p => decide (p.1 ∈ F)) ++ A.2.2.2.2.map (fun F p => decide (p.2 ∈ F))
def EWay (W : LWorld) (A : LAuto2) : Prop := ∃ r, PWay (fitW W A) (nextE W A) (startE W A) (ssE W A) r
structure WWay (W : LWorld) (r : Nat → Nat) : Prop where
  first : (r 0 : Int) ∈ W.1
  step : ∀ i, (r (i + 1) : Int) ∈ W.2.1.getD (r i) []
  fair : ∀ F ∈ W.2.2.2, ∀ i, ∃ j, i ≤ j ∧ (r j : Int) ∈ F
/-- states are numbers -/
def PosW (W : LWorld) : Prop := (∀ x ∈ W.1, 0 ≤ x) ∧ ∀ k, ∀ x ∈ W.2.1.getD k [], 0 ≤ x
abbrev chkE (W : LWorld) : Int := chkWd W.1 W.2.1 W.2.2.1.length W.2.2.2
section
variable {W : LWorld} {A : LAuto2} {s l : List Int}
theorem okL_getD {n k : Nat} {g : List (List Int)} (h : ∀ r ∈ g, okL n r) : okL n (g.getD k []) := by
  by_cases e : k < g.length
  · rw [List.getD_eq_getElem?_getD, List.getElem?_eq_getElem e]; exact h _ (List.getElem_mem e)
  · rw [List.getD_eq_getElem?_getD, List.getElem?_eq_none (by omega)]; exact fun x hx => by cases hx
theorem chkE_pos (h : chkE W = 0) : PosW W := by
  obtain ⟨_, _, _, h1, h2, _⟩ := chkWd_ok h
  exact ⟨fun x hx => (h1 x hx).1, fun k x hx => (okL_getD (fun r hr => (h2 r hr).2) x hx).1⟩
theorem okA_pos2 (h : OkA A) : PosA A := okA_pos h
theorem eway_run (hW : PosW W) (hA : PosA A) {r : Nat → Pr2} (h : PWay (fitW W A) (nextE W A) (startE W A) (ssE W A) r) :
    WWay W (fun i => (r i).1.toNat) ∧ AccA A (fun i => W.2.2.1.getD (r i).1.toNat 0) := by
  have h0 := pairsX_mem.1 h.first
  have hs : ∀ i, (r (i + 1)).1 ∈ W.2.1.getD (r i).1.toNat [] ∧ (r (i + 1)).2 ∈ A.2.1.getD (r i).2.toNat [] := fun i => pairsX_mem.1 (h.step i)
  have hp : ∀ i, 0 ≤ (r i).1 ∧ 0 ≤ (r i).2 := fun i => by
    cases i with
    | zero => exact ⟨hW.1 _ h0.1, hA.1 _ h0.2⟩
    | succ i => exact ⟨hW.2 _ _ (hs i).1, hA.2 _ _ (hs i).2⟩
  have e1 : ∀ i, (((r i).1.toNat : Nat) : Int) = (r i).1 := fun i => Int.toNat_of_nonneg (hp i).1
  have e2 : ∀ i, (((r i).2.toNat : Nat) : Int) = (r i).2 := fun i => Int.toNat_of_nonneg (hp i).2
  refine ⟨⟨by rw [e1]; exact h0.1, fun i => by rw [e1]; exact (hs i).1, fun F hF i => ?_⟩, fun i => (r i).2.toNat, ⟨by rw [e2]; exact h0.2, fun i => h.fits i, fun i => by rw [e2]; exact (hs i).2, fun F hF i => ?_⟩⟩
  · obtain ⟨j, h1, h2⟩ := h.fair _ (List.mem_append_left _ (List.mem_map.2 ⟨F, hF, rfl⟩)) i
    exact ⟨j, h1, by rw [e1]; exact of_decide_eq_true h2⟩
  · obtain ⟨j, h1, h2⟩ := h.fair _ (List.mem_append_right _ (List.mem_map.2 ⟨F, hF, rfl⟩)) i
    exact ⟨j, h1, by rw [e2]; exact of_decide_eq_true h2⟩
theorem eway_of {ρ : Nat → Nat} (hw : WWay W ρ) (ha : AccA A (fun i => W.2.2.1.getD (ρ i) 0)) : EWay W A := by
  obtain ⟨q, hq⟩ := ha
  refine ⟨fun i => ((ρ i : Int), (q i : Int)), pairsX_mem.2 ⟨hw.first, hq.first⟩, fun i => ?_, fun i => pairsX_mem.2 ⟨?_, ?_⟩, fun S hS i => ?_⟩
  · exact hq.fits i
  · exact hw.step i
  · exact hq.step i
  · rcases List.mem_append.1 hS with h | h
    · obtain ⟨F, hF, rfl⟩ := List.mem_map.1 h
      obtain ⟨j, h1, h2⟩ := hw.fair F hF i
      exact ⟨j, h1, decide_eq_true h2⟩
    · obtain ⟨F, hF, rfl⟩ := List.mem_map.1 h
      obtain ⟨j, h1, h2⟩ := hq.fair F hF i
      exact ⟨j, h1, decide_eq_true h2⟩
theorem eway_both {B : LAuto2} (hW : PosW W) (hA : OkA A) (hB : OkA B) (h : (madeE (bothNext A B) (bothStart A B)).2.1 = true) (hC : OkA (bothL A B)) (he : EWay W (bothL A B)) : EWay W A ∧ EWay W B := by
  obtain ⟨r, hr⟩ := he
  obtain ⟨h1, h2⟩ := eway_run hW (okA_pos hC) hr
  obtain ⟨h3, h4⟩ := (both_law (okA_pos hA) (okA_pos hB) h).1 h2
  exact ⟨eway_of h1 h3, eway_of h1 h4⟩
theorem lat_map {f : Nat → Nat} {s l : List Nat} (h0 : 0 < l.length) (i : Nat) : lat (s.map f) (l.map f) i = f (lat s l i) := by
  unfold lat
  rw [List.length_map, List.length_map]
  by_cases h : i < s.length
  · rw [if_pos h, if_pos h, List.getD_eq_getElem?_getD, List.getElem?_map, List.getElem?_eq_getElem h, List.getD_eq_getElem?_getD, List.getElem?_eq_getElem h]; rfl
  · have hm := Nat.mod_lt (i - s.length) h0
    rw [if_neg h, if_neg h, List.getD_eq_getElem?_getD, List.getElem?_map, List.getElem?_eq_getElem hm, List.getD_eq_getElem?_getD, List.getElem?_eq_getElem hm]; rfl
theorem labL_nat {n : Nat} {lb : List Nat} {l : List Int} (h : okL n l) : labL lb l = (l.map Int.toNat).map fun x => lb.getD x 0 := by
  unfold labL
  rw [List.map_map]; rfl
/-- the loop is met again and again -/
theorem lat_again {s l : List Nat} {k : Nat} (hk : k < l.length) (i : Nat) : ∃ j, i ≤ j ∧ lat s l j = l.getD k 0 := by
  refine ⟨s.length + (k + i * l.length), ?_, ?_⟩
  · have : i * 1 ≤ i * l.length := Nat.mul_le_mul_left i (by omega)
    omega
  · unfold lat
    rw [if_neg (by omega), Nat.add_sub_cancel_left, Nat.add_mul_mod_self_right, Nat.mod_eq_of_lt hk]
theorem oddB_ok {n : Nat} {l : List Int} : oddB n l = false ↔ okL n l := oddB_false
/-- a good path whose word is accepted is a way -/
theorem path_way {s l : List Int} (hA : OkA A) (hg : goodF W.1 W.2.1 W.2.2.1.length W.2.2.2 s l = (true, 0)) (hw : (wordF W.1 W.2.1 W.2.2.1 W.2.2.2 s l).2 = 0)
    (ha : (accF A (wordF W.1 W.2.1 W.2.2.1 W.2.2.2 s l).1.1 (wordF W.1 W.2.1 W.2.2.1 W.2.2.2 s l).1.2).1 = true) : EWay W A := by
  obtain ⟨hw1, hw2⟩ := wordF_ok hw
  rw [hw1] at ha
  dsimp only at ha
  rw [accF_at hA hw2] at ha
  have ha : AccA A (lat (labL W.2.2.1 s) (labL W.2.2.1 l)) := accB_iff.1 ha
  unfold goodF at hg
  split at hg
  · cases hg
  split at hg
  · cases hg
  split at hg
  · cases hg
  rename_i h1 h2 h3
  have hgb : goodB W.1 W.2.1 W.2.2.2 (s ++ l) l = true := congrArg Prod.fst hg
  have hl0 : 0 < l.length := by
    rcases Nat.eq_zero_or_pos l.length with h | h
    · exact absurd (.inl h) h3
    · exact h
  have hs : okL W.2.1.length s := oddB_ok.1 (by cases h : oddB W.2.1.length s; rfl; exact absurd (.inr (.inl h)) h3)
  have hl : okL W.2.1.length l := oddB_ok.1 (by cases h : oddB W.2.1.length l; rfl; exact absurd (.inr (.inr h)) h3)
  have hln : 0 < (l.map Int.toNat).length := by rw [List.length_map]; exact hl0
  unfold goodB at hgb
  rw [Bool.and_eq_true, Bool.and_eq_true] at hgb
  obtain ⟨⟨g1, g2⟩, g3⟩ := hgb
  rw [← int_nat hs, ← int_nat hl, ← List.map_append] at g1 g2
  rw [edges_all hln] at g2
  rw [all_lat (by rw [List.length_append]; omega)] at g1
  refine eway_of (ρ := lat (s.map Int.toNat) (l.map Int.toNat)) ⟨by simpa using g1, fun i => by simpa [edgeB] using g2 i, fun F hF i => ?_⟩ ?_
  · rw [List.all_eq_true] at g3
    have h4 := g3 F hF
    rw [List.any_eq_true] at h4
    obtain ⟨x, hx, hxl⟩ := h4
    have hxl : x ∈ l := by simpa using hxl
    obtain ⟨k, hk, rfl⟩ := List.mem_iff_getElem.1 hxl
    obtain ⟨j, hj, he⟩ := lat_again (s := s.map Int.toNat) (l := l.map Int.toNat) (k := k) (by rw [List.length_map]; exact hk) i
    refine ⟨j, hj, ?_⟩
    rw [he, List.getD_eq_getElem?_getD, List.getElem?_map, List.getElem?_eq_getElem hk]
    show ((l[k].toNat : Nat) : Int) ∈ F
    rw [Int.toNat_of_nonneg (hl _ (List.getElem_mem hk)).1]
    exact hx
  · rw [labL_nat hs, labL_nat hl] at ha
    exact (Acc.congr fun i => lat_map hln i).1 ha
/-- what is found -/
structure PathE (W : LWorld) (A : LAuto2) (s l : List Int) : Prop where
  so : okL W.2.1.length s
  lo : okL W.2.1.length l
  l0 : 0 < l.length
  good : goodB W.1 W.2.1 W.2.2.2 (s ++ l) l = true
  acc : AccA A (lat (labL W.2.2.1 s) (labL W.2.2.1 l))
theorem PathE.goodF (h : PathE W A s l) (hW : chkE W = 0) : (goodF W.1 W.2.1 W.2.2.1.length W.2.2.2 s l).2 = 2 ∨ goodF W.1 W.2.1 W.2.2.1.length W.2.2.2 s l = (true, 0) := by
  have h0 := h.l0
  unfold Go.Proofs.Ytllpfgcngokhnaa.goodF
  rw [if_neg (by intro h; exact h hW)]
  split
  · exact .inl rfl
  · rw [if_neg, h.good]
    · exact .inr rfl
    · rintro (h1 | h1 | h1)
      · omega
      · rw [oddB_ok.2 h.so] at h1; cases h1
      · rw [oddB_ok.2 h.lo] at h1; cases h1
theorem PathE.wordF (h : PathE W A s l) (hW : chkE W = 0) : (wordF W.1 W.2.1 W.2.2.1 W.2.2.2 s l).2 = 2 ∨ (wordF W.1 W.2.1 W.2.2.1 W.2.2.2 s l).2 = 0 := by
  have h0 := h.l0
  have hc : chkW (labL W.2.2.1 s) (labL W.2.2.1 l) = 2 ∨ chkW (labL W.2.2.1 s) (labL W.2.2.1 l) = 0 := by
    unfold chkW
    split
    · exact .inl rfl
    · rw [if_neg (by unfold labL; rw [List.length_map]; omega)]; exact .inr rfl
  unfold Go.Proofs.Ytllpfgcngokhnaa.wordF
  rw [if_neg (by intro h; exact h hW), if_neg]
  · split
    · rcases hc with h | h
      · exact .inl h
      · rename_i h'; exact absurd h h'
    · exact .inr rfl
  · rintro (h1 | h1 | h1)
    · omega
    · rw [oddB_ok.2 h.so] at h1; cases h1
    · rw [oddB_ok.2 h.lo] at h1; cases h1
theorem PathE.accF (h : PathE W A s l) (hA : OkA A) (hw : (Go.Proofs.Ytllpfgcngokhnaa.wordF W.1 W.2.1 W.2.2.1 W.2.2.2 s l).2 = 0) :
    accF A (Go.Proofs.Ytllpfgcngokhnaa.wordF W.1 W.2.1 W.2.2.1 W.2.2.2 s l).1.1 (Go.Proofs.Ytllpfgcngokhnaa.wordF W.1 W.2.1 W.2.2.1 W.2.2.2 s l).1.2 = (true, 0) := by
  obtain ⟨hw1, hw2⟩ := wordF_ok hw
  rw [hw1]
  dsimp only
  rw [accF_at hA hw2]
  rw [accB_iff.2 (show Acc _ _ _ _ _ _ from h.acc)]
end
def stE (ps : List Pr2) (l : List Int) : List Int := l.map fun n => (ps.getD n.toNat (0, 0)).1
section
variable {W : LWorld} {A : LAuto2} {ps : List Pr2} {fr : List Int} {g : List (List Int)} {part : List Int}
/-- the path that is found -/
theorem path_found (h : RunE (fitW W A) (nextE W A) (startE W A) ps fr g) (hl : g.length = ps.length) (hin : ∀ p ∈ ps, (0 ≤ p.1 ∧ p.1 < (W.2.1.length : Int)) ∧ 0 ≤ p.2 ∧ p.2 < (A.2.1.length : Int)) (hW : PosW W) (hA : PosA A)
    {st lo : List Int} {to al : Nat → Bool} (hs : WyOK g fr to al st) (hr : RoOK g (st.getD (st.length - 1) 0).toNat (setsL (ssE W A) ps) lo) : PathE W A (stE ps (st.take (st.length - 1))) (stE ps lo) := by
  have hs0 := hs.ne
  have hr0 := hr.ne
  have hg := h.okG hl
  have oks : okL g.length (st.take (st.length - 1)) := fun x hx => hs.rg x (List.mem_of_mem_take hx)
  have hst : ∀ {l : List Int}, okL g.length l → okL W.2.1.length (stE ps l) := fun {l} hk x hx => by
    obtain ⟨n, hn, rfl⟩ := List.mem_map.1 hx
    have := hk n hn
    exact (hin _ (getDP_mem (by omega))).1
  have htl : (st.take (st.length - 1)).length = st.length - 1 := by rw [List.length_take]; omega
  have hgt : ∀ i, i < st.length - 1 → (st.take (st.length - 1)).getD i 0 = st.getD i 0 := fun i hi => by
    rw [List.getD_eq_getElem?_getD, List.getElem?_take_of_lt hi, ← List.getD_eq_getElem?_getD]
  have hlast : 0 ≤ st.getD (st.length - 1) 0 := by
    rw [List.getD_eq_getElem?_getD, List.getElem?_eq_getElem (by omega)]
    exact (hs.rg _ (List.getElem_mem (by omega))).1
  have hr1 : lo.getD 0 0 = st.getD (st.length - 1) 0 := by rw [hr.st]; omega
  -- edges
  generalize hq : st.take (st.length - 1) = sq at *
  have hln : 0 < (lo.map Int.toNat).length := by rw [List.length_map]; exact hr0
  have hcat : ∀ i, i + 1 < (sq ++ lo).length → (sq ++ lo).getD (i + 1) 0 ∈ g.getD ((sq ++ lo).getD i 0).toNat [] := fun i hi => by
    rw [List.length_append, htl] at hi
    by_cases e : i < st.length - 1
    · rw [getI_app1 (i := i) (by omega), hgt i e]
      have he := (hs.ed i (by omega)).1
      by_cases e2 : i + 1 < st.length - 1
      · rw [getI_app1 (by omega), hgt _ e2]; exact he
      · rw [getI_app2 (by omega), htl, show i + 1 - (st.length - 1) = 0 by omega, hr1, show st.length - 1 = i + 1 by omega]; exact he
    · rw [getI_app2 (i := i) (by omega), getI_app2 (i := i + 1) (by omega), htl, show i + 1 - (st.length - 1) = (i - (st.length - 1)) + 1 by omega]
      exact hr.ed _ (by omega)
  have hclo : lo.getD 0 0 ∈ g.getD ((sq ++ lo).getD ((sq ++ lo).length - 1) 0).toNat [] := by
    rw [List.length_append, getI_app2 (by omega), show sq.length + lo.length - 1 - sq.length = lo.length - 1 by omega, hr1]
    have := hr.cl
    rwa [Int.toNat_of_nonneg hlast] at this
  have hedge : ∀ i, edgeB g (sq.map Int.toNat) (lo.map Int.toNat) i = true := by
    rw [← edges_all hln, List.map_append, int_nat oks, int_nat hr.rg, List.all_eq_true]
    intro i hi
    rw [List.mem_range] at hi
    unfold stepB toPw
    rw [List.contains_iff_mem]
    split
    · exact hcat i (by assumption)
    · obtain rfl : i = (sq ++ lo).length - 1 := by omega
      exact hclo
  -- the way of pairs
  have hlat : ∀ i, lat (sq.map Int.toNat) (lo.map Int.toNat) i < ps.length := fun i => by
    have h1 := hedge i
    unfold edgeB at h1
    rw [List.contains_iff_mem] at h1
    have := Eg.lt1 (g := g) (u := lat (sq.map Int.toNat) (lo.map Int.toNat) i) h1
    omega
  have hfirst : (sq ++ lo).getD 0 0 = st.getD 0 0 := by
    by_cases e : 0 < st.length - 1
    · rw [getI_app1 (by omega), hgt 0 e]
    · rw [getI_app2 (by omega), htl, show 0 - (st.length - 1) = 0 by omega, hr1, show st.length - 1 = 0 by omega]
  have hfl : ((lat (sq.map Int.toNat) (lo.map Int.toNat) 0 : Nat) : Int) = st.getD 0 0 := by
    have := all_lat (s := sq.map Int.toNat) (l := lo.map Int.toNat) (i := 0) (by rw [List.length_append]; omega)
    rw [List.map_append, int_nat oks, int_nat hr.rg, hfirst] at this
    exact this.symm
  have hway : PWay (fitW W A) (nextE W A) (startE W A) (ssE W A) (fun i => ps.getD (lat (sq.map Int.toNat) (lo.map Int.toNat) i) (0, 0)) := by
    refine ⟨?_, fun i => h.ok _ (getDP_mem (hlat i)), fun i => ?_, fun S hS i => ?_⟩
    · obtain ⟨p, h1, h2, h3⟩ := (h.sn _).1 (show st.getD 0 0 ∈ fr from hs.st)
      have h4 := idxOf_at (h.sm p h1 h2)
      rw [show lat (sq.map Int.toNat) (lo.map Int.toNat) 0 = ps.idxOf p by omega, h4.2]
      exact h1
    · have he : ((lat (sq.map Int.toNat) (lo.map Int.toNat) (i + 1) : Nat) : Int) ∈ g.getD (lat (sq.map Int.toNat) (lo.map Int.toNat) i) [] := by simpa [edgeB] using hedge i
      obtain ⟨q, h1, h2, h3⟩ := (h.nn _ (by have := hlat i; omega) _).1 he
      have h4 := idxOf_at (h.nm _ (by have := hlat i; omega) q h1 h2)
      rw [show lat (sq.map Int.toNat) (lo.map Int.toNat) (i + 1) = ps.idxOf q by omega, h4.2]
      exact h1
    · obtain ⟨x, hx, hxs⟩ := hr.all (ps.map S) (List.mem_map.2 ⟨S, hS, rfl⟩)
      have hxr := hr.rg x hx
      rw [setsL_get (by omega)] at hxs
      obtain ⟨k, hk, rfl⟩ := List.mem_iff_getElem.1 hx
      obtain ⟨j, hj, he⟩ := lat_again (s := sq.map Int.toNat) (l := lo.map Int.toNat) (k := k) (by rw [List.length_map]; exact hk) i
      refine ⟨j, hj, ?_⟩
      have he2 : (lo.map Int.toNat).getD k 0 = lo[k].toNat := by rw [List.getD_eq_getElem?_getD, List.getElem?_map, List.getElem?_eq_getElem hk]; rfl
      rw [he, he2]
      exact hxs
  obtain ⟨hww, hacc⟩ := eway_run hW hA hway
  -- back to the world
  have okss := hst oks
  have okll := hst hr.rg
  have hmapN : ∀ {l : List Int}, okL g.length l → (stE ps l).map Int.toNat = (l.map Int.toNat).map fun n => (ps.getD n (0, 0)).1.toNat := fun {l} hk => by
    unfold stE
    rw [List.map_map, List.map_map]; rfl
  have hlatE : ∀ i, lat ((stE ps sq).map Int.toNat) ((stE ps lo).map Int.toNat) i = (ps.getD (lat (sq.map Int.toNat) (lo.map Int.toNat) i) (0, 0)).1.toNat := fun i => by
    rw [hmapN oks, hmapN hr.rg, lat_map hln]
  have hln2 : 0 < ((stE ps lo).map Int.toNat).length := by unfold stE; rw [List.length_map, List.length_map]; exact hr0
  refine ⟨okss, okll, by unfold stE; rw [List.length_map]; exact hr0, ?_, ?_⟩
  · unfold goodB
    rw [Bool.and_eq_true, Bool.and_eq_true]
    refine ⟨⟨?_, ?_⟩, ?_⟩
    · have h1 := hww.first
      rw [← hlatE] at h1
      rw [← int_nat okss, ← int_nat okll, ← List.map_append, all_lat (by rw [List.length_append]; omega)]
      simpa using h1
    · rw [← int_nat okss, ← int_nat okll, ← List.map_append, edges_all hln2]
      intro i
      have h1 := hww.step i
      rw [← hlatE, ← hlatE] at h1
      simpa [edgeB] using h1
    · rw [List.all_eq_true]
      intro F hF
      rw [List.any_eq_true]
      obtain ⟨x, hx, hxs⟩ := hr.all (ps.map fun p => decide (p.1 ∈ F)) (List.mem_map.2 ⟨_, List.mem_append_left _ (List.mem_map.2 ⟨F, hF, rfl⟩), rfl⟩)
      have hxr := hr.rg x hx
      rw [setsL_get (by omega)] at hxs
      exact ⟨_, of_decide_eq_true hxs, by rw [List.contains_iff_mem]; exact List.mem_map.2 ⟨x, hx, rfl⟩⟩
  · have e1 := labL_nat (lb := W.2.2.1) okss
    have e2 := labL_nat (lb := W.2.2.1) okll
    rw [e1, e2]
    exact (Acc.congr fun i => (by rw [lat_map hln2, hlatE] : W.2.2.1.getD (ps.getD (lat (sq.map Int.toNat) (lo.map Int.toNat) i) (0, 0)).1.toNat 0 = _)).1 hacc
end
end Go.Proofs.Ytllpfgcngokhnaa
/-
  Maps from a key to its number, made by the call: the keys as a list, in the order in which they came. Over any program.
-/
set_option linter.unusedVariables false
set_option linter.unusedSimpArgs false
namespace Go.Proofs.Ytllpfgcngokhnaa
open Go.RowKit

/-- a map type, its key's type and its element's type -/
class IsM (P : Program) (t : TypeId) (k e : outParam TypeId) : Prop where
  ok : P.underlying t = some (.map k e)
/-- keys of which the model's order is whole -/
class IsKy (P : Program) (k : TypeId) : Prop where
  ok : WideMaps.KeyLaw P k
theorem IsKy.of {P : Program} {k : TypeId} {d : TypeDesc} (hl : laidOutB P = true) {m : Nat} (hm : Nat.ble (m + 1) 10000 = true) (hrow : Nat.ble (k + 1) P.types.size = true) (hk : P.keyTypeAt m k = true) (hu : P.underlying k = some d) (hd : aggD d = true) : IsKy P k :=
  ⟨deep_law_laid hl (Nat.le_of_ble_eq_true hm) (Nat.lt_of_succ_le (Nat.le_of_ble_eq_true hrow)) hk (by
    rw [hu]; cases d <;> first | rfl | (cases hd))⟩
/-- a type whose zero value is the number 0 -/
class IsZ0 (P : Program) (e : TypeId) : Prop where
  ok : (P.info? e).map (fun i => i.zero) = some (some (.int .i64 0))
/-- v is a key of type k -/
def KeyV (P : Program) (k : TypeId) (v : Value) : Prop := ∃ l, keyOf P k v = some l
/-- block b is a map that holds the keys ks, each with its number -/
def NumM (P : Program) (k : TypeId) (w : World) (b : Nat) (ks : List Value) : Prop :=
  ∃ (es : Array MapEntry) (clock : Nat), w.heap[b]? = some (.map es clock) ∧ es.toList.map (·.key) = ks ∧ (∀ (i : Nat) (e : MapEntry), es.toList[i]? = some e → e.val = .int .i64 (i : Int)) ∧ (∀ x ∈ ks, KeyV P k x) ∧ ks.Nodup
section
variable {P : Program} {k : TypeId} {w w' : World} {b : Nat} {ks : List Value}
theorem NumM.lt (h : NumM P k w b ks) : b < w.heap.size := by
  obtain ⟨es, clock, hb, _⟩ := h
  exact (Array.getElem?_eq_some_iff.1 hb).1
theorem NumM.at (h : NumM P k w b ks) (hb : w'.heap[b]? = w.heap[b]?) : NumM P k w' b ks := by
  obtain ⟨es, clock, h1, h2⟩ := h
  exact ⟨es, clock, hb.trans h1, h2⟩
theorem NumM.ext (h : NumM P k w b ks) (hE : Ext w w') : NumM P k w' b ks := h.at (hE.block b h.lt)
theorem NumM.kept {row : Option Nat} (h : NumM P k w b ks) (hg : w.grownBy w' row) (hne : some b ≠ row) : NumM P k w' b ks := h.at (hg.block b h.lt hne)
theorem NumM.made (w : World) : NumM P k (w.alloc (.map #[] 0)) w.heap.size [] :=
  ⟨#[], 0, heap_alloc_new w _, rfl, fun i e h => by simp at h, fun x h => by simp at h, List.Pairwise.nil⟩
theorem run_num {t e : TypeId} {x : Value} [ht : IsM P t k e] [hk : IsKy P k] [hz : IsZ0 P e] (h : NumM P k w b ks) (hx : KeyV P k x) :
    (x ∉ ks ∧ (Instr.lookup t (.map (some b)) x true).run P w = .ok (.tuple #[.int .i64 0, .bool false]) w) ∨
    ∃ (j : Nat) (hj : j < ks.length), ks[j] = x ∧ (Instr.lookup t (.map (some b)) x true).run P w = .ok (.tuple #[.int .i64 (j : Int), .bool true]) w := by
  obtain ⟨es, clock, hb, hes, hv, hks, hnd⟩ := h
  obtain ⟨l, hx⟩ := hx
  obtain ⟨i, h1, h2⟩ := Option.map_eq_some_iff.1 hz.ok
  have hzr : (zeroValue e).run P w = .ok (.int .i64 0) w := by simp [zeroValue, typeInfo, h1, h2]
  have hkeys : ∀ e ∈ es.toList, ∃ l, keyOf P k e.key = some l := fun e he => hks _ (hes ▸ List.mem_map.2 ⟨e, he, rfl⟩)
  rcases hk.ok.find w hx es.toList hkeys with ⟨g1, g2⟩ | ⟨j, e0, g1, g2, g3⟩
  · refine .inl ⟨fun hm => ?_, by simp [Instr.lookup, run_underlying ht.ok, MapKept.run_getObj_map hb, hk.ok.check w _ hx, g1, hzr, Result.andThen]⟩
    rw [← hes] at hm
    obtain ⟨e, he, hke⟩ := List.mem_map.1 hm
    exact g2 e he hke
  · have hj : j < ks.length := by rw [← hes, List.length_map]; exact (List.getElem?_eq_some_iff.1 g2).1
    refine .inr ⟨j, hj, ?_, ?_⟩
    · subst hes
      rw [List.getElem_map, ← g3]
      congr 1
      exact (List.getElem?_eq_some_iff.1 g2).2
    · have hval := hv j e0 g2
      simp [Instr.lookup, run_underlying ht.ok, MapKept.run_getObj_map hb, hk.ok.check w _ hx, g1, Result.andThen, hval]
theorem run_numPut {t e : TypeId} {x : Value} [ht : IsM P t k e] [hk : IsKy P k] (h : NumM P k w b ks) (hx : KeyV P k x) (hn : x ∉ ks) :
    ∃ w', (Instr.mapUpdate t (.map (some b)) x (.int .i64 (ks.length : Int))).run P w = .ok () w' ∧ NumM P k w' b (ks ++ [x]) ∧ w.grownBy w' (some b) := by
  obtain ⟨es, clock, hb, hes, hv, hks, hnd⟩ := h
  obtain ⟨l, hx'⟩ := hx
  have hkeys : ∀ e ∈ es.toList, ∃ l, keyOf P k e.key = some l := fun e he => hks _ (hes ▸ List.mem_map.2 ⟨e, he, rfl⟩)
  have hsz : es.toList.length = ks.length := by rw [← hes, List.length_map]
  have hlt := (Array.getElem?_eq_some_iff.1 hb).1
  rcases hk.ok.find w hx' es.toList hkeys with ⟨g1, g2⟩ | ⟨j, e0, g1, g2, g3⟩
  · refine ⟨_, by simp [Instr.mapUpdate, run_underlying ht.ok, MapKept.run_getObj_map hb, hk.ok.check w false hx', g1, MapKept.run_setObj_map _ hb, Result.andThen]; rfl, ?_, ?_⟩
    · refine ⟨es.push ⟨x, .int .i64 (ks.length : Int), clock⟩, clock + 1, by simp [hlt], by simp [hes], fun i e he => ?_, fun y hy => ?_, ?_⟩
      · rw [Array.toList_push] at he
        rcases Nat.lt_or_ge i es.toList.length with hi | hi
        · rw [List.getElem?_append_left hi] at he
          exact hv i e he
        · rw [List.getElem?_append_right hi] at he
          have h0 : i - es.toList.length = 0 := by
            have := (List.getElem?_eq_some_iff.1 he).1
            simp at this; omega
          rw [h0] at he
          simp at he
          subst he
          show Value.int .i64 (ks.length : Int) = _
          congr 1; omega
      · rcases List.mem_append.1 hy with hy | hy
        · exact hks y hy
        · rw [List.mem_singleton] at hy; subst hy; exact ⟨l, hx'⟩
      · rw [List.nodup_append]
        refine ⟨hnd, by simp, fun a ha c hc e => ?_⟩
        rw [List.mem_singleton] at hc
        subst hc; subst e; exact hn ha
    · exact ⟨rfl, rfl, rfl, by simp, fun i _ hi => by
        simp only [Array.getElem?_setIfInBounds]
        rw [if_neg (fun e => hi (by rw [e]))]⟩
  · exact absurd (hes ▸ List.mem_map.2 ⟨e0, List.mem_of_getElem? g2, g3⟩) hn
end

section
variable {P : Program} {Q : Exit → Act → World → Prop} {n : Nat} {σ : Sg} {w : World} {L rest : List Oper} {d : Nat} {ty : TypeId} {pos : String} {af : Array Edge} {g : Option (Nat × Bool)} {t k e : TypeId} {b : Nat} {ks : List Value} {x y z : Operand} {v : Value}
/-- v, ok := m[x] -/
theorem WL.num (hg : gd L σ ⟨some d, .lookup t x y true, ty, pos, af, g⟩ = some true) (hd : Nat.ble (d + 1) n = true) (hx : ev σ x = some (.map (some b))) (hy : ev σ y = some v) [ht : IsM P t k e] [hk : IsKy P k] [hz : IsZ0 P e]
    (h : NumM P k w b ks) (hv : KeyV P k v)
    (h1 : v ∉ ks → WL P L Q rest n ((d, .tuple ⟨[.int .i64 0, .bool false]⟩) :: σ) w)
    (h2 : ∀ (j : Nat) (hj : j < ks.length), ks[j] = v → WL P L Q rest n ((d, .tuple ⟨[.int .i64 (j : Int), .bool true]⟩) :: σ) w) :
    WL P L Q (⟨some d, .lookup t x y true, ty, pos, af, g⟩ :: rest) n σ w := by
  rcases run_num (t := t) h hv with ⟨g1, g2⟩ | ⟨j, hj, g1, g2⟩
  · refine WL.run hg hd (fun a ha => ?_) (h1 g1)
    simp [execOp, ha.ev hx, ha.ev hy, g2]
  · refine WL.run hg hd (fun a ha => ?_) (h2 j hj g1)
    simp [execOp, ha.ev hx, ha.ev hy, g2]
/-- m[x] = len(m), at a new key -/
theorem WL.numPut (hg : gd L σ ⟨none, .mapUpdate t x y z, ty, pos, af, g⟩ = some true) (hx : ev σ x = some (.map (some b))) (hy : ev σ y = some v) (hzv : ev σ z = some (.int .i64 (ks.length : Int))) [ht : IsM P t k e] [hk : IsKy P k]
    (h : NumM P k w b ks) (hv : KeyV P k v) (hn : v ∉ ks)
    (hr : ∀ w', NumM P k w' b (ks ++ [v]) → w.grownBy w' (some b) → WL P L Q rest n σ w') :
    WL P L Q (⟨none, .mapUpdate t x y z, ty, pos, af, g⟩ :: rest) n σ w := by
  obtain ⟨w', g1, g2, g3⟩ := run_numPut (t := t) h hv hn
  refine WL.runU hg (fun a ha => ?_) (hr w' g2 g3)
  simp [execOp, ha.ev hx, ha.ev hy, ha.ev hzv, g1]
/-- make(map[K]int) -/
theorem WL.mkMap (hg : gd L σ ⟨some d, .makeMap t none, ty, pos, af, g⟩ = some true) (hd : Nat.ble (d + 1) n = true)
    (h : NumM P k (w.alloc (.map #[] 0)) w.heap.size [] → WL P L Q rest n ((d, .map (some w.heap.size)) :: σ) (w.alloc (.map #[] 0))) :
    WL P L Q (⟨some d, .makeMap t none, ty, pos, af, g⟩ :: rest) n σ w := by
  refine WL.run hg hd (fun a ha => ?_) (h (NumM.made w))
  simp [execOp, Instr.makeMap]
end
/-- a key that is a pair of numbers -/
theorem KeyV.pair {P : Program} {k fa fb : TypeId} {x y : Int} (h : (P.keyType k && Value.formed P k (.agg #[.int .i64 0, .int .i64 0])) = true)
    (hk : ∀ a b : Int, P.keyLits (P.types.size + 1) k [.int .i64 a, .int .i64 b] = (if (Lit.int .i64 a).wf = true ∧ (Lit.int .i64 b).wf = true then some [.int .i64 a, .int .i64 b] else none))
    (hd : ∃ d, P.underlying k = some (.struct d)) (hx : (Lit.int .i64 x).wf = true) (hy : (Lit.int .i64 y).wf = true) : KeyV P k (.agg ⟨[.int .i64 x, .int .i64 y]⟩) := by
  obtain ⟨d, hd⟩ := hd
  refine ⟨.string (keyBytes [.int .i64 x, .int .i64 y]), ?_⟩
  unfold keyOf
  rw [hd]
  dsimp only
  have hf : Value.formed P k (.agg ⟨[.int .i64 x, .int .i64 y]⟩) = Value.formed P k (.agg #[.int .i64 0, .int .i64 0]) := by
    unfold Value.formed
    rw [hd]; rfl
  rw [hf, if_pos h]
  show Option.map _ (P.keyLits (P.types.size + 1) k [.int .i64 x, .int .i64 y]) = _
  rw [hk, if_pos ⟨hx, hy⟩]
  rfl
end Go.Proofs.Ytllpfgcngokhnaa
/-
  Maps in drawn regions that only read.
-/
set_option linter.unusedVariables false
set_option linter.unusedSimpArgs false
namespace Go.Proofs.Ytllpfgcngokhnaa
open Go.RowKit

theorem nodup_get {α : Type} {l : List α} (h : l.Nodup) {i j : Nat} (hi : i < l.length) (hj : j < l.length) (e : l[i] = l[j]) : i = j := by
  have h := List.pairwise_iff_getElem.1 h
  rcases Nat.lt_trichotomy i j with hlt | he | hlt
  · exact absurd e (h i j hi hj hlt)
  · exact he
  · exact absurd e.symm (h j i hj hi hlt)
section
variable {P : Program} {Q : Exit → Act → World → Prop} {n : Nat} {σ : Sg} {w : World} {L rest : List Oper} {d : Nat} {ty : TypeId} {pos : String} {af : Array Edge} {g : Option (Nat × Bool)} {t k e : TypeId} {b : Nat} {ks : List Value} {x y z : Operand} {v : Value}
theorem QL.numNo (hg : gd L σ ⟨some d, .lookup t x y true, ty, pos, af, g⟩ = some true) (hd : Nat.ble (d + 1) n = true) (hx : ev σ x = some (.map (some b))) (hy : ev σ y = some v) [ht : IsM P t k e] [hk : IsKy P k] [hz : IsZ0 P e]
    (h : NumM P k w b ks) (hv : KeyV P k v) (hn : v ∉ ks) (hr : QL P L w Q rest n ((d, .tuple ⟨[.int .i64 0, .bool false]⟩) :: σ)) : QL P L w Q (⟨some d, .lookup t x y true, ty, pos, af, g⟩ :: rest) n σ := by
  refine QL.run hg hd (fun a ha w' hw' => ?_) hr
  rcases run_num (t := t) (h.ext hw') hv with ⟨_, g2⟩ | ⟨j, hj, g1, g2⟩
  · simp [execOp, ha.ev hx, ha.ev hy, g2]
  · exact absurd (g1 ▸ List.getElem_mem hj) hn
theorem QL.numYes {j : Nat} (hj : j < ks.length) (hjv : ks[j] = v) (hg : gd L σ ⟨some d, .lookup t x y true, ty, pos, af, g⟩ = some true) (hd : Nat.ble (d + 1) n = true) (hx : ev σ x = some (.map (some b))) (hy : ev σ y = some v) [ht : IsM P t k e] [hk : IsKy P k] [hz : IsZ0 P e]
    (h : NumM P k w b ks) (hv : KeyV P k v) (hr : QL P L w Q rest n ((d, .tuple ⟨[.int .i64 (j : Int), .bool true]⟩) :: σ)) : QL P L w Q (⟨some d, .lookup t x y true, ty, pos, af, g⟩ :: rest) n σ := by
  refine QL.run hg hd (fun a ha w' hw' => ?_) hr
  rcases run_num (t := t) (h.ext hw') hv with ⟨g1, _⟩ | ⟨i, hi, g1, g2⟩
  · exact absurd (hjv ▸ List.getElem_mem hj) g1
  · obtain ⟨_, _, _, _, _, _, hnd⟩ := h
    obtain rfl : i = j := nodup_get hnd hi hj (g1.trans hjv.symm)
    simp [execOp, ha.ev hx, ha.ev hy, g2]
end
theorem HL.ldAQ {P : Program} {Q : Exit → Act → World → Prop} {n : Nat} {σ : Sg} {w wc : World} {L : List Oper} {S : World → Prop} {ord : List (Nat × Bool)} {i d : Nat} {ty : TypeId} {pos : String} {af : Array Edge} {g : Option (Nat × Bool)} {t e : TypeId} {x : Operand} {b o k : Nat} {cells vs : List Value}
    (hK : ∀ w1, S w1 → w1.heap[b]? = w.heap[b]?) (ho : nthO L i = some ⟨some d, .load t x, ty, pos, af, g⟩) (hg : gd L σ ⟨some d, .load t x, ty, pos, af, g⟩ = some true) (hd : Nat.ble (d + 1) n = true) (hx : ev σ x = some (.pointer (some ⟨b, o, none⟩))) [hc : IsC P t k true] (hb : Blk w b e cells) (hv : segL cells o k = some vs)
    (h : HL P L S Q ord n ((d, .agg vs.toArray) :: σ) wc) : HL P L S Q ((i, true) :: ord) n σ wc := by
  refine HL.run ho hg hd (fun a ha w' hsw => ?_) h
  have hb' : Blk w' b e cells := (hK w' hsw).trans hb
  simp [execOp, ha.ev hx, run_ldA (P := P) (t := t) w' hb' hv]
end Go.Proofs.Ytllpfgcngokhnaa
/-
  Lists of lists that grow: the outer row is owned, the inner ones stay as they are. Over any program.
-/
set_option linter.unusedVariables false
set_option linter.unusedSimpArgs false
namespace Go.Proofs.Ytllpfgcngokhnaa
open Go.RowKit

/-- what nobody changes: all but the blocks of M -/
def Fz (w : World) (M : Nat → Prop) : Nat → Prop := fun b => b < w.heap.size ∧ ¬ M b
section
variable {α : Type} [Rep α]
theorem Fz.keep {w w' : World} {M M' : Nat → Prop} (hC : Chg M w w') (hM : ∀ b, M' b → M b ∨ w.heap.size ≤ b) : (∀ b, Fz w M b → w'.heap[b]? = w.heap[b]?) ∧ ∀ b, Fz w M b → Fz w' M' b :=
  ⟨fun b hb => hC.block b hb.1 hb.2, fun b hb => ⟨Nat.lt_of_lt_of_le hb.1 hC.size, fun h => (hM b h).elim hb.2 (fun h => absurd hb.1 (by omega))⟩⟩
theorem Rd.fz {w w' : World} {M M' : Nat → Prop} {v : Value} {x : α} (h : Rd w (Fz w M) v x) (hC : Chg M w w') (hM : ∀ b, M' b → M b ∨ w.heap.size ≤ b) : Rd w' (Fz w' M') v x := h.mono (Fz.keep hC hM).1 (Fz.keep hC hM).2
theorem Sl.fz {w w' : World} {M M' : Nat → Prop} {ao : Option Addr} {cap : Nat} {xs : List α} (h : Sl w (Fz w M) ao cap xs) (hC : Chg M w w') (hM : ∀ b, M' b → M b ∨ w.heap.size ≤ b) : Sl w' (Fz w' M') ao cap xs := h.mono (Fz.keep hC hM).1 (Fz.keep hC hM).2
theorem Rd.old' {w : World} {M : Nat → Prop} {v : Value} {x : α} (h : Rd w (Fz w M) v x) : Rd w (Old w) v x := h.mono (fun _ _ => rfl) fun _ h => h.1
theorem Sl.old' {w : World} {M : Nat → Prop} {ao : Option Addr} {cap : Nat} {xs : List α} (h : Sl w (Fz w M) ao cap xs) : Sl w (Old w) ao cap xs := h.mono (fun _ _ => rfl) fun _ h => h.1
theorem Sl.toFz {w : World} {F M : Nat → Prop} {ao : Option Addr} {cap : Nat} {xs : List α} (h : Sl w F ao cap xs) (hF : ∀ b, F b → b < w.heap.size ∧ ¬ M b) : Sl w (Fz w M) ao cap xs := h.mono (fun _ _ => rfl) hF
theorem Chg.of_ext {w w' : World} (M : Nat → Prop) (h : Ext w w') : Chg M w w' := ⟨h.os, h.tape, h.output, h.size, fun k hk _ => h.block k hk⟩
theorem Chg.trans {M : Nat → Prop} {a b c : World} (h : Chg M a b) (k : Chg M b c) : Chg M a c :=
  ⟨k.os.trans h.os, k.tape.trans h.tape, k.output.trans h.output, Nat.le_trans h.size k.size, fun i hi hn => (k.block i (Nat.lt_of_lt_of_le hi h.size) hn).trans (h.block i hi hn)⟩
/-- .. where the second changes new blocks too -/
theorem Chg.then {M M' : Nat → Prop} {a b c : World} (h : Chg M a b) (k : Chg M' b c) (hM : ∀ i, M' i → M i ∨ a.heap.size ≤ i) : Chg M a c :=
  ⟨k.os.trans h.os, k.tape.trans h.tape, k.output.trans h.output, Nat.le_trans h.size k.size, fun i hi hn => (k.block i (Nat.lt_of_lt_of_le hi h.size) (fun hm => (hM i hm).elim hn (by omega))).trans (h.block i hi hn)⟩
theorem Chg.wk {M M' : Nat → Prop} {a b : World} (h : Chg M a b) (hM : ∀ i, M i → M' i) : Chg M' a b := ⟨h.os, h.tape, h.output, h.size, fun i hi hn => h.block i hi (fun hm => hn (hM i hm))⟩
theorem Chg.of_grown {w w' : World} {row : Option Nat} (hg : w.grownBy w' row) : Chg (fun b => row = some b) w w' := (Chg.refl _ w).grown hg fun g h => h
/-- inner rows, read -/
structure InnR (w : World) (M : Nat → Prop) (vs : List Raw) (xs : List (List α)) : Prop where
  len : vs.length = xs.length
  el : ∀ i (h : i < vs.length) (h' : i < xs.length), Rd w (Fz w M) vs[i].v xs[i]
theorem InnR.nil {w : World} {M : Nat → Prop} : InnR w M [] ([] : List (List α)) := ⟨rfl, fun i h => absurd h (by simp)⟩
theorem InnR.to {w w' : World} {M M' : Nat → Prop} {vs : List Raw} {xs : List (List α)} (h : InnR w M vs xs) (hC : Chg M w w') (hM : ∀ b, M' b → M b ∨ w.heap.size ≤ b) : InnR w' M' vs xs := ⟨h.len, fun i h1 h2 => (h.el i h1 h2).fz hC hM⟩
theorem InnR.push {w : World} {M : Nat → Prop} {vs : List Raw} {xs : List (List α)} {v : Value} {x : List α} (h : InnR w M vs xs) (hv : Rd w (Fz w M) v x) : InnR w M (vs ++ [(⟨v⟩ : Raw)]) (xs ++ [x]) := by
  refine ⟨by simp [h.len], fun i h1 h2 => ?_⟩
  rcases Nat.lt_or_ge i vs.length with hi | hi
  · rw [List.getElem_append_left hi, List.getElem_append_left (by rw [← h.len]; exact hi)]
    exact h.el i hi _
  · have hl := h.len
    obtain rfl : i = vs.length := by simp at h1; omega
    rw [List.getElem_append_right (Nat.le_refl _), List.getElem_append_right (by omega)]
    simp only [hl, Nat.sub_self, List.getElem_cons_zero]
    exact hv
/-- the whole, read -/
theorem InnR.sl {w : World} {M F : Nat → Prop} {B : Nat} {e : TypeId} {v : Value} {vs : List Raw} {xs : List (List α)} (h : InnR w M vs xs) (ho : Own w B e Non v vs) (hF : ∀ b, Fz w M b → F b) (hv : ∀ g, v.ownBlock = some g → F g) : ∃ ao cap, v = .slice ao xs.length cap ∧ Sl w F ao cap xs := by
  obtain ⟨ao, cap, e, hs⟩ := ho.slF (F' := F) (fun _ h => h.elim) hv
  refine ⟨ao, cap, by rw [← h.len]; exact e, ⟨by rw [← h.len]; exact hs.le, hs.mx, hs.nil, fun i hi => ?_⟩⟩
  have hi' : i < vs.length := by rw [h.len]; exact hi
  obtain ⟨b, off, e1, hF1, es, hc, hr⟩ := hs.el i hi'
  obtain ⟨rfl, h1⟩ := hr
  obtain ⟨io, ic, e2, hs2⟩ := (h.el i hi' hi).sl
  exact ⟨b, off, e1, hF1, [vs[i].v], hc, io, ic, by rw [e2], hs2.mono (fun _ _ => rfl) hF⟩
theorem InnR.old {w : World} {M : Nat → Prop} {B : Nat} {e : TypeId} {v : Value} {vs : List Raw} {xs : List (List α)} (h : InnR w M vs xs) (ho : Own w B e Non v vs) : ∃ ao cap, v = .slice ao xs.length cap ∧ Sl w (Old w) ao cap xs :=
  h.sl ho (fun _ h => h.1) (fun g hg => (ho.lt g hg).2.1)
end
end Go.Proofs.Ytllpfgcngokhnaa
