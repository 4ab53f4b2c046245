import Derived.Test.YtllpfgcngokhnaaGreatPtLabelWords4
/-
  Package world: Check, Good, Word: walked.
-/
set_option linter.unusedVariables false
set_option linter.unusedSimpArgs false
namespace Go.Proofs.YtllpfgcngokhnaaGreat
open Go.RowKit

theorem wodd1 (n : Nat) (x : Int) (b : Nat) (w : World) (hb : Blk w b 3 [.int .i64 n]) :
    Rt Tryz.prog 61 [.int .i64 x, .pointer (some ⟨b, 0, none⟩)].toArray w fun v w' => v = .bool (decide (x < 0 ∨ x ≥ n)) ∧ w = w' := by
  refine Rt.enter2 Tryz.func61 Tryz.ntmps61 rfl rfl ?_
  (repeat (first | (apply WL.pure; rfl; rfl; rfl) | (apply WL.nil) | (apply EX.thenN) | (apply CW.seq) | (apply CW.region)))
  refine WL.look (s := 6) rfl (fun h => ?_) (fun h => ?_)
  · (repeat (first | (apply WL.pure; rfl; rfl; rfl) | (apply WL.nil) | (apply EX.thenN) | (apply WL.pass; rfl; rfl) | (apply CW.ret)))
    refine EX.ret1 rfl rfl ?_
    simp at h
    simp [h]
  · (repeat (first | (apply WL.pure; rfl; rfl; rfl) | (apply WL.nil) | (apply EX.thenN) | (apply WL.ld; rfl; rfl; rfl; assumption; rfl) | (apply CW.ret)))
    refine EX.ret1 rfl rfl ?_
    simp at h
    simp [Int.not_lt.2 h]
theorem wodd_ok (w0 : World) {lo : Option Addr} {lcap : Nat} {l : List Int} (n : Nat) (hl : Sl w0 (Old w0) lo lcap l) :
    Rt Tryz.prog 26 [.slice lo l.length lcap, .int .i64 n].toArray w0 fun v w' => v = .bool (oddB n l) ∧ Ext w0 w' := by
  refine Rt.enter2 Tryz.func26 Tryz.ntmps26 rfl rfl ?_
  (repeat (first | (apply CW.seq) | (apply CW.region)))
  refine WL.boxB rfl rfl rfl fun w1 hb hE => ?_
  (repeat (first | (apply WL.pure; rfl; rfl; rfl) | (apply WL.nil) | (apply EX.thenN) | (apply CW.seq) | (apply CW.region) | (apply WL.makeFunc; rfl; rfl; rfl; rfl)))
  refine WL.call rfl rfl rfl (containsFunc_int w1 (fun x => decide (x < 0 ∨ x ≥ n)) (hl.up hE) (fun w hw i h => ?_)) ?_
  · refine FnV.mk (Rt.mono (wodd1 n _ _ w (hb.ext hw)) ?_)
    rintro v w' ⟨rfl, rfl⟩
    exact ⟨rfl, Ext.refl _⟩
  · rintro v w' ⟨rfl, hB⟩
    (repeat (first | (apply WL.pure; rfl; rfl; rfl) | (apply WL.nil) | (apply EX.thenN) | (apply CW.ret)))
    exact EX.ret1 rfl rfl ⟨rfl, hE.trans hB⟩
abbrev worldV (a1 : Option Addr) (c1 : Nat) (a2 : Option Addr) (c2 : Nat) (a3 : Option Addr) (c3 : Nat) (a4 : Option Addr) (c4 : Nat) (n1 n2 n3 n4 : Nat) : Value := .agg [.slice a1 n1 c1, .slice a2 n2 c2, .slice a3 n3 c3, .slice a4 n4 c4].toArray
theorem wchk1 (w : World) {lo : Option Addr} {lcap : Nat} {l : List Int} (n : Nat) (b : Nat) (hb : Blk w b 3 [.int .i64 n]) (hl : Sl w (Old w) lo lcap l) :
    Rt Tryz.prog 28 [.slice lo l.length lcap, .pointer (some ⟨b, 0, none⟩)].toArray w fun v w' => v = .bool (oddB n l) ∧ Ext w w' := by
  refine Rt.enter2 Tryz.func28 Tryz.ntmps28 rfl rfl ?_
  (repeat (first | (apply WL.pure; rfl; rfl; rfl) | (apply WL.nil) | (apply EX.thenN) | (apply CW.seq) | (apply CW.region) | (apply WL.ld; rfl; rfl; rfl; assumption; rfl)))
  refine WL.call rfl rfl rfl (wodd_ok w n hl) ?_
  rintro _ w' ⟨rfl, hE⟩
  (repeat (first | (apply WL.pure; rfl; rfl; rfl) | (apply WL.nil) | (apply EX.thenN) | (apply CW.ret)))
  exact EX.ret1 rfl rfl ⟨rfl, hE⟩
theorem wCheck_ok (w0 : World) {a1 a2 a3 a4 : Option Addr} {c1 c2 c3 c4 k : Nat} {st : List Int} {nx fr : List (List Int)} (h1 : Sl w0 (Old w0) a1 c1 st) (h2 : Sl w0 (Old w0) a2 c2 nx) (hk : k ≤ 9223372036854775807) (h4 : Sl w0 (Old w0) a4 c4 fr) :
    Rt Tryz.prog 18 [worldV a1 c1 a2 c2 a3 c3 a4 c4 st.length nx.length k fr.length].toArray w0 fun v w' => v = .int .i64 (chkWd st nx k fr) ∧ Ext w0 w' := by
  have hm2 := h2.len63
  have hm4 := h4.len63
  refine Rt.enter1 Tryz.func18 Tryz.ntmps18 rfl rfl ?_
  (repeat (first | (apply CW.seq) | (apply CW.region)))
  refine WL.boxB rfl rfl rfl fun w1 hb hE1 => ?_
  (repeat (first | (apply WL.pure; rfl; rfl; rfl) | (apply WL.nil) | (apply EX.thenN) | (apply CW.seq) | (apply CW.region) | (apply WL.lenS; rfl; rfl; rfl) | (apply WL.fa; rfl; rfl; rfl) | (apply WL.ld; rfl; rfl; rfl; assumption; rfl)))
  refine WL.alloc rfl rfl (fun w2 hn hE2 => ?_)
  have hb2 := hb.ext hE2
  skip
  refine WL.st rfl rfl rfl hn rfl rfl (ones_of rfl) (fun w3 hn3 hg3 => ?_)
  have hb3 := hb2.kept hg3 (by simp; have := hb.lt; omega)
  have hE3 : Ext w0 w3 := (hE1.trans hE2).grown hg3 (Nat.le_trans hE1.size hE2.size) (fun g hg => by cases hg; exact hE1.size)
  clear hb hn hE1 hE2 hb2 hg3
  (repeat (first | (apply WL.pure; rfl; rfl; rfl) | (apply WL.nil) | (apply EX.thenN) | (apply CW.seq) | (apply CW.region) | (apply WL.ld; rfl; rfl; rfl; assumption; rfl)))
  (refine WL.lookG rfl rfl (fun h => ?_) (fun h => ?_))
  · (repeat (first | (apply WL.pure; rfl; rfl; rfl) | (apply WL.nil) | (apply EX.thenN) | (apply CW.seq) | (apply CW.region) | (apply WL.pass; rfl; rfl) | (apply CW.condT; rfl) | (apply CW.ret) | (apply EX.thenR)))
    refine EX.ret1 rfl rfl ⟨?_, hE3⟩
    have h : nx.length > 600 := by simp at h; omega
    unfold chkWd; rw [if_pos (.inl h)]
  have h : nx.length ≤ 600 := by simp at h; omega
  (repeat (first | (apply WL.pure; rfl; rfl; rfl) | (apply WL.nil) | (apply EX.thenN) | (apply WL.lenS; rfl; rfl; rfl) | (apply WL.fa; rfl; rfl; rfl) | (apply WL.ld; rfl; rfl; rfl; assumption; rfl)))
  refine CW.cond rfl (fun h5 => ?_) (fun h5 => ?_)
  · (repeat (first | (apply WL.pure; rfl; rfl; rfl) | (apply WL.nil) | (apply EX.thenN) | (apply CW.seq) | (apply CW.region) | (apply CW.ret) | (apply EX.thenR)))
    refine EX.ret1 rfl rfl ⟨?_, hE3⟩
    have h5 : fr.length > 80 := by simp at h5; omega
    unfold chkWd; rw [if_pos (.inr h5)]
  have h5 : fr.length ≤ 80 := by simp at h5; omega
  unfold chkWd
  rw [if_neg (by omega)]
  (repeat (first | (apply WL.pure; rfl; rfl; rfl) | (apply EX.thenN) | (apply CW.seq) | (apply CW.region) | (apply WL.lenS; rfl; rfl; rfl) | (apply WL.fa; rfl; rfl; rfl) | (apply WL.ld; rfl; rfl; rfl; assumption; rfl) | (apply CW.skip)))
  (refine WL.lookG rfl rfl (fun h => ?_) (fun h => ?_))
  · (repeat (first | (apply WL.pure; rfl; rfl; rfl) | (apply WL.nil) | (apply EX.thenN) | (apply CW.seq) | (apply CW.region) | (apply WL.pass; rfl; rfl) | (apply CW.condT; rfl) | (apply CW.ret) | (apply EX.thenR)))
    refine EX.ret1 rfl rfl ⟨?_, hE3⟩
    have h6 : k ≠ nx.length := by
      have : ¬ (k : Int) = (nx.length : Int) := by simp at h; omega
      omega
    rw [if_pos (.inl h6)]
  have h6 : k = nx.length := by
    have : (k : Int) = (nx.length : Int) := by simp at h; omega
    omega
  subst h6
  (repeat (first | (apply WL.fa; rfl; rfl; rfl) | (apply WL.ld; rfl; rfl; rfl; assumption; rfl)))
  refine WL.call rfl rfl rfl (wodd_ok w3 nx.length (h1.up hE3)) ?_
  rintro _ w4 ⟨rfl, e4⟩
  have hb4 := hb3.ext e4
  have hn4 := hn3.ext e4
  have hE4 := hE3.trans e4
  (repeat (first | (apply WL.pure; rfl; rfl; rfl) | (apply WL.nil) | (apply EX.thenN)))
  refine CW.cond rfl (fun h7 => ?_) (fun h7 => ?_)
  · (repeat (first | (apply WL.pure; rfl; rfl; rfl) | (apply WL.nil) | (apply EX.thenN) | (apply CW.seq) | (apply CW.region) | (apply CW.ret) | (apply EX.thenR)))
    refine EX.ret1 rfl rfl ⟨?_, hE4⟩
    rw [if_pos (.inr h7)]
  rw [if_neg (by rw [h7]; simp)]
  clear hb3 hn3 hE3 e4
  (repeat (first | (apply WL.pure; rfl; rfl; rfl) | (apply WL.nil) | (apply EX.thenN) | (apply CW.seq) | (apply CW.region) | (apply WL.lenS; rfl; rfl; rfl) | (apply WL.fa; rfl; rfl; rfl) | (apply WL.ld; rfl; rfl; rfl; assumption; rfl) | (apply CW.block) | (apply CW.skip)))
  refine CW.loop (S := Nat) (fun i => [(1, .pointer (some ⟨w0.heap.size, 0, none⟩)), (3, .pointer (some ⟨w1.heap.size, 0, none⟩)), (29, .slice a2 nx.length c2), (30, .int .i64 nx.length), (31, .int .i64 i)])
    (fun i w => i ≤ nx.length ∧ Ext w4 w ∧ ∀ j (h : j < nx.length), j < i → chkN nx.length nx[j] = false) (fun i => nx.length - i) 0 (by repeat (first | exact trivial | refine ⟨rfl, ?_⟩)) ⟨by omega, Ext.refl _, by omega⟩ ?_
  rintro i w5 ⟨hi, e5, hno⟩
  have hb5 := hb4.ext e5
  have hn5 := hn4.ext e5
  have hE5 := hE4.trans e5
  (repeat (first | (apply WL.pure; rfl; rfl; rfl) | (apply WL.nil) | (apply EX.thenN) | (apply CW.seq) | (apply CW.region)))
  refine CW.cond rfl (fun h8 => ?_) (fun h8 => ?_)
  · simp at h8
    (repeat (first | (apply EX.thenN) | (apply CW.seq) | (apply CW.region) | (apply CW.block) | (apply CW.skip)))
    refine WL.elemN rfl rfl rfl rfl rfl (h2.at hE5) h8 (fun _ => rfl) (fun u q hu => ?_)
    obtain ⟨lo, lc, rfl, hl⟩ := hu.sl
    (repeat (first | (apply WL.pure; rfl; rfl; rfl) | (apply WL.nil) | (apply EX.thenN) | (apply CW.seq) | (apply CW.region) | (apply WL.lenS; rfl; rfl; rfl)))
    (refine WL.lookG rfl rfl (fun h => ?_) (fun h => ?_))
    · (repeat (first | (apply WL.pure; rfl; rfl; rfl) | (apply WL.nil) | (apply EX.thenN) | (apply CW.seq) | (apply CW.region) | (apply WL.pass; rfl; rfl) | (apply CW.condT; rfl) | (apply CW.ret) | (apply EX.thenR) | (apply EX.inR)))
      refine EX.ret1 rfl rfl ⟨?_, hE5⟩
      have h9 : nx[i].length = 0 := by simp at h; simp [h]
      rw [if_pos (List.any_eq_true.2 ⟨nx[i], List.getElem_mem h8, by unfold chkN; simp only [Bool.or_eq_true, decide_eq_true_eq]; exact .inl h9⟩)]
    have h9 : nx[i].length ≠ 0 := by simp at h; simpa using h
    (repeat (first | (apply WL.pure; rfl; rfl; rfl) | (apply WL.ld; rfl; rfl; rfl; assumption; rfl)))
    refine WL.call rfl rfl rfl (wodd_ok w5 nx.length (hl.lift fun b hb => Nat.lt_of_lt_of_le hb hE5.size)) ?_
    rintro _ w6 ⟨rfl, e6⟩
    (repeat (first | (apply WL.pure; rfl; rfl; rfl) | (apply WL.nil) | (apply EX.thenN)))
    refine CW.cond rfl (fun ha => ?_) (fun ha => ?_)
    · (repeat (first | (apply WL.pure; rfl; rfl; rfl) | (apply WL.nil) | (apply EX.thenN) | (apply CW.seq) | (apply CW.region) | (apply CW.ret) | (apply EX.thenR) | (apply EX.inR)))
      refine EX.ret1 rfl rfl ⟨?_, hE5.trans e6⟩
      rw [if_pos (List.any_eq_true.2 ⟨nx[i], List.getElem_mem h8, by unfold chkN; rw [ha, Bool.or_true]⟩)]
    · (repeat (first | (apply WL.add; rfl; rfl; rfl; rfl; omega; omega) | (apply WL.pure; rfl; rfl; rfl) | (apply WL.nil) | (apply EX.thenN) | (apply CW.region) | (apply EX.inN) | (apply CW.skip)))
      refine EX.back (i + 1) (by repeat (first | exact trivial | refine ⟨rfl, ?_⟩)) ⟨h8, e5.trans e6, fun j hj hlt => ?_⟩ (by omega)
      by_cases e : j = i
      · subst e; unfold chkN; rw [ha, decide_eq_false h9]; rfl
      · exact hno j hj (by omega)
  simp at h8
  have hany : nx.any (chkN nx.length) = false := by
    rw [List.any_eq_false]
    intro l hl
    obtain ⟨j, hj, rfl⟩ := List.mem_iff_getElem.1 hl
    simp [hno j hj (by omega)]
  rw [if_neg (by rw [hany]; simp)]
  (repeat (first | (apply EX.thenN) | (apply CW.seq) | (apply CW.region) | (apply WL.makeFunc; rfl; rfl; rfl; rfl) | (apply WL.fa; rfl; rfl; rfl) | (apply WL.ld; rfl; rfl; rfl; assumption; rfl) | (apply CW.exit) | (apply EX.thenX) | (apply EX.inX)))
  refine WL.call rfl rfl rfl (containsFunc_ll w5 (oddB nx.length) (h4.up hE5) (fun w hw i hi u hu => ?_)) ?_
  · obtain ⟨lo, lc, rfl, hl⟩ := hu.sl
    exact FnV.mk (Rt.mono (wchk1 w nx.length _ (hn5.ext hw) (hl.lift fun b hb => Nat.lt_of_lt_of_le hb hw.size)) fun v w' h => h)
  rintro _ w6 ⟨rfl, e6⟩
  (repeat (first | (apply WL.nil) | (apply EX.thenN)))
  refine CW.cond rfl (fun ha => ?_) (fun ha => ?_)
  · (repeat (first | (apply WL.pure; rfl; rfl; rfl) | (apply WL.nil) | (apply EX.thenN) | (apply CW.seq) | (apply CW.region) | (apply CW.ret) | (apply EX.thenR)))
    refine EX.ret1 rfl rfl ⟨?_, hE5.trans e6⟩
    rw [if_pos ha]
  · (repeat (first | (apply WL.pure; rfl; rfl; rfl) | (apply WL.nil) | (apply EX.thenN) | (apply CW.seq) | (apply CW.region) | (apply CW.ret) | (apply CW.skip)))
    refine EX.ret1 rfl rfl ⟨?_, hE5.trans e6⟩
    rw [if_neg (by rw [ha]; simp)]
abbrev pathV (so : Option Addr) (sc : Nat) (lo : Option Addr) (lc : Nat) (s l : List Int) : Value := .agg [.slice so s.length sc, .slice lo l.length lc].toArray
abbrev LWorld := List Int × List (List Int) × List Nat × List (List Int)
theorem Rd.world {w : World} {F : Nat → Prop} {v : Value} {x : LWorld} (h : Rd w F v x) : ∃ a1 c1 a2 c2 a3 c3 a4 c4, v = worldV a1 c1 a2 c2 a3 c3 a4 c4 x.1.length x.2.1.length x.2.2.1.length x.2.2.2.length ∧ Sl w F a1 c1 x.1 ∧ Sl w F a2 c2 x.2.1 ∧ Sl w F a3 c3 x.2.2.1 ∧ Sl w F a4 c4 x.2.2.2 := by
  obtain ⟨c1, r1, rfl, h1, k1⟩ := h.pr
  obtain ⟨c2, r2, rfl, h2, k2⟩ := rd_pr k1
  obtain ⟨c3, r3, rfl, h3, h4⟩ := rd_pr k2
  obtain ⟨a1, d1, rfl, s1⟩ := rd_sl h1
  obtain ⟨a2, d2, rfl, s2⟩ := rd_sl h2
  obtain ⟨a3, d3, rfl, s3⟩ := rd_sl h3
  obtain ⟨a4, d4, rfl, s4⟩ := rd_sl h4
  exact ⟨a1, d1, a2, d2, a3, d3, a4, d4, rfl, s1, s2, s3, s4⟩
end Go.Proofs.YtllpfgcngokhnaaGreat

/-
  A list of lists while it is built row by row: plain lists.
-/
set_option linter.unusedVariables false
set_option linter.unusedSimpArgs false
namespace Go.Proofs.YtllpfgcngokhnaaGreat

def gridP {α : Type} (N : Nat) (full : Nat → List α) (x0 : Nat) (part : List α) : List (List α) := (List.range N).map fun x => if x < x0 then full x else if x = x0 then part else []
section
variable {α : Type} {N : Nat} {full : Nat → List α} {x0 : Nat} {part : List α}
theorem gridP_len : (gridP N full x0 part).length = N := by simp [gridP]
theorem gridP_start : gridP N full 0 [] = List.replicate N [] := by
  unfold gridP
  refine List.ext_getElem (by simp) fun i h1 h2 => ?_
  simp
theorem gridP_get (h : x0 < N) : (gridP N full x0 part)[x0]'(by rw [gridP_len]; exact h) = part := by simp [gridP]
theorem gridP_set {part' : List α} (h : x0 < N) : (gridP N full x0 part).set x0 part' = gridP N full x0 part' := by
  refine List.ext_getElem (by simp [gridP_len]) fun i h1 h2 => ?_
  rw [List.getElem_set]
  by_cases e : x0 = i
  · subst e; rw [if_pos rfl, gridP_get h]
  · rw [if_neg e]
    simp only [gridP, List.getElem_map, List.getElem_range]
    split
    · rfl
    · rw [if_neg (Ne.symm e), if_neg (Ne.symm e)]
theorem gridP_next : gridP N full x0 (full x0) = gridP N full (x0 + 1) [] := by
  unfold gridP
  refine List.ext_getElem (by simp) fun i h1 h2 => ?_
  simp only [List.getElem_map, List.getElem_range]
  by_cases h : i < x0
  · rw [if_pos h, if_pos (by omega)]
  · rw [if_neg h]
    by_cases e : i = x0
    · subst e; rw [if_pos rfl, if_pos (by omega)]
    · rw [if_neg e, if_neg (by omega)]
      split <;> rfl
theorem gridP_done : gridP N full N [] = (List.range N).map full := by
  unfold gridP
  refine List.ext_getElem (by simp) fun i h1 h2 => ?_
  simp only [List.getElem_map, List.getElem_range]
  rw [if_pos (by simpa using h1)]
end
end Go.Proofs.YtllpfgcngokhnaaGreat

/-
  Ways through a graph that meet sets again and again: plain lists, no program in sight.
-/
set_option linter.unusedVariables false
set_option linter.unusedSimpArgs false
namespace Go.Proofs.YtllpfgcngokhnaaGreat

/-- n steps of E along p -/
structure Wlk (E : Nat → Nat → Prop) (p : Nat → Nat) (n a b : Nat) : Prop where
  first : p 0 = a
  last : p n = b
  step : ∀ i, i < n → E (p i) (p (i + 1))
def glue (p q : Nat → Nat) (n : Nat) : Nat → Nat := fun i => if i < n then p i else q (i - n)
theorem glue_lt {p q : Nat → Nat} {n i : Nat} (h : i < n) : glue p q n i = p i := by unfold glue; rw [if_pos h]
theorem glue_ge {p q : Nat → Nat} {n i : Nat} (h : n ≤ i) : glue p q n i = q (i - n) := by unfold glue; rw [if_neg (by omega)]
theorem glue_le {p q : Nat → Nat} {n i : Nat} (h : i ≤ n) (he : p n = q 0) : glue p q n i = p i := by
  by_cases hi : i < n
  · exact glue_lt hi
  · obtain rfl : i = n := by omega
    rw [glue_ge (Nat.le_refl _), Nat.sub_self, he]
theorem Wlk.trans {E : Nat → Nat → Prop} {p q : Nat → Nat} {n m a b c : Nat} (h : Wlk E p n a b) (k : Wlk E q m b c) : Wlk E (glue p q n) (n + m) a c := by
  have he : p n = q 0 := h.last.trans k.first.symm
  refine ⟨(glue_le (Nat.zero_le _) he).trans h.first, ?_, fun i hi => ?_⟩
  · rw [glue_ge (by omega), show n + m - n = m by omega]; exact k.last
  · by_cases hn : i < n
    · rw [glue_lt hn, glue_le (i := i + 1) (Nat.succ_le_of_lt hn) he]; exact h.step i hn
    · rw [glue_ge (by omega), glue_ge (by omega), show i + 1 - n = (i - n) + 1 by omega]
      exact k.step _ (by omega)
def Rc (E : Nat → Nat → Prop) (a b : Nat) : Prop := ∃ p n, Wlk E p n a b
theorem Rc.refl {E : Nat → Nat → Prop} (a : Nat) : Rc E a a := ⟨fun _ => a, 0, rfl, rfl, fun i h => absurd h (by omega)⟩
theorem Rc.trans {E : Nat → Nat → Prop} {a b c : Nat} : Rc E a b → Rc E b c → Rc E a c
  | ⟨_, _, h⟩, ⟨_, _, k⟩ => ⟨_, _, h.trans k⟩
theorem Wlk.one {E : Nat → Nat → Prop} {a b : Nat} (h : E a b) : Wlk E (fun i => if i = 0 then a else b) 1 a b :=
  ⟨rfl, rfl, fun i hi => by obtain rfl : i = 0 := by omega
                            exact h⟩
theorem Rc.one {E : Nat → Nat → Prop} {a b : Nat} (h : E a b) : Rc E a b := ⟨_, _, Wlk.one h⟩
theorem Rc.of_way {E : Nat → Nat → Prop} {r : Nat → Nat} (h : ∀ i, E (r i) (r (i + 1))) {i j : Nat} (hij : i ≤ j) : Rc E (r i) (r j) :=
  ⟨fun k => r (i + k), j - i, by simp, by rw [show i + (j - i) = j by omega], fun k _ => by
    have := h (i + k)
    rwa [show i + k + 1 = i + (k + 1) by omega] at this⟩
theorem Rc.mono {E E' : Nat → Nat → Prop} (h : ∀ a b, E a b → E' a b) {a b : Nat} : Rc E a b → Rc E' a b
  | ⟨p, n, k⟩ => ⟨p, n, k.first, k.last, fun i hi => h _ _ (k.step i hi)⟩

theorem inf_often : ∀ (N : Nat) (r : Nat → Nat), (∀ i, r i < N) → ∃ v, v < N ∧ ∀ i, ∃ j, i ≤ j ∧ r j = v
  | 0, r, h => absurd (h 0) (by omega)
  | N + 1, r, h => by
    by_cases hv : ∀ i, ∃ j, i ≤ j ∧ r j = N
    · exact ⟨N, by omega, hv⟩
    · obtain ⟨i0, h0⟩ := Classical.not_forall.1 hv
      have h1 : ∀ j, i0 ≤ j → r j ≠ N := fun j hj he => h0 ⟨j, hj, he⟩
      obtain ⟨v, hv1, hv2⟩ := inf_often N (fun k => r (i0 + k)) (fun k => by
        have a := h (i0 + k); have b := h1 (i0 + k) (by omega); omega)
      refine ⟨v, by omega, fun i => ?_⟩
      obtain ⟨j, hj1, hj2⟩ := hv2 i
      exact ⟨i0 + j, by omega, hj2⟩

/-- a round from v that meets all of some sets -/
theorem loop_all {E : Nat → Nat → Prop} {v u : Nat} (hu : E v u) (hb : Rc E u v) : ∀ Ps : List (Nat → Prop), (∀ P ∈ Ps, ∃ x, P x ∧ Rc E v x ∧ Rc E x v) →
    ∃ p n, 0 < n ∧ Wlk E p n v v ∧ ∀ P ∈ Ps, ∃ i, i < n ∧ P (p i)
  | [], _ => by
    obtain ⟨q, m, hq⟩ := hb
    exact ⟨_, _, by omega, (Wlk.one hu).trans hq, fun P hP => by cases hP⟩
  | P :: Ps, h => by
    obtain ⟨p, n, hn, hp, hall⟩ := loop_all hu hb Ps (fun Q hQ => h Q (by simp [hQ]))
    obtain ⟨x, hx, ⟨q1, n1, h1⟩, ⟨q2, n2, h2⟩⟩ := h P (by simp)
    refine ⟨glue p (glue q1 q2 n1) n, n + (n1 + n2), by omega, hp.trans (h1.trans h2), fun Q hQ => ?_⟩
    rcases List.mem_cons.1 hQ with rfl | hQ
    · by_cases h0 : n2 = 0
      · subst h0
        have hxv : x = v := h2.first.symm.trans h2.last
        exact ⟨0, by omega, by rw [glue_lt hn, hp.first, ← hxv]; exact hx⟩
      · refine ⟨n + n1, by omega, ?_⟩
        rw [glue_ge (by omega), show n + n1 - n = n1 by omega, glue_ge (Nat.le_refl _), Nat.sub_self, h2.first]
        exact hx
    · obtain ⟨i, hi, hq⟩ := hall Q hQ
      exact ⟨i, by omega, by rw [glue_lt hi]; exact hq⟩

/-- a way without end from a that meets each of some sets again and again -/
def Way8 (E : Nat → Nat → Prop) (Ps : List (Nat → Prop)) (r : Nat → Nat) : Prop := (∀ i, E (r i) (r (i + 1))) ∧ ∀ P ∈ Ps, ∀ i, ∃ j, i ≤ j ∧ P (r j)
def Core (E : Nat → Nat → Prop) (Ps : List (Nat → Prop)) (v : Nat) : Prop := (∃ u, E v u ∧ Rc E u v) ∧ ∀ P ∈ Ps, ∃ x, P x ∧ Rc E v x ∧ Rc E x v
theorem way8_core {E : Nat → Nat → Prop} {Ps : List (Nat → Prop)} {N : Nat} {r : Nat → Nat} (hN : ∀ i, r i < N) (h : Way8 E Ps r) : ∃ v, Rc E (r 0) v ∧ Core E Ps v ∧ ∃ i, r i = v := by
  obtain ⟨v, _, hv⟩ := inf_often N r hN
  obtain ⟨i0, _, h0⟩ := hv 0
  refine ⟨v, by rw [← h0]; exact Rc.of_way h.1 (Nat.zero_le _), ⟨⟨r (i0 + 1), by rw [← h0]; exact h.1 i0, ?_⟩, fun P hP => ?_⟩, i0, h0⟩
  · obtain ⟨j, hj, hr⟩ := hv (i0 + 1)
    rw [← hr]; exact Rc.of_way h.1 hj
  · obtain ⟨j, hj, hr⟩ := h.2 P hP i0
    obtain ⟨k, hk, hkr⟩ := hv j
    exact ⟨r j, hr, by rw [← h0]; exact Rc.of_way h.1 hj, by rw [← hkr]; exact Rc.of_way h.1 hk⟩
/-- a stem, and a round again and again -/
def lassoW (q p : Nat → Nat) (m n : Nat) : Nat → Nat := glue q (fun i => p (i % n)) m
theorem lassoW_step {E : Nat → Nat → Prop} {q p : Nat → Nat} {m n a v : Nat} (hn : 0 < n) (hq : Wlk E q m a v) (hp : Wlk E p n v v) : ∀ i, E (lassoW q p m n i) (lassoW q p m n (i + 1)) := by
  intro i
  have he : q m = (fun i => p (i % n)) 0 := by show _ = p (0 % n); rw [Nat.zero_mod, hp.first, hq.last]
  unfold lassoW
  by_cases h : i < m
  · rw [glue_lt h, glue_le (q := fun i => p (i % n)) (i := i + 1) (Nat.succ_le_of_lt h) he]; exact hq.step i h
  · rw [glue_ge (by omega), glue_ge (by omega), show i + 1 - m = (i - m) + 1 by omega]
    generalize i - m = k
    have hlt := Nat.mod_lt k hn
    have hs := hp.step (k % n) hlt
    show E (p (k % n)) (p ((k + 1) % n))
    by_cases h1 : k % n + 1 = n
    · rw [h1, hp.last] at hs
      have : (k + 1) % n = 0 := by rw [Nat.add_mod]; by_cases hn1 : n = 1
                                   · subst hn1; omega
                                   · rw [Nat.mod_eq_of_lt (show 1 < n by omega), h1, Nat.mod_self]
      rw [this, hp.first]; exact hs
    · have : (k + 1) % n = k % n + 1 := by
        rw [Nat.add_mod, Nat.mod_eq_of_lt (show 1 < n by omega), Nat.mod_eq_of_lt (by omega)]
      rw [this]; exact hs
theorem core_way8 {E : Nat → Nat → Prop} {Ps : List (Nat → Prop)} {a v : Nat} (hr : Rc E a v) (h : Core E Ps v) : ∃ r, r 0 = a ∧ Way8 E Ps r := by
  obtain ⟨⟨u, hu, hb⟩, hP⟩ := h
  obtain ⟨p, n, hn, hp, hall⟩ := loop_all hu hb Ps hP
  obtain ⟨q, m, hq⟩ := hr
  refine ⟨lassoW q p m n, ?_, lassoW_step hn hq hp, fun P hP i => ?_⟩
  · have he : q m = (fun i => p (i % n)) 0 := by show _ = p (0 % n); rw [Nat.zero_mod, hp.first, hq.last]
    show glue q (fun i => p (i % n)) m 0 = a
    rw [glue_le (q := fun i => p (i % n)) (Nat.zero_le _) he]; exact hq.first
  · obtain ⟨k, hk, hx⟩ := hall P hP
    refine ⟨m + (i * n + k), by have := Nat.le_mul_of_pos_right i hn; omega, ?_⟩
    unfold lassoW
    rw [glue_ge (by omega), show m + (i * n + k) - m = i * n + k by omega]
    show P (p ((i * n + k) % n))
    rw [Nat.add_comm, Nat.add_mul_mod_self_right, Nat.mod_eq_of_lt hk]
    exact hx
theorem fair_iff {E : Nat → Nat → Prop} {Ps : List (Nat → Prop)} {N a : Nat} (hN : ∀ u v, E u v → v < N) (ha : a < N) : (∃ r, r 0 = a ∧ Way8 E Ps r) ↔ ∃ v, Rc E a v ∧ Core E Ps v := by
  constructor
  · rintro ⟨r, h0, h⟩
    obtain ⟨v, h1, h2, _⟩ := way8_core (N := N) (fun i => by
      cases i with
      | zero => rw [h0]; exact ha
      | succ i => exact hN _ _ (h.1 i)) h
    exact ⟨v, by rw [← h0]; exact h1, h2⟩
  · rintro ⟨v, h1, h2⟩
    exact core_way8 h1 h2

/- GRAPHS OF LISTS -/
def Eg (g : Graph) (u v : Nat) : Prop := (v : Int) ∈ g.getD u []
theorem Eg.lt {g : Graph} (hg : okG g) {u v : Nat} (h : Eg g u v) : v < g.length := by have := okG_row hg u _ h; omega
theorem rch_rc {g : Graph} (hg : okG g) {f : List Int} (hf : ∀ x ∈ f, 0 ≤ x) {b : Nat} : Rch g f b ↔ ∃ a : Nat, (a : Int) ∈ f ∧ Rc (Eg g) a b := by
  constructor
  · intro h
    induction h with
    | base hx => rename_i x; exact ⟨x.toNat, by rw [show ((x.toNat : Nat) : Int) = x by have := hf x hx; omega]; exact hx, Rc.refl _⟩
    | step _ hx ih =>
      obtain ⟨a, h1, h2⟩ := ih
      refine ⟨a, h1, h2.trans (Rc.one ?_)⟩
      rename_i n x _
      have := (okG_row hg n x hx).1
      show ((x.toNat : Nat) : Int) ∈ _
      rw [show ((x.toNat : Nat) : Int) = x by omega]; exact hx
  · rintro ⟨a, h1, p, n, h⟩
    have : ∀ i, i ≤ n → Rch g f (p i) := by
      intro i
      induction i with
      | zero => intro _; rw [h.first]; exact Rch.base (x := (a : Int)) h1
      | succ i ih => intro hi; exact Rch.step (x := (p (i + 1) : Int)) (ih (by omega)) (h.step i (by omega))
    rw [← h.last]; exact this n (Nat.le_refl _)
theorem rch1 {g : Graph} (hg : okG g) {a b : Nat} : Rch g [(a : Int)] b ↔ Rc (Eg g) a b := by
  rw [rch_rc hg (fun x hx => by simp at hx; omega)]
  constructor
  · rintro ⟨c, hc, h⟩
    simp at hc
    obtain rfl : c = a := by omega
    exact h
  · exact fun h => ⟨a, by simp, h⟩
end Go.Proofs.YtllpfgcngokhnaaGreat

/-
  Package scc: what turn, far and Way compute, in plain Lean.
-/
set_option linter.unusedVariables false
set_option linter.unusedSimpArgs false
namespace Go.Proofs.YtllpfgcngokhnaaGreat

/- TURN -/
/-- who leads to m: of the rows before n, and of row n's first j -/
def trow (g : List (List Int)) (n j : Nat) (m : Nat) : List Int :=
  ((List.range n).filter (fun k => (g.getD k []).contains (m : Int))).map (fun k : Nat => (k : Int)) ++ (if ((g.getD n []).take j).contains (m : Int) then [(n : Int)] else [])
def turnP (g : List (List Int)) (n j : Nat) : List (List Int) := (List.range g.length).map (trow g n j)
def turnL (g : List (List Int)) : List (List Int) := turnP g g.length 0
theorem turnP_len (g : List (List Int)) (n j : Nat) : (turnP g n j).length = g.length := by simp [turnP]
theorem turnP_get {g : List (List Int)} {n j i : Nat} (h : i < (turnP g n j).length) : (turnP g n j)[i] = trow g n j i := by simp [turnP]
theorem trow_len (g : List (List Int)) (n j m : Nat) : (trow g n j m).length ≤ n + 1 := by
  unfold trow
  have h1 := List.length_filter_le (fun k => (g.getD k []).contains (m : Int)) (List.range n)
  rw [List.length_range] at h1
  rw [List.length_append, List.length_map]
  split
  · simp only [List.length_singleton]; omega
  · simp only [List.length_nil]; omega
theorem trow_start (g : List (List Int)) (m : Nat) : trow g 0 0 m = [] := by simp [trow]
theorem turnP_start (g : List (List Int)) : turnP g 0 0 = List.replicate g.length [] := by
  apply List.ext_getElem (by simp [turnP])
  intro i h1 h2
  rw [turnP_get, trow_start]; simp
theorem trow_next {g : List (List Int)} {n : Nat} (m : Nat) : trow g (n + 1) 0 m = trow g n (g.getD n []).length m := by
  unfold trow
  rw [List.take_length, List.take_zero, List.range_succ, List.filter_append, List.map_append]
  cases h : (g.getD n []).contains (m : Int) <;> simp at h <;> simp [h]
theorem turnP_next {g : List (List Int)} {n : Nat} : turnP g (n + 1) 0 = turnP g n (g.getD n []).length := by
  unfold turnP; congr 1; funext m; exact trow_next m
theorem take_next {l : List Int} {j : Nat} (h : j < l.length) (x : Int) : (l.take (j + 1)).contains x = ((l.take j).contains x || x == l[j]) := by
  rw [List.take_succ_eq_append_getElem h, List.contains_eq_any_beq, List.contains_eq_any_beq, List.any_append]
  simp
theorem trow_new {g : List (List Int)} {n j m : Nat} (hj : j < (g.getD n []).length) (hm : (g.getD n [])[j] = (m : Int)) (hn : ((g.getD n []).take j).contains (m : Int) = false) : trow g n (j + 1) m = trow g n j m ++ [(n : Int)] := by
  unfold trow
  rw [take_next hj, hn, hm]; simp
theorem trow_old {g : List (List Int)} {n j m : Nat} (hj : j < (g.getD n []).length) (hn : ((g.getD n []).take j).contains (m : Int) = true) : trow g n (j + 1) m = trow g n j m := by
  unfold trow
  rw [take_next hj, hn]; simp
theorem trow_other {g : List (List Int)} {n j m : Nat} (hj : j < (g.getD n []).length) (hm : (g.getD n [])[j] ≠ (m : Int)) : trow g n (j + 1) m = trow g n j m := by
  unfold trow
  rw [take_next hj]
  have : ((m : Int) == (g.getD n [])[j]) = false := by rw [beq_eq_false_iff_ne]; exact Ne.symm hm
  rw [this, Bool.or_false]
/-- its last one is n just if n was put there -/
theorem trow_last {g : List (List Int)} {n j m : Nat} (h : 0 < (trow g n j m).length) : ((trow g n j m)[(trow g n j m).length - 1] = (n : Int)) ↔ ((g.getD n []).take j).contains (m : Int) = true := by
  have hl : (trow g n j m)[(trow g n j m).length - 1] = (trow g n j m).getLast (List.ne_nil_of_length_pos h) := by rw [List.getLast_eq_getElem]
  rw [hl]
  constructor
  · intro e
    apply Classical.byContradiction
    intro hc
    have hc' : ((g.getD n []).take j).contains (m : Int) = false := by simpa using hc
    have : (n : Int) ∈ trow g n j m := by rw [← e]; exact List.getLast_mem _
    unfold trow at this
    rw [hc'] at this
    simp at this
    omega
  · intro hc
    have : trow g n j m = ((List.range n).filter (fun k => (g.getD k []).contains (m : Int))).map (fun k : Nat => (k : Int)) ++ [(n : Int)] := by unfold trow; rw [if_pos hc]
    simp only [this]
    simp
theorem trow_nil {g : List (List Int)} {n j m : Nat} (h : (trow g n j m).length = 0) : ((g.getD n []).take j).contains (m : Int) = false := by
  cases hc : ((g.getD n []).take j).contains (m : Int)
  · rfl
  · unfold trow at h; rw [if_pos hc] at h; simp at h
theorem turnP_set {g : List (List Int)} {n j : Nat} (hj : j < (g.getD n []).length) {m : Nat} (hm : (g.getD n [])[j] = (m : Int)) (hmg : m < g.length) (hn : ((g.getD n []).take j).contains (m : Int) = false) :
    (turnP g n j).set m (trow g n j m ++ [(n : Int)]) = turnP g n (j + 1) := by
  apply List.ext_getElem (by simp [turnP])
  intro i h1 h2
  rw [List.getElem_set]
  by_cases e : m = i
  · subst e; rw [if_pos rfl, turnP_get, trow_new hj hm hn]
  · rw [if_neg e, turnP_get, turnP_get, trow_other hj (by rw [hm]; omega)]
theorem turnP_same {g : List (List Int)} {n j : Nat} (hj : j < (g.getD n []).length) {m : Nat} (hm : (g.getD n [])[j] = (m : Int)) (hn : ((g.getD n []).take j).contains (m : Int) = true) : turnP g n j = turnP g n (j + 1) := by
  apply List.ext_getElem (by simp [turnP])
  intro i h1 h2
  rw [turnP_get, turnP_get]
  by_cases e : m = i
  · subst e; rw [trow_old hj hn]
  · rw [trow_other hj (by rw [hm]; omega)]
theorem turnL_len (g : List (List Int)) : (turnL g).length = g.length := turnP_len _ _ _
theorem turnL_mem {g : List (List Int)} {m k : Nat} (hm : m < g.length) : (k : Int) ∈ (turnL g).getD m [] ↔ k < g.length ∧ (m : Int) ∈ g.getD k [] := by
  have : (turnL g).getD m [] = trow g g.length 0 m := by
    rw [List.getD_eq_getElem?_getD, List.getElem?_eq_getElem (by rw [turnL_len]; exact hm)]
    exact turnP_get _
  rw [this]
  unfold trow
  simp
  constructor
  · rintro ⟨a, ⟨h1, h2⟩, h3⟩
    have : a = k := by omega
    subst this; exact ⟨h1, h2⟩
  · rintro ⟨h1, h2⟩
    exact ⟨k, ⟨h1, h2⟩, rfl⟩
theorem turnL_ok (g : List (List Int)) : okG (turnL g) := by
  intro l hl x hx
  obtain ⟨m, hm, rfl⟩ := List.mem_iff_getElem.1 hl
  rw [turnL_len] at hm ⊢
  have e : (turnL g)[m]'(by rw [turnL_len]; exact hm) = trow g g.length 0 m := turnP_get _
  rw [e] at hx
  unfold trow at hx
  simp at hx
  obtain ⟨k, ⟨h1, _⟩, rfl⟩ := hx
  omega

/- FAR -/
def farStep (n : Int) (s : List Int × List Int) (k : Int) : List Int × List Int := if s.1.getD k.toNat 0 < 0 then (s.1.set k.toNat (s.1.getD n.toNat 0 + 1), s.2 ++ [k]) else s
def farGo (back : List (List Int)) : Nat → List Int → List Int → List Int
  | 0, d, _ => d
  | _ + 1, d, [] => d
  | f + 1, d, n :: r => farGo back f ((back.getD n.toNat []).foldl (farStep n) (d, r)).1 ((back.getD n.toNat []).foldl (farStep n) (d, r)).2
def farD (to : List Bool) : List Int := to.map fun b => if b then 0 else -1
def farN (to : List Bool) (n : Nat) : List Int := ((List.range n).filter (fun k => to.getD k false)).map fun k : Nat => (k : Int)
def farL (g : List (List Int)) (to : List Bool) : List Int := farGo (turnL g) (2 * g.length + 2) (farD to) (farN to to.length)
def negs (d : List Int) : Nat := d.countP fun x => decide (x < 0)
theorem negs_set {d : List Int} {k : Nat} {v : Int} (hk : k < d.length) (h : d[k] < 0) (hv : 0 ≤ v) : negs (d.set k v) + 1 = negs d := by
  unfold negs
  have e : d = d.take k ++ d[k] :: d.drop (k + 1) := by simp
  have e2 : d.set k v = d.take k ++ v :: d.drop (k + 1) := by rw [List.set_eq_take_append_cons_drop, if_pos hk]
  rw [e2]
  conv => rhs; rw [e]
  simp only [List.countP_append, List.countP_cons, h, decide_true, if_true]
  have : decide (v < 0) = false := by simp; omega
  rw [this]; simp; omega
/-- while one goes: what is marked stands; a number above 0 has one less beside it; who is done has all behind it numbered -/
structure FInv (g : List (List Int)) (to : List Bool) (d now : List Int) (cur : Option (Nat × Nat)) : Prop where
  len : d.length = g.length
  tol : to.length = g.length
  ge : ∀ n (h : n < d.length), -1 ≤ d[n]
  le : ∀ n (h : n < d.length), d[n] + negs d + 1 ≤ g.length
  zero : ∀ n (h : n < d.length), d[n] = 0 ↔ to.getD n false = true
  pos : ∀ n (h : n < d.length), 0 < d[n] → ∃ m, ∃ hm : m < d.length, (m : Int) ∈ g.getD n [] ∧ d[m] = d[n] - 1
  inN : ∀ x ∈ now, 0 ≤ x ∧ x < g.length
  nowd : ∀ x ∈ now, 0 ≤ d.getD x.toNat (-1)
  done : ∀ m (h : m < d.length), 0 ≤ d[m] → (m : Int) ∈ now ∨ (∃ j, cur = some (m, j)) ∨ ∀ k (hk : k < d.length), (m : Int) ∈ g.getD k [] → 0 ≤ d[k]
  curd : ∀ m j, cur = some (m, j) → ∃ hm : m < d.length, 0 ≤ d[m] ∧ ∀ x ∈ ((turnL g).getD m []).take j, 0 ≤ d.getD x.toNat (-1)
theorem getD_at {d : List Int} {n : Nat} {x : Int} (h : n < d.length) : d.getD n x = d[n] := by rw [List.getD_eq_getElem?_getD, List.getElem?_eq_getElem h]; rfl
theorem FInv.step {g : List (List Int)} {to : List Bool} {d now : List Int} {m j : Nat} (h : FInv g to d now (some (m, j))) (hj : j < ((turnL g).getD m []).length) {k : Int} (hk : ((turnL g).getD m [])[j] = k) :
    FInv g to (farStep m (d, now) k).1 (farStep m (d, now) k).2 (some (m, j + 1)) ∧ (farStep m (d, now) k).2.length + negs (farStep m (d, now) k).1 = now.length + negs d := by
  obtain ⟨hm, hdm, hpre⟩ := h.curd m j rfl
  have hml : m < g.length := by rw [← h.len]; exact hm
  have hrow : ((turnL g).getD m []) ∈ turnL g := by
    rw [List.getD_eq_getElem?_getD, List.getElem?_eq_getElem (by rw [turnL_len]; exact hml)]
    exact List.getElem_mem _
  have hk2 : 0 ≤ k ∧ k < g.length := by
    have := turnL_ok g _ hrow k (hk ▸ List.getElem_mem _)
    rwa [turnL_len] at this
  obtain ⟨kn, rfl⟩ := Int.eq_ofNat_of_zero_le hk2.1
  have hkn : kn < g.length := by omega
  have hkd : kn < d.length := by rw [h.len]; exact hkn
  have hmem : (m : Int) ∈ g.getD kn [] := ((turnL_mem hml).1 (hk ▸ List.getElem_mem hj)).2
  have htk : ∀ x, x ∈ ((turnL g).getD m []).take (j + 1) → x ∈ ((turnL g).getD m []).take j ∨ x = (kn : Int) := by
    intro x hx
    rw [List.take_succ_eq_append_getElem hj, hk] at hx
    simpa using hx
  unfold farStep
  simp only [Int.toNat_natCast]
  rw [getD_at hkd, getD_at hm]
  split
  · rename_i hneg
    have hne : m ≠ kn := fun e => by subst e; omega
    have hn := negs_set hkd hneg (v := d[m] + 1) (by omega)
    have hget : ∀ n (hn : n < (d.set kn (d[m] + 1)).length), (d.set kn (d[m] + 1))[n] = if kn = n then d[m] + 1 else d[n]'(by rw [List.length_set] at hn; exact hn) := fun n hn => List.getElem_set ..
    have hup : ∀ x, 0 ≤ d.getD x (-1) → 0 ≤ (d.set kn (d[m] + 1)).getD x (-1) := by
      intro x hx
      by_cases hxl : x < d.length
      · rw [getD_at (by rw [List.length_set]; exact hxl), hget]
        split
        · omega
        · rwa [getD_at hxl] at hx
      · rw [List.getD_eq_getElem?_getD, List.getElem?_eq_none (by omega)] at hx
        simp at hx
    refine ⟨⟨by rw [List.length_set]; exact h.len, h.tol, ?_, ?_, ?_, ?_, ?_, ?_, ?_, ?_⟩, by simp only [List.length_append, List.length_singleton]; omega⟩
    · intro n hn2
      rw [hget]
      split
      · omega
      · exact h.ge n _
    · intro n hn2
      rw [List.length_set] at hn2
      rw [hget]
      have h1 := h.le m hm
      have h2 := h.le n hn2
      dsimp only
      split <;> omega
    · intro n hn2
      rw [List.length_set] at hn2
      rw [hget]
      split
      · rename_i e
        subst e
        have := h.zero kn hkd
        constructor
        · intro e; omega
        · intro e; have := this.2 e; omega
      · exact h.zero n hn2
    · intro n hn2 hp
      rw [List.length_set] at hn2
      rw [hget] at hp ⊢
      split at hp
      · rename_i e
        subst e
        rw [if_pos rfl]
        refine ⟨m, by rw [List.length_set]; exact hm, hmem, ?_⟩
        rw [hget, if_neg (Ne.symm hne)]; omega
      · rename_i e
        rw [if_neg e]
        obtain ⟨m2, h1, h2, h3⟩ := h.pos n hn2 hp
        refine ⟨m2, by rw [List.length_set]; exact h1, h2, ?_⟩
        rw [hget, if_neg (fun e => by subst e; omega)]; exact h3
    · intro x hx
      rw [List.mem_append, List.mem_singleton] at hx
      rcases hx with hx | rfl
      · exact h.inN x hx
      · omega
    · intro x hx
      rw [List.mem_append, List.mem_singleton] at hx
      rcases hx with hx | rfl
      · exact hup _ (h.nowd x hx)
      · rw [Int.toNat_natCast, getD_at (by rw [List.length_set]; exact hkd), hget, if_pos rfl]; omega
    · intro m' hm' hp
      rw [List.length_set] at hm'
      rw [hget] at hp
      split at hp
      · rename_i e; subst e; exact .inl (by simp)
      · rcases h.done m' hm' hp with h1 | ⟨j', h1⟩ | h1
        · exact .inl (List.mem_append_left _ h1)
        · simp only [Option.some.injEq, Prod.mk.injEq] at h1
          exact .inr (.inl ⟨j + 1, by rw [h1.1]⟩)
        · refine .inr (.inr fun k2 hk2 hmk => ?_)
          rw [List.length_set] at hk2
          rw [hget]
          split
          · omega
          · exact h1 k2 hk2 hmk
    · intro m2 j2 e
      simp only [Option.some.injEq, Prod.mk.injEq] at e
      obtain ⟨rfl, rfl⟩ := e
      refine ⟨by rw [List.length_set]; exact hm, by rw [hget, if_neg (Ne.symm hne)]; exact hdm, fun x hx => ?_⟩
      rcases htk x hx with hx | rfl
      · exact hup _ (hpre x hx)
      · rw [Int.toNat_natCast, getD_at (by rw [List.length_set]; exact hkd), hget, if_pos rfl]; omega
  · rename_i hpos
    refine ⟨⟨h.len, h.tol, h.ge, h.le, h.zero, h.pos, h.inN, h.nowd, ?_, ?_⟩, rfl⟩
    · intro m' hm' hp
      rcases h.done m' hm' hp with h1 | ⟨j', h1⟩ | h1
      · exact .inl h1
      · simp only [Option.some.injEq, Prod.mk.injEq] at h1
        exact .inr (.inl ⟨j + 1, by rw [h1.1]⟩)
      · exact .inr (.inr h1)
    · intro m2 j2 e
      simp only [Option.some.injEq, Prod.mk.injEq] at e
      obtain ⟨rfl, rfl⟩ := e
      refine ⟨hm, hdm, fun x hx => ?_⟩
      rcases htk x hx with hx | rfl
      · exact hpre x hx
      · rw [Int.toNat_natCast, getD_at hkd]; omega
theorem FInv.over {g : List (List Int)} {to : List Bool} {d now : List Int} {m : Nat} (h : FInv g to d now (some (m, ((turnL g).getD m []).length))) : FInv g to d now none := by
  obtain ⟨hm, hdm, hpre⟩ := h.curd m _ rfl
  refine ⟨h.len, h.tol, h.ge, h.le, h.zero, h.pos, h.inN, h.nowd, ?_, fun _ _ e => by cases e⟩
  intro m' hm' hp
  rcases h.done m' hm' hp with h1 | ⟨j', h1⟩ | h1
  · exact .inl h1
  · simp only [Option.some.injEq, Prod.mk.injEq] at h1
    obtain ⟨rfl, _⟩ := h1
    refine .inr (.inr fun k hk hmk => ?_)
    rw [List.take_length] at hpre
    have := hpre (k : Int) ((turnL_mem (by rw [← h.len]; exact hm)).2 ⟨by rw [← h.len]; exact hk, hmk⟩)
    rwa [Int.toNat_natCast, getD_at hk] at this
  · exact .inr (.inr h1)
theorem FInv.pop {g : List (List Int)} {to : List Bool} {d r : List Int} {n : Int} (h : FInv g to d (n :: r) none) : ∃ m : Nat, n = (m : Int) ∧ m < g.length ∧ FInv g to d r (some (m, 0)) := by
  have hn := h.inN n (by simp)
  obtain ⟨m, rfl⟩ := Int.eq_ofNat_of_zero_le hn.1
  have hm : m < d.length := by rw [h.len]; omega
  refine ⟨m, rfl, by omega, h.len, h.tol, h.ge, h.le, h.zero, h.pos, fun x hx => h.inN x (by simp [hx]), fun x hx => h.nowd x (by simp [hx]), ?_, ?_⟩
  · intro m' hm' hp
    rcases h.done m' hm' hp with h1 | ⟨j', h1⟩ | h1
    · rcases List.mem_cons.1 h1 with h1 | h1
      · exact .inr (.inl ⟨0, by rw [show m' = m by omega]⟩)
      · exact .inl h1
    · cases h1
    · exact .inr (.inr h1)
  · intro m2 j2 e
    simp only [Option.some.injEq, Prod.mk.injEq] at e
    obtain ⟨rfl, rfl⟩ := e
    refine ⟨hm, ?_, fun x hx => by simp at hx⟩
    have := h.nowd m (by simp)
    rwa [Int.toNat_natCast, getD_at hm] at this
theorem farD_get {to : List Bool} {n : Nat} (h : n < (farD to).length) : (farD to)[n] = if to.getD n false = true then 0 else -1 := by
  have h' : n < to.length := by simpa [farD] using h
  simp [farD, List.getD_eq_getElem?_getD, h']
theorem farD_negs (to : List Bool) : negs (farD to) + (to.countP fun b => b) = to.length := by
  unfold negs farD
  rw [List.countP_map, List.length_eq_countP_add_countP (fun b => b) (l := to), Nat.add_comm]
  congr 1
  apply List.countP_congr
  intro x _
  cases x <;> simp
theorem FInv.start {g : List (List Int)} {to : List Bool} (h : to.length = g.length) : FInv g to (farD to) (farN to to.length) none := by
  have hl : (farD to).length = g.length := by simp [farD, h]
  have hneg := farD_negs to
  refine ⟨hl, h, ?_, ?_, ?_, ?_, ?_, ?_, ?_, fun _ _ e => by cases e⟩
  · intro n hn; rw [farD_get]; split <;> omega
  · intro n hn
    rw [farD_get]
    split
    · rename_i ht
      have : 0 < to.countP fun b => b := by
        rw [List.countP_pos_iff]
        have hn' : n < to.length := by omega
        refine ⟨to[n], List.getElem_mem _, ?_⟩
        rw [List.getD_eq_getElem?_getD, List.getElem?_eq_getElem hn'] at ht
        exact ht
      omega
    · omega
  · intro n hn; rw [farD_get]; split <;> simp_all
  · intro n hn hp; rw [farD_get] at hp; split at hp <;> omega
  · intro x hx; simp [farN] at hx; obtain ⟨k, ⟨h1, _⟩, rfl⟩ := hx; omega
  · intro x hx
    simp [farN] at hx
    obtain ⟨k, ⟨h1, h2⟩, rfl⟩ := hx
    rw [Int.toNat_natCast, getD_at (by omega), farD_get, if_pos (by simpa using h2)]; omega
  · intro m hm hp
    rw [farD_get] at hp
    split at hp
    · rename_i ht
      refine .inl ?_
      simp [farN]
      exact ⟨m, ⟨by omega, by simpa using ht⟩, rfl⟩
    · omega
/- WAY -/
def dAt (d : List Int) (x : Int) : Int := d.getD x.toNat 0
def nextB (d : List Int) (at' nx n : Int) : Bool := decide (dAt d n = dAt d at' - 1) && (decide (nx < 0) || decide (n < nx))
def wayNext (d : List Int) (at' : Int) (row : List Int) : Int := row.foldl (fun nx n => if nextB d at' nx n then n else nx) (-1)
def wayGo (g : List (List Int)) (d : List Int) : Nat → Int → List Int
  | 0, a => [a]
  | f + 1, a => if 0 < dAt d a then a :: wayGo g d f (wayNext d a (g.getD a.toNat [])) else [a]
/-- a list that is the way from a -/
structure WayOK (g : List (List Int)) (d : List Int) (l : List Int) (a : Int) : Prop where
  len : (l.length : Int) = dAt d a + 1
  hd : l[0]? = some a
  at' : ∀ i (hi : i < l.length), dAt d l[i] = dAt d a - i
  inR : ∀ i (hi : i < l.length), 0 ≤ l[i] ∧ l[i] < g.length
  go : ∀ i (hi : i < l.length) (f' : Nat), dAt d l[i] ≤ f' → wayGo g d f' l[i] = l.drop i
  edge : ∀ i (hi : i < l.length) (hp : 0 < i), l[i] ∈ g.getD (l[i - 1]'(by omega)).toNat []
section
variable {g : List (List Int)} {to : List Bool} (h : FInv g to (farL g to) [] none) (hg : okG g)
include h hg
end
end Go.Proofs.YtllpfgcngokhnaaGreat

/-
  Package scc: turn, far, Way, Turn.
-/
set_option linter.unusedVariables false
set_option linter.unusedSimpArgs false
namespace Go.Proofs.YtllpfgcngokhnaaGreat
open Go.RowKit

theorem turn_ok (w0 : World) {F : Nat → Prop} {ao : Option Addr} {cap : Nat} {g : List (List Int)} (hs : Sl w0 F ao cap g) (hF : ∀ b, F b → b < w0.heap.size) (hg : okG g) (hl : g.length ≤ 1099511627776) :
    Rt Tryz.prog 88 [.slice ao g.length cap].toArray w0 fun v w' => ∃ vs, OwnN w' w0.heap.size 22 3 v vs (turnL g) ∧ Ext w0 w' := by
  refine Rt.enter1 Tryz.func88 Tryz.ntmps88 rfl rfl ?_
  (repeat (first | (apply WL.pure; rfl; rfl; rfl) | (apply WL.nil) | (apply EX.thenN) | (apply CW.seq) | (apply CW.region) | (apply WL.lenS; rfl; rfl; rfl)))
  refine WL.make (α := Raw) rfl rfl rfl rfl (by omega) (by unfold maxLen; omega) (fun w1 ho1 hg1 => ?_)
  have hE1 : Ext w0 w1 := (Below.refl _ _).grown hg1 (Nat.le_refl _) (fun k h => by cases h)
  generalize hsv : Value.slice (some ⟨w0.heap.size, 0, none⟩) g.length g.length = sv at *
  have hN1 : OwnN w1 w0.heap.size 22 3 sv _ (List.replicate g.length ([] : List Int)) := OwnN.made ho1
  rw [← turnP_start] at hN1
  (repeat (first | (apply WL.pure; rfl; rfl; rfl) | (apply WL.nil) | (apply EX.thenN) | (apply CW.seq) | (apply CW.region) | (apply WL.lenS; rfl; rfl; rfl) | (apply CW.block)))
  refine CW.loop (S := Nat × List Raw) (fun s => [(3, sv), (12, .slice ao g.length cap), (13, .int .i64 g.length), (14, .int .i64 s.1)])
    (fun s w => s.1 ≤ g.length ∧ OwnN w w0.heap.size 22 3 sv s.2 (turnP g s.1 0) ∧ Ext w0 w) (fun s => g.length - s.1) (0, _) (by repeat (first | exact trivial | refine ⟨rfl, ?_⟩)) ⟨by omega, hN1, hE1⟩ ?_
  rintro ⟨n, vs⟩ w ⟨hn, hN, hE⟩
  dsimp only at hn hN
  (repeat (first | (apply WL.pure; rfl; rfl; rfl) | (apply WL.nil) | (apply EX.thenN) | (apply CW.seq) | (apply CW.region)))
  refine CW.cond rfl (fun hng => ?_) (fun hng => ?_)
  · simp at hng
    (repeat (first | (apply WL.pure; rfl; rfl; rfl) | (apply EX.thenN) | (apply CW.seq) | (apply CW.region) | (apply CW.block) | (apply CW.skip)))
    have hs' : Sl w F ao cap g := hs.mono (fun b hb => hE.block b (hF b hb)) fun _ h => h
    refine WL.elemN rfl rfl rfl rfl rfl hs' hng (fun _ => rfl) (fun u q hu => ?_)
    obtain ⟨lo, lc, rfl, hrow⟩ := hu.sl
    have hrl := hrow.len63
    dsimp only at hrl hrow
    have erow : g.getD n [] = g[n] := by rw [List.getD_eq_getElem?_getD, List.getElem?_eq_getElem hng]; rfl
    (repeat (first | (apply WL.pure; rfl; rfl; rfl) | (apply WL.nil) | (apply EX.thenN) | (apply CW.seq) | (apply CW.region) | (apply WL.lenS; rfl; rfl; rfl) | (apply CW.block)))
    refine CW.loop (S := Nat × List Raw) (fun s => [(3, sv), (4, .int .i64 n), (12, .slice ao g.length cap), (13, .int .i64 g.length), (14, .int .i64 n), (19, .slice lo g[n].length lc), (20, .int .i64 g[n].length), (21, .int .i64 s.1)])
      (fun s w => s.1 ≤ g[n].length ∧ OwnN w w0.heap.size 22 3 sv s.2 (turnP g n s.1) ∧ Ext w0 w) (fun s => g[n].length - s.1) (0, vs) (by repeat (first | exact trivial | refine ⟨rfl, ?_⟩)) ⟨by omega, hN, hE⟩ ?_
    rintro ⟨j, vs⟩ w2 ⟨hj, hN, hE2⟩
    dsimp only at hj hN
    have hlen := hN.len
    rw [turnP_len] at hlen
    (repeat (first | (apply WL.pure; rfl; rfl; rfl) | (apply WL.nil) | (apply EX.thenN) | (apply CW.seq) | (apply CW.region)))
    refine CW.cond rfl (fun h1 => ?_) (fun h1 => ?_) <;> simp at h1
    · have hrow' : Sl w2 F lo lc g[n] := hrow.mono (fun b hb => (hE2.block b (hF b hb)).trans (hE.block b (hF b hb)).symm) fun _ h => h
      have hk := hg _ (List.getElem_mem hng) _ (List.getElem_mem h1)
      obtain ⟨k, ek⟩ := Int.eq_ofNat_of_zero_le hk.1
      have hkl : k < g.length := by omega
      have hkv : k < vs.length := by omega
      have hj' : j < (g.getD n []).length := by rw [erow]; exact h1
      have ek' : (g.getD n [])[j] = (k : Int) := by simp only [erow]; exact ek
      (repeat (first | (apply EX.thenN) | (apply CW.seq) | (apply CW.region) | (apply CW.block) | (apply CW.skip)))
      refine WL.elemI rfl rfl rfl rfl rfl hrow' h1 ek (fun _ => rfl) (fun q => ?_)
      (repeat (first | (apply WL.pure; rfl; rfl; rfl) | (apply WL.nil) | (apply EX.thenN) | (apply CW.seq) | (apply CW.region)))
      refine WL.elemON rfl rfl rfl rfl rfl hN.out hkv (fun _ => rfl) (fun u q hu => ?_)
      obtain ⟨rfl, _⟩ := hu.raw
      have hin := hN.inn k hkv (by rw [turnP_len]; exact hkl)
      rw [turnP_get] at hin
      have htl := trow_len g n j k
      obtain ⟨io, ic, hiv⟩ := hin.val
      refine WL.lenO rfl rfl rfl hin ?_
      (repeat (apply WL.pure; rfl; rfl; rfl))
      apply WL.nil
      apply EX.thenN
      generalize hrw : trow g n j k = row at *
      refine CW.cut [(3, sv), (4, .int .i64 n), (7, .int .i64 k), (12, .slice ao g.length cap), (13, .int .i64 g.length), (14, .int .i64 n), (19, .slice lo g[n].length lc), (20, .int .i64 g[n].length), (21, .int .i64 j), (43, .bool (!((g.getD n []).take j).contains (k : Int)))] ?_ ?_
      · (repeat (first | (apply WL.pure; rfl; rfl; rfl) | (apply CW.region)))
        (refine WL.lookG rfl rfl (fun h => ?_) (fun h => ?_)) <;> simp at h
        · have hc : ((g.getD n []).take j).contains (k : Int) = false := trow_nil (by rw [hrw]; simp [h])
          rw [hc]
          (repeat (first | (apply WL.pure; rfl; rfl; rfl) | (apply WL.pass; rfl; rfl)))
          exact WL.nil (EX.cut (by repeat (first | exact trivial | refine ⟨rfl, ?_⟩)))
        · have hpos : 0 < row.length := by cases row with | nil => exact absurd rfl h | cons x r => simp
          (repeat (apply WL.pure; rfl; rfl; rfl))
          refine WL.elemON rfl rfl rfl rfl rfl hN.out hkv (fun _ => rfl) (fun u q hu => ?_)
          obtain ⟨rfl, _⟩ := hu.raw
          (repeat (first | (apply WL.sub'; rfl; rfl; rfl; rfl; omega; omega) | (apply WL.pure; rfl; rfl; rfl)))
          refine WL.elemO rfl rfl rfl rfl rfl hin (by omega) (by omega) (fun _ => rfl) (fun u q hu => ?_)
          obtain rfl := hu.int
          have hlast := trow_last (g := g) (n := n) (j := j) (m := k) (by rw [hrw]; exact hpos)
          simp only [hrw] at hlast
          have ei : ((row.length : Int) - 1).toNat = row.length - 1 := by omega
          have e : (row[((row.length : Int) - 1).toNat]'(by omega) != (n : Int)) = (!((g.getD n []).take j).contains (k : Int)) := by
            simp only [ei]
            cases hc : ((g.getD n []).take j).contains (k : Int)
            · rw [hc] at hlast; simpa [bne_iff_ne] using hlast
            · rw [hc] at hlast; simpa [bne_iff_ne] using hlast
          rw [← e]
          (repeat (apply WL.pure; rfl; rfl; rfl))
          exact WL.nil (EX.cut (by repeat (first | exact trivial | refine ⟨rfl, ?_⟩)))
      · refine CW.cond rfl (fun hc => ?_) (fun hc => ?_)
        · have hc : ((g.getD n []).take j).contains (k : Int) = false := by simpa using hc
          (repeat (first | (apply WL.pure; rfl; rfl; rfl) | (apply CW.region)))
          refine WL.elemON rfl rfl rfl rfl rfl hN.out hkv (fun _ => rfl) (fun u q hu => ?_)
          obtain ⟨rfl, _⟩ := hu.raw
          (repeat (apply WL.pure; rfl; rfl; rfl))
          refine WL.app1 (F := Non) (yv := (n : Int)) rfl rfl (fun _ => rfl) rfl rfl (fun _ => rfl) hin (Rd.mkInt _ _ _) hE2.size (fun _ h => h.elim) (by decide) (by unfold maxLen; omega) (by omega) (fun v' w3 p ho3 hg3 hnb => ?_)
          skip
          have hmid := hN.mid hkv hg3
          refine WL.setN (u := v') (yv := ⟨v'⟩) rfl rfl rfl rfl hmid hkv (fun _ => rfl) (fun _ => rfl) (Rd.mkRaw _ _ _ ?_) (fun w4 q ho4 hg4 => ?_)
          · obtain ⟨a, b, rfl⟩ := ho3.val; rfl
          have hN4 := hN.set hkv ho3 hg3 hnb ho4 hg4
          rw [← hrw, turnP_set hj' ek' hkl hc] at hN4
          have hE4 : Ext w0 w4 := (hE2.grown hg3 hE2.size (fun b hb => (hin.lt b hb).1)).grown hg4 (Nat.le_trans hE2.size hg3.size) (fun b hb => (hN.out.lt b hb).1)
          (repeat (first | (apply WL.add; rfl; rfl; rfl; rfl; omega; omega) | (apply WL.pure; rfl; rfl; rfl) | (apply WL.nil) | (apply EX.thenN) | (apply CW.region) | (apply EX.inN)))
          exact EX.back (j + 1, vs.set k ⟨v'⟩) (by repeat (first | exact trivial | refine ⟨rfl, ?_⟩)) ⟨h1, hN4, hE4⟩ (by simp only; omega)
        · have hc : ((g.getD n []).take j).contains (k : Int) = true := by simpa using hc
          (repeat (first | (apply WL.add; rfl; rfl; rfl; rfl; omega; omega) | (apply WL.pure; rfl; rfl; rfl) | (apply WL.nil) | (apply EX.thenN) | (apply CW.region) | (apply EX.inN) | (apply CW.skip)))
          rw [turnP_same hj' ek' hc] at hN
          exact EX.back (j + 1, vs) (by repeat (first | exact trivial | refine ⟨rfl, ?_⟩)) ⟨h1, hN, hE2⟩ (by simp only; omega)
    · have : j = g[n].length := by omega
      subst this
      rw [← erow, ← turnP_next] at hN
      (repeat (first | (apply WL.add; rfl; rfl; rfl; rfl; omega; omega) | (apply WL.pure; rfl; rfl; rfl) | (apply WL.nil) | (apply EX.thenN) | (apply CW.region) | (apply EX.inN) | (apply CW.exit) | (apply EX.thenX) | (apply EX.inX)))
      exact EX.back (n + 1, vs) (by repeat (first | exact trivial | refine ⟨rfl, ?_⟩)) ⟨hng, hN, hE2⟩ (by simp only; omega)
  · simp at hng
    have : n = g.length := by omega
    subst this
    (repeat (first | (apply WL.pure; rfl; rfl; rfl) | (apply WL.nil) | (apply EX.thenN) | (apply CW.seq) | (apply CW.region) | (apply CW.exit) | (apply EX.thenX) | (apply EX.inX) | (apply CW.ret)))
    exact EX.ret1 rfl rfl ⟨vs, hN, hE⟩

theorem getD_setI {d : List Int} {n k : Nat} {v : Int} (h : n < d.length) : (d.set n v).getD k 0 = if n = k then v else d.getD k 0 := by
  rw [List.getD_eq_getElem?_getD, List.getD_eq_getElem?_getD, List.getElem?_set]
  split
  · rename_i e; simp [h]
  · rfl
def turnF (g : List (List Int)) : List (List Int) := if chkG g = 0 then turnL g else []
theorem Turn_ok (w0 : World) {ao : Option Addr} {cap : Nat} {g : List (List Int)} (hs : Sl w0 (Old w0) ao cap g) :
    Rt Tryz.prog 50 [.slice ao g.length cap].toArray w0 fun r w' => ∃ v vs, r = .tuple ⟨[v, .int .i64 (chkG g)]⟩ ∧ OwnN w' w0.heap.size 22 3 v vs (turnF g) ∧ Ext w0 w' := by
  refine Rt.enter1 Tryz.func50 Tryz.ntmps50 rfl rfl ?_
  (repeat (first | (apply WL.pure; rfl; rfl; rfl) | (apply WL.nil) | (apply EX.thenN) | (apply CW.seq) | (apply CW.region)))
  refine WL.call rfl rfl rfl (chk_ok w0 hs) ?_
  rintro v w1 ⟨rfl, hE1⟩
  unfold turnF
  (repeat (first | (apply WL.pure; rfl; rfl; rfl) | (apply WL.nil) | (apply EX.thenN) | (apply CW.seq) | (apply CW.region)))
  refine CW.cond rfl (fun h => ?_) (fun h => ?_)
  · have hc : chkG g ≠ 0 := by simpa using h
    (repeat (first | (apply WL.pure; rfl; rfl; rfl) | (apply WL.nil) | (apply EX.thenN) | (apply CW.seq) | (apply CW.region) | (apply CW.ret) | (apply EX.thenR)))
    exact EX.ret2 rfl rfl rfl ⟨.slice none 0 0, [], rfl, by rw [if_neg hc]; exact OwnN.nil, hE1⟩
  · have hc : chkG g = 0 := by simpa using h
    obtain ⟨hg, hg2⟩ := chkG_ok hc
    (repeat (first | (apply WL.pure; rfl; rfl; rfl) | (apply EX.thenN) | (apply CW.seq) | (apply CW.region) | (apply CW.skip)))
    refine WL.call rfl rfl rfl (turn_ok w1 (hs.up hE1) (fun _ h => h) hg (by omega)) ?_
    rintro v w2 ⟨vs, hN, hE2⟩
    (repeat (first | (apply WL.pure; rfl; rfl; rfl) | (apply WL.nil) | (apply EX.thenN) | (apply CW.ret)))
    exact EX.ret2 rfl rfl rfl ⟨v, vs, by rw [hc], by rw [if_pos hc]; exact hN.low hE1.size, hE1.trans hE2⟩
end Go.Proofs.YtllpfgcngokhnaaGreat

/-
  What only some blocks' change leaves as it is. Over any program.
-/
set_option linter.unusedVariables false
set_option linter.unusedSimpArgs false
namespace Go.Proofs.YtllpfgcngokhnaaGreat
open Go.RowKit

/-- only blocks of S, and new ones, are otherwise -/
structure Chg (S : Nat → Prop) (w w' : World) : Prop where
  os : w'.os = w.os
  tape : w'.tape = w.tape
  output : w'.output = w.output
  size : w.heap.size ≤ w'.heap.size
  block : ∀ k, k < w.heap.size → ¬ S k → w'.heap[k]? = w.heap[k]?
theorem Chg.refl (S : Nat → Prop) (w : World) : Chg S w w := ⟨rfl, rfl, rfl, Nat.le_refl _, fun _ _ _ => rfl⟩
theorem Chg.grown {S : Nat → Prop} {w w' w'' : World} {row : Option Nat} (h : Chg S w w') (hg : w'.grownBy w'' row) (hr : ∀ g, row = some g → S g) : Chg S w w'' :=
  ⟨hg.os.trans h.os, hg.tape.trans h.tape, hg.output.trans h.output, Nat.le_trans h.size hg.size, fun k hk hs => (hg.block k (Nat.lt_of_lt_of_le hk h.size) (fun e => hs (hr k e.symm))).trans (h.block k hk hs)⟩
theorem Chg.ext {S : Nat → Prop} {a w w' : World} (hE : Ext a w) (h : Chg S w w') (hS : ∀ b, S b → a.heap.size ≤ b) : Ext a w' :=
  ⟨h.os.trans hE.os, h.tape.trans hE.tape, h.output.trans hE.output, Nat.le_trans hE.size h.size, fun k hk => (h.block k (Nat.lt_of_lt_of_le hk hE.size) (fun hs => by have := hS k hs; omega)).trans (hE.block k hk)⟩
theorem Own.chg {α : Type} [Rep α] {S : Nat → Prop} {w w' : World} {B : Nat} {e : TypeId} {v : Value} {xs : List α} (h : Own w B e Non v xs) (hc : Chg S w w') (hn : ∀ b, v.ownBlock = some b → ¬ S b) : Own w' B e Non v xs :=
  h.keep (fun g hg => hc.block g (h.lt g hg).2.1 (hn g hg)) fun _ h => h.elim
theorem OwnN.chg {α : Type} [Rep α] {S : Nat → Prop} {w w' : World} {B : Nat} {eo ei : TypeId} {v : Value} {vs : List Raw} {xs : List (List α)} (h : OwnN w B eo ei v vs xs) (hc : Chg S w w') (hn : ∀ b, OwnN.blk v vs b → ¬ S b) : OwnN w' B eo ei v vs xs :=
  ⟨h.out.chg hc (fun b hb => hn b (.inl hb)), h.len, fun i hi hi' => (h.inn i hi hi').chg hc (fun b hb => hn b (.inr ⟨_, List.getElem_mem hi, hb⟩)), h.dis, h.dio⟩

end Go.Proofs.YtllpfgcngokhnaaGreat

/-
  Tarjan's search, in plain Lean: what holds while it goes.
-/
set_option linter.unusedVariables false
set_option linter.unusedSimpArgs false
namespace Go.Proofs.YtllpfgcngokhnaaGreat

theorem Rch.trans {g : Graph} {a b c : Nat} (h1 : Rch g [(a : Int)] b) (h2 : Rch g [(b : Int)] c) : Rch g [(a : Int)] c := by
  induction h2 with
  | @base x hx =>
    have : x = (b : Int) := by simpa using hx
    subst this
    simpa using h1
  | step _ hx ih => exact .step ih hx
theorem Rch.self {g : Graph} (a : Nat) : Rch g [(a : Int)] a := by
  have := Rch.base (g := g) (from' := [(a : Int)]) (x := (a : Int)) (by simp)
  simpa using this
theorem Rch.edge {g : Graph} {a b : Nat} (h : (b : Int) ∈ g.getD a []) : Rch g [(a : Int)] b := by
  have := Rch.step (Rch.self (g := g) a) h
  simpa using this

/-- a node on the way, how many of its edges are looked at, and those above it on the stack that are done -/
structure Tf where
  v : Nat
  i : Nat
  seg : List Nat
/-- the search's numbers -/
structure Ts where
  num : List Int
  low : List Int
  part : List Int
  count : Int
  got : Int
def Ts.nm (s : Ts) (n : Nat) : Int := s.num.getD n 0
def Ts.lw (s : Ts) (n : Nat) : Int := s.low.getD n 0
def Ts.pt (s : Ts) (n : Nat) : Int := s.part.getD n (-1)
/-- the stack, frame by frame, the upper one first -/
def stk : List Tf → List Nat
  | [] => []
  | f :: r => stk r ++ f.v :: f.seg
def rowN (g : Graph) (n : Nat) : List Int := g.getD n []
/-- the edges that are looked at, of the nodes of a frame -/
def seen (g : Graph) (f : Tf) (u : Nat) (w : Int) : Prop := (u = f.v ∧ w ∈ (rowN g u).take f.i) ∨ (u ∈ f.seg ∧ w ∈ rowN g u)

/-- of each frame -/
structure FrOK (g : Graph) (s : Ts) (S : List Nat) (f : Tf) : Prop where
  i : f.i ≤ (rowN g f.v).length
  vis : ∀ u w, seen g f u w → 0 < s.nm w.toNat
  out : ∀ u ∈ f.seg, Rch g [(f.v : Int)] u
  back : ∀ u ∈ f.seg, Rch g [(u : Int)] f.v
  le : s.lw f.v ≤ s.nm f.v
  wit : ∃ x ∈ S, s.nm x = s.lw f.v ∧ Rch g [(f.v : Int)] x
  all : ∀ u w, seen g f u w → w.toNat ∈ S → s.lw f.v ≤ s.nm w.toNat
/-- from frame to frame -/
def chain (g : Graph) : List Tf → Prop
  | [] => True
  | [_] => True
  | f :: h :: r => Rch g [(h.v : Int)] f.v ∧ chain g (h :: r)
structure TInv (g : Graph) (s : Ts) (fs : List Tf) : Prop where
  ln : s.num.length = g.length
  ll : s.low.length = g.length
  lp : s.part.length = g.length
  inG : ∀ n ∈ stk fs, n < g.length
  vis : ∀ n, n < g.length → (0 < s.nm n ↔ n ∈ stk fs ∨ 0 ≤ s.pt n)
  non : ∀ n, n < g.length → 0 ≤ s.nm n
  off : ∀ n ∈ stk fs, s.pt n < 0
  asc : (stk fs).Pairwise fun a b => s.nm a < s.nm b
  top : ∀ n, n < g.length → s.nm n ≤ s.count
  c0 : 0 ≤ s.count
  frs : ∀ f ∈ fs, FrOK g s (stk fs) f
  chn : chain g fs
  clo : ∀ n, n < g.length → 0 ≤ s.pt n → ∀ w ∈ rowN g n, 0 ≤ s.pt w.toNat
  ptl : ∀ n, n < g.length → s.pt n < s.got
  g0 : 0 ≤ s.got
  cn : s.count + (s.num.countP fun x => decide (x = 0) : Nat) = g.length
  gn : s.got + (negs s.part : Nat) ≤ g.length
  scc : ∀ a b, a < g.length → b < g.length → 0 ≤ s.pt a → 0 ≤ s.pt b → (s.pt a = s.pt b ↔ Rch g [(a : Int)] b ∧ Rch g [(b : Int)] a)

theorem getD_setD {l : List Int} {n k : Nat} {x d : Int} (h : n < l.length) : (l.set n x).getD k d = if n = k then x else l.getD k d := by
  rw [List.getD_eq_getElem?_getD, List.getD_eq_getElem?_getD, List.getElem?_set]
  split
  · rename_i e; simp [h]
  · rfl
def tBegin (n : Nat) (s : Ts) : Ts := { s with num := s.num.set n (s.count + 1), low := s.low.set n (s.count + 1), count := s.count + 1 }
def tLow (n : Nat) (x : Int) (s : Ts) : Ts := { s with low := s.low.set n x }
def setAll (p : List Int) (D : List Nat) (x : Int) : List Int := D.foldr (fun n p => p.set n x) p
def tClose (D : List Nat) (s : Ts) : Ts := { s with part := setAll s.part D s.got, got := s.got + 1 }
theorem setAll_len (p : List Int) (x : Int) : ∀ D, (setAll p D x).length = p.length
  | [] => rfl
  | n :: D => by simp only [setAll, List.foldr_cons, List.length_set]; exact setAll_len p x D
theorem setAll_get {p : List Int} {x : Int} : ∀ {D : List Nat}, (∀ n ∈ D, n < p.length) → ∀ k, (setAll p D x).getD k (-1) = if k ∈ D then x else p.getD k (-1)
  | [], _, k => by simp [setAll]
  | n :: D, h, k => by
    have hn := h n (by simp)
    have ih := setAll_get (x := x) (D := D) (fun m hm => h m (by simp [hm])) k
    simp only [setAll, List.foldr_cons] at ih ⊢
    rw [getD_setD (by have := setAll_len p x D; simp only [setAll] at this; rw [this]; exact hn), ih]
    by_cases e : n = k
    · simp [e]
    · rw [if_neg e]
      simp only [List.mem_cons, Ne.symm e, false_or]
section
variable {g : Graph} {s : Ts} {fs : List Tf} {f h : Tf} {r : List Tf}
theorem mem_stk {n : Nat} : n ∈ stk (f :: r) ↔ n ∈ stk r ∨ n = f.v ∨ n ∈ f.seg := by simp [stk]
theorem fv_stk : ∀ {fs : List Tf} {f : Tf}, f ∈ fs → f.v ∈ stk fs
  | x :: r, f, hf => by
    rw [mem_stk]
    rcases List.mem_cons.1 hf with rfl | hf
    · exact .inr (.inl rfl)
    · exact .inl (fv_stk hf)
theorem TInv.nodup (h : TInv g s fs) : (stk fs).Nodup := h.asc.imp fun hab e => by rw [e] at hab; exact absurd hab (Int.lt_irrefl _)
/-- those below a frame have less, those above it more -/
theorem TInv.below (h : TInv g s (f :: r)) : ∀ x ∈ stk r, s.nm x < s.nm f.v := by
  intro x hx
  have := h.asc
  simp only [stk] at this
  rw [List.pairwise_append] at this
  exact this.2.2 x hx f.v (by simp)
theorem TInv.above (h : TInv g s (f :: r)) : ∀ x, x = f.v ∨ x ∈ f.seg → s.nm f.v ≤ s.nm x := by
  intro x hx
  have := h.asc
  simp only [stk] at this
  rw [List.pairwise_append, List.pairwise_cons] at this
  rcases hx with rfl | hx
  · exact Int.le_refl _
  · exact Int.le_of_lt (this.2.1.1 x hx)
theorem TInv.vne (h : TInv g s (f :: r)) {k : Tf} (hk : k ∈ r) : k.v ≠ f.v := fun e => by
  have := h.below k.v (fv_stk hk)
  rw [e] at this
  exact absurd this (Int.lt_irrefl _)
theorem TInv.fin (h : TInv g s (f :: r)) : f.v < g.length := h.inG f.v (fv_stk (by simp))
theorem chain_tail (h : chain g (f :: r)) : chain g r := by
  cases r with
  | nil => trivial
  | cons k r => exact h.2
/-- all of the stack lead to the uppermost frame's node -/
theorem up_all : ∀ {r : List Tf} {f : Tf}, (∀ k ∈ f :: r, ∀ u ∈ k.seg, Rch g [(u : Int)] k.v) → chain g (f :: r) → ∀ x ∈ stk (f :: r), Rch g [(x : Int)] f.v := by
  intro r
  induction r with
  | nil =>
    intro f hb hc x hx
    rw [mem_stk] at hx
    rcases hx with hx | rfl | hx
    · simp [stk] at hx
    · exact Rch.self _
    · exact hb f (by simp) x hx
  | cons k r ih =>
    intro f hb hc x hx
    rw [mem_stk] at hx
    rcases hx with hx | rfl | hx
    · have h1 := ih (f := k) (fun f hf => hb f (List.mem_cons_of_mem _ hf)) hc.2 x hx
      exact h1.trans hc.1
    · exact Rch.self _
    · exact hb f (by simp) x hx
end

theorem countP_set {p : Int → Bool} {d : List Int} {k : Nat} {v : Int} (hk : k < d.length) (h : p d[k] = true) (hv : p v = false) : (d.set k v).countP p + 1 = d.countP p := by
  have e : d = d.take k ++ d[k] :: d.drop (k + 1) := by simp
  have e2 : d.set k v = d.take k ++ v :: d.drop (k + 1) := by rw [List.set_eq_take_append_cons_drop, if_pos hk]
  rw [e2]
  conv => rhs; rw [e]
  simp only [List.countP_append, List.countP_cons, h, hv, if_true]
  simp; omega
theorem setAll_negs {p : List Int} {x : Int} (hx : 0 ≤ x) : ∀ {D : List Nat}, D.Nodup → (∀ n ∈ D, n < p.length) → (∀ n ∈ D, p.getD n (-1) < 0) → negs (setAll p D x) + D.length = negs p
  | [], _, _, _ => rfl
  | n :: D, hd, hl, hn => by
    rw [List.nodup_cons] at hd
    have ih := setAll_negs hx (D := D) hd.2 (fun m hm => hl m (by simp [hm])) (fun m hm => hn m (by simp [hm]))
    have hnl : n < (setAll p D x).length := by rw [setAll_len]; exact hl n (by simp)
    have hg := setAll_get (x := x) (D := D) (fun m hm => hl m (by simp [hm])) n
    rw [if_neg hd.1, getD_at hnl] at hg
    have := negs_set hnl (v := x) (by rw [hg]; exact hn n (by simp)) hx
    show negs ((setAll p D x).set n x) + (D.length + 1) = _
    omega
section
variable {g : Graph} {s : Ts} {fs : List Tf} {f h : Tf} {r : List Tf}
theorem nm_begin {n k : Nat} (hn : n < s.num.length) : (tBegin n s).nm k = if n = k then s.count + 1 else s.nm k := getD_setD hn
theorem lw_begin {n k : Nat} (hn : n < s.low.length) : (tBegin n s).lw k = if n = k then s.count + 1 else s.lw k := getD_setD hn
theorem lw_low {n k : Nat} {x : Int} (hn : n < s.low.length) : (tLow n x s).lw k = if n = k then x else s.lw k := getD_setD hn
theorem TInv.unvis (h : TInv g s fs) {n : Nat} (hn : n < g.length) (h0 : s.nm n = 0) : n ∉ stk fs ∧ s.pt n < 0 := by
  have := h.vis n hn
  refine ⟨fun hx => ?_, ?_⟩
  · have := this.2 (.inl hx); omega
  · apply Int.not_le.1
    intro hx
    have := this.2 (.inr hx); omega
/-- a node is begun: the frames stay right -/
theorem TInv.begin (h : TInv g s fs) (hg : okG g) {n : Nat} (hn : n < g.length) (h0 : s.nm n = 0) {gs : List Tf} (hst : stk gs = stk fs) (hfr : ∀ k ∈ gs, FrOK g (tBegin n s) (stk fs ++ [n]) k) (hch : chain g (⟨n, 0, []⟩ :: gs)) :
    TInv g (tBegin n s) (⟨n, 0, []⟩ :: gs) := by
  obtain ⟨hu1, hu2⟩ := h.unvis hn h0
  have hnl : n < s.num.length := by rw [h.ln]; exact hn
  have hll : n < s.low.length := by rw [h.ll]; exact hn
  have hS : stk (⟨n, 0, []⟩ :: gs) = stk fs ++ [n] := by simp [stk, hst]
  have hc := h.c0
  have hne : ∀ x ∈ stk fs, n ≠ x := fun x hx e => hu1 (e ▸ hx)
  refine ⟨by simp [tBegin, h.ln], by simp [tBegin, h.ll], h.lp, ?_, ?_, ?_, ?_, ?_, ?_, by simp only [tBegin]; omega, ?_, hch, h.clo, h.ptl, h.g0, ?_, h.gn, h.scc⟩
  · intro x hx
    rw [hS, List.mem_append, List.mem_singleton] at hx
    rcases hx with hx | rfl
    · exact h.inG x hx
    · exact hn
  · intro x hx
    rw [hS, nm_begin hnl, List.mem_append, List.mem_singleton]
    by_cases e : n = x
    · subst e
      rw [if_pos rfl]
      exact ⟨fun _ => .inl (.inr rfl), fun _ => by omega⟩
    · rw [if_neg e, h.vis x hx]
      constructor
      · rintro (h1 | h1)
        · exact .inl (.inl h1)
        · exact .inr h1
      · rintro ((h1 | h1) | h1)
        · exact .inl h1
        · exact absurd h1.symm e
        · exact .inr h1
  · intro x hx
    rw [nm_begin hnl]
    split
    · omega
    · exact h.non x hx
  · intro x hx
    rw [hS, List.mem_append, List.mem_singleton] at hx
    rcases hx with hx | rfl
    · exact h.off x hx
    · exact hu2
  · rw [hS, List.pairwise_append]
    refine ⟨?_, by simp, ?_⟩
    · refine h.asc.imp_of_mem fun {a b} ha hb hab => ?_
      rw [nm_begin hnl, nm_begin hnl, if_neg (hne a ha), if_neg (hne b hb)]
      exact hab
    · intro a ha b hb
      rw [List.mem_singleton] at hb
      subst hb
      rw [nm_begin hnl, nm_begin hnl, if_neg (hne a ha), if_pos rfl]
      have := h.top a (h.inG a ha)
      omega
  · intro x hx
    rw [nm_begin hnl]
    show _ ≤ s.count + 1
    split
    · omega
    · have := h.top x hx; omega
  · intro k hk
    rw [hS]
    rcases List.mem_cons.1 hk with rfl | hk
    · refine ⟨by simp, fun u w hs => ?_, fun u hu => absurd hu (by simp), fun u hu => absurd hu (by simp), ?_, ⟨n, by simp, ?_, Rch.self _⟩, fun u w hs => ?_⟩
      · rcases hs with ⟨_, h1⟩ | ⟨h1, _⟩
        · simp at h1
        · simp at h1
      · dsimp only; rw [nm_begin hnl, lw_begin hll, if_pos rfl, if_pos rfl]; omega
      · dsimp only; rw [nm_begin hnl, lw_begin hll, if_pos rfl, if_pos rfl]
      · rcases hs with ⟨_, h1⟩ | ⟨h1, _⟩
        · simp at h1
        · simp at h1
    · exact hfr k hk
  · have h1 := countP_set (p := fun x => decide (x = 0)) hnl (v := s.count + 1) (by have : s.num[n] = s.nm n := (getD_at hnl).symm; rw [this]; simp [h0]) (by simp; omega)
    have h2 := h.cn
    simp only [tBegin]
    omega
/-- a frame that is not touched, where a node is begun -/
theorem FrOK.begin (h : TInv g s fs) {k : Tf} (hk : k ∈ fs) {n : Nat} (hn : n < g.length) (h0 : s.nm n = 0) : FrOK g (tBegin n s) (stk fs ++ [n]) k := by
  obtain ⟨hu1, hu2⟩ := h.unvis hn h0
  have hnl : n < s.num.length := by rw [h.ln]; exact hn
  have hll : n < s.low.length := by rw [h.ll]; exact hn
  have hc := h.c0
  have hF := h.frs k hk
  have hne : n ≠ k.v := fun e => hu1 (e ▸ fv_stk hk)
  have hv : ∀ u w, seen g k u w → w.toNat ≠ n := fun u w hs e => by have := hF.vis u w hs; rw [e] at this; omega
  refine ⟨hF.i, fun u w hs => ?_, hF.out, hF.back, ?_, ?_, fun u w hs hw => ?_⟩
  · rw [nm_begin hnl, if_neg (Ne.symm (hv u w hs))]; exact hF.vis u w hs
  · rw [nm_begin hnl, lw_begin hll, if_neg hne, if_neg hne]; exact hF.le
  · obtain ⟨x, h1, h2, h3⟩ := hF.wit
    refine ⟨x, List.mem_append_left _ h1, ?_, h3⟩
    have hnx : n ≠ x := fun e => hu1 (e ▸ h1)
    rw [nm_begin hnl, lw_begin hll, if_neg hnx, if_neg hne]; exact h2
  · rw [List.mem_append, List.mem_singleton] at hw
    rcases hw with hw | hw
    · rw [nm_begin hnl, lw_begin hll, if_neg hne, if_neg (Ne.symm (hv u w hs))]; exact hF.all u w hs hw
    · exact absurd hw (hv u w hs)
/-- (1) a root -/
theorem TInv.root (h : TInv g s []) (hg : okG g) {n : Nat} (hn : n < g.length) (h0 : s.nm n = 0) : TInv g (tBegin n s) [⟨n, 0, []⟩] :=
  h.begin hg hn h0 (gs := []) rfl (fun k hk => absurd hk (by simp)) trivial
/-- one edge more is looked at -/
theorem FrOK.more (hF : FrOK g s (stk fs) f) (hi : f.i < (rowN g f.v).length) {w : Nat} (hw : (rowN g f.v)[f.i] = (w : Int)) (hv : 0 < s.nm w) (ha : w ∈ stk fs → s.lw f.v ≤ s.nm w) : FrOK g s (stk fs) ⟨f.v, f.i + 1, f.seg⟩ := by
  have hs : ∀ u x, seen g ⟨f.v, f.i + 1, f.seg⟩ u x → seen g f u x ∨ x = (w : Int) := by
    rintro u x (⟨h1, h2⟩ | h1)
    · dsimp only at h1 h2
      subst h1
      rw [List.take_succ_eq_append_getElem hi, List.mem_append, List.mem_singleton, hw] at h2
      rcases h2 with h2 | h2
      · exact .inl (.inl ⟨rfl, h2⟩)
      · exact .inr h2
    · exact .inl (.inr h1)
  refine ⟨hi, fun u x hx => ?_, hF.out, hF.back, hF.le, hF.wit, fun u x hx hxs => ?_⟩
  · rcases hs u x hx with h1 | rfl
    · exact hF.vis u x h1
    · exact hv
  · rcases hs u x hx with h1 | rfl
    · exact hF.all u x h1 hxs
    · exact ha hxs
theorem TInv.moved (h : TInv g s (f :: r)) (hF : FrOK g s (stk (f :: r)) ⟨f.v, f.i + 1, f.seg⟩) : TInv g s (⟨f.v, f.i + 1, f.seg⟩ :: r) := by
  have hS : stk (⟨f.v, f.i + 1, f.seg⟩ :: r) = stk (f :: r) := rfl
  refine ⟨h.ln, h.ll, h.lp, h.inG, h.vis, h.non, h.off, h.asc, h.top, h.c0, ?_, ?_, h.clo, h.ptl, h.g0, h.cn, h.gn, h.scc⟩
  · intro k hk
    rw [hS]
    rcases List.mem_cons.1 hk with rfl | hk
    · exact hF
    · exact h.frs k (by simp [hk])
  · have := h.chn
    cases r with
    | nil => trivial
    | cons k r => exact this
/-- (4) an edge to what is closed -/
theorem TInv.shut (h : TInv g s (f :: r)) (hi : f.i < (rowN g f.v).length) {w : Nat} (hwl : w < g.length) (hw : (rowN g f.v)[f.i] = (w : Int)) (hc : 0 ≤ s.pt w) : TInv g s (⟨f.v, f.i + 1, f.seg⟩ :: r) :=
  h.moved ((h.frs f (by simp)).more hi hw ((h.vis w hwl).2 (.inr hc)) (fun hx => by have := h.off w hx; omega))
/-- (2) an edge to a node that is begun -/
theorem TInv.tree (h : TInv g s (f :: r)) (hg : okG g) (hi : f.i < (rowN g f.v).length) {w : Nat} (hwl : w < g.length) (hw : (rowN g f.v)[f.i] = (w : Int)) (h0 : s.nm w = 0) : TInv g (tBegin w s) (⟨w, 0, []⟩ :: ⟨f.v, f.i + 1, f.seg⟩ :: r) := by
  obtain ⟨hu1, hu2⟩ := h.unvis hwl h0
  have hnl : w < s.num.length := by rw [h.ln]; exact hwl
  have hll : w < s.low.length := by rw [h.ll]; exact hwl
  have hne : w ≠ f.v := fun e => hu1 (e ▸ fv_stk (by simp))
  have hcc := h.c0
  have hedge : (w : Int) ∈ g.getD f.v [] := by rw [← hw]; exact List.getElem_mem _
  refine h.begin hg hwl h0 (gs := ⟨f.v, f.i + 1, f.seg⟩ :: r) rfl ?_ ?_
  · intro k hk
    rcases List.mem_cons.1 hk with rfl | hk
    · have hF := FrOK.begin h (k := f) (by simp) hwl h0
      have e : stk (⟨w, 0, []⟩ :: f :: r) = stk (f :: r) ++ [w] := by simp [stk]
      rw [← e] at hF ⊢
      refine hF.more hi hw ?_ (fun _ => ?_)
      · rw [nm_begin hnl, if_pos rfl]; omega
      · rw [nm_begin hnl, lw_begin hll, if_pos rfl, if_neg hne]
        have h1 := (h.frs f (by simp)).le
        have h2 := h.top f.v h.fin
        omega
    · exact FrOK.begin h (by simp [hk]) hwl h0
  · refine ⟨Rch.edge hedge, ?_⟩
    have := h.chn
    cases r with
    | nil => trivial
    | cons k r => exact this
/-- low is put lower, where that is right -/
theorem TInv.lower (h : TInv g s (f :: r)) {x : Int} (hx : x ≤ s.lw f.v) (hw : ∃ y ∈ stk (f :: r), s.nm y = x ∧ Rch g [(f.v : Int)] y) : TInv g (tLow f.v x s) (f :: r) := by
  have hll : f.v < s.low.length := by rw [h.ll]; exact h.fin
  refine ⟨h.ln, by simp [tLow, h.ll], h.lp, h.inG, h.vis, h.non, h.off, h.asc, h.top, h.c0, ?_, h.chn, h.clo, h.ptl, h.g0, h.cn, h.gn, h.scc⟩
  intro k hk
  have hF := h.frs k hk
  have hl : (tLow f.v x s).lw k.v = if f.v = k.v then x else s.lw k.v := lw_low hll
  rcases List.mem_cons.1 hk with rfl | hk
  · rw [if_pos rfl] at hl
    refine ⟨hF.i, hF.vis, hF.out, hF.back, ?_, ?_, fun u w hs hws => ?_⟩
    · rw [hl]; exact Int.le_trans hx hF.le
    · rw [hl]; exact hw
    · rw [hl]; exact Int.le_trans hx (hF.all u w hs hws)
  · rw [if_neg (Ne.symm (h.vne hk))] at hl
    refine ⟨hF.i, hF.vis, hF.out, hF.back, ?_, ?_, fun u w hs hws => ?_⟩
    · rw [hl]; exact hF.le
    · rw [hl]; exact hF.wit
    · rw [hl]; exact hF.all u w hs hws
/-- (3) an edge to what stands on the stack -/
theorem TInv.back (h : TInv g s (f :: r)) (hi : f.i < (rowN g f.v).length) {w : Nat} (hwl : w < g.length) (hw : (rowN g f.v)[f.i] = (w : Int)) (h0 : s.nm w ≠ 0) (hc : s.pt w < 0) : TInv g (tLow f.v (min (s.lw f.v) (s.nm w)) s) (⟨f.v, f.i + 1, f.seg⟩ :: r) := by
  have hpos : 0 < s.nm w := by have := h.non w hwl; omega
  have hws : w ∈ stk (f :: r) := by
    rcases (h.vis w hwl).1 hpos with h1 | h1
    · exact h1
    · omega
  have hedge : (w : Int) ∈ g.getD f.v [] := by rw [← hw]; exact List.getElem_mem _
  have hl := h.lower (x := min (s.lw f.v) (s.nm w)) (by omega) (by
    by_cases e : s.lw f.v ≤ s.nm w
    · rw [show min (s.lw f.v) (s.nm w) = s.lw f.v by omega]
      exact (h.frs f (by simp)).wit
    · rw [show min (s.lw f.v) (s.nm w) = s.nm w by omega]
      exact ⟨w, hws, rfl, Rch.edge hedge⟩)
  have hll : f.v < s.low.length := by rw [h.ll]; exact h.fin
  refine hl.moved ((hl.frs f (by simp)).more hi hw hpos (fun _ => ?_))
  rw [lw_low hll, if_pos rfl]
  show _ ≤ s.nm w
  omega
end

section
variable {g : Graph} {s : Ts} {fs : List Tf} {f h : Tf} {r : List Tf}
theorem stk_merge : stk (⟨h.v, h.i, h.seg ++ f.v :: f.seg⟩ :: r) = stk (f :: h :: r) := by simp [stk]
/-- low of the upper frame goes down into the one below; where it is no less than that one's nothing is otherwise -/
theorem TInv.pass (hI : TInv g s (f :: h :: r)) : (tLow h.v (min (s.lw h.v) (s.lw f.v)) s).lw f.v = s.lw f.v := by
  have hll : h.v < s.low.length := by rw [hI.ll]; exact hI.inG h.v (fv_stk (by simp))
  rw [lw_low hll, if_neg (hI.vne (by simp))]
/-- (5) a frame that is done and goes into the one below -/
theorem TInv.merge (hI : TInv g s (f :: h :: r)) (hi : f.i = (rowN g f.v).length) (hne : s.lw f.v ≠ s.nm f.v) : TInv g (tLow h.v (min (s.lw h.v) (s.lw f.v)) s) (⟨h.v, h.i, h.seg ++ f.v :: f.seg⟩ :: r) := by
  have hF := hI.frs f (by simp)
  have hH := hI.frs h (by simp)
  have hll : h.v < s.low.length := by rw [hI.ll]; exact hI.inG h.v (fv_stk (by simp))
  have hS := stk_merge (f := f) (h := h) (r := r)
  have hch := hI.chn
  have hdown : Rch g [(h.v : Int)] f.v := hch.1
  -- the upper node leads back
  have hback : Rch g [(f.v : Int)] h.v := by
    obtain ⟨x, h1, h2, h3⟩ := hF.wit
    have hlt : s.nm x < s.nm f.v := by have := hF.le; omega
    have hxr : x ∈ stk (h :: r) := by
      rw [mem_stk] at h1
      rcases h1 with h1 | h1
      · exact h1
      · have := hI.above x h1; omega
    refine h3.trans (up_all (r := r) (f := h) (fun k hk => (hI.frs k (List.mem_cons_of_mem _ hk)).back) hch.2 x hxr)
  have hlow : ∀ k, (tLow h.v (min (s.lw h.v) (s.lw f.v)) s).lw k = if h.v = k then min (s.lw h.v) (s.lw f.v) else s.lw k := fun k => lw_low hll
  have hseen : ∀ u w, seen g ⟨h.v, h.i, h.seg ++ f.v :: f.seg⟩ u w → seen g h u w ∨ seen g f u w := by
    rintro u w (h1 | ⟨h1, h2⟩)
    · exact .inl (.inl h1)
    · dsimp only at h1
      rw [List.mem_append, List.mem_cons] at h1
      rcases h1 with h1 | rfl | h1
      · exact .inl (.inr ⟨h1, h2⟩)
      · exact .inr (.inl ⟨rfl, by rw [hi, List.take_length]; exact h2⟩)
      · exact .inr (.inr ⟨h1, h2⟩)
  refine ⟨hI.ln, by simp [tLow, hI.ll], hI.lp, by rw [hS]; exact hI.inG, by rw [hS]; exact hI.vis, hI.non, by rw [hS]; exact hI.off, by rw [hS]; exact hI.asc, hI.top, hI.c0, ?_, ?_, hI.clo, hI.ptl, hI.g0, hI.cn, hI.gn, hI.scc⟩
  · intro k hk
    rw [hS]
    rcases List.mem_cons.1 hk with rfl | hk
    · refine ⟨hH.i, fun u w hs => ?_, fun u hu => ?_, fun u hu => ?_, ?_, ?_, fun u w hs hws => ?_⟩
      · rcases hseen u w hs with h1 | h1
        · exact hH.vis u w h1
        · exact hF.vis u w h1
      · dsimp only at hu ⊢
        rw [List.mem_append, List.mem_cons] at hu
        rcases hu with hu | rfl | hu
        · exact hH.out u hu
        · exact hdown
        · exact hdown.trans (hF.out u hu)
      · dsimp only at hu ⊢
        rw [List.mem_append, List.mem_cons] at hu
        rcases hu with hu | rfl | hu
        · exact hH.back u hu
        · exact hback
        · exact (hF.back u hu).trans hback
      · dsimp only
        rw [hlow, if_pos rfl]
        have := hH.le
        show _ ≤ s.nm h.v
        omega
      · dsimp only
        rw [hlow, if_pos rfl]
        by_cases e : s.lw h.v ≤ s.lw f.v
        · rw [show min (s.lw h.v) (s.lw f.v) = s.lw h.v by omega]
          exact hH.wit
        · rw [show min (s.lw h.v) (s.lw f.v) = s.lw f.v by omega]
          obtain ⟨x, h1, h2, h3⟩ := hF.wit
          exact ⟨x, h1, h2, hdown.trans h3⟩
      · dsimp only
        rw [hlow, if_pos rfl]
        show _ ≤ s.nm w.toNat
        rcases hseen u w hs with h1 | h1
        · have := hH.all u w h1 hws; omega
        · have := hF.all u w h1 hws; omega
    · have hK := hI.frs k (by simp [hk])
      have hkv : h.v ≠ k.v := fun e => by
        have h1 := hI.asc
        have h2 : (stk (h :: r)).Pairwise fun a b => s.nm a < s.nm b := by
          simp only [stk] at h1 ⊢
          exact (List.pairwise_append.1 h1).1
        simp only [stk] at h2
        have h3 := (List.pairwise_append.1 h2).2.2 k.v (fv_stk hk) h.v (by simp)
        rw [e] at h3
        exact absurd h3 (Int.lt_irrefl _)
      have hl : (tLow h.v (min (s.lw h.v) (s.lw f.v)) s).lw k.v = s.lw k.v := by rw [hlow, if_neg hkv]
      refine ⟨hK.i, hK.vis, hK.out, hK.back, ?_, ?_, fun u w hs hws => ?_⟩
      · rw [hl]; exact hK.le
      · rw [hl]; exact hK.wit
      · rw [hl]; exact hK.all u w hs hws
  · have := hch.2
    cases r with
    | nil => trivial
    | cons k r => exact this
/-- what is closed leads to what is closed alone -/
theorem TInv.closed (hI : TInv g s fs) (hg : okG g) {a b : Nat} (ha : a < g.length) (hp : 0 ≤ s.pt a) (hr : Rch g [(a : Int)] b) : b < g.length ∧ 0 ≤ s.pt b := by
  induction hr with
  | @base x hx =>
    have : x = (a : Int) := by simpa using hx
    subst this
    simpa using ⟨ha, hp⟩
  | @step m x _ hx ih =>
    have hxr := okG_row hg m x hx
    exact ⟨by omega, hI.clo m ih.1 ih.2 x hx⟩
/-- (6) a part is closed -/
theorem TInv.close (hI : TInv g s (f :: r)) (hg : okG g) (hi : f.i = (rowN g f.v).length) (heq : s.lw f.v = s.nm f.v) : TInv g (tClose (f.v :: f.seg) s) r := by
  have hF := hI.frs f (by simp)
  have hnd := hI.nodup
  have hstk : stk (f :: r) = stk r ++ f.v :: f.seg := rfl
  rw [hstk] at hnd
  have hdis : ∀ x ∈ stk r, x ∉ f.v :: f.seg := fun x h1 h2 => (List.nodup_append.1 hnd).2.2 x h1 x h2 rfl
  have hTnd : (f.v :: f.seg).Nodup := (List.nodup_append.1 hnd).2.1
  have hTg : ∀ x ∈ f.v :: f.seg, x < g.length := fun x hx => hI.inG x (by rw [hstk]; exact List.mem_append_right _ hx)
  have hTl : ∀ x ∈ f.v :: f.seg, x < s.part.length := fun x hx => by rw [hI.lp]; exact hTg x hx
  have hToff : ∀ x ∈ f.v :: f.seg, s.pt x < 0 := fun x hx => hI.off x (by rw [hstk]; exact List.mem_append_right _ hx)
  have hpt : ∀ k, (tClose (f.v :: f.seg) s).pt k = if k ∈ f.v :: f.seg then s.got else s.pt k := fun k => setAll_get hTl k
  have hnm : ∀ k, (tClose (f.v :: f.seg) s).nm k = s.nm k := fun _ => rfl
  have hg0 := hI.g0
  have hTm : ∀ x, x ∈ f.v :: f.seg ↔ x = f.v ∨ x ∈ f.seg := fun x => List.mem_cons
  have hTout : ∀ x ∈ f.v :: f.seg, Rch g [(f.v : Int)] x := fun x hx => by
    rcases (hTm x).1 hx with rfl | hx
    · exact Rch.self _
    · exact hF.out x hx
  have hTback : ∀ x ∈ f.v :: f.seg, Rch g [(x : Int)] f.v := fun x hx => by
    rcases (hTm x).1 hx with rfl | hx
    · exact Rch.self _
    · exact hF.back x hx
  have hTclo : ∀ u ∈ f.v :: f.seg, ∀ w ∈ rowN g u, w.toNat ∈ f.v :: f.seg ∨ 0 ≤ s.pt w.toNat := by
    intro u hu w hw
    have hseen : seen g f u w := by
      rcases (hTm u).1 hu with rfl | hu
      · exact .inl ⟨rfl, by rw [hi, List.take_length]; exact hw⟩
      · exact .inr ⟨hu, hw⟩
    have hwr := okG_row hg u w hw
    rcases (hI.vis w.toNat (by omega)).1 (hF.vis u w hseen) with h1 | h1
    · have h2 := hF.all u w hseen h1
      rw [hstk, List.mem_append] at h1
      rcases h1 with h1 | h1
      · have := hI.below _ h1; omega
      · exact .inl h1
    · exact .inr h1
  refine ⟨hI.ln, hI.ll, by simp only [tClose]; rw [setAll_len]; exact hI.lp, fun n hn => hI.inG n (by rw [hstk]; exact List.mem_append_left _ hn), ?_, hI.non, ?_, ?_, hI.top, hI.c0, ?_, chain_tail hI.chn, ?_, ?_, by simp only [tClose]; omega, hI.cn, ?_, ?_⟩
  · intro n hn
    rw [hnm, hI.vis n hn, hpt, hstk, List.mem_append]
    by_cases e : n ∈ f.v :: f.seg
    · rw [if_pos e]
      exact ⟨fun _ => .inr hg0, fun _ => .inl (.inr e)⟩
    · rw [if_neg e]
      constructor
      · rintro ((h1 | h1) | h1)
        · exact .inl h1
        · exact absurd h1 e
        · exact .inr h1
      · rintro (h1 | h1)
        · exact .inl (.inl h1)
        · exact .inr h1
  · intro n hn
    rw [hpt, if_neg (hdis n hn)]
    exact hI.off n (by rw [hstk]; exact List.mem_append_left _ hn)
  · have := hI.asc
    rw [hstk] at this
    exact (List.pairwise_append.1 this).1
  · intro k hk
    have hK := hI.frs k (by simp [hk])
    refine ⟨hK.i, hK.vis, hK.out, hK.back, hK.le, ?_, fun u w hs hws => hK.all u w hs (by rw [hstk]; exact List.mem_append_left _ hws)⟩
    obtain ⟨x, h1, h2, h3⟩ := hK.wit
    refine ⟨x, ?_, h2, h3⟩
    rw [mem_stk] at h1
    rcases h1 with h1 | h1
    · exact h1
    · have a1 := hI.above x h1
      have a2 := hI.below k.v (fv_stk hk)
      have a3 := hK.le
      omega
  · intro n hn hp w hw
    have hwr := okG_row hg n w hw
    rw [hpt] at hp ⊢
    split
    · exact hg0
    · rename_i hwT
      split at hp
      · rename_i hnT
        rcases hTclo n hnT w hw with h1 | h1
        · exact absurd h1 hwT
        · exact h1
      · exact hI.clo n hn hp w hw
  · intro n hn
    rw [hpt]
    show _ < s.got + 1
    split
    · omega
    · have := hI.ptl n hn; omega
  · have h1 := setAll_negs (p := s.part) (x := s.got) hg0 hTnd hTl hToff
    have h2 := hI.gn
    simp only [tClose, List.length_cons] at h1 ⊢
    omega
  · intro a b ha hb hpa hpb
    rw [hpt] at hpa hpb ⊢
    rw [hpt]
    by_cases ea : a ∈ f.v :: f.seg <;> by_cases eb : b ∈ f.v :: f.seg
    · rw [if_pos ea, if_pos eb]
      exact ⟨fun _ => ⟨(hTback a ea).trans (hTout b eb), (hTback b eb).trans (hTout a ea)⟩, fun _ => rfl⟩
    · rw [if_pos ea, if_neg eb]
      rw [if_neg eb] at hpb
      have h1 := hI.ptl b hb
      constructor
      · intro e; omega
      · rintro ⟨_, h3⟩
        have := hI.closed hg hb hpb h3
        have := hToff a ea
        omega
    · rw [if_neg ea, if_pos eb]
      rw [if_neg ea] at hpa
      have h1 := hI.ptl a ha
      constructor
      · intro e; omega
      · rintro ⟨h3, _⟩
        have := hI.closed hg ha hpa h3
        have := hToff b eb
        omega
    · rw [if_neg ea, if_neg eb]
      rw [if_neg ea] at hpa
      rw [if_neg eb] at hpb
      exact hI.scc a b ha hb hpa hpb
/-- the last frame's low is its number -/
theorem TInv.alone (hI : TInv g s [f]) : s.lw f.v = s.nm f.v := by
  have hF := hI.frs f (by simp)
  obtain ⟨x, h1, h2, _⟩ := hF.wit
  rw [mem_stk] at h1
  have h3 := hF.le
  rcases h1 with h1 | h1
  · simp [stk] at h1
  · have := hI.above x h1; omega
/-- low of the frame below stays, where a part is closed -/
theorem TInv.keepLow (hI : TInv g s (f :: h :: r)) (heq : s.lw f.v = s.nm f.v) : tLow h.v (min (s.lw h.v) (s.lw f.v)) s = s := by
  have h1 := (hI.frs h (by simp)).le
  have h2 := hI.below h.v (fv_stk (by simp))
  have hll : h.v < s.low.length := by rw [hI.ll]; exact hI.inG h.v (fv_stk (by simp))
  have e : min (s.lw h.v) (s.lw f.v) = s.low[h.v] := by
    have : s.lw h.v = s.low[h.v] := getD_at hll
    omega
  unfold tLow
  rw [e, List.set_getElem_self]
end
end Go.Proofs.YtllpfgcngokhnaaGreat

