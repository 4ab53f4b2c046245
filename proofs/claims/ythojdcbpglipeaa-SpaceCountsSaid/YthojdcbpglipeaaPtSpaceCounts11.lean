import Derived.Test.YthojdcbpglipeaaRows
import Derived.OpenShut
import Derived.JoinedCond
import Derived.Test.YthojdcbpglipeaaPtSpaceCounts10
/-
  SpaceBounds: walked.
-/
set_option linter.unusedVariables false
set_option linter.unusedSimpArgs false
namespace Go.Proofs.Ythojdcbpglipeaa
open Go.RowKit

theorem Explore_sp (w0 : World) {so fo : Option Addr} {sc fc : Nat} {ns : List LNode} {fl : List LFlow} (hs : Sl w0 (Old w0) so sc ns) (hf : Sl w0 (Old w0) fo fc fl) (tok st : Int) {r : (List (List Int) × List (List LEdge)) × Int} (hr : exploreE (ns, fl) tok st = r) :
    Rt Try.prog 54 [procV so sc fo fc ns.length fl.length, .int .i64 tok, .int .i64 st].toArray w0 fun v w' => ∃ mo mc no nc, v = .tuple ⟨[spV mo mc no nc r.1.1.length r.1.2.length, .int .i64 r.2]⟩ ∧ Sl w' (Old w') mo mc r.1.1 ∧ Sl w' (Old w') no nc r.1.2 ∧ Ext w0 w' := by
  subst hr
  refine Rt.mono (Explore_ok w0 hs hf tok st) ?_
  rintro _ w' ⟨x, y, rfl, hx, hy, hE⟩
  obtain ⟨mo, mc, rfl, h1⟩ := hx.sl
  obtain ⟨no, nc, rfl, h2⟩ := hy.sl
  exact ⟨mo, mc, no, nc, rfl, h1, h2, hE⟩
theorem spV_agg {mo no : Option Addr} {mc nc ml nl : Nat} : spV mo mc no nc ml nl = .agg [.slice mo ml mc, .slice no nl nc].toArray := rfl
set_option maxRecDepth 100000 in
theorem SpaceBounds_ok (w0 : World) {so fo : Option Addr} {sc fc : Nat} {ns : List LNode} {fl : List LFlow} (hs : Sl w0 (Old w0) so sc ns) (hf : Sl w0 (Old w0) fo fc fl) (a b c d : Int) :
    Rt Try.prog 14 [procV so sc fo fc ns.length fl.length, .int .i64 a, .int .i64 b, .int .i64 c, .int .i64 d].toArray w0 fun v w' => v = .bool true ∧ Ext w0 w' := by
  refine Rt.enter5 Try.func14 Try.ntmps14 rfl rfl ?_
  have hE := Ext.refl w0
  (repeat (first | (apply CW.seq) | (apply CW.region)))
  refine WL.boxB rfl rfl rfl fun w1 hb5 e1 => ?_
  have hE := hE.trans e1
  (repeat (first | (apply WL.pure; rfl; rfl; rfl) | (apply WL.nil) | (apply EX.thenN) | (apply CW.seq) | (apply CW.region)))
  refine WL.call rfl rfl rfl (straight_ok w1) ?_
  rintro _ w2 ⟨⟨p1, q1, p2, q2, rfl, g1, g2⟩, e2⟩
  have hb5 := hb5.ext e2
  have hE := hE.trans e2
  skip
  refine WL.call rfl rfl rfl (Explore_sp w2 (ns := straightP.1) (fl := straightP.2) g1 g2 9 200 straight_sp.2.1) ?_
  rintro _ w3 ⟨mo, mc, no, nc, rfl, _, _, e3⟩
  have hb5 := hb5.ext e3
  have hE := hE.trans e3
  dsimp only
  rw [spV_agg]
  (repeat (apply WL.pure; rfl; rfl; rfl))
  refine WL.alloc rfl rfl (fun w4 hb11 e4 => ?_)
  skip
  refine WL.st rfl rfl rfl hb11 rfl rfl (ones_of rfl) (fun w5 hb11 hg5 => ?_)
  have e5 : Ext w3 w5 := e4.grown hg5 e4.size (fun g hg => by cases hg; exact Nat.le_refl _)
  have hb5 := hb5.ext e5
  have hE := hE.trans e5
  rw [show (([[1, 0], [0, 1], [0, 0]] : List (List Int)).length) = 3 from rfl] at hb11
  clear e1 e2 e3 e4 e5 g1 g2 hg5
  (repeat (first | (apply WL.pure; rfl; rfl; rfl) | (apply WL.nil) | (apply EX.thenN) | (apply CW.seq) | (apply CW.region) | (apply WL.lenS; rfl; rfl; rfl) | (apply WL.fa; rfl; rfl; rfl) | (apply WL.ld; rfl; rfl; rfl; assumption; rfl) | (apply WL.ldA; rfl; rfl; rfl; assumption; rfl) | (apply CW.condF; rfl) | (apply CW.skip)))
  refine WL.call rfl rfl rfl (Explore_sp w5 (hs.up hE) (hf.up hE) a b rfl) ?_
  rintro _ w6 ⟨mo1, mc1, no1, nc1, rfl, hm1, hn1, e6⟩
  have hb5 := hb5.ext e6
  have hE := hE.trans e6
  have her1 := exploreE_err (p := (ns, fl)) (a := a) (b := b)
  have hsm := exploreE_same (p := (ns, fl)) (a := a) (b := b) (c := c) (d := d)
  generalize exploreE (ns, fl) a b = r1 at *
  obtain ⟨⟨m1, n1⟩, x1⟩ := r1
  dsimp only at hm1 hn1 her1 hsm ⊢
  rw [spV_agg]
  (repeat (apply WL.pure; rfl; rfl; rfl))
  refine WL.alloc rfl rfl (fun w7 hb13 e7 => ?_)
  skip
  refine WL.st rfl rfl rfl hb13 rfl rfl (ones_of rfl) (fun w8 hb13 hg8 => ?_)
  have e8 : Ext w6 w8 := e7.grown hg8 e7.size (fun g hg => by cases hg; exact Nat.le_refl _)
  have hb5 := hb5.ext e8
  have hE := hE.trans e8
  have hm1 := hm1.up e8
  have hn1 := hn1.up e8
  clear e6 e7 e8 hg8
  (repeat (first | (apply WL.pure; rfl; rfl; rfl) | (apply WL.nil) | (apply EX.thenN) | (apply CW.seq) | (apply CW.region) | (apply WL.ldA; rfl; rfl; rfl; assumption; rfl)))
  refine WL.call rfl rfl rfl (Explore_sp w8 (hs.up hE) (hf.up hE) c d rfl) ?_
  rintro _ w9 ⟨mo2, mc2, no2, nc2, rfl, hm2, hn2, e9⟩
  have hb13 := hb13.ext e9
  have hE := hE.trans e9
  have hm1 := hm1.up e9
  have hn1 := hn1.up e9
  have her2 := exploreE_err (p := (ns, fl)) (a := c) (b := d)
  generalize exploreE (ns, fl) c d = r2 at *
  obtain ⟨⟨m2, n2⟩, x2⟩ := r2
  dsimp only at hm2 hn2 her2 hsm ⊢
  rw [spV_agg]
  (repeat (apply WL.pure; rfl; rfl; rfl))
  refine WL.alloc rfl rfl (fun w10 hb15 e10 => ?_)
  skip
  refine WL.st rfl rfl rfl hb15 rfl rfl (ones_of rfl) (fun w11 hb15 hg11 => ?_)
  have e11 : Ext w9 w11 := e10.grown hg11 e10.size (fun g hg => by cases hg; exact Nat.le_refl _)
  have hb13 := hb13.ext e11
  have hE := hE.trans e11
  have hm1 := hm1.up e11
  have hn1 := hn1.up e11
  have hm2 := hm2.up e11
  have hn2 := hn2.up e11
  clear e9 e10 e11 hg11
  by_cases h1 : x1 = 0
  · subst h1
    by_cases h2 : x2 = 0
    · subst h2
      have e := hsm rfl rfl
      injection e with e _
      injection e with ea eb
      subst ea; subst eb
      (repeat (first | (apply WL.pure; rfl; rfl; rfl) | (apply WL.nil) | (apply EX.thenN) | (apply CW.seq) | (apply CW.region) | (apply WL.ldA; rfl; rfl; rfl; assumption; rfl) | (apply CW.condF; rfl) | (apply CW.skip)))
      refine WL.call rfl rfl rfl (SameSpace_ok w11 hm1 hn1 hm2 hn2) ?_
      rintro _ w12 ⟨rfl, e12⟩
      rw [show (m1 == m1 && n1 == n1) = true by simp]
      (repeat (first | (apply WL.pure; rfl; rfl; rfl) | (apply WL.nil) | (apply EX.thenN) | (apply CW.ret)))
      exact EX.ret1 rfl rfl ⟨rfl, hE.trans e12⟩
    · have b2 : (x2 != 0) = true := by simpa using h2
      (repeat (first | (apply WL.pure; rfl; rfl; rfl) | (apply WL.nil) | (apply EX.thenN) | (apply CW.seq) | (apply CW.region)))
      rw [b2]
      (repeat (first | (apply WL.pure; rfl; rfl; rfl) | (apply WL.nil) | (apply EX.thenN) | (apply CW.seq) | (apply CW.region) | (apply WL.pass; rfl; rfl) | (apply CW.condT; rfl) | (apply CW.ret) | (apply EX.thenR)))
      exact EX.ret1 rfl rfl ⟨rfl, hE⟩
  · have b1 : (x1 != 0) = true := by simpa using h1
    have b1' : (x1 == 0) = false := by simpa using h1
    have hnil := her1 h1
    injection hnil with ha hb
    subst ha; subst hb
    (repeat (first | (apply WL.pure; rfl; rfl; rfl) | (apply WL.nil) | (apply EX.thenN) | (apply CW.seq) | (apply CW.region)))
    rw [b1]
    (repeat (first | (apply WL.pure; rfl; rfl; rfl) | (apply WL.nil) | (apply EX.thenN) | (apply CW.seq) | (apply CW.region) | (apply WL.pass; rfl; rfl) | (apply CW.condT; rfl)))
    rw [b1']
    by_cases h2 : x2 = 0
    · subst h2
      (repeat (first | (apply WL.pure; rfl; rfl; rfl) | (apply WL.nil) | (apply EX.thenN) | (apply WL.pass; rfl; rfl) | (apply CW.ret) | (apply EX.thenR)))
      exact EX.ret1 rfl rfl ⟨rfl, hE⟩
    · have b2' : (x2 == 0) = false := by simpa using h2
      have hnil := her2 h2
      injection hnil with ha hb
      subst ha; subst hb
      (repeat (apply WL.pure; rfl; rfl; rfl))
      rw [b2']
      (repeat (first | (apply WL.pure; rfl; rfl; rfl) | (apply WL.nil) | (apply EX.thenN) | (apply WL.lenS; rfl; rfl; rfl) | (apply WL.fa; rfl; rfl; rfl) | (apply WL.ld; rfl; rfl; rfl; assumption; rfl) | (apply CW.ret) | (apply EX.thenR)))
      exact EX.ret1 rfl rfl ⟨rfl, hE⟩
end Go.Proofs.Ythojdcbpglipeaa
/-
  SpaceCounts: walked.
-/
set_option linter.unusedVariables false
set_option linter.unusedSimpArgs false
namespace Go.Proofs.Ythojdcbpglipeaa
open Go.RowKit

instance iSpC1 : IsF Try.prog 58 := ⟨_, Try.func58, rfl, by decide⟩
instance iSpC2 : IsF Try.prog 59 := ⟨_, Try.func59, rfl, by decide⟩
/-- which markings are led to, after n lists of edges and j edges of the next -/
structure LedI (L : Nat) (nl : List (List LEdge)) (fr : List Bool) (n j : Nat) : Prop where
  len : fr.length = L
  zero : fr.getD 0 false = true
  old : ∀ i : Nat, i < L → (∃ k, k < n ∧ k < i ∧ ∃ e ∈ nl.getD k [], e.2 = (i : Int)) → fr.getD i false = true
  cur : ∀ i : Nat, i < L → n < i → (∃ e ∈ (nl.getD n []).take j, e.2 = (i : Int)) → fr.getD i false = true
theorem getDb_set {fr : List Bool} {t i : Nat} (h : fr.getD i false = true) : (fr.set t true).getD i false = true := by
  rw [List.getD_eq_getElem?_getD, List.getElem?_set] at *
  split
  · split <;> rename_i h1 h2
    · rfl
    · rw [List.getElem?_eq_none (by omega)] at h; cases h
  · exact h
theorem LedI.next {L : Nat} {nl : List (List LEdge)} {fr : List Bool} {n j : Nat} (h : LedI L nl fr n j) (hj : (nl.getD n []).length ≤ j) : LedI L nl fr (n + 1) 0 := by
  refine ⟨h.len, h.zero, fun i hi ⟨k, h1, h2, h3⟩ => ?_, fun i _ _ ⟨e, he, _⟩ => by simp at he⟩
  by_cases hk : k < n
  · exact h.old i hi ⟨k, hk, h2, h3⟩
  · obtain rfl : k = n := by omega
    exact h.cur i hi h2 (by rw [List.take_of_length_le hj]; exact h3)
theorem take_mem_next {α : Type} {l : List α} {j : Nat} {x : α} (hj : j < l.length) (h : x ∈ l.take (j + 1)) : x ∈ l.take j ∨ x = l[j] := by
  rw [← List.take_append_getElem hj] at h
  rcases List.mem_append.1 h with h | h
  · exact .inl h
  · exact .inr (List.mem_singleton.1 h)
theorem LedI.skip {L : Nat} {nl : List (List LEdge)} {fr : List Bool} {n j : Nat} (h : LedI L nl fr n j) (hj : j < (nl.getD n []).length) (hle : ¬ ((nl.getD n [])[j].2 > (n : Int))) : LedI L nl fr n (j + 1) := by
  refine ⟨h.len, h.zero, h.old, fun i hi hn ⟨e, he, hx⟩ => ?_⟩
  rcases take_mem_next hj he with h1 | rfl
  · exact h.cur i hi hn ⟨e, h1, hx⟩
  · omega
theorem LedI.mark {L : Nat} {nl : List (List LEdge)} {fr : List Bool} {n j t : Nat} (h : LedI L nl fr n j) (hj : j < (nl.getD n []).length) (ht : (nl.getD n [])[j].2 = (t : Int)) (htl : t < L) : LedI L nl (fr.set t true) n (j + 1) := by
  refine ⟨by simpa using h.len, getDb_set h.zero, fun i hi hx => getDb_set (h.old i hi hx), fun i hi hn ⟨e, he, hx⟩ => ?_⟩
  rcases take_mem_next hj he with h1 | rfl
  · exact getDb_set (h.cur i hi hn ⟨e, h1, hx⟩)
  · obtain rfl : i = t := by omega
    rw [List.getD_eq_getElem?_getD, List.getElem?_set_self (by rw [h.len]; exact hi)]; rfl
theorem LedI.all {p : LProc} {ml : List (List Int)} {nl : List (List LEdge)} {fr : List Bool} {n : Nat} (h : LedI ml.length nl fr n 0) (hs : SpOk p ml nl) (hn : n = nl.length) : fr.contains false = false := by
  have : false ∉ fr := fun hm => by
    obtain ⟨i, hi, e⟩ := List.mem_iff_getElem.1 hm
    have hL : i < ml.length := by rw [← h.len]; exact hi
    have ht : fr.getD i false = true := by
      by_cases h0 : i = 0
      · subst h0; exact h.zero
      · obtain ⟨k, h1, h2, h3⟩ := hs.fr i (by omega) hL
        exact h.old i hL ⟨k, by omega, h1, h3⟩
    rw [List.getD_eq_getElem?_getD, List.getElem?_eq_getElem hi, e] at ht
    cases ht
  simpa [List.contains_eq_mem] using this
theorem counts1_ok (w : World) (b : Nat) (tok x : Int) (hb : Blk w b 3 [.int .i64 tok]) :
    Rt Try.prog 58 [.int .i64 x, .pointer (some ⟨b, 0, none⟩)].toArray w fun v w' => v = .bool (decide (x < 0) || decide (x > tok)) ∧ Ext w w' := by
  refine Rt.enter2 Try.func58 Try.ntmps58 rfl rfl ?_
  by_cases h : x < 0
  · (repeat (first | (apply WL.pure; rfl; rfl; rfl) | (apply WL.nil) | (apply EX.thenN) | (apply CW.seq) | (apply CW.region)))
    rw [decide_eq_true h]
    (repeat (first | (apply WL.pure; rfl; rfl; rfl) | (apply WL.nil) | (apply EX.thenN) | (apply WL.pass; rfl; rfl) | (apply CW.ret)))
    exact EX.ret1 rfl rfl ⟨rfl, Ext.refl _⟩
  · (repeat (first | (apply WL.pure; rfl; rfl; rfl) | (apply WL.nil) | (apply EX.thenN) | (apply CW.seq) | (apply CW.region)))
    rw [decide_eq_false h]
    (repeat (first | (apply WL.pure; rfl; rfl; rfl) | (apply WL.nil) | (apply EX.thenN) | (apply WL.ld; rfl; rfl; rfl; assumption; rfl) | (apply CW.ret)))
    exact EX.ret1 rfl rfl ⟨by simp, Ext.refl _⟩
theorem counts2_ok (w : World) (b : Nat) {mo ko : Option Addr} {mc kc : Nat} {m k : List Int} (hb : Blk w b 22 [.slice mo m.length mc]) (hm : Sl w (Old w) mo mc m) (hk : Sl w (Old w) ko kc k) :
    Rt Try.prog 59 [.slice ko k.length kc, .pointer (some ⟨b, 0, none⟩)].toArray w fun v w' => v = .bool (k == m) ∧ Ext w w' := by
  refine Rt.enter2 Try.func59 Try.ntmps59 rfl rfl ?_
  (repeat (first | (apply WL.pure; rfl; rfl; rfl) | (apply WL.nil) | (apply EX.thenN) | (apply CW.seq) | (apply CW.region) | (apply WL.ld; rfl; rfl; rfl; assumption; rfl)))
  refine WL.call rfl rfl rfl (equal_int w hk hm) ?_
  rintro _ w1 ⟨rfl, e1⟩
  (repeat (first | (apply WL.pure; rfl; rfl; rfl) | (apply WL.nil) | (apply EX.thenN) | (apply CW.ret)))
  exact EX.ret1 rfl rfl ⟨rfl, e1⟩
set_option maxRecDepth 100000 in
theorem SpaceCounts_ok (w0 : World) {so fo : Option Addr} {sc fc : Nat} {ns : List LNode} {fl : List LFlow} (hs : Sl w0 (Old w0) so sc ns) (hf : Sl w0 (Old w0) fo fc fl) (tok st : Int) :
    Rt Try.prog 13 [procV so sc fo fc ns.length fl.length, .int .i64 tok, .int .i64 st].toArray w0 fun v w' => v = .bool true ∧ Ext w0 w' := by
  refine Rt.enter3 Try.func13 Try.ntmps13 rfl rfl ?_
  have hE := Ext.refl w0
  (repeat (first | (apply CW.seq) | (apply CW.region)))
  refine WL.boxB rfl rfl rfl fun w1 hb3 e1 => ?_
  have hE := hE.trans e1
  skip
  refine WL.boxB rfl rfl rfl fun w2 hb4 e2 => ?_
  have hb3 := hb3.ext e2
  have hE := hE.trans e2
  (repeat (first | (apply WL.pure; rfl; rfl; rfl) | (apply WL.nil) | (apply EX.thenN) | (apply CW.seq) | (apply CW.region)))
  refine WL.call rfl rfl rfl (straight_ok w2) ?_
  rintro _ w3 ⟨⟨p1, q1, p2, q2, rfl, g1, g2⟩, e3⟩
  have hb3 := hb3.ext e3
  have hb4 := hb4.ext e3
  have hE := hE.trans e3
  skip
  refine WL.call rfl rfl rfl (Explore_sp w3 (ns := straightP.1) (fl := straightP.2) g1 g2 1 2 rfl) ?_
  rintro _ w4 ⟨mo, mc, no, nc, rfl, _, _, e4⟩
  have hb3 := hb3.ext e4
  have hb4 := hb4.ext e4
  have hE := hE.trans e4
  rw [show ((straightP.1, straightP.2) : LProc) = straightP from rfl, straight_sp.1]
  rw [spV_agg]
  (repeat (apply WL.pure; rfl; rfl; rfl))
  refine WL.alloc rfl rfl (fun w5 hb7 e5 => ?_)
  skip
  refine WL.st rfl rfl rfl hb7 rfl rfl (ones_of rfl) (fun w6 hb7 hg6 => ?_)
  have e6 : Ext w4 w6 := e5.grown hg6 e5.size (fun g hg => by cases hg; exact Nat.le_refl _)
  have hb3 := hb3.ext e6
  have hb4 := hb4.ext e6
  have hE := hE.trans e6
  clear e1 e2 e3 e4 e5 e6 g1 g2 hg6 hb7
  (repeat (first | (apply WL.pure; rfl; rfl; rfl) | (apply WL.nil) | (apply EX.thenN) | (apply CW.seq) | (apply CW.region) | (apply WL.ld; rfl; rfl; rfl; assumption; rfl) | (apply WL.ldA; rfl; rfl; rfl; assumption; rfl) | (apply CW.condF; rfl) | (apply CW.skip)))
  refine WL.call rfl rfl rfl (Explore_sp w6 (hs.up hE) (hf.up hE) tok st rfl) ?_
  rintro _ w7 ⟨mo1, mc1, no1, nc1, rfl, hm1, hn1, e7⟩
  have hb4 := hb4.ext e7
  have hE := hE.trans e7
  have her := exploreE_err (p := (ns, fl)) (a := tok) (b := st)
  have hlaw := explore_law (p := (ns, fl)) (tok := tok) (st := st)
  generalize exploreE (ns, fl) tok st = r1 at *
  obtain ⟨⟨ml, nl⟩, x1⟩ := r1
  dsimp only at hm1 hn1 her hlaw ⊢
  rw [spV_agg]
  (repeat (apply WL.pure; rfl; rfl; rfl))
  refine WL.alloc rfl rfl (fun w8 hb9 e8 => ?_)
  skip
  refine WL.st rfl rfl rfl hb9 rfl rfl (ones_of rfl) (fun w9 hb9 hg9 => ?_)
  have e9 : Ext w7 w9 := e8.grown hg9 e8.size (fun g hg => by cases hg; exact Nat.le_refl _)
  have hb4 := hb4.ext e9
  have hE := hE.trans e9
  have hm1 := hm1.up e9
  have hn1 := hn1.up e9
  clear e7 e8 e9 hg9 hb3
  by_cases h1 : x1 = 0
  case neg =>
    have b1 : (x1 != 0) = true := by simpa using h1
    have hnil := her h1
    injection hnil with ha hb
    subst ha; subst hb
    (repeat (first | (apply WL.pure; rfl; rfl; rfl) | (apply WL.nil) | (apply EX.thenN) | (apply CW.seq) | (apply CW.region)))
    rw [b1]
    (repeat (first | (apply WL.pure; rfl; rfl; rfl) | (apply WL.nil) | (apply EX.thenN) | (apply CW.seq) | (apply CW.region) | (apply WL.lenS; rfl; rfl; rfl) | (apply WL.fa; rfl; rfl; rfl) | (apply WL.ld; rfl; rfl; rfl; assumption; rfl) | (apply CW.condT; rfl) | (apply CW.ret) | (apply EX.thenR)))
    exact EX.ret1 rfl rfl ⟨rfl, hE⟩
  subst h1
  obtain ⟨hz, hsr, hsp, hnl, hml0, _, h200⟩ := hlaw rfl
  have hst := hsr.st
  clear her hlaw
  (repeat (first | (apply WL.pure; rfl; rfl; rfl) | (apply WL.nil) | (apply EX.thenN) | (apply CW.seq) | (apply CW.region) | (apply WL.lenS; rfl; rfl; rfl) | (apply WL.fa; rfl; rfl; rfl) | (apply WL.ld; rfl; rfl; rfl; assumption; rfl) | (apply CW.condF; rfl) | (apply CW.skip)))
  refine WL.make (α := Bool) rfl rfl rfl rfl (by omega) (by unfold maxLen; omega) (fun w10 ho hg10 => ?_)
  have e10 : Ext w9 w10 := (Below.refl _ _).grown hg10 (Nat.le_refl _) (fun k h => by cases h)
  have hlt10 : w9.heap.size < w10.heap.size := (ho.lt _ rfl).2.1
  generalize hsv : Value.slice (some ⟨w9.heap.size, 0, none⟩) ml.length ml.length = sv at *
  have hsb : sv.ownBlock = some w9.heap.size := by rw [← hsv]; rfl
  (repeat (first | (apply WL.pure; rfl; rfl; rfl) | (apply WL.nil) | (apply EX.thenN) | (apply CW.seq) | (apply CW.region)))
  refine WL.set rfl rfl rfl rfl ho (by omega) (by simp; omega) (fun _ => rfl) (fun _ => rfl) (Rd.mkBool _ _ true) (fun w11 q ho hg11 => ?_)
  have e11 : Ext w9 w11 := e10.grown hg11 e10.size (fun k hk => by rw [hsb] at hk; cases hk; exact Nat.le_refl _)
  have hI0 : LedI ml.length nl ((List.replicate ml.length false).set (0 : Int).toNat true) 0 0 := by
    refine ⟨by simp, ?_, fun i _ ⟨k, h, _⟩ => absurd h (by omega), fun i _ _ ⟨e, he, _⟩ => by simp at he⟩
    rw [List.getD_eq_getElem?_getD, show (0 : Int).toNat = 0 from rfl, List.getElem?_set_self (by simpa using hml0)]; rfl
  generalize (List.replicate ml.length false).set (0 : Int).toNat true = fr0 at *
  have hml := hm1.len63
  have hnn := hn1.len63
  clear hg10 hg11 e10 hlt10 hsv
  have hb9x := hb9.ext e11
  (repeat (first | (apply WL.pure; rfl; rfl; rfl) | (apply WL.nil) | (apply EX.thenN) | (apply CW.seq) | (apply CW.region) | (apply WL.lenS; rfl; rfl; rfl) | (apply WL.fa; rfl; rfl; rfl) | (apply WL.ld; rfl; rfl; rfl; assumption; rfl) | (apply CW.block)))
  clear hb9x
  refine CW.loop (S := Nat × List Bool) (fun t => [(2, .int .i64 st), (4, .pointer (some ⟨w1.heap.size, 0, none⟩)), (9, .pointer (some ⟨w7.heap.size, 0, none⟩)), (11, sv), (49, .slice no1 nl.length nc1), (50, .int .i64 nl.length), (51, .int .i64 t.1)])
    (fun t w => t.1 ≤ nl.length ∧ LedI ml.length nl t.2 t.1 0 ∧ Own w w9.heap.size 4 Non sv t.2 ∧ Ext w9 w) (fun t => nl.length - t.1) (0, fr0) (by repeat (first | exact trivial | refine ⟨rfl, ?_⟩)) ⟨Nat.zero_le _, hI0, ho, e11⟩ ?_
  rintro ⟨n, fr⟩ w12 ⟨hn, hI, ho, e12⟩
  dsimp only at hn hI ho e12 ⊢
  have hb9x := hb9.ext e12
  (repeat (first | (apply WL.pure; rfl; rfl; rfl) | (apply WL.nil) | (apply EX.thenN) | (apply CW.seq) | (apply CW.region)))
  refine CW.cond rfl (fun h => ?_) (fun h => ?_)
  · have hn' : n < nl.length := by simp at h; omega
    have hgn : nl.getD n [] = nl[n] := by rw [List.getD_eq_getElem?_getD, List.getElem?_eq_getElem hn']; rfl
    have hed := hsp.ed n hn'
    rw [hgn] at hed
    (repeat (first | (apply WL.pure; rfl; rfl; rfl) | (apply EX.thenN) | (apply CW.seq) | (apply CW.region) | (apply CW.block) | (apply CW.skip)))
    refine WL.elemN (i := n) rfl rfl rfl rfl rfl (hn1.at e12) hn' (fun _ => rfl) (fun u q hu => ?_)
    obtain ⟨ea, ec, rfl, hes⟩ := hu.sl
    have hel := hes.len63
    (repeat (first | (apply WL.pure; rfl; rfl; rfl) | (apply WL.nil) | (apply EX.thenN) | (apply CW.seq) | (apply CW.region) | (apply WL.lenS; rfl; rfl; rfl) | (apply CW.block)))
    refine CW.loop (S := Nat × List Bool) (fun t => [(2, .int .i64 st), (4, .pointer (some ⟨w1.heap.size, 0, none⟩)), (9, .pointer (some ⟨w7.heap.size, 0, none⟩)), (11, sv), (12, .int .i64 n), (49, .slice no1 nl.length nc1), (50, .int .i64 nl.length), (51, .int .i64 n), (56, .slice ea nl[n].length ec), (57, .int .i64 nl[n].length), (58, .int .i64 t.1)])
      (fun t w => t.1 ≤ nl[n].length ∧ LedI ml.length nl t.2 n t.1 ∧ Own w w9.heap.size 4 Non sv t.2 ∧ Ext w9 w) (fun t => nl[n].length - t.1) (0, fr) (by repeat (first | exact trivial | refine ⟨rfl, ?_⟩)) ⟨Nat.zero_le _, hI, ho, e12⟩ ?_
    rintro ⟨j, fr⟩ w13 ⟨hj, hI, ho, e13⟩
    dsimp only at hj hI ho e13 ⊢
    have hes : Sl w13 (Old w9) ea ec nl[n] := hes.mono (fun b hb => (e13.block b hb).trans (e12.block b hb).symm) (fun _ h => h)
    (repeat (first | (apply WL.pure; rfl; rfl; rfl) | (apply WL.nil) | (apply EX.thenN) | (apply CW.seq) | (apply CW.region)))
    refine CW.cond rfl (fun h => ?_) (fun h => ?_)
    · have hj' : j < nl[n].length := by simp at h; omega
      obtain ⟨_, ht0, ht1, _⟩ := hed nl[n][j] (List.getElem_mem hj')
      have hsk := hI.skip (by rw [hgn]; exact hj')
      have hmk := fun t => hI.mark (t := t) (by rw [hgn]; exact hj')
      simp only [hgn] at hsk hmk
      (repeat (first | (apply EX.thenN) | (apply CW.seq) | (apply CW.region) | (apply CW.block) | (apply CW.skip)))
      refine WL.elemN (i := j) rfl rfl rfl rfl rfl hes hj' (fun _ => rfl) (fun u q hu => ?_)
      rw [hu.edge]
      generalize nl[n][j] = x at *
      obtain ⟨x1, x2⟩ := x
      dsimp only at ht0 ht1 hsk hmk
      unfold edV
      dsimp only
      skip
      refine WL.alloc rfl rfl (fun w14 hb15 e14 => ?_)
      skip
      refine WL.st rfl rfl rfl hb15 rfl rfl (ones_of rfl) (fun w15 hb15 hg15 => ?_)
      have e15 : Ext w13 w15 := e14.grown hg15 e14.size (fun g hg => by cases hg; exact Nat.le_refl _)
      have ho := ho.extN e15
      have e15' := e13.trans e15
      (repeat (first | (apply WL.pure; rfl; rfl; rfl) | (apply WL.nil) | (apply EX.thenN) | (apply CW.seq) | (apply CW.region) | (apply WL.fa; rfl; rfl; rfl) | (apply WL.ld; rfl; rfl; rfl; assumption; rfl)))
      by_cases hgt : x2 > (n : Int)
      · rw [decide_eq_true hgt]
        (repeat (first | (apply WL.pure; rfl; rfl; rfl) | (apply CW.region) | (apply WL.fa; rfl; rfl; rfl) | (apply WL.ld; rfl; rfl; rfl; assumption; rfl) | (apply CW.condT; rfl)))
        refine WL.set rfl rfl rfl rfl ho (by omega) (by rw [hI.len]; omega) (fun _ => rfl) (fun _ => rfl) (Rd.mkBool _ _ true) (fun w16 q ho hg16 => ?_)
        have e16 : Ext w9 w16 := e15'.grown hg16 e15'.size (fun k hk => by rw [hsb] at hk; cases hk; exact Nat.le_refl _)
        (repeat (first | (apply WL.add; rfl; rfl; rfl; rfl; omega; omega) | (apply WL.pure; rfl; rfl; rfl) | (apply WL.nil) | (apply EX.thenN) | (apply CW.region) | (apply EX.inN)))
        exact EX.back (j + 1, fr.set x2.toNat true) (by repeat (first | exact trivial | refine ⟨rfl, ?_⟩)) ⟨hj', hmk x2.toNat (by omega) (by omega), ho, e16⟩ (by dsimp only; omega)
      · rw [decide_eq_false hgt]
        (repeat (first | (apply WL.add; rfl; rfl; rfl; rfl; omega; omega) | (apply WL.pure; rfl; rfl; rfl) | (apply WL.nil) | (apply EX.thenN) | (apply CW.region) | (apply EX.inN) | (apply CW.condF; rfl) | (apply CW.skip)))
        exact EX.back (j + 1, fr) (by repeat (first | exact trivial | refine ⟨rfl, ?_⟩)) ⟨hj', hsk hgt, ho, e15'⟩ (by dsimp only; omega)
    · obtain rfl : j = nl[n].length := by simp at h; omega
      (repeat (first | (apply WL.add; rfl; rfl; rfl; rfl; omega; omega) | (apply WL.pure; rfl; rfl; rfl) | (apply WL.nil) | (apply EX.thenN) | (apply CW.region) | (apply EX.inN) | (apply CW.exit) | (apply EX.thenX) | (apply EX.inX)))
      exact EX.back (n + 1, fr) (by repeat (first | exact trivial | refine ⟨rfl, ?_⟩)) ⟨hn', hI.next (by rw [hgn]; exact Nat.le_refl _), ho, e13⟩ (by dsimp only; omega)
  obtain rfl : n = nl.length := by simp at h; omega
  have hall := hI.all hsp rfl
  have hflen := hI.len
  clear hI hI0
  (repeat (first | (apply WL.pure; rfl; rfl; rfl) | (apply WL.nil) | (apply EX.thenN) | (apply CW.seq) | (apply CW.region) | (apply WL.lenS; rfl; rfl; rfl) | (apply WL.fa; rfl; rfl; rfl) | (apply WL.ld; rfl; rfl; rfl; assumption; rfl) | (apply CW.block) | (apply CW.exit) | (apply EX.thenX) | (apply EX.inX)))
  refine CW.loop (S := Nat) (fun i => [(2, .int .i64 st), (4, .pointer (some ⟨w1.heap.size, 0, none⟩)), (9, .pointer (some ⟨w7.heap.size, 0, none⟩)), (11, sv), (73, .slice mo1 ml.length mc1), (74, .int .i64 ml.length), (75, .int .i64 i)])
    (fun i w => i ≤ ml.length ∧ Ext w12 w) (fun i => ml.length - i) 0 (by repeat (first | exact trivial | refine ⟨rfl, ?_⟩)) ⟨Nat.zero_le _, Ext.refl _⟩ ?_
  rintro i w13 ⟨hi, e13⟩
  have e13' := e12.trans e13
  have hb9 := hb9.ext e13'
  have hb4 := hb4.ext e13'
  have ho := ho.extN e13
  (repeat (first | (apply WL.pure; rfl; rfl; rfl) | (apply WL.nil) | (apply EX.thenN) | (apply CW.seq) | (apply CW.region)))
  refine CW.cond rfl (fun h => ?_) (fun h => ?_)
  · have hi' : i < ml.length := by simp at h; omega
    have hmi := List.getElem_mem hi'
    have hm09 := hsr.ok _ hmi
    have hmle := hsr.le _ hmi
    have hnd := hsr.nd
    have hany : ml[i].any (fun x => decide (x < 0) || decide (x > tok)) = false := by
      rw [List.any_eq_false]
      intro x hx
      obtain ⟨k, hk, rfl⟩ := List.mem_iff_getElem.1 hx
      have h1 := (hm09.2 k).1
      rw [getDm_at hk] at h1
      have h2 := hmle _ hx
      simp; omega
    have hno : (ml.take i).any (fun k => k == ml[i]) = false := by
      rw [List.any_eq_false]
      intro k hk hb
      obtain ⟨t, ht, rfl⟩ := List.mem_iff_getElem.1 hk
      rw [List.getElem_take, beq_iff_eq] at hb
      rw [List.length_take] at ht
      exact (List.pairwise_iff_getElem.1 hnd) t i (by omega) hi' (by omega) hb
    (repeat (first | (apply WL.pure; rfl; rfl; rfl) | (apply EX.thenN) | (apply CW.seq) | (apply CW.region) | (apply CW.block) | (apply CW.skip)))
    refine WL.elemN (i := i) rfl rfl rfl rfl rfl (hm1.up e13') hi' (fun _ => rfl) (fun u q hu => ?_)
    obtain ⟨ua, uc, rfl, hus⟩ := hu.sl
    skip
    refine WL.alloc rfl rfl (fun w14 hb17 e14 => ?_)
    (repeat (apply WL.pure; rfl; rfl; rfl))
    refine WL.st rfl rfl rfl hb17 rfl rfl (ones_of rfl) (fun w15 hb17 hg15 => ?_)
    have e15 : Ext w13 w15 := e14.grown hg15 e14.size (fun g hg => by cases hg; exact Nat.le_refl _)
    have hb9 := hb9.ext e15
    have hb4 := hb4.ext e15
    have hus := hus.up e15
    have e15' := e13'.trans e15
    clear e14 hg15
    (repeat (first | (apply WL.nil) | (apply EX.thenN) | (apply CW.seq) | (apply CW.region) | (apply WL.makeFunc; rfl; rfl; rfl; rfl) | (apply WL.ld; rfl; rfl; rfl; assumption; rfl)))
    refine WL.call rfl rfl rfl (containsFunc_int w15 (fun x => decide (x < 0) || decide (x > tok)) hus (fun w hw k hk => FnV.mk (cs := [_]) (counts1_ok w _ tok _ (hb4.ext hw)))) ?_
    rintro _ w16 ⟨rfl, e16⟩
    rw [hany]
    have hb9 := hb9.ext e16
    have hb17 := hb17.ext e16
    have hus := hus.up e16
    have e16' := e15'.trans e16
    (repeat (first | (apply WL.pure; rfl; rfl; rfl) | (apply WL.fa; rfl; rfl; rfl) | (apply WL.ld; rfl; rfl; rfl; assumption; rfl)))
    refine WL.cutHi (α := List Int) i rfl rfl rfl rfl rfl (Nat.le_trans (Nat.le_of_lt hi') (hm1.le)) ?_
    (repeat (apply WL.makeFunc; rfl; rfl; rfl; rfl))
    have htk := (hm1.up e16').take (k := i) (by omega)
    have htl : (ml.take i).length = i := by rw [List.length_take]; omega
    have hcf := containsFunc_ll w16 (fun k => k == ml[i]) (fv := .func (.func 59) [].toArray [Value.pointer (some ⟨w13.heap.size, 0, none⟩)].toArray) htk (fun w hw k hk u hu => by
      obtain ⟨ka, kc, rfl, hks⟩ := hu.sl
      exact FnV.mk (cs := [_]) (counts2_ok w _ (hb17.ext hw) (hus.up hw) (hks.lift fun b hb => Nat.lt_of_lt_of_le hb hw.size)))
    rw [htl] at hcf
    refine WL.call rfl rfl rfl hcf ?_
    rintro _ w17 ⟨rfl, e17⟩
    rw [hno]
    (repeat (first | (apply WL.add; rfl; rfl; rfl; rfl; omega; omega) | (apply WL.pure; rfl; rfl; rfl) | (apply WL.nil) | (apply EX.thenN) | (apply CW.region) | (apply EX.inN) | (apply CW.condF; rfl) | (apply CW.skip)))
    exact EX.back (i + 1) (by repeat (first | exact trivial | refine ⟨rfl, ?_⟩)) ⟨hi', ((e13.trans e15).trans e16).trans e17⟩ (by omega)
  · have hle : decide ((ml.length : Int) ≤ st) = true := decide_eq_true hst
    have heq : ((nl.length : Int) == (ml.length : Int)) = true := by rw [hnl]; simp
    obtain ⟨vo, vc, hv, hvs⟩ := ho.slF (F' := Old w13) (fun _ h => h.elim) (fun g hg => (ho.lt g hg).2.1)
    rw [hv]
    (repeat (first | (apply WL.pure; rfl; rfl; rfl) | (apply EX.thenN) | (apply CW.seq) | (apply CW.region) | (apply WL.lenS; rfl; rfl; rfl) | (apply WL.fa; rfl; rfl; rfl) | (apply WL.ld; rfl; rfl; rfl; assumption; rfl) | (apply CW.exit) | (apply EX.thenX) | (apply EX.inX)))
    rw [hle]
    (repeat (first | (apply WL.pure; rfl; rfl; rfl) | (apply WL.lenS; rfl; rfl; rfl) | (apply WL.fa; rfl; rfl; rfl) | (apply WL.ld; rfl; rfl; rfl; assumption; rfl)))
    rw [heq]
    (repeat (apply WL.pure; rfl; rfl; rfl))
    refine WL.call rfl rfl rfl (contains_bool w13 false hvs) ?_
    rintro _ w14 ⟨rfl, e14⟩
    rw [hall]
    (repeat (first | (apply WL.pure; rfl; rfl; rfl) | (apply WL.nil) | (apply EX.thenN) | (apply CW.ret)))
    exact EX.ret1 rfl rfl ⟨rfl, (hE.trans e13').trans e14⟩
end Go.Proofs.Ythojdcbpglipeaa
/-
  From the form's readings of the arguments to our own, and back: what a law's proof needs at its two ends.
-/
set_option linter.unusedVariables false
set_option linter.unusedSimpArgs false
namespace Go.Proofs.Ythojdcbpglipeaa
open Go.RowKit Go.ChangeShapes Go.WideShapes Go.ChangeAt

theorem bulk_one {H : Type} (d : DataW H) : 1 ≤ Rows.uptoBulk d := by
  cases d with
  | lit l => cases l <;> simp [Rows.uptoBulk]
  | nil => simp [Rows.uptoBulk]
  | ptr d => simp [Rows.uptoBulk]
  | slice elems spare => simp [Rows.uptoBulk]
  | agg parts => simp [Rows.uptoBulk]
  | iface t d => simp [Rows.uptoBulk]
  | map entries => simp [Rows.uptoBulk]
  | held h => simp [Rows.uptoBulk]
theorem bulk_app {H : Type} (l r : List (DataW H)) : Rows.uptoBulkAll (l ++ r) = Rows.uptoBulkAll l + Rows.uptoBulkAll r := by
  induction l with
  | nil => simp [Rows.uptoBulkAll]
  | cons x l ih => simp only [List.cons_append, Rows.uptoBulkAll, ih]; omega

/-- the bound, as the form hands it over -/
theorem bound {H : Type} {l : List (DataW H)} (hk : Rows.uptoSmall H l = true) : Rows.uptoBulkAll l ≤ 1048576 := by
  simpa [Rows.uptoSmall] using hk
/-- how many values a value of ours holds -/
class Bk (α : Type) where
  bk : α → Nat
abbrev bk {α : Type} [Bk α] : α → Nat := Bk.bk
instance iOpen1 : Bk Int := ⟨fun _ => 1⟩
instance iOpen2 : Bk Bool := ⟨fun _ => 1⟩
instance iOpen3 : Bk Nat := ⟨fun _ => 1⟩
instance iOpen4 : Bk ByteArray := ⟨fun s => s.size + 1⟩
def bkL {α : Type} [Bk α] : List α → Nat
  | [] => 0
  | x :: r => bk x + bkL r
instance iOpen8 {α : Type} [Bk α] : Bk (List α) := ⟨fun l => bkL l + 1⟩

/-- what the form reads at a type, we read, too -/
class Opn (P : Program) (t : TypeId) (α : Type) [Rep α] [Bk α] : Prop where
  op : ∀ {H : Type} {enc : TypeId × Value → H} {w : World} {fuel : Nat} {cs : List Value} {d : DataW H} {ps : List MemPlace}, DataW.trod enc P w 0 (fun _ => true) true fuel t cs = some (d, ps) → ∃ x : α, rd w (Old w) cs x ∧ bk x ≤ Rows.uptoBulk d

theorem Opn.int {P : Program} {t : TypeId} (h : P.underlying t = some (.int .i64)) : Opn P t Int where
  op := by
    intro H enc w fuel cs d ps hd
    cases fuel with
    | zero => simp [DataW.trod] at hd
    | succ fuel =>
      unfold DataW.trod at hd
      rw [h] at hd
      split at hd <;> try (simp at *; done)
      rename_i k k' n e1
      simp at e1
      split at hd
      · rename_i hk
        simp at hd
        obtain ⟨rfl, rfl⟩ := hd
        exact ⟨n, by rw [hk.1, ← e1]; rfl, bulk_one _⟩
      · cases hd
theorem Opn.bool {P : Program} {t : TypeId} (h : P.underlying t = some .bool) : Opn P t Bool where
  op := by
    intro H enc w fuel cs d ps hd
    cases fuel with
    | zero => simp [DataW.trod] at hd
    | succ fuel =>
      unfold DataW.trod at hd
      rw [h] at hd
      split at hd <;> try (simp at *; done)
      rename_i b e1
      simp at hd
      obtain ⟨rfl, rfl⟩ := hd
      exact ⟨b, rfl, bulk_one _⟩
theorem Opn.u64 {P : Program} {t : TypeId} (h : P.underlying t = some (.int .u64)) : Opn P t Nat where
  op := by
    intro H enc w fuel cs d ps hd
    cases fuel with
    | zero => simp [DataW.trod] at hd
    | succ fuel =>
      unfold DataW.trod at hd
      rw [h] at hd
      split at hd <;> try (simp at *; done)
      rename_i k k' n e1
      simp at e1
      split at hd
      · rename_i hk
        simp at hd
        obtain ⟨rfl, rfl⟩ := hd
        have hwf := hk.2
        rw [← e1] at hwf
        have hb : 0 ≤ n ∧ n ≤ 18446744073709551615 := by simpa [Lit.wf, IntKind.min, IntKind.max, IntKind.signed, IntKind.bits] using hwf
        refine ⟨n.toNat, ⟨?_, by omega⟩, bulk_one _⟩
        rw [hk.1, ← e1, Int.toNat_of_nonneg hb.1]
      · cases hd
theorem Opn.string {P : Program} {t : TypeId} (h : P.underlying t = some .string) : Opn P t ByteArray where
  op := by
    intro H enc w fuel cs d ps hd
    cases fuel with
    | zero => simp [DataW.trod] at hd
    | succ fuel =>
      unfold DataW.trod at hd
      rw [h] at hd
      split at hd <;> try (simp at *; done)
      rename_i s e1
      split at hd
      · rename_i hk
        simp at hd
        obtain ⟨rfl, rfl⟩ := hd
        refine ⟨s, ⟨rfl, hk⟩, ?_⟩
        show s.size + 1 ≤ _
        simp only [Rows.uptoBulk]
        have e : s.data.toList.length = s.size := by rw [Array.length_toList]; rfl
        omega
      · cases hd

theorem mapM_range {β : Type} (f : Nat → Option β) : ∀ (n : Nat) (es : List β), (List.range n).mapM f = some es → es.length = n ∧ ∀ i (h : i < es.length), f i = some es[i]
  | 0, es, h => by
    simp at h; subst h
    exact ⟨rfl, fun i hi => absurd hi (by simp)⟩
  | n + 1, es, h => by
    rw [List.range_succ, List.mapM_append] at h
    simp only [List.mapM_cons, List.mapM_nil, Option.bind_eq_bind, Option.pure_def] at h
    cases h1 : (List.range n).mapM f with
    | none => rw [h1] at h; cases h
    | some l =>
      rw [h1] at h
      cases h2 : f n with
      | none => rw [h2] at h; cases h
      | some y =>
        rw [h2] at h
        simp at h
        subst h
        obtain ⟨hl, hi⟩ := mapM_range f n l h1
        refine ⟨by simp [hl], fun i hlt => ?_⟩
        by_cases hi' : i < l.length
        · rw [List.getElem_append_left hi']; exact hi i hi'
        · have : i = n := by simp at hlt; omega
          subst this
          rw [List.getElem_append_right (by omega)]
          simpa [hl] using h2
theorem mapM_cells {w : World} {a : Addr} {n : Nat} {cs : List Value} (h : w.cells? 0 a n = some cs) : cs.length = n ∧ ∀ j (hj : j < cs.length), w.cell? (a.add j) = some cs[j] := by
  unfold World.cells? at h
  rw [if_pos (Nat.zero_le _)] at h
  exact mapM_range _ n cs h

theorem slice_op {P : Program} {t e : TypeId} {α : Type} [Rep α] [Bk α] [hs : IsS P t e] [ht : IsT P e α] {H : Type} {enc : TypeId × Value → H} {w : World} {fuel : Nat}
    (ho : ∀ {cs : List Value} {d : DataW H} {ps : List MemPlace}, DataW.trod enc P w 0 (fun _ => true) true fuel e cs = some (d, ps) → ∃ x : α, rd w (Old w) cs x ∧ bk x ≤ Rows.uptoBulk d)
    {cs : List Value} {d : DataW H} {ps : List MemPlace} (hd : DataW.trod enc P w 0 (fun _ => true) true (fuel + 1) t cs = some (d, ps)) : ∃ x : List α, rd w (Old w) cs x ∧ bk x ≤ Rows.uptoBulk d := by
  unfold DataW.trod at hd
  rw [hs.ok] at hd
  obtain ⟨i0, hi1, hi2⟩ := IsT.info (P := P) (t := e) (α := α)
  have hsz : P.cellsOf e = sz α := by simp [Program.cellsOf, hi1, hi2]
  have hp : 0 < sz α := Rep.pos
  split at hd <;> try (simp at *; done)
  · simp at hd
    obtain ⟨rfl, rfl⟩ := hd
    exact ⟨[], ⟨none, 0, rfl, by simp, by simp [maxLen], fun _ => rfl, fun i hi => absurd hi (by simp)⟩, bulk_one _⟩
  · rename_i e' a len cap e1
    cases e1
    simp only at hd
    split at hd
    · rename_i hc
      obtain ⟨_, hle, hmx⟩ := hc
      rw [hsz] at hd
      cases hm : (List.range len).mapM (fun i => (w.cells? 0 (a.add (i * sz α)) (sz α)).bind (DataW.trod enc P w 0 (fun _ => true) true fuel e)) with
      | none => rw [hm] at hd; cases hd
      | some elems =>
        rw [hm] at hd
        simp only [Option.bind_some, if_true] at hd
        obtain ⟨rest, _, hd2⟩ := Option.map_eq_some_iff.1 hd
        simp only [Prod.mk.injEq] at hd2
        obtain ⟨rfl, _⟩ := hd2
        obtain ⟨hlen, hget⟩ := mapM_range _ len elems hm
        -- one element at a time
        have one : ∀ i (h : i < elems.length), ∃ x : α, (∃ b off, some a = some ⟨b, off, none⟩ ∧ Old w b ∧ ∃ es, Cells w b (off + i * sz α) es ∧ rd w (Old w) es x) ∧ bk x ≤ Rows.uptoBulk (elems[i]).1 := by
          intro i hi
          have h1 := hget i hi
          cases hcs : w.cells? 0 (a.add (i * sz α)) (sz α) with
          | none => rw [hcs] at h1; cases h1
          | some es =>
            rw [hcs] at h1
            simp only [Option.bind_some] at h1
            obtain ⟨x, hr, hb⟩ := ho (d := (elems[i]).1) (ps := (elems[i]).2) h1
            obtain ⟨hl, hc⟩ := mapM_cells hcs
            have h0 := hc 0 (by omega)
            have hspot : a.spot = none := by
              cases hsp : a.spot with
              | none => rfl
              | some k =>
                -- the first element's first cell lies at the address itself
                have h2 := hget 0 (by omega)
                cases hcs0 : w.cells? 0 (a.add (0 * sz α)) (sz α) with
                | none => rw [hcs0] at h2; cases h2
                | some es0 =>
                  obtain ⟨hl0, hc0⟩ := mapM_cells hcs0
                  have h3 := hc0 0 (by omega)
                  have e3 : (a.add (0 * sz α)).add 0 = a := by simp [Addr.add]
                  rw [e3] at h3
                  unfold World.cell? at h3
                  split at h3
                  · simp [hsp] at h3
                  · cases h3
            obtain ⟨b, off, sp⟩ := a
            simp only at hspot
            subst hspot
            rw [WideShapes.add_plain] at hc h0
            have hblt : b < w.heap.size := World.block_lt_of_cell? w _ h0
            refine ⟨x, ⟨b, off, rfl, hblt, es, ?_, hr⟩, hb⟩
            intro j u hu
            obtain ⟨hj, rfl⟩ := List.getElem?_eq_some_iff.1 hu
            have := hc j hj
            rwa [WideShapes.add_plain] at this
        have all : ∀ k, k ≤ elems.length → ∃ xs : List α, xs.length = k ∧ (∀ i (h : i < xs.length), ∃ b off, some a = some ⟨b, off, none⟩ ∧ Old w b ∧ ∃ es, Cells w b (off + i * sz α) es ∧ rd w (Old w) es xs[i]) ∧ bkL xs ≤ Rows.uptoBulkAll ((elems.map (·.1)).take k) := by
          intro k
          induction k with
          | zero => intro _; exact ⟨[], rfl, fun i hi => absurd hi (by simp), by simp [bkL, Rows.uptoBulkAll]⟩
          | succ k ih =>
            intro hk
            obtain ⟨xs, h1, h2, h3⟩ := ih (by omega)
            obtain ⟨x, h4, h5⟩ := one k (by omega)
            refine ⟨xs ++ [x], by simp [h1], ?_, ?_⟩
            · intro i hi
              by_cases hlt : i < xs.length
              · rw [List.getElem_append_left hlt]; exact h2 i hlt
              · have : i = k := by simp at hi; omega
                subst this
                rw [List.getElem_append_right (by omega)]
                simpa [h1] using h4
            · have hb : ∀ (l : List α), bkL (l ++ [x]) = bkL l + bk x := by
                intro l; induction l with
                | nil => simp [bkL]
                | cons y l ih => simp only [List.cons_append, bkL, ih]; omega
              rw [hb, List.take_succ_eq_append_getElem (by simp; omega), bulk_app]
              simp only [List.getElem_map, Rows.uptoBulkAll]
              omega
        obtain ⟨xs, h1, h2, h3⟩ := all elems.length (Nat.le_refl _)
        have hx : xs.length = len := by omega
        refine ⟨xs, ⟨some a, cap, by rw [hx], ⟨by omega, hmx, (fun h => by cases h), h2⟩⟩, ?_⟩
        show bkL xs + 1 ≤ _
        rw [List.take_of_length_le (by simp)] at h3
        simp only [Rows.uptoBulk]
        omega
    · cases hd

theorem Opn.slice {P : Program} {t e : TypeId} {α : Type} [Rep α] [Bk α] [hs : IsS P t e] [ht : IsT P e α] [ho : Opn P e α] : Opn P t (List α) where
  op := by
    intro H enc w fuel cs d ps hd
    cases fuel with
    | zero => simp [DataW.trod] at hd
    | succ fuel => exact slice_op (e := e) (fun h => ho.op h) hd

theorem okWide_form {P : Program} {w : World} {r : Reach} {base : Nat} {t : TypeId} {v : Value} {d : TypeDesc} (hu : P.underlying t = some d) (h : Value.okWide P w r base t v) :
    (aggD d = false → v.oneCell' = true) ∧ (aggD d = true → ∃ cs, v = .agg cs) := by
  unfold Value.okWide at h
  rw [hu] at h
  constructor
  · intro hd
    cases v <;> first
      | rfl
      | (exfalso; cases d <;> simp [aggD] at hd <;> simp [Cell.okWide, Cell.ok, hu] at h)
  · intro hd
    cases d <;> simp [aggD] at hd <;> (obtain ⟨cs, rfl, _⟩ := h; exact ⟨cs, rfl⟩)
/-- an argument, opened -/
theorem Opn.arg {P : Program} {t : TypeId} {α : Type} [Rep α] [Bk α] [ht : IsT P t α] [ho : Opn P t α] {H : Type} {enc : TypeId × Value → H} {w : World} {v : Value} {d : DataW H} {ps : List MemPlace} {r : Reach} {base : Nat}
    (hv : Value.okWide P w r base t v) (h : DataW.Trod enc P w 0 (fun _ => true) true t v d ps) : ∃ x : α, Rd w (Old w) v x ∧ bk x ≤ Rows.uptoBulk d := by
  obtain ⟨i, dd, _, _, h3, h4⟩ := ht.ok
  obtain ⟨f1, f2⟩ := okWide_form h3 hv
  obtain ⟨fuel, hf⟩ := h
  obtain ⟨x, hr, hb⟩ := ho.op hf
  refine ⟨x, ⟨v.cells.toList, ?_, hr⟩, hb⟩
  unfold vOf
  split
  · rename_i he
    obtain ⟨cs, rfl⟩ := f2 (h4.trans he)
    simp [Value.cells]
  · rename_i he
    have := f1 (h4.trans he)
    cases v <;> first | rfl | (simp [Value.oneCell'] at this)

theorem trodAll_below {H : Type} {enc : TypeId × Value → H} {P : Program} (hl : laidOutB P = true) {W W' : World} (hb : Ext W W') : ∀ {ts : List TypeId} {vs : List Value} {ds : List (DataW H)} {ps : List MemPlace},
    (∀ t ∈ ts, P.readableRec t = true ∧ t < P.types.size) → DataW.TrodAll enc P W 0 (fun _ => true) true ts vs ds ps → (∀ x ∈ ps, x.block < W.heap.size) →
    DataW.TrodAll enc P W' 0 (fun b => decide (b < W.heap.size)) true ts vs ds ps
  | [], [], [], _, _, h, _ => h
  | t :: ts, v :: vs, d :: ds, ps, hr, h, hlt => by
    obtain ⟨p, q, h1, h2, rfl⟩ := h
    exact ⟨p, q, Below.trod hl (hr t (by simp)).1 (hr t (by simp)).2 h1 hb (fun x hx => hlt x (by simp [hx])),
      trodAll_below hl hb (fun t ht => hr t (by simp [ht])) h2 (fun x hx => hlt x (by simp [hx])), rfl⟩
  | [], [], _ :: _, _, _, h, _ => h.elim
  | [], _ :: _, [], _, _, h, _ => h.elim
  | [], _ :: _, _ :: _, _, _, h, _ => h.elim
  | _ :: _, [], [], _, _, h, _ => h.elim
  | _ :: _, [], _ :: _, _, _, h, _ => h.elim
  | _ :: _, _ :: _, [], _, _, h, _ => h.elim

/-- the law's end: it returned true, and only new memory was made -/
theorem law_post {H : Type} {enc : TypeId × Value → H} {P : Program} {fn : Func} {s : ChangeSpec} {W W' : World} {args : Array Value} {ds gs : List (DataW H)} {before : List MemPlace} {tb : TypeId}
    (hl : laidOutB P = true) (hW : DataW.Whole enc P fn.params.toList s.vars false W args.toList ds gs before) (hv : s.vars = []) (hr : ∀ t ∈ fn.params.toList, P.readableRec t = true ∧ t < P.types.size)
    (hsp : (s.fn H (ds ++ gs)).results = [.lit (.bool true)] ∧ (s.fn H (ds ++ gs)).args = ds ∧ (s.fn H (ds ++ gs)).vars = []) (hres : fn.resultTypes = #[tb]) (hb : P.underlying tb = some .bool) (hE : Ext W W') :
    s.post enc P fn false true false false W args (.bool true) W' := by
  have hlt := hW.lt
  have hW' := hW
  obtain ⟨p, q, hA, hV, rfl, _, _⟩ := hW
  rw [hv] at hV
  obtain ⟨e1, e2, e3⟩ := hsp
  refine ⟨ds, gs, p ++ q, [], p, [], hW', ?_, ?_, ?_, hE.frame _, fun h => by cases h⟩
  · rw [e1, hres]
    exact trodAll_mk1 (shut_bool hb true)
  · rw [e2]
    exact trodAll_below hl hE hr hA (fun x hx => hlt x (by simp [hx]))
  · rw [e3, hv]
    exact rfl
/- structs -/
instance iOpen9 {α β : Type} [Bk α] [Bk β] : Bk (α × β) := ⟨fun x => bk x.1 + bk x.2⟩
/-- a list of fields, from an offset on -/
class OpnFs (P : Program) (fs : List (TypeId × Nat)) (off : Nat) (α : Type) [Rep α] [Bk α] : Prop where
  op : ∀ {H : Type} {enc : TypeId × Value → H} {w : World} {fuel : Nat} {cs : List Value} {xs : List (DataW H × List MemPlace)}, off + sz α = cs.length →
    (fs.mapM fun f => DataW.trod enc P w 0 (fun _ => true) true fuel f.1 ((cs.drop f.2).take (P.cellsOf f.1))) = some xs → ∃ x : α, rd w (Old w) (cs.drop off) x ∧ bk x ≤ Rows.uptoBulkAll (xs.map (·.1))
theorem cellsOf_T {P : Program} {t : TypeId} {α : Type} [Rep α] [ht : IsT P t α] : P.cellsOf t = sz α := by
  obtain ⟨i, h1, h2⟩ := IsT.info (P := P) (t := t) (α := α)
  simp [Program.cellsOf, h1, h2]
instance OpnFs.one {P : Program} {t : TypeId} {off : Nat} {α : Type} [Rep α] [Bk α] [ht : IsT P t α] [ho : Opn P t α] : OpnFs P [(t, off)] off α where
  op := by
    intro H enc w fuel cs xs hl h
    simp only [List.mapM_cons, List.mapM_nil, Option.bind_eq_bind, Option.pure_def] at h
    cases h1 : DataW.trod enc P w 0 (fun _ => true) true fuel t ((cs.drop off).take (P.cellsOf t)) with
    | none => rw [h1] at h; cases h
    | some d =>
      rw [h1] at h; simp at h; subst h
      obtain ⟨d, ps⟩ := d
      obtain ⟨x, hr, hb⟩ := ho.op h1
      rw [cellsOf_T (α := α), List.take_of_length_le (by rw [List.length_drop]; omega)] at hr
      exact ⟨x, hr, by simpa [Rows.uptoBulkAll] using hb⟩
instance OpnFs.cons {P : Program} {t : TypeId} {off : Nat} {f : TypeId × Nat} {fs : List (TypeId × Nat)} {α β : Type} [Rep α] [Bk α] [Rep β] [Bk β] [ht : IsT P t α] [ho : Opn P t α] [hr : OpnFs P (f :: fs) (off + sz α) β] : OpnFs P ((t, off) :: f :: fs) off (α × β) where
  op := by
    intro H enc w fuel cs xs hl h
    rw [List.mapM_cons] at h
    simp only [Option.bind_eq_bind, Option.pure_def] at h
    have hl' : off + sz α + sz β = cs.length := by
      have : sz (α × β) = sz α + sz β := rfl
      omega
    cases h1 : DataW.trod enc P w 0 (fun _ => true) true fuel t ((cs.drop off).take (P.cellsOf t)) with
    | none => rw [h1] at h; cases h
    | some d =>
      rw [h1] at h
      simp only [Option.bind_some] at h
      obtain ⟨ys, h2, h3⟩ := Option.bind_eq_some_iff.1 h
      cases h3
      obtain ⟨d, ps⟩ := d
      obtain ⟨x, hx, hb⟩ := ho.op h1
      obtain ⟨y, hy, hc⟩ := hr.op hl' h2
      rw [cellsOf_T (α := α)] at hx
      refine ⟨(x, y), ⟨(cs.drop off).take (sz α), cs.drop (off + sz α), ?_, hx, hy⟩, ?_⟩
      · rw [← List.drop_drop, List.take_append_drop]
      · show bk x + bk y ≤ _
        simp only [List.map_cons, Rows.uptoBulkAll]
        omega
def stFact (P : Program) (t : TypeId) : Option (List (TypeId × Nat)) := match P.underlying t with
  | some (.struct fs) => some (fs.toList.map fun f => (f.type, f.offset))
  | _ => none
theorem Opn.struct {P : Program} {t : TypeId} {fs : List (TypeId × Nat)} {α : Type} [Rep α] [Bk α] [ht : IsT P t α] [hf : OpnFs P fs 0 α] (h : stFact P t = some fs) : Opn P t α where
  op := by
    intro H enc w fuel cs d ps hd
    unfold stFact at h
    split at h
    · rename_i gs hu
      cases h
      cases fuel with
      | zero => simp [DataW.trod] at hd
      | succ fuel =>
        unfold DataW.trod at hd
        rw [hu] at hd
        simp only at hd
        split at hd
        · rename_i hl
          obtain ⟨xs, h1, h2⟩ := Option.map_eq_some_iff.1 hd
          cases h2
          have := hf.op (enc := enc) (w := w) (fuel := fuel) (cs := cs) (xs := xs) (by rw [hl, cellsOf_T (α := α)]; omega) (by rw [List.mapM_map]; exact h1)
          obtain ⟨x, hr, hb⟩ := this
          exact ⟨x, by simpa using hr, by simp only [Rows.uptoBulk]; omega⟩
        · cases hd
    · cases h
instance iOpen5 : Opn Try.prog 3 Int := Opn.int Try.underlying3
instance iOpen6 : Opn Try.prog 22 (List Int) := Opn.slice
instance iOpen7 : Opn Try.prog 23 (List (List Int)) := Opn.slice
end Go.Proofs.Ythojdcbpglipeaa
/-
  The types of the arguments, as the form reads them.
-/
set_option linter.unusedVariables false
namespace Go.Proofs.Ythojdcbpglipeaa
open Go.RowKit

instance iOpn1 : Opn Try.prog 4 Bool := Opn.bool Try.underlying4
instance iOpn2 : Opn Try.prog 33 Nat := Opn.u64 Try.underlying33
instance iOpn3 : Opn Try.prog 9 ByteArray := Opn.string Try.underlying9
instance iOpn4 : Opn Try.prog 27 Int := Opn.int Try.underlying27
instance iOpn5 : Opn Try.prog 92 (List Bool) := Opn.slice
instance iOpn6 : Opn Try.prog 24 (List Nat) := Opn.slice
instance iOpn8 : Opn Try.prog 214 (List Bool) := Opn.slice
instance iOpn9 : Opn Try.prog 243 (List (List Bool)) := Opn.slice
instance iOpn10 : Opn Try.prog 82 (ByteArray × Int) := Opn.struct (fs := [(9, 0), (3, 1)]) (by kernel_rfl)
instance iOpn11 : Opn Try.prog 169 (Int × Int) := Opn.struct (fs := [(3, 0), (3, 1)]) (by kernel_rfl)
instance iOpn12 : Opn Try.prog 84 (Int × Int × Int) := Opn.struct (fs := [(3, 0), (3, 1), (3, 2)]) (by kernel_rfl)
instance iOpn13 : Opn Try.prog 115 (Int × Int) := Opn.struct (fs := [(3, 0), (3, 1)]) (by kernel_rfl)
instance iOpn14 : Opn Try.prog 68 (List (ByteArray × Int)) := Opn.slice
instance iOpn15 : Opn Try.prog 69 (List (Int × Int)) := Opn.slice
instance iOpn16 : Opn Try.prog 78 (List (Int × Int × Int)) := Opn.slice
instance iOpn17 : Opn Try.prog 112 (List (Int × Int)) := Opn.slice
instance iOpn18 : Opn Try.prog 44 (List Nat × List Nat) := Opn.struct (fs := [(24, 0), (24, 1)]) (by kernel_rfl)
instance iOpn19 : Opn Try.prog 301 (List Int × List Int) := Opn.struct (fs := [(22, 0), (22, 1)]) (by kernel_rfl)
instance iOpn20 : Opn Try.prog 52 (Int × Int × Int × Int × Int × Int × Int) := Opn.struct (fs := [(3, 0), (3, 1), (3, 2), (3, 3), (3, 4), (3, 5), (3, 6)]) (by kernel_rfl)
instance iOpn21 : Opn Try.prog 42 (Int × Int × Int × Int) := Opn.struct (fs := [(3, 0), (3, 1), (3, 2), (3, 3)]) (by kernel_rfl)
instance iOpn22 : Opn Try.prog 88 (List Int × List (List Int) × List Nat × List (List Int)) := Opn.struct (fs := [(22, 0), (23, 1), (24, 2), (23, 3)]) (by kernel_rfl)
instance iOpn23 : Opn Try.prog 26 (List Int × List (List Int) × List Nat × List Nat × List (List Int)) := Opn.struct (fs := [(22, 0), (23, 1), (24, 2), (24, 3), (23, 4)]) (by kernel_rfl)
instance iOpn24 : Opn Try.prog 71 (List (ByteArray × Int) × List (Int × Int)) := Opn.struct (fs := [(68, 0), (69, 1)]) (by kernel_rfl)
instance iOpn26 : Opn Try.prog 154 (Int × Int) := Opn.struct (fs := [(3, 0), (3, 1)]) (by kernel_rfl)
instance iOpn27 : Opn Try.prog 145 (Bool × Bool) := Opn.struct (fs := [(4, 0), (4, 1)]) (by kernel_rfl)
end Go.Proofs.Ythojdcbpglipeaa
