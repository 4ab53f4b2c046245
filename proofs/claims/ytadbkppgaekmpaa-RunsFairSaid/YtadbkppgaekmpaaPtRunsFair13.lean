import Derived.Test.YtadbkppgaekmpaaPtRunsFair12
/-
  Package runs: all, next, label, fair: walked.
-/
set_option linter.unusedVariables false
set_option linter.unusedSimpArgs false
namespace Go.Proofs.Ytadbkppgaekmpaa
open Go.RowKit

theorem Cells.hd' {w : World} {b o : Nat} {x : Value} {r : List Value} (h : Cells w b o (x :: r)) : Cells w b o [x] := fun j u hu => by
  match j, hu with
  | 0, hu => exact h 0 u (by simpa using hu)
theorem Sl.edge0 {w : World} {F : Nat → Prop} {ao : Option Addr} {cap : Nat} {xs : List LEdge} (h : Sl w F ao cap xs) {i : Nat} (hi : i < xs.length) : ∃ b off, ao = some ⟨b, off, none⟩ ∧ F b ∧ Cells w b (off + i * 2) [.int .i64 xs[i].1] ∧ Cells w b (off + i * 2 + 1) [.int .i64 xs[i].2] := by
  obtain ⟨b, off, e, hb, es, hc, hr⟩ := h.el i hi
  obtain ⟨c1, c2, rfl, h1, h2⟩ := rd_pr hr
  rw [rd_int h1, rd_int h2] at hc
  exact ⟨b, off, e, hb, hc.hd', hc.tl'⟩
theorem Sl.step0 {w : World} {F : Nat → Prop} {ao : Option Addr} {cap : Nat} {xs : List LStep} (h : Sl w F ao cap xs) {i : Nat} (hi : i < xs.length) : ∃ b off, ao = some ⟨b, off, none⟩ ∧ F b ∧ Cells w b (off + i * 3) [.int .i64 xs[i].1] := by
  obtain ⟨b, off, e, hb, es, hc, hr⟩ := h.el i hi
  obtain ⟨c1, c2, rfl, h1, h2⟩ := rd_pr hr
  rw [rd_int h1] at hc
  exact ⟨b, off, e, hb, hc.hd'⟩
theorem rd_edgeR {w : World} {F : Nat → Prop} {v : Value} {x : LEdge} (h : Rd w F v x) : v = .agg [.int .i64 x.1, .int .i64 x.2].toArray := by
  obtain ⟨c1, c2, rfl, h1, h2⟩ := h.pr
  rw [rd_int h1, rd_int h2]; rfl
theorem getEd {l : List LEdge} {j : Nat} (h : j < l.length) : l.getD j (0, 0) = l[j] := by rw [List.getD_eq_getElem?_getD, List.getElem?_eq_getElem h]; rfl
theorem getRow {l : List (List LEdge)} {j : Nat} (h : j < l.length) : l.getD j [] = l[j] := by rw [List.getD_eq_getElem?_getD, List.getElem?_eq_getElem h]; rfl
theorem getSt {l : List LStep} {j : Nat} (h : j < l.length) : l.getD j (0, 0, 0) = l[j] := by rw [List.getD_eq_getElem?_getD, List.getElem?_eq_getElem h]; rfl
theorem shl1U {s : Nat} (hs : s < 62) : IntKind.u64.wrap (1 * 2 ^ min ((s : Int)).toNat IntKind.u64.bits) = ((2 ^ s : Nat) : Int) := by
  have h1 : min ((s : Int)).toNat IntKind.u64.bits = s := by
    rw [Int.toNat_natCast]
    exact Nat.min_eq_left (by show s ≤ 64; omega)
  rw [h1, Int.one_mul]
  have h2 : (2 : Nat) ^ s < 2 ^ 62 := Nat.pow_lt_pow_right (by decide) hs
  have h3 : ((2 : Int)) ^ s = ((2 ^ s : Nat) : Int) := by push_cast; rfl
  rw [h3]
  generalize (2 : Nat) ^ s = q at *
  simp [IntKind.wrap, IntKind.bits, IntKind.signed] <;> omega
/-- the maker of a world, all states made -/
def RunAt (w : World) (sb : Nat) (sl : List LStep) (nx : List (List LEdge)) : Prop :=
  ∃ (lo : Option Addr) (lc : Nat) (mv : Value) (no : Option Addr) (nc : Nat) (oo : Option Addr) (oc : Nat) (ao : Option Addr) (ac : Nat) (yo : Option Addr) (yc : Nat) (x1 x2 x3 x4 : Value),
    Blk w sb 170 [.slice lo sl.length lc, mv, .slice no nx.length nc, .slice oo (atV nx nx.length) oc, .slice ao nx.length ac, .slice yo nx.length yc, x1, x2, x3, x4] ∧
    Sl w (Old w) lo lc sl ∧ Sl w (Old w) no nc nx ∧ Sl w (Old w) oo oc (ofP nx nx.length) ∧ Sl w (Old w) ao ac (atL nx nx.length) ∧ Sl w (Old w) yo yc (manyL nx nx.length)
theorem RunAt.up {w w' : World} {sb : Nat} {sl : List LStep} {nx : List (List LEdge)} (h : RunAt w sb sl nx) (hE : Ext w w') : RunAt w' sb sl nx := by
  obtain ⟨lo, lc, mv, no, nc, oo, oc, ao, ac, yo, yc, x1, x2, x3, x4, hb, h1, h2, h3, h4, h5⟩ := h
  exact ⟨lo, lc, mv, no, nc, oo, oc, ao, ac, yo, yc, x1, x2, x3, x4, hb.ext hE, h1.up hE, h2.up hE, h3.up hE, h4.up hE, h5.up hE⟩
theorem atL_len {nx : List (List LEdge)} {k : Nat} : (atL nx k).length = k := by simp [atL]
theorem manyL_len {nx : List (List LEdge)} {k : Nat} : (manyL nx k).length = k := by simp [manyL]
theorem atL_get {nx : List (List LEdge)} {k m : Nat} (h : m < (atL nx k).length) : (atL nx k)[m] = ((atV nx m : Nat) : Int) := by simp [atL]
theorem manyL_get {nx : List (List LEdge)} {k m : Nat} (h : m < (manyL nx k).length) : (manyL nx k)[m] = ((mny nx m : Nat) : Int) := by simp [manyL]
theorem atV_le {nx : List (List LEdge)} (h : ∀ j, (nx.getD j []).length ≤ 60) : ∀ n, atV nx n ≤ 60 * n
  | 0 => by rw [atV_zero]; omega
  | n + 1 => by
    rw [atV_next]
    have := atV_le h n
    have := h n
    unfold mny; omega
theorem ofX_ok {sl : List LStep} {nx : List (List LEdge)} (hN : NxOk sl nx) {j : Nat} (hj : j < atV nx nx.length) :
    ∃ n i, n < nx.length ∧ i < mny nx n ∧ j = atV nx n + i ∧ (ofX nx j).2 = (n : Int) ∧ ((ofX nx j).1 = -1 ∧ nx.getD n [] = [] ∨ 0 ≤ (ofX nx j).1 ∧ (ofX nx j).1 < sl.length ∧ i < (nx.getD n []).length ∧ ofX nx j = (((nx.getD n []).getD i (0, 0)).1, (n : Int))) := by
  obtain ⟨n, i, hn, hi, rfl⟩ := of_inv hj
  refine ⟨n, i, hn, hi, rfl, ?_⟩
  rw [ofX_at hn hi]
  by_cases h : nx.getD n [] = []
  · rw [if_pos h]; exact ⟨rfl, .inl ⟨rfl, h⟩⟩
  · rw [if_neg h]
    have h0 : 0 < (nx.getD n []).length := List.length_pos_iff.2 h
    have hi' : i < (nx.getD n []).length := by unfold mny at hi; omega
    have := hN.ed n hn _ (List.getElem_mem hi')
    rw [← getEd hi'] at this
    exact ⟨rfl, .inr ⟨this.1, this.2.1, hi', rfl⟩⟩
theorem all_ok (w0 : World) {sb m : Nat} {sl : List LStep} {nx : List (List LEdge)} (hR : RunAt w0 sb sl nx) (hN : NxOk sl nx) (hm : m < nx.length) :
    Rt Try.prog 97 [.pointer (some ⟨sb, 0, none⟩), .int .i64 (m : Int)].toArray w0 fun v w' => Own w' w0.heap.size 3 Non v (allL nx m) ∧ Ext w0 w' := by
  obtain ⟨lo, lc, mv, no, nc, oo, oc, ao, ac, yo, yc, x1, x2, x3, x4, hb, h1, h2, h3, h4, h5⟩ := hR
  have hat := atV_le hN.row m
  have hmn : mny nx m ≤ 60 := by have := hN.row m; unfold mny; omega
  have hn200 := hN.n
  have hlA : nx.length = (atL nx nx.length).length := atL_len.symm
  have hlY : nx.length = (manyL nx nx.length).length := manyL_len.symm
  refine Rt.enter2 Try.func97 Try.ntmps97 rfl rfl ?_
  (repeat (first | (apply WL.pure; rfl; rfl; rfl) | (apply WL.nil) | (apply EX.thenN) | (apply CW.seq) | (apply CW.region) | (apply WL.fa; rfl; rfl; rfl) | (apply WL.nck; rfl; rfl; rfl) | (apply WL.ld; rfl; rfl; rfl; assumption; rfl)))
  rw [show Value.slice yo nx.length yc = .slice yo (manyL nx nx.length).length yc by rw [← hlY]]
  refine WL.elemI (i := m) rfl rfl rfl rfl rfl h5 (by omega) (manyL_get _) (fun _ => rfl) (fun q => ?_)
  (repeat (first | (apply WL.pure; rfl; rfl; rfl) | (apply WL.nil) | (apply EX.thenN) | (apply CW.block)))
  refine CW.loop (S := Nat × Value) (fun s => [(0, .pointer (some ⟨sb, 0, none⟩)), (1, .int .i64 m), (5, s.2), (13, .int .i64 ((mny nx m : Nat) : Int)), (14, .int .i64 s.1)])
    (fun s w => s.1 ≤ mny nx m ∧ Own w w0.heap.size 3 Non s.2 ((List.range s.1).map fun i : Nat => ((atV nx m + i : Nat) : Int)) ∧ Ext w0 w) (fun s => mny nx m - s.1) (0, .slice none 0 0) (by repeat (first | exact trivial | refine ⟨rfl, ?_⟩)) ⟨Nat.zero_le _, Own.nil, Ext.refl _⟩ ?_
  rintro ⟨i, ov⟩ w1 ⟨hi, ho, e1⟩
  dsimp only at hi ho e1 ⊢
  have hb := hb.ext e1
  (repeat (first | (apply WL.pure; rfl; rfl; rfl) | (apply WL.nil) | (apply EX.thenN) | (apply CW.seq) | (apply CW.region)))
  refine CW.cond rfl (fun h => ?_) (fun h => ?_)
  · have hi' : i < mny nx m := by simp only [decide_eq_true_eq] at h; omega
    clear h
    (repeat (first | (apply WL.pure; rfl; rfl; rfl) | (apply WL.nil) | (apply EX.thenN) | (apply CW.seq) | (apply CW.region) | (apply WL.fa; rfl; rfl; rfl) | (apply WL.nck; rfl; rfl; rfl) | (apply WL.ld; rfl; rfl; rfl; assumption; rfl) | (apply CW.block) | (apply CW.skip)))
    rw [show Value.slice ao nx.length ac = .slice ao (atL nx nx.length).length ac by rw [← hlA]]
    refine WL.elemI (i := m) rfl rfl rfl rfl rfl (h4.up e1) (by omega) (atL_get _) (fun _ => rfl) (fun q => ?_)
    (repeat (first | (apply WL.add; rfl; rfl; rfl; rfl; omega; omega) | (apply WL.pure; rfl; rfl; rfl)))
    refine WL.app1 (α := Int) (F := Non) (bytes := 8) (yv := ((atV nx m : Nat) : Int) + (i : Int)) rfl rfl (fun _ => rfl) rfl rfl (fun _ => rfl) ho (Rd.mkInt _ _ _) e1.size (fun _ h => h.elim) (by decide) (by unfold maxLen; simp; omega) (by simp; omega) (fun ov' w2 q ho2 hg2 hnb2 => ?_)
    have hnx : (List.range (i + 1)).map (fun i : Nat => ((atV nx m + i : Nat) : Int)) = (List.range i).map (fun i : Nat => ((atV nx m + i : Nat) : Int)) ++ [((atV nx m : Nat) : Int) + (i : Int)] := by
      rw [List.range_succ, List.map_append]; simp
    rw [← hnx] at ho2
    (repeat (first | (apply WL.add; rfl; rfl; rfl; rfl; omega; omega) | (apply WL.pure; rfl; rfl; rfl) | (apply WL.nil) | (apply EX.thenN) | (apply CW.region) | (apply EX.inN)))
    exact EX.back (i + 1, ov') (by repeat (first | exact trivial | refine ⟨rfl, ?_⟩)) ⟨hi', ho2, Below.grown e1 hg2 e1.size (fun g hg => (ho.lt g hg).1)⟩ (by dsimp only; omega)
  have hie : i = mny nx m := by simp only [decide_eq_false_iff_not] at h; omega
  subst hie
  (repeat (first | (apply WL.pure; rfl; rfl; rfl) | (apply WL.nil) | (apply EX.thenN) | (apply CW.seq) | (apply CW.region) | (apply CW.exit) | (apply EX.thenX) | (apply EX.inX) | (apply CW.ret)))
  exact EX.ret1 rfl rfl ⟨ho, e1⟩
theorem rnext_ok (w0 : World) {sb j : Nat} {sl : List LStep} {nx : List (List LEdge)} (hR : RunAt w0 sb sl nx) (hN : NxOk sl nx) (hj : j < atV nx nx.length) :
    Rt Try.prog 95 [.pointer (some ⟨sb, 0, none⟩), .int .i64 (j : Int)].toArray w0 fun v w' => Own w' w0.heap.size 3 Non v (nextJ nx j) ∧ Ext w0 w' := by
  have hR0 := hR
  obtain ⟨lo, lc, mv, no, nc, oo, oc, ao, ac, yo, yc, x1, x2, x3, x4, hb, h1, h2, h3, h4, h5⟩ := hR
  obtain ⟨n, i, hn, hi, hji, hx2, hx⟩ := ofX_ok hN hj
  have hat := atV_le hN.row n
  have hn200 := hN.n
  have hlA : nx.length = (atL nx nx.length).length := atL_len.symm
  have hol : atV nx nx.length = (ofP nx nx.length).length := rfl
  have hgx : (ofP nx nx.length)[j]'hj = ofX nx j := (getEd hj).symm
  unfold nextJ
  refine Rt.enter2 Try.func95 Try.ntmps95 rfl rfl ?_
  (repeat (first | (apply WL.pure; rfl; rfl; rfl) | (apply WL.nil) | (apply EX.thenN) | (apply CW.seq) | (apply CW.region) | (apply WL.fa; rfl; rfl; rfl) | (apply WL.nck; rfl; rfl; rfl) | (apply WL.ld; rfl; rfl; rfl; assumption; rfl)))
  rw [hol]
  refine WL.elemN (i := j) rfl rfl rfl rfl rfl h3 hj (fun _ => rfl) (fun u q hu => ?_)
  rw [hgx] at hu
  rw [rd_edgeR hu]
  clear hu
  skip
  refine WL.alloc rfl rfl (fun w1 hb5 e1 => ?_)
  skip
  refine WL.st rfl rfl rfl hb5 rfl rfl (ones_of rfl) (fun w2 hb5 hg2 => ?_)
  have e2 : Ext w0 w2 := Below.grown e1 hg2 e1.size (fun g hg => by cases hg; exact Nat.le_refl _)
  have hb := hb.ext e2
  have hR := hR0.up e2
  clear e1 hg2
  (repeat (first | (apply WL.pure; rfl; rfl; rfl) | (apply WL.nil) | (apply EX.thenN) | (apply CW.seq) | (apply CW.region) | (apply WL.fa; rfl; rfl; rfl) | (apply WL.ld; rfl; rfl; rfl; assumption; rfl)))
  by_cases hneg : (ofX nx j).1 < 0
  · rw [decide_eq_true hneg, if_pos hneg]
    (repeat (first | (apply WL.pure; rfl; rfl; rfl) | (apply CW.seq) | (apply CW.region) | (apply CW.condT; rfl)))
    refine WL.lit (F := Non) (ys := [(j : Int)]) rfl rfl rfl rfl rfl (.cons (Rd.mkInt _ _ _) .nil) (by show 1 * 1 ≤ 16777216; decide) (fun _ h => h.elim) (fun w3 ho hgr => ?_)
    have e3 : Ext w2 w3 := (Below.refl _ _).grown hgr (Nat.le_refl _) (fun k h => by cases h)
    (repeat (first | (apply WL.pure; rfl; rfl; rfl) | (apply WL.nil) | (apply EX.thenN) | (apply CW.ret) | (apply EX.thenR)))
    exact EX.ret1 rfl rfl ⟨ho.low e2.size, e2.trans e3⟩
  rw [decide_eq_false hneg, if_neg hneg]
  rcases hx with ⟨hx, _⟩ | ⟨_, _, hir, hxe⟩
  · omega
  have hed := hN.ed n hn _ (List.getElem_mem hir)
  rw [← getEd hir] at hed
  have hto : toE nx j = (nx.getD n []).getD i (0, 0) := by
    unfold toE
    rw [hx2, Int.toNat_natCast, show j - atV nx n = i by omega]
  rw [hto]
  obtain ⟨t, ht⟩ : ∃ t : Nat, ((nx.getD n []).getD i (0, 0)).2 = (t : Int) := ⟨((nx.getD n []).getD i (0, 0)).2.toNat, by omega⟩
  rw [ht, Int.toNat_natCast]
  rw [hx2] at hb5
  have hSE : ∀ z, (fun z : World => Ext w2 z) z → Ext w2 z := fun _ h => h
  (repeat (first | (apply EX.thenN) | (apply CW.seq) | (apply CW.condF; rfl) | (apply CW.skip)))
  refine CW.drawH (fun z : World => Ext w2 z) [(0, true), (1, true), (2, true), (3, true), (4, true), (5, true), (6, true), (7, true), (8, true), (9, true), (10, true), (11, true), (12, true), (13, true), (14, true), (15, true), (16, true), (17, true), (18, true), (19, true), (20, true), (21, true), (22, true), (23, false), (24, true)] mixed (by kernel_rfl) (Ext.drew w2) ?_
  (repeat (first | (apply HL.pure; rfl; rfl; rfl; rfl) | (refine HL.fa rfl rfl rfl rfl ?_) | (apply HL.nck; rfl; rfl; rfl; rfl) | (refine HL.ld (by assumption) rfl rfl rfl rfl (by assumption) rfl ?_)))
  refine HL.elemN (k := n) hSE rfl rfl rfl rfl rfl rfl rfl (fun _ h => h) (h2.up e2) hn (fun _ => rfl) (fun u q hu => ?_)
  rw [← getRow hn] at hu
  obtain ⟨ro, rc, rfl, hr⟩ := hu.sl
  (repeat (first | (apply HL.pure; rfl; rfl; rfl; rfl) | (refine HL.fa rfl rfl rfl rfl ?_) | (apply HL.nck; rfl; rfl; rfl; rfl) | (refine HL.ld (by assumption) rfl rfl rfl rfl (by assumption) rfl ?_)))
  rw [show Value.slice ao nx.length ac = .slice ao (atL nx nx.length).length ac by rw [← hlA]]
  refine HL.elemN (k := n) hSE rfl rfl rfl rfl rfl rfl rfl (fun _ h => h) (h4.up e2) (by omega) (fun _ => rfl) (fun u q hu => ?_)
  rw [atL_get] at hu
  obtain rfl := hu.int
  have hji2 : (j : Int) - ((atV nx n : Nat) : Int) = (i : Int) := by omega
  have hat2 := atV_le hN.row nx.length
  (repeat (apply HL.sub'; rfl; rfl; rfl; rfl; rfl; omega; omega))
  rw [hji2]
  clear hu
  have ht' : (nx.getD n [])[i].2 = (t : Int) := by rw [← getEd hir]; exact ht
  have htl : t < nx.length := by omega
  obtain ⟨rb, rf, rfl, hrb, _, hc2⟩ := hr.edge0 hir
  rw [ht'] at hc2
  refine HL.idx (α := LEdge) rfl rfl rfl rfl rfl (by omega) (by omega) ?_
  (repeat (refine HL.fa rfl rfl rfl rfl ?_))
  refine HL.load (α := Int) (F := Non) (y := (t : Int)) hSE rfl rfl rfl rfl hrb (fun _ h => h.elim) (by rw [Int.toNat_natCast]; exact hc2) rfl ?_
  rw [show vOf Int [.int .i64 (t : Int)] = .int .i64 (t : Int) from rfl]
  have hD := Ext.drew w2
  refine HL.mut rfl (WL.call rfl rfl rfl (all_ok (drew w2) (hR.up hD) hN htl) ?_)
  rintro v w3 ⟨ho, e3⟩
  have e23 := hD.trans e3
  refine WL.nil (EX.mut e23 ?_)
  (repeat (first | (apply HL.pure; rfl; rfl; rfl; rfl) | (apply HL.nil)))
  (repeat (first | (apply EX.thenN) | (apply CW.ret)))
  exact EX.ret1 rfl rfl ⟨ho.low (by have := hD.size; have := e2.size; omega), e2.trans e23⟩
theorem label_ok (w0 : World) {sb j : Nat} {sl : List LStep} {nx : List (List LEdge)} (hR : RunAt w0 sb sl nx) (hN : NxOk sl nx) (hj : j < atV nx nx.length) :
    Rt Try.prog 96 [.pointer (some ⟨sb, 0, none⟩), .int .i64 (j : Int)].toArray w0 fun v w' => v = .int .u64 ((labelJ sl nx j : Nat) : Int) ∧ labelJ sl nx j < 18446744073709551616 ∧ Ext w0 w' := by
  obtain ⟨lo, lc, mv, no, nc, oo, oc, ao, ac, yo, yc, x1, x2, x3, x4, hb, h1, h2, h3, h4, h5⟩ := hR
  obtain ⟨n, i, hn, hi, hji, hx2, hx⟩ := ofX_ok hN hj
  have hgx : (ofP nx nx.length)[j]'hj = ofX nx j := (getEd hj).symm
  obtain ⟨ob, off, rfl, hob, hc1, hc2⟩ := h3.edge0 hj
  rw [hgx] at hc1 hc2
  unfold labelJ
  refine Rt.enter2 Try.func96 Try.ntmps96 rfl rfl ?_
  (repeat (first | (apply WL.pure; rfl; rfl; rfl) | (apply WL.nil) | (apply EX.thenN) | (apply CW.seq) | (apply CW.region) | (apply WL.fa; rfl; rfl; rfl) | (apply WL.nck; rfl; rfl; rfl) | (apply WL.ld; rfl; rfl; rfl; assumption; rfl)))
  refine WL.idx (α := LEdge) rfl rfl rfl rfl (by omega) (by omega) ?_
  (repeat (apply WL.fa; rfl; rfl; rfl))
  refine WL.load (α := Int) (F := Non) (y := (ofX nx j).1) rfl rfl rfl (by rw [Int.toNat_natCast]; exact hc1) rfl ?_
  rw [show vOf Int [.int .i64 (ofX nx j).1] = .int .i64 (ofX nx j).1 from rfl]
  (repeat (first | (apply WL.pure; rfl; rfl; rfl) | (apply WL.nil) | (apply EX.thenN)))
  by_cases hneg : (ofX nx j).1 < 0
  · rw [decide_eq_true hneg, if_pos hneg]
    (repeat (first | (apply WL.pure; rfl; rfl; rfl) | (apply WL.nil) | (apply EX.thenN) | (apply CW.seq) | (apply CW.region) | (apply CW.condT; rfl) | (apply CW.ret) | (apply EX.thenR)))
    exact EX.ret1 rfl rfl ⟨rfl, by decide, Ext.refl _⟩
  rw [decide_eq_false hneg, if_neg hneg]
  rcases hx with ⟨hx, _⟩ | ⟨g0, g1, hir, hxe⟩
  · omega
  obtain ⟨k, hk⟩ : ∃ k : Nat, (ofX nx j).1 = (k : Int) := ⟨(ofX nx j).1.toNat, by omega⟩
  rw [hk] at hc1 g1 ⊢
  rw [Int.toNat_natCast]
  have hkl : k < sl.length := by omega
  obtain ⟨lb, lf, rfl, hlb, hcl⟩ := h1.step0 hkl
  have hnd := hN.node _ (List.getElem_mem hkl)
  rw [getSt hkl]
  obtain ⟨s, hs⟩ : ∃ s : Nat, sl[k].1 = (s : Int) := ⟨(sl[k].1).toNat, by omega⟩
  rw [hs] at hcl ⊢
  rw [Int.toNat_natCast]
  (repeat (first | (apply QL.pure; rfl; rfl; rfl) | (apply EX.thenN) | (apply CW.seq) | (apply QL.fa; rfl; rfl; rfl) | (apply QL.nck; rfl; rfl; rfl) | (apply QL.ld; rfl; rfl; rfl; assumption; rfl) | (apply CW.condF; rfl) | (apply CW.skip) | (apply CW.draw; exact mixed; kernel_rfl)))
  refine QL.idx (α := LEdge) rfl rfl rfl rfl (by omega) (by omega) ?_
  (repeat (apply QL.fa; rfl; rfl; rfl))
  refine QL.load (α := Int) (F := Non) (y := (k : Int)) rfl rfl rfl hob (fun _ h => h.elim) (by rw [Int.toNat_natCast]; exact hc1) rfl ?_
  rw [show vOf Int [.int .i64 (k : Int)] = .int .i64 (k : Int) from rfl]
  skip
  refine QL.idx (α := LStep) rfl rfl rfl rfl (by omega) (by omega) ?_
  (repeat (apply QL.fa; rfl; rfl; rfl))
  refine QL.load (α := Int) (F := Non) (y := (s : Int)) rfl rfl rfl hlb (fun _ h => h.elim) (by rw [Int.toNat_natCast]; exact hcl) rfl ?_
  rw [show vOf Int [.int .i64 (s : Int)] = .int .i64 (s : Int) from rfl]
  (repeat (apply QL.pure; rfl; rfl; rfl))
  rw [shl1U (show s < 62 by omega)]
  refine QL.nil fun w1 e1 => ?_
  (repeat (first | (apply EX.thenN) | (apply CW.ret)))
  refine EX.ret1 rfl rfl ⟨rfl, ?_, e1⟩
  have h2 : (2 : Nat) ^ s < 2 ^ 64 := Nat.pow_lt_pow_right (by decide) (by omega)
  exact h2
theorem any_next {l : List LEdge} {p : LEdge → Bool} {i : Nat} (h : i < l.length) : (l.take (i + 1)).any p = ((l.take i).any p || p l[i]) := by
  rw [List.take_add_one, List.getElem?_eq_getElem h, List.any_append]; simp
set_option maxHeartbeats 1000000 in
theorem fair_ok (w0 : World) {sb k : Nat} {sl : List LStep} {nx : List (List LEdge)} (hR : RunAt w0 sb sl nx) (hN : NxOk sl nx) :
    Rt Try.prog 98 [.pointer (some ⟨sb, 0, none⟩), .int .i64 (k : Int)].toArray w0 fun v w' => Own w' w0.heap.size 3 Non v (fairK nx (k : Int)) ∧ Ext w0 w' := by
  obtain ⟨lo, lc, mv, no, nc, oo, oc, ao, ac, yo, yc, x1, x2, x3, x4, hb, h1, h2, h3, h4, h5⟩ := hR
  have hat := atV_le hN.row nx.length
  have hn200 := hN.n
  have hol : (ofP nx nx.length).length = atV nx nx.length := rfl
  refine Rt.enter2 Try.func98 Try.ntmps98 rfl rfl ?_
  (repeat (first | (apply WL.pure; rfl; rfl; rfl) | (apply WL.nil) | (apply EX.thenN) | (apply CW.seq) | (apply CW.region) | (apply WL.lenS; rfl; rfl; rfl) | (apply WL.fa; rfl; rfl; rfl) | (apply WL.nck; rfl; rfl; rfl) | (apply WL.ld; rfl; rfl; rfl; assumption; rfl) | (apply CW.block)))
  refine CW.loop (S := Nat × Value) (fun s => [(0, .pointer (some ⟨sb, 0, none⟩)), (1, .int .i64 k), (5, s.2), (14, .slice oo (ofP nx nx.length).length oc), (15, .int .i64 (atV nx nx.length : Nat)), (16, .int .i64 s.1)])
    (fun s w => s.1 ≤ atV nx nx.length ∧ Own w w0.heap.size 3 Non s.2 (fairN nx (k : Int) s.1) ∧ Ext w0 w) (fun s => atV nx nx.length - s.1) (0, .slice none 0 0) (by repeat (first | exact trivial | refine ⟨rfl, ?_⟩)) ⟨Nat.zero_le _, Own.nil, Ext.refl _⟩ ?_
  rintro ⟨j, ov⟩ w1 ⟨hj0, ho, e1⟩
  dsimp only at hj0 ho e1 ⊢
  (repeat (first | (apply WL.pure; rfl; rfl; rfl) | (apply WL.nil) | (apply EX.thenN) | (apply CW.seq) | (apply CW.region)))
  refine CW.cond rfl (fun h => ?_) (fun h => ?_)
  · have hj : j < atV nx nx.length := by simp only [decide_eq_true_eq] at h; omega
    clear h
    have hgx : (ofP nx nx.length)[j]'hj = ofX nx j := (getEd hj).symm
    obtain ⟨n, i, hn, hi, hji, hx2, hx⟩ := ofX_ok hN hj
    have hfl := fairN_len (nx := nx) (k := (k : Int)) (n := j)
    have hfn := fairN_next (nx := nx) (k := (k : Int)) (n := j)
    (repeat (first | (apply WL.pure; rfl; rfl; rfl) | (apply EX.thenN) | (apply CW.seq) | (apply CW.region) | (apply CW.block) | (apply CW.skip)))
    refine WL.elemN (i := j) rfl rfl rfl rfl rfl (h3.up e1) hj (fun _ => rfl) (fun u q hu => ?_)
    rw [hgx] at hu
    rw [rd_edgeR hu]
    clear hu
    skip
    refine WL.alloc rfl rfl (fun w2 hb7 e2 => ?_)
    (repeat (apply WL.pure; rfl; rfl; rfl))
    refine WL.st rfl rfl rfl hb7 rfl rfl (ones_of rfl) (fun w3 hb7 hg3 => ?_)
    have e3 : Ext w1 w3 := Below.grown e2 hg3 e2.size (fun g hg => by cases hg; exact Nat.le_refl _)
    have e03 := e1.trans e3
    have hb := hb.ext e03
    have ho3 := ho.extN e3
    clear e2 hg3
    rw [hx2] at hb7
    have hcan : canJ nx j (k : Int) = (nx.getD n []).any fun y => y.1 == (k : Int) := by unfold canJ; rw [hx2, Int.toNat_natCast]
    (repeat (first | (apply WL.pure; rfl; rfl; rfl) | (apply QL.pure; rfl; rfl; rfl) | (apply WL.nil) | (apply EX.thenN) | (apply CW.seq) | (apply CW.region) | (apply QL.fa; rfl; rfl; rfl) | (apply QL.nck; rfl; rfl; rfl) | (apply QL.ld; rfl; rfl; rfl; assumption; rfl) | (apply CW.draw; exact mixed; kernel_rfl)))
    refine QL.elemN (i := n) rfl rfl rfl rfl rfl (fun _ h => h) (h2.up e03) hn (fun _ => rfl) (fun u q hu => ?_)
    rw [← getRow hn] at hu
    obtain ⟨ro, rc, rfl, hr⟩ := hu.sl
    clear hu
    (repeat (first | (apply QL.pure; rfl; rfl; rfl) | (apply QL.lenS; rfl; rfl; rfl)))
    refine QL.nil fun w4 e4 => ?_
    have e14 := e3.trans e4
    have hr4 := hr.up e4
    have hb7 := hb7.ext e4
    have ho4 := ho3.extN e4
    have hrl := hN.row n
    generalize nx.getD n [] = row at *
    (repeat (first | (apply EX.thenN) | (apply CW.block)))
    refine CW.loop (S := Nat) (fun s => [(0, .pointer (some ⟨sb, 0, none⟩)), (1, .int .i64 k), (5, ov), (6, .int .i64 j), (7, .pointer (some ⟨w1.heap.size, 0, none⟩)), (8, .bool ((row.take s).any fun y => y.1 == (k : Int))), (14, .slice oo (ofP nx nx.length).length oc), (15, .int .i64 (atV nx nx.length : Nat)), (16, .int .i64 j), (29, .slice ro row.length rc), (30, .int .i64 row.length), (31, .int .i64 s)])
      (fun s w => s ≤ row.length ∧ Ext w4 w) (fun s => row.length - s) 0 (by repeat (first | exact trivial | refine ⟨rfl, ?_⟩)) ⟨Nat.zero_le _, Ext.refl _⟩ ?_
    rintro r w5 ⟨hr0, e5⟩
    (repeat (first | (apply WL.pure; rfl; rfl; rfl) | (apply WL.nil) | (apply EX.thenN) | (apply CW.seq) | (apply CW.region)))
    refine CW.cond rfl (fun h => ?_) (fun h => ?_)
    · have hr' : r < row.length := by simp only [decide_eq_true_eq] at h; omega
      clear h
      have hany := any_next (p := fun y => y.1 == (k : Int)) hr'
      (repeat (first | (apply EX.thenN) | (apply CW.seq) | (apply CW.region) | (apply CW.block) | (apply CW.skip)))
      refine WL.elemN (i := r) rfl rfl rfl rfl rfl (hr4.up e5) hr' (fun _ => rfl) (fun u q hu => ?_)
      rw [rd_edgeR hu]
      clear hu
      generalize row[r] = ed at *
      generalize (row.take r).any (fun y => y.1 == (k : Int)) = can at *
      skip
      refine WL.alloc rfl rfl (fun w6 hb10 e6 => ?_)
      skip
      refine WL.st rfl rfl rfl hb10 rfl rfl (ones_of rfl) (fun w7 hb10 hg7 => ?_)
      have e7 : Ext w5 w7 := Below.grown e6 hg7 e6.size (fun g hg => by cases hg; exact Nat.le_refl _)
      cases can with
      | true =>
        (repeat (first | (apply WL.add; rfl; rfl; rfl; rfl; omega; omega) | (apply WL.pure; rfl; rfl; rfl) | (apply WL.nil) | (apply EX.thenN) | (apply CW.region) | (apply WL.pass; rfl; rfl) | (apply EX.inN)))
        refine EX.back (r + 1) ?_ ⟨hr', e5.trans e7⟩ (by omega)
        rw [hany, Bool.true_or]
        exact (by repeat (first | exact trivial | refine ⟨rfl, ?_⟩))
      | false =>
        (repeat (first | (apply WL.add; rfl; rfl; rfl; rfl; omega; omega) | (apply WL.pure; rfl; rfl; rfl) | (apply WL.nil) | (apply EX.thenN) | (apply CW.region) | (apply WL.fa; rfl; rfl; rfl) | (apply WL.ld; rfl; rfl; rfl; assumption; rfl) | (apply EX.inN)))
        refine EX.back (r + 1) ?_ ⟨hr', e5.trans e7⟩ (by omega)
        rw [hany, Bool.false_or]
        exact (by repeat (first | exact trivial | refine ⟨rfl, ?_⟩))
    have hre : r = row.length := by simp only [decide_eq_false_iff_not] at h; omega
    subst hre
    rw [List.take_length, ← hcan]
    have hb7 := hb7.ext e5
    have ho5 := ho4.extN e5
    have e15 := e14.trans e5
    have e05 := e1.trans e15
    unfold inF at hfn
    clear h hcan
    generalize canJ nx j (k : Int) = can at *
    have app : ∀ (hf : fairN nx (k : Int) (j + 1) = fairN nx (k : Int) j ++ [(j : Int)]), True := fun _ => trivial
    cases can with
    | false =>
      rw [Bool.not_false, Bool.true_or, if_pos rfl] at hfn
      (repeat (first | (apply WL.pure; rfl; rfl; rfl) | (apply WL.nil) | (apply EX.thenN) | (apply CW.seq) | (apply CW.region) | (apply WL.pass; rfl; rfl) | (apply CW.condT; rfl) | (apply CW.exit) | (apply EX.thenX) | (apply EX.inX)))
      refine WL.app1 (α := Int) (F := Non) (bytes := 8) (yv := (j : Int)) rfl rfl (fun _ => rfl) rfl rfl (fun _ => rfl) ho5 (Rd.mkInt _ _ _) e05.size (fun _ h => h.elim) (by decide) (by unfold maxLen; omega) (by omega) (fun ov' w6 q ho6 hg6 hnb6 => ?_)
      rw [← hfn] at ho6
      (repeat (first | (apply WL.add; rfl; rfl; rfl; rfl; omega; omega) | (apply WL.pure; rfl; rfl; rfl) | (apply WL.nil) | (apply EX.thenN) | (apply CW.region) | (apply EX.inN)))
      exact EX.back (j + 1, ov') (by repeat (first | exact trivial | refine ⟨rfl, ?_⟩)) ⟨hj, ho6, Below.grown e05 hg6 e05.size (fun g hg => (ho.lt g hg).1)⟩ (by dsimp only; omega)
    | true =>
      rw [Bool.not_true, Bool.false_or] at hfn
      (repeat (first | (apply WL.pure; rfl; rfl; rfl) | (apply WL.nil) | (apply EX.thenN) | (apply CW.seq) | (apply CW.region) | (apply WL.fa; rfl; rfl; rfl) | (apply WL.ld; rfl; rfl; rfl; assumption; rfl) | (apply CW.exit) | (apply EX.thenX) | (apply EX.inX)))
      by_cases hk : (ofX nx j).1 = (k : Int)
      · rw [show ((ofX nx j).1 == (k : Int)) = true by rw [hk]; exact beq_self_eq_true _, if_pos rfl] at hfn
        rw [show ((ofX nx j).1 == (k : Int)) = true by rw [hk]; exact beq_self_eq_true _]
        (repeat (first | (apply WL.pure; rfl; rfl; rfl) | (apply CW.region) | (apply CW.condT; rfl)))
        refine WL.app1 (α := Int) (F := Non) (bytes := 8) (yv := (j : Int)) rfl rfl (fun _ => rfl) rfl rfl (fun _ => rfl) ho5 (Rd.mkInt _ _ _) e05.size (fun _ h => h.elim) (by decide) (by unfold maxLen; omega) (by omega) (fun ov' w6 q ho6 hg6 hnb6 => ?_)
        rw [← hfn] at ho6
        (repeat (first | (apply WL.add; rfl; rfl; rfl; rfl; omega; omega) | (apply WL.pure; rfl; rfl; rfl) | (apply WL.nil) | (apply EX.thenN) | (apply CW.region) | (apply EX.inN)))
        exact EX.back (j + 1, ov') (by repeat (first | exact trivial | refine ⟨rfl, ?_⟩)) ⟨hj, ho6, Below.grown e05 hg6 e05.size (fun g hg => (ho.lt g hg).1)⟩ (by dsimp only; omega)
      · rw [show ((ofX nx j).1 == (k : Int)) = false by simpa using hk, if_neg (by simp), List.append_nil] at hfn
        rw [show ((ofX nx j).1 == (k : Int)) = false by simpa using hk]
        rw [← hfn] at ho5
        (repeat (first | (apply WL.add; rfl; rfl; rfl; rfl; omega; omega) | (apply WL.pure; rfl; rfl; rfl) | (apply WL.nil) | (apply EX.thenN) | (apply CW.region) | (apply EX.inN) | (apply CW.condF; rfl) | (apply CW.skip)))
        exact EX.back (j + 1, ov) (by repeat (first | exact trivial | refine ⟨rfl, ?_⟩)) ⟨hj, ho5, e05⟩ (by dsimp only; omega)
  have hje : j = atV nx nx.length := by simp only [decide_eq_false_iff_not] at h; omega
  subst hje
  (repeat (first | (apply WL.pure; rfl; rfl; rfl) | (apply WL.nil) | (apply EX.thenN) | (apply CW.seq) | (apply CW.region) | (apply CW.exit) | (apply EX.thenX) | (apply EX.inX) | (apply CW.ret)))
  exact EX.ret1 rfl rfl ⟨ho, e1⟩
end Go.Proofs.Ytadbkppgaekmpaa
/-
  Package lasso: words, their check and their letters.
-/
set_option linter.unusedVariables false
set_option linter.unusedSimpArgs false
namespace Go.Proofs.Ytadbkppgaekmpaa
open Go.RowKit

def chkW (s l : List Nat) : Int := if s.length > 60 ∨ l.length > 60 - s.length then 2 else if l.length = 0 then 1 else 0
def lat (s l : List Nat) (i : Nat) : Nat := if i < s.length then s.getD i 0 else l.getD ((i - s.length) % l.length) 0
theorem chkW_ok {s l : List Nat} (h : chkW s l = 0) : s.length + l.length ≤ 60 ∧ 0 < l.length := by
  unfold chkW at h
  split at h
  · cases h
  · split at h
    · cases h
    · omega
abbrev wordV (so : Option Addr) (sc : Nat) (lo : Option Addr) (lc : Nat) (s l : List Nat) : Value := .agg [.slice so s.length sc, .slice lo l.length lc].toArray

theorem lassoCheck (w : World) {so lo : Option Addr} {sc lc : Nat} {s l : List Nat} (hs : s.length ≤ 9223372036854775807) (hl : l.length ≤ 9223372036854775807) :
    Rt Try.prog 73 [wordV so sc lo lc s l].toArray w fun v w' => v = .int .i64 (chkW s l) ∧ Ext w w' := by
  refine Rt.enter1 Try.func73 Try.ntmps73 rfl rfl ?_
  (repeat (first | (apply CW.seq) | (apply CW.region)))
  refine WL.boxB rfl rfl rfl fun w1 hb hE => ?_
  (repeat (first | (apply WL.pure; rfl; rfl; rfl) | (apply WL.nil) | (apply EX.thenN) | (apply CW.seq) | (apply CW.region) | (apply WL.lenS; rfl; rfl; rfl) | (apply WL.fa; rfl; rfl; rfl) | (apply WL.ld; rfl; rfl; rfl; assumption; rfl) | (apply CW.block)))
  (refine WL.lookG rfl rfl (fun h => ?_) (fun h => ?_))
  · (repeat (first | (apply WL.pure; rfl; rfl; rfl) | (apply WL.nil) | (apply EX.thenN) | (apply CW.seq) | (apply CW.region) | (apply WL.pass; rfl; rfl) | (apply CW.condT; rfl) | (apply CW.ret) | (apply EX.thenR) | (apply EX.inR)))
    refine EX.ret1 rfl rfl ⟨?_, hE⟩
    simp at h; unfold chkW
    rw [if_pos (by omega)]
  · simp at h
    (repeat (first | (apply WL.sub'; rfl; rfl; rfl; rfl; omega; omega) | (apply WL.pure; rfl; rfl; rfl) | (apply WL.nil) | (apply EX.thenN) | (apply WL.lenS; rfl; rfl; rfl) | (apply WL.fa; rfl; rfl; rfl) | (apply WL.ld; rfl; rfl; rfl; assumption; rfl)))
    refine CW.cond rfl (fun h1 => ?_) (fun h1 => ?_) <;> simp at h1
    · (repeat (first | (apply WL.pure; rfl; rfl; rfl) | (apply WL.nil) | (apply EX.thenN) | (apply CW.seq) | (apply CW.region) | (apply CW.ret) | (apply EX.thenR) | (apply EX.inR)))
      refine EX.ret1 rfl rfl ⟨?_, hE⟩
      unfold chkW
      rw [if_pos (by omega)]
    · (repeat (first | (apply WL.pure; rfl; rfl; rfl) | (apply WL.nil) | (apply EX.thenN) | (apply CW.seq) | (apply CW.region) | (apply WL.lenS; rfl; rfl; rfl) | (apply WL.fa; rfl; rfl; rfl) | (apply WL.ld; rfl; rfl; rfl; assumption; rfl)))
      refine CW.cond rfl (fun h2 => ?_) (fun h2 => ?_) <;> simp at h2
      · (repeat (first | (apply WL.pure; rfl; rfl; rfl) | (apply WL.nil) | (apply EX.thenN) | (apply CW.seq) | (apply CW.region) | (apply CW.ret) | (apply EX.thenR) | (apply EX.inR)))
        refine EX.ret1 rfl rfl ⟨?_, hE⟩
        unfold chkW
        rw [if_neg (by omega), if_pos (by simp [h2])]
      · (repeat (first | (apply WL.pure; rfl; rfl; rfl) | (apply WL.nil) | (apply EX.thenN) | (apply CW.seq) | (apply CW.region) | (apply EX.inN) | (apply CW.ret) | (apply CW.skip)))
        refine EX.ret1 rfl rfl ⟨?_, hE⟩
        unfold chkW
        rw [if_neg (by omega), if_neg (by simp [h2])]

def latA (s l : List Nat) (i : Int) : Nat × Int := if chkW s l ≠ 0 then (0, chkW s l) else if i < 0 then (0, 1) else (lat s l i.toNat, 0)
theorem latA_ok {s l : List Nat} (h : chkW s l = 0) (i : Nat) : latA s l (i : Int) = (lat s l i, 0) := by
  unfold latA; rw [if_neg (by simp [h]), if_neg (by omega)]; rfl
theorem lat_lt {s l : List Nat} (hs : ∀ x ∈ s, x < 18446744073709551616) (hl : ∀ x ∈ l, x < 18446744073709551616) (i : Nat) : lat s l i < 18446744073709551616 := by
  unfold lat
  have one : ∀ (l : List Nat), (∀ x ∈ l, x < 18446744073709551616) → ∀ k, l.getD k 0 < 18446744073709551616 := by
    intro l hl k
    rw [List.getD_eq_getElem?_getD]
    cases h : l[k]? with
    | none => simp
    | some y => simpa using hl y (List.mem_of_getElem? h)
  split
  · exact one s hs _
  · exact one l hl _
theorem Sl.u64 {w : World} {F : Nat → Prop} {ao : Option Addr} {cap : Nat} {xs : List Nat} (h : Sl w F ao cap xs) : ∀ x ∈ xs, x < 18446744073709551616 := by
  intro x hx
  obtain ⟨i, hi, rfl⟩ := List.getElem_of_mem hx
  obtain ⟨b, off, _, _, es, _, hr⟩ := h.el i hi
  exact hr.2
end Go.Proofs.Ytadbkppgaekmpaa
/-
  The least way to write a word that goes round: plain part.
-/
set_option linter.unusedVariables false
set_option linter.unusedSimpArgs false
namespace Go.Proofs.Ytadbkppgaekmpaa
open Go.RowKit

/-- d is a period from n on -/
def Per (L : Nat → Nat) (n d : Nat) : Prop := ∀ i, n ≤ i → L (i + d) = L i
theorem Per.later {L : Nat → Nat} {n m d : Nat} (h : Per L n d) (hm : n ≤ m) : Per L m d := fun i hi => h i (by omega)
theorem Per.mul {L : Nat → Nat} {n d : Nat} (h : Per L n d) : ∀ k, Per L n (k * d)
  | 0 => fun i _ => by simp
  | k + 1 => fun i hi => by
    rw [Nat.add_mul, Nat.one_mul, ← Nat.add_assoc, h _ (by omega)]
    exact Per.mul h k i hi
theorem Per.sub {L : Nat → Nat} {n p q : Nat} (hp : Per L n p) (hq : Per L n q) (h : p ≤ q) : Per L n (q - p) := by
  intro i hi
  rw [← hp (i + (q - p)) (by omega)]
  have : i + (q - p) + p = i + q := by omega
  rw [this]
  exact hq i hi
theorem Per.gcd {L : Nat → Nat} {n : Nat} : ∀ (k p q : Nat), p + q ≤ k → Per L n p → Per L n q → Per L n (Nat.gcd p q)
  | 0, p, q, hk, hp, hq => by
    have e1 : p = 0 := by omega
    have e2 : q = 0 := by omega
    subst e1 e2
    exact hp
  | k + 1, p, q, hk, hp, hq => by
    by_cases hp0 : p = 0
    · subst hp0; rw [Nat.gcd_zero_left]; exact hq
    by_cases hq0 : q = 0
    · subst hq0; rw [Nat.gcd_zero_right]; exact hp
    by_cases h : p ≤ q
    · have := Per.gcd k p (q - p) (by omega) hp (hp.sub hq h)
      rwa [Nat.gcd_sub_self_right h] at this
    · have := Per.gcd k (p - q) q (by omega) (hq.sub hp (by omega)) hq
      rwa [Nat.gcd_sub_self_left (by omega)] at this
/-- an eventual period is one from where the word goes round on -/
theorem Per.early {L : Nat → Nat} {n m p d : Nat} (hp : Per L n p) (h0 : 0 < p) (hd : Per L m d) : Per L n d := by
  intro i hi
  have h1 := hp.mul m (i + d) (by omega)
  have h2 := hp.mul m i hi
  have hm : m ≤ m * p := Nat.le_mul_of_pos_right m h0
  have h3 := hd (i + m * p) (by omega)
  have e : i + m * p + d = i + d + m * p := by omega
  rw [e, h1, h2] at h3
  exact h3
/-- the least eventual period -/
def Least (L : Nat → Nat) (p : Nat) : Prop := ∀ d m, 0 < d → Per L m d → p ≤ d

theorem lat_perP {s l : List Nat} (h0 : 0 < l.length) : Per (lat s l) s.length l.length := by
  intro i hi
  unfold lat
  rw [if_neg (by omega), if_neg (by omega)]
  congr 1
  have : i + l.length - s.length = (i - s.length) + l.length := by omega
  rw [this, Nat.add_mod_right]
theorem lat_loopP {s l : List Nat} {j : Nat} (h : j < l.length) : lat s l (s.length + j) = l.getD j 0 := by
  unfold lat
  rw [if_neg (by omega)]
  congr 1
  rw [Nat.add_sub_cancel_left, Nat.mod_eq_of_lt h]
/-- two ways to write one word, both least, are one -/
structure LeastW (L : Nat → Nat) (s l : List Nat) : Prop where
  pos : 0 < l.length
  same : ∀ i, lat s l i = L i
  least : Least L l.length
  tight : ∀ h : 0 < s.length, s[s.length - 1]? ≠ l[l.length - 1]?
theorem leastW_len {L : Nat → Nat} {s l t m : List Nat} (h : LeastW L s l) (k : LeastW L t m) : l.length = m.length := by
  have h1 : Per L s.length l.length := fun i hi => by rw [← h.same, ← h.same]; exact lat_perP h.pos i hi
  have h2 : Per L t.length m.length := fun i hi => by rw [← k.same, ← k.same]; exact lat_perP k.pos i hi
  have a := h.least m.length t.length k.pos h2
  have b := k.least l.length s.length h.pos h1
  omega
theorem leastW_stem {L : Nat → Nat} {s l t m : List Nat} (h : LeastW L s l) (k : LeastW L t m) : t.length ≤ s.length := by
  apply Classical.byContradiction
  intro hlt
  have hl := leastW_len h k
  have hp := h.pos
  have ht : 0 < t.length := by omega
  apply k.tight ht
  have h1 : Per L s.length l.length := fun i hi => by rw [← h.same, ← h.same]; exact lat_perP h.pos i hi
  have e1 := h1 (t.length - 1) (by omega)
  have e2 : lat t m (t.length - 1) = t.getD (t.length - 1) 0 := by unfold lat; rw [if_pos (by omega)]
  have e3 : lat t m (t.length + (m.length - 1)) = m.getD (m.length - 1) 0 := lat_loopP (by omega)
  rw [← k.same, ← k.same, e2, show t.length - 1 + l.length = t.length + (m.length - 1) by omega, e3] at e1
  rw [List.getD_eq_getElem?_getD, List.getD_eq_getElem?_getD, List.getElem?_eq_getElem (by omega), List.getElem?_eq_getElem (by omega)] at e1
  rw [List.getElem?_eq_getElem (by omega), List.getElem?_eq_getElem (by omega)]
  simp only [Option.getD_some] at e1
  rw [e1]
theorem leastW_eq {L : Nat → Nat} {s l t m : List Nat} (h : LeastW L s l) (k : LeastW L t m) : s = t ∧ l = m := by
  have hl := leastW_len h k
  have hs : s.length = t.length := Nat.le_antisymm (leastW_stem k h) (leastW_stem h k)
  constructor
  · apply List.ext_getElem hs
    intro i h1 h2
    have e1 := h.same i
    have e2 := k.same i
    unfold lat at e1 e2
    rw [if_pos h1] at e1
    rw [if_pos h2] at e2
    rw [← e2] at e1
    rw [List.getD_eq_getElem?_getD, List.getD_eq_getElem?_getD, List.getElem?_eq_getElem h1, List.getElem?_eq_getElem h2] at e1
    exact e1
  · apply List.ext_getElem hl
    intro i h1 h2
    have e1 := h.same (s.length + i)
    have e2 := k.same (t.length + i)
    rw [lat_loopP h1] at e1
    rw [lat_loopP h2, ← hs] at e2
    rw [← e2] at e1
    rw [List.getD_eq_getElem?_getD, List.getD_eq_getElem?_getD, List.getElem?_eq_getElem h1, List.getElem?_eq_getElem h2] at e1
    exact e1

/- WHAT least COMPUTES -/
def turnsB (l : List Nat) (n : Nat) : Bool := (List.range l.length).all fun i => decide (i < n) || (l.getD i 0 == l.getD (i - n) 0)
/-- the first n from k on that fits -/
def perGo (l : List Nat) : Nat → Nat → List Nat
  | 0, _ => l
  | f + 1, n => if l.length % n = 0 ∧ turnsB l n = true then l.take n else perGo l f (n + 1)
def perL (l : List Nat) : List Nat := perGo l l.length 1
def rollGo : Nat → List Nat → List Nat → List Nat × List Nat
  | 0, s, l => (s, l)
  | f + 1, s, l => if 0 < s.length ∧ s.getD (s.length - 1) 0 = l.getD (l.length - 1) 0 then rollGo f (s.take (s.length - 1)) (l.getD (l.length - 1) 0 :: l.take (l.length - 1)) else (s, l)
def leastL (s l : List Nat) : List Nat × List Nat := rollGo s.length s (perL l)

theorem turns_per {s l : List Nat} {n : Nat} (hn : 0 < n) (hd : l.length % n = 0) (h0 : 0 < l.length) : turnsB l n = true ↔ Per (lat s l) s.length n := by
  have hnl : n ≤ l.length := Nat.le_of_dvd h0 (Nat.dvd_of_mod_eq_zero hd)
  constructor
  · intro h i hi
    unfold turnsB at h
    rw [List.all_eq_true] at h
    have hget : ∀ j, j < l.length → n ≤ j → l.getD j 0 = l.getD (j - n) 0 := by
      intro j hj hnj
      have := h j (List.mem_range.2 hj)
      simp only [Bool.or_eq_true, decide_eq_true_eq, beq_iff_eq] at this
      rcases this with h1 | h1
      · omega
      · exact h1
    -- by steps of n: a letter is that at the place's rest by n
    have hrest : ∀ j, j < l.length → l.getD j 0 = l.getD (j % n) 0 := by
      intro j
      induction j using Nat.strongRecOn with
      | _ j ih =>
        intro hj
        by_cases hjn : j < n
        · rw [Nat.mod_eq_of_lt hjn]
        · rw [hget j hj (by omega), ih (j - n) (by omega) (by omega), ← Nat.mod_eq_sub_mod (by omega)]
    unfold lat
    rw [if_neg (by omega), if_neg (by omega)]
    have hm1 : (i + n - s.length) % l.length < l.length := Nat.mod_lt _ h0
    have hm2 : (i - s.length) % l.length < l.length := Nat.mod_lt _ h0
    rw [hrest _ hm1, hrest _ hm2]
    congr 1
    have hdv : n ∣ l.length := Nat.dvd_of_mod_eq_zero hd
    rw [Nat.mod_mod_of_dvd _ hdv, Nat.mod_mod_of_dvd _ hdv]
    rw [show i + n - s.length = (i - s.length) + n by omega, Nat.add_mod_right]
  · intro h
    unfold turnsB
    rw [List.all_eq_true]
    intro i hi
    rw [List.mem_range] at hi
    simp only [Bool.or_eq_true, decide_eq_true_eq, beq_iff_eq]
    by_cases hin : i < n
    · exact .inl hin
    · right
      have := h (s.length + (i - n)) (by omega)
      rw [show s.length + (i - n) + n = s.length + i by omega, lat_loopP hi, lat_loopP (by omega)] at this
      exact this
theorem perGo_spec {s l : List Nat} (h0 : 0 < l.length) : ∀ (f n : Nat), 0 < n → n + f = l.length + 1 → (∀ d, 0 < d → d < n → ¬ (l.length % d = 0 ∧ turnsB l d = true)) →
    0 < (perGo l f n).length ∧ (∀ i, lat s (perGo l f n) i = lat s l i) ∧ Least (lat s l) (perGo l f n).length ∧ (perGo l f n).length ≤ l.length
  | 0, n, hn, hf, hno => by
    exfalso
    refine hno l.length h0 (by omega) ⟨Nat.mod_self _, ?_⟩
    rw [turns_per (s := s) h0 (Nat.mod_self _) h0]
    exact lat_perP h0
  | f + 1, n, hn, hf, hno => by
    by_cases hc : l.length % n = 0 ∧ turnsB l n = true
    · have e : perGo l (f + 1) n = l.take n := by rw [perGo, if_pos hc]
      have hper := (turns_per (s := s) hn hc.1 h0).1 hc.2
      have hdv : n ∣ l.length := Nat.dvd_of_mod_eq_zero hc.1
      have hnl : n ≤ l.length := Nat.le_of_dvd h0 hdv
      have hlen : (l.take n).length = n := by rw [List.length_take]; omega
      rw [e, hlen]
      refine ⟨hn, fun i => ?_, fun d m hd hm => ?_, hnl⟩
      · by_cases his : i < s.length
        · unfold lat; rw [if_pos his, if_pos his]
        · have hrest : ∀ q j, lat s l (s.length + (q * n + j)) = lat s l (s.length + j) := by
            intro q j
            have := hper.mul q (s.length + j) (by omega)
            rw [← this]; congr 1; omega
          have hlt : (i - s.length) % n < n := Nat.mod_lt _ hn
          have h1 : lat s (l.take n) i = (l.take n).getD ((i - s.length) % n) 0 := by unfold lat; rw [if_neg his, hlen]
          have h2 := hrest ((i - s.length) / n) ((i - s.length) % n)
          have hdm : (i - s.length) / n * n + (i - s.length) % n = i - s.length := by rw [Nat.mul_comm]; exact Nat.div_add_mod _ _
          rw [hdm, show s.length + (i - s.length) = i by omega, lat_loopP (by omega)] at h2
          rw [h1, h2, List.getD_eq_getElem?_getD, List.getElem?_take_of_lt hlt, ← List.getD_eq_getElem?_getD]
      · have hd' : Per (lat s l) s.length d := (lat_perP h0).early h0 hm
        have hg := Per.gcd _ d n (Nat.le_refl _) hd' hper
        have hgpos : 0 < Nat.gcd d n := Nat.gcd_pos_of_pos_left _ hd
        have hgl : l.length % Nat.gcd d n = 0 := Nat.mod_eq_zero_of_dvd (Nat.dvd_trans (Nat.gcd_dvd_right d n) hdv)
        have hgn : Nat.gcd d n ≤ n := Nat.le_of_dvd hn (Nat.gcd_dvd_right d n)
        have hgd : Nat.gcd d n ≤ d := Nat.le_of_dvd hd (Nat.gcd_dvd_left d n)
        have := hno (Nat.gcd d n) hgpos
        by_cases hlt : Nat.gcd d n < n
        · exact absurd ⟨hgl, (turns_per (s := s) hgpos hgl h0).2 hg⟩ (this hlt)
        · omega
    · have e : perGo l (f + 1) n = perGo l f (n + 1) := by rw [perGo, if_neg hc]
      rw [e]
      refine perGo_spec h0 f (n + 1) (by omega) (by omega) (fun d hd hdn => ?_)
      by_cases hde : d = n
      · subst hde; exact hc
      · exact hno d hd (by omega)
theorem lat_roll {s l : List Nat} (hs : 0 < s.length) (hl : 0 < l.length) (he : s.getD (s.length - 1) 0 = l.getD (l.length - 1) 0) (i : Nat) : lat (s.take (s.length - 1)) (l.getD (l.length - 1) 0 :: l.take (l.length - 1)) i = lat s l i := by
  have hls : (s.take (s.length - 1)).length = s.length - 1 := by rw [List.length_take]; omega
  have hll : (l.getD (l.length - 1) 0 :: l.take (l.length - 1)).length = l.length := by rw [List.length_cons, List.length_take]; omega
  unfold lat
  rw [hls, hll]
  by_cases h1 : i < s.length - 1
  · rw [if_pos h1, if_pos (by omega), List.getD_eq_getElem?_getD, List.getElem?_take_of_lt h1, ← List.getD_eq_getElem?_getD]
  · rw [if_neg h1]
    have hget : ∀ j, j < l.length → (l.getD (l.length - 1) 0 :: l.take (l.length - 1)).getD j 0 = if j = 0 then l.getD (l.length - 1) 0 else l.getD (j - 1) 0 := by
      intro j hj
      cases j with
      | zero => rfl
      | succ j =>
        rw [if_neg (by omega), List.getD_eq_getElem?_getD, List.getElem?_cons_succ, List.getElem?_take_of_lt (by omega), ← List.getD_eq_getElem?_getD]
        rfl
    by_cases h2 : i < s.length
    · have : i = s.length - 1 := by omega
      subst this
      rw [if_pos h2, Nat.sub_self, Nat.zero_mod, hget 0 hl, if_pos rfl, he]
    · rw [if_neg h2, hget _ (Nat.mod_lt _ hl)]
      have e : i - (s.length - 1) = (i - s.length) + 1 := by omega
      rw [e]
      have hm := Nat.mod_lt (i - s.length) hl
      rw [Nat.add_mod]
      by_cases h3 : (i - s.length) % l.length = l.length - 1
      · rw [h3]
        by_cases h1l : l.length = 1
        · rw [h1l]; simp
        · have : (l.length - 1 + 1 % l.length) % l.length = 0 := by rw [Nat.mod_eq_of_lt (show 1 < l.length by omega), show l.length - 1 + 1 = l.length by omega, Nat.mod_self]
          rw [this, if_pos rfl]
      · have h1l : 1 < l.length := by omega
        rw [Nat.mod_eq_of_lt h1l, Nat.mod_eq_of_lt (by omega), if_neg (by omega)]
        rfl
theorem rollGo_spec {L : Nat → Nat} : ∀ (f : Nat) (s l : List Nat), s.length ≤ f → 0 < l.length → (∀ i, lat s l i = L i) → Least L l.length → LeastW L (rollGo f s l).1 (rollGo f s l).2
  | 0, s, l, hf, h0, hs, hl => ⟨h0, hs, hl, fun h => by have h : 0 < s.length := h; omega⟩
  | f + 1, s, l, hf, h0, hs, hl => by
    by_cases hc : 0 < s.length ∧ s.getD (s.length - 1) 0 = l.getD (l.length - 1) 0
    · rw [rollGo, if_pos hc]
      have hll : (l.getD (l.length - 1) 0 :: l.take (l.length - 1)).length = l.length := by rw [List.length_cons, List.length_take]; omega
      refine rollGo_spec f _ _ (by rw [List.length_take]; omega) (by rw [hll]; exact h0) (fun i => ?_) (by rw [hll]; exact hl)
      rw [lat_roll hc.1 h0 hc.2]; exact hs i
    · rw [rollGo, if_neg hc]
      refine ⟨h0, hs, hl, fun h e => hc ⟨h, ?_⟩⟩
      rw [List.getD_eq_getElem?_getD, List.getD_eq_getElem?_getD, e]
theorem leastL_spec {s l : List Nat} (h0 : 0 < l.length) : LeastW (lat s l) (leastL s l).1 (leastL s l).2 := by
  have h := perGo_spec (s := s) h0 l.length 1 (by omega) (by omega) (fun d hd hd1 => by omega)
  exact rollGo_spec s.length s (perL l) (Nat.le_refl _) h.1 h.2.1 h.2.2.1
/-- one word, however it is written, has one least way to write it -/
theorem leastL_eq {s l t m : List Nat} (h0 : 0 < l.length) (h1 : 0 < m.length) (h : ∀ i, lat s l i = lat t m i) : leastL s l = leastL t m := by
  have a := leastL_spec (s := s) h0
  have b := leastL_spec (s := t) h1
  have e : lat s l = lat t m := funext h
  rw [e] at a
  have := leastW_eq a b
  exact Prod.ext this.1 this.2
/-- some letters of the loop are put into the stem -/
theorem lat_unroll {s l : List Nat} (h0 : 0 < l.length) {n : Nat} (hn : n ≤ l.length) (i : Nat) : lat (s ++ l.take n) (l.drop n ++ l.take n) i = lat s l i := by
  have hlen : (l.drop n ++ l.take n).length = l.length := by rw [List.length_append, List.length_drop, List.length_take]; omega
  have hst : (s ++ l.take n).length = s.length + n := by rw [List.length_append, List.length_take]; omega
  unfold lat
  rw [hst, hlen]
  by_cases h1 : i < s.length
  · rw [if_pos h1, if_pos (by omega), List.getD_eq_getElem?_getD, List.getElem?_append_left h1, ← List.getD_eq_getElem?_getD]
  · rw [if_neg h1]
    by_cases h2 : i < s.length + n
    · rw [if_pos h2, List.getD_eq_getElem?_getD, List.getElem?_append_right (by omega), List.getElem?_take_of_lt (by omega), ← List.getD_eq_getElem?_getD, Nat.mod_eq_of_lt (by omega)]
    · rw [if_neg h2]
      have hm := Nat.mod_lt (i - (s.length + n)) h0
      have e : i - s.length = (i - (s.length + n)) + n := by omega
      rw [e]
      generalize i - (s.length + n) = j at *
      have hj : (j + n) % l.length = (j % l.length + n) % l.length := (Nat.mod_add_mod j l.length n).symm
      rw [hj]
      generalize j % l.length = r at *
      by_cases h3 : r < l.length - n
      · rw [List.getD_eq_getElem?_getD, List.getElem?_append_left (by rw [List.length_drop]; exact h3), List.getElem?_drop, ← List.getD_eq_getElem?_getD, Nat.mod_eq_of_lt (by omega), Nat.add_comm]
      · rw [List.getD_eq_getElem?_getD, List.getElem?_append_right (by rw [List.length_drop]; omega), List.length_drop, List.getElem?_take_of_lt (by omega), ← List.getD_eq_getElem?_getD]
        rw [Nat.mod_eq_sub_mod (by omega), Nat.mod_eq_of_lt (by omega)]
        congr 1; omega
end Go.Proofs.Ytadbkppgaekmpaa
/-
  Package world: what Check, Good and Word compute; a path written otherwise. Plain part.
-/
set_option linter.unusedVariables false
set_option linter.unusedSimpArgs false
namespace Go.Proofs.Ytadbkppgaekmpaa
open Go.RowKit

def chkN (n : Nat) (l : List Int) : Bool := decide (l.length = 0) || oddB n l
def chkWd (st : List Int) (nx : List (List Int)) (k : Nat) (fr : List (List Int)) : Int :=
  if nx.length > 600 ∨ fr.length > 80 then 2 else if k ≠ nx.length ∨ oddB nx.length st = true then 1 else if nx.any (chkN nx.length) = true then 1 else if fr.any (oddB nx.length) = true then 1 else 0
theorem chkWd_ok {st : List Int} {nx : List (List Int)} {k : Nat} {fr : List (List Int)} (h : chkWd st nx k fr = 0) : nx.length ≤ 600 ∧ fr.length ≤ 80 ∧ k = nx.length ∧ okL nx.length st ∧ (∀ l ∈ nx, 0 < l.length ∧ okL nx.length l) ∧ ∀ l ∈ fr, okL nx.length l := by
  unfold chkWd at h
  split at h
  · cases h
  split at h
  · cases h
  split at h
  · cases h
  split at h
  · cases h
  rename_i h1 h2 h3 h4
  refine ⟨by omega, by omega, ?_, ?_, ?_, ?_⟩
  · by_cases e : k = nx.length
    · exact e
    · exact absurd (.inl e) h2
  · rw [← oddB_false]
    cases e : oddB nx.length st
    · rfl
    · exact absurd (.inr e) h2
  · intro l hl
    have h3 : nx.any (chkN nx.length) = false := by simpa using h3
    rw [List.any_eq_false] at h3
    have := h3 l hl
    simp only [chkN, Bool.or_eq_true, decide_eq_true_eq, not_or, Bool.not_eq_true] at this
    exact ⟨by omega, oddB_false.1 this.2⟩
  · intro l hl
    have h4 : fr.any (oddB nx.length) = false := by simpa using h4
    rw [List.any_eq_false] at h4
    exact oddB_false.1 (by simpa using h4 l hl)

def toP (al l : List Int) (i : Nat) : Int := if i + 1 < al.length then al.getD (i + 1) 0 else l.getD 0 0
def stepB (nx : List (List Int)) (al l : List Int) (i : Nat) : Bool := (nx.getD (al.getD i 0).toNat []).contains (toP al l i)
def goodB (st : List Int) (nx fr : List (List Int)) (al l : List Int) : Bool :=
  st.contains (al.getD 0 0) && (List.range al.length).all (stepB nx al l) && fr.all (fun f => f.any (fun x => l.contains x))
def goodF (st : List Int) (nx : List (List Int)) (k : Nat) (fr : List (List Int)) (s l : List Int) : Bool × Int :=
  if chkWd st nx k fr ≠ 0 then (false, chkWd st nx k fr) else if s.length > 60000 ∨ l.length > 60000 - s.length then (false, 2)
  else if l.length = 0 ∨ oddB nx.length s = true ∨ oddB nx.length l = true then (false, 0) else (goodB st nx fr (s ++ l) l, 0)

/- paths as words -/
theorem int_nat {n : Nat} {l : List Int} (h : okL n l) : (l.map Int.toNat).map Int.ofNat = l := by
  rw [List.map_map]
  conv => rhs; rw [← List.map_id l]
  refine List.map_congr_left fun x hx => ?_
  have := h x hx
  show Int.ofNat x.toNat = x
  have h2 : (x.toNat : Int) = x := Int.toNat_of_nonneg (by omega)
  exact h2
theorem getD_nat {l : List Nat} {i : Nat} (h : i < l.length) : (l.map Int.ofNat).getD i 0 = ((l.getD i 0 : Nat) : Int) := by
  rw [List.getD_eq_getElem?_getD, List.getElem?_map, List.getElem?_eq_getElem h, List.getD_eq_getElem?_getD, List.getElem?_eq_getElem h]; rfl
theorem all_lat {s l : List Nat} {i : Nat} (h : i < (s ++ l).length) : (((s ++ l).map Int.ofNat).getD i 0) = (lat s l i : Int) := by
  rw [getD_nat h]
  unfold lat
  rw [List.length_append] at h
  by_cases h1 : i < s.length
  · rw [if_pos h1, List.getD_eq_getElem?_getD, List.getElem?_append_left h1, ← List.getD_eq_getElem?_getD]
  · rw [if_neg h1, List.getD_eq_getElem?_getD, List.getElem?_append_right (by omega), ← List.getD_eq_getElem?_getD, Nat.mod_eq_of_lt (by omega)]
def edgeB (nx : List (List Int)) (s l : List Nat) (i : Nat) : Bool := (nx.getD (lat s l i) []).contains ((lat s l (i + 1) : Nat) : Int)
theorem stepB_lat {nx : List (List Int)} {s l : List Nat} (h0 : 0 < l.length) {i : Nat} (h : i < (s ++ l).length) : stepB nx ((s ++ l).map Int.ofNat) (l.map Int.ofNat) i = edgeB nx s l i := by
  unfold stepB edgeB
  have e2 : toP ((s ++ l).map Int.ofNat) (l.map Int.ofNat) i = ((lat s l (i + 1) : Nat) : Int) := by
    unfold toP
    rw [List.length_map]
    by_cases h1 : i + 1 < (s ++ l).length
    · rw [if_pos h1, all_lat h1]
    · rw [if_neg h1, getD_nat h0]
      have e : i + 1 = s.length + l.length := by rw [List.length_append] at h h1; omega
      rw [e]
      unfold lat
      rw [if_neg (by omega), Nat.add_sub_cancel_left, Nat.mod_self]
  rw [e2, all_lat h]
  rfl
theorem edges_all {nx : List (List Int)} {s l : List Nat} (h0 : 0 < l.length) : (List.range ((s ++ l).map Int.ofNat).length).all (stepB nx ((s ++ l).map Int.ofNat) (l.map Int.ofNat)) = true ↔ ∀ i, edgeB nx s l i = true := by
  rw [List.all_eq_true, List.length_map]
  constructor
  · intro h i
    have hlt := Nat.mod_lt (i - s.length) h0
    have key : ∀ j, j < (s ++ l).length → edgeB nx s l j = true := fun j hj => by rw [← stepB_lat h0 hj]; exact h j (List.mem_range.2 hj)
    rw [List.length_append] at key
    by_cases h1 : i < s.length
    · exact key i (by omega)
    · have hj := key (s.length + (i - s.length) % l.length) (by omega)
      have one : ∀ k, s.length ≤ k → lat s l k = l.getD ((k - s.length) % l.length) 0 := fun k hk => by unfold lat; rw [if_neg (by omega)]
      unfold edgeB at hj ⊢
      rw [one _ (by omega), one _ (by omega)] at hj ⊢
      have e1 : (s.length + (i - s.length) % l.length - s.length) % l.length = (i - s.length) % l.length := by rw [Nat.add_sub_cancel_left, Nat.mod_mod]
      have e2 : (s.length + (i - s.length) % l.length + 1 - s.length) % l.length = (i + 1 - s.length) % l.length := by
        have : s.length + (i - s.length) % l.length + 1 - s.length = (i - s.length) % l.length + 1 := by omega
        rw [this]
        have : i + 1 - s.length = (i - s.length) + 1 := by omega
        rw [this, Nat.mod_add_mod]
      rw [e1, e2] at hj
      exact hj
  · intro h i hi
    rw [stepB_lat h0 (List.mem_range.1 hi)]
    exact h i
theorem toNat_app (s l : List Int) : (s ++ l).map Int.toNat = s.map Int.toNat ++ l.map Int.toNat := List.map_append
/-- a path unrolled goes the same way -/
theorem good_unroll {st : List Int} {nx fr : List (List Int)} {s l : List Int} (hs : okL nx.length s) (hl : okL nx.length l) (h0 : 0 < l.length) {n : Nat} (hn : n ≤ l.length) :
    goodB st nx fr ((s ++ l.take n) ++ (l.drop n ++ l.take n)) (l.drop n ++ l.take n) = goodB st nx fr (s ++ l) l := by
  have es := int_nat hs
  have el := int_nat hl
  generalize s.map Int.toNat = a at es
  generalize l.map Int.toNat = b at el
  subst es el
  rw [List.length_map] at h0 hn
  have h0' : 0 < (b.drop n ++ b.take n).length := by rw [List.length_append, List.length_drop, List.length_take]; omega
  rw [← List.map_take, ← List.map_drop, ← List.map_append, ← List.map_append, ← List.map_append, ← List.map_append]
  have e1 : (((a ++ b.take n) ++ (b.drop n ++ b.take n)).map Int.ofNat).getD 0 0 = ((a ++ b).map Int.ofNat).getD 0 0 := by
    rw [all_lat (by rw [List.length_append]; omega), all_lat (by rw [List.length_append]; omega), lat_unroll h0 hn]
  have e2 : (List.range (((a ++ b.take n) ++ (b.drop n ++ b.take n)).map Int.ofNat).length).all (stepB nx (((a ++ b.take n) ++ (b.drop n ++ b.take n)).map Int.ofNat) ((b.drop n ++ b.take n).map Int.ofNat))
      = (List.range ((a ++ b).map Int.ofNat).length).all (stepB nx ((a ++ b).map Int.ofNat) (b.map Int.ofNat)) := by
    rw [Bool.eq_iff_iff, edges_all h0', edges_all h0]
    have e : ∀ i, edgeB nx (a ++ b.take n) (b.drop n ++ b.take n) i = edgeB nx a b i := fun i => by unfold edgeB; rw [lat_unroll h0 hn, lat_unroll h0 hn]
    constructor
    · intro h i; rw [← e]; exact h i
    · intro h i; rw [e]; exact h i
  have e3 : ∀ x, ((b.drop n ++ b.take n).map Int.ofNat).contains x = (b.map Int.ofNat).contains x := fun x => by
    conv => rhs; rw [← List.take_append_drop n b]
    rw [Bool.eq_iff_iff, List.contains_iff_mem, List.contains_iff_mem, List.map_append, List.map_append, List.mem_append, List.mem_append]
    exact Or.comm
  unfold goodB
  rw [e1, e2]
  simp only [e3]
theorem okL_unroll {n k : Nat} {s l : List Int} (hs : okL k s) (hl : okL k l) : okL k (s ++ l.take n) ∧ okL k (l.drop n ++ l.take n) := by
  have ht : okL k (l.take n) := fun x hx => hl x (List.mem_of_mem_take hx)
  have hd : okL k (l.drop n) := fun x hx => hl x (List.mem_of_mem_drop hx)
  constructor
  · intro x hx
    rcases List.mem_append.1 hx with h | h
    · exact hs x h
    · exact ht x h
  · intro x hx
    rcases List.mem_append.1 hx with h | h
    · exact hd x h
    · exact ht x h
theorem goodF_unroll {st : List Int} {nx : List (List Int)} {k : Nat} {fr : List (List Int)} {s l : List Int} (h0 : 0 < l.length) (h60 : s.length + l.length ≤ 60) {n : Nat} (hn : n ≤ l.length) :
    goodF st nx k fr (s ++ l.take n) (l.drop n ++ l.take n) = goodF st nx k fr s l := by
  have e1 : (s ++ l.take n).length = s.length + n := by rw [List.length_append, List.length_take]; omega
  have e2 : (l.drop n ++ l.take n).length = l.length := by rw [List.length_append, List.length_drop, List.length_take]; omega
  unfold goodF
  by_cases hc : chkWd st nx k fr ≠ 0
  · rw [if_pos hc, if_pos hc]
  rw [if_neg hc, if_neg hc, e1, e2, if_neg (show ¬ (s.length + n > 60000 ∨ l.length > 60000 - (s.length + n)) by omega), if_neg (show ¬ (s.length > 60000 ∨ l.length > 60000 - s.length) by omega)]
  have eo : ∀ m : Nat, (oddB m (s ++ l.take n) = true ∨ oddB m (l.drop n ++ l.take n) = true) ↔ (oddB m s = true ∨ oddB m l = true) := by
    intro m
    have h1 : (oddB m s = false ∧ oddB m l = false) → (oddB m (s ++ l.take n) = false ∧ oddB m (l.drop n ++ l.take n) = false) := by
      rw [oddB_false, oddB_false, oddB_false, oddB_false]
      rintro ⟨a, b⟩; exact okL_unroll a b
    have h2 : (oddB m (s ++ l.take n) = false ∧ oddB m (l.drop n ++ l.take n) = false) → (oddB m s = false ∧ oddB m l = false) := by
      rw [oddB_false, oddB_false, oddB_false, oddB_false]
      rintro ⟨a, b⟩
      refine ⟨fun x hx => a x (List.mem_append_left _ hx), fun x hx => b x ?_⟩
      rw [← List.take_append_drop n l] at hx
      rcases List.mem_append.1 hx with h | h
      · exact List.mem_append_right _ h
      · exact List.mem_append_left _ h
    revert h1 h2
    cases oddB m s <;> cases oddB m l <;> cases oddB m (s ++ l.take n) <;> cases oddB m (l.drop n ++ l.take n) <;> simp
  by_cases h : l.length = 0 ∨ oddB nx.length s = true ∨ oddB nx.length l = true
  · rw [if_pos h, if_pos (h.imp id (eo _).2)]
  · rw [if_neg h, if_neg (fun h' => h (h'.imp id (eo _).1))]
    have hs : okL nx.length s := oddB_false.1 (by cases e : oddB nx.length s; rfl; exact absurd (.inr (.inl e)) h)
    have hl : okL nx.length l := oddB_false.1 (by cases e : oddB nx.length l; rfl; exact absurd (.inr (.inr e)) h)
    rw [good_unroll hs hl h0 hn]

/- words of paths -/
def labL (lb : List Nat) (l : List Int) : List Nat := l.map fun x => lb.getD x.toNat 0
def wordF (st : List Int) (nx : List (List Int)) (lb : List Nat) (fr : List (List Int)) (s l : List Int) : (List Nat × List Nat) × Int :=
  if chkWd st nx lb.length fr ≠ 0 then (([], []), chkWd st nx lb.length fr) else if l.length = 0 ∨ oddB nx.length s = true ∨ oddB nx.length l = true then (([], []), 1)
  else if chkW (labL lb s) (labL lb l) ≠ 0 then (([], []), chkW (labL lb s) (labL lb l)) else ((labL lb s, labL lb l), 0)
theorem wordF_ok {st : List Int} {nx : List (List Int)} {lb : List Nat} {fr : List (List Int)} {s l : List Int} (h : (wordF st nx lb fr s l).2 = 0) :
    (wordF st nx lb fr s l).1 = (labL lb s, labL lb l) ∧ chkW (labL lb s) (labL lb l) = 0 := by
  unfold wordF at h ⊢
  split at h
  · exact absurd h (by assumption)
  split at h
  · cases h
  split at h
  · exact absurd h (by assumption)
  rename_i h1 h2 h3
  rw [if_neg h1, if_neg h2, if_neg h3]
  exact ⟨rfl, by simpa using h3⟩
theorem labL_unroll {lb : List Nat} {s l : List Int} (n : Nat) : labL lb (s ++ l.take n) = labL lb s ++ (labL lb l).take n ∧ labL lb (l.drop n ++ l.take n) = (labL lb l).drop n ++ (labL lb l).take n := by
  unfold labL
  rw [List.map_append, List.map_append, List.map_take, List.map_drop]
  exact ⟨rfl, rfl⟩
end Go.Proofs.Ytadbkppgaekmpaa
