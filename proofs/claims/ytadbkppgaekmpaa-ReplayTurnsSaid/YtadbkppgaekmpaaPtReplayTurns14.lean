import Derived.Test.YtadbkppgaekmpaaPtReplayTurns13
/-
  Lists of lists that grow: the outer row is owned, the inner ones stay as they are. Over any program.
-/
set_option linter.unusedVariables false
set_option linter.unusedSimpArgs false
namespace Go.Proofs.Ytadbkppgaekmpaa
open Go.RowKit

/-- what nobody changes: all but the blocks of M -/
def Fz (w : World) (M : Nat → Prop) : Nat → Prop := fun b => b < w.heap.size ∧ ¬ M b
section
variable {α : Type} [Rep α]
theorem Fz.keep {w w' : World} {M M' : Nat → Prop} (hC : Chg M w w') (hM : ∀ b, M' b → M b ∨ w.heap.size ≤ b) : (∀ b, Fz w M b → w'.heap[b]? = w.heap[b]?) ∧ ∀ b, Fz w M b → Fz w' M' b :=
  ⟨fun b hb => hC.block b hb.1 hb.2, fun b hb => ⟨Nat.lt_of_lt_of_le hb.1 hC.size, fun h => (hM b h).elim hb.2 (fun h => absurd hb.1 (by omega))⟩⟩
theorem Rd.fz {w w' : World} {M M' : Nat → Prop} {v : Value} {x : α} (h : Rd w (Fz w M) v x) (hC : Chg M w w') (hM : ∀ b, M' b → M b ∨ w.heap.size ≤ b) : Rd w' (Fz w' M') v x := h.mono (Fz.keep hC hM).1 (Fz.keep hC hM).2
theorem Sl.fz {w w' : World} {M M' : Nat → Prop} {ao : Option Addr} {cap : Nat} {xs : List α} (h : Sl w (Fz w M) ao cap xs) (hC : Chg M w w') (hM : ∀ b, M' b → M b ∨ w.heap.size ≤ b) : Sl w' (Fz w' M') ao cap xs := h.mono (Fz.keep hC hM).1 (Fz.keep hC hM).2
theorem Rd.old' {w : World} {M : Nat → Prop} {v : Value} {x : α} (h : Rd w (Fz w M) v x) : Rd w (Old w) v x := h.mono (fun _ _ => rfl) fun _ h => h.1
theorem Sl.old' {w : World} {M : Nat → Prop} {ao : Option Addr} {cap : Nat} {xs : List α} (h : Sl w (Fz w M) ao cap xs) : Sl w (Old w) ao cap xs := h.mono (fun _ _ => rfl) fun _ h => h.1
theorem Sl.toFz {w : World} {F M : Nat → Prop} {ao : Option Addr} {cap : Nat} {xs : List α} (h : Sl w F ao cap xs) (hF : ∀ b, F b → b < w.heap.size ∧ ¬ M b) : Sl w (Fz w M) ao cap xs := h.mono (fun _ _ => rfl) hF
theorem Chg.of_ext {w w' : World} (M : Nat → Prop) (h : Ext w w') : Chg M w w' := ⟨h.os, h.tape, h.output, h.size, fun k hk _ => h.block k hk⟩
theorem Chg.trans {M : Nat → Prop} {a b c : World} (h : Chg M a b) (k : Chg M b c) : Chg M a c :=
  ⟨k.os.trans h.os, k.tape.trans h.tape, k.output.trans h.output, Nat.le_trans h.size k.size, fun i hi hn => (k.block i (Nat.lt_of_lt_of_le hi h.size) hn).trans (h.block i hi hn)⟩
/-- .. where the second changes new blocks too -/
theorem Chg.then {M M' : Nat → Prop} {a b c : World} (h : Chg M a b) (k : Chg M' b c) (hM : ∀ i, M' i → M i ∨ a.heap.size ≤ i) : Chg M a c :=
  ⟨k.os.trans h.os, k.tape.trans h.tape, k.output.trans h.output, Nat.le_trans h.size k.size, fun i hi hn => (k.block i (Nat.lt_of_lt_of_le hi h.size) (fun hm => (hM i hm).elim hn (by omega))).trans (h.block i hi hn)⟩
theorem Chg.wk {M M' : Nat → Prop} {a b : World} (h : Chg M a b) (hM : ∀ i, M i → M' i) : Chg M' a b := ⟨h.os, h.tape, h.output, h.size, fun i hi hn => h.block i hi (fun hm => hn (hM i hm))⟩
theorem Chg.of_grown {w w' : World} {row : Option Nat} (hg : w.grownBy w' row) : Chg (fun b => row = some b) w w' := (Chg.refl _ w).grown hg fun g h => h
/-- inner rows, read -/
structure InnR (w : World) (M : Nat → Prop) (vs : List Raw) (xs : List (List α)) : Prop where
  len : vs.length = xs.length
  el : ∀ i (h : i < vs.length) (h' : i < xs.length), Rd w (Fz w M) vs[i].v xs[i]
theorem InnR.nil {w : World} {M : Nat → Prop} : InnR w M [] ([] : List (List α)) := ⟨rfl, fun i h => absurd h (by simp)⟩
theorem InnR.to {w w' : World} {M M' : Nat → Prop} {vs : List Raw} {xs : List (List α)} (h : InnR w M vs xs) (hC : Chg M w w') (hM : ∀ b, M' b → M b ∨ w.heap.size ≤ b) : InnR w' M' vs xs := ⟨h.len, fun i h1 h2 => (h.el i h1 h2).fz hC hM⟩
theorem InnR.push {w : World} {M : Nat → Prop} {vs : List Raw} {xs : List (List α)} {v : Value} {x : List α} (h : InnR w M vs xs) (hv : Rd w (Fz w M) v x) : InnR w M (vs ++ [(⟨v⟩ : Raw)]) (xs ++ [x]) := by
  refine ⟨by simp [h.len], fun i h1 h2 => ?_⟩
  rcases Nat.lt_or_ge i vs.length with hi | hi
  · rw [List.getElem_append_left hi, List.getElem_append_left (by rw [← h.len]; exact hi)]
    exact h.el i hi _
  · have hl := h.len
    obtain rfl : i = vs.length := by simp at h1; omega
    rw [List.getElem_append_right (Nat.le_refl _), List.getElem_append_right (by omega)]
    simp only [hl, Nat.sub_self, List.getElem_cons_zero]
    exact hv
/-- the whole, read -/
theorem InnR.sl {w : World} {M F : Nat → Prop} {B : Nat} {e : TypeId} {v : Value} {vs : List Raw} {xs : List (List α)} (h : InnR w M vs xs) (ho : Own w B e Non v vs) (hF : ∀ b, Fz w M b → F b) (hv : ∀ g, v.ownBlock = some g → F g) : ∃ ao cap, v = .slice ao xs.length cap ∧ Sl w F ao cap xs := by
  obtain ⟨ao, cap, e, hs⟩ := ho.slF (F' := F) (fun _ h => h.elim) hv
  refine ⟨ao, cap, by rw [← h.len]; exact e, ⟨by rw [← h.len]; exact hs.le, hs.mx, hs.nil, fun i hi => ?_⟩⟩
  have hi' : i < vs.length := by rw [h.len]; exact hi
  obtain ⟨b, off, e1, hF1, es, hc, hr⟩ := hs.el i hi'
  obtain ⟨rfl, h1⟩ := hr
  obtain ⟨io, ic, e2, hs2⟩ := (h.el i hi' hi).sl
  exact ⟨b, off, e1, hF1, [vs[i].v], hc, io, ic, by rw [e2], hs2.mono (fun _ _ => rfl) hF⟩
theorem InnR.old {w : World} {M : Nat → Prop} {B : Nat} {e : TypeId} {v : Value} {vs : List Raw} {xs : List (List α)} (h : InnR w M vs xs) (ho : Own w B e Non v vs) : ∃ ao cap, v = .slice ao xs.length cap ∧ Sl w (Old w) ao cap xs :=
  h.sl ho (fun _ h => h.1) (fun g hg => (ho.lt g hg).2.1)
end
end Go.Proofs.Ytadbkppgaekmpaa
/-
  Package runs: all, next, label, fair: walked.
-/
set_option linter.unusedVariables false
set_option linter.unusedSimpArgs false
namespace Go.Proofs.Ytadbkppgaekmpaa
open Go.RowKit

theorem Cells.hd' {w : World} {b o : Nat} {x : Value} {r : List Value} (h : Cells w b o (x :: r)) : Cells w b o [x] := fun j u hu => by
  match j, hu with
  | 0, hu => exact h 0 u (by simpa using hu)
theorem Sl.edge0 {w : World} {F : Nat → Prop} {ao : Option Addr} {cap : Nat} {xs : List LEdge} (h : Sl w F ao cap xs) {i : Nat} (hi : i < xs.length) : ∃ b off, ao = some ⟨b, off, none⟩ ∧ F b ∧ Cells w b (off + i * 2) [.int .i64 xs[i].1] ∧ Cells w b (off + i * 2 + 1) [.int .i64 xs[i].2] := by
  obtain ⟨b, off, e, hb, es, hc, hr⟩ := h.el i hi
  obtain ⟨c1, c2, rfl, h1, h2⟩ := rd_pr hr
  rw [rd_int h1, rd_int h2] at hc
  exact ⟨b, off, e, hb, hc.hd', hc.tl'⟩
theorem Sl.step0 {w : World} {F : Nat → Prop} {ao : Option Addr} {cap : Nat} {xs : List LStep} (h : Sl w F ao cap xs) {i : Nat} (hi : i < xs.length) : ∃ b off, ao = some ⟨b, off, none⟩ ∧ F b ∧ Cells w b (off + i * 3) [.int .i64 xs[i].1] := by
  obtain ⟨b, off, e, hb, es, hc, hr⟩ := h.el i hi
  obtain ⟨c1, c2, rfl, h1, h2⟩ := rd_pr hr
  rw [rd_int h1] at hc
  exact ⟨b, off, e, hb, hc.hd'⟩
theorem rd_edgeR {w : World} {F : Nat → Prop} {v : Value} {x : LEdge} (h : Rd w F v x) : v = .agg [.int .i64 x.1, .int .i64 x.2].toArray := by
  obtain ⟨c1, c2, rfl, h1, h2⟩ := h.pr
  rw [rd_int h1, rd_int h2]; rfl
theorem getEd {l : List LEdge} {j : Nat} (h : j < l.length) : l.getD j (0, 0) = l[j] := by rw [List.getD_eq_getElem?_getD, List.getElem?_eq_getElem h]; rfl
theorem getRow {l : List (List LEdge)} {j : Nat} (h : j < l.length) : l.getD j [] = l[j] := by rw [List.getD_eq_getElem?_getD, List.getElem?_eq_getElem h]; rfl
theorem getSt {l : List LStep} {j : Nat} (h : j < l.length) : l.getD j (0, 0, 0) = l[j] := by rw [List.getD_eq_getElem?_getD, List.getElem?_eq_getElem h]; rfl
theorem shl1U {s : Nat} (hs : s < 62) : IntKind.u64.wrap (1 * 2 ^ min ((s : Int)).toNat IntKind.u64.bits) = ((2 ^ s : Nat) : Int) := by
  have h1 : min ((s : Int)).toNat IntKind.u64.bits = s := by
    rw [Int.toNat_natCast]
    exact Nat.min_eq_left (by show s ≤ 64; omega)
  rw [h1, Int.one_mul]
  have h2 : (2 : Nat) ^ s < 2 ^ 62 := Nat.pow_lt_pow_right (by decide) hs
  have h3 : ((2 : Int)) ^ s = ((2 ^ s : Nat) : Int) := by push_cast; rfl
  rw [h3]
  generalize (2 : Nat) ^ s = q at *
  simp [IntKind.wrap, IntKind.bits, IntKind.signed] <;> omega
/-- the maker of a world, all states made -/
def RunAt (w : World) (sb : Nat) (sl : List LStep) (nx : List (List LEdge)) : Prop :=
  ∃ (lo : Option Addr) (lc : Nat) (mv : Value) (no : Option Addr) (nc : Nat) (oo : Option Addr) (oc : Nat) (ao : Option Addr) (ac : Nat) (yo : Option Addr) (yc : Nat) (x1 x2 x3 x4 : Value),
    Blk w sb 170 [.slice lo sl.length lc, mv, .slice no nx.length nc, .slice oo (atV nx nx.length) oc, .slice ao nx.length ac, .slice yo nx.length yc, x1, x2, x3, x4] ∧
    Sl w (Old w) lo lc sl ∧ Sl w (Old w) no nc nx ∧ Sl w (Old w) oo oc (ofP nx nx.length) ∧ Sl w (Old w) ao ac (atL nx nx.length) ∧ Sl w (Old w) yo yc (manyL nx nx.length)
theorem RunAt.up {w w' : World} {sb : Nat} {sl : List LStep} {nx : List (List LEdge)} (h : RunAt w sb sl nx) (hE : Ext w w') : RunAt w' sb sl nx := by
  obtain ⟨lo, lc, mv, no, nc, oo, oc, ao, ac, yo, yc, x1, x2, x3, x4, hb, h1, h2, h3, h4, h5⟩ := h
  exact ⟨lo, lc, mv, no, nc, oo, oc, ao, ac, yo, yc, x1, x2, x3, x4, hb.ext hE, h1.up hE, h2.up hE, h3.up hE, h4.up hE, h5.up hE⟩
theorem atL_len {nx : List (List LEdge)} {k : Nat} : (atL nx k).length = k := by simp [atL]
theorem manyL_len {nx : List (List LEdge)} {k : Nat} : (manyL nx k).length = k := by simp [manyL]
theorem atL_get {nx : List (List LEdge)} {k m : Nat} (h : m < (atL nx k).length) : (atL nx k)[m] = ((atV nx m : Nat) : Int) := by simp [atL]
theorem manyL_get {nx : List (List LEdge)} {k m : Nat} (h : m < (manyL nx k).length) : (manyL nx k)[m] = ((mny nx m : Nat) : Int) := by simp [manyL]
theorem atV_le {nx : List (List LEdge)} (h : ∀ j, (nx.getD j []).length ≤ 60) : ∀ n, atV nx n ≤ 60 * n
  | 0 => by rw [atV_zero]; omega
  | n + 1 => by
    rw [atV_next]
    have := atV_le h n
    have := h n
    unfold mny; omega
theorem ofX_ok {sl : List LStep} {nx : List (List LEdge)} (hN : NxOk sl nx) {j : Nat} (hj : j < atV nx nx.length) :
    ∃ n i, n < nx.length ∧ i < mny nx n ∧ j = atV nx n + i ∧ (ofX nx j).2 = (n : Int) ∧ ((ofX nx j).1 = -1 ∧ nx.getD n [] = [] ∨ 0 ≤ (ofX nx j).1 ∧ (ofX nx j).1 < sl.length ∧ i < (nx.getD n []).length ∧ ofX nx j = (((nx.getD n []).getD i (0, 0)).1, (n : Int))) := by
  obtain ⟨n, i, hn, hi, rfl⟩ := of_inv hj
  refine ⟨n, i, hn, hi, rfl, ?_⟩
  rw [ofX_at hn hi]
  by_cases h : nx.getD n [] = []
  · rw [if_pos h]; exact ⟨rfl, .inl ⟨rfl, h⟩⟩
  · rw [if_neg h]
    have h0 : 0 < (nx.getD n []).length := List.length_pos_iff.2 h
    have hi' : i < (nx.getD n []).length := by unfold mny at hi; omega
    have := hN.ed n hn _ (List.getElem_mem hi')
    rw [← getEd hi'] at this
    exact ⟨rfl, .inr ⟨this.1, this.2.1, hi', rfl⟩⟩
theorem all_ok (w0 : World) {sb m : Nat} {sl : List LStep} {nx : List (List LEdge)} (hR : RunAt w0 sb sl nx) (hN : NxOk sl nx) (hm : m < nx.length) :
    Rt Try.prog 97 [.pointer (some ⟨sb, 0, none⟩), .int .i64 (m : Int)].toArray w0 fun v w' => Own w' w0.heap.size 3 Non v (allL nx m) ∧ Ext w0 w' := by
  obtain ⟨lo, lc, mv, no, nc, oo, oc, ao, ac, yo, yc, x1, x2, x3, x4, hb, h1, h2, h3, h4, h5⟩ := hR
  have hat := atV_le hN.row m
  have hmn : mny nx m ≤ 60 := by have := hN.row m; unfold mny; omega
  have hn200 := hN.n
  have hlA : nx.length = (atL nx nx.length).length := atL_len.symm
  have hlY : nx.length = (manyL nx nx.length).length := manyL_len.symm
  refine Rt.enter2 Try.func97 Try.ntmps97 rfl rfl ?_
  (repeat (first | (apply WL.pure; rfl; rfl; rfl) | (apply WL.nil) | (apply EX.thenN) | (apply CW.seq) | (apply CW.region) | (apply WL.fa; rfl; rfl; rfl) | (apply WL.nck; rfl; rfl; rfl) | (apply WL.ld; rfl; rfl; rfl; assumption; rfl)))
  rw [show Value.slice yo nx.length yc = .slice yo (manyL nx nx.length).length yc by rw [← hlY]]
  refine WL.elemI (i := m) rfl rfl rfl rfl rfl h5 (by omega) (manyL_get _) (fun _ => rfl) (fun q => ?_)
  (repeat (first | (apply WL.pure; rfl; rfl; rfl) | (apply WL.nil) | (apply EX.thenN) | (apply CW.block)))
  refine CW.loop (S := Nat × Value) (fun s => [(0, .pointer (some ⟨sb, 0, none⟩)), (1, .int .i64 m), (5, s.2), (13, .int .i64 ((mny nx m : Nat) : Int)), (14, .int .i64 s.1)])
    (fun s w => s.1 ≤ mny nx m ∧ Own w w0.heap.size 3 Non s.2 ((List.range s.1).map fun i : Nat => ((atV nx m + i : Nat) : Int)) ∧ Ext w0 w) (fun s => mny nx m - s.1) (0, .slice none 0 0) (by repeat (first | exact trivial | refine ⟨rfl, ?_⟩)) ⟨Nat.zero_le _, Own.nil, Ext.refl _⟩ ?_
  rintro ⟨i, ov⟩ w1 ⟨hi, ho, e1⟩
  dsimp only at hi ho e1 ⊢
  have hb := hb.ext e1
  (repeat (first | (apply WL.pure; rfl; rfl; rfl) | (apply WL.nil) | (apply EX.thenN) | (apply CW.seq) | (apply CW.region)))
  refine CW.cond rfl (fun h => ?_) (fun h => ?_)
  · have hi' : i < mny nx m := by simp only [decide_eq_true_eq] at h; omega
    clear h
    (repeat (first | (apply WL.pure; rfl; rfl; rfl) | (apply WL.nil) | (apply EX.thenN) | (apply CW.seq) | (apply CW.region) | (apply WL.fa; rfl; rfl; rfl) | (apply WL.nck; rfl; rfl; rfl) | (apply WL.ld; rfl; rfl; rfl; assumption; rfl) | (apply CW.block) | (apply CW.skip)))
    rw [show Value.slice ao nx.length ac = .slice ao (atL nx nx.length).length ac by rw [← hlA]]
    refine WL.elemI (i := m) rfl rfl rfl rfl rfl (h4.up e1) (by omega) (atL_get _) (fun _ => rfl) (fun q => ?_)
    (repeat (first | (apply WL.add; rfl; rfl; rfl; rfl; omega; omega) | (apply WL.pure; rfl; rfl; rfl)))
    refine WL.app1 (α := Int) (F := Non) (bytes := 8) (yv := ((atV nx m : Nat) : Int) + (i : Int)) rfl rfl (fun _ => rfl) rfl rfl (fun _ => rfl) ho (Rd.mkInt _ _ _) e1.size (fun _ h => h.elim) (by decide) (by unfold maxLen; simp; omega) (by simp; omega) (fun ov' w2 q ho2 hg2 hnb2 => ?_)
    have hnx : (List.range (i + 1)).map (fun i : Nat => ((atV nx m + i : Nat) : Int)) = (List.range i).map (fun i : Nat => ((atV nx m + i : Nat) : Int)) ++ [((atV nx m : Nat) : Int) + (i : Int)] := by
      rw [List.range_succ, List.map_append]; simp
    rw [← hnx] at ho2
    (repeat (first | (apply WL.add; rfl; rfl; rfl; rfl; omega; omega) | (apply WL.pure; rfl; rfl; rfl) | (apply WL.nil) | (apply EX.thenN) | (apply CW.region) | (apply EX.inN)))
    exact EX.back (i + 1, ov') (by repeat (first | exact trivial | refine ⟨rfl, ?_⟩)) ⟨hi', ho2, Below.grown e1 hg2 e1.size (fun g hg => (ho.lt g hg).1)⟩ (by dsimp only; omega)
  have hie : i = mny nx m := by simp only [decide_eq_false_iff_not] at h; omega
  subst hie
  (repeat (first | (apply WL.pure; rfl; rfl; rfl) | (apply WL.nil) | (apply EX.thenN) | (apply CW.seq) | (apply CW.region) | (apply CW.exit) | (apply EX.thenX) | (apply EX.inX) | (apply CW.ret)))
  exact EX.ret1 rfl rfl ⟨ho, e1⟩
theorem rnext_ok (w0 : World) {sb j : Nat} {sl : List LStep} {nx : List (List LEdge)} (hR : RunAt w0 sb sl nx) (hN : NxOk sl nx) (hj : j < atV nx nx.length) :
    Rt Try.prog 95 [.pointer (some ⟨sb, 0, none⟩), .int .i64 (j : Int)].toArray w0 fun v w' => Own w' w0.heap.size 3 Non v (nextJ nx j) ∧ Ext w0 w' := by
  have hR0 := hR
  obtain ⟨lo, lc, mv, no, nc, oo, oc, ao, ac, yo, yc, x1, x2, x3, x4, hb, h1, h2, h3, h4, h5⟩ := hR
  obtain ⟨n, i, hn, hi, hji, hx2, hx⟩ := ofX_ok hN hj
  have hat := atV_le hN.row n
  have hn200 := hN.n
  have hlA : nx.length = (atL nx nx.length).length := atL_len.symm
  have hol : atV nx nx.length = (ofP nx nx.length).length := rfl
  have hgx : (ofP nx nx.length)[j]'hj = ofX nx j := (getEd hj).symm
  unfold nextJ
  refine Rt.enter2 Try.func95 Try.ntmps95 rfl rfl ?_
  (repeat (first | (apply WL.pure; rfl; rfl; rfl) | (apply WL.nil) | (apply EX.thenN) | (apply CW.seq) | (apply CW.region) | (apply WL.fa; rfl; rfl; rfl) | (apply WL.nck; rfl; rfl; rfl) | (apply WL.ld; rfl; rfl; rfl; assumption; rfl)))
  rw [hol]
  refine WL.elemN (i := j) rfl rfl rfl rfl rfl h3 hj (fun _ => rfl) (fun u q hu => ?_)
  rw [hgx] at hu
  rw [rd_edgeR hu]
  clear hu
  skip
  refine WL.alloc rfl rfl (fun w1 hb5 e1 => ?_)
  skip
  refine WL.st rfl rfl rfl hb5 rfl rfl (ones_of rfl) (fun w2 hb5 hg2 => ?_)
  have e2 : Ext w0 w2 := Below.grown e1 hg2 e1.size (fun g hg => by cases hg; exact Nat.le_refl _)
  have hb := hb.ext e2
  have hR := hR0.up e2
  clear e1 hg2
  (repeat (first | (apply WL.pure; rfl; rfl; rfl) | (apply WL.nil) | (apply EX.thenN) | (apply CW.seq) | (apply CW.region) | (apply WL.fa; rfl; rfl; rfl) | (apply WL.ld; rfl; rfl; rfl; assumption; rfl)))
  by_cases hneg : (ofX nx j).1 < 0
  · rw [decide_eq_true hneg, if_pos hneg]
    (repeat (first | (apply WL.pure; rfl; rfl; rfl) | (apply CW.seq) | (apply CW.region) | (apply CW.condT; rfl)))
    refine WL.lit (F := Non) (ys := [(j : Int)]) rfl rfl rfl rfl rfl (.cons (Rd.mkInt _ _ _) .nil) (by show 1 * 1 ≤ 16777216; decide) (fun _ h => h.elim) (fun w3 ho hgr => ?_)
    have e3 : Ext w2 w3 := (Below.refl _ _).grown hgr (Nat.le_refl _) (fun k h => by cases h)
    (repeat (first | (apply WL.pure; rfl; rfl; rfl) | (apply WL.nil) | (apply EX.thenN) | (apply CW.ret) | (apply EX.thenR)))
    exact EX.ret1 rfl rfl ⟨ho.low e2.size, e2.trans e3⟩
  rw [decide_eq_false hneg, if_neg hneg]
  rcases hx with ⟨hx, _⟩ | ⟨_, _, hir, hxe⟩
  · omega
  have hed := hN.ed n hn _ (List.getElem_mem hir)
  rw [← getEd hir] at hed
  have hto : toE nx j = (nx.getD n []).getD i (0, 0) := by
    unfold toE
    rw [hx2, Int.toNat_natCast, show j - atV nx n = i by omega]
  rw [hto]
  obtain ⟨t, ht⟩ : ∃ t : Nat, ((nx.getD n []).getD i (0, 0)).2 = (t : Int) := ⟨((nx.getD n []).getD i (0, 0)).2.toNat, by omega⟩
  rw [ht, Int.toNat_natCast]
  rw [hx2] at hb5
  have hSE : ∀ z, (fun z : World => Ext w2 z) z → Ext w2 z := fun _ h => h
  (repeat (first | (apply EX.thenN) | (apply CW.seq) | (apply CW.condF; rfl) | (apply CW.skip)))
  refine CW.drawH (fun z : World => Ext w2 z) [(0, true), (1, true), (2, true), (3, true), (4, true), (5, true), (6, true), (7, true), (8, true), (9, true), (10, true), (11, true), (12, true), (13, true), (14, true), (15, true), (16, true), (17, true), (18, true), (19, true), (20, true), (21, true), (22, true), (23, false), (24, true)] mixed (by kernel_rfl) (Ext.drew w2) ?_
  (repeat (first | (apply HL.pure; rfl; rfl; rfl; rfl) | (refine HL.fa rfl rfl rfl rfl ?_) | (apply HL.nck; rfl; rfl; rfl; rfl) | (refine HL.ld (by assumption) rfl rfl rfl rfl (by assumption) rfl ?_)))
  refine HL.elemN (k := n) hSE rfl rfl rfl rfl rfl rfl rfl (fun _ h => h) (h2.up e2) hn (fun _ => rfl) (fun u q hu => ?_)
  rw [← getRow hn] at hu
  obtain ⟨ro, rc, rfl, hr⟩ := hu.sl
  (repeat (first | (apply HL.pure; rfl; rfl; rfl; rfl) | (refine HL.fa rfl rfl rfl rfl ?_) | (apply HL.nck; rfl; rfl; rfl; rfl) | (refine HL.ld (by assumption) rfl rfl rfl rfl (by assumption) rfl ?_)))
  rw [show Value.slice ao nx.length ac = .slice ao (atL nx nx.length).length ac by rw [← hlA]]
  refine HL.elemN (k := n) hSE rfl rfl rfl rfl rfl rfl rfl (fun _ h => h) (h4.up e2) (by omega) (fun _ => rfl) (fun u q hu => ?_)
  rw [atL_get] at hu
  obtain rfl := hu.int
  have hji2 : (j : Int) - ((atV nx n : Nat) : Int) = (i : Int) := by omega
  have hat2 := atV_le hN.row nx.length
  (repeat (apply HL.sub'; rfl; rfl; rfl; rfl; rfl; omega; omega))
  rw [hji2]
  clear hu
  have ht' : (nx.getD n [])[i].2 = (t : Int) := by rw [← getEd hir]; exact ht
  have htl : t < nx.length := by omega
  obtain ⟨rb, rf, rfl, hrb, _, hc2⟩ := hr.edge0 hir
  rw [ht'] at hc2
  refine HL.idx (α := LEdge) rfl rfl rfl rfl rfl (by omega) (by omega) ?_
  (repeat (refine HL.fa rfl rfl rfl rfl ?_))
  refine HL.load (α := Int) (F := Non) (y := (t : Int)) hSE rfl rfl rfl rfl hrb (fun _ h => h.elim) (by rw [Int.toNat_natCast]; exact hc2) rfl ?_
  rw [show vOf Int [.int .i64 (t : Int)] = .int .i64 (t : Int) from rfl]
  have hD := Ext.drew w2
  refine HL.mut rfl (WL.call rfl rfl rfl (all_ok (drew w2) (hR.up hD) hN htl) ?_)
  rintro v w3 ⟨ho, e3⟩
  have e23 := hD.trans e3
  refine WL.nil (EX.mut e23 ?_)
  (repeat (first | (apply HL.pure; rfl; rfl; rfl; rfl) | (apply HL.nil)))
  (repeat (first | (apply EX.thenN) | (apply CW.ret)))
  exact EX.ret1 rfl rfl ⟨ho.low (by have := hD.size; have := e2.size; omega), e2.trans e23⟩
theorem label_ok (w0 : World) {sb j : Nat} {sl : List LStep} {nx : List (List LEdge)} (hR : RunAt w0 sb sl nx) (hN : NxOk sl nx) (hj : j < atV nx nx.length) :
    Rt Try.prog 96 [.pointer (some ⟨sb, 0, none⟩), .int .i64 (j : Int)].toArray w0 fun v w' => v = .int .u64 ((labelJ sl nx j : Nat) : Int) ∧ labelJ sl nx j < 18446744073709551616 ∧ Ext w0 w' := by
  obtain ⟨lo, lc, mv, no, nc, oo, oc, ao, ac, yo, yc, x1, x2, x3, x4, hb, h1, h2, h3, h4, h5⟩ := hR
  obtain ⟨n, i, hn, hi, hji, hx2, hx⟩ := ofX_ok hN hj
  have hgx : (ofP nx nx.length)[j]'hj = ofX nx j := (getEd hj).symm
  obtain ⟨ob, off, rfl, hob, hc1, hc2⟩ := h3.edge0 hj
  rw [hgx] at hc1 hc2
  unfold labelJ
  refine Rt.enter2 Try.func96 Try.ntmps96 rfl rfl ?_
  (repeat (first | (apply WL.pure; rfl; rfl; rfl) | (apply WL.nil) | (apply EX.thenN) | (apply CW.seq) | (apply CW.region) | (apply WL.fa; rfl; rfl; rfl) | (apply WL.nck; rfl; rfl; rfl) | (apply WL.ld; rfl; rfl; rfl; assumption; rfl)))
  refine WL.idx (α := LEdge) rfl rfl rfl rfl (by omega) (by omega) ?_
  (repeat (apply WL.fa; rfl; rfl; rfl))
  refine WL.load (α := Int) (F := Non) (y := (ofX nx j).1) rfl rfl rfl (by rw [Int.toNat_natCast]; exact hc1) rfl ?_
  rw [show vOf Int [.int .i64 (ofX nx j).1] = .int .i64 (ofX nx j).1 from rfl]
  (repeat (first | (apply WL.pure; rfl; rfl; rfl) | (apply WL.nil) | (apply EX.thenN)))
  by_cases hneg : (ofX nx j).1 < 0
  · rw [decide_eq_true hneg, if_pos hneg]
    (repeat (first | (apply WL.pure; rfl; rfl; rfl) | (apply WL.nil) | (apply EX.thenN) | (apply CW.seq) | (apply CW.region) | (apply CW.condT; rfl) | (apply CW.ret) | (apply EX.thenR)))
    exact EX.ret1 rfl rfl ⟨rfl, by decide, Ext.refl _⟩
  rw [decide_eq_false hneg, if_neg hneg]
  rcases hx with ⟨hx, _⟩ | ⟨g0, g1, hir, hxe⟩
  · omega
  obtain ⟨k, hk⟩ : ∃ k : Nat, (ofX nx j).1 = (k : Int) := ⟨(ofX nx j).1.toNat, by omega⟩
  rw [hk] at hc1 g1 ⊢
  rw [Int.toNat_natCast]
  have hkl : k < sl.length := by omega
  obtain ⟨lb, lf, rfl, hlb, hcl⟩ := h1.step0 hkl
  have hnd := hN.node _ (List.getElem_mem hkl)
  rw [getSt hkl]
  obtain ⟨s, hs⟩ : ∃ s : Nat, sl[k].1 = (s : Int) := ⟨(sl[k].1).toNat, by omega⟩
  rw [hs] at hcl ⊢
  rw [Int.toNat_natCast]
  (repeat (first | (apply QL.pure; rfl; rfl; rfl) | (apply EX.thenN) | (apply CW.seq) | (apply QL.fa; rfl; rfl; rfl) | (apply QL.nck; rfl; rfl; rfl) | (apply QL.ld; rfl; rfl; rfl; assumption; rfl) | (apply CW.condF; rfl) | (apply CW.skip) | (apply CW.draw; exact mixed; kernel_rfl)))
  refine QL.idx (α := LEdge) rfl rfl rfl rfl (by omega) (by omega) ?_
  (repeat (apply QL.fa; rfl; rfl; rfl))
  refine QL.load (α := Int) (F := Non) (y := (k : Int)) rfl rfl rfl hob (fun _ h => h.elim) (by rw [Int.toNat_natCast]; exact hc1) rfl ?_
  rw [show vOf Int [.int .i64 (k : Int)] = .int .i64 (k : Int) from rfl]
  skip
  refine QL.idx (α := LStep) rfl rfl rfl rfl (by omega) (by omega) ?_
  (repeat (apply QL.fa; rfl; rfl; rfl))
  refine QL.load (α := Int) (F := Non) (y := (s : Int)) rfl rfl rfl hlb (fun _ h => h.elim) (by rw [Int.toNat_natCast]; exact hcl) rfl ?_
  rw [show vOf Int [.int .i64 (s : Int)] = .int .i64 (s : Int) from rfl]
  (repeat (apply QL.pure; rfl; rfl; rfl))
  rw [shl1U (show s < 62 by omega)]
  refine QL.nil fun w1 e1 => ?_
  (repeat (first | (apply EX.thenN) | (apply CW.ret)))
  refine EX.ret1 rfl rfl ⟨rfl, ?_, e1⟩
  have h2 : (2 : Nat) ^ s < 2 ^ 64 := Nat.pow_lt_pow_right (by decide) (by omega)
  exact h2
theorem any_next {l : List LEdge} {p : LEdge → Bool} {i : Nat} (h : i < l.length) : (l.take (i + 1)).any p = ((l.take i).any p || p l[i]) := by
  rw [List.take_add_one, List.getElem?_eq_getElem h, List.any_append]; simp
set_option maxHeartbeats 1000000 in
theorem fair_ok (w0 : World) {sb k : Nat} {sl : List LStep} {nx : List (List LEdge)} (hR : RunAt w0 sb sl nx) (hN : NxOk sl nx) :
    Rt Try.prog 98 [.pointer (some ⟨sb, 0, none⟩), .int .i64 (k : Int)].toArray w0 fun v w' => Own w' w0.heap.size 3 Non v (fairK nx (k : Int)) ∧ Ext w0 w' := by
  obtain ⟨lo, lc, mv, no, nc, oo, oc, ao, ac, yo, yc, x1, x2, x3, x4, hb, h1, h2, h3, h4, h5⟩ := hR
  have hat := atV_le hN.row nx.length
  have hn200 := hN.n
  have hol : (ofP nx nx.length).length = atV nx nx.length := rfl
  refine Rt.enter2 Try.func98 Try.ntmps98 rfl rfl ?_
  (repeat (first | (apply WL.pure; rfl; rfl; rfl) | (apply WL.nil) | (apply EX.thenN) | (apply CW.seq) | (apply CW.region) | (apply WL.lenS; rfl; rfl; rfl) | (apply WL.fa; rfl; rfl; rfl) | (apply WL.nck; rfl; rfl; rfl) | (apply WL.ld; rfl; rfl; rfl; assumption; rfl) | (apply CW.block)))
  refine CW.loop (S := Nat × Value) (fun s => [(0, .pointer (some ⟨sb, 0, none⟩)), (1, .int .i64 k), (5, s.2), (14, .slice oo (ofP nx nx.length).length oc), (15, .int .i64 (atV nx nx.length : Nat)), (16, .int .i64 s.1)])
    (fun s w => s.1 ≤ atV nx nx.length ∧ Own w w0.heap.size 3 Non s.2 (fairN nx (k : Int) s.1) ∧ Ext w0 w) (fun s => atV nx nx.length - s.1) (0, .slice none 0 0) (by repeat (first | exact trivial | refine ⟨rfl, ?_⟩)) ⟨Nat.zero_le _, Own.nil, Ext.refl _⟩ ?_
  rintro ⟨j, ov⟩ w1 ⟨hj0, ho, e1⟩
  dsimp only at hj0 ho e1 ⊢
  (repeat (first | (apply WL.pure; rfl; rfl; rfl) | (apply WL.nil) | (apply EX.thenN) | (apply CW.seq) | (apply CW.region)))
  refine CW.cond rfl (fun h => ?_) (fun h => ?_)
  · have hj : j < atV nx nx.length := by simp only [decide_eq_true_eq] at h; omega
    clear h
    have hgx : (ofP nx nx.length)[j]'hj = ofX nx j := (getEd hj).symm
    obtain ⟨n, i, hn, hi, hji, hx2, hx⟩ := ofX_ok hN hj
    have hfl := fairN_len (nx := nx) (k := (k : Int)) (n := j)
    have hfn := fairN_next (nx := nx) (k := (k : Int)) (n := j)
    (repeat (first | (apply WL.pure; rfl; rfl; rfl) | (apply EX.thenN) | (apply CW.seq) | (apply CW.region) | (apply CW.block) | (apply CW.skip)))
    refine WL.elemN (i := j) rfl rfl rfl rfl rfl (h3.up e1) hj (fun _ => rfl) (fun u q hu => ?_)
    rw [hgx] at hu
    rw [rd_edgeR hu]
    clear hu
    skip
    refine WL.alloc rfl rfl (fun w2 hb7 e2 => ?_)
    (repeat (apply WL.pure; rfl; rfl; rfl))
    refine WL.st rfl rfl rfl hb7 rfl rfl (ones_of rfl) (fun w3 hb7 hg3 => ?_)
    have e3 : Ext w1 w3 := Below.grown e2 hg3 e2.size (fun g hg => by cases hg; exact Nat.le_refl _)
    have e03 := e1.trans e3
    have hb := hb.ext e03
    have ho3 := ho.extN e3
    clear e2 hg3
    rw [hx2] at hb7
    have hcan : canJ nx j (k : Int) = (nx.getD n []).any fun y => y.1 == (k : Int) := by unfold canJ; rw [hx2, Int.toNat_natCast]
    (repeat (first | (apply WL.pure; rfl; rfl; rfl) | (apply QL.pure; rfl; rfl; rfl) | (apply WL.nil) | (apply EX.thenN) | (apply CW.seq) | (apply CW.region) | (apply QL.fa; rfl; rfl; rfl) | (apply QL.nck; rfl; rfl; rfl) | (apply QL.ld; rfl; rfl; rfl; assumption; rfl) | (apply CW.draw; exact mixed; kernel_rfl)))
    refine QL.elemN (i := n) rfl rfl rfl rfl rfl (fun _ h => h) (h2.up e03) hn (fun _ => rfl) (fun u q hu => ?_)
    rw [← getRow hn] at hu
    obtain ⟨ro, rc, rfl, hr⟩ := hu.sl
    clear hu
    (repeat (first | (apply QL.pure; rfl; rfl; rfl) | (apply QL.lenS; rfl; rfl; rfl)))
    refine QL.nil fun w4 e4 => ?_
    have e14 := e3.trans e4
    have hr4 := hr.up e4
    have hb7 := hb7.ext e4
    have ho4 := ho3.extN e4
    have hrl := hN.row n
    generalize nx.getD n [] = row at *
    (repeat (first | (apply EX.thenN) | (apply CW.block)))
    refine CW.loop (S := Nat) (fun s => [(0, .pointer (some ⟨sb, 0, none⟩)), (1, .int .i64 k), (5, ov), (6, .int .i64 j), (7, .pointer (some ⟨w1.heap.size, 0, none⟩)), (8, .bool ((row.take s).any fun y => y.1 == (k : Int))), (14, .slice oo (ofP nx nx.length).length oc), (15, .int .i64 (atV nx nx.length : Nat)), (16, .int .i64 j), (29, .slice ro row.length rc), (30, .int .i64 row.length), (31, .int .i64 s)])
      (fun s w => s ≤ row.length ∧ Ext w4 w) (fun s => row.length - s) 0 (by repeat (first | exact trivial | refine ⟨rfl, ?_⟩)) ⟨Nat.zero_le _, Ext.refl _⟩ ?_
    rintro r w5 ⟨hr0, e5⟩
    (repeat (first | (apply WL.pure; rfl; rfl; rfl) | (apply WL.nil) | (apply EX.thenN) | (apply CW.seq) | (apply CW.region)))
    refine CW.cond rfl (fun h => ?_) (fun h => ?_)
    · have hr' : r < row.length := by simp only [decide_eq_true_eq] at h; omega
      clear h
      have hany := any_next (p := fun y => y.1 == (k : Int)) hr'
      (repeat (first | (apply EX.thenN) | (apply CW.seq) | (apply CW.region) | (apply CW.block) | (apply CW.skip)))
      refine WL.elemN (i := r) rfl rfl rfl rfl rfl (hr4.up e5) hr' (fun _ => rfl) (fun u q hu => ?_)
      rw [rd_edgeR hu]
      clear hu
      generalize row[r] = ed at *
      generalize (row.take r).any (fun y => y.1 == (k : Int)) = can at *
      skip
      refine WL.alloc rfl rfl (fun w6 hb10 e6 => ?_)
      skip
      refine WL.st rfl rfl rfl hb10 rfl rfl (ones_of rfl) (fun w7 hb10 hg7 => ?_)
      have e7 : Ext w5 w7 := Below.grown e6 hg7 e6.size (fun g hg => by cases hg; exact Nat.le_refl _)
      cases can with
      | true =>
        (repeat (first | (apply WL.add; rfl; rfl; rfl; rfl; omega; omega) | (apply WL.pure; rfl; rfl; rfl) | (apply WL.nil) | (apply EX.thenN) | (apply CW.region) | (apply WL.pass; rfl; rfl) | (apply EX.inN)))
        refine EX.back (r + 1) ?_ ⟨hr', e5.trans e7⟩ (by omega)
        rw [hany, Bool.true_or]
        exact (by repeat (first | exact trivial | refine ⟨rfl, ?_⟩))
      | false =>
        (repeat (first | (apply WL.add; rfl; rfl; rfl; rfl; omega; omega) | (apply WL.pure; rfl; rfl; rfl) | (apply WL.nil) | (apply EX.thenN) | (apply CW.region) | (apply WL.fa; rfl; rfl; rfl) | (apply WL.ld; rfl; rfl; rfl; assumption; rfl) | (apply EX.inN)))
        refine EX.back (r + 1) ?_ ⟨hr', e5.trans e7⟩ (by omega)
        rw [hany, Bool.false_or]
        exact (by repeat (first | exact trivial | refine ⟨rfl, ?_⟩))
    have hre : r = row.length := by simp only [decide_eq_false_iff_not] at h; omega
    subst hre
    rw [List.take_length, ← hcan]
    have hb7 := hb7.ext e5
    have ho5 := ho4.extN e5
    have e15 := e14.trans e5
    have e05 := e1.trans e15
    unfold inF at hfn
    clear h hcan
    generalize canJ nx j (k : Int) = can at *
    have app : ∀ (hf : fairN nx (k : Int) (j + 1) = fairN nx (k : Int) j ++ [(j : Int)]), True := fun _ => trivial
    cases can with
    | false =>
      rw [Bool.not_false, Bool.true_or, if_pos rfl] at hfn
      (repeat (first | (apply WL.pure; rfl; rfl; rfl) | (apply WL.nil) | (apply EX.thenN) | (apply CW.seq) | (apply CW.region) | (apply WL.pass; rfl; rfl) | (apply CW.condT; rfl) | (apply CW.exit) | (apply EX.thenX) | (apply EX.inX)))
      refine WL.app1 (α := Int) (F := Non) (bytes := 8) (yv := (j : Int)) rfl rfl (fun _ => rfl) rfl rfl (fun _ => rfl) ho5 (Rd.mkInt _ _ _) e05.size (fun _ h => h.elim) (by decide) (by unfold maxLen; omega) (by omega) (fun ov' w6 q ho6 hg6 hnb6 => ?_)
      rw [← hfn] at ho6
      (repeat (first | (apply WL.add; rfl; rfl; rfl; rfl; omega; omega) | (apply WL.pure; rfl; rfl; rfl) | (apply WL.nil) | (apply EX.thenN) | (apply CW.region) | (apply EX.inN)))
      exact EX.back (j + 1, ov') (by repeat (first | exact trivial | refine ⟨rfl, ?_⟩)) ⟨hj, ho6, Below.grown e05 hg6 e05.size (fun g hg => (ho.lt g hg).1)⟩ (by dsimp only; omega)
    | true =>
      rw [Bool.not_true, Bool.false_or] at hfn
      (repeat (first | (apply WL.pure; rfl; rfl; rfl) | (apply WL.nil) | (apply EX.thenN) | (apply CW.seq) | (apply CW.region) | (apply WL.fa; rfl; rfl; rfl) | (apply WL.ld; rfl; rfl; rfl; assumption; rfl) | (apply CW.exit) | (apply EX.thenX) | (apply EX.inX)))
      by_cases hk : (ofX nx j).1 = (k : Int)
      · rw [show ((ofX nx j).1 == (k : Int)) = true by rw [hk]; exact beq_self_eq_true _, if_pos rfl] at hfn
        rw [show ((ofX nx j).1 == (k : Int)) = true by rw [hk]; exact beq_self_eq_true _]
        (repeat (first | (apply WL.pure; rfl; rfl; rfl) | (apply CW.region) | (apply CW.condT; rfl)))
        refine WL.app1 (α := Int) (F := Non) (bytes := 8) (yv := (j : Int)) rfl rfl (fun _ => rfl) rfl rfl (fun _ => rfl) ho5 (Rd.mkInt _ _ _) e05.size (fun _ h => h.elim) (by decide) (by unfold maxLen; omega) (by omega) (fun ov' w6 q ho6 hg6 hnb6 => ?_)
        rw [← hfn] at ho6
        (repeat (first | (apply WL.add; rfl; rfl; rfl; rfl; omega; omega) | (apply WL.pure; rfl; rfl; rfl) | (apply WL.nil) | (apply EX.thenN) | (apply CW.region) | (apply EX.inN)))
        exact EX.back (j + 1, ov') (by repeat (first | exact trivial | refine ⟨rfl, ?_⟩)) ⟨hj, ho6, Below.grown e05 hg6 e05.size (fun g hg => (ho.lt g hg).1)⟩ (by dsimp only; omega)
      · rw [show ((ofX nx j).1 == (k : Int)) = false by simpa using hk, if_neg (by simp), List.append_nil] at hfn
        rw [show ((ofX nx j).1 == (k : Int)) = false by simpa using hk]
        rw [← hfn] at ho5
        (repeat (first | (apply WL.add; rfl; rfl; rfl; rfl; omega; omega) | (apply WL.pure; rfl; rfl; rfl) | (apply WL.nil) | (apply EX.thenN) | (apply CW.region) | (apply EX.inN) | (apply CW.condF; rfl) | (apply CW.skip)))
        exact EX.back (j + 1, ov) (by repeat (first | exact trivial | refine ⟨rfl, ?_⟩)) ⟨hj, ho5, e05⟩ (by dsimp only; omega)
  have hje : j = atV nx nx.length := by simp only [decide_eq_false_iff_not] at h; omega
  subst hje
  (repeat (first | (apply WL.pure; rfl; rfl; rfl) | (apply WL.nil) | (apply EX.thenN) | (apply CW.seq) | (apply CW.region) | (apply CW.exit) | (apply EX.thenX) | (apply EX.inX) | (apply CW.ret)))
  exact EX.ret1 rfl rfl ⟨ho, e1⟩
end Go.Proofs.Ytadbkppgaekmpaa
/-
  Package replay: letters and fair: walked.
-/
set_option linter.unusedVariables false
set_option linter.unusedSimpArgs false
namespace Go.Proofs.Ytadbkppgaekmpaa
open Go.RowKit

theorem stepsE_L {p : LProc} (h : (stepsE p).2 = 0) : (stepsE p).1 = stepsL p ∧ (stepsL p).length ≤ 60 := by
  unfold stepsE at h ⊢
  split at h
  · rename_i h1; exact absurd h h1
  · rename_i h1
    rw [if_neg h1]
    split at h
    · cases h
    · rename_i h2; rw [if_neg h2]; exact ⟨rfl, by omega⟩
theorem letK_lt {p : LProc} (hz : (stepsE p).2 = 0) {k : Int} (hk : k < (stepsL p).length) : letK p k < 18446744073709551616 := by
  unfold letK
  split
  · decide
  · rename_i h
    obtain ⟨e, _⟩ := stepsE_L hz
    have hp := chkPr_ok (stepsE_chk hz)
    have hi : k.toNat < (stepsL p).length := by omega
    have := stepsL_node _ (List.getElem_mem hi)
    have := hp.n
    rw [e, getSt hi]
    have h2 : (2 : Nat) ^ (stepsL p)[k.toNat].1.toNat < 2 ^ 64 := Nat.pow_lt_pow_right (by decide) (by omega)
    exact h2
theorem letters_ok (w0 : World) {so fo lo : Option Addr} {sc fc lc : Nat} {ns : List LNode} {fl : List LFlow} {l : List Int} (hs : Sl w0 (Old w0) so sc ns) (hf : Sl w0 (Old w0) fo fc fl) (hl : Sl w0 (Old w0) lo lc l) (hz : (stepsE (ns, fl)).2 = 0) (hk : ∀ k ∈ l, k < (stepsL (ns, fl)).length) (hl6 : l.length ≤ 60000) :
    Rt Try.prog 126 [procV so sc fo fc ns.length fl.length, .slice lo l.length lc].toArray w0 fun v w' => Own w' w0.heap.size 33 Non v (lettersR (ns, fl) l) ∧ Ext w0 w' := by
  obtain ⟨hSL, h60⟩ := stepsE_L hz
  have hp := chkPr_ok (stepsE_chk hz)
  have h20 := hp.n
  refine Rt.enter2 Try.func126 Try.ntmps126 rfl rfl ?_
  have hE := Ext.refl w0
  (repeat (first | (apply CW.seq) | (apply CW.region)))
  refine WL.boxB rfl rfl rfl fun w1 hb1 e1 => ?_
  have hE := hE.trans e1
  (repeat (first | (apply WL.pure; rfl; rfl; rfl) | (apply WL.nil) | (apply EX.thenN) | (apply CW.seq) | (apply CW.region) | (apply WL.ldA; rfl; rfl; rfl; assumption; rfl)))
  refine WL.call rfl rfl rfl (Of_ok w1 (hs.up hE) (hf.up hE)) ?_
  rintro _ w2 ⟨x, rfl, hox, e2⟩
  have hE := hE.trans e2
  rw [hSL] at hox
  rw [hz]
  obtain ⟨xo, xc, rfl, hxs⟩ := hox.oldN.sl
  clear hox
  (repeat (first | (apply WL.pure; rfl; rfl; rfl) | (apply WL.nil) | (apply EX.thenN) | (apply CW.seq) | (apply CW.region) | (apply WL.lenS; rfl; rfl; rfl) | (apply CW.block)))
  refine CW.loop (S := Nat × Value) (fun s => [(5, .slice xo (stepsL (ns, fl)).length xc), (7, s.2), (15, .slice lo l.length lc), (16, .int .i64 l.length), (17, .int .i64 s.1)])
    (fun s w => s.1 ≤ l.length ∧ Own w w2.heap.size 33 Non s.2 (lettersR (ns, fl) (l.take s.1)) ∧ Ext w2 w) (fun s => l.length - s.1) (0, .slice none 0 0) (by repeat (first | exact trivial | refine ⟨rfl, ?_⟩)) ⟨Nat.zero_le _, by simpa [lettersR] using Own.nil, Ext.refl _⟩ ?_
  rintro ⟨i, ov⟩ w3 ⟨hi, ho, e3⟩
  dsimp only at hi ho e3 ⊢
  have hE3 := hE.trans e3
  have z3 := e3.size
  (repeat (first | (apply WL.pure; rfl; rfl; rfl) | (apply WL.nil) | (apply EX.thenN) | (apply CW.seq) | (apply CW.region)))
  refine CW.cond rfl (fun h => ?_) (fun h => ?_)
  · have hi' : i < l.length := by simp at h; omega
    have hkl := hk _ (List.getElem_mem hi')
    have hnx : lettersR (ns, fl) (l.take (i + 1)) = lettersR (ns, fl) (l.take i) ++ [letK (ns, fl) l[i]] := by
      unfold lettersR
      exact take_map_next _ hi'
    have hlen : (lettersR (ns, fl) (l.take i)).length = i := by unfold lettersR; rw [List.length_map, List.length_take]; omega
    have h64 := letK_lt hz hkl
    (repeat (first | (apply EX.thenN) | (apply CW.seq) | (apply CW.region) | (apply CW.block) | (apply CW.skip)))
    refine WL.elemI rfl rfl rfl rfl rfl (hl.up hE3) hi' rfl (fun _ => rfl) (fun q => ?_)
    generalize l[i] = k at *
    (repeat (first | (apply WL.pure; rfl; rfl; rfl) | (apply WL.nil) | (apply EX.thenN) | (apply CW.seq) | (apply CW.region)))
    refine CW.cond rfl (fun h => ?_) (fun h => ?_)
    · have h : k < 0 := by simpa using h
      have hv : letK (ns, fl) k = 9223372036854775808 := by unfold letK; rw [if_pos h]
      rw [hv] at hnx
      (repeat (first | (apply WL.pure; rfl; rfl; rfl) | (apply CW.region)))
      refine WL.app1 (α := Nat) (F := Non) (yv := 9223372036854775808) rfl rfl (fun _ => rfl) rfl rfl (fun _ => rfl) ho ⟨_, rfl, rd_mkU64 _ _ _ (by decide)⟩ z3 (fun _ h => h.elim) (by decide) (by unfold maxLen; omega) (by omega) (fun v' w4 p ho4 hg4 _ => ?_)
      (repeat (first | (apply WL.add; rfl; rfl; rfl; rfl; omega; omega) | (apply WL.pure; rfl; rfl; rfl) | (apply WL.nil) | (apply EX.thenN) | (apply CW.region) | (apply EX.inN)))
      exact EX.back (i + 1, v') (by repeat (first | exact trivial | refine ⟨rfl, ?_⟩)) ⟨hi', by rw [hnx]; exact ho4, e3.grown hg4 e3.size (fun g hg => (ho.lt g hg).1)⟩ (by dsimp only; omega)
    · have h : ¬ k < 0 := by simpa using h
      obtain ⟨n, rfl⟩ : ∃ n : Nat, k = (n : Int) := ⟨k.toNat, by omega⟩
      have hnl : n < (stepsL (ns, fl)).length := by omega
      have hnd := stepsL_node _ (List.getElem_mem hnl)
      have hnd1 : (stepsL (ns, fl))[n].1 < ns.length := hnd.2
      have h20 : ns.length ≤ 20 := h20
      have hv : letK (ns, fl) (n : Int) = 2 ^ (stepsL (ns, fl))[n].1.toNat := by
        unfold letK; rw [if_neg h, hSL, Int.toNat_natCast, getSt hnl]
      obtain ⟨t, ht⟩ : ∃ t : Nat, (stepsL (ns, fl))[n].1 = (t : Int) := ⟨((stepsL (ns, fl))[n].1).toNat, by omega⟩
      obtain ⟨lb, lf, rfl, hlb, hcl⟩ := (hxs.up e3).step0 hnl
      rw [ht] at hcl hv
      rw [Int.toNat_natCast] at hv
      rw [hv] at hnx h64
      (repeat (first | (apply WL.pure; rfl; rfl; rfl) | (apply CW.region)))
      refine WL.idx (α := LStep) rfl rfl rfl rfl (by omega) (by omega) ?_
      (repeat (apply WL.fa; rfl; rfl; rfl))
      refine WL.load (α := Int) (F := Non) (y := (t : Int)) rfl rfl rfl (by rw [Int.toNat_natCast]; exact hcl) rfl ?_
      rw [show vOf Int [.int .i64 (t : Int)] = .int .i64 (t : Int) from rfl]
      (repeat (apply WL.pure; rfl; rfl; rfl))
      rw [shl1U (show t < 62 by omega)]
      refine WL.app1 (α := Nat) (F := Non) (yv := 2 ^ t) rfl rfl (fun _ => rfl) rfl rfl (fun _ => rfl) ho ⟨_, rfl, rd_mkU64 _ _ _ h64⟩ z3 (fun _ h => h.elim) (by decide) (by unfold maxLen; omega) (by omega) (fun v' w4 p ho4 hg4 _ => ?_)
      (repeat (first | (apply WL.add; rfl; rfl; rfl; rfl; omega; omega) | (apply WL.pure; rfl; rfl; rfl) | (apply WL.nil) | (apply EX.thenN) | (apply CW.region) | (apply EX.inN)))
      exact EX.back (i + 1, v') (by repeat (first | exact trivial | refine ⟨rfl, ?_⟩)) ⟨hi', by rw [hnx]; exact ho4, e3.grown hg4 e3.size (fun g hg => (ho.lt g hg).1)⟩ (by dsimp only; omega)
  · obtain rfl : i = l.length := by simp at h; omega
    rw [List.take_length] at ho
    (repeat (first | (apply WL.pure; rfl; rfl; rfl) | (apply WL.nil) | (apply EX.thenN) | (apply CW.seq) | (apply CW.region) | (apply CW.exit) | (apply EX.thenX) | (apply EX.inX) | (apply CW.ret)))
    exact EX.ret1 rfl rfl ⟨ho.low hE.size, hE3⟩
/-- what is counted while the steps c of one more place are met -/
noncomputable def cntF (p : LProc) (s l : List Int) (i : Nat) (c : List Int) (k : Nat) : Int := (cntK p s l k i : Int) + if (k : Int) ∈ c then 1 else 0
noncomputable def cntV (p : LProc) (s l : List Int) (i : Nat) (c : List Int) : List Int := (List.range (stepsL p).length).map (cntF p s l i c)
section
variable {p : LProc} {s l : List Int}
theorem cntK_le {k i : Nat} : cntK p s l k i ≤ i := by
  unfold cntK
  have := List.countP_le_length (p := fun i => decide ((k : Int) ∈ canE p (mrk p s l (s.length + i)))) (l := List.range i)
  rwa [List.length_range] at this
theorem cntV_len {i : Nat} {c : List Int} : (cntV p s l i c).length = (stepsL p).length := by unfold cntV; simp
theorem cntV_zero : cntV p s l 0 [] = List.replicate (stepsL p).length 0 := by
  unfold cntV cntF cntK
  simp
  rw [List.map_const', List.length_range]
theorem cntV_next {i : Nat} : cntV p s l i (canE p (mrk p s l (s.length + i))) = cntV p s l (i + 1) [] := by
  unfold cntV
  refine List.map_congr_left fun k _ => ?_
  unfold cntF cntK
  rw [List.range_succ, List.countP_append, List.countP_singleton]
  by_cases h : (k : Int) ∈ canE p (mrk p s l (s.length + i)) <;> simp [h]
theorem cntV_at {i : Nat} {c : List Int} {k : Nat} (h : k < (stepsL p).length) : (cntV p s l i c)[k]'(by rw [cntV_len]; exact h) = cntF p s l i c k := by
  unfold cntV; simp
theorem map_set_at {n : Nat} {f g : Nat → Int} {k0 : Nat} (h : ∀ k, k ≠ k0 → g k = f k) : ((List.range n).map f).set k0 (g k0) = (List.range n).map g := by
  refine List.ext_getElem (by simp) fun k h1 h2 => ?_
  rw [List.getElem_set]
  split
  · rename_i e; subst e; simp
  · rename_i e; simp [h k (fun h => e h.symm)]
theorem cntV_set {i : Nat} {c : List Int} {k0 : Nat} (h0 : (k0 : Int) ∉ c) : (cntV p s l i c).set k0 (cntF p s l i c k0 + 1) = cntV p s l i (c ++ [(k0 : Int)]) := by
  unfold cntV
  have e : cntF p s l i c k0 + 1 = cntF p s l i (c ++ [(k0 : Int)]) k0 := by
    unfold cntF; rw [if_neg h0, if_pos (by simp)]; omega
  rw [e]
  refine map_set_at fun k hk => ?_
  unfold cntF
  have : ((k : Int) ∈ c ++ [(k0 : Int)]) ↔ (k : Int) ∈ c := by
    rw [List.mem_append, List.mem_singleton]
    exact ⟨fun h => h.elim id (fun h => absurd (Int.ofNat.inj h) hk), .inl⟩
  simp only [this]
theorem canE_lt {m : List Int} : (canE p m).Pairwise (· < ·) := by
  unfold canE
  split
  · unfold canL canP
    rw [List.pairwise_map]
    refine (List.pairwise_lt_range.filter _).imp fun h => ?_
    omega
  · exact .nil
theorem canE_new {m : List Int} {j : Nat} (h : j < (canE p m).length) : (canE p m)[j] ∉ (canE p m).take j := by
  intro hm
  obtain ⟨i, hi, e⟩ := List.mem_iff_getElem.1 hm
  rw [List.length_take] at hi
  rw [List.getElem_take] at e
  have := List.pairwise_iff_getElem.1 (canE_lt (p := p) (m := m)) i j (by omega) h (by omega)
  omega
theorem fairR_at {k : Nat} (hz : (stepsE p).2 = 0) (hk : k < (stepsL p).length) (h : (decide (cntF p s l l.length [] k = l.length) && !l.contains (k : Int)) = true) : fairR p s l = false := by
  rw [Bool.eq_false_iff]
  intro hf
  unfold fairR at hf
  rw [List.all_eq_true, (stepsE_L hz).1] at hf
  have := hf k (by rw [List.mem_range]; exact hk)
  unfold cntF at h
  simp at h this
  exact this.elim (fun g => g (by omega)) h.2
end
set_option maxHeartbeats 1000000 in
theorem rfair_ok (w0 : World) {so fo ao bo mo : Option Addr} {sc fc ac bc mc : Nat} {hb : Bool} {ns : List LNode} {fl : List LFlow} {s l : List Int} (hs : Sl w0 (Old w0) so sc ns) (hf : Sl w0 (Old w0) fo fc fl) (hst : Sl w0 (Old w0) ao ac s) (hlp : Sl w0 (Old w0) bo bc l)
    (hm : Sl w0 (Old w0) mo mc (framesE (ns, fl) s l).1) (hok : FrOk (ns, fl) s l) :
    Rt Try.prog 124 [procV so sc fo fc ns.length fl.length, verdV hb ao ac bo bc s l, .slice mo (framesE (ns, fl) s l).1.length mc].toArray w0 fun v w' => v = .bool (fairR (ns, fl) s l) ∧ Ext w0 w' := by
  have hz := hok.z
  obtain ⟨hSL, h60⟩ := stepsE_L hz
  have hsz := hok.sz
  have hxl : (framesE (ns, fl) s l).1.length = s.length + l.length + 1 := by rw [hok.eq, List.length_cons, scanM_len, List.length_append]
  have hmk : ∀ i (h : i < (framesE (ns, fl) s l).1.length), (framesE (ns, fl) s l).1[i] = mrk (ns, fl) s l i := fun i h => by unfold mrk; rw [List.getD_eq_getElem?_getD, List.getElem?_eq_getElem h]; rfl
  generalize hX : (framesE (ns, fl) s l).1 = X at *
  refine Rt.enter3 Try.func124 Try.ntmps124 rfl rfl ?_
  have hE := Ext.refl w0
  (repeat (first | (apply CW.seq) | (apply CW.region)))
  refine WL.boxB rfl rfl rfl fun w1 hb3 e1 => ?_
  have hE := hE.trans e1
  skip
  refine WL.boxB rfl rfl rfl fun w1' hb4 e1' => ?_
  have hb3 := hb3.ext e1'
  have hE := hE.trans e1'
  (repeat (first | (apply WL.pure; rfl; rfl; rfl) | (apply WL.nil) | (apply EX.thenN) | (apply CW.seq) | (apply CW.region) | (apply WL.ldA; rfl; rfl; rfl; assumption; rfl)))
  refine WL.call rfl rfl rfl (Of_ok w1' (hs.up hE) (hf.up hE)) ?_
  rintro _ w2 ⟨x, rfl, hox, e2⟩
  have hE := hE.trans e2
  have hb3 := hb3.ext e2
  have hb4 := hb4.ext e2
  rw [hSL] at hox
  rw [hz]
  obtain ⟨xo, xc, rfl, hxs⟩ := hox.oldN.sl
  clear hox hxs
  (repeat (first | (apply WL.pure; rfl; rfl; rfl) | (apply WL.nil) | (apply EX.thenN) | (apply CW.seq) | (apply CW.region) | (apply WL.lenS; rfl; rfl; rfl)))
  refine WL.make (α := Int) rfl rfl rfl rfl (by omega) (by unfold maxLen; omega) (fun w3 ho3 hg3 => ?_)
  have e3 : Ext w2 w3 := (Ext.refl _).grown hg3 (Nat.le_refl _) (fun k h => by cases h)
  generalize Value.slice (some ⟨w2.heap.size, 0, none⟩) (stepsL (ns, fl)).length (stepsL (ns, fl)).length = cv at *
  rw [← cntV_zero (s := s) (l := l)] at ho3
  have hgb : ∀ g, cv.ownBlock = some g → w2.heap.size ≤ g := fun g hg => (ho3.lt g hg).1
  obtain ⟨co, cc, hcv⟩ := ho3.val
  rw [cntV_len] at hcv
  subst hcv
  have hb33 := hb3.ext e3
  have hb43 := hb4.ext e3
  (repeat (first | (apply WL.pure; rfl; rfl; rfl) | (apply WL.nil) | (apply EX.thenN) | (apply CW.seq) | (apply CW.region) | (apply WL.lenS; rfl; rfl; rfl) | (apply WL.fa; rfl; rfl; rfl) | (apply WL.ld; rfl; rfl; rfl; assumption; rfl) | (apply CW.block)))
  refine CW.loop (S := Nat) (fun i => [(2, .slice mo X.length mc), (3, .pointer (some ⟨w0.heap.size, 0, none⟩)), (4, .pointer (some ⟨w1.heap.size, 0, none⟩)), (9, .slice co (stepsL (ns, fl)).length cc), (27, .int .i64 l.length), (28, .int .i64 i)])
    (fun i w => i ≤ l.length ∧ Own w w2.heap.size 3 Non (.slice co (stepsL (ns, fl)).length cc) (cntV (ns, fl) s l i []) ∧ Ext w2 w) (fun i => l.length - i) 0 (by repeat (first | exact trivial | refine ⟨rfl, ?_⟩)) ⟨Nat.zero_le _, ho3, e3⟩ ?_
  clear ho3 hg3 e3
  rintro i w4 ⟨hi, ho, e4⟩
  have hE4 := hE.trans e4
  have hb34 := hb3.ext e4
  have hb44 := hb4.ext e4
  (repeat (first | (apply WL.pure; rfl; rfl; rfl) | (apply WL.nil) | (apply EX.thenN) | (apply CW.seq) | (apply CW.region)))
  refine CW.cond rfl (fun h => ?_) (fun h => ?_)
  · have hi' : i < l.length := by simp at h; omega
    have hsx : s.length + i < X.length := by omega
    (repeat (first | (apply WL.pure; rfl; rfl; rfl) | (apply WL.nil) | (apply EX.thenN) | (apply CW.seq) | (apply CW.region) | (apply CW.block) | (apply CW.skip)))
    have hSE : ∀ z, (fun z : World => Ext w4 z) z → Ext w4 z := fun _ h => h
    refine CW.drawH (fun x => Ext w4 x) [(0, true), (1, true), (2, true), (3, true), (4, true), (5, true), (6, true), (7, true), (8, true), (9, false), (10, true), (11, true), (12, true), (13, true), (14, true)] mixed (by kernel_rfl) (Ext.drew w4) ?_
    (repeat (first | (apply HL.add; rfl; rfl; rfl; rfl; rfl; omega; omega) | (apply HL.pure; rfl; rfl; rfl; rfl) | (refine HL.fa rfl rfl rfl rfl ?_) | (refine HL.ld (by assumption) rfl rfl rfl rfl (by assumption) rfl ?_) | (refine HL.ldA (by assumption) rfl rfl rfl rfl (by assumption) rfl ?_) | (refine HL.lenS rfl rfl rfl rfl ?_)))
    refine HL.elemN (α := List Int) (k := s.length + i) hSE rfl rfl rfl rfl rfl rfl rfl (fun _ h => h) (hm.up hE4) hsx (fun _ => rfl) (fun u p hu => ?_)
    obtain ⟨uo, uc, rfl, hus⟩ := hu.sl
    rw [hmk _ hsx] at hus ⊢
    skip
    refine HL.mut rfl (WL.call rfl rfl rfl (Enabled_ok (drew w4) ((hs.up hE4).at (Ext.drew w4)) ((hf.up hE4).at (Ext.drew w4)) (hus.at (Ext.drew w4))) ?_)
    rintro _ w5 ⟨x, rfl, hox, e5⟩
    have e45 : Ext w4 w5 := (Ext.drew w4).trans e5
    refine WL.nil (EX.mut e45 ?_)
    have hce : (if chkM (ns, fl) (mrk (ns, fl) s l (s.length + i)) = 0 then canL (ns, fl) (mrk (ns, fl) s l (s.length + i)) else []) = canE (ns, fl) (mrk (ns, fl) s l (s.length + i)) := rfl
    rw [hce] at hox
    have hcl := canE_len (p := (ns, fl)) (m := mrk (ns, fl) s l (s.length + i))
    have hnew := @canE_new (ns, fl) (mrk (ns, fl) s l (s.length + i))
    have hsub := @canP_sub (ns, fl) (mrk (ns, fl) s l (s.length + i))
    have hnext := @cntV_next (ns, fl) s l i
    generalize canE (ns, fl) (mrk (ns, fl) s l (s.length + i)) = c at *
    obtain ⟨no, nc, rfl, hns⟩ := (hox.slF (F' := fun b => b < w5.heap.size ∧ w4.heap.size ≤ b) (fun _ h => h.elim) (fun g hg => ⟨(hox.lt g hg).2.1, (hox.lt g hg).1⟩))
    (repeat (first | (apply HL.pure; rfl; rfl; rfl; rfl) | (apply HL.nil)))
    have e05 := e4.trans e45
    have ho5 := ho.extN e45
    have hb35 := hb34.ext e45
    have hb45 := hb44.ext e45
    (repeat (first | (apply WL.pure; rfl; rfl; rfl) | (apply WL.nil) | (apply EX.thenN) | (apply CW.seq) | (apply CW.region) | (apply WL.lenS; rfl; rfl; rfl) | (apply CW.block)))
    refine CW.loop (S := Nat) (fun j => [(2, .slice mo X.length mc), (3, .pointer (some ⟨w0.heap.size, 0, none⟩)), (4, .pointer (some ⟨w1.heap.size, 0, none⟩)), (9, .slice co (stepsL (ns, fl)).length cc), (27, .int .i64 l.length), (28, .int .i64 i), (44, .slice no c.length nc), (45, .int .i64 c.length), (46, .int .i64 j)])
      (fun j w => j ≤ c.length ∧ Own w w2.heap.size 3 Non (.slice co (stepsL (ns, fl)).length cc) (cntV (ns, fl) s l i (c.take j)) ∧ w5.grownBy w (Value.slice co (stepsL (ns, fl)).length cc).ownBlock) (fun j => c.length - j) 0 (by repeat (first | exact trivial | refine ⟨rfl, ?_⟩)) ⟨Nat.zero_le _, by simpa using ho5, (Ext.refl _).grw _⟩ ?_
    rintro j w6 ⟨hj, ho6, hg6⟩
    have e06 : Ext w2 w6 := e05.grown hg6 e05.size hgb
    have hE6 := hE.trans e06
    have hb36 := hb3.ext e06
    have hb46 := hb4.ext e06
    (repeat (first | (apply WL.pure; rfl; rfl; rfl) | (apply WL.nil) | (apply EX.thenN) | (apply CW.seq) | (apply CW.region)))
    refine CW.cond rfl (fun h => ?_) (fun h => ?_)
    · have hj' : j < c.length := by simp at h; omega
      have hns6 := hns.mono (w' := w6) (fun b hb => hg6.block b hb.1 (fun e => by have := (ho.lt b e.symm).2.1; omega)) (fun _ h => h)
      have hnw := hnew hj'
      obtain ⟨g0, g1⟩ := hsub (List.getElem_mem hj')
      have htk : c.take (j + 1) = c.take j ++ [c[j]] := List.take_succ_eq_append_getElem hj'
      (repeat (first | (apply EX.thenN) | (apply CW.seq) | (apply CW.region) | (apply CW.block) | (apply CW.skip)))
      refine WL.elemI rfl rfl rfl rfl rfl hns6 hj' rfl (fun _ => rfl) (fun q => ?_)
      generalize c[j] = k at *
      obtain ⟨k0, rfl⟩ : ∃ n : Nat, k = (n : Int) := ⟨k.toNat, by omega⟩
      have hk0 : k0 < (stepsL (ns, fl)).length := by omega
      have hkc : k0 < (cntV (ns, fl) s l i (c.take j)).length := by rw [cntV_len]; exact hk0
      have hset := cntV_set (p := (ns, fl)) (s := s) (l := l) (i := i) hnw
      have hvat := cntV_at (p := (ns, fl)) (s := s) (l := l) (i := i) (c := c.take j) hk0
      have hcb : 0 ≤ cntF (ns, fl) s l i (c.take j) k0 ∧ cntF (ns, fl) s l i (c.take j) k0 ≤ 60001 := by
        have := cntK_le (p := (ns, fl)) (s := s) (l := l) (k := k0) (i := i)
        unfold cntF; split <;> omega
      (repeat (first | (apply WL.pure; rfl; rfl; rfl) | (apply WL.nil) | (apply EX.thenN) | (apply CW.region)))
      refine WL.elemON rfl rfl rfl rfl rfl ho6 hkc (fun _ => rfl) (fun u q hu => ?_)
      rw [hvat] at hu
      have hu := hu.int
      subst hu
      (repeat (apply WL.add; rfl; rfl; rfl; rfl; omega; omega))
      refine WL.setN (α := Int) (yv := cntF (ns, fl) s l i (c.take j) k0 + 1) rfl rfl rfl rfl ho6 hkc (fun _ => rfl) (fun _ => rfl) (Rd.mkInt _ _ _) (fun w7 q2 ho7 hg7 => ?_)
      rw [hset, ← htk] at ho7
      (repeat (first | (apply WL.add; rfl; rfl; rfl; rfl; omega; omega) | (apply WL.pure; rfl; rfl; rfl) | (apply WL.nil) | (apply EX.thenN) | (apply CW.region) | (apply EX.inN)))
      exact EX.back (j + 1) (by repeat (first | exact trivial | refine ⟨rfl, ?_⟩)) ⟨hj', ho7, grown_tr hg6 hg7⟩ (by omega)
    · obtain rfl : j = c.length := by simp at h; omega
      rw [List.take_length, hnext] at ho6
      (repeat (first | (apply WL.add; rfl; rfl; rfl; rfl; omega; omega) | (apply WL.pure; rfl; rfl; rfl) | (apply WL.nil) | (apply EX.thenN) | (apply CW.region) | (apply EX.inN) | (apply CW.exit) | (apply EX.thenX) | (apply EX.inX)))
      exact EX.back (i + 1) (by repeat (first | exact trivial | refine ⟨rfl, ?_⟩)) ⟨hi', ho6, e06⟩ (by omega)
  · obtain rfl : i = l.length := by simp at h; omega
    have hfr : fairR (ns, fl) s l = (List.range (stepsL (ns, fl)).length).all fun k => !(decide (cntF (ns, fl) s l l.length [] k = l.length) && !l.contains (k : Int)) := by
      unfold fairR
      rw [hSL]
      congr 1
      funext k
      have : decide (cntF (ns, fl) s l l.length [] k = l.length) = decide (cntK (ns, fl) s l k l.length = l.length) := by
        rw [Bool.eq_iff_iff, decide_eq_true_iff, decide_eq_true_iff]
        unfold cntF
        rw [if_neg (by simp)]
        omega
      rw [this]
    (repeat (first | (apply WL.pure; rfl; rfl; rfl) | (apply WL.nil) | (apply EX.thenN) | (apply CW.seq) | (apply CW.region) | (apply WL.lenS; rfl; rfl; rfl) | (apply CW.block) | (apply CW.exit) | (apply EX.thenX) | (apply EX.inX)))
    refine CW.loop (S := Nat) (fun k => [(4, .pointer (some ⟨w1.heap.size, 0, none⟩)), (58, .slice co (stepsL (ns, fl)).length cc), (59, .int .i64 (stepsL (ns, fl)).length), (60, .int .i64 k)])
      (fun k w => k ≤ (stepsL (ns, fl)).length ∧ (∀ j, j < k → (decide (cntF (ns, fl) s l l.length [] j = l.length) && !l.contains (j : Int)) = false) ∧ Ext w4 w) (fun k => (stepsL (ns, fl)).length - k) 0 (by repeat (first | exact trivial | refine ⟨rfl, ?_⟩)) ⟨Nat.zero_le _, fun j h => absurd h (by omega), Ext.refl _⟩ ?_
    rintro k w5 ⟨hk, hall, e5⟩
    have hE5 := hE4.trans e5
    have hb45 := hb44.ext e5
    have ho5 := ho.extN e5
    (repeat (first | (apply WL.pure; rfl; rfl; rfl) | (apply WL.nil) | (apply EX.thenN) | (apply CW.seq) | (apply CW.region)))
    refine CW.cond rfl (fun h => ?_) (fun h => ?_)
    · have hk' : k < (stepsL (ns, fl)).length := by simp at h; omega
      have hkc : k < (cntV (ns, fl) s l l.length []).length := by rw [cntV_len]; exact hk'
      have hvat := cntV_at (p := (ns, fl)) (s := s) (l := l) (i := l.length) (c := []) hk'
      have hcb : 0 ≤ cntF (ns, fl) s l l.length [] k ∧ cntF (ns, fl) s l l.length [] k ≤ 60001 := by
        have := cntK_le (p := (ns, fl)) (s := s) (l := l) (k := k) (i := l.length)
        unfold cntF; split <;> omega
      have hfa := fairR_at (p := (ns, fl)) (s := s) (l := l) hz hk'
      (repeat (first | (apply WL.pure; rfl; rfl; rfl) | (apply EX.thenN) | (apply CW.seq) | (apply CW.region) | (apply CW.block) | (apply CW.skip)))
      refine WL.elemON rfl rfl rfl rfl rfl ho5 hkc (fun _ => rfl) (fun u q hu => ?_)
      rw [hvat] at hu
      have hu := hu.int
      subst hu
      (repeat (first | (apply WL.pure; rfl; rfl; rfl) | (apply WL.nil) | (apply EX.thenN) | (apply CW.seq) | (apply CW.region) | (apply WL.lenS; rfl; rfl; rfl) | (apply WL.fa; rfl; rfl; rfl) | (apply WL.ld; rfl; rfl; rfl; assumption; rfl)))
      by_cases hc : cntF (ns, fl) s l l.length [] k = l.length
      · rw [show (cntF (ns, fl) s l l.length [] k == (l.length : Int)) = true by simpa using hc]
        (repeat (first | (apply WL.pure; rfl; rfl; rfl) | (apply WL.fa; rfl; rfl; rfl) | (apply WL.ld; rfl; rfl; rfl; assumption; rfl)))
        refine WL.call rfl rfl rfl (contains_int w5 (k : Int) (hlp.up hE5)) ?_
        rintro _ w6 ⟨rfl, e6⟩
        by_cases hcn : l.contains (k : Int) = true
        · rw [hcn]
          (repeat (first | (apply WL.add; rfl; rfl; rfl; rfl; omega; omega) | (apply WL.pure; rfl; rfl; rfl) | (apply WL.nil) | (apply EX.thenN) | (apply CW.region) | (apply EX.inN) | (apply CW.condF; rfl) | (apply CW.skip)))
          exact EX.back (k + 1) (by repeat (first | exact trivial | refine ⟨rfl, ?_⟩)) ⟨hk', fun j hj => by
            by_cases e : j = k
            · subst e; rw [hcn]; simp
            · exact hall j (by omega), e5.trans e6⟩ (by omega)
        · have hcn : l.contains (k : Int) = false := by simpa using hcn
          rw [hcn]
          (repeat (first | (apply WL.pure; rfl; rfl; rfl) | (apply WL.nil) | (apply EX.thenN) | (apply CW.seq) | (apply CW.region) | (apply CW.condT; rfl) | (apply CW.ret) | (apply EX.thenR) | (apply EX.inR)))
          exact EX.ret1 rfl rfl ⟨by rw [hfa (by rw [hcn, decide_eq_true hc]; rfl)], hE5.trans e6⟩
      · rw [show (cntF (ns, fl) s l l.length [] k == (l.length : Int)) = false by simpa using hc]
        (repeat (first | (apply WL.add; rfl; rfl; rfl; rfl; omega; omega) | (apply WL.pure; rfl; rfl; rfl) | (apply WL.nil) | (apply EX.thenN) | (apply CW.region) | (apply WL.pass; rfl; rfl) | (apply EX.inN) | (apply CW.condF; rfl) | (apply CW.skip)))
        exact EX.back (k + 1) (by repeat (first | exact trivial | refine ⟨rfl, ?_⟩)) ⟨hk', fun j hj => by
          by_cases e : j = k
          · subst e; rw [decide_eq_false hc]; rfl
          · exact hall j (by omega), e5⟩ (by omega)
    · obtain rfl : k = (stepsL (ns, fl)).length := by simp at h; omega
      (repeat (first | (apply WL.pure; rfl; rfl; rfl) | (apply WL.nil) | (apply EX.thenN) | (apply CW.seq) | (apply CW.region) | (apply CW.exit) | (apply EX.thenX) | (apply EX.inX) | (apply CW.ret)))
      exact EX.ret1 rfl rfl ⟨by
        rw [hfr, show ((List.range (stepsL (ns, fl)).length).all fun k => !(decide (cntF (ns, fl) s l l.length [] k = l.length) && !l.contains (k : Int))) = true from List.all_eq_true.2 fun j hj => by rw [hall j (by simpa using hj)]; rfl], hE5⟩
end Go.Proofs.Ytadbkppgaekmpaa
/-
  Package replay: at and the closure of holds: walked. Printed by wip/gen_at.py.
-/
set_option linter.unusedVariables false
set_option linter.unusedSimpArgs false
namespace Go.Proofs.Ytadbkppgaekmpaa
open Go.RowKit

set_option maxHeartbeats 2000000 in
theorem rat_ok (w0 : World) {F : Nat → Prop} {ao ro : Option Addr} {cap rc : Nat} {k n : Int} {kids : List Ltl} {ks : List (List Bool)} {N i nx letter : Nat} {later : Bool} (hks : Sl w0 F ro rc ks) (hkk : kidsK k = ks.length) (hkl : ∀ x ∈ ks, x.length = N) (hF : ∀ b, F b → b < w0.heap.size)
    (hi : i < N) (hnx : nx < N) (hlt : letter < 18446744073709551616) (hn0 : 0 ≤ n) :
    Rt Try.prog 179 [ltlV k n ao kids.length cap, .slice ro ks.length rc, .int .i64 (i : Int), .int .u64 (letter : Int), .bool later, .int .i64 (nx : Int)].toArray w0 fun v w' => v = .bool (atC k n ks i letter later nx) ∧ Ext w0 w' := by
  have get0 : ∀ (h : 0 < ks.length), ks.getD 0 [] = ks[0] ∧ (ks[0]).length = N := fun h => ⟨by rw [List.getD_eq_getElem?_getD, List.getElem?_eq_getElem h]; rfl, hkl _ (List.getElem_mem h)⟩
  have get1 : ∀ (h : 1 < ks.length), ks.getD 1 [] = ks[1] ∧ (ks[1]).length = N := fun h => ⟨by rw [List.getD_eq_getElem?_getD, List.getElem?_eq_getElem h]; rfl, hkl _ (List.getElem_mem h)⟩
  have getB : ∀ (x : List Bool) (j : Nat) (h : j < x.length), x.getD j false = x[j] := fun x j h => by rw [List.getD_eq_getElem?_getD, List.getElem?_eq_getElem h]; rfl
  have getC : ∀ (a x : List Bool) (j : Nat) (h : j < x.length), a = x → a.getD j false = x[j] := fun a x j h e => by subst e; exact getB a j h
  refine Rt.enter (vs := [_, _, _, _, _, _]) Try.func179 rfl rfl rfl ?_
  show CW _ _ _ _ [(0, _), (1, _), (2, _), (3, _), (4, _), (5, _)] _
  (repeat (first | (apply CW.seq) | (apply CW.region)))
  refine WL.boxB rfl rfl rfl fun w1 hb hE => ?_
  have hks := hks.mono (fun b h => hE.block b (hF b h)) (fun _ h => h)
  (repeat (first | (apply WL.pure; rfl; rfl; rfl) | (apply WL.nil) | (apply EX.thenN) | (apply CW.seq) | (apply CW.region) | (apply WL.fa; rfl; rfl; rfl) | (apply WL.ld; rfl; rfl; rfl; assumption; rfl) | (apply CW.block)))
  refine CW.cond rfl (fun h => ?_) (fun h => ?_)
  · have hk : k = 1 := by simpa using h
    subst hk
    rw [show atC 1 n ks i letter later nx = true from by unfold atC; rw [if_pos rfl]]
    (repeat (first | (apply WL.pure; rfl; rfl; rfl) | (apply WL.nil) | (apply EX.thenN) | (apply CW.seq) | (apply CW.region) | (apply CW.ret) | (apply EX.thenR) | (apply EX.inR)))
    exact EX.ret1 rfl rfl ⟨rfl, hE⟩
  have hk1 : ¬ k = 1 := by simpa using h
  clear h
  (repeat (first | (apply WL.pure; rfl; rfl; rfl) | (apply WL.nil) | (apply EX.thenN) | (apply CW.seq) | (apply CW.region)))
  refine CW.cond rfl (fun h => ?_) (fun h => ?_)
  · have hk : k = 3 := by simpa using h
    subst hk
    rw [show atC 3 n ks i letter later nx = (((letter >>> n.toNat &&& 1 : Nat) : Int) == 1) from by
      unfold atC
      rw [if_neg (by decide), if_pos rfl, Bool.eq_iff_iff]
      simp only [beq_iff_eq, decide_eq_true_eq]
      omega]
    (repeat (first | (apply WL.pure; rfl; rfl; rfl) | (apply CW.seq) | (apply CW.region) | (apply WL.fa; rfl; rfl; rfl) | (apply WL.ld; rfl; rfl; rfl; assumption; rfl)))
    refine WL.shrI rfl rfl rfl rfl hlt hn0 ?_
    refine WL.and1 rfl rfl rfl rfl (Nat.lt_of_le_of_lt (Nat.shiftRight_le _ _) hlt) ?_
    (repeat (first | (apply WL.pure; rfl; rfl; rfl) | (apply WL.nil) | (apply EX.thenN) | (apply CW.ret) | (apply EX.thenR) | (apply EX.inR)))
    exact EX.ret1 rfl rfl ⟨rfl, hE⟩
  have hk3 : ¬ k = 3 := by simpa using h
  clear h
  (repeat (first | (apply WL.pure; rfl; rfl; rfl) | (apply WL.nil) | (apply EX.thenN) | (apply CW.seq) | (apply CW.region)))
  refine CW.cond rfl (fun h => ?_) (fun h => ?_)
  · have hk : k = 4 := by simpa using h
    subst hk
    have h0l : 0 < ks.length := by simp [kidsK] at hkk; omega
    have g0 := get0 h0l
    have e0 : (ks.getD 0 []).getD i false = (ks[0])[i]'(by have := g0.2; omega) := getC _ _ _ (by have := g0.2; omega) g0.1
    have hat : atC 4 n ks i letter later nx = (!(ks[0])[i]'(by have := g0.2; omega)) := by
      unfold atC
      rw [if_neg (by decide), if_neg (by decide), if_pos rfl, e0]
    rw [hat]
    clear hat
    (repeat (first | (apply WL.pure; rfl; rfl; rfl) | (apply CW.seq) | (apply CW.region)))
    refine WL.elemN (α := List Bool) (i := 0) rfl rfl rfl rfl rfl hks h0l (fun _ => rfl) (fun u q hu => ?_)
    obtain ⟨a1, c1, rfl, hsu⟩ := hu.sl
    (repeat (apply WL.pure; rfl; rfl; rfl))
    refine WL.elemB (i := i) rfl rfl rfl rfl rfl hsu (by have := g0.2; omega) rfl (fun _ => rfl) (fun q => ?_)
    (repeat (first | (apply WL.pure; rfl; rfl; rfl) | (apply WL.nil) | (apply EX.thenN) | (apply CW.ret) | (apply EX.thenR) | (apply EX.inR)))
    exact EX.ret1 rfl rfl ⟨rfl, hE⟩
  have hk4 : ¬ k = 4 := by simpa using h
  clear h
  (repeat (first | (apply WL.pure; rfl; rfl; rfl) | (apply WL.nil) | (apply EX.thenN) | (apply CW.seq) | (apply CW.region)))
  refine CW.cond rfl (fun h => ?_) (fun h => ?_)
  · have hk : k = 5 := by simpa using h
    subst hk
    have h0l : 0 < ks.length := by simp [kidsK] at hkk; omega
    have g0 := get0 h0l
    have h1l : 1 < ks.length := by simp [kidsK] at hkk; omega
    have g1 := get1 h1l
    have e0 : (ks.getD 0 []).getD i false = (ks[0])[i]'(by have := g0.2; omega) := getC _ _ _ (by have := g0.2; omega) g0.1
    have e1 : (ks.getD 1 []).getD i false = (ks[1])[i]'(by have := g1.2; omega) := getC _ _ _ (by have := g1.2; omega) g1.1
    have hat : atC 5 n ks i letter later nx = ((ks[0])[i]'(by have := g0.2; omega) && (ks[1])[i]'(by have := g1.2; omega)) := by
      unfold atC
      rw [if_neg (by decide), if_neg (by decide), if_neg (by decide), if_pos rfl, e0, e1]
    rw [hat]
    clear hat
    (repeat (first | (apply WL.pure; rfl; rfl; rfl) | (apply CW.seq) | (apply CW.region)))
    refine WL.elemN (α := List Bool) (i := 0) rfl rfl rfl rfl rfl hks h0l (fun _ => rfl) (fun u q hu => ?_)
    obtain ⟨a1, c1, rfl, hsu⟩ := hu.sl
    (repeat (apply WL.pure; rfl; rfl; rfl))
    refine WL.elemB (i := i) rfl rfl rfl rfl rfl hsu (by have := g0.2; omega) rfl (fun _ => rfl) (fun q => ?_)
    cases hA : (ks[0])[i]'(by have := g0.2; omega)
    · (repeat (first | (apply WL.pure; rfl; rfl; rfl) | (apply WL.nil) | (apply EX.thenN) | (apply WL.pass; rfl; rfl) | (apply CW.ret) | (apply EX.thenR) | (apply EX.inR)))
      exact EX.ret1 rfl rfl ⟨rfl, hE⟩
    · (repeat (apply WL.pure; rfl; rfl; rfl))
      refine WL.elemN (α := List Bool) (i := 1) rfl rfl rfl rfl rfl hks h1l (fun _ => rfl) (fun u q hu => ?_)
      obtain ⟨a1, c1, rfl, hsu⟩ := hu.sl
      (repeat (apply WL.pure; rfl; rfl; rfl))
      refine WL.elemB (i := i) rfl rfl rfl rfl rfl hsu (by have := g1.2; omega) rfl (fun _ => rfl) (fun q => ?_)
      (repeat (first | (apply WL.pure; rfl; rfl; rfl) | (apply WL.nil) | (apply EX.thenN) | (apply CW.ret) | (apply EX.thenR) | (apply EX.inR)))
      exact EX.ret1 rfl rfl ⟨rfl, hE⟩
  have hk5 : ¬ k = 5 := by simpa using h
  clear h
  (repeat (first | (apply WL.pure; rfl; rfl; rfl) | (apply WL.nil) | (apply EX.thenN) | (apply CW.seq) | (apply CW.region)))
  refine CW.cond rfl (fun h => ?_) (fun h => ?_)
  · have hk : k = 6 := by simpa using h
    subst hk
    have h0l : 0 < ks.length := by simp [kidsK] at hkk; omega
    have g0 := get0 h0l
    have h1l : 1 < ks.length := by simp [kidsK] at hkk; omega
    have g1 := get1 h1l
    have e0 : (ks.getD 0 []).getD i false = (ks[0])[i]'(by have := g0.2; omega) := getC _ _ _ (by have := g0.2; omega) g0.1
    have e1 : (ks.getD 1 []).getD i false = (ks[1])[i]'(by have := g1.2; omega) := getC _ _ _ (by have := g1.2; omega) g1.1
    have hat : atC 6 n ks i letter later nx = ((ks[0])[i]'(by have := g0.2; omega) || (ks[1])[i]'(by have := g1.2; omega)) := by
      unfold atC
      rw [if_neg (by decide), if_neg (by decide), if_neg (by decide), if_neg (by decide), if_pos rfl, e0, e1]
    rw [hat]
    clear hat
    (repeat (first | (apply WL.pure; rfl; rfl; rfl) | (apply CW.seq) | (apply CW.region)))
    refine WL.elemN (α := List Bool) (i := 0) rfl rfl rfl rfl rfl hks h0l (fun _ => rfl) (fun u q hu => ?_)
    obtain ⟨a1, c1, rfl, hsu⟩ := hu.sl
    (repeat (apply WL.pure; rfl; rfl; rfl))
    refine WL.elemB (i := i) rfl rfl rfl rfl rfl hsu (by have := g0.2; omega) rfl (fun _ => rfl) (fun q => ?_)
    cases hA : (ks[0])[i]'(by have := g0.2; omega)
    · (repeat (apply WL.pure; rfl; rfl; rfl))
      refine WL.elemN (α := List Bool) (i := 1) rfl rfl rfl rfl rfl hks h1l (fun _ => rfl) (fun u q hu => ?_)
      obtain ⟨a1, c1, rfl, hsu⟩ := hu.sl
      (repeat (apply WL.pure; rfl; rfl; rfl))
      refine WL.elemB (i := i) rfl rfl rfl rfl rfl hsu (by have := g1.2; omega) rfl (fun _ => rfl) (fun q => ?_)
      (repeat (first | (apply WL.pure; rfl; rfl; rfl) | (apply WL.nil) | (apply EX.thenN) | (apply CW.ret) | (apply EX.thenR) | (apply EX.inR)))
      exact EX.ret1 rfl rfl ⟨rfl, hE⟩
    · (repeat (first | (apply WL.pure; rfl; rfl; rfl) | (apply WL.nil) | (apply EX.thenN) | (apply WL.pass; rfl; rfl) | (apply CW.ret) | (apply EX.thenR) | (apply EX.inR)))
      exact EX.ret1 rfl rfl ⟨rfl, hE⟩
  have hk6 : ¬ k = 6 := by simpa using h
  clear h
  (repeat (first | (apply WL.pure; rfl; rfl; rfl) | (apply WL.nil) | (apply EX.thenN) | (apply CW.seq) | (apply CW.region)))
  refine CW.cond rfl (fun h => ?_) (fun h => ?_)
  · have hk : k = 7 := by simpa using h
    subst hk
    have h0l : 0 < ks.length := by simp [kidsK] at hkk; omega
    have g0 := get0 h0l
    have e0 : (ks.getD 0 []).getD nx false = (ks[0])[nx]'(by have := g0.2; omega) := getC _ _ _ (by have := g0.2; omega) g0.1
    have hat : atC 7 n ks i letter later nx = ((ks[0])[nx]'(by have := g0.2; omega)) := by
      unfold atC
      rw [if_neg (by decide), if_neg (by decide), if_neg (by decide), if_neg (by decide), if_neg (by decide), if_pos rfl, e0]
    rw [hat]
    clear hat
    (repeat (first | (apply WL.pure; rfl; rfl; rfl) | (apply CW.seq) | (apply CW.region)))
    refine WL.elemN (α := List Bool) (i := 0) rfl rfl rfl rfl rfl hks h0l (fun _ => rfl) (fun u q hu => ?_)
    obtain ⟨a1, c1, rfl, hsu⟩ := hu.sl
    (repeat (apply WL.pure; rfl; rfl; rfl))
    refine WL.elemB (i := nx) rfl rfl rfl rfl rfl hsu (by have := g0.2; omega) rfl (fun _ => rfl) (fun q => ?_)
    (repeat (first | (apply WL.pure; rfl; rfl; rfl) | (apply WL.nil) | (apply EX.thenN) | (apply CW.ret) | (apply EX.thenR) | (apply EX.inR)))
    exact EX.ret1 rfl rfl ⟨rfl, hE⟩
  have hk7 : ¬ k = 7 := by simpa using h
  clear h
  (repeat (first | (apply WL.pure; rfl; rfl; rfl) | (apply WL.nil) | (apply EX.thenN) | (apply CW.seq) | (apply CW.region)))
  refine CW.cond rfl (fun h => ?_) (fun h => ?_)
  · have hk : k = 10 := by simpa using h
    subst hk
    have h0l : 0 < ks.length := by simp [kidsK] at hkk; omega
    have g0 := get0 h0l
    have e0 : (ks.getD 0 []).getD i false = (ks[0])[i]'(by have := g0.2; omega) := getC _ _ _ (by have := g0.2; omega) g0.1
    have hat : atC 10 n ks i letter later nx = ((ks[0])[i]'(by have := g0.2; omega) || later) := by
      unfold atC
      rw [if_neg (by decide), if_neg (by decide), if_neg (by decide), if_neg (by decide), if_neg (by decide), if_neg (by decide), if_pos rfl, e0]
    rw [hat]
    clear hat
    (repeat (first | (apply WL.pure; rfl; rfl; rfl) | (apply CW.seq) | (apply CW.region)))
    refine WL.elemN (α := List Bool) (i := 0) rfl rfl rfl rfl rfl hks h0l (fun _ => rfl) (fun u q hu => ?_)
    obtain ⟨a1, c1, rfl, hsu⟩ := hu.sl
    (repeat (apply WL.pure; rfl; rfl; rfl))
    refine WL.elemB (i := i) rfl rfl rfl rfl rfl hsu (by have := g0.2; omega) rfl (fun _ => rfl) (fun q => ?_)
    cases hA : (ks[0])[i]'(by have := g0.2; omega)
    · (repeat (first | (apply WL.pure; rfl; rfl; rfl) | (apply WL.nil) | (apply EX.thenN) | (apply CW.ret) | (apply EX.thenR) | (apply EX.inR)))
      exact EX.ret1 rfl rfl ⟨rfl, hE⟩
    · (repeat (first | (apply WL.pure; rfl; rfl; rfl) | (apply WL.nil) | (apply EX.thenN) | (apply WL.pass; rfl; rfl) | (apply CW.ret) | (apply EX.thenR) | (apply EX.inR)))
      exact EX.ret1 rfl rfl ⟨rfl, hE⟩
  have hk10 : ¬ k = 10 := by simpa using h
  clear h
  (repeat (first | (apply WL.pure; rfl; rfl; rfl) | (apply WL.nil) | (apply EX.thenN) | (apply CW.seq) | (apply CW.region)))
  refine CW.cond rfl (fun h => ?_) (fun h => ?_)
  · have hk : k = 11 := by simpa using h
    subst hk
    have h0l : 0 < ks.length := by simp [kidsK] at hkk; omega
    have g0 := get0 h0l
    have e0 : (ks.getD 0 []).getD i false = (ks[0])[i]'(by have := g0.2; omega) := getC _ _ _ (by have := g0.2; omega) g0.1
    have hat : atC 11 n ks i letter later nx = ((ks[0])[i]'(by have := g0.2; omega) && later) := by
      unfold atC
      rw [if_neg (by decide), if_neg (by decide), if_neg (by decide), if_neg (by decide), if_neg (by decide), if_neg (by decide), if_neg (by decide), if_pos rfl, e0]
    rw [hat]
    clear hat
    (repeat (first | (apply WL.pure; rfl; rfl; rfl) | (apply CW.seq) | (apply CW.region)))
    refine WL.elemN (α := List Bool) (i := 0) rfl rfl rfl rfl rfl hks h0l (fun _ => rfl) (fun u q hu => ?_)
    obtain ⟨a1, c1, rfl, hsu⟩ := hu.sl
    (repeat (apply WL.pure; rfl; rfl; rfl))
    refine WL.elemB (i := i) rfl rfl rfl rfl rfl hsu (by have := g0.2; omega) rfl (fun _ => rfl) (fun q => ?_)
    cases hA : (ks[0])[i]'(by have := g0.2; omega)
    · (repeat (first | (apply WL.pure; rfl; rfl; rfl) | (apply WL.nil) | (apply EX.thenN) | (apply WL.pass; rfl; rfl) | (apply CW.ret) | (apply EX.thenR) | (apply EX.inR)))
      exact EX.ret1 rfl rfl ⟨rfl, hE⟩
    · (repeat (first | (apply WL.pure; rfl; rfl; rfl) | (apply WL.nil) | (apply EX.thenN) | (apply CW.ret) | (apply EX.thenR) | (apply EX.inR)))
      exact EX.ret1 rfl rfl ⟨rfl, hE⟩
  have hk11 : ¬ k = 11 := by simpa using h
  clear h
  (repeat (first | (apply WL.pure; rfl; rfl; rfl) | (apply WL.nil) | (apply EX.thenN) | (apply CW.seq) | (apply CW.region)))
  refine CW.cond rfl (fun h => ?_) (fun h => ?_)
  · have hk : k = 8 := by simpa using h
    subst hk
    have h0l : 0 < ks.length := by simp [kidsK] at hkk; omega
    have g0 := get0 h0l
    have h1l : 1 < ks.length := by simp [kidsK] at hkk; omega
    have g1 := get1 h1l
    have e0 : (ks.getD 1 []).getD i false = (ks[1])[i]'(by have := g1.2; omega) := getC _ _ _ (by have := g1.2; omega) g1.1
    have e1 : (ks.getD 0 []).getD i false = (ks[0])[i]'(by have := g0.2; omega) := getC _ _ _ (by have := g0.2; omega) g0.1
    have hat : atC 8 n ks i letter later nx = ((ks[1])[i]'(by have := g1.2; omega) || ((ks[0])[i]'(by have := g0.2; omega) && later)) := by
      unfold atC
      rw [if_neg (by decide), if_neg (by decide), if_neg (by decide), if_neg (by decide), if_neg (by decide), if_neg (by decide), if_neg (by decide), if_neg (by decide), if_pos rfl, e0, e1]
    rw [hat]
    clear hat
    (repeat (first | (apply WL.pure; rfl; rfl; rfl) | (apply CW.seq) | (apply CW.region)))
    refine WL.elemN (α := List Bool) (i := 1) rfl rfl rfl rfl rfl hks h1l (fun _ => rfl) (fun u q hu => ?_)
    obtain ⟨a1, c1, rfl, hsu⟩ := hu.sl
    (repeat (apply WL.pure; rfl; rfl; rfl))
    refine WL.elemB (i := i) rfl rfl rfl rfl rfl hsu (by have := g1.2; omega) rfl (fun _ => rfl) (fun q => ?_)
    cases hA : (ks[1])[i]'(by have := g1.2; omega)
    · (repeat (apply WL.pure; rfl; rfl; rfl))
      refine WL.elemN (α := List Bool) (i := 0) rfl rfl rfl rfl rfl hks h0l (fun _ => rfl) (fun u q hu => ?_)
      obtain ⟨a1, c1, rfl, hsu⟩ := hu.sl
      (repeat (apply WL.pure; rfl; rfl; rfl))
      refine WL.elemB (i := i) rfl rfl rfl rfl rfl hsu (by have := g0.2; omega) rfl (fun _ => rfl) (fun q => ?_)
      cases hB : (ks[0])[i]'(by have := g0.2; omega)
      · (repeat (first | (apply WL.pure; rfl; rfl; rfl) | (apply WL.nil) | (apply EX.thenN) | (apply WL.pass; rfl; rfl) | (apply CW.ret) | (apply EX.thenR) | (apply EX.inR)))
        exact EX.ret1 rfl rfl ⟨rfl, hE⟩
      · (repeat (first | (apply WL.pure; rfl; rfl; rfl) | (apply WL.nil) | (apply EX.thenN) | (apply CW.ret) | (apply EX.thenR) | (apply EX.inR)))
        exact EX.ret1 rfl rfl ⟨rfl, hE⟩
    · (repeat (first | (apply WL.pure; rfl; rfl; rfl) | (apply WL.nil) | (apply EX.thenN) | (apply WL.pass; rfl; rfl) | (apply CW.ret) | (apply EX.thenR) | (apply EX.inR)))
      exact EX.ret1 rfl rfl ⟨rfl, hE⟩
  have hk8 : ¬ k = 8 := by simpa using h
  clear h
  (repeat (first | (apply WL.pure; rfl; rfl; rfl) | (apply WL.nil) | (apply EX.thenN) | (apply CW.seq) | (apply CW.region)))
  refine CW.cond rfl (fun h => ?_) (fun h => ?_)
  · have hk : k = 9 := by simpa using h
    subst hk
    have h0l : 0 < ks.length := by simp [kidsK] at hkk; omega
    have g0 := get0 h0l
    have h1l : 1 < ks.length := by simp [kidsK] at hkk; omega
    have g1 := get1 h1l
    have e0 : (ks.getD 1 []).getD i false = (ks[1])[i]'(by have := g1.2; omega) := getC _ _ _ (by have := g1.2; omega) g1.1
    have e1 : (ks.getD 0 []).getD i false = (ks[0])[i]'(by have := g0.2; omega) := getC _ _ _ (by have := g0.2; omega) g0.1
    have hat : atC 9 n ks i letter later nx = ((ks[1])[i]'(by have := g1.2; omega) && ((ks[0])[i]'(by have := g0.2; omega) || later)) := by
      unfold atC
      rw [if_neg (by decide), if_neg (by decide), if_neg (by decide), if_neg (by decide), if_neg (by decide), if_neg (by decide), if_neg (by decide), if_neg (by decide), if_neg (by decide), if_pos rfl, e0, e1]
    rw [hat]
    clear hat
    (repeat (first | (apply WL.pure; rfl; rfl; rfl) | (apply CW.seq) | (apply CW.region)))
    refine WL.elemN (α := List Bool) (i := 1) rfl rfl rfl rfl rfl hks h1l (fun _ => rfl) (fun u q hu => ?_)
    obtain ⟨a1, c1, rfl, hsu⟩ := hu.sl
    (repeat (apply WL.pure; rfl; rfl; rfl))
    refine WL.elemB (i := i) rfl rfl rfl rfl rfl hsu (by have := g1.2; omega) rfl (fun _ => rfl) (fun q => ?_)
    cases hA : (ks[1])[i]'(by have := g1.2; omega)
    · (repeat (first | (apply WL.pure; rfl; rfl; rfl) | (apply WL.nil) | (apply EX.thenN) | (apply WL.pass; rfl; rfl) | (apply CW.ret) | (apply EX.thenR) | (apply EX.inR)))
      exact EX.ret1 rfl rfl ⟨rfl, hE⟩
    · (repeat (apply WL.pure; rfl; rfl; rfl))
      refine WL.elemN (α := List Bool) (i := 0) rfl rfl rfl rfl rfl hks h0l (fun _ => rfl) (fun u q hu => ?_)
      obtain ⟨a1, c1, rfl, hsu⟩ := hu.sl
      (repeat (apply WL.pure; rfl; rfl; rfl))
      refine WL.elemB (i := i) rfl rfl rfl rfl rfl hsu (by have := g0.2; omega) rfl (fun _ => rfl) (fun q => ?_)
      cases hB : (ks[0])[i]'(by have := g0.2; omega)
      · (repeat (first | (apply WL.pure; rfl; rfl; rfl) | (apply WL.nil) | (apply EX.thenN) | (apply CW.ret) | (apply EX.thenR) | (apply EX.inR)))
        exact EX.ret1 rfl rfl ⟨rfl, hE⟩
      · (repeat (first | (apply WL.pure; rfl; rfl; rfl) | (apply WL.nil) | (apply EX.thenN) | (apply WL.pass; rfl; rfl) | (apply CW.ret) | (apply EX.thenR) | (apply EX.inR)))
        exact EX.ret1 rfl rfl ⟨rfl, hE⟩
  have hk9 : ¬ k = 9 := by simpa using h
  clear h
  (repeat (first | (apply WL.pure; rfl; rfl; rfl) | (apply WL.nil) | (apply EX.thenN) | (apply CW.seq) | (apply CW.region) | (apply EX.inN) | (apply CW.ret) | (apply CW.skip)))
  rw [show atC k n ks i letter later nx = false from by
    unfold atC
    rw [if_neg hk1, if_neg hk3, if_neg hk4, if_neg hk5, if_neg hk6, if_neg hk7, if_neg hk10, if_neg hk11, if_neg hk8, if_neg hk9]]
  exact EX.ret1 rfl rfl ⟨rfl, hE⟩
end Go.Proofs.Ytadbkppgaekmpaa
/-
  watchkeep.unrolled: a word written otherwise.
-/
set_option linter.unusedVariables false
set_option linter.unusedSimpArgs false
namespace Go.Proofs.Ytadbkppgaekmpaa
open Go.RowKit

theorem rest_ok (w : World) (n m : Int) (hm : 0 < m) (hm2 : m < 4611686018427387904) : Rt Try.prog 60 [.int .i64 n, .int .i64 m].toArray w fun v w' => v = .int .i64 (n % m) ∧ w = w' := by
  refine Rt.enter2 Try.func60 Try.ntmps60 rfl rfl ?_
  have h1 := Int.tmod_add_mul_tdiv n m
  have h2 : n.tmod m < m := Int.tmod_lt_of_pos n hm
  have h3 : -m < n.tmod m := by
    have := Int.tmod_lt_of_pos (-n) hm
    rw [Int.neg_tmod] at this; omega
  have hpos : 0 ≤ n.tmod m → n.tmod m = n % m := fun h => by
    have e : n % m = (n.tmod m + m * n.tdiv m) % m := by rw [h1]
    rw [e, Int.add_mul_emod_self_left, Int.emod_eq_of_lt h h2]
  have hneg : n.tmod m < 0 → n.tmod m + m = n % m := fun h => by
    have e : n % m = ((n.tmod m + m) + m * (n.tdiv m - 1)) % m := by rw [Int.mul_sub]; congr 1; omega
    rw [e, Int.add_mul_emod_self_left, Int.emod_eq_of_lt (by omega) (by omega)]
  (repeat (first | (apply WL.pure; rfl; rfl; rfl) | (apply WL.nil) | (apply EX.thenN) | (apply CW.seq) | (apply CW.region)))
  refine WL.remT rfl rfl rfl rfl (by omega) ?_
  (repeat (first | (apply WL.pure; rfl; rfl; rfl) | (apply WL.nil) | (apply EX.thenN) | (apply CW.seq) | (apply CW.region)))
  refine CW.cond rfl (fun h => ?_) (fun h => ?_) <;> simp only [decide_eq_true_eq, decide_eq_false_iff_not] at h
  · (repeat (first | (apply WL.add; rfl; rfl; rfl; rfl; omega; omega) | (apply WL.pure; rfl; rfl; rfl) | (apply WL.nil) | (apply EX.thenN) | (apply CW.seq) | (apply CW.region) | (apply CW.ret)))
    exact EX.ret1 rfl rfl ⟨congrArg (Value.int .i64) (hneg h), rfl⟩
  · (repeat (first | (apply WL.pure; rfl; rfl; rfl) | (apply WL.nil) | (apply EX.thenN) | (apply CW.seq) | (apply CW.region) | (apply CW.ret) | (apply CW.skip)))
    exact EX.ret1 rfl rfl ⟨congrArg (Value.int .i64) (hpos (by omega)), rfl⟩
theorem clone_u64 (w0 : World) {F : Nat → Prop} {ao : Option Addr} {cap : Nat} {xs : List Nat} (hs : Sl w0 F ao cap xs) (hF : ∀ b, F b → b < w0.heap.size) (hb : xs.length * 8 ≤ 140737488355328) :
    Rt Try.prog 134 [.slice ao xs.length cap].toArray w0 fun v w' => Own w' w0.heap.size 33 Non v xs ∧ Ext w0 w' := by
  have hm := hs.len63
  refine Rt.enter1 Try.func134 Try.ntmps134 rfl rfl ?_
  (repeat (first | (apply WL.pure; rfl; rfl; rfl) | (apply WL.nil) | (apply EX.thenN) | (apply CW.seq) | (apply CW.region) | (apply WL.isNil; rfl; rfl; rfl)))
  refine CW.cond rfl (fun h => ?_) (fun h => ?_)
  · (repeat (first | (apply WL.pure; rfl; rfl; rfl) | (apply WL.nil) | (apply EX.thenN) | (apply CW.seq) | (apply CW.region) | (apply CW.ret) | (apply EX.thenR)))
    refine EX.ret1 rfl rfl ⟨?_, Ext.refl _⟩
    have h0 : ao = none := by simpa using h
    have : xs = [] := List.eq_nil_of_length_eq_zero (by have := hs.nil h0; have := hs.le; omega)
    subst this
    exact Own.nil
  · (repeat (first | (apply EX.thenN) | (apply CW.seq) | (apply CW.region) | (apply CW.skip)))
    refine WL.lit0 (α := Nat) rfl rfl (fun w1 ho hg => ?_)
    (repeat (apply WL.pure; rfl; rfl; rfl))
    have hE : Ext w0 w1 := (Below.refl _ _).grown hg (Nat.le_refl _) (fun k h => by cases h)
    refine WL.app (F := Non) rfl rfl rfl rfl ho (hs.up0 hE hF).srcN hE.size (fun _ h => h.elim) (by simp [maxLen]; omega) (by simpa using hb) (fun v w2 ho2 hg2 _ => ?_)
    (repeat (first | (apply WL.pure; rfl; rfl; rfl) | (apply WL.nil) | (apply EX.thenN) | (apply CW.ret)))
    refine EX.ret1 rfl rfl ⟨by simpa using ho2, hE.grown hg2 hE.size ?_⟩
    intro k hk
    exact (ho.lt k hk).1
/-- blocks that are new since w -/
def Fresh (w w' : World) : Nat → Prop := fun b => w.heap.size ≤ b ∧ b < w'.heap.size
end Go.Proofs.Ytadbkppgaekmpaa
