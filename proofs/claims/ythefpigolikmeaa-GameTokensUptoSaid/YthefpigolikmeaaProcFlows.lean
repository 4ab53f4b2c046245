/-
  ProcFlows: walked.
-/
import Derived.Test.YthefpigolikmeaaProc3
set_option linter.unusedVariables false
set_option linter.unusedSimpArgs false
namespace Go.Proofs.Ythefpigolikmeaa
open Go.RowKit

theorem Cells.tl {w : World} {b o : Nat} {x : Value} {r : List Value} (h : Cells w b o (x :: r)) : Cells w b (o + 1) r := fun j u hu => by
  have := h (j + 1) u (by simpa using hu)
  rwa [show o + (j + 1) = o + 1 + j by omega] at this
/-- the cells of a list's element that is a pair of numbers -/
theorem Sl.pair {w : World} {F : Nat → Prop} {ao : Option Addr} {cap : Nat} {xs : List (Int × Int)} (h : Sl w F ao cap xs) {i : Nat} (hi : i < xs.length) : ∃ b off, ao = some ⟨b, off, none⟩ ∧ F b ∧ Cells w b (off + i * 2) [.int .i64 xs[i].1] ∧ Cells w b (off + i * 2 + 1) [.int .i64 xs[i].2] := by
  obtain ⟨b, off, e, hb, es, hc, hr⟩ := h.el i hi
  obtain ⟨c1, c2, rfl, h1, h2⟩ := rd_pr hr
  rw [rd_int h1, rd_int h2] at hc
  exact ⟨b, off, e, hb, fun j u hu => hc j u (by cases j with | zero => simpa using hu | succ j => simp at hu), hc.tl⟩
theorem flows1 (w : World) (b b' : Nat) {so fo : Option Addr} {sc fc k : Nat} {fl : List LFlow} {f : Nat} {n : Int} (hb : Blk w b 44 [.slice so k sc, .slice fo fl.length fc]) (hb' : Blk w b' 3 [.int .i64 n]) (hf : Sl w (Old w) fo fc fl) (hlt : f < fl.length) :
    Rt Try.prog 32 [.int .i64 (f : Int), .pointer (some ⟨b, 0, none⟩), .pointer (some ⟨b', 0, none⟩)].toArray w fun v w' => v = .bool ((fl.getD f (0, 0)).2 != n) ∧ Ext w w' := by
  obtain ⟨fb, off, rfl, hfb, _, hc2⟩ := hf.pair hlt
  refine Rt.enter3 Try.func32 Try.ntmps32 rfl rfl ?_
  (repeat (first | (apply WL.pure; rfl; rfl; rfl) | (apply QL.pure; rfl; rfl; rfl) | (apply WL.nil) | (apply EX.thenN) | (apply CW.seq) | (apply CW.region) | (apply QL.fa; rfl; rfl; rfl) | (apply QL.ld; rfl; rfl; rfl; assumption; rfl) | (apply CW.draw; exact mixed; kernel_rfl)))
  refine QL.idx (α := LFlow) rfl rfl rfl rfl (by omega) (by omega) ?_
  (repeat (apply QL.fa; rfl; rfl; rfl))
  refine QL.load (α := Int) (F := Non) (y := fl[f].2) rfl rfl rfl hfb (fun _ h => h.elim) (by rw [Int.toNat_natCast]; exact hc2) rfl ?_
  (repeat (first | (apply QL.pure; rfl; rfl; rfl) | (apply QL.ld; rfl; rfl; rfl; assumption; rfl)))
  refine QL.nil (fun w2 e2 => ?_)
  (repeat (first | (apply EX.thenN) | (apply CW.ret)))
  exact EX.ret1 rfl rfl ⟨by rw [getDF_at hlt], e2⟩
theorem flows2 (w : World) (b b' : Nat) {so fo : Option Addr} {sc fc k : Nat} {fl : List LFlow} {f : Nat} {n : Int} (hb : Blk w b 44 [.slice so k sc, .slice fo fl.length fc]) (hb' : Blk w b' 3 [.int .i64 n]) (hf : Sl w (Old w) fo fc fl) (hlt : f < fl.length) :
    Rt Try.prog 33 [.int .i64 (f : Int), .pointer (some ⟨b, 0, none⟩), .pointer (some ⟨b', 0, none⟩)].toArray w fun v w' => v = .bool ((fl.getD f (0, 0)).1 != n) ∧ Ext w w' := by
  obtain ⟨fb, off, rfl, hfb, hc1, _⟩ := hf.pair hlt
  refine Rt.enter3 Try.func33 Try.ntmps33 rfl rfl ?_
  (repeat (first | (apply WL.pure; rfl; rfl; rfl) | (apply QL.pure; rfl; rfl; rfl) | (apply WL.nil) | (apply EX.thenN) | (apply CW.seq) | (apply CW.region) | (apply QL.fa; rfl; rfl; rfl) | (apply QL.ld; rfl; rfl; rfl; assumption; rfl) | (apply CW.draw; exact mixed; kernel_rfl)))
  refine QL.idx (α := LFlow) rfl rfl rfl rfl (by omega) (by omega) ?_
  (repeat (apply QL.fa; rfl; rfl; rfl))
  refine QL.load (α := Int) (F := Non) (y := fl[f].1) rfl rfl rfl hfb (fun _ h => h.elim) (by rw [Int.toNat_natCast]; exact hc1) rfl ?_
  (repeat (first | (apply QL.pure; rfl; rfl; rfl) | (apply QL.ld; rfl; rfl; rfl; assumption; rfl)))
  refine QL.nil (fun w2 e2 => ?_)
  (repeat (first | (apply EX.thenN) | (apply CW.ret)))
  exact EX.ret1 rfl rfl ⟨by rw [getDF_at hlt], e2⟩
def insSum (fl : List LFlow) (n : Nat) : Nat := ((List.range n).map fun k : Nat => (insL fl (k : Int)).length).sum
def outsSum (fl : List LFlow) (n : Nat) : Nat := ((List.range n).map fun k : Nat => (outsL fl (k : Int)).length).sum
theorem insSum_next {fl : List LFlow} {n : Nat} : insSum fl (n + 1) = insSum fl n + (insL fl (n : Int)).length := by unfold insSum; rw [List.range_succ, List.map_append, List.sum_append]; simp
theorem outsSum_next {fl : List LFlow} {n : Nat} : outsSum fl (n + 1) = outsSum fl n + (outsL fl (n : Int)).length := by unfold outsSum; rw [List.range_succ, List.map_append, List.sum_append]; simp
theorem insSum_all {p : LProc} (h : OkPr p) : insSum p.2 p.1.length = p.2.length := by
  have := count_by (N := p.1.length) (fun i : Nat => (p.2.getD i (0, 0)).2) (List.range p.2.length) (fun i hi => by
    have hi := List.mem_range.1 hi
    rw [getDF_at hi]
    have := h.flows _ (List.getElem_mem hi)
    exact ⟨this.2.2.1, this.2.2.2⟩)
  rw [List.length_range] at this
  rw [← this]
  unfold insSum insL insP
  simp only [List.length_map]
theorem outsSum_all {p : LProc} (h : OkPr p) : outsSum p.2 p.1.length = p.2.length := by
  have := count_by (N := p.1.length) (fun i : Nat => (p.2.getD i (0, 0)).1) (List.range p.2.length) (fun i hi => by
    have hi := List.mem_range.1 hi
    rw [getDF_at hi]
    have := h.flows _ (List.getElem_mem hi)
    exact ⟨this.1, this.2.1⟩)
  rw [List.length_range] at this
  rw [← this]
  unfold outsSum outsL outsP
  simp only [List.length_map]
theorem insSum_le {fl : List LFlow} {n : Nat} (hl : fl.length ≤ 30) (hn : n ≤ 20) : insSum fl n ≤ 30 * n := by
  induction n with
  | zero => simp [insSum]
  | succ n ih =>
    rw [insSum_next]
    have : (insL fl (n : Int)).length ≤ fl.length := insP_len
    have := ih (by omega)
    omega
theorem outsSum_le {fl : List LFlow} {n : Nat} (hl : fl.length ≤ 30) (hn : n ≤ 20) : outsSum fl n ≤ 30 * n := by
  induction n with
  | zero => simp [outsSum]
  | succ n ih =>
    rw [outsSum_next]
    have : (outsL fl (n : Int)).length ≤ fl.length := outsP_len
    have := ih (by omega)
    omega
theorem listE_ok {p : LProc} (h : chkPr p = 0) {n : Nat} (hn : n < p.1.length) : listE p (n : Int) = 0 := by
  unfold listE
  rw [if_neg (by simp [h]), if_neg (by omega)]
set_option maxRecDepth 100000 in
theorem ProcFlows_ok (w0 : World) {so fo : Option Addr} {sc fc : Nat} {ns : List LNode} {fl : List LFlow} (hs : Sl w0 (Old w0) so sc ns) (hf : Sl w0 (Old w0) fo fc fl) :
    Rt Try.prog 4 [procV so sc fo fc ns.length fl.length].toArray w0 fun v w' => v = .bool true ∧ Ext w0 w' := by
  have hms := hs.len63
  have hmf := hf.len63
  refine Rt.enter1 Try.func4 Try.ntmps4 rfl rfl ?_
  have hE := Ext.refl w0
  (repeat (first | (apply CW.seq) | (apply CW.region)))
  refine WL.boxB rfl rfl rfl fun w1 hb1 e1 => ?_
  have hE := hE.trans e1
  (repeat (first | (apply WL.pure; rfl; rfl; rfl) | (apply WL.nil) | (apply EX.thenN) | (apply CW.seq) | (apply CW.region)))
  refine WL.call rfl rfl rfl (straight_ok w1) ?_
  rintro _ w2 ⟨⟨p1, q1, p2, q2, rfl, g1, g2⟩, e2⟩
  have hb1 := hb1.ext e2
  have hE := hE.trans e2
  skip
  refine WL.call rfl rfl rfl (Outs_ok w2 (ns := straightP.1) (fl := straightP.2) g1 g2 1) ?_
  rintro _ w3 ⟨x, rfl, hox, e3⟩
  have hb1 := hb1.ext e3
  have hE := hE.trans e3
  have hl0 : listE (straightP.1, straightP.2) 1 = 0 := listE_ok straight_chk (n := 1) (by decide)
  rw [hl0, if_pos rfl, show outsL straightP.2 1 = [1] by decide] at hox
  rw [hl0]
  obtain ⟨xo, xc, rfl, hxs⟩ := hox.oldN.sl
  (repeat (first | (apply WL.pure; rfl; rfl; rfl) | (apply WL.nil) | (apply EX.thenN) | (apply CW.seq) | (apply CW.region)))
  refine WL.litR [(1 : Int)] rfl rfl rfl rfl rfl (.cons (Rd.mkInt _ _ _) .nil) (by decide) (fun v4 w4 e4 r4 _ => ?_)
  have hb1 := hb1.ext e4
  have hE := hE.trans e4
  obtain ⟨yo, yc, rfl, hys⟩ := r4.sl
  skip
  refine WL.call rfl rfl rfl (equal_int w4 (xs := [1]) (ys := [1]) (hxs.up e4) hys) ?_
  rintro _ w5 ⟨rfl, e5⟩
  have hb1 := hb1.ext e5
  have hE := hE.trans e5
  rw [show (([1] : List Int) == [1]) = true by decide]
  clear e1 e2 e3 e4 e5 hox hxs hys r4 g1 g2
  (repeat (first | (apply WL.pure; rfl; rfl; rfl) | (apply WL.nil) | (apply EX.thenN) | (apply CW.seq) | (apply CW.region) | (apply WL.ldA; rfl; rfl; rfl; assumption; rfl) | (apply CW.condF; rfl) | (apply CW.skip)))
  refine WL.call rfl rfl rfl (Check_pr w5 (hs.up hE) (hf.up hE)) ?_
  rintro _ w6 ⟨rfl, e6⟩
  have hb1 := hb1.ext e6
  have hE := hE.trans e6
  (repeat (first | (apply WL.pure; rfl; rfl; rfl) | (apply WL.nil) | (apply EX.thenN)))
  refine CW.cond rfl (fun h => ?_) (fun h => ?_)
  · have h : chkPr (ns, fl) ≠ 0 := by simpa using h
    have hl : listE (ns, fl) 0 = chkPr (ns, fl) := by unfold listE; rw [if_pos h]
    (repeat (first | (apply CW.seq) | (apply CW.region) | (apply WL.ldA; rfl; rfl; rfl; assumption; rfl)))
    refine WL.call rfl rfl rfl (Ins_ok w6 (hs.up hE) (hf.up hE) 0) ?_
    rintro _ w7 ⟨x, rfl, hox, e7⟩
    rw [hl, if_neg h] at hox
    rw [hl]
    have hb1 := hb1.ext e7
    have hE := hE.trans e7
    obtain ⟨xo, xc, rfl, hxs⟩ := hox.oldN.sl
    (repeat (first | (apply WL.pure; rfl; rfl; rfl) | (apply WL.nil) | (apply EX.thenN) | (apply CW.seq) | (apply CW.region) | (apply WL.ldA; rfl; rfl; rfl; assumption; rfl)))
    refine WL.call rfl rfl rfl (Check_pr w7 (hs.up hE) (hf.up hE)) ?_
    rintro _ w8 ⟨rfl, e8⟩
    have : (chkPr (ns, fl) == chkPr (ns, fl)) = true := by simp
    (repeat (apply WL.pure; rfl; rfl; rfl))
    rw [this]
    (repeat (first | (apply WL.pure; rfl; rfl; rfl) | (apply WL.nil) | (apply EX.thenN) | (apply WL.lenS; rfl; rfl; rfl) | (apply CW.ret) | (apply EX.thenR)))
    exact EX.ret1 rfl rfl ⟨rfl, hE.trans e8⟩
  have h : chkPr (ns, fl) = 0 := by simpa using h
  have hok := chkPr_ok h
  have hc0 := h
  have c1 := hok.n
  have c2 := hok.f
  dsimp only at c1 c2
  clear h
  (repeat (first | (apply WL.pure; rfl; rfl; rfl) | (apply WL.nil) | (apply EX.thenN) | (apply CW.seq) | (apply CW.region) | (apply WL.lenS; rfl; rfl; rfl) | (apply WL.fa; rfl; rfl; rfl) | (apply WL.ld; rfl; rfl; rfl; assumption; rfl) | (apply CW.block) | (apply CW.skip)))
  refine CW.loop (S := Nat) (fun i => [(1, .pointer (some ⟨w0.heap.size, 0, none⟩)), (7, .int .i64 (insSum fl i : Nat)), (8, .int .i64 (outsSum fl i : Nat)), (46, .int .i64 ns.length), (47, .int .i64 i)])
    (fun i w => i ≤ ns.length ∧ Ext w6 w) (fun i => ns.length - i) 0 ⟨rfl, rfl, rfl, rfl, rfl, trivial⟩ ⟨by omega, Ext.refl _⟩ ?_
  rintro i w7 ⟨hi, e7⟩
  have hb1 := hb1.ext e7
  have hE7 := hE.trans e7
  (repeat (first | (apply WL.pure; rfl; rfl; rfl) | (apply WL.nil) | (apply EX.thenN) | (apply CW.seq) | (apply CW.region)))
  refine CW.cond rfl (fun h => ?_) (fun h => ?_)
  · have hi' : i < ns.length := by simp at h; omega
    have hsi := insSum_next (fl := fl) (n := i)
    have hso := outsSum_next (fl := fl) (n := i)
    have hsl := insSum_le (n := i) c2 (by omega)
    have hsl2 := outsSum_le (n := i) c2 (by omega)
    have hil : (insL fl (i : Int)).length ≤ fl.length := insP_len
    have hol : (outsL fl (i : Int)).length ≤ fl.length := outsP_len
    have hle : listE (ns, fl) (i : Int) = 0 := listE_ok hc0 hi'
    (repeat (first | (apply WL.pure; rfl; rfl; rfl) | (apply EX.thenN) | (apply CW.seq) | (apply CW.region) | (apply CW.block) | (apply CW.skip)))
    refine WL.alloc rfl rfl (fun w8 hb9 e8 => ?_)
    skip
    refine WL.st rfl rfl rfl hb9 rfl rfl (ones_of rfl) (fun w9 hb9 hg9 => ?_)
    have e9 : Ext w7 w9 := e8.grown hg9 e8.size (fun g hg => by cases hg; exact Nat.le_refl _)
    have hb1 := hb1.ext e9
    have hE9 := hE7.trans e9
    (repeat (first | (apply WL.nil) | (apply EX.thenN) | (apply CW.seq) | (apply CW.region) | (apply WL.ld; rfl; rfl; rfl; assumption; rfl) | (apply WL.ldA; rfl; rfl; rfl; assumption; rfl)))
    refine WL.call rfl rfl rfl (Ins_ok w9 (hs.up hE9) (hf.up hE9) (i : Int)) ?_
    rintro _ w10 ⟨x, rfl, hox, e10⟩
    rw [hle, if_pos rfl] at hox
    rw [hle]
    have hb1 := hb1.ext e10
    have hb9 := hb9.ext e10
    have hE10 := hE9.trans e10
    obtain ⟨xo, xc, rfl, hxs⟩ := hox.oldN.sl
    (repeat (first | (apply WL.pure; rfl; rfl; rfl) | (apply WL.nil) | (apply EX.thenN) | (apply CW.seq) | (apply CW.region) | (apply WL.ld; rfl; rfl; rfl; assumption; rfl) | (apply WL.ldA; rfl; rfl; rfl; assumption; rfl)))
    refine WL.call rfl rfl rfl (Outs_ok w10 (hs.up hE10) (hf.up hE10) (i : Int)) ?_
    rintro _ w11 ⟨y, rfl, hoy, e11⟩
    rw [hle, if_pos rfl] at hoy
    rw [hle]
    have hb1 := hb1.ext e11
    have hb9 := hb9.ext e11
    have hE11 := hE10.trans e11
    have hxs := hxs.up e11
    obtain ⟨yo, yc, rfl, hys⟩ := hoy.oldN.sl
    (repeat (first | (apply WL.add; rfl; rfl; rfl; rfl; omega; omega) | (apply WL.pure; rfl; rfl; rfl) | (apply WL.nil) | (apply EX.thenN) | (apply CW.seq) | (apply CW.region) | (apply WL.lenS; rfl; rfl; rfl) | (apply WL.makeFunc; rfl; rfl; rfl; rfl)))
    have hany1 : (insL fl (i : Int)).any (fun x => (fl.getD x.toNat (0, 0)).2 != (i : Int)) = false := List.any_eq_false.2 (fun x hx => by
      obtain ⟨j, rfl, hj, he⟩ := insP_mem.1 hx
      rw [Int.toNat_natCast, he]; simp)
    have hany2 : (outsL fl (i : Int)).any (fun x => (fl.getD x.toNat (0, 0)).1 != (i : Int)) = false := List.any_eq_false.2 (fun x hx => by
      obtain ⟨j, rfl, hj, he⟩ := outsP_mem.1 hx
      rw [Int.toNat_natCast, he]; simp)
    refine WL.call rfl rfl rfl (containsFunc_int w11 (fun x => (fl.getD x.toNat (0, 0)).2 != (i : Int)) hxs (fun w hw j hj => ?_)) ?_
    · obtain ⟨f, ef, hlt, _⟩ := insP_mem.1 (List.getElem_mem hj)
      rw [ef, Int.toNat_natCast]
      exact FnV.mk (cs := [_, _]) (flows1 w _ _ (hb1.ext hw) (hb9.ext hw) (hf.up (hE11.trans hw)) hlt)
    rintro _ w12 ⟨rfl, e12⟩
    rw [hany1]
    have hb1 := hb1.ext e12
    have hb9 := hb9.ext e12
    have hE12 := hE11.trans e12
    (repeat (first | (apply WL.pure; rfl; rfl; rfl) | (apply WL.makeFunc; rfl; rfl; rfl; rfl)))
    refine WL.call rfl rfl rfl (containsFunc_int w12 (fun x => (fl.getD x.toNat (0, 0)).1 != (i : Int)) (hys.up e12) (fun w hw j hj => ?_)) ?_
    · obtain ⟨f, ef, hlt, _⟩ := outsP_mem.1 (List.getElem_mem hj)
      rw [ef, Int.toNat_natCast]
      exact FnV.mk (cs := [_, _]) (flows2 w _ _ (hb1.ext hw) (hb9.ext hw) (hf.up (hE12.trans hw)) hlt)
    rintro _ w13 ⟨rfl, e13⟩
    rw [hany2]
    (repeat (first | (apply WL.add; rfl; rfl; rfl; rfl; omega; omega) | (apply WL.pure; rfl; rfl; rfl) | (apply WL.nil) | (apply EX.thenN) | (apply CW.region) | (apply EX.inN) | (apply CW.condF; rfl) | (apply CW.skip)))
    have hc1 : ((insSum fl i : Nat) : Int) + ((insL fl (i : Int)).length : Int) = ((insSum fl (i + 1) : Nat) : Int) := by rw [hsi]; push_cast; rfl
    have hc2 : ((outsSum fl i : Nat) : Int) + ((outsL fl (i : Int)).length : Int) = ((outsSum fl (i + 1) : Nat) : Int) := by rw [hso]; push_cast; rfl
    rw [hc1, hc2]
    exact EX.back (i + 1) (by repeat (first | exact trivial | refine ⟨rfl, ?_⟩)) ⟨hi', ((((e7.trans e9).trans e10).trans e11).trans e12).trans e13⟩ (by omega)
  · obtain rfl : i = ns.length := by simp at h; omega
    have hA := insSum_all (p := (ns, fl)) hok
    have hB := outsSum_all (p := (ns, fl)) hok
    dsimp only at hA hB
    rw [hA, hB]
    have : ((fl.length : Int) == (fl.length : Int)) = true := by simp
    (repeat (first | (apply WL.pure; rfl; rfl; rfl) | (apply EX.thenN) | (apply CW.seq) | (apply CW.region) | (apply WL.lenS; rfl; rfl; rfl) | (apply WL.fa; rfl; rfl; rfl) | (apply WL.ld; rfl; rfl; rfl; assumption; rfl) | (apply CW.exit) | (apply EX.thenX) | (apply EX.inX)))
    rw [this]
    (repeat (first | (apply WL.pure; rfl; rfl; rfl) | (apply WL.nil) | (apply EX.thenN) | (apply WL.lenS; rfl; rfl; rfl) | (apply WL.fa; rfl; rfl; rfl) | (apply WL.ld; rfl; rfl; rfl; assumption; rfl) | (apply CW.ret)))
    exact EX.ret1 rfl rfl ⟨by rw [this], hE7⟩
end Go.Proofs.Ythefpigolikmeaa
