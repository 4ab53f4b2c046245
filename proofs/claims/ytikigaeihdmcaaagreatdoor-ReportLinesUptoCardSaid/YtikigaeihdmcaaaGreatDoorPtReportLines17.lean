import Derived.Stop.LaidTwo
import Derived.Test.YtikigaeihdmcaaaGreatDoorRows
import Derived.LaidLaws
import Derived.LaidHandle
import Derived.Test.YtikigaeihdmcaaaGreatDoorPtReportLines16
/-
  ReportLines, walked.
-/
set_option linter.unusedVariables false
set_option linter.unusedSimpArgs false
namespace Go.Proofs.YtikigaeihdmcaaaGreatDoor
open Go.RowKit

abbrev absR : LRule := (⟨#[114]⟩, 1, (1, 1, 0, 0, 0, 0, 0), tplZ, ltl0, ltl0)
def absRT : Bys := [114, 32, 97, 98, 115, 101, 110, 99, 101, 32, 97, 32, 103, 108, 111, 98, 97, 108, 10]
theorem absR_read : rulesT absRT [⟨#[97]⟩] = ([absR], 0, 0) := by kernel_rfl
instance iRep12 : IsF Tryz.prog 9 := ⟨_, Tryz.func9, rfl, by decide⟩
set_option maxRecDepth 10000 in
set_option maxHeartbeats 4000000 in
theorem reportLines_ok (w0 : World) (hM : MaxH w0) (hE : ErrH w0) {sa : Nat → Addr} (hSn : SenH w0 sa) {s : Bys} (hs : s.length ≤ 2147483648) {no : Option Addr} {nc : Nat} {nms : List ByteArray} (hn : Sl w0 (Old w0) no nc nms) :
    Rt Tryz.prog 5 [tV s, .slice no nms.length nc].toArray w0 fun v w' => v = .bool true ∧ Ext w0 w' := by
  refine Rt.enter2 Tryz.func5 Tryz.ntmps5 rfl rfl ?_
  (repeat (first | (apply WL.pure; rfl; rfl; rfl) | (apply WL.nil) | (apply EX.thenN) | (apply CW.seq) | (apply CW.region)))
  refine WL.lit (F := Non) (ys := [(⟨#[97]⟩ : ByteArray)]) rfl rfl rfl rfl rfl ⟨Rd.mkStr _ _ _ (by decide), trivial⟩ (by show 1 * 1 ≤ 16777216; decide) (fun _ h => h.elim) (fun w1 ho1 hg1 => ?_)
  have e1 : Ext w0 w1 := (Below.refl _ _).grown hg1 (Nat.le_refl _) (fun k h => by cases h)
  obtain ⟨mo, mc, he, hm1⟩ := ho1.oldN.sl
  obtain ⟨rfl, _, rfl⟩ := Value.slice.inj he
  have hp := rules_ok w1 (hM.ext e1) (hE.kept (e1.grw none) (by simp)) (hSn.low e1) (s := absRT) (by decide) (nms := [⟨#[97]⟩]) hm1
  rw [absR_read] at hp
  refine WL.call rfl rfl rfl hp ?_
  rintro _ w2 ⟨ao1, cap1, rfl, -, e2⟩
  have hE2 := e1.trans e2
  clear hp he ho1 hg1 hm1 e1 e2
  dsimp only
  (repeat (first | (apply WL.pure; rfl; rfl; rfl) | (apply WL.nil) | (apply EX.thenN) | (apply CW.seq) | (apply CW.region) | (apply WL.lenS; rfl; rfl; rfl) | (apply CW.condF; rfl) | (apply CW.skip)))
  refine WL.call rfl rfl rfl (rules_ok w2 (hM.ext hE2) (hE.kept (hE2.grw none) (by simp)) (hSn.low hE2) (s := s) hs (hn.up hE2)) ?_
  rintro _ w3 ⟨ao, cap, rfl, hl, e3⟩
  have hE3 := hE2.trans e3
  have herr := rulesT_err (s := s) (nms := nms)
  have hlaw := report_law (s := s) (nms := nms)
  generalize rulesT s nms = pr at *
  obtain ⟨l, a, e⟩ := pr
  dsimp only at hl herr hlaw ⊢
  by_cases he : e = 0
  case neg =>
    obtain ⟨rfl, ha⟩ := herr he
    (repeat (first | (apply WL.pure; rfl; rfl; rfl) | (apply WL.nil) | (apply EX.thenN) | (apply CW.seq) | (apply CW.region)))
    refine CW.cond rfl (fun h => ?_) (fun h => ?_)
    · (repeat (first | (apply WL.pure; rfl; rfl; rfl) | (apply CW.seq) | (apply CW.region) | (apply WL.lenS; rfl; rfl; rfl)))
      refine WL.call rfl rfl rfl (lines_ok w3 s hs) ?_
      rintro _ w4 ⟨⟨ao2, cap2, rfl⟩, e4⟩
      (repeat (first | (apply WL.pure; rfl; rfl; rfl) | (apply WL.nil) | (apply EX.thenN) | (apply WL.lenS; rfl; rfl; rfl) | (apply CW.ret) | (apply EX.thenR)))
      exact EX.ret1 rfl rfl ⟨by simp; omega, hE3.trans e4⟩
    · exact absurd (by simpa using h) he
  subst he
  obtain ⟨k1, k2, k3, k4⟩ := hlaw rfl
  clear herr hlaw
  (repeat (first | (apply WL.pure; rfl; rfl; rfl) | (apply WL.nil) | (apply EX.thenN) | (apply CW.seq) | (apply CW.region) | (apply WL.lenS; rfl; rfl; rfl) | (apply CW.block) | (apply CW.condF; rfl) | (apply CW.skip)))
  refine CW.loop (S := Nat) (fun i => [(0, tV s), (1, .slice no nms.length nc), (8, .slice ao l.length cap), (11, tV (outT nms (l.take i))), (51, .slice ao l.length cap), (52, .int .i64 l.length), (53, .int .i64 i)])
    (fun i w => i ≤ l.length ∧ Ext w3 w) (fun i => l.length - i) 0 (by repeat (first | exact trivial | refine ⟨rfl, ?_⟩)) ⟨by omega, Ext.refl _⟩ ?_
  rintro i w4 ⟨hi, e4⟩
  have hE4 := hE3.trans e4
  (repeat (first | (apply WL.pure; rfl; rfl; rfl) | (apply WL.nil) | (apply EX.thenN) | (apply CW.seq) | (apply CW.region)))
  refine CW.cond rfl (fun h => ?_) (fun h => ?_)
  · have h : i < l.length := by have : (i : Int) < l.length := by simpa using h
                                omega
    have hr := k3 _ (List.getElem_mem h)
    have hpn := printR_no hr
    (repeat (first | (apply EX.thenN) | (apply CW.seq) | (apply CW.region) | (apply CW.block) | (apply CW.skip)))
    refine WL.elemN (i := i) rfl rfl rfl rfl rfl (hl.at e4) h (fun _ => rfl) (fun u q hu => ?_)
    obtain ⟨lo, lc, co, cc, rfl, f1, f2, f3⟩ := hu.rule
    have htk : outT nms (l.take (i + 1)) = outT nms (l.take i) ++ ((printR l[i] nms).1 ++ [10]) := by
      rw [List.take_add_one, List.getElem?_eq_getElem h]
      exact outT_snoc _ _
    have hol : (outT nms (l.take i)).length ≤ 4330 * i := by
      have := outT_len (nms := nms) (l.take i) (fun r hr => k3 r (List.mem_of_mem_take hr))
      rw [List.length_take] at this
      omega
    generalize l[i] = r at *
    skip
    refine WL.alloc rfl rfl (fun w5 hb5 e5 => ?_)
    skip
    refine WL.st rfl rfl rfl hb5 rfl rfl (ones_of rfl) (fun w6 hb6 hg6 => ?_)
    have e6 : Ext w4 w6 := e5.grown hg6 e5.size (fun g hg => by cases hg; exact Nat.le_refl _)
    have hE6 := hE4.trans e6
    have z4 := e4.size
    have z6 := e6.size
    (repeat (first | (apply WL.pure; rfl; rfl; rfl) | (apply WL.nil) | (apply EX.thenN) | (apply CW.seq) | (apply CW.region) | (apply WL.ldA; rfl; rfl; rfl; assumption; rfl)))
    refine WL.call rfl rfl rfl (rprint_ok w6 (r := r) (f1.mono (fun c hc => e6.block c (by have : c < w3.heap.size := hc; omega)) (fun c hc => by have : c < w3.heap.size := hc; show c < _; omega)) (f2.mono (fun c hc => e6.block c (by have : c < w3.heap.size := hc; omega)) (fun c hc => by have : c < w3.heap.size := hc; show c < _; omega)) (hn.up hE6) f3) ?_
    rintro _ w7 ⟨rfl, e7⟩
    generalize printR r nms = pq at *
    obtain ⟨t, e⟩ := pq
    obtain ⟨hp1, hp2, hp3⟩ := hpn
    dsimp only at hp1 hp2 hp3 htk ⊢
    subst hp3
    (repeat (first | (apply WL.pure; rfl; rfl; rfl) | (apply WL.nil) | (apply EX.thenN) | (apply CW.seq) | (apply CW.region) | (apply CW.condF; rfl) | (apply CW.skip)))
    refine WL.cat (a := t) (b := [10]) rfl rfl rfl rfl (by simp only [List.length_cons, List.length_nil]; omega) ?_
    skip
    refine WL.cat (a := outT nms (l.take i)) (b := t ++ [10]) rfl rfl rfl rfl (by simp only [List.length_append, List.length_cons, List.length_nil]; omega) ?_
    rw [← htk]
    (repeat (first | (apply WL.add; rfl; rfl; rfl; rfl; omega; omega) | (apply WL.pure; rfl; rfl; rfl) | (apply WL.nil) | (apply EX.thenN) | (apply CW.region) | (apply EX.inN)))
    exact EX.back (i + 1) (by repeat (first | exact trivial | refine ⟨rfl, ?_⟩)) ⟨h, e4.trans (e6.trans e7)⟩ (by omega)
  have h : i = l.length := by
    have : ¬ (i : Int) < l.length := by simpa using h
    omega
  rw [h, List.take_length]
  have hol := outT_len (nms := nms) l k3
  (repeat (first | (apply WL.pure; rfl; rfl; rfl) | (apply EX.thenN) | (apply CW.seq) | (apply CW.region) | (apply CW.exit) | (apply EX.thenX) | (apply EX.inX)))
  refine WL.call rfl rfl rfl (rules_ok w4 (hM.ext hE4) (hE.kept (hE4.grw none) (by simp)) (hSn.low hE4) (s := outT nms l) (by omega) (hn.up hE4)) ?_
  rintro _ w5 ⟨ao2, cap2, rfl, hl2, e5⟩
  have hE5 := hE4.trans e5
  generalize rulesT (outT nms l) nms = pr at *
  obtain ⟨l2, a2, e2⟩ := pr
  dsimp only at k4 hl2 ⊢
  have hself : ((l.length : Int) == (l.length : Int)) = true := beq_self_eq_true _
  (repeat (first | (apply WL.pure; rfl; rfl; rfl) | (apply WL.nil) | (apply EX.thenN) | (apply CW.seq) | (apply CW.region) | (apply WL.lenS; rfl; rfl; rfl)))
  refine WL.call rfl rfl rfl (lines_ok w5 s hs) ?_
  rintro _ w6 ⟨⟨ao3, cap3, rfl⟩, e6⟩
  rw [← k1]
  have hE6 := hE5.trans e6
  have hl6 := hl.up (e4.trans (e5.trans e6))
  rcases k4 with h | rfl | rfl
  · obtain ⟨q1, q2⟩ := Prod.mk.inj h
    obtain ⟨q3, q4⟩ := Prod.mk.inj q2
    subst q1 q3 q4
    (repeat (first | (apply WL.pure; rfl; rfl; rfl) | (apply WL.lenS; rfl; rfl; rfl)))
    rw [hself]
    (repeat (apply WL.pure; rfl; rfl; rfl))
    refine WL.call rfl rfl rfl (equalFunc_rule w6 hl6 (hl2.up e6) (fun w hw i hi u u' hu hu' => by
      obtain ⟨lo, lc, co, cc, rfl, f1, f2, _⟩ := hu.rule
      obtain ⟨lo', lc', co', cc', rfl, f1', f2', _⟩ := hu'.rule
      exact FnV.mk (cs := []) (sameRule_ok w (f1.lift fun b hb => Nat.lt_of_lt_of_le hb hw.size) (f2.lift fun b hb => Nat.lt_of_lt_of_le hb hw.size) (f1'.lift fun b hb => Nat.lt_of_lt_of_le hb hw.size) (f2'.lift fun b hb => Nat.lt_of_lt_of_le hb hw.size)))) ?_
    rintro _ w7 ⟨rfl, e7⟩
    (repeat (first | (apply WL.pure; rfl; rfl; rfl) | (apply WL.nil) | (apply EX.thenN) | (apply CW.ret)))
    exact EX.ret1 rfl rfl ⟨rfl, hE6.trans e7⟩
  · (repeat (first | (apply WL.pure; rfl; rfl; rfl) | (apply WL.lenS; rfl; rfl; rfl)))
    rw [hself]
    (repeat (first | (apply WL.pure; rfl; rfl; rfl) | (apply WL.nil) | (apply EX.thenN) | (apply WL.pass; rfl; rfl) | (apply CW.ret)))
    exact EX.ret1 rfl rfl ⟨rfl, hE6⟩
  · (repeat (first | (apply WL.pure; rfl; rfl; rfl) | (apply WL.lenS; rfl; rfl; rfl)))
    rw [hself]
    (repeat (first | (apply WL.pure; rfl; rfl; rfl) | (apply WL.nil) | (apply EX.thenN) | (apply WL.pass; rfl; rfl) | (apply CW.ret)))
    exact EX.ret1 rfl rfl ⟨rfl, hE6⟩
end Go.Proofs.YtikigaeihdmcaaaGreatDoor

/-
  What the cell 'laid' gives of three sentinels. After Derived/Stop/LaidTwo's proof for two.
-/
set_option linter.unusedVariables false
set_option linter.unusedSimpArgs false
namespace Go.Proofs.YtikigaeihdmcaaaGreatDoor
open Go.RowKit

theorem laid_sentinels3 {P : Program} {n0 n1 n2 nm : String} {text0 text1 text2 : List UInt8} {r : List (String × DataW Unit)} {W : World} {g0 g1 g2 : Nat} {ti tp te ts : TypeId} {ms : Array (String × TypeId)} {f : Field}
    (h : laidMet P ((n0, .iface nm (.ptr (.agg [.lit (.string text0)]))) :: (n1, .iface nm (.ptr (.agg [.lit (.string text1)]))) :: (n2, .iface nm (.ptr (.agg [.lit (.string text2)]))) :: r) W)
    (hg0 : P.globalNamed n0 = some g0) (ht0 : (P.globals[g0]?).map (·.type) = some ti) (hg1 : P.globalNamed n1 = some g1) (ht1 : (P.globals[g1]?).map (·.type) = some ti) (hg2 : P.globalNamed n2 = some g2) (ht2 : (P.globals[g2]?).map (·.type) = some ti)
    (hi : P.underlying ti = some (.interface ms)) (hrow : ∀ u, P.typeName? 3 u = some nm → u = tp)
    (hp : P.underlying tp = some (.pointer te)) (he : P.underlying te = some (.struct #[f])) (hft : f.type = ts) (hfo : f.offset = 0) (hs : P.underlying ts = some .string) (hc : P.cellsOf te = 1) (hcs : P.cellsOf ts = 1) :
    ∃ (a0 a1 a2 : Addr), W.var? P n0 = some #[.iface tp (.pointer (some a0))] ∧ W.var? P n1 = some #[.iface tp (.pointer (some a1))] ∧ W.var? P n2 = some #[.iface tp (.pointer (some a2))] ∧ a0 ≠ a1 ∧ a0 ≠ a2 ∧ a1 ≠ a2 ∧
      (∃ c t, W.heap[a0.block]? = some (.cells c t (0, 0))) ∧ (∃ c t, W.heap[a1.block]? = some (.cells c t (0, 0))) ∧ (∃ c t, W.heap[a2.block]? = some (.cells c t (0, 0))) := by
  obtain ⟨ps, ⟨g0', t0', cs0, f0, p0, q0, hg0', ht0', hv0, hd0, ⟨g1', t1', cs1, f1, p1, q1, hg1', ht1', hv1, hd1, ⟨g2', t2', cs2, f2, p2, q2, hg2', ht2', hv2, hd2, _, e2⟩, e1⟩, e0⟩, hnd, hrows⟩ := h
  obtain rfl := Option.some.inj (hg0.symm.trans hg0')
  obtain rfl := Option.some.inj (hg1.symm.trans hg1')
  obtain rfl := Option.some.inj (hg2.symm.trans hg2')
  obtain rfl := Option.some.inj (ht0.symm.trans ht0')
  obtain rfl := Option.some.inj (ht1.symm.trans ht1')
  obtain rfl := Option.some.inj (ht2.symm.trans ht2')
  subst e2
  subst e1
  subst e0
  obtain ⟨l0⟩ := cs0
  obtain ⟨l1⟩ := cs1
  obtain ⟨l2⟩ := cs2
  have ok0 : ∀ u v, l0 = [.iface u v] → Value.okWide P W .any 0 u v := fun u v e => by
    subst e
    exact (hrows g0 0 (by simp [MemPlace.row])).2 u v (by simpa using World.var?_cell hg0' hv0 0)
  have ok1 : ∀ u v, l1 = [.iface u v] → Value.okWide P W .any 0 u v := fun u v e => by
    subst e
    exact (hrows g1 0 (by simp [MemPlace.row])).2 u v (by simpa using World.var?_cell hg1' hv1 0)
  have ok2 : ∀ u v, l2 = [.iface u v] → Value.okWide P W .any 0 u v := fun u v e => by
    subst e
    exact (hrows g2 0 (by simp [MemPlace.row])).2 u v (by simpa using World.var?_cell hg2' hv2 0)
  obtain ⟨a0, s0, rfl, hc0, hs0, hz0, rfl⟩ := errorString_of_trod hi hrow hp he hft hfo hs hc hcs hd0 ok0
  obtain ⟨a1, s1, rfl, hc1, hs1, hz1, rfl⟩ := errorString_of_trod hi hrow hp he hft hfo hs hc hcs hd1 ok1
  obtain ⟨a2, s2, rfl, hc2, hs2, hz2, rfl⟩ := errorString_of_trod hi hrow hp he hft hfo hs hc hcs hd2 ok2
  refine ⟨a0, a1, a2, hv0, hv1, hv2, ?_, ?_, ?_, (hrows a0.block a0.off (by simp [MemPlace.row])).1, (hrows a1.block a1.off (by simp [MemPlace.row])).1, (hrows a2.block a2.off (by simp [MemPlace.row])).1⟩
  · rintro rfl
    simp [MemPlace.row] at hnd
  · rintro rfl
    simp [MemPlace.row] at hnd
  · rintro rfl
    simp [MemPlace.row] at hnd
end Go.Proofs.YtikigaeihdmcaaaGreatDoor

/-
  The sentinels that ltl's rows list.
-/
set_option linter.unusedVariables false
set_option linter.unusedSimpArgs false
namespace Go.Proofs.YtikigaeihdmcaaaGreatDoor
open Go.RowKit

theorem sn0 : Tryz.prog.globalNamed "watchway/ltl.errStand" = some 0 := by kernel_rfl
theorem sn1 : Tryz.prog.globalNamed "watchway/ltl.errOpen" = some 2 := by kernel_rfl
theorem sn2 : Tryz.prog.globalNamed "watchway/ltl.errWord" = some 3 := by kernel_rfl
theorem st0 : (Tryz.prog.globals[0]?).map (·.type) = some 127 := by kernel_rfl
theorem st1 : (Tryz.prog.globals[2]?).map (·.type) = some 127 := by kernel_rfl
theorem st2 : (Tryz.prog.globals[3]?).map (·.type) = some 127 := by kernel_rfl
theorem sce : Tryz.prog.cellsOf 223 = 1 := by kernel_rfl
theorem scs : Tryz.prog.cellsOf 9 = 1 := by kernel_rfl
theorem sstar : "*" ++ "errors.errorString" = "*errors.errorString" := by decide
theorem srow (u : TypeId) (h : Tryz.prog.typeName? 3 u = some "*errors.errorString") : u = 205 :=
  typeName_ptr_named (nm := "errors.errorString") (by rw [sstar]; kernel_rfl) (by kernel_rfl) (by decide) u (by rw [sstar]; exact h)
/-- what ltl's rows list of sentinels -/
abbrev senL : List (String × DataW Unit) := [("watchway/ltl.errStand", Rows.laid_watchway_ltl_errStand), ("watchway/ltl.errOpen", Rows.laid_watchway_ltl_errOpen), ("watchway/ltl.errWord", Rows.laid_watchway_ltl_errWord)]
theorem sen_of_laid {W : World} (h : laidMet Tryz.prog senL W) : ∃ sa, SenH W sa := by
  obtain ⟨a0, a1, a2, v0, v1, v2, n01, n02, n12, h0, h1, h2⟩ := laid_sentinels3 h sn0 st0 sn1 st1 sn2 st2 Tryz.underlying127 srow Tryz.underlying205 Tryz.underlying223 rfl rfl Tryz.underlying9 sce scs
  refine ⟨fun i => if i = 0 then a0 else if i = 1 then a1 else a2, ?_, ?_, ?_, fun i hi => ?_, n01, n02, n12⟩
  · simpa using World.var?_cell sn0 v0 0
  · simpa using World.var?_cell sn1 v1 0
  · simpa using World.var?_cell sn2 v2 0
  · have : i = 0 ∨ i = 1 ∨ i = 2 := by omega
    rcases this with rfl | rfl | rfl
    · exact h0
    · exact h1
    · exact h2
end Go.Proofs.YtikigaeihdmcaaaGreatDoor

/-
  Bulk of lists of numbers.
-/
namespace Go.Proofs.YtikigaeihdmcaaaGreatDoor
open Go.RowKit

end Go.Proofs.YtikigaeihdmcaaaGreatDoor

