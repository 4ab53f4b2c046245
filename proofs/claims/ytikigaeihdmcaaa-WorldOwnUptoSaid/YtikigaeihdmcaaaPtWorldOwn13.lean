import Derived.Test.YtikigaeihdmcaaaPtWorldOwn12
/-
  Package label: show, Witness: walked.
-/
set_option linter.unusedVariables false
set_option linter.unusedSimpArgs false
namespace Go.Proofs.Ytikigaeihdmcaaa
open Go.RowKit

instance iWit10 : IsF Try.prog 24 := ⟨_, Try.func24, rfl, by decide⟩
instance iWit11 : IsF Try.prog 45 := ⟨_, Try.func45, rfl, by decide⟩
instance iWit12 : IsF Try.prog 8 := ⟨_, Try.func8, rfl, by decide⟩
theorem lshow1 (w : World) (x : Value) : Rt Try.prog 45 [x].toArray w fun v w' => v = .bool true ∧ Ext w w' := by
  refine Rt.enter1 Try.func45 Try.ntmps45 rfl rfl ?_
  (repeat (first | (apply WL.pure; rfl; rfl; rfl) | (apply WL.nil) | (apply EX.thenN) | (apply CW.seq) | (apply CW.region) | (apply CW.ret)))
  exact EX.ret1 rfl rfl ⟨rfl, Ext.refl _⟩
theorem eg_way {nx fr : Graph} {A : Nat → Prop} (hok : okG nx) {n : Nat} (h : egP nx fr A n) : ∃ r, r 0 = n ∧ Way8 (Eg (inG nx (boolsN nx.length A))) (setPs fr) r := by
  obtain ⟨r, r0, hr, hA⟩ := h
  have hl : ∀ i, (boolsN nx.length A).getD (r i) false = true := fun i => (boolsN_iff (hr.lt hok i)).2 (hA i)
  exact ⟨r, r0, fun i => inG_edge.2 ⟨hr.1 i, hl i, hl (i + 1)⟩, hr.2⟩
/-- what is shown of -/
def showP (nx : Graph) (lb : List Nat) (fr : Graph) (k : Int) (kids : List Ltl) (n : Nat) : Prop :=
  (k = 9 ∧ ∃ a, kids = [a] ∧ egP nx fr (ctlF nx lb fr a) n) ∨ (k = 7 ∧ ∃ a, kids = [a] ∧ exP nx fr (ctlF nx lb fr a) n) ∨ (k = 8 ∧ ∃ a, kids = [a] ∧ euP nx fr (fun _ => True) (ctlF nx lb fr a) n) ∨ (k = 10 ∧ ∃ a c, kids = [a, c] ∧ euP nx fr (ctlF nx lb fr a) (ctlF nx lb fr c) n)
theorem showP_of {nx : Graph} {lb : List Nat} {fr : Graph} {k p : Int} {kids : List Ltl} {n : Nat} (hC : okC (.mk k p kids)) (hk : 7 ≤ k ∧ k ≤ 10) (h : ctlF nx lb fr (.mk k p kids) n) : showP nx lb fr k kids n := by
  rw [okC] at hC
  have hl := hC.1
  have hk' : k = 7 ∨ k = 8 ∨ k = 9 ∨ k = 10 := by omega
  rcases hk' with rfl | rfl | rfl | rfl
  · have : kids.length = 1 := by have : kidsC 7 = 1 := rfl; omega
    obtain ⟨a, rfl⟩ := List.length_eq_one_iff.1 this
    exact .inr (.inl ⟨rfl, a, rfl, h⟩)
  · have : kids.length = 1 := by have : kidsC 8 = 1 := rfl; omega
    obtain ⟨a, rfl⟩ := List.length_eq_one_iff.1 this
    exact .inr (.inr (.inl ⟨rfl, a, rfl, h⟩))
  · have : kids.length = 1 := by have : kidsC 9 = 1 := rfl; omega
    obtain ⟨a, rfl⟩ := List.length_eq_one_iff.1 this
    exact .inl ⟨rfl, a, rfl, h⟩
  · have : kids.length = 2 := by have : kidsC 10 = 2 := rfl; omega
    obtain ⟨a, c, rfl⟩ := list_two this
    exact .inr (.inr (.inr ⟨rfl, a, c, rfl, h⟩))
theorem last_get {l : List Int} {m : Int} (h0 : 0 < l.length) (h : l.getD (l.length - 1) 0 = m) : l[l.length - 1] = m := by
  rw [← h, List.getD_eq_getElem?_getD, List.getElem?_eq_getElem (by omega)]; rfl
/-- a way through some to the last: what is found, and that one may go on -/
theorem way_last {nx fr : Graph} {th to : List Bool} {A B : Nat → Prop} {n : Nat} (hW : WOk nx fr) (hn : n < nx.length) (hl : to.length = nx.length) (h : EuP (Eg nx) A B n) (hA : ∀ k, k < nx.length → A k → th.getD k false = true) (hB : ∀ k, k < nx.length → (to.getD k false = true ↔ B k)) :
    ∃ m : Nat, ∃ h0 : 0 < (wayF (thrG nx th to) [(n : Int)] to).1.length, (wayF (thrG nx th to) [(n : Int)] to).1.getD ((wayF (thrG nx th to) [(n : Int)] to).1.length - 1) 0 = (m : Int) ∧ m < nx.length ∧ B m := by
  have hgok := thrG_ok (th := th) (to := to) hW.g
  have hgl := thrG_len (nx := nx) (th := th) (to := to)
  have hn6 := hW.n
  obtain ⟨q, hq, hr, ht⟩ := thr_reach (th := th) (to := to) hW.g hn h hA (fun k hk hb => (hB k hk).2 hb)
  obtain ⟨hw0, hsh⟩ := way_found hgok (by omega) (f := [(n : Int)]) (to := to) (fun y hy => by rw [List.mem_singleton] at hy; subst hy; exact ⟨by omega, by omega⟩) (by omega) ⟨q, by omega, (rch1 hgok).2 hr, ht⟩
  generalize (wayF (thrG nx th to) [(n : Int)] to).1 = wy at *
  have hlast := hsh.last (wy.length - 1) (by omega)
  have hlr := hsh.inR (wy.length - 1) (by omega)
  rw [decide_eq_true rfl] at hlast
  obtain ⟨m, hm⟩ := Int.eq_ofNat_of_zero_le hlr.1
  rw [hm, Int.toNat_natCast] at hlast
  exact ⟨m, hw0, by rw [List.getD_eq_getElem?_getD, List.getElem?_eq_getElem (by omega)]; exact hm, by omega, (hB m (by omega)).1 hlast⟩
set_option maxHeartbeats 4000000 in
theorem lshow_ok (w0 : World) {b : Nat} {nx fr : Graph} {lb : List Nat} (hL : LabAt w0 b nx lb fr) {ko : Option Addr} {kc : Nat} {k p : Int} {kids : List Ltl} {n : Nat} (hk : Sl w0 (Old w0) ko kc kids) (hC : okC (.mk k p kids)) (hW : WOk nx fr) (hlb : lb.length = nx.length) (hf80 : fr.length ≤ 80) (hn0 : n < nx.length) (hs : showP nx lb fr k kids n) :
    Rt Try.prog 24 [labP b, ltlV k p ko kids.length kc, .int .i64 (n : Int)].toArray w0 fun v w' => PathR w' v 200000 ∧ Ext w0 w' := by
  have hn6 := hW.n
  have hok := hW.g
  refine Rt.enter3 Try.func24 Try.ntmps24 rfl rfl ?_
  (repeat (first | (apply CW.seq) | (apply CW.region)))
  refine WL.boxB rfl rfl rfl fun w1 hb4 e1 => ?_
  skip
  refine WL.alloc rfl rfl (fun w2 hb6 e2 => ?_)
  have hb4 := hb4.ext e2
  have hE := e1.trans e2
  have l4 := hb4.lt
  have l6 := hb6.lt
  have z1 := e1.size
  (repeat (first | (apply WL.pure; rfl; rfl; rfl) | (apply WL.nil) | (apply EX.thenN) | (apply CW.seq) | (apply CW.region)))
  refine WL.call rfl rfl rfl (each_ok w2 (hL.up hE) hn6 (P := fun _ => True) (fun x k hx hk => FnV.mk (cs := []) (Calls.mono (lshow1 x _) ?_))) ?_
  · rintro e w' ⟨v, rfl, rfl, hE'⟩
    exact ⟨_, rfl, _, rfl, by simp, hE'⟩
  rintro _ w3 ⟨hov, e3⟩
  have hE := hE.trans e3
  have hb4 := hb4.ext e3
  have hb6 := hb6.ext e3
  have hal := boolsN_len (n := nx.length) (P := fun _ => True)
  have hai : ∀ i, i < nx.length → (boolsN nx.length fun _ => True).getD i false = true := fun i hi => (boolsN_iff hi).2 trivial
  generalize (boolsN nx.length fun _ => True) = all at *
  obtain ⟨oo, oc, rfl, hos⟩ := hov.oldN.sl
  clear hov e1 e2 e3
  -- the last kid
  obtain ⟨j, t, hj, ht, hjk⟩ : ∃ (j : Nat) (t : Ltl), ∃ hj : j < kids.length, kids[j] = t ∧ (kids.length : Int) - 1 = (j : Int) := by
    rcases hs with ⟨_, a, rfl, _⟩ | ⟨_, a, rfl, _⟩ | ⟨_, a, rfl, _⟩ | ⟨_, a, c, rfl, _⟩
    · exact ⟨0, a, by simp, rfl, by simp⟩
    · exact ⟨0, a, by simp, rfl, by simp⟩
    · exact ⟨0, a, by simp, rfl, by simp⟩
    · exact ⟨1, c, by simp, rfl, by simp⟩
  have hCt : ∀ x ∈ kids, okC x := fun x hx => by rw [okC] at hC; exact okCL_mem hC.2.2.2 hx
  have hD : Ext w3 (drew w3) := Ext.drew w3
  have hb4d := hb4.ext hD
  have hEd := hE.trans hD
  have hLd := hL.up hEd
  have hLd0 := hLd
  obtain ⟨a1, d1, n1, a2, d2, a3, d3, a4, d4, ao, ac, bo, bc, hblk, g2, g3, g4, g5, g6⟩ := hLd
  have hkd := hk.up hEd
  have hSE : ∀ z, (fun z : World => Ext (drew w3) z) z → Ext (drew w3) z := fun _ h => h
  have hkl := hk.len63
  (repeat (first | (apply WL.pure; rfl; rfl; rfl) | (apply WL.nil) | (apply EX.thenN) | (apply CW.seq)))
  refine CW.drawH (fun z : World => Ext (drew w3) z) [(0, true), (1, true), (2, true), (3, true), (4, true), (5, true), (6, true), (7, true), (8, true), (9, true), (11, true), (12, true), (13, true), (14, true), (10, false), (15, false), (16, true)] mixed (by kernel_rfl) (Ext.refl _) ?_
  (repeat (first | (apply HL.sub'; rfl; rfl; rfl; rfl; rfl; omega; omega) | (apply HL.pure; rfl; rfl; rfl; rfl) | (refine HL.fa rfl rfl rfl rfl ?_) | (refine HL.ld (by assumption) rfl rfl rfl rfl (by assumption) rfl ?_) | (refine HL.lenS rfl rfl rfl rfl ?_)))
  rw [hjk]
  refine HL.elemN (k := j) hSE rfl rfl rfl rfl rfl rfl rfl (fun _ h => h) hkd hj (fun _ => rfl) (fun u q hu => ?_)
  rw [ht] at hu
  obtain ⟨to', tc, rfl, htk⟩ := Rd.ltl hu
  (repeat (first | (apply HL.pure; rfl; rfl; rfl; rfl) | (refine HL.fa rfl rfl rfl rfl ?_) | (apply HL.nck; rfl; rfl; rfl; rfl) | (refine HL.ld (by assumption) rfl rfl rfl rfl (by assumption) rfl ?_)))
  refine HL.mut rfl (WL.call rfl rfl rfl (label_ok hW hlb t.nodes t (Nat.le_refl _) (hCt t (by rw [← ht]; exact List.getElem_mem hj)) (drew w3) b to' tc hLd0 htk) ?_)
  rintro lv w4 ⟨hlv, e4⟩
  refine WL.nil (EX.mut e4 ?_)
  obtain ⟨vo, vc, rfl, hvs⟩ := hlv.oldN.sl
  refine HL.mut rfl (WL.call rfl rfl rfl (lboth_ok w4 (hLd0.up e4) hn6 hvs (g5.up e4)) ?_)
  rintro bv w5 ⟨hbv, e5⟩
  refine WL.nil (EX.mut (e4.trans e5) ?_)
  (repeat (first | (apply HL.pure; rfl; rfl; rfl; rfl) | (apply HL.nil)))
  have e35 := hD.trans (e4.trans e5)
  have hE := hE.trans e35
  have hb4 := hb4.ext e35
  have hb6 := hb6.ext e35
  have hos := hos.up e35
  have hll := boolsN_len (n := nx.length) (P := fun i => ctlF nx lb fr t i ∧ fairP nx fr i)
  have hli : ∀ i, i < nx.length → ((boolsN nx.length fun i => ctlF nx lb fr t i ∧ fairP nx fr i).getD i false = true ↔ ctlF nx lb fr t i ∧ fairP nx fr i) := fun i hi => boolsN_iff hi
  generalize (boolsN nx.length fun i => ctlF nx lb fr t i ∧ fairP nx fr i) = last at *
  obtain ⟨so, sc, rfl, hls⟩ := hbv.oldN.sl
  clear hblk g2 g3 g4 g5 g6 hkd hb4d hEd hLd0 hSE hlv hvs hbv e35 hu htk hD
  have hfin : ∀ {w : World} {v : Value}, Ext w5 w → PathR w v 200000 → ∃ so sc lo lc s l, v = pathV so sc lo lc s l ∧ Blk w w1.heap.size 39 [.slice none 0 0, .slice none 0 0] ∧ Sl w (Old w) so sc s ∧ Sl w (Old w) lo lc l ∧ s.length ≤ 200000 ∧ l.length ≤ 200000 := fun {w v} hx hp => by
    obtain ⟨so, sc, lo, lc, s, l, rfl, p1, p2, p3, p4⟩ := hp
    exact ⟨so, sc, lo, lc, s, l, rfl, hb6.ext hx, p1, p2, p3, p4⟩
  rcases hs with ⟨rfl, a, rfl, hsem⟩ | ⟨rfl, a, rfl, hsem⟩ | ⟨rfl, a, rfl, hsem⟩ | ⟨rfl, a, c, rfl, hsem⟩
  · -- EG
    (repeat (first | (apply WL.pure; rfl; rfl; rfl) | (apply WL.nil) | (apply EX.thenN) | (apply CW.seq) | (apply CW.region) | (apply WL.fa; rfl; rfl; rfl) | (apply WL.ld; rfl; rfl; rfl; assumption; rfl) | (apply CW.block) | (apply CW.condT; rfl)))
    refine WL.elemN (i := 0) rfl rfl rfl rfl rfl (hk.up hE) (by simp) (fun _ => rfl) (fun u q hu => ?_)
    obtain ⟨xo, xc, rfl, hxk⟩ := Rd.ltl (t := a) hu
    skip
    refine WL.call rfl rfl rfl (label_ok hW hlb a.nodes a (Nat.le_refl _) (hCt a (by simp)) w5 b xo xc (hL.up hE) hxk) ?_
    rintro lv w6 ⟨hlv, e6⟩
    obtain ⟨vo, vc, rfl, hvs⟩ := hlv.oldN.sl
    skip
    refine WL.call rfl rfl rfl (llasso_ok w6 (hL.up (hE.trans e6)) hvs hW hf80 hn0 boolsN_len (eg_way hok hsem)) ?_
    rintro pv w7 ⟨⟨so', sc', lo', lc', s, l, rfl, hss, hll', hsl, hlx⟩, e7⟩
    have e57 := e6.trans e7
    have hb67 := hb6.ext e57
    have hE7 := hE.trans e57
    skip
    refine WL.st rfl rfl rfl hb67 rfl rfl (ones_of rfl) (fun w8 hb8 hg8 => ?_)
    have hE8 : Ext w0 w8 := hE7.grown hg8 hE7.size (fun g hg => by cases hg; omega)
    (repeat (first | (apply WL.nil) | (apply EX.thenN) | (apply CW.ret) | (apply EX.thenR) | (apply EX.inR)))
    exact EX.retC rfl rfl hb8 rfl ⟨⟨_, _, _, _, _, _, rfl, Sl.not2 (F := Old w7) hss hb67 hg8, Sl.not2 (F := Old w7) hll' hb67 hg8, by omega, by omega⟩, hE8⟩
  · -- EX
    obtain rfl : t = a := by
      have : j = 0 := by simp at hjk; omega
      subst this; rw [← ht]; rfl
    have hLw := hL.up hE
    obtain ⟨a1, d1, n1, a2, d2, a3, d3, a4, d4, ao, ac, bo, bc, hblk, g2, g3, g4, g5, g6⟩ := hLw
    have erow : nx.getD n [] = nx[n] := wgetDG hn0
    obtain ⟨m0, hm0, hma, hmf⟩ := hsem
    have hm0 : (m0 : Int) ∈ nx[n] := by rw [← erow]; exact hm0
    (repeat (first | (apply WL.pure; rfl; rfl; rfl) | (apply WL.nil) | (apply EX.thenN) | (apply CW.seq) | (apply CW.region) | (apply WL.fa; rfl; rfl; rfl) | (apply WL.nck; rfl; rfl; rfl) | (apply WL.ld; rfl; rfl; rfl; assumption; rfl) | (apply CW.block) | (apply CW.condT; rfl) | (apply CW.condF; rfl)))
    refine WL.elemN (i := n) rfl rfl rfl rfl rfl g2 hn0 (fun _ => rfl) (fun u q hu => ?_)
    obtain ⟨ro, rc, rfl, hrow⟩ := hu.sl
    have hrl := hrow.len63
    clear hblk g2 g3 g4 g5 g6
    (repeat (first | (apply WL.pure; rfl; rfl; rfl) | (apply WL.nil) | (apply EX.thenN) | (apply WL.lenS; rfl; rfl; rfl) | (apply CW.block)))
    refine CW.loop (S := Nat) (fun i => [(0, labP b), (2, .int .i64 (n : Int)), (4, .pointer (some ⟨w0.heap.size, 0, none⟩)), (6, .pointer (some ⟨w1.heap.size, 0, none⟩)), (7, .slice oo all.length oc), (8, .slice so last.length sc), (51, .slice ro nx[n].length rc), (52, .int .i64 nx[n].length), (53, .int .i64 i)])
      (fun i w => i ≤ nx[n].length ∧ (∀ x ∈ nx[n].take i, last.getD x.toNat false = false) ∧ w = w5) (fun i => nx[n].length - i) 0 (by repeat (first | exact trivial | refine ⟨rfl, ?_⟩)) ⟨Nat.zero_le _, (fun x hx => by simp at hx), rfl⟩ ?_
    rintro i _ ⟨hi, hno, rfl⟩
    (repeat (first | (apply WL.pure; rfl; rfl; rfl) | (apply WL.nil) | (apply EX.thenN) | (apply CW.seq) | (apply CW.region)))
    refine CW.cond rfl (fun h => ?_) (fun h => ?_)
    · have hi' : i < nx[n].length := by simp at h; omega
      clear h
      have hto := hok _ (List.getElem_mem hn0) _ (List.getElem_mem hi')
      obtain ⟨x, ex⟩ := Int.eq_ofNat_of_zero_le hto.1
      have hxl : x < last.length := by omega
      (repeat (first | (apply EX.thenN) | (apply CW.seq) | (apply CW.region) | (apply CW.block) | (apply CW.skip)))
      refine WL.elemI rfl rfl rfl rfl rfl hrow hi' ex (fun _ => rfl) (fun q => ?_)
      (repeat (first | (apply WL.pure; rfl; rfl; rfl) | (apply WL.nil) | (apply EX.thenN) | (apply CW.seq) | (apply CW.region)))
      refine WL.elemB rfl rfl rfl rfl rfl hls hxl (wgetB hxl).symm (fun _ => rfl) (fun q => ?_)
      by_cases hc : last.getD x false = true
      · rw [hc]
        have hlx := (hli x (by omega)).1 hc
        (repeat (first | (apply WL.pure; rfl; rfl; rfl) | (apply WL.nil) | (apply EX.thenN) | (apply CW.seq) | (apply CW.region) | (apply CW.condT; rfl)))
        refine WL.litR [(n : Int), (x : Int)] rfl rfl rfl rfl rfl ⟨Rd.mkInt _ _ _, Rd.mkInt _ _ _, trivial⟩ (by show 2 * 1 ≤ 16777216; decide) (fun u w6 e6 hu _ => ?_)
        obtain ⟨fo, fc, rfl, hf⟩ := hu.sl
        skip
        refine WL.call rfl rfl rfl (lafter_ok w6 (hL.up (hE.trans e6)) (wy := [(n : Int), (x : Int)]) (m := x) hf hW hf80 (by simp) (by simp) rfl (by omega) hlx.2) ?_
        rintro pv w7 ⟨hp, e7⟩
        have e57 := e6.trans e7
        obtain ⟨so', sc', lo', lc', s, l, rfl, hb67, hss, hll', hsl, hlx⟩ := hfin e57 hp
        have hE7 := hE.trans e57
        skip
        refine WL.st rfl rfl rfl hb67 rfl rfl (ones_of rfl) (fun w8 hb8 hg8 => ?_)
        have hE8 : Ext w0 w8 := hE7.grown hg8 hE7.size (fun g hg => by cases hg; omega)
        (repeat (first | (apply WL.nil) | (apply EX.thenN) | (apply CW.ret) | (apply EX.thenR) | (apply EX.inR)))
        exact EX.retC rfl rfl hb8 rfl ⟨⟨_, _, _, _, _, _, rfl, Sl.not2 (F := Old w7) hss hb67 hg8, Sl.not2 (F := Old w7) hll' hb67 hg8, by omega, by omega⟩, hE8⟩
      · have hc : last.getD x false = false := by simpa using hc
        rw [hc]
        (repeat (first | (apply WL.add; rfl; rfl; rfl; rfl; omega; omega) | (apply WL.pure; rfl; rfl; rfl) | (apply WL.nil) | (apply EX.thenN) | (apply CW.region) | (apply EX.inN) | (apply CW.condF; rfl) | (apply CW.skip)))
        refine EX.back (i + 1) (by repeat (first | exact trivial | refine ⟨rfl, ?_⟩)) ⟨hi', fun y hy => ?_, rfl⟩ (by omega)
        rw [← List.take_append_getElem hi'] at hy
        rcases List.mem_append.1 hy with hy | hy
        · exact hno y hy
        · rw [List.mem_singleton] at hy; rw [hy, ex, Int.toNat_natCast]; exact hc
    · exfalso
      have : i = nx[n].length := by simp at h; omega
      subst this
      rw [List.take_length] at hno
      have h1 := hno _ hm0
      have hto := hok _ (List.getElem_mem hn0) _ hm0
      rw [Int.toNat_natCast, ← Bool.not_eq_true, hli m0 (by omega)] at h1
      exact h1 ⟨hma, hmf⟩
  · -- EF
    obtain rfl : t = a := by
      have : j = 0 := by simp at hjk; omega
      subst this; rw [← ht]; rfl
    have hgl := thrG_len (nx := nx) (th := all) (to := last)
    (repeat (first | (apply WL.pure; rfl; rfl; rfl) | (apply WL.nil) | (apply EX.thenN) | (apply CW.seq) | (apply CW.region) | (apply WL.fa; rfl; rfl; rfl) | (apply WL.ld; rfl; rfl; rfl; assumption; rfl) | (apply CW.block) | (apply EX.inN) | (apply CW.condF; rfl) | (apply CW.skip)))
    refine WL.call rfl rfl rfl (lway_ok w5 (hL.up hE) hos hls hok hn6 hn0 hal hll) ?_
    rintro wv w6 ⟨hwv, e6⟩
    obtain ⟨m, h0, hm, hml, hmb⟩ := way_last (th := all) (to := last) hW hn0 hll hsem (fun k hk _ => hai k hk) hli
    have hwl := wayF_len (g := thrG nx all last) (f := [(n : Int)]) (to := last)
    generalize (wayF (thrG nx all last) [(n : Int)] last).1 = wy at *
    have hm := last_get h0 hm
    obtain ⟨wo, wc, rfl, hws⟩ := hwv.oldN.sl
    skip
    refine WL.call rfl rfl rfl (lafter_ok w6 (hL.up (hE.trans e6)) hws hW hf80 h0 (by omega) hm hml hmb.2) ?_
    rintro pv w7 ⟨hp, e7⟩
    have e57 := e6.trans e7
    obtain ⟨so', sc', lo', lc', s, l, rfl, hb67, hss, hll', hsl, hlx⟩ := hfin e57 hp
    have hE7 := hE.trans e57
    skip
    refine WL.st rfl rfl rfl hb67 rfl rfl (ones_of rfl) (fun w8 hb8 hg8 => ?_)
    have hE8 : Ext w0 w8 := hE7.grown hg8 hE7.size (fun g hg => by cases hg; omega)
    (repeat (first | (apply WL.nil) | (apply EX.thenN) | (apply CW.ret)))
    exact EX.retC rfl rfl hb8 rfl ⟨⟨_, _, _, _, _, _, rfl, Sl.not2 (F := Old w7) hss hb67 hg8, Sl.not2 (F := Old w7) hll' hb67 hg8, by omega, by omega⟩, hE8⟩
  · -- EU
    obtain rfl : t = c := by
      have : j = 1 := by simp at hjk; omega
      subst this; rw [← ht]; rfl
    (repeat (first | (apply WL.pure; rfl; rfl; rfl) | (apply WL.nil) | (apply EX.thenN) | (apply CW.seq) | (apply CW.region) | (apply WL.fa; rfl; rfl; rfl) | (apply WL.ld; rfl; rfl; rfl; assumption; rfl) | (apply CW.block) | (apply CW.condT; rfl) | (apply CW.condF; rfl)))
    refine WL.elemN (i := 0) rfl rfl rfl rfl rfl (hk.up hE) (by simp) (fun _ => rfl) (fun u q hu => ?_)
    obtain ⟨xo, xc, rfl, hxk⟩ := Rd.ltl (t := a) hu
    skip
    refine WL.call rfl rfl rfl (label_ok hW hlb a.nodes a (Nat.le_refl _) (hCt a (by simp)) w5 b xo xc (hL.up hE) hxk) ?_
    rintro lv w6 ⟨hlv, e6⟩
    have hal2 := boolsN_len (n := nx.length) (P := ctlF nx lb fr a)
    have hai2 : ∀ i, i < nx.length → ctlF nx lb fr a i → (boolsN nx.length (ctlF nx lb fr a)).getD i false = true := fun i hi h => (boolsN_iff hi).2 h
    generalize boolsN nx.length (ctlF nx lb fr a) = th at *
    obtain ⟨vo, vc, rfl, hvs⟩ := hlv.oldN.sl
    (repeat (apply WL.pure; rfl; rfl; rfl))
    refine WL.call rfl rfl rfl (lway_ok w6 (hL.up (hE.trans e6)) hvs (hls.up e6) hok hn6 hn0 hal2 hll) ?_
    rintro wv w7 ⟨hwv, e7⟩
    obtain ⟨m, h0, hm, hml, hmb⟩ := way_last (th := th) (to := last) hW hn0 hll hsem hai2 hli
    have hgl := thrG_len (nx := nx) (th := th) (to := last)
    have hwl := wayF_len (g := thrG nx th last) (f := [(n : Int)]) (to := last)
    generalize (wayF (thrG nx th last) [(n : Int)] last).1 = wy at *
    have hm := last_get h0 hm
    obtain ⟨wo, wc, rfl, hws⟩ := hwv.oldN.sl
    skip
    refine WL.call rfl rfl rfl (lafter_ok w7 (hL.up (hE.trans (e6.trans e7))) hws hW hf80 h0 (by omega) hm hml hmb.2) ?_
    rintro pv w8 ⟨hp, e8⟩
    have e58 := e6.trans (e7.trans e8)
    obtain ⟨so', sc', lo', lc', s, l, rfl, hb68, hss, hll', hsl, hlx⟩ := hfin e58 hp
    have hE8 := hE.trans e58
    skip
    refine WL.st rfl rfl rfl hb68 rfl rfl (ones_of rfl) (fun w9 hb9 hg9 => ?_)
    have hE9 : Ext w0 w9 := hE8.grown hg9 hE8.size (fun g hg => by cases hg; omega)
    (repeat (first | (apply WL.nil) | (apply EX.thenN) | (apply CW.ret) | (apply EX.thenR) | (apply EX.inR)))
    exact EX.retC rfl rfl hb9 rfl ⟨⟨_, _, _, _, _, _, rfl, Sl.not2 (F := Old w8) hss hb68 hg9, Sl.not2 (F := Old w8) hll' hb68 hg9, by omega, by omega⟩, hE9⟩
end Go.Proofs.Ytikigaeihdmcaaa

/-
  Package label: Witness: walked.
-/
set_option linter.unusedVariables false
set_option linter.unusedSimpArgs false
namespace Go.Proofs.Ytikigaeihdmcaaa
open Go.RowKit

/-- what Witness hands over: a path of its own -/
def WitR (B : Nat) (v : Value) (w : World) : Prop := ∃ (is : Bool) (err : Int) (vs vl : Value) (s l : List Int), v = .tuple ⟨[.agg [vs, vl].toArray, .bool is, .int .i64 err]⟩ ∧ Own w B 3 Non vs s ∧ Own w B 3 Non vl l ∧ ∀ g, vs.ownBlock = some g → vl.ownBlock ≠ some g
set_option maxHeartbeats 2000000 in
theorem Witness_ok (w0 : World) {a1 a2 a3 a4 to : Option Addr} {c1 c2 c3 c4 tc : Nat} {st : List Int} {nx fr : Graph} {lb : List Nat} {t : Ltl} (h1 : Sl w0 (Old w0) a1 c1 st) (h2 : Sl w0 (Old w0) a2 c2 nx) (h3 : Sl w0 (Old w0) a3 c3 lb) (h4 : Sl w0 (Old w0) a4 c4 fr) (ht : Sl w0 (Old w0) to tc t.kids)
    (hT : edges nx ≤ 8589934592) (n : Int) :
    Rt Try.prog 8 [worldV a1 c1 a2 c2 a3 c3 a4 c4 st.length nx.length lb.length fr.length, ltlV t.k t.n to t.kids.length tc, .int .i64 n].toArray w0 fun v w' => WitR w0.heap.size v w' ∧ Ext w0 w' := by
  have hm2 := h2.len63
  refine Rt.enter3 Try.func8 Try.ntmps8 rfl rfl ?_
  (repeat (first | (apply CW.seq) | (apply CW.region)))
  refine WL.boxB rfl rfl rfl fun w1 hb3 e1 => ?_
  skip
  refine WL.boxB rfl rfl rfl fun w2 hb4 e2 => ?_
  have hb3 := hb3.ext e2
  have hE := e1.trans e2
  skip
  refine WL.alloc rfl rfl (fun w3 hb6 e3 => ?_)
  have hb3 := hb3.ext e3
  have hb4 := hb4.ext e3
  have z2 := hE.size
  have hE := hE.trans e3
  have l6 := hb6.lt
  have hnil : ∀ {w : World}, WitR w0.heap.size (.tuple ⟨[.agg [.slice none 0 0, .slice none 0 0].toArray, .bool false, .int .i64 0]⟩) w → True := fun _ => trivial
  clear e1 e2 e3 hnil
  (repeat (first | (apply WL.pure; rfl; rfl; rfl) | (apply WL.nil) | (apply EX.thenN) | (apply CW.seq) | (apply CW.region) | (apply WL.ldA; rfl; rfl; rfl; assumption; rfl)))
  refine WL.call rfl rfl rfl (lcheck_ok w3 (h1.up hE) (h2.up hE) (h3.up hE) (h4.up hE) (ht.up hE)) ?_
  rintro _ w4 ⟨rfl, e4⟩
  have hb3 := hb3.ext e4
  have hb4 := hb4.ext e4
  have hb6 := hb6.ext e4
  have hE := hE.trans e4
  clear e4
  (repeat (first | (apply WL.pure; rfl; rfl; rfl) | (apply WL.nil) | (apply EX.thenN) | (apply CW.seq) | (apply CW.region)))
  refine CW.cond rfl (fun h => ?_) (fun h => ?_)
  · (repeat (first | (apply CW.seq) | (apply CW.region)))
    refine WL.build (parts := []) rfl rfl rfl rfl ?_
    (repeat (apply WL.pure; rfl; rfl; rfl))
    refine WL.st rfl rfl rfl hb6 rfl rfl (ones_of rfl) (fun w5 hb5 hg5 => ?_)
    have hE5 : Ext w0 w5 := hE.grown hg5 hE.size (fun g hg => by cases hg; omega)
    (repeat (first | (apply WL.pure; rfl; rfl; rfl) | (apply WL.nil) | (apply EX.thenN) | (apply CW.ret) | (apply EX.thenR)))
    exact EX.retCE rfl rfl rfl rfl hb5 rfl ⟨⟨false, _, .slice none 0 0, .slice none 0 0, [], [], rfl, Own.nil, Own.nil, fun g hg => by cases hg⟩, hE5⟩
  have hlab : labE st nx lb.length fr t = 0 := by simpa using h
  clear h
  obtain ⟨hW, hcf⟩ := labE_ok hlab
  obtain ⟨hn6, hf80, hlbl, hst, hnx, hfr⟩ := chkWd_ok hW
  have hok : okG nx := fun r hr => (hnx r hr).2
  have hWO : WOk nx fr := ⟨hn6, hok, hfr, hT⟩
  have hC := chkC_ok t 1 0 hcf
  have hret : ∀ (w : World) (hb : Blk w w2.heap.size 39 [.slice none 0 0, .slice none 0 0]) (err : Int), WitR w0.heap.size (.tuple ⟨[.agg [.slice none 0 0, .slice none 0 0].toArray, .bool false, .int .i64 err]⟩) w := fun w hb err => ⟨false, err, .slice none 0 0, .slice none 0 0, [], [], rfl, Own.nil, Own.nil, fun g hg => by cases hg⟩
  by_cases q1 : n < 0
  · (repeat (first | (apply WL.pure; rfl; rfl; rfl) | (apply EX.thenN) | (apply CW.seq) | (apply CW.region) | (apply CW.skip)))
    rw [decide_eq_true q1]
    (repeat (first | (apply WL.pure; rfl; rfl; rfl) | (apply WL.nil) | (apply EX.thenN) | (apply CW.seq) | (apply CW.region) | (apply WL.pass; rfl; rfl) | (apply CW.condT; rfl)))
    refine WL.build (parts := []) rfl rfl rfl rfl ?_
    skip
    refine WL.st rfl rfl rfl hb6 rfl rfl (ones_of rfl) (fun w5 hb5 hg5 => ?_)
    have hE5 : Ext w0 w5 := hE.grown hg5 hE.size (fun g hg => by cases hg; omega)
    (repeat (first | (apply WL.pure; rfl; rfl; rfl) | (apply WL.nil) | (apply EX.thenN) | (apply CW.ret) | (apply EX.thenR)))
    exact EX.retCE rfl rfl rfl rfl hb5 rfl ⟨hret _ hb5 _, hE5⟩
  by_cases q2 : n ≥ (nx.length : Int)
  · (repeat (first | (apply WL.pure; rfl; rfl; rfl) | (apply EX.thenN) | (apply CW.seq) | (apply CW.region) | (apply CW.skip)))
    rw [decide_eq_false q1]
    (repeat (first | (apply WL.pure; rfl; rfl; rfl) | (apply WL.lenS; rfl; rfl; rfl) | (apply WL.fa; rfl; rfl; rfl) | (apply WL.ld; rfl; rfl; rfl; assumption; rfl)))
    rw [decide_eq_true q2]
    (repeat (first | (apply WL.pure; rfl; rfl; rfl) | (apply WL.nil) | (apply EX.thenN) | (apply CW.seq) | (apply CW.region) | (apply WL.pass; rfl; rfl) | (apply CW.condT; rfl)))
    refine WL.build (parts := []) rfl rfl rfl rfl ?_
    skip
    refine WL.st rfl rfl rfl hb6 rfl rfl (ones_of rfl) (fun w5 hb5 hg5 => ?_)
    have hE5 : Ext w0 w5 := hE.grown hg5 hE.size (fun g hg => by cases hg; omega)
    (repeat (first | (apply WL.pure; rfl; rfl; rfl) | (apply WL.nil) | (apply EX.thenN) | (apply CW.ret) | (apply EX.thenR)))
    exact EX.retCE rfl rfl rfl rfl hb5 rfl ⟨hret _ hb5 _, hE5⟩
  by_cases q3 : t.k < 7
  · (repeat (first | (apply WL.pure; rfl; rfl; rfl) | (apply EX.thenN) | (apply CW.seq) | (apply CW.region) | (apply CW.skip)))
    rw [decide_eq_false q1]
    (repeat (first | (apply WL.pure; rfl; rfl; rfl) | (apply WL.lenS; rfl; rfl; rfl) | (apply WL.fa; rfl; rfl; rfl) | (apply WL.ld; rfl; rfl; rfl; assumption; rfl)))
    rw [decide_eq_false q2]
    (repeat (first | (apply WL.pure; rfl; rfl; rfl) | (apply WL.fa; rfl; rfl; rfl) | (apply WL.ld; rfl; rfl; rfl; assumption; rfl)))
    rw [decide_eq_true q3]
    (repeat (first | (apply WL.pure; rfl; rfl; rfl) | (apply WL.nil) | (apply EX.thenN) | (apply CW.seq) | (apply CW.region) | (apply WL.pass; rfl; rfl) | (apply CW.condT; rfl)))
    refine WL.build (parts := []) rfl rfl rfl rfl ?_
    skip
    refine WL.st rfl rfl rfl hb6 rfl rfl (ones_of rfl) (fun w5 hb5 hg5 => ?_)
    have hE5 : Ext w0 w5 := hE.grown hg5 hE.size (fun g hg => by cases hg; omega)
    (repeat (first | (apply WL.pure; rfl; rfl; rfl) | (apply WL.nil) | (apply EX.thenN) | (apply CW.ret) | (apply EX.thenR)))
    exact EX.retCE rfl rfl rfl rfl hb5 rfl ⟨hret _ hb5 _, hE5⟩
  by_cases q4 : t.k > 10
  · (repeat (first | (apply WL.pure; rfl; rfl; rfl) | (apply EX.thenN) | (apply CW.seq) | (apply CW.region) | (apply CW.skip)))
    rw [decide_eq_false q1]
    (repeat (first | (apply WL.pure; rfl; rfl; rfl) | (apply WL.lenS; rfl; rfl; rfl) | (apply WL.fa; rfl; rfl; rfl) | (apply WL.ld; rfl; rfl; rfl; assumption; rfl)))
    rw [decide_eq_false q2]
    (repeat (first | (apply WL.pure; rfl; rfl; rfl) | (apply WL.fa; rfl; rfl; rfl) | (apply WL.ld; rfl; rfl; rfl; assumption; rfl)))
    rw [decide_eq_false q3]
    (repeat (first | (apply WL.pure; rfl; rfl; rfl) | (apply WL.nil) | (apply EX.thenN) | (apply WL.fa; rfl; rfl; rfl) | (apply WL.ld; rfl; rfl; rfl; assumption; rfl)))
    rw [decide_eq_true q4]
    (repeat (first | (apply CW.seq) | (apply CW.region) | (apply CW.condT; rfl)))
    refine WL.build (parts := []) rfl rfl rfl rfl ?_
    skip
    refine WL.st rfl rfl rfl hb6 rfl rfl (ones_of rfl) (fun w5 hb5 hg5 => ?_)
    have hE5 : Ext w0 w5 := hE.grown hg5 hE.size (fun g hg => by cases hg; omega)
    (repeat (first | (apply WL.pure; rfl; rfl; rfl) | (apply WL.nil) | (apply EX.thenN) | (apply CW.ret) | (apply EX.thenR)))
    exact EX.retCE rfl rfl rfl rfl hb5 rfl ⟨hret _ hb5 _, hE5⟩
  obtain ⟨m, rfl⟩ := Int.eq_ofNat_of_zero_le (show 0 ≤ n by omega)
  have hml : m < nx.length := by omega
  (repeat (first | (apply WL.pure; rfl; rfl; rfl) | (apply EX.thenN) | (apply CW.seq) | (apply CW.region) | (apply WL.lenS; rfl; rfl; rfl) | (apply WL.fa; rfl; rfl; rfl) | (apply WL.ld; rfl; rfl; rfl; assumption; rfl) | (apply CW.skip)))
  rw [decide_eq_false q1]
  skip
  rw [decide_eq_false q2]
  (repeat (first | (apply WL.pure; rfl; rfl; rfl) | (apply WL.fa; rfl; rfl; rfl) | (apply WL.ld; rfl; rfl; rfl; assumption; rfl)))
  rw [decide_eq_false q3]
  (repeat (first | (apply WL.pure; rfl; rfl; rfl) | (apply WL.nil) | (apply EX.thenN) | (apply WL.fa; rfl; rfl; rfl) | (apply WL.ld; rfl; rfl; rfl; assumption; rfl)))
  rw [decide_eq_false q4]
  (repeat (first | (apply EX.thenN) | (apply CW.seq) | (apply CW.region) | (apply WL.ldA; rfl; rfl; rfl; assumption; rfl) | (apply CW.condF; rfl) | (apply CW.skip)))
  refine WL.call rfl rfl rfl (begun_ok w4 (h1.up hE) (h2.up hE) (h3.up hE) (h4.up hE) hW hT) ?_
  rintro _ w5 ⟨b, rfl, hL, e5⟩
  have hb4 := hb4.ext e5
  have hb6 := hb6.ext e5
  have hE := hE.trans e5
  (repeat (first | (apply WL.pure; rfl; rfl; rfl) | (apply WL.nil) | (apply EX.thenN) | (apply CW.seq) | (apply CW.region) | (apply WL.ldA; rfl; rfl; rfl; assumption; rfl)))
  refine WL.call rfl rfl rfl (label_ok hWO hlbl t.nodes t (Nat.le_refl _) hC w5 b to tc hL (ht.up hE)) ?_
  rintro lv w6 ⟨hlv, e6⟩
  obtain ⟨vo, vc, rfl, hvs⟩ := hlv.oldN.sl
  have hb4 := hb4.ext e6
  have hb6 := hb6.ext e6
  have hE := hE.trans e6
  have hmb : m < (boolsN nx.length (ctlF nx lb fr t)).length := by rw [boolsN_len]; exact hml
  have hbi := boolsN_iff (P := ctlF nx lb fr t) hml
  (repeat (apply WL.pure; rfl; rfl; rfl))
  refine WL.elemB rfl rfl rfl rfl rfl hvs hmb (wgetB hmb).symm (fun _ => rfl) (fun q => ?_)
  generalize (boolsN nx.length (ctlF nx lb fr t)).getD m false = c at *
  cases c with
  | false =>
    (repeat (first | (apply WL.pure; rfl; rfl; rfl) | (apply WL.nil) | (apply EX.thenN) | (apply CW.seq) | (apply CW.region) | (apply CW.condT; rfl)))
    refine WL.build (parts := []) rfl rfl rfl rfl ?_
    skip
    refine WL.st rfl rfl rfl hb6 rfl rfl (ones_of rfl) (fun w7 hb7 hg7 => ?_)
    have hE7 : Ext w0 w7 := hE.grown hg7 hE.size (fun g hg => by cases hg; omega)
    (repeat (first | (apply WL.pure; rfl; rfl; rfl) | (apply WL.nil) | (apply EX.thenN) | (apply CW.ret) | (apply EX.thenR)))
    exact EX.retCE rfl rfl rfl rfl hb7 rfl ⟨hret _ hb7 _, hE7⟩
  | true =>
  have hsh := hbi.1 rfl
  obtain ⟨k, p, kids⟩ := t
  (repeat (first | (apply WL.pure; rfl; rfl; rfl) | (apply WL.nil) | (apply EX.thenN) | (apply CW.seq) | (apply CW.region) | (apply WL.ldA; rfl; rfl; rfl; assumption; rfl) | (apply CW.condF; rfl) | (apply CW.skip)))
  refine WL.call rfl rfl rfl (lshow_ok w6 (hL.up e6) (ht.up hE) hC hWO hlbl hf80 hml (showP_of hC ⟨by have : ¬ k < 7 := q3; omega, by have : ¬ k > 10 := q4; omega⟩ hsh)) ?_
  rintro pv w7 ⟨⟨so, sc, lo, lc, s, l, rfl, hss, hll, hsl, hlx⟩, e7⟩
  have hb6 := hb6.ext e7
  have l67 := hb6.lt
  have hE := hE.trans e7
  skip
  refine WL.alloc rfl rfl (fun w8 hb11 e8 => ?_)
  skip
  refine WL.st rfl rfl rfl hb11 rfl rfl (ones_of rfl) (fun w9 hb11 hg9 => ?_)
  have e9 : Ext w7 w9 := e8.grown hg9 e8.size (fun g hg => by cases hg; exact Nat.le_refl _)
  have hb6 := hb6.ext e9
  have z7 := hE.size
  have hE := hE.trans e9
  have hss := hss.up e9
  have hll := hll.up e9
  have l6' := hb6.lt
  have hD : Ext w9 (drew w9) := Ext.drew w9
  have hb11d := hb11.ext hD
  have hne : w7.heap.size ≠ w2.heap.size := fun e => by omega
  (repeat (first | (apply WL.nil) | (apply EX.thenN) | (apply CW.seq)))
  refine CW.drawH (fun z : World => z.heap[w7.heap.size]? = (drew w9).heap[w7.heap.size]?) [(0, true), (1, true), (3, true), (4, true), (2, false), (5, false), (6, true), (7, false), (8, true), (9, true)] mixed (by kernel_rfl) rfl ?_
  (repeat (refine HL.fa rfl rfl rfl rfl ?_))
  refine HL.ldK (fun u h => h) rfl rfl rfl rfl hb11d rfl ?_
  (repeat (refine HL.fa rfl rfl rfl rfl ?_))
  refine HL.ldK (fun u h => h) rfl rfl rfl rfl hb11d rfl ?_
  skip
  refine HL.mut rfl (WL.call rfl rfl rfl (clone_int (drew w9) (hss.up hD) (by omega)) ?_)
  rintro cv x1 ⟨hoc, y1⟩
  refine WL.nil (EX.mut (y1.block _ (by have := hb11d.lt; exact this)) ?_)
  have hll1 := hll.up (hD.trans y1)
  refine HL.mut rfl (WL.call rfl rfl rfl (clone_int x1 hll1 (by omega)) ?_)
  rintro dv x2 ⟨hod, y2⟩
  refine WL.nil (EX.mut ((y2.block _ (by have := hb11d.lt; have := y1.size; omega)).trans (y1.block _ (by have := hb11d.lt; exact this))) ?_)
  have hoc2 := hoc.extN y2
  have hdis : ∀ g, cv.ownBlock = some g → dv.ownBlock ≠ some g := fun g hg hg' => by
    have := (hoc.lt g hg).2.1
    have := (hod.lt g hg').1
    omega
  have hb62 := hb6.ext (hD.trans (y1.trans y2))
  have hE2 := hE.trans (hD.trans (y1.trans y2))
  have zs := (hD.trans y1).size
  obtain ⟨co, cc, rfl⟩ := hoc2.val
  obtain ⟨do', dc, rfl⟩ := hod.val
  (repeat (refine HL.build rfl rfl rfl rfl rfl ?_))
  refine HL.mut rfl (WL.st rfl rfl rfl hb62 rfl rfl (ones_of rfl) (fun x3 hb63 hg3 => ?_))
  refine WL.nil (EX.mut ((hg3.block _ (by have := hb11d.lt; have := (y1.trans y2).size; omega) (fun e => hne (Option.some.inj e))).trans ((y2.block _ (by have := hb11d.lt; have := y1.size; omega)).trans (y1.block _ (by have := hb11d.lt; exact this)))) ?_)
  have hE3 : Ext w0 x3 := hE2.grown hg3 hE2.size (fun g hg => by cases hg; omega)
  (repeat (first | (apply HL.pure; rfl; rfl; rfl; rfl) | (apply HL.nil)))
  (repeat (first | (apply EX.thenN) | (apply CW.ret)))
  refine EX.retCE rfl rfl rfl rfl hb63 rfl ⟨⟨true, 0, _, _, s, l, rfl, (hoc2.keptN hg3 (fun g hg e => ?_)).low ?_, (hod.keptN hg3 (fun g hg e => ?_)).low ?_, hdis⟩, hE3⟩
  · have := Option.some.inj e; have := (hoc.lt g hg).1; have := hD.size; omega
  · have := hD.size; have := hE.size; omega
  · have := Option.some.inj e; have := (hod.lt g hg).1; omega
  · have := hE.size; omega
end Go.Proofs.Ytikigaeihdmcaaa

/-
  The small makers of formulas of all ways.
-/
set_option linter.unusedVariables false
set_option linter.unusedSimpArgs false
namespace Go.Proofs.Ytikigaeihdmcaaa
open Go.RowKit

/-- a formula that stands in memory -/
def CL (w : World) (v : Value) (t : Ltl) : Prop := Rd w (Old w) v t
theorem CL.ext {w w' : World} {v : Value} {t : Ltl} (h : CL w v t) (hE : Ext w w') : CL w' v t := Rd.mono h (fun b hb => hE.block b hb) (fun b hb => Nat.lt_of_lt_of_le hb hE.size)
theorem mk_catom (w : World) (n : Int) : Rt Try.prog 20 [.int .i64 n].toArray w fun v w' => CL w' v (.mk 3 n []) ∧ Ext w w' := by
  refine Rt.enter1 Try.func20 Try.ntmps20 rfl rfl ?_
  (repeat (first | (apply CW.seq) | (apply CW.region)))
  refine WL.alloc rfl rfl (fun w1 hb hE => ?_)
  (repeat (first | (apply WL.pure; rfl; rfl; rfl) | (apply WL.nil) | (apply EX.thenN) | (apply CW.seq) | (apply CW.region)))
  refine WL.build rfl rfl rfl rfl ?_
  refine WL.st rfl rfl rfl hb rfl rfl (ones_of rfl) (fun w2 hb2 hgr => ?_)
  have hE2 : Ext w w2 := hE.grown hgr hE.size (fun g hg => by cases hg; exact Nat.le_refl _)
  (repeat (first | (apply WL.nil) | (apply EX.thenN) | (apply CW.ret)))
  exact EX.retC rfl rfl hb2 rfl ⟨Rd.mkLtl (kids := []) ⟨by simp, by simp [maxLen], fun _ => rfl, fun i hi => absurd hi (by simp)⟩, hE2⟩
/-- blocks of F, and new ones -/
def PlusC (F : Nat → Prop) (w w' : World) : Nat → Prop := fun b => F b ∨ (w.heap.size ≤ b ∧ b < w'.heap.size)
theorem mk_coneF (w : World) {F : Nat → Prop} (hF : ∀ b, F b → b < w.heap.size) (k : Int) {v : Value} {t : Ltl} (h : Rd w F v t) : Rt Try.prog 19 [.int .i64 k, v].toArray w fun v w' => Rd w' (PlusC F w w') v (.mk k 0 [t] : Ltl) ∧ Ext w w' := by
  obtain ⟨ao, cap, rfl, hk⟩ := Rd.ltl h
  refine Rt.enter2 Try.func19 Try.ntmps19 rfl rfl ?_
  (repeat (first | (apply CW.seq) | (apply CW.region)))
  refine WL.boxB rfl rfl rfl fun w1 hb hE1 => ?_
  refine WL.alloc rfl rfl (fun w2 hr hE2 => ?_)
  have hb2 := hb.ext hE2
  have hE12 := hE1.trans hE2
  (repeat (first | (apply WL.pure; rfl; rfl; rfl) | (apply WL.nil) | (apply EX.thenN) | (apply CW.seq) | (apply CW.region) | (apply WL.ldA; rfl; rfl; rfl; assumption; rfl)))
  have hl : Rd w2 F (ltlV t.k t.n ao t.kids.length cap) t := Rd.mono h (fun b hb => hE12.block b (hF b hb)) (fun _ h => h)
  have hw2 : w.heap.size ≤ w2.heap.size := hE12.size
  have hlt := hr.lt
  have hw1 : w.heap.size ≤ w1.heap.size := hE1.size
  refine WL.lit (F := F) (ys := [t]) rfl rfl rfl rfl rfl (.cons hl .nil) (by show 1 * 3 ≤ 16777216; decide) (fun b hb => Nat.lt_of_lt_of_le (hF b hb) hw2) (fun w3 ho hg3 => ?_)
  have hE23 : Ext w2 w3 := (Ext.refl w2).grown hg3 (Nat.le_refl _) (fun k h => by cases h)
  have hr3 := hr.ext hE23
  have hE13 := hE12.trans hE23
  refine WL.build rfl rfl rfl rfl ?_
  refine WL.st rfl rfl rfl hr3 rfl rfl (ones_of rfl) (fun w4 hr4 hgr => ?_)
  have hE4 : Ext w w4 := hE13.grown hgr hE13.size (fun g hg => by cases hg; exact hE1.size)
  have ho4 := ho.kept hgr (fun g hg => by have := (ho.lt g hg).1; simp; omega) (fun b hb => ⟨Nat.lt_of_lt_of_le (hF b hb) hE13.size, by have : b < w.heap.size := hF b hb; simp; omega⟩)
  obtain ⟨uo, uc, he, hu⟩ := (ho4.rd.mono (F' := PlusC F w w4) (fun _ _ => rfl) (fun b hb => hb.elim .inl fun hv => .inr ⟨Nat.le_trans hE12.size (ho4.lt b hv).1, (ho4.lt b hv).2.1⟩)).sl
  obtain ⟨rfl, _, rfl⟩ := Value.slice.inj he
  (repeat (first | (apply WL.nil) | (apply EX.thenN) | (apply CW.ret)))
  exact EX.retC rfl rfl hr4 rfl ⟨Rd.mkLtl (kids := [t]) hu, hE4⟩
theorem mk_cone (w : World) (k : Int) {v : Value} {t : Ltl} (h : CL w v t) : Rt Try.prog 19 [.int .i64 k, v].toArray w fun v w' => CL w' v (.mk k 0 [t]) ∧ Ext w w' :=
  (mk_coneF w (fun _ h => h) k h).mono fun v w' h => ⟨Rd.mono h.1 (fun _ _ => rfl) fun b hb => hb.elim (fun h1 => Nat.lt_of_lt_of_le h1 h.2.size) (·.2), h.2⟩
end Go.Proofs.Ytikigaeihdmcaaa

/-
  watchkeep: labels, known: walked.
-/
set_option linter.unusedVariables false
set_option linter.unusedSimpArgs false
namespace Go.Proofs.Ytikigaeihdmcaaa
open Go.RowKit

theorem labels_ok (w0 : World) {a1 a2 a3 a4 to : Option Addr} {c1 c2 c3 c4 tc : Nat} {st : List Int} {nx fr : Graph} {lb : List Nat} {t : Ltl} (h1 : Sl w0 (Old w0) a1 c1 st) (h2 : Sl w0 (Old w0) a2 c2 nx) (h3 : Sl w0 (Old w0) a3 c3 lb) (h4 : Sl w0 (Old w0) a4 c4 fr) (ht : Sl w0 (Old w0) to tc t.kids)
    (hT : edges nx ≤ 8589934592) :
    Rt Try.prog 17 [worldV a1 c1 a2 c2 a3 c3 a4 c4 st.length nx.length lb.length fr.length, ltlV t.k t.n to t.kids.length tc].toArray w0 fun v w' => ∃ x, v = .tuple ⟨[x, .bool (decide (labE st nx lb.length fr t = 0))]⟩ ∧
      Own w' w0.heap.size 4 Non x (if labE st nx lb.length fr t = 0 then boolsN nx.length (ctlF nx lb fr t) else []) ∧ Ext w0 w' := by
  refine Rt.enter2 Try.func17 Try.ntmps17 rfl rfl ?_
  (repeat (first | (apply CW.seq) | (apply CW.region)))
  refine WL.boxB rfl rfl rfl fun w1 hb1 e1 => ?_
  skip
  refine WL.boxB rfl rfl rfl fun w2 hb2 e2 => ?_
  have hb1 := hb1.ext e2
  have hE := e1.trans e2
  (repeat (first | (apply WL.pure; rfl; rfl; rfl) | (apply WL.nil) | (apply EX.thenN) | (apply CW.seq) | (apply CW.region) | (apply WL.ldA; rfl; rfl; rfl; assumption; rfl)))
  refine WL.call rfl rfl rfl (Label_ok w2 (h1.up hE) (h2.up hE) (h3.up hE) (h4.up hE) (ht.up hE) hT) ?_
  rintro _ w3 ⟨x, rfl, hx, e3⟩
  have hd : (labE st nx lb.length fr t == 0) = decide (labE st nx lb.length fr t = 0) := rfl
  (repeat (first | (apply WL.pure; rfl; rfl; rfl) | (apply WL.nil) | (apply EX.thenN) | (apply CW.seq) | (apply CW.region) | (apply CW.ret)))
  refine EX.ret2 rfl rfl rfl ⟨x, ?_, hx.low hE.size, hE.trans e3⟩
  rw [hd]
theorem known_law {j : Nat} : ¬ egP [[1, 0], [0, 1]] [[0], [1]] (fun i => ¬ ctlF [[1, 0], [0, 1]] [1, 2] [[0], [1]] (.mk 3 1 []) i) j := by
  rintro ⟨r, _, h, ha⟩
  obtain ⟨i, _, hi⟩ := h.2 (fun x => ((x : Nat) : Int) ∈ ([1] : List Int)) (by simp [setPs]) 0
  have h1 : r i = 1 := by have := List.mem_singleton.1 hi; omega
  have := ha i
  rw [h1] at this
  exact this (show ([1, 2] : List Nat).getD 1 0 >>> (1 : Int).toNat &&& 1 = 1 by decide)
theorem known_val : boolsN 2 (ctlF [[1, 0], [0, 1]] [1, 2] [[0], [1]] (.mk 13 0 [.mk 12 0 [.mk 3 1 []]])) = [true, true] := by
  have h : ∀ n, ctlF [[1, 0], [0, 1]] [1, 2] [[0], [1]] (.mk 13 0 [.mk 12 0 [.mk 3 1 []]]) n := fun n => by
    show ¬ euP [[1, 0], [0, 1]] [[0], [1]] (fun _ => True) (fun j => ¬ ¬ egP [[1, 0], [0, 1]] [[0], [1]] (fun i => ¬ ctlF [[1, 0], [0, 1]] [1, 2] [[0], [1]] (.mk 3 1 []) i) j) n
    exact euP_none (fun j hj => hj known_law)
  refine (boolsN_of (l := [true, true]) rfl fun i hi => ?_).symm
  refine ⟨fun _ => h i, fun _ => ?_⟩
  have hi : i < 2 := hi
  rcases (show i = 0 ∨ i = 1 by omega) with rfl | rfl <;> rfl
theorem known_ok (w0 : World) : Rt Try.prog 4 [].toArray w0 fun v w' => v = .bool true ∧ Ext w0 w' := by
  refine Rt.enter0 Try.func4 Try.ntmps4 rfl ?_
  (repeat (first | (apply WL.pure; rfl; rfl; rfl) | (apply WL.nil) | (apply EX.thenN) | (apply CW.seq) | (apply CW.region)))
  refine WL.call rfl rfl rfl (wturns_okL w0) ?_
  rintro _ w1 ⟨⟨a1, c1, a2, c2, a3, c3, a4, c4, rfl, h1, h2, h3, h4⟩, e1⟩
  skip
  refine WL.call rfl rfl rfl (mk_catom w1 1) ?_
  rintro va w2 ⟨ha, e2⟩
  skip
  refine WL.call rfl rfl rfl (mk_cone w2 12 ha) ?_
  rintro vb w3 ⟨hb, e3⟩
  skip
  refine WL.call rfl rfl rfl (mk_cone w3 13 hb) ?_
  rintro vc w4 ⟨hc, e4⟩
  obtain ⟨to, tc, rfl, ht⟩ := Rd.ltl hc
  have hx := e2.trans (e3.trans e4)
  skip
  refine WL.call rfl rfl rfl (labels_ok w4 (st := [(0 : Int)]) (nx := [[(1 : Int), 0], [0, 1]]) (lb := [(1 : Nat), 2]) (fr := [[(0 : Int)], [1]]) (h1.up hx) (h2.up hx) (h3.up hx) (h4.up hx) ht (by decide)) ?_
  rintro _ w5 ⟨x, rfl, hxo, e5⟩
  have hz : labE [(0 : Int)] [[(1 : Int), 0], [0, 1]] 2 [[(0 : Int)], [1]] (.mk 13 0 [.mk 12 0 [.mk 3 1 []]]) = 0 := by
    unfold labE
    rw [if_neg (by decide)]
    simp [chkC, chkCL, kidsC]
  have hz' : labE [(0 : Int)] [[(1 : Int), 0], [0, 1]] ([(1 : Nat), 2] : List Nat).length [[(0 : Int)], [1]] (.mk 13 0 [.mk 12 0 [.mk 3 1 []]]) = 0 := hz
  rw [if_pos hz'] at hxo
  rw [decide_eq_true hz']
  have hkv : boolsN ([[(1 : Int), 0], [0, 1]] : Graph).length (ctlF [[(1 : Int), 0], [0, 1]] [(1 : Nat), 2] [[(0 : Int)], [1]] (.mk 13 0 [.mk 12 0 [.mk 3 1 []]])) = [true, true] := known_val
  rw [hkv] at hxo
  obtain ⟨xo, xc, rfl, hxs⟩ := hxo.asSl
  (repeat (first | (apply WL.pure; rfl; rfl; rfl) | (apply WL.nil) | (apply EX.thenN) | (apply CW.seq) | (apply CW.region)))
  refine WL.litR [true, true] rfl rfl rfl rfl rfl (.cons (Rd.mkBool _ _ _) (.cons (Rd.mkBool _ _ _) .nil)) (by decide) (fun yv w6 e6 hy _ => ?_)
  obtain ⟨yo, yc, rfl, hys⟩ := hy.sl
  skip
  refine WL.call rfl rfl rfl (equal_bool w6 (xs := [true, true]) (ys := [true, true]) (hxs.up e6) hys) ?_
  rintro _ w7 ⟨rfl, e7⟩
  (repeat (first | (apply WL.pure; rfl; rfl; rfl) | (apply WL.nil) | (apply EX.thenN) | (apply CW.ret)))
  exact EX.ret1 rfl rfl ⟨rfl, e1.trans (hx.trans (e5.trans (e6.trans e7)))⟩
end Go.Proofs.Ytikigaeihdmcaaa

/-
  Lists with room behind them: roomy, kept, spoil; capacity; stores into a row whose cells need not be known.
-/
set_option linter.unusedVariables false
set_option linter.unusedSimpArgs false
namespace Go.Proofs.Ytikigaeihdmcaaa
open Go.RowKit

section
variable {P : Program} {Q : Exit → Act → World → Prop} {n : Nat} {σ : Sg} {w : World} {L rest : List Oper} {d : Nat} {ty : TypeId} {pos : String} {af : Array Edge} {g : Option (Nat × Bool)}
variable {α : Type} [Rep α] {e t : TypeId} {x0 : α} {bytes : Nat} {F : Nat → Prop}
/-- cap(x) -/
theorem WL.capS {x : Operand} {ao : Option Addr} {k cap : Nat} (hg : gd L σ ⟨some d, .call ⟨.builtin .cap, #[x], #[t]⟩, ty, pos, af, g⟩ = some true) (hd : Nat.ble (d + 1) n = true)
    (hx : ev σ x = some (.slice ao k cap)) [hs : IsS P t e] (h : WL P L Q rest n ((d, .int .i64 (cap : Int)) :: σ) w) : WL P L Q (⟨some d, .call ⟨.builtin .cap, #[x], #[t]⟩, ty, pos, af, g⟩ :: rest) n σ w := by
  refine WL.run hg hd (fun a ha => ?_) h
  simp [execOp, resolve, invoke, builtin, ha.ev hx, Builtin.cap_, run_underlying hs.ok, goInt]
/-- make([]T, 0, k) -/
theorem WL.makeC {x y : Operand} {k : Nat} {kl kc : IntKind} (hg : gd L σ ⟨some d, .makeSlice t x y, ty, pos, af, g⟩ = some true) (hd : Nat.ble (d + 1) n = true)
    (hx : ev σ x = some (.int kl 0)) (hy : ev σ y = some (.int kc (k : Int))) [hs : IsS P t e] [ht : IsT P e α] [hz : IsZ P e x0 bytes] (hb : k * bytes ≤ 281474976710656) (hm : k ≤ maxLen)
    (h : ∀ w', Own w' w.heap.size e Non (.slice (some ⟨w.heap.size, 0, none⟩) 0 k) ([] : List α) → w.grownBy w' none → WL P L Q rest n ((d, .slice (some ⟨w.heap.size, 0, none⟩) 0 k) :: σ) w') :
    WL P L Q (⟨some d, .makeSlice t x y, ty, pos, af, g⟩ :: rest) n σ w := by
  obtain ⟨i, z, h1, h2, h3, h4⟩ := hz.ok
  obtain ⟨i', h1', h5⟩ := IsT.info (P := P) (t := e) (α := α)
  obtain rfl : i = i' := Option.some.inj (h1.symm.trans h1')
  have hzs : z.cells.size = sz α := by have := Rep.len (h4 w Non); simpa using this
  have hmm := hm
  unfold maxLen at hmm
  have hb' : (i.bytes : Int) * (k : Int) ≤ 281474976710656 := by
    have h : ((k * bytes : Nat) : Int) ≤ 281474976710656 := by omega
    rw [h3, Int.mul_comm]; rwa [Int.natCast_mul] at h
  have hr := run_make (P := P) w t e i z hs.ok h1 h2 kl kc 0 k (Int.le_refl _) (by omega) hb' (by omega)
  simp only [Int.toNat_natCast, Int.toNat_zero] at hr
  have hown : Own (w.alloc (.cells (madeCells z.cells (k * i.size)) e)) w.heap.size e Non (.slice (some ⟨w.heap.size, 0, none⟩) 0 k) ([] : List α) := by
    refine .inr ⟨w.heap.size, 0, k, _, rfl, ⟨heap_alloc_new w _, Nat.le_refl _, fun h => h, by simp, hm, ?_, ?_⟩⟩
    · simp [madeCells, h5]
    · simpa using Elems.nil
  refine WL.run hg hd (fun a ha => ?_) (h _ hown (grown_alloc w _ none))
  simp [execOp, ha.ev hx, ha.ev hy, hr]
/-- append(x, ys...) where there is room -/
theorem WL.appIn {x y : Operand} {xs ys : List α} {ao : Option Addr} {b off cap cp B : Nat} (hg : gd L σ ⟨some d, .call ⟨.builtin .append, #[x, y], #[t, t]⟩, ty, pos, af, g⟩ = some true) (hd : Nat.ble (d + 1) n = true)
    (hx : ev σ x = some (.slice (some ⟨b, off, none⟩) xs.length cp)) (hy : ev σ y = some (.slice ao ys.length cap)) [hs : IsS P t e] [ht : IsT P e α] [hz : IsZ P e x0 bytes] (hown : Own w B e F (.slice (some ⟨b, off, none⟩) xs.length cp) xs) (hsl : Src w F ao ys)
    (hroom : xs.length + ys.length ≤ cp)
    (h : ∀ w', Own w' B e F (.slice (some ⟨b, off, none⟩) (xs.length + ys.length) cp) (xs ++ ys) → w.grownBy w' (some b) → WL P L Q rest n ((d, .slice (some ⟨b, off, none⟩) (xs.length + ys.length) cp) :: σ) w') :
    WL P L Q (⟨some d, .call ⟨.builtin .append, #[x, y], #[t, t]⟩, ty, pos, af, g⟩ :: rest) n σ w := by
  obtain ⟨i, z, h1, h2, h3, h4⟩ := hz.ok
  obtain ⟨i', h1', h5⟩ := IsT.info (P := P) (t := e) (α := α)
  obtain rfl : i = i' := Option.some.inj (h1.symm.trans h1')
  obtain ⟨hnone, news, he, hc⟩ := hsl
  have hl := he.1
  have hne : ∀ u ∈ news, u.oneCell' = true := he.ones
  have news0 : ys.length = 0 → news = [] := fun h => List.eq_nil_of_length_eq_zero (by rw [hl, h, Nat.zero_mul])
  rcases hown with ⟨h0, _⟩ | ⟨g', off', cp', cur, h0, ho⟩
  · cases h0
  · obtain ⟨h01, _, rfl⟩ := Value.slice.inj h0
    simp only [Option.some.injEq, Addr.mk.injEq] at h01
    obtain ⟨rfl, rfl, _⟩ := h01
    have hfit : off + xs.length * sz α + news.length ≤ cur.size := by
      have h6 : (xs.length + ys.length) * sz α ≤ cp * sz α := Nat.mul_le_mul_right _ hroom
      have h7 := ho.fit
      rw [Nat.add_mul] at h6
      rw [hl]
      omega
    have hfst : (Builtin.firstCells (sz α) ys.length (.slice ao ys.length cap)).run P w = .ok news.toArray w := by
      cases ao with
      | none =>
        have : ys.length = 0 := by rw [hnone rfl]; rfl
        rw [news0 this]
        simp [Builtin.firstCells]
      | some b' =>
        by_cases hy0 : ys.length = 0
        · rw [news0 hy0, hy0]
          simp [Builtin.firstCells, loadCells, loadCellsFrom]
        · exact run_firstCells_some (P := P) w (sz α) ys.length b' ys.length cap news hl (hc b' rfl (fun e => hy0 (by rw [e]; rfl)))
    have hst := run_storeCells_at P b (off + xs.length * sz α) e news 0 cur w ho.blk (by simpa using hfit) hne
    simp only [Nat.add_zero] at hst
    have hrun : (Builtin.append_ #[t, t] ty #[.slice (some ⟨b, off, none⟩) xs.length cp, .slice ao ys.length cap]).run P w =
        .ok (.slice (some ⟨b, off, none⟩) (xs.length + ys.length) cp) (w.setRow b (cur.toList.take (off + xs.length * sz α) ++ news ++ cur.toList.drop (off + xs.length * sz α + news.length)).toArray) := by
      simp [Builtin.append_, run_underlying hs.ok, sizeOf, typeInfo, h1, Builtin.lenOf, hroom, h5, hfst, WideShapes.add_plain, hst]
    have hown' : Own (w.setRow b (cur.toList.take (off + xs.length * sz α) ++ news ++ cur.toList.drop (off + xs.length * sz α + news.length)).toArray) B e F (.slice (some ⟨b, off, none⟩) (xs.length + ys.length) cp) (xs ++ ys) := by
      refine .inr ⟨b, off, cp, _, by rw [List.length_append], ⟨setRow_heap w b cur _ e _ ho.blk, ho.ge, ho.nF, by simpa using hroom, ho.mx, ?_, ?_⟩⟩
      · have h7 := ho.fit
        simp only [List.size_toArray, List.length_append, List.length_take, List.length_drop, Array.length_toList]
        omega
      · have hh : ∀ k, F k → (w.setRow b (cur.toList.take (off + xs.length * sz α) ++ news ++ cur.toList.drop (off + xs.length * sz α + news.length)).toArray).heap[k]? = w.heap[k]? :=
          fun k hk => setRow_other w b k _ (fun e => ho.nF (e ▸ hk))
        have e1 : (((cur.toList.take (off + xs.length * sz α) ++ news ++ cur.toList.drop (off + xs.length * sz α + news.length)).toArray.toList.drop off).take ((xs ++ ys).length * sz α)) = (cur.toList.drop off).take (xs.length * sz α) ++ news := by
          rw [List.length_append, Nat.add_mul]
          have h8 : off + xs.length * sz α + ys.length * sz α ≤ cur.toList.length := by rw [hl] at hfit; rw [Array.length_toList]; exact hfit
          have h9 := take_drop_over (cur := cur.toList) hl h8
          rw [hl]
          exact h9
        rw [e1]
        exact (ho.el.mono hh fun _ h => h).append (he.mono hh fun _ h => h)
    refine WL.run hg hd (fun a ha => ?_) (h _ hown' (grown_setRow w b _))
    simp [execOp, resolve, invoke, builtin, ha.ev hx, ha.ev hy, hrun]
/-- x[i] = y in a row whose cells need not be known; elements of one cell -/
theorem WL.stRow {x ix y : Operand} {v : Value} {b off len cap : Nat} {cur : Array Value} {i : Nat} {kd : IntKind} {ty' : TypeId} {pos' : String} {af' : Array Edge} {g' : Option (Nat × Bool)}
    (hg : gd L σ ⟨some d, .indexAddr t x ix, ty, pos, af, g⟩ = some true) (hd : Nat.ble (d + 1) n = true)
    (hx : ev σ x = some (.slice (some ⟨b, off, none⟩) len cap)) (hi : ev σ ix = some (.int kd (i : Int))) [hs : IsS P t e] [ht : IsT P e α] (h1 : sz α = 1) (hlt : i < len) (hb : w.heap[b]? = some (.cells cur e (0, 0))) (hfit : off + i < cur.size)
    (hg' : ∀ p, gd L ((d, .pointer p) :: σ) ⟨none, .store e (.tmp d) y, ty', pos', af', g'⟩ = some true) (hy : ∀ p, ev ((d, .pointer p) :: σ) y = some v) (hv : v.oneCell' = true)
    (h : ∀ w' p cur', w'.heap[b]? = some (.cells cur' e (0, 0)) → cur'.size = cur.size → w.grownBy w' (some b) → WL P L Q rest n ((d, .pointer p) :: σ) w') :
    WL P L Q (⟨some d, .indexAddr t x ix, ty, pos, af, g⟩ :: ⟨none, .store e (.tmp d) y, ty', pos', af', g'⟩ :: rest) n σ w := by
  refine WL.idx (α := α) hg hd hx hi (by omega) (by omega) ?_
  rw [h1, Nat.mul_one, Int.toNat_natCast]
  have hst := run_storeCells_at P b (off + i) e [v] 0 cur w hb (by simp; omega) (by simpa using hv)
  simp only [Nat.add_zero] at hst
  have hvc : v.cells = #[v] := by cases v <;> first | rfl | (simp [Value.oneCell'] at hv)
  refine WL.runU (hg' _) (fun a ha => ?_) (h _ _ (cur.toList.take (off + i) ++ [v] ++ cur.toList.drop (off + i + [v].length)).toArray (setRow_heap w b cur _ e _ hb) ?_ (grown_setRow w b _))
  · have e1 := ha.ev (x := .tmp d) fnd_cons_eq
    have e2 := ha.ev (hy _)
    simp only [execOp, e1, e2, Instr.storeAt, Sem.run_bind, Instr.sureAddr, Sem.run_pure, Result.andThen_ok, storeVar, run_sizeOf (α := α), h1, hvc]
    simp
    simp [hst]
  · simp; omega
end

/-- a list with two of x behind it -/
structure Room (w : World) (B : Nat) (e : TypeId) (v : Value) (xs : List Int) (x : Int) : Prop where
  ok : ∃ b, v = .slice (some ⟨b, 0, none⟩) xs.length (xs.length + 3) ∧ Own w B e Non (.slice (some ⟨b, 0, none⟩) (xs ++ [x, x]).length (xs.length + 3)) (xs ++ [x, x])
theorem Room.own {w : World} {B : Nat} {e : TypeId} {v : Value} {xs : List Int} {x : Int} (h : Room w B e v xs x) : Own w B e Non v xs := by
  obtain ⟨b, rfl, ho⟩ := h.ok
  have := ho.take rfl (k := xs.length) (by simp)
  rwa [List.take_left'] at this
  rfl
theorem Room.keep {w w' : World} {B : Nat} {e : TypeId} {v : Value} {xs : List Int} {x : Int} (h : Room w B e v xs x) (hg : ∀ g, v.ownBlock = some g → w'.heap[g]? = w.heap[g]?) : Room w' B e v xs x := by
  obtain ⟨b, rfl, ho⟩ := h.ok
  exact ⟨b, rfl, ho.keep hg fun _ h => h.elim⟩
theorem Room.ext {w w' : World} {B : Nat} {e : TypeId} {v : Value} {xs : List Int} {x : Int} (h : Room w B e v xs x) (hE : Ext w w') : Room w' B e v xs x :=
  h.keep fun g hg => hE.block g (h.own.lt g hg).2.1

theorem roomy_ok (w0 : World) {F : Nat → Prop} {ao : Option Addr} {cap : Nat} {xs : List Int} (hs : Sl w0 F ao cap xs) (hF : ∀ b, F b → b < w0.heap.size) (x : Int) (hb : xs.length ≤ 1099511627776) :
    Rt Try.prog 5 [.slice ao xs.length cap, .int .i64 x].toArray w0 fun v w' => Room w' w0.heap.size 3 v xs x ∧ Ext w0 w' := by
  refine Rt.enter2 Try.func5 Try.ntmps5 rfl rfl ?_
  (repeat (first | (apply WL.add; rfl; rfl; rfl; rfl; omega; omega) | (apply WL.pure; rfl; rfl; rfl) | (apply WL.nil) | (apply EX.thenN) | (apply CW.seq) | (apply CW.region) | (apply WL.lenS; rfl; rfl; rfl)))
  refine WL.makeC (α := Int) (k := xs.length + 3) rfl rfl rfl rfl (by omega) (by unfold maxLen; omega) (fun w1 ho1 hg1 => ?_)
  have hE1 : Ext w0 w1 := (Below.refl _ _).grown hg1 (Nat.le_refl _) (fun k h => by cases h)
  (repeat (apply WL.pure; rfl; rfl; rfl))
  have hs1 : Sl w1 F ao cap xs := hs.mono (fun b hb => hE1.block b (hF b hb)) fun _ h => h
  refine WL.appIn (F := Non) (xs := []) (cap := cap) rfl rfl rfl rfl ho1 hs1.srcN (by simp) (fun w2 ho2 hg2 => ?_)
  have hE2 : Ext w0 w2 := hE1.grown hg2 hE1.size (fun k h => by cases h; exact Nat.le_refl _)
  simp only [List.nil_append, List.length_nil, Nat.zero_add] at ho2
  (repeat (apply WL.pure; rfl; rfl; rfl))
  refine WL.lit (F := Non) (ys := [x, x]) rfl rfl rfl rfl rfl (.cons (Rd.mkInt _ _ _) (.cons (Rd.mkInt _ _ _) .nil)) (by show 2 * 1 ≤ 16777216; decide) (fun _ h => h.elim) (fun w3 ho3 hg3 => ?_)
  have hE3 : Ext w0 w3 := hE2.grown hg3 hE2.size (fun k h => by cases h)
  have ho2' := ho2.keptN hg3 (fun g hg e => by cases e)
  refine WL.appIn (F := Non) (xs := xs) (ys := [x, x]) (cap := 2) rfl rfl (by simp only [List.length_nil, Nat.zero_add]; rfl) rfl ho2' ho3.src (by simp) (fun w4 ho4 hg4 => ?_)
  have hE4 : Ext w0 w4 := hE3.grown hg4 hE3.size (fun k h => by cases h; exact Nat.le_refl _)
  (repeat (first | (apply WL.pure; rfl; rfl; rfl) | (apply WL.nil) | (apply EX.thenN) | (apply CW.seq) | (apply CW.region) | (apply WL.lenS; rfl; rfl; rfl)))
  refine WL.cutHi (α := Int) xs.length rfl rfl rfl rfl rfl (by omega) ?_
  (repeat (first | (apply WL.pure; rfl; rfl; rfl) | (apply WL.nil) | (apply EX.thenN) | (apply CW.ret)))
  exact EX.ret1 rfl rfl ⟨⟨w0.heap.size, rfl, by simpa using ho4⟩, hE4⟩
theorem kept_ok (w0 : World) {B : Nat} {v : Value} {xs : List Int} {x : Int} (h : Room w0 B 3 v xs x) (hb : xs.length ≤ 1099511627776) :
    Rt Try.prog 12 [v, .int .i64 x].toArray w0 fun v w' => v = .bool true ∧ w0 = w' := by
  obtain ⟨b, rfl, ho⟩ := h.ok
  refine Rt.enter2 Try.func12 Try.ntmps12 rfl rfl ?_
  (repeat (first | (apply WL.add; rfl; rfl; rfl; rfl; omega; omega) | (apply WL.pure; rfl; rfl; rfl) | (apply WL.nil) | (apply EX.thenN) | (apply CW.seq) | (apply CW.region) | (apply WL.lenS; rfl; rfl; rfl)))
  refine WL.cutHi (α := Int) (xs.length + 2) (by omega) rfl rfl rfl rfl (by omega) ?_
  have hl : (xs ++ [x, x]).length = xs.length + 2 := by simp
  rw [hl] at ho
  (repeat (first | (apply WL.pure; rfl; rfl; rfl) | (apply WL.nil) | (apply EX.thenN) | (apply CW.seq) | (apply CW.region) | (apply WL.lenS; rfl; rfl; rfl)))
  refine WL.elemON (i := xs.length) rfl rfl rfl rfl rfl ho (by simp) (fun _ => rfl) (fun u q hu => ?_)
  obtain rfl := hu.int
  have e1 : (xs ++ [x, x])[xs.length]'(by simp) = x := by simp
  rw [e1]
  (repeat (apply WL.pure; rfl; rfl; rfl))
  rw [show (x == x) = true from beq_self_eq_true x]
  (repeat (first | (apply WL.add; rfl; rfl; rfl; rfl; omega; omega) | (apply WL.pure; rfl; rfl; rfl) | (apply WL.lenS; rfl; rfl; rfl)))
  refine WL.elemO rfl rfl rfl rfl rfl ho (by omega) (by simp) (fun _ => rfl) (fun u q hu => ?_)
  obtain rfl := hu.int
  have e2 : (xs ++ [x, x])[((xs.length : Int) + 1).toNat]'(by simp) = x := by
    have : ((xs.length : Int) + 1).toNat = xs.length + 1 := by omega
    simp [this]
  rw [e2]
  (repeat (first | (apply WL.pure; rfl; rfl; rfl) | (apply WL.nil) | (apply EX.thenN) | (apply CW.ret)))
  exact EX.ret1 rfl rfl ⟨by rw [show (x == x) = true from beq_self_eq_true x], rfl⟩
theorem spoil_ok (w0 : World) {B : Nat} {v : Value} {xs : List Int} (h : Own w0 B 3 Non v xs) (x : Int) :
    Rt Try.prog 9 [v, .int .i64 x].toArray w0 fun _ w' => w0.grownBy w' v.ownBlock := by
  refine Rt.enter2 Try.func9 Try.ntmps9 rfl rfl ?_
  have hv : ∃ ao cap, v = .slice ao xs.length cap ∧ cap ≤ maxLen ∧ (0 < cap → ∃ b off cur, ao = some ⟨b, off, none⟩ ∧ w0.heap[b]? = some (.cells cur 3 (0, 0)) ∧ off + cap ≤ cur.size) := by
    rcases h with ⟨rfl, rfl⟩ | ⟨b, off, cap, cur, rfl, ho⟩
    · exact ⟨none, 0, rfl, by simp [maxLen], fun h => absurd h (by simp)⟩
    · exact ⟨_, cap, rfl, ho.mx, fun _ => ⟨b, off, cur, rfl, ho.blk, by have := ho.fit; simpa [sz, Rep.sz] using this⟩⟩
  obtain ⟨ao, cap, rfl, hmx, hcap⟩ := hv
  unfold maxLen at hmx
  (repeat (first | (apply WL.pure; rfl; rfl; rfl) | (apply CW.seq) | (apply CW.region)))
  refine WL.capS rfl rfl rfl ?_
  skip
  refine WL.cutHi (α := Int) cap rfl rfl rfl rfl rfl (Nat.le_refl _) ?_
  (repeat (first | (apply WL.pure; rfl; rfl; rfl) | (apply WL.nil) | (apply EX.thenN) | (apply CW.seq) | (apply CW.region) | (apply WL.lenS; rfl; rfl; rfl) | (apply CW.block)))
  refine CW.loop (S := Nat) (fun k => [(0, .slice ao cap cap), (1, .int .i64 x), (10, .int .i64 cap), (11, .int .i64 k)])
    (fun k w => k ≤ cap ∧ w0.grownBy w (Value.ownBlock (.slice ao xs.length cap)) ∧ ∀ b off, ao = some ⟨b, off, none⟩ → 0 < cap → ∃ cur, w.heap[b]? = some (.cells cur 3 (0, 0)) ∧ off + cap ≤ cur.size) (fun k => cap - k) 0 (by repeat (first | exact trivial | refine ⟨rfl, ?_⟩)) ⟨by omega, ⟨rfl, rfl, rfl, Nat.le_refl _, fun _ _ _ => rfl⟩, ?_⟩ ?_
  · intro b off e hpos
    obtain ⟨b', off', cur, e', h1, h2⟩ := hcap hpos
    rw [e] at e'
    simp only [Option.some.injEq, Addr.mk.injEq] at e'
    obtain ⟨rfl, rfl, _⟩ := e'
    exact ⟨cur, h1, h2⟩
  rintro k w ⟨hk, hg, hb⟩
  (repeat (first | (apply WL.pure; rfl; rfl; rfl) | (apply WL.nil) | (apply EX.thenN) | (apply CW.seq) | (apply CW.region)))
  refine CW.cond rfl (fun h1 => ?_) (fun h1 => ?_)
  · simp at h1
    obtain ⟨b, off, cur0, rfl, h2, h3⟩ := hcap (by omega)
    obtain ⟨cur, h4, h5⟩ := hb b off rfl (by omega)
    (repeat (first | (apply WL.pure; rfl; rfl; rfl) | (apply WL.nil) | (apply EX.thenN) | (apply CW.seq) | (apply CW.region) | (apply CW.block) | (apply CW.skip)))
    refine WL.stRow (α := Int) rfl rfl rfl rfl rfl h1 h4 (by omega) (fun _ => rfl) (fun _ => rfl) rfl (fun w' p cur' h6 h7 hg2 => ?_)
    (repeat (first | (apply WL.add; rfl; rfl; rfl; rfl; omega; omega) | (apply WL.pure; rfl; rfl; rfl) | (apply WL.nil) | (apply EX.thenN) | (apply CW.region) | (apply EX.inN)))
    refine EX.back (k + 1) (by repeat (first | exact trivial | refine ⟨rfl, ?_⟩)) ⟨h1, ?_, fun b' off' e _ => ?_⟩ (by omega)
    · exact ⟨hg2.os.trans hg.os, hg2.tape.trans hg.tape, hg2.output.trans hg.output, Nat.le_trans hg.size hg2.size, fun k hk hne => (hg2.block k (Nat.lt_of_lt_of_le hk hg.size) hne).trans (hg.block k hk hne)⟩
    · simp only [Option.some.injEq, Addr.mk.injEq] at e
      obtain ⟨rfl, rfl, _⟩ := e
      exact ⟨cur', h6, by rw [h7]; exact h5⟩
  · simp at h1
    (repeat (first | (apply CW.exit) | (apply EX.thenX) | (apply EX.inX)))
    exact EX.end0 rfl hg
end Go.Proofs.Ytikigaeihdmcaaa

/-
  roomy, kept and spoil at []uint64 (printed out of XRoom).
-/
set_option linter.unusedVariables false
set_option linter.unusedSimpArgs false
namespace Go.Proofs.Ytikigaeihdmcaaa
open Go.RowKit

/-- letters with two of x behind them -/
structure RoomU (w : World) (B : Nat) (e : TypeId) (v : Value) (xs : List Nat) (x : Nat) : Prop where
  ok : ∃ b, v = .slice (some ⟨b, 0, none⟩) xs.length (xs.length + 3) ∧ Own w B e Non (.slice (some ⟨b, 0, none⟩) (xs ++ [x, x]).length (xs.length + 3)) (xs ++ [x, x])
theorem RoomU.own {w : World} {B : Nat} {e : TypeId} {v : Value} {xs : List Nat} {x : Nat} (h : RoomU w B e v xs x) : Own w B e Non v xs := by
  obtain ⟨b, rfl, ho⟩ := h.ok
  have := ho.take rfl (k := xs.length) (by simp)
  rwa [List.take_left'] at this
  rfl
theorem RoomU.keep {w w' : World} {B : Nat} {e : TypeId} {v : Value} {xs : List Nat} {x : Nat} (h : RoomU w B e v xs x) (hg : ∀ g, v.ownBlock = some g → w'.heap[g]? = w.heap[g]?) : RoomU w' B e v xs x := by
  obtain ⟨b, rfl, ho⟩ := h.ok
  exact ⟨b, rfl, ho.keep hg fun _ h => h.elim⟩
theorem RoomU.ext {w w' : World} {B : Nat} {e : TypeId} {v : Value} {xs : List Nat} {x : Nat} (h : RoomU w B e v xs x) (hE : Ext w w') : RoomU w' B e v xs x :=
  h.keep fun g hg => hE.block g (h.own.lt g hg).2.1

theorem RoomU.low {w : World} {B B' : Nat} {e : TypeId} {v : Value} {xs : List Nat} {x : Nat} (h : RoomU w B e v xs x) (hB : B' ≤ B) : RoomU w B' e v xs x := by
  obtain ⟨b, h1, h2⟩ := h.ok
  exact ⟨b, h1, h2.low hB⟩
theorem roomyU_ok (w0 : World) {F : Nat → Prop} {ao : Option Addr} {cap : Nat} {xs : List Nat} (hs : Sl w0 F ao cap xs) (hF : ∀ b, F b → b < w0.heap.size) (x : Nat) (hx64 : x < 18446744073709551616) (hb : xs.length ≤ 1099511627776) :
    Rt Try.prog 6 [.slice ao xs.length cap, .int .u64 (x : Int)].toArray w0 fun v w' => RoomU w' w0.heap.size 33 v xs x ∧ Ext w0 w' := by
  refine Rt.enter2 Try.func6 Try.ntmps6 rfl rfl ?_
  (repeat (first | (apply WL.add; rfl; rfl; rfl; rfl; omega; omega) | (apply WL.pure; rfl; rfl; rfl) | (apply WL.nil) | (apply EX.thenN) | (apply CW.seq) | (apply CW.region) | (apply WL.lenS; rfl; rfl; rfl)))
  refine WL.makeC (α := Nat) (k := xs.length + 3) rfl rfl rfl rfl (by omega) (by unfold maxLen; omega) (fun w1 ho1 hg1 => ?_)
  have hE1 : Ext w0 w1 := (Below.refl _ _).grown hg1 (Nat.le_refl _) (fun k h => by cases h)
  (repeat (apply WL.pure; rfl; rfl; rfl))
  have hs1 : Sl w1 F ao cap xs := hs.mono (fun b hb => hE1.block b (hF b hb)) fun _ h => h
  refine WL.appIn (F := Non) (xs := []) (cap := cap) rfl rfl rfl rfl ho1 hs1.srcN (by simp) (fun w2 ho2 hg2 => ?_)
  have hE2 : Ext w0 w2 := hE1.grown hg2 hE1.size (fun k h => by cases h; exact Nat.le_refl _)
  simp only [List.nil_append, List.length_nil, Nat.zero_add] at ho2
  (repeat (apply WL.pure; rfl; rfl; rfl))
  refine WL.lit (F := Non) (ys := [x, x]) rfl rfl rfl rfl rfl (.cons ⟨_, rfl, rd_mkU64 _ _ x hx64⟩ (.cons ⟨_, rfl, rd_mkU64 _ _ x hx64⟩ .nil)) (by show 2 * 1 ≤ 16777216; decide) (fun _ h => h.elim) (fun w3 ho3 hg3 => ?_)
  have hE3 : Ext w0 w3 := hE2.grown hg3 hE2.size (fun k h => by cases h)
  have ho2' := ho2.keptN hg3 (fun g hg e => by cases e)
  refine WL.appIn (F := Non) (xs := xs) (ys := [x, x]) (cap := 2) rfl rfl (by simp only [List.length_nil, Nat.zero_add]; rfl) rfl ho2' ho3.src (by simp) (fun w4 ho4 hg4 => ?_)
  have hE4 : Ext w0 w4 := hE3.grown hg4 hE3.size (fun k h => by cases h; exact Nat.le_refl _)
  (repeat (first | (apply WL.pure; rfl; rfl; rfl) | (apply WL.nil) | (apply EX.thenN) | (apply CW.seq) | (apply CW.region) | (apply WL.lenS; rfl; rfl; rfl)))
  refine WL.cutHi (α := Nat) xs.length rfl rfl rfl rfl rfl (by omega) ?_
  (repeat (first | (apply WL.pure; rfl; rfl; rfl) | (apply WL.nil) | (apply EX.thenN) | (apply CW.ret)))
  exact EX.ret1 rfl rfl ⟨⟨w0.heap.size, rfl, by simpa using ho4⟩, hE4⟩
theorem keptU_ok (w0 : World) {B : Nat} {v : Value} {xs : List Nat} {x : Nat} (h : RoomU w0 B 33 v xs x) (hb : xs.length ≤ 1099511627776) :
    Rt Try.prog 13 [v, .int .u64 (x : Int)].toArray w0 fun v w' => v = .bool true ∧ w0 = w' := by
  obtain ⟨b, rfl, ho⟩ := h.ok
  refine Rt.enter2 Try.func13 Try.ntmps13 rfl rfl ?_
  (repeat (first | (apply WL.add; rfl; rfl; rfl; rfl; omega; omega) | (apply WL.pure; rfl; rfl; rfl) | (apply WL.nil) | (apply EX.thenN) | (apply CW.seq) | (apply CW.region) | (apply WL.lenS; rfl; rfl; rfl)))
  refine WL.cutHi (α := Nat) (xs.length + 2) (by omega) rfl rfl rfl rfl (by omega) ?_
  have hl : (xs ++ [x, x]).length = xs.length + 2 := by simp
  rw [hl] at ho
  (repeat (first | (apply WL.pure; rfl; rfl; rfl) | (apply WL.nil) | (apply EX.thenN) | (apply CW.seq) | (apply CW.region) | (apply WL.lenS; rfl; rfl; rfl)))
  refine WL.elemON (i := xs.length) rfl rfl rfl rfl rfl ho (by simp) (fun _ => rfl) (fun u q hu => ?_)
  obtain ⟨rfl, _⟩ := hu.u64
  have e1 : (xs ++ [x, x])[xs.length]'(by simp) = x := by simp
  rw [e1]
  (repeat (apply WL.pure; rfl; rfl; rfl))
  rw [show ((x : Int) == (x : Int)) = true from beq_self_eq_true (x : Int)]
  (repeat (first | (apply WL.add; rfl; rfl; rfl; rfl; omega; omega) | (apply WL.pure; rfl; rfl; rfl) | (apply WL.lenS; rfl; rfl; rfl)))
  refine WL.elemO rfl rfl rfl rfl rfl ho (by omega) (by simp) (fun _ => rfl) (fun u q hu => ?_)
  obtain ⟨rfl, _⟩ := hu.u64
  have e2 : (xs ++ [x, x])[((xs.length : Int) + 1).toNat]'(by simp) = x := by
    have : ((xs.length : Int) + 1).toNat = xs.length + 1 := by omega
    simp [this]
  rw [e2]
  (repeat (first | (apply WL.pure; rfl; rfl; rfl) | (apply WL.nil) | (apply EX.thenN) | (apply CW.ret)))
  exact EX.ret1 rfl rfl ⟨by rw [show ((x : Int) == (x : Int)) = true from beq_self_eq_true (x : Int)], rfl⟩
end Go.Proofs.Ytikigaeihdmcaaa

/-
  Lists of lists with room behind each.
-/
set_option linter.unusedVariables false
set_option linter.unusedSimpArgs false
namespace Go.Proofs.Ytikigaeihdmcaaa
open Go.RowKit

structure RoomN (w : World) (B : Nat) (v : Value) (vs : List Raw) (xs : List (List Int)) : Prop where
  out : Own w B 22 Non v vs
  len : vs.length = xs.length
  inn : ∀ i (h : i < vs.length) (h' : i < xs.length), Room w B 3 vs[i].v xs[i] 77
  dis : ∀ i j (hi : i < vs.length) (hj : j < vs.length), i ≠ j → ∀ g, vs[i].v.ownBlock = some g → vs[j].v.ownBlock = some g → False
  dio : ∀ i (hi : i < vs.length) g, vs[i].v.ownBlock = some g → v.ownBlock = some g → False
theorem RoomN.own {w : World} {B : Nat} {v : Value} {vs : List Raw} {xs : List (List Int)} (h : RoomN w B v vs xs) : OwnN w B 22 3 v vs xs :=
  ⟨h.out, h.len, fun i hi hi' => (h.inn i hi hi').own, h.dis, h.dio⟩
theorem RoomN.ext {w w' : World} {B : Nat} {v : Value} {vs : List Raw} {xs : List (List Int)} (h : RoomN w B v vs xs) (hE : Ext w w') : RoomN w' B v vs xs :=
  ⟨h.out.extN hE, h.len, fun i hi hi' => (h.inn i hi hi').ext hE, h.dis, h.dio⟩
theorem RoomN.nil {w : World} {B : Nat} : RoomN w B (.slice none 0 0) [] [] := ⟨Own.nil, rfl, fun i hi => absurd hi (by simp), fun i j hi => absurd hi (by simp), fun i hi => absurd hi (by simp)⟩
theorem Room.low {w : World} {B B' : Nat} {e : TypeId} {v : Value} {xs : List Int} {x : Int} (h : Room w B e v xs x) (hB : B' ≤ B) : Room w B' e v xs x := by
  obtain ⟨b, h1, h2⟩ := h.ok
  exact ⟨b, h1, h2.low hB⟩
theorem RoomN.app {w w1 w2 : World} {B : Nat} {v v' r : Value} {vs : List Raw} {xs : List (List Int)} {x : List Int} (h : RoomN w B v vs xs) (hB : B ≤ w.heap.size) (hr : Room w1 w.heap.size 3 r x 77) (hE : Ext w w1)
    (ho : Own w2 B 22 Non v' (vs ++ [⟨r⟩])) (hg : w1.grownBy w2 v.ownBlock) (hnb : ∀ g, v'.ownBlock = some g → v.ownBlock = some g ∨ w1.heap.size ≤ g) : RoomN w2 B v' (vs ++ [⟨r⟩]) (xs ++ [x]) := by
  have hold : ∀ j (hj : j < vs.length), ∀ g, vs[j].v.ownBlock = some g → g < w.heap.size := fun j hj g hg => ((h.inn j hj (by rw [← h.len]; exact hj)).own.lt g hg).2.1
  have holdv : ∀ g, v.ownBlock = some g → g < w.heap.size := fun g hg => (h.out.lt g hg).2.1
  have hnew : ∀ g, r.ownBlock = some g → w.heap.size ≤ g ∧ g < w1.heap.size := fun g hg => ⟨(hr.own.lt g hg).1, (hr.own.lt g hg).2.1⟩
  have hsz := hE.size
  refine ⟨ho, by simp [h.len], fun i hi hi' => ?_, fun i j hi hj hne g h1 h2 => ?_, fun i hi g h1 h2 => ?_⟩
  · by_cases e : i < vs.length
    · rw [List.getElem_append_left e, List.getElem_append_left (by rw [← h.len]; exact e)]
      have h0 := (h.inn i e (by rw [← h.len]; exact e))
      refine (h0.ext hE).keep fun g hg' => hg.block g (Nat.lt_of_lt_of_le (hold i e g hg') hsz) (fun e2 => h.dio i e g hg' e2.symm)
    · have : i = vs.length := by simp at hi; omega
      subst this
      have e2 : (xs ++ [x])[vs.length]'hi' = x := by simp [h.len]
      rw [e2]
      simp only [List.getElem_concat_length]
      refine (hr.low hB).keep fun g hg' => hg.block g (hnew g hg').2 (fun e2 => ?_)
      have := holdv g e2.symm
      have := (hnew g hg').1
      omega
  · by_cases ei : i < vs.length <;> by_cases ej : j < vs.length
    · rw [List.getElem_append_left ei] at h1
      rw [List.getElem_append_left ej] at h2
      exact h.dis i j ei ej hne g h1 h2
    · have : j = vs.length := by simp at hj; omega
      subst this
      rw [List.getElem_append_left ei] at h1
      simp only [List.getElem_concat_length] at h2
      have := hold i ei g h1
      have := (hnew g h2).1
      omega
    · have : i = vs.length := by simp at hi; omega
      subst this
      rw [List.getElem_append_left ej] at h2
      simp only [List.getElem_concat_length] at h1
      have := hold j ej g h2
      have := (hnew g h1).1
      omega
    · simp at hi hj; omega
  · by_cases ei : i < vs.length
    · rw [List.getElem_append_left ei] at h1
      rcases hnb g h2 with h3 | h3
      · exact h.dio i ei g h1 h3
      · have := hold i ei g h1; omega
    · have : i = vs.length := by simp at hi; omega
      subst this
      simp only [List.getElem_concat_length] at h1
      have h4 := hnew g h1
      rcases hnb g h2 with h3 | h3
      · have := holdv g h3; omega
      · omega

theorem len_edges : ∀ (g : List (List Int)) (i : Nat) (h : i < g.length), g[i].length ≤ edges g
  | [], i, h => absurd h (by simp)
  | l :: g, 0, h => by simp [edges]
  | l :: g, i + 1, h => by
    have := len_edges g i (by simpa using h)
    simp only [edges, List.map_cons, List.sum_cons, List.getElem_cons_succ] at this ⊢
    omega

theorem RoomN.keep {w w' : World} {B : Nat} {v : Value} {vs : List Raw} {xs : List (List Int)} (h : RoomN w B v vs xs) (hk : ∀ b, B ≤ b → b < w.heap.size → w'.heap[b]? = w.heap[b]?) : RoomN w' B v vs xs :=
  ⟨h.out.keep (fun g hg => hk g (h.out.lt g hg).1 (h.out.lt g hg).2.1) (fun _ h => h.elim), h.len, fun i hi hi' => (h.inn i hi hi').keep fun g hg => hk g ((h.inn i hi hi').own.lt g hg).1 ((h.inn i hi hi').own.lt g hg).2.1, h.dis, h.dio⟩
end Go.Proofs.Ytikigaeihdmcaaa

/-
  Drawn regions with a chain of changes of memory and one more change (e) that may come anywhere among them. Over any program.
-/
set_option linter.unusedVariables false
set_option linter.unusedSimpArgs false
namespace Go.Proofs.Ytikigaeihdmcaaa
open Go.RowKit

def chnB (ops : Array Oper) (e : Nat) (r : List (Nat × Bool)) : List Nat → Array Bool → Bool
  | [], listed => ordB ops ((e, false) :: r) listed
  | i :: c, listed => (Region.ready .any ops listed).all (fun j => j == i || j == e) && !(Region.ready .any ops listed).isEmpty && chnB ops e r c (listed.setIfInBounds i true) &&
      ordB ops ((i :: c).map (fun j => (j, false)) ++ r) (listed.setIfInBounds e true)
def ordChB (ops : Array Oper) (e : Nat) (c : List Nat) (r : List (Nat × Bool)) : List (Nat × Bool) → Array Bool → Bool
  | [], listed => chnB ops e r c listed
  | (i, true) :: s, listed => (Region.ready .any ops listed).contains i && Region.free .any ops listed i && ordChB ops e c r s (listed.setIfInBounds i true)
  | (i, false) :: s, listed => decide (Region.ready .any ops listed = [i]) && ordChB ops e c r s (listed.setIfInBounds i true)
def chainOk (l : List Oper) (s : List (Nat × Bool)) (e : Nat) (c : List Nat) (r : List (Nat × Bool)) : Bool :=
  Region.noSelect l.toArray && decide (s.length + (c.length + 1) + r.length = l.length) && ordChB l.toArray e c r s (Array.replicate l.length false)

def wpChain (P : Program) (ops : List Oper) (S : World → Prop) (Q : Act → World → Prop) (e : Nat) (r : List (Nat × Bool)) : List Nat → Act → World → Prop
  | [], a, w => wpHL P ops S Q ((e, false) :: r) a w
  | i :: c, a, w => (∃ o, ops[i]? = some o ∧ (if Region.wanted o (yielded ops.toArray a.tmps) = true then o.wp P a w (fun a' w' => S w' ∧ wpChain P ops S Q e r c a' w') (fun x a w => x = .normal ∧ Q a w) else S w ∧ wpChain P ops S Q e r c (a.put o.dst undef) w)) ∧
      wpHL P ops S Q ((e, false) :: ((i :: c).map (fun j => (j, false)) ++ r)) a w
theorem wpChain_sound {P : Program} {ops : List Oper} {S : World → Prop} {Q : Act → World → Prop} (hs : Region.noSelect ops.toArray = true) (e : Nat) (r : List (Nat × Bool)) :
    ∀ (c : List Nat) (listed : Array Bool) (a : Act) (w : World), chnB ops.toArray e r c listed = true → S w → wpChain P ops S Q e r c a w → wpAnyH P .any ops.toArray (fun x a w => x = .normal ∧ Q a w) S (r.length + (c.length + 1)) listed a w
  | [], listed, a, w, hB, hS, h => by
    have := wpHL_sound (Q := Q) hs ((e, false) :: r) listed a w hB hS h
    simpa using this
  | i :: c, listed, a, w, hB, hS, ⟨⟨o, ho, h⟩, ⟨oe, hoe, he⟩⟩ => by
    simp only [chnB, Bool.and_eq_true, List.all_eq_true, Bool.not_eq_true', List.isEmpty_eq_false_iff, Bool.or_eq_true, beq_iff_eq] at hB
    obtain ⟨⟨⟨hin, hne⟩, hrec⟩, hord⟩ := hB
    have hlen : r.length + ((i :: c).length + 1) = (r.length + (c.length + 1)) + 1 := by simp; omega
    rw [hlen]
    refine wpAnyH_all rfl hne ?_
    intro j hj
    by_cases hji : j = i
    · subst hji
      have ho' : ops.toArray[j]? = some o := by simpa using ho
      unfold wpOp
      simp only [ho']
      split
      · rename_i hw
        rw [if_pos hw] at h
        exact .inl (Oper.wp_mono (fun a' w' h' => ⟨h'.1, wpChain_sound hs e r c _ _ _ hrec h'.1 h'.2⟩) (wp_exits (fun x a w hne hf => absurd hf.1 hne) h))
      · rename_i hw
        rw [if_neg hw] at h
        exact ⟨h.1, wpChain_sound hs e r c _ _ _ hrec h.1 h.2⟩
    · have hje : j = e := (hin j hj).resolve_left hji
      subst hje
      have ho' : ops.toArray[j]? = some oe := by simpa using hoe
      have hl2 : ((i :: c).map (fun j => (j, false)) ++ r).length = r.length + (c.length + 1) := by simp; omega
      unfold wpOp
      simp only [ho']
      split
      · rename_i hw
        rw [if_pos hw] at he
        refine .inl (Oper.wp_mono (fun a' w' h' => ⟨h'.1, ?_⟩) (wp_exits (fun x a w hne hf => absurd hf.1 hne) he))
        have := wpHL_sound (Q := Q) hs _ _ a' w' hord h'.1 h'.2
        rw [hl2] at this
        exact this
      · rename_i hw
        rw [if_neg hw] at he
        refine ⟨he.1, ?_⟩
        have := wpHL_sound (Q := Q) hs _ _ _ w hord he.1 he.2
        rw [hl2] at this
        exact this
theorem wpHLCh_sound {P : Program} {ops : List Oper} {S : World → Prop} {Q : Act → World → Prop} (hs : Region.noSelect ops.toArray = true) (e : Nat) (c : List Nat) (r : List (Nat × Bool)) :
    ∀ (s : List (Nat × Bool)) (listed : Array Bool) (a : Act) (w : World), ordChB ops.toArray e c r s listed = true → S w → wpHL P ops S (fun a w => S w ∧ wpChain P ops S Q e r c a w) s a w → wpAnyH P .any ops.toArray (fun x a w => x = .normal ∧ Q a w) S (r.length + (c.length + 1) + s.length) listed a w
  | [], listed, a, w, hB, hS, h => wpChain_sound hs e r c _ _ _ hB hS h.2
  | (i, true) :: s, listed, a, w, hB, hS, ⟨o, v, ho, hy, h⟩ => by
    simp only [ordChB, Bool.and_eq_true] at hB
    exact wpAnyH_take (by simpa using ho) hs hB.1.2 hB.1.1 (fun _ _ _ h => by cases h.1) hy hS (wpHLCh_sound hs e c r s _ _ _ hB.2 hS h)
  | (i, false) :: s, listed, a, w, hB, hS, ⟨o, ho, h⟩ => by
    simp only [ordChB, Bool.and_eq_true, decide_eq_true_eq] at hB
    refine wpAnyH_all hB.1 (by simp) ?_
    intro j hj
    have hji : j = i := by simpa using hj
    subst hji
    have ho' : ops.toArray[j]? = some o := by simpa using ho
    unfold wpOp
    simp only [ho']
    split
    · rename_i hw
      rw [if_pos hw] at h
      exact .inl (Oper.wp_mono (fun a' w' h' => ⟨h'.1, wpHLCh_sound hs e c r s _ _ _ hB.2 h'.1 h'.2⟩) (wp_exits (fun x a w hne hf => absurd hf.1 hne) h))
    · rename_i hw
      rw [if_neg hw] at h
      exact ⟨h.1, wpHLCh_sound hs e c r s _ _ _ hB.2 h.1 h.2⟩
def ChainQ (P : Program) (ops : List Oper) (S : World → Prop) (Q : Exit → Act → World → Prop) (e : Nat) (c : List Nat) (r : List (Nat × Bool)) : Exit → Act → World → Prop :=
  fun x a w => x = .normal ∧ (S w ∧ wpChain P ops S (fun a w => Q .normal a w) e r c a w)
section
variable {P : Program} {Q : Exit → Act → World → Prop} {n : Nat} {σ : Sg} {w : World} {L : List Oper} {S : World → Prop}
theorem CW.drawC {id : Nat} (S : World → Prop) (s : List (Nat × Bool)) (e : Nat) (c : List Nat) (r : List (Nat × Bool)) (hm : P.follows .mixedOrders = true) (hB : chainOk L s e c r = true) (hS : S (drew w)) (h : HL P L S (ChainQ P L S Q e c r) s n σ (drew w)) : CW P (.region id L.toArray true) Q n σ w := by
  unfold CW; unfold HL at h; intro a ha
  simp only [chainOk, Bool.and_eq_true, decide_eq_true_eq] at hB
  obtain ⟨⟨hs, hl⟩, hB⟩ := hB
  have h0 := h a ha
  have h0' : wpHL P L S (fun a w => S w ∧ wpChain P L S (fun a w => Q .normal a w) e r c a w) s a (Go.Proofs.Ytikigaeihdmcaaa.drew w) := by
    have : (fun a w => ChainQ P L S Q e c r .normal a w) = (fun a w => S w ∧ wpChain P L S (fun a w => Q .normal a w) e r c a w) := by funext a w; simp [ChainQ]
    rw [← this]; exact h0
  have h1 := wpHLCh_sound hs e c r s (Array.replicate L.length false) a (Go.Proofs.Ytikigaeihdmcaaa.drew w) hB hS h0'
  rw [show r.length + (c.length + 1) + s.length = L.length by omega] at h1
  have h2 := wp_region_held (id := id) (S := S) hm (w := w) (ops := L.toArray) (by simpa using h1)
  exact wp_mono h2 (fun x a' w' ⟨he, hq⟩ => by subst he; exact hq)
/-- the chain's next, or e -/
theorem EX.chain {e i : Nat} {c : List Nat} {r : List (Nat × Bool)} {o : Oper} (hS : S w) (ho : nthO L i = some o) (h1 : WL P L (ChainQ P L S Q e c r) [o] n σ w) (h2 : HL P L S Q ((e, false) :: ((i :: c).map (fun j => (j, false)) ++ r)) n σ w) : EX (ChainQ P L S Q e (i :: c) r) .normal n σ w := by
  unfold EX; unfold WL at h1; unfold HL at h2
  intro a ha
  refine ⟨rfl, hS, ?_, h2 a ha⟩
  rw [nthO_eq] at ho
  refine ⟨o, ho, ?_⟩
  have h2 : wpList P L.toArray (ChainQ P L S Q e c r) [o] a w := h1 a ha
  simp only [wpList] at h2
  split
  · rename_i hw
    rw [if_pos hw] at h2
    rcases h2 with h2 | ⟨_, hlets⟩
    · unfold Oper.wp at *
      generalize (execOp a.eval o).run P w = r at *
      cases r with
      | ok k w' =>
        cases k <;> simp only [Oper.upon] at h2 ⊢ <;> first
          | exact h2.2
          | exact h2
          | (refine Calls.mono h2 (fun e w'' he => ?_); cases e <;> first | exact he.2 | (exact absurd he.1 (by simp)) | (obtain ⟨_, _, hx⟩ := he; exact absurd hx.1 (by simp)))
          | exact Rows.mono h2 (fun _ _ he => he.2)
      | halt x w' => cases x <;> simp only [Oper.upon] at h2 ⊢ <;> first | exact h2 | (exact absurd h2.1 (by simp))
    · obtain ⟨_, _, hx⟩ := hlets
      exact absurd hx.1 (by simp)
  · rename_i hw
    rw [if_neg hw] at h2
    exact h2.2
theorem EX.chain0 {e : Nat} {r : List (Nat × Bool)} (hS : S w) (h : HL P L S Q ((e, false) :: r) n σ w) : EX (ChainQ P L S Q e [] r) .normal n σ w := by
  unfold EX; unfold HL at h
  exact fun a ha => ⟨rfl, hS, h a ha⟩
theorem HL.sub {τ : Sg} {ord : List (Nat × Bool)} (hs : Sub τ σ) (h : HL P L S Q ord n τ w) : HL P L S Q ord n σ w := by
  unfold HL at *
  exact fun a ha => h a (ha.sub hs)
end
end Go.Proofs.Ytikigaeihdmcaaa

/-
  Drawn regions with a chain of changes and an alloc that may come anywhere among them: one walk for all orders. Over any program.
-/
set_option linter.unusedVariables false
set_option linter.unusedSimpArgs false
namespace Go.Proofs.Ytikigaeihdmcaaa
open Go.RowKit

section
variable {P : Program} {n : Nat} {σ : Sg} {w : World} {L : List Oper}
theorem WL.mono1 {Q Q' : Exit → Act → World → Prop} {o : Oper} (hQ : ∀ x a w, Q x a w → x = .normal) (hm : ∀ a w, Q .normal a w → Q' .normal a w) (h : WL P L Q [o] n σ w) : WL P L Q' [o] n σ w := by
  unfold WL at *
  intro a ha
  have h2 := h a ha
  simp only [wpList] at h2 ⊢
  split
  · rename_i hw
    rw [if_pos hw] at h2
    rcases h2 with h2 | ⟨_, hl⟩
    · exact .inl (Oper.wp_mono (fun a' w' h' => hm _ _ h') (wp_exits (fun e a w hne hf => absurd (hQ _ _ _ hf) hne) h2))
    · obtain ⟨_, _, hx⟩ := hl
      exact absurd (hQ _ _ _ hx) (by simp)
  · rename_i hw
    rw [if_neg hw] at h2
    exact hm _ _ h2
theorem fnd_app {σ τ : Sg} {t : Nat} : fnd (σ ++ τ) t = match fnd σ t with | some v => some v | none => fnd τ t := by
  induction σ with
  | nil => rfl
  | cons x r ih =>
    obtain ⟨k, v⟩ := x
    show fnd ((k, v) :: (r ++ τ)) t = match fnd ((k, v) :: r) t with | some v => some v | none => fnd τ t
    by_cases h : k = t
    · subst h; rw [fnd_cons_eq, fnd_cons_eq]
    · rw [fnd_cons_ne h, fnd_cons_ne h]; exact ih
theorem Fr.toEnd {a : Act} {d : Nat} {v : Value} (h : Fr n ((d, v) :: σ) a) (hd : fnd σ d = none) : Fr n (σ ++ [(d, v)]) a := by
  refine ⟨h.size, h.defers, fun t u hu => h.slot t u ?_⟩
  rw [fnd_app] at hu
  by_cases e : d = t
  · subst e
    rw [hd] at hu
    rw [fnd_cons_eq]
    simpa [fnd_cons_eq] using hu
  · rw [fnd_cons_ne e]
    cases hx : fnd σ t with
    | some x => rw [hx] at hu; exact hu
    | none => rw [hx] at hu; simp only [fnd_cons_ne e] at hu; cases hu
/-- behind a step of the chain: one more slot -/
def StepA (S : World → Prop) (I : Sg → World → Option Nat → Prop) (n : Nat) (τ : Sg) (ob : Option Nat) : Exit → Act → World → Prop :=
  fun x a w => x = .normal ∧ S w ∧ ∃ σ, Fr n (σ ++ τ) a ∧ I σ w ob
theorem EX.stepA {S : World → Prop} {I : Sg → World → Option Nat → Prop} {τ : Sg} {ob : Option Nat} (hS : S w) (hI : I σ w ob) : EX (StepA S I n τ ob) .normal n (σ ++ τ) w := by
  unfold EX
  exact fun a ha => ⟨rfl, hS, σ, ha, hI⟩
theorem EX.chainA {Q : Exit → Act → World → Prop} {S : World → Prop} {e de : Nat} {c : List Nat} {r : List (Nat × Bool)} {t ty : TypeId} {pos : String} {af : Array Edge} {zs : List Value} [hz : IsZC P t zs] (hoe : nthO L e = some ⟨some de, .alloc t, ty, pos, af, none⟩) (hn : Nat.ble (de + 1) n = true)
    (I : Nat → Sg → World → Option Nat → Prop) (hde : ∀ i σ w ob, I i σ w ob → fnd σ de = none)
    (hal : ∀ i σ w, I i σ w none → S w → ∀ w', Blk w' w.heap.size t zs → Ext w w' → S w' ∧ I i σ w' (some w.heap.size))
    (hst : ∀ i (hi : i < c.length) σ w ob τ, I i σ w ob → S w → ∃ o, nthO L c[i] = some o ∧ WL P L (StepA S (I (i + 1)) n τ ob) [o] n (σ ++ τ) w)
    (hend : ∀ σ w b, I c.length σ w (some b) → S w → HL P L S Q r n (σ ++ [(de, .pointer (some ⟨b, 0, none⟩))]) w)
    (hI0 : I 0 σ w none) (hS : S w) : EX (ChainQ P L S Q e c r) .normal n σ w := by
  have aft : ∀ d k σ w b, d + k = c.length → I k σ w (some b) → S w → HL P L S Q ((c.drop k).map (fun j => (j, false)) ++ r) n (σ ++ [(de, .pointer (some ⟨b, 0, none⟩))]) w := by
    intro d
    induction d with
    | zero =>
      intro k σ w b hk hI hS
      obtain rfl : k = c.length := by omega
      rw [List.drop_length]
      exact hend σ w b hI hS
    | succ d ih =>
      intro k σ w b hk hI hS
      have hkl : k < c.length := by omega
      rw [List.drop_eq_getElem_cons hkl]
      obtain ⟨o, ho, hw⟩ := hst k hkl σ w (some b) [(de, .pointer (some ⟨b, 0, none⟩))] hI hS
      refine HL.mut ho (WL.mono1 (fun x a w h => h.1) (fun a w h => ?_) hw)
      obtain ⟨_, hS', σ', hF, hI'⟩ := h
      have := ih (k + 1) σ' w b (by omega) hI' hS'
      unfold HL at this
      exact ⟨rfl, hS', this a hF⟩
  have alc : ∀ k σ w, k ≤ c.length → I k σ w none → S w → HL P L S Q ((e, false) :: ((c.drop k).map (fun j => (j, false)) ++ r)) n σ w := by
    intro k σ w hk hI hS
    refine HL.mut hoe (WL.alloc rfl hn (fun w' hb hE => WL.nil ?_))
    obtain ⟨hS', hI'⟩ := hal k σ w hI hS w' hb hE
    have h1 := aft (c.length - k) k σ w' _ (by omega) hI' hS'
    unfold HL at h1
    unfold EX
    exact fun a ha => ⟨rfl, hS', h1 a (ha.toEnd (hde _ _ _ _ hI))⟩
  have bef : ∀ d k σ w, d + k = c.length → I k σ w none → S w → EX (ChainQ P L S Q e (c.drop k) r) .normal n σ w := by
    intro d
    induction d with
    | zero =>
      intro k σ w hk hI hS
      obtain rfl : k = c.length := by omega
      have := alc c.length σ w (Nat.le_refl _) hI hS
      rw [List.drop_length] at this ⊢
      exact EX.chain0 hS this
    | succ d ih =>
      intro k σ w hk hI hS
      have hkl : k < c.length := by omega
      have ha := alc k σ w (by omega) hI hS
      rw [List.drop_eq_getElem_cons hkl] at ha ⊢
      obtain ⟨o, ho, hw⟩ := hst k hkl σ w none [] hI hS
      rw [List.append_nil] at hw
      refine EX.chain hS ho (WL.mono1 (fun x a w h => h.1) (fun a w h => ?_) hw) ha
      obtain ⟨_, hS', σ', hF, hI'⟩ := h
      rw [List.append_nil] at hF
      have := ih (k + 1) σ' w (by omega) hI' hS'
      unfold EX at this
      exact this a hF
  exact bef c.length 0 σ w (by omega) hI0 hS
end
end Go.Proofs.Ytikigaeihdmcaaa

