import Derived.Shelf.Slices.Reverse
import Derived.Test.YtllpfgcngokhnaaGreatPtLabelWords9
/-
  Package empty: sets: walked.
-/
set_option linter.unusedVariables false
set_option linter.unusedSimpArgs false
namespace Go.Proofs.YtllpfgcngokhnaaGreat
open Go.RowKit

instance iEs1 : IsT Tryz.prog 42 Raw := IsT.of (by kernel_rfl) Tryz.underlying42 rfl
instance iEs2 : IsZ Tryz.prog 42 (⟨.slice none 0 0⟩ : Raw) 24 := IsZ.of (z := .slice none 0 0) (by kernel_rfl) (fun _ _ => ⟨rfl, rfl⟩)
theorem rd_peV {w : World} {F : Nat → Prop} {v : Value} {x : Pr2} (h : Rd w F v x) : v = peV x := by
  obtain ⟨c1, c2, rfl, h1, h2⟩ := h.pr
  rw [rd_int h1, rd_int h2]; rfl
theorem esets2_ok (w : World) (p : Pr2) : Rt Tryz.prog 77 [peV p].toArray w fun v w' => v = .int .i64 p.1 ∧ Ext w w' := by
  refine Rt.enter1 Tryz.func77 Tryz.ntmps77 rfl rfl ?_
  (repeat (first | (apply CW.seq) | (apply CW.region)))
  refine WL.boxB rfl rfl rfl fun w1 hb1 e1 => ?_
  (repeat (first | (apply WL.pure; rfl; rfl; rfl) | (apply WL.nil) | (apply EX.thenN) | (apply CW.seq) | (apply CW.region) | (apply WL.fa; rfl; rfl; rfl) | (apply WL.ld; rfl; rfl; rfl; assumption; rfl) | (apply CW.ret)))
  exact EX.ret1 rfl rfl ⟨rfl, e1⟩
theorem esets3_ok (w : World) (p : Pr2) : Rt Tryz.prog 78 [peV p].toArray w fun v w' => v = .int .i64 p.2 ∧ Ext w w' := by
  refine Rt.enter1 Tryz.func78 Tryz.ntmps78 rfl rfl ?_
  (repeat (first | (apply CW.seq) | (apply CW.region)))
  refine WL.boxB rfl rfl rfl fun w1 hb1 e1 => ?_
  (repeat (first | (apply WL.pure; rfl; rfl; rfl) | (apply WL.nil) | (apply EX.thenN) | (apply CW.seq) | (apply CW.region) | (apply WL.fa; rfl; rfl; rfl) | (apply WL.ld; rfl; rfl; rfl; assumption; rfl) | (apply CW.ret)))
  exact EX.ret1 rfl rfl ⟨rfl, e1⟩
set_option maxHeartbeats 1000000 in
theorem eput_ok (w0 : World) {b1 bo sb B2 n : Nat} {x0 x1 x2 x3 x4 x5 x6 x7 x8 x9 x11 x12 ov ofv : Value} {lo fo : Option Addr} {lc fc : Nat} {ps : List Pr2} {Fl : List Int} {vs : List Raw} {xs : List (List Bool)} {of : Pr2 → Int}
    (hb1 : Blk w0 b1 87 [.pointer (some ⟨sb, 0, none⟩)]) (hb : Blk w0 sb 91 [x0, x1, x2, x3, x4, x5, x6, x7, x8, x9, .slice lo ps.length lc, x11, x12]) (hbo : Blk w0 bo 96 [ov]) (hn : Own w0 B2 42 Non ov vs) (hB : B2 ≤ w0.heap.size)
    (inn : InnR w0 (fun b => b = bo ∨ ov.ownBlock = some b) vs xs) (hlo : Sl w0 (Old w0) lo lc ps) (hfr : Sl w0 (Old w0) fo fc Fl) (hok : okL n Fl) (hnn : n ≤ 1099511627776)
    (hof : ∀ w p, p ∈ ps → FnV Tryz.prog ofv [peV p] w fun v w' => v = .int .i64 (of p) ∧ Ext w w') (hin : ∀ p ∈ ps, 0 ≤ of p ∧ of p < n) (hps : ps.length ≤ 1228800) (hxs : xs.length ≤ 4096) (hne : ∀ g, ov.ownBlock = some g → g ≠ bo) :
    Rt Tryz.prog 76 [.slice fo Fl.length fc, ofv, .int .i64 (n : Int), .pointer (some ⟨b1, 0, none⟩), .pointer (some ⟨bo, 0, none⟩)].toArray w0 fun v w' => ∃ ov' vs', Blk w' bo 96 [ov'] ∧ Own w' B2 42 Non ov' vs' ∧
      InnR w' (fun b => b = bo ∨ ov'.ownBlock = some b) vs' (xs ++ [ps.map fun p => decide (of p ∈ Fl)]) ∧ Chg (fun b => b = bo ∨ ov.ownBlock = some b) w0 w' ∧ ∀ g, ov'.ownBlock = some g → ov.ownBlock = some g ∨ w0.heap.size ≤ g := by
  have hfl := hfr.len63
  have hll := hlo.len63
  have hlbo := hbo.lt
  refine Rt.enter5 Tryz.func76 Tryz.ntmps76 rfl rfl ?_
  (repeat (first | (apply WL.pure; rfl; rfl; rfl) | (apply CW.seq) | (apply CW.region)))
  refine WL.make (α := Bool) rfl rfl rfl rfl (by omega) (by unfold maxLen; omega) (fun w1 ho1 hg1 => ?_)
  have hE1 : Ext w0 w1 := (Below.refl _ _).grown hg1 (Nat.le_refl _) (fun k h => by cases h)
  generalize hsv : Value.slice (some ⟨w0.heap.size, 0, none⟩) n n = sv at *
  (repeat (first | (apply WL.pure; rfl; rfl; rfl) | (apply WL.nil) | (apply EX.thenN) | (apply CW.seq) | (apply CW.region) | (apply WL.lenS; rfl; rfl; rfl) | (apply CW.block)))
  refine CW.loop (S := Nat × List Bool) (fun s => [(1, ofv), (3, .pointer (some ⟨b1, 0, none⟩)), (4, .pointer (some ⟨bo, 0, none⟩)), (8, sv), (16, .slice fo Fl.length fc), (17, .int .i64 Fl.length), (18, .int .i64 s.1)])
    (fun s w => s.1 ≤ Fl.length ∧ Own w w0.heap.size 4 Non sv s.2 ∧ s.2.length = n ∧ (∀ c : Nat, c < n → (s.2.getD c false = true ↔ (c : Int) ∈ Fl.take s.1)) ∧ Ext w0 w) (fun s => Fl.length - s.1) (0, List.replicate n false) (by repeat (first | exact trivial | refine ⟨rfl, ?_⟩))
    ⟨Nat.zero_le _, ho1, by simp, fun c hc => by simp [List.getElem?_replicate, hc], hE1⟩ ?_
  clear ho1 hg1 hE1
  rintro ⟨i, il⟩ w ⟨hi, ho, hil, hr, hE⟩
  dsimp only at hi ho hil hr ⊢
  (repeat (first | (apply WL.pure; rfl; rfl; rfl) | (apply WL.nil) | (apply EX.thenN) | (apply CW.seq) | (apply CW.region)))
  refine CW.cond rfl (fun h => ?_) (fun h => ?_)
  · have hi' : i < Fl.length := by simp at h; omega
    have hxr := hok _ (List.getElem_mem hi')
    have htk : Fl.take (i + 1) = Fl.take i ++ [Fl[i]] := List.take_succ_eq_append_getElem hi'
    (repeat (first | (apply EX.thenN) | (apply CW.seq) | (apply CW.region) | (apply CW.block) | (apply CW.skip)))
    refine WL.elemI rfl rfl rfl rfl rfl (hfr.up hE) hi' rfl (fun _ => rfl) (fun q => ?_)
    generalize Fl[i] = x at *
    obtain ⟨c0, rfl⟩ := Int.eq_ofNat_of_zero_le hxr.1
    (repeat (first | (apply WL.pure; rfl; rfl; rfl) | (apply WL.nil) | (apply EX.thenN) | (apply CW.region)))
    refine WL.setN (u := .bool true) (yv := true) rfl rfl rfl rfl ho (show c0 < il.length by omega) (fun _ => rfl) (fun _ => rfl) (Rd.mkBool _ _ _) (fun w4 q2 ho4 hg4 => ?_)
    have hE4 : Ext w0 w4 := hE.grown hg4 hE.size (fun b hb => (ho.lt b hb).1)
    (repeat (first | (apply WL.add; rfl; rfl; rfl; rfl; omega; omega) | (apply WL.pure; rfl; rfl; rfl) | (apply WL.nil) | (apply EX.thenN) | (apply CW.region) | (apply EX.inN)))
    refine EX.back (i + 1, il.set c0 true) (by repeat (first | exact trivial | refine ⟨rfl, ?_⟩)) ⟨hi', ho4, by simpa using hil, fun c hc => ?_, hE4⟩ (by dsimp only; omega)
    dsimp only
    rw [getD_set (by omega), htk, List.mem_append, List.mem_singleton]
    by_cases e : c0 = c
    · subst e; simp
    · rw [if_neg e, hr c hc]
      exact ⟨.inl, fun h => h.resolve_right (fun h => e (by omega))⟩
  obtain rfl : i = Fl.length := by simp at h; omega
  clear h hi
  rw [List.take_length] at hr
  have hbit : ∀ p ∈ ps, ∀ c : Nat, of p = (c : Int) → il.getD c false = decide (of p ∈ Fl) := fun p hp c hc => by
    have h1 := hin p hp
    rw [Bool.eq_iff_iff, hr c (by omega), hc]; simp
  have hb1w := hb1.ext hE
  have hbw := hb.ext hE
  have hzw := hE.size
  have hltw := fun g hg => ho.lt g hg
  obtain ⟨mo, mc, rfl, hms⟩ := ho.oldN.sl
  (repeat (first | (apply EX.thenN) | (apply CW.seq) | (apply CW.region) | (apply WL.lenS; rfl; rfl; rfl) | (apply WL.fa; rfl; rfl; rfl) | (apply WL.nck; rfl; rfl; rfl) | (apply WL.ld; rfl; rfl; rfl; assumption; rfl) | (apply CW.exit) | (apply EX.thenX) | (apply EX.inX)))
  refine WL.make (α := Bool) rfl rfl rfl rfl (by omega) (by unfold maxLen; omega) (fun w2 ho2 hg2 => ?_)
  have hE2 : Ext w w2 := (Below.refl _ _).grown hg2 (Nat.le_refl _) (fun k h => by cases h)
  generalize hsv2 : Value.slice (some ⟨w.heap.size, 0, none⟩) ps.length ps.length = sv2 at *
  have hb1w := hb1w.ext hE2
  have hbw := hbw.ext hE2
  (repeat (first | (apply WL.pure; rfl; rfl; rfl) | (apply WL.nil) | (apply EX.thenN) | (apply CW.seq) | (apply CW.region) | (apply WL.lenS; rfl; rfl; rfl) | (apply WL.fa; rfl; rfl; rfl) | (apply WL.nck; rfl; rfl; rfl) | (apply WL.ld; rfl; rfl; rfl; assumption; rfl) | (apply CW.block)))
  refine CW.loop (S := Nat × List Bool) (fun s => [(1, ofv), (4, .pointer (some ⟨bo, 0, none⟩)), (8, .slice mo il.length mc), (11, sv2), (35, .slice lo ps.length lc), (36, .int .i64 ps.length), (37, .int .i64 s.1)])
    (fun s u => s.1 ≤ ps.length ∧ Own u w.heap.size 4 Non sv2 s.2 ∧ s.2.length = ps.length ∧ (∀ c : Nat, c < s.1 → s.2.getD c false = decide (of (ps.getD c (0, 0)) ∈ Fl)) ∧ Ext w u) (fun s => ps.length - s.1) (0, List.replicate ps.length false) (by repeat (first | exact trivial | refine ⟨rfl, ?_⟩))
    ⟨Nat.zero_le _, ho2, by simp, fun c hc => absurd hc (by simp), hE2⟩ ?_
  clear ho2 hg2 hE2 hb1w hbw
  rintro ⟨j, sl⟩ w3 ⟨hj, ho3, hsl, hset, hE3⟩
  dsimp only at hj ho3 hsl hset ⊢
  (repeat (first | (apply WL.pure; rfl; rfl; rfl) | (apply WL.nil) | (apply EX.thenN) | (apply CW.seq) | (apply CW.region)))
  refine CW.cond rfl (fun h => ?_) (fun h => ?_)
  · have hj' : j < ps.length := by simp at h; omega
    clear h
    have hpm := List.getElem_mem hj'
    have hpg : ps.getD j (0, 0) = ps[j] := by rw [List.getD_eq_getElem?_getD, List.getElem?_eq_getElem hj']; rfl
    have hip := hin _ hpm
    (repeat (first | (apply WL.pure; rfl; rfl; rfl) | (apply EX.thenN) | (apply CW.seq) | (apply CW.region) | (apply CW.block) | (apply CW.skip)))
    refine WL.elemN (i := j) rfl rfl rfl rfl rfl (hlo.up (hE.trans hE3)) hj' (fun _ => rfl) (fun u q hu => ?_)
    rw [rd_peV hu]
    clear hu
    generalize ps[j] = p at *
    skip
    refine WL.alloc rfl rfl (fun w4 hb4 e4 => ?_)
    (repeat (apply WL.pure; rfl; rfl; rfl))
    refine WL.st rfl rfl rfl hb4 rfl rfl (ones_of rfl) (fun w5 hb5 hg5 => ?_)
    have e5 : Ext w3 w5 := Below.grown e4 hg5 e4.size (fun g hg => by cases hg; exact Nat.le_refl _)
    clear hg5 e4 hb4
    (repeat (first | (apply WL.pure; rfl; rfl; rfl) | (apply WL.nil) | (apply EX.thenN) | (apply CW.region) | (apply WL.ldA; rfl; rfl; rfl; assumption; rfl)))
    refine WL.callF rfl rfl rfl rfl (hof w5 p hpm) ?_
    rintro _ w6 ⟨rfl, e6⟩
    have e36 := e5.trans e6
    have hE6 := hE3.trans e36
    have ho6 := ho3.extN e36
    obtain ⟨k, hk⟩ : ∃ k : Nat, of p = (k : Int) := ⟨(of p).toNat, by omega⟩
    have hkn : k < n := by omega
    have hbk := hbit p hpm k hk
    rw [hk]
    skip
    refine WL.elemB rfl rfl rfl rfl rfl (hms.up hE6) (i := k) (by omega) (y := decide (of p ∈ Fl)) (by rw [← hbk, List.getD_eq_getElem?_getD, List.getElem?_eq_getElem (by omega)]; rfl) (fun _ => rfl) (fun q => ?_)
    refine WL.setN (yv := decide (of p ∈ Fl)) rfl rfl rfl rfl ho6 (show j < sl.length by omega) (fun _ => rfl) (fun _ => rfl) (Rd.mkBool _ _ _) (fun w7 q2 ho7 hg7 => ?_)
    have hE7 : Ext w w7 := hE6.grown hg7 hE6.size (fun b hb => (ho6.lt b hb).1)
    (repeat (first | (apply WL.add; rfl; rfl; rfl; rfl; omega; omega) | (apply WL.pure; rfl; rfl; rfl) | (apply WL.nil) | (apply EX.thenN) | (apply CW.region) | (apply EX.inN)))
    refine EX.back (j + 1, sl.set j (decide (of p ∈ Fl))) (by repeat (first | exact trivial | refine ⟨rfl, ?_⟩)) ⟨hj', ho7, by simpa using hsl, fun c hc => ?_, hE7⟩ (by dsimp only; omega)
    dsimp only at hc ⊢
    rw [getD_set (by omega)]
    by_cases e : j = c
    · subst e; rw [if_pos rfl, hpg]
    · rw [if_neg e]; exact hset c (by omega)
  obtain rfl : j = ps.length := by simp at h; omega
  have hsl2 : sl = ps.map fun p => decide (of p ∈ Fl) := by
    refine List.ext_getElem (by rw [List.length_map]; exact hsl) fun i h1 h2 => ?_
    have h3 : i < ps.length := by omega
    have h4 := hset i h3
    rw [List.getD_eq_getElem?_getD, List.getElem?_eq_getElem h1, List.getD_eq_getElem?_getD, List.getElem?_eq_getElem h3] at h4
    rw [List.getElem_map]
    exact h4
  subst hsl2
  have hE03 := hE.trans hE3
  have hbo3 := hbo.ext hE03
  have hn3 := hn.extN hE03
  have hz3 := hE3.size
  obtain ⟨so, sc, rfl⟩ := ho3.val
  have hlt3 := fun g hg => ho3.lt g hg
  have hltn := fun g hg => hn.lt g hg
  have hcsl := inn.len
  obtain ⟨vo, vc, rfl⟩ := hn3.val
  (repeat (first | (apply WL.pure; rfl; rfl; rfl) | (apply EX.thenN) | (apply CW.region) | (apply WL.ld; rfl; rfl; rfl; assumption; rfl) | (apply CW.exit) | (apply EX.thenX) | (apply EX.inX)))
  refine WL.app1 (α := Raw) (F := Non) (bytes := 24) (yv := (⟨.slice so (ps.map fun p => decide (of p ∈ Fl)).length sc⟩ : Raw)) rfl rfl (fun _ => rfl) rfl rfl (fun _ => rfl) hn3 (Rd.mkRaw _ _ _ rfl) (by omega) (fun _ h => h.elim) (by decide) (by unfold maxLen; omega) (by omega) (fun nv' w4 q ho4 hg4 hnb4 => ?_)
  obtain ⟨nvo, nvc, rfl⟩ := ho4.val
  have hbo4 := hbo3.kept hg4 (fun e => hne _ e.symm rfl)
  have z4 := hg4.size
  skip
  refine WL.st rfl rfl rfl hbo4 rfl rfl (ones_of rfl) (fun w5 hb5 hg5 => ?_)
  have z5 := hg5.size
  have hnsb : ∀ g, (Value.slice nvo (vs ++ [(⟨.slice so (ps.map fun p => decide (of p ∈ Fl)).length sc⟩ : Raw)]).length nvc).ownBlock = some g → g ≠ bo := fun g hg => by
    rcases hnb4 g hg with h | h
    · exact hne g h
    · omega
  have ho5 := ho4.keptN hg5 (fun g hg e => hnsb g hg (Option.some.inj e))
  have hrow : Rd w3 (Fz w3 (fun b => b = bo ∨ Value.ownBlock (.slice vo vs.length vc) = some b)) (.slice so (ps.map fun p => decide (of p ∈ Fl)).length sc) (ps.map fun p => decide (of p ∈ Fl)) :=
    ho3.rd.mono (fun _ _ => rfl) (fun g hg => hg.elim (fun h => h.elim) (fun hg => ⟨(hlt3 g hg).2.1, fun h => by
      have h1 := (hlt3 g hg).1
      rcases h with h | h
      · omega
      · have := (hltn g h).2.1; omega⟩))
  have hin3 := (inn.to (Chg.of_ext _ hE03) (fun b h => .inl h)).push hrow
  have hC35 : Chg (fun b => b = bo ∨ Value.ownBlock (.slice vo vs.length vc) = some b) w3 w5 := ((Chg.of_grown hg4).wk (fun b h => .inr h)).grown hg5 (fun g hg => by cases hg; exact .inl rfl)
  have hin5 := hin3.to hC35 (M' := fun b => b = bo ∨ (Value.slice nvo (vs ++ [(⟨.slice so (ps.map fun p => decide (of p ∈ Fl)).length sc⟩ : Raw)]).length nvc).ownBlock = some b) (fun b h => by
    rcases h with h | h
    · exact .inl (.inl h)
    · exact (hnb4 b h).imp .inr id)
  have hC5 := (Chg.of_ext (fun b => b = bo ∨ Value.ownBlock (.slice vo vs.length vc) = some b) hE03).trans hC35
  (repeat (apply WL.nil))
  exact EX.end0 rfl ⟨_, _, hb5, ho5, hin5, hC5, fun g hg => (hnb4 g hg).imp id (fun h => by have := hE03.size; omega)⟩
def setsX (W : List Int × List (List Int) × List Nat × List (List Int)) (A : LAuto2) (ps : List Pr2) : List (List Bool) := W.2.2.2.map (fun F => ps.map fun p => decide (p.1 ∈ F)) ++ A.2.2.2.2.map fun F => ps.map fun p => decide (p.2 ∈ F)
set_option maxHeartbeats 2000000 in
theorem esets_ok (w0 : World) {B : Nat} {e : EA} {sb mb : Nat} {lv nv fv : Value} {ps : List Pr2} (h : Em w0 B e sb mb lv nv fv ps) (hB : B ≤ w0.heap.size) (hf1 : ∀ r ∈ e.W.2.2.2, okL e.W.2.1.length r) (hf2 : ∀ r ∈ e.A.2.2.2.2, okL e.A.2.1.length r)
    (hl1 : e.W.2.2.2.length ≤ 80) (hl2 : e.A.2.2.2.2.length ≤ 80) :
    Rt Tryz.prog 42 [.pointer (some ⟨sb, 0, none⟩)].toArray w0 fun v w' => ∃ so sc, v = .slice so (setsX e.W e.A ps).length sc ∧ Sl w' (Old w') so sc (setsX e.W e.A ps) ∧ Ext w0 w' := by
  have hok := h.ok
  have hwn := hok.wn
  have han := hok.an
  have hpl := h.len
  have hsb0 := h.blk.lt
  obtain ⟨lo, lc, rfl⟩ := h.lo.val
  obtain ⟨lo', lc', he, hlo⟩ := h.lo.oldN.sl
  have he := Value.slice.inj he
  obtain ⟨rfl, -, rfl⟩ := he
  refine Rt.enter1 Tryz.func42 Tryz.ntmps42 rfl rfl ?_
  (repeat (first | (apply CW.seq) | (apply CW.region)))
  refine WL.boxB rfl rfl rfl fun w1 hb1 e1 => ?_
  have l10 := hb1.lt
  (repeat (first | (apply WL.pure; rfl; rfl; rfl) | (apply WL.nil) | (apply EX.thenN) | (apply CW.seq) | (apply CW.region)))
  refine WL.alloc rfl rfl (fun w2 hb3 e2 => ?_)
  have hb1 := hb1.ext e2
  have hE2 := e1.trans e2
  have z1 := e1.size
  have z2 := e2.size
  have l1 := hb1.lt
  have l3 := hb3.lt
  generalize hbo : w1.heap.size = bo at *
  generalize hb1n : w0.heap.size = b1 at *
  have hb1lt : b1 < bo := by omega
  have hlo2 := hlo.mono (w' := w2) (fun b hb => hE2.block b hb) (F' := fun b => b < b1) (fun b hb => by rw [← hb1n]; exact hb)
  have hin2 := h.inn.to (w' := w2) (fun b hb => hE2.block b (by omega)) (F' := fun b => b < b1) (fun b hb => by omega)
  have hblk2 := h.blk.ext hE2
  -- what every world of the loops has
  have hkp : ∀ {w : World}, Chg (fun b => b = bo) w2 w → (∀ b, b < bo → w.heap[b]? = w2.heap[b]?) ∧ w2.heap.size ≤ w.heap.size := fun {w} hC => ⟨fun b hb => hC.block b (by omega) (by omega), hC.size⟩
  have hbk : ∀ {w : World}, Chg (fun b => b = bo) w2 w → Blk w b1 87 [.pointer (some ⟨sb, 0, none⟩)] ∧ Blk w sb 91 (eCells e mb (.slice lo ps.length lc) nv fv) ∧ Sl w (Old w) lo lc ps ∧ EIn w (Old w) e := fun {w} hC =>
    ⟨(hkp hC).1 b1 hb1lt |>.trans hb1, ((hkp hC).1 sb (by omega)).trans hblk2, hlo2.mono (fun b hb => (hkp hC).1 b (by omega)) (fun b hb => by have := (hkp hC).2; exact (show b < w.heap.size by omega)), hin2.to (fun b hb => (hkp hC).1 b (by omega)) (fun b hb => by have := (hkp hC).2; exact (show b < w.heap.size by omega))⟩
  (repeat (first | (apply WL.pure; rfl; rfl; rfl) | (apply WL.nil) | (apply EX.thenN) | (apply CW.seq) | (apply CW.region) | (apply WL.lenS; rfl; rfl; rfl) | (apply WL.makeFunc; rfl; rfl; rfl; rfl) | (apply WL.fa; rfl; rfl; rfl) | (apply WL.nck; rfl; rfl; rfl) | (apply WL.ld; rfl; rfl; rfl; assumption; rfl) | (apply CW.block)))
  refine CW.loop (S := Nat × Value × List Raw) (fun s => [(1, .pointer (some ⟨b1, 0, none⟩)), (3, .pointer (some ⟨bo, 0, none⟩)), (4, .func (.func 76) [].toArray [.pointer (some ⟨b1, 0, none⟩), .pointer (some ⟨bo, 0, none⟩)].toArray), (14, .slice e.a4 e.W.2.2.2.length e.c4), (15, .int .i64 e.W.2.2.2.length), (16, .int .i64 s.1)])
    (fun s w => s.1 ≤ e.W.2.2.2.length ∧ Blk w bo 96 [s.2.1] ∧ Own w w2.heap.size 42 Non s.2.1 s.2.2 ∧ InnR w (fun b => b = bo ∨ s.2.1.ownBlock = some b) s.2.2 ((e.W.2.2.2.take s.1).map fun F => ps.map fun p => decide (p.1 ∈ F)) ∧ Chg (fun b => b = bo) w2 w)
    (fun s => e.W.2.2.2.length - s.1) (0, .slice none 0 0, []) (by repeat (first | exact trivial | refine ⟨rfl, ?_⟩)) ⟨Nat.zero_le _, hb3, Own.nil, InnR.nil, Chg.refl _ _⟩ ?_
  rintro ⟨i, ov, vs⟩ w ⟨hi, hbo3, hn, inn, hC⟩
  dsimp only at hi hbo3 hn inn hC ⊢
  obtain ⟨kb1, kblk, klo, kin⟩ := hbk hC
  have kz := (hkp hC).2
  have klt := fun g hg => hn.lt g hg
  (repeat (first | (apply WL.pure; rfl; rfl; rfl) | (apply WL.nil) | (apply EX.thenN) | (apply CW.seq) | (apply CW.region)))
  refine CW.cond rfl (fun h => ?_) (fun h => ?_)
  · have hi' : i < e.W.2.2.2.length := by simp at h; omega
    have hfi := hf1 _ (List.getElem_mem hi')
    have hnx : (e.W.2.2.2.take (i + 1)).map (fun F => ps.map fun p => decide (p.1 ∈ F)) = (e.W.2.2.2.take i).map (fun F => ps.map fun p => decide (p.1 ∈ F)) ++ [ps.map fun p => decide (p.1 ∈ e.W.2.2.2[i])] := by
      rw [List.take_add_one, List.getElem?_eq_getElem hi', List.map_append]; rfl
    (repeat (first | (apply EX.thenN) | (apply CW.seq) | (apply CW.region) | (apply CW.block) | (apply CW.skip)))
    refine WL.elemN rfl rfl rfl rfl rfl kin.h4 hi' (fun _ => rfl) (fun u q hu => ?_)
    obtain ⟨ro, rc, rfl, hrow⟩ := hu.sl
    clear hu
    generalize e.W.2.2.2[i] = F at *
    (repeat (first | (apply WL.pure; rfl; rfl; rfl) | (apply WL.nil) | (apply EX.thenN) | (apply CW.region) | (apply WL.lenS; rfl; rfl; rfl) | (apply WL.fa; rfl; rfl; rfl) | (apply WL.nck; rfl; rfl; rfl) | (apply WL.ld; rfl; rfl; rfl; assumption; rfl)))
    refine WL.callV (fv := []) rfl rfl rfl rfl (eput_ok w (n := e.W.2.1.length) (of := Prod.fst) kb1 kblk hbo3 hn kz inn klo hrow hfi (by omega) (fun w p hp => FnV.mk (cs := []) (esets2_ok w p)) (fun p hp => (‹Em w0 B e sb mb _ nv fv ps›.ins p hp).1) hpl (by rw [List.length_map, List.length_take]; omega) (fun g hg => by have := (klt g hg).1; omega)) ?_
    rintro _ w' ⟨ov', vs', hbo4, hn4, inn4, hC4, hnew4⟩
    rw [← hnx] at inn4
    (repeat (first | (apply WL.add; rfl; rfl; rfl; rfl; omega; omega) | (apply WL.pure; rfl; rfl; rfl) | (apply WL.nil) | (apply EX.thenN) | (apply CW.region) | (apply EX.inN)))
    exact EX.back (i + 1, ov', vs') (by repeat (first | exact trivial | refine ⟨rfl, ?_⟩)) ⟨hi', hbo4, hn4, inn4, hC.then hC4 (fun b hb => hb.imp id (fun hb => (klt b hb).1))⟩ (by dsimp only; omega)
  obtain rfl : i = e.W.2.2.2.length := by simp at h; omega
  rw [List.take_length] at inn
  clear h hi
  (repeat (first | (apply WL.pure; rfl; rfl; rfl) | (apply WL.nil) | (apply EX.thenN) | (apply CW.seq) | (apply CW.region) | (apply WL.lenS; rfl; rfl; rfl) | (apply WL.fa; rfl; rfl; rfl) | (apply WL.nck; rfl; rfl; rfl) | (apply WL.ld; rfl; rfl; rfl; assumption; rfl) | (apply CW.block) | (apply CW.exit) | (apply EX.thenX) | (apply EX.inX)))
  refine CW.loop (S := Nat × Value × List Raw) (fun s => [(1, .pointer (some ⟨b1, 0, none⟩)), (3, .pointer (some ⟨bo, 0, none⟩)), (4, .func (.func 76) [].toArray [.pointer (some ⟨b1, 0, none⟩), .pointer (some ⟨bo, 0, none⟩)].toArray), (34, .slice e.k5 e.A.2.2.2.2.length e.d5), (35, .int .i64 e.A.2.2.2.2.length), (36, .int .i64 s.1)])
    (fun s w => s.1 ≤ e.A.2.2.2.2.length ∧ Blk w bo 96 [s.2.1] ∧ Own w w2.heap.size 42 Non s.2.1 s.2.2 ∧ InnR w (fun b => b = bo ∨ s.2.1.ownBlock = some b) s.2.2 ((e.W.2.2.2.map fun F => ps.map fun p => decide (p.1 ∈ F)) ++ (e.A.2.2.2.2.take s.1).map fun F => ps.map fun p => decide (p.2 ∈ F)) ∧ Chg (fun b => b = bo) w2 w)
    (fun s => e.A.2.2.2.2.length - s.1) (0, ov, vs) (by repeat (first | exact trivial | refine ⟨rfl, ?_⟩)) ⟨Nat.zero_le _, hbo3, hn, by simpa using inn, hC⟩ ?_
  clear hbo3 hn inn hC kb1 kblk klo kin kz klt
  rintro ⟨i, ov, vs⟩ w ⟨hi, hbo3, hn, inn, hC⟩
  dsimp only at hi hbo3 hn inn hC ⊢
  obtain ⟨kb1, kblk, klo, kin⟩ := hbk hC
  have kz := (hkp hC).2
  have klt := fun g hg => hn.lt g hg
  (repeat (first | (apply WL.pure; rfl; rfl; rfl) | (apply WL.nil) | (apply EX.thenN) | (apply CW.seq) | (apply CW.region)))
  refine CW.cond rfl (fun h => ?_) (fun h => ?_)
  · have hi' : i < e.A.2.2.2.2.length := by simp at h; omega
    have hfi := hf2 _ (List.getElem_mem hi')
    have hnx : (e.A.2.2.2.2.take (i + 1)).map (fun F => ps.map fun p => decide (p.2 ∈ F)) = (e.A.2.2.2.2.take i).map (fun F => ps.map fun p => decide (p.2 ∈ F)) ++ [ps.map fun p => decide (p.2 ∈ e.A.2.2.2.2[i])] := by
      rw [List.take_add_one, List.getElem?_eq_getElem hi', List.map_append]; rfl
    (repeat (first | (apply EX.thenN) | (apply CW.seq) | (apply CW.region) | (apply CW.block) | (apply CW.skip)))
    refine WL.elemN rfl rfl rfl rfl rfl kin.g5 hi' (fun _ => rfl) (fun u q hu => ?_)
    obtain ⟨ro, rc, rfl, hrow⟩ := hu.sl
    clear hu
    generalize e.A.2.2.2.2[i] = F at *
    (repeat (first | (apply WL.pure; rfl; rfl; rfl) | (apply WL.nil) | (apply EX.thenN) | (apply CW.region) | (apply WL.lenS; rfl; rfl; rfl) | (apply WL.fa; rfl; rfl; rfl) | (apply WL.nck; rfl; rfl; rfl) | (apply WL.ld; rfl; rfl; rfl; assumption; rfl)))
    refine WL.callV (fv := []) rfl rfl rfl rfl (eput_ok w (n := e.A.2.1.length) (of := Prod.snd) kb1 kblk hbo3 hn kz inn klo hrow hfi (by omega) (fun w p hp => FnV.mk (cs := []) (esets3_ok w p)) (fun p hp => (‹Em w0 B e sb mb _ nv fv ps›.ins p hp).2) hpl (by rw [List.length_append, List.length_map, List.length_map, List.length_take]; omega) (fun g hg => by have := (klt g hg).1; omega)) ?_
    rintro _ w' ⟨ov', vs', hbo4, hn4, inn4, hC4, hnew4⟩
    rw [List.append_assoc, ← hnx] at inn4
    (repeat (first | (apply WL.add; rfl; rfl; rfl; rfl; omega; omega) | (apply WL.pure; rfl; rfl; rfl) | (apply WL.nil) | (apply EX.thenN) | (apply CW.region) | (apply EX.inN)))
    exact EX.back (i + 1, ov', vs') (by repeat (first | exact trivial | refine ⟨rfl, ?_⟩)) ⟨hi', hbo4, hn4, inn4, hC.then hC4 (fun b hb => hb.imp id (fun hb => (klt b hb).1))⟩ (by dsimp only; omega)
  obtain rfl : i = e.A.2.2.2.2.length := by simp at h; omega
  rw [List.take_length] at inn
  obtain ⟨so, sc, rfl, hs⟩ := inn.old hn
  (repeat (first | (apply WL.pure; rfl; rfl; rfl) | (apply WL.nil) | (apply EX.thenN) | (apply CW.seq) | (apply CW.region) | (apply WL.ld; rfl; rfl; rfl; assumption; rfl) | (apply CW.exit) | (apply EX.thenX) | (apply EX.inX) | (apply CW.ret)))
  exact EX.ret1 rfl rfl ⟨so, sc, rfl, hs, Chg.ext hE2 hC (fun b hb => by omega)⟩
end Go.Proofs.YtllpfgcngokhnaaGreat

/-
  Maps made by the call: keys with any elements, as a list in the order in which they came. Over any program.
-/
set_option linter.unusedVariables false
set_option linter.unusedSimpArgs false
namespace Go.Proofs.YtllpfgcngokhnaaGreat
open Go.RowKit

/-- keys of which the model's order is whole, whatever their kind -/
class IsKx (P : Program) (k : TypeId) : Prop where
  ok : Go.Maps.Keyed P k
theorem IsKx.int {P : Program} {k : TypeId} (h : P.underlying k = some (.int .i64)) : IsKx P k := ⟨Go.Maps.int_keyed h⟩
theorem KeyV.int {P : Program} {k : TypeId} (h : P.underlying k = some (.int .i64)) {x : Int} (hx : -9223372036854775808 ≤ x ∧ x ≤ 9223372036854775807) : KeyV P k (.int .i64 x) := by
  refine ⟨.int .i64 x, ?_⟩
  unfold keyOf
  rw [h]
  dsimp only
  unfold mapKey
  rw [h]
  dsimp only
  rw [if_pos ⟨rfl, by simp [Lit.wf, IntKind.min, IntKind.max, IntKind.signed, IntKind.bits]; omega⟩]
/-- block b is a map that holds these keys with these elements -/
def MapI (P : Program) (k : TypeId) (w : World) (b : Nat) (kv : List (Value × Value)) : Prop :=
  ∃ (es : Array MapEntry) (clock : Nat), w.heap[b]? = some (.map es clock) ∧ es.toList.map (fun e => (e.key, e.val)) = kv ∧ (∀ x ∈ kv, KeyV P k x.1) ∧ (kv.map Prod.fst).Nodup
section
variable {P : Program} {k : TypeId} {w w' : World} {b : Nat} {kv : List (Value × Value)}
theorem MapI.lt (h : MapI P k w b kv) : b < w.heap.size := by
  obtain ⟨es, clock, hb, _⟩ := h
  exact (Array.getElem?_eq_some_iff.1 hb).1
theorem MapI.at (h : MapI P k w b kv) (hb : w'.heap[b]? = w.heap[b]?) : MapI P k w' b kv := by
  obtain ⟨es, clock, h1, h2⟩ := h
  exact ⟨es, clock, hb.trans h1, h2⟩
theorem MapI.ext (h : MapI P k w b kv) (hE : Ext w w') : MapI P k w' b kv := h.at (hE.block b h.lt)
theorem MapI.kept {row : Option Nat} (h : MapI P k w b kv) (hg : w.grownBy w' row) (hne : some b ≠ row) : MapI P k w' b kv := h.at (hg.block b h.lt hne)
theorem MapI.made (w : World) : MapI P k (w.alloc (.map #[] 0)) w.heap.size [] :=
  ⟨#[], 0, heap_alloc_new w _, rfl, fun x h => by simp at h, List.Pairwise.nil⟩
theorem run_mget {t e : TypeId} {x : Value} [ht : IsM P t k e] [hk : IsKx P k] [hz : IsZ0 P e] (h : MapI P k w b kv) (hx : KeyV P k x) :
    (x ∉ kv.map Prod.fst ∧ (Instr.lookup t (.map (some b)) x true).run P w = .ok (.tuple #[.int .i64 0, .bool false]) w) ∨
    ∃ (j : Nat) (hj : j < kv.length), kv[j].1 = x ∧ (Instr.lookup t (.map (some b)) x true).run P w = .ok (.tuple #[kv[j].2, .bool true]) w ∧ (Instr.lookup t (.map (some b)) x false).run P w = .ok kv[j].2 w := by
  obtain ⟨es, clock, hb, hes, hks, hnd⟩ := h
  obtain ⟨l, hx⟩ := hx
  obtain ⟨i, h1, h2⟩ := Option.map_eq_some_iff.1 hz.ok
  have hzr : (zeroValue e).run P w = .ok (.int .i64 0) w := by simp [zeroValue, typeInfo, h1, h2]
  have hkeys : ∀ e ∈ es.toList, ∃ l, keyOf P k e.key = some l := fun e he => hks (e.key, e.val) (hes ▸ List.mem_map.2 ⟨e, he, rfl⟩)
  rcases hk.ok.find w hx es.toList hkeys with ⟨g1, g2⟩ | ⟨j, e0, g1, g2, g3⟩
  · refine .inl ⟨fun hm => ?_, by simp [Instr.lookup, run_underlying ht.ok, MapKept.run_getObj_map hb, hk.ok.check w _ hx, g1, hzr, Result.andThen]⟩
    rw [← hes, List.map_map] at hm
    obtain ⟨e, he, hke⟩ := List.mem_map.1 hm
    exact g2 e he hke
  · have hj : j < kv.length := by rw [← hes, List.length_map]; exact (List.getElem?_eq_some_iff.1 g2).1
    have hj0 : j < es.toList.length := (List.getElem?_eq_some_iff.1 g2).1
    have hje : es.toList[j] = e0 := (List.getElem?_eq_some_iff.1 g2).2
    subst hes
    refine .inr ⟨j, hj, ?_, ?_, ?_⟩
    · rw [List.getElem_map, ← g3, hje]
    · rw [List.getElem_map, hje]
      simp [Instr.lookup, run_underlying ht.ok, MapKept.run_getObj_map hb, hk.ok.check w _ hx, g1, Result.andThen]
    · rw [List.getElem_map, hje]
      simp [Instr.lookup, run_underlying ht.ok, MapKept.run_getObj_map hb, hk.ok.check w _ hx, g1, Result.andThen]
theorem run_mput {t e : TypeId} {x y : Value} [ht : IsM P t k e] [hk : IsKx P k] (h : MapI P k w b kv) (hx : KeyV P k x) (hn : x ∉ kv.map Prod.fst) :
    ∃ w', (Instr.mapUpdate t (.map (some b)) x y).run P w = .ok () w' ∧ MapI P k w' b (kv ++ [(x, y)]) ∧ w.grownBy w' (some b) := by
  obtain ⟨es, clock, hb, hes, hks, hnd⟩ := h
  obtain ⟨l, hx'⟩ := hx
  have hkeys : ∀ e ∈ es.toList, ∃ l, keyOf P k e.key = some l := fun e he => hks (e.key, e.val) (hes ▸ List.mem_map.2 ⟨e, he, rfl⟩)
  have hlt := (Array.getElem?_eq_some_iff.1 hb).1
  rcases hk.ok.find w hx' es.toList hkeys with ⟨g1, g2⟩ | ⟨j, e0, g1, g2, g3⟩
  · refine ⟨_, by simp [Instr.mapUpdate, run_underlying ht.ok, MapKept.run_getObj_map hb, hk.ok.check w false hx', g1, MapKept.run_setObj_map _ hb, Result.andThen]; rfl, ?_, ?_⟩
    · refine ⟨es.push ⟨x, y, clock⟩, clock + 1, by simp [hlt], by simp [hes], fun z hz => ?_, ?_⟩
      · rcases List.mem_append.1 hz with hz | hz
        · exact hks z hz
        · rw [List.mem_singleton] at hz; subst hz; exact ⟨l, hx'⟩
      · rw [List.map_append, List.nodup_append]
        refine ⟨hnd, by simp, fun a ha c hc e => ?_⟩
        simp at hc
        subst hc; subst e; exact hn ha
    · exact ⟨rfl, rfl, rfl, by simp, fun i _ hi => by
        simp only [Array.getElem?_setIfInBounds]
        rw [if_neg (fun e => hi (by rw [e]))]⟩
  · refine absurd ?_ hn
    rw [← hes, List.map_map]
    exact List.mem_map.2 ⟨e0, List.mem_of_getElem? g2, g3⟩
end
section
variable {P : Program} {Q : Exit → Act → World → Prop} {n : Nat} {σ : Sg} {w : World} {L rest : List Oper} {d : Nat} {ty : TypeId} {pos : String} {af : Array Edge} {g : Option (Nat × Bool)} {t k e : TypeId} {b : Nat} {kv : List (Value × Value)} {x y z : Operand} {v u : Value}
/-- v, ok := m[x] -/
theorem WL.mget (hg : gd L σ ⟨some d, .lookup t x y true, ty, pos, af, g⟩ = some true) (hd : Nat.ble (d + 1) n = true) (hx : ev σ x = some (.map (some b))) (hy : ev σ y = some v) [ht : IsM P t k e] [hk : IsKx P k] [hz : IsZ0 P e]
    (h : MapI P k w b kv) (hv : KeyV P k v)
    (h1 : v ∉ kv.map Prod.fst → WL P L Q rest n ((d, .tuple ⟨[.int .i64 0, .bool false]⟩) :: σ) w)
    (h2 : ∀ (j : Nat) (hj : j < kv.length), kv[j].1 = v → WL P L Q rest n ((d, .tuple ⟨[kv[j].2, .bool true]⟩) :: σ) w) :
    WL P L Q (⟨some d, .lookup t x y true, ty, pos, af, g⟩ :: rest) n σ w := by
  rcases run_mget (t := t) h hv with ⟨g1, g2⟩ | ⟨j, hj, g1, g2, _⟩
  · refine WL.run hg hd (fun a ha => ?_) (h1 g1)
    simp [execOp, ha.ev hx, ha.ev hy, g2]
  · refine WL.run hg hd (fun a ha => ?_) (h2 j hj g1)
    simp [execOp, ha.ev hx, ha.ev hy, g2]
/-- v := m[x], at a key -/
theorem WL.mgetY {j : Nat} (hj : j < kv.length) (hjv : kv[j].1 = v) (hg : gd L σ ⟨some d, .lookup t x y false, ty, pos, af, g⟩ = some true) (hd : Nat.ble (d + 1) n = true) (hx : ev σ x = some (.map (some b))) (hy : ev σ y = some v) [ht : IsM P t k e] [hk : IsKx P k] [hz : IsZ0 P e]
    (h : MapI P k w b kv) (hv : KeyV P k v)
    (hr : WL P L Q rest n ((d, kv[j].2) :: σ) w) : WL P L Q (⟨some d, .lookup t x y false, ty, pos, af, g⟩ :: rest) n σ w := by
  have hnd : (kv.map Prod.fst).Nodup := by obtain ⟨_, _, _, _, _, h⟩ := h; exact h
  rcases run_mget (t := t) h hv with ⟨g1, g2⟩ | ⟨i, hi, g1, _, g3⟩
  · exact absurd (List.mem_map.2 ⟨kv[j], List.getElem_mem hj, hjv⟩) g1
  · have hij : i = j := by
      have h1 : (kv.map Prod.fst)[i]'(by simpa using hi) = (kv.map Prod.fst)[j]'(by simpa using hj) := by simp [g1, hjv]
      exact (List.getElem_inj hnd).1 h1
    subst hij
    refine WL.run hg hd (fun a ha => ?_) hr
    simp [execOp, ha.ev hx, ha.ev hy, g3]
/-- m[x] = y, at a new key -/
theorem WL.mput (hg : gd L σ ⟨none, .mapUpdate t x y z, ty, pos, af, g⟩ = some true) (hx : ev σ x = some (.map (some b))) (hy : ev σ y = some v) (hzv : ev σ z = some u) [ht : IsM P t k e] [hk : IsKx P k]
    (h : MapI P k w b kv) (hv : KeyV P k v) (hn : v ∉ kv.map Prod.fst)
    (hr : ∀ w', MapI P k w' b (kv ++ [(v, u)]) → w.grownBy w' (some b) → WL P L Q rest n σ w') :
    WL P L Q (⟨none, .mapUpdate t x y z, ty, pos, af, g⟩ :: rest) n σ w := by
  obtain ⟨w', g1, g2, g3⟩ := run_mput (t := t) (y := u) h hv hn
  refine WL.runU hg (fun a ha => ?_) (hr w' g2 g3)
  simp [execOp, ha.ev hx, ha.ev hy, ha.ev hzv, g1]
theorem WL.mkMapI (hg : gd L σ ⟨some d, .makeMap t none, ty, pos, af, g⟩ = some true) (hd : Nat.ble (d + 1) n = true)
    (h : MapI P k (w.alloc (.map #[] 0)) w.heap.size [] → WL P L Q rest n ((d, .map (some w.heap.size)) :: σ) (w.alloc (.map #[] 0))) :
    WL P L Q (⟨some d, .makeMap t none, ty, pos, af, g⟩ :: rest) n σ w := by
  refine WL.run hg hd (fun a ha => ?_) (h (MapI.made w))
  simp [execOp, Instr.makeMap]
end
end Go.Proofs.YtllpfgcngokhnaaGreat

/-
  slices.Reverse at []int: the kit's proof, over our own rows.
-/
set_option linter.unusedVariables false
set_option linter.unusedSimpArgs false
namespace Go.Proofs.YtllpfgcngokhnaaGreat
open Go.RowKit Go.Shelf

def revRen : Ren := ⟨fun _ => 81, fun x => if Nat.beq x 3 = true then 3 else if Nat.beq x 4 = true then 4 else if Nat.beq x 28 = true then 22 else 0, fun x => x⟩
set_option maxRecDepth 100000 in
theorem revLays : Lays.n112 Tryz.prog revRen where
  mixed := by kernel_rfl
  f112 := (Tryz.func81).trans (by kernel_rfl)
  t0 := by kernel_rfl
  a0 := fun w => rfl
  z0 := fun w => rfl
  v0 := fun w => rfl
  t3 := Tryz.underlying3
  a3 := Tryz.isAgg3
  z3 := Tryz.sizeOf3
  v3 := Tryz.zeroValue3
  t4 := Tryz.underlying4
  a4 := Tryz.isAgg4
  z4 := Tryz.sizeOf4
  v4 := Tryz.zeroValue4
  t28 := Tryz.underlying22
  a28 := Tryz.isAgg22
  z28 := Tryz.sizeOf22
  v28 := Tryz.zeroValue22
theorem elems_get {w : World} {F : Nat → Prop} {cells : List Value} {xs : List Int} (h : Elems w F cells xs) : cells = xs.map fun x => Value.int .i64 x := by
  refine List.ext_getElem (by rw [List.length_map, h.1]; show _ * 1 = _; omega) fun i h1 h2 => ?_
  rw [List.length_map] at h2
  have h3 := h.2 i h2
  have hz : sz Int = 1 := rfl
  rw [hz, Nat.mul_one] at h3
  have h4 := rd_int h3
  have h5 := congrArg (fun l : List Value => l[0]?) h4
  simp only [List.getElem?_take_of_lt (show 0 < 1 by omega), List.getElem?_drop, Nat.add_zero, List.getElem?_eq_getElem h1] at h5
  simpa using h5
theorem elems_ints (w : World) (F : Nat → Prop) : ∀ xs : List Int, Elems w F (xs.map fun x => Value.int .i64 x) xs
  | [] => Elems.nil
  | x :: r => by
    have := (Elems.one (rd_mkInt w F x)).append (elems_ints w F r)
    simpa using this
theorem reverse_int (w : World) {B : Nat} {v : Value} {xs : List Int} (ho : Own w B 3 Non v xs) :
    Rt Tryz.prog 81 [v].toArray w fun u w' => u = .tuple #[] ∧ Own w' B 3 Non v xs.reverse ∧ w.grownBy w' v.ownBlock := by
  have hgr : w.grownBy w v.ownBlock := ⟨rfl, rfl, rfl, Nat.le_refl _, fun _ _ _ => rfl⟩
  rcases ho with ⟨rfl, rfl⟩ | ⟨g, off, cap, cur, rfl, ho⟩
  · refine Calls.mono (Any.slices_Reverse_int_empty revLays none 0 w) ?_
    rintro e w' ⟨rfl, rfl⟩
    exact ⟨_, rfl, rfl, Own.nil, hgr⟩
  · have hz : sz Int = 1 := rfl
    have hfit := ho.fit
    have hle := ho.le
    have hmx := ho.mx
    have hel := elems_get ho.el
    rw [hz, Nat.mul_one] at hfit hel
    have hcell : ∀ j (hj : j < xs.length), cur[off + j]? = some (Value.int .i64 xs[j]) := fun j hj => by
      have h1 : ((cur.toList.drop off).take xs.length)[j]? = (xs.map fun x => Value.int .i64 x)[j]? := by rw [hel]
      rw [List.getElem?_take_of_lt hj, List.getElem?_drop, List.getElem?_map, List.getElem?_eq_getElem hj] at h1
      simpa using h1
    have hH : Sort.Holds (Value.int .i64) w g off xs.toArray := fun j hj => by
      have hj' : j < xs.length := by simpa using hj
      constructor
      · have : xs.toArray[j]! = xs[j] := by simp [hj']
        rw [this]
        simp [World.cell?, ho.blk, hcell j hj']
      · simp [World.frozen?, ho.blk]
    refine Calls.mono (Any.slices_Reverse_int revLays g off cap xs w hH (by unfold maxLen at hmx; omega)) ?_
    rintro e w' ⟨rfl, n, rfl⟩
    have hheap : (Sort.putRow (Value.int .i64) (Sort.ahead w n) g off xs.reverse.toArray).heap[g]? = some (.cells (Sort.putCells (Value.int .i64) off xs.reverse.toArray cur) 3 (0, 0)) := by
      show (w.heap.modify g _)[g]? = _
      rw [Array.getElem?_modify, if_pos rfl, ho.blk]; rfl
    have hother : ∀ k, k ≠ g → (Sort.putRow (Value.int .i64) (Sort.ahead w n) g off xs.reverse.toArray).heap[k]? = w.heap[k]? := fun k hk => by
      show (w.heap.modify g _)[k]? = _
      rw [Array.getElem?_modify, if_neg (fun e => hk e.symm)]
    have hsize : (Sort.putRow (Value.int .i64) (Sort.ahead w n) g off xs.reverse.toArray).heap.size = w.heap.size := by
      show (w.heap.modify g _).size = _
      rw [Array.size_modify]
    have hos : (Sort.putRow (Value.int .i64) (Sort.ahead w n) g off xs.reverse.toArray).os = w.os := rfl
    have htp : (Sort.putRow (Value.int .i64) (Sort.ahead w n) g off xs.reverse.toArray).tape = w.tape := rfl
    have hou : (Sort.putRow (Value.int .i64) (Sort.ahead w n) g off xs.reverse.toArray).output = w.output := rfl
    generalize Sort.putRow (Value.int .i64) (Sort.ahead w n) g off xs.reverse.toArray = w' at *
    have hps : (Sort.putCells (Value.int .i64) off xs.reverse.toArray cur).size = cur.size := by simp [Sort.putCells]
    refine ⟨_, rfl, rfl, .inr ⟨g, off, cap, _, by rw [List.length_reverse], ⟨hheap, ho.ge, ho.nF, by simpa using hle, hmx, by rw [hps, hz]; omega, ?_⟩⟩, ⟨hos, htp, hou, by omega, fun k _ hk => hother k (fun e => hk (by rw [e]; rfl))⟩⟩
    have e1 : (((Sort.putCells (Value.int .i64) off xs.reverse.toArray cur).toList.drop off).take (xs.reverse.length * sz Int)) = xs.reverse.map fun x => Value.int .i64 x := by
      rw [hz, Nat.mul_one]
      refine List.ext_getElem? fun j => ?_
      by_cases hj : j < xs.length
      · rw [List.getElem?_take_of_lt (by simpa using hj), List.getElem?_drop, Array.getElem?_toList, Sort.putCells, Array.getElem?_mapIdx, hcell j hj, List.getElem?_map, List.getElem?_eq_getElem (by simpa using hj)]
        simp [hj, show off + j < off + xs.length by omega]
      · rw [List.getElem?_eq_none (by simp; try omega), List.getElem?_eq_none (by simp; try omega)]
    rw [e1]
    exact elems_ints _ _ _
end Go.Proofs.YtllpfgcngokhnaaGreat

/-
  Package empty: way: walked.
-/
set_option linter.unusedVariables false
set_option linter.unusedSimpArgs false
namespace Go.Proofs.YtllpfgcngokhnaaGreat
open Go.RowKit

theorem Don_push {g : List (List Int)} {to al : Nat → Bool} {up : UP} {h : Nat} {x : Int × Int} (hh : h ≤ up.length)
    (hd : ∀ i (hi : i < up.length), i < h → to up[i].1.toNat = false ∧ ∀ k ∈ g.getD up[i].1.toNat [], al k.toNat = true → k ∈ keysU up) :
    ∀ i (hi : i < (up ++ [x]).length), i < h → to (up ++ [x])[i].1.toNat = false ∧ ∀ k ∈ g.getD (up ++ [x])[i].1.toNat [], al k.toNat = true → k ∈ keysU (up ++ [x]) := fun i hi hih => by
  have h' : i < up.length := by omega
  rw [List.getElem_append_left h']
  refine ⟨(hd i h' hih).1, fun k hk ha => ?_⟩
  unfold keysU
  rw [List.map_append]
  exact List.mem_append_left _ ((hd i h' hih).2 k hk ha)
instance iEw1 : IsM Tryz.prog 123 3 3 := ⟨Tryz.underlying123⟩
instance iEw2 : IsC Tryz.prog 123 1 false := IsC.of (by kernel_rfl) Tryz.underlying123 rfl
instance iEw3 : IsZ0 Tryz.prog 3 := ⟨by kernel_rfl⟩
instance iEw4 : IsKx Tryz.prog 3 := IsKx.int Tryz.underlying3
def kvU (up : UP) : List (Value × Value) := up.map fun x => (Value.int .i64 x.1, Value.int .i64 x.2)
theorem kvU_push {up : UP} {x : Int × Int} : kvU up ++ [(Value.int .i64 x.1, Value.int .i64 x.2)] = kvU (up ++ [x]) := by unfold kvU; simp
theorem kvU_key {up : UP} {x : Int} : Value.int .i64 x ∈ (kvU up).map Prod.fst ↔ x ∈ keysU up := by
  unfold kvU keysU
  simp only [List.map_map, List.mem_map, Function.comp]
  constructor
  · rintro ⟨a, ha, e⟩; injection e with _ e; exact ⟨a, ha, e⟩
  · rintro ⟨a, ha, e⟩; exact ⟨a, ha, by rw [e]⟩
theorem kvU_len {up : UP} : (kvU up).length = up.length := by unfold kvU; simp
theorem keyI {x : Int} (h : 0 ≤ x ∧ x < 9223372036854775807) : KeyV Tryz.prog 3 (.int .i64 x) := KeyV.int Tryz.underlying3 ⟨by omega, by omega⟩
set_option maxHeartbeats 4000000 in
theorem eway_ok (w0 : World) {sb : Nat} {x0 x1 x2 x3 x4 x5 x6 x7 x8 x9 x10 x12 fv : Value} {no fo po : Option Addr} {nc fc pc : Nat} {g : List (List Int)} {fr part : List Int} {only : Int} {to : Nat → Bool}
    (hb : Blk w0 sb 91 [x0, x1, x2, x3, x4, x5, x6, x7, x8, x9, x10, .slice no g.length nc, x12]) (hg : Sl w0 (Old w0) no nc g) (hf : Sl w0 (Old w0) fo fc fr) (hp : Sl w0 (Old w0) po pc part)
    (hG : okG g) (hfr : okL g.length fr) (hpl : part.length = g.length) (hN : g.length ≤ 1228800)
    (hto : ∀ w, Ext w0 w → ∀ n : Nat, n < g.length → FnV Tryz.prog fv [.int .i64 (n : Int)] w fun v w' => v = .bool (to n) ∧ Ext w w') :
    Rt Tryz.prog 44 [.pointer (some ⟨sb, 0, none⟩), .slice fo fr.length fc, fv, .slice po part.length pc, .int .i64 only].toArray w0 fun v w' => ∃ r, Own w' w0.heap.size 3 Non v r ∧ ((r = [] ∧ WyNo g fr to (alB part only)) ∨ WyOK g fr to (alB part only) r) ∧ Ext w0 w' := by
  have hfl := hf.len63
  refine Rt.enter5 Tryz.func44 Tryz.ntmps44 rfl rfl ?_
  (repeat (first | (apply WL.pure; rfl; rfl; rfl) | (apply WL.nil) | (apply EX.thenN) | (apply CW.seq) | (apply CW.region)))
  refine WL.mkMapI (k := 3) rfl rfl (fun hmap => ?_)
  have e1 : Ext w0 (w0.alloc (.map #[] 0)) := Ext.alloc w0 _
  generalize hmb : w0.heap.size = mb at *
  generalize w0.alloc (.map #[] 0) = w1 at *
  have lmb := hmap.lt
  have hle1 := e1.size
  (repeat (first | (apply WL.pure; rfl; rfl; rfl) | (apply WL.nil) | (apply EX.thenN) | (apply CW.seq) | (apply CW.region) | (apply WL.lenS; rfl; rfl; rfl) | (apply CW.block)))
  refine CW.loop (S := Nat × UP × Value) (fun s => [(0, .pointer (some ⟨sb, 0, none⟩)), (2, fv), (3, .slice po part.length pc), (4, .int .i64 only), (11, .map (some mb)), (12, s.2.2), (24, .slice fo fr.length fc), (25, .int .i64 fr.length), (26, .int .i64 s.1)])
    (fun s w => s.1 ≤ fr.length ∧ WyC g fr (alB part only) s.2.1 ∧ (∀ x ∈ fr.take s.1, x ∈ keysU s.2.1) ∧ MapI Tryz.prog 3 w mb (kvU s.2.1) ∧ Own w w1.heap.size 3 Non s.2.2 (keysU s.2.1) ∧ Ext w0 w ∧ w1.heap.size ≤ w.heap.size) (fun s => fr.length - s.1) (0, [], .slice none 0 0) (by repeat (first | exact trivial | refine ⟨rfl, ?_⟩)) ⟨Nat.zero_le _, WyC.nil, (fun x hx => by simp at hx), hmap, Own.nil, e1, Nat.le_refl _⟩ ?_
  clear hmap
  rintro ⟨i, up, tv⟩ w2 ⟨hi, hC, hfm, hM, ho, hE2, hz2⟩
  dsimp only at hi hC hfm hM ho hE2 hz2 ⊢
  have hul := hC.len
  have hkl : (keysU up).length = up.length := List.length_map _
  have hlt := fun g hg => ho.lt g hg
  (repeat (first | (apply WL.pure; rfl; rfl; rfl) | (apply WL.nil) | (apply EX.thenN) | (apply CW.seq) | (apply CW.region)))
  refine CW.cond rfl (fun h => ?_) (fun h => ?_)
  · have hi' : i < fr.length := by simp at h; omega
    have hxr := hfr _ (List.getElem_mem hi')
    have htk : fr.take (i + 1) = fr.take i ++ [fr[i]] := List.take_succ_eq_append_getElem hi'
    have hxm := List.getElem_mem hi'
    (repeat (first | (apply EX.thenN) | (apply CW.seq) | (apply CW.region) | (apply CW.block) | (apply CW.skip)))
    refine WL.elemI rfl rfl rfl rfl rfl (hf.up hE2) hi' rfl (fun _ => rfl) (fun q => ?_)
    generalize fr[i] = x at *
    (repeat (first | (apply WL.pure; rfl; rfl; rfl) | (apply WL.nil) | (apply EX.thenN) | (apply CW.seq) | (apply CW.region)))
    refine WL.mget rfl rfl rfl rfl hM (keyI ⟨hxr.1, by omega⟩) (fun hn => ?_) (fun j hj hjx => ?_)
    · have hn := fun h => hn (kvU_key.2 h)
      (repeat (first | (apply WL.pure; rfl; rfl; rfl) | (apply WL.nil) | (apply EX.thenN) | (apply CW.seq) | (apply CW.region) | (apply CW.condT; rfl)))
      refine WL.mput rfl rfl rfl rfl hM (keyI ⟨hxr.1, by omega⟩) (fun h => hn (kvU_key.1 h)) (fun w3 hM3 hg3 => ?_)
      rw [kvU_push (x := (x, -1))] at hM3
      have ho3 := ho.keptN hg3 (fun g hg e => by have := (hlt g hg).1; have := Option.some.inj e; omega)
      have hE3 : Ext w0 w3 := hE2.grown hg3 hE2.size (fun g hg => by cases hg; omega)
      have hz3 := hg3.size
      (repeat (first | (apply WL.pure; rfl; rfl; rfl) | (apply WL.nil) | (apply EX.thenN) | (apply CW.region)))
      refine WL.app1 (F := Non) (yv := x) rfl rfl (fun _ => rfl) rfl rfl (fun _ => rfl) ho3 (Rd.mkInt _ _ _) (by omega) (fun _ h => h.elim) (by decide) (by unfold maxLen; omega) (by omega) (fun tv' w4 p ho4 hg4 hnb4 => ?_)
      have hM4 := hM3.kept hg4 (fun e => by have := (hlt _ e.symm).1; omega)
      have hE4 : Ext w0 w4 := hE3.grown hg4 hE3.size (fun g hg => by have := (hlt g hg).1; omega)
      have hz4 := hg4.size
      (repeat (first | (apply WL.add; rfl; rfl; rfl; rfl; omega; omega) | (apply WL.pure; rfl; rfl; rfl) | (apply WL.nil) | (apply EX.thenN) | (apply CW.region) | (apply EX.inN)))
      refine EX.back (i + 1, up ++ [(x, -1)], tv') (by repeat (first | exact trivial | refine ⟨rfl, ?_⟩)) ⟨hi', hC.push hn hxr (.inl ⟨rfl, hxm⟩), fun y hy => ?_, hM4, by simpa [keysU] using ho4, hE4, by omega⟩ (by dsimp only; omega)
      dsimp only at hy ⊢
      rw [htk] at hy
      unfold keysU
      rw [List.map_append]
      rcases List.mem_append.1 hy with hy | hy
      · exact List.mem_append_left _ (hfm y hy)
      · rw [List.mem_singleton] at hy; subst hy; exact List.mem_append_right _ (by simp)
    · have hxk : x ∈ keysU up := kvU_key.1 (by rw [← hjx]; exact List.mem_map.2 ⟨_, List.getElem_mem hj, rfl⟩)
      (repeat (first | (apply WL.add; rfl; rfl; rfl; rfl; omega; omega) | (apply WL.pure; rfl; rfl; rfl) | (apply WL.nil) | (apply EX.thenN) | (apply CW.seq) | (apply CW.region) | (apply EX.inN) | (apply CW.condF; rfl) | (apply CW.skip)))
      refine EX.back (i + 1, up, tv) (by repeat (first | exact trivial | refine ⟨rfl, ?_⟩)) ⟨hi', hC, fun y hy => ?_, hM, ho, hE2, hz2⟩ (by dsimp only; omega)
      dsimp only at hy ⊢
      rw [htk] at hy
      rcases List.mem_append.1 hy with hy | hy
      · exact hfm y hy
      · rw [List.mem_singleton] at hy; subst hy; exact hxk
  obtain rfl : i = fr.length := by simp at h; omega
  rw [List.take_length] at hfm
  clear h hi
  (repeat (first | (apply EX.thenN) | (apply CW.seq) | (apply CW.block) | (apply CW.exit) | (apply EX.thenX) | (apply EX.inX)))
  refine CW.loop (S := Nat × UP × Value) (fun s => [(0, .pointer (some ⟨sb, 0, none⟩)), (2, fv), (3, .slice po part.length pc), (4, .int .i64 only), (11, .map (some mb)), (12, s.2.2)])
    (fun s w => s.1 ≤ s.2.1.length ∧ WyC g fr (alB part only) s.2.1 ∧ (∀ x ∈ fr, x ∈ keysU s.2.1) ∧ (∀ i (hi : i < s.2.1.length), i < s.1 → to s.2.1[i].1.toNat = false ∧ ∀ k ∈ g.getD s.2.1[i].1.toNat [], alB part only k.toNat = true → k ∈ keysU s.2.1) ∧ MapI Tryz.prog 3 w mb (kvU s.2.1) ∧ Own w w1.heap.size 3 Non s.2.2 ((keysU s.2.1).drop s.1) ∧ Ext w0 w ∧ w1.heap.size ≤ w.heap.size) (fun s => g.length - s.1) (0, up, tv) (by repeat (first | exact trivial | refine ⟨rfl, ?_⟩)) ⟨Nat.zero_le _, hC, hfm, fun i hi h => absurd h (by simp), hM, by simpa using ho, hE2, hz2⟩ ?_
  clear hC hfm hM ho hE2 hz2 hul hkl hlt
  rintro ⟨h, up, tv⟩ w2 ⟨hh, hC, hfm, hD, hM, ho, hE2, hz2⟩
  dsimp only at hh hC hfm hD hM ho hE2 hz2 ⊢
  have hul := hC.len
  have hkl : (keysU up).length = up.length := List.length_map _
  have hlt := fun g hg => ho.lt g hg
  have hdl : ((keysU up).drop h).length = up.length - h := by rw [List.length_drop, hkl]
  (repeat (first | (apply WL.pure; rfl; rfl; rfl) | (apply WL.nil) | (apply EX.thenN) | (apply CW.seq) | (apply CW.region) | (refine WL.lenO rfl rfl rfl (by assumption) ?_)))
  refine CW.cond rfl (fun hc => ?_) (fun hc => ?_)
  · have hh' : h < up.length := by rw [hdl] at hc; simp at hc; omega
    have hhk : h < (keysU up).length := by omega
    have hd0 : 0 < ((keysU up).drop h).length := by omega
    have hget : ((keysU up).drop h)[0] = up[h].1 := by rw [List.getElem_drop]; simp [keysU]
    have hnr := hC.rg _ (List.mem_map.2 ⟨up[h], List.getElem_mem hh', rfl⟩)
    (repeat (first | (apply WL.pure; rfl; rfl; rfl) | (apply EX.thenN) | (apply CW.seq) | (apply CW.region) | (apply CW.block) | (apply CW.skip)))
    refine WL.elemON (i := 0) rfl rfl rfl rfl rfl ho hd0 (fun _ => rfl) (fun u q hu => ?_)
    obtain rfl := hu.int
    rw [hget]
    obtain ⟨n, hn⟩ : ∃ n : Nat, up[h].1 = (n : Int) := ⟨up[h].1.toNat, by omega⟩
    rw [hn]
    rw [hn] at hnr
    (repeat (first | (apply WL.pure; rfl; rfl; rfl) | (apply WL.nil) | (apply EX.thenN) | (apply CW.seq) | (apply CW.region)))
    refine WL.cutLoO (α := Int) 1 rfl rfl rfl rfl rfl ho (by omega) (fun tv2 ho2 hob => ?_)
    rw [List.drop_drop] at ho2
    (repeat (first | (apply WL.pure; rfl; rfl; rfl) | (apply WL.nil) | (apply EX.thenN) | (apply CW.seq) | (apply CW.region)))
    refine WL.callF rfl rfl rfl rfl (hto w2 hE2 n (by omega)) ?_
    rintro _ w3 ⟨rfl, e3⟩
    have hM3 := hM.ext e3
    have ho3 := ho2.extN e3
    have hE3 := hE2.trans e3
    have hz3 : w1.heap.size ≤ w3.heap.size := Nat.le_trans hz2 e3.size
    have hlt3 := fun g hg => ho3.lt g hg
    cases htn : to n
    · -- on
      have hgn : n < g.length := by omega
      have hrow : g.getD n [] = g[n] := by rw [List.getD_eq_getElem?_getD, List.getElem?_eq_getElem hgn]; rfl
      have hrr : okL g.length g[n] := hG _ (List.getElem_mem hgn)
      have hb3 := hb.ext hE3
      (repeat (first | (apply WL.pure; rfl; rfl; rfl) | (apply WL.nil) | (apply EX.thenN) | (apply CW.seq) | (apply CW.region) | (apply WL.fa; rfl; rfl; rfl) | (apply WL.nck; rfl; rfl; rfl) | (apply WL.ld; rfl; rfl; rfl; assumption; rfl) | (apply CW.condF; rfl) | (apply CW.skip)))
      refine WL.elemN (i := n) rfl rfl rfl rfl rfl (hg.mono (w' := w3) hE3.block (F' := Old w0) (fun _ h => h)) hgn (fun _ => rfl) (fun u q hu => ?_)
      obtain ⟨ro, rc, rfl, hrs⟩ := hu.sl
      generalize g[n] = row at *
      have hrl := hrs.len63
      (repeat (first | (apply WL.pure; rfl; rfl; rfl) | (apply WL.nil) | (apply EX.thenN) | (apply WL.lenS; rfl; rfl; rfl) | (apply CW.block)))
      refine CW.loop (S := Nat × UP × Value) (fun s => [(0, .pointer (some ⟨sb, 0, none⟩)), (2, fv), (3, .slice po part.length pc), (4, .int .i64 only), (11, .map (some mb)), (12, s.2.2), (17, .int .i64 n), (74, .slice ro row.length rc), (75, .int .i64 row.length), (76, .int .i64 s.1)])
        (fun s w => s.1 ≤ row.length ∧ WyC g fr (alB part only) s.2.1 ∧ (∀ x ∈ fr, x ∈ keysU s.2.1) ∧ (∀ i (hi : i < s.2.1.length), i < h → to s.2.1[i].1.toNat = false ∧ ∀ k ∈ g.getD s.2.1[i].1.toNat [], alB part only k.toNat = true → k ∈ keysU s.2.1) ∧ (∃ hh' : h < s.2.1.length, s.2.1[h].1 = (n : Int)) ∧ (∀ k ∈ row.take s.1, alB part only k.toNat = true → k ∈ keysU s.2.1) ∧ MapI Tryz.prog 3 w mb (kvU s.2.1) ∧ Own w w1.heap.size 3 Non s.2.2 ((keysU s.2.1).drop (h + 1)) ∧ Ext w0 w ∧ w1.heap.size ≤ w.heap.size) (fun s => row.length - s.1) (0, up, tv2) (by repeat (first | exact trivial | refine ⟨rfl, ?_⟩)) ⟨Nat.zero_le _, hC, hfm, hD, ⟨hh', hn⟩, (fun k hk => by simp at hk), hM3, by simpa [Nat.add_comm] using ho3, hE3, hz3⟩ ?_
      clear hC hfm hD hM3 ho3 hul hc ho2 hob hlt3
      rintro ⟨j, up, tv⟩ w4 ⟨hj, hC, hfm, hD, ⟨hh', hn⟩, hpt, hM, ho, hE04, hz4⟩
      dsimp only at hj hC hfm hD hh' hn hpt hM ho hE04 hz4 ⊢
      have hul := hC.len
      have hkl : (keysU up).length = up.length := List.length_map _
      have hlt := fun g hg => ho.lt g hg
      (repeat (first | (apply WL.pure; rfl; rfl; rfl) | (apply WL.nil) | (apply EX.thenN) | (apply CW.seq) | (apply CW.region)))
      refine CW.cond rfl (fun hc => ?_) (fun hc => ?_)
      · have hj' : j < row.length := by simp at hc; omega
        have hkr := hrr _ (List.getElem_mem hj')
        have hkm : row[j] ∈ g.getD n [] := by rw [hrow]; exact List.getElem_mem hj'
        have htk : row.take (j + 1) = row.take j ++ [row[j]] := List.take_succ_eq_append_getElem hj'
        have skip : ∀ (hx : alB part only row[j].toNat = true → row[j] ∈ keysU up), ∀ k ∈ row.take (j + 1), alB part only k.toNat = true → k ∈ keysU up := fun hx k hk ha => by
          rw [htk] at hk
          rcases List.mem_append.1 hk with hk | hk
          · exact hpt k hk ha
          · rw [List.mem_singleton] at hk; subst hk; exact hx ha
        (repeat (first | (apply EX.thenN) | (apply CW.seq) | (apply CW.region) | (apply CW.block) | (apply CW.skip)))
        refine WL.elemI rfl rfl rfl rfl rfl (hrs.mono (w' := w4) (fun b hb => (hE04.block b hb).trans (hE3.block b hb).symm) (F' := Old w0) (fun _ h => h)) hj' rfl (fun _ => rfl) (fun q => ?_)
        generalize row[j] = k at *
        obtain ⟨kn, rfl⟩ : ∃ m : Nat, k = (m : Int) := ⟨k.toNat, by omega⟩
        have hkp : kn < part.length := by omega
        have hpk : part.getD kn 0 = part[kn] := by rw [List.getD_eq_getElem?_getD, List.getElem?_eq_getElem hkp]; rfl
        rw [Int.toNat_natCast] at skip
        (repeat (first | (apply WL.pure; rfl; rfl; rfl) | (apply WL.nil) | (apply EX.thenN) | (apply CW.seq) | (apply CW.region)))
        refine WL.mget rfl rfl rfl rfl hM (keyI ⟨hkr.1, by omega⟩) (fun hnk => ?_) (fun i hi hix => ?_)
        · have hnk := fun h => hnk (kvU_key.2 h)
          have hpush : ∀ (ha : alB part only kn = true) (w5 : World) (tv' : Value), MapI Tryz.prog 3 w5 mb (kvU (up ++ [((kn : Int), (n : Int))])) → Own w5 w1.heap.size 3 Non tv' ((keysU up).drop (h + 1) ++ [(kn : Int)]) → Ext w0 w5 → w1.heap.size ≤ w5.heap.size →
              (j + 1 ≤ row.length ∧ WyC g fr (alB part only) (up ++ [((kn : Int), (n : Int))]) ∧ (∀ x ∈ fr, x ∈ keysU (up ++ [((kn : Int), (n : Int))])) ∧ (∀ i (hi : i < (up ++ [((kn : Int), (n : Int))]).length), i < h → to (up ++ [((kn : Int), (n : Int))])[i].1.toNat = false ∧ ∀ k ∈ g.getD (up ++ [((kn : Int), (n : Int))])[i].1.toNat [], alB part only k.toNat = true → k ∈ keysU (up ++ [((kn : Int), (n : Int))])) ∧ (∃ hh' : h < (up ++ [((kn : Int), (n : Int))]).length, (up ++ [((kn : Int), (n : Int))])[h].1 = (n : Int)) ∧ (∀ k ∈ row.take (j + 1), alB part only k.toNat = true → k ∈ keysU (up ++ [((kn : Int), (n : Int))])) ∧ MapI Tryz.prog 3 w5 mb (kvU (up ++ [((kn : Int), (n : Int))])) ∧ Own w5 w1.heap.size 3 Non tv' ((keysU (up ++ [((kn : Int), (n : Int))])).drop (h + 1)) ∧ Ext w0 w5 ∧ w1.heap.size ≤ w5.heap.size) := by
            intro ha w5 tv' hM5 ho5 hE5 hz5
            have hin : ∀ x, x ∈ keysU up → x ∈ keysU (up ++ [((kn : Int), (n : Int))]) := fun x hx => by unfold keysU; rw [List.map_append]; exact List.mem_append_left _ hx
            refine ⟨hj', hC.push hnk hkr (.inr ⟨h, hh', by rw [hn], by rw [hn, Int.toNat_natCast]; exact hkm, by rw [Int.toNat_natCast]; exact ha⟩), fun x hx => hin x (hfm x hx), Don_push (by omega) hD, ⟨by simp; omega, by rw [List.getElem_append_left hh']; exact hn⟩, fun x hx hxa => ?_, hM5, ?_, hE5, hz5⟩
            · rw [htk] at hx
              rcases List.mem_append.1 hx with hx | hx
              · exact hin x (hpt x hx hxa)
              · rw [List.mem_singleton] at hx; subst hx; unfold keysU; rw [List.map_append]; exact List.mem_append_right _ (by simp)
            · rw [show (keysU (up ++ [((kn : Int), (n : Int))])).drop (h + 1) = (keysU up).drop (h + 1) ++ [(kn : Int)] by
                unfold keysU
                rw [List.map_append, List.drop_append_of_le_length (by simp; omega)]; rfl]
              exact ho5
          have hdlen : ((keysU up).drop (h + 1)).length ≤ 1228800 := by rw [List.length_drop]; omega
          have ins : ∀ (w5 : World) (hM5 : MapI Tryz.prog 3 w5 mb (kvU up ++ [(Value.int .i64 (kn : Int), Value.int .i64 (n : Int))])) (hg5 : w4.grownBy w5 (some mb)), Own w5 w1.heap.size 3 Non tv ((keysU up).drop (h + 1)) ∧ Ext w0 w5 ∧ w1.heap.size ≤ w5.heap.size := fun w5 hM5 hg5 =>
            ⟨ho.keptN hg5 (fun g hg e => by have := (hlt g hg).1; have := Option.some.inj e; omega), hE04.grown hg5 hE04.size (fun g hg => by cases hg; omega), by have := hg5.size; omega⟩
          by_cases hon : only < 0
          · have ha : alB part only kn = true := by unfold alB; rw [decide_eq_true hon]; rfl
            (repeat (first | (apply WL.pure; rfl; rfl; rfl) | (apply WL.nil) | (apply EX.thenN) | (apply CW.seq) | (apply CW.region)))
            rw [decide_eq_true hon]
            (repeat (first | (apply WL.pure; rfl; rfl; rfl) | (apply WL.nil) | (apply EX.thenN) | (apply CW.seq) | (apply CW.region) | (apply WL.pass; rfl; rfl) | (apply CW.condT; rfl)))
            refine WL.mput rfl rfl rfl rfl hM (keyI ⟨hkr.1, by omega⟩) (fun h => hnk (kvU_key.1 h)) (fun w5 hM5 hg5 => ?_)
            obtain ⟨ho5, hE5, hz5⟩ := ins w5 hM5 hg5
            (repeat (first | (apply WL.pure; rfl; rfl; rfl) | (apply WL.nil) | (apply EX.thenN) | (apply CW.region)))
            refine WL.app1 (F := Non) (yv := (kn : Int)) rfl rfl (fun _ => rfl) rfl rfl (fun _ => rfl) ho5 (Rd.mkInt _ _ _) (by omega) (fun _ h => h.elim) (by decide) (by unfold maxLen; omega) (by omega) (fun tv' w6 p ho6 hg6 hnb6 => ?_)
            have hM6 := hM5.kept hg6 (fun e => by have := (hlt _ e.symm).1; omega)
            rw [kvU_push (x := ((kn : Int), (n : Int)))] at hM6
            (repeat (first | (apply WL.add; rfl; rfl; rfl; rfl; omega; omega) | (apply WL.pure; rfl; rfl; rfl) | (apply WL.nil) | (apply EX.thenN) | (apply CW.region) | (apply EX.inN)))
            exact EX.back (j + 1, up ++ [((kn : Int), (n : Int))], tv') (by repeat (first | exact trivial | refine ⟨rfl, ?_⟩)) (hpush ha w6 tv' hM6 ho6 (hE5.grown hg6 hE5.size (fun g hg => by have := (hlt g hg).1; omega)) (by have := hg6.size; omega)) (by dsimp only; omega)
          by_cases hpe : part[kn] = only
          · have ha : alB part only kn = true := by unfold alB; rw [hpk, decide_eq_true hpe, Bool.or_true]
            (repeat (first | (apply WL.pure; rfl; rfl; rfl) | (apply WL.nil) | (apply EX.thenN) | (apply CW.seq) | (apply CW.region)))
            rw [decide_eq_false hon]
            (repeat (apply WL.pure; rfl; rfl; rfl))
            refine WL.elemI rfl rfl rfl rfl rfl (hp.at hE04) hkp rfl (fun _ => rfl) (fun q => ?_)
            rw [hpe]
            (repeat (first | (apply WL.pure; rfl; rfl; rfl) | (apply WL.nil) | (apply EX.thenN)))
            refine CW.cond rfl (fun _ => ?_) (fun hx => by simp at hx)
            (repeat (first | (apply WL.pure; rfl; rfl; rfl) | (apply CW.seq) | (apply CW.region)))
            refine WL.mput rfl rfl rfl rfl hM (keyI ⟨hkr.1, by omega⟩) (fun h => hnk (kvU_key.1 h)) (fun w5 hM5 hg5 => ?_)
            obtain ⟨ho5, hE5, hz5⟩ := ins w5 hM5 hg5
            (repeat (first | (apply WL.pure; rfl; rfl; rfl) | (apply WL.nil) | (apply EX.thenN) | (apply CW.region)))
            refine WL.app1 (F := Non) (yv := (kn : Int)) rfl rfl (fun _ => rfl) rfl rfl (fun _ => rfl) ho5 (Rd.mkInt _ _ _) (by omega) (fun _ h => h.elim) (by decide) (by unfold maxLen; omega) (by omega) (fun tv' w6 p ho6 hg6 hnb6 => ?_)
            have hM6 := hM5.kept hg6 (fun e => by have := (hlt _ e.symm).1; omega)
            rw [kvU_push (x := ((kn : Int), (n : Int)))] at hM6
            (repeat (first | (apply WL.add; rfl; rfl; rfl; rfl; omega; omega) | (apply WL.pure; rfl; rfl; rfl) | (apply WL.nil) | (apply EX.thenN) | (apply CW.region) | (apply EX.inN)))
            exact EX.back (j + 1, up ++ [((kn : Int), (n : Int))], tv') (by repeat (first | exact trivial | refine ⟨rfl, ?_⟩)) (hpush ha w6 tv' hM6 ho6 (hE5.grown hg6 hE5.size (fun g hg => by have := (hlt g hg).1; omega)) (by have := hg6.size; omega)) (by dsimp only; omega)
          · have ha : ¬ alB part only kn = true := by unfold alB; rw [hpk, decide_eq_false hpe, decide_eq_false hon]; decide
            (repeat (first | (apply WL.pure; rfl; rfl; rfl) | (apply WL.nil) | (apply EX.thenN) | (apply CW.seq) | (apply CW.region)))
            rw [decide_eq_false hon]
            (repeat (apply WL.pure; rfl; rfl; rfl))
            refine WL.elemI rfl rfl rfl rfl rfl (hp.at hE04) hkp rfl (fun _ => rfl) (fun q => ?_)
            (repeat (first | (apply WL.pure; rfl; rfl; rfl) | (apply WL.nil) | (apply EX.thenN)))
            refine CW.cond rfl (fun hx => absurd (by simpa using hx) hpe) (fun _ => ?_)
            (repeat (first | (apply WL.add; rfl; rfl; rfl; rfl; omega; omega) | (apply WL.pure; rfl; rfl; rfl) | (apply WL.nil) | (apply EX.thenN) | (apply CW.region) | (apply EX.inN) | (apply CW.skip)))
            exact EX.back (j + 1, up, tv) (by repeat (first | exact trivial | refine ⟨rfl, ?_⟩)) ⟨hj', hC, hfm, hD, ⟨hh', hn⟩, skip (fun h => absurd h ha), hM, ho, hE04, hz4⟩ (by dsimp only; omega)
        · have hxk : (kn : Int) ∈ keysU up := kvU_key.1 (by rw [← hix]; exact List.mem_map.2 ⟨_, List.getElem_mem hi, rfl⟩)
          (repeat (first | (apply WL.add; rfl; rfl; rfl; rfl; omega; omega) | (apply WL.pure; rfl; rfl; rfl) | (apply WL.nil) | (apply EX.thenN) | (apply CW.seq) | (apply CW.region) | (apply WL.pass; rfl; rfl) | (apply EX.inN) | (apply CW.condF; rfl) | (apply CW.skip)))
          exact EX.back (j + 1, up, tv) (by repeat (first | exact trivial | refine ⟨rfl, ?_⟩)) ⟨hj', hC, hfm, hD, ⟨hh', hn⟩, skip (fun _ => hxk), hM, ho, hE04, hz4⟩ (by dsimp only; omega)
      · obtain rfl : j = row.length := by simp at hc; omega
        rw [List.take_length] at hpt
        (repeat (first | (apply EX.inN) | (apply CW.exit) | (apply EX.thenX) | (apply EX.inX)))
        refine EX.back (h + 1, up, tv) (by repeat (first | exact trivial | refine ⟨rfl, ?_⟩)) ⟨hh', hC, hfm, fun i hi hih => ?_, hM, ho, hE04, hz4⟩ (by dsimp only; omega)
        dsimp only at hi hih ⊢
        by_cases e : i < h
        · exact hD i hi e
        · obtain rfl : i = h := by omega
          rw [hn, Int.toNat_natCast]
          exact ⟨htn, fun k hk ha => hpt k (by rw [← hrow]; exact hk) ha⟩
    · -- there
      have hq1 : Value.int .i64 (n : Int) = .int .i64 (numQ up (h + 1)) := by
        rw [← hn]; unfold numQ; rw [dif_pos ⟨by omega, by omega⟩]; rfl
      (repeat (first | (apply WL.pure; rfl; rfl; rfl) | (apply WL.nil) | (apply EX.thenN) | (apply CW.seq) | (apply CW.region) | (apply CW.block) | (apply CW.condT; rfl)))
      rw [hq1]
      refine CW.loop (S := Nat × List Int × Value) (fun s => [(11, .map (some mb)), (17, .int .i64 (numQ up s.1)), (18, s.2.2)])
        (fun s w => BackI g fr (alB part only) up h s.1 s.2.1 ∧ MapI Tryz.prog 3 w mb (kvU up) ∧ Own w w1.heap.size 3 Non s.2.2 s.2.1 ∧ Ext w0 w ∧ w1.heap.size ≤ w.heap.size) (fun s => s.1) (h + 1, [], .slice none 0 0) (by repeat (first | exact trivial | refine ⟨rfl, ?_⟩)) ⟨BackI.start hh', hM3, Own.nil, hE3, hz3⟩ ?_
      clear hM3 ho3 hlt3
      rintro ⟨q, out, ov⟩ w4 ⟨hI, hM, ho, hE4, hz4⟩
      dsimp only at hI hM ho hE4 hz4 ⊢
      have hq := hI.hq
      have hlen := hI.len
      have hltq := fun g hg => ho.lt g hg
      (repeat (first | (apply WL.pure; rfl; rfl; rfl) | (apply WL.nil) | (apply EX.thenN) | (apply CW.seq) | (apply CW.region)))
      refine CW.cond rfl (fun hc => ?_) (fun hc => ?_)
      · have hc : 0 ≤ numQ up q := by simpa using hc
        have h0 : 0 < q := by
          rcases Nat.eq_zero_or_pos q with e | e
          · subst e; simp [numQ] at hc
          · exact e
        have hqn : numQ up q = up[q - 1].1 := by unfold numQ; rw [dif_pos ⟨h0, hq⟩]
        obtain ⟨q', hq', hv, hI'⟩ := hI.step hC h0
        have hqr := hC.rg _ (List.mem_map.2 ⟨up[q - 1], List.getElem_mem (by omega), rfl⟩)
        have hkq : q - 1 < (kvU up).length := by rw [kvU_len]; omega
        have hk1 : (kvU up)[q - 1].1 = .int .i64 (numQ up q) := by rw [hqn]; simp [kvU]
        have hk2 : (kvU up)[q - 1].2 = .int .i64 (numQ up q') := by rw [← hv]; simp [kvU]
        (repeat (first | (apply WL.pure; rfl; rfl; rfl) | (apply EX.thenN) | (apply CW.seq) | (apply CW.region) | (apply CW.block) | (apply CW.skip)))
        refine WL.app1 (F := Non) (yv := numQ up q) rfl rfl (fun _ => rfl) rfl rfl (fun _ => rfl) ho (Rd.mkInt _ _ _) (by omega) (fun _ h => h.elim) (by decide) (by unfold maxLen; omega) (by omega) (fun ov' w5 p ho5 hg5 hnb5 => ?_)
        have hM5 := hM.kept hg5 (fun e => by have := (hltq _ e.symm).1; omega)
        have hE5 : Ext w0 w5 := hE4.grown hg5 hE4.size (fun g hg => by have := (hltq g hg).1; omega)
        rw [hqn] at ho5
        (repeat (first | (apply WL.pure; rfl; rfl; rfl) | (apply WL.nil) | (apply EX.thenN) | (apply CW.region) | (apply EX.inN)))
        refine WL.mgetY (j := q - 1) hkq hk1 rfl rfl rfl rfl hM5 (keyI ⟨hc, by rw [hqn]; omega⟩) ?_
        rw [hk2]
        (repeat (first | (apply WL.pure; rfl; rfl; rfl) | (apply WL.nil)))
        exact EX.back (q', out ++ [up[q - 1].1], ov') (by repeat (first | exact trivial | refine ⟨rfl, ?_⟩)) ⟨hI', hM5, ho5, hE5, by have := hg5.size; omega⟩ hq'
      · have hc : ¬ 0 ≤ numQ up q := by simpa using hc
        obtain rfl : q = 0 := by
          rcases Nat.eq_zero_or_pos q with e | e
          · exact e
          · refine absurd ?_ hc
            unfold numQ
            rw [dif_pos ⟨e, hq⟩]
            exact (hC.rg _ (List.mem_map.2 ⟨up[q - 1], List.getElem_mem (by omega), rfl⟩)).1
        (repeat (first | (apply WL.pure; rfl; rfl; rfl) | (apply EX.thenN) | (apply CW.seq) | (apply CW.region) | (apply CW.exit) | (apply EX.thenX) | (apply EX.inX)))
        refine WL.call rfl rfl rfl (reverse_int w4 ho) ?_
        rintro _ w5 ⟨rfl, hor, hgr⟩
        (repeat (first | (apply WL.pure; rfl; rfl; rfl) | (apply WL.nil) | (apply EX.thenN) | (apply CW.seq) | (apply CW.region) | (apply CW.ret) | (apply EX.thenR) | (apply EX.inR)))
        exact EX.ret1 rfl rfl ⟨out.reverse, hor.low (by omega), .inr (hI.done hC (by rw [hn]; exact htn)), hE4.grown hgr hE4.size (fun g hg => by have := (hltq g hg).1; omega)⟩
  · obtain rfl : h = up.length := by rw [hdl] at hc; simp at hc; omega
    (repeat (first | (apply WL.pure; rfl; rfl; rfl) | (apply WL.nil) | (apply EX.thenN) | (apply CW.seq) | (apply CW.region) | (apply CW.exit) | (apply EX.thenX) | (apply EX.inX) | (apply CW.ret)))
    exact EX.ret1 rfl rfl ⟨[], Own.nil, .inl ⟨rfl, keysU up, hfm, fun x hx => by
      obtain ⟨y, hy, rfl⟩ := List.mem_map.1 hx
      obtain ⟨i, hi, rfl⟩ := List.mem_iff_getElem.1 hy
      exact hD i hi hi⟩, hE2⟩
end Go.Proofs.YtllpfgcngokhnaaGreat

