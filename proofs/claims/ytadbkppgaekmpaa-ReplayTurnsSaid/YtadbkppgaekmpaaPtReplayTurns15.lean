import Derived.Test.YtadbkppgaekmpaaRows
import Derived.OpenShut
import Derived.JoinedCond
import Derived.Test.YtadbkppgaekmpaaPtReplayTurns14
/-
  Package replay: holds: walked.
-/
set_option linter.unusedVariables false
set_option linter.unusedSimpArgs false
namespace Go.Proofs.Ytadbkppgaekmpaa
open Go.RowKit

theorem rpnext_ok (w : World) (b8 b4 : Nat) {so : Option Addr} {sc N : Nat} {s l : List Nat} (hN : N = s.length + l.length) (h6 : N ≤ 120000) (h8 : Blk w b8 3 [.int .i64 (N : Int)]) (h4 : Blk w b4 24 [.slice so s.length sc]) {i : Nat} (hi : i < N) :
    Rt Try.prog 178 [.int .i64 (i : Int), .pointer (some ⟨b8, 0, none⟩), .pointer (some ⟨b4, 0, none⟩)].toArray w fun v w' => v = .int .i64 (nextL s l i : Int) ∧ Ext w w' := by
  refine Rt.enter3 Try.func178 Try.ntmps178 rfl rfl ?_
  (repeat (first | (apply WL.add; rfl; rfl; rfl; rfl; omega; omega) | (apply WL.pure; rfl; rfl; rfl) | (apply WL.nil) | (apply EX.thenN) | (apply CW.seq) | (apply CW.region) | (apply WL.ld; rfl; rfl; rfl; assumption; rfl)))
  unfold nextL
  refine CW.cond rfl (fun h => ?_) (fun h => ?_)
  · have h : i + 1 = s.length + l.length := by simp at h; omega
    rw [if_pos h]
    (repeat (first | (apply WL.pure; rfl; rfl; rfl) | (apply WL.nil) | (apply EX.thenN) | (apply CW.seq) | (apply CW.region) | (apply WL.lenS; rfl; rfl; rfl) | (apply WL.ld; rfl; rfl; rfl; assumption; rfl) | (apply CW.ret) | (apply EX.thenR)))
    exact EX.ret1 rfl rfl ⟨rfl, Ext.refl _⟩
  · have h : ¬ i + 1 = s.length + l.length := by simp at h; omega
    rw [if_neg h]
    (repeat (first | (apply WL.add; rfl; rfl; rfl; rfl; omega; omega) | (apply WL.pure; rfl; rfl; rfl) | (apply WL.nil) | (apply EX.thenN) | (apply CW.seq) | (apply CW.region) | (apply CW.ret) | (apply CW.skip)))
    exact EX.ret1 rfl rfl ⟨rfl, Ext.refl _⟩
def rounds (s l : List Nat) (k n : Int) (ks : List (List Bool)) : Nat → List Bool → List Bool
  | 0, o => o
  | m + 1, o => rounds s l k n ks m (roundR s l k n ks (s.length + l.length) o)
theorem lat_app {s l : List Nat} {i : Nat} (h : i < (s ++ l).length) : (s ++ l)[i] = lat s l i := by
  unfold lat
  rw [List.length_append] at h
  split
  · rename_i h1
    rw [List.getElem_append_left h1, List.getD_eq_getElem?_getD, List.getElem?_eq_getElem h1]; rfl
  · rename_i h1
    rw [List.getElem_append_right (by omega), Nat.mod_eq_of_lt (by omega), List.getD_eq_getElem?_getD, List.getElem?_eq_getElem (by omega)]; rfl
set_option maxHeartbeats 4000000 in
theorem rholds_ok : ∀ (m : Nat) (t : Ltl), t.nodes ≤ m → wfT t → ∀ (w : World) (F : Nat → Prop) (ao : Option Addr) (cap : Nat) (so lo : Option Addr) (sc lc : Nat) (s l : List Nat), Sl w F ao cap t.kids → Sl w F so sc s → Sl w F lo lc l → (∀ b, F b → b < w.heap.size) → s.length ≤ 60000 → l.length ≤ 60000 → 0 < l.length →
    Rt Try.prog 125 [ltlV t.k t.n ao t.kids.length cap, .slice so s.length sc, .slice lo l.length lc].toArray w fun v w' => Own w' w.heap.size 4 Non v (holdsL s l t) ∧ Ext w w'
  | 0, t, hm => by have := t.nodes_pos; omega
  | m + 1, .mk k n kids, hm => by
    intro hwf w F ao cap so lo sc lc s l hkids hs hl hF hs6 hl6 h0
    simp only [Ltl.kids, Ltl.k, Ltl.n] at *
    simp only [wfT] at hwf
    obtain ⟨hkk, hn0, hn63, hn3, hwk⟩ := hwf
    have hlen := hkids.len63
    refine Rt.enter3 Try.func125 Try.ntmps125 rfl rfl ?_
    (repeat (first | (apply CW.seq) | (apply CW.region)))
    refine WL.boxB rfl rfl rfl fun w1 hf hE1 => ?_
    refine WL.boxB rfl rfl rfl fun w2 hw hE2 => ?_
    have hf := hf.ext hE2
    have hE2 := hE1.trans hE2
    have hwl := hw.lt
    (repeat (first | (apply WL.pure; rfl; rfl; rfl) | (apply WL.nil) | (apply EX.thenN) | (apply CW.seq) | (apply CW.region) | (apply WL.ld; rfl; rfl; rfl; assumption; rfl)))
    refine WL.call rfl rfl rfl (clone_u64 w2 (F := F) (hs.mono (fun b hb => hE2.block b (hF b hb)) fun _ h => h) (fun b hb => Nat.lt_of_lt_of_le (hF b hb) hE2.size) (by omega)) ?_
    rintro cv w3 ⟨hoc, hE23⟩
    have hE3 := hE2.trans hE23
    (repeat (apply WL.pure; rfl; rfl; rfl))
    refine WL.app (F := Non) rfl rfl rfl rfl hoc (hl.mono (fun b hb => hE3.block b (hF b hb)) fun _ h => h).srcN hE23.size (fun _ h => h.elim) (by unfold maxLen; omega) (by omega) (fun wv w4 how hg4 _ => ?_)
    have hE24 : Ext w2 w4 := hE23.grown hg4 hE23.size (fun b hb => (hoc.lt b hb).1)
    obtain ⟨wo, wc, rfl, hws⟩ := (how.slF (F' := fun b => b < w4.heap.size ∧ w2.heap.size ≤ b) (fun _ h => h.elim) (fun g hg => ⟨(how.lt g hg).2.1, (how.lt g hg).1⟩))
    clear hoc how hg4 hE3 hE23
    (repeat (first | (apply WL.pure; rfl; rfl; rfl) | (apply WL.nil) | (apply EX.thenN) | (apply CW.seq) | (apply CW.region) | (apply WL.lenS; rfl; rfl; rfl)))
    rw [show (((s ++ l).length : Nat) : Int) = ((s.length + l.length : Nat) : Int) by rw [List.length_append]]
    generalize hNN : s.length + l.length = N at *
    have hsl : (s ++ l).length = N := by rw [List.length_append]; exact hNN
    refine WL.alloc rfl rfl (fun w5 hb8 hE5 => ?_)
    refine WL.st rfl rfl rfl hb8 rfl rfl (ones_of rfl) (fun w6 hb8 hgr6 => ?_)
    have hE46 : Ext w4 w6 := hE5.grown hgr6 hE5.size (fun g hg => by cases hg; exact Nat.le_refl _)
    have hE26 := hE24.trans hE46
    have hE6 := hE2.trans hE26
    have hf := hf.ext hE26
    have hw := hw.ext hE26
    have hws := hws.mono (F' := fun b => b < w4.heap.size ∧ w2.heap.size ≤ b) (fun b hb => hE46.block b hb.1) (fun _ h => h)
    have z46 := hE46.size
    have z24 := hE24.size
    clear hE5 hgr6 hE46 hE24
    (repeat (first | (apply WL.pure; rfl; rfl; rfl) | (apply WL.nil) | (apply EX.thenN) | (apply CW.seq) | (apply CW.region) | (apply WL.lenS; rfl; rfl; rfl) | (apply WL.makeFunc; rfl; rfl; rfl; rfl) | (apply WL.fa; rfl; rfl; rfl) | (apply WL.ld; rfl; rfl; rfl; assumption; rfl) | (apply CW.block)))
    refine CW.loop (S := Nat × Value) (fun x => [(2, .slice lo l.length lc), (3, .pointer (some ⟨w.heap.size, 0, none⟩)), (4, .pointer (some ⟨w1.heap.size, 0, none⟩)), (7, .slice wo (s ++ l).length wc), (8, .pointer (some ⟨w4.heap.size, 0, none⟩)), (9, .func (.func 178) #[] #[.pointer (some ⟨w4.heap.size, 0, none⟩), .pointer (some ⟨w1.heap.size, 0, none⟩)]), (10, x.2), (25, .slice ao kids.length cap), (26, .int .i64 (kids.length : Int)), (27, .int .i64 (x.1 : Int))])
      (fun x w' => Ext w6 w' ∧ x.1 ≤ kids.length ∧ ∃ G, Own w' w6.heap.size 97 G x.2 (holdsLs s l (kids.take x.1)) ∧ (∀ b, G b → b < w'.heap.size) ∧ ∀ b, G b → w6.heap.size ≤ b) (fun x => kids.length - x.1) (0, .slice none 0 0) (by repeat (first | exact trivial | refine ⟨rfl, ?_⟩)) ⟨Ext.refl _, by omega, Non, Own.nil, fun _ h => h.elim, fun _ h => h.elim⟩ ?_
    rintro ⟨i, v7⟩ w7 ⟨hE7, hi, G, ho7, hG, hGl⟩
    simp only at ho7 hi
    have hE7' := hE6.trans hE7
    have hk7 := hkids.mono (fun b hb => hE7'.block b (hF b hb)) fun _ h => h
    have hF7 : ∀ b, F b → b < w7.heap.size := fun b hb => Nat.lt_of_lt_of_le (hF b hb) hE7'.size
    have hkl : kids.length ≤ 2 := by have := kidsK_cases k; omega
    have hw7 := hw.ext hE7
    have hf7 := hf.ext hE7
    have hb87 := hb8.ext hE7
    (repeat (first | (apply WL.pure; rfl; rfl; rfl) | (apply WL.nil) | (apply EX.thenN) | (apply CW.seq) | (apply CW.region)))
    refine CW.cond rfl (fun h => ?_) (fun h => ?_) <;> simp at h
    · (repeat (first | (apply EX.thenN) | (apply CW.seq) | (apply CW.region) | (apply CW.block) | (apply CW.skip)))
      refine WL.elemN rfl rfl rfl rfl rfl hk7 h (fun _ => rfl) (fun u q hu => ?_)
      have hnode : (kids[i]).nodes ≤ m := by
        have := Ltl.nodes_kid kids _ (List.getElem_mem h)
        simp only [Ltl.nodes] at hm; omega
      have hwx := wfTs_get kids i h hwk
      have htk := holdsLs_take s l kids i h
      generalize kids[i] = x at *
      obtain ⟨ao', cap', rfl, hx⟩ := hu.ltl
      refine WL.alloc rfl rfl (fun w8 hb12 hE8 => ?_)
      refine WL.st rfl rfl rfl hb12 rfl rfl (ones_of rfl) (fun w9 hb12 hgr9 => ?_)
      have hE79 : Ext w7 w9 := hE8.grown hgr9 hE8.size (fun g hg => by cases hg; exact Nat.le_refl _)
      have hE69 := hE7.trans hE79
      have hE9 := hE7'.trans hE79
      have hw9 := hw7.ext hE79
      have ho9 := ho7.ext hE79 hG
      (repeat (first | (apply WL.pure; rfl; rfl; rfl) | (apply WL.nil) | (apply EX.thenN) | (apply CW.region) | (apply WL.ld; rfl; rfl; rfl; assumption; rfl) | (apply WL.ldA; rfl; rfl; rfl; assumption; rfl)))
      refine WL.call rfl rfl rfl (rholds_ok m x hnode hwx w9 F ao' cap' so lo sc lc s l (hx.mono (fun b hb => hE79.block b (hF7 b hb)) fun _ h => h) (hs.mono (fun b hb => hE9.block b (hF b hb)) fun _ h => h) (hl.mono (fun b hb => hE9.block b (hF b hb)) fun _ h => h) (fun b hb => Nat.lt_of_lt_of_le (hF b hb) hE9.size) hs6 hl6 h0) ?_
      rintro u w10 ⟨hou, hE910⟩
      have hE10 := hE69.trans hE910
      have hG9 : ∀ b, G b → b < w9.heap.size := fun b hb => Nat.lt_of_lt_of_le (hG b hb) hE79.size
      have ho10 := ho9.ext hE910 hG9
      have ho11 : Own w10 w6.heap.size 97 (fun b => G b ∨ u.ownBlock = some b) v7 (holdsLs s l (kids.take i)) := by
        refine ho10.wk (fun b hb => .inl hb) (fun g hg h => ?_)
        rcases h with h | h
        · exact (ho10.lt g hg).2.2 h
        · have h1 := (ho9.lt g hg).2.1
          have h2 := (hou.lt g h).1
          omega
      have hru : Rd w10 (fun b => G b ∨ u.ownBlock = some b) u (holdsL s l x) := hou.rd.mono (fun _ _ => rfl) (fun b hb => hb.elim (fun h => h.elim) .inr)
      have hGG : ∀ b, (G b ∨ u.ownBlock = some b) → b < w10.heap.size := by
        rintro b (hb | hb)
        · exact Nat.lt_of_lt_of_le (hG9 b hb) hE910.size
        · exact (hou.lt b hb).2.1
      skip
      refine WL.app1 (α := List Bool) (yv := holdsL s l x) rfl rfl (fun _ => rfl) rfl rfl (fun _ => rfl) ho11 hru hE10.size hGG (by show 1 ≤ 16777216; decide) (by rw [holdsLs_len, List.length_take]; unfold maxLen; omega) (by rw [holdsLs_len, List.length_take]; omega) (fun v' w11 p ho12 hgr11 _ => ?_)
      have hE11 : Ext w6 w11 := hE10.grown hgr11 hE10.size (fun g hg => (ho11.lt g hg).1)
      (repeat (first | (apply WL.add; rfl; rfl; rfl; rfl; omega; omega) | (apply WL.pure; rfl; rfl; rfl) | (apply WL.nil) | (apply EX.thenN) | (apply CW.region) | (apply EX.inN)))
      refine EX.back (i + 1, v') (by repeat (first | exact trivial | refine ⟨rfl, ?_⟩)) ⟨hE11, by simp only; omega, _, by rw [← htk] at ho12; exact ho12, fun b hb => Nat.lt_of_lt_of_le (hGG b hb) hgr11.size, fun b hb => hb.elim (hGl b) (fun h => Nat.le_trans hE69.size (hou.lt b h).1)⟩ (by simp only; omega)
    · have hik : i = kids.length := by omega
      subst hik
      rw [List.take_length] at ho7
      have hksl := holdsLs_len s l kids
      have hklen := holdsLs_lens (s := s) (l := l) kids hwk
      have hrep := repK_comb (s := s) (l := l) (k := k) (n := n) (ks := holdsLs s l kids) h0 (by rw [hkk, hksl]) hklen
      simp only [holdsL]
      rw [← hrep]
      rw [hNN] at hklen
      rw [← hksl] at hkk
      have hlt7 := fun g hg => (ho7.lt g hg)
      generalize holdsLs s l kids = ks at *
      obtain ⟨ko, kc, rfl, hks⟩ := ho7.slF (F' := fun b => w6.heap.size ≤ b ∧ b < w7.heap.size) (fun b hb => ⟨hGl b hb, hG b hb⟩) (fun g hg => ⟨(hlt7 g hg).1, (hlt7 g hg).2.1⟩)
      clear ho7 hlt7
      (repeat (first | (apply EX.thenN) | (apply CW.seq) | (apply CW.region) | (apply WL.ld; rfl; rfl; rfl; assumption; rfl) | (apply CW.exit) | (apply EX.thenX) | (apply EX.inX)))
      refine WL.make (α := Bool) (x0 := false) (bytes := 1) rfl rfl rfl rfl (by omega) (by unfold maxLen; omega) (fun w8 hout hgr => ?_)
      have hE78 : Ext w7 w8 := (Ext.refl w7).grown hgr (Nat.le_refl _) (fun k h => by cases h)
      have hf8 := hf7.ext hE78
      have hw8 := hw7.ext hE78
      have hb88 := hb87.ext hE78
      have hE68 := hE7.trans hE78
      have z67 := hE7.size
      generalize hov : Value.slice (some ⟨w7.heap.size, 0, none⟩) N N = ov at *
      have hovb : ∀ g, ov.ownBlock = some g → w7.heap.size ≤ g := fun g hg => (hout.lt g hg).1
      clear hgr hf7 hw7 hb87 hE7' hF7 hk7
      (repeat (apply WL.pure; rfl; rfl; rfl))
      apply WL.nil
      apply EX.thenN
      refine CW.cut [(2, .slice lo l.length lc), (3, .pointer (some ⟨w.heap.size, 0, none⟩)), (4, .pointer (some ⟨w1.heap.size, 0, none⟩)), (7, .slice wo (s ++ l).length wc), (8, .pointer (some ⟨w4.heap.size, 0, none⟩)), (9, .func (.func 178) #[] #[.pointer (some ⟨w4.heap.size, 0, none⟩), .pointer (some ⟨w1.heap.size, 0, none⟩)]), (10, .slice ko ks.length kc), (13, ov), (14, .bool (greatB k))] ?_ ?_
      · (repeat (first | (apply WL.pure; rfl; rfl; rfl) | (apply CW.region) | (apply WL.fa; rfl; rfl; rfl) | (apply WL.ld; rfl; rfl; rfl; assumption; rfl)))
        by_cases h9 : k = 9
        · subst h9
          (repeat (first | (apply WL.pure; rfl; rfl; rfl) | (apply WL.nil) | (apply WL.pass; rfl; rfl)))
          exact EX.cut (by repeat (first | exact trivial | refine ⟨rfl, ?_⟩))
        · have h9' : (k == 9) = false := by simpa using h9
          rw [h9', show greatB k = (k == 11) by unfold greatB; rw [h9']; rfl]
          (repeat (first | (apply WL.pure; rfl; rfl; rfl) | (apply WL.nil) | (apply WL.fa; rfl; rfl; rfl) | (apply WL.ld; rfl; rfl; rfl; assumption; rfl)))
          exact EX.cut (by repeat (first | exact trivial | refine ⟨rfl, ?_⟩))
      (repeat (first | (apply WL.pure; rfl; rfl; rfl) | (apply WL.nil) | (apply EX.thenN) | (apply CW.seq) | (apply CW.region) | (apply CW.block) | (refine WL.lenO rfl rfl rfl (by assumption) ?_)))
      rw [List.length_replicate]
      refine CW.loop (S := Nat × List Bool) (fun x => [(2, .slice lo l.length lc), (3, .pointer (some ⟨w.heap.size, 0, none⟩)), (4, .pointer (some ⟨w1.heap.size, 0, none⟩)), (7, .slice wo (s ++ l).length wc), (8, .pointer (some ⟨w4.heap.size, 0, none⟩)), (9, .func (.func 178) #[] #[.pointer (some ⟨w4.heap.size, 0, none⟩), .pointer (some ⟨w1.heap.size, 0, none⟩)]), (10, .slice ko ks.length kc), (13, ov), (14, .bool (greatB k)), (50, .int .i64 (N : Int)), (51, .int .i64 (x.1 : Int))])
        (fun x w' => x.1 ≤ N ∧ x.2.length = N ∧ (∀ j (h : j < x.2.length), j < x.1 → x.2[j] = greatB k) ∧ Own w' w7.heap.size 4 Non ov x.2 ∧ Ext w7 w') (fun x => N - x.1) (0, List.replicate N false) (by repeat (first | exact trivial | refine ⟨rfl, ?_⟩)) ⟨Nat.zero_le _, by simp, fun j _ h => absurd h (by omega), hout, hE78⟩ ?_
      clear hout hE78 hf8 hw8 hb88 hE68
      rintro ⟨i, xs⟩ w9 ⟨hi, hxl, hxs, ho, hE9⟩
      dsimp only at hi hxl hxs ho ⊢
      have hE69 := hE7.trans hE9
      (repeat (first | (apply WL.pure; rfl; rfl; rfl) | (apply WL.nil) | (apply EX.thenN) | (apply CW.seq) | (apply CW.region)))
      refine CW.cond rfl (fun h => ?_) (fun h => ?_) <;> simp at h
      · (repeat (first | (apply WL.pure; rfl; rfl; rfl) | (apply WL.nil) | (apply EX.thenN) | (apply CW.seq) | (apply CW.region) | (apply CW.block) | (apply CW.skip)))
        refine WL.setN (α := Bool) (i := i) (yv := greatB k) rfl rfl rfl rfl ho (by omega) (fun _ => rfl) (fun _ => rfl) (Rd.mkBool _ _ _) (fun w10 p ho10 hg10 => ?_)
        (repeat (first | (apply WL.add; rfl; rfl; rfl; rfl; omega; omega) | (apply WL.pure; rfl; rfl; rfl) | (apply WL.nil) | (apply EX.thenN) | (apply CW.region) | (apply EX.inN)))
        refine EX.back (i + 1, xs.set i (greatB k)) (by repeat (first | exact trivial | refine ⟨rfl, ?_⟩)) ⟨by dsimp only; omega, by simpa using hxl, fun j hj hji => ?_, ho10, hE9.grown hg10 hE9.size hovb⟩ (by dsimp only; omega)
        dsimp only at hj hji ⊢
        rw [List.getElem_set]
        split
        · rfl
        · exact hxs j (by simpa using hj) (by omega)
      obtain rfl : i = N := by omega
      obtain rfl : xs = List.replicate i (greatB k) := by
        refine List.ext_getElem (by simpa using hxl) fun j h1 h2 => ?_
        rw [hxs j h1 (by omega), List.getElem_replicate]
      have hR : rounds s l k n ks 2 (List.replicate i (greatB k)) = repK s l k n ks := by
        unfold rounds rounds rounds repK
        rw [hNN]
      generalize repK s l k n ks = R at *
      generalize List.replicate i (greatB k) = o0 at *
      clear hxs hrep
      (repeat (first | (apply WL.pure; rfl; rfl; rfl) | (apply WL.nil) | (apply EX.thenN) | (apply CW.seq) | (apply CW.region) | (apply CW.block) | (apply CW.exit) | (apply EX.thenX) | (apply EX.inX)))
      refine CW.loop (S := Nat × List Bool) (fun x => [(2, .slice lo l.length lc), (3, .pointer (some ⟨w.heap.size, 0, none⟩)), (4, .pointer (some ⟨w1.heap.size, 0, none⟩)), (7, .slice wo (s ++ l).length wc), (8, .pointer (some ⟨w4.heap.size, 0, none⟩)), (9, .func (.func 178) #[] #[.pointer (some ⟨w4.heap.size, 0, none⟩), .pointer (some ⟨w1.heap.size, 0, none⟩)]), (10, .slice ko ks.length kc), (13, ov), (59, .int .i64 (x.1 : Int))])
        (fun x w' => x.1 ≤ 2 ∧ x.2.length = i ∧ rounds s l k n ks (2 - x.1) x.2 = R ∧ Own w' w7.heap.size 4 Non ov x.2 ∧ Ext w7 w') (fun x => 2 - x.1) (0, o0) (by repeat (first | exact trivial | refine ⟨rfl, ?_⟩)) ⟨Nat.zero_le _, hxl, hR, ho, hE9⟩ ?_
      clear ho hE9 hE69 hxl hR
      rintro ⟨j, o1⟩ w9 ⟨hj, hol, hR, ho, hE9⟩
      dsimp only at hj hol hR ho ⊢
      have hE69 := hE7.trans hE9
      have hb89 := hb8.ext hE69
      (repeat (first | (apply WL.pure; rfl; rfl; rfl) | (apply WL.nil) | (apply EX.thenN) | (apply CW.seq) | (apply CW.region)))
      refine CW.cond rfl (fun h => ?_) (fun h => ?_) <;> simp at h
      · (repeat (first | (apply WL.sub'; rfl; rfl; rfl; rfl; omega; omega) | (apply WL.pure; rfl; rfl; rfl) | (apply WL.nil) | (apply EX.thenN) | (apply CW.seq) | (apply CW.region) | (apply WL.ld; rfl; rfl; rfl; assumption; rfl) | (apply CW.block) | (apply CW.skip)))
        rw [show 2 - j = (2 - (j + 1)) + 1 by omega, rounds, hNN] at hR
        generalize hR1 : roundR s l k n ks i o1 = o2 at *
        refine CW.loop (S := Nat × List Bool) (fun x => [(2, .slice lo l.length lc), (3, .pointer (some ⟨w.heap.size, 0, none⟩)), (4, .pointer (some ⟨w1.heap.size, 0, none⟩)), (7, .slice wo (s ++ l).length wc), (8, .pointer (some ⟨w4.heap.size, 0, none⟩)), (9, .func (.func 178) #[] #[.pointer (some ⟨w4.heap.size, 0, none⟩), .pointer (some ⟨w1.heap.size, 0, none⟩)]), (10, .slice ko ks.length kc), (13, ov), (59, .int .i64 (j : Int)), (16, .int .i64 ((x.1 : Int) - 1))])
          (fun x w' => x.1 ≤ i ∧ x.2.length = i ∧ roundR s l k n ks x.1 x.2 = o2 ∧ Own w' w7.heap.size 4 Non ov x.2 ∧ Ext w7 w') (fun x => x.1) (i, o1) (by repeat (first | exact trivial | refine ⟨rfl, ?_⟩)) ⟨Nat.le_refl _, hol, hR1, ho, hE9⟩ ?_
        clear ho hE9 hE69 hb89 hR1 hol
        rintro ⟨x, o3⟩ w9 ⟨hx, hol, hR1, ho, hE9⟩
        dsimp only at hx hol hR1 ho ⊢
        have hE69 := hE7.trans hE9
        have hb89 := hb8.ext hE69
        have hw9 := hw.ext hE69
        have hf9 := hf.ext hE69
        have z79 := hE9.size
        have hws9 := (hws.mono (F' := Old w9) (fun b hb => hE69.block b (by omega)) (fun b hb => (show b < w9.heap.size by omega)))
        have hks9 := (hks.mono (F' := Old w9) (fun b hb => hE9.block b hb.2) (fun b hb => (show b < w9.heap.size by omega)))
        (repeat (first | (apply WL.pure; rfl; rfl; rfl) | (apply WL.nil) | (apply EX.thenN) | (apply CW.seq) | (apply CW.region)))
        refine CW.cond rfl (fun h => ?_) (fun h => ?_) <;> simp at h
        · obtain ⟨y, rfl⟩ : ∃ y, x = y + 1 := ⟨x - 1, by omega⟩
          have hy : y < i := by omega
          have hny := nextL_lt (s := s) h0 (show y < s.length + l.length by omega)
          rw [hNN] at hny
          rw [show (((y + 1 : Nat) : Int) - 1) = (y : Int) by omega]
          rw [roundR] at hR1
          have hlat := lat_app (s := s) (l := l) (i := y) (by omega)
          obtain ⟨po, pc, hpv, hos⟩ := ho.oldN.sl
          have hnx : nextL s l y < o3.length := by omega
          have hgo : o3.getD (nextL s l y) false = o3[nextL s l y] := by rw [List.getD_eq_getElem?_getD, List.getElem?_eq_getElem hnx]; rfl
          have hSE : ∀ z, (fun z : World => Ext w9 z) z → Ext w9 z := fun _ h => h
          (repeat (first | (apply EX.thenN) | (apply CW.seq) | (apply CW.block) | (apply CW.skip)))
          refine CW.drawE (fun z : World => Ext w9 z) [(0, true), (1, true), (2, true), (3, true), (4, true), (5, true), (6, true), (7, true), (8, true), (9, true), (10, true), (11, true), (15, true), (16, true), (12, false), (13, true), (14, true), (17, false), (18, false), (19, true)] 20 mixed (by kernel_rfl) (Ext.drew w9) ?_
          (repeat (first | (apply HL.pure; rfl; rfl; rfl; rfl) | (refine HL.ldA (by assumption) rfl rfl rfl rfl (by assumption) rfl ?_)))
          refine HL.elemN (α := Nat) (k := y) hSE rfl rfl rfl rfl rfl rfl rfl (fun _ h => h) hws9 (by omega) (fun _ => rfl) (fun u q hu => ?_)
          obtain ⟨rfl, hlt⟩ := hu.u64
          rw [hlat] at hlt ⊢
          (repeat (apply HL.pure; rfl; rfl; rfl; rfl))
          have hd := Ext.drew w9
          refine HL.mut rfl (WL.callV (fv := []) rfl rfl rfl rfl (rpnext_ok (drew w9) w4.heap.size w1.heap.size (s := s) (l := l) hNN.symm (by omega) (hb89.ext hd) (hw9.ext hd) hy) ?_)
          rintro _ w10 ⟨rfl, e10⟩
          have e10 := hd.trans e10
          refine WL.nil (EX.mut e10 ?_)
          skip
          rw [hpv]
          refine HL.elemN (α := Bool) (k := nextL s l y) hSE rfl rfl rfl rfl rfl rfl rfl (fun _ h => h) hos hnx (fun _ => rfl) (fun u q hu => ?_)
          obtain rfl := hu.bool
          rw [← hpv]
          skip
          refine HL.mut rfl (WL.callV (fv := []) rfl rfl rfl rfl (rpnext_ok w10 w4.heap.size w1.heap.size (s := s) (l := l) hNN.symm (by omega) (hb89.ext e10) (hw9.ext e10) hy) ?_)
          rintro _ w11 ⟨rfl, e11⟩
          have e11 := e10.trans e11
          refine WL.nil (EX.mut e11 ?_)
          skip
          refine HL.mut rfl (WL.call rfl rfl rfl (rat_ok w11 (F := Old w11) (N := i) (hks9.up e11) hkk hklen (fun _ h => h) hy hny hlt hn0) ?_)
          rintro _ w12 ⟨rfl, e12⟩
          have e12 := e11.trans e12
          refine WL.nil (EX.mut e12 ?_)
          skip
          have ho12 := ho.extN e12
          refine HL.setTail (α := Bool) (k := y) (yv := atC k n ks y (lat s l y) o3[nextL s l y] (nextL s l y)) rfl rfl rfl rfl rfl rfl ho12 (by omega) (fun _ => rfl) (fun _ => rfl) (Rd.mkBool _ _ _) (fun w13 q ho13 hg13 => ?_)
          have e13 : Ext w7 w13 := (hE9.trans e12).grown hg13 (hE9.trans e12).size hovb
          have hat : atS s l k n ks y o3 = atC k n ks y (lat s l y) o3[nextL s l y] (nextL s l y) := by unfold atS; rw [hgo]
          rw [← hat] at ho13
          (repeat (first | (apply WL.sub'; rfl; rfl; rfl; rfl; omega; omega) | (apply WL.pure; rfl; rfl; rfl) | (apply WL.nil) | (apply EX.thenN) | (apply CW.region) | (apply EX.inN)))
          exact EX.back (y, o3.set y (atS s l k n ks y o3)) (by repeat (first | exact trivial | refine ⟨rfl, ?_⟩)) ⟨by dsimp only; omega, by simpa using hol, hR1, ho13, e13⟩ (by dsimp only; omega)
        · obtain rfl : x = 0 := by omega
          rw [roundR] at hR1
          subst hR1
          (repeat (first | (apply WL.add; rfl; rfl; rfl; rfl; omega; omega) | (apply WL.pure; rfl; rfl; rfl) | (apply WL.nil) | (apply EX.thenN) | (apply CW.region) | (apply EX.inN) | (apply CW.exit) | (apply EX.thenX) | (apply EX.inX)))
          exact EX.back (j + 1, o3) (by repeat (first | exact trivial | refine ⟨rfl, ?_⟩)) ⟨by dsimp only; omega, hol, hR, ho, hE9⟩ (by dsimp only; omega)
      · obtain rfl : j = 2 := by omega
        rw [show 2 - 2 = 0 from rfl, rounds] at hR
        subst hR
        (repeat (first | (apply WL.pure; rfl; rfl; rfl) | (apply WL.nil) | (apply EX.thenN) | (apply CW.seq) | (apply CW.region) | (apply CW.exit) | (apply EX.thenX) | (apply EX.inX) | (apply CW.ret)))
        exact EX.ret1 rfl rfl ⟨ho.low (by have := hE6.size; omega), (hE6.trans hE7).trans hE9⟩
end Go.Proofs.Ytadbkppgaekmpaa
/-
  Package replay: Proves: walked.
-/
set_option linter.unusedVariables false
set_option linter.unusedSimpArgs false
namespace Go.Proofs.Ytadbkppgaekmpaa
open Go.RowKit

theorem oneE_lt {p : LProc} {m : List Int} {k : Int} (h : (oneE p m k).2 = 0) : k < 0 ∨ k < (stepsL p).length := by
  unfold oneE at h
  split at h
  · exact .inr (fireE_ok h).2.2.1
  · rename_i g
    exact .inl (by omega)
theorem okM_lt {p : LProc} : ∀ (l m : List Int), okM p m l → ∀ k ∈ l, k < (stepsL p).length
  | [], m, _, k, hk => by simp at hk
  | x :: r, m, h, k, hk => by
    rcases List.mem_cons.1 hk with rfl | hk
    · rcases oneE_lt h.1 with g | g <;> omega
    · exact okM_lt r _ h.2 k hk
set_option maxHeartbeats 1000000 in
theorem Proves_ok (w0 : World) {so fo ao bo to : Option Addr} {sc fc ac bc tc : Nat} {hb : Bool} {ns : List LNode} {fl : List LFlow} {s l : List Int} {t : Ltl} (hs : Sl w0 (Old w0) so sc ns) (hf : Sl w0 (Old w0) fo fc fl) (hst : Sl w0 (Old w0) ao ac s) (hlp : Sl w0 (Old w0) bo bc l) (ht : Sl w0 (Old w0) to tc t.kids) :
    Rt Try.prog 59 [procV so sc fo fc ns.length fl.length, verdV hb ao ac bo bc s l, ltlV t.k t.n to t.kids.length tc].toArray w0 fun v w' => v = .tuple ⟨[.bool (provesE (ns, fl) s l t).1, .int .i64 (provesE (ns, fl) s l t).2]⟩ ∧ Ext w0 w' := by
  refine Rt.enter3 Try.func59 Try.ntmps59 rfl rfl ?_
  have hE := Ext.refl w0
  (repeat (first | (apply CW.seq) | (apply CW.region)))
  refine WL.boxB rfl rfl rfl fun w1 hb3 e1 => ?_
  have hE := hE.trans e1
  skip
  refine WL.boxB rfl rfl rfl fun w2 hb4 e2 => ?_
  have hb3 := hb3.ext e2
  have hE := hE.trans e2
  skip
  refine WL.boxB rfl rfl rfl fun w3 hb5 e3 => ?_
  have hb3 := hb3.ext e3
  have hb4 := hb4.ext e3
  have hE := hE.trans e3
  (repeat (first | (apply WL.pure; rfl; rfl; rfl) | (apply WL.nil) | (apply EX.thenN) | (apply CW.seq) | (apply CW.region) | (apply WL.ldA; rfl; rfl; rfl; assumption; rfl)))
  refine WL.call rfl rfl rfl (Frames_ok w3 (hs.up hE) (hf.up hE) (hst.up hE) (hlp.up hE)) ?_
  rintro _ w4 ⟨mv, rfl, hm, e4⟩
  have hb3 := hb3.ext e4
  have hb4 := hb4.ext e4
  have hb5 := hb5.ext e4
  have hE := hE.trans e4
  unfold provesE
  by_cases hz : (framesE (ns, fl) s l).2 = 0
  case neg =>
    have hz1 : ((framesE (ns, fl) s l).2 != 0) = true := by simpa using hz
    rw [if_pos hz]
    (repeat (first | (apply WL.pure; rfl; rfl; rfl) | (apply WL.nil) | (apply EX.thenN) | (apply CW.seq) | (apply CW.region)))
    rw [hz1]
    (repeat (first | (apply WL.pure; rfl; rfl; rfl) | (apply WL.nil) | (apply EX.thenN) | (apply CW.seq) | (apply CW.region) | (apply CW.condT; rfl) | (apply CW.ret) | (apply EX.thenR)))
    exact EX.ret2 rfl rfl rfl ⟨rfl, hE⟩
  rw [if_neg (by simp [hz]), hz]
  (repeat (first | (apply WL.pure; rfl; rfl; rfl) | (apply WL.nil) | (apply EX.thenN) | (apply CW.seq) | (apply CW.region) | (apply WL.ldA; rfl; rfl; rfl; assumption; rfl) | (apply CW.condF; rfl) | (apply CW.skip)))
  refine WL.call rfl rfl rfl (ltlCheck w4 (ht.up hE) (fun _ h => h)) ?_
  rintro _ w5 ⟨rfl, e5⟩
  have hb3 := hb3.ext e5
  have hb4 := hb4.ext e5
  have hb5 := hb5.ext e5
  have hE := hE.trans e5
  by_cases hc : (chkF t 1 0).1 = 0
  case neg =>
    have hz1 : ((chkF t 1 0).1 != 0) = true := by simpa using hc
    rw [if_pos hc]
    (repeat (first | (apply WL.pure; rfl; rfl; rfl) | (apply WL.nil) | (apply EX.thenN) | (apply CW.seq) | (apply CW.region)))
    rw [hz1]
    (repeat (first | (apply WL.pure; rfl; rfl; rfl) | (apply WL.nil) | (apply EX.thenN) | (apply CW.seq) | (apply CW.region) | (apply CW.condT; rfl) | (apply CW.ret) | (apply EX.thenR)))
    exact EX.ret2 rfl rfl rfl ⟨rfl, hE⟩
  rw [if_neg (by simp [hc]), hc]
  have hok := framesE_ok hz
  have hwf := chkF_wf t 1 0 hc
  have hsz := hok.sz
  have hlt := okM_lt _ _ hok.ok
  obtain ⟨mo, mc, rfl, hms⟩ := hm.sl
  have hms := hms.up e5
  have hSE : ∀ z, (fun z : World => Ext w5 z) z → Ext w5 z := fun _ h => h
  have hK3 : ∀ z, (fun z : World => Ext w5 z) z → z.heap[w0.heap.size]? = w5.heap[w0.heap.size]? := fun z h => h.block _ hb3.lt
  (repeat (first | (apply WL.pure; rfl; rfl; rfl) | (apply WL.nil) | (apply EX.thenN) | (apply CW.seq) | (apply CW.region) | (apply CW.condF; rfl) | (apply CW.skip)))
  refine CW.drawH (fun z : World => Ext w5 z) [(0, true), (1, true), (2, true), (3, false), (4, true), (5, true), (6, true), (7, true), (8, true), (10, true), (11, true), (12, true), (9, false), (13, false), (14, false), (15, false), (16, false), (17, true), (18, true), (19, true), (20, true)] mixed (by kernel_rfl) (Ext.drew w5) ?_
  have hd := Ext.drew w5
  (repeat (first | (apply HL.pure; rfl; rfl; rfl; rfl) | (refine HL.ldA (by assumption) rfl rfl rfl rfl (by assumption) rfl ?_)))
  refine HL.mut rfl (WL.call rfl rfl rfl (rfair_ok (drew w5) ((hs.up hE).at hd) ((hf.up hE).at hd) ((hst.up hE).at hd) ((hlp.up hE).at hd) (hms.at hd) hok) ?_)
  rintro _ w6 ⟨rfl, e6⟩
  have e6 := hd.trans e6
  refine WL.nil (EX.mut e6 ?_)
  cases hfr : fairR (ns, fl) s l
  · (repeat (first | (apply HL.pure; rfl; rfl; rfl; rfl) | (apply HL.pass; rfl; rfl; rfl)))
    refine HL.passF rfl rfl rfl e6 (HL.passF rfl rfl rfl e6 (HL.passF rfl rfl rfl e6 (HL.passF rfl rfl rfl e6 (HL.passF rfl rfl rfl e6 ?_))))
    (repeat (first | (apply HL.pure; rfl; rfl; rfl; rfl) | (apply HL.pass; rfl; rfl; rfl) | (apply HL.nil)))
    (repeat (first | (apply EX.thenN) | (apply CW.ret)))
    exact EX.ret2 rfl rfl rfl ⟨rfl, hE.trans e6⟩
  (repeat (first | (apply HL.pure; rfl; rfl; rfl; rfl) | (refine HL.fa rfl rfl rfl rfl ?_) | (refine HL.ld (by assumption) rfl rfl rfl rfl (by assumption) rfl ?_) | (refine HL.ldA (by assumption) rfl rfl rfl rfl (by assumption) rfl ?_)))
  refine HL.mut rfl (WL.call rfl rfl rfl (letters_ok w6 (hs.up (hE.trans e6)) (hf.up (hE.trans e6)) (hst.up (hE.trans e6)) hok.z (fun k hk => hlt k (List.mem_append_left _ hk)) hsz.1) ?_)
  rintro lv w7 ⟨ho7, e7⟩
  have e7 := e6.trans e7
  refine WL.nil (EX.mut e7 ?_)
  skip
  refine HL.mut rfl (WL.call rfl rfl rfl (letters_ok w7 (hs.up (hE.trans e7)) (hf.up (hE.trans e7)) (hlp.up (hE.trans e7)) hok.z (fun k hk => hlt k (List.mem_append_right _ hk)) (by omega)) ?_)
  rintro lu w8 ⟨ho8, e78⟩
  have e8 := e7.trans e78
  refine WL.nil (EX.mut e8 ?_)
  skip
  obtain ⟨xo, xc, rfl, hx⟩ := (ho7.extN e78).oldN.sl
  obtain ⟨yo, yc, rfl, hy⟩ := ho8.oldN.sl
  have hll : (lettersR (ns, fl) l).length = l.length := by unfold lettersR; simp
  have hls : (lettersR (ns, fl) s).length = s.length := by unfold lettersR; simp
  refine HL.mut rfl (WL.call rfl rfl rfl (rholds_ok t.nodes t (Nat.le_refl _) hwf w8 (Old w8) to tc xo yo xc yc _ _ (ht.up (hE.trans e8)) hx hy (fun _ h => h) (by omega) (by omega) (by have := hok.l0; omega)) ?_)
  rintro hv w9 ⟨ho9, e9⟩
  have e9 := e8.trans e9
  refine WL.nil (EX.mut e9 ?_)
  skip
  have hhl := holdsL_len (s := lettersR (ns, fl) s) (l := lettersR (ns, fl) l) t hwf
  have h0 : 0 < (holdsL (lettersR (ns, fl) s) (lettersR (ns, fl) l) t).length := by have := hok.l0; omega
  obtain ⟨zo, zc, rfl, hzs⟩ := ho9.oldN.sl
  refine HL.elemM (α := Bool) (k := 0) e9 rfl rfl rfl rfl rfl rfl rfl hzs h0 (fun _ => rfl) (fun u q hu => ?_)
  obtain rfl := hu.bool
  rw [show (holdsL (lettersR (ns, fl) s) (lettersR (ns, fl) l) t).getD 0 false = (holdsL (lettersR (ns, fl) s) (lettersR (ns, fl) l) t)[0] by rw [List.getD_eq_getElem?_getD, List.getElem?_eq_getElem h0]; rfl]
  (repeat (first | (apply HL.pure; rfl; rfl; rfl; rfl) | (apply HL.nil)))
  (repeat (first | (apply EX.thenN) | (apply CW.ret)))
  exact EX.ret2 rfl rfl rfl ⟨rfl, hE.trans e9⟩
end Go.Proofs.Ytadbkppgaekmpaa
/-
  Drawn regions with a chain of changes of memory and one more change (e) that may come anywhere among them. Over any program.
-/
set_option linter.unusedVariables false
set_option linter.unusedSimpArgs false
namespace Go.Proofs.Ytadbkppgaekmpaa
open Go.RowKit

def chnB (ops : Array Oper) (e : Nat) (r : List (Nat × Bool)) : List Nat → Array Bool → Bool
  | [], listed => ordB ops ((e, false) :: r) listed
  | i :: c, listed => (Region.ready .any ops listed).all (fun j => j == i || j == e) && !(Region.ready .any ops listed).isEmpty && chnB ops e r c (listed.setIfInBounds i true) &&
      ordB ops ((i :: c).map (fun j => (j, false)) ++ r) (listed.setIfInBounds e true)
def ordChB (ops : Array Oper) (e : Nat) (c : List Nat) (r : List (Nat × Bool)) : List (Nat × Bool) → Array Bool → Bool
  | [], listed => chnB ops e r c listed
  | (i, true) :: s, listed => (Region.ready .any ops listed).contains i && Region.free .any ops listed i && ordChB ops e c r s (listed.setIfInBounds i true)
  | (i, false) :: s, listed => decide (Region.ready .any ops listed = [i]) && ordChB ops e c r s (listed.setIfInBounds i true)
def chainOk (l : List Oper) (s : List (Nat × Bool)) (e : Nat) (c : List Nat) (r : List (Nat × Bool)) : Bool :=
  Region.noSelect l.toArray && decide (s.length + (c.length + 1) + r.length = l.length) && ordChB l.toArray e c r s (Array.replicate l.length false)

def wpChain (P : Program) (ops : List Oper) (S : World → Prop) (Q : Act → World → Prop) (e : Nat) (r : List (Nat × Bool)) : List Nat → Act → World → Prop
  | [], a, w => wpHL P ops S Q ((e, false) :: r) a w
  | i :: c, a, w => (∃ o, ops[i]? = some o ∧ (if Region.wanted o (yielded ops.toArray a.tmps) = true then o.wp P a w (fun a' w' => S w' ∧ wpChain P ops S Q e r c a' w') (fun x a w => x = .normal ∧ Q a w) else S w ∧ wpChain P ops S Q e r c (a.put o.dst undef) w)) ∧
      wpHL P ops S Q ((e, false) :: ((i :: c).map (fun j => (j, false)) ++ r)) a w
theorem wpChain_sound {P : Program} {ops : List Oper} {S : World → Prop} {Q : Act → World → Prop} (hs : Region.noSelect ops.toArray = true) (e : Nat) (r : List (Nat × Bool)) :
    ∀ (c : List Nat) (listed : Array Bool) (a : Act) (w : World), chnB ops.toArray e r c listed = true → S w → wpChain P ops S Q e r c a w → wpAnyH P .any ops.toArray (fun x a w => x = .normal ∧ Q a w) S (r.length + (c.length + 1)) listed a w
  | [], listed, a, w, hB, hS, h => by
    have := wpHL_sound (Q := Q) hs ((e, false) :: r) listed a w hB hS h
    simpa using this
  | i :: c, listed, a, w, hB, hS, ⟨⟨o, ho, h⟩, ⟨oe, hoe, he⟩⟩ => by
    simp only [chnB, Bool.and_eq_true, List.all_eq_true, Bool.not_eq_true', List.isEmpty_eq_false_iff, Bool.or_eq_true, beq_iff_eq] at hB
    obtain ⟨⟨⟨hin, hne⟩, hrec⟩, hord⟩ := hB
    have hlen : r.length + ((i :: c).length + 1) = (r.length + (c.length + 1)) + 1 := by simp; omega
    rw [hlen]
    refine wpAnyH_all rfl hne ?_
    intro j hj
    by_cases hji : j = i
    · subst hji
      have ho' : ops.toArray[j]? = some o := by simpa using ho
      unfold wpOp
      simp only [ho']
      split
      · rename_i hw
        rw [if_pos hw] at h
        exact .inl (Oper.wp_mono (fun a' w' h' => ⟨h'.1, wpChain_sound hs e r c _ _ _ hrec h'.1 h'.2⟩) (wp_exits (fun x a w hne hf => absurd hf.1 hne) h))
      · rename_i hw
        rw [if_neg hw] at h
        exact ⟨h.1, wpChain_sound hs e r c _ _ _ hrec h.1 h.2⟩
    · have hje : j = e := (hin j hj).resolve_left hji
      subst hje
      have ho' : ops.toArray[j]? = some oe := by simpa using hoe
      have hl2 : ((i :: c).map (fun j => (j, false)) ++ r).length = r.length + (c.length + 1) := by simp; omega
      unfold wpOp
      simp only [ho']
      split
      · rename_i hw
        rw [if_pos hw] at he
        refine .inl (Oper.wp_mono (fun a' w' h' => ⟨h'.1, ?_⟩) (wp_exits (fun x a w hne hf => absurd hf.1 hne) he))
        have := wpHL_sound (Q := Q) hs _ _ a' w' hord h'.1 h'.2
        rw [hl2] at this
        exact this
      · rename_i hw
        rw [if_neg hw] at he
        refine ⟨he.1, ?_⟩
        have := wpHL_sound (Q := Q) hs _ _ _ w hord he.1 he.2
        rw [hl2] at this
        exact this
theorem wpHLCh_sound {P : Program} {ops : List Oper} {S : World → Prop} {Q : Act → World → Prop} (hs : Region.noSelect ops.toArray = true) (e : Nat) (c : List Nat) (r : List (Nat × Bool)) :
    ∀ (s : List (Nat × Bool)) (listed : Array Bool) (a : Act) (w : World), ordChB ops.toArray e c r s listed = true → S w → wpHL P ops S (fun a w => S w ∧ wpChain P ops S Q e r c a w) s a w → wpAnyH P .any ops.toArray (fun x a w => x = .normal ∧ Q a w) S (r.length + (c.length + 1) + s.length) listed a w
  | [], listed, a, w, hB, hS, h => wpChain_sound hs e r c _ _ _ hB hS h.2
  | (i, true) :: s, listed, a, w, hB, hS, ⟨o, v, ho, hy, h⟩ => by
    simp only [ordChB, Bool.and_eq_true] at hB
    exact wpAnyH_take (by simpa using ho) hs hB.1.2 hB.1.1 (fun _ _ _ h => by cases h.1) hy hS (wpHLCh_sound hs e c r s _ _ _ hB.2 hS h)
  | (i, false) :: s, listed, a, w, hB, hS, ⟨o, ho, h⟩ => by
    simp only [ordChB, Bool.and_eq_true, decide_eq_true_eq] at hB
    refine wpAnyH_all hB.1 (by simp) ?_
    intro j hj
    have hji : j = i := by simpa using hj
    subst hji
    have ho' : ops.toArray[j]? = some o := by simpa using ho
    unfold wpOp
    simp only [ho']
    split
    · rename_i hw
      rw [if_pos hw] at h
      exact .inl (Oper.wp_mono (fun a' w' h' => ⟨h'.1, wpHLCh_sound hs e c r s _ _ _ hB.2 h'.1 h'.2⟩) (wp_exits (fun x a w hne hf => absurd hf.1 hne) h))
    · rename_i hw
      rw [if_neg hw] at h
      exact ⟨h.1, wpHLCh_sound hs e c r s _ _ _ hB.2 h.1 h.2⟩
def ChainQ (P : Program) (ops : List Oper) (S : World → Prop) (Q : Exit → Act → World → Prop) (e : Nat) (c : List Nat) (r : List (Nat × Bool)) : Exit → Act → World → Prop :=
  fun x a w => x = .normal ∧ (S w ∧ wpChain P ops S (fun a w => Q .normal a w) e r c a w)
section
variable {P : Program} {Q : Exit → Act → World → Prop} {n : Nat} {σ : Sg} {w : World} {L : List Oper} {S : World → Prop}
theorem CW.drawC {id : Nat} (S : World → Prop) (s : List (Nat × Bool)) (e : Nat) (c : List Nat) (r : List (Nat × Bool)) (hm : P.follows .mixedOrders = true) (hB : chainOk L s e c r = true) (hS : S (drew w)) (h : HL P L S (ChainQ P L S Q e c r) s n σ (drew w)) : CW P (.region id L.toArray true) Q n σ w := by
  unfold CW; unfold HL at h; intro a ha
  simp only [chainOk, Bool.and_eq_true, decide_eq_true_eq] at hB
  obtain ⟨⟨hs, hl⟩, hB⟩ := hB
  have h0 := h a ha
  have h0' : wpHL P L S (fun a w => S w ∧ wpChain P L S (fun a w => Q .normal a w) e r c a w) s a (Go.Proofs.Ytadbkppgaekmpaa.drew w) := by
    have : (fun a w => ChainQ P L S Q e c r .normal a w) = (fun a w => S w ∧ wpChain P L S (fun a w => Q .normal a w) e r c a w) := by funext a w; simp [ChainQ]
    rw [← this]; exact h0
  have h1 := wpHLCh_sound hs e c r s (Array.replicate L.length false) a (Go.Proofs.Ytadbkppgaekmpaa.drew w) hB hS h0'
  rw [show r.length + (c.length + 1) + s.length = L.length by omega] at h1
  have h2 := wp_region_held (id := id) (S := S) hm (w := w) (ops := L.toArray) (by simpa using h1)
  exact wp_mono h2 (fun x a' w' ⟨he, hq⟩ => by subst he; exact hq)
/-- the chain's next, or e -/
theorem EX.chain {e i : Nat} {c : List Nat} {r : List (Nat × Bool)} {o : Oper} (hS : S w) (ho : nthO L i = some o) (h1 : WL P L (ChainQ P L S Q e c r) [o] n σ w) (h2 : HL P L S Q ((e, false) :: ((i :: c).map (fun j => (j, false)) ++ r)) n σ w) : EX (ChainQ P L S Q e (i :: c) r) .normal n σ w := by
  unfold EX; unfold WL at h1; unfold HL at h2
  intro a ha
  refine ⟨rfl, hS, ?_, h2 a ha⟩
  rw [nthO_eq] at ho
  refine ⟨o, ho, ?_⟩
  have h2 : wpList P L.toArray (ChainQ P L S Q e c r) [o] a w := h1 a ha
  simp only [wpList] at h2
  split
  · rename_i hw
    rw [if_pos hw] at h2
    rcases h2 with h2 | ⟨_, hlets⟩
    · unfold Oper.wp at *
      generalize (execOp a.eval o).run P w = r at *
      cases r with
      | ok k w' =>
        cases k <;> simp only [Oper.upon] at h2 ⊢ <;> first
          | exact h2.2
          | exact h2
          | (refine Calls.mono h2 (fun e w'' he => ?_); cases e <;> first | exact he.2 | (exact absurd he.1 (by simp)) | (obtain ⟨_, _, hx⟩ := he; exact absurd hx.1 (by simp)))
          | exact Rows.mono h2 (fun _ _ he => he.2)
      | halt x w' => cases x <;> simp only [Oper.upon] at h2 ⊢ <;> first | exact h2 | (exact absurd h2.1 (by simp))
    · obtain ⟨_, _, hx⟩ := hlets
      exact absurd hx.1 (by simp)
  · rename_i hw
    rw [if_neg hw] at h2
    exact h2.2
theorem EX.chain0 {e : Nat} {r : List (Nat × Bool)} (hS : S w) (h : HL P L S Q ((e, false) :: r) n σ w) : EX (ChainQ P L S Q e [] r) .normal n σ w := by
  unfold EX; unfold HL at h
  exact fun a ha => ⟨rfl, hS, h a ha⟩
theorem HL.sub {τ : Sg} {ord : List (Nat × Bool)} (hs : Sub τ σ) (h : HL P L S Q ord n τ w) : HL P L S Q ord n σ w := by
  unfold HL at *
  exact fun a ha => h a (ha.sub hs)
end
end Go.Proofs.Ytadbkppgaekmpaa
/-
  Drawn regions with a chain of changes and an alloc that may come anywhere among them: one walk for all orders. Over any program.
-/
set_option linter.unusedVariables false
set_option linter.unusedSimpArgs false
namespace Go.Proofs.Ytadbkppgaekmpaa
open Go.RowKit

section
variable {P : Program} {n : Nat} {σ : Sg} {w : World} {L : List Oper}
theorem WL.mono1 {Q Q' : Exit → Act → World → Prop} {o : Oper} (hQ : ∀ x a w, Q x a w → x = .normal) (hm : ∀ a w, Q .normal a w → Q' .normal a w) (h : WL P L Q [o] n σ w) : WL P L Q' [o] n σ w := by
  unfold WL at *
  intro a ha
  have h2 := h a ha
  simp only [wpList] at h2 ⊢
  split
  · rename_i hw
    rw [if_pos hw] at h2
    rcases h2 with h2 | ⟨_, hl⟩
    · exact .inl (Oper.wp_mono (fun a' w' h' => hm _ _ h') (wp_exits (fun e a w hne hf => absurd (hQ _ _ _ hf) hne) h2))
    · obtain ⟨_, _, hx⟩ := hl
      exact absurd (hQ _ _ _ hx) (by simp)
  · rename_i hw
    rw [if_neg hw] at h2
    exact hm _ _ h2
theorem fnd_app {σ τ : Sg} {t : Nat} : fnd (σ ++ τ) t = match fnd σ t with | some v => some v | none => fnd τ t := by
  induction σ with
  | nil => rfl
  | cons x r ih =>
    obtain ⟨k, v⟩ := x
    show fnd ((k, v) :: (r ++ τ)) t = match fnd ((k, v) :: r) t with | some v => some v | none => fnd τ t
    by_cases h : k = t
    · subst h; rw [fnd_cons_eq, fnd_cons_eq]
    · rw [fnd_cons_ne h, fnd_cons_ne h]; exact ih
theorem Fr.toEnd {a : Act} {d : Nat} {v : Value} (h : Fr n ((d, v) :: σ) a) (hd : fnd σ d = none) : Fr n (σ ++ [(d, v)]) a := by
  refine ⟨h.size, h.defers, fun t u hu => h.slot t u ?_⟩
  rw [fnd_app] at hu
  by_cases e : d = t
  · subst e
    rw [hd] at hu
    rw [fnd_cons_eq]
    simpa [fnd_cons_eq] using hu
  · rw [fnd_cons_ne e]
    cases hx : fnd σ t with
    | some x => rw [hx] at hu; exact hu
    | none => rw [hx] at hu; simp only [fnd_cons_ne e] at hu; cases hu
/-- behind a step of the chain: one more slot -/
def StepA (S : World → Prop) (I : Sg → World → Option Nat → Prop) (n : Nat) (τ : Sg) (ob : Option Nat) : Exit → Act → World → Prop :=
  fun x a w => x = .normal ∧ S w ∧ ∃ σ, Fr n (σ ++ τ) a ∧ I σ w ob
theorem EX.stepA {S : World → Prop} {I : Sg → World → Option Nat → Prop} {τ : Sg} {ob : Option Nat} (hS : S w) (hI : I σ w ob) : EX (StepA S I n τ ob) .normal n (σ ++ τ) w := by
  unfold EX
  exact fun a ha => ⟨rfl, hS, σ, ha, hI⟩
theorem EX.chainA {Q : Exit → Act → World → Prop} {S : World → Prop} {e de : Nat} {c : List Nat} {r : List (Nat × Bool)} {t ty : TypeId} {pos : String} {af : Array Edge} {zs : List Value} [hz : IsZC P t zs] (hoe : nthO L e = some ⟨some de, .alloc t, ty, pos, af, none⟩) (hn : Nat.ble (de + 1) n = true)
    (I : Nat → Sg → World → Option Nat → Prop) (hde : ∀ i σ w ob, I i σ w ob → fnd σ de = none)
    (hal : ∀ i σ w, I i σ w none → S w → ∀ w', Blk w' w.heap.size t zs → Ext w w' → S w' ∧ I i σ w' (some w.heap.size))
    (hst : ∀ i (hi : i < c.length) σ w ob τ, I i σ w ob → S w → ∃ o, nthO L c[i] = some o ∧ WL P L (StepA S (I (i + 1)) n τ ob) [o] n (σ ++ τ) w)
    (hend : ∀ σ w b, I c.length σ w (some b) → S w → HL P L S Q r n (σ ++ [(de, .pointer (some ⟨b, 0, none⟩))]) w)
    (hI0 : I 0 σ w none) (hS : S w) : EX (ChainQ P L S Q e c r) .normal n σ w := by
  have aft : ∀ d k σ w b, d + k = c.length → I k σ w (some b) → S w → HL P L S Q ((c.drop k).map (fun j => (j, false)) ++ r) n (σ ++ [(de, .pointer (some ⟨b, 0, none⟩))]) w := by
    intro d
    induction d with
    | zero =>
      intro k σ w b hk hI hS
      obtain rfl : k = c.length := by omega
      rw [List.drop_length]
      exact hend σ w b hI hS
    | succ d ih =>
      intro k σ w b hk hI hS
      have hkl : k < c.length := by omega
      rw [List.drop_eq_getElem_cons hkl]
      obtain ⟨o, ho, hw⟩ := hst k hkl σ w (some b) [(de, .pointer (some ⟨b, 0, none⟩))] hI hS
      refine HL.mut ho (WL.mono1 (fun x a w h => h.1) (fun a w h => ?_) hw)
      obtain ⟨_, hS', σ', hF, hI'⟩ := h
      have := ih (k + 1) σ' w b (by omega) hI' hS'
      unfold HL at this
      exact ⟨rfl, hS', this a hF⟩
  have alc : ∀ k σ w, k ≤ c.length → I k σ w none → S w → HL P L S Q ((e, false) :: ((c.drop k).map (fun j => (j, false)) ++ r)) n σ w := by
    intro k σ w hk hI hS
    refine HL.mut hoe (WL.alloc rfl hn (fun w' hb hE => WL.nil ?_))
    obtain ⟨hS', hI'⟩ := hal k σ w hI hS w' hb hE
    have h1 := aft (c.length - k) k σ w' _ (by omega) hI' hS'
    unfold HL at h1
    unfold EX
    exact fun a ha => ⟨rfl, hS', h1 a (ha.toEnd (hde _ _ _ _ hI))⟩
  have bef : ∀ d k σ w, d + k = c.length → I k σ w none → S w → EX (ChainQ P L S Q e (c.drop k) r) .normal n σ w := by
    intro d
    induction d with
    | zero =>
      intro k σ w hk hI hS
      obtain rfl : k = c.length := by omega
      have := alc c.length σ w (Nat.le_refl _) hI hS
      rw [List.drop_length] at this ⊢
      exact EX.chain0 hS this
    | succ d ih =>
      intro k σ w hk hI hS
      have hkl : k < c.length := by omega
      have ha := alc k σ w (by omega) hI hS
      rw [List.drop_eq_getElem_cons hkl] at ha ⊢
      obtain ⟨o, ho, hw⟩ := hst k hkl σ w none [] hI hS
      rw [List.append_nil] at hw
      refine EX.chain hS ho (WL.mono1 (fun x a w h => h.1) (fun a w h => ?_) hw) ha
      obtain ⟨_, hS', σ', hF, hI'⟩ := h
      rw [List.append_nil] at hF
      have := ih (k + 1) σ' w (by omega) hI' hS'
      unfold EX at this
      exact this a hF
  exact bef c.length 0 σ w (by omega) hI0 hS
end
end Go.Proofs.Ytadbkppgaekmpaa
/-
  ReplayTurns: walked.
-/
set_option linter.unusedVariables false
set_option linter.unusedSimpArgs false
namespace Go.Proofs.Ytadbkppgaekmpaa
open Go.RowKit

theorem straight_frames : (framesE straightP [0, 1] [-1]).2 = 0 ∧ (framesE straightP [0, 1] [-1]).1.length = 4 := by
  have hz : (stepsE straightP).2 = 0 := by rw [straight_steps]
  have hl : stepsL straightP = [(1, 0, 1), (2, 1, 0)] := by decide
  have hm : chkM straightP [0, 1] = 0 := markOk_chk hz ⟨rfl, fun j => by
    rcases j with _ | _ | j
    · decide
    · decide
    · exact ⟨Int.le_refl _, (by decide : (0 : Int) ≤ 9)⟩⟩
  have hm0 : chkM straightP [0, 0] = 0 := markOk_chk hz ⟨rfl, fun j => by
    rcases j with _ | _ | j
    · decide
    · decide
    · exact ⟨Int.le_refl _, (by decide : (0 : Int) ≤ 9)⟩⟩
  have h2 : fireE straightP [0, 1] 1 = ([0, 0], 0) := by
    unfold fireE
    rw [if_neg (by simp [hm]), hl, if_neg (by decide), if_neg (by decide)]
    decide
  have hb : beginL straightP = [1, 0] := by decide
  have hc : canE straightP [0, 0] = [] := by
    unfold canE
    rw [if_pos hm0]
    decide
  have o1 : oneE straightP [1, 0] 0 = ([0, 1], 0) := by unfold oneE; rw [if_pos (by decide), straight_fire]
  have o2 : oneE straightP [0, 1] 1 = ([0, 0], 0) := by unfold oneE; rw [if_pos (by decide), h2]
  have o3 : oneE straightP [0, 0] (-1) = ([0, 0], 0) := by unfold oneE; rw [if_neg (by decide), hc]; rfl
  have hok : okM straightP (beginL straightP) ([0, 1] ++ [-1]) := by
    rw [hb]
    show okM straightP [1, 0] [0, 1, -1]
    simp [okM, o1, o2, o3]
  have hcl : lastM straightP (beginL straightP) [0, 1] = lastM straightP (beginL straightP) ([0, 1] ++ [-1]) := by
    rw [hb]
    show lastM straightP [1, 0] [0, 1] = lastM straightP [1, 0] [0, 1, -1]
    simp [lastM, o1, o2, o3]
  have h0 := framesE_of hz (by decide) (by decide) hok hcl
  refine ⟨h0, ?_⟩
  rw [(framesE_ok h0).eq, List.length_cons, scanM_len]
  rfl
abbrev rtLit (p4 p5 p6 : Value) (f1 : Value) (b1 : Bool) (v9 v4 v99 v104 : Value) : Sg := [(4, p4), (5, p5), (6, p6), (11, f1), (13, .bool b1), (89, v9), (94, v4), (99, v99), (104, v104)]
def rtOB (B : Nat) (w : World) (ob : Option Nat) : Prop := ∀ b, ob = some b → Blk w b 116 [.bool false, .slice none 0 0, .slice none 0 0] ∧ B ≤ b
theorem rtOB.ext {B : Nat} {w w' : World} {ob : Option Nat} (h : rtOB B w ob) (hE : Ext w w') : rtOB B w' ob := fun b hb => ⟨(h b hb).1.ext hE, (h b hb).2⟩
theorem rtOB.kept {B : Nat} {w w' : World} {ob : Option Nat} {g : Option Nat} (h : rtOB B w ob) (hg : w.grownBy w' g) (hn : ∀ b, ob = some b → g ≠ some b) : rtOB B w' ob := fun b hb => ⟨(h b hb).1.kept hg (fun e => hn b hb e.symm), (h b hb).2⟩
def rtAp (v : Value) (ob : Option Nat) : Prop := ∀ b, ob = some b → v.ownBlock ≠ some b
def rtAv (v u : Value) : Prop := ∀ g, v.ownBlock = some g → u.ownBlock ≠ some g
def rtI (lit : Sg) (B : Nat) (s A D : List Int) (i : Nat) (σ : Sg) (w : World) (ob : Option Nat) : Prop :=
  match i with
  | 0 => σ = lit ∧ rtOB B w ob
  | 1 => ∃ v, σ = (90, v) :: lit ∧ Own w B 3 Non v s ∧ rtAp v ob ∧ rtOB B w ob
  | 2 => ∃ v v0, σ = (95, v) :: (90, v0) :: lit ∧ Own w B 3 Non v (s ++ A) ∧ rtAp v ob ∧ rtOB B w ob
  | 3 => ∃ v u v0, σ = (100, u) :: (95, v) :: (90, v0) :: lit ∧ Own w B 3 Non v (s ++ A) ∧ Own w B 3 Non u D ∧ rtAv u v ∧ rtAp v ob ∧ rtAp u ob ∧ rtOB B w ob
  | 4 => ∃ v u v0 u0, σ = (105, u) :: (100, u0) :: (95, v) :: (90, v0) :: lit ∧ Own w B 3 Non v (s ++ A) ∧ Own w B 3 Non u (D ++ A) ∧ rtAv u v ∧ rtAp v ob ∧ rtAp u ob ∧ rtOB B w ob
  | _ => ∃ v u v0 u0, σ = (106, .agg [.bool false, v, u].toArray) :: (105, u) :: (100, u0) :: (95, v) :: (90, v0) :: lit ∧ Own w B 3 Non v (s ++ A) ∧ Own w B 3 Non u (D ++ A) ∧ rtAv u v ∧ rtAp v ob ∧ rtAp u ob ∧ rtOB B w ob
set_option maxRecDepth 100000 in
set_option maxHeartbeats 4000000 in
theorem ReplayTurns_ok (w0 : World) {so fo ao bo to : Option Addr} {sc fc ac bc tc : Nat} {hb : Bool} {ns : List LNode} {fl : List LFlow} {s l : List Int} {t : Ltl} (hs : Sl w0 (Old w0) so sc ns) (hf : Sl w0 (Old w0) fo fc fl) (hst : Sl w0 (Old w0) ao ac s) (hlp : Sl w0 (Old w0) bo bc l) (ht : Sl w0 (Old w0) to tc t.kids) (m : Int) :
    Rt Try.prog 11 [procV so sc fo fc ns.length fl.length, verdV hb ao ac bo bc s l, ltlV t.k t.n to t.kids.length tc, .int .i64 m].toArray w0 fun v w' => v = .bool true ∧ Ext w0 w' := by
  have hsl := hst.len63
  have hll := hlp.len63
  refine Rt.enter4 Try.func11 Try.ntmps11 rfl rfl ?_
  have hE := Ext.refl w0
  (repeat (first | (apply CW.seq) | (apply CW.region)))
  refine WL.boxB rfl rfl rfl fun w1 hb4 e1 => ?_
  have hE := hE.trans e1
  skip
  refine WL.boxB rfl rfl rfl fun w2 hb5 e2 => ?_
  have hb4 := hb4.ext e2
  have hE := hE.trans e2
  skip
  refine WL.boxB rfl rfl rfl fun w3 hb6 e3 => ?_
  have hb4 := hb4.ext e3
  have hb5 := hb5.ext e3
  have hE := hE.trans e3
  (repeat (first | (apply WL.pure; rfl; rfl; rfl) | (apply WL.nil) | (apply EX.thenN) | (apply CW.seq) | (apply CW.region)))
  refine WL.call rfl rfl rfl (straight_ok w3) ?_
  rintro _ w4 ⟨⟨s1, s2, s3, s4, rfl, g1, g2⟩, e4⟩
  refine WL.litR [(0 : Int), 1] rfl rfl rfl rfl rfl (.cons (Rd.mkInt _ _ _) (.cons (Rd.mkInt _ _ _) .nil)) (by decide) (fun v5 w5 e5 r5 _ => ?_)
  obtain ⟨po, pc, rfl, ps⟩ := r5.sl
  refine WL.litR [(-1 : Int)] rfl rfl rfl rfl rfl (.cons (Rd.mkInt _ _ _) .nil) (by decide) (fun v6 w6 e6 r6 _ => ?_)
  obtain ⟨qo, qc, rfl, qs⟩ := r6.sl
  refine WL.build rfl rfl rfl rfl ?_
  have e46 := e5.trans e6
  have hE := (hE.trans e4).trans e46
  have e36 := e4.trans e46
  have hb4 := hb4.ext e36
  have hb5 := hb5.ext e36
  have hb6 := hb6.ext e36
  skip
  refine WL.call rfl rfl rfl (Frames_ok w6 (hb := false) (ns := straightP.1) (fl := straightP.2) (s := [0, 1]) (l := [-1]) (g1.up e46) (g2.up e46) (ps.up e6) qs) ?_
  rintro _ w7 ⟨mv, rfl, hm, e7⟩
  obtain ⟨mo, mc, rfl, hms⟩ := hm.sl
  rw [show ((straightP.1, straightP.2) : LProc) = straightP from rfl, straight_frames.1, straight_frames.2]
  have hE := hE.trans e7
  have hb4 := hb4.ext e7
  have hb5 := hb5.ext e7
  have hb6 := hb6.ext e7
  clear hms hm qs ps r5 r6 g1 g2 e36 e46 e4 e5 e6 e7 e1 e2 e3
  (repeat (first | (apply WL.pure; rfl; rfl; rfl) | (apply WL.nil) | (apply EX.thenN) | (apply CW.seq) | (apply CW.region) | (apply WL.lenS; rfl; rfl; rfl) | (apply WL.ldA; rfl; rfl; rfl; assumption; rfl) | (apply CW.condF; rfl) | (apply CW.skip)))
  refine WL.call rfl rfl rfl (Frames_ok w7 (hs.up hE) (hf.up hE) (hst.up hE) (hlp.up hE)) ?_
  rintro _ w8 ⟨fv, rfl, hfm, e8⟩
  obtain ⟨f0, fc0, rfl, hfs⟩ := hfm.sl
  have hE := hE.trans e8
  have hb4 := hb4.ext e8
  have hb5 := hb5.ext e8
  have hb6 := hb6.ext e8
  (repeat (first | (apply WL.pure; rfl; rfl; rfl) | (apply WL.nil) | (apply EX.thenN) | (apply CW.seq) | (apply CW.region) | (apply WL.ldA; rfl; rfl; rfl; assumption; rfl)))
  refine WL.call rfl rfl rfl (Proves_ok w8 (hs.up hE) (hf.up hE) (hst.up hE) (hlp.up hE) (ht.up hE)) ?_
  rintro _ w9 ⟨rfl, e9⟩
  have hE := hE.trans e9
  have hb4 := hb4.ext e9
  have hb5 := hb5.ext e9
  have hb6 := hb6.ext e9
  have hfs := hfs.up e9
  clear e8 e9 hfm
  by_cases hz : (framesE (ns, fl) s l).2 = 0
  case neg =>
    have hp : provesE (ns, fl) s l t = (false, (framesE (ns, fl) s l).2) := by unfold provesE; rw [if_pos hz]
    have he : (framesE (ns, fl) s l).1 = [] := framesE_err hz
    rw [hp, he]
    have hz1 : ((framesE (ns, fl) s l).2 != 0) = true := by simpa using hz
    have hz2 : ((framesE (ns, fl) s l).2 == 0) = false := by simpa using hz
    generalize (framesE (ns, fl) s l).2 = er at *
    (repeat (first | (apply WL.pure; rfl; rfl; rfl) | (apply WL.nil) | (apply EX.thenN) | (apply CW.seq) | (apply CW.region)))
    rw [hz1]
    (repeat (first | (apply WL.pure; rfl; rfl; rfl) | (apply WL.nil) | (apply EX.thenN) | (apply CW.seq) | (apply CW.region) | (apply WL.pass; rfl; rfl) | (apply CW.condT; rfl)))
    rw [hz2]
    (repeat (first | (apply WL.pure; rfl; rfl; rfl) | (apply WL.nil) | (apply EX.thenN) | (apply WL.pass; rfl; rfl) | (apply WL.lenS; rfl; rfl; rfl) | (apply CW.ret) | (apply EX.thenR)))
    exact EX.ret1 rfl rfl ⟨rfl, hE⟩
  rw [hz]
  by_cases hc : (chkF t 1 0).1 = 0
  case neg =>
    have hp : provesE (ns, fl) s l t = (false, (chkF t 1 0).1) := by unfold provesE; rw [if_neg (by simp [hz]), if_pos hc]
    rw [hp]
    have hz1 : ((chkF t 1 0).1 != 0) = true := by simpa using hc
    have hz2 : ((chkF t 1 0).1 == 0) = false := by simpa using hc
    generalize (chkF t 1 0).1 = er at *
    (repeat (first | (apply WL.pure; rfl; rfl; rfl) | (apply WL.nil) | (apply EX.thenN) | (apply CW.seq) | (apply CW.region)))
    rw [hz1]
    (repeat (first | (apply WL.pure; rfl; rfl; rfl) | (apply WL.nil) | (apply EX.thenN) | (apply CW.seq) | (apply CW.region) | (apply WL.pass; rfl; rfl) | (apply CW.condT; rfl)))
    rw [hz2]
    (repeat (first | (apply WL.pure; rfl; rfl; rfl) | (apply WL.nil) | (apply EX.thenN) | (apply WL.pass; rfl; rfl) | (apply CW.ret) | (apply EX.thenR)))
    exact EX.ret1 rfl rfl ⟨rfl, hE⟩
  have hp2 : (provesE (ns, fl) s l t).2 = 0 := by unfold provesE; rw [if_neg (by simp [hz]), if_neg (by simp [hc])]
  rw [hp2]
  have hok := framesE_ok hz
  have hsz := hok.sz
  (repeat (first | (apply WL.add; rfl; rfl; rfl; rfl; omega; omega) | (apply WL.pure; rfl; rfl; rfl) | (apply WL.nil) | (apply EX.thenN) | (apply CW.seq) | (apply CW.region) | (apply WL.lenS; rfl; rfl; rfl) | (apply WL.fa; rfl; rfl; rfl) | (apply WL.ld; rfl; rfl; rfl; assumption; rfl)))
  refine CW.cond rfl (fun h => ?_) (fun h => ?_)
  · (repeat (first | (apply WL.pure; rfl; rfl; rfl) | (apply WL.nil) | (apply EX.thenN) | (apply CW.seq) | (apply CW.region) | (apply WL.pass; rfl; rfl) | (apply CW.ret) | (apply EX.thenR)))
    exact EX.ret1 rfl rfl ⟨rfl, hE⟩
  have h200 : s.length + l.length ≤ 200 := by simp at h; omega
  clear h
  (repeat (first | (apply WL.add; rfl; rfl; rfl; rfl; omega; omega) | (apply WL.pure; rfl; rfl; rfl) | (apply EX.thenN) | (apply CW.seq) | (apply CW.region) | (apply WL.lenS; rfl; rfl; rfl) | (apply WL.fa; rfl; rfl; rfl) | (apply WL.ld; rfl; rfl; rfl; assumption; rfl) | (apply CW.skip)))
  refine WL.call rfl rfl rfl (rest_ok w9 m ((l.length : Int) + 1) (by omega) (by omega)) ?_
  rintro _ _ ⟨rfl, rfl⟩
  have hn1 := Int.emod_nonneg m (show (l.length : Int) + 1 ≠ 0 by omega)
  have hn2 := Int.emod_lt_of_pos m (show 0 < (l.length : Int) + 1 by omega)
  generalize m % ((l.length : Int) + 1) = r at *
  obtain ⟨k, rfl⟩ := Int.eq_ofNat_of_zero_le hn1
  have hk : k ≤ l.length := by omega
  have q1 : (l.take k).length = k := by rw [List.length_take]; omega
  have q2 : (l.drop k).length = l.length - k := List.length_drop
  have hok' := frames_unroll hok hk h200
  have hz' := framesE_of hok'.z hok'.l0 hok'.sz hok'.ok hok'.cl
  have hpre := frames_prefix hok hk hok'
  have hpu := proves_unroll hok hc hk h200 hz
  clear hn1 hn2
  have hls := hlp.up hE
  have hss := hst.up hE
  have hlc := hls.le
  have hA := hls.take hk
  have hD := hls.drop hk
  generalize hDo : (if bc = k then bo else bo.map (·.add (k * sz Int))) = dO at *
  have l4 := hb4.lt
  have l5 := hb5.lt
  have l6 := hb6.lt
  (repeat (first | (apply WL.pure; rfl; rfl; rfl) | (apply WL.nil) | (apply EX.thenN) | (apply CW.seq)))
  have hSE : ∀ z, (fun z : World => Ext w9 z) z → Ext w9 z := fun _ h => h
  refine CW.drawC (fun x => Ext w9 x) [(0, true), (1, true), (3, true), (4, true), (5, true), (6, true), (8, true), (9, true), (10, true), (11, true), (13, true), (14, true), (15, true), (16, true)] 19 [2, 7, 12, 17, 18] [(20, false)] mixed (by kernel_rfl) (Ext.drew w9) ?_
  (repeat (first | (apply HL.pure; rfl; rfl; rfl; rfl) | (refine HL.fa rfl rfl rfl rfl ?_) | (refine HL.ld (by assumption) rfl rfl rfl rfl (by assumption) rfl ?_)))
  refine HL.cutHi (α := Int) k rfl rfl rfl rfl rfl rfl (by omega) ?_
  (repeat (first | (apply HL.pure; rfl; rfl; rfl; rfl) | (refine HL.fa rfl rfl rfl rfl ?_) | (refine HL.ld (by assumption) rfl rfl rfl rfl (by assumption) rfl ?_)))
  refine HL.cutLo (α := Int) k rfl rfl rfl rfl rfl rfl hk hlc ?_
  rw [hDo]
  (repeat (first | (apply HL.pure; rfl; rfl; rfl; rfl) | (refine HL.fa rfl rfl rfl rfl ?_) | (refine HL.ld (by assumption) rfl rfl rfl rfl (by assumption) rfl ?_)))
  refine HL.cutHi (α := Int) k rfl rfl rfl rfl rfl rfl (by omega) ?_
  (repeat (apply HL.nil))
  refine EX.sub (τ := rtLit (.pointer (some ⟨w0.heap.size, 0, none⟩)) (.pointer (some ⟨w1.heap.size, 0, none⟩)) (.pointer (some ⟨w2.heap.size, 0, none⟩)) (.slice f0 (framesE (ns, fl) s l).1.length fc0) (provesE (ns, fl) s l t).1 (.slice ao s.length ac) (.slice bo k bc) (.slice dO (l.length - k) (bc - k)) (.slice bo k bc)) (by repeat (first | exact trivial | refine ⟨rfl, ?_⟩)) ?_
  generalize hlit : rtLit (.pointer (some ⟨w0.heap.size, 0, none⟩)) (.pointer (some ⟨w1.heap.size, 0, none⟩)) (.pointer (some ⟨w2.heap.size, 0, none⟩)) (.slice f0 (framesE (ns, fl) s l).1.length fc0) (provesE (ns, fl) s l t).1 (.slice ao s.length ac) (.slice bo k bc) (.slice dO (l.length - k) (bc - k)) (.slice bo k bc) = lit
  refine EX.chainA (e := 19) rfl rfl (rtI lit w9.heap.size s (l.take k) (l.drop k)) ?_ ?_ ?_ ?_ ⟨rfl, fun b h => by cases h⟩ (Ext.drew w9)
  · intro i σ w ob hI
    subst hlit
    match i with
    | 0 => obtain ⟨rfl, _⟩ := hI; rfl
    | 1 => obtain ⟨_, rfl, _⟩ := hI; rfl
    | 2 => obtain ⟨_, _, rfl, _⟩ := hI; rfl
    | 3 => obtain ⟨_, _, _, rfl, _⟩ := hI; rfl
    | 4 => obtain ⟨_, _, _, _, rfl, _⟩ := hI; rfl
    | _ + 5 => obtain ⟨_, _, _, _, rfl, _⟩ := hI; rfl
  · intro i σ w hI hS w' hb hE'
    have hS : Ext w9 w := hS
    refine ⟨Ext.trans hS hE', ?_⟩
    have ob : rtOB w9.heap.size w' (some w.heap.size) := fun b h => by cases h; exact ⟨hb, hS.size⟩
    have ap : ∀ {v : Value} {xs : List Int}, Own w w9.heap.size 3 Non v xs → rtAp v (some w.heap.size) := fun ho b h hg => by cases h; have := (ho.lt _ hg).2.1; omega
    match i with
    | 0 => obtain ⟨h, _⟩ := hI; exact ⟨h, ob⟩
    | 1 => obtain ⟨v, h, ho, _⟩ := hI; exact ⟨v, h, ho.extN hE', ap ho, ob⟩
    | 2 => obtain ⟨v, v0, h, ho, _⟩ := hI; exact ⟨v, v0, h, ho.extN hE', ap ho, ob⟩
    | 3 => obtain ⟨v, u, v0, h, ho, hu, hd, _⟩ := hI; exact ⟨v, u, v0, h, ho.extN hE', hu.extN hE', hd, ap ho, ap hu, ob⟩
    | 4 => obtain ⟨v, u, v0, u0, h, ho, hu, hd, _⟩ := hI; exact ⟨v, u, v0, u0, h, ho.extN hE', hu.extN hE', hd, ap ho, ap hu, ob⟩
    | _ + 5 => obtain ⟨v, u, v0, u0, h, ho, hu, hd, _⟩ := hI; exact ⟨v, u, v0, u0, h, ho.extN hE', hu.extN hE', hd, ap ho, ap hu, ob⟩
  · intro i hi σ w ob τ hI hS
    have hS : Ext w9 w := hS
    subst hlit
    match i, hi with
    | 0, _ =>
      obtain ⟨rfl, hob⟩ := hI
      refine ⟨_, rfl, ?_⟩
      refine WL.call rfl rfl rfl (clone_int w (hss.up hS) (by omega)) ?_
      rintro v w' ⟨ho, e⟩
      exact WL.nil (EX.stepA (σ := (90, v) :: _) (Ext.trans hS e) ⟨v, rfl, ho.low hS.size, fun b h hg => by have := (ho.lt _ hg).1; have := (hob b h).1.lt; omega, hob.ext e⟩)
    | 1, _ =>
      obtain ⟨v, rfl, ho, hap, hob⟩ := hI
      refine ⟨_, rfl, ?_⟩
      refine WL.app (F := Non) (ys := l.take k) rfl rfl rfl (by rw [q1]; rfl) ho (hA.up hS).srcN hS.size (fun _ h => h.elim) (by unfold maxLen; omega) (by show _ * 8 ≤ _; omega) (fun v2 w' ho2 hg hnb => ?_)
      refine WL.nil (EX.stepA (σ := (95, v2) :: _) (Below.grown hS hg hS.size (fun g hg => (ho.lt g hg).1)) ⟨v2, v, rfl, ho2, fun b h hg2 => ?_, hob.kept hg (fun b h => hap b h)⟩)
      rcases hnb b hg2 with h' | h'
      · exact hap b h h'
      · have := (hob b h).1.lt; omega
    | 2, _ =>
      obtain ⟨v, v0, rfl, ho, hap, hob⟩ := hI
      refine ⟨_, rfl, ?_⟩
      have hc1 := clone_int w (hD.up hS) (by omega)
      rw [q2] at hc1
      refine WL.call rfl rfl rfl hc1 ?_
      rintro u w' ⟨hu, e⟩
      exact WL.nil (EX.stepA (σ := (100, u) :: _) (Ext.trans hS e) ⟨v, u, v0, rfl, ho.extN e, hu.low hS.size, fun g h1 h2 => by have := (hu.lt _ h1).1; have := (ho.lt _ h2).2.1; omega, hap, fun b h hg => by have := (hu.lt _ hg).1; have := (hob b h).1.lt; omega, hob.ext e⟩)
    | 3, _ =>
      obtain ⟨v, u, v0, rfl, ho, hu, hd, hap, hap2, hob⟩ := hI
      refine ⟨_, rfl, ?_⟩
      refine WL.app (F := Non) (ys := l.take k) rfl rfl rfl (by rw [q1]; rfl) hu (hA.up hS).srcN hS.size (fun _ h => h.elim) (by unfold maxLen; omega) (by show _ * 8 ≤ _; omega) (fun u2 w' hu2 hg hnb => ?_)
      refine WL.nil (EX.stepA (σ := (105, u2) :: _) (Below.grown hS hg hS.size (fun g hg => (hu.lt g hg).1)) ⟨v, u2, v0, u, rfl, ho.keptN hg (fun g h e => hd g e.symm h), hu2, fun g h1 h2 => ?_, hap, fun b h hg2 => ?_, hob.kept hg (fun b h => hap2 b h)⟩)
      · rcases hnb g h1 with h | h
        · exact hd g h h2
        · have := (ho.lt _ h2).2.1; omega
      · rcases hnb b hg2 with h' | h'
        · exact hap2 b h h'
        · have := (hob b h).1.lt; omega
    | 4, _ =>
      obtain ⟨v, u, v0, u0, rfl, ho, hu, hd, hap, hap2, hob⟩ := hI
      obtain ⟨v1, v2, rfl⟩ := ho.val
      obtain ⟨u1, u2, rfl⟩ := hu.val
      refine ⟨_, rfl, ?_⟩
      refine WL.build rfl rfl rfl rfl ?_
      exact WL.nil (EX.stepA (σ := (106, _) :: _) hS ⟨_, _, _, _, rfl, ho, hu, hd, hap, hap2, hob⟩)
    | i + 5, hi => exact absurd hi (by simp)
  intro σ w10 b16 hI hS
  have hS : Ext w9 w10 := hS
  obtain ⟨v, u, v0, u0, rfl, hv, hu, hd, hap, hap2, hob⟩ := hI
  obtain ⟨v1, v2, rfl⟩ := hv.val
  obtain ⟨u1, u2, rfl⟩ := hu.val
  subst hlit
  have hgt := (hob b16 rfl).2
  refine HL.mut rfl (WL.st rfl rfl rfl (hob b16 rfl).1 rfl rfl (ones_of rfl) (fun w11 hb16 hg11 => ?_))
  have hS11 : Ext w9 w11 := Below.grown hS hg11 hS.size (fun g hg => by cases hg; exact hgt)
  refine WL.nil (EX.mut hS11 ?_)
  have hv := hv.keptN hg11 (fun g hg e => hap b16 rfl (by rw [← e]; exact hg))
  have hu := hu.keptN hg11 (fun g hg e => hap2 b16 rfl (by rw [← e]; exact hg))
  have hvs : Sl w11 (Old w11) v1 v2 (s ++ l.take k) := by
    obtain ⟨a, b, e, h⟩ := hv.oldN.sl
    obtain ⟨rfl, _, rfl⟩ := Value.slice.inj e
    exact h
  have hus : Sl w11 (Old w11) u1 u2 (l.drop k ++ l.take k) := by
    obtain ⟨a, b, e, h⟩ := hu.oldN.sl
    obtain ⟨rfl, _, rfl⟩ := Value.slice.inj e
    exact h
  have hE11 := hE.trans hS11
  have hb4 := hb4.ext hS11
  have hb6 := hb6.ext hS11
  have hfs := hfs.up hS11
  clear hv hu hd hap hap2 hob hg11 hS hS11 hSE hls hss hA hD hb5 hE
  apply HL.nil
  (repeat (first | (apply EX.thenN) | (apply CW.seq) | (apply CW.region) | (apply WL.ldA; rfl; rfl; rfl; assumption; rfl)))
  refine WL.call rfl rfl rfl (Frames_ok w11 (hs.up hE11) (hf.up hE11) hvs hus) ?_
  rintro _ w12 ⟨gv, rfl, hgm, e12⟩
  obtain ⟨g0, gc0, rfl, hgs⟩ := hgm.sl
  rw [hz']
  have hE12 := hE11.trans e12
  have hb4 := hb4.ext e12
  have hb6 := hb6.ext e12
  have hb16 := hb16.ext e12
  have hfs := hfs.up e12
  (repeat (first | (apply WL.pure; rfl; rfl; rfl) | (apply WL.nil) | (apply EX.thenN) | (apply CW.seq) | (apply CW.region) | (apply WL.ldA; rfl; rfl; rfl; assumption; rfl)))
  refine WL.call rfl rfl rfl (Proves_ok w12 (hs.up hE12) (hf.up hE12) (hvs.up e12) (hus.up e12) (ht.up hE12)) ?_
  rw [hpu, hp2]
  rintro _ w13 ⟨rfl, e13⟩
  have hE13 := hE12.trans e13
  have hfs := hfs.up e13
  have hgs := hgs.up e13
  have hgl := hgs.le
  (repeat (first | (apply WL.pure; rfl; rfl; rfl) | (apply WL.nil) | (apply EX.thenN) | (apply CW.seq) | (apply CW.region) | (apply WL.eqB; rfl; rfl; rfl; rfl)))
  rw [show ((provesE (ns, fl) s l t).1 == (provesE (ns, fl) s l t).1) = true from beq_self_eq_true _]
  (repeat (first | (apply WL.pure; rfl; rfl; rfl) | (apply WL.lenS; rfl; rfl; rfl)))
  refine WL.cutHi (α := List Int) (framesE (ns, fl) s l).1.length rfl rfl rfl rfl rfl (by have := hpre.1; omega) ?_
  have htk := hgs.take hpre.1
  rw [hpre.2] at htk
  (repeat (apply WL.pure; rfl; rfl; rfl))
  refine WL.call rfl rfl rfl (wlists_ok w13 htk hfs) ?_
  rintro _ w14 ⟨rfl, e14⟩
  rw [show ((framesE (ns, fl) s l).1 == (framesE (ns, fl) s l).1) = true from beq_self_eq_true _]
  (repeat (first | (apply WL.pure; rfl; rfl; rfl) | (apply WL.nil) | (apply EX.thenN) | (apply CW.ret)))
  exact EX.ret1 rfl rfl ⟨rfl, hE13.trans e14⟩
end Go.Proofs.Ytadbkppgaekmpaa
/-
  From the form's readings of the arguments to our own, and back: what a law's proof needs at its two ends.
-/
set_option linter.unusedVariables false
set_option linter.unusedSimpArgs false
namespace Go.Proofs.Ytadbkppgaekmpaa
open Go.RowKit Go.ChangeShapes Go.WideShapes Go.ChangeAt

theorem bulk_one {H : Type} (d : DataW H) : 1 ≤ Rows.uptoBulk d := by
  cases d with
  | lit l => cases l <;> simp [Rows.uptoBulk]
  | nil => simp [Rows.uptoBulk]
  | ptr d => simp [Rows.uptoBulk]
  | slice elems spare => simp [Rows.uptoBulk]
  | agg parts => simp [Rows.uptoBulk]
  | iface t d => simp [Rows.uptoBulk]
  | map entries => simp [Rows.uptoBulk]
  | held h => simp [Rows.uptoBulk]
theorem bulk_app {H : Type} (l r : List (DataW H)) : Rows.uptoBulkAll (l ++ r) = Rows.uptoBulkAll l + Rows.uptoBulkAll r := by
  induction l with
  | nil => simp [Rows.uptoBulkAll]
  | cons x l ih => simp only [List.cons_append, Rows.uptoBulkAll, ih]; omega

/-- the bound, as the form hands it over -/
theorem bound {H : Type} {l : List (DataW H)} (hk : Rows.uptoSmall H l = true) : Rows.uptoBulkAll l ≤ 1048576 := by
  simpa [Rows.uptoSmall] using hk
/-- how many values a value of ours holds -/
class Bk (α : Type) where
  bk : α → Nat
abbrev bk {α : Type} [Bk α] : α → Nat := Bk.bk
instance iOpen1 : Bk Int := ⟨fun _ => 1⟩
instance iOpen2 : Bk Bool := ⟨fun _ => 1⟩
instance iOpen3 : Bk Nat := ⟨fun _ => 1⟩
instance iOpen4 : Bk ByteArray := ⟨fun s => s.size + 1⟩
def bkL {α : Type} [Bk α] : List α → Nat
  | [] => 0
  | x :: r => bk x + bkL r
instance iOpen8 {α : Type} [Bk α] : Bk (List α) := ⟨fun l => bkL l + 1⟩

/-- what the form reads at a type, we read, too -/
class Opn (P : Program) (t : TypeId) (α : Type) [Rep α] [Bk α] : Prop where
  op : ∀ {H : Type} {enc : TypeId × Value → H} {w : World} {fuel : Nat} {cs : List Value} {d : DataW H} {ps : List MemPlace}, DataW.trod enc P w 0 (fun _ => true) true fuel t cs = some (d, ps) → ∃ x : α, rd w (Old w) cs x ∧ bk x ≤ Rows.uptoBulk d

theorem Opn.int {P : Program} {t : TypeId} (h : P.underlying t = some (.int .i64)) : Opn P t Int where
  op := by
    intro H enc w fuel cs d ps hd
    cases fuel with
    | zero => simp [DataW.trod] at hd
    | succ fuel =>
      unfold DataW.trod at hd
      rw [h] at hd
      split at hd <;> try (simp at *; done)
      rename_i k k' n e1
      simp at e1
      split at hd
      · rename_i hk
        simp at hd
        obtain ⟨rfl, rfl⟩ := hd
        exact ⟨n, by rw [hk.1, ← e1]; rfl, bulk_one _⟩
      · cases hd
theorem Opn.bool {P : Program} {t : TypeId} (h : P.underlying t = some .bool) : Opn P t Bool where
  op := by
    intro H enc w fuel cs d ps hd
    cases fuel with
    | zero => simp [DataW.trod] at hd
    | succ fuel =>
      unfold DataW.trod at hd
      rw [h] at hd
      split at hd <;> try (simp at *; done)
      rename_i b e1
      simp at hd
      obtain ⟨rfl, rfl⟩ := hd
      exact ⟨b, rfl, bulk_one _⟩
theorem Opn.u64 {P : Program} {t : TypeId} (h : P.underlying t = some (.int .u64)) : Opn P t Nat where
  op := by
    intro H enc w fuel cs d ps hd
    cases fuel with
    | zero => simp [DataW.trod] at hd
    | succ fuel =>
      unfold DataW.trod at hd
      rw [h] at hd
      split at hd <;> try (simp at *; done)
      rename_i k k' n e1
      simp at e1
      split at hd
      · rename_i hk
        simp at hd
        obtain ⟨rfl, rfl⟩ := hd
        have hwf := hk.2
        rw [← e1] at hwf
        have hb : 0 ≤ n ∧ n ≤ 18446744073709551615 := by simpa [Lit.wf, IntKind.min, IntKind.max, IntKind.signed, IntKind.bits] using hwf
        refine ⟨n.toNat, ⟨?_, by omega⟩, bulk_one _⟩
        rw [hk.1, ← e1, Int.toNat_of_nonneg hb.1]
      · cases hd
theorem Opn.string {P : Program} {t : TypeId} (h : P.underlying t = some .string) : Opn P t ByteArray where
  op := by
    intro H enc w fuel cs d ps hd
    cases fuel with
    | zero => simp [DataW.trod] at hd
    | succ fuel =>
      unfold DataW.trod at hd
      rw [h] at hd
      split at hd <;> try (simp at *; done)
      rename_i s e1
      split at hd
      · rename_i hk
        simp at hd
        obtain ⟨rfl, rfl⟩ := hd
        refine ⟨s, ⟨rfl, hk⟩, ?_⟩
        show s.size + 1 ≤ _
        simp only [Rows.uptoBulk]
        have e : s.data.toList.length = s.size := by rw [Array.length_toList]; rfl
        omega
      · cases hd

theorem mapM_range {β : Type} (f : Nat → Option β) : ∀ (n : Nat) (es : List β), (List.range n).mapM f = some es → es.length = n ∧ ∀ i (h : i < es.length), f i = some es[i]
  | 0, es, h => by
    simp at h; subst h
    exact ⟨rfl, fun i hi => absurd hi (by simp)⟩
  | n + 1, es, h => by
    rw [List.range_succ, List.mapM_append] at h
    simp only [List.mapM_cons, List.mapM_nil, Option.bind_eq_bind, Option.pure_def] at h
    cases h1 : (List.range n).mapM f with
    | none => rw [h1] at h; cases h
    | some l =>
      rw [h1] at h
      cases h2 : f n with
      | none => rw [h2] at h; cases h
      | some y =>
        rw [h2] at h
        simp at h
        subst h
        obtain ⟨hl, hi⟩ := mapM_range f n l h1
        refine ⟨by simp [hl], fun i hlt => ?_⟩
        by_cases hi' : i < l.length
        · rw [List.getElem_append_left hi']; exact hi i hi'
        · have : i = n := by simp at hlt; omega
          subst this
          rw [List.getElem_append_right (by omega)]
          simpa [hl] using h2
theorem mapM_cells {w : World} {a : Addr} {n : Nat} {cs : List Value} (h : w.cells? 0 a n = some cs) : cs.length = n ∧ ∀ j (hj : j < cs.length), w.cell? (a.add j) = some cs[j] := by
  unfold World.cells? at h
  rw [if_pos (Nat.zero_le _)] at h
  exact mapM_range _ n cs h

theorem slice_op {P : Program} {t e : TypeId} {α : Type} [Rep α] [Bk α] [hs : IsS P t e] [ht : IsT P e α] {H : Type} {enc : TypeId × Value → H} {w : World} {fuel : Nat}
    (ho : ∀ {cs : List Value} {d : DataW H} {ps : List MemPlace}, DataW.trod enc P w 0 (fun _ => true) true fuel e cs = some (d, ps) → ∃ x : α, rd w (Old w) cs x ∧ bk x ≤ Rows.uptoBulk d)
    {cs : List Value} {d : DataW H} {ps : List MemPlace} (hd : DataW.trod enc P w 0 (fun _ => true) true (fuel + 1) t cs = some (d, ps)) : ∃ x : List α, rd w (Old w) cs x ∧ bk x ≤ Rows.uptoBulk d := by
  unfold DataW.trod at hd
  rw [hs.ok] at hd
  obtain ⟨i0, hi1, hi2⟩ := IsT.info (P := P) (t := e) (α := α)
  have hsz : P.cellsOf e = sz α := by simp [Program.cellsOf, hi1, hi2]
  have hp : 0 < sz α := Rep.pos
  split at hd <;> try (simp at *; done)
  · simp at hd
    obtain ⟨rfl, rfl⟩ := hd
    exact ⟨[], ⟨none, 0, rfl, by simp, by simp [maxLen], fun _ => rfl, fun i hi => absurd hi (by simp)⟩, bulk_one _⟩
  · rename_i e' a len cap e1
    cases e1
    simp only at hd
    split at hd
    · rename_i hc
      obtain ⟨_, hle, hmx⟩ := hc
      rw [hsz] at hd
      cases hm : (List.range len).mapM (fun i => (w.cells? 0 (a.add (i * sz α)) (sz α)).bind (DataW.trod enc P w 0 (fun _ => true) true fuel e)) with
      | none => rw [hm] at hd; cases hd
      | some elems =>
        rw [hm] at hd
        simp only [Option.bind_some, if_true] at hd
        obtain ⟨rest, _, hd2⟩ := Option.map_eq_some_iff.1 hd
        simp only [Prod.mk.injEq] at hd2
        obtain ⟨rfl, _⟩ := hd2
        obtain ⟨hlen, hget⟩ := mapM_range _ len elems hm
        -- one element at a time
        have one : ∀ i (h : i < elems.length), ∃ x : α, (∃ b off, some a = some ⟨b, off, none⟩ ∧ Old w b ∧ ∃ es, Cells w b (off + i * sz α) es ∧ rd w (Old w) es x) ∧ bk x ≤ Rows.uptoBulk (elems[i]).1 := by
          intro i hi
          have h1 := hget i hi
          cases hcs : w.cells? 0 (a.add (i * sz α)) (sz α) with
          | none => rw [hcs] at h1; cases h1
          | some es =>
            rw [hcs] at h1
            simp only [Option.bind_some] at h1
            obtain ⟨x, hr, hb⟩ := ho (d := (elems[i]).1) (ps := (elems[i]).2) h1
            obtain ⟨hl, hc⟩ := mapM_cells hcs
            have h0 := hc 0 (by omega)
            have hspot : a.spot = none := by
              cases hsp : a.spot with
              | none => rfl
              | some k =>
                -- the first element's first cell lies at the address itself
                have h2 := hget 0 (by omega)
                cases hcs0 : w.cells? 0 (a.add (0 * sz α)) (sz α) with
                | none => rw [hcs0] at h2; cases h2
                | some es0 =>
                  obtain ⟨hl0, hc0⟩ := mapM_cells hcs0
                  have h3 := hc0 0 (by omega)
                  have e3 : (a.add (0 * sz α)).add 0 = a := by simp [Addr.add]
                  rw [e3] at h3
                  unfold World.cell? at h3
                  split at h3
                  · simp [hsp] at h3
                  · cases h3
            obtain ⟨b, off, sp⟩ := a
            simp only at hspot
            subst hspot
            rw [WideShapes.add_plain] at hc h0
            have hblt : b < w.heap.size := World.block_lt_of_cell? w _ h0
            refine ⟨x, ⟨b, off, rfl, hblt, es, ?_, hr⟩, hb⟩
            intro j u hu
            obtain ⟨hj, rfl⟩ := List.getElem?_eq_some_iff.1 hu
            have := hc j hj
            rwa [WideShapes.add_plain] at this
        have all : ∀ k, k ≤ elems.length → ∃ xs : List α, xs.length = k ∧ (∀ i (h : i < xs.length), ∃ b off, some a = some ⟨b, off, none⟩ ∧ Old w b ∧ ∃ es, Cells w b (off + i * sz α) es ∧ rd w (Old w) es xs[i]) ∧ bkL xs ≤ Rows.uptoBulkAll ((elems.map (·.1)).take k) := by
          intro k
          induction k with
          | zero => intro _; exact ⟨[], rfl, fun i hi => absurd hi (by simp), by simp [bkL, Rows.uptoBulkAll]⟩
          | succ k ih =>
            intro hk
            obtain ⟨xs, h1, h2, h3⟩ := ih (by omega)
            obtain ⟨x, h4, h5⟩ := one k (by omega)
            refine ⟨xs ++ [x], by simp [h1], ?_, ?_⟩
            · intro i hi
              by_cases hlt : i < xs.length
              · rw [List.getElem_append_left hlt]; exact h2 i hlt
              · have : i = k := by simp at hi; omega
                subst this
                rw [List.getElem_append_right (by omega)]
                simpa [h1] using h4
            · have hb : ∀ (l : List α), bkL (l ++ [x]) = bkL l + bk x := by
                intro l; induction l with
                | nil => simp [bkL]
                | cons y l ih => simp only [List.cons_append, bkL, ih]; omega
              rw [hb, List.take_succ_eq_append_getElem (by simp; omega), bulk_app]
              simp only [List.getElem_map, Rows.uptoBulkAll]
              omega
        obtain ⟨xs, h1, h2, h3⟩ := all elems.length (Nat.le_refl _)
        have hx : xs.length = len := by omega
        refine ⟨xs, ⟨some a, cap, by rw [hx], ⟨by omega, hmx, (fun h => by cases h), h2⟩⟩, ?_⟩
        show bkL xs + 1 ≤ _
        rw [List.take_of_length_le (by simp)] at h3
        simp only [Rows.uptoBulk]
        omega
    · cases hd

theorem Opn.slice {P : Program} {t e : TypeId} {α : Type} [Rep α] [Bk α] [hs : IsS P t e] [ht : IsT P e α] [ho : Opn P e α] : Opn P t (List α) where
  op := by
    intro H enc w fuel cs d ps hd
    cases fuel with
    | zero => simp [DataW.trod] at hd
    | succ fuel => exact slice_op (e := e) (fun h => ho.op h) hd

theorem okWide_form {P : Program} {w : World} {r : Reach} {base : Nat} {t : TypeId} {v : Value} {d : TypeDesc} (hu : P.underlying t = some d) (h : Value.okWide P w r base t v) :
    (aggD d = false → v.oneCell' = true) ∧ (aggD d = true → ∃ cs, v = .agg cs) := by
  unfold Value.okWide at h
  rw [hu] at h
  constructor
  · intro hd
    cases v <;> first
      | rfl
      | (exfalso; cases d <;> simp [aggD] at hd <;> simp [Cell.okWide, Cell.ok, hu] at h)
  · intro hd
    cases d <;> simp [aggD] at hd <;> (obtain ⟨cs, rfl, _⟩ := h; exact ⟨cs, rfl⟩)
/-- an argument, opened -/
theorem Opn.arg {P : Program} {t : TypeId} {α : Type} [Rep α] [Bk α] [ht : IsT P t α] [ho : Opn P t α] {H : Type} {enc : TypeId × Value → H} {w : World} {v : Value} {d : DataW H} {ps : List MemPlace} {r : Reach} {base : Nat}
    (hv : Value.okWide P w r base t v) (h : DataW.Trod enc P w 0 (fun _ => true) true t v d ps) : ∃ x : α, Rd w (Old w) v x ∧ bk x ≤ Rows.uptoBulk d := by
  obtain ⟨i, dd, _, _, h3, h4⟩ := ht.ok
  obtain ⟨f1, f2⟩ := okWide_form h3 hv
  obtain ⟨fuel, hf⟩ := h
  obtain ⟨x, hr, hb⟩ := ho.op hf
  refine ⟨x, ⟨v.cells.toList, ?_, hr⟩, hb⟩
  unfold vOf
  split
  · rename_i he
    obtain ⟨cs, rfl⟩ := f2 (h4.trans he)
    simp [Value.cells]
  · rename_i he
    have := f1 (h4.trans he)
    cases v <;> first | rfl | (simp [Value.oneCell'] at this)

theorem trodAll_below {H : Type} {enc : TypeId × Value → H} {P : Program} (hl : laidOutB P = true) {W W' : World} (hb : Ext W W') : ∀ {ts : List TypeId} {vs : List Value} {ds : List (DataW H)} {ps : List MemPlace},
    (∀ t ∈ ts, P.readableRec t = true ∧ t < P.types.size) → DataW.TrodAll enc P W 0 (fun _ => true) true ts vs ds ps → (∀ x ∈ ps, x.block < W.heap.size) →
    DataW.TrodAll enc P W' 0 (fun b => decide (b < W.heap.size)) true ts vs ds ps
  | [], [], [], _, _, h, _ => h
  | t :: ts, v :: vs, d :: ds, ps, hr, h, hlt => by
    obtain ⟨p, q, h1, h2, rfl⟩ := h
    exact ⟨p, q, Below.trod hl (hr t (by simp)).1 (hr t (by simp)).2 h1 hb (fun x hx => hlt x (by simp [hx])),
      trodAll_below hl hb (fun t ht => hr t (by simp [ht])) h2 (fun x hx => hlt x (by simp [hx])), rfl⟩
  | [], [], _ :: _, _, _, h, _ => h.elim
  | [], _ :: _, [], _, _, h, _ => h.elim
  | [], _ :: _, _ :: _, _, _, h, _ => h.elim
  | _ :: _, [], [], _, _, h, _ => h.elim
  | _ :: _, [], _ :: _, _, _, h, _ => h.elim
  | _ :: _, _ :: _, [], _, _, h, _ => h.elim

/-- the law's end: it returned true, and only new memory was made -/
theorem law_post {H : Type} {enc : TypeId × Value → H} {P : Program} {fn : Func} {s : ChangeSpec} {W W' : World} {args : Array Value} {ds gs : List (DataW H)} {before : List MemPlace} {tb : TypeId}
    (hl : laidOutB P = true) (hW : DataW.Whole enc P fn.params.toList s.vars false W args.toList ds gs before) (hv : s.vars = []) (hr : ∀ t ∈ fn.params.toList, P.readableRec t = true ∧ t < P.types.size)
    (hsp : (s.fn H (ds ++ gs)).results = [.lit (.bool true)] ∧ (s.fn H (ds ++ gs)).args = ds ∧ (s.fn H (ds ++ gs)).vars = []) (hres : fn.resultTypes = #[tb]) (hb : P.underlying tb = some .bool) (hE : Ext W W') :
    s.post enc P fn false true false false W args (.bool true) W' := by
  have hlt := hW.lt
  have hW' := hW
  obtain ⟨p, q, hA, hV, rfl, _, _⟩ := hW
  rw [hv] at hV
  obtain ⟨e1, e2, e3⟩ := hsp
  refine ⟨ds, gs, p ++ q, [], p, [], hW', ?_, ?_, ?_, hE.frame _, fun h => by cases h⟩
  · rw [e1, hres]
    exact trodAll_mk1 (shut_bool hb true)
  · rw [e2]
    exact trodAll_below hl hE hr hA (fun x hx => hlt x (by simp [hx]))
  · rw [e3, hv]
    exact rfl
/- structs -/
instance iOpen9 {α β : Type} [Bk α] [Bk β] : Bk (α × β) := ⟨fun x => bk x.1 + bk x.2⟩
/-- a list of fields, from an offset on -/
class OpnFs (P : Program) (fs : List (TypeId × Nat)) (off : Nat) (α : Type) [Rep α] [Bk α] : Prop where
  op : ∀ {H : Type} {enc : TypeId × Value → H} {w : World} {fuel : Nat} {cs : List Value} {xs : List (DataW H × List MemPlace)}, off + sz α = cs.length →
    (fs.mapM fun f => DataW.trod enc P w 0 (fun _ => true) true fuel f.1 ((cs.drop f.2).take (P.cellsOf f.1))) = some xs → ∃ x : α, rd w (Old w) (cs.drop off) x ∧ bk x ≤ Rows.uptoBulkAll (xs.map (·.1))
theorem cellsOf_T {P : Program} {t : TypeId} {α : Type} [Rep α] [ht : IsT P t α] : P.cellsOf t = sz α := by
  obtain ⟨i, h1, h2⟩ := IsT.info (P := P) (t := t) (α := α)
  simp [Program.cellsOf, h1, h2]
instance OpnFs.one {P : Program} {t : TypeId} {off : Nat} {α : Type} [Rep α] [Bk α] [ht : IsT P t α] [ho : Opn P t α] : OpnFs P [(t, off)] off α where
  op := by
    intro H enc w fuel cs xs hl h
    simp only [List.mapM_cons, List.mapM_nil, Option.bind_eq_bind, Option.pure_def] at h
    cases h1 : DataW.trod enc P w 0 (fun _ => true) true fuel t ((cs.drop off).take (P.cellsOf t)) with
    | none => rw [h1] at h; cases h
    | some d =>
      rw [h1] at h; simp at h; subst h
      obtain ⟨d, ps⟩ := d
      obtain ⟨x, hr, hb⟩ := ho.op h1
      rw [cellsOf_T (α := α), List.take_of_length_le (by rw [List.length_drop]; omega)] at hr
      exact ⟨x, hr, by simpa [Rows.uptoBulkAll] using hb⟩
instance OpnFs.cons {P : Program} {t : TypeId} {off : Nat} {f : TypeId × Nat} {fs : List (TypeId × Nat)} {α β : Type} [Rep α] [Bk α] [Rep β] [Bk β] [ht : IsT P t α] [ho : Opn P t α] [hr : OpnFs P (f :: fs) (off + sz α) β] : OpnFs P ((t, off) :: f :: fs) off (α × β) where
  op := by
    intro H enc w fuel cs xs hl h
    rw [List.mapM_cons] at h
    simp only [Option.bind_eq_bind, Option.pure_def] at h
    have hl' : off + sz α + sz β = cs.length := by
      have : sz (α × β) = sz α + sz β := rfl
      omega
    cases h1 : DataW.trod enc P w 0 (fun _ => true) true fuel t ((cs.drop off).take (P.cellsOf t)) with
    | none => rw [h1] at h; cases h
    | some d =>
      rw [h1] at h
      simp only [Option.bind_some] at h
      obtain ⟨ys, h2, h3⟩ := Option.bind_eq_some_iff.1 h
      cases h3
      obtain ⟨d, ps⟩ := d
      obtain ⟨x, hx, hb⟩ := ho.op h1
      obtain ⟨y, hy, hc⟩ := hr.op hl' h2
      rw [cellsOf_T (α := α)] at hx
      refine ⟨(x, y), ⟨(cs.drop off).take (sz α), cs.drop (off + sz α), ?_, hx, hy⟩, ?_⟩
      · rw [← List.drop_drop, List.take_append_drop]
      · show bk x + bk y ≤ _
        simp only [List.map_cons, Rows.uptoBulkAll]
        omega
def stFact (P : Program) (t : TypeId) : Option (List (TypeId × Nat)) := match P.underlying t with
  | some (.struct fs) => some (fs.toList.map fun f => (f.type, f.offset))
  | _ => none
theorem Opn.struct {P : Program} {t : TypeId} {fs : List (TypeId × Nat)} {α : Type} [Rep α] [Bk α] [ht : IsT P t α] [hf : OpnFs P fs 0 α] (h : stFact P t = some fs) : Opn P t α where
  op := by
    intro H enc w fuel cs d ps hd
    unfold stFact at h
    split at h
    · rename_i gs hu
      cases h
      cases fuel with
      | zero => simp [DataW.trod] at hd
      | succ fuel =>
        unfold DataW.trod at hd
        rw [hu] at hd
        simp only at hd
        split at hd
        · rename_i hl
          obtain ⟨xs, h1, h2⟩ := Option.map_eq_some_iff.1 hd
          cases h2
          have := hf.op (enc := enc) (w := w) (fuel := fuel) (cs := cs) (xs := xs) (by rw [hl, cellsOf_T (α := α)]; omega) (by rw [List.mapM_map]; exact h1)
          obtain ⟨x, hr, hb⟩ := this
          exact ⟨x, by simpa using hr, by simp only [Rows.uptoBulk]; omega⟩
        · cases hd
    · cases h
instance iOpen5 : Opn Try.prog 3 Int := Opn.int Try.underlying3
instance iOpen6 : Opn Try.prog 22 (List Int) := Opn.slice
instance iOpen7 : Opn Try.prog 23 (List (List Int)) := Opn.slice
end Go.Proofs.Ytadbkppgaekmpaa
/-
  The types of the arguments, as the form reads them.
-/
set_option linter.unusedVariables false
namespace Go.Proofs.Ytadbkppgaekmpaa
open Go.RowKit

instance iOpn1 : Opn Try.prog 4 Bool := Opn.bool Try.underlying4
instance iOpn2 : Opn Try.prog 33 Nat := Opn.u64 Try.underlying33
instance iOpn3 : Opn Try.prog 9 ByteArray := Opn.string Try.underlying9
instance iOpn4 : Opn Try.prog 27 Int := Opn.int Try.underlying27
instance iOpn5 : Opn Try.prog 97 (List Bool) := Opn.slice
instance iOpn6 : Opn Try.prog 24 (List Nat) := Opn.slice
instance iOpn10 : Opn Try.prog 59 (ByteArray × Int) := Opn.struct (fs := [(9, 0), (3, 1)]) (by kernel_rfl)
instance iOpn11 : Opn Try.prog 62 (Int × Int) := Opn.struct (fs := [(3, 0), (3, 1)]) (by kernel_rfl)
instance iOpn12 : Opn Try.prog 92 (Int × Int × Int) := Opn.struct (fs := [(3, 0), (3, 1), (3, 2)]) (by kernel_rfl)
instance iOpn13 : Opn Try.prog 77 (Int × Int) := Opn.struct (fs := [(3, 0), (3, 1)]) (by kernel_rfl)
instance iOpn14 : Opn Try.prog 50 (List (ByteArray × Int)) := Opn.slice
instance iOpn15 : Opn Try.prog 51 (List (Int × Int)) := Opn.slice
instance iOpn16 : Opn Try.prog 86 (List (Int × Int × Int)) := Opn.slice
instance iOpn17 : Opn Try.prog 74 (List (Int × Int)) := Opn.slice
instance iOpn18 : Opn Try.prog 42 (List Nat × List Nat) := Opn.struct (fs := [(24, 0), (24, 1)]) (by kernel_rfl)
instance iOpn19 : Opn Try.prog 101 (List Int × List Int) := Opn.struct (fs := [(22, 0), (22, 1)]) (by kernel_rfl)
instance iOpn22 : Opn Try.prog 81 (List Int × List (List Int) × List Nat × List (List Int)) := Opn.struct (fs := [(22, 0), (23, 1), (24, 2), (23, 3)]) (by kernel_rfl)
instance iOpn23 : Opn Try.prog 26 (List Int × List (List Int) × List Nat × List Nat × List (List Int)) := Opn.struct (fs := [(22, 0), (23, 1), (24, 2), (24, 3), (23, 4)]) (by kernel_rfl)
instance iOpn24 : Opn Try.prog 53 (List (ByteArray × Int) × List (Int × Int)) := Opn.struct (fs := [(50, 0), (51, 1)]) (by kernel_rfl)
instance iOpn25 : Opn Try.prog 116 (Bool × List Int × List Int) := Opn.struct (fs := [(4, 0), (22, 1), (22, 2)]) (by kernel_rfl)
end Go.Proofs.Ytadbkppgaekmpaa
