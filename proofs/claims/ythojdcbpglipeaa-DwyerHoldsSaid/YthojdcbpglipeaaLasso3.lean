/-
  Package lasso: what formulas say at all places.
-/
import Derived.Test.YthojdcbpglipeaaLasso2
import Derived.Test.YthojdcbpglipeaaLtl2
set_option linter.unusedVariables false
set_option linter.unusedSimpArgs false
namespace Go.Proofs.Ythojdcbpglipeaa
open Go.RowKit

def bitW (s l : List Nat) (i a : Nat) : Bool := decide (lat s l i >>> a &&& 1 = 1)
/-- one place, of the kinds that go place by place -/
def placeK (s l : List Nat) (k n : Int) (ks : List (List Bool)) (i : Nat) : Bool :=
  if k = 3 then bitW s l i n.toNat
  else if k = 5 then (ks.getD 0 []).getD i false && (ks.getD 1 []).getD i false
  else if k = 6 then (ks.getD 0 []).getD i false || (ks.getD 1 []).getD i false
  else if k = 7 then (ks.getD 0 []).getD (nextL s l i) false
  else false
def comb (s l : List Nat) (k n : Int) (ks : List (List Bool)) : List Bool :=
  if k = 8 then untilL s l (ks.getD 0 []) (ks.getD 1 [])
  else if k = 9 then (untilL s l ((ks.getD 0 []).map (!·)) ((ks.getD 1 []).map (!·))).map (!·)
  else if k = 10 then untilL s l (List.replicate (s.length + l.length) true) (ks.getD 0 [])
  else if k = 11 then (untilL s l (List.replicate (s.length + l.length) true) ((ks.getD 0 []).map (!·))).map (!·)
  else if k = 4 then (ks.getD 0 []).map (!·)
  else if k = 1 then List.replicate (s.length + l.length) true
  else (List.range (s.length + l.length)).map (placeK s l k n ks)
mutual
def holdsL (s l : List Nat) : Ltl → List Bool
  | .mk k n kids => comb s l k n (holdsLs s l kids)
def holdsLs (s l : List Nat) : List Ltl → List (List Bool)
  | [] => []
  | x :: r => holdsL s l x :: holdsLs s l r
end
mutual
def wfT : Ltl → Prop
  | .mk k n kids => kidsK k = kids.length ∧ 0 ≤ n ∧ n ≤ 63 ∧ (k ≠ 3 → n = 0) ∧ wfTs kids
def wfTs : List Ltl → Prop
  | [] => True
  | x :: r => wfT x ∧ wfTs r
end
mutual
theorem chkF_wf : ∀ (t : Ltl) (deep c : Int), (chkF t deep c).1 = 0 → wfT t
  | .mk k n kids, deep, c, h => by
    simp only [chkF] at h
    split at h
    · cases h
    · split at h
      · cases h
      · split at h
        · cases h
        · rename_i h3
          simp only [wfT]
          have := chkFL_wf kids _ _ h
          refine ⟨by omega, by omega, by omega, by omega, this⟩
theorem chkFL_wf : ∀ (l : List Ltl) (deep c : Int), (chkFL l deep c).1 = 0 → wfTs l
  | [], _, _, _ => trivial
  | x :: r, deep, c, h => by
    simp only [chkFL] at h
    split at h
    · rename_i h1; exact absurd h h1
    · rename_i h1
      exact ⟨chkF_wf x deep c (by simpa using h1), chkFL_wf r _ _ h⟩
end
theorem holdsLs_len (s l : List Nat) : ∀ kids, (holdsLs s l kids).length = kids.length
  | [] => rfl
  | x :: r => by simp [holdsLs, holdsLs_len s l r]
theorem kidsK_cases (k : Int) : (kidsK k = 0 ∧ (k = 1 ∨ k = 2 ∨ k = 3)) ∨ (kidsK k = 1 ∧ (k = 4 ∨ k = 7 ∨ k = 10 ∨ k = 11)) ∨ (kidsK k = 2 ∧ (k = 5 ∨ k = 6 ∨ k = 8 ∨ k = 9)) ∨ kidsK k = -1 := by
  unfold kidsK; split
  · omega
  · split
    · omega
    · split <;> omega
theorem comb_len {s l : List Nat} {k n : Int} {ks : List (List Bool)} (hk : kidsK k = ks.length) (h : ∀ x ∈ ks, x.length = s.length + l.length) : (comb s l k n ks).length = s.length + l.length := by
  have g0 : 0 < ks.length → (ks.getD 0 []).length = s.length + l.length := by
    intro h0
    rw [List.getD_eq_getElem?_getD, List.getElem?_eq_getElem h0]
    exact h _ (List.getElem_mem h0)
  have hc := kidsK_cases k
  unfold comb
  split
  · rw [untilL_len]; exact g0 (by omega)
  · split
    · rw [List.length_map, untilL_len, List.length_map]; exact g0 (by omega)
    · split
      · rw [untilL_len, List.length_replicate]
      · split
        · rw [List.length_map, untilL_len, List.length_replicate]
        · split
          · rw [List.length_map]; exact g0 (by omega)
          · split
            · rw [List.length_replicate]
            · simp
mutual
theorem holdsL_len {s l : List Nat} : ∀ t, wfT t → (holdsL s l t).length = s.length + l.length
  | .mk k n kids, h => by
    simp only [wfT] at h
    simp only [holdsL]
    exact comb_len (by rw [holdsLs_len]; exact h.1) (holdsLs_lens kids h.2.2.2.2)
theorem holdsLs_lens {s l : List Nat} : ∀ kids, wfTs kids → ∀ x ∈ holdsLs s l kids, x.length = s.length + l.length
  | [], _, x, hx => by simp [holdsLs] at hx
  | t :: r, h, x, hx => by
    simp only [holdsLs, List.mem_cons] at hx
    rcases hx with rfl | hx
    · exact holdsL_len t h.1
    · exact holdsLs_lens r h.2 x hx
end
theorem wfTs_get : ∀ (kids : List Ltl) (i : Nat) (h : i < kids.length), wfTs kids → wfT kids[i]
  | x :: r, 0, h, hw => hw.1
  | x :: r, i + 1, h, hw => wfTs_get r i (by simpa using h) hw.2
theorem holdsLs_take (s l : List Nat) : ∀ (kids : List Ltl) (i : Nat) (h : i < kids.length), holdsLs s l (kids.take (i + 1)) = holdsLs s l (kids.take i) ++ [holdsL s l kids[i]]
  | x :: r, 0, h => by simp [holdsLs]
  | x :: r, i + 1, h => by
    simp only [List.take_succ_cons, holdsLs, List.cons_append, List.getElem_cons_succ]
    rw [holdsLs_take s l r i (by simpa using h)]

theorem holds_ok : ∀ (m : Nat) (t : Ltl), t.nodes ≤ m → wfT t → ∀ (w : World) (F : Nat → Prop) (ao : Option Addr) (cap : Nat) (so lo : Option Addr) (sc lc : Nat) (s l : List Nat), Sl w F ao cap t.kids → Sl w F so sc s → Sl w F lo lc l → (∀ b, F b → b < w.heap.size) → chkW s l = 0 →
    Rt Try.prog 136 [ltlV t.k t.n ao t.kids.length cap, wordV so sc lo lc s l].toArray w fun v w' => Own w' w.heap.size 4 Non v (holdsL s l t) ∧ Ext w w'
  | 0, t, hm => by have := t.nodes_pos; omega
  | m + 1, .mk k n kids, hm => by
    intro hwf w F ao cap so lo sc lc s l hkids hs hl hF hc
    simp only [Ltl.kids, Ltl.k, Ltl.n] at *
    have hW := chkW_ok hc
    simp only [wfT] at hwf
    obtain ⟨hkk, hn0, hn63, hn3, hwk⟩ := hwf
    refine Rt.enter2 Try.func136 Try.ntmps136 rfl rfl ?_
    (repeat (first | (apply CW.seq) | (apply CW.region)))
    refine WL.boxB rfl rfl rfl fun w1 hf hE1 => ?_
    refine WL.boxB rfl rfl rfl fun w2 hw hE2 => ?_
    have hf := hf.ext hE2
    have hE2 := hE1.trans hE2
    have hwl := hw.lt
    (repeat (first | (apply WL.add; rfl; rfl; rfl; rfl; omega; omega) | (apply WL.pure; rfl; rfl; rfl) | (apply WL.nil) | (apply EX.thenN) | (apply CW.seq) | (apply CW.region) | (apply WL.lenS; rfl; rfl; rfl) | (apply WL.fa; rfl; rfl; rfl) | (apply WL.ld; rfl; rfl; rfl; assumption; rfl)))
    have hN : ((s.length : Int) + l.length) = ((s.length + l.length : Nat) : Int) := by omega
    rw [hN]
    generalize hNN : s.length + l.length = N at *
    refine WL.make (α := Bool) (x0 := false) (bytes := 1) rfl rfl rfl rfl (by omega) (by unfold maxLen; omega) (fun w3 hout hgr => ?_)
    have hE23 : Ext w2 w3 := (Ext.refl w2).grown hgr (Nat.le_refl _) (fun k h => by cases h)
    have hf := hf.ext hE23
    have hw := hw.ext hE23
    have hE3 := hE2.trans hE23
    generalize hv : Value.slice (some ⟨w2.heap.size, 0, none⟩) N N = v6 at *
    have hout3 := hout.lt
    (repeat (first | (apply WL.pure; rfl; rfl; rfl) | (apply WL.nil) | (apply EX.thenN) | (apply CW.seq) | (apply CW.region) | (apply WL.lenS; rfl; rfl; rfl) | (apply WL.fa; rfl; rfl; rfl) | (apply WL.ld; rfl; rfl; rfl; assumption; rfl) | (apply CW.block)))
    refine CW.loop (S := Nat × Value) (fun x => [(2, .pointer (some ⟨w.heap.size, 0, none⟩)), (3, .pointer (some ⟨w1.heap.size, 0, none⟩)), (5, .int .i64 (N : Int)), (6, v6), (7, x.2), (22, .slice ao kids.length cap), (23, .int .i64 (kids.length : Int)), (24, .int .i64 (x.1 : Int))])
      (fun x w' => Ext w3 w' ∧ x.1 ≤ kids.length ∧ ∃ G, Own w' w3.heap.size 214 G x.2 (holdsLs s l (kids.take x.1)) ∧ (∀ b, G b → b < w'.heap.size) ∧ ∀ b, G b → w3.heap.size ≤ b) (fun x => kids.length - x.1) (0, .slice none 0 0) (by repeat (first | exact trivial | refine ⟨rfl, ?_⟩)) ⟨Ext.refl _, by omega, Non, Own.nil, fun _ h => h.elim, fun _ h => h.elim⟩ ?_
    rintro ⟨i, v7⟩ w4 ⟨hE4, hi, G, ho7, hG, hGl⟩
    simp only at ho7 hi
    have hE4' := hE3.trans hE4
    have hk4 := hkids.mono (fun b hb => hE4'.block b (hF b hb)) fun _ h => h
    have hF4 : ∀ b, F b → b < w4.heap.size := fun b hb => Nat.lt_of_lt_of_le (hF b hb) hE4'.size
    have hlen := hkids.len63
    have hkl : kids.length ≤ 2 := by have := kidsK_cases k; omega
    (repeat (first | (apply WL.pure; rfl; rfl; rfl) | (apply WL.nil) | (apply EX.thenN) | (apply CW.seq) | (apply CW.region)))
    refine CW.cond rfl (fun h => ?_) (fun h => ?_) <;> simp at h
    · (repeat (first | (apply EX.thenN) | (apply CW.seq) | (apply CW.region) | (apply CW.block) | (apply CW.skip)))
      refine WL.elemN rfl rfl rfl rfl rfl hk4 h (fun _ => rfl) (fun u q hu => ?_)
      have hnode : (kids[i]).nodes ≤ m := by
        have := Ltl.nodes_kid kids _ (List.getElem_mem h)
        simp only [Ltl.nodes] at hm; omega
      have hwx := wfTs_get kids i h hwk
      have htk := holdsLs_take s l kids i h
      generalize kids[i] = x at *
      obtain ⟨ao', cap', rfl, hx⟩ := hu.ltl
      refine WL.alloc rfl rfl (fun w5 hb5 hE5 => ?_)
      refine WL.st rfl rfl rfl hb5 rfl rfl (ones_of rfl) (fun w6 hb6 hgr6 => ?_)
      have hE46 : Ext w4 w6 := hE5.grown hgr6 hE5.size (fun g hg => by cases hg; exact Nat.le_refl _)
      have hE6 := hE4.trans hE46
      have hE6' := hE3.trans hE6
      have hw6 := hw.ext hE6
      have ho76 := ho7.ext hE46 hG
      (repeat (first | (apply WL.pure; rfl; rfl; rfl) | (apply WL.nil) | (apply EX.thenN) | (apply CW.region) | (apply WL.ldA; rfl; rfl; rfl; assumption; rfl)))
      refine WL.call rfl rfl rfl (holds_ok m x hnode hwx w6 F ao' cap' so lo sc lc s l (hx.mono (fun b hb => hE46.block b (hF4 b hb)) fun _ h => h) (hs.mono (fun b hb => hE6'.block b (hF b hb)) fun _ h => h) (hl.mono (fun b hb => hE6'.block b (hF b hb)) fun _ h => h) (fun b hb => Nat.lt_of_lt_of_le (hF b hb) hE6'.size) hc) ?_
      rintro u w7 ⟨hou, hE67⟩
      have hE7 := hE6.trans hE67
      have hG6 : ∀ b, G b → b < w6.heap.size := fun b hb => Nat.lt_of_lt_of_le (hG b hb) hE46.size
      have ho77 := ho76.ext hE67 hG6
      have ho78 : Own w7 w3.heap.size 214 (fun b => G b ∨ u.ownBlock = some b) v7 (holdsLs s l (kids.take i)) := by
        refine ho77.wk (fun b hb => .inl hb) (fun g hg h => ?_)
        rcases h with h | h
        · exact (ho77.lt g hg).2.2 h
        · have h1 := (ho76.lt g hg).2.1
          have h2 := (hou.lt g h).1
          omega
      have hru : Rd w7 (fun b => G b ∨ u.ownBlock = some b) u (holdsL s l x) := hou.rd.mono (fun _ _ => rfl) (fun b hb => hb.elim (fun h => h.elim) .inr)
      have hGG : ∀ b, (G b ∨ u.ownBlock = some b) → b < w7.heap.size := by
        rintro b (hb | hb)
        · exact Nat.lt_of_lt_of_le (hG6 b hb) hE67.size
        · exact (hou.lt b hb).2.1
      skip
      refine WL.app1 (α := List Bool) (yv := holdsL s l x) rfl rfl (fun _ => rfl) rfl rfl (fun _ => rfl) ho78 hru hE7.size hGG (by show 1 ≤ 16777216; decide) (by rw [holdsLs_len, List.length_take]; unfold maxLen; omega) (by rw [holdsLs_len, List.length_take]; omega) (fun v' w8 p ho8 hgr8 _ => ?_)
      have hE8 : Ext w3 w8 := hE7.grown hgr8 hE7.size (fun g hg => (ho78.lt g hg).1)
      (repeat (first | (apply WL.add; rfl; rfl; rfl; rfl; omega; omega) | (apply WL.pure; rfl; rfl; rfl) | (apply WL.nil) | (apply EX.thenN) | (apply CW.region) | (apply EX.inN)))
      refine EX.back (i + 1, v') (by repeat (first | exact trivial | refine ⟨rfl, ?_⟩)) ⟨hE8, by simp only; omega, _, by rw [← htk] at ho8; exact ho8, fun b hb => Nat.lt_of_lt_of_le (hGG b hb) hgr8.size, fun b hb => hb.elim (hGl b) (fun h => Nat.le_trans hE6.size (hou.lt b h).1)⟩ (by simp only; omega)
    · have hik : i = kids.length := by omega
      subst hik
      rw [List.take_length] at ho7
      have hksl := holdsLs_len s l kids
      have hklen := holdsLs_lens (s := s) (l := l) kids hwk
      simp only [holdsL]
      rw [← hksl] at hkk
      generalize holdsLs s l kids = ks at *
      have hlt7 := fun g hg => (ho7.lt g hg).2.1
      obtain ⟨ko, kcap, rfl, hksn⟩ := ho7.slF (F' := fun b => w3.heap.size ≤ b ∧ b < w4.heap.size) (fun b hb => ⟨hGl b hb, hG b hb⟩) (fun g hg => ⟨(ho7.lt g hg).1, hlt7 g hg⟩)
      have hks := hksn.mono (F' := Old w4) (fun _ _ => rfl) (fun _ h => h.2)
      have ho6 := hout.extN hE4
      obtain ⟨oo, oc, rfl, hso⟩ := ho6.slF (F' := Old w4) (fun _ h => h.elim) (fun g hg => (ho6.lt g hg).2.1)
      (repeat (first | (apply WL.pure; rfl; rfl; rfl) | (apply EX.thenN) | (apply CW.seq) | (apply CW.region) | (apply CW.exit) | (apply EX.thenX) | (apply EX.inX)))
      refine WL.call rfl rfl rfl (not_ok w4 hso (fun _ h => h) (by simp; omega)) ?_
      rintro v10 w5 ⟨ho10, hE5⟩
      rw [List.map_replicate] at ho10
      have hks := hks.up hE5
      have hksn := hksn.mono (fun b h => hE5.block b h.2) (fun _ h => h)
      have ho6 := ho6.extN hE5
      have hE5' := hE4'.trans hE5
      have hE35 := hE4.trans hE5
      have hf5 := hf.ext hE35
      have hw5 := hw.ext hE35
      obtain ⟨lo10, lc10, rfl, hs10⟩ := ho10.slF (F' := Old w5) (fun _ h => h.elim) (fun g hg => (ho10.lt g hg).2.1)
      have hSE : ∀ w1, (fun w' => Ext w5 w') w1 → Ext w5 w1 := fun _ h => h
      have hsz5 : w.heap.size ≤ w5.heap.size := hE5'.size
      have get0 : ∀ (h : 0 < ks.length), ks.getD 0 [] = ks[0] ∧ (ks[0]).length = s.length + l.length := fun h => ⟨by rw [List.getD_eq_getElem?_getD, List.getElem?_eq_getElem h]; rfl, hklen _ (List.getElem_mem h)⟩
      have get1 : ∀ (h : 1 < ks.length), ks.getD 1 [] = ks[1] ∧ (ks[1]).length = s.length + l.length := fun h => ⟨by rw [List.getD_eq_getElem?_getD, List.getElem?_eq_getElem h]; rfl, hklen _ (List.getElem_mem h)⟩
      unfold comb
      rw [hNN]
      (repeat (first | (apply WL.pure; rfl; rfl; rfl) | (apply WL.nil) | (apply EX.thenN) | (apply CW.seq) | (apply CW.region) | (apply WL.fa; rfl; rfl; rfl) | (apply WL.ld; rfl; rfl; rfl; assumption; rfl) | (apply CW.block)))
      refine CW.cond rfl (fun h => ?_) (fun h => ?_) <;> simp at h
      · rw [if_pos h]
        subst h
        have hkl2 : ks.length = 2 := by simp [kidsK] at hkk; omega
        have h0l : 0 < ks.length := by omega
        have g0 := get0 h0l
        have h1l : 1 < ks.length := by omega
        have g1 := get1 h1l
        rw [g1.1]
        rw [g0.1]
        apply CW.seq
        refine CW.drawH (fun w' => Ext w5 w') [(0, true), (1, true), (2, true), (3, true), (4, true), (5, true), (6, true), (7, false), (8, true)] mixed (by kernel_rfl) (Ext.drew w5) ?_
        (repeat (first | (apply HL.pure; rfl; rfl; rfl; rfl) | (refine HL.ldA (by assumption) rfl rfl rfl rfl (by assumption) rfl ?_)))
        refine HL.elemN (α := List Bool) (k := 0) hSE rfl rfl rfl rfl rfl rfl rfl (fun _ h => h) hks h0l (fun _ => rfl) (fun ua qa hua => ?_)
        obtain ⟨aa, ca, rfl, hsa⟩ := hua.sl
        (repeat (apply HL.pure; rfl; rfl; rfl; rfl))
        refine HL.elemN (α := List Bool) (k := 1) hSE rfl rfl rfl rfl rfl rfl rfl (fun _ h => h) hks h1l (fun _ => rfl) (fun ub qb hub => ?_)
        obtain ⟨ab, cb, rfl, hsb⟩ := hub.sl
        skip
        refine HL.mut rfl (WL.call rfl rfl rfl (until_ok (s := s) (l := l) (drew w5) (hsa.at (Ext.drew w5)) (hsb.at (Ext.drew w5)) (fun _ h => h) (by omega) g0.2 g1.2 hW.2) ?_)
        rintro v w6 ⟨hov, hEw6⟩
        have hTw6 : Ext w5 w6 := (Ext.drew w5).trans hEw6
        refine WL.nil (EX.mut hTw6 ?_)
        (repeat (first | (apply HL.pure; rfl; rfl; rfl; rfl) | (apply HL.nil)))
        (repeat (first | (apply EX.thenN) | (apply CW.ret) | (apply EX.thenR) | (apply EX.inR)))
        exact EX.ret1 rfl rfl ⟨hov.low hsz5, hE5'.trans hTw6⟩
      rw [if_neg h]
      (repeat (first | (apply WL.pure; rfl; rfl; rfl) | (apply WL.nil) | (apply EX.thenN) | (apply CW.seq) | (apply CW.region)))
      refine CW.cond rfl (fun h => ?_) (fun h => ?_) <;> simp at h
      · rw [if_pos h]
        subst h
        have hkl2 : ks.length = 2 := by simp [kidsK] at hkk; omega
        have h0l : 0 < ks.length := by omega
        have g0 := get0 h0l
        have h1l : 1 < ks.length := by omega
        have g1 := get1 h1l
        rw [g1.1]
        rw [g0.1]
        apply CW.seq
        refine CW.drawH (fun w' => Ext w5 w') [(0, true), (1, true), (2, true), (3, true), (5, true), (6, true), (7, true), (4, false), (8, false), (9, false), (10, false), (11, true)] mixed (by kernel_rfl) (Ext.drew w5) ?_
        (repeat (first | (apply HL.pure; rfl; rfl; rfl; rfl) | (refine HL.ldA (by assumption) rfl rfl rfl rfl (by assumption) rfl ?_)))
        refine HL.elemN (α := List Bool) (k := 0) hSE rfl rfl rfl rfl rfl rfl rfl (fun _ h => h) hks h0l (fun _ => rfl) (fun ua qa hua => ?_)
        obtain ⟨aa, ca, rfl, hsa⟩ := hua.sl
        (repeat (apply HL.pure; rfl; rfl; rfl; rfl))
        refine HL.elemN (α := List Bool) (k := 1) hSE rfl rfl rfl rfl rfl rfl rfl (fun _ h => h) hks h1l (fun _ => rfl) (fun ub qb hub => ?_)
        obtain ⟨ab, cb, rfl, hsb⟩ := hub.sl
        skip
        refine HL.mut rfl (WL.call rfl rfl rfl (not_ok (drew w5) (hsa.at (Ext.drew w5)) (fun _ h => h) (by omega)) ?_)
        rintro v w6 ⟨hov, hEw6⟩
        have hTw6 : Ext w5 w6 := (Ext.drew w5).trans hEw6
        refine WL.nil (EX.mut hTw6 ?_)
        skip
        obtain ⟨av, cv, rfl, hsv⟩ := hov.slF (F' := Old w6) (fun _ h => h.elim) (fun g hg => (hov.lt g hg).2.1)
        refine HL.mut rfl (WL.call rfl rfl rfl (not_ok w6 (hsb.at hTw6) (fun _ h => Nat.lt_of_lt_of_le h hTw6.size) (by omega)) ?_)
        rintro u w7 ⟨hou, hEw7⟩
        have hTw7 : Ext w5 w7 := hTw6.trans hEw7
        refine WL.nil (EX.mut hTw7 ?_)
        skip
        obtain ⟨au, cu, rfl, hsu⟩ := hou.slF (F' := Old w7) (fun _ h => h.elim) (fun g hg => (hou.lt g hg).2.1)
        refine HL.mut rfl (WL.call rfl rfl rfl (until_ok (s := s) (l := l) w7 (hsv.up hEw7) hsu (fun _ h => h) (by omega) (by rw [List.length_map]; exact g0.2) (by rw [List.length_map]; exact g1.2) hW.2) ?_)
        rintro y w8 ⟨hoy, hEw8⟩
        have hTw8 : Ext w5 w8 := hTw7.trans hEw8
        refine WL.nil (EX.mut hTw8 ?_)
        skip
        obtain ⟨ay, cy, rfl, hsy⟩ := hoy.slF (F' := Old w8) (fun _ h => h.elim) (fun g hg => (hoy.lt g hg).2.1)
        refine HL.mut rfl (WL.call rfl rfl rfl (not_ok w8 hsy (fun _ h => h) (by rw [untilL_len, List.length_map]; omega)) ?_)
        rintro z w9 ⟨hoz, hEw9⟩
        have hTw9 : Ext w5 w9 := hTw8.trans hEw9
        refine WL.nil (EX.mut hTw9 ?_)
        (repeat (first | (apply HL.pure; rfl; rfl; rfl; rfl) | (apply HL.nil)))
        (repeat (first | (apply EX.thenN) | (apply CW.ret) | (apply EX.thenR) | (apply EX.inR)))
        exact EX.ret1 rfl rfl ⟨hoz.low (Nat.le_trans hsz5 hTw8.size), hE5'.trans hTw9⟩
      rw [if_neg h]
      (repeat (first | (apply WL.pure; rfl; rfl; rfl) | (apply WL.nil) | (apply EX.thenN) | (apply CW.seq) | (apply CW.region)))
      refine CW.cond rfl (fun h => ?_) (fun h => ?_) <;> simp at h
      · rw [if_pos h]
        subst h
        have hkl2 : ks.length = 1 := by simp [kidsK] at hkk; omega
        have h0l : 0 < ks.length := by omega
        have g0 := get0 h0l
        rw [g0.1]
        apply CW.seq
        refine CW.drawH (fun w' => Ext w5 w') [(0, true), (1, true), (2, true), (3, true), (4, true), (5, false), (6, true)] mixed (by kernel_rfl) (Ext.drew w5) ?_
        (repeat (first | (apply HL.pure; rfl; rfl; rfl; rfl) | (refine HL.ldA (by assumption) rfl rfl rfl rfl (by assumption) rfl ?_)))
        refine HL.elemN (α := List Bool) (k := 0) hSE rfl rfl rfl rfl rfl rfl rfl (fun _ h => h) hks h0l (fun _ => rfl) (fun ua qa hua => ?_)
        obtain ⟨aa, ca, rfl, hsa⟩ := hua.sl
        skip
        refine HL.mut rfl (WL.call rfl rfl rfl (until_ok (s := s) (l := l) (drew w5) (hs10.at (Ext.drew w5)) (hsa.at (Ext.drew w5)) (fun _ h => h) (by omega) (by simp; omega) g0.2 hW.2) ?_)
        rintro v w6 ⟨hov, hEw6⟩
        have hTw6 : Ext w5 w6 := (Ext.drew w5).trans hEw6
        refine WL.nil (EX.mut hTw6 ?_)
        (repeat (first | (apply HL.pure; rfl; rfl; rfl; rfl) | (apply HL.nil)))
        (repeat (first | (apply EX.thenN) | (apply CW.ret) | (apply EX.thenR) | (apply EX.inR)))
        exact EX.ret1 rfl rfl ⟨hov.low hsz5, hE5'.trans hTw6⟩
      rw [if_neg h]
      (repeat (first | (apply WL.pure; rfl; rfl; rfl) | (apply WL.nil) | (apply EX.thenN) | (apply CW.seq) | (apply CW.region)))
      refine CW.cond rfl (fun h => ?_) (fun h => ?_) <;> simp at h
      · rw [if_pos h]
        subst h
        have hkl2 : ks.length = 1 := by simp [kidsK] at hkk; omega
        have h0l : 0 < ks.length := by omega
        have g0 := get0 h0l
        rw [g0.1]
        apply CW.seq
        refine CW.drawH (fun w' => Ext w5 w') [(0, true), (1, true), (2, true), (3, true), (4, true), (5, false), (6, false), (7, false), (8, true)] mixed (by kernel_rfl) (Ext.drew w5) ?_
        (repeat (first | (apply HL.pure; rfl; rfl; rfl; rfl) | (refine HL.ldA (by assumption) rfl rfl rfl rfl (by assumption) rfl ?_)))
        refine HL.elemN (α := List Bool) (k := 0) hSE rfl rfl rfl rfl rfl rfl rfl (fun _ h => h) hks h0l (fun _ => rfl) (fun ua qa hua => ?_)
        obtain ⟨aa, ca, rfl, hsa⟩ := hua.sl
        skip
        refine HL.mut rfl (WL.call rfl rfl rfl (not_ok (drew w5) (hsa.at (Ext.drew w5)) (fun _ h => h) (by omega)) ?_)
        rintro v w6 ⟨hov, hEw6⟩
        have hTw6 : Ext w5 w6 := (Ext.drew w5).trans hEw6
        refine WL.nil (EX.mut hTw6 ?_)
        skip
        obtain ⟨av, cv, rfl, hsv⟩ := hov.slF (F' := Old w6) (fun _ h => h.elim) (fun g hg => (hov.lt g hg).2.1)
        refine HL.mut rfl (WL.call rfl rfl rfl (until_ok (s := s) (l := l) w6 (hs10.up hTw6) hsv (fun _ h => h) (by omega) (by simp; omega) (by rw [List.length_map]; exact g0.2) hW.2) ?_)
        rintro y w8 ⟨hoy, hEw8⟩
        have hTw8 : Ext w5 w8 := hTw6.trans hEw8
        refine WL.nil (EX.mut hTw8 ?_)
        skip
        obtain ⟨ay, cy, rfl, hsy⟩ := hoy.slF (F' := Old w8) (fun _ h => h.elim) (fun g hg => (hoy.lt g hg).2.1)
        refine HL.mut rfl (WL.call rfl rfl rfl (not_ok w8 hsy (fun _ h => h) (by rw [untilL_len]; simp; omega)) ?_)
        rintro z w9 ⟨hoz, hEw9⟩
        have hTw9 : Ext w5 w9 := hTw8.trans hEw9
        refine WL.nil (EX.mut hTw9 ?_)
        (repeat (first | (apply HL.pure; rfl; rfl; rfl; rfl) | (apply HL.nil)))
        (repeat (first | (apply EX.thenN) | (apply CW.ret) | (apply EX.thenR) | (apply EX.inR)))
        exact EX.ret1 rfl rfl ⟨hoz.low (Nat.le_trans hsz5 hTw8.size), hE5'.trans hTw9⟩
      rw [if_neg h]
      (repeat (first | (apply WL.pure; rfl; rfl; rfl) | (apply WL.nil) | (apply EX.thenN) | (apply CW.seq) | (apply CW.region)))
      refine CW.cond rfl (fun h => ?_) (fun h => ?_) <;> simp at h
      · rw [if_pos h]
        subst h
        have hkl2 : ks.length = 1 := by simp [kidsK] at hkk; omega
        have h0l : 0 < ks.length := by omega
        have g0 := get0 h0l
        rw [g0.1]
        (repeat (first | (apply WL.pure; rfl; rfl; rfl) | (apply CW.seq) | (apply CW.region)))
        refine WL.elemN (α := List Bool) (i := 0) rfl rfl rfl rfl rfl hks h0l (fun _ => rfl) (fun ua qa hua => ?_)
        obtain ⟨aa, ca, rfl, hsa⟩ := hua.sl
        refine WL.call rfl rfl rfl (not_ok w5 hsa (fun _ h => h) (by omega)) ?_
        rintro v w6 ⟨hov, hE6⟩
        (repeat (first | (apply WL.pure; rfl; rfl; rfl) | (apply WL.nil) | (apply EX.thenN) | (apply CW.ret) | (apply EX.thenR) | (apply EX.inR)))
        exact EX.ret1 rfl rfl ⟨hov.low hsz5, hE5'.trans hE6⟩
      rw [if_neg h]
      (repeat (first | (apply WL.pure; rfl; rfl; rfl) | (apply WL.nil) | (apply EX.thenN) | (apply CW.seq) | (apply CW.region)))
      refine CW.cond rfl (fun h => ?_) (fun h => ?_) <;> simp at h
      · rw [if_pos h]
        (repeat (first | (apply WL.pure; rfl; rfl; rfl) | (apply WL.nil) | (apply EX.thenN) | (apply CW.seq) | (apply CW.region) | (apply CW.ret) | (apply EX.thenR) | (apply EX.inR)))
        exact EX.ret1 rfl rfl ⟨ho10.low hE4'.size, hE5'⟩
      rw [if_neg h]
      generalize hov : Value.slice oo (List.replicate N false).length oc = ov at ho6 ⊢
      have hlt6 : ∀ g, ov.ownBlock = some g → w2.heap.size ≤ g ∧ g < w3.heap.size := by
        intro g hg
        rw [← hov] at hg
        exact ⟨(hout3 g hg).1, (hout3 g hg).2.1⟩
      have hs35 : w3.heap.size ≤ w5.heap.size := hE35.size
      (repeat (first | (apply WL.pure; rfl; rfl; rfl) | (apply WL.nil) | (apply EX.thenN) | (apply CW.seq) | (apply CW.region) | (apply CW.block) | (apply EX.inN) | (apply CW.skip) | (refine WL.lenO rfl rfl rfl (by assumption) ?_)))
      refine CW.loop (S := Nat) (fun i => [(2, .pointer (some ⟨w.heap.size, 0, none⟩)), (3, .pointer (some ⟨w1.heap.size, 0, none⟩)), (6, ov), (7, .slice ko ks.length kcap), (90, .int .i64 ((List.replicate N false).length : Int)), (91, .int .i64 (i : Int))])
        (fun i w' => w5.grownBy w' ov.ownBlock ∧ i ≤ N ∧ Own w' w2.heap.size 4 Non ov ((List.range i).map (placeK s l k n ks) ++ List.replicate (N - i) false)) (fun i => N - i) 0 (by repeat (first | exact trivial | refine ⟨rfl, ?_⟩)) ⟨(Ext.refl w5).grw _, by omega, by simpa using ho6⟩ ?_
      rintro i w6 ⟨hg6, hiN, ho⟩
      have hwl1 : w1.heap.size < w2.heap.size := hwl
      have hf6 := hf5.kept hg6 (fun e => by have := (hlt6 _ e.symm).1; have := hE1.size; omega)
      have hw6 := hw5.kept hg6 (fun e => by have := (hlt6 _ e.symm).1; omega)
      have hE6 : Ext w w6 := hE5'.grown hg6 hsz5 (fun g hg => by have := (hlt6 g hg).1; have := hE2.size; omega)
      have hs6 := hs.mono (fun b hb => hE6.block b (hF b hb)) fun _ h => h
      have hl6 := hl.mono (fun b hb => hE6.block b (hF b hb)) fun _ h => h
      have hF6 : ∀ b, F b → b < w6.heap.size := fun b hb => Nat.lt_of_lt_of_le (hF b hb) hE6.size
      have hK6 : ∀ b, (w3.heap.size ≤ b ∧ b < w4.heap.size) → w6.heap[b]? = w5.heap[b]? := fun b hb => hg6.block b (Nat.lt_of_lt_of_le hb.2 hE5.size) (fun e => by have := (hlt6 _ e.symm).2; omega)
      have hks6 := hksn.mono hK6 (fun _ h => h)
      have hend : ∀ w', w6.grownBy w' ov.ownBlock → Own w' w2.heap.size 4 Non ov (((List.range i).map (placeK s l k n ks) ++ List.replicate (N - i) false).set i (placeK s l k n ks i)) → i < N → w5.grownBy w' ov.ownBlock ∧ i + 1 ≤ N ∧ Own w' w2.heap.size 4 Non ov ((List.range (i + 1)).map (placeK s l k n ks) ++ List.replicate (N - (i + 1)) false) := by
        intro w' hg ho hlt
        refine ⟨grown_tr hg6 hg, hlt, ?_⟩
        have e : ((List.range i).map (placeK s l k n ks) ++ List.replicate (N - i) false).set i (placeK s l k n ks i) = (List.range (i + 1)).map (placeK s l k n ks) ++ List.replicate (N - (i + 1)) false := by
          rw [List.set_append_right _ _ (by simp)]
          have h0 : i - ((List.range i).map (placeK s l k n ks)).length = 0 := by simp
          rw [h0, show N - i = (N - (i + 1)) + 1 by omega, List.replicate_succ, List.set_cons_zero, List.range_succ, List.map_append]
          simp
        rw [← e]; exact ho
      have hlen6 : ((List.range i).map (placeK s l k n ks) ++ List.replicate (N - i) false).length = N := by simp; omega
      (repeat (first | (apply WL.pure; rfl; rfl; rfl) | (apply WL.nil) | (apply EX.thenN) | (apply CW.seq) | (apply CW.region)))
      refine CW.cond rfl (fun hi1 => ?_) (fun hi1 => ?_) <;> simp at hi1
      · (repeat (first | (apply WL.pure; rfl; rfl; rfl) | (apply WL.nil) | (apply EX.thenN) | (apply CW.seq) | (apply CW.region) | (apply WL.fa; rfl; rfl; rfl) | (apply WL.ld; rfl; rfl; rfl; assumption; rfl) | (apply CW.block) | (apply CW.skip)))
        refine CW.cond rfl (fun h3 => ?_) (fun h3 => ?_) <;> simp at h3
        · have hd6 := hg6
          have hEd0 : Ext w2 w6 := (hE23.trans hE35).grown hg6 (hE23.trans hE35).size (fun g hg => (hlt6 g hg).1)
          have hEd : Ext w2 (drew w6) := hEd0.trans (Ext.drew w6)
          have hSE : ∀ w1, (fun x => (drew w6).grownBy x ov.ownBlock) w1 → Ext w2 w1 := fun x hx => hEd.grown hx hEd.size (fun g hg => (hlt6 g hg).1)
          refine CW.drawH (fun x => (drew w6).grownBy x ov.ownBlock) [(0, true), (1, true), (2, true), (3, true), (5, true), (6, true), (4, false), (7, true), (8, true), (9, true), (10, true), (11, false)] mixed (by kernel_rfl) ((Ext.refl _).grw _) ?_
          have hlat : lat s l i < 18446744073709551616 := lat_lt hs.u64 hl.u64 i
          (repeat (first | (apply HL.pure; rfl; rfl; rfl; rfl) | (refine HL.fa rfl rfl rfl rfl ?_) | (refine HL.ld (by assumption) rfl rfl rfl rfl (by assumption) rfl ?_) | (refine HL.ldA (by assumption) rfl rfl rfl rfl (by assumption) rfl ?_)))
          refine HL.mut rfl (WL.call rfl rfl rfl (lassoAt0 (drew w6) (hs6.mono (fun _ _ => rfl) fun _ h => h) (hl6.mono (fun _ _ => rfl) fun _ h => h) hF6 hW.2 i (by omega) (by omega)) ?_)
          rintro v w7 ⟨rfl, hE7⟩
          refine WL.nil (EX.mut (hE7.grw _) ?_)
          have ho7' := (ho.extN (Ext.drew w6)).extN hE7
          skip
          refine HL.shrI rfl rfl rfl rfl rfl hlat hn0 ?_
          refine HL.and1 rfl rfl rfl rfl rfl (Nat.lt_of_le_of_lt (Nat.shiftRight_le _ _) hlat) ?_
          (repeat (apply HL.pure; rfl; rfl; rfl; rfl))
          have hy : placeK s l k n ks i = (((lat s l i >>> n.toNat &&& 1 : Nat) : Int) == 1) := by
            unfold placeK bitW; rw [if_pos h3, Bool.eq_iff_iff]; simp only [beq_iff_eq, decide_eq_true_eq]; omega
          rw [hy] at hend
          refine HL.setN (α := Bool) (k := i) (yv := (((lat s l i >>> n.toNat &&& 1 : Nat) : Int) == 1)) rfl rfl rfl rfl rfl rfl ho7' (by omega) (fun _ => rfl) (fun _ => rfl) (Rd.mkBool _ _ _) (fun x hx => grown_tr (hE7.grw _) hx) (fun w9 p ho9 hgr9 => ?_)
          (repeat (apply HL.nil))
          (repeat (first | (apply WL.add; rfl; rfl; rfl; rfl; omega; omega) | (apply WL.pure; rfl; rfl; rfl) | (apply WL.nil) | (apply EX.thenN) | (apply CW.region) | (apply EX.inN)))
          exact EX.back (i + 1) (by repeat (first | exact trivial | refine ⟨rfl, ?_⟩)) (hend w9 (grown_tr ((Ext.drew w6).grw _) (grown_tr (hE7.grw _) hgr9)) ho9 hi1) (by omega)
        (repeat (first | (apply WL.pure; rfl; rfl; rfl) | (apply WL.nil) | (apply EX.thenN) | (apply CW.seq) | (apply CW.region)))
        refine CW.cond rfl (fun h5 => ?_) (fun h5 => ?_) <;> simp at h5
        · have hkl2 : ks.length = 2 := by rw [h5] at hkk; simp [kidsK] at hkk; omega
          have h0l : 0 < ks.length := by omega
          have h1l : 1 < ks.length := by omega
          have g0 := get0 h0l
          have g1 := get1 h1l
          have hi0 : i < (ks[0]).length := by omega
          have hi1' : i < (ks[1]).length := by omega
          have e0 : (ks[0]).getD i false = (ks[0])[i] := by rw [List.getD_eq_getElem?_getD, List.getElem?_eq_getElem hi0]; rfl
          have e1 : (ks[1]).getD i false = (ks[1])[i] := by rw [List.getD_eq_getElem?_getD, List.getElem?_eq_getElem hi1']; rfl
          have hpl : placeK s l k n ks i = ((ks[0])[i] && (ks[1])[i]) := by
            unfold placeK; rw [if_neg h3, if_pos h5, g0.1, g1.1, e0, e1]
          (repeat (first | (apply WL.pure; rfl; rfl; rfl) | (apply CW.region)))
          refine WL.elemN (α := List Bool) (i := 0) rfl rfl rfl rfl rfl hks6 h0l (fun _ => rfl) (fun ua qa hua => ?_)
          obtain ⟨aa, ca, rfl, hsa⟩ := hua.sl
          (repeat (apply WL.pure; rfl; rfl; rfl))
          refine WL.elemB (i := i) rfl rfl rfl rfl rfl hsa hi0 rfl (fun _ => rfl) (fun qb => ?_)
          (repeat (apply WL.pure; rfl; rfl; rfl))
          (refine WL.lookG rfl rfl (fun h => ?_) (fun h => ?_))
          · have hb := h
            (repeat (apply WL.pure; rfl; rfl; rfl))
            refine WL.elemN (α := List Bool) (i := 1) rfl rfl rfl rfl rfl hks6 h1l (fun _ => rfl) (fun uc qc huc => ?_)
            obtain ⟨ac, cc, rfl, hsc⟩ := huc.sl
            (repeat (apply WL.pure; rfl; rfl; rfl))
            refine WL.elemB (i := i) rfl rfl rfl rfl rfl hsc hi1' rfl (fun _ => rfl) (fun qd => ?_)
            (repeat (apply WL.pure; rfl; rfl; rfl))
            have hy : placeK s l k n ks i = (ks[1])[i] := (by rw [hpl, hb]; rfl)
            rw [hy] at hend
            refine WL.setN (α := Bool) (yv := (ks[1])[i]) rfl rfl rfl rfl ho (by omega) (fun _ => rfl) (fun _ => rfl) (Rd.mkBool _ _ _) (fun w9 p ho9 hgr9 => ?_)
            (repeat (first | (apply WL.add; rfl; rfl; rfl; rfl; omega; omega) | (apply WL.pure; rfl; rfl; rfl) | (apply WL.nil) | (apply EX.thenN) | (apply CW.region) | (apply EX.inN)))
            exact EX.back (i + 1) (by repeat (first | exact trivial | refine ⟨rfl, ?_⟩)) (hend w9 hgr9 ho9 hi1) (by omega)
          · have hb := h
            (repeat (first | (apply WL.pure; rfl; rfl; rfl) | (apply WL.pass; rfl; rfl)))
            have hy : placeK s l k n ks i = false := (by rw [hpl, hb]; rfl)
            rw [hy] at hend
            refine WL.setN (α := Bool) (yv := false) rfl rfl rfl rfl ho (by omega) (fun _ => rfl) (fun _ => rfl) (Rd.mkBool _ _ _) (fun w9 p ho9 hgr9 => ?_)
            (repeat (first | (apply WL.add; rfl; rfl; rfl; rfl; omega; omega) | (apply WL.pure; rfl; rfl; rfl) | (apply WL.nil) | (apply EX.thenN) | (apply CW.region) | (apply EX.inN)))
            exact EX.back (i + 1) (by repeat (first | exact trivial | refine ⟨rfl, ?_⟩)) (hend w9 hgr9 ho9 hi1) (by omega)
        (repeat (first | (apply WL.pure; rfl; rfl; rfl) | (apply WL.nil) | (apply EX.thenN) | (apply CW.seq) | (apply CW.region)))
        refine CW.cond rfl (fun h6 => ?_) (fun h6 => ?_) <;> simp at h6
        · have hkl2 : ks.length = 2 := by rw [h6] at hkk; simp [kidsK] at hkk; omega
          have h0l : 0 < ks.length := by omega
          have h1l : 1 < ks.length := by omega
          have g0 := get0 h0l
          have g1 := get1 h1l
          have hi0 : i < (ks[0]).length := by omega
          have hi1' : i < (ks[1]).length := by omega
          have e0 : (ks[0]).getD i false = (ks[0])[i] := by rw [List.getD_eq_getElem?_getD, List.getElem?_eq_getElem hi0]; rfl
          have e1 : (ks[1]).getD i false = (ks[1])[i] := by rw [List.getD_eq_getElem?_getD, List.getElem?_eq_getElem hi1']; rfl
          have hpl : placeK s l k n ks i = ((ks[0])[i] || (ks[1])[i]) := by
            unfold placeK; rw [if_neg h3, if_neg h5, if_pos h6, g0.1, g1.1, e0, e1]
          (repeat (first | (apply WL.pure; rfl; rfl; rfl) | (apply CW.region)))
          refine WL.elemN (α := List Bool) (i := 0) rfl rfl rfl rfl rfl hks6 h0l (fun _ => rfl) (fun ua qa hua => ?_)
          obtain ⟨aa, ca, rfl, hsa⟩ := hua.sl
          (repeat (apply WL.pure; rfl; rfl; rfl))
          refine WL.elemB (i := i) rfl rfl rfl rfl rfl hsa hi0 rfl (fun _ => rfl) (fun qb => ?_)
          (repeat (apply WL.pure; rfl; rfl; rfl))
          (refine WL.lookG rfl rfl (fun h => ?_) (fun h => ?_))
          · have hb := h
            (repeat (first | (apply WL.pure; rfl; rfl; rfl) | (apply WL.pass; rfl; rfl)))
            have hy : placeK s l k n ks i = true := (by rw [hpl, hb]; rfl)
            rw [hy] at hend
            refine WL.setN (α := Bool) (yv := true) rfl rfl rfl rfl ho (by omega) (fun _ => rfl) (fun _ => rfl) (Rd.mkBool _ _ _) (fun w9 p ho9 hgr9 => ?_)
            (repeat (first | (apply WL.add; rfl; rfl; rfl; rfl; omega; omega) | (apply WL.pure; rfl; rfl; rfl) | (apply WL.nil) | (apply EX.thenN) | (apply CW.region) | (apply EX.inN)))
            exact EX.back (i + 1) (by repeat (first | exact trivial | refine ⟨rfl, ?_⟩)) (hend w9 hgr9 ho9 hi1) (by omega)
          · have hb := h
            (repeat (apply WL.pure; rfl; rfl; rfl))
            refine WL.elemN (α := List Bool) (i := 1) rfl rfl rfl rfl rfl hks6 h1l (fun _ => rfl) (fun uc qc huc => ?_)
            obtain ⟨ac, cc, rfl, hsc⟩ := huc.sl
            (repeat (apply WL.pure; rfl; rfl; rfl))
            refine WL.elemB (i := i) rfl rfl rfl rfl rfl hsc hi1' rfl (fun _ => rfl) (fun qd => ?_)
            (repeat (apply WL.pure; rfl; rfl; rfl))
            have hy : placeK s l k n ks i = (ks[1])[i] := (by rw [hpl, hb]; rfl)
            rw [hy] at hend
            refine WL.setN (α := Bool) (yv := (ks[1])[i]) rfl rfl rfl rfl ho (by omega) (fun _ => rfl) (fun _ => rfl) (Rd.mkBool _ _ _) (fun w9 p ho9 hgr9 => ?_)
            (repeat (first | (apply WL.add; rfl; rfl; rfl; rfl; omega; omega) | (apply WL.pure; rfl; rfl; rfl) | (apply WL.nil) | (apply EX.thenN) | (apply CW.region) | (apply EX.inN)))
            exact EX.back (i + 1) (by repeat (first | exact trivial | refine ⟨rfl, ?_⟩)) (hend w9 hgr9 ho9 hi1) (by omega)
        (repeat (first | (apply WL.pure; rfl; rfl; rfl) | (apply WL.nil) | (apply EX.thenN) | (apply CW.seq) | (apply CW.region)))
        refine CW.cond rfl (fun h7 => ?_) (fun h7 => ?_) <;> simp at h7
        · have hkl2 : ks.length = 1 := by rw [h7] at hkk; simp [kidsK] at hkk; omega
          have h0l : 0 < ks.length := by omega
          have g0 := get0 h0l
          have hnx : nextL s l i < (ks[0]).length := by unfold nextL; split <;> omega
          have e0 : (ks[0]).getD (nextL s l i) false = (ks[0])[nextL s l i] := by rw [List.getD_eq_getElem?_getD, List.getElem?_eq_getElem hnx]; rfl
          have hy : placeK s l k n ks i = (ks[0])[nextL s l i] := by
            unfold placeK; rw [if_neg h3, if_neg h5, if_neg h6, if_pos h7, g0.1, e0]
          rw [hy] at hend
          have hEd0 : Ext w2 w6 := (hE23.trans hE35).grown hg6 (hE23.trans hE35).size (fun g hg => (hlt6 g hg).1)
          have hEd : Ext w2 (drew w6) := hEd0.trans (Ext.drew w6)
          have hSE : ∀ w1, (fun x => (drew w6).grownBy x ov.ownBlock) w1 → Ext w2 w1 := fun x hx => hEd.grown hx hEd.size (fun g hg => (hlt6 g hg).1)
          have hK : ∀ w1, (fun x => (drew w6).grownBy x ov.ownBlock) w1 → ∀ b, (w3.heap.size ≤ b ∧ b < w4.heap.size) → w1.heap[b]? = w6.heap[b]? := fun x hx b hb => hx.block b (Nat.lt_of_lt_of_le (Nat.lt_of_lt_of_le hb.2 hE5.size) hg6.size) (fun e => by have := (hlt6 _ e.symm).2; omega)
          refine CW.drawH (fun x => (drew w6).grownBy x ov.ownBlock) [(0, true), (1, true), (2, true), (3, true), (4, true), (5, true), (6, true), (7, false), (8, true), (9, true), (10, true), (11, false)] mixed (by kernel_rfl) ((Ext.refl _).grw _) ?_
          (repeat (apply HL.pure; rfl; rfl; rfl; rfl))
          refine HL.elemK (α := List Bool) (k := 0) hK rfl rfl rfl rfl rfl rfl rfl hks6 h0l (fun _ => rfl) (fun ua qa hua => ?_)
          obtain ⟨aa, ca, rfl, hsa⟩ := hua.sl
          (repeat (first | (apply HL.pure; rfl; rfl; rfl; rfl) | (refine HL.ldA (by assumption) rfl rfl rfl rfl (by assumption) rfl ?_)))
          refine HL.mut rfl (WL.call rfl rfl rfl (next_ok (s := s) (l := l) (drew w6) i (by omega) (by omega)) ?_)
          rintro v w7 ⟨rfl, hE7⟩
          refine WL.nil (EX.mut (hE7.grw _) ?_)
          have ho7' := (ho.extN (Ext.drew w6)).extN hE7
          skip
          refine HL.elemK (α := Bool) (k := nextL s l i) hK rfl rfl rfl rfl rfl rfl rfl hsa hnx (fun _ => rfl) (fun ub qb hub => ?_)
          have hub := hub.bool
          subst hub
          refine HL.setN (α := Bool) (k := i) (yv := (ks[0])[nextL s l i]) rfl rfl rfl rfl rfl rfl ho7' (by omega) (fun _ => rfl) (fun _ => rfl) (Rd.mkBool _ _ _) (fun x hx => grown_tr (hE7.grw _) hx) (fun w9 p ho9 hgr9 => ?_)
          (repeat (apply HL.nil))
          (repeat (first | (apply WL.add; rfl; rfl; rfl; rfl; omega; omega) | (apply WL.pure; rfl; rfl; rfl) | (apply WL.nil) | (apply EX.thenN) | (apply CW.region) | (apply EX.inN)))
          exact EX.back (i + 1) (by repeat (first | exact trivial | refine ⟨rfl, ?_⟩)) (hend w9 (grown_tr ((Ext.drew w6).grw _) (grown_tr (hE7.grw _) hgr9)) ho9 hi1) (by omega)
        have hy : placeK s l k n ks i = false := by unfold placeK; rw [if_neg h3, if_neg h5, if_neg h6, if_neg h7]
        have hset : ((List.range i).map (placeK s l k n ks) ++ List.replicate (N - i) false).set i false = (List.range i).map (placeK s l k n ks) ++ List.replicate (N - i) false := by
          rw [List.set_append_right _ _ (by simp)]
          have h0 : i - ((List.range i).map (placeK s l k n ks)).length = 0 := by simp
          rw [h0, show N - i = (N - i - 1) + 1 by omega, List.replicate_succ, List.set_cons_zero]
        rw [hy, hset] at hend
        (repeat (first | (apply WL.add; rfl; rfl; rfl; rfl; omega; omega) | (apply WL.pure; rfl; rfl; rfl) | (apply WL.nil) | (apply EX.thenN) | (apply CW.region) | (apply EX.inN) | (apply CW.skip)))
        exact EX.back (i + 1) (by repeat (first | exact trivial | refine ⟨rfl, ?_⟩)) (hend w6 ((Ext.refl w6).grw _) ho hi1) (by omega)
      · have hiN' : i = N := by omega
        subst hiN'
        (repeat (first | (apply WL.pure; rfl; rfl; rfl) | (apply WL.nil) | (apply EX.thenN) | (apply CW.seq) | (apply CW.region) | (apply CW.exit) | (apply EX.thenX) | (apply EX.inX) | (apply CW.ret)))
        refine EX.ret1 rfl rfl ⟨?_, hE6⟩
        rw [Nat.sub_self, List.replicate_zero, List.append_nil] at ho
        exact ho.low hE2.size
end Go.Proofs.Ythojdcbpglipeaa
