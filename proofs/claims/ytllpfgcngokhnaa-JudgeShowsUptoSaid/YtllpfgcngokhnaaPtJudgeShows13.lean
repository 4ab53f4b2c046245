import Derived.Test.YtllpfgcngokhnaaPtJudgeShows12
/-
  Package lasso: what formulas say at all places.
-/
set_option linter.unusedVariables false
set_option linter.unusedSimpArgs false
namespace Go.Proofs.Ytllpfgcngokhnaa
open Go.RowKit

def bitW (s l : List Nat) (i a : Nat) : Bool := decide (lat s l i >>> a &&& 1 = 1)
/-- one place, of the kinds that go place by place -/
def placeK (s l : List Nat) (k n : Int) (ks : List (List Bool)) (i : Nat) : Bool :=
  if k = 3 then bitW s l i n.toNat
  else if k = 5 then (ks.getD 0 []).getD i false && (ks.getD 1 []).getD i false
  else if k = 6 then (ks.getD 0 []).getD i false || (ks.getD 1 []).getD i false
  else if k = 7 then (ks.getD 0 []).getD (nextL s l i) false
  else false
def comb (s l : List Nat) (k n : Int) (ks : List (List Bool)) : List Bool :=
  if k = 8 then untilL s l (ks.getD 0 []) (ks.getD 1 [])
  else if k = 9 then (untilL s l ((ks.getD 0 []).map (!·)) ((ks.getD 1 []).map (!·))).map (!·)
  else if k = 10 then untilL s l (List.replicate (s.length + l.length) true) (ks.getD 0 [])
  else if k = 11 then (untilL s l (List.replicate (s.length + l.length) true) ((ks.getD 0 []).map (!·))).map (!·)
  else if k = 4 then (ks.getD 0 []).map (!·)
  else if k = 1 then List.replicate (s.length + l.length) true
  else (List.range (s.length + l.length)).map (placeK s l k n ks)
mutual
def holdsL (s l : List Nat) : Ltl → List Bool
  | .mk k n kids => comb s l k n (holdsLs s l kids)
def holdsLs (s l : List Nat) : List Ltl → List (List Bool)
  | [] => []
  | x :: r => holdsL s l x :: holdsLs s l r
end
mutual
def wfT : Ltl → Prop
  | .mk k n kids => kidsK k = kids.length ∧ 0 ≤ n ∧ n ≤ 63 ∧ (k ≠ 3 → n = 0) ∧ wfTs kids
def wfTs : List Ltl → Prop
  | [] => True
  | x :: r => wfT x ∧ wfTs r
end
mutual
theorem chkF_wf : ∀ (t : Ltl) (deep c : Int), (chkF t deep c).1 = 0 → wfT t
  | .mk k n kids, deep, c, h => by
    simp only [chkF] at h
    split at h
    · cases h
    · split at h
      · cases h
      · split at h
        · cases h
        · rename_i h3
          simp only [wfT]
          have := chkFL_wf kids _ _ h
          refine ⟨by omega, by omega, by omega, by omega, this⟩
theorem chkFL_wf : ∀ (l : List Ltl) (deep c : Int), (chkFL l deep c).1 = 0 → wfTs l
  | [], _, _, _ => trivial
  | x :: r, deep, c, h => by
    simp only [chkFL] at h
    split at h
    · rename_i h1; exact absurd h h1
    · rename_i h1
      exact ⟨chkF_wf x deep c (by simpa using h1), chkFL_wf r _ _ h⟩
end
theorem holdsLs_len (s l : List Nat) : ∀ kids, (holdsLs s l kids).length = kids.length
  | [] => rfl
  | x :: r => by simp [holdsLs, holdsLs_len s l r]
theorem kidsK_cases (k : Int) : (kidsK k = 0 ∧ (k = 1 ∨ k = 2 ∨ k = 3)) ∨ (kidsK k = 1 ∧ (k = 4 ∨ k = 7 ∨ k = 10 ∨ k = 11)) ∨ (kidsK k = 2 ∧ (k = 5 ∨ k = 6 ∨ k = 8 ∨ k = 9)) ∨ kidsK k = -1 := by
  unfold kidsK; split
  · omega
  · split
    · omega
    · split <;> omega
theorem comb_len {s l : List Nat} {k n : Int} {ks : List (List Bool)} (hk : kidsK k = ks.length) (h : ∀ x ∈ ks, x.length = s.length + l.length) : (comb s l k n ks).length = s.length + l.length := by
  have g0 : 0 < ks.length → (ks.getD 0 []).length = s.length + l.length := by
    intro h0
    rw [List.getD_eq_getElem?_getD, List.getElem?_eq_getElem h0]
    exact h _ (List.getElem_mem h0)
  have hc := kidsK_cases k
  unfold comb
  split
  · rw [untilL_len]; exact g0 (by omega)
  · split
    · rw [List.length_map, untilL_len, List.length_map]; exact g0 (by omega)
    · split
      · rw [untilL_len, List.length_replicate]
      · split
        · rw [List.length_map, untilL_len, List.length_replicate]
        · split
          · rw [List.length_map]; exact g0 (by omega)
          · split
            · rw [List.length_replicate]
            · simp
mutual
theorem holdsL_len {s l : List Nat} : ∀ t, wfT t → (holdsL s l t).length = s.length + l.length
  | .mk k n kids, h => by
    simp only [wfT] at h
    simp only [holdsL]
    exact comb_len (by rw [holdsLs_len]; exact h.1) (holdsLs_lens kids h.2.2.2.2)
theorem holdsLs_lens {s l : List Nat} : ∀ kids, wfTs kids → ∀ x ∈ holdsLs s l kids, x.length = s.length + l.length
  | [], _, x, hx => by simp [holdsLs] at hx
  | t :: r, h, x, hx => by
    simp only [holdsLs, List.mem_cons] at hx
    rcases hx with rfl | hx
    · exact holdsL_len t h.1
    · exact holdsLs_lens r h.2 x hx
end
theorem wfTs_get : ∀ (kids : List Ltl) (i : Nat) (h : i < kids.length), wfTs kids → wfT kids[i]
  | x :: r, 0, h, hw => hw.1
  | x :: r, i + 1, h, hw => wfTs_get r i (by simpa using h) hw.2
theorem holdsLs_take (s l : List Nat) : ∀ (kids : List Ltl) (i : Nat) (h : i < kids.length), holdsLs s l (kids.take (i + 1)) = holdsLs s l (kids.take i) ++ [holdsL s l kids[i]]
  | x :: r, 0, h => by simp [holdsLs]
  | x :: r, i + 1, h => by
    simp only [List.take_succ_cons, holdsLs, List.cons_append, List.getElem_cons_succ]
    rw [holdsLs_take s l r i (by simpa using h)]

theorem holds_ok : ∀ (m : Nat) (t : Ltl), t.nodes ≤ m → wfT t → ∀ (w : World) (F : Nat → Prop) (ao : Option Addr) (cap : Nat) (so lo : Option Addr) (sc lc : Nat) (s l : List Nat), Sl w F ao cap t.kids → Sl w F so sc s → Sl w F lo lc l → (∀ b, F b → b < w.heap.size) → chkW s l = 0 →
    Rt Try.prog 137 [ltlV t.k t.n ao t.kids.length cap, wordV so sc lo lc s l].toArray w fun v w' => Own w' w.heap.size 4 Non v (holdsL s l t) ∧ Ext w w'
  | 0, t, hm => by have := t.nodes_pos; omega
  | m + 1, .mk k n kids, hm => by
    intro hwf w F ao cap so lo sc lc s l hkids hs hl hF hc
    simp only [Ltl.kids, Ltl.k, Ltl.n] at *
    have hW := chkW_ok hc
    simp only [wfT] at hwf
    obtain ⟨hkk, hn0, hn63, hn3, hwk⟩ := hwf
    refine Rt.enter2 Try.func137 Try.ntmps137 rfl rfl ?_
    (repeat (first | (apply CW.seq) | (apply CW.region)))
    refine WL.boxB rfl rfl rfl fun w1 hf hE1 => ?_
    refine WL.boxB rfl rfl rfl fun w2 hw hE2 => ?_
    have hf := hf.ext hE2
    have hE2 := hE1.trans hE2
    have hwl := hw.lt
    (repeat (first | (apply WL.add; rfl; rfl; rfl; rfl; omega; omega) | (apply WL.pure; rfl; rfl; rfl) | (apply WL.nil) | (apply EX.thenN) | (apply CW.seq) | (apply CW.region) | (apply WL.lenS; rfl; rfl; rfl) | (apply WL.fa; rfl; rfl; rfl) | (apply WL.ld; rfl; rfl; rfl; assumption; rfl)))
    have hN : ((s.length : Int) + l.length) = ((s.length + l.length : Nat) : Int) := by omega
    rw [hN]
    generalize hNN : s.length + l.length = N at *
    refine WL.make (α := Bool) (x0 := false) (bytes := 1) rfl rfl rfl rfl (by omega) (by unfold maxLen; omega) (fun w3 hout hgr => ?_)
    have hE23 : Ext w2 w3 := (Ext.refl w2).grown hgr (Nat.le_refl _) (fun k h => by cases h)
    have hf := hf.ext hE23
    have hw := hw.ext hE23
    have hE3 := hE2.trans hE23
    generalize hv : Value.slice (some ⟨w2.heap.size, 0, none⟩) N N = v6 at *
    have hout3 := hout.lt
    (repeat (first | (apply WL.pure; rfl; rfl; rfl) | (apply WL.nil) | (apply EX.thenN) | (apply CW.seq) | (apply CW.region) | (apply WL.lenS; rfl; rfl; rfl) | (apply WL.fa; rfl; rfl; rfl) | (apply WL.ld; rfl; rfl; rfl; assumption; rfl) | (apply CW.block)))
    refine CW.loop (S := Nat × Value) (fun x => [(2, .pointer (some ⟨w.heap.size, 0, none⟩)), (3, .pointer (some ⟨w1.heap.size, 0, none⟩)), (5, .int .i64 (N : Int)), (6, v6), (7, x.2), (22, .slice ao kids.length cap), (23, .int .i64 (kids.length : Int)), (24, .int .i64 (x.1 : Int))])
      (fun x w' => Ext w3 w' ∧ x.1 ≤ kids.length ∧ ∃ G, Own w' w3.heap.size 181 G x.2 (holdsLs s l (kids.take x.1)) ∧ (∀ b, G b → b < w'.heap.size) ∧ ∀ b, G b → w3.heap.size ≤ b) (fun x => kids.length - x.1) (0, .slice none 0 0) (by repeat (first | exact trivial | refine ⟨rfl, ?_⟩)) ⟨Ext.refl _, by omega, Non, Own.nil, fun _ h => h.elim, fun _ h => h.elim⟩ ?_
    rintro ⟨i, v7⟩ w4 ⟨hE4, hi, G, ho7, hG, hGl⟩
    simp only at ho7 hi
    have hE4' := hE3.trans hE4
    have hk4 := hkids.mono (fun b hb => hE4'.block b (hF b hb)) fun _ h => h
    have hF4 : ∀ b, F b → b < w4.heap.size := fun b hb => Nat.lt_of_lt_of_le (hF b hb) hE4'.size
    have hlen := hkids.len63
    have hkl : kids.length ≤ 2 := by have := kidsK_cases k; omega
    (repeat (first | (apply WL.pure; rfl; rfl; rfl) | (apply WL.nil) | (apply EX.thenN) | (apply CW.seq) | (apply CW.region)))
    refine CW.cond rfl (fun h => ?_) (fun h => ?_) <;> simp at h
    · (repeat (first | (apply EX.thenN) | (apply CW.seq) | (apply CW.region) | (apply CW.block) | (apply CW.skip)))
      refine WL.elemN rfl rfl rfl rfl rfl hk4 h (fun _ => rfl) (fun u q hu => ?_)
      have hnode : (kids[i]).nodes ≤ m := by
        have := Ltl.nodes_kid kids _ (List.getElem_mem h)
        simp only [Ltl.nodes] at hm; omega
      have hwx := wfTs_get kids i h hwk
      have htk := holdsLs_take s l kids i h
      generalize kids[i] = x at *
      obtain ⟨ao', cap', rfl, hx⟩ := hu.ltl
      refine WL.alloc rfl rfl (fun w5 hb5 hE5 => ?_)
      refine WL.st rfl rfl rfl hb5 rfl rfl (ones_of rfl) (fun w6 hb6 hgr6 => ?_)
      have hE46 : Ext w4 w6 := hE5.grown hgr6 hE5.size (fun g hg => by cases hg; exact Nat.le_refl _)
      have hE6 := hE4.trans hE46
      have hE6' := hE3.trans hE6
      have hw6 := hw.ext hE6
      have ho76 := ho7.ext hE46 hG
      (repeat (first | (apply WL.pure; rfl; rfl; rfl) | (apply WL.nil) | (apply EX.thenN) | (apply CW.region) | (apply WL.ldA; rfl; rfl; rfl; assumption; rfl)))
      refine WL.call rfl rfl rfl (holds_ok m x hnode hwx w6 F ao' cap' so lo sc lc s l (hx.mono (fun b hb => hE46.block b (hF4 b hb)) fun _ h => h) (hs.mono (fun b hb => hE6'.block b (hF b hb)) fun _ h => h) (hl.mono (fun b hb => hE6'.block b (hF b hb)) fun _ h => h) (fun b hb => Nat.lt_of_lt_of_le (hF b hb) hE6'.size) hc) ?_
      rintro u w7 ⟨hou, hE67⟩
      have hE7 := hE6.trans hE67
      have hG6 : ∀ b, G b → b < w6.heap.size := fun b hb => Nat.lt_of_lt_of_le (hG b hb) hE46.size
      have ho77 := ho76.ext hE67 hG6
      have ho78 : Own w7 w3.heap.size 181 (fun b => G b ∨ u.ownBlock = some b) v7 (holdsLs s l (kids.take i)) := by
        refine ho77.wk (fun b hb => .inl hb) (fun g hg h => ?_)
        rcases h with h | h
        · exact (ho77.lt g hg).2.2 h
        · have h1 := (ho76.lt g hg).2.1
          have h2 := (hou.lt g h).1
          omega
      have hru : Rd w7 (fun b => G b ∨ u.ownBlock = some b) u (holdsL s l x) := hou.rd.mono (fun _ _ => rfl) (fun b hb => hb.elim (fun h => h.elim) .inr)
      have hGG : ∀ b, (G b ∨ u.ownBlock = some b) → b < w7.heap.size := by
        rintro b (hb | hb)
        · exact Nat.lt_of_lt_of_le (hG6 b hb) hE67.size
        · exact (hou.lt b hb).2.1
      skip
      refine WL.app1 (α := List Bool) (yv := holdsL s l x) rfl rfl (fun _ => rfl) rfl rfl (fun _ => rfl) ho78 hru hE7.size hGG (by show 1 ≤ 16777216; decide) (by rw [holdsLs_len, List.length_take]; unfold maxLen; omega) (by rw [holdsLs_len, List.length_take]; omega) (fun v' w8 p ho8 hgr8 _ => ?_)
      have hE8 : Ext w3 w8 := hE7.grown hgr8 hE7.size (fun g hg => (ho78.lt g hg).1)
      (repeat (first | (apply WL.add; rfl; rfl; rfl; rfl; omega; omega) | (apply WL.pure; rfl; rfl; rfl) | (apply WL.nil) | (apply EX.thenN) | (apply CW.region) | (apply EX.inN)))
      refine EX.back (i + 1, v') (by repeat (first | exact trivial | refine ⟨rfl, ?_⟩)) ⟨hE8, by simp only; omega, _, by rw [← htk] at ho8; exact ho8, fun b hb => Nat.lt_of_lt_of_le (hGG b hb) hgr8.size, fun b hb => hb.elim (hGl b) (fun h => Nat.le_trans hE6.size (hou.lt b h).1)⟩ (by simp only; omega)
    · have hik : i = kids.length := by omega
      subst hik
      rw [List.take_length] at ho7
      have hksl := holdsLs_len s l kids
      have hklen := holdsLs_lens (s := s) (l := l) kids hwk
      simp only [holdsL]
      rw [← hksl] at hkk
      generalize holdsLs s l kids = ks at *
      have hlt7 := fun g hg => (ho7.lt g hg).2.1
      obtain ⟨ko, kcap, rfl, hksn⟩ := ho7.slF (F' := fun b => w3.heap.size ≤ b ∧ b < w4.heap.size) (fun b hb => ⟨hGl b hb, hG b hb⟩) (fun g hg => ⟨(ho7.lt g hg).1, hlt7 g hg⟩)
      have hks := hksn.mono (F' := Old w4) (fun _ _ => rfl) (fun _ h => h.2)
      have ho6 := hout.extN hE4
      obtain ⟨oo, oc, rfl, hso⟩ := ho6.slF (F' := Old w4) (fun _ h => h.elim) (fun g hg => (ho6.lt g hg).2.1)
      (repeat (first | (apply WL.pure; rfl; rfl; rfl) | (apply EX.thenN) | (apply CW.seq) | (apply CW.region) | (apply CW.exit) | (apply EX.thenX) | (apply EX.inX)))
      refine WL.call rfl rfl rfl (not_ok w4 hso (fun _ h => h) (by simp; omega)) ?_
      rintro v10 w5 ⟨ho10, hE5⟩
      rw [List.map_replicate] at ho10
      have hks := hks.up hE5
      have hksn := hksn.mono (fun b h => hE5.block b h.2) (fun _ h => h)
      have ho6 := ho6.extN hE5
      have hE5' := hE4'.trans hE5
      have hE35 := hE4.trans hE5
      have hf5 := hf.ext hE35
      have hw5 := hw.ext hE35
      obtain ⟨lo10, lc10, rfl, hs10⟩ := ho10.slF (F' := Old w5) (fun _ h => h.elim) (fun g hg => (ho10.lt g hg).2.1)
      have hSE : ∀ w1, (fun w' => Ext w5 w') w1 → Ext w5 w1 := fun _ h => h
      have hsz5 : w.heap.size ≤ w5.heap.size := hE5'.size
      have get0 : ∀ (h : 0 < ks.length), ks.getD 0 [] = ks[0] ∧ (ks[0]).length = s.length + l.length := fun h => ⟨by rw [List.getD_eq_getElem?_getD, List.getElem?_eq_getElem h]; rfl, hklen _ (List.getElem_mem h)⟩
      have get1 : ∀ (h : 1 < ks.length), ks.getD 1 [] = ks[1] ∧ (ks[1]).length = s.length + l.length := fun h => ⟨by rw [List.getD_eq_getElem?_getD, List.getElem?_eq_getElem h]; rfl, hklen _ (List.getElem_mem h)⟩
      unfold comb
      rw [hNN]
      (repeat (first | (apply WL.pure; rfl; rfl; rfl) | (apply WL.nil) | (apply EX.thenN) | (apply CW.seq) | (apply CW.region) | (apply WL.fa; rfl; rfl; rfl) | (apply WL.ld; rfl; rfl; rfl; assumption; rfl) | (apply CW.block)))
      refine CW.cond rfl (fun h => ?_) (fun h => ?_) <;> simp at h
      · rw [if_pos h]
        subst h
        have hkl2 : ks.length = 2 := by simp [kidsK] at hkk; omega
        have h0l : 0 < ks.length := by omega
        have g0 := get0 h0l
        have h1l : 1 < ks.length := by omega
        have g1 := get1 h1l
        rw [g1.1]
        rw [g0.1]
        apply CW.seq
        refine CW.drawH (fun w' => Ext w5 w') [(0, true), (1, true), (2, true), (3, true), (4, true), (5, true), (6, true), (7, false), (8, true)] mixed (by kernel_rfl) (Ext.drew w5) ?_
        (repeat (first | (apply HL.pure; rfl; rfl; rfl; rfl) | (refine HL.ldA (by assumption) rfl rfl rfl rfl (by assumption) rfl ?_)))
        refine HL.elemN (α := List Bool) (k := 0) hSE rfl rfl rfl rfl rfl rfl rfl (fun _ h => h) hks h0l (fun _ => rfl) (fun ua qa hua => ?_)
        obtain ⟨aa, ca, rfl, hsa⟩ := hua.sl
        (repeat (apply HL.pure; rfl; rfl; rfl; rfl))
        refine HL.elemN (α := List Bool) (k := 1) hSE rfl rfl rfl rfl rfl rfl rfl (fun _ h => h) hks h1l (fun _ => rfl) (fun ub qb hub => ?_)
        obtain ⟨ab, cb, rfl, hsb⟩ := hub.sl
        skip
        refine HL.mut rfl (WL.call rfl rfl rfl (until_ok (s := s) (l := l) (drew w5) (hsa.at (Ext.drew w5)) (hsb.at (Ext.drew w5)) (fun _ h => h) (by omega) g0.2 g1.2 hW.2) ?_)
        rintro v w6 ⟨hov, hEw6⟩
        have hTw6 : Ext w5 w6 := (Ext.drew w5).trans hEw6
        refine WL.nil (EX.mut hTw6 ?_)
        (repeat (first | (apply HL.pure; rfl; rfl; rfl; rfl) | (apply HL.nil)))
        (repeat (first | (apply EX.thenN) | (apply CW.ret) | (apply EX.thenR) | (apply EX.inR)))
        exact EX.ret1 rfl rfl ⟨hov.low hsz5, hE5'.trans hTw6⟩
      rw [if_neg h]
      (repeat (first | (apply WL.pure; rfl; rfl; rfl) | (apply WL.nil) | (apply EX.thenN) | (apply CW.seq) | (apply CW.region)))
      refine CW.cond rfl (fun h => ?_) (fun h => ?_) <;> simp at h
      · rw [if_pos h]
        subst h
        have hkl2 : ks.length = 2 := by simp [kidsK] at hkk; omega
        have h0l : 0 < ks.length := by omega
        have g0 := get0 h0l
        have h1l : 1 < ks.length := by omega
        have g1 := get1 h1l
        rw [g1.1]
        rw [g0.1]
        apply CW.seq
        refine CW.drawH (fun w' => Ext w5 w') [(0, true), (1, true), (2, true), (3, true), (5, true), (6, true), (7, true), (4, false), (8, false), (9, false), (10, false), (11, true)] mixed (by kernel_rfl) (Ext.drew w5) ?_
        (repeat (first | (apply HL.pure; rfl; rfl; rfl; rfl) | (refine HL.ldA (by assumption) rfl rfl rfl rfl (by assumption) rfl ?_)))
        refine HL.elemN (α := List Bool) (k := 0) hSE rfl rfl rfl rfl rfl rfl rfl (fun _ h => h) hks h0l (fun _ => rfl) (fun ua qa hua => ?_)
        obtain ⟨aa, ca, rfl, hsa⟩ := hua.sl
        (repeat (apply HL.pure; rfl; rfl; rfl; rfl))
        refine HL.elemN (α := List Bool) (k := 1) hSE rfl rfl rfl rfl rfl rfl rfl (fun _ h => h) hks h1l (fun _ => rfl) (fun ub qb hub => ?_)
        obtain ⟨ab, cb, rfl, hsb⟩ := hub.sl
        skip
        refine HL.mut rfl (WL.call rfl rfl rfl (not_ok (drew w5) (hsa.at (Ext.drew w5)) (fun _ h => h) (by omega)) ?_)
        rintro v w6 ⟨hov, hEw6⟩
        have hTw6 : Ext w5 w6 := (Ext.drew w5).trans hEw6
        refine WL.nil (EX.mut hTw6 ?_)
        skip
        obtain ⟨av, cv, rfl, hsv⟩ := hov.slF (F' := Old w6) (fun _ h => h.elim) (fun g hg => (hov.lt g hg).2.1)
        refine HL.mut rfl (WL.call rfl rfl rfl (not_ok w6 (hsb.at hTw6) (fun _ h => Nat.lt_of_lt_of_le h hTw6.size) (by omega)) ?_)
        rintro u w7 ⟨hou, hEw7⟩
        have hTw7 : Ext w5 w7 := hTw6.trans hEw7
        refine WL.nil (EX.mut hTw7 ?_)
        skip
        obtain ⟨au, cu, rfl, hsu⟩ := hou.slF (F' := Old w7) (fun _ h => h.elim) (fun g hg => (hou.lt g hg).2.1)
        refine HL.mut rfl (WL.call rfl rfl rfl (until_ok (s := s) (l := l) w7 (hsv.up hEw7) hsu (fun _ h => h) (by omega) (by rw [List.length_map]; exact g0.2) (by rw [List.length_map]; exact g1.2) hW.2) ?_)
        rintro y w8 ⟨hoy, hEw8⟩
        have hTw8 : Ext w5 w8 := hTw7.trans hEw8
        refine WL.nil (EX.mut hTw8 ?_)
        skip
        obtain ⟨ay, cy, rfl, hsy⟩ := hoy.slF (F' := Old w8) (fun _ h => h.elim) (fun g hg => (hoy.lt g hg).2.1)
        refine HL.mut rfl (WL.call rfl rfl rfl (not_ok w8 hsy (fun _ h => h) (by rw [untilL_len, List.length_map]; omega)) ?_)
        rintro z w9 ⟨hoz, hEw9⟩
        have hTw9 : Ext w5 w9 := hTw8.trans hEw9
        refine WL.nil (EX.mut hTw9 ?_)
        (repeat (first | (apply HL.pure; rfl; rfl; rfl; rfl) | (apply HL.nil)))
        (repeat (first | (apply EX.thenN) | (apply CW.ret) | (apply EX.thenR) | (apply EX.inR)))
        exact EX.ret1 rfl rfl ⟨hoz.low (Nat.le_trans hsz5 hTw8.size), hE5'.trans hTw9⟩
      rw [if_neg h]
      (repeat (first | (apply WL.pure; rfl; rfl; rfl) | (apply WL.nil) | (apply EX.thenN) | (apply CW.seq) | (apply CW.region)))
      refine CW.cond rfl (fun h => ?_) (fun h => ?_) <;> simp at h
      · rw [if_pos h]
        subst h
        have hkl2 : ks.length = 1 := by simp [kidsK] at hkk; omega
        have h0l : 0 < ks.length := by omega
        have g0 := get0 h0l
        rw [g0.1]
        apply CW.seq
        refine CW.drawH (fun w' => Ext w5 w') [(0, true), (1, true), (2, true), (3, true), (4, true), (5, false), (6, true)] mixed (by kernel_rfl) (Ext.drew w5) ?_
        (repeat (first | (apply HL.pure; rfl; rfl; rfl; rfl) | (refine HL.ldA (by assumption) rfl rfl rfl rfl (by assumption) rfl ?_)))
        refine HL.elemN (α := List Bool) (k := 0) hSE rfl rfl rfl rfl rfl rfl rfl (fun _ h => h) hks h0l (fun _ => rfl) (fun ua qa hua => ?_)
        obtain ⟨aa, ca, rfl, hsa⟩ := hua.sl
        skip
        refine HL.mut rfl (WL.call rfl rfl rfl (until_ok (s := s) (l := l) (drew w5) (hs10.at (Ext.drew w5)) (hsa.at (Ext.drew w5)) (fun _ h => h) (by omega) (by simp; omega) g0.2 hW.2) ?_)
        rintro v w6 ⟨hov, hEw6⟩
        have hTw6 : Ext w5 w6 := (Ext.drew w5).trans hEw6
        refine WL.nil (EX.mut hTw6 ?_)
        (repeat (first | (apply HL.pure; rfl; rfl; rfl; rfl) | (apply HL.nil)))
        (repeat (first | (apply EX.thenN) | (apply CW.ret) | (apply EX.thenR) | (apply EX.inR)))
        exact EX.ret1 rfl rfl ⟨hov.low hsz5, hE5'.trans hTw6⟩
      rw [if_neg h]
      (repeat (first | (apply WL.pure; rfl; rfl; rfl) | (apply WL.nil) | (apply EX.thenN) | (apply CW.seq) | (apply CW.region)))
      refine CW.cond rfl (fun h => ?_) (fun h => ?_) <;> simp at h
      · rw [if_pos h]
        subst h
        have hkl2 : ks.length = 1 := by simp [kidsK] at hkk; omega
        have h0l : 0 < ks.length := by omega
        have g0 := get0 h0l
        rw [g0.1]
        apply CW.seq
        refine CW.drawH (fun w' => Ext w5 w') [(0, true), (1, true), (2, true), (3, true), (4, true), (5, false), (6, false), (7, false), (8, true)] mixed (by kernel_rfl) (Ext.drew w5) ?_
        (repeat (first | (apply HL.pure; rfl; rfl; rfl; rfl) | (refine HL.ldA (by assumption) rfl rfl rfl rfl (by assumption) rfl ?_)))
        refine HL.elemN (α := List Bool) (k := 0) hSE rfl rfl rfl rfl rfl rfl rfl (fun _ h => h) hks h0l (fun _ => rfl) (fun ua qa hua => ?_)
        obtain ⟨aa, ca, rfl, hsa⟩ := hua.sl
        skip
        refine HL.mut rfl (WL.call rfl rfl rfl (not_ok (drew w5) (hsa.at (Ext.drew w5)) (fun _ h => h) (by omega)) ?_)
        rintro v w6 ⟨hov, hEw6⟩
        have hTw6 : Ext w5 w6 := (Ext.drew w5).trans hEw6
        refine WL.nil (EX.mut hTw6 ?_)
        skip
        obtain ⟨av, cv, rfl, hsv⟩ := hov.slF (F' := Old w6) (fun _ h => h.elim) (fun g hg => (hov.lt g hg).2.1)
        refine HL.mut rfl (WL.call rfl rfl rfl (until_ok (s := s) (l := l) w6 (hs10.up hTw6) hsv (fun _ h => h) (by omega) (by simp; omega) (by rw [List.length_map]; exact g0.2) hW.2) ?_)
        rintro y w8 ⟨hoy, hEw8⟩
        have hTw8 : Ext w5 w8 := hTw6.trans hEw8
        refine WL.nil (EX.mut hTw8 ?_)
        skip
        obtain ⟨ay, cy, rfl, hsy⟩ := hoy.slF (F' := Old w8) (fun _ h => h.elim) (fun g hg => (hoy.lt g hg).2.1)
        refine HL.mut rfl (WL.call rfl rfl rfl (not_ok w8 hsy (fun _ h => h) (by rw [untilL_len]; simp; omega)) ?_)
        rintro z w9 ⟨hoz, hEw9⟩
        have hTw9 : Ext w5 w9 := hTw8.trans hEw9
        refine WL.nil (EX.mut hTw9 ?_)
        (repeat (first | (apply HL.pure; rfl; rfl; rfl; rfl) | (apply HL.nil)))
        (repeat (first | (apply EX.thenN) | (apply CW.ret) | (apply EX.thenR) | (apply EX.inR)))
        exact EX.ret1 rfl rfl ⟨hoz.low (Nat.le_trans hsz5 hTw8.size), hE5'.trans hTw9⟩
      rw [if_neg h]
      (repeat (first | (apply WL.pure; rfl; rfl; rfl) | (apply WL.nil) | (apply EX.thenN) | (apply CW.seq) | (apply CW.region)))
      refine CW.cond rfl (fun h => ?_) (fun h => ?_) <;> simp at h
      · rw [if_pos h]
        subst h
        have hkl2 : ks.length = 1 := by simp [kidsK] at hkk; omega
        have h0l : 0 < ks.length := by omega
        have g0 := get0 h0l
        rw [g0.1]
        (repeat (first | (apply WL.pure; rfl; rfl; rfl) | (apply CW.seq) | (apply CW.region)))
        refine WL.elemN (α := List Bool) (i := 0) rfl rfl rfl rfl rfl hks h0l (fun _ => rfl) (fun ua qa hua => ?_)
        obtain ⟨aa, ca, rfl, hsa⟩ := hua.sl
        refine WL.call rfl rfl rfl (not_ok w5 hsa (fun _ h => h) (by omega)) ?_
        rintro v w6 ⟨hov, hE6⟩
        (repeat (first | (apply WL.pure; rfl; rfl; rfl) | (apply WL.nil) | (apply EX.thenN) | (apply CW.ret) | (apply EX.thenR) | (apply EX.inR)))
        exact EX.ret1 rfl rfl ⟨hov.low hsz5, hE5'.trans hE6⟩
      rw [if_neg h]
      (repeat (first | (apply WL.pure; rfl; rfl; rfl) | (apply WL.nil) | (apply EX.thenN) | (apply CW.seq) | (apply CW.region)))
      refine CW.cond rfl (fun h => ?_) (fun h => ?_) <;> simp at h
      · rw [if_pos h]
        (repeat (first | (apply WL.pure; rfl; rfl; rfl) | (apply WL.nil) | (apply EX.thenN) | (apply CW.seq) | (apply CW.region) | (apply CW.ret) | (apply EX.thenR) | (apply EX.inR)))
        exact EX.ret1 rfl rfl ⟨ho10.low hE4'.size, hE5'⟩
      rw [if_neg h]
      generalize hov : Value.slice oo (List.replicate N false).length oc = ov at ho6 ⊢
      have hlt6 : ∀ g, ov.ownBlock = some g → w2.heap.size ≤ g ∧ g < w3.heap.size := by
        intro g hg
        rw [← hov] at hg
        exact ⟨(hout3 g hg).1, (hout3 g hg).2.1⟩
      have hs35 : w3.heap.size ≤ w5.heap.size := hE35.size
      (repeat (first | (apply WL.pure; rfl; rfl; rfl) | (apply WL.nil) | (apply EX.thenN) | (apply CW.seq) | (apply CW.region) | (apply CW.block) | (apply EX.inN) | (apply CW.skip) | (refine WL.lenO rfl rfl rfl (by assumption) ?_)))
      refine CW.loop (S := Nat) (fun i => [(2, .pointer (some ⟨w.heap.size, 0, none⟩)), (3, .pointer (some ⟨w1.heap.size, 0, none⟩)), (6, ov), (7, .slice ko ks.length kcap), (90, .int .i64 ((List.replicate N false).length : Int)), (91, .int .i64 (i : Int))])
        (fun i w' => w5.grownBy w' ov.ownBlock ∧ i ≤ N ∧ Own w' w2.heap.size 4 Non ov ((List.range i).map (placeK s l k n ks) ++ List.replicate (N - i) false)) (fun i => N - i) 0 (by repeat (first | exact trivial | refine ⟨rfl, ?_⟩)) ⟨(Ext.refl w5).grw _, by omega, by simpa using ho6⟩ ?_
      rintro i w6 ⟨hg6, hiN, ho⟩
      have hwl1 : w1.heap.size < w2.heap.size := hwl
      have hf6 := hf5.kept hg6 (fun e => by have := (hlt6 _ e.symm).1; have := hE1.size; omega)
      have hw6 := hw5.kept hg6 (fun e => by have := (hlt6 _ e.symm).1; omega)
      have hE6 : Ext w w6 := hE5'.grown hg6 hsz5 (fun g hg => by have := (hlt6 g hg).1; have := hE2.size; omega)
      have hs6 := hs.mono (fun b hb => hE6.block b (hF b hb)) fun _ h => h
      have hl6 := hl.mono (fun b hb => hE6.block b (hF b hb)) fun _ h => h
      have hF6 : ∀ b, F b → b < w6.heap.size := fun b hb => Nat.lt_of_lt_of_le (hF b hb) hE6.size
      have hK6 : ∀ b, (w3.heap.size ≤ b ∧ b < w4.heap.size) → w6.heap[b]? = w5.heap[b]? := fun b hb => hg6.block b (Nat.lt_of_lt_of_le hb.2 hE5.size) (fun e => by have := (hlt6 _ e.symm).2; omega)
      have hks6 := hksn.mono hK6 (fun _ h => h)
      have hend : ∀ w', w6.grownBy w' ov.ownBlock → Own w' w2.heap.size 4 Non ov (((List.range i).map (placeK s l k n ks) ++ List.replicate (N - i) false).set i (placeK s l k n ks i)) → i < N → w5.grownBy w' ov.ownBlock ∧ i + 1 ≤ N ∧ Own w' w2.heap.size 4 Non ov ((List.range (i + 1)).map (placeK s l k n ks) ++ List.replicate (N - (i + 1)) false) := by
        intro w' hg ho hlt
        refine ⟨grown_tr hg6 hg, hlt, ?_⟩
        have e : ((List.range i).map (placeK s l k n ks) ++ List.replicate (N - i) false).set i (placeK s l k n ks i) = (List.range (i + 1)).map (placeK s l k n ks) ++ List.replicate (N - (i + 1)) false := by
          rw [List.set_append_right _ _ (by simp)]
          have h0 : i - ((List.range i).map (placeK s l k n ks)).length = 0 := by simp
          rw [h0, show N - i = (N - (i + 1)) + 1 by omega, List.replicate_succ, List.set_cons_zero, List.range_succ, List.map_append]
          simp
        rw [← e]; exact ho
      have hlen6 : ((List.range i).map (placeK s l k n ks) ++ List.replicate (N - i) false).length = N := by simp; omega
      (repeat (first | (apply WL.pure; rfl; rfl; rfl) | (apply WL.nil) | (apply EX.thenN) | (apply CW.seq) | (apply CW.region)))
      refine CW.cond rfl (fun hi1 => ?_) (fun hi1 => ?_) <;> simp at hi1
      · (repeat (first | (apply WL.pure; rfl; rfl; rfl) | (apply WL.nil) | (apply EX.thenN) | (apply CW.seq) | (apply CW.region) | (apply WL.fa; rfl; rfl; rfl) | (apply WL.ld; rfl; rfl; rfl; assumption; rfl) | (apply CW.block) | (apply CW.skip)))
        refine CW.cond rfl (fun h3 => ?_) (fun h3 => ?_) <;> simp at h3
        · have hd6 := hg6
          have hEd0 : Ext w2 w6 := (hE23.trans hE35).grown hg6 (hE23.trans hE35).size (fun g hg => (hlt6 g hg).1)
          have hEd : Ext w2 (drew w6) := hEd0.trans (Ext.drew w6)
          have hSE : ∀ w1, (fun x => (drew w6).grownBy x ov.ownBlock) w1 → Ext w2 w1 := fun x hx => hEd.grown hx hEd.size (fun g hg => (hlt6 g hg).1)
          refine CW.drawH (fun x => (drew w6).grownBy x ov.ownBlock) [(0, true), (1, true), (2, true), (3, true), (5, true), (6, true), (4, false), (7, true), (8, true), (9, true), (10, true), (11, false)] mixed (by kernel_rfl) ((Ext.refl _).grw _) ?_
          have hlat : lat s l i < 18446744073709551616 := lat_lt hs.u64 hl.u64 i
          (repeat (first | (apply HL.pure; rfl; rfl; rfl; rfl) | (refine HL.fa rfl rfl rfl rfl ?_) | (refine HL.ld (by assumption) rfl rfl rfl rfl (by assumption) rfl ?_) | (refine HL.ldA (by assumption) rfl rfl rfl rfl (by assumption) rfl ?_)))
          refine HL.mut rfl (WL.call rfl rfl rfl (lassoAt0 (drew w6) (hs6.mono (fun _ _ => rfl) fun _ h => h) (hl6.mono (fun _ _ => rfl) fun _ h => h) hF6 hW.2 i (by omega) (by omega)) ?_)
          rintro v w7 ⟨rfl, hE7⟩
          refine WL.nil (EX.mut (hE7.grw _) ?_)
          have ho7' := (ho.extN (Ext.drew w6)).extN hE7
          skip
          refine HL.shrI rfl rfl rfl rfl rfl hlat hn0 ?_
          refine HL.and1 rfl rfl rfl rfl rfl (Nat.lt_of_le_of_lt (Nat.shiftRight_le _ _) hlat) ?_
          (repeat (apply HL.pure; rfl; rfl; rfl; rfl))
          have hy : placeK s l k n ks i = (((lat s l i >>> n.toNat &&& 1 : Nat) : Int) == 1) := by
            unfold placeK bitW; rw [if_pos h3, Bool.eq_iff_iff]; simp only [beq_iff_eq, decide_eq_true_eq]; omega
          rw [hy] at hend
          refine HL.setN (α := Bool) (k := i) (yv := (((lat s l i >>> n.toNat &&& 1 : Nat) : Int) == 1)) rfl rfl rfl rfl rfl rfl ho7' (by omega) (fun _ => rfl) (fun _ => rfl) (Rd.mkBool _ _ _) (fun x hx => grown_tr (hE7.grw _) hx) (fun w9 p ho9 hgr9 => ?_)
          (repeat (apply HL.nil))
          (repeat (first | (apply WL.add; rfl; rfl; rfl; rfl; omega; omega) | (apply WL.pure; rfl; rfl; rfl) | (apply WL.nil) | (apply EX.thenN) | (apply CW.region) | (apply EX.inN)))
          exact EX.back (i + 1) (by repeat (first | exact trivial | refine ⟨rfl, ?_⟩)) (hend w9 (grown_tr ((Ext.drew w6).grw _) (grown_tr (hE7.grw _) hgr9)) ho9 hi1) (by omega)
        (repeat (first | (apply WL.pure; rfl; rfl; rfl) | (apply WL.nil) | (apply EX.thenN) | (apply CW.seq) | (apply CW.region)))
        refine CW.cond rfl (fun h5 => ?_) (fun h5 => ?_) <;> simp at h5
        · have hkl2 : ks.length = 2 := by rw [h5] at hkk; simp [kidsK] at hkk; omega
          have h0l : 0 < ks.length := by omega
          have h1l : 1 < ks.length := by omega
          have g0 := get0 h0l
          have g1 := get1 h1l
          have hi0 : i < (ks[0]).length := by omega
          have hi1' : i < (ks[1]).length := by omega
          have e0 : (ks[0]).getD i false = (ks[0])[i] := by rw [List.getD_eq_getElem?_getD, List.getElem?_eq_getElem hi0]; rfl
          have e1 : (ks[1]).getD i false = (ks[1])[i] := by rw [List.getD_eq_getElem?_getD, List.getElem?_eq_getElem hi1']; rfl
          have hpl : placeK s l k n ks i = ((ks[0])[i] && (ks[1])[i]) := by
            unfold placeK; rw [if_neg h3, if_pos h5, g0.1, g1.1, e0, e1]
          (repeat (first | (apply WL.pure; rfl; rfl; rfl) | (apply CW.region)))
          refine WL.elemN (α := List Bool) (i := 0) rfl rfl rfl rfl rfl hks6 h0l (fun _ => rfl) (fun ua qa hua => ?_)
          obtain ⟨aa, ca, rfl, hsa⟩ := hua.sl
          (repeat (apply WL.pure; rfl; rfl; rfl))
          refine WL.elemB (i := i) rfl rfl rfl rfl rfl hsa hi0 rfl (fun _ => rfl) (fun qb => ?_)
          (repeat (apply WL.pure; rfl; rfl; rfl))
          (refine WL.lookG rfl rfl (fun h => ?_) (fun h => ?_))
          · have hb := h
            (repeat (apply WL.pure; rfl; rfl; rfl))
            refine WL.elemN (α := List Bool) (i := 1) rfl rfl rfl rfl rfl hks6 h1l (fun _ => rfl) (fun uc qc huc => ?_)
            obtain ⟨ac, cc, rfl, hsc⟩ := huc.sl
            (repeat (apply WL.pure; rfl; rfl; rfl))
            refine WL.elemB (i := i) rfl rfl rfl rfl rfl hsc hi1' rfl (fun _ => rfl) (fun qd => ?_)
            (repeat (apply WL.pure; rfl; rfl; rfl))
            have hy : placeK s l k n ks i = (ks[1])[i] := (by rw [hpl, hb]; rfl)
            rw [hy] at hend
            refine WL.setN (α := Bool) (yv := (ks[1])[i]) rfl rfl rfl rfl ho (by omega) (fun _ => rfl) (fun _ => rfl) (Rd.mkBool _ _ _) (fun w9 p ho9 hgr9 => ?_)
            (repeat (first | (apply WL.add; rfl; rfl; rfl; rfl; omega; omega) | (apply WL.pure; rfl; rfl; rfl) | (apply WL.nil) | (apply EX.thenN) | (apply CW.region) | (apply EX.inN)))
            exact EX.back (i + 1) (by repeat (first | exact trivial | refine ⟨rfl, ?_⟩)) (hend w9 hgr9 ho9 hi1) (by omega)
          · have hb := h
            (repeat (first | (apply WL.pure; rfl; rfl; rfl) | (apply WL.pass; rfl; rfl)))
            have hy : placeK s l k n ks i = false := (by rw [hpl, hb]; rfl)
            rw [hy] at hend
            refine WL.setN (α := Bool) (yv := false) rfl rfl rfl rfl ho (by omega) (fun _ => rfl) (fun _ => rfl) (Rd.mkBool _ _ _) (fun w9 p ho9 hgr9 => ?_)
            (repeat (first | (apply WL.add; rfl; rfl; rfl; rfl; omega; omega) | (apply WL.pure; rfl; rfl; rfl) | (apply WL.nil) | (apply EX.thenN) | (apply CW.region) | (apply EX.inN)))
            exact EX.back (i + 1) (by repeat (first | exact trivial | refine ⟨rfl, ?_⟩)) (hend w9 hgr9 ho9 hi1) (by omega)
        (repeat (first | (apply WL.pure; rfl; rfl; rfl) | (apply WL.nil) | (apply EX.thenN) | (apply CW.seq) | (apply CW.region)))
        refine CW.cond rfl (fun h6 => ?_) (fun h6 => ?_) <;> simp at h6
        · have hkl2 : ks.length = 2 := by rw [h6] at hkk; simp [kidsK] at hkk; omega
          have h0l : 0 < ks.length := by omega
          have h1l : 1 < ks.length := by omega
          have g0 := get0 h0l
          have g1 := get1 h1l
          have hi0 : i < (ks[0]).length := by omega
          have hi1' : i < (ks[1]).length := by omega
          have e0 : (ks[0]).getD i false = (ks[0])[i] := by rw [List.getD_eq_getElem?_getD, List.getElem?_eq_getElem hi0]; rfl
          have e1 : (ks[1]).getD i false = (ks[1])[i] := by rw [List.getD_eq_getElem?_getD, List.getElem?_eq_getElem hi1']; rfl
          have hpl : placeK s l k n ks i = ((ks[0])[i] || (ks[1])[i]) := by
            unfold placeK; rw [if_neg h3, if_neg h5, if_pos h6, g0.1, g1.1, e0, e1]
          (repeat (first | (apply WL.pure; rfl; rfl; rfl) | (apply CW.region)))
          refine WL.elemN (α := List Bool) (i := 0) rfl rfl rfl rfl rfl hks6 h0l (fun _ => rfl) (fun ua qa hua => ?_)
          obtain ⟨aa, ca, rfl, hsa⟩ := hua.sl
          (repeat (apply WL.pure; rfl; rfl; rfl))
          refine WL.elemB (i := i) rfl rfl rfl rfl rfl hsa hi0 rfl (fun _ => rfl) (fun qb => ?_)
          (repeat (apply WL.pure; rfl; rfl; rfl))
          (refine WL.lookG rfl rfl (fun h => ?_) (fun h => ?_))
          · have hb := h
            (repeat (first | (apply WL.pure; rfl; rfl; rfl) | (apply WL.pass; rfl; rfl)))
            have hy : placeK s l k n ks i = true := (by rw [hpl, hb]; rfl)
            rw [hy] at hend
            refine WL.setN (α := Bool) (yv := true) rfl rfl rfl rfl ho (by omega) (fun _ => rfl) (fun _ => rfl) (Rd.mkBool _ _ _) (fun w9 p ho9 hgr9 => ?_)
            (repeat (first | (apply WL.add; rfl; rfl; rfl; rfl; omega; omega) | (apply WL.pure; rfl; rfl; rfl) | (apply WL.nil) | (apply EX.thenN) | (apply CW.region) | (apply EX.inN)))
            exact EX.back (i + 1) (by repeat (first | exact trivial | refine ⟨rfl, ?_⟩)) (hend w9 hgr9 ho9 hi1) (by omega)
          · have hb := h
            (repeat (apply WL.pure; rfl; rfl; rfl))
            refine WL.elemN (α := List Bool) (i := 1) rfl rfl rfl rfl rfl hks6 h1l (fun _ => rfl) (fun uc qc huc => ?_)
            obtain ⟨ac, cc, rfl, hsc⟩ := huc.sl
            (repeat (apply WL.pure; rfl; rfl; rfl))
            refine WL.elemB (i := i) rfl rfl rfl rfl rfl hsc hi1' rfl (fun _ => rfl) (fun qd => ?_)
            (repeat (apply WL.pure; rfl; rfl; rfl))
            have hy : placeK s l k n ks i = (ks[1])[i] := (by rw [hpl, hb]; rfl)
            rw [hy] at hend
            refine WL.setN (α := Bool) (yv := (ks[1])[i]) rfl rfl rfl rfl ho (by omega) (fun _ => rfl) (fun _ => rfl) (Rd.mkBool _ _ _) (fun w9 p ho9 hgr9 => ?_)
            (repeat (first | (apply WL.add; rfl; rfl; rfl; rfl; omega; omega) | (apply WL.pure; rfl; rfl; rfl) | (apply WL.nil) | (apply EX.thenN) | (apply CW.region) | (apply EX.inN)))
            exact EX.back (i + 1) (by repeat (first | exact trivial | refine ⟨rfl, ?_⟩)) (hend w9 hgr9 ho9 hi1) (by omega)
        (repeat (first | (apply WL.pure; rfl; rfl; rfl) | (apply WL.nil) | (apply EX.thenN) | (apply CW.seq) | (apply CW.region)))
        refine CW.cond rfl (fun h7 => ?_) (fun h7 => ?_) <;> simp at h7
        · have hkl2 : ks.length = 1 := by rw [h7] at hkk; simp [kidsK] at hkk; omega
          have h0l : 0 < ks.length := by omega
          have g0 := get0 h0l
          have hnx : nextL s l i < (ks[0]).length := by unfold nextL; split <;> omega
          have e0 : (ks[0]).getD (nextL s l i) false = (ks[0])[nextL s l i] := by rw [List.getD_eq_getElem?_getD, List.getElem?_eq_getElem hnx]; rfl
          have hy : placeK s l k n ks i = (ks[0])[nextL s l i] := by
            unfold placeK; rw [if_neg h3, if_neg h5, if_neg h6, if_pos h7, g0.1, e0]
          rw [hy] at hend
          have hEd0 : Ext w2 w6 := (hE23.trans hE35).grown hg6 (hE23.trans hE35).size (fun g hg => (hlt6 g hg).1)
          have hEd : Ext w2 (drew w6) := hEd0.trans (Ext.drew w6)
          have hSE : ∀ w1, (fun x => (drew w6).grownBy x ov.ownBlock) w1 → Ext w2 w1 := fun x hx => hEd.grown hx hEd.size (fun g hg => (hlt6 g hg).1)
          have hK : ∀ w1, (fun x => (drew w6).grownBy x ov.ownBlock) w1 → ∀ b, (w3.heap.size ≤ b ∧ b < w4.heap.size) → w1.heap[b]? = w6.heap[b]? := fun x hx b hb => hx.block b (Nat.lt_of_lt_of_le (Nat.lt_of_lt_of_le hb.2 hE5.size) hg6.size) (fun e => by have := (hlt6 _ e.symm).2; omega)
          refine CW.drawH (fun x => (drew w6).grownBy x ov.ownBlock) [(0, true), (1, true), (2, true), (3, true), (4, true), (5, true), (6, true), (7, false), (8, true), (9, true), (10, true), (11, false)] mixed (by kernel_rfl) ((Ext.refl _).grw _) ?_
          (repeat (apply HL.pure; rfl; rfl; rfl; rfl))
          refine HL.elemK (α := List Bool) (k := 0) hK rfl rfl rfl rfl rfl rfl rfl hks6 h0l (fun _ => rfl) (fun ua qa hua => ?_)
          obtain ⟨aa, ca, rfl, hsa⟩ := hua.sl
          (repeat (first | (apply HL.pure; rfl; rfl; rfl; rfl) | (refine HL.ldA (by assumption) rfl rfl rfl rfl (by assumption) rfl ?_)))
          refine HL.mut rfl (WL.call rfl rfl rfl (next_ok (s := s) (l := l) (drew w6) i (by omega) (by omega)) ?_)
          rintro v w7 ⟨rfl, hE7⟩
          refine WL.nil (EX.mut (hE7.grw _) ?_)
          have ho7' := (ho.extN (Ext.drew w6)).extN hE7
          skip
          refine HL.elemK (α := Bool) (k := nextL s l i) hK rfl rfl rfl rfl rfl rfl rfl hsa hnx (fun _ => rfl) (fun ub qb hub => ?_)
          have hub := hub.bool
          subst hub
          refine HL.setN (α := Bool) (k := i) (yv := (ks[0])[nextL s l i]) rfl rfl rfl rfl rfl rfl ho7' (by omega) (fun _ => rfl) (fun _ => rfl) (Rd.mkBool _ _ _) (fun x hx => grown_tr (hE7.grw _) hx) (fun w9 p ho9 hgr9 => ?_)
          (repeat (apply HL.nil))
          (repeat (first | (apply WL.add; rfl; rfl; rfl; rfl; omega; omega) | (apply WL.pure; rfl; rfl; rfl) | (apply WL.nil) | (apply EX.thenN) | (apply CW.region) | (apply EX.inN)))
          exact EX.back (i + 1) (by repeat (first | exact trivial | refine ⟨rfl, ?_⟩)) (hend w9 (grown_tr ((Ext.drew w6).grw _) (grown_tr (hE7.grw _) hgr9)) ho9 hi1) (by omega)
        have hy : placeK s l k n ks i = false := by unfold placeK; rw [if_neg h3, if_neg h5, if_neg h6, if_neg h7]
        have hset : ((List.range i).map (placeK s l k n ks) ++ List.replicate (N - i) false).set i false = (List.range i).map (placeK s l k n ks) ++ List.replicate (N - i) false := by
          rw [List.set_append_right _ _ (by simp)]
          have h0 : i - ((List.range i).map (placeK s l k n ks)).length = 0 := by simp
          rw [h0, show N - i = (N - i - 1) + 1 by omega, List.replicate_succ, List.set_cons_zero]
        rw [hy, hset] at hend
        (repeat (first | (apply WL.add; rfl; rfl; rfl; rfl; omega; omega) | (apply WL.pure; rfl; rfl; rfl) | (apply WL.nil) | (apply EX.thenN) | (apply CW.region) | (apply EX.inN) | (apply CW.skip)))
        exact EX.back (i + 1) (by repeat (first | exact trivial | refine ⟨rfl, ?_⟩)) (hend w6 ((Ext.refl w6).grw _) ho hi1) (by omega)
      · have hiN' : i = N := by omega
        subst hiN'
        (repeat (first | (apply WL.pure; rfl; rfl; rfl) | (apply WL.nil) | (apply EX.thenN) | (apply CW.seq) | (apply CW.region) | (apply CW.exit) | (apply EX.thenX) | (apply EX.inX) | (apply CW.ret)))
        refine EX.ret1 rfl rfl ⟨?_, hE6⟩
        rw [Nat.sub_self, List.replicate_zero, List.append_nil] at ho
        exact ho.low hE2.size
end Go.Proofs.Ytllpfgcngokhnaa

/-
  What formulas of one way mean, on endless words; that lasso.holds says so. Plain law, no program in sight.
-/
set_option linter.unusedVariables false
set_option linter.unusedSimpArgs false
namespace Go.Proofs.Ytllpfgcngokhnaa
open Go.RowKit

def Til (A B : Nat → Prop) (i : Nat) : Prop := ∃ j, i ≤ j ∧ B j ∧ ∀ m, i ≤ m → m < j → A m
theorem Til.step {A B : Nat → Prop} {i : Nat} : Til A B i ↔ B i ∨ (A i ∧ Til A B (i + 1)) := by
  constructor
  · rintro ⟨j, hj, hb, ha⟩
    by_cases h : i = j
    · subst h; exact .inl hb
    · exact .inr ⟨ha i (Nat.le_refl _) (by omega), j, by omega, hb, fun m h1 h2 => ha m (by omega) h2⟩
  · rintro (hb | ⟨ha, j, hj, hb, hm⟩)
    · exact ⟨i, Nat.le_refl _, hb, fun m h1 h2 => by omega⟩
    · refine ⟨j, by omega, hb, fun m h1 h2 => ?_⟩
      by_cases h : m = i
      · subst h; exact ha
      · exact hm m (by omega) h2
def semK (L : Nat → Nat) (k n : Int) (ks : List (Nat → Prop)) (i : Nat) : Prop :=
  if k = 1 then True
  else if k = 3 then L i >>> n.toNat &&& 1 = 1
  else if k = 4 then ¬ ks.getD 0 (fun _ => False) i
  else if k = 5 then ks.getD 0 (fun _ => False) i ∧ ks.getD 1 (fun _ => False) i
  else if k = 6 then ks.getD 0 (fun _ => False) i ∨ ks.getD 1 (fun _ => False) i
  else if k = 7 then ks.getD 0 (fun _ => False) (i + 1)
  else if k = 8 then Til (ks.getD 0 (fun _ => False)) (ks.getD 1 (fun _ => False)) i
  else if k = 9 then ¬ Til (fun j => ¬ ks.getD 0 (fun _ => False) j) (fun j => ¬ ks.getD 1 (fun _ => False) j) i
  else if k = 10 then Til (fun _ => True) (ks.getD 0 (fun _ => False)) i
  else if k = 11 then ¬ Til (fun _ => True) (fun j => ¬ ks.getD 0 (fun _ => False) j) i
  else False
mutual
def sem (L : Nat → Nat) : Ltl → Nat → Prop
  | .mk k n kids => semK L k n (sems L kids)
def sems (L : Nat → Nat) : List Ltl → List (Nat → Prop)
  | [] => []
  | x :: r => sem L x :: sems L r
end
theorem Til.shift {A B A' B' : Nat → Prop} {i i' : Nat} (ha : ∀ j, A (i + j) ↔ A' (i' + j)) (hb : ∀ j, B (i + j) ↔ B' (i' + j)) : Til A B i ↔ Til A' B' i' := by
  constructor
  · rintro ⟨j, hj, h1, h2⟩
    obtain ⟨d, rfl⟩ := Nat.exists_eq_add_of_le hj
    refine ⟨i' + d, by omega, (hb d).1 h1, fun m hm hm2 => ?_⟩
    obtain ⟨e, rfl⟩ := Nat.exists_eq_add_of_le hm
    exact (ha e).1 (h2 (i + e) (by omega) (by omega))
  · rintro ⟨j, hj, h1, h2⟩
    obtain ⟨d, rfl⟩ := Nat.exists_eq_add_of_le hj
    refine ⟨i + d, by omega, (hb d).2 h1, fun m hm hm2 => ?_⟩
    obtain ⟨e, rfl⟩ := Nat.exists_eq_add_of_le hm
    exact (ha e).2 (h2 (i' + e) (by omega) (by omega))
mutual
theorem sem_congr {L L' : Nat → Nat} : ∀ (t : Ltl) (i i' : Nat), (∀ j, L (i + j) = L' (i' + j)) → (sem L t i ↔ sem L' t i')
  | .mk k n kids, i, i', h => by
    have hk : ∀ c d, (sems L kids).getD c (fun _ => False) (i + d) ↔ (sems L' kids).getD c (fun _ => False) (i' + d) := fun c d => sems_congr kids (i + d) (i' + d) (fun j => by rw [Nat.add_assoc, Nat.add_assoc]; exact h (d + j)) c
    simp only [sem, semK]
    split
    · exact Iff.rfl
    · split
      · rw [show L i = L' i' from h 0]
      · split
        · exact not_congr (hk 0 0)
        · split
          · exact and_congr (hk 0 0) (hk 1 0)
          · split
            · exact or_congr (hk 0 0) (hk 1 0)
            · split
              · exact hk 0 1
              · split
                · exact Til.shift (hk 0) (hk 1)
                · split
                  · exact not_congr (Til.shift (fun j => not_congr (hk 0 j)) (fun j => not_congr (hk 1 j)))
                  · split
                    · exact Til.shift (fun _ => Iff.rfl) (hk 0)
                    · split
                      · exact not_congr (Til.shift (fun _ => Iff.rfl) (fun j => not_congr (hk 0 j)))
                      · exact Iff.rfl
theorem sems_congr {L L' : Nat → Nat} : ∀ (kids : List Ltl) (i i' : Nat), (∀ j, L (i + j) = L' (i' + j)) → ∀ c, ((sems L kids).getD c (fun _ => False) i ↔ (sems L' kids).getD c (fun _ => False) i')
  | [], i, i', h, c => by simp [sems]
  | x :: r, i, i', h, 0 => by simpa [sems] using sem_congr x i i' h
  | x :: r, i, i', h, c + 1 => by simpa [sems] using sems_congr r i i' h c
end
section
variable {s l : List Nat} {a b : List Bool} {A B : Nat → Prop} {N : Nat}
/-- what until says is so -/
theorem untilR_sound (hN : N = s.length + l.length) (h0 : 0 < l.length) (ha : ∀ i, i < N → (a.getD i false = true → A i)) (hb : ∀ i, i < N → (b.getD i false = true → B i)) (hT : ∀ i, i < N → Til A B (nextL s l i) → Til A B (i + 1)) :
    ∀ i out, i ≤ N → out.length = N → (∀ m, m < N → out.getD m false = true → Til A B m) → ∀ m, m < N → (untilR s l a b i out).getD m false = true → Til A B m
  | 0, out, _, _, h, m, hm, ho => h m hm ho
  | i + 1, out, hi, hl, h, m, hm, ho => by
    refine untilR_sound hN h0 ha hb hT i _ (by omega) (by simpa using hl) (fun m hm ho => ?_) m hm ho
    rw [List.getD_eq_getElem?_getD, List.getElem?_set] at ho
    split at ho
    · rename_i hmi
      subst hmi
      rw [if_pos (by omega)] at ho
      simp only [Option.getD_some, Bool.or_eq_true, Bool.and_eq_true] at ho
      refine Til.step.2 ?_
      rcases ho with ho | ⟨h1, h2⟩
      · exact .inl (hb i (by omega) ho)
      · refine .inr ⟨ha i (by omega) h1, hT i (by omega) (h _ ?_ h2)⟩
        unfold nextL; split <;> omega
    · rw [← List.getD_eq_getElem?_getD] at ho
      exact h m hm ho
/-- a round finds what is found place by place -/
theorem untilR_full (hN : N = s.length + l.length) (good : Nat → Prop) (hg : ∀ m, m + 1 < N → good m → b.getD m false = true ∨ (a.getD m false = true ∧ good (m + 1))) :
    ∀ i out, i + 1 ≤ N → out.length = N → (∀ m, i ≤ m → m < N → good m → out.getD m false = true) → ∀ m, m < N → good m → (untilR s l a b i out).getD m false = true
  | 0, out, _, _, h, m, hm, hgm => h m (Nat.zero_le _) hm hgm
  | i + 1, out, hi, hl, h, m, hm, hgm => by
    refine untilR_full hN good hg i _ (by omega) (by simpa using hl) (fun m h1 hm hgm => ?_) m hm hgm
    rw [List.getD_eq_getElem?_getD, List.getElem?_set]
    split
    · rename_i hmi
      subst hmi
      rw [if_pos (by omega)]
      simp only [Option.getD_some, Bool.or_eq_true, Bool.and_eq_true]
      rcases hg i (by omega) hgm with hb | ⟨ha, hg'⟩
      · exact .inl hb
      · refine .inr ⟨ha, ?_⟩
        have : nextL s l i = i + 1 := by unfold nextL; rw [if_neg (by omega)]
        rw [this]
        exact h (i + 1) (Nat.le_refl _) (by omega) hg'
    · rename_i hmi
      rw [← List.getD_eq_getElem?_getD]
      exact h m (by omega) hm hgm
theorem untilL_sem (hN : N = s.length + l.length) (h0 : 0 < l.length) (hla : a.length = N) (ha : ∀ i, i < N → (a.getD i false = true ↔ A i)) (hb : ∀ i, i < N → (b.getD i false = true ↔ B i))
    (hA : ∀ j, s.length ≤ j → (A (j + l.length) ↔ A j)) (hB : ∀ j, s.length ≤ j → (B (j + l.length) ↔ B j)) : ∀ i, i < N → ((untilL s l a b).getD i false = true ↔ Til A B i) := by
  have hTN : Til A B N ↔ Til A B s.length := by
    refine Til.shift (fun j => ?_) (fun j => ?_)
    · rw [show N + j = (s.length + j) + l.length by omega]; exact hA _ (by omega)
    · rw [show N + j = (s.length + j) + l.length by omega]; exact hB _ (by omega)
  have hT : ∀ i, i < N → (Til A B (nextL s l i) ↔ Til A B (i + 1)) := by
    intro i hi
    unfold nextL
    split
    · rw [show i + 1 = N by omega]; exact hTN.symm
    · exact Iff.rfl
  -- a witness within the loop
  have hin : ∀ d j, j - N = d → s.length ≤ j → B j → (∀ m, s.length ≤ m → m < j → A m) → ∃ j', s.length ≤ j' ∧ j' < N ∧ B j' ∧ ∀ m, s.length ≤ m → m < j' → A m := by
    intro d
    induction d using Nat.strongRecOn with
    | _ d ih =>
      intro j hd hj hBj hAj
      by_cases h : j < N
      · exact ⟨j, hj, h, hBj, hAj⟩
      · have hB' : B (j - l.length) := by
          have := hB (j - l.length) (by omega)
          rw [show j - l.length + l.length = j by omega] at this
          exact this.1 hBj
        by_cases hjN : j - l.length < N
        · exact ⟨j - l.length, by omega, hjN, hB', fun m h1 h2 => hAj m h1 (by omega)⟩
        · exact ih (j - l.length - N) (by omega) (j - l.length) rfl (by omega) hB' (fun m h1 h2 => hAj m h1 (by omega))
  let good1 : Nat → Prop := fun m => ∃ j, m ≤ j ∧ j < N ∧ B j ∧ ∀ r, m ≤ r → r < j → A r
  have hrep : (List.replicate a.length false).length = N := by simp [hla]
  have hpos : 0 < N := by omega
  obtain ⟨M, hM⟩ : ∃ M, N = M + 1 := ⟨N - 1, by omega⟩
  -- the first round
  have r1 : ∀ m, m < N → good1 m → (untilR s l a b a.length (List.replicate a.length false)).getD m false = true := by
    intro m hm hg
    rw [show a.length = M + 1 by omega]
    simp only [untilR]
    refine untilR_full (N := N) hN good1 ?_ M _ (by omega) (by simp; omega) (fun m h1 h2 hg => ?_) m hm hg
    · rintro m hm ⟨j, h1, h2, h3, h4⟩
      by_cases hmj : m = j
      · subst hmj; exact .inl ((hb m h2).2 h3)
      · exact .inr ⟨(ha m (by omega)).2 (h4 m (Nat.le_refl _) (by omega)), j, by omega, h2, h3, fun r hr1 hr2 => h4 r (by omega) hr2⟩
    · have : m = M := by omega
      subst this
      obtain ⟨j, h1, h2, h3, h4⟩ := hg
      have : j = m := by omega
      subst this
      rw [List.getD_eq_getElem?_getD, List.getElem?_set, if_pos rfl, if_pos (by simp)]
      simp only [Option.getD_some, (hb j h2).2 h3, Bool.true_or]
  have hl1 : (untilR s l a b a.length (List.replicate a.length false)).length = N := by rw [untilR_len]; exact hrep
  intro i hi
  constructor
  · intro h
    unfold untilL at h
    refine untilR_sound hN h0 (fun i hi => (ha i hi).1) (fun i hi => (hb i hi).1) (fun i hi => (hT i hi).1) a.length _ (by omega) hl1 (fun m hm ho => ?_) i hi h
    refine untilR_sound hN h0 (fun i hi => (ha i hi).1) (fun i hi => (hb i hi).1) (fun i hi => (hT i hi).1) a.length _ (by omega) hrep (fun m hm ho => ?_) m hm ho
    rw [List.getD_eq_getElem?_getD, List.getElem?_replicate] at ho
    split at ho <;> simp at ho
  · intro h
    unfold untilL
    generalize untilR s l a b a.length (List.replicate a.length false) = out1 at *
    rw [show a.length = M + 1 by omega]
    simp only [untilR]
    refine untilR_full (N := N) hN (Til A B) ?_ M _ (by omega) (by simpa using hl1) (fun m h1 h2 hg => ?_) i hi h
    · intro m hm hg
      rcases Til.step.1 hg with h1 | ⟨h1, h2⟩
      · exact .inl ((hb m (by omega)).2 h1)
      · exact .inr ⟨(ha m (by omega)).2 h1, h2⟩
    · have : m = M := by omega
      subst this
      rw [List.getD_eq_getElem?_getD, List.getElem?_set, if_pos rfl, if_pos (by omega)]
      simp only [Option.getD_some, Bool.or_eq_true, Bool.and_eq_true]
      rcases Til.step.1 hg with h3 | ⟨h3, h4⟩
      · exact .inl ((hb m h2).2 h3)
      · refine .inr ⟨(ha m h2).2 h3, ?_⟩
        have hnx : nextL s l m = s.length := by unfold nextL; rw [if_pos (by omega)]
        rw [hnx]
        rw [← hM] at h4
        obtain ⟨j, hj, hBj, hAj⟩ := hTN.1 h4
        obtain ⟨j', k1, k2, k3, k4⟩ := hin (j - N) j rfl hj hBj hAj
        exact r1 s.length (by omega) ⟨j', k1, k2, k3, k4⟩
end

/- WHAT HOLDS -/
theorem lat_loop {s l : List Nat} {j : Nat} (hj : s.length ≤ j) : lat s l (j + l.length) = lat s l j := by
  unfold lat
  rw [if_neg (by omega), if_neg (by omega)]
  congr 1
  rw [show j + l.length - s.length = (j - s.length) + l.length by omega, Nat.add_mod_right]
theorem sem_loop {s l : List Nat} (t : Ltl) {j : Nat} (hj : s.length ≤ j) : sem (lat s l) t (j + l.length) ↔ sem (lat s l) t j := by
  refine sem_congr t _ _ (fun d => ?_)
  rw [show j + l.length + d = (j + d) + l.length by omega]
  exact lat_loop (by omega)
theorem notB {xs : List Bool} {N i : Nat} (hl : xs.length = N) (hi : i < N) : ((xs.map (!·)).getD i false = true ↔ ¬ xs.getD i false = true) := by
  rw [List.getD_eq_getElem?_getD, List.getD_eq_getElem?_getD, List.getElem?_map, List.getElem?_eq_getElem (by omega)]
  simp
theorem repB {N i : Nat} (hi : i < N) : (List.replicate N true).getD i false = true := by
  rw [List.getD_eq_getElem?_getD, List.getElem?_replicate, if_pos hi]; rfl
theorem sem_next {s l : List Nat} (t : Ltl) {i : Nat} (hi : i < s.length + l.length) : sem (lat s l) t (nextL s l i) ↔ sem (lat s l) t (i + 1) := by
  unfold nextL
  split
  · rename_i h
    rw [show i + 1 = s.length + l.length from h]
    exact (sem_loop t (Nat.le_refl _)).symm
  · exact Iff.rfl
theorem comb_sem {s l : List Nat} (h0 : 0 < l.length) {k n : Int} {kids : List Ltl} (hk : kidsK k = kids.length) (hw : wfTs kids)
    (ih : ∀ c (h : c < kids.length), ∀ i, i < s.length + l.length → ((holdsL s l kids[c]).getD i false = true ↔ sem (lat s l) kids[c] i)) :
    ∀ i, i < s.length + l.length → ((comb s l k n (holdsLs s l kids)).getD i false = true ↔ semK (lat s l) k n (sems (lat s l) kids) i) := by
  intro i hi
  have hc := kidsK_cases k
  have hlen := holdsLs_lens (s := s) (l := l) kids hw
  generalize hN : s.length + l.length = N at *
  -- one kid, two kids
  have one : kids.length = 1 → ∃ x, kids = [x] := fun h => List.length_eq_one_iff.1 h
  have two : kids.length = 2 → ∃ x y, kids = [x, y] := fun h => by
    match kids, h with
    | [x, y], _ => exact ⟨x, y, rfl⟩
  have pl : ∀ f : Nat → Bool, ((List.range N).map f).getD i false = f i := fun f => by
    rw [List.getD_eq_getElem?_getD, List.getElem?_map, List.getElem?_range hi]; rfl
  have hTrue : ∀ i, i < N → ((List.replicate N true).getD i false = true ↔ True) := fun i hi => by rw [repB hi]; simp
  have hrl : (List.replicate N true).length = N := by simp
  have hnx : nextL s l i < N := by unfold nextL; split <;> omega
  rcases hc with ⟨h1, hk'⟩ | ⟨h1, hk'⟩ | ⟨h1, hk'⟩ | h1
  · -- no kid
    rcases hk' with rfl | rfl | rfl
    · have e1 : ∀ ks, comb s l 1 n ks = List.replicate N true := fun ks => by simp [comb, hN]
      have e2 : ∀ ks, semK (lat s l) 1 n ks i = True := fun ks => by simp [semK]
      rw [e1, e2]; exact hTrue i hi
    · have e1 : ∀ ks, comb s l 2 n ks = (List.range N).map (placeK s l 2 n ks) := fun ks => by simp [comb, hN]
      have e2 : ∀ ks, semK (lat s l) 2 n ks i = False := fun ks => by simp [semK]
      rw [e1, e2, pl]; simp [placeK]
    · have e1 : ∀ ks, comb s l 3 n ks = (List.range N).map (placeK s l 3 n ks) := fun ks => by simp [comb, hN]
      have e2 : ∀ ks, semK (lat s l) 3 n ks i = (lat s l i >>> n.toNat &&& 1 = 1) := fun ks => by simp [semK]
      have e3 : ∀ ks, placeK s l 3 n ks i = decide (lat s l i >>> n.toNat &&& 1 = 1) := fun ks => by unfold placeK; rw [if_pos rfl]; rfl
      rw [e1, e2, pl, e3, decide_eq_true_eq]
  · obtain ⟨x, rfl⟩ := one (by omega)
    have hx := ih 0 (by simp)
    simp only [List.getElem_cons_zero] at hx
    have hlx : (holdsL s l x).length = N := hlen _ (by simp [holdsLs])
    have hlp : ∀ j, s.length ≤ j → (sem (lat s l) x (j + l.length) ↔ sem (lat s l) x j) := fun j hj => sem_loop x hj
    have hsn := sem_next (s := s) (l := l) x (i := i) (by omega)
    rw [show holdsLs s l [x] = [holdsL s l x] by simp [holdsLs], show sems (lat s l) [x] = [sem (lat s l) x] by simp [sems]]
    generalize holdsL s l x = u at *
    generalize sem (lat s l) x = q at *
    rcases hk' with rfl | rfl | rfl | rfl
    · have e1 : comb s l 4 n [u] = u.map (!·) := by simp [comb]
      have e2 : semK (lat s l) 4 n [q] i = ¬ q i := by simp [semK]
      rw [e1, e2]
      exact (notB hlx hi).trans (not_congr (hx i hi))
    · have e1 : comb s l 7 n [u] = (List.range N).map (placeK s l 7 n [u]) := by simp [comb, hN]
      have e2 : semK (lat s l) 7 n [q] i = q (i + 1) := by simp [semK]
      have e3 : placeK s l 7 n [u] i = u.getD (nextL s l i) false := by simp [placeK]
      rw [e1, e2, pl, e3]
      exact (hx _ hnx).trans hsn
    · have e1 : comb s l 10 n [u] = untilL s l (List.replicate N true) u := by simp [comb, hN]
      have e2 : semK (lat s l) 10 n [q] i = Til (fun _ => True) q i := by simp [semK]
      rw [e1, e2]
      exact untilL_sem (A := fun _ => True) (B := q) hN.symm h0 hrl hTrue hx (fun _ _ => Iff.rfl) hlp i hi
    · have e1 : comb s l 11 n [u] = (untilL s l (List.replicate N true) (u.map (!·))).map (!·) := by simp [comb, hN]
      have e2 : semK (lat s l) 11 n [q] i = ¬ Til (fun _ => True) (fun j => ¬ q j) i := by simp [semK]
      rw [e1, e2]
      refine (notB (by rw [untilL_len, hrl]) hi).trans (not_congr ?_)
      exact untilL_sem (A := fun _ => True) (B := fun j => ¬ q j) hN.symm h0 hrl hTrue (fun i hi => (notB hlx hi).trans (not_congr (hx i hi))) (fun _ _ => Iff.rfl) (fun j hj => not_congr (hlp j hj)) i hi
  · obtain ⟨x, y, rfl⟩ := two (by omega)
    have hx := ih 0 (by simp)
    have hy := ih 1 (by simp)
    simp only [List.getElem_cons_zero, List.getElem_cons_succ] at hx hy
    have hlx : (holdsL s l x).length = N := hlen _ (by simp [holdsLs])
    have hly : (holdsL s l y).length = N := hlen _ (by simp [holdsLs])
    have hpx : ∀ j, s.length ≤ j → (sem (lat s l) x (j + l.length) ↔ sem (lat s l) x j) := fun j hj => sem_loop x hj
    have hpy : ∀ j, s.length ≤ j → (sem (lat s l) y (j + l.length) ↔ sem (lat s l) y j) := fun j hj => sem_loop y hj
    rw [show holdsLs s l [x, y] = [holdsL s l x, holdsL s l y] by simp [holdsLs], show sems (lat s l) [x, y] = [sem (lat s l) x, sem (lat s l) y] by simp [sems]]
    generalize holdsL s l x = u at *
    generalize holdsL s l y = v at *
    generalize sem (lat s l) x = q at *
    generalize sem (lat s l) y = r at *
    rcases hk' with rfl | rfl | rfl | rfl
    · have e1 : comb s l 5 n [u, v] = (List.range N).map (placeK s l 5 n [u, v]) := by simp [comb, hN]
      have e2 : semK (lat s l) 5 n [q, r] i = (q i ∧ r i) := by simp [semK]
      have e3 : placeK s l 5 n [u, v] i = (u.getD i false && v.getD i false) := by simp [placeK]
      rw [e1, e2, pl, e3, Bool.and_eq_true]
      exact and_congr (hx i hi) (hy i hi)
    · have e1 : comb s l 6 n [u, v] = (List.range N).map (placeK s l 6 n [u, v]) := by simp [comb, hN]
      have e2 : semK (lat s l) 6 n [q, r] i = (q i ∨ r i) := by simp [semK]
      have e3 : placeK s l 6 n [u, v] i = (u.getD i false || v.getD i false) := by simp [placeK]
      rw [e1, e2, pl, e3, Bool.or_eq_true]
      exact or_congr (hx i hi) (hy i hi)
    · have e1 : comb s l 8 n [u, v] = untilL s l u v := by simp [comb]
      have e2 : semK (lat s l) 8 n [q, r] i = Til q r i := by simp [semK]
      rw [e1, e2]
      exact untilL_sem hN.symm h0 hlx hx hy hpx hpy i hi
    · have e1 : comb s l 9 n [u, v] = (untilL s l (u.map (!·)) (v.map (!·))).map (!·) := by simp [comb]
      have e2 : semK (lat s l) 9 n [q, r] i = ¬ Til (fun j => ¬ q j) (fun j => ¬ r j) i := by simp [semK]
      rw [e1, e2]
      refine (notB (by rw [untilL_len, List.length_map]; exact hlx) hi).trans (not_congr ?_)
      exact untilL_sem (A := fun j => ¬ q j) (B := fun j => ¬ r j) hN.symm h0 (by rw [List.length_map]; exact hlx) (fun i hi => (notB hlx hi).trans (not_congr (hx i hi))) (fun i hi => (notB hly hi).trans (not_congr (hy i hi))) (fun j hj => not_congr (hpx j hj)) (fun j hj => not_congr (hpy j hj)) i hi
  · omega
mutual
theorem holds_sem {s l : List Nat} (h0 : 0 < l.length) : ∀ t, wfT t → ∀ i, i < s.length + l.length → ((holdsL s l t).getD i false = true ↔ sem (lat s l) t i)
  | .mk k n kids, hw => by
    simp only [wfT] at hw
    simp only [holdsL, sem]
    exact comb_sem h0 hw.1 hw.2.2.2.2 (fun c h => holdss_sem h0 kids hw.2.2.2.2 c h)
theorem holdss_sem {s l : List Nat} (h0 : 0 < l.length) : ∀ (kids : List Ltl), wfTs kids → ∀ c (h : c < kids.length), ∀ i, i < s.length + l.length → ((holdsL s l kids[c]).getD i false = true ↔ sem (lat s l) kids[c] i)
  | x :: r, hw, 0, h => holds_sem h0 x hw.1
  | x :: r, hw, c + 1, h => holdss_sem h0 r hw.2 c (by simpa using h)
end
end Go.Proofs.Ytllpfgcngokhnaa

/-
  Package push, plain: nots pushed down, plain, slim; what they mean and what forms they give.
-/
set_option linter.unusedVariables false
set_option linter.unusedSimpArgs false
namespace Go.Proofs.Ytllpfgcngokhnaa
open Go.RowKit

/-- induction over right formulas -/
theorem wf_ind {M : Ltl → Prop} (h1 : M (.mk 1 0 [])) (h2 : M (.mk 2 0 [])) (h3 : ∀ n, 0 ≤ n → n ≤ 63 → M (.mk 3 n []))
    (hu : ∀ k a, k = 4 ∨ k = 7 ∨ k = 10 ∨ k = 11 → wfT a → M a → M (.mk k 0 [a]))
    (hb : ∀ k a b, k = 5 ∨ k = 6 ∨ k = 8 ∨ k = 9 → wfT a → wfT b → M a → M b → M (.mk k 0 [a, b])) : ∀ t, wfT t → M t := by
  have key : ∀ m (t : Ltl), t.nodes ≤ m → wfT t → M t := by
    intro m
    induction m with
    | zero => intro t ht; have := t.nodes_pos; omega
    | succ m ih =>
      rintro ⟨k, n, kids⟩ ht hw
      simp only [wfT] at hw
      simp only [Ltl.nodes] at ht
      obtain ⟨hk, hn0, hn1, hn2, hks⟩ := hw
      unfold kidsK at hk
      split at hk
      · rename_i hc
        have : kids = [] := List.eq_nil_of_length_eq_zero (by omega)
        subst this
        rcases hc with rfl | rfl | rfl
        · rw [hn2 (by decide)]; exact h1
        · rw [hn2 (by decide)]; exact h2
        · exact h3 n hn0 hn1
      · split at hk
        · rename_i hc
          rw [hn2 (by omega)]
          match kids, hk with
          | [a], _ =>
            simp only [Ltl.nodesL, wfTs] at ht hks
            exact hu k a hc hks.1 (ih a (by omega) hks.1)
        · split at hk
          · rename_i hc
            rw [hn2 (by omega)]
            match kids, hk with
            | [a, b], _ =>
              simp only [Ltl.nodesL, wfTs] at ht hks
              have := a.nodes_pos
              have := b.nodes_pos
              exact hb k a b hc hks.1 hks.2.1 (ih a (by omega) hks.1) (ih b (by omega) hks.2.1)
          · omega
  exact fun t hw => key t.nodes t (Nat.le_refl _) hw
/- DEPTH, AND WHAT Check ASKS -/
mutual
def Ltl.deep : Ltl → Nat
  | .mk _ _ kids => 1 + Ltl.deepL kids
def Ltl.deepL : List Ltl → Nat
  | [] => 0
  | x :: r => max x.deep (Ltl.deepL r)
end
mutual
theorem chk_size : ∀ (t : Ltl) (d c : Int), (chkF t d c).1 = 0 → (chkF t d c).2 = c + t.nodes ∧ d + t.deep ≤ 21
  | .mk k n kids, d, c, h => by
    simp only [chkF] at h ⊢
    split at h
    · cases h
    · rename_i h1
      rw [if_neg h1]
      split at h
      · cases h
      · rename_i h2
        rw [if_neg h2]
        split at h
        · cases h
        · rename_i h3
          rw [if_neg h3]
          have := chks_size kids (d + 1) (c + 1) (by omega) h
          simp only [Ltl.nodes, Ltl.deep]
          omega
theorem chks_size : ∀ (l : List Ltl) (d c : Int), d ≤ 21 → (chkFL l d c).1 = 0 → (chkFL l d c).2 = c + Ltl.nodesL l ∧ d + Ltl.deepL l ≤ 21
  | [], d, c, hd, h => by simp only [chkFL, Ltl.nodesL, Ltl.deepL]; omega
  | x :: r, d, c, hd, h => by
    simp only [chkFL] at h ⊢
    split at h
    · rename_i h1; exact absurd h h1
    · rename_i h1
      rw [if_neg h1]
      have h2 := chk_size x d c (by simpa using h1)
      have h3 := chks_size r d _ hd h
      simp only [Ltl.nodesL, Ltl.deepL]
      omega
end
mutual
theorem chk_of : ∀ (t : Ltl) (d c : Int), wfT t → c + t.nodes ≤ 60 → d + t.deep ≤ 21 → (chkF t d c).1 = 0
  | .mk k n kids, d, c, hw, h1, h2 => by
    simp only [wfT] at hw
    simp only [Ltl.nodes, Ltl.deep] at h1 h2
    simp only [chkF]
    have h3 : ¬ (kidsK k ≠ kids.length ∨ n < 0 ∨ n > 63 ∨ (k ≠ 3 ∧ n ≠ 0)) := by
      intro h
      rcases h with h | h | h | h
      · exact h hw.1
      · omega
      · omega
      · exact h.2 (hw.2.2.2.1 h.1)
    rw [if_neg (by omega), if_neg (by omega), if_neg h3]
    exact chks_of kids _ _ hw.2.2.2.2 (by omega) (by omega)
theorem chks_of : ∀ (l : List Ltl) (d c : Int), wfTs l → c + Ltl.nodesL l ≤ 60 → d + Ltl.deepL l ≤ 21 → (chkFL l d c).1 = 0
  | [], d, c, _, _, _ => by simp only [chkFL]
  | x :: r, d, c, hw, h1, h2 => by
    simp only [wfTs] at hw
    simp only [Ltl.nodesL, Ltl.deepL] at h1 h2
    have h3 := chk_of x d c hw.1 (by omega) (by omega)
    have h4 := chk_size x d c h3
    simp only [chkFL]
    rw [if_neg (by simp [h3]), h4.1]
    exact chks_of r d _ hw.2 (by omega) (by omega)
end
theorem chk_iff (t : Ltl) : (chkF t 1 0).1 = 0 ↔ wfT t ∧ t.nodes ≤ 60 ∧ t.deep ≤ 20 := by
  constructor
  · intro h
    have h1 := chk_size t 1 0 h
    have h2 := chkF_le t 1 0 h
    exact ⟨chkF_wf t 1 0 h, by omega, by omega⟩
  · rintro ⟨h1, h2, h3⟩
    exact chk_of t 1 0 h1 (by omega) (by omega)

/- EQUALITY -/
mutual
def sameB : Ltl → Ltl → Bool
  | .mk k n l, .mk k' n' l' => k == k' && n == n' && sameBs l l'
def sameBs : List Ltl → List Ltl → Bool
  | [], [] => true
  | x :: r, y :: q => sameB x y && sameBs r q
  | [], _ :: _ => false
  | _ :: _, [] => false
end
mutual
theorem sameB_iff : ∀ (a b : Ltl), sameB a b = true ↔ a = b
  | .mk k n l, .mk k' n' l' => by
    simp only [sameB, Bool.and_eq_true, beq_iff_eq, sameBs_iff l l', Ltl.mk.injEq]
    exact and_assoc
theorem sameBs_iff : ∀ (a b : List Ltl), sameBs a b = true ↔ a = b
  | [], [] => by simp [sameBs]
  | x :: r, y :: q => by simp only [sameBs, Bool.and_eq_true, sameB_iff x y, sameBs_iff r q, List.cons.injEq]
  | [], _ :: _ => by simp [sameBs]
  | _ :: _, [] => by simp [sameBs]
end
theorem sameB_self (a : Ltl) : sameB a a = true := (sameB_iff a a).2 rfl

/- THE MEANING, KIND BY KIND -/
section
variable {L : Nat → Nat} {n : Int} {a b : Ltl} {i : Nat}
theorem sem1 : sem L (.mk 1 n []) i ↔ True := by simp [sem, sems, semK]
theorem sem2 : sem L (.mk 2 n []) i ↔ False := by simp [sem, sems, semK]
theorem sem3 : sem L (.mk 3 n []) i ↔ L i >>> n.toNat &&& 1 = 1 := by simp [sem, sems, semK]
theorem sem4 : sem L (.mk 4 n [a]) i ↔ ¬ sem L a i := by simp [sem, sems, semK]
theorem sem5 : sem L (.mk 5 n [a, b]) i ↔ sem L a i ∧ sem L b i := by simp [sem, sems, semK]
theorem sem6 : sem L (.mk 6 n [a, b]) i ↔ sem L a i ∨ sem L b i := by simp [sem, sems, semK]
theorem sem7 : sem L (.mk 7 n [a]) i ↔ sem L a (i + 1) := by simp [sem, sems, semK]
theorem sem8 : sem L (.mk 8 n [a, b]) i ↔ Til (sem L a) (sem L b) i := by simp [sem, sems, semK]
theorem sem9 : sem L (.mk 9 n [a, b]) i ↔ ¬ Til (fun j => ¬ sem L a j) (fun j => ¬ sem L b j) i := by simp [sem, sems, semK]
theorem sem10 : sem L (.mk 10 n [a]) i ↔ Til (fun _ => True) (sem L a) i := by simp [sem, sems, semK]
theorem sem11 : sem L (.mk 11 n [a]) i ↔ ¬ Til (fun _ => True) (fun j => ¬ sem L a j) i := by simp [sem, sems, semK]
end
theorem Til.congr {A B A' B' : Nat → Prop} (ha : ∀ j, A j ↔ A' j) (hb : ∀ j, B j ↔ B' j) (i : Nat) : Til A B i ↔ Til A' B' i :=
  Til.shift (fun _ => ha _) (fun _ => hb _)

/- NOTS -/
end Go.Proofs.Ytllpfgcngokhnaa

/-
  Package push, plain, second part: forms of what is pushed; plain; slim.
-/
set_option linter.unusedVariables false
set_option linter.unusedSimpArgs false
namespace Go.Proofs.Ytllpfgcngokhnaa
open Go.RowKit

/- FORMS -/
/- PLAIN -/
mutual
def plainL : Ltl → Ltl
  | .mk k n kids => if k = 10 then .mk 8 0 [.mk 1 0 [], (plainLs kids).getD 0 (.mk 0 0 [])] else if k = 11 then .mk 9 0 [.mk 2 0 [], (plainLs kids).getD 0 (.mk 0 0 [])] else .mk k n (plainLs kids)
def plainLs : List Ltl → List Ltl
  | [] => []
  | x :: r => plainL x :: plainLs r
end
theorem plainLs_map : ∀ l, plainLs l = l.map plainL
  | [] => rfl
  | x :: r => by simp [plainLs, plainLs_map r]
mutual
def hasB : Ltl → Int → Bool
  | .mk k _ kids, q => k == q || hasBs kids q
def hasBs : List Ltl → Int → Bool
  | [], _ => false
  | x :: r, q => hasB x q || hasBs r q
end
theorem plain_has : ∀ t, wfT t → hasB (plainL t) 10 = false ∧ hasB (plainL t) 11 = false := by
  refine wf_ind ?_ ?_ ?_ ?_ ?_
  · constructor <;> simp [plainL, plainLs, hasB, hasBs]
  · constructor <;> simp [plainL, plainLs, hasB, hasBs]
  · intro n _ _
    constructor <;> simp [plainL, plainLs, hasB, hasBs]
  · rintro k a (rfl | rfl | rfl | rfl) _ ⟨h1, h2⟩ <;> constructor <;> simp [plainL, plainLs, hasB, hasBs, h1, h2]
  · rintro k a b (rfl | rfl | rfl | rfl) _ _ ⟨h1, h2⟩ ⟨h3, h4⟩ <;> constructor <;> simp [plainL, plainLs, hasB, hasBs, h1, h2, h3, h4]
theorem plain_sem {L : Nat → Nat} : ∀ t, wfT t → ∀ i, sem L (plainL t) i ↔ sem L t i := by
  refine wf_ind ?_ ?_ ?_ ?_ ?_
  · intro i; simp [plainL, plainLs]
  · intro i; simp [plainL, plainLs]
  · intro n _ _ i; simp [plainL, plainLs]
  · rintro k a (rfl | rfl | rfl | rfl) _ h i
    · simp [plainL, plainLs, sem4, h]
    · simp [plainL, plainLs, sem7, h]
    · simp [plainL, plainLs, sem8, sem10]; exact Til.congr (fun _ => by simp [sem1]) h i
    · simp [plainL, plainLs, sem9, sem11]; exact not_congr (Til.congr (fun _ => by simp [sem2]) (fun j => not_congr (h j)) i)
  · rintro k a b (rfl | rfl | rfl | rfl) _ _ h1 h2 i
    · simp [plainL, plainLs, sem5, h1, h2]
    · simp [plainL, plainLs, sem6, h1, h2]
    · simp [plainL, plainLs, sem8]; exact Til.congr h1 h2 i
    · simp [plainL, plainLs, sem9]; exact not_congr (Til.congr (fun j => not_congr (h1 j)) (fun j => not_congr (h2 j)) i)

/- SLIM -/
section
variable {L : Nat → Nat}
theorem Til.tt {A : Nat → Prop} {i : Nat} (h : ∀ j, i ≤ j → A j) : Til (fun _ => True) A i := ⟨i, Nat.le_refl _, h i (Nat.le_refl _), fun _ _ _ => trivial⟩
theorem Til.self {A : Nat → Prop} {i : Nat} : Til A A i ↔ A i := by
  rw [Til.step]
  constructor
  · rintro (h | ⟨h, _⟩) <;> exact h
  · exact .inl
end
/- slim is right, no larger, no deeper -/
structure Slm (a t : Ltl) : Prop where
  wf : wfT a
  nodes : a.nodes ≤ t.nodes
  deep : a.deep ≤ t.deep
/- slim again is the same -/
end Go.Proofs.Ytllpfgcngokhnaa

/-
  Elements of a formula, states of its automaton: plain lists.
-/
set_option linter.unusedVariables false
set_option linter.unusedSimpArgs false
namespace Go.Proofs.Ytllpfgcngokhnaa

/- PACKED BITS -/
def packB (f : Nat → Bool) : Nat → Nat
  | 0 => 0
  | c + 1 => if f c = true then packB f c ||| (1 <<< c) else packB f c
theorem bit_one (c j : Nat) : (1 <<< c).testBit j = decide (j = c) := by
  rw [Nat.one_shiftLeft, Nat.testBit_two_pow]
  exact decide_eq_decide.2 ⟨fun h => h.symm, fun h => h.symm⟩
theorem packB_bit {f : Nat → Bool} : ∀ {c j : Nat}, (packB f c).testBit j = (decide (j < c) && f j)
  | 0, j => by simp [packB]
  | c + 1, j => by
    rw [packB]
    by_cases hf : f c = true
    · rw [if_pos hf, Nat.testBit_or, packB_bit, bit_one]
      by_cases e : j = c
      · subst e; simp [hf]
      · have : decide (j < c + 1) = decide (j < c) := decide_eq_decide.2 (by omega)
        rw [this, decide_eq_false e, Bool.or_false]
    · rw [if_neg hf, packB_bit]
      by_cases e : j = c
      · subst e; simp [hf]
      · have : decide (j < c + 1) = decide (j < c) := decide_eq_decide.2 (by omega)
        rw [this]
theorem packB_lt {f : Nat → Bool} : ∀ {c : Nat}, packB f c < 2 ^ c
  | 0 => by simp [packB]
  | c + 1 => by
    have h := packB_lt (f := f) (c := c)
    rw [packB]
    have h2 : 2 ^ c ≤ 2 ^ (c + 1) := Nat.pow_le_pow_right (by omega) (by omega)
    split
    · exact Nat.or_lt_two_pow (Nat.lt_of_lt_of_le h h2) (by rw [Nat.one_shiftLeft]; exact Nat.pow_lt_pow_right (by omega) (by omega))
    · omega
/- ELEMENTS -/
abbrev Mk2 := List Int × List Ltl
def gaN (k n : Int) (t : Ltl) (m : Mk2) : Mk2 := if k = 3 then (if n ∈ m.1 then m.1 else m.1 ++ [n], m.2) else if k = 7 ∨ k = 8 ∨ k = 9 then (m.1, if m.2.any (sameB t) = true then m.2 else m.2 ++ [t]) else m
mutual
def gaE : Ltl → Mk2 → Mk2
  | .mk k n kids, m => gaEs kids (gaN k n (.mk k n kids) m)
def gaEs : List Ltl → Mk2 → Mk2
  | [], m => m
  | x :: r, m => gaEs r (gaE x m)
end
mutual
def Cov (m : Mk2) : Ltl → Prop
  | .mk k n kids => (k = 3 → n ∈ m.1) ∧ ((k = 7 ∨ k = 8 ∨ k = 9) → .mk k n kids ∈ m.2) ∧ Covs m kids
def Covs (m : Mk2) : List Ltl → Prop
  | [] => True
  | x :: r => Cov m x ∧ Covs m r
end
/-- more elements -/
def Les (m m' : Mk2) : Prop := (∀ x ∈ m.1, x ∈ m'.1) ∧ ∀ x ∈ m.2, x ∈ m'.2
theorem Les.refl (m : Mk2) : Les m m := ⟨fun _ h => h, fun _ h => h⟩
theorem Les.trans {a b c : Mk2} (h : Les a b) (k : Les b c) : Les a c := ⟨fun x hx => k.1 x (h.1 x hx), fun x hx => k.2 x (h.2 x hx)⟩
mutual
theorem Cov.les {m m' : Mk2} (h : Les m m') : ∀ t, Cov m t → Cov m' t
  | .mk k n kids, hc => by
    simp only [Cov] at hc ⊢
    exact ⟨fun e => h.1 _ (hc.1 e), fun e => h.2 _ (hc.2.1 e), Covs.les h kids hc.2.2⟩
theorem Covs.les {m m' : Mk2} (h : Les m m') : ∀ l, Covs m l → Covs m' l
  | [], _ => trivial
  | x :: r, hc => by
    simp only [Covs] at hc ⊢
    exact ⟨Cov.les h x hc.1, Covs.les h r hc.2⟩
end
theorem gaN_les (k n : Int) (t : Ltl) (m : Mk2) : Les m (gaN k n t m) := by
  unfold gaN
  split
  · refine ⟨fun x hx => ?_, fun _ h => h⟩
    dsimp only
    split
    · exact hx
    · exact List.mem_append_left _ hx
  · split
    · refine ⟨fun _ h => h, fun x hx => ?_⟩
      dsimp only
      split
      · exact hx
      · exact List.mem_append_left _ hx
    · exact Les.refl m
mutual
theorem gaE_les : ∀ (t : Ltl) (m : Mk2), Les m (gaE t m)
  | .mk k n kids, m => by
    simp only [gaE]
    exact (gaN_les k n _ m).trans (gaEs_les kids _)
theorem gaEs_les : ∀ (l : List Ltl) (m : Mk2), Les m (gaEs l m)
  | [], m => Les.refl m
  | x :: r, m => by
    simp only [gaEs]
    exact (gaE_les x m).trans (gaEs_les r _)
end
theorem gaN_has (k n : Int) (kids : List Ltl) (m : Mk2) : (k = 3 → n ∈ (gaN k n (.mk k n kids) m).1) ∧ ((k = 7 ∨ k = 8 ∨ k = 9) → .mk k n kids ∈ (gaN k n (.mk k n kids) m).2) := by
  unfold gaN
  refine ⟨fun h => ?_, fun h => ?_⟩
  · rw [if_pos h]
    dsimp only
    split
    · assumption
    · exact List.mem_append_right _ (by simp)
  · rw [if_neg (by omega), if_pos h]
    dsimp only
    split
    · rename_i hs
      rw [List.any_eq_true] at hs
      obtain ⟨x, hx, hs⟩ := hs
      rw [(sameB_iff _ _).1 hs]
      exact hx
    · exact List.mem_append_right _ (by simp)
mutual
theorem gaE_cov : ∀ (t : Ltl) (m : Mk2), Cov (gaE t m) t
  | .mk k n kids, m => by
    simp only [Cov, gaE]
    have h := gaN_has k n kids m
    have hl := gaEs_les kids (gaN k n (.mk k n kids) m)
    exact ⟨fun e => hl.1 _ (h.1 e), fun e => hl.2 _ (h.2 e), gaEs_cov kids _⟩
theorem gaEs_cov : ∀ (l : List Ltl) (m : Mk2), Covs (gaEs l m) l
  | [], m => trivial
  | x :: r, m => by
    simp only [Covs, gaEs]
    exact ⟨Cov.les (gaEs_les r _) x (gaE_cov x m), gaEs_cov r _⟩
end
/-- what a list of elements is -/
structure OkM (m : Mk2) : Prop where
  na : m.1.Nodup
  ra : ∀ x ∈ m.1, 0 ≤ x ∧ x ≤ 63
  wp : ∀ g ∈ m.2, wfT g ∧ (g.k = 7 ∨ g.k = 8 ∨ g.k = 9) ∧ hasB g 10 = false ∧ hasB g 11 = false
theorem OkM.nil : OkM ([], []) := ⟨List.Pairwise.nil, (fun x hx => by cases hx), (fun x hx => by cases hx)⟩
theorem gaN_ok {k n : Int} {kids : List Ltl} {m : Mk2} (hm : OkM m) (hw : wfT (.mk k n kids)) (h0 : hasB (.mk k n kids) 10 = false) (h1 : hasB (.mk k n kids) 11 = false) : OkM (gaN k n (.mk k n kids) m) := by
  unfold gaN
  simp only [wfT] at hw
  split
  · refine ⟨?_, fun x hx => ?_, hm.wp⟩
    · dsimp only
      split
      · exact hm.na
      · rename_i hn
        rw [List.nodup_append]
        exact ⟨hm.na, List.pairwise_singleton _ _, fun a ha b hb e => hn (by rw [List.mem_singleton] at hb; rw [← hb, ← e]; exact ha)⟩
    · dsimp only at hx
      split at hx
      · exact hm.ra x hx
      · rcases List.mem_append.1 hx with hx | hx
        · exact hm.ra x hx
        · rw [List.mem_singleton] at hx; subst hx; exact ⟨hw.2.1, hw.2.2.1⟩
  · split
    · rename_i hk
      refine ⟨hm.na, hm.ra, fun g hg => ?_⟩
      dsimp only at hg
      split at hg
      · exact hm.wp g hg
      · rcases List.mem_append.1 hg with hg | hg
        · exact hm.wp g hg
        · rw [List.mem_singleton] at hg; subst hg
          exact ⟨by simp only [wfT]; exact hw, hk, h0, h1⟩
    · exact hm
mutual
theorem gaE_ok : ∀ (t : Ltl) (m : Mk2), OkM m → wfT t → hasB t 10 = false → hasB t 11 = false → OkM (gaE t m)
  | .mk k n kids, m, hm, hw, h0, h1 => by
    have h := gaN_ok hm hw h0 h1
    simp only [gaE]
    simp only [wfT] at hw
    simp only [hasB, Bool.or_eq_false_iff] at h0 h1
    exact gaEs_ok kids _ h hw.2.2.2.2 h0.2 h1.2
theorem gaEs_ok : ∀ (l : List Ltl) (m : Mk2), OkM m → wfTs l → hasBs l 10 = false → hasBs l 11 = false → OkM (gaEs l m)
  | [], m, hm, _, _, _ => hm
  | x :: r, m, hm, hw, h0, h1 => by
    simp only [gaEs]
    simp only [wfTs] at hw
    simp only [hasBs, Bool.or_eq_false_iff] at h0 h1
    exact gaEs_ok r _ (gaE_ok x m hm hw.1 h0.1 h1.1) hw.2 h0.2 h1.2
end
theorem Covs.get {m : Mk2} : ∀ {l : List Ltl}, Covs m l → ∀ x ∈ l, Cov m x
  | [], _, x, hx => by cases hx
  | y :: r, h, x, hx => by
    simp only [Covs] at h
    rcases List.mem_cons.1 hx with rfl | hx
    · exact h.1
    · exact Covs.get h.2 x hx
/-- parts of parts are covered -/
def Clo (m m' : Mk2) : Prop := ∀ g ∈ m.2, Cov m' g
mutual
theorem gaE_clo : ∀ (t : Ltl) (m m' : Mk2), Les (gaE t m) m' → Clo m m' → Clo (gaE t m) m'
  | .mk k n kids, m, m', hl, hc => by
    have h1 := Cov.les hl _ (gaE_cov (.mk k n kids) m)
    simp only [gaE] at hl ⊢
    refine gaEs_clo kids _ m' hl fun g hg => ?_
    unfold gaN at hg
    split at hg
    · exact hc g hg
    · split at hg
      · dsimp only at hg
        split at hg
        · exact hc g hg
        · rcases List.mem_append.1 hg with hg | hg
          · exact hc g hg
          · rw [List.mem_singleton] at hg; subst hg; exact h1
      · exact hc g hg
theorem gaEs_clo : ∀ (l : List Ltl) (m m' : Mk2), Les (gaEs l m) m' → Clo m m' → Clo (gaEs l m) m'
  | [], m, m', _, hc => hc
  | x :: r, m, m', hl, hc => by
    simp only [gaEs] at hl ⊢
    exact gaEs_clo r _ m' hl (gaE_clo x m m' ((gaEs_les r _).trans hl) hc)
end
/- STATES -/
def partI (m : Mk2) (t : Ltl) : Int := idxOf (sameB t) m.2
def atomI (m : Mk2) (n : Int) : Int := idxOf (fun y => n == y) m.1
def choB (m : Mk2) (s : Nat) (t : Ltl) : Bool := if t.k = 3 then s.testBit (atomI m t.n).toNat else s.testBit (m.1.length + (partI m t).toNat)
mutual
def hoB (m : Mk2) (s : Nat) : Ltl → Bool
  | .mk k n kids =>
    if k = 1 then true else if k = 2 then false
    else if k = 4 then !((hoBs m s kids).getD 0 false)
    else if k = 5 then (hoBs m s kids).getD 0 false && (hoBs m s kids).getD 1 false
    else if k = 6 then (hoBs m s kids).getD 0 false || (hoBs m s kids).getD 1 false
    else if k = 8 then (hoBs m s kids).getD 1 false || ((hoBs m s kids).getD 0 false && choB m s (.mk k n kids))
    else if k = 9 then (hoBs m s kids).getD 1 false && ((hoBs m s kids).getD 0 false || choB m s (.mk k n kids))
    else choB m s (.mk k n kids)
def hoBs (m : Mk2) (s : Nat) : List Ltl → List Bool
  | [] => []
  | x :: r => hoB m s x :: hoBs m s r
end
def argE (g : Ltl) : Ltl := if g.k = 7 then g.kids.getD 0 (.mk 0 0 []) else g
def nilT : Ltl := .mk 0 0 []
def keepN (m : Mk2) (s : Nat) : Nat := packB (fun i => hoB m s (argE (m.2.getD i nilT))) m.2.length
def bitP (at' : List Int) (s : Nat) (is : Bool) : Nat → Nat
  | 0 => 0
  | c + 1 => if s.testBit c = is then bitP at' s is c ||| (1 <<< (at'.getD c 0).toNat) else bitP at' s is c
def bitsN (m : Mk2) (s : Nat) (is : Bool) : Nat := bitP m.1 s is m.1.length
def fairB (m : Mk2) (g : Ltl) (s : Nat) : Bool := if g.k = 8 then !(hoB m s g) || hoB m s (g.kids.getD 1 nilT) else hoB m s g || !(hoB m s (g.kids.getD 1 nilT))
theorem bitP_bit {at' : List Int} {s : Nat} {is : Bool} {a : Nat} : ∀ {c : Nat}, (bitP at' s is c).testBit a = true ↔ ∃ i, i < c ∧ s.testBit i = is ∧ (at'.getD i 0).toNat = a
  | 0 => by simp [bitP]
  | c + 1 => by
    rw [bitP]
    by_cases h : s.testBit c = is
    · rw [if_pos h, Nat.testBit_or, Bool.or_eq_true, bitP_bit, bit_one, decide_eq_true_eq]
      constructor
      · rintro (⟨i, h1, h2⟩ | h1)
        · exact ⟨i, by omega, h2⟩
        · exact ⟨c, by omega, h, h1.symm⟩
      · rintro ⟨i, h1, h2, h3⟩
        by_cases e : i = c
        · subst e; exact .inr h3.symm
        · exact .inl ⟨i, by omega, h2, h3⟩
    · rw [if_neg h, bitP_bit]
      constructor
      · rintro ⟨i, h1, h2⟩; exact ⟨i, by omega, h2⟩
      · rintro ⟨i, h1, h2, h3⟩
        by_cases e : i = c
        · subst e; exact absurd h2 h
        · exact ⟨i, by omega, h2, h3⟩
theorem bitP_lt {at' : List Int} {s : Nat} {is : Bool} (h : ∀ x ∈ at', x ≤ 63) : ∀ {c : Nat}, c ≤ at'.length → bitP at' s is c < 2 ^ 64
  | 0, _ => by simp [bitP]
  | c + 1, hc => by
    have h1 := bitP_lt (s := s) (is := is) h (c := c) (by omega)
    rw [bitP]
    split
    · refine Nat.or_lt_two_pow h1 ?_
      rw [Nat.one_shiftLeft]
      have := h (at'.getD c 0) (by rw [List.getD_eq_getElem?_getD, List.getElem?_eq_getElem (by omega)]; exact List.getElem_mem _)
      exact Nat.pow_lt_pow_right (by omega) (by omega)
    · exact h1
/-- a place of a list -/
theorem idxOf_in {α : Type} {p : α → Bool} {l : List α} {x : α} (hx : x ∈ l) (hp : p x = true) (hu : ∀ y, p y = true → y = x) : ∃ i, ∃ h : i < l.length, idxOf p l = (i : Int) ∧ l[i] = x := by
  unfold idxOf
  cases e : l.findIdx? p with
  | none =>
    rw [List.findIdx?_eq_none_iff] at e
    rw [e x hx] at hp; cases hp
  | some i =>
    obtain ⟨h1, h2, _⟩ := List.findIdx?_eq_some_iff_getElem.1 e
    exact ⟨i, h1, rfl, hu _ h2⟩
theorem partI_in {m : Mk2} {t : Ltl} (h : t ∈ m.2) : ∃ i, ∃ h : i < m.2.length, partI m t = (i : Int) ∧ m.2[i] = t :=
  idxOf_in h (sameB_self t) (fun y hy => ((sameB_iff _ _).1 hy).symm)
theorem atomI_in {m : Mk2} {n : Int} (h : n ∈ m.1) : ∃ i, ∃ h : i < m.1.length, atomI m n = (i : Int) ∧ m.1[i] = n :=
  idxOf_in h (by simp) (fun y hy => by simpa using Eq.symm (by simpa using hy))
section
variable {m : Mk2} {s : Nat} {n : Int} {a b : Ltl}
theorem ho1 : hoB m s (.mk 1 n []) = true := by simp [hoB]
theorem ho2 : hoB m s (.mk 2 n []) = false := by simp [hoB]
theorem ho3 : hoB m s (.mk 3 n []) = s.testBit (atomI m n).toNat := by simp [hoB, choB, Ltl.k, Ltl.n]
theorem ho4 : hoB m s (.mk 4 n [a]) = !hoB m s a := by simp [hoB, hoBs]
theorem ho5 : hoB m s (.mk 5 n [a, b]) = (hoB m s a && hoB m s b) := by simp [hoB, hoBs]
theorem ho6 : hoB m s (.mk 6 n [a, b]) = (hoB m s a || hoB m s b) := by simp [hoB, hoBs]
theorem ho7 : hoB m s (.mk 7 n [a]) = s.testBit (m.1.length + (partI m (.mk 7 n [a])).toNat) := by simp [hoB, choB, Ltl.k]
theorem ho8 : hoB m s (.mk 8 n [a, b]) = (hoB m s b || (hoB m s a && s.testBit (m.1.length + (partI m (.mk 8 n [a, b])).toNat))) := by simp [hoB, hoBs, choB, Ltl.k]
theorem ho9 : hoB m s (.mk 9 n [a, b]) = (hoB m s b && (hoB m s a || s.testBit (m.1.length + (partI m (.mk 9 n [a, b])).toNat))) := by simp [hoB, hoBs, choB, Ltl.k]
end
end Go.Proofs.Ytllpfgcngokhnaa

