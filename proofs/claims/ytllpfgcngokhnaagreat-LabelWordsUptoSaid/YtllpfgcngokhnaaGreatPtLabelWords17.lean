import Derived.Test.YtllpfgcngokhnaaGreatPtLabelWords16
/-
  Package label: label, Label: walked.
-/
set_option linter.unusedVariables false
set_option linter.unusedSimpArgs false
namespace Go.Proofs.YtllpfgcngokhnaaGreat
open Go.RowKit

theorem list_two {α : Type} {l : List α} (h : l.length = 2) : ∃ x y, l = [x, y] := by
  match l, h with
  | [x, y], _ => exact ⟨x, y, rfl⟩
mutual
def okC : Ltl → Prop
  | .mk k n kids => kidsC k = kids.length ∧ 0 ≤ n ∧ n ≤ 63 ∧ okCL kids
def okCL : List Ltl → Prop
  | [] => True
  | x :: r => okC x ∧ okCL r
end
theorem okCL_mem : ∀ {l : List Ltl} {x : Ltl}, okCL l → x ∈ l → okC x
  | y :: r, x, h, hx => by
    rw [okCL] at h
    rcases List.mem_cons.1 hx with rfl | hx
    · exact h.1
    · exact okCL_mem h.2 hx
mutual
theorem chkC_ok : ∀ (t : Ltl) (deep c : Int), (chkC t deep c).1 = 0 → okC t
  | .mk k n kids, deep, c, h => by
    simp only [chkC] at h
    split at h
    · cases h
    split at h
    · cases h
    split at h
    · cases h
    rename_i h3
    rw [okC]
    exact ⟨by omega, by omega, by omega, chkCL_ok kids _ _ h⟩
theorem chkCL_ok : ∀ (l : List Ltl) (deep c : Int), (chkCL l deep c).1 = 0 → okCL l
  | [], _, _, _ => by rw [okCL]; trivial
  | x :: r, deep, c, h => by
    simp only [chkCL] at h
    split at h
    · rename_i h1; exact absurd h h1
    rename_i h1
    rw [okCL]
    exact ⟨chkC_ok x _ _ (by simpa using h1), chkCL_ok r _ _ h⟩
end
instance iLab1 : IsT Tryz.prog 42 Raw := IsT.of (by kernel_rfl) Tryz.underlying42 rfl
instance iLab2 : IsZ Tryz.prog 42 (⟨.slice none 0 0⟩ : Raw) 24 := IsZ.of (z := .slice none 0 0) (by kernel_rfl) (fun _ _ => ⟨rfl, rfl⟩)
theorem llab1 (w : World) (x : Nat) : Rt Tryz.prog 52 [.int .i64 (x : Int)].toArray w fun v w' => v = .bool true ∧ Ext w w' := by
  refine Rt.enter1 Tryz.func52 Tryz.ntmps52 rfl rfl ?_
  (repeat (first | (apply WL.pure; rfl; rfl; rfl) | (apply WL.nil) | (apply EX.thenN) | (apply CW.seq) | (apply CW.region) | (apply CW.ret)))
  exact EX.ret1 rfl rfl ⟨rfl, Ext.refl _⟩
theorem wgetN {l : List Nat} {j : Nat} (h : j < l.length) : l.getD j 0 = l[j] := by rw [List.getD_eq_getElem?_getD, List.getElem?_eq_getElem h]; rfl
theorem llab2 (w : World) {b b1 b2 x : Nat} {nx fr : Graph} {lb : List Nat} (hL : LabAt w b nx lb fr) {k n : Int} {kv : Value} (hb1 : Blk w b1 67 [labP b]) (hb2 : Blk w b2 30 [.int .i64 k, .int .i64 n, kv]) (hx : x < lb.length) (hn : 0 ≤ n) :
    Rt Tryz.prog 53 [.int .i64 (x : Int), .pointer (some ⟨b1, 0, none⟩), .pointer (some ⟨b2, 0, none⟩)].toArray w fun v w' => ∃ c : Bool, v = .bool c ∧ (c = true ↔ lb.getD x 0 >>> n.toNat &&& 1 = 1) ∧ Ext w w' := by
  obtain ⟨a1, c1, n1, a2, c2, a3, c3, a4, c4, fo, fc, bo, bc, hb, h2, h3, h4, h5, h6⟩ := hL
  refine Rt.enter3 Tryz.func53 Tryz.ntmps53 rfl rfl ?_
  (repeat (first | (apply WL.pure; rfl; rfl; rfl) | (apply QL.pure; rfl; rfl; rfl) | (apply WL.nil) | (apply EX.thenN) | (apply CW.seq) | (apply CW.region) | (apply QL.fa; rfl; rfl; rfl) | (apply QL.nck; rfl; rfl; rfl) | (apply QL.ld; rfl; rfl; rfl; assumption; rfl) | (apply CW.draw; exact mixed; kernel_rfl)))
  refine QL.elemN rfl rfl rfl rfl rfl (fun _ h => h) h3 hx (fun _ => rfl) (fun u q hu => ?_)
  obtain ⟨rfl, hu64⟩ := hu.u64
  rw [wgetN hx]
  generalize lb[x] = a at *
  (repeat (first | (apply QL.fa; rfl; rfl; rfl) | (apply QL.ld; rfl; rfl; rfl; assumption; rfl)))
  refine QL.shrI rfl rfl rfl rfl hu64 hn ?_
  have hs : a >>> n.toNat < 18446744073709551616 := Nat.lt_of_le_of_lt (Nat.shiftRight_le _ _) hu64
  refine QL.and1 rfl rfl rfl rfl hs ?_
  (repeat (apply QL.pure; rfl; rfl; rfl))
  refine QL.nil fun w' e => ?_
  (repeat (first | (apply EX.thenN) | (apply CW.ret)))
  refine EX.ret1 rfl rfl ⟨_, rfl, ?_, e⟩
  generalize a >>> n.toNat &&& 1 = m
  simp
  omega
theorem llab3 (w : World) {bk x N : Nat} {ko : Option Addr} {kc : Nat} {P Q : Nat → Prop} (hb : Blk w bk 96 [.slice ko ([boolsN N P, boolsN N Q] : List (List Bool)).length kc]) (hk : Sl w (Old w) ko kc [boolsN N P, boolsN N Q]) (hx : x < N) :
    Rt Tryz.prog 56 [.int .i64 (x : Int), .pointer (some ⟨bk, 0, none⟩)].toArray w fun v w' => ∃ c : Bool, v = .bool c ∧ (c = true ↔ P x ∨ Q x) ∧ Ext w w' := by
  refine Rt.enter2 Tryz.func56 Tryz.ntmps56 rfl rfl ?_
  (repeat (first | (apply WL.pure; rfl; rfl; rfl) | (apply WL.nil) | (apply EX.thenN) | (apply CW.seq) | (apply CW.region) | (apply WL.ld; rfl; rfl; rfl; assumption; rfl)))
  refine WL.elemN (i := 0) rfl rfl rfl rfl rfl hk (by simp) (fun _ => rfl) (fun u q hu => ?_)
  simp only [List.getElem_cons_zero] at hu
  obtain ⟨uo, uc, rfl, hus⟩ := hu.sl
  have hxP : x < (boolsN N P).length := by rw [boolsN_len]; exact hx
  have bP := boolsN_iff (P := P) hx
  have bQ := boolsN_iff (P := Q) hx
  (repeat (apply WL.pure; rfl; rfl; rfl))
  refine WL.elemB rfl rfl rfl rfl rfl hus hxP (wgetB hxP).symm (fun _ => rfl) (fun q => ?_)
  generalize (boolsN N P).getD x false = c at *
  cases c with
  | true =>
    (repeat (first | (apply WL.pure; rfl; rfl; rfl) | (apply WL.nil) | (apply EX.thenN) | (apply WL.pass; rfl; rfl) | (apply CW.ret)))
    exact EX.ret1 rfl rfl ⟨_, rfl, ⟨fun _ => .inl (bP.1 rfl), fun _ => rfl⟩, Ext.refl _⟩
  | false =>
    (repeat (first | (apply WL.pure; rfl; rfl; rfl) | (apply WL.ld; rfl; rfl; rfl; assumption; rfl)))
    refine WL.elemN (i := 1) rfl rfl rfl rfl rfl hk (by simp) (fun _ => rfl) (fun u q hu => ?_)
    simp only [List.getElem_cons_succ, List.getElem_cons_zero] at hu
    obtain ⟨vo, vc, rfl, hvs⟩ := hu.sl
    have hxQ : x < (boolsN N Q).length := by rw [boolsN_len]; exact hx
    (repeat (apply WL.pure; rfl; rfl; rfl))
    refine WL.elemB rfl rfl rfl rfl rfl hvs hxQ (wgetB hxQ).symm (fun _ => rfl) (fun q => ?_)
    generalize (boolsN N Q).getD x false = c at *
    (repeat (first | (apply WL.pure; rfl; rfl; rfl) | (apply WL.nil) | (apply EX.thenN) | (apply CW.ret)))
    exact EX.ret1 rfl rfl ⟨_, rfl, ⟨fun h => .inr (bQ.1 h), fun h => h.elim (fun h => by have := bP.2 h; cases this) bQ.2⟩, Ext.refl _⟩
set_option maxHeartbeats 4000000 in
set_option maxRecDepth 100000 in
theorem label_ok {nx fr : Graph} {lb : List Nat} (hW : WOk nx fr) (hlb : lb.length = nx.length) : ∀ (m : Nat) (t : Ltl), t.nodes ≤ m → okC t → ∀ (w0 : World) (b : Nat) (ao : Option Addr) (cap : Nat), LabAt w0 b nx lb fr → Sl w0 (Old w0) ao cap t.kids →
    Rt Tryz.prog 25 [labP b, ltlV t.k t.n ao t.kids.length cap].toArray w0 fun v w' => Own w' w0.heap.size 4 Non v (boolsN nx.length (ctlF nx lb fr t)) ∧ Ext w0 w'
  | 0, t, hm => by have := t.nodes_pos; omega
  | m + 1, .mk k n kids, hm => by
    intro hC w0 b ao cap hL hs
    simp only [Ltl.kids, Ltl.k, Ltl.n] at *
    rw [okC] at hC
    obtain ⟨hkl, hn0, hn1, hCk⟩ := hC
    have hn := hW.n
    have hlen := hs.len63
    have hk2 : kids.length ≤ 2 := by
      unfold kidsC at hkl
      split at hkl <;> first | omega | (split at hkl <;> first | omega | (split at hkl <;> omega))
    refine Rt.enter2 Tryz.func25 Tryz.ntmps25 rfl rfl ?_
    (repeat (first | (apply CW.seq) | (apply CW.region)))
    refine WL.boxB rfl rfl rfl fun w1 hb2 e1 => ?_
    skip
    refine WL.boxB rfl rfl rfl fun w2 hb3 e2 => ?_
    have hb2 := hb2.ext e2
    have hE := e1.trans e2
    have hz1 := e1.size
    have hz2 := e2.size
    have hl2 := hb2.lt
    have hl3 := hb3.lt
    (repeat (first | (apply WL.pure; rfl; rfl; rfl) | (apply WL.nil) | (apply EX.thenN) | (apply CW.seq) | (apply CW.region) | (apply WL.ld; rfl; rfl; rfl; assumption; rfl)))
    refine WL.call rfl rfl rfl (each_ok w2 (P := fun _ => True) (hL.up hE) hn (fun w x hE2 hx => FnV.mk (f := 52) (cs := []) (Rt.mono (llab1 w x) (fun v w' hv => ⟨true, hv.1, ⟨fun _ => trivial, fun _ => rfl⟩, hv.2⟩)))) ?_
    rintro av w3 ⟨hav, e3⟩
    have hb2 := hb2.ext e3
    have hb3 := hb3.ext e3
    have hE := hE.trans e3
    have hal : ∀ g, av.ownBlock = some g → g < w3.heap.size := fun g hg => (hav.lt g hg).2.1
    have hav := hav.low (B' := w0.heap.size) (Nat.le_trans hz1 hz2)
    (repeat (first | (apply WL.pure; rfl; rfl; rfl) | (apply WL.nil) | (apply EX.thenN) | (apply CW.seq) | (apply CW.region)))
    refine WL.alloc rfl rfl (fun w4 hb6 e4 => ?_)
    have hb2 := hb2.ext e4
    have hb3 := hb3.ext e4
    have hE := hE.trans e4
    have hav := hav.extN e4
    have hl6 := hb6.lt
    have hz3 := e3.size
    (repeat (first | (apply WL.pure; rfl; rfl; rfl) | (apply WL.nil) | (apply EX.thenN) | (apply CW.seq) | (apply CW.region) | (apply WL.lenS; rfl; rfl; rfl) | (apply WL.fa; rfl; rfl; rfl) | (apply WL.ld; rfl; rfl; rfl; assumption; rfl) | (apply CW.block)))
    refine CW.loop (S := Nat × Value × List Raw) (fun s => [(2, .pointer (some ⟨w0.heap.size, 0, none⟩)), (3, .pointer (some ⟨w1.heap.size, 0, none⟩)), (5, av), (6, .pointer (some ⟨w3.heap.size, 0, none⟩)), (12, .slice ao kids.length cap), (13, .int .i64 kids.length), (14, .int .i64 s.1)])
      (fun s w => s.1 ≤ kids.length ∧ Blk w w3.heap.size 96 [s.2.1] ∧ Own w w4.heap.size 42 Non s.2.1 s.2.2 ∧ InnR w (fun b => s.2.1.ownBlock = some b ∨ b = w3.heap.size) s.2.2 ((kids.take s.1).map fun x => boolsN nx.length (ctlF nx lb fr x)) ∧ Chg (fun b => b = w3.heap.size) w4 w)
      (fun s => kids.length - s.1) (0, .slice none 0 0, []) (by repeat (first | exact trivial | refine ⟨rfl, ?_⟩)) ⟨Nat.zero_le _, hb6, Own.nil, InnR.nil, Chg.refl _ _⟩ ?_
    · clear hb6
      rintro ⟨i, kv, vs⟩ w5 ⟨hi, hb6, hkv, hin, hC5⟩
      dsimp only at hi hb6 hkv hin hC5 ⊢
      have hz5 := hC5.size
      have hvl : vs.length = i := by rw [hin.len, List.length_map, List.length_take]; omega
      have hE5 : Ext w0 w5 := hC5.ext hE (fun b hb => by omega)
      have hb2 : Blk w5 w0.heap.size 67 [labP b] := (hC5.block _ (by omega) (by omega)).trans hb2
      have hb3 : Blk w5 w1.heap.size 30 [.int .i64 k, .int .i64 n, .slice ao kids.length cap] := (hC5.block _ (by omega) (by omega)).trans hb3
      have hav5 : Own w5 w0.heap.size 4 Non av (boolsN nx.length fun _ => True) := hav.chg hC5 (fun g hg e => by have := hal g hg; omega)
      (repeat (first | (apply WL.pure; rfl; rfl; rfl) | (apply WL.nil) | (apply EX.thenN) | (apply CW.seq) | (apply CW.region)))
      refine CW.cond rfl (fun h => ?_) (fun h => ?_)
      · have hi' : i < kids.length := by simp at h; omega
        (repeat (first | (apply EX.thenN) | (apply CW.seq) | (apply CW.region) | (apply CW.block) | (apply CW.skip)))
        refine WL.elemN rfl rfl rfl rfl rfl (hs.up hE5) hi' (fun _ => rfl) (fun u q hu => ?_)
        have htk : (kids.take (i + 1)).map (fun x => boolsN nx.length (ctlF nx lb fr x)) = (kids.take i).map (fun x => boolsN nx.length (ctlF nx lb fr x)) ++ [boolsN nx.length (ctlF nx lb fr kids[i])] := by
          rw [List.take_add_one, List.getElem?_eq_getElem hi', List.map_append]; rfl
        have hnode : (kids[i]).nodes ≤ m := by
          have := Ltl.nodes_kid kids _ (List.getElem_mem hi')
          simp only [Ltl.nodes] at hm; omega
        have hCx := okCL_mem hCk (List.getElem_mem hi')
        generalize kids[i] = x at *
        obtain ⟨xo, xc, rfl, hx⟩ := hu.ltl
        skip
        refine WL.alloc rfl rfl (fun w6 hb8 e6 => ?_)
        skip
        refine WL.st rfl rfl rfl hb8 rfl rfl (ones_of rfl) (fun w7 hb8 hg7 => ?_)
        have e7 : Ext w5 w7 := e6.grown hg7 e6.size (fun g hg => by cases hg; exact Nat.le_refl _)
        have hb2 := hb2.ext e7
        have hb3 := hb3.ext e7
        have hb6 := hb6.ext e7
        have hl8 := hb8.lt
        have hz7 := e7.size
        have hkv7 := hkv.extN e7
        have hlk := fun g hg => hkv.lt g hg
        have hE7 := hE5.trans e7
        clear hu e6 hg7
        -- the region
        have hD : Ext w7 (drew w7) := Ext.drew w7
        have hzd := hD.size
        have hb2d := hb2.ext hD
        have hb6d := hb6.ext hD
        have hb8d := hb8.ext hD
        have hK2 : ∀ u, (fun z : World => z.heap[w0.heap.size]? = (drew w7).heap[w0.heap.size]? ∧ z.heap[w3.heap.size]? = (drew w7).heap[w3.heap.size]? ∧ z.heap[w5.heap.size]? = (drew w7).heap[w5.heap.size]?) u → u.heap[w0.heap.size]? = (drew w7).heap[w0.heap.size]? := fun _ h => h.1
        have hK6 : ∀ u, (fun z : World => z.heap[w0.heap.size]? = (drew w7).heap[w0.heap.size]? ∧ z.heap[w3.heap.size]? = (drew w7).heap[w3.heap.size]? ∧ z.heap[w5.heap.size]? = (drew w7).heap[w5.heap.size]?) u → u.heap[w3.heap.size]? = (drew w7).heap[w3.heap.size]? := fun _ h => h.2.1
        have hK8 : ∀ u, (fun z : World => z.heap[w0.heap.size]? = (drew w7).heap[w0.heap.size]? ∧ z.heap[w3.heap.size]? = (drew w7).heap[w3.heap.size]? ∧ z.heap[w5.heap.size]? = (drew w7).heap[w5.heap.size]?) u → u.heap[w5.heap.size]? = (drew w7).heap[w5.heap.size]? := fun _ h => h.2.2
        (repeat (first | (apply WL.nil) | (apply EX.thenN)))
        refine CW.drawE (fun z : World => z.heap[w0.heap.size]? = (drew w7).heap[w0.heap.size]? ∧ z.heap[w3.heap.size]? = (drew w7).heap[w3.heap.size]? ∧ z.heap[w5.heap.size]? = (drew w7).heap[w5.heap.size]?) [(0, true), (1, true), (2, true), (3, false), (4, false), (5, false)] 6 mixed (by kernel_rfl) ⟨rfl, rfl, rfl⟩ ?_
        (repeat (refine HL.ldK (by assumption) rfl rfl rfl rfl (by assumption) rfl ?_))
        refine HL.ldAQ hK8 rfl rfl rfl rfl hb8d rfl ?_
        refine HL.mut rfl (WL.call rfl rfl rfl (label_ok hW hlb m x hnode hCx (drew w7) b xo xc (hL.up (hE7.trans hD)) (hx.up (e7.trans hD))) ?_)
        rintro lv w8 ⟨hlv, e8⟩
        have hz8 := e8.size
        refine WL.nil (EX.mut ⟨e8.block _ (by omega), e8.block _ (by omega), e8.block _ (by omega)⟩ ?_)
        obtain ⟨lo, lc, hlve⟩ := hlv.val
        subst hlve
        have hkv8 := (hkv7.extN hD).extN e8
        refine HL.app1 (α := Raw) (F := Non) (bytes := 24) (yv := (⟨.slice lo (boolsN nx.length (ctlF nx lb fr x)).length lc⟩ : Raw)) rfl rfl rfl rfl (fun _ => rfl) rfl rfl (fun _ => rfl) hkv8 (Rd.mkRaw _ _ _ rfl) (by omega) (fun _ h => h.elim) (by decide) (by unfold maxLen; omega) (by omega)
          (fun z hz => ⟨(hz.block _ (by omega) (fun e => by have := hlk _ e.symm; omega)).trans (e8.block _ (by omega)), (hz.block _ (by omega) (fun e => by have := hlk _ e.symm; omega)).trans (e8.block _ (by omega)), (hz.block _ (by omega) (fun e => by have := hlk _ e.symm; omega)).trans (e8.block _ (by omega))⟩) (fun kv' w9 q9 ho9 hg9 hnb9 => ?_)
        obtain ⟨ko', kc', rfl⟩ := ho9.val
        have hb69 := ((hb6d.ext e8).kept hg9 (fun e => by have := hlk _ e.symm; omega))
        have hz9 := hg9.size
        refine HL.nil ?_
        refine EX.tail rfl (WL.st rfl rfl rfl hb69 rfl rfl (ones_of rfl) (fun w10 hb10 hg10 => WL.nil (EX.tailE ?_)))
        have hlvs : Rd w8 (Fz w8 (fun b => kv.ownBlock = some b ∨ b = w3.heap.size)) (.slice lo (boolsN nx.length (ctlF nx lb fr x)).length lc) (boolsN nx.length (ctlF nx lb fr x)) :=
          hlv.rd.mono (fun _ _ => rfl) (fun g hg => hg.elim (fun h => h.elim) (fun hg => ⟨(hlv.lt g hg).2.1, fun h => by
            have h1 := (hlv.lt g hg).1
            rcases h with h | h
            · have := hlk g h; omega
            · omega⟩))
        have hin8 := (hin.to (M' := fun b => kv.ownBlock = some b ∨ b = w3.heap.size) (Chg.of_ext _ ((e7.trans hD).trans e8)) (fun _ h => .inl h)).push hlvs
        have hC9 : Chg (fun b => kv.ownBlock = some b ∨ b = w3.heap.size) w8 w10 := ((Chg.of_grown hg9).wk (fun _ h => .inl h)).grown hg10 (fun g hg => by cases hg; exact .inr rfl)
        have hin10 := hin8.to (M' := fun b => Value.ownBlock (.slice ko' (vs ++ [(⟨.slice lo (boolsN nx.length (ctlF nx lb fr x)).length lc⟩ : Raw)]).length kc') = some b ∨ b = w3.heap.size) hC9 (fun g hg => hg.elim (fun hg => (hnb9 g hg).imp .inl id) (fun hg => .inl (.inr hg)))
        rw [← htk] at hin10
        have hC10 : Chg (fun b => b = w3.heap.size) w4 w10 := (hC5.trans (Chg.of_ext _ ((e7.trans hD).trans e8))).then hC9 (fun g hg => hg.elim (fun h => .inr (hlk g h).1) .inl)
        (repeat (first | (apply WL.add; rfl; rfl; rfl; rfl; omega; omega) | (apply WL.pure; rfl; rfl; rfl) | (apply WL.nil) | (apply EX.thenN) | (apply CW.region) | (apply EX.inN)))
        exact EX.back (i + 1, _, vs ++ [_]) (by repeat (first | exact trivial | refine ⟨rfl, ?_⟩)) ⟨hi', hb10, ho9.keptN hg10 (fun g hg e => by
          have := Option.some.inj e
          rcases hnb9 g hg with h | h
          · have := hlk g h; omega
          · omega), hin10, hC10⟩ (by dsimp only; omega)
      · have hie : i = kids.length := by simp at h; omega
        subst hie
        rw [List.take_length] at hin
        obtain ⟨ko, kc, rfl, hks⟩ := hin.old hkv
        clear hin hkv hi h hC5 hvl
        obtain ⟨ao2, ac2, rfl, has⟩ := hav5.asSl
        (repeat (first | (apply WL.pure; rfl; rfl; rfl) | (apply WL.nil) | (apply EX.thenN) | (apply CW.seq) | (apply CW.region) | (apply WL.fa; rfl; rfl; rfl) | (apply WL.ld; rfl; rfl; rfl; assumption; rfl) | (apply CW.block) | (apply CW.exit) | (apply EX.thenX) | (apply EX.inX)))
        refine CW.cond rfl (fun h => ?_) (fun h => ?_)
        · obtain rfl : k = 1 := by simpa using h
          have hkn : kids.length = 0 := by have : kidsC 1 = 0 := rfl; omega
          obtain rfl : kids = [] := List.eq_nil_of_length_eq_zero hkn
          (repeat (first | (apply WL.pure; rfl; rfl; rfl) | (apply WL.nil) | (apply EX.thenN) | (apply CW.seq) | (apply CW.region) | (apply CW.ret) | (apply EX.thenR) | (apply EX.inR)))
          exact EX.ret1 rfl rfl ⟨hav5, hE5⟩
        have n1 : k ≠ 1 := by simpa using h
        clear h
        (repeat (first | (apply WL.pure; rfl; rfl; rfl) | (apply WL.nil) | (apply EX.thenN) | (apply CW.seq) | (apply CW.region)))
        refine CW.cond rfl (fun h => ?_) (fun h => ?_)
        · obtain rfl : k = 3 := by simpa using h
          have hkn : kids.length = 0 := by have : kidsC 3 = 0 := rfl; omega
          obtain rfl : kids = [] := List.eq_nil_of_length_eq_zero hkn
          (repeat (first | (apply CW.seq) | (apply CW.region) | (apply WL.makeFunc; rfl; rfl; rfl; rfl) | (apply WL.ld; rfl; rfl; rfl; assumption; rfl)))
          refine WL.call rfl rfl rfl (each_ok w5 (P := fun i => lb.getD i 0 >>> n.toNat &&& 1 = 1) (hL.up hE5) hn (fun w x hE2 hx => FnV.mk (f := 53) (llab2 w (hL.up (hE5.trans hE2)) (hb2.ext hE2) (hb3.ext hE2) (by rw [hlb]; exact hx) hn0))) ?_
          rintro _ w6 ⟨ho, e6⟩
          (repeat (first | (apply WL.pure; rfl; rfl; rfl) | (apply WL.nil) | (apply EX.thenN) | (apply CW.ret) | (apply EX.thenR) | (apply EX.inR)))
          exact EX.ret1 rfl rfl ⟨ho.low hE5.size, hE5.trans e6⟩
        have n3 : k ≠ 3 := by simpa using h
        clear h
        (repeat (first | (apply WL.pure; rfl; rfl; rfl) | (apply WL.nil) | (apply EX.thenN) | (apply CW.seq) | (apply CW.region)))
        refine CW.cond rfl (fun h => ?_) (fun h => ?_)
        · obtain rfl : k = 4 := by simpa using h
          have hkn : kids.length = 1 := by have : kidsC 4 = 1 := rfl; omega
          obtain ⟨x, rfl⟩ := List.length_eq_one_iff.1 hkn
          have hks : Sl w5 (Old w5) ko kc [boolsN nx.length (ctlF nx lb fr x)] := hks
          have hSE : ∀ z, (fun z : World => Ext w5 z) z → Ext w5 z := fun _ h => h
          (repeat (apply CW.seq))
          refine CW.drawH (fun z : World => Ext w5 z) [(0, true), (1, true), (2, true), (3, true), (4, false), (5, true)] mixed (by kernel_rfl) (Ext.drew w5) ?_
          (repeat (refine HL.ld (by assumption) rfl rfl rfl rfl (by assumption) rfl ?_))
          refine HL.elemN (k := 0) hSE rfl rfl rfl rfl rfl rfl rfl (fun _ h => h) hks (by simp) (fun _ => rfl) (fun u0 q0 hu0 => ?_)
          obtain ⟨uo0, uc0, rfl, hs0⟩ := hu0.sl
          skip
          refine HL.mut rfl (WL.call rfl rfl rfl (lnot_ok (drew w5) (hL.up (hE5.trans (Ext.drew w5))) hn (hs0.up (Ext.drew w5))) ?_)
          rintro v6 w6 ⟨ho6, e6⟩
          have x6 : Ext w5 w6 := Ext.trans (Ext.drew w5) e6
          refine WL.nil (EX.mut x6 ?_)
          (repeat (first | (apply HL.pure; rfl; rfl; rfl; rfl) | (apply HL.nil)))
          (repeat (first | (apply EX.thenN) | (apply CW.ret) | (apply EX.thenR) | (apply EX.inR)))
          exact EX.ret1 rfl rfl ⟨ho6.low (hE5.trans (Ext.drew w5)).size, hE5.trans x6⟩
        have n4 : k ≠ 4 := by simpa using h
        clear h
        (repeat (first | (apply WL.pure; rfl; rfl; rfl) | (apply WL.nil) | (apply EX.thenN) | (apply CW.seq) | (apply CW.region)))
        refine CW.cond rfl (fun h => ?_) (fun h => ?_)
        · obtain rfl : k = 5 := by simpa using h
          have hkn : kids.length = 2 := by have : kidsC 5 = 2 := rfl; omega
          obtain ⟨x, y, rfl⟩ := list_two hkn
          have hks : Sl w5 (Old w5) ko kc [boolsN nx.length (ctlF nx lb fr x), boolsN nx.length (ctlF nx lb fr y)] := hks
          have hSE : ∀ z, (fun z : World => Ext w5 z) z → Ext w5 z := fun _ h => h
          (repeat (apply CW.seq))
          refine CW.drawH (fun z : World => Ext w5 z) [(0, true), (1, true), (2, true), (3, true), (4, true), (5, true), (6, true), (7, false), (8, true)] mixed (by kernel_rfl) (Ext.drew w5) ?_
          (repeat (refine HL.ld (by assumption) rfl rfl rfl rfl (by assumption) rfl ?_))
          refine HL.elemN (k := 0) hSE rfl rfl rfl rfl rfl rfl rfl (fun _ h => h) hks (by simp) (fun _ => rfl) (fun u0 q0 hu0 => ?_)
          obtain ⟨uo0, uc0, rfl, hs0⟩ := hu0.sl
          (repeat (refine HL.ld (by assumption) rfl rfl rfl rfl (by assumption) rfl ?_))
          refine HL.elemN (k := 1) hSE rfl rfl rfl rfl rfl rfl rfl (fun _ h => h) hks (by simp) (fun _ => rfl) (fun u1 q1 hu1 => ?_)
          obtain ⟨uo1, uc1, rfl, hs1⟩ := hu1.sl
          skip
          refine HL.mut rfl (WL.call rfl rfl rfl (lboth_ok (drew w5) (hL.up (hE5.trans (Ext.drew w5))) hn (hs0.up (Ext.drew w5)) (hs1.up (Ext.drew w5))) ?_)
          rintro v6 w6 ⟨ho6, e6⟩
          have x6 : Ext w5 w6 := Ext.trans (Ext.drew w5) e6
          refine WL.nil (EX.mut x6 ?_)
          (repeat (first | (apply HL.pure; rfl; rfl; rfl; rfl) | (apply HL.nil)))
          (repeat (first | (apply EX.thenN) | (apply CW.ret) | (apply EX.thenR) | (apply EX.inR)))
          exact EX.ret1 rfl rfl ⟨ho6.low (hE5.trans (Ext.drew w5)).size, hE5.trans x6⟩
        have n5 : k ≠ 5 := by simpa using h
        clear h
        (repeat (first | (apply WL.pure; rfl; rfl; rfl) | (apply WL.nil) | (apply EX.thenN) | (apply CW.seq) | (apply CW.region)))
        refine CW.cond rfl (fun h => ?_) (fun h => ?_)
        · obtain rfl : k = 6 := by simpa using h
          have hkn : kids.length = 2 := by have : kidsC 6 = 2 := rfl; omega
          obtain ⟨x, y, rfl⟩ := list_two hkn
          have hks : Sl w5 (Old w5) ko kc [boolsN nx.length (ctlF nx lb fr x), boolsN nx.length (ctlF nx lb fr y)] := hks
          (repeat (first | (apply CW.seq) | (apply CW.region) | (apply WL.makeFunc; rfl; rfl; rfl; rfl) | (apply WL.ld; rfl; rfl; rfl; assumption; rfl)))
          refine WL.call rfl rfl rfl (each_ok w5 (P := fun i => ctlF nx lb fr x i ∨ ctlF nx lb fr y i) (hL.up hE5) hn (fun w z hE2 hz => FnV.mk (f := 56) (llab3 w (hb6.ext hE2) (hks.up hE2) hz))) ?_
          rintro _ w6 ⟨ho, e6⟩
          (repeat (first | (apply WL.pure; rfl; rfl; rfl) | (apply WL.nil) | (apply EX.thenN) | (apply CW.ret) | (apply EX.thenR) | (apply EX.inR)))
          exact EX.ret1 rfl rfl ⟨ho.low hE5.size, hE5.trans e6⟩
        have n6 : k ≠ 6 := by simpa using h
        clear h
        (repeat (first | (apply WL.pure; rfl; rfl; rfl) | (apply WL.nil) | (apply EX.thenN) | (apply CW.seq) | (apply CW.region)))
        refine CW.cond rfl (fun h => ?_) (fun h => ?_)
        · obtain rfl : k = 7 := by simpa using h
          have hkn : kids.length = 1 := by have : kidsC 7 = 1 := rfl; omega
          obtain ⟨x, rfl⟩ := List.length_eq_one_iff.1 hkn
          have hks : Sl w5 (Old w5) ko kc [boolsN nx.length (ctlF nx lb fr x)] := hks
          have hSE : ∀ z, (fun z : World => Ext w5 z) z → Ext w5 z := fun _ h => h
          (repeat (apply CW.seq))
          refine CW.drawH (fun z : World => Ext w5 z) [(0, true), (1, true), (2, true), (3, true), (4, false), (5, true)] mixed (by kernel_rfl) (Ext.drew w5) ?_
          (repeat (refine HL.ld (by assumption) rfl rfl rfl rfl (by assumption) rfl ?_))
          refine HL.elemN (k := 0) hSE rfl rfl rfl rfl rfl rfl rfl (fun _ h => h) hks (by simp) (fun _ => rfl) (fun u0 q0 hu0 => ?_)
          obtain ⟨uo0, uc0, rfl, hs0⟩ := hu0.sl
          skip
          refine HL.mut rfl (WL.call rfl rfl rfl (lex_ok (drew w5) (hL.up (hE5.trans (Ext.drew w5))) hW.g hn (hs0.up (Ext.drew w5))) ?_)
          rintro v6 w6 ⟨ho6, e6⟩
          have x6 : Ext w5 w6 := Ext.trans (Ext.drew w5) e6
          refine WL.nil (EX.mut x6 ?_)
          (repeat (first | (apply HL.pure; rfl; rfl; rfl; rfl) | (apply HL.nil)))
          (repeat (first | (apply EX.thenN) | (apply CW.ret) | (apply EX.thenR) | (apply EX.inR)))
          exact EX.ret1 rfl rfl ⟨ho6.low (hE5.trans (Ext.drew w5)).size, hE5.trans x6⟩
        have n7 : k ≠ 7 := by simpa using h
        clear h
        (repeat (first | (apply WL.pure; rfl; rfl; rfl) | (apply WL.nil) | (apply EX.thenN) | (apply CW.seq) | (apply CW.region)))
        refine CW.cond rfl (fun h => ?_) (fun h => ?_)
        · obtain rfl : k = 8 := by simpa using h
          have hkn : kids.length = 1 := by have : kidsC 8 = 1 := rfl; omega
          obtain ⟨x, rfl⟩ := List.length_eq_one_iff.1 hkn
          have hks : Sl w5 (Old w5) ko kc [boolsN nx.length (ctlF nx lb fr x)] := hks
          have hSE : ∀ z, (fun z : World => Ext w5 z) z → Ext w5 z := fun _ h => h
          (repeat (apply CW.seq))
          refine CW.drawH (fun z : World => Ext w5 z) [(0, true), (1, true), (2, true), (3, true), (4, true), (5, false), (6, true)] mixed (by kernel_rfl) (Ext.drew w5) ?_
          (repeat (first | (apply HL.pure; rfl; rfl; rfl; rfl) | (refine HL.ld (by assumption) rfl rfl rfl rfl (by assumption) rfl ?_)))
          refine HL.elemN (k := 0) hSE rfl rfl rfl rfl rfl rfl rfl (fun _ h => h) hks (by simp) (fun _ => rfl) (fun u0 q0 hu0 => ?_)
          obtain ⟨uo0, uc0, rfl, hs0⟩ := hu0.sl
          skip
          refine HL.mut rfl (WL.call rfl rfl rfl (leu_ok (drew w5) (hL.up (hE5.trans (Ext.drew w5))) hW.g hn (has.up (Ext.drew w5)) (hs0.up (Ext.drew w5))) ?_)
          rintro v6 w6 ⟨ho6, e6⟩
          have x6 : Ext w5 w6 := Ext.trans (Ext.drew w5) e6
          refine WL.nil (EX.mut x6 ?_)
          (repeat (first | (apply HL.pure; rfl; rfl; rfl; rfl) | (apply HL.nil)))
          (repeat (first | (apply EX.thenN) | (apply CW.ret) | (apply EX.thenR) | (apply EX.inR)))
          exact EX.ret1 rfl rfl ⟨ho6.low (hE5.trans (Ext.drew w5)).size, hE5.trans x6⟩
        have n8 : k ≠ 8 := by simpa using h
        clear h
        (repeat (first | (apply WL.pure; rfl; rfl; rfl) | (apply WL.nil) | (apply EX.thenN) | (apply CW.seq) | (apply CW.region)))
        refine CW.cond rfl (fun h => ?_) (fun h => ?_)
        · obtain rfl : k = 9 := by simpa using h
          have hkn : kids.length = 1 := by have : kidsC 9 = 1 := rfl; omega
          obtain ⟨x, rfl⟩ := List.length_eq_one_iff.1 hkn
          have hks : Sl w5 (Old w5) ko kc [boolsN nx.length (ctlF nx lb fr x)] := hks
          have hSE : ∀ z, (fun z : World => Ext w5 z) z → Ext w5 z := fun _ h => h
          (repeat (apply CW.seq))
          refine CW.drawH (fun z : World => Ext w5 z) [(0, true), (1, true), (2, true), (3, true), (4, false), (5, true)] mixed (by kernel_rfl) (Ext.drew w5) ?_
          (repeat (refine HL.ld (by assumption) rfl rfl rfl rfl (by assumption) rfl ?_))
          refine HL.elemN (k := 0) hSE rfl rfl rfl rfl rfl rfl rfl (fun _ h => h) hks (by simp) (fun _ => rfl) (fun u0 q0 hu0 => ?_)
          obtain ⟨uo0, uc0, rfl, hs0⟩ := hu0.sl
          skip
          refine HL.mut rfl (WL.call rfl rfl rfl (leg_ok (drew w5) (hL.up (hE5.trans (Ext.drew w5))) hW (hs0.up (Ext.drew w5))) ?_)
          rintro v6 w6 ⟨ho6, e6⟩
          have x6 : Ext w5 w6 := Ext.trans (Ext.drew w5) e6
          refine WL.nil (EX.mut x6 ?_)
          (repeat (first | (apply HL.pure; rfl; rfl; rfl; rfl) | (apply HL.nil)))
          (repeat (first | (apply EX.thenN) | (apply CW.ret) | (apply EX.thenR) | (apply EX.inR)))
          exact EX.ret1 rfl rfl ⟨ho6.low (hE5.trans (Ext.drew w5)).size, hE5.trans x6⟩
        have n9 : k ≠ 9 := by simpa using h
        clear h
        (repeat (first | (apply WL.pure; rfl; rfl; rfl) | (apply WL.nil) | (apply EX.thenN) | (apply CW.seq) | (apply CW.region)))
        refine CW.cond rfl (fun h => ?_) (fun h => ?_)
        · obtain rfl : k = 10 := by simpa using h
          have hkn : kids.length = 2 := by have : kidsC 10 = 2 := rfl; omega
          obtain ⟨x, y, rfl⟩ := list_two hkn
          have hks : Sl w5 (Old w5) ko kc [boolsN nx.length (ctlF nx lb fr x), boolsN nx.length (ctlF nx lb fr y)] := hks
          have hSE : ∀ z, (fun z : World => Ext w5 z) z → Ext w5 z := fun _ h => h
          (repeat (apply CW.seq))
          refine CW.drawH (fun z : World => Ext w5 z) [(0, true), (1, true), (2, true), (3, true), (4, true), (5, true), (6, true), (7, false), (8, true)] mixed (by kernel_rfl) (Ext.drew w5) ?_
          (repeat (refine HL.ld (by assumption) rfl rfl rfl rfl (by assumption) rfl ?_))
          refine HL.elemN (k := 0) hSE rfl rfl rfl rfl rfl rfl rfl (fun _ h => h) hks (by simp) (fun _ => rfl) (fun u0 q0 hu0 => ?_)
          obtain ⟨uo0, uc0, rfl, hs0⟩ := hu0.sl
          (repeat (refine HL.ld (by assumption) rfl rfl rfl rfl (by assumption) rfl ?_))
          refine HL.elemN (k := 1) hSE rfl rfl rfl rfl rfl rfl rfl (fun _ h => h) hks (by simp) (fun _ => rfl) (fun u1 q1 hu1 => ?_)
          obtain ⟨uo1, uc1, rfl, hs1⟩ := hu1.sl
          skip
          refine HL.mut rfl (WL.call rfl rfl rfl (leu_ok (drew w5) (hL.up (hE5.trans (Ext.drew w5))) hW.g hn (hs0.up (Ext.drew w5)) (hs1.up (Ext.drew w5))) ?_)
          rintro v6 w6 ⟨ho6, e6⟩
          have x6 : Ext w5 w6 := Ext.trans (Ext.drew w5) e6
          refine WL.nil (EX.mut x6 ?_)
          (repeat (first | (apply HL.pure; rfl; rfl; rfl; rfl) | (apply HL.nil)))
          (repeat (first | (apply EX.thenN) | (apply CW.ret) | (apply EX.thenR) | (apply EX.inR)))
          exact EX.ret1 rfl rfl ⟨ho6.low (hE5.trans (Ext.drew w5)).size, hE5.trans x6⟩
        have n10 : k ≠ 10 := by simpa using h
        clear h
        (repeat (first | (apply WL.pure; rfl; rfl; rfl) | (apply WL.nil) | (apply EX.thenN) | (apply CW.seq) | (apply CW.region)))
        refine CW.cond rfl (fun h => ?_) (fun h => ?_)
        · obtain rfl : k = 11 := by simpa using h
          have hkn : kids.length = 1 := by have : kidsC 11 = 1 := rfl; omega
          obtain ⟨x, rfl⟩ := List.length_eq_one_iff.1 hkn
          have hks : Sl w5 (Old w5) ko kc [boolsN nx.length (ctlF nx lb fr x)] := hks
          have hSE : ∀ z, (fun z : World => Ext w5 z) z → Ext w5 z := fun _ h => h
          (repeat (apply CW.seq))
          refine CW.drawH (fun z : World => Ext w5 z) [(0, true), (1, true), (2, true), (3, true), (4, true), (5, true), (6, false), (7, false), (8, false), (9, true)] mixed (by kernel_rfl) (Ext.drew w5) ?_
          (repeat (refine HL.ld (by assumption) rfl rfl rfl rfl (by assumption) rfl ?_))
          refine HL.elemN (k := 0) hSE rfl rfl rfl rfl rfl rfl rfl (fun _ h => h) hks (by simp) (fun _ => rfl) (fun u0 q0 hu0 => ?_)
          obtain ⟨uo0, uc0, rfl, hs0⟩ := hu0.sl
          skip
          refine HL.mut rfl (WL.call rfl rfl rfl (lnot_ok (drew w5) (hL.up (hE5.trans (Ext.drew w5))) hn (hs0.up (Ext.drew w5))) ?_)
          rintro v6 w6 ⟨ho6, e6⟩
          have x6 : Ext w5 w6 := Ext.trans (Ext.drew w5) e6
          refine WL.nil (EX.mut x6 ?_)
          obtain ⟨do6, dc6, rfl, hd6⟩ := ho6.asSl
          skip
          refine HL.mut rfl (WL.call rfl rfl rfl (lex_ok w6 (hL.up (hE5.trans x6)) hW.g hn hd6) ?_)
          rintro v7 w7 ⟨ho7, e7⟩
          have x7 : Ext w5 w7 := Ext.trans x6 e7
          refine WL.nil (EX.mut x7 ?_)
          obtain ⟨do7, dc7, rfl, hd7⟩ := ho7.asSl
          skip
          refine HL.mut rfl (WL.call rfl rfl rfl (lnot_ok w7 (hL.up (hE5.trans x7)) hn hd7) ?_)
          rintro v8 w8 ⟨ho8, e8⟩
          have x8 : Ext w5 w8 := Ext.trans x7 e8
          refine WL.nil (EX.mut x8 ?_)
          (repeat (first | (apply HL.pure; rfl; rfl; rfl; rfl) | (apply HL.nil)))
          (repeat (first | (apply EX.thenN) | (apply CW.ret) | (apply EX.thenR) | (apply EX.inR)))
          exact EX.ret1 rfl rfl ⟨ho8.low (hE5.trans x7).size, hE5.trans x8⟩
        have n11 : k ≠ 11 := by simpa using h
        clear h
        (repeat (first | (apply WL.pure; rfl; rfl; rfl) | (apply WL.nil) | (apply EX.thenN) | (apply CW.seq) | (apply CW.region)))
        refine CW.cond rfl (fun h => ?_) (fun h => ?_)
        · obtain rfl : k = 12 := by simpa using h
          have hkn : kids.length = 1 := by have : kidsC 12 = 1 := rfl; omega
          obtain ⟨x, rfl⟩ := List.length_eq_one_iff.1 hkn
          have hks : Sl w5 (Old w5) ko kc [boolsN nx.length (ctlF nx lb fr x)] := hks
          have hSE : ∀ z, (fun z : World => Ext w5 z) z → Ext w5 z := fun _ h => h
          (repeat (apply CW.seq))
          refine CW.drawH (fun z : World => Ext w5 z) [(0, true), (1, true), (2, true), (3, true), (4, true), (5, true), (6, false), (7, false), (8, false), (9, true)] mixed (by kernel_rfl) (Ext.drew w5) ?_
          (repeat (refine HL.ld (by assumption) rfl rfl rfl rfl (by assumption) rfl ?_))
          refine HL.elemN (k := 0) hSE rfl rfl rfl rfl rfl rfl rfl (fun _ h => h) hks (by simp) (fun _ => rfl) (fun u0 q0 hu0 => ?_)
          obtain ⟨uo0, uc0, rfl, hs0⟩ := hu0.sl
          skip
          refine HL.mut rfl (WL.call rfl rfl rfl (lnot_ok (drew w5) (hL.up (hE5.trans (Ext.drew w5))) hn (hs0.up (Ext.drew w5))) ?_)
          rintro v6 w6 ⟨ho6, e6⟩
          have x6 : Ext w5 w6 := Ext.trans (Ext.drew w5) e6
          refine WL.nil (EX.mut x6 ?_)
          obtain ⟨do6, dc6, rfl, hd6⟩ := ho6.asSl
          skip
          refine HL.mut rfl (WL.call rfl rfl rfl (leg_ok w6 (hL.up (hE5.trans x6)) hW hd6) ?_)
          rintro v7 w7 ⟨ho7, e7⟩
          have x7 : Ext w5 w7 := Ext.trans x6 e7
          refine WL.nil (EX.mut x7 ?_)
          obtain ⟨do7, dc7, rfl, hd7⟩ := ho7.asSl
          skip
          refine HL.mut rfl (WL.call rfl rfl rfl (lnot_ok w7 (hL.up (hE5.trans x7)) hn hd7) ?_)
          rintro v8 w8 ⟨ho8, e8⟩
          have x8 : Ext w5 w8 := Ext.trans x7 e8
          refine WL.nil (EX.mut x8 ?_)
          (repeat (first | (apply HL.pure; rfl; rfl; rfl; rfl) | (apply HL.nil)))
          (repeat (first | (apply EX.thenN) | (apply CW.ret) | (apply EX.thenR) | (apply EX.inR)))
          exact EX.ret1 rfl rfl ⟨ho8.low (hE5.trans x7).size, hE5.trans x8⟩
        have n12 : k ≠ 12 := by simpa using h
        clear h
        (repeat (first | (apply WL.pure; rfl; rfl; rfl) | (apply WL.nil) | (apply EX.thenN) | (apply CW.seq) | (apply CW.region)))
        refine CW.cond rfl (fun h => ?_) (fun h => ?_)
        · obtain rfl : k = 13 := by simpa using h
          have hkn : kids.length = 1 := by have : kidsC 13 = 1 := rfl; omega
          obtain ⟨x, rfl⟩ := List.length_eq_one_iff.1 hkn
          have hks : Sl w5 (Old w5) ko kc [boolsN nx.length (ctlF nx lb fr x)] := hks
          have hSE : ∀ z, (fun z : World => Ext w5 z) z → Ext w5 z := fun _ h => h
          (repeat (apply CW.seq))
          refine CW.drawH (fun z : World => Ext w5 z) [(0, true), (1, true), (2, true), (3, true), (4, true), (5, true), (6, true), (7, false), (8, false), (9, false), (10, true)] mixed (by kernel_rfl) (Ext.drew w5) ?_
          (repeat (first | (apply HL.pure; rfl; rfl; rfl; rfl) | (refine HL.ld (by assumption) rfl rfl rfl rfl (by assumption) rfl ?_)))
          refine HL.elemN (k := 0) hSE rfl rfl rfl rfl rfl rfl rfl (fun _ h => h) hks (by simp) (fun _ => rfl) (fun u0 q0 hu0 => ?_)
          obtain ⟨uo0, uc0, rfl, hs0⟩ := hu0.sl
          skip
          refine HL.mut rfl (WL.call rfl rfl rfl (lnot_ok (drew w5) (hL.up (hE5.trans (Ext.drew w5))) hn (hs0.up (Ext.drew w5))) ?_)
          rintro v6 w6 ⟨ho6, e6⟩
          have x6 : Ext w5 w6 := Ext.trans (Ext.drew w5) e6
          refine WL.nil (EX.mut x6 ?_)
          obtain ⟨do6, dc6, rfl, hd6⟩ := ho6.asSl
          skip
          refine HL.mut rfl (WL.call rfl rfl rfl (leu_ok w6 (hL.up (hE5.trans x6)) hW.g hn (has.up x6) hd6) ?_)
          rintro v7 w7 ⟨ho7, e7⟩
          have x7 : Ext w5 w7 := Ext.trans x6 e7
          refine WL.nil (EX.mut x7 ?_)
          obtain ⟨do7, dc7, rfl, hd7⟩ := ho7.asSl
          skip
          refine HL.mut rfl (WL.call rfl rfl rfl (lnot_ok w7 (hL.up (hE5.trans x7)) hn hd7) ?_)
          rintro v8 w8 ⟨ho8, e8⟩
          have x8 : Ext w5 w8 := Ext.trans x7 e8
          refine WL.nil (EX.mut x8 ?_)
          (repeat (first | (apply HL.pure; rfl; rfl; rfl; rfl) | (apply HL.nil)))
          (repeat (first | (apply EX.thenN) | (apply CW.ret) | (apply EX.thenR) | (apply EX.inR)))
          exact EX.ret1 rfl rfl ⟨ho8.low (hE5.trans x7).size, hE5.trans x8⟩
        have n13 : k ≠ 13 := by simpa using h
        clear h
        (repeat (first | (apply WL.pure; rfl; rfl; rfl) | (apply WL.nil) | (apply EX.thenN) | (apply CW.seq) | (apply CW.region)))
        refine CW.cond rfl (fun h => ?_) (fun h => ?_)
        · obtain rfl : k = 14 := by simpa using h
          have hkn : kids.length = 2 := by have : kidsC 14 = 2 := rfl; omega
          obtain ⟨x, y, rfl⟩ := list_two hkn
          have hks : Sl w5 (Old w5) ko kc [boolsN nx.length (ctlF nx lb fr x), boolsN nx.length (ctlF nx lb fr y)] := hks
          have hSE : ∀ z, (fun z : World => Ext w5 z) z → Ext w5 z := fun _ h => h
          (repeat (apply CW.seq))
          refine CW.drawH (fun z : World => Ext w5 z) [(0, true), (1, true), (2, true), (3, true), (4, true), (5, true), (6, true), (7, false), (8, true)] mixed (by kernel_rfl) (Ext.drew w5) ?_
          (repeat (refine HL.ld (by assumption) rfl rfl rfl rfl (by assumption) rfl ?_))
          refine HL.elemN (k := 0) hSE rfl rfl rfl rfl rfl rfl rfl (fun _ h => h) hks (by simp) (fun _ => rfl) (fun u0 q0 hu0 => ?_)
          obtain ⟨uo0, uc0, rfl, hs0⟩ := hu0.sl
          (repeat (refine HL.ld (by assumption) rfl rfl rfl rfl (by assumption) rfl ?_))
          refine HL.elemN (k := 1) hSE rfl rfl rfl rfl rfl rfl rfl (fun _ h => h) hks (by simp) (fun _ => rfl) (fun u1 q1 hu1 => ?_)
          obtain ⟨uo1, uc1, rfl, hs1⟩ := hu1.sl
          skip
          refine HL.mut rfl (WL.call rfl rfl rfl (lau_ok (drew w5) (hL.up (hE5.trans (Ext.drew w5))) hW (hs0.up (Ext.drew w5)) (hs1.up (Ext.drew w5))) ?_)
          rintro v6 w6 ⟨ho6, e6⟩
          have x6 : Ext w5 w6 := Ext.trans (Ext.drew w5) e6
          refine WL.nil (EX.mut x6 ?_)
          (repeat (first | (apply HL.pure; rfl; rfl; rfl; rfl) | (apply HL.nil)))
          (repeat (first | (apply EX.thenN) | (apply CW.ret) | (apply EX.thenR) | (apply EX.inR)))
          exact EX.ret1 rfl rfl ⟨ho6.low (hE5.trans (Ext.drew w5)).size, hE5.trans x6⟩
        have n14 : k ≠ 14 := by simpa using h
        clear h
        obtain rfl : k = 2 := by
          unfold kidsC at hkl
          have h0 : 0 ≤ (kids.length : Int) := by omega
          split at hkl
          · omega
          split at hkl
          · omega
          split at hkl
          · omega
          omega
        (repeat (first | (apply WL.pure; rfl; rfl; rfl) | (apply EX.thenN) | (apply CW.seq) | (apply CW.region) | (apply WL.ld; rfl; rfl; rfl; assumption; rfl) | (apply EX.inN) | (apply CW.skip)))
        refine WL.call rfl rfl rfl (lnot_ok w5 (hL.up hE5) hn has) ?_
        rintro _ w6 ⟨ho, e6⟩
        have hfe : (boolsN nx.length fun i => ¬ True) = boolsN nx.length (ctlF nx lb fr (.mk 2 n kids)) := boolsN_congr (fun i _ => ⟨fun h => absurd trivial h, fun h => absurd h (fun h => by cases h)⟩)
        rw [hfe] at ho
        (repeat (first | (apply WL.pure; rfl; rfl; rfl) | (apply WL.nil) | (apply EX.thenN) | (apply CW.ret)))
        exact EX.ret1 rfl rfl ⟨ho.low hE5.size, hE5.trans e6⟩
end Go.Proofs.YtllpfgcngokhnaaGreat

/-
  Package label: begun, Label: walked.
-/
set_option linter.unusedVariables false
set_option linter.unusedSimpArgs false
namespace Go.Proofs.YtllpfgcngokhnaaGreat
open Go.RowKit

theorem begun_ok (w0 : World) {a1 a2 a3 a4 : Option Addr} {c1 c2 c3 c4 : Nat} {st : List Int} {nx fr : Graph} {lb : List Nat} (h1 : Sl w0 (Old w0) a1 c1 st) (h2 : Sl w0 (Old w0) a2 c2 nx) (h3 : Sl w0 (Old w0) a3 c3 lb) (h4 : Sl w0 (Old w0) a4 c4 fr)
    (hc : chkWd st nx lb.length fr = 0) (hT : edges nx ≤ 8589934592) :
    Rt Tryz.prog 24 [worldV a1 c1 a2 c2 a3 c3 a4 c4 st.length nx.length lb.length fr.length].toArray w0 fun v w' => ∃ b, v = labP b ∧ LabAt w' b nx lb fr ∧ Ext w0 w' := by
  obtain ⟨hn600, hf80, hkn, hokst, hoknx, hokfr⟩ := chkWd_ok hc
  have hok : okG nx := fun r hr => (hoknx r hr).2
  refine Rt.enter1 Tryz.func24 Tryz.ntmps24 rfl rfl ?_
  (repeat (first | (apply CW.seq) | (apply CW.region)))
  refine WL.boxB rfl rfl rfl fun w1 hb1 e1 => ?_
  have hl1 := hb1.lt
  have hz1 := e1.size
  (repeat (first | (apply WL.pure; rfl; rfl; rfl) | (apply WL.nil) | (apply EX.thenN) | (apply CW.seq) | (apply CW.region) | (apply WL.ldA; rfl; rfl; rfl; assumption; rfl)))
  refine WL.build rfl rfl rfl rfl ?_
  refine WL.boxB rfl rfl rfl fun w2 hb2 e2 => ?_
  have hb1 := hb1.ext e2
  have hE := e1.trans e2
  have hl2 := hb2.lt
  have hz2 := e2.size
  (repeat (first | (apply WL.pure; rfl; rfl; rfl) | (apply WL.nil) | (apply EX.thenN) | (apply CW.seq) | (apply CW.region) | (apply WL.ldA; rfl; rfl; rfl; assumption; rfl)))
  refine WL.call rfl rfl rfl (Fair_ok w2 (h1.up hE) (h2.up hE) h3.len63 (h4.up hE) hT) ?_
  rintro _ w3 ⟨fv, rfl, hfo, e3⟩
  rw [if_pos hc, all_fairP hok] at hfo
  obtain ⟨fo, fc, rfl⟩ := hfo.val
  have hb1 := hb1.ext e3
  have hb2 := hb2.ext e3
  have hE := hE.trans e3
  have hz3 := e3.size
  (repeat (first | (apply WL.pure; rfl; rfl; rfl) | (apply WL.fa; rfl; rfl; rfl) | (apply WL.nck; rfl; rfl; rfl)))
  refine WL.st rfl rfl rfl hb2 rfl rfl (ones_of rfl) (fun w4 hb2 hg4 => ?_)
  have hfo := hfo.keptN hg4 (fun g hg e => by have := (hfo.lt g hg).1; have := Option.some.inj e; omega)
  have hb1 := hb1.kept hg4 (fun e => by have := Option.some.inj e; omega)
  have hE : Ext w0 w4 := hE.grown hg4 hE.size (fun g hg => by cases hg; exact hz1)
  have hz4 := hg4.size
  (repeat (first | (apply WL.pure; rfl; rfl; rfl) | (apply WL.nil) | (apply EX.thenN) | (apply CW.seq) | (apply CW.region) | (apply WL.fa; rfl; rfl; rfl) | (apply WL.ld; rfl; rfl; rfl; assumption; rfl)))
  refine WL.call rfl rfl rfl (Turn_ok w4 (h2.up hE)) ?_
  rintro _ w5 ⟨tv, vs, rfl, hto, e5⟩
  have hck : chkG nx = 0 := chkG_of hok (by omega)
  have htf : turnF nx = turnL nx := by unfold turnF; rw [if_pos hck]
  rw [htf] at hto
  obtain ⟨to, tc, htv⟩ := hto.out.val
  have htl := hto.len
  subst htv
  have hb2 := hb2.ext e5
  have hfo := hfo.extN e5
  have hE := hE.trans e5
  (repeat (first | (apply WL.pure; rfl; rfl; rfl) | (apply WL.fa; rfl; rfl; rfl) | (apply WL.nck; rfl; rfl; rfl)))
  refine WL.st rfl rfl rfl hb2 rfl rfl (ones_of rfl) (fun w6 hb2 hg6 => ?_)
  have hfo := hfo.keptN hg6 (fun g hg e => by have := (hfo.lt g hg).1; have := Option.some.inj e; omega)
  have hto := hto.kept hg6 (fun g hg e => by have := (hto.lt g hg).1; have := Option.some.inj e; omega)
  have hE : Ext w0 w6 := hE.grown hg6 hE.size (fun g hg => by cases hg; exact hz1)
  obtain ⟨ao, ac, ea, has⟩ := hfo.asSl
  obtain ⟨rfl, _, rfl⟩ := Value.slice.inj ea
  obtain ⟨bo, bc, eb, hbs⟩ := hto.old.sl
  obtain ⟨rfl, _, rfl⟩ := Value.slice.inj eb
  rw [htl] at hb2
  (repeat (first | (apply WL.pure; rfl; rfl; rfl) | (apply WL.nil) | (apply EX.thenN) | (apply CW.seq) | (apply CW.region) | (apply CW.ret)))
  exact EX.ret1 rfl rfl ⟨_, rfl, ⟨_, _, _, _, _, _, _, _, _, _, _, _, _, hb2, h2.up hE, h3.up hE, h4.up hE, has, hbs⟩, hE⟩
def labE (st : List Int) (nx : Graph) (k : Nat) (fr : Graph) (t : Ltl) : Int := if chkWd st nx k fr ≠ 0 then chkWd st nx k fr else (chkC t 1 0).1
theorem labE_ok {st : List Int} {nx : Graph} {k : Nat} {fr : Graph} {t : Ltl} (h : labE st nx k fr t = 0) : chkWd st nx k fr = 0 ∧ (chkC t 1 0).1 = 0 := by
  unfold labE at h
  split at h
  · rename_i h1; exact absurd h h1
  · rename_i h1; exact ⟨by simpa using h1, h⟩
theorem lcheck_ok (w0 : World) {a1 a2 a3 a4 to : Option Addr} {c1 c2 c3 c4 tc : Nat} {st : List Int} {nx fr : Graph} {lb : List Nat} {t : Ltl} (h1 : Sl w0 (Old w0) a1 c1 st) (h2 : Sl w0 (Old w0) a2 c2 nx) (h3 : Sl w0 (Old w0) a3 c3 lb) (h4 : Sl w0 (Old w0) a4 c4 fr) (ht : Sl w0 (Old w0) to tc t.kids) :
    Rt Tryz.prog 23 [worldV a1 c1 a2 c2 a3 c3 a4 c4 st.length nx.length lb.length fr.length, ltlV t.k t.n to t.kids.length tc].toArray w0 fun v w' => v = .int .i64 (labE st nx lb.length fr t) ∧ Ext w0 w' := by
  refine Rt.enter2 Tryz.func23 Tryz.ntmps23 rfl rfl ?_
  (repeat (first | (apply CW.seq) | (apply CW.region)))
  refine WL.boxB rfl rfl rfl fun w1 hb1 e1 => ?_
  skip
  refine WL.boxB rfl rfl rfl fun w2 hb2 e2 => ?_
  have hb1 := hb1.ext e2
  have hE := e1.trans e2
  (repeat (first | (apply WL.pure; rfl; rfl; rfl) | (apply WL.nil) | (apply EX.thenN) | (apply CW.seq) | (apply CW.region) | (apply WL.ldA; rfl; rfl; rfl; assumption; rfl)))
  refine WL.call rfl rfl rfl (wCheck_ok w2 (h1.up hE) (h2.up hE) h3.len63 (h4.up hE)) ?_
  rintro _ w3 ⟨rfl, e3⟩
  have hb2 := hb2.ext e3
  have hE := hE.trans e3
  unfold labE
  (repeat (first | (apply WL.pure; rfl; rfl; rfl) | (apply WL.nil) | (apply EX.thenN) | (apply CW.seq) | (apply CW.region)))
  refine CW.cond rfl (fun h => ?_) (fun h => ?_)
  · have h : chkWd st nx lb.length fr ≠ 0 := by simpa using h
    rw [if_pos h]
    (repeat (first | (apply WL.pure; rfl; rfl; rfl) | (apply WL.nil) | (apply EX.thenN) | (apply CW.seq) | (apply CW.region) | (apply CW.ret) | (apply EX.thenR)))
    exact EX.ret1 rfl rfl ⟨rfl, hE⟩
  have h : chkWd st nx lb.length fr = 0 := by simpa using h
  rw [if_neg (by simp [h])]
  (repeat (first | (apply EX.thenN) | (apply CW.seq) | (apply CW.region) | (apply WL.ldA; rfl; rfl; rfl; assumption; rfl) | (apply CW.skip)))
  refine WL.call rfl rfl rfl (ctlCheck w3 (ht.up hE) (fun _ h => h)) ?_
  rintro _ w4 ⟨rfl, e4⟩
  (repeat (first | (apply WL.pure; rfl; rfl; rfl) | (apply WL.nil) | (apply EX.thenN) | (apply CW.ret)))
  exact EX.ret1 rfl rfl ⟨rfl, hE.trans e4⟩
theorem Label_ok (w0 : World) {a1 a2 a3 a4 to : Option Addr} {c1 c2 c3 c4 tc : Nat} {st : List Int} {nx fr : Graph} {lb : List Nat} {t : Ltl} (h1 : Sl w0 (Old w0) a1 c1 st) (h2 : Sl w0 (Old w0) a2 c2 nx) (h3 : Sl w0 (Old w0) a3 c3 lb) (h4 : Sl w0 (Old w0) a4 c4 fr) (ht : Sl w0 (Old w0) to tc t.kids)
    (hT : edges nx ≤ 8589934592) :
    Rt Tryz.prog 17 [worldV a1 c1 a2 c2 a3 c3 a4 c4 st.length nx.length lb.length fr.length, ltlV t.k t.n to t.kids.length tc].toArray w0 fun v w' => ∃ x, v = .tuple ⟨[x, .int .i64 (labE st nx lb.length fr t)]⟩ ∧
      Own w' w0.heap.size 4 Non x (if labE st nx lb.length fr t = 0 then boolsN nx.length (ctlF nx lb fr t) else []) ∧ Ext w0 w' := by
  refine Rt.enter2 Tryz.func17 Tryz.ntmps17 rfl rfl ?_
  (repeat (first | (apply CW.seq) | (apply CW.region)))
  refine WL.boxB rfl rfl rfl fun w1 hb1 e1 => ?_
  skip
  refine WL.boxB rfl rfl rfl fun w2 hb2 e2 => ?_
  have hb1 := hb1.ext e2
  have hE := e1.trans e2
  (repeat (first | (apply WL.pure; rfl; rfl; rfl) | (apply WL.nil) | (apply EX.thenN) | (apply CW.seq) | (apply CW.region) | (apply WL.ldA; rfl; rfl; rfl; assumption; rfl)))
  refine WL.call rfl rfl rfl (lcheck_ok w2 (h1.up hE) (h2.up hE) (h3.up hE) (h4.up hE) (ht.up hE)) ?_
  rintro _ w3 ⟨rfl, e3⟩
  have hb1 := hb1.ext e3
  have hb2 := hb2.ext e3
  have hE := hE.trans e3
  (repeat (first | (apply WL.pure; rfl; rfl; rfl) | (apply WL.nil) | (apply EX.thenN) | (apply CW.seq) | (apply CW.region)))
  refine CW.cond rfl (fun h => ?_) (fun h => ?_)
  · have h : labE st nx lb.length fr t ≠ 0 := by simpa using h
    rw [if_neg h]
    (repeat (first | (apply WL.pure; rfl; rfl; rfl) | (apply WL.nil) | (apply EX.thenN) | (apply CW.seq) | (apply CW.region) | (apply CW.ret) | (apply EX.thenR)))
    exact EX.ret2 rfl rfl rfl ⟨_, rfl, Own.nil, hE⟩
  have h : labE st nx lb.length fr t = 0 := by simpa using h
  rw [if_pos h, h]
  obtain ⟨hc, hf⟩ := labE_ok h
  obtain ⟨hn600, hf80, hkn, hokst, hoknx, hokfr⟩ := chkWd_ok hc
  have hok : okG nx := fun r hr => (hoknx r hr).2
  have hSE : ∀ z, (fun z : World => Ext w3 z) z → Ext w3 z := fun _ h => h
  (repeat (first | (apply EX.thenN) | (apply CW.seq) | (apply CW.skip)))
  refine CW.drawH (fun z : World => Ext w3 z) [(0, true), (2, true), (1, false), (3, false), (4, true), (5, true)] mixed (by kernel_rfl) (Ext.drew w3) ?_
  (repeat (refine HL.ldA (by assumption) rfl rfl rfl rfl (by assumption) rfl ?_))
  have hE4 := hE.trans (Ext.drew w3)
  refine HL.mut rfl (WL.call rfl rfl rfl (begun_ok (drew w3) (h1.up hE4) (h2.up hE4) (h3.up hE4) (h4.up hE4) hc hT) ?_)
  rintro _ w4 ⟨b, rfl, hL, e4⟩
  have x4 : Ext w3 w4 := Ext.trans (Ext.drew w3) e4
  refine WL.nil (EX.mut x4 ?_)
  skip
  have hE4 := hE.trans x4
  refine HL.mut rfl (WL.call rfl rfl rfl (label_ok ⟨hn600, hok, hokfr, hT⟩ hkn t.nodes t (Nat.le_refl _) (chkC_ok t _ _ hf) w4 b to tc hL (ht.up hE4)) ?_)
  rintro _ w5 ⟨ho, e5⟩
  have x5 : Ext w3 w5 := Ext.trans x4 e5
  refine WL.nil (EX.mut x5 ?_)
  (repeat (first | (apply HL.pure; rfl; rfl; rfl; rfl) | (apply HL.nil)))
  (repeat (first | (apply EX.thenN) | (apply CW.ret)))
  exact EX.ret2 rfl rfl rfl ⟨_, rfl, ho.low hE4.size, hE.trans x5⟩
end Go.Proofs.YtllpfgcngokhnaaGreat

/-
  LabelWords: plain.
-/
set_option linter.unusedVariables false
set_option linter.unusedSimpArgs false
namespace Go.Proofs.YtllpfgcngokhnaaGreat
open Go.RowKit

theorem mkT_ok {t : Ltl} (h1 : (plainE t).2 = 0) (h2 : (gaE (plainE t).1 ([], [])).1.length + (gaE (plainE t).1 ([], [])).2.length ≤ 10) : (makeT t).2 = 0 := by
  have hl := tabM_len (plainE t).1
  unfold makeT
  rw [if_neg (by simpa using h1), if_neg]
  unfold numN
  rw [hl.1, hl.2]
  omega
abbrev okMk (t : Ltl) : Prop := (plainE (notT t)).2 = 0 ∧ (gaE (plainE (notT t)).1 ([], [])).1.length + (gaE (plainE (notT t)).1 ([], [])).2.length ≤ 10 ∧ (chkF t 1 0).1 = 0
theorem mkG : ∀ n : Fin 64, okMk (.mk 11 0 [.mk 3 (n.val : Int) []]) := by decide +kernel
theorem mkF : ∀ n : Fin 64, okMk (.mk 10 0 [.mk 3 (n.val : Int) []]) := by decide +kernel
theorem mkX : ∀ n : Fin 64, okMk (.mk 7 0 [.mk 3 (n.val : Int) []]) := by decide +kernel
theorem mkGF : ∀ n : Fin 64, okMk (.mk 11 0 [.mk 10 0 [.mk 3 (n.val : Int) []]]) := by decide +kernel
theorem mkU : ∀ n k : Fin 64, okMk (.mk 8 0 [.mk 3 (n.val : Int) [], .mk 3 (k.val : Int) []]) := by decide +kernel
theorem ckG : ∀ n : Fin 64, (chkC (.mk 13 0 [.mk 3 (n.val : Int) []]) 1 0).1 = 0 := by decide +kernel
theorem ckF : ∀ n : Fin 64, (chkC (.mk 12 0 [.mk 3 (n.val : Int) []]) 1 0).1 = 0 := by decide +kernel
theorem ckX : ∀ n : Fin 64, (chkC (.mk 11 0 [.mk 3 (n.val : Int) []]) 1 0).1 = 0 := by decide +kernel
theorem ckGF : ∀ n : Fin 64, (chkC (.mk 13 0 [.mk 12 0 [.mk 3 (n.val : Int) []]]) 1 0).1 = 0 := by decide +kernel
theorem ckU : ∀ n k : Fin 64, (chkC (.mk 14 0 [.mk 3 (n.val : Int) [], .mk 3 (k.val : Int) []]) 1 0).1 = 0 := by decide +kernel
section
variable {nx fr : Graph} {lb : List Nat}
/-- what all fair ways from a state say -/
def AllF (nx fr : Graph) (lb : List Nat) (t : Ltl) (n : Nat) : Prop := ∀ r, r 0 = n → Way8 (Eg nx) (setPs fr) r → sem (fun i => lb.getD (r i) 0) t 0
/-- a way that comes to B through A, and on -/
theorem euP_run {A B : Nat → Prop} {n : Nat} : euP nx fr A B n ↔ ∃ r, r 0 = n ∧ Way8 (Eg nx) (setPs fr) r ∧ ∃ i, B (r i) ∧ ∀ j, j < i → A (r j) := by
  constructor
  · intro h
    unfold euP at h
    induction h with
    | here hb =>
      obtain ⟨hb, r, h0, hr⟩ := hb
      exact ⟨r, h0, hr, 0, by rw [h0]; exact hb, fun j hj => absurd hj (by omega)⟩
    | step ha he _ ih =>
      rename_i n m _
      obtain ⟨r, h0, hr, i, hb, hall⟩ := ih
      refine ⟨consW n r, rfl, hr.cons (by rw [h0]; exact he), i + 1, hb, fun j hj => ?_⟩
      cases j with
      | zero => exact ha
      | succ j => exact hall j (by omega)
  · rintro ⟨r, h0, hr, i, hb, ha⟩
    rw [← h0]
    exact euP_way hr hb ha
abbrev atB (lb : List Nat) (n : Int) (i : Nat) : Prop := lb.getD i 0 >>> n.toNat &&& 1 = 1
theorem words_g {n : Int} {s : Nat} : ctlF nx lb fr (.mk 13 0 [.mk 3 n []]) s ↔ AllF nx fr lb (.mk 11 0 [.mk 3 n []]) s := by
  show ¬ euP nx fr (fun _ => True) (fun j => ¬ atB lb n j) s ↔ ∀ r, r 0 = s → Way8 (Eg nx) (setPs fr) r → ¬ Til (fun _ => True) (fun j => ¬ atB lb n (r j)) 0
  rw [euP_run]
  constructor
  · rintro h r h0 hr ⟨j, _, hj, _⟩
    exact h ⟨r, h0, hr, j, hj, fun _ _ => trivial⟩
  · rintro h ⟨r, h0, hr, i, hi, _⟩
    exact h r h0 hr ⟨i, Nat.zero_le _, hi, fun _ _ _ => trivial⟩
theorem words_f {n : Int} {s : Nat} : ctlF nx lb fr (.mk 12 0 [.mk 3 n []]) s ↔ AllF nx fr lb (.mk 10 0 [.mk 3 n []]) s := by
  show ¬ (∃ r, r 0 = s ∧ Way8 (Eg nx) (setPs fr) r ∧ ∀ i, ¬ atB lb n (r i)) ↔ ∀ r, r 0 = s → Way8 (Eg nx) (setPs fr) r → Til (fun _ => True) (fun j => atB lb n (r j)) 0
  constructor
  · intro h r h0 hr
    apply Classical.byContradiction
    intro hn
    exact h ⟨r, h0, hr, fun i hi => hn ⟨i, Nat.zero_le _, hi, fun _ _ _ => trivial⟩⟩
  · rintro h ⟨r, h0, hr, hall⟩
    obtain ⟨j, _, hj, _⟩ := h r h0 hr
    exact hall j hj
theorem words_x {n : Int} {s : Nat} : ctlF nx lb fr (.mk 11 0 [.mk 3 n []]) s ↔ AllF nx fr lb (.mk 7 0 [.mk 3 n []]) s := by
  show ¬ (∃ m, Eg nx s m ∧ (¬ atB lb n m) ∧ fairP nx fr m) ↔ ∀ r, r 0 = s → Way8 (Eg nx) (setPs fr) r → atB lb n (r 1)
  constructor
  · intro h r h0 hr
    apply Classical.byContradiction
    intro hn
    exact h ⟨r 1, by rw [← h0]; exact hr.1 0, hn, fun i => r (i + 1), rfl, hr.tail⟩
  · rintro h ⟨m, he, hn, r, h0, hr⟩
    have := h (consW s r) rfl (hr.cons (by rw [h0]; exact he))
    exact hn (by rw [← h0]; exact this)
theorem words_u {n k : Int} {s : Nat} : ctlF nx lb fr (.mk 14 0 [.mk 3 n [], .mk 3 k []]) s ↔ AllF nx fr lb (.mk 8 0 [.mk 3 n [], .mk 3 k []]) s := by
  show ¬ (euP nx fr (fun i => ¬ atB lb k i) (fun i => ¬ atB lb n i ∧ ¬ atB lb k i) s ∨ egP nx fr (fun i => ¬ atB lb k i) s) ↔ ∀ r, r 0 = s → Way8 (Eg nx) (setPs fr) r → Til (fun j => atB lb n (r j)) (fun j => atB lb k (r j)) 0
  rw [euP_run]
  constructor
  · intro h r h0 hr
    by_cases hB : ∃ j, atB lb k (r j)
    · have hex : ∃ j, atB lb k (r j) ∧ ∀ i, i < j → ¬ atB lb k (r i) := by
        obtain ⟨j, hj⟩ := hB
        induction j using Nat.strongRecOn with
        | _ j ih =>
          by_cases hs : ∃ i, i < j ∧ atB lb k (r i)
          · obtain ⟨i, hi, hb⟩ := hs
            exact ih i hi hb
          · exact ⟨j, hj, fun i hi hb => hs ⟨i, hi, hb⟩⟩
      obtain ⟨j, hj, hno⟩ := hex
      refine ⟨j, Nat.zero_le _, hj, fun m _ hm => ?_⟩
      apply Classical.byContradiction
      intro ha
      exact h (.inl ⟨r, h0, hr, m, ⟨ha, hno m hm⟩, fun i hi => hno i (by omega)⟩)
    · exact absurd (.inr ⟨r, h0, hr, fun i hi => hB ⟨i, hi⟩⟩) h
  · rintro h (⟨r, h0, hr, i, ⟨hi1, hi2⟩, hall⟩ | ⟨r, h0, hr, hall⟩)
    · obtain ⟨j, _, hj, ha⟩ := h r h0 hr
      rcases Nat.lt_trichotomy i j with h1 | h1 | h1
      · exact hi1 (ha i (Nat.zero_le _) h1)
      · subst h1; exact hi2 hj
      · exact hall j h1 hj
    · obtain ⟨j, _, hj, _⟩ := h r h0 hr
      exact hall j hj
theorem words_gf {n : Int} {s : Nat} : ctlF nx lb fr (.mk 13 0 [.mk 12 0 [.mk 3 n []]]) s ↔ AllF nx fr lb (.mk 11 0 [.mk 10 0 [.mk 3 n []]]) s := by
  show ¬ euP nx fr (fun _ => True) (fun j => ¬ ¬ (∃ r, r 0 = j ∧ Way8 (Eg nx) (setPs fr) r ∧ ∀ i, ¬ atB lb n (r i))) s ↔ ∀ r, r 0 = s → Way8 (Eg nx) (setPs fr) r → ¬ Til (fun _ => True) (fun j => ¬ Til (fun _ => True) (fun i => atB lb n (r i)) j) 0
  rw [euP_run]
  constructor
  · rintro h r h0 hr ⟨j, _, hj, _⟩
    refine h ⟨r, h0, hr, j, fun hn => hn ⟨fun i => r (i + j), by simp, hr.drop j, fun i hi => hj ⟨i + j, by omega, hi, fun _ _ _ => trivial⟩⟩, fun _ _ => trivial⟩
  · rintro h ⟨r, h0, hr, i, hi, _⟩
    obtain ⟨q, q0, hq, hall⟩ := Classical.not_not.1 hi
    have hw : Way8 (Eg nx) (setPs fr) (fun m => if m < i then r m else q (m - i)) := by
      refine ⟨fun m => ?_, fun P hP m => ?_⟩
      · dsimp only
        by_cases h1 : m + 1 < i
        · rw [if_pos (by omega), if_pos h1]; exact hr.1 m
        · by_cases h2 : m < i
          · rw [if_pos h2, if_neg h1, show m + 1 - i = 0 by omega, q0, show i = m + 1 by omega]; exact hr.1 m
          · rw [if_neg h2, if_neg h1, show m + 1 - i = (m - i) + 1 by omega]; exact hq.1 _
      · obtain ⟨j, h1, h2⟩ := hq.2 P hP m
        exact ⟨j + i, by omega, by dsimp only; rw [if_neg (by omega), show j + i - i = j by omega]; exact h2⟩
    refine h _ ?_ hw ⟨i, Nat.zero_le _, ?_, fun _ _ _ => trivial⟩
    · by_cases h1 : 0 < i
      · rw [if_pos h1]; exact h0
      · rw [if_neg h1, show 0 - i = 0 by omega, q0, show i = 0 by omega]; exact h0
    · rintro ⟨j, hj, hb, _⟩
      rw [if_neg (by omega)] at hb
      exact hall _ hb
theorem all_first {W : LWorld} {t : Ltl} : AllW W t ↔ ∀ x ∈ W.1, 0 ≤ x → AllF W.2.1 W.2.2.2 W.2.2.1 t x.toNat := by
  constructor
  · intro h x hx hp r h0 hr
    exact h r ⟨by rw [h0, show ((x.toNat : Nat) : Int) = x by omega]; exact hx, fun i => hr.1 i, fun F hF i => hr.2 _ (List.mem_map_of_mem hF) i⟩
  · intro h ρ hρ
    exact h _ hρ.first (by omega) ρ (by simp) ⟨hρ.step, fun P hP i => by
      obtain ⟨F, hF, rfl⟩ := List.mem_map.1 hP
      exact hρ.fair F hF i⟩
end
end Go.Proofs.YtllpfgcngokhnaaGreat

/-
  The small makers of formulas of all ways.
-/
set_option linter.unusedVariables false
set_option linter.unusedSimpArgs false
namespace Go.Proofs.YtllpfgcngokhnaaGreat
open Go.RowKit

/-- a formula that stands in memory -/
def CL (w : World) (v : Value) (t : Ltl) : Prop := Rd w (Old w) v t
theorem CL.ext {w w' : World} {v : Value} {t : Ltl} (h : CL w v t) (hE : Ext w w') : CL w' v t := Rd.mono h (fun b hb => hE.block b hb) (fun b hb => Nat.lt_of_lt_of_le hb hE.size)
theorem mk_catom (w : World) (n : Int) : Rt Tryz.prog 6 [.int .i64 n].toArray w fun v w' => CL w' v (.mk 3 n []) ∧ Ext w w' := by
  refine Rt.enter1 Tryz.func6 Tryz.ntmps6 rfl rfl ?_
  (repeat (first | (apply CW.seq) | (apply CW.region)))
  refine WL.alloc rfl rfl (fun w1 hb hE => ?_)
  (repeat (first | (apply WL.pure; rfl; rfl; rfl) | (apply WL.nil) | (apply EX.thenN) | (apply CW.seq) | (apply CW.region)))
  refine WL.build rfl rfl rfl rfl ?_
  refine WL.st rfl rfl rfl hb rfl rfl (ones_of rfl) (fun w2 hb2 hgr => ?_)
  have hE2 : Ext w w2 := hE.grown hgr hE.size (fun g hg => by cases hg; exact Nat.le_refl _)
  (repeat (first | (apply WL.nil) | (apply EX.thenN) | (apply CW.ret)))
  exact EX.retC rfl rfl hb2 rfl ⟨Rd.mkLtl (kids := []) ⟨by simp, by simp [maxLen], fun _ => rfl, fun i hi => absurd hi (by simp)⟩, hE2⟩
/-- blocks of F, and new ones -/
def PlusC (F : Nat → Prop) (w w' : World) : Nat → Prop := fun b => F b ∨ (w.heap.size ≤ b ∧ b < w'.heap.size)
theorem mk_coneF (w : World) {F : Nat → Prop} (hF : ∀ b, F b → b < w.heap.size) (k : Int) {v : Value} {t : Ltl} (h : Rd w F v t) : Rt Tryz.prog 5 [.int .i64 k, v].toArray w fun v w' => Rd w' (PlusC F w w') v (.mk k 0 [t] : Ltl) ∧ Ext w w' := by
  obtain ⟨ao, cap, rfl, hk⟩ := Rd.ltl h
  refine Rt.enter2 Tryz.func5 Tryz.ntmps5 rfl rfl ?_
  (repeat (first | (apply CW.seq) | (apply CW.region)))
  refine WL.boxB rfl rfl rfl fun w1 hb hE1 => ?_
  refine WL.alloc rfl rfl (fun w2 hr hE2 => ?_)
  have hb2 := hb.ext hE2
  have hE12 := hE1.trans hE2
  (repeat (first | (apply WL.pure; rfl; rfl; rfl) | (apply WL.nil) | (apply EX.thenN) | (apply CW.seq) | (apply CW.region) | (apply WL.ldA; rfl; rfl; rfl; assumption; rfl)))
  have hl : Rd w2 F (ltlV t.k t.n ao t.kids.length cap) t := Rd.mono h (fun b hb => hE12.block b (hF b hb)) (fun _ h => h)
  have hw2 : w.heap.size ≤ w2.heap.size := hE12.size
  have hlt := hr.lt
  have hw1 : w.heap.size ≤ w1.heap.size := hE1.size
  refine WL.lit (F := F) (ys := [t]) rfl rfl rfl rfl rfl (.cons hl .nil) (by show 1 * 3 ≤ 16777216; decide) (fun b hb => Nat.lt_of_lt_of_le (hF b hb) hw2) (fun w3 ho hg3 => ?_)
  have hE23 : Ext w2 w3 := (Ext.refl w2).grown hg3 (Nat.le_refl _) (fun k h => by cases h)
  have hr3 := hr.ext hE23
  have hE13 := hE12.trans hE23
  refine WL.build rfl rfl rfl rfl ?_
  refine WL.st rfl rfl rfl hr3 rfl rfl (ones_of rfl) (fun w4 hr4 hgr => ?_)
  have hE4 : Ext w w4 := hE13.grown hgr hE13.size (fun g hg => by cases hg; exact hE1.size)
  have ho4 := ho.kept hgr (fun g hg => by have := (ho.lt g hg).1; simp; omega) (fun b hb => ⟨Nat.lt_of_lt_of_le (hF b hb) hE13.size, by have : b < w.heap.size := hF b hb; simp; omega⟩)
  obtain ⟨uo, uc, he, hu⟩ := (ho4.rd.mono (F' := PlusC F w w4) (fun _ _ => rfl) (fun b hb => hb.elim .inl fun hv => .inr ⟨Nat.le_trans hE12.size (ho4.lt b hv).1, (ho4.lt b hv).2.1⟩)).sl
  obtain ⟨rfl, _, rfl⟩ := Value.slice.inj he
  (repeat (first | (apply WL.nil) | (apply EX.thenN) | (apply CW.ret)))
  exact EX.retC rfl rfl hr4 rfl ⟨Rd.mkLtl (kids := [t]) hu, hE4⟩
theorem mk_ctwoF (w : World) {F : Nat → Prop} (hF : ∀ b, F b → b < w.heap.size) (k : Int) {v v' : Value} {t t' : Ltl} (h : Rd w F v t) (h' : Rd w F v' t') : Rt Tryz.prog 9 [.int .i64 k, v, v'].toArray w fun v w' => Rd w' (PlusC F w w') v (.mk k 0 [t, t'] : Ltl) ∧ Ext w w' := by
  obtain ⟨ao, cap, rfl, hk⟩ := Rd.ltl h
  obtain ⟨ao', cap', rfl, hk'⟩ := Rd.ltl h'
  refine Rt.enter3 Tryz.func9 Tryz.ntmps9 rfl rfl ?_
  (repeat (first | (apply CW.seq) | (apply CW.region)))
  refine WL.boxB rfl rfl rfl fun w0 hb0 hE0 => ?_
  refine WL.boxB rfl rfl rfl fun w1 hb hE1 => ?_
  have hb0 := hb0.ext hE1
  have hE1 := hE0.trans hE1
  refine WL.alloc rfl rfl (fun w2 hr hE2 => ?_)
  have hb0 := hb0.ext hE2
  have hb2 := hb.ext hE2
  have hE12 := hE1.trans hE2
  (repeat (first | (apply WL.pure; rfl; rfl; rfl) | (apply WL.nil) | (apply EX.thenN) | (apply CW.seq) | (apply CW.region) | (apply WL.ldA; rfl; rfl; rfl; assumption; rfl)))
  have hl : Rd w2 F (ltlV t.k t.n ao t.kids.length cap) t := Rd.mono h (fun b hb => hE12.block b (hF b hb)) (fun _ h => h)
  have hl' : Rd w2 F (ltlV t'.k t'.n ao' t'.kids.length cap') t' := Rd.mono h' (fun b hb => hE12.block b (hF b hb)) (fun _ h => h)
  have hw2 : w.heap.size ≤ w2.heap.size := hE12.size
  have hlt := hr.lt
  have hw1 : w.heap.size ≤ w1.heap.size := hE1.size
  refine WL.lit (F := F) (ys := [t, t']) rfl rfl rfl rfl rfl (.cons hl (.cons hl' .nil)) (by show 2 * 3 ≤ 16777216; decide) (fun b hb => Nat.lt_of_lt_of_le (hF b hb) hw2) (fun w3 ho hg3 => ?_)
  have hE23 : Ext w2 w3 := (Ext.refl w2).grown hg3 (Nat.le_refl _) (fun k h => by cases h)
  have hr3 := hr.ext hE23
  have hE13 := hE12.trans hE23
  refine WL.build rfl rfl rfl rfl ?_
  refine WL.st rfl rfl rfl hr3 rfl rfl (ones_of rfl) (fun w4 hr4 hgr => ?_)
  have hE4 : Ext w w4 := hE13.grown hgr hE13.size (fun g hg => by cases hg; exact hE1.size)
  have ho4 := ho.kept hgr (fun g hg => by have := (ho.lt g hg).1; simp; omega) (fun b hb => ⟨Nat.lt_of_lt_of_le (hF b hb) hE13.size, by have : b < w.heap.size := hF b hb; simp; omega⟩)
  obtain ⟨uo, uc, he, hu⟩ := (ho4.rd.mono (F' := PlusC F w w4) (fun _ _ => rfl) (fun b hb => hb.elim .inl fun hv => .inr ⟨Nat.le_trans hE12.size (ho4.lt b hv).1, (ho4.lt b hv).2.1⟩)).sl
  obtain ⟨rfl, _, rfl⟩ := Value.slice.inj he
  (repeat (first | (apply WL.nil) | (apply EX.thenN) | (apply CW.ret)))
  exact EX.retC rfl rfl hr4 rfl ⟨Rd.mkLtl (kids := [t, t']) hu, hE4⟩
theorem mk_cone (w : World) (k : Int) {v : Value} {t : Ltl} (h : CL w v t) : Rt Tryz.prog 5 [.int .i64 k, v].toArray w fun v w' => CL w' v (.mk k 0 [t]) ∧ Ext w w' :=
  (mk_coneF w (fun _ h => h) k h).mono fun v w' h => ⟨Rd.mono h.1 (fun _ _ => rfl) fun b hb => hb.elim (fun h1 => Nat.lt_of_lt_of_le h1 h.2.size) (·.2), h.2⟩
theorem mk_ctwo (w : World) (k : Int) {v v' : Value} {t t' : Ltl} (h : CL w v t) (h' : CL w v' t') : Rt Tryz.prog 9 [.int .i64 k, v, v'].toArray w fun v w' => CL w' v (.mk k 0 [t, t']) ∧ Ext w w' :=
  (mk_ctwoF w (fun _ h => h) k h h').mono fun v w' h => ⟨Rd.mono h.1 (fun _ _ => rfl) fun b hb => hb.elim (fun h1 => Nat.lt_of_lt_of_le h1 h.2.size) (·.2), h.2⟩
end Go.Proofs.YtllpfgcngokhnaaGreat

/-
  watchkeep: labels, known: walked.
-/
set_option linter.unusedVariables false
set_option linter.unusedSimpArgs false
namespace Go.Proofs.YtllpfgcngokhnaaGreat
open Go.RowKit

theorem labels_ok (w0 : World) {a1 a2 a3 a4 to : Option Addr} {c1 c2 c3 c4 tc : Nat} {st : List Int} {nx fr : Graph} {lb : List Nat} {t : Ltl} (h1 : Sl w0 (Old w0) a1 c1 st) (h2 : Sl w0 (Old w0) a2 c2 nx) (h3 : Sl w0 (Old w0) a3 c3 lb) (h4 : Sl w0 (Old w0) a4 c4 fr) (ht : Sl w0 (Old w0) to tc t.kids)
    (hT : edges nx ≤ 8589934592) :
    Rt Tryz.prog 11 [worldV a1 c1 a2 c2 a3 c3 a4 c4 st.length nx.length lb.length fr.length, ltlV t.k t.n to t.kids.length tc].toArray w0 fun v w' => ∃ x, v = .tuple ⟨[x, .bool (decide (labE st nx lb.length fr t = 0))]⟩ ∧
      Own w' w0.heap.size 4 Non x (if labE st nx lb.length fr t = 0 then boolsN nx.length (ctlF nx lb fr t) else []) ∧ Ext w0 w' := by
  refine Rt.enter2 Tryz.func11 Tryz.ntmps11 rfl rfl ?_
  (repeat (first | (apply CW.seq) | (apply CW.region)))
  refine WL.boxB rfl rfl rfl fun w1 hb1 e1 => ?_
  skip
  refine WL.boxB rfl rfl rfl fun w2 hb2 e2 => ?_
  have hb1 := hb1.ext e2
  have hE := e1.trans e2
  (repeat (first | (apply WL.pure; rfl; rfl; rfl) | (apply WL.nil) | (apply EX.thenN) | (apply CW.seq) | (apply CW.region) | (apply WL.ldA; rfl; rfl; rfl; assumption; rfl)))
  refine WL.call rfl rfl rfl (Label_ok w2 (h1.up hE) (h2.up hE) (h3.up hE) (h4.up hE) (ht.up hE) hT) ?_
  rintro _ w3 ⟨x, rfl, hx, e3⟩
  have hd : (labE st nx lb.length fr t == 0) = decide (labE st nx lb.length fr t = 0) := rfl
  (repeat (first | (apply WL.pure; rfl; rfl; rfl) | (apply WL.nil) | (apply EX.thenN) | (apply CW.seq) | (apply CW.region) | (apply CW.ret)))
  refine EX.ret2 rfl rfl rfl ⟨x, ?_, hx.low hE.size, hE.trans e3⟩
  rw [hd]
theorem known_law {j : Nat} : ¬ egP [[1, 0], [0, 1]] [[0], [1]] (fun i => ¬ ctlF [[1, 0], [0, 1]] [1, 2] [[0], [1]] (.mk 3 1 []) i) j := by
  rintro ⟨r, _, h, ha⟩
  obtain ⟨i, _, hi⟩ := h.2 (fun x => ((x : Nat) : Int) ∈ ([1] : List Int)) (by simp [setPs]) 0
  have h1 : r i = 1 := by have := List.mem_singleton.1 hi; omega
  have := ha i
  rw [h1] at this
  exact this (show ([1, 2] : List Nat).getD 1 0 >>> (1 : Int).toNat &&& 1 = 1 by decide)
theorem known_val : boolsN 2 (ctlF [[1, 0], [0, 1]] [1, 2] [[0], [1]] (.mk 13 0 [.mk 12 0 [.mk 3 1 []]])) = [true, true] := by
  have h : ∀ n, ctlF [[1, 0], [0, 1]] [1, 2] [[0], [1]] (.mk 13 0 [.mk 12 0 [.mk 3 1 []]]) n := fun n => by
    show ¬ euP [[1, 0], [0, 1]] [[0], [1]] (fun _ => True) (fun j => ¬ ¬ egP [[1, 0], [0, 1]] [[0], [1]] (fun i => ¬ ctlF [[1, 0], [0, 1]] [1, 2] [[0], [1]] (.mk 3 1 []) i) j) n
    exact euP_none (fun j hj => hj known_law)
  refine (boolsN_of (l := [true, true]) rfl fun i hi => ?_).symm
  refine ⟨fun _ => h i, fun _ => ?_⟩
  have hi : i < 2 := hi
  rcases (show i = 0 ∨ i = 1 by omega) with rfl | rfl <;> rfl
theorem known_ok (w0 : World) : Rt Tryz.prog 4 [].toArray w0 fun v w' => v = .bool true ∧ Ext w0 w' := by
  refine Rt.enter0 Tryz.func4 Tryz.ntmps4 rfl ?_
  (repeat (first | (apply WL.pure; rfl; rfl; rfl) | (apply WL.nil) | (apply EX.thenN) | (apply CW.seq) | (apply CW.region)))
  refine WL.call rfl rfl rfl (wturns_okL w0) ?_
  rintro _ w1 ⟨⟨a1, c1, a2, c2, a3, c3, a4, c4, rfl, h1, h2, h3, h4⟩, e1⟩
  skip
  refine WL.call rfl rfl rfl (mk_catom w1 1) ?_
  rintro va w2 ⟨ha, e2⟩
  skip
  refine WL.call rfl rfl rfl (mk_cone w2 12 ha) ?_
  rintro vb w3 ⟨hb, e3⟩
  skip
  refine WL.call rfl rfl rfl (mk_cone w3 13 hb) ?_
  rintro vc w4 ⟨hc, e4⟩
  obtain ⟨to, tc, rfl, ht⟩ := Rd.ltl hc
  have hx := e2.trans (e3.trans e4)
  skip
  refine WL.call rfl rfl rfl (labels_ok w4 (st := [(0 : Int)]) (nx := [[(1 : Int), 0], [0, 1]]) (lb := [(1 : Nat), 2]) (fr := [[(0 : Int)], [1]]) (h1.up hx) (h2.up hx) (h3.up hx) (h4.up hx) ht (by decide)) ?_
  rintro _ w5 ⟨x, rfl, hxo, e5⟩
  have hz : labE [(0 : Int)] [[(1 : Int), 0], [0, 1]] 2 [[(0 : Int)], [1]] (.mk 13 0 [.mk 12 0 [.mk 3 1 []]]) = 0 := by
    unfold labE
    rw [if_neg (by decide)]
    simp [chkC, chkCL, kidsC]
  have hz' : labE [(0 : Int)] [[(1 : Int), 0], [0, 1]] ([(1 : Nat), 2] : List Nat).length [[(0 : Int)], [1]] (.mk 13 0 [.mk 12 0 [.mk 3 1 []]]) = 0 := hz
  rw [if_pos hz'] at hxo
  rw [decide_eq_true hz']
  have hkv : boolsN ([[(1 : Int), 0], [0, 1]] : Graph).length (ctlF [[(1 : Int), 0], [0, 1]] [(1 : Nat), 2] [[(0 : Int)], [1]] (.mk 13 0 [.mk 12 0 [.mk 3 1 []]])) = [true, true] := known_val
  rw [hkv] at hxo
  obtain ⟨xo, xc, rfl, hxs⟩ := hxo.asSl
  (repeat (first | (apply WL.pure; rfl; rfl; rfl) | (apply WL.nil) | (apply EX.thenN) | (apply CW.seq) | (apply CW.region)))
  refine WL.litR [true, true] rfl rfl rfl rfl rfl (.cons (Rd.mkBool _ _ _) (.cons (Rd.mkBool _ _ _) .nil)) (by decide) (fun yv w6 e6 hy _ => ?_)
  obtain ⟨yo, yc, rfl, hys⟩ := hy.sl
  skip
  refine WL.call rfl rfl rfl (equal_bool w6 (xs := [true, true]) (ys := [true, true]) (hxs.up e6) hys) ?_
  rintro _ w7 ⟨rfl, e7⟩
  (repeat (first | (apply WL.pure; rfl; rfl; rfl) | (apply WL.nil) | (apply EX.thenN) | (apply CW.ret)))
  exact EX.ret1 rfl rfl ⟨rfl, e1.trans (hx.trans (e5.trans (e6.trans e7)))⟩
end Go.Proofs.YtllpfgcngokhnaaGreat

