/-
  GameTokens: walked.
-/
import Derived.Test.YthefpigolikmeaaGameL2
set_option linter.unusedVariables false
set_option linter.unusedSimpArgs false
namespace Go.Proofs.Ythefpigolikmeaa
open Go.RowKit

theorem sum_range {m : List Int} (h : ∀ j : Nat, 0 ≤ m.getD j 0 ∧ m.getD j 0 ≤ 9) : ∀ i, i ≤ m.length → 0 ≤ (m.take i).sum ∧ (m.take i).sum ≤ 9 * (i : Int)
  | 0, _ => by simp
  | i + 1, hi => by
    have ih := sum_range h i (by omega)
    have hj := h i
    rw [getDm_at (by omega)] at hj
    rw [← List.take_append_getElem (by omega), List.sum_append, List.sum_cons, List.sum_nil]
    omega
theorem sumOf_ok (w : World) {mo : Option Addr} {mc : Nat} {m : List Int} (hm : Sl w (Old w) mo mc m) (h09 : ∀ j : Nat, 0 ≤ m.getD j 0 ∧ m.getD j 0 ≤ 9) (hl : m.length ≤ 30) :
    Rt Try.prog 60 [.slice mo m.length mc].toArray w fun v w' => v = .int .i64 m.sum ∧ Ext w w' := by
  refine Rt.enter1 Try.func60 Try.ntmps60 rfl rfl ?_
  (repeat (first | (apply WL.pure; rfl; rfl; rfl) | (apply WL.nil) | (apply EX.thenN) | (apply CW.seq) | (apply CW.region) | (apply WL.lenS; rfl; rfl; rfl) | (apply CW.block)))
  refine CW.loop (S := Nat) (fun i => [(3, .int .i64 (m.take i).sum), (6, .slice mo m.length mc), (7, .int .i64 m.length), (8, .int .i64 i)])
    (fun i w' => i ≤ m.length ∧ Ext w w') (fun i => m.length - i) 0 (by repeat (first | exact trivial | refine ⟨rfl, ?_⟩)) ⟨Nat.zero_le _, Ext.refl _⟩ ?_
  rintro i w1 ⟨hi, e1⟩
  (repeat (first | (apply WL.pure; rfl; rfl; rfl) | (apply WL.nil) | (apply EX.thenN) | (apply CW.seq) | (apply CW.region)))
  refine CW.cond rfl (fun h => ?_) (fun h => ?_)
  · have hi' : i < m.length := by simp at h; omega
    have h1 := sum_range h09 i hi
    have hj := h09 i
    rw [getDm_at hi'] at hj
    have hs : (m.take (i + 1)).sum = (m.take i).sum + m[i] := by rw [← List.take_append_getElem hi', List.sum_append, List.sum_cons, List.sum_nil]; omega
    (repeat (first | (apply EX.thenN) | (apply CW.seq) | (apply CW.region) | (apply CW.block) | (apply CW.skip)))
    refine WL.elemI rfl rfl rfl rfl rfl (hm.up e1) hi' rfl (fun _ => rfl) (fun q => ?_)
    (repeat (first | (apply WL.add; rfl; rfl; rfl; rfl; omega; omega) | (apply WL.pure; rfl; rfl; rfl) | (apply WL.nil) | (apply EX.thenN) | (apply CW.region) | (apply EX.inN)))
    rw [← hs]
    exact EX.back (i + 1) (by repeat (first | exact trivial | refine ⟨rfl, ?_⟩)) ⟨hi', e1⟩ (by omega)
  · obtain rfl : i = m.length := by simp at h; omega
    rw [List.take_length]
    (repeat (first | (apply WL.pure; rfl; rfl; rfl) | (apply WL.nil) | (apply EX.thenN) | (apply CW.seq) | (apply CW.region) | (apply CW.exit) | (apply EX.thenX) | (apply EX.inX) | (apply CW.ret)))
    exact EX.ret1 rfl rfl ⟨rfl, e1⟩
theorem straight_fire : fireE straightP [1, 0] 0 = ([0, 1], 0) := by
  have hz : (stepsE straightP).2 = 0 := by rw [straight_steps]
  have hl : stepsL straightP = [(1, 0, 1), (2, 1, 0)] := by decide
  have hm : chkM straightP [1, 0] = 0 := markOk_chk hz ⟨rfl, fun j => by
    rcases j with _ | _ | j
    · decide
    · decide
    · exact ⟨Int.le_refl _, (by decide : (0 : Int) ≤ 9)⟩⟩
  unfold fireE
  rw [if_neg (by simp [hm]), hl, if_neg (by decide), if_neg (by decide)]
  decide
theorem getDG_atM {l : List (List Int)} {j : Nat} (h : j < l.length) : l.getD j [] = l[j] := by rw [List.getD_eq_getElem?_getD, List.getElem?_eq_getElem h]; rfl
theorem steps_at {p : LProc} {k : Int} (h0 : 0 ≤ k) (h1 : k < (stepsL p).length) : ∃ n, n < p.1.length ∧ (stepsL p).getD k.toNat (0, 0, 0) ∈ stepsN p n := by
  rw [stepsL_at (by omega)]
  exact stepsP_mem.1 (List.getElem_mem _)
theorem putN_range {n : Int} : ∀ c : Nat, 0 ≤ putN n 0 c ∧ putN n 0 c ≤ c
  | 0 => by simp [putN]
  | c + 1 => by
    have := putN_range (n := n) c
    have := bitK_01 n c
    rw [putN_last]; omega
set_option maxRecDepth 100000 in
theorem GameTokens_ok (w0 : World) {so fo dO : Option Addr} {sc fc dc : Nat} {ns : List LNode} {fl : List LFlow} {dice : List Int} (hs : Sl w0 (Old w0) so sc ns) (hf : Sl w0 (Old w0) fo fc fl) (hd : Sl w0 (Old w0) dO dc dice) (hdl : dice.length ≤ 1048576) :
    Rt Try.prog 12 [procV so sc fo fc ns.length fl.length, .slice dO dice.length dc].toArray w0 fun v w' => v = .bool true ∧ Ext w0 w' := by
  have hms := hs.len63
  have hmf := hf.len63
  refine Rt.enter2 Try.func12 Try.ntmps12 rfl rfl ?_
  have hE := Ext.refl w0
  (repeat (first | (apply CW.seq) | (apply CW.region)))
  refine WL.boxB rfl rfl rfl fun w1 hb1 e1 => ?_
  have hE := hE.trans e1
  (repeat (first | (apply WL.pure; rfl; rfl; rfl) | (apply WL.nil) | (apply EX.thenN) | (apply CW.seq) | (apply CW.region)))
  refine WL.call rfl rfl rfl (straight_ok w1) ?_
  rintro _ w2 ⟨⟨p1, q1, p2, q2, rfl, g1, g2⟩, e2⟩
  have hb1 := hb1.ext e2
  have hE := hE.trans e2
  skip
  refine WL.litR [(1 : Int), 0] rfl rfl rfl rfl rfl (.cons (Rd.mkInt _ _ _) (.cons (Rd.mkInt _ _ _) .nil)) (by decide) (fun v3 w3 e3 r3 _ => ?_)
  have hb1 := hb1.ext e3
  have hE := hE.trans e3
  obtain ⟨yo, yc, rfl, hys⟩ := r3.sl
  skip
  refine WL.call rfl rfl rfl (Fire_ok w3 (ns := straightP.1) (fl := straightP.2) (g1.up e3) (g2.up e3) hys 0) ?_
  rintro _ w4 ⟨x, rfl, hox, e4⟩
  rw [show ((straightP.1, straightP.2) : LProc) = straightP from rfl, straight_fire] at hox ⊢
  have hb1 := hb1.ext e4
  have hE := hE.trans e4
  obtain ⟨xo, xc, rfl, hxs⟩ := hox.oldN.sl
  (repeat (first | (apply WL.pure; rfl; rfl; rfl) | (apply WL.nil) | (apply EX.thenN) | (apply CW.seq) | (apply CW.region)))
  refine WL.litR [(0 : Int), 1] rfl rfl rfl rfl rfl (.cons (Rd.mkInt _ _ _) (.cons (Rd.mkInt _ _ _) .nil)) (by decide) (fun v5 w5 e5 r5 _ => ?_)
  have hb1 := hb1.ext e5
  have hE := hE.trans e5
  obtain ⟨zo, zc, rfl, hzs⟩ := r5.sl
  skip
  refine WL.call rfl rfl rfl (equal_int w5 (xs := [0, 1]) (ys := [0, 1]) (hxs.up e5) hzs) ?_
  rintro _ w6 ⟨rfl, e6⟩
  have hb1 := hb1.ext e6
  have hE := hE.trans e6
  rw [show (([0, 1] : List Int) == [0, 1]) = true by decide]
  clear e1 e2 e3 e4 e5 e6 hox hxs hys r3 r5 hzs g1 g2
  (repeat (first | (apply WL.pure; rfl; rfl; rfl) | (apply WL.nil) | (apply EX.thenN) | (apply CW.seq) | (apply CW.region) | (apply WL.ldA; rfl; rfl; rfl; assumption; rfl) | (apply CW.condF; rfl) | (apply CW.skip)))
  refine WL.call rfl rfl rfl (walked_ok w6 (hs.up hE) (hf.up hE) (hd.up hE) hdl) ?_
  rintro _ w7 ⟨mv, lv, rfl, hmv, hlv, e7⟩
  have hb1 := hb1.ext e7
  have hE := hE.trans e7
  (repeat (first | (apply WL.pure; rfl; rfl; rfl) | (apply WL.nil) | (apply EX.thenN) | (apply CW.seq) | (apply CW.region) | (apply WL.ldA; rfl; rfl; rfl; assumption; rfl)))
  refine WL.call rfl rfl rfl (Of_ok w7 (hs.up hE) (hf.up hE)) ?_
  rintro _ w8 ⟨x, rfl, hox, e8⟩
  have hb1 := hb1.ext e8
  have hE := hE.trans e8
  have hlaw := walked_law (p := (ns, fl)) dice
  have hnil : (walkedP (ns, fl) dice).1 = [] → (walkedP (ns, fl) dice).2 = [] := fun h => by
    unfold walkedP at h ⊢
    split at h
    · rename_i h1; rw [if_pos h1]
    · cases h
  obtain ⟨mo, mc, rfl, hms⟩ := hmv.sl
  obtain ⟨lo, lc, rfl, hls⟩ := hlv.sl
  have hms := hms.up e8
  have hls := hls.up e8
  have hml := hms.len63
  have hll := hls.len63
  generalize (walkedP (ns, fl) dice).1 = marks at *
  generalize (walkedP (ns, fl) dice).2 = l at *
  obtain ⟨ao, ac, rfl, has⟩ := hox.oldN.sl
  clear hmv hlv hox
  (repeat (first | (apply WL.pure; rfl; rfl; rfl) | (apply WL.nil) | (apply EX.thenN) | (apply CW.seq) | (apply CW.region) | (apply WL.lenS; rfl; rfl; rfl) | (apply CW.block)))
  refine CW.loop (S := Nat) (fun i => [(2, .pointer (some ⟨w0.heap.size, 0, none⟩)), (7, .slice mo marks.length mc), (9, .slice ao (stepsE (ns, fl)).1.length ac), (46, .slice lo l.length lc), (47, .int .i64 l.length), (48, .int .i64 i)])
    (fun i w => i ≤ l.length ∧ Ext w8 w) (fun i => l.length - i) 0 (by repeat (first | exact trivial | refine ⟨rfl, ?_⟩)) ⟨Nat.zero_le _, Ext.refl _⟩ ?_
  rintro i w9 ⟨hi, e9⟩
  have hb1 := hb1.ext e9
  have hE9 := hE.trans e9
  (repeat (first | (apply WL.pure; rfl; rfl; rfl) | (apply WL.nil) | (apply EX.thenN) | (apply CW.seq) | (apply CW.region)))
  refine CW.cond rfl (fun h => ?_) (fun h => ?_)
  · have hi' : i < l.length := by simp at h; omega
    have hne : marks ≠ [] := fun e => by rw [hnil e] at hi'; simp at hi'
    obtain ⟨hz, hlen, hst, hok⟩ := hlaw hne
    obtain ⟨hc0, hse, _⟩ := stepsE_ok hz
    have hpok := chkPr_ok hc0
    have hf30 := hpok.f
    dsimp only at hf30
    have hi0 : i < marks.length := by omega
    have hi1 : i + 1 < marks.length := by omega
    have hsti := hst i hi'
    rw [getDm_at hi', getDG_atM hi0, getDG_atM hi1] at hsti
    have hma := hok _ (List.getElem_mem hi0)
    have hmb := hok _ (List.getElem_mem hi1)
    have hk0 := hsti.1
    have hk1 := hsti.2.1
    obtain ⟨n, hn, hsn⟩ := steps_at hk0 hk1
    dsimp only at hn
    have hsum := step_sum hma hsti hn hsn
    rw [kindAt_at hn] at hsum
    have hil : (insL fl (n : Int)).length ≤ fl.length := insP_len
    have hol : (outsL fl (n : Int)).length ≤ fl.length := outsP_len
    have q1 := stepsK_node _ hsn
    have q3 := stepsK_out _ hsn
    have hp30 := pow_le2 (show (outsL fl (n : Int)).length ≤ 30 by omega)
    have hp31 : (2 : Int) ^ 30 = 1073741824 := by decide
    have hle : listE (ns, fl) (n : Int) = 0 := listE_ok hc0 hn
    obtain ⟨kn, ek⟩ := Int.eq_ofNat_of_zero_le hk0
    rw [ek, Int.toNat_natCast] at hsum hsn q1 q3
    have hkn : kn < (stepsL (ns, fl)).length := by omega
    rw [stepsL_at hkn] at hsum hsn q1 q3
    have hs9 := (hms.up e9)
    have hbs1 := sum_range hma.2 marks[i].length (Nat.le_refl _)
    have hbs2 := sum_range hmb.2 marks[i + 1].length (Nat.le_refl _)
    rw [List.take_length] at hbs1 hbs2
    have hl1 : marks[i].length ≤ 30 := by have := hma.1; dsimp only at this; omega
    have hl2 : marks[i + 1].length ≤ 30 := by have := hmb.1; dsimp only at this; omega
    rw [hse] at has ⊢
    clear hst hsti hlaw hok hnil hse hsn
    obtain ⟨s, hsdef⟩ : ∃ s, s = (stepsL (ns, fl))[kn] := ⟨_, rfl⟩
    rw [← hsdef] at hsum q1 q3
    (repeat (first | (apply WL.pure; rfl; rfl; rfl) | (apply EX.thenN) | (apply CW.seq) | (apply CW.region) | (apply CW.block) | (apply CW.skip)))
    refine WL.elemI rfl rfl rfl rfl rfl (hls.up e9) hi' ek (fun _ => rfl) (fun q => ?_)
    (repeat (first | (apply WL.pure; rfl; rfl; rfl) | (apply WL.nil) | (apply EX.thenN) | (apply CW.seq) | (apply CW.region)))
    refine WL.elemN rfl rfl rfl rfl rfl (has.up e9) hkn (fun _ => rfl) (fun u q hu => ?_)
    rw [hu.step, ← hsdef]
    clear hu hsdef
    obtain ⟨s1, s2, s3⟩ := s
    dsimp only at q1 q3 hsum
    subst q1
    have hput := putN_range (n := s3) (outsL fl (n : Int)).length
    unfold stV
    dsimp only
    skip
    refine WL.alloc rfl rfl (fun w10 hb13 e10 => ?_)
    skip
    refine WL.st rfl rfl rfl hb13 rfl rfl (ones_of rfl) (fun w11 hb13 hg11 => ?_)
    have e11 : Ext w9 w11 := e10.grown hg11 e10.size (fun g hg => by cases hg; exact Nat.le_refl _)
    have hb1 := hb1.ext e11
    have hE11 := hE9.trans e11
    (repeat (first | (apply WL.nil) | (apply EX.thenN) | (apply CW.seq) | (apply CW.region) | (apply WL.fa; rfl; rfl; rfl) | (apply WL.ld; rfl; rfl; rfl; assumption; rfl) | (apply WL.ldA; rfl; rfl; rfl; assumption; rfl)))
    refine WL.call rfl rfl rfl (Ins_ok w11 (hs.up hE11) (hf.up hE11) (n : Int)) ?_
    rintro _ w12 ⟨x, rfl, hox, e12⟩
    rw [hle, if_pos rfl] at hox
    rw [hle]
    have hb1 := hb1.ext e12
    have hb13 := hb13.ext e12
    have hE12 := hE11.trans e12
    obtain ⟨xo, xc, rfl, hxs⟩ := hox.oldN.sl
    (repeat (first | (apply WL.pure; rfl; rfl; rfl) | (apply WL.nil) | (apply EX.thenN) | (apply CW.seq) | (apply CW.region) | (apply WL.fa; rfl; rfl; rfl) | (apply WL.ld; rfl; rfl; rfl; assumption; rfl) | (apply WL.ldA; rfl; rfl; rfl; assumption; rfl)))
    refine WL.call rfl rfl rfl (Outs_ok w12 (hs.up hE12) (hf.up hE12) (n : Int)) ?_
    rintro _ w13 ⟨x, rfl, hoy, e13⟩
    rw [hle, if_pos rfl] at hoy
    rw [hle]
    have hb1 := hb1.ext e13
    have hb13 := hb13.ext e13
    have hE13 := hE12.trans e13
    have e13 : Ext w8 w13 := ((e9.trans e11).trans e12).trans e13
    obtain ⟨yo, yc, rfl, hys⟩ := hoy.oldN.sl
    clear hox hoy hxs e10 e12
    generalize (insL fl (n : Int)).length = il at *
    generalize (outsL fl (n : Int)).length = ol at *
    obtain ⟨nb, off, rfl, hnb, hnc⟩ := (hs.at hE13).nodeK hn
    (repeat (apply WL.pure; rfl; rfl; rfl))
    apply WL.nil
    apply EX.thenN
    apply CW.seq
    apply CW.region
    (repeat (apply WL.pure; rfl; rfl; rfl))
    apply WL.nil
    apply EX.thenN
    generalize ns[n].2 = k at *
    by_cases h7 : k = 7
    · (repeat (first | (apply CW.seq) | (apply CW.region) | (apply WL.fa; rfl; rfl; rfl) | (apply WL.ld; rfl; rfl; rfl; assumption; rfl)))
      refine WL.idx (α := LNode) rfl rfl rfl rfl (by omega) (by omega) ?_
      (repeat (apply WL.fa; rfl; rfl; rfl))
      refine WL.load (α := Int) (F := Non) (y := k) rfl rfl rfl (by rw [Int.toNat_natCast]; exact hnc) rfl ?_
      rw [show vOf Int [.int .i64 k] = .int .i64 k from rfl]
      subst h7
      (repeat (first | (apply WL.add; rfl; rfl; rfl; rfl; omega; omega) | (apply WL.pure; rfl; rfl; rfl) | (apply WL.nil) | (apply EX.thenN) | (apply CW.seq) | (apply CW.region) | (apply CW.block) | (apply CW.condT; rfl) | (apply CW.condF; rfl) | (apply CW.exit) | (apply EX.thenX) | (apply EX.inX) | (apply EX.inXne; rfl) | (apply CW.skip)))
      exact EX.back (i + 1) (by repeat (first | exact trivial | refine ⟨rfl, ?_⟩)) ⟨hi', e13⟩ (by omega)
    by_cases h3 : k = 3
    · (repeat (first | (apply CW.seq) | (apply CW.region) | (apply WL.fa; rfl; rfl; rfl) | (apply WL.ld; rfl; rfl; rfl; assumption; rfl)))
      refine WL.idx (α := LNode) rfl rfl rfl rfl (by omega) (by omega) ?_
      (repeat (apply WL.fa; rfl; rfl; rfl))
      refine WL.load (α := Int) (F := Non) (y := k) rfl rfl rfl (by rw [Int.toNat_natCast]; exact hnc) rfl ?_
      rw [show vOf Int [.int .i64 k] = .int .i64 k from rfl]
      subst h3
      (repeat (first | (apply WL.add; rfl; rfl; rfl; rfl; omega; omega) | (apply WL.pure; rfl; rfl; rfl) | (apply WL.nil) | (apply EX.thenN) | (apply CW.seq) | (apply CW.region) | (apply CW.block) | (apply CW.condT; rfl) | (apply CW.condF; rfl) | (apply CW.exit) | (apply EX.thenX) | (apply EX.inX) | (apply EX.inXne; rfl)))
      exact EX.back (i + 1) (by repeat (first | exact trivial | refine ⟨rfl, ?_⟩)) ⟨hi', e13⟩ (by omega)
    have hsum := hsum h7 h3
    refine CW.cut [(2, .pointer (some ⟨w0.heap.size, 0, none⟩)), (7, .slice mo marks.length mc), (9, .slice ao (stepsL (ns, fl)).length ac), (11, .int .i64 i), (13, .pointer (some ⟨w9.heap.size, 0, none⟩)), (16, .slice yo ol yc), (18, .int .i64 (if k = 6 then (il : Int) else 1)), (19, .int .i64 0), (46, .slice lo l.length lc), (47, .int .i64 l.length), (48, .int .i64 i)] ?_ ?_
    · (repeat (first | (apply CW.seq) | (apply CW.region) | (apply WL.fa; rfl; rfl; rfl) | (apply WL.ld; rfl; rfl; rfl; assumption; rfl)))
      refine WL.idx (α := LNode) rfl rfl rfl rfl (by omega) (by omega) ?_
      (repeat (apply WL.fa; rfl; rfl; rfl))
      refine WL.load (α := Int) (F := Non) (y := k) rfl rfl rfl (by rw [Int.toNat_natCast]; exact hnc) rfl ?_
      rw [show vOf Int [.int .i64 k] = .int .i64 k from rfl]
      by_cases h6 : k = 6
      · subst h6
        (repeat (first | (apply WL.pure; rfl; rfl; rfl) | (apply WL.nil) | (apply EX.thenN) | (apply CW.seq) | (apply CW.region) | (apply WL.lenS; rfl; rfl; rfl) | (apply CW.block) | (apply EX.inN) | (apply CW.condT; rfl)))
        exact EX.cut (by repeat (first | exact trivial | refine ⟨rfl, ?_⟩))
      · rw [if_neg h6]
        have b6 : (k == 6) = false := by simpa using h6
        have b7 : (k == 7) = false := by simpa using h7
        have b3 : (k == 3) = false := by simpa using h3
        (repeat (first | (apply WL.pure; rfl; rfl; rfl) | (apply WL.nil) | (apply EX.thenN) | (apply CW.seq) | (apply CW.region) | (apply CW.block)))
        rw [b6]
        (repeat (first | (apply WL.pure; rfl; rfl; rfl) | (apply WL.nil) | (apply EX.thenN) | (apply CW.seq) | (apply CW.region) | (apply CW.condF; rfl)))
        rw [b7]
        (repeat (first | (apply WL.pure; rfl; rfl; rfl) | (apply WL.nil) | (apply EX.thenN) | (apply CW.region) | (apply CW.condF; rfl)))
        rw [b3]
        (repeat (first | (apply EX.inN) | (apply CW.condF; rfl) | (apply CW.skip)))
        exact EX.cut (by repeat (first | exact trivial | refine ⟨rfl, ?_⟩))
    have htk0 : 0 ≤ (if k = 6 then (il : Int) else 1) ∧ (if k = 6 then (il : Int) else 1) ≤ 30 := by split <;> omega
    generalize (if k = 6 then (il : Int) else 1) = tk at *
    have hs30 : s3 < 4611686018427387904 := by omega
    (repeat (first | (apply WL.pure; rfl; rfl; rfl) | (apply WL.nil) | (apply EX.thenN) | (apply CW.seq) | (apply CW.region) | (apply WL.lenS; rfl; rfl; rfl) | (apply CW.block)))
    refine CW.loop (S := Nat) (fun b => [(2, .pointer (some ⟨w0.heap.size, 0, none⟩)), (7, .slice mo marks.length mc), (9, .slice ao (stepsL (ns, fl)).length ac), (11, .int .i64 i), (13, .pointer (some ⟨w9.heap.size, 0, none⟩)), (18, .int .i64 tk), (19, .int .i64 (putN s3 0 b)), (46, .slice lo l.length lc), (47, .int .i64 l.length), (48, .int .i64 i), (86, .int .i64 ol), (87, .int .i64 b)])
      (fun b w => b ≤ ol ∧ Ext w13 w) (fun b => ol - b) 0 (by repeat (first | exact trivial | refine ⟨rfl, ?_⟩)) ⟨Nat.zero_le _, Ext.refl _⟩ ?_
    rintro b w14 ⟨hb, e14⟩
    have hb13 := hb13.ext e14
    have hpb := putN_range (n := s3) b
    (repeat (first | (apply WL.pure; rfl; rfl; rfl) | (apply WL.nil) | (apply EX.thenN) | (apply CW.seq) | (apply CW.region)))
    refine CW.cond rfl (fun h => ?_) (fun h => ?_)
    · have hb' : b < ol := by simp at h; omega
      have hbit := bitK_and (k := b) q3.1 hs30
      have hb01 := bitK_01 s3 b
      have hlast := putN_last (n := s3) (c := b)
      (repeat (first | (apply WL.pure; rfl; rfl; rfl) | (apply WL.nil) | (apply EX.thenN) | (apply CW.seq) | (apply CW.region) | (apply WL.fa; rfl; rfl; rfl) | (apply WL.ld; rfl; rfl; rfl; assumption; rfl) | (apply CW.block) | (apply CW.skip)))
      refine WL.shrZ (s := b) rfl rfl rfl rfl (by omega) ?_
      (repeat (first | (apply WL.add; rfl; rfl; rfl; rfl; omega; omega) | (apply WL.pure; rfl; rfl; rfl) | (apply WL.nil) | (apply EX.thenN) | (apply CW.region) | (apply EX.inN)))
      rw [hbit, ← hlast]
      exact EX.back (b + 1) (by repeat (first | exact trivial | refine ⟨rfl, ?_⟩)) ⟨hb', e14⟩ (by omega)
    · obtain rfl : b = ol := by simp at h; omega
      have e14' := e13.trans e14
      have hE14 := hE.trans e14'
      have hms14 := hms.up e14'
      (repeat (first | (apply QL.add; rfl; rfl; rfl; rfl; omega; omega) | (apply QL.pure; rfl; rfl; rfl) | (apply EX.thenN) | (apply CW.seq) | (apply CW.exit) | (apply EX.thenX) | (apply EX.inX) | (apply CW.draw; exact mixed; kernel_rfl)))
      refine QL.elemN (i := i + 1) rfl rfl rfl rfl rfl (fun _ h => h) hms14 hi1 (fun _ => rfl) (fun u q' hu => ?_)
      obtain ⟨ua, uc, rfl, hus⟩ := hu.sl
      refine QL.call rfl rfl rfl (fun w hw => sumOf_ok w (hus.up hw) hmb.2 hl2) ?_
      (repeat (apply QL.pure; rfl; rfl; rfl))
      refine QL.elemN (i := i) rfl rfl rfl rfl rfl (fun _ h => h) hms14 hi0 (fun _ => rfl) (fun u q' hu => ?_)
      obtain ⟨ua', uc', rfl, hus'⟩ := hu.sl
      refine QL.call rfl rfl rfl (fun w hw => sumOf_ok w (hus'.up hw) hma.2 hl1) ?_
      (repeat (first | (apply QL.add; rfl; rfl; rfl; rfl; omega; omega) | (apply QL.sub'; rfl; rfl; rfl; rfl; omega; omega) | (apply QL.pure; rfl; rfl; rfl)))
      refine QL.nil (fun w15 e15 => ?_)
      have hb : (marks[i + 1].sum != marks[i].sum - tk + putN s3 0 b) = false := by rw [hsum]; simp
      rw [hb]
      (repeat (first | (apply WL.add; rfl; rfl; rfl; rfl; omega; omega) | (apply WL.pure; rfl; rfl; rfl) | (apply WL.nil) | (apply EX.thenN) | (apply CW.region) | (apply EX.inN) | (apply CW.condF; rfl) | (apply CW.skip)))
      exact EX.back (i + 1) (by repeat (first | exact trivial | refine ⟨rfl, ?_⟩)) ⟨hi', e14'.trans e15⟩ (by omega)
  · (repeat (first | (apply WL.pure; rfl; rfl; rfl) | (apply WL.nil) | (apply EX.thenN) | (apply CW.seq) | (apply CW.region) | (apply CW.exit) | (apply EX.thenX) | (apply EX.inX) | (apply CW.ret)))
    exact EX.ret1 rfl rfl ⟨rfl, hE9⟩
end Go.Proofs.Ythefpigolikmeaa
