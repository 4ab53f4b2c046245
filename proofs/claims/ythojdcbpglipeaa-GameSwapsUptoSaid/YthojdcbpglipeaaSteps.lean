/-
  Package steps: of, Of: walked.
-/
import Derived.Test.YthojdcbpglipeaaStepsPl
import Derived.Test.YthojdcbpglipeaaProc3
set_option linter.unusedVariables false
set_option linter.unusedSimpArgs false
namespace Go.Proofs.Ythojdcbpglipeaa
open Go.RowKit

theorem shl1W {s : Nat} (hs : s < 62) : IntKind.i64.wrap (1 * 2 ^ min ((s : Int)).toNat IntKind.i64.bits) = (2 : Int) ^ s := by
  have h1 : min s (IntKind.bits .i64) = s := by show min s 64 = s; omega
  have h2 := pow_lt2 (show s < 62 by omega)
  have h3 := pow_pos2 s
  simp only [Int.toNat_natCast, h1, Int.one_mul]
  rw [wrap_in (by omega) (by omega)]
theorem Cells.tl' {w : World} {b o : Nat} {x : Value} {r : List Value} (h : Cells w b o (x :: r)) : Cells w b (o + 1) r := fun j u hu => by
  have := h (j + 1) u (by simpa using hu)
  rwa [show o + (j + 1) = o + 1 + j by omega] at this
theorem Sl.nodeK {w : World} {F : Nat → Prop} {ao : Option Addr} {cap : Nat} {xs : List LNode} (h : Sl w F ao cap xs) {i : Nat} (hi : i < xs.length) : ∃ b off, ao = some ⟨b, off, none⟩ ∧ F b ∧ Cells w b (off + i * 2 + 1) [.int .i64 xs[i].2] := by
  obtain ⟨b, off, e, hb, es, hc, hr⟩ := h.el i hi
  obtain ⟨c1, c2, rfl, h1, h2⟩ := rd_pr hr
  have h1' := h1.1
  subst h1'
  rw [rd_int h2] at hc
  exact ⟨b, off, e, hb, hc.tl'⟩
theorem rdSt (w : World) (F : Nat → Prop) (a b c : Int) : Rd w F (.agg [.int .i64 a, .int .i64 b, .int .i64 c].toArray) ((a, b, c) : LStep) := Rd.mkPr (c1 := [.int .i64 a]) (c2 := [.int .i64 b, .int .i64 c]) (rd_mkInt _ _ _) (rd_mk (rd_mkInt _ _ _) (rd_mkInt _ _ _))
theorem take_map_next {α β : Type} (f : α → β) {l : List α} {i : Nat} (h : i < l.length) : (l.take (i + 1)).map f = (l.take i).map f ++ [f l[i]] := by
  rw [← List.take_append_getElem h, List.map_append]; rfl
instance iSteps1 : Flat LStep := ⟨fun h => h⟩
set_option maxHeartbeats 1000000 in
theorem of_ok (w0 : World) {so fo : Option Addr} {sc fc : Nat} {ns : List LNode} {fl : List LFlow} (hs : Sl w0 (Old w0) so sc ns) (hf : Sl w0 (Old w0) fo fc fl) (hc0 : chkPr (ns, fl) = 0) {n : Nat} (hn : n < ns.length) :
    Rt Try.prog 97 [procV so sc fo fc ns.length fl.length, .int .i64 (n : Int)].toArray w0 fun v w' => Own w' w0.heap.size 84 Non v (stepsN (ns, fl) n) ∧ Ext w0 w' := by
  have hok := chkPr_ok hc0
  have hf30 := hok.f
  dsimp only at hf30
  have hle : listE (ns, fl) (n : Int) = 0 := by
    unfold listE
    rw [if_neg (by simp [hc0]), if_neg (by dsimp only; omega)]
  have hkk : kindAt (ns, fl) n = ns[n].2 := by unfold kindAt; rw [getDNd_at hn]
  have h7 : ns[n].2 = 7 → (outsL fl (n : Int)).length ≤ 4 := fun h => okPr_outs hok hn (by rw [hkk]; exact h)
  have hil : (insL fl (n : Int)).length ≤ fl.length := insP_len
  have hol : (outsL fl (n : Int)).length ≤ fl.length := outsP_len
  have hstN : stepsN (ns, fl) n = stepsK ns[n].2 (n : Int) (insL fl (n : Int)) (outsL fl (n : Int)).length := by unfold stepsN; rw [hkk]
  rw [hstN]
  refine Rt.enter2 Try.func97 Try.ntmps97 rfl rfl ?_
  have hE := Ext.refl w0
  (repeat (first | (apply CW.seq) | (apply CW.region)))
  refine WL.boxB rfl rfl rfl fun w1 hb2 e1 => ?_
  have hE := hE.trans e1
  (repeat (first | (apply WL.pure; rfl; rfl; rfl) | (apply WL.nil) | (apply EX.thenN) | (apply CW.seq) | (apply CW.region) | (apply WL.ldA; rfl; rfl; rfl; assumption; rfl)))
  refine WL.call rfl rfl rfl (Ins_ok w1 (hs.up hE) (hf.up hE) (n : Int)) ?_
  rintro _ w2 ⟨x, rfl, hox, e2⟩
  rw [hle, if_pos rfl] at hox
  have hb2 := hb2.ext e2
  have hE := hE.trans e2
  obtain ⟨xo, xc, rfl, hxs⟩ := hox.oldN.sl
  (repeat (first | (apply WL.pure; rfl; rfl; rfl) | (apply WL.nil) | (apply EX.thenN) | (apply CW.seq) | (apply CW.region) | (apply WL.ldA; rfl; rfl; rfl; assumption; rfl)))
  refine WL.call rfl rfl rfl (Outs_ok w2 (hs.up hE) (hf.up hE) (n : Int)) ?_
  rintro _ w3 ⟨y, rfl, hoy, e3⟩
  rw [hle, if_pos rfl] at hoy
  have hb2 := hb2.ext e3
  have hE := hE.trans e3
  have hxs := hxs.up e3
  obtain ⟨yo, yc, rfl, hys⟩ := hoy.oldN.sl
  clear hox hoy e1 e2 e3 hle hstN hc0 hkk
  generalize insL fl (n : Int) = ins at *
  generalize (outsL fl (n : Int)).length = o at *
  have z3 := hE.size
  (repeat (first | (apply WL.pure; rfl; rfl; rfl) | (apply WL.nil) | (apply EX.thenN) | (apply CW.seq) | (apply CW.region) | (apply WL.lenS; rfl; rfl; rfl) | (apply WL.fa; rfl; rfl; rfl) | (apply WL.ld; rfl; rfl; rfl; assumption; rfl)))
  rw [shl1W (show o < 62 by omega)]
  obtain ⟨po, hpo⟩ : ∃ po, po = (2 : Int) ^ o := ⟨_, rfl⟩
  have hp1 := pow_pos2 o
  have hp2 := pow_le2 (show o ≤ 30 by omega)
  have hp3 : (2 : Int) ^ 30 = 1073741824 := by decide
  rw [← hpo] at hp1 hp2 ⊢
  rw [wrap_in (show -9223372036854775808 ≤ po - 1 by omega) (by omega)]
  obtain ⟨nb, off, rfl, hnb, hnc⟩ := (hs.at hE).nodeK hn
  skip
  refine WL.idx (α := LNode) rfl rfl rfl rfl (by omega) (by omega) ?_
  (repeat (apply WL.fa; rfl; rfl; rfl))
  refine WL.load (α := Int) (F := Non) (y := ns[n].2) rfl rfl rfl (by rw [Int.toNat_natCast]; exact hnc) rfl ?_
  rw [show vOf Int [.int .i64 ns[n].2] = .int .i64 ns[n].2 from rfl]
  generalize ns[n].2 = k at *
  clear hnc hnb
  skip
  apply WL.nil
  apply EX.thenN
  apply CW.block
  refine CW.cut [(1, .int .i64 (n : Int)), (5, .slice xo ins.length xc), (7, .slice yo o yc), (9, .int .i64 (po - 1)), (10, .slice none 0 0), (38, .int .i64 k), (39, .bool (decide (k = 4 ∨ k = 2 ∨ k = 3)))] ?_ ?_
  · (repeat (first | (apply WL.pure; rfl; rfl; rfl) | (apply WL.nil) | (apply EX.thenN) | (apply CW.seq) | (apply CW.region)))
    by_cases h4 : k = 4
    · subst h4
      (repeat (first | (apply CW.condT; rfl) | (apply CW.skip)))
      exact EX.cut (by repeat (first | exact trivial | refine ⟨rfl, ?_⟩))
    have b4 : (k == 4) = false := by simpa using h4
    rw [b4]
    (repeat (first | (apply WL.pure; rfl; rfl; rfl) | (apply WL.nil) | (apply EX.thenN) | (apply CW.seq) | (apply CW.region) | (apply CW.condF; rfl)))
    by_cases h2 : k = 2
    · subst h2
      (repeat (first | (apply CW.condT; rfl) | (apply CW.skip)))
      exact EX.cut (by repeat (first | exact trivial | refine ⟨rfl, ?_⟩))
    have b2 : (k == 2) = false := by simpa using h2
    rw [b2]
    (repeat (first | (apply WL.pure; rfl; rfl; rfl) | (apply WL.nil) | (apply CW.region) | (apply CW.condF; rfl)))
    rw [show decide (k = 4 ∨ k = 2 ∨ k = 3) = (k == 3) by rw [Bool.eq_iff_iff]; simp [h4, h2]]
    exact EX.cut (by repeat (first | exact trivial | refine ⟨rfl, ?_⟩))
  by_cases hd : k = 4 ∨ k = 2 ∨ k = 3
  · have hst : stepsK k (n : Int) ins o = ins.map fun f => ((n : Int), f, po - 1) := by unfold stepsK; rw [if_pos hd, hpo]
    rw [hst, decide_eq_true hd]
    (repeat (first | (apply WL.pure; rfl; rfl; rfl) | (apply WL.nil) | (apply EX.thenN) | (apply CW.seq) | (apply CW.region) | (apply WL.lenS; rfl; rfl; rfl) | (apply CW.block) | (apply CW.condT; rfl)))
    refine CW.loop (S := Nat × Value) (fun s => [(1, .int .i64 (n : Int)), (9, .int .i64 (po - 1)), (10, s.2), (43, .slice xo ins.length xc), (44, .int .i64 ins.length), (45, .int .i64 s.1)])
      (fun s w => s.1 ≤ ins.length ∧ Own w w3.heap.size 84 Non s.2 ((ins.take s.1).map fun f => (((n : Int), f, po - 1) : LStep)) ∧ Ext w3 w) (fun s => ins.length - s.1) (0, .slice none 0 0) (by repeat (first | exact trivial | refine ⟨rfl, ?_⟩)) ⟨Nat.zero_le _, Own.nil, Ext.refl _⟩ ?_
    rintro ⟨i, ov⟩ w4 ⟨hi, ho, e4⟩
    dsimp only at hi ho ⊢
    (repeat (first | (apply WL.pure; rfl; rfl; rfl) | (apply WL.nil) | (apply EX.thenN) | (apply CW.seq) | (apply CW.region)))
    refine CW.cond rfl (fun h => ?_) (fun h => ?_)
    · have hi' : i < ins.length := by simp at h; omega
      have hnext := take_map_next (fun f => (((n : Int), f, po - 1) : LStep)) hi'
      (repeat (first | (apply EX.thenN) | (apply CW.seq) | (apply CW.region) | (apply CW.block) | (apply CW.skip)))
      refine WL.elemI rfl rfl rfl rfl rfl (hxs.up e4) hi' rfl (fun _ => rfl) (fun q => ?_)
      (repeat (first | (apply WL.pure; rfl; rfl; rfl) | (apply WL.nil) | (apply EX.thenN) | (apply CW.region)))
      refine WL.build rfl rfl rfl rfl ?_
      refine WL.app1 (F := Non) (yv := (((n : Int), ins[i], po - 1) : LStep)) rfl rfl (fun _ => rfl) rfl rfl (fun _ => rfl) ho (rdSt _ _ _ _ _) e4.size (fun _ h => h.elim) (by decide) (by rw [List.length_map, List.length_take]; unfold maxLen; omega) (by rw [List.length_map, List.length_take]; omega) (fun v' w5 p ho5 hg5 hnb => ?_)
      rw [← hnext] at ho5
      have e5 : Ext w3 w5 := e4.grown hg5 e4.size (fun b hb => (ho.lt b hb).1)
      (repeat (first | (apply WL.add; rfl; rfl; rfl; rfl; omega; omega) | (apply WL.pure; rfl; rfl; rfl) | (apply WL.nil) | (apply EX.thenN) | (apply CW.region) | (apply EX.inN)))
      exact EX.back (i + 1, v') (by repeat (first | exact trivial | refine ⟨rfl, ?_⟩)) ⟨hi', ho5, e5⟩ (by dsimp only; omega)
    · obtain rfl : i = ins.length := by simp at h; omega
      rw [List.take_length] at ho
      (repeat (first | (apply WL.pure; rfl; rfl; rfl) | (apply WL.nil) | (apply EX.thenN) | (apply CW.seq) | (apply CW.region) | (apply EX.inN) | (apply CW.exit) | (apply EX.thenX) | (apply EX.inX) | (apply CW.ret)))
      exact EX.ret1 rfl rfl ⟨ho.low z3, hE.trans e4⟩
  rw [decide_eq_false hd]
  (repeat (first | (apply WL.pure; rfl; rfl; rfl) | (apply WL.nil) | (apply EX.thenN) | (apply CW.seq) | (apply CW.region) | (apply CW.condF; rfl)))
  by_cases h5 : k = 5
  · subst h5
    have hst : stepsK 5 (n : Int) ins o = ins.flatMap fun f => (List.range o).map fun k : Nat => ((n : Int), f, (2 : Int) ^ k) := by unfold stepsK; rw [if_neg hd, if_pos rfl]
    rw [hst]
    have hflen : ∀ l : List Int, (l.flatMap fun f => (List.range o).map fun k : Nat => (((n : Int), f, (2 : Int) ^ k) : LStep)).length = l.length * o := fun l => by
      induction l with
      | nil => simp
      | cons a l ih => rw [List.flatMap_cons, List.length_append, ih]; simp [Nat.add_mul]; omega
    (repeat (first | (apply WL.pure; rfl; rfl; rfl) | (apply WL.nil) | (apply EX.thenN) | (apply CW.seq) | (apply CW.region) | (apply WL.lenS; rfl; rfl; rfl) | (apply CW.block) | (apply CW.condT; rfl)))
    refine CW.loop (S := Nat × Value) (fun s => [(1, .int .i64 (n : Int)), (7, .slice yo o yc), (10, s.2), (59, .slice xo ins.length xc), (60, .int .i64 ins.length), (61, .int .i64 s.1)])
      (fun s w => s.1 ≤ ins.length ∧ Own w w3.heap.size 84 Non s.2 ((ins.take s.1).flatMap fun f => (List.range o).map fun k : Nat => (((n : Int), f, (2 : Int) ^ k) : LStep)) ∧ Ext w3 w) (fun s => ins.length - s.1) (0, .slice none 0 0) (by repeat (first | exact trivial | refine ⟨rfl, ?_⟩)) ⟨Nat.zero_le _, Own.nil, Ext.refl _⟩ ?_
    rintro ⟨i, ov⟩ w4 ⟨hi, ho, e4⟩
    dsimp only at hi ho ⊢
    (repeat (first | (apply WL.pure; rfl; rfl; rfl) | (apply WL.nil) | (apply EX.thenN) | (apply CW.seq) | (apply CW.region)))
    refine CW.cond rfl (fun h => ?_) (fun h => ?_)
    · have hi' : i < ins.length := by simp at h; omega
      have hfl1 := hflen (ins.take i)
      rw [List.length_take, Nat.min_eq_left hi] at hfl1
      have hmul : i * o ≤ 30 * 30 := Nat.mul_le_mul (by omega) (by omega)
      generalize hbase : ((ins.take i).flatMap fun f => (List.range o).map fun k : Nat => (((n : Int), f, (2 : Int) ^ k) : LStep)) = base at ho hfl1
      (repeat (first | (apply EX.thenN) | (apply CW.seq) | (apply CW.region) | (apply CW.block) | (apply CW.skip)))
      refine WL.elemI rfl rfl rfl rfl rfl (hxs.up e4) hi' rfl (fun _ => rfl) (fun q => ?_)
      (repeat (first | (apply WL.pure; rfl; rfl; rfl) | (apply WL.nil) | (apply EX.thenN) | (apply CW.seq) | (apply CW.region) | (apply WL.lenS; rfl; rfl; rfl) | (apply CW.block)))
      refine CW.loop (S := Nat × Value) (fun s => [(1, .int .i64 (n : Int)), (7, .slice yo o yc), (10, s.2), (14, .int .i64 ins[i]), (59, .slice xo ins.length xc), (60, .int .i64 ins.length), (61, .int .i64 i), (66, .int .i64 o), (67, .int .i64 s.1)])
        (fun s w => s.1 ≤ o ∧ Own w w3.heap.size 84 Non s.2 (base ++ (List.range s.1).map fun k : Nat => (((n : Int), ins[i], (2 : Int) ^ k) : LStep)) ∧ Ext w3 w) (fun s => o - s.1) (0, ov) (by repeat (first | exact trivial | refine ⟨rfl, ?_⟩)) ⟨Nat.zero_le _, by simpa using ho, e4⟩ ?_
      rintro ⟨j, ov⟩ w5 ⟨hj, ho, e5⟩
      dsimp only at hj ho ⊢
      (repeat (first | (apply WL.pure; rfl; rfl; rfl) | (apply WL.nil) | (apply EX.thenN) | (apply CW.seq) | (apply CW.region)))
      refine CW.cond rfl (fun h => ?_) (fun h => ?_)
      · have hj' : j < o := by simp at h; omega
        (repeat (first | (apply WL.pure; rfl; rfl; rfl) | (apply WL.nil) | (apply EX.thenN) | (apply CW.seq) | (apply CW.region) | (apply CW.block) | (apply CW.skip)))
        rw [shl1W (show j < 62 by omega)]
        refine WL.build rfl rfl rfl rfl ?_
        refine WL.app1 (F := Non) (yv := (((n : Int), ins[i], (2 : Int) ^ j) : LStep)) rfl rfl (fun _ => rfl) rfl rfl (fun _ => rfl) ho (rdSt _ _ _ _ _) e5.size (fun _ h => h.elim) (by decide) (by rw [List.length_append, List.length_map, List.length_range]; unfold maxLen; omega) (by rw [List.length_append, List.length_map, List.length_range]; omega) (fun v' w6 p ho6 hg6 hnb => ?_)
        have e6 : Ext w3 w6 := e5.grown hg6 e5.size (fun b hb => (ho.lt b hb).1)
        (repeat (first | (apply WL.add; rfl; rfl; rfl; rfl; omega; omega) | (apply WL.pure; rfl; rfl; rfl) | (apply WL.nil) | (apply EX.thenN) | (apply CW.region) | (apply EX.inN)))
        refine EX.back (j + 1, v') (by repeat (first | exact trivial | refine ⟨rfl, ?_⟩)) ⟨hj', ?_, e6⟩ (by dsimp only; omega)
        dsimp only
        rw [List.range_succ, List.map_append, ← List.append_assoc]
        exact ho6
      · obtain rfl : j = o := by simp at h; omega
        (repeat (first | (apply WL.add; rfl; rfl; rfl; rfl; omega; omega) | (apply WL.pure; rfl; rfl; rfl) | (apply WL.nil) | (apply EX.thenN) | (apply CW.region) | (apply EX.inN) | (apply CW.exit) | (apply EX.thenX) | (apply EX.inX)))
        refine EX.back (i + 1, ov) (by repeat (first | exact trivial | refine ⟨rfl, ?_⟩)) ⟨hi', ?_, e5⟩ (by dsimp only; omega)
        dsimp only
        rw [← List.take_append_getElem hi', List.flatMap_append, hbase]
        simpa using ho
    · obtain rfl : i = ins.length := by simp at h; omega
      rw [List.take_length] at ho
      (repeat (first | (apply WL.pure; rfl; rfl; rfl) | (apply WL.nil) | (apply EX.thenN) | (apply CW.seq) | (apply CW.region) | (apply EX.inN) | (apply CW.exit) | (apply EX.thenX) | (apply EX.inX) | (apply CW.ret)))
      exact EX.ret1 rfl rfl ⟨ho.low z3, hE.trans e4⟩
  have b5 : (k == 5) = false := by simpa using h5
  rw [b5]
  (repeat (first | (apply WL.pure; rfl; rfl; rfl) | (apply WL.nil) | (apply EX.thenN) | (apply CW.seq) | (apply CW.region) | (apply CW.condF; rfl)))
  by_cases h6 : k = 6
  · subst h6
    have hst : stepsK 6 (n : Int) ins o = [((n : Int), -1, po - 1)] := by unfold stepsK; rw [if_neg hd, if_neg h5, if_pos rfl, hpo]
    rw [hst]
    (repeat (first | (apply WL.pure; rfl; rfl; rfl) | (apply CW.region) | (apply CW.condT; rfl)))
    refine WL.build rfl rfl rfl rfl ?_
    refine WL.app1 (F := Non) (B := w3.heap.size) (xs := []) (yv := (((n : Int), -1, po - 1) : LStep)) rfl rfl (fun _ => rfl) rfl rfl (fun _ => rfl) Own.nil (rdSt _ _ _ _ _) (Nat.le_refl _) (fun _ h => h.elim) (by decide) (by simp [maxLen]) (by simp) (fun v' w6 p ho6 hg6 hnb => ?_)
    have e6 : Ext w3 w6 := (Ext.refl _).grown hg6 (Nat.le_refl _) (fun b hb => by cases hb)
    (repeat (first | (apply WL.pure; rfl; rfl; rfl) | (apply WL.nil) | (apply EX.thenN) | (apply CW.seq) | (apply CW.region) | (apply EX.inN) | (apply CW.ret)))
    exact EX.ret1 rfl rfl ⟨ho6.low z3, hE.trans e6⟩
  have b6 : (k == 6) = false := by simpa using h6
  rw [b6]
  (repeat (first | (apply WL.pure; rfl; rfl; rfl) | (apply WL.nil) | (apply EX.thenN) | (apply CW.seq) | (apply CW.region) | (apply CW.condF; rfl)))
  by_cases h7' : k = 7
  · subst h7'
    have ho4 := h7 rfl
    have hst : stepsK 7 (n : Int) ins o = (List.range (2 ^ o - 1)).map fun k : Nat => ((n : Int), -1, (k : Int) + 1) := by unfold stepsK; rw [if_neg hd, if_neg h5, if_neg h6, if_pos rfl]
    rw [hst]
    have hpn : po = ((2 ^ o : Nat) : Int) := by rw [hpo]; push_cast; rfl
    have hN1 := Nat.one_le_two_pow (n := o)
    have hN2 : 2 ^ o ≤ 2 ^ 4 := Nat.pow_le_pow_right (by omega) ho4
    obtain ⟨N, hN⟩ : ∃ N, N = 2 ^ o := ⟨_, rfl⟩
    rw [← hN] at hpn hN1 hN2 ⊢
    have hN3 : N ≤ 16 := by have : 2 ^ 4 = 16 := by decide
                            omega
    (repeat (first | (apply WL.pure; rfl; rfl; rfl) | (apply WL.nil) | (apply EX.thenN) | (apply CW.seq) | (apply CW.region) | (apply CW.block) | (apply CW.condT; rfl)))
    refine CW.loop (S := Nat × Value) (fun s => [(1, .int .i64 (n : Int)), (9, .int .i64 (po - 1)), (10, s.2), (16, .int .i64 ((s.1 : Int) + 1))])
      (fun s w => s.1 ≤ N - 1 ∧ Own w w3.heap.size 84 Non s.2 ((List.range s.1).map fun k : Nat => (((n : Int), -1, (k : Int) + 1) : LStep)) ∧ Ext w3 w) (fun s => N - s.1) (0, .slice none 0 0) (by repeat (first | exact trivial | refine ⟨rfl, ?_⟩)) ⟨Nat.zero_le _, Own.nil, Ext.refl _⟩ ?_
    rintro ⟨i, ov⟩ w4 ⟨hi, ho, e4⟩
    dsimp only at hi ho ⊢
    (repeat (first | (apply WL.pure; rfl; rfl; rfl) | (apply WL.nil) | (apply EX.thenN) | (apply CW.seq) | (apply CW.region)))
    refine CW.cond rfl (fun h => ?_) (fun h => ?_)
    · have hi' : i < N - 1 := by simp at h; omega
      (repeat (first | (apply WL.pure; rfl; rfl; rfl) | (apply EX.thenN) | (apply CW.seq) | (apply CW.region) | (apply CW.block) | (apply CW.skip)))
      refine WL.build rfl rfl rfl rfl ?_
      refine WL.app1 (F := Non) (yv := (((n : Int), -1, (i : Int) + 1) : LStep)) rfl rfl (fun _ => rfl) rfl rfl (fun _ => rfl) ho (rdSt _ _ _ _ _) e4.size (fun _ h => h.elim) (by decide) (by rw [List.length_map, List.length_range]; unfold maxLen; omega) (by rw [List.length_map, List.length_range]; omega) (fun v' w5 p ho5 hg5 hnb => ?_)
      have e5 : Ext w3 w5 := e4.grown hg5 e4.size (fun b hb => (ho.lt b hb).1)
      (repeat (first | (apply WL.add; rfl; rfl; rfl; rfl; omega; omega) | (apply WL.pure; rfl; rfl; rfl) | (apply WL.nil) | (apply EX.thenN) | (apply CW.region) | (apply EX.inN)))
      refine EX.back (i + 1, v') (by repeat (first | exact trivial | refine ⟨rfl, ?_⟩)) ⟨by dsimp only; omega, ?_, e5⟩ (by dsimp only; omega)
      dsimp only
      rw [List.range_succ, List.map_append]
      exact ho5
    · obtain rfl : i = N - 1 := by simp at h; omega
      (repeat (first | (apply WL.pure; rfl; rfl; rfl) | (apply WL.nil) | (apply EX.thenN) | (apply CW.seq) | (apply CW.region) | (apply EX.inN) | (apply CW.exit) | (apply EX.thenX) | (apply EX.inX) | (apply CW.ret)))
      exact EX.ret1 rfl rfl ⟨ho.low z3, hE.trans e4⟩
  have b7 : (k == 7) = false := by simpa using h7'
  rw [b7]
  have hst : stepsK k (n : Int) ins o = [] := by unfold stepsK; rw [if_neg hd, if_neg h5, if_neg h6, if_neg h7']
  rw [hst]
  (repeat (first | (apply WL.pure; rfl; rfl; rfl) | (apply WL.nil) | (apply EX.thenN) | (apply CW.seq) | (apply CW.region) | (apply EX.inN) | (apply CW.condF; rfl) | (apply CW.ret) | (apply CW.skip)))
  exact EX.ret1 rfl rfl ⟨Own.nil, hE⟩
theorem Of_ok (w0 : World) {so fo : Option Addr} {sc fc : Nat} {ns : List LNode} {fl : List LFlow} (hs : Sl w0 (Old w0) so sc ns) (hf : Sl w0 (Old w0) fo fc fl) :
    Rt Try.prog 41 [procV so sc fo fc ns.length fl.length].toArray w0 fun v w' => ∃ x, v = .tuple ⟨[x, .int .i64 (stepsE (ns, fl)).2]⟩ ∧ Own w' w0.heap.size 84 Non x (stepsE (ns, fl)).1 ∧ Ext w0 w' := by
  have hms := hs.len63
  refine Rt.enter1 Try.func41 Try.ntmps41 rfl rfl ?_
  have hE := Ext.refl w0
  (repeat (first | (apply CW.seq) | (apply CW.region)))
  refine WL.boxB rfl rfl rfl fun w1 hb1 e1 => ?_
  have hE := hE.trans e1
  unfold stepsE
  (repeat (first | (apply WL.pure; rfl; rfl; rfl) | (apply WL.nil) | (apply EX.thenN) | (apply CW.seq) | (apply CW.region) | (apply WL.ldA; rfl; rfl; rfl; assumption; rfl)))
  refine WL.call rfl rfl rfl (Check_pr w1 (hs.up hE) (hf.up hE)) ?_
  rintro _ w2 ⟨rfl, e2⟩
  have hb1 := hb1.ext e2
  have hE := hE.trans e2
  (repeat (first | (apply WL.pure; rfl; rfl; rfl) | (apply WL.nil) | (apply EX.thenN) | (apply CW.seq) | (apply CW.region)))
  refine CW.cond rfl (fun h => ?_) (fun h => ?_)
  · have h : chkPr (ns, fl) ≠ 0 := by simpa using h
    (repeat (first | (apply WL.pure; rfl; rfl; rfl) | (apply WL.nil) | (apply EX.thenN) | (apply CW.seq) | (apply CW.region) | (apply CW.ret) | (apply EX.thenR)))
    refine EX.ret2 rfl rfl rfl ⟨_, by rw [if_pos h], ?_, hE⟩
    rw [if_pos h]; exact Own.nil
  have hc0 : chkPr (ns, fl) = 0 := by simpa using h
  have hok := chkPr_ok hc0
  have hn20 := hok.n
  dsimp only at hn20
  rw [if_neg (by simp [hc0])]
  have z2 := hE.size
  (repeat (first | (apply WL.pure; rfl; rfl; rfl) | (apply WL.nil) | (apply EX.thenN) | (apply CW.seq) | (apply CW.region) | (apply WL.lenS; rfl; rfl; rfl) | (apply WL.fa; rfl; rfl; rfl) | (apply WL.ld; rfl; rfl; rfl; assumption; rfl) | (apply CW.block) | (apply CW.skip)))
  refine CW.loop (S := Nat × Value) (fun s => [(1, .pointer (some ⟨w0.heap.size, 0, none⟩)), (5, s.2), (14, .int .i64 ns.length), (15, .int .i64 s.1)])
    (fun s w => s.1 ≤ ns.length ∧ Own w w2.heap.size 84 Non s.2 (stepsP (ns, fl) s.1) ∧ Ext w2 w) (fun s => ns.length - s.1) (0, .slice none 0 0) (by repeat (first | exact trivial | refine ⟨rfl, ?_⟩)) ⟨Nat.zero_le _, Own.nil, Ext.refl _⟩ ?_
  rintro ⟨i, ov⟩ w3 ⟨hi, ho, e3⟩
  dsimp only at hi ho ⊢
  have hb3 := hb1.ext e3
  have hE3 := hE.trans e3
  have hlen := stepsP_len hok i hi
  (repeat (first | (apply WL.pure; rfl; rfl; rfl) | (apply WL.nil) | (apply EX.thenN) | (apply CW.seq) | (apply CW.region)))
  refine CW.cond rfl (fun h => ?_) (fun h => ?_)
  · have hi' : i < ns.length := by simp at h; omega
    have hlen2 := stepsP_len hok (i + 1) hi'
    rw [stepsP_next, List.length_append] at hlen2
    (repeat (first | (apply WL.pure; rfl; rfl; rfl) | (apply WL.nil) | (apply EX.thenN) | (apply CW.seq) | (apply CW.region) | (apply WL.ldA; rfl; rfl; rfl; assumption; rfl) | (apply CW.block) | (apply CW.skip)))
    refine WL.call rfl rfl rfl (of_ok w3 (hs.up hE3) (hf.up hE3) hc0 hi') ?_
    rintro sv w4 ⟨hos, e4⟩
    have ho := ho.extN e4
    have e4 := e3.trans e4
    obtain ⟨so', sc', rfl, hss⟩ := hos.oldN.sl
    skip
    refine WL.app (F := Non) rfl rfl rfl rfl ho hss.srcN e4.size (fun _ h => h.elim) (by unfold maxLen; omega) (by omega) (fun v' w5 ho5 hg5 _ => ?_)
    rw [← stepsP_next] at ho5
    have e5 : Ext w2 w5 := e4.grown hg5 e4.size (fun b hb => (ho.lt b hb).1)
    (repeat (first | (apply WL.add; rfl; rfl; rfl; rfl; omega; omega) | (apply WL.pure; rfl; rfl; rfl) | (apply WL.nil) | (apply EX.thenN) | (apply CW.region) | (apply EX.inN)))
    exact EX.back (i + 1, v') (by repeat (first | exact trivial | refine ⟨rfl, ?_⟩)) ⟨hi', ho5, e5⟩ (by dsimp only; omega)
  obtain rfl : i = ns.length := by simp at h; omega
  (repeat (first | (apply WL.pure; rfl; rfl; rfl) | (apply WL.nil) | (apply EX.thenN) | (apply CW.seq) | (apply CW.region) | (apply CW.exit) | (apply EX.thenX) | (apply EX.inX) | (refine WL.lenO rfl rfl rfl (by assumption) ?_)))
  refine CW.cond rfl (fun h => ?_) (fun h => ?_)
  · have h : (stepsL (ns, fl)).length > 60 := by simp at h; show (stepsP (ns, fl) ns.length).length > 60; omega
    (repeat (first | (apply WL.pure; rfl; rfl; rfl) | (apply WL.nil) | (apply EX.thenN) | (apply CW.seq) | (apply CW.region) | (apply CW.ret) | (apply EX.thenR)))
    refine EX.ret2 rfl rfl rfl ⟨_, by rw [if_pos h], ?_, hE3⟩
    rw [if_pos h]; exact Own.nil
  · have h : ¬ (stepsL (ns, fl)).length > 60 := by simp at h; show ¬ (stepsP (ns, fl) ns.length).length > 60; omega
    (repeat (first | (apply WL.pure; rfl; rfl; rfl) | (apply WL.nil) | (apply EX.thenN) | (apply CW.seq) | (apply CW.region) | (apply CW.ret) | (apply CW.skip)))
    refine EX.ret2 rfl rfl rfl ⟨_, by rw [if_neg h], ?_, hE3⟩
    rw [if_neg h]; exact ho.low z2
end Go.Proofs.Ythojdcbpglipeaa
