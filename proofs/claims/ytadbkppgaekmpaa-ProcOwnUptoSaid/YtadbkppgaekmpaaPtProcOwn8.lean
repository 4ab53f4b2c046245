import Derived.Laws.StructEq
import Derived.Test.YtadbkppgaekmpaaPtProcOwn7
/-
  Package steps: of, Of: walked.
-/
set_option linter.unusedVariables false
set_option linter.unusedSimpArgs false
namespace Go.Proofs.Ytadbkppgaekmpaa
open Go.RowKit

theorem shl1W {s : Nat} (hs : s < 62) : IntKind.i64.wrap (1 * 2 ^ min ((s : Int)).toNat IntKind.i64.bits) = (2 : Int) ^ s := by
  have h1 : min s (IntKind.bits .i64) = s := by show min s 64 = s; omega
  have h2 := pow_lt2 (show s < 62 by omega)
  have h3 := pow_pos2 s
  simp only [Int.toNat_natCast, h1, Int.one_mul]
  rw [wrap_in (by omega) (by omega)]
theorem Cells.tl' {w : World} {b o : Nat} {x : Value} {r : List Value} (h : Cells w b o (x :: r)) : Cells w b (o + 1) r := fun j u hu => by
  have := h (j + 1) u (by simpa using hu)
  rwa [show o + (j + 1) = o + 1 + j by omega] at this
theorem Sl.nodeK {w : World} {F : Nat → Prop} {ao : Option Addr} {cap : Nat} {xs : List LNode} (h : Sl w F ao cap xs) {i : Nat} (hi : i < xs.length) : ∃ b off, ao = some ⟨b, off, none⟩ ∧ F b ∧ Cells w b (off + i * 2 + 1) [.int .i64 xs[i].2] := by
  obtain ⟨b, off, e, hb, es, hc, hr⟩ := h.el i hi
  obtain ⟨c1, c2, rfl, h1, h2⟩ := rd_pr hr
  have h1' := h1.1
  subst h1'
  rw [rd_int h2] at hc
  exact ⟨b, off, e, hb, hc.tl'⟩
theorem rdSt (w : World) (F : Nat → Prop) (a b c : Int) : Rd w F (.agg [.int .i64 a, .int .i64 b, .int .i64 c].toArray) ((a, b, c) : LStep) := Rd.mkPr (c1 := [.int .i64 a]) (c2 := [.int .i64 b, .int .i64 c]) (rd_mkInt _ _ _) (rd_mk (rd_mkInt _ _ _) (rd_mkInt _ _ _))
theorem take_map_next {α β : Type} (f : α → β) {l : List α} {i : Nat} (h : i < l.length) : (l.take (i + 1)).map f = (l.take i).map f ++ [f l[i]] := by
  rw [← List.take_append_getElem h, List.map_append]; rfl
instance iSteps1 : Flat LStep := ⟨fun h => h⟩
set_option maxHeartbeats 1000000 in
theorem of_ok (w0 : World) {so fo : Option Addr} {sc fc : Nat} {ns : List LNode} {fl : List LFlow} (hs : Sl w0 (Old w0) so sc ns) (hf : Sl w0 (Old w0) fo fc fl) (hc0 : chkPr (ns, fl) = 0) {n : Nat} (hn : n < ns.length) :
    Rt Try.prog 101 [procV so sc fo fc ns.length fl.length, .int .i64 (n : Int)].toArray w0 fun v w' => Own w' w0.heap.size 92 Non v (stepsN (ns, fl) n) ∧ Ext w0 w' := by
  have hok := chkPr_ok hc0
  have hf30 := hok.f
  dsimp only at hf30
  have hle : listE (ns, fl) (n : Int) = 0 := by
    unfold listE
    rw [if_neg (by simp [hc0]), if_neg (by dsimp only; omega)]
  have hkk : kindAt (ns, fl) n = ns[n].2 := by unfold kindAt; rw [getDNd_at hn]
  have h7 : ns[n].2 = 7 → (outsL fl (n : Int)).length ≤ 4 := fun h => okPr_outs hok hn (by rw [hkk]; exact h)
  have hil : (insL fl (n : Int)).length ≤ fl.length := insP_len
  have hol : (outsL fl (n : Int)).length ≤ fl.length := outsP_len
  have hstN : stepsN (ns, fl) n = stepsK ns[n].2 (n : Int) (insL fl (n : Int)) (outsL fl (n : Int)).length := by unfold stepsN; rw [hkk]
  rw [hstN]
  refine Rt.enter2 Try.func101 Try.ntmps101 rfl rfl ?_
  have hE := Ext.refl w0
  (repeat (first | (apply CW.seq) | (apply CW.region)))
  refine WL.boxB rfl rfl rfl fun w1 hb2 e1 => ?_
  have hE := hE.trans e1
  (repeat (first | (apply WL.pure; rfl; rfl; rfl) | (apply WL.nil) | (apply EX.thenN) | (apply CW.seq) | (apply CW.region) | (apply WL.ldA; rfl; rfl; rfl; assumption; rfl)))
  refine WL.call rfl rfl rfl (Ins_ok w1 (hs.up hE) (hf.up hE) (n : Int)) ?_
  rintro _ w2 ⟨x, rfl, hox, e2⟩
  rw [hle, if_pos rfl] at hox
  have hb2 := hb2.ext e2
  have hE := hE.trans e2
  obtain ⟨xo, xc, rfl, hxs⟩ := hox.oldN.sl
  (repeat (first | (apply WL.pure; rfl; rfl; rfl) | (apply WL.nil) | (apply EX.thenN) | (apply CW.seq) | (apply CW.region) | (apply WL.ldA; rfl; rfl; rfl; assumption; rfl)))
  refine WL.call rfl rfl rfl (Outs_ok w2 (hs.up hE) (hf.up hE) (n : Int)) ?_
  rintro _ w3 ⟨y, rfl, hoy, e3⟩
  rw [hle, if_pos rfl] at hoy
  have hb2 := hb2.ext e3
  have hE := hE.trans e3
  have hxs := hxs.up e3
  obtain ⟨yo, yc, rfl, hys⟩ := hoy.oldN.sl
  clear hox hoy e1 e2 e3 hle hstN hc0 hkk
  generalize insL fl (n : Int) = ins at *
  generalize (outsL fl (n : Int)).length = o at *
  have z3 := hE.size
  (repeat (first | (apply WL.pure; rfl; rfl; rfl) | (apply WL.nil) | (apply EX.thenN) | (apply CW.seq) | (apply CW.region) | (apply WL.lenS; rfl; rfl; rfl) | (apply WL.fa; rfl; rfl; rfl) | (apply WL.ld; rfl; rfl; rfl; assumption; rfl)))
  rw [shl1W (show o < 62 by omega)]
  obtain ⟨po, hpo⟩ : ∃ po, po = (2 : Int) ^ o := ⟨_, rfl⟩
  have hp1 := pow_pos2 o
  have hp2 := pow_le2 (show o ≤ 30 by omega)
  have hp3 : (2 : Int) ^ 30 = 1073741824 := by decide
  rw [← hpo] at hp1 hp2 ⊢
  rw [wrap_in (show -9223372036854775808 ≤ po - 1 by omega) (by omega)]
  obtain ⟨nb, off, rfl, hnb, hnc⟩ := (hs.at hE).nodeK hn
  skip
  refine WL.idx (α := LNode) rfl rfl rfl rfl (by omega) (by omega) ?_
  (repeat (apply WL.fa; rfl; rfl; rfl))
  refine WL.load (α := Int) (F := Non) (y := ns[n].2) rfl rfl rfl (by rw [Int.toNat_natCast]; exact hnc) rfl ?_
  rw [show vOf Int [.int .i64 ns[n].2] = .int .i64 ns[n].2 from rfl]
  generalize ns[n].2 = k at *
  clear hnc hnb
  skip
  apply WL.nil
  apply EX.thenN
  apply CW.block
  refine CW.cut [(1, .int .i64 (n : Int)), (5, .slice xo ins.length xc), (7, .slice yo o yc), (9, .int .i64 (po - 1)), (10, .slice none 0 0), (38, .int .i64 k), (39, .bool (decide (k = 4 ∨ k = 2 ∨ k = 3)))] ?_ ?_
  · (repeat (first | (apply WL.pure; rfl; rfl; rfl) | (apply WL.nil) | (apply EX.thenN) | (apply CW.seq) | (apply CW.region)))
    by_cases h4 : k = 4
    · subst h4
      (repeat (first | (apply CW.condT; rfl) | (apply CW.skip)))
      exact EX.cut (by repeat (first | exact trivial | refine ⟨rfl, ?_⟩))
    have b4 : (k == 4) = false := by simpa using h4
    rw [b4]
    (repeat (first | (apply WL.pure; rfl; rfl; rfl) | (apply WL.nil) | (apply EX.thenN) | (apply CW.seq) | (apply CW.region) | (apply CW.condF; rfl)))
    by_cases h2 : k = 2
    · subst h2
      (repeat (first | (apply CW.condT; rfl) | (apply CW.skip)))
      exact EX.cut (by repeat (first | exact trivial | refine ⟨rfl, ?_⟩))
    have b2 : (k == 2) = false := by simpa using h2
    rw [b2]
    (repeat (first | (apply WL.pure; rfl; rfl; rfl) | (apply WL.nil) | (apply CW.region) | (apply CW.condF; rfl)))
    rw [show decide (k = 4 ∨ k = 2 ∨ k = 3) = (k == 3) by rw [Bool.eq_iff_iff]; simp [h4, h2]]
    exact EX.cut (by repeat (first | exact trivial | refine ⟨rfl, ?_⟩))
  by_cases hd : k = 4 ∨ k = 2 ∨ k = 3
  · have hst : stepsK k (n : Int) ins o = ins.map fun f => ((n : Int), f, po - 1) := by unfold stepsK; rw [if_pos hd, hpo]
    rw [hst, decide_eq_true hd]
    (repeat (first | (apply WL.pure; rfl; rfl; rfl) | (apply WL.nil) | (apply EX.thenN) | (apply CW.seq) | (apply CW.region) | (apply WL.lenS; rfl; rfl; rfl) | (apply CW.block) | (apply CW.condT; rfl)))
    refine CW.loop (S := Nat × Value) (fun s => [(1, .int .i64 (n : Int)), (9, .int .i64 (po - 1)), (10, s.2), (43, .slice xo ins.length xc), (44, .int .i64 ins.length), (45, .int .i64 s.1)])
      (fun s w => s.1 ≤ ins.length ∧ Own w w3.heap.size 92 Non s.2 ((ins.take s.1).map fun f => (((n : Int), f, po - 1) : LStep)) ∧ Ext w3 w) (fun s => ins.length - s.1) (0, .slice none 0 0) (by repeat (first | exact trivial | refine ⟨rfl, ?_⟩)) ⟨Nat.zero_le _, Own.nil, Ext.refl _⟩ ?_
    rintro ⟨i, ov⟩ w4 ⟨hi, ho, e4⟩
    dsimp only at hi ho ⊢
    (repeat (first | (apply WL.pure; rfl; rfl; rfl) | (apply WL.nil) | (apply EX.thenN) | (apply CW.seq) | (apply CW.region)))
    refine CW.cond rfl (fun h => ?_) (fun h => ?_)
    · have hi' : i < ins.length := by simp at h; omega
      have hnext := take_map_next (fun f => (((n : Int), f, po - 1) : LStep)) hi'
      (repeat (first | (apply EX.thenN) | (apply CW.seq) | (apply CW.region) | (apply CW.block) | (apply CW.skip)))
      refine WL.elemI rfl rfl rfl rfl rfl (hxs.up e4) hi' rfl (fun _ => rfl) (fun q => ?_)
      (repeat (first | (apply WL.pure; rfl; rfl; rfl) | (apply WL.nil) | (apply EX.thenN) | (apply CW.region)))
      refine WL.build rfl rfl rfl rfl ?_
      refine WL.app1 (F := Non) (yv := (((n : Int), ins[i], po - 1) : LStep)) rfl rfl (fun _ => rfl) rfl rfl (fun _ => rfl) ho (rdSt _ _ _ _ _) e4.size (fun _ h => h.elim) (by decide) (by rw [List.length_map, List.length_take]; unfold maxLen; omega) (by rw [List.length_map, List.length_take]; omega) (fun v' w5 p ho5 hg5 hnb => ?_)
      rw [← hnext] at ho5
      have e5 : Ext w3 w5 := e4.grown hg5 e4.size (fun b hb => (ho.lt b hb).1)
      (repeat (first | (apply WL.add; rfl; rfl; rfl; rfl; omega; omega) | (apply WL.pure; rfl; rfl; rfl) | (apply WL.nil) | (apply EX.thenN) | (apply CW.region) | (apply EX.inN)))
      exact EX.back (i + 1, v') (by repeat (first | exact trivial | refine ⟨rfl, ?_⟩)) ⟨hi', ho5, e5⟩ (by dsimp only; omega)
    · obtain rfl : i = ins.length := by simp at h; omega
      rw [List.take_length] at ho
      (repeat (first | (apply WL.pure; rfl; rfl; rfl) | (apply WL.nil) | (apply EX.thenN) | (apply CW.seq) | (apply CW.region) | (apply EX.inN) | (apply CW.exit) | (apply EX.thenX) | (apply EX.inX) | (apply CW.ret)))
      exact EX.ret1 rfl rfl ⟨ho.low z3, hE.trans e4⟩
  rw [decide_eq_false hd]
  (repeat (first | (apply WL.pure; rfl; rfl; rfl) | (apply WL.nil) | (apply EX.thenN) | (apply CW.seq) | (apply CW.region) | (apply CW.condF; rfl)))
  by_cases h5 : k = 5
  · subst h5
    have hst : stepsK 5 (n : Int) ins o = ins.flatMap fun f => (List.range o).map fun k : Nat => ((n : Int), f, (2 : Int) ^ k) := by unfold stepsK; rw [if_neg hd, if_pos rfl]
    rw [hst]
    have hflen : ∀ l : List Int, (l.flatMap fun f => (List.range o).map fun k : Nat => (((n : Int), f, (2 : Int) ^ k) : LStep)).length = l.length * o := fun l => by
      induction l with
      | nil => simp
      | cons a l ih => rw [List.flatMap_cons, List.length_append, ih]; simp [Nat.add_mul]; omega
    (repeat (first | (apply WL.pure; rfl; rfl; rfl) | (apply WL.nil) | (apply EX.thenN) | (apply CW.seq) | (apply CW.region) | (apply WL.lenS; rfl; rfl; rfl) | (apply CW.block) | (apply CW.condT; rfl)))
    refine CW.loop (S := Nat × Value) (fun s => [(1, .int .i64 (n : Int)), (7, .slice yo o yc), (10, s.2), (59, .slice xo ins.length xc), (60, .int .i64 ins.length), (61, .int .i64 s.1)])
      (fun s w => s.1 ≤ ins.length ∧ Own w w3.heap.size 92 Non s.2 ((ins.take s.1).flatMap fun f => (List.range o).map fun k : Nat => (((n : Int), f, (2 : Int) ^ k) : LStep)) ∧ Ext w3 w) (fun s => ins.length - s.1) (0, .slice none 0 0) (by repeat (first | exact trivial | refine ⟨rfl, ?_⟩)) ⟨Nat.zero_le _, Own.nil, Ext.refl _⟩ ?_
    rintro ⟨i, ov⟩ w4 ⟨hi, ho, e4⟩
    dsimp only at hi ho ⊢
    (repeat (first | (apply WL.pure; rfl; rfl; rfl) | (apply WL.nil) | (apply EX.thenN) | (apply CW.seq) | (apply CW.region)))
    refine CW.cond rfl (fun h => ?_) (fun h => ?_)
    · have hi' : i < ins.length := by simp at h; omega
      have hfl1 := hflen (ins.take i)
      rw [List.length_take, Nat.min_eq_left hi] at hfl1
      have hmul : i * o ≤ 30 * 30 := Nat.mul_le_mul (by omega) (by omega)
      generalize hbase : ((ins.take i).flatMap fun f => (List.range o).map fun k : Nat => (((n : Int), f, (2 : Int) ^ k) : LStep)) = base at ho hfl1
      (repeat (first | (apply EX.thenN) | (apply CW.seq) | (apply CW.region) | (apply CW.block) | (apply CW.skip)))
      refine WL.elemI rfl rfl rfl rfl rfl (hxs.up e4) hi' rfl (fun _ => rfl) (fun q => ?_)
      (repeat (first | (apply WL.pure; rfl; rfl; rfl) | (apply WL.nil) | (apply EX.thenN) | (apply CW.seq) | (apply CW.region) | (apply WL.lenS; rfl; rfl; rfl) | (apply CW.block)))
      refine CW.loop (S := Nat × Value) (fun s => [(1, .int .i64 (n : Int)), (7, .slice yo o yc), (10, s.2), (14, .int .i64 ins[i]), (59, .slice xo ins.length xc), (60, .int .i64 ins.length), (61, .int .i64 i), (66, .int .i64 o), (67, .int .i64 s.1)])
        (fun s w => s.1 ≤ o ∧ Own w w3.heap.size 92 Non s.2 (base ++ (List.range s.1).map fun k : Nat => (((n : Int), ins[i], (2 : Int) ^ k) : LStep)) ∧ Ext w3 w) (fun s => o - s.1) (0, ov) (by repeat (first | exact trivial | refine ⟨rfl, ?_⟩)) ⟨Nat.zero_le _, by simpa using ho, e4⟩ ?_
      rintro ⟨j, ov⟩ w5 ⟨hj, ho, e5⟩
      dsimp only at hj ho ⊢
      (repeat (first | (apply WL.pure; rfl; rfl; rfl) | (apply WL.nil) | (apply EX.thenN) | (apply CW.seq) | (apply CW.region)))
      refine CW.cond rfl (fun h => ?_) (fun h => ?_)
      · have hj' : j < o := by simp at h; omega
        (repeat (first | (apply WL.pure; rfl; rfl; rfl) | (apply WL.nil) | (apply EX.thenN) | (apply CW.seq) | (apply CW.region) | (apply CW.block) | (apply CW.skip)))
        rw [shl1W (show j < 62 by omega)]
        refine WL.build rfl rfl rfl rfl ?_
        refine WL.app1 (F := Non) (yv := (((n : Int), ins[i], (2 : Int) ^ j) : LStep)) rfl rfl (fun _ => rfl) rfl rfl (fun _ => rfl) ho (rdSt _ _ _ _ _) e5.size (fun _ h => h.elim) (by decide) (by rw [List.length_append, List.length_map, List.length_range]; unfold maxLen; omega) (by rw [List.length_append, List.length_map, List.length_range]; omega) (fun v' w6 p ho6 hg6 hnb => ?_)
        have e6 : Ext w3 w6 := e5.grown hg6 e5.size (fun b hb => (ho.lt b hb).1)
        (repeat (first | (apply WL.add; rfl; rfl; rfl; rfl; omega; omega) | (apply WL.pure; rfl; rfl; rfl) | (apply WL.nil) | (apply EX.thenN) | (apply CW.region) | (apply EX.inN)))
        refine EX.back (j + 1, v') (by repeat (first | exact trivial | refine ⟨rfl, ?_⟩)) ⟨hj', ?_, e6⟩ (by dsimp only; omega)
        dsimp only
        rw [List.range_succ, List.map_append, ← List.append_assoc]
        exact ho6
      · obtain rfl : j = o := by simp at h; omega
        (repeat (first | (apply WL.add; rfl; rfl; rfl; rfl; omega; omega) | (apply WL.pure; rfl; rfl; rfl) | (apply WL.nil) | (apply EX.thenN) | (apply CW.region) | (apply EX.inN) | (apply CW.exit) | (apply EX.thenX) | (apply EX.inX)))
        refine EX.back (i + 1, ov) (by repeat (first | exact trivial | refine ⟨rfl, ?_⟩)) ⟨hi', ?_, e5⟩ (by dsimp only; omega)
        dsimp only
        rw [← List.take_append_getElem hi', List.flatMap_append, hbase]
        simpa using ho
    · obtain rfl : i = ins.length := by simp at h; omega
      rw [List.take_length] at ho
      (repeat (first | (apply WL.pure; rfl; rfl; rfl) | (apply WL.nil) | (apply EX.thenN) | (apply CW.seq) | (apply CW.region) | (apply EX.inN) | (apply CW.exit) | (apply EX.thenX) | (apply EX.inX) | (apply CW.ret)))
      exact EX.ret1 rfl rfl ⟨ho.low z3, hE.trans e4⟩
  have b5 : (k == 5) = false := by simpa using h5
  rw [b5]
  (repeat (first | (apply WL.pure; rfl; rfl; rfl) | (apply WL.nil) | (apply EX.thenN) | (apply CW.seq) | (apply CW.region) | (apply CW.condF; rfl)))
  by_cases h6 : k = 6
  · subst h6
    have hst : stepsK 6 (n : Int) ins o = [((n : Int), -1, po - 1)] := by unfold stepsK; rw [if_neg hd, if_neg h5, if_pos rfl, hpo]
    rw [hst]
    (repeat (first | (apply WL.pure; rfl; rfl; rfl) | (apply CW.region) | (apply CW.condT; rfl)))
    refine WL.build rfl rfl rfl rfl ?_
    refine WL.app1 (F := Non) (B := w3.heap.size) (xs := []) (yv := (((n : Int), -1, po - 1) : LStep)) rfl rfl (fun _ => rfl) rfl rfl (fun _ => rfl) Own.nil (rdSt _ _ _ _ _) (Nat.le_refl _) (fun _ h => h.elim) (by decide) (by simp [maxLen]) (by simp) (fun v' w6 p ho6 hg6 hnb => ?_)
    have e6 : Ext w3 w6 := (Ext.refl _).grown hg6 (Nat.le_refl _) (fun b hb => by cases hb)
    (repeat (first | (apply WL.pure; rfl; rfl; rfl) | (apply WL.nil) | (apply EX.thenN) | (apply CW.seq) | (apply CW.region) | (apply EX.inN) | (apply CW.ret)))
    exact EX.ret1 rfl rfl ⟨ho6.low z3, hE.trans e6⟩
  have b6 : (k == 6) = false := by simpa using h6
  rw [b6]
  (repeat (first | (apply WL.pure; rfl; rfl; rfl) | (apply WL.nil) | (apply EX.thenN) | (apply CW.seq) | (apply CW.region) | (apply CW.condF; rfl)))
  by_cases h7' : k = 7
  · subst h7'
    have ho4 := h7 rfl
    have hst : stepsK 7 (n : Int) ins o = (List.range (2 ^ o - 1)).map fun k : Nat => ((n : Int), -1, (k : Int) + 1) := by unfold stepsK; rw [if_neg hd, if_neg h5, if_neg h6, if_pos rfl]
    rw [hst]
    have hpn : po = ((2 ^ o : Nat) : Int) := by rw [hpo]; push_cast; rfl
    have hN1 := Nat.one_le_two_pow (n := o)
    have hN2 : 2 ^ o ≤ 2 ^ 4 := Nat.pow_le_pow_right (by omega) ho4
    obtain ⟨N, hN⟩ : ∃ N, N = 2 ^ o := ⟨_, rfl⟩
    rw [← hN] at hpn hN1 hN2 ⊢
    have hN3 : N ≤ 16 := by have : 2 ^ 4 = 16 := by decide
                            omega
    (repeat (first | (apply WL.pure; rfl; rfl; rfl) | (apply WL.nil) | (apply EX.thenN) | (apply CW.seq) | (apply CW.region) | (apply CW.block) | (apply CW.condT; rfl)))
    refine CW.loop (S := Nat × Value) (fun s => [(1, .int .i64 (n : Int)), (9, .int .i64 (po - 1)), (10, s.2), (16, .int .i64 ((s.1 : Int) + 1))])
      (fun s w => s.1 ≤ N - 1 ∧ Own w w3.heap.size 92 Non s.2 ((List.range s.1).map fun k : Nat => (((n : Int), -1, (k : Int) + 1) : LStep)) ∧ Ext w3 w) (fun s => N - s.1) (0, .slice none 0 0) (by repeat (first | exact trivial | refine ⟨rfl, ?_⟩)) ⟨Nat.zero_le _, Own.nil, Ext.refl _⟩ ?_
    rintro ⟨i, ov⟩ w4 ⟨hi, ho, e4⟩
    dsimp only at hi ho ⊢
    (repeat (first | (apply WL.pure; rfl; rfl; rfl) | (apply WL.nil) | (apply EX.thenN) | (apply CW.seq) | (apply CW.region)))
    refine CW.cond rfl (fun h => ?_) (fun h => ?_)
    · have hi' : i < N - 1 := by simp at h; omega
      (repeat (first | (apply WL.pure; rfl; rfl; rfl) | (apply EX.thenN) | (apply CW.seq) | (apply CW.region) | (apply CW.block) | (apply CW.skip)))
      refine WL.build rfl rfl rfl rfl ?_
      refine WL.app1 (F := Non) (yv := (((n : Int), -1, (i : Int) + 1) : LStep)) rfl rfl (fun _ => rfl) rfl rfl (fun _ => rfl) ho (rdSt _ _ _ _ _) e4.size (fun _ h => h.elim) (by decide) (by rw [List.length_map, List.length_range]; unfold maxLen; omega) (by rw [List.length_map, List.length_range]; omega) (fun v' w5 p ho5 hg5 hnb => ?_)
      have e5 : Ext w3 w5 := e4.grown hg5 e4.size (fun b hb => (ho.lt b hb).1)
      (repeat (first | (apply WL.add; rfl; rfl; rfl; rfl; omega; omega) | (apply WL.pure; rfl; rfl; rfl) | (apply WL.nil) | (apply EX.thenN) | (apply CW.region) | (apply EX.inN)))
      refine EX.back (i + 1, v') (by repeat (first | exact trivial | refine ⟨rfl, ?_⟩)) ⟨by dsimp only; omega, ?_, e5⟩ (by dsimp only; omega)
      dsimp only
      rw [List.range_succ, List.map_append]
      exact ho5
    · obtain rfl : i = N - 1 := by simp at h; omega
      (repeat (first | (apply WL.pure; rfl; rfl; rfl) | (apply WL.nil) | (apply EX.thenN) | (apply CW.seq) | (apply CW.region) | (apply EX.inN) | (apply CW.exit) | (apply EX.thenX) | (apply EX.inX) | (apply CW.ret)))
      exact EX.ret1 rfl rfl ⟨ho.low z3, hE.trans e4⟩
  have b7 : (k == 7) = false := by simpa using h7'
  rw [b7]
  have hst : stepsK k (n : Int) ins o = [] := by unfold stepsK; rw [if_neg hd, if_neg h5, if_neg h6, if_neg h7']
  rw [hst]
  (repeat (first | (apply WL.pure; rfl; rfl; rfl) | (apply WL.nil) | (apply EX.thenN) | (apply CW.seq) | (apply CW.region) | (apply EX.inN) | (apply CW.condF; rfl) | (apply CW.ret) | (apply CW.skip)))
  exact EX.ret1 rfl rfl ⟨Own.nil, hE⟩
theorem Of_ok (w0 : World) {so fo : Option Addr} {sc fc : Nat} {ns : List LNode} {fl : List LFlow} (hs : Sl w0 (Old w0) so sc ns) (hf : Sl w0 (Old w0) fo fc fl) :
    Rt Try.prog 43 [procV so sc fo fc ns.length fl.length].toArray w0 fun v w' => ∃ x, v = .tuple ⟨[x, .int .i64 (stepsE (ns, fl)).2]⟩ ∧ Own w' w0.heap.size 92 Non x (stepsE (ns, fl)).1 ∧ Ext w0 w' := by
  have hms := hs.len63
  refine Rt.enter1 Try.func43 Try.ntmps43 rfl rfl ?_
  have hE := Ext.refl w0
  (repeat (first | (apply CW.seq) | (apply CW.region)))
  refine WL.boxB rfl rfl rfl fun w1 hb1 e1 => ?_
  have hE := hE.trans e1
  unfold stepsE
  (repeat (first | (apply WL.pure; rfl; rfl; rfl) | (apply WL.nil) | (apply EX.thenN) | (apply CW.seq) | (apply CW.region) | (apply WL.ldA; rfl; rfl; rfl; assumption; rfl)))
  refine WL.call rfl rfl rfl (Check_pr w1 (hs.up hE) (hf.up hE)) ?_
  rintro _ w2 ⟨rfl, e2⟩
  have hb1 := hb1.ext e2
  have hE := hE.trans e2
  (repeat (first | (apply WL.pure; rfl; rfl; rfl) | (apply WL.nil) | (apply EX.thenN) | (apply CW.seq) | (apply CW.region)))
  refine CW.cond rfl (fun h => ?_) (fun h => ?_)
  · have h : chkPr (ns, fl) ≠ 0 := by simpa using h
    (repeat (first | (apply WL.pure; rfl; rfl; rfl) | (apply WL.nil) | (apply EX.thenN) | (apply CW.seq) | (apply CW.region) | (apply CW.ret) | (apply EX.thenR)))
    refine EX.ret2 rfl rfl rfl ⟨_, by rw [if_pos h], ?_, hE⟩
    rw [if_pos h]; exact Own.nil
  have hc0 : chkPr (ns, fl) = 0 := by simpa using h
  have hok := chkPr_ok hc0
  have hn20 := hok.n
  dsimp only at hn20
  rw [if_neg (by simp [hc0])]
  have z2 := hE.size
  (repeat (first | (apply WL.pure; rfl; rfl; rfl) | (apply WL.nil) | (apply EX.thenN) | (apply CW.seq) | (apply CW.region) | (apply WL.lenS; rfl; rfl; rfl) | (apply WL.fa; rfl; rfl; rfl) | (apply WL.ld; rfl; rfl; rfl; assumption; rfl) | (apply CW.block) | (apply CW.skip)))
  refine CW.loop (S := Nat × Value) (fun s => [(1, .pointer (some ⟨w0.heap.size, 0, none⟩)), (5, s.2), (14, .int .i64 ns.length), (15, .int .i64 s.1)])
    (fun s w => s.1 ≤ ns.length ∧ Own w w2.heap.size 92 Non s.2 (stepsP (ns, fl) s.1) ∧ Ext w2 w) (fun s => ns.length - s.1) (0, .slice none 0 0) (by repeat (first | exact trivial | refine ⟨rfl, ?_⟩)) ⟨Nat.zero_le _, Own.nil, Ext.refl _⟩ ?_
  rintro ⟨i, ov⟩ w3 ⟨hi, ho, e3⟩
  dsimp only at hi ho ⊢
  have hb3 := hb1.ext e3
  have hE3 := hE.trans e3
  have hlen := stepsP_len hok i hi
  (repeat (first | (apply WL.pure; rfl; rfl; rfl) | (apply WL.nil) | (apply EX.thenN) | (apply CW.seq) | (apply CW.region)))
  refine CW.cond rfl (fun h => ?_) (fun h => ?_)
  · have hi' : i < ns.length := by simp at h; omega
    have hlen2 := stepsP_len hok (i + 1) hi'
    rw [stepsP_next, List.length_append] at hlen2
    (repeat (first | (apply WL.pure; rfl; rfl; rfl) | (apply WL.nil) | (apply EX.thenN) | (apply CW.seq) | (apply CW.region) | (apply WL.ldA; rfl; rfl; rfl; assumption; rfl) | (apply CW.block) | (apply CW.skip)))
    refine WL.call rfl rfl rfl (of_ok w3 (hs.up hE3) (hf.up hE3) hc0 hi') ?_
    rintro sv w4 ⟨hos, e4⟩
    have ho := ho.extN e4
    have e4 := e3.trans e4
    obtain ⟨so', sc', rfl, hss⟩ := hos.oldN.sl
    skip
    refine WL.app (F := Non) rfl rfl rfl rfl ho hss.srcN e4.size (fun _ h => h.elim) (by unfold maxLen; omega) (by omega) (fun v' w5 ho5 hg5 _ => ?_)
    rw [← stepsP_next] at ho5
    have e5 : Ext w2 w5 := e4.grown hg5 e4.size (fun b hb => (ho.lt b hb).1)
    (repeat (first | (apply WL.add; rfl; rfl; rfl; rfl; omega; omega) | (apply WL.pure; rfl; rfl; rfl) | (apply WL.nil) | (apply EX.thenN) | (apply CW.region) | (apply EX.inN)))
    exact EX.back (i + 1, v') (by repeat (first | exact trivial | refine ⟨rfl, ?_⟩)) ⟨hi', ho5, e5⟩ (by dsimp only; omega)
  obtain rfl : i = ns.length := by simp at h; omega
  (repeat (first | (apply WL.pure; rfl; rfl; rfl) | (apply WL.nil) | (apply EX.thenN) | (apply CW.seq) | (apply CW.region) | (apply CW.exit) | (apply EX.thenX) | (apply EX.inX) | (refine WL.lenO rfl rfl rfl (by assumption) ?_)))
  refine CW.cond rfl (fun h => ?_) (fun h => ?_)
  · have h : (stepsL (ns, fl)).length > 60 := by simp at h; show (stepsP (ns, fl) ns.length).length > 60; omega
    (repeat (first | (apply WL.pure; rfl; rfl; rfl) | (apply WL.nil) | (apply EX.thenN) | (apply CW.seq) | (apply CW.region) | (apply CW.ret) | (apply EX.thenR)))
    refine EX.ret2 rfl rfl rfl ⟨_, by rw [if_pos h], ?_, hE3⟩
    rw [if_pos h]; exact Own.nil
  · have h : ¬ (stepsL (ns, fl)).length > 60 := by simp at h; show ¬ (stepsP (ns, fl) ns.length).length > 60; omega
    (repeat (first | (apply WL.pure; rfl; rfl; rfl) | (apply WL.nil) | (apply EX.thenN) | (apply CW.seq) | (apply CW.region) | (apply CW.ret) | (apply CW.skip)))
    refine EX.ret2 rfl rfl rfl ⟨_, by rw [if_neg h], ?_, hE3⟩
    rw [if_neg h]; exact ho.low z2
end Go.Proofs.Ytadbkppgaekmpaa
/-
  A step compared with a step; slices.Equal, slices.Index, slices.Contains at lists of steps.
-/
set_option linter.unusedVariables false
set_option linter.unusedSimpArgs false
namespace Go.Proofs.Ytadbkppgaekmpaa
open Go.RowKit

def stV (s : LStep) : Value := .agg [.int .i64 s.1, .int .i64 s.2.1, .int .i64 s.2.2].toArray
theorem Rd.step {w : World} {F : Nat → Prop} {v : Value} {x : LStep} (h : Rd w F v x) : v = stV x := by
  obtain ⟨c1, c2, rfl, h1, h2⟩ := h.pr
  obtain ⟨c3, c4, rfl, h3, h4⟩ := rd_pr h2
  rw [rd_int h1, rd_int h3, rd_int h4]; rfl
theorem equalIn_step0 (x y : LStep) (w : World) : (Op.equalIn 10000 92 (stV x) (stV y)).run Try.prog w = .ok (x == y) w := by
  have u3 := Try.underlying3
  have a3 := Try.isAgg3
  have z3 := Try.sizeOf3
  have hS : Try.prog.underlying 92 = some (.struct (Try.prog.fieldsOf 92)) := by kernel_rfl
  have hp : Try.prog.stoodInHeld 92 = false := by kernel_rfl
  obtain ⟨a, b, c⟩ := x
  obtain ⟨a', b', c'⟩ := y
  simp only [stV]
  rw [show (10000 : Nat) = 9999 + 1 from rfl, run_equalIn_agg w 9999 92 _ _ hS hp]
  simp only [Program.fieldsOf, Try.underlying92]
  go_simp
  by_cases h1 : a = a' <;> by_cases h2 : b = b' <;> by_cases h3 : c = c' <;> simp [h1, h2, h3]
theorem equalIn_step (x y : LStep) (w : World) : (binOp .eql 92 (stV x) (stV y)).run Try.prog w = .ok (.bool (x == y)) w := by
  have h := equalIn_step0 x y w
  unfold stV at h ⊢
  rw [run_eql_struct, h]; rfl
theorem nequalIn_step (x y : LStep) (w : World) : (binOp .neq 92 (stV x) (stV y)).run Try.prog w = .ok (.bool (x != y)) w := by
  have h := equalIn_step0 x y w
  unfold stV at h ⊢
  rw [run_neq_struct, h]; rfl
theorem run_eqSt (x y : LStep) (p q : Operand) (w : World) : ((do eqGuard .eql 92 p q (stV x) (stV y); binOp .eql 92 (stV x) (stV y) : Sem Value)).run Try.prog w = .ok (.bool (x == y)) w := by
  have hm : Try.prog.eqGuardType Try.prog.depth 92 = false := by kernel_rfl
  have h := equalIn_step x y w
  rw [Sem.run_bind]
  have hg : (eqGuard .eql 92 p q (stV x) (stV y)).run Try.prog w = .ok () w := run_eqGuard_agg w .eql 92 p q _ _ hm
  rw [hg, Result.andThen_ok, h]
theorem run_neSt (x y : LStep) (p q : Operand) (w : World) : ((do eqGuard .neq 92 p q (stV x) (stV y); binOp .neq 92 (stV x) (stV y) : Sem Value)).run Try.prog w = .ok (.bool (x != y)) w := by
  have hm : Try.prog.eqGuardType Try.prog.depth 92 = false := by kernel_rfl
  rw [Sem.run_bind]
  have hg : (eqGuard .neq 92 p q (stV x) (stV y)).run Try.prog w = .ok () w := run_eqGuard_agg w .neq 92 p q _ _ hm
  rw [hg, Result.andThen_ok, nequalIn_step]
section
variable {Q : Exit → Act → World → Prop} {n : Nat} {σ : Sg} {w : World} {L rest : List Oper} {d : Nat} {ty : TypeId} {pos : String} {af : Array Edge} {g : Option (Nat × Bool)} {yt : TypeId} {x y : Operand}
theorem QL.neSt {a b : LStep} (hg : gd L σ ⟨some d, .binOp .neq 92 x y yt, ty, pos, af, g⟩ = some true) (hd : Nat.ble (d + 1) n = true) (hx : ev σ x = some (stV a)) (hy : ev σ y = some (stV b))
    (h : QL Try.prog L w Q rest n ((d, .bool (a != b)) :: σ)) : QL Try.prog L w Q (⟨some d, .binOp .neq 92 x y yt, ty, pos, af, g⟩ :: rest) n σ := by
  refine QL.run hg hd (fun c hc w' _ => ?_) h
  have := run_neSt a b x y w'
  simp only [execOp, hc.ev hx, hc.ev hy]
  rw [Sem.run_bind, this]; rfl
theorem QL.eqSt {a b : LStep} (hg : gd L σ ⟨some d, .binOp .eql 92 x y yt, ty, pos, af, g⟩ = some true) (hd : Nat.ble (d + 1) n = true) (hx : ev σ x = some (stV a)) (hy : ev σ y = some (stV b))
    (h : QL Try.prog L w Q rest n ((d, .bool (a == b)) :: σ)) : QL Try.prog L w Q (⟨some d, .binOp .eql 92 x y yt, ty, pos, af, g⟩ :: rest) n σ := by
  refine QL.run hg hd (fun c hc w' _ => ?_) h
  have := run_eqSt a b x y w'
  simp only [execOp, hc.ev hx, hc.ev hy]
  rw [Sem.run_bind, this]; rfl
end
end Go.Proofs.Ytadbkppgaekmpaa
/-
  ProcFlows: walked.
-/
set_option linter.unusedVariables false
set_option linter.unusedSimpArgs false
namespace Go.Proofs.Ytadbkppgaekmpaa
open Go.RowKit

theorem Cells.tl {w : World} {b o : Nat} {x : Value} {r : List Value} (h : Cells w b o (x :: r)) : Cells w b (o + 1) r := fun j u hu => by
  have := h (j + 1) u (by simpa using hu)
  rwa [show o + (j + 1) = o + 1 + j by omega] at this
/-- the cells of a list's element that is a pair of numbers -/
theorem Sl.pair {w : World} {F : Nat → Prop} {ao : Option Addr} {cap : Nat} {xs : List (Int × Int)} (h : Sl w F ao cap xs) {i : Nat} (hi : i < xs.length) : ∃ b off, ao = some ⟨b, off, none⟩ ∧ F b ∧ Cells w b (off + i * 2) [.int .i64 xs[i].1] ∧ Cells w b (off + i * 2 + 1) [.int .i64 xs[i].2] := by
  obtain ⟨b, off, e, hb, es, hc, hr⟩ := h.el i hi
  obtain ⟨c1, c2, rfl, h1, h2⟩ := rd_pr hr
  rw [rd_int h1, rd_int h2] at hc
  exact ⟨b, off, e, hb, fun j u hu => hc j u (by cases j with | zero => simpa using hu | succ j => simp at hu), hc.tl⟩
def insSum (fl : List LFlow) (n : Nat) : Nat := ((List.range n).map fun k : Nat => (insL fl (k : Int)).length).sum
def outsSum (fl : List LFlow) (n : Nat) : Nat := ((List.range n).map fun k : Nat => (outsL fl (k : Int)).length).sum
theorem insSum_next {fl : List LFlow} {n : Nat} : insSum fl (n + 1) = insSum fl n + (insL fl (n : Int)).length := by unfold insSum; rw [List.range_succ, List.map_append, List.sum_append]; simp
theorem outsSum_next {fl : List LFlow} {n : Nat} : outsSum fl (n + 1) = outsSum fl n + (outsL fl (n : Int)).length := by unfold outsSum; rw [List.range_succ, List.map_append, List.sum_append]; simp
theorem insSum_all {p : LProc} (h : OkPr p) : insSum p.2 p.1.length = p.2.length := by
  have := count_by (N := p.1.length) (fun i : Nat => (p.2.getD i (0, 0)).2) (List.range p.2.length) (fun i hi => by
    have hi := List.mem_range.1 hi
    rw [getDF_at hi]
    have := h.flows _ (List.getElem_mem hi)
    exact ⟨this.2.2.1, this.2.2.2⟩)
  rw [List.length_range] at this
  rw [← this]
  unfold insSum insL insP
  simp only [List.length_map]
theorem outsSum_all {p : LProc} (h : OkPr p) : outsSum p.2 p.1.length = p.2.length := by
  have := count_by (N := p.1.length) (fun i : Nat => (p.2.getD i (0, 0)).1) (List.range p.2.length) (fun i hi => by
    have hi := List.mem_range.1 hi
    rw [getDF_at hi]
    have := h.flows _ (List.getElem_mem hi)
    exact ⟨this.1, this.2.1⟩)
  rw [List.length_range] at this
  rw [← this]
  unfold outsSum outsL outsP
  simp only [List.length_map]
theorem insSum_le {fl : List LFlow} {n : Nat} (hl : fl.length ≤ 30) (hn : n ≤ 20) : insSum fl n ≤ 30 * n := by
  induction n with
  | zero => simp [insSum]
  | succ n ih =>
    rw [insSum_next]
    have : (insL fl (n : Int)).length ≤ fl.length := insP_len
    have := ih (by omega)
    omega
theorem outsSum_le {fl : List LFlow} {n : Nat} (hl : fl.length ≤ 30) (hn : n ≤ 20) : outsSum fl n ≤ 30 * n := by
  induction n with
  | zero => simp [outsSum]
  | succ n ih =>
    rw [outsSum_next]
    have : (outsL fl (n : Int)).length ≤ fl.length := outsP_len
    have := ih (by omega)
    omega
theorem listE_ok {p : LProc} (h : chkPr p = 0) {n : Nat} (hn : n < p.1.length) : listE p (n : Int) = 0 := by
  unfold listE
  rw [if_neg (by simp [h]), if_neg (by omega)]
end Go.Proofs.Ytadbkppgaekmpaa
/-
  StepsCover: walked.
-/
set_option linter.unusedVariables false
set_option linter.unusedSimpArgs false
namespace Go.Proofs.Ytadbkppgaekmpaa
open Go.RowKit

section
variable {P : Program} {Q : Exit → Act → World → Prop} {n : Nat} {σ : Sg} {w : World} {L rest : List Oper} {d : Nat} {ty : TypeId} {pos : String} {af : Array Edge} {g : Option (Nat × Bool)} {t e : TypeId} {α : Type} [Rep α]
/-- x[:k] -/
theorem QL.cutHi {x y : Operand} {ao : Option Addr} {len cap : Nat} {i : Int} {kd : IntKind} (k : Nat) (hik : i = (k : Int)) (hg : gd L σ ⟨some d, .slice t x none (some y) none, ty, pos, af, g⟩ = some true) (hd : Nat.ble (d + 1) n = true)
    (hx : ev σ x = some (.slice ao len cap)) (hy : ev σ y = some (.int kd i)) [hs : IsS P t e] [ht : IsT P e α] (hk : k ≤ cap)
    (h : QL P L w Q rest n ((d, .slice ao k cap) :: σ)) : QL P L w Q (⟨some d, .slice t x none (some y) none, ty, pos, af, g⟩ :: rest) n σ := by
  subst hik
  refine QL.run hg hd (fun a ha w' _ => ?_) h
  have := run_cut (P := P) (t := t) (e := e) (α := α) (ao := ao) (len := len) (cap := cap) (lo := 0) (hi := k) w' (by omega) hk none (some (.int kd (k : Int))) (.inl ⟨rfl, rfl⟩) (.inr ⟨kd, rfl⟩)
  simp [execOp, ha.ev hx, ha.ev hy, this, Addr.add_zero']
end
theorem run_shr0 (P : Program) (w : World) (a : Int) (s : Nat) (h0 : 0 ≤ a) (h1 : a < 2 ^ s) (hs : s ≤ 62) (t : TypeId) : (binOp .shr t (.int .i64 a) (.int .i64 (s : Int))).run P w = .ok (.int .i64 0) w := by
  rw [binOp_shr, shift_shr_i64 (h₀ := by omega) (h₁ := by omega), Int.toNat_natCast, Int.ediv_eq_zero_of_lt h0 h1]; rfl
section
variable {P : Program} {Q : Exit → Act → World → Prop} {n : Nat} {σ : Sg} {w : World} {L rest : List Oper} {d : Nat} {ty : TypeId} {pos : String} {af : Array Edge} {g : Option (Nat × Bool)} {t yt : TypeId} {x y : Operand}
theorem QL.shr0 {a : Int} {s : Nat} (hg : gd L σ ⟨some d, .binOp .shr t x y yt, ty, pos, af, g⟩ = some true) (hd : Nat.ble (d + 1) n = true) (hx : ev σ x = some (.int .i64 a)) (hy : ev σ y = some (.int .i64 (s : Int))) (h0 : 0 ≤ a) (h1 : a < 2 ^ s) (hs : s ≤ 62)
    (h : QL P L w Q rest n ((d, .int .i64 0) :: σ)) : QL P L w Q (⟨some d, .binOp .shr t x y yt, ty, pos, af, g⟩ :: rest) n σ := by
  refine QL.run hg hd (fun a0 ha0 w' _ => ?_) h
  have := run_shr0 P w' a s h0 h1 hs t
  simp [execOp, ha0.ev hx, ha0.ev hy, eqG (op := .shr) rfl, this]
end
theorem straight_steps : stepsE straightP = ([(1, 0, 1), (2, 1, 0)], 0) := by
  have h : stepsL straightP = [(1, 0, 1), (2, 1, 0)] := by decide
  unfold stepsE
  rw [if_neg (by simp [straight_chk]), h]; rfl
theorem stepsE_ok {p : LProc} (h : (stepsE p).2 = 0) : chkPr p = 0 ∧ (stepsE p).1 = stepsL p ∧ (stepsL p).length ≤ 60 := by
  unfold stepsE at h ⊢
  split at h
  · rename_i h1; exact absurd h h1
  · split at h
    · simp at h
    · rename_i h1 h2
      rw [if_neg h1, if_neg h2]
      exact ⟨by simpa using h1, rfl, by omega⟩
theorem stepsE_bad {p : LProc} (h : (stepsE p).2 ≠ 0) : (stepsE p).1 = [] := by
  unfold stepsE at h ⊢
  split
  · rfl
  · split
    · rfl
    · rename_i h1 h2; rw [if_neg h1, if_neg h2] at h; exact absurd rfl h
theorem steps_any {p : LProc} (h : OkPr p) {n : Nat} (hn : n < p.1.length) : ((stepsL p).any (fun s : LStep => s.1 == (n : Int)) != (kindAt p n != 1)) = false := by
  have hs := stepsN_some h hn
  have : (stepsL p).any (fun s : LStep => s.1 == (n : Int)) = (kindAt p n != 1) := by
    rw [Bool.eq_iff_iff, List.any_eq_true, bne_iff_ne, ← hs]
    constructor
    · rintro ⟨s, hs, e⟩
      obtain ⟨m, hm, hsm⟩ := stepsP_mem.1 hs
      have := stepsK_node s hsm
      have e : s.1 = (n : Int) := by simpa using e
      obtain rfl : m = n := by omega
      intro e0
      rw [e0] at hsm; cases hsm
    · intro hne
      obtain ⟨s, hs⟩ := List.exists_mem_of_ne_nil _ hne
      exact ⟨s, stepsP_mem.2 ⟨n, hn, hs⟩, by simpa using stepsK_node s hs⟩
  rw [this]; simp
theorem nodup_take {α : Type} [BEq α] [LawfulBEq α] {l : List α} (h : l.Nodup) {i : Nat} (hi : i < l.length) : (l.take i).contains l[i] = false := by
  rw [List.contains_eq_mem, decide_eq_false_iff_not]
  intro hm
  obtain ⟨j, hj, e⟩ := List.mem_iff_getElem.1 hm
  rw [List.length_take] at hj
  rw [List.getElem_take] at e
  have := (List.getElem_inj h).1 e
  omega
end Go.Proofs.Ytadbkppgaekmpaa
/-
  Package game: Begin, check, come: walked.
-/
set_option linter.unusedVariables false
set_option linter.unusedSimpArgs false
namespace Go.Proofs.Ytadbkppgaekmpaa
open Go.RowKit

def fillN (f : Nat → Int) (F i : Nat) : List Int := (List.range F).map fun j => if j < i then f j else 0
theorem fillN_len {f : Nat → Int} {F i : Nat} : (fillN f F i).length = F := by simp [fillN]
theorem fillN_zero {f : Nat → Int} {F : Nat} : fillN f F 0 = List.replicate F 0 := by
  unfold fillN
  apply List.ext_getElem (by simp)
  intro j h1 h2; simp
theorem fillN_set {f : Nat → Int} {F i : Nat} (hi : i < F) : (fillN f F i).set i (f i) = fillN f F (i + 1) := by
  unfold fillN
  apply List.ext_getElem (by simp)
  intro j h1 h2
  rw [List.getElem_set]
  simp only [List.getElem_map, List.getElem_range]
  by_cases e : i = j
  · subst e; rw [if_pos rfl, if_pos (by omega)]
  · rw [if_neg e]
    by_cases h : j < i
    · rw [if_pos h, if_pos (by omega)]
    · rw [if_neg h, if_neg (by omega)]
theorem fillN_skip {f : Nat → Int} {F i : Nat} (h0 : f i = 0) : fillN f F i = fillN f F (i + 1) := by
  unfold fillN
  apply List.ext_getElem (by simp)
  intro j h1 h2
  simp only [List.getElem_map, List.getElem_range]
  by_cases e : i = j
  · subst e; rw [if_neg (by omega), if_pos (by omega), h0]
  · by_cases h : j < i
    · rw [if_pos h, if_pos (by omega)]
    · rw [if_neg h, if_neg (by omega)]
theorem Rd.pairI {w : World} {F : Nat → Prop} {v : Value} {x : Int × Int} (h : Rd w F v x) : v = .agg [.int .i64 x.1, .int .i64 x.2].toArray := by
  obtain ⟨c1, c2, rfl, h1, h2⟩ := h.pr
  rw [rd_int h1, rd_int h2]; rfl
theorem kindAt_at {ns : List LNode} {fl : List LFlow} {n : Nat} (h : n < ns.length) : kindAt (ns, fl) n = ns[n].2 := by unfold kindAt; rw [getDNd_at h]
theorem okPr_flow {ns : List LNode} {fl : List LFlow} (h : OkPr (ns, fl)) {i : Nat} (hi : i < fl.length) : ∃ a b : Nat, fl[i].1 = (a : Int) ∧ fl[i].2 = (b : Int) ∧ a < ns.length ∧ b < ns.length := by
  have := h.flows _ (List.getElem_mem hi)
  dsimp only at this
  exact ⟨fl[i].1.toNat, fl[i].2.toNat, by omega, by omega, by omega, by omega⟩
theorem Begin_ok (w0 : World) {so fo : Option Addr} {sc fc : Nat} {ns : List LNode} {fl : List LFlow} (hs : Sl w0 (Old w0) so sc ns) (hf : Sl w0 (Old w0) fo fc fl) :
    Rt Try.prog 99 [procV so sc fo fc ns.length fl.length].toArray w0 fun v w' => ∃ x, v = .tuple ⟨[x, .int .i64 (stepsE (ns, fl)).2]⟩ ∧ Own w' w0.heap.size 3 Non x (if (stepsE (ns, fl)).2 = 0 then beginL (ns, fl) else []) ∧ Ext w0 w' := by
  have hms := hs.len63
  have hmf := hf.len63
  refine Rt.enter1 Try.func99 Try.ntmps99 rfl rfl ?_
  have hE := Ext.refl w0
  (repeat (first | (apply CW.seq) | (apply CW.region)))
  refine WL.boxB rfl rfl rfl fun w1 hb1 e1 => ?_
  have hE := hE.trans e1
  (repeat (first | (apply WL.pure; rfl; rfl; rfl) | (apply WL.nil) | (apply EX.thenN) | (apply CW.seq) | (apply CW.region) | (apply WL.ldA; rfl; rfl; rfl; assumption; rfl)))
  refine WL.call rfl rfl rfl (Of_ok w1 (hs.up hE) (hf.up hE)) ?_
  rintro _ w2 ⟨x, rfl, hox, e2⟩
  have hb1 := hb1.ext e2
  have hE := hE.trans e2
  by_cases hz : (stepsE (ns, fl)).2 = 0
  case neg =>
    have hz1 : ((stepsE (ns, fl)).2 != 0) = true := by simpa using hz
    (repeat (first | (apply WL.pure; rfl; rfl; rfl) | (apply WL.nil) | (apply EX.thenN) | (apply CW.seq) | (apply CW.region)))
    rw [hz1]
    (repeat (first | (apply WL.pure; rfl; rfl; rfl) | (apply WL.nil) | (apply EX.thenN) | (apply CW.seq) | (apply CW.region) | (apply CW.condT; rfl) | (apply CW.ret) | (apply EX.thenR)))
    refine EX.ret2 rfl rfl rfl ⟨_, rfl, ?_, hE⟩
    rw [if_neg hz]; exact Own.nil
  obtain ⟨hc0, _, _⟩ := stepsE_ok hz
  rw [if_pos hz, hz]
  have hok := chkPr_ok hc0
  have hn20 := hok.n
  have hf30 := hok.f
  dsimp only at hn20 hf30
  clear hox
  (repeat (first | (apply WL.pure; rfl; rfl; rfl) | (apply WL.nil) | (apply EX.thenN) | (apply CW.seq) | (apply CW.region) | (apply WL.lenS; rfl; rfl; rfl) | (apply WL.fa; rfl; rfl; rfl) | (apply WL.ld; rfl; rfl; rfl; assumption; rfl) | (apply CW.condF; rfl) | (apply CW.skip)))
  refine WL.make (α := Int) rfl rfl rfl rfl (by omega) (by unfold maxLen; omega) (fun w3 ho3 hg3 => ?_)
  have hE3 : Ext w0 w3 := hE.grown hg3 hE.size (fun k h => by cases h)
  have e3 : Ext w2 w3 := (Below.refl _ _).grown hg3 (Nat.le_refl _) (fun k h => by cases h)
  have hb2 := hb1
  have hb1 := hb1.ext e3
  have hlt := (ho3.lt _ rfl).2.1
  generalize hsv : Value.slice (some ⟨w2.heap.size, 0, none⟩) fl.length fl.length = sv at *
  (repeat (first | (apply WL.pure; rfl; rfl; rfl) | (apply WL.nil) | (apply EX.thenN) | (apply CW.seq) | (apply CW.region) | (apply WL.lenS; rfl; rfl; rfl) | (apply WL.fa; rfl; rfl; rfl) | (apply WL.ld; rfl; rfl; rfl; assumption; rfl) | (apply CW.block)))
  refine CW.loop (S := Nat) (fun i => [(1, .pointer (some ⟨w0.heap.size, 0, none⟩)), (6, sv), (22, .slice fo fl.length fc), (23, .int .i64 fl.length), (24, .int .i64 i)])
    (fun i w => i ≤ fl.length ∧ Own w w2.heap.size 3 Non sv (fillN (fun j => if kindAt (ns, fl) (fl.getD j (0, 0)).1.toNat = 1 then 1 else 0) fl.length i) ∧ Ext w2 w) (fun i => fl.length - i) 0 (by repeat (first | exact trivial | refine ⟨rfl, ?_⟩)) ⟨by omega, by rw [fillN_zero]; exact ho3, e3⟩ ?_
  rintro i w4 ⟨hi, ho, e4⟩
  have hb1 := hb2.ext e4
  have hE4 := hE.trans e4
  (repeat (first | (apply WL.pure; rfl; rfl; rfl) | (apply WL.nil) | (apply EX.thenN) | (apply CW.seq) | (apply CW.region)))
  refine CW.cond rfl (fun h => ?_) (fun h => ?_)
  · have hi' : i < fl.length := by simp at h; omega
    obtain ⟨a, b, ea, eb, ha, hb⟩ := okPr_flow hok hi'
    (repeat (first | (apply WL.pure; rfl; rfl; rfl) | (apply EX.thenN) | (apply CW.seq) | (apply CW.region) | (apply CW.block) | (apply CW.skip)))
    refine WL.elemN rfl rfl rfl rfl rfl (hf.up hE4) hi' (fun _ => rfl) (fun u q hu => ?_)
    rw [hu.pairI, ea, eb]
    clear hu
    skip
    refine WL.alloc rfl rfl (fun w5 hb8 e5 => ?_)
    (repeat (apply WL.pure; rfl; rfl; rfl))
    refine WL.st rfl rfl rfl hb8 rfl rfl (ones_of rfl) (fun w6 hb8 hg6 => ?_)
    have e6 : Ext w4 w6 := e5.grown hg6 e5.size (fun g hg => by cases hg; exact Nat.le_refl _)
    have hb1 := hb1.ext e6
    have hE6 := hE4.trans e6
    have ho := ho.extN e6
    obtain ⟨nb, off, rfl, hnb, hnc⟩ := (hs.at hE6).nodeK ha
    have hkk : kindAt (ns, fl) (fl.getD i (0, 0)).1.toNat = ns[a].2 := by rw [getDF_at hi', ea, Int.toNat_natCast, kindAt_at ha]
    (repeat (first | (apply WL.nil) | (apply EX.thenN) | (apply CW.seq) | (apply CW.region) | (apply WL.fa; rfl; rfl; rfl) | (apply WL.ld; rfl; rfl; rfl; assumption; rfl)))
    refine WL.idx (α := LNode) rfl rfl rfl rfl (by omega) (by omega) ?_
    (repeat (apply WL.fa; rfl; rfl; rfl))
    refine WL.load (α := Int) (F := Non) (y := ns[a].2) rfl rfl rfl (by rw [Int.toNat_natCast]; exact hnc) rfl ?_
    rw [show vOf Int [.int .i64 ns[a].2] = .int .i64 ns[a].2 from rfl]
    (repeat (first | (apply WL.pure; rfl; rfl; rfl) | (apply WL.nil) | (apply EX.thenN)))
    refine CW.cond rfl (fun h => ?_) (fun h => ?_)
    · have h : ns[a].2 = 1 := by simpa using h
      (repeat (first | (apply WL.pure; rfl; rfl; rfl) | (apply CW.region)))
      refine WL.setN (u := .int .i64 1) (yv := (1 : Int)) rfl rfl rfl rfl ho (by rw [fillN_len]; exact hi') (fun _ => rfl) (fun _ => rfl) (Rd.mkInt _ _ _) (fun w7 q ho7 hg7 => ?_)
      have e7 : Ext w2 w7 := (e4.trans e6).grown hg7 (e4.trans e6).size (fun b hb => (ho.lt b hb).1)
      (repeat (first | (apply WL.add; rfl; rfl; rfl; rfl; omega; omega) | (apply WL.pure; rfl; rfl; rfl) | (apply WL.nil) | (apply EX.thenN) | (apply CW.region) | (apply EX.inN)))
      refine EX.back (i + 1) (by repeat (first | exact trivial | refine ⟨rfl, ?_⟩)) ⟨hi', ?_, e7⟩ (by omega)
      rw [← fillN_set hi', hkk, if_pos h]; exact ho7
    · have h : ¬ ns[a].2 = 1 := by simpa using h
      (repeat (first | (apply WL.add; rfl; rfl; rfl; rfl; omega; omega) | (apply WL.pure; rfl; rfl; rfl) | (apply WL.nil) | (apply EX.thenN) | (apply CW.region) | (apply EX.inN) | (apply CW.skip)))
      refine EX.back (i + 1) (by repeat (first | exact trivial | refine ⟨rfl, ?_⟩)) ⟨hi', ?_, e4.trans e6⟩ (by omega)
      rw [← fillN_skip (by rw [hkk, if_neg h])]; exact ho
  · obtain rfl : i = fl.length := by simp at h; omega
    have : fillN (fun j => if kindAt (ns, fl) (fl.getD j (0, 0)).1.toNat = 1 then 1 else 0) fl.length fl.length = beginL (ns, fl) := by
      unfold fillN beginL
      apply List.ext_getElem (by simp)
      intro j h1 h2
      have hj : j < fl.length := by simpa using h1
      simp only [List.getElem_map, List.getElem_range, if_pos hj]
      rw [getDF_at hj]
    rw [this] at ho
    (repeat (first | (apply WL.pure; rfl; rfl; rfl) | (apply WL.nil) | (apply EX.thenN) | (apply CW.seq) | (apply CW.region) | (apply CW.exit) | (apply EX.thenX) | (apply EX.inX) | (apply CW.ret)))
    exact EX.ret2 rfl rfl rfl ⟨_, rfl, ho.low hE.size, hE4⟩
theorem tok_ok (w : World) (n : Int) : Rt Try.prog 139 [.int .i64 n].toArray w fun v w' => v = .bool (tokB n) ∧ Ext w w' := by
  refine Rt.enter1 Try.func139 Try.ntmps139 rfl rfl ?_
  (repeat (first | (apply WL.pure; rfl; rfl; rfl) | (apply WL.nil) | (apply EX.thenN) | (apply CW.seq) | (apply CW.region)))
  by_cases h : n < 0
  · rw [decide_eq_true h]
    (repeat (first | (apply WL.pure; rfl; rfl; rfl) | (apply WL.nil) | (apply EX.thenN) | (apply WL.pass; rfl; rfl) | (apply CW.ret)))
    exact EX.ret1 rfl rfl ⟨by unfold tokB; rw [decide_eq_true h]; rfl, Ext.refl _⟩
  · rw [decide_eq_false h]
    (repeat (first | (apply WL.pure; rfl; rfl; rfl) | (apply WL.nil) | (apply EX.thenN) | (apply CW.ret)))
    exact EX.ret1 rfl rfl ⟨by unfold tokB; rw [decide_eq_false h]; rfl, Ext.refl _⟩
theorem check_ok (w0 : World) {so fo mo : Option Addr} {sc fc mc : Nat} {ns : List LNode} {fl : List LFlow} {m : List Int} (hs : Sl w0 (Old w0) so sc ns) (hf : Sl w0 (Old w0) fo fc fl) (hm : Sl w0 (Old w0) mo mc m) :
    Rt Try.prog 86 [procV so sc fo fc ns.length fl.length, .slice mo m.length mc].toArray w0 fun v w' => ∃ x, v = .tuple ⟨[x, .int .i64 (chkM (ns, fl) m)]⟩ ∧ Own w' w0.heap.size 92 Non x (if chkM (ns, fl) m = 0 then stepsL (ns, fl) else []) ∧ Ext w0 w' := by
  have hmf := hf.len63
  have hmm := hm.len63
  refine Rt.enter2 Try.func86 Try.ntmps86 rfl rfl ?_
  have hE := Ext.refl w0
  (repeat (first | (apply CW.seq) | (apply CW.region)))
  refine WL.boxB rfl rfl rfl fun w1 hb1 e1 => ?_
  have hE := hE.trans e1
  (repeat (first | (apply WL.pure; rfl; rfl; rfl) | (apply WL.nil) | (apply EX.thenN) | (apply CW.seq) | (apply CW.region) | (apply WL.ldA; rfl; rfl; rfl; assumption; rfl)))
  refine WL.call rfl rfl rfl (Of_ok w1 (hs.up hE) (hf.up hE)) ?_
  rintro _ w2 ⟨x, rfl, hox, e2⟩
  have hb1 := hb1.ext e2
  have hE := hE.trans e2
  unfold chkM
  by_cases hz : (stepsE (ns, fl)).2 = 0
  case neg =>
    have hz1 : ((stepsE (ns, fl)).2 != 0) = true := by simpa using hz
    (repeat (first | (apply WL.pure; rfl; rfl; rfl) | (apply WL.nil) | (apply EX.thenN) | (apply CW.seq) | (apply CW.region)))
    rw [hz1]
    (repeat (first | (apply WL.pure; rfl; rfl; rfl) | (apply WL.nil) | (apply EX.thenN) | (apply CW.seq) | (apply CW.region) | (apply CW.condT; rfl) | (apply CW.ret) | (apply EX.thenR)))
    refine EX.ret2 rfl rfl rfl ⟨_, by rw [if_pos hz], ?_, hE⟩
    rw [if_pos hz, if_neg hz]; exact Own.nil
  obtain ⟨hc0, hst, _⟩ := stepsE_ok hz
  rw [if_neg (by simp [hz]), hz]
  rw [hst] at hox
  (repeat (first | (apply WL.pure; rfl; rfl; rfl) | (apply WL.nil) | (apply EX.thenN) | (apply CW.seq) | (apply CW.region) | (apply WL.lenS; rfl; rfl; rfl) | (apply WL.fa; rfl; rfl; rfl) | (apply WL.ld; rfl; rfl; rfl; assumption; rfl) | (apply CW.condF; rfl) | (apply CW.skip)))
  by_cases hl : m.length = fl.length
  · have hl1 : ((m.length : Int) != (fl.length : Int)) = false := by simp [hl]
    rw [hl1]
    (repeat (apply WL.pure; rfl; rfl; rfl))
    refine WL.call rfl rfl rfl (containsFunc_int w2 tokB (hm.up hE) (fun w hw j hj => FnV.mk (cs := []) (tok_ok w _))) ?_
    rintro _ w3 ⟨rfl, e3⟩
    have hox := hox.extN e3
    have hE := hE.trans e3
    (repeat (first | (apply WL.pure; rfl; rfl; rfl) | (apply WL.nil) | (apply EX.thenN)))
    refine CW.cond rfl (fun h => ?_) (fun h => ?_)
    · have h : m.any tokB = true := by simpa using h
      (repeat (first | (apply WL.pure; rfl; rfl; rfl) | (apply WL.nil) | (apply EX.thenN) | (apply CW.seq) | (apply CW.region) | (apply CW.ret) | (apply EX.thenR)))
      have hck : (if m.length ≠ fl.length ∨ m.any tokB = true then (1 : Int) else 0) = 1 := if_pos (.inr h)
      dsimp only
      rw [hck]
      exact EX.ret2 rfl rfl rfl ⟨_, rfl, by rw [if_neg (by decide)]; exact Own.nil, hE⟩
    · have h : ¬ (m.length ≠ fl.length ∨ m.any tokB = true) := by
        have h : m.any tokB = false := by simpa using h
        rw [h]; simp [hl]
      (repeat (first | (apply WL.pure; rfl; rfl; rfl) | (apply WL.nil) | (apply EX.thenN) | (apply CW.seq) | (apply CW.region) | (apply CW.ret) | (apply CW.skip)))
      have hck : (if m.length ≠ fl.length ∨ m.any tokB = true then (1 : Int) else 0) = 0 := if_neg h
      dsimp only
      rw [hck]
      exact EX.ret2 rfl rfl rfl ⟨_, rfl, by rw [if_pos rfl]; exact hox.low e1.size, hE⟩
  · have hl1 : ((m.length : Int) != (fl.length : Int)) = true := by rw [bne_iff_ne]; omega
    rw [hl1]
    (repeat (first | (apply WL.pure; rfl; rfl; rfl) | (apply WL.nil) | (apply EX.thenN) | (apply CW.seq) | (apply CW.region) | (apply WL.pass; rfl; rfl) | (apply CW.condT; rfl) | (apply CW.ret) | (apply EX.thenR)))
    have hck : (if m.length ≠ fl.length ∨ m.any tokB = true then (1 : Int) else 0) = 1 := if_pos (.inl hl)
    dsimp only
    rw [hck]
    exact EX.ret2 rfl rfl rfl ⟨_, rfl, by rw [if_neg (by decide)]; exact Own.nil, hE⟩
end Go.Proofs.Ytadbkppgaekmpaa
/-
  Package game: come, joins, enabled, Enabled: walked.
-/
set_option linter.unusedVariables false
set_option linter.unusedSimpArgs false
namespace Go.Proofs.Ytadbkppgaekmpaa
open Go.RowKit

theorem getDB_at {l : List Bool} {j : Nat} (h : j < l.length) : l.getD j false = l[j] := by rw [List.getD_eq_getElem?_getD, List.getElem?_eq_getElem h]; rfl
theorem come_ok (w0 : World) {so fo : Option Addr} {sc fc : Nat} {ns : List LNode} {fl : List LFlow} (hs : Sl w0 (Old w0) so sc ns) (hf : Sl w0 (Old w0) fo fc fl) (hok : OkPr (ns, fl)) {flow : Nat} (hfl : flow < fl.length) (but : Int) :
    Rt Try.prog 182 [procV so sc fo fc ns.length fl.length, .int .i64 (flow : Int), .int .i64 but].toArray w0 fun v w' => Own w' w0.heap.size 4 Non v (comeL fl flow but) ∧ Ext w0 w' := by
  have hf30 := hok.f
  dsimp only at hf30
  refine Rt.enter3 Try.func182 Try.ntmps182 rfl rfl ?_
  have hE := Ext.refl w0
  (repeat (first | (apply CW.seq) | (apply CW.region)))
  refine WL.boxB rfl rfl rfl fun w1 hb1 e1 => ?_
  have hE := hE.trans e1
  have z1 := e1.size
  (repeat (first | (apply WL.pure; rfl; rfl; rfl) | (apply WL.nil) | (apply EX.thenN) | (apply CW.seq) | (apply CW.region) | (apply WL.lenS; rfl; rfl; rfl) | (apply WL.fa; rfl; rfl; rfl) | (apply WL.ld; rfl; rfl; rfl; assumption; rfl)))
  refine WL.make (α := Bool) rfl rfl rfl rfl (by omega) (by unfold maxLen; omega) (fun w2 ho2 hg2 => ?_)
  have e2 : Ext w1 w2 := (Below.refl _ _).grown hg2 (Nat.le_refl _) (fun k h => by cases h)
  have hlt := (ho2.lt _ rfl).2.1
  generalize hsv : Value.slice (some ⟨w1.heap.size, 0, none⟩) fl.length fl.length = sv at *
  have hdb : sv.ownBlock = some w1.heap.size := by rw [← hsv]; rfl
  (repeat (first | (apply WL.pure; rfl; rfl; rfl) | (apply WL.nil) | (apply EX.thenN) | (apply CW.seq) | (apply CW.region)))
  refine WL.setN (u := .bool true) (yv := true) rfl rfl rfl rfl ho2 (by simpa using hfl) (fun _ => rfl) (fun _ => rfl) (Rd.mkBool _ _ _) (fun w3 q ho3 hg3 => ?_)
  have e3 : Ext w1 w3 := e2.grown hg3 e2.size (fun b hb => (ho2.lt b hb).1)
  have hlt3 : w1.heap.size < w3.heap.size := (ho3.lt _ hdb).2.1
  (repeat (first | (apply WL.pure; rfl; rfl; rfl) | (apply WL.nil) | (apply EX.thenN) | (apply CW.seq) | (apply CW.region)))
  refine WL.lit (F := Non) (ys := [(flow : Int)]) rfl rfl rfl rfl rfl (.cons (Rd.mkInt _ _ _) .nil) (by show 1 * 1 ≤ 16777216; decide) (fun _ h => h.elim) (fun w4 ho4 hg4 => ?_)
  have e4 : Ext w1 w4 := e3.grown hg4 e3.size (fun k h => by cases h)
  have ho3 := ho3.keptN hg4 (fun g _ h => by cases h)
  have hne4 : ∀ b, Value.ownBlock (.slice (some ⟨w3.heap.size, 0, none⟩) 1 1) = some b → b ≠ w1.heap.size := fun b hb => by
    have e : some w3.heap.size = some b := hb
    injection e with e; omega
  have ho4 := ho4.low e3.size
  generalize Value.slice (some ⟨w3.heap.size, 0, none⟩) 1 1 = tv at *
  have hI : ComeI fl ((List.replicate fl.length false).set flow true) [(flow : Int)] := ⟨by simp, fun x hx => by rw [List.mem_singleton] at hx; omega⟩
  have hm0 : [(flow : Int)].length + falses ((List.replicate fl.length false).set flow true) ≤ fl.length := by
    have := falses_set (l := List.replicate fl.length false) (k := flow) (by simpa using hfl) (by rw [List.getD_eq_getElem?_getD, List.getElem?_replicate]; split <;> rfl)
    rw [falses_rep] at this
    simp only [List.length_cons, List.length_nil]; omega
  clear e2 e3 hg2 hg3 hg4 ho2
  (repeat (first | (apply WL.pure; rfl; rfl; rfl) | (apply WL.nil) | (apply EX.thenN) | (apply CW.seq) | (apply CW.block)))
  refine CW.loop (S := Nat × List Bool × List Int × Value) (fun s => [(2, .int .i64 but), (3, .pointer (some ⟨w0.heap.size, 0, none⟩)), (7, sv), (8, s.2.2.2)])
    (fun s w => comeGo fl but s.1 s.2.1 s.2.2.1 = comeL fl flow but ∧ ComeI fl s.2.1 s.2.2.1 ∧ s.2.2.1.length + falses s.2.1 ≤ s.1 ∧ s.1 ≤ fl.length ∧ Own w w1.heap.size 4 Non sv s.2.1 ∧ Own w w1.heap.size 3 Non s.2.2.2 s.2.2.1 ∧ (∀ b, s.2.2.2.ownBlock = some b → b ≠ w1.heap.size) ∧ Ext w1 w) (fun s => s.1)
    (fl.length, (List.replicate fl.length false).set flow true, [(flow : Int)], tv) (by repeat (first | exact trivial | refine ⟨rfl, ?_⟩)) ⟨rfl, hI, hm0, Nat.le_refl _, ho3, ho4, hne4, e4⟩ ?_
  rintro ⟨f, out, todo, tv⟩ w5 ⟨hgo, hI, hm, hfF, hod, hon, hne, e5⟩
  dsimp only at hgo hI hm hfF hod hon hne e5 ⊢
  have hE5 := hE.trans e5
  have hb5 := hb1.ext e5
  (repeat (first | (apply WL.pure; rfl; rfl; rfl) | (apply WL.nil) | (apply EX.thenN) | (apply CW.seq) | (apply CW.region) | (refine WL.lenO rfl rfl rfl (by assumption) ?_)))
  refine CW.cond rfl (fun h0 => ?_) (fun h0 => ?_)
  · simp at h0
    match todo, h0 with
    | x :: r, _ =>
    have hx := hI.ok x (by simp)
    obtain ⟨k, rfl⟩ := Int.eq_ofNat_of_zero_le hx.1
    have hk : k < fl.length := by omega
    obtain ⟨a, b, ea, eb, ha, hb⟩ := okPr_flow hok hk
    match f, hm with
    | 0, hm => simp at hm
    | f + 1, hm =>
    have hm : r.length + falses out ≤ f := by simp at hm; omega
    have hI' : ComeI fl out r := ⟨hI.len, fun y hy => hI.ok y (by simp [hy])⟩
    unfold comeGo at hgo
    rw [Int.toNat_natCast, getDF_at hk, ea] at hgo
    obtain ⟨to, tc, rfl, hts⟩ := hon.oldN.sl
    obtain ⟨fb, off, rfl, hfb, hc1, _⟩ := (hf.up hE5).pair hk
    (repeat (first | (apply QL.pure; rfl; rfl; rfl) | (apply EX.thenN) | (apply CW.seq) | (apply QL.fa; rfl; rfl; rfl) | (apply QL.ld; rfl; rfl; rfl; assumption; rfl) | (apply CW.block) | (apply CW.skip) | (apply CW.draw; exact mixed; kernel_rfl)))
    refine QL.elem (i := 0) rfl rfl rfl rfl rfl (fun _ h => h) hts (by omega) (by simp) (fun _ => rfl) (fun u q hu => ?_)
    obtain rfl := hu.int
    simp only [Int.toNat_zero, List.getElem_cons_zero]
    refine QL.idx (α := LFlow) rfl rfl rfl rfl (by omega) (by omega) ?_
    (repeat (apply QL.fa; rfl; rfl; rfl))
    refine QL.load (α := Int) (F := Non) (y := fl[k].1) rfl rfl rfl hfb (fun _ h => h.elim) (by rw [Int.toNat_natCast]; exact hc1) rfl ?_
    rw [show vOf Int [.int .i64 fl[k].1] = .int .i64 fl[k].1 from rfl, ea]
    (repeat (apply QL.pure; rfl; rfl; rfl))
    refine QL.nil (fun w6 e6 => ?_)
    have hod := hod.extN e6
    have hon := hon.extN e6
    have e6 := e5.trans e6
    have hE6 := hE.trans e6
    have hb6 := hb1.ext e6
    clear hts
    (repeat (first | (apply WL.pure; rfl; rfl; rfl) | (apply EX.thenN) | (apply CW.seq) | (apply CW.region)))
    refine WL.cutLoO (α := Int) 1 rfl rfl rfl rfl rfl hon (by simp) (fun nv2 hon2 hnb => ?_)
    simp only [List.drop_succ_cons, List.drop_zero] at hon2
    have hne2 : ∀ b, nv2.ownBlock = some b → b ≠ w1.heap.size := fun b hb => hne b (by rw [← hnb]; exact hb)
    (repeat (first | (apply WL.pure; rfl; rfl; rfl) | (apply WL.nil) | (apply EX.thenN) | (apply CW.seq) | (apply CW.region)))
    refine CW.cond rfl (fun h2 => ?_) (fun h2 => ?_)
    · have h2 : (a : Int) = but := by simpa using h2
      rw [if_pos h2] at hgo
      (repeat (first | (apply CW.exit) | (apply EX.thenX) | (apply EX.inX)))
      exact EX.back (f, out, r, nv2) (by repeat (first | exact trivial | refine ⟨rfl, ?_⟩)) ⟨hgo, hI', hm, by omega, hod, hon2, hne2, e6⟩ (by dsimp only; omega)
    have h2 : ¬ (a : Int) = but := by simpa using h2
    rw [if_neg h2] at hgo
    (repeat (first | (apply WL.pure; rfl; rfl; rfl) | (apply WL.nil) | (apply EX.thenN) | (apply CW.seq) | (apply CW.region) | (apply WL.lenS; rfl; rfl; rfl) | (apply WL.fa; rfl; rfl; rfl) | (apply WL.ld; rfl; rfl; rfl; assumption; rfl) | (apply CW.block) | (apply CW.skip)))
    refine CW.loop (S := Nat × List Bool × List Int × Value) (fun s => [(2, .int .i64 but), (3, .pointer (some ⟨w0.heap.size, 0, none⟩)), (7, sv), (8, s.2.2.2), (9, .int .i64 (a : Int)), (38, .slice (some ⟨fb, off, none⟩) fl.length fc), (39, .int .i64 fl.length), (40, .int .i64 s.1)])
      (fun s w => s.1 ≤ fl.length ∧ (s.2.1, s.2.2.1) = (List.range s.1).foldl (comeStep fl (a : Int)) (out, r) ∧ ComeI fl s.2.1 s.2.2.1 ∧ s.2.2.1.length + falses s.2.1 = r.length + falses out ∧ Own w w1.heap.size 4 Non sv s.2.1 ∧ Own w w1.heap.size 3 Non s.2.2.2 s.2.2.1 ∧ (∀ b, s.2.2.2.ownBlock = some b → b ≠ w1.heap.size) ∧ Ext w1 w) (fun s => fl.length - s.1)
      (0, out, r, nv2) (by repeat (first | exact trivial | refine ⟨rfl, ?_⟩)) ⟨Nat.zero_le _, rfl, hI', rfl, hod, hon2, hne2, e6⟩ ?_
    rintro ⟨j, out2, todo2, tv3⟩ w7 ⟨hj, hfold, hI3, hm3, hod3, hon3, hne3, e7⟩
    dsimp only at hj hfold hI3 hm3 hod3 hon3 hne3 e7 ⊢
    have hE7 := hE.trans e7
    (repeat (first | (apply WL.pure; rfl; rfl; rfl) | (apply WL.nil) | (apply EX.thenN) | (apply CW.seq) | (apply CW.region)))
    refine CW.cond rfl (fun h1 => ?_) (fun h1 => ?_)
    · have hj' : j < fl.length := by simp at h1; omega
      obtain ⟨a2, b2, ea2, eb2, ha2, hb2⟩ := okPr_flow hok hj'
      have hst := comeStep_ok (n := (a : Int)) hj' hI3
      have hfold' : comeStep fl (a : Int) (out2, todo2) j = (List.range (j + 1)).foldl (comeStep fl (a : Int)) (out, r) := by
        rw [List.range_succ, List.foldl_append, ← hfold]; rfl
      have hjo : j < out2.length := by rw [hI3.len]; exact hj'
      have hcs : comeStep fl (a : Int) (out2, todo2) j = if (b2 : Int) = (a : Int) ∧ out2[j] = false then (out2.set j true, todo2 ++ [(j : Int)]) else (out2, todo2) := by
        unfold comeStep; rw [getDF_at hj', eb2, getDB_at hjo]
      rw [hcs] at hst hfold'
      have hlen3 : todo2.length ≤ 60 := by have := falses_le (l := out); have := hI.len; omega
      (repeat (first | (apply WL.pure; rfl; rfl; rfl) | (apply EX.thenN) | (apply CW.seq) | (apply CW.region) | (apply CW.block) | (apply CW.skip)))
      refine WL.elemN rfl rfl rfl rfl rfl (hf.up hE7) hj' (fun _ => rfl) (fun u q hu => ?_)
      rw [hu.pairI, ea2, eb2]
      clear hu
      skip
      refine WL.alloc rfl rfl (fun w8 hb8 e8 => ?_)
      (repeat (apply WL.pure; rfl; rfl; rfl))
      refine WL.st rfl rfl rfl hb8 rfl rfl (ones_of rfl) (fun w9 hb9 hg9 => ?_)
      have e9 : Ext w7 w9 := e8.grown hg9 e8.size (fun g hg => by cases hg; exact Nat.le_refl _)
      have hod4 := hod3.extN e9
      have hon4 := hon3.extN e9
      have e9 := e7.trans e9
      (repeat (first | (apply WL.pure; rfl; rfl; rfl) | (apply WL.nil) | (apply EX.thenN) | (apply CW.seq) | (apply CW.region) | (apply WL.fa; rfl; rfl; rfl) | (apply WL.ld; rfl; rfl; rfl; assumption; rfl)))
      by_cases h3 : (b2 : Int) = (a : Int)
      · rw [show ((b2 : Int) == (a : Int)) = true by simpa using h3]
        (repeat (apply WL.pure; rfl; rfl; rfl))
        refine WL.elemON rfl rfl rfl rfl rfl hod4 hjo (fun _ => rfl) (fun u q hu => ?_)
        obtain rfl := hu.bool
        (repeat (first | (apply WL.pure; rfl; rfl; rfl) | (apply WL.nil) | (apply EX.thenN)))
        by_cases h4 : out2[j] = false
        · rw [if_pos ⟨h3, h4⟩] at hst hfold'
          dsimp only at hst
          rw [h4]
          (repeat (first | (apply WL.pure; rfl; rfl; rfl) | (apply CW.seq) | (apply CW.region) | (apply CW.condT; rfl)))
          refine WL.setN (u := .bool true) (yv := true) rfl rfl rfl rfl hod4 hjo (fun _ => rfl) (fun _ => rfl) (Rd.mkBool _ _ _) (fun w10 q ho10 hg10 => ?_)
          have e10 : Ext w1 w10 := e9.grown hg10 e9.size (fun b hb => (hod4.lt b hb).1)
          have hon5 := hon4.keptN hg10 (fun g hg => by rw [hdb]; simpa using hne3 g hg)
          (repeat (first | (apply WL.pure; rfl; rfl; rfl) | (apply WL.nil) | (apply EX.thenN) | (apply CW.region)))
          refine WL.app1 (F := Non) (yv := (j : Int)) rfl rfl (fun _ => rfl) rfl rfl (fun _ => rfl) hon5 (Rd.mkInt _ _ _) e10.size (fun _ h => h.elim) (by decide) (by unfold maxLen; omega) (by omega) (fun v' w11 p ho11 hg11 hnb11 => ?_)
          have e11 : Ext w1 w11 := e10.grown hg11 e10.size (fun b hb => (hon5.lt b hb).1)
          have hd11 := ho10.keptN hg11 (fun g hg e => by rw [hdb] at hg; cases hg; exact hne3 _ e.symm rfl)
          (repeat (first | (apply WL.add; rfl; rfl; rfl; rfl; omega; omega) | (apply WL.pure; rfl; rfl; rfl) | (apply WL.nil) | (apply EX.thenN) | (apply CW.region) | (apply EX.inN)))
          refine EX.back (j + 1, out2.set j true, todo2 ++ [(j : Int)], v') (by repeat (first | exact trivial | refine ⟨rfl, ?_⟩)) ⟨hj', hfold', hst.1, by rw [hst.2]; exact hm3, hd11, ho11, ?_, e11⟩ (by dsimp only; omega)
          intro b hb'
          rcases hnb11 b hb' with h | h
          · exact hne3 b h
          · have := (ho10.lt _ hdb).2.1; omega
        · rw [if_neg (fun h => h4 h.2)] at hst hfold'
          have h4 : out2[j] = true := by simpa using h4
          rw [h4]
          (repeat (first | (apply WL.add; rfl; rfl; rfl; rfl; omega; omega) | (apply WL.pure; rfl; rfl; rfl) | (apply WL.nil) | (apply EX.thenN) | (apply CW.region) | (apply EX.inN) | (apply CW.condF; rfl) | (apply CW.skip)))
          exact EX.back (j + 1, out2, todo2, tv3) (by repeat (first | exact trivial | refine ⟨rfl, ?_⟩)) ⟨hj', hfold', hI3, hm3, hod4, hon4, hne3, e9⟩ (by dsimp only; omega)
      · rw [if_neg (fun h => h3 h.1)] at hst hfold'
        rw [show ((b2 : Int) == (a : Int)) = false by simpa using h3]
        (repeat (first | (apply WL.add; rfl; rfl; rfl; rfl; omega; omega) | (apply WL.pure; rfl; rfl; rfl) | (apply WL.nil) | (apply EX.thenN) | (apply CW.region) | (apply WL.pass; rfl; rfl) | (apply EX.inN) | (apply CW.condF; rfl) | (apply CW.skip)))
        exact EX.back (j + 1, out2, todo2, tv3) (by repeat (first | exact trivial | refine ⟨rfl, ?_⟩)) ⟨hj', hfold', hI3, hm3, hod4, hon4, hne3, e9⟩ (by dsimp only; omega)
    · obtain rfl : j = fl.length := by simp at h1; omega
      rw [← hfold] at hgo
      (repeat (first | (apply EX.inN) | (apply CW.exit) | (apply EX.thenX) | (apply EX.inX)))
      exact EX.back (f, out2, todo2, tv3) (by repeat (first | exact trivial | refine ⟨rfl, ?_⟩)) ⟨hgo, hI3, by dsimp only; omega, by dsimp only; omega, hod3, hon3, hne3, e7⟩ (by dsimp only; omega)
  · have hnil : todo = [] := by
      simpa using h0
    subst hnil
    rw [comeGo_nil] at hgo
    subst hgo
    (repeat (first | (apply WL.pure; rfl; rfl; rfl) | (apply WL.nil) | (apply EX.thenN) | (apply CW.seq) | (apply CW.region) | (apply CW.exit) | (apply EX.thenX) | (apply EX.inX) | (apply CW.ret)))
    exact EX.ret1 rfl rfl ⟨hod.low z1, hE5⟩
end Go.Proofs.Ytadbkppgaekmpaa
/-
  Package game: joins, enabled, Enabled: walked.
-/
set_option linter.unusedVariables false
set_option linter.unusedSimpArgs false
namespace Go.Proofs.Ytadbkppgaekmpaa
open Go.RowKit

theorem any_take_next {α : Type} (p : α → Bool) {l : List α} {i : Nat} (h : i < l.length) : (l.take (i + 1)).any p = ((l.take i).any p || p l[i]) := by
  rw [← List.take_append_getElem h, List.any_append]; simp
theorem getDm_at {l : List Int} {j : Nat} (h : j < l.length) : l.getD j 0 = l[j] := by rw [List.getD_eq_getElem?_getD, List.getElem?_eq_getElem h]; rfl
theorem joinsP_false {p : LProc} {m : List Int} {n f : Int} (h : f ∈ insL p.2 n) (h1 : ¬ m.getD f.toNat 0 > 0) (h2 : badIn p m n f = true) : joinsP p m n = false := by
  unfold joinsP
  rw [if_pos]
  exact List.any_eq_true.2 ⟨f, h, by rw [decide_eq_false h1, h2]; rfl⟩
theorem joinsP_some {p : LProc} {m : List Int} {n : Int} (h : ∀ f ∈ insL p.2 n, ¬ m.getD f.toNat 0 > 0 → badIn p m n f = false) : joinsP p m n = (insL p.2 n).any fun f => decide (m.getD f.toNat 0 > 0) := by
  unfold joinsP
  rw [if_neg]
  rw [List.any_eq_true]
  rintro ⟨f, hf, hb⟩
  rw [Bool.and_eq_true] at hb
  have h1 : ¬ m.getD f.toNat 0 > 0 := by simpa using hb.1
  rw [h f hf h1] at hb
  simp at hb
def badAt (fl : List LFlow) (m : List Int) (c : List Bool) (n : Int) (i : Nat) : Bool := c.getD i false && decide (m.getD i 0 > 0) && decide ((fl.getD i (0, 0)).2 ≠ n)
theorem badIn_eq {p : LProc} {m : List Int} {n : Int} {f : Nat} : badIn p m n (f : Int) = (List.range p.2.length).any (badAt p.2 m (comeL p.2 f n) n) := rfl
theorem joins_ok (w0 : World) {so fo mo : Option Addr} {sc fc mc : Nat} {ns : List LNode} {fl : List LFlow} {m : List Int} (hs : Sl w0 (Old w0) so sc ns) (hf : Sl w0 (Old w0) fo fc fl) (hm : Sl w0 (Old w0) mo mc m) (hc0 : chkPr (ns, fl) = 0) (hml : m.length = fl.length) {n : Nat} (hn : n < ns.length) :
    Rt Try.prog 140 [procV so sc fo fc ns.length fl.length, .slice mo m.length mc, .int .i64 (n : Int)].toArray w0 fun v w' => v = .bool (joinsP (ns, fl) m (n : Int)) ∧ Ext w0 w' := by
  have hok := chkPr_ok hc0
  have hf30 := hok.f
  dsimp only at hf30
  have hle : listE (ns, fl) (n : Int) = 0 := listE_ok hc0 hn
  refine Rt.enter3 Try.func140 Try.ntmps140 rfl rfl ?_
  have hE := Ext.refl w0
  (repeat (first | (apply CW.seq) | (apply CW.region)))
  refine WL.boxB rfl rfl rfl fun w1 hb1 e1 => ?_
  have hE := hE.trans e1
  (repeat (first | (apply WL.pure; rfl; rfl; rfl) | (apply WL.nil) | (apply EX.thenN) | (apply CW.seq) | (apply CW.region) | (apply WL.ldA; rfl; rfl; rfl; assumption; rfl)))
  refine WL.call rfl rfl rfl (Ins_ok w1 (hs.up hE) (hf.up hE) (n : Int)) ?_
  rintro _ w2 ⟨x, rfl, hox, e2⟩
  rw [hle, if_pos rfl] at hox
  have hb1 := hb1.ext e2
  have hE := hE.trans e2
  obtain ⟨xo, xc, rfl, hxs⟩ := hox.oldN.sl
  have hins := fun x (hx : x ∈ insL fl (n : Int)) => insP_mem.1 hx
  have hjf := fun f => @joinsP_false (ns, fl) m (n : Int) f
  have hjs := @joinsP_some (ns, fl) m (n : Int)
  have hil : (insL fl (n : Int)).length ≤ fl.length := insP_len
  dsimp only at hjf hjs
  rw [hle]
  clear hox e1
  generalize insL fl (n : Int) = ins at *
  (repeat (first | (apply WL.pure; rfl; rfl; rfl) | (apply WL.nil) | (apply EX.thenN) | (apply CW.seq) | (apply CW.region) | (apply WL.lenS; rfl; rfl; rfl) | (apply CW.block)))
  refine CW.loop (S := Nat × Bool) (fun s => [(1, .slice mo m.length mc), (2, .int .i64 (n : Int)), (3, .pointer (some ⟨w0.heap.size, 0, none⟩)), (9, .bool s.2), (20, .slice xo ins.length xc), (21, .int .i64 ins.length), (22, .int .i64 s.1)])
    (fun s w => s.1 ≤ ins.length ∧ s.2 = ((ins.take s.1).any fun f => decide (m.getD f.toNat 0 > 0)) ∧ (∀ j (h : j < ins.length), j < s.1 → ¬ m.getD ins[j].toNat 0 > 0 → badIn (ns, fl) m (n : Int) ins[j] = false) ∧ Ext w2 w) (fun s => ins.length - s.1)
    (0, false) (by repeat (first | exact trivial | refine ⟨rfl, ?_⟩)) ⟨Nat.zero_le _, rfl, (fun j _ h => absurd h (Nat.not_lt_zero _)), Ext.refl _⟩ ?_
  rintro ⟨i, b⟩ w3 ⟨hi, hb, hbad, e3⟩
  dsimp only at hi hb hbad e3 ⊢
  have hb1 := hb1.ext e3
  have hE3 := hE.trans e3
  (repeat (first | (apply WL.pure; rfl; rfl; rfl) | (apply WL.nil) | (apply EX.thenN) | (apply CW.seq) | (apply CW.region)))
  refine CW.cond rfl (fun h => ?_) (fun h => ?_)
  · have hi' : i < ins.length := by simp at h; omega
    have hmem := List.getElem_mem hi'
    obtain ⟨f, ef, hlt, _⟩ := hins _ hmem
    have hfm : f < m.length := by rw [hml]; exact hlt
    have hnext := any_take_next (fun f : Int => decide (m.getD f.toNat 0 > 0)) hi'
    rw [ef, Int.toNat_natCast, getDm_at hfm] at hnext
    (repeat (first | (apply EX.thenN) | (apply CW.seq) | (apply CW.region) | (apply CW.block) | (apply CW.skip)))
    refine WL.elemI rfl rfl rfl rfl rfl (hxs.up e3) hi' ef (fun _ => rfl) (fun q => ?_)
    (repeat (first | (apply WL.pure; rfl; rfl; rfl) | (apply WL.nil) | (apply EX.thenN) | (apply CW.seq) | (apply CW.region)))
    refine WL.elemI rfl rfl rfl rfl rfl (hm.up hE3) hfm rfl (fun _ => rfl) (fun q => ?_)
    (repeat (first | (apply WL.pure; rfl; rfl; rfl) | (apply WL.nil) | (apply EX.thenN)))
    refine CW.cond rfl (fun h => ?_) (fun h => ?_)
    · rw [h, Bool.or_true] at hnext
      have hp : m.getD ins[i].toNat 0 > 0 := by rw [ef, Int.toNat_natCast, getDm_at hfm]; simpa using h
      (repeat (first | (apply WL.add; rfl; rfl; rfl; rfl; omega; omega) | (apply WL.pure; rfl; rfl; rfl) | (apply WL.nil) | (apply EX.thenN) | (apply CW.seq) | (apply CW.region) | (apply CW.exit) | (apply EX.thenX) | (apply EX.inX)))
      refine EX.back (i + 1, true) (by repeat (first | exact trivial | refine ⟨rfl, ?_⟩)) ⟨hi', hnext.symm, fun j hj hlt hn => ?_, e3⟩ (by dsimp only; omega)
      dsimp only at hlt
      by_cases e : j = i
      · subst e; exact absurd hp hn
      · exact hbad j hj (by omega) hn
    rw [h, Bool.or_false, ← hb] at hnext
    have hnp : ¬ m.getD ins[i].toNat 0 > 0 := by rw [ef, Int.toNat_natCast, getDm_at hfm]; simpa using h
    have hbi := badIn_eq (p := (ns, fl)) (m := m) (n := (n : Int)) (f := f)
    rw [← ef] at hbi
    dsimp only at hbi
    (repeat (first | (apply WL.pure; rfl; rfl; rfl) | (apply EX.thenN) | (apply CW.seq) | (apply CW.region) | (apply WL.ldA; rfl; rfl; rfl; assumption; rfl) | (apply CW.skip)))
    refine WL.call rfl rfl rfl (come_ok w3 (hs.up hE3) (hf.up hE3) hok hlt (n : Int)) ?_
    rintro v w4 ⟨hoc, e4⟩
    have hb1 := hb1.ext e4
    have hE4 := hE3.trans e4
    have hcl := comeL_len (fl := fl) (flow := f) (but := (n : Int))
    generalize comeL fl f (n : Int) = c at *
    obtain ⟨co, cc, rfl, hcs⟩ := hoc.oldN.sl
    clear hoc
    (repeat (first | (apply WL.pure; rfl; rfl; rfl) | (apply WL.nil) | (apply EX.thenN) | (apply WL.lenS; rfl; rfl; rfl) | (apply CW.block)))
    refine CW.loop (S := Nat) (fun j => [(1, .slice mo m.length mc), (2, .int .i64 (n : Int)), (3, .pointer (some ⟨w0.heap.size, 0, none⟩)), (9, .bool b), (20, .slice xo ins.length xc), (21, .int .i64 ins.length), (22, .int .i64 i), (34, .slice co c.length cc), (35, .int .i64 c.length), (36, .int .i64 j)])
      (fun j w => j ≤ c.length ∧ (∀ k, k < j → badAt fl m c (n : Int) k = false) ∧ Ext w4 w) (fun j => c.length - j) 0 (by repeat (first | exact trivial | refine ⟨rfl, ?_⟩)) ⟨Nat.zero_le _, (fun k h => absurd h (Nat.not_lt_zero _)), Ext.refl _⟩ ?_
    rintro j w5 ⟨hj, hall, e5⟩
    have hb1 := hb1.ext e5
    have hE5 := hE4.trans e5
    (repeat (first | (apply WL.pure; rfl; rfl; rfl) | (apply WL.nil) | (apply EX.thenN) | (apply CW.seq) | (apply CW.region)))
    refine CW.cond rfl (fun h2 => ?_) (fun h2 => ?_)
    · have hj' : j < c.length := by simp at h2; omega
      have hjf' : j < fl.length := by omega
      have hjm : j < m.length := by omega
      have hba : badAt fl m c (n : Int) j = (c[j] && decide (m[j] > 0) && decide (fl[j].2 ≠ (n : Int))) := by unfold badAt; rw [getDB_at hj', getDm_at hjm, getDF_at hjf']
      have hbk : badAt fl m c (n : Int) j = false → ∀ k, k < j + 1 → badAt fl m c (n : Int) k = false := fun h k hk => by
        by_cases e : k = j
        · subst e; exact h
        · exact hall k (by omega)
      (repeat (first | (apply WL.pure; rfl; rfl; rfl) | (apply EX.thenN) | (apply CW.seq) | (apply CW.region) | (apply CW.block) | (apply CW.skip)))
      refine WL.elemB rfl rfl rfl rfl rfl (hcs.up e5) hj' rfl (fun _ => rfl) (fun q => ?_)
      (repeat (first | (apply WL.pure; rfl; rfl; rfl) | (apply WL.nil) | (apply EX.thenN) | (apply CW.seq) | (apply CW.region)))
      by_cases h3 : c[j] = true
      · rw [h3] at hba ⊢
        rw [Bool.true_and] at hba
        (repeat (apply WL.pure; rfl; rfl; rfl))
        refine WL.elemI rfl rfl rfl rfl rfl (hm.up hE5) hjm rfl (fun _ => rfl) (fun q => ?_)
        (repeat (apply WL.pure; rfl; rfl; rfl))
        by_cases h4 : m[j] > 0
        · rw [decide_eq_true h4] at hba ⊢
          rw [Bool.true_and] at hba
          obtain ⟨fb, off, rfl, hfb, _, hc2⟩ := (hf.up hE5).pair hjf'
          (repeat (first | (apply WL.pure; rfl; rfl; rfl) | (apply WL.fa; rfl; rfl; rfl) | (apply WL.ld; rfl; rfl; rfl; assumption; rfl)))
          refine WL.idx (α := LFlow) rfl rfl rfl rfl (by omega) (by omega) ?_
          (repeat (apply WL.fa; rfl; rfl; rfl))
          refine WL.load (α := Int) (F := Non) (y := fl[j].2) rfl rfl rfl (by rw [Int.toNat_natCast]; exact hc2) rfl ?_
          rw [show vOf Int [.int .i64 fl[j].2] = .int .i64 fl[j].2 from rfl]
          (repeat (first | (apply WL.pure; rfl; rfl; rfl) | (apply WL.nil) | (apply EX.thenN)))
          refine CW.cond rfl (fun h5 => ?_) (fun h5 => ?_)
          · have h5 : fl[j].2 ≠ (n : Int) := by simpa using h5
            rw [decide_eq_true h5] at hba
            have hbt : badIn (ns, fl) m (n : Int) ins[i] = true := by
              rw [hbi]
              exact List.any_eq_true.2 ⟨j, List.mem_range.2 hjf', hba⟩
            (repeat (first | (apply WL.pure; rfl; rfl; rfl) | (apply WL.nil) | (apply EX.thenN) | (apply CW.seq) | (apply CW.region) | (apply CW.ret) | (apply EX.thenR) | (apply EX.inR)))
            refine EX.ret1 rfl rfl ⟨?_, hE5⟩
            rw [hjf _ hmem hnp hbt]
          · have h5 : ¬ fl[j].2 ≠ (n : Int) := by simpa using h5
            rw [decide_eq_false h5] at hba
            (repeat (first | (apply WL.add; rfl; rfl; rfl; rfl; omega; omega) | (apply WL.pure; rfl; rfl; rfl) | (apply WL.nil) | (apply EX.thenN) | (apply CW.region) | (apply EX.inN) | (apply CW.skip)))
            exact EX.back (j + 1) (by repeat (first | exact trivial | refine ⟨rfl, ?_⟩)) ⟨hj', hbk hba, e5⟩ (by omega)
        · rw [decide_eq_false h4] at hba ⊢
          rw [Bool.false_and] at hba
          (repeat (first | (apply WL.add; rfl; rfl; rfl; rfl; omega; omega) | (apply WL.pure; rfl; rfl; rfl) | (apply WL.nil) | (apply EX.thenN) | (apply CW.region) | (apply WL.pass; rfl; rfl) | (apply EX.inN) | (apply CW.condF; rfl) | (apply CW.skip)))
          exact EX.back (j + 1) (by repeat (first | exact trivial | refine ⟨rfl, ?_⟩)) ⟨hj', hbk hba, e5⟩ (by omega)
      · have h3 : c[j] = false := by simpa using h3
        rw [h3] at hba ⊢
        rw [Bool.false_and, Bool.false_and] at hba
        (repeat (first | (apply WL.add; rfl; rfl; rfl; rfl; omega; omega) | (apply WL.pure; rfl; rfl; rfl) | (apply WL.nil) | (apply EX.thenN) | (apply CW.region) | (apply WL.pass; rfl; rfl) | (apply EX.inN) | (apply CW.condF; rfl) | (apply CW.skip)))
        exact EX.back (j + 1) (by repeat (first | exact trivial | refine ⟨rfl, ?_⟩)) ⟨hj', hbk hba, e5⟩ (by omega)
    · obtain rfl : j = c.length := by simp at h2; omega
      have hbf : badIn (ns, fl) m (n : Int) ins[i] = false := by
        rw [hbi]
        exact List.any_eq_false.2 (fun k hk => by rw [hall k (by rw [hcl]; exact List.mem_range.1 hk)]; simp)
      (repeat (first | (apply WL.add; rfl; rfl; rfl; rfl; omega; omega) | (apply WL.pure; rfl; rfl; rfl) | (apply WL.nil) | (apply EX.thenN) | (apply CW.region) | (apply EX.inN) | (apply CW.exit) | (apply EX.thenX) | (apply EX.inX)))
      refine EX.back (i + 1, b) (by repeat (first | exact trivial | refine ⟨rfl, ?_⟩)) ⟨hi', hnext.symm, fun j hj hlt hn => ?_, (e3.trans e4).trans e5⟩ (by dsimp only; omega)
      dsimp only at hlt
      by_cases e : j = i
      · subst e; exact hbf
      · exact hbad j hj (by omega) hn
  · obtain rfl : i = ins.length := by simp at h; omega
    rw [List.take_length] at hb
    have := hjs (fun f hf hn => by
      obtain ⟨j, hj, rfl⟩ := List.mem_iff_getElem.1 hf
      exact hbad j hj hj hn)
    (repeat (first | (apply WL.pure; rfl; rfl; rfl) | (apply WL.nil) | (apply EX.thenN) | (apply CW.seq) | (apply CW.region) | (apply CW.exit) | (apply EX.thenX) | (apply EX.inX) | (apply CW.ret)))
    exact EX.ret1 rfl rfl ⟨by rw [this, ← hb], hE3⟩
theorem enabled1_ok (w : World) (b : Nat) {mo : Option Addr} {mc : Nat} {m : List Int} (hb : Blk w b 22 [.slice mo m.length mc]) (hm : Sl w (Old w) mo mc m) {f : Nat} (hfm : f < m.length) :
    Rt Try.prog 142 [.int .i64 (f : Int), .pointer (some ⟨b, 0, none⟩)].toArray w fun v w' => v = .bool (m.getD f 0 == 0) ∧ Ext w w' := by
  refine Rt.enter2 Try.func142 Try.ntmps142 rfl rfl ?_
  (repeat (first | (apply WL.pure; rfl; rfl; rfl) | (apply WL.nil) | (apply EX.thenN) | (apply CW.seq) | (apply CW.region) | (apply WL.ld; rfl; rfl; rfl; assumption; rfl)))
  refine WL.elemI rfl rfl rfl rfl rfl hm hfm rfl (fun _ => rfl) (fun q => ?_)
  (repeat (first | (apply WL.pure; rfl; rfl; rfl) | (apply WL.nil) | (apply EX.thenN) | (apply CW.ret)))
  exact EX.ret1 rfl rfl ⟨by rw [getDm_at hfm], Ext.refl _⟩
theorem enabled_ok (w0 : World) {so fo mo : Option Addr} {sc fc mc : Nat} {ns : List LNode} {fl : List LFlow} {m : List Int} (hs : Sl w0 (Old w0) so sc ns) (hf : Sl w0 (Old w0) fo fc fl) (hm : Sl w0 (Old w0) mo mc m) (hc0 : chkPr (ns, fl) = 0) (hml : m.length = fl.length) {s : LStep} {n : Nat} (hn : n < ns.length) (hsn : s ∈ stepsN (ns, fl) n) :
    Rt Try.prog 87 [procV so sc fo fc ns.length fl.length, .slice mo m.length mc, stV s].toArray w0 fun v w' => v = .bool (enabledP (ns, fl) m s) ∧ Ext w0 w' := by
  have hok := chkPr_ok hc0
  have hf30 := hok.f
  dsimp only at hf30
  have q1 := stepsK_node _ hsn
  have q2 := stepsK_in _ hsn
  have hle : listE (ns, fl) (n : Int) = 0 := listE_ok hc0 hn
  clear hsn
  obtain ⟨s1, s2, s3⟩ := s
  dsimp only at q1 q2
  subst q1
  unfold stV enabledP
  dsimp only
  refine Rt.enter3 Try.func87 Try.ntmps87 rfl rfl ?_
  have hE := Ext.refl w0
  (repeat (first | (apply CW.seq) | (apply CW.region)))
  refine WL.boxB rfl rfl rfl fun w1 hb3 e1 => ?_
  have hE := hE.trans e1
  skip
  refine WL.boxB rfl rfl rfl fun w2 hb4 e2 => ?_
  have hb3 := hb3.ext e2
  have hE := hE.trans e2
  skip
  refine WL.boxB rfl rfl rfl fun w3 hb5 e3 => ?_
  have hb3 := hb3.ext e3
  have hb4 := hb4.ext e3
  have hE := hE.trans e3
  (repeat (first | (apply WL.pure; rfl; rfl; rfl) | (apply WL.nil) | (apply EX.thenN) | (apply CW.seq) | (apply CW.region) | (apply WL.fa; rfl; rfl; rfl) | (apply WL.ld; rfl; rfl; rfl; assumption; rfl)))
  refine CW.cond rfl (fun h => ?_) (fun h => ?_)
  · have h : s2 ≥ 0 := by simpa using h
    rcases q2 with rfl | hin
    · omega
    obtain ⟨f, rfl, hlt, _⟩ := insP_mem.1 hin
    have hfm : f < m.length := by rw [hml]; exact hlt
    rw [if_pos h, Int.toNat_natCast, getDm_at hfm]
    (repeat (first | (apply CW.seq) | (apply CW.region) | (apply WL.fa; rfl; rfl; rfl) | (apply WL.ld; rfl; rfl; rfl; assumption; rfl)))
    refine WL.elemI rfl rfl rfl rfl rfl (hm.up hE) hfm rfl (fun _ => rfl) (fun q => ?_)
    (repeat (first | (apply WL.pure; rfl; rfl; rfl) | (apply WL.nil) | (apply EX.thenN) | (apply CW.ret) | (apply EX.thenR)))
    exact EX.ret1 rfl rfl ⟨rfl, hE⟩
  have h : ¬ 0 ≤ s2 := by simpa using h
  rw [if_neg h, Int.toNat_natCast, kindAt_at hn]
  obtain ⟨nb, off, rfl, hnb, hnc⟩ := (hs.at hE).nodeK hn
  (repeat (first | (apply EX.thenN) | (apply CW.seq) | (apply CW.region) | (apply WL.fa; rfl; rfl; rfl) | (apply WL.ld; rfl; rfl; rfl; assumption; rfl) | (apply CW.skip)))
  refine WL.idx (α := LNode) rfl rfl rfl rfl (by omega) (by omega) ?_
  (repeat (apply WL.fa; rfl; rfl; rfl))
  refine WL.load (α := Int) (F := Non) (y := ns[n].2) rfl rfl rfl (by rw [Int.toNat_natCast]; exact hnc) rfl ?_
  rw [show vOf Int [.int .i64 ns[n].2] = .int .i64 ns[n].2 from rfl]
  (repeat (first | (apply WL.pure; rfl; rfl; rfl) | (apply WL.nil) | (apply EX.thenN)))
  refine CW.cond rfl (fun h => ?_) (fun h => ?_)
  · have h : ns[n].2 = 7 := by simpa using h
    rw [if_pos h]
    (repeat (first | (apply CW.seq) | (apply CW.region) | (apply WL.fa; rfl; rfl; rfl) | (apply WL.ld; rfl; rfl; rfl; assumption; rfl) | (apply WL.ldA; rfl; rfl; rfl; assumption; rfl)))
    refine WL.call rfl rfl rfl (joins_ok w3 (hs.up hE) (hf.up hE) (hm.up hE) hc0 hml hn) ?_
    rintro _ w4 ⟨rfl, e4⟩
    (repeat (first | (apply WL.pure; rfl; rfl; rfl) | (apply WL.nil) | (apply EX.thenN) | (apply CW.ret) | (apply EX.thenR)))
    exact EX.ret1 rfl rfl ⟨rfl, hE.trans e4⟩
  have h : ¬ ns[n].2 = 7 := by simpa using h
  rw [if_neg h]
  (repeat (first | (apply EX.thenN) | (apply CW.seq) | (apply CW.region) | (apply WL.fa; rfl; rfl; rfl) | (apply WL.ld; rfl; rfl; rfl; assumption; rfl) | (apply WL.ldA; rfl; rfl; rfl; assumption; rfl) | (apply CW.skip)))
  refine WL.call rfl rfl rfl (Ins_ok w3 (hs.up hE) (hf.up hE) (n : Int)) ?_
  rintro _ w4 ⟨x, rfl, hox, e4⟩
  rw [hle, if_pos rfl] at hox
  rw [hle]
  have hb4 := hb4.ext e4
  have hE := hE.trans e4
  obtain ⟨xo, xc, rfl, hxs⟩ := hox.oldN.sl
  (repeat (first | (apply WL.pure; rfl; rfl; rfl) | (apply WL.nil) | (apply EX.thenN) | (apply CW.seq) | (apply CW.region) | (apply WL.makeFunc; rfl; rfl; rfl; rfl)))
  refine WL.call rfl rfl rfl (containsFunc_int w4 (fun f => m.getD f.toNat 0 == 0) hxs (fun w hw j hj => ?_)) ?_
  · obtain ⟨f, ef, hlt, _⟩ := insP_mem.1 (List.getElem_mem hj)
    rw [ef, Int.toNat_natCast]
    exact FnV.mk (cs := [_]) (enabled1_ok w _ (hb4.ext hw) (hm.up (hE.trans hw)) (by rw [hml]; exact hlt))
  rintro _ w5 ⟨rfl, e5⟩
  (repeat (first | (apply WL.pure; rfl; rfl; rfl) | (apply WL.nil) | (apply EX.thenN) | (apply CW.ret)))
  exact EX.ret1 rfl rfl ⟨rfl, hE.trans e5⟩
theorem stepsL_at {p : LProc} {i : Nat} (h : i < (stepsL p).length) : (stepsL p).getD i (0, 0, 0) = (stepsL p)[i] := by rw [List.getD_eq_getElem?_getD, List.getElem?_eq_getElem h]; rfl
theorem chkM_ok {p : LProc} {m : List Int} (h : chkM p m = 0) : chkPr p = 0 ∧ m.length = p.2.length ∧ m.any tokB = false ∧ (stepsL p).length ≤ 60 := by
  unfold chkM at h
  split at h
  · rename_i h1; exact absurd h h1
  · rename_i h1
    split at h
    · cases h
    · rename_i h2
      have := stepsE_ok (p := p) (by simpa using h1)
      refine ⟨this.1, Classical.byContradiction fun e => h2 (.inl e), ?_, this.2.2⟩
      by_cases e : m.any tokB = true
      · exact absurd (.inr e) h2
      · simpa using e
theorem Enabled_ok (w0 : World) {so fo mo : Option Addr} {sc fc mc : Nat} {ns : List LNode} {fl : List LFlow} {m : List Int} (hs : Sl w0 (Old w0) so sc ns) (hf : Sl w0 (Old w0) fo fc fl) (hm : Sl w0 (Old w0) mo mc m) :
    Rt Try.prog 32 [procV so sc fo fc ns.length fl.length, .slice mo m.length mc].toArray w0 fun v w' => ∃ x, v = .tuple ⟨[x, .int .i64 (chkM (ns, fl) m)]⟩ ∧ Own w' w0.heap.size 3 Non x (if chkM (ns, fl) m = 0 then canL (ns, fl) m else []) ∧ Ext w0 w' := by
  refine Rt.enter2 Try.func32 Try.ntmps32 rfl rfl ?_
  have hE := Ext.refl w0
  (repeat (first | (apply CW.seq) | (apply CW.region)))
  refine WL.boxB rfl rfl rfl fun w1 hb1 e1 => ?_
  have hE := hE.trans e1
  (repeat (first | (apply WL.pure; rfl; rfl; rfl) | (apply WL.nil) | (apply EX.thenN) | (apply CW.seq) | (apply CW.region) | (apply WL.ldA; rfl; rfl; rfl; assumption; rfl)))
  refine WL.call rfl rfl rfl (check_ok w1 (hs.up hE) (hf.up hE) (hm.up hE)) ?_
  rintro _ w2 ⟨x, rfl, hox, e2⟩
  have hb1 := hb1.ext e2
  have hE := hE.trans e2
  by_cases hz : chkM (ns, fl) m = 0
  case neg =>
    have hz1 : (chkM (ns, fl) m != 0) = true := by simpa using hz
    (repeat (first | (apply WL.pure; rfl; rfl; rfl) | (apply WL.nil) | (apply EX.thenN) | (apply CW.seq) | (apply CW.region)))
    rw [hz1]
    (repeat (first | (apply WL.pure; rfl; rfl; rfl) | (apply WL.nil) | (apply EX.thenN) | (apply CW.seq) | (apply CW.region) | (apply CW.condT; rfl) | (apply CW.ret) | (apply EX.thenR)))
    refine EX.ret2 rfl rfl rfl ⟨_, rfl, ?_, hE⟩
    rw [if_neg hz]; exact Own.nil
  obtain ⟨hc0, hml, _, hl60⟩ := chkM_ok hz
  rw [if_pos hz] at hox
  rw [if_pos hz, hz]
  dsimp only at hml
  obtain ⟨xo, xc, rfl, hxs⟩ := hox.oldN.sl
  clear hox
  have hlen : ∀ k, k ≤ (stepsL (ns, fl)).length → (canP (ns, fl) m k).length ≤ 60 := fun k hk => by
    unfold canP
    rw [List.length_map]
    have := List.length_filter_le (fun i => enabledP (ns, fl) m ((stepsL (ns, fl)).getD i (0, 0, 0))) (List.range k)
    rw [List.length_range] at this
    omega
  have z2 := hE.size
  (repeat (first | (apply WL.pure; rfl; rfl; rfl) | (apply WL.nil) | (apply EX.thenN) | (apply CW.seq) | (apply CW.region) | (apply WL.lenS; rfl; rfl; rfl) | (apply CW.block) | (apply CW.condF; rfl) | (apply CW.skip)))
  refine CW.loop (S := Nat × Value) (fun s => [(1, .slice mo m.length mc), (2, .pointer (some ⟨w0.heap.size, 0, none⟩)), (8, s.2), (20, .slice xo (stepsL (ns, fl)).length xc), (21, .int .i64 (stepsL (ns, fl)).length), (22, .int .i64 s.1)])
    (fun s w => s.1 ≤ (stepsL (ns, fl)).length ∧ Own w w2.heap.size 3 Non s.2 (canP (ns, fl) m s.1) ∧ Ext w2 w) (fun s => (stepsL (ns, fl)).length - s.1) (0, .slice none 0 0) (by repeat (first | exact trivial | refine ⟨rfl, ?_⟩)) ⟨Nat.zero_le _, Own.nil, Ext.refl _⟩ ?_
  rintro ⟨i, ov⟩ w3 ⟨hi, ho, e3⟩
  dsimp only at hi ho e3 ⊢
  have hb1 := hb1.ext e3
  have hE3 := hE.trans e3
  (repeat (first | (apply WL.pure; rfl; rfl; rfl) | (apply WL.nil) | (apply EX.thenN) | (apply CW.seq) | (apply CW.region)))
  refine CW.cond rfl (fun h => ?_) (fun h => ?_)
  · have hi' : i < (stepsL (ns, fl)).length := by simp at h; omega
    obtain ⟨n, hn, hsn⟩ := stepsP_mem.1 (List.getElem_mem hi')
    have hnext := canP_next (p := (ns, fl)) (m := m) (k := i)
    rw [stepsL_at hi'] at hnext
    have hl1 := hlen i hi
    (repeat (first | (apply WL.pure; rfl; rfl; rfl) | (apply EX.thenN) | (apply CW.seq) | (apply CW.region) | (apply CW.block) | (apply CW.skip)))
    refine WL.elemN rfl rfl rfl rfl rfl (hxs.up e3) hi' (fun _ => rfl) (fun u q hu => ?_)
    rw [hu.step]
    have hen := fun w hs hf hm => enabled_ok w (so := so) (fo := fo) (mo := mo) (sc := sc) (fc := fc) (mc := mc) hs hf hm hc0 hml hn hsn
    clear hu hsn
    generalize (stepsL (ns, fl))[i] = s at *
    unfold stV at hen ⊢
    skip
    refine WL.alloc rfl rfl (fun w4 hb10 e4 => ?_)
    (repeat (apply WL.pure; rfl; rfl; rfl))
    refine WL.st rfl rfl rfl hb10 rfl rfl (ones_of rfl) (fun w5 hb10 hg5 => ?_)
    have e5 : Ext w3 w5 := e4.grown hg5 e4.size (fun g hg => by cases hg; exact Nat.le_refl _)
    have hb1 := hb1.ext e5
    have hE5 := hE3.trans e5
    have ho := ho.extN e5
    (repeat (first | (apply WL.pure; rfl; rfl; rfl) | (apply WL.nil) | (apply EX.thenN) | (apply CW.seq) | (apply CW.region) | (apply WL.ldA; rfl; rfl; rfl; assumption; rfl)))
    refine WL.call rfl rfl rfl (hen w5 (hs.up hE5) (hf.up hE5) (hm.up hE5)) ?_
    rintro _ w6 ⟨rfl, e6⟩
    have ho := ho.extN e6
    have e6 : Ext w2 w6 := (e3.trans e5).trans e6
    have z6 := e6.size
    (repeat (first | (apply WL.nil) | (apply EX.thenN)))
    refine CW.cond rfl (fun h => ?_) (fun h => ?_)
    · rw [if_pos h] at hnext
      (repeat (first | (apply WL.pure; rfl; rfl; rfl) | (apply CW.region)))
      refine WL.app1 (F := Non) (yv := (i : Int)) rfl rfl (fun _ => rfl) rfl rfl (fun _ => rfl) ho (Rd.mkInt _ _ _) e6.size (fun _ h => h.elim) (by decide) (by unfold maxLen; omega) (by omega) (fun v' w7 p ho7 hg7 hnb => ?_)
      have e7 : Ext w2 w7 := e6.grown hg7 e6.size (fun b hb => (ho.lt b hb).1)
      rw [← hnext] at ho7
      (repeat (first | (apply WL.add; rfl; rfl; rfl; rfl; omega; omega) | (apply WL.pure; rfl; rfl; rfl) | (apply WL.nil) | (apply EX.thenN) | (apply CW.region) | (apply EX.inN)))
      exact EX.back (i + 1, v') (by repeat (first | exact trivial | refine ⟨rfl, ?_⟩)) ⟨hi', ho7, e7⟩ (by dsimp only; omega)
    · rw [if_neg (by simp [h]), List.append_nil] at hnext
      (repeat (first | (apply WL.add; rfl; rfl; rfl; rfl; omega; omega) | (apply WL.pure; rfl; rfl; rfl) | (apply WL.nil) | (apply EX.thenN) | (apply CW.region) | (apply EX.inN) | (apply CW.skip)))
      exact EX.back (i + 1, ov) (by repeat (first | exact trivial | refine ⟨rfl, ?_⟩)) ⟨hi', by dsimp only; rw [hnext]; exact ho, e6⟩ (by dsimp only; omega)
  · obtain rfl : i = (stepsL (ns, fl)).length := by simp at h; omega
    (repeat (first | (apply WL.pure; rfl; rfl; rfl) | (apply WL.nil) | (apply EX.thenN) | (apply CW.seq) | (apply CW.region) | (apply CW.exit) | (apply EX.thenX) | (apply EX.inX) | (apply CW.ret)))
    exact EX.ret2 rfl rfl rfl ⟨_, rfl, ho.low z2, hE3⟩
end Go.Proofs.Ytadbkppgaekmpaa
