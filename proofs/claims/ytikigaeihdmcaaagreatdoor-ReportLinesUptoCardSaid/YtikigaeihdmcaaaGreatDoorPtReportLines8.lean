import Derived.Test.YtikigaeihdmcaaaGreatDoorPtReportLines7
/-
  rule.Check, walked.
-/
set_option linter.unusedVariables false
set_option linter.unusedSimpArgs false
namespace Go.Proofs.YtikigaeihdmcaaaGreatDoor
open Go.RowKit

theorem equalIn_pat0 (x : LPat) (w : World) : (Op.equalIn 10000 23 (patV x) (patV patZ)).run Tryz.prog w = .ok (x == patZ) w := by
  have u3 := Tryz.underlying3
  have a3 := Tryz.isAgg3
  have z3 := Tryz.sizeOf3
  have hS : Tryz.prog.underlying 23 = some (.struct (Tryz.prog.fieldsOf 23)) := by kernel_rfl
  have hp : Tryz.prog.stoodInHeld 23 = false := by kernel_rfl
  obtain ⟨a, b, c, d, e, f, g⟩ := x
  simp only [patV, patZ]
  rw [show (10000 : Nat) = 9999 + 1 from rfl, run_equalIn_agg w 9999 23 _ _ hS hp]
  simp only [Program.fieldsOf, Tryz.underlying23]
  go_simp
  by_cases h1 : a = 0
  · by_cases h2 : b = 0
    · by_cases h3 : c = 0
      · by_cases h4 : d = 0
        · by_cases h5 : e = 0
          · by_cases h6 : f = 0
            · by_cases h7 : g = 0 <;> simp [h1, h2, h3, h4, h5, h6, h7]
            · simp [h1, h2, h3, h4, h5, h6]
          · simp [h1, h2, h3, h4, h5]
        · simp [h1, h2, h3, h4]
      · simp [h1, h2, h3]
    · simp [h1, h2]
  · simp [h1]
theorem run_nePat (x : LPat) (p q : Operand) (w : World) : ((do eqGuard .neq 23 p q (patV x) (patV patZ); binOp .neq 23 (patV x) (patV patZ) : Sem Value)).run Tryz.prog w = .ok (.bool (x != patZ)) w := by
  have hm : Tryz.prog.eqGuardType Tryz.prog.depth 23 = false := by kernel_rfl
  rw [Sem.run_bind]
  have hg : (eqGuard .neq 23 p q (patV x) (patV patZ)).run Tryz.prog w = .ok () w := run_eqGuard_agg w .neq 23 p q _ _ hm
  have h := equalIn_pat0 x w
  rw [hg, Result.andThen_ok]
  unfold patV at h ⊢
  rw [run_neq_struct, h]; rfl
theorem equalIn_tpl0 (x : LTpl) (w : World) : (Op.equalIn 10000 25 (tplV x) (tplV tplZ)).run Tryz.prog w = .ok (x == tplZ) w := by
  have u3 := Tryz.underlying3
  have a3 := Tryz.isAgg3
  have z3 := Tryz.sizeOf3
  have hS : Tryz.prog.underlying 25 = some (.struct (Tryz.prog.fieldsOf 25)) := by kernel_rfl
  have hp : Tryz.prog.stoodInHeld 25 = false := by kernel_rfl
  obtain ⟨a, b, c, d⟩ := x
  simp only [tplV, tplZ]
  rw [show (10000 : Nat) = 9999 + 1 from rfl, run_equalIn_agg w 9999 25 _ _ hS hp]
  simp only [Program.fieldsOf, Tryz.underlying25]
  go_simp
  by_cases h1 : a = 0
  · by_cases h2 : b = 0
    · by_cases h3 : c = 0
      · by_cases h4 : d = 0 <;> simp [h1, h2, h3, h4]
      · simp [h1, h2, h3]
    · simp [h1, h2]
  · simp [h1]
theorem run_neTpl (x : LTpl) (p q : Operand) (w : World) : ((do eqGuard .neq 25 p q (tplV x) (tplV tplZ); binOp .neq 25 (tplV x) (tplV tplZ) : Sem Value)).run Tryz.prog w = .ok (.bool (x != tplZ)) w := by
  have hm : Tryz.prog.eqGuardType Tryz.prog.depth 25 = false := by kernel_rfl
  rw [Sem.run_bind]
  have hg : (eqGuard .neq 25 p q (tplV x) (tplV tplZ)).run Tryz.prog w = .ok () w := run_eqGuard_agg w .neq 25 p q _ _ hm
  have h := equalIn_tpl0 x w
  rw [hg, Result.andThen_ok]
  unfold tplV at h ⊢
  rw [run_neq_struct, h]; rfl
section
variable {Q : Exit → Act → World → Prop} {n : Nat} {σ : Sg} {w : World} {L rest : List Oper} {d : Nat} {ty : TypeId} {pos : String} {af : Array Edge} {g : Option (Nat × Bool)} {yt : TypeId} {x y : Operand}
theorem WL.nePat {a : LPat} (hg : gd L σ ⟨some d, .binOp .neq 23 x y yt, ty, pos, af, g⟩ = some true) (hd : Nat.ble (d + 1) n = true) (hx : ev σ x = some (patV a)) (hy : ev σ y = some (patV patZ))
    (h : WL Tryz.prog L Q rest n ((d, .bool (a != patZ)) :: σ) w) : WL Tryz.prog L Q (⟨some d, .binOp .neq 23 x y yt, ty, pos, af, g⟩ :: rest) n σ w := by
  refine WL.run hg hd (fun c hc => ?_) h
  have := run_nePat a x y w
  simp only [execOp, hc.ev hx, hc.ev hy]
  rw [Sem.run_bind, this]; rfl
theorem WL.neTpl {a : LTpl} (hg : gd L σ ⟨some d, .binOp .neq 25 x y yt, ty, pos, af, g⟩ = some true) (hd : Nat.ble (d + 1) n = true) (hx : ev σ x = some (tplV a)) (hy : ev σ y = some (tplV tplZ))
    (h : WL Tryz.prog L Q rest n ((d, .bool (a != tplZ)) :: σ) w) : WL Tryz.prog L Q (⟨some d, .binOp .neq 25 x y yt, ty, pos, af, g⟩ :: rest) n σ w := by
  refine WL.run hg hd (fun c hc => ?_) h
  have := run_neTpl a x y w
  simp only [execOp, hc.ev hx, hc.ev hy]
  rw [Sem.run_bind, this]; rfl
end
set_option maxHeartbeats 2000000 in
theorem rpart_ok (w0 : World) {r : LRule} {lo co no : Option Addr} {lc cc nc : Nat} {nms : List ByteArray} (hl : Sl w0 (Old w0) lo lc r.2.2.2.2.1.kids) (hc : Sl w0 (Old w0) co cc r.2.2.2.2.2.kids) (hn : Sl w0 (Old w0) no nc nms) :
    Rt Tryz.prog 25 [rulV r lo lc co cc, .slice no nms.length nc].toArray w0 fun v w' => v = .int .i64 (partE r nms) ∧ Ext w0 w' := by
  obtain ⟨nm, so, pt, tp, lt, ct⟩ := r
  dsimp only at hl hc ⊢
  refine Rt.enter2 Tryz.func25 Tryz.ntmps25 rfl rfl ?_
  (repeat (first | (apply CW.seq) | (apply CW.region)))
  refine WL.boxB rfl rfl rfl fun w1 hb2 e1 => ?_
  skip
  refine WL.boxB rfl rfl rfl fun w2 hb3 e2 => ?_
  have hb2 := hb2.ext e2
  have hE2 := e1.trans e2
  have l3 := hb3.lt
  (repeat (first | (apply WL.pure; rfl; rfl; rfl) | (apply WL.nil) | (apply EX.thenN) | (apply CW.seq) | (apply CW.region)))
  refine WL.alloc rfl rfl (fun w3 hb7 e3 => ?_)
  refine WL.st rfl rfl rfl hb7 rfl rfl (ones_of rfl) (fun w4 hb7 hg4 => ?_)
  have e4 : Ext w2 w4 := e3.grown hg4 e3.size (fun g hg => by cases hg; exact Nat.le_refl _)
  have hb2 := hb2.ext e4
  have hb3 := hb3.ext e4
  have hE := hE2.trans e4
  have z1 := e1.size
  have z2 := e2.size
  have l7 := hb7.lt
  clear hg4 e3
  apply WL.nil
  apply EX.thenN
  have hat1 : so = 1 → atomsR (nm, so, pt, tp, lt, ct) = ownA pt ++ scopeA pt := fun h => by unfold atomsR; rw [if_pos h]
  have hat2 : so = 2 → atomsR (nm, so, pt, tp, lt, ct) = (if aloneB tp.1 = true then [tp.2.1] else [tp.2.1, tp.2.2.1]) := fun h => by unfold atomsR; rw [if_neg (by show ¬ so = 1; omega), if_pos h]
  have hat3 : so ≠ 1 → so ≠ 2 → atomsR (nm, so, pt, tp, lt, ct) = [] := fun h h' => by unfold atomsR; rw [if_neg h, if_neg h']
  refine CW.cutI (S := Value) (fun v => [(2, .pointer (some ⟨w0.heap.size, 0, none⟩)), (3, .pointer (some ⟨w1.heap.size, 0, none⟩)), (5, .int .i64 (partE0 (nm, so, pt, tp, lt, ct) nms)), (6, v), (7, .pointer (some ⟨w2.heap.size, 0, none⟩))])
    (fun v w => Rd w (Old w) v (atomsR (nm, so, pt, tp, lt, ct)) ∧ Blk w w1.heap.size 34 [.slice no nms.length nc] ∧ Blk w w2.heap.size 4 [.bool (decide (so = 1))] ∧ Ext w0 w) ?_ ?_
  · have hnil : ∀ w : World, Rd w (Old w) (Value.slice none 0 0) ([] : List Int) := fun w => (Sl.zero (α := Int) w (Old w)).rd
    (repeat (first | (apply WL.pure; rfl; rfl; rfl) | (apply WL.nil) | (apply EX.thenN) | (apply CW.seq) | (apply CW.region) | (apply WL.fa; rfl; rfl; rfl) | (apply WL.ld; rfl; rfl; rfl; assumption; rfl) | (apply CW.block)))
    refine CW.cond rfl (fun h => ?_) (fun h => ?_)
    · have h1 : so = 1 := by simpa using h
      clear h
      (repeat (first | (apply CW.seq) | (apply CW.region) | (apply WL.fa; rfl; rfl; rfl) | (apply WL.ldA; rfl; rfl; rfl; assumption; rfl)))
      refine WL.call rfl rfl rfl (dwyerCheck w4 pt) ?_
      rintro _ w5 ⟨rfl, e5⟩
      have hb2 := hb2.ext e5
      have hb3 := hb3.ext e5
      have hb7 := hb7.ext e5
      have hE5 := hE.trans e5
      (repeat (first | (apply WL.pure; rfl; rfl; rfl) | (apply WL.nil) | (apply EX.thenN) | (apply CW.seq) | (apply CW.region) | (apply WL.fa; rfl; rfl; rfl) | (apply WL.ldA; rfl; rfl; rfl; assumption; rfl)))
      refine WL.call rfl rfl rfl (atoms_ok w5 pt) ?_
      rintro _ w6 ⟨⟨u1, u2, rfl, ho1, ho2⟩, e6⟩
      have hb2 := hb2.ext e6
      have hb3 := hb3.ext e6
      have hb7 := hb7.ext e6
      have hE6 := hE5.trans e6
      have hl1 : (ownA pt).length ≤ 2 := by unfold ownA; split <;> simp
      have hl2 : (scopeA pt).length ≤ 2 := by unfold scopeA; (repeat' split) <;> simp
      obtain ⟨so2, sc2, rfl, hs2⟩ := ho2.oldN.sl
      have z5 := e5.size
      have z4 := e4.size
      (repeat (first | (apply WL.pure; rfl; rfl; rfl) | (apply WL.nil) | (apply EX.thenN) | (apply CW.region)))
      refine WL.app (F := Non) rfl rfl rfl rfl ho1 hs2.srcN e6.size (fun _ h => h.elim) (by unfold maxLen; omega) (by omega) (fun v' w7 ho7 hg7 _ => ?_)
      have hnb : ∀ g, u1.ownBlock = some g → w5.heap.size ≤ g := fun g hg => (ho1.lt g hg).1
      have hb37 := hb3.kept hg7 (fun e => by have := hnb _ e.symm; omega)
      have hb77 := hb7.kept hg7 (fun e => by have := hnb _ e.symm; omega)
      have hE7 : Ext w0 w7 := hE6.grown hg7 hE6.size (fun g hg => by have := hnb g hg; omega)
      (repeat (apply WL.pure; rfl; rfl; rfl))
      refine WL.st rfl rfl rfl hb77 rfl rfl (ones_of rfl) (fun w8 hb78 hg8 => ?_)
      have hb38 := hb37.kept hg8 (fun e => by have := Option.some.inj e; omega)
      have hE8 : Ext w0 w8 := hE7.grown hg8 hE7.size (fun g hg => by cases hg; have := hE2.size; omega)
      have ho8 := ho7.keptN hg8 (fun g hg e => by have := (ho7.lt g hg).1; have := Option.some.inj e; omega)
      (repeat (first | (apply WL.nil) | (apply EX.inN)))
      refine EX.cutI v' ⟨rfl, rfl, ?_, rfl, rfl, trivial⟩ ⟨by rw [hat1 h1]; exact ho8.oldN, hb38, by rw [decide_eq_true h1]; exact hb78, hE8⟩
      unfold partE0; rw [if_pos h1]; rfl
    have h1 : ¬ so = 1 := by simpa using h
    clear h
    have hb7d : Blk w4 w2.heap.size 4 [.bool (decide (so = 1))] := by rw [decide_eq_false h1]; exact hb7
    (repeat (first | (apply WL.pure; rfl; rfl; rfl) | (apply WL.nil) | (apply EX.thenN) | (apply CW.seq) | (apply CW.region)))
    refine CW.cond rfl (fun h => ?_) (fun h => ?_)
    · have h2 : so = 2 := by simpa using h
      clear h
      (repeat (first | (apply CW.seq) | (apply CW.region) | (apply WL.fa; rfl; rfl; rfl) | (apply WL.ldA; rfl; rfl; rfl; assumption; rfl)))
      refine WL.call rfl rfl rfl (declareCheck w4 tp) ?_
      rintro _ w5 ⟨rfl, e5⟩
      have hb2 := hb2.ext e5
      have hb3 := hb3.ext e5
      have hb7d := hb7d.ext e5
      have hE5 := hE.trans e5
      (repeat (first | (apply WL.pure; rfl; rfl; rfl) | (apply WL.nil) | (apply EX.thenN) | (apply CW.seq) | (apply CW.region) | (apply WL.fa; rfl; rfl; rfl) | (apply WL.ld; rfl; rfl; rfl; assumption; rfl)))
      refine WL.lit (F := Non) (ys := [tp.2.1]) rfl rfl rfl rfl rfl ⟨Rd.mkInt _ _ _, trivial⟩ (by show 1 * 1 ≤ 16777216; decide) (fun _ h => h.elim) (fun w6 ho6 hg6 => ?_)
      have e6 : Ext w5 w6 := (Below.refl _ _).grown hg6 (Nat.le_refl _) (fun k h => by cases h)
      have hb2 := hb2.ext e6
      have hb3 := hb3.ext e6
      have hb7d := hb7d.ext e6
      have hE6 := hE5.trans e6
      (repeat (first | (apply WL.pure; rfl; rfl; rfl) | (apply WL.nil) | (apply EX.thenN) | (apply CW.seq) | (apply CW.region) | (apply WL.fa; rfl; rfl; rfl) | (apply WL.ld; rfl; rfl; rfl; assumption; rfl)))
      refine WL.call rfl rfl rfl (alone_ok w6 tp.1) ?_
      rintro _ _ ⟨rfl, rfl⟩
      (repeat (first | (apply WL.pure; rfl; rfl; rfl) | (apply WL.nil) | (apply EX.thenN)))
      refine CW.cond rfl (fun h => ?_) (fun h => ?_)
      · have ha : ¬ aloneB tp.1 = true := by simpa using h
        (repeat (first | (apply WL.pure; rfl; rfl; rfl) | (apply CW.region) | (apply WL.fa; rfl; rfl; rfl) | (apply WL.ld; rfl; rfl; rfl; assumption; rfl)))
        refine WL.app1 (F := Non) (yv := tp.2.2.1) rfl rfl (fun _ => rfl) rfl rfl (fun _ => rfl) ho6 (Rd.mkInt _ _ _) e6.size (fun _ h => h.elim) (by decide) (by unfold maxLen; simp) (by simp) (fun v' w7 q ho7 hg7 hnb => ?_)
        have hb37 := hb3.kept hg7 (fun e => by have := Option.some.inj e; have : w1.heap.size = w5.heap.size := this; have := e5.size; omega)
        have hb77 := hb7d.kept hg7 (fun e => by have := Option.some.inj e; have : w2.heap.size = w5.heap.size := this; have := e5.size; omega)
        have hE7 : Ext w0 w7 := hE6.grown hg7 hE6.size (fun g hg => by cases hg; exact hE5.size)
        (repeat (first | (apply WL.pure; rfl; rfl; rfl) | (apply WL.nil) | (apply EX.inN)))
        refine EX.cutI v' ⟨rfl, rfl, ?_, rfl, rfl, trivial⟩ ⟨by rw [hat2 h2, if_neg ha]; exact ho7.oldN, hb37, hb77, hE7⟩
        unfold partE0; rw [if_neg h1, if_pos h2]; rfl
      · have ha : aloneB tp.1 = true := by simpa using h
        (repeat (first | (apply EX.inN) | (apply CW.skip)))
        refine EX.cutI _ ⟨rfl, rfl, ?_, rfl, rfl, trivial⟩ ⟨by rw [hat2 h2, if_pos ha]; exact ho6.oldN, hb3, hb7d, hE6⟩
        unfold partE0; rw [if_neg h1, if_pos h2]; rfl
    have h2 : ¬ so = 2 := by simpa using h
    clear h
    (repeat (first | (apply WL.pure; rfl; rfl; rfl) | (apply WL.nil) | (apply EX.thenN) | (apply CW.seq) | (apply CW.region)))
    refine CW.cond rfl (fun h => ?_) (fun h => ?_)
    · have h3 : so = 3 := by simpa using h
      clear h
      (repeat (first | (apply CW.region) | (apply WL.fa; rfl; rfl; rfl) | (apply WL.ld; rfl; rfl; rfl; assumption; rfl) | (apply WL.ldA; rfl; rfl; rfl; assumption; rfl)))
      refine WL.call rfl rfl rfl (lprint_ok w4 (hl.up hE) (hn.up hE)) ?_
      rintro _ w5 ⟨rfl, e5⟩
      (repeat (first | (apply WL.pure; rfl; rfl; rfl) | (apply WL.nil) | (apply EX.inN)))
      refine EX.cutI (.slice none 0 0) ⟨rfl, rfl, ?_, rfl, rfl, trivial⟩ ⟨by rw [hat3 h1 h2]; exact hnil _, hb3.ext e5, hb7d.ext e5, hE.trans e5⟩
      unfold partE0; rw [if_neg h1, if_neg h2, if_pos h3]; rfl
    have h3 : ¬ so = 3 := by simpa using h
    clear h
    (repeat (first | (apply WL.pure; rfl; rfl; rfl) | (apply WL.nil) | (apply EX.thenN) | (apply CW.seq) | (apply CW.region)))
    refine CW.cond rfl (fun h => ?_) (fun h => ?_)
    · have h4 : so = 4 := by simpa using h
      clear h
      (repeat (first | (apply CW.region) | (apply WL.fa; rfl; rfl; rfl) | (apply WL.ld; rfl; rfl; rfl; assumption; rfl) | (apply WL.ldA; rfl; rfl; rfl; assumption; rfl)))
      refine WL.call rfl rfl rfl (cprint_ok w4 (hc.up hE) (hn.up hE)) ?_
      rintro _ w5 ⟨rfl, e5⟩
      (repeat (first | (apply WL.pure; rfl; rfl; rfl) | (apply WL.nil) | (apply EX.inN)))
      refine EX.cutI (.slice none 0 0) ⟨rfl, rfl, ?_, rfl, rfl, trivial⟩ ⟨by rw [hat3 h1 h2]; exact hnil _, hb3.ext e5, hb7d.ext e5, hE.trans e5⟩
      unfold partE0; rw [if_neg h1, if_neg h2, if_neg h3, if_pos h4]; rfl
    · have h4 : ¬ so = 4 := by simpa using h
      (repeat (first | (apply EX.inN) | (apply CW.skip)))
      refine EX.cutI (.slice none 0 0) ⟨rfl, rfl, ?_, rfl, rfl, trivial⟩ ⟨by rw [hat3 h1 h2]; exact hnil _, hb3, hb7d, hE⟩
      unfold partE0; rw [if_neg h1, if_neg h2, if_neg h3, if_neg h4]; rfl
  rintro lv w5 ⟨hlv, hb35, hb75, hE5⟩
  obtain ⟨ao, cap, rfl, hsl⟩ := hlv.sl
  unfold partE
  generalize partE0 (nm, so, pt, tp, lt, ct) nms = E at *
  generalize atomsR (nm, so, pt, tp, lt, ct) = at' at *
  dsimp only
  (repeat (first | (apply WL.pure; rfl; rfl; rfl) | (apply CW.seq) | (apply CW.region)))
  (refine WL.lookG rfl rfl (fun h => ?_) (fun h => ?_))
  · have h0 : E = 0 := by simpa using h
    clear h
    (repeat (first | (apply WL.pure; rfl; rfl; rfl) | (apply WL.makeFunc; rfl; rfl; rfl; rfl)))
    refine WL.call rfl rfl rfl (containsFunc_int w5 (fun n => rnmL nms n (decide (so = 1)) == []) hsl (fun w hw i hi => FnV.mk (cs := [_, _]) (rpart1_ok w (hn.up (hE5.trans hw)) (hb35.ext hw) (hb75.ext hw) at'[i]))) ?_
    rintro _ w6 ⟨rfl, e6⟩
    (repeat (first | (apply WL.pure; rfl; rfl; rfl) | (apply WL.nil) | (apply EX.thenN)))
    refine CW.cond rfl (fun h => ?_) (fun h => ?_)
    · rw [if_pos ⟨h0, h⟩]
      (repeat (first | (apply WL.pure; rfl; rfl; rfl) | (apply WL.nil) | (apply EX.thenN) | (apply CW.seq) | (apply CW.region) | (apply CW.ret) | (apply EX.thenR)))
      exact EX.ret1 rfl rfl ⟨rfl, hE5.trans e6⟩
    · rw [if_neg (by rw [h]; simp)]
      (repeat (first | (apply WL.pure; rfl; rfl; rfl) | (apply WL.nil) | (apply EX.thenN) | (apply CW.seq) | (apply CW.region) | (apply CW.ret) | (apply CW.skip)))
      exact EX.ret1 rfl rfl ⟨rfl, hE5.trans e6⟩
  · have h0 : ¬ E = 0 := by simpa using h
    rw [if_neg (fun h => h0 h.1)]
    (repeat (first | (apply WL.pure; rfl; rfl; rfl) | (apply WL.nil) | (apply EX.thenN) | (apply CW.seq) | (apply CW.region) | (apply WL.pass; rfl; rfl) | (apply CW.condF; rfl) | (apply CW.ret) | (apply CW.skip)))
    exact EX.ret1 rfl rfl ⟨rfl, hE5⟩
end Go.Proofs.YtikigaeihdmcaaaGreatDoor

/-
  rule.Check and rule.Formula, walked.
-/
set_option linter.unusedVariables false
set_option linter.unusedSimpArgs false
namespace Go.Proofs.YtikigaeihdmcaaaGreatDoor
open Go.RowKit
def oth1 (r : LRule) : Bool := (r.2.1 != 1 && r.2.2.1 != patZ) || (r.2.1 != 2 && r.2.2.2.1 != tplZ)
def oth2 (r : LRule) : Bool := oth1 r || (r.2.1 != 3 && fillF r.2.2.2.2.1)
theorem otherB_eq (r : LRule) : otherB r = (oth2 r || (r.2.1 != 4 && fillF r.2.2.2.2.2)) := rfl
set_option maxHeartbeats 2000000 in
theorem rcheck_ok (w0 : World) {r : LRule} {lo co no : Option Addr} {lc cc nc : Nat} {nms : List ByteArray} (hl : Sl w0 (Old w0) lo lc r.2.2.2.2.1.kids) (hc : Sl w0 (Old w0) co cc r.2.2.2.2.2.kids) (hn : Sl w0 (Old w0) no nc nms) :
    Rt Tryz.prog 7 [rulV r lo lc co cc, .slice no nms.length nc].toArray w0 fun v w' => v = .int .i64 (chkRl r nms) ∧ Ext w0 w' := by
  refine Rt.enter2 Tryz.func7 Tryz.ntmps7 rfl rfl ?_
  have hlm := hl.len63
  have hcm := hc.len63
  (repeat (first | (apply CW.seq) | (apply CW.region)))
  refine WL.boxB rfl rfl rfl fun w1 hb2 e1 => ?_
  (repeat (first | (apply WL.pure; rfl; rfl; rfl) | (apply WL.nil) | (apply EX.thenN) | (apply CW.seq) | (apply CW.region) | (apply WL.fa; rfl; rfl; rfl) | (apply WL.ld; rfl; rfl; rfl; assumption; rfl)))
  refine WL.call rfl rfl rfl (Named_ok w1 r.1) ?_
  rintro _ w2 ⟨rfl, e2⟩
  have hb2 := hb2.ext e2
  have hE2 := e1.trans e2
  unfold chkRl
  have hbad : (namedB r.1 = false ∨ r.2.1 < 1 ∨ r.2.1 > 4) → (if namedB r.1 = false ∨ r.2.1 < 1 ∨ r.2.1 > 4 then 1 else if partE r nms ≠ 0 then partE r nms else if otherB r = true then 1 else 0) = (1 : Int) := fun h => if_pos h
  (repeat (apply WL.pure; rfl; rfl; rfl))
  (refine WL.lookG rfl rfl (fun h => ?_) (fun h => ?_))
  · rw [hbad (.inl (by simpa using h))]
    (repeat (first | (apply WL.pure; rfl; rfl; rfl) | (apply WL.nil) | (apply EX.thenN) | (apply CW.seq) | (apply CW.region) | (apply WL.pass; rfl; rfl) | (apply CW.condT; rfl) | (apply CW.ret) | (apply EX.thenR)))
    exact EX.ret1 rfl rfl ⟨rfl, hE2⟩
  have h1 : ¬ namedB r.1 = false := by simpa using h
  clear h
  (repeat (first | (apply WL.pure; rfl; rfl; rfl) | (apply WL.fa; rfl; rfl; rfl) | (apply WL.ld; rfl; rfl; rfl; assumption; rfl)))
  (refine WL.lookG rfl rfl (fun h => ?_) (fun h => ?_))
  · rw [hbad (.inr (.inl (by simpa using h)))]
    (repeat (first | (apply WL.pure; rfl; rfl; rfl) | (apply WL.nil) | (apply EX.thenN) | (apply CW.seq) | (apply CW.region) | (apply WL.pass; rfl; rfl) | (apply CW.condT; rfl) | (apply CW.ret) | (apply EX.thenR)))
    exact EX.ret1 rfl rfl ⟨rfl, hE2⟩
  have h2 : ¬ r.2.1 < 1 := by simpa using h
  clear h
  (repeat (first | (apply WL.pure; rfl; rfl; rfl) | (apply WL.nil) | (apply EX.thenN) | (apply WL.fa; rfl; rfl; rfl) | (apply WL.ld; rfl; rfl; rfl; assumption; rfl)))
  refine CW.cond rfl (fun h => ?_) (fun h => ?_)
  · rw [hbad (.inr (.inr (by simpa using h)))]
    (repeat (first | (apply WL.pure; rfl; rfl; rfl) | (apply WL.nil) | (apply EX.thenN) | (apply CW.seq) | (apply CW.region) | (apply CW.ret) | (apply EX.thenR)))
    exact EX.ret1 rfl rfl ⟨rfl, hE2⟩
  have h3 : ¬ r.2.1 > 4 := by simpa using h
  clear h hbad
  rw [if_neg (by simp only [not_or]; exact ⟨h1, h2, h3⟩)]
  (repeat (first | (apply WL.pure; rfl; rfl; rfl) | (apply EX.thenN) | (apply CW.seq) | (apply CW.region) | (apply WL.ldA; rfl; rfl; rfl; assumption; rfl) | (apply CW.skip)))
  refine WL.call rfl rfl rfl (rpart_ok w2 (r := r) (hl.up hE2) (hc.up hE2) (hn.up hE2)) ?_
  rintro _ w3 ⟨rfl, e3⟩
  have hb3 := hb2.ext e3
  have hE := hE2.trans e3
  generalize partE r nms = E at *
  (repeat (first | (apply WL.pure; rfl; rfl; rfl) | (apply WL.nil) | (apply EX.thenN) | (apply CW.seq) | (apply CW.region)))
  refine CW.cond rfl (fun h => ?_) (fun h => ?_)
  · rw [if_pos (by simpa using h)]
    (repeat (first | (apply WL.pure; rfl; rfl; rfl) | (apply WL.nil) | (apply EX.thenN) | (apply CW.seq) | (apply CW.region) | (apply CW.ret) | (apply EX.thenR)))
    exact EX.ret1 rfl rfl ⟨rfl, hE⟩
  rw [if_neg (by simpa using h)]
  clear h hb2 e3 e2 e1 hE2
  apply CW.skip
  apply EX.thenN
  refine CW.cut [(2, .pointer (some ⟨w0.heap.size, 0, none⟩)), (6, .bool (oth1 r))] ?_ ?_
  · unfold oth1
    (repeat (first | (apply WL.pure; rfl; rfl; rfl) | (apply CW.region) | (apply WL.fa; rfl; rfl; rfl) | (apply WL.ld; rfl; rfl; rfl; assumption; rfl)))
    (refine WL.lookG rfl rfl (fun h => ?_) (fun h => ?_))
    · rw [h]
      (repeat (first | (apply WL.fa; rfl; rfl; rfl) | (apply WL.ldA; rfl; rfl; rfl; assumption; rfl)))
      refine WL.build (parts := []) rfl rfl rfl rfl ?_
      refine WL.nePat (a := r.2.2.1) rfl rfl rfl rfl ?_
      (repeat (apply WL.pure; rfl; rfl; rfl))
      (refine WL.lookG rfl rfl (fun h => ?_) (fun h => ?_))
      · rw [h]
        (repeat (first | (apply WL.pure; rfl; rfl; rfl) | (apply WL.nil) | (apply WL.pass; rfl; rfl)))
        exact EX.cut (by repeat (first | exact trivial | refine ⟨rfl, ?_⟩))
      · rw [h]
        (repeat (first | (apply WL.pure; rfl; rfl; rfl) | (apply WL.fa; rfl; rfl; rfl) | (apply WL.ld; rfl; rfl; rfl; assumption; rfl)))
        (refine WL.lookG rfl rfl (fun h => ?_) (fun h => ?_))
        · rw [h]
          (repeat (first | (apply WL.fa; rfl; rfl; rfl) | (apply WL.ldA; rfl; rfl; rfl; assumption; rfl)))
          refine WL.build (parts := []) rfl rfl rfl rfl ?_
          refine WL.neTpl (a := r.2.2.2.1) rfl rfl rfl rfl ?_
          (repeat (first | (apply WL.pure; rfl; rfl; rfl) | (apply WL.nil)))
          exact EX.cut (by repeat (first | exact trivial | refine ⟨rfl, ?_⟩))
        · rw [h]
          (repeat (first | (apply WL.pure; rfl; rfl; rfl) | (apply WL.nil) | (apply WL.pass; rfl; rfl)))
          exact EX.cut (by repeat (first | exact trivial | refine ⟨rfl, ?_⟩))
    · rw [h]
      (repeat (first | (apply WL.pure; rfl; rfl; rfl) | (apply WL.pass; rfl; rfl) | (apply WL.fa; rfl; rfl; rfl) | (apply WL.ld; rfl; rfl; rfl; assumption; rfl)))
      (refine WL.lookG rfl rfl (fun h => ?_) (fun h => ?_))
      · rw [h]
        (repeat (first | (apply WL.fa; rfl; rfl; rfl) | (apply WL.ldA; rfl; rfl; rfl; assumption; rfl)))
        refine WL.build (parts := []) rfl rfl rfl rfl ?_
        refine WL.neTpl (a := r.2.2.2.1) rfl rfl rfl rfl ?_
        (repeat (first | (apply WL.pure; rfl; rfl; rfl) | (apply WL.nil)))
        exact EX.cut (by repeat (first | exact trivial | refine ⟨rfl, ?_⟩))
      · rw [h]
        (repeat (first | (apply WL.pure; rfl; rfl; rfl) | (apply WL.nil) | (apply WL.pass; rfl; rfl)))
        exact EX.cut (by repeat (first | exact trivial | refine ⟨rfl, ?_⟩))
  refine CW.cut [(2, .pointer (some ⟨w0.heap.size, 0, none⟩)), (6, .bool (oth2 r))] ?_ ?_
  · unfold oth2 fillF
    (repeat (first | (apply WL.pure; rfl; rfl; rfl) | (apply CW.region)))
    (refine WL.lookG rfl rfl (fun h => ?_) (fun h => ?_))
    · rw [h]
      (repeat (first | (apply WL.pure; rfl; rfl; rfl) | (apply WL.nil) | (apply WL.pass; rfl; rfl)))
      exact EX.cut (by repeat (first | exact trivial | refine ⟨rfl, ?_⟩))
    rw [h]
    (repeat (first | (apply WL.pure; rfl; rfl; rfl) | (apply WL.fa; rfl; rfl; rfl) | (apply WL.ld; rfl; rfl; rfl; assumption; rfl)))
    (refine WL.lookG rfl rfl (fun h => ?_) (fun h => ?_))
    · rw [h]
      (repeat (first | (apply WL.pure; rfl; rfl; rfl) | (apply WL.fa; rfl; rfl; rfl) | (apply WL.ld; rfl; rfl; rfl; assumption; rfl)))
      (refine WL.lookG rfl rfl (fun h => ?_) (fun h => ?_))
      · rw [h]
        (repeat (first | (apply WL.pure; rfl; rfl; rfl) | (apply WL.nil) | (apply WL.pass; rfl; rfl)))
        exact EX.cut (by repeat (first | exact trivial | refine ⟨rfl, ?_⟩))
      rw [h]
      (repeat (first | (apply WL.pure; rfl; rfl; rfl) | (apply WL.fa; rfl; rfl; rfl) | (apply WL.ld; rfl; rfl; rfl; assumption; rfl)))
      (refine WL.lookG rfl rfl (fun h => ?_) (fun h => ?_))
      · rw [h]
        (repeat (first | (apply WL.pure; rfl; rfl; rfl) | (apply WL.nil) | (apply WL.pass; rfl; rfl)))
        exact EX.cut (by repeat (first | exact trivial | refine ⟨rfl, ?_⟩))
      rw [h]
      (repeat (first | (apply WL.pure; rfl; rfl; rfl) | (apply WL.nil) | (apply WL.lenS; rfl; rfl; rfl) | (apply WL.fa; rfl; rfl; rfl) | (apply WL.ld; rfl; rfl; rfl; assumption; rfl)))
      refine EX.cut ⟨rfl, ?_, trivial⟩
      refine congrArg (fun b => some (Value.bool b)) ?_
      rw [Bool.eq_iff_iff]; simp
    · rw [h]
      (repeat (first | (apply WL.pure; rfl; rfl; rfl) | (apply WL.nil) | (apply WL.pass; rfl; rfl)))
      exact EX.cut (by repeat (first | exact trivial | refine ⟨rfl, ?_⟩))
  rw [otherB_eq]
  unfold fillF
  (repeat (first | (apply WL.pure; rfl; rfl; rfl) | (apply CW.seq) | (apply CW.region)))
  (refine WL.lookG rfl rfl (fun h => ?_) (fun h => ?_))
  · rw [h]
    (repeat (first | (apply WL.pure; rfl; rfl; rfl) | (apply WL.nil) | (apply EX.thenN) | (apply CW.seq) | (apply CW.region) | (apply WL.pass; rfl; rfl) | (apply CW.condT; rfl) | (apply CW.ret) | (apply EX.thenR)))
    exact EX.ret1 rfl rfl ⟨rfl, hE⟩
  rw [h]
  clear h
  (repeat (first | (apply WL.pure; rfl; rfl; rfl) | (apply WL.fa; rfl; rfl; rfl) | (apply WL.ld; rfl; rfl; rfl; assumption; rfl)))
  (refine WL.lookG rfl rfl (fun h => ?_) (fun h => ?_))
  · rw [h]
    (repeat (first | (apply WL.pure; rfl; rfl; rfl) | (apply WL.fa; rfl; rfl; rfl) | (apply WL.ld; rfl; rfl; rfl; assumption; rfl)))
    (refine WL.lookG rfl rfl (fun h => ?_) (fun h => ?_))
    · rw [h]
      (repeat (first | (apply WL.pure; rfl; rfl; rfl) | (apply WL.nil) | (apply EX.thenN) | (apply CW.seq) | (apply CW.region) | (apply WL.pass; rfl; rfl) | (apply CW.condT; rfl) | (apply CW.ret) | (apply EX.thenR)))
      exact EX.ret1 rfl rfl ⟨rfl, hE⟩
    rw [h]
    (repeat (first | (apply WL.pure; rfl; rfl; rfl) | (apply WL.fa; rfl; rfl; rfl) | (apply WL.ld; rfl; rfl; rfl; assumption; rfl)))
    (refine WL.lookG rfl rfl (fun h => ?_) (fun h => ?_))
    · rw [h]
      (repeat (first | (apply WL.pure; rfl; rfl; rfl) | (apply WL.nil) | (apply EX.thenN) | (apply CW.seq) | (apply CW.region) | (apply WL.pass; rfl; rfl) | (apply CW.condT; rfl) | (apply CW.ret) | (apply EX.thenR)))
      exact EX.ret1 rfl rfl ⟨rfl, hE⟩
    rw [h]
    (repeat (first | (apply WL.pure; rfl; rfl; rfl) | (apply WL.nil) | (apply EX.thenN) | (apply WL.lenS; rfl; rfl; rfl) | (apply WL.fa; rfl; rfl; rfl) | (apply WL.ld; rfl; rfl; rfl; assumption; rfl)))
    refine CW.cond rfl (fun h => ?_) (fun h => ?_)
    · rw [if_pos (by simpa using h)]
      (repeat (first | (apply WL.pure; rfl; rfl; rfl) | (apply WL.nil) | (apply EX.thenN) | (apply CW.seq) | (apply CW.region) | (apply CW.ret) | (apply EX.thenR)))
      exact EX.ret1 rfl rfl ⟨rfl, hE⟩
    · rw [if_neg (by simpa using h)]
      (repeat (first | (apply WL.pure; rfl; rfl; rfl) | (apply WL.nil) | (apply EX.thenN) | (apply CW.seq) | (apply CW.region) | (apply CW.ret) | (apply CW.skip)))
      exact EX.ret1 rfl rfl ⟨rfl, hE⟩
  · rw [h]
    (repeat (first | (apply WL.pure; rfl; rfl; rfl) | (apply WL.nil) | (apply EX.thenN) | (apply CW.seq) | (apply CW.region) | (apply WL.pass; rfl; rfl) | (apply CW.condF; rfl) | (apply CW.ret) | (apply CW.skip)))
    exact EX.ret1 rfl rfl ⟨rfl, hE⟩
end Go.Proofs.YtikigaeihdmcaaaGreatDoor

/-
  Drawn regions in which several changes of memory may come in any order: a bag of operations, each of which only makes new memory. Over any program.
-/
set_option linter.unusedVariables false
set_option linter.unusedSimpArgs false
namespace Go.Proofs.YtikigaeihdmcaaaGreatDoor
open Go.RowKit

def Never : Exit → Act → World → Prop := fun _ _ _ => False
theorem wp_exits {P : Program} {o : Oper} {a : Act} {w : World} {K : Act → World → Prop} {Q Q' : Exit → Act → World → Prop} (hq : ∀ e a w, e ≠ .normal → Q e a w → Q' e a w) (h : o.wp P a w K Q) : o.wp P a w K Q' := by
  unfold Oper.wp at *
  generalize (execOp a.eval o).run P w = r at *
  cases r with
  | ok k w' =>
    cases k <;> simp only [Oper.upon] at h ⊢ <;> first
      | exact h
      | (refine Calls.mono h (fun e w'' he => ?_); cases e <;> first | exact he | exact hq _ _ _ (by simp) he | (obtain ⟨a1, w1, hx⟩ := he; exact ⟨a1, w1, hq _ _ _ (by simp) hx⟩))
  | halt x w' => cases x <;> simp only [Oper.upon] at h ⊢ <;> first | exact h | exact hq _ _ _ (by simp) h

/-- one of the bag: its number, its slot, and what is so of its value from then on -/
structure BE where
  i : Nat
  d : Nat
  /-- of the value, the new blocks that came with it, and the world -/
  Φ : Value → (Nat → Prop) → World → Prop
/-- behind the bag: each slot holds a value of which its fact is so; what came with one did not come with another -/
def BagK (w' : World) (G : Sg → Prop) : List (Nat → Prop) → List BE → Sg → Prop
  | _, [], σ => G σ
  | D, e :: r, σ => ∀ v N, e.Φ v N w' → (∀ p ∈ D, ∀ b, p b → N b → False) → BagK w' G (N :: D) r ((e.d, v) :: σ)
theorem BagK.get {w' : World} {G : Sg → Prop} {n : Nat} {a : Act} (NN : Nat → Nat → Prop) : ∀ (E : List BE) {D : List (Nat → Prop)} {σ : Sg}, BagK w' G D E σ → Fr n σ a → (∀ e ∈ E, e.d < n ∧ e.Φ (a.tmps.getD e.d undef) (NN e.i) w') →
    (∀ e ∈ E, ∀ p ∈ D, ∀ b, p b → NN e.i b → False) → (E.map (·.i)).Nodup → (∀ e ∈ E, ∀ f ∈ E, e.i ≠ f.i → ∀ b, NN e.i b → NN f.i b → False) → ∃ τ, Fr n τ a ∧ G τ
  | [], D, σ, h, ha, _, _, _, _ => ⟨σ, ha, h⟩
  | e :: r, D, σ, h, ha, hE, hD, hnd, hP => by
    have he := hE e (by simp)
    rw [List.map_cons, List.nodup_cons] at hnd
    refine BagK.get NN r (h _ _ he.2 (hD e (by simp))) ?_ (fun x hx => hE x (by simp [hx])) ?_ hnd.2 (fun x hx y hy => hP x (by simp [hx]) y (by simp [hy]))
    rotate_left
    · intro x hx p hp b hb hx'
      rcases List.mem_cons.1 hp with rfl | hp
      · exact hP e (by simp) x (by simp [hx]) (fun hi => hnd.1 (by rw [hi]; exact List.mem_map_of_mem hx)) b hb hx'
      · exact hD x (by simp [hx]) p hp b hb hx'
    refine ⟨ha.size, ha.defers, fun t u hu => ?_⟩
    by_cases ht : e.d = t
    · subst ht; rw [fnd_cons_eq] at hu; cases hu; rfl
    · rw [fnd_cons_ne ht] at hu; exact ha.slot _ _ hu
theorem nodup_inj {β γ : Type} {f : β → γ} : ∀ {l : List β}, (l.map f).Nodup → ∀ x ∈ l, ∀ y ∈ l, f x = f y → x = y
  | [], _, x, hx, _, _, _ => by simp at hx
  | z :: r, h, x, hx, y, hy, e => by
    rw [List.map_cons, List.nodup_cons] at h
    rcases List.mem_cons.1 hx with h1 | h1
    · rcases List.mem_cons.1 hy with h2 | h2
      · rw [h1, h2]
      · exact absurd (show f z ∈ r.map f by rw [← h1, e]; exact List.mem_map_of_mem h2) h.1
    · rcases List.mem_cons.1 hy with h2 | h2
      · exact absurd (show f z ∈ r.map f by rw [← h2, ← e]; exact List.mem_map_of_mem h1) h.1
      · exact nodup_inj h.2 x h1 y h2 e
section
variable {P : Program} {Q : Exit → Act → World → Prop} {n : Nat} {σ : Sg} {w : World} {L : List Oper} {S : World → Prop}
end
end Go.Proofs.YtikigaeihdmcaaaGreatDoor

/-
  Drawn regions whose last operation is alone and may change what the others read: S need not hold behind it. Over any program.
-/
set_option linter.unusedVariables false
set_option linter.unusedSimpArgs false
namespace Go.Proofs.YtikigaeihdmcaaaGreatDoor
open Go.RowKit

/-- whatever order is picked; behind each operation but number e the condition S holds -/
def wpAnyE (P : Program) (ops : Array Oper) (Q : Exit → Act → World → Prop) (S : World → Prop) (e : Nat) : Nat → Array Bool → Act → World → Prop
  | 0, listed, a, w => Region.ready .any ops listed = [] ∧ Q .normal a w
  | k + 1, listed, a, w => (Region.ready .any ops listed = [] → Q .normal a w) ∧ ∀ i ∈ Region.ready .any ops listed, wpOp P ops Q i (fun a' w' => (i ≠ e → S w') ∧ wpAnyE P ops Q S e k (listed.setIfInBounds i true) a' w') a w
theorem wpAny_of_E {P : Program} {ops : Array Oper} {Q : Exit → Act → World → Prop} {S : World → Prop} {e : Nat} : ∀ (k : Nat) (listed : Array Bool) (a : Act) (w : World), wpAnyE P ops Q S e k listed a w → wpAny P .any ops Q k listed a w
  | 0, _, _, _, h => h
  | k + 1, _, _, _, h => ⟨h.1, fun i hi => wpOp_mono (fun a' w' h' => wpAny_of_E k _ a' w' h'.2) (h.2 i hi)⟩
/-- does number e wait for number i? -/
def waitsB (ops : Array Oper) (e i : Nat) : Bool := match ops[e]? with
  | some o => o.after.toList.any fun ed => Region.binds .any ed && (ed.on == i)
  | none => false
theorem waits_not {ops : Array Oper} {e i : Nat} {listed : Array Bool} (hw : waitsB ops e i = true) (hi : listed.getD i false = false) : e ∉ Region.ready .any ops listed := by
  intro he
  obtain ⟨_, o, ho, hall⟩ := mem_ready.1 he
  unfold waitsB at hw
  rw [ho] at hw
  obtain ⟨ed, h1, h2⟩ := List.any_eq_true.1 hw
  simp only [Bool.and_eq_true, beq_iff_eq] at h2
  have := hall ed (by simpa using h1) h2.1
  rw [h2.2, hi] at this
  cases this
theorem ready_open {ops : Array Oper} {i : Nat} {listed : Array Bool} (h : i ∈ Region.ready .any ops listed) : listed.getD i false = false := by
  have h0 := (mem_ready.1 h).1
  rcases Nat.lt_or_ge i listed.size with h' | h'
  · simp [h'] at h0 ⊢; exact h0
  · simp [h']
theorem wpAnyE_take {P : Program} {ops : Array Oper} {Q : Exit → Act → World → Prop} {S : World → Prop} {e i : Nat} {oi : Oper} {v : Value} (hoi : ops[i]? = some oi) (hs : Region.noSelect ops = true) (hne : i ≠ e) (hwt : waitsB ops e i = true) (hQ : ∀ c a w, Q (.panic c) (a.put oi.dst v) w → Q (.panic c) a w) :
    ∀ (k : Nat) (listed : Array Bool) (a : Act) (w : World), (∀ j oj, ops[j]? = some oj → j ≠ i → listed.getD j true = false → (∀ ed ∈ oj.after, Region.binds .any ed = true → ed.on ≠ i) → oi.apart ops oj = true) →
      i ∈ Region.ready .any ops listed → YieldsIf P ops S oi v a → S w → wpAnyE P ops Q S e k (listed.setIfInBounds i true) (a.put oi.dst v) w → wpAnyE P ops Q S e (k + 1) listed a w := by
  have hsel := Region.noSelect_spec hs
  intro k
  induction k with
  | zero =>
    intro listed a w _ hr hy hS H
    refine ⟨fun h => (by rw [h] at hr; cases hr), fun j hj => ?_⟩
    by_cases hji : j = i
    · subst hji; exact hy.wpOp hoi hS ⟨fun _ => hS, H⟩
    · have := ready_mono hj hji
      rw [H.1] at this
      cases this
  | succ k ih =>
    intro listed a w hfree hr hy hS H
    refine ⟨fun h => (by rw [h] at hr; cases hr), fun j hj => ?_⟩
    by_cases hji : j = i
    · subst hji; exact hy.wpOp hoi hS ⟨fun _ => hS, H⟩
    · have hje : j ≠ e := fun h => waits_not hwt (ready_open hr) (h ▸ hj)
      obtain ⟨hopen, oj, hoj, hall⟩ := mem_ready.1 hj
      have hno : ∀ ed ∈ oj.after, Region.binds .any ed = true → ed.on ≠ i := fun ed h1 h2 h3 => by
        have h4 := hall ed h1 h2
        rw [h3, ready_open hr] at h4
        cases h4
      have hput := wpOp_putIf hoj (hfree j oj hoj hji hopen hno) (fun cs b => hsel i oi cs b hoi) (fun cs b => hsel j oj cs b hoj) hQ hy (H.2 j (ready_mono hj hji))
      refine wpOp_mono (fun a' w' h3 => ⟨fun _ => h3.2.1 hje, ih (listed.setIfInBounds j true) a' w' (fun m om hm hmi hun hn => hfree m om hm hmi ?_ hn) (ready_mono hr (Ne.symm hji)) h3.1 (h3.2.1 hje) ?_⟩) hput
      · by_cases hjm : j = m
        · subst hjm; exact hopen
        · rw [getD_set_ne true hjm] at hun; exact hun
      · rw [Array.setIfInBounds_comm _ _ hji]
        exact h3.2.2

/-- the order: s, and then e alone -/
def ordE (ops : Array Oper) (e : Nat) : List (Nat × Bool) → Array Bool → Bool
  | [], listed => decide (Region.ready .any ops listed = [e]) && (Region.ready .any ops (listed.setIfInBounds e true)).isEmpty
  | (i, true) :: s, listed => (Region.ready .any ops listed).contains i && Region.free .any ops listed i && !(i == e) && waitsB ops e i && ordE ops e s (listed.setIfInBounds i true)
  | (i, false) :: s, listed => decide (Region.ready .any ops listed = [i]) && ordE ops e s (listed.setIfInBounds i true)
def ordEOk (l : List Oper) (s : List (Nat × Bool)) (e : Nat) : Bool := Region.noSelect l.toArray && decide (s.length + 1 = l.length) && ordE l.toArray e s (Array.replicate l.length false)
/-- number e, alone and last -/
def TailQ (P : Program) (ops : List Oper) (Q : Exit → Act → World → Prop) (e : Nat) : Exit → Act → World → Prop :=
  fun x a w => x = .normal ∧ ∃ o, ops[e]? = some o ∧ wpList P ops.toArray (fun x a w => x = .normal ∧ Q .normal a w) [o] a w
theorem wpHLe_sound {P : Program} {ops : List Oper} {S : World → Prop} {Q : Exit → Act → World → Prop} {e : Nat} (hs : Region.noSelect ops.toArray = true) :
    ∀ (s : List (Nat × Bool)) (listed : Array Bool) (a : Act) (w : World), ordE ops.toArray e s listed = true → S w → wpHL P ops S (fun a w => TailQ P ops Q e .normal a w) s a w → wpAnyE P ops.toArray (fun x a w => x = .normal ∧ Q .normal a w) S e (s.length + 1) listed a w
  | [], listed, a, w, hB, hS, h => by
    simp only [ordE, Bool.and_eq_true, decide_eq_true_eq, List.isEmpty_iff] at hB
    obtain ⟨_, o, ho, hl⟩ := h
    refine ⟨fun h0 => (by rw [hB.1] at h0; cases h0), fun i hi => ?_⟩
    rw [hB.1, List.mem_singleton] at hi
    subst hi
    have ho' : ops.toArray[i]? = some o := by simpa using ho
    unfold wpOp
    simp only [ho']
    simp only [wpList] at hl
    split
    · rename_i hw
      rw [if_pos hw] at hl
      exact hl.imp (Oper.wp_mono fun a' w' h' => ⟨fun h => absurd rfl h, hB.2, rfl, h'.2⟩) id
    · rename_i hw
      rw [if_neg hw] at hl
      exact ⟨fun h => absurd rfl h, hB.2, rfl, hl.2⟩
  | (i, true) :: s, listed, a, w, hB, hS, ⟨o, v, ho, hy, h⟩ => by
    simp only [ordE, Bool.and_eq_true, Bool.not_eq_true', beq_eq_false_iff_ne] at hB
    obtain ⟨⟨⟨⟨h1, h2⟩, h3⟩, h4⟩, h5⟩ := hB
    have ho' : ops.toArray[i]? = some o := by simpa using ho
    exact wpAnyE_take ho' hs h3 h4 (fun _ _ _ h => by cases h.1) _ _ _ _ (Region.free_spec ho' h2) (by simpa using h1) hy hS (wpHLe_sound hs s _ _ _ h5 hS h)
  | (i, false) :: s, listed, a, w, hB, hS, ⟨o, ho, h⟩ => by
    simp only [ordE, Bool.and_eq_true, decide_eq_true_eq] at hB
    refine ⟨fun h0 => (by rw [hB.1] at h0; cases h0), fun j hj => ?_⟩
    rw [hB.1, List.mem_singleton] at hj
    subst hj
    have ho' : ops.toArray[j]? = some o := by simpa using ho
    unfold wpOp
    simp only [ho']
    split
    · rename_i hw
      rw [if_pos hw] at h
      exact .inl (Oper.wp_mono (fun a' w' h' => ⟨fun _ => h'.1, wpHLe_sound hs s _ _ _ hB.2 h'.1 h'.2⟩) (wp_exits (fun x a w hne hf => absurd hf.1 hne) h))
    · rename_i hw
      rw [if_neg hw] at h
      exact ⟨fun _ => h.1, wpHLe_sound hs s _ _ _ hB.2 h.1 h.2⟩
section
variable {P : Program} {Q : Exit → Act → World → Prop} {n : Nat} {σ : Sg} {w : World} {L : List Oper} {S : World → Prop}
theorem CW.drawE {id : Nat} (S : World → Prop) (s : List (Nat × Bool)) (e : Nat) (hm : P.follows .mixedOrders = true) (hB : ordEOk L s e = true) (hS : S (drew w)) (h : HL P L S (TailQ P L Q e) s n σ (drew w)) : CW P (.region id L.toArray true) Q n σ w := by
  unfold CW; unfold HL at h; intro a ha
  simp only [ordEOk, Bool.and_eq_true, decide_eq_true_eq] at hB
  obtain ⟨⟨hs, hl⟩, hB⟩ := hB
  have h1 := wpHLe_sound (Q := Q) hs s (Array.replicate L.length false) a (Go.Proofs.YtikigaeihdmcaaaGreatDoor.drew w) hB hS (h a ha)
  rw [hl] at h1
  have h2 : (Code.region id L.toArray true).wp P (fun x a w => x = .normal ∧ Q .normal a w) a w := wp_region_any hm (by simpa using wpAny_of_E _ _ _ _ h1)
  exact wp_mono h2 (fun e a' w' ⟨he, hq⟩ => by subst he; exact hq)
/-- the last operation, by the rule for its like -/
theorem EX.tail {e : Nat} {o : Oper} (ho : nthO L e = some o) (h : WL P L (fun x a w => x = .normal ∧ Q .normal a w) [o] n σ w) : EX (TailQ P L Q e) .normal n σ w := by
  unfold EX; unfold WL at h
  intro a ha
  rw [nthO_eq] at ho
  exact ⟨rfl, o, ho, h a ha⟩
theorem EX.tailE (h : EX Q .normal n σ w) : EX (fun x a w => x = .normal ∧ Q .normal a w) .normal n σ w := by
  unfold EX at *; exact fun a ha => ⟨rfl, h a ha⟩
end
section
variable {P : Program} {Q : Exit → Act → World → Prop} {n : Nat} {σ : Sg} {wc : World} {L : List Oper} {S : World → Prop} {i j d : Nat} {ty : TypeId} {pos : String} {af : Array Edge} {g : Option (Nat × Bool)} {ty' : TypeId} {pos' : String} {af' : Array Edge} {g' : Option (Nat × Bool)} {t e : TypeId} {x ix y : Operand}
variable {α : Type} [Rep α] {F : Nat → Prop}
end
section
variable {P : Program} {Q : Exit → Act → World → Prop} {n : Nat} {σ : Sg} {w wc : World} {L : List Oper} {S : World → Prop} {ord : List (Nat × Bool)} {i d : Nat} {ty : TypeId} {pos : String} {af : Array Edge} {g : Option (Nat × Bool)} {t e : TypeId} {x : Operand} {b o : Nat} {cells : List Value}
/-- a field of a struct that nobody changes meanwhile -/
theorem HL.ldK {v : Value} (hK : ∀ w1, S w1 → w1.heap[b]? = w.heap[b]?) (ho : nthO L i = some ⟨some d, .load t x, ty, pos, af, g⟩) (hg : gd L σ ⟨some d, .load t x, ty, pos, af, g⟩ = some true) (hd : Nat.ble (d + 1) n = true) (hx : ev σ x = some (.pointer (some ⟨b, o, none⟩))) [hc : IsC P t 1 false] (hb : Blk w b e cells) (hv : nthV cells o = some v)
    (h : HL P L S Q ord n ((d, v) :: σ) wc) : HL P L S Q ((i, true) :: ord) n σ wc := by
  refine HL.run ho hg hd (fun a ha w' hsw => ?_) h
  have hb' : Blk w' b e cells := (hK w' hsw).trans hb
  simp [execOp, ha.ev hx, run_ld (P := P) (t := t) w' hb' hv]
end
end Go.Proofs.YtikigaeihdmcaaaGreatDoor

/-
  Drawn regions whose operations, whatever the order, only make new memory: walked in the order of the text. What is known of each value lasts. Over any program.
-/
set_option linter.unusedVariables false
set_option linter.unusedSimpArgs false
namespace Go.Proofs.YtikigaeihdmcaaaGreatDoor
open Go.RowKit

/-- what is known of an operation that has been walked: its number, its slot; its value, or a fact of it (of the value, of who made which block, of the world) -/
inductive ME where
  | kn (i d : Nat) (v : Value)
  | fc (i d : Nat) (Φ : Value → (Nat → Nat) → World → Prop)
def ME.i : ME → Nat | .kn i _ _ => i | .fc i _ _ => i
def ME.d : ME → Nat | .kn _ d _ => d | .fc _ d _ => d
def ME.Φ : ME → Value → (Nat → Nat) → World → Prop | .kn _ _ v => fun u _ _ => u = v | .fc _ _ Φ => Φ
def StM (Φ : Value → (Nat → Nat) → World → Prop) : Prop := ∀ v γ γ' w w', Φ v γ w → Ext w w' → (∀ b, b < w.heap.size → γ' b = γ b) → Φ v γ' w'
def ME.ok (m : ME) : Prop := StM m.Φ
/-- the new blocks are i's -/
def byM (γ : Nat → Nat) (w : World) (i : Nat) : Nat → Nat := fun b => if b < w.heap.size then γ b else i
abbrev Ctx := List ME
def findM : Ctx → Nat → Option ME
  | [], _ => none
  | m :: r, j => match Nat.beq m.i j with | true => some m | false => findM r j
theorem findM_mem : ∀ {Γ : Ctx} {j : Nat} {m : ME}, findM Γ j = some m → m ∈ Γ ∧ m.i = j
  | [], _, _, h => by cases h
  | x :: r, j, m, h => by
    unfold findM at h
    split at h
    · rename_i e
      injection h with h
      subst h
      exact ⟨by simp, Nat.eq_of_beq_eq_true e⟩
    · obtain ⟨h1, h2⟩ := findM_mem h
      exact ⟨by simp [h1], h2⟩
def elN (j : Nat) : List Nat → Bool
  | [] => false
  | x :: r => match Nat.beq x j with | true => true | false => elN j r
theorem elN_mem {j : Nat} : ∀ {l : List Nat}, elN j l = true → j ∈ l
  | [], h => by cases h
  | x :: r, h => by
    unfold elN at h
    split at h
    · rename_i e; rw [Nat.eq_of_beq_eq_true e]; simp
    · exact List.mem_cons_of_mem _ (elN_mem h)
/-- the edges that an operation waits for, each once -/
def onsL : List Edge → List Nat
  | [] => []
  | e :: r => match Region.binds .any e with
    | true => (match elN e.on (onsL r) with | true => onsL r | false => e.on :: onsL r)
    | false => onsL r
def ons (o : Oper) : List Nat := onsL o.after.toList
theorem onsL_mem {j : Nat} : ∀ {l : List Edge}, j ∈ onsL l → ∃ e ∈ l, Region.binds .any e = true ∧ e.on = j
  | [], h => by cases h
  | e :: r, h => by
    have up : j ∈ onsL r → ∃ e' ∈ e :: r, Region.binds .any e' = true ∧ e'.on = j := fun h => by
      obtain ⟨e', h1, h2⟩ := onsL_mem h; exact ⟨e', by simp [h1], h2⟩
    unfold onsL at h
    split at h
    · rename_i hb
      split at h
      · exact up h
      · rcases List.mem_cons.1 h with rfl | h
        · exact ⟨e, by simp, hb, rfl⟩
        · exact up h
    · exact up h
theorem ons_mem {o : Oper} {j : Nat} (h : j ∈ ons o) : ∃ e ∈ o.after, Region.binds .any e = true ∧ e.on = j := by
  obtain ⟨e, h1, h2⟩ := onsL_mem h
  exact ⟨e, by simpa using h1, h2⟩
/-- the slots that an operation finds: those of values that are known -/
def kS (Γ : Ctx) (σ : Sg) : List Nat → Sg
  | [] => σ
  | j :: r => match findM Γ j with | some (.kn _ d v) => (d, v) :: kS Γ σ r | _ => kS Γ σ r
/-- .. and of facts -/
def needK (Γ : Ctx) (γ : Nat → Nat) (w : World) (k : Sg → Prop) : List Nat → Sg → Prop
  | [], σ => k σ
  | j :: r, σ => match findM Γ j with
    | some (.kn _ d v) => needK Γ γ w k r ((d, v) :: σ)
    | some (.fc _ d Φ) => ∀ v, Φ v γ w → needK Γ γ w k r ((d, v) :: σ)
    | none => needK Γ γ w k r σ
def allK (γ : Nat → Nat) (w : World) (k : Sg → Prop) : Ctx → Sg → Prop
  | [], σ => k σ
  | .kn _ d v :: r, σ => allK γ w k r ((d, v) :: σ)
  | .fc _ d Φ :: r, σ => ∀ v, Φ v γ w → allK γ w k r ((d, v) :: σ)
theorem fr_cons {n : Nat} {σ : Sg} {a : Act} {d : Nat} {v : Value} (h : Fr n σ a) (hv : a.tmps.getD d undef = v) : Fr n ((d, v) :: σ) a := by
  refine ⟨h.size, h.defers, fun t u hu => ?_⟩
  by_cases e : d = t
  · subst e; rw [fnd_cons_eq] at hu; cases hu; exact hv
  · rw [fnd_cons_ne e] at hu; exact h.slot _ _ hu
theorem kS_fr {Γ : Ctx} {n : Nat} {σ : Sg} {a : Act} {γ : Nat → Nat} {w : World} (ha : Fr n σ a) : ∀ (l : List Nat), (∀ j ∈ l, ∀ m ∈ Γ, m.i = j → m.Φ (a.tmps.getD m.d undef) γ w) → Fr n (kS Γ σ l) a
  | [], _ => ha
  | j :: r, h => by
    have ih := kS_fr (γ := γ) (w := w) ha r (fun x hx => h x (by simp [hx]))
    unfold kS
    split
    · rename_i i d v hf
      obtain ⟨h1, h2⟩ := findM_mem hf
      exact fr_cons ih (h j (by simp) _ h1 h2)
    · exact ih
theorem needK_fr {Γ : Ctx} {n : Nat} {a : Act} {γ : Nat → Nat} {w : World} {k : Sg → Prop} : ∀ (l : List Nat) (σ : Sg), needK Γ γ w k l σ → Fr n σ a → (∀ j ∈ l, ∀ m ∈ Γ, m.i = j → m.Φ (a.tmps.getD m.d undef) γ w) → ∃ τ, Fr n τ a ∧ k τ
  | [], σ, h, ha, _ => ⟨σ, ha, h⟩
  | j :: r, σ, h, ha, hΦ => by
    unfold needK at h
    have hr : ∀ x ∈ r, ∀ m ∈ Γ, m.i = x → m.Φ (a.tmps.getD m.d undef) γ w := fun x hx => hΦ x (by simp [hx])
    split at h
    · rename_i i d v hf
      obtain ⟨h1, h2⟩ := findM_mem hf
      exact needK_fr r _ h (fr_cons ha (hΦ j (by simp) _ h1 h2)) hr
    · rename_i i d Φ hf
      obtain ⟨h1, h2⟩ := findM_mem hf
      exact needK_fr r _ (h _ (hΦ j (by simp) _ h1 h2)) (fr_cons ha rfl) hr
    · exact needK_fr r _ h ha hr
theorem allK_fr {n : Nat} {a : Act} {γ : Nat → Nat} {w : World} {k : Sg → Prop} : ∀ (Γ : Ctx) (σ : Sg), allK γ w k Γ σ → Fr n σ a → (∀ m ∈ Γ, m.Φ (a.tmps.getD m.d undef) γ w) → ∃ τ, Fr n τ a ∧ k τ
  | [], σ, h, ha, _ => ⟨σ, ha, h⟩
  | .kn i d v :: r, σ, h, ha, hΦ => allK_fr r _ h (fr_cons ha (hΦ (.kn i d v) (by simp))) (fun m hm => hΦ m (by simp [hm]))
  | .fc i d Φ :: r, σ, h, ha, hΦ => allK_fr r _ (h _ (hΦ (.fc i d Φ) (by simp))) (fr_cons ha rfl) (fun m hm => hΦ m (by simp [hm]))
/-- behind one operation -/
def AftM (γ : Nat → Nat) (w : World) (i d : Nat) (Φ : Value → (Nat → Nat) → World → Prop) : Exit → Act → World → Prop :=
  fun x a w' => x = .normal ∧ a.defers = [] ∧ Ext w w' ∧ Φ (a.tmps.getD d undef) (byM γ w i) w'
theorem EX.mm {γ : Nat → Nat} {w w' : World} {n i d : Nat} {σ : Sg} {v : Value} {Φ : Value → (Nat → Nat) → World → Prop} (hv : fnd σ d = some v) (hE : Ext w w') (hΦ : Φ v (byM γ w i) w') : EX (AftM γ w i d Φ) .normal n σ w' := by
  unfold EX
  intro a ha
  exact ⟨rfl, ha.defers, hE, by rw [ha.slot _ _ hv]; exact hΦ⟩
/-- what one operation does, wherever it comes; or it isn't wanted -/
def OB (P : Program) (L : List Oper) (w0 : World) (n : Nat) (σ : Sg) (Γ : Ctx) (o : Oper) (i d : Nat) (Φ : Value → (Nat → Nat) → World → Prop) : Prop :=
  ∀ w γ, Ext w0 w → ∀ a, Fr n σ a → (∀ j ∈ ons o, ∀ m ∈ Γ, m.i = j → m.Φ (a.tmps.getD m.d undef) γ w) →
    (Region.wanted o (yielded L.toArray a.tmps) = true ∧ o.wp P a w (fun a' w' => Ext w w' ∧ ∃ v, a' = a.put (some d) v ∧ Φ v (byM γ w i) w') Never) ∨ (Region.wanted o (yielded L.toArray a.tmps) = false ∧ Φ undef (byM γ w i) w)
/-- the walk -/
def ML (P : Program) (L : List Oper) (w0 : World) (n : Nat) (σ : Sg) (K : Ctx → Prop) : Nat → Ctx → List Oper → Prop
  | _, Γ, [] => K Γ
  | i, Γ, o :: r => ∃ m : ME, m.i = i ∧ o.dst = some m.d ∧ Nat.ble (m.d + 1) n = true ∧ fnd σ m.d = none ∧ m.ok ∧ OB P L w0 n σ Γ o i m.d m.Φ ∧ ML P L w0 n σ K (i + 1) (m :: Γ) r
theorem aft_wp {P : Program} {o : Oper} {i d n : Nat} {L : List Oper} {γ : Nat → Nat} {Φ : Value → (Nat → Nat) → World → Prop} {a : Act} {w : World} {τ : Sg} (hd : o.dst = some d) (hn : Nat.ble (d + 1) n = true) (ha : Fr n τ a) (hw : Region.wanted o (yielded L.toArray a.tmps) = true) (h : WL P L (AftM γ w i d Φ) [o] n τ w) :
    o.wp P a w (fun a' w' => Ext w w' ∧ ∃ v, a' = a.put (some d) v ∧ Φ v (byM γ w i) w') Never := by
  unfold WL at h
  have h2 := h a ha
  simp only [wpList, hw, if_true] at h2
  have hlt : d < n := Nat.le_of_ble_eq_true hn
  have hget : ∀ v, (a.put (some d) v).tmps.getD d undef = v := by
    intro v
    simp [Act.put, Array.getD, ha.size, hlt]
  rcases h2 with h2 | ⟨_, hl⟩
  · unfold Oper.wp at *
    obtain ⟨dst, op, ty, pos, af, g⟩ := o
    simp only at hd
    subst hd
    generalize (execOp a.eval _).run P w = r at *
    cases r with
    | ok k w' =>
      cases k <;> simp only [Oper.upon] at h2 ⊢ <;> first
        | exact ⟨h2.2.2.1, _, rfl, by have := h2.2.2.2; rw [hget] at this; exact this⟩
        | (exfalso; have := h2.2.1; simp [Act.put] at this; done)
        | (refine Calls.mono h2 (fun x w'' he => ?_)
           cases x
           · exact ⟨he.2.2.1, _, rfl, by have := he.2.2.2; rw [hget] at this; exact this⟩
           · exact absurd he.1 (by simp)
           · obtain ⟨_, _, hx⟩ := he; exact absurd hx.1 (by simp))
        | exact Rows.mono h2 (fun v w'' he => ⟨he.2.2.1, _, rfl, by have := he.2.2.2; rw [hget] at this; exact this⟩)
        | exact h2
    | halt x w' => cases x <;> simp only [Oper.upon] at h2 ⊢ <;> first | exact h2 | exact absurd h2.1 (by simp)
  · obtain ⟨_, _, hx⟩ := hl
    exact absurd hx.1 (by simp)
section
variable {P : Program} {L : List Oper} {w0 : World} {n : Nat} {σ : Sg} {K : Ctx → Prop} {i d : Nat} {Γ : Ctx} {r : List Oper} {op : Op} {ty : TypeId} {pos : String} {af : Array Edge} {g : Option (Nat × Bool)}
/-- an operation whose value is known, by the rule for its like -/
theorem ML.q {v : Value} (hg : gd L (kS Γ σ (onsL af.toList)) ⟨some d, op, ty, pos, af, g⟩ = some true) (hn : Nat.ble (d + 1) n = true) (hf : fnd σ d = none)
    (h : ∀ γ w, Ext w0 w → WL P L (AftM γ w i d (fun u _ _ => u = v)) [⟨some d, op, ty, pos, af, g⟩] n (kS Γ σ (onsL af.toList)) w) (hr : ML P L w0 n σ K (i + 1) (.kn i d v :: Γ) r) :
    ML P L w0 n σ K i Γ (⟨some d, op, ty, pos, af, g⟩ :: r) := by
  refine ⟨.kn i d v, rfl, rfl, hn, hf, fun u _ _ w w' h _ _ => h, fun w γ hw a ha hΦ => .inl ?_, hr⟩
  have hk : Fr n (kS Γ σ (onsL af.toList)) a := kS_fr ha _ hΦ
  have hwa := gd_wanted hk hg
  exact ⟨hwa, aft_wp rfl hn hk hwa (h γ w hw)⟩
/-- one that isn't wanted -/
theorem ML.pass (hg : gd L (kS Γ σ (onsL af.toList)) ⟨some d, op, ty, pos, af, g⟩ = some false) (hn : Nat.ble (d + 1) n = true) (hf : fnd σ d = none)
    (hr : ML P L w0 n σ K (i + 1) (.kn i d undef :: Γ) r) : ML P L w0 n σ K i Γ (⟨some d, op, ty, pos, af, g⟩ :: r) := by
  refine ⟨.kn i d undef, rfl, rfl, hn, hf, fun u _ _ w w' h _ _ => h, fun w γ hw a ha hΦ => .inr ?_, hr⟩
  have hk : Fr n (kS Γ σ (onsL af.toList)) a := kS_fr ha _ hΦ
  exact ⟨gd_wanted hk hg, rfl⟩
/-- one of whose value a fact is known -/
theorem ML.fc (Φ : Value → (Nat → Nat) → World → Prop) (hg : gd L (kS Γ σ (onsL af.toList)) ⟨some d, op, ty, pos, af, g⟩ = some true) (hn : Nat.ble (d + 1) n = true) (hf : fnd σ d = none) (hs : StM Φ)
    (h : ∀ γ w, Ext w0 w → needK Γ γ w (fun τ => WL P L (AftM γ w i d Φ) [⟨some d, op, ty, pos, af, g⟩] n τ w) (onsL af.toList) σ) (hr : ML P L w0 n σ K (i + 1) (.fc i d Φ :: Γ) r) :
    ML P L w0 n σ K i Γ (⟨some d, op, ty, pos, af, g⟩ :: r) := by
  refine ⟨.fc i d Φ, rfl, rfl, hn, hf, hs, fun w γ hw a ha hΦ => .inl ?_, hr⟩
  have hk : Fr n (kS Γ σ (onsL af.toList)) a := kS_fr ha _ hΦ
  have hwa := gd_wanted hk hg
  obtain ⟨τ, hτ, hW⟩ := needK_fr _ _ (h γ w hw) ha hΦ
  exact ⟨hwa, aft_wp rfl hn hτ hwa hW⟩
/-- the same, its value known, facts looked at -/
theorem ML.kc {v : Value} (hg : gd L (kS Γ σ (onsL af.toList)) ⟨some d, op, ty, pos, af, g⟩ = some true) (hn : Nat.ble (d + 1) n = true) (hf : fnd σ d = none)
    (h : ∀ γ w, Ext w0 w → needK Γ γ w (fun τ => WL P L (AftM γ w i d (fun u _ _ => u = v)) [⟨some d, op, ty, pos, af, g⟩] n τ w) (onsL af.toList) σ) (hr : ML P L w0 n σ K (i + 1) (.kn i d v :: Γ) r) :
    ML P L w0 n σ K i Γ (⟨some d, op, ty, pos, af, g⟩ :: r) := by
  refine ⟨.kn i d v, rfl, rfl, hn, hf, fun u _ _ w w' h _ _ => h, fun w γ hw a ha hΦ => .inl ?_, hr⟩
  have hk : Fr n (kS Γ σ (onsL af.toList)) a := kS_fr ha _ hΦ
  have hwa := gd_wanted hk hg
  obtain ⟨τ, hτ, hW⟩ := needK_fr _ _ (h γ w hw) ha hΦ
  exact ⟨hwa, aft_wp rfl hn hτ hwa hW⟩
end
/- THE ORDERS -/
def dOf (L : List Oper) (i : Nat) : Option Nat := match L[i]? with | some o => o.dst | none => none
/-- all that must come ahead, by marks -/
def mark (L : List Oper) : Nat → List Bool → List Bool
  | 0, m => m
  | i + 1, m => match m.getD i false, L[i]? with
    | true, some o => mark L i ((ons o).foldl (fun m j => m.set j true) m)
    | _, _ => mark L i m
/-- the first k only wait for earlier ones and have slots of their own; each behind them waits for all that stand ahead -/
def monoB (L : List Oper) (k : Nat) : Bool :=
  Region.noSelect L.toArray && (List.range L.length).all (fun i => match L[i]? with | some o => (ons o).all fun j => decide (j < i) | none => false) &&
  (List.range k).all (fun i => (List.range i).all fun j => match dOf L i, dOf L j with | some x, some y => !(Nat.beq x y) | _, _ => false) &&
  decide (k ≤ L.length) && (List.range (L.length - k)).all fun p => (List.range (k + p)).all fun i => (mark L (k + p + 1) ((List.replicate (k + p + 1) false).set (k + p) true)).getD i false
theorem mark_sound {L : List Oper} {S : Nat → Prop} (hS : ∀ i o, S i → L[i]? = some o → ∀ j ∈ ons o, S j) : ∀ (i : Nat) (m : List Bool), (∀ x, m.getD x false = true → S x) → ∀ x, (mark L i m).getD x false = true → S x
  | 0, m, h, x, hx => h x hx
  | i + 1, m, h, x, hx => by
    unfold mark at hx
    split at hx
    · rename_i o hm ho
      refine mark_sound hS i _ ?_ x hx
      have hSi := hS i o (h i hm) ho
      have key : ∀ (l : List Nat) (m : List Bool), (∀ j ∈ l, S j) → (∀ x, m.getD x false = true → S x) → ∀ x, (l.foldl (fun m j => m.set j true) m).getD x false = true → S x := by
        intro l
        induction l with
        | nil => intro m _ h x hx; exact h x hx
        | cons j l ih =>
          intro m hl h x hx
          refine ih _ (fun y hy => hl y (by simp [hy])) (fun y hy => ?_) x hx
          by_cases e : j = y
          · subst e; exact hl _ (by simp)
          · refine h y ?_
            simpa [List.getD_eq_getElem?_getD, List.getElem?_set, e] using hy
      exact key _ _ hSi h
    · exact mark_sound hS i _ h x hx
/-- what the walk gives -/
structure MG (P : Program) (L : List Oper) (w0 : World) (n : Nat) (σ : Sg) (Γ : Ctx) (i : Nat) (o : Oper) : Prop where
  ex : ∃ m ∈ Γ, ∃ Δ : Ctx, (∀ x ∈ Δ, x ∈ Γ) ∧ m.i = i ∧ o.dst = some m.d ∧ Nat.ble (m.d + 1) n = true ∧ fnd σ m.d = none ∧ OB P L w0 n σ Δ o i m.d m.Φ
theorem ML_get {P : Program} {L : List Oper} {w0 : World} {n : Nat} {σ : Sg} {K : Ctx → Prop} : ∀ (r : List Oper) (i : Nat) (Γ : Ctx), ML P L w0 n σ K i Γ r → (∀ m ∈ Γ, m.i < i ∧ m.ok) → (Γ.map (·.i)).Nodup →
    ∃ Γ' : Ctx, K Γ' ∧ (∀ m ∈ Γ, m ∈ Γ') ∧ (∀ m ∈ Γ', m.i < i + r.length ∧ m.ok) ∧ (Γ'.map (·.i)).Nodup ∧ ∀ j o, r[j]? = some o → MG P L w0 n σ Γ' (i + j) o
  | [], i, Γ, h, hΓ, hd => ⟨Γ, h, fun m h => h, hΓ, hd, fun j o h => by simp at h⟩
  | o :: r, i, Γ, h, hΓ, hd => by
    obtain ⟨m, h1, h2, h3, h4, h5, h6, h7⟩ := h
    obtain ⟨Γ', g1, g2, g3, g4, g5⟩ := ML_get r (i + 1) (m :: Γ) h7 (fun x hx => by
      rcases List.mem_cons.1 hx with rfl | hx
      · exact ⟨by omega, h5⟩
      · have := hΓ x hx; exact ⟨by omega, this.2⟩) (by
      rw [List.map_cons, List.nodup_cons]
      refine ⟨fun hm => ?_, hd⟩
      obtain ⟨x, hx, e⟩ := List.mem_map.1 hm
      have := (hΓ x hx).1; omega)
    refine ⟨Γ', g1, fun x hx => g2 x (by simp [hx]), fun x hx => by have := g3 x hx; simp only [List.length_cons]; exact ⟨by omega, this.2⟩, g4, fun j o' hj => ?_⟩
    cases j with
    | zero =>
      simp at hj
      subst hj
      exact ⟨m, g2 m (by simp), Γ, fun x hx => g2 x (by simp [hx]), h1, h2, h3, h4, h6⟩
    | succ j =>
      have := g5 j o' (by simpa using hj)
      rwa [show i + (j + 1) = i + 1 + j by omega]
theorem map_inj {β γ : Type} {f : β → γ} {l : List β} (h : (l.map f).Nodup) : ∀ x ∈ l, ∀ y ∈ l, f x = f y → x = y := fun x hx y hy => nodup_inj h x hx y hy
structure MInv (L : List Oper) (w0 : World) (n : Nat) (σ : Sg) (Γ : Ctx) (k : Nat) (listed : Array Bool) (a : Act) (γ : Nat → Nat) (w : World) : Prop where
  size : listed.size = L.length
  fr : Fr n σ a
  ext : Ext w0 w
  facts : ∀ m ∈ Γ, listed.getD m.i false = true → m.Φ (a.tmps.getD m.d undef) γ w
  closed : ∀ i o, listed.getD i false = true → L[i]? = some o → ∀ j ∈ ons o, listed.getD j false = true
  low : ∀ i, listed.getD i false = true → i < k
theorem listed_set {l : Array Bool} {i j : Nat} : (l.setIfInBounds i true).getD j false = true ↔ (j = i ∧ i < l.size) ∨ l.getD j false = true := by
  simp only [Array.getD_eq_getD_getElem?, Array.getElem?_setIfInBounds]
  by_cases e : i = j
  · subst e
    by_cases h : i < l.size
    · simp [h]
    · simp [h]
  · rw [if_neg e]
    constructor
    · exact fun h => .inr h
    · rintro (⟨h, _⟩ | h)
      · exact absurd h.symm e
      · exact h
theorem count_set {l : Array Bool} {i : Nat} (h : l.getD i true = false) : (l.setIfInBounds i true).toList.countP (fun b => !b) + 1 = l.toList.countP fun b => !b := by
  have hi : i < l.size := by
    rcases Nat.lt_or_ge i l.size with h' | h'
    · exact h'
    · simp [Array.getD_eq_getD_getElem?, Array.getElem?_eq_none h'] at h
  have hv : l[i] = false := by simpa [Array.getD_eq_getD_getElem?, hi] using h
  have h1 : (l.setIfInBounds i true).toList = l.toList.set i true := by simp
  rw [h1, List.countP_set (by simpa using hi)]
  have h2 : l.toList[i]'(by simpa using hi) = false := by simpa using hv
  rw [h2]
  have : 0 < l.toList.countP fun b => !b := List.countP_pos_iff.2 ⟨false, h2 ▸ List.getElem_mem _, rfl⟩
  generalize (l.toList.countP fun b => !b) = c at *
  simp only [Bool.not_false, Bool.not_true, if_true, Bool.false_eq_true, if_false]
  omega
theorem MInv.step {L : List Oper} {w0 w w' : World} {n k i : Nat} {σ : Sg} {Γ : Ctx} {listed : Array Bool} {a : Act} {γ : Nat → Nat} {m : ME} {o : Oper} {v : Value} (h : MInv L w0 n σ Γ k listed a γ w) (hm : m ∈ Γ) (hmi : m.i = i) (ho : L[i]? = some o) (hn : Nat.ble (m.d + 1) n = true)
    (hf : fnd σ m.d = none) (hok : ∀ m ∈ Γ, m.ok) (hnd : (Γ.map (·.i)).Nodup) (hdd : ∀ x ∈ Γ, x.i ≠ i → x.d ≠ m.d) (hE : Ext w w') (hΦ : m.Φ v (byM γ w i) w') (hons : ∀ j ∈ ons o, listed.getD j false = true) (hik : i < k) : MInv L w0 n σ Γ k (listed.setIfInBounds i true) (a.put (some m.d) v) (byM γ w i) w' := by
  have hlt : m.d < n := Nat.le_of_ble_eq_true hn
  have hp := h.fr.put (d := some m.d) (v := v) hn
  refine ⟨by simpa using h.size, ⟨hp.size, hp.defers, fun t u hu => hp.slot t u ?_⟩, h.ext.trans hE, fun x hx hl => ?_, fun j o' hj ho' q hq => ?_, fun j hj => ?_⟩
  · show fnd ((m.d, v) :: σ) t = some u
    rw [fnd_cons_ne (fun e => by subst e; rw [hf] at hu; cases hu)]; exact hu
  · rcases listed_set.1 hl with ⟨e, _⟩ | hl
    · obtain rfl : x = m := map_inj hnd x hx m hm (by show x.i = m.i; rw [e, hmi])
      have : (a.put (some x.d) v).tmps.getD x.d undef = v := by simp [Act.put, Array.getD, h.fr.size, hlt]
      rw [this]; exact hΦ
    · by_cases e : x.i = i
      · obtain rfl : x = m := map_inj hnd x hx m hm (by show x.i = m.i; rw [e, hmi])
        have : (a.put (some x.d) v).tmps.getD x.d undef = v := by simp [Act.put, Array.getD, h.fr.size, hlt]
        rw [this]; exact hΦ
      · have hne := hdd x hx e
        have : (a.put (some m.d) v).tmps.getD x.d undef = a.tmps.getD x.d undef := by
          simp only [Act.put, Array.getD_eq_getD_getElem?]
          rw [Array.getElem?_setIfInBounds_ne (fun e => hne e.symm)]
        rw [this]
        exact hok x hx _ _ _ _ _ (h.facts x hx hl) hE (fun b hb => if_pos hb)
  · rcases listed_set.1 hj with ⟨e, _⟩ | hj
    · subst e
      rw [ho] at ho'
      cases ho'
      exact listed_set.2 (.inr (hons q hq))
    · exact listed_set.2 (.inr (h.closed j o' hj ho' q hq))
  · rcases listed_set.1 hj with ⟨e, _⟩ | hj
    · omega
    · exact h.low j hj
theorem mem_ons {o : Oper} {e : Edge} (he : e ∈ o.after) (hb : Region.binds .any e = true) : e.on ∈ ons o := by
  unfold ons
  have key : ∀ l : List Edge, e ∈ l → e.on ∈ onsL l := by
    intro l
    induction l with
    | nil => intro h; cases h
    | cons x l ih2 =>
      intro h
      unfold onsL
      rcases List.mem_cons.1 h with rfl | h
      · rw [hb]
        dsimp only
        split
        · rename_i he; exact elN_mem he
        · simp
      · split
        · split
          · exact ih2 h
          · exact List.mem_cons_of_mem _ (ih2 h)
        · exact ih2 h
  exact key _ (by simpa using he)
theorem onsE {o : Oper} {listed : Array Bool} (h : ∀ e ∈ o.after, Region.binds .any e = true → listed.getD e.on false = true) : ∀ j ∈ ons o, listed.getD j false = true := fun j hj => by
  obtain ⟨e, h1, h2, rfl⟩ := ons_mem hj
  exact h e h1 h2
theorem getD_tf {l : Array Bool} {i : Nat} (hi : i < l.size) : l.getD i true = l.getD i false := by simp [Array.getD_eq_getD_getElem?, hi]
/-- what waits for all that stand ahead comes behind them -/
theorem all_ahead {L : List Oper} {i : Nat} {o : Oper} {listed : Array Bool} (hmk : ∀ x, x < i → (mark L (i + 1) ((List.replicate (i + 1) false).set i true)).getD x false = true) (ho : L[i]? = some o) (hol : ∀ j ∈ ons o, listed.getD j false = true)
    (hcl : ∀ i o, listed.getD i false = true → L[i]? = some o → ∀ j ∈ ons o, listed.getD j false = true) : ∀ x, x < i → listed.getD x false = true := fun x hx => by
  have hS := mark_sound (L := L) (S := fun x => x = i ∨ listed.getD x false = true) (fun x o' hx ho2 j hj => by
    rcases hx with rfl | hx
    · rw [ho] at ho2; cases ho2; exact .inr (hol j hj)
    · exact .inr (hcl x o' hx ho2 j hj)) (i + 1) ((List.replicate (i + 1) false).set i true) (fun x hx => by
    by_cases e : i = x
    · exact .inl e.symm
    · exfalso
      simp [List.getD_eq_getElem?_getD, List.getElem?_set, e, List.getElem?_replicate] at hx
      split at hx <;> simp at hx)
  exact (hS x (hmk x hx)).resolve_left (by omega)
/-- the tail, in its one order -/
theorem tailM {P : Program} {L : List Oper} {Q : Exit → Act → World → Prop} {k : Nat} (hmk : ∀ p, k ≤ p → p < L.length → ∀ x, x < p → (mark L (p + 1) ((List.replicate (p + 1) false).set p true)).getD x false = true) (hons : ∀ i o, L[i]? = some o → ∀ j ∈ ons o, j < i) :
    ∀ (fuel p : Nat) (listed : Array Bool) (a : Act) (w : World), k ≤ p → fuel + p = L.length → listed.size = L.length → (∀ i, listed.getD i false = true ↔ i < p) → wpList P L.toArray (fun x a w => x = .normal ∧ Q .normal a w) (L.drop p) a w →
      wpAny P .any L.toArray (fun x a w => x = .normal ∧ Q .normal a w) fuel listed a w
  | 0, p, listed, a, w, hk, hp, hsz, hl, h => by
    rw [List.drop_of_length_le (by omega)] at h
    refine ⟨List.eq_nil_iff_forall_not_mem.2 fun i hi => ?_, h⟩
    obtain ⟨h0, oi, hoi, _⟩ := mem_ready.1 hi
    have hil : i < L.length := by have := (Array.getElem?_eq_some_iff.1 hoi).1; simpa using this
    rw [getD_tf (by omega), (hl i).2 (by omega)] at h0
    cases h0
  | fuel + 1, p, listed, a, w, hk, hp, hsz, hl, h => by
    have hpl : p < L.length := by omega
    have hcl : ∀ i o, listed.getD i false = true → L[i]? = some o → ∀ j ∈ ons o, listed.getD j false = true := fun i o hi ho j hj => (hl j).2 (by have := hons i o ho j hj; have := (hl i).1 hi; omega)
    have hready : ∀ i, i ∈ Region.ready .any L.toArray listed → i = p := fun i hi => by
      obtain ⟨h0, oi, hoi, hed⟩ := mem_ready.1 hi
      have hoi' : L[i]? = some oi := by simpa using hoi
      have hil : i < L.length := (List.getElem?_eq_some_iff.1 hoi').1
      rw [getD_tf (by omega)] at h0
      have hge : ¬ i < p := fun hlt => by rw [(hl i).2 hlt] at h0; cases h0
      rcases Nat.lt_or_ge p i with hlt | hle
      · have := all_ahead (hmk i (by omega) hil) hoi' (onsE hed) hcl p hlt
        exact absurd ((hl p).1 this) (Nat.lt_irrefl _)
      · omega
    have hin : p ∈ Region.ready .any L.toArray listed := mem_ready.2 ⟨by
      rw [getD_tf (by omega)]
      cases hx : listed.getD p false with
      | false => rfl
      | true => exact absurd ((hl p).1 hx) (Nat.lt_irrefl _), L[p], by simp [hpl], fun e he hb => (hl _).2 (hons p L[p] (List.getElem?_eq_getElem hpl) _ (mem_ons he hb))⟩
    refine ⟨fun hr => (by rw [hr] at hin; cases hin), fun i hi => ?_⟩
    obtain rfl := hready i hi
    rw [List.drop_eq_getElem_cons hpl] at h
    simp only [wpList] at h
    have ho : L.toArray[i]? = some L[i] := by simp [hpl]
    unfold wpOp
    simp only [ho]
    have hl' : ∀ j, (listed.setIfInBounds i true).getD j false = true ↔ j < i + 1 := fun j => by
      rw [listed_set, hl]
      omega
    split
    · rename_i hw
      rw [if_pos hw] at h
      exact h.imp (Oper.wp_mono fun a' w' h' => tailM hmk hons fuel (i + 1) _ _ _ (by omega) (by omega) (by simpa using hsz) hl' h') id
    · rename_i hw
      rw [if_neg hw] at h
      exact tailM hmk hons fuel (i + 1) _ _ _ (by omega) (by omega) (by simpa using hsz) hl' h
theorem wpAnyM {P : Program} {L : List Oper} {Q : Exit → Act → World → Prop} {w0 : World} {n k : Nat} {σ : Sg} {Γ : Ctx} (hB : monoB L k = true) (hΓ : ∀ m ∈ Γ, m.i < k ∧ m.ok) (hnd : (Γ.map (·.i)).Nodup) (hM : ∀ j o, j < k → L[j]? = some o → MG P L w0 n σ Γ j o)
    (hK : ∀ γ w', Ext w0 w' → allK γ w' (fun τ => WL P L (fun x a w => x = .normal ∧ Q .normal a w) (L.drop k) n τ w') Γ σ) :
    ∀ (fuel : Nat) (listed : Array Bool) (a : Act) (γ : Nat → Nat) (w : World), MInv L w0 n σ Γ k listed a γ w → listed.toList.countP (fun b => !b) = fuel → wpAny P .any L.toArray (fun x a w => x = .normal ∧ Q .normal a w) fuel listed a w := by
  simp only [monoB, Bool.and_eq_true, decide_eq_true_eq, List.all_eq_true, List.mem_range] at hB
  obtain ⟨⟨⟨⟨hs, hlow⟩, hdst⟩, hkl⟩, hmk0⟩ := hB
  have hmk : ∀ p, k ≤ p → p < L.length → ∀ x, x < p → (mark L (p + 1) ((List.replicate (p + 1) false).set p true)).getD x false = true := fun p h1 h2 x hx => by
    have := hmk0 (p - k) (by omega) x (by omega)
    rwa [show k + (p - k) = p by omega] at this
  have hons : ∀ i o, L[i]? = some o → ∀ j ∈ ons o, j < i := fun i o ho j hj => by
    have h := hlow i (List.getElem?_eq_some_iff.1 ho).1
    rw [ho] at h
    simp only [List.all_eq_true, decide_eq_true_eq] at h
    exact h j hj
  have hdd : ∀ x ∈ Γ, ∀ m ∈ Γ, x.i ≠ m.i → x.d ≠ m.d := by
    have hdx : ∀ x ∈ Γ, dOf L x.i = some x.d := fun x hx => by
      have hxk := (hΓ x hx).1
      have hxl : x.i < L.length := by omega
      obtain ⟨m, hm, _, _, e, hd, _⟩ := (hM x.i L[x.i] hxk (List.getElem?_eq_getElem hxl)).ex
      obtain rfl : m = x := map_inj hnd m hm x hx e
      unfold dOf
      rw [List.getElem?_eq_getElem hxl]
      exact hd
    have lt : ∀ x ∈ Γ, ∀ m ∈ Γ, x.i < m.i → x.d ≠ m.d := fun x hx m hm h e => by
      have h1 := hdst m.i (hΓ m hm).1 x.i h
      rw [hdx x hx, hdx m hm, e] at h1
      simp at h1
    intro x hx m hm hne
    rcases Nat.lt_or_gt_of_ne hne with h | h
    · exact lt x hx m hm h
    · exact fun e => lt m hm x hx h e.symm
  -- what is listed when nothing is ready
  have hall : ∀ (listed : Array Bool), listed.size = L.length → Region.ready .any L.toArray listed = [] → ∀ i, i < L.length → listed.getD i false = true := by
    intro listed hsz hr i
    induction i using Nat.strongRecOn with
    | ind i ih =>
      intro hi
      by_cases hl : listed.getD i false = true
      · exact hl
      · have : i ∈ Region.ready .any L.toArray listed := mem_ready.2 ⟨by
          rw [getD_tf (by omega)]
          simpa using hl, L[i], by simp [hi], fun e he hb => by
          have hlt := hons i L[i] (List.getElem?_eq_getElem hi) _ (mem_ons he hb)
          exact ih _ hlt (by omega)⟩
        rw [hr] at this; cases this
  intro fuel
  induction fuel with
  | zero =>
    intro listed a γ w hI hc
    have hl : ∀ i, i < L.length → listed.getD i false = true := fun i hi => by
      cases hx : listed.getD i false with
      | true => rfl
      | false =>
        have := count_set (l := listed) (i := i) (by rw [getD_tf (by have := hI.size; omega)]; exact hx)
        omega
    obtain ⟨τ, hτ, hF⟩ := allK_fr Γ σ (hK γ w hI.ext) hI.fr (fun m hm => hI.facts m hm (hl m.i (by have := (hΓ m hm).1; omega)))
    have hke : k = L.length := by
      rcases Nat.lt_or_ge k L.length with h | h
      · exact absurd (hI.low k (hl k h)) (Nat.lt_irrefl _)
      · omega
    unfold WL at hF
    exact tailM hmk hons 0 k listed a w (Nat.le_refl _) (by omega) hI.size (fun i => ⟨hI.low i, fun h => hl i (by omega)⟩) (hF a hτ)
  | succ fuel ih =>
    intro listed a γ w hI hc
    by_cases hal : ∀ i, i < k → listed.getD i false = true
    · -- all of the first k are listed
      obtain ⟨τ, hτ, hF⟩ := allK_fr Γ σ (hK γ w hI.ext) hI.fr (fun m hm => hI.facts m hm (hal m.i (hΓ m hm).1))
      unfold WL at hF
      have hcount : fuel + 1 + k = L.length := by
        have hlt : listed.toList = (List.range L.length).map (fun i => decide (i < k)) := by
          refine List.ext_getElem (by simpa using hI.size) fun i h1 h2 => ?_
          simp only [List.getElem_map, List.getElem_range, Array.getElem_toList]
          have h3 : listed.getD i false = listed[i]'(by simpa using h1) := by simp [Array.getD_eq_getD_getElem?, show i < listed.size by simpa using h1]
          by_cases h : i < k
          · have := hal i h
            rw [h3] at this; rw [this]; simp [h]
          · cases hx : listed[i]'(by simpa using h1) with
            | false => simp [h]
            | true => exact absurd (hI.low i (by rw [h3, hx])) h
        rw [hlt] at hc
        have hcnt : ∀ N, k ≤ N → ((List.range N).map fun i => decide (i < k)).countP (fun b => !b) + k = N := by
          intro N
          induction N with
          | zero => intro h; simp at h ⊢; omega
          | succ N ihN =>
            intro h
            rw [List.range_succ, List.map_append, List.countP_append]
            by_cases hN : k ≤ N
            · have := ihN hN
              have e1 : ([N].map fun i => decide (i < k)).countP (fun b => !b) = 1 := by
                simp; omega
              omega
            · obtain rfl : k = N + 1 := by omega
              have h0 : ((List.range N).map fun i => decide (i < N + 1)).countP (fun b => !b) = 0 := by
                rw [List.countP_eq_zero]
                intro b hb
                obtain ⟨i, hi, rfl⟩ := List.mem_map.1 hb
                have := List.mem_range.1 hi
                simp; omega
              rw [h0]; simp
        have := hcnt L.length hkl
        omega
      exact tailM hmk hons (fuel + 1) k listed a w (Nat.le_refl _) hcount hI.size (fun i => ⟨hI.low i, hal i⟩) (hF a hτ)
    · refine ⟨fun hr => absurd (fun i hi => hall listed hI.size hr i (by omega)) hal, fun i hi => ?_⟩
      obtain ⟨hun, o, ho, hed⟩ := mem_ready.1 hi
      have hcs := count_set hun
      have ho' : L[i]? = some o := by simpa using ho
      have hil : i < L.length := (List.getElem?_eq_some_iff.1 ho').1
      have hol := onsE hed
      have hik : i < k := by
        rcases Nat.lt_or_ge i k with h | h
        · exact h
        · exact absurd (fun x hx => all_ahead (hmk i h hil) ho' hol hI.closed x (by omega)) hal
      unfold wpOp
      simp only [ho]
      obtain ⟨m, hm, Δ, hΔ, hmi, hd, hn, hf, hob⟩ := (hM i o hik ho').ex
      have hst : ∀ (w' : World) (v : Value), Ext w w' → m.Φ v (byM γ w i) w' → wpAny P .any L.toArray (fun x a w => x = .normal ∧ Q .normal a w) fuel (listed.setIfInBounds i true) (a.put (some m.d) v) w' := fun w' v hE hΦ =>
        ih _ _ _ _ (hI.step hm hmi ho' hn hf (fun m hm => (hΓ m hm).2) hnd (fun x hx hne => hdd x hx m hm (by rw [hmi]; exact hne)) hE hΦ hol hik) (by omega)
      rcases hob w γ hI.ext a hI.fr (fun j hj x hx e => hI.facts x (hΔ x hx) (by rw [e]; exact hol j hj)) with ⟨hw, hwp⟩ | ⟨hw, hΦ⟩
      · simp only [hw, if_true]
        refine .inl (Oper.wp_mono (fun a' w' h' => ?_) (wp_exits (fun e a w _ hf => hf.elim) hwp))
        obtain ⟨hE, v, rfl, hΦ⟩ := h'
        exact hst w' v hE hΦ
      · simp only [hw, Bool.false_eq_true, if_false]
        rw [hd]
        exact hst w undef (Ext.refl w) hΦ
section
variable {P : Program} {Q : Exit → Act → World → Prop} {n : Nat} {σ : Sg} {w : World} {L : List Oper}
/-- behind the walk of the first ones: the tail -/
def FinM (P : Program) (L : List Oper) (Q : Exit → Act → World → Prop) (n : Nat) (σ : Sg) (w : World) (T : List Oper) : Ctx → Prop :=
  fun Γ => ∀ γ w', Ext w w' → allK γ w' (fun τ => WL P L (fun x a w => x = .normal ∧ Q .normal a w) T n τ w') Γ σ
/-- a drawn region: the first k operations only make new memory, the others stand in one order behind them -/
theorem CW.drawM {id : Nat} (k : Nat) (hm : P.follows .mixedOrders = true) (hB : monoB L k = true) (h : ML P L (drew w) n σ (FinM P L Q n σ (drew w) (L.drop k)) 0 [] (L.take k)) : CW P (.region id L.toArray true) Q n σ w := by
  unfold CW
  intro a ha
  have hkl : k ≤ L.length := by
    simp only [monoB, Bool.and_eq_true, decide_eq_true_eq] at hB
    exact hB.1.2
  obtain ⟨Γ, g1, _, g3, g4, g5⟩ := ML_get _ _ _ h (fun m hm => by cases hm) List.Pairwise.nil
  have h1 := wpAnyM (P := P) (Q := Q) (w0 := drew w) hB (fun m hm => by have := g3 m hm; simp only [List.length_take, Nat.zero_add] at this; exact ⟨by omega, this.2⟩) g4 (fun j o hj ho => by
    have := g5 j o (by rw [List.getElem?_take_of_lt hj]; exact ho)
    rwa [Nat.zero_add] at this) g1 L.length (Array.replicate L.length false) a (fun _ => 0) (drew w) ⟨by simp, ha, Ext.refl _, fun m hm hl => by
      exfalso; simp [Array.getD_eq_getD_getElem?, Array.getElem?_replicate] at hl; split at hl <;> simp at hl, fun i o hl => by
      exfalso; simp [Array.getD_eq_getD_getElem?, Array.getElem?_replicate] at hl; split at hl <;> simp at hl, fun i hl => by
      exfalso; simp [Array.getD_eq_getD_getElem?, Array.getElem?_replicate] at hl; split at hl <;> simp at hl⟩ (by simp [List.countP_replicate])
  have h2 : (Code.region id L.toArray true).wp P (fun x a w => x = .normal ∧ Q .normal a w) a w := wp_region_any hm (by simpa using h1)
  exact wp_mono h2 (fun e a' w' ⟨he, hq⟩ => by subst he; exact hq)
theorem ML.nil {w0 : World} {K : Ctx → Prop} {i : Nat} {Γ : Ctx} (h : K Γ) : ML P L w0 n σ K i Γ [] := h
end
end Go.Proofs.YtikigaeihdmcaaaGreatDoor

