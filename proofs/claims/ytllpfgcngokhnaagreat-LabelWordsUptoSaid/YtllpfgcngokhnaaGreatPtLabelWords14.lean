import Derived.Test.YtllpfgcngokhnaaGreatPtLabelWords13
/-
  What Make answers. Plain lists.
-/
set_option linter.unusedVariables false
set_option linter.unusedSimpArgs false
namespace Go.Proofs.YtllpfgcngokhnaaGreat

def tabM (f : Ltl) : Mk2 := (sortI (gaE f ([], [])).1, (gaE f ([], [])).2)
def nilA5 : LAuto2 := ([], [], [], [], [])
def makeT (t : Ltl) : LAuto2 × Int := if (plainE t).2 ≠ 0 then (nilA5, (plainE t).2) else if numN (tabM (plainE t).1) > 10 then (nilA5, 2) else (tabL (tabM (plainE t).1) (plainE t).1, 0)
theorem plainE_ok {t : Ltl} (h : (plainE t).2 = 0) : wfT t ∧ (plainE t).1 = plainL t ∧ wfT (plainL t) ∧ (plainL t).nodes ≤ 60 := by
  unfold plainE at h ⊢
  split at h
  · rename_i h1; exact absurd h h1
  rename_i h1
  rw [if_neg h1]
  unfold toldE at h ⊢
  split at h
  · rename_i h2; exact absurd h h2
  rename_i h2
  rw [if_neg h2]
  have h1 := (chk_iff t).1 (by simpa using h1)
  have h2 := (chk_iff (plainL t)).1 (by simpa using h2)
  exact ⟨h1.1, rfl, h2.1, h2.2.1⟩
theorem tabM_les (f : Ltl) : Les (gaE f ([], [])) (tabM f) := ⟨fun x hx => sortI_mem.2 hx, fun x hx => hx⟩
theorem tabM_okM {f : Ltl} (hw : wfT f) (h0 : hasB f 10 = false) (h1 : hasB f 11 = false) : OkM (tabM f) := by
  have h := gaE_ok f ([], []) OkM.nil hw h0 h1
  exact ⟨(List.mergeSort_perm _ _).nodup_iff.2 h.na, fun x hx => h.ra x (sortI_mem.1 hx), h.wp⟩
theorem tabM_ok {f : Ltl} (hw : wfT f) (h0 : hasB f 10 = false) (h1 : hasB f 11 = false) : OkT (tabM f) ∧ OkF (tabM f) f := by
  have hc := Cov.les (tabM_les f) f (gaE_cov f ([], []))
  refine ⟨⟨tabM_okM hw h0 h1, fun g hg => ?_⟩, hw, h0, h1, hc⟩
  exact gaE_clo f ([], []) (tabM f) (tabM_les f) (fun g hg => by cases hg) g hg
theorem tabM_len (f : Ltl) : (tabM f).1.length = (gaE f ([], [])).1.length ∧ (tabM f).2 = (gaE f ([], [])).2 := ⟨sortI_len, rfl⟩
/-- the automaton that is made is right -/
theorem tabL_okA {m : Mk2} {f : Ltl} (h : numN m ≤ 10) : OkA (tabL m f) := by
  have hp : 2 ^ numN m ≤ 2 ^ 10 := Nat.pow_le_pow_right (by omega) h
  have hl : (tabL m f).2.1.length = 2 ^ numN m := by show (List.map _ _).length = _; rw [List.length_map, List.length_range]
  have hr : ∀ (p : Nat → Bool), okL (2 ^ numN m) (((List.range (2 ^ numN m)).filter p).map fun s : Nat => (s : Int)) := fun p x hx => by
    obtain ⟨y, hy, rfl⟩ := List.mem_map.1 hx
    rw [List.mem_filter, List.mem_range] at hy
    have := hy.1
    constructor
    · omega
    · exact_mod_cast this
  refine ⟨by rw [hl]; omega, ?_, ?_, ?_, ?_, fun r hr' => ?_, fun r hr' => ?_⟩
  · show (List.map _ (List.filter _ _)).length ≤ 80
    rw [List.length_map]
    have := List.length_filter_le (fun g : Ltl => decide (g.k ≠ 7)) m.2
    unfold numN at h; omega
  · rw [hl]; show (List.map _ _).length = _; rw [List.length_map, List.length_range]
  · rw [hl]; show (List.map _ _).length = _; rw [List.length_map, List.length_range]
  · rw [hl]; exact hr _
  · rw [hl]
    obtain ⟨s, _, rfl⟩ := List.mem_map.1 hr'
    exact hr _
  · rw [hl]
    obtain ⟨s, _, rfl⟩ := List.mem_map.1 hr'
    exact hr _
/-- Make answers with an automaton that accepts what satisfies the formula -/
theorem makeT_acc {t : Ltl} {L : Nat → Nat} (h : (makeT t).2 = 0) : OkA (makeT t).1 ∧ (AccA (makeT t).1 L ↔ sem L t 0) ∧ wfT t := by
  unfold makeT at h ⊢
  split at h
  · rename_i h1; exact absurd h h1
  rename_i h1
  rw [if_neg h1]
  split at h
  · exact absurd h (by decide)
  rename_i h2
  rw [if_neg h2]
  obtain ⟨hw, he, hwp, _⟩ := plainE_ok (by simpa using h1 : (plainE t).2 = 0)
  rw [he] at h2 ⊢
  have hh := plain_has t hw
  obtain ⟨hT, hF⟩ := tabM_ok hwp hh.1 hh.2
  refine ⟨tabL_okA (by omega), ?_, hw⟩
  show AccA (tabL (tabM (plainL t)) (plainL t)) L ↔ sem L t 0
  rw [tab_acc hT hF, plain_sem t hw 0]
end Go.Proofs.YtllpfgcngokhnaaGreat

/-
  What Make answers: how big, and what Accepts says of it. Plain.
-/
set_option linter.unusedVariables false
set_option linter.unusedSimpArgs false
namespace Go.Proofs.YtllpfgcngokhnaaGreat
open Go.RowKit

theorem sumL_le {g : List (List Int)} {n : Nat} (h : ∀ r ∈ g, r.length ≤ n) : edges g ≤ g.length * n := by
  induction g with
  | nil => simp [edges]
  | cons a r ih =>
    have h1 := ih (fun x hx => h x (List.mem_cons_of_mem _ hx))
    have h2 := h a (List.mem_cons_self ..)
    unfold edges at *
    simp only [List.map_cons, List.sum_cons, List.length_cons, Nat.add_mul]
    omega
theorem selB {p : Nat → Bool} {N : Nat} : (((List.range N).filter p).map fun s : Nat => (s : Int)).length ≤ N := by
  rw [List.length_map]
  exact Nat.le_trans (List.length_filter_le _ _) (by rw [List.length_range]; exact Nat.le_refl _)
/-- how big -/
theorem makeT_size (t : Ltl) : edges (makeT t).1.2.1 + (makeT t).1.1.length ≤ 8589934592 ∧ (∀ j, ((makeT t).1.2.1.getD j []).length ≤ 1048576) ∧ (makeT t).1.1.length ≤ 1048576 := by
  have hz : edges nilA5.2.1 + nilA5.1.length ≤ 8589934592 ∧ (∀ j, (nilA5.2.1.getD j []).length ≤ 1048576) ∧ nilA5.1.length ≤ 1048576 := by
    refine ⟨by decide, fun j => ?_, by decide⟩
    show (([] : List (List Int)).getD j []).length ≤ _
    simp
  unfold makeT
  split
  · exact hz
  · split
    · exact hz
    · rename_i h10
      generalize tabM (plainE t).1 = m at *
      generalize (plainE t).1 = f
      have hN : 2 ^ numN m ≤ 2 ^ 10 := Nat.pow_le_pow_right (by omega) (by omega)
      have hrow : ∀ r ∈ (tabL m f).2.1, r.length ≤ 1024 := fun r hr => by
        obtain ⟨s, _, rfl⟩ := List.mem_map.1 hr
        exact Nat.le_trans selB hN
      have hl : (tabL m f).2.1.length ≤ 1024 := by
        show ((List.range (2 ^ numN m)).map _).length ≤ 1024
        rw [List.length_map, List.length_range]; exact hN
      have h1 : (tabL m f).1.length ≤ 1024 := Nat.le_trans selB hN
      have h2 := sumL_le hrow
      have h3 : (tabL m f).2.1.length * 1024 ≤ 1024 * 1024 := Nat.mul_le_mul_right _ hl
      dsimp only
      refine ⟨by omega, fun j => ?_, by omega⟩
      rw [List.getD_eq_getElem?_getD]
      cases hj : (tabL m f).2.1[j]? with
      | none => simp
      | some r => exact Nat.le_trans (hrow r (List.mem_of_getElem? hj)) (by decide)
end Go.Proofs.YtllpfgcngokhnaaGreat

/-
  Formulas without LNext do not see that a letter comes twice. Plain law, no program in sight.
-/
set_option linter.unusedVariables false
set_option linter.unusedSimpArgs false
namespace Go.Proofs.YtllpfgcngokhnaaGreat
open Go.RowKit

/-- a walk that goes on by one or waits, and goes on again and again -/
structure Stut (φ : Nat → Nat) : Prop where
  step : ∀ j, φ (j + 1) = φ j ∨ φ (j + 1) = φ j + 1
  far : ∀ j, ∃ d, φ (j + d) ≠ φ j
theorem step_mono {φ : Nat → Nat} (h : ∀ j, φ (j + 1) = φ j ∨ φ (j + 1) = φ j + 1) (j d : Nat) : φ j ≤ φ (j + d) := by
  induction d with
  | zero => exact Nat.le_refl _
  | succ d ih => rcases h (j + d) with e | e <;> (rw [← Nat.add_assoc, e]; omega)
theorem Stut.mono {φ : Nat → Nat} (h : Stut φ) (j d : Nat) : φ j ≤ φ (j + d) := step_mono h.step j d
theorem Stut.next {φ : Nat → Nat} (h : Stut φ) (j : Nat) : ∃ d, φ (j + d + 1) = φ j + 1 ∧ ∀ x, x ≤ d → φ (j + x) = φ j := by
  obtain ⟨d, hd⟩ := h.far j
  induction d generalizing j with
  | zero => exact absurd rfl hd
  | succ d ih =>
    by_cases e : φ (j + d) = φ j
    · clear ih
      induction d with
      | zero =>
        rcases h.step j with e1 | e1
        · exact absurd e1 hd
        · exact ⟨0, e1, fun x hx => by rw [show x = 0 by omega]; rfl⟩
      | succ d ih2 =>
        by_cases e2 : ∃ x, x ≤ d ∧ φ (j + x) ≠ φ j
        · obtain ⟨x, hx, hne⟩ := e2
          have h1 := h.mono j x
          have h2 := h.mono (j + x) (d + 1 - x)
          rw [show j + x + (d + 1 - x) = j + (d + 1) by omega, e] at h2
          omega
        · refine ⟨d + 1, ?_, fun x hx => ?_⟩
          · rcases h.step (j + (d + 1)) with e1 | e1
            · rw [e] at e1; exact absurd e1 hd
            · rw [e] at e1; exact e1
          · by_cases hx1 : x ≤ d
            · exact Classical.byContradiction fun hne => e2 ⟨x, hx1, hne⟩
            · rw [show x = d + 1 by omega]; exact e
    · exact ih j e
/-- the first time at m -/
theorem Stut.reach {φ : Nat → Nat} (h : Stut φ) : ∀ (k j : Nat), ∃ d, φ (j + d) = φ j + k ∧ ∀ x, x < d → φ (j + x) < φ j + k
  | 0, j => ⟨0, rfl, fun x hx => by omega⟩
  | k + 1, j => by
    obtain ⟨d, h1, h2⟩ := h.reach k j
    obtain ⟨e, h3, h4⟩ := h.next (j + d)
    refine ⟨d + e + 1, ?_, fun x hx => ?_⟩
    · rw [show j + (d + e + 1) = j + d + e + 1 by omega, h3, h1]; omega
    · by_cases hxd : x < d
      · have := h2 x hxd; omega
      · have := h4 (x - d) (by omega)
        rw [show j + d + (x - d) = j + x by omega, h1] at this
        omega
end Go.Proofs.YtllpfgcngokhnaaGreat

/-
  A word in which one letter comes twice: what holds first stays, for formulas without LNext. Plain law.
-/
set_option linter.unusedVariables false
set_option linter.unusedSimpArgs false
namespace Go.Proofs.YtllpfgcngokhnaaGreat
open Go.RowKit

end Go.Proofs.YtllpfgcngokhnaaGreat

/-
  watchkeep.plainly: is a formula without LNext?
-/
set_option linter.unusedVariables false
set_option linter.unusedSimpArgs false
namespace Go.Proofs.YtllpfgcngokhnaaGreat
open Go.RowKit

instance isFPlain1 : IsF Tryz.prog 95 := ⟨_, Tryz.func95, rfl, by decide⟩
theorem indexFunc_ltl (w0 : World) {ao : Option Addr} {cap : Nat} {xs : List Ltl} {fv : Value} (p : Ltl → Bool) (hs : Sl w0 (Old w0) ao cap xs)
    (hf : ∀ w, Ext w0 w → ∀ i (h : i < xs.length) u, Rd w (Old w0) u xs[i] → FnV Tryz.prog fv [u] w fun v w' => v = .bool (p xs[i]) ∧ Ext w w') :
    Rt Tryz.prog 95 [.slice ao xs.length cap, fv].toArray w0 fun v w' => v = .int .i64 (idxOf p xs) ∧ Ext w0 w' := by
  have hm := hs.len63
  refine Rt.enter2 Tryz.func95 Tryz.ntmps95 rfl rfl ?_
  (repeat (first | (apply WL.pure; rfl; rfl; rfl) | (apply WL.nil) | (apply EX.thenN) | (apply CW.seq) | (apply CW.region) | (apply WL.lenS; rfl; rfl; rfl) | (apply CW.block)))
  refine CW.loop (S := Nat) (fun k => [(0, .slice ao xs.length cap), (1, fv), (7, .int .i64 xs.length), (8, .int .i64 k)])
    (fun k w => k ≤ xs.length ∧ Ext w0 w ∧ ∀ j (h : j < xs.length), j < k → p xs[j] = false) (fun k => xs.length - k) 0 (by repeat (first | exact trivial | refine ⟨rfl, ?_⟩)) ⟨by omega, Ext.refl _, by omega⟩ ?_
  rintro k w ⟨hk, hB, hn⟩
  (repeat (first | (apply WL.pure; rfl; rfl; rfl) | (apply WL.nil) | (apply EX.thenN) | (apply CW.seq) | (apply CW.region)))
  refine CW.cond rfl (fun h => ?_) (fun h => ?_)
  · simp at h
    (repeat (first | (apply WL.pure; rfl; rfl; rfl) | (apply WL.nil) | (apply EX.thenN) | (apply CW.seq) | (apply CW.region) | (apply CW.block) | (apply CW.skip)))
    refine WL.elemN rfl rfl rfl rfl rfl (hs.at hB) h (fun _ => rfl) (fun u q hu => ?_)
    refine WL.callF rfl rfl rfl rfl (hf w hB k h u hu) ?_
    rintro v w' ⟨rfl, hB'⟩
    (repeat (first | (apply WL.nil) | (apply EX.thenN)))
    refine CW.cond rfl (fun h' => ?_) (fun h' => ?_)
    · (repeat (first | (apply WL.pure; rfl; rfl; rfl) | (apply WL.nil) | (apply EX.thenN) | (apply CW.seq) | (apply CW.region) | (apply CW.ret) | (apply EX.thenR) | (apply EX.inR)))
      refine EX.ret1 rfl rfl ⟨?_, hB.trans hB'⟩
      rw [idxOf_here h hn h']
    · (repeat (first | (apply WL.add; rfl; rfl; rfl; rfl; omega; omega) | (apply WL.pure; rfl; rfl; rfl) | (apply WL.nil) | (apply EX.thenN) | (apply CW.region) | (apply EX.inN) | (apply CW.skip)))
      refine EX.back (k + 1) (by repeat (first | exact trivial | refine ⟨rfl, ?_⟩)) ⟨h, hB.trans hB', ?_⟩ (by omega)
      intro j hj hlt
      by_cases e : j = k
      · subst e; exact h'
      · exact hn j hj (by omega)
  · simp at h
    (repeat (first | (apply WL.pure; rfl; rfl; rfl) | (apply WL.nil) | (apply EX.thenN) | (apply CW.seq) | (apply CW.region) | (apply CW.exit) | (apply EX.thenX) | (apply EX.inX) | (apply CW.ret)))
    refine EX.ret1 rfl rfl ⟨?_, hB⟩
    rw [idxOf_none (fun j hj => hn j hj (by omega))]

end Go.Proofs.YtllpfgcngokhnaaGreat

/-
  Bits of signed numbers that are not below zero. Over any program.
-/
set_option linter.unusedVariables false
set_option linter.unusedSimpArgs false
namespace Go.Proofs.YtllpfgcngokhnaaGreat
open Go.RowKit

theorem bits_andS (a b : Nat) (ha : a < 4611686018427387904) (hb : b < 4611686018427387904) : bits .and .i64 (a : Int) (b : Int) = ((a &&& b : Nat) : Int) := by
  have hx : a &&& b ≤ a := Nat.and_le_left
  have h1 : (BitVec.ofInt 64 (a : Int)).toNat = a := by
    rw [BitVec.ofInt_natCast, BitVec.toNat_ofNat]; exact Nat.mod_eq_of_lt (by omega)
  have h2 : (BitVec.ofInt 64 (b : Int)).toNat = b := by
    rw [BitVec.ofInt_natCast, BitVec.toNat_ofNat]; exact Nat.mod_eq_of_lt (by omega)
  show IntKind.i64.wrap ((BitVec.ofInt 64 (a : Int) &&& BitVec.ofInt 64 (b : Int)).toNat : Int) = _
  rw [BitVec.toNat_and, h1, h2, wrap_in (by omega) (by omega)]
theorem bits_orS (a b : Nat) (ha : a < 4611686018427387904) (hb : b < 4611686018427387904) : bits .or .i64 (a : Int) (b : Int) = ((a ||| b : Nat) : Int) := by
  have hx : a ||| b < 2 ^ 62 := Nat.or_lt_two_pow (by omega) (by omega)
  have h1 : (BitVec.ofInt 64 (a : Int)).toNat = a := by
    rw [BitVec.ofInt_natCast, BitVec.toNat_ofNat]; exact Nat.mod_eq_of_lt (by omega)
  have h2 : (BitVec.ofInt 64 (b : Int)).toNat = b := by
    rw [BitVec.ofInt_natCast, BitVec.toNat_ofNat]; exact Nat.mod_eq_of_lt (by omega)
  show IntKind.i64.wrap ((BitVec.ofInt 64 (a : Int) ||| BitVec.ofInt 64 (b : Int)).toNat : Int) = _
  rw [BitVec.toNat_or, h1, h2, wrap_in (by omega) (by omega)]
theorem bits_orU (a b : Nat) (ha : a < 18446744073709551616) (hb : b < 18446744073709551616) : bits .or .u64 (a : Int) (b : Int) = ((a ||| b : Nat) : Int) := bits_or_u64_nat a b ha hb
theorem shlS {s : Nat} (hs : s < 62) : IntKind.i64.wrap (1 * 2 ^ min ((s : Int)).toNat IntKind.i64.bits) = ((1 <<< s : Nat) : Int) := by
  have h1 : min s (IntKind.bits .i64) = s := by show min s 64 = s; omega
  have h2 : 2 ^ s < 2 ^ 62 := Nat.pow_lt_pow_right (by omega) hs
  simp only [Int.toNat_natCast, h1, Int.one_mul]
  have h3 : ((2 : Int) ^ s) = ((2 ^ s : Nat) : Int) := by norm_cast
  rw [h3, Nat.one_shiftLeft]
  generalize 2 ^ s = x at *
  rw [wrap_in (by omega) (by omega)]
theorem shlU {s : Nat} (hs : s < 64) : IntKind.u64.wrap (1 * 2 ^ min ((s : Int)).toNat IntKind.u64.bits) = ((1 <<< s : Nat) : Int) := by
  have h1 : min s (IntKind.bits .u64) = s := by show min s 64 = s; omega
  have h2 : 2 ^ s < 2 ^ 64 := Nat.pow_lt_pow_right (by omega) hs
  simp only [Int.toNat_natCast, h1, Int.one_mul]
  have h3 : ((2 : Int) ^ s) = ((2 ^ s : Nat) : Int) := by norm_cast
  rw [h3, Nat.one_shiftLeft, IntKind.wrap_u64]
  generalize 2 ^ s = x at *
  omega
theorem run_shrS (P : Program) (w : World) (a s : Nat) (hs : s ≤ 62) (t : TypeId) : (binOp .shr t (.int .i64 (a : Int)) (.int .i64 (s : Int))).run P w = .ok (.int .i64 ((a >>> s : Nat) : Int)) w := by
  rw [binOp_shr, shift_shr_i64 (h₀ := by omega) (h₁ := by omega), Int.toNat_natCast, Nat.shiftRight_eq_div_pow]
  have : ((a : Int) / 2 ^ s) = ((a / 2 ^ s : Nat) : Int) := by norm_cast
  rw [this]; rfl
section
variable {P : Program} {Q : Exit → Act → World → Prop} {n : Nat} {σ : Sg} {w wc : World} {L rest : List Oper} {ord : List (Nat × Bool)} {S : World → Prop} {i d : Nat} {ty : TypeId} {pos : String} {af : Array Edge} {g : Option (Nat × Bool)} {t yt : TypeId} {x y : Operand}
theorem WL.shrS {a s : Nat} (hg : gd L σ ⟨some d, .binOp .shr t x y yt, ty, pos, af, g⟩ = some true) (hd : Nat.ble (d + 1) n = true) (hx : ev σ x = some (.int .i64 (a : Int))) (hy : ev σ y = some (.int .i64 (s : Int))) (hs : s ≤ 62)
    (h : WL P L Q rest n ((d, .int .i64 ((a >>> s : Nat) : Int)) :: σ) w) : WL P L Q (⟨some d, .binOp .shr t x y yt, ty, pos, af, g⟩ :: rest) n σ w := by
  refine WL.run hg hd (fun a0 ha0 => ?_) h
  have := run_shrS P w a s hs t
  simp [execOp, ha0.ev hx, ha0.ev hy, eqG (op := .shr) rfl, this]
theorem HL.shrS {a s : Nat} (ho : nthO L i = some ⟨some d, .binOp .shr t x y yt, ty, pos, af, g⟩) (hg : gd L σ ⟨some d, .binOp .shr t x y yt, ty, pos, af, g⟩ = some true) (hd : Nat.ble (d + 1) n = true) (hx : ev σ x = some (.int .i64 (a : Int))) (hy : ev σ y = some (.int .i64 (s : Int))) (hs : s ≤ 62)
    (h : HL P L S Q ord n ((d, .int .i64 ((a >>> s : Nat) : Int)) :: σ) wc) : HL P L S Q ((i, true) :: ord) n σ wc := by
  refine HL.run ho hg hd (fun a0 ha0 w1 _ => ?_) h
  have := run_shrS P w1 a s hs t
  simp [execOp, ha0.ev hx, ha0.ev hy, eqG (op := .shr) rfl, this]
end
end Go.Proofs.YtllpfgcngokhnaaGreat

/-
  Package tableau: part, chosen, holds, owed, kept, bits, fair: walked.
-/
set_option linter.unusedVariables false
set_option linter.unusedSimpArgs false
namespace Go.Proofs.YtllpfgcngokhnaaGreat
open Go.RowKit

instance iTb1 : IsC Tryz.prog 79 2 true := IsC.of (by kernel_rfl) Tryz.underlying79 rfl
instance iTb2 : IsFd Tryz.prog 79 0 0 := IsFd.of (by kernel_rfl)
instance iTb3 : IsFd Tryz.prog 79 1 1 := IsFd.of (by kernel_rfl)
instance iTb4 : IsZC Tryz.prog 79 [.slice none 0 0, .slice none 0 0] := IsZC.of (z := .agg #[.slice none 0 0, .slice none 0 0]) (by kernel_rfl) rfl
instance iTb5 : IsBd Tryz.prog 79 [(0, 1), (1, 1)] := IsBd.of (by kernel_rfl)
/-- a maker that is read -/
structure MkA (w : World) (sb : Nat) (m : Mk2) : Prop where
  ok : ∃ ao ac po pc, Blk w sb 79 [.slice ao m.1.length ac, .slice po m.2.length pc] ∧ Sl w (Old w) ao ac m.1 ∧ Sl w (Old w) po pc m.2
theorem MkA.ext {w w' : World} {sb : Nat} {m : Mk2} (h : MkA w sb m) (hE : Ext w w') : MkA w' sb m := by
  obtain ⟨ao, ac, po, pc, h1, h2, h3⟩ := h.ok
  exact ⟨ao, ac, po, pc, h1.ext hE, h2.up hE, h3.up hE⟩
theorem part1_ok (w : World) (b : Nat) {t g : Ltl} {ao go : Option Addr} {ac gc : Nat} (hb : Blk w b 35 [.int .i64 t.k, .int .i64 t.n, .slice ao t.kids.length ac]) (ht : Sl w (Old w) ao ac t.kids) (hg : Sl w (Old w) go gc g.kids) :
    Rt Tryz.prog 96 [ltlV g.k g.n go g.kids.length gc, .pointer (some ⟨b, 0, none⟩)].toArray w fun v w' => v = .bool (sameB t g) ∧ Ext w w' := by
  refine Rt.enter2 Tryz.func96 Tryz.ntmps96 rfl rfl ?_
  (repeat (first | (apply CW.seq) | (apply CW.region)))
  refine WL.boxB rfl rfl rfl fun w1 hb1 e1 => ?_
  have hb := hb.ext e1
  (repeat (first | (apply WL.pure; rfl; rfl; rfl) | (apply WL.nil) | (apply EX.thenN) | (apply CW.seq) | (apply CW.region) | (apply WL.ldA; rfl; rfl; rfl; assumption; rfl)))
  refine WL.call rfl rfl rfl (pu_Same _ t g (Nat.le_refl _) w1 (Old w1) ao go ac gc (ht.up e1) (hg.up e1) (fun _ h => h)) ?_
  rintro _ w2 ⟨rfl, e2⟩
  (repeat (first | (apply WL.pure; rfl; rfl; rfl) | (apply WL.nil) | (apply EX.thenN) | (apply CW.ret)))
  exact EX.ret1 rfl rfl ⟨rfl, e1.trans e2⟩
theorem part_ok (w : World) {sb : Nat} {m : Mk2} {t : Ltl} {ko : Option Addr} {kc : Nat} (hM : MkA w sb m) (hk : Sl w (Old w) ko kc t.kids) :
    Rt Tryz.prog 67 [.pointer (some ⟨sb, 0, none⟩), ltlV t.k t.n ko t.kids.length kc].toArray w fun v w' => v = .int .i64 (partI m t) ∧ Ext w w' := by
  refine Rt.enter2 Tryz.func67 Tryz.ntmps67 rfl rfl ?_
  (repeat (first | (apply CW.seq) | (apply CW.region)))
  refine WL.boxB rfl rfl rfl fun w1 hb3 e1 => ?_
  obtain ⟨ao, ac, po, pc, hblk, h1, h2⟩ := (hM.ext e1).ok
  (repeat (first | (apply WL.pure; rfl; rfl; rfl) | (apply WL.nil) | (apply EX.thenN) | (apply CW.seq) | (apply CW.region) | (apply WL.makeFunc; rfl; rfl; rfl; rfl) | (apply WL.fa; rfl; rfl; rfl) | (apply WL.nck; rfl; rfl; rfl) | (apply WL.ld; rfl; rfl; rfl; assumption; rfl)))
  refine WL.call rfl rfl rfl (indexFunc_ltl w1 (sameB t) h2 (fun w2 hw i hi u hu => ?_)) ?_
  · obtain ⟨go, gc, rfl, hg⟩ := Rd.ltl hu
    exact FnV.mk (cs := [_]) (part1_ok w2 _ (hb3.ext hw) (hk.up (e1.trans hw)) (hg.mono (fun _ _ => rfl) (fun b hb => Nat.lt_of_lt_of_le hb hw.size)))
  rintro _ w2 ⟨rfl, e2⟩
  (repeat (first | (apply WL.pure; rfl; rfl; rfl) | (apply WL.nil) | (apply EX.thenN) | (apply CW.ret)))
  exact EX.ret1 rfl rfl ⟨rfl, e1.trans e2⟩
theorem cho_bit {s i : Nat} : ((((s >>> i &&& 1 : Nat) : Int)) == 1) = s.testBit i := by
  rw [Bool.eq_iff_iff, ← shr_bit]
  simp only [beq_iff_eq]
  omega
theorem chosen_ok (w0 : World) {sb : Nat} {m : Mk2} {t : Ltl} {s : Nat} {ko : Option Addr} {kc : Nat} (hM : MkA w0 sb m) (hk : Sl w0 (Old w0) ko kc t.kids) (hs : s < 1048576) (hl : m.1.length ≤ 20 ∧ m.2.length ≤ 20) (h3 : t.k = 3 → t.n ∈ m.1) (hp : t.k ≠ 3 → t ∈ m.2) :
    Rt Tryz.prog 70 [.pointer (some ⟨sb, 0, none⟩), ltlV t.k t.n ko t.kids.length kc, .int .i64 (s : Int)].toArray w0 fun v w' => v = .bool (choB m s t) ∧ Ext w0 w' := by
  refine Rt.enter3 Tryz.func70 Tryz.ntmps70 rfl rfl ?_
  (repeat (first | (apply CW.seq) | (apply CW.region)))
  refine WL.boxB rfl rfl rfl fun w1 hb4 e1 => ?_
  obtain ⟨ao, ac, po, pc, hblk, h1, h2⟩ := (hM.ext e1).ok
  have hsw : ∀ i : Nat, s >>> i < 4611686018427387904 := fun i => by have := Nat.shiftRight_le s i; omega
  have hD := Ext.drew w1
  have hSE : ∀ z, (fun z : World => Ext (drew w1) z) z → Ext (drew w1) z := fun _ h => h
  have hblkd := hblk.ext hD
  have hb4d := hb4.ext hD
  (repeat (first | (apply WL.pure; rfl; rfl; rfl) | (apply WL.nil) | (apply EX.thenN) | (apply CW.seq) | (apply CW.region) | (apply WL.fa; rfl; rfl; rfl) | (apply WL.ld; rfl; rfl; rfl; assumption; rfl)))
  refine CW.cond rfl (fun h => ?_) (fun h => ?_)
  · have h : t.k = 3 := by simpa using h
    obtain ⟨i, hi, he, _⟩ := atomI_in (h3 h)
    have hc : choB m s t = s.testBit i := by unfold choB; rw [if_pos h, he, Int.toNat_natCast]
    rw [hc]
    (repeat (apply CW.seq))
    refine CW.drawH (fun z : World => Ext (drew w1) z) [(0, true), (1, true), (2, true), (3, true), (4, true), (5, true), (6, true), (7, false), (8, true), (9, true), (10, true), (11, true)] mixed (by kernel_rfl) (Ext.refl _) ?_
    (repeat (first | (apply HL.pure; rfl; rfl; rfl; rfl) | (refine HL.fa rfl rfl rfl rfl ?_) | (apply HL.nck; rfl; rfl; rfl; rfl) | (refine HL.ld (by assumption) rfl rfl rfl rfl (by assumption) rfl ?_)))
    refine HL.mut rfl (WL.call rfl rfl rfl (index_int (drew w1) t.n (h1.up hD)) ?_)
    rintro _ w2 ⟨rfl, e2⟩
    refine WL.nil (EX.mut e2 ?_)
    rw [show idxOf (fun y => t.n == y) m.1 = (i : Int) from he]
    skip
    refine HL.shrS rfl rfl rfl rfl rfl (by omega) ?_
    (repeat (first | (apply HL.pure; rfl; rfl; rfl; rfl) | (apply HL.nil)))
    rw [show bits .and .i64 ((s >>> i : Nat) : Int) 1 = ((s >>> i &&& 1 : Nat) : Int) from bits_andS _ 1 (hsw i) (by omega), cho_bit]
    skip
    (repeat (first | (apply EX.thenN) | (apply CW.ret) | (apply EX.thenR)))
    exact EX.ret1 rfl rfl ⟨rfl, (e1.trans hD).trans e2⟩
  · have h : t.k ≠ 3 := by simpa using h
    obtain ⟨i, hi, he, _⟩ := partI_in (hp h)
    have hc : choB m s t = s.testBit (m.1.length + i) := by unfold choB; rw [if_neg h, he, Int.toNat_natCast]
    rw [hc]
    (repeat (first | (apply EX.thenN) | (apply CW.seq) | (apply CW.skip)))
    refine CW.drawH (fun z : World => Ext (drew w1) z) [(0, true), (1, true), (2, true), (3, true), (4, true), (5, true), (6, true), (7, true), (8, false), (9, true), (10, true), (11, true), (12, true), (13, true)] mixed (by kernel_rfl) (Ext.refl _) ?_
    (repeat (first | (apply HL.pure; rfl; rfl; rfl; rfl) | (refine HL.fa rfl rfl rfl rfl ?_) | (apply HL.nck; rfl; rfl; rfl; rfl) | (refine HL.ld (by assumption) rfl rfl rfl rfl (by assumption) rfl ?_) | (refine HL.ldA (by assumption) rfl rfl rfl rfl (by assumption) rfl ?_) | (refine HL.lenS rfl rfl rfl rfl ?_)))
    refine HL.mut rfl (WL.call rfl rfl rfl (part_ok (drew w1) (t := t) ((hM.ext e1).ext hD) (hk.up (e1.trans hD))) ?_)
    rintro _ w2 ⟨rfl, e2⟩
    refine WL.nil (EX.mut e2 ?_)
    rw [he]
    (repeat (apply HL.add; rfl; rfl; rfl; rfl; rfl; omega; omega))
    rw [show ((m.1.length : Nat) : Int) + (i : Int) = ((m.1.length + i : Nat) : Int) by omega]
    refine HL.shrS rfl rfl rfl rfl rfl (by omega) ?_
    (repeat (first | (apply HL.pure; rfl; rfl; rfl; rfl) | (apply HL.nil)))
    rw [show bits .and .i64 ((s >>> (m.1.length + i) : Nat) : Int) 1 = ((s >>> (m.1.length + i) &&& 1 : Nat) : Int) from bits_andS _ 1 (hsw _) (by omega), cho_bit]
    skip
    (repeat (first | (apply EX.thenN) | (apply CW.ret)))
    exact EX.ret1 rfl rfl ⟨rfl, (e1.trans hD).trans e2⟩
theorem wf_cases : ∀ t, wfT t → t = .mk 1 0 [] ∨ t = .mk 2 0 [] ∨ (∃ n, t = .mk 3 n []) ∨ (∃ k a, (k = 4 ∨ k = 7 ∨ k = 10 ∨ k = 11) ∧ t = .mk k 0 [a]) ∨ ∃ k a b, (k = 5 ∨ k = 6 ∨ k = 8 ∨ k = 9) ∧ t = .mk k 0 [a, b] :=
  wf_ind (M := fun t => t = .mk 1 0 [] ∨ t = .mk 2 0 [] ∨ (∃ n, t = .mk 3 n []) ∨ (∃ k a, (k = 4 ∨ k = 7 ∨ k = 10 ∨ k = 11) ∧ t = .mk k 0 [a]) ∨ ∃ k a b, (k = 5 ∨ k = 6 ∨ k = 8 ∨ k = 9) ∧ t = .mk k 0 [a, b])
    (.inl rfl) (.inr (.inl rfl)) (fun n _ _ => .inr (.inr (.inl ⟨n, rfl⟩))) (fun k a hk _ _ => .inr (.inr (.inr (.inl ⟨k, a, hk, rfl⟩)))) (fun k a b hk _ _ _ _ => .inr (.inr (.inr (.inr ⟨k, a, b, hk, rfl⟩))))
set_option maxHeartbeats 2000000 in
theorem tholds_ok : ∀ (d : Nat) (t : Ltl), t.nodes ≤ d → ∀ (w0 : World) {sb : Nat} {m : Mk2} {s : Nat} {ko : Option Addr} {kc : Nat}, MkA w0 sb m → OkF m t → Sl w0 (Old w0) ko kc t.kids → s < 1048576 → (m.1.length ≤ 20 ∧ m.2.length ≤ 20) →
    Rt Tryz.prog 34 [.pointer (some ⟨sb, 0, none⟩), ltlV t.k t.n ko t.kids.length kc, .int .i64 (s : Int)].toArray w0 fun v w' => v = .bool (hoB m s t) ∧ Ext w0 w' := by
  intro d
  induction d with
  | zero => intro t h; have := t.nodes_pos; omega
  | succ d ih =>
    intro t hd w0 sb m s ko kc hM hF hk hs hl
    have hc := hF.cov
    rcases wf_cases t hF.wf with rfl | rfl | ⟨n, rfl⟩ | ⟨k, a, hkk, rfl⟩ | ⟨k, a, b, hkk, rfl⟩
    · refine Rt.enter3 Tryz.func34 Tryz.ntmps34 rfl rfl ?_
      rw [ho1]
      (repeat (first | (apply CW.seq) | (apply CW.region)))
      refine WL.boxB rfl rfl rfl fun w1 hb4 e1 => ?_
      (repeat (first | (apply WL.pure; rfl; rfl; rfl) | (apply WL.nil) | (apply EX.thenN) | (apply CW.seq) | (apply CW.region) | (apply WL.fa; rfl; rfl; rfl) | (apply WL.ld; rfl; rfl; rfl; assumption; rfl) | (apply CW.block) | (apply CW.condT; rfl) | (apply CW.ret) | (apply EX.thenR) | (apply EX.inR)))
      exact EX.ret1 rfl rfl ⟨rfl, e1⟩
    · refine Rt.enter3 Tryz.func34 Tryz.ntmps34 rfl rfl ?_
      rw [ho2]
      (repeat (first | (apply CW.seq) | (apply CW.region)))
      refine WL.boxB rfl rfl rfl fun w1 hb4 e1 => ?_
      (repeat (first | (apply WL.pure; rfl; rfl; rfl) | (apply WL.nil) | (apply EX.thenN) | (apply CW.seq) | (apply CW.region) | (apply WL.fa; rfl; rfl; rfl) | (apply WL.ld; rfl; rfl; rfl; assumption; rfl) | (apply CW.block) | (apply CW.condT; rfl) | (apply CW.condF; rfl) | (apply CW.ret) | (apply EX.thenR) | (apply EX.inR)))
      exact EX.ret1 rfl rfl ⟨rfl, e1⟩
    · simp only [Cov] at hc
      have h3 := ho3 (m := m) (s := s) (n := n)
      refine Rt.enter3 Tryz.func34 Tryz.ntmps34 rfl rfl ?_
      (repeat (first | (apply CW.seq) | (apply CW.region)))
      refine WL.boxB rfl rfl rfl fun w1 hb4 e1 => ?_
      (repeat (first | (apply WL.pure; rfl; rfl; rfl) | (apply WL.nil) | (apply EX.thenN) | (apply CW.seq) | (apply CW.region) | (apply WL.fa; rfl; rfl; rfl) | (apply WL.ld; rfl; rfl; rfl; assumption; rfl) | (apply WL.ldA; rfl; rfl; rfl; assumption; rfl) | (apply CW.block) | (apply EX.inN) | (apply CW.condF; rfl) | (apply CW.skip)))
      refine WL.call rfl rfl rfl (chosen_ok w1 (t := .mk 3 n []) (hM.ext e1) (hk.up e1) hs hl (fun _ => hc.1 trivial) (fun h => absurd rfl h)) ?_
      rintro _ w2 ⟨rfl, e2⟩
      (repeat (first | (apply WL.pure; rfl; rfl; rfl) | (apply WL.nil) | (apply EX.thenN) | (apply CW.ret)))
      exact EX.ret1 rfl rfl ⟨by rw [h3]; rfl, e1.trans e2⟩
    · have ha := hF.un
      have hda : a.nodes ≤ d := by simp only [Ltl.nodes, Ltl.nodesL] at hd; omega
      rcases hkk with rfl | rfl | rfl | rfl
      · refine Rt.enter3 Tryz.func34 Tryz.ntmps34 rfl rfl ?_
        rw [ho4]
        (repeat (first | (apply CW.seq) | (apply CW.region)))
        refine WL.boxB rfl rfl rfl fun w1 hb4 e1 => ?_
        (repeat (first | (apply WL.pure; rfl; rfl; rfl) | (apply WL.nil) | (apply EX.thenN) | (apply CW.seq) | (apply CW.region) | (apply WL.fa; rfl; rfl; rfl) | (apply WL.ld; rfl; rfl; rfl; assumption; rfl) | (apply CW.block) | (apply CW.condT; rfl) | (apply CW.condF; rfl)))
        refine WL.elemN (i := 0) rfl rfl rfl rfl rfl (hk.up e1) (by simp [Ltl.kids]) (fun _ => rfl) (fun u q hu => ?_)
        obtain ⟨uo, uc, rfl, hka⟩ := Rd.ltl (t := a) hu
        (repeat (apply WL.pure; rfl; rfl; rfl))
        refine WL.call rfl rfl rfl (ih a hda w1 (hM.ext e1) ha hka hs hl) ?_
        rintro _ w2 ⟨rfl, e2⟩
        (repeat (first | (apply WL.pure; rfl; rfl; rfl) | (apply WL.nil) | (apply EX.thenN) | (apply CW.ret) | (apply EX.thenR) | (apply EX.inR)))
        exact EX.ret1 rfl rfl ⟨rfl, e1.trans e2⟩
      · simp only [Cov] at hc
        have h7 := ho7 (m := m) (s := s) (n := 0) (a := a)
        refine Rt.enter3 Tryz.func34 Tryz.ntmps34 rfl rfl ?_
        (repeat (first | (apply CW.seq) | (apply CW.region)))
        refine WL.boxB rfl rfl rfl fun w1 hb4 e1 => ?_
        (repeat (first | (apply WL.pure; rfl; rfl; rfl) | (apply WL.nil) | (apply EX.thenN) | (apply CW.seq) | (apply CW.region) | (apply WL.fa; rfl; rfl; rfl) | (apply WL.ld; rfl; rfl; rfl; assumption; rfl) | (apply WL.ldA; rfl; rfl; rfl; assumption; rfl) | (apply CW.block) | (apply EX.inN) | (apply CW.condF; rfl) | (apply CW.skip)))
        refine WL.call rfl rfl rfl (chosen_ok w1 (t := .mk 7 0 [a]) (hM.ext e1) (hk.up e1) hs hl (fun h => by cases h) (fun _ => hc.2.1 (by simp))) ?_
        rintro _ w2 ⟨rfl, e2⟩
        (repeat (first | (apply WL.pure; rfl; rfl; rfl) | (apply WL.nil) | (apply EX.thenN) | (apply CW.ret)))
        exact EX.ret1 rfl rfl ⟨by rw [h7]; rfl, e1.trans e2⟩
      · have := hF.h10; simp [hasB] at this
      · have := hF.h11; simp [hasB] at this
    · have ha := hF.b1
      have hb := hF.b2
      have hda : a.nodes ≤ d := by simp only [Ltl.nodes, Ltl.nodesL] at hd; omega
      have hdb : b.nodes ≤ d := by simp only [Ltl.nodes, Ltl.nodesL] at hd; omega
      rcases hkk with rfl | rfl | rfl | rfl
      · refine Rt.enter3 Tryz.func34 Tryz.ntmps34 rfl rfl ?_
        rw [ho5]
        (repeat (first | (apply CW.seq) | (apply CW.region)))
        refine WL.boxB rfl rfl rfl fun w1 hb4 e1 => ?_
        (repeat (first | (apply WL.pure; rfl; rfl; rfl) | (apply WL.nil) | (apply EX.thenN) | (apply CW.seq) | (apply CW.region) | (apply WL.fa; rfl; rfl; rfl) | (apply WL.ld; rfl; rfl; rfl; assumption; rfl) | (apply CW.block) | (apply CW.condT; rfl) | (apply CW.condF; rfl)))
        refine WL.elemN (i := 0) rfl rfl rfl rfl rfl (hk.up e1) (by simp [Ltl.kids]) (fun _ => rfl) (fun u q hu => ?_)
        obtain ⟨uo, uc, rfl, hka⟩ := Rd.ltl (t := a) hu
        (repeat (apply WL.pure; rfl; rfl; rfl))
        refine WL.call rfl rfl rfl (ih a hda w1 (hM.ext e1) ha hka hs hl) ?_
        rintro _ w2 ⟨rfl, e2⟩
        have hb4 := hb4.ext e2
        cases hoB m s a
        · (repeat (first | (apply WL.pure; rfl; rfl; rfl) | (apply WL.nil) | (apply EX.thenN) | (apply WL.pass; rfl; rfl) | (apply CW.ret) | (apply EX.thenR) | (apply EX.inR)))
          exact EX.ret1 rfl rfl ⟨rfl, e1.trans e2⟩
        · (repeat (first | (apply WL.pure; rfl; rfl; rfl) | (apply WL.fa; rfl; rfl; rfl) | (apply WL.ld; rfl; rfl; rfl; assumption; rfl)))
          refine WL.elemN (i := 1) rfl rfl rfl rfl rfl (hk.up (e1.trans e2)) (by simp [Ltl.kids]) (fun _ => rfl) (fun u q hu => ?_)
          obtain ⟨vo, vc, rfl, hkb⟩ := Rd.ltl (t := b) hu
          (repeat (apply WL.pure; rfl; rfl; rfl))
          refine WL.call rfl rfl rfl (ih b hdb w2 (hM.ext (e1.trans e2)) hb hkb hs hl) ?_
          rintro _ w3 ⟨rfl, e3⟩
          (repeat (first | (apply WL.pure; rfl; rfl; rfl) | (apply WL.nil) | (apply EX.thenN) | (apply CW.ret) | (apply EX.thenR) | (apply EX.inR)))
          exact EX.ret1 rfl rfl ⟨rfl, (e1.trans e2).trans e3⟩
      · refine Rt.enter3 Tryz.func34 Tryz.ntmps34 rfl rfl ?_
        rw [ho6]
        (repeat (first | (apply CW.seq) | (apply CW.region)))
        refine WL.boxB rfl rfl rfl fun w1 hb4 e1 => ?_
        (repeat (first | (apply WL.pure; rfl; rfl; rfl) | (apply WL.nil) | (apply EX.thenN) | (apply CW.seq) | (apply CW.region) | (apply WL.fa; rfl; rfl; rfl) | (apply WL.ld; rfl; rfl; rfl; assumption; rfl) | (apply CW.block) | (apply CW.condT; rfl) | (apply CW.condF; rfl)))
        refine WL.elemN (i := 0) rfl rfl rfl rfl rfl (hk.up e1) (by simp [Ltl.kids]) (fun _ => rfl) (fun u q hu => ?_)
        obtain ⟨uo, uc, rfl, hka⟩ := Rd.ltl (t := a) hu
        (repeat (apply WL.pure; rfl; rfl; rfl))
        refine WL.call rfl rfl rfl (ih a hda w1 (hM.ext e1) ha hka hs hl) ?_
        rintro _ w2 ⟨rfl, e2⟩
        have hb4 := hb4.ext e2
        cases hoB m s a
        · (repeat (first | (apply WL.pure; rfl; rfl; rfl) | (apply WL.fa; rfl; rfl; rfl) | (apply WL.ld; rfl; rfl; rfl; assumption; rfl)))
          refine WL.elemN (i := 1) rfl rfl rfl rfl rfl (hk.up (e1.trans e2)) (by simp [Ltl.kids]) (fun _ => rfl) (fun u q hu => ?_)
          obtain ⟨vo, vc, rfl, hkb⟩ := Rd.ltl (t := b) hu
          (repeat (apply WL.pure; rfl; rfl; rfl))
          refine WL.call rfl rfl rfl (ih b hdb w2 (hM.ext (e1.trans e2)) hb hkb hs hl) ?_
          rintro _ w3 ⟨rfl, e3⟩
          (repeat (first | (apply WL.pure; rfl; rfl; rfl) | (apply WL.nil) | (apply EX.thenN) | (apply CW.ret) | (apply EX.thenR) | (apply EX.inR)))
          exact EX.ret1 rfl rfl ⟨rfl, (e1.trans e2).trans e3⟩
        · (repeat (first | (apply WL.pure; rfl; rfl; rfl) | (apply WL.nil) | (apply EX.thenN) | (apply WL.pass; rfl; rfl) | (apply CW.ret) | (apply EX.thenR) | (apply EX.inR)))
          exact EX.ret1 rfl rfl ⟨rfl, e1.trans e2⟩
      · have hcb := hF.cov
        simp only [Cov] at hcb
        refine Rt.enter3 Tryz.func34 Tryz.ntmps34 rfl rfl ?_
        rw [ho8]
        (repeat (first | (apply CW.seq) | (apply CW.region)))
        refine WL.boxB rfl rfl rfl fun w1 hb4 e1 => ?_
        (repeat (first | (apply WL.pure; rfl; rfl; rfl) | (apply WL.nil) | (apply EX.thenN) | (apply CW.seq) | (apply CW.region) | (apply WL.fa; rfl; rfl; rfl) | (apply WL.ld; rfl; rfl; rfl; assumption; rfl) | (apply CW.block) | (apply CW.condT; rfl) | (apply CW.condF; rfl)))
        refine WL.elemN (i := 1) rfl rfl rfl rfl rfl (hk.up e1) (by simp [Ltl.kids]) (fun _ => rfl) (fun u q hu => ?_)
        obtain ⟨uo, uc, rfl, hkb⟩ := Rd.ltl (t := b) hu
        (repeat (apply WL.pure; rfl; rfl; rfl))
        refine WL.call rfl rfl rfl (ih b hdb w1 (hM.ext e1) hb hkb hs hl) ?_
        rintro _ w2 ⟨rfl, e2⟩
        have hb4 := hb4.ext e2
        have hE2 := e1.trans e2
        cases hoB m s b
        · (repeat (first | (apply WL.pure; rfl; rfl; rfl) | (apply WL.fa; rfl; rfl; rfl) | (apply WL.ld; rfl; rfl; rfl; assumption; rfl)))
          refine WL.elemN (i := 0) rfl rfl rfl rfl rfl (hk.up hE2) (by simp [Ltl.kids]) (fun _ => rfl) (fun u q hu => ?_)
          obtain ⟨vo, vc, rfl, hka⟩ := Rd.ltl (t := a) hu
          (repeat (apply WL.pure; rfl; rfl; rfl))
          refine WL.call rfl rfl rfl (ih a hda w2 (hM.ext hE2) ha hka hs hl) ?_
          rintro _ w3 ⟨rfl, e3⟩
          have hb4 := hb4.ext e3
          have hE3 := hE2.trans e3
          cases hoB m s a
          · (repeat (first | (apply WL.pure; rfl; rfl; rfl) | (apply WL.nil) | (apply EX.thenN) | (apply WL.pass; rfl; rfl) | (apply CW.ret) | (apply EX.thenR) | (apply EX.inR)))
            exact EX.ret1 rfl rfl ⟨rfl, hE3⟩
          · (repeat (first | (apply WL.pure; rfl; rfl; rfl) | (apply WL.ldA; rfl; rfl; rfl; assumption; rfl)))
            refine WL.call rfl rfl rfl (chosen_ok w3 (t := .mk 8 0 [a, b]) (hM.ext hE3) (hk.up hE3) hs hl (fun h => by cases h) (fun _ => hcb.2.1 (by simp))) ?_
            rintro _ w4 ⟨rfl, e4⟩
            (repeat (first | (apply WL.pure; rfl; rfl; rfl) | (apply WL.nil) | (apply EX.thenN) | (apply CW.ret) | (apply EX.thenR) | (apply EX.inR)))
            exact EX.ret1 rfl rfl ⟨rfl, hE3.trans e4⟩
        · (repeat (first | (apply WL.pure; rfl; rfl; rfl) | (apply WL.nil) | (apply EX.thenN) | (apply WL.pass; rfl; rfl) | (apply CW.ret) | (apply EX.thenR) | (apply EX.inR)))
          exact EX.ret1 rfl rfl ⟨rfl, hE2⟩
      · have hcb := hF.cov
        simp only [Cov] at hcb
        refine Rt.enter3 Tryz.func34 Tryz.ntmps34 rfl rfl ?_
        rw [ho9]
        (repeat (first | (apply CW.seq) | (apply CW.region)))
        refine WL.boxB rfl rfl rfl fun w1 hb4 e1 => ?_
        (repeat (first | (apply WL.pure; rfl; rfl; rfl) | (apply WL.nil) | (apply EX.thenN) | (apply CW.seq) | (apply CW.region) | (apply WL.fa; rfl; rfl; rfl) | (apply WL.ld; rfl; rfl; rfl; assumption; rfl) | (apply CW.block) | (apply CW.condT; rfl) | (apply CW.condF; rfl)))
        refine WL.elemN (i := 1) rfl rfl rfl rfl rfl (hk.up e1) (by simp [Ltl.kids]) (fun _ => rfl) (fun u q hu => ?_)
        obtain ⟨uo, uc, rfl, hkb⟩ := Rd.ltl (t := b) hu
        (repeat (apply WL.pure; rfl; rfl; rfl))
        refine WL.call rfl rfl rfl (ih b hdb w1 (hM.ext e1) hb hkb hs hl) ?_
        rintro _ w2 ⟨rfl, e2⟩
        have hb4 := hb4.ext e2
        have hE2 := e1.trans e2
        cases hoB m s b
        · (repeat (first | (apply WL.pure; rfl; rfl; rfl) | (apply WL.nil) | (apply EX.thenN) | (apply WL.pass; rfl; rfl) | (apply CW.ret) | (apply EX.thenR) | (apply EX.inR)))
          exact EX.ret1 rfl rfl ⟨rfl, hE2⟩
        · (repeat (first | (apply WL.pure; rfl; rfl; rfl) | (apply WL.fa; rfl; rfl; rfl) | (apply WL.ld; rfl; rfl; rfl; assumption; rfl)))
          refine WL.elemN (i := 0) rfl rfl rfl rfl rfl (hk.up hE2) (by simp [Ltl.kids]) (fun _ => rfl) (fun u q hu => ?_)
          obtain ⟨vo, vc, rfl, hka⟩ := Rd.ltl (t := a) hu
          (repeat (apply WL.pure; rfl; rfl; rfl))
          refine WL.call rfl rfl rfl (ih a hda w2 (hM.ext hE2) ha hka hs hl) ?_
          rintro _ w3 ⟨rfl, e3⟩
          have hb4 := hb4.ext e3
          have hE3 := hE2.trans e3
          cases hoB m s a
          · (repeat (first | (apply WL.pure; rfl; rfl; rfl) | (apply WL.ldA; rfl; rfl; rfl; assumption; rfl)))
            refine WL.call rfl rfl rfl (chosen_ok w3 (t := .mk 9 0 [a, b]) (hM.ext hE3) (hk.up hE3) hs hl (fun h => by cases h) (fun _ => hcb.2.1 (by simp))) ?_
            rintro _ w4 ⟨rfl, e4⟩
            (repeat (first | (apply WL.pure; rfl; rfl; rfl) | (apply WL.nil) | (apply EX.thenN) | (apply CW.ret) | (apply EX.thenR) | (apply EX.inR)))
            exact EX.ret1 rfl rfl ⟨rfl, hE3.trans e4⟩
          · (repeat (first | (apply WL.pure; rfl; rfl; rfl) | (apply WL.nil) | (apply EX.thenN) | (apply WL.pass; rfl; rfl) | (apply CW.ret) | (apply EX.thenR) | (apply EX.inR)))
            exact EX.ret1 rfl rfl ⟨rfl, hE3⟩
theorem owed_ok (w : World) {sb : Nat} {m : Mk2} {s : Nat} (hM : MkA w sb m) (hl : m.1.length ≤ 20) : Rt Tryz.prog 36 [.pointer (some ⟨sb, 0, none⟩), .int .i64 (s : Int)].toArray w fun v w' => v = .int .i64 ((s >>> m.1.length : Nat) : Int) ∧ w = w' := by
  obtain ⟨ao, ac, po, pc, hblk, h1, h2⟩ := hM.ok
  refine Rt.enter2 Tryz.func36 Tryz.ntmps36 rfl rfl ?_
  (repeat (first | (apply WL.pure; rfl; rfl; rfl) | (apply WL.nil) | (apply EX.thenN) | (apply CW.seq) | (apply CW.region) | (apply WL.lenS; rfl; rfl; rfl) | (apply WL.fa; rfl; rfl; rfl) | (apply WL.nck; rfl; rfl; rfl) | (apply WL.ld; rfl; rfl; rfl; assumption; rfl)))
  refine WL.shrS rfl rfl rfl rfl (by omega) ?_
  (repeat (first | (apply WL.pure; rfl; rfl; rfl) | (apply WL.nil) | (apply EX.thenN) | (apply CW.ret)))
  exact EX.ret1 rfl rfl ⟨rfl, rfl⟩
end Go.Proofs.YtllpfgcngokhnaaGreat

/-
  Package tableau: kept, bits, fair: walked.
-/
set_option linter.unusedVariables false
set_option linter.unusedSimpArgs false
namespace Go.Proofs.YtllpfgcngokhnaaGreat
open Go.RowKit

theorem argE7 {n : Int} {a : Ltl} : argE (.mk 7 n [a]) = a := rfl
theorem argE_k {k n : Int} {l : List Ltl} (h : k = 8 ∨ k = 9) : argE (.mk k n l) = .mk k n l := by
  unfold argE
  rw [if_neg (by simp only [Ltl.k]; omega)]
set_option maxHeartbeats 1000000 in
theorem kept_ok (w0 : World) {sb : Nat} {m : Mk2} {s : Nat} (hM : MkA w0 sb m) (hT : OkT m) (hs : s < 1048576) (hl : m.1.length ≤ 20 ∧ m.2.length ≤ 20) :
    Rt Tryz.prog 33 [.pointer (some ⟨sb, 0, none⟩), .int .i64 (s : Int)].toArray w0 fun v w' => v = .int .i64 ((keepN m s : Nat) : Int) ∧ Ext w0 w' := by
  obtain ⟨ao, ac, po, pc, hblk, h1, h2⟩ := hM.ok
  have hpl := h2.len63
  refine Rt.enter2 Tryz.func33 Tryz.ntmps33 rfl rfl ?_
  (repeat (first | (apply WL.pure; rfl; rfl; rfl) | (apply WL.nil) | (apply EX.thenN) | (apply CW.seq) | (apply CW.region) | (apply WL.lenS; rfl; rfl; rfl) | (apply WL.fa; rfl; rfl; rfl) | (apply WL.nck; rfl; rfl; rfl) | (apply WL.ld; rfl; rfl; rfl; assumption; rfl) | (apply CW.block)))
  refine CW.loop (S := Nat) (fun i => [(0, .pointer (some ⟨sb, 0, none⟩)), (1, .int .i64 (s : Int)), (5, .int .i64 ((packB (fun i => hoB m s (argE (m.2.getD i nilT))) i : Nat) : Int)), (12, .slice po m.2.length pc), (13, .int .i64 m.2.length), (14, .int .i64 i)])
    (fun i w => i ≤ m.2.length ∧ Ext w0 w) (fun i => m.2.length - i) 0 (by repeat (first | exact trivial | refine ⟨rfl, ?_⟩)) ⟨Nat.zero_le _, Ext.refl _⟩ ?_
  rintro i w ⟨hi, hE⟩
  have hpk := packB_lt (f := fun i => hoB m s (argE (m.2.getD i nilT))) (c := i)
  have hp20 : 2 ^ i ≤ 2 ^ 20 := Nat.pow_le_pow_right (by omega) (by omega)
  (repeat (first | (apply WL.pure; rfl; rfl; rfl) | (apply WL.nil) | (apply EX.thenN) | (apply CW.seq) | (apply CW.region)))
  refine CW.cond rfl (fun h => ?_) (fun h => ?_)
  · have hi' : i < m.2.length := by simp at h; omega
    have hg : m.2[i] ∈ m.2 := List.getElem_mem hi'
    have hgi : m.2.getD i nilT = m.2[i] := getNil hi'
    have hF := hT.arg hg
    have hsh := part_shape (hT.part hg).wf (hT.ok.wp _ hg).2.1
    have hnx : packB (fun i => hoB m s (argE (m.2.getD i nilT))) (i + 1) = if hoB m s (argE m.2[i]) = true then packB (fun i => hoB m s (argE (m.2.getD i nilT))) i ||| (1 <<< i) else packB (fun i => hoB m s (argE (m.2.getD i nilT))) i := by
      rw [packB, hgi]
    have h2i : 2 ^ i < 4611686018427387904 := Nat.lt_of_le_of_lt hp20 (by decide)
    generalize packB (fun i => hoB m s (argE (m.2.getD i nilT))) i = acc at *
    have hor := bits_orS acc (1 <<< i) (by omega) (by rw [Nat.one_shiftLeft]; exact h2i)
    (repeat (first | (apply WL.pure; rfl; rfl; rfl) | (apply EX.thenN) | (apply CW.seq) | (apply CW.region) | (apply CW.block) | (apply CW.skip)))
    refine WL.elemN rfl rfl rfl rfl rfl (h2.up hE) hi' (fun _ => rfl) (fun u q hu => ?_)
    generalize m.2[i] = g at *
    obtain ⟨go, gc, rfl, hgk⟩ := Rd.ltl hu
    skip
    refine WL.alloc rfl rfl (fun w1 hb7 e1 => ?_)
    have z1 := hb7.lt
    (repeat (apply WL.pure; rfl; rfl; rfl))
    refine WL.st rfl rfl rfl hb7 rfl rfl (ones_of rfl) (fun w2 hb7 hg2 => ?_)
    have e2 : Ext w w2 := e1.grown hg2 e1.size (fun g hg => by cases hg; exact Nat.le_refl _)
    (repeat (first | (apply WL.nil) | (apply EX.thenN) | (apply CW.seq) | (apply CW.region) | (apply WL.ldA; rfl; rfl; rfl; assumption; rfl)))
    refine WL.alloc rfl rfl (fun w3 hb8 e3 => ?_)
    have hb7 := hb7.ext e3
    skip
    refine WL.st rfl rfl rfl hb8 rfl rfl (ones_of rfl) (fun w4 hb8 hg4 => ?_)
    have e4 : Ext w2 w4 := e3.grown hg4 e3.size (fun g hg => by cases hg; exact Nat.le_refl _)
    have z2 := hg2.size
    have hE4 := (hE.trans e2).trans e4
    have hgk4 := hgk.up (e2.trans e4)
    have hb7 := hb7.kept hg4 (fun e => by have := Option.some.inj e; omega)
    rcases hsh with ⟨a, rfl⟩ | ⟨k, a, b, hk, rfl⟩
    · rw [argE7] at hF hnx
      (repeat (first | (apply WL.pure; rfl; rfl; rfl) | (apply WL.nil) | (apply EX.thenN) | (apply CW.seq) | (apply CW.region) | (apply WL.fa; rfl; rfl; rfl) | (apply WL.ld; rfl; rfl; rfl; assumption; rfl) | (apply CW.condT; rfl)))
      refine WL.elemN (i := 0) rfl rfl rfl rfl rfl (hgk.mono (w' := w4) (fun b hb => (e2.trans e4).block b hb) (F' := Old w) (fun _ h => h)) (by simp [Ltl.kids]) (fun _ => rfl) (fun u q hu => ?_)
      obtain ⟨uo, uc, rfl, hka⟩ := Rd.ltl (t := a) hu
      skip
      refine WL.st rfl rfl rfl hb8 rfl rfl (ones_of rfl) (fun w5 hb8 hg5 => ?_)
      have e5 : Ext w0 w5 := hE4.grown hg5 hE4.size (fun g hg => by cases hg; have := hE.size; omega)
      have z4 := (e2.trans e4).size
      have z5 := hg5.size
      have hka5 : Sl w5 (Old w5) uo uc a.kids := hka.mono (fun b hb => hg5.block b (by have hb' : b < w.heap.size := hb; omega) (fun e => by have := Option.some.inj e; have hb' : b < w.heap.size := hb; omega)) (fun b hb => by have hb' : b < w.heap.size := hb; exact (show b < w5.heap.size by omega))
      (repeat (first | (apply WL.pure; rfl; rfl; rfl) | (apply WL.nil) | (apply EX.thenN) | (apply CW.seq) | (apply CW.region) | (apply WL.ldA; rfl; rfl; rfl; assumption; rfl)))
      refine WL.call rfl rfl rfl (tholds_ok _ a (Nat.le_refl _) w5 (hM.ext e5) hF hka5 hs hl) ?_
      rintro _ w6 ⟨rfl, e6⟩
      cases hh : hoB m s a
      · rw [hh, if_neg (by decide)] at hnx
        (repeat (first | (apply WL.add; rfl; rfl; rfl; rfl; omega; omega) | (apply WL.pure; rfl; rfl; rfl) | (apply WL.nil) | (apply EX.thenN) | (apply CW.region) | (apply EX.inN) | (apply CW.condF; rfl) | (apply CW.skip)))
        refine EX.back (i + 1) ?_ ⟨hi', e5.trans e6⟩ (by omega)
        rw [hnx]; exact (by repeat (first | exact trivial | refine ⟨rfl, ?_⟩))
      · rw [hh, if_pos rfl] at hnx
        (repeat (first | (apply WL.add; rfl; rfl; rfl; rfl; omega; omega) | (apply WL.pure; rfl; rfl; rfl) | (apply WL.nil) | (apply EX.thenN) | (apply CW.region) | (apply EX.inN) | (apply CW.condT; rfl)))
        rw [shlS (show i < 62 by omega), hor]
        skip
        refine EX.back (i + 1) ?_ ⟨hi', e5.trans e6⟩ (by omega)
        rw [hnx]; exact (by repeat (first | exact trivial | refine ⟨rfl, ?_⟩))
    · rw [argE_k hk] at hF hnx
      have h7 : (k == 7) = false := by
        rw [beq_eq_false_iff_ne]; omega
      (repeat (first | (apply WL.pure; rfl; rfl; rfl) | (apply WL.nil) | (apply EX.thenN) | (apply CW.seq) | (apply CW.region) | (apply WL.fa; rfl; rfl; rfl) | (apply WL.ld; rfl; rfl; rfl; assumption; rfl)))
      refine CW.cond rfl (fun h => by rw [show ((Ltl.mk k 0 [a, b]).k == 7) = false from h7] at h; cases h) (fun _ => ?_)
      (repeat (first | (apply WL.pure; rfl; rfl; rfl) | (apply EX.thenN) | (apply CW.seq) | (apply CW.region) | (apply WL.ldA; rfl; rfl; rfl; assumption; rfl) | (apply CW.skip)))
      refine WL.call rfl rfl rfl (tholds_ok _ (.mk k 0 [a, b]) (Nat.le_refl _) w4 (hM.ext hE4) hF hgk4 hs hl) ?_
      rintro _ w6 ⟨rfl, e6⟩
      cases hh : hoB m s (.mk k 0 [a, b])
      · rw [hh, if_neg (by decide)] at hnx
        (repeat (first | (apply WL.add; rfl; rfl; rfl; rfl; omega; omega) | (apply WL.pure; rfl; rfl; rfl) | (apply WL.nil) | (apply EX.thenN) | (apply CW.region) | (apply EX.inN) | (apply CW.condF; rfl) | (apply CW.skip)))
        refine EX.back (i + 1) ?_ ⟨hi', hE4.trans e6⟩ (by omega)
        rw [hnx]; exact (by repeat (first | exact trivial | refine ⟨rfl, ?_⟩))
      · rw [hh, if_pos rfl] at hnx
        (repeat (first | (apply WL.add; rfl; rfl; rfl; rfl; omega; omega) | (apply WL.pure; rfl; rfl; rfl) | (apply WL.nil) | (apply EX.thenN) | (apply CW.region) | (apply EX.inN) | (apply CW.condT; rfl)))
        rw [shlS (show i < 62 by omega), hor]
        skip
        refine EX.back (i + 1) ?_ ⟨hi', hE4.trans e6⟩ (by omega)
        rw [hnx]; exact (by repeat (first | exact trivial | refine ⟨rfl, ?_⟩))
  · obtain rfl : i = m.2.length := by simp at h; omega
    (repeat (first | (apply WL.pure; rfl; rfl; rfl) | (apply WL.nil) | (apply EX.thenN) | (apply CW.seq) | (apply CW.region) | (apply CW.exit) | (apply EX.thenX) | (apply EX.inX) | (apply CW.ret)))
    exact EX.ret1 rfl rfl ⟨rfl, hE⟩
theorem testB {s i : Nat} (hs : s < 1048576) (is : Bool) : ((((bits .and .i64 ((s >>> i : Nat) : Int) 1 : Int) == 1)) == is) = (s.testBit i == is) := by
  rw [show bits .and .i64 ((s >>> i : Nat) : Int) 1 = ((s >>> i &&& 1 : Nat) : Int) from bits_andS _ 1 (by have := Nat.shiftRight_le s i; omega) (by omega), cho_bit]
set_option maxHeartbeats 1000000 in
theorem bits_ok (w0 : World) {sb : Nat} {m : Mk2} {s : Nat} (is : Bool) (hM : MkA w0 sb m) (hm : OkM m) (hs : s < 1048576) (hl : m.1.length ≤ 20) :
    Rt Tryz.prog 37 [.pointer (some ⟨sb, 0, none⟩), .int .i64 (s : Int), .bool is].toArray w0 fun v w' => v = .int .u64 ((bitsN m s is : Nat) : Int) ∧ Ext w0 w' := by
  obtain ⟨ao, ac, po, pc, hblk, h1, h2⟩ := hM.ok
  refine Rt.enter3 Tryz.func37 Tryz.ntmps37 rfl rfl ?_
  (repeat (first | (apply WL.pure; rfl; rfl; rfl) | (apply WL.nil) | (apply EX.thenN) | (apply CW.seq) | (apply CW.region) | (apply WL.lenS; rfl; rfl; rfl) | (apply WL.fa; rfl; rfl; rfl) | (apply WL.nck; rfl; rfl; rfl) | (apply WL.ld; rfl; rfl; rfl; assumption; rfl) | (apply CW.block)))
  refine CW.loop (S := Nat) (fun i => [(1, .int .i64 (s : Int)), (2, .bool is), (7, .int .u64 ((bitP m.1 s is i : Nat) : Int)), (13, .slice ao m.1.length ac), (14, .int .i64 m.1.length), (15, .int .i64 i)])
    (fun i w => i ≤ m.1.length ∧ Ext w0 w) (fun i => m.1.length - i) 0 (by repeat (first | exact trivial | refine ⟨rfl, ?_⟩)) ⟨Nat.zero_le _, Ext.refl _⟩ ?_
  rintro i w ⟨hi, hE⟩
  have hbp := bitP_lt (s := s) (is := is) (fun x hx => (hm.ra x hx).2) hi
  (repeat (first | (apply WL.pure; rfl; rfl; rfl) | (apply WL.nil) | (apply EX.thenN) | (apply CW.seq) | (apply CW.region)))
  refine CW.cond rfl (fun h => ?_) (fun h => ?_)
  · have hi' : i < m.1.length := by simp at h; omega
    have har := hm.ra _ (List.getElem_mem hi')
    have hai : m.1.getD i 0 = m.1[i] := by rw [List.getD_eq_getElem?_getD, List.getElem?_eq_getElem hi']; rfl
    have hnx : bitP m.1 s is (i + 1) = if s.testBit i = is then bitP m.1 s is i ||| (1 <<< (m.1.getD i 0).toNat) else bitP m.1 s is i := rfl
    rw [hai] at hnx
    generalize bitP m.1 s is i = acc at *
    obtain ⟨a, ha⟩ := Int.eq_ofNat_of_zero_le har.1
    have ha63 : a < 64 := by omega
    rw [ha, Int.toNat_natCast] at hnx
    have h2i : 2 ^ a < 2 ^ 64 := Nat.pow_lt_pow_right (by omega) ha63
    have hor := bits_orU acc (1 <<< a) (by omega) (by rw [Nat.one_shiftLeft]; omega)
    (repeat (first | (apply WL.pure; rfl; rfl; rfl) | (apply EX.thenN) | (apply CW.seq) | (apply CW.region) | (apply CW.block) | (apply CW.skip)))
    refine WL.elemI rfl rfl rfl rfl rfl (h1.up hE) hi' ha (fun _ => rfl) (fun q => ?_)
    (repeat (first | (apply WL.pure; rfl; rfl; rfl) | (apply WL.nil) | (apply EX.thenN) | (apply CW.seq) | (apply CW.region)))
    refine WL.shrS rfl rfl rfl rfl (by omega) ?_
    (repeat (first | (apply WL.pure; rfl; rfl; rfl) | (apply WL.nil) | (apply EX.thenN) | (apply WL.eqB; rfl; rfl; rfl; rfl)))
    rw [testB hs]
    by_cases hb : s.testBit i = is
    · rw [if_pos hb] at hnx
      rw [show (s.testBit i == is) = true by rw [hb]; simp]
      (repeat (first | (apply WL.add; rfl; rfl; rfl; rfl; omega; omega) | (apply WL.pure; rfl; rfl; rfl) | (apply WL.nil) | (apply EX.thenN) | (apply CW.region) | (apply EX.inN) | (apply CW.condT; rfl)))
      rw [shlU ha63, hor]
      skip
      refine EX.back (i + 1) ?_ ⟨hi', hE⟩ (by omega)
      rw [hnx]; exact (by repeat (first | exact trivial | refine ⟨rfl, ?_⟩))
    · rw [if_neg hb] at hnx
      rw [show (s.testBit i == is) = false by rw [beq_eq_false_iff_ne]; exact hb]
      (repeat (first | (apply WL.add; rfl; rfl; rfl; rfl; omega; omega) | (apply WL.pure; rfl; rfl; rfl) | (apply WL.nil) | (apply EX.thenN) | (apply CW.region) | (apply EX.inN) | (apply CW.condF; rfl) | (apply CW.skip)))
      refine EX.back (i + 1) ?_ ⟨hi', hE⟩ (by omega)
      rw [hnx]; exact (by repeat (first | exact trivial | refine ⟨rfl, ?_⟩))
  · obtain rfl : i = m.1.length := by simp at h; omega
    (repeat (first | (apply WL.pure; rfl; rfl; rfl) | (apply WL.nil) | (apply EX.thenN) | (apply CW.seq) | (apply CW.region) | (apply CW.exit) | (apply EX.thenX) | (apply EX.inX) | (apply CW.ret)))
    exact EX.ret1 rfl rfl ⟨rfl, hE⟩
set_option maxHeartbeats 1000000 in
theorem tfair_ok (w0 : World) {sb : Nat} {m : Mk2} {s : Nat} {k : Int} {a b : Ltl} {ko : Option Addr} {kc : Nat} (hM : MkA w0 sb m) (hF : OkF m (.mk k 0 [a, b])) (hk : k = 8 ∨ k = 9) (hka : Sl w0 (Old w0) ko kc [a, b]) (hs : s < 1048576) (hl : m.1.length ≤ 20 ∧ m.2.length ≤ 20) :
    Rt Tryz.prog 38 [.pointer (some ⟨sb, 0, none⟩), ltlV k 0 ko 2 kc, .int .i64 (s : Int)].toArray w0 fun v w' => v = .bool (fairB m (.mk k 0 [a, b]) s) ∧ Ext w0 w' := by
  have hb' : fairB m (.mk k 0 [a, b]) s = if k = 8 then !(hoB m s (.mk k 0 [a, b])) || hoB m s b else hoB m s (.mk k 0 [a, b]) || !(hoB m s b) := rfl
  rw [hb']
  rcases hk with rfl | rfl
  · rw [if_pos rfl]
    refine Rt.enter3 Tryz.func38 Tryz.ntmps38 rfl rfl ?_
    (repeat (first | (apply CW.seq) | (apply CW.region)))
    refine WL.boxB rfl rfl rfl fun w1 hb4 e1 => ?_
    (repeat (first | (apply WL.pure; rfl; rfl; rfl) | (apply WL.nil) | (apply EX.thenN) | (apply CW.seq) | (apply CW.region) | (apply WL.fa; rfl; rfl; rfl) | (apply WL.ld; rfl; rfl; rfl; assumption; rfl) | (apply WL.ldA; rfl; rfl; rfl; assumption; rfl) | (apply CW.condT; rfl)))
    refine WL.call rfl rfl rfl (tholds_ok _ (.mk 8 0 [a, b]) (Nat.le_refl _) w1 (hM.ext e1) hF (hka.up e1) hs hl) ?_
    rintro _ w2 ⟨rfl, e2⟩
    have hb4 := hb4.ext e2
    cases hoB m s (.mk 8 0 [a, b])
    · (repeat (first | (apply WL.pure; rfl; rfl; rfl) | (apply WL.nil) | (apply EX.thenN) | (apply WL.pass; rfl; rfl) | (apply CW.ret) | (apply EX.thenR)))
      exact EX.ret1 rfl rfl ⟨rfl, e1.trans e2⟩
    · (repeat (first | (apply WL.pure; rfl; rfl; rfl) | (apply WL.fa; rfl; rfl; rfl) | (apply WL.ld; rfl; rfl; rfl; assumption; rfl)))
      refine WL.elemN (i := 1) rfl rfl rfl rfl rfl (hka.up (e1.trans e2)) (by simp) (fun _ => rfl) (fun u q hu => ?_)
      obtain ⟨vo, vc, rfl, hkb⟩ := Rd.ltl (t := b) hu
      (repeat (apply WL.pure; rfl; rfl; rfl))
      refine WL.call rfl rfl rfl (tholds_ok _ b (Nat.le_refl _) w2 (hM.ext (e1.trans e2)) hF.b2 hkb hs hl) ?_
      rintro _ w3 ⟨rfl, e3⟩
      (repeat (first | (apply WL.pure; rfl; rfl; rfl) | (apply WL.nil) | (apply EX.thenN) | (apply CW.ret) | (apply EX.thenR)))
      exact EX.ret1 rfl rfl ⟨rfl, (e1.trans e2).trans e3⟩
  · rw [if_neg (by decide)]
    refine Rt.enter3 Tryz.func38 Tryz.ntmps38 rfl rfl ?_
    (repeat (first | (apply CW.seq) | (apply CW.region)))
    refine WL.boxB rfl rfl rfl fun w1 hb4 e1 => ?_
    (repeat (first | (apply WL.pure; rfl; rfl; rfl) | (apply WL.nil) | (apply EX.thenN) | (apply CW.seq) | (apply CW.region) | (apply WL.fa; rfl; rfl; rfl) | (apply WL.ld; rfl; rfl; rfl; assumption; rfl) | (apply WL.ldA; rfl; rfl; rfl; assumption; rfl) | (apply CW.condF; rfl) | (apply CW.skip)))
    refine WL.call rfl rfl rfl (tholds_ok _ (.mk 9 0 [a, b]) (Nat.le_refl _) w1 (hM.ext e1) hF (hka.up e1) hs hl) ?_
    rintro _ w2 ⟨rfl, e2⟩
    have hb4 := hb4.ext e2
    cases hoB m s (.mk 9 0 [a, b])
    · (repeat (first | (apply WL.pure; rfl; rfl; rfl) | (apply WL.fa; rfl; rfl; rfl) | (apply WL.ld; rfl; rfl; rfl; assumption; rfl)))
      refine WL.elemN (i := 1) rfl rfl rfl rfl rfl (hka.up (e1.trans e2)) (by simp) (fun _ => rfl) (fun u q hu => ?_)
      obtain ⟨vo, vc, rfl, hkb⟩ := Rd.ltl (t := b) hu
      (repeat (apply WL.pure; rfl; rfl; rfl))
      refine WL.call rfl rfl rfl (tholds_ok _ b (Nat.le_refl _) w2 (hM.ext (e1.trans e2)) hF.b2 hkb hs hl) ?_
      rintro _ w3 ⟨rfl, e3⟩
      (repeat (first | (apply WL.pure; rfl; rfl; rfl) | (apply WL.nil) | (apply EX.thenN) | (apply CW.ret)))
      exact EX.ret1 rfl rfl ⟨rfl, (e1.trans e2).trans e3⟩
    · (repeat (first | (apply WL.pure; rfl; rfl; rfl) | (apply WL.nil) | (apply EX.thenN) | (apply WL.pass; rfl; rfl) | (apply CW.ret)))
      exact EX.ret1 rfl rfl ⟨rfl, e1.trans e2⟩
end Go.Proofs.YtllpfgcngokhnaaGreat

/-
  Drawn regions with a turning point, at whose end two operations come in either order. Over any program.
-/
set_option linter.unusedVariables false
set_option linter.unusedSimpArgs false
namespace Go.Proofs.YtllpfgcngokhnaaGreat
open Go.RowKit

def ordPB (L : List Oper) (c : Nat) (B : Array Bool → Bool) : List (Nat × Nat) → Array Bool → Bool
  | [], listed => B listed
  | (i, k) :: r, listed => match k with
    | 0 => decide (Region.ready .any L.toArray listed = [i]) && ordPB L c B r (listed.setIfInBounds i true)
    | 1 => (Region.ready .any L.toArray listed).contains i && Region.free .any L.toArray listed i && decide (i ≠ c) && decide (i ≠ L.length) && ordPB L c B r (listed.setIfInBounds i true)
    | 2 => (Region.ready .any L.toArray listed).contains i && Region.free .any L.toArray listed i && decide (i ≠ c) && decide (i ≠ L.length) && behind L c i && ordPB L c B r (listed.setIfInBounds i true)
    | _ => false
theorem wpHP_soundB {P : Program} {L : List Oper} {c n0 : Nat} {Sw Ss : World → Prop} {Q Q' : Act → World → Prop} {Bc : Array Bool → Bool} (hs : Region.noSelect L.toArray = true)
    (hbase : ∀ (ph : Bool) (listed : Array Bool) (a : Act) (w : World), Bc listed = true → Cls L listed → listed.getD c false = ph → SG c L.length Sw Ss listed w → Q' a w → wpAnyG P L.toArray (fun e a w => e = .normal ∧ Q a w) (SG c L.length Sw Ss) n0 listed a w) :
    ∀ (ord : List (Nat × Nat)) (ph : Bool) (listed : Array Bool) (a : Act) (w : World), ordPB L c Bc ord listed = true → Cls L listed → (listed.getD c false = ph) → SG c L.length Sw Ss listed w → wpHP P L c L.length Sw Ss Q' ph ord a w →
      wpAnyG P L.toArray (fun e a w => e = .normal ∧ Q a w) (SG c L.length Sw Ss) (ord.length + n0) listed a w
  | [], ph, listed, a, w, hB, hC, hph, hS, h => by
    rw [List.length_nil, Nat.zero_add]
    exact hbase ph listed a w hB hC hph hS h
  | (i, 0) :: r, ph, listed, a, w, hB, hC, hph, hS, ⟨o, ho, h⟩ => by
    simp only [ordPB, Bool.and_eq_true, decide_eq_true_eq] at hB
    obtain ⟨hB1, hB2⟩ := hB
    have hin : i ∈ Region.ready .any L.toArray listed := by rw [hB1]; simp
    have hC' := hC.put hin
    have hil : i < L.length := (List.getElem?_eq_some_iff.1 ho).1
    have hph' : (listed.setIfInBounds i true).getD c false = (ph || Nat.beq i c) := by
      cases e : Nat.beq i c with
      | true =>
        obtain rfl := Nat.eq_of_beq_eq_true e
        have := hC.size
        simp [Array.getD_eq_getD_getElem?, show i < listed.size by omega]
      | false =>
        have hne : i ≠ c := fun h => by subst h; rw [Nat.beq_refl] at e; cases e
        rw [getD_setne hne, hph, Bool.or_false]
    rw [List.length_cons, Nat.add_right_comm]
    refine ⟨fun h0 => (by rw [h0] at hin; cases hin), fun j hj => ?_⟩
    rw [hB1, List.mem_singleton] at hj
    subst hj
    have ho' : L.toArray[j]? = some o := by simpa using ho
    unfold wpOp
    simp only [ho']
    split
    · rename_i hw
      rw [if_pos hw] at h
      refine .inl (wp_exits (fun x a w hne hf => absurd hf.1 hne) (Oper.wp_mono (fun a' w' h' => ⟨fun _ => ⟨h'.1, fun hx => h'.2.1 (hph' ▸ hx)⟩, wpHP_soundB hs hbase r _ _ _ _ hB2 hC' hph' (fun _ => ⟨h'.1, fun hx => h'.2.1 (hph' ▸ hx)⟩) h'.2.2⟩) h))
    · rename_i hw
      rw [if_neg hw] at h
      exact ⟨fun _ => ⟨h.1, fun hx => h.2.1 (hph' ▸ hx)⟩, wpHP_soundB hs hbase r _ _ _ _ hB2 hC' hph' (fun _ => ⟨h.1, fun hx => h.2.1 (hph' ▸ hx)⟩) h.2.2⟩
  | (i, 1) :: r, ph, listed, a, w, hB, hC, hph, hS, ⟨o, v, ho, hy, h⟩ => by
    simp only [ordPB, Bool.and_eq_true, decide_eq_true_eq] at hB
    obtain ⟨⟨⟨⟨h1, h2⟩, hne⟩, hne2⟩, h3⟩ := hB
    have hin : i ∈ Region.ready .any L.toArray listed := by simpa using h1
    have ho' : L.toArray[i]? = some o := by simpa using ho
    have hph' : (listed.setIfInBounds i true).getD c false = ph := by rw [getD_setne hne]; exact hph
    have hil : i < L.length := (List.getElem?_eq_some_iff.1 ho).1
    have hun : listed.getD i false = false := by
      have := (mem_ready.1 hin).1
      have hsz := hC.size
      rw [getD_tf (by omega)] at this
      simpa using this
    have hend : ∀ l : Array Bool, Cls L l → l.getD L.length false = false := fun l hl => by
      have := hl.size
      simp [Array.getD_eq_getD_getElem?, Array.getElem?_eq_none (show l.size ≤ L.length by omega)]
    rw [List.length_cons, Nat.add_right_comm]
    exact wpAnyG_first ho' (Region.noSelect_spec hs) (fun _ _ _ h => by cases h.1) (fun l => Cls L l ∧ l.getD i false = false) (fun l j hl hne3 hj => ⟨hl.1.put hj, by rw [getD_setne hne3]; exact hl.2⟩) (fun l w => SG_set hne hne2 l w) (r.length + n0) listed a w ⟨hC, hun⟩ (Region.free_spec ho' h2) hin
      (yif_wk hy fun w ⟨l, hl, hw⟩ => (hw (hend l hl.1)).1) hS (wpHP_soundB hs hbase r ph _ _ _ h3 (hC.put hin) hph' ((SG_set hne hne2 _ _).2 hS) h)
  | (i, 2) :: r, ph, listed, a, w, hB, hC, hph, hS, ⟨o, v, ho, hy, h⟩ => by
    simp only [ordPB, Bool.and_eq_true, decide_eq_true_eq] at hB
    obtain ⟨⟨⟨⟨⟨h1, h2⟩, hne⟩, hne2⟩, hmk⟩, h3⟩ := hB
    have hin : i ∈ Region.ready .any L.toArray listed := by simpa using h1
    have ho' : L.toArray[i]? = some o := by simpa using ho
    have hph' : (listed.setIfInBounds i true).getD c false = ph := by rw [getD_setne hne]; exact hph
    have hil : i < L.length := (List.getElem?_eq_some_iff.1 ho).1
    have hun : listed.getD i false = false := by
      have := (mem_ready.1 hin).1
      have hsz := hC.size
      rw [getD_tf (by omega)] at this
      simpa using this
    have hend : ∀ l : Array Bool, Cls L l → l.getD L.length false = false := fun l hl => by
      have := hl.size
      simp [Array.getD_eq_getD_getElem?, Array.getElem?_eq_none (show l.size ≤ L.length by omega)]
    rw [List.length_cons, Nat.add_right_comm]
    exact wpAnyG_first ho' (Region.noSelect_spec hs) (fun _ _ _ h => by cases h.1) (fun l => Cls L l ∧ l.getD i false = false) (fun l j hl hne3 hj => ⟨hl.1.put hj, by rw [getD_setne hne3]; exact hl.2⟩) (fun l w => SG_set hne hne2 l w) (r.length + n0) listed a w ⟨hC, hun⟩ (Region.free_spec ho' h2) hin
      (yif_wk hy fun w ⟨l, hl, hw⟩ => (hw (hend l hl.1)).2 (behind_sound hmk hl.1 hl.2)) hS (wpHP_soundB hs hbase r ph _ _ _ h3 (hC.put hin) hph' ((SG_set hne hne2 _ _).2 hS) h)
  | (i, k + 3) :: r, ph, listed, a, w, hB, hC, hph, hS, _ => by simp [ordPB] at hB

/- THE TWO AT THE END: i, and c -/
def op1 (P : Program) (ops : List Oper) (o : Oper) (a : Act) (w : World) (K : Act → World → Prop) : Prop :=
  if Region.wanted o (yielded ops.toArray a.tmps) = true then o.wp P a w K (fun e _ _ => e = .normal) else K (a.put o.dst undef) w
def pairB (L : List Oper) (i c : Nat) (listed : Array Bool) : Bool :=
  (decide (Region.ready .any L.toArray listed = [i, c]) || decide (Region.ready .any L.toArray listed = [c, i])) && decide (Region.ready .any L.toArray (listed.setIfInBounds i true) = [c]) && decide (Region.ready .any L.toArray (listed.setIfInBounds c true) = [i]) &&
    (Region.ready .any L.toArray ((listed.setIfInBounds i true).setIfInBounds c true)).isEmpty && (Region.ready .any L.toArray ((listed.setIfInBounds c true).setIfInBounds i true)).isEmpty && decide (i ≠ c)
def pairQ (P : Program) (L : List Oper) (i c : Nat) (Sw Ss : World → Prop) (Q : Act → World → Prop) (a : Act) (w : World) : Prop :=
  ∃ oi oc, L[i]? = some oi ∧ L[c]? = some oc ∧ op1 P L oi a w (fun a' w' => Sw w' ∧ Ss w' ∧ op1 P L oc a' w' (fun a'' w'' => Sw w'' ∧ Q a'' w'')) ∧ op1 P L oc a w (fun a' w' => Sw w' ∧ True ∧ op1 P L oi a' w' (fun a'' w'' => Sw w'' ∧ Q a'' w''))
theorem op1_wpOp {P : Program} {L : List Oper} {i : Nat} {o : Oper} {Q : Act → World → Prop} {K K' : Act → World → Prop} {a : Act} {w : World} (ho : L[i]? = some o) (h : op1 P L o a w K) (hk : ∀ a w, K a w → K' a w) : wpOp P L.toArray (fun e a w => e = .normal ∧ Q a w) i K' a w := by
  have ho' : L.toArray[i]? = some o := by simpa using ho
  unfold op1 at h
  unfold wpOp
  simp only [ho']
  split
  · rename_i hw
    rw [if_pos hw] at h
    exact .inl (wp_exits (fun x a w hne hf => absurd hf hne) (Oper.wp_mono hk h))
  · rename_i hw
    rw [if_neg hw] at h
    exact hk _ _ h
theorem pair_base {P : Program} {L : List Oper} {i c : Nat} {Sw Ss : World → Prop} {Q : Act → World → Prop} (listed : Array Bool) (a : Act) (w : World) (hB : pairB L i c listed = true) (hC : Cls L listed) (h : pairQ P L i c Sw Ss Q a w) :
    wpAnyG P L.toArray (fun e a w => e = .normal ∧ Q a w) (SG c L.length Sw Ss) 2 listed a w := by
  unfold pairB at hB
  simp only [Bool.and_eq_true, Bool.or_eq_true, decide_eq_true_eq, List.isEmpty_iff] at hB
  obtain ⟨⟨⟨⟨⟨h1, h2⟩, h3⟩, h4⟩, h5⟩, hne⟩ := hB
  obtain ⟨oi, oc, hoi, hoc, k1, k2⟩ := h
  have hic : i ∈ Region.ready .any L.toArray listed := by rcases h1 with h1 | h1 <;> rw [h1] <;> simp
  have hcc : c ∈ Region.ready .any L.toArray listed := by rcases h1 with h1 | h1 <;> rw [h1] <;> simp
  have hsz := hC.size
  have hcl : c < L.length := (List.getElem?_eq_some_iff.1 hoc).1
  have hset : (listed.setIfInBounds c true).getD c false = true := by simp [Array.getD_eq_getD_getElem?, show c < listed.size by omega]
  have last : ∀ (l : Array Bool) (j : Nat) (o : Oper) (a' : Act) (w' : World), L[j]? = some o → Region.ready .any L.toArray l = [j] → Region.ready .any L.toArray (l.setIfInBounds j true) = [] → (l.setIfInBounds j true).getD c false = true → op1 P L o a' w' (fun a'' w'' => Sw w'' ∧ Q a'' w'') →
      wpAnyG P L.toArray (fun e a w => e = .normal ∧ Q a w) (SG c L.length Sw Ss) 1 l a' w' := fun l j o a' w' ho hr hr2 hg ho1 => by
    refine ⟨fun h0 => (by rw [hr] at h0; cases h0), fun j' hj => ?_⟩
    rw [hr, List.mem_singleton] at hj
    subst hj
    exact op1_wpOp ho ho1 fun a'' w'' hq => ⟨fun _ => ⟨hq.1, fun hx => by rw [hg] at hx; cases hx⟩, hr2, rfl, hq.2⟩
  refine ⟨fun h0 => (by rw [h0] at hic; cases hic), fun j hj => ?_⟩
  have hj2 : j = i ∨ j = c := by rcases h1 with h1 | h1 <;> rw [h1] at hj <;> simp at hj <;> omega
  rcases hj2 with rfl | rfl
  · refine op1_wpOp hoi k1 fun a' w' hq => ⟨fun _ => ⟨hq.1, fun _ => hq.2.1⟩, last _ c oc a' w' hoc h2 h4 ?_ hq.2.2⟩
    simp [Array.getD_eq_getD_getElem?, show c < listed.size by omega]
  · refine op1_wpOp hoc k2 fun a' w' hq => ⟨fun _ => ⟨hq.1, fun hx => by rw [hset] at hx; cases hx⟩, last _ i oi a' w' hoi h3 h5 ?_ hq.2.2⟩
    rw [getD_setne hne]; exact hset
section
variable {P : Program} {Q : Exit → Act → World → Prop} {n : Nat} {σ : Sg} {w : World} {L : List Oper} {i c : Nat} {Sw Ss : World → Prop}
def PairQ (P : Program) (L : List Oper) (i c : Nat) (Sw Ss : World → Prop) (Q : Exit → Act → World → Prop) : Exit → Act → World → Prop := fun x a w => x = .normal ∧ pairQ P L i c Sw Ss (fun a w => Q .normal a w) a w
theorem CW.drawQ {id : Nat} (i c : Nat) (Sw Ss : World → Prop) (ord : List (Nat × Nat)) (hm : P.follows .mixedOrders = true) (hB : (Region.noSelect L.toArray && decide (ord.length + 2 = L.length) && ordPB L c (pairB L i c) ord (Array.replicate L.length false)) = true) (hw : Sw (drew w)) (hS : Ss (drew w))
    (h : HP P L c L.length Sw Ss (PairQ P L i c Sw Ss Q) false ord n σ (drew w)) : CW P (.region id L.toArray true) Q n σ w := by
  unfold CW; unfold HP at h; intro a ha
  simp only [Bool.and_eq_true, decide_eq_true_eq] at hB
  obtain ⟨⟨hs, hl⟩, hB⟩ := hB
  have h0 : ∀ k, (Array.replicate L.length false).getD k false = false := fun k => by
    simp [Array.getD_eq_getD_getElem?, Array.getElem?_replicate]; split <;> rfl
  have h1 := wpHP_soundB (n0 := 2) (Bc := pairB L i c) (Q := fun a w => Q .normal a w) hs (fun ph listed a w hb hc _ _ hq => pair_base listed a w hb hc hq.2) ord false (Array.replicate L.length false) a (Go.Proofs.YtllpfgcngokhnaaGreat.drew w) hB ⟨by simp, fun k o hk => by rw [h0 k] at hk; cases hk⟩ (h0 c) (fun _ => ⟨hw, fun _ => hS⟩) (h a ha)
  rw [hl] at h1
  have h2 : (Code.region id L.toArray true).wp P (fun x a w => x = .normal ∧ Q .normal a w) a w := wp_region_any hm (by simpa using wpAny_of_G _ _ _ _ h1)
  exact wp_mono h2 (fun x a' w' ⟨he, hq⟩ => by subst he; exact hq)
theorem op1_of {o : Oper} {K : Act → World → Prop} {a : Act} (h : wpList P L.toArray (fun x a w => x = .normal ∧ K a w) [o] a w) : op1 P L o a w K := by
  simp only [wpList] at h
  unfold op1
  split
  · rename_i hw
    rw [if_pos hw] at h
    rcases h with h2 | ⟨_, hl⟩
    · refine Oper.wp_mono (fun a' w' h' => h'.2) (wp_exits (fun x a w hne hf => absurd hf.1 hne) h2)
    · obtain ⟨_, _, hx⟩ := hl
      exact absurd hx.1 (by simp)
  · rename_i hw
    rw [if_neg hw] at h
    exact h.2
/-- the first of two, and then the second -/
def ThenQ (P : Program) (L : List Oper) (Sw S1 : World → Prop) (o : Oper) (Q : Exit → Act → World → Prop) : Exit → Act → World → Prop := fun x a w => x = .normal ∧ Sw w ∧ S1 w ∧ op1 P L o a w (fun a w => Sw w ∧ Q .normal a w)
def EndQ (Sw : World → Prop) (Q : Exit → Act → World → Prop) : Exit → Act → World → Prop := fun x a w => x = .normal ∧ Sw w ∧ Q .normal a w
theorem EX.pair {oi oc : Oper} (hi : nthO L i = some oi) (hc : nthO L c = some oc) (h1 : WL P L (ThenQ P L Sw Ss oc Q) [oi] n σ w) (h2 : WL P L (ThenQ P L Sw (fun _ => True) oi Q) [oc] n σ w) : EX (PairQ P L i c Sw Ss Q) .normal n σ w := by
  unfold EX; unfold WL at h1 h2
  intro a ha
  rw [nthO_eq] at hi hc
  exact ⟨rfl, oi, oc, hi, hc, op1_of (h1 a ha), op1_of (h2 a ha)⟩
theorem EX.then2 {S1 : World → Prop} {o : Oper} (hw : Sw w) (hs : S1 w) (h : WL P L (EndQ Sw Q) [o] n σ w) : EX (ThenQ P L Sw S1 o Q) .normal n σ w := by
  unfold EX; unfold WL at h
  exact fun a ha => ⟨rfl, hw, hs, op1_of (h a ha)⟩
theorem EX.end2 (hw : Sw w) (h : EX Q .normal n σ w) : EX (EndQ Sw Q) .normal n σ w := by
  unfold EX at *
  exact fun a ha => ⟨rfl, hw, h a ha⟩
/-- append(x, y), ahead of the turning point -/
theorem HP.app1f {α : Type} [Rep α] {x0 : α} {bytes : Nat} {F : Nat → Prop} {e i i1 d d1 : Nat} {ty ty1 : TypeId} {pos pos1 : String} {af af1 : Array Edge} {g g1 : Option (Nat × Bool)} {t et : TypeId} {x y : Operand} {rest : List (Nat × Nat)} {v u : Value} {xs : List α} {yv : α} {B : Nat} {wc : World}
    (ho1 : nthO L i1 = some ⟨some d1, .buildSlice t 1 [(0, y)].toArray, ty1, pos1, af1, g1⟩) (ho : nthO L i = some ⟨some d, .call ⟨.builtin .append, #[x, .tmp d1], #[t, t]⟩, ty, pos, af, g⟩)
    (hn1 : Nat.beq i1 c = false) (hn2 : Nat.beq i c = false)
    (hg1 : gd L σ ⟨some d1, .buildSlice t 1 [(0, y)].toArray, ty1, pos1, af1, g1⟩ = some true) (hd1 : Nat.ble (d1 + 1) n = true)
    (hg : ∀ u, gd L ((d1, .slice u 1 1) :: σ) ⟨some d, .call ⟨.builtin .append, #[x, .tmp d1], #[t, t]⟩, ty, pos, af, g⟩ = some true) (hd : Nat.ble (d + 1) n = true)
    (hy : ev σ y = some u) (hx : ∀ u, ev ((d1, .slice u 1 1) :: σ) x = some v) [hs : IsS P t et] [ht : IsT P et α] [hz : IsZ P et x0 bytes] (hown : Own wc B et F v xs) (hu : Rd wc F u yv) (hB : B ≤ wc.heap.size) (hF : ∀ b, F b → b < wc.heap.size)
    (hsz : sz α ≤ 16777216) (hm : xs.length + 1 ≤ maxLen) (hb : (xs.length + 1) * bytes ≤ 140737488355328) (hS : ∀ w', wc.grownBy w' v.ownBlock → Sw w' ∧ Ss w')
    (h : ∀ v' w' p, Own w' B et F v' (xs ++ [yv]) → wc.grownBy w' v.ownBlock → (∀ g, v'.ownBlock = some g → v.ownBlock = some g ∨ wc.heap.size ≤ g) → HP P L c e Sw Ss Q false rest n ((d, v') :: (d1, .slice p 1 1) :: σ) w') :
    HP P L c e Sw Ss Q false ((i1, 0) :: (i, 0) :: rest) n σ wc := by
  refine HP.mut ho1 ?_
  rw [hn1]
  refine WL.lit (vs := [u]) (ys := [yv]) hg1 hd1 rfl (by simp [sndL, evs, hy]) rfl ⟨hu, trivial⟩ (by simpa using hsz) hF (fun w1 ho1 hgr1 => ?_)
  have hsize : wc.heap.size ≤ w1.heap.size := hgr1.size
  have hkeep : Own w1 B et F v xs := hown.kept hgr1 (fun _ _ h => by cases h) fun b hb => ⟨hF b hb, fun h => by cases h⟩
  have g2 : wc.grownBy w1 v.ownBlock := ⟨hgr1.os, hgr1.tape, hgr1.output, hgr1.size, fun k hk _ => hgr1.block k hk (fun h => by cases h)⟩
  refine WL.nil (EX.mutP (ph := false || false) (hS _ g2).1 (fun _ => (hS _ g2).2) ?_)
  refine HP.mut ho ?_
  rw [hn2]
  refine WL.app (ys := [yv]) (hg _) hd (hx _) fnd_cons_eq hkeep ho1.src (Nat.le_trans hB hsize) (fun b hb => Nat.lt_of_lt_of_le (hF b hb) hsize) (by simpa using hm) (by simpa using hb) (fun v' w' ho' hgr hnb => ?_)
  have g3 : wc.grownBy w' v.ownBlock := ⟨hgr.os.trans hgr1.os, hgr.tape.trans hgr1.tape, hgr.output.trans hgr1.output, Nat.le_trans hsize hgr.size, fun k hk hne => (hgr.block k (Nat.lt_of_lt_of_le hk hsize) hne).trans (hgr1.block k hk (fun h => by cases h))⟩
  exact WL.nil (EX.mutP (ph := false || false || false) (hS _ g3).1 (fun _ => (hS _ g3).2) (h v' w' _ ho' g3 (fun g hg => (hnb g hg).imp id (fun h => Nat.le_trans hsize h))))
end
end Go.Proofs.YtllpfgcngokhnaaGreat

