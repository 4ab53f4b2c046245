/-
  Numbers: shifts, bits, division, conversions. Over any program.
-/
import Derived.Test.YthojdcbpglipeaaStr
import Derived.Laws.Bits64b
import Derived.Laws.Shifts
set_option linter.unusedVariables false
set_option linter.unusedSimpArgs false
namespace Go.Proofs.Ythojdcbpglipeaa
open Go.RowKit

/-- a region, and what holds behind it: many ways that meet again -/
theorem CW.cut {P : Program} {Q : Exit → Act → World → Prop} {n : Nat} {σ : Sg} {w : World} {x y : Code} (τ : Sg) (h : CW P x (fun e a w' => e = .normal ∧ Fr n τ a ∧ w' = w) n σ w) (hr : CW P y Q n τ w) : CW P (.seq x y) Q n σ w := by
  refine CW.seq ?_
  unfold CW at *
  intro a ha
  refine wp_mono (h a ha) ?_
  rintro e a' w' ⟨rfl, hF, rfl⟩
  exact hr a' hF
theorem EX.cut {n : Nat} {σ τ : Sg} {w : World} (hs : Sub τ σ) : EX (fun e a w' => e = .normal ∧ Fr n τ a ∧ w' = w) .normal n σ w := by
  unfold EX; exact fun a ha => ⟨rfl, ha.sub hs, rfl⟩
/-- the same, with new memory -/
theorem CW.cutE {P : Program} {Q : Exit → Act → World → Prop} {n : Nat} {σ : Sg} {w : World} {x y : Code} (τ : Sg) (h : CW P x (fun e a w' => e = .normal ∧ Fr n τ a ∧ Ext w w') n σ w) (hr : ∀ w', Ext w w' → CW P y Q n τ w') : CW P (.seq x y) Q n σ w := by
  refine CW.seq ?_
  unfold CW at *
  intro a ha
  refine wp_mono (h a ha) ?_
  rintro e a' w' ⟨rfl, hF, hE⟩
  exact hr w' hE a' hF
theorem EX.cutE {n : Nat} {σ τ : Sg} {w w' : World} (hs : Sub τ σ) (hE : Ext w w') : EX (fun e a w' => e = .normal ∧ Fr n τ a ∧ Ext w w') .normal n σ w' := by
  unfold EX; exact fun a ha => ⟨rfl, ha.sub hs, hE⟩

/-- the same, with a state -/
theorem CW.cutI {P : Program} {Q : Exit → Act → World → Prop} {n : Nat} {σ : Sg} {w : World} {x y : Code} {S : Type} (σs : S → Sg) (I : S → World → Prop) (h : CW P x (fun e a w' => e = .normal ∧ ∃ s, Fr n (σs s) a ∧ I s w') n σ w) (hr : ∀ s w', I s w' → CW P y Q n (σs s) w') : CW P (.seq x y) Q n σ w := by
  refine CW.seq ?_
  unfold CW at *
  intro a ha
  refine wp_mono (h a ha) ?_
  rintro e a' w' ⟨rfl, s, hF, hI⟩
  exact hr s w' hI a' hF
theorem EX.cutI {n : Nat} {σ : Sg} {w : World} {S : Type} {σs : S → Sg} {I : S → World → Prop} (s : S) (hs : Sub (σs s) σ) (hI : I s w) : EX (fun e a w' => e = .normal ∧ ∃ s, Fr n (σs s) a ∧ I s w') .normal n σ w := by
  unfold EX; exact fun a ha => ⟨rfl, s, ha.sub hs, hI⟩

def onesL : List Value → Bool
  | [] => true
  | v :: r => match v.oneCell' with
    | true => onesL r
    | false => false
theorem ones_of : ∀ {l : List Value}, onesL l = true → ∀ u ∈ l, u.oneCell' = true
  | [], _, u, hu => by cases hu
  | v :: r, h, u, hu => by
    simp only [onesL] at h
    split at h
    · rename_i hv
      rcases List.mem_cons.1 hu with rfl | hu
      · exact hv
      · exact ones_of h u hu
    · cases h
theorem eqG {op : BinOp} (h : (op == .eql || op == .neq) = false) (t : TypeId) (x y : Operand) (u v : Value) : eqGuard op t x y u v = Pure.pure () := by
  cases op <;> first | rfl | (simp at h)
theorem shr_nat (a s : Nat) (ha : a < 18446744073709551616) : (a : Int) / 2 ^ min s 64 = ((a >>> s : Nat) : Int) := by
  rw [Nat.shiftRight_eq_div_pow]
  by_cases h : s ≤ 64
  · rw [Nat.min_eq_left h]; simp
  · rw [Nat.min_eq_right (by omega)]
    have h1 : a / 2 ^ s = 0 := Nat.div_eq_of_lt (Nat.lt_of_lt_of_le ha (by
      have := Nat.pow_le_pow_right (n := 2) (by omega) (show 64 ≤ s by omega)
      simpa using this))
    rw [h1]
    omega
theorem run_shrN (P : Program) (w : World) (a s : Nat) (ha : a < 18446744073709551616) (t : TypeId) : (binOp .shr t (.int .u64 (a : Int)) (.int .i64 (s : Int))).run P w = .ok (.int .u64 ((a >>> s : Nat) : Int)) w := by
  have h : binOp .shr t (.int .u64 (a : Int)) (.int .i64 (s : Int)) = Op.shift .shr .u64 (a : Int) .i64 (s : Int) := rfl
  rw [h, shift_shr_any _ _ _ _ (by omega)]
  have := shr_nat a s ha
  simp only [Int.toNat_natCast, IntKind.bits]
  rw [this]
  rfl
theorem run_shrI (P : Program) (w : World) (a : Nat) (s : Int) (ha : a < 18446744073709551616) (hs : 0 ≤ s) (t : TypeId) : (binOp .shr t (.int .u64 (a : Int)) (.int .i64 s)).run P w = .ok (.int .u64 ((a >>> s.toNat : Nat) : Int)) w := by
  have h1 := run_shrN P w a s.toNat ha t
  rwa [Int.toNat_of_nonneg hs] at h1
theorem run_shrN63 (P : Program) (w : World) (a s : Nat) (ha : a < 18446744073709551616) (t : TypeId) : (binOp .shr t (.int .u64 (a : Int)) (.int .u64 (s : Int))).run P w = .ok (.int .u64 ((a >>> s : Nat) : Int)) w := by
  have h : binOp .shr t (.int .u64 (a : Int)) (.int .u64 (s : Int)) = Op.shift .shr .u64 (a : Int) .u64 (s : Int) := rfl
  rw [h, shift_shr_any _ _ _ _ (by omega)]
  have := shr_nat a s ha
  simp only [Int.toNat_natCast, IntKind.bits]
  rw [this]
  rfl
theorem run_andN (P : Program) (w : World) (a b : Nat) (ha : a < 18446744073709551616) (hb : b < 18446744073709551616) (t : TypeId) : (binOp .and t (.int .u64 (a : Int)) (.int .u64 (b : Int))).run P w = .ok (.int .u64 ((a &&& b : Nat) : Int)) w := by
  have h : binOp .and t (.int .u64 (a : Int)) (.int .u64 (b : Int)) = Op.intBits .and .u64 (a : Int) (b : Int) := rfl
  rw [h, intBits_and, bits_and_u64_nat a b ha hb]; rfl
theorem run_orN (P : Program) (w : World) (a b : Nat) (ha : a < 18446744073709551616) (hb : b < 18446744073709551616) (t : TypeId) : (binOp .or t (.int .u64 (a : Int)) (.int .u64 (b : Int))).run P w = .ok (.int .u64 ((a ||| b : Nat) : Int)) w := by
  have h : binOp .or t (.int .u64 (a : Int)) (.int .u64 (b : Int)) = Op.intBits .or .u64 (a : Int) (b : Int) := rfl
  rw [h, intBits_or, bits_or_u64_nat a b ha hb]; rfl
theorem run_rem (P : Program) (w : World) (a b : Int) (ha : 0 ≤ a) (hb : 0 < b) (t : TypeId) (k : IntKind) : (binOp .rem t (.int k a) (.int k b)).run P w = .ok (.int k (a % b)) w := by
  have h : binOp .rem t (.int k a) (.int k b) = Op.intDiv .rem k a b := by simp [binOp]
  have h0 : ¬ b = 0 := by omega
  rw [h]
  simp [Op.intDiv, h0, Int.tmod_eq_emod_of_nonneg ha]
theorem run_remT (P : Program) (w : World) (a b : Int) (hb : b ≠ 0) (t : TypeId) (k : IntKind) : (binOp .rem t (.int k a) (.int k b)).run P w = .ok (.int k (a.tmod b)) w := by
  have h : binOp .rem t (.int k a) (.int k b) = Op.intDiv .rem k a b := by simp [binOp]
  rw [h]
  simp [Op.intDiv, hb]
theorem run_quo (P : Program) (w : World) (a b : Int) (ha : 0 ≤ a) (hb : 0 < b) (hm : a < 9223372036854775808) (t : TypeId) : (binOp .quo t (.int .i64 a) (.int .i64 b)).run P w = .ok (.int .i64 (a / b)) w := by
  have h : binOp .quo t (.int .i64 a) (.int .i64 b) = Op.intDiv .quo .i64 a b := by simp [binOp]
  have h0 : ¬ b = 0 := by omega
  have h1 : 0 ≤ a / b := Int.ediv_nonneg ha (by omega)
  have h2 : a / b ≤ a := Int.ediv_le_self b ha
  rw [h]
  simp [Op.intDiv, h0, Int.tdiv_eq_ediv_of_nonneg ha, wrap_in (a := a / b) (by omega) (by omega)]

class IsI (P : Program) (t : TypeId) (k : IntKind) : Prop where
  ok : P.underlying t = some (.int k)

section
variable {P : Program} {Q : Exit → Act → World → Prop} {n : Nat} {σ : Sg} {w : World} {L rest : List Oper} {d : Nat} {ty : TypeId} {pos : String} {af : Array Edge} {g : Option (Nat × Bool)} {t yt : TypeId} {x y : Operand}
theorem WL.shrN {a s : Nat} (hg : gd L σ ⟨some d, .binOp .shr t x y yt, ty, pos, af, g⟩ = some true) (hd : Nat.ble (d + 1) n = true) (hx : ev σ x = some (.int .u64 (a : Int))) (hy : ev σ y = some (.int .i64 (s : Int))) (ha : a < 18446744073709551616)
    (h : WL P L Q rest n ((d, .int .u64 ((a >>> s : Nat) : Int)) :: σ) w) : WL P L Q (⟨some d, .binOp .shr t x y yt, ty, pos, af, g⟩ :: rest) n σ w := by
  refine WL.run hg hd (fun a0 ha0 => ?_) h
  have := run_shrN P w a s ha t
  simp [execOp, ha0.ev hx, ha0.ev hy, eqG (op := .shr) rfl, this]
theorem WL.shrN63 {a : Nat} (hg : gd L σ ⟨some d, .binOp .shr t x y yt, ty, pos, af, g⟩ = some true) (hd : Nat.ble (d + 1) n = true) (hx : ev σ x = some (.int .u64 (a : Int))) (hy : ev σ y = some (.int .u64 63)) (ha : a < 18446744073709551616)
    (h : WL P L Q rest n ((d, .int .u64 ((a >>> 63 : Nat) : Int)) :: σ) w) : WL P L Q (⟨some d, .binOp .shr t x y yt, ty, pos, af, g⟩ :: rest) n σ w := by
  refine WL.run hg hd (fun a0 ha0 => ?_) h
  have := (show (binOp .shr t (.int .u64 (a : Int)) (.int .u64 63)).run P w = .ok (.int .u64 ((a >>> 63 : Nat) : Int)) w from run_shrN63 P w a 63 ha t)
  simp [execOp, ha0.ev hx, ha0.ev hy, eqG (op := .shr) rfl, this]
theorem WL.shrI {a : Nat} {s : Int} (hg : gd L σ ⟨some d, .binOp .shr t x y yt, ty, pos, af, g⟩ = some true) (hd : Nat.ble (d + 1) n = true) (hx : ev σ x = some (.int .u64 (a : Int))) (hy : ev σ y = some (.int .i64 s)) (ha : a < 18446744073709551616) (hs : 0 ≤ s)
    (h : WL P L Q rest n ((d, .int .u64 ((a >>> s.toNat : Nat) : Int)) :: σ) w) : WL P L Q (⟨some d, .binOp .shr t x y yt, ty, pos, af, g⟩ :: rest) n σ w := by
  refine WL.run hg hd (fun a0 ha0 => ?_) h
  have := run_shrI P w a s ha hs t
  simp [execOp, ha0.ev hx, ha0.ev hy, eqG (op := .shr) rfl, this]
theorem WL.andN {a b : Nat} (hg : gd L σ ⟨some d, .binOp .and t x y yt, ty, pos, af, g⟩ = some true) (hd : Nat.ble (d + 1) n = true) (hx : ev σ x = some (.int .u64 (a : Int))) (hy : ev σ y = some (.int .u64 (b : Int))) (ha : a < 18446744073709551616) (hb : b < 18446744073709551616)
    (h : WL P L Q rest n ((d, .int .u64 ((a &&& b : Nat) : Int)) :: σ) w) : WL P L Q (⟨some d, .binOp .and t x y yt, ty, pos, af, g⟩ :: rest) n σ w := by
  refine WL.run hg hd (fun a0 ha0 => ?_) h
  have := run_andN P w a b ha hb t
  simp [execOp, ha0.ev hx, ha0.ev hy, eqG (op := .and) rfl, this]
theorem WL.and1 {a : Nat} (hg : gd L σ ⟨some d, .binOp .and t x y yt, ty, pos, af, g⟩ = some true) (hd : Nat.ble (d + 1) n = true) (hx : ev σ x = some (.int .u64 (a : Int))) (hy : ev σ y = some (.int .u64 1)) (ha : a < 18446744073709551616)
    (h : WL P L Q rest n ((d, .int .u64 ((a &&& 1 : Nat) : Int)) :: σ) w) : WL P L Q (⟨some d, .binOp .and t x y yt, ty, pos, af, g⟩ :: rest) n σ w := by
  refine WL.run hg hd (fun a0 ha0 => ?_) h
  have : (binOp .and t (.int .u64 (a : Int)) (.int .u64 1)).run P w = .ok (.int .u64 ((a &&& 1 : Nat) : Int)) w := run_andN P w a 1 ha (by omega) t
  simp [execOp, ha0.ev hx, ha0.ev hy, eqG (op := .and) rfl, this]
theorem WL.orN {a b : Nat} (hg : gd L σ ⟨some d, .binOp .or t x y yt, ty, pos, af, g⟩ = some true) (hd : Nat.ble (d + 1) n = true) (hx : ev σ x = some (.int .u64 (a : Int))) (hy : ev σ y = some (.int .u64 (b : Int))) (ha : a < 18446744073709551616) (hb : b < 18446744073709551616)
    (h : WL P L Q rest n ((d, .int .u64 ((a ||| b : Nat) : Int)) :: σ) w) : WL P L Q (⟨some d, .binOp .or t x y yt, ty, pos, af, g⟩ :: rest) n σ w := by
  refine WL.run hg hd (fun a0 ha0 => ?_) h
  have := run_orN P w a b ha hb t
  simp [execOp, ha0.ev hx, ha0.ev hy, eqG (op := .or) rfl, this]
theorem WL.rem {a b : Int} {k : IntKind} (hg : gd L σ ⟨some d, .binOp .rem t x y yt, ty, pos, af, g⟩ = some true) (hd : Nat.ble (d + 1) n = true) (hx : ev σ x = some (.int k a)) (hy : ev σ y = some (.int k b)) (ha : 0 ≤ a) (hb : 0 < b)
    (h : WL P L Q rest n ((d, .int k (a % b)) :: σ) w) : WL P L Q (⟨some d, .binOp .rem t x y yt, ty, pos, af, g⟩ :: rest) n σ w := by
  refine WL.run hg hd (fun a0 ha0 => ?_) h
  have := run_rem P w a b ha hb t k
  simp [execOp, ha0.ev hx, ha0.ev hy, eqG (op := .rem) rfl, this]
theorem WL.remT {a b : Int} {k : IntKind} (hg : gd L σ ⟨some d, .binOp .rem t x y yt, ty, pos, af, g⟩ = some true) (hd : Nat.ble (d + 1) n = true) (hx : ev σ x = some (.int k a)) (hy : ev σ y = some (.int k b)) (hb : b ≠ 0)
    (h : WL P L Q rest n ((d, .int k (a.tmod b)) :: σ) w) : WL P L Q (⟨some d, .binOp .rem t x y yt, ty, pos, af, g⟩ :: rest) n σ w := by
  refine WL.run hg hd (fun a0 ha0 => ?_) h
  have := run_remT P w a b hb t k
  simp [execOp, ha0.ev hx, ha0.ev hy, eqG (op := .rem) rfl, this]
theorem WL.quo {a b : Int} (hg : gd L σ ⟨some d, .binOp .quo t x y yt, ty, pos, af, g⟩ = some true) (hd : Nat.ble (d + 1) n = true) (hx : ev σ x = some (.int .i64 a)) (hy : ev σ y = some (.int .i64 b)) (ha : 0 ≤ a) (hb : 0 < b) (hm : a < 9223372036854775808)
    (h : WL P L Q rest n ((d, .int .i64 (a / b)) :: σ) w) : WL P L Q (⟨some d, .binOp .quo t x y yt, ty, pos, af, g⟩ :: rest) n σ w := by
  refine WL.run hg hd (fun a0 ha0 => ?_) h
  have := run_quo P w a b ha hb hm t
  simp [execOp, ha0.ev hx, ha0.ev hy, eqG (op := .quo) rfl, this]
theorem WL.conv {a : Int} {k k' : IntKind} (hg : gd L σ ⟨some d, .convert t yt x, ty, pos, af, g⟩ = some true) (hd : Nat.ble (d + 1) n = true) (hx : ev σ x = some (.int k a)) [h1 : IsI P t k] [h2 : IsI P yt k']
    (h : WL P L Q rest n ((d, .int k' (k'.wrap a)) :: σ) w) : WL P L Q (⟨some d, .convert t yt x, ty, pos, af, g⟩ :: rest) n σ w := by
  refine WL.run hg hd (fun a0 ha0 => ?_) h
  simp [execOp, ha0.ev hx, convert, run_underlying h1.ok, run_underlying h2.ok, Conv.intToInt]
theorem QL.shrN {a s : Nat} (hg : gd L σ ⟨some d, .binOp .shr t x y yt, ty, pos, af, g⟩ = some true) (hd : Nat.ble (d + 1) n = true) (hx : ev σ x = some (.int .u64 (a : Int))) (hy : ev σ y = some (.int .i64 (s : Int))) (ha : a < 18446744073709551616)
    (h : QL P L w Q rest n ((d, .int .u64 ((a >>> s : Nat) : Int)) :: σ)) : QL P L w Q (⟨some d, .binOp .shr t x y yt, ty, pos, af, g⟩ :: rest) n σ := by
  refine QL.run hg hd (fun a0 ha0 w1 _ => ?_) h
  have := run_shrN P w1 a s ha t
  simp [execOp, ha0.ev hx, ha0.ev hy, eqG (op := .shr) rfl, this]
theorem QL.shrN63 {a : Nat} (hg : gd L σ ⟨some d, .binOp .shr t x y yt, ty, pos, af, g⟩ = some true) (hd : Nat.ble (d + 1) n = true) (hx : ev σ x = some (.int .u64 (a : Int))) (hy : ev σ y = some (.int .u64 63)) (ha : a < 18446744073709551616)
    (h : QL P L w Q rest n ((d, .int .u64 ((a >>> 63 : Nat) : Int)) :: σ)) : QL P L w Q (⟨some d, .binOp .shr t x y yt, ty, pos, af, g⟩ :: rest) n σ := by
  refine QL.run hg hd (fun a0 ha0 w1 _ => ?_) h
  have := (show (binOp .shr t (.int .u64 (a : Int)) (.int .u64 63)).run P w1 = .ok (.int .u64 ((a >>> 63 : Nat) : Int)) w1 from run_shrN63 P w1 a 63 ha t)
  simp [execOp, ha0.ev hx, ha0.ev hy, eqG (op := .shr) rfl, this]
theorem QL.shrI {a : Nat} {s : Int} (hg : gd L σ ⟨some d, .binOp .shr t x y yt, ty, pos, af, g⟩ = some true) (hd : Nat.ble (d + 1) n = true) (hx : ev σ x = some (.int .u64 (a : Int))) (hy : ev σ y = some (.int .i64 s)) (ha : a < 18446744073709551616) (hs : 0 ≤ s)
    (h : QL P L w Q rest n ((d, .int .u64 ((a >>> s.toNat : Nat) : Int)) :: σ)) : QL P L w Q (⟨some d, .binOp .shr t x y yt, ty, pos, af, g⟩ :: rest) n σ := by
  refine QL.run hg hd (fun a0 ha0 w1 _ => ?_) h
  have := run_shrI P w1 a s ha hs t
  simp [execOp, ha0.ev hx, ha0.ev hy, eqG (op := .shr) rfl, this]
theorem QL.andN {a b : Nat} (hg : gd L σ ⟨some d, .binOp .and t x y yt, ty, pos, af, g⟩ = some true) (hd : Nat.ble (d + 1) n = true) (hx : ev σ x = some (.int .u64 (a : Int))) (hy : ev σ y = some (.int .u64 (b : Int))) (ha : a < 18446744073709551616) (hb : b < 18446744073709551616)
    (h : QL P L w Q rest n ((d, .int .u64 ((a &&& b : Nat) : Int)) :: σ)) : QL P L w Q (⟨some d, .binOp .and t x y yt, ty, pos, af, g⟩ :: rest) n σ := by
  refine QL.run hg hd (fun a0 ha0 w1 _ => ?_) h
  have := run_andN P w1 a b ha hb t
  simp [execOp, ha0.ev hx, ha0.ev hy, eqG (op := .and) rfl, this]
theorem QL.and1 {a : Nat} (hg : gd L σ ⟨some d, .binOp .and t x y yt, ty, pos, af, g⟩ = some true) (hd : Nat.ble (d + 1) n = true) (hx : ev σ x = some (.int .u64 (a : Int))) (hy : ev σ y = some (.int .u64 1)) (ha : a < 18446744073709551616)
    (h : QL P L w Q rest n ((d, .int .u64 ((a &&& 1 : Nat) : Int)) :: σ)) : QL P L w Q (⟨some d, .binOp .and t x y yt, ty, pos, af, g⟩ :: rest) n σ := by
  refine QL.run hg hd (fun a0 ha0 w1 _ => ?_) h
  have : (binOp .and t (.int .u64 (a : Int)) (.int .u64 1)).run P w1 = .ok (.int .u64 ((a &&& 1 : Nat) : Int)) w1 := run_andN P w1 a 1 ha (by omega) t
  simp [execOp, ha0.ev hx, ha0.ev hy, eqG (op := .and) rfl, this]
theorem QL.orN {a b : Nat} (hg : gd L σ ⟨some d, .binOp .or t x y yt, ty, pos, af, g⟩ = some true) (hd : Nat.ble (d + 1) n = true) (hx : ev σ x = some (.int .u64 (a : Int))) (hy : ev σ y = some (.int .u64 (b : Int))) (ha : a < 18446744073709551616) (hb : b < 18446744073709551616)
    (h : QL P L w Q rest n ((d, .int .u64 ((a ||| b : Nat) : Int)) :: σ)) : QL P L w Q (⟨some d, .binOp .or t x y yt, ty, pos, af, g⟩ :: rest) n σ := by
  refine QL.run hg hd (fun a0 ha0 w1 _ => ?_) h
  have := run_orN P w1 a b ha hb t
  simp [execOp, ha0.ev hx, ha0.ev hy, eqG (op := .or) rfl, this]
theorem QL.rem {a b : Int} {k : IntKind} (hg : gd L σ ⟨some d, .binOp .rem t x y yt, ty, pos, af, g⟩ = some true) (hd : Nat.ble (d + 1) n = true) (hx : ev σ x = some (.int k a)) (hy : ev σ y = some (.int k b)) (ha : 0 ≤ a) (hb : 0 < b)
    (h : QL P L w Q rest n ((d, .int k (a % b)) :: σ)) : QL P L w Q (⟨some d, .binOp .rem t x y yt, ty, pos, af, g⟩ :: rest) n σ := by
  refine QL.run hg hd (fun a0 ha0 w1 _ => ?_) h
  have := run_rem P w1 a b ha hb t k
  simp [execOp, ha0.ev hx, ha0.ev hy, eqG (op := .rem) rfl, this]
theorem QL.remT {a b : Int} {k : IntKind} (hg : gd L σ ⟨some d, .binOp .rem t x y yt, ty, pos, af, g⟩ = some true) (hd : Nat.ble (d + 1) n = true) (hx : ev σ x = some (.int k a)) (hy : ev σ y = some (.int k b)) (hb : b ≠ 0)
    (h : QL P L w Q rest n ((d, .int k (a.tmod b)) :: σ)) : QL P L w Q (⟨some d, .binOp .rem t x y yt, ty, pos, af, g⟩ :: rest) n σ := by
  refine QL.run hg hd (fun a0 ha0 w1 _ => ?_) h
  have := run_remT P w1 a b hb t k
  simp [execOp, ha0.ev hx, ha0.ev hy, eqG (op := .rem) rfl, this]
theorem QL.quo {a b : Int} (hg : gd L σ ⟨some d, .binOp .quo t x y yt, ty, pos, af, g⟩ = some true) (hd : Nat.ble (d + 1) n = true) (hx : ev σ x = some (.int .i64 a)) (hy : ev σ y = some (.int .i64 b)) (ha : 0 ≤ a) (hb : 0 < b) (hm : a < 9223372036854775808)
    (h : QL P L w Q rest n ((d, .int .i64 (a / b)) :: σ)) : QL P L w Q (⟨some d, .binOp .quo t x y yt, ty, pos, af, g⟩ :: rest) n σ := by
  refine QL.run hg hd (fun a0 ha0 w1 _ => ?_) h
  have := run_quo P w1 a b ha hb hm t
  simp [execOp, ha0.ev hx, ha0.ev hy, eqG (op := .quo) rfl, this]
theorem QL.conv {a : Int} {k k' : IntKind} (hg : gd L σ ⟨some d, .convert t yt x, ty, pos, af, g⟩ = some true) (hd : Nat.ble (d + 1) n = true) (hx : ev σ x = some (.int k a)) [h1 : IsI P t k] [h2 : IsI P yt k']
    (h : QL P L w Q rest n ((d, .int k' (k'.wrap a)) :: σ)) : QL P L w Q (⟨some d, .convert t yt x, ty, pos, af, g⟩ :: rest) n σ := by
  refine QL.run hg hd (fun a0 ha0 w1 _ => ?_) h
  simp [execOp, ha0.ev hx, convert, run_underlying h1.ok, run_underlying h2.ok, Conv.intToInt]
end
end Go.Proofs.Ythojdcbpglipeaa
