/-
  Package push, plain: nots pushed down, plain, slim; what they mean and what forms they give.
-/
import Derived.Test.YthojdcbpglipeaaSem
set_option linter.unusedVariables false
set_option linter.unusedSimpArgs false
namespace Go.Proofs.Ythojdcbpglipeaa
open Go.RowKit

/-- induction over right formulas -/
theorem wf_ind {M : Ltl → Prop} (h1 : M (.mk 1 0 [])) (h2 : M (.mk 2 0 [])) (h3 : ∀ n, 0 ≤ n → n ≤ 63 → M (.mk 3 n []))
    (hu : ∀ k a, k = 4 ∨ k = 7 ∨ k = 10 ∨ k = 11 → wfT a → M a → M (.mk k 0 [a]))
    (hb : ∀ k a b, k = 5 ∨ k = 6 ∨ k = 8 ∨ k = 9 → wfT a → wfT b → M a → M b → M (.mk k 0 [a, b])) : ∀ t, wfT t → M t := by
  have key : ∀ m (t : Ltl), t.nodes ≤ m → wfT t → M t := by
    intro m
    induction m with
    | zero => intro t ht; have := t.nodes_pos; omega
    | succ m ih =>
      rintro ⟨k, n, kids⟩ ht hw
      simp only [wfT] at hw
      simp only [Ltl.nodes] at ht
      obtain ⟨hk, hn0, hn1, hn2, hks⟩ := hw
      unfold kidsK at hk
      split at hk
      · rename_i hc
        have : kids = [] := List.eq_nil_of_length_eq_zero (by omega)
        subst this
        rcases hc with rfl | rfl | rfl
        · rw [hn2 (by decide)]; exact h1
        · rw [hn2 (by decide)]; exact h2
        · exact h3 n hn0 hn1
      · split at hk
        · rename_i hc
          rw [hn2 (by omega)]
          match kids, hk with
          | [a], _ =>
            simp only [Ltl.nodesL, wfTs] at ht hks
            exact hu k a hc hks.1 (ih a (by omega) hks.1)
        · split at hk
          · rename_i hc
            rw [hn2 (by omega)]
            match kids, hk with
            | [a, b], _ =>
              simp only [Ltl.nodesL, wfTs] at ht hks
              have := a.nodes_pos
              have := b.nodes_pos
              exact hb k a b hc hks.1 hks.2.1 (ih a (by omega) hks.1) (ih b (by omega) hks.2.1)
          · omega
  exact fun t hw => key t.nodes t (Nat.le_refl _) hw
theorem wf_leaf1 : wfT (.mk 1 0 []) := by simp [wfT, wfTs, kidsK]
theorem wf_leaf2 : wfT (.mk 2 0 []) := by simp [wfT, wfTs, kidsK]
theorem wf_atom {n : Int} (h0 : 0 ≤ n) (h1 : n ≤ 63) : wfT (.mk 3 n []) := by simp [wfT, wfTs, kidsK, h0, h1]
theorem wf_one {k : Int} {a : Ltl} (hk : k = 4 ∨ k = 7 ∨ k = 10 ∨ k = 11) (ha : wfT a) : wfT (.mk k 0 [a]) := by
  have h1 : ¬ (k = 1 ∨ k = 2 ∨ k = 3) := by omega
  simp [wfT, wfTs, kidsK, hk, h1, ha]
theorem wf_two {k : Int} {a b : Ltl} (hk : k = 5 ∨ k = 6 ∨ k = 8 ∨ k = 9) (ha : wfT a) (hb : wfT b) : wfT (.mk k 0 [a, b]) := by
  have h1 : ¬ (k = 1 ∨ k = 2 ∨ k = 3) := by omega
  have h2 : ¬ (k = 4 ∨ k = 7 ∨ k = 10 ∨ k = 11) := by omega
  simp [wfT, wfTs, kidsK, hk, h1, h2, ha, hb]

/- DEPTH, AND WHAT Check ASKS -/
mutual
def Ltl.deep : Ltl → Nat
  | .mk _ _ kids => 1 + Ltl.deepL kids
def Ltl.deepL : List Ltl → Nat
  | [] => 0
  | x :: r => max x.deep (Ltl.deepL r)
end
theorem Ltl.deep_pos (t : Ltl) : 0 < t.deep := by cases t; simp [Ltl.deep]; omega
mutual
theorem chk_size : ∀ (t : Ltl) (d c : Int), (chkF t d c).1 = 0 → (chkF t d c).2 = c + t.nodes ∧ d + t.deep ≤ 21
  | .mk k n kids, d, c, h => by
    simp only [chkF] at h ⊢
    split at h
    · cases h
    · rename_i h1
      rw [if_neg h1]
      split at h
      · cases h
      · rename_i h2
        rw [if_neg h2]
        split at h
        · cases h
        · rename_i h3
          rw [if_neg h3]
          have := chks_size kids (d + 1) (c + 1) (by omega) h
          simp only [Ltl.nodes, Ltl.deep]
          omega
theorem chks_size : ∀ (l : List Ltl) (d c : Int), d ≤ 21 → (chkFL l d c).1 = 0 → (chkFL l d c).2 = c + Ltl.nodesL l ∧ d + Ltl.deepL l ≤ 21
  | [], d, c, hd, h => by simp only [chkFL, Ltl.nodesL, Ltl.deepL]; omega
  | x :: r, d, c, hd, h => by
    simp only [chkFL] at h ⊢
    split at h
    · rename_i h1; exact absurd h h1
    · rename_i h1
      rw [if_neg h1]
      have h2 := chk_size x d c (by simpa using h1)
      have h3 := chks_size r d _ hd h
      simp only [Ltl.nodesL, Ltl.deepL]
      omega
end
mutual
theorem chk_of : ∀ (t : Ltl) (d c : Int), wfT t → c + t.nodes ≤ 60 → d + t.deep ≤ 21 → (chkF t d c).1 = 0
  | .mk k n kids, d, c, hw, h1, h2 => by
    simp only [wfT] at hw
    simp only [Ltl.nodes, Ltl.deep] at h1 h2
    simp only [chkF]
    have h3 : ¬ (kidsK k ≠ kids.length ∨ n < 0 ∨ n > 63 ∨ (k ≠ 3 ∧ n ≠ 0)) := by
      intro h
      rcases h with h | h | h | h
      · exact h hw.1
      · omega
      · omega
      · exact h.2 (hw.2.2.2.1 h.1)
    rw [if_neg (by omega), if_neg (by omega), if_neg h3]
    exact chks_of kids _ _ hw.2.2.2.2 (by omega) (by omega)
theorem chks_of : ∀ (l : List Ltl) (d c : Int), wfTs l → c + Ltl.nodesL l ≤ 60 → d + Ltl.deepL l ≤ 21 → (chkFL l d c).1 = 0
  | [], d, c, _, _, _ => by simp only [chkFL]
  | x :: r, d, c, hw, h1, h2 => by
    simp only [wfTs] at hw
    simp only [Ltl.nodesL, Ltl.deepL] at h1 h2
    have h3 := chk_of x d c hw.1 (by omega) (by omega)
    have h4 := chk_size x d c h3
    simp only [chkFL]
    rw [if_neg (by simp [h3]), h4.1]
    exact chks_of r d _ hw.2 (by omega) (by omega)
end
theorem chk_iff (t : Ltl) : (chkF t 1 0).1 = 0 ↔ wfT t ∧ t.nodes ≤ 60 ∧ t.deep ≤ 20 := by
  constructor
  · intro h
    have h1 := chk_size t 1 0 h
    have h2 := chkF_le t 1 0 h
    exact ⟨chkF_wf t 1 0 h, by omega, by omega⟩
  · rintro ⟨h1, h2, h3⟩
    exact chk_of t 1 0 h1 (by omega) (by omega)

/- EQUALITY -/
mutual
def sameB : Ltl → Ltl → Bool
  | .mk k n l, .mk k' n' l' => k == k' && n == n' && sameBs l l'
def sameBs : List Ltl → List Ltl → Bool
  | [], [] => true
  | x :: r, y :: q => sameB x y && sameBs r q
  | [], _ :: _ => false
  | _ :: _, [] => false
end
mutual
theorem sameB_iff : ∀ (a b : Ltl), sameB a b = true ↔ a = b
  | .mk k n l, .mk k' n' l' => by
    simp only [sameB, Bool.and_eq_true, beq_iff_eq, sameBs_iff l l', Ltl.mk.injEq]
    exact and_assoc
theorem sameBs_iff : ∀ (a b : List Ltl), sameBs a b = true ↔ a = b
  | [], [] => by simp [sameBs]
  | x :: r, y :: q => by simp only [sameBs, Bool.and_eq_true, sameB_iff x y, sameBs_iff r q, List.cons.injEq]
  | [], _ :: _ => by simp [sameBs]
  | _ :: _, [] => by simp [sameBs]
end
theorem sameB_self (a : Ltl) : sameB a a = true := (sameB_iff a a).2 rfl

/- THE MEANING, KIND BY KIND -/
section
variable {L : Nat → Nat} {n : Int} {a b : Ltl} {i : Nat}
theorem sem1 : sem L (.mk 1 n []) i ↔ True := by simp [sem, sems, semK]
theorem sem2 : sem L (.mk 2 n []) i ↔ False := by simp [sem, sems, semK]
theorem sem3 : sem L (.mk 3 n []) i ↔ L i >>> n.toNat &&& 1 = 1 := by simp [sem, sems, semK]
theorem sem4 : sem L (.mk 4 n [a]) i ↔ ¬ sem L a i := by simp [sem, sems, semK]
theorem sem5 : sem L (.mk 5 n [a, b]) i ↔ sem L a i ∧ sem L b i := by simp [sem, sems, semK]
theorem sem6 : sem L (.mk 6 n [a, b]) i ↔ sem L a i ∨ sem L b i := by simp [sem, sems, semK]
theorem sem7 : sem L (.mk 7 n [a]) i ↔ sem L a (i + 1) := by simp [sem, sems, semK]
theorem sem8 : sem L (.mk 8 n [a, b]) i ↔ Til (sem L a) (sem L b) i := by simp [sem, sems, semK]
theorem sem9 : sem L (.mk 9 n [a, b]) i ↔ ¬ Til (fun j => ¬ sem L a j) (fun j => ¬ sem L b j) i := by simp [sem, sems, semK]
theorem sem10 : sem L (.mk 10 n [a]) i ↔ Til (fun _ => True) (sem L a) i := by simp [sem, sems, semK]
theorem sem11 : sem L (.mk 11 n [a]) i ↔ ¬ Til (fun _ => True) (fun j => ¬ sem L a j) i := by simp [sem, sems, semK]
end
theorem Til.congr {A B A' B' : Nat → Prop} (ha : ∀ j, A j ↔ A' j) (hb : ∀ j, B j ↔ B' j) (i : Nat) : Til A B i ↔ Til A' B' i :=
  Til.shift (fun _ => ha _) (fun _ => hb _)

/- NOTS -/
def otherK (k : Int) : Int := if k = 1 then 2 else if k = 2 then 1 else if k = 5 then 6 else if k = 6 then 5 else if k = 8 then 9 else if k = 9 then 8 else if k = 10 then 11 else if k = 11 then 10 else k
mutual
def notsL : Ltl → Bool → Ltl
  | .mk k n kids, b => if k = 4 then (notsLs kids (!b)).getD 0 (.mk 0 0 []) else if b = false then .mk k n (notsLs kids b) else if k = 3 then .mk 4 0 [.mk k n (notsLs kids b)] else .mk (otherK k) n (notsLs kids b)
def notsLs : List Ltl → Bool → List Ltl
  | [], _ => []
  | x :: r, b => notsL x b :: notsLs r b
end
theorem notsLs_map (b : Bool) : ∀ l, notsLs l b = l.map (notsL · b)
  | [] => rfl
  | x :: r => by simp [notsLs, notsLs_map b r]
theorem nots_sem {L : Nat → Nat} : ∀ t, wfT t → (∀ i, sem L (notsL t false) i ↔ sem L t i) ∧ (∀ i, sem L (notsL t true) i ↔ ¬ sem L t i) := by
  refine wf_ind ?_ ?_ ?_ ?_ ?_
  · constructor <;> intro i <;> simp [notsL, notsLs, otherK, sem1, sem2]
  · constructor <;> intro i <;> simp [notsL, notsLs, otherK, sem1, sem2]
  · intro n _ _
    constructor <;> intro i <;> simp [notsL, notsLs, otherK, sem3, sem4]
  · rintro k a (rfl | rfl | rfl | rfl) _ ⟨h1, h2⟩
    · constructor <;> intro i <;> simp [notsL, notsLs, otherK, sem4, h1, h2]
    · constructor <;> intro i <;> simp [notsL, notsLs, otherK, sem7, h1, h2]
    · constructor <;> intro i
      · simp [notsL, notsLs, otherK, sem10]; exact Til.congr (fun _ => Iff.rfl) h1 i
      · simp [notsL, notsLs, otherK, sem10, sem11]; exact not_congr (Til.congr (fun _ => Iff.rfl) (fun j => by rw [h2]; exact Classical.not_not) i)
    · constructor <;> intro i
      · simp [notsL, notsLs, otherK, sem11]; exact not_congr (Til.congr (fun _ => Iff.rfl) (fun j => not_congr (h1 j)) i)
      · simp [notsL, notsLs, otherK, sem10, sem11]; exact Til.congr (fun _ => Iff.rfl) h2 i
  · rintro k a b (rfl | rfl | rfl | rfl) _ _ ⟨h1, h2⟩ ⟨h3, h4⟩
    · constructor <;> intro i
      · simp [notsL, notsLs, otherK, sem5, sem6, h1, h3]
      · have e : notsL (.mk 5 0 [a, b]) true = .mk 6 0 [notsL a true, notsL b true] := by simp [notsL, notsLs, otherK]
        rw [e, sem6, sem5, h2, h4]
        exact Classical.not_and_iff_not_or_not.symm
    · constructor <;> intro i <;> simp [notsL, notsLs, otherK, sem5, sem6, h1, h2, h3, h4]
    · constructor <;> intro i
      · simp [notsL, notsLs, otherK, sem8]; exact Til.congr h1 h3 i
      · simp [notsL, notsLs, otherK, sem8, sem9]; exact not_congr (Til.congr (fun j => by rw [h2]; exact Classical.not_not) (fun j => by rw [h4]; exact Classical.not_not) i)
    · constructor <;> intro i
      · simp [notsL, notsLs, otherK, sem9]; exact not_congr (Til.congr (fun j => not_congr (h1 j)) (fun j => not_congr (h3 j)) i)
      · simp [notsL, notsLs, otherK, sem8, sem9]; exact Til.congr h2 h4 i
end Go.Proofs.Ythojdcbpglipeaa
