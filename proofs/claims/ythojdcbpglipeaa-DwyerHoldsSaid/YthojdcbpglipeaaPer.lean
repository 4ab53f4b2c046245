/-
  Periodic predicates over endless words; until within bounds. Plain law, no program in sight.
-/
import Derived.Test.YthojdcbpglipeaaSem
import Derived.Test.YthojdcbpglipeaaPushPl
set_option linter.unusedVariables false
set_option linter.unusedSimpArgs false
namespace Go.Proofs.Ythojdcbpglipeaa
open Go.RowKit

def PerP (A : Nat → Prop) (s p : Nat) : Prop := ∀ j, s ≤ j → (A (j + p) ↔ A j)
theorem least_bd {A : Nat → Prop} {s p i : Nat} (hA : PerP A s p) (hp : 0 < p) (h : ∃ j, i ≤ j ∧ A j) : ∃ j, i ≤ j ∧ j < max i s + p ∧ A j ∧ ∀ m, i ≤ m → m < j → ¬ A m := by
  obtain ⟨j, hij, hj⟩ := h
  obtain ⟨d, rfl⟩ := Nat.exists_eq_add_of_le hij
  clear hij
  induction d using Nat.strongRecOn with
  | _ d ih =>
    by_cases h : ∃ e, e < d ∧ A (i + e)
    · obtain ⟨e, he, ha⟩ := h
      exact ih e he ha
    · refine ⟨i + d, by omega, ?_, hj, fun m h1 h2 ha => h ⟨m - i, by omega, by rw [show i + (m - i) = m by omega]; exact ha⟩⟩
      apply Nat.lt_of_not_le
      intro hb
      refine h ⟨d - p, by omega, ?_⟩
      have := hA (i + d - p) (by omega)
      rw [show i + d - p + p = i + d by omega] at this
      rw [show i + (d - p) = i + d - p by omega]
      exact this.1 hj
theorem Til.bd {A B : Nat → Prop} {s p i M : Nat} (hB : PerP B s p) (hp : 0 < p) (hM : max i s + p ≤ M) : Til A B i ↔ ∃ j, i ≤ j ∧ j < M ∧ B j ∧ ∀ m, i ≤ m → m < j → A m := by
  constructor
  · rintro ⟨j, hj, hb, ha⟩
    obtain ⟨j', h1, h2, h3, h4⟩ := least_bd (i := i) hB hp ⟨j, hj, hb⟩
    refine ⟨j', h1, by omega, h3, fun m hm hm2 => ha m hm ?_⟩
    apply Nat.lt_of_lt_of_le hm2
    exact Nat.le_of_not_lt fun h => h4 j hj h hb
  · rintro ⟨j, h1, _, h2, h3⟩
    exact ⟨j, h1, h2, h3⟩
theorem all_bd {A : Nat → Prop} {s p : Nat} (hA : PerP A s p) (hp : 0 < p) {N : Nat} (hN : s + p ≤ N) : (∀ j, A j) ↔ ∀ j, j < N → A j := by
  constructor
  · exact fun h j _ => h j
  · intro h j
    by_cases ha : A j
    · exact ha
    obtain ⟨j', h1, h2, h3, _⟩ := least_bd (A := fun j => ¬ A j) (i := 0) (fun j hj => not_congr (hA j hj)) hp ⟨j, Nat.zero_le _, ha⟩
    exact absurd (h j' (by omega)) h3
theorem PerP.and {A B : Nat → Prop} {s p : Nat} (hA : PerP A s p) (hB : PerP B s p) : PerP (fun j => A j ∧ B j) s p := fun j hj => and_congr (hA j hj) (hB j hj)
theorem PerP.or {A B : Nat → Prop} {s p : Nat} (hA : PerP A s p) (hB : PerP B s p) : PerP (fun j => A j ∨ B j) s p := fun j hj => or_congr (hA j hj) (hB j hj)
theorem PerP.not {A : Nat → Prop} {s p : Nat} (hA : PerP A s p) : PerP (fun j => ¬ A j) s p := fun j hj => not_congr (hA j hj)
theorem PerP.til {A B : Nat → Prop} {s p c : Nat} (hA : PerP A s p) (hB : PerP B s p) : PerP (fun j => Til A B (j + c)) s p := fun j hj =>
  Til.shift (fun d => by rw [show j + p + c + d = j + c + d + p by omega]; exact hA _ (by omega)) (fun d => by rw [show j + p + c + d = j + c + d + p by omega]; exact hB _ (by omega))

theorem tt_til {B : Nat → Prop} {i : Nat} : Til (fun _ => True) B i ↔ ∃ j, i ≤ j ∧ B j := ⟨fun ⟨j, h1, h2, _⟩ => ⟨j, h1, h2⟩, fun ⟨j, h1, h2⟩ => ⟨j, h1, h2, fun _ _ _ => trivial⟩⟩
theorem some_sem {L : Nat → Nat} {i : Nat} {t : Ltl} : sem L (.mk 10 0 [t]) i ↔ ∃ j, i ≤ j ∧ sem L t j := by rw [sem10, tt_til]
theorem always_sem {L : Nat → Nat} {i : Nat} {t : Ltl} : sem L (.mk 11 0 [t]) i ↔ ∀ j, i ≤ j → sem L t j := by
  rw [sem11, tt_til]
  exact ⟨fun h j hj => Classical.byContradiction fun hc => h ⟨j, hj, hc⟩, fun h ⟨j, hj, hc⟩ => hc (h j hj)⟩
theorem per_sem {s l : List Nat} {u : Ltl} : PerP (sem (lat s l) u) s.length l.length := fun j hj => sem_loop u hj
theorem semS {s l : List Nat} {u : Ltl} {i : Nat} (hp : 0 < l.length) {M : Nat} (hM : max i s.length + l.length ≤ M) : sem (lat s l) (.mk 10 0 [u]) i ↔ ∃ j, i ≤ j ∧ j < M ∧ sem (lat s l) u j ∧ ∀ m, i ≤ m → m < j → True := by
  rw [sem10, Til.bd per_sem hp hM]
theorem semU {s l : List Nat} {u v : Ltl} {i : Nat} (hp : 0 < l.length) {M : Nat} (hM : max i s.length + l.length ≤ M) : sem (lat s l) (.mk 8 0 [u, v]) i ↔ ∃ j, i ≤ j ∧ j < M ∧ sem (lat s l) v j ∧ ∀ m, i ≤ m → m < j → sem (lat s l) u m := by
  rw [sem8, Til.bd per_sem hp hM]
theorem semG {s l : List Nat} {u : Ltl} (hp : 0 < l.length) {M : Nat} (hM : s.length + l.length ≤ M) : sem (lat s l) (.mk 11 0 [u]) 0 ↔ ∀ j, j < M → sem (lat s l) u j := by
  rw [always_sem, ← all_bd per_sem hp hM]
  exact ⟨fun h j => h j (Nat.zero_le _), fun h j _ => h j⟩
end Go.Proofs.Ythojdcbpglipeaa
