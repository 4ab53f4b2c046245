/-
  Package dwyer: the formula of a pattern means what the pattern means by its spans. Plain law, no program in sight.
-/
import Derived.Test.YthojdcbpglipeaaPer
import Derived.Test.YthojdcbpglipeaaDwyer5
import Derived.Test.YthojdcbpglipeaaDwyerPl
set_option linter.unusedVariables false
set_option linter.unusedSimpArgs false
namespace Go.Proofs.Ythojdcbpglipeaa
open Go.RowKit

/- THE FORMULAS -/
abbrev leafL (n : Int) : Ltl := .mk 3 n []
abbrev notL (a : Ltl) : Ltl := .mk 4 0 [a]
abbrev andL (a b : Ltl) : Ltl := .mk 5 0 [a, b]
abbrev orL (a b : Ltl) : Ltl := .mk 6 0 [a, b]
abbrev untL (a b : Ltl) : Ltl := .mk 8 0 [a, b]
abbrev alwL (a : Ltl) : Ltl := .mk 11 0 [a]
abbrev finL (a : Ltl) : Ltl := .mk 10 0 [a]
abbrev nextF (a : Ltl) : Ltl := .mk 7 0 [a]
def boundG (P : Int) : Nat → Ltl
  | 0 => alwL (notL (leafL P))
  | n + 1 => orL (untL (notL (leafL P)) (andL (leafL P) (nextF (boundG P n)))) (alwL (notL (leafL P)))
def globalF (k P S : Int) (n : Nat) : Ltl :=
  if k = 2 then alwL (leafL P)
  else if k = 3 then finL (leafL P)
  else if k = 5 then orL (untL (notL (leafL P)) (leafL S)) (alwL (notL (leafL P)))
  else if k = 6 then alwL (orL (notL (leafL P)) (finL (leafL S)))
  else if k = 4 then boundG P n
  else alwL (notL (leafL P))
def weakF (weak : Bool) (a b : Ltl) : Ltl := if weak = true then orL (untL a b) (alwL a) else untL a b
def boundU (P R : Int) (weak : Bool) : Nat → Ltl
  | 0 => weakF weak (notL (leafL P)) (leafL R)
  | n + 1 => weakF weak (notL (leafL P)) (orL (leafL R) (andL (andL (leafL P) (notL (leafL R))) (nextF (boundU P R weak n))))
def upToF (k P S R : Int) (n : Nat) (weak : Bool) : Ltl :=
  if k = 2 then weakF weak (leafL P) (leafL R)
  else if k = 3 then untL (notL (leafL R)) (andL (leafL P) (notL (leafL R)))
  else if k = 5 then weakF weak (notL (leafL P)) (orL (leafL S) (leafL R))
  else if k = 6 then weakF weak (orL (notL (leafL P)) (untL (notL (leafL R)) (andL (leafL S) (notL (leafL R))))) (leafL R)
  else if k = 4 then boundU P R weak n
  else weakF weak (notL (leafL P)) (leafL R)
def dwyF (pt : LPat) : Ltl :=
  let k := pt.1
  let P := pt.2.2.1
  let S := pt.2.2.2.1
  let Q := pt.2.2.2.2.1
  let R := pt.2.2.2.2.2.1
  let c := pt.2.2.2.2.2.2.toNat
  if pt.2.1 = 2 then orL (notL (finL (leafL R))) (upToF k P S R c false)
  else if pt.2.1 = 3 then orL (alwL (notL (leafL Q))) (untL (notL (leafL Q)) (andL (leafL Q) (globalF k P S c)))
  else if pt.2.1 = 4 then alwL (orL (notL (andL (andL (leafL Q) (notL (leafL R))) (finL (leafL R)))) (upToF k P S R c false))
  else if pt.2.1 = 5 then alwL (orL (notL (andL (leafL Q) (notL (leafL R)))) (upToF k P S R c true))
  else globalF k P S c

/- WHAT THEY SAY -/
def Wk (weak : Bool) (A B : Nat → Prop) (i : Nat) : Prop := Til A B i ∨ (weak = true ∧ ∀ j, i ≤ j → A j)
def UPc (P R : Nat → Prop) (weak : Bool) : Nat → Nat → Prop
  | 0, i => Wk weak (fun j => ¬ P j) R i
  | n + 1, i => Wk weak (fun j => ¬ P j) (fun j => R j ∨ ((P j ∧ ¬ R j) ∧ UPc P R weak n (j + 1))) i
def UP (k : Int) (P S R : Nat → Prop) (weak : Bool) (n i : Nat) : Prop :=
  if k = 2 then Wk weak P R i
  else if k = 3 then Til (fun j => ¬ R j) (fun j => P j ∧ ¬ R j) i
  else if k = 5 then Wk weak (fun j => ¬ P j) (fun j => S j ∨ R j) i
  else if k = 6 then Wk weak (fun j => ¬ P j ∨ Til (fun j => ¬ R j) (fun j => S j ∧ ¬ R j) j) R i
  else if k = 4 then UPc P R weak n i
  else Wk weak (fun j => ¬ P j) R i
theorem Wk.congr {weak : Bool} {A B A' B' : Nat → Prop} (ha : ∀ j, A j ↔ A' j) (hb : ∀ j, B j ↔ B' j) (i : Nat) : Wk weak A B i ↔ Wk weak A' B' i :=
  or_congr (Til.congr ha hb i) (and_congr Iff.rfl (forall_congr' fun j => forall_congr' fun _ => ha j))
section
variable {L : Nat → Nat} {i : Nat}
abbrev At (L : Nat → Nat) (a : Int) (j : Nat) : Prop := L j >>> a.toNat &&& 1 = 1
theorem weak_sem {weak : Bool} {a b : Ltl} : sem L (weakF weak a b) i ↔ Wk weak (sem L a) (sem L b) i := by
  unfold weakF Wk
  cases weak
  · rw [if_neg (by simp), sem8]; simp
  · rw [if_pos rfl, sem6, sem8, always_sem]; simp
theorem not_sem {a : Ltl} : sem L (notL a) i ↔ ¬ sem L a i := sem4
theorem leaf_sem {a : Int} : sem L (leafL a) i ↔ At L a i := sem3
theorem upc_sem {P R : Int} {weak : Bool} : ∀ n i, sem L (boundU P R weak n) i ↔ UPc (At L P) (At L R) weak n i
  | 0, i => by
    rw [boundU, weak_sem, UPc]
    exact Wk.congr (fun j => sem4.trans (not_congr sem3)) (fun j => sem3) i
  | n + 1, i => by
    rw [boundU, weak_sem, UPc]
    refine Wk.congr (fun j => sem4.trans (not_congr sem3)) (fun j => ?_) i
    rw [sem6, sem5, sem5, sem4, sem3, sem3, sem7, upc_sem n (j + 1)]
theorem up_sem {k P S R : Int} {weak : Bool} {n : Nat} : sem L (upToF k P S R n weak) i ↔ UP k (At L P) (At L S) (At L R) weak n i := by
  unfold upToF UP
  split
  · rw [weak_sem]; exact Wk.congr (fun j => sem3) (fun j => sem3) i
  · split
    · rw [sem8]; exact Til.congr (fun j => sem4.trans (not_congr sem3)) (fun j => sem5.trans (and_congr sem3 (sem4.trans (not_congr sem3)))) i
    · split
      · rw [weak_sem]; exact Wk.congr (fun j => sem4.trans (not_congr sem3)) (fun j => sem6.trans (or_congr sem3 sem3)) i
      · split
        · rw [weak_sem]
          refine Wk.congr (fun j => sem6.trans (or_congr (sem4.trans (not_congr sem3)) ?_)) (fun j => sem3) i
          rw [sem8]; exact Til.congr (fun j => sem4.trans (not_congr sem3)) (fun j => sem5.trans (and_congr sem3 (sem4.trans (not_congr sem3)))) j
        · split
          · exact upc_sem n i
          · rw [weak_sem]; exact Wk.congr (fun j => sem4.trans (not_congr sem3)) (fun j => sem3) i
theorem andF {a b : Prop} (h : a ↔ b) : a ↔ b ∧ ¬ False := h.trans ⟨fun x => ⟨x, id⟩, fun x => x.1⟩
theorem orF {a b : Prop} (h : a ↔ b) : a ↔ b ∨ False := h.trans ⟨.inl, fun x => x.resolve_right id⟩
theorem wk_no {A : Nat → Prop} : Wk true A (fun _ => False) i ↔ ∀ j, i ≤ j → A j := by
  unfold Wk
  exact ⟨fun h => h.elim (fun ⟨j, _, h, _⟩ => h.elim) (fun h => h.2), fun h => .inr ⟨rfl, h⟩⟩
theorem bg_sem {P : Int} : ∀ n i, sem L (boundG P n) i ↔ UPc (At L P) (fun _ => False) true n i
  | 0, i => by
    rw [boundG, UPc, wk_no, always_sem]
    exact forall_congr' fun j => forall_congr' fun _ => sem4.trans (not_congr sem3)
  | n + 1, i => by
    rw [boundG, UPc, sem6, sem8, always_sem]
    unfold Wk
    refine or_congr (Til.congr (fun j => sem4.trans (not_congr sem3)) (fun j => ?_) i) ?_
    · rw [sem5, sem7, bg_sem n (j + 1)]
      exact ⟨fun x => .inr ⟨⟨sem3.1 x.1, id⟩, x.2⟩, fun x => x.elim False.elim (fun y => ⟨sem3.2 y.1.1, y.2⟩)⟩
    · simp only [true_and]
      exact forall_congr' fun j => forall_congr' fun _ => sem4.trans (not_congr sem3)
theorem global_sem {k P S : Int} {n : Nat} : sem L (globalF k P S n) i ↔ UP k (At L P) (At L S) (fun _ => False) true n i := by
  unfold globalF UP
  split
  · rw [wk_no, always_sem]; exact forall_congr' fun j => forall_congr' fun _ => sem3
  · split
    · rw [sem10]; exact Til.congr (fun j => ⟨fun _ => id, fun _ => trivial⟩) (fun j => andF sem3) i
    · split
      · rw [sem6, sem8, always_sem]
        unfold Wk
        refine or_congr (Til.congr (fun j => sem4.trans (not_congr sem3)) (fun j => orF sem3) i) ?_
        simp only [true_and]
        exact forall_congr' fun j => forall_congr' fun _ => sem4.trans (not_congr sem3)
      · split
        · rw [wk_no, always_sem]
          refine forall_congr' fun j => forall_congr' fun _ => ?_
          rw [sem6, sem4, sem3, sem10]
          exact or_congr Iff.rfl (Til.congr (fun j => ⟨fun _ => id, fun _ => trivial⟩) (fun j => andF sem3) j)
        · split
          · exact bg_sem n i
          · rw [wk_no, always_sem]; exact forall_congr' fun j => forall_congr' fun _ => sem4.trans (not_congr sem3)
end

/- WHAT A SPAN KEEPS TO -/
/-- more than n places from i on -/
def AL (P : Nat → Prop) : Nat → Nat → Prop
  | 0, i => ∃ j, i ≤ j ∧ P j
  | n + 1, i => ∃ j, i ≤ j ∧ P j ∧ AL P n (j + 1)
theorem AL.low {P : Nat → Prop} {n i i' : Nat} (h : AL P n i) (hi : i' ≤ i) : AL P n i' := by
  cases n with
  | zero => obtain ⟨j, h1, h2⟩ := h; exact ⟨j, by omega, h2⟩
  | succ n => obtain ⟨j, h1, h2⟩ := h; exact ⟨j, by omega, h2⟩
theorem AL.some {P : Nat → Prop} {n i : Nat} (h : AL P n i) : ∃ j, i ≤ j ∧ P j := by
  cases n with
  | zero => exact h
  | succ n => obtain ⟨j, h1, h2, _⟩ := h; exact ⟨j, h1, h2⟩
theorem AL.congr {P Q : Nat → Prop} (h : ∀ j, P j ↔ Q j) : ∀ n i, AL P n i ↔ AL Q n i
  | 0, i => exists_congr fun j => and_congr Iff.rfl (h j)
  | n + 1, i => exists_congr fun j => and_congr Iff.rfl (and_congr (h j) (AL.congr h n (j + 1)))
def Span (k : Int) (P S In : Nat → Prop) (n i : Nat) : Prop :=
  if k = 2 then ∀ j, i ≤ j → In j → P j
  else if k = 3 then ∃ j, i ≤ j ∧ In j ∧ P j
  else if k = 5 then ∀ j, i ≤ j → In j → P j → ∃ m, i ≤ m ∧ m ≤ j ∧ S m
  else if k = 6 then ∀ j, i ≤ j → In j → P j → ∃ m, j ≤ m ∧ In m ∧ S m
  else if k = 4 then ¬ AL (fun j => P j ∧ In j) n i
  else ∀ j, i ≤ j → In j → ¬ P j
theorem first_of {A : Nat → Prop} {i : Nat} (h : ∃ j, i ≤ j ∧ A j) : ∃ j, i ≤ j ∧ A j ∧ ∀ m, i ≤ m → m < j → ¬ A m := by
  obtain ⟨j, hj, ha⟩ := h
  obtain ⟨d, rfl⟩ := Nat.exists_eq_add_of_le hj
  clear hj
  induction d using Nat.strongRecOn with
  | _ d ih =>
    by_cases h : ∃ e, e < d ∧ A (i + e)
    · obtain ⟨e, he, ha⟩ := h
      exact ih e he ha
    · exact ⟨i + d, by omega, ha, fun m h1 h2 hm => h ⟨m - i, by omega, by rw [show i + (m - i) = m by omega]; exact hm⟩⟩
/-- a span that ends at the first R, or never -/
structure Ends (R In : Nat → Prop) (weak : Bool) (i : Nat) : Prop where
  no : ∀ j, i ≤ j → In j → ¬ R j
  out : (∃ t, i ≤ t ∧ R t ∧ ∀ j, In j ↔ j < t) ∨ (weak = true ∧ ∀ j, In j)
theorem Ends.next {R In : Nat → Prop} {weak : Bool} {i j : Nat} (h : Ends R In weak i) (hi : i ≤ j) (hj : In j) : Ends R In weak (j + 1) :=
  ⟨fun m hm => h.no m (by omega), h.out.imp (fun ⟨t, h1, h2, h3⟩ => ⟨t, (h3 j).1 hj, h2, h3⟩) id⟩
theorem Ends.down {R In : Nat → Prop} {weak : Bool} {i j m : Nat} (h : Ends R In weak i) (hj : In j) (hm : m ≤ j) : In m := by
  rcases h.out with ⟨t, _, _, h3⟩ | ⟨_, h⟩
  · exact (h3 m).2 (Nat.lt_of_le_of_lt hm ((h3 j).1 hj))
  · exact h m
/-- A all through the span -/
theorem wk_all {R In A : Nat → Prop} {weak : Bool} {i : Nat} (h : Ends R In weak i) : Wk weak A R i ↔ ∀ j, i ≤ j → In j → A j := by
  constructor
  · rintro (⟨t, h1, h2, h3⟩ | ⟨_, h3⟩) j hj hin
    · refine h3 j hj (Nat.lt_of_not_le fun hle => ?_)
      exact h.no t h1 (h.down hin hle) h2
    · exact h3 j hj
  · intro ha
    rcases h.out with ⟨t, h1, h2, h3⟩ | ⟨hw, hin⟩
    · exact .inl ⟨t, h1, h2, fun m hm hlt => ha m hm ((h3 m).2 hlt)⟩
    · exact .inr ⟨hw, fun j hj => ha j hj (hin j)⟩
/-- B within the span -/
theorem til_in {R In B : Nat → Prop} {weak : Bool} {i : Nat} (h : Ends R In weak i) : Til (fun j => ¬ R j) (fun j => B j ∧ ¬ R j) i ↔ ∃ j, i ≤ j ∧ In j ∧ B j := by
  constructor
  · rintro ⟨j, h1, ⟨h2, h3⟩, h4⟩
    refine ⟨j, h1, ?_, h2⟩
    rcases h.out with ⟨t, k1, k2, k3⟩ | ⟨_, hin⟩
    · refine (k3 j).2 (Nat.lt_of_not_le fun hle => ?_)
      by_cases he : t = j
      · subst he; exact h3 k2
      · exact h4 t k1 (by omega) k2
    · exact hin j
  · rintro ⟨j, h1, h2, h3⟩
    exact ⟨j, h1, ⟨h3, h.no j h1 h2⟩, fun m hm hlt => h.no m hm (h.down h2 (by omega))⟩
theorem upc_span {P R In : Nat → Prop} {weak : Bool} : ∀ n i, Ends R In weak i → (UPc P R weak n i ↔ ¬ AL (fun j => P j ∧ In j) n i)
  | 0, i, h => by
    rw [UPc, wk_all h, AL]
    exact ⟨fun x ⟨j, h1, h2, h3⟩ => x j h1 h3 h2, fun x j h1 h2 h3 => x ⟨j, h1, h3, h2⟩⟩
  | n + 1, i, h => by
    rw [UPc]
    constructor
    · rintro (⟨t, h1, h2, h3⟩ | ⟨_, h3⟩) hal
      · obtain ⟨j, k1, ⟨k2, k3⟩, k4⟩ := hal
        have htj : t ≤ j := Nat.le_of_not_lt fun hlt => h3 j k1 hlt k2
        have hin : In t := h.down k3 htj
        rcases h2 with h2 | ⟨_, h2⟩
        · exact h.no t h1 hin h2
        · exact (upc_span n (t + 1) (h.next h1 hin)).1 h2 (k4.low (by omega))
      · obtain ⟨j, k1, k2⟩ := hal.some
        exact h3 j k1 k2.1
    · intro hal
      by_cases hex : ∃ j, i ≤ j ∧ (P j ∧ In j)
      · obtain ⟨j, h1, h2, h3⟩ := first_of hex
        refine .inl ⟨j, h1, .inr ⟨⟨h2.1, h.no j h1 h2.2⟩, (upc_span n (j + 1) (h.next h1 h2.2)).2 fun ha => hal ⟨j, h1, h2, ha⟩⟩, fun m hm hlt hp => h3 m hm hlt ⟨hp, h.down h2.2 (by omega)⟩⟩
      · have := (wk_all (A := fun j => ¬ P j) h).2 (fun j hj hin hp => hex ⟨j, hj, hp, hin⟩)
        rcases this with ⟨t, h1, h2, h3⟩ | hw
        · exact .inl ⟨t, h1, .inl h2, h3⟩
        · exact .inr hw
theorem up_span {k : Int} {P S R In : Nat → Prop} {weak : Bool} {n i : Nat} (h : Ends R In weak i) : UP k P S R weak n i ↔ Span k P S In n i := by
  unfold UP Span
  split
  · exact wk_all h
  · split
    · exact til_in h
    · split
      · constructor
        · rintro (⟨t, h1, h2, h3⟩ | ⟨_, h3⟩) j hj hin hp
          · have htj : t ≤ j := Nat.le_of_not_lt fun hlt => h3 j hj hlt hp
            exact ⟨t, h1, htj, h2.resolve_right (h.no t h1 (h.down hin htj))⟩
          · exact absurd hp (h3 j hj)
        · intro ha
          by_cases hex : ∃ j, i ≤ j ∧ (S j ∧ In j)
          · obtain ⟨j, h1, h2, h3⟩ := first_of hex
            refine .inl ⟨j, h1, .inl h2.1, fun m hm hlt hp => ?_⟩
            have hin := h.down h2.2 (Nat.le_of_lt hlt)
            obtain ⟨x, x1, x2, x3⟩ := ha m hm hin hp
            exact h3 x x1 (by omega) ⟨x3, h.down hin x2⟩
          · have := (wk_all (A := fun j => ¬ P j) h).2 (fun j hj hin hp => by
              obtain ⟨x, x1, x2, x3⟩ := ha j hj hin hp
              exact hex ⟨x, x1, x3, h.down hin x2⟩)
            rcases this with ⟨t, h1, h2, h3⟩ | hw
            · exact .inl ⟨t, h1, .inr h2, h3⟩
            · exact .inr hw
      · split
        · rw [wk_all h]
          refine forall_congr' fun j => forall_congr' fun hj => forall_congr' fun hin => ?_
          have hE : Ends R In weak j := ⟨fun m hm => h.no m (by omega), h.out.imp (fun ⟨t, h1, h2, h3⟩ => ⟨t, by have := (h3 j).1 hin; omega, h2, h3⟩) id⟩
          rw [til_in hE]
          exact ⟨fun x hp => (x.resolve_left (fun hn => hn hp)), fun x => (Classical.em (P j)).elim (fun hp => .inr (x hp)) .inl⟩
        · split
          · exact upc_span n i h
          · exact wk_all h
end Go.Proofs.Ythojdcbpglipeaa
