/-
  Package push, plain, second part: forms of what is pushed; plain; slim.
-/
import Derived.Test.YthojdcbpglipeaaPushPl
set_option linter.unusedVariables false
set_option linter.unusedSimpArgs false
namespace Go.Proofs.Ythojdcbpglipeaa
open Go.RowKit

/- FORMS -/
mutual
def shapedB : Ltl → Bool
  | .mk k _ kids => !(k == 4 && !((kids.getD 0 (.mk 0 0 [])).k == 3)) && shapedBs kids
def shapedBs : List Ltl → Bool
  | [] => true
  | x :: r => shapedB x && shapedBs r
end
theorem nots_shaped : ∀ t, wfT t → shapedB (notsL t false) = true ∧ shapedB (notsL t true) = true := by
  refine wf_ind ?_ ?_ ?_ ?_ ?_
  · constructor <;> simp [notsL, notsLs, otherK, shapedB, shapedBs]
  · constructor <;> simp [notsL, notsLs, otherK, shapedB, shapedBs]
  · intro n _ _
    constructor <;> simp [notsL, notsLs, otherK, shapedB, shapedBs, Ltl.k]
  · rintro k a (rfl | rfl | rfl | rfl) _ ⟨h1, h2⟩ <;> constructor <;> simp [notsL, notsLs, otherK, shapedB, shapedBs, h1, h2]
  · rintro k a b (rfl | rfl | rfl | rfl) _ _ ⟨h1, h2⟩ ⟨h3, h4⟩ <;> constructor <;> simp [notsL, notsLs, otherK, shapedB, shapedBs, h1, h2, h3, h4]
theorem nots_fix : ∀ t, wfT t → shapedB t = true → notsL t false = t := by
  refine wf_ind ?_ ?_ ?_ ?_ ?_
  · intro _; simp [notsL, notsLs]
  · intro _; simp [notsL, notsLs]
  · intro n _ _ _; simp [notsL, notsLs]
  · rintro k a (rfl | rfl | rfl | rfl) hw ih h
    · simp [shapedB, shapedBs] at h
      obtain ⟨ka, na, kids⟩ := a
      have hk : ka = 3 := h.1
      subst hk
      simp only [wfT, kidsK] at hw
      have : kids = [] := List.eq_nil_of_length_eq_zero (by have := hw.1; simp at this; omega)
      subst this
      simp [notsL, notsLs]
    · simp [shapedB, shapedBs] at h; simp [notsL, notsLs, ih h]
    · simp [shapedB, shapedBs] at h; simp [notsL, notsLs, ih h]
    · simp [shapedB, shapedBs] at h; simp [notsL, notsLs, ih h]
  · rintro k a b (rfl | rfl | rfl | rfl) _ _ ih1 ih2 h <;> (simp [shapedB, shapedBs] at h; simp [notsL, notsLs, ih1 h.1, ih2 h.2])

/- PLAIN -/
mutual
def plainL : Ltl → Ltl
  | .mk k n kids => if k = 10 then .mk 8 0 [.mk 1 0 [], (plainLs kids).getD 0 (.mk 0 0 [])] else if k = 11 then .mk 9 0 [.mk 2 0 [], (plainLs kids).getD 0 (.mk 0 0 [])] else .mk k n (plainLs kids)
def plainLs : List Ltl → List Ltl
  | [] => []
  | x :: r => plainL x :: plainLs r
end
theorem plainLs_map : ∀ l, plainLs l = l.map plainL
  | [] => rfl
  | x :: r => by simp [plainLs, plainLs_map r]
mutual
def hasB : Ltl → Int → Bool
  | .mk k _ kids, q => k == q || hasBs kids q
def hasBs : List Ltl → Int → Bool
  | [], _ => false
  | x :: r, q => hasB x q || hasBs r q
end
theorem plain_has : ∀ t, wfT t → hasB (plainL t) 10 = false ∧ hasB (plainL t) 11 = false := by
  refine wf_ind ?_ ?_ ?_ ?_ ?_
  · constructor <;> simp [plainL, plainLs, hasB, hasBs]
  · constructor <;> simp [plainL, plainLs, hasB, hasBs]
  · intro n _ _
    constructor <;> simp [plainL, plainLs, hasB, hasBs]
  · rintro k a (rfl | rfl | rfl | rfl) _ ⟨h1, h2⟩ <;> constructor <;> simp [plainL, plainLs, hasB, hasBs, h1, h2]
  · rintro k a b (rfl | rfl | rfl | rfl) _ _ ⟨h1, h2⟩ ⟨h3, h4⟩ <;> constructor <;> simp [plainL, plainLs, hasB, hasBs, h1, h2, h3, h4]
theorem plain_sem {L : Nat → Nat} : ∀ t, wfT t → ∀ i, sem L (plainL t) i ↔ sem L t i := by
  refine wf_ind ?_ ?_ ?_ ?_ ?_
  · intro i; simp [plainL, plainLs]
  · intro i; simp [plainL, plainLs]
  · intro n _ _ i; simp [plainL, plainLs]
  · rintro k a (rfl | rfl | rfl | rfl) _ h i
    · simp [plainL, plainLs, sem4, h]
    · simp [plainL, plainLs, sem7, h]
    · simp [plainL, plainLs, sem8, sem10]; exact Til.congr (fun _ => by simp [sem1]) h i
    · simp [plainL, plainLs, sem9, sem11]; exact not_congr (Til.congr (fun _ => by simp [sem2]) (fun j => not_congr (h j)) i)
  · rintro k a b (rfl | rfl | rfl | rfl) _ _ h1 h2 i
    · simp [plainL, plainLs, sem5, h1, h2]
    · simp [plainL, plainLs, sem6, h1, h2]
    · simp [plainL, plainLs, sem8]; exact Til.congr h1 h2 i
    · simp [plainL, plainLs, sem9]; exact not_congr (Til.congr (fun j => not_congr (h1 j)) (fun j => not_congr (h2 j)) i)

/- SLIM -/
def truthB (t : Ltl) : Bool := t.k == 1 || t.k == 2
def singleL (k : Int) (a : Ltl) : Ltl :=
  if k = 4 ∧ truthB a = true then .mk (otherK a.k) 0 []
  else if k = 4 ∧ a.k = 4 then a.kids.getD 0 (.mk 0 0 [])
  else if (k ≠ 4 ∧ truthB a = true) ∨ (k ≠ 7 ∧ k ≠ 4 ∧ a.k = k) then a
  else .mk k 0 [a]
def bothL (k zero : Int) (a b : Ltl) : Ltl :=
  if a.k = zero ∨ b.k = zero then .mk zero 0 [] else if a.k = otherK zero then b else if b.k = otherK zero ∨ sameB a b = true then a else .mk k 0 [a, b]
def wayL (k none : Int) (a b : Ltl) : Ltl :=
  if truthB b = true ∨ a.k = none ∨ sameB a b = true then b else if truthB a = true ∧ k = 8 then singleL 10 b else if truthB a = true then singleL 11 b else .mk k 0 [a, b]
def slimK (k n : Int) (ks : List Ltl) : Ltl :=
  if k = 5 then bothL 5 2 (ks.getD 0 (.mk 0 0 [])) (ks.getD 1 (.mk 0 0 []))
  else if k = 6 then bothL 6 1 (ks.getD 0 (.mk 0 0 [])) (ks.getD 1 (.mk 0 0 []))
  else if k = 8 then wayL 8 2 (ks.getD 0 (.mk 0 0 [])) (ks.getD 1 (.mk 0 0 []))
  else if k = 9 then wayL 9 1 (ks.getD 0 (.mk 0 0 [])) (ks.getD 1 (.mk 0 0 []))
  else if k = 4 ∨ k = 7 ∨ k = 10 ∨ k = 11 then singleL k (ks.getD 0 (.mk 0 0 []))
  else .mk k n []
mutual
def slimL : Ltl → Ltl
  | .mk k n kids => slimK k n (slimLs kids)
def slimLs : List Ltl → List Ltl
  | [] => []
  | x :: r => slimL x :: slimLs r
end
theorem slimLs_map : ∀ l, slimLs l = l.map slimL
  | [] => rfl
  | x :: r => by simp [slimLs, slimLs_map r]
theorem slim_one {k : Int} {a : Ltl} (hk : k = 4 ∨ k = 7 ∨ k = 10 ∨ k = 11) : slimL (.mk k 0 [a]) = singleL k (slimL a) := by
  rcases hk with rfl | rfl | rfl | rfl <;> simp [slimL, slimLs, slimK]
theorem slim_two {k : Int} {a b : Ltl} : slimL (.mk 5 0 [a, b]) = bothL 5 2 (slimL a) (slimL b) ∧ slimL (.mk 6 0 [a, b]) = bothL 6 1 (slimL a) (slimL b) ∧ slimL (.mk 8 0 [a, b]) = wayL 8 2 (slimL a) (slimL b) ∧ slimL (.mk 9 0 [a, b]) = wayL 9 1 (slimL a) (slimL b) := by
  refine ⟨?_, ?_, ?_, ?_⟩ <;> simp [slimL, slimLs, slimK]

/-- what a right formula of a kind looks like -/
theorem wf_k1 {t : Ltl} (h : wfT t) (hk : t.k = 1) : t = .mk 1 0 [] := by
  obtain ⟨k, n, kids⟩ := t
  have : k = 1 := hk
  subst this
  simp only [wfT, kidsK] at h
  have h1 : kids = [] := List.eq_nil_of_length_eq_zero (by have := h.1; simp at this; omega)
  rw [h1, h.2.2.2.1 (by decide)]
theorem wf_k2 {t : Ltl} (h : wfT t) (hk : t.k = 2) : t = .mk 2 0 [] := by
  obtain ⟨k, n, kids⟩ := t
  have : k = 2 := hk
  subst this
  simp only [wfT, kidsK] at h
  have h1 : kids = [] := List.eq_nil_of_length_eq_zero (by have := h.1; simp at this; omega)
  rw [h1, h.2.2.2.1 (by decide)]
theorem wf_ku {t : Ltl} {k : Int} (hk0 : k = 4 ∨ k = 7 ∨ k = 10 ∨ k = 11) (h : wfT t) (hk : t.k = k) : ∃ a, t = .mk k 0 [a] ∧ wfT a := by
  obtain ⟨k', n, kids⟩ := t
  have : k' = k := hk
  subst this
  simp only [wfT] at h
  have h2 : kidsK k' = 1 := by unfold kidsK; rw [if_neg (by omega), if_pos hk0]
  match kids, h with
  | [], h => have := h.1; rw [h2] at this; simp at this
  | [a], h => rw [h.2.2.2.1 (by omega)]; exact ⟨a, rfl, h.2.2.2.2.1⟩
  | _ :: _ :: _, h => have := h.1; rw [h2] at this; simp at this; omega

section
variable {L : Nat → Nat}
theorem truthB_sem {t : Ltl} (h : wfT t) (ht : truthB t = true) : t = .mk 1 0 [] ∨ t = .mk 2 0 [] := by
  simp only [truthB, Bool.or_eq_true, beq_iff_eq] at ht
  exact ht.elim (fun h1 => .inl (wf_k1 h h1)) (fun h1 => .inr (wf_k2 h h1))
theorem Til.tt {A : Nat → Prop} {i : Nat} (h : ∀ j, i ≤ j → A j) : Til (fun _ => True) A i := ⟨i, Nat.le_refl _, h i (Nat.le_refl _), fun _ _ _ => trivial⟩
theorem Til.ff {A B : Nat → Prop} {i : Nat} (h : ∀ j, i ≤ j → ¬ B j) : ¬ Til A B i := fun ⟨j, hj, hb, _⟩ => h j hj hb
theorem Til.here {A B : Nat → Prop} {i : Nat} (h : B i) : Til A B i := ⟨i, Nat.le_refl _, h, fun m h1 h2 => by omega⟩
theorem single_sem {k : Int} {a : Ltl} (hk : k = 4 ∨ k = 7 ∨ k = 10 ∨ k = 11) (ha : wfT a) (i : Nat) : sem L (singleL k a) i ↔ sem L (.mk k 0 [a]) i := by
  unfold singleL
  split
  · rename_i h
    obtain ⟨rfl, h⟩ := h
    rcases truthB_sem ha h with rfl | rfl
    · simp [otherK, Ltl.k, sem4, sem1, sem2]
    · simp [otherK, Ltl.k, sem4, sem1, sem2]
  · split
    · rename_i h
      obtain ⟨rfl, h⟩ := h
      obtain ⟨b, rfl, _⟩ := wf_ku (.inl rfl) ha h
      simp [Ltl.kids, sem4]
    · split
      · rename_i h
        rcases h with ⟨h1, h2⟩ | ⟨h1, h2, h3⟩
        · rcases truthB_sem ha h2 with rfl | rfl
          · rcases hk with rfl | rfl | rfl | rfl
            · exact absurd rfl h1
            · simp [sem7, sem1]
            · simp only [sem10, sem1, iff_true, true_iff]; exact Til.here trivial
            · exact ⟨fun _ => by rw [sem11]; exact Til.ff (fun j _ h => h (sem1.2 trivial)), fun _ => by rw [sem1]; trivial⟩
          · rcases hk with rfl | rfl | rfl | rfl
            · exact absurd rfl h1
            · simp [sem7, sem2]
            · exact ⟨fun h => (sem2.1 h).elim, fun h => (Til.ff (fun j _ h => sem2.1 h) (sem10.1 h)).elim⟩
            · simp only [sem11, sem2, iff_false, false_iff, Classical.not_not]; exact Til.here (by simp)
        · rcases hk with rfl | rfl | rfl | rfl
          · exact absurd rfl h2
          · exact absurd rfl h1
          · obtain ⟨b, rfl, _⟩ := wf_ku (by omega) ha h3
            rw [sem10, sem10]
            constructor
            · exact fun h => Til.here (by rw [sem10]; exact h)
            · rintro ⟨j, hj, hb, _⟩
              rw [sem10] at hb
              obtain ⟨j', hj', hb', _⟩ := hb
              exact ⟨j', by omega, hb', fun _ _ _ => trivial⟩
          · obtain ⟨b, rfl, _⟩ := wf_ku (by omega) ha h3
            rw [sem11, sem11]
            refine not_congr ⟨?_, ?_⟩
            · exact fun h => Til.here (by rw [sem11, Classical.not_not]; exact h)
            · rintro ⟨j, hj, hb, _⟩
              rw [sem11, Classical.not_not] at hb
              obtain ⟨j', hj', hb', _⟩ := hb
              exact ⟨j', by omega, hb', fun _ _ _ => trivial⟩
      · exact Iff.rfl
theorem and_sem {a b : Ltl} (ha : wfT a) (hb : wfT b) (i : Nat) : sem L (bothL 5 2 a b) i ↔ sem L (.mk 5 0 [a, b]) i := by
  unfold bothL
  rw [sem5]
  split
  · rename_i h
    rcases h with h | h
    · rw [wf_k2 ha h]; simp [sem2]
    · rw [wf_k2 hb h]; simp [sem2]
  · split
    · rename_i h; rw [wf_k1 ha h]; simp [sem1]
    · split
      · rename_i h
        rcases h with h | h
        · rw [wf_k1 hb h]; simp [sem1]
        · rw [(sameB_iff a b).1 h]; simp
      · rw [sem5]
theorem or_sem {a b : Ltl} (ha : wfT a) (hb : wfT b) (i : Nat) : sem L (bothL 6 1 a b) i ↔ sem L (.mk 6 0 [a, b]) i := by
  unfold bothL
  rw [sem6]
  split
  · rename_i h
    rcases h with h | h
    · rw [wf_k1 ha h]; simp [sem1]
    · rw [wf_k1 hb h]; simp [sem1]
  · split
    · rename_i h; rw [wf_k2 ha h]; simp [sem2]
    · split
      · rename_i h
        rcases h with h | h
        · rw [wf_k2 hb h]; simp [sem2]
        · rw [(sameB_iff a b).1 h]; simp
      · rw [sem6]
theorem Til.self {A : Nat → Prop} {i : Nat} : Til A A i ↔ A i := by
  rw [Til.step]
  constructor
  · rintro (h | ⟨h, _⟩) <;> exact h
  · exact .inl
theorem until_sem {a b : Ltl} (ha : wfT a) (hb : wfT b) (i : Nat) : sem L (wayL 8 2 a b) i ↔ sem L (.mk 8 0 [a, b]) i := by
  unfold wayL
  split
  · rename_i h
    rw [sem8]
    rcases h with h | h | h
    · rcases truthB_sem hb h with rfl | rfl
      · exact ⟨fun _ => Til.here (sem1.2 trivial), fun _ => sem1.2 trivial⟩
      · exact ⟨fun h => (sem2.1 h).elim, fun h => (Til.ff (fun j _ h => sem2.1 h) h).elim⟩
    · rw [wf_k2 ha h, Til.step]; simp [sem2]
    · rw [(sameB_iff a b).1 h, Til.self]
  · rename_i h
    split
    · rename_i h1
      rcases truthB_sem ha h1.1 with rfl | rfl
      · rw [single_sem (by omega) hb, sem10, sem8]; exact Til.congr (fun _ => by simp [sem1]) (fun _ => Iff.rfl) i
      · exact absurd (.inr (.inl rfl)) h
    · split
      · rename_i h1 h2; exact absurd ⟨h2, rfl⟩ h1
      · exact Iff.rfl
theorem release_sem {a b : Ltl} (ha : wfT a) (hb : wfT b) (i : Nat) : sem L (wayL 9 1 a b) i ↔ sem L (.mk 9 0 [a, b]) i := by
  unfold wayL
  split
  · rename_i h
    rw [sem9]
    rcases h with h | h | h
    · rcases truthB_sem hb h with rfl | rfl
      · exact ⟨fun _ => Til.ff (fun j _ h => h (sem1.2 trivial)), fun _ => by rw [sem1]; trivial⟩
      · exact ⟨fun h => by rw [sem2] at h; exact h.elim, fun h => (h (Til.here (fun h => sem2.1 h))).elim⟩
    · rw [wf_k1 ha h, Til.step]; simp [sem1]
    · rw [(sameB_iff a b).1 h, Til.self, Classical.not_not]
  · rename_i h
    split
    · rename_i h1; exact absurd h1.2 (by decide)
    · split
      · rename_i h1 h2
        rcases truthB_sem ha h2 with rfl | rfl
        · exact absurd (.inr (.inl rfl)) h
        · rw [single_sem (by omega) hb, sem11, sem9]; exact not_congr (Til.congr (fun _ => by simp [sem2]) (fun _ => Iff.rfl) i)
      · exact Iff.rfl
end
/- slim is right, no larger, no deeper -/
structure Slm (a t : Ltl) : Prop where
  wf : wfT a
  nodes : a.nodes ≤ t.nodes
  deep : a.deep ≤ t.deep
theorem nodes1 {k n : Int} {a : Ltl} : (Ltl.mk k n [a]).nodes = 1 + a.nodes ∧ (Ltl.mk k n [a]).deep = 1 + a.deep := by simp [Ltl.nodes, Ltl.nodesL, Ltl.deep, Ltl.deepL]
theorem nodes2 {k n : Int} {a b : Ltl} : (Ltl.mk k n [a, b]).nodes = 1 + (a.nodes + b.nodes) ∧ (Ltl.mk k n [a, b]).deep = 1 + max a.deep b.deep := by simp [Ltl.nodes, Ltl.nodesL, Ltl.deep, Ltl.deepL]
theorem nodes0 {k n : Int} : (Ltl.mk k n []).nodes = 1 ∧ (Ltl.mk k n []).deep = 1 := by simp [Ltl.nodes, Ltl.nodesL, Ltl.deep, Ltl.deepL]
theorem leaf_slm {k : Int} (hk : k = 1 ∨ k = 2) (t : Ltl) : Slm (.mk k 0 []) t := by
  refine ⟨?_, ?_, ?_⟩
  · rcases hk with rfl | rfl
    · exact wf_leaf1
    · exact wf_leaf2
  · have := t.nodes_pos; rw [nodes0.1]; omega
  · have := t.deep_pos; rw [nodes0.2]; omega
theorem single_slm {k : Int} {a t : Ltl} (hk : k = 4 ∨ k = 7 ∨ k = 10 ∨ k = 11) (ha : Slm a t) (T : Ltl) (h1 : 1 + t.nodes ≤ T.nodes) (h2 : 1 + t.deep ≤ T.deep) : Slm (singleL k a) T := by
  unfold singleL
  have hn := ha.nodes
  have hd := ha.deep
  split
  · rename_i h
    rcases truthB_sem ha.wf h.2 with rfl | rfl
    · exact leaf_slm (by simp [otherK, Ltl.k]) T
    · exact leaf_slm (by simp [otherK, Ltl.k]) T
  · split
    · rename_i h
      obtain ⟨b, rfl, hb⟩ := wf_ku (.inl rfl) ha.wf h.2
      rw [nodes1.1] at hn
      rw [nodes1.2] at hd
      exact ⟨hb, by simp [Ltl.kids]; omega, by simp [Ltl.kids]; omega⟩
    · split
      · exact ⟨ha.wf, by omega, by omega⟩
      · exact ⟨wf_one hk ha.wf, by rw [nodes1.1]; omega, by rw [nodes1.2]; omega⟩
theorem both_slm {k zero : Int} {a b t u : Ltl} (hk : k = 5 ∧ zero = 2 ∨ k = 6 ∧ zero = 1) (ha : Slm a t) (hb : Slm b u) (T : Ltl) (h1 : 1 + (t.nodes + u.nodes) ≤ T.nodes) (h2 : 1 + max t.deep u.deep ≤ T.deep) : Slm (bothL k zero a b) T := by
  unfold bothL
  have hn := ha.nodes
  have hd := ha.deep
  have hn' := hb.nodes
  have hd' := hb.deep
  split
  · exact leaf_slm (by omega) T
  · split
    · exact ⟨hb.wf, by omega, by omega⟩
    · split
      · exact ⟨ha.wf, by omega, by omega⟩
      · exact ⟨wf_two (by omega) ha.wf hb.wf, by rw [nodes2.1]; omega, by rw [nodes2.2]; omega⟩
theorem way_slm {k none : Int} {a b t u : Ltl} (hk : k = 8 ∨ k = 9) (ha : Slm a t) (hb : Slm b u) (T : Ltl) (h1 : 1 + (t.nodes + u.nodes) ≤ T.nodes) (h2 : 1 + max t.deep u.deep ≤ T.deep) : Slm (wayL k none a b) T := by
  unfold wayL
  have hn := ha.nodes
  have hd := ha.deep
  have hn' := hb.nodes
  have hd' := hb.deep
  split
  · exact ⟨hb.wf, by omega, by omega⟩
  · split
    · exact single_slm (by omega) hb T (by omega) (by omega)
    · split
      · exact single_slm (by omega) hb T (by omega) (by omega)
      · exact ⟨wf_two (by omega) ha.wf hb.wf, by rw [nodes2.1]; omega, by rw [nodes2.2]; omega⟩
theorem slim_slm : ∀ t, wfT t → Slm (slimL t) t := by
  refine wf_ind ?_ ?_ ?_ ?_ ?_
  · exact ⟨by simp [slimL, slimLs, slimK]; exact wf_leaf1, by simp [slimL, slimLs, slimK], by simp [slimL, slimLs, slimK]⟩
  · exact ⟨by simp [slimL, slimLs, slimK]; exact wf_leaf2, by simp [slimL, slimLs, slimK], by simp [slimL, slimLs, slimK]⟩
  · exact fun n h0 h1 => ⟨by simp [slimL, slimLs, slimK]; exact wf_atom h0 h1, by simp [slimL, slimLs, slimK], by simp [slimL, slimLs, slimK]⟩
  · intro k a hk ha h
    rw [slim_one hk]
    exact single_slm hk h _ (by rw [nodes1.1]; omega) (by rw [nodes1.2]; omega)
  · rintro k a b (rfl | rfl | rfl | rfl) ha hb h1 h2
    · rw [(slim_two (k := 0)).1]; exact both_slm (.inl ⟨rfl, rfl⟩) h1 h2 _ (by rw [nodes2.1]; omega) (by rw [nodes2.2]; omega)
    · rw [(slim_two (k := 0)).2.1]; exact both_slm (.inr ⟨rfl, rfl⟩) h1 h2 _ (by rw [nodes2.1]; omega) (by rw [nodes2.2]; omega)
    · rw [(slim_two (k := 0)).2.2.1]; exact way_slm (.inl rfl) h1 h2 _ (by rw [nodes2.1]; omega) (by rw [nodes2.2]; omega)
    · rw [(slim_two (k := 0)).2.2.2]; exact way_slm (.inr rfl) h1 h2 _ (by rw [nodes2.1]; omega) (by rw [nodes2.2]; omega)
theorem slim_sem {L : Nat → Nat} : ∀ t, wfT t → ∀ i, sem L (slimL t) i ↔ sem L t i := by
  refine wf_ind ?_ ?_ ?_ ?_ ?_
  · intro i; simp [slimL, slimLs, slimK]
  · intro i; simp [slimL, slimLs, slimK]
  · intro n _ _ i; simp [slimL, slimLs, slimK]
  · intro k a hk ha h i
    rw [slim_one hk, single_sem hk (slim_slm a ha).wf]
    rcases hk with rfl | rfl | rfl | rfl
    · rw [sem4, sem4, h]
    · rw [sem7, sem7, h]
    · rw [sem10, sem10]; exact Til.congr (fun _ => Iff.rfl) h i
    · rw [sem11, sem11]; exact not_congr (Til.congr (fun _ => Iff.rfl) (fun j => not_congr (h j)) i)
  · rintro k a b (rfl | rfl | rfl | rfl) ha hb h1 h2 i
    · rw [(slim_two (k := 0)).1, and_sem (slim_slm a ha).wf (slim_slm b hb).wf, sem5, sem5, h1, h2]
    · rw [(slim_two (k := 0)).2.1, or_sem (slim_slm a ha).wf (slim_slm b hb).wf, sem6, sem6, h1, h2]
    · rw [(slim_two (k := 0)).2.2.1, until_sem (slim_slm a ha).wf (slim_slm b hb).wf, sem8, sem8]; exact Til.congr h1 h2 i
    · rw [(slim_two (k := 0)).2.2.2, release_sem (slim_slm a ha).wf (slim_slm b hb).wf, sem9, sem9]; exact not_congr (Til.congr (fun j => not_congr (h1 j)) (fun j => not_congr (h2 j)) i)

/- slim again is the same -/
mutual
def slimN : Ltl → Bool
  | .mk k n kids => slimNs kids &&
      (if k = 4 then !truthB (kids.getD 0 (.mk 0 0 [])) && !((kids.getD 0 (.mk 0 0 [])).k == 4)
       else if k = 7 then !truthB (kids.getD 0 (.mk 0 0 []))
       else if k = 10 ∨ k = 11 then !truthB (kids.getD 0 (.mk 0 0 [])) && !((kids.getD 0 (.mk 0 0 [])).k == k)
       else if k = 5 ∨ k = 6 then !truthB (kids.getD 0 (.mk 0 0 [])) && !truthB (kids.getD 1 (.mk 0 0 [])) && !sameB (kids.getD 0 (.mk 0 0 [])) (kids.getD 1 (.mk 0 0 []))
       else if k = 8 ∨ k = 9 then !truthB (kids.getD 0 (.mk 0 0 [])) && !truthB (kids.getD 1 (.mk 0 0 [])) && !sameB (kids.getD 0 (.mk 0 0 [])) (kids.getD 1 (.mk 0 0 []))
       else true)
def slimNs : List Ltl → Bool
  | [] => true
  | x :: r => slimN x && slimNs r
end
theorem truthB_not {t : Ltl} (h : truthB t = false) : t.k ≠ 1 ∧ t.k ≠ 2 := by
  simp only [truthB, Bool.or_eq_false_iff, beq_eq_false_iff_ne] at h; exact h
theorem slimN_fix : ∀ t, wfT t → slimN t = true → slimL t = t := by
  refine wf_ind ?_ ?_ ?_ ?_ ?_
  · intro _; simp [slimL, slimLs, slimK]
  · intro _; simp [slimL, slimLs, slimK]
  · intro n _ _ _; simp [slimL, slimLs, slimK]
  · intro k a hk ha ih h
    rw [slim_one hk]
    rcases hk with rfl | rfl | rfl | rfl
    · simp [slimN, slimNs] at h
      rw [ih h.1]; unfold singleL; simp [h]
    · simp [slimN, slimNs] at h
      rw [ih h.1]; unfold singleL; simp [h]
    · simp [slimN, slimNs] at h
      rw [ih h.1]; unfold singleL; simp [h]
    · simp [slimN, slimNs] at h
      rw [ih h.1]; unfold singleL; simp [h]
  · rintro k a b (rfl | rfl | rfl | rfl) ha hb h1 h2 h
    · simp [slimN, slimNs] at h
      have q1 := truthB_not h.2.1.1
      have q2 := truthB_not h.2.1.2
      rw [(slim_two (k := 0)).1, h1 h.1.1, h2 h.1.2]; unfold bothL; simp [h, q1, q2, otherK]
    · simp [slimN, slimNs] at h
      have q1 := truthB_not h.2.1.1
      have q2 := truthB_not h.2.1.2
      rw [(slim_two (k := 0)).2.1, h1 h.1.1, h2 h.1.2]; unfold bothL; simp [h, q1, q2, otherK]
    · simp [slimN, slimNs] at h
      have q1 := truthB_not h.2.1.1
      have q2 := truthB_not h.2.1.2
      rw [(slim_two (k := 0)).2.2.1, h1 h.1.1, h2 h.1.2]; unfold wayL; simp [h, q1, q2, otherK]
    · simp [slimN, slimNs] at h
      have q1 := truthB_not h.2.1.1
      have q2 := truthB_not h.2.1.2
      rw [(slim_two (k := 0)).2.2.2, h1 h.1.1, h2 h.1.2]; unfold wayL; simp [h, q1, q2, otherK]
theorem slimN_leaf {k : Int} (hk : k = 1 ∨ k = 2) : slimN (.mk k 0 []) = true := by
  rcases hk with rfl | rfl <;> simp [slimN, slimNs]
theorem single_N {k : Int} {a : Ltl} (hk : k = 4 ∨ k = 7 ∨ k = 10 ∨ k = 11) (ha : wfT a) (hn : slimN a = true) : slimN (singleL k a) = true := by
  unfold singleL
  split
  · rename_i h
    rcases truthB_sem ha h.2 with rfl | rfl
    · exact slimN_leaf (by simp [otherK, Ltl.k])
    · exact slimN_leaf (by simp [otherK, Ltl.k])
  · rename_i g1
    split
    · rename_i h
      obtain ⟨b, rfl, hb⟩ := wf_ku (.inl rfl) ha h.2
      simp [slimN, slimNs] at hn
      simpa [Ltl.kids] using hn.1
    · rename_i g2
      split
      · exact hn
      · rename_i g3
        rcases hk with rfl | rfl | rfl | rfl
        · simp at g1 g2; simp [slimN, slimNs, hn, g1, g2]
        · simp at g3; simp [slimN, slimNs, hn, g3]
        · simp at g3; simp [slimN, slimNs, hn, g3]
        · simp at g3; simp [slimN, slimNs, hn, g3]
theorem both_N {k zero : Int} {a b : Ltl} (hk : k = 5 ∧ zero = 2 ∨ k = 6 ∧ zero = 1) (ha : slimN a = true) (hb : slimN b = true) : slimN (bothL k zero a b) = true := by
  unfold bothL
  split
  · exact slimN_leaf (by omega)
  · rename_i g1
    split
    · exact hb
    · rename_i g2
      split
      · exact ha
      · rename_i g3
        rcases hk with ⟨rfl, rfl⟩ | ⟨rfl, rfl⟩
        · simp [otherK] at g1 g2 g3; simp [slimN, slimNs, ha, hb, truthB, g1, g2, g3]
        · simp [otherK] at g1 g2 g3; simp [slimN, slimNs, ha, hb, truthB, g1, g2, g3]
theorem way_N {k none : Int} {a b : Ltl} (hk : k = 8 ∧ none = 2 ∨ k = 9 ∧ none = 1) (hwb : wfT b) (ha : slimN a = true) (hb : slimN b = true) : slimN (wayL k none a b) = true := by
  unfold wayL
  split
  · exact hb
  · rename_i g1
    split
    · exact single_N (by omega) hwb hb
    · rename_i g2
      split
      · exact single_N (by omega) hwb hb
      · rename_i g3
        rcases hk with ⟨rfl, rfl⟩ | ⟨rfl, rfl⟩
        · simp at g1 g3; simp [slimN, slimNs, ha, hb, g1, g3]
        · simp at g1 g3; simp [slimN, slimNs, ha, hb, g1, g3]
theorem slim_N : ∀ t, wfT t → slimN (slimL t) = true := by
  refine wf_ind ?_ ?_ ?_ ?_ ?_
  · simp [slimL, slimLs, slimK, slimN, slimNs]
  · simp [slimL, slimLs, slimK, slimN, slimNs]
  · intro n _ _; simp [slimL, slimLs, slimK, slimN, slimNs]
  · intro k a hk ha h
    rw [slim_one hk]
    exact single_N hk (slim_slm a ha).wf h
  · rintro k a b (rfl | rfl | rfl | rfl) ha hb h1 h2
    · rw [(slim_two (k := 0)).1]; exact both_N (.inl ⟨rfl, rfl⟩) h1 h2
    · rw [(slim_two (k := 0)).2.1]; exact both_N (.inr ⟨rfl, rfl⟩) h1 h2
    · rw [(slim_two (k := 0)).2.2.1]; exact way_N (.inl ⟨rfl, rfl⟩) (slim_slm b hb).wf h1 h2
    · rw [(slim_two (k := 0)).2.2.2]; exact way_N (.inr ⟨rfl, rfl⟩) (slim_slm b hb).wf h1 h2
theorem slim_twice {t : Ltl} (h : wfT t) : slimL (slimL t) = slimL t := slimN_fix _ (slim_slm t h).wf (slim_N t h)
end Go.Proofs.Ythojdcbpglipeaa
