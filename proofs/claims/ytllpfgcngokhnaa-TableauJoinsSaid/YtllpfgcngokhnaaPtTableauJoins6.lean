import Derived.Test.YtllpfgcngokhnaaPtTableauJoins5
/-
  Package push, plain, second part: forms of what is pushed; plain; slim.
-/
set_option linter.unusedVariables false
set_option linter.unusedSimpArgs false
namespace Go.Proofs.Ytllpfgcngokhnaa
open Go.RowKit

/- FORMS -/
mutual
def shapedB : Ltl → Bool
  | .mk k _ kids => !(k == 4 && !((kids.getD 0 (.mk 0 0 [])).k == 3)) && shapedBs kids
def shapedBs : List Ltl → Bool
  | [] => true
  | x :: r => shapedB x && shapedBs r
end
theorem nots_shaped : ∀ t, wfT t → shapedB (notsL t false) = true ∧ shapedB (notsL t true) = true := by
  refine wf_ind ?_ ?_ ?_ ?_ ?_
  · constructor <;> simp [notsL, notsLs, otherK, shapedB, shapedBs]
  · constructor <;> simp [notsL, notsLs, otherK, shapedB, shapedBs]
  · intro n _ _
    constructor <;> simp [notsL, notsLs, otherK, shapedB, shapedBs, Ltl.k]
  · rintro k a (rfl | rfl | rfl | rfl) _ ⟨h1, h2⟩ <;> constructor <;> simp [notsL, notsLs, otherK, shapedB, shapedBs, h1, h2]
  · rintro k a b (rfl | rfl | rfl | rfl) _ _ ⟨h1, h2⟩ ⟨h3, h4⟩ <;> constructor <;> simp [notsL, notsLs, otherK, shapedB, shapedBs, h1, h2, h3, h4]
theorem nots_fix : ∀ t, wfT t → shapedB t = true → notsL t false = t := by
  refine wf_ind ?_ ?_ ?_ ?_ ?_
  · intro _; simp [notsL, notsLs]
  · intro _; simp [notsL, notsLs]
  · intro n _ _ _; simp [notsL, notsLs]
  · rintro k a (rfl | rfl | rfl | rfl) hw ih h
    · simp [shapedB, shapedBs] at h
      obtain ⟨ka, na, kids⟩ := a
      have hk : ka = 3 := h.1
      subst hk
      simp only [wfT, kidsK] at hw
      have : kids = [] := List.eq_nil_of_length_eq_zero (by have := hw.1; simp at this; omega)
      subst this
      simp [notsL, notsLs]
    · simp [shapedB, shapedBs] at h; simp [notsL, notsLs, ih h]
    · simp [shapedB, shapedBs] at h; simp [notsL, notsLs, ih h]
    · simp [shapedB, shapedBs] at h; simp [notsL, notsLs, ih h]
  · rintro k a b (rfl | rfl | rfl | rfl) _ _ ih1 ih2 h <;> (simp [shapedB, shapedBs] at h; simp [notsL, notsLs, ih1 h.1, ih2 h.2])

/- PLAIN -/
mutual
def plainL : Ltl → Ltl
  | .mk k n kids => if k = 10 then .mk 8 0 [.mk 1 0 [], (plainLs kids).getD 0 (.mk 0 0 [])] else if k = 11 then .mk 9 0 [.mk 2 0 [], (plainLs kids).getD 0 (.mk 0 0 [])] else .mk k n (plainLs kids)
def plainLs : List Ltl → List Ltl
  | [] => []
  | x :: r => plainL x :: plainLs r
end
theorem plainLs_map : ∀ l, plainLs l = l.map plainL
  | [] => rfl
  | x :: r => by simp [plainLs, plainLs_map r]
mutual
def hasB : Ltl → Int → Bool
  | .mk k _ kids, q => k == q || hasBs kids q
def hasBs : List Ltl → Int → Bool
  | [], _ => false
  | x :: r, q => hasB x q || hasBs r q
end
theorem plain_has : ∀ t, wfT t → hasB (plainL t) 10 = false ∧ hasB (plainL t) 11 = false := by
  refine wf_ind ?_ ?_ ?_ ?_ ?_
  · constructor <;> simp [plainL, plainLs, hasB, hasBs]
  · constructor <;> simp [plainL, plainLs, hasB, hasBs]
  · intro n _ _
    constructor <;> simp [plainL, plainLs, hasB, hasBs]
  · rintro k a (rfl | rfl | rfl | rfl) _ ⟨h1, h2⟩ <;> constructor <;> simp [plainL, plainLs, hasB, hasBs, h1, h2]
  · rintro k a b (rfl | rfl | rfl | rfl) _ _ ⟨h1, h2⟩ ⟨h3, h4⟩ <;> constructor <;> simp [plainL, plainLs, hasB, hasBs, h1, h2, h3, h4]
theorem plain_sem {L : Nat → Nat} : ∀ t, wfT t → ∀ i, sem L (plainL t) i ↔ sem L t i := by
  refine wf_ind ?_ ?_ ?_ ?_ ?_
  · intro i; simp [plainL, plainLs]
  · intro i; simp [plainL, plainLs]
  · intro n _ _ i; simp [plainL, plainLs]
  · rintro k a (rfl | rfl | rfl | rfl) _ h i
    · simp [plainL, plainLs, sem4, h]
    · simp [plainL, plainLs, sem7, h]
    · simp [plainL, plainLs, sem8, sem10]; exact Til.congr (fun _ => by simp [sem1]) h i
    · simp [plainL, plainLs, sem9, sem11]; exact not_congr (Til.congr (fun _ => by simp [sem2]) (fun j => not_congr (h j)) i)
  · rintro k a b (rfl | rfl | rfl | rfl) _ _ h1 h2 i
    · simp [plainL, plainLs, sem5, h1, h2]
    · simp [plainL, plainLs, sem6, h1, h2]
    · simp [plainL, plainLs, sem8]; exact Til.congr h1 h2 i
    · simp [plainL, plainLs, sem9]; exact not_congr (Til.congr (fun j => not_congr (h1 j)) (fun j => not_congr (h2 j)) i)

/- SLIM -/
def truthB (t : Ltl) : Bool := t.k == 1 || t.k == 2
def singleL (k : Int) (a : Ltl) : Ltl :=
  if k = 4 ∧ truthB a = true then .mk (otherK a.k) 0 []
  else if k = 4 ∧ a.k = 4 then a.kids.getD 0 (.mk 0 0 [])
  else if (k ≠ 4 ∧ truthB a = true) ∨ (k ≠ 7 ∧ k ≠ 4 ∧ a.k = k) then a
  else .mk k 0 [a]
def twoPL (k zero : Int) (a b : Ltl) : Ltl :=
  if a.k = zero ∨ b.k = zero then .mk zero 0 [] else if a.k = otherK zero then b else if b.k = otherK zero ∨ sameB a b = true then a else .mk k 0 [a, b]
def wayL (k none : Int) (a b : Ltl) : Ltl :=
  if truthB b = true ∨ a.k = none ∨ sameB a b = true then b else if truthB a = true ∧ k = 8 then singleL 10 b else if truthB a = true then singleL 11 b else .mk k 0 [a, b]
def slimK (k n : Int) (ks : List Ltl) : Ltl :=
  if k = 5 then twoPL 5 2 (ks.getD 0 (.mk 0 0 [])) (ks.getD 1 (.mk 0 0 []))
  else if k = 6 then twoPL 6 1 (ks.getD 0 (.mk 0 0 [])) (ks.getD 1 (.mk 0 0 []))
  else if k = 8 then wayL 8 2 (ks.getD 0 (.mk 0 0 [])) (ks.getD 1 (.mk 0 0 []))
  else if k = 9 then wayL 9 1 (ks.getD 0 (.mk 0 0 [])) (ks.getD 1 (.mk 0 0 []))
  else if k = 4 ∨ k = 7 ∨ k = 10 ∨ k = 11 then singleL k (ks.getD 0 (.mk 0 0 []))
  else .mk k n []
mutual
def slimL : Ltl → Ltl
  | .mk k n kids => slimK k n (slimLs kids)
def slimLs : List Ltl → List Ltl
  | [] => []
  | x :: r => slimL x :: slimLs r
end
theorem slimLs_map : ∀ l, slimLs l = l.map slimL
  | [] => rfl
  | x :: r => by simp [slimLs, slimLs_map r]
theorem slim_one {k : Int} {a : Ltl} (hk : k = 4 ∨ k = 7 ∨ k = 10 ∨ k = 11) : slimL (.mk k 0 [a]) = singleL k (slimL a) := by
  rcases hk with rfl | rfl | rfl | rfl <;> simp [slimL, slimLs, slimK]
theorem slim_two {k : Int} {a b : Ltl} : slimL (.mk 5 0 [a, b]) = twoPL 5 2 (slimL a) (slimL b) ∧ slimL (.mk 6 0 [a, b]) = twoPL 6 1 (slimL a) (slimL b) ∧ slimL (.mk 8 0 [a, b]) = wayL 8 2 (slimL a) (slimL b) ∧ slimL (.mk 9 0 [a, b]) = wayL 9 1 (slimL a) (slimL b) := by
  refine ⟨?_, ?_, ?_, ?_⟩ <;> simp [slimL, slimLs, slimK]

/-- what a right formula of a kind looks like -/
theorem wf_k1 {t : Ltl} (h : wfT t) (hk : t.k = 1) : t = .mk 1 0 [] := by
  obtain ⟨k, n, kids⟩ := t
  have : k = 1 := hk
  subst this
  simp only [wfT, kidsK] at h
  have h1 : kids = [] := List.eq_nil_of_length_eq_zero (by have := h.1; simp at this; omega)
  rw [h1, h.2.2.2.1 (by decide)]
theorem wf_k2 {t : Ltl} (h : wfT t) (hk : t.k = 2) : t = .mk 2 0 [] := by
  obtain ⟨k, n, kids⟩ := t
  have : k = 2 := hk
  subst this
  simp only [wfT, kidsK] at h
  have h1 : kids = [] := List.eq_nil_of_length_eq_zero (by have := h.1; simp at this; omega)
  rw [h1, h.2.2.2.1 (by decide)]
theorem wf_ku {t : Ltl} {k : Int} (hk0 : k = 4 ∨ k = 7 ∨ k = 10 ∨ k = 11) (h : wfT t) (hk : t.k = k) : ∃ a, t = .mk k 0 [a] ∧ wfT a := by
  obtain ⟨k', n, kids⟩ := t
  have : k' = k := hk
  subst this
  simp only [wfT] at h
  have h2 : kidsK k' = 1 := by unfold kidsK; rw [if_neg (by omega), if_pos hk0]
  match kids, h with
  | [], h => have := h.1; rw [h2] at this; simp at this
  | [a], h => rw [h.2.2.2.1 (by omega)]; exact ⟨a, rfl, h.2.2.2.2.1⟩
  | _ :: _ :: _, h => have := h.1; rw [h2] at this; simp at this; omega

section
variable {L : Nat → Nat}
theorem truthB_sem {t : Ltl} (h : wfT t) (ht : truthB t = true) : t = .mk 1 0 [] ∨ t = .mk 2 0 [] := by
  simp only [truthB, Bool.or_eq_true, beq_iff_eq] at ht
  exact ht.elim (fun h1 => .inl (wf_k1 h h1)) (fun h1 => .inr (wf_k2 h h1))
theorem Til.tt {A : Nat → Prop} {i : Nat} (h : ∀ j, i ≤ j → A j) : Til (fun _ => True) A i := ⟨i, Nat.le_refl _, h i (Nat.le_refl _), fun _ _ _ => trivial⟩
theorem Til.ff {A B : Nat → Prop} {i : Nat} (h : ∀ j, i ≤ j → ¬ B j) : ¬ Til A B i := fun ⟨j, hj, hb, _⟩ => h j hj hb
theorem Til.here {A B : Nat → Prop} {i : Nat} (h : B i) : Til A B i := ⟨i, Nat.le_refl _, h, fun m h1 h2 => by omega⟩
theorem single_sem {k : Int} {a : Ltl} (hk : k = 4 ∨ k = 7 ∨ k = 10 ∨ k = 11) (ha : wfT a) (i : Nat) : sem L (singleL k a) i ↔ sem L (.mk k 0 [a]) i := by
  unfold singleL
  split
  · rename_i h
    obtain ⟨rfl, h⟩ := h
    rcases truthB_sem ha h with rfl | rfl
    · simp [otherK, Ltl.k, sem4, sem1, sem2]
    · simp [otherK, Ltl.k, sem4, sem1, sem2]
  · split
    · rename_i h
      obtain ⟨rfl, h⟩ := h
      obtain ⟨b, rfl, _⟩ := wf_ku (.inl rfl) ha h
      simp [Ltl.kids, sem4]
    · split
      · rename_i h
        rcases h with ⟨h1, h2⟩ | ⟨h1, h2, h3⟩
        · rcases truthB_sem ha h2 with rfl | rfl
          · rcases hk with rfl | rfl | rfl | rfl
            · exact absurd rfl h1
            · simp [sem7, sem1]
            · simp only [sem10, sem1, iff_true, true_iff]; exact Til.here trivial
            · exact ⟨fun _ => by rw [sem11]; exact Til.ff (fun j _ h => h (sem1.2 trivial)), fun _ => by rw [sem1]; trivial⟩
          · rcases hk with rfl | rfl | rfl | rfl
            · exact absurd rfl h1
            · simp [sem7, sem2]
            · exact ⟨fun h => (sem2.1 h).elim, fun h => (Til.ff (fun j _ h => sem2.1 h) (sem10.1 h)).elim⟩
            · simp only [sem11, sem2, iff_false, false_iff, Classical.not_not]; exact Til.here (by simp)
        · rcases hk with rfl | rfl | rfl | rfl
          · exact absurd rfl h2
          · exact absurd rfl h1
          · obtain ⟨b, rfl, _⟩ := wf_ku (by omega) ha h3
            rw [sem10, sem10]
            constructor
            · exact fun h => Til.here (by rw [sem10]; exact h)
            · rintro ⟨j, hj, hb, _⟩
              rw [sem10] at hb
              obtain ⟨j', hj', hb', _⟩ := hb
              exact ⟨j', by omega, hb', fun _ _ _ => trivial⟩
          · obtain ⟨b, rfl, _⟩ := wf_ku (by omega) ha h3
            rw [sem11, sem11]
            refine not_congr ⟨?_, ?_⟩
            · exact fun h => Til.here (by rw [sem11, Classical.not_not]; exact h)
            · rintro ⟨j, hj, hb, _⟩
              rw [sem11, Classical.not_not] at hb
              obtain ⟨j', hj', hb', _⟩ := hb
              exact ⟨j', by omega, hb', fun _ _ _ => trivial⟩
      · exact Iff.rfl
theorem and_sem {a b : Ltl} (ha : wfT a) (hb : wfT b) (i : Nat) : sem L (twoPL 5 2 a b) i ↔ sem L (.mk 5 0 [a, b]) i := by
  unfold twoPL
  rw [sem5]
  split
  · rename_i h
    rcases h with h | h
    · rw [wf_k2 ha h]; simp [sem2]
    · rw [wf_k2 hb h]; simp [sem2]
  · split
    · rename_i h; rw [wf_k1 ha h]; simp [sem1]
    · split
      · rename_i h
        rcases h with h | h
        · rw [wf_k1 hb h]; simp [sem1]
        · rw [(sameB_iff a b).1 h]; simp
      · rw [sem5]
theorem or_sem {a b : Ltl} (ha : wfT a) (hb : wfT b) (i : Nat) : sem L (twoPL 6 1 a b) i ↔ sem L (.mk 6 0 [a, b]) i := by
  unfold twoPL
  rw [sem6]
  split
  · rename_i h
    rcases h with h | h
    · rw [wf_k1 ha h]; simp [sem1]
    · rw [wf_k1 hb h]; simp [sem1]
  · split
    · rename_i h; rw [wf_k2 ha h]; simp [sem2]
    · split
      · rename_i h
        rcases h with h | h
        · rw [wf_k2 hb h]; simp [sem2]
        · rw [(sameB_iff a b).1 h]; simp
      · rw [sem6]
theorem Til.self {A : Nat → Prop} {i : Nat} : Til A A i ↔ A i := by
  rw [Til.step]
  constructor
  · rintro (h | ⟨h, _⟩) <;> exact h
  · exact .inl
theorem until_sem {a b : Ltl} (ha : wfT a) (hb : wfT b) (i : Nat) : sem L (wayL 8 2 a b) i ↔ sem L (.mk 8 0 [a, b]) i := by
  unfold wayL
  split
  · rename_i h
    rw [sem8]
    rcases h with h | h | h
    · rcases truthB_sem hb h with rfl | rfl
      · exact ⟨fun _ => Til.here (sem1.2 trivial), fun _ => sem1.2 trivial⟩
      · exact ⟨fun h => (sem2.1 h).elim, fun h => (Til.ff (fun j _ h => sem2.1 h) h).elim⟩
    · rw [wf_k2 ha h, Til.step]; simp [sem2]
    · rw [(sameB_iff a b).1 h, Til.self]
  · rename_i h
    split
    · rename_i h1
      rcases truthB_sem ha h1.1 with rfl | rfl
      · rw [single_sem (by omega) hb, sem10, sem8]; exact Til.congr (fun _ => by simp [sem1]) (fun _ => Iff.rfl) i
      · exact absurd (.inr (.inl rfl)) h
    · split
      · rename_i h1 h2; exact absurd ⟨h2, rfl⟩ h1
      · exact Iff.rfl
theorem release_sem {a b : Ltl} (ha : wfT a) (hb : wfT b) (i : Nat) : sem L (wayL 9 1 a b) i ↔ sem L (.mk 9 0 [a, b]) i := by
  unfold wayL
  split
  · rename_i h
    rw [sem9]
    rcases h with h | h | h
    · rcases truthB_sem hb h with rfl | rfl
      · exact ⟨fun _ => Til.ff (fun j _ h => h (sem1.2 trivial)), fun _ => by rw [sem1]; trivial⟩
      · exact ⟨fun h => by rw [sem2] at h; exact h.elim, fun h => (h (Til.here (fun h => sem2.1 h))).elim⟩
    · rw [wf_k1 ha h, Til.step]; simp [sem1]
    · rw [(sameB_iff a b).1 h, Til.self, Classical.not_not]
  · rename_i h
    split
    · rename_i h1; exact absurd h1.2 (by decide)
    · split
      · rename_i h1 h2
        rcases truthB_sem ha h2 with rfl | rfl
        · exact absurd (.inr (.inl rfl)) h
        · rw [single_sem (by omega) hb, sem11, sem9]; exact not_congr (Til.congr (fun _ => by simp [sem2]) (fun _ => Iff.rfl) i)
      · exact Iff.rfl
end
/- slim is right, no larger, no deeper -/
structure Slm (a t : Ltl) : Prop where
  wf : wfT a
  nodes : a.nodes ≤ t.nodes
  deep : a.deep ≤ t.deep
theorem nodes1 {k n : Int} {a : Ltl} : (Ltl.mk k n [a]).nodes = 1 + a.nodes ∧ (Ltl.mk k n [a]).deep = 1 + a.deep := by simp [Ltl.nodes, Ltl.nodesL, Ltl.deep, Ltl.deepL]
theorem nodes2 {k n : Int} {a b : Ltl} : (Ltl.mk k n [a, b]).nodes = 1 + (a.nodes + b.nodes) ∧ (Ltl.mk k n [a, b]).deep = 1 + max a.deep b.deep := by simp [Ltl.nodes, Ltl.nodesL, Ltl.deep, Ltl.deepL]
theorem nodes0 {k n : Int} : (Ltl.mk k n []).nodes = 1 ∧ (Ltl.mk k n []).deep = 1 := by simp [Ltl.nodes, Ltl.nodesL, Ltl.deep, Ltl.deepL]
theorem leaf_slm {k : Int} (hk : k = 1 ∨ k = 2) (t : Ltl) : Slm (.mk k 0 []) t := by
  refine ⟨?_, ?_, ?_⟩
  · rcases hk with rfl | rfl
    · exact wf_leaf1
    · exact wf_leaf2
  · have := t.nodes_pos; rw [nodes0.1]; omega
  · have := t.deep_pos; rw [nodes0.2]; omega
theorem single_slm {k : Int} {a t : Ltl} (hk : k = 4 ∨ k = 7 ∨ k = 10 ∨ k = 11) (ha : Slm a t) (T : Ltl) (h1 : 1 + t.nodes ≤ T.nodes) (h2 : 1 + t.deep ≤ T.deep) : Slm (singleL k a) T := by
  unfold singleL
  have hn := ha.nodes
  have hd := ha.deep
  split
  · rename_i h
    rcases truthB_sem ha.wf h.2 with rfl | rfl
    · exact leaf_slm (by simp [otherK, Ltl.k]) T
    · exact leaf_slm (by simp [otherK, Ltl.k]) T
  · split
    · rename_i h
      obtain ⟨b, rfl, hb⟩ := wf_ku (.inl rfl) ha.wf h.2
      rw [nodes1.1] at hn
      rw [nodes1.2] at hd
      exact ⟨hb, by simp [Ltl.kids]; omega, by simp [Ltl.kids]; omega⟩
    · split
      · exact ⟨ha.wf, by omega, by omega⟩
      · exact ⟨wf_one hk ha.wf, by rw [nodes1.1]; omega, by rw [nodes1.2]; omega⟩
theorem both_slm {k zero : Int} {a b t u : Ltl} (hk : k = 5 ∧ zero = 2 ∨ k = 6 ∧ zero = 1) (ha : Slm a t) (hb : Slm b u) (T : Ltl) (h1 : 1 + (t.nodes + u.nodes) ≤ T.nodes) (h2 : 1 + max t.deep u.deep ≤ T.deep) : Slm (twoPL k zero a b) T := by
  unfold twoPL
  have hn := ha.nodes
  have hd := ha.deep
  have hn' := hb.nodes
  have hd' := hb.deep
  split
  · exact leaf_slm (by omega) T
  · split
    · exact ⟨hb.wf, by omega, by omega⟩
    · split
      · exact ⟨ha.wf, by omega, by omega⟩
      · exact ⟨wf_two (by omega) ha.wf hb.wf, by rw [nodes2.1]; omega, by rw [nodes2.2]; omega⟩
theorem way_slm {k none : Int} {a b t u : Ltl} (hk : k = 8 ∨ k = 9) (ha : Slm a t) (hb : Slm b u) (T : Ltl) (h1 : 1 + (t.nodes + u.nodes) ≤ T.nodes) (h2 : 1 + max t.deep u.deep ≤ T.deep) : Slm (wayL k none a b) T := by
  unfold wayL
  have hn := ha.nodes
  have hd := ha.deep
  have hn' := hb.nodes
  have hd' := hb.deep
  split
  · exact ⟨hb.wf, by omega, by omega⟩
  · split
    · exact single_slm (by omega) hb T (by omega) (by omega)
    · split
      · exact single_slm (by omega) hb T (by omega) (by omega)
      · exact ⟨wf_two (by omega) ha.wf hb.wf, by rw [nodes2.1]; omega, by rw [nodes2.2]; omega⟩
theorem slim_slm : ∀ t, wfT t → Slm (slimL t) t := by
  refine wf_ind ?_ ?_ ?_ ?_ ?_
  · exact ⟨by simp [slimL, slimLs, slimK]; exact wf_leaf1, by simp [slimL, slimLs, slimK], by simp [slimL, slimLs, slimK]⟩
  · exact ⟨by simp [slimL, slimLs, slimK]; exact wf_leaf2, by simp [slimL, slimLs, slimK], by simp [slimL, slimLs, slimK]⟩
  · exact fun n h0 h1 => ⟨by simp [slimL, slimLs, slimK]; exact wf_atom h0 h1, by simp [slimL, slimLs, slimK], by simp [slimL, slimLs, slimK]⟩
  · intro k a hk ha h
    rw [slim_one hk]
    exact single_slm hk h _ (by rw [nodes1.1]; omega) (by rw [nodes1.2]; omega)
  · rintro k a b (rfl | rfl | rfl | rfl) ha hb h1 h2
    · rw [(slim_two (k := 0)).1]; exact both_slm (.inl ⟨rfl, rfl⟩) h1 h2 _ (by rw [nodes2.1]; omega) (by rw [nodes2.2]; omega)
    · rw [(slim_two (k := 0)).2.1]; exact both_slm (.inr ⟨rfl, rfl⟩) h1 h2 _ (by rw [nodes2.1]; omega) (by rw [nodes2.2]; omega)
    · rw [(slim_two (k := 0)).2.2.1]; exact way_slm (.inl rfl) h1 h2 _ (by rw [nodes2.1]; omega) (by rw [nodes2.2]; omega)
    · rw [(slim_two (k := 0)).2.2.2]; exact way_slm (.inr rfl) h1 h2 _ (by rw [nodes2.1]; omega) (by rw [nodes2.2]; omega)
theorem slim_sem {L : Nat → Nat} : ∀ t, wfT t → ∀ i, sem L (slimL t) i ↔ sem L t i := by
  refine wf_ind ?_ ?_ ?_ ?_ ?_
  · intro i; simp [slimL, slimLs, slimK]
  · intro i; simp [slimL, slimLs, slimK]
  · intro n _ _ i; simp [slimL, slimLs, slimK]
  · intro k a hk ha h i
    rw [slim_one hk, single_sem hk (slim_slm a ha).wf]
    rcases hk with rfl | rfl | rfl | rfl
    · rw [sem4, sem4, h]
    · rw [sem7, sem7, h]
    · rw [sem10, sem10]; exact Til.congr (fun _ => Iff.rfl) h i
    · rw [sem11, sem11]; exact not_congr (Til.congr (fun _ => Iff.rfl) (fun j => not_congr (h j)) i)
  · rintro k a b (rfl | rfl | rfl | rfl) ha hb h1 h2 i
    · rw [(slim_two (k := 0)).1, and_sem (slim_slm a ha).wf (slim_slm b hb).wf, sem5, sem5, h1, h2]
    · rw [(slim_two (k := 0)).2.1, or_sem (slim_slm a ha).wf (slim_slm b hb).wf, sem6, sem6, h1, h2]
    · rw [(slim_two (k := 0)).2.2.1, until_sem (slim_slm a ha).wf (slim_slm b hb).wf, sem8, sem8]; exact Til.congr h1 h2 i
    · rw [(slim_two (k := 0)).2.2.2, release_sem (slim_slm a ha).wf (slim_slm b hb).wf, sem9, sem9]; exact not_congr (Til.congr (fun j => not_congr (h1 j)) (fun j => not_congr (h2 j)) i)

/- slim again is the same -/
mutual
def slimN : Ltl → Bool
  | .mk k n kids => slimNs kids &&
      (if k = 4 then !truthB (kids.getD 0 (.mk 0 0 [])) && !((kids.getD 0 (.mk 0 0 [])).k == 4)
       else if k = 7 then !truthB (kids.getD 0 (.mk 0 0 []))
       else if k = 10 ∨ k = 11 then !truthB (kids.getD 0 (.mk 0 0 [])) && !((kids.getD 0 (.mk 0 0 [])).k == k)
       else if k = 5 ∨ k = 6 then !truthB (kids.getD 0 (.mk 0 0 [])) && !truthB (kids.getD 1 (.mk 0 0 [])) && !sameB (kids.getD 0 (.mk 0 0 [])) (kids.getD 1 (.mk 0 0 []))
       else if k = 8 ∨ k = 9 then !truthB (kids.getD 0 (.mk 0 0 [])) && !truthB (kids.getD 1 (.mk 0 0 [])) && !sameB (kids.getD 0 (.mk 0 0 [])) (kids.getD 1 (.mk 0 0 []))
       else true)
def slimNs : List Ltl → Bool
  | [] => true
  | x :: r => slimN x && slimNs r
end
theorem truthB_not {t : Ltl} (h : truthB t = false) : t.k ≠ 1 ∧ t.k ≠ 2 := by
  simp only [truthB, Bool.or_eq_false_iff, beq_eq_false_iff_ne] at h; exact h
theorem slimN_fix : ∀ t, wfT t → slimN t = true → slimL t = t := by
  refine wf_ind ?_ ?_ ?_ ?_ ?_
  · intro _; simp [slimL, slimLs, slimK]
  · intro _; simp [slimL, slimLs, slimK]
  · intro n _ _ _; simp [slimL, slimLs, slimK]
  · intro k a hk ha ih h
    rw [slim_one hk]
    rcases hk with rfl | rfl | rfl | rfl
    · simp [slimN, slimNs] at h
      rw [ih h.1]; unfold singleL; simp [h]
    · simp [slimN, slimNs] at h
      rw [ih h.1]; unfold singleL; simp [h]
    · simp [slimN, slimNs] at h
      rw [ih h.1]; unfold singleL; simp [h]
    · simp [slimN, slimNs] at h
      rw [ih h.1]; unfold singleL; simp [h]
  · rintro k a b (rfl | rfl | rfl | rfl) ha hb h1 h2 h
    · simp [slimN, slimNs] at h
      have q1 := truthB_not h.2.1.1
      have q2 := truthB_not h.2.1.2
      rw [(slim_two (k := 0)).1, h1 h.1.1, h2 h.1.2]; unfold twoPL; simp [h, q1, q2, otherK]
    · simp [slimN, slimNs] at h
      have q1 := truthB_not h.2.1.1
      have q2 := truthB_not h.2.1.2
      rw [(slim_two (k := 0)).2.1, h1 h.1.1, h2 h.1.2]; unfold twoPL; simp [h, q1, q2, otherK]
    · simp [slimN, slimNs] at h
      have q1 := truthB_not h.2.1.1
      have q2 := truthB_not h.2.1.2
      rw [(slim_two (k := 0)).2.2.1, h1 h.1.1, h2 h.1.2]; unfold wayL; simp [h, q1, q2, otherK]
    · simp [slimN, slimNs] at h
      have q1 := truthB_not h.2.1.1
      have q2 := truthB_not h.2.1.2
      rw [(slim_two (k := 0)).2.2.2, h1 h.1.1, h2 h.1.2]; unfold wayL; simp [h, q1, q2, otherK]
theorem slimN_leaf {k : Int} (hk : k = 1 ∨ k = 2) : slimN (.mk k 0 []) = true := by
  rcases hk with rfl | rfl <;> simp [slimN, slimNs]
theorem single_N {k : Int} {a : Ltl} (hk : k = 4 ∨ k = 7 ∨ k = 10 ∨ k = 11) (ha : wfT a) (hn : slimN a = true) : slimN (singleL k a) = true := by
  unfold singleL
  split
  · rename_i h
    rcases truthB_sem ha h.2 with rfl | rfl
    · exact slimN_leaf (by simp [otherK, Ltl.k])
    · exact slimN_leaf (by simp [otherK, Ltl.k])
  · rename_i g1
    split
    · rename_i h
      obtain ⟨b, rfl, hb⟩ := wf_ku (.inl rfl) ha h.2
      simp [slimN, slimNs] at hn
      simpa [Ltl.kids] using hn.1
    · rename_i g2
      split
      · exact hn
      · rename_i g3
        rcases hk with rfl | rfl | rfl | rfl
        · simp at g1 g2; simp [slimN, slimNs, hn, g1, g2]
        · simp at g3; simp [slimN, slimNs, hn, g3]
        · simp at g3; simp [slimN, slimNs, hn, g3]
        · simp at g3; simp [slimN, slimNs, hn, g3]
theorem both_N {k zero : Int} {a b : Ltl} (hk : k = 5 ∧ zero = 2 ∨ k = 6 ∧ zero = 1) (ha : slimN a = true) (hb : slimN b = true) : slimN (twoPL k zero a b) = true := by
  unfold twoPL
  split
  · exact slimN_leaf (by omega)
  · rename_i g1
    split
    · exact hb
    · rename_i g2
      split
      · exact ha
      · rename_i g3
        rcases hk with ⟨rfl, rfl⟩ | ⟨rfl, rfl⟩
        · simp [otherK] at g1 g2 g3; simp [slimN, slimNs, ha, hb, truthB, g1, g2, g3]
        · simp [otherK] at g1 g2 g3; simp [slimN, slimNs, ha, hb, truthB, g1, g2, g3]
theorem way_N {k none : Int} {a b : Ltl} (hk : k = 8 ∧ none = 2 ∨ k = 9 ∧ none = 1) (hwb : wfT b) (ha : slimN a = true) (hb : slimN b = true) : slimN (wayL k none a b) = true := by
  unfold wayL
  split
  · exact hb
  · rename_i g1
    split
    · exact single_N (by omega) hwb hb
    · rename_i g2
      split
      · exact single_N (by omega) hwb hb
      · rename_i g3
        rcases hk with ⟨rfl, rfl⟩ | ⟨rfl, rfl⟩
        · simp at g1 g3; simp [slimN, slimNs, ha, hb, g1, g3]
        · simp at g1 g3; simp [slimN, slimNs, ha, hb, g1, g3]
theorem slim_N : ∀ t, wfT t → slimN (slimL t) = true := by
  refine wf_ind ?_ ?_ ?_ ?_ ?_
  · simp [slimL, slimLs, slimK, slimN, slimNs]
  · simp [slimL, slimLs, slimK, slimN, slimNs]
  · intro n _ _; simp [slimL, slimLs, slimK, slimN, slimNs]
  · intro k a hk ha h
    rw [slim_one hk]
    exact single_N hk (slim_slm a ha).wf h
  · rintro k a b (rfl | rfl | rfl | rfl) ha hb h1 h2
    · rw [(slim_two (k := 0)).1]; exact both_N (.inl ⟨rfl, rfl⟩) h1 h2
    · rw [(slim_two (k := 0)).2.1]; exact both_N (.inr ⟨rfl, rfl⟩) h1 h2
    · rw [(slim_two (k := 0)).2.2.1]; exact way_N (.inl ⟨rfl, rfl⟩) (slim_slm b hb).wf h1 h2
    · rw [(slim_two (k := 0)).2.2.2]; exact way_N (.inr ⟨rfl, rfl⟩) (slim_slm b hb).wf h1 h2
theorem slim_twice {t : Ltl} (h : wfT t) : slimL (slimL t) = slimL t := slimN_fix _ (slim_slm t h).wf (slim_N t h)
end Go.Proofs.Ytllpfgcngokhnaa
/-
  Contracts of the generic functions of package slices, at the types where the program uses them.
-/
set_option linter.unusedVariables false
namespace Go.Proofs.Ytllpfgcngokhnaa
open Go.RowKit

/-- the place of the first one that is so; -1: none is -/
def idxOf {α : Type} (p : α → Bool) (xs : List α) : Int := match xs.findIdx? p with | some i => (i : Int) | none => -1
theorem idxOf_here {α : Type} {p : α → Bool} {xs : List α} {k : Nat} (hk : k < xs.length) (hn : ∀ j (h : j < xs.length), j < k → p xs[j] = false) (hp : p xs[k] = true) : idxOf p xs = k := by
  have : xs.findIdx? p = some k := by
    rw [List.findIdx?_eq_some_iff_getElem]
    exact ⟨hk, hp, fun j hj => by simp [hn j (by omega) hj]⟩
  simp [idxOf, this]
theorem idxOf_none {α : Type} {p : α → Bool} {xs : List α} (hn : ∀ j (h : j < xs.length), p xs[j] = false) : idxOf p xs = -1 := by
  have : xs.findIdx? p = none := by
    rw [List.findIdx?_eq_none_iff]
    intro x hx
    obtain ⟨j, hj, rfl⟩ := List.mem_iff_getElem.1 hx
    exact hn j hj
  simp [idxOf, this]
theorem idxOf_any {α : Type} (p : α → Bool) (xs : List α) : decide (idxOf p xs ≥ 0) = xs.any p := by
  unfold idxOf
  cases h : xs.findIdx? p with
  | none =>
    rw [List.findIdx?_eq_none_iff] at h
    have : xs.any p = false := by rw [List.any_eq_false]; intro x hx; simp [h x hx]
    rw [this]; rfl
  | some i =>
    obtain ⟨h1, h2, _⟩ := List.findIdx?_eq_some_iff_getElem.1 h
    have : xs.any p = true := List.any_eq_true.2 ⟨xs[i], List.getElem_mem _, h2⟩
    rw [this]; simp

theorem indexFunc_int (w0 : World) {ao : Option Addr} {cap : Nat} {xs : List Int} {fv : Value} (p : Int → Bool) (hs : Sl w0 (Old w0) ao cap xs)
    (hf : ∀ w, Ext w0 w → ∀ i (h : i < xs.length), FnV Try.prog fv [.int .i64 xs[i]] w fun v w' => v = .bool (p xs[i]) ∧ Ext w w') :
    Rt Try.prog 87 [.slice ao xs.length cap, fv].toArray w0 fun v w' => v = .int .i64 (idxOf p xs) ∧ Ext w0 w' := by
  have hm := hs.len63
  refine Rt.enter2 Try.func87 Try.ntmps87 rfl rfl ?_
  (repeat (first | (apply WL.pure; rfl; rfl; rfl) | (apply WL.nil) | (apply EX.thenN) | (apply CW.seq) | (apply CW.region) | (apply WL.lenS; rfl; rfl; rfl) | (apply CW.block)))
  refine CW.loop (S := Nat) (fun k => [(0, .slice ao xs.length cap), (1, fv), (7, .int .i64 xs.length), (8, .int .i64 k)])
    (fun k w => k ≤ xs.length ∧ Ext w0 w ∧ ∀ j (h : j < xs.length), j < k → p xs[j] = false) (fun k => xs.length - k) 0 (by repeat (first | exact trivial | refine ⟨rfl, ?_⟩)) ⟨by omega, Ext.refl _, by omega⟩ ?_
  rintro k w ⟨hk, hB, hn⟩
  (repeat (first | (apply WL.pure; rfl; rfl; rfl) | (apply WL.nil) | (apply EX.thenN) | (apply CW.seq) | (apply CW.region)))
  refine CW.cond rfl (fun h => ?_) (fun h => ?_)
  · simp at h
    (repeat (first | (apply WL.pure; rfl; rfl; rfl) | (apply WL.nil) | (apply EX.thenN) | (apply CW.seq) | (apply CW.region) | (apply CW.block) | (apply CW.skip)))
    refine WL.elemI rfl rfl rfl rfl rfl (hs.at hB) h rfl (fun _ => rfl) (fun q => ?_)
    refine WL.callF rfl rfl rfl rfl (hf w hB k h) ?_
    rintro v w' ⟨rfl, hB'⟩
    (repeat (first | (apply WL.nil) | (apply EX.thenN)))
    refine CW.cond rfl (fun h' => ?_) (fun h' => ?_)
    · (repeat (first | (apply WL.pure; rfl; rfl; rfl) | (apply WL.nil) | (apply EX.thenN) | (apply CW.seq) | (apply CW.region) | (apply CW.ret) | (apply EX.thenR) | (apply EX.inR)))
      refine EX.ret1 rfl rfl ⟨?_, hB.trans hB'⟩
      rw [idxOf_here h hn h']
    · (repeat (first | (apply WL.add; rfl; rfl; rfl; rfl; omega; omega) | (apply WL.pure; rfl; rfl; rfl) | (apply WL.nil) | (apply EX.thenN) | (apply CW.region) | (apply EX.inN) | (apply CW.skip)))
      refine EX.back (k + 1) (by repeat (first | exact trivial | refine ⟨rfl, ?_⟩)) ⟨h, hB.trans hB', ?_⟩ (by omega)
      intro j hj hlt
      by_cases e : j = k
      · subst e; exact h'
      · exact hn j hj (by omega)
  · simp at h
    (repeat (first | (apply WL.pure; rfl; rfl; rfl) | (apply WL.nil) | (apply EX.thenN) | (apply CW.seq) | (apply CW.region) | (apply CW.exit) | (apply EX.thenX) | (apply EX.inX) | (apply CW.ret)))
    refine EX.ret1 rfl rfl ⟨?_, hB⟩
    rw [idxOf_none (fun j hj => hn j hj (by omega))]

theorem containsFunc_int (w0 : World) {ao : Option Addr} {cap : Nat} {xs : List Int} {fv : Value} (p : Int → Bool) (hs : Sl w0 (Old w0) ao cap xs)
    (hf : ∀ w, Ext w0 w → ∀ i (h : i < xs.length), FnV Try.prog fv [.int .i64 xs[i]] w fun v w' => v = .bool (p xs[i]) ∧ Ext w w') :
    Rt Try.prog 40 [.slice ao xs.length cap, fv].toArray w0 fun v w' => v = .bool (xs.any p) ∧ Ext w0 w' := by
  refine Rt.enter2 Try.func40 Try.ntmps40 rfl rfl ?_
  (repeat (first | (apply WL.pure; rfl; rfl; rfl) | (apply WL.nil) | (apply EX.thenN) | (apply CW.seq) | (apply CW.region)))
  refine WL.call rfl rfl rfl (indexFunc_int w0 p hs hf) ?_
  rintro v w' ⟨rfl, hB⟩
  (repeat (first | (apply WL.pure; rfl; rfl; rfl) | (apply WL.nil) | (apply EX.thenN) | (apply CW.ret)))
  refine EX.ret1 rfl rfl ⟨?_, hB⟩
  rw [← idxOf_any]

/-- slices.Equal over lists whose elements are compared by one word -/
theorem equal_bool (w0 : World) {ao bo : Option Addr} {cap cap' : Nat} {xs ys : List Bool} (hs : Sl w0 (Old w0) ao cap xs) (ht : Sl w0 (Old w0) bo cap' ys) :
    Rt Try.prog 24 [.slice ao xs.length cap, .slice bo ys.length cap'].toArray w0 fun v w' => v = .bool (xs == ys) ∧ Ext w0 w' := by
  have hm := hs.len63
  refine Rt.enter2 Try.func24 Try.ntmps24 rfl rfl ?_
  (repeat (first | (apply WL.pure; rfl; rfl; rfl) | (apply WL.nil) | (apply EX.thenN) | (apply CW.seq) | (apply CW.region) | (apply WL.lenS; rfl; rfl; rfl)))
  refine CW.cond rfl (fun h => ?_) (fun h => ?_)
  · (repeat (first | (apply WL.pure; rfl; rfl; rfl) | (apply WL.nil) | (apply EX.thenN) | (apply CW.seq) | (apply CW.region) | (apply CW.ret) | (apply EX.thenR)))
    refine EX.ret1 rfl rfl ⟨?_, Ext.refl _⟩
    simp at h
    have : (xs == ys) = false := by rw [beq_eq_false_iff_ne]; intro e; exact h (by rw [e])
    rw [this]
  · simp at h
    (repeat (first | (apply WL.pure; rfl; rfl; rfl) | (apply WL.nil) | (apply EX.thenN) | (apply CW.seq) | (apply CW.region) | (apply WL.lenS; rfl; rfl; rfl) | (apply CW.block) | (apply CW.skip)))
    refine CW.loop (S := Nat) (fun k => [(0, .slice ao xs.length cap), (1, .slice bo ys.length cap'), (12, .int .i64 xs.length), (13, .int .i64 k)])
      (fun k w => k ≤ xs.length ∧ Ext w0 w ∧ ∀ j (h : j < xs.length) (h' : j < ys.length), j < k → xs[j] = ys[j]) (fun k => xs.length - k) 0 (by repeat (first | exact trivial | refine ⟨rfl, ?_⟩)) ⟨by omega, Ext.refl _, by omega⟩ ?_
    rintro k w ⟨hk, hB, hn⟩
    (repeat (first | (apply WL.pure; rfl; rfl; rfl) | (apply WL.nil) | (apply EX.thenN) | (apply CW.seq) | (apply CW.region)))
    refine CW.cond rfl (fun h1 => ?_) (fun h1 => ?_)
    · simp at h1
      (repeat (first | (apply WL.pure; rfl; rfl; rfl) | (apply QL.pure; rfl; rfl; rfl) | (apply WL.nil) | (apply EX.thenN) | (apply CW.seq) | (apply CW.region) | (apply CW.block) | (apply CW.skip) | (apply CW.draw; exact mixed; kernel_rfl)))
      refine QL.elemB rfl rfl rfl rfl rfl (fun _ h => h) (hs.up hB) h1 rfl (fun _ => rfl) (fun q => ?_)
      (repeat (apply QL.pure; rfl; rfl; rfl))
      refine QL.elemB rfl rfl rfl rfl rfl (fun _ h => h) (ht.up hB) (by omega) rfl (fun _ => rfl) (fun q' => ?_)
      (repeat (apply QL.neB; rfl; rfl; rfl; rfl))
      refine QL.nil (fun w1 hE => ?_)
      (repeat (apply EX.thenN))
      refine CW.cond rfl (fun h2 => ?_) (fun h2 => ?_)
      · (repeat (first | (apply WL.pure; rfl; rfl; rfl) | (apply WL.nil) | (apply EX.thenN) | (apply CW.seq) | (apply CW.region) | (apply CW.ret) | (apply EX.thenR) | (apply EX.inR)))
        refine EX.ret1 rfl rfl ⟨?_, hB.trans hE⟩
        simp at h2
        have : (xs == ys) = false := by rw [beq_eq_false_iff_ne]; intro e; subst e; exact h2 rfl
        rw [this]
      · simp at h2
        (repeat (first | (apply WL.add; rfl; rfl; rfl; rfl; omega; omega) | (apply WL.pure; rfl; rfl; rfl) | (apply WL.nil) | (apply EX.thenN) | (apply CW.region) | (apply EX.inN) | (apply CW.skip)))
        refine EX.back (k + 1) (by repeat (first | exact trivial | refine ⟨rfl, ?_⟩)) ⟨h1, hB.trans hE, ?_⟩ (by omega)
        intro j hj hj' hlt
        by_cases e : j = k
        · subst e; exact h2
        · exact hn j hj hj' (by omega)
    · simp at h1
      (repeat (first | (apply WL.pure; rfl; rfl; rfl) | (apply WL.nil) | (apply EX.thenN) | (apply CW.seq) | (apply CW.region) | (apply CW.exit) | (apply EX.thenX) | (apply EX.inX) | (apply CW.ret)))
      refine EX.ret1 rfl rfl ⟨?_, hB⟩
      have : (xs == ys) = true := by
        rw [beq_iff_eq]
        exact List.ext_getElem (by omega) fun j h1 h2 => hn j h1 h2 (by omega)
      rw [this]
end Go.Proofs.Ytllpfgcngokhnaa
/-
  Elements of a formula, states of its automaton: plain lists.
-/
set_option linter.unusedVariables false
set_option linter.unusedSimpArgs false
namespace Go.Proofs.Ytllpfgcngokhnaa

/- PACKED BITS -/
def packB (f : Nat → Bool) : Nat → Nat
  | 0 => 0
  | c + 1 => if f c = true then packB f c ||| (1 <<< c) else packB f c
theorem bit_one (c j : Nat) : (1 <<< c).testBit j = decide (j = c) := by
  rw [Nat.one_shiftLeft, Nat.testBit_two_pow]
  exact decide_eq_decide.2 ⟨fun h => h.symm, fun h => h.symm⟩
theorem packB_bit {f : Nat → Bool} : ∀ {c j : Nat}, (packB f c).testBit j = (decide (j < c) && f j)
  | 0, j => by simp [packB]
  | c + 1, j => by
    rw [packB]
    by_cases hf : f c = true
    · rw [if_pos hf, Nat.testBit_or, packB_bit, bit_one]
      by_cases e : j = c
      · subst e; simp [hf]
      · have : decide (j < c + 1) = decide (j < c) := decide_eq_decide.2 (by omega)
        rw [this, decide_eq_false e, Bool.or_false]
    · rw [if_neg hf, packB_bit]
      by_cases e : j = c
      · subst e; simp [hf]
      · have : decide (j < c + 1) = decide (j < c) := decide_eq_decide.2 (by omega)
        rw [this]
theorem packB_lt {f : Nat → Bool} : ∀ {c : Nat}, packB f c < 2 ^ c
  | 0 => by simp [packB]
  | c + 1 => by
    have h := packB_lt (f := f) (c := c)
    rw [packB]
    have h2 : 2 ^ c ≤ 2 ^ (c + 1) := Nat.pow_le_pow_right (by omega) (by omega)
    split
    · exact Nat.or_lt_two_pow (Nat.lt_of_lt_of_le h h2) (by rw [Nat.one_shiftLeft]; exact Nat.pow_lt_pow_right (by omega) (by omega))
    · omega
theorem packB_congr {f g : Nat → Bool} : ∀ {c : Nat}, (∀ j, j < c → f j = g j) → packB f c = packB g c
  | 0, _ => rfl
  | c + 1, h => by rw [packB, packB, h c (by omega), packB_congr (fun j hj => h j (by omega))]

/- ELEMENTS -/
abbrev Mk2 := List Int × List Ltl
def gaN (k n : Int) (t : Ltl) (m : Mk2) : Mk2 := if k = 3 then (if n ∈ m.1 then m.1 else m.1 ++ [n], m.2) else if k = 7 ∨ k = 8 ∨ k = 9 then (m.1, if m.2.any (sameB t) = true then m.2 else m.2 ++ [t]) else m
mutual
def gaE : Ltl → Mk2 → Mk2
  | .mk k n kids, m => gaEs kids (gaN k n (.mk k n kids) m)
def gaEs : List Ltl → Mk2 → Mk2
  | [], m => m
  | x :: r, m => gaEs r (gaE x m)
end
mutual
def Cov (m : Mk2) : Ltl → Prop
  | .mk k n kids => (k = 3 → n ∈ m.1) ∧ ((k = 7 ∨ k = 8 ∨ k = 9) → .mk k n kids ∈ m.2) ∧ Covs m kids
def Covs (m : Mk2) : List Ltl → Prop
  | [] => True
  | x :: r => Cov m x ∧ Covs m r
end
/-- more elements -/
def Les (m m' : Mk2) : Prop := (∀ x ∈ m.1, x ∈ m'.1) ∧ ∀ x ∈ m.2, x ∈ m'.2
theorem Les.refl (m : Mk2) : Les m m := ⟨fun _ h => h, fun _ h => h⟩
theorem Les.trans {a b c : Mk2} (h : Les a b) (k : Les b c) : Les a c := ⟨fun x hx => k.1 x (h.1 x hx), fun x hx => k.2 x (h.2 x hx)⟩
mutual
theorem Cov.les {m m' : Mk2} (h : Les m m') : ∀ t, Cov m t → Cov m' t
  | .mk k n kids, hc => by
    simp only [Cov] at hc ⊢
    exact ⟨fun e => h.1 _ (hc.1 e), fun e => h.2 _ (hc.2.1 e), Covs.les h kids hc.2.2⟩
theorem Covs.les {m m' : Mk2} (h : Les m m') : ∀ l, Covs m l → Covs m' l
  | [], _ => trivial
  | x :: r, hc => by
    simp only [Covs] at hc ⊢
    exact ⟨Cov.les h x hc.1, Covs.les h r hc.2⟩
end
theorem gaN_les (k n : Int) (t : Ltl) (m : Mk2) : Les m (gaN k n t m) := by
  unfold gaN
  split
  · refine ⟨fun x hx => ?_, fun _ h => h⟩
    dsimp only
    split
    · exact hx
    · exact List.mem_append_left _ hx
  · split
    · refine ⟨fun _ h => h, fun x hx => ?_⟩
      dsimp only
      split
      · exact hx
      · exact List.mem_append_left _ hx
    · exact Les.refl m
mutual
theorem gaE_les : ∀ (t : Ltl) (m : Mk2), Les m (gaE t m)
  | .mk k n kids, m => by
    simp only [gaE]
    exact (gaN_les k n _ m).trans (gaEs_les kids _)
theorem gaEs_les : ∀ (l : List Ltl) (m : Mk2), Les m (gaEs l m)
  | [], m => Les.refl m
  | x :: r, m => by
    simp only [gaEs]
    exact (gaE_les x m).trans (gaEs_les r _)
end
theorem gaN_has (k n : Int) (kids : List Ltl) (m : Mk2) : (k = 3 → n ∈ (gaN k n (.mk k n kids) m).1) ∧ ((k = 7 ∨ k = 8 ∨ k = 9) → .mk k n kids ∈ (gaN k n (.mk k n kids) m).2) := by
  unfold gaN
  refine ⟨fun h => ?_, fun h => ?_⟩
  · rw [if_pos h]
    dsimp only
    split
    · assumption
    · exact List.mem_append_right _ (by simp)
  · rw [if_neg (by omega), if_pos h]
    dsimp only
    split
    · rename_i hs
      rw [List.any_eq_true] at hs
      obtain ⟨x, hx, hs⟩ := hs
      rw [(sameB_iff _ _).1 hs]
      exact hx
    · exact List.mem_append_right _ (by simp)
mutual
theorem gaE_cov : ∀ (t : Ltl) (m : Mk2), Cov (gaE t m) t
  | .mk k n kids, m => by
    simp only [Cov, gaE]
    have h := gaN_has k n kids m
    have hl := gaEs_les kids (gaN k n (.mk k n kids) m)
    exact ⟨fun e => hl.1 _ (h.1 e), fun e => hl.2 _ (h.2 e), gaEs_cov kids _⟩
theorem gaEs_cov : ∀ (l : List Ltl) (m : Mk2), Covs (gaEs l m) l
  | [], m => trivial
  | x :: r, m => by
    simp only [Covs, gaEs]
    exact ⟨Cov.les (gaEs_les r _) x (gaE_cov x m), gaEs_cov r _⟩
end
/-- what a list of elements is -/
structure OkM (m : Mk2) : Prop where
  na : m.1.Nodup
  ra : ∀ x ∈ m.1, 0 ≤ x ∧ x ≤ 63
  wp : ∀ g ∈ m.2, wfT g ∧ (g.k = 7 ∨ g.k = 8 ∨ g.k = 9) ∧ hasB g 10 = false ∧ hasB g 11 = false
theorem OkM.nil : OkM ([], []) := ⟨List.Pairwise.nil, (fun x hx => by cases hx), (fun x hx => by cases hx)⟩
theorem gaN_ok {k n : Int} {kids : List Ltl} {m : Mk2} (hm : OkM m) (hw : wfT (.mk k n kids)) (h0 : hasB (.mk k n kids) 10 = false) (h1 : hasB (.mk k n kids) 11 = false) : OkM (gaN k n (.mk k n kids) m) := by
  unfold gaN
  simp only [wfT] at hw
  split
  · refine ⟨?_, fun x hx => ?_, hm.wp⟩
    · dsimp only
      split
      · exact hm.na
      · rename_i hn
        rw [List.nodup_append]
        exact ⟨hm.na, List.pairwise_singleton _ _, fun a ha b hb e => hn (by rw [List.mem_singleton] at hb; rw [← hb, ← e]; exact ha)⟩
    · dsimp only at hx
      split at hx
      · exact hm.ra x hx
      · rcases List.mem_append.1 hx with hx | hx
        · exact hm.ra x hx
        · rw [List.mem_singleton] at hx; subst hx; exact ⟨hw.2.1, hw.2.2.1⟩
  · split
    · rename_i hk
      refine ⟨hm.na, hm.ra, fun g hg => ?_⟩
      dsimp only at hg
      split at hg
      · exact hm.wp g hg
      · rcases List.mem_append.1 hg with hg | hg
        · exact hm.wp g hg
        · rw [List.mem_singleton] at hg; subst hg
          exact ⟨by simp only [wfT]; exact hw, hk, h0, h1⟩
    · exact hm
mutual
theorem gaE_ok : ∀ (t : Ltl) (m : Mk2), OkM m → wfT t → hasB t 10 = false → hasB t 11 = false → OkM (gaE t m)
  | .mk k n kids, m, hm, hw, h0, h1 => by
    have h := gaN_ok hm hw h0 h1
    simp only [gaE]
    simp only [wfT] at hw
    simp only [hasB, Bool.or_eq_false_iff] at h0 h1
    exact gaEs_ok kids _ h hw.2.2.2.2 h0.2 h1.2
theorem gaEs_ok : ∀ (l : List Ltl) (m : Mk2), OkM m → wfTs l → hasBs l 10 = false → hasBs l 11 = false → OkM (gaEs l m)
  | [], m, hm, _, _, _ => hm
  | x :: r, m, hm, hw, h0, h1 => by
    simp only [gaEs]
    simp only [wfTs] at hw
    simp only [hasBs, Bool.or_eq_false_iff] at h0 h1
    exact gaEs_ok r _ (gaE_ok x m hm hw.1 h0.1 h1.1) hw.2 h0.2 h1.2
end
theorem Covs.get {m : Mk2} : ∀ {l : List Ltl}, Covs m l → ∀ x ∈ l, Cov m x
  | [], _, x, hx => by cases hx
  | y :: r, h, x, hx => by
    simp only [Covs] at h
    rcases List.mem_cons.1 hx with rfl | hx
    · exact h.1
    · exact Covs.get h.2 x hx
/-- parts of parts are covered -/
def Clo (m m' : Mk2) : Prop := ∀ g ∈ m.2, Cov m' g
mutual
theorem gaE_clo : ∀ (t : Ltl) (m m' : Mk2), Les (gaE t m) m' → Clo m m' → Clo (gaE t m) m'
  | .mk k n kids, m, m', hl, hc => by
    have h1 := Cov.les hl _ (gaE_cov (.mk k n kids) m)
    simp only [gaE] at hl ⊢
    refine gaEs_clo kids _ m' hl fun g hg => ?_
    unfold gaN at hg
    split at hg
    · exact hc g hg
    · split at hg
      · dsimp only at hg
        split at hg
        · exact hc g hg
        · rcases List.mem_append.1 hg with hg | hg
          · exact hc g hg
          · rw [List.mem_singleton] at hg; subst hg; exact h1
      · exact hc g hg
theorem gaEs_clo : ∀ (l : List Ltl) (m m' : Mk2), Les (gaEs l m) m' → Clo m m' → Clo (gaEs l m) m'
  | [], m, m', _, hc => hc
  | x :: r, m, m', hl, hc => by
    simp only [gaEs] at hl ⊢
    exact gaEs_clo r _ m' hl (gaE_clo x m m' ((gaEs_les r _).trans hl) hc)
end

/- STATES -/
def partI (m : Mk2) (t : Ltl) : Int := idxOf (sameB t) m.2
def atomI (m : Mk2) (n : Int) : Int := idxOf (fun y => n == y) m.1
def choB (m : Mk2) (s : Nat) (t : Ltl) : Bool := if t.k = 3 then s.testBit (atomI m t.n).toNat else s.testBit (m.1.length + (partI m t).toNat)
mutual
def hoB (m : Mk2) (s : Nat) : Ltl → Bool
  | .mk k n kids =>
    if k = 1 then true else if k = 2 then false
    else if k = 4 then !((hoBs m s kids).getD 0 false)
    else if k = 5 then (hoBs m s kids).getD 0 false && (hoBs m s kids).getD 1 false
    else if k = 6 then (hoBs m s kids).getD 0 false || (hoBs m s kids).getD 1 false
    else if k = 8 then (hoBs m s kids).getD 1 false || ((hoBs m s kids).getD 0 false && choB m s (.mk k n kids))
    else if k = 9 then (hoBs m s kids).getD 1 false && ((hoBs m s kids).getD 0 false || choB m s (.mk k n kids))
    else choB m s (.mk k n kids)
def hoBs (m : Mk2) (s : Nat) : List Ltl → List Bool
  | [] => []
  | x :: r => hoB m s x :: hoBs m s r
end
def argE (g : Ltl) : Ltl := if g.k = 7 then g.kids.getD 0 (.mk 0 0 []) else g
def nilT : Ltl := .mk 0 0 []
def keepN (m : Mk2) (s : Nat) : Nat := packB (fun i => hoB m s (argE (m.2.getD i nilT))) m.2.length
def bitP (at' : List Int) (s : Nat) (is : Bool) : Nat → Nat
  | 0 => 0
  | c + 1 => if s.testBit c = is then bitP at' s is c ||| (1 <<< (at'.getD c 0).toNat) else bitP at' s is c
def bitsN (m : Mk2) (s : Nat) (is : Bool) : Nat := bitP m.1 s is m.1.length
def fairB (m : Mk2) (g : Ltl) (s : Nat) : Bool := if g.k = 8 then !(hoB m s g) || hoB m s (g.kids.getD 1 nilT) else hoB m s g || !(hoB m s (g.kids.getD 1 nilT))
theorem bitP_bit {at' : List Int} {s : Nat} {is : Bool} {a : Nat} : ∀ {c : Nat}, (bitP at' s is c).testBit a = true ↔ ∃ i, i < c ∧ s.testBit i = is ∧ (at'.getD i 0).toNat = a
  | 0 => by simp [bitP]
  | c + 1 => by
    rw [bitP]
    by_cases h : s.testBit c = is
    · rw [if_pos h, Nat.testBit_or, Bool.or_eq_true, bitP_bit, bit_one, decide_eq_true_eq]
      constructor
      · rintro (⟨i, h1, h2⟩ | h1)
        · exact ⟨i, by omega, h2⟩
        · exact ⟨c, by omega, h, h1.symm⟩
      · rintro ⟨i, h1, h2, h3⟩
        by_cases e : i = c
        · subst e; exact .inr h3.symm
        · exact .inl ⟨i, by omega, h2, h3⟩
    · rw [if_neg h, bitP_bit]
      constructor
      · rintro ⟨i, h1, h2⟩; exact ⟨i, by omega, h2⟩
      · rintro ⟨i, h1, h2, h3⟩
        by_cases e : i = c
        · subst e; exact absurd h2 h
        · exact ⟨i, by omega, h2, h3⟩
theorem bitP_lt {at' : List Int} {s : Nat} {is : Bool} (h : ∀ x ∈ at', x ≤ 63) : ∀ {c : Nat}, c ≤ at'.length → bitP at' s is c < 2 ^ 64
  | 0, _ => by simp [bitP]
  | c + 1, hc => by
    have h1 := bitP_lt (s := s) (is := is) h (c := c) (by omega)
    rw [bitP]
    split
    · refine Nat.or_lt_two_pow h1 ?_
      rw [Nat.one_shiftLeft]
      have := h (at'.getD c 0) (by rw [List.getD_eq_getElem?_getD, List.getElem?_eq_getElem (by omega)]; exact List.getElem_mem _)
      exact Nat.pow_lt_pow_right (by omega) (by omega)
    · exact h1
/-- a place of a list -/
theorem idxOf_in {α : Type} {p : α → Bool} {l : List α} {x : α} (hx : x ∈ l) (hp : p x = true) (hu : ∀ y, p y = true → y = x) : ∃ i, ∃ h : i < l.length, idxOf p l = (i : Int) ∧ l[i] = x := by
  unfold idxOf
  cases e : l.findIdx? p with
  | none =>
    rw [List.findIdx?_eq_none_iff] at e
    rw [e x hx] at hp; cases hp
  | some i =>
    obtain ⟨h1, h2, _⟩ := List.findIdx?_eq_some_iff_getElem.1 e
    exact ⟨i, h1, rfl, hu _ h2⟩
theorem partI_in {m : Mk2} {t : Ltl} (h : t ∈ m.2) : ∃ i, ∃ h : i < m.2.length, partI m t = (i : Int) ∧ m.2[i] = t :=
  idxOf_in h (sameB_self t) (fun y hy => ((sameB_iff _ _).1 hy).symm)
theorem atomI_in {m : Mk2} {n : Int} (h : n ∈ m.1) : ∃ i, ∃ h : i < m.1.length, atomI m n = (i : Int) ∧ m.1[i] = n :=
  idxOf_in h (by simp) (fun y hy => by simpa using Eq.symm (by simpa using hy))
section
variable {m : Mk2} {s : Nat} {n : Int} {a b : Ltl}
theorem ho1 : hoB m s (.mk 1 n []) = true := by simp [hoB]
theorem ho2 : hoB m s (.mk 2 n []) = false := by simp [hoB]
theorem ho3 : hoB m s (.mk 3 n []) = s.testBit (atomI m n).toNat := by simp [hoB, choB, Ltl.k, Ltl.n]
theorem ho4 : hoB m s (.mk 4 n [a]) = !hoB m s a := by simp [hoB, hoBs]
theorem ho5 : hoB m s (.mk 5 n [a, b]) = (hoB m s a && hoB m s b) := by simp [hoB, hoBs]
theorem ho6 : hoB m s (.mk 6 n [a, b]) = (hoB m s a || hoB m s b) := by simp [hoB, hoBs]
theorem ho7 : hoB m s (.mk 7 n [a]) = s.testBit (m.1.length + (partI m (.mk 7 n [a])).toNat) := by simp [hoB, choB, Ltl.k]
theorem ho8 : hoB m s (.mk 8 n [a, b]) = (hoB m s b || (hoB m s a && s.testBit (m.1.length + (partI m (.mk 8 n [a, b])).toNat))) := by simp [hoB, hoBs, choB, Ltl.k]
theorem ho9 : hoB m s (.mk 9 n [a, b]) = (hoB m s b && (hoB m s a || s.testBit (m.1.length + (partI m (.mk 9 n [a, b])).toNat))) := by simp [hoB, hoBs, choB, Ltl.k]
end
end Go.Proofs.Ytllpfgcngokhnaa
/-
  What comes from some nodes of a graph: plain lists, no program in sight.
-/
set_option linter.unusedVariables false
set_option linter.unusedSimpArgs false
namespace Go.Proofs.Ytllpfgcngokhnaa

abbrev Graph := List (List Int)
inductive Rch (g : Graph) (from' : List Int) : Nat → Prop
  | base {x : Int} : x ∈ from' → Rch g from' x.toNat
  | step {n : Nat} {x : Int} : Rch g from' n → x ∈ g.getD n [] → Rch g from' x.toNat
open Classical in
noncomputable def rchB (g : Graph) (from' : List Int) : List Bool := (List.range g.length).map fun n => decide (Rch g from' n)
theorem rchB_len (g : Graph) (f : List Int) : (rchB g f).length = g.length := by simp [rchB]
theorem rchB_get {g : Graph} {f : List Int} {n : Nat} (h : n < g.length) : (rchB g f)[n]? = some (@decide (Rch g f n) (Classical.propDecidable _)) := by
  simp [rchB, h]
theorem rchB_iff {g : Graph} {f : List Int} {n : Nat} (h : n < (rchB g f).length) : (rchB g f)[n] = true ↔ Rch g f n := by
  have h' : n < g.length := by rwa [rchB_len] at h
  simp [rchB]

/-- all its numbers are nodes -/
def okL (n : Nat) (l : List Int) : Prop := ∀ x ∈ l, 0 ≤ x ∧ x < n
def okG (g : Graph) : Prop := ∀ l ∈ g, okL g.length l
theorem okG_row {g : Graph} (h : okG g) (n : Nat) : okL g.length (g.getD n []) := by
  intro x hx
  by_cases hn : n < g.length
  · rw [List.getD_eq_getElem?_getD, List.getElem?_eq_getElem hn] at hx
    exact h _ (List.getElem_mem hn) x hx
  · rw [List.getD_eq_getElem?_getD, List.getElem?_eq_none (by omega)] at hx
    simp at hx

/-- what is still to be looked at -/
def pot : Graph → List Bool → Nat
  | l :: g, s :: r => (match s with | true => 0 | false => l.length + 1) + pot g r
  | _, _ => 0
theorem pot_set : ∀ (g : Graph) (seen : List Bool) (n : Nat), n < g.length → seen.length = g.length → seen.getD n true = false → pot g (seen.set n true) + (g.getD n []).length + 1 = pot g seen
  | [], _, n, h, _, _ => absurd h (by simp)
  | l :: g, [], n, _, h, _ => absurd h (by simp)
  | l :: g, s :: r, 0, _, _, h => by
    simp at h; subst h; simp [pot]; omega
  | l :: g, s :: r, n + 1, h1, h2, h3 => by
    have := pot_set g r n (by simpa using h1) (by simpa using h2) (by simpa using h3)
    simp only [List.set_cons_succ, pot, List.getD_cons_succ]
    omega
def edges (g : Graph) : Nat := (g.map List.length).sum
theorem pot_start : ∀ g : Graph, pot g (List.replicate g.length false) = edges g + g.length
  | [] => rfl
  | l :: g => by
    simp only [List.length_cons, List.replicate_succ, pot, pot_start g, edges, List.map_cons, List.sum_cons]
    omega

structure RInv (g : Graph) (f : List Int) (seen : List Bool) (todo : List Int) : Prop where
  len : seen.length = g.length
  ok : okL g.length todo
  sound : ∀ n, seen.getD n false = true → Rch g f n
  tsound : ∀ x ∈ todo, Rch g f x.toNat
  base : ∀ x ∈ f, seen.getD x.toNat false = true ∨ x ∈ todo
  clo : ∀ n, seen.getD n false = true → ∀ x ∈ g.getD n [], seen.getD x.toNat false = true ∨ x ∈ todo

theorem getD_set {l : List Bool} {n k : Nat} {b : Bool} (h : n < l.length) : (l.set n b).getD k false = if n = k then b else l.getD k false := by
  simp only [List.getD_eq_getElem?_getD, List.getElem?_set]
  split
  · subst_vars; simp [h]
  · rfl
theorem getD_rep {n k : Nat} : (List.replicate n false).getD k false = false := by
  simp only [List.getD_eq_getElem?_getD, List.getElem?_replicate]
  split <;> rfl
theorem RInv.start {g : Graph} {f : List Int} (hf : okL g.length f) : RInv g f (List.replicate g.length false) f where
  len := by simp
  ok := hf
  sound := fun n h => by rw [getD_rep] at h; cases h
  tsound := fun x hx => .base hx
  base := fun x hx => .inr hx
  clo := fun n h => by rw [getD_rep] at h; cases h
theorem RInv.pass {g : Graph} {f : List Int} {seen : List Bool} {todo : List Int} {x : Int} (h : RInv g f seen (todo ++ [x])) (hs : seen.getD x.toNat false = true) : RInv g f seen todo where
  len := h.len
  ok := fun y hy => h.ok y (by simp [hy])
  sound := h.sound
  tsound := fun y hy => h.tsound y (by simp [hy])
  base := fun y hy => by
    rcases h.base y hy with h1 | h1
    · exact .inl h1
    · rcases List.mem_append.1 h1 with h2 | h2
      · exact .inr h2
      · simp at h2; subst h2; exact .inl hs
  clo := fun n hn y hy => by
    rcases h.clo n hn y hy with h1 | h1
    · exact .inl h1
    · rcases List.mem_append.1 h1 with h2 | h2
      · exact .inr h2
      · simp at h2; subst h2; exact .inl hs
theorem RInv.mark {g : Graph} {f : List Int} {seen : List Bool} {todo : List Int} {x : Int} (hg : okG g) (h : RInv g f seen (todo ++ [x])) : RInv g f (seen.set x.toNat true) (todo ++ g.getD x.toNat []) := by
  have hx := h.ok x (by simp)
  have hlt : x.toNat < seen.length := by rw [h.len]; omega
  have key : ∀ y, seen.getD y.toNat false = true ∨ y ∈ todo ++ [x] → (seen.set x.toNat true).getD y.toNat false = true ∨ y ∈ todo ++ g.getD x.toNat [] := by
    intro y hy
    rw [getD_set hlt]
    rcases hy with h1 | h1
    · left; split
      · rfl
      · exact h1
    · rcases List.mem_append.1 h1 with h2 | h2
      · exact .inr (by simp [h2])
      · simp at h2; subst h2; left; simp
  refine ⟨by simpa using h.len, ?_, ?_, ?_, ?_, ?_⟩
  · intro y hy
    rcases List.mem_append.1 hy with h1 | h1
    · exact h.ok y (by simp [h1])
    · exact okG_row hg _ y h1
  · intro n hn
    rw [getD_set hlt] at hn
    split at hn
    · rename_i e; subst e; exact h.tsound x (by simp)
    · exact h.sound n hn
  · intro y hy
    rcases List.mem_append.1 hy with h1 | h1
    · exact h.tsound y (by simp [h1])
    · exact .step (h.tsound x (by simp)) h1
  · intro y hy; exact key y (h.base y hy)
  · intro n hn y hy
    rw [getD_set hlt] at hn
    split at hn
    · rename_i e; subst e; exact .inr (List.mem_append.2 (.inr hy))
    · exact key y (h.clo n hn y hy)
theorem RInv.done {g : Graph} {f : List Int} {seen : List Bool} (h : RInv g f seen []) : seen = rchB g f := by
  have all : ∀ n, Rch g f n → seen.getD n false = true := by
    intro n hn
    induction hn with
    | base hx => exact (h.base _ hx).resolve_right (by simp)
    | step _ hx ih => exact (h.clo _ ih _ hx).resolve_right (by simp)
  apply List.ext_getElem (by rw [h.len, rchB_len])
  intro n h1 h2
  have e1 : seen.getD n false = seen[n] := by simp [List.getD_eq_getElem?_getD, h1]
  rw [Bool.eq_iff_iff, rchB_iff h2, ← e1]
  exact ⟨h.sound n, all n⟩

/-- the search itself, to be run on small graphs -/
def dfs (g : Graph) : Nat → List Bool → List Int → List Bool
  | 0, seen, _ => seen
  | k + 1, seen, todo => match todo.reverse with
    | [] => seen
    | x :: r => match seen.getD x.toNat false with
      | true => dfs g k seen r.reverse
      | false => dfs g k (seen.set x.toNat true) (r.reverse ++ g.getD x.toNat [])
theorem dfs_eq {g : Graph} {f : List Int} (hg : okG g) : ∀ (k : Nat) (seen : List Bool) (todo : List Int), RInv g f seen todo → todo.length + pot g seen ≤ k → dfs g k seen todo = rchB g f := by
  intro k
  induction k with
  | zero =>
    intro seen todo h hk
    have : todo = [] := List.eq_nil_of_length_eq_zero (by omega)
    subst this
    exact h.done
  | succ k ih =>
    intro seen todo h hk
    unfold dfs
    split
    · rename_i he
      have : todo = [] := by simpa using he
      subst this
      exact h.done
    · rename_i x r he
      have ht : todo = r.reverse ++ [x] := by
        have := congrArg List.reverse he
        simpa using this
      subst ht
      have hx := h.ok x (by simp)
      split
      · rename_i hs
        exact ih _ _ (h.pass hs) (by simp at hk ⊢; omega)
      · rename_i hs
        have hxl : x.toNat < seen.length := by rw [h.len]; omega
        have hp := pot_set g seen x.toNat (by omega) h.len (by
          simp only [List.getD_eq_getElem?_getD, List.getElem?_eq_getElem hxl, Option.getD_some] at hs ⊢; exact hs)
        exact ih _ _ (RInv.mark hg h) (by simp only [List.length_append, List.length_cons, List.length_nil] at hk ⊢; omega)
theorem rchB_run {g : Graph} {f : List Int} (hg : okG g) (hf : okL g.length f) (k : Nat) (hk : f.length + edges g + g.length ≤ k) : rchB g f = dfs g k (List.replicate g.length false) f :=
  (dfs_eq hg k _ _ (RInv.start hf) (by rw [pot_start]; omega)).symm

/- WHAT THE LAW SAYS -/
theorem Rch.mono {g : Graph} {a b : List Int} (h : ∀ x ∈ a, x ∈ b) {n : Nat} (hn : Rch g a n) : Rch g b n := by
  induction hn with
  | base hx => exact .base (h _ hx)
  | step _ hx ih => exact .step ih hx
theorem Rch.app {g : Graph} {a b : List Int} {n : Nat} : Rch g (a ++ b) n ↔ Rch g a n ∨ Rch g b n := by
  constructor
  · intro h
    induction h with
    | base hx =>
      rcases List.mem_append.1 hx with h | h
      · exact .inl (.base h)
      · exact .inr (.base h)
    | step _ hx ih => exact ih.imp (fun h => .step h hx) (fun h => .step h hx)
  · rintro (h | h)
    · exact h.mono fun x hx => by simp [hx]
    · exact h.mono fun x hx => by simp [hx]

/- CHECKS -/
def oddB (n : Nat) (l : List Int) : Bool := l.any fun x => decide (x < 0 ∨ x ≥ n)
theorem oddB_false {n : Nat} {l : List Int} : oddB n l = false ↔ okL n l := by
  unfold oddB okL
  rw [List.any_eq_false]
  constructor
  · intro h x hx; have := h x hx; simp at this; omega
  · intro h x hx; have := h x hx; simp; omega
def chkG (g : Graph) : Int := match decide (g.length > 20000), g.any (oddB g.length) with
  | true, _ => 2
  | false, true => 1
  | false, false => 0
theorem chkG_ok {g : Graph} (h : chkG g = 0) : okG g ∧ g.length ≤ 20000 := by
  unfold chkG at h
  split at h
  · cases h
  · cases h
  · rename_i h1 h2
    simp at h1
    refine ⟨fun l hl => oddB_false.1 ?_, h1⟩
    rw [List.any_eq_false] at h2
    simpa using h2 l hl
end Go.Proofs.Ytllpfgcngokhnaa
/-
  Ways through a graph that meet sets again and again: plain lists, no program in sight.
-/
set_option linter.unusedVariables false
set_option linter.unusedSimpArgs false
namespace Go.Proofs.Ytllpfgcngokhnaa

/-- n steps of E along p -/
structure Wlk (E : Nat → Nat → Prop) (p : Nat → Nat) (n a b : Nat) : Prop where
  first : p 0 = a
  last : p n = b
  step : ∀ i, i < n → E (p i) (p (i + 1))
def glue (p q : Nat → Nat) (n : Nat) : Nat → Nat := fun i => if i < n then p i else q (i - n)
theorem glue_lt {p q : Nat → Nat} {n i : Nat} (h : i < n) : glue p q n i = p i := by unfold glue; rw [if_pos h]
theorem glue_ge {p q : Nat → Nat} {n i : Nat} (h : n ≤ i) : glue p q n i = q (i - n) := by unfold glue; rw [if_neg (by omega)]
theorem glue_le {p q : Nat → Nat} {n i : Nat} (h : i ≤ n) (he : p n = q 0) : glue p q n i = p i := by
  by_cases hi : i < n
  · exact glue_lt hi
  · obtain rfl : i = n := by omega
    rw [glue_ge (Nat.le_refl _), Nat.sub_self, he]
theorem Wlk.trans {E : Nat → Nat → Prop} {p q : Nat → Nat} {n m a b c : Nat} (h : Wlk E p n a b) (k : Wlk E q m b c) : Wlk E (glue p q n) (n + m) a c := by
  have he : p n = q 0 := h.last.trans k.first.symm
  refine ⟨(glue_le (Nat.zero_le _) he).trans h.first, ?_, fun i hi => ?_⟩
  · rw [glue_ge (by omega), show n + m - n = m by omega]; exact k.last
  · by_cases hn : i < n
    · rw [glue_lt hn, glue_le (i := i + 1) (Nat.succ_le_of_lt hn) he]; exact h.step i hn
    · rw [glue_ge (by omega), glue_ge (by omega), show i + 1 - n = (i - n) + 1 by omega]
      exact k.step _ (by omega)
def Rc (E : Nat → Nat → Prop) (a b : Nat) : Prop := ∃ p n, Wlk E p n a b
theorem Rc.refl {E : Nat → Nat → Prop} (a : Nat) : Rc E a a := ⟨fun _ => a, 0, rfl, rfl, fun i h => absurd h (by omega)⟩
theorem Rc.trans {E : Nat → Nat → Prop} {a b c : Nat} : Rc E a b → Rc E b c → Rc E a c
  | ⟨_, _, h⟩, ⟨_, _, k⟩ => ⟨_, _, h.trans k⟩
theorem Wlk.one {E : Nat → Nat → Prop} {a b : Nat} (h : E a b) : Wlk E (fun i => if i = 0 then a else b) 1 a b :=
  ⟨rfl, rfl, fun i hi => by obtain rfl : i = 0 := by omega
                            exact h⟩
theorem Rc.one {E : Nat → Nat → Prop} {a b : Nat} (h : E a b) : Rc E a b := ⟨_, _, Wlk.one h⟩
theorem Rc.of_way {E : Nat → Nat → Prop} {r : Nat → Nat} (h : ∀ i, E (r i) (r (i + 1))) {i j : Nat} (hij : i ≤ j) : Rc E (r i) (r j) :=
  ⟨fun k => r (i + k), j - i, by simp, by rw [show i + (j - i) = j by omega], fun k _ => by
    have := h (i + k)
    rwa [show i + k + 1 = i + (k + 1) by omega] at this⟩
theorem Rc.mono {E E' : Nat → Nat → Prop} (h : ∀ a b, E a b → E' a b) {a b : Nat} : Rc E a b → Rc E' a b
  | ⟨p, n, k⟩ => ⟨p, n, k.first, k.last, fun i hi => h _ _ (k.step i hi)⟩

theorem inf_often : ∀ (N : Nat) (r : Nat → Nat), (∀ i, r i < N) → ∃ v, v < N ∧ ∀ i, ∃ j, i ≤ j ∧ r j = v
  | 0, r, h => absurd (h 0) (by omega)
  | N + 1, r, h => by
    by_cases hv : ∀ i, ∃ j, i ≤ j ∧ r j = N
    · exact ⟨N, by omega, hv⟩
    · obtain ⟨i0, h0⟩ := Classical.not_forall.1 hv
      have h1 : ∀ j, i0 ≤ j → r j ≠ N := fun j hj he => h0 ⟨j, hj, he⟩
      obtain ⟨v, hv1, hv2⟩ := inf_often N (fun k => r (i0 + k)) (fun k => by
        have a := h (i0 + k); have b := h1 (i0 + k) (by omega); omega)
      refine ⟨v, by omega, fun i => ?_⟩
      obtain ⟨j, hj1, hj2⟩ := hv2 i
      exact ⟨i0 + j, by omega, hj2⟩

/-- a round from v that meets all of some sets -/
theorem loop_all {E : Nat → Nat → Prop} {v u : Nat} (hu : E v u) (hb : Rc E u v) : ∀ Ps : List (Nat → Prop), (∀ P ∈ Ps, ∃ x, P x ∧ Rc E v x ∧ Rc E x v) →
    ∃ p n, 0 < n ∧ Wlk E p n v v ∧ ∀ P ∈ Ps, ∃ i, i < n ∧ P (p i)
  | [], _ => by
    obtain ⟨q, m, hq⟩ := hb
    exact ⟨_, _, by omega, (Wlk.one hu).trans hq, fun P hP => by cases hP⟩
  | P :: Ps, h => by
    obtain ⟨p, n, hn, hp, hall⟩ := loop_all hu hb Ps (fun Q hQ => h Q (by simp [hQ]))
    obtain ⟨x, hx, ⟨q1, n1, h1⟩, ⟨q2, n2, h2⟩⟩ := h P (by simp)
    refine ⟨glue p (glue q1 q2 n1) n, n + (n1 + n2), by omega, hp.trans (h1.trans h2), fun Q hQ => ?_⟩
    rcases List.mem_cons.1 hQ with rfl | hQ
    · by_cases h0 : n2 = 0
      · subst h0
        have hxv : x = v := h2.first.symm.trans h2.last
        exact ⟨0, by omega, by rw [glue_lt hn, hp.first, ← hxv]; exact hx⟩
      · refine ⟨n + n1, by omega, ?_⟩
        rw [glue_ge (by omega), show n + n1 - n = n1 by omega, glue_ge (Nat.le_refl _), Nat.sub_self, h2.first]
        exact hx
    · obtain ⟨i, hi, hq⟩ := hall Q hQ
      exact ⟨i, by omega, by rw [glue_lt hi]; exact hq⟩

/-- a way without end from a that meets each of some sets again and again -/
def Way8 (E : Nat → Nat → Prop) (Ps : List (Nat → Prop)) (r : Nat → Nat) : Prop := (∀ i, E (r i) (r (i + 1))) ∧ ∀ P ∈ Ps, ∀ i, ∃ j, i ≤ j ∧ P (r j)
def Core (E : Nat → Nat → Prop) (Ps : List (Nat → Prop)) (v : Nat) : Prop := (∃ u, E v u ∧ Rc E u v) ∧ ∀ P ∈ Ps, ∃ x, P x ∧ Rc E v x ∧ Rc E x v
theorem way8_core {E : Nat → Nat → Prop} {Ps : List (Nat → Prop)} {N : Nat} {r : Nat → Nat} (hN : ∀ i, r i < N) (h : Way8 E Ps r) : ∃ v, Rc E (r 0) v ∧ Core E Ps v ∧ ∃ i, r i = v := by
  obtain ⟨v, _, hv⟩ := inf_often N r hN
  obtain ⟨i0, _, h0⟩ := hv 0
  refine ⟨v, by rw [← h0]; exact Rc.of_way h.1 (Nat.zero_le _), ⟨⟨r (i0 + 1), by rw [← h0]; exact h.1 i0, ?_⟩, fun P hP => ?_⟩, i0, h0⟩
  · obtain ⟨j, hj, hr⟩ := hv (i0 + 1)
    rw [← hr]; exact Rc.of_way h.1 hj
  · obtain ⟨j, hj, hr⟩ := h.2 P hP i0
    obtain ⟨k, hk, hkr⟩ := hv j
    exact ⟨r j, hr, by rw [← h0]; exact Rc.of_way h.1 hj, by rw [← hkr]; exact Rc.of_way h.1 hk⟩
/-- a stem, and a round again and again -/
def lassoW (q p : Nat → Nat) (m n : Nat) : Nat → Nat := glue q (fun i => p (i % n)) m
theorem lassoW_step {E : Nat → Nat → Prop} {q p : Nat → Nat} {m n a v : Nat} (hn : 0 < n) (hq : Wlk E q m a v) (hp : Wlk E p n v v) : ∀ i, E (lassoW q p m n i) (lassoW q p m n (i + 1)) := by
  intro i
  have he : q m = (fun i => p (i % n)) 0 := by show _ = p (0 % n); rw [Nat.zero_mod, hp.first, hq.last]
  unfold lassoW
  by_cases h : i < m
  · rw [glue_lt h, glue_le (q := fun i => p (i % n)) (i := i + 1) (Nat.succ_le_of_lt h) he]; exact hq.step i h
  · rw [glue_ge (by omega), glue_ge (by omega), show i + 1 - m = (i - m) + 1 by omega]
    generalize i - m = k
    have hlt := Nat.mod_lt k hn
    have hs := hp.step (k % n) hlt
    show E (p (k % n)) (p ((k + 1) % n))
    by_cases h1 : k % n + 1 = n
    · rw [h1, hp.last] at hs
      have : (k + 1) % n = 0 := by rw [Nat.add_mod]; by_cases hn1 : n = 1
                                   · subst hn1; omega
                                   · rw [Nat.mod_eq_of_lt (show 1 < n by omega), h1, Nat.mod_self]
      rw [this, hp.first]; exact hs
    · have : (k + 1) % n = k % n + 1 := by
        rw [Nat.add_mod, Nat.mod_eq_of_lt (show 1 < n by omega), Nat.mod_eq_of_lt (by omega)]
      rw [this]; exact hs
theorem core_way8 {E : Nat → Nat → Prop} {Ps : List (Nat → Prop)} {a v : Nat} (hr : Rc E a v) (h : Core E Ps v) : ∃ r, r 0 = a ∧ Way8 E Ps r := by
  obtain ⟨⟨u, hu, hb⟩, hP⟩ := h
  obtain ⟨p, n, hn, hp, hall⟩ := loop_all hu hb Ps hP
  obtain ⟨q, m, hq⟩ := hr
  refine ⟨lassoW q p m n, ?_, lassoW_step hn hq hp, fun P hP i => ?_⟩
  · have he : q m = (fun i => p (i % n)) 0 := by show _ = p (0 % n); rw [Nat.zero_mod, hp.first, hq.last]
    show glue q (fun i => p (i % n)) m 0 = a
    rw [glue_le (q := fun i => p (i % n)) (Nat.zero_le _) he]; exact hq.first
  · obtain ⟨k, hk, hx⟩ := hall P hP
    refine ⟨m + (i * n + k), by have := Nat.le_mul_of_pos_right i hn; omega, ?_⟩
    unfold lassoW
    rw [glue_ge (by omega), show m + (i * n + k) - m = i * n + k by omega]
    show P (p ((i * n + k) % n))
    rw [Nat.add_comm, Nat.add_mul_mod_self_right, Nat.mod_eq_of_lt hk]
    exact hx
theorem fair_iff {E : Nat → Nat → Prop} {Ps : List (Nat → Prop)} {N a : Nat} (hN : ∀ u v, E u v → v < N) (ha : a < N) : (∃ r, r 0 = a ∧ Way8 E Ps r) ↔ ∃ v, Rc E a v ∧ Core E Ps v := by
  constructor
  · rintro ⟨r, h0, h⟩
    obtain ⟨v, h1, h2, _⟩ := way8_core (N := N) (fun i => by
      cases i with
      | zero => rw [h0]; exact ha
      | succ i => exact hN _ _ (h.1 i)) h
    exact ⟨v, by rw [← h0]; exact h1, h2⟩
  · rintro ⟨v, h1, h2⟩
    exact core_way8 h1 h2

/- GRAPHS OF LISTS -/
def Eg (g : Graph) (u v : Nat) : Prop := (v : Int) ∈ g.getD u []
theorem Eg.lt {g : Graph} (hg : okG g) {u v : Nat} (h : Eg g u v) : v < g.length := by have := okG_row hg u _ h; omega
theorem rch_rc {g : Graph} (hg : okG g) {f : List Int} (hf : ∀ x ∈ f, 0 ≤ x) {b : Nat} : Rch g f b ↔ ∃ a : Nat, (a : Int) ∈ f ∧ Rc (Eg g) a b := by
  constructor
  · intro h
    induction h with
    | base hx => rename_i x; exact ⟨x.toNat, by rw [show ((x.toNat : Nat) : Int) = x by have := hf x hx; omega]; exact hx, Rc.refl _⟩
    | step _ hx ih =>
      obtain ⟨a, h1, h2⟩ := ih
      refine ⟨a, h1, h2.trans (Rc.one ?_)⟩
      rename_i n x _
      have := (okG_row hg n x hx).1
      show ((x.toNat : Nat) : Int) ∈ _
      rw [show ((x.toNat : Nat) : Int) = x by omega]; exact hx
  · rintro ⟨a, h1, p, n, h⟩
    have : ∀ i, i ≤ n → Rch g f (p i) := by
      intro i
      induction i with
      | zero => intro _; rw [h.first]; exact Rch.base (x := (a : Int)) h1
      | succ i ih => intro hi; exact Rch.step (x := (p (i + 1) : Int)) (ih (by omega)) (h.step i (by omega))
    rw [← h.last]; exact this n (Nat.le_refl _)
theorem rch1 {g : Graph} (hg : okG g) {a b : Nat} : Rch g [(a : Int)] b ↔ Rc (Eg g) a b := by
  rw [rch_rc hg (fun x hx => by simp at hx; omega)]
  constructor
  · rintro ⟨c, hc, h⟩
    simp at hc
    obtain rfl : c = a := by omega
    exact h
  · exact fun h => ⟨a, by simp, h⟩
end Go.Proofs.Ytllpfgcngokhnaa
/-
  Package scc: contracts of its simple functions.
-/
set_option linter.unusedVariables false
set_option linter.unusedSimpArgs false
namespace Go.Proofs.Ytllpfgcngokhnaa
open Go.RowKit

/-- 'n < 0 || n >= len(g)', g boxed -/
theorem odd1 (n : Int) (b : Nat) (w : World) {ao : Option Addr} {cap : Nat} {g : List (List Int)} {F : Nat → Prop} (hs : Sl w F ao cap g) (hb : Cells w b 0 [.slice ao g.length cap]) :
    Rt Try.prog 190 [.int .i64 n, .pointer (some ⟨b, 0, none⟩)].toArray w fun v w' => v = .bool (decide (n < 0 ∨ n ≥ g.length)) ∧ w = w' := by
  refine Rt.enter2 Try.func190 Try.ntmps190 rfl rfl ?_
  (repeat (first | (apply WL.pure; rfl; rfl; rfl) | (apply WL.nil) | (apply EX.thenN) | (apply CW.seq) | (apply CW.region)))
  refine WL.look (s := 6) rfl (fun h => ?_) (fun h => ?_)
  · (repeat (first | (apply WL.pure; rfl; rfl; rfl) | (apply WL.nil) | (apply EX.thenN) | (apply WL.pass; rfl; rfl) | (apply CW.ret)))
    refine EX.ret1 rfl rfl ?_
    simp at h
    simp [h]
  · (repeat (apply WL.pure; rfl; rfl; rfl))
    refine WL.load (α := List (List Int)) rfl rfl rfl hb ⟨ao, cap, rfl, hs⟩ ?_
    (repeat (first | (apply WL.pure; rfl; rfl; rfl) | (apply WL.nil) | (apply EX.thenN) | (apply WL.lenS; rfl; rfl; rfl) | (apply CW.ret)))
    refine EX.ret1 rfl rfl ?_
    simp at h
    simp [Int.not_lt.2 h]

theorem odd_ok (w0 : World) {ao lo : Option Addr} {cap lcap : Nat} {g : List (List Int)} {l : List Int} (hs : Sl w0 (Old w0) ao cap g) (hl : Sl w0 (Old w0) lo lcap l) :
    Rt Try.prog 177 [.slice ao g.length cap, .slice lo l.length lcap].toArray w0 fun v w' => v = .bool (oddB g.length l) ∧ Ext w0 w' := by
  refine Rt.enter2 Try.func177 Try.ntmps177 rfl rfl ?_
  (repeat (first | (apply CW.seq) | (apply CW.region)))
  refine WL.box rfl rfl rfl ?_
  (repeat (first | (apply WL.pure; rfl; rfl; rfl) | (apply WL.nil) | (apply EX.thenN) | (apply CW.seq) | (apply CW.region) | (apply WL.makeFunc; rfl; rfl; rfl; rfl)))
  have hE := Ext.alloc w0 (.cells (Value.cells (.slice ao g.length cap)) 23)
  have hc := Cells.alloc w0 (Value.cells (.slice ao g.length cap)) 23
  generalize w0.alloc (.cells (Value.cells (.slice ao g.length cap)) 23) = w1 at *
  have hlt : w0.heap.size < w1.heap.size := hc.lt (by simp [Value.cells])
  refine WL.call rfl rfl rfl (containsFunc_int w1 (fun x => decide (x < 0 ∨ x ≥ g.length)) (hl.up hE) (fun w hw i h => ?_)) ?_
  · refine FnV.mk (Rt.mono (odd1 _ _ w ((hs.at hE).mono (fun b hb => hw.block b (Nat.lt_of_lt_of_le hb hE.size)) fun _ h => h) (hc.mono (hw.block _ hlt))) ?_)
    rintro v w' ⟨rfl, rfl⟩
    exact ⟨rfl, Ext.refl _⟩
  · rintro v w' ⟨rfl, hB⟩
    (repeat (first | (apply WL.pure; rfl; rfl; rfl) | (apply WL.nil) | (apply EX.thenN) | (apply CW.ret)))
    exact EX.ret1 rfl rfl ⟨rfl, hE.trans hB⟩

theorem chk_ok (w0 : World) {ao : Option Addr} {cap : Nat} {g : List (List Int)} (hs : Sl w0 (Old w0) ao cap g) :
    Rt Try.prog 146 [.slice ao g.length cap].toArray w0 fun v w' => v = .int .i64 (chkG g) ∧ Ext w0 w' := by
  have hm := hs.len63
  refine Rt.enter1 Try.func146 Try.ntmps146 rfl rfl ?_
  (repeat (first | (apply WL.pure; rfl; rfl; rfl) | (apply WL.nil) | (apply EX.thenN) | (apply CW.seq) | (apply CW.region) | (apply WL.lenS; rfl; rfl; rfl)))
  refine CW.cond rfl (fun h => ?_) (fun h => ?_)
  · (repeat (first | (apply WL.pure; rfl; rfl; rfl) | (apply WL.nil) | (apply EX.thenN) | (apply CW.seq) | (apply CW.region) | (apply CW.ret) | (apply EX.thenR)))
    refine EX.ret1 rfl rfl ⟨?_, Ext.refl _⟩
    unfold chkG
    have : decide (g.length > 20000) = true := by simp at h ⊢; omega
    rw [this]
  · simp at h
    have hle : decide (g.length > 20000) = false := by simp; omega
    (repeat (first | (apply WL.pure; rfl; rfl; rfl) | (apply WL.nil) | (apply EX.thenN) | (apply CW.seq) | (apply CW.region) | (apply WL.lenS; rfl; rfl; rfl) | (apply CW.block) | (apply CW.skip)))
    refine CW.loop (S := Nat) (fun k => [(0, .slice ao g.length cap), (8, .slice ao g.length cap), (9, .int .i64 g.length), (10, .int .i64 k)])
      (fun k w => k ≤ g.length ∧ Ext w0 w ∧ ∀ j (h : j < g.length), j < k → oddB g.length g[j] = false) (fun k => g.length - k) 0 (by repeat (first | exact trivial | refine ⟨rfl, ?_⟩)) ⟨by omega, Ext.refl _, by omega⟩ ?_
    rintro k w ⟨hk, hB, hn⟩
    (repeat (first | (apply WL.pure; rfl; rfl; rfl) | (apply WL.nil) | (apply EX.thenN) | (apply CW.seq) | (apply CW.region)))
    refine CW.cond rfl (fun h1 => ?_) (fun h1 => ?_)
    · simp at h1
      (repeat (first | (apply EX.thenN) | (apply CW.seq) | (apply CW.region) | (apply CW.block) | (apply CW.skip)))
      refine WL.elemN rfl rfl rfl rfl rfl (hs.at hB) h1 (fun _ => rfl) (fun u q hu => ?_)
      obtain ⟨lo, lcap, rfl, hl⟩ := hu.sl
      (repeat (first | (apply WL.pure; rfl; rfl; rfl) | (apply WL.nil) | (apply EX.thenN) | (apply CW.seq) | (apply CW.region)))
      refine WL.call rfl rfl rfl (odd_ok w (hs.up hB) (hl.lift fun b hb => Nat.lt_of_lt_of_le hb hB.size)) ?_
      rintro v w' ⟨rfl, hB'⟩
      (repeat (first | (apply WL.nil) | (apply EX.thenN)))
      refine CW.cond rfl (fun h2 => ?_) (fun h2 => ?_)
      · (repeat (first | (apply WL.pure; rfl; rfl; rfl) | (apply WL.nil) | (apply EX.thenN) | (apply CW.seq) | (apply CW.region) | (apply CW.ret) | (apply EX.thenR) | (apply EX.inR)))
        refine EX.ret1 rfl rfl ⟨?_, hB.trans hB'⟩
        unfold chkG
        have : g.any (oddB g.length) = true := List.any_eq_true.2 ⟨_, List.getElem_mem h1, h2⟩
        rw [this, hle]
      · (repeat (first | (apply WL.add; rfl; rfl; rfl; rfl; omega; omega) | (apply WL.pure; rfl; rfl; rfl) | (apply WL.nil) | (apply EX.thenN) | (apply CW.region) | (apply EX.inN) | (apply CW.skip)))
        refine EX.back (k + 1) (by repeat (first | exact trivial | refine ⟨rfl, ?_⟩)) ⟨h1, hB.trans hB', ?_⟩ (by omega)
        intro j hj hlt
        by_cases e : j = k
        · subst e; exact h2
        · exact hn j hj (by omega)
    · simp at h1
      (repeat (first | (apply WL.pure; rfl; rfl; rfl) | (apply WL.nil) | (apply EX.thenN) | (apply CW.seq) | (apply CW.region) | (apply CW.exit) | (apply EX.thenX) | (apply EX.inX) | (apply CW.ret)))
      refine EX.ret1 rfl rfl ⟨?_, hB⟩
      unfold chkG
      have : g.any (oddB g.length) = false := by
        rw [List.any_eq_false]
        intro l hl
        obtain ⟨j, hj, rfl⟩ := List.mem_iff_getElem.1 hl
        simp [hn j hj (by omega)]
      rw [this, hle]

theorem clone_int (w0 : World) {ao : Option Addr} {cap : Nat} {xs : List Int} (hs : Sl w0 (Old w0) ao cap xs) (hb : xs.length * 8 ≤ 140737488355328) :
    Rt Try.prog 53 [.slice ao xs.length cap].toArray w0 fun v w' => Own w' w0.heap.size 3 Non v xs ∧ Ext w0 w' := by
  have hm := hs.len63
  refine Rt.enter1 Try.func53 Try.ntmps53 rfl rfl ?_
  (repeat (first | (apply WL.pure; rfl; rfl; rfl) | (apply WL.nil) | (apply EX.thenN) | (apply CW.seq) | (apply CW.region) | (apply WL.isNil; rfl; rfl; rfl)))
  refine CW.cond rfl (fun h => ?_) (fun h => ?_)
  · (repeat (first | (apply WL.pure; rfl; rfl; rfl) | (apply WL.nil) | (apply EX.thenN) | (apply CW.seq) | (apply CW.region) | (apply CW.ret) | (apply EX.thenR)))
    refine EX.ret1 rfl rfl ⟨?_, Ext.refl _⟩
    have h0 : ao = none := by simpa using h
    have : xs = [] := List.eq_nil_of_length_eq_zero (by have := hs.nil h0; have := hs.le; omega)
    subst this
    exact Own.nil
  · (repeat (first | (apply EX.thenN) | (apply CW.seq) | (apply CW.region) | (apply CW.skip)))
    refine WL.lit0 (α := Int) rfl rfl (fun w1 ho hg => ?_)
    (repeat (apply WL.pure; rfl; rfl; rfl))
    have hE : Ext w0 w1 := (Below.refl _ _).grown hg (Nat.le_refl _) (fun k h => by cases h)
    refine WL.app (F := Non) rfl rfl rfl rfl ho (hs.at hE).srcN hE.size (fun _ h => h.elim) (by simp [maxLen]; omega) (by simpa using hb) (fun v w2 ho2 hg2 _ => ?_)
    (repeat (first | (apply WL.pure; rfl; rfl; rfl) | (apply WL.nil) | (apply EX.thenN) | (apply CW.ret)))
    refine EX.ret1 rfl rfl ⟨by simpa using ho2, hE.grown hg2 hE.size ?_⟩
    intro k hk
    exact (ho.lt k hk).1

theorem take_last {todo : List Int} (h : 0 < todo.length) : todo = todo.take (todo.length - 1) ++ [todo[todo.length - 1]] := by
  have := List.take_succ_eq_append_getElem (l := todo) (i := todo.length - 1) (by omega)
  rw [← this, List.take_of_length_le (by omega)]

/-- reach: T bounds all that is ever to be looked at -/
theorem reach_ok (w0 : World) {ao fo : Option Addr} {cap fcap : Nat} {g : List (List Int)} {f : List Int} (hs : Sl w0 (Old w0) ao cap g) (hf : Sl w0 (Old w0) fo fcap f)
    (hg : okG g) (hof : okL g.length f) (hT : f.length + edges g + g.length ≤ 1099511627776) :
    Rt Try.prog 178 [.slice ao g.length cap, .slice fo f.length fcap].toArray w0 fun v w' => Own w' w0.heap.size 4 Non v (rchB g f) ∧ Ext w0 w' := by
  have hm := hs.len63
  have hm2 := hf.len63
  refine Rt.enter2 Try.func178 Try.ntmps178 rfl rfl ?_
  (repeat (first | (apply WL.pure; rfl; rfl; rfl) | (apply WL.nil) | (apply EX.thenN) | (apply CW.seq) | (apply CW.region) | (apply WL.lenS; rfl; rfl; rfl)))
  refine WL.make (α := Bool) rfl rfl rfl rfl (by omega) (by unfold maxLen; omega) (fun w1 ho1 hg1 => ?_)
  have hE1 : Ext w0 w1 := (Below.refl _ _).grown hg1 (Nat.le_refl _) (fun k h => by cases h)
  have hlt1 : w0.heap.size < w1.heap.size := (ho1.lt _ rfl).2.1
  (repeat (first | (apply WL.pure; rfl; rfl; rfl) | (apply WL.nil) | (apply EX.thenN) | (apply CW.seq) | (apply CW.region)))
  refine WL.call rfl rfl rfl (clone_int w1 (hf.up hE1) (by omega)) ?_
  rintro tv w2 ⟨ho2, hE2⟩
  (repeat (first | (apply WL.pure; rfl; rfl; rfl) | (apply WL.nil) | (apply EX.thenN) | (apply CW.seq) | (apply CW.block)))
  generalize hsv : Value.slice (some ⟨w0.heap.size, 0, none⟩) g.length g.length = sv at *
  have hsb : sv.ownBlock = some w0.heap.size := by rw [← hsv]; rfl
  refine CW.loop (S := Value × List Bool × List Int) (fun s => [(0, .slice ao g.length cap), (5, sv), (6, s.1)])
    (fun s w => RInv g f s.2.1 s.2.2 ∧ s.2.2.length + pot g s.2.1 ≤ f.length + edges g + g.length ∧ Own w w0.heap.size 4 Non sv s.2.1 ∧ Own w w0.heap.size 3 Non s.1 s.2.2 ∧ Ext w0 w ∧ (∀ k, s.1.ownBlock = some k → k ≠ w0.heap.size))
    (fun s => s.2.2.length + pot g s.2.1) (tv, List.replicate g.length false, f) (by repeat (first | exact trivial | refine ⟨rfl, ?_⟩))
    ⟨RInv.start hof, by show f.length + pot g (List.replicate g.length false) ≤ _; rw [pot_start]; omega, ho1.extN hE2, ho2.low (Nat.le_of_lt hlt1), hE1.trans hE2, fun k hk => by have := (ho2.lt k hk).1; omega⟩ ?_
  rintro ⟨tv, seen, todo⟩ w ⟨hR, hpot, hso, hto, hB, hne⟩
  simp only at hR hpot hso hto hne
  (repeat (first | (apply WL.pure; rfl; rfl; rfl) | (apply WL.nil) | (apply EX.thenN) | (apply CW.seq) | (apply CW.region) | (refine WL.lenO rfl rfl rfl (by assumption) ?_)))
  refine CW.cond rfl (fun h => ?_) (fun h => ?_)
  · simp at h
    have hlen : 0 < todo.length := by omega
    have hlast := take_last hlen
    (repeat (first | (apply WL.sub'; rfl; rfl; rfl; rfl; omega; omega) | (apply WL.pure; rfl; rfl; rfl) | (apply EX.thenN) | (apply CW.seq) | (apply CW.region) | (apply CW.block) | (apply CW.skip) | (refine WL.lenO rfl rfl rfl (by assumption) ?_)))
    refine WL.elemO rfl rfl rfl rfl rfl hto (by omega) (by omega) (fun _ => rfl) (fun u q hu => ?_)
    obtain rfl := hu.int
    have ei : ((todo.length : Int) - 1).toNat = todo.length - 1 := by omega
    simp only [ei]
    generalize hx : todo[todo.length - 1] = x at *
    generalize hrest : todo.take (todo.length - 1) = rest at *
    rw [hlast] at hR
    have hlr : todo.length = rest.length + 1 := by rw [hlast]; simp
    have hxo := hR.ok x (by simp)
    (repeat (first | (apply WL.sub'; rfl; rfl; rfl; rfl; omega; omega) | (apply WL.pure; rfl; rfl; rfl) | (apply WL.nil) | (apply EX.thenN) | (apply CW.seq) | (apply CW.region) | (refine WL.lenO rfl rfl rfl (by assumption) ?_)))
    refine WL.cutHiO (α := Int) (todo.length - 1) (by omega) rfl rfl rfl rfl hto (by omega) (fun tv' hto' hb' => ?_)
    rw [hrest] at hto'
    have hne' : ∀ k, tv'.ownBlock = some k → k ≠ w0.heap.size := fun k hk => hne k (by rw [← hb']; exact hk)
    (repeat (first | (apply WL.pure; rfl; rfl; rfl) | (apply WL.nil) | (apply EX.thenN) | (apply CW.seq) | (apply CW.region)))
    refine WL.elemO rfl rfl rfl rfl rfl hso (by omega) (by rw [hR.len]; omega) (fun _ => rfl) (fun u q2 hu => ?_)
    obtain rfl := hu.bool
    have hxl : x.toNat < seen.length := by rw [hR.len]; omega
    (repeat (first | (apply WL.pure; rfl; rfl; rfl) | (apply WL.nil) | (apply EX.thenN)))
    refine CW.cond rfl (fun h2 => ?_) (fun h2 => ?_)
    · have hs0 : seen[x.toNat] = false := by simpa using h2
      have hpm := pot_set g seen x.toNat (by omega) hR.len (by simp [List.getD_eq_getElem?_getD, hxl, hs0])
      (repeat (first | (apply WL.pure; rfl; rfl; rfl) | (apply CW.seq) | (apply CW.region)))
      refine WL.set rfl rfl rfl rfl hso (by omega) (by rw [hR.len]; omega) (fun _ => rfl) (fun _ => rfl) (Rd.mkBool _ _ true) (fun w3 q3 hso3 hg3 => ?_)
      have hB3 : Ext w0 w3 := hB.grown hg3 hB.size (fun k hk => by rw [hsb] at hk; cases hk; exact Nat.le_refl _)
      have hto3 : Own w3 w0.heap.size 3 Non tv' rest := hto'.keptN hg3 (fun k hk e => by rw [hsb] at e; cases e; exact hne' _ hk rfl)
      (repeat (first | (apply WL.pure; rfl; rfl; rfl) | (apply WL.nil) | (apply EX.thenN) | (apply CW.region)))
      have hxg : x.toNat < g.length := by omega
      refine WL.elem rfl rfl rfl rfl rfl (hs.at hB3) (by omega) (by omega) (fun _ => rfl) (fun u q4 hu => ?_)
      obtain ⟨ro, rcap, rfl, hrow⟩ := hu.sl
      have erow : g.getD x.toNat [] = g[x.toNat] := by simp [List.getD_eq_getElem?_getD, hxg]
      rw [erow] at hpm
      skip
      refine WL.app (F := Non) rfl rfl rfl rfl hto3 hrow.srcN hB3.size (fun _ h => h.elim) (by unfold maxLen; omega) (by omega) (fun tv4 w4 ho4 hg4 hn4 => ?_)
      (repeat (first | (apply WL.pure; rfl; rfl; rfl) | (apply WL.nil) | (apply EX.inN)))
      refine EX.back (tv4, seen.set x.toNat true, rest ++ g[x.toNat]) (by repeat (first | exact trivial | refine ⟨rfl, ?_⟩)) ⟨?_, ?_, ?_, ho4, ?_, ?_⟩ ?_
      · have := RInv.mark hg hR
        rwa [erow] at this
      · simp only [List.length_append]; omega
      · exact hso3.keptN hg4 (fun k hk e => by rw [hsb] at hk; cases hk; exact hne' _ e.symm rfl)
      · exact hB3.grown hg4 hB3.size (fun k hk => (hto3.lt k hk).1)
      · intro k hk
        rcases hn4 k hk with h | h
        · exact hne' k h
        · have := hB3.size; have := (hso3.lt _ hsb).2.1; omega
      · simp only [List.length_append]; omega
    · have hs1 : seen[x.toNat] = true := by simpa using h2
      (repeat (first | (apply EX.inN) | (apply CW.skip)))
      refine EX.back (tv', seen, rest) (by repeat (first | exact trivial | refine ⟨rfl, ?_⟩)) ⟨hR.pass (by simp [List.getD_eq_getElem?_getD, hxl, hs1]), by simp only; omega, hso, hto', hB, hne'⟩ (by simp only; omega)
  · have h0 : todo = [] := by simpa using h
    subst h0
    (repeat (first | (apply WL.pure; rfl; rfl; rfl) | (apply WL.nil) | (apply EX.thenN) | (apply CW.seq) | (apply CW.region) | (apply CW.exit) | (apply EX.thenX) | (apply EX.inX) | (apply CW.ret)))
    refine EX.ret1 rfl rfl ⟨?_, hB⟩
    rw [← hR.done]
    exact hso

noncomputable def reachF (g : Graph) (f : List Int) : List Bool × Int := match chkG g == 0, oddB g.length f with
  | true, false => (rchB g f, 0)
  | true, true => ([], 1)
  | false, _ => ([], chkG g)
theorem reachF_err {g : Graph} {f : List Int} (h : (reachF g f).2 ≠ 0) : (reachF g f).1 = [] := by
  cases h1 : (chkG g == 0) <;> cases h2 : oddB g.length f <;> simp only [reachF, h1, h2] at h ⊢
  exact absurd rfl h
theorem reachF_ok {g : Graph} {f : List Int} (h : (reachF g f).2 = 0) : (reachF g f).1 = rchB g f ∧ okG g ∧ okL g.length f ∧ g.length ≤ 20000 := by
  cases h1 : (chkG g == 0) <;> cases h2 : oddB g.length f <;> simp only [reachF, h1, h2] at h ⊢
  · rw [h] at h1; cases h1
  · rw [h] at h1; cases h1
  · exact ⟨trivial, (chkG_ok (by simpa using h1)).1, oddB_false.1 h2, (chkG_ok (by simpa using h1)).2⟩
  · cases h
theorem chkG_of {g : Graph} (h : okG g) (hl : g.length ≤ 20000) : chkG g = 0 := by
  unfold chkG
  have h1 : decide (g.length > 20000) = false := by simp; omega
  have h2 : g.any (oddB g.length) = false := by rw [List.any_eq_false]; intro l hl; simp [oddB_false.2 (h l hl)]
  rw [h1, h2]
theorem reachF_of {g : Graph} {f : List Int} (h : okG g) (hf : okL g.length f) (hl : g.length ≤ 20000) : reachF g f = (rchB g f, 0) := by
  unfold reachF
  have h1 : (chkG g == 0) = true := by rw [chkG_of h hl]; rfl
  rw [h1, oddB_false.2 hf]
theorem Reach_ok (w0 : World) {ao fo : Option Addr} {cap fcap : Nat} {g : List (List Int)} {f : List Int} (hs : Sl w0 (Old w0) ao cap g) (hf : Sl w0 (Old w0) fo fcap f) (hT : f.length + edges g + g.length ≤ 1099511627776) :
    Rt Try.prog 140 [.slice ao g.length cap, .slice fo f.length fcap].toArray w0 fun r w' => ∃ v, r = .tuple ⟨[v, .int .i64 (reachF g f).2]⟩ ∧ Own w' w0.heap.size 4 Non v (reachF g f).1 ∧ Ext w0 w' := by
  refine Rt.enter2 Try.func140 Try.ntmps140 rfl rfl ?_
  (repeat (first | (apply WL.pure; rfl; rfl; rfl) | (apply WL.nil) | (apply EX.thenN) | (apply CW.seq) | (apply CW.region)))
  refine WL.call rfl rfl rfl (chk_ok w0 hs) ?_
  rintro v w1 ⟨rfl, hE1⟩
  (repeat (first | (apply WL.pure; rfl; rfl; rfl) | (apply WL.nil) | (apply EX.thenN) | (apply CW.seq) | (apply CW.region)))
  refine CW.cond rfl (fun h => ?_) (fun h => ?_)
  · have hc : (chkG g == 0) = false := by simpa using h
    (repeat (first | (apply WL.pure; rfl; rfl; rfl) | (apply WL.nil) | (apply EX.thenN) | (apply CW.seq) | (apply CW.region) | (apply CW.ret) | (apply EX.thenR)))
    exact EX.ret2 rfl rfl rfl ⟨.slice none 0 0, by simp only [reachF, hc], by simp only [reachF, hc]; exact Own.nil, hE1⟩
  · have hc : (chkG g == 0) = true := by simpa using h
    obtain ⟨hg, _⟩ := chkG_ok (by simpa using hc)
    (repeat (first | (apply WL.pure; rfl; rfl; rfl) | (apply EX.thenN) | (apply CW.seq) | (apply CW.region) | (apply CW.skip)))
    refine WL.call rfl rfl rfl (odd_ok w1 (hs.up hE1) (hf.up hE1)) ?_
    rintro v w2 ⟨rfl, hE2⟩
    (repeat (first | (apply WL.nil) | (apply EX.thenN)))
    refine CW.cond rfl (fun h2 => ?_) (fun h2 => ?_)
    · (repeat (first | (apply WL.pure; rfl; rfl; rfl) | (apply WL.nil) | (apply EX.thenN) | (apply CW.seq) | (apply CW.region) | (apply CW.ret) | (apply EX.thenR)))
      exact EX.ret2 rfl rfl rfl ⟨.slice none 0 0, by simp only [reachF, hc, h2], by simp only [reachF, hc, h2]; exact Own.nil, hE1.trans hE2⟩
    · (repeat (first | (apply WL.pure; rfl; rfl; rfl) | (apply EX.thenN) | (apply CW.seq) | (apply CW.region) | (apply CW.skip)))
      have hE := hE1.trans hE2
      refine WL.call rfl rfl rfl (reach_ok w2 (hs.up hE) (hf.up hE) hg (oddB_false.1 h2) hT) ?_
      rintro v w3 ⟨ho3, hE3⟩
      (repeat (first | (apply WL.pure; rfl; rfl; rfl) | (apply WL.nil) | (apply EX.thenN) | (apply CW.ret)))
      exact EX.ret2 rfl rfl rfl ⟨v, by simp only [reachF, hc, h2], by simp only [reachF, hc, h2]; exact ho3.low hE.size, hE.trans hE3⟩
end Go.Proofs.Ytllpfgcngokhnaa
