import Derived.Test.YtikigaeihdmcaaaPtWorldOwn4
/-
  Drawn regions in which several changes of memory may come in any order: a bag of operations, each of which only makes new memory. Over any program.
-/
set_option linter.unusedVariables false
set_option linter.unusedSimpArgs false
namespace Go.Proofs.Ytikigaeihdmcaaa
open Go.RowKit

/-- whichever order: all of J come up first, then the order r -/
def bagB (ops : Array Oper) (r : List (Nat × Bool)) : Nat → List Nat → Array Bool → Bool
  | 0, J, listed => J.isEmpty && ordB ops r listed
  | k + 1, J, listed => (Region.ready .any ops listed).all (fun i => J.contains i) && !(Region.ready .any ops listed).isEmpty &&
      (Region.ready .any ops listed).all fun i => bagB ops r k (J.erase i) (listed.setIfInBounds i true)
def ordBagB (ops : Array Oper) (J : List Nat) (r : List (Nat × Bool)) : List (Nat × Bool) → Array Bool → Bool
  | [], listed => bagB ops r J.length J listed
  | (i, true) :: s, listed => (Region.ready .any ops listed).contains i && Region.free .any ops listed i && ordBagB ops J r s (listed.setIfInBounds i true)
  | (i, false) :: s, listed => decide (Region.ready .any ops listed = [i]) && ordBagB ops J r s (listed.setIfInBounds i true)
def bagOk (l : List Oper) (s : List (Nat × Bool)) (J : List Nat) (r : List (Nat × Bool)) : Bool :=
  Region.noSelect l.toArray && decide (s.length + J.length + r.length = l.length) && ordBagB l.toArray J r s (Array.replicate l.length false)

def Never : Exit → Act → World → Prop := fun _ _ _ => False
def wpBag (P : Program) (ops : List Oper) (S : World → Prop) (K : Act → World → Prop) : Nat → List Nat → Act → World → Prop
  | 0, _, a, w => K a w
  | k + 1, J, a, w => ∀ i ∈ J, ∃ o, ops[i]? = some o ∧ Region.wanted o (yielded ops.toArray a.tmps) = true ∧ o.wp P a w (fun a' w' => S w' ∧ wpBag P ops S K k (J.erase i) a' w') Never

theorem wp_exits {P : Program} {o : Oper} {a : Act} {w : World} {K : Act → World → Prop} {Q Q' : Exit → Act → World → Prop} (hq : ∀ e a w, e ≠ .normal → Q e a w → Q' e a w) (h : o.wp P a w K Q) : o.wp P a w K Q' := by
  unfold Oper.wp at *
  generalize (execOp a.eval o).run P w = r at *
  cases r with
  | ok k w' =>
    cases k <;> simp only [Oper.upon] at h ⊢ <;> first
      | exact h
      | (refine Calls.mono h (fun e w'' he => ?_); cases e <;> first | exact he | exact hq _ _ _ (by simp) he | (obtain ⟨a1, w1, hx⟩ := he; exact ⟨a1, w1, hq _ _ _ (by simp) hx⟩))
  | halt x w' => cases x <;> simp only [Oper.upon] at h ⊢ <;> first | exact h | exact hq _ _ _ (by simp) h

theorem wpBag_sound {P : Program} {ops : List Oper} {S : World → Prop} {Q : Act → World → Prop} (hs : Region.noSelect ops.toArray = true) (r : List (Nat × Bool)) :
    ∀ (k : Nat) (J : List Nat) (listed : Array Bool) (a : Act) (w : World), bagB ops.toArray r k J listed = true → S w → wpBag P ops S (wpHL P ops S Q r) k J a w → wpAnyH P .any ops.toArray (fun e a w => e = .normal ∧ Q a w) S (r.length + k) listed a w
  | 0, J, listed, a, w, hB, hS, h => by
    simp only [bagB, Bool.and_eq_true] at hB
    exact wpHL_sound hs r _ _ _ hB.2 hS h
  | k + 1, J, listed, a, w, hB, hS, h => by
    simp only [bagB, Bool.and_eq_true, List.all_eq_true, Bool.not_eq_true', List.isEmpty_eq_false_iff] at hB
    obtain ⟨⟨hin, hne⟩, hrec⟩ := hB
    refine wpAnyH_all rfl hne ?_
    intro i hi
    obtain ⟨o, ho, hw, hwp⟩ := h i (by simpa using hin i hi)
    unfold wpOp
    have ho' : ops.toArray[i]? = some o := by simpa using ho
    simp only [ho', hw, if_true]
    refine .inl (Oper.wp_mono (fun a' w' h' => ⟨h'.1, wpBag_sound hs r k (J.erase i) _ _ _ (hrec i hi) h'.1 h'.2⟩) (wp_exits (fun e a w _ hf => hf.elim) hwp))

theorem wpHLBag_sound {P : Program} {ops : List Oper} {S : World → Prop} {Q : Act → World → Prop} (hs : Region.noSelect ops.toArray = true) (J : List Nat) (r : List (Nat × Bool)) :
    ∀ (s : List (Nat × Bool)) (listed : Array Bool) (a : Act) (w : World), ordBagB ops.toArray J r s listed = true → S w → wpHL P ops S (fun a w => S w ∧ wpBag P ops S (wpHL P ops S Q r) J.length J a w) s a w → wpAnyH P .any ops.toArray (fun e a w => e = .normal ∧ Q a w) S (r.length + J.length + s.length) listed a w
  | [], listed, a, w, hB, hS, h => wpBag_sound hs r _ _ _ _ _ hB hS h.2
  | (i, true) :: s, listed, a, w, hB, hS, ⟨o, v, ho, hy, h⟩ => by
    simp only [ordBagB, Bool.and_eq_true] at hB
    exact wpAnyH_take (by simpa using ho) hs hB.1.2 hB.1.1 (fun _ _ _ h => by cases h.1) hy hS (wpHLBag_sound hs J r s _ _ _ hB.2 hS h)
  | (i, false) :: s, listed, a, w, hB, hS, ⟨o, ho, h⟩ => by
    simp only [ordBagB, Bool.and_eq_true, decide_eq_true_eq] at hB
    refine wpAnyH_all hB.1 (by simp) ?_
    intro j hj
    have hji : j = i := by simpa using hj
    subst hji
    have ho' : ops.toArray[j]? = some o := by simpa using ho
    unfold wpOp
    simp only [ho']
    split
    · rename_i hw
      rw [if_pos hw] at h
      exact .inl (Oper.wp_mono (fun a' w' h' => ⟨h'.1, wpHLBag_sound hs J r s _ _ _ hB.2 h'.1 h'.2⟩) (wp_exits (fun e a w hne hf => absurd hf.1 hne) h))
    · rename_i hw
      rw [if_neg hw] at h
      exact ⟨h.1, wpHLBag_sound hs J r s _ _ _ hB.2 h.1 h.2⟩

/-- one of the bag: its number, its slot, and what is so of its value from then on -/
structure BE where
  i : Nat
  d : Nat
  /-- of the value, the new blocks that came with it, and the world -/
  Φ : Value → (Nat → Prop) → World → Prop
/-- where the bag begins -/
def BagQ (P : Program) (ops : List Oper) (S : World → Prop) (Q : Exit → Act → World → Prop) (J : List Nat) (r : List (Nat × Bool)) : Exit → Act → World → Prop :=
  fun e a w => e = .normal ∧ (S w ∧ wpBag P ops S (wpHL P ops S (fun a w => Q .normal a w) r) J.length J a w)
/-- behind one of the bag -/
def AfterB (S : World → Prop) (w : World) (e : BE) : Exit → Act → World → Prop :=
  fun x a w' => x = .normal ∧ a.defers = [] ∧ S w' ∧ Ext w w' ∧ ∃ N, e.Φ (a.tmps.getD e.d undef) N w' ∧ ∀ b, N b → w.heap.size ≤ b ∧ b < w'.heap.size
/-- what one of the bag does, wherever it comes -/
def BC (P : Program) (L : List Oper) (S : World → Prop) (n : Nat) (σ : Sg) (e : BE) : Prop :=
  (∃ o, nthO L e.i = some o ∧ o.dst = some e.d ∧ gd L σ o = some true ∧ ∀ w, S w → WL P L (AfterB S w e) [o] n σ w) ∧ Nat.ble (e.d + 1) n = true ∧ fnd σ e.d = none ∧ ∀ v N w w', e.Φ v N w → Ext w w' → e.Φ v N w'
theorem EX.bagE {S : World → Prop} {w w' : World} {e : BE} {n : Nat} {σ : Sg} {v : Value} (N : Nat → Prop) (hv : fnd σ e.d = some v) (hS : S w') (hE : Ext w w') (hΦ : e.Φ v N w') (hN : ∀ b, N b → w.heap.size ≤ b ∧ b < w'.heap.size) : EX (AfterB S w e) .normal n σ w' := by
  unfold EX
  intro a ha
  exact ⟨rfl, ha.defers, hS, hE, by rw [ha.slot _ _ hv]; exact ⟨N, hΦ, hN⟩⟩
theorem bc_wp {P : Program} {L : List Oper} {S : World → Prop} {n : Nat} {σ : Sg} {e : BE} (h : BC P L S n σ e) {a : Act} {w : World} (ha : Fr n σ a) (hS : S w) :
    ∃ o, L[e.i]? = some o ∧ Region.wanted o (yielded L.toArray a.tmps) = true ∧ o.wp P a w (fun a' w' => S w' ∧ Ext w w' ∧ ∃ v N, a' = a.put (some e.d) v ∧ e.Φ v N w' ∧ ∀ b, N b → w.heap.size ≤ b ∧ b < w'.heap.size) Never := by
  obtain ⟨⟨o, ho, hd, hg, hw⟩, hn, hf, _⟩ := h
  rw [nthO_eq] at ho
  have hwa := gd_wanted ha hg
  refine ⟨o, ho, hwa, ?_⟩
  have h1 := hw w hS
  unfold WL at h1
  have h2 := h1 a ha
  simp only [wpList, hwa, if_true] at h2
  have hlt : e.d < n := Nat.le_of_ble_eq_true hn
  have hget : ∀ v, (a.put (some e.d) v).tmps.getD e.d undef = v := by
    intro v
    simp [Act.put, Array.getD, ha.size, hlt]
  rcases h2 with h2 | ⟨_, hl⟩
  · unfold Oper.wp at *
    obtain ⟨dst, op, ty, pos, af, g⟩ := o
    simp only at hd
    subst hd
    generalize (execOp a.eval _).run P w = r at *
    cases r with
    | ok k w' =>
      cases k <;> simp only [Oper.upon] at h2 ⊢ <;> first
        | exact ⟨h2.2.2.1, h2.2.2.2.1, by have := h2.2.2.2.2; rw [hget] at this; obtain ⟨N, h3, h4⟩ := this; exact ⟨_, N, rfl, h3, h4⟩⟩
        | (exfalso; have := h2.2.1; simp [Act.put] at this; done)
        | (refine Calls.mono h2 (fun x w'' he => ?_)
           cases x
           · exact ⟨he.2.2.1, he.2.2.2.1, by have := he.2.2.2.2; rw [hget] at this; obtain ⟨N, h3, h4⟩ := this; exact ⟨_, N, rfl, h3, h4⟩⟩
           · exact absurd he.1 (by simp)
           · obtain ⟨_, _, hx⟩ := he; exact absurd hx.1 (by simp))
        | exact Rows.mono h2 (fun v w'' he => ⟨he.2.2.1, he.2.2.2.1, by have := he.2.2.2.2; rw [hget] at this; obtain ⟨N, h3, h4⟩ := this; exact ⟨_, N, rfl, h3, h4⟩⟩)
        | exact h2
    | halt x w' => cases x <;> simp only [Oper.upon] at h2 ⊢ <;> first | exact h2 | exact absurd h2.1 (by simp)
  · obtain ⟨_, _, hx⟩ := hl
    exact absurd hx.1 (by simp)

/-- behind the bag: each slot holds a value of which its fact is so; what came with one did not come with another -/
def BagK (w' : World) (G : Sg → Prop) : List (Nat → Prop) → List BE → Sg → Prop
  | _, [], σ => G σ
  | D, e :: r, σ => ∀ v N, e.Φ v N w' → (∀ p ∈ D, ∀ b, p b → N b → False) → BagK w' G (N :: D) r ((e.d, v) :: σ)
theorem BagK.get {w' : World} {G : Sg → Prop} {n : Nat} {a : Act} (NN : Nat → Nat → Prop) : ∀ (E : List BE) {D : List (Nat → Prop)} {σ : Sg}, BagK w' G D E σ → Fr n σ a → (∀ e ∈ E, e.d < n ∧ e.Φ (a.tmps.getD e.d undef) (NN e.i) w') →
    (∀ e ∈ E, ∀ p ∈ D, ∀ b, p b → NN e.i b → False) → (E.map (·.i)).Nodup → (∀ e ∈ E, ∀ f ∈ E, e.i ≠ f.i → ∀ b, NN e.i b → NN f.i b → False) → ∃ τ, Fr n τ a ∧ G τ
  | [], D, σ, h, ha, _, _, _, _ => ⟨σ, ha, h⟩
  | e :: r, D, σ, h, ha, hE, hD, hnd, hP => by
    have he := hE e (by simp)
    rw [List.map_cons, List.nodup_cons] at hnd
    refine BagK.get NN r (h _ _ he.2 (hD e (by simp))) ?_ (fun x hx => hE x (by simp [hx])) ?_ hnd.2 (fun x hx y hy => hP x (by simp [hx]) y (by simp [hy]))
    rotate_left
    · intro x hx p hp b hb hx'
      rcases List.mem_cons.1 hp with rfl | hp
      · exact hP e (by simp) x (by simp [hx]) (fun hi => hnd.1 (by rw [hi]; exact List.mem_map_of_mem hx)) b hb hx'
      · exact hD x (by simp [hx]) p hp b hb hx'
    refine ⟨ha.size, ha.defers, fun t u hu => ?_⟩
    by_cases ht : e.d = t
    · subst ht; rw [fnd_cons_eq] at hu; cases hu; rfl
    · rw [fnd_cons_ne ht] at hu; exact ha.slot _ _ hu
def distB : List Nat → Bool
  | [] => true
  | x :: r => !r.contains x && distB r
theorem distB_nodup : ∀ {l : List Nat}, distB l = true → l.Nodup
  | [], _ => List.nodup_nil
  | x :: r, h => by
    simp only [distB, Bool.and_eq_true, Bool.not_eq_true'] at h
    rw [List.nodup_cons]
    exact ⟨by simpa using h.1, distB_nodup h.2⟩

def updN (NN : Nat → Nat → Prop) (i : Nat) (N : Nat → Prop) : Nat → Nat → Prop := fun j => if j = i then N else NN j
theorem updN_eq {NN : Nat → Nat → Prop} {i : Nat} {N : Nat → Prop} : updN NN i N i = N := if_pos rfl
theorem updN_ne {NN : Nat → Nat → Prop} {i : Nat} {N : Nat → Prop} {j : Nat} (h : j ≠ i) : updN NN i N j = NN j := if_neg h
theorem nodup_inj {β γ : Type} {f : β → γ} : ∀ {l : List β}, (l.map f).Nodup → ∀ x ∈ l, ∀ y ∈ l, f x = f y → x = y
  | [], _, x, hx, _, _, _ => by simp at hx
  | z :: r, h, x, hx, y, hy, e => by
    rw [List.map_cons, List.nodup_cons] at h
    rcases List.mem_cons.1 hx with h1 | h1
    · rcases List.mem_cons.1 hy with h2 | h2
      · rw [h1, h2]
      · exact absurd (show f z ∈ r.map f by rw [← h1, e]; exact List.mem_map_of_mem h2) h.1
    · rcases List.mem_cons.1 hy with h2 | h2
      · exact absurd (show f z ∈ r.map f by rw [← h2, ← e]; exact List.mem_map_of_mem h1) h.1
      · exact nodup_inj h.2 x h1 y h2 e
theorem wpBag_of {P : Program} {L : List Oper} {S : World → Prop} {n : Nat} {σ : Sg} {E : List BE} (hC : ∀ e ∈ E, BC P L S n σ e) (hd : (E.map (·.d)).Nodup) (hi : (E.map (·.i)).Nodup) {w0 : World} {K : Act → World → Prop}
    (hK : ∀ a w (NN : Nat → Nat → Prop), Fr n σ a → S w → Ext w0 w → (∀ e ∈ E, e.Φ (a.tmps.getD e.d undef) (NN e.i) w) → (∀ e ∈ E, ∀ f ∈ E, e.i ≠ f.i → ∀ b, NN e.i b → NN f.i b → False) → K a w) :
    ∀ (k : Nat) (J : List Nat) (a : Act) (w : World) (NN : Nat → Nat → Prop), J.length = k → J.Nodup → (∀ i ∈ J, i ∈ E.map (·.i)) → Fr n σ a → S w → Ext w0 w → (∀ e ∈ E, e.i ∉ J → e.Φ (a.tmps.getD e.d undef) (NN e.i) w ∧ ∀ b, NN e.i b → b < w.heap.size) →
      (∀ e ∈ E, ∀ f ∈ E, e.i ∉ J → f.i ∉ J → e.i ≠ f.i → ∀ b, NN e.i b → NN f.i b → False) → wpBag P L S K k J a w
  | 0, J, a, w, NN, hl, _, _, ha, hS, hE, hD, hP => hK a w NN ha hS hE (fun e he => (hD e he (by rw [List.eq_nil_of_length_eq_zero hl]; simp)).1) (fun e he f hf => hP e he f hf (by rw [List.eq_nil_of_length_eq_zero hl]; simp) (by rw [List.eq_nil_of_length_eq_zero hl]; simp))
  | k + 1, J, a, w, NN, hl, hnd, hsub, ha, hS, hE, hD, hP => by
    intro i hiJ
    obtain ⟨e, he, rfl⟩ := List.mem_map.1 (hsub i hiJ)
    obtain ⟨o, ho, hw, hwp⟩ := bc_wp (hC e he) ha hS
    refine ⟨o, ho, hw, Oper.wp_mono (fun a' w' h' => ?_) hwp⟩
    obtain ⟨hS', hE', v, N, rfl, hΦ, hN⟩ := h'
    have hn : e.d < n := Nat.le_of_ble_eq_true (hC e he).2.1
    have hf := (hC e he).2.2.1
    have hget : (a.put (some e.d) v).tmps.getD e.d undef = v := by simp [Act.put, Array.getD, ha.size, hn]
    have hoth : ∀ t, t ≠ e.d → (a.put (some e.d) v).tmps.getD t undef = a.tmps.getD t undef := by
      intro t ht
      simp only [Act.put, Array.getD_eq_getD_getElem?]
      rw [Array.getElem?_setIfInBounds_ne (Ne.symm ht)]
    have nne : updN NN e.i N e.i = N := updN_eq
    have nno : ∀ j, j ≠ e.i → updN NN e.i N j = NN j := fun j hj => updN_ne hj
    refine ⟨hS', wpBag_of hC hd hi hK k (J.erase e.i) _ _ (updN NN e.i N) (by rw [List.length_erase_of_mem hiJ, hl]; rfl) (hnd.erase _) (fun j hj => hsub j (List.mem_of_mem_erase hj)) ?_ hS' (hE.trans hE') ?_ ?_⟩
    · refine ⟨by simpa [Act.put] using ha.size, by simpa [Act.put] using ha.defers, fun t u hu => ?_⟩
      have : t ≠ e.d := fun h => by rw [h, hf] at hu; cases hu
      rw [hoth t this]; exact ha.slot t u hu
    · intro x hx hxJ
      by_cases hxe : x.d = e.d
      · have hxe' : x = e := nodup_inj hd x hx e he hxe
        subst hxe'
        rw [hget, nne]; exact ⟨hΦ, fun b hb => (hN b hb).2⟩
      · rw [hoth _ hxe]
        have hne : x.i ≠ e.i := fun hh => hxe (by rw [nodup_inj hi x hx e he hh])
        have h0 := hD x hx (fun hxJ' => hxJ ((List.mem_erase_of_ne hne).2 hxJ'))
        rw [nno _ hne]
        exact ⟨(hC x hx).2.2.2 _ _ _ _ h0.1 hE', fun b hb => Nat.lt_of_lt_of_le (h0.2 b hb) hE'.size⟩
    · intro x hx y hy hxJ hyJ hxy b hbx hby
      by_cases hxe : x.i = e.i
      · rw [hxe, nne] at hbx
        have hye : y.i ≠ e.i := fun h => hxy (by rw [hxe, h])
        rw [nno _ hye] at hby
        have h1 := (hD y hy (fun h => hyJ ((List.mem_erase_of_ne hye).2 h))).2 b hby
        have h2 := (hN b hbx).1
        omega
      · rw [nno _ hxe] at hbx
        have hxJ' : x.i ∉ J := fun h => hxJ ((List.mem_erase_of_ne hxe).2 h)
        by_cases hye : y.i = e.i
        · rw [hye, nne] at hby
          have h1 := (hD x hx hxJ').2 b hbx
          have h2 := (hN b hby).1
          omega
        · rw [nno _ hye] at hby
          exact hP x hx y hy hxJ' (fun h => hyJ ((List.mem_erase_of_ne hye).2 h)) hxy b hbx hby

section
variable {P : Program} {Q : Exit → Act → World → Prop} {n : Nat} {σ : Sg} {w : World} {L : List Oper} {S : World → Prop}
theorem CW.drawB {id : Nat} (S : World → Prop) (s : List (Nat × Bool)) (J : List Nat) (r : List (Nat × Bool)) (hm : P.follows .mixedOrders = true) (hB : bagOk L s J r = true) (hS : S (drew w)) (h : HL P L S (BagQ P L S Q J r) s n σ (drew w)) : CW P (.region id L.toArray true) Q n σ w := by
  unfold CW; unfold HL at h; intro a ha
  simp only [bagOk, Bool.and_eq_true, decide_eq_true_eq] at hB
  obtain ⟨⟨hs, hl⟩, hB⟩ := hB
  have h0 := h a ha
  have h0' : wpHL P L S (fun a w => S w ∧ wpBag P L S (wpHL P L S (fun a w => Q .normal a w) r) J.length J a w) s a (Go.Proofs.Ytikigaeihdmcaaa.drew w) := by
    have : (fun a w => BagQ P L S Q J r .normal a w) = (fun a w => S w ∧ wpBag P L S (wpHL P L S (fun a w => Q .normal a w) r) J.length J a w) := by funext a w; simp [BagQ]
    rw [← this]; exact h0
  have h1 := wpHLBag_sound hs J r s (Array.replicate L.length false) a (Go.Proofs.Ytikigaeihdmcaaa.drew w) hB hS h0'
  rw [show r.length + J.length + s.length = L.length by omega] at h1
  have h2 := wp_region_held (id := id) (S := S) hm (w := w) (ops := L.toArray) (by simpa using h1)
  exact wp_mono h2 (fun e a' w' ⟨he, hq⟩ => by subst he; exact hq)
/-- the bag -/
theorem EX.bag {J : List Nat} {r : List (Nat × Bool)} (E : List BE) (hJ : E.map (·.i) = J) (hdi : distB (E.map (·.i)) = true) (hdd : distB (E.map (·.d)) = true) (hS : S w) (hC : ∀ e ∈ E, BC P L S n σ e)
    (hK : ∀ w', S w' → Ext w w' → BagK w' (fun τ => HL P L S Q r n τ w') [] E σ) : EX (BagQ P L S Q J r) .normal n σ w := by
  unfold EX
  intro a ha
  subst hJ
  refine ⟨rfl, hS, ?_⟩
  refine wpBag_of hC (distB_nodup hdd) (distB_nodup hdi) (w0 := w) (fun a w' NN ha hS' hE hΦ hP => ?_) _ _ a w (fun _ _ => False) rfl (distB_nodup hdi) (fun i hi => hi) ha hS (Ext.refl _) (fun e he hn => absurd (List.mem_map_of_mem he) hn) (fun e he f hf hn => absurd (List.mem_map_of_mem he) hn)
  obtain ⟨τ, hτ, hG⟩ := BagK.get NN E (hK w' hS' hE) ha (fun e he => ⟨Nat.le_of_ble_eq_true (hC e he).2.1, hΦ e he⟩) (fun _ _ p hp => by simp at hp) (distB_nodup hdi) hP
  unfold HL at hG
  exact hG a hτ
end
end Go.Proofs.Ytikigaeihdmcaaa

/-
  Drawn regions whose last operation is alone and may change what the others read: S need not hold behind it. Over any program.
-/
set_option linter.unusedVariables false
set_option linter.unusedSimpArgs false
namespace Go.Proofs.Ytikigaeihdmcaaa
open Go.RowKit

/-- whatever order is picked; behind each operation but number e the condition S holds -/
def wpAnyE (P : Program) (ops : Array Oper) (Q : Exit → Act → World → Prop) (S : World → Prop) (e : Nat) : Nat → Array Bool → Act → World → Prop
  | 0, listed, a, w => Region.ready .any ops listed = [] ∧ Q .normal a w
  | k + 1, listed, a, w => (Region.ready .any ops listed = [] → Q .normal a w) ∧ ∀ i ∈ Region.ready .any ops listed, wpOp P ops Q i (fun a' w' => (i ≠ e → S w') ∧ wpAnyE P ops Q S e k (listed.setIfInBounds i true) a' w') a w
theorem wpAny_of_E {P : Program} {ops : Array Oper} {Q : Exit → Act → World → Prop} {S : World → Prop} {e : Nat} : ∀ (k : Nat) (listed : Array Bool) (a : Act) (w : World), wpAnyE P ops Q S e k listed a w → wpAny P .any ops Q k listed a w
  | 0, _, _, _, h => h
  | k + 1, _, _, _, h => ⟨h.1, fun i hi => wpOp_mono (fun a' w' h' => wpAny_of_E k _ a' w' h'.2) (h.2 i hi)⟩
/-- does number e wait for number i? -/
def waitsB (ops : Array Oper) (e i : Nat) : Bool := match ops[e]? with
  | some o => o.after.toList.any fun ed => Region.binds .any ed && (ed.on == i)
  | none => false
theorem waits_not {ops : Array Oper} {e i : Nat} {listed : Array Bool} (hw : waitsB ops e i = true) (hi : listed.getD i false = false) : e ∉ Region.ready .any ops listed := by
  intro he
  obtain ⟨_, o, ho, hall⟩ := mem_ready.1 he
  unfold waitsB at hw
  rw [ho] at hw
  obtain ⟨ed, h1, h2⟩ := List.any_eq_true.1 hw
  simp only [Bool.and_eq_true, beq_iff_eq] at h2
  have := hall ed (by simpa using h1) h2.1
  rw [h2.2, hi] at this
  cases this
theorem ready_open {ops : Array Oper} {i : Nat} {listed : Array Bool} (h : i ∈ Region.ready .any ops listed) : listed.getD i false = false := by
  have h0 := (mem_ready.1 h).1
  rcases Nat.lt_or_ge i listed.size with h' | h'
  · simp [h'] at h0 ⊢; exact h0
  · simp [h']
theorem wpAnyE_take {P : Program} {ops : Array Oper} {Q : Exit → Act → World → Prop} {S : World → Prop} {e i : Nat} {oi : Oper} {v : Value} (hoi : ops[i]? = some oi) (hs : Region.noSelect ops = true) (hne : i ≠ e) (hwt : waitsB ops e i = true) (hQ : ∀ c a w, Q (.panic c) (a.put oi.dst v) w → Q (.panic c) a w) :
    ∀ (k : Nat) (listed : Array Bool) (a : Act) (w : World), (∀ j oj, ops[j]? = some oj → j ≠ i → listed.getD j true = false → (∀ ed ∈ oj.after, Region.binds .any ed = true → ed.on ≠ i) → oi.apart ops oj = true) →
      i ∈ Region.ready .any ops listed → YieldsIf P ops S oi v a → S w → wpAnyE P ops Q S e k (listed.setIfInBounds i true) (a.put oi.dst v) w → wpAnyE P ops Q S e (k + 1) listed a w := by
  have hsel := Region.noSelect_spec hs
  intro k
  induction k with
  | zero =>
    intro listed a w _ hr hy hS H
    refine ⟨fun h => (by rw [h] at hr; cases hr), fun j hj => ?_⟩
    by_cases hji : j = i
    · subst hji; exact hy.wpOp hoi hS ⟨fun _ => hS, H⟩
    · have := ready_mono hj hji
      rw [H.1] at this
      cases this
  | succ k ih =>
    intro listed a w hfree hr hy hS H
    refine ⟨fun h => (by rw [h] at hr; cases hr), fun j hj => ?_⟩
    by_cases hji : j = i
    · subst hji; exact hy.wpOp hoi hS ⟨fun _ => hS, H⟩
    · have hje : j ≠ e := fun h => waits_not hwt (ready_open hr) (h ▸ hj)
      obtain ⟨hopen, oj, hoj, hall⟩ := mem_ready.1 hj
      have hno : ∀ ed ∈ oj.after, Region.binds .any ed = true → ed.on ≠ i := fun ed h1 h2 h3 => by
        have h4 := hall ed h1 h2
        rw [h3, ready_open hr] at h4
        cases h4
      have hput := wpOp_putIf hoj (hfree j oj hoj hji hopen hno) (fun cs b => hsel i oi cs b hoi) (fun cs b => hsel j oj cs b hoj) hQ hy (H.2 j (ready_mono hj hji))
      refine wpOp_mono (fun a' w' h3 => ⟨fun _ => h3.2.1 hje, ih (listed.setIfInBounds j true) a' w' (fun m om hm hmi hun hn => hfree m om hm hmi ?_ hn) (ready_mono hr (Ne.symm hji)) h3.1 (h3.2.1 hje) ?_⟩) hput
      · by_cases hjm : j = m
        · subst hjm; exact hopen
        · rw [getD_set_ne true hjm] at hun; exact hun
      · rw [Array.setIfInBounds_comm _ _ hji]
        exact h3.2.2

/-- the order: s, and then e alone -/
def ordE (ops : Array Oper) (e : Nat) : List (Nat × Bool) → Array Bool → Bool
  | [], listed => decide (Region.ready .any ops listed = [e]) && (Region.ready .any ops (listed.setIfInBounds e true)).isEmpty
  | (i, true) :: s, listed => (Region.ready .any ops listed).contains i && Region.free .any ops listed i && !(i == e) && waitsB ops e i && ordE ops e s (listed.setIfInBounds i true)
  | (i, false) :: s, listed => decide (Region.ready .any ops listed = [i]) && ordE ops e s (listed.setIfInBounds i true)
def ordEOk (l : List Oper) (s : List (Nat × Bool)) (e : Nat) : Bool := Region.noSelect l.toArray && decide (s.length + 1 = l.length) && ordE l.toArray e s (Array.replicate l.length false)
/-- number e, alone and last -/
def TailQ (P : Program) (ops : List Oper) (Q : Exit → Act → World → Prop) (e : Nat) : Exit → Act → World → Prop :=
  fun x a w => x = .normal ∧ ∃ o, ops[e]? = some o ∧ wpList P ops.toArray (fun x a w => x = .normal ∧ Q .normal a w) [o] a w
theorem wpHLe_sound {P : Program} {ops : List Oper} {S : World → Prop} {Q : Exit → Act → World → Prop} {e : Nat} (hs : Region.noSelect ops.toArray = true) :
    ∀ (s : List (Nat × Bool)) (listed : Array Bool) (a : Act) (w : World), ordE ops.toArray e s listed = true → S w → wpHL P ops S (fun a w => TailQ P ops Q e .normal a w) s a w → wpAnyE P ops.toArray (fun x a w => x = .normal ∧ Q .normal a w) S e (s.length + 1) listed a w
  | [], listed, a, w, hB, hS, h => by
    simp only [ordE, Bool.and_eq_true, decide_eq_true_eq, List.isEmpty_iff] at hB
    obtain ⟨_, o, ho, hl⟩ := h
    refine ⟨fun h0 => (by rw [hB.1] at h0; cases h0), fun i hi => ?_⟩
    rw [hB.1, List.mem_singleton] at hi
    subst hi
    have ho' : ops.toArray[i]? = some o := by simpa using ho
    unfold wpOp
    simp only [ho']
    simp only [wpList] at hl
    split
    · rename_i hw
      rw [if_pos hw] at hl
      exact hl.imp (Oper.wp_mono fun a' w' h' => ⟨fun h => absurd rfl h, hB.2, rfl, h'.2⟩) id
    · rename_i hw
      rw [if_neg hw] at hl
      exact ⟨fun h => absurd rfl h, hB.2, rfl, hl.2⟩
  | (i, true) :: s, listed, a, w, hB, hS, ⟨o, v, ho, hy, h⟩ => by
    simp only [ordE, Bool.and_eq_true, Bool.not_eq_true', beq_eq_false_iff_ne] at hB
    obtain ⟨⟨⟨⟨h1, h2⟩, h3⟩, h4⟩, h5⟩ := hB
    have ho' : ops.toArray[i]? = some o := by simpa using ho
    exact wpAnyE_take ho' hs h3 h4 (fun _ _ _ h => by cases h.1) _ _ _ _ (Region.free_spec ho' h2) (by simpa using h1) hy hS (wpHLe_sound hs s _ _ _ h5 hS h)
  | (i, false) :: s, listed, a, w, hB, hS, ⟨o, ho, h⟩ => by
    simp only [ordE, Bool.and_eq_true, decide_eq_true_eq] at hB
    refine ⟨fun h0 => (by rw [hB.1] at h0; cases h0), fun j hj => ?_⟩
    rw [hB.1, List.mem_singleton] at hj
    subst hj
    have ho' : ops.toArray[j]? = some o := by simpa using ho
    unfold wpOp
    simp only [ho']
    split
    · rename_i hw
      rw [if_pos hw] at h
      exact .inl (Oper.wp_mono (fun a' w' h' => ⟨fun _ => h'.1, wpHLe_sound hs s _ _ _ hB.2 h'.1 h'.2⟩) (wp_exits (fun x a w hne hf => absurd hf.1 hne) h))
    · rename_i hw
      rw [if_neg hw] at h
      exact ⟨fun _ => h.1, wpHLe_sound hs s _ _ _ hB.2 h.1 h.2⟩
section
variable {P : Program} {Q : Exit → Act → World → Prop} {n : Nat} {σ : Sg} {w : World} {L : List Oper} {S : World → Prop}
theorem CW.drawE {id : Nat} (S : World → Prop) (s : List (Nat × Bool)) (e : Nat) (hm : P.follows .mixedOrders = true) (hB : ordEOk L s e = true) (hS : S (drew w)) (h : HL P L S (TailQ P L Q e) s n σ (drew w)) : CW P (.region id L.toArray true) Q n σ w := by
  unfold CW; unfold HL at h; intro a ha
  simp only [ordEOk, Bool.and_eq_true, decide_eq_true_eq] at hB
  obtain ⟨⟨hs, hl⟩, hB⟩ := hB
  have h1 := wpHLe_sound (Q := Q) hs s (Array.replicate L.length false) a (Go.Proofs.Ytikigaeihdmcaaa.drew w) hB hS (h a ha)
  rw [hl] at h1
  have h2 : (Code.region id L.toArray true).wp P (fun x a w => x = .normal ∧ Q .normal a w) a w := wp_region_any hm (by simpa using wpAny_of_E _ _ _ _ h1)
  exact wp_mono h2 (fun e a' w' ⟨he, hq⟩ => by subst he; exact hq)
/-- the last operation, by the rule for its like -/
theorem EX.tail {e : Nat} {o : Oper} (ho : nthO L e = some o) (h : WL P L (fun x a w => x = .normal ∧ Q .normal a w) [o] n σ w) : EX (TailQ P L Q e) .normal n σ w := by
  unfold EX; unfold WL at h
  intro a ha
  rw [nthO_eq] at ho
  exact ⟨rfl, o, ho, h a ha⟩
theorem EX.tailE (h : EX Q .normal n σ w) : EX (fun x a w => x = .normal ∧ Q .normal a w) .normal n σ w := by
  unfold EX at *; exact fun a ha => ⟨rfl, h a ha⟩
end
section
variable {P : Program} {Q : Exit → Act → World → Prop} {n : Nat} {σ : Sg} {wc : World} {L : List Oper} {S : World → Prop} {i j d : Nat} {ty : TypeId} {pos : String} {af : Array Edge} {g : Option (Nat × Bool)} {ty' : TypeId} {pos' : String} {af' : Array Edge} {g' : Option (Nat × Bool)} {t e : TypeId} {x ix y : Operand}
variable {α : Type} [Rep α] {F : Nat → Prop}
/-- x[k] = y, of a slice that the call owns, as the region's last two operations -/
theorem HL.setTail {v u : Value} {B : Nat} {xs : List α} {yv : α} {k : Nat} {kd : IntKind}
    (ho1 : nthO L i = some ⟨some d, .indexAddr t x ix, ty, pos, af, g⟩) (ho2 : nthO L j = some ⟨none, .store e (.tmp d) y, ty', pos', af', g'⟩)
    (hg : gd L σ ⟨some d, .indexAddr t x ix, ty, pos, af, g⟩ = some true) (hd : Nat.ble (d + 1) n = true)
    (hx : ev σ x = some v) (hi : ev σ ix = some (.int kd (k : Int))) [hs : IsS P t e] [ht : IsT P e α] (hown : Own wc B e F v xs) (h1 : k < xs.length)
    (hg' : ∀ p, gd L ((d, .pointer p) :: σ) ⟨none, .store e (.tmp d) y, ty', pos', af', g'⟩ = some true) (hy : ∀ p, ev ((d, .pointer p) :: σ) y = some u) (hu : Rd wc F u yv)
    (h : ∀ w' p, Own w' B e F v (xs.set k yv) → wc.grownBy w' v.ownBlock → EX Q .normal n ((d, .pointer p) :: σ) w') :
    HL P L S (TailQ P L Q j) [(i, true)] n σ wc := by
  rcases hown with ⟨rfl, rfl⟩ | ⟨b, off, cap, cur, rfl, ho⟩
  · simp at h1
  · refine HL.idx (α := α) ho1 hg hd hx hi (by omega) (by omega) ?_
    obtain ⟨w', hr, ho', hgr⟩ := run_set (P := P) (v := u) (i := k) ho h1 hu
    refine HL.nil (EX.tail ho2 ?_)
    refine WL.runU (hg' _) (fun a ha => ?_) (WL.nil (EX.tailE (h w' _ ho' hgr)))
    have e1 := ha.ev (x := .tmp d) fnd_cons_eq
    have e2 := ha.ev (hy _)
    simp only [Int.toNat_natCast] at e1
    simp [execOp, e1, e2, Instr.storeAt, Instr.sureAddr, hr]
end
section
variable {P : Program} {Q : Exit → Act → World → Prop} {n : Nat} {σ : Sg} {w wc : World} {L : List Oper} {S : World → Prop} {ord : List (Nat × Bool)} {i d : Nat} {ty : TypeId} {pos : String} {af : Array Edge} {g : Option (Nat × Bool)} {t e : TypeId} {x : Operand} {b o : Nat} {cells : List Value}
/-- a field of a struct that nobody changes meanwhile -/
theorem HL.ldK {v : Value} (hK : ∀ w1, S w1 → w1.heap[b]? = w.heap[b]?) (ho : nthO L i = some ⟨some d, .load t x, ty, pos, af, g⟩) (hg : gd L σ ⟨some d, .load t x, ty, pos, af, g⟩ = some true) (hd : Nat.ble (d + 1) n = true) (hx : ev σ x = some (.pointer (some ⟨b, o, none⟩))) [hc : IsC P t 1 false] (hb : Blk w b e cells) (hv : nthV cells o = some v)
    (h : HL P L S Q ord n ((d, v) :: σ) wc) : HL P L S Q ((i, true) :: ord) n σ wc := by
  refine HL.run ho hg hd (fun a ha w' hsw => ?_) h
  have hb' : Blk w' b e cells := (hK w' hsw).trans hb
  simp [execOp, ha.ev hx, run_ld (P := P) (t := t) w' hb' hv]
end
end Go.Proofs.Ytikigaeihdmcaaa

/-
  What only some blocks' change leaves as it is. Over any program.
-/
set_option linter.unusedVariables false
set_option linter.unusedSimpArgs false
namespace Go.Proofs.Ytikigaeihdmcaaa
open Go.RowKit

/-- only blocks of S, and new ones, are otherwise -/
structure Chg (S : Nat → Prop) (w w' : World) : Prop where
  os : w'.os = w.os
  tape : w'.tape = w.tape
  output : w'.output = w.output
  size : w.heap.size ≤ w'.heap.size
  block : ∀ k, k < w.heap.size → ¬ S k → w'.heap[k]? = w.heap[k]?
theorem Chg.refl (S : Nat → Prop) (w : World) : Chg S w w := ⟨rfl, rfl, rfl, Nat.le_refl _, fun _ _ _ => rfl⟩
theorem Chg.grown {S : Nat → Prop} {w w' w'' : World} {row : Option Nat} (h : Chg S w w') (hg : w'.grownBy w'' row) (hr : ∀ g, row = some g → S g) : Chg S w w'' :=
  ⟨hg.os.trans h.os, hg.tape.trans h.tape, hg.output.trans h.output, Nat.le_trans h.size hg.size, fun k hk hs => (hg.block k (Nat.lt_of_lt_of_le hk h.size) (fun e => hs (hr k e.symm))).trans (h.block k hk hs)⟩
theorem Chg.ext {S : Nat → Prop} {a w w' : World} (hE : Ext a w) (h : Chg S w w') (hS : ∀ b, S b → a.heap.size ≤ b) : Ext a w' :=
  ⟨h.os.trans hE.os, h.tape.trans hE.tape, h.output.trans hE.output, Nat.le_trans hE.size h.size, fun k hk => (h.block k (Nat.lt_of_lt_of_le hk hE.size) (fun hs => by have := hS k hs; omega)).trans (hE.block k hk)⟩
theorem Own.chg {α : Type} [Rep α] {S : Nat → Prop} {w w' : World} {B : Nat} {e : TypeId} {v : Value} {xs : List α} (h : Own w B e Non v xs) (hc : Chg S w w') (hn : ∀ b, v.ownBlock = some b → ¬ S b) : Own w' B e Non v xs :=
  h.keep (fun g hg => hc.block g (h.lt g hg).2.1 (hn g hg)) fun _ h => h.elim
theorem OwnN.chg {α : Type} [Rep α] {S : Nat → Prop} {w w' : World} {B : Nat} {eo ei : TypeId} {v : Value} {vs : List Raw} {xs : List (List α)} (h : OwnN w B eo ei v vs xs) (hc : Chg S w w') (hn : ∀ b, OwnN.blk v vs b → ¬ S b) : OwnN w' B eo ei v vs xs :=
  ⟨h.out.chg hc (fun b hb => hn b (.inl hb)), h.len, fun i hi hi' => (h.inn i hi hi').chg hc (fun b hb => hn b (.inr ⟨_, List.getElem_mem hi, hb⟩)), h.dis, h.dio⟩

end Go.Proofs.Ytikigaeihdmcaaa

/-
  Tarjan's search, in plain Lean: what holds while it goes.
-/
set_option linter.unusedVariables false
set_option linter.unusedSimpArgs false
namespace Go.Proofs.Ytikigaeihdmcaaa

theorem Rch.trans {g : Graph} {a b c : Nat} (h1 : Rch g [(a : Int)] b) (h2 : Rch g [(b : Int)] c) : Rch g [(a : Int)] c := by
  induction h2 with
  | @base x hx =>
    have : x = (b : Int) := by simpa using hx
    subst this
    simpa using h1
  | step _ hx ih => exact .step ih hx
theorem Rch.self {g : Graph} (a : Nat) : Rch g [(a : Int)] a := by
  have := Rch.base (g := g) (from' := [(a : Int)]) (x := (a : Int)) (by simp)
  simpa using this
theorem Rch.edge {g : Graph} {a b : Nat} (h : (b : Int) ∈ g.getD a []) : Rch g [(a : Int)] b := by
  have := Rch.step (Rch.self (g := g) a) h
  simpa using this

/-- a node on the way, how many of its edges are looked at, and those above it on the stack that are done -/
structure Tf where
  v : Nat
  i : Nat
  seg : List Nat
/-- the search's numbers -/
structure Ts where
  num : List Int
  low : List Int
  part : List Int
  count : Int
  got : Int
def Ts.nm (s : Ts) (n : Nat) : Int := s.num.getD n 0
def Ts.lw (s : Ts) (n : Nat) : Int := s.low.getD n 0
def Ts.pt (s : Ts) (n : Nat) : Int := s.part.getD n (-1)
/-- the stack, frame by frame, the upper one first -/
def stk : List Tf → List Nat
  | [] => []
  | f :: r => stk r ++ f.v :: f.seg
def rowN (g : Graph) (n : Nat) : List Int := g.getD n []
/-- the edges that are looked at, of the nodes of a frame -/
def seen (g : Graph) (f : Tf) (u : Nat) (w : Int) : Prop := (u = f.v ∧ w ∈ (rowN g u).take f.i) ∨ (u ∈ f.seg ∧ w ∈ rowN g u)

/-- of each frame -/
structure FrOK (g : Graph) (s : Ts) (S : List Nat) (f : Tf) : Prop where
  i : f.i ≤ (rowN g f.v).length
  vis : ∀ u w, seen g f u w → 0 < s.nm w.toNat
  out : ∀ u ∈ f.seg, Rch g [(f.v : Int)] u
  back : ∀ u ∈ f.seg, Rch g [(u : Int)] f.v
  le : s.lw f.v ≤ s.nm f.v
  wit : ∃ x ∈ S, s.nm x = s.lw f.v ∧ Rch g [(f.v : Int)] x
  all : ∀ u w, seen g f u w → w.toNat ∈ S → s.lw f.v ≤ s.nm w.toNat
/-- from frame to frame -/
def chain (g : Graph) : List Tf → Prop
  | [] => True
  | [_] => True
  | f :: h :: r => Rch g [(h.v : Int)] f.v ∧ chain g (h :: r)
structure TInv (g : Graph) (s : Ts) (fs : List Tf) : Prop where
  ln : s.num.length = g.length
  ll : s.low.length = g.length
  lp : s.part.length = g.length
  inG : ∀ n ∈ stk fs, n < g.length
  vis : ∀ n, n < g.length → (0 < s.nm n ↔ n ∈ stk fs ∨ 0 ≤ s.pt n)
  non : ∀ n, n < g.length → 0 ≤ s.nm n
  off : ∀ n ∈ stk fs, s.pt n < 0
  asc : (stk fs).Pairwise fun a b => s.nm a < s.nm b
  top : ∀ n, n < g.length → s.nm n ≤ s.count
  c0 : 0 ≤ s.count
  frs : ∀ f ∈ fs, FrOK g s (stk fs) f
  chn : chain g fs
  clo : ∀ n, n < g.length → 0 ≤ s.pt n → ∀ w ∈ rowN g n, 0 ≤ s.pt w.toNat
  ptl : ∀ n, n < g.length → s.pt n < s.got
  g0 : 0 ≤ s.got
  cn : s.count + (s.num.countP fun x => decide (x = 0) : Nat) = g.length
  gn : s.got + (negs s.part : Nat) ≤ g.length
  scc : ∀ a b, a < g.length → b < g.length → 0 ≤ s.pt a → 0 ≤ s.pt b → (s.pt a = s.pt b ↔ Rch g [(a : Int)] b ∧ Rch g [(b : Int)] a)

theorem getD_setD {l : List Int} {n k : Nat} {x d : Int} (h : n < l.length) : (l.set n x).getD k d = if n = k then x else l.getD k d := by
  rw [List.getD_eq_getElem?_getD, List.getD_eq_getElem?_getD, List.getElem?_set]
  split
  · rename_i e; simp [h]
  · rfl
def tBegin (n : Nat) (s : Ts) : Ts := { s with num := s.num.set n (s.count + 1), low := s.low.set n (s.count + 1), count := s.count + 1 }
def tLow (n : Nat) (x : Int) (s : Ts) : Ts := { s with low := s.low.set n x }
def setAll (p : List Int) (D : List Nat) (x : Int) : List Int := D.foldr (fun n p => p.set n x) p
def tClose (D : List Nat) (s : Ts) : Ts := { s with part := setAll s.part D s.got, got := s.got + 1 }
theorem setAll_len (p : List Int) (x : Int) : ∀ D, (setAll p D x).length = p.length
  | [] => rfl
  | n :: D => by simp only [setAll, List.foldr_cons, List.length_set]; exact setAll_len p x D
theorem setAll_get {p : List Int} {x : Int} : ∀ {D : List Nat}, (∀ n ∈ D, n < p.length) → ∀ k, (setAll p D x).getD k (-1) = if k ∈ D then x else p.getD k (-1)
  | [], _, k => by simp [setAll]
  | n :: D, h, k => by
    have hn := h n (by simp)
    have ih := setAll_get (x := x) (D := D) (fun m hm => h m (by simp [hm])) k
    simp only [setAll, List.foldr_cons] at ih ⊢
    rw [getD_setD (by have := setAll_len p x D; simp only [setAll] at this; rw [this]; exact hn), ih]
    by_cases e : n = k
    · simp [e]
    · rw [if_neg e]
      simp only [List.mem_cons, Ne.symm e, false_or]
section
variable {g : Graph} {s : Ts} {fs : List Tf} {f h : Tf} {r : List Tf}
theorem mem_stk {n : Nat} : n ∈ stk (f :: r) ↔ n ∈ stk r ∨ n = f.v ∨ n ∈ f.seg := by simp [stk]
theorem fv_stk : ∀ {fs : List Tf} {f : Tf}, f ∈ fs → f.v ∈ stk fs
  | x :: r, f, hf => by
    rw [mem_stk]
    rcases List.mem_cons.1 hf with rfl | hf
    · exact .inr (.inl rfl)
    · exact .inl (fv_stk hf)
theorem TInv.nodup (h : TInv g s fs) : (stk fs).Nodup := h.asc.imp fun hab e => by rw [e] at hab; exact absurd hab (Int.lt_irrefl _)
/-- those below a frame have less, those above it more -/
theorem TInv.below (h : TInv g s (f :: r)) : ∀ x ∈ stk r, s.nm x < s.nm f.v := by
  intro x hx
  have := h.asc
  simp only [stk] at this
  rw [List.pairwise_append] at this
  exact this.2.2 x hx f.v (by simp)
theorem TInv.above (h : TInv g s (f :: r)) : ∀ x, x = f.v ∨ x ∈ f.seg → s.nm f.v ≤ s.nm x := by
  intro x hx
  have := h.asc
  simp only [stk] at this
  rw [List.pairwise_append, List.pairwise_cons] at this
  rcases hx with rfl | hx
  · exact Int.le_refl _
  · exact Int.le_of_lt (this.2.1.1 x hx)
theorem TInv.vne (h : TInv g s (f :: r)) {k : Tf} (hk : k ∈ r) : k.v ≠ f.v := fun e => by
  have := h.below k.v (fv_stk hk)
  rw [e] at this
  exact absurd this (Int.lt_irrefl _)
theorem TInv.fin (h : TInv g s (f :: r)) : f.v < g.length := h.inG f.v (fv_stk (by simp))
theorem chain_tail (h : chain g (f :: r)) : chain g r := by
  cases r with
  | nil => trivial
  | cons k r => exact h.2
/-- all of the stack lead to the uppermost frame's node -/
theorem up_all : ∀ {r : List Tf} {f : Tf}, (∀ k ∈ f :: r, ∀ u ∈ k.seg, Rch g [(u : Int)] k.v) → chain g (f :: r) → ∀ x ∈ stk (f :: r), Rch g [(x : Int)] f.v := by
  intro r
  induction r with
  | nil =>
    intro f hb hc x hx
    rw [mem_stk] at hx
    rcases hx with hx | rfl | hx
    · simp [stk] at hx
    · exact Rch.self _
    · exact hb f (by simp) x hx
  | cons k r ih =>
    intro f hb hc x hx
    rw [mem_stk] at hx
    rcases hx with hx | rfl | hx
    · have h1 := ih (f := k) (fun f hf => hb f (List.mem_cons_of_mem _ hf)) hc.2 x hx
      exact h1.trans hc.1
    · exact Rch.self _
    · exact hb f (by simp) x hx
end

theorem countP_set {p : Int → Bool} {d : List Int} {k : Nat} {v : Int} (hk : k < d.length) (h : p d[k] = true) (hv : p v = false) : (d.set k v).countP p + 1 = d.countP p := by
  have e : d = d.take k ++ d[k] :: d.drop (k + 1) := by simp
  have e2 : d.set k v = d.take k ++ v :: d.drop (k + 1) := by rw [List.set_eq_take_append_cons_drop, if_pos hk]
  rw [e2]
  conv => rhs; rw [e]
  simp only [List.countP_append, List.countP_cons, h, hv, if_true]
  simp; omega
theorem setAll_negs {p : List Int} {x : Int} (hx : 0 ≤ x) : ∀ {D : List Nat}, D.Nodup → (∀ n ∈ D, n < p.length) → (∀ n ∈ D, p.getD n (-1) < 0) → negs (setAll p D x) + D.length = negs p
  | [], _, _, _ => rfl
  | n :: D, hd, hl, hn => by
    rw [List.nodup_cons] at hd
    have ih := setAll_negs hx (D := D) hd.2 (fun m hm => hl m (by simp [hm])) (fun m hm => hn m (by simp [hm]))
    have hnl : n < (setAll p D x).length := by rw [setAll_len]; exact hl n (by simp)
    have hg := setAll_get (x := x) (D := D) (fun m hm => hl m (by simp [hm])) n
    rw [if_neg hd.1, getD_at hnl] at hg
    have := negs_set hnl (v := x) (by rw [hg]; exact hn n (by simp)) hx
    show negs ((setAll p D x).set n x) + (D.length + 1) = _
    omega
section
variable {g : Graph} {s : Ts} {fs : List Tf} {f h : Tf} {r : List Tf}
theorem nm_begin {n k : Nat} (hn : n < s.num.length) : (tBegin n s).nm k = if n = k then s.count + 1 else s.nm k := getD_setD hn
theorem lw_begin {n k : Nat} (hn : n < s.low.length) : (tBegin n s).lw k = if n = k then s.count + 1 else s.lw k := getD_setD hn
theorem lw_low {n k : Nat} {x : Int} (hn : n < s.low.length) : (tLow n x s).lw k = if n = k then x else s.lw k := getD_setD hn
theorem TInv.unvis (h : TInv g s fs) {n : Nat} (hn : n < g.length) (h0 : s.nm n = 0) : n ∉ stk fs ∧ s.pt n < 0 := by
  have := h.vis n hn
  refine ⟨fun hx => ?_, ?_⟩
  · have := this.2 (.inl hx); omega
  · apply Int.not_le.1
    intro hx
    have := this.2 (.inr hx); omega
/-- a node is begun: the frames stay right -/
theorem TInv.begin (h : TInv g s fs) (hg : okG g) {n : Nat} (hn : n < g.length) (h0 : s.nm n = 0) {gs : List Tf} (hst : stk gs = stk fs) (hfr : ∀ k ∈ gs, FrOK g (tBegin n s) (stk fs ++ [n]) k) (hch : chain g (⟨n, 0, []⟩ :: gs)) :
    TInv g (tBegin n s) (⟨n, 0, []⟩ :: gs) := by
  obtain ⟨hu1, hu2⟩ := h.unvis hn h0
  have hnl : n < s.num.length := by rw [h.ln]; exact hn
  have hll : n < s.low.length := by rw [h.ll]; exact hn
  have hS : stk (⟨n, 0, []⟩ :: gs) = stk fs ++ [n] := by simp [stk, hst]
  have hc := h.c0
  have hne : ∀ x ∈ stk fs, n ≠ x := fun x hx e => hu1 (e ▸ hx)
  refine ⟨by simp [tBegin, h.ln], by simp [tBegin, h.ll], h.lp, ?_, ?_, ?_, ?_, ?_, ?_, by simp only [tBegin]; omega, ?_, hch, h.clo, h.ptl, h.g0, ?_, h.gn, h.scc⟩
  · intro x hx
    rw [hS, List.mem_append, List.mem_singleton] at hx
    rcases hx with hx | rfl
    · exact h.inG x hx
    · exact hn
  · intro x hx
    rw [hS, nm_begin hnl, List.mem_append, List.mem_singleton]
    by_cases e : n = x
    · subst e
      rw [if_pos rfl]
      exact ⟨fun _ => .inl (.inr rfl), fun _ => by omega⟩
    · rw [if_neg e, h.vis x hx]
      constructor
      · rintro (h1 | h1)
        · exact .inl (.inl h1)
        · exact .inr h1
      · rintro ((h1 | h1) | h1)
        · exact .inl h1
        · exact absurd h1.symm e
        · exact .inr h1
  · intro x hx
    rw [nm_begin hnl]
    split
    · omega
    · exact h.non x hx
  · intro x hx
    rw [hS, List.mem_append, List.mem_singleton] at hx
    rcases hx with hx | rfl
    · exact h.off x hx
    · exact hu2
  · rw [hS, List.pairwise_append]
    refine ⟨?_, by simp, ?_⟩
    · refine h.asc.imp_of_mem fun {a b} ha hb hab => ?_
      rw [nm_begin hnl, nm_begin hnl, if_neg (hne a ha), if_neg (hne b hb)]
      exact hab
    · intro a ha b hb
      rw [List.mem_singleton] at hb
      subst hb
      rw [nm_begin hnl, nm_begin hnl, if_neg (hne a ha), if_pos rfl]
      have := h.top a (h.inG a ha)
      omega
  · intro x hx
    rw [nm_begin hnl]
    show _ ≤ s.count + 1
    split
    · omega
    · have := h.top x hx; omega
  · intro k hk
    rw [hS]
    rcases List.mem_cons.1 hk with rfl | hk
    · refine ⟨by simp, fun u w hs => ?_, fun u hu => absurd hu (by simp), fun u hu => absurd hu (by simp), ?_, ⟨n, by simp, ?_, Rch.self _⟩, fun u w hs => ?_⟩
      · rcases hs with ⟨_, h1⟩ | ⟨h1, _⟩
        · simp at h1
        · simp at h1
      · dsimp only; rw [nm_begin hnl, lw_begin hll, if_pos rfl, if_pos rfl]; omega
      · dsimp only; rw [nm_begin hnl, lw_begin hll, if_pos rfl, if_pos rfl]
      · rcases hs with ⟨_, h1⟩ | ⟨h1, _⟩
        · simp at h1
        · simp at h1
    · exact hfr k hk
  · have h1 := countP_set (p := fun x => decide (x = 0)) hnl (v := s.count + 1) (by have : s.num[n] = s.nm n := (getD_at hnl).symm; rw [this]; simp [h0]) (by simp; omega)
    have h2 := h.cn
    simp only [tBegin]
    omega
/-- a frame that is not touched, where a node is begun -/
theorem FrOK.begin (h : TInv g s fs) {k : Tf} (hk : k ∈ fs) {n : Nat} (hn : n < g.length) (h0 : s.nm n = 0) : FrOK g (tBegin n s) (stk fs ++ [n]) k := by
  obtain ⟨hu1, hu2⟩ := h.unvis hn h0
  have hnl : n < s.num.length := by rw [h.ln]; exact hn
  have hll : n < s.low.length := by rw [h.ll]; exact hn
  have hc := h.c0
  have hF := h.frs k hk
  have hne : n ≠ k.v := fun e => hu1 (e ▸ fv_stk hk)
  have hv : ∀ u w, seen g k u w → w.toNat ≠ n := fun u w hs e => by have := hF.vis u w hs; rw [e] at this; omega
  refine ⟨hF.i, fun u w hs => ?_, hF.out, hF.back, ?_, ?_, fun u w hs hw => ?_⟩
  · rw [nm_begin hnl, if_neg (Ne.symm (hv u w hs))]; exact hF.vis u w hs
  · rw [nm_begin hnl, lw_begin hll, if_neg hne, if_neg hne]; exact hF.le
  · obtain ⟨x, h1, h2, h3⟩ := hF.wit
    refine ⟨x, List.mem_append_left _ h1, ?_, h3⟩
    have hnx : n ≠ x := fun e => hu1 (e ▸ h1)
    rw [nm_begin hnl, lw_begin hll, if_neg hnx, if_neg hne]; exact h2
  · rw [List.mem_append, List.mem_singleton] at hw
    rcases hw with hw | hw
    · rw [nm_begin hnl, lw_begin hll, if_neg hne, if_neg (Ne.symm (hv u w hs))]; exact hF.all u w hs hw
    · exact absurd hw (hv u w hs)
/-- (1) a root -/
theorem TInv.root (h : TInv g s []) (hg : okG g) {n : Nat} (hn : n < g.length) (h0 : s.nm n = 0) : TInv g (tBegin n s) [⟨n, 0, []⟩] :=
  h.begin hg hn h0 (gs := []) rfl (fun k hk => absurd hk (by simp)) trivial
/-- one edge more is looked at -/
theorem FrOK.more (hF : FrOK g s (stk fs) f) (hi : f.i < (rowN g f.v).length) {w : Nat} (hw : (rowN g f.v)[f.i] = (w : Int)) (hv : 0 < s.nm w) (ha : w ∈ stk fs → s.lw f.v ≤ s.nm w) : FrOK g s (stk fs) ⟨f.v, f.i + 1, f.seg⟩ := by
  have hs : ∀ u x, seen g ⟨f.v, f.i + 1, f.seg⟩ u x → seen g f u x ∨ x = (w : Int) := by
    rintro u x (⟨h1, h2⟩ | h1)
    · dsimp only at h1 h2
      subst h1
      rw [List.take_succ_eq_append_getElem hi, List.mem_append, List.mem_singleton, hw] at h2
      rcases h2 with h2 | h2
      · exact .inl (.inl ⟨rfl, h2⟩)
      · exact .inr h2
    · exact .inl (.inr h1)
  refine ⟨hi, fun u x hx => ?_, hF.out, hF.back, hF.le, hF.wit, fun u x hx hxs => ?_⟩
  · rcases hs u x hx with h1 | rfl
    · exact hF.vis u x h1
    · exact hv
  · rcases hs u x hx with h1 | rfl
    · exact hF.all u x h1 hxs
    · exact ha hxs
theorem TInv.moved (h : TInv g s (f :: r)) (hF : FrOK g s (stk (f :: r)) ⟨f.v, f.i + 1, f.seg⟩) : TInv g s (⟨f.v, f.i + 1, f.seg⟩ :: r) := by
  have hS : stk (⟨f.v, f.i + 1, f.seg⟩ :: r) = stk (f :: r) := rfl
  refine ⟨h.ln, h.ll, h.lp, h.inG, h.vis, h.non, h.off, h.asc, h.top, h.c0, ?_, ?_, h.clo, h.ptl, h.g0, h.cn, h.gn, h.scc⟩
  · intro k hk
    rw [hS]
    rcases List.mem_cons.1 hk with rfl | hk
    · exact hF
    · exact h.frs k (by simp [hk])
  · have := h.chn
    cases r with
    | nil => trivial
    | cons k r => exact this
/-- (4) an edge to what is closed -/
theorem TInv.shut (h : TInv g s (f :: r)) (hi : f.i < (rowN g f.v).length) {w : Nat} (hwl : w < g.length) (hw : (rowN g f.v)[f.i] = (w : Int)) (hc : 0 ≤ s.pt w) : TInv g s (⟨f.v, f.i + 1, f.seg⟩ :: r) :=
  h.moved ((h.frs f (by simp)).more hi hw ((h.vis w hwl).2 (.inr hc)) (fun hx => by have := h.off w hx; omega))
/-- (2) an edge to a node that is begun -/
theorem TInv.tree (h : TInv g s (f :: r)) (hg : okG g) (hi : f.i < (rowN g f.v).length) {w : Nat} (hwl : w < g.length) (hw : (rowN g f.v)[f.i] = (w : Int)) (h0 : s.nm w = 0) : TInv g (tBegin w s) (⟨w, 0, []⟩ :: ⟨f.v, f.i + 1, f.seg⟩ :: r) := by
  obtain ⟨hu1, hu2⟩ := h.unvis hwl h0
  have hnl : w < s.num.length := by rw [h.ln]; exact hwl
  have hll : w < s.low.length := by rw [h.ll]; exact hwl
  have hne : w ≠ f.v := fun e => hu1 (e ▸ fv_stk (by simp))
  have hcc := h.c0
  have hedge : (w : Int) ∈ g.getD f.v [] := by rw [← hw]; exact List.getElem_mem _
  refine h.begin hg hwl h0 (gs := ⟨f.v, f.i + 1, f.seg⟩ :: r) rfl ?_ ?_
  · intro k hk
    rcases List.mem_cons.1 hk with rfl | hk
    · have hF := FrOK.begin h (k := f) (by simp) hwl h0
      have e : stk (⟨w, 0, []⟩ :: f :: r) = stk (f :: r) ++ [w] := by simp [stk]
      rw [← e] at hF ⊢
      refine hF.more hi hw ?_ (fun _ => ?_)
      · rw [nm_begin hnl, if_pos rfl]; omega
      · rw [nm_begin hnl, lw_begin hll, if_pos rfl, if_neg hne]
        have h1 := (h.frs f (by simp)).le
        have h2 := h.top f.v h.fin
        omega
    · exact FrOK.begin h (by simp [hk]) hwl h0
  · refine ⟨Rch.edge hedge, ?_⟩
    have := h.chn
    cases r with
    | nil => trivial
    | cons k r => exact this
/-- low is put lower, where that is right -/
theorem TInv.lower (h : TInv g s (f :: r)) {x : Int} (hx : x ≤ s.lw f.v) (hw : ∃ y ∈ stk (f :: r), s.nm y = x ∧ Rch g [(f.v : Int)] y) : TInv g (tLow f.v x s) (f :: r) := by
  have hll : f.v < s.low.length := by rw [h.ll]; exact h.fin
  refine ⟨h.ln, by simp [tLow, h.ll], h.lp, h.inG, h.vis, h.non, h.off, h.asc, h.top, h.c0, ?_, h.chn, h.clo, h.ptl, h.g0, h.cn, h.gn, h.scc⟩
  intro k hk
  have hF := h.frs k hk
  have hl : (tLow f.v x s).lw k.v = if f.v = k.v then x else s.lw k.v := lw_low hll
  rcases List.mem_cons.1 hk with rfl | hk
  · rw [if_pos rfl] at hl
    refine ⟨hF.i, hF.vis, hF.out, hF.back, ?_, ?_, fun u w hs hws => ?_⟩
    · rw [hl]; exact Int.le_trans hx hF.le
    · rw [hl]; exact hw
    · rw [hl]; exact Int.le_trans hx (hF.all u w hs hws)
  · rw [if_neg (Ne.symm (h.vne hk))] at hl
    refine ⟨hF.i, hF.vis, hF.out, hF.back, ?_, ?_, fun u w hs hws => ?_⟩
    · rw [hl]; exact hF.le
    · rw [hl]; exact hF.wit
    · rw [hl]; exact hF.all u w hs hws
/-- (3) an edge to what stands on the stack -/
theorem TInv.back (h : TInv g s (f :: r)) (hi : f.i < (rowN g f.v).length) {w : Nat} (hwl : w < g.length) (hw : (rowN g f.v)[f.i] = (w : Int)) (h0 : s.nm w ≠ 0) (hc : s.pt w < 0) : TInv g (tLow f.v (min (s.lw f.v) (s.nm w)) s) (⟨f.v, f.i + 1, f.seg⟩ :: r) := by
  have hpos : 0 < s.nm w := by have := h.non w hwl; omega
  have hws : w ∈ stk (f :: r) := by
    rcases (h.vis w hwl).1 hpos with h1 | h1
    · exact h1
    · omega
  have hedge : (w : Int) ∈ g.getD f.v [] := by rw [← hw]; exact List.getElem_mem _
  have hl := h.lower (x := min (s.lw f.v) (s.nm w)) (by omega) (by
    by_cases e : s.lw f.v ≤ s.nm w
    · rw [show min (s.lw f.v) (s.nm w) = s.lw f.v by omega]
      exact (h.frs f (by simp)).wit
    · rw [show min (s.lw f.v) (s.nm w) = s.nm w by omega]
      exact ⟨w, hws, rfl, Rch.edge hedge⟩)
  have hll : f.v < s.low.length := by rw [h.ll]; exact h.fin
  refine hl.moved ((hl.frs f (by simp)).more hi hw hpos (fun _ => ?_))
  rw [lw_low hll, if_pos rfl]
  show _ ≤ s.nm w
  omega
end

section
variable {g : Graph} {s : Ts} {fs : List Tf} {f h : Tf} {r : List Tf}
theorem stk_merge : stk (⟨h.v, h.i, h.seg ++ f.v :: f.seg⟩ :: r) = stk (f :: h :: r) := by simp [stk]
/-- low of the upper frame goes down into the one below; where it is no less than that one's nothing is otherwise -/
theorem TInv.pass (hI : TInv g s (f :: h :: r)) : (tLow h.v (min (s.lw h.v) (s.lw f.v)) s).lw f.v = s.lw f.v := by
  have hll : h.v < s.low.length := by rw [hI.ll]; exact hI.inG h.v (fv_stk (by simp))
  rw [lw_low hll, if_neg (hI.vne (by simp))]
/-- (5) a frame that is done and goes into the one below -/
theorem TInv.merge (hI : TInv g s (f :: h :: r)) (hi : f.i = (rowN g f.v).length) (hne : s.lw f.v ≠ s.nm f.v) : TInv g (tLow h.v (min (s.lw h.v) (s.lw f.v)) s) (⟨h.v, h.i, h.seg ++ f.v :: f.seg⟩ :: r) := by
  have hF := hI.frs f (by simp)
  have hH := hI.frs h (by simp)
  have hll : h.v < s.low.length := by rw [hI.ll]; exact hI.inG h.v (fv_stk (by simp))
  have hS := stk_merge (f := f) (h := h) (r := r)
  have hch := hI.chn
  have hdown : Rch g [(h.v : Int)] f.v := hch.1
  -- the upper node leads back
  have hback : Rch g [(f.v : Int)] h.v := by
    obtain ⟨x, h1, h2, h3⟩ := hF.wit
    have hlt : s.nm x < s.nm f.v := by have := hF.le; omega
    have hxr : x ∈ stk (h :: r) := by
      rw [mem_stk] at h1
      rcases h1 with h1 | h1
      · exact h1
      · have := hI.above x h1; omega
    refine h3.trans (up_all (r := r) (f := h) (fun k hk => (hI.frs k (List.mem_cons_of_mem _ hk)).back) hch.2 x hxr)
  have hlow : ∀ k, (tLow h.v (min (s.lw h.v) (s.lw f.v)) s).lw k = if h.v = k then min (s.lw h.v) (s.lw f.v) else s.lw k := fun k => lw_low hll
  have hseen : ∀ u w, seen g ⟨h.v, h.i, h.seg ++ f.v :: f.seg⟩ u w → seen g h u w ∨ seen g f u w := by
    rintro u w (h1 | ⟨h1, h2⟩)
    · exact .inl (.inl h1)
    · dsimp only at h1
      rw [List.mem_append, List.mem_cons] at h1
      rcases h1 with h1 | rfl | h1
      · exact .inl (.inr ⟨h1, h2⟩)
      · exact .inr (.inl ⟨rfl, by rw [hi, List.take_length]; exact h2⟩)
      · exact .inr (.inr ⟨h1, h2⟩)
  refine ⟨hI.ln, by simp [tLow, hI.ll], hI.lp, by rw [hS]; exact hI.inG, by rw [hS]; exact hI.vis, hI.non, by rw [hS]; exact hI.off, by rw [hS]; exact hI.asc, hI.top, hI.c0, ?_, ?_, hI.clo, hI.ptl, hI.g0, hI.cn, hI.gn, hI.scc⟩
  · intro k hk
    rw [hS]
    rcases List.mem_cons.1 hk with rfl | hk
    · refine ⟨hH.i, fun u w hs => ?_, fun u hu => ?_, fun u hu => ?_, ?_, ?_, fun u w hs hws => ?_⟩
      · rcases hseen u w hs with h1 | h1
        · exact hH.vis u w h1
        · exact hF.vis u w h1
      · dsimp only at hu ⊢
        rw [List.mem_append, List.mem_cons] at hu
        rcases hu with hu | rfl | hu
        · exact hH.out u hu
        · exact hdown
        · exact hdown.trans (hF.out u hu)
      · dsimp only at hu ⊢
        rw [List.mem_append, List.mem_cons] at hu
        rcases hu with hu | rfl | hu
        · exact hH.back u hu
        · exact hback
        · exact (hF.back u hu).trans hback
      · dsimp only
        rw [hlow, if_pos rfl]
        have := hH.le
        show _ ≤ s.nm h.v
        omega
      · dsimp only
        rw [hlow, if_pos rfl]
        by_cases e : s.lw h.v ≤ s.lw f.v
        · rw [show min (s.lw h.v) (s.lw f.v) = s.lw h.v by omega]
          exact hH.wit
        · rw [show min (s.lw h.v) (s.lw f.v) = s.lw f.v by omega]
          obtain ⟨x, h1, h2, h3⟩ := hF.wit
          exact ⟨x, h1, h2, hdown.trans h3⟩
      · dsimp only
        rw [hlow, if_pos rfl]
        show _ ≤ s.nm w.toNat
        rcases hseen u w hs with h1 | h1
        · have := hH.all u w h1 hws; omega
        · have := hF.all u w h1 hws; omega
    · have hK := hI.frs k (by simp [hk])
      have hkv : h.v ≠ k.v := fun e => by
        have h1 := hI.asc
        have h2 : (stk (h :: r)).Pairwise fun a b => s.nm a < s.nm b := by
          simp only [stk] at h1 ⊢
          exact (List.pairwise_append.1 h1).1
        simp only [stk] at h2
        have h3 := (List.pairwise_append.1 h2).2.2 k.v (fv_stk hk) h.v (by simp)
        rw [e] at h3
        exact absurd h3 (Int.lt_irrefl _)
      have hl : (tLow h.v (min (s.lw h.v) (s.lw f.v)) s).lw k.v = s.lw k.v := by rw [hlow, if_neg hkv]
      refine ⟨hK.i, hK.vis, hK.out, hK.back, ?_, ?_, fun u w hs hws => ?_⟩
      · rw [hl]; exact hK.le
      · rw [hl]; exact hK.wit
      · rw [hl]; exact hK.all u w hs hws
  · have := hch.2
    cases r with
    | nil => trivial
    | cons k r => exact this
/-- what is closed leads to what is closed alone -/
theorem TInv.closed (hI : TInv g s fs) (hg : okG g) {a b : Nat} (ha : a < g.length) (hp : 0 ≤ s.pt a) (hr : Rch g [(a : Int)] b) : b < g.length ∧ 0 ≤ s.pt b := by
  induction hr with
  | @base x hx =>
    have : x = (a : Int) := by simpa using hx
    subst this
    simpa using ⟨ha, hp⟩
  | @step m x _ hx ih =>
    have hxr := okG_row hg m x hx
    exact ⟨by omega, hI.clo m ih.1 ih.2 x hx⟩
/-- (6) a part is closed -/
theorem TInv.close (hI : TInv g s (f :: r)) (hg : okG g) (hi : f.i = (rowN g f.v).length) (heq : s.lw f.v = s.nm f.v) : TInv g (tClose (f.v :: f.seg) s) r := by
  have hF := hI.frs f (by simp)
  have hnd := hI.nodup
  have hstk : stk (f :: r) = stk r ++ f.v :: f.seg := rfl
  rw [hstk] at hnd
  have hdis : ∀ x ∈ stk r, x ∉ f.v :: f.seg := fun x h1 h2 => (List.nodup_append.1 hnd).2.2 x h1 x h2 rfl
  have hTnd : (f.v :: f.seg).Nodup := (List.nodup_append.1 hnd).2.1
  have hTg : ∀ x ∈ f.v :: f.seg, x < g.length := fun x hx => hI.inG x (by rw [hstk]; exact List.mem_append_right _ hx)
  have hTl : ∀ x ∈ f.v :: f.seg, x < s.part.length := fun x hx => by rw [hI.lp]; exact hTg x hx
  have hToff : ∀ x ∈ f.v :: f.seg, s.pt x < 0 := fun x hx => hI.off x (by rw [hstk]; exact List.mem_append_right _ hx)
  have hpt : ∀ k, (tClose (f.v :: f.seg) s).pt k = if k ∈ f.v :: f.seg then s.got else s.pt k := fun k => setAll_get hTl k
  have hnm : ∀ k, (tClose (f.v :: f.seg) s).nm k = s.nm k := fun _ => rfl
  have hg0 := hI.g0
  have hTm : ∀ x, x ∈ f.v :: f.seg ↔ x = f.v ∨ x ∈ f.seg := fun x => List.mem_cons
  have hTout : ∀ x ∈ f.v :: f.seg, Rch g [(f.v : Int)] x := fun x hx => by
    rcases (hTm x).1 hx with rfl | hx
    · exact Rch.self _
    · exact hF.out x hx
  have hTback : ∀ x ∈ f.v :: f.seg, Rch g [(x : Int)] f.v := fun x hx => by
    rcases (hTm x).1 hx with rfl | hx
    · exact Rch.self _
    · exact hF.back x hx
  have hTclo : ∀ u ∈ f.v :: f.seg, ∀ w ∈ rowN g u, w.toNat ∈ f.v :: f.seg ∨ 0 ≤ s.pt w.toNat := by
    intro u hu w hw
    have hseen : seen g f u w := by
      rcases (hTm u).1 hu with rfl | hu
      · exact .inl ⟨rfl, by rw [hi, List.take_length]; exact hw⟩
      · exact .inr ⟨hu, hw⟩
    have hwr := okG_row hg u w hw
    rcases (hI.vis w.toNat (by omega)).1 (hF.vis u w hseen) with h1 | h1
    · have h2 := hF.all u w hseen h1
      rw [hstk, List.mem_append] at h1
      rcases h1 with h1 | h1
      · have := hI.below _ h1; omega
      · exact .inl h1
    · exact .inr h1
  refine ⟨hI.ln, hI.ll, by simp only [tClose]; rw [setAll_len]; exact hI.lp, fun n hn => hI.inG n (by rw [hstk]; exact List.mem_append_left _ hn), ?_, hI.non, ?_, ?_, hI.top, hI.c0, ?_, chain_tail hI.chn, ?_, ?_, by simp only [tClose]; omega, hI.cn, ?_, ?_⟩
  · intro n hn
    rw [hnm, hI.vis n hn, hpt, hstk, List.mem_append]
    by_cases e : n ∈ f.v :: f.seg
    · rw [if_pos e]
      exact ⟨fun _ => .inr hg0, fun _ => .inl (.inr e)⟩
    · rw [if_neg e]
      constructor
      · rintro ((h1 | h1) | h1)
        · exact .inl h1
        · exact absurd h1 e
        · exact .inr h1
      · rintro (h1 | h1)
        · exact .inl (.inl h1)
        · exact .inr h1
  · intro n hn
    rw [hpt, if_neg (hdis n hn)]
    exact hI.off n (by rw [hstk]; exact List.mem_append_left _ hn)
  · have := hI.asc
    rw [hstk] at this
    exact (List.pairwise_append.1 this).1
  · intro k hk
    have hK := hI.frs k (by simp [hk])
    refine ⟨hK.i, hK.vis, hK.out, hK.back, hK.le, ?_, fun u w hs hws => hK.all u w hs (by rw [hstk]; exact List.mem_append_left _ hws)⟩
    obtain ⟨x, h1, h2, h3⟩ := hK.wit
    refine ⟨x, ?_, h2, h3⟩
    rw [mem_stk] at h1
    rcases h1 with h1 | h1
    · exact h1
    · have a1 := hI.above x h1
      have a2 := hI.below k.v (fv_stk hk)
      have a3 := hK.le
      omega
  · intro n hn hp w hw
    have hwr := okG_row hg n w hw
    rw [hpt] at hp ⊢
    split
    · exact hg0
    · rename_i hwT
      split at hp
      · rename_i hnT
        rcases hTclo n hnT w hw with h1 | h1
        · exact absurd h1 hwT
        · exact h1
      · exact hI.clo n hn hp w hw
  · intro n hn
    rw [hpt]
    show _ < s.got + 1
    split
    · omega
    · have := hI.ptl n hn; omega
  · have h1 := setAll_negs (p := s.part) (x := s.got) hg0 hTnd hTl hToff
    have h2 := hI.gn
    simp only [tClose, List.length_cons] at h1 ⊢
    omega
  · intro a b ha hb hpa hpb
    rw [hpt] at hpa hpb ⊢
    rw [hpt]
    by_cases ea : a ∈ f.v :: f.seg <;> by_cases eb : b ∈ f.v :: f.seg
    · rw [if_pos ea, if_pos eb]
      exact ⟨fun _ => ⟨(hTback a ea).trans (hTout b eb), (hTback b eb).trans (hTout a ea)⟩, fun _ => rfl⟩
    · rw [if_pos ea, if_neg eb]
      rw [if_neg eb] at hpb
      have h1 := hI.ptl b hb
      constructor
      · intro e; omega
      · rintro ⟨_, h3⟩
        have := hI.closed hg hb hpb h3
        have := hToff a ea
        omega
    · rw [if_neg ea, if_pos eb]
      rw [if_neg ea] at hpa
      have h1 := hI.ptl a ha
      constructor
      · intro e; omega
      · rintro ⟨h3, _⟩
        have := hI.closed hg ha hpa h3
        have := hToff b eb
        omega
    · rw [if_neg ea, if_neg eb]
      rw [if_neg ea] at hpa
      rw [if_neg eb] at hpb
      exact hI.scc a b ha hb hpa hpb
/-- the last frame's low is its number -/
theorem TInv.alone (hI : TInv g s [f]) : s.lw f.v = s.nm f.v := by
  have hF := hI.frs f (by simp)
  obtain ⟨x, h1, h2, _⟩ := hF.wit
  rw [mem_stk] at h1
  have h3 := hF.le
  rcases h1 with h1 | h1
  · simp [stk] at h1
  · have := hI.above x h1; omega
/-- low of the frame below stays, where a part is closed -/
theorem TInv.keepLow (hI : TInv g s (f :: h :: r)) (heq : s.lw f.v = s.nm f.v) : tLow h.v (min (s.lw h.v) (s.lw f.v)) s = s := by
  have h1 := (hI.frs h (by simp)).le
  have h2 := hI.below h.v (fv_stk (by simp))
  have hll : h.v < s.low.length := by rw [hI.ll]; exact hI.inG h.v (fv_stk (by simp))
  have e : min (s.lw h.v) (s.lw f.v) = s.low[h.v] := by
    have : s.lw h.v = s.low[h.v] := getD_at hll
    omega
  unfold tLow
  rw [e, List.set_getElem_self]
end
end Go.Proofs.Ytikigaeihdmcaaa

/-
  Tarjan's search, walked: begin, close.
-/
set_option linter.unusedVariables false
set_option linter.unusedSimpArgs false
namespace Go.Proofs.Ytikigaeihdmcaaa
open Go.RowKit

instance iTar1 : IsT Try.prog 104 (Int × Int) := IsT.of (by kernel_rfl) Try.underlying104 rfl
instance iTar2 : IsC Try.prog 104 2 true := IsC.of (by kernel_rfl) Try.underlying104 rfl
instance iTar3 : IsFd Try.prog 104 0 0 := IsFd.of (by kernel_rfl)
instance iTar4 : IsFd Try.prog 104 1 1 := IsFd.of (by kernel_rfl)
instance iTar5 : IsZC Try.prog 104 [.int .i64 0, .int .i64 0] := IsZC.of (z := .agg #[.int .i64 0, .int .i64 0]) (by kernel_rfl) rfl
instance iTar6 : IsBd Try.prog 104 [(0, 1), (1, 1)] := IsBd.of (by kernel_rfl)
instance iTar7 : IsZ Try.prog 104 ((0, 0) : Int × Int) 16 := IsZ.of (z := .agg #[.int .i64 0, .int .i64 0]) (by kernel_rfl) (fun _ _ => rd_mk (rd_mkInt _ _ _) (rd_mkInt _ _ _))
instance iTar8 : IsS Try.prog 105 104 := ⟨Try.underlying105⟩
instance iTar9 : IsT Try.prog 105 (List (Int × Int)) := IsT.of (by kernel_rfl) Try.underlying105 rfl
instance iTar10 : Flat (Int × Int) := ⟨fun h => h⟩

section
variable {P : Program} {Q : Exit → Act → World → Prop} {n : Nat} {σ : Sg} {w wc : World} {L rest : List Oper} {S : World → Prop} {ord : List (Nat × Bool)} {i d : Nat} {op : Op} {ty : TypeId} {pos : String} {af : Array Edge} {g : Option (Nat × Bool)} {t e : TypeId} {x y : Operand} {b o : Nat} {cells : List Value}
/-- min(x, y) -/
theorem WL.min2 {a c : Int} {ts : Array TypeId} (hg : gd L σ ⟨some d, .call ⟨.builtin .min, #[x, y], ts⟩, ty, pos, af, g⟩ = some true) (hd : Nat.ble (d + 1) n = true) (hx : ev σ x = some (.int .i64 a)) (hy : ev σ y = some (.int .i64 c))
    (h : WL P L Q rest n ((d, .int .i64 (min a c)) :: σ) w) : WL P L Q (⟨some d, .call ⟨.builtin .min, #[x, y], ts⟩, ty, pos, af, g⟩ :: rest) n σ w := by
  refine WL.run hg hd (fun u hu => ?_) h
  have e : (if c < a then c else a) = min a c := by omega
  simp [execOp, resolve, invoke, builtin, hu.ev hx, hu.ev hy, run_min_int2, e]
end

/-- the search in memory -/
structure TM (w : World) (B b : Nat) (gV nV lV pV sV : Value) (nb lb pb : Nat) (s : Ts) (st : List Int) : Prop where
  blk : Blk w b 98 [gV, nV, lV, pV, sV, .int .i64 s.count, .int .i64 s.got]
  num : Own w B 3 Non nV s.num
  low : Own w B 3 Non lV s.low
  part : Own w B 3 Non pV s.part
  stk : Own w B 3 Non sV st
  ge : B ≤ b
  hnb : nV.ownBlock = some nb
  hlb : lV.ownBlock = some lb
  hpb : pV.ownBlock = some pb
  ne : nb ≠ lb ∧ nb ≠ pb ∧ lb ≠ pb ∧ nb ≠ b ∧ lb ≠ b ∧ pb ≠ b
  sne : ∀ k, sV.ownBlock = some k → k ≠ nb ∧ k ≠ lb ∧ k ≠ pb ∧ k ≠ b
/-- what a step of the search may change -/
def tS (b nb lb pb : Nat) (sV : Value) : Nat → Prop := fun k => k = b ∨ k = nb ∨ k = lb ∨ k = pb ∨ sV.ownBlock = some k
theorem TM.lts {w : World} {B b : Nat} {gV nV lV pV sV : Value} {nb lb pb : Nat} {s : Ts} {st : List Int} (h : TM w B b gV nV lV pV sV nb lb pb s st) : b < w.heap.size ∧ nb < w.heap.size ∧ lb < w.heap.size ∧ pb < w.heap.size ∧ (∀ k, sV.ownBlock = some k → k < w.heap.size) ∧ B ≤ nb ∧ B ≤ lb ∧ B ≤ pb ∧ (∀ k, sV.ownBlock = some k → B ≤ k) :=
  ⟨h.blk.lt, (h.num.lt _ h.hnb).2.1, (h.low.lt _ h.hlb).2.1, (h.part.lt _ h.hpb).2.1, fun k hk => (h.stk.lt k hk).2.1, (h.num.lt _ h.hnb).1, (h.low.lt _ h.hlb).1, (h.part.lt _ h.hpb).1, fun k hk => (h.stk.lt k hk).1⟩
theorem TM.ext {w w' : World} {B b : Nat} {gV nV lV pV sV : Value} {nb lb pb : Nat} {s : Ts} {st : List Int} (h : TM w B b gV nV lV pV sV nb lb pb s st) (hE : Ext w w') : TM w' B b gV nV lV pV sV nb lb pb s st :=
  ⟨h.blk.ext hE, h.num.extN hE, h.low.extN hE, h.part.extN hE, h.stk.extN hE, h.ge, h.hnb, h.hlb, h.hpb, h.ne, h.sne⟩
/-- another block has changed -/
theorem TM.off {w w' : World} {row : Option Nat} {B b : Nat} {gV nV lV pV sV : Value} {nb lb pb : Nat} {s : Ts} {st : List Int} (h : TM w B b gV nV lV pV sV nb lb pb s st) (hg : w.grownBy w' row) (hn : ∀ k, row = some k → ¬ tS b nb lb pb sV k) : TM w' B b gV nV lV pV sV nb lb pb s st :=
  ⟨h.blk.kept hg (fun e => hn b e.symm (.inl rfl)), h.num.keptN hg (fun k hk e => hn k e.symm (.inr (.inl (by rw [h.hnb] at hk; cases hk; rfl)))), h.low.keptN hg (fun k hk e => hn k e.symm (.inr (.inr (.inl (by rw [h.hlb] at hk; cases hk; rfl))))), h.part.keptN hg (fun k hk e => hn k e.symm (.inr (.inr (.inr (.inl (by rw [h.hpb] at hk; cases hk; rfl)))))), h.stk.keptN hg (fun k hk e => hn k e.symm (.inr (.inr (.inr (.inr hk))))), h.ge, h.hnb, h.hlb, h.hpb, h.ne, h.sne⟩

theorem begin_ok (w : World) {B b : Nat} {gV nV lV pV sV : Value} {nb lb pb : Nat} {s : Ts} {st : List Int} (h : TM w B b gV nV lV pV sV nb lb pb s st) {k : Nat} (hB : B ≤ w.heap.size) (hk : k < s.num.length) (hk2 : k < s.low.length) (hc0 : 0 ≤ s.count) (hc : s.count < 4611686018427387904) (hst : st.length ≤ 1099511627776) :
    Rt Try.prog 79 [.pointer (some ⟨b, 0, none⟩), .int .i64 k].toArray w fun _ w' => ∃ sV', TM w' B b gV nV lV pV sV' nb lb pb (tBegin k s) (st ++ [(k : Int)]) ∧ Chg (tS b nb lb pb sV) w w' ∧ (∀ j, sV'.ownBlock = some j → sV.ownBlock = some j ∨ w.heap.size ≤ j) := by
  obtain ⟨hn1, hn2, hn3, hn4, hn5, hn6⟩ := h.ne
  refine Rt.enter2 Try.func79 Try.ntmps79 rfl rfl ?_
  have hb := h.blk
  (repeat (first | (apply WL.add; rfl; rfl; rfl; rfl; omega; omega) | (apply WL.pure; rfl; rfl; rfl) | (apply CW.seq) | (apply CW.region) | (apply WL.fa; rfl; rfl; rfl) | (apply WL.nck; rfl; rfl; rfl) | (apply WL.ld; rfl; rfl; rfl; assumption; rfl)))
  refine WL.st rfl rfl rfl hb rfl rfl (ones_of rfl) (fun w1 hb1 hg1 => ?_)
  have hC1 : Chg (tS b nb lb pb sV) w w1 := (Chg.refl _ _).grown hg1 (fun g e => by cases e; exact .inl rfl)
  have hnum1 := h.num.keptN hg1 (fun g hg e => by rw [h.hnb] at hg; cases hg; cases e; exact hn4 rfl)
  have hlow1 := h.low.keptN hg1 (fun g hg e => by rw [h.hlb] at hg; cases hg; cases e; exact hn5 rfl)
  have hpart1 := h.part.keptN hg1 (fun g hg e => by rw [h.hpb] at hg; cases hg; cases e; exact hn6 rfl)
  have hstk1 := h.stk.keptN hg1 (fun g hg e => by cases e; exact (h.sne _ hg).2.2.2 rfl)
  skip
  apply WL.nil
  apply EX.thenN
  apply CW.seq
  have hd := hb1.ext (Ext.drew w1)
  have hSK : ∀ w2, (fun x : World => x.heap[b]? = (drew w1).heap[b]?) w2 → w2.heap[b]? = (drew w1).heap[b]? := fun _ h => h
  refine CW.drawH (fun x : World => x.heap[b]? = (drew w1).heap[b]?) [(0, true), (1, true), (2, true), (3, true), (4, true), (5, true), (6, true), (7, true), (8, true), (9, true), (10, true), (11, true), (12, true), (13, true), (14, true), (15, true), (16, true), (17, true), (18, true), (19, false), (20, true), (21, false)] mixed (by kernel_rfl) rfl ?_
  (repeat (first | (apply HL.pure; rfl; rfl; rfl; rfl) | (refine HL.fa rfl rfl rfl rfl ?_) | (apply HL.nck; rfl; rfl; rfl; rfl) | (refine HL.ldK (by assumption) rfl rfl rfl rfl (by assumption) rfl ?_)))
  have hnumd := hnum1.extN (Ext.drew w1)
  have hlowd := hlow1.extN (Ext.drew w1)
  refine HL.setN (u := .int .i64 (s.count + 1)) (yv := s.count + 1) rfl rfl rfl rfl rfl rfl hnumd hk (fun _ => rfl) (fun _ => rfl) (Rd.mkInt _ _ _) (fun w' hg => hg.block b hd.lt (fun e => hn4 (by rw [h.hnb] at e; exact (Option.some.inj e).symm))) (fun w2 q hnum2 hg2 => ?_)
  have hlow2 := hlowd.keptN hg2 (fun g hg e => by rw [h.hlb] at hg; rw [h.hnb] at e; cases hg; cases e; exact hn1 rfl)
  have hb2 := hd.kept hg2 (fun e => by rw [h.hnb] at e; cases e; exact hn4 rfl)
  skip
  refine HL.setN (u := .int .i64 (s.count + 1)) (yv := s.count + 1) rfl rfl rfl rfl rfl rfl hlow2 hk2 (fun _ => rfl) (fun _ => rfl) (Rd.mkInt _ _ _) (fun w' hg => (hg.block b hb2.lt (fun e => hn5 (by rw [h.hlb] at e; exact (Option.some.inj e).symm))).trans (hg2.block b hd.lt (fun e => hn4 (by rw [h.hnb] at e; exact (Option.some.inj e).symm)))) (fun w3 q3 hlow3 hg3 => ?_)
  have hnum3 := hnum2.keptN hg3 (fun g hg e => by rw [h.hnb] at hg; rw [h.hlb] at e; cases hg; cases e; exact hn1 rfl)
  have hb3 := hb2.kept hg3 (fun e => by rw [h.hlb] at e; cases e; exact hn5 rfl)
  have hpart3 := ((hpart1.extN (Ext.drew w1)).keptN hg2 (fun g hg e => by rw [h.hpb] at hg; rw [h.hnb] at e; cases hg; cases e; exact hn2 rfl)).keptN hg3 (fun g hg e => by rw [h.hpb] at hg; rw [h.hlb] at e; cases hg; cases e; exact hn3 rfl)
  have hstk3 := ((hstk1.extN (Ext.drew w1)).keptN hg2 (fun g hg e => by rw [h.hnb] at e; cases e; exact (h.sne _ hg).1 rfl)).keptN hg3 (fun g hg e => by rw [h.hlb] at e; cases e; exact (h.sne _ hg).2.1 rfl)
  have hC3 : Chg (tS b nb lb pb sV) w w3 := ((hC1.grown (w'' := drew w1) (row := none) ⟨rfl, rfl, rfl, Nat.le_refl _, fun _ _ _ => rfl⟩ (fun g e => by cases e)).grown hg2 (fun g e => by rw [h.hnb] at e; cases e; exact .inr (.inl rfl))).grown hg3 (fun g e => by rw [h.hlb] at e; cases e; exact .inr (.inr (.inl rfl)))
  clear hb hb1 hb2 hd hnum1 hnum2 hnumd hlow1 hlow2 hlowd hpart1 hstk1 hSK hC1
  (repeat (apply HL.nil))
  apply EX.thenN
  apply CW.region
  (repeat (first | (apply WL.pure; rfl; rfl; rfl) | (apply WL.fa; rfl; rfl; rfl) | (apply WL.nck; rfl; rfl; rfl) | (apply WL.ld; rfl; rfl; rfl; assumption; rfl)))
  have hBw : B ≤ w3.heap.size := Nat.le_trans hB hC3.size
  refine WL.app1 (F := Non) (yv := (k : Int)) rfl rfl (fun _ => rfl) rfl rfl (fun _ => rfl) hstk3 (Rd.mkInt _ _ _) hBw (fun _ h => h.elim) (by decide) (by unfold maxLen; omega) (by omega) (fun sV' w4 p hstk4 hg4 hnb4 => ?_)
  have hnum4 := hnum3.keptN hg4 (fun g hg e => by rw [h.hnb] at hg; cases hg; exact (h.sne _ e.symm).1 rfl)
  have hlow4 := hlow3.keptN hg4 (fun g hg e => by rw [h.hlb] at hg; cases hg; exact (h.sne _ e.symm).2.1 rfl)
  have hpart4 := hpart3.keptN hg4 (fun g hg e => by rw [h.hpb] at hg; cases hg; exact (h.sne _ e.symm).2.2.1 rfl)
  have hb4 := hb3.kept hg4 (fun e => (h.sne _ e.symm).2.2.2 rfl)
  have hC4 : Chg (tS b nb lb pb sV) w w4 := hC3.grown hg4 (fun g e => .inr (.inr (.inr (.inr e))))
  have hl1 := hnum3.lt _ h.hnb
  have hl2 := hlow3.lt _ h.hlb
  have hl3 := hpart3.lt _ h.hpb
  have hl4 := hb3.lt
  have hsne' : ∀ j, sV'.ownBlock = some j → j ≠ nb ∧ j ≠ lb ∧ j ≠ pb ∧ j ≠ b := by
    intro j hj
    rcases hnb4 j hj with h1 | h1
    · exact h.sne j h1
    · refine ⟨?_, ?_, ?_, ?_⟩ <;> (intro e; omega)
  (repeat (first | (apply WL.fa; rfl; rfl; rfl) | (apply WL.nck; rfl; rfl; rfl)))
  obtain ⟨so, sc, rfl⟩ := hstk4.val
  refine WL.st rfl rfl rfl hb4 rfl rfl (ones_of rfl) (fun w5 hb5 hg5 => ?_)
  (repeat (apply WL.nil))
  refine EX.end0 rfl ⟨_, ⟨hb5, ?_, ?_, ?_, ?_, h.ge, h.hnb, h.hlb, h.hpb, h.ne, hsne'⟩, hC4.grown hg5 (fun g e => by cases e; exact .inl rfl), fun j hj => (hnb4 j hj).imp id (fun h1 => Nat.le_trans hC3.size h1)⟩
  · exact hnum4.keptN hg5 (fun g hg e => by rw [h.hnb] at hg; cases hg; cases e; exact hn4 rfl)
  · exact hlow4.keptN hg5 (fun g hg e => by rw [h.hlb] at hg; cases hg; cases e; exact hn5 rfl)
  · exact hpart4.keptN hg5 (fun g hg e => by rw [h.hpb] at hg; cases hg; cases e; exact hn6 rfl)
  · exact hstk4.keptN hg5 (fun g hg e => by cases e; exact (hsne' _ hg).2.2.2 rfl)

/-- the stack's nodes, as numbers -/
def ints (l : List Nat) : List Int := l.map fun n : Nat => (n : Int)
theorem ints_app (a b : List Nat) : ints (a ++ b) = ints a ++ ints b := List.map_append
theorem close_ok (w : World) {B b : Nat} {gV nV lV pV sV : Value} {nb lb pb : Nat} {s : Ts} {base T : List Nat} {k : Nat} (h : TM w B b gV nV lV pV sV nb lb pb s (ints (base ++ k :: T))) (hnd : (k :: T).Nodup) (hT : ∀ x ∈ k :: T, x < s.part.length) (hg0 : 0 ≤ s.got) (hg1 : s.got < 4611686018427387904) :
    Rt Try.prog 80 [.pointer (some ⟨b, 0, none⟩), .int .i64 k].toArray w fun _ w' => ∃ sV', TM w' B b gV nV lV pV sV' nb lb pb (tClose (k :: T) s) (ints base) ∧ Chg (tS b nb lb pb sV) w w' ∧ sV'.ownBlock = sV.ownBlock := by
  obtain ⟨hn1, hn2, hn3, hn4, hn5, hn6⟩ := h.ne
  refine Rt.enter2 Try.func80 Try.ntmps80 rfl rfl ?_
  (repeat (first | (apply CW.seq) | (apply CW.block)))
  refine CW.loop (S := List Nat × List Nat × Value) (fun _ => [(0, .pointer (some ⟨b, 0, none⟩)), (1, .int .i64 k)])
    (fun x w' => k :: T = x.1 ++ x.2.1 ∧ 0 < x.1.length ∧ TM w' B b gV nV lV pV x.2.2 nb lb pb { s with part := setAll s.part x.2.1 s.got } (ints (base ++ x.1)) ∧ Chg (tS b nb lb pb sV) w w' ∧ x.2.2.ownBlock = sV.ownBlock) (fun x => x.1.length) (k :: T, [], sV) (by repeat (first | exact trivial | refine ⟨rfl, ?_⟩)) ⟨(List.append_nil _).symm, Nat.succ_pos _, h, Chg.refl _ _, rfl⟩ ?_
  rintro ⟨rem, D, v⟩ w1 ⟨hrem, hpos, hM, hC, hv⟩
  dsimp only at hrem hpos hM hv
  obtain ⟨rem', m, rfl⟩ : ∃ rem' m, rem = rem' ++ [m] := ⟨rem.dropLast, rem.getLast (List.ne_nil_of_length_pos hpos), (List.dropLast_concat_getLast _).symm⟩
  have hmT : m ∈ k :: T := by rw [hrem]; simp
  have hml := hT m hmT
  have est : ints (base ++ (rem' ++ [m])) = ints (base ++ rem') ++ [(m : Int)] := by rw [← List.append_assoc, ints_app]; rfl
  rw [est] at hM
  generalize hX : ints (base ++ rem') = X at *
  have hb := hM.blk
  obtain ⟨so, sc, hsv, hsl⟩ := hM.stk.oldN.sl
  have hlen : (X ++ [(m : Int)]).length = X.length + 1 := by simp
  have hel : ∀ (h : (((X ++ [(m : Int)]).length : Int) - 1).toNat < (X ++ [(m : Int)]).length), (X ++ [(m : Int)])[(((X ++ [(m : Int)]).length : Int) - 1).toNat] = m := by
    intro h
    have : (((X ++ [(m : Int)]).length : Int) - 1).toNat = X.length := by rw [hlen]; omega
    simp [this]
  have hmx := hsl.len63
  subst hsv
  (repeat (first | (apply QL.sub'; rfl; rfl; rfl; rfl; omega; omega) | (apply QL.pure; rfl; rfl; rfl) | (apply CW.seq) | (apply QL.lenS; rfl; rfl; rfl) | (apply QL.fa; rfl; rfl; rfl) | (apply QL.nck; rfl; rfl; rfl) | (apply QL.ld; rfl; rfl; rfl; assumption; rfl) | (apply CW.block) | (apply CW.draw; exact mixed; kernel_rfl)))
  refine QL.elem rfl rfl rfl rfl rfl (fun _ h => h) hsl (by omega) (by omega) (fun _ => rfl) (fun u q hu => ?_)
  obtain rfl := hu.int
  simp only [hel]
  (repeat (apply QL.pure; rfl; rfl; rfl))
  refine QL.nil (fun w2 hE2 => ?_)
  have hM2 := hM.ext hE2
  have hC2 : Chg (tS b nb lb pb sV) w w2 := ⟨hE2.os.trans hC.os, hE2.tape.trans hC.tape, hE2.output.trans hC.output, Nat.le_trans hC.size hE2.size, fun k hk hn => (hE2.block k (Nat.lt_of_lt_of_le hk hC.size)).trans (hC.block k hk hn)⟩
  apply EX.thenN
  apply CW.seq
  have hMd := hM2.ext (Ext.drew w2)
  have hbd := hMd.blk
  have hSK : ∀ w3, (fun x : World => x.heap[b]? = (drew w2).heap[b]?) w3 → w3.heap[b]? = (drew w2).heap[b]? := fun _ h => h
  refine CW.drawE (fun x : World => x.heap[b]? = (drew w2).heap[b]?) [(0, true), (1, true), (2, true), (3, true), (4, true), (5, true), (6, true), (7, true), (8, true), (9, true), (10, true), (11, true), (12, false), (13, true)] 14 mixed (by kernel_rfl) rfl ?_
  (repeat (first | (apply HL.sub'; rfl; rfl; rfl; rfl; rfl; omega; omega) | (apply HL.pure; rfl; rfl; rfl; rfl) | (refine HL.fa rfl rfl rfl rfl ?_) | (apply HL.nck; rfl; rfl; rfl; rfl) | (refine HL.ldK (by assumption) rfl rfl rfl rfl (by assumption) rfl ?_) | (refine HL.lenS rfl rfl rfl rfl ?_)))
  refine HL.cutHi (α := Int) X.length (by rw [hlen]; omega) rfl rfl rfl rfl rfl (by have := hsl.le; omega) ?_
  refine HL.mut rfl (WL.nck rfl rfl rfl (WL.nil (EX.mut rfl ?_)))
  (repeat (first | (refine HL.fa rfl rfl rfl rfl ?_) | (apply HL.nil)))
  refine EX.tail rfl (WL.st rfl rfl rfl hbd rfl rfl (ones_of rfl) (fun w3 hb3 hg3 => WL.nil (EX.tailE ?_)))
  have hstk3 := (hMd.stk.take rfl (k := X.length) (by omega)).keptN hg3 (fun g hg e => by cases e; exact (hM.sne _ (show Value.ownBlock (.slice so (X ++ [(m : Int)]).length sc) = some b by cases so <;> exact hg)).2.2.2 rfl)
  rw [show (X ++ [(m : Int)]).take X.length = X by simp] at hstk3
  have hnum3 := hMd.num.keptN hg3 (fun g hg e => by rw [h.hnb] at hg; cases hg; cases e; exact hn4 rfl)
  have hlow3 := hMd.low.keptN hg3 (fun g hg e => by rw [h.hlb] at hg; cases hg; cases e; exact hn5 rfl)
  have hpart3 := hMd.part.keptN hg3 (fun g hg e => by rw [h.hpb] at hg; cases hg; cases e; exact hn6 rfl)
  have hC3 : Chg (tS b nb lb pb sV) w w3 := (hC2.grown (w'' := drew w2) (row := none) ⟨rfl, rfl, rfl, Nat.le_refl _, fun _ _ _ => rfl⟩ (fun g e => by cases e)).grown hg3 (fun g e => by cases e; exact .inl rfl)
  apply EX.thenN
  apply CW.seq
  have hb4 := hb3.ext (Ext.drew w3)
  have hSK : ∀ w4, (fun x : World => x.heap[b]? = (drew w3).heap[b]?) w4 → w4.heap[b]? = (drew w3).heap[b]? := fun _ h => h
  refine CW.drawH (fun x : World => x.heap[b]? = (drew w3).heap[b]?) [(0, true), (1, true), (2, true), (3, true), (4, true), (5, true), (6, true), (7, true), (8, true), (9, true), (10, false)] mixed (by kernel_rfl) rfl ?_
  (repeat (first | (apply HL.pure; rfl; rfl; rfl; rfl) | (refine HL.fa rfl rfl rfl rfl ?_) | (apply HL.nck; rfl; rfl; rfl; rfl) | (refine HL.ldK (by assumption) rfl rfl rfl rfl (by assumption) rfl ?_)))
  refine HL.setN (u := .int .i64 s.got) (yv := s.got) rfl rfl rfl rfl rfl rfl (hpart3.extN (Ext.drew w3)) (by dsimp only; rw [setAll_len]; exact hml) (fun _ => rfl) (fun _ => rfl) (Rd.mkInt _ _ _) (fun w' hg => hg.block b hb4.lt (fun e => by rw [h.hpb] at e; cases e; exact hn6 rfl)) (fun w5 q hpart5 hg5 => ?_)
  have hnum5 := (hnum3.extN (Ext.drew w3)).keptN hg5 (fun g hg e => by rw [h.hnb] at hg; rw [h.hpb] at e; cases hg; cases e; exact hn2 rfl)
  have hlow5 := (hlow3.extN (Ext.drew w3)).keptN hg5 (fun g hg e => by rw [h.hlb] at hg; rw [h.hpb] at e; cases hg; cases e; exact hn3 rfl)
  have hvs : Value.ownBlock (.slice so X.length sc) = sV.ownBlock := by rw [← hv]; cases so <;> rfl
  have hstk5 := (hstk3.extN (Ext.drew w3)).keptN hg5 (fun g hg e => by rw [h.hpb] at e; cases e; exact (h.sne _ (hvs ▸ hg)).2.2.1 rfl)
  have hb5 := hb4.kept hg5 (fun e => by rw [h.hpb] at e; cases e; exact hn6 rfl)
  have hC5 : Chg (tS b nb lb pb sV) w w5 := (hC3.grown (w'' := drew w3) (row := none) ⟨rfl, rfl, rfl, Nat.le_refl _, fun _ _ _ => rfl⟩ (fun g e => by cases e)).grown hg5 (fun g e => by rw [h.hpb] at e; cases e; exact .inr (.inr (.inr (.inl rfl))))
  have hsne5 : ∀ j, Value.ownBlock (.slice so X.length sc) = some j → j ≠ nb ∧ j ≠ lb ∧ j ≠ pb ∧ j ≠ b := fun j hj => h.sne j (hvs ▸ hj)
  have hM5 : TM w5 B b gV nV lV pV (.slice so X.length sc) nb lb pb { s with part := setAll s.part (m :: D) s.got } (ints (base ++ rem')) := ⟨hb5, hnum5, hlow5, hpart5, by rw [hX]; exact hstk5, h.ge, h.hnb, h.hlb, h.hpb, h.ne, hsne5⟩
  clear hM hM2 hMd hb hbd hb3 hb4 hstk3 hnum3 hlow3 hpart3 hnum5 hlow5 hpart5 hstk5 hC3 hC2 hC hSK
  (repeat (apply HL.nil))
  apply EX.thenN
  (repeat (first | (apply WL.pure; rfl; rfl; rfl) | (apply WL.nil) | (apply EX.thenN) | (apply CW.seq) | (apply CW.region)))
  refine CW.cond rfl (fun hmk => ?_) (fun hmk => ?_)
  · have hmk : m = k := by
      have : (m : Int) = (k : Int) := by simpa using hmk
      omega
    subst hmk
    have hr : rem' = [] := by
      cases rem' with
      | nil => rfl
      | cons y ys =>
        exfalso
        rw [List.cons_append, List.cons_append] at hrem
        obtain ⟨rfl, h2⟩ := List.cons.inj hrem
        rw [List.nodup_cons] at hnd
        exact hnd.1 (by rw [h2]; simp)
    subst hr
    have hD : D = T := by simpa using hrem.symm
    subst hD
    rw [List.append_nil] at hM5
    have hb6 := hM5.blk
    dsimp only at hb6
    (repeat (first | (apply WL.add; rfl; rfl; rfl; rfl; omega; omega) | (apply WL.pure; rfl; rfl; rfl) | (apply EX.thenN) | (apply CW.region) | (apply WL.fa; rfl; rfl; rfl) | (apply WL.nck; rfl; rfl; rfl) | (apply WL.ld; rfl; rfl; rfl; assumption; rfl) | (apply CW.exit) | (apply EX.thenX) | (apply EX.inX) | (apply EX.inXne; rfl)))
    refine WL.st rfl rfl rfl hb6 rfl rfl (ones_of rfl) (fun w6 hb7 hg6 => ?_)
    (repeat (apply WL.nil))
    refine EX.end0 rfl ⟨_, ⟨hb7, ?_, ?_, ?_, ?_, h.ge, h.hnb, h.hlb, h.hpb, h.ne, hsne5⟩, hC5.grown hg6 (fun g e => by cases e; exact .inl rfl), hvs⟩
    · exact hM5.num.keptN hg6 (fun g hg e => by rw [h.hnb] at hg; cases hg; cases e; exact hn4 rfl)
    · exact hM5.low.keptN hg6 (fun g hg e => by rw [h.hlb] at hg; cases hg; cases e; exact hn5 rfl)
    · exact hM5.part.keptN hg6 (fun g hg e => by rw [h.hpb] at hg; cases hg; cases e; exact hn6 rfl)
    · exact hM5.stk.keptN hg6 (fun g hg e => by cases e; exact (hsne5 _ hg).2.2.2 rfl)
  · have hmk : ¬ m = k := by
      have : ¬ (m : Int) = (k : Int) := by simpa using hmk
      omega
    have hr : 0 < rem'.length := by
      cases rem' with
      | nil => exact absurd (List.cons.inj hrem).1.symm hmk
      | cons y ys => simp
    (repeat (first | (apply EX.inN) | (apply CW.skip)))
    exact EX.back (rem', m :: D, _) (by repeat (first | exact trivial | refine ⟨rfl, ?_⟩)) ⟨by rw [hrem]; simp, hr, hM5, hC5, hvs⟩ (by simp)
end Go.Proofs.Ytikigaeihdmcaaa

