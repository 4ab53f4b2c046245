/-
  Drawn regions whose last operation is alone and may change what the others read: S need not hold behind it. Over any program.
-/
import Derived.Test.YthojdcbpglipeaaBag
set_option linter.unusedVariables false
set_option linter.unusedSimpArgs false
namespace Go.Proofs.Ythojdcbpglipeaa
open Go.RowKit

/-- whatever order is picked; behind each operation but number e the condition S holds -/
def wpAnyE (P : Program) (ops : Array Oper) (Q : Exit → Act → World → Prop) (S : World → Prop) (e : Nat) : Nat → Array Bool → Act → World → Prop
  | 0, listed, a, w => Region.ready .any ops listed = [] ∧ Q .normal a w
  | k + 1, listed, a, w => (Region.ready .any ops listed = [] → Q .normal a w) ∧ ∀ i ∈ Region.ready .any ops listed, wpOp P ops Q i (fun a' w' => (i ≠ e → S w') ∧ wpAnyE P ops Q S e k (listed.setIfInBounds i true) a' w') a w
theorem wpAny_of_E {P : Program} {ops : Array Oper} {Q : Exit → Act → World → Prop} {S : World → Prop} {e : Nat} : ∀ (k : Nat) (listed : Array Bool) (a : Act) (w : World), wpAnyE P ops Q S e k listed a w → wpAny P .any ops Q k listed a w
  | 0, _, _, _, h => h
  | k + 1, _, _, _, h => ⟨h.1, fun i hi => wpOp_mono (fun a' w' h' => wpAny_of_E k _ a' w' h'.2) (h.2 i hi)⟩
/-- does number e wait for number i? -/
def waitsB (ops : Array Oper) (e i : Nat) : Bool := match ops[e]? with
  | some o => o.after.toList.any fun ed => Region.binds .any ed && (ed.on == i)
  | none => false
theorem waits_not {ops : Array Oper} {e i : Nat} {listed : Array Bool} (hw : waitsB ops e i = true) (hi : listed.getD i false = false) : e ∉ Region.ready .any ops listed := by
  intro he
  obtain ⟨_, o, ho, hall⟩ := mem_ready.1 he
  unfold waitsB at hw
  rw [ho] at hw
  obtain ⟨ed, h1, h2⟩ := List.any_eq_true.1 hw
  simp only [Bool.and_eq_true, beq_iff_eq] at h2
  have := hall ed (by simpa using h1) h2.1
  rw [h2.2, hi] at this
  cases this
theorem ready_open {ops : Array Oper} {i : Nat} {listed : Array Bool} (h : i ∈ Region.ready .any ops listed) : listed.getD i false = false := by
  have h0 := (mem_ready.1 h).1
  rcases Nat.lt_or_ge i listed.size with h' | h'
  · simp [h'] at h0 ⊢; exact h0
  · simp [h']
theorem wpAnyE_take {P : Program} {ops : Array Oper} {Q : Exit → Act → World → Prop} {S : World → Prop} {e i : Nat} {oi : Oper} {v : Value} (hoi : ops[i]? = some oi) (hs : Region.noSelect ops = true) (hne : i ≠ e) (hwt : waitsB ops e i = true) (hQ : ∀ c a w, Q (.panic c) (a.put oi.dst v) w → Q (.panic c) a w) :
    ∀ (k : Nat) (listed : Array Bool) (a : Act) (w : World), (∀ j oj, ops[j]? = some oj → j ≠ i → listed.getD j true = false → (∀ ed ∈ oj.after, Region.binds .any ed = true → ed.on ≠ i) → oi.apart ops oj = true) →
      i ∈ Region.ready .any ops listed → YieldsIf P ops S oi v a → S w → wpAnyE P ops Q S e k (listed.setIfInBounds i true) (a.put oi.dst v) w → wpAnyE P ops Q S e (k + 1) listed a w := by
  have hsel := Region.noSelect_spec hs
  intro k
  induction k with
  | zero =>
    intro listed a w _ hr hy hS H
    refine ⟨fun h => (by rw [h] at hr; cases hr), fun j hj => ?_⟩
    by_cases hji : j = i
    · subst hji; exact hy.wpOp hoi hS ⟨fun _ => hS, H⟩
    · have := ready_mono hj hji
      rw [H.1] at this
      cases this
  | succ k ih =>
    intro listed a w hfree hr hy hS H
    refine ⟨fun h => (by rw [h] at hr; cases hr), fun j hj => ?_⟩
    by_cases hji : j = i
    · subst hji; exact hy.wpOp hoi hS ⟨fun _ => hS, H⟩
    · have hje : j ≠ e := fun h => waits_not hwt (ready_open hr) (h ▸ hj)
      obtain ⟨hopen, oj, hoj, hall⟩ := mem_ready.1 hj
      have hno : ∀ ed ∈ oj.after, Region.binds .any ed = true → ed.on ≠ i := fun ed h1 h2 h3 => by
        have h4 := hall ed h1 h2
        rw [h3, ready_open hr] at h4
        cases h4
      have hput := wpOp_putIf hoj (hfree j oj hoj hji hopen hno) (fun cs b => hsel i oi cs b hoi) (fun cs b => hsel j oj cs b hoj) hQ hy (H.2 j (ready_mono hj hji))
      refine wpOp_mono (fun a' w' h3 => ⟨fun _ => h3.2.1 hje, ih (listed.setIfInBounds j true) a' w' (fun m om hm hmi hun hn => hfree m om hm hmi ?_ hn) (ready_mono hr (Ne.symm hji)) h3.1 (h3.2.1 hje) ?_⟩) hput
      · by_cases hjm : j = m
        · subst hjm; exact hopen
        · rw [getD_set_ne true hjm] at hun; exact hun
      · rw [Array.setIfInBounds_comm _ _ hji]
        exact h3.2.2

/-- the order: s, and then e alone -/
def ordE (ops : Array Oper) (e : Nat) : List (Nat × Bool) → Array Bool → Bool
  | [], listed => decide (Region.ready .any ops listed = [e]) && (Region.ready .any ops (listed.setIfInBounds e true)).isEmpty
  | (i, true) :: s, listed => (Region.ready .any ops listed).contains i && Region.free .any ops listed i && !(i == e) && waitsB ops e i && ordE ops e s (listed.setIfInBounds i true)
  | (i, false) :: s, listed => decide (Region.ready .any ops listed = [i]) && ordE ops e s (listed.setIfInBounds i true)
def ordEOk (l : List Oper) (s : List (Nat × Bool)) (e : Nat) : Bool := Region.noSelect l.toArray && decide (s.length + 1 = l.length) && ordE l.toArray e s (Array.replicate l.length false)
/-- number e, alone and last -/
def TailQ (P : Program) (ops : List Oper) (Q : Exit → Act → World → Prop) (e : Nat) : Exit → Act → World → Prop :=
  fun x a w => x = .normal ∧ ∃ o, ops[e]? = some o ∧ wpList P ops.toArray (fun x a w => x = .normal ∧ Q .normal a w) [o] a w
theorem wpHLe_sound {P : Program} {ops : List Oper} {S : World → Prop} {Q : Exit → Act → World → Prop} {e : Nat} (hs : Region.noSelect ops.toArray = true) :
    ∀ (s : List (Nat × Bool)) (listed : Array Bool) (a : Act) (w : World), ordE ops.toArray e s listed = true → S w → wpHL P ops S (fun a w => TailQ P ops Q e .normal a w) s a w → wpAnyE P ops.toArray (fun x a w => x = .normal ∧ Q .normal a w) S e (s.length + 1) listed a w
  | [], listed, a, w, hB, hS, h => by
    simp only [ordE, Bool.and_eq_true, decide_eq_true_eq, List.isEmpty_iff] at hB
    obtain ⟨_, o, ho, hl⟩ := h
    refine ⟨fun h0 => (by rw [hB.1] at h0; cases h0), fun i hi => ?_⟩
    rw [hB.1, List.mem_singleton] at hi
    subst hi
    have ho' : ops.toArray[i]? = some o := by simpa using ho
    unfold wpOp
    simp only [ho']
    simp only [wpList] at hl
    split
    · rename_i hw
      rw [if_pos hw] at hl
      exact hl.imp (Oper.wp_mono fun a' w' h' => ⟨fun h => absurd rfl h, hB.2, rfl, h'.2⟩) id
    · rename_i hw
      rw [if_neg hw] at hl
      exact ⟨fun h => absurd rfl h, hB.2, rfl, hl.2⟩
  | (i, true) :: s, listed, a, w, hB, hS, ⟨o, v, ho, hy, h⟩ => by
    simp only [ordE, Bool.and_eq_true, Bool.not_eq_true', beq_eq_false_iff_ne] at hB
    obtain ⟨⟨⟨⟨h1, h2⟩, h3⟩, h4⟩, h5⟩ := hB
    have ho' : ops.toArray[i]? = some o := by simpa using ho
    exact wpAnyE_take ho' hs h3 h4 (fun _ _ _ h => by cases h.1) _ _ _ _ (Region.free_spec ho' h2) (by simpa using h1) hy hS (wpHLe_sound hs s _ _ _ h5 hS h)
  | (i, false) :: s, listed, a, w, hB, hS, ⟨o, ho, h⟩ => by
    simp only [ordE, Bool.and_eq_true, decide_eq_true_eq] at hB
    refine ⟨fun h0 => (by rw [hB.1] at h0; cases h0), fun j hj => ?_⟩
    rw [hB.1, List.mem_singleton] at hj
    subst hj
    have ho' : ops.toArray[j]? = some o := by simpa using ho
    unfold wpOp
    simp only [ho']
    split
    · rename_i hw
      rw [if_pos hw] at h
      exact .inl (Oper.wp_mono (fun a' w' h' => ⟨fun _ => h'.1, wpHLe_sound hs s _ _ _ hB.2 h'.1 h'.2⟩) (wp_exits (fun x a w hne hf => absurd hf.1 hne) h))
    · rename_i hw
      rw [if_neg hw] at h
      exact ⟨fun _ => h.1, wpHLe_sound hs s _ _ _ hB.2 h.1 h.2⟩
section
variable {P : Program} {Q : Exit → Act → World → Prop} {n : Nat} {σ : Sg} {w : World} {L : List Oper} {S : World → Prop}
theorem CW.drawE {id : Nat} (S : World → Prop) (s : List (Nat × Bool)) (e : Nat) (hm : P.follows .mixedOrders = true) (hB : ordEOk L s e = true) (hS : S (drew w)) (h : HL P L S (TailQ P L Q e) s n σ (drew w)) : CW P (.region id L.toArray true) Q n σ w := by
  unfold CW; unfold HL at h; intro a ha
  simp only [ordEOk, Bool.and_eq_true, decide_eq_true_eq] at hB
  obtain ⟨⟨hs, hl⟩, hB⟩ := hB
  have h1 := wpHLe_sound (Q := Q) hs s (Array.replicate L.length false) a (Go.Proofs.Ythojdcbpglipeaa.drew w) hB hS (h a ha)
  rw [hl] at h1
  have h2 : (Code.region id L.toArray true).wp P (fun x a w => x = .normal ∧ Q .normal a w) a w := wp_region_any hm (by simpa using wpAny_of_E _ _ _ _ h1)
  exact wp_mono h2 (fun e a' w' ⟨he, hq⟩ => by subst he; exact hq)
/-- the last operation, by the rule for its like -/
theorem EX.tail {e : Nat} {o : Oper} (ho : nthO L e = some o) (h : WL P L (fun x a w => x = .normal ∧ Q .normal a w) [o] n σ w) : EX (TailQ P L Q e) .normal n σ w := by
  unfold EX; unfold WL at h
  intro a ha
  rw [nthO_eq] at ho
  exact ⟨rfl, o, ho, h a ha⟩
theorem EX.tailE (h : EX Q .normal n σ w) : EX (fun x a w => x = .normal ∧ Q .normal a w) .normal n σ w := by
  unfold EX at *; exact fun a ha => ⟨rfl, h a ha⟩
end
section
variable {P : Program} {Q : Exit → Act → World → Prop} {n : Nat} {σ : Sg} {wc : World} {L : List Oper} {S : World → Prop} {i j d : Nat} {ty : TypeId} {pos : String} {af : Array Edge} {g : Option (Nat × Bool)} {ty' : TypeId} {pos' : String} {af' : Array Edge} {g' : Option (Nat × Bool)} {t e : TypeId} {x ix y : Operand}
variable {α : Type} [Rep α] {F : Nat → Prop}
/-- x[k] = y, of a slice that the call owns, as the region's last two operations -/
theorem HL.setTail {v u : Value} {B : Nat} {xs : List α} {yv : α} {k : Nat} {kd : IntKind}
    (ho1 : nthO L i = some ⟨some d, .indexAddr t x ix, ty, pos, af, g⟩) (ho2 : nthO L j = some ⟨none, .store e (.tmp d) y, ty', pos', af', g'⟩)
    (hg : gd L σ ⟨some d, .indexAddr t x ix, ty, pos, af, g⟩ = some true) (hd : Nat.ble (d + 1) n = true)
    (hx : ev σ x = some v) (hi : ev σ ix = some (.int kd (k : Int))) [hs : IsS P t e] [ht : IsT P e α] (hown : Own wc B e F v xs) (h1 : k < xs.length)
    (hg' : ∀ p, gd L ((d, .pointer p) :: σ) ⟨none, .store e (.tmp d) y, ty', pos', af', g'⟩ = some true) (hy : ∀ p, ev ((d, .pointer p) :: σ) y = some u) (hu : Rd wc F u yv)
    (h : ∀ w' p, Own w' B e F v (xs.set k yv) → wc.grownBy w' v.ownBlock → EX Q .normal n ((d, .pointer p) :: σ) w') :
    HL P L S (TailQ P L Q j) [(i, true)] n σ wc := by
  rcases hown with ⟨rfl, rfl⟩ | ⟨b, off, cap, cur, rfl, ho⟩
  · simp at h1
  · refine HL.idx (α := α) ho1 hg hd hx hi (by omega) (by omega) ?_
    obtain ⟨w', hr, ho', hgr⟩ := run_set (P := P) (v := u) (i := k) ho h1 hu
    refine HL.nil (EX.tail ho2 ?_)
    refine WL.runU (hg' _) (fun a ha => ?_) (WL.nil (EX.tailE (h w' _ ho' hgr)))
    have e1 := ha.ev (x := .tmp d) fnd_cons_eq
    have e2 := ha.ev (hy _)
    simp only [Int.toNat_natCast] at e1
    simp [execOp, e1, e2, Instr.storeAt, Instr.sureAddr, hr]
end
section
variable {P : Program} {Q : Exit → Act → World → Prop} {n : Nat} {σ : Sg} {w wc : World} {L : List Oper} {S : World → Prop} {ord : List (Nat × Bool)} {i d : Nat} {ty : TypeId} {pos : String} {af : Array Edge} {g : Option (Nat × Bool)} {t e : TypeId} {x : Operand} {b o : Nat} {cells : List Value}
/-- a field of a struct that nobody changes meanwhile -/
theorem HL.ldK {v : Value} (hK : ∀ w1, S w1 → w1.heap[b]? = w.heap[b]?) (ho : nthO L i = some ⟨some d, .load t x, ty, pos, af, g⟩) (hg : gd L σ ⟨some d, .load t x, ty, pos, af, g⟩ = some true) (hd : Nat.ble (d + 1) n = true) (hx : ev σ x = some (.pointer (some ⟨b, o, none⟩))) [hc : IsC P t 1 false] (hb : Blk w b e cells) (hv : nthV cells o = some v)
    (h : HL P L S Q ord n ((d, v) :: σ) wc) : HL P L S Q ((i, true) :: ord) n σ wc := by
  refine HL.run ho hg hd (fun a ha w' hsw => ?_) h
  have hb' : Blk w' b e cells := (hK w' hsw).trans hb
  simp [execOp, ha.ev hx, run_ld (P := P) (t := t) w' hb' hv]
end
end Go.Proofs.Ythojdcbpglipeaa
