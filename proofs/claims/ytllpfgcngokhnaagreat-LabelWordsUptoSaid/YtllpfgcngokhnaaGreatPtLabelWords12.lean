import Derived.Test.YtllpfgcngokhnaaGreatPtLabelWords11
/-
  Drawn regions with a turning point: what holds of the memory until operation c comes, and what holds throughout. Some reads must come ahead of c, others may come behind it. Over any program.
-/
set_option linter.unusedVariables false
set_option linter.unusedSimpArgs false
namespace Go.Proofs.YtllpfgcngokhnaaGreat
open Go.RowKit

/-- whatever order comes, a condition holds behind each operation; it may look at what has come -/
def wpAnyG (P : Program) (ops : Array Oper) (Q : Exit → Act → World → Prop) (S : Array Bool → World → Prop) : Nat → Array Bool → Act → World → Prop
  | 0, listed, a, w => Region.ready .any ops listed = [] ∧ Q .normal a w
  | fuel + 1, listed, a, w =>
    (Region.ready .any ops listed = [] → Q .normal a w) ∧
    ∀ i ∈ Region.ready .any ops listed, wpOp P ops Q i (fun a' w' => S (listed.setIfInBounds i true) w' ∧ wpAnyG P ops Q S fuel (listed.setIfInBounds i true) a' w') a w
section
variable {P : Program} {ops : Array Oper} {Q : Exit → Act → World → Prop} {S : Array Bool → World → Prop}
theorem wpAny_of_G : ∀ (fuel : Nat) (listed : Array Bool) (a : Act) (w : World), wpAnyG P ops Q S fuel listed a w → wpAny P .any ops Q fuel listed a w
  | 0, _, _, _, h => h
  | fuel + 1, _, _, _, h => ⟨h.1, fun i hi => wpOp_mono (fun a' w' h' => wpAny_of_G fuel _ a' w' h'.2) (h.2 i hi)⟩
theorem wpAnyG_first {i : Nat} {oi : Oper} {v : Value} (hi : ops[i]? = some oi) (hsel : ∀ (j : Nat) (o : Oper) cs b, ops[j]? = some o → o.op ≠ .select cs b)
    (hQ : ∀ c a w, Q (.panic c) (a.put oi.dst v) w → Q (.panic c) a w) (Rch : Array Bool → Prop) (hR : ∀ L j, Rch L → j ≠ i → j ∈ Region.ready .any ops L → Rch (L.setIfInBounds j true))
    (hSi : ∀ L w, S (L.setIfInBounds i true) w ↔ S L w) :
    ∀ (fuel : Nat) (listed : Array Bool) (a : Act) (w : World), Rch listed →
      (∀ j oj, ops[j]? = some oj → j ≠ i → listed.getD j true = false → (∀ e ∈ oj.after, Region.binds .any e = true → e.on ≠ i) → oi.apart ops oj = true) →
      i ∈ Region.ready .any ops listed → YieldsIf P ops (fun w => ∃ L, Rch L ∧ S L w) oi v a → S listed w →
      wpAnyG P ops Q S fuel (listed.setIfInBounds i true) (a.put oi.dst v) w → wpAnyG P ops Q S (fuel + 1) listed a w := by
  intro fuel
  induction fuel with
  | zero =>
    intro listed a w hRl _ hr hy hS H
    refine ⟨fun h => (by rw [h] at hr; cases hr), fun j hj => ?_⟩
    by_cases hji : j = i
    · subst hji; exact hy.wpOp hi ⟨listed, hRl, hS⟩ ⟨(hSi _ _).2 hS, H⟩
    · have := ready_mono hj hji
      rw [H.1] at this
      cases this
  | succ fuel ih =>
    intro listed a w hRl hfree hr hy hS H
    refine ⟨fun h => (by rw [h] at hr; cases hr), fun j hj => ?_⟩
    by_cases hji : j = i
    · subst hji; exact hy.wpOp hi ⟨listed, hRl, hS⟩ ⟨(hSi _ _).2 hS, H⟩
    · have h1 := H.2 j (ready_mono hj hji)
      obtain ⟨hjun, oj, hoj, hall⟩ := mem_ready.1 hj
      have hnot : ∀ e ∈ oj.after, Region.binds .any e = true → e.on ≠ i := fun e he hb heq => by
        have h1 := hall e he hb
        have h0 := (mem_ready.1 hr).1
        rw [heq] at h1
        rcases Nat.lt_or_ge i listed.size with h' | h'
        · simp [h'] at h0 h1; rw [h0] at h1; cases h1
        · simp [Array.getElem?_eq_none h'] at h1
      have h2 := wpOp_putIf hoj (hfree j oj hoj hji hjun hnot) (fun cs b => hsel i oi cs b hi) (fun cs b => hsel j oj cs b hoj) hQ hy h1
      have hfree' : ∀ k ok, ops[k]? = some ok → k ≠ i → (listed.setIfInBounds j true).getD k true = false →
          (∀ e ∈ ok.after, Region.binds .any e = true → e.on ≠ i) → oi.apart ops ok = true := fun k ok hk hki hun hno => by
        refine hfree k ok hk hki ?_ hno
        by_cases hjk : j = k
        · subst hjk; exact hjun
        · rw [getD_set_ne true hjk] at hun; exact hun
      refine wpOp_mono (fun a' w' h3 => ?_) h2
      have hcm : (listed.setIfInBounds i true).setIfInBounds j true = (listed.setIfInBounds j true).setIfInBounds i true := Array.setIfInBounds_comm _ _ (Ne.symm hji)
      rw [hcm] at h3
      have hS' := (hSi _ _).1 h3.2.1
      exact ⟨hS', ih (listed.setIfInBounds j true) a' w' (hR _ _ hRl hji hj) hfree' (ready_mono hr (Ne.symm hji)) h3.1 hS' h3.2.2⟩
end

/- THE TURNING POINT -/
structure Cls (L : List Oper) (l : Array Bool) : Prop where
  size : l.size = L.length
  cl : ∀ k o, l.getD k false = true → L[k]? = some o → ∀ j ∈ ons o, l.getD j false = true
theorem Cls.put {L : List Oper} {l : Array Bool} (h : Cls L l) {j : Nat} (hj : j ∈ Region.ready .any L.toArray l) : Cls L (l.setIfInBounds j true) := by
  obtain ⟨_, o, ho, he⟩ := mem_ready.1 hj
  have ho' : L[j]? = some o := by simpa using ho
  refine ⟨by simpa using h.size, fun k o' hk ho2 x hx => ?_⟩
  refine listed_set.2 (.inr ?_)
  rcases listed_set.1 hk with ⟨rfl, _⟩ | hk
  · rw [ho'] at ho2; cases ho2
    exact onsE he x hx
  · exact h.cl k o' hk ho2 x hx
/-- c: the turning point; e: the operation that comes last of all (or none, where e is out of range), behind which nothing is asked -/
def SG (c e : Nat) (Sw Ss : World → Prop) : Array Bool → World → Prop := fun l w => l.getD e false = false → Sw w ∧ (l.getD c false = false → Ss w)
theorem getD_setne {l : Array Bool} {i c : Nat} (hne : i ≠ c) : (l.setIfInBounds i true).getD c false = l.getD c false := by
  simp only [Array.getD_eq_getD_getElem?]
  rw [Array.getElem?_setIfInBounds_ne hne]
theorem SG_set {c e i : Nat} (hne : i ≠ c) (hne2 : i ≠ e) {Sw Ss : World → Prop} (l : Array Bool) (w : World) : SG c e Sw Ss (l.setIfInBounds i true) w ↔ SG c e Sw Ss l w := by
  unfold SG
  rw [getD_setne hne, getD_setne hne2]
def behind (L : List Oper) (c i : Nat) : Bool := (mark L (c + 1) ((List.replicate (c + 1) false).set c true)).getD i false
theorem behind_sound {L : List Oper} {l : Array Bool} {c i : Nat} (h : behind L c i = true) (hC : Cls L l) (hi : l.getD i false = false) : l.getD c false = false := by
  cases hcx : l.getD c false with
  | false => rfl
  | true =>
    have := mark_sound (L := L) (S := fun x => l.getD x false = true) (fun x o hx ho j hj => hC.cl x o hx ho j hj) (c + 1) ((List.replicate (c + 1) false).set c true) (fun x hx => by
      by_cases e : c = x
      · subst e; exact hcx
      · exfalso
        simp [List.getD_eq_getElem?_getD, List.getElem?_set, e, List.getElem?_replicate] at hx
        split at hx <;> simp at hx) i h
    rw [hi] at this; cases this
/-- 0: taken alone; 1: free, whatever holds throughout; 2: free, ahead of c; 3: the last -/
def ordP (L : List Oper) (c e : Nat) : List (Nat × Nat) → Array Bool → Bool
  | [], listed => (Region.ready .any L.toArray listed).isEmpty
  | (i, k) :: r, listed => match k with
    | 0 => decide (Region.ready .any L.toArray listed = [i]) && decide (i ≠ e) && ordP L c e r (listed.setIfInBounds i true)
    | 1 => (Region.ready .any L.toArray listed).contains i && Region.free .any L.toArray listed i && decide (i ≠ c) && decide (i ≠ e) && (decide (L.length ≤ e) || behind L e i) && ordP L c e r (listed.setIfInBounds i true)
    | 2 => (Region.ready .any L.toArray listed).contains i && Region.free .any L.toArray listed i && decide (i ≠ c) && decide (i ≠ e) && (decide (L.length ≤ e) || behind L e i) && behind L c i && ordP L c e r (listed.setIfInBounds i true)
    | _ => decide (Region.ready .any L.toArray listed = [i]) && decide (i = e) && ordP L c e r (listed.setIfInBounds i true)
def wpHP (P : Program) (ops : List Oper) (c e : Nat) (Sw Ss : World → Prop) (Q : Act → World → Prop) : Bool → List (Nat × Nat) → Act → World → Prop
  | _, [], a, w => Q a w
  | ph, (i, k) :: r, a, w => match k with
    | 0 => ∃ o, ops[i]? = some o ∧ (if Region.wanted o (yielded ops.toArray a.tmps) = true then o.wp P a w (fun a' w' => Sw w' ∧ ((ph || Nat.beq i c) = false → Ss w') ∧ wpHP P ops c e Sw Ss Q (ph || Nat.beq i c) r a' w') (fun e a w => e = .normal ∧ Q a w) else Sw w ∧ ((ph || Nat.beq i c) = false → Ss w) ∧ wpHP P ops c e Sw Ss Q (ph || Nat.beq i c) r (a.put o.dst undef) w)
    | 1 => ∃ o v, ops[i]? = some o ∧ YieldsIf P ops.toArray Sw o v a ∧ wpHP P ops c e Sw Ss Q ph r (a.put o.dst v) w
    | 2 => ∃ o v, ops[i]? = some o ∧ YieldsIf P ops.toArray Ss o v a ∧ wpHP P ops c e Sw Ss Q ph r (a.put o.dst v) w
    | _ => r = [] ∧ ∃ o, ops[i]? = some o ∧ (if Region.wanted o (yielded ops.toArray a.tmps) = true then o.wp P a w Q (fun e a w => e = .normal ∧ Q a w) else Q (a.put o.dst undef) w)
theorem yif_wk {P : Program} {ops : Array Oper} {S S' : World → Prop} {o : Oper} {v : Value} {a : Act} (h : YieldsIf P ops S o v a) (hS : ∀ w, S' w → S w) : YieldsIf P ops S' o v a :=
  h.imp (fun ⟨h1, h2⟩ => ⟨h1, fun w hw => h2 w (hS w hw)⟩) id
theorem wpHP_sound {P : Program} {L : List Oper} {c e : Nat} {Sw Ss : World → Prop} {Q : Act → World → Prop} (hs : Region.noSelect L.toArray = true) :
    ∀ (ord : List (Nat × Nat)) (ph : Bool) (listed : Array Bool) (a : Act) (w : World), ordP L c e ord listed = true → Cls L listed → (listed.getD c false = ph) → SG c e Sw Ss listed w → wpHP P L c e Sw Ss Q ph ord a w →
      wpAnyG P L.toArray (fun e a w => e = .normal ∧ Q a w) (SG c e Sw Ss) ord.length listed a w
  | [], ph, listed, a, w, hB, _, _, _, h => by
    simp only [ordP, List.isEmpty_iff] at hB
    exact ⟨hB, rfl, h⟩
  | (i, 0) :: r, ph, listed, a, w, hB, hC, hph, hS, ⟨o, ho, h⟩ => by
    simp only [ordP, Bool.and_eq_true, decide_eq_true_eq] at hB
    obtain ⟨⟨hB1, _⟩, hB2⟩ := hB
    have hin : i ∈ Region.ready .any L.toArray listed := by rw [hB1]; simp
    have hC' := hC.put hin
    have hil : i < L.length := (List.getElem?_eq_some_iff.1 ho).1
    have hph' : (listed.setIfInBounds i true).getD c false = (ph || Nat.beq i c) := by
      cases e : Nat.beq i c with
      | true =>
        obtain rfl := Nat.eq_of_beq_eq_true e
        have := hC.size
        simp [Array.getD_eq_getD_getElem?, show i < listed.size by omega]
      | false =>
        have hne : i ≠ c := fun h => by subst h; rw [Nat.beq_refl] at e; cases e
        rw [getD_setne hne, hph, Bool.or_false]
    refine ⟨fun h0 => (by rw [h0] at hin; cases hin), fun j hj => ?_⟩
    rw [hB1, List.mem_singleton] at hj
    subst hj
    have ho' : L.toArray[j]? = some o := by simpa using ho
    unfold wpOp
    simp only [ho']
    split
    · rename_i hw
      rw [if_pos hw] at h
      exact .inl (Oper.wp_mono (fun a' w' h' => ⟨fun _ => ⟨h'.1, fun hx => h'.2.1 (hph' ▸ hx)⟩, wpHP_sound hs r _ _ _ _ hB2 hC' hph' (fun _ => ⟨h'.1, fun hx => h'.2.1 (hph' ▸ hx)⟩) h'.2.2⟩) h)
    · rename_i hw
      rw [if_neg hw] at h
      exact ⟨fun _ => ⟨h.1, fun hx => h.2.1 (hph' ▸ hx)⟩, wpHP_sound hs r _ _ _ _ hB2 hC' hph' (fun _ => ⟨h.1, fun hx => h.2.1 (hph' ▸ hx)⟩) h.2.2⟩
  | (i, 1) :: r, ph, listed, a, w, hB, hC, hph, hS, ⟨o, v, ho, hy, h⟩ => by
    simp only [ordP, Bool.and_eq_true, decide_eq_true_eq, Bool.or_eq_true] at hB
    obtain ⟨⟨⟨⟨⟨h1, h2⟩, hne⟩, hne2⟩, hbe⟩, h3⟩ := hB
    have hin : i ∈ Region.ready .any L.toArray listed := by simpa using h1
    have ho' : L.toArray[i]? = some o := by simpa using ho
    have hph' : (listed.setIfInBounds i true).getD c false = ph := by rw [getD_setne hne]; exact hph
    have hil : i < L.length := (List.getElem?_eq_some_iff.1 ho).1
    have hun : listed.getD i false = false := by
      have := (mem_ready.1 hin).1
      have hsz := hC.size
      rw [getD_tf (by omega)] at this
      simpa using this
    have hend : ∀ l : Array Bool, Cls L l → l.getD i false = false → l.getD e false = false := fun l hl hi => hbe.elim (fun h => by
      have := hl.size
      simp [Array.getD_eq_getD_getElem?, Array.getElem?_eq_none (show l.size ≤ e by omega)]) (fun h => behind_sound h hl hi)
    exact wpAnyG_first ho' (Region.noSelect_spec hs) (fun _ _ _ h => by cases h.1) (fun l => Cls L l ∧ l.getD i false = false) (fun l j hl hne3 hj => ⟨hl.1.put hj, by rw [getD_setne hne3]; exact hl.2⟩) (fun l w => SG_set hne hne2 l w) r.length listed a w ⟨hC, hun⟩ (Region.free_spec ho' h2) hin
      (yif_wk hy fun w ⟨l, hl, hw⟩ => (hw (hend l hl.1 hl.2)).1) hS (wpHP_sound hs r ph _ _ _ h3 (hC.put hin) hph' ((SG_set hne hne2 _ _).2 hS) h)
  | (i, 2) :: r, ph, listed, a, w, hB, hC, hph, hS, ⟨o, v, ho, hy, h⟩ => by
    simp only [ordP, Bool.and_eq_true, decide_eq_true_eq, Bool.or_eq_true] at hB
    obtain ⟨⟨⟨⟨⟨⟨h1, h2⟩, hne⟩, hne2⟩, hbe⟩, hmk⟩, h3⟩ := hB
    have hin : i ∈ Region.ready .any L.toArray listed := by simpa using h1
    have ho' : L.toArray[i]? = some o := by simpa using ho
    have hph' : (listed.setIfInBounds i true).getD c false = ph := by rw [getD_setne hne]; exact hph
    have hil : i < L.length := (List.getElem?_eq_some_iff.1 ho).1
    have hun : listed.getD i false = false := by
      have := (mem_ready.1 hin).1
      have hsz := hC.size
      rw [getD_tf (by omega)] at this
      simpa using this
    have hend : ∀ l : Array Bool, Cls L l → l.getD i false = false → l.getD e false = false := fun l hl hi => hbe.elim (fun h => by
      have := hl.size
      simp [Array.getD_eq_getD_getElem?, Array.getElem?_eq_none (show l.size ≤ e by omega)]) (fun h => behind_sound h hl hi)
    exact wpAnyG_first ho' (Region.noSelect_spec hs) (fun _ _ _ h => by cases h.1) (fun l => Cls L l ∧ l.getD i false = false) (fun l j hl hne3 hj => ⟨hl.1.put hj, by rw [getD_setne hne3]; exact hl.2⟩) (fun l w => SG_set hne hne2 l w) r.length listed a w ⟨hC, hun⟩ (Region.free_spec ho' h2) hin
      (yif_wk hy fun w ⟨l, hl, hw⟩ => (hw (hend l hl.1 hl.2)).2 (behind_sound hmk hl.1 hl.2)) hS (wpHP_sound hs r ph _ _ _ h3 (hC.put hin) hph' ((SG_set hne hne2 _ _).2 hS) h)
  | (i, k + 3) :: r, ph, listed, a, w, hB, hC, hph, hS, ⟨hr, o, ho, h⟩ => by
    subst hr
    simp only [ordP, Bool.and_eq_true, decide_eq_true_eq] at hB
    obtain ⟨⟨hB1, rfl⟩, hB2⟩ := hB
    have hin : i ∈ Region.ready .any L.toArray listed := by rw [hB1]; simp
    have hil : i < L.length := (List.getElem?_eq_some_iff.1 ho).1
    have hie : (listed.setIfInBounds i true).getD i false = true := by
      have := hC.size
      simp [Array.getD_eq_getD_getElem?, show i < listed.size by omega]
    refine ⟨fun h0 => (by rw [h0] at hin; cases hin), fun j hj => ?_⟩
    rw [hB1, List.mem_singleton] at hj
    subst hj
    have ho' : L.toArray[j]? = some o := by simpa using ho
    have hfin : ∀ a' w', Q a' w' → SG c j Sw Ss (listed.setIfInBounds j true) w' ∧ wpAnyG P L.toArray (fun e a w => e = .normal ∧ Q a w) (SG c j Sw Ss) ([] : List (Nat × Nat)).length (listed.setIfInBounds j true) a' w' := fun a' w' hq =>
      ⟨fun h => (by rw [hie] at h; cases h), by simpa using hB2, rfl, hq⟩
    unfold wpOp
    simp only [ho']
    split
    · rename_i hw
      rw [if_pos hw] at h
      exact .inl (Oper.wp_mono (fun a' w' h' => hfin a' w' h') h)
    · rename_i hw
      rw [if_neg hw] at h
      exact hfin _ _ h

/- THE WALK -/
@[irreducible] def HP (P : Program) (ops : List Oper) (c e : Nat) (Sw Ss : World → Prop) (Q : Exit → Act → World → Prop) (ph : Bool) (ord : List (Nat × Nat)) (n : Nat) (σ : Sg) (w : World) : Prop :=
  ∀ a, Fr n σ a → wpHP P ops c e Sw Ss (fun a w => Q .normal a w) ph ord a w
section
variable {P : Program} {Q : Exit → Act → World → Prop} {n : Nat} {σ : Sg} {w : World} {L : List Oper} {c e : Nat} {Sw Ss : World → Prop}
theorem CW.drawP {id : Nat} (c e : Nat) (Sw Ss : World → Prop) (ord : List (Nat × Nat)) (hm : P.follows .mixedOrders = true) (hB : (Region.noSelect L.toArray && decide (ord.length = L.length) && ordP L c e ord (Array.replicate L.length false)) = true) (hw : Sw (drew w)) (hS : Ss (drew w)) (h : HP P L c e Sw Ss Q false ord n σ (drew w)) : CW P (.region id L.toArray true) Q n σ w := by
  unfold CW; unfold HP at h; intro a ha
  simp only [Bool.and_eq_true, decide_eq_true_eq] at hB
  obtain ⟨⟨hs, hl⟩, hB⟩ := hB
  have h0 : ∀ k, (Array.replicate L.length false).getD k false = false := fun k => by
    simp [Array.getD_eq_getD_getElem?, Array.getElem?_replicate]; split <;> rfl
  have h1 := wpHP_sound (Q := fun a w => Q .normal a w) hs ord false (Array.replicate L.length false) a (Go.Proofs.YtllpfgcngokhnaaGreat.drew w) hB ⟨by simp, fun k o hk => by rw [h0 k] at hk; cases hk⟩ (h0 c) (fun _ => ⟨hw, fun _ => hS⟩) (h a ha)
  rw [hl] at h1
  have h2 : (Code.region id L.toArray true).wp P (fun x a w => x = .normal ∧ Q .normal a w) a w := wp_region_any hm (by simpa using wpAny_of_G _ _ _ _ h1)
  exact wp_mono h2 (fun x a' w' ⟨he, hq⟩ => by subst he; exact hq)
theorem HP.nil {ph : Bool} (h : EX Q .normal n σ w) : HP P L c e Sw Ss Q ph [] n σ w := by
  unfold HP; unfold EX at h; exact fun a ha => h a ha
/-- behind one operation -/
def AfterP (P : Program) (ops : List Oper) (c e : Nat) (Sw Ss : World → Prop) (Q : Exit → Act → World → Prop) (ph : Bool) (ord : List (Nat × Nat)) : Exit → Act → World → Prop :=
  fun x a w => x = .normal ∧ Sw w ∧ (ph = false → Ss w) ∧ wpHP P ops c e Sw Ss (fun a w => Q .normal a w) ph ord a w
/-- stretches of reads that may come anywhere: by the rules for held regions -/
def toP (k : Nat) : List (Nat × Bool) → List (Nat × Nat)
  | [] => []
  | (i, _) :: r => (i, k) :: toP k r
def allT : List (Nat × Bool) → Bool
  | [] => true
  | (_, b) :: r => b && allT r
theorem wpHP_reads {Q : Act → World → Prop} {ph : Bool} {r : List (Nat × Nat)} {S : World → Prop} {k : Nat} (hk : ∀ i r a w, wpHP P L c e Sw Ss Q ph ((i, k) :: r) a w ↔ ∃ o v, L[i]? = some o ∧ YieldsIf P L.toArray S o v a ∧ wpHP P L c e Sw Ss Q ph r (a.put o.dst v) w) : ∀ (s : List (Nat × Bool)) (a : Act) (w : World), allT s = true → wpHL P L S (fun a w => wpHP P L c e Sw Ss Q ph r a w) s a w → wpHP P L c e Sw Ss Q ph (toP k s ++ r) a w
  | [], a, w, _, h => h
  | (i, true) :: s, a, w, hT, ⟨o, v, ho, hy, h⟩ => (hk i _ a w).2 ⟨o, v, ho, hy, wpHP_reads hk s _ _ (by simpa [allT] using hT) h⟩
  | (i, false) :: s, a, w, hT, _ => by simp [allT] at hT
/-- what follows a stretch -/
def RestP (P : Program) (ops : List Oper) (c e : Nat) (Sw Ss : World → Prop) (Q : Exit → Act → World → Prop) (ph : Bool) (ord : List (Nat × Nat)) : Exit → Act → World → Prop :=
  fun x a w => x = .normal ∧ wpHP P ops c e Sw Ss (fun a w => Q .normal a w) ph ord a w
theorem HP.weak {ph : Bool} {r : List (Nat × Nat)} (s : List (Nat × Bool)) (hT : allT s = true) (h : HL P L Sw (RestP P L c e Sw Ss Q ph r) s n σ w) : HP P L c e Sw Ss Q ph (toP 1 s ++ r) n σ w := by
  unfold HP; unfold HL at h
  intro a ha
  have h2 : wpHL P L Sw (fun a w => wpHP P L c e Sw Ss (fun a w => Q .normal a w) ph r a w) s a w := by
    have hmono : ∀ (s : List (Nat × Bool)) (a : Act) (w : World), allT s = true → wpHL P L Sw (fun a w => RestP P L c e Sw Ss Q ph r .normal a w) s a w → wpHL P L Sw (fun a w => wpHP P L c e Sw Ss (fun a w => Q .normal a w) ph r a w) s a w := by
      intro s
      induction s with
      | nil => intro a w _ h; exact h.2
      | cons x s ih =>
        obtain ⟨i, b⟩ := x
        intro a w hT h
        cases b with
        | false => simp [allT] at hT
        | true =>
          obtain ⟨o, v, ho, hy, h⟩ := h
          exact ⟨o, v, ho, hy, ih _ _ (by simpa [allT] using hT) h⟩
    exact hmono s a w hT (h a ha)
  exact wpHP_reads (S := Sw) (k := 1) (fun i r a w => Iff.rfl) s a w hT h2
theorem HP.early {ph : Bool} {r : List (Nat × Nat)} (s : List (Nat × Bool)) (hT : allT s = true) (h : HL P L Ss (RestP P L c e Sw Ss Q ph r) s n σ w) : HP P L c e Sw Ss Q ph (toP 2 s ++ r) n σ w := by
  unfold HP; unfold HL at h
  intro a ha
  have h2 : wpHL P L Ss (fun a w => wpHP P L c e Sw Ss (fun a w => Q .normal a w) ph r a w) s a w := by
    have hmono : ∀ (s : List (Nat × Bool)) (a : Act) (w : World), allT s = true → wpHL P L Ss (fun a w => RestP P L c e Sw Ss Q ph r .normal a w) s a w → wpHL P L Ss (fun a w => wpHP P L c e Sw Ss (fun a w => Q .normal a w) ph r a w) s a w := by
      intro s
      induction s with
      | nil => intro a w _ h; exact h.2
      | cons x s ih =>
        obtain ⟨i, b⟩ := x
        intro a w hT h
        cases b with
        | false => simp [allT] at hT
        | true =>
          obtain ⟨o, v, ho, hy, h⟩ := h
          exact ⟨o, v, ho, hy, ih _ _ (by simpa [allT] using hT) h⟩
    exact hmono s a w hT (h a ha)
  exact wpHP_reads (S := Ss) (k := 2) (fun i r a w => Iff.rfl) s a w hT h2
theorem EX.rest {ph : Bool} {r : List (Nat × Nat)} (h : HP P L c e Sw Ss Q ph r n σ w) : EX (RestP P L c e Sw Ss Q ph r) .normal n σ w := by
  unfold EX; unfold HP at h
  exact fun a ha => ⟨rfl, h a ha⟩
theorem HP.mut {ph : Bool} {i : Nat} {r : List (Nat × Nat)} {o : Oper} (ho : nthO L i = some o) (h : WL P L (AfterP P L c e Sw Ss Q (ph || Nat.beq i c) r) [o] n σ w) : HP P L c e Sw Ss Q ph ((i, 0) :: r) n σ w := by
  unfold HP; unfold WL at h
  intro a ha
  rw [nthO_eq] at ho
  have h2 := h a ha
  simp only [wpList] at h2
  refine ⟨o, ho, ?_⟩
  split
  · rename_i hw
    rw [if_pos hw] at h2
    rcases h2 with h2 | ⟨_, hl⟩
    · refine Oper.wp_mono (fun a' w' h' => h'.2) (wp_exits (fun x a w hne hf => absurd hf.1 hne) h2)
    · obtain ⟨_, _, hx⟩ := hl
      exact absurd hx.1 (by simp)
  · rename_i hw
    rw [if_neg hw] at h2
    exact h2.2
theorem EX.mutP {ph : Bool} {r : List (Nat × Nat)} (hw : Sw w) (hs : ph = false → Ss w) (h : HP P L c e Sw Ss Q ph r n σ w) : EX (AfterP P L c e Sw Ss Q ph r) .normal n σ w := by
  unfold EX; unfold HP at h
  exact fun a ha => ⟨rfl, hw, hs, h a ha⟩
/-- the last operation: nothing is asked behind it -/
theorem HP.last {ph : Bool} {i : Nat} {o : Oper} (ho : nthO L i = some o) (h : WL P L (fun x a w => x = .normal ∧ Q .normal a w) [o] n σ w) : HP P L c e Sw Ss Q ph [(i, 3)] n σ w := by
  unfold HP; unfold WL at h
  intro a ha
  rw [nthO_eq] at ho
  have h2 := h a ha
  simp only [wpList] at h2
  refine ⟨rfl, o, ho, ?_⟩
  split
  · rename_i hw
    rw [if_pos hw] at h2
    rcases h2 with h2 | ⟨_, hl⟩
    · refine Oper.wp_mono (fun a' w' h' => h'.2) (wp_exits (fun x a w hne hf => absurd hf.1 hne) h2)
    · obtain ⟨_, _, hx⟩ := hl
      exact absurd hx.1 (by simp)
  · rename_i hw
    rw [if_neg hw] at h2
    exact h2.2
/-- append(x, y), behind the turning point -/
theorem HP.app1 {α : Type} [Rep α] {x0 : α} {bytes : Nat} {F : Nat → Prop} {i i1 d d1 : Nat} {ty ty1 : TypeId} {pos pos1 : String} {af af1 : Array Edge} {g g1 : Option (Nat × Bool)} {t et : TypeId} {x y : Operand} {rest : List (Nat × Nat)} {v u : Value} {xs : List α} {yv : α} {B : Nat} {wc : World}
    (ho1 : nthO L i1 = some ⟨some d1, .buildSlice t 1 [(0, y)].toArray, ty1, pos1, af1, g1⟩) (ho : nthO L i = some ⟨some d, .call ⟨.builtin .append, #[x, .tmp d1], #[t, t]⟩, ty, pos, af, g⟩)
    (hg1 : gd L σ ⟨some d1, .buildSlice t 1 [(0, y)].toArray, ty1, pos1, af1, g1⟩ = some true) (hd1 : Nat.ble (d1 + 1) n = true)
    (hg : ∀ u, gd L ((d1, .slice u 1 1) :: σ) ⟨some d, .call ⟨.builtin .append, #[x, .tmp d1], #[t, t]⟩, ty, pos, af, g⟩ = some true) (hd : Nat.ble (d + 1) n = true)
    (hy : ev σ y = some u) (hx : ∀ u, ev ((d1, .slice u 1 1) :: σ) x = some v) [hs : IsS P t et] [ht : IsT P et α] [hz : IsZ P et x0 bytes] (hown : Own wc B et F v xs) (hu : Rd wc F u yv) (hB : B ≤ wc.heap.size) (hF : ∀ b, F b → b < wc.heap.size)
    (hsz : sz α ≤ 16777216) (hm : xs.length + 1 ≤ maxLen) (hb : (xs.length + 1) * bytes ≤ 140737488355328) (hS : ∀ w', wc.grownBy w' v.ownBlock → Sw w')
    (h : ∀ v' w' p, Own w' B et F v' (xs ++ [yv]) → wc.grownBy w' v.ownBlock → (∀ g, v'.ownBlock = some g → v.ownBlock = some g ∨ wc.heap.size ≤ g) → HP P L c e Sw Ss Q true rest n ((d, v') :: (d1, .slice p 1 1) :: σ) w') :
    HP P L c e Sw Ss Q true ((i1, 0) :: (i, 0) :: rest) n σ wc := by
  refine HP.mut ho1 ?_
  refine WL.lit (vs := [u]) (ys := [yv]) hg1 hd1 rfl (by simp [sndL, evs, hy]) rfl ⟨hu, trivial⟩ (by simpa using hsz) hF (fun w1 ho1 hgr1 => ?_)
  have hsize : wc.heap.size ≤ w1.heap.size := hgr1.size
  have hkeep : Own w1 B et F v xs := hown.kept hgr1 (fun _ _ h => by cases h) fun b hb => ⟨hF b hb, fun h => by cases h⟩
  have g2 : wc.grownBy w1 v.ownBlock := ⟨hgr1.os, hgr1.tape, hgr1.output, hgr1.size, fun k hk _ => hgr1.block k hk (fun h => by cases h)⟩
  refine WL.nil (EX.mutP (ph := true) (hS _ g2) (fun h => by cases h) ?_)
  refine HP.mut ho ?_
  refine WL.app (ys := [yv]) (hg _) hd (hx _) fnd_cons_eq hkeep ho1.src (Nat.le_trans hB hsize) (fun b hb => Nat.lt_of_lt_of_le (hF b hb) hsize) (by simpa using hm) (by simpa using hb) (fun v' w' ho' hgr hnb => ?_)
  have g3 : wc.grownBy w' v.ownBlock := ⟨hgr.os.trans hgr1.os, hgr.tape.trans hgr1.tape, hgr.output.trans hgr1.output, Nat.le_trans hsize hgr.size, fun k hk hne => (hgr.block k (Nat.lt_of_lt_of_le hk hsize) hne).trans (hgr1.block k hk (fun h => by cases h))⟩
  exact WL.nil (EX.mutP (ph := true) (hS _ g3) (fun h => by cases h) (h v' w' _ ho' g3 (fun g hg => (hnb g hg).imp id (fun h => Nat.le_trans hsize h))))
end
section
variable {P : Program} {Q : Exit → Act → World → Prop} {n : Nat} {σ : Sg} {wc : World} {L : List Oper} {S : World → Prop} {ord : List (Nat × Bool)} {i d : Nat} {ty : TypeId} {pos : String} {af : Array Edge} {g : Option (Nat × Bool)} {t : TypeId} {x : Operand} {b o : Nat}
/-- a field of a struct of which only other fields change meanwhile -/
theorem HL.ldC {v : Value} (hK : ∀ w1, S w1 → ∃ e cells, Blk w1 b e cells ∧ nthV cells o = some v) (ho : nthO L i = some ⟨some d, .load t x, ty, pos, af, g⟩) (hg : gd L σ ⟨some d, .load t x, ty, pos, af, g⟩ = some true) (hd : Nat.ble (d + 1) n = true) (hx : ev σ x = some (.pointer (some ⟨b, o, none⟩))) [hc : IsC P t 1 false]
    (h : HL P L S Q ord n ((d, v) :: σ) wc) : HL P L S Q ((i, true) :: ord) n σ wc := by
  refine HL.run ho hg hd (fun a ha w' hsw => ?_) h
  obtain ⟨e, cells, hb', hv⟩ := hK w' hsw
  simp [execOp, ha.ev hx, run_ld (P := P) (t := t) w' hb' hv]
end
end Go.Proofs.YtllpfgcngokhnaaGreat

/-
  Package empty: Find: walked.
-/
set_option linter.unusedVariables false
set_option linter.unusedSimpArgs false
namespace Go.Proofs.YtllpfgcngokhnaaGreat
open Go.RowKit

theorem results_cellE {fn : Func} {a u s : Nat} {t : TypeId} (h : fn.results = #[.cell a t, .tmp u, .tmp s]) (tmps : Array Value) (P : Program) (w : World) {p : Addr} {v : Value} (ha : tmps.getD a undef = .pointer (some p)) (hl : (loadVar t p).run P w = .ok v w) :
    (results fn tmps).run P w = .ok (.tuple ⟨[v, tmps.getD u undef, tmps.getD s undef]⟩) w := by
  simp only [Array.getD_eq_getD_getElem?] at ha ⊢
  simp [results, h, ha, asAddr, hl]
theorem EX.retCE {P : Program} {n : Nat} {σ : Sg} {w : World} {fn : Func} {a b u s : Nat} {t e : TypeId} {cells : List Value} {k : Nat} {x y : Value} {R : Value → World → Prop} (hr : fn.results = #[.cell a t, .tmp u, .tmp s]) (ha : fnd σ a = some (.pointer (some ⟨b, 0, none⟩))) (hu : fnd σ u = some x) (hs : fnd σ s = some y) [hc : IsC P t k true] (hb : Blk w b e cells) (hk : lenL cells = k) (h : R (.tuple ⟨[.agg cells.toArray, x, y]⟩) w) :
    EX (bodyPost P fn fun e w' => ∃ v, e = .returned v ∧ R v w') .ret n σ w := by
  unfold EX; intro ac hac
  refine bodyPost_ret (results_cellE hr _ _ _ (hac.slot a _ ha) (v := .agg cells.toArray) ?_) hac.defers ⟨_, by rw [hac.slot u x hu, hac.slot s y hs], h⟩
  rw [lenL_eq] at hk
  have hld := run_loadCells_list (P := P) w ⟨b, 0, none⟩ cells (fun j u hu => by rw [WideShapes.add_plain, Nat.zero_add]; exact hb.cell hu)
  obtain ⟨i, dd, h1, h2, h3, h4⟩ := hc.ok
  have hagg : (isAgg t).run P w = .ok true w := by
    unfold isAgg
    rw [Sem.run_bind, run_underlying h3 w, ← h4]
    cases dd <;> rfl
  rw [hk] at hld
  simp [loadVar, hagg, sizeOf, typeInfo, h1, h2, hld]
/-- what Find tells -/
def FoundE (W : LWorld) (A : LAuto2) (s l : List Int) (is : Bool) (err : Int) : Prop :=
  (err ≠ 0 ∧ is = false ∧ s = [] ∧ l = [] ∧ (chkE W = 0 → chkA A = 0 → False)) ∨ (err = 0 ∧ chkE W = 0 ∧ chkA A = 0 ∧ ((is = false ∧ s = [] ∧ l = [] ∧ ¬ EWay W A) ∨ (is = true ∧ EWay W A ∧ PathE W A s l)))
def fMx (sb mb : Nat) (lv nv : Value) : Nat → Prop := fun b => b = sb ∨ b = mb ∨ lv.ownBlock = some b ∨ nv.ownBlock = some b
structure FndI (w8 w : World) (B : Nat) (e : EA) (sb mb : Nat) (lv nv fv : Value) (fr : List Int) (vs : List Raw) (ps : List Pr2) (nx : List (List Int)) : Prop where
  em : Em w B e sb mb lv nv fv ps
  run : RunE (fitW e.W e.A) (nextE e.W e.A) (startE e.W e.A) ps fr nx
  hn : Own w w8.heap.size 22 Non nv vs
  inn : InnR w (fMx sb mb lv nv) vs nx
  hf : ∃ fo fc, fv = .slice fo fr.length fc ∧ Sl w (Fz w (fMx sb mb lv nv)) fo fc fr
  chg : Chg (fun b => b = sb ∨ b = mb) w8 w
  lvn : ∀ g, lv.ownBlock = some g → w8.heap.size ≤ g
  dis : ∀ g, nv.ownBlock = some g → lv.ownBlock ≠ some g
  rows : ∀ r ∈ nx, r.length ≤ 1099511627776
theorem find1_ok (w : World) (b b' : Nat) {po : Option Addr} {pc : Nat} {part : List Int} {p : Int} {k : Nat} (hb : Blk w b 22 [.slice po part.length pc]) (hb' : Blk w b' 3 [.int .i64 p]) (hp : Sl w (Old w) po pc part) (hk : k < part.length) :
    Rt Tryz.prog 45 [.int .i64 (k : Int), .pointer (some ⟨b, 0, none⟩), .pointer (some ⟨b', 0, none⟩)].toArray w fun v w' => v = .bool (decide (part.getD k 0 = p)) ∧ Ext w w' := by
  refine Rt.enter3 Tryz.func45 Tryz.ntmps45 rfl rfl ?_
  (repeat (first | (apply WL.pure; rfl; rfl; rfl) | (apply QL.pure; rfl; rfl; rfl) | (apply WL.nil) | (apply EX.thenN) | (apply CW.seq) | (apply CW.region) | (apply QL.ld; rfl; rfl; rfl; assumption; rfl) | (apply CW.draw; exact mixed; kernel_rfl)))
  refine QL.elemI rfl rfl rfl rfl rfl (fun _ h => h) hp hk rfl (fun _ => rfl) (fun q => ?_)
  (repeat (first | (apply QL.pure; rfl; rfl; rfl) | (apply QL.ld; rfl; rfl; rfl; assumption; rfl)))
  refine QL.nil (fun w2 e2 => ?_)
  (repeat (first | (apply EX.thenN) | (apply CW.ret)))
  refine EX.ret1 rfl rfl ⟨?_, e2⟩
  rw [wgetDI hk]
  rfl
set_option maxHeartbeats 4000000 in
theorem find_ok (w0 : World) {va : Value} {W : LWorld} {A : LAuto2} {o1 o2 o3 o4 : Option Addr} {c1 c2 c3 c4 : Nat} (h1 : Sl w0 (Old w0) o1 c1 W.1) (h2 : Sl w0 (Old w0) o2 c2 W.2.1) (h3 : Sl w0 (Old w0) o3 c3 W.2.2.1) (h4 : Sl w0 (Old w0) o4 c4 W.2.2.2) (ha : AutoAt w0 (Old w0) va A)
    (sW : ∀ j, (W.2.1.getD j []).length ≤ 1048576) (sA : ∀ j, (A.2.1.getD j []).length ≤ 1048576) (tW : W.1.length ≤ 1048576) (tA : A.1.length ≤ 1048576) :
    Rt Tryz.prog 21 [worldV o1 c1 o2 c2 o3 c3 o4 c4 W.1.length W.2.1.length W.2.2.1.length W.2.2.2.length, va].toArray w0 fun v w' => (∃ s l is err so sc lo lc, v = .tuple ⟨[pathV so sc lo lc s l, .bool is, .int .i64 err]⟩ ∧ Sl w' (Old w') so sc s ∧ Sl w' (Old w') lo lc l ∧ FoundE W A s l is err) ∧ Ext w0 w' := by
  obtain ⟨k1, d1, k2, d2, k3, d3, k4, d4, k5, d5, rfl, g1, g2, g3, g4, g5⟩ := ha.ok
  refine Rt.enter2 Tryz.func21 Tryz.ntmps21 rfl rfl ?_
  have hE := Ext.refl w0
  (repeat (first | (apply CW.seq) | (apply CW.region)))
  refine WL.boxB rfl rfl rfl fun w1 hb2 e1 => ?_
  have hE := hE.trans e1
  skip
  refine WL.boxB rfl rfl rfl fun w2 hb3 e2 => ?_
  have hb2 := hb2.ext e2
  have hE := hE.trans e2
  skip
  refine WL.alloc rfl rfl (fun w3 hb4 e3 => ?_)
  have hb2 := hb2.ext e3
  have hb3 := hb3.ext e3
  have hE := hE.trans e3
  have y1 := e1.size
  have y2 := e2.size
  have y3 := hb4.lt
  have l2 := hb2.lt
  have l3 := hb3.lt
  (repeat (first | (apply WL.pure; rfl; rfl; rfl) | (apply WL.nil) | (apply EX.thenN) | (apply CW.seq) | (apply CW.region) | (apply WL.ldA; rfl; rfl; rfl; assumption; rfl)))
  refine WL.call rfl rfl rfl (wCheck_ok w3 (h1.up hE) (h2.up hE) h3.len63 (h4.up hE)) ?_
  rintro _ w4 ⟨rfl, e4⟩
  have hb2 := hb2.ext e4
  have hb3 := hb3.ext e4
  have hb4 := hb4.ext e4
  have hE := hE.trans e4
  have y4 := e4.size
  have nilS := fun (w : World) => Sl.zero (α := Int) w (Old w)
  (repeat (first | (apply WL.pure; rfl; rfl; rfl) | (apply WL.nil) | (apply EX.thenN) | (apply CW.seq) | (apply CW.region)))
  refine CW.cond rfl (fun h => ?_) (fun h => ?_)
  · have h : chkE W ≠ 0 := by simpa using h
    (repeat (first | (apply CW.seq) | (apply CW.region)))
    refine WL.build (parts := []) rfl rfl rfl rfl ?_
    (repeat (apply WL.pure; rfl; rfl; rfl))
    refine WL.st rfl rfl rfl hb4 rfl rfl (ones_of rfl) (fun w5 hb5 hg5 => ?_)
    have hE5 : Ext w0 w5 := hE.grown hg5 hE.size (fun g hg => by cases hg; omega)
    (repeat (first | (apply WL.pure; rfl; rfl; rfl) | (apply WL.nil) | (apply EX.thenN) | (apply CW.ret) | (apply EX.thenR)))
    exact EX.retCE rfl rfl rfl rfl hb5 rfl ⟨⟨[], [], false, _, _, _, _, _, rfl, nilS _, nilS _, .inl ⟨h, rfl, rfl, rfl, fun h' => absurd h' h⟩⟩, hE5⟩
  have hW : chkE W = 0 := by simpa using h
  clear h
  (repeat (first | (apply EX.thenN) | (apply CW.seq) | (apply CW.region) | (apply WL.ldA; rfl; rfl; rfl; assumption; rfl) | (apply CW.skip)))
  refine WL.call rfl rfl rfl (aCheck_ok w4 (A := A) ⟨k1, d1, k2, d2, k3, d3, k4, d4, k5, d5, rfl, g1.up hE, g2.up hE, g3.up hE, g4.up hE, g5.up hE⟩) ?_
  rintro _ w5 ⟨rfl, e5⟩
  have hb2 := hb2.ext e5
  have hb3 := hb3.ext e5
  have hb4 := hb4.ext e5
  have hE := hE.trans e5
  have y5 := e5.size
  (repeat (first | (apply WL.pure; rfl; rfl; rfl) | (apply WL.nil) | (apply EX.thenN) | (apply CW.seq) | (apply CW.region)))
  refine CW.cond rfl (fun h => ?_) (fun h => ?_)
  · have h : chkA A ≠ 0 := by simpa using h
    (repeat (first | (apply CW.seq) | (apply CW.region)))
    refine WL.build (parts := []) rfl rfl rfl rfl ?_
    (repeat (apply WL.pure; rfl; rfl; rfl))
    refine WL.st rfl rfl rfl hb4 rfl rfl (ones_of rfl) (fun w6 hb5 hg5 => ?_)
    have hE5 : Ext w0 w6 := hE.grown hg5 hE.size (fun g hg => by cases hg; omega)
    (repeat (first | (apply WL.pure; rfl; rfl; rfl) | (apply WL.nil) | (apply EX.thenN) | (apply CW.ret) | (apply EX.thenR)))
    exact EX.retCE rfl rfl rfl rfl hb5 rfl ⟨⟨[], [], false, _, _, _, _, _, rfl, nilS _, nilS _, .inl ⟨h, rfl, rfl, rfl, fun _ h' => absurd h' h⟩⟩, hE5⟩
  have hA : chkA A = 0 := by simpa using h
  clear h
  have okA := chkA_ok hA
  obtain ⟨w600, w80, wlb, wst, wnx, wfr⟩ := chkWd_ok hW
  (repeat (first | (apply EX.thenN) | (apply CW.seq) | (apply CW.region) | (apply WL.ldA; rfl; rfl; rfl; assumption; rfl) | (apply CW.skip)))
  refine WL.mkMap (k := 94) rfl rfl (fun hnum => ?_)
  have e6 : Ext w5 (w5.alloc (.map #[] 0)) := Ext.alloc w5 _
  generalize w5.alloc (.map #[] 0) = w6 at *
  refine WL.build rfl rfl rfl rfl ?_
  refine WL.boxB rfl rfl rfl fun w7 hsb e7 => ?_
  have lm := hnum.lt
  have hb2 := (hb2.ext e6).ext e7
  have hb3 := (hb3.ext e6).ext e7
  have hb4 := (hb4.ext e6).ext e7
  have hnum := hnum.ext e7
  have hE7 := (hE.trans e6).trans e7
  have y6 := e6.size
  have y7 := hsb.lt
  obtain ⟨e, heW, heA, hein, hecells⟩ : ∃ e : EA, e.W = W ∧ e.A = A ∧ EIn w5 (Old w5) e ∧ ∀ mb lv nv fv, eCells e mb lv nv fv = [.slice o1 W.1.length c1, .slice o2 W.2.1.length c2, .slice o3 W.2.2.1.length c3, .slice o4 W.2.2.2.length c4, .slice k1 A.1.length d1, .slice k2 A.2.1.length d2, .slice k3 A.2.2.1.length d3, .slice k4 A.2.2.2.1.length d4, .slice k5 A.2.2.2.2.length d5, .map (some mb), lv, nv, fv] :=
    ⟨⟨o1, c1, o2, c2, o3, c3, o4, c4, k1, d1, k2, d2, k3, d3, k4, d4, k5, d5, W, A⟩, rfl, rfl, ⟨h1.up hE, h2.up hE, h3.up hE, h4.up hE, g1.up hE, g2.up hE, g3.up hE, g4.up hE, g5.up hE⟩, fun _ _ _ _ => rfl⟩
  subst heW heA
  have hEm7 : Em w7 w5.heap.size e w6.heap.size w5.heap.size (.slice none 0 0) (.slice none 0 0) (.slice none 0 0) [] :=
    ⟨by rw [hecells]; exact hsb, hnum, Own.nil, hein.to (fun b hb => (e6.trans e7).block b hb) (fun b h => h), ⟨y6, Nat.le_refl _⟩, by omega, (fun g hg => by cases hg), List.Pairwise.nil, (fun p hp => by cases hp), ⟨w600, okA.n, wlb, okA.mu, okA.no⟩⟩
  have hG1 := h1.up hE
  have hG2 := h2.up hE
  have hK1 := g1.up hE
  have hK2 := g2.up hE
  have lb4 := hb4.lt
  clear hecells hein hsb hnum h1 h2 h3 h4 g1 g2 g3 g4 g5 ha
  have e57 := e6.trans e7
  clear e6 e7
  have hb25 : w0.heap.size < w5.heap.size ∧ w1.heap.size < w5.heap.size ∧ w2.heap.size < w5.heap.size := by omega
  generalize hBn : w5.heap.size = B at *
  generalize hsbn : w6.heap.size = sb at *
  have hB7 : B ≤ w7.heap.size := by omega
  have hold7 : ∀ b, b < B → w7.heap[b]? = w5.heap[b]? := fun b hb => e57.block b (by omega)
  (repeat (first | (apply WL.pure; rfl; rfl; rfl) | (apply WL.nil) | (apply EX.thenN) | (apply CW.seq) | (apply CW.region) | (apply WL.fa; rfl; rfl; rfl) | (apply WL.ld; rfl; rfl; rfl; assumption; rfl)))
  refine WL.call rfl rfl rfl (cross_okE w7 hEm7 hB7 (hG1.mono (w' := w7) (fun b hb => hold7 b (by rw [← hBn]; exact hb)) (fun b hb => by rw [← hBn]; exact hb)) (hK1.mono (w' := w7) (fun b hb => hold7 b (by rw [← hBn]; exact hb)) (fun b hb => by rw [← hBn]; exact hb)) wst okA.st tW tA) ?_
  rintro fv w8 ⟨lv, hCr⟩
  obtain ⟨fo, fc, rfl⟩ := hCr.own.val
  change CrI w7 w8 B e sb B (.slice none 0 0) lv (.slice fo (putF (fitW e.W e.A) (startE e.W e.A) [] []).2.length fc) (.slice none 0 0) (.slice none 0 0) (putF (fitW e.W e.A) (startE e.W e.A) [] []).1 (putF (fitW e.W e.A) (startE e.W e.A) [] []).2 at hCr
  have z8 := hCr.chg.size
  have hblk8 := hCr.em.blk
  have hlt8 := fun g hg => hCr.em.lo.lt g hg
  have hof8 := fun g hg => hCr.own.lt g hg
  have hnl8 := hCr.em.nl
  have hlv8 : ∀ g, lv.ownBlock = some g → w7.heap.size ≤ g := fun g hg => (hCr.new g hg).resolve_left (fun h => by cases h)
  have hC8 : Chg (fun b => b = sb ∨ b = B) w7 w8 := hCr.chg.wk (fun b h => by
    rcases h with h | h | h
    · exact .inl h
    · exact .inr h
    · cases h)
  (repeat (first | (apply WL.fa; rfl; rfl; rfl) | (apply WL.nck; rfl; rfl; rfl)))
  refine WL.st rfl rfl rfl hblk8 rfl rfl (ones_of rfl) (fun w9 hblk9 hg9 => ?_)
  have z9 := hg9.size
  have hC9 : Chg (fun b => b = sb ∨ b = B) w7 w9 := hC8.grown hg9 (fun g hg => by cases hg; exact .inl rfl)
  have hPW : PosW e.W := chkE_pos hW
  have hold9 : ∀ {w : World}, Chg (fun b => b = sb ∨ b = B) w7 w → ∀ b, b < B → w.heap[b]? = w5.heap[b]? := fun {w} hC b hb => (hC.block b (by omega) (by omega)).trans (hold7 b hb)
  have hstart := RunE.init (fit := fitW e.W e.A) (next := nextE e.W e.A) (start := startE e.W e.A)
  have hI0 : FndI w7 w9 B e sb B lv (.slice none 0 0) (.slice fo (putF (fitW e.W e.A) (startE e.W e.A) [] []).2.length fc) (putF (fitW e.W e.A) (startE e.W e.A) [] []).2 [] (putF (fitW e.W e.A) (startE e.W e.A) [] []).1 [] := by
    refine ⟨⟨hblk9, hCr.em.num.kept hg9 (fun e => by have := Option.some.inj e; omega), hCr.em.lo.keptN hg9 (fun g hg e => (hnl8 g hg).1 (Option.some.inj e)), hCr.em.inn.to (fun b hb => hg9.block b (by omega) (fun e => by have := Option.some.inj e; omega)) (fun _ h => h), hCr.em.ge, hCr.em.ne, hnl8, hCr.em.nd, hCr.em.ins, hCr.em.ok⟩, hstart, Own.nil, InnR.nil, ?_, hC9, hlv8, (fun g hg => by cases hg), (fun r hr => by cases hr)⟩
    have ho9 := hCr.own.keptN hg9 (fun g hg e => by have := (hof8 g hg).1; have := Option.some.inj e; omega)
    obtain ⟨fo', fc', e, hsl⟩ := ho9.slF (F' := Fz w9 (fMx sb B lv (.slice none 0 0))) (fun _ h => h.elim) (fun g hg => ⟨(ho9.lt g hg).2.1, fun h => by
      have h1 := (hof8 g hg).1
      rcases h with h | h | h | h
      · omega
      · omega
      · exact hCr.dis g hg h
      · cases h⟩)
    exact ⟨fo', fc', e, hsl⟩
  generalize hfrn : (putF (fitW e.W e.A) (startE e.W e.A) [] []).2 = fr at *
  generalize (putF (fitW e.W e.A) (startE e.W e.A) [] []).1 = ps0 at *
  clear hCr hblk8 hlt8 hof8 hnl8 hlv8 hC8 hblk9 hg9 hC9 hstart
  have z79 : w7.heap.size ≤ w9.heap.size := by omega
  clear z8 z9 w8
  (repeat (first | (apply WL.pure; rfl; rfl; rfl) | (apply WL.nil) | (apply EX.thenN) | (apply CW.seq) | (apply CW.region) | (apply CW.block)))
  refine CW.loop (S := Nat × Value × Value × List Raw × List Pr2 × List (List Int)) (fun s => [(2, .pointer (some ⟨w0.heap.size, 0, none⟩)), (3, .pointer (some ⟨w1.heap.size, 0, none⟩)), (4, .pointer (some ⟨w2.heap.size, 0, none⟩)), (9, .pointer (some ⟨sb, 0, none⟩)), (10, .int .i64 s.1)])
    (fun s w => FndI w7 w B e sb B s.2.1 s.2.2.1 (.slice fo fr.length fc) fr s.2.2.2.1 s.2.2.2.2.1 s.2.2.2.2.2 ∧ s.2.2.2.2.2.length = s.1) (fun s => 1228801 - s.1) (0, lv, .slice none 0 0, [], ps0, []) (by repeat (first | exact trivial | refine ⟨rfl, ?_⟩)) ⟨hI0, rfl⟩ ?_
  clear hI0 hEm7
  rintro ⟨n, lv, nv, vs, ps, nx⟩ w ⟨hI, hnl⟩
  dsimp only at hI hnl ⊢
  have hblk := hI.em.blk
  have hpl := hI.em.len
  have hle := hI.run.le
  have hcw := hold9 hI.chg
  have hb2w : Blk w _ _ _ := ((hcw _ hb25.1).trans (hold7 _ hb25.1).symm).trans hb2
  have hb3w : Blk w _ _ _ := ((hcw _ hb25.2.1).trans (hold7 _ hb25.2.1).symm).trans hb3
  have hb4w : Blk w _ _ _ := ((hcw _ hb25.2.2).trans (hold7 _ hb25.2.2).symm).trans hb4
  have zw := hI.chg.size
  obtain ⟨lo, lc, rfl⟩ := hI.em.lo.val
  obtain ⟨no, nc, rfl⟩ := hI.hn.val
  (repeat (first | (apply WL.pure; rfl; rfl; rfl) | (apply WL.nil) | (apply EX.thenN) | (apply CW.seq) | (apply CW.region) | (apply WL.lenS; rfl; rfl; rfl) | (apply WL.fa; rfl; rfl; rfl) | (apply WL.nck; rfl; rfl; rfl) | (apply WL.ld; rfl; rfl; rfl; assumption; rfl)))
  refine CW.cond rfl (fun h => ?_) (fun h => ?_)
  · have hn' : n < ps.length := by simp at h; omega
    clear h
    have hpn : ps.getD n (0, 0) = ps[n] := by rw [List.getD_eq_getElem?_getD, List.getElem?_eq_getElem hn']; rfl
    have hins := hI.em.ins _ (List.getElem_mem hn')
    obtain ⟨x, hx⟩ := Int.eq_ofNat_of_zero_le hins.1.1
    obtain ⟨y, hy⟩ := Int.eq_ofNat_of_zero_le hins.2.1
    have hxl : x < e.W.2.1.length := by have := hins.1.2; omega
    have hyl : y < e.A.2.1.length := by have := hins.2.2; omega
    have hrX : e.W.2.1.getD x [] = e.W.2.1[x] := wgetDG hxl
    have hrY : e.A.2.1.getD y [] = e.A.2.1[y] := wgetDG hyl
    have hnext : nextE e.W e.A (ps.getD nx.length (0, 0)) = pairsX e.W.2.1[x] e.A.2.1[y] := by
      rw [hnl, hpn]; unfold nextE; rw [hx, hy, Int.toNat_natCast, Int.toNat_natCast, hrX, hrY]
    have hrun := hI.run.step (by omega)
    rw [hnext] at hrun
    have hsX := sW x
    rw [hrX] at hsX
    have hsY := sA y
    rw [hrY] at hsY
    have hokX : okL e.W.2.1.length e.W.2.1[x] := (wnx _ (List.getElem_mem hxl)).2
    have hokY : okL e.A.2.1.length e.A.2.1[y] := okA.nx _ (List.getElem_mem hyl)
    have hD : Ext w (drew w) := Ext.drew w
    have zd : (drew w).heap.size = w.heap.size := rfl
    have hblkd := hblk.ext hD
    have hb2d := hb2w.ext hD
    have hb3d := hb3w.ext hD
    obtain ⟨lo', lc', el, hlsl⟩ := (hI.em.lo.extN hD).oldN.sl
    obtain ⟨rfl, _, rfl⟩ := Value.slice.inj el
    obtain ⟨lb, off, rfl, hFb, hc1, hc2⟩ := hlsl.pairAt n hn'
    rw [hx] at hc1
    rw [hy] at hc2
    have hG2d := hG2.mono (w' := drew w) (fun b hb => (hD.block b (by have h' : b < w5.heap.size := hb; omega)).trans (hcw b (by rw [← hBn]; exact hb))) (F' := fun b => b < B) (fun b hb => by rw [← hBn]; exact hb)
    have hK2d := hK2.mono (w' := drew w) (fun b hb => (hD.block b (by have h' : b < w5.heap.size := hb; omega)).trans (hcw b (by rw [← hBn]; exact hb))) (F' := fun b => b < B) (fun b hb => by rw [← hBn]; exact hb)
    have hKs : ∀ u, (fun z : World => z = drew w) u → u.heap[sb]? = (drew w).heap[sb]? := fun u hu => by rw [hu]
    have hKb2 : ∀ u, (fun z : World => z = drew w) u → u.heap[w0.heap.size]? = (drew w).heap[w0.heap.size]? := fun u hu => by rw [hu]
    have hKb3 : ∀ u, (fun z : World => z = drew w) u → u.heap[w1.heap.size]? = (drew w).heap[w1.heap.size]? := fun u hu => by rw [hu]
    have hKK : ∀ (F : Nat → Prop) z, (fun x : World => x = drew w) z → ∀ b, F b → z.heap[b]? = (drew w).heap[b]? := fun F z hz b _ => by rw [hz]
    have hSE : ∀ z, (fun x : World => x = drew w) z → Ext (drew w) z := fun z hz => by rw [hz]; exact Ext.refl _
    (repeat (first | (apply EX.thenN) | (apply CW.seq) | (apply CW.block) | (apply CW.skip)))
    refine CW.drawP 30 35 (fun z : World => ∃ l', Blk z sb 91 (eCells e B l' (.slice no vs.length nc) (.slice fo fr.length fc))) (fun z : World => z = drew w)
      (toP 1 [(0, true), (1, true), (2, true), (3, true), (4, true)] ++ (toP 2 [(5, true), (6, true), (7, true), (8, true), (9, true), (10, true), (11, true), (12, true), (13, true), (14, true), (15, true), (16, true), (17, true), (18, true), (19, true), (20, true), (21, true), (22, true), (23, true), (24, true), (25, true), (26, true), (27, true), (28, true), (29, true)] ++ [(30, 0), (31, 0), (32, 0), (33, 1), (34, 1), (35, 3)])) mixed (by kernel_rfl) ⟨_, hblkd⟩ rfl ?_
    refine HP.weak [(0, true), (1, true), (2, true), (3, true), (4, true)] rfl ?_
    (repeat (first | (apply HL.pure; rfl; rfl; rfl; rfl) | (refine HL.fa rfl rfl rfl rfl ?_) | (apply HL.nck; rfl; rfl; rfl; rfl)))
    refine HL.ldC (v := .slice no vs.length nc) (fun z hz => by obtain ⟨l', hb⟩ := hz; exact ⟨_, _, hb, rfl⟩) rfl rfl rfl rfl ?_
    (repeat (apply HL.nil))
    refine EX.rest ?_
    refine HP.early [(5, true), (6, true), (7, true), (8, true), (9, true), (10, true), (11, true), (12, true), (13, true), (14, true), (15, true), (16, true), (17, true), (18, true), (19, true), (20, true), (21, true), (22, true), (23, true), (24, true), (25, true), (26, true), (27, true), (28, true), (29, true)] rfl ?_
    (repeat (first | (apply HL.pure; rfl; rfl; rfl; rfl) | (refine HL.fa rfl rfl rfl rfl ?_) | (apply HL.nck; rfl; rfl; rfl; rfl) | (refine HL.ld (by assumption) rfl rfl rfl rfl (by assumption) rfl ?_)))
    refine HL.idx (α := Pr2) rfl rfl rfl rfl rfl (by omega) (by omega) ?_
    (repeat (refine HL.fa rfl rfl rfl rfl ?_))
    refine HL.load (α := Int) (F := Non) hSE rfl rfl rfl rfl (by have := hFb; exact this) (fun _ h => h.elim) hc1 rfl ?_
    refine HL.elemK (k := x) (F := fun b => b < B) (hKK _) rfl rfl rfl rfl rfl rfl rfl hG2d hxl (fun _ => rfl) (fun u q hu => ?_)
    obtain ⟨ro, rc, rfl, hrow⟩ := hu.sl
    clear hu
    (repeat (first | (apply HL.pure; rfl; rfl; rfl; rfl) | (refine HL.fa rfl rfl rfl rfl ?_) | (apply HL.nck; rfl; rfl; rfl; rfl) | (refine HL.ld (by assumption) rfl rfl rfl rfl (by assumption) rfl ?_)))
    refine HL.idx (α := Pr2) rfl rfl rfl rfl rfl (by omega) (by omega) ?_
    (repeat (refine HL.fa rfl rfl rfl rfl ?_))
    refine HL.load (α := Int) (F := Non) hSE rfl rfl rfl rfl (by have := hFb; exact this) (fun _ h => h.elim) hc2 rfl ?_
    refine HL.elemK (k := y) (F := fun b => b < B) (hKK _) rfl rfl rfl rfl rfl rfl rfl hK2d hyl (fun _ => rfl) (fun u q hu => ?_)
    obtain ⟨so, sc, rfl, hsow⟩ := hu.sl
    clear hu
    (repeat (apply HL.nil))
    refine EX.rest ?_
    refine HP.mut rfl (WL.call rfl rfl rfl (cross_okE (drew w) (hI.em.ext (by omega) hD) (by omega) hrow hsow hokX hokY hsX hsY) ?_)
    rintro rv w8 ⟨lv', hCr⟩
    obtain ⟨uo, uc, rfl⟩ := hCr.own.val
    rw [show fitE e = fitW e.W e.A from rfl] at hCr ⊢
    have hput := putF_law (fit := fitW e.W e.A) (pairsX e.W.2.1[x] e.A.2.1[y]) ps [] hI.em.nd
    have hplen := hput.len
    rw [pairsX_len] at hplen
    have hmulX := Nat.mul_le_mul hsX hsY
    generalize hP : putF (fitW e.W e.A) (pairsX e.W.2.1[x] e.A.2.1[y]) ps [] = pq at *
    have hblk8 := hCr.em.blk
    have z8 := hCr.chg.size
    have lsb := hblk.lt
    have hnlt := fun g hg => hI.hn.lt g hg
    have hllt := fun g hg => hI.em.lo.lt g hg
    have hlu := fun g hg => hCr.own.lt g hg
    have hlc := fun g hg => hCr.em.lo.lt g hg
    have hnle := hCr.em.nl
    have hvl := hI.inn.len
    refine WL.nil (EX.mutP (ph := true) ⟨_, hblk8⟩ (fun h => by cases h) ?_)
    have hn8 : Own w8 w7.heap.size 22 Non (.slice no vs.length nc) vs := (hI.hn.extN hD).chg hCr.chg (fun b hb hs => by
      have hx := hnlt b hb
      rcases hs with h | h | h
      · omega
      · omega
      · exact hI.dis b hb h)
    refine HP.app1 (α := Raw) (F := Non) (bytes := 24) (yv := (⟨.slice uo pq.2.length uc⟩ : Raw)) rfl rfl rfl rfl (fun _ => rfl) rfl rfl (fun _ => rfl) hn8 (Rd.mkRaw _ _ _ rfl) (by omega) (fun _ h => h.elim) (by decide) (by unfold maxLen; omega) (by omega)
      (fun z hz => ⟨_, hblk8.kept hz (fun e => by have := hnlt sb e.symm; omega)⟩) (fun nv' w9 q9 ho9 hg9 hnb9 => ?_)
    obtain ⟨no', nc', rfl⟩ := ho9.val
    have hblk9 := hblk8.kept hg9 (fun e => by have := hnlt sb e.symm; omega)
    have z9 := hg9.size
    refine HP.weak (r := [(35, 3)]) [(33, true), (34, true)] rfl ?_
    (repeat (first | (refine HL.fa rfl rfl rfl rfl ?_) | (apply HL.nck; rfl; rfl; rfl; rfl) | (apply HL.nil)))
    refine EX.rest ?_
    refine HP.last rfl (WL.st rfl rfl rfl hblk9 rfl rfl (ones_of rfl) (fun w10 hblk10 hg10 => WL.nil (EX.tailE ?_)))
    have z10 := hg10.size
    have hlv' : ∀ g, lv'.ownBlock = some g → w7.heap.size ≤ g := fun g hg => (hCr.new g hg).elim (hI.lvn g) (fun h => by omega)
    have hdis8 : ∀ g, (Value.slice no vs.length nc).ownBlock = some g → lv'.ownBlock ≠ some g := fun g hg hl => (hCr.new g hl).elim (hI.dis g hg) (fun h => by have := (hnlt g hg).2.1; omega)
    have hM68 : ∀ b, fMx sb B lv' (.slice no vs.length nc) b → fMx sb B (.slice (some ⟨lb, off, none⟩) ps.length lc) (.slice no vs.length nc) b ∨ w.heap.size ≤ b := fun b h => by
      rcases h with h | h | h | h
      · exact .inl (.inl h)
      · exact .inl (.inr (.inl h))
      · exact (hCr.new b h).imp (fun h => .inr (.inr (.inl h))) id
      · exact .inl (.inr (.inr (.inr h)))
    have hC68 : Chg (fMx sb B (.slice (some ⟨lb, off, none⟩) ps.length lc) (.slice no vs.length nc)) w w8 := (Chg.of_ext _ hD).trans (hCr.chg.wk (fun b h => by
      rcases h with h | h | h
      · exact .inl h
      · exact .inr (.inl h)
      · exact .inr (.inr (.inl h))))
    have hC810 : Chg (fMx sb B lv' (.slice no vs.length nc)) w8 w10 := ((Chg.of_grown hg9).wk (fun b h => .inr (.inr (.inr h)))).grown hg10 (fun g hg => by cases hg; exact .inl rfl)
    have hM810 : ∀ b, fMx sb B lv' (.slice no' (vs ++ [(⟨.slice uo pq.2.length uc⟩ : Raw)]).length nc') b → fMx sb B lv' (.slice no vs.length nc) b ∨ w8.heap.size ≤ b := fun b h => by
      rcases h with h | h | h | h
      · exact .inl (.inl h)
      · exact .inl (.inr (.inl h))
      · exact .inl (.inr (.inr (.inl h)))
      · exact (hnb9 b h).imp (fun h => .inr (.inr (.inr h))) id
    have hrow8 : Rd w8 (Fz w8 (fMx sb B lv' (.slice no vs.length nc))) (.slice uo pq.2.length uc) pq.2 :=
      hCr.own.rd.mono (fun _ _ => rfl) (fun g hg => hg.elim (fun h => h.elim) (fun hg => ⟨(hlu g hg).2.1, fun h => by
        have h1 := (hlu g hg).1
        rcases h with h | h | h | h
        · omega
        · omega
        · exact hCr.dis g hg h
        · have := (hnlt g h).2.1; omega⟩))
    have hin10 := ((hI.inn.to hC68 hM68).push hrow8).to hC810 hM810
    obtain ⟨fo', fc', ef, hfs⟩ := hI.hf
    obtain ⟨rfl, _, rfl⟩ := Value.slice.inj ef
    have hfs10 := (hfs.fz hC68 hM68).fz hC810 hM810
    have hC10 : Chg (fun b => b = sb ∨ b = B) w7 w10 := (hI.chg.then hC68 (fun b h => by
      rcases h with h | h | h | h
      · exact .inl (.inl h)
      · exact .inl (.inr h)
      · exact .inr (hI.lvn b h)
      · exact .inr (hnlt b h).1)).then hC810 (fun b h => by
      rcases h with h | h | h | h
      · exact .inl (.inl h)
      · exact .inl (.inr h)
      · exact .inr (hlv' b h)
      · exact .inr (hnlt b h).1)
    have hne10 := hCr.em.ne
    (repeat (first | (apply WL.add; rfl; rfl; rfl; rfl; omega; omega) | (apply WL.pure; rfl; rfl; rfl) | (apply WL.nil) | (apply EX.thenN) | (apply CW.region) | (apply EX.inN)))
    refine EX.back (n + 1, lv', .slice no' (vs ++ [(⟨.slice uo pq.2.length uc⟩ : Raw)]).length nc', vs ++ [(⟨.slice uo pq.2.length uc⟩ : Raw)], pq.1, nx ++ [pq.2]) (by repeat (first | exact trivial | refine ⟨rfl, ?_⟩))
      ⟨⟨⟨hblk10, (hCr.em.num.kept hg9 (fun e => by have := hnlt B e.symm; omega)).kept hg10 (fun e => by have := Option.some.inj e; omega), (hCr.em.lo.keptN hg9 (fun g hg e => hdis8 g e.symm hg)).keptN hg10 (fun g hg e => (hnle g hg).1 (Option.some.inj e)),
        hCr.em.inn.to (fun b hb => (hg10.block b (by omega) (fun e => by have := Option.some.inj e; omega)).trans (hg9.block b (by omega) (fun e => by have := hnlt b e.symm; omega))) (fun _ h => h), hCr.em.ge, hne10, hnle, hCr.em.nd, hCr.em.ins, hCr.em.ok⟩, hrun, ho9.keptN hg10 (fun g hg e => by
          have := Option.some.inj e
          rcases hnb9 g hg with h | h
          · have := (hnlt g h).1; omega
          · omega), hin10, ⟨fo, fc, rfl, hfs10⟩, hC10, hlv', fun g hg hl => ?_, fun r hr => ?_⟩, by dsimp only; rw [List.length_append, hnl]; rfl⟩ (by dsimp only; omega)
    · rcases hnb9 g hg with h | h
      · exact hdis8 g h hl
      · have := (hlc g hl).2.1; omega
    · rcases List.mem_append.1 hr with hr | hr
      · exact hI.rows r hr
      · rw [List.mem_singleton] at hr; subst hr; simp at hplen; omega
  have hnp : nx.length = ps.length := by simp at h; omega
  clear h
  have hg := hI.run.okG hnp
  have hfl := hI.run.okF hnp
  have hN : nx.length ≤ 1228800 := by omega
  obtain ⟨no', nc', en, hns⟩ := hI.inn.old hI.hn
  obtain ⟨rfl, hvl, rfl⟩ := Value.slice.inj en
  obtain ⟨fo', fc', ef, hfs⟩ := hI.hf
  obtain ⟨rfl, _, rfl⟩ := Value.slice.inj ef
  have hfs := hfs.old'
  obtain ⟨lo', lc', el, hls⟩ := hI.em.lo.oldN.sl
  obtain ⟨rfl, _, rfl⟩ := Value.slice.inj el
  have hem := hI.em
  have hrun := hI.run
  have hrows := hI.rows
  have hins := hI.em.ins
  rw [hvl] at hblk hem
  have hE0w : Ext w0 w := Chg.ext hE7 hI.chg (fun b hb => by rcases hb with h | h <;> omega)
  have hE0 : ∀ {x : World}, Ext w x → Ext w0 x := fun {x} hx => hE0w.trans hx
  clear hI
  (repeat (first | (apply WL.pure; rfl; rfl; rfl) | (apply EX.thenN) | (apply CW.seq) | (apply CW.region) | (apply WL.fa; rfl; rfl; rfl) | (apply WL.nck; rfl; rfl; rfl) | (apply WL.ld; rfl; rfl; rfl; assumption; rfl) | (apply CW.exit) | (apply EX.thenX) | (apply EX.inX)))
  refine WL.call rfl rfl rfl (Split_ok w hns (fun _ h => h) hg (by omega)) ?_
  rintro pv w10 ⟨part, hpo, hPt, e10⟩
  obtain ⟨po, pc, rfl, hps⟩ := hpo.oldN.sl
  have hppl := hPt.len
  skip
  refine WL.alloc rfl rfl (fun w11 hb11 e11 => ?_)
  skip
  refine WL.st rfl rfl rfl hb11 rfl rfl (ones_of rfl) (fun w12 hb11 hg12 => ?_)
  have e12 : Ext w10 w12 := e11.grown hg12 e11.size (fun g hg => by cases hg; exact Nat.le_refl _)
  have x12 := e10.trans e12
  clear e11 hg12
  (repeat (first | (apply WL.pure; rfl; rfl; rfl) | (apply WL.nil) | (apply EX.thenN) | (apply CW.seq) | (apply CW.region)))
  refine WL.call rfl rfl rfl (esets_ok w12 (hem.ext (by omega) x12) (by have := x12.size; omega) wfr okA.fr w80 okA.f) ?_
  rintro _ w13 ⟨so, sc, rfl, hss, e13⟩
  have x13 := x12.trans e13
  have hsx : setsX e.W e.A ps = setsL (ssE e.W e.A) ps := by unfold setsX setsL ssE; rw [List.map_append, List.map_map, List.map_map]; rfl
  have hslen : ∀ S ∈ setsX e.W e.A ps, S.length = nx.length := fun S hS => by
    rw [hsx] at hS
    obtain ⟨f, _, rfl⟩ := List.mem_map.1 hS
    rw [List.length_map, hnp]
  have hsn : (setsX e.W e.A ps).length ≤ 160 := by unfold setsX; rw [List.length_append, List.length_map, List.length_map]; have := okA.f; omega
  generalize hsets : setsX e.W e.A ps = sets at *
  have hb11 := hb11.ext e13
  (repeat (first | (apply WL.pure; rfl; rfl; rfl) | (apply WL.nil) | (apply EX.thenN) | (apply CW.seq) | (apply CW.region) | (apply WL.ld; rfl; rfl; rfl; assumption; rfl)))
  refine WL.call rfl rfl rfl (egood_ok w13 (hblk.ext x13) hnp.symm (hns.up x13) (hps.up (e12.trans e13)) hss hg hPt hN hslen) ?_
  rintro _ w14 ⟨p, rfl, hp, e14⟩
  have x14 := x13.trans e14
  have hb11 := hb11.ext e14
  skip
  refine WL.alloc rfl rfl (fun w15 hb13 e15 => ?_)
  skip
  refine WL.st rfl rfl rfl hb13 rfl rfl (ones_of rfl) (fun w16 hb13 hg16 => ?_)
  have e16 : Ext w14 w16 := e15.grown hg16 e15.size (fun g hg => by cases hg; exact Nat.le_refl _)
  have x16 := x14.trans e16
  clear e15 hg16
  have hb11 := hb11.ext e16
  have hpway := pway_good (Ss := ssE e.W e.A) hrun hnp hPt
  rw [← hsx] at hpway
  (repeat (first | (apply WL.pure; rfl; rfl; rfl) | (apply WL.nil) | (apply EX.thenN) | (apply CW.seq) | (apply CW.region) | (apply WL.ld; rfl; rfl; rfl; assumption; rfl)))
  refine CW.cond rfl (fun h => ?_) (fun h => ?_)
  · have h : p < 0 := by simpa using h
    have hno : ¬ EWay e.W e.A := fun hr => by
      obtain ⟨c, h1, h2, h3⟩ := hpway.1 hr
      rcases hp with ⟨_, hp⟩ | ⟨hp, _⟩
      · exact hp c h1 h2 h3
      · omega
    (repeat (first | (apply CW.seq) | (apply CW.region)))
    refine WL.build (parts := []) rfl rfl rfl rfl ?_
    skip
    refine WL.st rfl rfl rfl (hb4w.ext x16) rfl rfl (ones_of rfl) (fun w17 hb17 hg17 => ?_)
    have hE17 : Ext w0 w17 := (hE0 x16).grown hg17 (hE0 x16).size (fun g hg => by cases hg; omega)
    (repeat (first | (apply WL.pure; rfl; rfl; rfl) | (apply WL.nil) | (apply EX.thenN) | (apply CW.ret) | (apply EX.thenR)))
    exact EX.retCE rfl rfl rfl rfl hb17 rfl ⟨⟨[], [], false, _, _, _, _, _, rfl, nilS _, nilS _, .inr ⟨rfl, hW, hA, .inl ⟨rfl, rfl, rfl, hno⟩⟩⟩, hE17⟩
  have h : ¬ p < 0 := by simpa using h
  obtain ⟨hp0, hpN, hgood⟩ : 0 ≤ p ∧ p < nx.length ∧ GoodC nx part sets p := hp.resolve_left (fun h' => by omega)
  have hyes : EWay e.W e.A := hpway.2 ⟨p, hp0, hpN, hgood⟩
  clear hp h hpway
  obtain ⟨u, hu, hup, _⟩ := id hgood.1
  obtain ⟨a, haf, hrc⟩ := hrun.reach hnp u hu
  -- the way to it
  have hD : Ext w16 (drew w16) := Ext.drew w16
  have xd := x16.trans hD
  have hblkd := hblk.ext xd
  have hb11d := hb11.ext hD
  have hb13d := hb13.ext hD
  have hSE : ∀ z, (fun z : World => Ext (drew w16) z) z → Ext (drew w16) z := fun _ h => h
  (repeat (first | (apply EX.thenN) | (apply CW.seq) | (apply CW.skip)))
  refine CW.drawH (fun z : World => Ext (drew w16) z) [(0, true), (1, true), (2, true), (3, true), (4, true), (5, true), (6, true), (7, false), (8, true)] mixed (by kernel_rfl) (Ext.refl _) ?_
  (repeat (first | (apply HL.pure; rfl; rfl; rfl; rfl) | (refine HL.fa rfl rfl rfl rfl ?_) | (apply HL.nck; rfl; rfl; rfl; rfl) | (refine HL.ld (by assumption) rfl rfl rfl rfl (by assumption) rfl ?_) | (apply HL.makeFunc; rfl; rfl; rfl; rfl; rfl)))
  have hpd := ((hps.up (e12.trans e13)).up (e14.trans e16)).up hD
  refine HL.mut rfl (WL.call rfl rfl rfl (eway_ok (drew w16) (fr := fr) (part := part) (only := -1) (to := fun k => decide (part.getD k 0 = p)) hblkd (hns.up xd) (hfs.up xd) hpd hg hfl hppl hN (fun z hz k hk => FnV.mk (cs := [_, _]) (find1_ok z _ _ (hb11d.ext hz) (hb13d.ext hz) (hpd.up hz) (by omega)))) ?_)
  rintro stv w17 ⟨st, hso, hst, e17⟩
  have hst : WyOK nx fr (fun k => decide (part.getD k 0 = p)) (alB part (-1)) st := by
    rcases hst with ⟨_, hst⟩ | hst
    · exact absurd hst (way_any haf hrc (decide_eq_true hup))
    · exact hst
  refine WL.nil (EX.mut e17 ?_)
  (repeat (first | (apply HL.pure; rfl; rfl; rfl; rfl) | (apply HL.nil)))
  have x17 := xd.trans e17
  have hb1117 := hb11d.ext e17
  have hp17 := hpd.up e17
  have hstn := hst.ne
  have hstl := hst.len
  obtain ⟨sto, stc, rfl, hsts⟩ := hso.oldN.sl
  have hlast : 0 ≤ st.getD (st.length - 1) 0 ∧ st.getD (st.length - 1) 0 < nx.length := by
    rw [List.getD_eq_getElem?_getD, List.getElem?_eq_getElem (by omega)]
    exact hst.rg _ (List.getElem_mem _)
  obtain ⟨m, hm⟩ := Int.eq_ofNat_of_zero_le hlast.1
  have hml : m < nx.length := by omega
  have hmp : part.getD m 0 = p := by have := hst.en; rw [hm] at this; simpa using this
  have hlel : st[st.length - 1]'(by omega) = (m : Int) := by rw [← hm, List.getD_eq_getElem?_getD, List.getElem?_eq_getElem (by omega)]; rfl
  have hgd2 : GoodC nx part sets (part.getD m 0) := by rw [hmp]; exact hgood
  have hD2 : Ext w17 (drew w17) := Ext.drew w17
  have hblk2 := hblk.ext (x17.trans hD2)
  have hb112 := hb1117.ext hD2
  have hsts2 := hsts.up hD2
  have hSE : ∀ z, (fun z : World => Ext (drew w17) z) z → Ext (drew w17) z := fun _ h => h
  have hKK : ∀ (F : Nat → Prop) (hF : ∀ b, F b → b < (drew w17).heap.size) z, (fun z : World => Ext (drew w17) z) z → ∀ b, F b → z.heap[b]? = (drew w17).heap[b]? := fun F hF z hz b hb => hz.block b (hF b hb)
  (repeat (first | (apply EX.thenN) | (apply CW.seq)))
  refine CW.drawH (fun z : World => Ext (drew w17) z) [(0, true), (1, true), (2, true), (3, true), (4, true), (5, true), (6, true), (7, true), (8, true), (9, false), (10, true)] mixed (by kernel_rfl) (Ext.refl _) ?_
  (repeat (first | (apply HL.sub'; rfl; rfl; rfl; rfl; rfl; omega; omega) | (apply HL.pure; rfl; rfl; rfl; rfl) | (refine HL.lenS rfl rfl rfl rfl ?_)))
  rw [show ((st.length : Nat) : Int) - 1 = ((st.length - 1 : Nat) : Int) by omega]
  refine HL.elemK (w := drew w17) (F := Old (drew w17)) (k := st.length - 1) (hKK _ (fun _ h => h)) rfl rfl rfl rfl rfl rfl rfl hsts2 (by omega) (fun _ => rfl) (fun u q hu => ?_)
  obtain rfl := hu.int
  rw [hlel]
  (repeat (first | (apply HL.pure; rfl; rfl; rfl; rfl) | (refine HL.ld (by assumption) rfl rfl rfl rfl (by assumption) rfl ?_)))
  refine HL.mut rfl (WL.call rfl rfl rfl (eround_ok (drew w17) hblk2 (hns.up (x17.trans hD2)) (hp17.up hD2) (((hss.up e14).up e16).up ((hD.trans e17).trans hD2)) hg hPt hN hslen hsn hrows hml hgd2) ?_)
  rintro lov w18 ⟨lo2, hlo, hRO, e18⟩
  refine WL.nil (EX.mut e18 ?_)
  (repeat (first | (apply HL.pure; rfl; rfl; rfl; rfl) | (apply HL.nil)))
  have x18 := (x17.trans hD2).trans e18
  have e1718 := hD2.trans e18
  have hlol := hRO.len
  have hlsl : sets.length + 1 ≤ 161 := by omega
  have hlmul := Nat.mul_le_mul hlsl hN
  obtain ⟨loo, loc, rfl, hlos⟩ := hlo.oldN.sl
  have hso18 := hso.extN e1718
  have hblk18 := hblk.ext x18
  have hls18 := hls.up x18
  rw [hnp] at hlmul hlol
  have hokst : okL ps.length (st.take (st.length - 1)) := fun y hy => by rw [← hnp]; exact hst.rg y (List.mem_of_mem_take hy)
  have hoklo : okL ps.length lo2 := fun y hy => by rw [← hnp]; exact hRO.rg y hy
  have hb418 := hb4w.ext x18
  (repeat (first | (apply WL.sub'; rfl; rfl; rfl; rfl; omega; omega) | (apply WL.pure; rfl; rfl; rfl) | (apply EX.thenN) | (apply CW.seq) | (apply CW.region) | (apply WL.lenS; rfl; rfl; rfl)))
  refine WL.cutHiO (α := Int) (st.length - 1) (by omega) rfl rfl rfl rfl hso18 (by omega) (fun v19 ho19 hob19 => ?_)
  obtain ⟨cuo, cuc, rfl, hcus⟩ := ho19.oldN.sl
  skip
  refine WL.call rfl rfl rfl (estates_ok w18 hblk18 hls18 hcus hokst (by rw [List.length_take]; omega)) ?_
  rintro sv w19 ⟨hsv, e19⟩
  obtain ⟨svo, svc, rfl, hsvs⟩ := hsv.slF (F' := fun b => w18.heap.size ≤ b ∧ b < w19.heap.size) (fun _ h => h.elim) (fun g hg => ⟨(hsv.lt g hg).1, (hsv.lt g hg).2.1⟩)
  (repeat (apply WL.pure; rfl; rfl; rfl))
  refine WL.call rfl rfl rfl (estates_ok w19 (hblk18.ext e19) (hls18.up e19) (hlos.up e19) hoklo (by omega)) ?_
  rintro lv2 w20 ⟨hlv2, e20⟩
  obtain ⟨lvo, lvc, rfl, hlvs⟩ := hlv2.slF (F' := fun b => w19.heap.size ≤ b ∧ b < w20.heap.size) (fun _ h => h.elim) (fun g hg => ⟨(hlv2.lt g hg).1, (hlv2.lt g hg).2.1⟩)
  have x20 := (x18.trans e19).trans e20
  skip
  refine WL.build rfl rfl rfl rfl ?_
  skip
  refine WL.st rfl rfl rfl (hb418.ext (e19.trans e20)) rfl rfl (ones_of rfl) (fun w21 hb21 hg21 => ?_)
  have hE21 : Ext w0 w21 := (hE0 x20).grown hg21 (hE0 x20).size (fun g hg => by cases hg; omega)
  have hRO' : RoOK nx (st.getD (st.length - 1) 0).toNat (setsL (ssE e.W e.A) ps) lo2 := by rw [hm, Int.toNat_natCast, ← hsx]; exact hRO
  have hpath := path_found hrun hnp hins hPW (okA_pos2 okA) hst hRO'
  have q18 := x18.size
  have q19 := e19.size
  have q20 := e20.size
  have r1 := hsvs.mono (w' := w21) (fun b hb => (hg21.block b (by omega) (fun e => by have := Option.some.inj e; omega)).trans (e20.block b hb.2)) (F' := Old w21) (fun b hb => by have := hg21.size; exact (show b < w21.heap.size by omega))
  have r2 := hlvs.mono (w' := w21) (fun b hb => hg21.block b hb.2 (fun e => by have := Option.some.inj e; omega)) (F' := Old w21) (fun b hb => by have := hg21.size; exact (show b < w21.heap.size by omega))
  (repeat (first | (apply WL.pure; rfl; rfl; rfl) | (apply WL.nil) | (apply EX.thenN) | (apply CW.ret)))
  exact EX.retCE rfl rfl rfl rfl hb21 rfl ⟨⟨_, _, true, 0, _, _, _, _, rfl, r1, r2, .inr ⟨rfl, hW, hA, .inr ⟨rfl, hyes, hpath⟩⟩⟩, hE21⟩
end Go.Proofs.YtllpfgcngokhnaaGreat

/-
  watchkeep.turns walked.
-/
set_option linter.unusedVariables false
set_option linter.unusedSimpArgs false
namespace Go.Proofs.YtllpfgcngokhnaaGreat
open Go.RowKit

theorem wturns_okL (w0 : World) : Rt Tryz.prog 15 [].toArray w0 fun v w' => (∃ a1 c1 a2 c2 a3 c3 a4 c4, v = worldV a1 c1 a2 c2 a3 c3 a4 c4 1 2 2 2 ∧ Sl w' (Old w') a1 c1 [(0 : Int)] ∧ Sl w' (Old w') a2 c2 [[(1 : Int), 0], [0, 1]] ∧ Sl w' (Old w') a3 c3 [(1 : Nat), 2] ∧ Sl w' (Old w') a4 c4 [[(0 : Int)], [1]]) ∧ Ext w0 w' := by
  refine Rt.enter0 Tryz.func15 Tryz.ntmps15 rfl ?_
  (repeat (first | (apply CW.seq) | (apply CW.region)))
  refine WL.alloc rfl rfl (fun w1 hb hE1 => ?_)
  have hc1 : w0.heap.size + 1 ≤ w1.heap.size := hb.lt
  generalize hcc : w0.heap.size + 1 = c at hc1
  (repeat (first | (apply WL.nil) | (apply EX.thenN) | (apply CW.seq) | (apply CW.region)))
  refine WL.litF c (by omega) [(0 : Int)] rfl rfl rfl rfl rfl (.cons (Rd.mkInt _ _ _) .nil) (by decide) (fun v2 w2 e2 r2 => ?_)
  have z2 := e2.size
  refine WL.litF c (by omega) [(1 : Int), 0] rfl rfl rfl rfl rfl (.cons (Rd.mkInt _ _ _) (.cons (Rd.mkInt _ _ _) .nil)) (by decide) (fun v3 w3 e3 r3 => ?_)
  have z3 := e3.size
  refine WL.litF c (by omega) [(0 : Int), 1] rfl rfl rfl rfl rfl (.cons (Rd.mkInt _ _ _) (.cons (Rd.mkInt _ _ _) .nil)) (by decide) (fun v4 w4 e4 r4 => ?_)
  have z4 := e4.size
  refine WL.litF c (by omega) [[(1 : Int), 0], [0, 1]] rfl rfl rfl rfl rfl (.cons (r3.upF e4) (.cons r4 .nil)) (by decide) (fun v5 w5 e5 r5 => ?_)
  have z5 := e5.size
  refine WL.litF c (by omega) [(1 : Nat), 2] rfl rfl rfl rfl rfl (.cons ⟨_, rfl, rd_mkU64 _ _ _ (by decide)⟩ (.cons ⟨_, rfl, rd_mkU64 _ _ _ (by decide)⟩ .nil)) (by decide) (fun v6 w6 e6 r6 => ?_)
  have z6 := e6.size
  refine WL.litF c (by omega) [(0 : Int)] rfl rfl rfl rfl rfl (.cons (Rd.mkInt _ _ _) .nil) (by decide) (fun v7 w7 e7 r7 => ?_)
  have z7 := e7.size
  refine WL.litF c (by omega) [(1 : Int)] rfl rfl rfl rfl rfl (.cons (Rd.mkInt _ _ _) .nil) (by decide) (fun v8 w8 e8 r8 => ?_)
  have z8 := e8.size
  refine WL.litF c (by omega) [[(0 : Int)], [1]] rfl rfl rfl rfl rfl (.cons (r7.upF e8) (.cons r8 .nil)) (by decide) (fun v9 w9 e9 r9 => ?_)
  replace r2 := r2.upF (e3.trans (e4.trans (e5.trans (e6.trans (e7.trans (e8.trans e9))))))
  replace r5 := r5.upF (e6.trans (e7.trans (e8.trans e9)))
  replace r6 := r6.upF (e7.trans (e8.trans e9))
  have hb9 := hb.ext (e2.trans (e3.trans (e4.trans (e5.trans (e6.trans (e7.trans (e8.trans e9)))))))
  have hE9 := hE1.trans (e2.trans (e3.trans (e4.trans (e5.trans (e6.trans (e7.trans (e8.trans e9)))))))
  clear r3 r4 r7 r8 e2 e3 e4 e5 e6 e7 e8 e9 hE1
  obtain ⟨a1, c1, rfl, s1⟩ := r2.sl
  obtain ⟨a2, c2, rfl, s2⟩ := r5.sl
  obtain ⟨a3, c3, rfl, s3⟩ := r6.sl
  obtain ⟨a4, c4, rfl, s4⟩ := r9.sl
  skip
  refine WL.build rfl rfl rfl rfl ?_
  skip
  refine WL.st rfl rfl rfl hb9 rfl rfl (ones_of rfl) (fun w10 hb10 hg10 => ?_)
  have hE10 : Ext w0 w10 := hE9.grown hg10 hE9.size (fun g hg => by cases hg; exact Nat.le_refl _)
  have hF : ∀ b, From c w9 b → w10.heap[b]? = w9.heap[b]? := fun b hb => hg10.block b hb.2 (fun e => by cases e; have := hb.1; omega)
  have hO : ∀ b, From c w9 b → Old w10 b := fun b hb => Nat.lt_of_lt_of_le hb.2 hg10.size
  (repeat (first | (apply WL.nil) | (apply EX.thenN) | (apply CW.ret)))
  exact EX.retC rfl rfl hb10 rfl ⟨⟨a1, c1, a2, c2, a3, c3, a4, c4, rfl, s1.mono hF hO, s2.mono hF hO, s3.mono hF hO, s4.mono hF hO⟩, hE10⟩
end Go.Proofs.YtllpfgcngokhnaaGreat

/-
  One fair set in place of many (Choueka): plain lists, no program in sight.
-/
set_option linter.unusedVariables false
set_option linter.unusedSimpArgs false
namespace Go.Proofs.YtllpfgcngokhnaaGreat

/- COUNTING -/
section
variable {fr : List (List Int)} {q : Nat → Pr2}
end
end Go.Proofs.YtllpfgcngokhnaaGreat

/-
  What an automaton of pairs is like: plain lists, no program in sight.
-/
set_option linter.unusedVariables false
set_option linter.unusedSimpArgs false
namespace Go.Proofs.YtllpfgcngokhnaaGreat

theorem edges_getD : ∀ {g : Graph} {j : Nat}, (g.getD j []).length ≤ edges g
  | [], j => by simp
  | r :: g, 0 => by simp [edges]
  | r :: g, j + 1 => by
    have := edges_getD (g := g) (j := j)
    simp [edges] at this ⊢
    omega
structure MadeIn (N : Nat) (st : List Int) (nx : List (List Int)) : Prop where
  so : okL N st
  no : ∀ r ∈ nx, okL N r
  ln : nx.length = N
  n : N ≤ 2048
  sl : st.length ≤ 2048
  ed : edges nx ≤ 4194304
end Go.Proofs.YtllpfgcngokhnaaGreat

/-
  EmptyShows, EmptyTakes: walked.
-/
set_option linter.unusedVariables false
set_option linter.unusedSimpArgs false
namespace Go.Proofs.YtllpfgcngokhnaaGreat
open Go.RowKit

end Go.Proofs.YtllpfgcngokhnaaGreat

/-
  Package auto: the maker of pairs: what it holds.
-/
set_option linter.unusedVariables false
set_option linter.unusedSimpArgs false
namespace Go.Proofs.YtllpfgcngokhnaaGreat
open Go.RowKit

instance iMk3 : IsZ0 Tryz.prog 3 := ⟨by kernel_rfl⟩
end Go.Proofs.YtllpfgcngokhnaaGreat

/-
  Package auto: put, the maker's closure: walked.
-/
set_option linter.unusedVariables false
set_option linter.unusedSimpArgs false
namespace Go.Proofs.YtllpfgcngokhnaaGreat
open Go.RowKit

end Go.Proofs.YtllpfgcngokhnaaGreat

/-
  Package auto: made: walked.
-/
set_option linter.unusedVariables false
set_option linter.unusedSimpArgs false
namespace Go.Proofs.YtllpfgcngokhnaaGreat
open Go.RowKit

end Go.Proofs.YtllpfgcngokhnaaGreat

/-
  Package auto: the closures of Both and Single, sets: walked.
-/
set_option linter.unusedVariables false
set_option linter.unusedSimpArgs false
namespace Go.Proofs.YtllpfgcngokhnaaGreat
open Go.RowKit

end Go.Proofs.YtllpfgcngokhnaaGreat

/-
  Package auto: sets: walked.
-/
set_option linter.unusedVariables false
set_option linter.unusedSimpArgs false
namespace Go.Proofs.YtllpfgcngokhnaaGreat
open Go.RowKit

end Go.Proofs.YtllpfgcngokhnaaGreat

/-
  Package auto: Both: walked.
-/
set_option linter.unusedVariables false
set_option linter.unusedSimpArgs false
namespace Go.Proofs.YtllpfgcngokhnaaGreat
open Go.RowKit

instance iBo1 : IsZC Tryz.prog 60 [.slice none 0 0, .slice none 0 0, .slice none 0 0, .slice none 0 0, .slice none 0 0] := IsZC.of (z := .agg #[.slice none 0 0, .slice none 0 0, .slice none 0 0, .slice none 0 0, .slice none 0 0]) (by kernel_rfl) rfl
end Go.Proofs.YtllpfgcngokhnaaGreat

/-
  Both, by its error.
-/
set_option linter.unusedVariables false
set_option linter.unusedSimpArgs false
namespace Go.Proofs.YtllpfgcngokhnaaGreat
open Go.RowKit

end Go.Proofs.YtllpfgcngokhnaaGreat

/-
  EmptyTakes: walked.
-/
set_option linter.unusedVariables false
set_option linter.unusedSimpArgs false
namespace Go.Proofs.YtllpfgcngokhnaaGreat
open Go.RowKit

end Go.Proofs.YtllpfgcngokhnaaGreat

/-
  Package lasso: what formulas say at all places.
-/
set_option linter.unusedVariables false
set_option linter.unusedSimpArgs false
namespace Go.Proofs.YtllpfgcngokhnaaGreat
open Go.RowKit

mutual
def wfT : Ltl → Prop
  | .mk k n kids => kidsK k = kids.length ∧ 0 ≤ n ∧ n ≤ 63 ∧ (k ≠ 3 → n = 0) ∧ wfTs kids
def wfTs : List Ltl → Prop
  | [] => True
  | x :: r => wfT x ∧ wfTs r
end
mutual
theorem chkF_wf : ∀ (t : Ltl) (deep c : Int), (chkF t deep c).1 = 0 → wfT t
  | .mk k n kids, deep, c, h => by
    simp only [chkF] at h
    split at h
    · cases h
    · split at h
      · cases h
      · split at h
        · cases h
        · rename_i h3
          simp only [wfT]
          have := chkFL_wf kids _ _ h
          refine ⟨by omega, by omega, by omega, by omega, this⟩
theorem chkFL_wf : ∀ (l : List Ltl) (deep c : Int), (chkFL l deep c).1 = 0 → wfTs l
  | [], _, _, _ => trivial
  | x :: r, deep, c, h => by
    simp only [chkFL] at h
    split at h
    · rename_i h1; exact absurd h h1
    · rename_i h1
      exact ⟨chkF_wf x deep c (by simpa using h1), chkFL_wf r _ _ h⟩
end
theorem wfTs_get : ∀ (kids : List Ltl) (i : Nat) (h : i < kids.length), wfTs kids → wfT kids[i]
  | x :: r, 0, h, hw => hw.1
  | x :: r, i + 1, h, hw => wfTs_get r i (by simpa using h) hw.2
end Go.Proofs.YtllpfgcngokhnaaGreat

/-
  What formulas of one way mean, on endless words; that lasso.holds says so. Plain law, no program in sight.
-/
set_option linter.unusedVariables false
set_option linter.unusedSimpArgs false
namespace Go.Proofs.YtllpfgcngokhnaaGreat
open Go.RowKit

def Til (A B : Nat → Prop) (i : Nat) : Prop := ∃ j, i ≤ j ∧ B j ∧ ∀ m, i ≤ m → m < j → A m
theorem Til.step {A B : Nat → Prop} {i : Nat} : Til A B i ↔ B i ∨ (A i ∧ Til A B (i + 1)) := by
  constructor
  · rintro ⟨j, hj, hb, ha⟩
    by_cases h : i = j
    · subst h; exact .inl hb
    · exact .inr ⟨ha i (Nat.le_refl _) (by omega), j, by omega, hb, fun m h1 h2 => ha m (by omega) h2⟩
  · rintro (hb | ⟨ha, j, hj, hb, hm⟩)
    · exact ⟨i, Nat.le_refl _, hb, fun m h1 h2 => by omega⟩
    · refine ⟨j, by omega, hb, fun m h1 h2 => ?_⟩
      by_cases h : m = i
      · subst h; exact ha
      · exact hm m (by omega) h2
def semK (L : Nat → Nat) (k n : Int) (ks : List (Nat → Prop)) (i : Nat) : Prop :=
  if k = 1 then True
  else if k = 3 then L i >>> n.toNat &&& 1 = 1
  else if k = 4 then ¬ ks.getD 0 (fun _ => False) i
  else if k = 5 then ks.getD 0 (fun _ => False) i ∧ ks.getD 1 (fun _ => False) i
  else if k = 6 then ks.getD 0 (fun _ => False) i ∨ ks.getD 1 (fun _ => False) i
  else if k = 7 then ks.getD 0 (fun _ => False) (i + 1)
  else if k = 8 then Til (ks.getD 0 (fun _ => False)) (ks.getD 1 (fun _ => False)) i
  else if k = 9 then ¬ Til (fun j => ¬ ks.getD 0 (fun _ => False) j) (fun j => ¬ ks.getD 1 (fun _ => False) j) i
  else if k = 10 then Til (fun _ => True) (ks.getD 0 (fun _ => False)) i
  else if k = 11 then ¬ Til (fun _ => True) (fun j => ¬ ks.getD 0 (fun _ => False) j) i
  else False
mutual
def sem (L : Nat → Nat) : Ltl → Nat → Prop
  | .mk k n kids => semK L k n (sems L kids)
def sems (L : Nat → Nat) : List Ltl → List (Nat → Prop)
  | [] => []
  | x :: r => sem L x :: sems L r
end
theorem Til.shift {A B A' B' : Nat → Prop} {i i' : Nat} (ha : ∀ j, A (i + j) ↔ A' (i' + j)) (hb : ∀ j, B (i + j) ↔ B' (i' + j)) : Til A B i ↔ Til A' B' i' := by
  constructor
  · rintro ⟨j, hj, h1, h2⟩
    obtain ⟨d, rfl⟩ := Nat.exists_eq_add_of_le hj
    refine ⟨i' + d, by omega, (hb d).1 h1, fun m hm hm2 => ?_⟩
    obtain ⟨e, rfl⟩ := Nat.exists_eq_add_of_le hm
    exact (ha e).1 (h2 (i + e) (by omega) (by omega))
  · rintro ⟨j, hj, h1, h2⟩
    obtain ⟨d, rfl⟩ := Nat.exists_eq_add_of_le hj
    refine ⟨i + d, by omega, (hb d).2 h1, fun m hm hm2 => ?_⟩
    obtain ⟨e, rfl⟩ := Nat.exists_eq_add_of_le hm
    exact (ha e).2 (h2 (i' + e) (by omega) (by omega))
section
variable {s l : List Nat} {a b : List Bool} {A B : Nat → Prop} {N : Nat}
end

/- WHAT HOLDS -/
theorem notB {xs : List Bool} {N i : Nat} (hl : xs.length = N) (hi : i < N) : ((xs.map (!·)).getD i false = true ↔ ¬ xs.getD i false = true) := by
  rw [List.getD_eq_getElem?_getD, List.getD_eq_getElem?_getD, List.getElem?_map, List.getElem?_eq_getElem (by omega)]
  simp
end Go.Proofs.YtllpfgcngokhnaaGreat

/-
  Package push, plain: nots pushed down, plain, slim; what they mean and what forms they give.
-/
set_option linter.unusedVariables false
set_option linter.unusedSimpArgs false
namespace Go.Proofs.YtllpfgcngokhnaaGreat
open Go.RowKit

/-- induction over right formulas -/
theorem wf_ind {M : Ltl → Prop} (h1 : M (.mk 1 0 [])) (h2 : M (.mk 2 0 [])) (h3 : ∀ n, 0 ≤ n → n ≤ 63 → M (.mk 3 n []))
    (hu : ∀ k a, k = 4 ∨ k = 7 ∨ k = 10 ∨ k = 11 → wfT a → M a → M (.mk k 0 [a]))
    (hb : ∀ k a b, k = 5 ∨ k = 6 ∨ k = 8 ∨ k = 9 → wfT a → wfT b → M a → M b → M (.mk k 0 [a, b])) : ∀ t, wfT t → M t := by
  have key : ∀ m (t : Ltl), t.nodes ≤ m → wfT t → M t := by
    intro m
    induction m with
    | zero => intro t ht; have := t.nodes_pos; omega
    | succ m ih =>
      rintro ⟨k, n, kids⟩ ht hw
      simp only [wfT] at hw
      simp only [Ltl.nodes] at ht
      obtain ⟨hk, hn0, hn1, hn2, hks⟩ := hw
      unfold kidsK at hk
      split at hk
      · rename_i hc
        have : kids = [] := List.eq_nil_of_length_eq_zero (by omega)
        subst this
        rcases hc with rfl | rfl | rfl
        · rw [hn2 (by decide)]; exact h1
        · rw [hn2 (by decide)]; exact h2
        · exact h3 n hn0 hn1
      · split at hk
        · rename_i hc
          rw [hn2 (by omega)]
          match kids, hk with
          | [a], _ =>
            simp only [Ltl.nodesL, wfTs] at ht hks
            exact hu k a hc hks.1 (ih a (by omega) hks.1)
        · split at hk
          · rename_i hc
            rw [hn2 (by omega)]
            match kids, hk with
            | [a, b], _ =>
              simp only [Ltl.nodesL, wfTs] at ht hks
              have := a.nodes_pos
              have := b.nodes_pos
              exact hb k a b hc hks.1 hks.2.1 (ih a (by omega) hks.1) (ih b (by omega) hks.2.1)
          · omega
  exact fun t hw => key t.nodes t (Nat.le_refl _) hw
/- DEPTH, AND WHAT Check ASKS -/
mutual
def Ltl.deep : Ltl → Nat
  | .mk _ _ kids => 1 + Ltl.deepL kids
def Ltl.deepL : List Ltl → Nat
  | [] => 0
  | x :: r => max x.deep (Ltl.deepL r)
end
mutual
theorem chk_size : ∀ (t : Ltl) (d c : Int), (chkF t d c).1 = 0 → (chkF t d c).2 = c + t.nodes ∧ d + t.deep ≤ 21
  | .mk k n kids, d, c, h => by
    simp only [chkF] at h ⊢
    split at h
    · cases h
    · rename_i h1
      rw [if_neg h1]
      split at h
      · cases h
      · rename_i h2
        rw [if_neg h2]
        split at h
        · cases h
        · rename_i h3
          rw [if_neg h3]
          have := chks_size kids (d + 1) (c + 1) (by omega) h
          simp only [Ltl.nodes, Ltl.deep]
          omega
theorem chks_size : ∀ (l : List Ltl) (d c : Int), d ≤ 21 → (chkFL l d c).1 = 0 → (chkFL l d c).2 = c + Ltl.nodesL l ∧ d + Ltl.deepL l ≤ 21
  | [], d, c, hd, h => by simp only [chkFL, Ltl.nodesL, Ltl.deepL]; omega
  | x :: r, d, c, hd, h => by
    simp only [chkFL] at h ⊢
    split at h
    · rename_i h1; exact absurd h h1
    · rename_i h1
      rw [if_neg h1]
      have h2 := chk_size x d c (by simpa using h1)
      have h3 := chks_size r d _ hd h
      simp only [Ltl.nodesL, Ltl.deepL]
      omega
end
mutual
theorem chk_of : ∀ (t : Ltl) (d c : Int), wfT t → c + t.nodes ≤ 60 → d + t.deep ≤ 21 → (chkF t d c).1 = 0
  | .mk k n kids, d, c, hw, h1, h2 => by
    simp only [wfT] at hw
    simp only [Ltl.nodes, Ltl.deep] at h1 h2
    simp only [chkF]
    have h3 : ¬ (kidsK k ≠ kids.length ∨ n < 0 ∨ n > 63 ∨ (k ≠ 3 ∧ n ≠ 0)) := by
      intro h
      rcases h with h | h | h | h
      · exact h hw.1
      · omega
      · omega
      · exact h.2 (hw.2.2.2.1 h.1)
    rw [if_neg (by omega), if_neg (by omega), if_neg h3]
    exact chks_of kids _ _ hw.2.2.2.2 (by omega) (by omega)
theorem chks_of : ∀ (l : List Ltl) (d c : Int), wfTs l → c + Ltl.nodesL l ≤ 60 → d + Ltl.deepL l ≤ 21 → (chkFL l d c).1 = 0
  | [], d, c, _, _, _ => by simp only [chkFL]
  | x :: r, d, c, hw, h1, h2 => by
    simp only [wfTs] at hw
    simp only [Ltl.nodesL, Ltl.deepL] at h1 h2
    have h3 := chk_of x d c hw.1 (by omega) (by omega)
    have h4 := chk_size x d c h3
    simp only [chkFL]
    rw [if_neg (by simp [h3]), h4.1]
    exact chks_of r d _ hw.2 (by omega) (by omega)
end
theorem chk_iff (t : Ltl) : (chkF t 1 0).1 = 0 ↔ wfT t ∧ t.nodes ≤ 60 ∧ t.deep ≤ 20 := by
  constructor
  · intro h
    have h1 := chk_size t 1 0 h
    have h2 := chkF_le t 1 0 h
    exact ⟨chkF_wf t 1 0 h, by omega, by omega⟩
  · rintro ⟨h1, h2, h3⟩
    exact chk_of t 1 0 h1 (by omega) (by omega)

/- EQUALITY -/
mutual
def sameB : Ltl → Ltl → Bool
  | .mk k n l, .mk k' n' l' => k == k' && n == n' && sameBs l l'
def sameBs : List Ltl → List Ltl → Bool
  | [], [] => true
  | x :: r, y :: q => sameB x y && sameBs r q
  | [], _ :: _ => false
  | _ :: _, [] => false
end
mutual
theorem sameB_iff : ∀ (a b : Ltl), sameB a b = true ↔ a = b
  | .mk k n l, .mk k' n' l' => by
    simp only [sameB, Bool.and_eq_true, beq_iff_eq, sameBs_iff l l', Ltl.mk.injEq]
    exact and_assoc
theorem sameBs_iff : ∀ (a b : List Ltl), sameBs a b = true ↔ a = b
  | [], [] => by simp [sameBs]
  | x :: r, y :: q => by simp only [sameBs, Bool.and_eq_true, sameB_iff x y, sameBs_iff r q, List.cons.injEq]
  | [], _ :: _ => by simp [sameBs]
  | _ :: _, [] => by simp [sameBs]
end
theorem sameB_self (a : Ltl) : sameB a a = true := (sameB_iff a a).2 rfl

/- THE MEANING, KIND BY KIND -/
section
variable {L : Nat → Nat} {n : Int} {a b : Ltl} {i : Nat}
theorem sem1 : sem L (.mk 1 n []) i ↔ True := by simp [sem, sems, semK]
theorem sem2 : sem L (.mk 2 n []) i ↔ False := by simp [sem, sems, semK]
theorem sem3 : sem L (.mk 3 n []) i ↔ L i >>> n.toNat &&& 1 = 1 := by simp [sem, sems, semK]
theorem sem4 : sem L (.mk 4 n [a]) i ↔ ¬ sem L a i := by simp [sem, sems, semK]
theorem sem5 : sem L (.mk 5 n [a, b]) i ↔ sem L a i ∧ sem L b i := by simp [sem, sems, semK]
theorem sem6 : sem L (.mk 6 n [a, b]) i ↔ sem L a i ∨ sem L b i := by simp [sem, sems, semK]
theorem sem7 : sem L (.mk 7 n [a]) i ↔ sem L a (i + 1) := by simp [sem, sems, semK]
theorem sem8 : sem L (.mk 8 n [a, b]) i ↔ Til (sem L a) (sem L b) i := by simp [sem, sems, semK]
theorem sem9 : sem L (.mk 9 n [a, b]) i ↔ ¬ Til (fun j => ¬ sem L a j) (fun j => ¬ sem L b j) i := by simp [sem, sems, semK]
theorem sem10 : sem L (.mk 10 n [a]) i ↔ Til (fun _ => True) (sem L a) i := by simp [sem, sems, semK]
theorem sem11 : sem L (.mk 11 n [a]) i ↔ ¬ Til (fun _ => True) (fun j => ¬ sem L a j) i := by simp [sem, sems, semK]
end
theorem Til.congr {A B A' B' : Nat → Prop} (ha : ∀ j, A j ↔ A' j) (hb : ∀ j, B j ↔ B' j) (i : Nat) : Til A B i ↔ Til A' B' i :=
  Til.shift (fun _ => ha _) (fun _ => hb _)

/- NOTS -/
end Go.Proofs.YtllpfgcngokhnaaGreat

/-
  Package push, plain, second part: forms of what is pushed; plain; slim.
-/
set_option linter.unusedVariables false
set_option linter.unusedSimpArgs false
namespace Go.Proofs.YtllpfgcngokhnaaGreat
open Go.RowKit

/- FORMS -/
/- PLAIN -/
mutual
def plainL : Ltl → Ltl
  | .mk k n kids => if k = 10 then .mk 8 0 [.mk 1 0 [], (plainLs kids).getD 0 (.mk 0 0 [])] else if k = 11 then .mk 9 0 [.mk 2 0 [], (plainLs kids).getD 0 (.mk 0 0 [])] else .mk k n (plainLs kids)
def plainLs : List Ltl → List Ltl
  | [] => []
  | x :: r => plainL x :: plainLs r
end
theorem plainLs_map : ∀ l, plainLs l = l.map plainL
  | [] => rfl
  | x :: r => by simp [plainLs, plainLs_map r]
mutual
def hasB : Ltl → Int → Bool
  | .mk k _ kids, q => k == q || hasBs kids q
def hasBs : List Ltl → Int → Bool
  | [], _ => false
  | x :: r, q => hasB x q || hasBs r q
end
theorem plain_has : ∀ t, wfT t → hasB (plainL t) 10 = false ∧ hasB (plainL t) 11 = false := by
  refine wf_ind ?_ ?_ ?_ ?_ ?_
  · constructor <;> simp [plainL, plainLs, hasB, hasBs]
  · constructor <;> simp [plainL, plainLs, hasB, hasBs]
  · intro n _ _
    constructor <;> simp [plainL, plainLs, hasB, hasBs]
  · rintro k a (rfl | rfl | rfl | rfl) _ ⟨h1, h2⟩ <;> constructor <;> simp [plainL, plainLs, hasB, hasBs, h1, h2]
  · rintro k a b (rfl | rfl | rfl | rfl) _ _ ⟨h1, h2⟩ ⟨h3, h4⟩ <;> constructor <;> simp [plainL, plainLs, hasB, hasBs, h1, h2, h3, h4]
theorem plain_sem {L : Nat → Nat} : ∀ t, wfT t → ∀ i, sem L (plainL t) i ↔ sem L t i := by
  refine wf_ind ?_ ?_ ?_ ?_ ?_
  · intro i; simp [plainL, plainLs]
  · intro i; simp [plainL, plainLs]
  · intro n _ _ i; simp [plainL, plainLs]
  · rintro k a (rfl | rfl | rfl | rfl) _ h i
    · simp [plainL, plainLs, sem4, h]
    · simp [plainL, plainLs, sem7, h]
    · simp [plainL, plainLs, sem8, sem10]; exact Til.congr (fun _ => by simp [sem1]) h i
    · simp [plainL, plainLs, sem9, sem11]; exact not_congr (Til.congr (fun _ => by simp [sem2]) (fun j => not_congr (h j)) i)
  · rintro k a b (rfl | rfl | rfl | rfl) _ _ h1 h2 i
    · simp [plainL, plainLs, sem5, h1, h2]
    · simp [plainL, plainLs, sem6, h1, h2]
    · simp [plainL, plainLs, sem8]; exact Til.congr h1 h2 i
    · simp [plainL, plainLs, sem9]; exact not_congr (Til.congr (fun j => not_congr (h1 j)) (fun j => not_congr (h2 j)) i)

/- SLIM -/
section
variable {L : Nat → Nat}
theorem Til.tt {A : Nat → Prop} {i : Nat} (h : ∀ j, i ≤ j → A j) : Til (fun _ => True) A i := ⟨i, Nat.le_refl _, h i (Nat.le_refl _), fun _ _ _ => trivial⟩
theorem Til.here {A B : Nat → Prop} {i : Nat} (h : B i) : Til A B i := ⟨i, Nat.le_refl _, h, fun m h1 h2 => by omega⟩
theorem Til.self {A : Nat → Prop} {i : Nat} : Til A A i ↔ A i := by
  rw [Til.step]
  constructor
  · rintro (h | ⟨h, _⟩) <;> exact h
  · exact .inl
end
/- slim is right, no larger, no deeper -/
structure Slm (a t : Ltl) : Prop where
  wf : wfT a
  nodes : a.nodes ≤ t.nodes
  deep : a.deep ≤ t.deep
/- slim again is the same -/
end Go.Proofs.YtllpfgcngokhnaaGreat

