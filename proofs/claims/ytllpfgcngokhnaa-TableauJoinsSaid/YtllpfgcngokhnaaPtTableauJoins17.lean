import Derived.DeepKeys4
import Derived.Maps.Keyed
import Derived.Test.YtllpfgcngokhnaaPtTableauJoins16
/-
  Drawn regions with a turning point, at whose end two operations come in either order. Over any program.
-/
set_option linter.unusedVariables false
set_option linter.unusedSimpArgs false
namespace Go.Proofs.Ytllpfgcngokhnaa
open Go.RowKit

def ordPB (L : List Oper) (c : Nat) (B : Array Bool → Bool) : List (Nat × Nat) → Array Bool → Bool
  | [], listed => B listed
  | (i, k) :: r, listed => match k with
    | 0 => decide (Region.ready .any L.toArray listed = [i]) && ordPB L c B r (listed.setIfInBounds i true)
    | 1 => (Region.ready .any L.toArray listed).contains i && Region.free .any L.toArray listed i && decide (i ≠ c) && decide (i ≠ L.length) && ordPB L c B r (listed.setIfInBounds i true)
    | 2 => (Region.ready .any L.toArray listed).contains i && Region.free .any L.toArray listed i && decide (i ≠ c) && decide (i ≠ L.length) && behind L c i && ordPB L c B r (listed.setIfInBounds i true)
    | _ => false
theorem wpHP_soundB {P : Program} {L : List Oper} {c n0 : Nat} {Sw Ss : World → Prop} {Q Q' : Act → World → Prop} {Bc : Array Bool → Bool} (hs : Region.noSelect L.toArray = true)
    (hbase : ∀ (ph : Bool) (listed : Array Bool) (a : Act) (w : World), Bc listed = true → Cls L listed → listed.getD c false = ph → SG c L.length Sw Ss listed w → Q' a w → wpAnyG P L.toArray (fun e a w => e = .normal ∧ Q a w) (SG c L.length Sw Ss) n0 listed a w) :
    ∀ (ord : List (Nat × Nat)) (ph : Bool) (listed : Array Bool) (a : Act) (w : World), ordPB L c Bc ord listed = true → Cls L listed → (listed.getD c false = ph) → SG c L.length Sw Ss listed w → wpHP P L c L.length Sw Ss Q' ph ord a w →
      wpAnyG P L.toArray (fun e a w => e = .normal ∧ Q a w) (SG c L.length Sw Ss) (ord.length + n0) listed a w
  | [], ph, listed, a, w, hB, hC, hph, hS, h => by
    rw [List.length_nil, Nat.zero_add]
    exact hbase ph listed a w hB hC hph hS h
  | (i, 0) :: r, ph, listed, a, w, hB, hC, hph, hS, ⟨o, ho, h⟩ => by
    simp only [ordPB, Bool.and_eq_true, decide_eq_true_eq] at hB
    obtain ⟨hB1, hB2⟩ := hB
    have hin : i ∈ Region.ready .any L.toArray listed := by rw [hB1]; simp
    have hC' := hC.put hin
    have hil : i < L.length := (List.getElem?_eq_some_iff.1 ho).1
    have hph' : (listed.setIfInBounds i true).getD c false = (ph || Nat.beq i c) := by
      cases e : Nat.beq i c with
      | true =>
        obtain rfl := Nat.eq_of_beq_eq_true e
        have := hC.size
        simp [Array.getD_eq_getD_getElem?, show i < listed.size by omega]
      | false =>
        have hne : i ≠ c := fun h => by subst h; rw [Nat.beq_refl] at e; cases e
        rw [getD_setne hne, hph, Bool.or_false]
    rw [List.length_cons, Nat.add_right_comm]
    refine ⟨fun h0 => (by rw [h0] at hin; cases hin), fun j hj => ?_⟩
    rw [hB1, List.mem_singleton] at hj
    subst hj
    have ho' : L.toArray[j]? = some o := by simpa using ho
    unfold wpOp
    simp only [ho']
    split
    · rename_i hw
      rw [if_pos hw] at h
      refine .inl (wp_exits (fun x a w hne hf => absurd hf.1 hne) (Oper.wp_mono (fun a' w' h' => ⟨fun _ => ⟨h'.1, fun hx => h'.2.1 (hph' ▸ hx)⟩, wpHP_soundB hs hbase r _ _ _ _ hB2 hC' hph' (fun _ => ⟨h'.1, fun hx => h'.2.1 (hph' ▸ hx)⟩) h'.2.2⟩) h))
    · rename_i hw
      rw [if_neg hw] at h
      exact ⟨fun _ => ⟨h.1, fun hx => h.2.1 (hph' ▸ hx)⟩, wpHP_soundB hs hbase r _ _ _ _ hB2 hC' hph' (fun _ => ⟨h.1, fun hx => h.2.1 (hph' ▸ hx)⟩) h.2.2⟩
  | (i, 1) :: r, ph, listed, a, w, hB, hC, hph, hS, ⟨o, v, ho, hy, h⟩ => by
    simp only [ordPB, Bool.and_eq_true, decide_eq_true_eq] at hB
    obtain ⟨⟨⟨⟨h1, h2⟩, hne⟩, hne2⟩, h3⟩ := hB
    have hin : i ∈ Region.ready .any L.toArray listed := by simpa using h1
    have ho' : L.toArray[i]? = some o := by simpa using ho
    have hph' : (listed.setIfInBounds i true).getD c false = ph := by rw [getD_setne hne]; exact hph
    have hil : i < L.length := (List.getElem?_eq_some_iff.1 ho).1
    have hun : listed.getD i false = false := by
      have := (mem_ready.1 hin).1
      have hsz := hC.size
      rw [getD_tf (by omega)] at this
      simpa using this
    have hend : ∀ l : Array Bool, Cls L l → l.getD L.length false = false := fun l hl => by
      have := hl.size
      simp [Array.getD_eq_getD_getElem?, Array.getElem?_eq_none (show l.size ≤ L.length by omega)]
    rw [List.length_cons, Nat.add_right_comm]
    exact wpAnyG_first ho' (Region.noSelect_spec hs) (fun _ _ _ h => by cases h.1) (fun l => Cls L l ∧ l.getD i false = false) (fun l j hl hne3 hj => ⟨hl.1.put hj, by rw [getD_setne hne3]; exact hl.2⟩) (fun l w => SG_set hne hne2 l w) (r.length + n0) listed a w ⟨hC, hun⟩ (Region.free_spec ho' h2) hin
      (yif_wk hy fun w ⟨l, hl, hw⟩ => (hw (hend l hl.1)).1) hS (wpHP_soundB hs hbase r ph _ _ _ h3 (hC.put hin) hph' ((SG_set hne hne2 _ _).2 hS) h)
  | (i, 2) :: r, ph, listed, a, w, hB, hC, hph, hS, ⟨o, v, ho, hy, h⟩ => by
    simp only [ordPB, Bool.and_eq_true, decide_eq_true_eq] at hB
    obtain ⟨⟨⟨⟨⟨h1, h2⟩, hne⟩, hne2⟩, hmk⟩, h3⟩ := hB
    have hin : i ∈ Region.ready .any L.toArray listed := by simpa using h1
    have ho' : L.toArray[i]? = some o := by simpa using ho
    have hph' : (listed.setIfInBounds i true).getD c false = ph := by rw [getD_setne hne]; exact hph
    have hil : i < L.length := (List.getElem?_eq_some_iff.1 ho).1
    have hun : listed.getD i false = false := by
      have := (mem_ready.1 hin).1
      have hsz := hC.size
      rw [getD_tf (by omega)] at this
      simpa using this
    have hend : ∀ l : Array Bool, Cls L l → l.getD L.length false = false := fun l hl => by
      have := hl.size
      simp [Array.getD_eq_getD_getElem?, Array.getElem?_eq_none (show l.size ≤ L.length by omega)]
    rw [List.length_cons, Nat.add_right_comm]
    exact wpAnyG_first ho' (Region.noSelect_spec hs) (fun _ _ _ h => by cases h.1) (fun l => Cls L l ∧ l.getD i false = false) (fun l j hl hne3 hj => ⟨hl.1.put hj, by rw [getD_setne hne3]; exact hl.2⟩) (fun l w => SG_set hne hne2 l w) (r.length + n0) listed a w ⟨hC, hun⟩ (Region.free_spec ho' h2) hin
      (yif_wk hy fun w ⟨l, hl, hw⟩ => (hw (hend l hl.1)).2 (behind_sound hmk hl.1 hl.2)) hS (wpHP_soundB hs hbase r ph _ _ _ h3 (hC.put hin) hph' ((SG_set hne hne2 _ _).2 hS) h)
  | (i, k + 3) :: r, ph, listed, a, w, hB, hC, hph, hS, _ => by simp [ordPB] at hB

/- THE TWO AT THE END: i, and c -/
def op1 (P : Program) (ops : List Oper) (o : Oper) (a : Act) (w : World) (K : Act → World → Prop) : Prop :=
  if Region.wanted o (yielded ops.toArray a.tmps) = true then o.wp P a w K (fun e _ _ => e = .normal) else K (a.put o.dst undef) w
def pairB (L : List Oper) (i c : Nat) (listed : Array Bool) : Bool :=
  (decide (Region.ready .any L.toArray listed = [i, c]) || decide (Region.ready .any L.toArray listed = [c, i])) && decide (Region.ready .any L.toArray (listed.setIfInBounds i true) = [c]) && decide (Region.ready .any L.toArray (listed.setIfInBounds c true) = [i]) &&
    (Region.ready .any L.toArray ((listed.setIfInBounds i true).setIfInBounds c true)).isEmpty && (Region.ready .any L.toArray ((listed.setIfInBounds c true).setIfInBounds i true)).isEmpty && decide (i ≠ c)
def pairQ (P : Program) (L : List Oper) (i c : Nat) (Sw Ss : World → Prop) (Q : Act → World → Prop) (a : Act) (w : World) : Prop :=
  ∃ oi oc, L[i]? = some oi ∧ L[c]? = some oc ∧ op1 P L oi a w (fun a' w' => Sw w' ∧ Ss w' ∧ op1 P L oc a' w' (fun a'' w'' => Sw w'' ∧ Q a'' w'')) ∧ op1 P L oc a w (fun a' w' => Sw w' ∧ True ∧ op1 P L oi a' w' (fun a'' w'' => Sw w'' ∧ Q a'' w''))
theorem op1_wpOp {P : Program} {L : List Oper} {i : Nat} {o : Oper} {Q : Act → World → Prop} {K K' : Act → World → Prop} {a : Act} {w : World} (ho : L[i]? = some o) (h : op1 P L o a w K) (hk : ∀ a w, K a w → K' a w) : wpOp P L.toArray (fun e a w => e = .normal ∧ Q a w) i K' a w := by
  have ho' : L.toArray[i]? = some o := by simpa using ho
  unfold op1 at h
  unfold wpOp
  simp only [ho']
  split
  · rename_i hw
    rw [if_pos hw] at h
    exact .inl (wp_exits (fun x a w hne hf => absurd hf hne) (Oper.wp_mono hk h))
  · rename_i hw
    rw [if_neg hw] at h
    exact hk _ _ h
theorem pair_base {P : Program} {L : List Oper} {i c : Nat} {Sw Ss : World → Prop} {Q : Act → World → Prop} (listed : Array Bool) (a : Act) (w : World) (hB : pairB L i c listed = true) (hC : Cls L listed) (h : pairQ P L i c Sw Ss Q a w) :
    wpAnyG P L.toArray (fun e a w => e = .normal ∧ Q a w) (SG c L.length Sw Ss) 2 listed a w := by
  unfold pairB at hB
  simp only [Bool.and_eq_true, Bool.or_eq_true, decide_eq_true_eq, List.isEmpty_iff] at hB
  obtain ⟨⟨⟨⟨⟨h1, h2⟩, h3⟩, h4⟩, h5⟩, hne⟩ := hB
  obtain ⟨oi, oc, hoi, hoc, k1, k2⟩ := h
  have hic : i ∈ Region.ready .any L.toArray listed := by rcases h1 with h1 | h1 <;> rw [h1] <;> simp
  have hcc : c ∈ Region.ready .any L.toArray listed := by rcases h1 with h1 | h1 <;> rw [h1] <;> simp
  have hsz := hC.size
  have hcl : c < L.length := (List.getElem?_eq_some_iff.1 hoc).1
  have hset : (listed.setIfInBounds c true).getD c false = true := by simp [Array.getD_eq_getD_getElem?, show c < listed.size by omega]
  have last : ∀ (l : Array Bool) (j : Nat) (o : Oper) (a' : Act) (w' : World), L[j]? = some o → Region.ready .any L.toArray l = [j] → Region.ready .any L.toArray (l.setIfInBounds j true) = [] → (l.setIfInBounds j true).getD c false = true → op1 P L o a' w' (fun a'' w'' => Sw w'' ∧ Q a'' w'') →
      wpAnyG P L.toArray (fun e a w => e = .normal ∧ Q a w) (SG c L.length Sw Ss) 1 l a' w' := fun l j o a' w' ho hr hr2 hg ho1 => by
    refine ⟨fun h0 => (by rw [hr] at h0; cases h0), fun j' hj => ?_⟩
    rw [hr, List.mem_singleton] at hj
    subst hj
    exact op1_wpOp ho ho1 fun a'' w'' hq => ⟨fun _ => ⟨hq.1, fun hx => by rw [hg] at hx; cases hx⟩, hr2, rfl, hq.2⟩
  refine ⟨fun h0 => (by rw [h0] at hic; cases hic), fun j hj => ?_⟩
  have hj2 : j = i ∨ j = c := by rcases h1 with h1 | h1 <;> rw [h1] at hj <;> simp at hj <;> omega
  rcases hj2 with rfl | rfl
  · refine op1_wpOp hoi k1 fun a' w' hq => ⟨fun _ => ⟨hq.1, fun _ => hq.2.1⟩, last _ c oc a' w' hoc h2 h4 ?_ hq.2.2⟩
    simp [Array.getD_eq_getD_getElem?, show c < listed.size by omega]
  · refine op1_wpOp hoc k2 fun a' w' hq => ⟨fun _ => ⟨hq.1, fun hx => by rw [hset] at hx; cases hx⟩, last _ i oi a' w' hoi h3 h5 ?_ hq.2.2⟩
    rw [getD_setne hne]; exact hset
section
variable {P : Program} {Q : Exit → Act → World → Prop} {n : Nat} {σ : Sg} {w : World} {L : List Oper} {i c : Nat} {Sw Ss : World → Prop}
def PairQ (P : Program) (L : List Oper) (i c : Nat) (Sw Ss : World → Prop) (Q : Exit → Act → World → Prop) : Exit → Act → World → Prop := fun x a w => x = .normal ∧ pairQ P L i c Sw Ss (fun a w => Q .normal a w) a w
theorem CW.drawQ {id : Nat} (i c : Nat) (Sw Ss : World → Prop) (ord : List (Nat × Nat)) (hm : P.follows .mixedOrders = true) (hB : (Region.noSelect L.toArray && decide (ord.length + 2 = L.length) && ordPB L c (pairB L i c) ord (Array.replicate L.length false)) = true) (hw : Sw (drew w)) (hS : Ss (drew w))
    (h : HP P L c L.length Sw Ss (PairQ P L i c Sw Ss Q) false ord n σ (drew w)) : CW P (.region id L.toArray true) Q n σ w := by
  unfold CW; unfold HP at h; intro a ha
  simp only [Bool.and_eq_true, decide_eq_true_eq] at hB
  obtain ⟨⟨hs, hl⟩, hB⟩ := hB
  have h0 : ∀ k, (Array.replicate L.length false).getD k false = false := fun k => by
    simp [Array.getD_eq_getD_getElem?, Array.getElem?_replicate]; split <;> rfl
  have h1 := wpHP_soundB (n0 := 2) (Bc := pairB L i c) (Q := fun a w => Q .normal a w) hs (fun ph listed a w hb hc _ _ hq => pair_base listed a w hb hc hq.2) ord false (Array.replicate L.length false) a (Go.Proofs.Ytllpfgcngokhnaa.drew w) hB ⟨by simp, fun k o hk => by rw [h0 k] at hk; cases hk⟩ (h0 c) (fun _ => ⟨hw, fun _ => hS⟩) (h a ha)
  rw [hl] at h1
  have h2 : (Code.region id L.toArray true).wp P (fun x a w => x = .normal ∧ Q .normal a w) a w := wp_region_any hm (by simpa using wpAny_of_G _ _ _ _ h1)
  exact wp_mono h2 (fun x a' w' ⟨he, hq⟩ => by subst he; exact hq)
theorem op1_of {o : Oper} {K : Act → World → Prop} {a : Act} (h : wpList P L.toArray (fun x a w => x = .normal ∧ K a w) [o] a w) : op1 P L o a w K := by
  simp only [wpList] at h
  unfold op1
  split
  · rename_i hw
    rw [if_pos hw] at h
    rcases h with h2 | ⟨_, hl⟩
    · refine Oper.wp_mono (fun a' w' h' => h'.2) (wp_exits (fun x a w hne hf => absurd hf.1 hne) h2)
    · obtain ⟨_, _, hx⟩ := hl
      exact absurd hx.1 (by simp)
  · rename_i hw
    rw [if_neg hw] at h
    exact h.2
/-- the first of two, and then the second -/
def ThenQ (P : Program) (L : List Oper) (Sw S1 : World → Prop) (o : Oper) (Q : Exit → Act → World → Prop) : Exit → Act → World → Prop := fun x a w => x = .normal ∧ Sw w ∧ S1 w ∧ op1 P L o a w (fun a w => Sw w ∧ Q .normal a w)
def EndQ (Sw : World → Prop) (Q : Exit → Act → World → Prop) : Exit → Act → World → Prop := fun x a w => x = .normal ∧ Sw w ∧ Q .normal a w
theorem EX.pair {oi oc : Oper} (hi : nthO L i = some oi) (hc : nthO L c = some oc) (h1 : WL P L (ThenQ P L Sw Ss oc Q) [oi] n σ w) (h2 : WL P L (ThenQ P L Sw (fun _ => True) oi Q) [oc] n σ w) : EX (PairQ P L i c Sw Ss Q) .normal n σ w := by
  unfold EX; unfold WL at h1 h2
  intro a ha
  rw [nthO_eq] at hi hc
  exact ⟨rfl, oi, oc, hi, hc, op1_of (h1 a ha), op1_of (h2 a ha)⟩
theorem EX.then2 {S1 : World → Prop} {o : Oper} (hw : Sw w) (hs : S1 w) (h : WL P L (EndQ Sw Q) [o] n σ w) : EX (ThenQ P L Sw S1 o Q) .normal n σ w := by
  unfold EX; unfold WL at h
  exact fun a ha => ⟨rfl, hw, hs, op1_of (h a ha)⟩
theorem EX.end2 (hw : Sw w) (h : EX Q .normal n σ w) : EX (EndQ Sw Q) .normal n σ w := by
  unfold EX at *
  exact fun a ha => ⟨rfl, hw, h a ha⟩
/-- append(x, y), ahead of the turning point -/
theorem HP.app1f {α : Type} [Rep α] {x0 : α} {bytes : Nat} {F : Nat → Prop} {e i i1 d d1 : Nat} {ty ty1 : TypeId} {pos pos1 : String} {af af1 : Array Edge} {g g1 : Option (Nat × Bool)} {t et : TypeId} {x y : Operand} {rest : List (Nat × Nat)} {v u : Value} {xs : List α} {yv : α} {B : Nat} {wc : World}
    (ho1 : nthO L i1 = some ⟨some d1, .buildSlice t 1 [(0, y)].toArray, ty1, pos1, af1, g1⟩) (ho : nthO L i = some ⟨some d, .call ⟨.builtin .append, #[x, .tmp d1], #[t, t]⟩, ty, pos, af, g⟩)
    (hn1 : Nat.beq i1 c = false) (hn2 : Nat.beq i c = false)
    (hg1 : gd L σ ⟨some d1, .buildSlice t 1 [(0, y)].toArray, ty1, pos1, af1, g1⟩ = some true) (hd1 : Nat.ble (d1 + 1) n = true)
    (hg : ∀ u, gd L ((d1, .slice u 1 1) :: σ) ⟨some d, .call ⟨.builtin .append, #[x, .tmp d1], #[t, t]⟩, ty, pos, af, g⟩ = some true) (hd : Nat.ble (d + 1) n = true)
    (hy : ev σ y = some u) (hx : ∀ u, ev ((d1, .slice u 1 1) :: σ) x = some v) [hs : IsS P t et] [ht : IsT P et α] [hz : IsZ P et x0 bytes] (hown : Own wc B et F v xs) (hu : Rd wc F u yv) (hB : B ≤ wc.heap.size) (hF : ∀ b, F b → b < wc.heap.size)
    (hsz : sz α ≤ 16777216) (hm : xs.length + 1 ≤ maxLen) (hb : (xs.length + 1) * bytes ≤ 140737488355328) (hS : ∀ w', wc.grownBy w' v.ownBlock → Sw w' ∧ Ss w')
    (h : ∀ v' w' p, Own w' B et F v' (xs ++ [yv]) → wc.grownBy w' v.ownBlock → (∀ g, v'.ownBlock = some g → v.ownBlock = some g ∨ wc.heap.size ≤ g) → HP P L c e Sw Ss Q false rest n ((d, v') :: (d1, .slice p 1 1) :: σ) w') :
    HP P L c e Sw Ss Q false ((i1, 0) :: (i, 0) :: rest) n σ wc := by
  refine HP.mut ho1 ?_
  rw [hn1]
  refine WL.lit (vs := [u]) (ys := [yv]) hg1 hd1 rfl (by simp [sndL, evs, hy]) rfl ⟨hu, trivial⟩ (by simpa using hsz) hF (fun w1 ho1 hgr1 => ?_)
  have hsize : wc.heap.size ≤ w1.heap.size := hgr1.size
  have hkeep : Own w1 B et F v xs := hown.kept hgr1 (fun _ _ h => by cases h) fun b hb => ⟨hF b hb, fun h => by cases h⟩
  have g2 : wc.grownBy w1 v.ownBlock := ⟨hgr1.os, hgr1.tape, hgr1.output, hgr1.size, fun k hk _ => hgr1.block k hk (fun h => by cases h)⟩
  refine WL.nil (EX.mutP (ph := false || false) (hS _ g2).1 (fun _ => (hS _ g2).2) ?_)
  refine HP.mut ho ?_
  rw [hn2]
  refine WL.app (ys := [yv]) (hg _) hd (hx _) fnd_cons_eq hkeep ho1.src (Nat.le_trans hB hsize) (fun b hb => Nat.lt_of_lt_of_le (hF b hb) hsize) (by simpa using hm) (by simpa using hb) (fun v' w' ho' hgr hnb => ?_)
  have g3 : wc.grownBy w' v.ownBlock := ⟨hgr.os.trans hgr1.os, hgr.tape.trans hgr1.tape, hgr.output.trans hgr1.output, Nat.le_trans hsize hgr.size, fun k hk hne => (hgr.block k (Nat.lt_of_lt_of_le hk hsize) hne).trans (hgr1.block k hk (fun h => by cases h))⟩
  exact WL.nil (EX.mutP (ph := false || false || false) (hS _ g3).1 (fun _ => (hS _ g3).2) (h v' w' _ ho' g3 (fun g hg => (hnb g hg).imp id (fun h => Nat.le_trans hsize h))))
end
end Go.Proofs.Ytllpfgcngokhnaa
/-
  Lists of lists that grow: the outer row is owned, the inner ones stay as they are. Over any program.
-/
set_option linter.unusedVariables false
set_option linter.unusedSimpArgs false
namespace Go.Proofs.Ytllpfgcngokhnaa
open Go.RowKit

/-- what nobody changes: all but the blocks of M -/
def Fz (w : World) (M : Nat → Prop) : Nat → Prop := fun b => b < w.heap.size ∧ ¬ M b
section
variable {α : Type} [Rep α]
theorem Fz.keep {w w' : World} {M M' : Nat → Prop} (hC : Chg M w w') (hM : ∀ b, M' b → M b ∨ w.heap.size ≤ b) : (∀ b, Fz w M b → w'.heap[b]? = w.heap[b]?) ∧ ∀ b, Fz w M b → Fz w' M' b :=
  ⟨fun b hb => hC.block b hb.1 hb.2, fun b hb => ⟨Nat.lt_of_lt_of_le hb.1 hC.size, fun h => (hM b h).elim hb.2 (fun h => absurd hb.1 (by omega))⟩⟩
theorem Rd.fz {w w' : World} {M M' : Nat → Prop} {v : Value} {x : α} (h : Rd w (Fz w M) v x) (hC : Chg M w w') (hM : ∀ b, M' b → M b ∨ w.heap.size ≤ b) : Rd w' (Fz w' M') v x := h.mono (Fz.keep hC hM).1 (Fz.keep hC hM).2
theorem Sl.fz {w w' : World} {M M' : Nat → Prop} {ao : Option Addr} {cap : Nat} {xs : List α} (h : Sl w (Fz w M) ao cap xs) (hC : Chg M w w') (hM : ∀ b, M' b → M b ∨ w.heap.size ≤ b) : Sl w' (Fz w' M') ao cap xs := h.mono (Fz.keep hC hM).1 (Fz.keep hC hM).2
theorem Rd.old' {w : World} {M : Nat → Prop} {v : Value} {x : α} (h : Rd w (Fz w M) v x) : Rd w (Old w) v x := h.mono (fun _ _ => rfl) fun _ h => h.1
theorem Sl.old' {w : World} {M : Nat → Prop} {ao : Option Addr} {cap : Nat} {xs : List α} (h : Sl w (Fz w M) ao cap xs) : Sl w (Old w) ao cap xs := h.mono (fun _ _ => rfl) fun _ h => h.1
theorem Sl.toFz {w : World} {F M : Nat → Prop} {ao : Option Addr} {cap : Nat} {xs : List α} (h : Sl w F ao cap xs) (hF : ∀ b, F b → b < w.heap.size ∧ ¬ M b) : Sl w (Fz w M) ao cap xs := h.mono (fun _ _ => rfl) hF
theorem Chg.of_ext {w w' : World} (M : Nat → Prop) (h : Ext w w') : Chg M w w' := ⟨h.os, h.tape, h.output, h.size, fun k hk _ => h.block k hk⟩
theorem Chg.trans {M : Nat → Prop} {a b c : World} (h : Chg M a b) (k : Chg M b c) : Chg M a c :=
  ⟨k.os.trans h.os, k.tape.trans h.tape, k.output.trans h.output, Nat.le_trans h.size k.size, fun i hi hn => (k.block i (Nat.lt_of_lt_of_le hi h.size) hn).trans (h.block i hi hn)⟩
/-- .. where the second changes new blocks too -/
theorem Chg.then {M M' : Nat → Prop} {a b c : World} (h : Chg M a b) (k : Chg M' b c) (hM : ∀ i, M' i → M i ∨ a.heap.size ≤ i) : Chg M a c :=
  ⟨k.os.trans h.os, k.tape.trans h.tape, k.output.trans h.output, Nat.le_trans h.size k.size, fun i hi hn => (k.block i (Nat.lt_of_lt_of_le hi h.size) (fun hm => (hM i hm).elim hn (by omega))).trans (h.block i hi hn)⟩
theorem Chg.wk {M M' : Nat → Prop} {a b : World} (h : Chg M a b) (hM : ∀ i, M i → M' i) : Chg M' a b := ⟨h.os, h.tape, h.output, h.size, fun i hi hn => h.block i hi (fun hm => hn (hM i hm))⟩
theorem Chg.of_grown {w w' : World} {row : Option Nat} (hg : w.grownBy w' row) : Chg (fun b => row = some b) w w' := (Chg.refl _ w).grown hg fun g h => h
/-- inner rows, read -/
structure InnR (w : World) (M : Nat → Prop) (vs : List Raw) (xs : List (List α)) : Prop where
  len : vs.length = xs.length
  el : ∀ i (h : i < vs.length) (h' : i < xs.length), Rd w (Fz w M) vs[i].v xs[i]
theorem InnR.nil {w : World} {M : Nat → Prop} : InnR w M [] ([] : List (List α)) := ⟨rfl, fun i h => absurd h (by simp)⟩
theorem InnR.to {w w' : World} {M M' : Nat → Prop} {vs : List Raw} {xs : List (List α)} (h : InnR w M vs xs) (hC : Chg M w w') (hM : ∀ b, M' b → M b ∨ w.heap.size ≤ b) : InnR w' M' vs xs := ⟨h.len, fun i h1 h2 => (h.el i h1 h2).fz hC hM⟩
theorem InnR.push {w : World} {M : Nat → Prop} {vs : List Raw} {xs : List (List α)} {v : Value} {x : List α} (h : InnR w M vs xs) (hv : Rd w (Fz w M) v x) : InnR w M (vs ++ [(⟨v⟩ : Raw)]) (xs ++ [x]) := by
  refine ⟨by simp [h.len], fun i h1 h2 => ?_⟩
  rcases Nat.lt_or_ge i vs.length with hi | hi
  · rw [List.getElem_append_left hi, List.getElem_append_left (by rw [← h.len]; exact hi)]
    exact h.el i hi _
  · have hl := h.len
    obtain rfl : i = vs.length := by simp at h1; omega
    rw [List.getElem_append_right (Nat.le_refl _), List.getElem_append_right (by omega)]
    simp only [hl, Nat.sub_self, List.getElem_cons_zero]
    exact hv
/-- the whole, read -/
theorem InnR.sl {w : World} {M F : Nat → Prop} {B : Nat} {e : TypeId} {v : Value} {vs : List Raw} {xs : List (List α)} (h : InnR w M vs xs) (ho : Own w B e Non v vs) (hF : ∀ b, Fz w M b → F b) (hv : ∀ g, v.ownBlock = some g → F g) : ∃ ao cap, v = .slice ao xs.length cap ∧ Sl w F ao cap xs := by
  obtain ⟨ao, cap, e, hs⟩ := ho.slF (F' := F) (fun _ h => h.elim) hv
  refine ⟨ao, cap, by rw [← h.len]; exact e, ⟨by rw [← h.len]; exact hs.le, hs.mx, hs.nil, fun i hi => ?_⟩⟩
  have hi' : i < vs.length := by rw [h.len]; exact hi
  obtain ⟨b, off, e1, hF1, es, hc, hr⟩ := hs.el i hi'
  obtain ⟨rfl, h1⟩ := hr
  obtain ⟨io, ic, e2, hs2⟩ := (h.el i hi' hi).sl
  exact ⟨b, off, e1, hF1, [vs[i].v], hc, io, ic, by rw [e2], hs2.mono (fun _ _ => rfl) hF⟩
theorem InnR.old {w : World} {M : Nat → Prop} {B : Nat} {e : TypeId} {v : Value} {vs : List Raw} {xs : List (List α)} (h : InnR w M vs xs) (ho : Own w B e Non v vs) : ∃ ao cap, v = .slice ao xs.length cap ∧ Sl w (Old w) ao cap xs :=
  h.sl ho (fun _ h => h.1) (fun g hg => (ho.lt g hg).2.1)
end
end Go.Proofs.Ytllpfgcngokhnaa
/-
  Maps from a key to its number, made by the call: the keys as a list, in the order in which they came. Over any program.
-/
set_option linter.unusedVariables false
set_option linter.unusedSimpArgs false
namespace Go.Proofs.Ytllpfgcngokhnaa
open Go.RowKit

/-- a map type, its key's type and its element's type -/
class IsM (P : Program) (t : TypeId) (k e : outParam TypeId) : Prop where
  ok : P.underlying t = some (.map k e)
/-- keys of which the model's order is whole -/
class IsKy (P : Program) (k : TypeId) : Prop where
  ok : WideMaps.KeyLaw P k
theorem IsKy.of {P : Program} {k : TypeId} {d : TypeDesc} (hl : laidOutB P = true) {m : Nat} (hm : Nat.ble (m + 1) 10000 = true) (hrow : Nat.ble (k + 1) P.types.size = true) (hk : P.keyTypeAt m k = true) (hu : P.underlying k = some d) (hd : aggD d = true) : IsKy P k :=
  ⟨deep_law_laid hl (Nat.le_of_ble_eq_true hm) (Nat.lt_of_succ_le (Nat.le_of_ble_eq_true hrow)) hk (by
    rw [hu]; cases d <;> first | rfl | (cases hd))⟩
/-- a type whose zero value is the number 0 -/
class IsZ0 (P : Program) (e : TypeId) : Prop where
  ok : (P.info? e).map (fun i => i.zero) = some (some (.int .i64 0))
/-- v is a key of type k -/
def KeyV (P : Program) (k : TypeId) (v : Value) : Prop := ∃ l, keyOf P k v = some l
/-- block b is a map that holds the keys ks, each with its number -/
def NumM (P : Program) (k : TypeId) (w : World) (b : Nat) (ks : List Value) : Prop :=
  ∃ (es : Array MapEntry) (clock : Nat), w.heap[b]? = some (.map es clock) ∧ es.toList.map (·.key) = ks ∧ (∀ (i : Nat) (e : MapEntry), es.toList[i]? = some e → e.val = .int .i64 (i : Int)) ∧ (∀ x ∈ ks, KeyV P k x) ∧ ks.Nodup
section
variable {P : Program} {k : TypeId} {w w' : World} {b : Nat} {ks : List Value}
theorem NumM.lt (h : NumM P k w b ks) : b < w.heap.size := by
  obtain ⟨es, clock, hb, _⟩ := h
  exact (Array.getElem?_eq_some_iff.1 hb).1
theorem NumM.at (h : NumM P k w b ks) (hb : w'.heap[b]? = w.heap[b]?) : NumM P k w' b ks := by
  obtain ⟨es, clock, h1, h2⟩ := h
  exact ⟨es, clock, hb.trans h1, h2⟩
theorem NumM.ext (h : NumM P k w b ks) (hE : Ext w w') : NumM P k w' b ks := h.at (hE.block b h.lt)
theorem NumM.kept {row : Option Nat} (h : NumM P k w b ks) (hg : w.grownBy w' row) (hne : some b ≠ row) : NumM P k w' b ks := h.at (hg.block b h.lt hne)
theorem NumM.made (w : World) : NumM P k (w.alloc (.map #[] 0)) w.heap.size [] :=
  ⟨#[], 0, heap_alloc_new w _, rfl, fun i e h => by simp at h, fun x h => by simp at h, List.Pairwise.nil⟩
theorem run_num {t e : TypeId} {x : Value} [ht : IsM P t k e] [hk : IsKy P k] [hz : IsZ0 P e] (h : NumM P k w b ks) (hx : KeyV P k x) :
    (x ∉ ks ∧ (Instr.lookup t (.map (some b)) x true).run P w = .ok (.tuple #[.int .i64 0, .bool false]) w) ∨
    ∃ (j : Nat) (hj : j < ks.length), ks[j] = x ∧ (Instr.lookup t (.map (some b)) x true).run P w = .ok (.tuple #[.int .i64 (j : Int), .bool true]) w := by
  obtain ⟨es, clock, hb, hes, hv, hks, hnd⟩ := h
  obtain ⟨l, hx⟩ := hx
  obtain ⟨i, h1, h2⟩ := Option.map_eq_some_iff.1 hz.ok
  have hzr : (zeroValue e).run P w = .ok (.int .i64 0) w := by simp [zeroValue, typeInfo, h1, h2]
  have hkeys : ∀ e ∈ es.toList, ∃ l, keyOf P k e.key = some l := fun e he => hks _ (hes ▸ List.mem_map.2 ⟨e, he, rfl⟩)
  rcases hk.ok.find w hx es.toList hkeys with ⟨g1, g2⟩ | ⟨j, e0, g1, g2, g3⟩
  · refine .inl ⟨fun hm => ?_, by simp [Instr.lookup, run_underlying ht.ok, MapKept.run_getObj_map hb, hk.ok.check w _ hx, g1, hzr, Result.andThen]⟩
    rw [← hes] at hm
    obtain ⟨e, he, hke⟩ := List.mem_map.1 hm
    exact g2 e he hke
  · have hj : j < ks.length := by rw [← hes, List.length_map]; exact (List.getElem?_eq_some_iff.1 g2).1
    refine .inr ⟨j, hj, ?_, ?_⟩
    · subst hes
      rw [List.getElem_map, ← g3]
      congr 1
      exact (List.getElem?_eq_some_iff.1 g2).2
    · have hval := hv j e0 g2
      simp [Instr.lookup, run_underlying ht.ok, MapKept.run_getObj_map hb, hk.ok.check w _ hx, g1, Result.andThen, hval]
theorem run_numPut {t e : TypeId} {x : Value} [ht : IsM P t k e] [hk : IsKy P k] (h : NumM P k w b ks) (hx : KeyV P k x) (hn : x ∉ ks) :
    ∃ w', (Instr.mapUpdate t (.map (some b)) x (.int .i64 (ks.length : Int))).run P w = .ok () w' ∧ NumM P k w' b (ks ++ [x]) ∧ w.grownBy w' (some b) := by
  obtain ⟨es, clock, hb, hes, hv, hks, hnd⟩ := h
  obtain ⟨l, hx'⟩ := hx
  have hkeys : ∀ e ∈ es.toList, ∃ l, keyOf P k e.key = some l := fun e he => hks _ (hes ▸ List.mem_map.2 ⟨e, he, rfl⟩)
  have hsz : es.toList.length = ks.length := by rw [← hes, List.length_map]
  have hlt := (Array.getElem?_eq_some_iff.1 hb).1
  rcases hk.ok.find w hx' es.toList hkeys with ⟨g1, g2⟩ | ⟨j, e0, g1, g2, g3⟩
  · refine ⟨_, by simp [Instr.mapUpdate, run_underlying ht.ok, MapKept.run_getObj_map hb, hk.ok.check w false hx', g1, MapKept.run_setObj_map _ hb, Result.andThen]; rfl, ?_, ?_⟩
    · refine ⟨es.push ⟨x, .int .i64 (ks.length : Int), clock⟩, clock + 1, by simp [hlt], by simp [hes], fun i e he => ?_, fun y hy => ?_, ?_⟩
      · rw [Array.toList_push] at he
        rcases Nat.lt_or_ge i es.toList.length with hi | hi
        · rw [List.getElem?_append_left hi] at he
          exact hv i e he
        · rw [List.getElem?_append_right hi] at he
          have h0 : i - es.toList.length = 0 := by
            have := (List.getElem?_eq_some_iff.1 he).1
            simp at this; omega
          rw [h0] at he
          simp at he
          subst he
          show Value.int .i64 (ks.length : Int) = _
          congr 1; omega
      · rcases List.mem_append.1 hy with hy | hy
        · exact hks y hy
        · rw [List.mem_singleton] at hy; subst hy; exact ⟨l, hx'⟩
      · rw [List.nodup_append]
        refine ⟨hnd, by simp, fun a ha c hc e => ?_⟩
        rw [List.mem_singleton] at hc
        subst hc; subst e; exact hn ha
    · exact ⟨rfl, rfl, rfl, by simp, fun i _ hi => by
        simp only [Array.getElem?_setIfInBounds]
        rw [if_neg (fun e => hi (by rw [e]))]⟩
  · exact absurd (hes ▸ List.mem_map.2 ⟨e0, List.mem_of_getElem? g2, g3⟩) hn
end

section
variable {P : Program} {Q : Exit → Act → World → Prop} {n : Nat} {σ : Sg} {w : World} {L rest : List Oper} {d : Nat} {ty : TypeId} {pos : String} {af : Array Edge} {g : Option (Nat × Bool)} {t k e : TypeId} {b : Nat} {ks : List Value} {x y z : Operand} {v : Value}
/-- v, ok := m[x] -/
theorem WL.num (hg : gd L σ ⟨some d, .lookup t x y true, ty, pos, af, g⟩ = some true) (hd : Nat.ble (d + 1) n = true) (hx : ev σ x = some (.map (some b))) (hy : ev σ y = some v) [ht : IsM P t k e] [hk : IsKy P k] [hz : IsZ0 P e]
    (h : NumM P k w b ks) (hv : KeyV P k v)
    (h1 : v ∉ ks → WL P L Q rest n ((d, .tuple ⟨[.int .i64 0, .bool false]⟩) :: σ) w)
    (h2 : ∀ (j : Nat) (hj : j < ks.length), ks[j] = v → WL P L Q rest n ((d, .tuple ⟨[.int .i64 (j : Int), .bool true]⟩) :: σ) w) :
    WL P L Q (⟨some d, .lookup t x y true, ty, pos, af, g⟩ :: rest) n σ w := by
  rcases run_num (t := t) h hv with ⟨g1, g2⟩ | ⟨j, hj, g1, g2⟩
  · refine WL.run hg hd (fun a ha => ?_) (h1 g1)
    simp [execOp, ha.ev hx, ha.ev hy, g2]
  · refine WL.run hg hd (fun a ha => ?_) (h2 j hj g1)
    simp [execOp, ha.ev hx, ha.ev hy, g2]
/-- m[x] = len(m), at a new key -/
theorem WL.numPut (hg : gd L σ ⟨none, .mapUpdate t x y z, ty, pos, af, g⟩ = some true) (hx : ev σ x = some (.map (some b))) (hy : ev σ y = some v) (hzv : ev σ z = some (.int .i64 (ks.length : Int))) [ht : IsM P t k e] [hk : IsKy P k]
    (h : NumM P k w b ks) (hv : KeyV P k v) (hn : v ∉ ks)
    (hr : ∀ w', NumM P k w' b (ks ++ [v]) → w.grownBy w' (some b) → WL P L Q rest n σ w') :
    WL P L Q (⟨none, .mapUpdate t x y z, ty, pos, af, g⟩ :: rest) n σ w := by
  obtain ⟨w', g1, g2, g3⟩ := run_numPut (t := t) h hv hn
  refine WL.runU hg (fun a ha => ?_) (hr w' g2 g3)
  simp [execOp, ha.ev hx, ha.ev hy, ha.ev hzv, g1]
/-- make(map[K]int) -/
theorem WL.mkMap (hg : gd L σ ⟨some d, .makeMap t none, ty, pos, af, g⟩ = some true) (hd : Nat.ble (d + 1) n = true)
    (h : NumM P k (w.alloc (.map #[] 0)) w.heap.size [] → WL P L Q rest n ((d, .map (some w.heap.size)) :: σ) (w.alloc (.map #[] 0))) :
    WL P L Q (⟨some d, .makeMap t none, ty, pos, af, g⟩ :: rest) n σ w := by
  refine WL.run hg hd (fun a ha => ?_) (h (NumM.made w))
  simp [execOp, Instr.makeMap]
end
/-- a key that is a pair of numbers -/
theorem KeyV.pair {P : Program} {k fa fb : TypeId} {x y : Int} (h : (P.keyType k && Value.formed P k (.agg #[.int .i64 0, .int .i64 0])) = true)
    (hk : ∀ a b : Int, P.keyLits (P.types.size + 1) k [.int .i64 a, .int .i64 b] = (if (Lit.int .i64 a).wf = true ∧ (Lit.int .i64 b).wf = true then some [.int .i64 a, .int .i64 b] else none))
    (hd : ∃ d, P.underlying k = some (.struct d)) (hx : (Lit.int .i64 x).wf = true) (hy : (Lit.int .i64 y).wf = true) : KeyV P k (.agg ⟨[.int .i64 x, .int .i64 y]⟩) := by
  obtain ⟨d, hd⟩ := hd
  refine ⟨.string (keyBytes [.int .i64 x, .int .i64 y]), ?_⟩
  unfold keyOf
  rw [hd]
  dsimp only
  have hf : Value.formed P k (.agg ⟨[.int .i64 x, .int .i64 y]⟩) = Value.formed P k (.agg #[.int .i64 0, .int .i64 0]) := by
    unfold Value.formed
    rw [hd]; rfl
  rw [hf, if_pos h]
  show Option.map _ (P.keyLits (P.types.size + 1) k [.int .i64 x, .int .i64 y]) = _
  rw [hk, if_pos ⟨hx, hy⟩]
  rfl
end Go.Proofs.Ytllpfgcngokhnaa
/-
  Maps in drawn regions that only read.
-/
set_option linter.unusedVariables false
set_option linter.unusedSimpArgs false
namespace Go.Proofs.Ytllpfgcngokhnaa
open Go.RowKit

theorem nodup_get {α : Type} {l : List α} (h : l.Nodup) {i j : Nat} (hi : i < l.length) (hj : j < l.length) (e : l[i] = l[j]) : i = j := by
  have h := List.pairwise_iff_getElem.1 h
  rcases Nat.lt_trichotomy i j with hlt | he | hlt
  · exact absurd e (h i j hi hj hlt)
  · exact he
  · exact absurd e.symm (h j i hj hi hlt)
section
variable {P : Program} {Q : Exit → Act → World → Prop} {n : Nat} {σ : Sg} {w : World} {L rest : List Oper} {d : Nat} {ty : TypeId} {pos : String} {af : Array Edge} {g : Option (Nat × Bool)} {t k e : TypeId} {b : Nat} {ks : List Value} {x y z : Operand} {v : Value}
theorem QL.numNo (hg : gd L σ ⟨some d, .lookup t x y true, ty, pos, af, g⟩ = some true) (hd : Nat.ble (d + 1) n = true) (hx : ev σ x = some (.map (some b))) (hy : ev σ y = some v) [ht : IsM P t k e] [hk : IsKy P k] [hz : IsZ0 P e]
    (h : NumM P k w b ks) (hv : KeyV P k v) (hn : v ∉ ks) (hr : QL P L w Q rest n ((d, .tuple ⟨[.int .i64 0, .bool false]⟩) :: σ)) : QL P L w Q (⟨some d, .lookup t x y true, ty, pos, af, g⟩ :: rest) n σ := by
  refine QL.run hg hd (fun a ha w' hw' => ?_) hr
  rcases run_num (t := t) (h.ext hw') hv with ⟨_, g2⟩ | ⟨j, hj, g1, g2⟩
  · simp [execOp, ha.ev hx, ha.ev hy, g2]
  · exact absurd (g1 ▸ List.getElem_mem hj) hn
theorem QL.numYes {j : Nat} (hj : j < ks.length) (hjv : ks[j] = v) (hg : gd L σ ⟨some d, .lookup t x y true, ty, pos, af, g⟩ = some true) (hd : Nat.ble (d + 1) n = true) (hx : ev σ x = some (.map (some b))) (hy : ev σ y = some v) [ht : IsM P t k e] [hk : IsKy P k] [hz : IsZ0 P e]
    (h : NumM P k w b ks) (hv : KeyV P k v) (hr : QL P L w Q rest n ((d, .tuple ⟨[.int .i64 (j : Int), .bool true]⟩) :: σ)) : QL P L w Q (⟨some d, .lookup t x y true, ty, pos, af, g⟩ :: rest) n σ := by
  refine QL.run hg hd (fun a ha w' hw' => ?_) hr
  rcases run_num (t := t) (h.ext hw') hv with ⟨g1, _⟩ | ⟨i, hi, g1, g2⟩
  · exact absurd (hjv ▸ List.getElem_mem hj) g1
  · obtain ⟨_, _, _, _, _, _, hnd⟩ := h
    obtain rfl : i = j := nodup_get hnd hi hj (g1.trans hjv.symm)
    simp [execOp, ha.ev hx, ha.ev hy, g2]
end
theorem HL.ldAQ {P : Program} {Q : Exit → Act → World → Prop} {n : Nat} {σ : Sg} {w wc : World} {L : List Oper} {S : World → Prop} {ord : List (Nat × Bool)} {i d : Nat} {ty : TypeId} {pos : String} {af : Array Edge} {g : Option (Nat × Bool)} {t e : TypeId} {x : Operand} {b o k : Nat} {cells vs : List Value}
    (hK : ∀ w1, S w1 → w1.heap[b]? = w.heap[b]?) (ho : nthO L i = some ⟨some d, .load t x, ty, pos, af, g⟩) (hg : gd L σ ⟨some d, .load t x, ty, pos, af, g⟩ = some true) (hd : Nat.ble (d + 1) n = true) (hx : ev σ x = some (.pointer (some ⟨b, o, none⟩))) [hc : IsC P t k true] (hb : Blk w b e cells) (hv : segL cells o k = some vs)
    (h : HL P L S Q ord n ((d, .agg vs.toArray) :: σ) wc) : HL P L S Q ((i, true) :: ord) n σ wc := by
  refine HL.run ho hg hd (fun a ha w' hsw => ?_) h
  have hb' : Blk w' b e cells := (hK w' hsw).trans hb
  simp [execOp, ha.ev hx, run_ldA (P := P) (t := t) w' hb' hv]
end Go.Proofs.Ytllpfgcngokhnaa
/-
  Package tableau: gather: walked.
-/
set_option linter.unusedVariables false
set_option linter.unusedSimpArgs false
namespace Go.Proofs.Ytllpfgcngokhnaa
open Go.RowKit

section
variable {P : Program} {Q : Exit → Act → World → Prop} {n : Nat} {σ : Sg} {w : World} {L rest : List Oper} {α : Type} [Rep α] {F : Nat → Prop} {e : TypeId} {ty : TypeId} {pos : String} {af : Array Edge} {g : Option (Nat × Bool)}
/-- an element of an owned row, stored by its address -/
theorem WL.stO {x y : Operand} {u : Value} {B b off cap : Nat} {xs : List α} {yv : α} {i : Nat} (hg : gd L σ ⟨none, .store e x y, ty, pos, af, g⟩ = some true)
    (hx : ev σ x = some (.pointer (some ⟨b, off + i * sz α, none⟩))) (hy : ev σ y = some u) [ht : IsT P e α] (hown : Own w B e F (.slice (some ⟨b, off, none⟩) xs.length cap) xs) (h1 : i < xs.length) (hu : Rd w F u yv)
    (h : ∀ w', Own w' B e F (.slice (some ⟨b, off, none⟩) xs.length cap) (xs.set i yv) → w.grownBy w' (some b) → WL P L Q rest n σ w') : WL P L Q (⟨none, .store e x y, ty, pos, af, g⟩ :: rest) n σ w := by
  rcases hown with ⟨hv, hx0⟩ | ⟨b', off', cap', cur, hv, ho⟩
  · subst hx0; simp at h1
  · obtain ⟨hv1, _, hv2⟩ := Value.slice.inj hv
    cases hv1; subst hv2
    obtain ⟨w', hr, ho', hgr⟩ := run_set (P := P) (v := u) (i := i) ho h1 hu
    refine WL.runU hg (fun a ha => ?_) (h w' ho' hgr)
    have e1 := ha.ev hx
    have e2 := ha.ev hy
    simp [execOp, e1, e2, Instr.storeAt, Instr.sureAddr, hr]
end
theorem gaE_len0 (k n : Int) (t : Ltl) (m : Mk2) : (gaN k n t m).1.length + (gaN k n t m).2.length ≤ m.1.length + m.2.length + 1 := by
  unfold gaN
  split
  · dsimp only; split <;> simp; omega
  · split
    · dsimp only; split <;> simp; omega
    · omega
mutual
theorem gaE_len : ∀ (t : Ltl) (m : Mk2), (gaE t m).1.length + (gaE t m).2.length ≤ m.1.length + m.2.length + t.nodes
  | .mk k n kids, m => by
    simp only [gaE, Ltl.nodes]
    have h1 := gaE_len0 k n (.mk k n kids) m
    have h2 := gaEs_len kids (gaN k n (.mk k n kids) m)
    omega
theorem gaEs_len : ∀ (l : List Ltl) (m : Mk2), (gaEs l m).1.length + (gaEs l m).2.length ≤ m.1.length + m.2.length + Ltl.nodesL l
  | [], m => by simp [gaEs]
  | x :: r, m => by
    simp only [gaEs, Ltl.nodesL]
    have h1 := gaE_len x m
    have h2 := gaEs_len r (gaE x m)
    omega
end
theorem gaEs_take {kids : List Ltl} {m : Mk2} {i : Nat} (h : i < kids.length) : gaEs (kids.take (i + 1)) m = gaE kids[i] (gaEs (kids.take i) m) := by
  have : ∀ (l : List Ltl) (m : Mk2) (x : Ltl), gaEs (l ++ [x]) m = gaE x (gaEs l m) := by
    intro l
    induction l with
    | nil => intro m x; simp [gaEs]
    | cons y r ih => intro m x; simp only [List.cons_append, gaEs]; exact ih _ x
  rw [List.take_succ_eq_append_getElem h, this]
theorem gaE_mk (k n : Int) (kids : List Ltl) (m : Mk2) : gaE (.mk k n kids) m = gaEs kids (gaN k n (.mk k n kids) m) := by simp only [gaE]
/-- a maker that grows -/
structure MkO (w : World) (B : Nat) (F : Nat → Prop) (sb : Nat) (av pv : Value) (m : Mk2) : Prop where
  blk : Blk w sb 133 [av, pv]
  a : Own w B 3 Non av m.1
  p : Own w B 68 F pv m.2
  ge : B ≤ sb
  na : ∀ g, av.ownBlock = some g → g ≠ sb
  np : ∀ g, pv.ownBlock = some g → g ≠ sb
  nap : ∀ g, av.ownBlock = some g → pv.ownBlock ≠ some g
  hF : ∀ b, F b → b < B
def mkoB (sb : Nat) (av pv : Value) : Nat → Prop := fun b => b = sb ∨ av.ownBlock = some b ∨ pv.ownBlock = some b
theorem MkO.ext {w w' : World} {B : Nat} {F : Nat → Prop} {sb : Nat} {av pv : Value} {m : Mk2} (h : MkO w B F sb av pv m) (hB : B ≤ w.heap.size) (hE : Ext w w') : MkO w' B F sb av pv m :=
  ⟨h.blk.ext hE, h.a.extN hE, h.p.ext hE (fun b hb => Nat.lt_of_lt_of_le (h.hF b hb) hB), h.ge, h.na, h.np, h.nap, h.hF⟩
theorem MkO.lo {w : World} {B : Nat} {F : Nat → Prop} {sb : Nat} {av pv : Value} {m : Mk2} (h : MkO w B F sb av pv m) : ∀ b, mkoB sb av pv b → B ≤ b ∧ b < w.heap.size := fun b hb => by
  rcases hb with h' | h' | h'
  · have := h.ge; have := h.blk.lt; omega
  · exact ⟨(h.a.lt b h').1, (h.a.lt b h').2.1⟩
  · exact ⟨(h.p.lt b h').1, (h.p.lt b h').2.1⟩
/-- read -/
theorem MkO.rd {w : World} {B : Nat} {F : Nat → Prop} {sb : Nat} {av pv : Value} {m : Mk2} (h : MkO w B F sb av pv m) (hB : B ≤ w.heap.size) : MkA w sb m := by
  obtain ⟨ao, ac, rfl, h1⟩ := h.a.oldN.sl
  obtain ⟨po, pc, rfl, h2⟩ := h.p.slF (F' := Old w) (fun b hb => Nat.lt_of_lt_of_le (h.hF b hb) hB) (fun g hg => (h.p.lt g hg).2.1)
  exact ⟨ao, ac, po, pc, h.blk, h1, h2⟩
theorem set_last {l : List Ltl} {x y : Ltl} : (l ++ [x]).set l.length y = l ++ [y] := by
  rw [List.set_append_right _ _ (Nat.le_refl _)]; simp
set_option maxHeartbeats 4000000 in
theorem gather_ok : ∀ (d : Nat) (t : Ltl), t.nodes ≤ d → wfT t → ∀ (w : World) {B sb : Nat} {F : Nat → Prop} {av pv : Value} {m : Mk2} {ko : Option Addr} {kc : Nat}, MkO w B F sb av pv m → B ≤ w.heap.size → Sl w F ko kc t.kids → m.1.length + m.2.length + t.nodes ≤ 1000 →
    Rt Try.prog 77 [.pointer (some ⟨sb, 0, none⟩), ltlV t.k t.n ko t.kids.length kc].toArray w fun v w' => ∃ av' pv', MkO w' B F sb av' pv' (gaE t m) ∧ Chg (mkoB sb av pv) w w' ∧ (∀ g, av'.ownBlock = some g → av.ownBlock = some g ∨ w.heap.size ≤ g) ∧ ∀ g, pv'.ownBlock = some g → pv.ownBlock = some g ∨ w.heap.size ≤ g := by
  intro d
  induction d with
  | zero => intro t h; have := t.nodes_pos; omega
  | succ d ih =>
    rintro ⟨k, n, kids⟩ hd hwf w B sb F av pv m ko kc hM hB hk hsz
    simp only [Ltl.k, Ltl.n, Ltl.kids] at hk ⊢
    have hkl := kids_le hwf
    have hlo := hM.lo
    have hF := hM.hF
    refine Rt.enter2 Try.func77 Try.ntmps77 rfl rfl ?_
    rw [gaE_mk]
    have hlen1 := gaE_len0 k n (.mk k n kids) m
    (repeat (first | (apply CW.seq) | (apply CW.region)))
    refine WL.boxB rfl rfl rfl fun w1 hb3 e1 => ?_
    have l3 := hb3.lt
    have y1 := e1.size
    have hM1 := hM.ext hB e1
    apply WL.nil
    apply EX.thenN
    refine CW.cutI (S := Value × Value) (fun s => [(0, .pointer (some ⟨sb, 0, none⟩)), (3, .pointer (some ⟨w.heap.size, 0, none⟩))])
      (fun s w' => MkO w' B F sb s.1 s.2 (gaN k n (.mk k n kids) m) ∧ Chg (mkoB sb av pv) w1 w' ∧ (∀ g, s.1.ownBlock = some g → av.ownBlock = some g ∨ w1.heap.size ≤ g) ∧ ∀ g, s.2.ownBlock = some g → pv.ownBlock = some g ∨ w1.heap.size ≤ g) ?_ ?_
    · have skip : ∀ (w2 : World) (e2 : Ext w1 w2), gaN k n (.mk k n kids) m = m → MkO w2 B F sb av pv (gaN k n (.mk k n kids) m) ∧ Chg (mkoB sb av pv) w1 w2 ∧ (∀ g, av.ownBlock = some g → av.ownBlock = some g ∨ w1.heap.size ≤ g) ∧ ∀ g, pv.ownBlock = some g → pv.ownBlock = some g ∨ w1.heap.size ≤ g := fun w2 e2 hx => by
        rw [hx]
        exact ⟨hM1.ext (by omega) e2, Chg.of_ext _ e2, fun g hg => .inl hg, fun g hg => .inl hg⟩
      by_cases h3 : k = 3
      · have hx : gaN k n (.mk k n kids) m = (if n ∈ m.1 then m.1 else m.1 ++ [n], m.2) := by unfold gaN; rw [if_pos h3]
        subst h3
        obtain ⟨ao, ac, hav, h1⟩ := hM1.a.oldN.sl
        subst hav
        have hD := Ext.drew w1
        have hSE : ∀ z, (fun z : World => Ext (drew w1) z) z → Ext (drew w1) z := fun _ h => h
        have hblkd := hM1.blk.ext hD
        have hb3d := hb3.ext hD
        (repeat (first | (apply WL.pure; rfl; rfl; rfl) | (apply WL.nil) | (apply EX.thenN) | (apply CW.seq) | (apply CW.region) | (apply WL.fa; rfl; rfl; rfl) | (apply WL.ld; rfl; rfl; rfl; assumption; rfl) | (apply CW.block) | (apply CW.condT; rfl)))
        refine CW.drawH (fun z : World => Ext (drew w1) z) [(0, true), (1, true), (2, true), (3, true), (4, true), (5, true), (6, false), (7, true)] mixed (by kernel_rfl) (Ext.refl _) ?_
        (repeat (first | (apply HL.pure; rfl; rfl; rfl; rfl) | (refine HL.fa rfl rfl rfl rfl ?_) | (apply HL.nck; rfl; rfl; rfl; rfl) | (refine HL.ld (by assumption) rfl rfl rfl rfl (by assumption) rfl ?_)))
        refine HL.mut rfl (WL.call rfl rfl rfl (contains_int (drew w1) n (h1.up hD)) ?_)
        rintro _ w2 ⟨rfl, e2⟩
        refine WL.nil (EX.mut e2 ?_)
        have e12 : Ext w1 w2 := hD.trans e2
        cases hc : m.1.contains n with
        | true =>
          have hin : n ∈ m.1 := by simpa using hc
          rw [if_pos hin] at hx
          (repeat (first | (apply HL.pure; rfl; rfl; rfl; rfl) | (apply HL.nil)))
          (repeat (first | (apply EX.thenN) | (apply EX.inN) | (apply CW.condF; rfl) | (apply CW.skip)))
          exact EX.cutI (.slice ao m.1.length ac, pv) (by repeat (first | exact trivial | refine ⟨rfl, ?_⟩)) (skip w2 e12 hx)
        | false =>
          have hin : n ∉ m.1 := by simpa using hc
          rw [if_neg hin] at hx
          (repeat (first | (apply HL.pure; rfl; rfl; rfl; rfl) | (apply HL.nil)))
          have hM2 := hM1.ext (by omega) e12
          have hblk2 := hM2.blk
          have hb32 := hb3.ext e12
          have z12 := e12.size
          have lsb := hblk2.lt
          have hD2 := Ext.drew w2
          have hblkd2 := hblk2.ext hD2
          have hb3d2 := hb32.ext hD2
          have hna := hM2.na
          have hnap := hM2.nap
          have hlo2 := hM2.lo
          have hK5 : ∀ u, (fun x : World => x.heap[w.heap.size]? = (drew w2).heap[w.heap.size]? ∧ x.heap[sb]? = (drew w2).heap[sb]?) u → u.heap[w.heap.size]? = (drew w2).heap[w.heap.size]? := fun _ h => h.1
          have hKs : ∀ u, (fun x : World => x.heap[w.heap.size]? = (drew w2).heap[w.heap.size]? ∧ x.heap[sb]? = (drew w2).heap[sb]?) u → u.heap[sb]? = (drew w2).heap[sb]? := fun _ h => h.2
          have hb3n : ∀ g, (Value.slice ao m.1.length ac).ownBlock = some g → g ≠ w.heap.size := fun g hg => by have := (hlo g (.inr (.inl hg))).2; omega
          (repeat (first | (apply EX.thenN) | (apply CW.condT; rfl)))
          refine CW.drawE (fun x : World => x.heap[w.heap.size]? = (drew w2).heap[w.heap.size]? ∧ x.heap[sb]? = (drew w2).heap[sb]?) [(0, true), (1, true), (2, true), (3, true), (4, true), (5, true), (6, true), (7, false), (8, false), (9, false), (10, false)] 11 mixed (by kernel_rfl) ⟨rfl, rfl⟩ ?_
          (repeat (first | (apply HL.pure; rfl; rfl; rfl; rfl) | (refine HL.fa rfl rfl rfl rfl ?_) | (apply HL.nck; rfl; rfl; rfl; rfl) | (refine HL.ldK (by assumption) rfl rfl rfl rfl (by assumption) rfl ?_)))
          refine HL.app1 (α := Int) (F := Non) (bytes := 8) (yv := n) rfl rfl rfl rfl (fun _ => rfl) rfl rfl (fun _ => rfl) (hM2.a.extN hD2) (Rd.mkInt _ _ _) (by have := hD2.size; omega) (fun _ h => h.elim) (by decide) (by unfold maxLen; omega) (by omega)
            (fun z hz => ⟨hz.block _ (by have := hD2.size; omega) (fun e => hb3n _ e.symm rfl), hz.block _ (by have := hD2.size; omega) (fun e => hna _ e.symm rfl)⟩) (fun cl w5 q5 ho5 hg5 hnb5 => ?_)
          obtain ⟨lo', lc', rfl⟩ := ho5.val
          have hblk5 := hblkd2.kept hg5 (fun e => hna _ e.symm rfl)
          have hS5 : w5.heap[w.heap.size]? = (drew w2).heap[w.heap.size]? ∧ w5.heap[sb]? = (drew w2).heap[sb]? := ⟨hg5.block _ (by have := hD2.size; omega) (fun e => hb3n _ e.symm rfl), hg5.block _ (by have := hD2.size; omega) (fun e => hna _ e.symm rfl)⟩
          refine HL.mut rfl (WL.nck rfl rfl rfl (WL.nil (EX.mut hS5 ?_)))
          refine HL.mut rfl (WL.fa rfl rfl rfl (WL.nil (EX.mut hS5 (HL.nil ?_))))
          refine EX.tail rfl (WL.st rfl rfl rfl hblk5 rfl rfl (ones_of rfl) (fun w6 hblk6 hg6 => WL.nil (EX.tailE ?_)))
          have hC6 : Chg (mkoB sb (.slice ao m.1.length ac) pv) w1 w6 := (((Chg.of_ext (mkoB sb (.slice ao m.1.length ac) pv) (e12.trans hD2)).grown hg5 (fun g hg => .inr (.inl hg)))).grown hg6 (fun g hg => by cases hg; exact .inl rfl)
          have hp6 : Own w6 B 68 F pv m.2 := ((hM2.p.ext hD2 (fun b hb => by have := hF b hb; omega)).kept hg5 (fun g hg e => hnap g e.symm hg) (fun b hb => ⟨by have := hF b hb; have := hD2.size; omega, fun e => by have := (hlo2 b (.inr (.inl e.symm))).1; have := hF b hb; omega⟩)).kept hg6 (fun g hg e => hM2.np g hg (Option.some.inj e)) (fun b hb => ⟨by have := hF b hb; have := hD2.size; have := hg5.size; omega, fun e => by have := Option.some.inj e; have := hF b hb; have := hM2.ge; omega⟩)
          have z5 := hg5.size
          have zd := hD2.size
          have hns : ∀ g, (Value.slice lo' (m.1 ++ [n]).length lc').ownBlock = some g → g ≠ sb := fun g hg => (hnb5 g hg).elim (hna g) (fun h => by omega)
          (repeat (apply EX.inN))
          refine EX.cutI (.slice lo' (m.1 ++ [n]).length lc', pv) (by repeat (first | exact trivial | refine ⟨rfl, ?_⟩)) ?_
          rw [hx]
          refine ⟨⟨hblk6, ho5.keptN hg6 (fun g hg e => hns g hg (Option.some.inj e)), hp6, hM2.ge, hns, hM2.np, fun g hg hg2 => ?_, hF⟩, hC6, fun g hg => (hnb5 g hg).imp id (fun h => by omega), fun g hg => .inl hg⟩
          rcases hnb5 g hg with h | h
          · exact hnap g h hg2
          · have := (hlo2 g (.inr (.inr hg2))).2; omega
      by_cases h7 : k = 7 ∨ k = 8 ∨ k = 9
      · have hx : gaN k n (.mk k n kids) m = (m.1, if m.2.any (sameB (.mk k n kids)) = true then m.2 else m.2 ++ [.mk k n kids]) := by unfold gaN; rw [if_neg h3, if_pos h7]
        have b3 : (k == 3) = false := by rw [beq_eq_false_iff_ne]; exact h3
        have hkk : (k == 7) = true ∨ ((k == 7) = false ∧ (k == 8) = true) ∨ ((k == 7) = false ∧ (k == 8) = false ∧ (k == 9) = true) := by
          simp only [beq_iff_eq, beq_eq_false_iff_ne]; omega
        (repeat (first | (apply WL.pure; rfl; rfl; rfl) | (apply WL.nil) | (apply EX.thenN) | (apply CW.seq) | (apply CW.region) | (apply WL.fa; rfl; rfl; rfl) | (apply WL.ld; rfl; rfl; rfl; assumption; rfl) | (apply CW.block)))
        rw [b3]
        apply CW.condF; rfl
        refine CW.cut [(0, .pointer (some ⟨sb, 0, none⟩)), (3, .pointer (some ⟨w.heap.size, 0, none⟩)), (29, .bool true)] ?_ ?_
        · (repeat (first | (apply WL.pure; rfl; rfl; rfl) | (apply WL.nil) | (apply EX.thenN) | (apply CW.seq) | (apply CW.region)))
          rcases hkk with h | ⟨h, h2⟩ | ⟨h, h2, h3⟩
          · rw [h]
            (repeat (first | (apply CW.condT; rfl) | (apply CW.skip)))
            exact EX.cut (by repeat (first | exact trivial | refine ⟨rfl, ?_⟩))
          · rw [h]
            (repeat (first | (apply WL.pure; rfl; rfl; rfl) | (apply WL.nil) | (apply EX.thenN) | (apply CW.seq) | (apply CW.region) | (apply CW.condF; rfl)))
            rw [h2]
            (repeat (first | (apply CW.condT; rfl) | (apply CW.skip)))
            exact EX.cut (by repeat (first | exact trivial | refine ⟨rfl, ?_⟩))
          · rw [h]
            (repeat (first | (apply WL.pure; rfl; rfl; rfl) | (apply WL.nil) | (apply EX.thenN) | (apply CW.seq) | (apply CW.region) | (apply CW.condF; rfl)))
            rw [h2]
            (repeat (first | (apply WL.pure; rfl; rfl; rfl) | (apply WL.nil) | (apply CW.region) | (apply CW.condF; rfl)))
            rw [h3]
            skip
            exact EX.cut (by repeat (first | exact trivial | refine ⟨rfl, ?_⟩))
        have hpart := part_ok w1 (t := .mk k n kids) (hM1.rd (by omega)) (hk.mono (w' := w1) (fun b hb => e1.block b (by have := hF b hb; omega)) (fun b hb => by have := hF b hb; exact (show b < w1.heap.size by omega)))
        (repeat (first | (apply WL.pure; rfl; rfl; rfl) | (apply CW.seq) | (apply CW.region) | (apply WL.ldA; rfl; rfl; rfl; assumption; rfl) | (apply CW.condT; rfl)))
        refine WL.call rfl rfl rfl hpart ?_
        rintro _ w2 ⟨rfl, e12⟩
        have hM2 := hM1.ext (by omega) e12
        have hany := idxOf_any (sameB (.mk k n kids)) m.2
        by_cases ha : m.2.any (sameB (.mk k n kids)) = true
        · rw [if_pos ha] at hx
          rw [ha, decide_eq_true_eq] at hany
          have hlt : decide (partI m (.mk k n kids) < 0) = false := decide_eq_false (by unfold partI; omega)
          (repeat (first | (apply WL.pure; rfl; rfl; rfl) | (apply WL.nil) | (apply EX.thenN)))
          rw [hlt]
          (repeat (first | (apply EX.inN) | (apply CW.condF; rfl) | (apply CW.skip)))
          exact EX.cutI (av, pv) (by repeat (first | exact trivial | refine ⟨rfl, ?_⟩)) (skip w2 e12 hx)
        · rw [if_neg ha] at hx
          rw [Bool.not_eq_true] at ha
          rw [ha, decide_eq_false_iff_not] at hany
          have hlt : decide (partI m (.mk k n kids) < 0) = true := decide_eq_true (by unfold partI; omega)
          (repeat (first | (apply WL.pure; rfl; rfl; rfl) | (apply WL.nil) | (apply EX.thenN)))
          rw [hlt]
          have hblk2 := hM2.blk
          have hb32 := hb3.ext e12
          have z12 := e12.size
          have lsb := hblk2.lt
          have hD2 := Ext.drew w2
          have zd : (drew w2).heap.size = w2.heap.size := rfl
          have hblkd2 := hblk2.ext hD2
          have hb3d2 := hb32.ext hD2
          have hlo2 := hM2.lo
          obtain ⟨po, pc, rfl⟩ := hM2.p.val
          have hpd := hM2.p.ext hD2 (fun b hb => by have := hF b hb; omega)
          have hb3n : ∀ g, (Value.slice po m.2.length pc).ownBlock = some g → g ≠ w.heap.size := fun g hg => by have := (hlo g (.inr (.inr hg))).2; omega
          have hKs : ∀ u, (fun x : World => x.heap[sb]? = (drew w2).heap[sb]? ∧ x.heap[w.heap.size]? = (drew w2).heap[w.heap.size]?) u → u.heap[sb]? = (drew w2).heap[sb]? := fun _ h => h.1
          have hK3 : ∀ u, (fun x : World => x.heap[w.heap.size]? = (drew w2).heap[w.heap.size]?) u → u.heap[w.heap.size]? = (drew w2).heap[w.heap.size]? := fun _ h => h
          (repeat (apply CW.condT; rfl))
          refine CW.drawQ 9 12 (fun x : World => x.heap[w.heap.size]? = (drew w2).heap[w.heap.size]?) (fun x : World => x.heap[sb]? = (drew w2).heap[sb]? ∧ x.heap[w.heap.size]? = (drew w2).heap[w.heap.size]?)
            (toP 1 [(0, true), (1, true), (2, true), (4, true)] ++ (toP 2 [(3, true), (5, true)] ++ ((6, 0) :: (7, 0) :: (toP 1 [(8, true), (10, true), (11, true)] ++ [])))) mixed (by kernel_rfl) rfl ⟨rfl, rfl⟩ ?_
          refine HP.weak [(0, true), (1, true), (2, true), (4, true)] rfl ?_
          (repeat (first | (apply HL.pure; rfl; rfl; rfl; rfl) | (refine HL.fa rfl rfl rfl rfl ?_) | (apply HL.nck; rfl; rfl; rfl; rfl)))
          refine HL.ldAQ hK3 rfl rfl rfl rfl hb3d2 rfl ?_
          (repeat (apply HL.nil))
          refine EX.rest ?_
          refine HP.early [(3, true), (5, true)] rfl ?_
          (repeat (first | (refine HL.ldK (by assumption) rfl rfl rfl rfl (by assumption) rfl ?_) | (refine HL.lenS rfl rfl rfl rfl ?_) | (apply HL.nil)))
          refine EX.rest ?_
          refine HP.app1f (α := Ltl) (F := F) (bytes := 40) (yv := (.mk 0 0 [] : Ltl)) rfl rfl rfl rfl rfl rfl (fun _ => rfl) rfl rfl (fun _ => rfl) hpd (Rd.mkLtl (kids := []) (Sl.zero _ _)) (by omega) (fun b hb => by have := hF b hb; omega) (by decide) (by unfold maxLen; omega) (by omega)
            (fun z hz => ⟨hz.block _ (by omega) (fun e => hb3n _ e.symm rfl), hz.block _ (by omega) (fun e => hM2.np _ e.symm rfl), hz.block _ (by omega) (fun e => hb3n _ e.symm rfl)⟩) (fun cl w5 q5 ho5 hg5 hnb5 => ?_)
          have z5 := hg5.size
          obtain ⟨g5, off, c5, rfl⟩ : ∃ g5 off c5, cl = .slice (some ⟨g5, off, none⟩) (m.2 ++ [(.mk 0 0 [] : Ltl)]).length c5 := by
            rcases ho5 with ⟨_, h⟩ | ⟨g, o, c, cur, h, _⟩
            · simp at h
            · exact ⟨g, o, c, h⟩
          have hlt5 := (ho5.lt g5 rfl)
          have hg5n : g5 ≠ sb := fun e => (hnb5 g5 rfl).elim (fun h => hM2.np g5 h e) (fun h => by omega)
          have hg53 : g5 ≠ w.heap.size := fun e => (hnb5 g5 rfl).elim (fun h => hb3n g5 h e) (fun h => by omega)
          have hblk5 := hblkd2.kept hg5 (fun e => hM2.np _ e.symm rfl)
          have hS5 : w5.heap[w.heap.size]? = (drew w2).heap[w.heap.size]? := hg5.block _ (by omega) (fun e => hb3n _ e.symm rfl)
          have hS5s : w5.heap[sb]? = (drew w2).heap[sb]? := hg5.block _ (by omega) (fun e => hM2.np _ e.symm rfl)
          have hkF : ∀ {z : World}, (∀ b, F b → z.heap[b]? = w.heap[b]?) → Rd z F (ltlV k n ko kids.length kc) (Ltl.mk k n kids) := fun {z} hz => Rd.mkLtl (hk.mono hz (fun _ h => h))
          have hF5 : ∀ b, F b → w5.heap[b]? = w.heap[b]? := fun b hb => by
            have h1 := hF b hb
            exact (hg5.block b (by omega) (fun e => by have := (hlo2 b (.inr (.inr e.symm))).1; omega)).trans (((e1.trans e12).trans hD2).block b (by omega))
          have hB5 : B ≤ g5 := hlt5.1
          refine HP.weak [(8, true), (10, true), (11, true)] rfl ?_
          skip
          refine HL.idx (α := Ltl) rfl rfl rfl rfl rfl (by omega) (by simp; omega) ?_
          rw [Int.toNat_natCast]
          (repeat (first | (refine HL.fa rfl rfl rfl rfl ?_) | (apply HL.nck; rfl; rfl; rfl; rfl) | (apply HL.nil)))
          refine EX.rest ?_
          refine HP.nil ?_
          have done : ∀ {z : World}, Blk z sb 133 [av, .slice (some ⟨g5, off, none⟩) (m.2 ++ [(.mk 0 0 [] : Ltl)]).length c5] → Own z B 68 F (.slice (some ⟨g5, off, none⟩) (m.2 ++ [(.mk 0 0 [] : Ltl)]).length c5) ((m.2 ++ [(.mk 0 0 [] : Ltl)]).set m.2.length (.mk k n kids)) → Own z B 3 Non av m.1 → Chg (mkoB sb av (.slice po m.2.length pc)) w1 z →
              MkO z B F sb av (.slice (some ⟨g5, off, none⟩) (m.2 ++ [(.mk 0 0 [] : Ltl)]).length c5) (gaN k n (.mk k n kids) m) ∧ Chg (mkoB sb av (.slice po m.2.length pc)) w1 z ∧ (∀ g, av.ownBlock = some g → av.ownBlock = some g ∨ w1.heap.size ≤ g) ∧ ∀ g, (Value.slice (some ⟨g5, off, none⟩) (m.2 ++ [(.mk 0 0 [] : Ltl)]).length c5).ownBlock = some g → (Value.slice po m.2.length pc).ownBlock = some g ∨ w1.heap.size ≤ g := by
            intro z hbz hoz haz hcz
            rw [hx]
            rw [set_last] at hoz
            refine ⟨⟨hbz, haz, ?_, hM2.ge, hM2.na, fun g hg => by cases hg; exact hg5n, fun g hg hg2 => ?_, hF⟩, hcz, fun g hg => .inl hg, fun g hg => (hnb5 g hg).imp id (fun h => by omega)⟩
            · rw [show (m.2 ++ [(.mk 0 0 [] : Ltl)]).length = (m.2 ++ [(.mk k n kids : Ltl)]).length by simp] at *
              exact hoz
            · rcases hnb5 g hg2 with h | h
              · exact hM2.nap g hg h
              · have := (hlo2 g (.inr (.inl hg))).2; omega
          have ha5 : Own w5 B 3 Non av m.1 := (hM2.a.extN hD2).keptN hg5 (fun g hg e => hM2.nap g hg e.symm)
          have hC5 : Chg (mkoB sb av (.slice po m.2.length pc)) w1 w5 := (Chg.of_ext (mkoB sb av (.slice po m.2.length pc)) (e12.trans hD2)).grown hg5 (fun g hg => .inr (.inr hg))
          have hag5 : ∀ g, av.ownBlock = some g → g ≠ g5 := fun g hg e => by
            subst e
            rcases hnb5 g rfl with h | h
            · exact hM2.nap g hg h
            · have := (hlo2 g (.inr (.inl hg))).2; omega
          have hgM : mkoB sb av (.slice po m.2.length pc) g5 ∨ w1.heap.size ≤ g5 := (hnb5 g5 rfl).imp (fun h => .inr (.inr h)) (fun h => by omega)
          refine EX.pair rfl rfl ?_ ?_
          · refine WL.stO (α := Ltl) (i := m.2.length) (yv := (.mk k n kids : Ltl)) rfl rfl rfl ho5 (by simp) (hkF hF5) (fun w6 ho6 hg6 => WL.nil (EX.then2 ?_ ⟨?_, ?_⟩ ?_))
            · exact (hg6.block _ (by omega) (fun e => hg53 (Option.some.inj e).symm)).trans hS5
            · exact (hg6.block _ (by omega) (fun e => hg5n (Option.some.inj e).symm)).trans hS5s
            · exact (hg6.block _ (by omega) (fun e => hg53 (Option.some.inj e).symm)).trans hS5
            · have hblk6 := hblk5.kept hg6 (fun e => hg5n (Option.some.inj e).symm)
              refine WL.st rfl rfl rfl hblk6 rfl rfl (ones_of rfl) (fun w7 hblk7 hg7 => WL.nil (EX.end2 ?_ ?_))
              · have z6 := hg6.size
                exact (hg7.block _ (by omega) (fun e => by have := Option.some.inj e; have := hM.blk.lt; omega)).trans ((hg6.block _ (by omega) (fun e => hg53 (Option.some.inj e).symm)).trans hS5)
              · (repeat (apply EX.inN))
                refine EX.cutI (av, _) (by repeat (first | exact trivial | refine ⟨rfl, ?_⟩)) (done hblk7 (ho6.kept hg7 (fun g hg e => by cases hg; exact hg5n (Option.some.inj e)) (fun b hb => ⟨by have := hF b hb; have := hg6.size; omega, fun e => by have := Option.some.inj e; have := hF b hb; have := hM2.ge; omega⟩)) ((ha5.keptN hg6 (fun g hg e => hag5 g hg (Option.some.inj e))).keptN hg7 (fun g hg e => hM2.na g hg (Option.some.inj e))) ?_)
                exact (hC5.then (Chg.of_grown hg6) (fun b hb => by cases hb; exact hgM)).grown hg7 (fun g hg => by cases hg; exact .inl rfl)
          · refine WL.st rfl rfl rfl hblk5 rfl rfl (ones_of rfl) (fun w6 hblk6 hg6 => WL.nil (EX.then2 ?_ trivial ?_))
            · exact (hg6.block _ (by omega) (fun e => by have := Option.some.inj e; have := (hlo2 sb (.inl rfl)).2; have := hM.blk.lt; omega)).trans hS5
            · have z6 := hg6.size
              have ho6 := ho5.kept hg6 (fun g hg e => by cases hg; exact hg5n (Option.some.inj e)) (fun b hb => ⟨by have := hF b hb; omega, fun e => by have := Option.some.inj e; have := hF b hb; have := hM2.ge; omega⟩)
              refine WL.stO (α := Ltl) (i := m.2.length) (yv := (.mk k n kids : Ltl)) rfl rfl rfl ho6 (by simp) (hkF (fun b hb => (hg6.block b (by have := hF b hb; omega) (fun e => by have := Option.some.inj e; have := hF b hb; have := hM2.ge; omega)).trans (hF5 b hb))) (fun w7 ho7 hg7 => WL.nil (EX.end2 ?_ ?_))
              · exact (hg7.block _ (by omega) (fun e => hg53 (Option.some.inj e).symm)).trans ((hg6.block _ (by omega) (fun e => by have := Option.some.inj e; have := hM.blk.lt; omega)).trans hS5)
              · (repeat (apply EX.inN))
                refine EX.cutI (av, _) (by repeat (first | exact trivial | refine ⟨rfl, ?_⟩)) (done (hblk6.kept hg7 (fun e => hg5n (Option.some.inj e).symm)) ho7 ((ha5.keptN hg6 (fun g hg e => hM2.na g hg (Option.some.inj e))).keptN hg7 (fun g hg e => hag5 g hg (Option.some.inj e))) ?_)
                exact (hC5.grown hg6 (fun g hg => by cases hg; exact .inl rfl)).then (Chg.of_grown hg7) (fun b hb => by cases hb; exact hgM)
      · have hx : gaN k n (.mk k n kids) m = m := by unfold gaN; rw [if_neg h3, if_neg h7]
        have b3 : (k == 3) = false := by rw [beq_eq_false_iff_ne]; exact h3
        have b7 : (k == 7) = false := by rw [beq_eq_false_iff_ne]; omega
        have b8 : (k == 8) = false := by rw [beq_eq_false_iff_ne]; omega
        have b9 : (k == 9) = false := by rw [beq_eq_false_iff_ne]; omega
        (repeat (first | (apply WL.pure; rfl; rfl; rfl) | (apply WL.nil) | (apply EX.thenN) | (apply CW.seq) | (apply CW.region) | (apply WL.fa; rfl; rfl; rfl) | (apply WL.ld; rfl; rfl; rfl; assumption; rfl) | (apply CW.block)))
        rw [b3]
        (repeat (first | (apply WL.pure; rfl; rfl; rfl) | (apply WL.nil) | (apply EX.thenN) | (apply CW.seq) | (apply CW.region) | (apply CW.condF; rfl)))
        rw [b7]
        (repeat (first | (apply WL.pure; rfl; rfl; rfl) | (apply WL.nil) | (apply EX.thenN) | (apply CW.seq) | (apply CW.region) | (apply CW.condF; rfl)))
        rw [b8]
        (repeat (first | (apply WL.pure; rfl; rfl; rfl) | (apply WL.nil) | (apply EX.thenN) | (apply CW.region) | (apply CW.condF; rfl)))
        rw [b9]
        (repeat (first | (apply EX.inN) | (apply CW.condF; rfl) | (apply CW.skip)))
        exact EX.cutI (av, pv) (by repeat (first | exact trivial | refine ⟨rfl, ?_⟩)) (skip w1 (Ext.refl _) hx)
    · rintro ⟨av1, pv1⟩ w2 ⟨hM2, hC2, na2, np2⟩
      dsimp only at hM2 hC2 na2 np2 ⊢
      have z2 := hC2.size
      have hb32 : Blk w2 w.heap.size 68 [.int .i64 k, .int .i64 n, .slice ko kids.length kc] := (hC2.block _ l3 (fun hb => by have := (hlo _ hb).2; omega)).trans hb3
      have hlo2 := hM2.lo
      have hk2 : Sl w2 F ko kc kids := hk.mono (fun b hb => (hC2.block b (by have := hF b hb; omega) (fun hs => by have := (hlo b hs).1; have := hF b hb; omega)).trans (e1.block b (by have := hF b hb; omega))) (fun _ h => h)
      have hmk : (gaN k n (.mk k n kids) m).1.length + (gaN k n (.mk k n kids) m).2.length + Ltl.nodesL kids ≤ 1000 := by
        simp only [Ltl.nodes] at hsz; omega
      generalize gaN k n (.mk k n kids) m = m1 at *
      (repeat (first | (apply WL.pure; rfl; rfl; rfl) | (apply WL.nil) | (apply EX.thenN) | (apply CW.seq) | (apply CW.region) | (apply WL.lenS; rfl; rfl; rfl) | (apply WL.fa; rfl; rfl; rfl) | (apply WL.ld; rfl; rfl; rfl; assumption; rfl) | (apply CW.block)))
      refine CW.loop (S := Nat × Value × Value) (fun s => [(0, .pointer (some ⟨sb, 0, none⟩)), (49, .slice ko kids.length kc), (50, .int .i64 kids.length), (51, .int .i64 s.1)])
        (fun s w' => s.1 ≤ kids.length ∧ MkO w' B F sb s.2.1 s.2.2 (gaEs (kids.take s.1) m1) ∧ Chg (mkoB sb av1 pv1) w2 w' ∧ (∀ g, s.2.1.ownBlock = some g → av1.ownBlock = some g ∨ w2.heap.size ≤ g) ∧ ∀ g, s.2.2.ownBlock = some g → pv1.ownBlock = some g ∨ w2.heap.size ≤ g) (fun s => kids.length - s.1) (0, av1, pv1) (by repeat (first | exact trivial | refine ⟨rfl, ?_⟩))
        ⟨Nat.zero_le _, by simpa [gaEs] using hM2, Chg.refl _ _, fun g hg => .inl hg, fun g hg => .inl hg⟩ ?_
      rintro ⟨i, cv, qv⟩ w3 ⟨hi, hM3, hC3, na3, np3⟩
      dsimp only at hi hM3 hC3 na3 np3 ⊢
      have z3 := hC3.size
      have hlo3 := hM3.lo
      have hk3 : Sl w3 F ko kc kids := hk2.mono (fun b hb => hC3.block b (by have := hF b hb; omega) (fun hs => by have := (hlo2 b hs).1; have := hF b hb; omega)) (fun _ h => h)
      (repeat (first | (apply WL.pure; rfl; rfl; rfl) | (apply WL.nil) | (apply EX.thenN) | (apply CW.seq) | (apply CW.region)))
      refine CW.cond rfl (fun h => ?_) (fun h => ?_)
      · have hi' : i < kids.length := by simp at h; omega
        have hwk := wf_kid hwf hi'
        have hnk := nodes_kid' hd hi'
        have hlen3 := gaEs_len (kids.take i) m1
        have htk := gaEs_take (m := m1) hi'
        have hnn : Ltl.nodesL (kids.take i) + kids[i].nodes ≤ Ltl.nodesL kids := by
          have : ∀ (l : List Ltl) (i : Nat) (h : i < l.length), Ltl.nodesL (l.take i) + l[i].nodes ≤ Ltl.nodesL l := by
            intro l
            induction l with
            | nil => intro i h; simp at h
            | cons x r ih2 =>
              intro i h
              cases i with
              | zero => simp [Ltl.nodesL]
              | succ i =>
                have := ih2 i (by simpa using h)
                simp only [List.take_succ_cons, Ltl.nodesL, List.getElem_cons_succ]; omega
          exact this kids i hi'
        (repeat (first | (apply EX.thenN) | (apply CW.seq) | (apply CW.region) | (apply CW.block) | (apply CW.skip)))
        refine WL.elemN rfl rfl rfl rfl rfl hk3 hi' (fun _ => rfl) (fun u q hu => ?_)
        obtain ⟨uo, uc, rfl, hku⟩ := Rd.ltl hu
        generalize kids[i] = x at *
        skip
        refine WL.alloc rfl rfl (fun w4 hb5 e4 => ?_)
        skip
        refine WL.st rfl rfl rfl hb5 rfl rfl (ones_of rfl) (fun w5 hb5 hg5 => ?_)
        have e5 : Ext w3 w5 := e4.grown hg5 e4.size (fun g hg => by cases hg; exact Nat.le_refl _)
        have z5 := e5.size
        (repeat (first | (apply WL.pure; rfl; rfl; rfl) | (apply WL.nil) | (apply EX.thenN) | (apply CW.region) | (apply WL.ldA; rfl; rfl; rfl; assumption; rfl)))
        refine WL.call rfl rfl rfl (ih x hnk hwk w5 (hM3.ext (by omega) e5) (by omega) (hku.mono (fun b hb => e5.block b (by have := hF b hb; omega)) (fun _ h => h)) (by omega)) ?_
        rintro _ w6 ⟨cv', qv', hM6, hC6, na6, np6⟩
        rw [← htk] at hM6
        (repeat (first | (apply WL.add; rfl; rfl; rfl; rfl; omega; omega) | (apply WL.pure; rfl; rfl; rfl) | (apply WL.nil) | (apply EX.thenN) | (apply CW.region) | (apply EX.inN)))
        refine EX.back (i + 1, cv', qv') (by repeat (first | exact trivial | refine ⟨rfl, ?_⟩)) ⟨hi', hM6, (hC3.trans (Chg.of_ext _ e5)).then hC6 (fun b hb => ?_), fun g hg => ?_, fun g hg => ?_⟩ (by dsimp only; omega)
        · rcases hb with h | h | h
          · exact .inl (.inl h)
          · exact (na3 b h).imp (fun h => .inr (.inl h)) id
          · exact (np3 b h).imp (fun h => .inr (.inr h)) id
        · exact (na6 g hg).elim (na3 g) (fun h => .inr (by omega))
        · exact (np6 g hg).elim (np3 g) (fun h => .inr (by omega))
      · obtain rfl : i = kids.length := by simp at h; omega
        rw [List.take_length] at hM3
        (repeat (first | (apply CW.exit) | (apply EX.thenX) | (apply EX.inX)))
        refine EX.end0 rfl ⟨cv, qv, hM3, ((Chg.of_ext _ e1).trans hC2).then hC3 (fun b hb => ?_), fun g hg => ?_, fun g hg => ?_⟩
        · rcases hb with h | h | h
          · exact .inl (.inl h)
          · exact (na2 b h).imp (fun h => .inr (.inl h)) (fun h => by omega)
          · exact (np2 b h).imp (fun h => .inr (.inr h)) (fun h => by omega)
        · exact (na3 g hg).elim (fun h => (na2 g h).imp id (fun h => by omega)) (fun h => .inr (by omega))
        · exact (np3 g hg).elim (fun h => (np2 g h).imp id (fun h => by omega)) (fun h => .inr (by omega))
end Go.Proofs.Ytllpfgcngokhnaa
