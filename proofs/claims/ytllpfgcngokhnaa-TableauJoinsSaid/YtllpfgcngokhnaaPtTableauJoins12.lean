import Derived.Shelf.Slices.Reverse
import Derived.Shelf.Sort.Plain
import Derived.Shelf.Slices.In.SortNone
import Derived.Test.YtllpfgcngokhnaaPtTableauJoins11
/-
  Package push walked, first part: small functions; lists of formulas that grow.
-/
set_option linter.unusedVariables false
set_option linter.unusedSimpArgs false
namespace Go.Proofs.Ytllpfgcngokhnaa
open Go.RowKit

/-- a struct that nobody changes meanwhile -/
theorem HL.ldAK {P : Program} {Q : Exit → Act → World → Prop} {n : Nat} {σ : Sg} {w wc : World} {L : List Oper} {S : World → Prop} {ord : List (Nat × Bool)} {i d : Nat} {ty : TypeId} {pos : String} {af : Array Edge} {g : Option (Nat × Bool)} {t e : TypeId} {x : Operand} {b o : Nat} {cells vs : List Value} {k : Nat}
    (hK : ∀ w1, S w1 → w1.heap[b]? = w.heap[b]?) (ho : nthO L i = some ⟨some d, .load t x, ty, pos, af, g⟩) (hg : gd L σ ⟨some d, .load t x, ty, pos, af, g⟩ = some true) (hd : Nat.ble (d + 1) n = true) (hx : ev σ x = some (.pointer (some ⟨b, o, none⟩))) [hc : IsC P t k true] (hb : Blk w b e cells) (hv : segL cells o k = some vs)
    (h : HL P L S Q ord n ((d, .agg vs.toArray) :: σ) wc) : HL P L S Q ((i, true) :: ord) n σ wc := by
  refine HL.run ho hg hd (fun a ha w' hsw => ?_) h
  have hb' : Blk w' b e cells := (hK w' hsw).trans hb
  simp [execOp, ha.ev hx, run_ldA (P := P) (t := t) w' hb' hv]
/-- new blocks -/
def Nw (w w' : World) : Nat → Prop := fun b => w.heap.size ≤ b ∧ b < w'.heap.size
theorem Nw.lt {w w' : World} : ∀ b, Nw w w' b → b < w'.heap.size := fun _ h => h.2
theorem Nw.mono {a b c d : World} (h1 : a.heap.size ≤ b.heap.size) (h2 : c.heap.size ≤ d.heap.size) : ∀ x, Nw b c x → Nw a d x := fun x h => ⟨Nat.le_trans h1 h.1, Nat.lt_of_lt_of_le h.2 h2⟩
/-- behind a change of one block that is not met -/
theorem Rd.kept {α : Type} [Rep α] {w w' : World} {F : Nat → Prop} {v : Value} {x : α} {row : Option Nat} (h : Rd w F v x) (hg : w.grownBy w' row) (hF : ∀ b, F b → b < w.heap.size ∧ some b ≠ row) : Rd w' F v x :=
  h.mono (fun b hb => hg.block b (hF b hb).1 (hF b hb).2) fun _ h => h
theorem Rd.up0 {α : Type} [Rep α] {w w' : World} {F : Nat → Prop} {v : Value} {x : α} (h : Rd w F v x) (hE : Ext w w') (hF : ∀ b, F b → b < w.heap.size) : Rd w' F v x := h.mono (fun b hb => hE.block b (hF b hb)) fun _ h => h
theorem Rd.wk {α : Type} [Rep α] {w : World} {F F' : Nat → Prop} {v : Value} {x : α} (h : Rd w F v x) (hF : ∀ b, F b → F' b) : Rd w F' v x := h.mono (fun _ _ => rfl) hF
theorem Sl.up1 {α : Type} [Rep α] {w w' : World} {F : Nat → Prop} {ao : Option Addr} {cap : Nat} {xs : List α} (h : Sl w F ao cap xs) (hE : Ext w w') (hF : ∀ b, F b → b < w.heap.size) : Sl w' F ao cap xs := h.mono (fun b hb => hE.block b (hF b hb)) fun _ h => h
/-- the world but for one block -/
def SO (r : Nat) (w : World) : World → Prop := fun x => w.heap.size ≤ x.heap.size ∧ ∀ b, b ≠ r → b < w.heap.size → x.heap[b]? = w.heap[b]?
theorem SO.refl (r : Nat) (w : World) : SO r w w := ⟨Nat.le_refl _, fun _ _ _ => rfl⟩
theorem SO.ext {r : Nat} {w x y : World} (h : SO r w x) (hE : Ext x y) : SO r w y := ⟨Nat.le_trans h.1 hE.size, fun b h1 h2 => (hE.block b (Nat.lt_of_lt_of_le h2 h.1)).trans (h.2 b h1 h2)⟩
theorem SO.st {r : Nat} {w x y : World} (h : SO r w x) (hg : x.grownBy y (some r)) : SO r w y := ⟨Nat.le_trans h.1 hg.size, fun b h1 h2 => (hg.block b (Nat.lt_of_lt_of_le h2 h.1) (fun e => h1 (by cases e; rfl))).trans (h.2 b h1 h2)⟩

/- A LIST OF FORMULAS THAT GROWS: all that it meets is at B or behind -/
section
variable {α : Type} [Rep α]
def Grow (B : Nat) (e : TypeId) (w : World) (v : Value) (xs : List α) : Prop := ∃ F, (∀ b, F b → B ≤ b ∧ b < w.heap.size) ∧ Own w B e F v xs
variable {B : Nat} {e : TypeId} {w w' : World} {v : Value} {xs : List α}
theorem Grow.nil : Grow B e w (.slice none 0 0) ([] : List α) := ⟨Non, fun _ h => h.elim, Own.nil⟩
theorem Grow.ext (h : Grow B e w v xs) (hE : Ext w w') : Grow B e w' v xs := by
  obtain ⟨F, h1, h2⟩ := h
  exact ⟨F, fun b hb => ⟨(h1 b hb).1, Nat.lt_of_lt_of_le (h1 b hb).2 hE.size⟩, h2.ext hE fun b hb => (h1 b hb).2⟩
theorem Grow.kept {r : Nat} (h : Grow B e w v xs) (hg : w.grownBy w' (some r)) (hr : r < B) : Grow B e w' v xs := by
  obtain ⟨F, h1, h2⟩ := h
  refine ⟨F, fun b hb => ⟨(h1 b hb).1, Nat.lt_of_lt_of_le (h1 b hb).2 hg.size⟩, h2.kept hg (fun g hgo e => ?_) (fun b hb => ⟨(h1 b hb).2, fun e => ?_⟩)⟩
  · have := (h2.lt g hgo).1; cases e; omega
  · have := (h1 b hb).1; cases e; omega
theorem Grow.lt (h : Grow B e w v xs) : ∀ g, v.ownBlock = some g → B ≤ g ∧ g < w.heap.size := by
  obtain ⟨F, h1, h2⟩ := h
  exact fun g hg => ⟨(h2.lt g hg).1, (h2.lt g hg).2.1⟩
theorem Grow.sl (h : Grow B e w v xs) : ∃ ao cap, v = .slice ao xs.length cap ∧ Sl w (fun b => B ≤ b ∧ b < w.heap.size) ao cap xs := by
  obtain ⟨F, h1, h2⟩ := h
  exact h2.slF (fun b hb => h1 b hb) (fun g hg => ⟨(h2.lt g hg).1, (h2.lt g hg).2.1⟩)
/-- ready for one more, that meets Fu -/
theorem Grow.open (h : Grow B e w v xs) {Fu : Nat → Prop} (hFu : ∀ b, Fu b → B ≤ b ∧ b < w.heap.size) (hn : ∀ g, v.ownBlock = some g → ¬ Fu g) : ∃ F, (∀ b, F b → B ≤ b ∧ b < w.heap.size) ∧ Own w B e F v xs ∧ (∀ b, Fu b → F b) := by
  obtain ⟨F, h1, h2⟩ := h
  refine ⟨fun b => F b ∨ Fu b, fun b hb => hb.elim (h1 b) (hFu b), h2.wk (fun b hb => .inl hb) (fun g hg hb => ?_), fun b hb => .inr hb⟩
  exact hb.elim (h2.lt g hg).2.2 (hn g hg)
end

theorem pu_two (w : World) {F : Nat → Prop} (hF : ∀ b, F b → b < w.heap.size) (k : Int) {v v' : Value} {t t' : Ltl} (h : Rd w F v t) (h' : Rd w F v' t') : Rt Try.prog 155 [.int .i64 k, v, v'].toArray w fun v w' => Rd w' (Plus F w w') v (.mk k 0 [t, t'] : Ltl) ∧ Ext w w' := by
  obtain ⟨ao, cap, rfl, hk⟩ := Rd.ltl h
  obtain ⟨ao', cap', rfl, hk'⟩ := Rd.ltl h'
  refine Rt.enter3 Try.func155 Try.ntmps155 rfl rfl ?_
  (repeat (first | (apply CW.seq) | (apply CW.region)))
  refine WL.boxB rfl rfl rfl fun w0 hb0 hE0 => ?_
  refine WL.boxB rfl rfl rfl fun w1 hb hE1 => ?_
  have hb0 := hb0.ext hE1
  have hE1 := hE0.trans hE1
  refine WL.alloc rfl rfl (fun w2 hr hE2 => ?_)
  have hb0 := hb0.ext hE2
  have hb2 := hb.ext hE2
  have hE12 := hE1.trans hE2
  (repeat (first | (apply WL.pure; rfl; rfl; rfl) | (apply WL.nil) | (apply EX.thenN) | (apply CW.seq) | (apply CW.region) | (apply WL.ldA; rfl; rfl; rfl; assumption; rfl)))
  have hl : Rd w2 F (ltlV t.k t.n ao t.kids.length cap) t := Rd.mono h (fun b hb => hE12.block b (hF b hb)) (fun _ h => h)
  have hl' : Rd w2 F (ltlV t'.k t'.n ao' t'.kids.length cap') t' := Rd.mono h' (fun b hb => hE12.block b (hF b hb)) (fun _ h => h)
  have hw2 : w.heap.size ≤ w2.heap.size := hE12.size
  have hlt := hr.lt
  have hw1 : w.heap.size ≤ w1.heap.size := hE1.size
  refine WL.lit (F := F) (ys := [t, t']) rfl rfl rfl rfl rfl (.cons hl (.cons hl' .nil)) (by show 2 * 3 ≤ 16777216; decide) (fun b hb => Nat.lt_of_lt_of_le (hF b hb) hw2) (fun w3 ho hg3 => ?_)
  have hE23 : Ext w2 w3 := (Ext.refl w2).grown hg3 (Nat.le_refl _) (fun k h => by cases h)
  have hr3 := hr.ext hE23
  have hE13 := hE12.trans hE23
  refine WL.build rfl rfl rfl rfl ?_
  refine WL.st rfl rfl rfl hr3 rfl rfl (ones_of rfl) (fun w4 hr4 hgr => ?_)
  have hE4 : Ext w w4 := hE13.grown hgr hE13.size (fun g hg => by cases hg; exact hE1.size)
  have ho4 := ho.kept hgr (fun g hg => by have := (ho.lt g hg).1; simp; omega) (fun b hb => ⟨Nat.lt_of_lt_of_le (hF b hb) hE13.size, by have : b < w.heap.size := hF b hb; simp; omega⟩)
  obtain ⟨uo, uc, he, hu⟩ := (ho4.rd.mono (F' := Plus F w w4) (fun _ _ => rfl) (fun b hb => hb.elim .inl fun hv => .inr ⟨Nat.le_trans hE12.size (ho4.lt b hv).1, (ho4.lt b hv).2.1⟩)).sl
  obtain ⟨rfl, _, rfl⟩ := Value.slice.inj he
  (repeat (first | (apply WL.nil) | (apply EX.thenN) | (apply CW.ret)))
  exact EX.retC rfl rfl hr4 rfl ⟨Rd.mkLtl (kids := [t, t']) hu, hE4⟩
theorem pu_leaf (w : World) (F : Nat → Prop) (k : Int) : Rt Try.prog 156 [.int .i64 k].toArray w fun v w' => Rd w' F v (.mk k 0 [] : Ltl) ∧ Ext w w' := by
  refine Rt.enter1 Try.func156 Try.ntmps156 rfl rfl ?_
  (repeat (first | (apply CW.seq) | (apply CW.region)))
  refine WL.alloc rfl rfl (fun w1 hb hE => ?_)
  (repeat (first | (apply WL.pure; rfl; rfl; rfl) | (apply WL.nil) | (apply EX.thenN) | (apply CW.seq) | (apply CW.region)))
  refine WL.build rfl rfl rfl rfl ?_
  refine WL.st rfl rfl rfl hb rfl rfl (ones_of rfl) (fun w2 hb2 hgr => ?_)
  have hE2 : Ext w w2 := hE.grown hgr hE.size (fun g hg => by cases hg; exact Nat.le_refl _)
  (repeat (first | (apply WL.nil) | (apply EX.thenN) | (apply CW.ret)))
  exact EX.retC rfl rfl hb2 rfl ⟨Rd.mkLtl (kids := []) ⟨by simp, by simp [maxLen], fun _ => rfl, fun i hi => absurd hi (by simp)⟩, hE2⟩
end Go.Proofs.Ytllpfgcngokhnaa
/-
  Package push walked, second part: Same, SameLtl, Size.
-/
set_option linter.unusedVariables false
set_option linter.unusedSimpArgs false
namespace Go.Proofs.Ytllpfgcngokhnaa
open Go.RowKit

theorem pu_Same : ∀ (m : Nat) (a b : Ltl), a.nodes ≤ m → ∀ (w : World) (F : Nat → Prop) (ao bo : Option Addr) (ac bc : Nat), Sl w F ao ac a.kids → Sl w F bo bc b.kids → (∀ b, F b → b < w.heap.size) →
    Rt Try.prog 159 [ltlV a.k a.n ao a.kids.length ac, ltlV b.k b.n bo b.kids.length bc].toArray w fun v w' => v = .bool (sameB a b) ∧ Ext w w' := by
  intro m
  induction m with
  | zero => intro a b h; have := a.nodes_pos; omega
  | succ m ih =>
    rintro ⟨k, n, xs⟩ ⟨k', n', ys⟩ hm w F ao bo ac bc ha hb hF
    simp only [Ltl.k, Ltl.n, Ltl.kids, Ltl.nodes] at *
    have hxl := ha.len63
    refine Rt.enter2 Try.func159 Try.ntmps159 rfl rfl ?_
    (repeat (first | (apply CW.seq) | (apply CW.region)))
    refine WL.boxB rfl rfl rfl fun w1 hf hE1 => ?_
    skip
    refine WL.boxB rfl rfl rfl fun w2 hg hE2 => ?_
    have hf := hf.ext hE2
    have hE2 := hE1.trans hE2
    have hS : sameB (.mk k n xs) (.mk k' n' ys) = (k == k' && n == n' && sameBs xs ys) := by simp [sameB]
    rw [hS]
    (repeat (first | (apply WL.pure; rfl; rfl; rfl) | (apply WL.nil) | (apply EX.thenN) | (apply CW.seq) | (apply CW.region) | (apply WL.fa; rfl; rfl; rfl) | (apply WL.ld; rfl; rfl; rfl; assumption; rfl)))
    cases h1 : (k != k') with
    | true =>
      (repeat (first | (apply WL.pure; rfl; rfl; rfl) | (apply WL.nil) | (apply EX.thenN) | (apply CW.seq) | (apply CW.region) | (apply WL.pass; rfl; rfl) | (apply CW.condT; rfl) | (apply CW.ret) | (apply EX.thenR)))
      refine EX.ret1 rfl rfl ⟨?_, hE2⟩
      simp at h1; simp [h1]
    | false =>
    have h1 : k = k' := by simpa using h1
    (repeat (first | (apply WL.pure; rfl; rfl; rfl) | (apply WL.fa; rfl; rfl; rfl) | (apply WL.ld; rfl; rfl; rfl; assumption; rfl)))
    cases h2 : (n != n') with
    | true =>
      (repeat (first | (apply WL.pure; rfl; rfl; rfl) | (apply WL.nil) | (apply EX.thenN) | (apply CW.seq) | (apply CW.region) | (apply WL.pass; rfl; rfl) | (apply CW.condT; rfl) | (apply CW.ret) | (apply EX.thenR)))
      refine EX.ret1 rfl rfl ⟨?_, hE2⟩
      simp at h2; simp [h2]
    | false =>
    have h2 : n = n' := by simpa using h2
    (repeat (first | (apply WL.pure; rfl; rfl; rfl) | (apply WL.nil) | (apply EX.thenN) | (apply WL.lenS; rfl; rfl; rfl) | (apply WL.fa; rfl; rfl; rfl) | (apply WL.ld; rfl; rfl; rfl; assumption; rfl)))
    cases h3 : ((xs.length : Int) != (ys.length : Int)) with
    | true =>
      (repeat (first | (apply WL.pure; rfl; rfl; rfl) | (apply WL.nil) | (apply EX.thenN) | (apply CW.seq) | (apply CW.region) | (apply CW.condT; rfl) | (apply CW.ret) | (apply EX.thenR)))
      refine EX.ret1 rfl rfl ⟨?_, hE2⟩
      have h3 : xs.length ≠ ys.length := by simp at h3; omega
      have : sameBs xs ys = false := by
        rw [Bool.eq_false_iff, Ne, sameBs_iff]
        exact fun e => h3 (by rw [e])
      rw [this]; simp
    | false =>
    have h3 : xs.length = ys.length := by simp at h3; omega
    (repeat (first | (apply WL.pure; rfl; rfl; rfl) | (apply WL.nil) | (apply EX.thenN) | (apply CW.seq) | (apply CW.region) | (apply WL.lenS; rfl; rfl; rfl) | (apply WL.fa; rfl; rfl; rfl) | (apply WL.ld; rfl; rfl; rfl; assumption; rfl) | (apply CW.block) | (apply CW.condF; rfl) | (apply CW.skip)))
    refine CW.loop (S := Nat) (fun i => [(2, .pointer (some ⟨w.heap.size, 0, none⟩)), (3, .pointer (some ⟨w1.heap.size, 0, none⟩)), (29, .int .i64 xs.length), (30, .int .i64 i)])
      (fun i w' => i ≤ xs.length ∧ Ext w2 w' ∧ ∀ j (h : j < xs.length) (h' : j < ys.length), j < i → sameB xs[j] ys[j] = true) (fun i => xs.length - i) 0 (by repeat (first | exact trivial | refine ⟨rfl, ?_⟩)) ⟨by omega, Ext.refl _, by omega⟩ ?_
    rintro i w3 ⟨hi, hE3, hall⟩
    have hf3 := hf.ext hE3
    have hg3 := hg.ext hE3
    have hE3' := hE2.trans hE3
    (repeat (first | (apply WL.pure; rfl; rfl; rfl) | (apply WL.nil) | (apply EX.thenN) | (apply CW.seq) | (apply CW.region)))
    refine CW.cond rfl (fun h => ?_) (fun h => ?_)
    · have h : i < xs.length := by simpa using h
      have h' : i < ys.length := by omega
      (repeat (first | (apply WL.pure; rfl; rfl; rfl) | (apply QL.pure; rfl; rfl; rfl) | (apply WL.nil) | (apply EX.thenN) | (apply CW.seq) | (apply CW.region) | (apply QL.fa; rfl; rfl; rfl) | (apply QL.ld; rfl; rfl; rfl; assumption; rfl) | (apply CW.block) | (apply CW.skip) | (apply CW.draw; exact mixed; kernel_rfl)))
      refine QL.elemN rfl rfl rfl rfl rfl (fun b hb => Nat.lt_of_lt_of_le (hF b hb) hE3'.size) (ha.up0 hE3' hF) h (fun _ => rfl) (fun u q hu => ?_)
      (repeat (first | (apply QL.pure; rfl; rfl; rfl) | (apply QL.fa; rfl; rfl; rfl) | (apply QL.ld; rfl; rfl; rfl; assumption; rfl)))
      refine QL.elemN rfl rfl rfl rfl rfl (fun b hb => Nat.lt_of_lt_of_le (hF b hb) hE3'.size) (hb.up0 hE3' hF) h' (fun _ => rfl) (fun u' q' hu' => ?_)
      obtain ⟨uo, uc, rfl, hku⟩ := Rd.ltl hu
      obtain ⟨uo', uc', rfl, hku'⟩ := Rd.ltl hu'
      have hF3 : ∀ b, F b → b < w3.heap.size := fun b hb => Nat.lt_of_lt_of_le (hF b hb) hE3'.size
      have hnode : (xs[i]).nodes ≤ m := by have := Ltl.nodes_kid xs xs[i] (List.getElem_mem h); omega
      refine QL.call (v := .bool (sameB xs[i] ys[i])) rfl rfl rfl (fun w4 e4 => ih xs[i] ys[i] hnode w4 F uo uo' uc uc' (hku.up0 e4 hF3) (hku'.up0 e4 hF3) (fun b hb => Nat.lt_of_lt_of_le (hF3 b hb) e4.size)) ?_
      (repeat (apply QL.pure; rfl; rfl; rfl))
      refine QL.nil (fun w4 e4 => ?_)
      cases hs : sameB xs[i] ys[i] with
      | true =>
        (repeat (first | (apply WL.add; rfl; rfl; rfl; rfl; omega; omega) | (apply WL.pure; rfl; rfl; rfl) | (apply WL.nil) | (apply EX.thenN) | (apply CW.region) | (apply EX.inN) | (apply CW.condF; rfl) | (apply CW.skip)))
        refine EX.back (i + 1) (by repeat (first | exact trivial | refine ⟨rfl, ?_⟩)) ⟨h, hE3.trans e4, fun j hj hj' hlt => ?_⟩ (by omega)
        by_cases e : j = i
        · subst e; exact hs
        · exact hall j hj hj' (by omega)
      | false =>
        (repeat (first | (apply WL.pure; rfl; rfl; rfl) | (apply WL.nil) | (apply EX.thenN) | (apply CW.seq) | (apply CW.region) | (apply CW.condT; rfl) | (apply CW.ret) | (apply EX.thenR) | (apply EX.inR)))
        refine EX.ret1 rfl rfl ⟨?_, hE3'.trans e4⟩
        have : sameBs xs ys = false := by
          rw [Bool.eq_false_iff, Ne, sameBs_iff]
          intro e
          subst e
          rw [sameB_self] at hs
          cases hs
        rw [this]; simp
    · have h : ¬ i < xs.length := by simpa using h
      (repeat (first | (apply WL.pure; rfl; rfl; rfl) | (apply WL.nil) | (apply EX.thenN) | (apply CW.seq) | (apply CW.region) | (apply CW.exit) | (apply EX.thenX) | (apply EX.inX) | (apply CW.ret)))
      refine EX.ret1 rfl rfl ⟨?_, hE3'⟩
      have : sameBs xs ys = true := by
        rw [sameBs_iff]
        exact List.ext_getElem h3 (fun j hj hj' => (sameB_iff _ _).1 (hall j hj hj' (by omega)))
      rw [this]; simp [h1, h2]
theorem nodesL_app : ∀ (a b : List Ltl), Ltl.nodesL (a ++ b) = Ltl.nodesL a + Ltl.nodesL b
  | [], b => by simp [Ltl.nodesL]
  | x :: r, b => by simp only [List.cons_append, Ltl.nodesL, nodesL_app r b]; omega
end Go.Proofs.Ytllpfgcngokhnaa
/-
  Package push walked, third part: nots.
-/
set_option linter.unusedVariables false
set_option linter.unusedSimpArgs false
namespace Go.Proofs.Ytllpfgcngokhnaa
open Go.RowKit

theorem kids_le {k n : Int} {kids : List Ltl} (h : wfT (.mk k n kids)) : kids.length ≤ 2 := by
  simp only [wfT] at h
  have h1 := h.1
  unfold kidsK at h1
  split at h1
  · omega
  · split at h1
    · omega
    · split at h1 <;> omega
theorem wf_kid {k n : Int} {kids : List Ltl} (h : wfT (.mk k n kids)) {i : Nat} (hi : i < kids.length) : wfT kids[i] := by
  simp only [wfT] at h
  exact wfTs_get kids i hi h.2.2.2.2
theorem nodes_kid' {k n : Int} {kids : List Ltl} {m : Nat} (h : (Ltl.mk k n kids).nodes ≤ m + 1) {i : Nat} (hi : i < kids.length) : (kids[i]).nodes ≤ m := by
  have := Ltl.nodes_kid kids kids[i] (List.getElem_mem hi)
  simp only [Ltl.nodes] at h
  omega
/-- what is stored into the result's cell, and that it is returned -/
theorem Rd.cells {w : World} {F : Nat → Prop} {v : Value} {t : Ltl} (h : Rd w F v t) : ∃ ao cap, v = .agg [.int .i64 t.k, .int .i64 t.n, .slice ao t.kids.length cap].toArray ∧ Sl w F ao cap t.kids := Rd.ltl h
end Go.Proofs.Ytllpfgcngokhnaa
/-
  Package push walked, fourth part: plain; told; Nots, Plain.
-/
set_option linter.unusedVariables false
set_option linter.unusedSimpArgs false
namespace Go.Proofs.Ytllpfgcngokhnaa
open Go.RowKit

theorem plain_ok : ∀ (m : Nat) (t : Ltl), t.nodes ≤ m → wfT t → ∀ (w : World) (F : Nat → Prop) (ao : Option Addr) (cap : Nat), Sl w F ao cap t.kids → (∀ b, F b → b < w.heap.size) →
    Rt Try.prog 132 [ltlV t.k t.n ao t.kids.length cap].toArray w fun v w' => Rd w' (Nw w w') v (plainL t) ∧ Ext w w' := by
  intro m
  induction m with
  | zero => intro t h; have := t.nodes_pos; omega
  | succ m ih =>
    rintro ⟨k, n, kids⟩ hm hwf w F ao cap hs hF
    simp only [Ltl.k, Ltl.n, Ltl.kids] at *
    have hkl := kids_le hwf
    refine Rt.enter1 Try.func132 Try.ntmps132 rfl rfl ?_
    (repeat (first | (apply CW.seq) | (apply CW.region)))
    refine WL.boxB rfl rfl rfl fun w1 hf hE1 => ?_
    refine WL.alloc rfl rfl (fun w2 hr hE2 => ?_)
    have hf := hf.ext hE2
    have hE12 := hE1.trans hE2
    have hz1 : w.heap.size ≤ w1.heap.size := hE1.size
    have hlf := hf.lt
    have hlr := hr.lt
    (repeat (first | (apply WL.nil) | (apply EX.thenN) | (apply CW.seq) | (apply CW.region) | (apply WL.fa; rfl; rfl; rfl) | (apply WL.ld; rfl; rfl; rfl; assumption; rfl)))
    refine WL.build rfl rfl rfl rfl ?_
    refine WL.alloc rfl rfl (fun w3 ho hE3 => ?_)
    refine WL.st rfl rfl rfl ho rfl rfl (ones_of rfl) (fun w4 ho4 hg4 => ?_)
    have e4 : Ext w2 w4 := hE3.grown hg4 hE3.size (fun g hg => by cases hg; exact Nat.le_refl _)
    have hf4 := hf.ext e4
    have hr4 := hr.ext e4
    have hE4 := hE12.trans e4
    have hlo := ho4.lt
    have hsz := hE12.size
    clear hf hr ho hg4 hE3 e4 hE12
    (repeat (first | (apply WL.pure; rfl; rfl; rfl) | (apply WL.nil) | (apply EX.thenN) | (apply CW.seq) | (apply CW.region) | (apply WL.lenS; rfl; rfl; rfl) | (apply WL.fa; rfl; rfl; rfl) | (apply WL.ld; rfl; rfl; rfl; assumption; rfl) | (apply CW.block)))
    refine CW.loop (S := Nat × Value) (fun x => [(1, .pointer (some ⟨w.heap.size, 0, none⟩)), (2, .pointer (some ⟨w1.heap.size, 0, none⟩)), (3, .pointer (some ⟨w2.heap.size, 0, none⟩)), (12, .slice ao kids.length cap), (13, .int .i64 kids.length), (14, .int .i64 x.1)])
      (fun x w' => x.1 ≤ kids.length ∧ Ext w w' ∧ w4.heap.size ≤ w'.heap.size ∧ Blk w' w.heap.size 68 [.int .i64 k, .int .i64 n, .slice ao kids.length cap] ∧ Blk w' w1.heap.size 68 [.int .i64 0, .int .i64 0, .slice none 0 0] ∧
        Blk w' w2.heap.size 68 [.int .i64 k, .int .i64 n, x.2] ∧ Grow w4.heap.size 68 w' x.2 (plainLs (kids.take x.1))) (fun x => kids.length - x.1) (0, .slice none 0 0) (by repeat (first | exact trivial | refine ⟨rfl, ?_⟩)) ⟨by simp, hE4, Nat.le_refl _, hf4, hr4, ho4, by simpa [plainLs] using Grow.nil⟩ ?_
    rintro ⟨i, kv⟩ w5 ⟨hi, hE5, hsz5, hf5, hr5, ho5, hG5⟩
    dsimp only at hi hE5 hsz5 hf5 hr5 ho5 hG5 ⊢
    clear hf4 hr4 ho4
    (repeat (first | (apply WL.pure; rfl; rfl; rfl) | (apply WL.nil) | (apply EX.thenN) | (apply CW.seq) | (apply CW.region)))
    refine CW.cond rfl (fun h => ?_) (fun h => ?_)
    · have h : i < kids.length := by simpa using h
      (repeat (first | (apply EX.thenN) | (apply CW.seq) | (apply CW.region) | (apply CW.block) | (apply CW.skip)))
      refine WL.elemN rfl rfl rfl rfl rfl (hs.up0 hE5 hF) h (fun _ => rfl) (fun u q hu => ?_)
      obtain ⟨uo, uc, rfl, hku⟩ := Rd.ltl hu
      refine WL.alloc rfl rfl (fun w6 hx hE6 => ?_)
      refine WL.st rfl rfl rfl hx rfl rfl (ones_of rfl) (fun w7 hx7 hg7 => ?_)
      have e7 : Ext w5 w7 := hE6.grown hg7 hE6.size (fun g hg => by cases hg; exact Nat.le_refl _)
      have hE7 := hE5.trans e7
      have ed := Ext.drew w7
      have hd := hE7.trans ed
      have ho7 := (ho5.ext e7).ext ed
      have hxd := hx7.ext ed
      have hG7 := (hG5.ext e7).ext ed
      have hlx := hx7.lt
      have hz7 := e7.size
      have hKo : ∀ x, (fun x : World => x.heap[w2.heap.size]? = (drew w7).heap[w2.heap.size]? ∧ x.heap[w5.heap.size]? = (drew w7).heap[w5.heap.size]?) x → x.heap[w2.heap.size]? = (drew w7).heap[w2.heap.size]? := fun _ h => h.1
      have hKx : ∀ x, (fun x : World => x.heap[w2.heap.size]? = (drew w7).heap[w2.heap.size]? ∧ x.heap[w5.heap.size]? = (drew w7).heap[w5.heap.size]?) x → x.heap[w5.heap.size]? = (drew w7).heap[w5.heap.size]? := fun _ h => h.2
      (repeat (first | (apply WL.nil) | (apply EX.thenN)))
      refine CW.drawE (fun x : World => x.heap[w2.heap.size]? = (drew w7).heap[w2.heap.size]? ∧ x.heap[w5.heap.size]? = (drew w7).heap[w5.heap.size]?) [(0, true), (1, true), (2, true), (3, false), (4, false), (5, false), (6, true)] 7 mixed (by kernel_rfl) ⟨rfl, rfl⟩ ?_
      (repeat (first | (refine HL.fa rfl rfl rfl rfl ?_) | (refine HL.ldK (by assumption) rfl rfl rfl rfl (by assumption) rfl ?_)))
      refine HL.ldAK hKx rfl rfl rfl rfl hxd rfl ?_
      skip
      have hFd : ∀ b, F b → b < (drew w7).heap.size := fun b hb => Nat.lt_of_lt_of_le (hF b hb) hd.size
      have hku' : Sl (drew w7) F uo uc (kids[i]).kids := hku.up0 (e7.trans ed) (fun b hb => Nat.lt_of_lt_of_le (hF b hb) hE5.size)
      refine HL.mut rfl (WL.call rfl rfl rfl (ih kids[i] (nodes_kid' hm h) (wf_kid hwf h) (drew w7) F uo uc hku' hFd) ?_)
      rintro v w8 ⟨hv, e8⟩
      have ho8 := ho7.ext e8
      have hG8 := hG7.ext e8
      have hsz8 : w7.heap.size ≤ w8.heap.size := e8.size
      refine WL.nil (EX.mut ⟨e8.block _ ho7.lt, e8.block _ hlx⟩ ?_)
      have hgl := hG7.lt
      obtain ⟨F', hF', hO, hsub⟩ := hG8.open (Fu := Nw (drew w7) w8) (fun b hb => ⟨Nat.le_trans hsz5 (Nat.le_trans hz7 hb.1), hb.2⟩) (fun g hg hb => by have := (hgl g hg).2; have := hb.1; omega)
      have hnl : (plainLs (kids.take i)).length = i := by rw [plainLs_map, List.length_map, List.length_take]; omega
      have hgl5 := hG5.lt
      refine HL.app1 (bytes := 40) (F := F') rfl rfl rfl rfl (fun _ => rfl) rfl rfl (fun _ => rfl) hO (hv.wk hsub) (by omega) (fun b hb => (hF' b hb).2) (by decide) (by rw [hnl]; unfold maxLen; omega) (by rw [hnl]; omega)
        (fun w' hg' => ⟨(hg'.block _ ho8.lt (fun e => ?_)).trans (e8.block _ ho7.lt), (hg'.block _ (by omega) (fun e => ?_)).trans (e8.block _ hlx)⟩) (fun cV w9 q2 hO9 hg9 hnb => ?_)
      · have := (hgl5 _ e.symm).1; omega
      · have := (hgl5 _ e.symm).2; omega
      have hG9 : Grow w4.heap.size 68 w9 cV (plainLs (kids.take i) ++ [plainL kids[i]]) := ⟨F', fun b hb => ⟨(hF' b hb).1, Nat.lt_of_lt_of_le (hF' b hb).2 hg9.size⟩, hO9⟩
      rw [show plainLs (kids.take i) ++ [plainL kids[i]] = plainLs (kids.take (i + 1)) by rw [plainLs_map, plainLs_map, List.take_succ_eq_append_getElem h, List.map_append]; rfl] at hG9
      obtain ⟨co, cc, rfl, _⟩ := hG9.sl
      have hnr : ∀ r, r < w4.heap.size → some r ≠ kv.ownBlock := fun r hr e => by have := (hgl5 _ e.symm).1; omega
      have ho9 := ho8.kept hg9 (hnr _ (by omega))
      have hf9 := ((((hf5.ext e7).ext ed).ext e8)).kept hg9 (hnr _ (by omega))
      have hr9 := ((((hr5.ext e7).ext ed).ext e8)).kept hg9 (hnr _ (by omega))
      have hE8 := hd.trans e8
      have hE9 : Ext w w9 := hE8.grown hg9 hE8.size (fun g hg => by have := (hgl5 g hg).1; omega)
      (repeat (first | (refine HL.fa rfl rfl rfl rfl ?_) | (apply HL.nil)))
      refine EX.tail rfl (WL.st rfl rfl rfl ho9 rfl rfl (ones_of rfl) (fun w10 ho10 hg10 => WL.nil (EX.tailE ?_)))
      have hE10 : Ext w w10 := hE9.grown hg10 hE9.size (fun g hg => by cases hg; omega)
      have hsz9 := hg9.size
      have hsz10 := hg10.size
      (repeat (first | (apply WL.add; rfl; rfl; rfl; rfl; omega; omega) | (apply WL.pure; rfl; rfl; rfl) | (apply WL.nil) | (apply EX.thenN) | (apply CW.region) | (apply EX.inN)))
      exact EX.back (i + 1, .slice co (plainLs (kids.take (i + 1))).length cc) (by repeat (first | exact trivial | refine ⟨rfl, ?_⟩)) ⟨h, hE10, by omega, hf9.kept hg10 (fun e => by have := Option.some.inj e; omega), hr9.kept hg10 (fun e => by have := Option.some.inj e; omega), ho10, hG9.kept hg10 (by omega)⟩ (by dsimp only; omega)
    · have h : ¬ i < kids.length := by simpa using h
      have hik : i = kids.length := by omega
      subst hik
      rw [List.take_length] at hG5
      obtain ⟨co, cc, rfl, hsl⟩ := hG5.sl
      have hnl : (plainLs kids).length = kids.length := by rw [plainLs_map, List.length_map]
      have hout : Rd w5 (fun b => w4.heap.size ≤ b ∧ b < w5.heap.size) (ltlV k n co (plainLs kids).length cc) (Ltl.mk k n (plainLs kids)) := Rd.mkLtl hsl
      have hN : plainL (.mk k n kids) = if k = 10 then Ltl.mk 8 0 [.mk 1 0 [], (plainLs kids).getD 0 (.mk 0 0 [])] else if k = 11 then .mk 9 0 [.mk 2 0 [], (plainLs kids).getD 0 (.mk 0 0 [])] else .mk k n (plainLs kids) := by simp only [plainL]
      rw [hN]
      have hone : k = 10 ∨ k = 11 → 0 < (plainLs kids).length := by
        intro hc
        rw [hnl]
        have h := hwf
        simp only [wfT] at h
        have h1 := h.1
        unfold kidsK at h1
        rw [if_neg (by omega), if_pos (by omega)] at h1
        omega
      have fin : ∀ (w8 w9 : World) (F' : Nat → Prop) (v : Value) (t' : Ltl), Rd w8 F' v t' → (∀ b, F' b → w4.heap.size ≤ b ∧ b < w8.heap.size) → w8.grownBy w9 (some w1.heap.size) → Rd w9 (Nw w w9) v t' := by
        intro w8 w9 F' v t' hv hF' hg
        exact (hv.kept hg (fun b hb => ⟨(hF' b hb).2, fun e => by have := Option.some.inj e; have := (hF' b hb).1; omega⟩)).wk (fun b hb => ⟨by have := (hF' b hb).1; omega, Nat.lt_of_lt_of_le (hF' b hb).2 hg.size⟩)
      (repeat (first | (apply WL.pure; rfl; rfl; rfl) | (apply WL.nil) | (apply EX.thenN) | (apply CW.seq) | (apply CW.region) | (apply WL.fa; rfl; rfl; rfl) | (apply WL.ld; rfl; rfl; rfl; assumption; rfl) | (apply CW.block) | (apply CW.exit) | (apply EX.thenX) | (apply EX.inX)))
      cases h10 : (k == 10) with
      | true =>
        have h10 : k = 10 := by simpa using h10
        have h0 := hone (.inl h10)
        rw [if_pos h10]
        have hdr := Ext.drew w5
        have ho6 := ho5.ext hdr
        have hz5 : w5.heap.size = (drew w5).heap.size := rfl
        have hK : ∀ x, (fun x : World => SO w1.heap.size (drew w5) x) x → x.heap[w2.heap.size]? = (drew w5).heap[w2.heap.size]? := fun x hx => hx.2 _ (by omega) ho6.lt
        (repeat (first | (apply CW.seq) | (apply CW.condT; rfl)))
        refine CW.drawH (fun x : World => SO w1.heap.size (drew w5) x) [(1, true), (2, true), (3, true), (4, true), (0, false), (5, false), (6, false)] mixed (by kernel_rfl) (SO.refl _ _) ?_
        (repeat (first | (refine HL.fa rfl rfl rfl rfl ?_) | (refine HL.ldK (by assumption) rfl rfl rfl rfl (by assumption) rfl ?_)))
        refine HL.elemK (w := drew w5) (F := fun b => w4.heap.size ≤ b ∧ b < w5.heap.size) (k := 0) (fun x hx b hb => hx.2 b (by have := hb.1; omega) hb.2) rfl rfl rfl rfl rfl rfl rfl (hsl.up0 hdr (fun b hb => hb.2)) h0 (fun _ => rfl) (fun u q hu => ?_)
        refine HL.mut rfl (WL.call rfl rfl rfl (pu_leaf (drew w5) Non 1) ?_)
        rintro lf w6 ⟨hlf, e6⟩
        refine WL.nil (EX.mut ((SO.refl _ _).ext e6) ?_)
        have hz6 : w5.heap.size ≤ w6.heap.size := e6.size
        have hu6 : Rd w6 (fun b => w4.heap.size ≤ b ∧ b < w5.heap.size) u (plainLs kids)[0] := hu.up0 e6 (fun b hb => hb.2)
        refine HL.mut rfl (WL.call rfl rfl rfl (pu_two w6 (F := fun b => w4.heap.size ≤ b ∧ b < w5.heap.size) (fun b hb => Nat.lt_of_lt_of_le hb.2 hz6) 8 (hlf.wk fun _ h => h.elim) hu6) ?_)
        rintro v w7 ⟨hv, e7⟩
        obtain ⟨vo, vc, rfl, hkv⟩ := Rd.ltl hv
        refine WL.nil (EX.mut (((SO.refl _ _).ext e6).ext e7) ?_)
        have hz7 := e7.size
        refine HL.mut rfl (WL.st rfl rfl rfl (((hr5.ext hdr).ext e6).ext e7) rfl rfl (ones_of rfl) (fun w8 hr8 hg8 => ?_))
        refine WL.nil (EX.mut ((((SO.refl _ _).ext e6).ext e7).st hg8) (HL.nil ?_))
        have hE7 := ((hE5.trans hdr).trans e6).trans e7
        have hgd : (plainLs kids).getD 0 (.mk 0 0 []) = (plainLs kids)[0] := by simp [List.getD_eq_getElem?_getD, h0]
        (repeat (first | (apply EX.thenN) | (apply CW.ret) | (apply EX.thenR) | (apply EX.inR)))
        refine EX.retC rfl rfl hr8 rfl ⟨?_, hE7.grown hg8 hE7.size (fun g hg => by cases hg; omega)⟩
        rw [hgd]
        refine fin _ _ _ _ _ hv (fun b hb => ?_) hg8
        rcases hb with hb | hb
        · exact ⟨hb.1, by have := hb.2; omega⟩
        · exact ⟨by have := hb.1; omega, hb.2⟩
      | false =>
      have h10 : k ≠ 10 := by simpa using h10
      rw [if_neg h10]
      (repeat (first | (apply WL.pure; rfl; rfl; rfl) | (apply WL.nil) | (apply EX.thenN) | (apply CW.seq) | (apply CW.region) | (apply CW.condF; rfl)))
      cases h11 : (k == 11) with
      | true =>
        have h11 : k = 11 := by simpa using h11
        have h0 := hone (.inr h11)
        rw [if_pos h11]
        have hdr := Ext.drew w5
        have ho6 := ho5.ext hdr
        have hz5 : w5.heap.size = (drew w5).heap.size := rfl
        have hK : ∀ x, (fun x : World => SO w1.heap.size (drew w5) x) x → x.heap[w2.heap.size]? = (drew w5).heap[w2.heap.size]? := fun x hx => hx.2 _ (by omega) ho6.lt
        (repeat (first | (apply CW.seq) | (apply CW.condT; rfl)))
        refine CW.drawH (fun x : World => SO w1.heap.size (drew w5) x) [(1, true), (2, true), (3, true), (4, true), (0, false), (5, false), (6, false)] mixed (by kernel_rfl) (SO.refl _ _) ?_
        (repeat (first | (refine HL.fa rfl rfl rfl rfl ?_) | (refine HL.ldK (by assumption) rfl rfl rfl rfl (by assumption) rfl ?_)))
        refine HL.elemK (w := drew w5) (F := fun b => w4.heap.size ≤ b ∧ b < w5.heap.size) (k := 0) (fun x hx b hb => hx.2 b (by have := hb.1; omega) hb.2) rfl rfl rfl rfl rfl rfl rfl (hsl.up0 hdr (fun b hb => hb.2)) h0 (fun _ => rfl) (fun u q hu => ?_)
        refine HL.mut rfl (WL.call rfl rfl rfl (pu_leaf (drew w5) Non 2) ?_)
        rintro lf w6 ⟨hlf, e6⟩
        refine WL.nil (EX.mut ((SO.refl _ _).ext e6) ?_)
        have hz6 : w5.heap.size ≤ w6.heap.size := e6.size
        have hu6 : Rd w6 (fun b => w4.heap.size ≤ b ∧ b < w5.heap.size) u (plainLs kids)[0] := hu.up0 e6 (fun b hb => hb.2)
        refine HL.mut rfl (WL.call rfl rfl rfl (pu_two w6 (F := fun b => w4.heap.size ≤ b ∧ b < w5.heap.size) (fun b hb => Nat.lt_of_lt_of_le hb.2 hz6) 9 (hlf.wk fun _ h => h.elim) hu6) ?_)
        rintro v w7 ⟨hv, e7⟩
        obtain ⟨vo, vc, rfl, hkv⟩ := Rd.ltl hv
        refine WL.nil (EX.mut (((SO.refl _ _).ext e6).ext e7) ?_)
        have hz7 := e7.size
        refine HL.mut rfl (WL.st rfl rfl rfl (((hr5.ext hdr).ext e6).ext e7) rfl rfl (ones_of rfl) (fun w8 hr8 hg8 => ?_))
        refine WL.nil (EX.mut ((((SO.refl _ _).ext e6).ext e7).st hg8) (HL.nil ?_))
        have hE7 := ((hE5.trans hdr).trans e6).trans e7
        have hgd : (plainLs kids).getD 0 (.mk 0 0 []) = (plainLs kids)[0] := by simp [List.getD_eq_getElem?_getD, h0]
        (repeat (first | (apply EX.thenN) | (apply CW.ret) | (apply EX.thenR) | (apply EX.inR)))
        refine EX.retC rfl rfl hr8 rfl ⟨?_, hE7.grown hg8 hE7.size (fun g hg => by cases hg; omega)⟩
        rw [hgd]
        refine fin _ _ _ _ _ hv (fun b hb => ?_) hg8
        rcases hb with hb | hb
        · exact ⟨hb.1, by have := hb.2; omega⟩
        · exact ⟨by have := hb.1; omega, hb.2⟩
      | false =>
        have h11 : k ≠ 11 := by simpa using h11
        rw [if_neg h11]
        (repeat (first | (apply EX.thenN) | (apply CW.seq) | (apply CW.region) | (apply WL.ldA; rfl; rfl; rfl; assumption; rfl) | (apply EX.inN) | (apply CW.condF; rfl) | (apply CW.skip)))
        refine WL.st rfl rfl rfl hr5 rfl rfl (ones_of rfl) (fun w6 hr6 hg6 => ?_)
        (repeat (first | (apply WL.nil) | (apply EX.thenN) | (apply CW.ret)))
        exact EX.retC rfl rfl hr6 rfl ⟨fin _ _ _ _ _ hout (fun b hb => hb) hg6, hE5.grown hg6 hE5.size (fun g hg => by cases hg; omega)⟩
/-- what told answers -/
def toldE (t : Ltl) : Ltl × Int := if (chkF t 1 0).1 ≠ 0 then (.mk 0 0 [], (chkF t 1 0).1) else (t, 0)
theorem told_ok (w : World) {F : Nat → Prop} {v : Value} {t : Ltl} (h : Rd w F v t) (hF : ∀ b, F b → b < w.heap.size) :
    Rt Try.prog 131 [v].toArray w fun u w' => ∃ x, u = .tuple ⟨[x, .int .i64 (toldE t).2]⟩ ∧ Rd w' F x (toldE t).1 ∧ Ext w w' := by
  obtain ⟨ao, cap, rfl, hk⟩ := Rd.ltl h
  refine Rt.enter1 Try.func131 Try.ntmps131 rfl rfl ?_
  (repeat (first | (apply CW.seq) | (apply CW.region)))
  refine WL.boxB rfl rfl rfl fun w1 hf hE1 => ?_
  refine WL.alloc rfl rfl (fun w2 hr hE2 => ?_)
  have hf := hf.ext hE2
  have hE12 := hE1.trans hE2
  (repeat (first | (apply WL.pure; rfl; rfl; rfl) | (apply WL.nil) | (apply EX.thenN) | (apply CW.seq) | (apply CW.region) | (apply WL.ldA; rfl; rfl; rfl; assumption; rfl)))
  refine WL.call rfl rfl rfl (ltlCheck w2 (hk.up0 hE12 hF) (fun b hb => Nat.lt_of_lt_of_le (hF b hb) hE12.size)) ?_
  rintro _ w3 ⟨rfl, e3⟩
  have hf3 := hf.ext e3
  have hr3 := hr.ext e3
  have hE3 := hE12.trans e3
  have hz1 := hE1.size
  have fin : ∀ w8, w3.grownBy w8 (some w1.heap.size) → Ext w w8 := fun w8 hg => hE3.grown hg hE3.size (fun g hg => by cases hg; omega)
  (repeat (first | (apply WL.pure; rfl; rfl; rfl) | (apply WL.nil) | (apply EX.thenN) | (apply CW.seq) | (apply CW.region)))
  unfold toldE
  refine CW.cond rfl (fun h0 => ?_) (fun h0 => ?_)
  · have h0 : (chkF t 1 0).1 ≠ 0 := by simpa using h0
    rw [if_pos h0]
    (repeat (first | (apply CW.seq) | (apply CW.region)))
    refine WL.build (parts := []) rfl rfl rfl rfl ?_
    (repeat (apply WL.pure; rfl; rfl; rfl))
    refine WL.st rfl rfl rfl hr3 rfl rfl (ones_of rfl) (fun w4 hr4 hg4 => ?_)
    (repeat (first | (apply WL.pure; rfl; rfl; rfl) | (apply WL.nil) | (apply EX.thenN) | (apply CW.ret) | (apply EX.thenR)))
    exact EX.retC2 rfl rfl rfl hr4 rfl ⟨_, rfl, Rd.mkLtl (kids := []) (Sl.zero _ _), fin _ hg4⟩
  · have h0 : (chkF t 1 0).1 = 0 := by simpa using h0
    rw [if_neg (by simp [h0])]
    (repeat (first | (apply EX.thenN) | (apply CW.seq) | (apply CW.region) | (apply WL.ldA; rfl; rfl; rfl; assumption; rfl) | (apply CW.skip)))
    refine WL.st rfl rfl rfl hr3 rfl rfl (ones_of rfl) (fun w4 hr4 hg4 => ?_)
    (repeat (first | (apply WL.pure; rfl; rfl; rfl) | (apply WL.nil) | (apply EX.thenN) | (apply CW.ret)))
    exact EX.retC2 rfl rfl rfl hr4 rfl ⟨_, rfl, Rd.up0 h (fin _ hg4) hF, fin _ hg4⟩
def notsE (t : Ltl) : Ltl × Int := if (chkF t 1 0).1 ≠ 0 then (.mk 0 0 [], (chkF t 1 0).1) else toldE (notsL t false)
def plainE (t : Ltl) : Ltl × Int := if (chkF t 1 0).1 ≠ 0 then (.mk 0 0 [], (chkF t 1 0).1) else toldE (plainL t)
theorem Plain_ok (w : World) {F : Nat → Prop} {t : Ltl} {ao : Option Addr} {cap : Nat} (hk : Sl w F ao cap t.kids) (hF : ∀ b, F b → b < w.heap.size) :
    Rt Try.prog 76 [ltlV t.k t.n ao t.kids.length cap].toArray w fun u w' => ∃ x, u = .tuple ⟨[x, .int .i64 (plainE t).2]⟩ ∧ Rd w' (Nw w w') x (plainE t).1 ∧ Ext w w' := by
  refine Rt.enter1 Try.func76 Try.ntmps76 rfl rfl ?_
  (repeat (first | (apply CW.seq) | (apply CW.region)))
  refine WL.boxB rfl rfl rfl fun w1 hf hE1 => ?_
  refine WL.alloc rfl rfl (fun w2 hr hE2 => ?_)
  have hf := hf.ext hE2
  have hE12 := hE1.trans hE2
  have hF2 : ∀ b, F b → b < w2.heap.size := fun b hb => Nat.lt_of_lt_of_le (hF b hb) hE12.size
  (repeat (first | (apply WL.pure; rfl; rfl; rfl) | (apply WL.nil) | (apply EX.thenN) | (apply CW.seq) | (apply CW.region) | (apply WL.ldA; rfl; rfl; rfl; assumption; rfl)))
  refine WL.call rfl rfl rfl (ltlCheck w2 (hk.up0 hE12 hF) hF2) ?_
  rintro _ w3 ⟨rfl, e3⟩
  have hf3 := hf.ext e3
  have hr3 := hr.ext e3
  have hE3 := hE12.trans e3
  have hz1 := hE1.size
  have hz2 := hE2.size
  have hlr := hr.lt
  have hz3 := e3.size
  (repeat (first | (apply WL.pure; rfl; rfl; rfl) | (apply WL.nil) | (apply EX.thenN) | (apply CW.seq) | (apply CW.region)))
  unfold plainE
  refine CW.cond rfl (fun h0 => ?_) (fun h0 => ?_)
  · have h0 : (chkF t 1 0).1 ≠ 0 := by simpa using h0
    rw [if_pos h0]
    (repeat (first | (apply CW.seq) | (apply CW.region)))
    refine WL.build (parts := []) rfl rfl rfl rfl ?_
    (repeat (apply WL.pure; rfl; rfl; rfl))
    refine WL.st rfl rfl rfl hr3 rfl rfl (ones_of rfl) (fun w4 hr4 hg4 => ?_)
    (repeat (first | (apply WL.pure; rfl; rfl; rfl) | (apply WL.nil) | (apply EX.thenN) | (apply CW.ret) | (apply EX.thenR)))
    exact EX.retC2 rfl rfl rfl hr4 rfl ⟨_, rfl, Rd.mkLtl (kids := []) (Sl.zero _ _), hE3.grown hg4 hE3.size (fun g hg => by cases hg; omega)⟩
  · have h0 : (chkF t 1 0).1 = 0 := by simpa using h0
    rw [if_neg (by simp [h0])]
    (repeat (first | (apply EX.thenN) | (apply CW.seq) | (apply CW.region) | (apply WL.ldA; rfl; rfl; rfl; assumption; rfl) | (apply CW.skip)))
    refine WL.call rfl rfl rfl (plain_ok t.nodes t (Nat.le_refl _) (chkF_wf t 1 0 h0) w3 F ao cap (hk.up0 hE3 hF) (fun b hb => Nat.lt_of_lt_of_le (hF b hb) hE3.size)) ?_
    rintro v w4 ⟨hv, e4⟩
    refine WL.call rfl rfl rfl (told_ok w4 hv (fun b hb => hb.2)) ?_
    rintro _ w5 ⟨x, rfl, hx, e5⟩
    obtain ⟨xo, xc, rfl, hkx⟩ := Rd.ltl hx
    have hE5 := (hE3.trans e4).trans e5
    have hz4 := e4.size
    have hz5 := e5.size
    (repeat (apply WL.pure; rfl; rfl; rfl))
    refine WL.st rfl rfl rfl ((hr3.ext e4).ext e5) rfl rfl (ones_of rfl) (fun w6 hr6 hg6 => ?_)
    (repeat (first | (apply WL.pure; rfl; rfl; rfl) | (apply WL.nil) | (apply EX.thenN) | (apply CW.ret)))
    refine EX.retC2 rfl rfl rfl hr6 rfl ⟨_, rfl, ?_, hE5.grown hg6 hE5.size (fun g hg => by cases hg; omega)⟩
    exact (hx.kept hg6 (fun b hb => ⟨Nat.lt_of_lt_of_le hb.2 hz5, fun e => by have := Option.some.inj e; have := hb.1; omega⟩)).wk (fun b hb => ⟨by have := hb.1; omega, Nat.lt_of_lt_of_le hb.2 (Nat.le_trans hz5 hg6.size)⟩)
end Go.Proofs.Ytllpfgcngokhnaa
/-
  slices.Reverse at []int: the kit's proof, over our own rows.
-/
set_option linter.unusedVariables false
set_option linter.unusedSimpArgs false
namespace Go.Proofs.Ytllpfgcngokhnaa
open Go.RowKit Go.Shelf

def revRen : Ren := ⟨fun _ => 99, fun x => if Nat.beq x 3 = true then 3 else if Nat.beq x 4 = true then 4 else if Nat.beq x 28 = true then 22 else 0, fun x => x⟩
set_option maxRecDepth 100000 in
theorem revLays : Lays.n112 Try.prog revRen where
  mixed := by kernel_rfl
  f112 := (Try.func99).trans (by kernel_rfl)
  t0 := by kernel_rfl
  a0 := fun w => rfl
  z0 := fun w => rfl
  v0 := fun w => rfl
  t3 := Try.underlying3
  a3 := Try.isAgg3
  z3 := Try.sizeOf3
  v3 := Try.zeroValue3
  t4 := Try.underlying4
  a4 := Try.isAgg4
  z4 := Try.sizeOf4
  v4 := Try.zeroValue4
  t28 := Try.underlying22
  a28 := Try.isAgg22
  z28 := Try.sizeOf22
  v28 := Try.zeroValue22
theorem elems_get {w : World} {F : Nat → Prop} {cells : List Value} {xs : List Int} (h : Elems w F cells xs) : cells = xs.map fun x => Value.int .i64 x := by
  refine List.ext_getElem (by rw [List.length_map, h.1]; show _ * 1 = _; omega) fun i h1 h2 => ?_
  rw [List.length_map] at h2
  have h3 := h.2 i h2
  have hz : sz Int = 1 := rfl
  rw [hz, Nat.mul_one] at h3
  have h4 := rd_int h3
  have h5 := congrArg (fun l : List Value => l[0]?) h4
  simp only [List.getElem?_take_of_lt (show 0 < 1 by omega), List.getElem?_drop, Nat.add_zero, List.getElem?_eq_getElem h1] at h5
  simpa using h5
theorem elems_ints (w : World) (F : Nat → Prop) : ∀ xs : List Int, Elems w F (xs.map fun x => Value.int .i64 x) xs
  | [] => Elems.nil
  | x :: r => by
    have := (Elems.one (rd_mkInt w F x)).append (elems_ints w F r)
    simpa using this
theorem reverse_int (w : World) {B : Nat} {v : Value} {xs : List Int} (ho : Own w B 3 Non v xs) :
    Rt Try.prog 99 [v].toArray w fun u w' => u = .tuple #[] ∧ Own w' B 3 Non v xs.reverse ∧ w.grownBy w' v.ownBlock := by
  have hgr : w.grownBy w v.ownBlock := ⟨rfl, rfl, rfl, Nat.le_refl _, fun _ _ _ => rfl⟩
  rcases ho with ⟨rfl, rfl⟩ | ⟨g, off, cap, cur, rfl, ho⟩
  · refine Calls.mono (Any.slices_Reverse_int_empty revLays none 0 w) ?_
    rintro e w' ⟨rfl, rfl⟩
    exact ⟨_, rfl, rfl, Own.nil, hgr⟩
  · have hz : sz Int = 1 := rfl
    have hfit := ho.fit
    have hle := ho.le
    have hmx := ho.mx
    have hel := elems_get ho.el
    rw [hz, Nat.mul_one] at hfit hel
    have hcell : ∀ j (hj : j < xs.length), cur[off + j]? = some (Value.int .i64 xs[j]) := fun j hj => by
      have h1 : ((cur.toList.drop off).take xs.length)[j]? = (xs.map fun x => Value.int .i64 x)[j]? := by rw [hel]
      rw [List.getElem?_take_of_lt hj, List.getElem?_drop, List.getElem?_map, List.getElem?_eq_getElem hj] at h1
      simpa using h1
    have hH : Sort.Holds (Value.int .i64) w g off xs.toArray := fun j hj => by
      have hj' : j < xs.length := by simpa using hj
      constructor
      · have : xs.toArray[j]! = xs[j] := by simp [hj']
        rw [this]
        simp [World.cell?, ho.blk, hcell j hj']
      · simp [World.frozen?, ho.blk]
    refine Calls.mono (Any.slices_Reverse_int revLays g off cap xs w hH (by unfold maxLen at hmx; omega)) ?_
    rintro e w' ⟨rfl, n, rfl⟩
    have hheap : (Sort.putRow (Value.int .i64) (Sort.ahead w n) g off xs.reverse.toArray).heap[g]? = some (.cells (Sort.putCells (Value.int .i64) off xs.reverse.toArray cur) 3 (0, 0)) := by
      show (w.heap.modify g _)[g]? = _
      rw [Array.getElem?_modify, if_pos rfl, ho.blk]; rfl
    have hother : ∀ k, k ≠ g → (Sort.putRow (Value.int .i64) (Sort.ahead w n) g off xs.reverse.toArray).heap[k]? = w.heap[k]? := fun k hk => by
      show (w.heap.modify g _)[k]? = _
      rw [Array.getElem?_modify, if_neg (fun e => hk e.symm)]
    have hsize : (Sort.putRow (Value.int .i64) (Sort.ahead w n) g off xs.reverse.toArray).heap.size = w.heap.size := by
      show (w.heap.modify g _).size = _
      rw [Array.size_modify]
    have hos : (Sort.putRow (Value.int .i64) (Sort.ahead w n) g off xs.reverse.toArray).os = w.os := rfl
    have htp : (Sort.putRow (Value.int .i64) (Sort.ahead w n) g off xs.reverse.toArray).tape = w.tape := rfl
    have hou : (Sort.putRow (Value.int .i64) (Sort.ahead w n) g off xs.reverse.toArray).output = w.output := rfl
    generalize Sort.putRow (Value.int .i64) (Sort.ahead w n) g off xs.reverse.toArray = w' at *
    have hps : (Sort.putCells (Value.int .i64) off xs.reverse.toArray cur).size = cur.size := by simp [Sort.putCells]
    refine ⟨_, rfl, rfl, .inr ⟨g, off, cap, _, by rw [List.length_reverse], ⟨hheap, ho.ge, ho.nF, by simpa using hle, hmx, by rw [hps, hz]; omega, ?_⟩⟩, ⟨hos, htp, hou, by omega, fun k _ hk => hother k (fun e => hk (by rw [e]; rfl))⟩⟩
    have e1 : (((Sort.putCells (Value.int .i64) off xs.reverse.toArray cur).toList.drop off).take (xs.reverse.length * sz Int)) = xs.reverse.map fun x => Value.int .i64 x := by
      rw [hz, Nat.mul_one]
      refine List.ext_getElem? fun j => ?_
      by_cases hj : j < xs.length
      · rw [List.getElem?_take_of_lt (by simpa using hj), List.getElem?_drop, Array.getElem?_toList, Sort.putCells, Array.getElem?_mapIdx, hcell j hj, List.getElem?_map, List.getElem?_eq_getElem (by simpa using hj)]
        simp [hj, show off + j < off + xs.length by omega]
      · rw [List.getElem?_eq_none (by simp; try omega), List.getElem?_eq_none (by simp; try omega)]
    rw [e1]
    exact elems_ints _ _ _
end Go.Proofs.Ytllpfgcngokhnaa
/-
  slices.Sort at []int: the kit's proof, over our own rows.
-/
set_option linter.unusedVariables false
set_option linter.unusedSimpArgs false
namespace Go.Proofs.Ytllpfgcngokhnaa
open Go.RowKit Go.Shelf

def sortRen : Ren := ⟨fun x => if Nat.beq x 125 = true then 135 else if Nat.beq x 128 = true then 169 else if Nat.beq x 129 = true then 170 else if Nat.beq x 189 = true then 78 else if Nat.beq x 215 = true then 189 else if Nat.beq x 216 = true then 166 else if Nat.beq x 257 = true then 134 else if Nat.beq x 294 = true then 160 else if Nat.beq x 295 = true then 161 else if Nat.beq x 296 = true then 162 else if Nat.beq x 297 = true then 163 else if Nat.beq x 298 = true then 164 else if Nat.beq x 299 = true then 165 else if Nat.beq x 300 = true then 167 else if Nat.beq x 301 = true then 168 else if Nat.beq x 328 = true then 184 else if Nat.beq x 329 = true then 185 else if Nat.beq x 330 = true then 186 else if Nat.beq x 331 = true then 187 else if Nat.beq x 332 = true then 188 else if Nat.beq x 343 = true then 191 else 0, fun x => if Nat.beq x 0 = true then 0 else if Nat.beq x 3 = true then 3 else if Nat.beq x 4 = true then 4 else if Nat.beq x 5 = true then 5 else if Nat.beq x 9 = true then 9 else if Nat.beq x 28 = true then 22 else if Nat.beq x 46 = true then 180 else if Nat.beq x 51 = true then 211 else if Nat.beq x 53 = true then 53 else if Nat.beq x 131 = true then 151 else if Nat.beq x 182 = true then 203 else if Nat.beq x 183 = true then 204 else if Nat.beq x 218 = true then 220 else if Nat.beq x 222 = true then 184 else if Nat.beq x 228 = true then 225 else if Nat.beq x 229 = true then 226 else 0, fun x => x⟩
set_option maxRecDepth 100000 in
theorem sortLays : Lays.n189 Try.prog sortRen where
  mixed := by kernel_rfl
  f125 := (Try.func135).trans (by kernel_rfl)
  f128 := (Try.func169).trans (by kernel_rfl)
  f129 := (Try.func170).trans (by kernel_rfl)
  f189 := (Try.func78).trans (by kernel_rfl)
  f215 := (Try.func189).trans (by kernel_rfl)
  f216 := (Try.func166).trans (by kernel_rfl)
  f257 := (Try.func134).trans (by kernel_rfl)
  f294 := (Try.func160).trans (by kernel_rfl)
  f295 := (Try.func161).trans (by kernel_rfl)
  f296 := (Try.func162).trans (by kernel_rfl)
  f297 := (Try.func163).trans (by kernel_rfl)
  f298 := (Try.func164).trans (by kernel_rfl)
  f299 := (Try.func165).trans (by kernel_rfl)
  f300 := (Try.func167).trans (by kernel_rfl)
  f301 := (Try.func168).trans (by kernel_rfl)
  f328 := (Try.func184).trans (by kernel_rfl)
  f329 := (Try.func185).trans (by kernel_rfl)
  f330 := (Try.func186).trans (by kernel_rfl)
  f331 := (Try.func187).trans (by kernel_rfl)
  f332 := (Try.func188).trans (by kernel_rfl)
  f343 := (Try.func191).trans (by kernel_rfl)
  t0 := Try.underlying0
  a0 := Try.isAgg0
  z0 := Try.sizeOf0
  v0 := Try.zeroValue0
  t3 := Try.underlying3
  a3 := Try.isAgg3
  z3 := Try.sizeOf3
  v3 := Try.zeroValue3
  t4 := Try.underlying4
  a4 := Try.isAgg4
  z4 := Try.sizeOf4
  v4 := Try.zeroValue4
  t5 := Try.underlying5
  a5 := Try.isAgg5
  z5 := Try.sizeOf5
  v5 := Try.zeroValue5
  t9 := Try.underlying9
  a9 := Try.isAgg9
  z9 := Try.sizeOf9
  v9 := Try.zeroValue9
  t28 := Try.underlying22
  a28 := Try.isAgg22
  z28 := Try.sizeOf22
  v28 := Try.zeroValue22
  t46 := Try.underlying180
  a46 := Try.isAgg180
  z46 := Try.sizeOf180
  v46 := Try.zeroValue180
  t51 := Try.underlying211
  a51 := Try.isAgg211
  z51 := Try.sizeOf211
  v51 := Try.zeroValue211
  t53 := Try.underlying53
  a53 := Try.isAgg53
  z53 := Try.sizeOf53
  v53 := Try.zeroValue53
  t131 := Try.underlying151
  a131 := Try.isAgg151
  z131 := Try.sizeOf151
  v131 := Try.zeroValue151
  t182 := Try.underlying203
  a182 := Try.isAgg203
  z182 := Try.sizeOf203
  v182 := Try.zeroValue203
  t183 := Try.underlying204
  a183 := Try.isAgg204
  z183 := Try.sizeOf204
  v183 := Try.zeroValue204
  t218 := Try.underlying220
  a218 := Try.isAgg220
  z218 := Try.sizeOf220
  v218 := Try.zeroValue220
  t222 := Try.underlying184
  a222 := Try.isAgg184
  z222 := Try.sizeOf184
  v222 := Try.zeroValue184
  t228 := Try.underlying225
  a228 := Try.isAgg225
  z228 := Try.sizeOf225
  v228 := Try.zeroValue225
  t229 := Try.underlying226
  a229 := Try.isAgg226
  z229 := Try.sizeOf226
  v229 := Try.zeroValue226
theorem ext_grow (w : World) (os : Array Obj) : Ext w (Sort.grow w os) := ⟨rfl, rfl, rfl, by simp [Sort.grow], fun k hk => by simp [Sort.grow, Array.getElem?_append_left hk]⟩
theorem elems_mk (w : World) (F : Nat → Prop) : ∀ xs : List Int, Elems w F (xs.map fun x => Value.int .i64 x) xs := elems_ints w F
def sortI (xs : List Int) : List Int := xs.mergeSort fun x y => decide (x ≤ y)
theorem sortI_mem {xs : List Int} {x : Int} : x ∈ sortI xs ↔ x ∈ xs := List.mem_mergeSort
theorem sortI_len {xs : List Int} : (sortI xs).length = xs.length := List.length_mergeSort xs
theorem sort_int (w : World) {B : Nat} {v : Value} {xs : List Int} (ho : Own w B 3 Non v xs) (hlen : xs.length < 4611686018427387904) :
    Rt Try.prog 78 [v].toArray w fun u w' => u = .tuple #[] ∧ Own w' B 3 Non v (sortI xs) ∧ w.grownBy w' v.ownBlock := by
  have hgr : w.grownBy w v.ownBlock := ⟨rfl, rfl, rfl, Nat.le_refl _, fun _ _ _ => rfl⟩
  rcases ho with ⟨rfl, rfl⟩ | ⟨g, off, cap, cur, rfl, ho⟩
  · refine Calls.mono (Any.slices_Sort_int_none sortLays none 0 w) ?_
    rintro e w' ⟨rfl, rfl⟩
    exact ⟨_, rfl, rfl, by rw [show sortI [] = [] by simp [sortI]]; exact Own.nil, hgr⟩
  · have hz : sz Int = 1 := rfl
    have hfit := ho.fit
    have hle := ho.le
    have hmx := ho.mx
    have hel := elems_get ho.el
    rw [hz, Nat.mul_one] at hfit hel
    have hcell : ∀ j (hj : j < xs.length), cur[off + j]? = some (Value.int .i64 xs[j]) := fun j hj => by
      have h1 : ((cur.toList.drop off).take xs.length)[j]? = (xs.map fun x => Value.int .i64 x)[j]? := by rw [hel]
      rw [List.getElem?_take_of_lt hj, List.getElem?_drop, List.getElem?_map, List.getElem?_eq_getElem hj] at h1
      simpa using h1
    have hH : Sort.Holds (Value.int .i64) w g off xs.toArray := fun j hj => by
      have hj' : j < xs.length := by simpa using hj
      constructor
      · have : xs.toArray[j]! = xs[j] := by simp [hj']
        rw [this]
        simp [World.cell?, ho.blk, hcell j hj']
      · simp [World.frozen?, ho.blk]
    have hsl := sortI_len (xs := xs)
    refine Calls.mono (Any.slices_Sort_int sortLays g off cap xs w hH (Array.getElem?_eq_some_iff.1 ho.blk).1 hlen) ?_
    rintro e w' ⟨rfl, n, os, rfl⟩
    generalize hys : (xs.mergeSort fun x y => decide (x ≤ y)) = ys at *
    have hysl : ys.length = xs.length := by rw [← hys]; exact hsl
    rw [show sortI xs = ys from hys]
    have hheap : (Sort.putRow (Value.int .i64) (Sort.ahead w n) g off ys.toArray).heap[g]? = some (.cells (Sort.putCells (Value.int .i64) off ys.toArray cur) 3 (0, 0)) := by
      show (w.heap.modify g _)[g]? = _
      rw [Array.getElem?_modify, if_pos rfl, ho.blk]; rfl
    have hother : ∀ k, k ≠ g → (Sort.putRow (Value.int .i64) (Sort.ahead w n) g off ys.toArray).heap[k]? = w.heap[k]? := fun k hk => by
      show (w.heap.modify g _)[k]? = _
      rw [Array.getElem?_modify, if_neg (fun e => hk e.symm)]
    have hsize : (Sort.putRow (Value.int .i64) (Sort.ahead w n) g off ys.toArray).heap.size = w.heap.size := by
      show (w.heap.modify g _).size = _
      rw [Array.size_modify]
    have hos : (Sort.putRow (Value.int .i64) (Sort.ahead w n) g off ys.toArray).os = w.os := rfl
    have htp : (Sort.putRow (Value.int .i64) (Sort.ahead w n) g off ys.toArray).tape = w.tape := rfl
    have hou : (Sort.putRow (Value.int .i64) (Sort.ahead w n) g off ys.toArray).output = w.output := rfl
    generalize Sort.putRow (Value.int .i64) (Sort.ahead w n) g off ys.toArray = w1 at *
    have hE : Ext w1 (Sort.grow w1 os) := ext_grow w1 os
    generalize Sort.grow w1 os = w2 at *
    have hps : (Sort.putCells (Value.int .i64) off ys.toArray cur).size = cur.size := by simp [Sort.putCells]
    have ho1 : Own w1 B 3 Non (.slice (some ⟨g, off, none⟩) xs.length cap) ys := by
      refine .inr ⟨g, off, cap, _, by rw [hysl], ⟨hheap, ho.ge, ho.nF, by omega, hmx, by rw [hps, hz]; omega, ?_⟩⟩
      have e1 : (((Sort.putCells (Value.int .i64) off ys.toArray cur).toList.drop off).take (ys.length * sz Int)) = ys.map fun x => Value.int .i64 x := by
        rw [hz, Nat.mul_one]
        refine List.ext_getElem? fun j => ?_
        by_cases hj : j < xs.length
        · rw [List.getElem?_take_of_lt (by omega), List.getElem?_drop, Array.getElem?_toList, Sort.putCells, Array.getElem?_mapIdx, hcell j hj, List.getElem?_map, List.getElem?_eq_getElem (by omega)]
          simp [show j < ys.length by omega, show off + j < off + ys.length by omega]
        · rw [List.getElem?_eq_none (by simp; omega), List.getElem?_eq_none (by simp; omega)]
      rw [e1]
      exact elems_ints _ _ _
    have hg2 : w.grownBy w2 (some g) := ⟨hE.os.trans hos, hE.tape.trans htp, hE.output.trans hou, Nat.le_trans (by omega) hE.size, fun k hk hne => (hE.block k (by omega)).trans (hother k (fun e => hne (by rw [e])))⟩
    exact ⟨_, rfl, rfl, ho1.extN hE, hg2⟩
end Go.Proofs.Ytllpfgcngokhnaa
/-
  A list of lists while it is built row by row: plain lists.
-/
set_option linter.unusedVariables false
set_option linter.unusedSimpArgs false
namespace Go.Proofs.Ytllpfgcngokhnaa

def gridP {α : Type} (N : Nat) (full : Nat → List α) (x0 : Nat) (part : List α) : List (List α) := (List.range N).map fun x => if x < x0 then full x else if x = x0 then part else []
section
variable {α : Type} {N : Nat} {full : Nat → List α} {x0 : Nat} {part : List α}
theorem gridP_len : (gridP N full x0 part).length = N := by simp [gridP]
theorem gridP_start : gridP N full 0 [] = List.replicate N [] := by
  unfold gridP
  refine List.ext_getElem (by simp) fun i h1 h2 => ?_
  simp
theorem gridP_get (h : x0 < N) : (gridP N full x0 part)[x0]'(by rw [gridP_len]; exact h) = part := by simp [gridP]
theorem gridP_set {part' : List α} (h : x0 < N) : (gridP N full x0 part).set x0 part' = gridP N full x0 part' := by
  refine List.ext_getElem (by simp [gridP_len]) fun i h1 h2 => ?_
  rw [List.getElem_set]
  by_cases e : x0 = i
  · subst e; rw [if_pos rfl, gridP_get h]
  · rw [if_neg e]
    simp only [gridP, List.getElem_map, List.getElem_range]
    split
    · rfl
    · rw [if_neg (Ne.symm e), if_neg (Ne.symm e)]
theorem gridP_next : gridP N full x0 (full x0) = gridP N full (x0 + 1) [] := by
  unfold gridP
  refine List.ext_getElem (by simp) fun i h1 h2 => ?_
  simp only [List.getElem_map, List.getElem_range]
  by_cases h : i < x0
  · rw [if_pos h, if_pos (by omega)]
  · rw [if_neg h]
    by_cases e : i = x0
    · subst e; rw [if_pos rfl, if_pos (by omega)]
    · rw [if_neg e, if_neg (by omega)]
      split <;> rfl
theorem gridP_done : gridP N full N [] = (List.range N).map full := by
  unfold gridP
  refine List.ext_getElem (by simp) fun i h1 h2 => ?_
  simp only [List.getElem_map, List.getElem_range]
  rw [if_pos (by simpa using h1)]
end
/-- of each number below n whether it is in a list -/
def memL (n : Nat) (l : List Int) : List Bool := (List.range n).map fun i : Nat => decide ((i : Int) ∈ l)
theorem memL_len {n : Nat} {l : List Int} : (memL n l).length = n := by simp [memL]
theorem memL_nil {n : Nat} : memL n [] = List.replicate n false := by
  refine List.ext_getElem (by simp [memL]) fun i h1 h2 => ?_
  simp [memL]
theorem memL_get {n : Nat} {l : List Int} {i : Nat} (h : i < n) : (memL n l)[i]'(by rw [memL_len]; exact h) = decide ((i : Int) ∈ l) := by simp [memL]
theorem memL_next {n : Nat} {l : List Int} {i k : Nat} (h : i < l.length) (hk : l[i] = (k : Int)) : (memL n (l.take i)).set k true = memL n (l.take (i + 1)) := by
  refine List.ext_getElem (by simp [memL]) fun j h1 h2 => ?_
  rw [List.getElem_set]
  have hj : j < n := by rw [memL_len] at h2; exact h2
  rw [memL_get hj, memL_get hj, ← List.take_append_getElem h]
  by_cases e : k = j
  · subst e; rw [if_pos rfl]; simp [hk]
  · rw [if_neg e]
    have : ((j : Int) ∈ l.take i ++ [l[i]]) ↔ (j : Int) ∈ l.take i := by
      rw [List.mem_append, List.mem_singleton, hk]
      exact ⟨fun h => h.resolve_right (by omega), .inl⟩
    simp only [this]
end Go.Proofs.Ytllpfgcngokhnaa
/-
  watchkeep.unrolled: a word written otherwise.
-/
set_option linter.unusedVariables false
set_option linter.unusedSimpArgs false
namespace Go.Proofs.Ytllpfgcngokhnaa
open Go.RowKit

theorem clone_u64 (w0 : World) {F : Nat → Prop} {ao : Option Addr} {cap : Nat} {xs : List Nat} (hs : Sl w0 F ao cap xs) (hF : ∀ b, F b → b < w0.heap.size) (hb : xs.length * 8 ≤ 140737488355328) :
    Rt Try.prog 107 [.slice ao xs.length cap].toArray w0 fun v w' => Own w' w0.heap.size 53 Non v xs ∧ Ext w0 w' := by
  have hm := hs.len63
  refine Rt.enter1 Try.func107 Try.ntmps107 rfl rfl ?_
  (repeat (first | (apply WL.pure; rfl; rfl; rfl) | (apply WL.nil) | (apply EX.thenN) | (apply CW.seq) | (apply CW.region) | (apply WL.isNil; rfl; rfl; rfl)))
  refine CW.cond rfl (fun h => ?_) (fun h => ?_)
  · (repeat (first | (apply WL.pure; rfl; rfl; rfl) | (apply WL.nil) | (apply EX.thenN) | (apply CW.seq) | (apply CW.region) | (apply CW.ret) | (apply EX.thenR)))
    refine EX.ret1 rfl rfl ⟨?_, Ext.refl _⟩
    have h0 : ao = none := by simpa using h
    have : xs = [] := List.eq_nil_of_length_eq_zero (by have := hs.nil h0; have := hs.le; omega)
    subst this
    exact Own.nil
  · (repeat (first | (apply EX.thenN) | (apply CW.seq) | (apply CW.region) | (apply CW.skip)))
    refine WL.lit0 (α := Nat) rfl rfl (fun w1 ho hg => ?_)
    (repeat (apply WL.pure; rfl; rfl; rfl))
    have hE : Ext w0 w1 := (Below.refl _ _).grown hg (Nat.le_refl _) (fun k h => by cases h)
    refine WL.app (F := Non) rfl rfl rfl rfl ho (hs.up0 hE hF).srcN hE.size (fun _ h => h.elim) (by simp [maxLen]; omega) (by simpa using hb) (fun v w2 ho2 hg2 _ => ?_)
    (repeat (first | (apply WL.pure; rfl; rfl; rfl) | (apply WL.nil) | (apply EX.thenN) | (apply CW.ret)))
    refine EX.ret1 rfl rfl ⟨by simpa using ho2, hE.grown hg2 hE.size ?_⟩
    intro k hk
    exact (ho.lt k hk).1
/-- blocks that are new since w -/
def Fresh (w w' : World) : Nat → Prop := fun b => w.heap.size ≤ b ∧ b < w'.heap.size
end Go.Proofs.Ytllpfgcngokhnaa
/-
  Package auto: odd, Check, Fits, member, product.
-/
set_option linter.unusedVariables false
set_option linter.unusedSimpArgs false
namespace Go.Proofs.Ytllpfgcngokhnaa
open Go.RowKit

abbrev LAuto := List Int × List (List Int) × List Nat × List Nat × List (List Int)
abbrev autoV (a1 : Option Addr) (c1 : Nat) (a2 : Option Addr) (c2 : Nat) (a3 : Option Addr) (c3 : Nat) (a4 : Option Addr) (c4 : Nat) (a5 : Option Addr) (c5 : Nat) (n1 n2 n3 n4 n5 : Nat) : Value := .agg [.slice a1 n1 c1, .slice a2 n2 c2, .slice a3 n3 c3, .slice a4 n4 c4, .slice a5 n5 c5].toArray
/-- the cells of an automaton: what they read as -/
structure AutoAt (w : World) (F : Nat → Prop) (v : Value) (A : LAuto) : Prop where
  ok : ∃ a1 c1 a2 c2 a3 c3 a4 c4 a5 c5, v = autoV a1 c1 a2 c2 a3 c3 a4 c4 a5 c5 A.1.length A.2.1.length A.2.2.1.length A.2.2.2.1.length A.2.2.2.2.length ∧ Sl w F a1 c1 A.1 ∧ Sl w F a2 c2 A.2.1 ∧ Sl w F a3 c3 A.2.2.1 ∧ Sl w F a4 c4 A.2.2.2.1 ∧ Sl w F a5 c5 A.2.2.2.2
theorem Rd.auto {w : World} {F : Nat → Prop} {v : Value} {x : LAuto} (h : Rd w F v x) : AutoAt w F v x := by
  obtain ⟨c1, r1, rfl, h1, k1⟩ := h.pr
  obtain ⟨c2, r2, rfl, h2, k2⟩ := rd_pr k1
  obtain ⟨c3, r3, rfl, h3, k3⟩ := rd_pr k2
  obtain ⟨c4, r4, rfl, h4, h5⟩ := rd_pr k3
  obtain ⟨a1, d1, rfl, s1⟩ := rd_sl h1
  obtain ⟨a2, d2, rfl, s2⟩ := rd_sl h2
  obtain ⟨a3, d3, rfl, s3⟩ := rd_sl h3
  obtain ⟨a4, d4, rfl, s4⟩ := rd_sl h4
  obtain ⟨a5, d5, rfl, s5⟩ := rd_sl h5
  exact ⟨a1, d1, a2, d2, a3, d3, a4, d4, a5, d5, rfl, s1, s2, s3, s4, s5⟩
def chkA (A : LAuto) : Int :=
  if A.2.1.length > 2048 ∨ A.2.2.2.2.length > 80 then 2 else if A.2.2.1.length ≠ A.2.1.length ∨ A.2.2.2.1.length ≠ A.2.1.length ∨ oddB A.2.1.length A.1 = true then 1
  else if A.2.1.any (oddB A.2.1.length) = true ∨ A.2.2.2.2.any (oddB A.2.1.length) = true then 1 else 0
structure OkA (A : LAuto) : Prop where
  n : A.2.1.length ≤ 2048
  f : A.2.2.2.2.length ≤ 80
  mu : A.2.2.1.length = A.2.1.length
  no : A.2.2.2.1.length = A.2.1.length
  st : okL A.2.1.length A.1
  nx : ∀ r ∈ A.2.1, okL A.2.1.length r
  fr : ∀ r ∈ A.2.2.2.2, okL A.2.1.length r
theorem any_odd {n : Nat} {g : List (List Int)} : g.any (oddB n) = false ↔ ∀ r ∈ g, okL n r := by
  rw [List.any_eq_false]
  refine forall_congr' fun r => forall_congr' fun _ => ?_
  rw [← oddB_false, Bool.not_eq_true]
theorem chkA_ok {A : LAuto} (h : chkA A = 0) : OkA A := by
  unfold chkA at h
  split at h
  · cases h
  split at h
  · cases h
  split at h
  · cases h
  rename_i h1 h2 h3
  rw [not_or] at h1 h2 h3
  rw [not_or] at h2
  exact ⟨by omega, by omega, by omega, by omega, oddB_false.1 (by simpa using h2.2.2), any_odd.1 (by simpa using h3.1), any_odd.1 (by simpa using h3.2)⟩
theorem chkA_of {A : LAuto} (h : OkA A) : chkA A = 0 := by
  unfold chkA
  have a := oddB_false.2 h.st; have b := any_odd.2 h.nx; have c := any_odd.2 h.fr; have d := h.mu; have e := h.no
  rw [if_neg (by have := h.n; have := h.f; omega), if_neg (by rw [a]; simp; omega), if_neg (by rw [b, c]; simp)]

theorem aodd1 (n : Nat) (x : Int) (b : Nat) (w : World) (hb : Blk w b 3 [.int .i64 n]) :
    Rt Try.prog 141 [.int .i64 x, .pointer (some ⟨b, 0, none⟩)].toArray w fun v w' => v = .bool (decide (x < 0 ∨ x ≥ n)) ∧ w = w' := by
  refine Rt.enter2 Try.func141 Try.ntmps141 rfl rfl ?_
  (repeat (first | (apply WL.pure; rfl; rfl; rfl) | (apply WL.nil) | (apply EX.thenN) | (apply CW.seq) | (apply CW.region)))
  refine WL.look (s := 6) rfl (fun h => ?_) (fun h => ?_)
  · (repeat (first | (apply WL.pure; rfl; rfl; rfl) | (apply WL.nil) | (apply EX.thenN) | (apply WL.pass; rfl; rfl) | (apply CW.ret)))
    refine EX.ret1 rfl rfl ?_
    simp at h
    simp [h]
  · (repeat (first | (apply WL.pure; rfl; rfl; rfl) | (apply WL.nil) | (apply EX.thenN) | (apply WL.ld; rfl; rfl; rfl; assumption; rfl) | (apply CW.ret)))
    refine EX.ret1 rfl rfl ?_
    simp at h
    simp [Int.not_lt.2 h]
theorem aodd_ok (w0 : World) {lo : Option Addr} {lcap : Nat} {l : List Int} (n : Nat) (hl : Sl w0 (Old w0) lo lcap l) :
    Rt Try.prog 89 [.slice lo l.length lcap, .int .i64 n].toArray w0 fun v w' => v = .bool (oddB n l) ∧ Ext w0 w' := by
  refine Rt.enter2 Try.func89 Try.ntmps89 rfl rfl ?_
  (repeat (first | (apply CW.seq) | (apply CW.region)))
  refine WL.boxB rfl rfl rfl fun w1 hb hE => ?_
  (repeat (first | (apply WL.pure; rfl; rfl; rfl) | (apply WL.nil) | (apply EX.thenN) | (apply CW.seq) | (apply CW.region) | (apply WL.makeFunc; rfl; rfl; rfl; rfl)))
  refine WL.call rfl rfl rfl (containsFunc_int w1 (fun x => decide (x < 0 ∨ x ≥ n)) (hl.up hE) (fun w hw i h => ?_)) ?_
  · refine FnV.mk (Rt.mono (aodd1 n _ _ w (hb.ext hw)) ?_)
    rintro v w' ⟨rfl, rfl⟩
    exact ⟨rfl, Ext.refl _⟩
  · rintro v w' ⟨rfl, hB⟩
    (repeat (first | (apply WL.pure; rfl; rfl; rfl) | (apply WL.nil) | (apply EX.thenN) | (apply CW.ret)))
    exact EX.ret1 rfl rfl ⟨rfl, hE.trans hB⟩
theorem achk1 (w : World) {lo : Option Addr} {lcap : Nat} {l : List Int} (n : Nat) (b : Nat) (hb : Blk w b 3 [.int .i64 n]) (hl : Sl w (Old w) lo lcap l) :
    Rt Try.prog 90 [.slice lo l.length lcap, .pointer (some ⟨b, 0, none⟩)].toArray w fun v w' => v = .bool (oddB n l) ∧ Ext w w' := by
  refine Rt.enter2 Try.func90 Try.ntmps90 rfl rfl ?_
  (repeat (first | (apply WL.pure; rfl; rfl; rfl) | (apply WL.nil) | (apply EX.thenN) | (apply CW.seq) | (apply CW.region) | (apply WL.ld; rfl; rfl; rfl; assumption; rfl)))
  refine WL.call rfl rfl rfl (aodd_ok w n hl) ?_
  rintro _ w' ⟨rfl, hE⟩
  (repeat (first | (apply WL.pure; rfl; rfl; rfl) | (apply WL.nil) | (apply EX.thenN) | (apply CW.ret)))
  exact EX.ret1 rfl rfl ⟨rfl, hE⟩
theorem achk2 (w : World) {lo : Option Addr} {lcap : Nat} {l : List Int} (n : Nat) (b : Nat) (hb : Blk w b 3 [.int .i64 n]) (hl : Sl w (Old w) lo lcap l) :
    Rt Try.prog 91 [.slice lo l.length lcap, .pointer (some ⟨b, 0, none⟩)].toArray w fun v w' => v = .bool (oddB n l) ∧ Ext w w' := by
  refine Rt.enter2 Try.func91 Try.ntmps91 rfl rfl ?_
  (repeat (first | (apply WL.pure; rfl; rfl; rfl) | (apply WL.nil) | (apply EX.thenN) | (apply CW.seq) | (apply CW.region) | (apply WL.ld; rfl; rfl; rfl; assumption; rfl)))
  refine WL.call rfl rfl rfl (aodd_ok w n hl) ?_
  rintro _ w' ⟨rfl, hE⟩
  (repeat (first | (apply WL.pure; rfl; rfl; rfl) | (apply WL.nil) | (apply EX.thenN) | (apply CW.ret)))
  exact EX.ret1 rfl rfl ⟨rfl, hE⟩
theorem aCheck_ok (w0 : World) {v0 : Value} {A : LAuto} (ha : AutoAt w0 (Old w0) v0 A) :
    Rt Try.prog 43 [v0].toArray w0 fun v w' => v = .int .i64 (chkA A) ∧ Ext w0 w' := by
  obtain ⟨a1, c1, a2, c2, a3, c3, a4, c4, a5, c5, rfl, h1, h2, h3, h4, h5⟩ := ha.ok
  obtain ⟨st, nx, mu, no, fr⟩ := A
  dsimp only at *
  have hm2 := h2.len63
  have hm3 := h3.len63
  have hm4 := h4.len63
  have hm5 := h5.len63
  refine Rt.enter1 Try.func43 Try.ntmps43 rfl rfl ?_
  have hE := Ext.refl w0
  (repeat (first | (apply CW.seq) | (apply CW.region)))
  refine WL.boxB rfl rfl rfl fun w1 hb1 e1 => ?_
  have hE := hE.trans e1
  have z1 := e1.size
  have hl1 := hb1.lt
  (repeat (first | (apply WL.pure; rfl; rfl; rfl) | (apply WL.nil) | (apply EX.thenN) | (apply CW.seq) | (apply CW.region) | (apply WL.lenS; rfl; rfl; rfl) | (apply WL.fa; rfl; rfl; rfl) | (apply WL.ld; rfl; rfl; rfl; assumption; rfl)))
  refine WL.alloc rfl rfl (fun w2 hb3 e2 => ?_)
  have hb1 := hb1.ext e2
  have hE := hE.trans e2
  skip
  refine WL.st rfl rfl rfl hb3 rfl rfl (ones_of rfl) (fun w3 hb3 hg3 => ?_)
  have hb1 := hb1.kept hg3 (by simp; omega)
  have hE : Ext w0 w3 := hE.grown hg3 hE.size (fun g hg => by cases hg; exact z1)
  unfold chkA
  dsimp only
  (repeat (first | (apply WL.pure; rfl; rfl; rfl) | (apply WL.nil) | (apply EX.thenN) | (apply CW.seq) | (apply CW.region) | (apply WL.ld; rfl; rfl; rfl; assumption; rfl)))
  (refine WL.lookG rfl rfl (fun h => ?_) (fun h => ?_))
  · (repeat (first | (apply WL.pure; rfl; rfl; rfl) | (apply WL.nil) | (apply EX.thenN) | (apply CW.seq) | (apply CW.region) | (apply WL.pass; rfl; rfl) | (apply CW.condT; rfl) | (apply CW.ret) | (apply EX.thenR)))
    skip
    refine EX.ret1 rfl rfl ⟨?_, hE⟩
    simp at h
    rw [if_pos (.inl (by omega))]
  (repeat (first | (apply WL.pure; rfl; rfl; rfl) | (apply WL.nil) | (apply EX.thenN) | (apply WL.lenS; rfl; rfl; rfl) | (apply WL.fa; rfl; rfl; rfl) | (apply WL.ld; rfl; rfl; rfl; assumption; rfl)))
  refine CW.cond rfl (fun h5' => ?_) (fun h5' => ?_)
  · (repeat (first | (apply WL.pure; rfl; rfl; rfl) | (apply WL.nil) | (apply EX.thenN) | (apply CW.seq) | (apply CW.region) | (apply CW.ret) | (apply EX.thenR)))
    refine EX.ret1 rfl rfl ⟨?_, hE⟩
    simp at h5'
    rw [if_pos (.inr (by omega))]
  simp at h h5'
  rw [if_neg (by omega)]
  clear h h5'
  (repeat (first | (apply WL.pure; rfl; rfl; rfl) | (apply EX.thenN) | (apply CW.seq) | (apply CW.region) | (apply WL.lenS; rfl; rfl; rfl) | (apply WL.fa; rfl; rfl; rfl) | (apply WL.ld; rfl; rfl; rfl; assumption; rfl) | (apply CW.skip)))
  (refine WL.lookG rfl rfl (fun h => ?_) (fun h => ?_))
  · simp at h
    (repeat (first | (apply WL.pure; rfl; rfl; rfl) | (apply WL.nil) | (apply EX.thenN) | (apply CW.seq) | (apply CW.region) | (apply WL.pass; rfl; rfl) | (apply CW.condT; rfl) | (apply CW.ret) | (apply EX.thenR)))
    refine EX.ret1 rfl rfl ⟨?_, hE⟩
    rw [if_pos (.inl (by omega))]
  simp at h
  have h0 := h
  clear h
  (repeat (first | (apply WL.pure; rfl; rfl; rfl) | (apply WL.lenS; rfl; rfl; rfl) | (apply WL.fa; rfl; rfl; rfl) | (apply WL.ld; rfl; rfl; rfl; assumption; rfl)))
  (refine WL.lookG rfl rfl (fun h => ?_) (fun h => ?_))
  · have hx := h
    simp at hx
    (repeat (first | (apply WL.pure; rfl; rfl; rfl) | (apply WL.nil) | (apply EX.thenN) | (apply CW.seq) | (apply CW.region) | (apply WL.pass; rfl; rfl) | (apply CW.condT; rfl) | (apply CW.ret) | (apply EX.thenR)))
    refine EX.ret1 rfl rfl ⟨?_, hE⟩
    rw [if_pos (.inr (.inl (by omega)))]
  have hx := h
  simp at hx
  (repeat (first | (apply WL.fa; rfl; rfl; rfl) | (apply WL.ld; rfl; rfl; rfl; assumption; rfl)))
  refine WL.call rfl rfl rfl (aodd_ok w3 nx.length (h1.up hE)) ?_
  rintro _ w4 ⟨rfl, e4⟩
  have hb1 := hb1.ext e4
  have hb3 := hb3.ext e4
  have hE := hE.trans e4
  (repeat (first | (apply WL.pure; rfl; rfl; rfl) | (apply WL.nil) | (apply EX.thenN)))
  refine CW.cond rfl (fun h7 => ?_) (fun h7 => ?_)
  · (repeat (first | (apply WL.pure; rfl; rfl; rfl) | (apply WL.nil) | (apply EX.thenN) | (apply CW.seq) | (apply CW.region) | (apply CW.ret) | (apply EX.thenR)))
    refine EX.ret1 rfl rfl ⟨?_, hE⟩
    rw [if_pos (.inr (.inr h7))]
  rw [if_neg (by rw [h7]; simp; omega)]
  (repeat (first | (apply EX.thenN) | (apply CW.seq) | (apply CW.region) | (apply WL.makeFunc; rfl; rfl; rfl; rfl) | (apply WL.fa; rfl; rfl; rfl) | (apply WL.ld; rfl; rfl; rfl; assumption; rfl) | (apply CW.skip)))
  refine WL.call rfl rfl rfl (containsFunc_ll w4 (oddB nx.length) (h2.up hE) (fun w hw i hi u hu => ?_)) ?_
  · obtain ⟨lo, lc, rfl, hl⟩ := hu.sl
    exact FnV.mk (Rt.mono (achk1 w nx.length _ (hb3.ext hw) (hl.lift fun b hb => Nat.lt_of_lt_of_le hb hw.size)) fun v w' h => h)
  rintro _ w5 ⟨rfl, e5⟩
  have hb1 := hb1.ext e5
  have hb3 := hb3.ext e5
  have hE := hE.trans e5
  (repeat (apply WL.pure; rfl; rfl; rfl))
  (refine WL.lookG rfl rfl (fun h => ?_) (fun h => ?_))
  · have h8 := h
    (repeat (first | (apply WL.pure; rfl; rfl; rfl) | (apply WL.nil) | (apply EX.thenN) | (apply CW.seq) | (apply CW.region) | (apply WL.pass; rfl; rfl) | (apply CW.condT; rfl) | (apply CW.ret) | (apply EX.thenR)))
    refine EX.ret1 rfl rfl ⟨?_, hE⟩
    rw [if_pos (.inl h8)]
  have h8 := h
  (repeat (first | (apply WL.makeFunc; rfl; rfl; rfl; rfl) | (apply WL.fa; rfl; rfl; rfl) | (apply WL.ld; rfl; rfl; rfl; assumption; rfl)))
  refine WL.call rfl rfl rfl (containsFunc_ll w5 (oddB nx.length) (h5.up hE) (fun w hw i hi u hu => ?_)) ?_
  · obtain ⟨lo, lc, rfl, hl⟩ := hu.sl
    exact FnV.mk (Rt.mono (achk2 w nx.length _ (hb3.ext hw) (hl.lift fun b hb => Nat.lt_of_lt_of_le hb hw.size)) fun v w' h => h)
  rintro _ w6 ⟨rfl, e6⟩
  have hb1 := hb1.ext e6
  have hb3 := hb3.ext e6
  have hE := hE.trans e6
  (repeat (first | (apply WL.pure; rfl; rfl; rfl) | (apply WL.nil) | (apply EX.thenN)))
  refine CW.cond rfl (fun h9 => ?_) (fun h9 => ?_)
  · (repeat (first | (apply WL.pure; rfl; rfl; rfl) | (apply WL.nil) | (apply EX.thenN) | (apply CW.seq) | (apply CW.region) | (apply CW.ret) | (apply EX.thenR)))
    refine EX.ret1 rfl rfl ⟨?_, hE⟩
    rw [if_pos (.inr h9)]
  (repeat (first | (apply WL.pure; rfl; rfl; rfl) | (apply WL.nil) | (apply EX.thenN) | (apply CW.seq) | (apply CW.region) | (apply CW.ret) | (apply CW.skip)))
  refine EX.ret1 rfl rfl ⟨?_, hE⟩
  rw [if_neg (by rw [h8, h9]; simp)]
theorem getDN_at {l : List Nat} {k : Nat} (h : k < l.length) : l.getD k 0 = l[k] := by rw [List.getD_eq_getElem?_getD, List.getElem?_eq_getElem h]; rfl
theorem Fits_ok (w0 : World) {a1 a2 a3 a4 a5 : Option Addr} {c1 c2 c3 c4 c5 n1 n2 n5 : Nat} {mu no : List Nat} (h3 : Sl w0 (Old w0) a3 c3 mu) (h4 : Sl w0 (Old w0) a4 c4 no) (k x : Nat) (hk : k < mu.length) (hk2 : k < no.length) (hx : x < 18446744073709551616) :
    Rt Try.prog 108 [autoV a1 c1 a2 c2 a3 c3 a4 c4 a5 c5 n1 n2 mu.length no.length n5, .int .i64 (k : Int), .int .u64 (x : Int)].toArray w0 fun v w' => v = .bool (fitB mu no k x) ∧ Ext w0 w' := by
  refine Rt.enter3 Try.func108 Try.ntmps108 rfl rfl ?_
  (repeat (first | (apply CW.seq) | (apply CW.region)))
  refine WL.boxB rfl rfl rfl fun w1 hb e1 => ?_
  have h3 := h3.up e1
  have h4 := h4.up e1
  (repeat (first | (apply WL.pure; rfl; rfl; rfl) | (apply QL.pure; rfl; rfl; rfl) | (apply WL.nil) | (apply EX.thenN) | (apply CW.seq) | (apply QL.fa; rfl; rfl; rfl) | (apply QL.ld; rfl; rfl; rfl; assumption; rfl) | (apply CW.draw; exact mixed; kernel_rfl)))
  refine QL.elemN rfl rfl rfl rfl rfl (fun _ h => h) h3 hk (fun _ => rfl) (fun u q hu => ?_)
  obtain ⟨rfl, hu1⟩ := hu.u64
  (repeat (first | (apply QL.pure; rfl; rfl; rfl) | (apply QL.fa; rfl; rfl; rfl) | (apply QL.ld; rfl; rfl; rfl; assumption; rfl)))
  rw [bits_and_u64_nat _ _ hx hu1]
  refine QL.elemN rfl rfl rfl rfl rfl (fun _ h => h) h3 hk (fun _ => rfl) (fun u q' hu => ?_)
  obtain ⟨rfl, _⟩ := hu.u64
  (repeat (apply QL.pure; rfl; rfl; rfl))
  unfold fitB
  rw [getDN_at hk, getDN_at hk2]
  (refine QL.lookG rfl rfl (fun h => ?_) (fun h => ?_))
  · simp only [beq_iff_eq] at h
    have h : x &&& mu[k] = mu[k] := by exact_mod_cast h
    rw [decide_eq_true h, Bool.true_and]
    (repeat (first | (apply QL.pure; rfl; rfl; rfl) | (apply QL.fa; rfl; rfl; rfl) | (apply QL.ld; rfl; rfl; rfl; assumption; rfl)))
    refine QL.elemN rfl rfl rfl rfl rfl (fun _ h => h) h4 hk2 (fun _ => rfl) (fun u q' hu => ?_)
    obtain ⟨rfl, hu2⟩ := hu.u64
    (repeat (apply QL.pure; rfl; rfl; rfl))
    rw [bits_and_u64_nat _ _ hx hu2]
    refine QL.nil (fun w2 e2 => ?_)
    (repeat (first | (apply EX.thenN) | (apply CW.ret)))
    refine EX.ret1 rfl rfl ⟨?_, e1.trans e2⟩
    congr 1
    rw [Bool.eq_iff_iff, beq_iff_eq, decide_eq_true_iff]
    exact_mod_cast Iff.rfl
  · have h : ¬ x &&& mu[k] = mu[k] := by
      intro e; rw [e] at h; simp at h
    rw [decide_eq_false h, Bool.false_and]
    (repeat (first | (apply QL.pure; rfl; rfl; rfl) | (apply QL.pass; rfl; rfl)))
    refine QL.nil (fun w2 e2 => ?_)
    (repeat (first | (apply EX.thenN) | (apply CW.ret)))
    exact EX.ret1 rfl rfl ⟨rfl, e1.trans e2⟩
theorem member_ok (w0 : World) {F : Nat → Prop} {lo : Option Addr} {lc : Nat} {l : List Int} (hl : Sl w0 F lo lc l) (hF : ∀ b, F b → b < w0.heap.size) (n : Nat) (hn : n ≤ 1099511627776) (hok : okL n l) :
    Rt Try.prog 111 [.slice lo l.length lc, .int .i64 (n : Int)].toArray w0 fun v w' => Own w' w0.heap.size 4 Non v (memL n l) ∧ Ext w0 w' := by
  have hm := hl.len63
  refine Rt.enter2 Try.func111 Try.ntmps111 rfl rfl ?_
  (repeat (first | (apply WL.pure; rfl; rfl; rfl) | (apply WL.nil) | (apply EX.thenN) | (apply CW.seq) | (apply CW.region)))
  refine WL.make (α := Bool) rfl rfl rfl rfl (by omega) (by unfold maxLen; omega) (fun w1 ho1 hg1 => ?_)
  have hE1 : Ext w0 w1 := (Below.refl _ _).grown hg1 (Nat.le_refl _) (fun k h => by cases h)
  generalize hsv : Value.slice (some ⟨w0.heap.size, 0, none⟩) n n = sv at *
  rw [← memL_nil] at ho1
  (repeat (first | (apply WL.pure; rfl; rfl; rfl) | (apply WL.nil) | (apply EX.thenN) | (apply CW.seq) | (apply CW.region) | (apply WL.lenS; rfl; rfl; rfl) | (apply CW.block)))
  refine CW.loop (S := Nat) (fun i => [(5, sv), (10, .slice lo l.length lc), (11, .int .i64 l.length), (12, .int .i64 i)])
    (fun i w => i ≤ l.length ∧ Own w w0.heap.size 4 Non sv (memL n (l.take i)) ∧ Ext w0 w) (fun i => l.length - i) 0 (by repeat (first | exact trivial | refine ⟨rfl, ?_⟩)) ⟨by omega, ho1, hE1⟩ ?_
  rintro i w2 ⟨hi, ho, hE⟩
  (repeat (first | (apply WL.pure; rfl; rfl; rfl) | (apply WL.nil) | (apply EX.thenN) | (apply CW.seq) | (apply CW.region)))
  refine CW.cond rfl (fun h => ?_) (fun h => ?_)
  · simp at h
    have hk := hok _ (List.getElem_mem h)
    obtain ⟨k, ek⟩ := Int.eq_ofNat_of_zero_le hk.1
    have hkn : k < (memL n (l.take i)).length := by rw [memL_len]; omega
    (repeat (first | (apply EX.thenN) | (apply CW.seq) | (apply CW.region) | (apply CW.block) | (apply CW.skip)))
    refine WL.elemI rfl rfl rfl rfl rfl (hl.up0 hE hF) h ek (fun _ => rfl) (fun q => ?_)
    (repeat (first | (apply WL.pure; rfl; rfl; rfl) | (apply WL.nil) | (apply EX.thenN) | (apply CW.region)))
    refine WL.setN (u := .bool true) (yv := true) rfl rfl rfl rfl ho hkn (fun _ => rfl) (fun _ => rfl) (Rd.mkBool _ _ _) (fun w3 q2 ho3 hg3 => ?_)
    rw [memL_next h ek] at ho3
    have hE3 : Ext w0 w3 := hE.grown hg3 hE.size (fun b hb => (ho.lt b hb).1)
    (repeat (first | (apply WL.add; rfl; rfl; rfl; rfl; omega; omega) | (apply WL.pure; rfl; rfl; rfl) | (apply WL.nil) | (apply EX.thenN) | (apply CW.region) | (apply EX.inN)))
    exact EX.back (i + 1) (by repeat (first | exact trivial | refine ⟨rfl, ?_⟩)) ⟨h, ho3, hE3⟩ (by omega)
  · simp at h
    obtain rfl : i = l.length := by omega
    rw [List.take_length] at ho
    (repeat (first | (apply WL.pure; rfl; rfl; rfl) | (apply WL.nil) | (apply EX.thenN) | (apply CW.seq) | (apply CW.region) | (apply CW.exit) | (apply EX.thenX) | (apply EX.inX) | (apply CW.ret)))
    exact EX.ret1 rfl rfl ⟨ho, hE⟩
end Go.Proofs.Ytllpfgcngokhnaa
/-
  What Make answers. Plain lists.
-/
set_option linter.unusedVariables false
set_option linter.unusedSimpArgs false
namespace Go.Proofs.Ytllpfgcngokhnaa

def tabM (f : Ltl) : Mk2 := (sortI (gaE f ([], [])).1, (gaE f ([], [])).2)
def nilA5 : LAuto2 := ([], [], [], [], [])
def makeT (t : Ltl) : LAuto2 × Int := if (plainE t).2 ≠ 0 then (nilA5, (plainE t).2) else if numN (tabM (plainE t).1) > 10 then (nilA5, 2) else (tabL (tabM (plainE t).1) (plainE t).1, 0)
theorem plainE_ok {t : Ltl} (h : (plainE t).2 = 0) : wfT t ∧ (plainE t).1 = plainL t ∧ wfT (plainL t) ∧ (plainL t).nodes ≤ 60 := by
  unfold plainE at h ⊢
  split at h
  · rename_i h1; exact absurd h h1
  rename_i h1
  rw [if_neg h1]
  unfold toldE at h ⊢
  split at h
  · rename_i h2; exact absurd h h2
  rename_i h2
  rw [if_neg h2]
  have h1 := (chk_iff t).1 (by simpa using h1)
  have h2 := (chk_iff (plainL t)).1 (by simpa using h2)
  exact ⟨h1.1, rfl, h2.1, h2.2.1⟩
theorem tabM_les (f : Ltl) : Les (gaE f ([], [])) (tabM f) := ⟨fun x hx => sortI_mem.2 hx, fun x hx => hx⟩
theorem tabM_okM {f : Ltl} (hw : wfT f) (h0 : hasB f 10 = false) (h1 : hasB f 11 = false) : OkM (tabM f) := by
  have h := gaE_ok f ([], []) OkM.nil hw h0 h1
  exact ⟨(List.mergeSort_perm _ _).nodup_iff.2 h.na, fun x hx => h.ra x (sortI_mem.1 hx), h.wp⟩
theorem tabM_ok {f : Ltl} (hw : wfT f) (h0 : hasB f 10 = false) (h1 : hasB f 11 = false) : OkT (tabM f) ∧ OkF (tabM f) f := by
  have hc := Cov.les (tabM_les f) f (gaE_cov f ([], []))
  refine ⟨⟨tabM_okM hw h0 h1, fun g hg => ?_⟩, hw, h0, h1, hc⟩
  exact gaE_clo f ([], []) (tabM f) (tabM_les f) (fun g hg => by cases hg) g hg
theorem tabM_len (f : Ltl) : (tabM f).1.length = (gaE f ([], [])).1.length ∧ (tabM f).2 = (gaE f ([], [])).2 := ⟨sortI_len, rfl⟩
/-- the automaton that is made is right -/
theorem tabL_okA {m : Mk2} {f : Ltl} (h : numN m ≤ 10) : OkA (tabL m f) := by
  have hp : 2 ^ numN m ≤ 2 ^ 10 := Nat.pow_le_pow_right (by omega) h
  have hl : (tabL m f).2.1.length = 2 ^ numN m := by show (List.map _ _).length = _; rw [List.length_map, List.length_range]
  have hr : ∀ (p : Nat → Bool), okL (2 ^ numN m) (((List.range (2 ^ numN m)).filter p).map fun s : Nat => (s : Int)) := fun p x hx => by
    obtain ⟨y, hy, rfl⟩ := List.mem_map.1 hx
    rw [List.mem_filter, List.mem_range] at hy
    have := hy.1
    constructor
    · omega
    · exact_mod_cast this
  refine ⟨by rw [hl]; omega, ?_, ?_, ?_, ?_, fun r hr' => ?_, fun r hr' => ?_⟩
  · show (List.map _ (List.filter _ _)).length ≤ 80
    rw [List.length_map]
    have := List.length_filter_le (fun g : Ltl => decide (g.k ≠ 7)) m.2
    unfold numN at h; omega
  · rw [hl]; show (List.map _ _).length = _; rw [List.length_map, List.length_range]
  · rw [hl]; show (List.map _ _).length = _; rw [List.length_map, List.length_range]
  · rw [hl]; exact hr _
  · rw [hl]
    obtain ⟨s, _, rfl⟩ := List.mem_map.1 hr'
    exact hr _
  · rw [hl]
    obtain ⟨s, _, rfl⟩ := List.mem_map.1 hr'
    exact hr _
/-- Make answers with an automaton that accepts what satisfies the formula -/
theorem makeT_acc {t : Ltl} {L : Nat → Nat} (h : (makeT t).2 = 0) : OkA (makeT t).1 ∧ (AccA (makeT t).1 L ↔ sem L t 0) ∧ wfT t := by
  unfold makeT at h ⊢
  split at h
  · rename_i h1; exact absurd h h1
  rename_i h1
  rw [if_neg h1]
  split at h
  · exact absurd h (by decide)
  rename_i h2
  rw [if_neg h2]
  obtain ⟨hw, he, hwp, _⟩ := plainE_ok (by simpa using h1 : (plainE t).2 = 0)
  rw [he] at h2 ⊢
  have hh := plain_has t hw
  obtain ⟨hT, hF⟩ := tabM_ok hwp hh.1 hh.2
  refine ⟨tabL_okA (by omega), ?_, hw⟩
  show AccA (tabL (tabM (plainL t)) (plainL t)) L ↔ sem L t 0
  rw [tab_acc hT hF, plain_sem t hw 0]
theorem makeT_err {t : Ltl} (h : (makeT t).2 ≠ 0) : (makeT t).1 = nilA5 := by
  unfold makeT at h ⊢
  split
  · rfl
  rename_i h1
  rw [if_neg h1] at h
  split
  · rfl
  rename_i h2
  rw [if_neg h2] at h
  exact absurd rfl h
end Go.Proofs.Ytllpfgcngokhnaa
