import Derived.Test.YtllpfgcngokhnaaRows
import Derived.OpenShut
import Derived.JoinedCond
import Derived.Test.YtllpfgcngokhnaaPtTableauJoins17
/-
  Package tableau: Make: walked.
-/
set_option linter.unusedVariables false
set_option linter.unusedSimpArgs false
namespace Go.Proofs.Ytllpfgcngokhnaa
open Go.RowKit

/-- a maker that is read, by its blocks -/
structure MkF (w : World) (F : Nat → Prop) (sb : Nat) (m : Mk2) : Prop where
  ok : ∃ ao ac po pc, Blk w sb 133 [.slice ao m.1.length ac, .slice po m.2.length pc] ∧ Sl w F ao ac m.1 ∧ Sl w F po pc m.2
  sb : F sb
theorem MkF.to {w w' : World} {F : Nat → Prop} {sb : Nat} {m : Mk2} (h : MkF w F sb m) (hK : ∀ b, F b → w'.heap[b]? = w.heap[b]?) : MkF w' F sb m := by
  obtain ⟨ao, ac, po, pc, h1, h2, h3⟩ := h.ok
  exact ⟨⟨ao, ac, po, pc, (hK sb h.sb).trans h1, h2.mono hK (fun _ h => h), h3.mono hK (fun _ h => h)⟩, h.sb⟩
theorem MkF.rd {w : World} {F : Nat → Prop} {sb : Nat} {m : Mk2} (h : MkF w F sb m) (hF : ∀ b, F b → b < w.heap.size) : MkA w sb m := by
  obtain ⟨ao, ac, po, pc, h1, h2, h3⟩ := h.ok
  exact ⟨ao, ac, po, pc, h1, h2.mono (fun _ _ => rfl) hF, h3.mono (fun _ _ => rfl) hF⟩
/-- the automaton that is built, field by field -/
structure OutA (w : World) (B b7 : Nat) (c : Nat → Value) (xs : List Int) (vs : List Raw) (mu no : List Nat) (us : List Raw) : Prop where
  blk : Blk w b7 28 [c 0, c 1, c 2, c 3, c 4]
  o0 : Own w B 3 Non (c 0) xs
  o1 : Own w B 22 Non (c 1) vs
  o2 : Own w B 53 Non (c 2) mu
  o3 : Own w B 53 Non (c 3) no
  o4 : Own w B 22 Non (c 4) us
  dj : ∀ i j, i < 5 → j < 5 → i ≠ j → ∀ g, (c i).ownBlock = some g → (c j).ownBlock ≠ some g
  lb : b7 < B
def oM (b2 b7 : Nat) (c : Nat → Value) : Nat → Prop := fun b => b = b2 ∨ b = b7 ∨ ∃ i, i < 5 ∧ (c i).ownBlock = some b
def updV (c : Nat → Value) (i : Nat) (v : Value) : Nat → Value := fun j => if j = i then v else c j
section
variable {w w' w'' : World} {B b2 b7 : Nat} {c : Nat → Value} {xs : List Int} {vs us : List Raw} {mu no : List Nat} {i : Nat} {v' : Value}
theorem OutA.lt (h : OutA w B b7 c xs vs mu no us) : ∀ j, j < 5 → ∀ g, (c j).ownBlock = some g → B ≤ g ∧ g < w.heap.size := fun j hj g hg => by
  match j, hj with
  | 0, _ => exact ⟨(h.o0.lt g hg).1, (h.o0.lt g hg).2.1⟩
  | 1, _ => exact ⟨(h.o1.lt g hg).1, (h.o1.lt g hg).2.1⟩
  | 2, _ => exact ⟨(h.o2.lt g hg).1, (h.o2.lt g hg).2.1⟩
  | 3, _ => exact ⟨(h.o3.lt g hg).1, (h.o3.lt g hg).2.1⟩
  | 4, _ => exact ⟨(h.o4.lt g hg).1, (h.o4.lt g hg).2.1⟩
theorem OutA.ext (h : OutA w B b7 c xs vs mu no us) (hE : Ext w w') : OutA w' B b7 c xs vs mu no us :=
  ⟨h.blk.ext hE, h.o0.extN hE, h.o1.extN hE, h.o2.extN hE, h.o3.extN hE, h.o4.extN hE, h.dj, h.lb⟩
/-- one field grows: what the others are -/
theorem OutA.step (h : OutA w B b7 c xs vs mu no us) (hi : i < 5) (hg1 : w.grownBy w' (c i).ownBlock) (hg2 : w'.grownBy w'' (some b7)) (hnew : ∀ g, v'.ownBlock = some g → (c i).ownBlock = some g ∨ w.heap.size ≤ g) (hB : B ≤ w.heap.size) :
    (∀ j, j < 5 → j ≠ i → ∀ {α : Type} [Rep α] {e : TypeId} {ys : List α}, Own w B e Non (c j) ys → Own w'' B e Non (c j) ys) ∧ (∀ {α : Type} [Rep α] {e : TypeId} {ys : List α}, Own w' B e Non v' ys → Own w'' B e Non v' ys) ∧
      (∀ j k, j < 5 → k < 5 → j ≠ k → ∀ g, (updV c i v' j).ownBlock = some g → (updV c i v' k).ownBlock ≠ some g) ∧ Chg (oM b2 b7 c) w w'' ∧ (∀ b, oM b2 b7 (updV c i v') b → oM b2 b7 c b ∨ w.heap.size ≤ b) ∧ Chg (fun b => b = b7 ∨ B ≤ b) w w'' := by
  have hlt := h.lt
  have hlb := h.lb
  have z1 := hg1.size
  refine ⟨fun j hj hne α _ e ys ho => (ho.keptN hg1 (fun g hg he => h.dj j i hj hi hne g hg he.symm)).keptN hg2 (fun g hg he => by have := (hlt j hj g hg).1; have := Option.some.inj he; omega),
    fun ho => ho.keptN hg2 (fun g hg he => by have := (ho.lt g hg).1; have := Option.some.inj he; omega), fun j k hj hk hne g hg hg' => ?_, ((Chg.of_grown hg1).wk (fun b hb => .inr (.inr ⟨i, hi, hb⟩))).grown hg2 (fun g hg => by cases hg; exact .inr (.inl rfl)), fun b hb => ?_, ?_⟩
  · unfold updV at hg hg'
    by_cases e1 : j = i
    · subst e1
      rw [if_pos rfl] at hg
      rw [if_neg (fun e => hne e.symm)] at hg'
      rcases hnew g hg with h1 | h1
      · exact h.dj j k hj hk hne g h1 hg'
      · have := (hlt k hk g hg').2; omega
    · rw [if_neg e1] at hg
      by_cases e2 : k = i
      · subst e2
        rw [if_pos rfl] at hg'
        rcases hnew g hg' with h1 | h1
        · exact h.dj j k hj hk hne g hg h1
        · have := (hlt j hj g hg).2; omega
      · rw [if_neg e2] at hg'
        exact h.dj j k hj hk hne g hg hg'
  · rcases hb with hb | hb | ⟨j, hj, hb⟩
    · exact .inl (.inl hb)
    · exact .inl (.inr (.inl hb))
    · unfold updV at hb
      by_cases e : j = i
      · subst e
        rw [if_pos rfl] at hb
        exact (hnew b hb).imp (fun h => .inr (.inr ⟨j, hj, h⟩)) id
      · rw [if_neg e] at hb
        exact .inl (.inr (.inr ⟨j, hj, hb⟩))
  · exact ((Chg.of_grown hg1).wk (fun b hb => .inr (hlt i hi b hb).1)).grown hg2 (fun g hg => by cases hg; exact .inl rfl)
end
def byL (m : Mk2) (K i : Nat) : List (List Int) := (List.range K).map fun k => ((List.range i).filter fun t => decide (keepN m t = k)).map fun t : Nat => (t : Int)
theorem byL_len {m : Mk2} {K i : Nat} : (byL m K i).length = K := by unfold byL; rw [List.length_map, List.length_range]
theorem byL_get {m : Mk2} {K i k : Nat} (h : k < (byL m K i).length) : (byL m K i)[k] = ((List.range i).filter fun t => decide (keepN m t = k)).map fun t : Nat => (t : Int) := by
  simp only [byL, List.getElem_map, List.getElem_range]
theorem byL_row {m : Mk2} {K i k : Nat} (h : k < (byL m K i).length) : (byL m K i)[k].length ≤ i := by
  rw [byL_get, List.length_map]
  exact Nat.le_trans (List.length_filter_le _ _) (by rw [List.length_range]; exact Nat.le_refl _)
theorem byL_zero {m : Mk2} {K : Nat} : byL m K 0 = List.replicate K [] := by
  unfold byL
  refine List.ext_getElem (by simp) fun i h1 h2 => ?_
  simp
theorem byL_next {m : Mk2} {K i : Nat} (h : keepN m i < (byL m K i).length) : (byL m K i).set (keepN m i) ((byL m K i)[keepN m i] ++ [(i : Int)]) = byL m K (i + 1) := by
  refine List.ext_getElem (by rw [List.length_set, byL_len, byL_len]) fun j h1 h2 => ?_
  rw [List.getElem_set, byL_get h2, List.range_succ, List.filter_append, List.map_append]
  by_cases e : keepN m i = j
  · subst e
    rw [if_pos rfl, byL_get]
    simp
  · rw [if_neg e, byL_get]
    simp [e]
def selL (p : Nat → Bool) (i : Nat) : List Int := ((List.range i).filter p).map fun s : Nat => (s : Int)
theorem selL_next {p : Nat → Bool} {i : Nat} : selL p (i + 1) = if p i = true then selL p i ++ [(i : Int)] else selL p i := by
  unfold selL
  rw [List.range_succ, List.filter_append, List.map_append, List.filter_cons, List.filter_nil]
  cases p i <;> simp
theorem selL_len {p : Nat → Bool} {i : Nat} : (selL p i).length ≤ i := by
  unfold selL
  rw [List.length_map]
  exact Nat.le_trans (List.length_filter_le _ _) (by rw [List.length_range]; exact Nat.le_refl _)
theorem rngM_next {α : Type} {f : Nat → α} {i : Nat} : (List.range (i + 1)).map f = (List.range i).map f ++ [f i] := by rw [List.range_succ, List.map_append]; rfl
theorem rdU64 (w : World) (F : Nat → Prop) (x : Nat) (h : x < 18446744073709551616) : Rd w F (.int .u64 (x : Int)) x := ⟨_, rfl, rd_mkU64 _ _ x h⟩
theorem nilA5_at (w : World) : AutoAt w (Old w) (.agg #[.slice none 0 0, .slice none 0 0, .slice none 0 0, .slice none 0 0, .slice none 0 0]) nilA5 :=
  ⟨none, 0, none, 0, none, 0, none, 0, none, 0, rfl, Sl.zero w _, Sl.zero w _, Sl.zero w _, Sl.zero w _, Sl.zero w _⟩
set_option maxHeartbeats 4000000 in
theorem Make_ok (w0 : World) {t : Ltl} {ko : Option Addr} {kc : Nat} (hk : Sl w0 (Old w0) ko kc t.kids) :
    Rt Try.prog 33 [ltlV t.k t.n ko t.kids.length kc].toArray w0 fun v w' => (∃ rv, v = .tuple ⟨[rv, .int .i64 (makeT t).2]⟩ ∧ AutoAt w' (Old w') rv (makeT t).1) ∧ Ext w0 w' := by
  refine Rt.enter1 Try.func33 Try.ntmps33 rfl rfl ?_
  have hE := Ext.refl w0
  (repeat (first | (apply CW.seq) | (apply CW.region)))
  refine WL.boxB rfl rfl rfl fun w1 hb1 e1 => ?_
  have hE := hE.trans e1
  have l1 := hb1.lt
  skip
  refine WL.alloc rfl rfl (fun w2 hb2 e2 => ?_)
  have hb1 := hb1.ext e2
  have hE := hE.trans e2
  have l2 := hb2.lt
  have y2 := e2.size
  (repeat (first | (apply WL.pure; rfl; rfl; rfl) | (apply WL.nil) | (apply EX.thenN) | (apply CW.seq) | (apply CW.region) | (apply WL.ldA; rfl; rfl; rfl; assumption; rfl)))
  refine WL.call rfl rfl rfl (Plain_ok w2 (hk.up hE) (fun _ h => h)) ?_
  rintro _ w3 ⟨x, rfl, hx, e3⟩
  unfold makeT
  have hpl := plainE_ok (t := t)
  have hhas := plain_has t
  generalize (plainE t).2 = err at *
  generalize (plainE t).1 = f at *
  obtain ⟨fo, fc, rfl, hfk⟩ := Rd.ltl hx
  have hb1 := hb1.ext e3
  have hb2 := hb2.ext e3
  have hE := hE.trans e3
  have y3 := e3.size
  (repeat (apply WL.pure; rfl; rfl; rfl))
  refine WL.st rfl rfl rfl hb1 rfl rfl (ones_of rfl) (fun w4 hb1 hg4 => ?_)
  have y4 := hg4.size
  have hE4 : Ext w0 w4 := hE.grown hg4 hE.size (fun g hg => by cases hg; omega)
  have hb24 := hb2.kept hg4 (fun e => by have := Option.some.inj e; omega)
  have hfk4 : Sl w4 (Nw w2 w3) fo fc f.kids := hfk.mono (fun b hb => hg4.block b hb.2 (fun e => by have := Option.some.inj e; have := hb.1; omega)) (fun _ h => h)
  clear hfk hx hg4 hb2 e1 e2 e3 hE
  (repeat (first | (apply WL.pure; rfl; rfl; rfl) | (apply WL.nil) | (apply EX.thenN) | (apply CW.seq) | (apply CW.region)))
  refine CW.cond rfl (fun h => ?_) (fun h => ?_)
  · have h : err ≠ 0 := by simpa using h
    rw [if_pos h]
    (repeat (first | (apply CW.seq) | (apply CW.region)))
    refine WL.build (parts := []) rfl rfl rfl rfl ?_
    (repeat (apply WL.pure; rfl; rfl; rfl))
    refine WL.st rfl rfl rfl hb24 rfl rfl (ones_of rfl) (fun w5 hb5 hg5 => ?_)
    have hE5 : Ext w0 w5 := hE4.grown hg5 hE4.size (fun g hg => by cases hg; omega)
    (repeat (first | (apply WL.pure; rfl; rfl; rfl) | (apply WL.nil) | (apply EX.thenN) | (apply CW.ret) | (apply EX.thenR)))
    exact EX.retC2 rfl rfl rfl hb5 rfl ⟨⟨_, rfl, nilA5_at _⟩, hE5⟩
  have h : err = 0 := by simpa using h
  obtain ⟨hw, rfl, hwp, hn60⟩ := hpl h
  have hhas := hhas hw
  rw [if_neg (by simp [h])]
  clear h hpl
  generalize plainL t = f at *
  obtain ⟨hT, hF⟩ := tabM_ok hwp hhas.1 hhas.2
  have hga := gaE_len f ([], [])
  have hmlen := tabM_len f
  (repeat (first | (apply EX.thenN) | (apply CW.seq) | (apply CW.region) | (apply CW.skip)))
  refine WL.build (parts := []) rfl rfl rfl rfl ?_
  refine WL.boxB rfl rfl rfl fun w5 hsb e5 => ?_
  have l5 := hsb.lt
  have y5 := e5.size
  have hM5 : MkO w5 w4.heap.size (Nw w2 w3) w4.heap.size (.slice none 0 0) (.slice none 0 0) ([], []) :=
    ⟨hsb, Own.nil, Own.nil, Nat.le_refl _, (fun g hg => by cases hg), (fun g hg => by cases hg), (fun g hg => by cases hg), fun b hb => by have := hb.2; omega⟩
  have hb15 := hb1.ext e5
  have hb25 := hb24.ext e5
  have hE5 := hE4.trans e5
  (repeat (first | (apply WL.pure; rfl; rfl; rfl) | (apply WL.nil) | (apply EX.thenN) | (apply CW.seq) | (apply CW.region) | (apply WL.ldA; rfl; rfl; rfl; assumption; rfl)))
  refine WL.call rfl rfl rfl (gather_ok _ f (Nat.le_refl _) hwp w5 hM5 y5 (hfk4.mono (fun b hb => e5.block b (by have := hb.2; omega)) (fun _ h => h)) (by simp; omega)) ?_
  rintro _ w6 ⟨av, pv, hM6, hC6, na6, np6⟩
  have y6 := hC6.size
  have hlo6 := hM6.lo
  have hC6' : Chg (fun b => b = w4.heap.size) w5 w6 := hC6.wk (fun b hb => by
    rcases hb with h | h | h
    · exact h
    · cases h
    · cases h)
  have hblk6 := hM6.blk
  (repeat (first | (apply WL.pure; rfl; rfl; rfl) | (apply WL.nil) | (apply EX.thenN) | (apply CW.seq) | (apply CW.region) | (apply WL.fa; rfl; rfl; rfl) | (apply WL.nck; rfl; rfl; rfl) | (apply WL.ld; rfl; rfl; rfl; assumption; rfl)))
  refine WL.call rfl rfl rfl (sort_int w6 hM6.a (by simp at hga; omega)) ?_
  rintro _ w7 ⟨rfl, hso, hg7⟩
  have y7 := hg7.size
  have hsbE : w4.heap.size < w5.heap.size := l5
  have hM7 : MkO w7 w4.heap.size (Nw w2 w3) w4.heap.size av pv (tabM f) :=
    ⟨hM6.blk.kept hg7 (fun e => hM6.na _ e.symm rfl), hso, hM6.p.kept hg7 (fun g hg e => hM6.nap g e.symm hg) (fun b hb => ⟨by have := hb.2; omega, fun e => by have := (hlo6 b (.inr (.inl e.symm))).1; have := hb.2; omega⟩), hM6.ge, hM6.na, hM6.np, hM6.nap, hM6.hF⟩
  -- what is old, but for the maker
  have hold : ∀ b, b < w4.heap.size → w7.heap[b]? = w4.heap[b]? := fun b hb => (hg7.block b (by omega) (fun e => by have := (hlo6 b (.inr (.inl e.symm))).1; omega)).trans ((hC6'.block b (by omega) (by omega)).trans (e5.block b hb))
  have hb17 : Blk w7 _ _ _ := (hold _ (by omega)).trans hb1
  have hb27 : Blk w7 _ _ _ := (hold _ (by omega)).trans hb24
  have hE7 : Ext w0 w7 := by
    have h1 : Ext w4 w7 := ⟨hg7.os.trans (hC6.os.trans e5.os), hg7.tape.trans (hC6.tape.trans e5.tape), hg7.output.trans (hC6.output.trans e5.output), by omega, hold⟩
    exact hE4.trans h1
  have hfk7 : Sl w7 (Nw w2 w3) fo fc f.kids := hfk4.mono (fun b hb => hold b (by have := hb.2; omega)) (fun _ h => h)
  clear hM6 hC6 na6 np6 hC6' hblk6 hso hg7 hM5 hsb hb15 hb25 hfk4 hb24 hb1 e5 hE5 hlo6
  obtain ⟨ao, ac, rfl⟩ := hM7.a.val
  obtain ⟨po, pc, rfl⟩ := hM7.p.val
  have hblk7 := hM7.blk
  have hml : (tabM f).1.length + (tabM f).2.length ≤ 60 := by rw [hmlen.1, hmlen.2]; simp at hga; omega
  (repeat (first | (apply QL.add; rfl; rfl; rfl; rfl; omega; omega) | (apply QL.pure; rfl; rfl; rfl) | (apply WL.nil) | (apply EX.thenN) | (apply CW.seq) | (apply QL.lenS; rfl; rfl; rfl) | (apply QL.fa; rfl; rfl; rfl) | (apply QL.nck; rfl; rfl; rfl) | (apply QL.ld; rfl; rfl; rfl; assumption; rfl) | (apply CW.draw; exact mixed; kernel_rfl)))
  refine QL.nil (fun w8 e8 => ?_)
  have hE8 := hE7.trans e8
  have hb18 := hb17.ext e8
  have hb28 := hb27.ext e8
  have y8 := e8.size
  have hM8 := hM7.ext (by omega) e8
  have hfk8 := hfk7.mono (w' := w8) (fun b hb => e8.block b (by have := hb.2; omega)) (F' := fun b => b < w8.heap.size) (fun b hb => by have := hb.2; omega)
  rw [show (((tabM f).1.length : Nat) : Int) + (((tabM f).2.length : Nat) : Int) = ((numN (tabM f) : Nat) : Int) by unfold numN; omega]
  (repeat (first | (apply WL.pure; rfl; rfl; rfl) | (apply WL.nil) | (apply EX.thenN) | (apply CW.seq) | (apply CW.region)))
  refine CW.cond rfl (fun h => ?_) (fun h => ?_)
  · have h : numN (tabM f) > 10 := by exact_mod_cast of_decide_eq_true h
    rw [if_pos h]
    (repeat (first | (apply CW.seq) | (apply CW.region)))
    refine WL.build (parts := []) rfl rfl rfl rfl ?_
    skip
    refine WL.st rfl rfl rfl hb28 rfl rfl (ones_of rfl) (fun w9 hb9 hg9 => ?_)
    have hE9 : Ext w0 w9 := hE8.grown hg9 hE8.size (fun g hg => by cases hg; omega)
    (repeat (first | (apply WL.pure; rfl; rfl; rfl) | (apply WL.nil) | (apply EX.thenN) | (apply CW.ret) | (apply EX.thenR)))
    exact EX.retC2 rfl rfl rfl hb9 rfl ⟨⟨_, rfl, nilA5_at _⟩, hE9⟩
  have h10 : ¬ numN (tabM f) > 10 := by exact_mod_cast of_decide_eq_false h
  rw [if_neg h10]
  clear h
  have hlo8 := hM8.lo
  have hMk8 : MkF w8 (fun b => b < w8.heap.size) w4.heap.size (tabM f) := by
    obtain ⟨po', pc', ep, hps⟩ := hM8.p.slF (F' := fun b => b < w8.heap.size) (fun b hb => by have := hb.2; omega) (fun g hg => (hM8.p.lt g hg).2.1)
    obtain ⟨ao', ac', ea, has⟩ := hM8.a.slF (F' := fun b => b < w8.heap.size) (fun b hb => hb.elim) (fun g hg => (hM8.a.lt g hg).2.1)
    obtain ⟨rfl, _, rfl⟩ := Value.slice.inj ep
    obtain ⟨rfl, _, rfl⟩ := Value.slice.inj ea
    exact ⟨⟨ao, ac, po, pc, hM8.blk, has, hps⟩, by omega⟩
  have hmk := hMk8
  clear hM7 hM8 hblk7 hE7 hb17 hb27 hfk7 hold hlo8 hmlen hga e8
  generalize tabM f = m at *
  generalize hsbn : w4.heap.size = sb at *
  have hl20 : m.1.length ≤ 20 ∧ m.2.length ≤ 20 := by unfold numN at h10; omega
  have hpN : (1 <<< numN m) = 2 ^ numN m := Nat.one_shiftLeft _
  have hp10 : 2 ^ numN m ≤ 2 ^ 10 := Nat.pow_le_pow_right (by omega) (by omega)
  have hpK : (1 <<< m.2.length) = 2 ^ m.2.length := Nat.one_shiftLeft _
  have hpK10 : 2 ^ m.2.length ≤ 2 ^ 10 := Nat.pow_le_pow_right (by omega) (by unfold numN at h10; omega)
  (repeat (first | (apply EX.thenN) | (apply CW.seq) | (apply CW.region) | (apply CW.skip)))
  refine WL.alloc rfl rfl (fun w9 hb7 e9 => ?_)
  have l9 := hb7.lt
  have hb19 := hb18.ext e9
  have hb29 := hb28.ext e9
  have hmk9 := hmk.to (w' := w9) (fun b hb => e9.block b hb)
  have hfk9 := hfk8.mono (w' := w9) (fun b hb => e9.block b hb) (F' := fun b => b < w8.heap.size) (fun _ h => h)
  have hE9 := hE8.trans e9
  obtain ⟨ao', ac', po', pc', hblk9, has9, hps9⟩ := hmk9.ok
  generalize hb7n : w8.heap.size = b7 at *
  (repeat (first | (apply WL.pure; rfl; rfl; rfl) | (apply WL.nil) | (apply EX.thenN) | (apply CW.seq) | (apply CW.region) | (apply WL.lenS; rfl; rfl; rfl) | (apply WL.fa; rfl; rfl; rfl) | (apply WL.nck; rfl; rfl; rfl) | (apply WL.ld; rfl; rfl; rfl; assumption; rfl)))
  rw [shlS (show m.2.length < 62 by omega)]
  generalize 1 <<< m.2.length = K at *
  refine WL.make (α := Raw) rfl rfl rfl rfl (by omega) (by unfold maxLen; omega) (fun w10 ho10 hg10 => ?_)
  have e10 : Ext w9 w10 := (Below.refl _ _).grown hg10 (Nat.le_refl _) (fun k h => by cases h)
  generalize hbv : Value.slice (some ⟨w9.heap.size, 0, none⟩) (K) (K) = bv at *
  have hN10 : OwnN w10 w9.heap.size 22 3 bv _ (List.replicate (K) ([] : List Int)) := OwnN.made ho10
  rw [← byL_zero (m := m)] at hN10
  clear ho10 hg10
  (repeat (first | (apply WL.pure; rfl; rfl; rfl) | (apply WL.nil) | (apply EX.thenN) | (apply CW.seq) | (apply CW.region) | (apply CW.block)))
  rw [shlS (show numN m < 62 by omega)]
  generalize 1 <<< numN m = N at *
  refine CW.loop (S := Nat × List Raw) (fun s => [(1, .pointer (some ⟨w0.heap.size, 0, none⟩)), (2, .pointer (some ⟨w1.heap.size, 0, none⟩)), (5, .pointer (some ⟨sb, 0, none⟩)), (6, .int .i64 ((numN m : Nat) : Int)), (7, .pointer (some ⟨b7, 0, none⟩)), (8, bv), (57, .int .i64 (N : Int)), (58, .int .i64 s.1)])
    (fun s w => s.1 ≤ N ∧ OwnN w w9.heap.size 22 3 bv s.2 (byL m (K) s.1) ∧ Ext w9 w) (fun s => N - s.1) (0, _) (by repeat (first | exact trivial | refine ⟨rfl, ?_⟩)) ⟨Nat.zero_le _, hN10, e10⟩ ?_
  clear hN10 e10
  rintro ⟨i, vs⟩ w ⟨hi, hN, e⟩
  dsimp only at hi hN e ⊢
  have hvl := hN.len
  rw [byL_len] at hvl
  (repeat (first | (apply WL.pure; rfl; rfl; rfl) | (apply WL.nil) | (apply EX.thenN) | (apply CW.seq) | (apply CW.region)))
  refine CW.cond rfl (fun h => ?_) (fun h => ?_)
  · have hi' : i < N := by have h := of_decide_eq_true h; omega
    clear h
    (repeat (first | (apply WL.pure; rfl; rfl; rfl) | (apply WL.nil) | (apply EX.thenN) | (apply CW.seq) | (apply CW.region) | (apply CW.block) | (apply CW.skip)))
    refine WL.call rfl rfl rfl (kept_ok w ((hmk9.rd (fun b hb => by omega)).ext e) hT (by rw [hpN] at hi'; omega) hl20) ?_
    rintro _ w11 ⟨rfl, e11⟩
    have hN11 := hN.ext e11
    have e911 := e.trans e11
    have hkl : keepN m i < K := by rw [hpK]; exact packB_lt
    have hkv : keepN m i < vs.length := by omega
    have hkb : keepN m i < (byL m (K) i).length := by rw [byL_len]; exact hkl
    have hin := hN11.inn (keepN m i) hkv hkb
    have hrow := byL_row (m := m) hkb
    have hnx := byL_next (m := m) hkb
    generalize keepN m i = k at *
    (repeat (first | (apply WL.pure; rfl; rfl; rfl) | (apply WL.nil) | (apply EX.thenN) | (apply CW.region)))
    refine WL.elemON rfl rfl rfl rfl rfl hN11.out hkv (fun _ => rfl) (fun u q hu => ?_)
    obtain ⟨rfl, _⟩ := hu.raw
    (repeat (apply WL.pure; rfl; rfl; rfl))
    refine WL.app1 (F := Non) (yv := (i : Int)) rfl rfl (fun _ => rfl) rfl rfl (fun _ => rfl) hin (Rd.mkInt _ _ _) e911.size (fun _ h => h.elim) (by decide) (by unfold maxLen; omega) (by omega) (fun v' w12 p ho12 hg12 hnb => ?_)
    have hmid := hN11.mid hkv hg12
    skip
    refine WL.setN (u := v') (yv := ⟨v'⟩) rfl rfl rfl rfl hmid hkv (fun _ => rfl) (fun _ => rfl) (Rd.mkRaw _ _ _ ?_) (fun w13 q ho13 hg13 => ?_)
    · obtain ⟨a, b, rfl⟩ := ho12.val; rfl
    have hN13 := hN11.set hkv ho12 hg12 hnb ho13 hg13
    rw [hnx] at hN13
    have e13 : Ext w9 w13 := (e911.grown hg12 e911.size (fun b hb => (hin.lt b hb).1)).grown hg13 (Nat.le_trans e911.size hg12.size) (fun b hb => (hN11.out.lt b hb).1)
    (repeat (first | (apply WL.add; rfl; rfl; rfl; rfl; omega; omega) | (apply WL.pure; rfl; rfl; rfl) | (apply WL.nil) | (apply EX.thenN) | (apply CW.region) | (apply EX.inN)))
    exact EX.back (i + 1, vs.set k ⟨v'⟩) (by repeat (first | exact trivial | refine ⟨rfl, ?_⟩)) ⟨hi', hN13, e13⟩ (by dsimp only; omega)
  obtain rfl : N = i := by have h := of_decide_eq_false h; omega
  clear h hi
  have hlN := hN.lt
  obtain ⟨bo, bc, rfl, hby⟩ := hN.sl
  have yw := e.size
  have hbyL := hby.mono (w' := w) (fun _ _ => rfl) (F' := fun b => w9.heap.size ≤ b ∧ b < w.heap.size) (fun b hb => hlN b hb)
  have hmkL := hmk9.to (w' := w) (fun b hb => e.block b (by omega))
  have hfkL := hfk9.mono (w' := w) (fun b hb => e.block b (by omega)) (F' := fun b => b < b7) (fun _ h => h)
  have hb7L := hb7.ext e
  have hb1L := hb19.ext e
  have hb2L := hb29.ext e
  have hEL := hE9.trans e
  have hNlt : N ≤ 1024 := by rw [hpN]; exact hp10
  clear hN hvl hby hlN hb7 hb19 hb29 hmk9 hfk9 e9 hE9 hE8 hb18 hb28 hmk hfk8 hblk9 has9 hps9 e
  generalize hwLn : w.heap.size = wn at *
  have holdL : ∀ {z : World}, Chg (fun b => b = b7 ∨ wn ≤ b) w z → ∀ b, b < wn → b ≠ b7 → z.heap[b]? = w.heap[b]? := fun {z} hC b hb hne => hC.block b (by omega) (by omega)
  have hMA : ∀ {z : World}, Chg (fun b => b = b7 ∨ wn ≤ b) w z → MkA z sb m ∧ Sl z (Old z) fo fc f.kids ∧ Blk z w0.heap.size 68 [.int .i64 f.k, .int .i64 f.n, .slice fo f.kids.length fc] ∧ Sl z (fun b => w9.heap.size ≤ b ∧ b < wn) bo bc (byL m K N) := fun {z} hC => by
    have hz := hC.size
    exact ⟨(hmkL.to (fun b hb => holdL hC b (by omega) (by omega))).rd (fun b hb => by omega), hfkL.mono (fun b hb => holdL hC b (by omega) (by omega)) (fun b hb => by exact (show b < z.heap.size by omega)), (holdL hC _ (by omega) (by omega)).trans hb1L, hbyL.mono (fun b hb => holdL hC b hb.2 (by omega)) (fun _ h => h)⟩
  (repeat (first | (apply WL.pure; rfl; rfl; rfl) | (apply WL.nil) | (apply EX.thenN) | (apply CW.seq) | (apply CW.region) | (apply CW.block) | (apply CW.exit) | (apply EX.thenX) | (apply EX.inX)))
  rw [shlS (show numN m < 62 by omega), show (1 <<< numN m : Nat) = N by rw [Nat.one_shiftLeft, hpN]]
  refine CW.loop (S := Nat × (Nat → Value) × List Raw) (fun s => [(1, .pointer (some ⟨w0.heap.size, 0, none⟩)), (2, .pointer (some ⟨w1.heap.size, 0, none⟩)), (5, .pointer (some ⟨sb, 0, none⟩)), (6, .int .i64 ((numN m : Nat) : Int)), (7, .pointer (some ⟨b7, 0, none⟩)), (8, .slice bo (byL m K N).length bc), (76, .int .i64 (N : Int)), (77, .int .i64 s.1)])
    (fun s z => s.1 ≤ N ∧ OutA z wn b7 s.2.1 (selL (fun x => hoB m x f) s.1) s.2.2 ((List.range s.1).map fun x => bitsN m x true) ((List.range s.1).map fun x => bitsN m x false) [] ∧ InnR z (oM w1.heap.size b7 s.2.1) s.2.2 ((List.range s.1).map fun x => selL (fun t => decide (keepN m t = x >>> m.1.length)) N) ∧ Chg (fun b => b = b7 ∨ wn ≤ b) w z)
    (fun s => N - s.1) (0, (fun _ => .slice none 0 0), []) (by repeat (first | exact trivial | refine ⟨rfl, ?_⟩)) ⟨Nat.zero_le _, ⟨hb7L, Own.nil, Own.nil, Own.nil, Own.nil, Own.nil, (fun i j _ _ _ g hg => by cases hg), by omega⟩, InnR.nil, Chg.refl _ _⟩ ?_
  rintro ⟨i, c, vs⟩ z ⟨hi, hA, hR, hC⟩
  dsimp only at hi hA hR hC ⊢
  obtain ⟨kMA, kfk, kb1, kby⟩ := hMA hC
  have hz := hC.size
  have hlt := hA.lt
  have hRl := hR.len
  rw [List.length_map, List.length_range] at hRl
  (repeat (first | (apply WL.pure; rfl; rfl; rfl) | (apply WL.nil) | (apply EX.thenN) | (apply CW.seq) | (apply CW.region)))
  refine CW.cond rfl (fun h => ?_) (fun h => ?_)
  · have hi' : i < N := by have h := of_decide_eq_true h; omega
    clear h
    have hs20 : i < 1048576 := by omega
    apply CW.skip
    apply EX.thenN
    apply CW.seq
    apply CW.block
    apply CW.seq
    apply CW.region
    (repeat (apply WL.pure; rfl; rfl; rfl))
    apply WL.nil
    apply EX.thenN
    refine CW.cutI (S := Nat → Value) (fun c' => [(1, .pointer (some ⟨w0.heap.size, 0, none⟩)), (2, .pointer (some ⟨w1.heap.size, 0, none⟩)), (5, .pointer (some ⟨sb, 0, none⟩)), (6, .int .i64 ((numN m : Nat) : Int)), (7, .pointer (some ⟨b7, 0, none⟩)), (8, .slice bo (byL m K N).length bc), (11, .int .i64 (i : Int)), (76, .int .i64 (N : Int)), (77, .int .i64 (i : Int))])
      (fun c' z' => OutA z' wn b7 c' (selL (fun x => hoB m x f) (i + 1)) vs ((List.range i).map fun x => bitsN m x true) ((List.range i).map fun x => bitsN m x false) [] ∧ InnR z' (oM w1.heap.size b7 c') vs ((List.range i).map fun x => selL (fun t => decide (keepN m t = x >>> m.1.length)) N) ∧ Chg (fun b => b = b7 ∨ wn ≤ b) w z') ?_ ?_
    · (repeat (first | (apply WL.pure; rfl; rfl; rfl) | (apply CW.seq) | (apply CW.region) | (apply WL.ldA; rfl; rfl; rfl; assumption; rfl)))
      refine WL.call rfl rfl rfl (tholds_ok _ f (Nat.le_refl _) z kMA hF kfk hs20 hl20) ?_
      rintro _ z1 ⟨rfl, e1⟩
      have hA1 := hA.ext e1
      have hR1 := hR.to (Chg.of_ext (oM w1.heap.size b7 c) e1) (fun b hb => .inl hb)
      have hC1 := hC.trans (Chg.of_ext _ e1)
      have hnx := selL_next (p := fun x => hoB m x f) (i := i)
      have hxl := selL_len (p := fun x => hoB m x f) (i := i)
      have hz1 := e1.size
      cases hh : hoB m i f with
      | false =>
        simp only [hh] at hnx
        rw [if_neg (by decide)] at hnx
        (repeat (first | (apply WL.nil) | (apply EX.thenN) | (apply CW.condF; rfl) | (apply CW.skip)))
        exact EX.cutI c (by repeat (first | exact trivial | refine ⟨rfl, ?_⟩)) ⟨by rw [hnx]; exact hA1, hR1, hC1⟩
      | true =>
        simp only [hh] at hnx
        rw [if_pos trivial] at hnx
        have hblk1 := hA1.blk
        have hlt1 := hA1.lt
        (repeat (first | (apply WL.pure; rfl; rfl; rfl) | (apply WL.nil) | (apply EX.thenN) | (apply CW.region) | (apply WL.fa; rfl; rfl; rfl) | (apply WL.ld; rfl; rfl; rfl; assumption; rfl) | (apply CW.condT; rfl)))
        refine WL.app1 (F := Non) (yv := (i : Int)) rfl rfl (fun _ => rfl) rfl rfl (fun _ => rfl) hA1.o0 (Rd.mkInt _ _ _) (by omega) (fun _ h => h.elim) (by decide) (by unfold maxLen; omega) (by omega) (fun v' z2 p ho2 hg2 hnb => ?_)
        obtain ⟨so, sc, rfl⟩ := ho2.val
        have hblk2 := hblk1.kept hg2 (fun e => by have := (hlt1 0 (by omega) b7 e.symm).1; have := hA.lb; omega)
        (repeat (apply WL.fa; rfl; rfl; rfl))
        refine WL.st rfl rfl rfl hblk2 rfl rfl (ones_of rfl) (fun z3 hblk3 hg3 => ?_)
        obtain ⟨kk, kn, kd, kc, km, kw⟩ := hA1.step (b2 := w1.heap.size) (i := 0) (by omega) hg2 hg3 hnb (by omega)
        have ho3 := kn ho2
        rw [← hnx] at ho3
        (repeat (apply WL.nil))
        refine EX.cutI (updV c 0 _) (by repeat (first | exact trivial | refine ⟨rfl, ?_⟩)) ⟨⟨hblk3, ?_, kk 1 (by omega) (by omega) hA1.o1, kk 2 (by omega) (by omega) hA1.o2, kk 3 (by omega) (by omega) hA1.o3, kk 4 (by omega) (by omega) hA1.o4, kd, hA.lb⟩, hR1.to kc km, hC1.then kw (fun b hb => .inl hb)⟩
        rw [show (selL (fun x => hoB m x f) i ++ [(i : Int)]).length = (selL (fun x => hoB m x f) (i + 1)).length by rw [hnx]] at *
        exact ho3
    rintro c1 z1 ⟨hA1, hR1, hC1⟩
    have hs20' : i < 2 ^ 20 := by omega
    -- what is next
    have hD : Ext z1 (drew z1) := Ext.drew z1
    have hzd := hD.size
    have hz1 := hC1.size
    have hAd := hA1.ext hD
    have hRd := hR1.to (Chg.of_ext (oM w1.heap.size b7 c1) hD) (fun b hb => .inl hb)
    have hCd := hC1.trans (Chg.of_ext _ hD)
    have hblkd := hAd.blk
    have hltd := hAd.lt
    have lb := hAd.lb
    obtain ⟨kMA, kfk, kb1, kby⟩ := hMA hCd
    have howe : i >>> m.1.length < K := by
      rw [hpK, Nat.shiftRight_eq_div_pow, Nat.div_lt_iff_lt_mul (Nat.two_pow_pos _), ← Nat.pow_add]
      rw [hpN] at hi'
      unfold numN at hi'
      rw [Nat.add_comm]; exact hi'
    have hkb : i >>> m.1.length < (byL m K N).length := by rw [byL_len]; exact howe
    have hrowN : (byL m K N)[i >>> m.1.length] = selL (fun t => decide (keepN m t = i >>> m.1.length)) N := byL_get hkb
    have hrowl := selL_len (p := fun t => decide (keepN m t = i >>> m.1.length)) (i := N)
    (repeat (apply CW.seq))
    refine CW.drawE (fun x : World => ∀ b, b < wn → x.heap[b]? = (drew z1).heap[b]?) [(0, true), (1, true), (2, true), (3, true), (4, true), (5, false), (6, true), (7, true), (8, false), (9, false), (10, false), (11, false)] 12 mixed (by kernel_rfl) (fun _ _ => rfl) ?_
    (repeat (refine HL.fa rfl rfl rfl rfl ?_))
    refine HL.ldK (fun u h => h b7 lb) rfl rfl rfl rfl hblkd rfl ?_
    (repeat (apply HL.pure; rfl; rfl; rfl; rfl))
    refine HL.mut rfl (WL.call rfl rfl rfl (owed_ok _ kMA hl20.1) ?_)
    rintro _ _ ⟨rfl, rfl⟩
    refine WL.nil (EX.mut (fun _ _ => rfl) ?_)
    skip
    refine HL.elemK (k := i >>> m.1.length) (fun u h b hb => h b hb.2) rfl rfl rfl rfl rfl rfl rfl kby hkb (fun _ => rfl) (fun u q hu => ?_)
    rw [hrowN] at hu
    obtain ⟨ro, rc, rfl, hrow⟩ := hu.sl
    refine HL.mut rfl (WL.call rfl rfl rfl (clone_int (drew z1) (hrow.mono (fun _ _ => rfl) (fun b hb => by have := hb.2; exact (show b < (drew z1).heap.size by omega))) (by omega)) ?_)
    rintro rv z2 ⟨hrv, e2⟩
    have hz2 := e2.size
    refine WL.nil (EX.mut (fun b hb => e2.block b (by omega)) ?_)
    obtain ⟨ro', rc', rfl⟩ := hrv.val
    have hA2 := hAd.ext e2
    have hR2 := hRd.to (Chg.of_ext (oM w1.heap.size b7 c1) e2) (fun b hb => .inl hb)
    have hC2 := hCd.trans (Chg.of_ext _ e2)
    have hlt2 := hA2.lt
    have hlo1 := hA2.o1.lt
    refine HL.app1 (α := Raw) (F := Non) (bytes := 24) (yv := (⟨.slice ro' (selL (fun t => decide (keepN m t = i >>> m.1.length)) N).length rc'⟩ : Raw)) rfl rfl rfl rfl (fun _ => rfl) rfl rfl (fun _ => rfl) hA2.o1 (Rd.mkRaw _ _ _ rfl) (by omega) (fun _ h => h.elim) (by decide) (by unfold maxLen; omega) (by omega)
      (fun u hu b hb => (hu.block b (by omega) (fun e => by have := (hlo1 b e.symm).1; omega)).trans (e2.block b (by omega))) (fun v' z3 p ho3 hg3 hnb => ?_)
    obtain ⟨so, sc, rfl⟩ := ho3.val
    have hblk3 := hA2.blk.kept hg3 (fun e => by have := (hlo1 b7 e.symm).1; omega)
    have hz3 : z2.heap.size ≤ z3.heap.size := hg3.size
    refine HL.mut rfl (WL.fa rfl rfl rfl (WL.nil (EX.mut (fun b hb => (hg3.block b (by omega) (fun e => by have := (hlo1 b e.symm).1; omega)).trans (e2.block b (by omega))) (HL.nil ?_))))
    refine EX.tail rfl (WL.st rfl rfl rfl hblk3 rfl rfl (ones_of rfl) (fun z4 hblk4 hg4 => WL.nil (EX.tailE ?_)))
    obtain ⟨kk, kn, kd, kc, km, kw⟩ := hA2.step (b2 := w1.heap.size) (i := 1) (by omega) hg3 hg4 hnb (by omega)
    have hrvR : Rd z2 (Fz z2 (oM w1.heap.size b7 c1)) _ _ := hrv.rd.mono (fun _ _ => rfl) (fun g hg => hg.elim (fun h => h.elim) (fun hg => ⟨(hrv.lt g hg).2.1, fun h => by
      have h1 := (hrv.lt g hg).1
      rcases h with h | h | ⟨j, hj, h⟩
      · omega
      · omega
      · have := (hltd j hj g h).2; omega⟩))
    have hR4 := (hR2.push hrvR).to kc km
    rw [← rngM_next] at hR4
    have hA4 : OutA z4 wn b7 (updV c1 1 _) _ _ _ _ _ := ⟨hblk4, kk 0 (by omega) (by omega) hA2.o0, kn ho3, kk 2 (by omega) (by omega) hA2.o2, kk 3 (by omega) (by omega) hA2.o3, kk 4 (by omega) (by omega) hA2.o4, kd, lb⟩
    have hC4 := hC2.then kw (fun b hb => .inl hb)
    generalize hc2 : updV c1 1 _ = c2 at hA4 hR4
    clear kk kn kd kc km kw hrvR hblk4 hg4 hblk3 hlt2 hlo1 hg3 hnb ho3 hA2 hR2 hC2 e2 hrv hrow hblkd hltd kMA kfk kb1 kby hAd hRd hCd hD hA1 hR1 hC1
    apply EX.thenN
    -- bits true
    have hD : Ext z4 (drew z4) := Ext.drew z4
    have hzd := hD.size
    have hzi := hC4.size
    have hAd := hA4.ext hD
    have hCd := hC4.trans (Chg.of_ext _ hD)
    have hblkd := hAd.blk
    have lb := hAd.lb
    obtain ⟨kMA, kfk, kb1, kby⟩ := hMA hCd
    (repeat (apply CW.seq))
    refine CW.drawE (fun x : World => ∀ b, b < wn → x.heap[b]? = (drew z4).heap[b]?) [(0, true), (1, true), (2, true), (3, true), (4, false), (5, false), (6, false), (7, false)] 8 mixed (by kernel_rfl) (fun _ _ => rfl) ?_
    (repeat (refine HL.fa rfl rfl rfl rfl ?_))
    refine HL.ldK (fun u h => h b7 lb) rfl rfl rfl rfl hblkd rfl ?_
    (repeat (apply HL.pure; rfl; rfl; rfl; rfl))
    refine HL.mut rfl (WL.call rfl rfl rfl (bits_ok _ true kMA hT.ok hs20 hl20.1) ?_)
    rintro _ zc ⟨rfl, ec⟩
    have hzc := ec.size
    refine WL.nil (EX.mut (fun b hb => ec.block b (by omega)) ?_)
    have hAc := hAd.ext ec
    have hRc := hR4.to (Chg.of_ext (oM w1.heap.size b7 c2) (hD.trans ec)) (fun b hb => .inl hb)
    have hCc := hCd.trans (Chg.of_ext _ ec)
    have hloc := hAc.o2.lt
    refine HL.app1 (α := Nat) (F := Non) (bytes := 8) (yv := bitsN m i true) rfl rfl rfl rfl (fun _ => rfl) rfl rfl (fun _ => rfl) hAc.o2 (rdU64 _ _ _ (bitP_lt (fun x hx => (hT.ok.ra x hx).2) (Nat.le_refl _))) (by omega) (fun _ h => h.elim) (by decide) (by unfold maxLen; rw [List.length_map, List.length_range]; omega) (by rw [List.length_map, List.length_range]; omega)
      (fun u hu b hb => (hu.block b (by omega) (fun e => by have := (hloc b e.symm).1; omega)).trans (ec.block b (by omega))) (fun v' zA p hoA hgA hnb => ?_)
    obtain ⟨so, sc, rfl⟩ := hoA.val
    have hblkA := hAc.blk.kept hgA (fun e => by have := (hloc b7 e.symm).1; omega)
    have hzA : zc.heap.size ≤ zA.heap.size := hgA.size
    refine HL.mut rfl (WL.fa rfl rfl rfl (WL.nil (EX.mut (fun b hb => (hgA.block b (by omega) (fun e => by have := (hloc b e.symm).1; omega)).trans (ec.block b (by omega))) (HL.nil ?_))))
    refine EX.tail rfl (WL.st rfl rfl rfl hblkA rfl rfl (ones_of rfl) (fun z5 hblkB hgB => WL.nil (EX.tailE ?_)))
    obtain ⟨kk, kn, kd, kc, km, kw⟩ := hAc.step (b2 := w1.heap.size) (i := 2) (by omega) hgA hgB hnb (by omega)
    have hR5 := hRc.to kc km
    have hoB1 := hoA
    rw [show ((List.range i).map fun x => bitsN m x true) ++ [bitsN m i true] = (List.range (i + 1)).map fun x => bitsN m x true from rngM_next.symm] at hoB1 hblkB kd km hR5 kn
    have hA5 : OutA z5 wn b7 (updV c2 2 _) _ _ _ _ _ := ⟨hblkB, kk 0 (by omega) (by omega) hAc.o0, kk 1 (by omega) (by omega) hAc.o1, kn hoB1, kk 3 (by omega) (by omega) hAc.o3, kk 4 (by omega) (by omega) hAc.o4, kd, lb⟩
    have hC5 := hCc.then kw (fun b hb => .inl hb)
    generalize hcv5 : updV c2 2 _ = c3 at hA5 hR5
    clear kk kn kd kc km kw hgA hgB hnb hoA hoB1 hAc hRc hCc ec hblkd kMA kfk kb1 kby hAd hCd hD hA4 hR4 hC4 hblkA hblkB hloc
    apply EX.thenN
    -- bits false
    have hD : Ext z5 (drew z5) := Ext.drew z5
    have hzd := hD.size
    have hzi := hC5.size
    have hAd := hA5.ext hD
    have hCd := hC5.trans (Chg.of_ext _ hD)
    have hblkd := hAd.blk
    have lb := hAd.lb
    obtain ⟨kMA, kfk, kb1, kby⟩ := hMA hCd
    skip
    refine CW.drawE (fun x : World => ∀ b, b < wn → x.heap[b]? = (drew z5).heap[b]?) [(0, true), (1, true), (2, true), (3, true), (4, false), (5, false), (6, false), (7, false)] 8 mixed (by kernel_rfl) (fun _ _ => rfl) ?_
    (repeat (refine HL.fa rfl rfl rfl rfl ?_))
    refine HL.ldK (fun u h => h b7 lb) rfl rfl rfl rfl hblkd rfl ?_
    (repeat (apply HL.pure; rfl; rfl; rfl; rfl))
    refine HL.mut rfl (WL.call rfl rfl rfl (bits_ok _ false kMA hT.ok hs20 hl20.1) ?_)
    rintro _ zc ⟨rfl, ec⟩
    have hzc := ec.size
    refine WL.nil (EX.mut (fun b hb => ec.block b (by omega)) ?_)
    have hAc := hAd.ext ec
    have hRc := hR5.to (Chg.of_ext (oM w1.heap.size b7 c3) (hD.trans ec)) (fun b hb => .inl hb)
    have hCc := hCd.trans (Chg.of_ext _ ec)
    have hloc := hAc.o3.lt
    refine HL.app1 (α := Nat) (F := Non) (bytes := 8) (yv := bitsN m i false) rfl rfl rfl rfl (fun _ => rfl) rfl rfl (fun _ => rfl) hAc.o3 (rdU64 _ _ _ (bitP_lt (fun x hx => (hT.ok.ra x hx).2) (Nat.le_refl _))) (by omega) (fun _ h => h.elim) (by decide) (by unfold maxLen; rw [List.length_map, List.length_range]; omega) (by rw [List.length_map, List.length_range]; omega)
      (fun u hu b hb => (hu.block b (by omega) (fun e => by have := (hloc b e.symm).1; omega)).trans (ec.block b (by omega))) (fun v' zA p hoA hgA hnb => ?_)
    obtain ⟨so, sc, rfl⟩ := hoA.val
    have hblkA := hAc.blk.kept hgA (fun e => by have := (hloc b7 e.symm).1; omega)
    have hzA : zc.heap.size ≤ zA.heap.size := hgA.size
    refine HL.mut rfl (WL.fa rfl rfl rfl (WL.nil (EX.mut (fun b hb => (hgA.block b (by omega) (fun e => by have := (hloc b e.symm).1; omega)).trans (ec.block b (by omega))) (HL.nil ?_))))
    refine EX.tail rfl (WL.st rfl rfl rfl hblkA rfl rfl (ones_of rfl) (fun z6 hblkB hgB => WL.nil (EX.tailE ?_)))
    obtain ⟨kk, kn, kd, kc, km, kw⟩ := hAc.step (b2 := w1.heap.size) (i := 3) (by omega) hgA hgB hnb (by omega)
    have hR6 := hRc.to kc km
    have hoB1 := hoA
    rw [show ((List.range i).map fun x => bitsN m x false) ++ [bitsN m i false] = (List.range (i + 1)).map fun x => bitsN m x false from rngM_next.symm] at hoB1 hblkB kd km hR6 kn
    have hA6 : OutA z6 wn b7 (updV c3 3 _) _ _ _ _ _ := ⟨hblkB, kk 0 (by omega) (by omega) hAc.o0, kk 1 (by omega) (by omega) hAc.o1, kk 2 (by omega) (by omega) hAc.o2, kn hoB1, kk 4 (by omega) (by omega) hAc.o4, kd, lb⟩
    have hC6 := hCc.then kw (fun b hb => .inl hb)
    generalize hcv6 : updV c3 3 _ = c4 at hA6 hR6
    clear kk kn kd kc km kw hgA hgB hnb hoA hoB1 hAc hRc hCc ec hblkd kMA kfk kb1 kby hAd hCd hD hA5 hR5 hC5 hblkA hblkB hloc
    (repeat (first | (apply WL.add; rfl; rfl; rfl; rfl; omega; omega) | (apply WL.pure; rfl; rfl; rfl) | (apply WL.nil) | (apply EX.thenN) | (apply CW.region) | (apply EX.inN)))
    exact EX.back (i + 1, c4, _) (by repeat (first | exact trivial | refine ⟨rfl, ?_⟩)) ⟨hi', hA6, hR6, hC6⟩ (by dsimp only; omega)
  obtain rfl : N = i := by have h := of_decide_eq_false h; omega
  clear h hi hRl
  obtain ⟨mao, mac, mpo, mpc, hblkw, hasw, hpsw⟩ := hmkL.ok
  have hblkz : Blk z _ _ _ := (holdL hC sb (by omega) (by omega)).trans hblkw
  (repeat (first | (apply WL.pure; rfl; rfl; rfl) | (apply WL.nil) | (apply EX.thenN) | (apply CW.seq) | (apply CW.region) | (apply WL.lenS; rfl; rfl; rfl) | (apply WL.fa; rfl; rfl; rfl) | (apply WL.nck; rfl; rfl; rfl) | (apply WL.ld; rfl; rfl; rfl; assumption; rfl) | (apply CW.block) | (apply CW.exit) | (apply EX.thenX) | (apply EX.inX)))
  refine CW.loop (S := Nat × (Nat → Value) × List Raw) (fun s => [(2, .pointer (some ⟨w1.heap.size, 0, none⟩)), (5, .pointer (some ⟨sb, 0, none⟩)), (6, .int .i64 ((numN m : Nat) : Int)), (7, .pointer (some ⟨b7, 0, none⟩)), (122, .slice mpo m.2.length mpc), (123, .int .i64 m.2.length), (124, .int .i64 s.1)])
    (fun s z => s.1 ≤ m.2.length ∧ OutA z wn b7 s.2.1 (selL (fun x => hoB m x f) N) vs ((List.range N).map fun x => bitsN m x true) ((List.range N).map fun x => bitsN m x false) s.2.2 ∧ InnR z (oM w1.heap.size b7 s.2.1) vs ((List.range N).map fun x => selL (fun t => decide (keepN m t = x >>> m.1.length)) N) ∧
      InnR z (oM w1.heap.size b7 s.2.1) s.2.2 (((m.2.take s.1).filter fun g => decide (g.k ≠ 7)).map fun g => selL (fairB m g) N) ∧ Chg (fun b => b = b7 ∨ wn ≤ b) w z)
    (fun s => m.2.length - s.1) (0, c, []) (by repeat (first | exact trivial | refine ⟨rfl, ?_⟩)) ⟨Nat.zero_le _, hA, hR, InnR.nil, hC⟩ ?_
  clear hblkz hA hR hC kMA kfk kb1 kby hlt hz c z
  rintro ⟨i, c, us⟩ z ⟨hi, hA, hR, hU, hC⟩
  dsimp only at hi hA hR hU hC ⊢
  have hz := hC.size
  have hlt := hA.lt
  have hUl := hU.len
  have hfl : ((m.2.take i).filter fun g => decide (g.k ≠ 7)).length ≤ i := Nat.le_trans (List.length_filter_le _ _) (by rw [List.length_take]; omega)
  rw [List.length_map] at hUl
  (repeat (first | (apply WL.pure; rfl; rfl; rfl) | (apply WL.nil) | (apply EX.thenN) | (apply CW.seq) | (apply CW.region)))
  refine CW.cond rfl (fun h => ?_) (fun h => ?_)
  · have hi' : i < m.2.length := by have h := of_decide_eq_true h; omega
    clear h
    have hpsz : Sl z (fun b => b < b7) mpo mpc m.2 := hpsw.mono (fun b hb => holdL hC b (by have hb : b < b7 := hb; omega) (by have hb : b < b7 := hb; omega)) (fun _ h => h)
    have htk : (m.2.take (i + 1)) = m.2.take i ++ [m.2[i]] := by rw [List.take_add_one, List.getElem?_eq_getElem hi']; rfl
    have hmem : m.2[i] ∈ m.2 := List.getElem_mem hi'
    (repeat (first | (apply EX.thenN) | (apply CW.seq) | (apply CW.region) | (apply CW.block) | (apply CW.skip)))
    refine WL.elemN (i := i) rfl rfl rfl rfl rfl hpsz hi' (fun _ => rfl) (fun u q hu => ?_)
    generalize m.2[i] = g at *
    obtain ⟨go, gc, rfl, hgk⟩ := Rd.ltl hu
    clear hu hpsz
    skip
    refine WL.alloc rfl rfl (fun z1 hg1 e1 => ?_)
    skip
    refine WL.st rfl rfl rfl hg1 rfl rfl (ones_of rfl) (fun z2 hg2 hgg2 => ?_)
    have e2 : Ext z z2 := Below.grown e1 hgg2 e1.size (fun g hg => by cases hg; exact Nat.le_refl _)
    have hz2 := e2.size
    have hA2 := hA.ext e2
    have hR2 := hR.to (Chg.of_ext (oM w1.heap.size b7 c) e2) (fun b hb => .inl hb)
    have hU2 := hU.to (Chg.of_ext (oM w1.heap.size b7 c) e2) (fun b hb => .inl hb)
    have hC2 := hC.trans (Chg.of_ext _ e2)
    have lg := hg2.lt
    have hgk2 := hgk.mono (w' := z2) (F' := fun b => b < b7) (fun b hb => e2.block b (by have hb : b < b7 := hb; omega)) (fun _ h => h)
    have hOg := hT.part hmem
    clear hg1 e1 hgg2 hA hR hU hC hgk
    (repeat (first | (apply WL.pure; rfl; rfl; rfl) | (apply WL.nil) | (apply EX.thenN) | (apply CW.seq) | (apply CW.region) | (apply WL.fa; rfl; rfl; rfl) | (apply WL.ld; rfl; rfl; rfl; assumption; rfl)))
    refine CW.cond rfl (fun h => ?_) (fun h => ?_)
    · have h : g.k = 7 := by simpa using h
      (repeat (first | (apply WL.add; rfl; rfl; rfl; rfl; omega; omega) | (apply WL.pure; rfl; rfl; rfl) | (apply WL.nil) | (apply EX.thenN) | (apply CW.region) | (apply CW.exit) | (apply EX.thenX) | (apply EX.inX)))
      refine EX.back (i + 1, c, us) (by repeat (first | exact trivial | refine ⟨rfl, ?_⟩)) ⟨hi', hA2, hR2, ?_, hC2⟩ (by dsimp only; omega)
      rw [htk, List.filter_append, show ([g].filter fun g => decide (g.k ≠ 7)) = [] by simp [h], List.append_nil]
      exact hU2
    have hk7 : g.k ≠ 7 := by simpa using h
    have htk2 : ((m.2.take (i + 1)).filter fun g => decide (g.k ≠ 7)) = ((m.2.take i).filter fun g => decide (g.k ≠ 7)) ++ [g] := by rw [htk, List.filter_append, show ([g].filter fun g => decide (g.k ≠ 7)) = [g] by simp [hk7]]
    clear h htk
    obtain ⟨a, rfl⟩ | ⟨k, a, b, hk, rfl⟩ := part_shape (hT.ok.wp g hmem).1 (hT.ok.wp g hmem).2.1
    · exact absurd rfl hk7
    clear hk7
    generalize hgd : Ltl.mk k 0 [a, b] = g at *
    (repeat (first | (apply WL.pure; rfl; rfl; rfl) | (apply WL.nil) | (apply EX.thenN) | (apply CW.seq) | (apply CW.region) | (apply CW.block) | (apply CW.skip)))
    rw [shlS (show numN m < 62 by omega), show (1 <<< numN m : Nat) = N by rw [Nat.one_shiftLeft, hpN]]
    refine CW.loop (S := Nat × Value) (fun s => [(2, .pointer (some ⟨w1.heap.size, 0, none⟩)), (5, .pointer (some ⟨sb, 0, none⟩)), (6, .int .i64 ((numN m : Nat) : Int)), (7, .pointer (some ⟨b7, 0, none⟩)), (13, .pointer (some ⟨z.heap.size, 0, none⟩)), (14, s.2), (122, .slice mpo m.2.length mpc), (123, .int .i64 m.2.length), (124, .int .i64 i), (132, .int .i64 (N : Int)), (133, .int .i64 s.1)])
      (fun s y => s.1 ≤ N ∧ Own y z2.heap.size 3 Non s.2 (selL (fairB m g) s.1) ∧ Ext z2 y) (fun s => N - s.1) (0, .slice none 0 0) (by repeat (first | exact trivial | refine ⟨rfl, ?_⟩)) ⟨Nat.zero_le _, Own.nil, Ext.refl _⟩ ?_
    rintro ⟨j, sv⟩ y ⟨hj, hs, ey⟩
    dsimp only at hj hs ey ⊢
    have hy := ey.size
    have hsl := selL_len (p := fairB m g) (i := j)
    (repeat (first | (apply WL.pure; rfl; rfl; rfl) | (apply WL.nil) | (apply EX.thenN) | (apply CW.seq) | (apply CW.region)))
    refine CW.cond rfl (fun h => ?_) (fun h => ?_)
    · have hj' : j < N := by have h := of_decide_eq_true h; omega
      clear h
      have hgy := hg2.ext ey
      obtain ⟨kMA, kfk, kb1, kby⟩ := hMA (hC2.trans (Chg.of_ext _ ey))
      have hgky := hgk2.mono (w' := y) (F' := Old y) (fun b hb => ey.block b (by have hb : b < b7 := hb; omega)) (fun b hb => (show b < y.heap.size by have hb : b < b7 := hb; omega))
      have hnx := selL_next (p := fairB m g) (i := j)
      subst hgd
      (repeat (first | (apply WL.pure; rfl; rfl; rfl) | (apply WL.nil) | (apply EX.thenN) | (apply CW.seq) | (apply CW.region) | (apply WL.ldA; rfl; rfl; rfl; assumption; rfl) | (apply CW.block) | (apply CW.skip)))
      refine WL.call rfl rfl rfl (tfair_ok _ (k := k) (a := a) (b := b) kMA hOg hk hgky (show j < 1048576 by omega) hl20) ?_
      rintro v y1 ⟨hv, e1⟩
      have hs1 := hs.extN e1
      have hey := ey.trans e1
      have hy1 := hey.size
      generalize fairB m (.mk k 0 [a, b]) j = bb at hv hnx
      subst hv
      cases bb with
      | false =>
        rw [if_neg (by decide)] at hnx
        (repeat (first | (apply WL.add; rfl; rfl; rfl; rfl; omega; omega) | (apply WL.pure; rfl; rfl; rfl) | (apply WL.nil) | (apply EX.thenN) | (apply CW.region) | (apply EX.inN) | (apply CW.condF; rfl) | (apply CW.skip)))
        exact EX.back (j + 1, sv) (by repeat (first | exact trivial | refine ⟨rfl, ?_⟩)) ⟨hj', by rw [hnx]; exact hs1, hey⟩ (by dsimp only; omega)
      | true =>
        rw [if_pos rfl] at hnx
        (repeat (first | (apply WL.pure; rfl; rfl; rfl) | (apply WL.nil) | (apply EX.thenN) | (apply CW.region) | (apply CW.condT; rfl)))
        refine WL.app1 (F := Non) (yv := (j : Int)) rfl rfl (fun _ => rfl) rfl rfl (fun _ => rfl) hs1 (Rd.mkInt _ _ _) (by omega) (fun _ h => h.elim) (by decide) (by unfold maxLen; omega) (by omega) (fun v' y2 p ho2 hgr2 hnb => ?_)
        rw [← hnx] at ho2
        (repeat (first | (apply WL.add; rfl; rfl; rfl; rfl; omega; omega) | (apply WL.pure; rfl; rfl; rfl) | (apply WL.nil) | (apply EX.thenN) | (apply CW.region) | (apply EX.inN)))
        exact EX.back (j + 1, v') (by repeat (first | exact trivial | refine ⟨rfl, ?_⟩)) ⟨hj', ho2, hey.grown hgr2 hey.size (fun g hg => (hs1.lt g hg).1)⟩ (by dsimp only; omega)
    obtain rfl : N = j := by have h := of_decide_eq_false h; omega
    clear h hj
    have hAy := hA2.ext ey
    have hRy := hR2.to (Chg.of_ext (oM w1.heap.size b7 c) ey) (fun b hb => .inl hb)
    have hUy := hU2.to (Chg.of_ext (oM w1.heap.size b7 c) ey) (fun b hb => .inl hb)
    have hCy := hC2.trans (Chg.of_ext _ ey)
    have hblky := hAy.blk
    have hlty := hAy.lt
    have lb := hAy.lb
    have hlo4 := hAy.o4.lt
    obtain ⟨ro, rc, rfl⟩ := hs.val
    clear hA2 hR2 hU2 hC2 hg2
    (repeat (first | (apply WL.pure; rfl; rfl; rfl) | (apply EX.thenN) | (apply CW.region) | (apply WL.fa; rfl; rfl; rfl) | (apply WL.ld; rfl; rfl; rfl; assumption; rfl) | (apply CW.exit) | (apply EX.thenX) | (apply EX.inX)))
    refine WL.app1 (α := Raw) (F := Non) (yv := (⟨.slice ro (selL (fairB m g) N).length rc⟩ : Raw)) rfl rfl (fun _ => rfl) rfl rfl (fun _ => rfl) hAy.o4 (Rd.mkRaw _ _ _ rfl) (by omega) (fun _ h => h.elim) (by decide) (by unfold maxLen; omega) (by omega) (fun v' y2 p ho2 hgr2 hnb => ?_)
    obtain ⟨so, sc, rfl⟩ := ho2.val
    have hblk2 := hblky.kept hgr2 (fun e => by have := (hlo4 b7 e.symm).1; omega)
    (repeat (apply WL.fa; rfl; rfl; rfl))
    refine WL.st rfl rfl rfl hblk2 rfl rfl (ones_of rfl) (fun y3 hblk3 hgr3 => ?_)
    obtain ⟨kk, kn, kd, kc, km, kw⟩ := hAy.step (b2 := w1.heap.size) (i := 4) (by omega) hgr2 hgr3 hnb (by omega)
    have hrvR : Rd y (Fz y (oM w1.heap.size b7 c)) _ _ := hs.rd.mono (fun _ _ => rfl) (fun g hg => hg.elim (fun h => h.elim) (fun hg => ⟨(hs.lt g hg).2.1, fun h => by
      have h1 := (hs.lt g hg).1
      rcases h with h | h | ⟨j, hj, h⟩
      · omega
      · omega
      · have := (hlt j hj g h).2; omega⟩))
    have hU3 := (hUy.push hrvR).to kc km
    rw [show ((m.2.take i).filter fun g => decide (g.k ≠ 7)).map (fun g => selL (fairB m g) N) ++ [selL (fairB m g) N] = ((m.2.take (i + 1)).filter fun g => decide (g.k ≠ 7)).map (fun g => selL (fairB m g) N) by rw [htk2, List.map_append]; rfl] at hU3
    have hA3 : OutA y3 wn b7 (updV c 4 _) _ _ _ _ _ := ⟨hblk3, kk 0 (by omega) (by omega) hAy.o0, kk 1 (by omega) (by omega) hAy.o1, kk 2 (by omega) (by omega) hAy.o2, kk 3 (by omega) (by omega) hAy.o3, kn ho2, kd, lb⟩
    (repeat (first | (apply WL.add; rfl; rfl; rfl; rfl; omega; omega) | (apply WL.pure; rfl; rfl; rfl) | (apply WL.nil) | (apply EX.thenN) | (apply CW.region) | (apply EX.inN)))
    exact EX.back (i + 1, _, _) (by repeat (first | exact trivial | refine ⟨rfl, ?_⟩)) ⟨hi', hA3, hRy.to kc km, hU3, hCy.then kw (fun b hb => .inl hb)⟩ (by dsimp only; omega)
  obtain rfl : i = m.2.length := by have h := of_decide_eq_false h; omega
  rw [List.take_length] at hU
  clear h hi
  have hblkz := hA.blk
  have lb := hA.lb
  have hb2z : Blk z _ _ _ := (holdL hC w1.heap.size (by omega) (by omega)).trans hb2L
  have hE : Ext w0 z := Chg.ext hEL hC (fun b hb => by omega)
  have hFF : ∀ b, Fz z (oM w1.heap.size b7 c) b → b < z.heap.size ∧ b ≠ w1.heap.size := fun b hb => ⟨hb.1, fun e => hb.2 (.inl e)⟩
  have hFo : ∀ j, j < 5 → ∀ g, (c j).ownBlock = some g → g < z.heap.size ∧ g ≠ w1.heap.size := fun j hj g hg => ⟨(hlt j hj g hg).2, by have := (hlt j hj g hg).1; omega⟩
  obtain ⟨a1, d1, e1, s1⟩ := hA.o0.slF (F' := fun b => b < z.heap.size ∧ b ≠ w1.heap.size) (fun _ h => h.elim) (hFo 0 (by omega))
  obtain ⟨a2, d2, e2, s2⟩ := hR.sl (F := fun b => b < z.heap.size ∧ b ≠ w1.heap.size) hA.o1 hFF (hFo 1 (by omega))
  obtain ⟨a3, d3, e3, s3⟩ := hA.o2.slF (F' := fun b => b < z.heap.size ∧ b ≠ w1.heap.size) (fun _ h => h.elim) (hFo 2 (by omega))
  obtain ⟨a4, d4, e4, s4⟩ := hA.o3.slF (F' := fun b => b < z.heap.size ∧ b ≠ w1.heap.size) (fun _ h => h.elim) (hFo 3 (by omega))
  obtain ⟨a5, d5, e5, s5⟩ := hU.sl (F := fun b => b < z.heap.size ∧ b ≠ w1.heap.size) hA.o4 hFF (hFo 4 (by omega))
  rw [e1, e2, e3, e4, e5] at hblkz
  clear hA hR hU
  (repeat (first | (apply EX.thenN) | (apply CW.seq) | (apply CW.region) | (apply WL.ldA; rfl; rfl; rfl; assumption; rfl) | (apply CW.exit) | (apply EX.thenX) | (apply EX.inX)))
  refine WL.st rfl rfl rfl hb2z rfl rfl (ones_of rfl) (fun z1 hb1 hg1 => ?_)
  have hz1 := hg1.size
  have hk1 : ∀ b, b < z.heap.size ∧ b ≠ w1.heap.size → z1.heap[b]? = z.heap[b]? := fun b hb => hg1.block b hb.1 (fun e => hb.2 (Option.some.inj e))
  have hk2 : ∀ b, b < z.heap.size ∧ b ≠ w1.heap.size → Old z1 b := fun b hb => (show b < z1.heap.size by omega)
  have hE1 : Ext w0 z1 := hE.grown hg1 hE.size (fun g hg => by cases hg; omega)
  (repeat (first | (apply WL.pure; rfl; rfl; rfl) | (apply WL.nil) | (apply EX.thenN) | (apply CW.ret)))
  have hT5 : tabL m f = (selL (fun x => hoB m x f) N, (List.range N).map fun x => selL (fun t => decide (keepN m t = x >>> m.1.length)) N, (List.range N).map fun x => bitsN m x true, (List.range N).map fun x => bitsN m x false, (m.2.filter fun g => decide (g.k ≠ 7)).map fun g => selL (fairB m g) N) := by rw [hpN]; rfl
  refine EX.retC2 rfl rfl rfl hb1 rfl ⟨⟨_, rfl, ?_⟩, hE1⟩
  show AutoAt z1 (Old z1) _ (tabL m f)
  rw [hT5]
  exact ⟨a1, d1, a2, d2, a3, d3, a4, d4, a5, d5, rfl, s1.mono hk1 hk2, s2.mono hk1 hk2, s3.mono hk1 hk2, s4.mono hk1 hk2, s5.mono hk1 hk2⟩
end Go.Proofs.Ytllpfgcngokhnaa
/-
  watchkeep.made: walked. TableauMeans.
-/
set_option linter.unusedVariables false
set_option linter.unusedSimpArgs false
namespace Go.Proofs.Ytllpfgcngokhnaa
open Go.RowKit

instance iMade : IsF Try.prog 31 := ⟨_, Try.func31, rfl, by decide⟩
theorem wmade_ok (w0 : World) : Rt Try.prog 31 #[] w0 fun v w' => v = .bool true ∧ Ext w0 w' := by
  refine Rt.enter0 Try.func31 Try.ntmps31 rfl ?_
  (repeat (first | (apply WL.pure; rfl; rfl; rfl) | (apply WL.nil) | (apply EX.thenN) | (apply CW.seq) | (apply CW.region)))
  refine WL.call rfl rfl rfl (mk_atom w0 0) ?_
  rintro v1 w1 ⟨h1, hE⟩
  skip
  refine WL.call rfl rfl rfl (mk_one w1 10 h1) ?_
  rintro v2 w2 ⟨h2, e2⟩
  have hE := hE.trans e2
  skip
  refine WL.call rfl rfl rfl (mk_one w2 11 h2) ?_
  rintro v3 w3 ⟨h3, e3⟩
  have hE := hE.trans e3
  obtain ⟨ko, kc, rfl, hk⟩ := Rd.ltl (t := gfT) h3
  skip
  refine WL.call rfl rfl rfl (Make_ok w3 (t := gfT) hk) ?_
  rintro _ w4 ⟨⟨rv, rfl, hr⟩, e4⟩
  have hE := hE.trans e4
  clear h1 h2 h3 hk e2 e3 e4
  obtain ⟨q1, f1, q2, f2, q3, f3, q4, f4, q5, f5, rfl, p1, p2, p3, p4, p5⟩ := hr.ok
  rw [gf_make]
  clear hr
  (repeat (apply WL.pure; rfl; rfl; rfl))
  refine WL.alloc rfl rfl (fun w6 hb1 e6 => ?_)
  skip
  refine WL.st rfl rfl rfl hb1 rfl rfl (ones_of rfl) (fun w7 hb1 hg7 => ?_)
  have e7 : Ext w4 w7 := e6.grown hg7 e6.size (fun g hg => by cases hg; exact Nat.le_refl _)
  have hE := hE.trans e7
  have hA : AutoAt w7 (Old w7) _ (makeT gfT).1 := ⟨q1, f1, q2, f2, q3, f3, q4, f4, q5, f5, rfl, p1.up e7, p2.up e7, p3.up e7, p4.up e7, p5.up e7⟩
  clear e6 e7 hg7 p1 p2 p3 p4 p5
  (repeat (first | (apply WL.pure; rfl; rfl; rfl) | (apply WL.nil) | (apply EX.thenN) | (apply CW.seq) | (apply CW.region) | (apply WL.ldA; rfl; rfl; rfl; assumption; rfl)))
  refine WL.litR [(0 : Nat), 1] rfl rfl rfl rfl rfl ⟨⟨_, rfl, rd_mkU64 _ _ 0 (by decide)⟩, ⟨_, rfl, rd_mkU64 _ _ 1 (by decide)⟩, trivial⟩ (by decide) (fun u w8 e8 hu _ => ?_)
  obtain ⟨lo, lc, rfl, hl⟩ := hu.sl
  have hb1 := hb1.ext e8
  have hE := hE.trans e8
  have hA := hA.up e8
  skip
  refine WL.build (parts := [(1, _)]) rfl rfl rfl rfl ?_
  skip
  refine WL.call rfl rfl rfl (Accepts_ok w8 (A := (makeT gfT).1) (so := none) (sc := 0) (s := []) hA (Sl.zero w8 _) hl (makeT_size gfT).1) ?_
  rintro _ w9 ⟨rfl, e9⟩
  rw [gf_1]
  have hb1 := hb1.ext e9
  have hE := hE.trans e9
  have hA := hA.up e9
  clear e8 e9 hu hl
  (repeat (first | (apply WL.pure; rfl; rfl; rfl) | (apply WL.nil) | (apply EX.thenN) | (apply CW.seq) | (apply CW.region) | (apply WL.ldA; rfl; rfl; rfl; assumption; rfl)))
  refine WL.litR [(0 : Nat), 2] rfl rfl rfl rfl rfl ⟨⟨_, rfl, rd_mkU64 _ _ 0 (by decide)⟩, ⟨_, rfl, rd_mkU64 _ _ 2 (by decide)⟩, trivial⟩ (by decide) (fun u w10 e10 hu _ => ?_)
  obtain ⟨lo, lc, rfl, hl⟩ := hu.sl
  have hb1 := hb1.ext e10
  have hE := hE.trans e10
  have hA := hA.up e10
  skip
  refine WL.build (parts := [(1, _)]) rfl rfl rfl rfl ?_
  skip
  refine WL.call rfl rfl rfl (Accepts_ok w10 (A := (makeT gfT).1) (so := none) (sc := 0) (s := []) hA (Sl.zero w10 _) hl (makeT_size gfT).1) ?_
  rintro _ w11 ⟨rfl, e11⟩
  rw [gf_2]
  have hE := hE.trans e11
  (repeat (first | (apply WL.pure; rfl; rfl; rfl) | (apply WL.nil) | (apply EX.thenN) | (apply CW.seq) | (apply CW.region) | (apply CW.ret)))
  exact EX.ret1 rfl rfl ⟨rfl, hE⟩
theorem TableauMeans_ok (w0 : World) {t : Ltl} {ko : Option Addr} {kc : Nat} {s l : List Nat} {so lo : Option Addr} {sc lc : Nat} (hk : Sl w0 (Old w0) ko kc t.kids) (hs : Sl w0 (Old w0) so sc s) (hl : Sl w0 (Old w0) lo lc l) :
    Rt Try.prog 8 [ltlV t.k t.n ko t.kids.length kc, wordV so sc lo lc s l].toArray w0 fun v w' => v = .bool true ∧ Ext w0 w' := by
  refine Rt.enter2 Try.func8 Try.ntmps8 rfl rfl ?_
  have hE := Ext.refl w0
  (repeat (first | (apply CW.seq) | (apply CW.region)))
  refine WL.boxB rfl rfl rfl fun w1 hb2 e1 => ?_
  have hE := hE.trans e1
  skip
  refine WL.boxB rfl rfl rfl fun w2 hb3 e2 => ?_
  have hb2 := hb2.ext e2
  have hE := hE.trans e2
  (repeat (first | (apply WL.pure; rfl; rfl; rfl) | (apply WL.nil) | (apply EX.thenN) | (apply CW.seq) | (apply CW.region)))
  refine WL.call rfl rfl rfl (wmade_ok w2) ?_
  rintro _ w3 ⟨rfl, e3⟩
  have hb2 := hb2.ext e3
  have hb3 := hb3.ext e3
  have hE := hE.trans e3
  (repeat (first | (apply WL.pure; rfl; rfl; rfl) | (apply WL.nil) | (apply EX.thenN) | (apply CW.seq) | (apply CW.region) | (apply WL.ldA; rfl; rfl; rfl; assumption; rfl) | (apply CW.condF; rfl) | (apply CW.skip)))
  refine WL.call rfl rfl rfl (Make_ok w3 (hk.up hE)) ?_
  rintro _ w4 ⟨⟨rv, rfl, hr⟩, e4⟩
  have hb2 := hb2.ext e4
  have hb3 := hb3.ext e4
  have hE := hE.trans e4
  obtain ⟨q1, f1, q2, f2, q3, f3, q4, f4, q5, f5, rfl, p1, p2, p3, p4, p5⟩ := hr.ok
  have hmk : (makeT t).2 = 0 → chkW s l = 0 → accF (makeT t).1 s l = ((holdsL s l t).getD 0 false, 0) := acc_makeT
  have herr := makeT_err (t := t)
  have hsz := (makeT_size t).1
  generalize (makeT t).2 = e at *
  generalize (makeT t).1 = A at *
  clear hr
  (repeat (apply WL.pure; rfl; rfl; rfl))
  refine WL.alloc rfl rfl (fun w6 hb5 e6 => ?_)
  skip
  refine WL.st rfl rfl rfl hb5 rfl rfl (ones_of rfl) (fun w7 hb5 hg7 => ?_)
  have e7 : Ext w4 w7 := e6.grown hg7 e6.size (fun g hg => by cases hg; exact Nat.le_refl _)
  have hE := hE.trans e7
  have hb2 := hb2.ext e7
  have hb3 := hb3.ext e7
  have hA : AutoAt w7 (Old w7) _ A := ⟨q1, f1, q2, f2, q3, f3, q4, f4, q5, f5, rfl, p1.up e7, p2.up e7, p3.up e7, p4.up e7, p5.up e7⟩
  clear e1 e2 e3 e4 e6 e7 hg7 p1 p2 p3 p4 p5
  (repeat (first | (apply WL.pure; rfl; rfl; rfl) | (apply WL.nil) | (apply EX.thenN) | (apply CW.seq) | (apply CW.region) | (apply WL.ldA; rfl; rfl; rfl; assumption; rfl)))
  refine WL.call rfl rfl rfl (truth_ok w7 (hk.up hE) (hs.up hE) (hl.up hE) (fun _ h => h)) ?_
  rintro _ w8 ⟨rfl, e8⟩
  have hb3 := hb3.ext e8
  have hb5 := hb5.ext e8
  have hE := hE.trans e8
  have hA := hA.up e8
  have htr := truthL_ok (s := s) (l := l) (t := t)
  generalize (truthL s l t).1 = tv at *
  generalize (truthL s l t).2 = ok at *
  by_cases he : e = 0
  case neg =>
    have be : (e != 0) = true := by simpa using he
    have be2 : (e == 0) = false := by simpa using he
    obtain rfl := herr he
    (repeat (first | (apply WL.pure; rfl; rfl; rfl) | (apply WL.nil) | (apply EX.thenN) | (apply CW.seq) | (apply CW.region)))
    rw [be]
    (repeat (first | (apply WL.pure; rfl; rfl; rfl) | (apply WL.nil) | (apply EX.thenN) | (apply CW.seq) | (apply CW.region) | (apply WL.pass; rfl; rfl) | (apply CW.condT; rfl)))
    rw [be2]
    (repeat (first | (apply WL.pure; rfl; rfl; rfl) | (apply WL.nil) | (apply EX.thenN) | (apply WL.lenS; rfl; rfl; rfl) | (apply WL.fa; rfl; rfl; rfl) | (apply WL.ld; rfl; rfl; rfl; assumption; rfl) | (apply CW.ret) | (apply EX.thenR)))
    exact EX.ret1 rfl rfl ⟨rfl, hE⟩
  subst he
  cases ok with
  | false =>
    (repeat (first | (apply WL.pure; rfl; rfl; rfl) | (apply WL.nil) | (apply EX.thenN) | (apply CW.seq) | (apply CW.region) | (apply WL.pass; rfl; rfl) | (apply CW.condT; rfl) | (apply CW.ret) | (apply EX.thenR)))
    exact EX.ret1 rfl rfl ⟨rfl, hE⟩
  | true =>
    obtain ⟨hW, rfl⟩ := htr rfl
    have hacc := hmk rfl hW
    (repeat (first | (apply WL.pure; rfl; rfl; rfl) | (apply WL.nil) | (apply EX.thenN) | (apply CW.seq) | (apply CW.region) | (apply WL.ldA; rfl; rfl; rfl; assumption; rfl) | (apply CW.condF; rfl) | (apply CW.skip)))
    refine WL.call rfl rfl rfl (Accepts_ok w8 (A := A) hA (hs.up hE) (hl.up hE) hsz) ?_
    rintro _ w9 ⟨rfl, e9⟩
    rw [hacc]
    have hE := hE.trans e9
    cases (holdsL s l t).getD 0 false
    all_goals
      (repeat (first | (apply WL.pure; rfl; rfl; rfl) | (apply WL.nil) | (apply EX.thenN) | (apply CW.seq) | (apply CW.region) | (apply WL.eqB; rfl; rfl; rfl; rfl) | (apply CW.ret)))
      exact EX.ret1 rfl rfl ⟨rfl, hE⟩
end Go.Proofs.Ytllpfgcngokhnaa
/-
  TableauJoins: walked.
-/
set_option linter.unusedVariables false
set_option linter.unusedSimpArgs false
namespace Go.Proofs.Ytllpfgcngokhnaa
open Go.RowKit

set_option maxHeartbeats 1000000 in
theorem TableauJoins_ok (w0 : World) {f g : Ltl} {v v' : Value} {s l : List Nat} {so lo : Option Addr} {sc lc : Nat} (hf : RL w0 v f) (hg : RL w0 v' g) (hs : Sl w0 (Old w0) so sc s) (hl : Sl w0 (Old w0) lo lc l) :
    Rt Try.prog 6 [v, v', wordV so sc lo lc s l].toArray w0 fun v w' => v = .bool true ∧ Ext w0 w' := by
  obtain ⟨ko, kc, rfl, hkf⟩ := Rd.ltl hf
  obtain ⟨k2, c2, rfl, hkg⟩ := Rd.ltl hg
  clear hkf hkg
  refine Rt.enter3 Try.func6 Try.ntmps6 rfl rfl ?_
  have hE := Ext.refl w0
  (repeat (first | (apply CW.seq) | (apply CW.region)))
  refine WL.boxB rfl rfl rfl fun w1 hb3 e1 => ?_
  have hE := hE.trans e1
  skip
  refine WL.boxB rfl rfl rfl fun w2 hb4 e2 => ?_
  have hb3 := hb3.ext e2
  have hE := hE.trans e2
  skip
  refine WL.boxB rfl rfl rfl fun w3 hb5 e3 => ?_
  have hb3 := hb3.ext e3
  have hb4 := hb4.ext e3
  have hE := hE.trans e3
  (repeat (first | (apply WL.pure; rfl; rfl; rfl) | (apply WL.nil) | (apply EX.thenN) | (apply CW.seq) | (apply CW.region)))
  refine WL.call rfl rfl rfl (wmade_ok w3) ?_
  rintro _ w4 ⟨rfl, e4⟩
  have hb3 := hb3.ext e4
  have hb4 := hb4.ext e4
  have hb5 := hb5.ext e4
  have hE := hE.trans e4
  clear e1 e2 e3 e4
  (repeat (first | (apply WL.pure; rfl; rfl; rfl) | (apply WL.nil) | (apply EX.thenN) | (apply CW.seq) | (apply CW.region) | (apply CW.condF; rfl) | (apply CW.skip)))
  have hT0 : Ext w0 (drew w4) := hE.trans (Ext.drew w4)
  have hSE : ∀ x, (fun x => Ext w4 x) x → Ext w4 x := fun _ h => h
  refine CW.drawH (fun x => Ext w4 x) [(0, true), (1, true), (2, true), (3, true), (5, true), (6, true), (10, true), (4, false), (7, false), (8, false), (9, true)] mixed (by kernel_rfl) (Ext.drew w4) ?_
  (repeat (first | (apply HL.pure; rfl; rfl; rfl; rfl) | (refine HL.ldA (by assumption) rfl rfl rfl rfl (by assumption) rfl ?_)))
  refine HL.mut rfl (WL.call rfl rfl rfl (mk_two (drew w4) 5 (RL.ext hf hT0) (RL.ext hg hT0)) ?_)
  rintro v5 w5 ⟨h5, e5⟩
  have hT5 : Ext w4 w5 := (Ext.drew w4).trans e5
  refine WL.nil (EX.mut hT5 ?_)
  skip
  have hT05 := hT0.trans e5
  refine HL.mut rfl (WL.call rfl rfl rfl (mk_two w5 6 (RL.ext hf hT05) (RL.ext hg hT05)) ?_)
  rintro v6 w6 ⟨h6, e6⟩
  have hT6 : Ext w4 w6 := hT5.trans e6
  refine WL.nil (EX.mut hT6 ?_)
  have hT06 := hT05.trans e6
  skip
  refine HL.mut rfl (WL.litR [f, g, .mk 5 0 [f, g], .mk 6 0 [f, g]] rfl rfl rfl rfl rfl ⟨RL.ext hf hT06, RL.ext hg hT06, RL.ext h5 e6, h6, trivial⟩ (by show 4 * 3 ≤ 16777216; decide) (fun u w7 e7 hu _ => ?_))
  have hT7 : Ext w4 w7 := hT6.trans e7
  refine WL.nil (EX.mut hT7 ?_)
  obtain ⟨fo, fc, rfl, hfs⟩ := hu.sl
  (repeat (first | (refine HL.lenS rfl rfl rfl rfl ?_) | (apply HL.nil)))
  have hE := hT06.trans e7
  have hb5 := hb5.ext hT7
  clear hb3 hb4 hT0 hSE hT5 hT05 hT6 hT06 e5 e6 e7 hT7 h5 h6 hu
  generalize hfsd : [f, g, Ltl.mk 5 0 [f, g], .mk 6 0 [f, g]] = fs at *
  have hfl : fs.length = 4 := by rw [← hfsd]; rfl
  (repeat (first | (apply EX.thenN) | (apply CW.block)))
  refine CW.loop (S := Nat × Value) (fun x => [(5, .pointer (some ⟨w2.heap.size, 0, none⟩)), (7, x.2), (24, .slice fo fs.length fc), (25, .int .i64 fs.length), (26, .int .i64 x.1)])
    (fun x w => x.1 ≤ fs.length ∧ Own w w7.heap.size 4 Non x.2 ((fs.take x.1).map (saidB s l)) ∧ Ext w7 w ∧ (∀ t ∈ fs.take x.1, chkW s l = 0 ∧ (makeT t).2 = 0)) (fun x => fs.length - x.1) (0, .slice none 0 0) (by repeat (first | exact trivial | refine ⟨rfl, ?_⟩)) ⟨Nat.zero_le _, Own.nil, Ext.refl _, fun t ht => by cases ht⟩ ?_
  rintro ⟨i, bv⟩ w8 ⟨hi, ho, e8, hall⟩
  dsimp only at hi ho e8 hall ⊢
  have hb8 := hb5.ext e8
  have hE8 := hE.trans e8
  (repeat (first | (apply WL.pure; rfl; rfl; rfl) | (apply WL.nil) | (apply EX.thenN) | (apply CW.seq) | (apply CW.region)))
  refine CW.cond rfl (fun h => ?_) (fun h => ?_)
  · have hi' : i < fs.length := by simp at h; omega
    have htk : fs.take (i + 1) = fs.take i ++ [fs[i]] := by rw [List.take_add_one, List.getElem?_eq_getElem hi']; rfl
    have hlt : ((fs.take i).map (saidB s l)).length ≤ 4 := by rw [List.length_map, List.length_take]; omega
    clear h
    (repeat (first | (apply EX.thenN) | (apply CW.seq) | (apply CW.region) | (apply CW.block) | (apply CW.skip)))
    refine WL.elemN (i := i) rfl rfl rfl rfl rfl (hfs.up e8) hi' (fun _ => rfl) (fun u q hu => ?_)
    generalize fs[i] = t at *
    obtain ⟨ko, kc, rfl, hk⟩ := Rd.ltl hu
    clear hu
    skip
    refine WL.alloc rfl rfl (fun w9 hb9 e9 => ?_)
    skip
    refine WL.st rfl rfl rfl hb9 rfl rfl (ones_of rfl) (fun w10 hb9 hg10 => ?_)
    have e10 : Ext w8 w10 := e9.grown hg10 e9.size (fun g hg => by cases hg; exact Nat.le_refl _)
    have hb10 := hb8.ext e10
    (repeat (first | (apply WL.nil) | (apply EX.thenN) | (apply CW.seq) | (apply CW.region) | (apply WL.ldA; rfl; rfl; rfl; assumption; rfl)))
    refine WL.call rfl rfl rfl (Make_ok w10 (t := t) (hk.up e10)) ?_
    rintro _ w11 ⟨⟨rv, rfl, hr⟩, e11⟩
    have e11 := e10.trans e11
    obtain ⟨q1, f1, q2, f2, q3, f3, q4, f4, q5, f5, rfl, p1, p2, p3, p4, p5⟩ := hr.ok
    have hsz := (makeT_size t).1
    have hmk : (makeT t).2 = 0 → chkW s l = 0 → accF (makeT t).1 s l = (saidB s l t, 0) := acc_makeT
    generalize he : (makeT t).2 = e at *
    generalize hAd : (makeT t).1 = A at *
    clear hr e9 hg10 hb9 e10
    (repeat (apply WL.pure; rfl; rfl; rfl))
    refine WL.alloc rfl rfl (fun w12 hb12 e12 => ?_)
    skip
    refine WL.st rfl rfl rfl hb12 rfl rfl (ones_of rfl) (fun w13 hb13 hg13 => ?_)
    have e13' : Ext w11 w13 := e12.grown hg13 e12.size (fun g hg => by cases hg; exact Nat.le_refl _)
    have e13 := e11.trans e13'
    have hA : AutoAt w13 (Old w13) _ A := ⟨q1, f1, q2, f2, q3, f3, q4, f4, q5, f5, rfl, p1.up e13', p2.up e13', p3.up e13', p4.up e13', p5.up e13'⟩
    have hb13' := hb8.ext e13
    have hE13 := hE8.trans e13
    clear p1 p2 p3 p4 p5 e12 hg13 hb12 e13'
    (repeat (first | (apply WL.pure; rfl; rfl; rfl) | (apply WL.nil) | (apply EX.thenN) | (apply CW.seq) | (apply CW.region) | (apply WL.ldA; rfl; rfl; rfl; assumption; rfl)))
    refine WL.call rfl rfl rfl (Accepts_ok w13 (A := A) hA (hs.up hE13) (hl.up hE13) hsz) ?_
    rintro _ w14 ⟨rfl, e14⟩
    have hfA := accF_ok (A := A) (s := s) (l := l)
    have ho14 := ho.extN (e13.trans e14)
    have e14' := e8.trans (e13.trans e14)
    by_cases h0 : e = 0
    case neg =>
      have be : (e != 0) = true := by simpa using h0
      (repeat (first | (apply WL.pure; rfl; rfl; rfl) | (apply WL.nil) | (apply EX.thenN) | (apply CW.seq) | (apply CW.region)))
      rw [be]
      (repeat (first | (apply WL.pure; rfl; rfl; rfl) | (apply WL.nil) | (apply EX.thenN) | (apply CW.seq) | (apply CW.region) | (apply WL.pass; rfl; rfl) | (apply CW.condT; rfl) | (apply CW.ret) | (apply EX.thenR) | (apply EX.inR)))
      exact EX.ret1 rfl rfl ⟨rfl, hE.trans e14'⟩
    subst h0
    by_cases h1 : (accF A s l).2 = 0
    case neg =>
      have be : ((accF A s l).2 != 0) = true := by simpa using h1
      (repeat (first | (apply WL.pure; rfl; rfl; rfl) | (apply WL.nil) | (apply EX.thenN) | (apply CW.seq) | (apply CW.region)))
      rw [be]
      (repeat (first | (apply WL.pure; rfl; rfl; rfl) | (apply WL.nil) | (apply EX.thenN) | (apply CW.seq) | (apply CW.region) | (apply CW.condT; rfl) | (apply CW.ret) | (apply EX.thenR) | (apply EX.inR)))
      exact EX.ret1 rfl rfl ⟨rfl, hE.trans e14'⟩
    have hW := (hfA h1).2.1
    rw [hmk rfl hW]
    (repeat (first | (apply WL.pure; rfl; rfl; rfl) | (apply WL.nil) | (apply EX.thenN) | (apply CW.seq) | (apply CW.region) | (apply CW.condF; rfl) | (apply CW.skip)))
    refine WL.app1 (F := Non) (yv := saidB s l t) rfl rfl (fun _ => rfl) rfl rfl (fun _ => rfl) ho14 (Rd.mkBool _ _ _) e14'.size (fun _ h => h.elim) (by decide) (by unfold maxLen; omega) (by omega) (fun v' w15 p ho15 hg15 hnb => ?_)
    rw [show (fs.take i).map (saidB s l) ++ [saidB s l t] = (fs.take (i + 1)).map (saidB s l) by rw [htk, List.map_append]; rfl] at ho15
    (repeat (first | (apply WL.add; rfl; rfl; rfl; rfl; omega; omega) | (apply WL.pure; rfl; rfl; rfl) | (apply WL.nil) | (apply EX.thenN) | (apply CW.region) | (apply EX.inN)))
    refine EX.back (i + 1, v') (by repeat (first | exact trivial | refine ⟨rfl, ?_⟩)) ⟨hi', ho15, e14'.grown hg15 e14'.size (fun g hg => (ho14.lt g hg).1), fun x hx => ?_⟩ (by dsimp only; omega)
    rw [htk] at hx
    rcases List.mem_append.1 hx with hx | hx
    · exact hall x hx
    · rw [List.mem_singleton] at hx; subst hx; exact ⟨hW, he⟩
  obtain rfl : i = fs.length := by simp at h; omega
  rw [List.take_length] at ho hall
  clear h hi hfl hb8 hb5 hfs
  subst hfsd
  have a1 := hall f (by simp)
  have a2 := hall g (by simp)
  have a3 := hall (.mk 5 0 [f, g]) (by simp)
  have a4 := hall (.mk 6 0 [f, g]) (by simp)
  have wf1 := (makeT_acc (L := lat s l) a1.2).2.2
  have wf2 := (makeT_acc (L := lat s l) a2.2).2.2
  have j1 := saidB_and a1.1 wf1 wf2 (makeT_acc (L := lat s l) a3.2).2.2
  have j2 := saidB_or a1.1 wf1 wf2 (makeT_acc (L := lat s l) a4.2).2.2
  have ho : Own w8 w7.heap.size 4 Non bv [saidB s l f, saidB s l g, saidB s l f && saidB s l g, saidB s l f || saidB s l g] := by
    rw [← j1, ← j2]; exact ho
  clear a1 a2 a3 a4 wf1 wf2 j1 j2 hall hf hg hs hl
  generalize saidB s l f = a at *
  generalize saidB s l g = b at *
  obtain ⟨bo, bc, rfl, hbs⟩ := ho.oldN.sl
  cases a <;> cases b
  all_goals
    (repeat (first | (apply QL.pure; rfl; rfl; rfl) | (apply EX.thenN) | (apply CW.seq) | (apply CW.exit) | (apply EX.thenX) | (apply EX.inX) | (apply CW.draw; exact mixed; kernel_rfl)))
    iterate 7 ((first | (refine QL.elemB (i := 0) rfl rfl rfl rfl rfl (fun _ h => h) hbs (by decide) rfl (fun _ => rfl) (fun q => ?_)) | (refine QL.elemB (i := 1) rfl rfl rfl rfl rfl (fun _ h => h) hbs (by decide) rfl (fun _ => rfl) (fun q => ?_)) | (refine QL.elemB (i := 2) rfl rfl rfl rfl rfl (fun _ h => h) hbs (by decide) rfl (fun _ => rfl) (fun q => ?_)) | (refine QL.elemB (i := 3) rfl rfl rfl rfl rfl (fun _ h => h) hbs (by decide) rfl (fun _ => rfl) (fun q => ?_)) | (refine QL.nil (fun w9 e9 => ?_)) | skip); (repeat (first | (apply QL.pure; rfl; rfl; rfl) | (apply EX.thenN) | (apply QL.pass; rfl; rfl) | (apply QL.eqB; rfl; rfl; rfl; rfl) | (apply CW.ret))))
    exact EX.ret1 rfl rfl ⟨rfl, hE8.trans ‹_›⟩
end Go.Proofs.Ytllpfgcngokhnaa
/-
  From the form's readings of the arguments to our own, and back: what a law's proof needs at its two ends.
-/
set_option linter.unusedVariables false
set_option linter.unusedSimpArgs false
namespace Go.Proofs.Ytllpfgcngokhnaa
open Go.RowKit Go.ChangeShapes Go.WideShapes Go.ChangeAt

theorem bulk_one {H : Type} (d : DataW H) : 1 ≤ Rows.uptoBulk d := by
  cases d with
  | lit l => cases l <;> simp [Rows.uptoBulk]
  | nil => simp [Rows.uptoBulk]
  | ptr d => simp [Rows.uptoBulk]
  | slice elems spare => simp [Rows.uptoBulk]
  | agg parts => simp [Rows.uptoBulk]
  | iface t d => simp [Rows.uptoBulk]
  | map entries => simp [Rows.uptoBulk]
  | held h => simp [Rows.uptoBulk]
theorem bulk_app {H : Type} (l r : List (DataW H)) : Rows.uptoBulkAll (l ++ r) = Rows.uptoBulkAll l + Rows.uptoBulkAll r := by
  induction l with
  | nil => simp [Rows.uptoBulkAll]
  | cons x l ih => simp only [List.cons_append, Rows.uptoBulkAll, ih]; omega

/-- the bound, as the form hands it over -/
theorem bound {H : Type} {l : List (DataW H)} (hk : Rows.uptoSmall H l = true) : Rows.uptoBulkAll l ≤ 1048576 := by
  simpa [Rows.uptoSmall] using hk
/-- how many values a value of ours holds -/
class Bk (α : Type) where
  bk : α → Nat
abbrev bk {α : Type} [Bk α] : α → Nat := Bk.bk
instance iOpen1 : Bk Int := ⟨fun _ => 1⟩
instance iOpen2 : Bk Bool := ⟨fun _ => 1⟩
instance iOpen3 : Bk Nat := ⟨fun _ => 1⟩
instance iOpen4 : Bk ByteArray := ⟨fun s => s.size + 1⟩
def bkL {α : Type} [Bk α] : List α → Nat
  | [] => 0
  | x :: r => bk x + bkL r
instance iOpen8 {α : Type} [Bk α] : Bk (List α) := ⟨fun l => bkL l + 1⟩

/-- what the form reads at a type, we read, too -/
class Opn (P : Program) (t : TypeId) (α : Type) [Rep α] [Bk α] : Prop where
  op : ∀ {H : Type} {enc : TypeId × Value → H} {w : World} {fuel : Nat} {cs : List Value} {d : DataW H} {ps : List MemPlace}, DataW.trod enc P w 0 (fun _ => true) true fuel t cs = some (d, ps) → ∃ x : α, rd w (Old w) cs x ∧ bk x ≤ Rows.uptoBulk d

theorem Opn.int {P : Program} {t : TypeId} (h : P.underlying t = some (.int .i64)) : Opn P t Int where
  op := by
    intro H enc w fuel cs d ps hd
    cases fuel with
    | zero => simp [DataW.trod] at hd
    | succ fuel =>
      unfold DataW.trod at hd
      rw [h] at hd
      split at hd <;> try (simp at *; done)
      rename_i k k' n e1
      simp at e1
      split at hd
      · rename_i hk
        simp at hd
        obtain ⟨rfl, rfl⟩ := hd
        exact ⟨n, by rw [hk.1, ← e1]; rfl, bulk_one _⟩
      · cases hd
theorem Opn.bool {P : Program} {t : TypeId} (h : P.underlying t = some .bool) : Opn P t Bool where
  op := by
    intro H enc w fuel cs d ps hd
    cases fuel with
    | zero => simp [DataW.trod] at hd
    | succ fuel =>
      unfold DataW.trod at hd
      rw [h] at hd
      split at hd <;> try (simp at *; done)
      rename_i b e1
      simp at hd
      obtain ⟨rfl, rfl⟩ := hd
      exact ⟨b, rfl, bulk_one _⟩
theorem Opn.u64 {P : Program} {t : TypeId} (h : P.underlying t = some (.int .u64)) : Opn P t Nat where
  op := by
    intro H enc w fuel cs d ps hd
    cases fuel with
    | zero => simp [DataW.trod] at hd
    | succ fuel =>
      unfold DataW.trod at hd
      rw [h] at hd
      split at hd <;> try (simp at *; done)
      rename_i k k' n e1
      simp at e1
      split at hd
      · rename_i hk
        simp at hd
        obtain ⟨rfl, rfl⟩ := hd
        have hwf := hk.2
        rw [← e1] at hwf
        have hb : 0 ≤ n ∧ n ≤ 18446744073709551615 := by simpa [Lit.wf, IntKind.min, IntKind.max, IntKind.signed, IntKind.bits] using hwf
        refine ⟨n.toNat, ⟨?_, by omega⟩, bulk_one _⟩
        rw [hk.1, ← e1, Int.toNat_of_nonneg hb.1]
      · cases hd
theorem Opn.string {P : Program} {t : TypeId} (h : P.underlying t = some .string) : Opn P t ByteArray where
  op := by
    intro H enc w fuel cs d ps hd
    cases fuel with
    | zero => simp [DataW.trod] at hd
    | succ fuel =>
      unfold DataW.trod at hd
      rw [h] at hd
      split at hd <;> try (simp at *; done)
      rename_i s e1
      split at hd
      · rename_i hk
        simp at hd
        obtain ⟨rfl, rfl⟩ := hd
        refine ⟨s, ⟨rfl, hk⟩, ?_⟩
        show s.size + 1 ≤ _
        simp only [Rows.uptoBulk]
        have e : s.data.toList.length = s.size := by rw [Array.length_toList]; rfl
        omega
      · cases hd

theorem mapM_range {β : Type} (f : Nat → Option β) : ∀ (n : Nat) (es : List β), (List.range n).mapM f = some es → es.length = n ∧ ∀ i (h : i < es.length), f i = some es[i]
  | 0, es, h => by
    simp at h; subst h
    exact ⟨rfl, fun i hi => absurd hi (by simp)⟩
  | n + 1, es, h => by
    rw [List.range_succ, List.mapM_append] at h
    simp only [List.mapM_cons, List.mapM_nil, Option.bind_eq_bind, Option.pure_def] at h
    cases h1 : (List.range n).mapM f with
    | none => rw [h1] at h; cases h
    | some l =>
      rw [h1] at h
      cases h2 : f n with
      | none => rw [h2] at h; cases h
      | some y =>
        rw [h2] at h
        simp at h
        subst h
        obtain ⟨hl, hi⟩ := mapM_range f n l h1
        refine ⟨by simp [hl], fun i hlt => ?_⟩
        by_cases hi' : i < l.length
        · rw [List.getElem_append_left hi']; exact hi i hi'
        · have : i = n := by simp at hlt; omega
          subst this
          rw [List.getElem_append_right (by omega)]
          simpa [hl] using h2
theorem mapM_cells {w : World} {a : Addr} {n : Nat} {cs : List Value} (h : w.cells? 0 a n = some cs) : cs.length = n ∧ ∀ j (hj : j < cs.length), w.cell? (a.add j) = some cs[j] := by
  unfold World.cells? at h
  rw [if_pos (Nat.zero_le _)] at h
  exact mapM_range _ n cs h

theorem slice_op {P : Program} {t e : TypeId} {α : Type} [Rep α] [Bk α] [hs : IsS P t e] [ht : IsT P e α] {H : Type} {enc : TypeId × Value → H} {w : World} {fuel : Nat}
    (ho : ∀ {cs : List Value} {d : DataW H} {ps : List MemPlace}, DataW.trod enc P w 0 (fun _ => true) true fuel e cs = some (d, ps) → ∃ x : α, rd w (Old w) cs x ∧ bk x ≤ Rows.uptoBulk d)
    {cs : List Value} {d : DataW H} {ps : List MemPlace} (hd : DataW.trod enc P w 0 (fun _ => true) true (fuel + 1) t cs = some (d, ps)) : ∃ x : List α, rd w (Old w) cs x ∧ bk x ≤ Rows.uptoBulk d := by
  unfold DataW.trod at hd
  rw [hs.ok] at hd
  obtain ⟨i0, hi1, hi2⟩ := IsT.info (P := P) (t := e) (α := α)
  have hsz : P.cellsOf e = sz α := by simp [Program.cellsOf, hi1, hi2]
  have hp : 0 < sz α := Rep.pos
  split at hd <;> try (simp at *; done)
  · simp at hd
    obtain ⟨rfl, rfl⟩ := hd
    exact ⟨[], ⟨none, 0, rfl, by simp, by simp [maxLen], fun _ => rfl, fun i hi => absurd hi (by simp)⟩, bulk_one _⟩
  · rename_i e' a len cap e1
    cases e1
    simp only at hd
    split at hd
    · rename_i hc
      obtain ⟨_, hle, hmx⟩ := hc
      rw [hsz] at hd
      cases hm : (List.range len).mapM (fun i => (w.cells? 0 (a.add (i * sz α)) (sz α)).bind (DataW.trod enc P w 0 (fun _ => true) true fuel e)) with
      | none => rw [hm] at hd; cases hd
      | some elems =>
        rw [hm] at hd
        simp only [Option.bind_some, if_true] at hd
        obtain ⟨rest, _, hd2⟩ := Option.map_eq_some_iff.1 hd
        simp only [Prod.mk.injEq] at hd2
        obtain ⟨rfl, _⟩ := hd2
        obtain ⟨hlen, hget⟩ := mapM_range _ len elems hm
        -- one element at a time
        have one : ∀ i (h : i < elems.length), ∃ x : α, (∃ b off, some a = some ⟨b, off, none⟩ ∧ Old w b ∧ ∃ es, Cells w b (off + i * sz α) es ∧ rd w (Old w) es x) ∧ bk x ≤ Rows.uptoBulk (elems[i]).1 := by
          intro i hi
          have h1 := hget i hi
          cases hcs : w.cells? 0 (a.add (i * sz α)) (sz α) with
          | none => rw [hcs] at h1; cases h1
          | some es =>
            rw [hcs] at h1
            simp only [Option.bind_some] at h1
            obtain ⟨x, hr, hb⟩ := ho (d := (elems[i]).1) (ps := (elems[i]).2) h1
            obtain ⟨hl, hc⟩ := mapM_cells hcs
            have h0 := hc 0 (by omega)
            have hspot : a.spot = none := by
              cases hsp : a.spot with
              | none => rfl
              | some k =>
                -- the first element's first cell lies at the address itself
                have h2 := hget 0 (by omega)
                cases hcs0 : w.cells? 0 (a.add (0 * sz α)) (sz α) with
                | none => rw [hcs0] at h2; cases h2
                | some es0 =>
                  obtain ⟨hl0, hc0⟩ := mapM_cells hcs0
                  have h3 := hc0 0 (by omega)
                  have e3 : (a.add (0 * sz α)).add 0 = a := by simp [Addr.add]
                  rw [e3] at h3
                  unfold World.cell? at h3
                  split at h3
                  · simp [hsp] at h3
                  · cases h3
            obtain ⟨b, off, sp⟩ := a
            simp only at hspot
            subst hspot
            rw [WideShapes.add_plain] at hc h0
            have hblt : b < w.heap.size := World.block_lt_of_cell? w _ h0
            refine ⟨x, ⟨b, off, rfl, hblt, es, ?_, hr⟩, hb⟩
            intro j u hu
            obtain ⟨hj, rfl⟩ := List.getElem?_eq_some_iff.1 hu
            have := hc j hj
            rwa [WideShapes.add_plain] at this
        have all : ∀ k, k ≤ elems.length → ∃ xs : List α, xs.length = k ∧ (∀ i (h : i < xs.length), ∃ b off, some a = some ⟨b, off, none⟩ ∧ Old w b ∧ ∃ es, Cells w b (off + i * sz α) es ∧ rd w (Old w) es xs[i]) ∧ bkL xs ≤ Rows.uptoBulkAll ((elems.map (·.1)).take k) := by
          intro k
          induction k with
          | zero => intro _; exact ⟨[], rfl, fun i hi => absurd hi (by simp), by simp [bkL, Rows.uptoBulkAll]⟩
          | succ k ih =>
            intro hk
            obtain ⟨xs, h1, h2, h3⟩ := ih (by omega)
            obtain ⟨x, h4, h5⟩ := one k (by omega)
            refine ⟨xs ++ [x], by simp [h1], ?_, ?_⟩
            · intro i hi
              by_cases hlt : i < xs.length
              · rw [List.getElem_append_left hlt]; exact h2 i hlt
              · have : i = k := by simp at hi; omega
                subst this
                rw [List.getElem_append_right (by omega)]
                simpa [h1] using h4
            · have hb : ∀ (l : List α), bkL (l ++ [x]) = bkL l + bk x := by
                intro l; induction l with
                | nil => simp [bkL]
                | cons y l ih => simp only [List.cons_append, bkL, ih]; omega
              rw [hb, List.take_succ_eq_append_getElem (by simp; omega), bulk_app]
              simp only [List.getElem_map, Rows.uptoBulkAll]
              omega
        obtain ⟨xs, h1, h2, h3⟩ := all elems.length (Nat.le_refl _)
        have hx : xs.length = len := by omega
        refine ⟨xs, ⟨some a, cap, by rw [hx], ⟨by omega, hmx, (fun h => by cases h), h2⟩⟩, ?_⟩
        show bkL xs + 1 ≤ _
        rw [List.take_of_length_le (by simp)] at h3
        simp only [Rows.uptoBulk]
        omega
    · cases hd

theorem Opn.slice {P : Program} {t e : TypeId} {α : Type} [Rep α] [Bk α] [hs : IsS P t e] [ht : IsT P e α] [ho : Opn P e α] : Opn P t (List α) where
  op := by
    intro H enc w fuel cs d ps hd
    cases fuel with
    | zero => simp [DataW.trod] at hd
    | succ fuel => exact slice_op (e := e) (fun h => ho.op h) hd

theorem okWide_form {P : Program} {w : World} {r : Reach} {base : Nat} {t : TypeId} {v : Value} {d : TypeDesc} (hu : P.underlying t = some d) (h : Value.okWide P w r base t v) :
    (aggD d = false → v.oneCell' = true) ∧ (aggD d = true → ∃ cs, v = .agg cs) := by
  unfold Value.okWide at h
  rw [hu] at h
  constructor
  · intro hd
    cases v <;> first
      | rfl
      | (exfalso; cases d <;> simp [aggD] at hd <;> simp [Cell.okWide, Cell.ok, hu] at h)
  · intro hd
    cases d <;> simp [aggD] at hd <;> (obtain ⟨cs, rfl, _⟩ := h; exact ⟨cs, rfl⟩)
/-- an argument, opened -/
theorem Opn.arg {P : Program} {t : TypeId} {α : Type} [Rep α] [Bk α] [ht : IsT P t α] [ho : Opn P t α] {H : Type} {enc : TypeId × Value → H} {w : World} {v : Value} {d : DataW H} {ps : List MemPlace} {r : Reach} {base : Nat}
    (hv : Value.okWide P w r base t v) (h : DataW.Trod enc P w 0 (fun _ => true) true t v d ps) : ∃ x : α, Rd w (Old w) v x ∧ bk x ≤ Rows.uptoBulk d := by
  obtain ⟨i, dd, _, _, h3, h4⟩ := ht.ok
  obtain ⟨f1, f2⟩ := okWide_form h3 hv
  obtain ⟨fuel, hf⟩ := h
  obtain ⟨x, hr, hb⟩ := ho.op hf
  refine ⟨x, ⟨v.cells.toList, ?_, hr⟩, hb⟩
  unfold vOf
  split
  · rename_i he
    obtain ⟨cs, rfl⟩ := f2 (h4.trans he)
    simp [Value.cells]
  · rename_i he
    have := f1 (h4.trans he)
    cases v <;> first | rfl | (simp [Value.oneCell'] at this)

theorem trodAll_below {H : Type} {enc : TypeId × Value → H} {P : Program} (hl : laidOutB P = true) {W W' : World} (hb : Ext W W') : ∀ {ts : List TypeId} {vs : List Value} {ds : List (DataW H)} {ps : List MemPlace},
    (∀ t ∈ ts, P.readableRec t = true ∧ t < P.types.size) → DataW.TrodAll enc P W 0 (fun _ => true) true ts vs ds ps → (∀ x ∈ ps, x.block < W.heap.size) →
    DataW.TrodAll enc P W' 0 (fun b => decide (b < W.heap.size)) true ts vs ds ps
  | [], [], [], _, _, h, _ => h
  | t :: ts, v :: vs, d :: ds, ps, hr, h, hlt => by
    obtain ⟨p, q, h1, h2, rfl⟩ := h
    exact ⟨p, q, Below.trod hl (hr t (by simp)).1 (hr t (by simp)).2 h1 hb (fun x hx => hlt x (by simp [hx])),
      trodAll_below hl hb (fun t ht => hr t (by simp [ht])) h2 (fun x hx => hlt x (by simp [hx])), rfl⟩
  | [], [], _ :: _, _, _, h, _ => h.elim
  | [], _ :: _, [], _, _, h, _ => h.elim
  | [], _ :: _, _ :: _, _, _, h, _ => h.elim
  | _ :: _, [], [], _, _, h, _ => h.elim
  | _ :: _, [], _ :: _, _, _, h, _ => h.elim
  | _ :: _, _ :: _, [], _, _, h, _ => h.elim

/-- the law's end: it returned true, and only new memory was made -/
theorem law_post {H : Type} {enc : TypeId × Value → H} {P : Program} {fn : Func} {s : ChangeSpec} {W W' : World} {args : Array Value} {ds gs : List (DataW H)} {before : List MemPlace} {tb : TypeId}
    (hl : laidOutB P = true) (hW : DataW.Whole enc P fn.params.toList s.vars false W args.toList ds gs before) (hv : s.vars = []) (hr : ∀ t ∈ fn.params.toList, P.readableRec t = true ∧ t < P.types.size)
    (hsp : (s.fn H (ds ++ gs)).results = [.lit (.bool true)] ∧ (s.fn H (ds ++ gs)).args = ds ∧ (s.fn H (ds ++ gs)).vars = []) (hres : fn.resultTypes = #[tb]) (hb : P.underlying tb = some .bool) (hE : Ext W W') :
    s.post enc P fn false true false false W args (.bool true) W' := by
  have hlt := hW.lt
  have hW' := hW
  obtain ⟨p, q, hA, hV, rfl, _, _⟩ := hW
  rw [hv] at hV
  obtain ⟨e1, e2, e3⟩ := hsp
  refine ⟨ds, gs, p ++ q, [], p, [], hW', ?_, ?_, ?_, hE.frame _, fun h => by cases h⟩
  · rw [e1, hres]
    exact trodAll_mk1 (shut_bool hb true)
  · rw [e2]
    exact trodAll_below hl hE hr hA (fun x hx => hlt x (by simp [hx]))
  · rw [e3, hv]
    exact rfl
/- structs -/
instance iOpen9 {α β : Type} [Bk α] [Bk β] : Bk (α × β) := ⟨fun x => bk x.1 + bk x.2⟩
/-- a list of fields, from an offset on -/
class OpnFs (P : Program) (fs : List (TypeId × Nat)) (off : Nat) (α : Type) [Rep α] [Bk α] : Prop where
  op : ∀ {H : Type} {enc : TypeId × Value → H} {w : World} {fuel : Nat} {cs : List Value} {xs : List (DataW H × List MemPlace)}, off + sz α = cs.length →
    (fs.mapM fun f => DataW.trod enc P w 0 (fun _ => true) true fuel f.1 ((cs.drop f.2).take (P.cellsOf f.1))) = some xs → ∃ x : α, rd w (Old w) (cs.drop off) x ∧ bk x ≤ Rows.uptoBulkAll (xs.map (·.1))
theorem cellsOf_T {P : Program} {t : TypeId} {α : Type} [Rep α] [ht : IsT P t α] : P.cellsOf t = sz α := by
  obtain ⟨i, h1, h2⟩ := IsT.info (P := P) (t := t) (α := α)
  simp [Program.cellsOf, h1, h2]
instance OpnFs.one {P : Program} {t : TypeId} {off : Nat} {α : Type} [Rep α] [Bk α] [ht : IsT P t α] [ho : Opn P t α] : OpnFs P [(t, off)] off α where
  op := by
    intro H enc w fuel cs xs hl h
    simp only [List.mapM_cons, List.mapM_nil, Option.bind_eq_bind, Option.pure_def] at h
    cases h1 : DataW.trod enc P w 0 (fun _ => true) true fuel t ((cs.drop off).take (P.cellsOf t)) with
    | none => rw [h1] at h; cases h
    | some d =>
      rw [h1] at h; simp at h; subst h
      obtain ⟨d, ps⟩ := d
      obtain ⟨x, hr, hb⟩ := ho.op h1
      rw [cellsOf_T (α := α), List.take_of_length_le (by rw [List.length_drop]; omega)] at hr
      exact ⟨x, hr, by simpa [Rows.uptoBulkAll] using hb⟩
instance OpnFs.cons {P : Program} {t : TypeId} {off : Nat} {f : TypeId × Nat} {fs : List (TypeId × Nat)} {α β : Type} [Rep α] [Bk α] [Rep β] [Bk β] [ht : IsT P t α] [ho : Opn P t α] [hr : OpnFs P (f :: fs) (off + sz α) β] : OpnFs P ((t, off) :: f :: fs) off (α × β) where
  op := by
    intro H enc w fuel cs xs hl h
    rw [List.mapM_cons] at h
    simp only [Option.bind_eq_bind, Option.pure_def] at h
    have hl' : off + sz α + sz β = cs.length := by
      have : sz (α × β) = sz α + sz β := rfl
      omega
    cases h1 : DataW.trod enc P w 0 (fun _ => true) true fuel t ((cs.drop off).take (P.cellsOf t)) with
    | none => rw [h1] at h; cases h
    | some d =>
      rw [h1] at h
      simp only [Option.bind_some] at h
      obtain ⟨ys, h2, h3⟩ := Option.bind_eq_some_iff.1 h
      cases h3
      obtain ⟨d, ps⟩ := d
      obtain ⟨x, hx, hb⟩ := ho.op h1
      obtain ⟨y, hy, hc⟩ := hr.op hl' h2
      rw [cellsOf_T (α := α)] at hx
      refine ⟨(x, y), ⟨(cs.drop off).take (sz α), cs.drop (off + sz α), ?_, hx, hy⟩, ?_⟩
      · rw [← List.drop_drop, List.take_append_drop]
      · show bk x + bk y ≤ _
        simp only [List.map_cons, Rows.uptoBulkAll]
        omega
def stFact (P : Program) (t : TypeId) : Option (List (TypeId × Nat)) := match P.underlying t with
  | some (.struct fs) => some (fs.toList.map fun f => (f.type, f.offset))
  | _ => none
theorem Opn.struct {P : Program} {t : TypeId} {fs : List (TypeId × Nat)} {α : Type} [Rep α] [Bk α] [ht : IsT P t α] [hf : OpnFs P fs 0 α] (h : stFact P t = some fs) : Opn P t α where
  op := by
    intro H enc w fuel cs d ps hd
    unfold stFact at h
    split at h
    · rename_i gs hu
      cases h
      cases fuel with
      | zero => simp [DataW.trod] at hd
      | succ fuel =>
        unfold DataW.trod at hd
        rw [hu] at hd
        simp only at hd
        split at hd
        · rename_i hl
          obtain ⟨xs, h1, h2⟩ := Option.map_eq_some_iff.1 hd
          cases h2
          have := hf.op (enc := enc) (w := w) (fuel := fuel) (cs := cs) (xs := xs) (by rw [hl, cellsOf_T (α := α)]; omega) (by rw [List.mapM_map]; exact h1)
          obtain ⟨x, hr, hb⟩ := this
          exact ⟨x, by simpa using hr, by simp only [Rows.uptoBulk]; omega⟩
        · cases hd
    · cases h
instance iOpen5 : Opn Try.prog 3 Int := Opn.int Try.underlying3
instance iOpen6 : Opn Try.prog 22 (List Int) := Opn.slice
instance iOpen7 : Opn Try.prog 23 (List (List Int)) := Opn.slice
end Go.Proofs.Ytllpfgcngokhnaa
