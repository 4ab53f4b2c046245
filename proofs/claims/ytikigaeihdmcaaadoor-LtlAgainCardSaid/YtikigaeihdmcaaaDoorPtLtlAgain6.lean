import Derived.Test.YtikigaeihdmcaaaDoorPtLtlAgain5
/-
  Results that lie in a variable; slices that are read, later on; slices cut with their capacity. Over any program.
-/
set_option linter.unusedVariables false
set_option linter.unusedSimpArgs false
namespace Go.Proofs.YtikigaeihdmcaaaDoor
open Go.RowKit

theorem results_cell {fn : Func} {a : Nat} {t : TypeId} (h : fn.results = #[.cell a t]) (tmps : Array Value) (P : Program) (w : World) {p : Addr} {v : Value} (ha : tmps.getD a undef = .pointer (some p)) (hl : (loadVar t p).run P w = .ok v w) :
    (results fn tmps).run P w = .ok v w := by
  simp only [Array.getD_eq_getD_getElem?] at ha
  simp [results, h, ha, asAddr, hl]
theorem EX.retC {P : Program} {n : Nat} {σ : Sg} {w : World} {fn : Func} {a b : Nat} {t e : TypeId} {cells : List Value} {k : Nat} {R : Value → World → Prop} (hr : fn.results = #[.cell a t]) (ha : fnd σ a = some (.pointer (some ⟨b, 0, none⟩))) [hc : IsC P t k true] (hb : Blk w b e cells) (hk : lenL cells = k) (h : R (.agg cells.toArray) w) :
    EX (bodyPost P fn fun e w' => ∃ v, e = .returned v ∧ R v w') .ret n σ w := by
  unfold EX; intro ac hac
  refine bodyPost_ret (results_cell hr _ _ _ (hac.slot a _ ha) (v := .agg cells.toArray) ?_) hac.defers ⟨_, rfl, h⟩
  rw [lenL_eq] at hk
  have hld := run_loadCells_list (P := P) w ⟨b, 0, none⟩ cells (fun j u hu => by rw [WideShapes.add_plain, Nat.zero_add]; exact hb.cell hu)
  obtain ⟨i, dd, h1, h2, h3, h4⟩ := hc.ok
  have hagg : (isAgg t).run P w = .ok true w := by
    unfold isAgg
    rw [Sem.run_bind, run_underlying h3 w, ← h4]
    cases dd <;> rfl
  rw [hk] at hld
  simp [loadVar, hagg, sizeOf, typeInfo, h1, h2, hld]
theorem results_cell2 {fn : Func} {a u : Nat} {t : TypeId} (h : fn.results = #[.cell a t, .tmp u]) (tmps : Array Value) (P : Program) (w : World) {p : Addr} {v : Value} (ha : tmps.getD a undef = .pointer (some p)) (hl : (loadVar t p).run P w = .ok v w) :
    (results fn tmps).run P w = .ok (.tuple ⟨[v, tmps.getD u undef]⟩) w := by
  simp only [Array.getD_eq_getD_getElem?] at ha ⊢
  simp [results, h, ha, asAddr, hl]
theorem EX.retC2 {P : Program} {n : Nat} {σ : Sg} {w : World} {fn : Func} {a b u : Nat} {t e : TypeId} {cells : List Value} {k : Nat} {x : Value} {R : Value → World → Prop} (hr : fn.results = #[.cell a t, .tmp u]) (ha : fnd σ a = some (.pointer (some ⟨b, 0, none⟩))) (hu : fnd σ u = some x) [hc : IsC P t k true] (hb : Blk w b e cells) (hk : lenL cells = k) (h : R (.tuple ⟨[.agg cells.toArray, x]⟩) w) :
    EX (bodyPost P fn fun e w' => ∃ v, e = .returned v ∧ R v w') .ret n σ w := by
  unfold EX; intro ac hac
  refine bodyPost_ret (results_cell2 hr _ _ _ (hac.slot a _ ha) (v := .agg cells.toArray) ?_) hac.defers ⟨_, by rw [hac.slot u x hu], h⟩
  rw [lenL_eq] at hk
  have hld := run_loadCells_list (P := P) w ⟨b, 0, none⟩ cells (fun j u hu => by rw [WideShapes.add_plain, Nat.zero_add]; exact hb.cell hu)
  obtain ⟨i, dd, h1, h2, h3, h4⟩ := hc.ok
  have hagg : (isAgg t).run P w = .ok true w := by
    unfold isAgg
    rw [Sem.run_bind, run_underlying h3 w, ← h4]
    cases dd <;> rfl
  rw [hk] at hld
  simp [loadVar, hagg, sizeOf, typeInfo, h1, h2, hld]
theorem Sl.zero {α : Type} [Rep α] (w : World) (F : Nat → Prop) : Sl w F none 0 ([] : List α) := ⟨by simp, by simp [maxLen], fun _ => rfl, fun i hi => absurd hi (by simp)⟩
theorem Sl.up0 {α : Type} [Rep α] {w w' : World} {F : Nat → Prop} {ao : Option Addr} {cap : Nat} {xs : List α} (h : Sl w F ao cap xs) (hE : Ext w w') (hF : ∀ b, F b → b < w.heap.size) : Sl w' F ao cap xs := h.mono (fun b hb => hE.block b (hF b hb)) fun _ h => h
section
variable {P : Program} {Q : Exit → Act → World → Prop} {n : Nat} {σ : Sg} {w : World} {L rest : List Oper} {d : Nat} {ty : TypeId} {pos : String} {af : Array Edge} {g : Option (Nat × Bool)} {t e : TypeId} {α : Type} [Rep α] {F : Nat → Prop}
end
end Go.Proofs.YtikigaeihdmcaaaDoor

/-
  The small makers of formulas of all ways.
-/
set_option linter.unusedVariables false
set_option linter.unusedSimpArgs false
namespace Go.Proofs.YtikigaeihdmcaaaDoor
open Go.RowKit

/-- a formula that stands in memory -/
def CL (w : World) (v : Value) (t : Ltl) : Prop := Rd w (Old w) v t
theorem CL.ext {w w' : World} {v : Value} {t : Ltl} (h : CL w v t) (hE : Ext w w') : CL w' v t := Rd.mono h (fun b hb => hE.block b hb) (fun b hb => Nat.lt_of_lt_of_le hb hE.size)
/-- blocks of F, and new ones -/
def PlusC (F : Nat → Prop) (w w' : World) : Nat → Prop := fun b => F b ∨ (w.heap.size ≤ b ∧ b < w'.heap.size)
end Go.Proofs.YtikigaeihdmcaaaDoor

/-
  Package lasso: words, their check and their letters.
-/
set_option linter.unusedVariables false
set_option linter.unusedSimpArgs false
namespace Go.Proofs.YtikigaeihdmcaaaDoor
open Go.RowKit

theorem Sl.u64 {w : World} {F : Nat → Prop} {ao : Option Addr} {cap : Nat} {xs : List Nat} (h : Sl w F ao cap xs) : ∀ x ∈ xs, x < 18446744073709551616 := by
  intro x hx
  obtain ⟨i, hi, rfl⟩ := List.getElem_of_mem hx
  obtain ⟨b, off, _, _, es, _, hr⟩ := h.el i hi
  exact hr.2
end Go.Proofs.YtikigaeihdmcaaaDoor

/-
  Package lasso: next, not, until.
-/
set_option linter.unusedVariables false
set_option linter.unusedSimpArgs false
namespace Go.Proofs.YtikigaeihdmcaaaDoor
open Go.RowKit

end Go.Proofs.YtikigaeihdmcaaaDoor

/-
  Package lasso: what formulas say at all places.
-/
set_option linter.unusedVariables false
set_option linter.unusedSimpArgs false
namespace Go.Proofs.YtikigaeihdmcaaaDoor
open Go.RowKit

mutual
def wfT : Ltl → Prop
  | .mk k n kids => kidsK k = kids.length ∧ 0 ≤ n ∧ n ≤ 63 ∧ (k ≠ 3 → n = 0) ∧ wfTs kids
def wfTs : List Ltl → Prop
  | [] => True
  | x :: r => wfT x ∧ wfTs r
end
end Go.Proofs.YtikigaeihdmcaaaDoor

/-
  What formulas of one way mean, on endless words; that lasso.holds says so. Plain law, no program in sight.
-/
set_option linter.unusedVariables false
set_option linter.unusedSimpArgs false
namespace Go.Proofs.YtikigaeihdmcaaaDoor
open Go.RowKit

def Til (A B : Nat → Prop) (i : Nat) : Prop := ∃ j, i ≤ j ∧ B j ∧ ∀ m, i ≤ m → m < j → A m
theorem Til.step {A B : Nat → Prop} {i : Nat} : Til A B i ↔ B i ∨ (A i ∧ Til A B (i + 1)) := by
  constructor
  · rintro ⟨j, hj, hb, ha⟩
    by_cases h : i = j
    · subst h; exact .inl hb
    · exact .inr ⟨ha i (Nat.le_refl _) (by omega), j, by omega, hb, fun m h1 h2 => ha m (by omega) h2⟩
  · rintro (hb | ⟨ha, j, hj, hb, hm⟩)
    · exact ⟨i, Nat.le_refl _, hb, fun m h1 h2 => by omega⟩
    · refine ⟨j, by omega, hb, fun m h1 h2 => ?_⟩
      by_cases h : m = i
      · subst h; exact ha
      · exact hm m (by omega) h2
theorem Til.shift {A B A' B' : Nat → Prop} {i i' : Nat} (ha : ∀ j, A (i + j) ↔ A' (i' + j)) (hb : ∀ j, B (i + j) ↔ B' (i' + j)) : Til A B i ↔ Til A' B' i' := by
  constructor
  · rintro ⟨j, hj, h1, h2⟩
    obtain ⟨d, rfl⟩ := Nat.exists_eq_add_of_le hj
    refine ⟨i' + d, by omega, (hb d).1 h1, fun m hm hm2 => ?_⟩
    obtain ⟨e, rfl⟩ := Nat.exists_eq_add_of_le hm
    exact (ha e).1 (h2 (i + e) (by omega) (by omega))
  · rintro ⟨j, hj, h1, h2⟩
    obtain ⟨d, rfl⟩ := Nat.exists_eq_add_of_le hj
    refine ⟨i + d, by omega, (hb d).2 h1, fun m hm hm2 => ?_⟩
    obtain ⟨e, rfl⟩ := Nat.exists_eq_add_of_le hm
    exact (ha e).2 (h2 (i' + e) (by omega) (by omega))
section
variable {s l : List Nat} {a b : List Bool} {A B : Nat → Prop} {N : Nat}
end

/- WHAT HOLDS -/
end Go.Proofs.YtikigaeihdmcaaaDoor

/-
  Package push, plain: nots pushed down, plain, slim; what they mean and what forms they give.
-/
set_option linter.unusedVariables false
set_option linter.unusedSimpArgs false
namespace Go.Proofs.YtikigaeihdmcaaaDoor
open Go.RowKit

/- DEPTH, AND WHAT Check ASKS -/
mutual
def Ltl.deep : Ltl → Nat
  | .mk _ _ kids => 1 + Ltl.deepL kids
def Ltl.deepL : List Ltl → Nat
  | [] => 0
  | x :: r => max x.deep (Ltl.deepL r)
end
/- EQUALITY -/
mutual
def sameB : Ltl → Ltl → Bool
  | .mk k n l, .mk k' n' l' => k == k' && n == n' && sameBs l l'
def sameBs : List Ltl → List Ltl → Bool
  | [], [] => true
  | x :: r, y :: q => sameB x y && sameBs r q
  | [], _ :: _ => false
  | _ :: _, [] => false
end
mutual
theorem sameB_iff : ∀ (a b : Ltl), sameB a b = true ↔ a = b
  | .mk k n l, .mk k' n' l' => by
    simp only [sameB, Bool.and_eq_true, beq_iff_eq, sameBs_iff l l', Ltl.mk.injEq]
    exact and_assoc
theorem sameBs_iff : ∀ (a b : List Ltl), sameBs a b = true ↔ a = b
  | [], [] => by simp [sameBs]
  | x :: r, y :: q => by simp only [sameBs, Bool.and_eq_true, sameB_iff x y, sameBs_iff r q, List.cons.injEq]
  | [], _ :: _ => by simp [sameBs]
  | _ :: _, [] => by simp [sameBs]
end
theorem sameB_self (a : Ltl) : sameB a a = true := (sameB_iff a a).2 rfl

/- THE MEANING, KIND BY KIND -/
section
variable {L : Nat → Nat} {n : Int} {a b : Ltl} {i : Nat}
end
theorem Til.congr {A B A' B' : Nat → Prop} (ha : ∀ j, A j ↔ A' j) (hb : ∀ j, B j ↔ B' j) (i : Nat) : Til A B i ↔ Til A' B' i :=
  Til.shift (fun _ => ha _) (fun _ => hb _)

/- NOTS -/
end Go.Proofs.YtikigaeihdmcaaaDoor

/-
  Package push, plain, second part: forms of what is pushed; plain; slim.
-/
set_option linter.unusedVariables false
set_option linter.unusedSimpArgs false
namespace Go.Proofs.YtikigaeihdmcaaaDoor
open Go.RowKit

/- FORMS -/
/- PLAIN -/
/- SLIM -/
section
variable {L : Nat → Nat}
theorem Til.ff {A B : Nat → Prop} {i : Nat} (h : ∀ j, i ≤ j → ¬ B j) : ¬ Til A B i := fun ⟨j, hj, hb, _⟩ => h j hj hb
end
/- slim is right, no larger, no deeper -/
structure Slm (a t : Ltl) : Prop where
  wf : wfT a
  nodes : a.nodes ≤ t.nodes
  deep : a.deep ≤ t.deep
/- slim again is the same -/
end Go.Proofs.YtikigaeihdmcaaaDoor

/-
  lasso.Holds; the small makers of formulas.
-/
set_option linter.unusedVariables false
set_option linter.unusedSimpArgs false
namespace Go.Proofs.YtikigaeihdmcaaaDoor
open Go.RowKit

/-- a formula that stands in memory -/
def RL (w : World) (v : Value) (t : Ltl) : Prop := Rd w (Old w) v t
theorem RL.ext {w w' : World} {v : Value} {t : Ltl} (h : RL w v t) (hE : Ext w w') : RL w' v t := Rd.mono h (fun b hb => hE.block b hb) (fun b hb => Nat.lt_of_lt_of_le hb hE.size)
theorem mk_atom (w : World) (n : Int) : Rt Tryd.prog 18 [.int .i64 n].toArray w fun v w' => RL w' v (.mk 3 n []) ∧ Ext w w' := by
  refine Rt.enter1 Tryd.func18 Tryd.ntmps18 rfl rfl ?_
  (repeat (first | (apply CW.seq) | (apply CW.region)))
  refine WL.alloc rfl rfl (fun w1 hb hE => ?_)
  (repeat (first | (apply WL.pure; rfl; rfl; rfl) | (apply WL.nil) | (apply EX.thenN) | (apply CW.seq) | (apply CW.region)))
  refine WL.build rfl rfl rfl rfl ?_
  refine WL.st rfl rfl rfl hb rfl rfl (ones_of rfl) (fun w2 hb2 hgr => ?_)
  have hE2 : Ext w w2 := hE.grown hgr hE.size (fun g hg => by cases hg; exact Nat.le_refl _)
  (repeat (first | (apply WL.nil) | (apply EX.thenN) | (apply CW.ret)))
  exact EX.retC rfl rfl hb2 rfl ⟨Rd.mkLtl (kids := []) ⟨by simp, by simp [maxLen], fun _ => rfl, fun i hi => absurd hi (by simp)⟩, hE2⟩
/-- blocks of F, and new ones -/
def Plus (F : Nat → Prop) (w w' : World) : Nat → Prop := fun b => F b ∨ (w.heap.size ≤ b ∧ b < w'.heap.size)
theorem mk_oneF (w : World) {F : Nat → Prop} (hF : ∀ b, F b → b < w.heap.size) (k : Int) {v : Value} {t : Ltl} (h : Rd w F v t) : Rt Tryd.prog 17 [.int .i64 k, v].toArray w fun v w' => Rd w' (Plus F w w') v (.mk k 0 [t] : Ltl) ∧ Ext w w' := by
  obtain ⟨ao, cap, rfl, hk⟩ := Rd.ltl h
  refine Rt.enter2 Tryd.func17 Tryd.ntmps17 rfl rfl ?_
  (repeat (first | (apply CW.seq) | (apply CW.region)))
  refine WL.boxB rfl rfl rfl fun w1 hb hE1 => ?_
  refine WL.alloc rfl rfl (fun w2 hr hE2 => ?_)
  have hb2 := hb.ext hE2
  have hE12 := hE1.trans hE2
  (repeat (first | (apply WL.pure; rfl; rfl; rfl) | (apply WL.nil) | (apply EX.thenN) | (apply CW.seq) | (apply CW.region) | (apply WL.ldA; rfl; rfl; rfl; assumption; rfl)))
  have hl : Rd w2 F (ltlV t.k t.n ao t.kids.length cap) t := Rd.mono h (fun b hb => hE12.block b (hF b hb)) (fun _ h => h)
  have hw2 : w.heap.size ≤ w2.heap.size := hE12.size
  have hlt := hr.lt
  have hw1 : w.heap.size ≤ w1.heap.size := hE1.size
  refine WL.lit (F := F) (ys := [t]) rfl rfl rfl rfl rfl (.cons hl .nil) (by show 1 * 3 ≤ 16777216; decide) (fun b hb => Nat.lt_of_lt_of_le (hF b hb) hw2) (fun w3 ho hg3 => ?_)
  have hE23 : Ext w2 w3 := (Ext.refl w2).grown hg3 (Nat.le_refl _) (fun k h => by cases h)
  have hr3 := hr.ext hE23
  have hE13 := hE12.trans hE23
  refine WL.build rfl rfl rfl rfl ?_
  refine WL.st rfl rfl rfl hr3 rfl rfl (ones_of rfl) (fun w4 hr4 hgr => ?_)
  have hE4 : Ext w w4 := hE13.grown hgr hE13.size (fun g hg => by cases hg; exact hE1.size)
  have ho4 := ho.kept hgr (fun g hg => by have := (ho.lt g hg).1; simp; omega) (fun b hb => ⟨Nat.lt_of_lt_of_le (hF b hb) hE13.size, by have : b < w.heap.size := hF b hb; simp; omega⟩)
  obtain ⟨uo, uc, he, hu⟩ := (ho4.rd.mono (F' := Plus F w w4) (fun _ _ => rfl) (fun b hb => hb.elim .inl fun hv => .inr ⟨Nat.le_trans hE12.size (ho4.lt b hv).1, (ho4.lt b hv).2.1⟩)).sl
  obtain ⟨rfl, _, rfl⟩ := Value.slice.inj he
  (repeat (first | (apply WL.nil) | (apply EX.thenN) | (apply CW.ret)))
  exact EX.retC rfl rfl hr4 rfl ⟨Rd.mkLtl (kids := [t]) hu, hE4⟩
theorem mk_twoF (w : World) {F : Nat → Prop} (hF : ∀ b, F b → b < w.heap.size) (k : Int) {v v' : Value} {t t' : Ltl} (h : Rd w F v t) (h' : Rd w F v' t') : Rt Tryd.prog 16 [.int .i64 k, v, v'].toArray w fun v w' => Rd w' (Plus F w w') v (.mk k 0 [t, t'] : Ltl) ∧ Ext w w' := by
  obtain ⟨ao, cap, rfl, hk⟩ := Rd.ltl h
  obtain ⟨ao', cap', rfl, hk'⟩ := Rd.ltl h'
  refine Rt.enter3 Tryd.func16 Tryd.ntmps16 rfl rfl ?_
  (repeat (first | (apply CW.seq) | (apply CW.region)))
  refine WL.boxB rfl rfl rfl fun w0 hb0 hE0 => ?_
  refine WL.boxB rfl rfl rfl fun w1 hb hE1 => ?_
  have hb0 := hb0.ext hE1
  have hE1 := hE0.trans hE1
  refine WL.alloc rfl rfl (fun w2 hr hE2 => ?_)
  have hb0 := hb0.ext hE2
  have hb2 := hb.ext hE2
  have hE12 := hE1.trans hE2
  (repeat (first | (apply WL.pure; rfl; rfl; rfl) | (apply WL.nil) | (apply EX.thenN) | (apply CW.seq) | (apply CW.region) | (apply WL.ldA; rfl; rfl; rfl; assumption; rfl)))
  have hl : Rd w2 F (ltlV t.k t.n ao t.kids.length cap) t := Rd.mono h (fun b hb => hE12.block b (hF b hb)) (fun _ h => h)
  have hl' : Rd w2 F (ltlV t'.k t'.n ao' t'.kids.length cap') t' := Rd.mono h' (fun b hb => hE12.block b (hF b hb)) (fun _ h => h)
  have hw2 : w.heap.size ≤ w2.heap.size := hE12.size
  have hlt := hr.lt
  have hw1 : w.heap.size ≤ w1.heap.size := hE1.size
  refine WL.lit (F := F) (ys := [t, t']) rfl rfl rfl rfl rfl (.cons hl (.cons hl' .nil)) (by show 2 * 3 ≤ 16777216; decide) (fun b hb => Nat.lt_of_lt_of_le (hF b hb) hw2) (fun w3 ho hg3 => ?_)
  have hE23 : Ext w2 w3 := (Ext.refl w2).grown hg3 (Nat.le_refl _) (fun k h => by cases h)
  have hr3 := hr.ext hE23
  have hE13 := hE12.trans hE23
  refine WL.build rfl rfl rfl rfl ?_
  refine WL.st rfl rfl rfl hr3 rfl rfl (ones_of rfl) (fun w4 hr4 hgr => ?_)
  have hE4 : Ext w w4 := hE13.grown hgr hE13.size (fun g hg => by cases hg; exact hE1.size)
  have ho4 := ho.kept hgr (fun g hg => by have := (ho.lt g hg).1; simp; omega) (fun b hb => ⟨Nat.lt_of_lt_of_le (hF b hb) hE13.size, by have : b < w.heap.size := hF b hb; simp; omega⟩)
  obtain ⟨uo, uc, he, hu⟩ := (ho4.rd.mono (F' := Plus F w w4) (fun _ _ => rfl) (fun b hb => hb.elim .inl fun hv => .inr ⟨Nat.le_trans hE12.size (ho4.lt b hv).1, (ho4.lt b hv).2.1⟩)).sl
  obtain ⟨rfl, _, rfl⟩ := Value.slice.inj he
  (repeat (first | (apply WL.nil) | (apply EX.thenN) | (apply CW.ret)))
  exact EX.retC rfl rfl hr4 rfl ⟨Rd.mkLtl (kids := [t, t']) hu, hE4⟩
theorem mk_one (w : World) (k : Int) {v : Value} {t : Ltl} (h : RL w v t) : Rt Tryd.prog 17 [.int .i64 k, v].toArray w fun v w' => RL w' v (.mk k 0 [t]) ∧ Ext w w' :=
  (mk_oneF w (fun _ h => h) k h).mono fun v w' h => ⟨Rd.mono h.1 (fun _ _ => rfl) fun b hb => hb.elim (fun h1 => Nat.lt_of_lt_of_le h1 h.2.size) (·.2), h.2⟩
theorem mk_two (w : World) (k : Int) {v v' : Value} {t t' : Ltl} (h : RL w v t) (h' : RL w v' t') : Rt Tryd.prog 16 [.int .i64 k, v, v'].toArray w fun v w' => RL w' v (.mk k 0 [t, t']) ∧ Ext w w' :=
  (mk_twoF w (fun _ h => h) k h h').mono fun v w' h => ⟨Rd.mono h.1 (fun _ _ => rfl) fun b hb => hb.elim (fun h1 => Nat.lt_of_lt_of_le h1 h.2.size) (·.2), h.2⟩

end Go.Proofs.YtikigaeihdmcaaaDoor

/-
  Drawn regions in which several changes of memory may come in any order: a bag of operations, each of which only makes new memory. Over any program.
-/
set_option linter.unusedVariables false
set_option linter.unusedSimpArgs false
namespace Go.Proofs.YtikigaeihdmcaaaDoor
open Go.RowKit

def Never : Exit → Act → World → Prop := fun _ _ _ => False
theorem wp_exits {P : Program} {o : Oper} {a : Act} {w : World} {K : Act → World → Prop} {Q Q' : Exit → Act → World → Prop} (hq : ∀ e a w, e ≠ .normal → Q e a w → Q' e a w) (h : o.wp P a w K Q) : o.wp P a w K Q' := by
  unfold Oper.wp at *
  generalize (execOp a.eval o).run P w = r at *
  cases r with
  | ok k w' =>
    cases k <;> simp only [Oper.upon] at h ⊢ <;> first
      | exact h
      | (refine Calls.mono h (fun e w'' he => ?_); cases e <;> first | exact he | exact hq _ _ _ (by simp) he | (obtain ⟨a1, w1, hx⟩ := he; exact ⟨a1, w1, hq _ _ _ (by simp) hx⟩))
  | halt x w' => cases x <;> simp only [Oper.upon] at h ⊢ <;> first | exact h | exact hq _ _ _ (by simp) h

/-- one of the bag: its number, its slot, and what is so of its value from then on -/
structure BE where
  i : Nat
  d : Nat
  /-- of the value, the new blocks that came with it, and the world -/
  Φ : Value → (Nat → Prop) → World → Prop
/-- behind the bag: each slot holds a value of which its fact is so; what came with one did not come with another -/
def BagK (w' : World) (G : Sg → Prop) : List (Nat → Prop) → List BE → Sg → Prop
  | _, [], σ => G σ
  | D, e :: r, σ => ∀ v N, e.Φ v N w' → (∀ p ∈ D, ∀ b, p b → N b → False) → BagK w' G (N :: D) r ((e.d, v) :: σ)
theorem BagK.get {w' : World} {G : Sg → Prop} {n : Nat} {a : Act} (NN : Nat → Nat → Prop) : ∀ (E : List BE) {D : List (Nat → Prop)} {σ : Sg}, BagK w' G D E σ → Fr n σ a → (∀ e ∈ E, e.d < n ∧ e.Φ (a.tmps.getD e.d undef) (NN e.i) w') →
    (∀ e ∈ E, ∀ p ∈ D, ∀ b, p b → NN e.i b → False) → (E.map (·.i)).Nodup → (∀ e ∈ E, ∀ f ∈ E, e.i ≠ f.i → ∀ b, NN e.i b → NN f.i b → False) → ∃ τ, Fr n τ a ∧ G τ
  | [], D, σ, h, ha, _, _, _, _ => ⟨σ, ha, h⟩
  | e :: r, D, σ, h, ha, hE, hD, hnd, hP => by
    have he := hE e (by simp)
    rw [List.map_cons, List.nodup_cons] at hnd
    refine BagK.get NN r (h _ _ he.2 (hD e (by simp))) ?_ (fun x hx => hE x (by simp [hx])) ?_ hnd.2 (fun x hx y hy => hP x (by simp [hx]) y (by simp [hy]))
    rotate_left
    · intro x hx p hp b hb hx'
      rcases List.mem_cons.1 hp with rfl | hp
      · exact hP e (by simp) x (by simp [hx]) (fun hi => hnd.1 (by rw [hi]; exact List.mem_map_of_mem hx)) b hb hx'
      · exact hD x (by simp [hx]) p hp b hb hx'
    refine ⟨ha.size, ha.defers, fun t u hu => ?_⟩
    by_cases ht : e.d = t
    · subst ht; rw [fnd_cons_eq] at hu; cases hu; rfl
    · rw [fnd_cons_ne ht] at hu; exact ha.slot _ _ hu
theorem nodup_inj {β γ : Type} {f : β → γ} : ∀ {l : List β}, (l.map f).Nodup → ∀ x ∈ l, ∀ y ∈ l, f x = f y → x = y
  | [], _, x, hx, _, _, _ => by simp at hx
  | z :: r, h, x, hx, y, hy, e => by
    rw [List.map_cons, List.nodup_cons] at h
    rcases List.mem_cons.1 hx with h1 | h1
    · rcases List.mem_cons.1 hy with h2 | h2
      · rw [h1, h2]
      · exact absurd (show f z ∈ r.map f by rw [← h1, e]; exact List.mem_map_of_mem h2) h.1
    · rcases List.mem_cons.1 hy with h2 | h2
      · exact absurd (show f z ∈ r.map f by rw [← h2, ← e]; exact List.mem_map_of_mem h1) h.1
      · exact nodup_inj h.2 x h1 y h2 e
section
variable {P : Program} {Q : Exit → Act → World → Prop} {n : Nat} {σ : Sg} {w : World} {L : List Oper} {S : World → Prop}
end
end Go.Proofs.YtikigaeihdmcaaaDoor

/-
  Drawn regions whose last operation is alone and may change what the others read: S need not hold behind it. Over any program.
-/
set_option linter.unusedVariables false
set_option linter.unusedSimpArgs false
namespace Go.Proofs.YtikigaeihdmcaaaDoor
open Go.RowKit

/-- whatever order is picked; behind each operation but number e the condition S holds -/
def wpAnyE (P : Program) (ops : Array Oper) (Q : Exit → Act → World → Prop) (S : World → Prop) (e : Nat) : Nat → Array Bool → Act → World → Prop
  | 0, listed, a, w => Region.ready .any ops listed = [] ∧ Q .normal a w
  | k + 1, listed, a, w => (Region.ready .any ops listed = [] → Q .normal a w) ∧ ∀ i ∈ Region.ready .any ops listed, wpOp P ops Q i (fun a' w' => (i ≠ e → S w') ∧ wpAnyE P ops Q S e k (listed.setIfInBounds i true) a' w') a w
theorem wpAny_of_E {P : Program} {ops : Array Oper} {Q : Exit → Act → World → Prop} {S : World → Prop} {e : Nat} : ∀ (k : Nat) (listed : Array Bool) (a : Act) (w : World), wpAnyE P ops Q S e k listed a w → wpAny P .any ops Q k listed a w
  | 0, _, _, _, h => h
  | k + 1, _, _, _, h => ⟨h.1, fun i hi => wpOp_mono (fun a' w' h' => wpAny_of_E k _ a' w' h'.2) (h.2 i hi)⟩
/-- does number e wait for number i? -/
def waitsB (ops : Array Oper) (e i : Nat) : Bool := match ops[e]? with
  | some o => o.after.toList.any fun ed => Region.binds .any ed && (ed.on == i)
  | none => false
theorem waits_not {ops : Array Oper} {e i : Nat} {listed : Array Bool} (hw : waitsB ops e i = true) (hi : listed.getD i false = false) : e ∉ Region.ready .any ops listed := by
  intro he
  obtain ⟨_, o, ho, hall⟩ := mem_ready.1 he
  unfold waitsB at hw
  rw [ho] at hw
  obtain ⟨ed, h1, h2⟩ := List.any_eq_true.1 hw
  simp only [Bool.and_eq_true, beq_iff_eq] at h2
  have := hall ed (by simpa using h1) h2.1
  rw [h2.2, hi] at this
  cases this
theorem ready_open {ops : Array Oper} {i : Nat} {listed : Array Bool} (h : i ∈ Region.ready .any ops listed) : listed.getD i false = false := by
  have h0 := (mem_ready.1 h).1
  rcases Nat.lt_or_ge i listed.size with h' | h'
  · simp [h'] at h0 ⊢; exact h0
  · simp [h']
theorem wpAnyE_take {P : Program} {ops : Array Oper} {Q : Exit → Act → World → Prop} {S : World → Prop} {e i : Nat} {oi : Oper} {v : Value} (hoi : ops[i]? = some oi) (hs : Region.noSelect ops = true) (hne : i ≠ e) (hwt : waitsB ops e i = true) (hQ : ∀ c a w, Q (.panic c) (a.put oi.dst v) w → Q (.panic c) a w) :
    ∀ (k : Nat) (listed : Array Bool) (a : Act) (w : World), (∀ j oj, ops[j]? = some oj → j ≠ i → listed.getD j true = false → (∀ ed ∈ oj.after, Region.binds .any ed = true → ed.on ≠ i) → oi.apart ops oj = true) →
      i ∈ Region.ready .any ops listed → YieldsIf P ops S oi v a → S w → wpAnyE P ops Q S e k (listed.setIfInBounds i true) (a.put oi.dst v) w → wpAnyE P ops Q S e (k + 1) listed a w := by
  have hsel := Region.noSelect_spec hs
  intro k
  induction k with
  | zero =>
    intro listed a w _ hr hy hS H
    refine ⟨fun h => (by rw [h] at hr; cases hr), fun j hj => ?_⟩
    by_cases hji : j = i
    · subst hji; exact hy.wpOp hoi hS ⟨fun _ => hS, H⟩
    · have := ready_mono hj hji
      rw [H.1] at this
      cases this
  | succ k ih =>
    intro listed a w hfree hr hy hS H
    refine ⟨fun h => (by rw [h] at hr; cases hr), fun j hj => ?_⟩
    by_cases hji : j = i
    · subst hji; exact hy.wpOp hoi hS ⟨fun _ => hS, H⟩
    · have hje : j ≠ e := fun h => waits_not hwt (ready_open hr) (h ▸ hj)
      obtain ⟨hopen, oj, hoj, hall⟩ := mem_ready.1 hj
      have hno : ∀ ed ∈ oj.after, Region.binds .any ed = true → ed.on ≠ i := fun ed h1 h2 h3 => by
        have h4 := hall ed h1 h2
        rw [h3, ready_open hr] at h4
        cases h4
      have hput := wpOp_putIf hoj (hfree j oj hoj hji hopen hno) (fun cs b => hsel i oi cs b hoi) (fun cs b => hsel j oj cs b hoj) hQ hy (H.2 j (ready_mono hj hji))
      refine wpOp_mono (fun a' w' h3 => ⟨fun _ => h3.2.1 hje, ih (listed.setIfInBounds j true) a' w' (fun m om hm hmi hun hn => hfree m om hm hmi ?_ hn) (ready_mono hr (Ne.symm hji)) h3.1 (h3.2.1 hje) ?_⟩) hput
      · by_cases hjm : j = m
        · subst hjm; exact hopen
        · rw [getD_set_ne true hjm] at hun; exact hun
      · rw [Array.setIfInBounds_comm _ _ hji]
        exact h3.2.2

/-- the order: s, and then e alone -/
def ordE (ops : Array Oper) (e : Nat) : List (Nat × Bool) → Array Bool → Bool
  | [], listed => decide (Region.ready .any ops listed = [e]) && (Region.ready .any ops (listed.setIfInBounds e true)).isEmpty
  | (i, true) :: s, listed => (Region.ready .any ops listed).contains i && Region.free .any ops listed i && !(i == e) && waitsB ops e i && ordE ops e s (listed.setIfInBounds i true)
  | (i, false) :: s, listed => decide (Region.ready .any ops listed = [i]) && ordE ops e s (listed.setIfInBounds i true)
def ordEOk (l : List Oper) (s : List (Nat × Bool)) (e : Nat) : Bool := Region.noSelect l.toArray && decide (s.length + 1 = l.length) && ordE l.toArray e s (Array.replicate l.length false)
/-- number e, alone and last -/
def TailQ (P : Program) (ops : List Oper) (Q : Exit → Act → World → Prop) (e : Nat) : Exit → Act → World → Prop :=
  fun x a w => x = .normal ∧ ∃ o, ops[e]? = some o ∧ wpList P ops.toArray (fun x a w => x = .normal ∧ Q .normal a w) [o] a w
theorem wpHLe_sound {P : Program} {ops : List Oper} {S : World → Prop} {Q : Exit → Act → World → Prop} {e : Nat} (hs : Region.noSelect ops.toArray = true) :
    ∀ (s : List (Nat × Bool)) (listed : Array Bool) (a : Act) (w : World), ordE ops.toArray e s listed = true → S w → wpHL P ops S (fun a w => TailQ P ops Q e .normal a w) s a w → wpAnyE P ops.toArray (fun x a w => x = .normal ∧ Q .normal a w) S e (s.length + 1) listed a w
  | [], listed, a, w, hB, hS, h => by
    simp only [ordE, Bool.and_eq_true, decide_eq_true_eq, List.isEmpty_iff] at hB
    obtain ⟨_, o, ho, hl⟩ := h
    refine ⟨fun h0 => (by rw [hB.1] at h0; cases h0), fun i hi => ?_⟩
    rw [hB.1, List.mem_singleton] at hi
    subst hi
    have ho' : ops.toArray[i]? = some o := by simpa using ho
    unfold wpOp
    simp only [ho']
    simp only [wpList] at hl
    split
    · rename_i hw
      rw [if_pos hw] at hl
      exact hl.imp (Oper.wp_mono fun a' w' h' => ⟨fun h => absurd rfl h, hB.2, rfl, h'.2⟩) id
    · rename_i hw
      rw [if_neg hw] at hl
      exact ⟨fun h => absurd rfl h, hB.2, rfl, hl.2⟩
  | (i, true) :: s, listed, a, w, hB, hS, ⟨o, v, ho, hy, h⟩ => by
    simp only [ordE, Bool.and_eq_true, Bool.not_eq_true', beq_eq_false_iff_ne] at hB
    obtain ⟨⟨⟨⟨h1, h2⟩, h3⟩, h4⟩, h5⟩ := hB
    have ho' : ops.toArray[i]? = some o := by simpa using ho
    exact wpAnyE_take ho' hs h3 h4 (fun _ _ _ h => by cases h.1) _ _ _ _ (Region.free_spec ho' h2) (by simpa using h1) hy hS (wpHLe_sound hs s _ _ _ h5 hS h)
  | (i, false) :: s, listed, a, w, hB, hS, ⟨o, ho, h⟩ => by
    simp only [ordE, Bool.and_eq_true, decide_eq_true_eq] at hB
    refine ⟨fun h0 => (by rw [hB.1] at h0; cases h0), fun j hj => ?_⟩
    rw [hB.1, List.mem_singleton] at hj
    subst hj
    have ho' : ops.toArray[j]? = some o := by simpa using ho
    unfold wpOp
    simp only [ho']
    split
    · rename_i hw
      rw [if_pos hw] at h
      exact .inl (Oper.wp_mono (fun a' w' h' => ⟨fun _ => h'.1, wpHLe_sound hs s _ _ _ hB.2 h'.1 h'.2⟩) (wp_exits (fun x a w hne hf => absurd hf.1 hne) h))
    · rename_i hw
      rw [if_neg hw] at h
      exact ⟨fun _ => h.1, wpHLe_sound hs s _ _ _ hB.2 h.1 h.2⟩
section
variable {P : Program} {Q : Exit → Act → World → Prop} {n : Nat} {σ : Sg} {w : World} {L : List Oper} {S : World → Prop}
theorem CW.drawE {id : Nat} (S : World → Prop) (s : List (Nat × Bool)) (e : Nat) (hm : P.follows .mixedOrders = true) (hB : ordEOk L s e = true) (hS : S (drew w)) (h : HL P L S (TailQ P L Q e) s n σ (drew w)) : CW P (.region id L.toArray true) Q n σ w := by
  unfold CW; unfold HL at h; intro a ha
  simp only [ordEOk, Bool.and_eq_true, decide_eq_true_eq] at hB
  obtain ⟨⟨hs, hl⟩, hB⟩ := hB
  have h1 := wpHLe_sound (Q := Q) hs s (Array.replicate L.length false) a (Go.Proofs.YtikigaeihdmcaaaDoor.drew w) hB hS (h a ha)
  rw [hl] at h1
  have h2 : (Code.region id L.toArray true).wp P (fun x a w => x = .normal ∧ Q .normal a w) a w := wp_region_any hm (by simpa using wpAny_of_E _ _ _ _ h1)
  exact wp_mono h2 (fun e a' w' ⟨he, hq⟩ => by subst he; exact hq)
/-- the last operation, by the rule for its like -/
theorem EX.tail {e : Nat} {o : Oper} (ho : nthO L e = some o) (h : WL P L (fun x a w => x = .normal ∧ Q .normal a w) [o] n σ w) : EX (TailQ P L Q e) .normal n σ w := by
  unfold EX; unfold WL at h
  intro a ha
  rw [nthO_eq] at ho
  exact ⟨rfl, o, ho, h a ha⟩
theorem EX.tailE (h : EX Q .normal n σ w) : EX (fun x a w => x = .normal ∧ Q .normal a w) .normal n σ w := by
  unfold EX at *; exact fun a ha => ⟨rfl, h a ha⟩
end
section
variable {P : Program} {Q : Exit → Act → World → Prop} {n : Nat} {σ : Sg} {wc : World} {L : List Oper} {S : World → Prop} {i j d : Nat} {ty : TypeId} {pos : String} {af : Array Edge} {g : Option (Nat × Bool)} {ty' : TypeId} {pos' : String} {af' : Array Edge} {g' : Option (Nat × Bool)} {t e : TypeId} {x ix y : Operand}
variable {α : Type} [Rep α] {F : Nat → Prop}
end
section
variable {P : Program} {Q : Exit → Act → World → Prop} {n : Nat} {σ : Sg} {w wc : World} {L : List Oper} {S : World → Prop} {ord : List (Nat × Bool)} {i d : Nat} {ty : TypeId} {pos : String} {af : Array Edge} {g : Option (Nat × Bool)} {t e : TypeId} {x : Operand} {b o : Nat} {cells : List Value}
/-- a field of a struct that nobody changes meanwhile -/
theorem HL.ldK {v : Value} (hK : ∀ w1, S w1 → w1.heap[b]? = w.heap[b]?) (ho : nthO L i = some ⟨some d, .load t x, ty, pos, af, g⟩) (hg : gd L σ ⟨some d, .load t x, ty, pos, af, g⟩ = some true) (hd : Nat.ble (d + 1) n = true) (hx : ev σ x = some (.pointer (some ⟨b, o, none⟩))) [hc : IsC P t 1 false] (hb : Blk w b e cells) (hv : nthV cells o = some v)
    (h : HL P L S Q ord n ((d, v) :: σ) wc) : HL P L S Q ((i, true) :: ord) n σ wc := by
  refine HL.run ho hg hd (fun a ha w' hsw => ?_) h
  have hb' : Blk w' b e cells := (hK w' hsw).trans hb
  simp [execOp, ha.ev hx, run_ld (P := P) (t := t) w' hb' hv]
end
end Go.Proofs.YtikigaeihdmcaaaDoor

/-
  Package push walked, first part: small functions; lists of formulas that grow.
-/
set_option linter.unusedVariables false
set_option linter.unusedSimpArgs false
namespace Go.Proofs.YtikigaeihdmcaaaDoor
open Go.RowKit

/-- a struct that nobody changes meanwhile -/
theorem HL.ldAK {P : Program} {Q : Exit → Act → World → Prop} {n : Nat} {σ : Sg} {w wc : World} {L : List Oper} {S : World → Prop} {ord : List (Nat × Bool)} {i d : Nat} {ty : TypeId} {pos : String} {af : Array Edge} {g : Option (Nat × Bool)} {t e : TypeId} {x : Operand} {b o : Nat} {cells vs : List Value} {k : Nat}
    (hK : ∀ w1, S w1 → w1.heap[b]? = w.heap[b]?) (ho : nthO L i = some ⟨some d, .load t x, ty, pos, af, g⟩) (hg : gd L σ ⟨some d, .load t x, ty, pos, af, g⟩ = some true) (hd : Nat.ble (d + 1) n = true) (hx : ev σ x = some (.pointer (some ⟨b, o, none⟩))) [hc : IsC P t k true] (hb : Blk w b e cells) (hv : segL cells o k = some vs)
    (h : HL P L S Q ord n ((d, .agg vs.toArray) :: σ) wc) : HL P L S Q ((i, true) :: ord) n σ wc := by
  refine HL.run ho hg hd (fun a ha w' hsw => ?_) h
  have hb' : Blk w' b e cells := (hK w' hsw).trans hb
  simp [execOp, ha.ev hx, run_ldA (P := P) (t := t) w' hb' hv]
/-- new blocks -/
def Nw (w w' : World) : Nat → Prop := fun b => w.heap.size ≤ b ∧ b < w'.heap.size
theorem Nw.lt {w w' : World} : ∀ b, Nw w w' b → b < w'.heap.size := fun _ h => h.2
theorem Nw.mono {a b c d : World} (h1 : a.heap.size ≤ b.heap.size) (h2 : c.heap.size ≤ d.heap.size) : ∀ x, Nw b c x → Nw a d x := fun x h => ⟨Nat.le_trans h1 h.1, Nat.lt_of_lt_of_le h.2 h2⟩
/-- behind a change of one block that is not met -/
theorem Rd.kept {α : Type} [Rep α] {w w' : World} {F : Nat → Prop} {v : Value} {x : α} {row : Option Nat} (h : Rd w F v x) (hg : w.grownBy w' row) (hF : ∀ b, F b → b < w.heap.size ∧ some b ≠ row) : Rd w' F v x :=
  h.mono (fun b hb => hg.block b (hF b hb).1 (hF b hb).2) fun _ h => h
theorem Rd.up0 {α : Type} [Rep α] {w w' : World} {F : Nat → Prop} {v : Value} {x : α} (h : Rd w F v x) (hE : Ext w w') (hF : ∀ b, F b → b < w.heap.size) : Rd w' F v x := h.mono (fun b hb => hE.block b (hF b hb)) fun _ h => h
theorem Rd.wk {α : Type} [Rep α] {w : World} {F F' : Nat → Prop} {v : Value} {x : α} (h : Rd w F v x) (hF : ∀ b, F b → F' b) : Rd w F' v x := h.mono (fun _ _ => rfl) hF
/-- the world but for one block -/
def SO (r : Nat) (w : World) : World → Prop := fun x => w.heap.size ≤ x.heap.size ∧ ∀ b, b ≠ r → b < w.heap.size → x.heap[b]? = w.heap[b]?
theorem SO.refl (r : Nat) (w : World) : SO r w w := ⟨Nat.le_refl _, fun _ _ _ => rfl⟩
theorem SO.ext {r : Nat} {w x y : World} (h : SO r w x) (hE : Ext x y) : SO r w y := ⟨Nat.le_trans h.1 hE.size, fun b h1 h2 => (hE.block b (Nat.lt_of_lt_of_le h2 h.1)).trans (h.2 b h1 h2)⟩
theorem SO.st {r : Nat} {w x y : World} (h : SO r w x) (hg : x.grownBy y (some r)) : SO r w y := ⟨Nat.le_trans h.1 hg.size, fun b h1 h2 => (hg.block b (Nat.lt_of_lt_of_le h2 h.1) (fun e => h1 (by cases e; rfl))).trans (h.2 b h1 h2)⟩

/- A LIST OF FORMULAS THAT GROWS: all that it meets is at B or behind -/
section
variable {α : Type} [Rep α]
def Grow (B : Nat) (e : TypeId) (w : World) (v : Value) (xs : List α) : Prop := ∃ F, (∀ b, F b → B ≤ b ∧ b < w.heap.size) ∧ Own w B e F v xs
variable {B : Nat} {e : TypeId} {w w' : World} {v : Value} {xs : List α}
theorem Grow.nil : Grow B e w (.slice none 0 0) ([] : List α) := ⟨Non, fun _ h => h.elim, Own.nil⟩
theorem Grow.ext (h : Grow B e w v xs) (hE : Ext w w') : Grow B e w' v xs := by
  obtain ⟨F, h1, h2⟩ := h
  exact ⟨F, fun b hb => ⟨(h1 b hb).1, Nat.lt_of_lt_of_le (h1 b hb).2 hE.size⟩, h2.ext hE fun b hb => (h1 b hb).2⟩
theorem Grow.kept {r : Nat} (h : Grow B e w v xs) (hg : w.grownBy w' (some r)) (hr : r < B) : Grow B e w' v xs := by
  obtain ⟨F, h1, h2⟩ := h
  refine ⟨F, fun b hb => ⟨(h1 b hb).1, Nat.lt_of_lt_of_le (h1 b hb).2 hg.size⟩, h2.kept hg (fun g hgo e => ?_) (fun b hb => ⟨(h1 b hb).2, fun e => ?_⟩)⟩
  · have := (h2.lt g hgo).1; cases e; omega
  · have := (h1 b hb).1; cases e; omega
theorem Grow.lt (h : Grow B e w v xs) : ∀ g, v.ownBlock = some g → B ≤ g ∧ g < w.heap.size := by
  obtain ⟨F, h1, h2⟩ := h
  exact fun g hg => ⟨(h2.lt g hg).1, (h2.lt g hg).2.1⟩
theorem Grow.sl (h : Grow B e w v xs) : ∃ ao cap, v = .slice ao xs.length cap ∧ Sl w (fun b => B ≤ b ∧ b < w.heap.size) ao cap xs := by
  obtain ⟨F, h1, h2⟩ := h
  exact h2.slF (fun b hb => h1 b hb) (fun g hg => ⟨(h2.lt g hg).1, (h2.lt g hg).2.1⟩)
/-- ready for one more, that meets Fu -/
theorem Grow.open (h : Grow B e w v xs) {Fu : Nat → Prop} (hFu : ∀ b, Fu b → B ≤ b ∧ b < w.heap.size) (hn : ∀ g, v.ownBlock = some g → ¬ Fu g) : ∃ F, (∀ b, F b → B ≤ b ∧ b < w.heap.size) ∧ Own w B e F v xs ∧ (∀ b, Fu b → F b) := by
  obtain ⟨F, h1, h2⟩ := h
  refine ⟨fun b => F b ∨ Fu b, fun b hb => hb.elim (h1 b) (hFu b), h2.wk (fun b hb => .inl hb) (fun g hg hb => ?_), fun b hb => .inr hb⟩
  exact hb.elim (h2.lt g hg).2.2 (hn g hg)
end

end Go.Proofs.YtikigaeihdmcaaaDoor

/-
  Formulas all of whose blocks lie at B or behind.
-/
set_option linter.unusedVariables false
set_option linter.unusedSimpArgs false
namespace Go.Proofs.YtikigaeihdmcaaaDoor
open Go.RowKit

abbrev GL (B : Nat) (w : World) (v : Value) (t : Ltl) : Prop := Rd w (fun b => B ≤ b ∧ b < w.heap.size) v t
theorem GL.ext {B : Nat} {w w' : World} {v : Value} {t : Ltl} (h : GL B w v t) (hE : Ext w w') : GL B w' v t := (Rd.up0 h hE (fun b hb => hb.2)).wk (fun b hb => ⟨hb.1, Nat.lt_of_lt_of_le hb.2 hE.size⟩)
theorem GL.st {B r : Nat} {w w' : World} {v : Value} {t : Ltl} (h : GL B w v t) (hg : w.grownBy w' (some r)) (hr : r < B) : GL B w' v t :=
  (Rd.kept h hg (fun b hb => ⟨hb.2, fun e => by have := Option.some.inj e; have := hb.1; omega⟩)).wk (fun b hb => ⟨hb.1, Nat.lt_of_lt_of_le hb.2 hg.size⟩)
theorem GL.low {B B' : Nat} {w : World} {v : Value} {t : Ltl} (h : GL B w v t) (hB : B' ≤ B) : GL B' w v t := Rd.wk h (fun b hb => ⟨Nat.le_trans hB hb.1, hb.2⟩)
theorem GL.plus {B : Nat} {w w' : World} (hB : B ≤ w.heap.size) (hE : Ext w w') : ∀ b, Plus (fun b => B ≤ b ∧ b < w.heap.size) w w' b → B ≤ b ∧ b < w'.heap.size := fun b hb => by
  have := hE.size
  rcases hb with hb | hb
  · exact ⟨hb.1, by omega⟩
  · exact ⟨by omega, hb.2⟩
theorem GL.old {B : Nat} {w : World} {v : Value} {t : Ltl} (h : GL B w v t) : Rd w (Old w) v t := Rd.wk h (fun b hb => hb.2)
end Go.Proofs.YtikigaeihdmcaaaDoor

/-
  ctl.Parse, walked: one token taken, one word read.
-/
set_option linter.unusedVariables false
set_option linter.unusedSimpArgs false
namespace Go.Proofs.YtikigaeihdmcaaaDoor
open Go.RowKit

/-- blocks from B on, but for those of X -/
def GXs (B : Nat) (X : List Nat) (w : World) : Nat → Prop := fun b => B ≤ b ∧ b < w.heap.size ∧ b ∉ X
abbrev GX (B : Nat) (X : List Nat) (w : World) (v : Value) (t : Ltl) : Prop := Rd w (GXs B X w) v t
theorem GX.ext {B : Nat} {X : List Nat} {w w' : World} {v : Value} {t : Ltl} (h : GX B X w v t) (hE : Ext w w') : GX B X w' v t :=
  (Rd.up0 h hE (fun b hb => hb.2.1)).wk (fun b hb => ⟨hb.1, Nat.lt_of_lt_of_le hb.2.1 hE.size, hb.2.2⟩)
theorem GX.st {B r : Nat} {X : List Nat} {w w' : World} {v : Value} {t : Ltl} (h : GX B X w v t) (hg : w.grownBy w' (some r)) (hr : r < B ∨ r ∈ X) : GX B X w' v t :=
  (Rd.kept h hg (fun b hb => ⟨hb.2.1, fun e => by have := Option.some.inj e; subst this; rcases hr with hr | hr; have := hb.1; omega; exact hb.2.2 hr⟩)).wk (fun b hb => ⟨hb.1, Nat.lt_of_lt_of_le hb.2.1 hg.size, hb.2.2⟩)
/-- a variable that came later -/
theorem GX.add {B r : Nat} {X : List Nat} {w w' : World} {v : Value} {t : Ltl} (h : GX B X w v t) (hE : Ext w w') (hr : w.heap.size ≤ r) : GX B (r :: X) w' v t :=
  (Rd.up0 h hE (fun b hb => hb.2.1)).wk (fun b hb => ⟨hb.1, Nat.lt_of_lt_of_le hb.2.1 hE.size, fun hm => by
    rcases List.mem_cons.1 hm with e | hm
    · have := hb.2.1; omega
    · exact hb.2.2 hm⟩)
theorem GX.of {B B' : Nat} {X : List Nat} {w : World} {v : Value} {t : Ltl} (h : GL B' w v t) (hB : B ≤ B') (hX : ∀ r ∈ X, r < B') : GX B X w v t :=
  Rd.wk h (fun b hb => ⟨Nat.le_trans hB hb.1, hb.2, fun hm => by have := hX b hm; have := hb.1; omega⟩)
theorem GX.gl {B : Nat} {X : List Nat} {w : World} {v : Value} {t : Ltl} (h : GX B X w v t) : GL B w v t := Rd.wk h (fun b hb => ⟨hb.1, hb.2.1⟩)
theorem GX.low {B B' : Nat} {X : List Nat} {w : World} {v : Value} {t : Ltl} (h : GX B X w v t) (hB : B' ≤ B) : GX B' X w v t := Rd.wk h (fun b hb => ⟨Nat.le_trans hB hb.1, hb.2⟩)
theorem GX.plus {B : Nat} {X : List Nat} {w w' : World} {v : Value} {t : Ltl} (h : Rd w' (PlusC (GXs B X w) w w') v t) (hE : Ext w w') (hB : B ≤ w.heap.size) (hX : ∀ r ∈ X, r < w.heap.size) : GX B X w' v t := Rd.wk h (fun b hb => by
  rcases hb with hb | hb
  · exact ⟨hb.1, Nat.lt_of_lt_of_le hb.2.1 hE.size, hb.2.2⟩
  · exact ⟨Nat.le_trans hB hb.1, hb.2, fun hm => by have := hX b hm; have := hb.1; omega⟩)
/-- a variable that holds a formula -/
def HF (T : TypeId) (w : World) (b B : Nat) (X : List Nat) (t : Ltl) : Prop := ∃ uo uc, Blk w b T [.int .i64 t.k, .int .i64 t.n, .slice uo t.kids.length uc] ∧ Sl w (GXs B X w) uo uc t.kids
theorem HF.lt {T : TypeId} {w : World} {b B : Nat} {X : List Nat} {t : Ltl} (h : HF T w b B X t) : b < w.heap.size := by
  obtain ⟨uo, uc, h1, h2⟩ := h
  exact h1.lt
theorem HF.gx {T : TypeId} {w : World} {b B : Nat} {X : List Nat} {t : Ltl} (h : HF T w b B X t) : ∃ uo uc, Blk w b T [.int .i64 t.k, .int .i64 t.n, .slice uo t.kids.length uc] ∧ GX B X w (ltlV t.k t.n uo t.kids.length uc) t := by
  obtain ⟨uo, uc, h1, h2⟩ := h
  cases t with
  | mk k n kids => exact ⟨uo, uc, h1, Rd.mkLtl h2⟩
theorem HF.of {T : TypeId} {w : World} {b B : Nat} {X : List Nat} {t : Ltl} {uo : Option Addr} {uc : Nat} (h : Blk w b T [.int .i64 t.k, .int .i64 t.n, .slice uo t.kids.length uc]) (hv : GX B X w (ltlV t.k t.n uo t.kids.length uc) t) : HF T w b B X t := by
  obtain ⟨ao, cap, e, hs⟩ := Rd.ltl hv
  have := congrArg (fun v => match v with | .agg a => a.toList | _ => []) e
  simp only [List.cons.injEq, Value.slice.injEq, true_and, and_true] at this
  obtain ⟨rfl, rfl⟩ := this
  exact ⟨_, _, h, hs⟩
theorem HF.ext {T : TypeId} {w w' : World} {b B : Nat} {X : List Nat} {t : Ltl} (h : HF T w b B X t) (hE : Ext w w') : HF T w' b B X t := by
  obtain ⟨uo, uc, h1, h2⟩ := h.gx
  exact HF.of (h1.ext hE) (h2.ext hE)
theorem HF.st {T : TypeId} {w w' : World} {b B r : Nat} {X : List Nat} {t : Ltl} (h : HF T w b B X t) (hg : w.grownBy w' (some r)) (hr : r < B ∨ r ∈ X) (hb : r ≠ b) : HF T w' b B X t := by
  obtain ⟨uo, uc, h1, h2⟩ := h.gx
  exact HF.of (h1.kept hg (fun e => hb (Option.some.inj e).symm)) (h2.st hg hr)
theorem HF.add {T : TypeId} {w w' : World} {b B r : Nat} {X : List Nat} {t : Ltl} (h : HF T w b B X t) (hE : Ext w w') (hr : w.heap.size ≤ r) : HF T w' b B (r :: X) t := by
  obtain ⟨uo, uc, h1, h2⟩ := h.gx
  exact HF.of (h1.ext hE) (h2.add hE hr)
/-- a fault -/
def FlV (w : World) (B : Nat) (c : Int) (a : Nat) (v : Value) : Prop := ∃ fb, v = .iface 73 (.pointer (some ⟨fb, 0, none⟩)) ∧ B ≤ fb ∧ Blk w fb 77 [.int .i64 c, .int .i64 (a : Int), .nilIface]
theorem FlV.ext {w w' : World} {B : Nat} {c : Int} {a : Nat} {v : Value} (h : FlV w B c a v) (hE : Ext w w') : FlV w' B c a v := by
  obtain ⟨fb, e, h1, h2⟩ := h
  exact ⟨fb, e, h1, h2.ext hE⟩
theorem FlV.low {w : World} {B B' : Nat} {c : Int} {a : Nat} {v : Value} (h : FlV w B c a v) (hB : B' ≤ B) : FlV w B' c a v := by
  obtain ⟨fb, e, h1, h2⟩ := h
  exact ⟨fb, e, Nat.le_trans hB h1, h2⟩
/-- a store into a variable that was there before the fault, or came behind it -/
theorem FlV.st {w w' : World} {B r : Nat} {c : Int} {a : Nat} {v : Value} (h : FlV w B c a v) (hg : w.grownBy w' (some r)) (hr : r < B) : FlV w' B c a v := by
  obtain ⟨fb, e, h1, h2⟩ := h
  exact ⟨fb, e, h1, h2.kept hg (fun e => by have := Option.some.inj e; omega)⟩
theorem FlV.stT {w w' : World} {B r : Nat} {T : TypeId} {cells : List Value} {c : Int} {a : Nat} {v : Value} (h : FlV w B c a v) (hg : w.grownBy w' (some r)) (hb : Blk w r T cells) (hT : T ≠ 77) : FlV w' B c a v := by
  obtain ⟨fb, e, h1, h2⟩ := h
  refine ⟨fb, e, h1, h2.kept hg (fun e => ?_)⟩
  have := Option.some.inj e
  subst this
  have h3 : w.heap[fb]? = w.heap[fb]? := rfl
  unfold Blk at hb h2
  rw [h2] at hb
  have := Option.some.inj hb
  simp at this
  exact hT this.2.symm
theorem FlV.err {w : World} {B : Nat} {c : Int} {a : Nat} {v : Value} (h : FlV w B c a v) : errI v = true ∧ nilI v = false := by
  obtain ⟨fb, rfl, _⟩ := h
  exact ⟨rfl, rfl⟩
/-- an error, or none, of a reading -/
def ErP (w : World) (B : Nat) (r : PR) (e : Value) (t : Ltl) (st : Bys × Bys) : Prop := (e = .nilIface ∧ r = .ok t st) ∨ ∃ c a, r = .er c a ∧ FlV w B c a e
theorem ErP.ext {w w' : World} {B : Nat} {r : PR} {e : Value} {t : Ltl} {st : Bys × Bys} (h : ErP w B r e t st) (hE : Ext w w') : ErP w' B r e t st := by
  rcases h with h | ⟨c, a, h1, h2⟩
  · exact .inl h
  · exact .inr ⟨c, a, h1, h2.ext hE⟩
theorem ErP.low {w : World} {B B' : Nat} {r : PR} {e : Value} {t : Ltl} {st : Bys × Bys} (h : ErP w B r e t st) (hB : B' ≤ B) : ErP w B' r e t st := by
  rcases h with h | ⟨c, a, h1, h2⟩
  · exact .inl h
  · exact .inr ⟨c, a, h1, h2.low hB⟩
theorem ErP.stT {w w' : World} {B b : Nat} {r : PR} {T : TypeId} {cells : List Value} {e : Value} {t : Ltl} {st : Bys × Bys} (h : ErP w B r e t st) (hg : w.grownBy w' (some b)) (hb : Blk w b T cells) (hT : T ≠ 77) : ErP w' B r e t st := by
  rcases h with h | ⟨c, a, h1, h2⟩
  · exact .inl h
  · exact .inr ⟨c, a, h1, h2.stT hg hb hT⟩
theorem ErP.err {w : World} {B : Nat} {r : PR} {e : Value} {t : Ltl} {st : Bys × Bys} (h : ErP w B r e t st) : errI e = true := by
  rcases h with ⟨rfl, _⟩ | ⟨c, a, h1, h2⟩
  · rfl
  · exact h2.err.1
end Go.Proofs.YtikigaeihdmcaaaDoor

