import Derived.Shelf.Sort.Plain
import Derived.Shelf.Slices.In.SortNone
import Derived.Test.YtikigaeihdmcaaaPtWorldOwn10
/-
  Drawn regions with a turning point: what holds of the memory until operation c comes, and what holds throughout. Some reads must come ahead of c, others may come behind it. Over any program.
-/
set_option linter.unusedVariables false
set_option linter.unusedSimpArgs false
namespace Go.Proofs.Ytikigaeihdmcaaa
open Go.RowKit

section
variable {P : Program} {ops : Array Oper} {Q : Exit → Act → World → Prop} {S : Array Bool → World → Prop}
end

/- THE TURNING POINT -/
structure Cls (L : List Oper) (l : Array Bool) : Prop where
  size : l.size = L.length
  cl : ∀ k o, l.getD k false = true → L[k]? = some o → ∀ j ∈ ons o, l.getD j false = true
theorem Cls.put {L : List Oper} {l : Array Bool} (h : Cls L l) {j : Nat} (hj : j ∈ Region.ready .any L.toArray l) : Cls L (l.setIfInBounds j true) := by
  obtain ⟨_, o, ho, he⟩ := mem_ready.1 hj
  have ho' : L[j]? = some o := by simpa using ho
  refine ⟨by simpa using h.size, fun k o' hk ho2 x hx => ?_⟩
  refine listed_set.2 (.inr ?_)
  rcases listed_set.1 hk with ⟨rfl, _⟩ | hk
  · rw [ho'] at ho2; cases ho2
    exact onsE he x hx
  · exact h.cl k o' hk ho2 x hx
def wpHP (P : Program) (ops : List Oper) (c e : Nat) (Sw Ss : World → Prop) (Q : Act → World → Prop) : Bool → List (Nat × Nat) → Act → World → Prop
  | _, [], a, w => Q a w
  | ph, (i, k) :: r, a, w => match k with
    | 0 => ∃ o, ops[i]? = some o ∧ (if Region.wanted o (yielded ops.toArray a.tmps) = true then o.wp P a w (fun a' w' => Sw w' ∧ ((ph || Nat.beq i c) = false → Ss w') ∧ wpHP P ops c e Sw Ss Q (ph || Nat.beq i c) r a' w') (fun e a w => e = .normal ∧ Q a w) else Sw w ∧ ((ph || Nat.beq i c) = false → Ss w) ∧ wpHP P ops c e Sw Ss Q (ph || Nat.beq i c) r (a.put o.dst undef) w)
    | 1 => ∃ o v, ops[i]? = some o ∧ YieldsIf P ops.toArray Sw o v a ∧ wpHP P ops c e Sw Ss Q ph r (a.put o.dst v) w
    | 2 => ∃ o v, ops[i]? = some o ∧ YieldsIf P ops.toArray Ss o v a ∧ wpHP P ops c e Sw Ss Q ph r (a.put o.dst v) w
    | _ => r = [] ∧ ∃ o, ops[i]? = some o ∧ (if Region.wanted o (yielded ops.toArray a.tmps) = true then o.wp P a w Q (fun e a w => e = .normal ∧ Q a w) else Q (a.put o.dst undef) w)
/- THE WALK -/
@[irreducible] def HP (P : Program) (ops : List Oper) (c e : Nat) (Sw Ss : World → Prop) (Q : Exit → Act → World → Prop) (ph : Bool) (ord : List (Nat × Nat)) (n : Nat) (σ : Sg) (w : World) : Prop :=
  ∀ a, Fr n σ a → wpHP P ops c e Sw Ss (fun a w => Q .normal a w) ph ord a w
section
variable {P : Program} {Q : Exit → Act → World → Prop} {n : Nat} {σ : Sg} {w : World} {L : List Oper} {c e : Nat} {Sw Ss : World → Prop}
theorem HP.nil {ph : Bool} (h : EX Q .normal n σ w) : HP P L c e Sw Ss Q ph [] n σ w := by
  unfold HP; unfold EX at h; exact fun a ha => h a ha
/-- behind one operation -/
def AfterP (P : Program) (ops : List Oper) (c e : Nat) (Sw Ss : World → Prop) (Q : Exit → Act → World → Prop) (ph : Bool) (ord : List (Nat × Nat)) : Exit → Act → World → Prop :=
  fun x a w => x = .normal ∧ Sw w ∧ (ph = false → Ss w) ∧ wpHP P ops c e Sw Ss (fun a w => Q .normal a w) ph ord a w
/-- what follows a stretch -/
def RestP (P : Program) (ops : List Oper) (c e : Nat) (Sw Ss : World → Prop) (Q : Exit → Act → World → Prop) (ph : Bool) (ord : List (Nat × Nat)) : Exit → Act → World → Prop :=
  fun x a w => x = .normal ∧ wpHP P ops c e Sw Ss (fun a w => Q .normal a w) ph ord a w
theorem EX.rest {ph : Bool} {r : List (Nat × Nat)} (h : HP P L c e Sw Ss Q ph r n σ w) : EX (RestP P L c e Sw Ss Q ph r) .normal n σ w := by
  unfold EX; unfold HP at h
  exact fun a ha => ⟨rfl, h a ha⟩
theorem HP.mut {ph : Bool} {i : Nat} {r : List (Nat × Nat)} {o : Oper} (ho : nthO L i = some o) (h : WL P L (AfterP P L c e Sw Ss Q (ph || Nat.beq i c) r) [o] n σ w) : HP P L c e Sw Ss Q ph ((i, 0) :: r) n σ w := by
  unfold HP; unfold WL at h
  intro a ha
  rw [nthO_eq] at ho
  have h2 := h a ha
  simp only [wpList] at h2
  refine ⟨o, ho, ?_⟩
  split
  · rename_i hw
    rw [if_pos hw] at h2
    rcases h2 with h2 | ⟨_, hl⟩
    · refine Oper.wp_mono (fun a' w' h' => h'.2) (wp_exits (fun x a w hne hf => absurd hf.1 hne) h2)
    · obtain ⟨_, _, hx⟩ := hl
      exact absurd hx.1 (by simp)
  · rename_i hw
    rw [if_neg hw] at h2
    exact h2.2
theorem EX.mutP {ph : Bool} {r : List (Nat × Nat)} (hw : Sw w) (hs : ph = false → Ss w) (h : HP P L c e Sw Ss Q ph r n σ w) : EX (AfterP P L c e Sw Ss Q ph r) .normal n σ w := by
  unfold EX; unfold HP at h
  exact fun a ha => ⟨rfl, hw, hs, h a ha⟩
/-- the last operation: nothing is asked behind it -/
theorem HP.last {ph : Bool} {i : Nat} {o : Oper} (ho : nthO L i = some o) (h : WL P L (fun x a w => x = .normal ∧ Q .normal a w) [o] n σ w) : HP P L c e Sw Ss Q ph [(i, 3)] n σ w := by
  unfold HP; unfold WL at h
  intro a ha
  rw [nthO_eq] at ho
  have h2 := h a ha
  simp only [wpList] at h2
  refine ⟨rfl, o, ho, ?_⟩
  split
  · rename_i hw
    rw [if_pos hw] at h2
    rcases h2 with h2 | ⟨_, hl⟩
    · refine Oper.wp_mono (fun a' w' h' => h'.2) (wp_exits (fun x a w hne hf => absurd hf.1 hne) h2)
    · obtain ⟨_, _, hx⟩ := hl
      exact absurd hx.1 (by simp)
  · rename_i hw
    rw [if_neg hw] at h2
    exact h2.2
/-- append(x, y), behind the turning point -/
theorem HP.app1 {α : Type} [Rep α] {x0 : α} {bytes : Nat} {F : Nat → Prop} {i i1 d d1 : Nat} {ty ty1 : TypeId} {pos pos1 : String} {af af1 : Array Edge} {g g1 : Option (Nat × Bool)} {t et : TypeId} {x y : Operand} {rest : List (Nat × Nat)} {v u : Value} {xs : List α} {yv : α} {B : Nat} {wc : World}
    (ho1 : nthO L i1 = some ⟨some d1, .buildSlice t 1 [(0, y)].toArray, ty1, pos1, af1, g1⟩) (ho : nthO L i = some ⟨some d, .call ⟨.builtin .append, #[x, .tmp d1], #[t, t]⟩, ty, pos, af, g⟩)
    (hg1 : gd L σ ⟨some d1, .buildSlice t 1 [(0, y)].toArray, ty1, pos1, af1, g1⟩ = some true) (hd1 : Nat.ble (d1 + 1) n = true)
    (hg : ∀ u, gd L ((d1, .slice u 1 1) :: σ) ⟨some d, .call ⟨.builtin .append, #[x, .tmp d1], #[t, t]⟩, ty, pos, af, g⟩ = some true) (hd : Nat.ble (d + 1) n = true)
    (hy : ev σ y = some u) (hx : ∀ u, ev ((d1, .slice u 1 1) :: σ) x = some v) [hs : IsS P t et] [ht : IsT P et α] [hz : IsZ P et x0 bytes] (hown : Own wc B et F v xs) (hu : Rd wc F u yv) (hB : B ≤ wc.heap.size) (hF : ∀ b, F b → b < wc.heap.size)
    (hsz : sz α ≤ 16777216) (hm : xs.length + 1 ≤ maxLen) (hb : (xs.length + 1) * bytes ≤ 140737488355328) (hS : ∀ w', wc.grownBy w' v.ownBlock → Sw w')
    (h : ∀ v' w' p, Own w' B et F v' (xs ++ [yv]) → wc.grownBy w' v.ownBlock → (∀ g, v'.ownBlock = some g → v.ownBlock = some g ∨ wc.heap.size ≤ g) → HP P L c e Sw Ss Q true rest n ((d, v') :: (d1, .slice p 1 1) :: σ) w') :
    HP P L c e Sw Ss Q true ((i1, 0) :: (i, 0) :: rest) n σ wc := by
  refine HP.mut ho1 ?_
  refine WL.lit (vs := [u]) (ys := [yv]) hg1 hd1 rfl (by simp [sndL, evs, hy]) rfl ⟨hu, trivial⟩ (by simpa using hsz) hF (fun w1 ho1 hgr1 => ?_)
  have hsize : wc.heap.size ≤ w1.heap.size := hgr1.size
  have hkeep : Own w1 B et F v xs := hown.kept hgr1 (fun _ _ h => by cases h) fun b hb => ⟨hF b hb, fun h => by cases h⟩
  have g2 : wc.grownBy w1 v.ownBlock := ⟨hgr1.os, hgr1.tape, hgr1.output, hgr1.size, fun k hk _ => hgr1.block k hk (fun h => by cases h)⟩
  refine WL.nil (EX.mutP (ph := true) (hS _ g2) (fun h => by cases h) ?_)
  refine HP.mut ho ?_
  refine WL.app (ys := [yv]) (hg _) hd (hx _) fnd_cons_eq hkeep ho1.src (Nat.le_trans hB hsize) (fun b hb => Nat.lt_of_lt_of_le (hF b hb) hsize) (by simpa using hm) (by simpa using hb) (fun v' w' ho' hgr hnb => ?_)
  have g3 : wc.grownBy w' v.ownBlock := ⟨hgr.os.trans hgr1.os, hgr.tape.trans hgr1.tape, hgr.output.trans hgr1.output, Nat.le_trans hsize hgr.size, fun k hk hne => (hgr.block k (Nat.lt_of_lt_of_le hk hsize) hne).trans (hgr1.block k hk (fun h => by cases h))⟩
  exact WL.nil (EX.mutP (ph := true) (hS _ g3) (fun h => by cases h) (h v' w' _ ho' g3 (fun g hg => (hnb g hg).imp id (fun h => Nat.le_trans hsize h))))
end
section
variable {P : Program} {Q : Exit → Act → World → Prop} {n : Nat} {σ : Sg} {wc : World} {L : List Oper} {S : World → Prop} {ord : List (Nat × Bool)} {i d : Nat} {ty : TypeId} {pos : String} {af : Array Edge} {g : Option (Nat × Bool)} {t : TypeId} {x : Operand} {b o : Nat}
end
end Go.Proofs.Ytikigaeihdmcaaa

/-
  Package empty: Find: walked.
-/
set_option linter.unusedVariables false
set_option linter.unusedSimpArgs false
namespace Go.Proofs.Ytikigaeihdmcaaa
open Go.RowKit

theorem results_cellE {fn : Func} {a u s : Nat} {t : TypeId} (h : fn.results = #[.cell a t, .tmp u, .tmp s]) (tmps : Array Value) (P : Program) (w : World) {p : Addr} {v : Value} (ha : tmps.getD a undef = .pointer (some p)) (hl : (loadVar t p).run P w = .ok v w) :
    (results fn tmps).run P w = .ok (.tuple ⟨[v, tmps.getD u undef, tmps.getD s undef]⟩) w := by
  simp only [Array.getD_eq_getD_getElem?] at ha ⊢
  simp [results, h, ha, asAddr, hl]
theorem EX.retCE {P : Program} {n : Nat} {σ : Sg} {w : World} {fn : Func} {a b u s : Nat} {t e : TypeId} {cells : List Value} {k : Nat} {x y : Value} {R : Value → World → Prop} (hr : fn.results = #[.cell a t, .tmp u, .tmp s]) (ha : fnd σ a = some (.pointer (some ⟨b, 0, none⟩))) (hu : fnd σ u = some x) (hs : fnd σ s = some y) [hc : IsC P t k true] (hb : Blk w b e cells) (hk : lenL cells = k) (h : R (.tuple ⟨[.agg cells.toArray, x, y]⟩) w) :
    EX (bodyPost P fn fun e w' => ∃ v, e = .returned v ∧ R v w') .ret n σ w := by
  unfold EX; intro ac hac
  refine bodyPost_ret (results_cellE hr _ _ _ (hac.slot a _ ha) (v := .agg cells.toArray) ?_) hac.defers ⟨_, by rw [hac.slot u x hu, hac.slot s y hs], h⟩
  rw [lenL_eq] at hk
  have hld := run_loadCells_list (P := P) w ⟨b, 0, none⟩ cells (fun j u hu => by rw [WideShapes.add_plain, Nat.zero_add]; exact hb.cell hu)
  obtain ⟨i, dd, h1, h2, h3, h4⟩ := hc.ok
  have hagg : (isAgg t).run P w = .ok true w := by
    unfold isAgg
    rw [Sem.run_bind, run_underlying h3 w, ← h4]
    cases dd <;> rfl
  rw [hk] at hld
  simp [loadVar, hagg, sizeOf, typeInfo, h1, h2, hld]
end Go.Proofs.Ytikigaeihdmcaaa

/-
  watchkeep.turns walked.
-/
set_option linter.unusedVariables false
set_option linter.unusedSimpArgs false
namespace Go.Proofs.Ytikigaeihdmcaaa
open Go.RowKit

theorem wturns_okL (w0 : World) : Rt Try.prog 18 [].toArray w0 fun v w' => (∃ a1 c1 a2 c2 a3 c3 a4 c4, v = worldV a1 c1 a2 c2 a3 c3 a4 c4 1 2 2 2 ∧ Sl w' (Old w') a1 c1 [(0 : Int)] ∧ Sl w' (Old w') a2 c2 [[(1 : Int), 0], [0, 1]] ∧ Sl w' (Old w') a3 c3 [(1 : Nat), 2] ∧ Sl w' (Old w') a4 c4 [[(0 : Int)], [1]]) ∧ Ext w0 w' := by
  refine Rt.enter0 Try.func18 Try.ntmps18 rfl ?_
  (repeat (first | (apply CW.seq) | (apply CW.region)))
  refine WL.alloc rfl rfl (fun w1 hb hE1 => ?_)
  have hc1 : w0.heap.size + 1 ≤ w1.heap.size := hb.lt
  generalize hcc : w0.heap.size + 1 = c at hc1
  (repeat (first | (apply WL.nil) | (apply EX.thenN) | (apply CW.seq) | (apply CW.region)))
  refine WL.litF c (by omega) [(0 : Int)] rfl rfl rfl rfl rfl (.cons (Rd.mkInt _ _ _) .nil) (by decide) (fun v2 w2 e2 r2 => ?_)
  have z2 := e2.size
  refine WL.litF c (by omega) [(1 : Int), 0] rfl rfl rfl rfl rfl (.cons (Rd.mkInt _ _ _) (.cons (Rd.mkInt _ _ _) .nil)) (by decide) (fun v3 w3 e3 r3 => ?_)
  have z3 := e3.size
  refine WL.litF c (by omega) [(0 : Int), 1] rfl rfl rfl rfl rfl (.cons (Rd.mkInt _ _ _) (.cons (Rd.mkInt _ _ _) .nil)) (by decide) (fun v4 w4 e4 r4 => ?_)
  have z4 := e4.size
  refine WL.litF c (by omega) [[(1 : Int), 0], [0, 1]] rfl rfl rfl rfl rfl (.cons (r3.upF e4) (.cons r4 .nil)) (by decide) (fun v5 w5 e5 r5 => ?_)
  have z5 := e5.size
  refine WL.litF c (by omega) [(1 : Nat), 2] rfl rfl rfl rfl rfl (.cons ⟨_, rfl, rd_mkU64 _ _ _ (by decide)⟩ (.cons ⟨_, rfl, rd_mkU64 _ _ _ (by decide)⟩ .nil)) (by decide) (fun v6 w6 e6 r6 => ?_)
  have z6 := e6.size
  refine WL.litF c (by omega) [(0 : Int)] rfl rfl rfl rfl rfl (.cons (Rd.mkInt _ _ _) .nil) (by decide) (fun v7 w7 e7 r7 => ?_)
  have z7 := e7.size
  refine WL.litF c (by omega) [(1 : Int)] rfl rfl rfl rfl rfl (.cons (Rd.mkInt _ _ _) .nil) (by decide) (fun v8 w8 e8 r8 => ?_)
  have z8 := e8.size
  refine WL.litF c (by omega) [[(0 : Int)], [1]] rfl rfl rfl rfl rfl (.cons (r7.upF e8) (.cons r8 .nil)) (by decide) (fun v9 w9 e9 r9 => ?_)
  replace r2 := r2.upF (e3.trans (e4.trans (e5.trans (e6.trans (e7.trans (e8.trans e9))))))
  replace r5 := r5.upF (e6.trans (e7.trans (e8.trans e9)))
  replace r6 := r6.upF (e7.trans (e8.trans e9))
  have hb9 := hb.ext (e2.trans (e3.trans (e4.trans (e5.trans (e6.trans (e7.trans (e8.trans e9)))))))
  have hE9 := hE1.trans (e2.trans (e3.trans (e4.trans (e5.trans (e6.trans (e7.trans (e8.trans e9)))))))
  clear r3 r4 r7 r8 e2 e3 e4 e5 e6 e7 e8 e9 hE1
  obtain ⟨a1, c1, rfl, s1⟩ := r2.sl
  obtain ⟨a2, c2, rfl, s2⟩ := r5.sl
  obtain ⟨a3, c3, rfl, s3⟩ := r6.sl
  obtain ⟨a4, c4, rfl, s4⟩ := r9.sl
  skip
  refine WL.build rfl rfl rfl rfl ?_
  skip
  refine WL.st rfl rfl rfl hb9 rfl rfl (ones_of rfl) (fun w10 hb10 hg10 => ?_)
  have hE10 : Ext w0 w10 := hE9.grown hg10 hE9.size (fun g hg => by cases hg; exact Nat.le_refl _)
  have hF : ∀ b, From c w9 b → w10.heap[b]? = w9.heap[b]? := fun b hb => hg10.block b hb.2 (fun e => by cases e; have := hb.1; omega)
  have hO : ∀ b, From c w9 b → Old w10 b := fun b hb => Nat.lt_of_lt_of_le hb.2 hg10.size
  (repeat (first | (apply WL.nil) | (apply EX.thenN) | (apply CW.ret)))
  exact EX.retC rfl rfl hb10 rfl ⟨⟨a1, c1, a2, c2, a3, c3, a4, c4, rfl, s1.mono hF hO, s2.mono hF hO, s3.mono hF hO, s4.mono hF hO⟩, hE10⟩
end Go.Proofs.Ytikigaeihdmcaaa

/-
  One fair set in place of many (Choueka): plain lists, no program in sight.
-/
set_option linter.unusedVariables false
set_option linter.unusedSimpArgs false
namespace Go.Proofs.Ytikigaeihdmcaaa

/- COUNTING -/
section
variable {fr : List (List Int)} {q : Nat → Pr2}
end
end Go.Proofs.Ytikigaeihdmcaaa

/-
  What an automaton of pairs is like: plain lists, no program in sight.
-/
set_option linter.unusedVariables false
set_option linter.unusedSimpArgs false
namespace Go.Proofs.Ytikigaeihdmcaaa

structure MadeIn (N : Nat) (st : List Int) (nx : List (List Int)) : Prop where
  so : okL N st
  no : ∀ r ∈ nx, okL N r
  ln : nx.length = N
  n : N ≤ 2048
  sl : st.length ≤ 2048
  ed : edges nx ≤ 4194304
end Go.Proofs.Ytikigaeihdmcaaa

/-
  EmptyShows, EmptyTakes: walked.
-/
set_option linter.unusedVariables false
set_option linter.unusedSimpArgs false
namespace Go.Proofs.Ytikigaeihdmcaaa
open Go.RowKit

end Go.Proofs.Ytikigaeihdmcaaa

/-
  Package auto: the maker of pairs: what it holds.
-/
set_option linter.unusedVariables false
set_option linter.unusedSimpArgs false
namespace Go.Proofs.Ytikigaeihdmcaaa
open Go.RowKit

instance iMk3 : IsZ0 Try.prog 3 := ⟨by kernel_rfl⟩
end Go.Proofs.Ytikigaeihdmcaaa

/-
  Package auto: put, the maker's closure: walked.
-/
set_option linter.unusedVariables false
set_option linter.unusedSimpArgs false
namespace Go.Proofs.Ytikigaeihdmcaaa
open Go.RowKit

end Go.Proofs.Ytikigaeihdmcaaa

/-
  Package auto: made: walked.
-/
set_option linter.unusedVariables false
set_option linter.unusedSimpArgs false
namespace Go.Proofs.Ytikigaeihdmcaaa
open Go.RowKit

end Go.Proofs.Ytikigaeihdmcaaa

/-
  Package auto: the closures of Both and Single, sets: walked.
-/
set_option linter.unusedVariables false
set_option linter.unusedSimpArgs false
namespace Go.Proofs.Ytikigaeihdmcaaa
open Go.RowKit

end Go.Proofs.Ytikigaeihdmcaaa

/-
  Package auto: sets: walked.
-/
set_option linter.unusedVariables false
set_option linter.unusedSimpArgs false
namespace Go.Proofs.Ytikigaeihdmcaaa
open Go.RowKit

end Go.Proofs.Ytikigaeihdmcaaa

/-
  Package auto: Both: walked.
-/
set_option linter.unusedVariables false
set_option linter.unusedSimpArgs false
namespace Go.Proofs.Ytikigaeihdmcaaa
open Go.RowKit

end Go.Proofs.Ytikigaeihdmcaaa

/-
  Both, by its error.
-/
set_option linter.unusedVariables false
set_option linter.unusedSimpArgs false
namespace Go.Proofs.Ytikigaeihdmcaaa
open Go.RowKit

end Go.Proofs.Ytikigaeihdmcaaa

/-
  EmptyTakes: walked.
-/
set_option linter.unusedVariables false
set_option linter.unusedSimpArgs false
namespace Go.Proofs.Ytikigaeihdmcaaa
open Go.RowKit

end Go.Proofs.Ytikigaeihdmcaaa

/-
  Package lasso: what formulas say at all places.
-/
set_option linter.unusedVariables false
set_option linter.unusedSimpArgs false
namespace Go.Proofs.Ytikigaeihdmcaaa
open Go.RowKit

mutual
def wfT : Ltl → Prop
  | .mk k n kids => kidsK k = kids.length ∧ 0 ≤ n ∧ n ≤ 63 ∧ (k ≠ 3 → n = 0) ∧ wfTs kids
def wfTs : List Ltl → Prop
  | [] => True
  | x :: r => wfT x ∧ wfTs r
end
end Go.Proofs.Ytikigaeihdmcaaa

/-
  What formulas of one way mean, on endless words; that lasso.holds says so. Plain law, no program in sight.
-/
set_option linter.unusedVariables false
set_option linter.unusedSimpArgs false
namespace Go.Proofs.Ytikigaeihdmcaaa
open Go.RowKit

def Til (A B : Nat → Prop) (i : Nat) : Prop := ∃ j, i ≤ j ∧ B j ∧ ∀ m, i ≤ m → m < j → A m
theorem Til.step {A B : Nat → Prop} {i : Nat} : Til A B i ↔ B i ∨ (A i ∧ Til A B (i + 1)) := by
  constructor
  · rintro ⟨j, hj, hb, ha⟩
    by_cases h : i = j
    · subst h; exact .inl hb
    · exact .inr ⟨ha i (Nat.le_refl _) (by omega), j, by omega, hb, fun m h1 h2 => ha m (by omega) h2⟩
  · rintro (hb | ⟨ha, j, hj, hb, hm⟩)
    · exact ⟨i, Nat.le_refl _, hb, fun m h1 h2 => by omega⟩
    · refine ⟨j, by omega, hb, fun m h1 h2 => ?_⟩
      by_cases h : m = i
      · subst h; exact ha
      · exact hm m (by omega) h2
def semK (L : Nat → Nat) (k n : Int) (ks : List (Nat → Prop)) (i : Nat) : Prop :=
  if k = 1 then True
  else if k = 3 then L i >>> n.toNat &&& 1 = 1
  else if k = 4 then ¬ ks.getD 0 (fun _ => False) i
  else if k = 5 then ks.getD 0 (fun _ => False) i ∧ ks.getD 1 (fun _ => False) i
  else if k = 6 then ks.getD 0 (fun _ => False) i ∨ ks.getD 1 (fun _ => False) i
  else if k = 7 then ks.getD 0 (fun _ => False) (i + 1)
  else if k = 8 then Til (ks.getD 0 (fun _ => False)) (ks.getD 1 (fun _ => False)) i
  else if k = 9 then ¬ Til (fun j => ¬ ks.getD 0 (fun _ => False) j) (fun j => ¬ ks.getD 1 (fun _ => False) j) i
  else if k = 10 then Til (fun _ => True) (ks.getD 0 (fun _ => False)) i
  else if k = 11 then ¬ Til (fun _ => True) (fun j => ¬ ks.getD 0 (fun _ => False) j) i
  else False
mutual
def sem (L : Nat → Nat) : Ltl → Nat → Prop
  | .mk k n kids => semK L k n (sems L kids)
def sems (L : Nat → Nat) : List Ltl → List (Nat → Prop)
  | [] => []
  | x :: r => sem L x :: sems L r
end
theorem Til.shift {A B A' B' : Nat → Prop} {i i' : Nat} (ha : ∀ j, A (i + j) ↔ A' (i' + j)) (hb : ∀ j, B (i + j) ↔ B' (i' + j)) : Til A B i ↔ Til A' B' i' := by
  constructor
  · rintro ⟨j, hj, h1, h2⟩
    obtain ⟨d, rfl⟩ := Nat.exists_eq_add_of_le hj
    refine ⟨i' + d, by omega, (hb d).1 h1, fun m hm hm2 => ?_⟩
    obtain ⟨e, rfl⟩ := Nat.exists_eq_add_of_le hm
    exact (ha e).1 (h2 (i + e) (by omega) (by omega))
  · rintro ⟨j, hj, h1, h2⟩
    obtain ⟨d, rfl⟩ := Nat.exists_eq_add_of_le hj
    refine ⟨i + d, by omega, (hb d).2 h1, fun m hm hm2 => ?_⟩
    obtain ⟨e, rfl⟩ := Nat.exists_eq_add_of_le hm
    exact (ha e).2 (h2 (i' + e) (by omega) (by omega))
section
variable {s l : List Nat} {a b : List Bool} {A B : Nat → Prop} {N : Nat}
end

/- WHAT HOLDS -/
theorem notB {xs : List Bool} {N i : Nat} (hl : xs.length = N) (hi : i < N) : ((xs.map (!·)).getD i false = true ↔ ¬ xs.getD i false = true) := by
  rw [List.getD_eq_getElem?_getD, List.getD_eq_getElem?_getD, List.getElem?_map, List.getElem?_eq_getElem (by omega)]
  simp
end Go.Proofs.Ytikigaeihdmcaaa

/-
  Package push, plain: nots pushed down, plain, slim; what they mean and what forms they give.
-/
set_option linter.unusedVariables false
set_option linter.unusedSimpArgs false
namespace Go.Proofs.Ytikigaeihdmcaaa
open Go.RowKit

/- DEPTH, AND WHAT Check ASKS -/
mutual
def Ltl.deep : Ltl → Nat
  | .mk _ _ kids => 1 + Ltl.deepL kids
def Ltl.deepL : List Ltl → Nat
  | [] => 0
  | x :: r => max x.deep (Ltl.deepL r)
end
/- EQUALITY -/
mutual
def sameB : Ltl → Ltl → Bool
  | .mk k n l, .mk k' n' l' => k == k' && n == n' && sameBs l l'
def sameBs : List Ltl → List Ltl → Bool
  | [], [] => true
  | x :: r, y :: q => sameB x y && sameBs r q
  | [], _ :: _ => false
  | _ :: _, [] => false
end
/- THE MEANING, KIND BY KIND -/
section
variable {L : Nat → Nat} {n : Int} {a b : Ltl} {i : Nat}
end
theorem Til.congr {A B A' B' : Nat → Prop} (ha : ∀ j, A j ↔ A' j) (hb : ∀ j, B j ↔ B' j) (i : Nat) : Til A B i ↔ Til A' B' i :=
  Til.shift (fun _ => ha _) (fun _ => hb _)

/- NOTS -/
end Go.Proofs.Ytikigaeihdmcaaa

/-
  Package push, plain, second part: forms of what is pushed; plain; slim.
-/
set_option linter.unusedVariables false
set_option linter.unusedSimpArgs false
namespace Go.Proofs.Ytikigaeihdmcaaa
open Go.RowKit

/- FORMS -/
/- PLAIN -/
mutual
def hasB : Ltl → Int → Bool
  | .mk k _ kids, q => k == q || hasBs kids q
def hasBs : List Ltl → Int → Bool
  | [], _ => false
  | x :: r, q => hasB x q || hasBs r q
end
/- SLIM -/
section
variable {L : Nat → Nat}
theorem Til.here {A B : Nat → Prop} {i : Nat} (h : B i) : Til A B i := ⟨i, Nat.le_refl _, h, fun m h1 h2 => by omega⟩
theorem Til.self {A : Nat → Prop} {i : Nat} : Til A A i ↔ A i := by
  rw [Til.step]
  constructor
  · rintro (h | ⟨h, _⟩) <;> exact h
  · exact .inl
end
/- slim is right, no larger, no deeper -/
structure Slm (a t : Ltl) : Prop where
  wf : wfT a
  nodes : a.nodes ≤ t.nodes
  deep : a.deep ≤ t.deep
/- slim again is the same -/
end Go.Proofs.Ytikigaeihdmcaaa

/-
  Elements of a formula, states of its automaton: plain lists.
-/
set_option linter.unusedVariables false
set_option linter.unusedSimpArgs false
namespace Go.Proofs.Ytikigaeihdmcaaa

/- PACKED BITS -/
def packB (f : Nat → Bool) : Nat → Nat
  | 0 => 0
  | c + 1 => if f c = true then packB f c ||| (1 <<< c) else packB f c
/- ELEMENTS -/
abbrev Mk2 := List Int × List Ltl
mutual
def Cov (m : Mk2) : Ltl → Prop
  | .mk k n kids => (k = 3 → n ∈ m.1) ∧ ((k = 7 ∨ k = 8 ∨ k = 9) → .mk k n kids ∈ m.2) ∧ Covs m kids
def Covs (m : Mk2) : List Ltl → Prop
  | [] => True
  | x :: r => Cov m x ∧ Covs m r
end
/-- more elements -/
def Les (m m' : Mk2) : Prop := (∀ x ∈ m.1, x ∈ m'.1) ∧ ∀ x ∈ m.2, x ∈ m'.2
theorem Les.refl (m : Mk2) : Les m m := ⟨fun _ h => h, fun _ h => h⟩
theorem Les.trans {a b c : Mk2} (h : Les a b) (k : Les b c) : Les a c := ⟨fun x hx => k.1 x (h.1 x hx), fun x hx => k.2 x (h.2 x hx)⟩
/-- what a list of elements is -/
structure OkM (m : Mk2) : Prop where
  na : m.1.Nodup
  ra : ∀ x ∈ m.1, 0 ≤ x ∧ x ≤ 63
  wp : ∀ g ∈ m.2, wfT g ∧ (g.k = 7 ∨ g.k = 8 ∨ g.k = 9) ∧ hasB g 10 = false ∧ hasB g 11 = false
theorem OkM.nil : OkM ([], []) := ⟨List.Pairwise.nil, (fun x hx => by cases hx), (fun x hx => by cases hx)⟩
theorem Covs.get {m : Mk2} : ∀ {l : List Ltl}, Covs m l → ∀ x ∈ l, Cov m x
  | [], _, x, hx => by cases hx
  | y :: r, h, x, hx => by
    simp only [Covs] at h
    rcases List.mem_cons.1 hx with rfl | hx
    · exact h.1
    · exact Covs.get h.2 x hx
/-- parts of parts are covered -/
def Clo (m m' : Mk2) : Prop := ∀ g ∈ m.2, Cov m' g
/- STATES -/
def partI (m : Mk2) (t : Ltl) : Int := idxOf (sameB t) m.2
def atomI (m : Mk2) (n : Int) : Int := idxOf (fun y => n == y) m.1
def choB (m : Mk2) (s : Nat) (t : Ltl) : Bool := if t.k = 3 then s.testBit (atomI m t.n).toNat else s.testBit (m.1.length + (partI m t).toNat)
mutual
def hoB (m : Mk2) (s : Nat) : Ltl → Bool
  | .mk k n kids =>
    if k = 1 then true else if k = 2 then false
    else if k = 4 then !((hoBs m s kids).getD 0 false)
    else if k = 5 then (hoBs m s kids).getD 0 false && (hoBs m s kids).getD 1 false
    else if k = 6 then (hoBs m s kids).getD 0 false || (hoBs m s kids).getD 1 false
    else if k = 8 then (hoBs m s kids).getD 1 false || ((hoBs m s kids).getD 0 false && choB m s (.mk k n kids))
    else if k = 9 then (hoBs m s kids).getD 1 false && ((hoBs m s kids).getD 0 false || choB m s (.mk k n kids))
    else choB m s (.mk k n kids)
def hoBs (m : Mk2) (s : Nat) : List Ltl → List Bool
  | [] => []
  | x :: r => hoB m s x :: hoBs m s r
end
def argE (g : Ltl) : Ltl := if g.k = 7 then g.kids.getD 0 (.mk 0 0 []) else g
def nilT : Ltl := .mk 0 0 []
section
variable {m : Mk2} {s : Nat} {n : Int} {a b : Ltl}
theorem ho1 : hoB m s (.mk 1 n []) = true := by simp [hoB]
theorem ho2 : hoB m s (.mk 2 n []) = false := by simp [hoB]
theorem ho3 : hoB m s (.mk 3 n []) = s.testBit (atomI m n).toNat := by simp [hoB, choB, Ltl.k, Ltl.n]
theorem ho4 : hoB m s (.mk 4 n [a]) = !hoB m s a := by simp [hoB, hoBs]
theorem ho5 : hoB m s (.mk 5 n [a, b]) = (hoB m s a && hoB m s b) := by simp [hoB, hoBs]
theorem ho6 : hoB m s (.mk 6 n [a, b]) = (hoB m s a || hoB m s b) := by simp [hoB, hoBs]
theorem ho7 : hoB m s (.mk 7 n [a]) = s.testBit (m.1.length + (partI m (.mk 7 n [a])).toNat) := by simp [hoB, choB, Ltl.k]
theorem ho8 : hoB m s (.mk 8 n [a, b]) = (hoB m s b || (hoB m s a && s.testBit (m.1.length + (partI m (.mk 8 n [a, b])).toNat))) := by simp [hoB, hoBs, choB, Ltl.k]
theorem ho9 : hoB m s (.mk 9 n [a, b]) = (hoB m s b && (hoB m s a || s.testBit (m.1.length + (partI m (.mk 9 n [a, b])).toNat))) := by simp [hoB, hoBs, choB, Ltl.k]
end
end Go.Proofs.Ytikigaeihdmcaaa

/-
  The automaton of a formula accepts just the words that satisfy it (Vardi, Wolper): plain lists.
-/
set_option linter.unusedVariables false
set_option linter.unusedSimpArgs false
namespace Go.Proofs.Ytikigaeihdmcaaa

structure OkF (m : Mk2) (t : Ltl) : Prop where
  wf : wfT t
  h10 : hasB t 10 = false
  h11 : hasB t 11 = false
  cov : Cov m t
theorem OkF.un {m : Mk2} {k n : Int} {a : Ltl} (h : OkF m (.mk k n [a])) : OkF m a := by
  obtain ⟨h1, h2, h3, h4⟩ := h
  simp only [wfT, wfTs] at h1
  simp only [hasB, hasBs, Bool.or_eq_false_iff] at h2 h3
  simp only [Cov, Covs] at h4
  exact ⟨h1.2.2.2.2.1, h2.2.1, h3.2.1, h4.2.2.1⟩
theorem OkF.b1 {m : Mk2} {k n : Int} {a b : Ltl} (h : OkF m (.mk k n [a, b])) : OkF m a := by
  obtain ⟨h1, h2, h3, h4⟩ := h
  simp only [wfT, wfTs] at h1
  simp only [hasB, hasBs, Bool.or_eq_false_iff] at h2 h3
  simp only [Cov, Covs] at h4
  exact ⟨h1.2.2.2.2.1, h2.2.1, h3.2.1, h4.2.2.1⟩
theorem OkF.b2 {m : Mk2} {k n : Int} {a b : Ltl} (h : OkF m (.mk k n [a, b])) : OkF m b := by
  obtain ⟨h1, h2, h3, h4⟩ := h
  simp only [wfT, wfTs] at h1
  simp only [hasB, hasBs, Bool.or_eq_false_iff] at h2 h3
  simp only [Cov, Covs] at h4
  exact ⟨h1.2.2.2.2.2.1, h2.2.2.1, h3.2.2.1, h4.2.2.2.1⟩
/-- elements that are closed -/
structure OkT (m : Mk2) : Prop where
  ok : OkM m
  clo : Clo m m
theorem part_shape {g : Ltl} (hw : wfT g) (hk : g.k = 7 ∨ g.k = 8 ∨ g.k = 9) : (∃ a, g = .mk 7 0 [a]) ∨ ∃ k a b, (k = 8 ∨ k = 9) ∧ g = .mk k 0 [a, b] := by
  obtain ⟨k, n, kids⟩ := g
  simp only [Ltl.k] at hk
  simp only [wfT] at hw
  obtain ⟨h1, _, _, h4, _⟩ := hw
  have hn : n = 0 := h4 (by omega)
  subst hn
  rcases hk with rfl | rfl | rfl
  · have : kids.length = 1 := by simp [kidsK] at h1; omega
    obtain ⟨a, rfl⟩ := List.length_eq_one_iff.1 this
    exact .inl ⟨a, rfl⟩
  · have : kids.length = 2 := by simp [kidsK] at h1; omega
    match kids, this with
    | [a, b], _ => exact .inr ⟨8, a, b, .inl rfl, rfl⟩
  · have : kids.length = 2 := by simp [kidsK] at h1; omega
    match kids, this with
    | [a, b], _ => exact .inr ⟨9, a, b, .inr rfl, rfl⟩
theorem OkT.part {m : Mk2} (h : OkT m) {g : Ltl} (hg : g ∈ m.2) : OkF m g := ⟨(h.ok.wp g hg).1, (h.ok.wp g hg).2.2.1, (h.ok.wp g hg).2.2.2, h.clo g hg⟩
theorem OkT.arg {m : Mk2} (h : OkT m) {g : Ltl} (hg : g ∈ m.2) : OkF m (argE g) := by
  have h1 := h.part hg
  rcases part_shape h1.wf (h.ok.wp g hg).2.1 with ⟨a, rfl⟩ | ⟨k, a, b, hk, rfl⟩
  · exact h1.un
  · unfold argE
    rw [if_neg (by simp only [Ltl.k]; omega)]
    exact h1
abbrev numN (m : Mk2) : Nat := m.1.length + m.2.length
section
variable {m : Mk2} {L : Nat → Nat}
open Classical in
/-- the state that tells the truth -/
noncomputable def sigN (L : Nat → Nat) (m : Mk2) (i : Nat) : Nat :=
  packB (fun j => if j < m.1.length then (L i).testBit (m.1.getD j 0).toNat else decide (sem L (argE (m.2.getD (j - m.1.length) nilT)) (i + 1))) (numN m)
end
end Go.Proofs.Ytikigaeihdmcaaa

/-
  lasso.Holds; the small makers of formulas.
-/
set_option linter.unusedVariables false
set_option linter.unusedSimpArgs false
namespace Go.Proofs.Ytikigaeihdmcaaa
open Go.RowKit

/-- a formula that stands in memory -/
def RL (w : World) (v : Value) (t : Ltl) : Prop := Rd w (Old w) v t
theorem RL.ext {w w' : World} {v : Value} {t : Ltl} (h : RL w v t) (hE : Ext w w') : RL w' v t := Rd.mono h (fun b hb => hE.block b hb) (fun b hb => Nat.lt_of_lt_of_le hb hE.size)
end Go.Proofs.Ytikigaeihdmcaaa

/-
  Package push walked, first part: small functions; lists of formulas that grow.
-/
set_option linter.unusedVariables false
set_option linter.unusedSimpArgs false
namespace Go.Proofs.Ytikigaeihdmcaaa
open Go.RowKit

/-- new blocks -/
def Nw (w w' : World) : Nat → Prop := fun b => w.heap.size ≤ b ∧ b < w'.heap.size
theorem Nw.lt {w w' : World} : ∀ b, Nw w w' b → b < w'.heap.size := fun _ h => h.2
theorem Nw.mono {a b c d : World} (h1 : a.heap.size ≤ b.heap.size) (h2 : c.heap.size ≤ d.heap.size) : ∀ x, Nw b c x → Nw a d x := fun x h => ⟨Nat.le_trans h1 h.1, Nat.lt_of_lt_of_le h.2 h2⟩
/-- behind a change of one block that is not met -/
theorem Rd.kept {α : Type} [Rep α] {w w' : World} {F : Nat → Prop} {v : Value} {x : α} {row : Option Nat} (h : Rd w F v x) (hg : w.grownBy w' row) (hF : ∀ b, F b → b < w.heap.size ∧ some b ≠ row) : Rd w' F v x :=
  h.mono (fun b hb => hg.block b (hF b hb).1 (hF b hb).2) fun _ h => h
theorem Rd.wk {α : Type} [Rep α] {w : World} {F F' : Nat → Prop} {v : Value} {x : α} (h : Rd w F v x) (hF : ∀ b, F b → F' b) : Rd w F' v x := h.mono (fun _ _ => rfl) hF
/-- the world but for one block -/
def SO (r : Nat) (w : World) : World → Prop := fun x => w.heap.size ≤ x.heap.size ∧ ∀ b, b ≠ r → b < w.heap.size → x.heap[b]? = w.heap[b]?
theorem SO.refl (r : Nat) (w : World) : SO r w w := ⟨Nat.le_refl _, fun _ _ _ => rfl⟩
theorem SO.ext {r : Nat} {w x y : World} (h : SO r w x) (hE : Ext x y) : SO r w y := ⟨Nat.le_trans h.1 hE.size, fun b h1 h2 => (hE.block b (Nat.lt_of_lt_of_le h2 h.1)).trans (h.2 b h1 h2)⟩
theorem SO.st {r : Nat} {w x y : World} (h : SO r w x) (hg : x.grownBy y (some r)) : SO r w y := ⟨Nat.le_trans h.1 hg.size, fun b h1 h2 => (hg.block b (Nat.lt_of_lt_of_le h2 h.1) (fun e => h1 (by cases e; rfl))).trans (h.2 b h1 h2)⟩

/- A LIST OF FORMULAS THAT GROWS: all that it meets is at B or behind -/
section
variable {α : Type} [Rep α]
def Grow (B : Nat) (e : TypeId) (w : World) (v : Value) (xs : List α) : Prop := ∃ F, (∀ b, F b → B ≤ b ∧ b < w.heap.size) ∧ Own w B e F v xs
variable {B : Nat} {e : TypeId} {w w' : World} {v : Value} {xs : List α}
theorem Grow.nil : Grow B e w (.slice none 0 0) ([] : List α) := ⟨Non, fun _ h => h.elim, Own.nil⟩
theorem Grow.ext (h : Grow B e w v xs) (hE : Ext w w') : Grow B e w' v xs := by
  obtain ⟨F, h1, h2⟩ := h
  exact ⟨F, fun b hb => ⟨(h1 b hb).1, Nat.lt_of_lt_of_le (h1 b hb).2 hE.size⟩, h2.ext hE fun b hb => (h1 b hb).2⟩
theorem Grow.kept {r : Nat} (h : Grow B e w v xs) (hg : w.grownBy w' (some r)) (hr : r < B) : Grow B e w' v xs := by
  obtain ⟨F, h1, h2⟩ := h
  refine ⟨F, fun b hb => ⟨(h1 b hb).1, Nat.lt_of_lt_of_le (h1 b hb).2 hg.size⟩, h2.kept hg (fun g hgo e => ?_) (fun b hb => ⟨(h1 b hb).2, fun e => ?_⟩)⟩
  · have := (h2.lt g hgo).1; cases e; omega
  · have := (h1 b hb).1; cases e; omega
theorem Grow.lt (h : Grow B e w v xs) : ∀ g, v.ownBlock = some g → B ≤ g ∧ g < w.heap.size := by
  obtain ⟨F, h1, h2⟩ := h
  exact fun g hg => ⟨(h2.lt g hg).1, (h2.lt g hg).2.1⟩
theorem Grow.sl (h : Grow B e w v xs) : ∃ ao cap, v = .slice ao xs.length cap ∧ Sl w (fun b => B ≤ b ∧ b < w.heap.size) ao cap xs := by
  obtain ⟨F, h1, h2⟩ := h
  exact h2.slF (fun b hb => h1 b hb) (fun g hg => ⟨(h2.lt g hg).1, (h2.lt g hg).2.1⟩)
/-- ready for one more, that meets Fu -/
theorem Grow.open (h : Grow B e w v xs) {Fu : Nat → Prop} (hFu : ∀ b, Fu b → B ≤ b ∧ b < w.heap.size) (hn : ∀ g, v.ownBlock = some g → ¬ Fu g) : ∃ F, (∀ b, F b → B ≤ b ∧ b < w.heap.size) ∧ Own w B e F v xs ∧ (∀ b, Fu b → F b) := by
  obtain ⟨F, h1, h2⟩ := h
  refine ⟨fun b => F b ∨ Fu b, fun b hb => hb.elim (h1 b) (hFu b), h2.wk (fun b hb => .inl hb) (fun g hg hb => ?_), fun b hb => .inr hb⟩
  exact hb.elim (h2.lt g hg).2.2 (hn g hg)
end

end Go.Proofs.Ytikigaeihdmcaaa

/-
  Package push walked, second part: Same, SameLtl, Size.
-/
set_option linter.unusedVariables false
set_option linter.unusedSimpArgs false
namespace Go.Proofs.Ytikigaeihdmcaaa
open Go.RowKit

end Go.Proofs.Ytikigaeihdmcaaa

/-
  Package push walked, third part: nots.
-/
set_option linter.unusedVariables false
set_option linter.unusedSimpArgs false
namespace Go.Proofs.Ytikigaeihdmcaaa
open Go.RowKit

/-- what is stored into the result's cell, and that it is returned -/
theorem Rd.cells {w : World} {F : Nat → Prop} {v : Value} {t : Ltl} (h : Rd w F v t) : ∃ ao cap, v = .agg [.int .i64 t.k, .int .i64 t.n, .slice ao t.kids.length cap].toArray ∧ Sl w F ao cap t.kids := Rd.ltl h
end Go.Proofs.Ytikigaeihdmcaaa

/-
  Package push walked, fourth part: plain; told; Nots, Plain.
-/
set_option linter.unusedVariables false
set_option linter.unusedSimpArgs false
namespace Go.Proofs.Ytikigaeihdmcaaa
open Go.RowKit

end Go.Proofs.Ytikigaeihdmcaaa

/-
  slices.Sort at []int: the kit's proof, over our own rows.
-/
set_option linter.unusedVariables false
set_option linter.unusedSimpArgs false
namespace Go.Proofs.Ytikigaeihdmcaaa
open Go.RowKit Go.Shelf

end Go.Proofs.Ytikigaeihdmcaaa

/-
  What Make answers. Plain lists.
-/
set_option linter.unusedVariables false
set_option linter.unusedSimpArgs false
namespace Go.Proofs.Ytikigaeihdmcaaa

end Go.Proofs.Ytikigaeihdmcaaa

/-
  What Make answers: how big, and what Accepts says of it. Plain.
-/
set_option linter.unusedVariables false
set_option linter.unusedSimpArgs false
namespace Go.Proofs.Ytikigaeihdmcaaa
open Go.RowKit

end Go.Proofs.Ytikigaeihdmcaaa

/-
  Formulas without LNext do not see that a letter comes twice. Plain law, no program in sight.
-/
set_option linter.unusedVariables false
set_option linter.unusedSimpArgs false
namespace Go.Proofs.Ytikigaeihdmcaaa
open Go.RowKit

/-- a walk that goes on by one or waits, and goes on again and again -/
structure Stut (φ : Nat → Nat) : Prop where
  step : ∀ j, φ (j + 1) = φ j ∨ φ (j + 1) = φ j + 1
  far : ∀ j, ∃ d, φ (j + d) ≠ φ j
theorem step_mono {φ : Nat → Nat} (h : ∀ j, φ (j + 1) = φ j ∨ φ (j + 1) = φ j + 1) (j d : Nat) : φ j ≤ φ (j + d) := by
  induction d with
  | zero => exact Nat.le_refl _
  | succ d ih => rcases h (j + d) with e | e <;> (rw [← Nat.add_assoc, e]; omega)
theorem Stut.mono {φ : Nat → Nat} (h : Stut φ) (j d : Nat) : φ j ≤ φ (j + d) := step_mono h.step j d
theorem Stut.next {φ : Nat → Nat} (h : Stut φ) (j : Nat) : ∃ d, φ (j + d + 1) = φ j + 1 ∧ ∀ x, x ≤ d → φ (j + x) = φ j := by
  obtain ⟨d, hd⟩ := h.far j
  induction d generalizing j with
  | zero => exact absurd rfl hd
  | succ d ih =>
    by_cases e : φ (j + d) = φ j
    · clear ih
      induction d with
      | zero =>
        rcases h.step j with e1 | e1
        · exact absurd e1 hd
        · exact ⟨0, e1, fun x hx => by rw [show x = 0 by omega]; rfl⟩
      | succ d ih2 =>
        by_cases e2 : ∃ x, x ≤ d ∧ φ (j + x) ≠ φ j
        · obtain ⟨x, hx, hne⟩ := e2
          have h1 := h.mono j x
          have h2 := h.mono (j + x) (d + 1 - x)
          rw [show j + x + (d + 1 - x) = j + (d + 1) by omega, e] at h2
          omega
        · refine ⟨d + 1, ?_, fun x hx => ?_⟩
          · rcases h.step (j + (d + 1)) with e1 | e1
            · rw [e] at e1; exact absurd e1 hd
            · rw [e] at e1; exact e1
          · by_cases hx1 : x ≤ d
            · exact Classical.byContradiction fun hne => e2 ⟨x, hx1, hne⟩
            · rw [show x = d + 1 by omega]; exact e
    · exact ih j e
end Go.Proofs.Ytikigaeihdmcaaa

/-
  A word in which one letter comes twice: what holds first stays, for formulas without LNext. Plain law.
-/
set_option linter.unusedVariables false
set_option linter.unusedSimpArgs false
namespace Go.Proofs.Ytikigaeihdmcaaa
open Go.RowKit

end Go.Proofs.Ytikigaeihdmcaaa

/-
  watchkeep.plainly: is a formula without LNext?
-/
set_option linter.unusedVariables false
set_option linter.unusedSimpArgs false
namespace Go.Proofs.Ytikigaeihdmcaaa
open Go.RowKit

end Go.Proofs.Ytikigaeihdmcaaa

/-
  Bits of signed numbers that are not below zero. Over any program.
-/
set_option linter.unusedVariables false
set_option linter.unusedSimpArgs false
namespace Go.Proofs.Ytikigaeihdmcaaa
open Go.RowKit

section
variable {P : Program} {Q : Exit → Act → World → Prop} {n : Nat} {σ : Sg} {w wc : World} {L rest : List Oper} {ord : List (Nat × Bool)} {S : World → Prop} {i d : Nat} {ty : TypeId} {pos : String} {af : Array Edge} {g : Option (Nat × Bool)} {t yt : TypeId} {x y : Operand}
end
end Go.Proofs.Ytikigaeihdmcaaa

/-
  Package tableau: part, chosen, holds, owed, kept, bits, fair: walked.
-/
set_option linter.unusedVariables false
set_option linter.unusedSimpArgs false
namespace Go.Proofs.Ytikigaeihdmcaaa
open Go.RowKit

end Go.Proofs.Ytikigaeihdmcaaa

/-
  Package tableau: kept, bits, fair: walked.
-/
set_option linter.unusedVariables false
set_option linter.unusedSimpArgs false
namespace Go.Proofs.Ytikigaeihdmcaaa
open Go.RowKit

end Go.Proofs.Ytikigaeihdmcaaa

/-
  Drawn regions with a turning point, at whose end two operations come in either order. Over any program.
-/
set_option linter.unusedVariables false
set_option linter.unusedSimpArgs false
namespace Go.Proofs.Ytikigaeihdmcaaa
open Go.RowKit

/- THE TWO AT THE END: i, and c -/
section
variable {P : Program} {Q : Exit → Act → World → Prop} {n : Nat} {σ : Sg} {w : World} {L : List Oper} {i c : Nat} {Sw Ss : World → Prop}
end
end Go.Proofs.Ytikigaeihdmcaaa

/-
  Package tableau: gather: walked.
-/
set_option linter.unusedVariables false
set_option linter.unusedSimpArgs false
namespace Go.Proofs.Ytikigaeihdmcaaa
open Go.RowKit

section
variable {P : Program} {Q : Exit → Act → World → Prop} {n : Nat} {σ : Sg} {w : World} {L rest : List Oper} {α : Type} [Rep α] {F : Nat → Prop} {e : TypeId} {ty : TypeId} {pos : String} {af : Array Edge} {g : Option (Nat × Bool)}
end
end Go.Proofs.Ytikigaeihdmcaaa

/-
  Package tableau: Make: walked.
-/
set_option linter.unusedVariables false
set_option linter.unusedSimpArgs false
namespace Go.Proofs.Ytikigaeihdmcaaa
open Go.RowKit

end Go.Proofs.Ytikigaeihdmcaaa

/-
  watchkeep.made: walked. TableauMeans.
-/
set_option linter.unusedVariables false
set_option linter.unusedSimpArgs false
namespace Go.Proofs.Ytikigaeihdmcaaa
open Go.RowKit

end Go.Proofs.Ytikigaeihdmcaaa

/-
  Package judge: Holds: walked.
-/
set_option linter.unusedVariables false
set_option linter.unusedSimpArgs false
namespace Go.Proofs.Ytikigaeihdmcaaa
open Go.RowKit

/-- a block without numbers is none of a list of numbers -/
theorem Sl.notB {w : World} {F : Nat → Prop} {ao : Option Addr} {cap b : Nat} {xs : List Int} {e : TypeId} {cells : List Value} (h : Sl w F ao cap xs) (hb : Blk w b e cells) (hc : ∀ (k : Nat) (x : Int), cells[k]? ≠ some (Value.int IntKind.i64 x)) : Sl w (fun c => F c ∧ c ≠ b) ao cap xs := by
  refine ⟨h.le, h.mx, h.nil, fun i hi => ?_⟩
  obtain ⟨c, off, e1, hf, es, hcl, hr⟩ := h.el i hi
  have hr' : es = [Value.int IntKind.i64 xs[i]] := hr
  refine ⟨c, off, e1, ⟨hf, fun he => ?_⟩, es, hcl, hr'⟩
  subst hr'
  have h1 := hcl 0 _ rfl
  rw [he, cell_of_row w b _ cells.toArray e (0, 0) hb] at h1
  exact hc _ _ (by simpa using h1)
end Go.Proofs.Ytikigaeihdmcaaa

/-
  Package label: lasso, after: walked.
-/
set_option linter.unusedVariables false
set_option linter.unusedSimpArgs false
namespace Go.Proofs.Ytikigaeihdmcaaa
open Go.RowKit

/-- a path that is read -/
def PathR (w : World) (v : Value) (N : Nat) : Prop := ∃ so sc lo lc s l, v = pathV so sc lo lc s l ∧ Sl w (Old w) so sc s ∧ Sl w (Old w) lo lc l ∧ s.length ≤ N ∧ l.length ≤ N
theorem PathR.up {w w' : World} {v : Value} {N : Nat} (h : PathR w v N) (hE : Ext w w') : PathR w' v N := by
  obtain ⟨so, sc, lo, lc, s, l, rfl, h1, h2, h3, h4⟩ := h
  exact ⟨so, sc, lo, lc, s, l, rfl, h1.up hE, h2.up hE, h3, h4⟩
/-- a block of two slices is none of a list of numbers -/
theorem Sl.not2 {w w' : World} {F : Nat → Prop} {ao a1 a2 : Option Addr} {cap n1 c1 n2 c2 b : Nat} {xs : List Int} {e : TypeId} (h : Sl w (Old w) ao cap xs) (hb : Blk w b e [.slice a1 n1 c1, .slice a2 n2 c2]) (hg : w.grownBy w' (some b)) : Sl w' (Old w') ao cap xs :=
  (h.notB hb (fun k x => by
    match k with
    | 0 => simp
    | 1 => simp
    | k + 2 => simp)).mono (fun c hc => hg.block c hc.1 (fun e => hc.2 (Option.some.inj e))) (fun c hc => Nat.lt_of_lt_of_le hc.1 hg.size)
instance iWit7 : IsF Try.prog 46 := ⟨_, Try.func46, rfl, by decide⟩
instance iWit8 : IsF Try.prog 47 := ⟨_, Try.func47, rfl, by decide⟩
instance iWit9 : IsF Try.prog 62 := ⟨_, Try.func62, rfl, by decide⟩
set_option maxHeartbeats 2000000 in
theorem llasso_ok (w0 : World) {b : Nat} {nx fr : Graph} {lb : List Nat} (hL : LabAt w0 b nx lb fr) {io : Option Addr} {ic : Nat} {inn : List Bool} {n : Nat} (hin : Sl w0 (Old w0) io ic inn) (hW : WOk nx fr) (hf80 : fr.length ≤ 80) (hn0 : n < nx.length) (hil : inn.length = nx.length)
    (hr : ∃ r, r 0 = n ∧ Way8 (Eg (inG nx inn)) (setPs fr) r) :
    Rt Try.prog 46 [labP b, .int .i64 (n : Int), .slice io inn.length ic].toArray w0 fun v w' => PathR w' v 100000 ∧ Ext w0 w' := by
  have hL0 := hL
  obtain ⟨a1, c1, n1, a2, c2, a3, c3, a4, c4, ao, ac, bo, bc, hblk, h2, h3, h4, h5, h6⟩ := hL
  clear h3 h4 h5 h6
  have hm2 := h2.len63
  have hn6 := hW.n
  have hok := hW.g
  have hT := hW.e
  refine Rt.enter3 Try.func46 Try.ntmps46 rfl rfl ?_
  (repeat (first | (apply CW.seq) | (apply CW.region)))
  refine WL.alloc rfl rfl (fun w1 hb6 e1 => ?_)
  have l6 := hb6.lt
  have hblk1 := hblk.ext e1
  (repeat (first | (apply WL.pure; rfl; rfl; rfl) | (apply WL.nil) | (apply EX.thenN) | (apply CW.seq) | (apply CW.region) | (apply WL.lenS; rfl; rfl; rfl) | (apply WL.fa; rfl; rfl; rfl) | (apply WL.nck; rfl; rfl; rfl) | (apply WL.ld; rfl; rfl; rfl; assumption; rfl)))
  refine WL.make (α := Raw) rfl rfl rfl rfl (by omega) (by unfold maxLen; omega) (fun w2 ho2 hg2 => ?_)
  have e2 : Ext w1 w2 := (Below.refl _ _).grown hg2 (Nat.le_refl _) (fun k h => by cases h)
  generalize hsv : Value.slice (some ⟨w1.heap.size, 0, none⟩) nx.length nx.length = sv at *
  have hN2 : OwnN w2 w1.heap.size 22 3 sv _ (List.replicate nx.length ([] : List Int)) := OwnN.made ho2
  rw [← gridP_start (full := inFull nx inn)] at hN2
  have hblk2 := hblk1.ext e2
  clear ho2 hg2 hblk1
  (repeat (first | (apply WL.pure; rfl; rfl; rfl) | (apply WL.nil) | (apply EX.thenN) | (apply CW.seq) | (apply CW.region) | (apply WL.lenS; rfl; rfl; rfl) | (apply WL.fa; rfl; rfl; rfl) | (apply WL.nck; rfl; rfl; rfl) | (apply WL.ld; rfl; rfl; rfl; assumption; rfl) | (apply CW.block)))
  refine CW.loop (S := Nat × List Raw) (fun s => [(0, labP b), (1, .int .i64 (n : Int)), (2, .slice io inn.length ic), (6, .pointer (some ⟨w0.heap.size, 0, none⟩)), (7, sv), (29, .slice a2 nx.length c2), (30, .int .i64 nx.length), (31, .int .i64 s.1)])
    (fun s w => s.1 ≤ nx.length ∧ OwnN w w1.heap.size 22 3 sv s.2 (gridP nx.length (inFull nx inn) s.1 []) ∧ Ext w1 w) (fun s => nx.length - s.1) (0, _) (by repeat (first | exact trivial | refine ⟨rfl, ?_⟩)) ⟨Nat.zero_le _, hN2, e2⟩ ?_
  clear hN2 e2 hblk2
  rintro ⟨k, vs⟩ w3 ⟨hn3, hN, e3⟩
  dsimp only at hn3 hN e3 ⊢
  have hE3 := e1.trans e3
  (repeat (first | (apply WL.pure; rfl; rfl; rfl) | (apply WL.nil) | (apply EX.thenN) | (apply CW.seq) | (apply CW.region)))
  refine CW.cond rfl (fun h => ?_) (fun h => ?_)
  · have hn' : k < nx.length := by simp at h; omega
    clear h
    have hni : k < inn.length := by omega
    have erow : nx.getD k [] = nx[k] := wgetDG hn'
    have hre := edges_row hn'
    (repeat (first | (apply WL.pure; rfl; rfl; rfl) | (apply EX.thenN) | (apply CW.seq) | (apply CW.region) | (apply CW.block) | (apply CW.skip)))
    refine WL.elemN rfl rfl rfl rfl rfl (h2.at hE3) hn' (fun _ => rfl) (fun u q hu => ?_)
    obtain ⟨ro, rc, rfl, hrow⟩ := hu.sl
    have hrl := hrow.len63
    (repeat (first | (apply WL.pure; rfl; rfl; rfl) | (apply WL.nil) | (apply EX.thenN) | (apply CW.seq) | (apply CW.region) | (apply WL.lenS; rfl; rfl; rfl) | (apply CW.block)))
    refine CW.loop (S := Nat × List Raw) (fun s => [(0, labP b), (1, .int .i64 (n : Int)), (2, .slice io inn.length ic), (6, .pointer (some ⟨w0.heap.size, 0, none⟩)), (7, sv), (8, .int .i64 k), (29, .slice a2 nx.length c2), (30, .int .i64 nx.length), (31, .int .i64 k), (36, .slice ro nx[k].length rc), (37, .int .i64 nx[k].length), (38, .int .i64 s.1)])
      (fun s w => s.1 ≤ nx[k].length ∧ OwnN w w1.heap.size 22 3 sv s.2 (gridP nx.length (inFull nx inn) k (inRow nx inn k s.1)) ∧ Ext w1 w) (fun s => nx[k].length - s.1) (0, vs) (by repeat (first | exact trivial | refine ⟨rfl, ?_⟩)) ⟨Nat.zero_le _, by show OwnN _ _ _ _ _ _ (gridP _ _ _ (inRow nx inn k 0)); rw [show inRow nx inn k 0 = [] by simp [inRow]]; exact hN, e3⟩ ?_
    rintro ⟨j, vs⟩ w4 ⟨hj, hN, e4⟩
    dsimp only at hj hN e4 ⊢
    have hE4 := e1.trans e4
    have hrow4 : Sl w4 (Old w0) ro rc nx[k] := hrow.mono (fun b hb => (hE4.block b hb).trans (hE3.block b hb).symm) (fun _ h => h)
    have hin4 := hin.at hE4
    (repeat (first | (apply WL.pure; rfl; rfl; rfl) | (apply WL.nil) | (apply EX.thenN) | (apply CW.seq) | (apply CW.region)))
    refine CW.cond rfl (fun h => ?_) (fun h => ?_)
    · have hj' : j < nx[k].length := by simp at h; omega
      clear h
      have hto := hok _ (List.getElem_mem hn') _ (List.getElem_mem hj')
      obtain ⟨to, eto⟩ := Int.eq_ofNat_of_zero_le hto.1
      have hti : to < inn.length := by omega
      have hnext := inRow_next (nx := nx) (inn := inn) (n := k) (j := j) (by rw [erow]; exact hj')
      have hgj : (nx.getD k [])[j]'(by rw [erow]; exact hj') = (to : Int) := by simp only [erow]; exact eto
      rw [hgj, Int.toNat_natCast] at hnext
      have hlen := hN.len
      rw [gridP_len] at hlen
      have hnv : k < vs.length := by omega
      have hin' := hN.inn k hnv (by rw [gridP_len]; exact hn')
      rw [gridP_get hn'] at hin'
      have hil2 : (inRow nx inn k j).length ≤ nx[k].length := by
        unfold inRow; rw [erow]
        exact Nat.le_trans (List.length_filter_le _ _) (by rw [List.length_take]; omega)
      (repeat (first | (apply EX.thenN) | (apply CW.seq) | (apply CW.region) | (apply CW.block) | (apply CW.skip)))
      refine WL.elemI rfl rfl rfl rfl rfl hrow4 hj' eto (fun _ => rfl) (fun q => ?_)
      (repeat (first | (apply WL.pure; rfl; rfl; rfl) | (apply WL.nil) | (apply EX.thenN) | (apply CW.seq) | (apply CW.region)))
      refine WL.elemB rfl rfl rfl rfl rfl hin4 hni (wgetB hni).symm (fun _ => rfl) (fun q => ?_)
      have skipc : (inn.getD k false && inn.getD to false) = false → OwnN w4 w1.heap.size 22 3 sv vs (gridP nx.length (inFull nx inn) k (inRow nx inn k (j + 1))) := fun h => by
        rw [hnext, if_neg (by rw [h]; simp), List.append_nil]; exact hN
      by_cases hc1 : inn.getD k false = true
      · rw [hc1]
        (repeat (apply WL.pure; rfl; rfl; rfl))
        refine WL.elemB rfl rfl rfl rfl rfl hin4 hti (wgetB hti).symm (fun _ => rfl) (fun q => ?_)
        by_cases hc2 : inn.getD to false = true
        · rw [hc2]
          rw [if_pos (by rw [hc1, hc2]; rfl)] at hnext
          (repeat (first | (apply WL.pure; rfl; rfl; rfl) | (apply WL.nil) | (apply EX.thenN) | (apply CW.region) | (apply CW.condT; rfl)))
          refine WL.elemON rfl rfl rfl rfl rfl hN.out hnv (fun _ => rfl) (fun u q hu => ?_)
          obtain ⟨rfl, _⟩ := hu.raw
          (repeat (apply WL.pure; rfl; rfl; rfl))
          refine WL.app1 (F := Non) (yv := (to : Int)) rfl rfl (fun _ => rfl) rfl rfl (fun _ => rfl) hin' (Rd.mkInt _ _ _) e4.size (fun _ h => h.elim) (by decide) (by unfold maxLen; omega) (by omega) (fun v' w5 p ho5 hg5 hnb => ?_)
          rw [← hnext] at ho5
          have hmid := hN.mid hnv hg5
          skip
          refine WL.setN (u := v') (yv := ⟨v'⟩) rfl rfl rfl rfl hmid hnv (fun _ => rfl) (fun _ => rfl) (Rd.mkRaw _ _ _ ?_) (fun w6 q ho6 hg6 => ?_)
          · obtain ⟨a, b, rfl⟩ := ho5.val; rfl
          have hN6 := hN.set hnv ho5 hg5 hnb ho6 hg6
          rw [gridP_set hn'] at hN6
          have e6 : Ext w1 w6 := (e4.grown hg5 e4.size (fun b hb => (hin'.lt b hb).1)).grown hg6 (Nat.le_trans e4.size hg5.size) (fun b hb => (hN.out.lt b hb).1)
          (repeat (first | (apply WL.add; rfl; rfl; rfl; rfl; omega; omega) | (apply WL.pure; rfl; rfl; rfl) | (apply WL.nil) | (apply EX.thenN) | (apply CW.region) | (apply EX.inN)))
          exact EX.back (j + 1, vs.set k ⟨v'⟩) (by repeat (first | exact trivial | refine ⟨rfl, ?_⟩)) ⟨hj', hN6, e6⟩ (by dsimp only; omega)
        · have hc2 : inn.getD to false = false := by simpa using hc2
          rw [hc2]
          (repeat (first | (apply WL.add; rfl; rfl; rfl; rfl; omega; omega) | (apply WL.pure; rfl; rfl; rfl) | (apply WL.nil) | (apply EX.thenN) | (apply CW.region) | (apply EX.inN) | (apply CW.condF; rfl) | (apply CW.skip)))
          exact EX.back (j + 1, vs) (by repeat (first | exact trivial | refine ⟨rfl, ?_⟩)) ⟨hj', skipc (by rw [hc2, Bool.and_false]), e4⟩ (by dsimp only; omega)
      · have hc1 : inn.getD k false = false := by simpa using hc1
        rw [hc1]
        (repeat (first | (apply WL.add; rfl; rfl; rfl; rfl; omega; omega) | (apply WL.pure; rfl; rfl; rfl) | (apply WL.nil) | (apply EX.thenN) | (apply CW.region) | (apply WL.pass; rfl; rfl) | (apply EX.inN) | (apply CW.condF; rfl) | (apply CW.skip)))
        exact EX.back (j + 1, vs) (by repeat (first | exact trivial | refine ⟨rfl, ?_⟩)) ⟨hj', skipc (by rw [hc1, Bool.false_and]), e4⟩ (by dsimp only; omega)
    · obtain rfl : j = nx[k].length := by simp at h; omega
      (repeat (first | (apply WL.add; rfl; rfl; rfl; rfl; omega; omega) | (apply WL.pure; rfl; rfl; rfl) | (apply WL.nil) | (apply EX.thenN) | (apply CW.region) | (apply EX.inN) | (apply CW.exit) | (apply EX.thenX) | (apply EX.inX)))
      refine EX.back (k + 1, vs) (by repeat (first | exact trivial | refine ⟨rfl, ?_⟩)) ⟨hn', ?_, e4⟩ (by dsimp only; omega)
      rw [← erow, inRow_full, gridP_next] at hN
      exact hN
  obtain rfl : k = nx.length := by simp at h; omega
  rw [gridP_done] at hN
  have hgG : (List.range nx.length).map (inFull nx inn) = inG nx inn := rfl
  rw [hgG] at hN
  have hgl := inG_len (nx := nx) (inn := inn)
  have hgok := inG_ok (inn := inn) hok
  have hge := inG_edges (nx := nx) (inn := inn)
  obtain ⟨go, gc, rfl, hg⟩ := hN.old.sl
  have hfr' : ∀ F ∈ fr, okL (inG nx inn).length F := by rw [hgl]; exact hW.f
  have hb6 := hb6.ext e3
  clear h hn3 hN
  (repeat (first | (apply WL.pure; rfl; rfl; rfl) | (apply EX.thenN) | (apply CW.seq) | (apply CW.region) | (apply CW.exit) | (apply EX.thenX) | (apply EX.inX)))
  refine WL.call rfl rfl rfl (Split_ok w3 hg (fun _ h => h) hgok (by omega)) ?_
  rintro _ w4 ⟨part, hop, hP, e4⟩
  have hE4 := hE3.trans e4
  have hb6 := hb6.ext e4
  have hg := hg.up e4
  obtain ⟨po, pc, rfl, hp⟩ := hop.oldN.sl
  (repeat (first | (apply WL.pure; rfl; rfl; rfl) | (apply WL.nil) | (apply EX.thenN) | (apply CW.seq) | (apply CW.region)))
  refine WL.call rfl rfl rfl (lgood_ok w4 (hL0.up hE4) hg hp (hin.up hE4) hgok hP hgl hn6 hfr' hil) ?_
  rintro _ w5 ⟨hgo, e5⟩
  have hE5 := hE4.trans e5
  have hb6 := hb6.ext e5
  have hp := hp.up e5
  have hg := hg.up e5
  have hbl := boolsN_len (n := nx.length) (P := fun k => inn.getD k false = true ∧ GoodPt (inG nx inn) part fr k)
  have hbi : ∀ i, i < nx.length → ((boolsN nx.length fun k => inn.getD k false = true ∧ GoodPt (inG nx inn) part fr k).getD i false = true ↔ inn.getD i false = true ∧ GoodPt (inG nx inn) part fr i) := fun i hi => boolsN_iff hi
  generalize (boolsN nx.length fun k => inn.getD k false = true ∧ GoodPt (inG nx inn) part fr k) = good at *
  obtain ⟨oo, oc, rfl, hgd⟩ := hgo.oldN.sl
  clear hgo hop
  (repeat (first | (apply WL.pure; rfl; rfl; rfl) | (apply WL.nil) | (apply EX.thenN) | (apply CW.seq) | (apply CW.region)))
  refine WL.litR [(n : Int)] rfl rfl rfl rfl rfl ⟨Rd.mkInt _ _ _, trivial⟩ (by show 1 * 1 ≤ 16777216; decide) (fun u w6 e6 hu _ => ?_)
  obtain ⟨fo, fc, rfl, hf⟩ := hu.sl
  (repeat (apply WL.pure; rfl; rfl; rfl))
  refine WL.call rfl rfl rfl (Way_ok w6 (g := inG nx inn) (f := [(n : Int)]) (to := good) (hg.up e6) hf (hgd.up e6)) ?_
  rintro _ w7 ⟨v, rfl, hov, e7⟩
  obtain ⟨hw0, hsh⟩ := way_found hgok (by omega) (f := [(n : Int)]) (to := good) (fun y hy => by rw [List.mem_singleton] at hy; subst hy; exact ⟨by omega, by omega⟩) (by omega) (by
    obtain ⟨r, r0, hr⟩ := hr
    obtain ⟨v, i, hi, hrc, hG⟩ := lasso_good hgok hP hr (by rw [r0, hgl]; exact hn0)
    have hvl : v < nx.length := by have := hG.lt; omega
    refine ⟨v, hG.lt, (rch1 hgok).2 (by rw [← r0]; exact hrc), (hbi v hvl).2 ⟨?_, hG⟩⟩
    rw [← hi]
    exact (inG_edge.1 (hr.1 i)).2.1)
  have hwl := wayF_len (g := inG nx inn) (f := [(n : Int)]) (to := good)
  generalize (wayF (inG nx inn) [(n : Int)] good).1 = wy at *
  have hE7 := hE5.trans (e6.trans e7)
  have hb6 := hb6.ext (e6.trans e7)
  have hp := hp.up (e6.trans e7)
  have hg := hg.up (e6.trans e7)
  have hlast := hsh.last (wy.length - 1) (by omega)
  have hlr := hsh.inR (wy.length - 1) (by omega)
  rw [decide_eq_true rfl] at hlast
  obtain ⟨m, hm⟩ := Int.eq_ofNat_of_zero_le hlr.1
  rw [hm, Int.toNat_natCast] at hlast
  have hml : m < nx.length := by omega
  have hG := ((hbi m hml).1 hlast).2
  clear hlast hbi hf hu hgd e4 e5 e6 e7
  obtain ⟨wo, wc, rfl, hws⟩ := hov.oldN.sl
  (repeat (first | (apply WL.sub'; rfl; rfl; rfl; rfl; omega; omega) | (apply WL.pure; rfl; rfl; rfl) | (apply WL.nil) | (apply EX.thenN) | (apply CW.seq) | (apply CW.region) | (apply WL.lenS; rfl; rfl; rfl)))
  refine WL.elemI (i := wy.length - 1) rfl rfl rfl rfl (by rw [show ((wy.length - 1 : Nat) : Int) = (wy.length : Int) - 1 by omega]; rfl) hws (by omega) hm (fun _ => rfl) (fun q => ?_)
  skip
  refine WL.call rfl rfl rfl (lround_ok w7 (hL0.up hE7) hg hp hgok hP (by omega) hfr' hG hf80 (by omega)) ?_
  rintro rv w8 ⟨out, hol, hor, e8⟩
  obtain ⟨ro, rc, rfl, hrs⟩ := hor.oldN.sl
  have hE8 := hE7.trans e8
  have hb6 := hb6.ext e8
  have hov := hov.extN e8
  (repeat (first | (apply WL.sub'; rfl; rfl; rfl; rfl; omega; omega) | (apply WL.pure; rfl; rfl; rfl) | (apply WL.nil) | (apply EX.thenN) | (apply CW.seq) | (apply CW.region) | (apply WL.lenS; rfl; rfl; rfl)))
  refine WL.cutHiO (k := wy.length - 1) (by omega) rfl rfl rfl rfl hov (by omega) (fun v' hov' hob' => ?_)
  obtain ⟨so, sc, rfl, hss⟩ := hov'.oldN.sl
  (repeat (apply WL.pure; rfl; rfl; rfl))
  refine WL.build (parts := [(0, _), (1, _)]) rfl rfl rfl rfl ?_
  skip
  refine WL.st rfl rfl rfl hb6 rfl rfl (ones_of rfl) (fun w9 hb9 hg9 => ?_)
  have hE9 : Ext w0 w9 := hE8.grown hg9 hE8.size (fun g hg => by cases hg; exact Nat.le_refl _)
  (repeat (first | (apply WL.nil) | (apply EX.thenN) | (apply CW.ret)))
  exact EX.retC rfl rfl hb9 rfl ⟨⟨_, _, _, _, _, _, rfl, Sl.not2 (F := Old w8) hss hb6 hg9, Sl.not2 (F := Old w8) hrs hb6 hg9, by rw [List.length_take]; omega, hol⟩, hE9⟩
theorem lafter1 (w : World) (x : Value) : Rt Try.prog 62 [x].toArray w fun v w' => v = .bool true ∧ Ext w w' := by
  refine Rt.enter1 Try.func62 Try.ntmps62 rfl rfl ?_
  (repeat (first | (apply WL.pure; rfl; rfl; rfl) | (apply WL.nil) | (apply EX.thenN) | (apply CW.seq) | (apply CW.region) | (apply CW.ret)))
  exact EX.ret1 rfl rfl ⟨rfl, Ext.refl _⟩
theorem all_way {nx fr : Graph} (hok : okG nx) {n : Nat} (h : fairP nx fr n) : ∃ r, r 0 = n ∧ Way8 (Eg (inG nx (boolsN nx.length fun _ => True))) (setPs fr) r := by
  obtain ⟨r, r0, hr⟩ := h
  have hl : ∀ i, r i < nx.length → (boolsN nx.length fun _ => True).getD (r i) false = true := fun i hi => (boolsN_iff hi).2 trivial
  have hb : ∀ i, r i < nx.length := fun i => hr.lt hok i
  exact ⟨r, r0, fun i => inG_edge.2 ⟨hr.1 i, hl i (hb i), hl (i + 1) (hb (i + 1))⟩, hr.2⟩
set_option maxHeartbeats 1000000 in
theorem lafter_ok (w0 : World) {b : Nat} {nx fr : Graph} {lb : List Nat} (hL : LabAt w0 b nx lb fr) {yo : Option Addr} {yc : Nat} {wy : List Int} {m : Nat} (hy : Sl w0 (Old w0) yo yc wy) (hW : WOk nx fr) (hf80 : fr.length ≤ 80) (h0 : 0 < wy.length) (hwl : wy.length ≤ 100000) (hm : wy[wy.length - 1] = (m : Int)) (hml : m < nx.length) (hr : fairP nx fr m) :
    Rt Try.prog 47 [labP b, .slice yo wy.length yc].toArray w0 fun v w' => PathR w' v 200000 ∧ Ext w0 w' := by
  refine Rt.enter2 Try.func47 Try.ntmps47 rfl rfl ?_
  (repeat (first | (apply CW.seq) | (apply CW.region)))
  refine WL.alloc rfl rfl (fun w1 hb4 e1 => ?_)
  have l4 := hb4.lt
  (repeat (first | (apply WL.pure; rfl; rfl; rfl) | (apply WL.nil) | (apply EX.thenN) | (apply CW.seq) | (apply CW.region)))
  refine WL.call rfl rfl rfl (each_ok w1 (hL.up e1) hW.n (P := fun _ => True) (fun x k hx hk => FnV.mk (cs := []) (Calls.mono (lafter1 x _) ?_))) ?_
  · rintro e w' ⟨v, rfl, rfl, hE'⟩
    exact ⟨_, rfl, _, rfl, by simp, hE'⟩
  rintro _ w2 ⟨hov, e2⟩
  have hE2 := e1.trans e2
  have hb4 := hb4.ext e2
  have hbl := boolsN_len (n := nx.length) (P := fun _ => True)
  have hway := all_way hW.g hr
  generalize (boolsN nx.length fun _ => True) = all at *
  obtain ⟨oo, oc, rfl, hos⟩ := hov.oldN.sl
  (repeat (first | (apply WL.sub'; rfl; rfl; rfl; rfl; omega; omega) | (apply WL.pure; rfl; rfl; rfl) | (apply WL.nil) | (apply EX.thenN) | (apply CW.seq) | (apply CW.region) | (apply WL.lenS; rfl; rfl; rfl)))
  refine WL.elemI (i := wy.length - 1) rfl rfl rfl rfl (by rw [show ((wy.length - 1 : Nat) : Int) = (wy.length : Int) - 1 by omega]; rfl) (hy.up hE2) (by omega) hm (fun _ => rfl) (fun q => ?_)
  (repeat (apply WL.pure; rfl; rfl; rfl))
  refine WL.call rfl rfl rfl (llasso_ok w2 (hL.up hE2) hos hW hf80 hml hbl hway) ?_
  rintro _ w3 ⟨⟨so, sc, lo, lc, s, l, rfl, hs, hl, hsl, hll⟩, e3⟩
  have hE3 := hE2.trans e3
  have hb4 := hb4.ext e3
  skip
  refine WL.alloc rfl rfl (fun w4 hb6 e4 => ?_)
  skip
  refine WL.st rfl rfl rfl hb6 rfl rfl (ones_of rfl) (fun w5 hb6 hg5 => ?_)
  have e5 : Ext w3 w5 := e4.grown hg5 e4.size (fun g hg => by cases hg; exact Nat.le_refl _)
  have hE5 := hE3.trans e5
  have hb4 := hb4.ext e5
  have hs := hs.up e5
  have hl := hl.up e5
  have l6 := hb6.lt
  have z13 := (e2.trans e3).size
  clear e4 hg5 e2 e3 e5
  have hD : Ext w5 (drew w5) := Ext.drew w5
  have hb6d := hb6.ext hD
  have hyd := hy.up (hE5.trans hD)
  have hsd := hs.up hD
  have hSE : ∀ z, (fun z : World => Ext (drew w5) z) z → Ext (drew w5) z := fun _ h => h
  have hle := hy.le
  have zd := hD.size
  (repeat (first | (apply WL.nil) | (apply EX.thenN) | (apply CW.seq)))
  refine CW.drawE (fun z : World => Ext (drew w5) z) [(0, true), (1, true), (2, true), (3, true), (4, true), (6, true), (7, true), (5, false), (8, false), (9, false)] 10 mixed (by kernel_rfl) (Ext.refl _) ?_
  (repeat (first | (apply HL.sub'; rfl; rfl; rfl; rfl; rfl; omega; omega) | (apply HL.pure; rfl; rfl; rfl; rfl) | (refine HL.lenS rfl rfl rfl rfl ?_)))
  refine HL.cutHi (α := Int) (wy.length - 1) (by omega) rfl rfl rfl rfl rfl (by omega) ?_
  (repeat (first | (refine HL.fa rfl rfl rfl rfl ?_) | (refine HL.ld (by assumption) rfl rfl rfl rfl (by assumption) rfl ?_)))
  have htk : Sl (drew w5) (Old (drew w5)) yo yc (wy.take (wy.length - 1)) := hyd.take (by omega)
  have htl : (wy.take (wy.length - 1)).length = wy.length - 1 := by rw [List.length_take]; omega
  rw [← htl]
  refine HL.mut rfl (WL.call rfl rfl rfl (clone_int (drew w5) htk (by omega)) ?_)
  rintro cv w6 ⟨hoc, e6⟩
  refine WL.nil (EX.mut e6 ?_)
  refine HL.mut rfl (WL.app (F := Non) rfl rfl rfl rfl hoc (hsd.up e6).srcN e6.size (fun _ h => h.elim) (by unfold maxLen; omega) (by omega) (fun nv w7 ho7 hg7 _ => ?_))
  have e7 : Ext (drew w5) w7 := e6.grown hg7 e6.size (fun b hb => (hoc.lt b hb).1)
  refine WL.nil (EX.mut e7 ?_)
  obtain ⟨no, nc, rfl, hns⟩ := ho7.oldN.sl
  have hb67 := hb6d.ext e7
  refine HL.mut rfl (WL.fa rfl rfl rfl (WL.nil (EX.mut e7 (HL.nil ?_))))
  refine EX.tail rfl (WL.st rfl rfl rfl hb67 rfl rfl (ones_of rfl) (fun w8 hb8 hg8 => WL.nil (EX.tailE ?_)))
  have hE7 := hE5.trans (hD.trans e7)
  have hE8 : Ext w0 w8 := hE7.grown hg8 hE7.size (fun g hg => by cases hg; have := hE3.size; omega)
  have hns8 := Sl.not2 (F := Old w7) hns hb67 hg8
  have hl8 := Sl.not2 (F := Old w7) (hl.up (hD.trans e7)) hb67 hg8
  have hb48 := (hb4.ext (hD.trans e7)).kept hg8 (fun e => by have := Option.some.inj e; have := hb4.lt; have := hE2.size; omega)
  (repeat (first | (apply EX.thenN) | (apply CW.seq) | (apply CW.region) | (apply WL.ldA; rfl; rfl; rfl; assumption; rfl)))
  refine WL.st rfl rfl rfl hb48 rfl rfl (ones_of rfl) (fun w9 hb9 hg9 => ?_)
  have hE9 : Ext w0 w9 := hE8.grown hg9 hE8.size (fun g hg => by cases hg; exact Nat.le_refl _)
  (repeat (first | (apply WL.nil) | (apply EX.thenN) | (apply CW.ret)))
  exact EX.retC rfl rfl hb9 rfl ⟨⟨_, _, _, _, _, _, rfl, Sl.not2 (F := Old w8) hns8 hb48 hg9, Sl.not2 (F := Old w8) hl8 hb48 hg9, by rw [List.length_append, htl]; omega, by omega⟩, hE9⟩
end Go.Proofs.Ytikigaeihdmcaaa

