import Derived.Laws.Cover3
import Derived.Laws.Bits64b
import Derived.Laws.Shifts
import Derived.Test.YtikigaeihdmcaaaGreatDoorPtReportLines1
/-
  Slices that a call owns (made, stored into, appended to, cut), and statements whose order is open but that only read. Over any program.
-/
set_option linter.unusedVariables false
set_option linter.unusedSimpArgs false
namespace Go.Proofs.YtikigaeihdmcaaaGreatDoor
open Go.RowKit

/- ELEMENTS IN A ROW OF CELLS -/
section
variable {α : Type} [Rep α] {w w' : World} {F F' : Nat → Prop}
def Elems (w : World) (F : Nat → Prop) (cells : List Value) (xs : List α) : Prop :=
  cells.length = xs.length * sz α ∧ ∀ i (h : i < xs.length), rd w F ((cells.drop (i * sz α)).take (sz α)) xs[i]
theorem Elems.mono {cells : List Value} {xs : List α} (h : Elems w F cells xs) (hb : ∀ b, F b → w'.heap[b]? = w.heap[b]?) (hF : ∀ b, F b → F' b) : Elems w' F' cells xs :=
  ⟨h.1, fun i hi => Rep.mono (h.2 i hi) hb hF⟩
theorem Elems.nil : Elems w F [] ([] : List α) := ⟨by simp, fun i hi => absurd hi (by simp)⟩
theorem Elems.one {cs : List Value} {x : α} (h : rd w F cs x) : Elems w F cs [x] := by
  have hl : cs.length = sz α := Rep.len h
  refine ⟨by simpa using hl, fun i hi => ?_⟩
  have : i = 0 := by simpa using hi
  subst this
  simpa [← hl] using h
theorem Elems.append {c1 c2 : List Value} {xs ys : List α} (h1 : Elems w F c1 xs) (h2 : Elems w F c2 ys) : Elems w F (c1 ++ c2) (xs ++ ys) := by
  refine ⟨by rw [List.length_append, List.length_append, h1.1, h2.1, Nat.add_mul], fun i hi => ?_⟩
  by_cases hlt : i < xs.length
  · have hle : (i + 1) * sz α ≤ c1.length := by rw [h1.1]; exact Nat.mul_le_mul_right _ hlt
    rw [Nat.add_mul, Nat.one_mul] at hle
    rw [List.drop_append_of_le_length (by omega), List.take_append_of_le_length (by rw [List.length_drop]; omega), List.getElem_append_left hlt]
    exact h1.2 i hlt
  · have hge : xs.length ≤ i := Nat.le_of_not_lt hlt
    have hj : i - xs.length < ys.length := by rw [List.length_append] at hi; omega
    rw [List.getElem_append_right hge]
    have e : i * sz α = c1.length + (i - xs.length) * sz α := by rw [h1.1, ← Nat.add_mul]; congr 1; omega
    rw [e, List.drop_append]
    have e2 : c1.drop (c1.length + (i - xs.length) * sz α) = [] := List.drop_eq_nil_of_le (by omega)
    rw [e2, List.nil_append]
    have e3 : c1.length + (i - xs.length) * sz α - c1.length = (i - xs.length) * sz α := by omega
    rw [e3]
    exact h2.2 _ hj
theorem Elems.take {cells : List Value} {xs : List α} (h : Elems w F cells xs) (k : Nat) (hk : k ≤ xs.length) : Elems w F (cells.take (k * sz α)) (xs.take k) := by
  have hle : k * sz α ≤ cells.length := by rw [h.1]; exact Nat.mul_le_mul_right _ hk
  refine ⟨by rw [List.length_take, List.length_take, Nat.min_eq_left hle, Nat.min_eq_left hk], fun i hi => ?_⟩
  have hi' : i < k := by rw [List.length_take] at hi; omega
  have hm : (i + 1) * sz α ≤ k * sz α := Nat.mul_le_mul_right _ hi'
  rw [Nat.add_mul, Nat.one_mul] at hm
  rw [List.drop_take, List.take_take, Nat.min_eq_left (by omega), List.getElem_take]
  exact h.2 i (by omega)
theorem Elems.drop {cells : List Value} {xs : List α} (h : Elems w F cells xs) (k : Nat) (hk : k ≤ xs.length) : Elems w F (cells.drop (k * sz α)) (xs.drop k) := by
  refine ⟨by rw [List.length_drop, List.length_drop, h.1, Nat.sub_mul], fun i hi => ?_⟩
  rw [List.length_drop] at hi
  rw [List.drop_drop, List.getElem_drop, ← Nat.add_mul]
  exact h.2 (k + i) (by omega)
theorem Elems.ones {cells : List Value} {xs : List α} (h : Elems w F cells xs) : ∀ v ∈ cells, v.oneCell' = true := by
  intro v hv
  obtain ⟨j, hj, rfl⟩ := List.mem_iff_getElem.1 hv
  have hp : 0 < sz α := Rep.pos
  have hi : j / sz α < xs.length := by rw [Nat.div_lt_iff_lt_mul hp, ← h.1]; exact hj
  refine Rep.one (h.2 _ hi) _ ?_
  have hm := Nat.mod_add_div j (sz α)
  have hlt := Nat.mod_lt j hp
  rw [Nat.mul_comm] at hm
  refine List.mem_iff_getElem?.2 ⟨j % sz α, ?_⟩
  rw [List.getElem?_take_of_lt hlt, List.getElem?_drop]
  have : j / sz α * sz α + j % sz α = j := by omega
  rw [this]
  exact List.getElem?_eq_getElem hj
/-- cells that are written over -/
def over (cells : List Value) (o : Nat) (es : List Value) : List Value := cells.take o ++ es ++ cells.drop (o + es.length)
theorem Elems.set {cells es : List Value} {xs : List α} {y : α} (h : Elems w F cells xs) (hy : rd w F es y) (k : Nat) (hk : k < xs.length) : Elems w F (over cells (k * sz α) es) (xs.set k y) := by
  have hl : es.length = sz α := Rep.len hy
  have h1 := (h.take k (by omega)).append (Elems.one hy)
  have h2 := h1.append (h.drop (k + 1) hk)
  have e : (k + 1) * sz α = k * sz α + es.length := by rw [Nat.add_mul, Nat.one_mul, hl]
  rw [e] at h2
  have e2 : xs.set k y = xs.take k ++ [y] ++ xs.drop (k + 1) := by
    rw [List.set_eq_take_append_cons_drop, if_pos hk]; simp
  rw [e2]
  exact h2
end

/- OWNING -/
section
variable {α : Type} [Rep α]
structure OwnAt (w : World) (B : Nat) (e : TypeId) (F : Nat → Prop) (g off cap : Nat) (cur : Array Value) (xs : List α) : Prop where
  blk : w.heap[g]? = some (.cells cur e (0, 0))
  ge : B ≤ g
  nF : ¬ F g
  le : xs.length ≤ cap
  mx : cap ≤ maxLen
  fit : off + cap * sz α ≤ cur.size
  el : Elems w F ((cur.toList.drop off).take (xs.length * sz α)) xs
def Own (w : World) (B : Nat) (e : TypeId) (F : Nat → Prop) (v : Value) (xs : List α) : Prop :=
  (v = .slice none 0 0 ∧ xs = []) ∨ ∃ g off cap cur, v = .slice (some ⟨g, off, none⟩) xs.length cap ∧ OwnAt w B e F g off cap cur xs
/-- nothing is met -/
def Non : Nat → Prop := fun _ => False
end
section
variable {α : Type} [Rep α] {w w' : World} {B : Nat} {e : TypeId} {F F' : Nat → Prop} {v : Value} {xs : List α}
theorem Own.nil : Own w B e F (.slice none 0 0) ([] : List α) := .inl ⟨rfl, rfl⟩
theorem Own.lt (h : Own w B e F v xs) : ∀ g, v.ownBlock = some g → B ≤ g ∧ g < w.heap.size ∧ ¬ F g := by
  intro g hg
  rcases h with ⟨rfl, _⟩ | ⟨g', off, cap, cur, rfl, h⟩
  · simp [Value.ownBlock] at hg
  · simp [Value.ownBlock] at hg; subst hg
    exact ⟨h.ge, (Array.getElem?_eq_some_iff.1 h.blk).1, h.nF⟩
/-- other memory has changed -/
theorem Own.keep (h : Own w B e F v xs) (hg : ∀ g, v.ownBlock = some g → w'.heap[g]? = w.heap[g]?) (hF : ∀ b, F b → w'.heap[b]? = w.heap[b]?) : Own w' B e F v xs := by
  rcases h with hn | ⟨g, off, cap, cur, rfl, h⟩
  · exact .inl hn
  · exact .inr ⟨g, off, cap, cur, rfl, ⟨(hg g rfl).trans h.blk, h.ge, h.nF, h.le, h.mx, h.fit, h.el.mono hF fun _ h => h⟩⟩
theorem Own.wk (h : Own w B e F v xs) (hF : ∀ b, F b → F' b) (hn : ∀ g, v.ownBlock = some g → ¬ F' g) : Own w B e F' v xs := by
  rcases h with hn | ⟨g, off, cap, cur, rfl, h⟩
  · exact .inl hn
  · exact .inr ⟨g, off, cap, cur, rfl, ⟨h.blk, h.ge, hn g rfl, h.le, h.mx, h.fit, h.el.mono (fun _ _ => rfl) hF⟩⟩
theorem Own.low (h : Own w B e F v xs) {B' : Nat} (hB : B' ≤ B) : Own w B' e F v xs := by
  rcases h with hn | ⟨g, off, cap, cur, rfl, h⟩
  · exact .inl hn
  · exact .inr ⟨g, off, cap, cur, rfl, ⟨h.blk, Nat.le_trans hB h.ge, h.nF, h.le, h.mx, h.fit, h.el⟩⟩
/-- behind a step that may only have written one row -/
theorem Own.kept (h : Own w B e F v xs) {row : Option Nat} (hg : w.grownBy w' row) (hne : ∀ g, v.ownBlock = some g → some g ≠ row) (hF : ∀ b, F b → b < w.heap.size ∧ some b ≠ row) : Own w' B e F v xs :=
  h.keep (fun g hg' => hg.block g (h.lt g hg').2.1 (hne g hg')) fun b hb => hg.block b (hF b hb).1 (hF b hb).2
theorem Own.ext (h : Own w B e F v xs) (hg : Ext w w') (hF : ∀ b, F b → b < w.heap.size) : Own w' B e F v xs :=
  h.keep (fun g hg' => hg.block g (h.lt g hg').2.1) fun b hb => hg.block b (hF b hb)
theorem Own.keptN (h : Own w B e Non v xs) {row : Option Nat} (hg : w.grownBy w' row) (hne : ∀ g, v.ownBlock = some g → some g ≠ row) : Own w' B e Non v xs := h.kept hg hne fun _ h => h.elim
theorem Own.extN (h : Own w B e Non v xs) (hg : Ext w w') : Own w' B e Non v xs := h.ext hg fun _ h => h.elim
theorem cur_get {cur : Array Value} {off m j : Nat} {u : Value} (h : ((cur.toList.drop off).take m)[j]? = some u) : cur[off + j]? = some u := by
  rw [List.getElem?_take] at h
  split at h
  · rw [List.getElem?_drop] at h; simpa using h
  · cases h
/-- as one that is read -/
theorem Own.sl (h : Own w B e F v xs) : ∃ ao cap, v = .slice ao xs.length cap ∧ Sl w (fun b => F b ∨ v.ownBlock = some b) ao cap xs := by
  rcases h with ⟨rfl, rfl⟩ | ⟨g, off, cap, cur, rfl, h⟩
  · exact ⟨none, 0, rfl, ⟨by simp, by simp [maxLen], fun _ => rfl, fun i hi => absurd hi (by simp)⟩⟩
  · refine ⟨some ⟨g, off, none⟩, cap, rfl, ⟨h.le, h.mx, (fun e => by cases e), fun i hi => ⟨g, off, rfl, .inr rfl, _, ?_, Rep.mono (h.el.2 i hi) (fun _ _ => rfl) fun _ h => .inl h⟩⟩⟩
    intro j u hu
    rw [List.getElem?_take] at hu
    split at hu
    · rw [List.getElem?_drop] at hu
      rw [cell_of_row w g _ cur e (0, 0) h.blk]
      have := cur_get hu
      rw [← this]; congr 1; omega
    · cases hu
theorem Own.rd (h : Own w B e F v xs) : Rd w (fun b => F b ∨ v.ownBlock = some b) v xs := by
  obtain ⟨ao, cap, rfl, hs⟩ := h.sl
  exact hs.rd
theorem Own.old (h : Own w B e F v xs) (hF : ∀ b, F b → b < w.heap.size) : Rd w (Old w) v xs := h.rd.mono (fun _ _ => rfl) fun b hb => hb.elim (hF b) (fun hv => (h.lt b hv).2.1)
theorem Own.oldN (h : Own w B e Non v xs) : Rd w (Old w) v xs := h.old fun _ h => h.elim
theorem Own.slF (h : Own w B e F v xs) (hF : ∀ b, F b → F' b) (hv : ∀ g, v.ownBlock = some g → F' g) : ∃ ao cap, v = .slice ao xs.length cap ∧ Sl w F' ao cap xs := by
  obtain ⟨ao, cap, e, hs⟩ := h.sl
  exact ⟨ao, cap, e, hs.mono (fun _ _ => rfl) fun b hb => hb.elim (hF b) (fun h => hv b h)⟩
/-- the length, in the value -/
theorem Own.val (h : Own w B e F v xs) : ∃ ao cap, v = .slice ao xs.length cap := by obtain ⟨ao, cap, e, _⟩ := h.sl; exact ⟨ao, cap, e⟩

theorem Own.made (w : World) (B : Nat) (e : TypeId) (F : Nat → Prop) (cur : Array Value) (xs : List α) (hB : B ≤ w.heap.size) (hn : ¬ F w.heap.size) (hm : xs.length ≤ maxLen)
    (hF : ∀ b, F b → b < w.heap.size) (h : Elems w F cur.toList xs) :
    Own (w.alloc (.cells cur e)) B e F (.slice (some ⟨w.heap.size, 0, none⟩) xs.length xs.length) xs := by
  refine .inr ⟨w.heap.size, 0, xs.length, cur, rfl, ⟨heap_alloc_new w _, hB, hn, Nat.le_refl _, hm, ?_, ?_⟩⟩
  · have := h.1; simp at this ⊢; omega
  · have e1 : (cur.toList.drop 0).take (xs.length * sz α) = cur.toList := by rw [List.drop_zero]; exact List.take_of_length_le (Nat.le_of_eq h.1)
    rw [e1]
    exact h.mono (fun b hb => Below.heap_alloc w _ b (hF b hb)) fun _ h => h
theorem grown_alloc (w : World) (o : Obj) (row : Option Nat) : w.grownBy (w.alloc o) row := World.grownBy_alloc w o row

end

section
variable {P : Program} {α : Type} [Rep α] {w : World} {B : Nat} {e t ty : TypeId} {F : Nat → Prop} {v : Value} {xs ys : List α} {x0 : α} {bytes : Nat}
theorem Sl.cells {ao : Option Addr} {cap : Nat} {G : Nat → Prop} (h : Sl w G ao cap ys) : ∃ news : List Value, news.length = ys.length * sz α ∧ Elems w G news ys ∧ ∀ b, ao = some b → ys ≠ [] → ∀ j u, news[j]? = some u → w.cell? (b.add j) = some u := by
  have key : ∀ k, k ≤ ys.length → ∃ news : List Value, news.length = k * sz α ∧ Elems w G news (ys.take k) ∧ ∀ b, ao = some b → ys ≠ [] → ∀ j u, news[j]? = some u → w.cell? (b.add j) = some u := by
    intro k
    induction k with
    | zero => intro _; exact ⟨[], by simp, by simpa using Elems.nil, fun b _ _ j u hu => by simp at hu⟩
    | succ k ih =>
      intro hk
      obtain ⟨news, h1, h2, h3⟩ := ih (by omega)
      obtain ⟨b, off, hao, _, es, hc, hr⟩ := h.el k hk
      have hl : es.length = sz α := Rep.len hr
      refine ⟨news ++ es, by rw [List.length_append, h1, hl, Nat.add_mul, Nat.one_mul], ?_, ?_⟩
      · rw [List.take_succ_eq_append_getElem hk]
        exact h2.append (Elems.one hr)
      · intro b' hb' hne j u hu
        by_cases hj : j < news.length
        · rw [List.getElem?_append_left hj] at hu; exact h3 b' hb' hne j u hu
        · rw [List.getElem?_append_right (by omega)] at hu
          rw [hao] at hb'
          cases hb'
          rw [WideShapes.add_plain]
          have := hc (j - news.length) u hu
          rw [← this]; congr 2; rw [← h1]; omega
  obtain ⟨news, h1, h2, h3⟩ := key ys.length (Nat.le_refl _)
  exact ⟨news, h1, by simpa using h2, h3⟩

theorem take_drop_over {cur : List Value} {off n m : Nat} {news : List Value} (hn : news.length = m) (hfit : off + n + m ≤ cur.length) :
    ((cur.take (off + n) ++ news ++ cur.drop (off + n + m)).drop off).take (n + m) = (cur.drop off).take n ++ news := by
  apply List.ext_getElem?
  intro j
  rw [List.getElem?_take]
  by_cases hj : j < n + m
  · rw [if_pos hj, List.getElem?_drop]
    by_cases h1 : j < n
    · rw [List.getElem?_append_left (by simp; omega), List.getElem?_append_left (by simp; omega), List.getElem?_append_left (by simp; omega)]
      rw [List.getElem?_take_of_lt (by omega), List.getElem?_take_of_lt h1, List.getElem?_drop]
    · rw [List.getElem?_append_left (by simp; omega), List.getElem?_append_right (by simp; omega), List.getElem?_append_right (by simp; omega)]
      congr 1
      simp; omega
  · rw [if_neg hj, List.getElem?_eq_none]
    simp; omega

/-- what is appended: cells, and what they read as under F -/
def Src (w : World) (F : Nat → Prop) (ao : Option Addr) (ys : List α) : Prop :=
  (ao = none → ys = []) ∧ ∃ news : List Value, Elems w F news ys ∧ ∀ b, ao = some b → ys ≠ [] → ∀ j u, news[j]? = some u → w.cell? (b.add j) = some u
theorem Sl.src {ao : Option Addr} {cap : Nat} (h : Sl w F ao cap ys) : Src w F ao ys := by
  obtain ⟨news, h1, h2, h3⟩ := h.cells
  refine ⟨fun e => List.eq_nil_of_length_eq_zero ?_, news, h2, h3⟩
  have := h.nil e; have := h.le; omega
theorem Own.src {ao : Option Addr} {cap : Nat} (h : Own w B e F (.slice ao ys.length cap) ys) : Src w F ao ys := by
  rcases h with ⟨h1, rfl⟩ | ⟨g, off, cp, cur, h1, ho⟩
  · exact ⟨fun _ => rfl, [], Elems.nil, fun _ _ h => absurd rfl h⟩
  · obtain ⟨rfl, _, rfl⟩ := Value.slice.inj h1
    refine ⟨(fun e => by cases e), _, ho.el, fun b hb _ j u hu => ?_⟩
    cases hb
    rw [WideShapes.add_plain, cell_of_row w g _ cur e (0, 0) ho.blk]
    exact cur_get hu

theorem run_app [hs : IsS P t e] [ht : IsT P e α] [hz : IsZ P e x0 bytes] {ao : Option Addr} {cap : Nat} (hown : Own w B e F v xs) (hy : Src w F ao ys)
    (hB : B ≤ w.heap.size) (hF : ∀ b, F b → b < w.heap.size) (hm : xs.length + ys.length ≤ maxLen) (hb : (xs.length + ys.length) * bytes ≤ 140737488355328) :
    ∃ v' w', (Builtin.append_ #[t, t] ty #[v, .slice ao ys.length cap]).run P w = .ok v' w' ∧ Own w' B e F v' (xs ++ ys) ∧ w.grownBy w' v.ownBlock ∧ (∀ g, v'.ownBlock = some g → v.ownBlock = some g ∨ w.heap.size ≤ g) := by
  obtain ⟨i, z, h1, h2, h3, h4⟩ := hz.ok
  obtain ⟨i', h1', h5⟩ := IsT.info (P := P) (t := e) (α := α)
  obtain rfl : i = i' := Option.some.inj (h1.symm.trans h1')
  have hzs : z.cells.size = sz α := by have := Rep.len (h4 w F); simpa using this
  have hmm := hm
  unfold maxLen at hmm
  obtain ⟨hnone, news, he, hc⟩ := hy
  have hl := he.1
  have hne : ∀ u ∈ news, u.oneCell' = true := he.ones
  have heF : ∀ w' : World, (∀ b, F b → w'.heap[b]? = w.heap[b]?) → Elems w' F news ys := fun w' hw' => he.mono hw' fun _ h => h
  have hnF : ¬ F w.heap.size := fun h => by have := hF _ h; omega
  have news0 : ys.length = 0 → news = [] := fun h => List.eq_nil_of_length_eq_zero (by rw [hl, h, Nat.zero_mul])
  -- a new row
  have grow : ∀ (olds : List Value) (old : Nat), Elems w F olds xs → ∀ row : Option Nat, old ≤ maxLen → xs.length + ys.length ≤ grownCap w (xs.length + ys.length) old e →
      Own (w.drew.alloc (.cells (olds.toArray ++ news.toArray ++ Builtin.zeroCells z.cells (grownCap w (xs.length + ys.length) old e - (xs.length + ys.length))) e)) B e F
        (.slice (some ⟨w.heap.size, 0, none⟩) (xs.length + ys.length) (grownCap w (xs.length + ys.length) old e)) (xs ++ ys) ∧
      w.grownBy (w.drew.alloc (.cells (olds.toArray ++ news.toArray ++ Builtin.zeroCells z.cells (grownCap w (xs.length + ys.length) old e - (xs.length + ys.length))) e)) row := by
    intro olds old ho row _ hge
    have hcm : grownCap w (xs.length + ys.length) old e ≤ maxLen := grownCap_le_maxLen w _ old e hm
    have hh : ∀ b, F b → (w.drew.alloc (.cells (olds.toArray ++ news.toArray ++ Builtin.zeroCells z.cells (grownCap w (xs.length + ys.length) old e - (xs.length + ys.length))) e)).heap[b]? = w.heap[b]? :=
      fun b hb => Below.heap_alloc w.drew _ b (hF b hb)
    have hlen : (olds ++ news).length = (xs ++ ys).length * sz α := by rw [List.length_append, List.length_append, ho.1, hl, Nat.add_mul]
    refine ⟨.inr ⟨w.heap.size, 0, _, _, by rw [List.length_append], ⟨heap_alloc_new w.drew _, hB, hnF, by simpa using hge, hcm, ?_, ?_⟩⟩, ⟨rfl, rfl, rfl, by simp, fun k hk _ => Below.heap_alloc w.drew _ k hk⟩⟩
    · simp only [Nat.zero_add, Array.size_append, List.size_toArray, size_zeroCells, hzs, ho.1, hl, ← Nat.add_mul]
      exact Nat.mul_le_mul_right _ (by omega)
    · have e1 : ((olds.toArray ++ news.toArray ++ Builtin.zeroCells z.cells (grownCap w (xs.length + ys.length) old e - (xs.length + ys.length))).toList.drop 0).take ((xs ++ ys).length * sz α) = olds ++ news := by
        simp only [Array.toList_append, List.drop_zero]
        rw [← hlen]
        exact List.take_left
      rw [e1]
      exact (ho.mono hh fun _ h => h).append (heF _ hh)
  rcases hown with ⟨rfl, rfl⟩ | ⟨g, off, cp, cur, rfl, ho⟩
  · by_cases hy0 : ys.length = 0
    · have hn := news0 hy0
      subst hn
      have hys : ys = [] := List.eq_nil_of_length_eq_zero hy0
      subst hys
      refine ⟨.slice none 0 0, w, ?_, Own.nil, ⟨rfl, rfl, rfl, Nat.le_refl _, fun _ _ _ => rfl⟩, fun g h => .inl h⟩
      cases ao with
      | none => simp [Builtin.append_, run_underlying hs.ok, sizeOf, typeInfo, h1, Builtin.lenOf, Builtin.firstCells]
      | some b => simp [Builtin.append_, run_underlying hs.ok, sizeOf, typeInfo, h1, Builtin.lenOf, Builtin.firstCells, loadCells, loadCellsFrom]
    · have hyn : ys ≠ [] := fun e => hy0 (by rw [e]; rfl)
      obtain ⟨b, rfl⟩ : ∃ b, ao = some b := by
        cases ao with
        | none => exact absurd (hnone rfl) hyn
        | some b => exact ⟨b, rfl⟩
      have hb0 : ys.length * i.bytes ≤ 281474976710656 := by rw [h3]; simp only [List.length_nil, Nat.zero_add] at hb; omega
      have hr := run_append_nil (P := P) w t ty e i z hs.ok h1 h2 _ ys.length cap news (by rw [hl, h5]) (hc _ rfl hyn) (by omega) (by simp only [List.length_nil] at hmm; omega) hb0
      have hgr := grow [] 0 Elems.nil (Value.ownBlock (.slice none 0 0)) (by simp [maxLen]) (grownCap_ge _ _ _ _)
      simp only [List.length_nil, Nat.zero_add] at hgr
      exact ⟨_, _, hr, by simpa using hgr.1, by simpa using hgr.2, fun g h => .inr (by simp [Value.ownBlock] at h; omega)⟩
  · have olds_len : ((cur.toList.drop off).take (xs.length * sz α)).length = xs.length * sz α := ho.el.1
    by_cases hroom : xs.length + ys.length ≤ cp
    · -- in place
      have hfit : off + xs.length * sz α + news.length ≤ cur.size := by
        have h6 : (xs.length + ys.length) * sz α ≤ cp * sz α := Nat.mul_le_mul_right _ hroom
        have h7 := ho.fit
        rw [Nat.add_mul] at h6
        rw [hl]
        omega
      have hfst : (Builtin.firstCells (sz α) ys.length (.slice ao ys.length cap)).run P w = .ok news.toArray w := by
        cases ao with
        | none =>
          have : ys.length = 0 := by rw [hnone rfl]; rfl
          rw [news0 this]
          simp [Builtin.firstCells]
        | some b =>
          by_cases hy0 : ys.length = 0
          · rw [news0 hy0, hy0]
            simp [Builtin.firstCells, loadCells, loadCellsFrom]
          · exact run_firstCells_some (P := P) w (sz α) ys.length b ys.length cap news hl (hc b rfl (fun e => hy0 (by rw [e]; rfl)))
      have hst := run_storeCells_at P g (off + xs.length * sz α) e news 0 cur w ho.blk (by simpa using hfit) hne
      simp only [Nat.add_zero] at hst
      have hrun : (Builtin.append_ #[t, t] ty #[.slice (some ⟨g, off, none⟩) xs.length cp, .slice ao ys.length cap]).run P w =
          .ok (.slice (some ⟨g, off, none⟩) (xs.length + ys.length) cp) (w.setRow g (cur.toList.take (off + xs.length * sz α) ++ news ++ cur.toList.drop (off + xs.length * sz α + news.length)).toArray) := by
        simp [Builtin.append_, run_underlying hs.ok, sizeOf, typeInfo, h1, Builtin.lenOf, hroom, h5, hfst, WideShapes.add_plain, hst]
      refine ⟨_, _, hrun, .inr ⟨g, off, cp, _, by rw [List.length_append], ⟨setRow_heap w g cur _ e _ ho.blk, ho.ge, ho.nF, by simpa using hroom, ho.mx, ?_, ?_⟩⟩, ⟨rfl, rfl, rfl, by simp, fun k _ hk => setRow_other w g k _ (fun e => hk (by simp [Value.ownBlock, e]))⟩, fun g h => .inl h⟩
      · have h7 := ho.fit
        simp only [List.size_toArray, List.length_append, List.length_take, List.length_drop, Array.length_toList]
        omega
      · have hh : ∀ b, F b → (w.setRow g (cur.toList.take (off + xs.length * sz α) ++ news ++ cur.toList.drop (off + xs.length * sz α + news.length)).toArray).heap[b]? = w.heap[b]? :=
          fun b hb => setRow_other w g b _ (fun e => ho.nF (e ▸ hb))
        have e1 : (((cur.toList.take (off + xs.length * sz α) ++ news ++ cur.toList.drop (off + xs.length * sz α + news.length)).toArray.toList.drop off).take ((xs ++ ys).length * sz α)) = (cur.toList.drop off).take (xs.length * sz α) ++ news := by
          rw [List.length_append, Nat.add_mul]
          have h8 : off + xs.length * sz α + ys.length * sz α ≤ cur.toList.length := by rw [hl] at hfit; rw [Array.length_toList]; exact hfit
          have h9 := take_drop_over (cur := cur.toList) hl h8
          rw [hl]
          exact h9
        rw [e1]
        exact (ho.el.mono hh fun _ h => h).append (heF _ hh)
    · have hpos : 0 < ys.length := by have := ho.le; omega
      have hyn : ys ≠ [] := fun e => by rw [e] at hpos; exact absurd hpos (by simp)
      obtain ⟨b, rfl⟩ : ∃ b, ao = some b := by
        cases ao with
        | none => exact absurd (hnone rfl) hyn
        | some b => exact ⟨b, rfl⟩
      have hfit2 : Builtin.nextslicecap (xs.length + ys.length) cp * i.bytes ≤ 281474976710656 := growslice_fits (by omega) (by rw [h3]; exact hb)
      have hr := run_append_grow (P := P) w t ty e i z hs.ok h1 h2 ⟨g, off, none⟩ xs.length cp ((cur.toList.drop off).take (xs.length * sz α)) (by rw [olds_len, h5])
        (fun j u hu => by rw [WideShapes.add_plain, cell_of_row w g _ cur e (0, 0) ho.blk]; exact cur_get hu)
        _ ys.length cap news (by rw [hl, h5]) (hc _ rfl hyn) (by omega) (by omega) hfit2
      have hgr := grow ((cur.toList.drop off).take (xs.length * sz α)) cp ho.el (Value.ownBlock (.slice (some ⟨g, off, none⟩) xs.length cp)) ho.mx (grownCap_ge _ _ _ _)
      exact ⟨_, _, hr, hgr.1, hgr.2, fun g h => .inr (by simp [Value.ownBlock] at h; omega)⟩
end

/- THE WALK's RULES FOR WHAT A CALL OWNS -/
class Flat (α : Type) [Rep α] : Prop where
  ok : ∀ {w w' : World} {F F' : Nat → Prop} {cs : List Value} {x : α}, rd w F cs x → rd w' F' cs x
instance iOwn1 : Flat Int := ⟨fun h => h⟩
instance iOwn2 : Flat Bool := ⟨fun h => h⟩
instance iOwn3 : Flat Nat := ⟨fun h => h⟩
instance iOwn4 : Flat ByteArray := ⟨fun h => h⟩

section
variable {P : Program} {Q : Exit → Act → World → Prop} {n : Nat} {σ : Sg} {w : World} {L rest : List Oper} {d : Nat} {ty : TypeId} {pos : String} {af : Array Edge} {g : Option (Nat × Bool)}
variable {α : Type} [Rep α] {e t : TypeId} {x0 : α} {bytes : Nat} {F : Nat → Prop}

/-- append(x, ys...) -/
theorem WL.app {x y : Operand} {v : Value} {xs ys : List α} {ao : Option Addr} {cap B : Nat} (hg : gd L σ ⟨some d, .call ⟨.builtin .append, #[x, y], #[t, t]⟩, ty, pos, af, g⟩ = some true) (hd : Nat.ble (d + 1) n = true)
    (hx : ev σ x = some v) (hy : ev σ y = some (.slice ao ys.length cap)) [hs : IsS P t e] [ht : IsT P e α] [hz : IsZ P e x0 bytes] (hown : Own w B e F v xs) (hsl : Src w F ao ys) (hB : B ≤ w.heap.size) (hF : ∀ b, F b → b < w.heap.size)
    (hm : xs.length + ys.length ≤ maxLen) (hb : (xs.length + ys.length) * bytes ≤ 140737488355328)
    (h : ∀ v' w', Own w' B e F v' (xs ++ ys) → w.grownBy w' v.ownBlock → (∀ g, v'.ownBlock = some g → v.ownBlock = some g ∨ w.heap.size ≤ g) → WL P L Q rest n ((d, v') :: σ) w') :
    WL P L Q (⟨some d, .call ⟨.builtin .append, #[x, y], #[t, t]⟩, ty, pos, af, g⟩ :: rest) n σ w := by
  obtain ⟨v', w', hr, ho, hgr, hnb⟩ := run_app (P := P) (t := t) (ty := ty) (cap := cap) hown hsl hB hF hm hb
  refine WL.run hg hd (fun a ha => ?_) (h v' w' ho hgr hnb)
  simp [execOp, resolve, invoke, builtin, ha.ev hx, ha.ev hy, hr]
theorem Sl.srcN [hfl : Flat α] {ao : Option Addr} {cap : Nat} {ys : List α} {G : Nat → Prop} (h : Sl w G ao cap ys) : Src w F ao ys := by
  obtain ⟨news, h1, h2, h3⟩ := h.cells
  refine ⟨fun e => List.eq_nil_of_length_eq_zero ?_, news, ⟨h2.1, fun i hi => hfl.ok (h2.2 i hi)⟩, h3⟩
  have := h.nil e; have := h.le; omega

end

/- LITERALS -/
def idxL {β : Type} : Nat → List β → List (Nat × β)
  | _, [] => []
  | k, x :: r => (k, x) :: idxL (k + 1) r
def sndL {β : Type} : List (Nat × β) → List β
  | [] => []
  | (_, x) :: r => x :: sndL r
theorem idxL_map {β γ : Type} (f : β → γ) : ∀ (l : List β) (k : Nat), (idxL k l).map (fun p => (p.1, f p.2)) = idxL k (l.map f)
  | [], _ => rfl
  | x :: r, k => by simp [idxL, idxL_map f r]
section
variable {α : Type} [Rep α]
def RdAll (w : World) (F : Nat → Prop) : List Value → List α → Prop
  | [], [] => True
  | v :: vs, y :: ys => Rd w F v y ∧ RdAll w F vs ys
  | _, _ => False
theorem RdAll.nil {w : World} {F : Nat → Prop} : RdAll w F [] ([] : List α) := trivial
theorem RdAll.cons {w : World} {F : Nat → Prop} {v : Value} {y : α} {vs : List Value} {ys : List α} (h : Rd w F v y) (hr : RdAll w F vs ys) : RdAll w F (v :: vs) (y :: ys) := ⟨h, hr⟩
theorem RdAll.len {w : World} {F : Nat → Prop} : ∀ {vs : List Value} {ys : List α}, RdAll w F vs ys → vs.length = ys.length
  | [], [], _ => rfl
  | v :: vs, y :: ys, h => by simp [RdAll.len h.2]
  | [], _ :: _, h => h.elim
  | _ :: _, [], h => h.elim
theorem fold_set : ∀ (es : List Value) (k : Nat) (cells : Array Value), k + es.length ≤ cells.size →
    es.zipIdx.foldl (fun (cs : Array Value) (x : Value × Nat) => cs.setIfInBounds (k + x.2) x.1) cells = (cells.toList.take k ++ es ++ cells.toList.drop (k + es.length)).toArray := by
  intro es
  have key : ∀ (es : List Value) (k j : Nat) (cells : Array Value), k + j + es.length ≤ cells.size →
      (es.zipIdx j).foldl (fun (cs : Array Value) (x : Value × Nat) => cs.setIfInBounds (k + x.2) x.1) cells = (cells.toList.take (k + j) ++ es ++ cells.toList.drop (k + j + es.length)).toArray := by
    intro es
    induction es with
    | nil => intro k j cells hk; simp
    | cons u es ih =>
      intro k j cells hk
      simp only [List.zipIdx_cons, List.foldl_cons]
      rw [ih k (j + 1) _ (by simp at hk ⊢; omega)]
      congr 1
      simp only [Array.toList_setIfInBounds]
      have hlt : k + j < cells.toList.length := by simp at hk ⊢; omega
      rw [← Nat.add_assoc, List.take_succ_eq_append_getElem (by simpa using hlt), List.take_set_of_le (Nat.le_refl _), List.drop_set_of_lt (by omega)]
      simp [Nat.add_assoc, Nat.add_comm 1]
  intro k cells hk
  have := key es k 0 cells (by simpa using hk)
  simpa using this
theorem fill_all {w : World} {F : Nat → Prop} : ∀ (vs : List Value) (ys : List α) (k : Nat) (cells : Array Value), RdAll w F vs ys → cells.size = (k + ys.length) * sz α →
    ∃ out : List Value, Instr.fill (fun i => some (i * sz α, sz α)) cells (idxL k vs) = some (cells.toList.take (k * sz α) ++ out).toArray ∧ Elems w F out ys
  | [], [], k, cells, _, hc => ⟨[], by
      simp only [idxL, Instr.fill, List.append_nil, Option.some.injEq]
      rw [List.take_of_length_le (by simp at hc ⊢; omega)], Elems.nil⟩
  | v :: vs, y :: ys, k, cells, h, hc => by
    obtain ⟨cs, hv, hr⟩ := h.1
    have hl : cs.length = sz α := Rep.len hr
    have hvc : v.cells = cs.toArray := by rw [hv]; apply Array.ext'; simpa using vOf_cells hr
    have hle : (k + 1) * sz α ≤ cells.size := by rw [hc]; exact Nat.mul_le_mul_right _ (by simp)
    rw [Nat.add_mul, Nat.one_mul] at hle
    have hf := fold_set cs (k * sz α) cells (by omega)
    obtain ⟨out, ho1, ho2⟩ := fill_all vs ys (k + 1) (cells.toList.take (k * sz α) ++ cs ++ cells.toList.drop (k * sz α + cs.length)).toArray h.2 (by
      simp only [List.size_toArray, List.length_append, List.length_take, List.length_drop, Array.length_toList]
      have : (k + 1 + ys.length) * sz α = cells.size := by rw [hc]; congr 1; simp; omega
      rw [this]; omega)
    refine ⟨cs ++ out, ?_, (Elems.one hr).append ho2⟩
    have hz : Array.foldl (fun (cs : Array Value) (x : Value × Nat) => cs.setIfInBounds (k * sz α + x.2) x.1) cells v.cells.zipIdx = (cells.toList.take (k * sz α) ++ cs ++ cells.toList.drop (k * sz α + cs.length)).toArray := by
      rw [← Array.foldl_toList, Array.toList_zipIdx, hvc]
      simpa using hf
    simp only [idxL, Instr.fill]
    rw [if_neg (by simp [hvc, hl]; omega)]
    have h1 : (v.cells.zipIdx.foldl (fun cs x => cs.setIfInBounds (k * sz α + x.2) x.1) cells) = (cells.toList.take (k * sz α) ++ cs ++ cells.toList.drop (k * sz α + cs.length)).toArray := hz
    have h2 : (v.cells.zipIdx.foldl (fun cs (x : Value × Nat) => match x with | (c, j) => cs.setIfInBounds (k * sz α + j) c) cells) = (cells.toList.take (k * sz α) ++ cs ++ cells.toList.drop (k * sz α + cs.length)).toArray := h1
    rw [h2, ho1]
    congr 2
    rw [← List.append_assoc]
    congr 1
    have hkl : (cells.toList.take (k * sz α) ++ cs).length = (k + 1) * sz α := by
      rw [List.length_append, List.length_take, Array.length_toList, hl, Nat.add_mul, Nat.one_mul]; omega
    rw [← hkl]
    exact List.take_left
  | [], _ :: _, _, _, h, _ => h.elim
  | _ :: _, [], _, _, h, _ => h.elim

theorem run_lit {P : Program} {e t : TypeId} {x0 : α} {bytes : Nat} (w : World) {vs : List Value} {ys : List α} {G : Nat → Prop} [hs : IsS P t e] [ht : IsT P e α] [hz : IsZ P e x0 bytes] (h : RdAll w G vs ys) (hsz : ys.length * sz α ≤ 16777216) :
    ∃ out : List Value, (Instr.buildSlice t ys.length (idxL 0 vs).toArray).run P w = .ok (.slice (some ⟨w.heap.size, 0, none⟩) ys.length ys.length) (w.alloc (.cells out.toArray e)) ∧ Elems w G out ys := by
  obtain ⟨i, z, h1, h2, h3, h4⟩ := hz.ok
  have hp : 0 < sz α := Rep.pos
  unfold Instr.buildSlice
  simp only [Sem.run_bind, run_underlying hs.ok, Result.andThen_ok, run_sizeOf (α := α)]
  rw [if_neg (by omega)]
  by_cases h0 : ys.length * sz α = 0
  · have hy : ys = [] := List.eq_nil_of_length_eq_zero (by
      rcases Nat.mul_eq_zero.1 h0 with h | h
      · exact h
      · omega)
    subst hy
    have hv : vs = [] := List.eq_nil_of_length_eq_zero (by simpa using h.len)
    subst hv
    refine ⟨[], ?_, Elems.nil⟩
    simp [idxL, Instr.fill, newRow, Array.range_zero']
  · rw [if_neg h0]
    obtain ⟨out, ho1, ho2⟩ := fill_all vs ys 0 ((Array.range (ys.length * sz α)).map (fun x => z.cells[x % z.cells.size]!)) h (by simp)
    refine ⟨out, ?_, ho2⟩
    simp only [Nat.zero_mul, List.take_zero, List.nil_append] at ho1
    simp [zeroValue, typeInfo, h1, h2, ho1, newRow]
end

section
variable {P : Program} {Q : Exit → Act → World → Prop} {n : Nat} {σ : Sg} {w : World} {L rest : List Oper} {d : Nat} {ty : TypeId} {pos : String} {af : Array Edge} {g : Option (Nat × Bool)}
variable {α : Type} [Rep α] {e t : TypeId} {x0 : α} {bytes : Nat} {F : Nat → Prop}
/-- []T{a, b, ..} -/
theorem WL.lit {len : Nat} {parts : List (Nat × Operand)} {vs : List Value} {ys : List α} (hg : gd L σ ⟨some d, .buildSlice t len parts.toArray, ty, pos, af, g⟩ = some true) (hd : Nat.ble (d + 1) n = true)
    (hp : idxL 0 (sndL parts) = parts) (hv : evs σ (sndL parts) = some vs) [hs : IsS P t e] [ht : IsT P e α] [hz : IsZ P e x0 bytes] (hlen : len = ys.length) (hr : RdAll w F vs ys) (hsz : ys.length * sz α ≤ 16777216) (hF : ∀ b, F b → b < w.heap.size)
    (h : ∀ w', Own w' w.heap.size e F (.slice (some ⟨w.heap.size, 0, none⟩) len len) ys → w.grownBy w' none → WL P L Q rest n ((d, .slice (some ⟨w.heap.size, 0, none⟩) len len) :: σ) w') :
    WL P L Q (⟨some d, .buildSlice t len parts.toArray, ty, pos, af, g⟩ :: rest) n σ w := by
  subst hlen
  generalize sndL parts = xs at hp hv
  subst hp
  obtain ⟨out, hrun, he⟩ := run_lit (P := P) (t := t) (e := e) (x0 := x0) w hr hsz
  have hm : ys.length ≤ maxLen := by
    have : ys.length * 1 ≤ ys.length * sz α := Nat.mul_le_mul_left _ Rep.pos
    unfold maxLen; omega
  refine WL.run hg hd (fun a ha => ?_) (h _ (Own.made w w.heap.size e F out.toArray ys (Nat.le_refl _) (fun h => by have := hF _ h; omega) hm hF (by simpa using he)) (grown_alloc w _ none))
  have e1 : ((idxL 0 xs).toArray.map fun (x : Nat × Operand) => (x.1, a.eval x.2)) = (idxL 0 vs).toArray := by
    have e2 := evs_eq ha xs vs hv
    simp only [List.map_toArray]
    rw [idxL_map, e2]
  have e3 : (execOp a.eval ⟨some d, .buildSlice t ys.length (idxL 0 xs).toArray, ty, pos, af, g⟩) = (do let v ← Instr.buildSlice t ys.length ((idxL 0 xs).toArray.map fun (x : Nat × Operand) => (x.1, a.eval x.2)); Pure.pure (Next.value v) : Sem Next) := rfl
  rw [e3, e1, Sem.run_bind, hrun]
  rfl
/-- append(x, y): y's own row of one, and the append -/
theorem WL.app1 {d1 : Nat} {ty1 : TypeId} {pos1 : String} {af1 : Array Edge} {g1 : Option (Nat × Bool)} {x y : Operand} {v u : Value} {xs : List α} {yv : α} {B : Nat}
    (hg1 : gd L σ ⟨some d1, .buildSlice t 1 [(0, y)].toArray, ty1, pos1, af1, g1⟩ = some true) (hd1 : Nat.ble (d1 + 1) n = true)
    (hg : ∀ u, gd L ((d1, .slice u 1 1) :: σ) ⟨some d, .call ⟨.builtin .append, #[x, .tmp d1], #[t, t]⟩, ty, pos, af, g⟩ = some true) (hd : Nat.ble (d + 1) n = true)
    (hy : ev σ y = some u) (hx : ∀ u, ev ((d1, .slice u 1 1) :: σ) x = some v) [hs : IsS P t e] [ht : IsT P e α] [hz : IsZ P e x0 bytes] (hown : Own w B e F v xs) (hu : Rd w F u yv) (hB : B ≤ w.heap.size) (hF : ∀ b, F b → b < w.heap.size)
    (hsz : sz α ≤ 16777216) (hm : xs.length + 1 ≤ maxLen) (hb : (xs.length + 1) * bytes ≤ 140737488355328)
    (h : ∀ v' w' p, Own w' B e F v' (xs ++ [yv]) → w.grownBy w' v.ownBlock → (∀ g, v'.ownBlock = some g → v.ownBlock = some g ∨ w.heap.size ≤ g) → WL P L Q rest n ((d, v') :: (d1, .slice p 1 1) :: σ) w') :
    WL P L Q (⟨some d1, .buildSlice t 1 [(0, y)].toArray, ty1, pos1, af1, g1⟩ :: ⟨some d, .call ⟨.builtin .append, #[x, .tmp d1], #[t, t]⟩, ty, pos, af, g⟩ :: rest) n σ w := by
  refine WL.lit (vs := [u]) (ys := [yv]) hg1 hd1 rfl (by simp [sndL, evs, hy]) rfl ⟨hu, trivial⟩ (by simpa using hsz) hF (fun w1 ho1 hgr1 => ?_)
  have hsize : w.heap.size ≤ w1.heap.size := hgr1.size
  have hkeep : Own w1 B e F v xs := hown.kept hgr1 (fun _ _ h => by cases h) fun b hb => ⟨hF b hb, fun h => by cases h⟩
  refine WL.app (ys := [yv]) (hg _) hd (hx _) fnd_cons_eq hkeep ho1.src (Nat.le_trans hB hsize) (fun b hb => Nat.lt_of_lt_of_le (hF b hb) hsize) (by simpa using hm) (by simpa using hb) (fun v' w' ho hgr hnb => h v' w' _ ho ?_ (fun g hg => (hnb g hg).imp id (fun h => Nat.le_trans hsize h)))
  exact ⟨hgr.os.trans hgr1.os, hgr.tape.trans hgr1.tape, hgr.output.trans hgr1.output, Nat.le_trans hsize hgr.size, fun k hk hne => (hgr.block k (Nat.lt_of_lt_of_le hk hsize) hne).trans (hgr1.block k hk (fun h => by cases h))⟩

/- READING AND WRITING WHAT IS OWNED -/
theorem run_set {v u : Value} {xs : List α} {y : α} {b off cap B : Nat} {cur : Array Value} {i : Nat} (ho : OwnAt w B e F b off cap cur xs) (hi : i < xs.length) (hu : Rd w F u y) [ht : IsT P e α] :
    ∃ w', (storeVar e ⟨b, off + i * sz α, none⟩ u).run P w = .ok () w' ∧ Own w' B e F (.slice (some ⟨b, off, none⟩) xs.length cap) (xs.set i y) ∧ w.grownBy w' (some b) := by
  obtain ⟨cs, hv, hr⟩ := hu
  have hl : cs.length = sz α := Rep.len hr
  have hvc : u.cells = cs.toArray := by rw [hv]; apply Array.ext'; simpa using vOf_cells hr
  have hle : (i + 1) * sz α ≤ cap * sz α := Nat.mul_le_mul_right _ (Nat.le_trans hi ho.le)
  rw [Nat.add_mul, Nat.one_mul] at hle
  have hfit := ho.fit
  have hst := run_storeCells_at P b (off + i * sz α) e cs 0 cur w ho.blk (by omega) (Rep.one hr)
  simp only [Nat.add_zero] at hst
  refine ⟨w.setRow b (cur.toList.take (off + i * sz α) ++ cs ++ cur.toList.drop (off + i * sz α + cs.length)).toArray, ?_, .inr ⟨b, off, cap, _, by rw [List.length_set], ⟨setRow_heap w b cur _ e _ ho.blk, ho.ge, ho.nF, by simpa using ho.le, ho.mx, ?_, ?_⟩⟩, ⟨rfl, rfl, rfl, by simp, fun k _ hk => setRow_other w b k _ (fun e => hk (by simp [e]))⟩⟩
  · unfold storeVar
    rw [Sem.run_bind, run_sizeOf (α := α)]
    simp only [Result.andThen_ok, hvc]
    rw [if_neg (by simp [hl])]
    exact hst
  · simp only [List.size_toArray, List.length_append, List.length_take, List.length_drop, Array.length_toList]
    omega
  · have hh : ∀ k, F k → (w.setRow b (cur.toList.take (off + i * sz α) ++ cs ++ cur.toList.drop (off + i * sz α + cs.length)).toArray).heap[k]? = w.heap[k]? :=
      fun k hk => setRow_other w b k _ (fun e => ho.nF (e ▸ hk))
    have h1 := (ho.el.mono (w' := w.setRow b (cur.toList.take (off + i * sz α) ++ cs ++ cur.toList.drop (off + i * sz α + cs.length)).toArray) hh fun _ h => h).set (Rep.mono hr hh fun _ h => h) i hi
    have e1 : (((cur.toList.take (off + i * sz α) ++ cs ++ cur.toList.drop (off + i * sz α + cs.length)).toArray.toList.drop off).take ((xs.set i y).length * sz α)) = over ((cur.toList.drop off).take (xs.length * sz α)) (i * sz α) cs := by
      rw [List.length_set]
      have hn : i * sz α + cs.length ≤ xs.length * sz α := by
        have : (i + 1) * sz α ≤ xs.length * sz α := Nat.mul_le_mul_right _ hi
        rw [Nat.add_mul, Nat.one_mul] at this; omega
      have hxl : off + xs.length * sz α ≤ cur.toList.length := by
        have : xs.length * sz α ≤ cap * sz α := Nat.mul_le_mul_right _ ho.le
        have e0 : cur.toList.length = cur.size := Array.length_toList
        omega
      generalize i * sz α = o at *
      generalize xs.length * sz α = m at *
      unfold over
      apply List.ext_getElem?
      intro j
      simp only [List.getElem?_take, List.getElem?_drop]
      by_cases hj : j < m
      · rw [if_pos hj]
        by_cases h2 : j < o
        · rw [List.getElem?_append_left (by simp; omega), List.getElem?_append_left (by simp; omega), List.getElem?_append_left (by simp; omega), List.getElem?_append_left (by simp; omega)]
          rw [List.getElem?_take_of_lt (by omega), List.getElem?_take_of_lt h2, List.getElem?_take_of_lt hj, List.getElem?_drop]
        · by_cases h3 : j < o + cs.length
          · rw [List.getElem?_append_left (by simp; omega), List.getElem?_append_right (by simp; omega), List.getElem?_append_left (by simp; omega), List.getElem?_append_right (by simp; omega)]
            congr 1
            simp; omega
          · rw [List.getElem?_append_right (by simp; omega), List.getElem?_append_right (by simp; omega)]
            rw [List.getElem?_drop, List.getElem?_drop, List.getElem?_take_of_lt (by simp; omega), List.getElem?_drop]
            congr 1
            simp; omega
      · rw [if_neg hj, List.getElem?_eq_none]
        simp; omega
    rw [e1]
    exact h1
/-- x[i] = y -/
theorem WL.set {x ix y : Operand} {v u : Value} {B : Nat} {xs : List α} {yv : α} {i : Int} {kd : IntKind} {ty' : TypeId} {pos' : String} {af' : Array Edge} {g' : Option (Nat × Bool)}
    (hg : gd L σ ⟨some d, .indexAddr t x ix, ty, pos, af, g⟩ = some true) (hd : Nat.ble (d + 1) n = true)
    (hx : ev σ x = some v) (hi : ev σ ix = some (.int kd i)) [hs : IsS P t e] [ht : IsT P e α] (hown : Own w B e F v xs) (h0 : 0 ≤ i) (h1 : i < xs.length)
    (hg' : ∀ p, gd L ((d, .pointer p) :: σ) ⟨none, .store e (.tmp d) y, ty', pos', af', g'⟩ = some true) (hy : ∀ p, ev ((d, .pointer p) :: σ) y = some u) (hu : Rd w F u yv)
    (h : ∀ w' p, Own w' B e F v (xs.set i.toNat yv) → w.grownBy w' v.ownBlock → WL P L Q rest n ((d, .pointer p) :: σ) w') :
    WL P L Q (⟨some d, .indexAddr t x ix, ty, pos, af, g⟩ :: ⟨none, .store e (.tmp d) y, ty', pos', af', g'⟩ :: rest) n σ w := by
  rcases hown with ⟨rfl, rfl⟩ | ⟨b, off, cap, cur, rfl, ho⟩
  · simp at h1; omega
  · refine WL.idx (α := α) hg hd hx hi h0 h1 ?_
    obtain ⟨w', hr, ho', hgr⟩ := run_set (P := P) (v := u) (i := i.toNat) ho (by omega) hu
    refine WL.runU (hg' _) (fun a ha => ?_) (h w' _ ho' hgr)
    have e1 := ha.ev (x := .tmp d) fnd_cons_eq
    have e2 := ha.ev (hy _)
    simp [execOp, e1, e2, Instr.storeAt, Instr.sureAddr, hr]
/- CUTS -/
theorem run_cut {ao : Option Addr} {len cap lo hi : Nat} (w : World) [hs : IsS P t e] [ht : IsT P e α] (h1 : lo ≤ hi) (h2 : hi ≤ cap) (x y : Option Value)
    (hl : x = none ∧ lo = 0 ∨ ∃ k, x = some (.int k (lo : Int))) (hh : y = none ∧ hi = len ∨ ∃ k, y = some (.int k (hi : Int))) :
    (Instr.sliceAt t (.slice ao len cap) x y none).run P w = .ok (.slice (if cap = lo then ao else ao.map (·.add (lo * sz α))) (hi - lo) (cap - lo)) w := by
  have a1 : (lo : Int) ≤ (hi : Int) := by omega
  have a2 : (hi : Int) ≤ (cap : Int) := by omega
  have a3 : (0 : Int) ≤ (lo : Int) := by omega
  have a4 : (0 : Int) ≤ (hi : Int) := by omega
  simp only [Instr.sliceAt, Sem.run_bind, run_underlying hs.ok, Result.andThen_ok, Instr.slice, Instr.sliceBounds]
  rcases hl with ⟨rfl, rfl⟩ | ⟨k, rfl⟩
  · rcases hh with ⟨rfl, rfl⟩ | ⟨k', rfl⟩
    · simp [run_sizeOf (α := α)]
    · simp [run_sizeOf (α := α), Instr.sliceBound, asIntOf, h2, Addr.add_zero']
  · rcases hh with ⟨rfl, rfl⟩ | ⟨k', rfl⟩
    · simp [run_sizeOf (α := α), Instr.sliceBound, asIntOf, h1]
    · simp [run_sizeOf (α := α), Instr.sliceBound, asIntOf, h1, h2]
theorem Own.take {v : Value} {xs : List α} {B : Nat} (h : Own w B e F v xs) {ao : Option Addr} {cap k : Nat} (hv : v = .slice ao xs.length cap) (hk : k ≤ xs.length) : Own w B e F (.slice ao k cap) (xs.take k) := by
  rcases h with ⟨h1, rfl⟩ | ⟨g, off, cp, cur, h1, ho⟩
  · rw [h1] at hv
    obtain ⟨rfl, _, rfl⟩ := Value.slice.inj hv
    have : k = 0 := by simpa using hk
    subst this
    exact .inl ⟨rfl, by simp⟩
  · rw [h1] at hv
    obtain ⟨rfl, _, rfl⟩ := Value.slice.inj hv
    have hlen : (xs.take k).length = k := by rw [List.length_take]; omega
    refine .inr ⟨g, off, cp, cur, by rw [hlen], ⟨ho.blk, ho.ge, ho.nF, by rw [hlen]; exact Nat.le_trans hk ho.le, ho.mx, ho.fit, ?_⟩⟩
    have := ho.el.take k hk
    rw [List.take_take, Nat.min_eq_left (Nat.mul_le_mul_right _ hk)] at this
    rw [hlen]; exact this
theorem Own.drop {v : Value} {xs : List α} {B : Nat} (h : Own w B e F v xs) {ao : Option Addr} {cap k : Nat} (hv : v = .slice ao xs.length cap) (hk : k ≤ xs.length) :
    Own w B e F (.slice (if cap = k then ao else ao.map (·.add (k * sz α))) (xs.length - k) (cap - k)) (xs.drop k) := by
  rcases h with ⟨h1, rfl⟩ | ⟨g, off, cp, cur, h1, ho⟩
  · rw [h1] at hv
    obtain ⟨rfl, _, rfl⟩ := Value.slice.inj hv
    have : k = 0 := by simpa using hk
    subst this
    exact .inl ⟨by simp, by simp⟩
  · rw [h1] at hv
    obtain ⟨rfl, _, rfl⟩ := Value.slice.inj hv
    have hlen : (xs.drop k).length = xs.length - k := List.length_drop
    have hle := ho.le
    have hfit := ho.fit
    have hmul : k * sz α + (cp - k) * sz α = cp * sz α := by rw [← Nat.add_mul]; congr 1; omega
    refine .inr ⟨g, if cp = k then off else off + k * sz α, cp - k, cur, ?_, ⟨ho.blk, ho.ge, ho.nF, by rw [hlen]; omega, ?_, ?_, ?_⟩⟩
    · rw [hlen]
      split
      · rfl
      · simp [WideShapes.add_plain]
    · have := ho.mx; omega
    · split
      · rename_i he; have : cp - k = 0 := by omega
        rw [this]; omega
      · omega
    · have := ho.el.drop k hk
      rw [hlen]
      split
      · rename_i he
        have h0 : xs.length - k = 0 := by omega
        have hx : xs.drop k = [] := List.eq_nil_of_length_eq_zero (by rw [hlen]; exact h0)
        rw [h0, hx]
        simpa using Elems.nil
      · rw [List.drop_take, List.drop_drop] at this
        rw [Nat.sub_mul]
        exact this
theorem Sl.take {ao : Option Addr} {cap k : Nat} {xs : List α} (h : Sl w F ao cap xs) (hk : k ≤ xs.length) : Sl w F ao cap (xs.take k) := by
  refine ⟨by rw [List.length_take]; have := h.le; omega, h.mx, h.nil, fun i hi => ?_⟩
  have : i < xs.length := by rw [List.length_take] at hi; omega
  rw [List.getElem_take]
  exact h.el i this
theorem Sl.drop {ao : Option Addr} {cap k : Nat} {xs : List α} (h : Sl w F ao cap xs) (hk : k ≤ xs.length) : Sl w F (if cap = k then ao else ao.map (·.add (k * sz α))) (cap - k) (xs.drop k) := by
  have hle := h.le
  refine ⟨by rw [List.length_drop]; omega, by have := h.mx; omega, ?_, fun i hi => ?_⟩
  · intro e1
    split at e1
    · rename_i e2; omega
    · cases ao with
      | none => have := h.nil rfl; omega
      | some a => simp at e1
  · have hi' : k + i < xs.length := by rw [List.length_drop] at hi; omega
    obtain ⟨b, off, rfl, hF, es, hc, hr⟩ := h.el (k + i) hi'
    rw [if_neg (by omega)]
    refine ⟨b, off + k * sz α, by simp [WideShapes.add_plain], hF, es, ?_, ?_⟩
    · rw [Nat.add_assoc, ← Nat.add_mul]; exact hc
    · rw [List.getElem_drop]; exact hr
/-- x[:k] -/
theorem WL.cutHi {x y : Operand} {ao : Option Addr} {len cap : Nat} {i : Int} {kd : IntKind} (k : Nat) (hik : i = (k : Int)) (hg : gd L σ ⟨some d, .slice t x none (some y) none, ty, pos, af, g⟩ = some true) (hd : Nat.ble (d + 1) n = true)
    (hx : ev σ x = some (.slice ao len cap)) (hy : ev σ y = some (.int kd i)) [hs : IsS P t e] [ht : IsT P e α] (hk : k ≤ cap)
    (h : WL P L Q rest n ((d, .slice ao k cap) :: σ) w) : WL P L Q (⟨some d, .slice t x none (some y) none, ty, pos, af, g⟩ :: rest) n σ w := by
  subst hik
  refine WL.run hg hd (fun a ha => ?_) h
  have := run_cut (P := P) (t := t) (e := e) (α := α) (ao := ao) (len := len) (cap := cap) (lo := 0) (hi := k) w (by omega) hk none (some (.int kd (k : Int))) (.inl ⟨rfl, rfl⟩) (.inr ⟨kd, rfl⟩)
  simp [execOp, ha.ev hx, ha.ev hy, this, Addr.add_zero']
/-- x[k:] -/
theorem WL.cutLo {x y : Operand} {ao : Option Addr} {len cap : Nat} {i : Int} {kd : IntKind} (k : Nat) (hik : i = (k : Int)) (hg : gd L σ ⟨some d, .slice t x (some y) none none, ty, pos, af, g⟩ = some true) (hd : Nat.ble (d + 1) n = true)
    (hx : ev σ x = some (.slice ao len cap)) (hy : ev σ y = some (.int kd i)) [hs : IsS P t e] [ht : IsT P e α] (hk : k ≤ len) (hc : len ≤ cap)
    (h : WL P L Q rest n ((d, .slice (if cap = k then ao else ao.map (·.add (k * sz α))) (len - k) (cap - k)) :: σ) w) : WL P L Q (⟨some d, .slice t x (some y) none none, ty, pos, af, g⟩ :: rest) n σ w := by
  subst hik
  refine WL.run hg hd (fun a ha => ?_) h
  have := run_cut (P := P) (t := t) (e := e) (α := α) (ao := ao) (len := len) (cap := cap) (lo := k) (hi := len) w hk hc (some (.int kd (k : Int))) none (.inr ⟨kd, rfl⟩) (.inl ⟨rfl, rfl⟩)
  simp [execOp, ha.ev hx, ha.ev hy, this]
theorem Own.le {v : Value} {xs : List α} {B : Nat} (h : Own w B e F v xs) {ao : Option Addr} {len cap : Nat} (hv : v = .slice ao len cap) : xs.length ≤ cap := by
  rcases h with ⟨h1, rfl⟩ | ⟨g, off, cp, cur, h1, ho⟩
  · simp
  · rw [h1] at hv
    obtain ⟨_, _, rfl⟩ := Value.slice.inj hv
    exact ho.le
end
end Go.Proofs.YtikigaeihdmcaaaGreatDoor

/-
  Statements whose order is open, where every operation only reads or calls what only makes memory. Over any program.
-/
set_option linter.unusedVariables false
set_option linter.unusedSimpArgs false
namespace Go.Proofs.YtikigaeihdmcaaaGreatDoor
open Go.RowKit

@[irreducible] def QL (P : Program) (ops : List Oper) (w : World) (Q : Exit → Act → World → Prop) (l : List Oper) (n : Nat) (σ : Sg) : Prop :=
  ∀ a, Fr n σ a → wpQuiet P ops.toArray (fun w' => Ext w w') (fun a' => ∀ w', Ext w w' → Q .normal a' w') l a

section
variable {P : Program} {Q : Exit → Act → World → Prop} {n : Nat} {σ : Sg} {w : World} {L rest : List Oper} {d : Nat} {op : Op} {ty : TypeId} {pos : String} {af : Array Edge} {g : Option (Nat × Bool)}

theorem CW.draw {id : Nat} {l : List Oper} (hm : P.follows .mixedOrders = true) (hB : Region.lexB .any l.toArray = true) (h : QL P l w Q l n σ) : CW P (.region id l.toArray true) Q n σ w := by
  unfold CW; unfold QL at h; intro a ha
  exact wp_region_quiet (C := fun w' => Ext w w') hm hB ⟨rfl, rfl, rfl, Nat.le_refl _, fun _ _ => rfl⟩ (by simpa using h a ha)
theorem QL.nil {l : List Oper} (h : ∀ w', Ext w w' → EX Q .normal n σ w') : QL P l w Q [] n σ := by
  unfold QL; unfold EX at h; intro a ha
  exact wpQuiet_nil (fun w' hw' => h w' hw' a ha)
theorem QL.run {v : Value} (hg : gd L σ ⟨some d, op, ty, pos, af, g⟩ = some true) (hd : Nat.ble (d + 1) n = true)
    (hr : ∀ a, Fr n σ a → ∀ w', Ext w w' → (execOp a.eval ⟨some d, op, ty, pos, af, g⟩).run P w' = .ok (.value v) w') (h : QL P L w Q rest n ((d, v) :: σ)) : QL P L w Q (⟨some d, op, ty, pos, af, g⟩ :: rest) n σ := by
  unfold QL at *
  intro a ha
  refine wpQuiet_step fun K hK => ?_
  rw [gd_wanted ha hg, if_pos rfl]
  refine ⟨v, fun w' hw' => ?_, hK _ (h _ (ha.put (d := some d) hd))⟩
  unfold Oper.quietAt
  rw [hr a ha w' hw']
  exact ⟨rfl, rfl⟩
theorem QL.pure {v : Value} (hg : gd L σ ⟨some d, op, ty, pos, af, g⟩ = some true) (hd : Nat.ble (d + 1) n = true)
    (hv : pureOp σ op = some v) (h : QL P L w Q rest n ((d, v) :: σ)) : QL P L w Q (⟨some d, op, ty, pos, af, g⟩ :: rest) n σ :=
  QL.run hg hd (fun a ha _ _ => pureOp_run ha hv) h
theorem QL.pass (hg : gd L σ ⟨some d, op, ty, pos, af, g⟩ = some false) (hd : Nat.ble (d + 1) n = true) (h : QL P L w Q rest n ((d, undef) :: σ)) : QL P L w Q (⟨some d, op, ty, pos, af, g⟩ :: rest) n σ := by
  unfold QL at *
  intro a ha
  refine wpQuiet_step fun K hK => ?_
  rw [gd_wanted ha hg, if_neg (by simp)]
  exact hK _ (h _ (ha.put (d := some d) hd))
theorem QL.look {s : Nat} {b : Bool} (hs : fnd σ s = some (.bool b)) (ht : b = true → QL P L w Q rest n ((s, .bool true) :: σ)) (hf : b = false → QL P L w Q rest n ((s, .bool false) :: σ)) : QL P L w Q rest n σ := by
  unfold QL at *
  intro a ha
  cases b with
  | true => exact ht rfl a (ha.set hs)
  | false => exact hf rfl a (ha.set hs)
theorem QL.lookG {dd : Option Nat} {j s : Nat} {want b : Bool} (hj : gslot L j = some s) (hs : fnd σ s = some (.bool b)) (ht : b = true → QL P L w Q (⟨dd, op, ty, pos, af, some (j, want)⟩ :: rest) n ((s, .bool true) :: σ))
    (hf : b = false → QL P L w Q (⟨dd, op, ty, pos, af, some (j, want)⟩ :: rest) n ((s, .bool false) :: σ)) : QL P L w Q (⟨dd, op, ty, pos, af, some (j, want)⟩ :: rest) n σ := QL.look hs ht hf
theorem QL.add {t yt : TypeId} {x y : Operand} {a b : Int} (hg : gd L σ ⟨some d, .binOp .add t x y yt, ty, pos, af, g⟩ = some true) (hd : Nat.ble (d + 1) n = true)
    (hx : ev σ x = some (.int .i64 a)) (hy : ev σ y = some (.int .i64 b)) (h0 : -9223372036854775808 ≤ a + b) (h1 : a + b < 9223372036854775808) (h : QL P L w Q rest n ((d, .int .i64 (a + b)) :: σ)) : QL P L w Q (⟨some d, .binOp .add t x y yt, ty, pos, af, g⟩ :: rest) n σ := by
  refine QL.pure hg hd (v := .int .i64 (a + b)) ?_ h
  simp only [pureOp, hx, hy, pbin]
  rw [wrap_in h0 h1]
theorem QL.sub' {t yt : TypeId} {x y : Operand} {a b : Int} (hg : gd L σ ⟨some d, .binOp .sub t x y yt, ty, pos, af, g⟩ = some true) (hd : Nat.ble (d + 1) n = true)
    (hx : ev σ x = some (.int .i64 a)) (hy : ev σ y = some (.int .i64 b)) (h0 : -9223372036854775808 ≤ a - b) (h1 : a - b < 9223372036854775808) (h : QL P L w Q rest n ((d, .int .i64 (a - b)) :: σ)) : QL P L w Q (⟨some d, .binOp .sub t x y yt, ty, pos, af, g⟩ :: rest) n σ := by
  refine QL.pure hg hd (v := .int .i64 (a - b)) ?_ h
  simp only [pureOp, hx, hy, pbin]
  rw [wrap_in h0 h1]
theorem QL.mul {t yt : TypeId} {x y : Operand} {a b : Int} (hg : gd L σ ⟨some d, .binOp .mul t x y yt, ty, pos, af, g⟩ = some true) (hd : Nat.ble (d + 1) n = true)
    (hx : ev σ x = some (.int .i64 a)) (hy : ev σ y = some (.int .i64 b)) (h0 : -9223372036854775808 ≤ a * b) (h1 : a * b < 9223372036854775808) (h : QL P L w Q rest n ((d, .int .i64 (a * b)) :: σ)) : QL P L w Q (⟨some d, .binOp .mul t x y yt, ty, pos, af, g⟩ :: rest) n σ := by
  refine QL.pure hg hd (v := .int .i64 (a * b)) ?_ h
  simp only [pureOp, hx, hy, pbin]
  rw [wrap_in h0 h1]
theorem QL.makeFunc {fn : Fn} {fs cs : List Operand} {fv cv : List Value} (hg : gd L σ ⟨some d, .makeFunc fn fs.toArray cs.toArray, ty, pos, af, g⟩ = some true) (hd : Nat.ble (d + 1) n = true)
    (hf : evs σ fs = some fv) (hc : evs σ cs = some cv) (h : QL P L w Q rest n ((d, .func fn fv.toArray cv.toArray) :: σ)) : QL P L w Q (⟨some d, .makeFunc fn fs.toArray cs.toArray, ty, pos, af, g⟩ :: rest) n σ := by
  refine QL.run hg hd (fun a ha _ _ => ?_) h
  have e1 := evs_eq ha fs fv hf
  have e2 := evs_eq ha cs cv hc
  simp [execOp, Instr.makeFunc, e1, e2]
theorem QL.lenS {t e : TypeId} {x : Operand} {ao : Option Addr} {k cap : Nat} (hg : gd L σ ⟨some d, .call ⟨.builtin .len, #[x], #[t]⟩, ty, pos, af, g⟩ = some true) (hd : Nat.ble (d + 1) n = true)
    (hx : ev σ x = some (.slice ao k cap)) [hs : IsS P t e] (h : QL P L w Q rest n ((d, .int .i64 (k : Int)) :: σ)) : QL P L w Q (⟨some d, .call ⟨.builtin .len, #[x], #[t]⟩, ty, pos, af, g⟩ :: rest) n σ := by
  refine QL.run hg hd (fun a ha _ _ => ?_) h
  simp [execOp, resolve, invoke, builtin, ha.ev hx, Builtin.len_, run_underlying hs.ok, goInt]
theorem QL.idx {α : Type} [Rep α] {t e : TypeId} {x ix : Operand} {b off : Nat} {k cap : Nat} {i : Int} {kd : IntKind} (hg : gd L σ ⟨some d, .indexAddr t x ix, ty, pos, af, g⟩ = some true) (hd : Nat.ble (d + 1) n = true)
    (hx : ev σ x = some (.slice (some ⟨b, off, none⟩) k cap)) (hi : ev σ ix = some (.int kd i)) [hs : IsS P t e] [ht : IsT P e α] (h0 : 0 ≤ i) (h1 : i < k)
    (h : QL P L w Q rest n ((d, .pointer (some ⟨b, off + i.toNat * sz α, none⟩)) :: σ)) : QL P L w Q (⟨some d, .indexAddr t x ix, ty, pos, af, g⟩ :: rest) n σ := by
  refine QL.run hg hd (fun a ha _ _ => ?_) h
  simp [execOp, ha.ev hx, ha.ev hi, Instr.indexAt, asIntOf, run_underlying hs.ok, h0, h1, run_sizeOf (α := α), WideShapes.add_plain]
theorem QL.load {α : Type} [Rep α] {t : TypeId} {x : Operand} {b off : Nat} {F : Nat → Prop} {cs : List Value} {y : α} (hg : gd L σ ⟨some d, .load t x, ty, pos, af, g⟩ = some true) (hd : Nat.ble (d + 1) n = true)
    (hx : ev σ x = some (.pointer (some ⟨b, off, none⟩))) [ht : IsT P t α] (hb : b < w.heap.size) (hF : ∀ b, F b → b < w.heap.size) (hc : Cells w b off cs) (hr : rd w F cs y)
    (h : QL P L w Q rest n ((d, vOf α cs) :: σ)) : QL P L w Q (⟨some d, .load t x, ty, pos, af, g⟩ :: rest) n σ := by
  refine QL.run hg hd (fun a ha w' hw' => ?_) h
  have hc' : Cells w' b off cs := hc.mono (hw'.block b hb)
  have hr' : rd w' F cs y := Rep.mono hr (fun k hk => hw'.block k (hF k hk)) fun _ h => h
  simp [execOp, ha.ev hx, Instr.loadAt, Instr.sureAddr, run_loadAt hc' hr']
/-- x[i], read -/
theorem QL.elem {α : Type} [Rep α] {t e : TypeId} {x ix : Operand} {ao : Option Addr} {cap d' : Nat} {xs : List α} {F : Nat → Prop} {i : Int} {kd : IntKind} {ty' : TypeId} {pos' : String} {af' : Array Edge} {g' : Option (Nat × Bool)}
    (hg : gd L σ ⟨some d, .indexAddr t x ix, ty, pos, af, g⟩ = some true) (hd : Nat.ble (d + 1) n = true) (hd' : Nat.ble (d' + 1) n = true)
    (hx : ev σ x = some (.slice ao xs.length cap)) (hi : ev σ ix = some (.int kd i)) [hs : IsS P t e] [ht : IsT P e α] (hF : ∀ b, F b → b < w.heap.size) (hsl : Sl w F ao cap xs) (h0 : 0 ≤ i) (h1 : i < xs.length)
    (hg' : ∀ p, gd L ((d, .pointer p) :: σ) ⟨some d', .load e (.tmp d), ty', pos', af', g'⟩ = some true)
    (h : ∀ u p, Rd w F u (xs[i.toNat]'(by omega)) → QL P L w Q rest n ((d', u) :: (d, .pointer p) :: σ)) :
    QL P L w Q (⟨some d, .indexAddr t x ix, ty, pos, af, g⟩ :: ⟨some d', .load e (.tmp d), ty', pos', af', g'⟩ :: rest) n σ := by
  obtain ⟨b, off, rfl, hFb, es, hc, hr⟩ := hsl.el i.toNat (by omega)
  refine QL.idx (α := α) hg hd hx hi h0 h1 ?_
  refine QL.load (α := α) (hg' _) hd' fnd_cons_eq (hF b hFb) hF hc hr ?_
  exact h _ _ ⟨es, rfl, hr⟩
theorem QL.elemN {α : Type} [Rep α] {t e : TypeId} {x ix : Operand} {ao : Option Addr} {cap d' : Nat} {xs : List α} {F : Nat → Prop} {i : Nat} {kd : IntKind} {ty' : TypeId} {pos' : String} {af' : Array Edge} {g' : Option (Nat × Bool)}
    (hg : gd L σ ⟨some d, .indexAddr t x ix, ty, pos, af, g⟩ = some true) (hd : Nat.ble (d + 1) n = true) (hd' : Nat.ble (d' + 1) n = true)
    (hx : ev σ x = some (.slice ao xs.length cap)) (hi : ev σ ix = some (.int kd (i : Int))) [hs : IsS P t e] [ht : IsT P e α] (hF : ∀ b, F b → b < w.heap.size) (hsl : Sl w F ao cap xs) (h1 : i < xs.length)
    (hg' : ∀ p, gd L ((d, .pointer p) :: σ) ⟨some d', .load e (.tmp d), ty', pos', af', g'⟩ = some true)
    (h : ∀ u p, Rd w F u xs[i] → QL P L w Q rest n ((d', u) :: (d, .pointer p) :: σ)) :
    QL P L w Q (⟨some d, .indexAddr t x ix, ty, pos, af, g⟩ :: ⟨some d', .load e (.tmp d), ty', pos', af', g'⟩ :: rest) n σ :=
  QL.elem hg hd hd' hx hi hF hsl (by omega) (by omega) hg' (fun u p hu => h u p (by simpa using hu))
theorem QL.elemI {t e : TypeId} {x ix : Operand} {ao : Option Addr} {cap d' : Nat} {xs : List Int} {F : Nat → Prop} {i : Nat} {y : Int} {kd : IntKind} {ty' : TypeId} {pos' : String} {af' : Array Edge} {g' : Option (Nat × Bool)}
    (hg : gd L σ ⟨some d, .indexAddr t x ix, ty, pos, af, g⟩ = some true) (hd : Nat.ble (d + 1) n = true) (hd' : Nat.ble (d' + 1) n = true)
    (hx : ev σ x = some (.slice ao xs.length cap)) (hi : ev σ ix = some (.int kd (i : Int))) [hs : IsS P t e] [ht : IsT P e Int] (hF : ∀ b, F b → b < w.heap.size) (hsl : Sl w F ao cap xs) (h1 : i < xs.length) (hy : xs[i] = y)
    (hg' : ∀ p, gd L ((d, .pointer p) :: σ) ⟨some d', .load e (.tmp d), ty', pos', af', g'⟩ = some true)
    (h : ∀ p, QL P L w Q rest n ((d', .int .i64 y) :: (d, .pointer p) :: σ)) :
    QL P L w Q (⟨some d, .indexAddr t x ix, ty, pos, af, g⟩ :: ⟨some d', .load e (.tmp d), ty', pos', af', g'⟩ :: rest) n σ :=
  QL.elemN hg hd hd' hx hi hF hsl h1 hg' (fun u p hu => by rw [hu.int, hy]; exact h p)
/-- a call whose answer doesn't hang on memory -/
theorem QL.callV {f : FuncId} {x : Operand} {xs : List Operand} {ts : Array TypeId} {vs fv cv : List Value} {v : Value}
    (hg : gd L σ ⟨some d, .call ⟨.value x, xs.toArray, ts⟩, ty, pos, af, g⟩ = some true) (hd : Nat.ble (d + 1) n = true) (hx : ev σ x = some (.func (.func f) fv.toArray cv.toArray)) (hv : evs σ xs = some vs) [hf : IsF P f]
    (hc : ∀ w1, Ext w w1 → Rt P f (fv ++ vs ++ cv).toArray w1 fun u w2 => u = v ∧ Ext w1 w2) (h : QL P L w Q rest n ((d, v) :: σ)) : QL P L w Q (⟨some d, .call ⟨.value x, xs.toArray, ts⟩, ty, pos, af, g⟩ :: rest) n σ := by
  unfold QL at *
  intro a ha
  refine wpQuiet_step fun K hK => ?_
  rw [gd_wanted ha hg, if_pos rfl]
  have e1 := evs_eq ha xs vs hv
  have e2 := ha.ev hx
  refine ⟨v, fun w' hw' => ?_, hK _ (h _ (ha.put (d := some d) hd))⟩
  have hr : (execOp a.eval ⟨some d, .call ⟨.value x, xs.toArray, ts⟩, ty, pos, af, g⟩).run P w' = .ok (.enter f (fv ++ vs ++ cv).toArray) w' := by
    have := callFunc_run (P := P) (f := f) (w := w') (fv ++ vs ++ cv).toArray
    simp [execOp, resolve, e2, Deferred.ofValue, invoke, e1]
    simpa using this
  unfold Oper.quietAt
  rw [hr]
  refine ⟨rfl, Calls.mono (hc w' hw') ?_⟩
  rintro e w'' ⟨u, rfl, rfl, hE⟩
  exact ⟨rfl, Ext.trans hw' hE⟩
theorem QL.call {f : FuncId} {xs : List Operand} {ts : Array TypeId} {vs : List Value} {v : Value}
    (hg : gd L σ ⟨some d, .call ⟨.value (.func f), xs.toArray, ts⟩, ty, pos, af, g⟩ = some true) (hd : Nat.ble (d + 1) n = true) (hv : evs σ xs = some vs) [hf : IsF P f]
    (hc : ∀ w1, Ext w w1 → Rt P f vs.toArray w1 fun u w2 => u = v ∧ Ext w1 w2) (h : QL P L w Q rest n ((d, v) :: σ)) : QL P L w Q (⟨some d, .call ⟨.value (.func f), xs.toArray, ts⟩, ty, pos, af, g⟩ :: rest) n σ :=
  QL.callV hg hd (fv := []) (cv := []) rfl hv (by simpa using hc) h
theorem QL.callF {x : Operand} {xs : List Operand} {ts : Array TypeId} {vs : List Value} {fv v : Value}
    (hg : gd L σ ⟨some d, .call ⟨.value x, xs.toArray, ts⟩, ty, pos, af, g⟩ = some true) (hd : Nat.ble (d + 1) n = true) (hx : ev σ x = some fv) (hv : evs σ xs = some vs)
    (hc : ∀ w1, Ext w w1 → FnV P fv vs w1 fun u w2 => u = v ∧ Ext w1 w2) (h : QL P L w Q rest n ((d, v) :: σ)) : QL P L w Q (⟨some d, .call ⟨.value x, xs.toArray, ts⟩, ty, pos, af, g⟩ :: rest) n σ := by
  obtain ⟨f, fs, cs, rfl, hf, _⟩ := hc w (Ext.refl _)
  refine QL.callV hg hd hx hv (fun w1 hw1 => ?_) h
  obtain ⟨f', fs', cs', he, hf', hc'⟩ := hc w1 hw1
  simp only [Value.func.injEq, Fn.func.injEq] at he
  obtain ⟨rfl, e1, e2⟩ := he
  have e1' := congrArg Array.toList e1
  have e2' := congrArg Array.toList e2
  simp only at e1' e2'
  subst e1' e2'
  exact hc'
end

/- BOOLS AND nil COMPARED -/
class IsB (P : Program) (t : TypeId) : Prop where
  ok : P.underlying t = some .bool
section
variable {P : Program} {Q : Exit → Act → World → Prop} {n : Nat} {σ : Sg} {w : World} {L rest : List Oper} {d : Nat} {op : Op} {ty : TypeId} {pos : String} {af : Array Edge} {g : Option (Nat × Bool)} {t yt : TypeId} {x y : Operand}
/-- x == nil, a slice -/
theorem WL.isNil {e : TypeId} {ao : Option Addr} {k cap : Nat} (hg : gd L σ ⟨some d, .binOp .eql t x (.const (.slice none 0 0)) yt, ty, pos, af, g⟩ = some true) (hd : Nat.ble (d + 1) n = true) (hx : ev σ x = some (.slice ao k cap)) [hs : IsS P t e]
    (h : WL P L Q rest n ((d, .bool ao.isNone) :: σ) w) : WL P L Q (⟨some d, .binOp .eql t x (.const (.slice none 0 0)) yt, ty, pos, af, g⟩ :: rest) n σ w := by
  refine WL.run hg hd (fun c hc => ?_) h
  have := run_equal_slice_nil w t e ao k cap hs.ok
  simp [execOp, hc.ev hx, hc.ev (x := .const (.slice none 0 0)) rfl, eqGuard_at_slice, binOp, this]
end
end Go.Proofs.YtikigaeihdmcaaaGreatDoor

/-
  Structs: variables of the call's own whose cells are known one by one; fields; values built; numbers of 64 bits; conversions. Over any program.
-/
set_option linter.unusedVariables false
set_option linter.unusedSimpArgs false
namespace Go.Proofs.YtikigaeihdmcaaaGreatDoor
open Go.RowKit

/- BLOCKS WHOSE CELLS ARE KNOWN -/
def Blk (w : World) (b : Nat) (e : TypeId) (cells : List Value) : Prop := w.heap[b]? = some (.cells cells.toArray e (0, 0))
section
variable {w w' : World} {b : Nat} {e : TypeId} {cells : List Value}
theorem Blk.lt (h : Blk w b e cells) : b < w.heap.size := (Array.getElem?_eq_some_iff.1 h).1
theorem Blk.ext (h : Blk w b e cells) (hE : Ext w w') : Blk w' b e cells := (hE.block b h.lt).trans h
theorem Blk.kept {row : Option Nat} (h : Blk w b e cells) (hg : w.grownBy w' row) (hne : some b ≠ row) : Blk w' b e cells := (hg.block b h.lt hne).trans h
theorem Blk.cell (h : Blk w b e cells) {o : Nat} {v : Value} (hv : cells[o]? = some v) : w.cell? ⟨b, o, none⟩ = some v := by
  rw [cell_of_row w b o cells.toArray e (0, 0) h]; simpa using hv
theorem Blk.all (h : Blk w b e cells) : Cells w b 0 cells := fun j u hu => by rw [Nat.zero_add]; exact h.cell hu
theorem Blk.alloc (w : World) (cells : List Value) (e : TypeId) : Blk (w.alloc (.cells cells.toArray e)) w.heap.size e cells := heap_alloc_new w _
end

/-- a field of a struct type, and its offset -/
class IsFd (P : Program) (t f : Nat) (o : outParam Nat) : Prop where
  ok : ∃ fs fld i, P.underlying t = some (.struct fs) ∧ fs[f]? = some fld ∧ fld.offset = o ∧ P.info? fld.type = some i ∧ i.size ≠ 0
def fdFact (P : Program) (t f : Nat) : Option (Nat × Bool) := match P.underlying t with
  | some (.struct fs) => (fs[f]?).bind fun fld => (P.info? fld.type).map fun i => (fld.offset, Nat.beq i.size 0)
  | _ => none
theorem IsFd.of {P : Program} {t f o : Nat} (h : fdFact P t f = some (o, false)) : IsFd P t f o := by
  unfold fdFact at h
  split at h
  · rename_i fs hu
    obtain ⟨fld, h1, h2⟩ := Option.bind_eq_some_iff.1 h
    obtain ⟨i, h3, h4⟩ := Option.map_eq_some_iff.1 h2
    simp only [Prod.mk.injEq] at h4
    refine ⟨fs, fld, i, hu, h1, h4.1, h3, fun e => ?_⟩
    rw [e] at h4; exact absurd h4.2 (by decide)
  · cases h
/-- a type's number of cells, and whether it is a struct or an array -/
class IsC (P : Program) (t : TypeId) (k : outParam Nat) (ag : outParam Bool) : Prop where
  ok : ∃ i d, P.info? t = some i ∧ i.size = k ∧ P.underlying t = some d ∧ aggD d = ag
theorem IsC.of {P : Program} {t : TypeId} {k : Nat} {ag : Bool} {d : TypeDesc} (h : (P.info? t).map (fun i => Nat.beq i.size k) = some true) (hu : P.underlying t = some d) (hd : aggD d = ag) : IsC P t k ag := by
  obtain ⟨i, hi, he⟩ := Option.map_eq_some_iff.1 h
  exact ⟨i, d, hi, Nat.eq_of_beq_eq_true he, hu, hd⟩
/-- a type's zero cells -/
class IsZC (P : Program) (t : TypeId) (zs : outParam (List Value)) : Prop where
  ok : ∃ i z, P.info? t = some i ∧ i.zero = some z ∧ z.cells = zs.toArray
theorem IsZC.of {P : Program} {t : TypeId} {z : Value} {zs : List Value} (h : (P.info? t).map (fun i => i.zero) = some (some z)) (hz : z.cells = zs.toArray) : IsZC P t zs := by
  obtain ⟨i, hi, he⟩ := Option.map_eq_some_iff.1 h
  exact ⟨i, z, hi, he, hz⟩
/-- the places of a struct's fields -/
class IsBd (P : Program) (t : TypeId) (places : outParam (List (Nat × Nat))) : Prop where
  ok : ∃ fs, P.underlying t = some (.struct fs) ∧ fs.toList.mapM (fun f => (P.info? f.type).map fun i => (f.offset, i.size)) = some places
def bdFact (P : Program) (t : TypeId) : Option (List (Nat × Nat)) := match P.underlying t with
  | some (.struct fs) => fs.toList.mapM (fun f => (P.info? f.type).map fun i => (f.offset, i.size))
  | _ => none
theorem IsBd.of {P : Program} {t : TypeId} {places : List (Nat × Nat)} (h : bdFact P t = some places) : IsBd P t places := by
  unfold bdFact at h
  split at h
  · rename_i fs hu; exact ⟨fs, hu, h⟩
  · cases h

def segL : List Value → Nat → Nat → Option (List Value)
  | _, 0, 0 => some []
  | v :: r, 0, n + 1 => (segL r 0 n).map (v :: ·)
  | _ :: r, o + 1, n => segL r o n
  | [], _, _ => none
theorem segL_eq : ∀ (l : List Value) (o n : Nat) (vs : List Value), segL l o n = some vs → vs.length = n ∧ ∀ j u, vs[j]? = some u → l[o + j]? = some u
  | [], 0, 0, vs, h => by simp [segL] at h; subst h; exact ⟨rfl, fun j u hu => by simp at hu⟩
  | v :: r, 0, 0, vs, h => by simp [segL] at h; subst h; exact ⟨rfl, fun j u hu => by simp at hu⟩
  | [], 0, n + 1, vs, h => by simp [segL] at h
  | [], o + 1, n, vs, h => by simp [segL] at h
  | v :: r, 0, n + 1, vs, h => by
    simp only [segL] at h
    obtain ⟨us, h1, h2⟩ := Option.map_eq_some_iff.1 h
    subst h2
    obtain ⟨h3, h4⟩ := segL_eq r 0 n us h1
    refine ⟨by simp [h3], fun j u hu => ?_⟩
    cases j with
    | zero => simpa using hu
    | succ j =>
      have := h4 j u (by simpa using hu)
      simpa using this
  | v :: r, o + 1, n, vs, h => by
    have h' : segL r o n = some vs := by cases n <;> simpa [segL] using h
    obtain ⟨h3, h4⟩ := segL_eq r o n vs h'
    refine ⟨h3, fun j u hu => ?_⟩
    have := h4 j u hu
    rw [show o + 1 + j = (o + j) + 1 by omega, List.getElem?_cons_succ]; exact this
/-- a value's cells -/
def cellsL : Value → List Value
  | .agg cs => cs.toList
  | v => [v]
theorem cellsL_eq (v : Value) : v.cells = (cellsL v).toArray := by cases v <;> rfl
def overL : List Value → Nat → List Value → Option (List Value)
  | l, 0, [] => some l
  | _ :: r, 0, v :: vs => (overL r 0 vs).map (v :: ·)
  | u :: r, o + 1, vs => (overL r o vs).map (u :: ·)
  | [], _, _ => none
theorem overL_eq : ∀ (l : List Value) (o : Nat) (vs out : List Value), overL l o vs = some out → o + vs.length ≤ l.length ∧ out = l.take o ++ vs ++ l.drop (o + vs.length)
  | [], 0, [], out, h => by simp [overL] at h; subst h; simp
  | v :: r, 0, [], out, h => by simp [overL] at h; subst h; simp
  | [], 0, v :: vs, out, h => by simp [overL] at h
  | [], o + 1, vs, out, h => by simp [overL] at h
  | u :: r, 0, v :: vs, out, h => by
    simp only [overL] at h
    obtain ⟨us, h1, h2⟩ := Option.map_eq_some_iff.1 h
    subst h2
    obtain ⟨h3, h4⟩ := overL_eq r 0 vs us h1
    refine ⟨by simp at h3 ⊢; omega, ?_⟩
    rw [h4]; simp
  | u :: r, o + 1, vs, out, h => by
    have h' : (overL r o vs).map (u :: ·) = some out := by cases vs <;> simpa [overL] using h
    obtain ⟨us, h1, h2⟩ := Option.map_eq_some_iff.1 h'
    subst h2
    obtain ⟨h3, h4⟩ := overL_eq r o vs us h1
    refine ⟨by simp at h3 ⊢; omega, ?_⟩
    rw [h4]
    rw [show o + 1 + vs.length = (o + vs.length) + 1 by omega]
    simp
def nthP : List (Nat × Nat) → Nat → Option (Nat × Nat)
  | [], _ => none
  | x :: _, 0 => some x
  | _ :: r, i + 1 => nthP r i
theorem nthP_eq : ∀ (l : List (Nat × Nat)) (i : Nat), nthP l i = l[i]?
  | [], i => by simp [nthP]
  | x :: r, 0 => by simp [nthP]
  | x :: r, i + 1 => by simp [nthP, nthP_eq r i]
def lenL : List Value → Nat
  | [] => 0
  | _ :: r => lenL r + 1
theorem lenL_eq : ∀ l : List Value, lenL l = l.length
  | [] => rfl
  | _ :: r => by simp [lenL, lenL_eq r]
/-- a struct's cells, field by field -/
def fillL (places : List (Nat × Nat)) : List Value → List (Nat × Value) → Option (List Value)
  | cells, [] => some cells
  | cells, (i, v) :: rest => match nthP places i with
    | none => none
    | some (off, k) => match Nat.beq (lenL (cellsL v)) k, overL cells off (cellsL v) with
      | true, some out => fillL places out rest
      | _, _ => none
theorem fillL_eq (places : List (Nat × Nat)) : ∀ (parts : List (Nat × Value)) (cells out : List Value), fillL places cells parts = some out → Instr.fill (places.toArray[·]?) cells.toArray parts = some out.toArray
  | [], cells, out, h => by simp [fillL] at h; subst h; simp [Instr.fill]
  | (i, v) :: rest, cells, out, h => by
    simp only [fillL] at h
    split at h
    · cases h
    · rename_i off k hp
      split at h
      · rename_i out1 hb ho
        obtain ⟨h1, h2⟩ := overL_eq _ _ _ _ ho
        have hk : (cellsL v).length = k := by rw [← lenL_eq]; exact Nat.eq_of_beq_eq_true hb
        have ih := fillL_eq places rest out1 out h
        rw [nthP_eq] at hp
        have hfs := fold_set (cellsL v) off cells.toArray (by simpa using h1)
        have hfa : (v.cells.zipIdx.foldl (fun (cs : Array Value) (x : Value × Nat) => cs.setIfInBounds (off + x.2) x.1) cells.toArray) = out1.toArray := by
          rw [cellsL_eq, ← Array.foldl_toList, Array.toList_zipIdx, h2]
          simpa using hfs
        have hfb : (v.cells.zipIdx.foldl (fun cs (x : Value × Nat) => match x with | (c, j) => cs.setIfInBounds (off + j) c) cells.toArray) = out1.toArray := hfa
        simp only [Instr.fill]
        rw [show (places.toArray[i]?) = some (off, k) by simpa using hp]
        simp only
        rw [if_neg (by rw [cellsL_eq]; simp [hk]; omega), hfb]
        exact ih
      · cases h

section
variable {P : Program} {Q : Exit → Act → World → Prop} {n : Nat} {σ : Sg} {w : World} {L rest : List Oper} {d : Nat} {ty : TypeId} {pos : String} {af : Array Edge} {g : Option (Nat × Bool)} {t e : TypeId} {x y : Operand} {b o : Nat} {cells : List Value}

theorem run_fa {f k : Nat} [hf : IsFd P t f k] (w : World) : (Instr.fieldAt t (.pointer (some ⟨b, o, none⟩)) f).run P w = .ok (.pointer (some ⟨b, o + k, none⟩)) w := by
  obtain ⟨fs, fld, i, h1, h2, h3, h4, h5⟩ := hf.ok
  simp [Instr.fieldAt, run_underlying h1, h2, Instr.sureAddr, fieldPlace, sizeOf, typeInfo, h4, h5, h3, WideShapes.add_plain]
/-- &x.f -/
theorem WL.fa {f k : Nat} (hg : gd L σ ⟨some d, .fieldAddr t x f, ty, pos, af, g⟩ = some true) (hd : Nat.ble (d + 1) n = true) (hx : ev σ x = some (.pointer (some ⟨b, o, none⟩))) [hf : IsFd P t f k]
    (h : WL P L Q rest n ((d, .pointer (some ⟨b, o + k, none⟩)) :: σ) w) : WL P L Q (⟨some d, .fieldAddr t x f, ty, pos, af, g⟩ :: rest) n σ w := by
  refine WL.run hg hd (fun a ha => ?_) h
  simp [execOp, ha.ev hx, run_fa (P := P) (t := t) (f := f) (k := k)]
theorem QL.fa {f k : Nat} (hg : gd L σ ⟨some d, .fieldAddr t x f, ty, pos, af, g⟩ = some true) (hd : Nat.ble (d + 1) n = true) (hx : ev σ x = some (.pointer (some ⟨b, o, none⟩))) [hf : IsFd P t f k]
    (h : QL P L w Q rest n ((d, .pointer (some ⟨b, o + k, none⟩)) :: σ)) : QL P L w Q (⟨some d, .fieldAddr t x f, ty, pos, af, g⟩ :: rest) n σ := by
  refine QL.run hg hd (fun a ha w' _ => ?_) h
  simp [execOp, ha.ev hx, run_fa (P := P) (t := t) (f := f) (k := k)]
theorem run_ld {v : Value} (w : World) (hb : Blk w b e cells) (hv : nthV cells o = some v) [hc : IsC P t 1 false] : (Instr.loadAt t (.pointer (some ⟨b, o, none⟩))).run P w = .ok v w := by
  obtain ⟨i, dd, h1, h2, h3, h4⟩ := hc.ok
  have hagg : (isAgg t).run P w = .ok false w := by
    unfold isAgg
    rw [Sem.run_bind, run_underlying h3 w, ← h4]
    cases dd <;> rfl
  rw [nthV_eq] at hv
  simp only [Instr.loadAt, Sem.run_bind, Instr.sureAddr, Sem.run_pure, Result.andThen_ok, loadVar, hagg]
  simp [hb.cell hv]
theorem run_ldA {vs : List Value} {k : Nat} (w : World) (hb : Blk w b e cells) (hv : segL cells o k = some vs) [hc : IsC P t k true] : (Instr.loadAt t (.pointer (some ⟨b, o, none⟩))).run P w = .ok (.agg vs.toArray) w := by
  obtain ⟨i, dd, h1, h2, h3, h4⟩ := hc.ok
  have hagg : (isAgg t).run P w = .ok true w := by
    unfold isAgg
    rw [Sem.run_bind, run_underlying h3 w, ← h4]
    cases dd <;> rfl
  obtain ⟨hl, hs⟩ := segL_eq _ _ _ _ hv
  have hld := run_loadCells_list (P := P) w ⟨b, o, none⟩ vs (fun j u hu => by rw [WideShapes.add_plain]; exact hb.cell (hs j u hu))
  rw [hl] at hld
  simp [Instr.loadAt, Instr.sureAddr, loadVar, hagg, sizeOf, typeInfo, h1, h2, hld]
/-- *p, one cell -/
theorem WL.ld {v : Value} (hg : gd L σ ⟨some d, .load t x, ty, pos, af, g⟩ = some true) (hd : Nat.ble (d + 1) n = true) (hx : ev σ x = some (.pointer (some ⟨b, o, none⟩))) [hc : IsC P t 1 false] (hb : Blk w b e cells) (hv : nthV cells o = some v)
    (h : WL P L Q rest n ((d, v) :: σ) w) : WL P L Q (⟨some d, .load t x, ty, pos, af, g⟩ :: rest) n σ w := by
  refine WL.run hg hd (fun a ha => ?_) h
  simp [execOp, ha.ev hx, run_ld (P := P) (t := t) w hb hv]
theorem QL.ld {v : Value} (hg : gd L σ ⟨some d, .load t x, ty, pos, af, g⟩ = some true) (hd : Nat.ble (d + 1) n = true) (hx : ev σ x = some (.pointer (some ⟨b, o, none⟩))) [hc : IsC P t 1 false] (hb : Blk w b e cells) (hv : nthV cells o = some v)
    (h : QL P L w Q rest n ((d, v) :: σ)) : QL P L w Q (⟨some d, .load t x, ty, pos, af, g⟩ :: rest) n σ := by
  refine QL.run hg hd (fun a ha w' hE => ?_) h
  simp [execOp, ha.ev hx, run_ld (P := P) (t := t) w' (hb.ext hE) hv]
/-- *p, a struct -/
theorem WL.ldA {vs : List Value} {k : Nat} (hg : gd L σ ⟨some d, .load t x, ty, pos, af, g⟩ = some true) (hd : Nat.ble (d + 1) n = true) (hx : ev σ x = some (.pointer (some ⟨b, o, none⟩))) [hc : IsC P t k true] (hb : Blk w b e cells) (hv : segL cells o k = some vs)
    (h : WL P L Q rest n ((d, .agg vs.toArray) :: σ) w) : WL P L Q (⟨some d, .load t x, ty, pos, af, g⟩ :: rest) n σ w := by
  refine WL.run hg hd (fun a ha => ?_) h
  simp [execOp, ha.ev hx, run_ldA (P := P) (t := t) w hb hv]
theorem QL.ldA {vs : List Value} {k : Nat} (hg : gd L σ ⟨some d, .load t x, ty, pos, af, g⟩ = some true) (hd : Nat.ble (d + 1) n = true) (hx : ev σ x = some (.pointer (some ⟨b, o, none⟩))) [hc : IsC P t k true] (hb : Blk w b e cells) (hv : segL cells o k = some vs)
    (h : QL P L w Q rest n ((d, .agg vs.toArray) :: σ)) : QL P L w Q (⟨some d, .load t x, ty, pos, af, g⟩ :: rest) n σ := by
  refine QL.run hg hd (fun a ha w' hE => ?_) h
  simp [execOp, ha.ev hx, run_ldA (P := P) (t := t) w' (hb.ext hE) hv]
/-- a nil check that passes -/
theorem WL.nck {p : Addr} (hg : gd L σ ⟨some d, .nilCheck x, ty, pos, af, g⟩ = some true) (hd : Nat.ble (d + 1) n = true) (hx : ev σ x = some (.pointer (some p)))
    (h : WL P L Q rest n ((d, .pointer (some p)) :: σ) w) : WL P L Q (⟨some d, .nilCheck x, ty, pos, af, g⟩ :: rest) n σ w := by
  refine WL.run hg hd (fun a ha => ?_) h
  simp [execOp, ha.ev hx]
theorem QL.nck {p : Addr} (hg : gd L σ ⟨some d, .nilCheck x, ty, pos, af, g⟩ = some true) (hd : Nat.ble (d + 1) n = true) (hx : ev σ x = some (.pointer (some p)))
    (h : QL P L w Q rest n ((d, .pointer (some p)) :: σ)) : QL P L w Q (⟨some d, .nilCheck x, ty, pos, af, g⟩ :: rest) n σ := by
  refine QL.run hg hd (fun a ha _ _ => ?_) h
  simp [execOp, ha.ev hx]
/-- a variable of the call's own, with a value -/
theorem WL.boxB {v : Value} (hg : gd L σ ⟨some d, .box e x, ty, pos, af, g⟩ = some true) (hd : Nat.ble (d + 1) n = true) (hx : ev σ x = some v)
    (h : ∀ w', Blk w' w.heap.size e (cellsL v) → Ext w w' → WL P L Q rest n ((d, .pointer (some ⟨w.heap.size, 0, none⟩)) :: σ) w') : WL P L Q (⟨some d, .box e x, ty, pos, af, g⟩ :: rest) n σ w := by
  refine WL.box hg hd hx ?_
  have := Blk.alloc w (cellsL v) e
  rw [← cellsL_eq] at this
  exact h _ this (Ext.alloc w _)
/-- .. with the zero value -/
theorem WL.alloc {zs : List Value} (hg : gd L σ ⟨some d, .alloc e, ty, pos, af, g⟩ = some true) (hd : Nat.ble (d + 1) n = true) [hz : IsZC P e zs]
    (h : ∀ w', Blk w' w.heap.size e zs → Ext w w' → WL P L Q rest n ((d, .pointer (some ⟨w.heap.size, 0, none⟩)) :: σ) w') : WL P L Q (⟨some d, .alloc e, ty, pos, af, g⟩ :: rest) n σ w := by
  obtain ⟨i, z, h1, h2, h3⟩ := hz.ok
  refine WL.run hg hd (fun a ha => ?_) (h _ (Blk.alloc w zs e) (Ext.alloc w _))
  simp [execOp, Instr.alloc, zeroValue, typeInfo, h1, h2, newVar, newRow, h3]
theorem grown_setRow (w : World) (b : Nat) (cs : Array Value) : w.grownBy (w.setRow b cs) (some b) := ⟨rfl, rfl, rfl, by simp, fun k _ hk => setRow_other w b k _ (fun e => hk (by simp [e]))⟩
/-- *p = v, as many cells as v has -/
theorem WL.st {v : Value} {k : Nat} {ag : Bool} {out : List Value} (hg : gd L σ ⟨none, .store t x y, ty, pos, af, g⟩ = some true) (hx : ev σ x = some (.pointer (some ⟨b, o, none⟩))) (hy : ev σ y = some v) [hc : IsC P t k ag] (hb : Blk w b e cells)
    (hk : lenL (cellsL v) = k) (hout : overL cells o (cellsL v) = some out) (h1 : ∀ u ∈ cellsL v, u.oneCell' = true)
    (h : ∀ w', Blk w' b e out → w.grownBy w' (some b) → WL P L Q rest n σ w') : WL P L Q (⟨none, .store t x y, ty, pos, af, g⟩ :: rest) n σ w := by
  obtain ⟨hle, rfl⟩ := overL_eq _ _ _ _ hout
  obtain ⟨i, dd, hi1, hi2, _, _⟩ := hc.ok
  rw [lenL_eq] at hk
  subst hk
  have hst := run_storeCells_at P b o e (cellsL v) 0 cells.toArray w hb (by simpa using hle) h1
  simp only [Nat.add_zero] at hst
  refine WL.runU hg (fun a ha => ?_) (h _ (by
    have := setRow_heap w b cells.toArray (cells.take o ++ cellsL v ++ cells.drop (o + (cellsL v).length)).toArray e (0, 0) hb
    exact this) (grown_setRow w b _))
  simp only [execOp, ha.ev hx, ha.ev hy, Instr.storeAt, Sem.run_bind, Instr.sureAddr, Sem.run_pure, Result.andThen_ok, storeVar, sizeOf, typeInfo, run_program, hi1, hi2, cellsL_eq, hst]
  simp
  simp [hst]
theorem run_buildA {parts : List (Nat × Operand)} {vs : List Value} {places : List (Nat × Nat)} {zs out : List Value} {a : Act} (ha : Fr n σ a)
    (hv : evs σ (sndL parts) = some vs) [hz : IsZC P t zs] [hp : IsBd P t places] (hf : fillL places zs ((parts.map (·.1)).zip vs) = some out) {w : World} {dd : Option Nat} :
    (execOp a.eval ⟨dd, .build t parts.toArray, ty, pos, af, g⟩).run P w = .ok (.value (.agg out.toArray)) w := by
  obtain ⟨i, z, h1, h2, h3⟩ := hz.ok
  obtain ⟨fs, h4, h5⟩ := hp.ok
  have hsnd : ∀ l : List (Nat × Operand), sndL l = l.map (·.2) := by
    intro l; induction l with
    | nil => rfl
    | cons p r ih => obtain ⟨i, x⟩ := p; simp [sndL, ih]
  have e1 := evs_eq ha (sndL parts) vs hv
  rw [hsnd, List.map_map] at e1
  have e2 : (parts.toArray.map fun (x : Nat × Operand) => (x.1, a.eval x.2)).toList = (parts.map (·.1)).zip vs := by
    rw [← e1]
    simp only [List.map_toArray]
    clear hv hf e1
    induction parts with
    | nil => rfl
    | cons p r ih => simpa using ih
  have hb : P.built t ((parts.map (·.1)).zip vs) = some out.toArray := by
    unfold Program.built
    rw [h1, h4]
    simp only [h2, h5]
    rw [h3]
    exact fillL_eq places _ zs out hf
  have hrun := run_build (P := P) w t (parts.toArray.map fun (x : Nat × Operand) => (x.1, a.eval x.2)) out.toArray (by rw [e2]; exact hb)
  have e3 : (execOp a.eval ⟨dd, .build t parts.toArray, ty, pos, af, g⟩) = (do let v ← Instr.build t (parts.toArray.map fun (x : Nat × Operand) => (x.1, a.eval x.2)); Pure.pure (Next.value v) : Sem Next) := rfl
  rw [e3, Sem.run_bind, hrun]
  rfl
/-- a struct's value -/
theorem WL.build {parts : List (Nat × Operand)} {vs : List Value} {places : List (Nat × Nat)} {zs out : List Value} (hg : gd L σ ⟨some d, .build t parts.toArray, ty, pos, af, g⟩ = some true) (hd : Nat.ble (d + 1) n = true)
    (hv : evs σ (sndL parts) = some vs) [hz : IsZC P t zs] [hp : IsBd P t places] (hf : fillL places zs ((parts.map (·.1)).zip vs) = some out)
    (h : WL P L Q rest n ((d, .agg out.toArray) :: σ) w) : WL P L Q (⟨some d, .build t parts.toArray, ty, pos, af, g⟩ :: rest) n σ w := by
  exact WL.run hg hd (fun a ha => run_buildA ha hv hf) h
end
end Go.Proofs.YtikigaeihdmcaaaGreatDoor

/-
  Numbers: shifts, bits, division, conversions. Over any program.
-/
set_option linter.unusedVariables false
set_option linter.unusedSimpArgs false
namespace Go.Proofs.YtikigaeihdmcaaaGreatDoor
open Go.RowKit

/-- a region, and what holds behind it: many ways that meet again -/
theorem CW.cut {P : Program} {Q : Exit → Act → World → Prop} {n : Nat} {σ : Sg} {w : World} {x y : Code} (τ : Sg) (h : CW P x (fun e a w' => e = .normal ∧ Fr n τ a ∧ w' = w) n σ w) (hr : CW P y Q n τ w) : CW P (.seq x y) Q n σ w := by
  refine CW.seq ?_
  unfold CW at *
  intro a ha
  refine wp_mono (h a ha) ?_
  rintro e a' w' ⟨rfl, hF, rfl⟩
  exact hr a' hF
theorem EX.cut {n : Nat} {σ τ : Sg} {w : World} (hs : Sub τ σ) : EX (fun e a w' => e = .normal ∧ Fr n τ a ∧ w' = w) .normal n σ w := by
  unfold EX; exact fun a ha => ⟨rfl, ha.sub hs, rfl⟩
/-- the same, with new memory -/
theorem CW.cutE {P : Program} {Q : Exit → Act → World → Prop} {n : Nat} {σ : Sg} {w : World} {x y : Code} (τ : Sg) (h : CW P x (fun e a w' => e = .normal ∧ Fr n τ a ∧ Ext w w') n σ w) (hr : ∀ w', Ext w w' → CW P y Q n τ w') : CW P (.seq x y) Q n σ w := by
  refine CW.seq ?_
  unfold CW at *
  intro a ha
  refine wp_mono (h a ha) ?_
  rintro e a' w' ⟨rfl, hF, hE⟩
  exact hr w' hE a' hF
theorem EX.cutE {n : Nat} {σ τ : Sg} {w w' : World} (hs : Sub τ σ) (hE : Ext w w') : EX (fun e a w' => e = .normal ∧ Fr n τ a ∧ Ext w w') .normal n σ w' := by
  unfold EX; exact fun a ha => ⟨rfl, ha.sub hs, hE⟩

/-- the same, with a state -/
theorem CW.cutI {P : Program} {Q : Exit → Act → World → Prop} {n : Nat} {σ : Sg} {w : World} {x y : Code} {S : Type} (σs : S → Sg) (I : S → World → Prop) (h : CW P x (fun e a w' => e = .normal ∧ ∃ s, Fr n (σs s) a ∧ I s w') n σ w) (hr : ∀ s w', I s w' → CW P y Q n (σs s) w') : CW P (.seq x y) Q n σ w := by
  refine CW.seq ?_
  unfold CW at *
  intro a ha
  refine wp_mono (h a ha) ?_
  rintro e a' w' ⟨rfl, s, hF, hI⟩
  exact hr s w' hI a' hF
theorem EX.cutI {n : Nat} {σ : Sg} {w : World} {S : Type} {σs : S → Sg} {I : S → World → Prop} (s : S) (hs : Sub (σs s) σ) (hI : I s w) : EX (fun e a w' => e = .normal ∧ ∃ s, Fr n (σs s) a ∧ I s w') .normal n σ w := by
  unfold EX; exact fun a ha => ⟨rfl, s, ha.sub hs, hI⟩

def onesL : List Value → Bool
  | [] => true
  | v :: r => match v.oneCell' with
    | true => onesL r
    | false => false
theorem ones_of : ∀ {l : List Value}, onesL l = true → ∀ u ∈ l, u.oneCell' = true
  | [], _, u, hu => by cases hu
  | v :: r, h, u, hu => by
    simp only [onesL] at h
    split at h
    · rename_i hv
      rcases List.mem_cons.1 hu with rfl | hu
      · exact hv
      · exact ones_of h u hu
    · cases h
theorem eqG {op : BinOp} (h : (op == .eql || op == .neq) = false) (t : TypeId) (x y : Operand) (u v : Value) : eqGuard op t x y u v = Pure.pure () := by
  cases op <;> first | rfl | (simp at h)
class IsI (P : Program) (t : TypeId) (k : IntKind) : Prop where
  ok : P.underlying t = some (.int k)

section
variable {P : Program} {Q : Exit → Act → World → Prop} {n : Nat} {σ : Sg} {w : World} {L rest : List Oper} {d : Nat} {ty : TypeId} {pos : String} {af : Array Edge} {g : Option (Nat × Bool)} {t yt : TypeId} {x y : Operand}
theorem WL.conv {a : Int} {k k' : IntKind} (hg : gd L σ ⟨some d, .convert t yt x, ty, pos, af, g⟩ = some true) (hd : Nat.ble (d + 1) n = true) (hx : ev σ x = some (.int k a)) [h1 : IsI P t k] [h2 : IsI P yt k']
    (h : WL P L Q rest n ((d, .int k' (k'.wrap a)) :: σ) w) : WL P L Q (⟨some d, .convert t yt x, ty, pos, af, g⟩ :: rest) n σ w := by
  refine WL.run hg hd (fun a0 ha0 => ?_) h
  simp [execOp, ha0.ev hx, convert, run_underlying h1.ok, run_underlying h2.ok, Conv.intToInt]
theorem QL.conv {a : Int} {k k' : IntKind} (hg : gd L σ ⟨some d, .convert t yt x, ty, pos, af, g⟩ = some true) (hd : Nat.ble (d + 1) n = true) (hx : ev σ x = some (.int k a)) [h1 : IsI P t k] [h2 : IsI P yt k']
    (h : QL P L w Q rest n ((d, .int k' (k'.wrap a)) :: σ)) : QL P L w Q (⟨some d, .convert t yt x, ty, pos, af, g⟩ :: rest) n σ := by
  refine QL.run hg hd (fun a0 ha0 w1 _ => ?_) h
  simp [execOp, ha0.ev hx, convert, run_underlying h1.ok, run_underlying h2.ok, Conv.intToInt]
end
end Go.Proofs.YtikigaeihdmcaaaGreatDoor

/-
  Structs as pairs: their readings, their opening. Over any program.
-/
set_option linter.unusedVariables false
set_option linter.unusedSimpArgs false
namespace Go.Proofs.YtikigaeihdmcaaaGreatDoor
open Go.RowKit

instance iPr1 {α β : Type} [Rep α] [Rep β] : Rep (α × β) where
  sz := sz α + sz β
  pos := by have := (Rep.pos : 0 < Rep.sz α); show 0 < Rep.sz α + Rep.sz β; omega
  agg := true
  rd := fun w F cs x => ∃ c1 c2, cs = c1 ++ c2 ∧ rd w F c1 x.1 ∧ rd w F c2 x.2
  len := by rintro w F cs x ⟨c1, c2, rfl, h1, h2⟩; rw [List.length_append, Rep.len h1, Rep.len h2]
  one := by
    rintro w F cs x ⟨c1, c2, rfl, h1, h2⟩ v hv
    rcases List.mem_append.1 hv with h | h
    · exact Rep.one h1 v h
    · exact Rep.one h2 v h
  szAgg := fun h => by cases h
  mono := by rintro w w' F F' cs x ⟨c1, c2, rfl, h1, h2⟩ hb hF; exact ⟨c1, c2, rfl, Rep.mono h1 hb hF, Rep.mono h2 hb hF⟩

/-- a struct's cells and what they say: field by field -/
theorem Rd.pr {α β : Type} [Rep α] [Rep β] {w : World} {F : Nat → Prop} {v : Value} {x : α × β} (h : Rd w F v x) : ∃ c1 c2, v = .agg (c1 ++ c2).toArray ∧ rd w F c1 x.1 ∧ rd w F c2 x.2 := by
  obtain ⟨cs, rfl, c1, c2, rfl, h1, h2⟩ := h
  exact ⟨c1, c2, rfl, h1, h2⟩
theorem rd_pr {α β : Type} [Rep α] [Rep β] {w : World} {F : Nat → Prop} {cs : List Value} {x : α × β} (h : rd w F cs x) : ∃ c1 c2, cs = c1 ++ c2 ∧ rd w F c1 x.1 ∧ rd w F c2 x.2 := h
theorem rd_int {w : World} {F : Nat → Prop} {cs : List Value} {x : Int} (h : rd w F cs x) : cs = [.int .i64 x] := h
theorem rd_sl {α : Type} [Rep α] {w : World} {F : Nat → Prop} {cs : List Value} {x : List α} (h : rd w F cs x) : ∃ ao cap, cs = [.slice ao x.length cap] ∧ Sl w F ao cap x := h
theorem rd_mk {α β : Type} [Rep α] [Rep β] {w : World} {F : Nat → Prop} {c1 c2 : List Value} {x : α} {y : β} (h1 : rd w F c1 x) (h2 : rd w F c2 y) : rd w F (c1 ++ c2) (x, y) := ⟨c1, c2, rfl, h1, h2⟩
theorem rd_mkInt (w : World) (F : Nat → Prop) (x : Int) : rd w F [.int .i64 x] x := rfl
/-- words and patterns -/
abbrev LWord := List Nat × List Nat
abbrev LPat := Int × Int × Int × Int × Int × Int × Int
theorem Rd.word {w : World} {F : Nat → Prop} {v : Value} {x : LWord} (h : Rd w F v x) : ∃ so sc lo lc, v = .agg [.slice so x.1.length sc, .slice lo x.2.length lc].toArray ∧ Sl w F so sc x.1 ∧ Sl w F lo lc x.2 := by
  obtain ⟨c1, c2, rfl, h1, h2⟩ := h.pr
  obtain ⟨so, sc, rfl, k1⟩ := rd_sl h1
  obtain ⟨lo, lc, rfl, k2⟩ := rd_sl h2
  exact ⟨so, sc, lo, lc, rfl, k1, k2⟩
end Go.Proofs.YtikigaeihdmcaaaGreatDoor

