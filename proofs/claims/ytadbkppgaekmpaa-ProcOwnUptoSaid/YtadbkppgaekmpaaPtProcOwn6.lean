import Derived.Laws.StructEq
import Derived.DeepKeys4
import Derived.Maps.Keyed
import Derived.Test.YtadbkppgaekmpaaPtProcOwn5
/-
  Package scc: contracts of its simple functions.
-/
set_option linter.unusedVariables false
set_option linter.unusedSimpArgs false
namespace Go.Proofs.Ytadbkppgaekmpaa
open Go.RowKit

/-- 'n < 0 || n >= len(g)', g boxed -/
theorem odd1 (n : Int) (b : Nat) (w : World) {ao : Option Addr} {cap : Nat} {g : List (List Int)} {F : Nat → Prop} (hs : Sl w F ao cap g) (hb : Cells w b 0 [.slice ao g.length cap]) :
    Rt Try.prog 205 [.int .i64 n, .pointer (some ⟨b, 0, none⟩)].toArray w fun v w' => v = .bool (decide (n < 0 ∨ n ≥ g.length)) ∧ w = w' := by
  refine Rt.enter2 Try.func205 Try.ntmps205 rfl rfl ?_
  (repeat (first | (apply WL.pure; rfl; rfl; rfl) | (apply WL.nil) | (apply EX.thenN) | (apply CW.seq) | (apply CW.region)))
  refine WL.look (s := 6) rfl (fun h => ?_) (fun h => ?_)
  · (repeat (first | (apply WL.pure; rfl; rfl; rfl) | (apply WL.nil) | (apply EX.thenN) | (apply WL.pass; rfl; rfl) | (apply CW.ret)))
    refine EX.ret1 rfl rfl ?_
    simp at h
    simp [h]
  · (repeat (apply WL.pure; rfl; rfl; rfl))
    refine WL.load (α := List (List Int)) rfl rfl rfl hb ⟨ao, cap, rfl, hs⟩ ?_
    (repeat (first | (apply WL.pure; rfl; rfl; rfl) | (apply WL.nil) | (apply EX.thenN) | (apply WL.lenS; rfl; rfl; rfl) | (apply CW.ret)))
    refine EX.ret1 rfl rfl ?_
    simp at h
    simp [Int.not_lt.2 h]

theorem odd_ok (w0 : World) {ao lo : Option Addr} {cap lcap : Nat} {g : List (List Int)} {l : List Int} (hs : Sl w0 (Old w0) ao cap g) (hl : Sl w0 (Old w0) lo lcap l) :
    Rt Try.prog 189 [.slice ao g.length cap, .slice lo l.length lcap].toArray w0 fun v w' => v = .bool (oddB g.length l) ∧ Ext w0 w' := by
  refine Rt.enter2 Try.func189 Try.ntmps189 rfl rfl ?_
  (repeat (first | (apply CW.seq) | (apply CW.region)))
  refine WL.box rfl rfl rfl ?_
  (repeat (first | (apply WL.pure; rfl; rfl; rfl) | (apply WL.nil) | (apply EX.thenN) | (apply CW.seq) | (apply CW.region) | (apply WL.makeFunc; rfl; rfl; rfl; rfl)))
  have hE := Ext.alloc w0 (.cells (Value.cells (.slice ao g.length cap)) 23)
  have hc := Cells.alloc w0 (Value.cells (.slice ao g.length cap)) 23
  generalize w0.alloc (.cells (Value.cells (.slice ao g.length cap)) 23) = w1 at *
  have hlt : w0.heap.size < w1.heap.size := hc.lt (by simp [Value.cells])
  refine WL.call rfl rfl rfl (containsFunc_int w1 (fun x => decide (x < 0 ∨ x ≥ g.length)) (hl.up hE) (fun w hw i h => ?_)) ?_
  · refine FnV.mk (Rt.mono (odd1 _ _ w ((hs.at hE).mono (fun b hb => hw.block b (Nat.lt_of_lt_of_le hb hE.size)) fun _ h => h) (hc.mono (hw.block _ hlt))) ?_)
    rintro v w' ⟨rfl, rfl⟩
    exact ⟨rfl, Ext.refl _⟩
  · rintro v w' ⟨rfl, hB⟩
    (repeat (first | (apply WL.pure; rfl; rfl; rfl) | (apply WL.nil) | (apply EX.thenN) | (apply CW.ret)))
    exact EX.ret1 rfl rfl ⟨rfl, hE.trans hB⟩

theorem chk_ok (w0 : World) {ao : Option Addr} {cap : Nat} {g : List (List Int)} (hs : Sl w0 (Old w0) ao cap g) :
    Rt Try.prog 188 [.slice ao g.length cap].toArray w0 fun v w' => v = .int .i64 (chkG g) ∧ Ext w0 w' := by
  have hm := hs.len63
  refine Rt.enter1 Try.func188 Try.ntmps188 rfl rfl ?_
  (repeat (first | (apply WL.pure; rfl; rfl; rfl) | (apply WL.nil) | (apply EX.thenN) | (apply CW.seq) | (apply CW.region) | (apply WL.lenS; rfl; rfl; rfl)))
  refine CW.cond rfl (fun h => ?_) (fun h => ?_)
  · (repeat (first | (apply WL.pure; rfl; rfl; rfl) | (apply WL.nil) | (apply EX.thenN) | (apply CW.seq) | (apply CW.region) | (apply CW.ret) | (apply EX.thenR)))
    refine EX.ret1 rfl rfl ⟨?_, Ext.refl _⟩
    unfold chkG
    have : decide (g.length > 20000) = true := by simp at h ⊢; omega
    rw [this]
  · simp at h
    have hle : decide (g.length > 20000) = false := by simp; omega
    (repeat (first | (apply WL.pure; rfl; rfl; rfl) | (apply WL.nil) | (apply EX.thenN) | (apply CW.seq) | (apply CW.region) | (apply WL.lenS; rfl; rfl; rfl) | (apply CW.block) | (apply CW.skip)))
    refine CW.loop (S := Nat) (fun k => [(0, .slice ao g.length cap), (8, .slice ao g.length cap), (9, .int .i64 g.length), (10, .int .i64 k)])
      (fun k w => k ≤ g.length ∧ Ext w0 w ∧ ∀ j (h : j < g.length), j < k → oddB g.length g[j] = false) (fun k => g.length - k) 0 (by repeat (first | exact trivial | refine ⟨rfl, ?_⟩)) ⟨by omega, Ext.refl _, by omega⟩ ?_
    rintro k w ⟨hk, hB, hn⟩
    (repeat (first | (apply WL.pure; rfl; rfl; rfl) | (apply WL.nil) | (apply EX.thenN) | (apply CW.seq) | (apply CW.region)))
    refine CW.cond rfl (fun h1 => ?_) (fun h1 => ?_)
    · simp at h1
      (repeat (first | (apply EX.thenN) | (apply CW.seq) | (apply CW.region) | (apply CW.block) | (apply CW.skip)))
      refine WL.elemN rfl rfl rfl rfl rfl (hs.at hB) h1 (fun _ => rfl) (fun u q hu => ?_)
      obtain ⟨lo, lcap, rfl, hl⟩ := hu.sl
      (repeat (first | (apply WL.pure; rfl; rfl; rfl) | (apply WL.nil) | (apply EX.thenN) | (apply CW.seq) | (apply CW.region)))
      refine WL.call rfl rfl rfl (odd_ok w (hs.up hB) (hl.lift fun b hb => Nat.lt_of_lt_of_le hb hB.size)) ?_
      rintro v w' ⟨rfl, hB'⟩
      (repeat (first | (apply WL.nil) | (apply EX.thenN)))
      refine CW.cond rfl (fun h2 => ?_) (fun h2 => ?_)
      · (repeat (first | (apply WL.pure; rfl; rfl; rfl) | (apply WL.nil) | (apply EX.thenN) | (apply CW.seq) | (apply CW.region) | (apply CW.ret) | (apply EX.thenR) | (apply EX.inR)))
        refine EX.ret1 rfl rfl ⟨?_, hB.trans hB'⟩
        unfold chkG
        have : g.any (oddB g.length) = true := List.any_eq_true.2 ⟨_, List.getElem_mem h1, h2⟩
        rw [this, hle]
      · (repeat (first | (apply WL.add; rfl; rfl; rfl; rfl; omega; omega) | (apply WL.pure; rfl; rfl; rfl) | (apply WL.nil) | (apply EX.thenN) | (apply CW.region) | (apply EX.inN) | (apply CW.skip)))
        refine EX.back (k + 1) (by repeat (first | exact trivial | refine ⟨rfl, ?_⟩)) ⟨h1, hB.trans hB', ?_⟩ (by omega)
        intro j hj hlt
        by_cases e : j = k
        · subst e; exact h2
        · exact hn j hj (by omega)
    · simp at h1
      (repeat (first | (apply WL.pure; rfl; rfl; rfl) | (apply WL.nil) | (apply EX.thenN) | (apply CW.seq) | (apply CW.region) | (apply CW.exit) | (apply EX.thenX) | (apply EX.inX) | (apply CW.ret)))
      refine EX.ret1 rfl rfl ⟨?_, hB⟩
      unfold chkG
      have : g.any (oddB g.length) = false := by
        rw [List.any_eq_false]
        intro l hl
        obtain ⟨j, hj, rfl⟩ := List.mem_iff_getElem.1 hl
        simp [hn j hj (by omega)]
      rw [this, hle]

theorem clone_int (w0 : World) {ao : Option Addr} {cap : Nat} {xs : List Int} (hs : Sl w0 (Old w0) ao cap xs) (hb : xs.length * 8 ≤ 140737488355328) :
    Rt Try.prog 61 [.slice ao xs.length cap].toArray w0 fun v w' => Own w' w0.heap.size 3 Non v xs ∧ Ext w0 w' := by
  have hm := hs.len63
  refine Rt.enter1 Try.func61 Try.ntmps61 rfl rfl ?_
  (repeat (first | (apply WL.pure; rfl; rfl; rfl) | (apply WL.nil) | (apply EX.thenN) | (apply CW.seq) | (apply CW.region) | (apply WL.isNil; rfl; rfl; rfl)))
  refine CW.cond rfl (fun h => ?_) (fun h => ?_)
  · (repeat (first | (apply WL.pure; rfl; rfl; rfl) | (apply WL.nil) | (apply EX.thenN) | (apply CW.seq) | (apply CW.region) | (apply CW.ret) | (apply EX.thenR)))
    refine EX.ret1 rfl rfl ⟨?_, Ext.refl _⟩
    have h0 : ao = none := by simpa using h
    have : xs = [] := List.eq_nil_of_length_eq_zero (by have := hs.nil h0; have := hs.le; omega)
    subst this
    exact Own.nil
  · (repeat (first | (apply EX.thenN) | (apply CW.seq) | (apply CW.region) | (apply CW.skip)))
    refine WL.lit0 (α := Int) rfl rfl (fun w1 ho hg => ?_)
    (repeat (apply WL.pure; rfl; rfl; rfl))
    have hE : Ext w0 w1 := (Below.refl _ _).grown hg (Nat.le_refl _) (fun k h => by cases h)
    refine WL.app (F := Non) rfl rfl rfl rfl ho (hs.at hE).srcN hE.size (fun _ h => h.elim) (by simp [maxLen]; omega) (by simpa using hb) (fun v w2 ho2 hg2 _ => ?_)
    (repeat (first | (apply WL.pure; rfl; rfl; rfl) | (apply WL.nil) | (apply EX.thenN) | (apply CW.ret)))
    refine EX.ret1 rfl rfl ⟨by simpa using ho2, hE.grown hg2 hE.size ?_⟩
    intro k hk
    exact (ho.lt k hk).1

theorem take_last {todo : List Int} (h : 0 < todo.length) : todo = todo.take (todo.length - 1) ++ [todo[todo.length - 1]] := by
  have := List.take_succ_eq_append_getElem (l := todo) (i := todo.length - 1) (by omega)
  rw [← this, List.take_of_length_le (by omega)]

/-- reach: T bounds all that is ever to be looked at -/
theorem reach_ok (w0 : World) {ao fo : Option Addr} {cap fcap : Nat} {g : List (List Int)} {f : List Int} (hs : Sl w0 (Old w0) ao cap g) (hf : Sl w0 (Old w0) fo fcap f)
    (hg : okG g) (hof : okL g.length f) (hT : f.length + edges g + g.length ≤ 1099511627776) :
    Rt Try.prog 190 [.slice ao g.length cap, .slice fo f.length fcap].toArray w0 fun v w' => Own w' w0.heap.size 4 Non v (rchB g f) ∧ Ext w0 w' := by
  have hm := hs.len63
  have hm2 := hf.len63
  refine Rt.enter2 Try.func190 Try.ntmps190 rfl rfl ?_
  (repeat (first | (apply WL.pure; rfl; rfl; rfl) | (apply WL.nil) | (apply EX.thenN) | (apply CW.seq) | (apply CW.region) | (apply WL.lenS; rfl; rfl; rfl)))
  refine WL.make (α := Bool) rfl rfl rfl rfl (by omega) (by unfold maxLen; omega) (fun w1 ho1 hg1 => ?_)
  have hE1 : Ext w0 w1 := (Below.refl _ _).grown hg1 (Nat.le_refl _) (fun k h => by cases h)
  have hlt1 : w0.heap.size < w1.heap.size := (ho1.lt _ rfl).2.1
  (repeat (first | (apply WL.pure; rfl; rfl; rfl) | (apply WL.nil) | (apply EX.thenN) | (apply CW.seq) | (apply CW.region)))
  refine WL.call rfl rfl rfl (clone_int w1 (hf.up hE1) (by omega)) ?_
  rintro tv w2 ⟨ho2, hE2⟩
  (repeat (first | (apply WL.pure; rfl; rfl; rfl) | (apply WL.nil) | (apply EX.thenN) | (apply CW.seq) | (apply CW.block)))
  generalize hsv : Value.slice (some ⟨w0.heap.size, 0, none⟩) g.length g.length = sv at *
  have hsb : sv.ownBlock = some w0.heap.size := by rw [← hsv]; rfl
  refine CW.loop (S := Value × List Bool × List Int) (fun s => [(0, .slice ao g.length cap), (5, sv), (6, s.1)])
    (fun s w => RInv g f s.2.1 s.2.2 ∧ s.2.2.length + pot g s.2.1 ≤ f.length + edges g + g.length ∧ Own w w0.heap.size 4 Non sv s.2.1 ∧ Own w w0.heap.size 3 Non s.1 s.2.2 ∧ Ext w0 w ∧ (∀ k, s.1.ownBlock = some k → k ≠ w0.heap.size))
    (fun s => s.2.2.length + pot g s.2.1) (tv, List.replicate g.length false, f) (by repeat (first | exact trivial | refine ⟨rfl, ?_⟩))
    ⟨RInv.start hof, by show f.length + pot g (List.replicate g.length false) ≤ _; rw [pot_start]; omega, ho1.extN hE2, ho2.low (Nat.le_of_lt hlt1), hE1.trans hE2, fun k hk => by have := (ho2.lt k hk).1; omega⟩ ?_
  rintro ⟨tv, seen, todo⟩ w ⟨hR, hpot, hso, hto, hB, hne⟩
  simp only at hR hpot hso hto hne
  (repeat (first | (apply WL.pure; rfl; rfl; rfl) | (apply WL.nil) | (apply EX.thenN) | (apply CW.seq) | (apply CW.region) | (refine WL.lenO rfl rfl rfl (by assumption) ?_)))
  refine CW.cond rfl (fun h => ?_) (fun h => ?_)
  · simp at h
    have hlen : 0 < todo.length := by omega
    have hlast := take_last hlen
    (repeat (first | (apply WL.sub'; rfl; rfl; rfl; rfl; omega; omega) | (apply WL.pure; rfl; rfl; rfl) | (apply EX.thenN) | (apply CW.seq) | (apply CW.region) | (apply CW.block) | (apply CW.skip) | (refine WL.lenO rfl rfl rfl (by assumption) ?_)))
    refine WL.elemO rfl rfl rfl rfl rfl hto (by omega) (by omega) (fun _ => rfl) (fun u q hu => ?_)
    obtain rfl := hu.int
    have ei : ((todo.length : Int) - 1).toNat = todo.length - 1 := by omega
    simp only [ei]
    generalize hx : todo[todo.length - 1] = x at *
    generalize hrest : todo.take (todo.length - 1) = rest at *
    rw [hlast] at hR
    have hlr : todo.length = rest.length + 1 := by rw [hlast]; simp
    have hxo := hR.ok x (by simp)
    (repeat (first | (apply WL.sub'; rfl; rfl; rfl; rfl; omega; omega) | (apply WL.pure; rfl; rfl; rfl) | (apply WL.nil) | (apply EX.thenN) | (apply CW.seq) | (apply CW.region) | (refine WL.lenO rfl rfl rfl (by assumption) ?_)))
    refine WL.cutHiO (α := Int) (todo.length - 1) (by omega) rfl rfl rfl rfl hto (by omega) (fun tv' hto' hb' => ?_)
    rw [hrest] at hto'
    have hne' : ∀ k, tv'.ownBlock = some k → k ≠ w0.heap.size := fun k hk => hne k (by rw [← hb']; exact hk)
    (repeat (first | (apply WL.pure; rfl; rfl; rfl) | (apply WL.nil) | (apply EX.thenN) | (apply CW.seq) | (apply CW.region)))
    refine WL.elemO rfl rfl rfl rfl rfl hso (by omega) (by rw [hR.len]; omega) (fun _ => rfl) (fun u q2 hu => ?_)
    obtain rfl := hu.bool
    have hxl : x.toNat < seen.length := by rw [hR.len]; omega
    (repeat (first | (apply WL.pure; rfl; rfl; rfl) | (apply WL.nil) | (apply EX.thenN)))
    refine CW.cond rfl (fun h2 => ?_) (fun h2 => ?_)
    · have hs0 : seen[x.toNat] = false := by simpa using h2
      have hpm := pot_set g seen x.toNat (by omega) hR.len (by simp [List.getD_eq_getElem?_getD, hxl, hs0])
      (repeat (first | (apply WL.pure; rfl; rfl; rfl) | (apply CW.seq) | (apply CW.region)))
      refine WL.set rfl rfl rfl rfl hso (by omega) (by rw [hR.len]; omega) (fun _ => rfl) (fun _ => rfl) (Rd.mkBool _ _ true) (fun w3 q3 hso3 hg3 => ?_)
      have hB3 : Ext w0 w3 := hB.grown hg3 hB.size (fun k hk => by rw [hsb] at hk; cases hk; exact Nat.le_refl _)
      have hto3 : Own w3 w0.heap.size 3 Non tv' rest := hto'.keptN hg3 (fun k hk e => by rw [hsb] at e; cases e; exact hne' _ hk rfl)
      (repeat (first | (apply WL.pure; rfl; rfl; rfl) | (apply WL.nil) | (apply EX.thenN) | (apply CW.region)))
      have hxg : x.toNat < g.length := by omega
      refine WL.elem rfl rfl rfl rfl rfl (hs.at hB3) (by omega) (by omega) (fun _ => rfl) (fun u q4 hu => ?_)
      obtain ⟨ro, rcap, rfl, hrow⟩ := hu.sl
      have erow : g.getD x.toNat [] = g[x.toNat] := by simp [List.getD_eq_getElem?_getD, hxg]
      rw [erow] at hpm
      skip
      refine WL.app (F := Non) rfl rfl rfl rfl hto3 hrow.srcN hB3.size (fun _ h => h.elim) (by unfold maxLen; omega) (by omega) (fun tv4 w4 ho4 hg4 hn4 => ?_)
      (repeat (first | (apply WL.pure; rfl; rfl; rfl) | (apply WL.nil) | (apply EX.inN)))
      refine EX.back (tv4, seen.set x.toNat true, rest ++ g[x.toNat]) (by repeat (first | exact trivial | refine ⟨rfl, ?_⟩)) ⟨?_, ?_, ?_, ho4, ?_, ?_⟩ ?_
      · have := RInv.mark hg hR
        rwa [erow] at this
      · simp only [List.length_append]; omega
      · exact hso3.keptN hg4 (fun k hk e => by rw [hsb] at hk; cases hk; exact hne' _ e.symm rfl)
      · exact hB3.grown hg4 hB3.size (fun k hk => (hto3.lt k hk).1)
      · intro k hk
        rcases hn4 k hk with h | h
        · exact hne' k h
        · have := hB3.size; have := (hso3.lt _ hsb).2.1; omega
      · simp only [List.length_append]; omega
    · have hs1 : seen[x.toNat] = true := by simpa using h2
      (repeat (first | (apply EX.inN) | (apply CW.skip)))
      refine EX.back (tv', seen, rest) (by repeat (first | exact trivial | refine ⟨rfl, ?_⟩)) ⟨hR.pass (by simp [List.getD_eq_getElem?_getD, hxl, hs1]), by simp only; omega, hso, hto', hB, hne'⟩ (by simp only; omega)
  · have h0 : todo = [] := by simpa using h
    subst h0
    (repeat (first | (apply WL.pure; rfl; rfl; rfl) | (apply WL.nil) | (apply EX.thenN) | (apply CW.seq) | (apply CW.region) | (apply CW.exit) | (apply EX.thenX) | (apply EX.inX) | (apply CW.ret)))
    refine EX.ret1 rfl rfl ⟨?_, hB⟩
    rw [← hR.done]
    exact hso

noncomputable def reachF (g : Graph) (f : List Int) : List Bool × Int := match chkG g == 0, oddB g.length f with
  | true, false => (rchB g f, 0)
  | true, true => ([], 1)
  | false, _ => ([], chkG g)
theorem reachF_err {g : Graph} {f : List Int} (h : (reachF g f).2 ≠ 0) : (reachF g f).1 = [] := by
  cases h1 : (chkG g == 0) <;> cases h2 : oddB g.length f <;> simp only [reachF, h1, h2] at h ⊢
  exact absurd rfl h
theorem reachF_ok {g : Graph} {f : List Int} (h : (reachF g f).2 = 0) : (reachF g f).1 = rchB g f ∧ okG g ∧ okL g.length f ∧ g.length ≤ 20000 := by
  cases h1 : (chkG g == 0) <;> cases h2 : oddB g.length f <;> simp only [reachF, h1, h2] at h ⊢
  · rw [h] at h1; cases h1
  · rw [h] at h1; cases h1
  · exact ⟨trivial, (chkG_ok (by simpa using h1)).1, oddB_false.1 h2, (chkG_ok (by simpa using h1)).2⟩
  · cases h
theorem chkG_of {g : Graph} (h : okG g) (hl : g.length ≤ 20000) : chkG g = 0 := by
  unfold chkG
  have h1 : decide (g.length > 20000) = false := by simp; omega
  have h2 : g.any (oddB g.length) = false := by rw [List.any_eq_false]; intro l hl; simp [oddB_false.2 (h l hl)]
  rw [h1, h2]
theorem reachF_of {g : Graph} {f : List Int} (h : okG g) (hf : okL g.length f) (hl : g.length ≤ 20000) : reachF g f = (rchB g f, 0) := by
  unfold reachF
  have h1 : (chkG g == 0) = true := by rw [chkG_of h hl]; rfl
  rw [h1, oddB_false.2 hf]
theorem Reach_ok (w0 : World) {ao fo : Option Addr} {cap fcap : Nat} {g : List (List Int)} {f : List Int} (hs : Sl w0 (Old w0) ao cap g) (hf : Sl w0 (Old w0) fo fcap f) (hT : f.length + edges g + g.length ≤ 1099511627776) :
    Rt Try.prog 148 [.slice ao g.length cap, .slice fo f.length fcap].toArray w0 fun r w' => ∃ v, r = .tuple ⟨[v, .int .i64 (reachF g f).2]⟩ ∧ Own w' w0.heap.size 4 Non v (reachF g f).1 ∧ Ext w0 w' := by
  refine Rt.enter2 Try.func148 Try.ntmps148 rfl rfl ?_
  (repeat (first | (apply WL.pure; rfl; rfl; rfl) | (apply WL.nil) | (apply EX.thenN) | (apply CW.seq) | (apply CW.region)))
  refine WL.call rfl rfl rfl (chk_ok w0 hs) ?_
  rintro v w1 ⟨rfl, hE1⟩
  (repeat (first | (apply WL.pure; rfl; rfl; rfl) | (apply WL.nil) | (apply EX.thenN) | (apply CW.seq) | (apply CW.region)))
  refine CW.cond rfl (fun h => ?_) (fun h => ?_)
  · have hc : (chkG g == 0) = false := by simpa using h
    (repeat (first | (apply WL.pure; rfl; rfl; rfl) | (apply WL.nil) | (apply EX.thenN) | (apply CW.seq) | (apply CW.region) | (apply CW.ret) | (apply EX.thenR)))
    exact EX.ret2 rfl rfl rfl ⟨.slice none 0 0, by simp only [reachF, hc], by simp only [reachF, hc]; exact Own.nil, hE1⟩
  · have hc : (chkG g == 0) = true := by simpa using h
    obtain ⟨hg, _⟩ := chkG_ok (by simpa using hc)
    (repeat (first | (apply WL.pure; rfl; rfl; rfl) | (apply EX.thenN) | (apply CW.seq) | (apply CW.region) | (apply CW.skip)))
    refine WL.call rfl rfl rfl (odd_ok w1 (hs.up hE1) (hf.up hE1)) ?_
    rintro v w2 ⟨rfl, hE2⟩
    (repeat (first | (apply WL.nil) | (apply EX.thenN)))
    refine CW.cond rfl (fun h2 => ?_) (fun h2 => ?_)
    · (repeat (first | (apply WL.pure; rfl; rfl; rfl) | (apply WL.nil) | (apply EX.thenN) | (apply CW.seq) | (apply CW.region) | (apply CW.ret) | (apply EX.thenR)))
      exact EX.ret2 rfl rfl rfl ⟨.slice none 0 0, by simp only [reachF, hc, h2], by simp only [reachF, hc, h2]; exact Own.nil, hE1.trans hE2⟩
    · (repeat (first | (apply WL.pure; rfl; rfl; rfl) | (apply EX.thenN) | (apply CW.seq) | (apply CW.region) | (apply CW.skip)))
      have hE := hE1.trans hE2
      refine WL.call rfl rfl rfl (reach_ok w2 (hs.up hE) (hf.up hE) hg (oddB_false.1 h2) hT) ?_
      rintro v w3 ⟨ho3, hE3⟩
      (repeat (first | (apply WL.pure; rfl; rfl; rfl) | (apply WL.nil) | (apply EX.thenN) | (apply CW.ret)))
      exact EX.ret2 rfl rfl rfl ⟨v, by simp only [reachF, hc, h2], by simp only [reachF, hc, h2]; exact ho3.low hE.size, hE.trans hE3⟩
end Go.Proofs.Ytadbkppgaekmpaa
/-
  Package proc: Named, nodes, counts, ins, outs: walked.
-/
set_option linter.unusedVariables false
set_option linter.unusedSimpArgs false
namespace Go.Proofs.Ytadbkppgaekmpaa
open Go.RowKit

abbrev procV (so : Option Addr) (sc : Nat) (fo : Option Addr) (fc : Nat) (n m : Nat) : Value := .agg [.slice so n sc, .slice fo m fc].toArray
theorem Rd.proc {w : World} {F : Nat → Prop} {v : Value} {x : LProc} (h : Rd w F v x) : ∃ so sc fo fc, v = procV so sc fo fc x.1.length x.2.length ∧ Sl w F so sc x.1 ∧ Sl w F fo fc x.2 := by
  obtain ⟨c1, c2, rfl, h1, h2⟩ := h.pr
  obtain ⟨so, sc, rfl, k1⟩ := rd_sl h1
  obtain ⟨lo, lc, rfl, k2⟩ := rd_sl h2
  exact ⟨so, sc, lo, lc, rfl, k1, k2⟩
theorem Rd.flow {w : World} {F : Nat → Prop} {v : Value} {x : LFlow} (h : Rd w F v x) : v = .agg [.int .i64 x.1, .int .i64 x.2].toArray := by
  obtain ⟨c1, c2, rfl, h1, h2⟩ := h.pr
  rw [rd_int h1, rd_int h2]; rfl
theorem Rd.node {w : World} {F : Nat → Prop} {v : Value} {x : LNode} (h : Rd w F v x) : v = .agg [.string x.1, .int .i64 x.2].toArray := by
  obtain ⟨c1, c2, rfl, h1, h2⟩ := h.pr
  rw [rd_int h2, h1.1]; rfl
theorem getDF_at {l : List LFlow} {j : Nat} (h : j < l.length) : l.getD j (0, 0) = l[j] := by rw [List.getD_eq_getElem?_getD, List.getElem?_eq_getElem h]; rfl
theorem getDNd_at {l : List LNode} {j : Nat} (h : j < l.length) : l.getD j (⟨#[]⟩, 0) = l[j] := by rw [List.getD_eq_getElem?_getD, List.getElem?_eq_getElem h]; rfl
theorem size_len (s : ByteArray) : s.data.toList.length = s.size := by simp
theorem Named_ok (w0 : World) (s : ByteArray) : Rt Try.prog 185 [.string s].toArray w0 fun v w' => v = .bool (namedB s) ∧ Ext w0 w' := by
  refine Rt.enter1 Try.func185 Try.ntmps185 rfl rfl ?_
  unfold namedB namedL
  (repeat (first | (apply WL.pure; rfl; rfl; rfl) | (apply WL.nil) | (apply EX.thenN) | (apply CW.seq) | (apply CW.region)))
  by_cases h1 : (s.data.toList == []) = true
  · rw [show (s.data.toList == (ByteArray.mk #[]).data.toList) = true from h1]
    (repeat (first | (apply WL.pure; rfl; rfl; rfl) | (apply WL.nil) | (apply EX.thenN) | (apply CW.seq) | (apply CW.region) | (apply WL.pass; rfl; rfl) | (apply CW.condT; rfl) | (apply CW.ret) | (apply EX.thenR)))
    refine EX.ret1 rfl rfl ⟨?_, Ext.refl _⟩
    rfl
  have h1 : (s.data.toList == []) = false := by simpa using h1
  rw [show (s.data.toList == (ByteArray.mk #[]).data.toList) = false from h1]
  try rw [h1]
  (repeat (apply WL.pure; rfl; rfl; rfl))
  refine WL.lenT rfl rfl rfl ?_
  rw [← size_len]
  (repeat (apply WL.pure; rfl; rfl; rfl))
  by_cases h2 : decide ((s.data.toList.length : Int) > 8) = true
  · rw [h2]
    (repeat (first | (apply WL.pure; rfl; rfl; rfl) | (apply WL.nil) | (apply EX.thenN) | (apply CW.seq) | (apply CW.region) | (apply WL.pass; rfl; rfl) | (apply CW.condT; rfl) | (apply CW.ret) | (apply EX.thenR)))
    exact EX.ret1 rfl rfl ⟨rfl, Ext.refl _⟩
  have h2 : decide ((s.data.toList.length : Int) > 8) = false := by simpa using h2
  rw [h2]
  (repeat (apply WL.pure; rfl; rfl; rfl))
  by_cases h3 : (s.data.toList == [116, 114, 117, 101]) = true
  · rw [show (s.data.toList == (ByteArray.mk #[116, 114, 117, 101]).data.toList) = true from h3]
    try rw [h3]
    (repeat (first | (apply WL.pure; rfl; rfl; rfl) | (apply WL.nil) | (apply EX.thenN) | (apply CW.seq) | (apply CW.region) | (apply WL.pass; rfl; rfl) | (apply CW.condT; rfl) | (apply CW.ret) | (apply EX.thenR)))
    exact EX.ret1 rfl rfl ⟨rfl, Ext.refl _⟩
  have h3 : (s.data.toList == [116, 114, 117, 101]) = false := by simpa using h3
  rw [show (s.data.toList == (ByteArray.mk #[116, 114, 117, 101]).data.toList) = false from h3]
  try rw [h3]
  (repeat (apply WL.pure; rfl; rfl; rfl))
  by_cases h4 : (s.data.toList == [102, 97, 108, 115, 101]) = true
  · rw [show (s.data.toList == (ByteArray.mk #[102, 97, 108, 115, 101]).data.toList) = true from h4]
    try rw [h4]
    (repeat (first | (apply WL.pure; rfl; rfl; rfl) | (apply WL.nil) | (apply EX.thenN) | (apply CW.seq) | (apply CW.region) | (apply WL.pass; rfl; rfl) | (apply CW.condT; rfl) | (apply CW.ret) | (apply EX.thenR)))
    exact EX.ret1 rfl rfl ⟨rfl, Ext.refl _⟩
  have h4 : (s.data.toList == [102, 97, 108, 115, 101]) = false := by simpa using h4
  rw [show (s.data.toList == (ByteArray.mk #[102, 97, 108, 115, 101]).data.toList) = false from h4]
  try rw [h4]
  (repeat (first | (apply WL.pure; rfl; rfl; rfl) | (apply WL.nil) | (apply EX.thenN)))
  by_cases h5 : (s.data.toList == [115, 105, 108, 101, 110, 116]) = true
  · rw [show (s.data.toList == (ByteArray.mk #[115, 105, 108, 101, 110, 116]).data.toList) = true from h5]
    try rw [h5]
    (repeat (first | (apply WL.pure; rfl; rfl; rfl) | (apply WL.nil) | (apply EX.thenN) | (apply CW.seq) | (apply CW.region) | (apply CW.condT; rfl) | (apply CW.ret) | (apply EX.thenR)))
    exact EX.ret1 rfl rfl ⟨rfl, Ext.refl _⟩
  have h5 : (s.data.toList == [115, 105, 108, 101, 110, 116]) = false := by simpa using h5
  rw [show (s.data.toList == (ByteArray.mk #[115, 105, 108, 101, 110, 116]).data.toList) = false from h5]
  try rw [h5]
  simp only [Bool.not_false, Bool.true_and]
  have h8 : s.size ≤ 8 := by have := size_len s; simp at h2; omega
  (repeat (first | (apply WL.pure; rfl; rfl; rfl) | (apply EX.thenN) | (apply CW.seq) | (apply CW.region) | (apply CW.condF; rfl) | (apply CW.skip)))
  refine WL.lenT rfl rfl rfl ?_
  (repeat (first | (apply WL.pure; rfl; rfl; rfl) | (apply WL.nil) | (apply EX.thenN) | (apply CW.block)))
  refine CW.loop (S := Nat) (fun i => [(0, .string s), (24, .int .i64 s.size), (25, .int .i64 i)])
    (fun i w => i ≤ s.size ∧ w = w0 ∧ ∀ j (h : j < s.size), j < i → lowB s[j] = true) (fun i => s.size - i) 0 (by repeat (first | exact trivial | refine ⟨rfl, ?_⟩)) ⟨by omega, rfl, by omega⟩ ?_
  rintro i w ⟨hi, rfl, hn⟩
  have hget : ∀ j (h : j < s.size), s.data.toList[j]'(by rw [size_len]; exact h) = s[j] := fun j h => by simp; rfl
  (repeat (first | (apply WL.pure; rfl; rfl; rfl) | (apply WL.nil) | (apply EX.thenN) | (apply CW.seq) | (apply CW.region)))
  refine CW.cond rfl (fun h => ?_) (fun h => ?_)
  · have hi' : i < s.size := by simp at h; omega
    have hbad : lowB s[i] = false → s.data.toList.all lowB = false := fun hb => by
      rw [List.all_eq_false]
      exact ⟨_, List.getElem_mem (by rw [size_len]; exact hi'), by rw [hget i hi', hb]; simp⟩
    (repeat (first | (apply WL.pure; rfl; rfl; rfl) | (apply WL.nil) | (apply EX.thenN) | (apply CW.seq) | (apply CW.region) | (apply CW.block) | (apply CW.skip)))
    refine WL.byteT rfl rfl rfl rfl hi' ?_
    (repeat (apply WL.pure; rfl; rfl; rfl))
    by_cases hb1 : decide (((s[i].toNat : Nat) : Int) < 97) = true
    · rw [hb1]
      (repeat (first | (apply WL.pure; rfl; rfl; rfl) | (apply WL.nil) | (apply EX.thenN) | (apply CW.seq) | (apply CW.region) | (apply WL.pass; rfl; rfl) | (apply CW.condT; rfl) | (apply CW.ret) | (apply EX.thenR) | (apply EX.inR)))
      refine EX.ret1 rfl rfl ⟨?_, Ext.refl _⟩
      rw [hbad (by unfold lowB; rw [hb1]; rfl)]
    have hb1 : decide (((s[i].toNat : Nat) : Int) < 97) = false := by simpa using hb1
    rw [hb1]
    (repeat (apply WL.pure; rfl; rfl; rfl))
    refine WL.byteT rfl rfl rfl rfl hi' ?_
    (repeat (first | (apply WL.pure; rfl; rfl; rfl) | (apply WL.nil) | (apply EX.thenN)))
    refine CW.cond rfl (fun hb2 => ?_) (fun hb2 => ?_)
    · (repeat (first | (apply WL.pure; rfl; rfl; rfl) | (apply WL.nil) | (apply EX.thenN) | (apply CW.seq) | (apply CW.region) | (apply CW.ret) | (apply EX.thenR) | (apply EX.inR)))
      refine EX.ret1 rfl rfl ⟨?_, Ext.refl _⟩
      rw [hbad (by unfold lowB; rw [hb1, hb2]; rfl)]
    · (repeat (first | (apply WL.add; rfl; rfl; rfl; rfl; omega; omega) | (apply WL.pure; rfl; rfl; rfl) | (apply WL.nil) | (apply EX.thenN) | (apply CW.region) | (apply EX.inN) | (apply CW.skip)))
      refine EX.back (i + 1) (by repeat (first | exact trivial | refine ⟨rfl, ?_⟩)) ⟨hi', rfl, fun j hj hlt => ?_⟩ (by omega)
      by_cases e : j = i
      · subst e; unfold lowB; rw [hb1, hb2]; rfl
      · exact hn j hj (by omega)
  · have hi' : i = s.size := by simp at h; omega
    subst hi'
    (repeat (first | (apply WL.pure; rfl; rfl; rfl) | (apply WL.nil) | (apply EX.thenN) | (apply CW.seq) | (apply CW.region) | (apply CW.exit) | (apply EX.thenX) | (apply EX.inX) | (apply CW.ret)))
    refine EX.ret1 rfl rfl ⟨?_, Ext.refl _⟩
    rw [List.all_eq_true.2]
    intro x hx
    obtain ⟨j, hj, rfl⟩ := List.mem_iff_getElem.1 hx
    rw [size_len] at hj
    rw [hget j hj]
    exact hn j hj hj
theorem counts_ok (w0 : World) (k : Int) (i o : Nat) : Rt Try.prog 146 [.int .i64 k, .int .i64 (i : Int), .int .i64 (o : Int)].toArray w0 fun v w' => v = .bool (countsB k i o) ∧ w0 = w' := by
  refine Rt.enter3 Try.func146 Try.ntmps146 rfl rfl ?_
  have e0 : ∀ (a : Nat) (b : Nat), (((a : Int)) == (b : Int)) = decide (a = b) := fun a b => by rw [Bool.eq_iff_iff]; simp; omega
  have e1 : ∀ (a : Nat), decide ((a : Int) > 0) = decide (0 < a) := fun a => by rw [Bool.eq_iff_iff]; simp
  unfold countsB
  (repeat (first | (apply WL.pure; rfl; rfl; rfl) | (apply WL.nil) | (apply EX.thenN) | (apply CW.seq) | (apply CW.region) | (apply CW.block)))
  by_cases h1 : k = 1
  · subst h1
    (repeat (first | (apply WL.pure; rfl; rfl; rfl) | (apply EX.thenN) | (apply CW.seq) | (apply CW.region) | (apply CW.condT; rfl) | (apply CW.exit) | (apply EX.thenX) | (apply EX.inX)))
    by_cases hi : i = 0
    · subst hi
      (repeat (first | (apply WL.pure; rfl; rfl; rfl) | (apply WL.nil) | (apply EX.thenN) | (apply CW.ret) | (apply EX.thenR) | (apply EX.inR)))
      refine EX.ret1 rfl rfl ⟨?_, rfl⟩
      rw [show ((o : Int) == 1) = decide (o = 1) from e0 o 1]; simp
    · have : ((i : Int) == 0) = false := by simpa using hi
      rw [this]
      (repeat (first | (apply WL.pure; rfl; rfl; rfl) | (apply WL.nil) | (apply EX.thenN) | (apply WL.pass; rfl; rfl) | (apply CW.ret) | (apply EX.thenR) | (apply EX.inR)))
      refine EX.ret1 rfl rfl ⟨?_, rfl⟩
      simp [hi]
  have b1 : (k == 1) = false := by simpa using h1
  rw [if_neg h1, b1]
  (repeat (first | (apply WL.pure; rfl; rfl; rfl) | (apply WL.nil) | (apply EX.thenN) | (apply CW.seq) | (apply CW.region) | (apply CW.condF; rfl) | (apply CW.skip)))
  by_cases h2 : k = 2
  · subst h2
    (repeat (first | (apply WL.pure; rfl; rfl; rfl) | (apply EX.thenN) | (apply CW.seq) | (apply CW.region) | (apply CW.condT; rfl) | (apply CW.exit) | (apply EX.thenX) | (apply EX.inX) | (apply EX.inXne; rfl) | (apply CW.skip)))
    by_cases hi : 0 < i
    · rw [e1 i, decide_eq_true hi]
      (repeat (first | (apply WL.pure; rfl; rfl; rfl) | (apply WL.nil) | (apply EX.thenN) | (apply CW.ret) | (apply EX.thenR) | (apply EX.inR)))
      refine EX.ret1 rfl rfl ⟨?_, rfl⟩
      rw [show ((o : Int) == 0) = decide (o = 0) from e0 o 0]; simp
    · rw [e1 i, decide_eq_false hi]
      (repeat (first | (apply WL.pure; rfl; rfl; rfl) | (apply WL.nil) | (apply EX.thenN) | (apply WL.pass; rfl; rfl) | (apply CW.ret) | (apply EX.thenR) | (apply EX.inR)))
      refine EX.ret1 rfl rfl ⟨?_, rfl⟩
      simp
  have b2 : (k == 2) = false := by simpa using h2
  rw [b2]
  (repeat (first | (apply WL.pure; rfl; rfl; rfl) | (apply WL.nil) | (apply EX.thenN) | (apply CW.region) | (apply CW.condF; rfl)))
  by_cases h3 : k = 3
  · subst h3
    (repeat (first | (apply WL.pure; rfl; rfl; rfl) | (apply EX.thenN) | (apply CW.seq) | (apply CW.region) | (apply CW.condT; rfl) | (apply CW.exit) | (apply EX.thenX) | (apply EX.inX) | (apply EX.inXne; rfl)))
    by_cases hi : 0 < i
    · rw [e1 i, decide_eq_true hi]
      (repeat (first | (apply WL.pure; rfl; rfl; rfl) | (apply WL.nil) | (apply EX.thenN) | (apply CW.ret) | (apply EX.thenR) | (apply EX.inR)))
      refine EX.ret1 rfl rfl ⟨?_, rfl⟩
      rw [show ((o : Int) == 0) = decide (o = 0) from e0 o 0]; simp
    · rw [e1 i, decide_eq_false hi]
      (repeat (first | (apply WL.pure; rfl; rfl; rfl) | (apply WL.nil) | (apply EX.thenN) | (apply WL.pass; rfl; rfl) | (apply CW.ret) | (apply EX.thenR) | (apply EX.inR)))
      refine EX.ret1 rfl rfl ⟨?_, rfl⟩
      simp
  have b3 : (k == 3) = false := by simpa using h3
  rw [if_neg (by omega), b3]
  (repeat (first | (apply WL.pure; rfl; rfl; rfl) | (apply WL.nil) | (apply EX.thenN) | (apply CW.seq) | (apply CW.region) | (apply CW.condF; rfl) | (apply CW.skip)))
  by_cases h4 : k = 4
  · subst h4
    (repeat (first | (apply WL.pure; rfl; rfl; rfl) | (apply EX.thenN) | (apply CW.seq) | (apply CW.region) | (apply CW.condT; rfl) | (apply CW.exit) | (apply EX.thenX) | (apply EX.inX) | (apply EX.inXne; rfl)))
    by_cases hi : 0 < i
    · rw [e1 i, decide_eq_true hi]
      (repeat (first | (apply WL.pure; rfl; rfl; rfl) | (apply WL.nil) | (apply EX.thenN) | (apply CW.ret) | (apply EX.thenR) | (apply EX.inR)))
      refine EX.ret1 rfl rfl ⟨?_, rfl⟩
      rw [show ((o : Int) == 1) = decide (o = 1) from e0 o 1]; simp
    · rw [e1 i, decide_eq_false hi]
      (repeat (first | (apply WL.pure; rfl; rfl; rfl) | (apply WL.nil) | (apply EX.thenN) | (apply WL.pass; rfl; rfl) | (apply CW.ret) | (apply EX.thenR) | (apply EX.inR)))
      refine EX.ret1 rfl rfl ⟨?_, rfl⟩
      simp
  have b4 : (k == 4) = false := by simpa using h4
  rw [if_neg h4, b4]
  (repeat (first | (apply WL.pure; rfl; rfl; rfl) | (apply WL.nil) | (apply EX.thenN) | (apply CW.seq) | (apply CW.region) | (apply CW.condF; rfl) | (apply CW.skip)))
  by_cases h7 : k = 7
  · subst h7
    (repeat (first | (apply WL.pure; rfl; rfl; rfl) | (apply WL.nil) | (apply EX.thenN) | (apply CW.seq) | (apply CW.region) | (apply CW.condT; rfl) | (apply CW.exit) | (apply EX.thenX) | (apply EX.inX) | (apply EX.inXne; rfl)))
    refine CW.cond rfl (fun ho => ?_) (fun ho => ?_)
    · (repeat (first | (apply WL.pure; rfl; rfl; rfl) | (apply WL.nil) | (apply EX.thenN) | (apply CW.seq) | (apply CW.region) | (apply CW.ret) | (apply EX.thenR) | (apply EX.inR)))
      refine EX.ret1 rfl rfl ⟨?_, rfl⟩
      simp at ho
      simp; omega
    simp at ho
    (repeat (first | (apply WL.pure; rfl; rfl; rfl) | (apply EX.thenN) | (apply CW.seq) | (apply CW.region) | (apply EX.inN) | (apply CW.skip)))
    by_cases hi : 0 < i
    · rw [e1 i, decide_eq_true hi]
      (repeat (first | (apply WL.pure; rfl; rfl; rfl) | (apply WL.nil) | (apply EX.thenN) | (apply CW.ret) | (apply EX.thenR) | (apply EX.inR)))
      refine EX.ret1 rfl rfl ⟨?_, rfl⟩
      rw [e1 o]; simp; omega
    · rw [e1 i, decide_eq_false hi]
      (repeat (first | (apply WL.pure; rfl; rfl; rfl) | (apply WL.nil) | (apply EX.thenN) | (apply WL.pass; rfl; rfl) | (apply CW.ret) | (apply EX.thenR) | (apply EX.inR)))
      refine EX.ret1 rfl rfl ⟨?_, rfl⟩
      simp
  have b7 : (k == 7) = false := by simpa using h7
  rw [if_neg h7, b7]
  (repeat (first | (apply WL.pure; rfl; rfl; rfl) | (apply WL.nil) | (apply EX.thenN) | (apply CW.seq) | (apply CW.region) | (apply CW.condF; rfl) | (apply CW.skip)))
  by_cases h5 : k = 5
  · subst h5
    (repeat (first | (apply WL.pure; rfl; rfl; rfl) | (apply EX.thenN) | (apply CW.seq) | (apply CW.region) | (apply CW.condT; rfl) | (apply CW.exit) | (apply EX.thenX) | (apply EX.inX) | (apply EX.inXne; rfl) | (apply CW.skip)))
    by_cases hi : 0 < i
    · rw [e1 i, decide_eq_true hi]
      (repeat (first | (apply WL.pure; rfl; rfl; rfl) | (apply WL.nil) | (apply EX.thenN) | (apply CW.ret) | (apply EX.thenR) | (apply EX.inR)))
      refine EX.ret1 rfl rfl ⟨?_, rfl⟩
      rw [e1 o]; simp
    · rw [e1 i, decide_eq_false hi]
      (repeat (first | (apply WL.pure; rfl; rfl; rfl) | (apply WL.nil) | (apply EX.thenN) | (apply WL.pass; rfl; rfl) | (apply CW.ret) | (apply EX.thenR) | (apply EX.inR)))
      refine EX.ret1 rfl rfl ⟨?_, rfl⟩
      simp
  have b5 : (k == 5) = false := by simpa using h5
  rw [b5]
  (repeat (first | (apply WL.pure; rfl; rfl; rfl) | (apply WL.nil) | (apply EX.thenN) | (apply CW.region) | (apply CW.condF; rfl)))
  by_cases h6 : k = 6
  · subst h6
    (repeat (first | (apply WL.pure; rfl; rfl; rfl) | (apply EX.thenN) | (apply CW.seq) | (apply CW.region) | (apply CW.condT; rfl) | (apply CW.exit) | (apply EX.thenX) | (apply EX.inX) | (apply EX.inXne; rfl)))
    by_cases hi : 0 < i
    · rw [e1 i, decide_eq_true hi]
      (repeat (first | (apply WL.pure; rfl; rfl; rfl) | (apply WL.nil) | (apply EX.thenN) | (apply CW.ret) | (apply EX.thenR) | (apply EX.inR)))
      refine EX.ret1 rfl rfl ⟨?_, rfl⟩
      rw [e1 o]; simp
    · rw [e1 i, decide_eq_false hi]
      (repeat (first | (apply WL.pure; rfl; rfl; rfl) | (apply WL.nil) | (apply EX.thenN) | (apply WL.pass; rfl; rfl) | (apply CW.ret) | (apply EX.thenR) | (apply EX.inR)))
      refine EX.ret1 rfl rfl ⟨?_, rfl⟩
      simp
  have b6 : (k == 6) = false := by simpa using h6
  rw [if_neg (by omega), b6]
  (repeat (first | (apply WL.pure; rfl; rfl; rfl) | (apply WL.nil) | (apply EX.thenN) | (apply CW.seq) | (apply CW.region) | (apply CW.condF; rfl) | (apply CW.exit) | (apply EX.thenX) | (apply EX.inX) | (apply EX.inXne; rfl) | (apply CW.ret) | (apply CW.skip)))
  exact EX.ret1 rfl rfl ⟨rfl, rfl⟩
theorem ins_ok (w0 : World) {so fo : Option Addr} {sc fc k : Nat} {fl : List LFlow} (hf : Sl w0 (Old w0) fo fc fl) (n : Int) (hl : fl.length ≤ 1000) :
    Rt Try.prog 147 [procV so sc fo fc k fl.length, .int .i64 n].toArray w0 fun v w' => Own w' w0.heap.size 3 Non v (insL fl n) ∧ Ext w0 w' := by
  refine Rt.enter2 Try.func147 Try.ntmps147 rfl rfl ?_
  (repeat (first | (apply CW.seq) | (apply CW.region)))
  refine WL.boxB rfl rfl rfl fun w1 hb2 e1 => ?_
  (repeat (first | (apply WL.pure; rfl; rfl; rfl) | (apply WL.nil) | (apply EX.thenN) | (apply CW.seq) | (apply CW.region) | (apply WL.lenS; rfl; rfl; rfl) | (apply WL.fa; rfl; rfl; rfl) | (apply WL.ld; rfl; rfl; rfl; assumption; rfl) | (apply CW.block)))
  refine CW.loop (S := Nat × Value) (fun s => [(1, .int .i64 n), (2, .pointer (some ⟨w0.heap.size, 0, none⟩)), (5, s.2), (9, .slice fo fl.length fc), (10, .int .i64 fl.length), (11, .int .i64 s.1)])
    (fun s w => s.1 ≤ fl.length ∧ Own w w1.heap.size 3 Non s.2 (insP fl n s.1) ∧ Ext w1 w) (fun s => fl.length - s.1) (0, .slice none 0 0) (by repeat (first | exact trivial | refine ⟨rfl, ?_⟩)) ⟨Nat.zero_le _, Own.nil, Ext.refl _⟩ ?_
  rintro ⟨i, ov⟩ w2 ⟨hi, ho, e2⟩
  dsimp only at hi ho ⊢
  have hE := e1.trans e2
  have hpl := insP_len (fl := fl) (n := n) (k := i)
  have hnext := insP_next (fl := fl) (n := n) (k := i)
  (repeat (first | (apply WL.pure; rfl; rfl; rfl) | (apply WL.nil) | (apply EX.thenN) | (apply CW.seq) | (apply CW.region)))
  refine CW.cond rfl (fun h => ?_) (fun h => ?_)
  · have hi' : i < fl.length := by simp at h; omega
    rw [getDF_at hi'] at hnext
    (repeat (first | (apply WL.pure; rfl; rfl; rfl) | (apply EX.thenN) | (apply CW.seq) | (apply CW.region) | (apply CW.block) | (apply CW.skip)))
    refine WL.elemN rfl rfl rfl rfl rfl (hf.at hE) hi' (fun _ => rfl) (fun u q hu => ?_)
    obtain rfl := hu.flow
    skip
    refine WL.alloc rfl rfl (fun w3 hb7 e3 => ?_)
    (repeat (apply WL.pure; rfl; rfl; rfl))
    refine WL.st rfl rfl rfl hb7 rfl rfl (ones_of rfl) (fun w4 hb7 hg4 => ?_)
    have e4 : Ext w2 w4 := e3.grown hg4 e3.size (fun g hg => by cases hg; exact Nat.le_refl _)
    have ho := ho.extN e4
    have e4 := e2.trans e4
    (repeat (first | (apply WL.pure; rfl; rfl; rfl) | (apply WL.nil) | (apply EX.thenN) | (apply CW.seq) | (apply CW.region) | (apply WL.fa; rfl; rfl; rfl) | (apply WL.ld; rfl; rfl; rfl; assumption; rfl)))
    refine CW.cond rfl (fun h2 => ?_) (fun h2 => ?_)
    · rw [if_pos h2] at hnext
      (repeat (first | (apply WL.pure; rfl; rfl; rfl) | (apply CW.region)))
      refine WL.app1 (F := Non) (yv := (i : Int)) rfl rfl (fun _ => rfl) rfl rfl (fun _ => rfl) ho (Rd.mkInt _ _ _) e4.size (fun _ h => h.elim) (by decide) (by unfold maxLen; omega) (by omega) (fun v' w5 p ho5 hg5 hnb => ?_)
      rw [← hnext] at ho5
      have e5 : Ext w1 w5 := e4.grown hg5 e4.size (fun b hb => (ho.lt b hb).1)
      (repeat (first | (apply WL.add; rfl; rfl; rfl; rfl; omega; omega) | (apply WL.pure; rfl; rfl; rfl) | (apply WL.nil) | (apply EX.thenN) | (apply CW.region) | (apply EX.inN)))
      exact EX.back (i + 1, v') (by repeat (first | exact trivial | refine ⟨rfl, ?_⟩)) ⟨hi', ho5, e5⟩ (by dsimp only; omega)
    · rw [if_neg (by rw [h2]; simp), List.append_nil] at hnext
      (repeat (first | (apply WL.add; rfl; rfl; rfl; rfl; omega; omega) | (apply WL.pure; rfl; rfl; rfl) | (apply WL.nil) | (apply EX.thenN) | (apply CW.region) | (apply EX.inN) | (apply CW.skip)))
      exact EX.back (i + 1, ov) (by repeat (first | exact trivial | refine ⟨rfl, ?_⟩)) ⟨hi', by dsimp only; rw [hnext]; exact ho, e4⟩ (by dsimp only; omega)
  · obtain rfl : i = fl.length := by simp at h; omega
    (repeat (first | (apply WL.pure; rfl; rfl; rfl) | (apply WL.nil) | (apply EX.thenN) | (apply CW.seq) | (apply CW.region) | (apply CW.exit) | (apply EX.thenX) | (apply EX.inX) | (apply CW.ret)))
    exact EX.ret1 rfl rfl ⟨ho.low e1.size, hE⟩
theorem outs_ok (w0 : World) {so fo : Option Addr} {sc fc k : Nat} {fl : List LFlow} (hf : Sl w0 (Old w0) fo fc fl) (n : Int) (hl : fl.length ≤ 1000) :
    Rt Try.prog 85 [procV so sc fo fc k fl.length, .int .i64 n].toArray w0 fun v w' => Own w' w0.heap.size 3 Non v (outsL fl n) ∧ Ext w0 w' := by
  refine Rt.enter2 Try.func85 Try.ntmps85 rfl rfl ?_
  (repeat (first | (apply CW.seq) | (apply CW.region)))
  refine WL.boxB rfl rfl rfl fun w1 hb2 e1 => ?_
  (repeat (first | (apply WL.pure; rfl; rfl; rfl) | (apply WL.nil) | (apply EX.thenN) | (apply CW.seq) | (apply CW.region) | (apply WL.lenS; rfl; rfl; rfl) | (apply WL.fa; rfl; rfl; rfl) | (apply WL.ld; rfl; rfl; rfl; assumption; rfl) | (apply CW.block)))
  refine CW.loop (S := Nat × Value) (fun s => [(1, .int .i64 n), (2, .pointer (some ⟨w0.heap.size, 0, none⟩)), (5, s.2), (9, .slice fo fl.length fc), (10, .int .i64 fl.length), (11, .int .i64 s.1)])
    (fun s w => s.1 ≤ fl.length ∧ Own w w1.heap.size 3 Non s.2 (outsP fl n s.1) ∧ Ext w1 w) (fun s => fl.length - s.1) (0, .slice none 0 0) (by repeat (first | exact trivial | refine ⟨rfl, ?_⟩)) ⟨Nat.zero_le _, Own.nil, Ext.refl _⟩ ?_
  rintro ⟨i, ov⟩ w2 ⟨hi, ho, e2⟩
  dsimp only at hi ho ⊢
  have hE := e1.trans e2
  have hpl := outsP_len (fl := fl) (n := n) (k := i)
  have hnext := outsP_next (fl := fl) (n := n) (k := i)
  (repeat (first | (apply WL.pure; rfl; rfl; rfl) | (apply WL.nil) | (apply EX.thenN) | (apply CW.seq) | (apply CW.region)))
  refine CW.cond rfl (fun h => ?_) (fun h => ?_)
  · have hi' : i < fl.length := by simp at h; omega
    rw [getDF_at hi'] at hnext
    (repeat (first | (apply WL.pure; rfl; rfl; rfl) | (apply EX.thenN) | (apply CW.seq) | (apply CW.region) | (apply CW.block) | (apply CW.skip)))
    refine WL.elemN rfl rfl rfl rfl rfl (hf.at hE) hi' (fun _ => rfl) (fun u q hu => ?_)
    obtain rfl := hu.flow
    skip
    refine WL.alloc rfl rfl (fun w3 hb7 e3 => ?_)
    (repeat (apply WL.pure; rfl; rfl; rfl))
    refine WL.st rfl rfl rfl hb7 rfl rfl (ones_of rfl) (fun w4 hb7 hg4 => ?_)
    have e4 : Ext w2 w4 := e3.grown hg4 e3.size (fun g hg => by cases hg; exact Nat.le_refl _)
    have ho := ho.extN e4
    have e4 := e2.trans e4
    (repeat (first | (apply WL.pure; rfl; rfl; rfl) | (apply WL.nil) | (apply EX.thenN) | (apply CW.seq) | (apply CW.region) | (apply WL.fa; rfl; rfl; rfl) | (apply WL.ld; rfl; rfl; rfl; assumption; rfl)))
    refine CW.cond rfl (fun h2 => ?_) (fun h2 => ?_)
    · rw [if_pos h2] at hnext
      (repeat (first | (apply WL.pure; rfl; rfl; rfl) | (apply CW.region)))
      refine WL.app1 (F := Non) (yv := (i : Int)) rfl rfl (fun _ => rfl) rfl rfl (fun _ => rfl) ho (Rd.mkInt _ _ _) e4.size (fun _ h => h.elim) (by decide) (by unfold maxLen; omega) (by omega) (fun v' w5 p ho5 hg5 hnb => ?_)
      rw [← hnext] at ho5
      have e5 : Ext w1 w5 := e4.grown hg5 e4.size (fun b hb => (ho.lt b hb).1)
      (repeat (first | (apply WL.add; rfl; rfl; rfl; rfl; omega; omega) | (apply WL.pure; rfl; rfl; rfl) | (apply WL.nil) | (apply EX.thenN) | (apply CW.region) | (apply EX.inN)))
      exact EX.back (i + 1, v') (by repeat (first | exact trivial | refine ⟨rfl, ?_⟩)) ⟨hi', ho5, e5⟩ (by dsimp only; omega)
    · rw [if_neg (by rw [h2]; simp), List.append_nil] at hnext
      (repeat (first | (apply WL.add; rfl; rfl; rfl; rfl; omega; omega) | (apply WL.pure; rfl; rfl; rfl) | (apply WL.nil) | (apply EX.thenN) | (apply CW.region) | (apply EX.inN) | (apply CW.skip)))
      exact EX.back (i + 1, ov) (by repeat (first | exact trivial | refine ⟨rfl, ?_⟩)) ⟨hi', by dsimp only; rw [hnext]; exact ho, e4⟩ (by dsimp only; omega)
  · obtain rfl : i = fl.length := by simp at h; omega
    (repeat (first | (apply WL.pure; rfl; rfl; rfl) | (apply WL.nil) | (apply EX.thenN) | (apply CW.seq) | (apply CW.region) | (apply CW.exit) | (apply EX.thenX) | (apply EX.inX) | (apply CW.ret)))
    exact EX.ret1 rfl rfl ⟨ho.low e1.size, hE⟩
end Go.Proofs.Ytadbkppgaekmpaa
/-
  roomy, kept and slices.Equal at []api.Node and []api.Flow; watchref.SameProcess. Printed by wip/gen_rooms.py.
-/
set_option linter.unusedVariables false
set_option linter.unusedSimpArgs false
namespace Go.Proofs.Ytadbkppgaekmpaa
open Go.RowKit

/-- a list with two of x behind it -/
structure RoomG {α : Type} [Rep α] (w : World) (B : Nat) (e : TypeId) (v : Value) (xs : List α) (x : α) : Prop where
  ok : ∃ b, v = .slice (some ⟨b, 0, none⟩) xs.length (xs.length + 3) ∧ Own w B e Non (.slice (some ⟨b, 0, none⟩) (xs ++ [x, x]).length (xs.length + 3)) (xs ++ [x, x])
section
variable {α : Type} [Rep α]
theorem RoomG.own {w : World} {B : Nat} {e : TypeId} {v : Value} {xs : List α} {x : α} (h : RoomG w B e v xs x) : Own w B e Non v xs := by
  obtain ⟨b, rfl, ho⟩ := h.ok
  have := ho.take rfl (k := xs.length) (by simp)
  rwa [List.take_left'] at this
  rfl
theorem RoomG.keep {w w' : World} {B : Nat} {e : TypeId} {v : Value} {xs : List α} {x : α} (h : RoomG w B e v xs x) (hg : ∀ g, v.ownBlock = some g → w'.heap[g]? = w.heap[g]?) : RoomG w' B e v xs x := by
  obtain ⟨b, rfl, ho⟩ := h.ok
  exact ⟨b, rfl, ho.keep hg fun _ h => h.elim⟩
theorem RoomG.ext {w w' : World} {B : Nat} {e : TypeId} {v : Value} {xs : List α} {x : α} (h : RoomG w B e v xs x) (hE : Ext w w') : RoomG w' B e v xs x :=
  h.keep fun g hg => hE.block g (h.own.lt g hg).2.1
theorem RoomG.low {w : World} {B B' : Nat} {e : TypeId} {v : Value} {xs : List α} {x : α} (h : RoomG w B e v xs x) (hB : B' ≤ B) : RoomG w B' e v xs x := by
  obtain ⟨b, h1, h2⟩ := h.ok
  exact ⟨b, h1, h2.low hB⟩
end
def flV (s : LFlow) : Value := .agg [.int .i64 s.1, .int .i64 s.2].toArray
theorem equalIn_flow0 (x : LFlow) (w : World) : (Op.equalIn 10000 62 (flV x) (flV x)).run Try.prog w = .ok true w := by
  have u3 := Try.underlying3
  have a3 := Try.isAgg3
  have z3 := Try.sizeOf3
  have hS : Try.prog.underlying 62 = some (.struct (Try.prog.fieldsOf 62)) := by kernel_rfl
  have hp : Try.prog.stoodInHeld 62 = false := by kernel_rfl
  obtain ⟨a, b⟩ := x
  simp only [flV]
  rw [show (10000 : Nat) = 9999 + 1 from rfl, run_equalIn_agg w 9999 62 _ _ hS hp]
  simp only [Program.fieldsOf, Try.underlying62]
  go_simp
theorem equalIn_flow (x : LFlow) (w : World) : (binOp .eql 62 (flV x) (flV x)).run Try.prog w = .ok (.bool true) w := by
  have h := equalIn_flow0 x w
  unfold flV at h ⊢
  rw [run_eql_struct, h]; rfl
theorem nequalIn_flow (x : LFlow) (w : World) : (binOp .neq 62 (flV x) (flV x)).run Try.prog w = .ok (.bool false) w := by
  have h := equalIn_flow0 x w
  unfold flV at h ⊢
  rw [run_neq_struct, h]; rfl
theorem run_eq_flow (x : LFlow) (p q : Operand) (w : World) : ((do eqGuard .eql 62 p q (flV x) (flV x); binOp .eql 62 (flV x) (flV x) : Sem Value)).run Try.prog w = .ok (.bool true) w := by
  have hm : Try.prog.eqGuardType Try.prog.depth 62 = false := by kernel_rfl
  have h := equalIn_flow x w
  rw [Sem.run_bind]
  have hg : (eqGuard .eql 62 p q (flV x) (flV x)).run Try.prog w = .ok () w := run_eqGuard_agg w .eql 62 p q _ _ hm
  rw [hg, Result.andThen_ok, h]
theorem run_ne_flow (x : LFlow) (p q : Operand) (w : World) : ((do eqGuard .neq 62 p q (flV x) (flV x); binOp .neq 62 (flV x) (flV x) : Sem Value)).run Try.prog w = .ok (.bool false) w := by
  have hm : Try.prog.eqGuardType Try.prog.depth 62 = false := by kernel_rfl
  rw [Sem.run_bind]
  have hg : (eqGuard .neq 62 p q (flV x) (flV x)).run Try.prog w = .ok () w := run_eqGuard_agg w .neq 62 p q _ _ hm
  rw [hg, Result.andThen_ok, nequalIn_flow]
section
variable {Q : Exit → Act → World → Prop} {n : Nat} {σ : Sg} {w : World} {L rest : List Oper} {d : Nat} {ty : TypeId} {pos : String} {af : Array Edge} {g : Option (Nat × Bool)} {yt : TypeId} {x y : Operand}
theorem QL.ne_flow (a : LFlow) (hg : gd L σ ⟨some d, .binOp .neq 62 x y yt, ty, pos, af, g⟩ = some true) (hd : Nat.ble (d + 1) n = true) (hx : ev σ x = some (flV a)) (hy : ev σ y = some (flV a))
    (h : QL Try.prog L w Q rest n ((d, .bool false) :: σ)) : QL Try.prog L w Q (⟨some d, .binOp .neq 62 x y yt, ty, pos, af, g⟩ :: rest) n σ := by
  refine QL.run hg hd (fun c hc w' _ => ?_) h
  have := run_ne_flow a x y w'
  simp only [execOp, hc.ev hx, hc.ev hy]
  rw [Sem.run_bind, this]; rfl
theorem QL.eq_flow (a : LFlow) (hg : gd L σ ⟨some d, .binOp .eql 62 x y yt, ty, pos, af, g⟩ = some true) (hd : Nat.ble (d + 1) n = true) (hx : ev σ x = some (flV a)) (hy : ev σ y = some (flV a))
    (h : QL Try.prog L w Q rest n ((d, .bool true) :: σ)) : QL Try.prog L w Q (⟨some d, .binOp .eql 62 x y yt, ty, pos, af, g⟩ :: rest) n σ := by
  refine QL.run hg hd (fun c hc w' _ => ?_) h
  have := run_eq_flow a x y w'
  simp only [execOp, hc.ev hx, hc.ev hy]
  rw [Sem.run_bind, this]; rfl
end
instance iRmS_flow : IsF Try.prog 91 := ⟨_, Try.func91, rfl, by decide⟩
instance iRmR_flow : IsF Try.prog 31 := ⟨_, Try.func31, rfl, by decide⟩
instance iRmK_flow : IsF Try.prog 38 := ⟨_, Try.func38, rfl, by decide⟩
theorem equal_flow (w0 : World) {ao bo : Option Addr} {cap cap' : Nat} {xs : List LFlow} (hs : Sl w0 (Old w0) ao cap xs) (ht : Sl w0 (Old w0) bo cap' xs) :
    Rt Try.prog 91 [.slice ao xs.length cap, .slice bo xs.length cap'].toArray w0 fun v w' => v = .bool true ∧ Ext w0 w' := by
  have hm := hs.len63
  refine Rt.enter2 Try.func91 Try.ntmps91 rfl rfl ?_
  (repeat (first | (apply WL.pure; rfl; rfl; rfl) | (apply WL.nil) | (apply EX.thenN) | (apply CW.seq) | (apply CW.region) | (apply WL.lenS; rfl; rfl; rfl)))
  refine CW.cond rfl (fun h => ?_) (fun h => ?_)
  · simp at h
  · clear h
    (repeat (first | (apply WL.pure; rfl; rfl; rfl) | (apply WL.nil) | (apply EX.thenN) | (apply CW.seq) | (apply CW.region) | (apply WL.lenS; rfl; rfl; rfl) | (apply CW.block) | (apply CW.skip)))
    refine CW.loop (S := Nat) (fun k => [(0, .slice ao xs.length cap), (1, .slice bo xs.length cap'), (12, .int .i64 xs.length), (13, .int .i64 k)])
      (fun k w => k ≤ xs.length ∧ Ext w0 w) (fun k => xs.length - k) 0 (by repeat (first | exact trivial | refine ⟨rfl, ?_⟩)) ⟨by omega, Ext.refl _⟩ ?_
    rintro k w ⟨hk, hB⟩
    (repeat (first | (apply WL.pure; rfl; rfl; rfl) | (apply WL.nil) | (apply EX.thenN) | (apply CW.seq) | (apply CW.region)))
    refine CW.cond rfl (fun h1 => ?_) (fun h1 => ?_)
    · simp at h1
      (repeat (first | (apply WL.pure; rfl; rfl; rfl) | (apply QL.pure; rfl; rfl; rfl) | (apply WL.nil) | (apply EX.thenN) | (apply CW.seq) | (apply CW.region) | (apply CW.block) | (apply CW.skip) | (apply CW.draw; exact mixed; kernel_rfl)))
      refine QL.elemN rfl rfl rfl rfl rfl (fun _ h => h) (hs.up hB) h1 (fun _ => rfl) (fun u q hu => ?_)
      rw [Rd.flow hu]
      (repeat (apply QL.pure; rfl; rfl; rfl))
      refine QL.elemN rfl rfl rfl rfl rfl (fun _ h => h) (ht.up hB) h1 (fun _ => rfl) (fun u q' hu => ?_)
      rw [Rd.flow hu]
      skip
      refine QL.ne_flow xs[k] rfl rfl rfl rfl ?_
      refine QL.nil (fun w1 hE => ?_)
      (repeat (first | (apply WL.add; rfl; rfl; rfl; rfl; omega; omega) | (apply WL.pure; rfl; rfl; rfl) | (apply WL.nil) | (apply EX.thenN) | (apply CW.region) | (apply EX.inN) | (apply CW.condF; rfl) | (apply CW.skip)))
      exact EX.back (k + 1) (by repeat (first | exact trivial | refine ⟨rfl, ?_⟩)) ⟨h1, hB.trans hE⟩ (by omega)
    · simp at h1
      (repeat (first | (apply WL.pure; rfl; rfl; rfl) | (apply WL.nil) | (apply EX.thenN) | (apply CW.seq) | (apply CW.region) | (apply CW.exit) | (apply EX.thenX) | (apply EX.inX) | (apply CW.ret)))
      exact EX.ret1 rfl rfl ⟨rfl, hB⟩
instance iRmF_flow : Flat LFlow := ⟨fun h => h⟩
set_option maxHeartbeats 1000000 in
theorem roomy_flow (w0 : World) {F : Nat → Prop} {ao : Option Addr} {cap : Nat} {xs : List LFlow} (hs : Sl w0 F ao cap xs) (hF : ∀ b, F b → b < w0.heap.size) (x : LFlow) (hx : True) (hb : xs.length ≤ 1048576) :
    Rt Try.prog 31 [.slice ao xs.length cap, flV x].toArray w0 fun v w' => RoomG w' w0.heap.size 62 v xs x ∧ Ext w0 w' := by
  unfold flV
  refine Rt.enter2 Try.func31 Try.ntmps31 rfl rfl ?_
  (repeat (first | (apply CW.seq) | (apply CW.region)))
  refine WL.boxB rfl rfl rfl fun w1 hb3 e1 => ?_
  have hs1 := hs.mono (fun b hb => e1.block b (hF b hb)) fun _ h => h
  have hF1 : ∀ b, F b → b < w1.heap.size := fun b hb => Nat.lt_of_lt_of_le (hF b hb) e1.size
  have z1 := e1.size
  have hrx : ∀ w, Rd w Non (.agg [.int .i64 x.1, .int .i64 x.2].toArray) x := fun w => Rd.mkPr (c1 := [_]) (c2 := [_]) (rd_mkInt _ _ _) (rd_mkInt _ _ _)
  (repeat (first | (apply WL.pure; rfl; rfl; rfl) | (apply WL.nil) | (apply EX.thenN) | (apply CW.seq)))
  have hSE : ∀ z, (fun z : World => Ext w1 z) z → Ext w1 z := fun _ h => h
  refine CW.drawC (fun z => Ext w1 z) [(0, true), (1, true), (2, true), (4, true), (6, true), (7, true)] 8 [3, 5] [(9, false), (10, true)] mixed (by kernel_rfl) (Ext.drew w1) ?_
  (repeat (first | (apply HL.add; rfl; rfl; rfl; rfl; rfl; omega; omega) | (apply HL.pure; rfl; rfl; rfl; rfl) | (refine HL.ldA (by assumption) rfl rfl rfl rfl (by assumption) rfl ?_) | (refine HL.lenS rfl rfl rfl rfl ?_) | (apply HL.nil)))
  have f0 : Ext w1 (drew w1) := Ext.drew w1
  have hsx : ∀ w, Ext w1 w → Sl w F ao cap xs := fun w h => hs1.mono (fun b hb => h.block b (hF1 b hb)) fun _ h => h
  refine EX.chain f0 rfl (WL.makeC (α := LFlow) (k := xs.length + 3) rfl rfl rfl rfl (by omega) (by unfold maxLen; omega) (fun wA hoA hgA => ?_)) (HL.mut rfl (WL.lit (α := LFlow) (F := Non) (ys := [x, x]) rfl rfl rfl rfl rfl (.cons (hrx _) (.cons (hrx _) .nil)) (by show 2 * 2 ≤ 16777216; decide) (fun _ h => h.elim) (fun wE hoE hgE => ?_)))
  · have eA : Ext (drew w1) wA := (Ext.refl _).grown hgA (Nat.le_refl _) (fun k h => by cases h)
    have fA := Ext.trans f0 eA
    refine WL.nil (EX.chain fA rfl (WL.appIn (F := Non) (xs := []) (cap := cap) rfl rfl rfl rfl hoA (hsx _ fA).srcN (by simp) (fun wB hoB hgB => ?_)) (HL.mut rfl (WL.lit (α := LFlow) (F := Non) (ys := [x, x]) rfl rfl rfl rfl rfl (.cons (hrx _) (.cons (hrx _) .nil)) (by show 2 * 2 ≤ 16777216; decide) (fun _ h => h.elim) (fun wE hoE hgE => ?_))))
    · have fB : Ext w1 wB := Below.grown fA hgB fA.size (fun k h => by cases h; exact f0.size)
      simp only [List.nil_append, List.length_nil, Nat.zero_add] at hoB
      refine WL.nil (EX.chain0 fB (HL.mut rfl (WL.lit (α := LFlow) (F := Non) (ys := [x, x]) rfl rfl rfl rfl rfl (.cons (hrx _) (.cons (hrx _) .nil)) (by show 2 * 2 ≤ 16777216; decide) (fun _ h => h.elim) (fun wE hoE hgE => ?_))))
      have eE : Ext wB wE := (Ext.refl _).grown hgE (Nat.le_refl _) (fun k h => by cases h)
      have fE := Ext.trans fB eE
      have hoB := hoB.extN eE
      have hge : w0.heap.size ≤ (drew w1).heap.size := Nat.le_trans z1 f0.size
      refine WL.nil (EX.mut fE ?_)
      refine HL.mut rfl (WL.appIn (F := Non) (xs := xs) (ys := [x, x]) (cap := 2) rfl rfl (by simp only [List.length_nil, Nat.zero_add]; rfl) rfl hoB hoE.src (by simp) (fun wF hoF hgF => ?_))
      have fF : Ext w1 wF := Below.grown fE hgF fE.size (fun k h => by cases h; exact f0.size)
      refine WL.nil (EX.mut fF ?_)
      (repeat (first | (apply HL.pure; rfl; rfl; rfl; rfl) | (apply HL.nil)))
      (repeat (first | (apply WL.pure; rfl; rfl; rfl) | (apply EX.thenN) | (apply CW.seq) | (apply CW.region) | (apply WL.lenS; rfl; rfl; rfl)))
      refine WL.cutHi (α := LFlow) xs.length rfl rfl rfl rfl rfl (by omega) ?_
      (repeat (first | (apply WL.pure; rfl; rfl; rfl) | (apply WL.nil) | (apply EX.thenN) | (apply CW.ret)))
      exact EX.ret1 rfl rfl ⟨⟨_, rfl, by simpa using hoF.low hge⟩, e1.trans fF⟩
    · have eE : Ext wA wE := (Ext.refl _).grown hgE (Nat.le_refl _) (fun k h => by cases h)
      have fE := Ext.trans fA eE
      have lA := (hoA.lt _ rfl).2.1
      have hoA := hoA.extN eE
      refine WL.nil (EX.mut fE ?_)
      refine HL.mut rfl (WL.appIn (F := Non) (xs := []) (cap := cap) rfl rfl rfl rfl hoA (hsx _ fE).srcN (by simp) (fun wB hoB hgB => ?_))
      have fB : Ext w1 wB := Below.grown fE hgB fE.size (fun k h => by cases h; exact f0.size)
      simp only [List.nil_append, List.length_nil, Nat.zero_add] at hoB
      have hoE := hoE.keptN hgB (fun g hg e => by have h1 := Option.some.inj hg; have h2 := Option.some.inj e; dsimp only at *; omega)
      have hge : w0.heap.size ≤ (drew w1).heap.size := Nat.le_trans z1 f0.size
      refine WL.nil (EX.mut fB ?_)
      refine HL.mut rfl (WL.appIn (F := Non) (xs := xs) (ys := [x, x]) (cap := 2) rfl rfl (by simp only [List.length_nil, Nat.zero_add]; rfl) rfl hoB hoE.src (by simp) (fun wF hoF hgF => ?_))
      have fF : Ext w1 wF := Below.grown fB hgF fB.size (fun k h => by cases h; exact f0.size)
      refine WL.nil (EX.mut fF ?_)
      (repeat (first | (apply HL.pure; rfl; rfl; rfl; rfl) | (apply HL.nil)))
      (repeat (first | (apply WL.pure; rfl; rfl; rfl) | (apply EX.thenN) | (apply CW.seq) | (apply CW.region) | (apply WL.lenS; rfl; rfl; rfl)))
      refine WL.cutHi (α := LFlow) xs.length rfl rfl rfl rfl rfl (by omega) ?_
      (repeat (first | (apply WL.pure; rfl; rfl; rfl) | (apply WL.nil) | (apply EX.thenN) | (apply CW.ret)))
      exact EX.ret1 rfl rfl ⟨⟨_, rfl, by simpa using hoF.low hge⟩, e1.trans fF⟩
  · have eE : Ext (drew w1) wE := (Ext.refl _).grown hgE (Nat.le_refl _) (fun k h => by cases h)
    have fE := Ext.trans f0 eE
    refine WL.nil (EX.mut fE ?_)
    refine HL.mut rfl (WL.makeC (α := LFlow) (k := xs.length + 3) rfl rfl rfl rfl (by omega) (by unfold maxLen; omega) (fun wA hoA hgA => ?_))
    have eA : Ext wE wA := (Ext.refl _).grown hgA (Nat.le_refl _) (fun k h => by cases h)
    have fA := Ext.trans fE eA
    have lE := (hoE.lt _ rfl).2.1
    have hoE := hoE.extN eA
    refine WL.nil (EX.mut fA ?_)
    refine HL.mut rfl (WL.appIn (F := Non) (xs := []) (cap := cap) rfl rfl rfl rfl hoA (hsx _ fA).srcN (by simp) (fun wB hoB hgB => ?_))
    have fB : Ext w1 wB := Below.grown fA hgB fA.size (fun k h => by cases h; exact fE.size)
    simp only [List.nil_append, List.length_nil, Nat.zero_add] at hoB
    have hoE := hoE.keptN hgB (fun g hg e => by have h1 := Option.some.inj hg; have h2 := Option.some.inj e; dsimp only at *; omega)
    have hge : w0.heap.size ≤ wE.heap.size := Nat.le_trans z1 fE.size
    refine WL.nil (EX.mut fB ?_)
    refine HL.mut rfl (WL.appIn (F := Non) (xs := xs) (ys := [x, x]) (cap := 2) rfl rfl (by simp only [List.length_nil, Nat.zero_add]; rfl) rfl hoB hoE.src (by simp) (fun wF hoF hgF => ?_))
    have fF : Ext w1 wF := Below.grown fB hgF fB.size (fun k h => by cases h; exact fE.size)
    refine WL.nil (EX.mut fF ?_)
    (repeat (first | (apply HL.pure; rfl; rfl; rfl; rfl) | (apply HL.nil)))
    (repeat (first | (apply WL.pure; rfl; rfl; rfl) | (apply EX.thenN) | (apply CW.seq) | (apply CW.region) | (apply WL.lenS; rfl; rfl; rfl)))
    refine WL.cutHi (α := LFlow) xs.length rfl rfl rfl rfl rfl (by omega) ?_
    (repeat (first | (apply WL.pure; rfl; rfl; rfl) | (apply WL.nil) | (apply EX.thenN) | (apply CW.ret)))
    exact EX.ret1 rfl rfl ⟨⟨_, rfl, by simpa using hoF.low hge⟩, e1.trans fF⟩
theorem kept_flow (w0 : World) {B : Nat} {v : Value} {xs : List LFlow} {x : LFlow} (h : RoomG w0 B 62 v xs x) (hb : xs.length ≤ 1048576) :
    Rt Try.prog 38 [v, flV x].toArray w0 fun v w' => v = .bool true ∧ Ext w0 w' := by
  obtain ⟨b, rfl, ho⟩ := h.ok
  refine Rt.enter2 Try.func38 Try.ntmps38 rfl rfl ?_
  unfold flV
  (repeat (first | (apply CW.seq) | (apply CW.region)))
  refine WL.boxB rfl rfl rfl fun w1 hb3 e1 => ?_
  have hl : (xs ++ [x, x]).length = xs.length + 2 := by simp
  have ho := ho.extN e1
  rw [hl] at ho
  (repeat (first | (apply WL.add; rfl; rfl; rfl; rfl; omega; omega) | (apply WL.pure; rfl; rfl; rfl) | (apply WL.nil) | (apply EX.thenN) | (apply CW.seq) | (apply CW.region) | (apply WL.lenS; rfl; rfl; rfl)))
  refine WL.cutHi (α := LFlow) (xs.length + 2) (by omega) rfl rfl rfl rfl (by omega) ?_
  obtain ⟨so, sc, hv, hsl⟩ := ho.oldN.sl
  rw [hl] at hv
  obtain ⟨rfl, _, rfl⟩ := Value.slice.inj hv
  (repeat (first | (apply WL.pure; rfl; rfl; rfl) | (apply QL.pure; rfl; rfl; rfl) | (apply WL.nil) | (apply EX.thenN) | (apply CW.seq) | (apply QL.lenS; rfl; rfl; rfl) | (apply CW.draw; exact mixed; kernel_rfl)))
  refine QL.elemN (i := xs.length) (xs := xs ++ [x, x]) rfl rfl rfl (by rw [hl]; rfl) rfl (fun _ h => h) hsl (by simp) (fun _ => rfl) (fun u q hu => ?_)
  rw [Rd.flow hu, show (xs ++ [x, x])[xs.length]'(by simp) = x by simp]
  (repeat (apply QL.ldA; rfl; rfl; rfl; assumption; rfl))
  refine QL.eq_flow x rfl rfl rfl rfl ?_
  (repeat (first | (apply QL.add; rfl; rfl; rfl; rfl; omega; omega) | (apply QL.pure; rfl; rfl; rfl) | (apply QL.lenS; rfl; rfl; rfl)))
  refine QL.elemN (i := xs.length + 1) (xs := xs ++ [x, x]) rfl rfl rfl (by rw [hl]; rfl) rfl (fun _ h => h) hsl (by simp) (fun _ => rfl) (fun u q hu => ?_)
  rw [Rd.flow hu, show (xs ++ [x, x])[xs.length + 1]'(by simp) = x by simp]
  (repeat (apply QL.ldA; rfl; rfl; rfl; assumption; rfl))
  refine QL.eq_flow x rfl rfl rfl rfl ?_
  (repeat (apply QL.pure; rfl; rfl; rfl))
  refine QL.nil (fun w2 e2 => ?_)
  (repeat (first | (apply EX.thenN) | (apply CW.ret)))
  exact EX.ret1 rfl rfl ⟨rfl, e1.trans e2⟩
def ndV (s : LNode) : Value := .agg [.string s.1, .int .i64 s.2].toArray
theorem equalIn_node0 (x : LNode) (w : World) : (Op.equalIn 10000 59 (ndV x) (ndV x)).run Try.prog w = .ok true w := by
  have u3 := Try.underlying3
  have a3 := Try.isAgg3
  have z3 := Try.sizeOf3
  have u4 := Try.underlying9
  have a4 := Try.isAgg9
  have z4 := Try.sizeOf9
  have hS : Try.prog.underlying 59 = some (.struct (Try.prog.fieldsOf 59)) := by kernel_rfl
  have hp : Try.prog.stoodInHeld 59 = false := by kernel_rfl
  obtain ⟨a, b⟩ := x
  simp only [ndV]
  rw [show (10000 : Nat) = 9999 + 1 from rfl, run_equalIn_agg w 9999 59 _ _ hS hp]
  simp only [Program.fieldsOf, Try.underlying59]
  go_simp
theorem equalIn_node (x : LNode) (w : World) : (binOp .eql 59 (ndV x) (ndV x)).run Try.prog w = .ok (.bool true) w := by
  have h := equalIn_node0 x w
  unfold ndV at h ⊢
  rw [run_eql_struct, h]; rfl
theorem nequalIn_node (x : LNode) (w : World) : (binOp .neq 59 (ndV x) (ndV x)).run Try.prog w = .ok (.bool false) w := by
  have h := equalIn_node0 x w
  unfold ndV at h ⊢
  rw [run_neq_struct, h]; rfl
theorem run_eq_node (x : LNode) (p q : Operand) (w : World) : ((do eqGuard .eql 59 p q (ndV x) (ndV x); binOp .eql 59 (ndV x) (ndV x) : Sem Value)).run Try.prog w = .ok (.bool true) w := by
  have hm : Try.prog.eqGuardType Try.prog.depth 59 = false := by kernel_rfl
  have h := equalIn_node x w
  rw [Sem.run_bind]
  have hg : (eqGuard .eql 59 p q (ndV x) (ndV x)).run Try.prog w = .ok () w := run_eqGuard_agg w .eql 59 p q _ _ hm
  rw [hg, Result.andThen_ok, h]
theorem run_ne_node (x : LNode) (p q : Operand) (w : World) : ((do eqGuard .neq 59 p q (ndV x) (ndV x); binOp .neq 59 (ndV x) (ndV x) : Sem Value)).run Try.prog w = .ok (.bool false) w := by
  have hm : Try.prog.eqGuardType Try.prog.depth 59 = false := by kernel_rfl
  rw [Sem.run_bind]
  have hg : (eqGuard .neq 59 p q (ndV x) (ndV x)).run Try.prog w = .ok () w := run_eqGuard_agg w .neq 59 p q _ _ hm
  rw [hg, Result.andThen_ok, nequalIn_node]
section
variable {Q : Exit → Act → World → Prop} {n : Nat} {σ : Sg} {w : World} {L rest : List Oper} {d : Nat} {ty : TypeId} {pos : String} {af : Array Edge} {g : Option (Nat × Bool)} {yt : TypeId} {x y : Operand}
theorem QL.ne_node (a : LNode) (hg : gd L σ ⟨some d, .binOp .neq 59 x y yt, ty, pos, af, g⟩ = some true) (hd : Nat.ble (d + 1) n = true) (hx : ev σ x = some (ndV a)) (hy : ev σ y = some (ndV a))
    (h : QL Try.prog L w Q rest n ((d, .bool false) :: σ)) : QL Try.prog L w Q (⟨some d, .binOp .neq 59 x y yt, ty, pos, af, g⟩ :: rest) n σ := by
  refine QL.run hg hd (fun c hc w' _ => ?_) h
  have := run_ne_node a x y w'
  simp only [execOp, hc.ev hx, hc.ev hy]
  rw [Sem.run_bind, this]; rfl
theorem QL.eq_node (a : LNode) (hg : gd L σ ⟨some d, .binOp .eql 59 x y yt, ty, pos, af, g⟩ = some true) (hd : Nat.ble (d + 1) n = true) (hx : ev σ x = some (ndV a)) (hy : ev σ y = some (ndV a))
    (h : QL Try.prog L w Q rest n ((d, .bool true) :: σ)) : QL Try.prog L w Q (⟨some d, .binOp .eql 59 x y yt, ty, pos, af, g⟩ :: rest) n σ := by
  refine QL.run hg hd (fun c hc w' _ => ?_) h
  have := run_eq_node a x y w'
  simp only [execOp, hc.ev hx, hc.ev hy]
  rw [Sem.run_bind, this]; rfl
end
instance iRmS_node : IsF Try.prog 90 := ⟨_, Try.func90, rfl, by decide⟩
instance iRmR_node : IsF Try.prog 30 := ⟨_, Try.func30, rfl, by decide⟩
instance iRmK_node : IsF Try.prog 37 := ⟨_, Try.func37, rfl, by decide⟩
theorem equal_node (w0 : World) {ao bo : Option Addr} {cap cap' : Nat} {xs : List LNode} (hs : Sl w0 (Old w0) ao cap xs) (ht : Sl w0 (Old w0) bo cap' xs) :
    Rt Try.prog 90 [.slice ao xs.length cap, .slice bo xs.length cap'].toArray w0 fun v w' => v = .bool true ∧ Ext w0 w' := by
  have hm := hs.len63
  refine Rt.enter2 Try.func90 Try.ntmps90 rfl rfl ?_
  (repeat (first | (apply WL.pure; rfl; rfl; rfl) | (apply WL.nil) | (apply EX.thenN) | (apply CW.seq) | (apply CW.region) | (apply WL.lenS; rfl; rfl; rfl)))
  refine CW.cond rfl (fun h => ?_) (fun h => ?_)
  · simp at h
  · clear h
    (repeat (first | (apply WL.pure; rfl; rfl; rfl) | (apply WL.nil) | (apply EX.thenN) | (apply CW.seq) | (apply CW.region) | (apply WL.lenS; rfl; rfl; rfl) | (apply CW.block) | (apply CW.skip)))
    refine CW.loop (S := Nat) (fun k => [(0, .slice ao xs.length cap), (1, .slice bo xs.length cap'), (12, .int .i64 xs.length), (13, .int .i64 k)])
      (fun k w => k ≤ xs.length ∧ Ext w0 w) (fun k => xs.length - k) 0 (by repeat (first | exact trivial | refine ⟨rfl, ?_⟩)) ⟨by omega, Ext.refl _⟩ ?_
    rintro k w ⟨hk, hB⟩
    (repeat (first | (apply WL.pure; rfl; rfl; rfl) | (apply WL.nil) | (apply EX.thenN) | (apply CW.seq) | (apply CW.region)))
    refine CW.cond rfl (fun h1 => ?_) (fun h1 => ?_)
    · simp at h1
      (repeat (first | (apply WL.pure; rfl; rfl; rfl) | (apply QL.pure; rfl; rfl; rfl) | (apply WL.nil) | (apply EX.thenN) | (apply CW.seq) | (apply CW.region) | (apply CW.block) | (apply CW.skip) | (apply CW.draw; exact mixed; kernel_rfl)))
      refine QL.elemN rfl rfl rfl rfl rfl (fun _ h => h) (hs.up hB) h1 (fun _ => rfl) (fun u q hu => ?_)
      rw [Rd.node hu]
      (repeat (apply QL.pure; rfl; rfl; rfl))
      refine QL.elemN rfl rfl rfl rfl rfl (fun _ h => h) (ht.up hB) h1 (fun _ => rfl) (fun u q' hu => ?_)
      rw [Rd.node hu]
      skip
      refine QL.ne_node xs[k] rfl rfl rfl rfl ?_
      refine QL.nil (fun w1 hE => ?_)
      (repeat (first | (apply WL.add; rfl; rfl; rfl; rfl; omega; omega) | (apply WL.pure; rfl; rfl; rfl) | (apply WL.nil) | (apply EX.thenN) | (apply CW.region) | (apply EX.inN) | (apply CW.condF; rfl) | (apply CW.skip)))
      exact EX.back (k + 1) (by repeat (first | exact trivial | refine ⟨rfl, ?_⟩)) ⟨h1, hB.trans hE⟩ (by omega)
    · simp at h1
      (repeat (first | (apply WL.pure; rfl; rfl; rfl) | (apply WL.nil) | (apply EX.thenN) | (apply CW.seq) | (apply CW.region) | (apply CW.exit) | (apply EX.thenX) | (apply EX.inX) | (apply CW.ret)))
      exact EX.ret1 rfl rfl ⟨rfl, hB⟩
instance iRmF_node : Flat LNode := ⟨fun h => h⟩
set_option maxHeartbeats 1000000 in
theorem roomy_node (w0 : World) {F : Nat → Prop} {ao : Option Addr} {cap : Nat} {xs : List LNode} (hs : Sl w0 F ao cap xs) (hF : ∀ b, F b → b < w0.heap.size) (x : LNode) (hx : x.1.size ≤ maxLen) (hb : xs.length ≤ 1048576) :
    Rt Try.prog 30 [.slice ao xs.length cap, ndV x].toArray w0 fun v w' => RoomG w' w0.heap.size 59 v xs x ∧ Ext w0 w' := by
  unfold ndV
  refine Rt.enter2 Try.func30 Try.ntmps30 rfl rfl ?_
  (repeat (first | (apply CW.seq) | (apply CW.region)))
  refine WL.boxB rfl rfl rfl fun w1 hb3 e1 => ?_
  have hs1 := hs.mono (fun b hb => e1.block b (hF b hb)) fun _ h => h
  have hF1 : ∀ b, F b → b < w1.heap.size := fun b hb => Nat.lt_of_lt_of_le (hF b hb) e1.size
  have z1 := e1.size
  have hrx : ∀ w, Rd w Non (.agg [.string x.1, .int .i64 x.2].toArray) x := fun w => Rd.mkPr (c1 := [_]) (c2 := [_]) ⟨rfl, hx⟩ (rd_mkInt _ _ _)
  (repeat (first | (apply WL.pure; rfl; rfl; rfl) | (apply WL.nil) | (apply EX.thenN) | (apply CW.seq)))
  have hSE : ∀ z, (fun z : World => Ext w1 z) z → Ext w1 z := fun _ h => h
  refine CW.drawC (fun z => Ext w1 z) [(0, true), (1, true), (2, true), (4, true), (6, true), (7, true)] 8 [3, 5] [(9, false), (10, true)] mixed (by kernel_rfl) (Ext.drew w1) ?_
  (repeat (first | (apply HL.add; rfl; rfl; rfl; rfl; rfl; omega; omega) | (apply HL.pure; rfl; rfl; rfl; rfl) | (refine HL.ldA (by assumption) rfl rfl rfl rfl (by assumption) rfl ?_) | (refine HL.lenS rfl rfl rfl rfl ?_) | (apply HL.nil)))
  have f0 : Ext w1 (drew w1) := Ext.drew w1
  have hsx : ∀ w, Ext w1 w → Sl w F ao cap xs := fun w h => hs1.mono (fun b hb => h.block b (hF1 b hb)) fun _ h => h
  refine EX.chain f0 rfl (WL.makeC (α := LNode) (k := xs.length + 3) rfl rfl rfl rfl (by omega) (by unfold maxLen; omega) (fun wA hoA hgA => ?_)) (HL.mut rfl (WL.lit (α := LNode) (F := Non) (ys := [x, x]) rfl rfl rfl rfl rfl (.cons (hrx _) (.cons (hrx _) .nil)) (by show 2 * 2 ≤ 16777216; decide) (fun _ h => h.elim) (fun wE hoE hgE => ?_)))
  · have eA : Ext (drew w1) wA := (Ext.refl _).grown hgA (Nat.le_refl _) (fun k h => by cases h)
    have fA := Ext.trans f0 eA
    refine WL.nil (EX.chain fA rfl (WL.appIn (F := Non) (xs := []) (cap := cap) rfl rfl rfl rfl hoA (hsx _ fA).srcN (by simp) (fun wB hoB hgB => ?_)) (HL.mut rfl (WL.lit (α := LNode) (F := Non) (ys := [x, x]) rfl rfl rfl rfl rfl (.cons (hrx _) (.cons (hrx _) .nil)) (by show 2 * 2 ≤ 16777216; decide) (fun _ h => h.elim) (fun wE hoE hgE => ?_))))
    · have fB : Ext w1 wB := Below.grown fA hgB fA.size (fun k h => by cases h; exact f0.size)
      simp only [List.nil_append, List.length_nil, Nat.zero_add] at hoB
      refine WL.nil (EX.chain0 fB (HL.mut rfl (WL.lit (α := LNode) (F := Non) (ys := [x, x]) rfl rfl rfl rfl rfl (.cons (hrx _) (.cons (hrx _) .nil)) (by show 2 * 2 ≤ 16777216; decide) (fun _ h => h.elim) (fun wE hoE hgE => ?_))))
      have eE : Ext wB wE := (Ext.refl _).grown hgE (Nat.le_refl _) (fun k h => by cases h)
      have fE := Ext.trans fB eE
      have hoB := hoB.extN eE
      have hge : w0.heap.size ≤ (drew w1).heap.size := Nat.le_trans z1 f0.size
      refine WL.nil (EX.mut fE ?_)
      refine HL.mut rfl (WL.appIn (F := Non) (xs := xs) (ys := [x, x]) (cap := 2) rfl rfl (by simp only [List.length_nil, Nat.zero_add]; rfl) rfl hoB hoE.src (by simp) (fun wF hoF hgF => ?_))
      have fF : Ext w1 wF := Below.grown fE hgF fE.size (fun k h => by cases h; exact f0.size)
      refine WL.nil (EX.mut fF ?_)
      (repeat (first | (apply HL.pure; rfl; rfl; rfl; rfl) | (apply HL.nil)))
      (repeat (first | (apply WL.pure; rfl; rfl; rfl) | (apply EX.thenN) | (apply CW.seq) | (apply CW.region) | (apply WL.lenS; rfl; rfl; rfl)))
      refine WL.cutHi (α := LNode) xs.length rfl rfl rfl rfl rfl (by omega) ?_
      (repeat (first | (apply WL.pure; rfl; rfl; rfl) | (apply WL.nil) | (apply EX.thenN) | (apply CW.ret)))
      exact EX.ret1 rfl rfl ⟨⟨_, rfl, by simpa using hoF.low hge⟩, e1.trans fF⟩
    · have eE : Ext wA wE := (Ext.refl _).grown hgE (Nat.le_refl _) (fun k h => by cases h)
      have fE := Ext.trans fA eE
      have lA := (hoA.lt _ rfl).2.1
      have hoA := hoA.extN eE
      refine WL.nil (EX.mut fE ?_)
      refine HL.mut rfl (WL.appIn (F := Non) (xs := []) (cap := cap) rfl rfl rfl rfl hoA (hsx _ fE).srcN (by simp) (fun wB hoB hgB => ?_))
      have fB : Ext w1 wB := Below.grown fE hgB fE.size (fun k h => by cases h; exact f0.size)
      simp only [List.nil_append, List.length_nil, Nat.zero_add] at hoB
      have hoE := hoE.keptN hgB (fun g hg e => by have h1 := Option.some.inj hg; have h2 := Option.some.inj e; dsimp only at *; omega)
      have hge : w0.heap.size ≤ (drew w1).heap.size := Nat.le_trans z1 f0.size
      refine WL.nil (EX.mut fB ?_)
      refine HL.mut rfl (WL.appIn (F := Non) (xs := xs) (ys := [x, x]) (cap := 2) rfl rfl (by simp only [List.length_nil, Nat.zero_add]; rfl) rfl hoB hoE.src (by simp) (fun wF hoF hgF => ?_))
      have fF : Ext w1 wF := Below.grown fB hgF fB.size (fun k h => by cases h; exact f0.size)
      refine WL.nil (EX.mut fF ?_)
      (repeat (first | (apply HL.pure; rfl; rfl; rfl; rfl) | (apply HL.nil)))
      (repeat (first | (apply WL.pure; rfl; rfl; rfl) | (apply EX.thenN) | (apply CW.seq) | (apply CW.region) | (apply WL.lenS; rfl; rfl; rfl)))
      refine WL.cutHi (α := LNode) xs.length rfl rfl rfl rfl rfl (by omega) ?_
      (repeat (first | (apply WL.pure; rfl; rfl; rfl) | (apply WL.nil) | (apply EX.thenN) | (apply CW.ret)))
      exact EX.ret1 rfl rfl ⟨⟨_, rfl, by simpa using hoF.low hge⟩, e1.trans fF⟩
  · have eE : Ext (drew w1) wE := (Ext.refl _).grown hgE (Nat.le_refl _) (fun k h => by cases h)
    have fE := Ext.trans f0 eE
    refine WL.nil (EX.mut fE ?_)
    refine HL.mut rfl (WL.makeC (α := LNode) (k := xs.length + 3) rfl rfl rfl rfl (by omega) (by unfold maxLen; omega) (fun wA hoA hgA => ?_))
    have eA : Ext wE wA := (Ext.refl _).grown hgA (Nat.le_refl _) (fun k h => by cases h)
    have fA := Ext.trans fE eA
    have lE := (hoE.lt _ rfl).2.1
    have hoE := hoE.extN eA
    refine WL.nil (EX.mut fA ?_)
    refine HL.mut rfl (WL.appIn (F := Non) (xs := []) (cap := cap) rfl rfl rfl rfl hoA (hsx _ fA).srcN (by simp) (fun wB hoB hgB => ?_))
    have fB : Ext w1 wB := Below.grown fA hgB fA.size (fun k h => by cases h; exact fE.size)
    simp only [List.nil_append, List.length_nil, Nat.zero_add] at hoB
    have hoE := hoE.keptN hgB (fun g hg e => by have h1 := Option.some.inj hg; have h2 := Option.some.inj e; dsimp only at *; omega)
    have hge : w0.heap.size ≤ wE.heap.size := Nat.le_trans z1 fE.size
    refine WL.nil (EX.mut fB ?_)
    refine HL.mut rfl (WL.appIn (F := Non) (xs := xs) (ys := [x, x]) (cap := 2) rfl rfl (by simp only [List.length_nil, Nat.zero_add]; rfl) rfl hoB hoE.src (by simp) (fun wF hoF hgF => ?_))
    have fF : Ext w1 wF := Below.grown fB hgF fB.size (fun k h => by cases h; exact fE.size)
    refine WL.nil (EX.mut fF ?_)
    (repeat (first | (apply HL.pure; rfl; rfl; rfl; rfl) | (apply HL.nil)))
    (repeat (first | (apply WL.pure; rfl; rfl; rfl) | (apply EX.thenN) | (apply CW.seq) | (apply CW.region) | (apply WL.lenS; rfl; rfl; rfl)))
    refine WL.cutHi (α := LNode) xs.length rfl rfl rfl rfl rfl (by omega) ?_
    (repeat (first | (apply WL.pure; rfl; rfl; rfl) | (apply WL.nil) | (apply EX.thenN) | (apply CW.ret)))
    exact EX.ret1 rfl rfl ⟨⟨_, rfl, by simpa using hoF.low hge⟩, e1.trans fF⟩
theorem kept_node (w0 : World) {B : Nat} {v : Value} {xs : List LNode} {x : LNode} (h : RoomG w0 B 59 v xs x) (hb : xs.length ≤ 1048576) :
    Rt Try.prog 37 [v, ndV x].toArray w0 fun v w' => v = .bool true ∧ Ext w0 w' := by
  obtain ⟨b, rfl, ho⟩ := h.ok
  refine Rt.enter2 Try.func37 Try.ntmps37 rfl rfl ?_
  unfold ndV
  (repeat (first | (apply CW.seq) | (apply CW.region)))
  refine WL.boxB rfl rfl rfl fun w1 hb3 e1 => ?_
  have hl : (xs ++ [x, x]).length = xs.length + 2 := by simp
  have ho := ho.extN e1
  rw [hl] at ho
  (repeat (first | (apply WL.add; rfl; rfl; rfl; rfl; omega; omega) | (apply WL.pure; rfl; rfl; rfl) | (apply WL.nil) | (apply EX.thenN) | (apply CW.seq) | (apply CW.region) | (apply WL.lenS; rfl; rfl; rfl)))
  refine WL.cutHi (α := LNode) (xs.length + 2) (by omega) rfl rfl rfl rfl (by omega) ?_
  obtain ⟨so, sc, hv, hsl⟩ := ho.oldN.sl
  rw [hl] at hv
  obtain ⟨rfl, _, rfl⟩ := Value.slice.inj hv
  (repeat (first | (apply WL.pure; rfl; rfl; rfl) | (apply QL.pure; rfl; rfl; rfl) | (apply WL.nil) | (apply EX.thenN) | (apply CW.seq) | (apply QL.lenS; rfl; rfl; rfl) | (apply CW.draw; exact mixed; kernel_rfl)))
  refine QL.elemN (i := xs.length) (xs := xs ++ [x, x]) rfl rfl rfl (by rw [hl]; rfl) rfl (fun _ h => h) hsl (by simp) (fun _ => rfl) (fun u q hu => ?_)
  rw [Rd.node hu, show (xs ++ [x, x])[xs.length]'(by simp) = x by simp]
  (repeat (apply QL.ldA; rfl; rfl; rfl; assumption; rfl))
  refine QL.eq_node x rfl rfl rfl rfl ?_
  (repeat (first | (apply QL.add; rfl; rfl; rfl; rfl; omega; omega) | (apply QL.pure; rfl; rfl; rfl) | (apply QL.lenS; rfl; rfl; rfl)))
  refine QL.elemN (i := xs.length + 1) (xs := xs ++ [x, x]) rfl rfl rfl (by rw [hl]; rfl) rfl (fun _ h => h) hsl (by simp) (fun _ => rfl) (fun u q hu => ?_)
  rw [Rd.node hu, show (xs ++ [x, x])[xs.length + 1]'(by simp) = x by simp]
  (repeat (apply QL.ldA; rfl; rfl; rfl; assumption; rfl))
  refine QL.eq_node x rfl rfl rfl rfl ?_
  (repeat (apply QL.pure; rfl; rfl; rfl))
  refine QL.nil (fun w2 e2 => ?_)
  (repeat (first | (apply EX.thenN) | (apply CW.ret)))
  exact EX.ret1 rfl rfl ⟨rfl, e1.trans e2⟩
end Go.Proofs.Ytadbkppgaekmpaa
/-
  Maps from a key to its number, made by the call: the keys as a list, in the order in which they came. Over any program.
-/
set_option linter.unusedVariables false
set_option linter.unusedSimpArgs false
namespace Go.Proofs.Ytadbkppgaekmpaa
open Go.RowKit

/-- a map type, its key's type and its element's type -/
class IsM (P : Program) (t : TypeId) (k e : outParam TypeId) : Prop where
  ok : P.underlying t = some (.map k e)
/-- keys of which the model's order is whole -/
class IsKy (P : Program) (k : TypeId) : Prop where
  ok : WideMaps.KeyLaw P k
theorem IsKy.of {P : Program} {k : TypeId} {d : TypeDesc} (hl : laidOutB P = true) {m : Nat} (hm : Nat.ble (m + 1) 10000 = true) (hrow : Nat.ble (k + 1) P.types.size = true) (hk : P.keyTypeAt m k = true) (hu : P.underlying k = some d) (hd : aggD d = true) : IsKy P k :=
  ⟨deep_law_laid hl (Nat.le_of_ble_eq_true hm) (Nat.lt_of_succ_le (Nat.le_of_ble_eq_true hrow)) hk (by
    rw [hu]; cases d <;> first | rfl | (cases hd))⟩
/-- a type whose zero value is the number 0 -/
class IsZ0 (P : Program) (e : TypeId) : Prop where
  ok : (P.info? e).map (fun i => i.zero) = some (some (.int .i64 0))
/-- v is a key of type k -/
def KeyV (P : Program) (k : TypeId) (v : Value) : Prop := ∃ l, keyOf P k v = some l
/-- block b is a map that holds the keys ks, each with its number -/
def NumM (P : Program) (k : TypeId) (w : World) (b : Nat) (ks : List Value) : Prop :=
  ∃ (es : Array MapEntry) (clock : Nat), w.heap[b]? = some (.map es clock) ∧ es.toList.map (·.key) = ks ∧ (∀ (i : Nat) (e : MapEntry), es.toList[i]? = some e → e.val = .int .i64 (i : Int)) ∧ (∀ x ∈ ks, KeyV P k x) ∧ ks.Nodup
section
variable {P : Program} {k : TypeId} {w w' : World} {b : Nat} {ks : List Value}
theorem NumM.lt (h : NumM P k w b ks) : b < w.heap.size := by
  obtain ⟨es, clock, hb, _⟩ := h
  exact (Array.getElem?_eq_some_iff.1 hb).1
theorem NumM.at (h : NumM P k w b ks) (hb : w'.heap[b]? = w.heap[b]?) : NumM P k w' b ks := by
  obtain ⟨es, clock, h1, h2⟩ := h
  exact ⟨es, clock, hb.trans h1, h2⟩
theorem NumM.ext (h : NumM P k w b ks) (hE : Ext w w') : NumM P k w' b ks := h.at (hE.block b h.lt)
theorem NumM.kept {row : Option Nat} (h : NumM P k w b ks) (hg : w.grownBy w' row) (hne : some b ≠ row) : NumM P k w' b ks := h.at (hg.block b h.lt hne)
theorem NumM.made (w : World) : NumM P k (w.alloc (.map #[] 0)) w.heap.size [] :=
  ⟨#[], 0, heap_alloc_new w _, rfl, fun i e h => by simp at h, fun x h => by simp at h, List.Pairwise.nil⟩
theorem run_num {t e : TypeId} {x : Value} [ht : IsM P t k e] [hk : IsKy P k] [hz : IsZ0 P e] (h : NumM P k w b ks) (hx : KeyV P k x) :
    (x ∉ ks ∧ (Instr.lookup t (.map (some b)) x true).run P w = .ok (.tuple #[.int .i64 0, .bool false]) w) ∨
    ∃ (j : Nat) (hj : j < ks.length), ks[j] = x ∧ (Instr.lookup t (.map (some b)) x true).run P w = .ok (.tuple #[.int .i64 (j : Int), .bool true]) w := by
  obtain ⟨es, clock, hb, hes, hv, hks, hnd⟩ := h
  obtain ⟨l, hx⟩ := hx
  obtain ⟨i, h1, h2⟩ := Option.map_eq_some_iff.1 hz.ok
  have hzr : (zeroValue e).run P w = .ok (.int .i64 0) w := by simp [zeroValue, typeInfo, h1, h2]
  have hkeys : ∀ e ∈ es.toList, ∃ l, keyOf P k e.key = some l := fun e he => hks _ (hes ▸ List.mem_map.2 ⟨e, he, rfl⟩)
  rcases hk.ok.find w hx es.toList hkeys with ⟨g1, g2⟩ | ⟨j, e0, g1, g2, g3⟩
  · refine .inl ⟨fun hm => ?_, by simp [Instr.lookup, run_underlying ht.ok, MapKept.run_getObj_map hb, hk.ok.check w _ hx, g1, hzr, Result.andThen]⟩
    rw [← hes] at hm
    obtain ⟨e, he, hke⟩ := List.mem_map.1 hm
    exact g2 e he hke
  · have hj : j < ks.length := by rw [← hes, List.length_map]; exact (List.getElem?_eq_some_iff.1 g2).1
    refine .inr ⟨j, hj, ?_, ?_⟩
    · subst hes
      rw [List.getElem_map, ← g3]
      congr 1
      exact (List.getElem?_eq_some_iff.1 g2).2
    · have hval := hv j e0 g2
      simp [Instr.lookup, run_underlying ht.ok, MapKept.run_getObj_map hb, hk.ok.check w _ hx, g1, Result.andThen, hval]
theorem run_numPut {t e : TypeId} {x : Value} [ht : IsM P t k e] [hk : IsKy P k] (h : NumM P k w b ks) (hx : KeyV P k x) (hn : x ∉ ks) :
    ∃ w', (Instr.mapUpdate t (.map (some b)) x (.int .i64 (ks.length : Int))).run P w = .ok () w' ∧ NumM P k w' b (ks ++ [x]) ∧ w.grownBy w' (some b) := by
  obtain ⟨es, clock, hb, hes, hv, hks, hnd⟩ := h
  obtain ⟨l, hx'⟩ := hx
  have hkeys : ∀ e ∈ es.toList, ∃ l, keyOf P k e.key = some l := fun e he => hks _ (hes ▸ List.mem_map.2 ⟨e, he, rfl⟩)
  have hsz : es.toList.length = ks.length := by rw [← hes, List.length_map]
  have hlt := (Array.getElem?_eq_some_iff.1 hb).1
  rcases hk.ok.find w hx' es.toList hkeys with ⟨g1, g2⟩ | ⟨j, e0, g1, g2, g3⟩
  · refine ⟨_, by simp [Instr.mapUpdate, run_underlying ht.ok, MapKept.run_getObj_map hb, hk.ok.check w false hx', g1, MapKept.run_setObj_map _ hb, Result.andThen]; rfl, ?_, ?_⟩
    · refine ⟨es.push ⟨x, .int .i64 (ks.length : Int), clock⟩, clock + 1, by simp [hlt], by simp [hes], fun i e he => ?_, fun y hy => ?_, ?_⟩
      · rw [Array.toList_push] at he
        rcases Nat.lt_or_ge i es.toList.length with hi | hi
        · rw [List.getElem?_append_left hi] at he
          exact hv i e he
        · rw [List.getElem?_append_right hi] at he
          have h0 : i - es.toList.length = 0 := by
            have := (List.getElem?_eq_some_iff.1 he).1
            simp at this; omega
          rw [h0] at he
          simp at he
          subst he
          show Value.int .i64 (ks.length : Int) = _
          congr 1; omega
      · rcases List.mem_append.1 hy with hy | hy
        · exact hks y hy
        · rw [List.mem_singleton] at hy; subst hy; exact ⟨l, hx'⟩
      · rw [List.nodup_append]
        refine ⟨hnd, by simp, fun a ha c hc e => ?_⟩
        rw [List.mem_singleton] at hc
        subst hc; subst e; exact hn ha
    · exact ⟨rfl, rfl, rfl, by simp, fun i _ hi => by
        simp only [Array.getElem?_setIfInBounds]
        rw [if_neg (fun e => hi (by rw [e]))]⟩
  · exact absurd (hes ▸ List.mem_map.2 ⟨e0, List.mem_of_getElem? g2, g3⟩) hn
end

section
variable {P : Program} {Q : Exit → Act → World → Prop} {n : Nat} {σ : Sg} {w : World} {L rest : List Oper} {d : Nat} {ty : TypeId} {pos : String} {af : Array Edge} {g : Option (Nat × Bool)} {t k e : TypeId} {b : Nat} {ks : List Value} {x y z : Operand} {v : Value}
/-- v, ok := m[x] -/
theorem WL.num (hg : gd L σ ⟨some d, .lookup t x y true, ty, pos, af, g⟩ = some true) (hd : Nat.ble (d + 1) n = true) (hx : ev σ x = some (.map (some b))) (hy : ev σ y = some v) [ht : IsM P t k e] [hk : IsKy P k] [hz : IsZ0 P e]
    (h : NumM P k w b ks) (hv : KeyV P k v)
    (h1 : v ∉ ks → WL P L Q rest n ((d, .tuple ⟨[.int .i64 0, .bool false]⟩) :: σ) w)
    (h2 : ∀ (j : Nat) (hj : j < ks.length), ks[j] = v → WL P L Q rest n ((d, .tuple ⟨[.int .i64 (j : Int), .bool true]⟩) :: σ) w) :
    WL P L Q (⟨some d, .lookup t x y true, ty, pos, af, g⟩ :: rest) n σ w := by
  rcases run_num (t := t) h hv with ⟨g1, g2⟩ | ⟨j, hj, g1, g2⟩
  · refine WL.run hg hd (fun a ha => ?_) (h1 g1)
    simp [execOp, ha.ev hx, ha.ev hy, g2]
  · refine WL.run hg hd (fun a ha => ?_) (h2 j hj g1)
    simp [execOp, ha.ev hx, ha.ev hy, g2]
/-- m[x] = len(m), at a new key -/
theorem WL.numPut (hg : gd L σ ⟨none, .mapUpdate t x y z, ty, pos, af, g⟩ = some true) (hx : ev σ x = some (.map (some b))) (hy : ev σ y = some v) (hzv : ev σ z = some (.int .i64 (ks.length : Int))) [ht : IsM P t k e] [hk : IsKy P k]
    (h : NumM P k w b ks) (hv : KeyV P k v) (hn : v ∉ ks)
    (hr : ∀ w', NumM P k w' b (ks ++ [v]) → w.grownBy w' (some b) → WL P L Q rest n σ w') :
    WL P L Q (⟨none, .mapUpdate t x y z, ty, pos, af, g⟩ :: rest) n σ w := by
  obtain ⟨w', g1, g2, g3⟩ := run_numPut (t := t) h hv hn
  refine WL.runU hg (fun a ha => ?_) (hr w' g2 g3)
  simp [execOp, ha.ev hx, ha.ev hy, ha.ev hzv, g1]
/-- make(map[K]int) -/
theorem WL.mkMap (hg : gd L σ ⟨some d, .makeMap t none, ty, pos, af, g⟩ = some true) (hd : Nat.ble (d + 1) n = true)
    (h : NumM P k (w.alloc (.map #[] 0)) w.heap.size [] → WL P L Q rest n ((d, .map (some w.heap.size)) :: σ) (w.alloc (.map #[] 0))) :
    WL P L Q (⟨some d, .makeMap t none, ty, pos, af, g⟩ :: rest) n σ w := by
  refine WL.run hg hd (fun a ha => ?_) (h (NumM.made w))
  simp [execOp, Instr.makeMap]
end
/-- a key that is a pair of numbers -/
theorem KeyV.pair {P : Program} {k fa fb : TypeId} {x y : Int} (h : (P.keyType k && Value.formed P k (.agg #[.int .i64 0, .int .i64 0])) = true)
    (hk : ∀ a b : Int, P.keyLits (P.types.size + 1) k [.int .i64 a, .int .i64 b] = (if (Lit.int .i64 a).wf = true ∧ (Lit.int .i64 b).wf = true then some [.int .i64 a, .int .i64 b] else none))
    (hd : ∃ d, P.underlying k = some (.struct d)) (hx : (Lit.int .i64 x).wf = true) (hy : (Lit.int .i64 y).wf = true) : KeyV P k (.agg ⟨[.int .i64 x, .int .i64 y]⟩) := by
  obtain ⟨d, hd⟩ := hd
  refine ⟨.string (keyBytes [.int .i64 x, .int .i64 y]), ?_⟩
  unfold keyOf
  rw [hd]
  dsimp only
  have hf : Value.formed P k (.agg ⟨[.int .i64 x, .int .i64 y]⟩) = Value.formed P k (.agg #[.int .i64 0, .int .i64 0]) := by
    unfold Value.formed
    rw [hd]; rfl
  rw [hf, if_pos h]
  show Option.map _ (P.keyLits (P.types.size + 1) k [.int .i64 x, .int .i64 y]) = _
  rw [hk, if_pos ⟨hx, hy⟩]
  rfl
end Go.Proofs.Ytadbkppgaekmpaa
