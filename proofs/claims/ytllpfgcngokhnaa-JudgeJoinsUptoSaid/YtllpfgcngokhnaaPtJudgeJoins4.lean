import Derived.Test.YtllpfgcngokhnaaPtJudgeJoins3
/-
  Package scc: contracts of its simple functions.
-/
set_option linter.unusedVariables false
set_option linter.unusedSimpArgs false
namespace Go.Proofs.Ytllpfgcngokhnaa
open Go.RowKit

/-- 'n < 0 || n >= len(g)', g boxed -/
theorem odd1 (n : Int) (b : Nat) (w : World) {ao : Option Addr} {cap : Nat} {g : List (List Int)} {F : Nat → Prop} (hs : Sl w F ao cap g) (hb : Cells w b 0 [.slice ao g.length cap]) :
    Rt Try.prog 190 [.int .i64 n, .pointer (some ⟨b, 0, none⟩)].toArray w fun v w' => v = .bool (decide (n < 0 ∨ n ≥ g.length)) ∧ w = w' := by
  refine Rt.enter2 Try.func190 Try.ntmps190 rfl rfl ?_
  (repeat (first | (apply WL.pure; rfl; rfl; rfl) | (apply WL.nil) | (apply EX.thenN) | (apply CW.seq) | (apply CW.region)))
  refine WL.look (s := 6) rfl (fun h => ?_) (fun h => ?_)
  · (repeat (first | (apply WL.pure; rfl; rfl; rfl) | (apply WL.nil) | (apply EX.thenN) | (apply WL.pass; rfl; rfl) | (apply CW.ret)))
    refine EX.ret1 rfl rfl ?_
    simp at h
    simp [h]
  · (repeat (apply WL.pure; rfl; rfl; rfl))
    refine WL.load (α := List (List Int)) rfl rfl rfl hb ⟨ao, cap, rfl, hs⟩ ?_
    (repeat (first | (apply WL.pure; rfl; rfl; rfl) | (apply WL.nil) | (apply EX.thenN) | (apply WL.lenS; rfl; rfl; rfl) | (apply CW.ret)))
    refine EX.ret1 rfl rfl ?_
    simp at h
    simp [Int.not_lt.2 h]

theorem odd_ok (w0 : World) {ao lo : Option Addr} {cap lcap : Nat} {g : List (List Int)} {l : List Int} (hs : Sl w0 (Old w0) ao cap g) (hl : Sl w0 (Old w0) lo lcap l) :
    Rt Try.prog 177 [.slice ao g.length cap, .slice lo l.length lcap].toArray w0 fun v w' => v = .bool (oddB g.length l) ∧ Ext w0 w' := by
  refine Rt.enter2 Try.func177 Try.ntmps177 rfl rfl ?_
  (repeat (first | (apply CW.seq) | (apply CW.region)))
  refine WL.box rfl rfl rfl ?_
  (repeat (first | (apply WL.pure; rfl; rfl; rfl) | (apply WL.nil) | (apply EX.thenN) | (apply CW.seq) | (apply CW.region) | (apply WL.makeFunc; rfl; rfl; rfl; rfl)))
  have hE := Ext.alloc w0 (.cells (Value.cells (.slice ao g.length cap)) 23)
  have hc := Cells.alloc w0 (Value.cells (.slice ao g.length cap)) 23
  generalize w0.alloc (.cells (Value.cells (.slice ao g.length cap)) 23) = w1 at *
  have hlt : w0.heap.size < w1.heap.size := hc.lt (by simp [Value.cells])
  refine WL.call rfl rfl rfl (containsFunc_int w1 (fun x => decide (x < 0 ∨ x ≥ g.length)) (hl.up hE) (fun w hw i h => ?_)) ?_
  · refine FnV.mk (Rt.mono (odd1 _ _ w ((hs.at hE).mono (fun b hb => hw.block b (Nat.lt_of_lt_of_le hb hE.size)) fun _ h => h) (hc.mono (hw.block _ hlt))) ?_)
    rintro v w' ⟨rfl, rfl⟩
    exact ⟨rfl, Ext.refl _⟩
  · rintro v w' ⟨rfl, hB⟩
    (repeat (first | (apply WL.pure; rfl; rfl; rfl) | (apply WL.nil) | (apply EX.thenN) | (apply CW.ret)))
    exact EX.ret1 rfl rfl ⟨rfl, hE.trans hB⟩

theorem chk_ok (w0 : World) {ao : Option Addr} {cap : Nat} {g : List (List Int)} (hs : Sl w0 (Old w0) ao cap g) :
    Rt Try.prog 146 [.slice ao g.length cap].toArray w0 fun v w' => v = .int .i64 (chkG g) ∧ Ext w0 w' := by
  have hm := hs.len63
  refine Rt.enter1 Try.func146 Try.ntmps146 rfl rfl ?_
  (repeat (first | (apply WL.pure; rfl; rfl; rfl) | (apply WL.nil) | (apply EX.thenN) | (apply CW.seq) | (apply CW.region) | (apply WL.lenS; rfl; rfl; rfl)))
  refine CW.cond rfl (fun h => ?_) (fun h => ?_)
  · (repeat (first | (apply WL.pure; rfl; rfl; rfl) | (apply WL.nil) | (apply EX.thenN) | (apply CW.seq) | (apply CW.region) | (apply CW.ret) | (apply EX.thenR)))
    refine EX.ret1 rfl rfl ⟨?_, Ext.refl _⟩
    unfold chkG
    have : decide (g.length > 20000) = true := by simp at h ⊢; omega
    rw [this]
  · simp at h
    have hle : decide (g.length > 20000) = false := by simp; omega
    (repeat (first | (apply WL.pure; rfl; rfl; rfl) | (apply WL.nil) | (apply EX.thenN) | (apply CW.seq) | (apply CW.region) | (apply WL.lenS; rfl; rfl; rfl) | (apply CW.block) | (apply CW.skip)))
    refine CW.loop (S := Nat) (fun k => [(0, .slice ao g.length cap), (8, .slice ao g.length cap), (9, .int .i64 g.length), (10, .int .i64 k)])
      (fun k w => k ≤ g.length ∧ Ext w0 w ∧ ∀ j (h : j < g.length), j < k → oddB g.length g[j] = false) (fun k => g.length - k) 0 (by repeat (first | exact trivial | refine ⟨rfl, ?_⟩)) ⟨by omega, Ext.refl _, by omega⟩ ?_
    rintro k w ⟨hk, hB, hn⟩
    (repeat (first | (apply WL.pure; rfl; rfl; rfl) | (apply WL.nil) | (apply EX.thenN) | (apply CW.seq) | (apply CW.region)))
    refine CW.cond rfl (fun h1 => ?_) (fun h1 => ?_)
    · simp at h1
      (repeat (first | (apply EX.thenN) | (apply CW.seq) | (apply CW.region) | (apply CW.block) | (apply CW.skip)))
      refine WL.elemN rfl rfl rfl rfl rfl (hs.at hB) h1 (fun _ => rfl) (fun u q hu => ?_)
      obtain ⟨lo, lcap, rfl, hl⟩ := hu.sl
      (repeat (first | (apply WL.pure; rfl; rfl; rfl) | (apply WL.nil) | (apply EX.thenN) | (apply CW.seq) | (apply CW.region)))
      refine WL.call rfl rfl rfl (odd_ok w (hs.up hB) (hl.lift fun b hb => Nat.lt_of_lt_of_le hb hB.size)) ?_
      rintro v w' ⟨rfl, hB'⟩
      (repeat (first | (apply WL.nil) | (apply EX.thenN)))
      refine CW.cond rfl (fun h2 => ?_) (fun h2 => ?_)
      · (repeat (first | (apply WL.pure; rfl; rfl; rfl) | (apply WL.nil) | (apply EX.thenN) | (apply CW.seq) | (apply CW.region) | (apply CW.ret) | (apply EX.thenR) | (apply EX.inR)))
        refine EX.ret1 rfl rfl ⟨?_, hB.trans hB'⟩
        unfold chkG
        have : g.any (oddB g.length) = true := List.any_eq_true.2 ⟨_, List.getElem_mem h1, h2⟩
        rw [this, hle]
      · (repeat (first | (apply WL.add; rfl; rfl; rfl; rfl; omega; omega) | (apply WL.pure; rfl; rfl; rfl) | (apply WL.nil) | (apply EX.thenN) | (apply CW.region) | (apply EX.inN) | (apply CW.skip)))
        refine EX.back (k + 1) (by repeat (first | exact trivial | refine ⟨rfl, ?_⟩)) ⟨h1, hB.trans hB', ?_⟩ (by omega)
        intro j hj hlt
        by_cases e : j = k
        · subst e; exact h2
        · exact hn j hj (by omega)
    · simp at h1
      (repeat (first | (apply WL.pure; rfl; rfl; rfl) | (apply WL.nil) | (apply EX.thenN) | (apply CW.seq) | (apply CW.region) | (apply CW.exit) | (apply EX.thenX) | (apply EX.inX) | (apply CW.ret)))
      refine EX.ret1 rfl rfl ⟨?_, hB⟩
      unfold chkG
      have : g.any (oddB g.length) = false := by
        rw [List.any_eq_false]
        intro l hl
        obtain ⟨j, hj, rfl⟩ := List.mem_iff_getElem.1 hl
        simp [hn j hj (by omega)]
      rw [this, hle]

theorem clone_int (w0 : World) {ao : Option Addr} {cap : Nat} {xs : List Int} (hs : Sl w0 (Old w0) ao cap xs) (hb : xs.length * 8 ≤ 140737488355328) :
    Rt Try.prog 53 [.slice ao xs.length cap].toArray w0 fun v w' => Own w' w0.heap.size 3 Non v xs ∧ Ext w0 w' := by
  have hm := hs.len63
  refine Rt.enter1 Try.func53 Try.ntmps53 rfl rfl ?_
  (repeat (first | (apply WL.pure; rfl; rfl; rfl) | (apply WL.nil) | (apply EX.thenN) | (apply CW.seq) | (apply CW.region) | (apply WL.isNil; rfl; rfl; rfl)))
  refine CW.cond rfl (fun h => ?_) (fun h => ?_)
  · (repeat (first | (apply WL.pure; rfl; rfl; rfl) | (apply WL.nil) | (apply EX.thenN) | (apply CW.seq) | (apply CW.region) | (apply CW.ret) | (apply EX.thenR)))
    refine EX.ret1 rfl rfl ⟨?_, Ext.refl _⟩
    have h0 : ao = none := by simpa using h
    have : xs = [] := List.eq_nil_of_length_eq_zero (by have := hs.nil h0; have := hs.le; omega)
    subst this
    exact Own.nil
  · (repeat (first | (apply EX.thenN) | (apply CW.seq) | (apply CW.region) | (apply CW.skip)))
    refine WL.lit0 (α := Int) rfl rfl (fun w1 ho hg => ?_)
    (repeat (apply WL.pure; rfl; rfl; rfl))
    have hE : Ext w0 w1 := (Below.refl _ _).grown hg (Nat.le_refl _) (fun k h => by cases h)
    refine WL.app (F := Non) rfl rfl rfl rfl ho (hs.at hE).srcN hE.size (fun _ h => h.elim) (by simp [maxLen]; omega) (by simpa using hb) (fun v w2 ho2 hg2 _ => ?_)
    (repeat (first | (apply WL.pure; rfl; rfl; rfl) | (apply WL.nil) | (apply EX.thenN) | (apply CW.ret)))
    refine EX.ret1 rfl rfl ⟨by simpa using ho2, hE.grown hg2 hE.size ?_⟩
    intro k hk
    exact (ho.lt k hk).1

theorem take_last {todo : List Int} (h : 0 < todo.length) : todo = todo.take (todo.length - 1) ++ [todo[todo.length - 1]] := by
  have := List.take_succ_eq_append_getElem (l := todo) (i := todo.length - 1) (by omega)
  rw [← this, List.take_of_length_le (by omega)]

/-- reach: T bounds all that is ever to be looked at -/
theorem reach_ok (w0 : World) {ao fo : Option Addr} {cap fcap : Nat} {g : List (List Int)} {f : List Int} (hs : Sl w0 (Old w0) ao cap g) (hf : Sl w0 (Old w0) fo fcap f)
    (hg : okG g) (hof : okL g.length f) (hT : f.length + edges g + g.length ≤ 1099511627776) :
    Rt Try.prog 178 [.slice ao g.length cap, .slice fo f.length fcap].toArray w0 fun v w' => Own w' w0.heap.size 4 Non v (rchB g f) ∧ Ext w0 w' := by
  have hm := hs.len63
  have hm2 := hf.len63
  refine Rt.enter2 Try.func178 Try.ntmps178 rfl rfl ?_
  (repeat (first | (apply WL.pure; rfl; rfl; rfl) | (apply WL.nil) | (apply EX.thenN) | (apply CW.seq) | (apply CW.region) | (apply WL.lenS; rfl; rfl; rfl)))
  refine WL.make (α := Bool) rfl rfl rfl rfl (by omega) (by unfold maxLen; omega) (fun w1 ho1 hg1 => ?_)
  have hE1 : Ext w0 w1 := (Below.refl _ _).grown hg1 (Nat.le_refl _) (fun k h => by cases h)
  have hlt1 : w0.heap.size < w1.heap.size := (ho1.lt _ rfl).2.1
  (repeat (first | (apply WL.pure; rfl; rfl; rfl) | (apply WL.nil) | (apply EX.thenN) | (apply CW.seq) | (apply CW.region)))
  refine WL.call rfl rfl rfl (clone_int w1 (hf.up hE1) (by omega)) ?_
  rintro tv w2 ⟨ho2, hE2⟩
  (repeat (first | (apply WL.pure; rfl; rfl; rfl) | (apply WL.nil) | (apply EX.thenN) | (apply CW.seq) | (apply CW.block)))
  generalize hsv : Value.slice (some ⟨w0.heap.size, 0, none⟩) g.length g.length = sv at *
  have hsb : sv.ownBlock = some w0.heap.size := by rw [← hsv]; rfl
  refine CW.loop (S := Value × List Bool × List Int) (fun s => [(0, .slice ao g.length cap), (5, sv), (6, s.1)])
    (fun s w => RInv g f s.2.1 s.2.2 ∧ s.2.2.length + pot g s.2.1 ≤ f.length + edges g + g.length ∧ Own w w0.heap.size 4 Non sv s.2.1 ∧ Own w w0.heap.size 3 Non s.1 s.2.2 ∧ Ext w0 w ∧ (∀ k, s.1.ownBlock = some k → k ≠ w0.heap.size))
    (fun s => s.2.2.length + pot g s.2.1) (tv, List.replicate g.length false, f) (by repeat (first | exact trivial | refine ⟨rfl, ?_⟩))
    ⟨RInv.start hof, by show f.length + pot g (List.replicate g.length false) ≤ _; rw [pot_start]; omega, ho1.extN hE2, ho2.low (Nat.le_of_lt hlt1), hE1.trans hE2, fun k hk => by have := (ho2.lt k hk).1; omega⟩ ?_
  rintro ⟨tv, seen, todo⟩ w ⟨hR, hpot, hso, hto, hB, hne⟩
  simp only at hR hpot hso hto hne
  (repeat (first | (apply WL.pure; rfl; rfl; rfl) | (apply WL.nil) | (apply EX.thenN) | (apply CW.seq) | (apply CW.region) | (refine WL.lenO rfl rfl rfl (by assumption) ?_)))
  refine CW.cond rfl (fun h => ?_) (fun h => ?_)
  · simp at h
    have hlen : 0 < todo.length := by omega
    have hlast := take_last hlen
    (repeat (first | (apply WL.sub'; rfl; rfl; rfl; rfl; omega; omega) | (apply WL.pure; rfl; rfl; rfl) | (apply EX.thenN) | (apply CW.seq) | (apply CW.region) | (apply CW.block) | (apply CW.skip) | (refine WL.lenO rfl rfl rfl (by assumption) ?_)))
    refine WL.elemO rfl rfl rfl rfl rfl hto (by omega) (by omega) (fun _ => rfl) (fun u q hu => ?_)
    obtain rfl := hu.int
    have ei : ((todo.length : Int) - 1).toNat = todo.length - 1 := by omega
    simp only [ei]
    generalize hx : todo[todo.length - 1] = x at *
    generalize hrest : todo.take (todo.length - 1) = rest at *
    rw [hlast] at hR
    have hlr : todo.length = rest.length + 1 := by rw [hlast]; simp
    have hxo := hR.ok x (by simp)
    (repeat (first | (apply WL.sub'; rfl; rfl; rfl; rfl; omega; omega) | (apply WL.pure; rfl; rfl; rfl) | (apply WL.nil) | (apply EX.thenN) | (apply CW.seq) | (apply CW.region) | (refine WL.lenO rfl rfl rfl (by assumption) ?_)))
    refine WL.cutHiO (α := Int) (todo.length - 1) (by omega) rfl rfl rfl rfl hto (by omega) (fun tv' hto' hb' => ?_)
    rw [hrest] at hto'
    have hne' : ∀ k, tv'.ownBlock = some k → k ≠ w0.heap.size := fun k hk => hne k (by rw [← hb']; exact hk)
    (repeat (first | (apply WL.pure; rfl; rfl; rfl) | (apply WL.nil) | (apply EX.thenN) | (apply CW.seq) | (apply CW.region)))
    refine WL.elemO rfl rfl rfl rfl rfl hso (by omega) (by rw [hR.len]; omega) (fun _ => rfl) (fun u q2 hu => ?_)
    obtain rfl := hu.bool
    have hxl : x.toNat < seen.length := by rw [hR.len]; omega
    (repeat (first | (apply WL.pure; rfl; rfl; rfl) | (apply WL.nil) | (apply EX.thenN)))
    refine CW.cond rfl (fun h2 => ?_) (fun h2 => ?_)
    · have hs0 : seen[x.toNat] = false := by simpa using h2
      have hpm := pot_set g seen x.toNat (by omega) hR.len (by simp [List.getD_eq_getElem?_getD, hxl, hs0])
      (repeat (first | (apply WL.pure; rfl; rfl; rfl) | (apply CW.seq) | (apply CW.region)))
      refine WL.set rfl rfl rfl rfl hso (by omega) (by rw [hR.len]; omega) (fun _ => rfl) (fun _ => rfl) (Rd.mkBool _ _ true) (fun w3 q3 hso3 hg3 => ?_)
      have hB3 : Ext w0 w3 := hB.grown hg3 hB.size (fun k hk => by rw [hsb] at hk; cases hk; exact Nat.le_refl _)
      have hto3 : Own w3 w0.heap.size 3 Non tv' rest := hto'.keptN hg3 (fun k hk e => by rw [hsb] at e; cases e; exact hne' _ hk rfl)
      (repeat (first | (apply WL.pure; rfl; rfl; rfl) | (apply WL.nil) | (apply EX.thenN) | (apply CW.region)))
      have hxg : x.toNat < g.length := by omega
      refine WL.elem rfl rfl rfl rfl rfl (hs.at hB3) (by omega) (by omega) (fun _ => rfl) (fun u q4 hu => ?_)
      obtain ⟨ro, rcap, rfl, hrow⟩ := hu.sl
      have erow : g.getD x.toNat [] = g[x.toNat] := by simp [List.getD_eq_getElem?_getD, hxg]
      rw [erow] at hpm
      skip
      refine WL.app (F := Non) rfl rfl rfl rfl hto3 hrow.srcN hB3.size (fun _ h => h.elim) (by unfold maxLen; omega) (by omega) (fun tv4 w4 ho4 hg4 hn4 => ?_)
      (repeat (first | (apply WL.pure; rfl; rfl; rfl) | (apply WL.nil) | (apply EX.inN)))
      refine EX.back (tv4, seen.set x.toNat true, rest ++ g[x.toNat]) (by repeat (first | exact trivial | refine ⟨rfl, ?_⟩)) ⟨?_, ?_, ?_, ho4, ?_, ?_⟩ ?_
      · have := RInv.mark hg hR
        rwa [erow] at this
      · simp only [List.length_append]; omega
      · exact hso3.keptN hg4 (fun k hk e => by rw [hsb] at hk; cases hk; exact hne' _ e.symm rfl)
      · exact hB3.grown hg4 hB3.size (fun k hk => (hto3.lt k hk).1)
      · intro k hk
        rcases hn4 k hk with h | h
        · exact hne' k h
        · have := hB3.size; have := (hso3.lt _ hsb).2.1; omega
      · simp only [List.length_append]; omega
    · have hs1 : seen[x.toNat] = true := by simpa using h2
      (repeat (first | (apply EX.inN) | (apply CW.skip)))
      refine EX.back (tv', seen, rest) (by repeat (first | exact trivial | refine ⟨rfl, ?_⟩)) ⟨hR.pass (by simp [List.getD_eq_getElem?_getD, hxl, hs1]), by simp only; omega, hso, hto', hB, hne'⟩ (by simp only; omega)
  · have h0 : todo = [] := by simpa using h
    subst h0
    (repeat (first | (apply WL.pure; rfl; rfl; rfl) | (apply WL.nil) | (apply EX.thenN) | (apply CW.seq) | (apply CW.region) | (apply CW.exit) | (apply EX.thenX) | (apply EX.inX) | (apply CW.ret)))
    refine EX.ret1 rfl rfl ⟨?_, hB⟩
    rw [← hR.done]
    exact hso

noncomputable def reachF (g : Graph) (f : List Int) : List Bool × Int := match chkG g == 0, oddB g.length f with
  | true, false => (rchB g f, 0)
  | true, true => ([], 1)
  | false, _ => ([], chkG g)
theorem chkG_of {g : Graph} (h : okG g) (hl : g.length ≤ 20000) : chkG g = 0 := by
  unfold chkG
  have h1 : decide (g.length > 20000) = false := by simp; omega
  have h2 : g.any (oddB g.length) = false := by rw [List.any_eq_false]; intro l hl; simp [oddB_false.2 (h l hl)]
  rw [h1, h2]
theorem reachF_of {g : Graph} {f : List Int} (h : okG g) (hf : okL g.length f) (hl : g.length ≤ 20000) : reachF g f = (rchB g f, 0) := by
  unfold reachF
  have h1 : (chkG g == 0) = true := by rw [chkG_of h hl]; rfl
  rw [h1, oddB_false.2 hf]
theorem Reach_ok (w0 : World) {ao fo : Option Addr} {cap fcap : Nat} {g : List (List Int)} {f : List Int} (hs : Sl w0 (Old w0) ao cap g) (hf : Sl w0 (Old w0) fo fcap f) (hT : f.length + edges g + g.length ≤ 1099511627776) :
    Rt Try.prog 140 [.slice ao g.length cap, .slice fo f.length fcap].toArray w0 fun r w' => ∃ v, r = .tuple ⟨[v, .int .i64 (reachF g f).2]⟩ ∧ Own w' w0.heap.size 4 Non v (reachF g f).1 ∧ Ext w0 w' := by
  refine Rt.enter2 Try.func140 Try.ntmps140 rfl rfl ?_
  (repeat (first | (apply WL.pure; rfl; rfl; rfl) | (apply WL.nil) | (apply EX.thenN) | (apply CW.seq) | (apply CW.region)))
  refine WL.call rfl rfl rfl (chk_ok w0 hs) ?_
  rintro v w1 ⟨rfl, hE1⟩
  (repeat (first | (apply WL.pure; rfl; rfl; rfl) | (apply WL.nil) | (apply EX.thenN) | (apply CW.seq) | (apply CW.region)))
  refine CW.cond rfl (fun h => ?_) (fun h => ?_)
  · have hc : (chkG g == 0) = false := by simpa using h
    (repeat (first | (apply WL.pure; rfl; rfl; rfl) | (apply WL.nil) | (apply EX.thenN) | (apply CW.seq) | (apply CW.region) | (apply CW.ret) | (apply EX.thenR)))
    exact EX.ret2 rfl rfl rfl ⟨.slice none 0 0, by simp only [reachF, hc], by simp only [reachF, hc]; exact Own.nil, hE1⟩
  · have hc : (chkG g == 0) = true := by simpa using h
    obtain ⟨hg, _⟩ := chkG_ok (by simpa using hc)
    (repeat (first | (apply WL.pure; rfl; rfl; rfl) | (apply EX.thenN) | (apply CW.seq) | (apply CW.region) | (apply CW.skip)))
    refine WL.call rfl rfl rfl (odd_ok w1 (hs.up hE1) (hf.up hE1)) ?_
    rintro v w2 ⟨rfl, hE2⟩
    (repeat (first | (apply WL.nil) | (apply EX.thenN)))
    refine CW.cond rfl (fun h2 => ?_) (fun h2 => ?_)
    · (repeat (first | (apply WL.pure; rfl; rfl; rfl) | (apply WL.nil) | (apply EX.thenN) | (apply CW.seq) | (apply CW.region) | (apply CW.ret) | (apply EX.thenR)))
      exact EX.ret2 rfl rfl rfl ⟨.slice none 0 0, by simp only [reachF, hc, h2], by simp only [reachF, hc, h2]; exact Own.nil, hE1.trans hE2⟩
    · (repeat (first | (apply WL.pure; rfl; rfl; rfl) | (apply EX.thenN) | (apply CW.seq) | (apply CW.region) | (apply CW.skip)))
      have hE := hE1.trans hE2
      refine WL.call rfl rfl rfl (reach_ok w2 (hs.up hE) (hf.up hE) hg (oddB_false.1 h2) hT) ?_
      rintro v w3 ⟨ho3, hE3⟩
      (repeat (first | (apply WL.pure; rfl; rfl; rfl) | (apply WL.nil) | (apply EX.thenN) | (apply CW.ret)))
      exact EX.ret2 rfl rfl rfl ⟨v, by simp only [reachF, hc, h2], by simp only [reachF, hc, h2]; exact ho3.low hE.size, hE.trans hE3⟩
end Go.Proofs.Ytllpfgcngokhnaa

/-
  Slices of slices that a call owns: the outer row holds slice headers, each inner row is owned by itself. Over any program, but for the instances at the end.
-/
set_option linter.unusedVariables false
set_option linter.unusedSimpArgs false
namespace Go.Proofs.Ytllpfgcngokhnaa
open Go.RowKit

/-- a value of one cell, as it is -/
structure Raw where
  v : Value
instance iNest1 : Rep Raw where
  sz := 1
  pos := by decide
  agg := false
  rd := fun _ _ cs x => cs = [x.v] ∧ x.v.oneCell' = true
  len := by intro w F cs x h; rw [h.1]; rfl
  one := by intro w F cs x h v hv; rw [h.1] at hv; simp at hv; subst hv; exact h.2
  szAgg := fun _ => rfl
  mono := fun h _ _ => h
instance iNest2 : Flat Raw := ⟨fun h => h⟩
theorem Rd.raw {w : World} {F : Nat → Prop} {v : Value} {x : Raw} (h : Rd w F v x) : v = x.v ∧ x.v.oneCell' = true := by
  obtain ⟨cs, e, h1, h2⟩ := h
  subst h1
  exact ⟨e, h2⟩
theorem Rd.mkRaw (w : World) (F : Nat → Prop) (v : Value) (h : v.oneCell' = true) : Rd w F v (⟨v⟩ : Raw) := ⟨[v], rfl, rfl, h⟩

section
variable {α : Type} [Rep α]
structure OwnN (w : World) (B : Nat) (eo ei : TypeId) (v : Value) (vs : List Raw) (xs : List (List α)) : Prop where
  out : Own w B eo Non v vs
  len : vs.length = xs.length
  inn : ∀ i (h : i < vs.length) (h' : i < xs.length), Own w B ei Non vs[i].v xs[i]
  dis : ∀ i j (hi : i < vs.length) (hj : j < vs.length), i ≠ j → ∀ g, vs[i].v.ownBlock = some g → vs[j].v.ownBlock = some g → False
  dio : ∀ i (hi : i < vs.length) g, vs[i].v.ownBlock = some g → v.ownBlock = some g → False
variable {w w' w'' : World} {B : Nat} {eo ei : TypeId} {v : Value} {vs : List Raw} {xs : List (List α)}
theorem OwnN.ext (h : OwnN w B eo ei v vs xs) (hE : Ext w w') : OwnN w' B eo ei v vs xs :=
  ⟨h.out.extN hE, h.len, fun i hi hi' => (h.inn i hi hi').extN hE, h.dis, h.dio⟩
theorem OwnN.low (h : OwnN w B eo ei v vs xs) {B' : Nat} (hB : B' ≤ B) : OwnN w B' eo ei v vs xs :=
  ⟨h.out.low hB, h.len, fun i hi hi' => (h.inn i hi hi').low hB, h.dis, h.dio⟩
/-- its blocks -/
def OwnN.blk (v : Value) (vs : List Raw) : Nat → Prop := fun b => v.ownBlock = some b ∨ ∃ x ∈ vs, x.v.ownBlock = some b
theorem OwnN.lt (h : OwnN w B eo ei v vs xs) : ∀ b, OwnN.blk v vs b → B ≤ b ∧ b < w.heap.size := by
  rintro b (hb | ⟨x, hx, hb⟩)
  · exact ⟨(h.out.lt b hb).1, (h.out.lt b hb).2.1⟩
  · obtain ⟨i, hi, rfl⟩ := List.mem_iff_getElem.1 hx
    have := (h.inn i hi (by rw [← h.len]; exact hi)).lt b hb
    exact ⟨this.1, this.2.1⟩
theorem OwnN.kept {row : Option Nat} (h : OwnN w B eo ei v vs xs) (hg : w.grownBy w' row) (hne : ∀ b, OwnN.blk v vs b → some b ≠ row) : OwnN w' B eo ei v vs xs :=
  ⟨h.out.keptN hg (fun g hg' => hne g (.inl hg')), h.len, fun i hi hi' => (h.inn i hi hi').keptN hg (fun g hg' => hne g (.inr ⟨_, List.getElem_mem hi, hg'⟩)), h.dis, h.dio⟩
theorem OwnN.nil : OwnN w B eo ei (.slice none 0 0) [] ([] : List (List α)) := ⟨Own.nil, rfl, fun i hi => absurd hi (by simp), fun i j hi => absurd hi (by simp), fun i hi => absurd hi (by simp)⟩
theorem OwnN.made {n : Nat} (h : Own w B eo Non v (List.replicate n (⟨.slice none 0 0⟩ : Raw))) : OwnN w B eo ei v (List.replicate n ⟨.slice none 0 0⟩) (List.replicate n ([] : List α)) := by
  refine ⟨h, by simp, fun i hi hi' => ?_, fun i j hi hj _ g hg => ?_, fun i hi g hg => ?_⟩
  · simp only [List.getElem_replicate]; exact Own.nil
  · simp only [List.getElem_replicate] at hg; simp [Value.ownBlock] at hg
  · simp only [List.getElem_replicate] at hg; simp [Value.ownBlock] at hg
/-- the outer row, behind a change of one inner row -/
theorem OwnN.mid (h : OwnN w B eo ei v vs xs) {i : Nat} (hi : i < vs.length) (hg : w.grownBy w' vs[i].v.ownBlock) : Own w' B eo Non v vs :=
  h.out.keptN hg (fun g hg' e => h.dio i hi g e.symm hg')
theorem OwnN.set (h : OwnN w B eo ei v vs xs) {i : Nat} (hi : i < vs.length) {v' : Value} {ys : List α} (hin : Own w' B ei Non v' ys) (hg : w.grownBy w' vs[i].v.ownBlock) (hnb : ∀ g, v'.ownBlock = some g → vs[i].v.ownBlock = some g ∨ w.heap.size ≤ g)
    (ho : Own w'' B eo Non v (vs.set i ⟨v'⟩)) (hg2 : w'.grownBy w'' v.ownBlock) : OwnN w'' B eo ei v (vs.set i ⟨v'⟩) (xs.set i ys) := by
  have hold : ∀ j (hj : j < vs.length), ∀ g, vs[j].v.ownBlock = some g → g < w.heap.size := fun j hj g hg => ((h.inn j hj (by rw [← h.len]; exact hj)).lt g hg).2.1
  have holdv : ∀ g, v.ownBlock = some g → g < w.heap.size := fun g hg => (h.out.lt g hg).2.1
  have hnv : ∀ g, v'.ownBlock = some g → v.ownBlock = some g → False := fun g h1 h2 => by
    rcases hnb g h1 with h3 | h3
    · exact h.dio i hi g h3 h2
    · have := holdv g h2; omega
  have hnj : ∀ j (hj : j < vs.length), j ≠ i → ∀ g, v'.ownBlock = some g → vs[j].v.ownBlock = some g → False := fun j hj hne g h1 h2 => by
    rcases hnb g h1 with h3 | h3
    · exact h.dis i j hi hj (Ne.symm hne) g h3 h2
    · have := hold j hj g h2; omega
  refine ⟨ho, by simp [h.len], fun j hj hj' => ?_, fun j k hj hk hne g h1 h2 => ?_, fun j hj g h1 h2 => ?_⟩
  · rw [List.length_set] at hj hj'
    rw [List.getElem_set, List.getElem_set]
    by_cases e : i = j
    · rw [if_pos e, if_pos e]
      exact hin.keptN hg2 (fun g hg e => hnv g hg e.symm)
    · rw [if_neg e, if_neg e]
      exact ((h.inn j hj hj').keptN hg (fun g hg' e2 => h.dis i j hi hj e g e2.symm hg')).keptN hg2 (fun g hg' e2 => h.dio j hj g hg' e2.symm)
  · rw [List.length_set] at hj hk
    rw [List.getElem_set] at h1 h2
    by_cases e1 : i = j
    · subst e1
      rw [if_pos rfl] at h1
      rw [if_neg hne] at h2
      exact hnj k hk (Ne.symm hne) g h1 h2
    · rw [if_neg e1] at h1
      by_cases e2 : i = k
      · rw [if_pos e2] at h2
        exact hnj j hj (Ne.symm e1) g h2 h1
      · rw [if_neg e2] at h2
        exact h.dis j k hj hk hne g h1 h2
  · rw [List.length_set] at hj
    rw [List.getElem_set] at h1
    by_cases e : i = j
    · rw [if_pos e] at h1; exact hnv g h1 h2
    · rw [if_neg e] at h1; exact h.dio j hj g h1 h2
/-- as one that is read -/
theorem OwnN.sl (h : OwnN w B eo ei v vs xs) : ∃ ao cap, v = .slice ao xs.length cap ∧ Sl w (OwnN.blk v vs) ao cap xs := by
  obtain ⟨ao, cap, e, hs⟩ := h.out.sl
  refine ⟨ao, cap, by rw [← h.len]; exact e, ⟨by rw [← h.len]; exact hs.le, hs.mx, hs.nil, fun i hi => ?_⟩⟩
  have hi' : i < vs.length := by rw [h.len]; exact hi
  obtain ⟨b, off, e1, hF, es, hc, hr⟩ := hs.el i hi'
  obtain ⟨rfl, h1⟩ := hr
  obtain ⟨io, ic, e2, hs2⟩ := (h.inn i hi' hi).sl
  refine ⟨b, off, e1, hF.elim (fun h => h.elim) .inl, [vs[i].v], hc, io, ic, by rw [e2], hs2.mono (fun _ _ => rfl) ?_⟩
  intro b hb
  exact hb.elim (fun h => h.elim) (fun hb => .inr ⟨_, List.getElem_mem hi', hb⟩)
theorem OwnN.rd (h : OwnN w B eo ei v vs xs) : Rd w (OwnN.blk v vs) v xs := by
  obtain ⟨ao, cap, rfl, hs⟩ := h.sl
  exact hs.rd
theorem OwnN.old (h : OwnN w B eo ei v vs xs) : Rd w (Old w) v xs := h.rd.mono (fun _ _ => rfl) fun b hb => (h.lt b hb).2
end
instance iNest3 : IsT Try.prog 22 Raw := IsT.of (by kernel_rfl) Try.underlying22 rfl
instance iNest4 : IsZ Try.prog 22 (⟨.slice none 0 0⟩ : Raw) 24 := IsZ.of (z := .slice none 0 0) (by kernel_rfl) (fun _ _ => ⟨rfl, rfl⟩)
end Go.Proofs.Ytllpfgcngokhnaa

/-
  Package scc: what turn, far and Way compute, in plain Lean.
-/
set_option linter.unusedVariables false
set_option linter.unusedSimpArgs false
namespace Go.Proofs.Ytllpfgcngokhnaa

/- TURN -/
/-- who leads to m: of the rows before n, and of row n's first j -/
def trow (g : List (List Int)) (n j : Nat) (m : Nat) : List Int :=
  ((List.range n).filter (fun k => (g.getD k []).contains (m : Int))).map (fun k : Nat => (k : Int)) ++ (if ((g.getD n []).take j).contains (m : Int) then [(n : Int)] else [])
def turnP (g : List (List Int)) (n j : Nat) : List (List Int) := (List.range g.length).map (trow g n j)
def turnL (g : List (List Int)) : List (List Int) := turnP g g.length 0
theorem turnP_len (g : List (List Int)) (n j : Nat) : (turnP g n j).length = g.length := by simp [turnP]
theorem turnP_get {g : List (List Int)} {n j i : Nat} (h : i < (turnP g n j).length) : (turnP g n j)[i] = trow g n j i := by simp [turnP]
theorem trow_len (g : List (List Int)) (n j m : Nat) : (trow g n j m).length ≤ n + 1 := by
  unfold trow
  have h1 := List.length_filter_le (fun k => (g.getD k []).contains (m : Int)) (List.range n)
  rw [List.length_range] at h1
  rw [List.length_append, List.length_map]
  split
  · simp only [List.length_singleton]; omega
  · simp only [List.length_nil]; omega
theorem trow_start (g : List (List Int)) (m : Nat) : trow g 0 0 m = [] := by simp [trow]
theorem turnP_start (g : List (List Int)) : turnP g 0 0 = List.replicate g.length [] := by
  apply List.ext_getElem (by simp [turnP])
  intro i h1 h2
  rw [turnP_get, trow_start]; simp
theorem trow_next {g : List (List Int)} {n : Nat} (m : Nat) : trow g (n + 1) 0 m = trow g n (g.getD n []).length m := by
  unfold trow
  rw [List.take_length, List.take_zero, List.range_succ, List.filter_append, List.map_append]
  cases h : (g.getD n []).contains (m : Int) <;> simp at h <;> simp [h]
theorem turnP_next {g : List (List Int)} {n : Nat} : turnP g (n + 1) 0 = turnP g n (g.getD n []).length := by
  unfold turnP; congr 1; funext m; exact trow_next m
theorem take_next {l : List Int} {j : Nat} (h : j < l.length) (x : Int) : (l.take (j + 1)).contains x = ((l.take j).contains x || x == l[j]) := by
  rw [List.take_succ_eq_append_getElem h, List.contains_eq_any_beq, List.contains_eq_any_beq, List.any_append]
  simp
theorem trow_new {g : List (List Int)} {n j m : Nat} (hj : j < (g.getD n []).length) (hm : (g.getD n [])[j] = (m : Int)) (hn : ((g.getD n []).take j).contains (m : Int) = false) : trow g n (j + 1) m = trow g n j m ++ [(n : Int)] := by
  unfold trow
  rw [take_next hj, hn, hm]; simp
theorem trow_old {g : List (List Int)} {n j m : Nat} (hj : j < (g.getD n []).length) (hn : ((g.getD n []).take j).contains (m : Int) = true) : trow g n (j + 1) m = trow g n j m := by
  unfold trow
  rw [take_next hj, hn]; simp
theorem trow_other {g : List (List Int)} {n j m : Nat} (hj : j < (g.getD n []).length) (hm : (g.getD n [])[j] ≠ (m : Int)) : trow g n (j + 1) m = trow g n j m := by
  unfold trow
  rw [take_next hj]
  have : ((m : Int) == (g.getD n [])[j]) = false := by rw [beq_eq_false_iff_ne]; exact Ne.symm hm
  rw [this, Bool.or_false]
/-- its last one is n just if n was put there -/
theorem trow_last {g : List (List Int)} {n j m : Nat} (h : 0 < (trow g n j m).length) : ((trow g n j m)[(trow g n j m).length - 1] = (n : Int)) ↔ ((g.getD n []).take j).contains (m : Int) = true := by
  have hl : (trow g n j m)[(trow g n j m).length - 1] = (trow g n j m).getLast (List.ne_nil_of_length_pos h) := by rw [List.getLast_eq_getElem]
  rw [hl]
  constructor
  · intro e
    apply Classical.byContradiction
    intro hc
    have hc' : ((g.getD n []).take j).contains (m : Int) = false := by simpa using hc
    have : (n : Int) ∈ trow g n j m := by rw [← e]; exact List.getLast_mem _
    unfold trow at this
    rw [hc'] at this
    simp at this
    omega
  · intro hc
    have : trow g n j m = ((List.range n).filter (fun k => (g.getD k []).contains (m : Int))).map (fun k : Nat => (k : Int)) ++ [(n : Int)] := by unfold trow; rw [if_pos hc]
    simp only [this]
    simp
theorem trow_nil {g : List (List Int)} {n j m : Nat} (h : (trow g n j m).length = 0) : ((g.getD n []).take j).contains (m : Int) = false := by
  cases hc : ((g.getD n []).take j).contains (m : Int)
  · rfl
  · unfold trow at h; rw [if_pos hc] at h; simp at h
theorem turnP_set {g : List (List Int)} {n j : Nat} (hj : j < (g.getD n []).length) {m : Nat} (hm : (g.getD n [])[j] = (m : Int)) (hmg : m < g.length) (hn : ((g.getD n []).take j).contains (m : Int) = false) :
    (turnP g n j).set m (trow g n j m ++ [(n : Int)]) = turnP g n (j + 1) := by
  apply List.ext_getElem (by simp [turnP])
  intro i h1 h2
  rw [List.getElem_set]
  by_cases e : m = i
  · subst e; rw [if_pos rfl, turnP_get, trow_new hj hm hn]
  · rw [if_neg e, turnP_get, turnP_get, trow_other hj (by rw [hm]; omega)]
theorem turnP_same {g : List (List Int)} {n j : Nat} (hj : j < (g.getD n []).length) {m : Nat} (hm : (g.getD n [])[j] = (m : Int)) (hn : ((g.getD n []).take j).contains (m : Int) = true) : turnP g n j = turnP g n (j + 1) := by
  apply List.ext_getElem (by simp [turnP])
  intro i h1 h2
  rw [turnP_get, turnP_get]
  by_cases e : m = i
  · subst e; rw [trow_old hj hn]
  · rw [trow_other hj (by rw [hm]; omega)]
theorem turnL_len (g : List (List Int)) : (turnL g).length = g.length := turnP_len _ _ _
theorem turnL_mem {g : List (List Int)} {m k : Nat} (hm : m < g.length) : (k : Int) ∈ (turnL g).getD m [] ↔ k < g.length ∧ (m : Int) ∈ g.getD k [] := by
  have : (turnL g).getD m [] = trow g g.length 0 m := by
    rw [List.getD_eq_getElem?_getD, List.getElem?_eq_getElem (by rw [turnL_len]; exact hm)]
    exact turnP_get _
  rw [this]
  unfold trow
  simp
  constructor
  · rintro ⟨a, ⟨h1, h2⟩, h3⟩
    have : a = k := by omega
    subst this; exact ⟨h1, h2⟩
  · rintro ⟨h1, h2⟩
    exact ⟨k, ⟨h1, h2⟩, rfl⟩
theorem turnL_ok (g : List (List Int)) : okG (turnL g) := by
  intro l hl x hx
  obtain ⟨m, hm, rfl⟩ := List.mem_iff_getElem.1 hl
  rw [turnL_len] at hm ⊢
  have e : (turnL g)[m]'(by rw [turnL_len]; exact hm) = trow g g.length 0 m := turnP_get _
  rw [e] at hx
  unfold trow at hx
  simp at hx
  obtain ⟨k, ⟨h1, _⟩, rfl⟩ := hx
  omega

/- FAR -/
def farStep (n : Int) (s : List Int × List Int) (k : Int) : List Int × List Int := if s.1.getD k.toNat 0 < 0 then (s.1.set k.toNat (s.1.getD n.toNat 0 + 1), s.2 ++ [k]) else s
def farGo (back : List (List Int)) : Nat → List Int → List Int → List Int
  | 0, d, _ => d
  | _ + 1, d, [] => d
  | f + 1, d, n :: r => farGo back f ((back.getD n.toNat []).foldl (farStep n) (d, r)).1 ((back.getD n.toNat []).foldl (farStep n) (d, r)).2
def farD (to : List Bool) : List Int := to.map fun b => if b then 0 else -1
def farN (to : List Bool) (n : Nat) : List Int := ((List.range n).filter (fun k => to.getD k false)).map fun k : Nat => (k : Int)
def farL (g : List (List Int)) (to : List Bool) : List Int := farGo (turnL g) (2 * g.length + 2) (farD to) (farN to to.length)
def negs (d : List Int) : Nat := d.countP fun x => decide (x < 0)
theorem negs_set {d : List Int} {k : Nat} {v : Int} (hk : k < d.length) (h : d[k] < 0) (hv : 0 ≤ v) : negs (d.set k v) + 1 = negs d := by
  unfold negs
  have e : d = d.take k ++ d[k] :: d.drop (k + 1) := by simp
  have e2 : d.set k v = d.take k ++ v :: d.drop (k + 1) := by rw [List.set_eq_take_append_cons_drop, if_pos hk]
  rw [e2]
  conv => rhs; rw [e]
  simp only [List.countP_append, List.countP_cons, h, decide_true, if_true]
  have : decide (v < 0) = false := by simp; omega
  rw [this]; simp; omega
/-- while one goes: what is marked stands; a number above 0 has one less beside it; who is done has all behind it numbered -/
structure FInv (g : List (List Int)) (to : List Bool) (d now : List Int) (cur : Option (Nat × Nat)) : Prop where
  len : d.length = g.length
  tol : to.length = g.length
  ge : ∀ n (h : n < d.length), -1 ≤ d[n]
  le : ∀ n (h : n < d.length), d[n] + negs d + 1 ≤ g.length
  zero : ∀ n (h : n < d.length), d[n] = 0 ↔ to.getD n false = true
  pos : ∀ n (h : n < d.length), 0 < d[n] → ∃ m, ∃ hm : m < d.length, (m : Int) ∈ g.getD n [] ∧ d[m] = d[n] - 1
  inN : ∀ x ∈ now, 0 ≤ x ∧ x < g.length
  nowd : ∀ x ∈ now, 0 ≤ d.getD x.toNat (-1)
  done : ∀ m (h : m < d.length), 0 ≤ d[m] → (m : Int) ∈ now ∨ (∃ j, cur = some (m, j)) ∨ ∀ k (hk : k < d.length), (m : Int) ∈ g.getD k [] → 0 ≤ d[k]
  curd : ∀ m j, cur = some (m, j) → ∃ hm : m < d.length, 0 ≤ d[m] ∧ ∀ x ∈ ((turnL g).getD m []).take j, 0 ≤ d.getD x.toNat (-1)
theorem getD_at {d : List Int} {n : Nat} {x : Int} (h : n < d.length) : d.getD n x = d[n] := by rw [List.getD_eq_getElem?_getD, List.getElem?_eq_getElem h]; rfl
theorem FInv.step {g : List (List Int)} {to : List Bool} {d now : List Int} {m j : Nat} (h : FInv g to d now (some (m, j))) (hj : j < ((turnL g).getD m []).length) {k : Int} (hk : ((turnL g).getD m [])[j] = k) :
    FInv g to (farStep m (d, now) k).1 (farStep m (d, now) k).2 (some (m, j + 1)) ∧ (farStep m (d, now) k).2.length + negs (farStep m (d, now) k).1 = now.length + negs d := by
  obtain ⟨hm, hdm, hpre⟩ := h.curd m j rfl
  have hml : m < g.length := by rw [← h.len]; exact hm
  have hrow : ((turnL g).getD m []) ∈ turnL g := by
    rw [List.getD_eq_getElem?_getD, List.getElem?_eq_getElem (by rw [turnL_len]; exact hml)]
    exact List.getElem_mem _
  have hk2 : 0 ≤ k ∧ k < g.length := by
    have := turnL_ok g _ hrow k (hk ▸ List.getElem_mem _)
    rwa [turnL_len] at this
  obtain ⟨kn, rfl⟩ := Int.eq_ofNat_of_zero_le hk2.1
  have hkn : kn < g.length := by omega
  have hkd : kn < d.length := by rw [h.len]; exact hkn
  have hmem : (m : Int) ∈ g.getD kn [] := ((turnL_mem hml).1 (hk ▸ List.getElem_mem hj)).2
  have htk : ∀ x, x ∈ ((turnL g).getD m []).take (j + 1) → x ∈ ((turnL g).getD m []).take j ∨ x = (kn : Int) := by
    intro x hx
    rw [List.take_succ_eq_append_getElem hj, hk] at hx
    simpa using hx
  unfold farStep
  simp only [Int.toNat_natCast]
  rw [getD_at hkd, getD_at hm]
  split
  · rename_i hneg
    have hne : m ≠ kn := fun e => by subst e; omega
    have hn := negs_set hkd hneg (v := d[m] + 1) (by omega)
    have hget : ∀ n (hn : n < (d.set kn (d[m] + 1)).length), (d.set kn (d[m] + 1))[n] = if kn = n then d[m] + 1 else d[n]'(by rw [List.length_set] at hn; exact hn) := fun n hn => List.getElem_set ..
    have hup : ∀ x, 0 ≤ d.getD x (-1) → 0 ≤ (d.set kn (d[m] + 1)).getD x (-1) := by
      intro x hx
      by_cases hxl : x < d.length
      · rw [getD_at (by rw [List.length_set]; exact hxl), hget]
        split
        · omega
        · rwa [getD_at hxl] at hx
      · rw [List.getD_eq_getElem?_getD, List.getElem?_eq_none (by omega)] at hx
        simp at hx
    refine ⟨⟨by rw [List.length_set]; exact h.len, h.tol, ?_, ?_, ?_, ?_, ?_, ?_, ?_, ?_⟩, by simp only [List.length_append, List.length_singleton]; omega⟩
    · intro n hn2
      rw [hget]
      split
      · omega
      · exact h.ge n _
    · intro n hn2
      rw [List.length_set] at hn2
      rw [hget]
      have h1 := h.le m hm
      have h2 := h.le n hn2
      dsimp only
      split <;> omega
    · intro n hn2
      rw [List.length_set] at hn2
      rw [hget]
      split
      · rename_i e
        subst e
        have := h.zero kn hkd
        constructor
        · intro e; omega
        · intro e; have := this.2 e; omega
      · exact h.zero n hn2
    · intro n hn2 hp
      rw [List.length_set] at hn2
      rw [hget] at hp ⊢
      split at hp
      · rename_i e
        subst e
        rw [if_pos rfl]
        refine ⟨m, by rw [List.length_set]; exact hm, hmem, ?_⟩
        rw [hget, if_neg (Ne.symm hne)]; omega
      · rename_i e
        rw [if_neg e]
        obtain ⟨m2, h1, h2, h3⟩ := h.pos n hn2 hp
        refine ⟨m2, by rw [List.length_set]; exact h1, h2, ?_⟩
        rw [hget, if_neg (fun e => by subst e; omega)]; exact h3
    · intro x hx
      rw [List.mem_append, List.mem_singleton] at hx
      rcases hx with hx | rfl
      · exact h.inN x hx
      · omega
    · intro x hx
      rw [List.mem_append, List.mem_singleton] at hx
      rcases hx with hx | rfl
      · exact hup _ (h.nowd x hx)
      · rw [Int.toNat_natCast, getD_at (by rw [List.length_set]; exact hkd), hget, if_pos rfl]; omega
    · intro m' hm' hp
      rw [List.length_set] at hm'
      rw [hget] at hp
      split at hp
      · rename_i e; subst e; exact .inl (by simp)
      · rcases h.done m' hm' hp with h1 | ⟨j', h1⟩ | h1
        · exact .inl (List.mem_append_left _ h1)
        · simp only [Option.some.injEq, Prod.mk.injEq] at h1
          exact .inr (.inl ⟨j + 1, by rw [h1.1]⟩)
        · refine .inr (.inr fun k2 hk2 hmk => ?_)
          rw [List.length_set] at hk2
          rw [hget]
          split
          · omega
          · exact h1 k2 hk2 hmk
    · intro m2 j2 e
      simp only [Option.some.injEq, Prod.mk.injEq] at e
      obtain ⟨rfl, rfl⟩ := e
      refine ⟨by rw [List.length_set]; exact hm, by rw [hget, if_neg (Ne.symm hne)]; exact hdm, fun x hx => ?_⟩
      rcases htk x hx with hx | rfl
      · exact hup _ (hpre x hx)
      · rw [Int.toNat_natCast, getD_at (by rw [List.length_set]; exact hkd), hget, if_pos rfl]; omega
  · rename_i hpos
    refine ⟨⟨h.len, h.tol, h.ge, h.le, h.zero, h.pos, h.inN, h.nowd, ?_, ?_⟩, rfl⟩
    · intro m' hm' hp
      rcases h.done m' hm' hp with h1 | ⟨j', h1⟩ | h1
      · exact .inl h1
      · simp only [Option.some.injEq, Prod.mk.injEq] at h1
        exact .inr (.inl ⟨j + 1, by rw [h1.1]⟩)
      · exact .inr (.inr h1)
    · intro m2 j2 e
      simp only [Option.some.injEq, Prod.mk.injEq] at e
      obtain ⟨rfl, rfl⟩ := e
      refine ⟨hm, hdm, fun x hx => ?_⟩
      rcases htk x hx with hx | rfl
      · exact hpre x hx
      · rw [Int.toNat_natCast, getD_at hkd]; omega
theorem FInv.over {g : List (List Int)} {to : List Bool} {d now : List Int} {m : Nat} (h : FInv g to d now (some (m, ((turnL g).getD m []).length))) : FInv g to d now none := by
  obtain ⟨hm, hdm, hpre⟩ := h.curd m _ rfl
  refine ⟨h.len, h.tol, h.ge, h.le, h.zero, h.pos, h.inN, h.nowd, ?_, fun _ _ e => by cases e⟩
  intro m' hm' hp
  rcases h.done m' hm' hp with h1 | ⟨j', h1⟩ | h1
  · exact .inl h1
  · simp only [Option.some.injEq, Prod.mk.injEq] at h1
    obtain ⟨rfl, _⟩ := h1
    refine .inr (.inr fun k hk hmk => ?_)
    rw [List.take_length] at hpre
    have := hpre (k : Int) ((turnL_mem (by rw [← h.len]; exact hm)).2 ⟨by rw [← h.len]; exact hk, hmk⟩)
    rwa [Int.toNat_natCast, getD_at hk] at this
  · exact .inr (.inr h1)
theorem farD_get {to : List Bool} {n : Nat} (h : n < (farD to).length) : (farD to)[n] = if to.getD n false = true then 0 else -1 := by
  have h' : n < to.length := by simpa [farD] using h
  simp [farD, List.getD_eq_getElem?_getD, h']
theorem farD_negs (to : List Bool) : negs (farD to) + (to.countP fun b => b) = to.length := by
  unfold negs farD
  rw [List.countP_map, List.length_eq_countP_add_countP (fun b => b) (l := to), Nat.add_comm]
  congr 1
  apply List.countP_congr
  intro x _
  cases x <;> simp
theorem FInv.start {g : List (List Int)} {to : List Bool} (h : to.length = g.length) : FInv g to (farD to) (farN to to.length) none := by
  have hl : (farD to).length = g.length := by simp [farD, h]
  have hneg := farD_negs to
  refine ⟨hl, h, ?_, ?_, ?_, ?_, ?_, ?_, ?_, fun _ _ e => by cases e⟩
  · intro n hn; rw [farD_get]; split <;> omega
  · intro n hn
    rw [farD_get]
    split
    · rename_i ht
      have : 0 < to.countP fun b => b := by
        rw [List.countP_pos_iff]
        have hn' : n < to.length := by omega
        refine ⟨to[n], List.getElem_mem _, ?_⟩
        rw [List.getD_eq_getElem?_getD, List.getElem?_eq_getElem hn'] at ht
        exact ht
      omega
    · omega
  · intro n hn; rw [farD_get]; split <;> simp_all
  · intro n hn hp; rw [farD_get] at hp; split at hp <;> omega
  · intro x hx; simp [farN] at hx; obtain ⟨k, ⟨h1, _⟩, rfl⟩ := hx; omega
  · intro x hx
    simp [farN] at hx
    obtain ⟨k, ⟨h1, h2⟩, rfl⟩ := hx
    rw [Int.toNat_natCast, getD_at (by omega), farD_get, if_pos (by simpa using h2)]; omega
  · intro m hm hp
    rw [farD_get] at hp
    split at hp
    · rename_i ht
      refine .inl ?_
      simp [farN]
      exact ⟨m, ⟨by omega, by simpa using ht⟩, rfl⟩
    · omega
/- WAY -/
def dAt (d : List Int) (x : Int) : Int := d.getD x.toNat 0
def nextB (d : List Int) (at' nx n : Int) : Bool := decide (dAt d n = dAt d at' - 1) && (decide (nx < 0) || decide (n < nx))
def wayNext (d : List Int) (at' : Int) (row : List Int) : Int := row.foldl (fun nx n => if nextB d at' nx n then n else nx) (-1)
def wayGo (g : List (List Int)) (d : List Int) : Nat → Int → List Int
  | 0, a => [a]
  | f + 1, a => if 0 < dAt d a then a :: wayGo g d f (wayNext d a (g.getD a.toNat [])) else [a]
/-- a list that is the way from a -/
structure WayOK (g : List (List Int)) (d : List Int) (l : List Int) (a : Int) : Prop where
  len : (l.length : Int) = dAt d a + 1
  hd : l[0]? = some a
  at' : ∀ i (hi : i < l.length), dAt d l[i] = dAt d a - i
  inR : ∀ i (hi : i < l.length), 0 ≤ l[i] ∧ l[i] < g.length
  go : ∀ i (hi : i < l.length) (f' : Nat), dAt d l[i] ≤ f' → wayGo g d f' l[i] = l.drop i
  edge : ∀ i (hi : i < l.length) (hp : 0 < i), l[i] ∈ g.getD (l[i - 1]'(by omega)).toNat []
section
variable {g : List (List Int)} {to : List Bool} (h : FInv g to (farL g to) [] none) (hg : okG g)
include h hg
end
end Go.Proofs.Ytllpfgcngokhnaa

/-
  Contracts of more of the generic functions of package slices, at the types where the program uses them.
-/
set_option linter.unusedVariables false
namespace Go.Proofs.Ytllpfgcngokhnaa
open Go.RowKit
theorem index_int (w0 : World) {ao : Option Addr} {cap : Nat} {xs : List Int} (x : Int) (hs : Sl w0 (Old w0) ao cap xs) :
    Rt Try.prog 104 [.slice ao xs.length cap, .int .i64 x].toArray w0 fun v w' => v = .int .i64 (idxOf (fun y => x == y) xs) ∧ Ext w0 w' := by
  have hm := hs.len63
  refine Rt.enter2 Try.func104 Try.ntmps104 rfl rfl ?_
  (repeat (first | (apply WL.pure; rfl; rfl; rfl) | (apply WL.nil) | (apply EX.thenN) | (apply CW.seq) | (apply CW.region) | (apply WL.lenS; rfl; rfl; rfl) | (apply CW.block)))
  refine CW.loop (S := Nat) (fun k => [(0, .slice ao xs.length cap), (1, .int .i64 x), (7, .int .i64 xs.length), (8, .int .i64 k)])
    (fun k w => k ≤ xs.length ∧ Ext w0 w ∧ ∀ j (h : j < xs.length), j < k → (x == xs[j]) = false) (fun k => xs.length - k) 0 (by repeat (first | exact trivial | refine ⟨rfl, ?_⟩)) ⟨by omega, Ext.refl _, by omega⟩ ?_
  rintro k w ⟨hk, hB, hn⟩
  (repeat (first | (apply WL.pure; rfl; rfl; rfl) | (apply WL.nil) | (apply EX.thenN) | (apply CW.seq) | (apply CW.region)))
  refine CW.cond rfl (fun h => ?_) (fun h => ?_)
  · simp at h
    (repeat (first | (apply WL.pure; rfl; rfl; rfl) | (apply WL.nil) | (apply EX.thenN) | (apply CW.seq) | (apply CW.region) | (apply CW.block) | (apply CW.skip)))
    refine WL.elemI rfl rfl rfl rfl rfl (hs.at hB) h rfl (fun _ => rfl) (fun q => ?_)
    (repeat (first | (apply WL.pure; rfl; rfl; rfl) | (apply WL.nil) | (apply EX.thenN)))
    refine CW.cond rfl (fun h' => ?_) (fun h' => ?_)
    · (repeat (first | (apply WL.pure; rfl; rfl; rfl) | (apply WL.nil) | (apply EX.thenN) | (apply CW.seq) | (apply CW.region) | (apply CW.ret) | (apply EX.thenR) | (apply EX.inR)))
      refine EX.ret1 rfl rfl ⟨?_, hB⟩
      rw [idxOf_here h hn h']
    · (repeat (first | (apply WL.add; rfl; rfl; rfl; rfl; omega; omega) | (apply WL.pure; rfl; rfl; rfl) | (apply WL.nil) | (apply EX.thenN) | (apply CW.region) | (apply EX.inN) | (apply CW.skip)))
      refine EX.back (k + 1) (by repeat (first | exact trivial | refine ⟨rfl, ?_⟩)) ⟨h, hB, ?_⟩ (by omega)
      intro j hj hlt
      by_cases e : j = k
      · subst e; exact h'
      · exact hn j hj (by omega)
  · simp at h
    (repeat (first | (apply WL.pure; rfl; rfl; rfl) | (apply WL.nil) | (apply EX.thenN) | (apply CW.seq) | (apply CW.region) | (apply CW.exit) | (apply EX.thenX) | (apply EX.inX) | (apply CW.ret)))
    refine EX.ret1 rfl rfl ⟨?_, hB⟩
    rw [idxOf_none (fun j hj => hn j hj (by omega))]
theorem contains_int (w0 : World) {ao : Option Addr} {cap : Nat} {xs : List Int} (x : Int) (hs : Sl w0 (Old w0) ao cap xs) :
    Rt Try.prog 54 [.slice ao xs.length cap, .int .i64 x].toArray w0 fun v w' => v = .bool (xs.contains x) ∧ Ext w0 w' := by
  refine Rt.enter2 Try.func54 Try.ntmps54 rfl rfl ?_
  (repeat (first | (apply WL.pure; rfl; rfl; rfl) | (apply WL.nil) | (apply EX.thenN) | (apply CW.seq) | (apply CW.region)))
  refine WL.call rfl rfl rfl (index_int w0 x hs) ?_
  rintro v w' ⟨rfl, hB⟩
  (repeat (first | (apply WL.pure; rfl; rfl; rfl) | (apply WL.nil) | (apply EX.thenN) | (apply CW.ret)))
  refine EX.ret1 rfl rfl ⟨?_, hB⟩
  rw [← List.any_beq, ← idxOf_any]
theorem indexFunc_ll (w0 : World) {ao : Option Addr} {cap : Nat} {xs : List (List Int)} {fv : Value} (p : List Int → Bool) (hs : Sl w0 (Old w0) ao cap xs)
    (hf : ∀ w, Ext w0 w → ∀ i (h : i < xs.length) u, Rd w (Old w0) u xs[i] → FnV Try.prog fv [u] w fun v w' => v = .bool (p xs[i]) ∧ Ext w w') :
    Rt Try.prog 75 [.slice ao xs.length cap, fv].toArray w0 fun v w' => v = .int .i64 (idxOf p xs) ∧ Ext w0 w' := by
  have hm := hs.len63
  refine Rt.enter2 Try.func75 Try.ntmps75 rfl rfl ?_
  (repeat (first | (apply WL.pure; rfl; rfl; rfl) | (apply WL.nil) | (apply EX.thenN) | (apply CW.seq) | (apply CW.region) | (apply WL.lenS; rfl; rfl; rfl) | (apply CW.block)))
  refine CW.loop (S := Nat) (fun k => [(0, .slice ao xs.length cap), (1, fv), (7, .int .i64 xs.length), (8, .int .i64 k)])
    (fun k w => k ≤ xs.length ∧ Ext w0 w ∧ ∀ j (h : j < xs.length), j < k → p xs[j] = false) (fun k => xs.length - k) 0 (by repeat (first | exact trivial | refine ⟨rfl, ?_⟩)) ⟨by omega, Ext.refl _, by omega⟩ ?_
  rintro k w ⟨hk, hB, hn⟩
  (repeat (first | (apply WL.pure; rfl; rfl; rfl) | (apply WL.nil) | (apply EX.thenN) | (apply CW.seq) | (apply CW.region)))
  refine CW.cond rfl (fun h => ?_) (fun h => ?_)
  · simp at h
    (repeat (first | (apply WL.pure; rfl; rfl; rfl) | (apply WL.nil) | (apply EX.thenN) | (apply CW.seq) | (apply CW.region) | (apply CW.block) | (apply CW.skip)))
    refine WL.elemN rfl rfl rfl rfl rfl (hs.at hB) h (fun _ => rfl) (fun u q hu => ?_)
    refine WL.callF rfl rfl rfl rfl (hf w hB k h u hu) ?_
    rintro v w' ⟨rfl, hB'⟩
    (repeat (first | (apply WL.nil) | (apply EX.thenN)))
    refine CW.cond rfl (fun h' => ?_) (fun h' => ?_)
    · (repeat (first | (apply WL.pure; rfl; rfl; rfl) | (apply WL.nil) | (apply EX.thenN) | (apply CW.seq) | (apply CW.region) | (apply CW.ret) | (apply EX.thenR) | (apply EX.inR)))
      refine EX.ret1 rfl rfl ⟨?_, hB.trans hB'⟩
      rw [idxOf_here h hn h']
    · (repeat (first | (apply WL.add; rfl; rfl; rfl; rfl; omega; omega) | (apply WL.pure; rfl; rfl; rfl) | (apply WL.nil) | (apply EX.thenN) | (apply CW.region) | (apply EX.inN) | (apply CW.skip)))
      refine EX.back (k + 1) (by repeat (first | exact trivial | refine ⟨rfl, ?_⟩)) ⟨h, hB.trans hB', ?_⟩ (by omega)
      intro j hj hlt
      by_cases e : j = k
      · subst e; exact h'
      · exact hn j hj (by omega)
  · simp at h
    (repeat (first | (apply WL.pure; rfl; rfl; rfl) | (apply WL.nil) | (apply EX.thenN) | (apply CW.seq) | (apply CW.region) | (apply CW.exit) | (apply EX.thenX) | (apply EX.inX) | (apply CW.ret)))
    refine EX.ret1 rfl rfl ⟨?_, hB⟩
    rw [idxOf_none (fun j hj => hn j hj (by omega))]

theorem containsFunc_ll (w0 : World) {ao : Option Addr} {cap : Nat} {xs : List (List Int)} {fv : Value} (p : List Int → Bool) (hs : Sl w0 (Old w0) ao cap xs)
    (hf : ∀ w, Ext w0 w → ∀ i (h : i < xs.length) u, Rd w (Old w0) u xs[i] → FnV Try.prog fv [u] w fun v w' => v = .bool (p xs[i]) ∧ Ext w w') :
    Rt Try.prog 28 [.slice ao xs.length cap, fv].toArray w0 fun v w' => v = .bool (xs.any p) ∧ Ext w0 w' := by
  refine Rt.enter2 Try.func28 Try.ntmps28 rfl rfl ?_
  (repeat (first | (apply WL.pure; rfl; rfl; rfl) | (apply WL.nil) | (apply EX.thenN) | (apply CW.seq) | (apply CW.region)))
  refine WL.call rfl rfl rfl (indexFunc_ll w0 p hs hf) ?_
  rintro v w' ⟨rfl, hB⟩
  (repeat (first | (apply WL.pure; rfl; rfl; rfl) | (apply WL.nil) | (apply EX.thenN) | (apply CW.ret)))
  refine EX.ret1 rfl rfl ⟨?_, hB⟩
  rw [← idxOf_any]

end Go.Proofs.Ytllpfgcngokhnaa

/-
  Package scc: turn, far, Way, Turn.
-/
set_option linter.unusedVariables false
set_option linter.unusedSimpArgs false
namespace Go.Proofs.Ytllpfgcngokhnaa
open Go.RowKit

theorem turn_ok (w0 : World) {F : Nat → Prop} {ao : Option Addr} {cap : Nat} {g : List (List Int)} (hs : Sl w0 F ao cap g) (hF : ∀ b, F b → b < w0.heap.size) (hg : okG g) (hl : g.length ≤ 1099511627776) :
    Rt Try.prog 147 [.slice ao g.length cap].toArray w0 fun v w' => ∃ vs, OwnN w' w0.heap.size 22 3 v vs (turnL g) ∧ Ext w0 w' := by
  refine Rt.enter1 Try.func147 Try.ntmps147 rfl rfl ?_
  (repeat (first | (apply WL.pure; rfl; rfl; rfl) | (apply WL.nil) | (apply EX.thenN) | (apply CW.seq) | (apply CW.region) | (apply WL.lenS; rfl; rfl; rfl)))
  refine WL.make (α := Raw) rfl rfl rfl rfl (by omega) (by unfold maxLen; omega) (fun w1 ho1 hg1 => ?_)
  have hE1 : Ext w0 w1 := (Below.refl _ _).grown hg1 (Nat.le_refl _) (fun k h => by cases h)
  generalize hsv : Value.slice (some ⟨w0.heap.size, 0, none⟩) g.length g.length = sv at *
  have hN1 : OwnN w1 w0.heap.size 22 3 sv _ (List.replicate g.length ([] : List Int)) := OwnN.made ho1
  rw [← turnP_start] at hN1
  (repeat (first | (apply WL.pure; rfl; rfl; rfl) | (apply WL.nil) | (apply EX.thenN) | (apply CW.seq) | (apply CW.region) | (apply WL.lenS; rfl; rfl; rfl) | (apply CW.block)))
  refine CW.loop (S := Nat × List Raw) (fun s => [(3, sv), (12, .slice ao g.length cap), (13, .int .i64 g.length), (14, .int .i64 s.1)])
    (fun s w => s.1 ≤ g.length ∧ OwnN w w0.heap.size 22 3 sv s.2 (turnP g s.1 0) ∧ Ext w0 w) (fun s => g.length - s.1) (0, _) (by repeat (first | exact trivial | refine ⟨rfl, ?_⟩)) ⟨by omega, hN1, hE1⟩ ?_
  rintro ⟨n, vs⟩ w ⟨hn, hN, hE⟩
  dsimp only at hn hN
  (repeat (first | (apply WL.pure; rfl; rfl; rfl) | (apply WL.nil) | (apply EX.thenN) | (apply CW.seq) | (apply CW.region)))
  refine CW.cond rfl (fun hng => ?_) (fun hng => ?_)
  · simp at hng
    (repeat (first | (apply WL.pure; rfl; rfl; rfl) | (apply EX.thenN) | (apply CW.seq) | (apply CW.region) | (apply CW.block) | (apply CW.skip)))
    have hs' : Sl w F ao cap g := hs.mono (fun b hb => hE.block b (hF b hb)) fun _ h => h
    refine WL.elemN rfl rfl rfl rfl rfl hs' hng (fun _ => rfl) (fun u q hu => ?_)
    obtain ⟨lo, lc, rfl, hrow⟩ := hu.sl
    have hrl := hrow.len63
    dsimp only at hrl hrow
    have erow : g.getD n [] = g[n] := by rw [List.getD_eq_getElem?_getD, List.getElem?_eq_getElem hng]; rfl
    (repeat (first | (apply WL.pure; rfl; rfl; rfl) | (apply WL.nil) | (apply EX.thenN) | (apply CW.seq) | (apply CW.region) | (apply WL.lenS; rfl; rfl; rfl) | (apply CW.block)))
    refine CW.loop (S := Nat × List Raw) (fun s => [(3, sv), (4, .int .i64 n), (12, .slice ao g.length cap), (13, .int .i64 g.length), (14, .int .i64 n), (19, .slice lo g[n].length lc), (20, .int .i64 g[n].length), (21, .int .i64 s.1)])
      (fun s w => s.1 ≤ g[n].length ∧ OwnN w w0.heap.size 22 3 sv s.2 (turnP g n s.1) ∧ Ext w0 w) (fun s => g[n].length - s.1) (0, vs) (by repeat (first | exact trivial | refine ⟨rfl, ?_⟩)) ⟨by omega, hN, hE⟩ ?_
    rintro ⟨j, vs⟩ w2 ⟨hj, hN, hE2⟩
    dsimp only at hj hN
    have hlen := hN.len
    rw [turnP_len] at hlen
    (repeat (first | (apply WL.pure; rfl; rfl; rfl) | (apply WL.nil) | (apply EX.thenN) | (apply CW.seq) | (apply CW.region)))
    refine CW.cond rfl (fun h1 => ?_) (fun h1 => ?_) <;> simp at h1
    · have hrow' : Sl w2 F lo lc g[n] := hrow.mono (fun b hb => (hE2.block b (hF b hb)).trans (hE.block b (hF b hb)).symm) fun _ h => h
      have hk := hg _ (List.getElem_mem hng) _ (List.getElem_mem h1)
      obtain ⟨k, ek⟩ := Int.eq_ofNat_of_zero_le hk.1
      have hkl : k < g.length := by omega
      have hkv : k < vs.length := by omega
      have hj' : j < (g.getD n []).length := by rw [erow]; exact h1
      have ek' : (g.getD n [])[j] = (k : Int) := by simp only [erow]; exact ek
      (repeat (first | (apply EX.thenN) | (apply CW.seq) | (apply CW.region) | (apply CW.block) | (apply CW.skip)))
      refine WL.elemI rfl rfl rfl rfl rfl hrow' h1 ek (fun _ => rfl) (fun q => ?_)
      (repeat (first | (apply WL.pure; rfl; rfl; rfl) | (apply WL.nil) | (apply EX.thenN) | (apply CW.seq) | (apply CW.region)))
      refine WL.elemON rfl rfl rfl rfl rfl hN.out hkv (fun _ => rfl) (fun u q hu => ?_)
      obtain ⟨rfl, _⟩ := hu.raw
      have hin := hN.inn k hkv (by rw [turnP_len]; exact hkl)
      rw [turnP_get] at hin
      have htl := trow_len g n j k
      obtain ⟨io, ic, hiv⟩ := hin.val
      refine WL.lenO rfl rfl rfl hin ?_
      (repeat (apply WL.pure; rfl; rfl; rfl))
      apply WL.nil
      apply EX.thenN
      generalize hrw : trow g n j k = row at *
      refine CW.cut [(3, sv), (4, .int .i64 n), (7, .int .i64 k), (12, .slice ao g.length cap), (13, .int .i64 g.length), (14, .int .i64 n), (19, .slice lo g[n].length lc), (20, .int .i64 g[n].length), (21, .int .i64 j), (43, .bool (!((g.getD n []).take j).contains (k : Int)))] ?_ ?_
      · (repeat (first | (apply WL.pure; rfl; rfl; rfl) | (apply CW.region)))
        (refine WL.lookG rfl rfl (fun h => ?_) (fun h => ?_)) <;> simp at h
        · have hc : ((g.getD n []).take j).contains (k : Int) = false := trow_nil (by rw [hrw]; simp [h])
          rw [hc]
          (repeat (first | (apply WL.pure; rfl; rfl; rfl) | (apply WL.pass; rfl; rfl)))
          exact WL.nil (EX.cut (by repeat (first | exact trivial | refine ⟨rfl, ?_⟩)))
        · have hpos : 0 < row.length := by cases row with | nil => exact absurd rfl h | cons x r => simp
          (repeat (apply WL.pure; rfl; rfl; rfl))
          refine WL.elemON rfl rfl rfl rfl rfl hN.out hkv (fun _ => rfl) (fun u q hu => ?_)
          obtain ⟨rfl, _⟩ := hu.raw
          (repeat (first | (apply WL.sub'; rfl; rfl; rfl; rfl; omega; omega) | (apply WL.pure; rfl; rfl; rfl)))
          refine WL.elemO rfl rfl rfl rfl rfl hin (by omega) (by omega) (fun _ => rfl) (fun u q hu => ?_)
          obtain rfl := hu.int
          have hlast := trow_last (g := g) (n := n) (j := j) (m := k) (by rw [hrw]; exact hpos)
          simp only [hrw] at hlast
          have ei : ((row.length : Int) - 1).toNat = row.length - 1 := by omega
          have e : (row[((row.length : Int) - 1).toNat]'(by omega) != (n : Int)) = (!((g.getD n []).take j).contains (k : Int)) := by
            simp only [ei]
            cases hc : ((g.getD n []).take j).contains (k : Int)
            · rw [hc] at hlast; simpa [bne_iff_ne] using hlast
            · rw [hc] at hlast; simpa [bne_iff_ne] using hlast
          rw [← e]
          (repeat (apply WL.pure; rfl; rfl; rfl))
          exact WL.nil (EX.cut (by repeat (first | exact trivial | refine ⟨rfl, ?_⟩)))
      · refine CW.cond rfl (fun hc => ?_) (fun hc => ?_)
        · have hc : ((g.getD n []).take j).contains (k : Int) = false := by simpa using hc
          (repeat (first | (apply WL.pure; rfl; rfl; rfl) | (apply CW.region)))
          refine WL.elemON rfl rfl rfl rfl rfl hN.out hkv (fun _ => rfl) (fun u q hu => ?_)
          obtain ⟨rfl, _⟩ := hu.raw
          (repeat (apply WL.pure; rfl; rfl; rfl))
          refine WL.app1 (F := Non) (yv := (n : Int)) rfl rfl (fun _ => rfl) rfl rfl (fun _ => rfl) hin (Rd.mkInt _ _ _) hE2.size (fun _ h => h.elim) (by decide) (by unfold maxLen; omega) (by omega) (fun v' w3 p ho3 hg3 hnb => ?_)
          skip
          have hmid := hN.mid hkv hg3
          refine WL.setN (u := v') (yv := ⟨v'⟩) rfl rfl rfl rfl hmid hkv (fun _ => rfl) (fun _ => rfl) (Rd.mkRaw _ _ _ ?_) (fun w4 q ho4 hg4 => ?_)
          · obtain ⟨a, b, rfl⟩ := ho3.val; rfl
          have hN4 := hN.set hkv ho3 hg3 hnb ho4 hg4
          rw [← hrw, turnP_set hj' ek' hkl hc] at hN4
          have hE4 : Ext w0 w4 := (hE2.grown hg3 hE2.size (fun b hb => (hin.lt b hb).1)).grown hg4 (Nat.le_trans hE2.size hg3.size) (fun b hb => (hN.out.lt b hb).1)
          (repeat (first | (apply WL.add; rfl; rfl; rfl; rfl; omega; omega) | (apply WL.pure; rfl; rfl; rfl) | (apply WL.nil) | (apply EX.thenN) | (apply CW.region) | (apply EX.inN)))
          exact EX.back (j + 1, vs.set k ⟨v'⟩) (by repeat (first | exact trivial | refine ⟨rfl, ?_⟩)) ⟨h1, hN4, hE4⟩ (by simp only; omega)
        · have hc : ((g.getD n []).take j).contains (k : Int) = true := by simpa using hc
          (repeat (first | (apply WL.add; rfl; rfl; rfl; rfl; omega; omega) | (apply WL.pure; rfl; rfl; rfl) | (apply WL.nil) | (apply EX.thenN) | (apply CW.region) | (apply EX.inN) | (apply CW.skip)))
          rw [turnP_same hj' ek' hc] at hN
          exact EX.back (j + 1, vs) (by repeat (first | exact trivial | refine ⟨rfl, ?_⟩)) ⟨h1, hN, hE2⟩ (by simp only; omega)
    · have : j = g[n].length := by omega
      subst this
      rw [← erow, ← turnP_next] at hN
      (repeat (first | (apply WL.add; rfl; rfl; rfl; rfl; omega; omega) | (apply WL.pure; rfl; rfl; rfl) | (apply WL.nil) | (apply EX.thenN) | (apply CW.region) | (apply EX.inN) | (apply CW.exit) | (apply EX.thenX) | (apply EX.inX)))
      exact EX.back (n + 1, vs) (by repeat (first | exact trivial | refine ⟨rfl, ?_⟩)) ⟨hng, hN, hE2⟩ (by simp only; omega)
  · simp at hng
    have : n = g.length := by omega
    subst this
    (repeat (first | (apply WL.pure; rfl; rfl; rfl) | (apply WL.nil) | (apply EX.thenN) | (apply CW.seq) | (apply CW.region) | (apply CW.exit) | (apply EX.thenX) | (apply EX.inX) | (apply CW.ret)))
    exact EX.ret1 rfl rfl ⟨vs, hN, hE⟩

theorem getD_setI {d : List Int} {n k : Nat} {v : Int} (h : n < d.length) : (d.set n v).getD k 0 = if n = k then v else d.getD k 0 := by
  rw [List.getD_eq_getElem?_getD, List.getD_eq_getElem?_getD, List.getElem?_set]
  split
  · rename_i e; simp [h]
  · rfl
def turnF (g : List (List Int)) : List (List Int) := if chkG g = 0 then turnL g else []
theorem Turn_ok (w0 : World) {ao : Option Addr} {cap : Nat} {g : List (List Int)} (hs : Sl w0 (Old w0) ao cap g) :
    Rt Try.prog 116 [.slice ao g.length cap].toArray w0 fun r w' => ∃ v vs, r = .tuple ⟨[v, .int .i64 (chkG g)]⟩ ∧ OwnN w' w0.heap.size 22 3 v vs (turnF g) ∧ Ext w0 w' := by
  refine Rt.enter1 Try.func116 Try.ntmps116 rfl rfl ?_
  (repeat (first | (apply WL.pure; rfl; rfl; rfl) | (apply WL.nil) | (apply EX.thenN) | (apply CW.seq) | (apply CW.region)))
  refine WL.call rfl rfl rfl (chk_ok w0 hs) ?_
  rintro v w1 ⟨rfl, hE1⟩
  unfold turnF
  (repeat (first | (apply WL.pure; rfl; rfl; rfl) | (apply WL.nil) | (apply EX.thenN) | (apply CW.seq) | (apply CW.region)))
  refine CW.cond rfl (fun h => ?_) (fun h => ?_)
  · have hc : chkG g ≠ 0 := by simpa using h
    (repeat (first | (apply WL.pure; rfl; rfl; rfl) | (apply WL.nil) | (apply EX.thenN) | (apply CW.seq) | (apply CW.region) | (apply CW.ret) | (apply EX.thenR)))
    exact EX.ret2 rfl rfl rfl ⟨.slice none 0 0, [], rfl, by rw [if_neg hc]; exact OwnN.nil, hE1⟩
  · have hc : chkG g = 0 := by simpa using h
    obtain ⟨hg, hg2⟩ := chkG_ok hc
    (repeat (first | (apply WL.pure; rfl; rfl; rfl) | (apply EX.thenN) | (apply CW.seq) | (apply CW.region) | (apply CW.skip)))
    refine WL.call rfl rfl rfl (turn_ok w1 (hs.up hE1) (fun _ h => h) hg (by omega)) ?_
    rintro v w2 ⟨vs, hN, hE2⟩
    (repeat (first | (apply WL.pure; rfl; rfl; rfl) | (apply WL.nil) | (apply EX.thenN) | (apply CW.ret)))
    exact EX.ret2 rfl rfl rfl ⟨v, vs, by rw [hc], by rw [if_pos hc]; exact hN.low hE1.size, hE1.trans hE2⟩
end Go.Proofs.Ytllpfgcngokhnaa

/-
  Drawn regions in which several changes of memory may come in any order: a bag of operations, each of which only makes new memory. Over any program.
-/
set_option linter.unusedVariables false
set_option linter.unusedSimpArgs false
namespace Go.Proofs.Ytllpfgcngokhnaa
open Go.RowKit

/-- whichever order: all of J come up first, then the order r -/
def bagB (ops : Array Oper) (r : List (Nat × Bool)) : Nat → List Nat → Array Bool → Bool
  | 0, J, listed => J.isEmpty && ordB ops r listed
  | k + 1, J, listed => (Region.ready .any ops listed).all (fun i => J.contains i) && !(Region.ready .any ops listed).isEmpty &&
      (Region.ready .any ops listed).all fun i => bagB ops r k (J.erase i) (listed.setIfInBounds i true)
def ordBagB (ops : Array Oper) (J : List Nat) (r : List (Nat × Bool)) : List (Nat × Bool) → Array Bool → Bool
  | [], listed => bagB ops r J.length J listed
  | (i, true) :: s, listed => (Region.ready .any ops listed).contains i && Region.free .any ops listed i && ordBagB ops J r s (listed.setIfInBounds i true)
  | (i, false) :: s, listed => decide (Region.ready .any ops listed = [i]) && ordBagB ops J r s (listed.setIfInBounds i true)
def bagOk (l : List Oper) (s : List (Nat × Bool)) (J : List Nat) (r : List (Nat × Bool)) : Bool :=
  Region.noSelect l.toArray && decide (s.length + J.length + r.length = l.length) && ordBagB l.toArray J r s (Array.replicate l.length false)

def Never : Exit → Act → World → Prop := fun _ _ _ => False
def wpBag (P : Program) (ops : List Oper) (S : World → Prop) (K : Act → World → Prop) : Nat → List Nat → Act → World → Prop
  | 0, _, a, w => K a w
  | k + 1, J, a, w => ∀ i ∈ J, ∃ o, ops[i]? = some o ∧ Region.wanted o (yielded ops.toArray a.tmps) = true ∧ o.wp P a w (fun a' w' => S w' ∧ wpBag P ops S K k (J.erase i) a' w') Never

theorem wp_exits {P : Program} {o : Oper} {a : Act} {w : World} {K : Act → World → Prop} {Q Q' : Exit → Act → World → Prop} (hq : ∀ e a w, e ≠ .normal → Q e a w → Q' e a w) (h : o.wp P a w K Q) : o.wp P a w K Q' := by
  unfold Oper.wp at *
  generalize (execOp a.eval o).run P w = r at *
  cases r with
  | ok k w' =>
    cases k <;> simp only [Oper.upon] at h ⊢ <;> first
      | exact h
      | (refine Calls.mono h (fun e w'' he => ?_); cases e <;> first | exact he | exact hq _ _ _ (by simp) he | (obtain ⟨a1, w1, hx⟩ := he; exact ⟨a1, w1, hq _ _ _ (by simp) hx⟩))
  | halt x w' => cases x <;> simp only [Oper.upon] at h ⊢ <;> first | exact h | exact hq _ _ _ (by simp) h

theorem wpBag_sound {P : Program} {ops : List Oper} {S : World → Prop} {Q : Act → World → Prop} (hs : Region.noSelect ops.toArray = true) (r : List (Nat × Bool)) :
    ∀ (k : Nat) (J : List Nat) (listed : Array Bool) (a : Act) (w : World), bagB ops.toArray r k J listed = true → S w → wpBag P ops S (wpHL P ops S Q r) k J a w → wpAnyH P .any ops.toArray (fun e a w => e = .normal ∧ Q a w) S (r.length + k) listed a w
  | 0, J, listed, a, w, hB, hS, h => by
    simp only [bagB, Bool.and_eq_true] at hB
    exact wpHL_sound hs r _ _ _ hB.2 hS h
  | k + 1, J, listed, a, w, hB, hS, h => by
    simp only [bagB, Bool.and_eq_true, List.all_eq_true, Bool.not_eq_true', List.isEmpty_eq_false_iff] at hB
    obtain ⟨⟨hin, hne⟩, hrec⟩ := hB
    refine wpAnyH_all rfl hne ?_
    intro i hi
    obtain ⟨o, ho, hw, hwp⟩ := h i (by simpa using hin i hi)
    unfold wpOp
    have ho' : ops.toArray[i]? = some o := by simpa using ho
    simp only [ho', hw, if_true]
    refine .inl (Oper.wp_mono (fun a' w' h' => ⟨h'.1, wpBag_sound hs r k (J.erase i) _ _ _ (hrec i hi) h'.1 h'.2⟩) (wp_exits (fun e a w _ hf => hf.elim) hwp))

theorem wpHLBag_sound {P : Program} {ops : List Oper} {S : World → Prop} {Q : Act → World → Prop} (hs : Region.noSelect ops.toArray = true) (J : List Nat) (r : List (Nat × Bool)) :
    ∀ (s : List (Nat × Bool)) (listed : Array Bool) (a : Act) (w : World), ordBagB ops.toArray J r s listed = true → S w → wpHL P ops S (fun a w => S w ∧ wpBag P ops S (wpHL P ops S Q r) J.length J a w) s a w → wpAnyH P .any ops.toArray (fun e a w => e = .normal ∧ Q a w) S (r.length + J.length + s.length) listed a w
  | [], listed, a, w, hB, hS, h => wpBag_sound hs r _ _ _ _ _ hB hS h.2
  | (i, true) :: s, listed, a, w, hB, hS, ⟨o, v, ho, hy, h⟩ => by
    simp only [ordBagB, Bool.and_eq_true] at hB
    exact wpAnyH_take (by simpa using ho) hs hB.1.2 hB.1.1 (fun _ _ _ h => by cases h.1) hy hS (wpHLBag_sound hs J r s _ _ _ hB.2 hS h)
  | (i, false) :: s, listed, a, w, hB, hS, ⟨o, ho, h⟩ => by
    simp only [ordBagB, Bool.and_eq_true, decide_eq_true_eq] at hB
    refine wpAnyH_all hB.1 (by simp) ?_
    intro j hj
    have hji : j = i := by simpa using hj
    subst hji
    have ho' : ops.toArray[j]? = some o := by simpa using ho
    unfold wpOp
    simp only [ho']
    split
    · rename_i hw
      rw [if_pos hw] at h
      exact .inl (Oper.wp_mono (fun a' w' h' => ⟨h'.1, wpHLBag_sound hs J r s _ _ _ hB.2 h'.1 h'.2⟩) (wp_exits (fun e a w hne hf => absurd hf.1 hne) h))
    · rename_i hw
      rw [if_neg hw] at h
      exact ⟨h.1, wpHLBag_sound hs J r s _ _ _ hB.2 h.1 h.2⟩

/-- one of the bag: its number, its slot, and what is so of its value from then on -/
structure BE where
  i : Nat
  d : Nat
  /-- of the value, the new blocks that came with it, and the world -/
  Φ : Value → (Nat → Prop) → World → Prop
/-- where the bag begins -/
def BagQ (P : Program) (ops : List Oper) (S : World → Prop) (Q : Exit → Act → World → Prop) (J : List Nat) (r : List (Nat × Bool)) : Exit → Act → World → Prop :=
  fun e a w => e = .normal ∧ (S w ∧ wpBag P ops S (wpHL P ops S (fun a w => Q .normal a w) r) J.length J a w)
/-- behind one of the bag -/
def AfterB (S : World → Prop) (w : World) (e : BE) : Exit → Act → World → Prop :=
  fun x a w' => x = .normal ∧ a.defers = [] ∧ S w' ∧ Ext w w' ∧ ∃ N, e.Φ (a.tmps.getD e.d undef) N w' ∧ ∀ b, N b → w.heap.size ≤ b ∧ b < w'.heap.size
/-- what one of the bag does, wherever it comes -/
def BC (P : Program) (L : List Oper) (S : World → Prop) (n : Nat) (σ : Sg) (e : BE) : Prop :=
  (∃ o, nthO L e.i = some o ∧ o.dst = some e.d ∧ gd L σ o = some true ∧ ∀ w, S w → WL P L (AfterB S w e) [o] n σ w) ∧ Nat.ble (e.d + 1) n = true ∧ fnd σ e.d = none ∧ ∀ v N w w', e.Φ v N w → Ext w w' → e.Φ v N w'
theorem EX.bagE {S : World → Prop} {w w' : World} {e : BE} {n : Nat} {σ : Sg} {v : Value} (N : Nat → Prop) (hv : fnd σ e.d = some v) (hS : S w') (hE : Ext w w') (hΦ : e.Φ v N w') (hN : ∀ b, N b → w.heap.size ≤ b ∧ b < w'.heap.size) : EX (AfterB S w e) .normal n σ w' := by
  unfold EX
  intro a ha
  exact ⟨rfl, ha.defers, hS, hE, by rw [ha.slot _ _ hv]; exact ⟨N, hΦ, hN⟩⟩
theorem bc_wp {P : Program} {L : List Oper} {S : World → Prop} {n : Nat} {σ : Sg} {e : BE} (h : BC P L S n σ e) {a : Act} {w : World} (ha : Fr n σ a) (hS : S w) :
    ∃ o, L[e.i]? = some o ∧ Region.wanted o (yielded L.toArray a.tmps) = true ∧ o.wp P a w (fun a' w' => S w' ∧ Ext w w' ∧ ∃ v N, a' = a.put (some e.d) v ∧ e.Φ v N w' ∧ ∀ b, N b → w.heap.size ≤ b ∧ b < w'.heap.size) Never := by
  obtain ⟨⟨o, ho, hd, hg, hw⟩, hn, hf, _⟩ := h
  rw [nthO_eq] at ho
  have hwa := gd_wanted ha hg
  refine ⟨o, ho, hwa, ?_⟩
  have h1 := hw w hS
  unfold WL at h1
  have h2 := h1 a ha
  simp only [wpList, hwa, if_true] at h2
  have hlt : e.d < n := Nat.le_of_ble_eq_true hn
  have hget : ∀ v, (a.put (some e.d) v).tmps.getD e.d undef = v := by
    intro v
    simp [Act.put, Array.getD, ha.size, hlt]
  rcases h2 with h2 | ⟨_, hl⟩
  · unfold Oper.wp at *
    obtain ⟨dst, op, ty, pos, af, g⟩ := o
    simp only at hd
    subst hd
    generalize (execOp a.eval _).run P w = r at *
    cases r with
    | ok k w' =>
      cases k <;> simp only [Oper.upon] at h2 ⊢ <;> first
        | exact ⟨h2.2.2.1, h2.2.2.2.1, by have := h2.2.2.2.2; rw [hget] at this; obtain ⟨N, h3, h4⟩ := this; exact ⟨_, N, rfl, h3, h4⟩⟩
        | (exfalso; have := h2.2.1; simp [Act.put] at this; done)
        | (refine Calls.mono h2 (fun x w'' he => ?_)
           cases x
           · exact ⟨he.2.2.1, he.2.2.2.1, by have := he.2.2.2.2; rw [hget] at this; obtain ⟨N, h3, h4⟩ := this; exact ⟨_, N, rfl, h3, h4⟩⟩
           · exact absurd he.1 (by simp)
           · obtain ⟨_, _, hx⟩ := he; exact absurd hx.1 (by simp))
        | exact Rows.mono h2 (fun v w'' he => ⟨he.2.2.1, he.2.2.2.1, by have := he.2.2.2.2; rw [hget] at this; obtain ⟨N, h3, h4⟩ := this; exact ⟨_, N, rfl, h3, h4⟩⟩)
        | exact h2
    | halt x w' => cases x <;> simp only [Oper.upon] at h2 ⊢ <;> first | exact h2 | exact absurd h2.1 (by simp)
  · obtain ⟨_, _, hx⟩ := hl
    exact absurd hx.1 (by simp)

/-- behind the bag: each slot holds a value of which its fact is so; what came with one did not come with another -/
def BagK (w' : World) (G : Sg → Prop) : List (Nat → Prop) → List BE → Sg → Prop
  | _, [], σ => G σ
  | D, e :: r, σ => ∀ v N, e.Φ v N w' → (∀ p ∈ D, ∀ b, p b → N b → False) → BagK w' G (N :: D) r ((e.d, v) :: σ)
theorem BagK.get {w' : World} {G : Sg → Prop} {n : Nat} {a : Act} (NN : Nat → Nat → Prop) : ∀ (E : List BE) {D : List (Nat → Prop)} {σ : Sg}, BagK w' G D E σ → Fr n σ a → (∀ e ∈ E, e.d < n ∧ e.Φ (a.tmps.getD e.d undef) (NN e.i) w') →
    (∀ e ∈ E, ∀ p ∈ D, ∀ b, p b → NN e.i b → False) → (E.map (·.i)).Nodup → (∀ e ∈ E, ∀ f ∈ E, e.i ≠ f.i → ∀ b, NN e.i b → NN f.i b → False) → ∃ τ, Fr n τ a ∧ G τ
  | [], D, σ, h, ha, _, _, _, _ => ⟨σ, ha, h⟩
  | e :: r, D, σ, h, ha, hE, hD, hnd, hP => by
    have he := hE e (by simp)
    rw [List.map_cons, List.nodup_cons] at hnd
    refine BagK.get NN r (h _ _ he.2 (hD e (by simp))) ?_ (fun x hx => hE x (by simp [hx])) ?_ hnd.2 (fun x hx y hy => hP x (by simp [hx]) y (by simp [hy]))
    rotate_left
    · intro x hx p hp b hb hx'
      rcases List.mem_cons.1 hp with rfl | hp
      · exact hP e (by simp) x (by simp [hx]) (fun hi => hnd.1 (by rw [hi]; exact List.mem_map_of_mem hx)) b hb hx'
      · exact hD x (by simp [hx]) p hp b hb hx'
    refine ⟨ha.size, ha.defers, fun t u hu => ?_⟩
    by_cases ht : e.d = t
    · subst ht; rw [fnd_cons_eq] at hu; cases hu; rfl
    · rw [fnd_cons_ne ht] at hu; exact ha.slot _ _ hu
def distB : List Nat → Bool
  | [] => true
  | x :: r => !r.contains x && distB r
theorem distB_nodup : ∀ {l : List Nat}, distB l = true → l.Nodup
  | [], _ => List.nodup_nil
  | x :: r, h => by
    simp only [distB, Bool.and_eq_true, Bool.not_eq_true'] at h
    rw [List.nodup_cons]
    exact ⟨by simpa using h.1, distB_nodup h.2⟩

def updN (NN : Nat → Nat → Prop) (i : Nat) (N : Nat → Prop) : Nat → Nat → Prop := fun j => if j = i then N else NN j
theorem updN_eq {NN : Nat → Nat → Prop} {i : Nat} {N : Nat → Prop} : updN NN i N i = N := if_pos rfl
theorem updN_ne {NN : Nat → Nat → Prop} {i : Nat} {N : Nat → Prop} {j : Nat} (h : j ≠ i) : updN NN i N j = NN j := if_neg h
theorem nodup_inj {β γ : Type} {f : β → γ} : ∀ {l : List β}, (l.map f).Nodup → ∀ x ∈ l, ∀ y ∈ l, f x = f y → x = y
  | [], _, x, hx, _, _, _ => by simp at hx
  | z :: r, h, x, hx, y, hy, e => by
    rw [List.map_cons, List.nodup_cons] at h
    rcases List.mem_cons.1 hx with h1 | h1
    · rcases List.mem_cons.1 hy with h2 | h2
      · rw [h1, h2]
      · exact absurd (show f z ∈ r.map f by rw [← h1, e]; exact List.mem_map_of_mem h2) h.1
    · rcases List.mem_cons.1 hy with h2 | h2
      · exact absurd (show f z ∈ r.map f by rw [← h2, ← e]; exact List.mem_map_of_mem h1) h.1
      · exact nodup_inj h.2 x h1 y h2 e
theorem wpBag_of {P : Program} {L : List Oper} {S : World → Prop} {n : Nat} {σ : Sg} {E : List BE} (hC : ∀ e ∈ E, BC P L S n σ e) (hd : (E.map (·.d)).Nodup) (hi : (E.map (·.i)).Nodup) {w0 : World} {K : Act → World → Prop}
    (hK : ∀ a w (NN : Nat → Nat → Prop), Fr n σ a → S w → Ext w0 w → (∀ e ∈ E, e.Φ (a.tmps.getD e.d undef) (NN e.i) w) → (∀ e ∈ E, ∀ f ∈ E, e.i ≠ f.i → ∀ b, NN e.i b → NN f.i b → False) → K a w) :
    ∀ (k : Nat) (J : List Nat) (a : Act) (w : World) (NN : Nat → Nat → Prop), J.length = k → J.Nodup → (∀ i ∈ J, i ∈ E.map (·.i)) → Fr n σ a → S w → Ext w0 w → (∀ e ∈ E, e.i ∉ J → e.Φ (a.tmps.getD e.d undef) (NN e.i) w ∧ ∀ b, NN e.i b → b < w.heap.size) →
      (∀ e ∈ E, ∀ f ∈ E, e.i ∉ J → f.i ∉ J → e.i ≠ f.i → ∀ b, NN e.i b → NN f.i b → False) → wpBag P L S K k J a w
  | 0, J, a, w, NN, hl, _, _, ha, hS, hE, hD, hP => hK a w NN ha hS hE (fun e he => (hD e he (by rw [List.eq_nil_of_length_eq_zero hl]; simp)).1) (fun e he f hf => hP e he f hf (by rw [List.eq_nil_of_length_eq_zero hl]; simp) (by rw [List.eq_nil_of_length_eq_zero hl]; simp))
  | k + 1, J, a, w, NN, hl, hnd, hsub, ha, hS, hE, hD, hP => by
    intro i hiJ
    obtain ⟨e, he, rfl⟩ := List.mem_map.1 (hsub i hiJ)
    obtain ⟨o, ho, hw, hwp⟩ := bc_wp (hC e he) ha hS
    refine ⟨o, ho, hw, Oper.wp_mono (fun a' w' h' => ?_) hwp⟩
    obtain ⟨hS', hE', v, N, rfl, hΦ, hN⟩ := h'
    have hn : e.d < n := Nat.le_of_ble_eq_true (hC e he).2.1
    have hf := (hC e he).2.2.1
    have hget : (a.put (some e.d) v).tmps.getD e.d undef = v := by simp [Act.put, Array.getD, ha.size, hn]
    have hoth : ∀ t, t ≠ e.d → (a.put (some e.d) v).tmps.getD t undef = a.tmps.getD t undef := by
      intro t ht
      simp only [Act.put, Array.getD_eq_getD_getElem?]
      rw [Array.getElem?_setIfInBounds_ne (Ne.symm ht)]
    have nne : updN NN e.i N e.i = N := updN_eq
    have nno : ∀ j, j ≠ e.i → updN NN e.i N j = NN j := fun j hj => updN_ne hj
    refine ⟨hS', wpBag_of hC hd hi hK k (J.erase e.i) _ _ (updN NN e.i N) (by rw [List.length_erase_of_mem hiJ, hl]; rfl) (hnd.erase _) (fun j hj => hsub j (List.mem_of_mem_erase hj)) ?_ hS' (hE.trans hE') ?_ ?_⟩
    · refine ⟨by simpa [Act.put] using ha.size, by simpa [Act.put] using ha.defers, fun t u hu => ?_⟩
      have : t ≠ e.d := fun h => by rw [h, hf] at hu; cases hu
      rw [hoth t this]; exact ha.slot t u hu
    · intro x hx hxJ
      by_cases hxe : x.d = e.d
      · have hxe' : x = e := nodup_inj hd x hx e he hxe
        subst hxe'
        rw [hget, nne]; exact ⟨hΦ, fun b hb => (hN b hb).2⟩
      · rw [hoth _ hxe]
        have hne : x.i ≠ e.i := fun hh => hxe (by rw [nodup_inj hi x hx e he hh])
        have h0 := hD x hx (fun hxJ' => hxJ ((List.mem_erase_of_ne hne).2 hxJ'))
        rw [nno _ hne]
        exact ⟨(hC x hx).2.2.2 _ _ _ _ h0.1 hE', fun b hb => Nat.lt_of_lt_of_le (h0.2 b hb) hE'.size⟩
    · intro x hx y hy hxJ hyJ hxy b hbx hby
      by_cases hxe : x.i = e.i
      · rw [hxe, nne] at hbx
        have hye : y.i ≠ e.i := fun h => hxy (by rw [hxe, h])
        rw [nno _ hye] at hby
        have h1 := (hD y hy (fun h => hyJ ((List.mem_erase_of_ne hye).2 h))).2 b hby
        have h2 := (hN b hbx).1
        omega
      · rw [nno _ hxe] at hbx
        have hxJ' : x.i ∉ J := fun h => hxJ ((List.mem_erase_of_ne hxe).2 h)
        by_cases hye : y.i = e.i
        · rw [hye, nne] at hby
          have h1 := (hD x hx hxJ').2 b hbx
          have h2 := (hN b hby).1
          omega
        · rw [nno _ hye] at hby
          exact hP x hx y hy hxJ' (fun h => hyJ ((List.mem_erase_of_ne hye).2 h)) hxy b hbx hby

section
variable {P : Program} {Q : Exit → Act → World → Prop} {n : Nat} {σ : Sg} {w : World} {L : List Oper} {S : World → Prop}
theorem CW.drawB {id : Nat} (S : World → Prop) (s : List (Nat × Bool)) (J : List Nat) (r : List (Nat × Bool)) (hm : P.follows .mixedOrders = true) (hB : bagOk L s J r = true) (hS : S (drew w)) (h : HL P L S (BagQ P L S Q J r) s n σ (drew w)) : CW P (.region id L.toArray true) Q n σ w := by
  unfold CW; unfold HL at h; intro a ha
  simp only [bagOk, Bool.and_eq_true, decide_eq_true_eq] at hB
  obtain ⟨⟨hs, hl⟩, hB⟩ := hB
  have h0 := h a ha
  have h0' : wpHL P L S (fun a w => S w ∧ wpBag P L S (wpHL P L S (fun a w => Q .normal a w) r) J.length J a w) s a (Go.Proofs.Ytllpfgcngokhnaa.drew w) := by
    have : (fun a w => BagQ P L S Q J r .normal a w) = (fun a w => S w ∧ wpBag P L S (wpHL P L S (fun a w => Q .normal a w) r) J.length J a w) := by funext a w; simp [BagQ]
    rw [← this]; exact h0
  have h1 := wpHLBag_sound hs J r s (Array.replicate L.length false) a (Go.Proofs.Ytllpfgcngokhnaa.drew w) hB hS h0'
  rw [show r.length + J.length + s.length = L.length by omega] at h1
  have h2 := wp_region_held (id := id) (S := S) hm (w := w) (ops := L.toArray) (by simpa using h1)
  exact wp_mono h2 (fun e a' w' ⟨he, hq⟩ => by subst he; exact hq)
/-- the bag -/
theorem EX.bag {J : List Nat} {r : List (Nat × Bool)} (E : List BE) (hJ : E.map (·.i) = J) (hdi : distB (E.map (·.i)) = true) (hdd : distB (E.map (·.d)) = true) (hS : S w) (hC : ∀ e ∈ E, BC P L S n σ e)
    (hK : ∀ w', S w' → Ext w w' → BagK w' (fun τ => HL P L S Q r n τ w') [] E σ) : EX (BagQ P L S Q J r) .normal n σ w := by
  unfold EX
  intro a ha
  subst hJ
  refine ⟨rfl, hS, ?_⟩
  refine wpBag_of hC (distB_nodup hdd) (distB_nodup hdi) (w0 := w) (fun a w' NN ha hS' hE hΦ hP => ?_) _ _ a w (fun _ _ => False) rfl (distB_nodup hdi) (fun i hi => hi) ha hS (Ext.refl _) (fun e he hn => absurd (List.mem_map_of_mem he) hn) (fun e he f hf hn => absurd (List.mem_map_of_mem he) hn)
  obtain ⟨τ, hτ, hG⟩ := BagK.get NN E (hK w' hS' hE) ha (fun e he => ⟨Nat.le_of_ble_eq_true (hC e he).2.1, hΦ e he⟩) (fun _ _ p hp => by simp at hp) (distB_nodup hdi) hP
  unfold HL at hG
  exact hG a hτ
end
end Go.Proofs.Ytllpfgcngokhnaa

