/-
  WorldFair: walked.
-/
import Derived.Test.YthefpigolikmeaaWFair
import Derived.Test.YthefpigolikmeaaWTurn
import Derived.Test.YthefpigolikmeaaLibB
set_option linter.unusedVariables false
set_option linter.unusedSimpArgs false
namespace Go.Proofs.Ythefpigolikmeaa
open Go.RowKit

theorem repT {n k : Nat} (h : k < n) : (List.replicate n true).getD k false = true := by
  rw [List.getD_eq_getElem?_getD, List.getElem?_replicate, if_pos h]; rfl
noncomputable abbrev allB (nx fr : Graph) : List Bool := withinB nx (List.replicate nx.length true) fr
theorem all_edge {nx : Graph} (hok : okG nx) {u v : Nat} : Eg (inG nx (List.replicate nx.length true)) u v ↔ Eg nx u v := by
  rw [inG_edge]
  exact ⟨fun h => h.1, fun h => ⟨h, repT h.lt1, repT (h.lt hok)⟩⟩
theorem allB_iff {nx fr : Graph} (hok : okG nx) {n : Nat} (h : n < nx.length) : (allB nx fr).getD n false = true ↔ ∃ r, r 0 = n ∧ Way8 (Eg nx) (setPs fr) r := by
  rw [withinB_iff h, show Eg (inG nx (List.replicate nx.length true)) = Eg nx from funext fun u => funext fun v => propext (all_edge hok)]
/-- a fair way goes on: and one may go ahead of it -/
theorem fair_step {nx fr : Graph} (hok : okG nx) {n : Nat} (h : n < nx.length) : (allB nx fr).getD n false = (nx.getD n []).any fun x => (allB nx fr).getD x.toNat false := by
  rw [Bool.eq_iff_iff, allB_iff hok h, List.any_eq_true]
  constructor
  · rintro ⟨r, h0, h1, h2⟩
    have he := h1 0
    rw [h0] at he
    refine ⟨(r 1 : Int), he, ?_⟩
    rw [Int.toNat_natCast, allB_iff hok (Eg.lt hok he)]
    exact ⟨fun i => r (i + 1), rfl, fun i => h1 (i + 1), fun P hP i => by
      obtain ⟨j, hj, hp⟩ := h2 P hP (i + 1)
      exact ⟨j - 1, by omega, by show P (r (j - 1 + 1)); rw [show j - 1 + 1 = j by omega]; exact hp⟩⟩
  · rintro ⟨x, hx, hb⟩
    have hx0 := okG_row hok n x hx
    rw [allB_iff hok (by omega)] at hb
    obtain ⟨r, h0, h1, h2⟩ := hb
    refine ⟨fun i => match i with | 0 => n | i + 1 => r i, rfl, fun i => ?_, fun P hP i => ?_⟩
    · cases i with
      | zero => show Eg nx n (r 0); rw [h0]; show ((x.toNat : Nat) : Int) ∈ _; rw [show ((x.toNat : Nat) : Int) = x by omega]; exact hx
      | succ i => exact h1 i
    · obtain ⟨j, hj, hp⟩ := h2 P hP i
      exact ⟨j + 1, by omega, hp⟩
/-- without sets one may go on for ever from everywhere -/
theorem fair_all {nx : Graph} (hok : okG nx) (hne : ∀ r ∈ nx, 0 < r.length) : allB nx [] = List.replicate nx.length true := by
  have hs : ∀ u, ∃ v, u < nx.length → Eg nx u v := fun u => by
    by_cases h : u < nx.length
    · have h1 := hne _ (List.getElem_mem h)
      have h2 := hok _ (List.getElem_mem h) _ (List.getElem_mem h1)
      refine ⟨(nx[u][0]).toNat, fun _ => ?_⟩
      show (((nx[u][0]).toNat : Nat) : Int) ∈ nx.getD u []
      rw [show (((nx[u][0]).toNat : Nat) : Int) = nx[u][0] by omega, wgetDG h]
      exact List.getElem_mem h1
    · exact ⟨0, fun h' => absurd h' h⟩
  let f := fun u => Classical.choose (hs u)
  have hf : ∀ u, u < nx.length → Eg nx u (f u) := fun u => Classical.choose_spec (hs u)
  refine List.ext_getElem (by simp [withinB]) fun n h1 h2 => ?_
  have hn : n < nx.length := by simpa using h2
  rw [List.getElem_replicate, ← wgetB h1, allB_iff hok hn]
  let r := fun i => Nat.rec (motive := fun _ => Nat) n (fun _ u => f u) i
  have hr : ∀ i, r i < nx.length := by
    intro i
    induction i with
    | zero => exact hn
    | succ i ih => exact (hf _ ih).lt hok
  exact ⟨r, rfl, fun i => hf _ (hr i), fun P hP => by cases hP⟩
def fairE (nx fr : Graph) (k : Nat) (st : List Int) : Int := chkWd st nx k fr
theorem Fair_ok (w0 : World) {a1 a2 a3 a4 : Option Addr} {c1 c2 c3 c4 k : Nat} {st : List Int} {nx fr : Graph} (h1 : Sl w0 (Old w0) a1 c1 st) (h2 : Sl w0 (Old w0) a2 c2 nx) (hk : k ≤ 9223372036854775807) (h4 : Sl w0 (Old w0) a4 c4 fr) (hT : edges nx ≤ 8589934592) :
    Rt Try.prog 39 [worldV a1 c1 a2 c2 a3 c3 a4 c4 st.length nx.length k fr.length].toArray w0 fun v w' => ∃ x, v = .tuple ⟨[x, .int .i64 (chkWd st nx k fr)]⟩ ∧ Own w' w0.heap.size 4 Non x (if chkWd st nx k fr = 0 then allB nx fr else []) ∧ Ext w0 w' := by
  have hm2 := h2.len63
  refine Rt.enter1 Try.func39 Try.ntmps39 rfl rfl ?_
  have hE := Ext.refl w0
  (repeat (first | (apply CW.seq) | (apply CW.region)))
  refine WL.boxB rfl rfl rfl fun w1 hb1 e1 => ?_
  have hE := hE.trans e1
  (repeat (first | (apply WL.pure; rfl; rfl; rfl) | (apply WL.nil) | (apply EX.thenN) | (apply CW.seq) | (apply CW.region) | (apply WL.ldA; rfl; rfl; rfl; assumption; rfl)))
  refine WL.call rfl rfl rfl (wCheck_ok w1 (h1.up hE) (h2.up hE) hk (h4.up hE)) ?_
  rintro _ w2 ⟨rfl, e2⟩
  have hb1 := hb1.ext e2
  have hE := hE.trans e2
  (repeat (first | (apply WL.pure; rfl; rfl; rfl) | (apply WL.nil) | (apply EX.thenN) | (apply CW.seq) | (apply CW.region)))
  refine CW.cond rfl (fun h => ?_) (fun h => ?_)
  · have h : chkWd st nx k fr ≠ 0 := by simpa using h
    (repeat (first | (apply WL.pure; rfl; rfl; rfl) | (apply WL.nil) | (apply EX.thenN) | (apply CW.seq) | (apply CW.region) | (apply CW.ret) | (apply EX.thenR)))
    exact EX.ret2 rfl rfl rfl ⟨_, rfl, by rw [if_neg h]; exact Own.nil, hE⟩
  have h : chkWd st nx k fr = 0 := by simpa using h
  obtain ⟨hn600, hf80, hkn, hokst, hoknx, hokfr⟩ := chkWd_ok h
  have hok : okG nx := fun r hr => (hoknx r hr).2
  rw [if_pos h, h]
  (repeat (first | (apply EX.thenN) | (apply CW.seq) | (apply CW.region) | (apply WL.lenS; rfl; rfl; rfl) | (apply WL.fa; rfl; rfl; rfl) | (apply WL.ld; rfl; rfl; rfl; assumption; rfl) | (apply CW.skip)))
  refine WL.make (α := Bool) rfl rfl rfl rfl (by omega) (by unfold maxLen; omega) (fun w3 ho3 hg3 => ?_)
  have e3 : Ext w2 w3 := (Below.refl _ _).grown hg3 (Nat.le_refl _) (fun k h => by cases h)
  generalize hsv : Value.slice (some ⟨w2.heap.size, 0, none⟩) nx.length nx.length = sv at *
  have hlv : ∃ ao cap, sv = .slice ao nx.length cap := ⟨_, _, hsv.symm⟩
  (repeat (first | (apply WL.pure; rfl; rfl; rfl) | (apply WL.nil) | (apply EX.thenN) | (apply CW.seq) | (apply CW.region) | (apply CW.block) | (refine WL.lenO rfl rfl rfl (by assumption) ?_)))
  rw [List.length_replicate]
  refine CW.loop (S := Nat × List Bool) (fun s => [(1, .pointer (some ⟨w0.heap.size, 0, none⟩)), (5, sv), (17, .int .i64 nx.length), (18, .int .i64 s.1)])
    (fun s w => s.1 ≤ nx.length ∧ Own w w2.heap.size 4 Non sv s.2 ∧ s.2.length = nx.length ∧ (∀ c, c < s.1 → s.2.getD c false = true) ∧ Ext w2 w) (fun s => nx.length - s.1) (0, List.replicate nx.length false) (by repeat (first | exact trivial | refine ⟨rfl, ?_⟩)) ⟨Nat.zero_le _, ho3, by simp, fun c hc => absurd hc (by dsimp only; omega), e3⟩ ?_
  rintro ⟨i, inn⟩ w4 ⟨hi, ho, hil, hin, e4⟩
  dsimp only at hi ho hil hin ⊢
  have hE4 := hE.trans e4
  have hb4 := hb1.ext e4
  (repeat (first | (apply WL.pure; rfl; rfl; rfl) | (apply WL.nil) | (apply EX.thenN) | (apply CW.seq) | (apply CW.region)))
  refine CW.cond rfl (fun h => ?_) (fun h => ?_)
  · have hi' : i < nx.length := by simp at h; omega
    (repeat (first | (apply WL.pure; rfl; rfl; rfl) | (apply WL.nil) | (apply EX.thenN) | (apply CW.seq) | (apply CW.region) | (apply CW.block) | (apply CW.skip)))
    refine WL.setN (u := .bool true) (yv := true) rfl rfl rfl rfl ho (show i < inn.length by omega) (fun _ => rfl) (fun _ => rfl) (Rd.mkBool _ _ _) (fun w5 q2 ho5 hg5 => ?_)
    have e5 : Ext w2 w5 := e4.grown hg5 e4.size (fun b hb => (ho.lt b hb).1)
    (repeat (first | (apply WL.add; rfl; rfl; rfl; rfl; omega; omega) | (apply WL.pure; rfl; rfl; rfl) | (apply WL.nil) | (apply EX.thenN) | (apply CW.region) | (apply EX.inN)))
    refine EX.back (i + 1, inn.set i true) (by repeat (first | exact trivial | refine ⟨rfl, ?_⟩)) ⟨hi', ho5, by simpa using hil, fun c hc => ?_, e5⟩ (by dsimp only; omega)
    dsimp only at hc ⊢
    rw [getD_set (by omega)]
    by_cases e : i = c
    · rw [if_pos e]
    · rw [if_neg e]; exact hin c (by omega)
  obtain rfl : i = nx.length := by simp at h; omega
  have hrep : inn = List.replicate nx.length true := by
    refine List.ext_getElem (by simpa using hil) fun c h1 h2 => ?_
    rw [← wgetB h1, List.getElem_replicate]
    exact hin c (by omega)
  subst hrep
  obtain ⟨io, ic, hiv, his⟩ := ho.oldN.sl
  subst hiv
  (repeat (first | (apply WL.pure; rfl; rfl; rfl) | (apply EX.thenN) | (apply CW.seq) | (apply CW.region) | (apply WL.ldA; rfl; rfl; rfl; assumption; rfl) | (apply CW.exit) | (apply EX.thenX) | (apply EX.inX)))
  refine WL.call rfl rfl rfl (Within_ok w4 (h2.up hE4) (h4.up hE4) his hok hokfr (by simp) hn600 hT) ?_
  rintro v w5 ⟨hov, e5⟩
  (repeat (first | (apply WL.pure; rfl; rfl; rfl) | (apply WL.nil) | (apply EX.thenN) | (apply CW.ret)))
  exact EX.ret2 rfl rfl rfl ⟨_, rfl, hov.low hE4.size, hE4.trans e5⟩
theorem turns_fair : allB [[1, 0], [0, 1]] [[0], [1]] = [true, true] := by
  have hok : okG [[1, 0], [0, 1]] := (chkG_ok (by decide : chkG [[1, 0], [0, 1]] = 0)).1
  refine List.ext_getElem (by simp [withinB]) fun n h1 h2 => ?_
  have hn : n < 2 := by simpa using h2
  have e : ([true, true] : List Bool)[n] = true := by
    rcases (show n = 0 ∨ n = 1 by omega) with rfl | rfl <;> rfl
  rw [e, ← wgetB h1, allB_iff hok hn]
  refine ⟨fun i => (n + i) % 2, by show (n + 0) % 2 = n; omega, fun i => ?_, fun P hP i => ?_⟩
  · show (((n + (i + 1)) % 2 : Nat) : Int) ∈ ([[1, 0], [0, 1]] : Graph).getD ((n + i) % 2) []
    rcases Nat.mod_two_eq_zero_or_one (n + i) with h1 | h1
    · rw [h1, show (n + (i + 1)) % 2 = 1 by omega]; decide
    · rw [h1, show (n + (i + 1)) % 2 = 0 by omega]; decide
  · obtain ⟨F, hF, rfl⟩ := List.mem_map.1 hP
    have hF : F = [0] ∨ F = [1] := by simpa using hF
    rcases hF with rfl | rfl
    · refine ⟨2 * i + n, by omega, ?_⟩
      show (((n + (2 * i + n)) % 2 : Nat) : Int) ∈ [(0 : Int)]
      rw [show (n + (2 * i + n)) % 2 = 0 by omega]; decide
    · refine ⟨2 * i + n + 1, by omega, ?_⟩
      show (((n + (2 * i + n + 1)) % 2 : Nat) : Int) ∈ [(1 : Int)]
      rw [show (n + (2 * i + n + 1)) % 2 = 1 by omega]; decide
theorem wf1 (w : World) (b : Nat) {io : Option Addr} {ic x : Nat} {l : List Bool} (hb : Blk w b 68 [.slice io l.length ic]) (hl : Sl w (Old w) io ic l) (hx : x < l.length) :
    Rt Try.prog 43 [.int .i64 (x : Int), .pointer (some ⟨b, 0, none⟩)].toArray w fun v w' => v = .bool (l.getD x false) ∧ Ext w w' := by
  refine Rt.enter2 Try.func43 Try.ntmps43 rfl rfl ?_
  (repeat (first | (apply WL.pure; rfl; rfl; rfl) | (apply WL.nil) | (apply EX.thenN) | (apply CW.seq) | (apply CW.region) | (apply WL.ld; rfl; rfl; rfl; assumption; rfl)))
  refine WL.elemB rfl rfl rfl rfl rfl hl hx (wgetB hx).symm (fun _ => rfl) (fun q => ?_)
  (repeat (first | (apply WL.pure; rfl; rfl; rfl) | (apply WL.nil) | (apply EX.thenN) | (apply CW.ret)))
  exact EX.ret1 rfl rfl ⟨rfl, Ext.refl _⟩
set_option maxRecDepth 100000 in
theorem WorldFair_ok (w0 : World) {a1 a2 a3 a4 : Option Addr} {c1 c2 c3 c4 : Nat} {st : List Int} {nx fr : Graph} {lb : List Nat} (h1 : Sl w0 (Old w0) a1 c1 st) (h2 : Sl w0 (Old w0) a2 c2 nx) (h3 : Sl w0 (Old w0) a3 c3 lb) (h4 : Sl w0 (Old w0) a4 c4 fr) (hT : edges nx ≤ 8589934592) :
    Rt Try.prog 6 [worldV a1 c1 a2 c2 a3 c3 a4 c4 st.length nx.length lb.length fr.length].toArray w0 fun v w' => v = .bool true ∧ Ext w0 w' := by
  have hm2 := h2.len63
  have hm3 := h3.len63
  refine Rt.enter1 Try.func6 Try.ntmps6 rfl rfl ?_
  have hE := Ext.refl w0
  (repeat (first | (apply CW.seq) | (apply CW.region)))
  refine WL.boxB rfl rfl rfl fun w1 hb1 e1 => ?_
  have hE := hE.trans e1
  have z1 := hb1.lt
  (repeat (first | (apply WL.pure; rfl; rfl; rfl) | (apply WL.nil) | (apply EX.thenN) | (apply CW.seq) | (apply CW.region)))
  refine WL.call rfl rfl rfl (wturns_ok w1) ?_
  rintro _ w2 ⟨⟨b1, d1, b2, d2, b3, d3, b4, d4, rfl, g1, g2, g4⟩, e2⟩
  have hb1 := hb1.ext e2
  have hE := hE.trans e2
  skip
  refine WL.call rfl rfl rfl (Fair_ok w2 (st := [0]) (nx := [[1, 0], [0, 1]]) (fr := [[0], [1]]) (k := 2) g1 g2 (by omega) g4 (by simp [edges])) ?_
  rintro _ w3 ⟨x, rfl, hox, e3⟩
  have hb1 := hb1.ext e3
  have hE := hE.trans e3
  have hc0 : chkWd [(0 : Int)] [[(1 : Int), 0], [0, 1]] 2 [[(0 : Int)], [1]] = 0 := by decide
  rw [if_pos hc0, turns_fair] at hox
  rw [hc0]
  obtain ⟨xo, xc, rfl, hxs⟩ := hox.oldN.sl
  (repeat (first | (apply WL.pure; rfl; rfl; rfl) | (apply WL.nil) | (apply EX.thenN) | (apply CW.seq) | (apply CW.region)))
  refine WL.litR [true, true] rfl rfl rfl rfl rfl (.cons (Rd.mkBool _ _ _) (.cons (Rd.mkBool _ _ _) .nil)) (by decide) (fun v4 w4 e4 r4 _ => ?_)
  have hb1 := hb1.ext e4
  have hE := hE.trans e4
  obtain ⟨yo, yc, rfl, hys⟩ := r4.sl
  skip
  refine WL.call rfl rfl rfl (equal_bool w4 (xs := [true, true]) (ys := [true, true]) (hxs.up e4) hys) ?_
  rintro _ w5 ⟨rfl, e5⟩
  have hb1 := hb1.ext e5
  have hE := hE.trans e5
  rw [show (([true, true] : List Bool) == [true, true]) = true by decide]
  clear e1 e2 e3 e4 e5 hxs hys r4 hox g1 g2 g4
  have z5 := hE.size
  (repeat (first | (apply WL.pure; rfl; rfl; rfl) | (apply WL.nil) | (apply EX.thenN) | (apply CW.seq) | (apply CW.region) | (apply WL.ldA; rfl; rfl; rfl; assumption; rfl) | (apply CW.condF; rfl) | (apply CW.skip)))
  refine WL.call rfl rfl rfl (Fair_ok w5 (h1.up hE) (h2.up hE) hm3 (h4.up hE) hT) ?_
  rintro _ w6 ⟨x, rfl, hox, e6⟩
  have hb1 := hb1.ext e6
  have hE := hE.trans e6
  obtain ⟨xo, xc, rfl, hxs⟩ := hox.oldN.sl
  (repeat (apply WL.pure; rfl; rfl; rfl))
  refine WL.alloc rfl rfl (fun w7 hb5 e7 => ?_)
  have z7 := hb5.lt
  skip
  refine WL.st rfl rfl rfl hb5 rfl rfl (ones_of rfl) (fun w8 hb5 hg8 => ?_)
  have e8 : Ext w6 w8 := e7.grown hg8 e7.size (fun g hg => by cases hg; exact Nat.le_refl _)
  have hb1 := hb1.ext e8
  have hE := hE.trans e8
  have hxs := hxs.up e8
  (repeat (first | (apply WL.pure; rfl; rfl; rfl) | (apply WL.nil) | (apply EX.thenN) | (apply CW.seq) | (apply CW.region)))
  refine CW.cond rfl (fun h => ?_) (fun h => ?_)
  · have h : chkWd st nx lb.length fr ≠ 0 := by simpa using h
    rw [if_neg h] at hb5 hxs ⊢
    (repeat (first | (apply WL.pure; rfl; rfl; rfl) | (apply CW.seq) | (apply CW.region) | (apply WL.ldA; rfl; rfl; rfl; assumption; rfl)))
    refine WL.call rfl rfl rfl (wCheck_ok w8 (h1.up hE) (h2.up hE) hm3 (h4.up hE)) ?_
    rintro _ w9 ⟨rfl, e9⟩
    have hb5 := hb5.ext e9
    have : (chkWd st nx lb.length fr == chkWd st nx lb.length fr) = true := by simp
    (repeat (apply WL.pure; rfl; rfl; rfl))
    rw [this]
    (repeat (first | (apply WL.pure; rfl; rfl; rfl) | (apply WL.nil) | (apply EX.thenN) | (apply WL.lenS; rfl; rfl; rfl) | (apply WL.ld; rfl; rfl; rfl; assumption; rfl) | (apply CW.ret) | (apply EX.thenR)))
    exact EX.ret1 rfl rfl ⟨rfl, hE.trans e9⟩
  have h : chkWd st nx lb.length fr = 0 := by simpa using h
  rw [if_pos h] at hb5 hxs ⊢
  obtain ⟨hn600, hf80, hkn, hokst, hoknx, hokfr⟩ := chkWd_ok h
  have hok : okG nx := fun r hr => (hoknx r hr).2
  have hall : (allB nx fr).length = nx.length := withinB_len
  clear hox
  (repeat (first | (apply WL.pure; rfl; rfl; rfl) | (apply WL.nil) | (apply EX.thenN) | (apply CW.seq) | (apply CW.region) | (apply WL.lenS; rfl; rfl; rfl) | (apply WL.fa; rfl; rfl; rfl) | (apply WL.ld; rfl; rfl; rfl; assumption; rfl) | (apply CW.block) | (apply CW.skip)))
  refine CW.loop (S := Nat) (fun i => [(1, .pointer (some ⟨w0.heap.size, 0, none⟩)), (5, .pointer (some ⟨w6.heap.size, 0, none⟩)), (41, .slice a2 nx.length c2), (42, .int .i64 nx.length), (43, .int .i64 i)])
    (fun i w => i ≤ nx.length ∧ Ext w8 w) (fun i => nx.length - i) 0 (by repeat (first | exact trivial | refine ⟨rfl, ?_⟩)) ⟨by omega, Ext.refl _⟩ ?_
  rintro i w9 ⟨hi, e9⟩
  have hb1 := hb1.ext e9
  have hb5 := hb5.ext e9
  have hE9 := hE.trans e9
  have hxs9 := hxs.up e9
  (repeat (first | (apply WL.pure; rfl; rfl; rfl) | (apply WL.nil) | (apply EX.thenN) | (apply CW.seq) | (apply CW.region)))
  refine CW.cond rfl (fun h => ?_) (fun h => ?_)
  · have hi' : i < nx.length := by simp at h; omega
    have hia : i < (allB nx fr).length := by omega
    have hst := fair_step (fr := fr) hok hi'
    rw [wgetDG hi'] at hst
    (repeat (first | (apply WL.pure; rfl; rfl; rfl) | (apply EX.thenN) | (apply CW.seq) | (apply CW.region) | (apply CW.block) | (apply CW.skip)))
    refine WL.elemN rfl rfl rfl rfl rfl (h2.at hE9) hi' (fun _ => rfl) (fun u q hu => ?_)
    obtain ⟨ro, rc, rfl, hrow⟩ := hu.sl
    (repeat (first | (apply WL.pure; rfl; rfl; rfl) | (apply QL.pure; rfl; rfl; rfl) | (apply WL.nil) | (apply EX.thenN) | (apply CW.seq) | (apply QL.ld; rfl; rfl; rfl; assumption; rfl) | (apply CW.draw; exact mixed; kernel_rfl)))
    refine QL.elemB rfl rfl rfl rfl rfl (fun _ h => h) hxs9 hia (wgetB hia).symm (fun _ => rfl) (fun q => ?_)
    (repeat (first | (apply QL.pure; rfl; rfl; rfl) | (apply QL.makeFunc; rfl; rfl; rfl; rfl)))
    refine QL.call rfl rfl rfl (fun w hw => containsFunc_int w (fun x => (allB nx fr).getD x.toNat false) (hrow.mono (fun b hb => ((hE9.trans hw).block b hb).trans (hE9.block b hb).symm) (fun b hb => Nat.lt_of_lt_of_le hb (hE9.trans hw).size)) (fun w5 hw5 j hj => ?_)) ?_
    · have hto := hok _ (List.getElem_mem hi') _ (List.getElem_mem hj)
      obtain ⟨to, eto⟩ := Int.eq_ofNat_of_zero_le hto.1
      rw [eto, Int.toNat_natCast]
      exact FnV.mk (cs := [_]) (wf1 w5 _ (hb5.ext (hw.trans hw5)) (hxs9.up (hw.trans hw5)) (by omega))
    rw [← hst]
    (repeat (apply QL.neB; rfl; rfl; rfl; rfl))
    refine QL.nil (fun w10 e10 => ?_)
    (repeat (apply EX.thenN))
    refine CW.cond rfl (fun h2 => ?_) (fun h2 => ?_)
    · exfalso; revert h2; cases (allB nx fr).getD i false <;> decide
    · (repeat (first | (apply WL.add; rfl; rfl; rfl; rfl; omega; omega) | (apply WL.pure; rfl; rfl; rfl) | (apply WL.nil) | (apply EX.thenN) | (apply CW.region) | (apply EX.inN) | (apply CW.skip)))
      exact EX.back (i + 1) (by repeat (first | exact trivial | refine ⟨rfl, ?_⟩)) ⟨hi', e9.trans e10⟩ (by omega)
  have z9 := hE9.size
  have z8 := e8.size
  (repeat (first | (apply EX.thenN) | (apply CW.seq) | (apply CW.region) | (apply WL.ldA; rfl; rfl; rfl; assumption; rfl) | (apply CW.exit) | (apply EX.thenX) | (apply EX.inX)))
  refine WL.alloc rfl rfl (fun w10 hb9 e10 => ?_)
  have y9 := hb9.lt
  skip
  refine WL.st rfl rfl rfl hb9 rfl rfl (ones_of rfl) (fun w11 hb9 hg11 => ?_)
  have e11 : Ext w9 w11 := e10.grown hg11 e10.size (fun g hg => by cases hg; exact Nat.le_refl _)
  have hE11 := hE9.trans e11
  (repeat (first | (apply WL.nil) | (apply EX.thenN) | (apply CW.seq) | (apply CW.region) | (apply WL.fa; rfl; rfl; rfl)))
  refine WL.st rfl rfl rfl hb9 rfl rfl (ones_of rfl) (fun w12 hb9 hg12 => ?_)
  have hE12 : Ext w0 w12 := hE11.grown hg12 hE11.size (fun g hg => by cases hg; omega)
  (repeat (first | (apply WL.nil) | (apply EX.thenN) | (apply CW.seq) | (apply CW.region) | (apply WL.ldA; rfl; rfl; rfl; assumption; rfl)))
  refine WL.call rfl rfl rfl (Fair_ok w12 (fr := []) (h1.up hE12) (h2.up hE12) hm3 (Sl.zero _ _) hT) ?_
  rintro _ w13 ⟨y, rfl, hoy, e13⟩
  have hc2 : chkWd st nx lb.length [] = 0 := by
    unfold chkWd
    rw [if_neg (by simp; omega), if_neg (by rw [oddB_false.2 hokst]; simp; omega), if_neg, if_neg (by simp)]
    intro hany
    obtain ⟨r, hr, hb⟩ := List.any_eq_true.1 hany
    unfold chkN at hb
    have := hoknx r hr
    rw [oddB_false.2 this.2, Bool.or_false, decide_eq_true_eq] at hb
    omega
  rw [if_pos hc2, fair_all hok (fun r hr => (hoknx r hr).1)] at hoy
  rw [hc2]
  obtain ⟨yo, yc, rfl, hys⟩ := hoy.oldN.sl
  (repeat (first | (apply WL.pure; rfl; rfl; rfl) | (apply WL.nil) | (apply EX.thenN) | (apply CW.seq) | (apply CW.region)))
  refine WL.call rfl rfl rfl (contains_bool w13 false hys) ?_
  rintro _ w14 ⟨rfl, e14⟩
  rw [show (List.replicate nx.length true).contains false = false by
    rw [Bool.eq_false_iff]; intro hc; rw [List.contains_iff_mem] at hc; simp at hc]
  (repeat (first | (apply WL.pure; rfl; rfl; rfl) | (apply WL.nil) | (apply EX.thenN) | (apply CW.ret)))
  exact EX.ret1 rfl rfl ⟨rfl, (hE12.trans e13).trans e14⟩
end Go.Proofs.Ythefpigolikmeaa
