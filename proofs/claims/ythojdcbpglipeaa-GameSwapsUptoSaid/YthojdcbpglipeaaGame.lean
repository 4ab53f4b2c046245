/-
  Package game: Begin, check, come: walked.
-/
import Derived.Test.YthojdcbpglipeaaGamePl
import Derived.Test.YthojdcbpglipeaaStepsCover
set_option linter.unusedVariables false
set_option linter.unusedSimpArgs false
namespace Go.Proofs.Ythojdcbpglipeaa
open Go.RowKit

def fillN (f : Nat → Int) (F i : Nat) : List Int := (List.range F).map fun j => if j < i then f j else 0
theorem fillN_len {f : Nat → Int} {F i : Nat} : (fillN f F i).length = F := by simp [fillN]
theorem fillN_zero {f : Nat → Int} {F : Nat} : fillN f F 0 = List.replicate F 0 := by
  unfold fillN
  apply List.ext_getElem (by simp)
  intro j h1 h2; simp
theorem fillN_set {f : Nat → Int} {F i : Nat} (hi : i < F) : (fillN f F i).set i (f i) = fillN f F (i + 1) := by
  unfold fillN
  apply List.ext_getElem (by simp)
  intro j h1 h2
  rw [List.getElem_set]
  simp only [List.getElem_map, List.getElem_range]
  by_cases e : i = j
  · subst e; rw [if_pos rfl, if_pos (by omega)]
  · rw [if_neg e]
    by_cases h : j < i
    · rw [if_pos h, if_pos (by omega)]
    · rw [if_neg h, if_neg (by omega)]
theorem fillN_skip {f : Nat → Int} {F i : Nat} (h0 : f i = 0) : fillN f F i = fillN f F (i + 1) := by
  unfold fillN
  apply List.ext_getElem (by simp)
  intro j h1 h2
  simp only [List.getElem_map, List.getElem_range]
  by_cases e : i = j
  · subst e; rw [if_neg (by omega), if_pos (by omega), h0]
  · by_cases h : j < i
    · rw [if_pos h, if_pos (by omega)]
    · rw [if_neg h, if_neg (by omega)]
theorem Rd.pairI {w : World} {F : Nat → Prop} {v : Value} {x : Int × Int} (h : Rd w F v x) : v = .agg [.int .i64 x.1, .int .i64 x.2].toArray := by
  obtain ⟨c1, c2, rfl, h1, h2⟩ := h.pr
  rw [rd_int h1, rd_int h2]; rfl
theorem kindAt_at {ns : List LNode} {fl : List LFlow} {n : Nat} (h : n < ns.length) : kindAt (ns, fl) n = ns[n].2 := by unfold kindAt; rw [getDNd_at h]
theorem okPr_flow {ns : List LNode} {fl : List LFlow} (h : OkPr (ns, fl)) {i : Nat} (hi : i < fl.length) : ∃ a b : Nat, fl[i].1 = (a : Int) ∧ fl[i].2 = (b : Int) ∧ a < ns.length ∧ b < ns.length := by
  have := h.flows _ (List.getElem_mem hi)
  dsimp only at this
  exact ⟨fl[i].1.toNat, fl[i].2.toNat, by omega, by omega, by omega, by omega⟩
theorem Begin_ok (w0 : World) {so fo : Option Addr} {sc fc : Nat} {ns : List LNode} {fl : List LFlow} (hs : Sl w0 (Old w0) so sc ns) (hf : Sl w0 (Old w0) fo fc fl) :
    Rt Try.prog 95 [procV so sc fo fc ns.length fl.length].toArray w0 fun v w' => ∃ x, v = .tuple ⟨[x, .int .i64 (stepsE (ns, fl)).2]⟩ ∧ Own w' w0.heap.size 3 Non x (if (stepsE (ns, fl)).2 = 0 then beginL (ns, fl) else []) ∧ Ext w0 w' := by
  have hms := hs.len63
  have hmf := hf.len63
  refine Rt.enter1 Try.func95 Try.ntmps95 rfl rfl ?_
  have hE := Ext.refl w0
  (repeat (first | (apply CW.seq) | (apply CW.region)))
  refine WL.boxB rfl rfl rfl fun w1 hb1 e1 => ?_
  have hE := hE.trans e1
  (repeat (first | (apply WL.pure; rfl; rfl; rfl) | (apply WL.nil) | (apply EX.thenN) | (apply CW.seq) | (apply CW.region) | (apply WL.ldA; rfl; rfl; rfl; assumption; rfl)))
  refine WL.call rfl rfl rfl (Of_ok w1 (hs.up hE) (hf.up hE)) ?_
  rintro _ w2 ⟨x, rfl, hox, e2⟩
  have hb1 := hb1.ext e2
  have hE := hE.trans e2
  by_cases hz : (stepsE (ns, fl)).2 = 0
  case neg =>
    have hz1 : ((stepsE (ns, fl)).2 != 0) = true := by simpa using hz
    (repeat (first | (apply WL.pure; rfl; rfl; rfl) | (apply WL.nil) | (apply EX.thenN) | (apply CW.seq) | (apply CW.region)))
    rw [hz1]
    (repeat (first | (apply WL.pure; rfl; rfl; rfl) | (apply WL.nil) | (apply EX.thenN) | (apply CW.seq) | (apply CW.region) | (apply CW.condT; rfl) | (apply CW.ret) | (apply EX.thenR)))
    refine EX.ret2 rfl rfl rfl ⟨_, rfl, ?_, hE⟩
    rw [if_neg hz]; exact Own.nil
  obtain ⟨hc0, _, _⟩ := stepsE_ok hz
  rw [if_pos hz, hz]
  have hok := chkPr_ok hc0
  have hn20 := hok.n
  have hf30 := hok.f
  dsimp only at hn20 hf30
  clear hox
  (repeat (first | (apply WL.pure; rfl; rfl; rfl) | (apply WL.nil) | (apply EX.thenN) | (apply CW.seq) | (apply CW.region) | (apply WL.lenS; rfl; rfl; rfl) | (apply WL.fa; rfl; rfl; rfl) | (apply WL.ld; rfl; rfl; rfl; assumption; rfl) | (apply CW.condF; rfl) | (apply CW.skip)))
  refine WL.make (α := Int) rfl rfl rfl rfl (by omega) (by unfold maxLen; omega) (fun w3 ho3 hg3 => ?_)
  have hE3 : Ext w0 w3 := hE.grown hg3 hE.size (fun k h => by cases h)
  have e3 : Ext w2 w3 := (Below.refl _ _).grown hg3 (Nat.le_refl _) (fun k h => by cases h)
  have hb2 := hb1
  have hb1 := hb1.ext e3
  have hlt := (ho3.lt _ rfl).2.1
  generalize hsv : Value.slice (some ⟨w2.heap.size, 0, none⟩) fl.length fl.length = sv at *
  (repeat (first | (apply WL.pure; rfl; rfl; rfl) | (apply WL.nil) | (apply EX.thenN) | (apply CW.seq) | (apply CW.region) | (apply WL.lenS; rfl; rfl; rfl) | (apply WL.fa; rfl; rfl; rfl) | (apply WL.ld; rfl; rfl; rfl; assumption; rfl) | (apply CW.block)))
  refine CW.loop (S := Nat) (fun i => [(1, .pointer (some ⟨w0.heap.size, 0, none⟩)), (6, sv), (22, .slice fo fl.length fc), (23, .int .i64 fl.length), (24, .int .i64 i)])
    (fun i w => i ≤ fl.length ∧ Own w w2.heap.size 3 Non sv (fillN (fun j => if kindAt (ns, fl) (fl.getD j (0, 0)).1.toNat = 1 then 1 else 0) fl.length i) ∧ Ext w2 w) (fun i => fl.length - i) 0 (by repeat (first | exact trivial | refine ⟨rfl, ?_⟩)) ⟨by omega, by rw [fillN_zero]; exact ho3, e3⟩ ?_
  rintro i w4 ⟨hi, ho, e4⟩
  have hb1 := hb2.ext e4
  have hE4 := hE.trans e4
  (repeat (first | (apply WL.pure; rfl; rfl; rfl) | (apply WL.nil) | (apply EX.thenN) | (apply CW.seq) | (apply CW.region)))
  refine CW.cond rfl (fun h => ?_) (fun h => ?_)
  · have hi' : i < fl.length := by simp at h; omega
    obtain ⟨a, b, ea, eb, ha, hb⟩ := okPr_flow hok hi'
    (repeat (first | (apply WL.pure; rfl; rfl; rfl) | (apply EX.thenN) | (apply CW.seq) | (apply CW.region) | (apply CW.block) | (apply CW.skip)))
    refine WL.elemN rfl rfl rfl rfl rfl (hf.up hE4) hi' (fun _ => rfl) (fun u q hu => ?_)
    rw [hu.pairI, ea, eb]
    clear hu
    skip
    refine WL.alloc rfl rfl (fun w5 hb8 e5 => ?_)
    (repeat (apply WL.pure; rfl; rfl; rfl))
    refine WL.st rfl rfl rfl hb8 rfl rfl (ones_of rfl) (fun w6 hb8 hg6 => ?_)
    have e6 : Ext w4 w6 := e5.grown hg6 e5.size (fun g hg => by cases hg; exact Nat.le_refl _)
    have hb1 := hb1.ext e6
    have hE6 := hE4.trans e6
    have ho := ho.extN e6
    obtain ⟨nb, off, rfl, hnb, hnc⟩ := (hs.at hE6).nodeK ha
    have hkk : kindAt (ns, fl) (fl.getD i (0, 0)).1.toNat = ns[a].2 := by rw [getDF_at hi', ea, Int.toNat_natCast, kindAt_at ha]
    (repeat (first | (apply WL.nil) | (apply EX.thenN) | (apply CW.seq) | (apply CW.region) | (apply WL.fa; rfl; rfl; rfl) | (apply WL.ld; rfl; rfl; rfl; assumption; rfl)))
    refine WL.idx (α := LNode) rfl rfl rfl rfl (by omega) (by omega) ?_
    (repeat (apply WL.fa; rfl; rfl; rfl))
    refine WL.load (α := Int) (F := Non) (y := ns[a].2) rfl rfl rfl (by rw [Int.toNat_natCast]; exact hnc) rfl ?_
    rw [show vOf Int [.int .i64 ns[a].2] = .int .i64 ns[a].2 from rfl]
    (repeat (first | (apply WL.pure; rfl; rfl; rfl) | (apply WL.nil) | (apply EX.thenN)))
    refine CW.cond rfl (fun h => ?_) (fun h => ?_)
    · have h : ns[a].2 = 1 := by simpa using h
      (repeat (first | (apply WL.pure; rfl; rfl; rfl) | (apply CW.region)))
      refine WL.setN (u := .int .i64 1) (yv := (1 : Int)) rfl rfl rfl rfl ho (by rw [fillN_len]; exact hi') (fun _ => rfl) (fun _ => rfl) (Rd.mkInt _ _ _) (fun w7 q ho7 hg7 => ?_)
      have e7 : Ext w2 w7 := (e4.trans e6).grown hg7 (e4.trans e6).size (fun b hb => (ho.lt b hb).1)
      (repeat (first | (apply WL.add; rfl; rfl; rfl; rfl; omega; omega) | (apply WL.pure; rfl; rfl; rfl) | (apply WL.nil) | (apply EX.thenN) | (apply CW.region) | (apply EX.inN)))
      refine EX.back (i + 1) (by repeat (first | exact trivial | refine ⟨rfl, ?_⟩)) ⟨hi', ?_, e7⟩ (by omega)
      rw [← fillN_set hi', hkk, if_pos h]; exact ho7
    · have h : ¬ ns[a].2 = 1 := by simpa using h
      (repeat (first | (apply WL.add; rfl; rfl; rfl; rfl; omega; omega) | (apply WL.pure; rfl; rfl; rfl) | (apply WL.nil) | (apply EX.thenN) | (apply CW.region) | (apply EX.inN) | (apply CW.skip)))
      refine EX.back (i + 1) (by repeat (first | exact trivial | refine ⟨rfl, ?_⟩)) ⟨hi', ?_, e4.trans e6⟩ (by omega)
      rw [← fillN_skip (by rw [hkk, if_neg h])]; exact ho
  · obtain rfl : i = fl.length := by simp at h; omega
    have : fillN (fun j => if kindAt (ns, fl) (fl.getD j (0, 0)).1.toNat = 1 then 1 else 0) fl.length fl.length = beginL (ns, fl) := by
      unfold fillN beginL
      apply List.ext_getElem (by simp)
      intro j h1 h2
      have hj : j < fl.length := by simpa using h1
      simp only [List.getElem_map, List.getElem_range, if_pos hj]
      rw [getDF_at hj]
    rw [this] at ho
    (repeat (first | (apply WL.pure; rfl; rfl; rfl) | (apply WL.nil) | (apply EX.thenN) | (apply CW.seq) | (apply CW.region) | (apply CW.exit) | (apply EX.thenX) | (apply EX.inX) | (apply CW.ret)))
    exact EX.ret2 rfl rfl rfl ⟨_, rfl, ho.low hE.size, hE4⟩
theorem tok_ok (w : World) (n : Int) : Rt Try.prog 144 [.int .i64 n].toArray w fun v w' => v = .bool (tokB n) ∧ Ext w w' := by
  refine Rt.enter1 Try.func144 Try.ntmps144 rfl rfl ?_
  (repeat (first | (apply WL.pure; rfl; rfl; rfl) | (apply WL.nil) | (apply EX.thenN) | (apply CW.seq) | (apply CW.region)))
  by_cases h : n < 0
  · rw [decide_eq_true h]
    (repeat (first | (apply WL.pure; rfl; rfl; rfl) | (apply WL.nil) | (apply EX.thenN) | (apply WL.pass; rfl; rfl) | (apply CW.ret)))
    exact EX.ret1 rfl rfl ⟨by unfold tokB; rw [decide_eq_true h]; rfl, Ext.refl _⟩
  · rw [decide_eq_false h]
    (repeat (first | (apply WL.pure; rfl; rfl; rfl) | (apply WL.nil) | (apply EX.thenN) | (apply CW.ret)))
    exact EX.ret1 rfl rfl ⟨by unfold tokB; rw [decide_eq_false h]; rfl, Ext.refl _⟩
theorem check_ok (w0 : World) {so fo mo : Option Addr} {sc fc mc : Nat} {ns : List LNode} {fl : List LFlow} {m : List Int} (hs : Sl w0 (Old w0) so sc ns) (hf : Sl w0 (Old w0) fo fc fl) (hm : Sl w0 (Old w0) mo mc m) :
    Rt Try.prog 93 [procV so sc fo fc ns.length fl.length, .slice mo m.length mc].toArray w0 fun v w' => ∃ x, v = .tuple ⟨[x, .int .i64 (chkM (ns, fl) m)]⟩ ∧ Own w' w0.heap.size 84 Non x (if chkM (ns, fl) m = 0 then stepsL (ns, fl) else []) ∧ Ext w0 w' := by
  have hmf := hf.len63
  have hmm := hm.len63
  refine Rt.enter2 Try.func93 Try.ntmps93 rfl rfl ?_
  have hE := Ext.refl w0
  (repeat (first | (apply CW.seq) | (apply CW.region)))
  refine WL.boxB rfl rfl rfl fun w1 hb1 e1 => ?_
  have hE := hE.trans e1
  (repeat (first | (apply WL.pure; rfl; rfl; rfl) | (apply WL.nil) | (apply EX.thenN) | (apply CW.seq) | (apply CW.region) | (apply WL.ldA; rfl; rfl; rfl; assumption; rfl)))
  refine WL.call rfl rfl rfl (Of_ok w1 (hs.up hE) (hf.up hE)) ?_
  rintro _ w2 ⟨x, rfl, hox, e2⟩
  have hb1 := hb1.ext e2
  have hE := hE.trans e2
  unfold chkM
  by_cases hz : (stepsE (ns, fl)).2 = 0
  case neg =>
    have hz1 : ((stepsE (ns, fl)).2 != 0) = true := by simpa using hz
    (repeat (first | (apply WL.pure; rfl; rfl; rfl) | (apply WL.nil) | (apply EX.thenN) | (apply CW.seq) | (apply CW.region)))
    rw [hz1]
    (repeat (first | (apply WL.pure; rfl; rfl; rfl) | (apply WL.nil) | (apply EX.thenN) | (apply CW.seq) | (apply CW.region) | (apply CW.condT; rfl) | (apply CW.ret) | (apply EX.thenR)))
    refine EX.ret2 rfl rfl rfl ⟨_, by rw [if_pos hz], ?_, hE⟩
    rw [if_pos hz, if_neg hz]; exact Own.nil
  obtain ⟨hc0, hst, _⟩ := stepsE_ok hz
  rw [if_neg (by simp [hz]), hz]
  rw [hst] at hox
  (repeat (first | (apply WL.pure; rfl; rfl; rfl) | (apply WL.nil) | (apply EX.thenN) | (apply CW.seq) | (apply CW.region) | (apply WL.lenS; rfl; rfl; rfl) | (apply WL.fa; rfl; rfl; rfl) | (apply WL.ld; rfl; rfl; rfl; assumption; rfl) | (apply CW.condF; rfl) | (apply CW.skip)))
  by_cases hl : m.length = fl.length
  · have hl1 : ((m.length : Int) != (fl.length : Int)) = false := by simp [hl]
    rw [hl1]
    (repeat (apply WL.pure; rfl; rfl; rfl))
    refine WL.call rfl rfl rfl (containsFunc_int w2 tokB (hm.up hE) (fun w hw j hj => FnV.mk (cs := []) (tok_ok w _))) ?_
    rintro _ w3 ⟨rfl, e3⟩
    have hox := hox.extN e3
    have hE := hE.trans e3
    (repeat (first | (apply WL.pure; rfl; rfl; rfl) | (apply WL.nil) | (apply EX.thenN)))
    refine CW.cond rfl (fun h => ?_) (fun h => ?_)
    · have h : m.any tokB = true := by simpa using h
      (repeat (first | (apply WL.pure; rfl; rfl; rfl) | (apply WL.nil) | (apply EX.thenN) | (apply CW.seq) | (apply CW.region) | (apply CW.ret) | (apply EX.thenR)))
      have hck : (if m.length ≠ fl.length ∨ m.any tokB = true then (1 : Int) else 0) = 1 := if_pos (.inr h)
      dsimp only
      rw [hck]
      exact EX.ret2 rfl rfl rfl ⟨_, rfl, by rw [if_neg (by decide)]; exact Own.nil, hE⟩
    · have h : ¬ (m.length ≠ fl.length ∨ m.any tokB = true) := by
        have h : m.any tokB = false := by simpa using h
        rw [h]; simp [hl]
      (repeat (first | (apply WL.pure; rfl; rfl; rfl) | (apply WL.nil) | (apply EX.thenN) | (apply CW.seq) | (apply CW.region) | (apply CW.ret) | (apply CW.skip)))
      have hck : (if m.length ≠ fl.length ∨ m.any tokB = true then (1 : Int) else 0) = 0 := if_neg h
      dsimp only
      rw [hck]
      exact EX.ret2 rfl rfl rfl ⟨_, rfl, by rw [if_pos rfl]; exact hox.low e1.size, hE⟩
  · have hl1 : ((m.length : Int) != (fl.length : Int)) = true := by rw [bne_iff_ne]; omega
    rw [hl1]
    (repeat (first | (apply WL.pure; rfl; rfl; rfl) | (apply WL.nil) | (apply EX.thenN) | (apply CW.seq) | (apply CW.region) | (apply WL.pass; rfl; rfl) | (apply CW.condT; rfl) | (apply CW.ret) | (apply EX.thenR)))
    have hck : (if m.length ≠ fl.length ∨ m.any tokB = true then (1 : Int) else 0) = 1 := if_pos (.inl hl)
    dsimp only
    rw [hck]
    exact EX.ret2 rfl rfl rfl ⟨_, rfl, by rw [if_neg (by decide)]; exact Own.nil, hE⟩
end Go.Proofs.Ythojdcbpglipeaa
