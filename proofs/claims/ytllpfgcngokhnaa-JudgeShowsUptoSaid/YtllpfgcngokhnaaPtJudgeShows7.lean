import Derived.Test.YtllpfgcngokhnaaPtJudgeShows6
/-
  Package lasso: next, not, until.
-/
set_option linter.unusedVariables false
set_option linter.unusedSimpArgs false
namespace Go.Proofs.Ytllpfgcngokhnaa
open Go.RowKit

def nextL (s l : List Nat) (i : Nat) : Nat := if i + 1 = s.length + l.length then s.length else i + 1
theorem next_ok (w : World) {so lo : Option Addr} {sc lc : Nat} {s l : List Nat} (i : Nat) (hn : s.length + l.length ≤ 60) (hi : i < s.length + l.length) :
    Rt Try.prog 174 [wordV so sc lo lc s l, .int .i64 (i : Int)].toArray w fun v w' => v = .int .i64 (nextL s l i : Int) ∧ Ext w w' := by
  refine Rt.enter2 Try.func174 Try.ntmps174 rfl rfl ?_
  (repeat (first | (apply CW.seq) | (apply CW.region)))
  refine WL.boxB rfl rfl rfl fun w1 hb hE => ?_
  (repeat (first | (apply WL.add; rfl; rfl; rfl; rfl; omega; omega) | (apply WL.pure; rfl; rfl; rfl) | (apply WL.nil) | (apply EX.thenN) | (apply CW.seq) | (apply CW.region) | (apply WL.lenS; rfl; rfl; rfl) | (apply WL.fa; rfl; rfl; rfl) | (apply WL.ld; rfl; rfl; rfl; assumption; rfl)))
  refine CW.cond rfl (fun h => ?_) (fun h => ?_) <;> simp at h
  · (repeat (first | (apply WL.pure; rfl; rfl; rfl) | (apply WL.nil) | (apply EX.thenN) | (apply CW.seq) | (apply CW.region) | (apply WL.lenS; rfl; rfl; rfl) | (apply WL.fa; rfl; rfl; rfl) | (apply WL.ld; rfl; rfl; rfl; assumption; rfl) | (apply CW.ret) | (apply EX.thenR)))
    refine EX.ret1 rfl rfl ⟨?_, hE⟩
    unfold nextL; rw [if_pos (by omega)]
  · (repeat (first | (apply WL.add; rfl; rfl; rfl; rfl; omega; omega) | (apply WL.pure; rfl; rfl; rfl) | (apply WL.nil) | (apply EX.thenN) | (apply CW.seq) | (apply CW.region) | (apply CW.ret) | (apply CW.skip)))
    refine EX.ret1 rfl rfl ⟨?_, hE⟩
    unfold nextL; rw [if_neg (by omega)]; rfl

theorem not_ok (w : World) {ao : Option Addr} {cap : Nat} {xs : List Bool} {F : Nat → Prop} (hs : Sl w F ao cap xs) (hF : ∀ b, F b → b < w.heap.size) (hl : xs.length ≤ 100000) :
    Rt Try.prog 171 [.slice ao xs.length cap].toArray w fun v w' => Own w' w.heap.size 4 Non v (xs.map (!·)) ∧ Ext w w' := by
  refine Rt.enter1 Try.func171 Try.ntmps171 rfl rfl ?_
  (repeat (first | (apply WL.pure; rfl; rfl; rfl) | (apply WL.nil) | (apply EX.thenN) | (apply CW.seq) | (apply CW.region) | (apply WL.lenS; rfl; rfl; rfl)))
  refine WL.make (α := Bool) (x0 := false) (bytes := 1) rfl rfl rfl rfl (by omega) (by unfold maxLen; omega) (fun w1 ho hgr => ?_)
  have hE1 : Ext w w1 := (Ext.refl w).grown hgr (Nat.le_refl _) (fun k h => by cases h)
  generalize hv : Value.slice (some ⟨w.heap.size, 0, none⟩) xs.length xs.length = v at *
  (repeat (first | (apply WL.pure; rfl; rfl; rfl) | (apply WL.nil) | (apply EX.thenN) | (apply CW.seq) | (apply CW.region) | (apply WL.lenS; rfl; rfl; rfl) | (apply CW.block)))
  refine CW.loop (S := Nat) (fun k => [(3, v), (9, .slice ao xs.length cap), (10, .int .i64 (xs.length : Int)), (11, .int .i64 (k : Int))])
    (fun k w' => Ext w w' ∧ k ≤ xs.length ∧ Own w' w.heap.size 4 Non v ((xs.take k).map (!·) ++ List.replicate (xs.length - k) false)) (fun k => xs.length - k) 0 (by repeat (first | exact trivial | refine ⟨rfl, ?_⟩)) ⟨hE1, by omega, by simpa using ho⟩ ?_
  rintro k w2 ⟨hE2, hk, ho⟩
  (repeat (first | (apply WL.pure; rfl; rfl; rfl) | (apply WL.nil) | (apply EX.thenN) | (apply CW.seq) | (apply CW.region)))
  refine CW.cond rfl (fun h => ?_) (fun h => ?_) <;> simp at h
  · (repeat (first | (apply WL.pure; rfl; rfl; rfl) | (apply EX.thenN) | (apply CW.seq) | (apply CW.region) | (apply CW.block) | (apply CW.skip)))
    have hs2 := hs.mono (fun b hb => hE2.block b (hF b hb)) fun _ h => h
    refine WL.elemB rfl rfl rfl rfl rfl hs2 h rfl (fun _ => rfl) (fun q => ?_)
    (repeat (first | (apply WL.pure; rfl; rfl; rfl) | (apply WL.nil) | (apply EX.thenN) | (apply CW.region)))
    refine WL.setN (α := Bool) (yv := !xs[k]) rfl rfl rfl rfl ho (by simp; omega) (fun _ => rfl) (fun _ => rfl) (Rd.mkBool _ _ _) (fun w3 p ho3 hgr3 => ?_)
    have hE3 : Ext w w3 := hE2.grown hgr3 hE2.size (fun g hg => (ho.lt g hg).1)
    (repeat (first | (apply WL.add; rfl; rfl; rfl; rfl; omega; omega) | (apply WL.pure; rfl; rfl; rfl) | (apply WL.nil) | (apply EX.thenN) | (apply CW.region) | (apply EX.inN)))
    refine EX.back (k + 1) (by repeat (first | exact trivial | refine ⟨rfl, ?_⟩)) ⟨hE3, by omega, ?_⟩ (by omega)
    have e : (List.map (!·) (xs.take k) ++ List.replicate (xs.length - k) false).set k (!xs[k]) = List.map (!·) (xs.take (k + 1)) ++ List.replicate (xs.length - (k + 1)) false := by
      rw [List.set_append_right _ _ (by simp; omega)]
      have h0 : k - (List.map (!·) (xs.take k)).length = 0 := by simp; omega
      rw [h0, show xs.length - k = (xs.length - (k + 1)) + 1 by omega, List.replicate_succ, List.set_cons_zero, List.take_succ_eq_append_getElem h, List.map_append]
      simp
    rw [← e]; exact ho3
  · have : k = xs.length := by omega
    subst this
    (repeat (first | (apply WL.pure; rfl; rfl; rfl) | (apply WL.nil) | (apply EX.thenN) | (apply CW.seq) | (apply CW.region) | (apply CW.exit) | (apply EX.thenX) | (apply EX.inX) | (apply CW.ret)))
    refine EX.ret1 rfl rfl ⟨?_, hE2⟩
    simpa using ho

/-- one round of until, from behind -/
def untilR (s l : List Nat) (a b : List Bool) : Nat → List Bool → List Bool
  | 0, out => out
  | i + 1, out => untilR s l a b i (out.set i (b.getD i false || (a.getD i false && out.getD (nextL s l i) false)))
def untilL (s l : List Nat) (a b : List Bool) : List Bool := untilR s l a b a.length (untilR s l a b a.length (List.replicate a.length false))
theorem untilR_len (s l : List Nat) (a b : List Bool) : ∀ i out, (untilR s l a b i out).length = out.length
  | 0, out => rfl
  | i + 1, out => by rw [untilR, untilR_len s l a b i, List.length_set]
theorem untilL_len (s l : List Nat) (a b : List Bool) : (untilL s l a b).length = a.length := by unfold untilL; rw [untilR_len, untilR_len, List.length_replicate]

theorem until_ok (w : World) {so lo : Option Addr} {sc lc : Nat} {s l : List Nat} {ao bo : Option Addr} {ac bc : Nat} {a b : List Bool} {F : Nat → Prop} (ha : Sl w F ao ac a) (hb : Sl w F bo bc b) (hF : ∀ b, F b → b < w.heap.size)
    (hn : s.length + l.length ≤ 60) (hl : a.length = s.length + l.length) (hl2 : b.length = s.length + l.length) (h0 : 0 < l.length) :
    Rt Try.prog 172 [wordV so sc lo lc s l, .slice ao a.length ac, .slice bo b.length bc].toArray w fun v w' => Own w' w.heap.size 4 Non v (untilL s l a b) ∧ Ext w w' := by
  refine Rt.enter3 Try.func172 Try.ntmps172 rfl rfl ?_
  (repeat (first | (apply CW.seq) | (apply CW.region)))
  refine WL.boxB rfl rfl rfl fun w0 hw hE0 => ?_
  have hwl := hw.lt
  have hbk : w.heap.size ≤ w0.heap.size := hE0.size
  (repeat (first | (apply WL.pure; rfl; rfl; rfl) | (apply WL.nil) | (apply EX.thenN) | (apply CW.seq) | (apply CW.region) | (apply WL.lenS; rfl; rfl; rfl)))
  refine WL.make (α := Bool) (x0 := false) (bytes := 1) rfl rfl rfl rfl (by omega) (by unfold maxLen; omega) (fun w1 ho hgr => ?_)
  have hE1 : Ext w0 w1 := (Ext.refl w0).grown hgr (Nat.le_refl _) (fun k h => by cases h)
  generalize hv : Value.slice (some ⟨w0.heap.size, 0, none⟩) a.length a.length = v at *
  (repeat (first | (apply WL.pure; rfl; rfl; rfl) | (apply WL.nil) | (apply EX.thenN) | (apply CW.seq) | (apply CW.region) | (apply CW.block)))
  refine CW.loop (S := Nat × List Bool) (fun x => [(1, .slice ao a.length ac), (2, .slice bo b.length bc), (3, .pointer (some ⟨w.heap.size, 0, none⟩)), (7, .int .i64 (a.length : Int)), (8, v), (14, .int .i64 (x.1 : Int))])
    (fun x w' => Ext w0 w' ∧ Own w' w0.heap.size 4 Non v x.2 ∧ x.2.length = a.length ∧ (x.1 = 0 ∧ x.2 = List.replicate a.length false ∨ x.1 = 1 ∧ x.2 = untilR s l a b a.length (List.replicate a.length false) ∨ x.1 = 2 ∧ x.2 = untilL s l a b)) (fun x => 2 - x.1) (0, List.replicate a.length false) (by repeat (first | exact trivial | refine ⟨rfl, ?_⟩)) ⟨hE1, ho, by simp, .inl ⟨rfl, rfl⟩⟩ ?_
  rintro ⟨r, out0⟩ w2 ⟨hE2, ho, hol, hr⟩
  simp only at ho hol hr
  (repeat (first | (apply WL.pure; rfl; rfl; rfl) | (apply WL.nil) | (apply EX.thenN) | (apply CW.seq) | (apply CW.region)))
  refine CW.cond rfl (fun h => ?_) (fun h => ?_) <;> simp at h
  · (repeat (first | (apply WL.sub'; rfl; rfl; rfl; rfl; omega; omega) | (apply WL.pure; rfl; rfl; rfl) | (apply WL.nil) | (apply EX.thenN) | (apply CW.seq) | (apply CW.region) | (apply CW.block) | (apply CW.skip)))
    refine CW.loop (S := Int × List Bool) (fun x => [(1, .slice ao a.length ac), (2, .slice bo b.length bc), (3, .pointer (some ⟨w.heap.size, 0, none⟩)), (7, .int .i64 (a.length : Int)), (8, v), (9, .int .i64 x.1), (14, .int .i64 (r : Int))])
      (fun x w' => Ext w0 w' ∧ Own w' w0.heap.size 4 Non v x.2 ∧ x.2.length = a.length ∧ -1 ≤ x.1 ∧ x.1 < a.length ∧ untilR s l a b (x.1 + 1).toNat x.2 = untilR s l a b a.length out0) (fun x => (x.1 + 1).toNat) ((a.length : Int) - 1, out0) (by repeat (first | exact trivial | refine ⟨rfl, ?_⟩)) ⟨hE2, ho, hol, by simp only; omega, by simp only; omega, by simp only; rw [show ((a.length : Int) - 1 + 1).toNat = a.length by omega]⟩ ?_
    rintro ⟨i, out⟩ w3 ⟨hE3, ho3, hol3, hi0, hi1, heq⟩
    simp only at ho3 hol3 hi0 hi1 heq
    (repeat (first | (apply WL.pure; rfl; rfl; rfl) | (apply WL.nil) | (apply EX.thenN) | (apply CW.seq) | (apply CW.region)))
    refine CW.cond rfl (fun h1 => ?_) (fun h1 => ?_) <;> simp at h1
    · obtain ⟨k, rfl⟩ := Int.eq_ofNat_of_zero_le h1
      have hka : k < a.length := by omega
      have hkb : k < b.length := by omega
      have hE3' := hE0.trans hE3
      have ha3 := ha.mono (fun b hb => hE3'.block b (hF b hb)) fun _ h => h
      have hb3 := hb.mono (fun b hb => hE3'.block b (hF b hb)) fun _ h => h
      have hw3 := hw.ext hE3
      have e1 : ((k : Int) + 1).toNat = k + 1 := by omega
      rw [e1] at heq
      simp only [untilR] at heq
      have ga : a.getD k false = a[k] := by rw [List.getD_eq_getElem?_getD, List.getElem?_eq_getElem hka]; rfl
      have gb : b.getD k false = b[k] := by rw [List.getD_eq_getElem?_getD, List.getElem?_eq_getElem hkb]; rfl
      rw [ga, gb] at heq
      have fin : ∀ (y : Bool), y = (b[k] || (a[k] && out.getD (nextL s l k) false)) → ∀ w4, Ext w0 w4 → Own w4 w0.heap.size 4 Non v (out.set k y) → (Ext w0 w4 ∧ Own w4 w0.heap.size 4 Non v (out.set k y) ∧ (out.set k y).length = a.length ∧ -1 ≤ (k : Int) - 1 ∧ (k : Int) - 1 < a.length ∧ untilR s l a b ((k : Int) - 1 + 1).toNat (out.set k y) = untilR s l a b a.length out0) := by
        rintro y rfl w4 h4 ho4
        refine ⟨h4, ho4, by simpa using hol3, by omega, by omega, ?_⟩
        rw [show ((k : Int) - 1 + 1).toNat = k by omega]; exact heq
      (repeat (first | (apply WL.pure; rfl; rfl; rfl) | (apply EX.thenN) | (apply CW.seq) | (apply CW.region) | (apply CW.block) | (apply CW.skip)))
      refine WL.elemB rfl rfl rfl rfl rfl hb3 hkb rfl (fun _ => rfl) (fun q => ?_)
      (repeat (apply WL.pure; rfl; rfl; rfl))
      (refine WL.lookG rfl rfl (fun h => ?_) (fun h => ?_))
      · have hbk' := h
        (repeat (first | (apply WL.pure; rfl; rfl; rfl) | (apply WL.pass; rfl; rfl)))
        refine WL.setN (α := Bool) (yv := true) rfl rfl rfl rfl ho3 (by omega) (fun _ => rfl) (fun _ => rfl) (Rd.mkBool _ _ _) (fun w9 p ho9 hgr9 => ?_)
        have hE9 : Ext w0 w9 := hE3.grown hgr9 hE3.size (fun g hg => (ho3.lt g hg).1)
        (repeat (first | (apply WL.sub'; rfl; rfl; rfl; rfl; omega; omega) | (apply WL.pure; rfl; rfl; rfl) | (apply WL.nil) | (apply EX.thenN) | (apply CW.region) | (apply EX.inN)))
        exact EX.back ((k : Int) - 1, out.set k true) (by repeat (first | exact trivial | refine ⟨rfl, ?_⟩)) (fin _ (by rw [hbk']; rfl) w9 hE9 ho9) (by simp only; omega)
      · have hbk' := h
        (repeat (apply WL.pure; rfl; rfl; rfl))
        refine WL.elemB rfl rfl rfl rfl rfl ha3 hka rfl (fun _ => rfl) (fun q => ?_)
        (repeat (apply WL.pure; rfl; rfl; rfl))
        (refine WL.lookG rfl rfl (fun h => ?_) (fun h => ?_))
        · have hak := h
          (repeat (first | (apply WL.pure; rfl; rfl; rfl) | (apply WL.ldA; rfl; rfl; rfl; assumption; rfl)))
          refine WL.call rfl rfl rfl (next_ok w3 k hn (by omega)) ?_
          rintro v' w4 ⟨rfl, hE4⟩
          have ho4 := ho3.extN hE4
          have hE4 := hE3.trans hE4
          have hnx : nextL s l k < out.length := by unfold nextL; split <;> omega
          have go : out.getD (nextL s l k) false = out[nextL s l k] := by rw [List.getD_eq_getElem?_getD, List.getElem?_eq_getElem hnx]; rfl
          skip
          refine WL.elemON rfl rfl rfl rfl rfl ho4 hnx (fun _ => rfl) (fun u q hu => ?_)
          have hu := hu.bool
          subst hu
          (repeat (apply WL.pure; rfl; rfl; rfl))
          refine WL.setN (α := Bool) (yv := out[nextL s l k]) rfl rfl rfl rfl ho4 (by omega) (fun _ => rfl) (fun _ => rfl) (Rd.mkBool _ _ _) (fun w9 p ho9 hgr9 => ?_)
          have hE9 : Ext w0 w9 := hE4.grown hgr9 hE4.size (fun g hg => (ho4.lt g hg).1)
          (repeat (first | (apply WL.sub'; rfl; rfl; rfl; rfl; omega; omega) | (apply WL.pure; rfl; rfl; rfl) | (apply WL.nil) | (apply EX.thenN) | (apply CW.region) | (apply EX.inN)))
          exact EX.back ((k : Int) - 1, out.set k out[nextL s l k]) (by repeat (first | exact trivial | refine ⟨rfl, ?_⟩)) (fin _ (by rw [hbk', hak, go]; rfl) w9 hE9 ho9) (by simp only; omega)
        · have hak := h
          (repeat (first | (apply WL.pure; rfl; rfl; rfl) | (apply WL.pass; rfl; rfl)))
          refine WL.setN (α := Bool) (yv := false) rfl rfl rfl rfl ho3 (by omega) (fun _ => rfl) (fun _ => rfl) (Rd.mkBool _ _ _) (fun w9 p ho9 hgr9 => ?_)
          have hE9 : Ext w0 w9 := hE3.grown hgr9 hE3.size (fun g hg => (ho3.lt g hg).1)
          (repeat (first | (apply WL.sub'; rfl; rfl; rfl; rfl; omega; omega) | (apply WL.pure; rfl; rfl; rfl) | (apply WL.nil) | (apply EX.thenN) | (apply CW.region) | (apply EX.inN)))
          exact EX.back ((k : Int) - 1, out.set k false) (by repeat (first | exact trivial | refine ⟨rfl, ?_⟩)) (fin _ (by rw [hbk', hak]; rfl) w9 hE9 ho9) (by simp only; omega)
    · have hi : i = -1 := by omega
      subst hi
      simp only [untilR, show ((-1 : Int) + 1).toNat = 0 from rfl] at heq
      (repeat (first | (apply WL.add; rfl; rfl; rfl; rfl; omega; omega) | (apply WL.pure; rfl; rfl; rfl) | (apply WL.nil) | (apply EX.thenN) | (apply CW.region) | (apply EX.inN) | (apply CW.exit) | (apply EX.thenX) | (apply EX.inX)))
      refine EX.back (r + 1, out) (by repeat (first | exact trivial | refine ⟨rfl, ?_⟩)) ⟨hE3, ho3, hol3, ?_⟩ (by simp only; omega)
      simp only
      rcases hr with ⟨rfl, rfl⟩ | ⟨rfl, rfl⟩ | ⟨rfl, rfl⟩
      · exact .inr (.inl ⟨rfl, heq⟩)
      · exact .inr (.inr ⟨rfl, heq⟩)
      · omega
  · have hr2 : out0 = untilL s l a b := by
      rcases hr with ⟨rfl, _⟩ | ⟨rfl, _⟩ | ⟨_, h⟩
      · omega
      · omega
      · exact h
    subst hr2
    (repeat (first | (apply WL.pure; rfl; rfl; rfl) | (apply WL.nil) | (apply EX.thenN) | (apply CW.seq) | (apply CW.region) | (apply CW.exit) | (apply EX.thenX) | (apply EX.inX) | (apply CW.ret)))
    exact EX.ret1 rfl rfl ⟨ho.low hbk, hE0.trans hE2⟩
end Go.Proofs.Ytllpfgcngokhnaa

/-
  What an automaton accepts: runs, the product with a word's places, parts of a graph: plain lists, no program in sight.
-/
set_option linter.unusedVariables false
set_option linter.unusedSimpArgs false
namespace Go.Proofs.Ytllpfgcngokhnaa

/- PARTS -/
theorem Rc.lt {E : Nat → Nat → Prop} {N a b : Nat} (hN : ∀ u v, E u v → v < N) (ha : a < N) : Rc E a b → b < N
  | ⟨p, n, h⟩ => by
    cases n with
    | zero => rw [← h.last, h.first]; exact ha
    | succ n => rw [← h.last]; exact hN _ _ (h.step n (by omega))
/-- a round has a first step -/
theorem Rc.first {E : Nat → Nat → Prop} {a b c : Nat} (h1 : Rc E a b) (h2 : E b c) (h3 : Rc E c a) : ∃ u, E a u ∧ Rc E u a := by
  obtain ⟨p, n, h⟩ := h1
  cases n with
  | zero => obtain rfl : a = b := h.first.symm.trans h.last
            exact ⟨c, h2, h3⟩
  | succ n =>
    refine ⟨p 1, by have := h.step 0 (by omega); rwa [h.first] at this, Rc.trans ⟨fun i => p (i + 1), n, rfl, h.last, fun i hi => h.step (i + 1) (by omega)⟩ ((Rc.one h2).trans h3)⟩
theorem core_part {g : Graph} {part : List Int} {Ps : List (Nat → Prop)} (hg : okG g) (hp : PartsOK g part) {i : Nat} (hi : i < g.length) :
    Core (Eg g) Ps i ↔ (∃ u, u < g.length ∧ part.getD u 0 = part.getD i 0 ∧ ∃ to ∈ g.getD u [], part.getD to.toNat 0 = part.getD i 0) ∧ ∀ P ∈ Ps, ∃ x, x < g.length ∧ P x ∧ part.getD x 0 = part.getD i 0 := by
  have hN : ∀ u v, Eg g u v → v < g.length := fun u v h => h.lt hg
  have hs : ∀ a b, a < g.length → b < g.length → (part.getD a 0 = part.getD b 0 ↔ Rc (Eg g) a b ∧ Rc (Eg g) b a) := fun a b ha hb => by
    rw [hp.same a b ha hb, rch1 hg, rch1 hg]
  constructor
  · rintro ⟨⟨u, h1, h2⟩, h3⟩
    refine ⟨⟨i, hi, rfl, (u : Int), h1, ?_⟩, fun P hP => ?_⟩
    · exact ((hs u i (hN _ _ h1) hi).2 ⟨h2, Rc.one h1⟩)
    · obtain ⟨x, hx, k1, k2⟩ := h3 P hP
      exact ⟨x, Rc.lt hN hi k1, hx, (hs x i (Rc.lt hN hi k1) hi).2 ⟨k2, k1⟩⟩
  · rintro ⟨⟨u, hu, h1, to, h2, h3⟩, h4⟩
    have ht := okG_row hg u to h2
    have h2' : Eg g u to.toNat := by show ((to.toNat : Nat) : Int) ∈ _; rw [show ((to.toNat : Nat) : Int) = to by omega]; exact h2
    refine ⟨Rc.first ((hs u i hu hi).1 h1).2 h2' ((hs _ i (hN _ _ h2') hi).1 h3).1, fun P hP => ?_⟩
    obtain ⟨x, hx, h5, h6⟩ := h4 P hP
    exact ⟨x, h5, ((hs x i hx hi).1 h6).2, ((hs x i hx hi).1 h6).1⟩

/- THE NODES THAT ARE COME TO -/
structure RchdOK (g : Graph) (f : List Int) (li : List Int) (sm : Graph) : Prop where
  mem : ∀ x : Nat, (x : Int) ∈ li ↔ Rch g f x
  pos : ∀ x ∈ li, 0 ≤ x
  nodup : li.Nodup
  len : sm.length = li.length
  row : ∀ i, i < li.length → sm.getD i [] = (g.getD (li.getD i 0).toNat []).map fun to => (li.idxOf to : Int)
section
variable {g : Graph} {f li : List Int} {sm : Graph}
abbrev ndAt (li : List Int) (i : Nat) : Nat := (li.getD i 0).toNat
theorem RchdOK.at (h : RchdOK g f li sm) {i : Nat} (hi : i < li.length) : ((ndAt li i : Nat) : Int) = li.getD i 0 ∧ li.getD i 0 ∈ li := by
  have e : li.getD i 0 = li[i] := by rw [List.getD_eq_getElem?_getD, List.getElem?_eq_getElem hi]; rfl
  have hm : li.getD i 0 ∈ li := by rw [e]; exact List.getElem_mem hi
  have := h.pos _ hm
  exact ⟨by unfold ndAt; omega, hm⟩
theorem RchdOK.idx (h : RchdOK g f li sm) {x : Nat} (hx : (x : Int) ∈ li) : li.idxOf (x : Int) < li.length ∧ ndAt li (li.idxOf (x : Int)) = x := by
  have hl := List.idxOf_lt_length_iff.2 hx
  refine ⟨hl, ?_⟩
  unfold ndAt
  rw [List.getD_eq_getElem?_getD, List.getElem?_eq_getElem hl, Option.getD_some, List.getElem_idxOf hl]
  omega
theorem RchdOK.idxAt (h : RchdOK g f li sm) {i : Nat} (hi : i < li.length) : li.idxOf (li.getD i 0) = i := by
  have e : li.getD i 0 = li[i] := by rw [List.getD_eq_getElem?_getD, List.getElem?_eq_getElem hi]; rfl
  rw [e]
  exact h.nodup.idxOf_getElem i hi
theorem RchdOK.edge (h : RchdOK g f li sm) (hg : okG g) {i j : Nat} (hi : i < li.length) (hj : j < li.length) : Eg sm i j ↔ Eg g (ndAt li i) (ndAt li j) := by
  unfold Eg
  rw [h.row i hi, List.mem_map, (h.at hj).1]
  constructor
  · rintro ⟨to, h1, h2⟩
    have hr : Rch g f to.toNat := Rch.step ((h.mem _).1 (by rw [(h.at hi).1]; exact (h.at hi).2)) h1
    have h0 := (okG_row hg _ _ h1).1
    have hm : to ∈ li := by rw [show to = ((to.toNat : Nat) : Int) by omega]; exact (h.mem _).2 hr
    have hl := List.idxOf_lt_length_iff.2 hm
    have : to = li.getD j 0 := by
      have e2 : li.idxOf to = j := by omega
      rw [← e2, List.getD_eq_getElem?_getD, List.getElem?_eq_getElem hl, Option.getD_some, List.getElem_idxOf hl]
    rw [← this]; exact h1
  · intro h1
    exact ⟨_, h1, by rw [h.idxAt hj]⟩
theorem RchdOK.okG (h : RchdOK g f li sm) (hg : okG g) : okG sm := by
  intro l hl x hx
  obtain ⟨i, hi, rfl⟩ := List.mem_iff_getElem.1 hl
  have hi' : i < li.length := by rw [← h.len]; exact hi
  have e : sm[i] = sm.getD i [] := by rw [List.getD_eq_getElem?_getD, List.getElem?_eq_getElem hi]; rfl
  rw [e, h.row i hi', List.mem_map] at hx
  obtain ⟨to, h1, rfl⟩ := hx
  have hr : Rch g f to.toNat := Rch.step ((h.mem _).1 (by rw [(h.at hi').1]; exact (h.at hi').2)) h1
  have h0 := (okG_row hg _ _ h1).1
  have hm : to ∈ li := by rw [show to = ((to.toNat : Nat) : Int) by omega]; exact (h.mem _).2 hr
  have hl := List.idxOf_lt_length_iff.2 hm
  rw [h.len]; omega
theorem Eg.lt1 {g : Graph} {u v : Nat} (h : Eg g u v) : u < g.length := by
  unfold Eg at h
  apply Classical.byContradiction
  intro hn
  rw [List.getD_eq_getElem?_getD, List.getElem?_eq_none (by omega)] at h
  simp at h
theorem RchdOK.rc (h : RchdOK g f li sm) (hg : _root_.Go.Proofs.Ytllpfgcngokhnaa.okG g) {i j : Nat} (hi : i < li.length) (hj : j < li.length) : Rc (Eg sm) i j ↔ Rc (Eg g) (ndAt li i) (ndAt li j) := by
  have hs := h.okG hg
  constructor
  · rintro ⟨p, n, hw⟩
    refine ⟨fun k => ndAt li (p k), n, by rw [hw.first], by rw [hw.last], fun k hk => ?_⟩
    have := hw.step k hk
    have a := this.lt1; have b := this.lt hs
    rw [h.len] at a b
    exact (h.edge hg a b).1 this
  · rintro ⟨p, n, hw⟩
    have hm : ∀ k, k ≤ n → ((p k : Nat) : Int) ∈ li := by
      intro k
      induction k with
      | zero => intro _; rw [hw.first, (h.at hi).1]; exact (h.at hi).2
      | succ k ih =>
        intro hk
        have h1 := (h.mem _).1 (ih (by omega))
        exact (h.mem _).2 (Rch.step h1 (hw.step k (by omega)))
    refine ⟨fun k => li.idxOf ((p k : Nat) : Int), n, ?_, ?_, fun k hk => ?_⟩
    · show li.idxOf _ = i
      rw [hw.first, (h.at hi).1, h.idxAt hi]
    · show li.idxOf _ = j
      rw [hw.last, (h.at hj).1, h.idxAt hj]
    · have a := h.idx (hm k (by omega)); have b := h.idx (hm (k + 1) (by omega))
      refine (h.edge hg a.1 b.1).2 ?_
      rw [a.2, b.2]; exact hw.step k hk
end

/- RUNS -/
def fitB (mu no : List Nat) (k x : Nat) : Bool := decide (x &&& mu.getD k 0 = mu.getD k 0) && decide (x &&& no.getD k 0 = 0)
/-- a run of an automaton over a word -/
structure AccRun (st : List Int) (nx : List (List Int)) (mu no : List Nat) (fr : List (List Int)) (L r : Nat → Nat) : Prop where
  first : (r 0 : Int) ∈ st
  fits : ∀ i, fitB mu no (r i) (L i) = true
  step : ∀ i, (r (i + 1) : Int) ∈ nx.getD (r i) []
  fair : ∀ F ∈ fr, ∀ i, ∃ j, i ≤ j ∧ (r j : Int) ∈ F
def Acc (st : List Int) (nx : List (List Int)) (mu no : List Nat) (fr : List (List Int)) (L : Nat → Nat) : Prop := ∃ r, AccRun st nx mu no fr L r
section
variable {st : List Int} {nx : List (List Int)} {mu no : List Nat} {fr : List (List Int)} {s l : List Nat}
end

/- LAWS OF RUNS -/
theorem Acc.congr {st : List Int} {nx : List (List Int)} {mu no : List Nat} {fr : List (List Int)} {L L' : Nat → Nat} (h : ∀ i, L i = L' i) : Acc st nx mu no fr L ↔ Acc st nx mu no fr L' := by
  rw [show L = L' from funext h]
theorem Acc.more {st : List Int} {nx : List (List Int)} {mu no : List Nat} {fr fr' : List (List Int)} {L : Nat → Nat} (h : ∀ F ∈ fr, F ∈ fr') : Acc st nx mu no fr' L → Acc st nx mu no fr L
  | ⟨r, a, b, c, d⟩ => ⟨r, a, b, c, fun F hF => d F (h F hF)⟩
end Go.Proofs.Ytllpfgcngokhnaa

/-
  Automata of pairs: plain lists, no program in sight.
-/
set_option linter.unusedVariables false
set_option linter.unusedSimpArgs false
namespace Go.Proofs.Ytllpfgcngokhnaa

abbrev Pr2 := Int × Int
theorem idxOf_left {ps t : List Pr2} {p : Pr2} (h : p ∈ ps) : (ps ++ t).idxOf p = ps.idxOf p := by rw [List.idxOf_append, if_pos h]
theorem idxOf_new {ps : List Pr2} {p : Pr2} (h : p ∉ ps) : ps.idxOf p = ps.length := by
  have h1 := List.idxOf_le_length (a := p) (l := ps)
  have h2 := mt List.idxOf_lt_length_iff.1 h
  omega
structure PutOk (r ps : List Pr2) (l : List Int) (q : List Pr2 × Bool × List Int) : Prop where
  nd : q.1.Nodup
  ext : ∃ t, q.1 = ps ++ t ∧ ∀ x ∈ t, x ∈ r
  mem : ∀ p ∈ r, p ∈ q.1
  num : ∀ i, i ∈ q.2.2 ↔ i ∈ l ∨ ∃ p ∈ r, i = (q.1.idxOf p : Int)
  le : ps.length ≤ 2048 → q.1.length ≤ 2048
/-- numbers of pairs -/
structure MadeOk (next : Pr2 → List Pr2) (start ps : List Pr2) (st : List Int) (nx : List (List Int)) : Prop where
  nd : ps.Nodup
  st0 : ∀ p ∈ start, p ∈ ps
  st1 : ∀ i, i ∈ st ↔ ∃ p ∈ start, i = (ps.idxOf p : Int)
  le : ps.length ≤ 2048
  nxl : nx.length ≤ ps.length
  nx0 : ∀ n, n < nx.length → ∀ p ∈ next (ps.getD n (0, 0)), p ∈ ps
  nx1 : ∀ n, n < nx.length → ∀ i, i ∈ nx.getD n [] ↔ ∃ p ∈ next (ps.getD n (0, 0)), i = (ps.idxOf p : Int)
theorem getDP_left {α : Type} {l t : List α} {j : Nat} {d : α} (h : j < l.length) : (l ++ t).getD j d = l.getD j d := by rw [List.getD_eq_getElem?_getD, List.getD_eq_getElem?_getD, List.getElem?_append_left h]
theorem getDP_last {α : Type} {l : List α} {x d : α} : (l ++ [x]).getD l.length d = x := by rw [List.getD_eq_getElem?_getD, List.getElem?_append_right (Nat.le_refl _)]; simp
theorem getDP_mem {ps : List Pr2} {n : Nat} (h : n < ps.length) : ps.getD n (0, 0) ∈ ps := by rw [List.getD_eq_getElem?_getD, List.getElem?_eq_getElem h]; exact List.getElem_mem _
theorem idxOf_at {ps : List Pr2} {p : Pr2} (h : p ∈ ps) : ps.idxOf p < ps.length ∧ ps.getD (ps.idxOf p) (0, 0) = p := by
  have hl := List.idxOf_lt_length_iff.2 h
  exact ⟨hl, by rw [List.getD_eq_getElem?_getD, List.getElem?_eq_getElem hl, Option.getD_some, List.getElem_idxOf hl]⟩
/- BITS -/
/- BOTH -/
abbrev LAuto2 := List Int × List (List Int) × List Nat × List Nat × List (List Int)
def AccA (A : LAuto2) (L : Nat → Nat) : Prop := Acc A.1 A.2.1 A.2.2.1 A.2.2.2.1 A.2.2.2.2 L
/-- states are numbers -/
def PosA (A : LAuto2) : Prop := (∀ x ∈ A.1, 0 ≤ x) ∧ ∀ k, ∀ x ∈ A.2.1.getD k [], 0 ≤ x
end Go.Proofs.Ytllpfgcngokhnaa

/-
  Pairs of a world's states and an automaton's: how they are found. Plain lists.
-/
set_option linter.unusedVariables false
set_option linter.unusedSimpArgs false
namespace Go.Proofs.Ytllpfgcngokhnaa

def addF (ps : List Pr2) (p : Pr2) : List Pr2 := if p ∈ ps then ps else ps ++ [p]
def putF (fit : Pr2 → Bool) : List Pr2 → List Pr2 → List Int → List Pr2 × List Int
  | [], ps, l => (ps, l)
  | p :: r, ps, l => if fit p = true then putF fit r (addF ps p) (l ++ [(ps.idxOf p : Int)]) else putF fit r ps l
def pairsX (l k : List Int) : List Pr2 := l.flatMap fun x => k.map fun y => (x, y)
section
variable {fit : Pr2 → Bool}
theorem addF_mem {ps : List Pr2} {p q : Pr2} : q ∈ addF ps p ↔ q ∈ ps ∨ q = p := by
  unfold addF
  split
  · exact ⟨.inl, fun h => h.elim id (fun h => by subst h; assumption)⟩
  · simp
theorem addF_app {ps : List Pr2} {p : Pr2} : ∃ t, addF ps p = ps ++ t := by
  unfold addF
  split
  · exact ⟨[], by simp⟩
  · exact ⟨[p], rfl⟩
theorem addF_nd {ps : List Pr2} {p : Pr2} (h : ps.Nodup) : (addF ps p).Nodup := by
  unfold addF
  split
  · exact h
  · rename_i hn
    rw [List.nodup_append]
    refine ⟨h, List.pairwise_singleton _ _, fun a ha b hb e => ?_⟩
    rw [List.mem_singleton] at hb
    exact hn (by rw [← hb, ← e]; exact ha)
theorem addF_idx {ps : List Pr2} {p : Pr2} : (addF ps p).idxOf p = ps.idxOf p := by
  unfold addF
  split
  · rfl
  · rename_i hn
    rw [List.idxOf_append, if_neg hn, idxOf_new hn]; simp
structure PutF (fit : Pr2 → Bool) (r ps : List Pr2) (l : List Int) (q : List Pr2 × List Int) : Prop where
  nd : q.1.Nodup
  app : ∃ t, q.1 = ps ++ t
  new : ∀ p ∈ q.1, p ∈ ps ∨ (p ∈ r ∧ fit p = true)
  all : ∀ p ∈ r, fit p = true → p ∈ q.1
  num : ∀ i, i ∈ q.2 ↔ i ∈ l ∨ ∃ p ∈ r, fit p = true ∧ i = (q.1.idxOf p : Int)
  len : q.2.length ≤ l.length + r.length
theorem putF_law : ∀ (r ps : List Pr2) (l : List Int), ps.Nodup → PutF fit r ps l (putF fit r ps l)
  | [], ps, l, h => ⟨h, ⟨[], by simp [putF]⟩, fun p hp => .inl hp, (fun p hp => by cases hp), fun i => by simp [putF], by simp [putF]⟩
  | p :: r, ps, l, h => by
    rw [putF]
    split
    · rename_i hf
      have k := putF_law r (addF ps p) (l ++ [(ps.idxOf p : Int)]) (addF_nd h)
      obtain ⟨t, ht⟩ := k.app
      obtain ⟨t', ht'⟩ := addF_app (ps := ps) (p := p)
      refine ⟨k.nd, ⟨t' ++ t, by rw [ht, ht', List.append_assoc]⟩, fun q hq => ?_, fun q hq hqf => ?_, fun i => ?_, ?_⟩
      · rcases k.new q hq with h1 | h1
        · rcases addF_mem.1 h1 with h1 | h1
          · exact .inl h1
          · subst h1; exact .inr ⟨List.mem_cons_self, hf⟩
        · exact .inr ⟨List.mem_cons_of_mem _ h1.1, h1.2⟩
      · rcases List.mem_cons.1 hq with rfl | hq
        · rw [ht]; exact List.mem_append_left _ (addF_mem.2 (.inr rfl))
        · exact k.all q hq hqf
      · have hix : (putF fit r (addF ps p) (l ++ [(ps.idxOf p : Int)])).1.idxOf p = ps.idxOf p := by
          rw [ht, List.idxOf_append, if_pos (addF_mem.2 (.inr rfl)), addF_idx]
        rw [k.num]
        constructor
        · rintro (h1 | ⟨q, h1, h2, h3⟩)
          · rcases List.mem_append.1 h1 with h1 | h1
            · exact .inl h1
            · rw [List.mem_singleton] at h1
              exact .inr ⟨p, List.mem_cons_self, hf, by rw [hix]; exact h1⟩
          · exact .inr ⟨q, List.mem_cons_of_mem _ h1, h2, h3⟩
        · rintro (h1 | ⟨q, h1, h2, h3⟩)
          · exact .inl (List.mem_append_left _ h1)
          · rcases List.mem_cons.1 h1 with rfl | h1
            · exact .inl (List.mem_append_right _ (by rw [List.mem_singleton, h3, hix]))
            · exact .inr ⟨q, h1, h2, h3⟩
      · have := k.len; simp only [List.length_append, List.length_cons, List.length_nil] at this ⊢; omega
    · rename_i hf
      have k := putF_law r ps l h
      refine ⟨k.nd, k.app, fun q hq => ?_, fun q hq hqf => ?_, fun i => ?_, ?_⟩
      · exact (k.new q hq).imp id fun h1 => ⟨List.mem_cons_of_mem _ h1.1, h1.2⟩
      · rcases List.mem_cons.1 hq with rfl | hq
        · exact absurd hqf hf
        · exact k.all q hq hqf
      · rw [k.num]
        constructor
        · rintro (h1 | ⟨q, h1, h2, h3⟩)
          · exact .inl h1
          · exact .inr ⟨q, List.mem_cons_of_mem _ h1, h2, h3⟩
        · rintro (h1 | ⟨q, h1, h2, h3⟩)
          · exact .inl h1
          · rcases List.mem_cons.1 h1 with rfl | h1
            · exact absurd h2 hf
            · exact .inr ⟨q, h1, h2, h3⟩
      · have := k.len; simp only [List.length_cons] at this ⊢; omega
theorem pairsX_mem {l k : List Int} {p : Pr2} : p ∈ pairsX l k ↔ p.1 ∈ l ∧ p.2 ∈ k := by
  unfold pairsX
  simp only [List.mem_flatMap, List.mem_map]
  constructor
  · rintro ⟨x, hx, y, hy, rfl⟩; exact ⟨hx, hy⟩
  · rintro ⟨h1, h2⟩; exact ⟨p.1, h1, p.2, h2, rfl⟩
theorem nodup_lenE : ∀ (n : Nat) (l : List Nat), l.Nodup → (∀ x ∈ l, x < n) → l.length ≤ n
  | 0, l, _, h => by
    cases l with
    | nil => simp
    | cons x r => have := h x (by simp); omega
  | n + 1, l, hd, h => by
    by_cases hn : n ∈ l
    · have h1 := nodup_lenE n (l.erase n) (hd.erase n) (fun x hx => by
        have h2 := (List.Nodup.mem_erase_iff hd).1 hx
        have := h x h2.2; have := h2.1; omega)
      rw [List.length_erase_of_mem hn] at h1
      omega
    · have := nodup_lenE n l hd (fun x hx => by
        have h2 := h x hx
        have : x ≠ n := fun e => hn (e ▸ hx)
        omega)
      omega
/-- a list without twins in a box -/
theorem nodup_box {a b : Nat} {ps : List Pr2} (hn : ps.Nodup) (h : ∀ p ∈ ps, (0 ≤ p.1 ∧ p.1 < a) ∧ 0 ≤ p.2 ∧ p.2 < b) : ps.length ≤ a * b := by
  have hd : ∀ (x y : Nat), y < b → (b * x + y) / b = x ∧ (b * x + y) % b = y := fun x y hy => by
    have hb : 0 < b := by omega
    exact ⟨by rw [Nat.mul_add_div hb, Nat.div_eq_of_lt hy, Nat.add_zero], by rw [Nat.mul_add_mod, Nat.mod_eq_of_lt hy]⟩
  have h1 := nodup_lenE (a * b) (ps.map fun p => b * p.1.toNat + p.2.toNat) (by
    unfold List.Nodup at hn ⊢
    rw [List.pairwise_map]
    refine (List.pairwise_iff_forall_sublist.2 fun {p q} hs => ?_)
    have hp : p ∈ ps := hs.subset (by simp)
    have hq : q ∈ ps := hs.subset (by simp)
    have hne := List.pairwise_iff_forall_sublist.1 hn hs
    intro e
    obtain ⟨⟨p1, p2⟩, p3, p4⟩ := h p hp
    obtain ⟨⟨q1, q2⟩, q3, q4⟩ := h q hq
    have d1 := hd p.1.toNat p.2.toNat (by omega)
    have d2 := hd q.1.toNat q.2.toNat (by omega)
    rw [e] at d1
    exact hne (Prod.ext (by have := d1.1.symm.trans d2.1; omega) (by have := d1.2.symm.trans d2.2; omega))) (fun x hx => by
    obtain ⟨p, hp, rfl⟩ := List.mem_map.1 hx
    obtain ⟨⟨p1, p2⟩, p3, p4⟩ := h p hp
    have h2 : p.1.toNat + 1 ≤ a := by omega
    have h3 := Nat.mul_le_mul_left b h2
    rw [Nat.mul_add, Nat.mul_one, Nat.mul_comm b a] at h3
    omega)
  simpa using h1
end
end Go.Proofs.Ytllpfgcngokhnaa

/-
  Ways by breadth, with what each node was come to from. Plain lists.
-/
set_option linter.unusedVariables false
set_option linter.unusedSimpArgs false
namespace Go.Proofs.Ytllpfgcngokhnaa

abbrev UP := List (Int × Int)
abbrev keysU (up : UP) : List Int := up.map Prod.fst
structure WyC (g : List (List Int)) (fr : List Int) (al : Nat → Bool) (up : UP) : Prop where
  nd : (keysU up).Nodup
  rg : okL g.length (keysU up)
  par : ∀ i (hi : i < up.length), (up[i].2 = -1 ∧ up[i].1 ∈ fr) ∨ ∃ j, ∃ hj : j < up.length, j < i ∧ up[i].2 = up[j].1 ∧ up[i].1 ∈ g.getD up[j].1.toNat [] ∧ al up[i].1.toNat = true
structure WyOK (g : List (List Int)) (fr : List Int) (to al : Nat → Bool) (r : List Int) : Prop where
  ne : 0 < r.length
  len : r.length ≤ g.length
  rg : okL g.length r
  st : r.getD 0 0 ∈ fr
  ed : ∀ i, i + 1 < r.length → r.getD (i + 1) 0 ∈ g.getD (r.getD i 0).toNat [] ∧ al (r.getD (i + 1) 0).toNat = true
  en : to (r.getD (r.length - 1) 0).toNat = true
def WyNo (g : List (List Int)) (fr : List Int) (to al : Nat → Bool) : Prop := ∃ C : List Int, (∀ x ∈ fr, x ∈ C) ∧ ∀ x ∈ C, to x.toNat = false ∧ ∀ k ∈ g.getD x.toNat [], al k.toNat = true → k ∈ C
def alB (part : List Int) (only : Int) (k : Nat) : Bool := decide (only < 0) || decide (part.getD k 0 = only)
section
variable {g : List (List Int)} {fr : List Int} {to al : Nat → Bool} {up : UP}
theorem okL_len : ∀ {n : Nat} {l : List Int}, l.Nodup → okL n l → l.length ≤ n := fun {n l} hn h => by
  have h1 := nodup_lenE n (l.map Int.toNat) (by
    unfold List.Nodup at hn ⊢
    rw [List.pairwise_map]
    refine List.pairwise_iff_forall_sublist.2 fun {a b} hs => ?_
    have ha := h a (hs.subset (by simp))
    have hb := h b (hs.subset (by simp))
    have := List.pairwise_iff_forall_sublist.1 hn hs
    omega) (fun x hx => by
    obtain ⟨a, ha, rfl⟩ := List.mem_map.1 hx
    have := h a ha
    omega)
  simpa using h1
theorem WyC.nil : WyC g fr al [] := ⟨List.Pairwise.nil, (fun x hx => by cases hx), fun i hi => absurd hi (by simp)⟩
theorem WyC.len (h : WyC g fr al up) : up.length ≤ g.length := by
  have := okL_len h.nd h.rg
  simpa using this
theorem WyC.push (h : WyC g fr al up) {x : Int × Int} (hn : x.1 ∉ keysU up) (hr : 0 ≤ x.1 ∧ x.1 < g.length)
    (hp : (x.2 = -1 ∧ x.1 ∈ fr) ∨ ∃ j, ∃ hj : j < up.length, x.2 = up[j].1 ∧ x.1 ∈ g.getD up[j].1.toNat [] ∧ al x.1.toNat = true) : WyC g fr al (up ++ [x]) := by
  refine ⟨?_, fun y hy => ?_, fun i hi => ?_⟩
  · unfold keysU
    rw [List.map_append, List.nodup_append]
    refine ⟨h.nd, by simp, fun a ha b hb e => ?_⟩
    simp at hb
    subst hb; subst e
    exact hn ha
  · unfold keysU at hy
    rw [List.map_append] at hy
    rcases List.mem_append.1 hy with hy | hy
    · exact h.rg y hy
    · simp at hy; subst hy; exact hr
  · by_cases h' : i < up.length
    · rw [List.getElem_append_left h']
      rcases h.par i h' with k | ⟨j, hj, k1, k2, k3⟩
      · exact .inl k
      · exact .inr ⟨j, by simp; omega, k1, by rw [List.getElem_append_left hj]; exact k2, by rw [List.getElem_append_left hj]; exact k3⟩
    · have hiu : i = up.length := by simp at hi; omega
      subst hiu
      rw [List.getElem_append_right (Nat.le_refl _)]
      simp only [Nat.sub_self, List.getElem_cons_zero]
      rcases hp with k | ⟨j, hj, k⟩
      · exact .inl k
      · exact .inr ⟨j, by simp; omega, hj, by rw [List.getElem_append_left hj]; exact k⟩
/-- the way back from node h, so far -/
structure BackI (g : List (List Int)) (fr : List Int) (al : Nat → Bool) (up : UP) (h q : Nat) (out : List Int) : Prop where
  hq : q ≤ up.length
  hh : h < up.length
  len : out.length + q ≤ h + 1
  rg : okL g.length out
  rv : ∀ i, i + 1 < out.length → out.getD i 0 ∈ g.getD (out.getD (i + 1) 0).toNat [] ∧ al (out.getD i 0).toNat = true
  nx : ∀ (h0 : 0 < q), 0 < out.length → out.getD (out.length - 1) 0 ∈ g.getD (up[q - 1]'(by omega)).1.toNat [] ∧ al (out.getD (out.length - 1) 0).toNat = true
  hd : 0 < out.length → out.getD 0 0 = up[h].1
  em : out.length = 0 → q = h + 1
  fn : q = 0 → 0 < out.length ∧ out.getD (out.length - 1) 0 ∈ fr
def numQ (up : UP) (q : Nat) : Int := if h : 0 < q ∧ q ≤ up.length then (up[q - 1]'(by omega)).1 else -1
theorem BackI.start {h : Nat} (hh : h < up.length) : BackI g fr al up h (h + 1) [] :=
  ⟨hh, hh, by simp, (fun x hx => by cases hx), fun i hi => absurd hi (by simp), fun _ k => absurd k (by simp), fun k => absurd k (by simp), fun _ => rfl, fun k => by cases k⟩
theorem getD_app1 {l : List Int} {x : Int} {i : Nat} (h : i < l.length) : (l ++ [x]).getD i 0 = l.getD i 0 := by
  rw [List.getD_eq_getElem?_getD, List.getElem?_append_left h, ← List.getD_eq_getElem?_getD]
theorem getD_app2 {l : List Int} {x : Int} : (l ++ [x]).getD l.length 0 = x := by
  rw [List.getD_eq_getElem?_getD, List.getElem?_append_right (Nat.le_refl _)]; simp
/-- one step back -/
theorem BackI.step (hC : WyC g fr al up) {h q : Nat} {out : List Int} (hI : BackI g fr al up h q out) (h0 : 0 < q) : ∃ q', q' < q ∧ (up[q - 1]'(by have := hI.hq; omega)).2 = numQ up q' ∧ BackI g fr al up h q' (out ++ [(up[q - 1]'(by have := hI.hq; omega)).1]) := by
  have hq := hI.hq
  have hql : q - 1 < up.length := by omega
  have hrg : 0 ≤ up[q - 1].1 ∧ up[q - 1].1 < g.length := hC.rg _ (List.mem_map.2 ⟨_, List.getElem_mem hql, rfl⟩)
  have hlen := hI.len
  have common : ∀ q' (hq' : q' < q), (∀ (h1 : 0 < q'), up[q - 1].1 ∈ g.getD (up[q' - 1]'(by omega)).1.toNat [] ∧ al up[q - 1].1.toNat = true) → (q' = 0 → up[q - 1].1 ∈ fr) → BackI g fr al up h q' (out ++ [up[q - 1].1]) := by
    intro q' hq' hn hf
    refine ⟨by omega, hI.hh, by simp; omega, fun x hx => ?_, fun i hi => ?_, fun h1 _ => ?_, fun _ => ?_, fun k => by simp at k, fun k => ⟨by simp, ?_⟩⟩
    · rcases List.mem_append.1 hx with hx | hx
      · exact hI.rg x hx
      · rw [List.mem_singleton] at hx; subst hx; exact hrg
    · simp at hi
      rw [getD_app1 (i := i) (by omega)]
      by_cases e : i + 1 < out.length
      · rw [getD_app1 (i := i + 1) e]; exact hI.rv i e
      · obtain e : i + 1 = out.length := by omega
        rw [e, getD_app2]
        have := hI.nx h0 (by omega)
        rw [show out.length - 1 = i by omega] at this
        exact this
    · rw [show (out ++ [up[q - 1].1]).length - 1 = out.length by simp, getD_app2]
      exact hn h1
    · by_cases e : 0 < out.length
      · rw [getD_app1 e]; exact hI.hd e
      · have e0 : out.length = 0 := by omega
        have hqh := hI.em e0
        have : (out ++ [up[q - 1].1]).getD 0 0 = up[q - 1].1 := by
          have := getD_app2 (l := out) (x := up[q - 1].1)
          rwa [e0] at this
        rw [this]
        congr 2
        omega
    · rw [show (out ++ [up[q - 1].1]).length - 1 = out.length by simp, getD_app2]
      exact hf k
  rcases hC.par (q - 1) hql with ⟨k1, k2⟩ | ⟨j, hj, k1, k2, k3, k4⟩
  · exact ⟨0, h0, by rw [k1]; unfold numQ; rw [dif_neg (by omega)], common 0 h0 (fun h1 => absurd h1 (by omega)) (fun _ => k2)⟩
  · refine ⟨j + 1, by omega, ?_, common (j + 1) (by omega) (fun _ => ⟨k3, k4⟩) (fun e => by cases e)⟩
    rw [k2]
    unfold numQ
    rw [dif_pos ⟨by omega, by omega⟩]
    rfl
/-- turned round it is a way -/
theorem BackI.done (hC : WyC g fr al up) {h : Nat} {out : List Int} (hI : BackI g fr al up h 0 out) (ht : to (up[h]'hI.hh).1.toNat = true) : WyOK g fr to al out.reverse := by
  have hlen := hI.len
  have hul := hC.len
  have hh := hI.hh
  have h0 := (hI.fn rfl).1
  have hget : ∀ i, i < out.length → out.reverse.getD i 0 = out.getD (out.length - 1 - i) 0 := fun i hi => by
    rw [List.getD_eq_getElem?_getD, List.getElem?_reverse hi, ← List.getD_eq_getElem?_getD]
  refine ⟨by simpa using h0, by rw [List.length_reverse]; omega, fun x hx => hI.rg x (List.mem_reverse.1 hx), ?_, fun i hi => ?_, ?_⟩
  · rw [hget 0 h0]; exact (hI.fn rfl).2
  · rw [List.length_reverse] at hi
    rw [hget _ hi, hget i (by omega)]
    have := hI.rv (out.length - 1 - (i + 1)) (by omega)
    rw [show out.length - 1 - (i + 1) + 1 = out.length - 1 - i by omega] at this
    exact this
  · rw [List.length_reverse, hget _ (by omega), show out.length - 1 - (out.length - 1) = 0 by omega, hI.hd h0]; exact ht
end
end Go.Proofs.Ytllpfgcngokhnaa

/-
  Ways through pairs: when one is found. Plain lists.
-/
set_option linter.unusedVariables false
set_option linter.unusedSimpArgs false
namespace Go.Proofs.Ytllpfgcngokhnaa

theorem idxOf_lt {ps : List Pr2} {p : Pr2} (h : p ∈ ps) : ps.idxOf p < ps.length := (idxOf_at h).1
/-- the search, so far -/
structure RunE (fit : Pr2 → Bool) (next : Pr2 → List Pr2) (start ps : List Pr2) (fr : List Int) (nx : List (List Int)) : Prop where
  nd : ps.Nodup
  ok : ∀ p ∈ ps, fit p = true
  sm : ∀ p ∈ start, fit p = true → p ∈ ps
  sn : ∀ i, i ∈ fr ↔ ∃ p ∈ start, fit p = true ∧ i = (ps.idxOf p : Int)
  le : nx.length ≤ ps.length
  nm : ∀ n, n < nx.length → ∀ q ∈ next (ps.getD n (0, 0)), fit q = true → q ∈ ps
  nn : ∀ n, n < nx.length → ∀ i, i ∈ nx.getD n [] ↔ ∃ q ∈ next (ps.getD n (0, 0)), fit q = true ∧ i = (ps.idxOf q : Int)
  rc : ∀ i : Nat, i < ps.length → (i : Int) ∈ fr ∨ ∃ m, m < i ∧ m < nx.length ∧ (i : Int) ∈ nx.getD m []
section
variable {fit : Pr2 → Bool} {next : Pr2 → List Pr2} {start ps : List Pr2} {fr : List Int} {nx : List (List Int)}
theorem RunE.init : RunE fit next start (putF fit start [] []).1 (putF fit start [] []).2 [] := by
  have k := putF_law (fit := fit) start [] [] List.Pairwise.nil
  have hnew : ∀ p ∈ (putF fit start [] []).1, p ∈ start ∧ fit p = true := fun p hp => (k.new p hp).resolve_left (fun h => by cases h)
  refine ⟨k.nd, fun p hp => (hnew p hp).2, k.all, fun i => ?_, Nat.zero_le _, fun n hn => absurd hn (by simp), fun n hn => absurd hn (by simp), fun i hi => .inl ?_⟩
  · rw [k.num]
    exact ⟨fun h => h.resolve_left (fun h => by cases h), .inr⟩
  · rw [k.num]
    have hm := List.getElem_mem hi
    exact .inr ⟨_, (hnew _ hm).1, (hnew _ hm).2, by rw [k.nd.idxOf_getElem i hi]⟩
theorem RunE.step (h : RunE fit next start ps fr nx) (hn : nx.length < ps.length) :
    RunE fit next start (putF fit (next (ps.getD nx.length (0, 0))) ps []).1 fr (nx ++ [(putF fit (next (ps.getD nx.length (0, 0))) ps []).2]) := by
  generalize hr : next (ps.getD nx.length (0, 0)) = r
  have k := putF_law (fit := fit) r ps [] h.nd
  generalize putF fit r ps [] = q at *
  obtain ⟨t, ht⟩ := k.app
  have hin : ∀ p ∈ ps, p ∈ q.1 := fun p hp => by rw [ht]; exact List.mem_append_left _ hp
  have hix : ∀ p ∈ ps, q.1.idxOf p = ps.idxOf p := fun p hp => by rw [ht]; exact idxOf_left hp
  have hlen : q.1.length = ps.length + t.length := by rw [ht, List.length_append]
  have hget : ∀ n, n < ps.length → q.1.getD n (0, 0) = ps.getD n (0, 0) := fun n hn => by rw [ht]; exact getDP_left hn
  have hle := h.le
  refine ⟨k.nd, fun p hp => (k.new p hp).elim (h.ok p) (·.2), fun p hp hf => hin p (h.sm p hp hf), fun i => ?_, by rw [List.length_append]; simp; omega, fun n hn' x hx hf => ?_, fun n hn' i => ?_, fun i hi => ?_⟩
  · rw [h.sn]
    constructor
    · rintro ⟨p, h1, h2, h3⟩; exact ⟨p, h1, h2, by rw [hix p (h.sm p h1 h2)]; exact h3⟩
    · rintro ⟨p, h1, h2, h3⟩; exact ⟨p, h1, h2, by rw [← hix p (h.sm p h1 h2)]; exact h3⟩
  · simp at hn'
    rw [hget n (by omega)] at hx
    by_cases e : n < nx.length
    · exact hin x (h.nm n e x hx hf)
    · obtain rfl : n = nx.length := by omega
      rw [hr] at hx
      exact k.all x hx hf
  · simp at hn'
    rw [hget n (by omega)]
    by_cases e : n < nx.length
    · rw [getDP_left e, h.nn n e]
      constructor
      · rintro ⟨p, h1, h2, h3⟩; exact ⟨p, h1, h2, by rw [hix p (h.nm n e p h1 h2)]; exact h3⟩
      · rintro ⟨p, h1, h2, h3⟩; exact ⟨p, h1, h2, by rw [← hix p (h.nm n e p h1 h2)]; exact h3⟩
    · obtain rfl : n = nx.length := by omega
      rw [getDP_last, hr, k.num]
      exact ⟨fun h => h.resolve_left (fun h => by cases h), .inr⟩
  · by_cases e : i < ps.length
    · rcases h.rc i e with h1 | ⟨m, h1, h2, h3⟩
      · exact .inl h1
      · exact .inr ⟨m, h1, by simp; omega, by rw [getDP_left h2]; exact h3⟩
    · refine .inr ⟨nx.length, by omega, by simp, ?_⟩
      rw [getDP_last, k.num]
      have hm := List.getElem_mem hi
      have hnin : q.1[i] ∉ ps := fun hp => by
        have h1 := hix _ hp
        rw [k.nd.idxOf_getElem i hi] at h1
        have := idxOf_lt hp
        omega
      obtain ⟨h1, h2⟩ := (k.new _ hm).resolve_left hnin
      exact .inr ⟨_, h1, h2, by rw [k.nd.idxOf_getElem i hi]⟩
variable (h : RunE fit next start ps fr nx) (hl : nx.length = ps.length)
include h hl
theorem RunE.okG : okG nx := fun l hl' x hx => by
  obtain ⟨n, hn, rfl⟩ := List.mem_iff_getElem.1 hl'
  rw [← show nx.getD n [] = nx[n] by rw [List.getD_eq_getElem?_getD, List.getElem?_eq_getElem hn]; rfl] at hx
  obtain ⟨q, h1, h2, rfl⟩ := (h.nn n hn x).1 hx
  have := idxOf_lt (h.nm n hn q h1 h2)
  omega
theorem RunE.okF : okL nx.length fr := fun x hx => by
  obtain ⟨q, h1, h2, rfl⟩ := (h.sn x).1 hx
  have := idxOf_lt (h.sm q h1 h2)
  omega
theorem RunE.reach : ∀ i : Nat, i < nx.length → ∃ a : Nat, (a : Int) ∈ fr ∧ Rc (Eg nx) a i := fun i => by
  induction i using Nat.strongRecOn with
  | ind i ih =>
    intro hi
    rcases h.rc i (by omega) with h1 | ⟨m, h1, h2, h3⟩
    · exact ⟨i, h1, Rc.refl i⟩
    · obtain ⟨a, ha, hr⟩ := ih m h1 h2
      exact ⟨a, ha, hr.trans (Rc.one h3)⟩
end
/-- a way through pairs -/
structure PWay (fit : Pr2 → Bool) (next : Pr2 → List Pr2) (start : List Pr2) (Ss : List (Pr2 → Bool)) (r : Nat → Pr2) : Prop where
  first : r 0 ∈ start
  fits : ∀ i, fit (r i) = true
  step : ∀ i, r (i + 1) ∈ next (r i)
  fair : ∀ S ∈ Ss, ∀ i, ∃ j, i ≤ j ∧ S (r j) = true
def setsL (Ss : List (Pr2 → Bool)) (ps : List Pr2) : List (List Bool) := Ss.map fun S => ps.map S
def GoodC (g : Graph) (part : List Int) (sets : List (List Bool)) (c : Int) : Prop :=
  (∃ u, u < g.length ∧ part.getD u 0 = c ∧ ∃ to ∈ g.getD u [], part.getD to.toNat 0 = c) ∧ ∀ S ∈ sets, ∃ x, x < g.length ∧ S.getD x false = true ∧ part.getD x 0 = c
abbrev setP' (sets : List (List Bool)) : List (Nat → Prop) := sets.map fun S x => S.getD x false = true
theorem good_core' {g : Graph} {part : List Int} {sets : List (List Bool)} (hg : okG g) (hp : PartsOK g part) {i : Nat} (hi : i < g.length) : Core (Eg g) (setP' sets) i ↔ GoodC g part sets (part.getD i 0) := by
  rw [core_part hg hp hi]
  unfold GoodC
  refine and_congr_right fun _ => ⟨fun h S hS => ?_, fun h P hP => ?_⟩
  · obtain ⟨x, h1, h2, h3⟩ := h _ (List.mem_map.2 ⟨S, hS, rfl⟩)
    exact ⟨x, h1, h2, h3⟩
  · obtain ⟨S, hS, rfl⟩ := List.mem_map.1 hP
    obtain ⟨x, h1, h2, h3⟩ := h S hS
    exact ⟨x, h1, h2, h3⟩
theorem setsL_get {S : Pr2 → Bool} {ps : List Pr2} {x : Nat} (hx : x < ps.length) : (ps.map S).getD x false = S (ps.getD x (0, 0)) := by
  rw [List.getD_eq_getElem?_getD, List.getElem?_map, List.getElem?_eq_getElem hx, List.getD_eq_getElem?_getD, List.getElem?_eq_getElem hx]; rfl
section
variable {fit : Pr2 → Bool} {next : Pr2 → List Pr2} {start ps : List Pr2} {fr : List Int} {nx : List (List Int)} {Ss : List (Pr2 → Bool)} {part : List Int}
theorem pway_in (h : RunE fit next start ps fr nx) (hl : nx.length = ps.length) {r : Nat → Pr2} (hr : PWay fit next start Ss r) : ∀ i, r i ∈ ps
  | 0 => h.sm _ hr.first (hr.fits 0)
  | i + 1 => by
    have h1 := pway_in h hl hr i
    have h2 := idxOf_at h1
    refine h.nm (ps.idxOf (r i)) (by omega) _ ?_ (hr.fits (i + 1))
    rw [h2.2]
    exact hr.step i
theorem pway_good (h : RunE fit next start ps fr nx) (hl : nx.length = ps.length) (hp : PartsOK nx part) :
    (∃ r, PWay fit next start Ss r) ↔ ∃ c : Int, 0 ≤ c ∧ c < nx.length ∧ GoodC nx part (setsL Ss ps) c := by
  have hg := h.okG hl
  constructor
  · rintro ⟨r, hr⟩
    have hin := pway_in h hl hr
    have h8 : Way8 (Eg nx) (setP' (setsL Ss ps)) (fun i => ps.idxOf (r i)) := by
      refine ⟨fun i => ?_, fun P hP i => ?_⟩
      · have h2 := idxOf_at (hin i)
        refine (h.nn (ps.idxOf (r i)) (by omega) _).2 ⟨r (i + 1), ?_, hr.fits _, rfl⟩
        rw [h2.2]; exact hr.step i
      · obtain ⟨L, hL, rfl⟩ := List.mem_map.1 hP
        obtain ⟨S, hS, rfl⟩ := List.mem_map.1 hL
        obtain ⟨j, h1, h2⟩ := hr.fair S hS i
        have h3 := idxOf_at (hin j)
        refine ⟨j, h1, ?_⟩
        show (ps.map S).getD (ps.idxOf (r j)) false = true
        rw [setsL_get h3.1, h3.2]; exact h2
    obtain ⟨v, _, hc, i, hi⟩ := way8_core (N := ps.length) (fun i => idxOf_lt (hin i)) h8
    have hv : v < nx.length := by have := idxOf_lt (hin i); omega
    exact ⟨part.getD v 0, hp.ge v (by rw [hp.len]; exact hv), hp.lt v (by rw [hp.len]; exact hv), (good_core' hg hp hv).1 hc⟩
  · rintro ⟨c, _, _, hc⟩
    obtain ⟨u, hu, huc, _⟩ := hc.1
    rw [← huc] at hc
    have hcore := (good_core' hg hp hu).2 hc
    obtain ⟨a, ha, hrc⟩ := h.reach hl u hu
    obtain ⟨r, hr0, hr⟩ := core_way8 hrc hcore
    have hlt : ∀ i, r i < nx.length := fun i => by
      cases i with
      | zero => rw [hr0]; have := h.okF hl _ ha; omega
      | succ i => exact (hr.1 i).lt hg
    refine ⟨fun i => ps.getD (r i) (0, 0), ?_, fun i => h.ok _ (getDP_mem (by have := hlt i; omega)), fun i => ?_, fun S hS i => ?_⟩
    · rw [hr0]
      obtain ⟨p, h1, h2, h3⟩ := (h.sn _).1 ha
      have h4 := idxOf_at (h.sm p h1 h2)
      rw [show a = ps.idxOf p by omega, h4.2]
      exact h1
    · obtain ⟨q, h1, h2, h3⟩ := (h.nn (r i) (hlt i) _).1 (hr.1 i)
      have h4 := idxOf_at (h.nm (r i) (hlt i) q h1 h2)
      rw [show r (i + 1) = ps.idxOf q by omega, h4.2]
      exact h1
    · obtain ⟨j, h1, h2⟩ := hr.2 _ (List.mem_map.2 ⟨ps.map S, List.mem_map.2 ⟨S, hS, rfl⟩, rfl⟩) i
      refine ⟨j, h1, ?_⟩
      rw [setsL_get (by have := hlt j; omega)] at h2
      exact h2
end
/-- a set closed under the edges that stay in a part has all of the part, or none -/
theorem part_closed {g : Graph} {part : List Int} (hg : okG g) (hp : PartsOK g part) {C : List Int} {c : Int} (hC : ∀ x ∈ C, ∀ k ∈ g.getD x.toNat [], part.getD k.toNat 0 = c → k ∈ C)
    {u v : Nat} (hu : u < g.length) (hv : v < g.length) (pu : part.getD u 0 = c) (pv : part.getD v 0 = c) (h : (u : Int) ∈ C) : (v : Int) ∈ C := by
  have hN : ∀ u v, Eg g u v → v < g.length := fun u v h => h.lt hg
  obtain ⟨h1, h2⟩ := (hp.same u v hu hv).1 (pu.trans pv.symm)
  rw [rch1 hg] at h1 h2
  obtain ⟨p, n, hw⟩ := h1
  have hin : ∀ i, i ≤ n → Rc (Eg g) u (p i) ∧ Rc (Eg g) (p i) v := fun i hi =>
    ⟨⟨p, i, hw.first, rfl, fun j hj => hw.step j (by omega)⟩, ⟨fun j => p (i + j), n - i, by simp, by rw [show i + (n - i) = n by omega]; exact hw.last, fun j hj => hw.step (i + j) (by omega)⟩⟩
  have hlt : ∀ i, i ≤ n → p i < g.length := fun i hi => Rc.lt hN hu (hin i hi).1
  have hpc : ∀ i, i ≤ n → part.getD (p i) 0 = c := fun i hi => by
    rw [← pu]
    refine ((hp.same (p i) u (hlt i hi) hu).2 ?_)
    rw [rch1 hg, rch1 hg]
    exact ⟨(hin i hi).2.trans h2, (hin i hi).1⟩
  have : ∀ i, i ≤ n → ((p i : Nat) : Int) ∈ C := fun i => by
    induction i with
    | zero => intro _; rw [hw.first]; exact h
    | succ i ih =>
      intro hi
      refine hC _ (ih (by omega)) _ ?_ (by rw [Int.toNat_natCast]; exact hpc _ hi)
      rw [Int.toNat_natCast]
      exact hw.step i (by omega)
  have h3 := this n (Nat.le_refl _)
  rwa [hw.last] at h3
theorem alB_only {part : List Int} {c : Int} (h0 : 0 ≤ c) {k : Nat} : alB part c k = true ↔ part.getD k 0 = c := by
  unfold alB
  simp
  omega
/-- within a part one comes to each set -/
theorem way_inPart {g : Graph} {part : List Int} (hg : okG g) (hp : PartsOK g part) {c : Int} (h0 : 0 ≤ c) {fr : List Int} {to : Nat → Bool} {u x : Nat} (hu : u < g.length) (hx : x < g.length) (pu : part.getD u 0 = c) (px : part.getD x 0 = c) (hf : (u : Int) ∈ fr) (ht : to x = true) :
    ¬ WyNo g fr to (alB part c) := by
  rintro ⟨C, h1, h2⟩
  have := part_closed hg hp (C := C) (c := c) (fun y hy k hk hkc => (h2 y hy).2 k hk ((alB_only h0).2 hkc)) hu hx pu px (h1 _ hf)
  have h3 := (h2 _ this).1
  rw [Int.toNat_natCast, ht] at h3
  cases h3
/-- from the first pairs one comes to each node -/
theorem way_any {g : Graph} {part fr : List Int} {to : Nat → Bool} {x a : Nat} (ha : (a : Int) ∈ fr) (hr : Rc (Eg g) a x) (ht : to x = true) : ¬ WyNo g fr to (alB part (-1)) := by
  rintro ⟨C, h1, h2⟩
  obtain ⟨p, n, hw⟩ := hr
  have : ∀ i, i ≤ n → ((p i : Nat) : Int) ∈ C := fun i => by
    induction i with
    | zero => intro _; rw [hw.first]; exact h1 _ ha
    | succ i ih =>
      intro hi
      exact (h2 _ (ih (by omega))).2 _ (by rw [Int.toNat_natCast]; exact hw.step i (by omega)) (by unfold alB; simp)
  have h3 := this n (Nat.le_refl _)
  rw [hw.last] at h3
  have h4 := (h2 _ h3).1
  rw [Int.toNat_natCast, ht] at h4
  cases h4
/-- a round through a part, so far -/
structure RoI (g : Graph) (part : List Int) (n : Nat) (seen : List (List Bool)) (out : List Int) : Prop where
  ne : 0 < out.length
  len : out.length ≤ 1 + seen.length * g.length
  rg : okL g.length out
  pt : ∀ x ∈ out, part.getD x.toNat 0 = part.getD n 0
  st : out.getD 0 0 = (n : Int)
  ed : ∀ i, i + 1 < out.length → out.getD (i + 1) 0 ∈ g.getD (out.getD i 0).toNat []
  all : ∀ S ∈ seen, ∃ x ∈ out, S.getD x.toNat false = true
/-- a round -/
structure RoOK (g : Graph) (n : Nat) (sets : List (List Bool)) (out : List Int) : Prop where
  ne : 0 < out.length
  len : out.length ≤ 1 + (sets.length + 1) * g.length
  rg : okL g.length out
  st : out.getD 0 0 = (n : Int)
  ed : ∀ i, i + 1 < out.length → out.getD (i + 1) 0 ∈ g.getD (out.getD i 0).toNat []
  cl : (n : Int) ∈ g.getD (out.getD (out.length - 1) 0).toNat []
  all : ∀ S ∈ sets, ∃ x ∈ out, S.getD x.toNat false = true
section
variable {g : Graph} {part : List Int} {n : Nat} {seen : List (List Bool)} {out : List Int}
theorem RoI.start (hn : n < g.length) : RoI g part n [] [(n : Int)] :=
  ⟨by simp, by simp, fun x hx => by rw [List.mem_singleton] at hx; subst hx; omega, fun x hx => by rw [List.mem_singleton] at hx; subst hx; simp, rfl, fun i hi => by simp at hi, fun S hS => by cases hS⟩
theorem RoI.skip (h : RoI g part n seen out) {S : List Bool} (hS : ∃ x ∈ out, S.getD x.toNat false = true) : RoI g part n (seen ++ [S]) out :=
  ⟨h.ne, by have := h.len; rw [List.length_append, Nat.add_mul]; omega, h.rg, h.pt, h.st, h.ed, fun S' hS' => by
    rcases List.mem_append.1 hS' with h1 | h1
    · exact h.all S' h1
    · rw [List.mem_singleton] at h1; subst h1; exact hS⟩
theorem getI_app1 {l k : List Int} {i : Nat} (h : i < l.length) : (l ++ k).getD i 0 = l.getD i 0 := getDP_left h
theorem getI_app2 {l k : List Int} {i : Nat} (h : l.length ≤ i) : (l ++ k).getD i 0 = k.getD (i - l.length) 0 := by
  rw [List.getD_eq_getElem?_getD, List.getElem?_append_right h, ← List.getD_eq_getElem?_getD]
theorem getI_drop1 {l : List Int} {i : Nat} : (l.drop 1).getD i 0 = l.getD (i + 1) 0 := by
  rw [List.getD_eq_getElem?_getD, List.getElem?_drop, ← List.getD_eq_getElem?_getD, Nat.add_comm]
theorem wy_pt {fr : List Int} {to : Nat → Bool} {c : Int} {l : List Int} (h0 : 0 ≤ c) (h : WyOK g fr to (alB part c) l) (hf : ∀ x ∈ fr, part.getD x.toNat 0 = c) : ∀ x ∈ l, part.getD x.toNat 0 = c := fun x hx => by
  obtain ⟨i, hi, rfl⟩ := List.mem_iff_getElem.1 hx
  have e : l[i] = l.getD i 0 := by rw [List.getD_eq_getElem?_getD, List.getElem?_eq_getElem hi]; rfl
  rw [e]
  cases i with
  | zero => exact hf _ h.st
  | succ i => exact (alB_only h0).1 (h.ed i hi).2
/-- on to the next set -/
theorem RoI.go (h : RoI g part n seen out) (h0 : 0 ≤ part.getD n 0) {S : List Bool} {l : List Int} (hl : WyOK g [out.getD (out.length - 1) 0] (fun k => S.getD k false) (alB part (part.getD n 0)) l) : RoI g part n (seen ++ [S]) (out ++ l.drop 1) := by
  have hne := h.ne
  have hln := hl.ne
  have hst : l.getD 0 0 = out.getD (out.length - 1) 0 := by simpa using hl.st
  have hom : out.getD (out.length - 1) 0 ∈ out := by rw [List.getD_eq_getElem?_getD, List.getElem?_eq_getElem (by omega)]; exact List.getElem_mem _
  have hlp := wy_pt h0 hl (fun x hx => by rw [List.mem_singleton] at hx; subst hx; exact h.pt _ hom)
  have hdl : (l.drop 1).length = l.length - 1 := List.length_drop
  refine ⟨by rw [List.length_append]; omega, ?_, fun x hx => ?_, fun x hx => ?_, by rw [getI_app1 hne]; exact h.st, fun i hi => ?_, fun S' hS' => ?_⟩
  · have := h.len; have := hl.len
    rw [List.length_append, List.length_append, List.length_drop, Nat.add_mul]; simp; omega
  · rcases List.mem_append.1 hx with hx | hx
    · exact h.rg x hx
    · exact hl.rg x (List.mem_of_mem_drop hx)
  · rcases List.mem_append.1 hx with hx | hx
    · exact h.pt x hx
    · exact hlp x (List.mem_of_mem_drop hx)
  · rw [List.length_append, hdl] at hi
    by_cases e : i + 1 < out.length
    · rw [getI_app1 e, getI_app1 (by omega)]; exact h.ed i e
    · rw [getI_app2 (i := i + 1) (by omega), getI_drop1]
      by_cases e2 : i < out.length
      · obtain rfl : i = out.length - 1 := by omega
        rw [getI_app1 e2, ← hst, show out.length - 1 + 1 - out.length + 1 = 0 + 1 by omega]
        exact (hl.ed 0 (by omega)).1
      · rw [getI_app2 (i := i) (by omega), getI_drop1, show i + 1 - out.length + 1 = (i - out.length + 1) + 1 by omega]
        exact (hl.ed _ (by omega)).1
  · rcases List.mem_append.1 hS' with h1 | h1
    · obtain ⟨x, hx, hs⟩ := h.all S' h1
      exact ⟨x, List.mem_append_left _ hx, hs⟩
    · rw [List.mem_singleton] at h1; subst h1
      by_cases e : l.length = 1
      · refine ⟨_, List.mem_append_left _ hom, ?_⟩
        have := hl.en
        rw [e] at this
        rw [← hst]; exact this
      · refine ⟨l.getD (l.length - 1) 0, List.mem_append_right _ ?_, hl.en⟩
        rw [List.mem_iff_getElem]
        refine ⟨l.length - 2, by omega, ?_⟩
        rw [List.getElem_drop, List.getD_eq_getElem?_getD, List.getElem?_eq_getElem (by omega)]
        simp only [Option.getD_some]
        congr 1
        omega
/-- back to the first -/
theorem RoI.close (h : RoI g part n seen out) {fr : List Int} {al : Nat → Bool} {l : List Int} (hf : ∀ x ∈ fr, x ∈ g.getD (out.getD (out.length - 1) 0).toNat []) (hl : WyOK g fr (fun k => decide (k = n)) al l) : RoOK g n seen (out ++ l.take (l.length - 1)) := by
  have hne := h.ne
  have hln := hl.ne
  have hst := hf _ hl.st
  have htl : (l.take (l.length - 1)).length = l.length - 1 := by rw [List.length_take]; omega
  have hgt : ∀ i, i < l.length - 1 → (l.take (l.length - 1)).getD i 0 = l.getD i 0 := fun i hi => by
    rw [List.getD_eq_getElem?_getD, List.getElem?_take_of_lt hi, ← List.getD_eq_getElem?_getD]
  have hen : l.getD (l.length - 1) 0 = (n : Int) := by
    have h1 := hl.en
    have h2 : 0 ≤ l.getD (l.length - 1) 0 := by
      rw [List.getD_eq_getElem?_getD, List.getElem?_eq_getElem (by omega)]
      exact (hl.rg _ (List.getElem_mem (by omega))).1
    simp only [decide_eq_true_eq] at h1
    omega
  refine ⟨by rw [List.length_append]; omega, ?_, fun x hx => ?_, by rw [getI_app1 hne]; exact h.st, fun i hi => ?_, ?_, fun S hS => ?_⟩
  · have := h.len; have := hl.len
    rw [List.length_append, htl, Nat.add_mul]; omega
  · rcases List.mem_append.1 hx with hx | hx
    · exact h.rg x hx
    · exact hl.rg x (List.mem_of_mem_take hx)
  · rw [List.length_append, htl] at hi
    by_cases e : i + 1 < out.length
    · rw [getI_app1 e, getI_app1 (by omega)]; exact h.ed i e
    · rw [getI_app2 (i := i + 1) (by omega), hgt _ (by omega)]
      by_cases e2 : i < out.length
      · obtain rfl : i = out.length - 1 := by omega
        rw [getI_app1 e2, show out.length - 1 + 1 - out.length = 0 by omega]
        exact hst
      · rw [getI_app2 (i := i) (by omega), hgt _ (by omega), show i + 1 - out.length = (i - out.length) + 1 by omega]
        exact (hl.ed _ (by omega)).1
  · rw [List.length_append, htl]
    by_cases e : l.length = 1
    · rw [getI_app1 (by omega), show out.length + (l.length - 1) - 1 = out.length - 1 by omega]
      rw [← hen, e]; exact hst
    · rw [getI_app2 (by omega), hgt _ (by omega), show out.length + (l.length - 1) - 1 - out.length = l.length - 2 by omega, ← hen]
      have := (hl.ed (l.length - 2) (by omega)).1
      rwa [show l.length - 2 + 1 = l.length - 1 by omega] at this
  · obtain ⟨x, hx, hs⟩ := h.all S hS
    exact ⟨x, List.mem_append_left _ hx, hs⟩
end
end Go.Proofs.Ytllpfgcngokhnaa

/-
  The least way to write a word that goes round: plain part.
-/
set_option linter.unusedVariables false
set_option linter.unusedSimpArgs false
namespace Go.Proofs.Ytllpfgcngokhnaa
open Go.RowKit

/-- d is a period from n on -/
def Per (L : Nat → Nat) (n d : Nat) : Prop := ∀ i, n ≤ i → L (i + d) = L i
theorem Per.mul {L : Nat → Nat} {n d : Nat} (h : Per L n d) : ∀ k, Per L n (k * d)
  | 0 => fun i _ => by simp
  | k + 1 => fun i hi => by
    rw [Nat.add_mul, Nat.one_mul, ← Nat.add_assoc, h _ (by omega)]
    exact Per.mul h k i hi
theorem Per.sub {L : Nat → Nat} {n p q : Nat} (hp : Per L n p) (hq : Per L n q) (h : p ≤ q) : Per L n (q - p) := by
  intro i hi
  rw [← hp (i + (q - p)) (by omega)]
  have : i + (q - p) + p = i + q := by omega
  rw [this]
  exact hq i hi
/-- an eventual period is one from where the word goes round on -/
theorem Per.early {L : Nat → Nat} {n m p d : Nat} (hp : Per L n p) (h0 : 0 < p) (hd : Per L m d) : Per L n d := by
  intro i hi
  have h1 := hp.mul m (i + d) (by omega)
  have h2 := hp.mul m i hi
  have hm : m ≤ m * p := Nat.le_mul_of_pos_right m h0
  have h3 := hd (i + m * p) (by omega)
  have e : i + m * p + d = i + d + m * p := by omega
  rw [e, h1, h2] at h3
  exact h3
/-- the least eventual period -/
def Least (L : Nat → Nat) (p : Nat) : Prop := ∀ d m, 0 < d → Per L m d → p ≤ d

/-- two ways to write one word, both least, are one -/
structure LeastW (L : Nat → Nat) (s l : List Nat) : Prop where
  pos : 0 < l.length
  same : ∀ i, lat s l i = L i
  least : Least L l.length
  tight : ∀ h : 0 < s.length, s[s.length - 1]? ≠ l[l.length - 1]?
/- WHAT least COMPUTES -/
end Go.Proofs.Ytllpfgcngokhnaa

/-
  Package world: what Check, Good and Word compute; a path written otherwise. Plain part.
-/
set_option linter.unusedVariables false
set_option linter.unusedSimpArgs false
namespace Go.Proofs.Ytllpfgcngokhnaa
open Go.RowKit

def chkN (n : Nat) (l : List Int) : Bool := decide (l.length = 0) || oddB n l
def chkWd (st : List Int) (nx : List (List Int)) (k : Nat) (fr : List (List Int)) : Int :=
  if nx.length > 600 ∨ fr.length > 80 then 2 else if k ≠ nx.length ∨ oddB nx.length st = true then 1 else if nx.any (chkN nx.length) = true then 1 else if fr.any (oddB nx.length) = true then 1 else 0
theorem chkWd_ok {st : List Int} {nx : List (List Int)} {k : Nat} {fr : List (List Int)} (h : chkWd st nx k fr = 0) : nx.length ≤ 600 ∧ fr.length ≤ 80 ∧ k = nx.length ∧ okL nx.length st ∧ (∀ l ∈ nx, 0 < l.length ∧ okL nx.length l) ∧ ∀ l ∈ fr, okL nx.length l := by
  unfold chkWd at h
  split at h
  · cases h
  split at h
  · cases h
  split at h
  · cases h
  split at h
  · cases h
  rename_i h1 h2 h3 h4
  refine ⟨by omega, by omega, ?_, ?_, ?_, ?_⟩
  · by_cases e : k = nx.length
    · exact e
    · exact absurd (.inl e) h2
  · rw [← oddB_false]
    cases e : oddB nx.length st
    · rfl
    · exact absurd (.inr e) h2
  · intro l hl
    have h3 : nx.any (chkN nx.length) = false := by simpa using h3
    rw [List.any_eq_false] at h3
    have := h3 l hl
    simp only [chkN, Bool.or_eq_true, decide_eq_true_eq, not_or, Bool.not_eq_true] at this
    exact ⟨by omega, oddB_false.1 this.2⟩
  · intro l hl
    have h4 : fr.any (oddB nx.length) = false := by simpa using h4
    rw [List.any_eq_false] at h4
    exact oddB_false.1 (by simpa using h4 l hl)

def toPw (al l : List Int) (i : Nat) : Int := if i + 1 < al.length then al.getD (i + 1) 0 else l.getD 0 0
def stepB (nx : List (List Int)) (al l : List Int) (i : Nat) : Bool := (nx.getD (al.getD i 0).toNat []).contains (toPw al l i)
def goodB (st : List Int) (nx fr : List (List Int)) (al l : List Int) : Bool :=
  st.contains (al.getD 0 0) && (List.range al.length).all (stepB nx al l) && fr.all (fun f => f.any (fun x => l.contains x))
def goodF (st : List Int) (nx : List (List Int)) (k : Nat) (fr : List (List Int)) (s l : List Int) : Bool × Int :=
  if chkWd st nx k fr ≠ 0 then (false, chkWd st nx k fr) else if s.length > 60000 ∨ l.length > 60000 - s.length then (false, 2)
  else if l.length = 0 ∨ oddB nx.length s = true ∨ oddB nx.length l = true then (false, 0) else (goodB st nx fr (s ++ l) l, 0)

/- paths as words -/
theorem int_nat {n : Nat} {l : List Int} (h : okL n l) : (l.map Int.toNat).map Int.ofNat = l := by
  rw [List.map_map]
  conv => rhs; rw [← List.map_id l]
  refine List.map_congr_left fun x hx => ?_
  have := h x hx
  show Int.ofNat x.toNat = x
  have h2 : (x.toNat : Int) = x := Int.toNat_of_nonneg (by omega)
  exact h2
theorem getD_nat {l : List Nat} {i : Nat} (h : i < l.length) : (l.map Int.ofNat).getD i 0 = ((l.getD i 0 : Nat) : Int) := by
  rw [List.getD_eq_getElem?_getD, List.getElem?_map, List.getElem?_eq_getElem h, List.getD_eq_getElem?_getD, List.getElem?_eq_getElem h]; rfl
theorem all_lat {s l : List Nat} {i : Nat} (h : i < (s ++ l).length) : (((s ++ l).map Int.ofNat).getD i 0) = (lat s l i : Int) := by
  rw [getD_nat h]
  unfold lat
  rw [List.length_append] at h
  by_cases h1 : i < s.length
  · rw [if_pos h1, List.getD_eq_getElem?_getD, List.getElem?_append_left h1, ← List.getD_eq_getElem?_getD]
  · rw [if_neg h1, List.getD_eq_getElem?_getD, List.getElem?_append_right (by omega), ← List.getD_eq_getElem?_getD, Nat.mod_eq_of_lt (by omega)]
def edgeB (nx : List (List Int)) (s l : List Nat) (i : Nat) : Bool := (nx.getD (lat s l i) []).contains ((lat s l (i + 1) : Nat) : Int)
theorem stepB_lat {nx : List (List Int)} {s l : List Nat} (h0 : 0 < l.length) {i : Nat} (h : i < (s ++ l).length) : stepB nx ((s ++ l).map Int.ofNat) (l.map Int.ofNat) i = edgeB nx s l i := by
  unfold stepB edgeB
  have e2 : toPw ((s ++ l).map Int.ofNat) (l.map Int.ofNat) i = ((lat s l (i + 1) : Nat) : Int) := by
    unfold toPw
    rw [List.length_map]
    by_cases h1 : i + 1 < (s ++ l).length
    · rw [if_pos h1, all_lat h1]
    · rw [if_neg h1, getD_nat h0]
      have e : i + 1 = s.length + l.length := by rw [List.length_append] at h h1; omega
      rw [e]
      unfold lat
      rw [if_neg (by omega), Nat.add_sub_cancel_left, Nat.mod_self]
  rw [e2, all_lat h]
  rfl
theorem edges_all {nx : List (List Int)} {s l : List Nat} (h0 : 0 < l.length) : (List.range ((s ++ l).map Int.ofNat).length).all (stepB nx ((s ++ l).map Int.ofNat) (l.map Int.ofNat)) = true ↔ ∀ i, edgeB nx s l i = true := by
  rw [List.all_eq_true, List.length_map]
  constructor
  · intro h i
    have hlt := Nat.mod_lt (i - s.length) h0
    have key : ∀ j, j < (s ++ l).length → edgeB nx s l j = true := fun j hj => by rw [← stepB_lat h0 hj]; exact h j (List.mem_range.2 hj)
    rw [List.length_append] at key
    by_cases h1 : i < s.length
    · exact key i (by omega)
    · have hj := key (s.length + (i - s.length) % l.length) (by omega)
      have one : ∀ k, s.length ≤ k → lat s l k = l.getD ((k - s.length) % l.length) 0 := fun k hk => by unfold lat; rw [if_neg (by omega)]
      unfold edgeB at hj ⊢
      rw [one _ (by omega), one _ (by omega)] at hj ⊢
      have e1 : (s.length + (i - s.length) % l.length - s.length) % l.length = (i - s.length) % l.length := by rw [Nat.add_sub_cancel_left, Nat.mod_mod]
      have e2 : (s.length + (i - s.length) % l.length + 1 - s.length) % l.length = (i + 1 - s.length) % l.length := by
        have : s.length + (i - s.length) % l.length + 1 - s.length = (i - s.length) % l.length + 1 := by omega
        rw [this]
        have : i + 1 - s.length = (i - s.length) + 1 := by omega
        rw [this, Nat.mod_add_mod]
      rw [e1, e2] at hj
      exact hj
  · intro h i hi
    rw [stepB_lat h0 (List.mem_range.1 hi)]
    exact h i
/- words of paths -/
def labL (lb : List Nat) (l : List Int) : List Nat := l.map fun x => lb.getD x.toNat 0
def wordF (st : List Int) (nx : List (List Int)) (lb : List Nat) (fr : List (List Int)) (s l : List Int) : (List Nat × List Nat) × Int :=
  if chkWd st nx lb.length fr ≠ 0 then (([], []), chkWd st nx lb.length fr) else if l.length = 0 ∨ oddB nx.length s = true ∨ oddB nx.length l = true then (([], []), 1)
  else if chkW (labL lb s) (labL lb l) ≠ 0 then (([], []), chkW (labL lb s) (labL lb l)) else ((labL lb s, labL lb l), 0)
theorem wordF_ok {st : List Int} {nx : List (List Int)} {lb : List Nat} {fr : List (List Int)} {s l : List Int} (h : (wordF st nx lb fr s l).2 = 0) :
    (wordF st nx lb fr s l).1 = (labL lb s, labL lb l) ∧ chkW (labL lb s) (labL lb l) = 0 := by
  unfold wordF at h ⊢
  split at h
  · exact absurd h (by assumption)
  split at h
  · cases h
  split at h
  · exact absurd h (by assumption)
  rename_i h1 h2 h3
  rw [if_neg h1, if_neg h2, if_neg h3]
  exact ⟨rfl, by simpa using h3⟩
end Go.Proofs.Ytllpfgcngokhnaa

/-
  A list of lists while it is built row by row: plain lists.
-/
set_option linter.unusedVariables false
set_option linter.unusedSimpArgs false
namespace Go.Proofs.Ytllpfgcngokhnaa

section
variable {α : Type} {N : Nat} {full : Nat → List α} {x0 : Nat} {part : List α}
end
end Go.Proofs.Ytllpfgcngokhnaa

/-
  Results that lie in a variable; slices that are read, later on; slices cut with their capacity. Over any program.
-/
set_option linter.unusedVariables false
set_option linter.unusedSimpArgs false
namespace Go.Proofs.Ytllpfgcngokhnaa
open Go.RowKit

theorem results_cell {fn : Func} {a : Nat} {t : TypeId} (h : fn.results = #[.cell a t]) (tmps : Array Value) (P : Program) (w : World) {p : Addr} {v : Value} (ha : tmps.getD a undef = .pointer (some p)) (hl : (loadVar t p).run P w = .ok v w) :
    (results fn tmps).run P w = .ok v w := by
  simp only [Array.getD_eq_getD_getElem?] at ha
  simp [results, h, ha, asAddr, hl]
theorem EX.retC {P : Program} {n : Nat} {σ : Sg} {w : World} {fn : Func} {a b : Nat} {t e : TypeId} {cells : List Value} {k : Nat} {R : Value → World → Prop} (hr : fn.results = #[.cell a t]) (ha : fnd σ a = some (.pointer (some ⟨b, 0, none⟩))) [hc : IsC P t k true] (hb : Blk w b e cells) (hk : lenL cells = k) (h : R (.agg cells.toArray) w) :
    EX (bodyPost P fn fun e w' => ∃ v, e = .returned v ∧ R v w') .ret n σ w := by
  unfold EX; intro ac hac
  refine bodyPost_ret (results_cell hr _ _ _ (hac.slot a _ ha) (v := .agg cells.toArray) ?_) hac.defers ⟨_, rfl, h⟩
  rw [lenL_eq] at hk
  have hld := run_loadCells_list (P := P) w ⟨b, 0, none⟩ cells (fun j u hu => by rw [WideShapes.add_plain, Nat.zero_add]; exact hb.cell hu)
  obtain ⟨i, dd, h1, h2, h3, h4⟩ := hc.ok
  have hagg : (isAgg t).run P w = .ok true w := by
    unfold isAgg
    rw [Sem.run_bind, run_underlying h3 w, ← h4]
    cases dd <;> rfl
  rw [hk] at hld
  simp [loadVar, hagg, sizeOf, typeInfo, h1, h2, hld]
theorem results_cell2 {fn : Func} {a u : Nat} {t : TypeId} (h : fn.results = #[.cell a t, .tmp u]) (tmps : Array Value) (P : Program) (w : World) {p : Addr} {v : Value} (ha : tmps.getD a undef = .pointer (some p)) (hl : (loadVar t p).run P w = .ok v w) :
    (results fn tmps).run P w = .ok (.tuple ⟨[v, tmps.getD u undef]⟩) w := by
  simp only [Array.getD_eq_getD_getElem?] at ha ⊢
  simp [results, h, ha, asAddr, hl]
theorem EX.retC2 {P : Program} {n : Nat} {σ : Sg} {w : World} {fn : Func} {a b u : Nat} {t e : TypeId} {cells : List Value} {k : Nat} {x : Value} {R : Value → World → Prop} (hr : fn.results = #[.cell a t, .tmp u]) (ha : fnd σ a = some (.pointer (some ⟨b, 0, none⟩))) (hu : fnd σ u = some x) [hc : IsC P t k true] (hb : Blk w b e cells) (hk : lenL cells = k) (h : R (.tuple ⟨[.agg cells.toArray, x]⟩) w) :
    EX (bodyPost P fn fun e w' => ∃ v, e = .returned v ∧ R v w') .ret n σ w := by
  unfold EX; intro ac hac
  refine bodyPost_ret (results_cell2 hr _ _ _ (hac.slot a _ ha) (v := .agg cells.toArray) ?_) hac.defers ⟨_, by rw [hac.slot u x hu], h⟩
  rw [lenL_eq] at hk
  have hld := run_loadCells_list (P := P) w ⟨b, 0, none⟩ cells (fun j u hu => by rw [WideShapes.add_plain, Nat.zero_add]; exact hb.cell hu)
  obtain ⟨i, dd, h1, h2, h3, h4⟩ := hc.ok
  have hagg : (isAgg t).run P w = .ok true w := by
    unfold isAgg
    rw [Sem.run_bind, run_underlying h3 w, ← h4]
    cases dd <;> rfl
  rw [hk] at hld
  simp [loadVar, hagg, sizeOf, typeInfo, h1, h2, hld]
theorem Sl.zero {α : Type} [Rep α] (w : World) (F : Nat → Prop) : Sl w F none 0 ([] : List α) := ⟨by simp, by simp [maxLen], fun _ => rfl, fun i hi => absurd hi (by simp)⟩
theorem Sl.up0 {α : Type} [Rep α] {w w' : World} {F : Nat → Prop} {ao : Option Addr} {cap : Nat} {xs : List α} (h : Sl w F ao cap xs) (hE : Ext w w') (hF : ∀ b, F b → b < w.heap.size) : Sl w' F ao cap xs := h.mono (fun b hb => hE.block b (hF b hb)) fun _ h => h
section
variable {P : Program} {Q : Exit → Act → World → Prop} {n : Nat} {σ : Sg} {w : World} {L rest : List Oper} {d : Nat} {ty : TypeId} {pos : String} {af : Array Edge} {g : Option (Nat × Bool)} {t e : TypeId} {α : Type} [Rep α] {F : Nat → Prop}
end
end Go.Proofs.Ytllpfgcngokhnaa

/-
  watchkeep.unrolled: a word written otherwise.
-/
set_option linter.unusedVariables false
set_option linter.unusedSimpArgs false
namespace Go.Proofs.Ytllpfgcngokhnaa
open Go.RowKit

end Go.Proofs.Ytllpfgcngokhnaa

