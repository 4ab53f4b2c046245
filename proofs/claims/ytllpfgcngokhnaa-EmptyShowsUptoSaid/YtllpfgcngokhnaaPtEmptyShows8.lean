import Derived.Test.YtllpfgcngokhnaaPtEmptyShows7
/-
  Package lasso: next, not, until.
-/
set_option linter.unusedVariables false
set_option linter.unusedSimpArgs false
namespace Go.Proofs.Ytllpfgcngokhnaa
open Go.RowKit

def nextL (s l : List Nat) (i : Nat) : Nat := if i + 1 = s.length + l.length then s.length else i + 1
theorem next_ok (w : World) {so lo : Option Addr} {sc lc : Nat} {s l : List Nat} (i : Nat) (hn : s.length + l.length ≤ 60) (hi : i < s.length + l.length) :
    Rt Try.prog 174 [wordV so sc lo lc s l, .int .i64 (i : Int)].toArray w fun v w' => v = .int .i64 (nextL s l i : Int) ∧ Ext w w' := by
  refine Rt.enter2 Try.func174 Try.ntmps174 rfl rfl ?_
  (repeat (first | (apply CW.seq) | (apply CW.region)))
  refine WL.boxB rfl rfl rfl fun w1 hb hE => ?_
  (repeat (first | (apply WL.add; rfl; rfl; rfl; rfl; omega; omega) | (apply WL.pure; rfl; rfl; rfl) | (apply WL.nil) | (apply EX.thenN) | (apply CW.seq) | (apply CW.region) | (apply WL.lenS; rfl; rfl; rfl) | (apply WL.fa; rfl; rfl; rfl) | (apply WL.ld; rfl; rfl; rfl; assumption; rfl)))
  refine CW.cond rfl (fun h => ?_) (fun h => ?_) <;> simp at h
  · (repeat (first | (apply WL.pure; rfl; rfl; rfl) | (apply WL.nil) | (apply EX.thenN) | (apply CW.seq) | (apply CW.region) | (apply WL.lenS; rfl; rfl; rfl) | (apply WL.fa; rfl; rfl; rfl) | (apply WL.ld; rfl; rfl; rfl; assumption; rfl) | (apply CW.ret) | (apply EX.thenR)))
    refine EX.ret1 rfl rfl ⟨?_, hE⟩
    unfold nextL; rw [if_pos (by omega)]
  · (repeat (first | (apply WL.add; rfl; rfl; rfl; rfl; omega; omega) | (apply WL.pure; rfl; rfl; rfl) | (apply WL.nil) | (apply EX.thenN) | (apply CW.seq) | (apply CW.region) | (apply CW.ret) | (apply CW.skip)))
    refine EX.ret1 rfl rfl ⟨?_, hE⟩
    unfold nextL; rw [if_neg (by omega)]; rfl

theorem not_ok (w : World) {ao : Option Addr} {cap : Nat} {xs : List Bool} {F : Nat → Prop} (hs : Sl w F ao cap xs) (hF : ∀ b, F b → b < w.heap.size) (hl : xs.length ≤ 100000) :
    Rt Try.prog 171 [.slice ao xs.length cap].toArray w fun v w' => Own w' w.heap.size 4 Non v (xs.map (!·)) ∧ Ext w w' := by
  refine Rt.enter1 Try.func171 Try.ntmps171 rfl rfl ?_
  (repeat (first | (apply WL.pure; rfl; rfl; rfl) | (apply WL.nil) | (apply EX.thenN) | (apply CW.seq) | (apply CW.region) | (apply WL.lenS; rfl; rfl; rfl)))
  refine WL.make (α := Bool) (x0 := false) (bytes := 1) rfl rfl rfl rfl (by omega) (by unfold maxLen; omega) (fun w1 ho hgr => ?_)
  have hE1 : Ext w w1 := (Ext.refl w).grown hgr (Nat.le_refl _) (fun k h => by cases h)
  generalize hv : Value.slice (some ⟨w.heap.size, 0, none⟩) xs.length xs.length = v at *
  (repeat (first | (apply WL.pure; rfl; rfl; rfl) | (apply WL.nil) | (apply EX.thenN) | (apply CW.seq) | (apply CW.region) | (apply WL.lenS; rfl; rfl; rfl) | (apply CW.block)))
  refine CW.loop (S := Nat) (fun k => [(3, v), (9, .slice ao xs.length cap), (10, .int .i64 (xs.length : Int)), (11, .int .i64 (k : Int))])
    (fun k w' => Ext w w' ∧ k ≤ xs.length ∧ Own w' w.heap.size 4 Non v ((xs.take k).map (!·) ++ List.replicate (xs.length - k) false)) (fun k => xs.length - k) 0 (by repeat (first | exact trivial | refine ⟨rfl, ?_⟩)) ⟨hE1, by omega, by simpa using ho⟩ ?_
  rintro k w2 ⟨hE2, hk, ho⟩
  (repeat (first | (apply WL.pure; rfl; rfl; rfl) | (apply WL.nil) | (apply EX.thenN) | (apply CW.seq) | (apply CW.region)))
  refine CW.cond rfl (fun h => ?_) (fun h => ?_) <;> simp at h
  · (repeat (first | (apply WL.pure; rfl; rfl; rfl) | (apply EX.thenN) | (apply CW.seq) | (apply CW.region) | (apply CW.block) | (apply CW.skip)))
    have hs2 := hs.mono (fun b hb => hE2.block b (hF b hb)) fun _ h => h
    refine WL.elemB rfl rfl rfl rfl rfl hs2 h rfl (fun _ => rfl) (fun q => ?_)
    (repeat (first | (apply WL.pure; rfl; rfl; rfl) | (apply WL.nil) | (apply EX.thenN) | (apply CW.region)))
    refine WL.setN (α := Bool) (yv := !xs[k]) rfl rfl rfl rfl ho (by simp; omega) (fun _ => rfl) (fun _ => rfl) (Rd.mkBool _ _ _) (fun w3 p ho3 hgr3 => ?_)
    have hE3 : Ext w w3 := hE2.grown hgr3 hE2.size (fun g hg => (ho.lt g hg).1)
    (repeat (first | (apply WL.add; rfl; rfl; rfl; rfl; omega; omega) | (apply WL.pure; rfl; rfl; rfl) | (apply WL.nil) | (apply EX.thenN) | (apply CW.region) | (apply EX.inN)))
    refine EX.back (k + 1) (by repeat (first | exact trivial | refine ⟨rfl, ?_⟩)) ⟨hE3, by omega, ?_⟩ (by omega)
    have e : (List.map (!·) (xs.take k) ++ List.replicate (xs.length - k) false).set k (!xs[k]) = List.map (!·) (xs.take (k + 1)) ++ List.replicate (xs.length - (k + 1)) false := by
      rw [List.set_append_right _ _ (by simp; omega)]
      have h0 : k - (List.map (!·) (xs.take k)).length = 0 := by simp; omega
      rw [h0, show xs.length - k = (xs.length - (k + 1)) + 1 by omega, List.replicate_succ, List.set_cons_zero, List.take_succ_eq_append_getElem h, List.map_append]
      simp
    rw [← e]; exact ho3
  · have : k = xs.length := by omega
    subst this
    (repeat (first | (apply WL.pure; rfl; rfl; rfl) | (apply WL.nil) | (apply EX.thenN) | (apply CW.seq) | (apply CW.region) | (apply CW.exit) | (apply EX.thenX) | (apply EX.inX) | (apply CW.ret)))
    refine EX.ret1 rfl rfl ⟨?_, hE2⟩
    simpa using ho

/-- one round of until, from behind -/
def untilR (s l : List Nat) (a b : List Bool) : Nat → List Bool → List Bool
  | 0, out => out
  | i + 1, out => untilR s l a b i (out.set i (b.getD i false || (a.getD i false && out.getD (nextL s l i) false)))
def untilL (s l : List Nat) (a b : List Bool) : List Bool := untilR s l a b a.length (untilR s l a b a.length (List.replicate a.length false))
theorem untilR_len (s l : List Nat) (a b : List Bool) : ∀ i out, (untilR s l a b i out).length = out.length
  | 0, out => rfl
  | i + 1, out => by rw [untilR, untilR_len s l a b i, List.length_set]
theorem untilL_len (s l : List Nat) (a b : List Bool) : (untilL s l a b).length = a.length := by unfold untilL; rw [untilR_len, untilR_len, List.length_replicate]

theorem until_ok (w : World) {so lo : Option Addr} {sc lc : Nat} {s l : List Nat} {ao bo : Option Addr} {ac bc : Nat} {a b : List Bool} {F : Nat → Prop} (ha : Sl w F ao ac a) (hb : Sl w F bo bc b) (hF : ∀ b, F b → b < w.heap.size)
    (hn : s.length + l.length ≤ 60) (hl : a.length = s.length + l.length) (hl2 : b.length = s.length + l.length) (h0 : 0 < l.length) :
    Rt Try.prog 172 [wordV so sc lo lc s l, .slice ao a.length ac, .slice bo b.length bc].toArray w fun v w' => Own w' w.heap.size 4 Non v (untilL s l a b) ∧ Ext w w' := by
  refine Rt.enter3 Try.func172 Try.ntmps172 rfl rfl ?_
  (repeat (first | (apply CW.seq) | (apply CW.region)))
  refine WL.boxB rfl rfl rfl fun w0 hw hE0 => ?_
  have hwl := hw.lt
  have hbk : w.heap.size ≤ w0.heap.size := hE0.size
  (repeat (first | (apply WL.pure; rfl; rfl; rfl) | (apply WL.nil) | (apply EX.thenN) | (apply CW.seq) | (apply CW.region) | (apply WL.lenS; rfl; rfl; rfl)))
  refine WL.make (α := Bool) (x0 := false) (bytes := 1) rfl rfl rfl rfl (by omega) (by unfold maxLen; omega) (fun w1 ho hgr => ?_)
  have hE1 : Ext w0 w1 := (Ext.refl w0).grown hgr (Nat.le_refl _) (fun k h => by cases h)
  generalize hv : Value.slice (some ⟨w0.heap.size, 0, none⟩) a.length a.length = v at *
  (repeat (first | (apply WL.pure; rfl; rfl; rfl) | (apply WL.nil) | (apply EX.thenN) | (apply CW.seq) | (apply CW.region) | (apply CW.block)))
  refine CW.loop (S := Nat × List Bool) (fun x => [(1, .slice ao a.length ac), (2, .slice bo b.length bc), (3, .pointer (some ⟨w.heap.size, 0, none⟩)), (7, .int .i64 (a.length : Int)), (8, v), (14, .int .i64 (x.1 : Int))])
    (fun x w' => Ext w0 w' ∧ Own w' w0.heap.size 4 Non v x.2 ∧ x.2.length = a.length ∧ (x.1 = 0 ∧ x.2 = List.replicate a.length false ∨ x.1 = 1 ∧ x.2 = untilR s l a b a.length (List.replicate a.length false) ∨ x.1 = 2 ∧ x.2 = untilL s l a b)) (fun x => 2 - x.1) (0, List.replicate a.length false) (by repeat (first | exact trivial | refine ⟨rfl, ?_⟩)) ⟨hE1, ho, by simp, .inl ⟨rfl, rfl⟩⟩ ?_
  rintro ⟨r, out0⟩ w2 ⟨hE2, ho, hol, hr⟩
  simp only at ho hol hr
  (repeat (first | (apply WL.pure; rfl; rfl; rfl) | (apply WL.nil) | (apply EX.thenN) | (apply CW.seq) | (apply CW.region)))
  refine CW.cond rfl (fun h => ?_) (fun h => ?_) <;> simp at h
  · (repeat (first | (apply WL.sub'; rfl; rfl; rfl; rfl; omega; omega) | (apply WL.pure; rfl; rfl; rfl) | (apply WL.nil) | (apply EX.thenN) | (apply CW.seq) | (apply CW.region) | (apply CW.block) | (apply CW.skip)))
    refine CW.loop (S := Int × List Bool) (fun x => [(1, .slice ao a.length ac), (2, .slice bo b.length bc), (3, .pointer (some ⟨w.heap.size, 0, none⟩)), (7, .int .i64 (a.length : Int)), (8, v), (9, .int .i64 x.1), (14, .int .i64 (r : Int))])
      (fun x w' => Ext w0 w' ∧ Own w' w0.heap.size 4 Non v x.2 ∧ x.2.length = a.length ∧ -1 ≤ x.1 ∧ x.1 < a.length ∧ untilR s l a b (x.1 + 1).toNat x.2 = untilR s l a b a.length out0) (fun x => (x.1 + 1).toNat) ((a.length : Int) - 1, out0) (by repeat (first | exact trivial | refine ⟨rfl, ?_⟩)) ⟨hE2, ho, hol, by simp only; omega, by simp only; omega, by simp only; rw [show ((a.length : Int) - 1 + 1).toNat = a.length by omega]⟩ ?_
    rintro ⟨i, out⟩ w3 ⟨hE3, ho3, hol3, hi0, hi1, heq⟩
    simp only at ho3 hol3 hi0 hi1 heq
    (repeat (first | (apply WL.pure; rfl; rfl; rfl) | (apply WL.nil) | (apply EX.thenN) | (apply CW.seq) | (apply CW.region)))
    refine CW.cond rfl (fun h1 => ?_) (fun h1 => ?_) <;> simp at h1
    · obtain ⟨k, rfl⟩ := Int.eq_ofNat_of_zero_le h1
      have hka : k < a.length := by omega
      have hkb : k < b.length := by omega
      have hE3' := hE0.trans hE3
      have ha3 := ha.mono (fun b hb => hE3'.block b (hF b hb)) fun _ h => h
      have hb3 := hb.mono (fun b hb => hE3'.block b (hF b hb)) fun _ h => h
      have hw3 := hw.ext hE3
      have e1 : ((k : Int) + 1).toNat = k + 1 := by omega
      rw [e1] at heq
      simp only [untilR] at heq
      have ga : a.getD k false = a[k] := by rw [List.getD_eq_getElem?_getD, List.getElem?_eq_getElem hka]; rfl
      have gb : b.getD k false = b[k] := by rw [List.getD_eq_getElem?_getD, List.getElem?_eq_getElem hkb]; rfl
      rw [ga, gb] at heq
      have fin : ∀ (y : Bool), y = (b[k] || (a[k] && out.getD (nextL s l k) false)) → ∀ w4, Ext w0 w4 → Own w4 w0.heap.size 4 Non v (out.set k y) → (Ext w0 w4 ∧ Own w4 w0.heap.size 4 Non v (out.set k y) ∧ (out.set k y).length = a.length ∧ -1 ≤ (k : Int) - 1 ∧ (k : Int) - 1 < a.length ∧ untilR s l a b ((k : Int) - 1 + 1).toNat (out.set k y) = untilR s l a b a.length out0) := by
        rintro y rfl w4 h4 ho4
        refine ⟨h4, ho4, by simpa using hol3, by omega, by omega, ?_⟩
        rw [show ((k : Int) - 1 + 1).toNat = k by omega]; exact heq
      (repeat (first | (apply WL.pure; rfl; rfl; rfl) | (apply EX.thenN) | (apply CW.seq) | (apply CW.region) | (apply CW.block) | (apply CW.skip)))
      refine WL.elemB rfl rfl rfl rfl rfl hb3 hkb rfl (fun _ => rfl) (fun q => ?_)
      (repeat (apply WL.pure; rfl; rfl; rfl))
      (refine WL.lookG rfl rfl (fun h => ?_) (fun h => ?_))
      · have hbk' := h
        (repeat (first | (apply WL.pure; rfl; rfl; rfl) | (apply WL.pass; rfl; rfl)))
        refine WL.setN (α := Bool) (yv := true) rfl rfl rfl rfl ho3 (by omega) (fun _ => rfl) (fun _ => rfl) (Rd.mkBool _ _ _) (fun w9 p ho9 hgr9 => ?_)
        have hE9 : Ext w0 w9 := hE3.grown hgr9 hE3.size (fun g hg => (ho3.lt g hg).1)
        (repeat (first | (apply WL.sub'; rfl; rfl; rfl; rfl; omega; omega) | (apply WL.pure; rfl; rfl; rfl) | (apply WL.nil) | (apply EX.thenN) | (apply CW.region) | (apply EX.inN)))
        exact EX.back ((k : Int) - 1, out.set k true) (by repeat (first | exact trivial | refine ⟨rfl, ?_⟩)) (fin _ (by rw [hbk']; rfl) w9 hE9 ho9) (by simp only; omega)
      · have hbk' := h
        (repeat (apply WL.pure; rfl; rfl; rfl))
        refine WL.elemB rfl rfl rfl rfl rfl ha3 hka rfl (fun _ => rfl) (fun q => ?_)
        (repeat (apply WL.pure; rfl; rfl; rfl))
        (refine WL.lookG rfl rfl (fun h => ?_) (fun h => ?_))
        · have hak := h
          (repeat (first | (apply WL.pure; rfl; rfl; rfl) | (apply WL.ldA; rfl; rfl; rfl; assumption; rfl)))
          refine WL.call rfl rfl rfl (next_ok w3 k hn (by omega)) ?_
          rintro v' w4 ⟨rfl, hE4⟩
          have ho4 := ho3.extN hE4
          have hE4 := hE3.trans hE4
          have hnx : nextL s l k < out.length := by unfold nextL; split <;> omega
          have go : out.getD (nextL s l k) false = out[nextL s l k] := by rw [List.getD_eq_getElem?_getD, List.getElem?_eq_getElem hnx]; rfl
          skip
          refine WL.elemON rfl rfl rfl rfl rfl ho4 hnx (fun _ => rfl) (fun u q hu => ?_)
          have hu := hu.bool
          subst hu
          (repeat (apply WL.pure; rfl; rfl; rfl))
          refine WL.setN (α := Bool) (yv := out[nextL s l k]) rfl rfl rfl rfl ho4 (by omega) (fun _ => rfl) (fun _ => rfl) (Rd.mkBool _ _ _) (fun w9 p ho9 hgr9 => ?_)
          have hE9 : Ext w0 w9 := hE4.grown hgr9 hE4.size (fun g hg => (ho4.lt g hg).1)
          (repeat (first | (apply WL.sub'; rfl; rfl; rfl; rfl; omega; omega) | (apply WL.pure; rfl; rfl; rfl) | (apply WL.nil) | (apply EX.thenN) | (apply CW.region) | (apply EX.inN)))
          exact EX.back ((k : Int) - 1, out.set k out[nextL s l k]) (by repeat (first | exact trivial | refine ⟨rfl, ?_⟩)) (fin _ (by rw [hbk', hak, go]; rfl) w9 hE9 ho9) (by simp only; omega)
        · have hak := h
          (repeat (first | (apply WL.pure; rfl; rfl; rfl) | (apply WL.pass; rfl; rfl)))
          refine WL.setN (α := Bool) (yv := false) rfl rfl rfl rfl ho3 (by omega) (fun _ => rfl) (fun _ => rfl) (Rd.mkBool _ _ _) (fun w9 p ho9 hgr9 => ?_)
          have hE9 : Ext w0 w9 := hE3.grown hgr9 hE3.size (fun g hg => (ho3.lt g hg).1)
          (repeat (first | (apply WL.sub'; rfl; rfl; rfl; rfl; omega; omega) | (apply WL.pure; rfl; rfl; rfl) | (apply WL.nil) | (apply EX.thenN) | (apply CW.region) | (apply EX.inN)))
          exact EX.back ((k : Int) - 1, out.set k false) (by repeat (first | exact trivial | refine ⟨rfl, ?_⟩)) (fin _ (by rw [hbk', hak]; rfl) w9 hE9 ho9) (by simp only; omega)
    · have hi : i = -1 := by omega
      subst hi
      simp only [untilR, show ((-1 : Int) + 1).toNat = 0 from rfl] at heq
      (repeat (first | (apply WL.add; rfl; rfl; rfl; rfl; omega; omega) | (apply WL.pure; rfl; rfl; rfl) | (apply WL.nil) | (apply EX.thenN) | (apply CW.region) | (apply EX.inN) | (apply CW.exit) | (apply EX.thenX) | (apply EX.inX)))
      refine EX.back (r + 1, out) (by repeat (first | exact trivial | refine ⟨rfl, ?_⟩)) ⟨hE3, ho3, hol3, ?_⟩ (by simp only; omega)
      simp only
      rcases hr with ⟨rfl, rfl⟩ | ⟨rfl, rfl⟩ | ⟨rfl, rfl⟩
      · exact .inr (.inl ⟨rfl, heq⟩)
      · exact .inr (.inr ⟨rfl, heq⟩)
      · omega
  · have hr2 : out0 = untilL s l a b := by
      rcases hr with ⟨rfl, _⟩ | ⟨rfl, _⟩ | ⟨_, h⟩
      · omega
      · omega
      · exact h
    subst hr2
    (repeat (first | (apply WL.pure; rfl; rfl; rfl) | (apply WL.nil) | (apply EX.thenN) | (apply CW.seq) | (apply CW.region) | (apply CW.exit) | (apply EX.thenX) | (apply EX.inX) | (apply CW.ret)))
    exact EX.ret1 rfl rfl ⟨ho.low hbk, hE0.trans hE2⟩
end Go.Proofs.Ytllpfgcngokhnaa
/-
  What an automaton accepts: runs, the product with a word's places, parts of a graph: plain lists, no program in sight.
-/
set_option linter.unusedVariables false
set_option linter.unusedSimpArgs false
namespace Go.Proofs.Ytllpfgcngokhnaa

/- PARTS -/
theorem Rc.lt {E : Nat → Nat → Prop} {N a b : Nat} (hN : ∀ u v, E u v → v < N) (ha : a < N) : Rc E a b → b < N
  | ⟨p, n, h⟩ => by
    cases n with
    | zero => rw [← h.last, h.first]; exact ha
    | succ n => rw [← h.last]; exact hN _ _ (h.step n (by omega))
/-- a round has a first step -/
theorem Rc.first {E : Nat → Nat → Prop} {a b c : Nat} (h1 : Rc E a b) (h2 : E b c) (h3 : Rc E c a) : ∃ u, E a u ∧ Rc E u a := by
  obtain ⟨p, n, h⟩ := h1
  cases n with
  | zero => obtain rfl : a = b := h.first.symm.trans h.last
            exact ⟨c, h2, h3⟩
  | succ n =>
    refine ⟨p 1, by have := h.step 0 (by omega); rwa [h.first] at this, Rc.trans ⟨fun i => p (i + 1), n, rfl, h.last, fun i hi => h.step (i + 1) (by omega)⟩ ((Rc.one h2).trans h3)⟩
theorem core_part {g : Graph} {part : List Int} {Ps : List (Nat → Prop)} (hg : okG g) (hp : PartsOK g part) {i : Nat} (hi : i < g.length) :
    Core (Eg g) Ps i ↔ (∃ u, u < g.length ∧ part.getD u 0 = part.getD i 0 ∧ ∃ to ∈ g.getD u [], part.getD to.toNat 0 = part.getD i 0) ∧ ∀ P ∈ Ps, ∃ x, x < g.length ∧ P x ∧ part.getD x 0 = part.getD i 0 := by
  have hN : ∀ u v, Eg g u v → v < g.length := fun u v h => h.lt hg
  have hs : ∀ a b, a < g.length → b < g.length → (part.getD a 0 = part.getD b 0 ↔ Rc (Eg g) a b ∧ Rc (Eg g) b a) := fun a b ha hb => by
    rw [hp.same a b ha hb, rch1 hg, rch1 hg]
  constructor
  · rintro ⟨⟨u, h1, h2⟩, h3⟩
    refine ⟨⟨i, hi, rfl, (u : Int), h1, ?_⟩, fun P hP => ?_⟩
    · exact ((hs u i (hN _ _ h1) hi).2 ⟨h2, Rc.one h1⟩)
    · obtain ⟨x, hx, k1, k2⟩ := h3 P hP
      exact ⟨x, Rc.lt hN hi k1, hx, (hs x i (Rc.lt hN hi k1) hi).2 ⟨k2, k1⟩⟩
  · rintro ⟨⟨u, hu, h1, to, h2, h3⟩, h4⟩
    have ht := okG_row hg u to h2
    have h2' : Eg g u to.toNat := by show ((to.toNat : Nat) : Int) ∈ _; rw [show ((to.toNat : Nat) : Int) = to by omega]; exact h2
    refine ⟨Rc.first ((hs u i hu hi).1 h1).2 h2' ((hs _ i (hN _ _ h2') hi).1 h3).1, fun P hP => ?_⟩
    obtain ⟨x, hx, h5, h6⟩ := h4 P hP
    exact ⟨x, h5, ((hs x i hx hi).1 h6).2, ((hs x i hx hi).1 h6).1⟩

/- THE NODES THAT ARE COME TO -/
structure RchdOK (g : Graph) (f : List Int) (li : List Int) (sm : Graph) : Prop where
  mem : ∀ x : Nat, (x : Int) ∈ li ↔ Rch g f x
  pos : ∀ x ∈ li, 0 ≤ x
  nodup : li.Nodup
  len : sm.length = li.length
  row : ∀ i, i < li.length → sm.getD i [] = (g.getD (li.getD i 0).toNat []).map fun to => (li.idxOf to : Int)
section
variable {g : Graph} {f li : List Int} {sm : Graph}
abbrev ndAt (li : List Int) (i : Nat) : Nat := (li.getD i 0).toNat
theorem RchdOK.at (h : RchdOK g f li sm) {i : Nat} (hi : i < li.length) : ((ndAt li i : Nat) : Int) = li.getD i 0 ∧ li.getD i 0 ∈ li := by
  have e : li.getD i 0 = li[i] := by rw [List.getD_eq_getElem?_getD, List.getElem?_eq_getElem hi]; rfl
  have hm : li.getD i 0 ∈ li := by rw [e]; exact List.getElem_mem hi
  have := h.pos _ hm
  exact ⟨by unfold ndAt; omega, hm⟩
theorem RchdOK.idx (h : RchdOK g f li sm) {x : Nat} (hx : (x : Int) ∈ li) : li.idxOf (x : Int) < li.length ∧ ndAt li (li.idxOf (x : Int)) = x := by
  have hl := List.idxOf_lt_length_iff.2 hx
  refine ⟨hl, ?_⟩
  unfold ndAt
  rw [List.getD_eq_getElem?_getD, List.getElem?_eq_getElem hl, Option.getD_some, List.getElem_idxOf hl]
  omega
theorem RchdOK.idxAt (h : RchdOK g f li sm) {i : Nat} (hi : i < li.length) : li.idxOf (li.getD i 0) = i := by
  have e : li.getD i 0 = li[i] := by rw [List.getD_eq_getElem?_getD, List.getElem?_eq_getElem hi]; rfl
  rw [e]
  exact h.nodup.idxOf_getElem i hi
theorem RchdOK.edge (h : RchdOK g f li sm) (hg : okG g) {i j : Nat} (hi : i < li.length) (hj : j < li.length) : Eg sm i j ↔ Eg g (ndAt li i) (ndAt li j) := by
  unfold Eg
  rw [h.row i hi, List.mem_map, (h.at hj).1]
  constructor
  · rintro ⟨to, h1, h2⟩
    have hr : Rch g f to.toNat := Rch.step ((h.mem _).1 (by rw [(h.at hi).1]; exact (h.at hi).2)) h1
    have h0 := (okG_row hg _ _ h1).1
    have hm : to ∈ li := by rw [show to = ((to.toNat : Nat) : Int) by omega]; exact (h.mem _).2 hr
    have hl := List.idxOf_lt_length_iff.2 hm
    have : to = li.getD j 0 := by
      have e2 : li.idxOf to = j := by omega
      rw [← e2, List.getD_eq_getElem?_getD, List.getElem?_eq_getElem hl, Option.getD_some, List.getElem_idxOf hl]
    rw [← this]; exact h1
  · intro h1
    exact ⟨_, h1, by rw [h.idxAt hj]⟩
theorem RchdOK.okG (h : RchdOK g f li sm) (hg : okG g) : okG sm := by
  intro l hl x hx
  obtain ⟨i, hi, rfl⟩ := List.mem_iff_getElem.1 hl
  have hi' : i < li.length := by rw [← h.len]; exact hi
  have e : sm[i] = sm.getD i [] := by rw [List.getD_eq_getElem?_getD, List.getElem?_eq_getElem hi]; rfl
  rw [e, h.row i hi', List.mem_map] at hx
  obtain ⟨to, h1, rfl⟩ := hx
  have hr : Rch g f to.toNat := Rch.step ((h.mem _).1 (by rw [(h.at hi').1]; exact (h.at hi').2)) h1
  have h0 := (okG_row hg _ _ h1).1
  have hm : to ∈ li := by rw [show to = ((to.toNat : Nat) : Int) by omega]; exact (h.mem _).2 hr
  have hl := List.idxOf_lt_length_iff.2 hm
  rw [h.len]; omega
theorem Eg.lt1 {g : Graph} {u v : Nat} (h : Eg g u v) : u < g.length := by
  unfold Eg at h
  apply Classical.byContradiction
  intro hn
  rw [List.getD_eq_getElem?_getD, List.getElem?_eq_none (by omega)] at h
  simp at h
theorem RchdOK.rc (h : RchdOK g f li sm) (hg : _root_.Go.Proofs.Ytllpfgcngokhnaa.okG g) {i j : Nat} (hi : i < li.length) (hj : j < li.length) : Rc (Eg sm) i j ↔ Rc (Eg g) (ndAt li i) (ndAt li j) := by
  have hs := h.okG hg
  constructor
  · rintro ⟨p, n, hw⟩
    refine ⟨fun k => ndAt li (p k), n, by rw [hw.first], by rw [hw.last], fun k hk => ?_⟩
    have := hw.step k hk
    have a := this.lt1; have b := this.lt hs
    rw [h.len] at a b
    exact (h.edge hg a b).1 this
  · rintro ⟨p, n, hw⟩
    have hm : ∀ k, k ≤ n → ((p k : Nat) : Int) ∈ li := by
      intro k
      induction k with
      | zero => intro _; rw [hw.first, (h.at hi).1]; exact (h.at hi).2
      | succ k ih =>
        intro hk
        have h1 := (h.mem _).1 (ih (by omega))
        exact (h.mem _).2 (Rch.step h1 (hw.step k (by omega)))
    refine ⟨fun k => li.idxOf ((p k : Nat) : Int), n, ?_, ?_, fun k hk => ?_⟩
    · show li.idxOf _ = i
      rw [hw.first, (h.at hi).1, h.idxAt hi]
    · show li.idxOf _ = j
      rw [hw.last, (h.at hj).1, h.idxAt hj]
    · have a := h.idx (hm k (by omega)); have b := h.idx (hm (k + 1) (by omega))
      refine (h.edge hg a.1 b.1).2 ?_
      rw [a.2, b.2]; exact hw.step k hk
theorem RchdOK.core (h : RchdOK g f li sm) (hg : _root_.Go.Proofs.Ytllpfgcngokhnaa.okG g) {Ps : List (Nat → Prop)} {i : Nat} (hi : i < li.length) : Core (Eg sm) (Ps.map fun P x => P (ndAt li x)) i ↔ Core (Eg g) Ps (ndAt li i) := by
  have hs := h.okG hg
  have hin : ∀ x, Rc (Eg g) (ndAt li i) x → (x : Int) ∈ li := by
    rintro x ⟨p, n, hw⟩
    have hm : ∀ k, k ≤ n → ((p k : Nat) : Int) ∈ li := by
      intro k
      induction k with
      | zero => intro _; rw [hw.first, (h.at hi).1]; exact (h.at hi).2
      | succ k ih => intro hk; exact (h.mem _).2 (Rch.step ((h.mem _).1 (ih (by omega))) (hw.step k (by omega)))
    rw [← hw.last]; exact hm n (Nat.le_refl _)
  constructor
  · rintro ⟨⟨u, h1, h2⟩, h3⟩
    have hu := h1.lt hs
    rw [h.len] at hu
    refine ⟨⟨ndAt li u, (h.edge hg hi hu).1 h1, (h.rc hg hu hi).1 h2⟩, fun P hP => ?_⟩
    obtain ⟨x, hx, k1, k2⟩ := h3 _ (List.mem_map.2 ⟨P, hP, rfl⟩)
    have hxl : x < li.length := by rw [← h.len]; exact Rc.lt (fun u v h => h.lt hs) (by rw [h.len]; exact hi) k1
    exact ⟨_, hx, (h.rc hg hi hxl).1 k1, (h.rc hg hxl hi).1 k2⟩
  · rintro ⟨⟨u, h1, h2⟩, h3⟩
    have hu := h.idx (hin u (Rc.one h1))
    refine ⟨⟨li.idxOf (u : Int), (h.edge hg hi hu.1).2 (by rw [hu.2]; exact h1), (h.rc hg hu.1 hi).2 (by rw [hu.2]; exact h2)⟩, fun P hP => ?_⟩
    obtain ⟨P, hP', rfl⟩ := List.mem_map.1 hP
    obtain ⟨x, hx, k1, k2⟩ := h3 P hP'
    have hxl := h.idx (hin x k1)
    exact ⟨li.idxOf (x : Int), by show P _; rw [hxl.2]; exact hx, (h.rc hg hi hxl.1).2 (by rw [hxl.2]; exact k1), (h.rc hg hxl.1 hi).2 (by rw [hxl.2]; exact k2)⟩
/-- some part is good just if a node that is come to is -/
theorem good_core {part : List Int} {Ps : List (Nat → Prop)} {good : List Bool} (h : RchdOK g f li sm) (hg : _root_.Go.Proofs.Ytllpfgcngokhnaa.okG g) (hf : ∀ x ∈ f, 0 ≤ x) (hp : PartsOK sm part) (hl : good.length = sm.length)
    (hgood : ∀ c, c < sm.length → (good.getD c false = true ↔ (∃ u, u < sm.length ∧ part.getD u 0 = c ∧ ∃ to ∈ sm.getD u [], part.getD to.toNat 0 = c) ∧ ∀ P ∈ Ps, ∃ x, x < sm.length ∧ P (ndAt li x) ∧ part.getD x 0 = c)) :
    true ∈ good ↔ ∃ a : Nat, (a : Int) ∈ f ∧ ∃ v, Rc (Eg g) a v ∧ Core (Eg g) Ps v := by
  have hs := h.okG hg
  have key : ∀ i, i < li.length → (Core (Eg g) Ps (ndAt li i) ↔ good.getD (part.getD i 0).toNat false = true) := by
    intro i hi
    have hi' : i < sm.length := by rw [h.len]; exact hi
    have hip : i < part.length := by rw [hp.len]; exact hi'
    have h0 := hp.ge i hip
    have h1 := hp.lt i hip
    rw [← h.core hg hi, core_part hs hp hi', hgood _ (by omega), show (((part.getD i 0).toNat : Nat) : Int) = part.getD i 0 by omega]
    refine and_congr Iff.rfl ⟨fun k P hP => k _ (List.mem_map.2 ⟨P, hP, rfl⟩), fun k P hP => ?_⟩
    obtain ⟨P, hP', rfl⟩ := List.mem_map.1 hP
    exact k P hP'
  constructor
  · intro ht
    obtain ⟨c, hc, he⟩ := List.mem_iff_getElem.1 ht
    have hc' : c < sm.length := by omega
    have hgc : good.getD c false = true := by rw [List.getD_eq_getElem?_getD, List.getElem?_eq_getElem hc]; exact he
    obtain ⟨⟨u, hu, h1, _⟩, _⟩ := (hgood c hc').1 hgc
    have hu' : u < li.length := by rw [← h.len]; exact hu
    have hm := (h.mem _).1 (by rw [(h.at hu').1]; exact (h.at hu').2)
    obtain ⟨a, ha, hr⟩ := (rch_rc hg hf).1 hm
    refine ⟨a, ha, _, hr, (key u hu').2 ?_⟩
    rw [h1]; exact hgc
  · rintro ⟨a, ha, v, hr, hc⟩
    have hv := h.idx ((h.mem v).2 ((rch_rc hg hf).2 ⟨a, ha, hr⟩))
    have := (key _ hv.1).1 (by rw [hv.2]; exact hc)
    rw [List.getD_eq_getElem?_getD] at this
    cases e : good[(part.getD (li.idxOf (v : Int)) 0).toNat]? with
    | none => rw [e] at this; simp at this
    | some b => rw [e] at this; simp at this; subst this; exact List.mem_of_getElem? e
end

/- RUNS -/
def fitB (mu no : List Nat) (k x : Nat) : Bool := decide (x &&& mu.getD k 0 = mu.getD k 0) && decide (x &&& no.getD k 0 = 0)
/-- a run of an automaton over a word -/
structure AccRun (st : List Int) (nx : List (List Int)) (mu no : List Nat) (fr : List (List Int)) (L r : Nat → Nat) : Prop where
  first : (r 0 : Int) ∈ st
  fits : ∀ i, fitB mu no (r i) (L i) = true
  step : ∀ i, (r (i + 1) : Int) ∈ nx.getD (r i) []
  fair : ∀ F ∈ fr, ∀ i, ∃ j, i ≤ j ∧ (r j : Int) ∈ F
def Acc (st : List Int) (nx : List (List Int)) (mu no : List Nat) (fr : List (List Int)) (L : Nat → Nat) : Prop := ∃ r, AccRun st nx mu no fr L r
section
variable {st : List Int} {nx : List (List Int)} {mu no : List Nat} {fr : List (List Int)} {s l : List Nat}
def prodRow (nx : List (List Int)) (mu no s l : List Nat) (i k : Nat) : List Int :=
  if fitB mu no k (lat s l i) = true then ((nx.getD k []).filter fun to => fitB mu no to.toNat (lat s l (nextL s l i))).map fun to => (nextL s l i : Int) * nx.length + to else []
def prodG (nx : List (List Int)) (mu no s l : List Nat) : Graph := (List.range (nx.length * (s.length + l.length))).map fun x => prodRow nx mu no s l (x / nx.length) (x % nx.length)
def fromP (st : List Int) (mu no s l : List Nat) : List Int := st.filter fun k => fitB mu no k.toNat (lat s l 0)
def idxW (s l : List Nat) (t : Nat) : Nat := if t < s.length then t else s.length + (t - s.length) % l.length
theorem idxW_lt (h0 : 0 < l.length) (t : Nat) : idxW s l t < s.length + l.length := by
  unfold idxW
  split
  · omega
  · have := Nat.mod_lt (t - s.length) h0; omega
theorem idxW_next (h0 : 0 < l.length) (t : Nat) : idxW s l (t + 1) = nextL s l (idxW s l t) := by
  unfold idxW nextL
  by_cases h : t < s.length
  · rw [if_pos h]
    by_cases h1 : t + 1 < s.length
    · rw [if_pos h1, if_neg (by omega)]
    · rw [if_neg h1, show t + 1 - s.length = 0 by omega, Nat.zero_mod]
      split <;> omega
  · rw [if_neg h, if_neg (by omega), show t + 1 - s.length = (t - s.length) + 1 by omega]
    generalize t - s.length = k
    have hlt := Nat.mod_lt k h0
    by_cases h1 : k % l.length + 1 = l.length
    · rw [if_pos (by omega)]
      have : (k + 1) % l.length = 0 := by
        rw [Nat.add_mod]
        by_cases hn1 : l.length = 1
        · rw [hn1]; omega
        · rw [Nat.mod_eq_of_lt (show 1 < l.length by omega), h1, Nat.mod_self]
      omega
    · rw [if_neg (by omega)]
      have : (k + 1) % l.length = k % l.length + 1 := by
        rw [Nat.add_mod, Nat.mod_eq_of_lt (show 1 < l.length by omega), Nat.mod_eq_of_lt (by omega)]
      omega
theorem idxW_lat (h0 : 0 < l.length) (t : Nat) : lat s l (idxW s l t) = lat s l t := by
  unfold lat idxW
  by_cases h : t < s.length
  · rw [if_pos h]
  · rw [if_neg h, if_neg (by omega), if_neg h, show s.length + (t - s.length) % l.length - s.length = (t - s.length) % l.length by omega, Nat.mod_mod]
theorem prodG_row {i k : Nat} (hi : i < s.length + l.length) (hk : k < nx.length) : (prodG nx mu no s l).getD (i * nx.length + k) [] = prodRow nx mu no s l i k := by
  have hlt : i * nx.length + k < nx.length * (s.length + l.length) := by
    have h1 : (i + 1) * nx.length ≤ (s.length + l.length) * nx.length := Nat.mul_le_mul_right _ hi
    have h2 := Nat.mul_comm nx.length (s.length + l.length)
    rw [Nat.add_mul] at h1
    omega
  unfold prodG
  rw [List.getD_eq_getElem?_getD, List.getElem?_eq_getElem (by simpa using hlt)]
  simp only [List.getElem_map, List.getElem_range, Option.getD_some]
  rw [show (i * nx.length + k) / nx.length = i by rw [Nat.add_comm, Nat.add_mul_div_right _ _ (by omega), Nat.div_eq_of_lt hk, Nat.zero_add], show (i * nx.length + k) % nx.length = k by rw [Nat.add_comm, Nat.add_mul_mod_self_right, Nat.mod_eq_of_lt hk]]
theorem prodG_edge {i k v : Nat} (hok : ∀ r ∈ nx, okL nx.length r) (hi : i < s.length + l.length) (hk : k < nx.length) : Eg (prodG nx mu no s l) (i * nx.length + k) v ↔
    fitB mu no k (lat s l i) = true ∧ ∃ to : Nat, to < nx.length ∧ (to : Int) ∈ nx.getD k [] ∧ fitB mu no to (lat s l (nextL s l i)) = true ∧ v = nextL s l i * nx.length + to := by
  unfold Eg
  rw [prodG_row hi hk]
  unfold prodRow
  split
  · rename_i hf
    rw [List.mem_map]
    constructor
    · rintro ⟨to, h1, h2⟩
      rw [List.mem_filter] at h1
      have hin : nx.getD k [] ∈ nx := by rw [List.getD_eq_getElem?_getD, List.getElem?_eq_getElem hk]; exact List.getElem_mem hk
      have hto := hok _ hin to h1.1
      refine ⟨hf, to.toNat, by omega, by rw [show ((to.toNat : Nat) : Int) = to by omega]; exact h1.1, h1.2, ?_⟩
      have hto0 := hto.1
      have : ((nextL s l i * nx.length + to.toNat : Nat) : Int) = (v : Int) := by
        rw [← h2]; push_cast; omega
      omega
    · rintro ⟨_, to, h1, h2, h3, rfl⟩
      exact ⟨(to : Int), List.mem_filter.2 ⟨h2, by simpa using h3⟩, by push_cast; rfl⟩
  · rename_i hf
    simp [hf]
theorem prodG_ok (hok : ∀ r ∈ nx, okL nx.length r) (h0 : 0 < l.length) : okG (prodG nx mu no s l) := by
  intro r hr x hx
  have hlen : (prodG nx mu no s l).length = nx.length * (s.length + l.length) := by simp [prodG]
  rw [hlen]
  unfold prodG at hr
  rw [List.mem_map] at hr
  obtain ⟨y, hy, rfl⟩ := hr
  rw [List.mem_range] at hy
  have hn0 : 0 < nx.length := Nat.pos_of_ne_zero fun e => by rw [e, Nat.zero_mul] at hy; omega
  have hi : y / nx.length < s.length + l.length := by rw [Nat.div_lt_iff_lt_mul hn0, Nat.mul_comm]; exact hy
  have hk := Nat.mod_lt y hn0
  unfold prodRow at hx
  split at hx
  · rw [List.mem_map] at hx
    obtain ⟨to, h1, rfl⟩ := hx
    rw [List.mem_filter] at h1
    have hin : nx.getD (y % nx.length) [] ∈ nx := by rw [List.getD_eq_getElem?_getD, List.getElem?_eq_getElem hk]; exact List.getElem_mem hk
    have hto := hok _ hin to h1.1
    have hnx : nextL s l (y / nx.length) < s.length + l.length := by unfold nextL; split <;> omega
    generalize nextL s l (y / nx.length) = j at *
    have h2 : (j + 1) * nx.length ≤ (s.length + l.length) * nx.length := Nat.mul_le_mul_right _ hnx
    rw [Nat.add_mul, Nat.mul_comm (s.length + l.length)] at h2
    have h3 : ((j * nx.length : Nat) : Int) = (j : Int) * nx.length := by push_cast; rfl
    omega
  · simp at hx
theorem acc_prod (hok : ∀ r ∈ nx, okL nx.length r) (hst : okL nx.length st) (h0 : 0 < l.length) : Acc st nx mu no fr (lat s l) ↔
    ∃ a : Nat, (a : Int) ∈ fromP st mu no s l ∧ ∃ R, R 0 = a ∧ Way8 (Eg (prodG nx mu no s l)) (fr.map fun F x => ((x % nx.length : Nat) : Int) ∈ F) R := by
  have hi0 : idxW s l 0 = 0 := by
    unfold idxW
    by_cases h : 0 < s.length
    · rw [if_pos h]
    · rw [if_neg h, Nat.zero_sub, Nat.zero_mod]; omega
  constructor
  · rintro ⟨r, h1, h2, h3, h4⟩
    have hlt : ∀ t, r t < nx.length := by
      intro t
      cases t with
      | zero => have := hst _ h1; omega
      | succ t =>
        have h5 := h3 t
        have hk : r t < nx.length := by
          apply Classical.byContradiction
          intro hn
          rw [List.getD_eq_getElem?_getD, List.getElem?_eq_none (by omega)] at h5
          simp at h5
        have hin : nx.getD (r t) [] ∈ nx := by rw [List.getD_eq_getElem?_getD, List.getElem?_eq_getElem hk]; exact List.getElem_mem hk
        have := hok _ hin _ h5; omega
    refine ⟨r 0, List.mem_filter.2 ⟨h1, by simpa using h2 0⟩, fun t => idxW s l t * nx.length + r t, by show idxW s l 0 * _ + _ = _; rw [hi0]; omega, fun t => ?_, fun P hP i => ?_⟩
    · rw [prodG_edge hok (idxW_lt h0 t) (hlt t)]
      refine ⟨by rw [idxW_lat h0]; exact h2 t, r (t + 1), hlt _, h3 t, by rw [← idxW_next h0, idxW_lat h0]; exact h2 (t + 1), by show idxW s l (t + 1) * _ + _ = _; rw [idxW_next h0]⟩
    · obtain ⟨F, hF, rfl⟩ := List.mem_map.1 hP
      obtain ⟨j, hj, hm⟩ := h4 F hF i
      refine ⟨j, hj, ?_⟩
      show (((idxW s l j * nx.length + r j) % nx.length : Nat) : Int) ∈ F
      rw [Nat.add_comm, Nat.add_mul_mod_self_right, Nat.mod_eq_of_lt (hlt j)]; exact hm
  · rintro ⟨a, ha, R, hR0, hE, hF⟩
    obtain ⟨ha1, ha2⟩ := List.mem_filter.1 ha
    have ha3 := hst _ ha1
    have key : ∀ t, R t / nx.length = idxW s l t ∧ R t % nx.length < nx.length := by
      intro t
      have hn : 0 < nx.length := by omega
      refine ⟨?_, Nat.mod_lt _ hn⟩
      induction t with
      | zero => rw [hR0, hi0, Nat.div_eq_of_lt (by omega)]
      | succ t ih =>
        have h1 := hE t
        have e : R t = idxW s l t * nx.length + R t % nx.length := by rw [← ih, Nat.mul_comm]; exact (Nat.div_add_mod _ _).symm
        rw [e, prodG_edge hok (idxW_lt h0 t) (Nat.mod_lt _ hn)] at h1
        obtain ⟨_, to, h2, _, _, h5⟩ := h1
        rw [h5, ← idxW_next h0, Nat.add_comm, Nat.add_mul_div_right _ _ hn, Nat.div_eq_of_lt h2, Nat.zero_add]
    have hn : 0 < nx.length := by omega
    have step : ∀ t, fitB mu no (R t % nx.length) (lat s l t) = true ∧ ((R (t + 1) % nx.length : Nat) : Int) ∈ nx.getD (R t % nx.length) [] := by
      intro t
      have h1 := hE t
      have e : R t = idxW s l t * nx.length + R t % nx.length := by rw [← (key t).1, Nat.mul_comm]; exact (Nat.div_add_mod _ _).symm
      rw [e, prodG_edge hok (idxW_lt h0 t) (Nat.mod_lt _ hn)] at h1
      obtain ⟨k1, to, h2, h3, _, h5⟩ := h1
      rw [idxW_lat h0] at k1
      refine ⟨k1, ?_⟩
      rw [h5, Nat.add_comm, Nat.add_mul_mod_self_right, Nat.mod_eq_of_lt h2]; exact h3
    refine ⟨fun t => R t % nx.length, ?_, fun i => (step i).1, fun i => (step i).2, fun F hFm i => ?_⟩
    · show ((R 0 % nx.length : Nat) : Int) ∈ st
      rw [hR0, Nat.mod_eq_of_lt (by omega)]; exact ha1
    · exact hF _ (List.mem_map.2 ⟨F, hFm, rfl⟩) i
theorem fromP_ok (hst : okL nx.length st) : ∀ x ∈ fromP st mu no s l, 0 ≤ x ∧ x < nx.length := fun x hx => hst x (List.mem_filter.1 hx).1
theorem fromP_okL (hst : okL nx.length st) (h0 : 0 < l.length) : okL (prodG nx mu no s l).length (fromP st mu no s l) := fun x hx => by
  have := fromP_ok hst x hx
  have hlen : (prodG nx mu no s l).length = nx.length * (s.length + l.length) := by simp [prodG]
  have := Nat.le_mul_of_pos_right nx.length (show 0 < s.length + l.length by omega)
  rw [hlen]; omega
/-- accepts, by the parts of the nodes that are come to -/
theorem acc_good {li part : List Int} {sm : Graph} {good : List Bool} (hok : ∀ r ∈ nx, okL nx.length r) (hst : okL nx.length st) (h0 : 0 < l.length)
    (h : RchdOK (prodG nx mu no s l) (fromP st mu no s l) li sm) (hp : PartsOK sm part) (hl : good.length = sm.length)
    (hgood : ∀ c, c < sm.length → (good.getD c false = true ↔ (∃ u, u < sm.length ∧ part.getD u 0 = c ∧ ∃ to ∈ sm.getD u [], part.getD to.toNat 0 = c) ∧ ∀ F ∈ fr, ∃ x, x < sm.length ∧ ((ndAt li x % nx.length : Nat) : Int) ∈ F ∧ part.getD x 0 = c)) :
    true ∈ good ↔ Acc st nx mu no fr (lat s l) := by
  have hg := prodG_ok (mu := mu) (no := no) (s := s) hok h0
  rw [acc_prod hok hst h0, good_core (Ps := fr.map fun F x => ((x % nx.length : Nat) : Int) ∈ F) h hg (fun x hx => (fromP_ok hst x hx).1) hp hl (fun c hc => by
    rw [hgood c hc]
    refine and_congr Iff.rfl ⟨fun k P hP => ?_, fun k F hF => k _ (List.mem_map.2 ⟨F, hF, rfl⟩)⟩
    obtain ⟨F, hF, rfl⟩ := List.mem_map.1 hP
    exact k F hF)]
  refine exists_congr fun a => and_congr_right fun ha => ?_
  have haN : a < (prodG nx mu no s l).length := by have := fromP_okL hst h0 _ ha; omega
  rw [fair_iff (N := (prodG nx mu no s l).length) (fun u v h => h.lt hg) haN]
end

/- LAWS OF RUNS -/
theorem Acc.congr {st : List Int} {nx : List (List Int)} {mu no : List Nat} {fr : List (List Int)} {L L' : Nat → Nat} (h : ∀ i, L i = L' i) : Acc st nx mu no fr L ↔ Acc st nx mu no fr L' := by
  rw [show L = L' from funext h]
theorem Acc.more {st : List Int} {nx : List (List Int)} {mu no : List Nat} {fr fr' : List (List Int)} {L : Nat → Nat} (h : ∀ F ∈ fr, F ∈ fr') : Acc st nx mu no fr' L → Acc st nx mu no fr L
  | ⟨r, a, b, c, d⟩ => ⟨r, a, b, c, fun F hF => d F (h F hF)⟩
theorem Acc.fewer {st st' : List Int} {nx : List (List Int)} {mu no : List Nat} {fr : List (List Int)} {L : Nat → Nat} (h : ∀ x ∈ st', x ∈ st) : Acc st' nx mu no fr L → Acc st nx mu no fr L
  | ⟨r, a, b, c, d⟩ => ⟨r, h _ a, b, c, d⟩
end Go.Proofs.Ytllpfgcngokhnaa
/-
  Automata of pairs: plain lists, no program in sight.
-/
set_option linter.unusedVariables false
set_option linter.unusedSimpArgs false
namespace Go.Proofs.Ytllpfgcngokhnaa

abbrev Pr2 := Int × Int
def addP (ps : List Pr2) (l : List Int) (p : Pr2) : List Pr2 × List Int :=
  (if p ∈ ps then ps else ps ++ [p], if (ps.idxOf p : Int) ∈ l then l else l ++ [(ps.idxOf p : Int)])
def putP : List Pr2 → List Pr2 → Bool → List Int → List Pr2 × Bool × List Int
  | [], ps, ok, l => (ps, ok, l)
  | p :: r, ps, ok, l => if ok = true then putP r (addP ps l p).1 (decide ((addP ps l p).1.length ≤ 2048)) (addP ps l p).2 else putP r ps ok l
def madeGo (next : Pr2 → List Pr2) : Nat → Nat → List Pr2 → Bool → List (List Int) → List Pr2 × Bool × List (List Int)
  | 0, _, ps, ok, nx => (ps, ok, nx)
  | f + 1, n, ps, ok, nx =>
    if ok = true ∧ n < ps.length then madeGo next f (n + 1) (putP (next (ps.getD n (0, 0))) ps ok []).1 (putP (next (ps.getD n (0, 0))) ps ok []).2.1 (nx ++ [(putP (next (ps.getD n (0, 0))) ps ok []).2.2]) else (ps, ok, nx)
def madeE (next : Pr2 → List Pr2) (start : List Pr2) : List Pr2 × Bool × List (List Int) := madeGo next 2049 0 (putP start [] true []).1 (putP start [] true []).2.1 []
def madeS (start : List Pr2) : List Int := (putP start [] true []).2.2

theorem idxOf_left {ps t : List Pr2} {p : Pr2} (h : p ∈ ps) : (ps ++ t).idxOf p = ps.idxOf p := by rw [List.idxOf_append, if_pos h]
theorem idxOf_new {ps : List Pr2} {p : Pr2} (h : p ∉ ps) : ps.idxOf p = ps.length := by
  have h1 := List.idxOf_le_length (a := p) (l := ps)
  have h2 := mt List.idxOf_lt_length_iff.1 h
  omega
theorem addP_law {ps : List Pr2} {l : List Int} {p : Pr2} (hn : ps.Nodup) : (addP ps l p).1.Nodup ∧ (∃ t, (addP ps l p).1 = ps ++ t ∧ ∀ x ∈ t, x = p) ∧ p ∈ (addP ps l p).1 ∧ ∀ i, i ∈ (addP ps l p).2 ↔ i ∈ l ∨ i = ((addP ps l p).1.idxOf p : Int) := by
  unfold addP
  by_cases h : p ∈ ps
  · rw [if_pos h]
    refine ⟨hn, ⟨[], by simp, fun x h => by cases h⟩, h, fun i => ?_⟩
    dsimp only
    split
    · rename_i h1; exact ⟨.inl, fun h => h.elim id (fun e => by rw [e]; exact h1)⟩
    · simp
  · rw [if_neg h]
    have e : (ps ++ [p]).idxOf p = ps.idxOf p := by rw [List.idxOf_append, if_neg h, idxOf_new h]; simp
    refine ⟨?_, ⟨[p], rfl, fun x h => List.mem_singleton.1 h⟩, by simp, fun i => ?_⟩
    · rw [List.nodup_append]
      refine ⟨hn, List.pairwise_singleton _ _, fun a ha b hb e' => ?_⟩
      rw [List.mem_singleton] at hb
      exact h (by rw [← hb, ← e']; exact ha)
    · dsimp only
      rw [e]
      split
      · rename_i h1; exact ⟨.inl, fun h => h.elim id (fun e => by rw [e]; exact h1)⟩
      · simp
theorem putP_false : ∀ (r ps : List Pr2) (l : List Int), putP r ps false l = (ps, false, l)
  | [], ps, l => rfl
  | p :: r, ps, l => by rw [putP, if_neg (by decide), putP_false r]
structure PutOk (r ps : List Pr2) (l : List Int) (q : List Pr2 × Bool × List Int) : Prop where
  nd : q.1.Nodup
  ext : ∃ t, q.1 = ps ++ t ∧ ∀ x ∈ t, x ∈ r
  mem : ∀ p ∈ r, p ∈ q.1
  num : ∀ i, i ∈ q.2.2 ↔ i ∈ l ∨ ∃ p ∈ r, i = (q.1.idxOf p : Int)
  le : ps.length ≤ 2048 → q.1.length ≤ 2048
theorem putP_law : ∀ (r ps : List Pr2) (l : List Int), ps.Nodup → (putP r ps true l).2.1 = true → PutOk r ps l (putP r ps true l)
  | [], ps, l, hn, _ => ⟨hn, ⟨[], by simp [putP], (fun x h => by cases h)⟩, (fun p h => by cases h), (fun i => by simp [putP]), id⟩
  | p :: r, ps, l, hn, h => by
    rw [putP, if_pos rfl] at h ⊢
    obtain ⟨a1, ⟨t, a2, a2'⟩, a3, a4⟩ := addP_law (l := l) (p := p) hn
    by_cases hle : (addP ps l p).1.length ≤ 2048
    case neg => rw [decide_eq_false hle, putP_false] at h; cases h
    rw [decide_eq_true hle] at h ⊢
    obtain ⟨b1, ⟨t', b2, b2'⟩, b3, b4, b5⟩ := putP_law r (addP ps l p).1 (addP ps l p).2 a1 h
    generalize putP r (addP ps l p).1 true (addP ps l p).2 = q at *
    have hin : p ∈ q.1 := by rw [b2]; exact List.mem_append_left _ a3
    refine ⟨b1, ⟨t ++ t', by rw [b2, a2]; simp, fun x hx => ?_⟩, fun x hx => ?_, fun i => ?_, fun _ => b5 hle⟩
    · rcases List.mem_append.1 hx with hx | hx
      · rw [a2' x hx]; simp
      · exact List.mem_cons_of_mem _ (b2' x hx)
    · rcases List.mem_cons.1 hx with rfl | hx
      · exact hin
      · exact b3 x hx
    · have e : q.1.idxOf p = (addP ps l p).1.idxOf p := by rw [b2, idxOf_left a3]
      rw [b4, a4, ← e]
      constructor
      · rintro ((h | h) | ⟨x, h1, h2⟩)
        · exact .inl h
        · exact .inr ⟨p, by simp, h⟩
        · exact .inr ⟨x, by simp [h1], h2⟩
      · rintro (h | ⟨x, h1, h2⟩)
        · exact .inl (.inl h)
        · rcases List.mem_cons.1 h1 with rfl | h1
          · exact .inl (.inr h2)
          · exact .inr ⟨x, h1, h2⟩
/-- numbers of pairs -/
structure MadeOk (next : Pr2 → List Pr2) (start ps : List Pr2) (st : List Int) (nx : List (List Int)) : Prop where
  nd : ps.Nodup
  st0 : ∀ p ∈ start, p ∈ ps
  st1 : ∀ i, i ∈ st ↔ ∃ p ∈ start, i = (ps.idxOf p : Int)
  le : ps.length ≤ 2048
  nxl : nx.length ≤ ps.length
  nx0 : ∀ n, n < nx.length → ∀ p ∈ next (ps.getD n (0, 0)), p ∈ ps
  nx1 : ∀ n, n < nx.length → ∀ i, i ∈ nx.getD n [] ↔ ∃ p ∈ next (ps.getD n (0, 0)), i = (ps.idxOf p : Int)
theorem getDP_left {α : Type} {l t : List α} {j : Nat} {d : α} (h : j < l.length) : (l ++ t).getD j d = l.getD j d := by rw [List.getD_eq_getElem?_getD, List.getD_eq_getElem?_getD, List.getElem?_append_left h]
theorem getDP_last {α : Type} {l : List α} {x d : α} : (l ++ [x]).getD l.length d = x := by rw [List.getD_eq_getElem?_getD, List.getElem?_append_right (Nat.le_refl _)]; simp
theorem madeGo_law {next : Pr2 → List Pr2} {start : List Pr2} {st : List Int} : ∀ (f n : Nat) (ps : List Pr2) (ok : Bool) (nx : List (List Int)), f + n = 2049 → nx.length = n → (ok = true → MadeOk next start ps st nx) → (madeGo next f n ps ok nx).2.1 = true →
    MadeOk next start (madeGo next f n ps ok nx).1 st (madeGo next f n ps ok nx).2.2 ∧ (madeGo next f n ps ok nx).2.2.length = (madeGo next f n ps ok nx).1.length
  | 0, n, ps, ok, nx, hf, hn, hM, h => by have h1 := hM h; have := h1.le; have := h1.nxl; omega
  | f + 1, n, ps, ok, nx, hf, hn, hM, h => by
    rw [madeGo] at h ⊢
    by_cases hc : ok = true ∧ n < ps.length
    case neg =>
      rw [if_neg hc] at h ⊢
      have h1 := hM h
      have := h1.nxl
      have : ¬ n < ps.length := fun k => hc ⟨h, k⟩
      exact ⟨h1, by dsimp only; omega⟩
    rw [if_pos hc] at h ⊢
    obtain ⟨rfl, hlt⟩ := hc
    have h1 := hM rfl
    refine madeGo_law f (n + 1) _ _ _ (by omega) (by simp [hn]) (fun hok => ?_) h
    obtain ⟨b1, ⟨t, b2, b2'⟩, b3, b4, b5⟩ := putP_law _ ps [] h1.nd hok
    generalize putP (next (ps.getD n (0, 0))) ps true [] = q at *
    have hg : ∀ j, j < ps.length → q.1.getD j (0, 0) = ps.getD j (0, 0) := fun j hj => by rw [b2, getDP_left hj]
    refine ⟨b1, fun p hp => ?_, fun i => ?_, b5 h1.le, ?_, fun m hm p hp => ?_, fun m hm i => ?_⟩
    · rw [b2]; exact List.mem_append_left _ (h1.st0 p hp)
    · rw [h1.st1]
      constructor <;> rintro ⟨p, q1, q2⟩ <;> refine ⟨p, q1, ?_⟩
      · rw [b2, idxOf_left (h1.st0 p q1)]; exact q2
      · rw [b2, idxOf_left (h1.st0 p q1)] at q2; exact q2
    · have := h1.nxl; rw [b2]; simp; omega
    · simp at hm
      rw [hg m (by omega)] at hp
      by_cases e : m < nx.length
      · rw [b2]; exact List.mem_append_left _ (h1.nx0 m e p hp)
      · obtain rfl : m = n := by omega
        exact b3 p hp
    · simp at hm
      rw [hg m (by omega)]
      by_cases e : m < nx.length
      · rw [getDP_left e, h1.nx1 m e]
        constructor <;> rintro ⟨p, q1, q2⟩ <;> refine ⟨p, q1, ?_⟩
        · rw [b2, idxOf_left (h1.nx0 m e p q1)]; exact q2
        · rw [b2, idxOf_left (h1.nx0 m e p q1)] at q2; exact q2
      · obtain rfl : m = nx.length := by omega
        obtain rfl : nx.length = n := hn
        rw [getDP_last, b4]; simp
theorem made_law {next : Pr2 → List Pr2} {start : List Pr2} (h : (madeE next start).2.1 = true) :
    MadeOk next start (madeE next start).1 (madeS start) (madeE next start).2.2 ∧ (madeE next start).2.2.length = (madeE next start).1.length := by
  refine madeGo_law 2049 0 _ _ [] rfl rfl (fun hok => ?_) h
  obtain ⟨b1, ⟨t, b2, b2'⟩, b3, b4, b5⟩ := putP_law start [] [] List.nodup_nil hok
  exact ⟨b1, b3, fun i => by rw [show madeS start = (putP start [] true []).2.2 from rfl, b4]; simp, b5 (by simp), Nat.zero_le _, fun n h => absurd h (by simp), fun n h => absurd h (by simp)⟩
/-- a pair of the list satisfies what the first ones do and the next ones keep -/
theorem putP_all {Q : Pr2 → Prop} : ∀ (r ps : List Pr2) (ok : Bool) (l : List Int), (∀ p ∈ r, Q p) → (∀ p ∈ ps, Q p) → ∀ p ∈ (putP r ps ok l).1, Q p
  | [], ps, ok, l, _, hp => hp
  | p :: r, ps, ok, l, hr, hp => by
    rw [putP]
    split
    · refine putP_all r _ _ _ (fun x h => hr x (by simp [h])) (fun x hx => ?_)
      unfold addP at hx
      dsimp only at hx
      split at hx
      · exact hp x hx
      · rcases List.mem_append.1 hx with hx | hx
        · exact hp x hx
        · rw [List.mem_singleton] at hx; subst hx; exact hr _ (by simp)
    · exact putP_all r _ _ _ (fun x h => hr x (by simp [h])) hp
theorem getDP_mem {ps : List Pr2} {n : Nat} (h : n < ps.length) : ps.getD n (0, 0) ∈ ps := by rw [List.getD_eq_getElem?_getD, List.getElem?_eq_getElem h]; exact List.getElem_mem _
theorem madeGo_all {Q : Pr2 → Prop} {next : Pr2 → List Pr2} (hq : ∀ p, Q p → ∀ x ∈ next p, Q x) : ∀ (f n : Nat) (ps : List Pr2) (ok : Bool) (nx : List (List Int)), (∀ p ∈ ps, Q p) → ∀ p ∈ (madeGo next f n ps ok nx).1, Q p
  | 0, n, ps, ok, nx, hp => hp
  | f + 1, n, ps, ok, nx, hp => by
    rw [madeGo]
    split
    · rename_i hc
      exact madeGo_all hq f _ _ _ _ (putP_all _ _ _ _ (hq _ (hp _ (getDP_mem hc.2))) hp)
    · exact hp
theorem made_all {Q : Pr2 → Prop} {next : Pr2 → List Pr2} {start : List Pr2} (hq : ∀ p, Q p → ∀ x ∈ next p, Q x) (hs : ∀ p ∈ start, Q p) : ∀ p ∈ (madeE next start).1, Q p :=
  madeGo_all hq _ _ _ _ _ (putP_all _ _ _ _ hs (fun p h => by cases h))
theorem idxOf_at {ps : List Pr2} {p : Pr2} (h : p ∈ ps) : ps.idxOf p < ps.length ∧ ps.getD (ps.idxOf p) (0, 0) = p := by
  have hl := List.idxOf_lt_length_iff.2 h
  exact ⟨hl, by rw [List.getD_eq_getElem?_getD, List.getElem?_eq_getElem hl, Option.getD_some, List.getElem_idxOf hl]⟩
theorem idxOf_get {ps : List Pr2} (hn : ps.Nodup) {n : Nat} (h : n < ps.length) : ps.idxOf (ps.getD n (0, 0)) = n := by
  rw [List.getD_eq_getElem?_getD, List.getElem?_eq_getElem h, Option.getD_some]
  exact hn.idxOf_getElem n h

/- BITS -/
theorem and_or_self {x a b : Nat} : x &&& (a ||| b) = a ||| b ↔ x &&& a = a ∧ x &&& b = b := by
  constructor
  · intro h
    constructor
    · apply Nat.eq_of_testBit_eq
      intro i
      have := congrArg (fun n => n.testBit i) h
      simp only [Nat.testBit_and, Nat.testBit_or] at this ⊢
      cases ha : a.testBit i <;> cases hb : b.testBit i <;> cases hx : x.testBit i <;> simp_all
    · apply Nat.eq_of_testBit_eq
      intro i
      have := congrArg (fun n => n.testBit i) h
      simp only [Nat.testBit_and, Nat.testBit_or] at this ⊢
      cases ha : a.testBit i <;> cases hb : b.testBit i <;> cases hx : x.testBit i <;> simp_all
  · rintro ⟨h1, h2⟩
    rw [Nat.and_or_distrib_left, h1, h2]
theorem and_or_zero {x a b : Nat} : x &&& (a ||| b) = 0 ↔ x &&& a = 0 ∧ x &&& b = 0 := by
  rw [Nat.and_or_distrib_left]
  constructor
  · intro h
    have h1 : ∀ i, (x &&& a).testBit i = false ∧ (x &&& b).testBit i = false := fun i => by
      have := congrArg (fun n => n.testBit i) h
      simp only [Nat.testBit_or, Nat.zero_testBit, Bool.or_eq_false_iff] at this
      exact this
    exact ⟨Nat.eq_of_testBit_eq fun i => by rw [(h1 i).1, Nat.zero_testBit], Nat.eq_of_testBit_eq fun i => by rw [(h1 i).2, Nat.zero_testBit]⟩
  · rintro ⟨h1, h2⟩
    rw [h1, h2]; rfl
theorem and_apart {x a b : Nat} (h1 : x &&& a = a) (h2 : x &&& b = 0) : a &&& b = 0 := by
  rw [← h1, Nat.and_assoc, Nat.and_comm a b, ← Nat.and_assoc, h2, Nat.zero_and]
/- BOTH -/
abbrev LAuto2 := List Int × List (List Int) × List Nat × List Nat × List (List Int)
def crossP (mu no mu' no' : List Nat) (l k : List Int) : List Pr2 :=
  l.flatMap fun x => (k.filter fun y => decide (mu.getD x.toNat 0 &&& no'.getD y.toNat 0 = 0) && decide (no.getD x.toNat 0 &&& mu'.getD y.toNat 0 = 0)).map fun y => (x, y)
theorem cross_mem {mu no mu' no' : List Nat} {l k : List Int} {p : Pr2} : p ∈ crossP mu no mu' no' l k ↔ p.1 ∈ l ∧ p.2 ∈ k ∧ mu.getD p.1.toNat 0 &&& no'.getD p.2.toNat 0 = 0 ∧ no.getD p.1.toNat 0 &&& mu'.getD p.2.toNat 0 = 0 := by
  unfold crossP
  rw [List.mem_flatMap]
  constructor
  · rintro ⟨x, hx, h⟩
    rw [List.mem_map] at h
    obtain ⟨y, hy, rfl⟩ := h
    obtain ⟨h1, h2⟩ := List.mem_filter.1 hy
    simp only [Bool.and_eq_true, decide_eq_true_eq] at h2
    exact ⟨hx, h1, h2⟩
  · rintro ⟨h1, h2, h3⟩
    refine ⟨p.1, h1, List.mem_map.2 ⟨p.2, List.mem_filter.2 ⟨h2, by simpa using h3⟩, rfl⟩⟩
/-- the pairs whose state is in a set -/
def setP (ps : List Pr2) (of : Pr2 → Int) (F : List Int) : List Int := ((List.range ps.length).filter fun i => decide (of (ps.getD i (0, 0)) ∈ F)).map fun i : Nat => (i : Int)
theorem setP_mem {ps : List Pr2} {of : Pr2 → Int} {F : List Int} {i : Nat} : (i : Int) ∈ setP ps of F ↔ i < ps.length ∧ of (ps.getD i (0, 0)) ∈ F := by
  unfold setP
  rw [List.mem_map]
  constructor
  · rintro ⟨j, hj, e⟩
    obtain rfl : j = i := by omega
    obtain ⟨h1, h2⟩ := List.mem_filter.1 hj
    exact ⟨List.mem_range.1 h1, by simpa using h2⟩
  · rintro ⟨h1, h2⟩
    exact ⟨i, List.mem_filter.2 ⟨List.mem_range.2 h1, by simpa using h2⟩, rfl⟩
def bothNext (A B : LAuto2) (p : Pr2) : List Pr2 := crossP A.2.2.1 A.2.2.2.1 B.2.2.1 B.2.2.2.1 (A.2.1.getD p.1.toNat []) (B.2.1.getD p.2.toNat [])
def bothStart (A B : LAuto2) : List Pr2 := crossP A.2.2.1 A.2.2.2.1 B.2.2.1 B.2.2.2.1 A.1 B.1
def bothPs (A B : LAuto2) : List Pr2 := (madeE (bothNext A B) (bothStart A B)).1
def bothL (A B : LAuto2) : LAuto2 :=
  (madeS (bothStart A B), (madeE (bothNext A B) (bothStart A B)).2.2, (bothPs A B).map (fun p => A.2.2.1.getD p.1.toNat 0 ||| B.2.2.1.getD p.2.toNat 0), (bothPs A B).map (fun p => A.2.2.2.1.getD p.1.toNat 0 ||| B.2.2.2.1.getD p.2.toNat 0),
    A.2.2.2.2.map (setP (bothPs A B) Prod.fst) ++ B.2.2.2.2.map (setP (bothPs A B) Prod.snd))
theorem getD_map {ps : List Pr2} {f : Pr2 → Nat} {n : Nat} (h : n < ps.length) : (ps.map f).getD n 0 = f (ps.getD n (0, 0)) := by
  rw [List.getD_eq_getElem?_getD, List.getElem?_map, List.getD_eq_getElem?_getD, List.getElem?_eq_getElem h]; rfl
theorem fit_both {A B : LAuto2} {r x : Nat} (h : r < (bothPs A B).length) : fitB (bothL A B).2.2.1 (bothL A B).2.2.2.1 r x = true ↔
    fitB A.2.2.1 A.2.2.2.1 ((bothPs A B).getD r (0, 0)).1.toNat x = true ∧ fitB B.2.2.1 B.2.2.2.1 ((bothPs A B).getD r (0, 0)).2.toNat x = true := by
  unfold bothL fitB
  dsimp only
  rw [getD_map h, getD_map h]
  simp only [Bool.and_eq_true, decide_eq_true_eq]
  rw [and_or_self, and_or_zero]
  constructor
  · rintro ⟨⟨a, b⟩, c, d⟩; exact ⟨⟨a, c⟩, b, d⟩
  · rintro ⟨⟨a, c⟩, b, d⟩; exact ⟨⟨a, b⟩, c, d⟩
theorem cross_fit {mu no mu' no' : List Nat} {l k : List Int} {p : Pr2} {x : Nat} (h1 : p.1 ∈ l) (h2 : p.2 ∈ k) (f1 : fitB mu no p.1.toNat x = true) (f2 : fitB mu' no' p.2.toNat x = true) : p ∈ crossP mu no mu' no' l k := by
  unfold fitB at f1 f2
  simp only [Bool.and_eq_true, decide_eq_true_eq] at f1 f2
  rw [cross_mem]
  refine ⟨h1, h2, and_apart f1.1 f2.2, ?_⟩
  rw [Nat.and_comm]
  exact and_apart f2.1 f1.2
def AccA (A : LAuto2) (L : Nat → Nat) : Prop := Acc A.1 A.2.1 A.2.2.1 A.2.2.2.1 A.2.2.2.2 L
/-- states are numbers -/
def PosA (A : LAuto2) : Prop := (∀ x ∈ A.1, 0 ≤ x) ∧ ∀ k, ∀ x ∈ A.2.1.getD k [], 0 ≤ x
theorem both_law {A B : LAuto2} {L : Nat → Nat} (hA : PosA A) (hB : PosA B) (h : (madeE (bothNext A B) (bothStart A B)).2.1 = true) : AccA (bothL A B) L ↔ AccA A L ∧ AccA B L := by
  obtain ⟨hM, hl⟩ := made_law h
  change MadeOk _ _ (bothPs A B) _ _ at hM
  change _ = (bothPs A B).length at hl
  have hst : ∀ i, i ∈ (bothL A B).1 ↔ ∃ p ∈ bothStart A B, i = ((bothPs A B).idxOf p : Int) := hM.st1
  have hnx : ∀ n, n < (bothPs A B).length → ∀ i, i ∈ (bothL A B).2.1.getD n [] ↔ ∃ p ∈ bothNext A B ((bothPs A B).getD n (0, 0)), i = ((bothPs A B).idxOf p : Int) := fun n hn => hM.nx1 n (by rw [hl]; exact hn)
  constructor
  · rintro ⟨r, hr⟩
    have hin : ∀ i, r i < (bothPs A B).length := by
      intro i
      cases i with
      | zero =>
        obtain ⟨p, hp, e⟩ := (hst _).1 hr.first
        have := (idxOf_at (hM.st0 p hp)).1
        omega
      | succ i =>
        have hs := hr.step i
        by_cases hlt : r i < (bothPs A B).length
        · obtain ⟨p, hp, e⟩ := (hnx _ hlt _).1 hs
          have := (idxOf_at (hM.nx0 _ (by rw [hl]; exact hlt) p hp)).1
          omega
        · exfalso
          have e : (bothL A B).2.1.getD (r i) [] = [] := by
            rw [List.getD_eq_getElem?_getD, List.getElem?_eq_none (by show (madeE (bothNext A B) (bothStart A B)).2.2.length ≤ _; rw [hl]; omega)]; rfl
          rw [e] at hs; cases hs
    have hnx' : ∀ i, (bothPs A B).getD (r (i + 1)) (0, 0) ∈ bothNext A B ((bothPs A B).getD (r i) (0, 0)) := fun i => by
      obtain ⟨p, hp, e⟩ := (hnx _ (hin i) _).1 (hr.step i)
      have e : r (i + 1) = (bothPs A B).idxOf p := by omega
      rw [e, (idxOf_at (hM.nx0 _ (by rw [hl]; exact hin i) p hp)).2]; exact hp
    have hst' : (bothPs A B).getD (r 0) (0, 0) ∈ bothStart A B := by
      obtain ⟨p, hp, e⟩ := (hst _).1 hr.first
      have e : r 0 = (bothPs A B).idxOf p := by omega
      rw [e, (idxOf_at (hM.st0 p hp)).2]; exact hp
    have hq : ∀ i, 0 ≤ ((bothPs A B).getD (r i) (0, 0)).1 ∧ 0 ≤ ((bothPs A B).getD (r i) (0, 0)).2 := by
      intro i
      cases i with
      | zero =>
        obtain ⟨h1, h2, _⟩ := cross_mem.1 hst'
        exact ⟨hA.1 _ h1, hB.1 _ h2⟩
      | succ i =>
        obtain ⟨h1, h2, _⟩ := cross_mem.1 (hnx' i)
        exact ⟨hA.2 _ _ h1, hB.2 _ _ h2⟩
    have q1 : ∀ i, ((((bothPs A B).getD (r i) (0, 0)).1.toNat : Nat) : Int) = ((bothPs A B).getD (r i) (0, 0)).1 := fun i => by have := (hq i).1; omega
    have q2 : ∀ i, ((((bothPs A B).getD (r i) (0, 0)).2.toNat : Nat) : Int) = ((bothPs A B).getD (r i) (0, 0)).2 := fun i => by have := (hq i).2; omega
    refine ⟨⟨fun i => ((bothPs A B).getD (r i) (0, 0)).1.toNat, ?_, fun i => ((fit_both (hin i)).1 (hr.fits i)).1, fun i => ?_, fun F hF i => ?_⟩, ⟨fun i => ((bothPs A B).getD (r i) (0, 0)).2.toNat, ?_, fun i => ((fit_both (hin i)).1 (hr.fits i)).2, fun i => ?_, fun F hF i => ?_⟩⟩
    · rw [q1]; exact (cross_mem.1 hst').1
    · rw [q1]; exact (cross_mem.1 (hnx' i)).1
    · obtain ⟨j, hj, hm⟩ := hr.fair (setP (bothPs A B) Prod.fst F) (List.mem_append_left _ (List.mem_map.2 ⟨F, hF, rfl⟩)) i
      exact ⟨j, hj, by rw [q1]; exact (setP_mem.1 hm).2⟩
    · rw [q2]; exact (cross_mem.1 hst').2.1
    · rw [q2]; exact (cross_mem.1 (hnx' i)).2.1
    · obtain ⟨j, hj, hm⟩ := hr.fair (setP (bothPs A B) Prod.snd F) (List.mem_append_right _ (List.mem_map.2 ⟨F, hF, rfl⟩)) i
      exact ⟨j, hj, by rw [q2]; exact (setP_mem.1 hm).2⟩
  · rintro ⟨⟨ra, ha⟩, ⟨rb, hb⟩⟩
    have hps : ∀ i, (((ra i : Nat) : Int), ((rb i : Nat) : Int)) ∈ bothPs A B ∧ (((ra (i + 1) : Nat) : Int), ((rb (i + 1) : Nat) : Int)) ∈ bothNext A B (((ra i : Nat) : Int), ((rb i : Nat) : Int)) := by
      have hnext : ∀ i, (((ra (i + 1) : Nat) : Int), ((rb (i + 1) : Nat) : Int)) ∈ bothNext A B (((ra i : Nat) : Int), ((rb i : Nat) : Int)) := fun i => by
        unfold bothNext
        refine cross_fit (x := L (i + 1)) ?_ ?_ ?_ ?_
        · simpa using ha.step i
        · simpa using hb.step i
        · simpa using ha.fits (i + 1)
        · simpa using hb.fits (i + 1)
      intro i
      refine ⟨?_, hnext i⟩
      induction i with
      | zero =>
        refine hM.st0 _ ?_
        unfold bothStart
        refine cross_fit (x := L 0) ?_ ?_ ?_ ?_
        · exact ha.first
        · exact hb.first
        · simpa using ha.fits 0
        · simpa using hb.fits 0
      | succ i ih =>
        obtain ⟨h1, h2⟩ := idxOf_at ih
        exact hM.nx0 _ (by rw [hl]; exact h1) _ (by rw [h2]; exact hnext i)
    have hix := fun i => idxOf_at (hps i).1
    refine ⟨fun i => (bothPs A B).idxOf (((ra i : Nat) : Int), ((rb i : Nat) : Int)), ?_, fun i => ?_, fun i => ?_, fun F hF i => ?_⟩
    · refine (hst _).2 ⟨_, ?_, rfl⟩
      unfold bothStart
      refine cross_fit (x := L 0) ha.first hb.first ?_ ?_
      · simpa using ha.fits 0
      · simpa using hb.fits 0
    · refine (fit_both (hix i).1).2 ?_
      rw [(hix i).2]
      exact ⟨by simpa using ha.fits i, by simpa using hb.fits i⟩
    · refine (hnx _ (hix i).1 _).2 ⟨_, ?_, rfl⟩
      rw [(hix i).2]
      exact (hps i).2
    · rcases List.mem_append.1 hF with hF | hF
      · obtain ⟨F, hF', rfl⟩ := List.mem_map.1 hF
        obtain ⟨j, hj, hm⟩ := ha.fair F hF' i
        exact ⟨j, hj, setP_mem.2 ⟨(hix j).1, by rw [(hix j).2]; exact hm⟩⟩
      · obtain ⟨F, hF', rfl⟩ := List.mem_map.1 hF
        obtain ⟨j, hj, hm⟩ := hb.fair F hF' i
        exact ⟨j, hj, setP_mem.2 ⟨(hix j).1, by rw [(hix j).2]; exact hm⟩⟩
end Go.Proofs.Ytllpfgcngokhnaa
/-
  Pairs of a world's states and an automaton's: how they are found. Plain lists.
-/
set_option linter.unusedVariables false
set_option linter.unusedSimpArgs false
namespace Go.Proofs.Ytllpfgcngokhnaa

def addF (ps : List Pr2) (p : Pr2) : List Pr2 := if p ∈ ps then ps else ps ++ [p]
def putF (fit : Pr2 → Bool) : List Pr2 → List Pr2 → List Int → List Pr2 × List Int
  | [], ps, l => (ps, l)
  | p :: r, ps, l => if fit p = true then putF fit r (addF ps p) (l ++ [(ps.idxOf p : Int)]) else putF fit r ps l
def pairsX (l k : List Int) : List Pr2 := l.flatMap fun x => k.map fun y => (x, y)
def runF (fit : Pr2 → Bool) (next : Pr2 → List Pr2) : Nat → Nat → List Pr2 → List (List Int) → List Pr2 × List (List Int)
  | 0, n, ps, nx => (ps, nx)
  | f + 1, n, ps, nx => if n < ps.length then runF fit next f (n + 1) (putF fit (next (ps.getD n (0, 0))) ps []).1 (nx ++ [(putF fit (next (ps.getD n (0, 0))) ps []).2]) else (ps, nx)
section
variable {fit : Pr2 → Bool}
theorem addF_mem {ps : List Pr2} {p q : Pr2} : q ∈ addF ps p ↔ q ∈ ps ∨ q = p := by
  unfold addF
  split
  · exact ⟨.inl, fun h => h.elim id (fun h => by subst h; assumption)⟩
  · simp
theorem addF_app {ps : List Pr2} {p : Pr2} : ∃ t, addF ps p = ps ++ t := by
  unfold addF
  split
  · exact ⟨[], by simp⟩
  · exact ⟨[p], rfl⟩
theorem addF_nd {ps : List Pr2} {p : Pr2} (h : ps.Nodup) : (addF ps p).Nodup := by
  unfold addF
  split
  · exact h
  · rename_i hn
    rw [List.nodup_append]
    refine ⟨h, List.pairwise_singleton _ _, fun a ha b hb e => ?_⟩
    rw [List.mem_singleton] at hb
    exact hn (by rw [← hb, ← e]; exact ha)
theorem addF_idx {ps : List Pr2} {p : Pr2} : (addF ps p).idxOf p = ps.idxOf p := by
  unfold addF
  split
  · rfl
  · rename_i hn
    rw [List.idxOf_append, if_neg hn, idxOf_new hn]; simp
structure PutF (fit : Pr2 → Bool) (r ps : List Pr2) (l : List Int) (q : List Pr2 × List Int) : Prop where
  nd : q.1.Nodup
  app : ∃ t, q.1 = ps ++ t
  new : ∀ p ∈ q.1, p ∈ ps ∨ (p ∈ r ∧ fit p = true)
  all : ∀ p ∈ r, fit p = true → p ∈ q.1
  num : ∀ i, i ∈ q.2 ↔ i ∈ l ∨ ∃ p ∈ r, fit p = true ∧ i = (q.1.idxOf p : Int)
  len : q.2.length ≤ l.length + r.length
theorem putF_law : ∀ (r ps : List Pr2) (l : List Int), ps.Nodup → PutF fit r ps l (putF fit r ps l)
  | [], ps, l, h => ⟨h, ⟨[], by simp [putF]⟩, fun p hp => .inl hp, (fun p hp => by cases hp), fun i => by simp [putF], by simp [putF]⟩
  | p :: r, ps, l, h => by
    rw [putF]
    split
    · rename_i hf
      have k := putF_law r (addF ps p) (l ++ [(ps.idxOf p : Int)]) (addF_nd h)
      obtain ⟨t, ht⟩ := k.app
      obtain ⟨t', ht'⟩ := addF_app (ps := ps) (p := p)
      refine ⟨k.nd, ⟨t' ++ t, by rw [ht, ht', List.append_assoc]⟩, fun q hq => ?_, fun q hq hqf => ?_, fun i => ?_, ?_⟩
      · rcases k.new q hq with h1 | h1
        · rcases addF_mem.1 h1 with h1 | h1
          · exact .inl h1
          · subst h1; exact .inr ⟨List.mem_cons_self, hf⟩
        · exact .inr ⟨List.mem_cons_of_mem _ h1.1, h1.2⟩
      · rcases List.mem_cons.1 hq with rfl | hq
        · rw [ht]; exact List.mem_append_left _ (addF_mem.2 (.inr rfl))
        · exact k.all q hq hqf
      · have hix : (putF fit r (addF ps p) (l ++ [(ps.idxOf p : Int)])).1.idxOf p = ps.idxOf p := by
          rw [ht, List.idxOf_append, if_pos (addF_mem.2 (.inr rfl)), addF_idx]
        rw [k.num]
        constructor
        · rintro (h1 | ⟨q, h1, h2, h3⟩)
          · rcases List.mem_append.1 h1 with h1 | h1
            · exact .inl h1
            · rw [List.mem_singleton] at h1
              exact .inr ⟨p, List.mem_cons_self, hf, by rw [hix]; exact h1⟩
          · exact .inr ⟨q, List.mem_cons_of_mem _ h1, h2, h3⟩
        · rintro (h1 | ⟨q, h1, h2, h3⟩)
          · exact .inl (List.mem_append_left _ h1)
          · rcases List.mem_cons.1 h1 with rfl | h1
            · exact .inl (List.mem_append_right _ (by rw [List.mem_singleton, h3, hix]))
            · exact .inr ⟨q, h1, h2, h3⟩
      · have := k.len; simp only [List.length_append, List.length_cons, List.length_nil] at this ⊢; omega
    · rename_i hf
      have k := putF_law r ps l h
      refine ⟨k.nd, k.app, fun q hq => ?_, fun q hq hqf => ?_, fun i => ?_, ?_⟩
      · exact (k.new q hq).imp id fun h1 => ⟨List.mem_cons_of_mem _ h1.1, h1.2⟩
      · rcases List.mem_cons.1 hq with rfl | hq
        · exact absurd hqf hf
        · exact k.all q hq hqf
      · rw [k.num]
        constructor
        · rintro (h1 | ⟨q, h1, h2, h3⟩)
          · exact .inl h1
          · exact .inr ⟨q, List.mem_cons_of_mem _ h1, h2, h3⟩
        · rintro (h1 | ⟨q, h1, h2, h3⟩)
          · exact .inl h1
          · rcases List.mem_cons.1 h1 with rfl | h1
            · exact absurd h2 hf
            · exact .inr ⟨q, h1, h2, h3⟩
      · have := k.len; simp only [List.length_cons] at this ⊢; omega
theorem putF_all {Q : Pr2 → Prop} {r ps : List Pr2} {l : List Int} (hn : ps.Nodup) (hr : ∀ p ∈ r, fit p = true → Q p) (hp : ∀ p ∈ ps, Q p) : ∀ p ∈ (putF fit r ps l).1, Q p := fun p h => by
  rcases (putF_law r ps l hn).new p h with h | h
  · exact hp p h
  · exact hr p h.1 h.2
theorem pairsX_mem {l k : List Int} {p : Pr2} : p ∈ pairsX l k ↔ p.1 ∈ l ∧ p.2 ∈ k := by
  unfold pairsX
  simp only [List.mem_flatMap, List.mem_map]
  constructor
  · rintro ⟨x, hx, y, hy, rfl⟩; exact ⟨hx, hy⟩
  · rintro ⟨h1, h2⟩; exact ⟨p.1, h1, p.2, h2, rfl⟩
theorem nodup_lenE : ∀ (n : Nat) (l : List Nat), l.Nodup → (∀ x ∈ l, x < n) → l.length ≤ n
  | 0, l, _, h => by
    cases l with
    | nil => simp
    | cons x r => have := h x (by simp); omega
  | n + 1, l, hd, h => by
    by_cases hn : n ∈ l
    · have h1 := nodup_lenE n (l.erase n) (hd.erase n) (fun x hx => by
        have h2 := (List.Nodup.mem_erase_iff hd).1 hx
        have := h x h2.2; have := h2.1; omega)
      rw [List.length_erase_of_mem hn] at h1
      omega
    · have := nodup_lenE n l hd (fun x hx => by
        have h2 := h x hx
        have : x ≠ n := fun e => hn (e ▸ hx)
        omega)
      omega
/-- a list without twins in a box -/
theorem nodup_box {a b : Nat} {ps : List Pr2} (hn : ps.Nodup) (h : ∀ p ∈ ps, (0 ≤ p.1 ∧ p.1 < a) ∧ 0 ≤ p.2 ∧ p.2 < b) : ps.length ≤ a * b := by
  have hd : ∀ (x y : Nat), y < b → (b * x + y) / b = x ∧ (b * x + y) % b = y := fun x y hy => by
    have hb : 0 < b := by omega
    exact ⟨by rw [Nat.mul_add_div hb, Nat.div_eq_of_lt hy, Nat.add_zero], by rw [Nat.mul_add_mod, Nat.mod_eq_of_lt hy]⟩
  have h1 := nodup_lenE (a * b) (ps.map fun p => b * p.1.toNat + p.2.toNat) (by
    unfold List.Nodup at hn ⊢
    rw [List.pairwise_map]
    refine (List.pairwise_iff_forall_sublist.2 fun {p q} hs => ?_)
    have hp : p ∈ ps := hs.subset (by simp)
    have hq : q ∈ ps := hs.subset (by simp)
    have hne := List.pairwise_iff_forall_sublist.1 hn hs
    intro e
    obtain ⟨⟨p1, p2⟩, p3, p4⟩ := h p hp
    obtain ⟨⟨q1, q2⟩, q3, q4⟩ := h q hq
    have d1 := hd p.1.toNat p.2.toNat (by omega)
    have d2 := hd q.1.toNat q.2.toNat (by omega)
    rw [e] at d1
    exact hne (Prod.ext (by have := d1.1.symm.trans d2.1; omega) (by have := d1.2.symm.trans d2.2; omega))) (fun x hx => by
    obtain ⟨p, hp, rfl⟩ := List.mem_map.1 hx
    obtain ⟨⟨p1, p2⟩, p3, p4⟩ := h p hp
    have h2 : p.1.toNat + 1 ≤ a := by omega
    have h3 := Nat.mul_le_mul_left b h2
    rw [Nat.mul_add, Nat.mul_one, Nat.mul_comm b a] at h3
    omega)
  simpa using h1
end
end Go.Proofs.Ytllpfgcngokhnaa
/-
  Ways by breadth, with what each node was come to from. Plain lists.
-/
set_option linter.unusedVariables false
set_option linter.unusedSimpArgs false
namespace Go.Proofs.Ytllpfgcngokhnaa

abbrev UP := List (Int × Int)
abbrev keysU (up : UP) : List Int := up.map Prod.fst
structure WyC (g : List (List Int)) (fr : List Int) (al : Nat → Bool) (up : UP) : Prop where
  nd : (keysU up).Nodup
  rg : okL g.length (keysU up)
  par : ∀ i (hi : i < up.length), (up[i].2 = -1 ∧ up[i].1 ∈ fr) ∨ ∃ j, ∃ hj : j < up.length, j < i ∧ up[i].2 = up[j].1 ∧ up[i].1 ∈ g.getD up[j].1.toNat [] ∧ al up[i].1.toNat = true
structure WyOK (g : List (List Int)) (fr : List Int) (to al : Nat → Bool) (r : List Int) : Prop where
  ne : 0 < r.length
  len : r.length ≤ g.length
  rg : okL g.length r
  st : r.getD 0 0 ∈ fr
  ed : ∀ i, i + 1 < r.length → r.getD (i + 1) 0 ∈ g.getD (r.getD i 0).toNat [] ∧ al (r.getD (i + 1) 0).toNat = true
  en : to (r.getD (r.length - 1) 0).toNat = true
def WyNo (g : List (List Int)) (fr : List Int) (to al : Nat → Bool) : Prop := ∃ C : List Int, (∀ x ∈ fr, x ∈ C) ∧ ∀ x ∈ C, to x.toNat = false ∧ ∀ k ∈ g.getD x.toNat [], al k.toNat = true → k ∈ C
def alB (part : List Int) (only : Int) (k : Nat) : Bool := decide (only < 0) || decide (part.getD k 0 = only)
section
variable {g : List (List Int)} {fr : List Int} {to al : Nat → Bool} {up : UP}
theorem okL_len : ∀ {n : Nat} {l : List Int}, l.Nodup → okL n l → l.length ≤ n := fun {n l} hn h => by
  have h1 := nodup_lenE n (l.map Int.toNat) (by
    unfold List.Nodup at hn ⊢
    rw [List.pairwise_map]
    refine List.pairwise_iff_forall_sublist.2 fun {a b} hs => ?_
    have ha := h a (hs.subset (by simp))
    have hb := h b (hs.subset (by simp))
    have := List.pairwise_iff_forall_sublist.1 hn hs
    omega) (fun x hx => by
    obtain ⟨a, ha, rfl⟩ := List.mem_map.1 hx
    have := h a ha
    omega)
  simpa using h1
theorem WyC.nil : WyC g fr al [] := ⟨List.Pairwise.nil, (fun x hx => by cases hx), fun i hi => absurd hi (by simp)⟩
theorem WyC.len (h : WyC g fr al up) : up.length ≤ g.length := by
  have := okL_len h.nd h.rg
  simpa using this
theorem WyC.push (h : WyC g fr al up) {x : Int × Int} (hn : x.1 ∉ keysU up) (hr : 0 ≤ x.1 ∧ x.1 < g.length)
    (hp : (x.2 = -1 ∧ x.1 ∈ fr) ∨ ∃ j, ∃ hj : j < up.length, x.2 = up[j].1 ∧ x.1 ∈ g.getD up[j].1.toNat [] ∧ al x.1.toNat = true) : WyC g fr al (up ++ [x]) := by
  refine ⟨?_, fun y hy => ?_, fun i hi => ?_⟩
  · unfold keysU
    rw [List.map_append, List.nodup_append]
    refine ⟨h.nd, by simp, fun a ha b hb e => ?_⟩
    simp at hb
    subst hb; subst e
    exact hn ha
  · unfold keysU at hy
    rw [List.map_append] at hy
    rcases List.mem_append.1 hy with hy | hy
    · exact h.rg y hy
    · simp at hy; subst hy; exact hr
  · by_cases h' : i < up.length
    · rw [List.getElem_append_left h']
      rcases h.par i h' with k | ⟨j, hj, k1, k2, k3⟩
      · exact .inl k
      · exact .inr ⟨j, by simp; omega, k1, by rw [List.getElem_append_left hj]; exact k2, by rw [List.getElem_append_left hj]; exact k3⟩
    · have hiu : i = up.length := by simp at hi; omega
      subst hiu
      rw [List.getElem_append_right (Nat.le_refl _)]
      simp only [Nat.sub_self, List.getElem_cons_zero]
      rcases hp with k | ⟨j, hj, k⟩
      · exact .inl k
      · exact .inr ⟨j, by simp; omega, hj, by rw [List.getElem_append_left hj]; exact k⟩
/-- the way back from node h, so far -/
structure BackI (g : List (List Int)) (fr : List Int) (al : Nat → Bool) (up : UP) (h q : Nat) (out : List Int) : Prop where
  hq : q ≤ up.length
  hh : h < up.length
  len : out.length + q ≤ h + 1
  rg : okL g.length out
  rv : ∀ i, i + 1 < out.length → out.getD i 0 ∈ g.getD (out.getD (i + 1) 0).toNat [] ∧ al (out.getD i 0).toNat = true
  nx : ∀ (h0 : 0 < q), 0 < out.length → out.getD (out.length - 1) 0 ∈ g.getD (up[q - 1]'(by omega)).1.toNat [] ∧ al (out.getD (out.length - 1) 0).toNat = true
  hd : 0 < out.length → out.getD 0 0 = up[h].1
  em : out.length = 0 → q = h + 1
  fn : q = 0 → 0 < out.length ∧ out.getD (out.length - 1) 0 ∈ fr
def numQ (up : UP) (q : Nat) : Int := if h : 0 < q ∧ q ≤ up.length then (up[q - 1]'(by omega)).1 else -1
theorem BackI.start {h : Nat} (hh : h < up.length) : BackI g fr al up h (h + 1) [] :=
  ⟨hh, hh, by simp, (fun x hx => by cases hx), fun i hi => absurd hi (by simp), fun _ k => absurd k (by simp), fun k => absurd k (by simp), fun _ => rfl, fun k => by cases k⟩
theorem getD_app1 {l : List Int} {x : Int} {i : Nat} (h : i < l.length) : (l ++ [x]).getD i 0 = l.getD i 0 := by
  rw [List.getD_eq_getElem?_getD, List.getElem?_append_left h, ← List.getD_eq_getElem?_getD]
theorem getD_app2 {l : List Int} {x : Int} : (l ++ [x]).getD l.length 0 = x := by
  rw [List.getD_eq_getElem?_getD, List.getElem?_append_right (Nat.le_refl _)]; simp
/-- one step back -/
theorem BackI.step (hC : WyC g fr al up) {h q : Nat} {out : List Int} (hI : BackI g fr al up h q out) (h0 : 0 < q) : ∃ q', q' < q ∧ (up[q - 1]'(by have := hI.hq; omega)).2 = numQ up q' ∧ BackI g fr al up h q' (out ++ [(up[q - 1]'(by have := hI.hq; omega)).1]) := by
  have hq := hI.hq
  have hql : q - 1 < up.length := by omega
  have hrg : 0 ≤ up[q - 1].1 ∧ up[q - 1].1 < g.length := hC.rg _ (List.mem_map.2 ⟨_, List.getElem_mem hql, rfl⟩)
  have hlen := hI.len
  have common : ∀ q' (hq' : q' < q), (∀ (h1 : 0 < q'), up[q - 1].1 ∈ g.getD (up[q' - 1]'(by omega)).1.toNat [] ∧ al up[q - 1].1.toNat = true) → (q' = 0 → up[q - 1].1 ∈ fr) → BackI g fr al up h q' (out ++ [up[q - 1].1]) := by
    intro q' hq' hn hf
    refine ⟨by omega, hI.hh, by simp; omega, fun x hx => ?_, fun i hi => ?_, fun h1 _ => ?_, fun _ => ?_, fun k => by simp at k, fun k => ⟨by simp, ?_⟩⟩
    · rcases List.mem_append.1 hx with hx | hx
      · exact hI.rg x hx
      · rw [List.mem_singleton] at hx; subst hx; exact hrg
    · simp at hi
      rw [getD_app1 (i := i) (by omega)]
      by_cases e : i + 1 < out.length
      · rw [getD_app1 (i := i + 1) e]; exact hI.rv i e
      · obtain e : i + 1 = out.length := by omega
        rw [e, getD_app2]
        have := hI.nx h0 (by omega)
        rw [show out.length - 1 = i by omega] at this
        exact this
    · rw [show (out ++ [up[q - 1].1]).length - 1 = out.length by simp, getD_app2]
      exact hn h1
    · by_cases e : 0 < out.length
      · rw [getD_app1 e]; exact hI.hd e
      · have e0 : out.length = 0 := by omega
        have hqh := hI.em e0
        have : (out ++ [up[q - 1].1]).getD 0 0 = up[q - 1].1 := by
          have := getD_app2 (l := out) (x := up[q - 1].1)
          rwa [e0] at this
        rw [this]
        congr 2
        omega
    · rw [show (out ++ [up[q - 1].1]).length - 1 = out.length by simp, getD_app2]
      exact hf k
  rcases hC.par (q - 1) hql with ⟨k1, k2⟩ | ⟨j, hj, k1, k2, k3, k4⟩
  · exact ⟨0, h0, by rw [k1]; unfold numQ; rw [dif_neg (by omega)], common 0 h0 (fun h1 => absurd h1 (by omega)) (fun _ => k2)⟩
  · refine ⟨j + 1, by omega, ?_, common (j + 1) (by omega) (fun _ => ⟨k3, k4⟩) (fun e => by cases e)⟩
    rw [k2]
    unfold numQ
    rw [dif_pos ⟨by omega, by omega⟩]
    rfl
/-- turned round it is a way -/
theorem BackI.done (hC : WyC g fr al up) {h : Nat} {out : List Int} (hI : BackI g fr al up h 0 out) (ht : to (up[h]'hI.hh).1.toNat = true) : WyOK g fr to al out.reverse := by
  have hlen := hI.len
  have hul := hC.len
  have hh := hI.hh
  have h0 := (hI.fn rfl).1
  have hget : ∀ i, i < out.length → out.reverse.getD i 0 = out.getD (out.length - 1 - i) 0 := fun i hi => by
    rw [List.getD_eq_getElem?_getD, List.getElem?_reverse hi, ← List.getD_eq_getElem?_getD]
  refine ⟨by simpa using h0, by rw [List.length_reverse]; omega, fun x hx => hI.rg x (List.mem_reverse.1 hx), ?_, fun i hi => ?_, ?_⟩
  · rw [hget 0 h0]; exact (hI.fn rfl).2
  · rw [List.length_reverse] at hi
    rw [hget _ hi, hget i (by omega)]
    have := hI.rv (out.length - 1 - (i + 1)) (by omega)
    rw [show out.length - 1 - (i + 1) + 1 = out.length - 1 - i by omega] at this
    exact this
  · rw [List.length_reverse, hget _ (by omega), show out.length - 1 - (out.length - 1) = 0 by omega, hI.hd h0]; exact ht
end
end Go.Proofs.Ytllpfgcngokhnaa
