/-
  Package lasso: next, not, until.
-/
import Derived.Test.YthojdcbpglipeaaLasso
set_option linter.unusedVariables false
set_option linter.unusedSimpArgs false
namespace Go.Proofs.Ythojdcbpglipeaa
open Go.RowKit

def nextL (s l : List Nat) (i : Nat) : Nat := if i + 1 = s.length + l.length then s.length else i + 1
theorem next_ok (w : World) {so lo : Option Addr} {sc lc : Nat} {s l : List Nat} (i : Nat) (hn : s.length + l.length ≤ 60) (hi : i < s.length + l.length) :
    Rt Try.prog 172 [wordV so sc lo lc s l, .int .i64 (i : Int)].toArray w fun v w' => v = .int .i64 (nextL s l i : Int) ∧ Ext w w' := by
  refine Rt.enter2 Try.func172 Try.ntmps172 rfl rfl ?_
  (repeat (first | (apply CW.seq) | (apply CW.region)))
  refine WL.boxB rfl rfl rfl fun w1 hb hE => ?_
  (repeat (first | (apply WL.add; rfl; rfl; rfl; rfl; omega; omega) | (apply WL.pure; rfl; rfl; rfl) | (apply WL.nil) | (apply EX.thenN) | (apply CW.seq) | (apply CW.region) | (apply WL.lenS; rfl; rfl; rfl) | (apply WL.fa; rfl; rfl; rfl) | (apply WL.ld; rfl; rfl; rfl; assumption; rfl)))
  refine CW.cond rfl (fun h => ?_) (fun h => ?_) <;> simp at h
  · (repeat (first | (apply WL.pure; rfl; rfl; rfl) | (apply WL.nil) | (apply EX.thenN) | (apply CW.seq) | (apply CW.region) | (apply WL.lenS; rfl; rfl; rfl) | (apply WL.fa; rfl; rfl; rfl) | (apply WL.ld; rfl; rfl; rfl; assumption; rfl) | (apply CW.ret) | (apply EX.thenR)))
    refine EX.ret1 rfl rfl ⟨?_, hE⟩
    unfold nextL; rw [if_pos (by omega)]
  · (repeat (first | (apply WL.add; rfl; rfl; rfl; rfl; omega; omega) | (apply WL.pure; rfl; rfl; rfl) | (apply WL.nil) | (apply EX.thenN) | (apply CW.seq) | (apply CW.region) | (apply CW.ret) | (apply CW.skip)))
    refine EX.ret1 rfl rfl ⟨?_, hE⟩
    unfold nextL; rw [if_neg (by omega)]; rfl

theorem not_ok (w : World) {ao : Option Addr} {cap : Nat} {xs : List Bool} {F : Nat → Prop} (hs : Sl w F ao cap xs) (hF : ∀ b, F b → b < w.heap.size) (hl : xs.length ≤ 100000) :
    Rt Try.prog 170 [.slice ao xs.length cap].toArray w fun v w' => Own w' w.heap.size 4 Non v (xs.map (!·)) ∧ Ext w w' := by
  refine Rt.enter1 Try.func170 Try.ntmps170 rfl rfl ?_
  (repeat (first | (apply WL.pure; rfl; rfl; rfl) | (apply WL.nil) | (apply EX.thenN) | (apply CW.seq) | (apply CW.region) | (apply WL.lenS; rfl; rfl; rfl)))
  refine WL.make (α := Bool) (x0 := false) (bytes := 1) rfl rfl rfl rfl (by omega) (by unfold maxLen; omega) (fun w1 ho hgr => ?_)
  have hE1 : Ext w w1 := (Ext.refl w).grown hgr (Nat.le_refl _) (fun k h => by cases h)
  generalize hv : Value.slice (some ⟨w.heap.size, 0, none⟩) xs.length xs.length = v at *
  (repeat (first | (apply WL.pure; rfl; rfl; rfl) | (apply WL.nil) | (apply EX.thenN) | (apply CW.seq) | (apply CW.region) | (apply WL.lenS; rfl; rfl; rfl) | (apply CW.block)))
  refine CW.loop (S := Nat) (fun k => [(3, v), (9, .slice ao xs.length cap), (10, .int .i64 (xs.length : Int)), (11, .int .i64 (k : Int))])
    (fun k w' => Ext w w' ∧ k ≤ xs.length ∧ Own w' w.heap.size 4 Non v ((xs.take k).map (!·) ++ List.replicate (xs.length - k) false)) (fun k => xs.length - k) 0 (by repeat (first | exact trivial | refine ⟨rfl, ?_⟩)) ⟨hE1, by omega, by simpa using ho⟩ ?_
  rintro k w2 ⟨hE2, hk, ho⟩
  (repeat (first | (apply WL.pure; rfl; rfl; rfl) | (apply WL.nil) | (apply EX.thenN) | (apply CW.seq) | (apply CW.region)))
  refine CW.cond rfl (fun h => ?_) (fun h => ?_) <;> simp at h
  · (repeat (first | (apply WL.pure; rfl; rfl; rfl) | (apply EX.thenN) | (apply CW.seq) | (apply CW.region) | (apply CW.block) | (apply CW.skip)))
    have hs2 := hs.mono (fun b hb => hE2.block b (hF b hb)) fun _ h => h
    refine WL.elemB rfl rfl rfl rfl rfl hs2 h rfl (fun _ => rfl) (fun q => ?_)
    (repeat (first | (apply WL.pure; rfl; rfl; rfl) | (apply WL.nil) | (apply EX.thenN) | (apply CW.region)))
    refine WL.setN (α := Bool) (yv := !xs[k]) rfl rfl rfl rfl ho (by simp; omega) (fun _ => rfl) (fun _ => rfl) (Rd.mkBool _ _ _) (fun w3 p ho3 hgr3 => ?_)
    have hE3 : Ext w w3 := hE2.grown hgr3 hE2.size (fun g hg => (ho.lt g hg).1)
    (repeat (first | (apply WL.add; rfl; rfl; rfl; rfl; omega; omega) | (apply WL.pure; rfl; rfl; rfl) | (apply WL.nil) | (apply EX.thenN) | (apply CW.region) | (apply EX.inN)))
    refine EX.back (k + 1) (by repeat (first | exact trivial | refine ⟨rfl, ?_⟩)) ⟨hE3, by omega, ?_⟩ (by omega)
    have e : (List.map (!·) (xs.take k) ++ List.replicate (xs.length - k) false).set k (!xs[k]) = List.map (!·) (xs.take (k + 1)) ++ List.replicate (xs.length - (k + 1)) false := by
      rw [List.set_append_right _ _ (by simp; omega)]
      have h0 : k - (List.map (!·) (xs.take k)).length = 0 := by simp; omega
      rw [h0, show xs.length - k = (xs.length - (k + 1)) + 1 by omega, List.replicate_succ, List.set_cons_zero, List.take_succ_eq_append_getElem h, List.map_append]
      simp
    rw [← e]; exact ho3
  · have : k = xs.length := by omega
    subst this
    (repeat (first | (apply WL.pure; rfl; rfl; rfl) | (apply WL.nil) | (apply EX.thenN) | (apply CW.seq) | (apply CW.region) | (apply CW.exit) | (apply EX.thenX) | (apply EX.inX) | (apply CW.ret)))
    refine EX.ret1 rfl rfl ⟨?_, hE2⟩
    simpa using ho

/-- one round of until, from behind -/
def untilR (s l : List Nat) (a b : List Bool) : Nat → List Bool → List Bool
  | 0, out => out
  | i + 1, out => untilR s l a b i (out.set i (b.getD i false || (a.getD i false && out.getD (nextL s l i) false)))
def untilL (s l : List Nat) (a b : List Bool) : List Bool := untilR s l a b a.length (untilR s l a b a.length (List.replicate a.length false))
theorem untilR_len (s l : List Nat) (a b : List Bool) : ∀ i out, (untilR s l a b i out).length = out.length
  | 0, out => rfl
  | i + 1, out => by rw [untilR, untilR_len s l a b i, List.length_set]
theorem untilL_len (s l : List Nat) (a b : List Bool) : (untilL s l a b).length = a.length := by unfold untilL; rw [untilR_len, untilR_len, List.length_replicate]

theorem until_ok (w : World) {so lo : Option Addr} {sc lc : Nat} {s l : List Nat} {ao bo : Option Addr} {ac bc : Nat} {a b : List Bool} {F : Nat → Prop} (ha : Sl w F ao ac a) (hb : Sl w F bo bc b) (hF : ∀ b, F b → b < w.heap.size)
    (hn : s.length + l.length ≤ 60) (hl : a.length = s.length + l.length) (hl2 : b.length = s.length + l.length) (h0 : 0 < l.length) :
    Rt Try.prog 171 [wordV so sc lo lc s l, .slice ao a.length ac, .slice bo b.length bc].toArray w fun v w' => Own w' w.heap.size 4 Non v (untilL s l a b) ∧ Ext w w' := by
  refine Rt.enter3 Try.func171 Try.ntmps171 rfl rfl ?_
  (repeat (first | (apply CW.seq) | (apply CW.region)))
  refine WL.boxB rfl rfl rfl fun w0 hw hE0 => ?_
  have hwl := hw.lt
  have hbk : w.heap.size ≤ w0.heap.size := hE0.size
  (repeat (first | (apply WL.pure; rfl; rfl; rfl) | (apply WL.nil) | (apply EX.thenN) | (apply CW.seq) | (apply CW.region) | (apply WL.lenS; rfl; rfl; rfl)))
  refine WL.make (α := Bool) (x0 := false) (bytes := 1) rfl rfl rfl rfl (by omega) (by unfold maxLen; omega) (fun w1 ho hgr => ?_)
  have hE1 : Ext w0 w1 := (Ext.refl w0).grown hgr (Nat.le_refl _) (fun k h => by cases h)
  generalize hv : Value.slice (some ⟨w0.heap.size, 0, none⟩) a.length a.length = v at *
  (repeat (first | (apply WL.pure; rfl; rfl; rfl) | (apply WL.nil) | (apply EX.thenN) | (apply CW.seq) | (apply CW.region) | (apply CW.block)))
  refine CW.loop (S := Nat × List Bool) (fun x => [(1, .slice ao a.length ac), (2, .slice bo b.length bc), (3, .pointer (some ⟨w.heap.size, 0, none⟩)), (7, .int .i64 (a.length : Int)), (8, v), (14, .int .i64 (x.1 : Int))])
    (fun x w' => Ext w0 w' ∧ Own w' w0.heap.size 4 Non v x.2 ∧ x.2.length = a.length ∧ (x.1 = 0 ∧ x.2 = List.replicate a.length false ∨ x.1 = 1 ∧ x.2 = untilR s l a b a.length (List.replicate a.length false) ∨ x.1 = 2 ∧ x.2 = untilL s l a b)) (fun x => 2 - x.1) (0, List.replicate a.length false) (by repeat (first | exact trivial | refine ⟨rfl, ?_⟩)) ⟨hE1, ho, by simp, .inl ⟨rfl, rfl⟩⟩ ?_
  rintro ⟨r, out0⟩ w2 ⟨hE2, ho, hol, hr⟩
  simp only at ho hol hr
  (repeat (first | (apply WL.pure; rfl; rfl; rfl) | (apply WL.nil) | (apply EX.thenN) | (apply CW.seq) | (apply CW.region)))
  refine CW.cond rfl (fun h => ?_) (fun h => ?_) <;> simp at h
  · (repeat (first | (apply WL.sub'; rfl; rfl; rfl; rfl; omega; omega) | (apply WL.pure; rfl; rfl; rfl) | (apply WL.nil) | (apply EX.thenN) | (apply CW.seq) | (apply CW.region) | (apply CW.block) | (apply CW.skip)))
    refine CW.loop (S := Int × List Bool) (fun x => [(1, .slice ao a.length ac), (2, .slice bo b.length bc), (3, .pointer (some ⟨w.heap.size, 0, none⟩)), (7, .int .i64 (a.length : Int)), (8, v), (9, .int .i64 x.1), (14, .int .i64 (r : Int))])
      (fun x w' => Ext w0 w' ∧ Own w' w0.heap.size 4 Non v x.2 ∧ x.2.length = a.length ∧ -1 ≤ x.1 ∧ x.1 < a.length ∧ untilR s l a b (x.1 + 1).toNat x.2 = untilR s l a b a.length out0) (fun x => (x.1 + 1).toNat) ((a.length : Int) - 1, out0) (by repeat (first | exact trivial | refine ⟨rfl, ?_⟩)) ⟨hE2, ho, hol, by simp only; omega, by simp only; omega, by simp only; rw [show ((a.length : Int) - 1 + 1).toNat = a.length by omega]⟩ ?_
    rintro ⟨i, out⟩ w3 ⟨hE3, ho3, hol3, hi0, hi1, heq⟩
    simp only at ho3 hol3 hi0 hi1 heq
    (repeat (first | (apply WL.pure; rfl; rfl; rfl) | (apply WL.nil) | (apply EX.thenN) | (apply CW.seq) | (apply CW.region)))
    refine CW.cond rfl (fun h1 => ?_) (fun h1 => ?_) <;> simp at h1
    · obtain ⟨k, rfl⟩ := Int.eq_ofNat_of_zero_le h1
      have hka : k < a.length := by omega
      have hkb : k < b.length := by omega
      have hE3' := hE0.trans hE3
      have ha3 := ha.mono (fun b hb => hE3'.block b (hF b hb)) fun _ h => h
      have hb3 := hb.mono (fun b hb => hE3'.block b (hF b hb)) fun _ h => h
      have hw3 := hw.ext hE3
      have e1 : ((k : Int) + 1).toNat = k + 1 := by omega
      rw [e1] at heq
      simp only [untilR] at heq
      have ga : a.getD k false = a[k] := by rw [List.getD_eq_getElem?_getD, List.getElem?_eq_getElem hka]; rfl
      have gb : b.getD k false = b[k] := by rw [List.getD_eq_getElem?_getD, List.getElem?_eq_getElem hkb]; rfl
      rw [ga, gb] at heq
      have fin : ∀ (y : Bool), y = (b[k] || (a[k] && out.getD (nextL s l k) false)) → ∀ w4, Ext w0 w4 → Own w4 w0.heap.size 4 Non v (out.set k y) → (Ext w0 w4 ∧ Own w4 w0.heap.size 4 Non v (out.set k y) ∧ (out.set k y).length = a.length ∧ -1 ≤ (k : Int) - 1 ∧ (k : Int) - 1 < a.length ∧ untilR s l a b ((k : Int) - 1 + 1).toNat (out.set k y) = untilR s l a b a.length out0) := by
        rintro y rfl w4 h4 ho4
        refine ⟨h4, ho4, by simpa using hol3, by omega, by omega, ?_⟩
        rw [show ((k : Int) - 1 + 1).toNat = k by omega]; exact heq
      (repeat (first | (apply WL.pure; rfl; rfl; rfl) | (apply EX.thenN) | (apply CW.seq) | (apply CW.region) | (apply CW.block) | (apply CW.skip)))
      refine WL.elemB rfl rfl rfl rfl rfl hb3 hkb rfl (fun _ => rfl) (fun q => ?_)
      (repeat (apply WL.pure; rfl; rfl; rfl))
      (refine WL.lookG rfl rfl (fun h => ?_) (fun h => ?_))
      · have hbk' := h
        (repeat (first | (apply WL.pure; rfl; rfl; rfl) | (apply WL.pass; rfl; rfl)))
        refine WL.setN (α := Bool) (yv := true) rfl rfl rfl rfl ho3 (by omega) (fun _ => rfl) (fun _ => rfl) (Rd.mkBool _ _ _) (fun w9 p ho9 hgr9 => ?_)
        have hE9 : Ext w0 w9 := hE3.grown hgr9 hE3.size (fun g hg => (ho3.lt g hg).1)
        (repeat (first | (apply WL.sub'; rfl; rfl; rfl; rfl; omega; omega) | (apply WL.pure; rfl; rfl; rfl) | (apply WL.nil) | (apply EX.thenN) | (apply CW.region) | (apply EX.inN)))
        exact EX.back ((k : Int) - 1, out.set k true) (by repeat (first | exact trivial | refine ⟨rfl, ?_⟩)) (fin _ (by rw [hbk']; rfl) w9 hE9 ho9) (by simp only; omega)
      · have hbk' := h
        (repeat (apply WL.pure; rfl; rfl; rfl))
        refine WL.elemB rfl rfl rfl rfl rfl ha3 hka rfl (fun _ => rfl) (fun q => ?_)
        (repeat (apply WL.pure; rfl; rfl; rfl))
        (refine WL.lookG rfl rfl (fun h => ?_) (fun h => ?_))
        · have hak := h
          (repeat (first | (apply WL.pure; rfl; rfl; rfl) | (apply WL.ldA; rfl; rfl; rfl; assumption; rfl)))
          refine WL.call rfl rfl rfl (next_ok w3 k hn (by omega)) ?_
          rintro v' w4 ⟨rfl, hE4⟩
          have ho4 := ho3.extN hE4
          have hE4 := hE3.trans hE4
          have hnx : nextL s l k < out.length := by unfold nextL; split <;> omega
          have go : out.getD (nextL s l k) false = out[nextL s l k] := by rw [List.getD_eq_getElem?_getD, List.getElem?_eq_getElem hnx]; rfl
          skip
          refine WL.elemON rfl rfl rfl rfl rfl ho4 hnx (fun _ => rfl) (fun u q hu => ?_)
          have hu := hu.bool
          subst hu
          (repeat (apply WL.pure; rfl; rfl; rfl))
          refine WL.setN (α := Bool) (yv := out[nextL s l k]) rfl rfl rfl rfl ho4 (by omega) (fun _ => rfl) (fun _ => rfl) (Rd.mkBool _ _ _) (fun w9 p ho9 hgr9 => ?_)
          have hE9 : Ext w0 w9 := hE4.grown hgr9 hE4.size (fun g hg => (ho4.lt g hg).1)
          (repeat (first | (apply WL.sub'; rfl; rfl; rfl; rfl; omega; omega) | (apply WL.pure; rfl; rfl; rfl) | (apply WL.nil) | (apply EX.thenN) | (apply CW.region) | (apply EX.inN)))
          exact EX.back ((k : Int) - 1, out.set k out[nextL s l k]) (by repeat (first | exact trivial | refine ⟨rfl, ?_⟩)) (fin _ (by rw [hbk', hak, go]; rfl) w9 hE9 ho9) (by simp only; omega)
        · have hak := h
          (repeat (first | (apply WL.pure; rfl; rfl; rfl) | (apply WL.pass; rfl; rfl)))
          refine WL.setN (α := Bool) (yv := false) rfl rfl rfl rfl ho3 (by omega) (fun _ => rfl) (fun _ => rfl) (Rd.mkBool _ _ _) (fun w9 p ho9 hgr9 => ?_)
          have hE9 : Ext w0 w9 := hE3.grown hgr9 hE3.size (fun g hg => (ho3.lt g hg).1)
          (repeat (first | (apply WL.sub'; rfl; rfl; rfl; rfl; omega; omega) | (apply WL.pure; rfl; rfl; rfl) | (apply WL.nil) | (apply EX.thenN) | (apply CW.region) | (apply EX.inN)))
          exact EX.back ((k : Int) - 1, out.set k false) (by repeat (first | exact trivial | refine ⟨rfl, ?_⟩)) (fin _ (by rw [hbk', hak]; rfl) w9 hE9 ho9) (by simp only; omega)
    · have hi : i = -1 := by omega
      subst hi
      simp only [untilR, show ((-1 : Int) + 1).toNat = 0 from rfl] at heq
      (repeat (first | (apply WL.add; rfl; rfl; rfl; rfl; omega; omega) | (apply WL.pure; rfl; rfl; rfl) | (apply WL.nil) | (apply EX.thenN) | (apply CW.region) | (apply EX.inN) | (apply CW.exit) | (apply EX.thenX) | (apply EX.inX)))
      refine EX.back (r + 1, out) (by repeat (first | exact trivial | refine ⟨rfl, ?_⟩)) ⟨hE3, ho3, hol3, ?_⟩ (by simp only; omega)
      simp only
      rcases hr with ⟨rfl, rfl⟩ | ⟨rfl, rfl⟩ | ⟨rfl, rfl⟩
      · exact .inr (.inl ⟨rfl, heq⟩)
      · exact .inr (.inr ⟨rfl, heq⟩)
      · omega
  · have hr2 : out0 = untilL s l a b := by
      rcases hr with ⟨rfl, _⟩ | ⟨rfl, _⟩ | ⟨_, h⟩
      · omega
      · omega
      · exact h
    subst hr2
    (repeat (first | (apply WL.pure; rfl; rfl; rfl) | (apply WL.nil) | (apply EX.thenN) | (apply CW.seq) | (apply CW.region) | (apply CW.exit) | (apply EX.thenX) | (apply EX.inX) | (apply CW.ret)))
    exact EX.ret1 rfl rfl ⟨ho.low hbk, hE0.trans hE2⟩
end Go.Proofs.Ythojdcbpglipeaa
