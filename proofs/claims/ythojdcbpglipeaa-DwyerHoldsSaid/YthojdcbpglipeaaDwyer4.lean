/-
  Package dwyer: spans, Means.
-/
import Derived.Test.YthojdcbpglipeaaDwyer3
set_option linter.unusedVariables false
set_option linter.unusedSimpArgs false
namespace Go.Proofs.Ythojdcbpglipeaa
open Go.RowKit

def spCast (x : Nat × Nat) : Int × Int := (x.1, x.2)
def spAt (pt : LPat) (s l : List Nat) (e i : Nat) : List (Nat × Nat) :=
  if hasL s l i pt.2.2.2.2.1.toNat = true ∧ hasL s l i pt.2.2.2.2.2.1.toNat = false then
    (if firstL s l e (i + 1) pt.2.2.2.2.2.1.toNat < e ∨ pt.2.1 = 5 then [(i, firstL s l e (i + 1) pt.2.2.2.2.2.1.toNat)] else []) else []
def spansN (pt : LPat) (s l : List Nat) (e : Nat) : List (Nat × Nat) :=
  if pt.2.1 = 1 then [(0, e)]
  else if pt.2.1 = 2 then (if firstL s l e 0 pt.2.2.2.2.2.1.toNat = e then [] else [(0, firstL s l e 0 pt.2.2.2.2.2.1.toNat)])
  else if pt.2.1 = 3 then (if firstL s l e 0 pt.2.2.2.2.1.toNat < e then [(firstL s l e 0 pt.2.2.2.2.1.toNat, e)] else [])
  else (List.range (s.length + l.length)).flatMap (spAt pt s l e)
theorem flatMap_range {β : Type} (f : Nat → List β) (k : Nat) : (List.range (k + 1)).flatMap f = (List.range k).flatMap f ++ f k := by
  rw [List.range_succ, List.flatMap_append]; simp
section
variable {w w' : World} {F : Nat → Prop} {b : Nat} {pt : LPat} {so : Option Addr} {sc : Nat} {lo : Option Addr} {lc : Nat} {s l : List Nat} {e : Nat}
theorem spAt_len (i : Nat) : (spAt pt s l e i).length ≤ 1 := by
  unfold spAt; split
  · split <;> simp
  · simp
theorem spR_len (k : Nat) : ((List.range k).flatMap (spAt pt s l e)).length ≤ k := by
  induction k with
  | zero => simp
  | succ k ih => rw [flatMap_range, List.length_append]; have := spAt_len (pt := pt) (s := s) (l := l) (e := e) k; omega
theorem rd_span (w : World) (F : Nat → Prop) (a b : Nat) : Rd w F (spanV a b) (spCast (a, b)) := Rd.mkPr (rd_mkInt _ _ _) (rd_mkInt _ _ _)

theorem spans_ok (L : LookAt w F b pt so sc lo lc s l e) (hq : 0 ≤ pt.2.2.2.2.1) (hr : 0 ≤ pt.2.2.2.2.2.1) :
    Rt Try.prog 77 [.pointer (some ⟨b, 0, none⟩)].toArray w fun v w' => Own w' w.heap.size 154 Non v ((spansN pt s l e).map spCast) ∧ Ext w w' := by
  refine Rt.enter1 Try.func77 Try.ntmps77 rfl rfl ?_
  have hb := L.blk
  have hsm := L.small
  have hc := chkW_ok L.chk
  (repeat (first | (apply QL.add; rfl; rfl; rfl; rfl; omega; omega) | (apply WL.pure; rfl; rfl; rfl) | (apply QL.pure; rfl; rfl; rfl) | (apply WL.nil) | (apply EX.thenN) | (apply CW.seq) | (apply CW.region) | (apply QL.lenS; rfl; rfl; rfl) | (apply QL.fa; rfl; rfl; rfl) | (apply QL.nck; rfl; rfl; rfl) | (apply QL.ld; rfl; rfl; rfl; assumption; rfl) | (apply CW.draw; exact mixed; kernel_rfl)))
  refine QL.nil fun w1 hE => ?_
  have L1 := L.ext hE
  have hb1 := L1.blk
  (repeat (first | (apply WL.pure; rfl; rfl; rfl) | (apply EX.thenN) | (apply CW.seq) | (apply CW.region) | (apply WL.fa; rfl; rfl; rfl) | (apply WL.nck; rfl; rfl; rfl) | (apply WL.ld; rfl; rfl; rfl; assumption; rfl)))
  refine WL.call rfl rfl rfl (first_ok L1 0 (by omega) _ hr) ?_
  rintro v w2 ⟨rfl, hE2⟩
  have hE2 := hE.trans hE2
  have L2 := L.ext hE2
  have hb2 := L2.blk
  (repeat (first | (apply WL.pure; rfl; rfl; rfl) | (apply WL.nil) | (apply EX.thenN) | (apply CW.seq) | (apply CW.region) | (apply WL.fa; rfl; rfl; rfl) | (apply WL.nck; rfl; rfl; rfl) | (apply WL.ld; rfl; rfl; rfl; assumption; rfl) | (apply CW.block)))
  have hB2 : w.heap.size ≤ w2.heap.size := hE2.size
  refine CW.cond rfl (fun h => ?_) (fun h => ?_) <;> simp at h
  · (repeat (first | (apply WL.pure; rfl; rfl; rfl) | (apply CW.seq) | (apply CW.region) | (apply WL.fa; rfl; rfl; rfl) | (apply WL.nck; rfl; rfl; rfl) | (apply WL.ld; rfl; rfl; rfl; assumption; rfl)))
    refine WL.build rfl rfl rfl rfl ?_
    refine WL.lit (F := Non) (ys := [spCast (0, e)]) rfl rfl rfl rfl rfl ⟨rd_span _ _ 0 e, trivial⟩ (by show 1 * 2 ≤ 16777216; decide) (fun _ h => h.elim) (fun w3 ho hgr => ?_)
    (repeat (first | (apply WL.pure; rfl; rfl; rfl) | (apply WL.nil) | (apply EX.thenN) | (apply CW.ret) | (apply EX.thenR) | (apply EX.inR)))
    refine EX.ret1 rfl rfl ⟨?_, hE2.grown hgr hE2.size (fun k h => by cases h)⟩
    unfold spansN
    rw [if_pos h]
    exact ho.low hB2
  · (repeat (first | (apply WL.pure; rfl; rfl; rfl) | (apply WL.nil) | (apply EX.thenN) | (apply CW.seq) | (apply CW.region)))
    refine CW.cond rfl (fun h1 => ?_) (fun h1 => ?_) <;> simp at h1
    · (repeat (first | (apply WL.pure; rfl; rfl; rfl) | (apply WL.nil) | (apply EX.thenN) | (apply CW.seq) | (apply CW.region) | (apply WL.fa; rfl; rfl; rfl) | (apply WL.nck; rfl; rfl; rfl) | (apply WL.ld; rfl; rfl; rfl; assumption; rfl)))
      refine CW.cond rfl (fun h2 => ?_) (fun h2 => ?_) <;> simp at h2
      · (repeat (first | (apply WL.pure; rfl; rfl; rfl) | (apply WL.nil) | (apply EX.thenN) | (apply CW.seq) | (apply CW.region) | (apply CW.ret) | (apply EX.thenR) | (apply EX.inR)))
        refine EX.ret1 rfl rfl ⟨?_, hE2⟩
        unfold spansN
        rw [if_neg h, if_pos h1, if_pos (by omega)]
        exact Own.nil
      · (repeat (first | (apply WL.pure; rfl; rfl; rfl) | (apply EX.thenN) | (apply CW.seq) | (apply CW.region) | (apply CW.skip)))
        refine WL.build rfl rfl rfl rfl ?_
        refine WL.lit (F := Non) (ys := [spCast (0, firstL s l e 0 pt.2.2.2.2.2.1.toNat)]) rfl rfl rfl rfl rfl ⟨rd_span _ _ 0 _, trivial⟩ (by show 1 * 2 ≤ 16777216; decide) (fun _ h => h.elim) (fun w3 ho hgr => ?_)
        (repeat (first | (apply WL.pure; rfl; rfl; rfl) | (apply WL.nil) | (apply EX.thenN) | (apply CW.ret) | (apply EX.thenR) | (apply EX.inR)))
        refine EX.ret1 rfl rfl ⟨?_, hE2.grown hgr hE2.size (fun k h => by cases h)⟩
        unfold spansN
        rw [if_neg h, if_pos h1, if_neg (by omega)]
        exact ho.low hB2
    · (repeat (first | (apply WL.pure; rfl; rfl; rfl) | (apply WL.nil) | (apply EX.thenN) | (apply CW.seq) | (apply CW.region)))
      refine CW.cond rfl (fun h2 => ?_) (fun h2 => ?_) <;> simp at h2
      · (repeat (first | (apply WL.pure; rfl; rfl; rfl) | (apply CW.seq) | (apply CW.region) | (apply WL.fa; rfl; rfl; rfl) | (apply WL.nck; rfl; rfl; rfl) | (apply WL.ld; rfl; rfl; rfl; assumption; rfl)))
        refine WL.call rfl rfl rfl (first_ok L2 0 (by omega) _ hq) ?_
        rintro v w3 ⟨rfl, hE3⟩
        have hE3 := hE2.trans hE3
        have L3 := L.ext hE3
        have hb3 := L3.blk
        (repeat (first | (apply WL.pure; rfl; rfl; rfl) | (apply WL.nil) | (apply EX.thenN) | (apply CW.seq) | (apply CW.region) | (apply WL.fa; rfl; rfl; rfl) | (apply WL.nck; rfl; rfl; rfl) | (apply WL.ld; rfl; rfl; rfl; assumption; rfl)))
        refine CW.cond rfl (fun h3 => ?_) (fun h3 => ?_) <;> simp at h3
        · (repeat (first | (apply WL.pure; rfl; rfl; rfl) | (apply CW.seq) | (apply CW.region) | (apply WL.fa; rfl; rfl; rfl) | (apply WL.nck; rfl; rfl; rfl) | (apply WL.ld; rfl; rfl; rfl; assumption; rfl)))
          refine WL.build rfl rfl rfl rfl ?_
          refine WL.lit (F := Non) (ys := [spCast (firstL s l e 0 pt.2.2.2.2.1.toNat, e)]) rfl rfl rfl rfl rfl ⟨rd_span _ _ _ _, trivial⟩ (by show 1 * 2 ≤ 16777216; decide) (fun _ h => h.elim) (fun w4 ho hgr => ?_)
          (repeat (first | (apply WL.pure; rfl; rfl; rfl) | (apply WL.nil) | (apply EX.thenN) | (apply CW.ret) | (apply EX.thenR) | (apply EX.inR)))
          refine EX.ret1 rfl rfl ⟨?_, hE3.grown hgr hE3.size (fun k h => by cases h)⟩
          unfold spansN
          rw [if_neg h, if_neg h1, if_pos h2, if_pos (by omega)]
          exact ho.low hE3.size
        · (repeat (first | (apply WL.pure; rfl; rfl; rfl) | (apply WL.nil) | (apply EX.thenN) | (apply CW.seq) | (apply CW.region) | (apply CW.ret) | (apply EX.thenR) | (apply EX.inR) | (apply CW.skip)))
          refine EX.ret1 rfl rfl ⟨?_, hE3⟩
          unfold spansN
          rw [if_neg h, if_neg h1, if_pos h2, if_neg (by omega)]
          exact Own.nil
      · (repeat (first | (apply WL.pure; rfl; rfl; rfl) | (apply WL.nil) | (apply EX.thenN) | (apply CW.seq) | (apply CW.region) | (apply CW.block) | (apply EX.inN) | (apply CW.skip)))
        refine CW.loop (S := Nat × Value) (fun x => [(0, .pointer (some ⟨b, 0, none⟩)), (6, x.2), (75, .int .i64 ((s.length : Int) + l.length)), (76, .int .i64 (x.1 : Int))])
          (fun x w1 => Ext w w1 ∧ Own w1 w.heap.size 154 Non x.2 (((List.range x.1).flatMap (spAt pt s l e)).map spCast) ∧ x.1 ≤ s.length + l.length) (fun x => 1000 - x.1) (0, .slice none 0 0) (by repeat (first | exact trivial | refine ⟨rfl, ?_⟩)) ⟨hE2, Own.nil, by omega⟩ ?_
        rintro ⟨k, out⟩ w3 ⟨hE3, ho, hk⟩
        simp only at ho hk
        have L3 := L.ext hE3
        have hb3 := L3.blk
        (repeat (first | (apply WL.pure; rfl; rfl; rfl) | (apply WL.nil) | (apply EX.thenN) | (apply CW.seq) | (apply CW.region)))
        refine CW.cond rfl (fun h3 => ?_) (fun h3 => ?_) <;> simp at h3
        · (repeat (first | (apply WL.pure; rfl; rfl; rfl) | (apply WL.nil) | (apply EX.thenN) | (apply CW.seq) | (apply CW.region) | (apply WL.fa; rfl; rfl; rfl) | (apply WL.nck; rfl; rfl; rfl) | (apply WL.ld; rfl; rfl; rfl; assumption; rfl) | (apply CW.block) | (apply CW.skip)))
          refine WL.call rfl rfl rfl (has_ok L3 k (by omega) _ hq) ?_
          rintro v w4 ⟨rfl, hE4⟩
          have ho4 := ho.extN hE4
          have hE4 := hE3.trans hE4
          have L4 := L.ext hE4
          have hb4 := L4.blk
          (repeat (apply WL.pure; rfl; rfl; rfl))
          (refine WL.lookG rfl rfl (fun h => ?_) (fun h => ?_))
          · have hQ := h
            (repeat (first | (apply WL.pure; rfl; rfl; rfl) | (apply WL.fa; rfl; rfl; rfl) | (apply WL.nck; rfl; rfl; rfl) | (apply WL.ld; rfl; rfl; rfl; assumption; rfl)))
            refine WL.call rfl rfl rfl (has_ok L4 k (by omega) _ hr) ?_
            rintro v w5 ⟨rfl, hE5⟩
            have ho5 := ho4.extN hE5
            have hE5 := hE4.trans hE5
            have L5 := L.ext hE5
            have hb5 := L5.blk
            (repeat (first | (apply WL.pure; rfl; rfl; rfl) | (apply WL.nil) | (apply EX.thenN)))
            refine CW.cond rfl (fun h4 => ?_) (fun h4 => ?_) <;> simp at h4
            · (repeat (first | (apply WL.add; rfl; rfl; rfl; rfl; omega; omega) | (apply WL.pure; rfl; rfl; rfl) | (apply CW.seq) | (apply CW.region) | (apply WL.fa; rfl; rfl; rfl) | (apply WL.nck; rfl; rfl; rfl) | (apply WL.ld; rfl; rfl; rfl; assumption; rfl)))
              refine WL.call rfl rfl rfl (first_ok L5 (k + 1) (by omega) _ hr) ?_
              rintro v w6 ⟨rfl, hE6⟩
              have ho6 := ho5.extN hE6
              have hE6 := hE5.trans hE6
              have L6 := L.ext hE6
              have hb6 := L6.blk
              (repeat (first | (apply WL.pure; rfl; rfl; rfl) | (apply WL.nil) | (apply EX.thenN) | (apply CW.seq) | (apply CW.region) | (apply WL.fa; rfl; rfl; rfl) | (apply WL.nck; rfl; rfl; rfl) | (apply WL.ld; rfl; rfl; rfl; assumption; rfl)))
              have hlen := spR_len (pt := pt) (s := s) (l := l) (e := e) k
              have app : ∀ (hc : firstL s l e (k + 1) pt.2.2.2.2.2.1.toNat < e ∨ pt.2.1 = 5), spAt pt s l e k = [(k, firstL s l e (k + 1) pt.2.2.2.2.2.1.toNat)] := by
                intro hc; unfold spAt; rw [if_pos ⟨hQ, h4⟩, if_pos hc]
              (refine WL.lookG rfl rfl (fun h => ?_) (fun h => ?_)) <;> simp at h
              · (repeat (first | (apply WL.pure; rfl; rfl; rfl) | (apply WL.nil) | (apply EX.thenN) | (apply CW.region) | (apply WL.pass; rfl; rfl) | (apply CW.condT; rfl)))
                refine WL.build rfl rfl rfl rfl ?_
                refine WL.app1 (yv := spCast (k, firstL s l e (k + 1) pt.2.2.2.2.2.1.toNat)) rfl rfl (fun _ => rfl) rfl rfl (fun _ => rfl) ho6 (rd_span _ _ _ _) hE6.size (fun _ h => h.elim) (by show 2 ≤ 16777216; decide) (by rw [List.length_map]; unfold maxLen; omega) (by rw [List.length_map]; omega) (fun v' w7 p ho7 hgr _ => ?_)
                have hE7 := hE6.grown hgr hE6.size (fun g hg => (ho6.lt g hg).1)
                (repeat (first | (apply WL.add; rfl; rfl; rfl; rfl; omega; omega) | (apply WL.pure; rfl; rfl; rfl) | (apply WL.nil) | (apply EX.thenN) | (apply CW.region) | (apply EX.inN)))
                refine EX.back (k + 1, v') (by repeat (first | exact trivial | refine ⟨rfl, ?_⟩)) ⟨hE7, ?_, by simp only; omega⟩ (by simp only; omega)
                simp only
                rw [flatMap_range, app (.inl (by omega)), List.map_append]
                exact ho7
              · (repeat (first | (apply WL.pure; rfl; rfl; rfl) | (apply WL.nil) | (apply EX.thenN) | (apply WL.fa; rfl; rfl; rfl) | (apply WL.nck; rfl; rfl; rfl) | (apply WL.ld; rfl; rfl; rfl; assumption; rfl)))
                refine CW.cond rfl (fun h5 => ?_) (fun h5 => ?_) <;> simp at h5
                · (repeat (first | (apply WL.pure; rfl; rfl; rfl) | (apply CW.region)))
                  refine WL.build rfl rfl rfl rfl ?_
                  refine WL.app1 (yv := spCast (k, firstL s l e (k + 1) pt.2.2.2.2.2.1.toNat)) rfl rfl (fun _ => rfl) rfl rfl (fun _ => rfl) ho6 (rd_span _ _ _ _) hE6.size (fun _ h => h.elim) (by show 2 ≤ 16777216; decide) (by rw [List.length_map]; unfold maxLen; omega) (by rw [List.length_map]; omega) (fun v' w7 p ho7 hgr _ => ?_)
                  have hE7 := hE6.grown hgr hE6.size (fun g hg => (ho6.lt g hg).1)
                  (repeat (first | (apply WL.add; rfl; rfl; rfl; rfl; omega; omega) | (apply WL.pure; rfl; rfl; rfl) | (apply WL.nil) | (apply EX.thenN) | (apply CW.region) | (apply EX.inN)))
                  refine EX.back (k + 1, v') (by repeat (first | exact trivial | refine ⟨rfl, ?_⟩)) ⟨hE7, ?_, by simp only; omega⟩ (by simp only; omega)
                  simp only
                  rw [flatMap_range, app (.inr h5), List.map_append]
                  exact ho7
                · (repeat (first | (apply WL.add; rfl; rfl; rfl; rfl; omega; omega) | (apply WL.pure; rfl; rfl; rfl) | (apply WL.nil) | (apply EX.thenN) | (apply CW.region) | (apply EX.inN) | (apply CW.skip)))
                  refine EX.back (k + 1, out) (by repeat (first | exact trivial | refine ⟨rfl, ?_⟩)) ⟨hE6, ?_, by simp only; omega⟩ (by simp only; omega)
                  simp only
                  rw [flatMap_range, show spAt pt s l e k = [] by unfold spAt; rw [if_pos ⟨hQ, h4⟩, if_neg (by omega)], List.append_nil]
                  exact ho6
            · (repeat (first | (apply WL.add; rfl; rfl; rfl; rfl; omega; omega) | (apply WL.pure; rfl; rfl; rfl) | (apply WL.nil) | (apply EX.thenN) | (apply CW.region) | (apply EX.inN) | (apply CW.skip)))
              refine EX.back (k + 1, out) (by repeat (first | exact trivial | refine ⟨rfl, ?_⟩)) ⟨hE5, ?_, by simp only; omega⟩ (by simp only; omega)
              simp only
              rw [flatMap_range, show spAt pt s l e k = [] by unfold spAt; rw [if_neg (by simp [h4])], List.append_nil]
              exact ho5
          · have hQ := h
            (repeat (first | (apply WL.add; rfl; rfl; rfl; rfl; omega; omega) | (apply WL.pure; rfl; rfl; rfl) | (apply WL.nil) | (apply EX.thenN) | (apply CW.region) | (apply WL.pass; rfl; rfl) | (apply EX.inN) | (apply CW.condF; rfl) | (apply CW.skip)))
            refine EX.back (k + 1, out) (by repeat (first | exact trivial | refine ⟨rfl, ?_⟩)) ⟨hE4, ?_, by simp only; omega⟩ (by simp only; omega)
            simp only
            rw [flatMap_range, show spAt pt s l e k = [] by unfold spAt; rw [if_neg (by simp [hQ])], List.append_nil]
            exact ho4
        · (repeat (first | (apply WL.pure; rfl; rfl; rfl) | (apply WL.nil) | (apply EX.thenN) | (apply CW.seq) | (apply CW.region) | (apply CW.exit) | (apply EX.thenX) | (apply EX.inX) | (apply CW.ret)))
          refine EX.ret1 rfl rfl ⟨?_, hE3⟩
          have hkn : k = s.length + l.length := by omega
          subst hkn
          unfold spansN
          rw [if_neg (by assumption), if_neg h1, if_neg h2]
          exact ho
end
end Go.Proofs.Ythojdcbpglipeaa
