/-
  Package dwyer: Means.
-/
import Derived.Test.YthojdcbpglipeaaDwyer4
set_option linter.unusedVariables false
set_option linter.unusedSimpArgs false
namespace Go.Proofs.Ythojdcbpglipeaa
open Go.RowKit

def endW (s l : List Nat) : Nat := s.length + 6 * l.length
def spOk (pt : LPat) (s l : List Nat) (e : Nat) (sp : Nat × Nat) : Bool :=
  if sp.2 = e ∧ pt.1 = 6 then ansGo s l (e + l.length) pt.2.2.1.toNat pt.2.2.2.1.toNat sp.1 sp.2 else keepsL pt s l e sp.1 sp.2
def meansL (pt : LPat) (s l : List Nat) : Bool × Int :=
  if chkP pt ≠ 0 then (false, chkP pt) else if chkW s l ≠ 0 then (false, chkW s l) else ((spansN pt s l (endW s l)).all (spOk pt s l (endW s l)), 0)

theorem chkP_ok {pt : LPat} (h : chkP pt = 0) : 0 ≤ pt.2.2.1 ∧ 0 ≤ pt.2.2.2.1 ∧ 0 ≤ pt.2.2.2.2.1 ∧ 0 ≤ pt.2.2.2.2.2.1 := by
  unfold chkP at h
  split at h
  · cases h
  · split at h
    · cases h
    · rename_i h2
      simp only [rightB, Bool.and_eq_false_iff, not_or, Bool.not_eq_false] at h2
      simp at h2
      omega
theorem spans_le {pt : LPat} {s l : List Nat} (hc : chkW s l = 0) : ∀ x ∈ spansN pt s l (endW s l), x.1 ≤ endW s l ∧ x.2 ≤ endW s l := by
  intro x hx
  have h0 := chkW_ok hc
  unfold spansN at hx
  split at hx
  · simp at hx; subst hx; simp
  · split at hx
    · split at hx
      · cases hx
      · simp at hx; subst hx; exact ⟨Nat.zero_le _, firstL_le (Nat.zero_le _)⟩
    · split at hx
      · split at hx
        · simp at hx; subst hx; exact ⟨firstL_le (Nat.zero_le _), Nat.le_refl _⟩
        · cases hx
      · simp at hx
        obtain ⟨i, hi, hx⟩ := hx
        unfold spAt at hx
        split at hx
        · split at hx
          · simp at hx; subst hx
            unfold endW
            exact ⟨by simp only; omega, firstL_le (by omega)⟩
          · cases hx
        · cases hx
theorem Rd.span {w : World} {F : Nat → Prop} {v : Value} {x : Nat × Nat} (h : Rd w F v (spCast x)) : v = spanV x.1 x.2 := by
  obtain ⟨c1, c2, rfl, h1, h2⟩ := h.pr
  rw [rd_int h1, rd_int h2]; rfl

theorem means_ok (w : World) {so lo : Option Addr} {sc lc : Nat} {s l : List Nat} {F : Nat → Prop} (hs : Sl w F so sc s) (hl : Sl w F lo lc l) (hF : ∀ b, F b → b < w.heap.size) (pt : LPat) :
    Rt Try.prog 30 [patV pt, wordV so sc lo lc s l].toArray w fun v w' => v = .tuple ⟨[.bool (meansL pt s l).1, .int .i64 (meansL pt s l).2]⟩ ∧ Ext w w' := by
  refine Rt.enter2 Try.func30 Try.ntmps30 rfl rfl ?_
  (repeat (first | (apply CW.seq) | (apply CW.region)))
  refine WL.boxB rfl rfl rfl fun w1 hb1 hE1 => ?_
  refine WL.boxB rfl rfl rfl fun w2 hb2 hE12 => ?_
  have hne : w.heap.size < w1.heap.size := hb1.lt
  have hb1 := hb1.ext hE12
  have hE2 := hE1.trans hE12
  (repeat (first | (apply WL.pure; rfl; rfl; rfl) | (apply WL.nil) | (apply EX.thenN) | (apply CW.seq) | (apply CW.region) | (apply WL.ldA; rfl; rfl; rfl; assumption; rfl)))
  refine WL.call rfl rfl rfl (dwyerCheck w2 pt) ?_
  rintro v w3 ⟨rfl, hE3⟩
  have hb1 := hb1.ext hE3
  have hb2 := hb2.ext hE3
  have hE3 := hE2.trans hE3
  (repeat (first | (apply WL.pure; rfl; rfl; rfl) | (apply WL.nil) | (apply EX.thenN) | (apply CW.seq) | (apply CW.region)))
  refine CW.cond rfl (fun h => ?_) (fun h => ?_) <;> simp at h
  · (repeat (first | (apply WL.pure; rfl; rfl; rfl) | (apply WL.nil) | (apply EX.thenN) | (apply CW.seq) | (apply CW.region) | (apply CW.ret) | (apply EX.thenR)))
    refine EX.ret2 rfl rfl rfl ⟨?_, hE3⟩
    unfold meansL
    rw [if_pos h]
  · have hP := chkP_ok h
    (repeat (first | (apply EX.thenN) | (apply CW.seq) | (apply CW.region) | (apply WL.ldA; rfl; rfl; rfl; assumption; rfl) | (apply CW.skip)))
    refine WL.call rfl rfl rfl (lassoCheck w3 hs.len63 hl.len63) ?_
    rintro v w4 ⟨rfl, hE4⟩
    have hb1 := hb1.ext hE4
    have hb2 := hb2.ext hE4
    have hE4 := hE3.trans hE4
    (repeat (first | (apply WL.pure; rfl; rfl; rfl) | (apply WL.nil) | (apply EX.thenN) | (apply CW.seq) | (apply CW.region)))
    refine CW.cond rfl (fun h1 => ?_) (fun h1 => ?_) <;> simp at h1
    · (repeat (first | (apply WL.pure; rfl; rfl; rfl) | (apply WL.nil) | (apply EX.thenN) | (apply CW.seq) | (apply CW.region) | (apply CW.ret) | (apply EX.thenR)))
      refine EX.ret2 rfl rfl rfl ⟨?_, hE4⟩
      unfold meansL
      rw [if_neg (by simp [h]), if_pos h1]
    · have hW := chkW_ok h1
      have hm : meansL pt s l = ((spansN pt s l (endW s l)).all (spOk pt s l (endW s l)), 0) := by
        unfold meansL; rw [if_neg (by simp [h]), if_neg (by simp [h1])]
      rw [hm]
      (repeat (first | (apply WL.add; rfl; rfl; rfl; rfl; omega; omega) | (apply WL.mul; rfl; rfl; rfl; rfl; omega; omega) | (apply EX.thenN) | (apply CW.seq) | (apply CW.region) | (apply WL.lenS; rfl; rfl; rfl) | (apply WL.fa; rfl; rfl; rfl) | (apply WL.ld; rfl; rfl; rfl; assumption; rfl) | (apply WL.ldA; rfl; rfl; rfl; assumption; rfl) | (apply CW.skip)))
      refine WL.build rfl rfl rfl rfl ?_
      refine WL.boxB rfl rfl rfl fun w5 hb5 hE5 => ?_
      have hn5 : w4.heap.size < w5.heap.size := hb5.lt
      have hb1 := hb1.ext hE5
      have hb2 := hb2.ext hE5
      have hE5 := hE4.trans hE5
      have hk1 := hb1.lt
      have hk2 := hb2.lt
      have L : LookAt w5 F w4.heap.size pt so sc lo lc s l (endW s l) := ⟨by
          have e1 : ((endW s l : Nat) : Int) = (s.length : Int) + 6 * (l.length : Int) := by unfold endW; omega
          rw [e1]; exact hb5, hs.mono (fun k hk => hE5.block k (hF k hk)) fun _ h => h, hl.mono (fun k hk => hE5.block k (hF k hk)) fun _ h => h, fun k hk => Nat.lt_of_lt_of_le (hF k hk) hE5.size, h1, by unfold endW; omega⟩
      have hkL := L.blk.lt
      have hsm := L.small
      (repeat (first | (apply WL.pure; rfl; rfl; rfl) | (apply WL.nil) | (apply EX.thenN) | (apply CW.seq) | (apply CW.region)))
      refine WL.call rfl rfl rfl (spans_ok L hP.2.2.1 hP.2.2.2) ?_
      rintro v w6 ⟨ho, hE6⟩
      (repeat (first | (apply WL.pure; rfl; rfl; rfl) | (apply WL.nil) | (apply EX.thenN) | (apply CW.block) | (refine WL.lenO rfl rfl rfl (by assumption) ?_)))
      have hsp := spans_le (pt := pt) h1
      have hn63 : (spansN pt s l (endW s l)).length ≤ 9223372036854775807 := by
        obtain ⟨_, _, _, hsl0⟩ := ho.sl
        have := hsl0.len63
        rwa [List.length_map] at this
      refine CW.loop (S := Nat) (fun k => [(2, .pointer (some ⟨w.heap.size, 0, none⟩)), (3, .pointer (some ⟨w1.heap.size, 0, none⟩)), (8, .pointer (some ⟨w4.heap.size, 0, none⟩)), (35, v), (36, .int .i64 (((spansN pt s l (endW s l)).map spCast).length : Int)), (37, .int .i64 (k : Int))])
        (fun k w7 => Ext w5 w7 ∧ Own w7 w5.heap.size 154 Non v ((spansN pt s l (endW s l)).map spCast) ∧ k ≤ (spansN pt s l (endW s l)).length ∧ ((spansN pt s l (endW s l)).take k).all (spOk pt s l (endW s l)) = true) (fun k => (spansN pt s l (endW s l)).length - k) 0 (by repeat (first | exact trivial | refine ⟨rfl, ?_⟩)) ⟨hE6, ho, by omega, by simp⟩ ?_
      rintro k w7 ⟨hE7, ho, hk, hall⟩
      have hE7' := hE5.trans hE7
      (repeat (first | (apply WL.pure; rfl; rfl; rfl) | (apply WL.nil) | (apply EX.thenN) | (apply CW.seq) | (apply CW.region)))
      refine CW.cond rfl (fun h2 => ?_) (fun h2 => ?_) <;> simp at h2
      · (repeat (first | (apply EX.thenN) | (apply CW.seq) | (apply CW.region) | (apply CW.block) | (apply CW.skip)))
        refine WL.elemON rfl rfl rfl rfl rfl ho (by simpa using h2) (fun _ => rfl) (fun u q hu => ?_)
        rw [List.getElem_map] at hu
        have hle := hsp _ (List.getElem_mem h2)
        have htk : (spansN pt s l (endW s l)).take (k + 1) = (spansN pt s l (endW s l)).take k ++ [(spansN pt s l (endW s l))[k]] := List.take_succ_eq_append_getElem h2
        have hmem : (spansN pt s l (endW s l))[k] ∈ spansN pt s l (endW s l) := List.getElem_mem h2
        generalize (spansN pt s l (endW s l))[k] = sp at *
        obtain ⟨fr, to⟩ := sp
        have hu := hu.span
        subst hu
        simp only at hle
        refine WL.alloc rfl rfl (fun w8 hb8 hE8 => ?_)
        have hn8 : w7.heap.size < w8.heap.size := hb8.lt
        refine WL.st rfl rfl rfl hb8 rfl rfl (by intro u hu; simp [cellsL] at hu; rcases hu with rfl | rfl <;> rfl) (fun w9 hb9 hgr => ?_)
        have hE9 : Ext w7 w9 := hE8.grown hgr hE8.size (fun g hg => by cases hg; exact Nat.le_refl _)
        have ho9 := ho.extN hE9
        have hE9' := hE7.trans hE9
        have L9 := L.ext hE9'
        have hbL := L9.blk
        have hbp := hb1.ext hE9'
        have hbw := hb2.ext hE9'
        have hw9 : w7.heap.size < w9.heap.size := hb9.lt
        have hs7 : w5.heap.size ≤ w7.heap.size := hE7.size
        (repeat (first | (apply QL.pure; rfl; rfl; rfl) | (apply WL.nil) | (apply EX.thenN) | (apply CW.seq) | (apply QL.fa; rfl; rfl; rfl) | (apply QL.nck; rfl; rfl; rfl) | (apply QL.ld; rfl; rfl; rfl; assumption; rfl) | (apply CW.draw; exact mixed; kernel_rfl)))
        (refine QL.lookG rfl rfl (fun h => ?_) (fun h => ?_)) <;> simp at h
        · (repeat (first | (apply QL.pure; rfl; rfl; rfl) | (apply QL.fa; rfl; rfl; rfl) | (apply QL.ld; rfl; rfl; rfl; assumption; rfl)))
          refine QL.nil fun w10 hE10 => ?_
          have hE10' := hE9'.trans hE10
          have L10 := L.ext hE10'
          have hb10 := hb9.ext hE10
          have hbL := L10.blk
          have hbw := hbw.ext hE10
          have ho10 := ho9.extN hE10
          have hs10 : w9.heap.size ≤ w10.heap.size := hE10.size
          (repeat (apply EX.thenN))
          refine CW.cond rfl (fun h3 => ?_) (fun h3 => ?_) <;> simp at h3
          · (repeat (first | (apply WL.pure; rfl; rfl; rfl) | (apply CW.seq) | (apply CW.region) | (apply WL.nck; rfl; rfl; rfl) | (apply WL.ldA; rfl; rfl; rfl; assumption; rfl)))
            refine WL.alloc rfl rfl (fun w11 hb11 hE11 => ?_)
            have hn11 : w10.heap.size < w11.heap.size := hb11.lt
            refine WL.st rfl rfl rfl hb11 rfl rfl (by intro u hu; simp [cellsL] at hu; rcases hu with rfl | rfl | rfl | rfl | rfl | rfl | rfl | rfl | rfl | rfl <;> rfl) (fun w12 hb12 hgr12 => ?_)
            have hE12 : Ext w10 w12 := hE11.grown hgr12 hE11.size (fun g hg => by cases hg; exact Nat.le_refl _)
            have hbw12 := hbw.ext hE12
            (repeat (first | (apply WL.add; rfl; rfl; rfl; rfl; omega; omega) | (apply WL.nil) | (apply EX.thenN) | (apply CW.seq) | (apply CW.region) | (apply WL.lenS; rfl; rfl; rfl) | (apply WL.fa; rfl; rfl; rfl) | (apply WL.ld; rfl; rfl; rfl; assumption; rfl)))
            refine WL.st rfl rfl rfl hb12 rfl rfl (by intro u hu; simp [cellsL] at hu; subst hu; rfl) (fun w13 hb13 hgr13 => ?_)
            have hE13 : Ext w10 w13 := hE12.grown hgr13 hE12.size (fun g hg => by cases hg; exact Nat.le_refl _)
            have hb9' := hb10.ext hE13
            have hE13' := hE10'.trans hE13
            have L13 := L.ext hE13'
            have LL : LookAt w13 F w10.heap.size pt so sc lo lc s l (endW s l + l.length) := ⟨by
              rw [Int.natCast_add]; exact hb13, L13.hs, L13.hl, L13.hF, L13.chk, by unfold endW; omega⟩
            (repeat (first | (apply WL.nil) | (apply EX.thenN) | (apply CW.seq) | (apply CW.region) | (apply WL.ldA; rfl; rfl; rfl; assumption; rfl)))
            refine WL.call rfl rfl rfl (answered_ok LL fr to (by have := L.small; omega) (by have := L.small; omega) hP.1 hP.2.1) ?_
            rintro v' w14 ⟨rfl, hE14⟩
            have hE14' := hE13'.trans hE14
            have ho14 := (ho10.extN hE13).extN hE14
            (repeat (first | (apply WL.pure; rfl; rfl; rfl) | (apply WL.nil) | (apply EX.thenN)))
            have hok : spOk pt s l (endW s l) (fr, to) = ansGo s l (endW s l + l.length) pt.2.2.1.toNat pt.2.2.2.1.toNat fr to := by
              unfold spOk; rw [if_pos ⟨by simp only; omega, h3⟩]
            refine CW.cond rfl (fun h4 => ?_) (fun h4 => ?_) <;> simp at h4
            · (repeat (first | (apply WL.pure; rfl; rfl; rfl) | (apply WL.nil) | (apply EX.thenN) | (apply CW.seq) | (apply CW.region) | (apply CW.ret) | (apply EX.thenR) | (apply EX.inR)))
              refine EX.ret2 rfl rfl rfl ⟨?_, hE5.trans hE14'⟩
              rw [show (spansN pt s l (endW s l)).all (spOk pt s l (endW s l)) = false by rw [List.all_eq_false]; exact ⟨_, hmem, by rw [hok, h4]; simp⟩]
            · (repeat (first | (apply WL.add; rfl; rfl; rfl; rfl; omega; omega) | (apply WL.pure; rfl; rfl; rfl) | (apply WL.nil) | (apply EX.thenN) | (apply CW.region) | (apply CW.exit) | (apply EX.thenX) | (apply EX.inX) | (apply CW.skip)))
              refine EX.back (k + 1) (by repeat (first | exact trivial | refine ⟨rfl, ?_⟩)) ⟨hE14', ho14, by omega, ?_⟩ (by omega)
              rw [htk, List.all_append, hall, List.all_cons, hok, h4]; rfl
          · (repeat (first | (apply WL.pure; rfl; rfl; rfl) | (apply EX.thenN) | (apply CW.seq) | (apply CW.region) | (apply WL.ldA; rfl; rfl; rfl; assumption; rfl) | (apply CW.skip)))
            refine WL.call rfl rfl rfl (keeps_ok L10 fr to (by have := L.small; omega) (by have := L.small; omega) hP.1 hP.2.1) ?_
            rintro v' w14 ⟨rfl, hE14⟩
            have hE14' := hE10'.trans hE14
            have ho14 := ho10.extN hE14
            (repeat (first | (apply WL.pure; rfl; rfl; rfl) | (apply WL.nil) | (apply EX.thenN)))
            have hok : spOk pt s l (endW s l) (fr, to) = keepsL pt s l (endW s l) fr to := by
              unfold spOk; rw [if_neg (fun h' => h3 h'.2)]
            refine CW.cond rfl (fun h4 => ?_) (fun h4 => ?_) <;> simp at h4
            · (repeat (first | (apply WL.pure; rfl; rfl; rfl) | (apply WL.nil) | (apply EX.thenN) | (apply CW.seq) | (apply CW.region) | (apply CW.ret) | (apply EX.thenR) | (apply EX.inR)))
              refine EX.ret2 rfl rfl rfl ⟨?_, hE5.trans hE14'⟩
              rw [show (spansN pt s l (endW s l)).all (spOk pt s l (endW s l)) = false by rw [List.all_eq_false]; exact ⟨_, hmem, by rw [hok, h4]; simp⟩]
            · (repeat (first | (apply WL.add; rfl; rfl; rfl; rfl; omega; omega) | (apply WL.pure; rfl; rfl; rfl) | (apply WL.nil) | (apply EX.thenN) | (apply CW.region) | (apply EX.inN) | (apply CW.skip)))
              refine EX.back (k + 1) (by repeat (first | exact trivial | refine ⟨rfl, ?_⟩)) ⟨hE14', ho14, by omega, ?_⟩ (by omega)
              rw [htk, List.all_append, hall, List.all_cons, hok, h4]; rfl
        · (repeat (first | (apply QL.pure; rfl; rfl; rfl) | (apply QL.pass; rfl; rfl)))
          refine QL.nil fun w10 hE10 => ?_
          have hE10' := hE9'.trans hE10
          have L10 := L.ext hE10'
          have hb10 := hb9.ext hE10
          have hbL := L10.blk
          have ho10 := ho9.extN hE10
          (repeat (first | (apply WL.pure; rfl; rfl; rfl) | (apply EX.thenN) | (apply CW.seq) | (apply CW.region) | (apply WL.ldA; rfl; rfl; rfl; assumption; rfl) | (apply CW.condF; rfl) | (apply CW.skip)))
          refine WL.call rfl rfl rfl (keeps_ok L10 fr to (by have := L.small; omega) (by have := L.small; omega) hP.1 hP.2.1) ?_
          rintro v' w14 ⟨rfl, hE14⟩
          have hE14' := hE10'.trans hE14
          have ho14 := ho10.extN hE14
          (repeat (first | (apply WL.pure; rfl; rfl; rfl) | (apply WL.nil) | (apply EX.thenN)))
          have hok : spOk pt s l (endW s l) (fr, to) = keepsL pt s l (endW s l) fr to := by
            unfold spOk; rw [if_neg (fun h' => h (by omega))]
          refine CW.cond rfl (fun h4 => ?_) (fun h4 => ?_) <;> simp at h4
          · (repeat (first | (apply WL.pure; rfl; rfl; rfl) | (apply WL.nil) | (apply EX.thenN) | (apply CW.seq) | (apply CW.region) | (apply CW.ret) | (apply EX.thenR) | (apply EX.inR)))
            refine EX.ret2 rfl rfl rfl ⟨?_, hE5.trans hE14'⟩
            rw [show (spansN pt s l (endW s l)).all (spOk pt s l (endW s l)) = false by rw [List.all_eq_false]; exact ⟨_, hmem, by rw [hok, h4]; simp⟩]
          · (repeat (first | (apply WL.add; rfl; rfl; rfl; rfl; omega; omega) | (apply WL.pure; rfl; rfl; rfl) | (apply WL.nil) | (apply EX.thenN) | (apply CW.region) | (apply EX.inN) | (apply CW.skip)))
            refine EX.back (k + 1) (by repeat (first | exact trivial | refine ⟨rfl, ?_⟩)) ⟨hE14', ho14, by omega, ?_⟩ (by omega)
            rw [htk, List.all_append, hall, List.all_cons, hok, h4]; rfl
      · (repeat (first | (apply WL.pure; rfl; rfl; rfl) | (apply WL.nil) | (apply EX.thenN) | (apply CW.seq) | (apply CW.region) | (apply CW.exit) | (apply EX.thenX) | (apply EX.inX) | (apply CW.ret)))
        refine EX.ret2 rfl rfl rfl ⟨?_, hE7'⟩
        have : k = (spansN pt s l (endW s l)).length := by omega
        subst this
        rw [List.take_length] at hall
        rw [hall]
end Go.Proofs.Ythojdcbpglipeaa
