/-
  The law LassoLaws: the plain part and the walk.
-/
import Derived.Test.YtacpdifbpeajbaaLassoNext
import Derived.Test.YtacpdifbpeajbaaBag
set_option linter.unusedVariables false
set_option linter.unusedSimpArgs false
namespace Go.Proofs.Ytacpdifbpeajbaa
open Go.RowKit

/-- what can be asked is so just where its meaning is -/
theorem truth_sem {s l : List Nat} {t : Ltl} (h : (truthL s l t).2 = true) : (truthL s l t).1 = true ↔ sem (lat s l) t 0 := by
  unfold truthL at h ⊢
  split at h
  · cases h
  · rename_i h1
    rw [if_neg h1]
    have h2 : (holdsE s l t).2 = 0 := by
      apply Classical.byContradiction
      exact fun h => h1 (.inl h)
    unfold holdsE at h2 h1 ⊢
    split at h2
    · rename_i h3; exact absurd h2 h3
    · rename_i h3
      rw [if_neg h3] at h1 ⊢
      split at h2
      · rename_i h4; exact absurd h2 h4
      · rename_i h4
        rw [if_neg h4]
        have hc : (chkF t 1 0).1 = 0 := by simpa using h3
        have hw : chkW s l = 0 := by simpa using h4
        have hW := chkW_ok hw
        exact holds_sem hW.2 t (chkF_wf _ _ _ hc) 0 (by omega)
def sameL (s l : List Nat) (t t' : Ltl) : Bool := !(truthL s l t).2 || (!(truthL s l t').2 || (truthL s l t).1 == (truthL s l t').1)
theorem sameL_of {s l : List Nat} {t t' : Ltl} (h : sem (lat s l) t 0 ↔ sem (lat s l) t' 0) : sameL s l t t' = true := by
  unfold sameL
  cases h1 : (truthL s l t).2
  · simp
  · cases h2 : (truthL s l t').2
    · simp
    · have := truth_sem h1
      have := truth_sem h2
      simp
      rw [Bool.eq_iff_iff]
      simp_all
theorem sem_u {L : Nat → Nat} {f g : Ltl} (i : Nat) : sem L (.mk 8 0 [f, g]) i ↔ Til (sem L f) (sem L g) i := by simp [sem, sems, semK]
theorem sem_r {L : Nat → Nat} {f g : Ltl} (i : Nat) : sem L (.mk 9 0 [f, g]) i ↔ ¬ Til (fun j => ¬ sem L f j) (fun j => ¬ sem L g j) i := by simp [sem, sems, semK]
theorem sem_or {L : Nat → Nat} {f g : Ltl} (i : Nat) : sem L (.mk 6 0 [f, g]) i ↔ sem L f i ∨ sem L g i := by simp [sem, sems, semK]
theorem sem_and {L : Nat → Nat} {f g : Ltl} (i : Nat) : sem L (.mk 5 0 [f, g]) i ↔ sem L f i ∧ sem L g i := by simp [sem, sems, semK]
theorem sem_not {L : Nat → Nat} {f : Ltl} (i : Nat) : sem L (.mk 4 0 [f]) i ↔ ¬ sem L f i := by simp [sem, sems, semK]
theorem sem_X {L : Nat → Nat} {f : Ltl} (i : Nat) : sem L (.mk 7 0 [f]) i ↔ sem L f (i + 1) := by simp [sem, sems, semK]
theorem sem_f {L : Nat → Nat} {f : Ltl} (i : Nat) : sem L (.mk 10 0 [f]) i ↔ Til (fun _ => True) (sem L f) i := by simp [sem, sems, semK]
theorem sem_g {L : Nat → Nat} {f : Ltl} (i : Nat) : sem L (.mk 11 0 [f]) i ↔ ¬ Til (fun _ => True) (fun j => ¬ sem L f j) i := by simp [sem, sems, semK]
theorem sem_true {L : Nat → Nat} (i : Nat) : sem L (.mk 1 0 []) i ↔ True := by simp [sem, sems, semK]
theorem til_congr {A B A' B' : Nat → Prop} (ha : ∀ j, A j ↔ A' j) (hb : ∀ j, B j ↔ B' j) (i : Nat) : Til A B i ↔ Til A' B' i := by
  have e1 : A = A' := funext fun j => propext (ha j)
  have e2 : B = B' := funext fun j => propext (hb j)
  rw [e1, e2]
section
variable (s l : List Nat) (f g : Ltl)
theorem law1 : sameL s l (.mk 8 0 [f, g]) (.mk 6 0 [g, .mk 5 0 [f, .mk 7 0 [.mk 8 0 [f, g]]]]) = true := by
  apply sameL_of
  rw [sem_or, sem_and, sem_X, sem_u, sem_u]
  exact Til.step
theorem law2 : sameL s l (.mk 9 0 [f, g]) (.mk 5 0 [g, .mk 6 0 [f, .mk 7 0 [.mk 9 0 [f, g]]]]) = true := by
  apply sameL_of
  rw [sem_and, sem_or, sem_X, sem_r, sem_r, Til.step]
  by_cases h1 : sem (lat s l) f 0 <;> by_cases h2 : sem (lat s l) g 0 <;> simp [h1, h2]
theorem law3 : sameL s l (.mk 4 0 [.mk 8 0 [f, g]]) (.mk 9 0 [.mk 4 0 [f], .mk 4 0 [g]]) = true := by
  apply sameL_of
  rw [sem_not, sem_u, sem_r]
  exact not_congr (til_congr (fun j => by rw [sem_not]; simp) (fun j => by rw [sem_not]; simp) 0)
theorem law4 : sameL s l (.mk 10 0 [g]) (.mk 8 0 [.mk 1 0 [], g]) = true := by
  apply sameL_of
  rw [sem_f, sem_u]
  exact til_congr (fun j => (sem_true j).symm) (fun _ => Iff.rfl) 0
theorem law5 : sameL s l (.mk 4 0 [.mk 10 0 [g]]) (.mk 11 0 [.mk 4 0 [g]]) = true := by
  apply sameL_of
  rw [sem_not, sem_f, sem_g]
  exact not_congr (til_congr (fun _ => Iff.rfl) (fun j => by rw [sem_not]; simp) 0)
theorem law6 : sameL s l (.mk 7 0 [.mk 5 0 [f, g]]) (.mk 5 0 [.mk 7 0 [f], .mk 7 0 [g]]) = true := by
  apply sameL_of
  rw [sem_X, sem_and, sem_and, sem_X, sem_X]
theorem law7 : sameL s l (.mk 11 0 [.mk 11 0 [f]]) (.mk 11 0 [f]) = true := by
  apply sameL_of
  rw [sem_g, sem_g]
  apply not_congr
  constructor
  · rintro ⟨j, h1, h2, _⟩
    rw [sem_g] at h2
    simp only [Classical.not_not] at h2
    obtain ⟨k, h3, h4, _⟩ := h2
    exact ⟨k, by omega, h4, fun _ _ _ => trivial⟩
  · rintro ⟨j, h1, h2, h3⟩
    refine ⟨j, h1, ?_, fun _ _ _ => trivial⟩
    show ¬ sem (lat s l) (.mk 11 0 [f]) j
    rw [sem_g]
    exact fun h => h ⟨j, Nat.le_refl _, h2, fun _ _ _ => trivial⟩
end

/-- LassoLaws' own function 'same', with the word's variable -/
theorem same_ok (w : World) {v v' : Value} {t t' : Ltl} {b : Nat} {so lo : Option Addr} {sc lc : Nat} {s l : List Nat} (h : RL w v t) (h' : RL w v' t') (hb : Blk w b 47 [.slice so s.length sc, .slice lo l.length lc]) (hs : Sl w (Old w) so sc s) (hl : Sl w (Old w) lo lc l) :
    Rt Try.prog 22 [v, v', .pointer (some ⟨b, 0, none⟩)].toArray w fun r w' => r = .bool (sameL s l t t') ∧ Ext w w' := by
  obtain ⟨ao, cap, rfl, hk⟩ := Rd.ltl h
  obtain ⟨ao', cap', rfl, hk'⟩ := Rd.ltl h'
  refine Rt.enter3 Try.func22 Try.ntmps22 rfl rfl ?_
  (repeat (first | (apply WL.add; rfl; rfl; rfl; rfl; omega; omega) | (apply QL.add; rfl; rfl; rfl; rfl; omega; omega) | (apply WL.sub'; rfl; rfl; rfl; rfl; omega; omega) | (apply QL.sub'; rfl; rfl; rfl; rfl; omega; omega) | (apply WL.mul; rfl; rfl; rfl; rfl; omega; omega) | (apply QL.mul; rfl; rfl; rfl; rfl; omega; omega) | (apply WL.pure; rfl; rfl; rfl) | (apply QL.pure; rfl; rfl; rfl) | (apply WL.nil) | (apply EX.thenN) | (apply CW.seq) | (apply CW.region) | (apply WL.pass; rfl; rfl) | (apply QL.pass; rfl; rfl) | (apply WL.eqB; rfl; rfl; rfl; rfl) | (apply QL.eqB; rfl; rfl; rfl; rfl) | (apply WL.neB; rfl; rfl; rfl; rfl) | (apply QL.neB; rfl; rfl; rfl; rfl) | (apply WL.lenS; rfl; rfl; rfl) | (apply QL.lenS; rfl; rfl; rfl) | (apply WL.makeFunc; rfl; rfl; rfl; rfl) | (apply QL.makeFunc; rfl; rfl; rfl; rfl) | (apply WL.fa; rfl; rfl; rfl) | (apply QL.fa; rfl; rfl; rfl) | (apply WL.nck; rfl; rfl; rfl) | (apply QL.nck; rfl; rfl; rfl) | (apply WL.ld; rfl; rfl; rfl; assumption; rfl) | (apply QL.ld; rfl; rfl; rfl; assumption; rfl) | (apply WL.ldA; rfl; rfl; rfl; assumption; rfl) | (apply QL.ldA; rfl; rfl; rfl; assumption; rfl) | (apply CW.block) | (apply EX.inN) | (apply CW.condT; rfl) | (apply CW.condF; rfl) | (apply CW.exit) | (apply EX.thenX) | (apply EX.inX) | (apply EX.inXne; rfl) | (apply CW.ret) | (apply EX.thenR) | (apply EX.inR) | (apply CW.skip) | (refine WL.lenO rfl rfl rfl (by assumption) ?_) | (apply WL.isNil; rfl; rfl; rfl) | (apply CW.draw; exact mixed; kernel_rfl)))
  refine WL.boxB rfl rfl rfl fun w0 hb0 hE0 => ?_
  refine WL.boxB rfl rfl rfl fun w1 hb1 hE1 => ?_
  have hb0 := hb0.ext hE1
  have hE1 := hE0.trans hE1
  have hbw := hb.ext hE1
  (repeat (first | (apply WL.add; rfl; rfl; rfl; rfl; omega; omega) | (apply QL.add; rfl; rfl; rfl; rfl; omega; omega) | (apply WL.sub'; rfl; rfl; rfl; rfl; omega; omega) | (apply QL.sub'; rfl; rfl; rfl; rfl; omega; omega) | (apply WL.mul; rfl; rfl; rfl; rfl; omega; omega) | (apply QL.mul; rfl; rfl; rfl; rfl; omega; omega) | (apply WL.pure; rfl; rfl; rfl) | (apply QL.pure; rfl; rfl; rfl) | (apply WL.nil) | (apply EX.thenN) | (apply CW.seq) | (apply CW.region) | (apply WL.pass; rfl; rfl) | (apply QL.pass; rfl; rfl) | (apply WL.eqB; rfl; rfl; rfl; rfl) | (apply QL.eqB; rfl; rfl; rfl; rfl) | (apply WL.neB; rfl; rfl; rfl; rfl) | (apply QL.neB; rfl; rfl; rfl; rfl) | (apply WL.lenS; rfl; rfl; rfl) | (apply QL.lenS; rfl; rfl; rfl) | (apply WL.makeFunc; rfl; rfl; rfl; rfl) | (apply QL.makeFunc; rfl; rfl; rfl; rfl) | (apply WL.fa; rfl; rfl; rfl) | (apply QL.fa; rfl; rfl; rfl) | (apply WL.nck; rfl; rfl; rfl) | (apply QL.nck; rfl; rfl; rfl) | (apply WL.ld; rfl; rfl; rfl; assumption; rfl) | (apply QL.ld; rfl; rfl; rfl; assumption; rfl) | (apply WL.ldA; rfl; rfl; rfl; assumption; rfl) | (apply QL.ldA; rfl; rfl; rfl; assumption; rfl) | (apply CW.block) | (apply EX.inN) | (apply CW.condT; rfl) | (apply CW.condF; rfl) | (apply CW.exit) | (apply EX.thenX) | (apply EX.inX) | (apply EX.inXne; rfl) | (apply CW.ret) | (apply EX.thenR) | (apply EX.inR) | (apply CW.skip) | (refine WL.lenO rfl rfl rfl (by assumption) ?_) | (apply WL.isNil; rfl; rfl; rfl) | (apply CW.draw; exact mixed; kernel_rfl)))
  refine WL.call rfl rfl rfl (truth_ok w1 (hk.up hE1) (hs.up hE1) (hl.up hE1) (fun _ h => h)) ?_
  rintro r w2 ⟨rfl, hE2⟩
  have hE2' := hE1.trans hE2
  have hb1 := hb1.ext hE2
  have hbw := hbw.ext hE2
  (repeat (first | (apply WL.add; rfl; rfl; rfl; rfl; omega; omega) | (apply QL.add; rfl; rfl; rfl; rfl; omega; omega) | (apply WL.sub'; rfl; rfl; rfl; rfl; omega; omega) | (apply QL.sub'; rfl; rfl; rfl; rfl; omega; omega) | (apply WL.mul; rfl; rfl; rfl; rfl; omega; omega) | (apply QL.mul; rfl; rfl; rfl; rfl; omega; omega) | (apply WL.pure; rfl; rfl; rfl) | (apply QL.pure; rfl; rfl; rfl) | (apply WL.nil) | (apply EX.thenN) | (apply CW.seq) | (apply CW.region) | (apply WL.pass; rfl; rfl) | (apply QL.pass; rfl; rfl) | (apply WL.eqB; rfl; rfl; rfl; rfl) | (apply QL.eqB; rfl; rfl; rfl; rfl) | (apply WL.neB; rfl; rfl; rfl; rfl) | (apply QL.neB; rfl; rfl; rfl; rfl) | (apply WL.lenS; rfl; rfl; rfl) | (apply QL.lenS; rfl; rfl; rfl) | (apply WL.makeFunc; rfl; rfl; rfl; rfl) | (apply QL.makeFunc; rfl; rfl; rfl; rfl) | (apply WL.fa; rfl; rfl; rfl) | (apply QL.fa; rfl; rfl; rfl) | (apply WL.nck; rfl; rfl; rfl) | (apply QL.nck; rfl; rfl; rfl) | (apply WL.ld; rfl; rfl; rfl; assumption; rfl) | (apply QL.ld; rfl; rfl; rfl; assumption; rfl) | (apply WL.ldA; rfl; rfl; rfl; assumption; rfl) | (apply QL.ldA; rfl; rfl; rfl; assumption; rfl) | (apply CW.block) | (apply EX.inN) | (apply CW.condT; rfl) | (apply CW.condF; rfl) | (apply CW.exit) | (apply EX.thenX) | (apply EX.inX) | (apply EX.inXne; rfl) | (apply CW.ret) | (apply EX.thenR) | (apply EX.inR) | (apply CW.skip) | (refine WL.lenO rfl rfl rfl (by assumption) ?_) | (apply WL.isNil; rfl; rfl; rfl) | (apply CW.draw; exact mixed; kernel_rfl)))
  refine WL.call rfl rfl rfl (truth_ok w2 (hk'.up hE2') (hs.up hE2') (hl.up hE2') (fun _ h => h)) ?_
  rintro r w3 ⟨rfl, hE3⟩
  have hE := hE2'.trans hE3
  unfold sameL
  cases h1 : (truthL s l t).2 <;> cases h2 : (truthL s l t').2
  all_goals
    (repeat (first | (apply WL.add; rfl; rfl; rfl; rfl; omega; omega) | (apply QL.add; rfl; rfl; rfl; rfl; omega; omega) | (apply WL.sub'; rfl; rfl; rfl; rfl; omega; omega) | (apply QL.sub'; rfl; rfl; rfl; rfl; omega; omega) | (apply WL.mul; rfl; rfl; rfl; rfl; omega; omega) | (apply QL.mul; rfl; rfl; rfl; rfl; omega; omega) | (apply WL.pure; rfl; rfl; rfl) | (apply QL.pure; rfl; rfl; rfl) | (apply WL.nil) | (apply EX.thenN) | (apply CW.seq) | (apply CW.region) | (apply WL.pass; rfl; rfl) | (apply QL.pass; rfl; rfl) | (apply WL.eqB; rfl; rfl; rfl; rfl) | (apply QL.eqB; rfl; rfl; rfl; rfl) | (apply WL.neB; rfl; rfl; rfl; rfl) | (apply QL.neB; rfl; rfl; rfl; rfl) | (apply WL.lenS; rfl; rfl; rfl) | (apply QL.lenS; rfl; rfl; rfl) | (apply WL.makeFunc; rfl; rfl; rfl; rfl) | (apply QL.makeFunc; rfl; rfl; rfl; rfl) | (apply WL.fa; rfl; rfl; rfl) | (apply QL.fa; rfl; rfl; rfl) | (apply WL.nck; rfl; rfl; rfl) | (apply QL.nck; rfl; rfl; rfl) | (apply WL.ld; rfl; rfl; rfl; assumption; rfl) | (apply QL.ld; rfl; rfl; rfl; assumption; rfl) | (apply WL.ldA; rfl; rfl; rfl; assumption; rfl) | (apply QL.ldA; rfl; rfl; rfl; assumption; rfl) | (apply CW.block) | (apply EX.inN) | (apply CW.condT; rfl) | (apply CW.condF; rfl) | (apply CW.exit) | (apply EX.thenX) | (apply EX.inX) | (apply EX.inXne; rfl) | (apply CW.ret) | (apply EX.thenR) | (apply EX.inR) | (apply CW.skip) | (refine WL.lenO rfl rfl rfl (by assumption) ?_) | (apply WL.isNil; rfl; rfl; rfl) | (apply CW.draw; exact mixed; kernel_rfl)))
    refine EX.ret1 rfl rfl ⟨?_, hE⟩
    simp
theorem same_true (w : World) {v v' : Value} {t t' : Ltl} {b : Nat} {so lo : Option Addr} {sc lc : Nat} {s l : List Nat} (h : RL w v t) (h' : RL w v' t') (hb : Blk w b 47 [.slice so s.length sc, .slice lo l.length lc]) (hs : Sl w (Old w) so sc s) (hl : Sl w (Old w) lo lc l) (hlaw : sameL s l t t' = true) :
    Rt Try.prog 22 [v, v', .pointer (some ⟨b, 0, none⟩)].toArray w fun r w' => r = .bool true ∧ Ext w w' :=
  (same_ok w h h' hb hs hl).mono fun r w' ⟨h1, h2⟩ => ⟨by rw [h1, hlaw], h2⟩
theorem lnot_ok (w : World) {v : Value} {t : Ltl} (h : RL w v t) : Rt Try.prog 25 [v].toArray w fun r w' => RL w' r (.mk 4 0 [t]) ∧ Ext w w' := by
  obtain ⟨ao, cap, rfl, hk⟩ := Rd.ltl h
  refine Rt.enter1 Try.func25 Try.ntmps25 rfl rfl ?_
  (repeat (first | (apply WL.add; rfl; rfl; rfl; rfl; omega; omega) | (apply QL.add; rfl; rfl; rfl; rfl; omega; omega) | (apply WL.sub'; rfl; rfl; rfl; rfl; omega; omega) | (apply QL.sub'; rfl; rfl; rfl; rfl; omega; omega) | (apply WL.mul; rfl; rfl; rfl; rfl; omega; omega) | (apply QL.mul; rfl; rfl; rfl; rfl; omega; omega) | (apply WL.pure; rfl; rfl; rfl) | (apply QL.pure; rfl; rfl; rfl) | (apply WL.nil) | (apply EX.thenN) | (apply CW.seq) | (apply CW.region) | (apply WL.pass; rfl; rfl) | (apply QL.pass; rfl; rfl) | (apply WL.eqB; rfl; rfl; rfl; rfl) | (apply QL.eqB; rfl; rfl; rfl; rfl) | (apply WL.neB; rfl; rfl; rfl; rfl) | (apply QL.neB; rfl; rfl; rfl; rfl) | (apply WL.lenS; rfl; rfl; rfl) | (apply QL.lenS; rfl; rfl; rfl) | (apply WL.makeFunc; rfl; rfl; rfl; rfl) | (apply QL.makeFunc; rfl; rfl; rfl; rfl) | (apply WL.fa; rfl; rfl; rfl) | (apply QL.fa; rfl; rfl; rfl) | (apply WL.nck; rfl; rfl; rfl) | (apply QL.nck; rfl; rfl; rfl) | (apply WL.ld; rfl; rfl; rfl; assumption; rfl) | (apply QL.ld; rfl; rfl; rfl; assumption; rfl) | (apply WL.ldA; rfl; rfl; rfl; assumption; rfl) | (apply QL.ldA; rfl; rfl; rfl; assumption; rfl) | (apply CW.block) | (apply EX.inN) | (apply CW.condT; rfl) | (apply CW.condF; rfl) | (apply CW.exit) | (apply EX.thenX) | (apply EX.inX) | (apply EX.inXne; rfl) | (apply CW.ret) | (apply EX.thenR) | (apply EX.inR) | (apply CW.skip) | (refine WL.lenO rfl rfl rfl (by assumption) ?_) | (apply WL.isNil; rfl; rfl; rfl) | (apply CW.draw; exact mixed; kernel_rfl)))
  refine WL.boxB rfl rfl rfl fun w0 hb0 hE0 => ?_
  refine WL.alloc rfl rfl (fun w1 hr hE1 => ?_)
  have hb0 := hb0.ext hE1
  have hE1 := hE0.trans hE1
  (repeat (first | (apply WL.add; rfl; rfl; rfl; rfl; omega; omega) | (apply QL.add; rfl; rfl; rfl; rfl; omega; omega) | (apply WL.sub'; rfl; rfl; rfl; rfl; omega; omega) | (apply QL.sub'; rfl; rfl; rfl; rfl; omega; omega) | (apply WL.mul; rfl; rfl; rfl; rfl; omega; omega) | (apply QL.mul; rfl; rfl; rfl; rfl; omega; omega) | (apply WL.pure; rfl; rfl; rfl) | (apply QL.pure; rfl; rfl; rfl) | (apply WL.nil) | (apply EX.thenN) | (apply CW.seq) | (apply CW.region) | (apply WL.pass; rfl; rfl) | (apply QL.pass; rfl; rfl) | (apply WL.eqB; rfl; rfl; rfl; rfl) | (apply QL.eqB; rfl; rfl; rfl; rfl) | (apply WL.neB; rfl; rfl; rfl; rfl) | (apply QL.neB; rfl; rfl; rfl; rfl) | (apply WL.lenS; rfl; rfl; rfl) | (apply QL.lenS; rfl; rfl; rfl) | (apply WL.makeFunc; rfl; rfl; rfl; rfl) | (apply QL.makeFunc; rfl; rfl; rfl; rfl) | (apply WL.fa; rfl; rfl; rfl) | (apply QL.fa; rfl; rfl; rfl) | (apply WL.nck; rfl; rfl; rfl) | (apply QL.nck; rfl; rfl; rfl) | (apply WL.ld; rfl; rfl; rfl; assumption; rfl) | (apply QL.ld; rfl; rfl; rfl; assumption; rfl) | (apply WL.ldA; rfl; rfl; rfl; assumption; rfl) | (apply QL.ldA; rfl; rfl; rfl; assumption; rfl) | (apply CW.block) | (apply EX.inN) | (apply CW.condT; rfl) | (apply CW.condF; rfl) | (apply CW.exit) | (apply EX.thenX) | (apply EX.inX) | (apply EX.inXne; rfl) | (apply CW.ret) | (apply EX.thenR) | (apply EX.inR) | (apply CW.skip) | (refine WL.lenO rfl rfl rfl (by assumption) ?_) | (apply WL.isNil; rfl; rfl; rfl) | (apply CW.draw; exact mixed; kernel_rfl)))
  refine WL.call rfl rfl rfl (mk_oneF w1 (F := Old w) (fun b hb => Nat.lt_of_lt_of_le hb hE1.size) 4 (Rd.at h hE1)) ?_
  rintro r w2 ⟨hr2, hE2⟩
  have hr' := hr.ext hE2
  obtain ⟨bo, bc, rfl, hk2⟩ := Rd.ltl hr2
  have hE12 := hE1.trans hE2
  (repeat (first | (apply WL.add; rfl; rfl; rfl; rfl; omega; omega) | (apply QL.add; rfl; rfl; rfl; rfl; omega; omega) | (apply WL.sub'; rfl; rfl; rfl; rfl; omega; omega) | (apply QL.sub'; rfl; rfl; rfl; rfl; omega; omega) | (apply WL.mul; rfl; rfl; rfl; rfl; omega; omega) | (apply QL.mul; rfl; rfl; rfl; rfl; omega; omega) | (apply WL.pure; rfl; rfl; rfl) | (apply QL.pure; rfl; rfl; rfl) | (apply WL.pass; rfl; rfl) | (apply QL.pass; rfl; rfl) | (apply WL.eqB; rfl; rfl; rfl; rfl) | (apply QL.eqB; rfl; rfl; rfl; rfl) | (apply WL.neB; rfl; rfl; rfl; rfl) | (apply QL.neB; rfl; rfl; rfl; rfl) | (apply WL.lenS; rfl; rfl; rfl) | (apply QL.lenS; rfl; rfl; rfl) | (apply WL.makeFunc; rfl; rfl; rfl; rfl) | (apply QL.makeFunc; rfl; rfl; rfl; rfl) | (apply WL.fa; rfl; rfl; rfl) | (apply QL.fa; rfl; rfl; rfl) | (apply WL.nck; rfl; rfl; rfl) | (apply QL.nck; rfl; rfl; rfl) | (apply WL.ld; rfl; rfl; rfl; assumption; rfl) | (apply QL.ld; rfl; rfl; rfl; assumption; rfl) | (apply WL.ldA; rfl; rfl; rfl; assumption; rfl) | (apply QL.ldA; rfl; rfl; rfl; assumption; rfl) | (refine WL.lenO rfl rfl rfl (by assumption) ?_) | (apply WL.isNil; rfl; rfl; rfl)))
  refine WL.st rfl rfl rfl hr' rfl rfl (ones_of rfl) (fun w3 hr3 hgr => ?_)
  have hs0 : w.heap.size ≤ w0.heap.size := hE0.size
  have hE : Ext w w3 := hE12.grown hgr hE12.size (fun g hg => by cases hg; exact hs0)
  have hlt := hr.lt
  (repeat (first | (apply WL.add; rfl; rfl; rfl; rfl; omega; omega) | (apply QL.add; rfl; rfl; rfl; rfl; omega; omega) | (apply WL.sub'; rfl; rfl; rfl; rfl; omega; omega) | (apply QL.sub'; rfl; rfl; rfl; rfl; omega; omega) | (apply WL.mul; rfl; rfl; rfl; rfl; omega; omega) | (apply QL.mul; rfl; rfl; rfl; rfl; omega; omega) | (apply WL.pure; rfl; rfl; rfl) | (apply QL.pure; rfl; rfl; rfl) | (apply WL.nil) | (apply EX.thenN) | (apply CW.seq) | (apply CW.region) | (apply WL.pass; rfl; rfl) | (apply QL.pass; rfl; rfl) | (apply WL.eqB; rfl; rfl; rfl; rfl) | (apply QL.eqB; rfl; rfl; rfl; rfl) | (apply WL.neB; rfl; rfl; rfl; rfl) | (apply QL.neB; rfl; rfl; rfl; rfl) | (apply WL.lenS; rfl; rfl; rfl) | (apply QL.lenS; rfl; rfl; rfl) | (apply WL.makeFunc; rfl; rfl; rfl; rfl) | (apply QL.makeFunc; rfl; rfl; rfl; rfl) | (apply WL.fa; rfl; rfl; rfl) | (apply QL.fa; rfl; rfl; rfl) | (apply WL.nck; rfl; rfl; rfl) | (apply QL.nck; rfl; rfl; rfl) | (apply WL.ld; rfl; rfl; rfl; assumption; rfl) | (apply QL.ld; rfl; rfl; rfl; assumption; rfl) | (apply WL.ldA; rfl; rfl; rfl; assumption; rfl) | (apply QL.ldA; rfl; rfl; rfl; assumption; rfl) | (apply CW.block) | (apply EX.inN) | (apply CW.condT; rfl) | (apply CW.condF; rfl) | (apply CW.exit) | (apply EX.thenX) | (apply EX.inX) | (apply EX.inXne; rfl) | (apply CW.ret) | (apply EX.thenR) | (apply EX.inR) | (apply CW.skip) | (refine WL.lenO rfl rfl rfl (by assumption) ?_) | (apply WL.isNil; rfl; rfl; rfl) | (apply CW.draw; exact mixed; kernel_rfl)))
  refine EX.retC rfl rfl hr3 rfl ⟨?_, hE⟩
  exact Rd.mkLtl (hk2.mono (fun g hg => hgr.block g (hg.elim (fun h => Nat.lt_of_lt_of_le h hE12.size) (·.2)) (by
    rcases hg with hg | hg
    · have : g < w.heap.size := hg
      intro e; cases e; omega
    · intro e; cases e; omega)) (fun g hg => hg.elim (fun h => Nat.lt_of_lt_of_le h hE.size) (fun h => Nat.lt_of_lt_of_le h.2 hgr.size)))
theorem lassoLaws_ok (w : World) {f g : Ltl} {v0 v1 : Value} {so lo : Option Addr} {sc lc : Nat} {s l : List Nat} (hf : RL w v0 f) (hg : RL w v1 g) (hs : Sl w (Old w) so sc s) (hl : Sl w (Old w) lo lc l) :
    Rt Try.prog 5 [v0, v1, wordV so sc lo lc s l].toArray w fun v w' => v = .bool true ∧ Ext w w' := by
  obtain ⟨ao, cap, rfl, hk⟩ := Rd.ltl hf
  obtain ⟨ao', cap', rfl, hk'⟩ := Rd.ltl hg
  refine Rt.enter3 Try.func5 Try.ntmps5 rfl rfl ?_
  (repeat (first | (apply WL.add; rfl; rfl; rfl; rfl; omega; omega) | (apply QL.add; rfl; rfl; rfl; rfl; omega; omega) | (apply WL.sub'; rfl; rfl; rfl; rfl; omega; omega) | (apply QL.sub'; rfl; rfl; rfl; rfl; omega; omega) | (apply WL.mul; rfl; rfl; rfl; rfl; omega; omega) | (apply QL.mul; rfl; rfl; rfl; rfl; omega; omega) | (apply WL.pure; rfl; rfl; rfl) | (apply QL.pure; rfl; rfl; rfl) | (apply WL.nil) | (apply EX.thenN) | (apply CW.seq) | (apply CW.region) | (apply WL.pass; rfl; rfl) | (apply QL.pass; rfl; rfl) | (apply WL.eqB; rfl; rfl; rfl; rfl) | (apply QL.eqB; rfl; rfl; rfl; rfl) | (apply WL.neB; rfl; rfl; rfl; rfl) | (apply QL.neB; rfl; rfl; rfl; rfl) | (apply WL.lenS; rfl; rfl; rfl) | (apply QL.lenS; rfl; rfl; rfl) | (apply WL.makeFunc; rfl; rfl; rfl; rfl) | (apply QL.makeFunc; rfl; rfl; rfl; rfl) | (apply WL.fa; rfl; rfl; rfl) | (apply QL.fa; rfl; rfl; rfl) | (apply WL.nck; rfl; rfl; rfl) | (apply QL.nck; rfl; rfl; rfl) | (apply WL.ld; rfl; rfl; rfl; assumption; rfl) | (apply QL.ld; rfl; rfl; rfl; assumption; rfl) | (apply WL.ldA; rfl; rfl; rfl; assumption; rfl) | (apply QL.ldA; rfl; rfl; rfl; assumption; rfl) | (apply CW.block) | (apply EX.inN) | (apply CW.condT; rfl) | (apply CW.condF; rfl) | (apply CW.exit) | (apply EX.thenX) | (apply EX.inX) | (apply EX.inXne; rfl) | (apply CW.ret) | (apply EX.thenR) | (apply EX.inR) | (apply CW.skip) | (refine WL.lenO rfl rfl rfl (by assumption) ?_) | (apply WL.isNil; rfl; rfl; rfl) | (apply CW.draw; exact mixed; kernel_rfl)))
  refine WL.boxB rfl rfl rfl fun w1 hb0 hE1 => ?_
  refine WL.boxB rfl rfl rfl fun w2 hb1 hE2 => ?_
  refine WL.boxB rfl rfl rfl fun w3 hb2 hE3 => ?_
  have hb0 := hb0.ext (hE2.trans hE3)
  have hb1 := hb1.ext hE3
  have hE3 := (hE1.trans hE2).trans hE3
  (repeat (first | (apply WL.add; rfl; rfl; rfl; rfl; omega; omega) | (apply QL.add; rfl; rfl; rfl; rfl; omega; omega) | (apply WL.sub'; rfl; rfl; rfl; rfl; omega; omega) | (apply QL.sub'; rfl; rfl; rfl; rfl; omega; omega) | (apply WL.mul; rfl; rfl; rfl; rfl; omega; omega) | (apply QL.mul; rfl; rfl; rfl; rfl; omega; omega) | (apply WL.pure; rfl; rfl; rfl) | (apply QL.pure; rfl; rfl; rfl) | (apply WL.nil) | (apply EX.thenN) | (apply CW.seq) | (apply CW.region) | (apply WL.pass; rfl; rfl) | (apply QL.pass; rfl; rfl) | (apply WL.eqB; rfl; rfl; rfl; rfl) | (apply QL.eqB; rfl; rfl; rfl; rfl) | (apply WL.neB; rfl; rfl; rfl; rfl) | (apply QL.neB; rfl; rfl; rfl; rfl) | (apply WL.lenS; rfl; rfl; rfl) | (apply QL.lenS; rfl; rfl; rfl) | (apply WL.makeFunc; rfl; rfl; rfl; rfl) | (apply QL.makeFunc; rfl; rfl; rfl; rfl) | (apply WL.fa; rfl; rfl; rfl) | (apply QL.fa; rfl; rfl; rfl) | (apply WL.nck; rfl; rfl; rfl) | (apply QL.nck; rfl; rfl; rfl) | (apply WL.ld; rfl; rfl; rfl; assumption; rfl) | (apply QL.ld; rfl; rfl; rfl; assumption; rfl) | (apply WL.ldA; rfl; rfl; rfl; assumption; rfl) | (apply QL.ldA; rfl; rfl; rfl; assumption; rfl) | (apply CW.block) | (apply EX.inN) | (apply CW.condT; rfl) | (apply CW.condF; rfl) | (apply CW.exit) | (apply EX.thenX) | (apply EX.inX) | (apply EX.inXne; rfl) | (apply CW.ret) | (apply EX.thenR) | (apply EX.inR) | (apply CW.skip) | (refine WL.lenO rfl rfl rfl (by assumption) ?_) | (apply WL.isNil; rfl; rfl; rfl) | (apply CW.draw; exact mixed; kernel_rfl)))
  refine WL.call rfl rfl rfl (now_ok w3) ?_
  rintro v w4 ⟨rfl, hE4⟩
  have hb0 := hb0.ext hE4
  have hb1 := hb1.ext hE4
  have hb2 := hb2.ext hE4
  have hE4 := hE3.trans hE4
  (repeat (first | (apply WL.add; rfl; rfl; rfl; rfl; omega; omega) | (apply QL.add; rfl; rfl; rfl; rfl; omega; omega) | (apply WL.sub'; rfl; rfl; rfl; rfl; omega; omega) | (apply QL.sub'; rfl; rfl; rfl; rfl; omega; omega) | (apply WL.mul; rfl; rfl; rfl; rfl; omega; omega) | (apply QL.mul; rfl; rfl; rfl; rfl; omega; omega) | (apply WL.pure; rfl; rfl; rfl) | (apply QL.pure; rfl; rfl; rfl) | (apply WL.pass; rfl; rfl) | (apply QL.pass; rfl; rfl) | (apply WL.eqB; rfl; rfl; rfl; rfl) | (apply QL.eqB; rfl; rfl; rfl; rfl) | (apply WL.neB; rfl; rfl; rfl; rfl) | (apply QL.neB; rfl; rfl; rfl; rfl) | (apply WL.lenS; rfl; rfl; rfl) | (apply QL.lenS; rfl; rfl; rfl) | (apply WL.makeFunc; rfl; rfl; rfl; rfl) | (apply QL.makeFunc; rfl; rfl; rfl; rfl) | (apply WL.fa; rfl; rfl; rfl) | (apply QL.fa; rfl; rfl; rfl) | (apply WL.nck; rfl; rfl; rfl) | (apply QL.nck; rfl; rfl; rfl) | (apply WL.ld; rfl; rfl; rfl; assumption; rfl) | (apply QL.ld; rfl; rfl; rfl; assumption; rfl) | (apply WL.ldA; rfl; rfl; rfl; assumption; rfl) | (apply QL.ldA; rfl; rfl; rfl; assumption; rfl) | (refine WL.lenO rfl rfl rfl (by assumption) ?_) | (apply WL.isNil; rfl; rfl; rfl)))
  apply WL.nil
  apply EX.thenN
  refine CW.condF rfl ?_
  apply CW.skip
  apply EX.thenN
  (repeat (first | (apply WL.add; rfl; rfl; rfl; rfl; omega; omega) | (apply QL.add; rfl; rfl; rfl; rfl; omega; omega) | (apply WL.sub'; rfl; rfl; rfl; rfl; omega; omega) | (apply QL.sub'; rfl; rfl; rfl; rfl; omega; omega) | (apply WL.mul; rfl; rfl; rfl; rfl; omega; omega) | (apply QL.mul; rfl; rfl; rfl; rfl; omega; omega) | (apply WL.pure; rfl; rfl; rfl) | (apply QL.pure; rfl; rfl; rfl) | (apply WL.nil) | (apply EX.thenN) | (apply CW.seq) | (apply CW.region) | (apply WL.pass; rfl; rfl) | (apply QL.pass; rfl; rfl) | (apply WL.eqB; rfl; rfl; rfl; rfl) | (apply QL.eqB; rfl; rfl; rfl; rfl) | (apply WL.neB; rfl; rfl; rfl; rfl) | (apply QL.neB; rfl; rfl; rfl; rfl) | (apply WL.lenS; rfl; rfl; rfl) | (apply QL.lenS; rfl; rfl; rfl) | (apply WL.makeFunc; rfl; rfl; rfl; rfl) | (apply QL.makeFunc; rfl; rfl; rfl; rfl) | (apply WL.fa; rfl; rfl; rfl) | (apply QL.fa; rfl; rfl; rfl) | (apply WL.nck; rfl; rfl; rfl) | (apply QL.nck; rfl; rfl; rfl) | (apply WL.ld; rfl; rfl; rfl; assumption; rfl) | (apply QL.ld; rfl; rfl; rfl; assumption; rfl) | (apply WL.ldA; rfl; rfl; rfl; assumption; rfl) | (apply QL.ldA; rfl; rfl; rfl; assumption; rfl) | (apply CW.block) | (apply EX.inN) | (apply CW.condT; rfl) | (apply CW.condF; rfl) | (apply CW.exit) | (apply EX.thenX) | (apply EX.inX) | (apply EX.inXne; rfl) | (apply CW.ret) | (apply EX.thenR) | (apply EX.inR) | (apply CW.skip) | (refine WL.lenO rfl rfl rfl (by assumption) ?_) | (apply WL.isNil; rfl; rfl; rfl)))
  have hSE : ∀ w1, (fun x => Ext w4 x) w1 → Ext w4 w1 := fun _ h => h
  refine CW.drawB (fun x => Ext w4 x) [(0, true), (1, true), (3, true), (4, true)] [2, 5, 6, 7] [(8, false), (9, false)] mixed (by kernel_rfl) (Ext.drew w4) ?_
  (repeat (first | (apply HL.add; rfl; rfl; rfl; rfl; rfl; omega; omega) | (apply HL.sub'; rfl; rfl; rfl; rfl; rfl; omega; omega) | (apply HL.pure; rfl; rfl; rfl; rfl) | (apply HL.pass; rfl; rfl; rfl) | (refine HL.fa rfl rfl rfl rfl ?_) | (apply HL.nck; rfl; rfl; rfl; rfl) | (refine HL.ld (by assumption) rfl rfl rfl rfl (by assumption) rfl ?_) | (refine HL.ldA (by assumption) rfl rfl rfl rfl (by assumption) rfl ?_) | (refine HL.lenS rfl rfl rfl rfl ?_) | (refine HL.eqB rfl rfl rfl rfl rfl ?_) | (refine HL.neB rfl rfl rfl rfl rfl ?_) | (refine HL.build rfl rfl rfl rfl rfl ?_) | (apply HL.makeFunc; rfl; rfl; rfl; rfl; rfl) | (apply HL.nil)))
  have hr1 : RL (drew w4) (ltlV f.k f.n ao f.kids.length cap) f := RL.ext hf (hE4.trans (Ext.drew w4))
  have hr2 : RL (drew w4) (ltlV g.k g.n ao' g.kids.length cap') g := RL.ext hg (hE4.trans (Ext.drew w4))
  have hs4 : w.heap.size ≤ w4.heap.size := hE4.size
  have hfF : ∀ w', Ext w4 w' → Rd w' (Old w) (ltlV f.k f.n ao f.kids.length cap) f := fun w' h => Rd.at hf (hE4.trans h)
  have hgF : ∀ w', Ext w4 w' → Rd w' (Old w) (ltlV g.k g.n ao' g.kids.length cap') g := fun w' h => Rd.at hg (hE4.trans h)
  have hlt : ∀ w', Ext w4 w' → ∀ b, Old w b → b < w'.heap.size := fun w' h b hb => Nat.lt_of_lt_of_le hb (hE4.trans h).size
  refine EX.bag [⟨2, 17, fun v N w' => Ext w4 w' ∧ Rd w' (fun b => Old w b ∨ N b) v (.mk 8 0 [f, g] : Ltl) ∧ ∀ b, N b → b < w'.heap.size⟩, ⟨5, 20, fun v N w' => Ext w4 w' ∧ Rd w' (fun b => Old w b ∨ N b) v (.mk 9 0 [f, g] : Ltl) ∧ ∀ b, N b → b < w'.heap.size⟩,
    ⟨6, 8, fun v N w => ∃ b, v = .pointer (some ⟨b, 0, none⟩) ∧ N b ∧ w4.heap.size ≤ b ∧ Blk w b 44 [.int .i64 0, .int .i64 0, .slice none 0 0]⟩, ⟨7, 9, fun v N w => ∃ b, v = .pointer (some ⟨b, 0, none⟩) ∧ N b ∧ w4.heap.size ≤ b ∧ Blk w b 44 [.int .i64 0, .int .i64 0, .slice none 0 0]⟩] rfl rfl rfl (Ext.drew w4) ?_ ?_
  · intro e he
    simp only [List.mem_cons, List.not_mem_nil, or_false] at he
    have hst : ∀ (t : Ltl) v (N : Nat → Prop) w1 w2, (Ext w4 w1 ∧ Rd w1 (fun b => Old w b ∨ N b) v t ∧ ∀ b, N b → b < w1.heap.size) → Ext w1 w2 → (Ext w4 w2 ∧ Rd w2 (fun b => Old w b ∨ N b) v t ∧ ∀ b, N b → b < w2.heap.size) := by
      intro t v N w1 w2 ⟨h4, h5, h6⟩ hE
      exact ⟨h4.trans hE, h5.mono (fun b hb => hE.block b (hb.elim (hlt w1 h4 b) (h6 b))) (fun _ h => h), fun b hb => Nat.lt_of_lt_of_le (h6 b hb) hE.size⟩
    rcases he with rfl | rfl | rfl | rfl
    · refine ⟨⟨_, rfl, rfl, rfl, fun w' hS => ?_⟩, rfl, rfl, hst _⟩
      · refine WL.call rfl rfl rfl (mk_twoF w' (hlt w' hS) 8 (hfF w' hS) (hgF w' hS)) ?_
        rintro v w2 ⟨h1, h2⟩
        exact WL.nil (EX.bagE (fun b => w'.heap.size ≤ b ∧ b < w2.heap.size) rfl (Ext.trans hS h2) h2 ⟨Ext.trans hS h2, h1, fun b hb => hb.2⟩ (fun _ h => h))
    · refine ⟨⟨_, rfl, rfl, rfl, fun w' hS => ?_⟩, rfl, rfl, hst _⟩
      · refine WL.call rfl rfl rfl (mk_twoF w' (hlt w' hS) 9 (hfF w' hS) (hgF w' hS)) ?_
        rintro v w2 ⟨h1, h2⟩
        exact WL.nil (EX.bagE (fun b => w'.heap.size ≤ b ∧ b < w2.heap.size) rfl (Ext.trans hS h2) h2 ⟨Ext.trans hS h2, h1, fun b hb => hb.2⟩ (fun _ h => h))
    · refine ⟨⟨_, rfl, rfl, rfl, fun w' hS => ?_⟩, rfl, rfl, fun v N w w' ⟨b, h1, h2, h3, h4⟩ hE => ⟨b, h1, h2, h3, h4.ext hE⟩⟩
      refine WL.alloc rfl rfl (fun w2 hb hE => ?_)
      exact WL.nil (EX.bagE (fun b => b = w'.heap.size) rfl (Ext.trans hS hE) hE ⟨_, rfl, rfl, hS.size, hb⟩ (fun b hb' => by have := hb.lt; omega))
    · refine ⟨⟨_, rfl, rfl, rfl, fun w' hS => ?_⟩, rfl, rfl, fun v N w w' ⟨b, h1, h2, h3, h4⟩ hE => ⟨b, h1, h2, h3, h4.ext hE⟩⟩
      refine WL.alloc rfl rfl (fun w2 hb hE => ?_)
      exact WL.nil (EX.bagE (fun b => b = w'.heap.size) rfl (Ext.trans hS hE) hE ⟨_, rfl, rfl, hS.size, hb⟩ (fun b hb' => by have := hb.lt; omega))
  intro w5 hS5 hE5 v17 N17 h17 _ v20 N20 h20 _ v8 N8 h8 d8 v9 N9 h9 d9
  obtain ⟨b8, rfl, m8, hge8, h8⟩ := h8
  obtain ⟨b9, rfl, m9, hge9, h9⟩ := h9
  have hne : b8 ≠ b9 := fun e => d9 N8 (by simp) b8 m8 (by rw [e]; exact m9)
  dsimp only
  have hS5 : Ext w4 w5 := hS5
  obtain ⟨u8, c8, rfl, k8⟩ := Rd.ltl h17.2.1
  obtain ⟨u9, c9, rfl, k9⟩ := Rd.ltl h20.2.1
  have hl8 := h8.lt
  have hl9 := h9.lt
  show HL _ _ _ _ _ _ _ _
  refine HL.mut rfl (WL.st rfl rfl rfl h8 rfl rfl (ones_of rfl) (fun w6 h8 hgr6 => ?_))
  have hS6 : Ext w4 w6 := hS5.grown hgr6 hS5.size (fun g hg => by cases hg; exact hge8)
  have h9 := h9.kept hgr6 (by simp; omega)
  refine WL.nil (EX.mut hS6 ?_)
  refine HL.mut rfl (WL.st rfl rfl rfl h9 rfl rfl (ones_of rfl) (fun w7 h9 hgr7 => ?_))
  have hS7 : Ext w4 w7 := hS6.grown hgr7 hS6.size (fun g hg => by cases hg; exact hge9)
  have h8 := h8.kept hgr7 (by simp; omega)
  refine WL.nil (EX.mut hS7 ?_)
  apply HL.nil
  have hkb : ∀ N : Nat → Prop, (∀ b, N b → b < w5.heap.size) → (∀ b, N b → b ≠ b8) → (∀ b, N b → b ≠ b9) → ∀ b, (Old w b ∨ N b) → w7.heap[b]? = w5.heap[b]? := by
    intro N h1 h2 h3 b hb
    have hlt : b < w5.heap.size := hb.elim (fun h => Nat.lt_of_lt_of_le h (Nat.le_trans hs4 hS5.size)) (h1 b)
    have n8 : b ≠ b8 := hb.elim (fun h => by have : b < w.heap.size := h; omega) (h2 b)
    have n9 : b ≠ b9 := hb.elim (fun h => by have : b < w.heap.size := h; omega) (h3 b)
    exact (hgr7.block b (Nat.lt_of_lt_of_le hlt hgr6.size) (by simp; omega)).trans (hgr6.block b hlt (by simp; omega))
  have hkc : ∀ N : Nat → Prop, (∀ b, N b → b < w5.heap.size) → ∀ b, (Old w b ∨ N b) → Old w7 b := by
    intro N h1 b hb
    have hlt : b < w5.heap.size := hb.elim (fun h => Nat.lt_of_lt_of_le h (Nat.le_trans hs4 hS5.size)) (h1 b)
    exact Nat.lt_of_lt_of_le hlt (Nat.le_trans hgr6.size hgr7.size)
  have hu7 : RL w7 (ltlV 8 0 u8 2 c8) (.mk 8 0 [f, g]) := Rd.mkLtl (kids := [f, g]) (k8.mono (hkb _ h17.2.2 (fun b hb e => d8 N17 (by simp) b hb (e ▸ m8)) (fun b hb e => d9 N17 (by simp) b hb (e ▸ m9))) (hkc _ h17.2.2))
  have hr7 : RL w7 (ltlV 9 0 u9 2 c9) (.mk 9 0 [f, g]) := Rd.mkLtl (kids := [f, g]) (k9.mono (hkb _ h20.2.2 (fun b hb e => d8 N20 (by simp) b hb (e ▸ m8)) (fun b hb e => d9 N20 (by simp) b hb (e ▸ m9))) (hkc _ h20.2.2))
  have hf7 : RL w7 (ltlV f.k f.n ao f.kids.length cap) f := RL.ext hf (hE4.trans hS7)
  have hg7 : RL w7 (ltlV g.k g.n ao' g.kids.length cap') g := RL.ext hg (hE4.trans hS7)
  have hb07 := hb0.ext hS7
  have hb17 := hb1.ext hS7
  have hb27 := hb2.ext hS7
  have hws7 := hs.up (hE4.trans hS7)
  have hwl7 := hl.up (hE4.trans hS7)
  have hE7 := hE4.trans hS7
  (repeat (first | (apply WL.add; rfl; rfl; rfl; rfl; omega; omega) | (apply QL.add; rfl; rfl; rfl; rfl; omega; omega) | (apply WL.sub'; rfl; rfl; rfl; rfl; omega; omega) | (apply QL.sub'; rfl; rfl; rfl; rfl; omega; omega) | (apply WL.mul; rfl; rfl; rfl; rfl; omega; omega) | (apply QL.mul; rfl; rfl; rfl; rfl; omega; omega) | (apply WL.pure; rfl; rfl; rfl) | (apply QL.pure; rfl; rfl; rfl) | (apply WL.nil) | (apply EX.thenN) | (apply CW.seq) | (apply CW.region) | (apply WL.pass; rfl; rfl) | (apply QL.pass; rfl; rfl) | (apply WL.eqB; rfl; rfl; rfl; rfl) | (apply QL.eqB; rfl; rfl; rfl; rfl) | (apply WL.neB; rfl; rfl; rfl; rfl) | (apply QL.neB; rfl; rfl; rfl; rfl) | (apply WL.lenS; rfl; rfl; rfl) | (apply QL.lenS; rfl; rfl; rfl) | (apply WL.makeFunc; rfl; rfl; rfl; rfl) | (apply QL.makeFunc; rfl; rfl; rfl; rfl) | (apply WL.fa; rfl; rfl; rfl) | (apply QL.fa; rfl; rfl; rfl) | (apply WL.nck; rfl; rfl; rfl) | (apply QL.nck; rfl; rfl; rfl) | (apply WL.ld; rfl; rfl; rfl; assumption; rfl) | (apply QL.ld; rfl; rfl; rfl; assumption; rfl) | (apply WL.ldA; rfl; rfl; rfl; assumption; rfl) | (apply QL.ldA; rfl; rfl; rfl; assumption; rfl) | (apply CW.block) | (apply EX.inN) | (apply CW.condT; rfl) | (apply CW.condF; rfl) | (apply CW.exit) | (apply EX.thenX) | (apply EX.inX) | (apply EX.inXne; rfl) | (apply CW.ret) | (apply EX.thenR) | (apply EX.inR) | (apply CW.skip) | (refine WL.lenO rfl rfl rfl (by assumption) ?_) | (apply WL.isNil; rfl; rfl; rfl)))
  refine WL.build rfl rfl rfl rfl ?_
  refine WL.alloc rfl rfl (fun wa hby hEa => ?_)
  refine WL.st rfl rfl rfl hby rfl rfl (ones_of rfl) (fun w8 hby hgr8 => ?_)
  have hX : Ext w7 w8 := hEa.grown hgr8 hEa.size (fun g hg => by cases hg; exact Nat.le_refl _)
  have hE := hE7.trans hX
  have hf := RL.ext hf7 hX
  have hg := RL.ext hg7 hX
  have hu := RL.ext hu7 hX
  have hr := RL.ext hr7 hX
  have hy : RL w8 (ltlV 1 0 none 0 0) (.mk 1 0 []) := Rd.mkLtl (kids := []) (Sl.none _ _)
  have hbf := hb07.ext hX
  have hbg := hb17.ext hX
  have hbw := hb27.ext hX
  have hbu := h8.ext hX
  have hbr := h9.ext hX
  have hws := hws7.up hX
  have hwl := hwl7.up hX
  clear hX hE7 hwl7 hws7 hb27 hb17 hb07 hg7 hf7 hr7 hu7 h8 h9 hS7 hS6 hS5 hs hl
  apply WL.nil
  apply EX.thenN
  apply CW.seq
  -- the seven laws
  have hSE : ∀ w1, (fun x => Ext w8 x) w1 → Ext w8 w1 := fun _ h => h
  refine CW.drawH (fun x => Ext w8 x) [(0, true), (1, true), (2, true), (3, true), (4, true), (5, false), (6, false), (7, false), (8, false), (9, true), (10, true), (11, true), (12, true), (13, true), (14, true), (15, false), (16, false), (17, false), (18, false), (19, true), (20, true), (21, true), (22, true), (23, true), (25, true), (26, true), (28, true), (29, true), (24, false), (27, false), (30, false), (31, false), (32, false), (33, true), (34, true), (35, true), (36, true), (38, true), (39, true), (37, false), (40, false), (41, false), (42, true), (43, true), (44, true), (45, true), (46, true), (49, true), (50, true), (47, false), (48, false), (51, false), (52, false), (53, false), (54, true), (55, true), (56, true), (57, true), (58, true), (61, true), (63, true), (59, false), (60, false), (62, false), (64, false), (65, false), (66, false), (67, true), (68, true), (69, true), (70, true), (73, true), (71, false), (72, false), (74, false), (75, false), (76, true), (77, true)] mixed (by kernel_rfl) (Ext.drew w8) ?_
  have hT : Ext w8 (drew w8) := Ext.drew w8
  (repeat (first | (apply HL.add; rfl; rfl; rfl; rfl; rfl; omega; omega) | (apply HL.sub'; rfl; rfl; rfl; rfl; rfl; omega; omega) | (apply HL.pure; rfl; rfl; rfl; rfl) | (apply HL.pass; rfl; rfl; rfl) | (refine HL.fa rfl rfl rfl rfl ?_) | (apply HL.nck; rfl; rfl; rfl; rfl) | (refine HL.ld (by assumption) rfl rfl rfl rfl (by assumption) rfl ?_) | (refine HL.ldA (by assumption) rfl rfl rfl rfl (by assumption) rfl ?_) | (refine HL.lenS rfl rfl rfl rfl ?_) | (refine HL.eqB rfl rfl rfl rfl rfl ?_) | (refine HL.neB rfl rfl rfl rfl rfl ?_) | (refine HL.build rfl rfl rfl rfl rfl ?_) | (apply HL.makeFunc; rfl; rfl; rfl; rfl; rfl) | (apply HL.nil)))
  refine HL.mut rfl (WL.call rfl rfl rfl (mk_one (drew w8) 7 (RL.ext hu hT)) ?_)
  rintro va x1 ⟨ha, hX⟩
  replace hT := hT.trans hX
  refine WL.nil (EX.mut hT ?_)
  (repeat (first | (apply HL.add; rfl; rfl; rfl; rfl; rfl; omega; omega) | (apply HL.sub'; rfl; rfl; rfl; rfl; rfl; omega; omega) | (apply HL.pure; rfl; rfl; rfl; rfl) | (apply HL.pass; rfl; rfl; rfl) | (refine HL.fa rfl rfl rfl rfl ?_) | (apply HL.nck; rfl; rfl; rfl; rfl) | (refine HL.ld (by assumption) rfl rfl rfl rfl (by assumption) rfl ?_) | (refine HL.ldA (by assumption) rfl rfl rfl rfl (by assumption) rfl ?_) | (refine HL.lenS rfl rfl rfl rfl ?_) | (refine HL.eqB rfl rfl rfl rfl rfl ?_) | (refine HL.neB rfl rfl rfl rfl rfl ?_) | (refine HL.build rfl rfl rfl rfl rfl ?_) | (apply HL.makeFunc; rfl; rfl; rfl; rfl; rfl) | (apply HL.nil)))
  refine HL.mut rfl (WL.call rfl rfl rfl (mk_two x1 5 (RL.ext hf hT) ha) ?_)
  rintro vb x2 ⟨hb, hX⟩
  replace hT := hT.trans hX
  refine WL.nil (EX.mut hT ?_)
  replace ha := RL.ext ha hX
  (repeat (first | (apply HL.add; rfl; rfl; rfl; rfl; rfl; omega; omega) | (apply HL.sub'; rfl; rfl; rfl; rfl; rfl; omega; omega) | (apply HL.pure; rfl; rfl; rfl; rfl) | (apply HL.pass; rfl; rfl; rfl) | (refine HL.fa rfl rfl rfl rfl ?_) | (apply HL.nck; rfl; rfl; rfl; rfl) | (refine HL.ld (by assumption) rfl rfl rfl rfl (by assumption) rfl ?_) | (refine HL.ldA (by assumption) rfl rfl rfl rfl (by assumption) rfl ?_) | (refine HL.lenS rfl rfl rfl rfl ?_) | (refine HL.eqB rfl rfl rfl rfl rfl ?_) | (refine HL.neB rfl rfl rfl rfl rfl ?_) | (refine HL.build rfl rfl rfl rfl rfl ?_) | (apply HL.makeFunc; rfl; rfl; rfl; rfl; rfl) | (apply HL.nil)))
  refine HL.mut rfl (WL.call rfl rfl rfl (mk_two x2 6 (RL.ext hg hT) hb) ?_)
  rintro vc x3 ⟨hc, hX⟩
  replace hT := hT.trans hX
  refine WL.nil (EX.mut hT ?_)
  replace ha := RL.ext ha hX
  replace hb := RL.ext hb hX
  (repeat (first | (apply HL.add; rfl; rfl; rfl; rfl; rfl; omega; omega) | (apply HL.sub'; rfl; rfl; rfl; rfl; rfl; omega; omega) | (apply HL.pure; rfl; rfl; rfl; rfl) | (apply HL.pass; rfl; rfl; rfl) | (refine HL.fa rfl rfl rfl rfl ?_) | (apply HL.nck; rfl; rfl; rfl; rfl) | (refine HL.ld (by assumption) rfl rfl rfl rfl (by assumption) rfl ?_) | (refine HL.ldA (by assumption) rfl rfl rfl rfl (by assumption) rfl ?_) | (refine HL.lenS rfl rfl rfl rfl ?_) | (refine HL.eqB rfl rfl rfl rfl rfl ?_) | (refine HL.neB rfl rfl rfl rfl rfl ?_) | (refine HL.build rfl rfl rfl rfl rfl ?_) | (apply HL.makeFunc; rfl; rfl; rfl; rfl; rfl) | (apply HL.nil)))
  refine HL.mut rfl (WL.callV (fv := []) rfl rfl rfl rfl (same_true x3 (RL.ext hu hT) hc (hbw.ext hT) (hws.up hT) (hwl.up hT) (law1 s l f g)) ?_)
  rintro _ x4 ⟨rfl, hX⟩
  replace hT := hT.trans hX
  refine WL.nil (EX.mut hT ?_)
  clear hc hb ha
  (repeat (first | (apply HL.add; rfl; rfl; rfl; rfl; rfl; omega; omega) | (apply HL.sub'; rfl; rfl; rfl; rfl; rfl; omega; omega) | (apply HL.pure; rfl; rfl; rfl; rfl) | (apply HL.pass; rfl; rfl; rfl) | (refine HL.fa rfl rfl rfl rfl ?_) | (apply HL.nck; rfl; rfl; rfl; rfl) | (refine HL.ld (by assumption) rfl rfl rfl rfl (by assumption) rfl ?_) | (refine HL.ldA (by assumption) rfl rfl rfl rfl (by assumption) rfl ?_) | (refine HL.lenS rfl rfl rfl rfl ?_) | (refine HL.eqB rfl rfl rfl rfl rfl ?_) | (refine HL.neB rfl rfl rfl rfl rfl ?_) | (refine HL.build rfl rfl rfl rfl rfl ?_) | (apply HL.makeFunc; rfl; rfl; rfl; rfl; rfl) | (apply HL.nil)))
  refine HL.mut rfl (WL.call rfl rfl rfl (mk_one x4 7 (RL.ext hr hT)) ?_)
  rintro va x5 ⟨ha, hX⟩
  replace hT := hT.trans hX
  refine WL.nil (EX.mut hT ?_)
  (repeat (first | (apply HL.add; rfl; rfl; rfl; rfl; rfl; omega; omega) | (apply HL.sub'; rfl; rfl; rfl; rfl; rfl; omega; omega) | (apply HL.pure; rfl; rfl; rfl; rfl) | (apply HL.pass; rfl; rfl; rfl) | (refine HL.fa rfl rfl rfl rfl ?_) | (apply HL.nck; rfl; rfl; rfl; rfl) | (refine HL.ld (by assumption) rfl rfl rfl rfl (by assumption) rfl ?_) | (refine HL.ldA (by assumption) rfl rfl rfl rfl (by assumption) rfl ?_) | (refine HL.lenS rfl rfl rfl rfl ?_) | (refine HL.eqB rfl rfl rfl rfl rfl ?_) | (refine HL.neB rfl rfl rfl rfl rfl ?_) | (refine HL.build rfl rfl rfl rfl rfl ?_) | (apply HL.makeFunc; rfl; rfl; rfl; rfl; rfl) | (apply HL.nil)))
  refine HL.mut rfl (WL.call rfl rfl rfl (mk_two x5 6 (RL.ext hf hT) ha) ?_)
  rintro vb x6 ⟨hb, hX⟩
  replace hT := hT.trans hX
  refine WL.nil (EX.mut hT ?_)
  replace ha := RL.ext ha hX
  (repeat (first | (apply HL.add; rfl; rfl; rfl; rfl; rfl; omega; omega) | (apply HL.sub'; rfl; rfl; rfl; rfl; rfl; omega; omega) | (apply HL.pure; rfl; rfl; rfl; rfl) | (apply HL.pass; rfl; rfl; rfl) | (refine HL.fa rfl rfl rfl rfl ?_) | (apply HL.nck; rfl; rfl; rfl; rfl) | (refine HL.ld (by assumption) rfl rfl rfl rfl (by assumption) rfl ?_) | (refine HL.ldA (by assumption) rfl rfl rfl rfl (by assumption) rfl ?_) | (refine HL.lenS rfl rfl rfl rfl ?_) | (refine HL.eqB rfl rfl rfl rfl rfl ?_) | (refine HL.neB rfl rfl rfl rfl rfl ?_) | (refine HL.build rfl rfl rfl rfl rfl ?_) | (apply HL.makeFunc; rfl; rfl; rfl; rfl; rfl) | (apply HL.nil)))
  refine HL.mut rfl (WL.call rfl rfl rfl (mk_two x6 5 (RL.ext hg hT) hb) ?_)
  rintro vc x7 ⟨hc, hX⟩
  replace hT := hT.trans hX
  refine WL.nil (EX.mut hT ?_)
  replace ha := RL.ext ha hX
  replace hb := RL.ext hb hX
  (repeat (first | (apply HL.add; rfl; rfl; rfl; rfl; rfl; omega; omega) | (apply HL.sub'; rfl; rfl; rfl; rfl; rfl; omega; omega) | (apply HL.pure; rfl; rfl; rfl; rfl) | (apply HL.pass; rfl; rfl; rfl) | (refine HL.fa rfl rfl rfl rfl ?_) | (apply HL.nck; rfl; rfl; rfl; rfl) | (refine HL.ld (by assumption) rfl rfl rfl rfl (by assumption) rfl ?_) | (refine HL.ldA (by assumption) rfl rfl rfl rfl (by assumption) rfl ?_) | (refine HL.lenS rfl rfl rfl rfl ?_) | (refine HL.eqB rfl rfl rfl rfl rfl ?_) | (refine HL.neB rfl rfl rfl rfl rfl ?_) | (refine HL.build rfl rfl rfl rfl rfl ?_) | (apply HL.makeFunc; rfl; rfl; rfl; rfl; rfl) | (apply HL.nil)))
  refine HL.mut rfl (WL.callV (fv := []) rfl rfl rfl rfl (same_true x7 (RL.ext hr hT) hc (hbw.ext hT) (hws.up hT) (hwl.up hT) (law2 s l f g)) ?_)
  rintro _ x8 ⟨rfl, hX⟩
  replace hT := hT.trans hX
  refine WL.nil (EX.mut hT ?_)
  clear hc hb ha
  (repeat (first | (apply HL.add; rfl; rfl; rfl; rfl; rfl; omega; omega) | (apply HL.sub'; rfl; rfl; rfl; rfl; rfl; omega; omega) | (apply HL.pure; rfl; rfl; rfl; rfl) | (apply HL.pass; rfl; rfl; rfl) | (refine HL.fa rfl rfl rfl rfl ?_) | (apply HL.nck; rfl; rfl; rfl; rfl) | (refine HL.ld (by assumption) rfl rfl rfl rfl (by assumption) rfl ?_) | (refine HL.ldA (by assumption) rfl rfl rfl rfl (by assumption) rfl ?_) | (refine HL.lenS rfl rfl rfl rfl ?_) | (refine HL.eqB rfl rfl rfl rfl rfl ?_) | (refine HL.neB rfl rfl rfl rfl rfl ?_) | (refine HL.build rfl rfl rfl rfl rfl ?_) | (apply HL.makeFunc; rfl; rfl; rfl; rfl; rfl) | (apply HL.nil)))
  refine HL.mut rfl (WL.callV (fv := []) (cv := []) rfl rfl rfl rfl (lnot_ok x8 (RL.ext hu hT)) ?_)
  rintro va x9 ⟨ha, hX⟩
  replace hT := hT.trans hX
  refine WL.nil (EX.mut hT ?_)
  (repeat (first | (apply HL.add; rfl; rfl; rfl; rfl; rfl; omega; omega) | (apply HL.sub'; rfl; rfl; rfl; rfl; rfl; omega; omega) | (apply HL.pure; rfl; rfl; rfl; rfl) | (apply HL.pass; rfl; rfl; rfl) | (refine HL.fa rfl rfl rfl rfl ?_) | (apply HL.nck; rfl; rfl; rfl; rfl) | (refine HL.ld (by assumption) rfl rfl rfl rfl (by assumption) rfl ?_) | (refine HL.ldA (by assumption) rfl rfl rfl rfl (by assumption) rfl ?_) | (refine HL.lenS rfl rfl rfl rfl ?_) | (refine HL.eqB rfl rfl rfl rfl rfl ?_) | (refine HL.neB rfl rfl rfl rfl rfl ?_) | (refine HL.build rfl rfl rfl rfl rfl ?_) | (apply HL.makeFunc; rfl; rfl; rfl; rfl; rfl) | (apply HL.nil)))
  refine HL.mut rfl (WL.callV (fv := []) (cv := []) rfl rfl rfl rfl (lnot_ok x9 (RL.ext hf hT)) ?_)
  rintro vb x10 ⟨hb, hX⟩
  replace hT := hT.trans hX
  refine WL.nil (EX.mut hT ?_)
  replace ha := RL.ext ha hX
  (repeat (first | (apply HL.add; rfl; rfl; rfl; rfl; rfl; omega; omega) | (apply HL.sub'; rfl; rfl; rfl; rfl; rfl; omega; omega) | (apply HL.pure; rfl; rfl; rfl; rfl) | (apply HL.pass; rfl; rfl; rfl) | (refine HL.fa rfl rfl rfl rfl ?_) | (apply HL.nck; rfl; rfl; rfl; rfl) | (refine HL.ld (by assumption) rfl rfl rfl rfl (by assumption) rfl ?_) | (refine HL.ldA (by assumption) rfl rfl rfl rfl (by assumption) rfl ?_) | (refine HL.lenS rfl rfl rfl rfl ?_) | (refine HL.eqB rfl rfl rfl rfl rfl ?_) | (refine HL.neB rfl rfl rfl rfl rfl ?_) | (refine HL.build rfl rfl rfl rfl rfl ?_) | (apply HL.makeFunc; rfl; rfl; rfl; rfl; rfl) | (apply HL.nil)))
  refine HL.mut rfl (WL.callV (fv := []) (cv := []) rfl rfl rfl rfl (lnot_ok x10 (RL.ext hg hT)) ?_)
  rintro vc x11 ⟨hc, hX⟩
  replace hT := hT.trans hX
  refine WL.nil (EX.mut hT ?_)
  replace ha := RL.ext ha hX
  replace hb := RL.ext hb hX
  (repeat (first | (apply HL.add; rfl; rfl; rfl; rfl; rfl; omega; omega) | (apply HL.sub'; rfl; rfl; rfl; rfl; rfl; omega; omega) | (apply HL.pure; rfl; rfl; rfl; rfl) | (apply HL.pass; rfl; rfl; rfl) | (refine HL.fa rfl rfl rfl rfl ?_) | (apply HL.nck; rfl; rfl; rfl; rfl) | (refine HL.ld (by assumption) rfl rfl rfl rfl (by assumption) rfl ?_) | (refine HL.ldA (by assumption) rfl rfl rfl rfl (by assumption) rfl ?_) | (refine HL.lenS rfl rfl rfl rfl ?_) | (refine HL.eqB rfl rfl rfl rfl rfl ?_) | (refine HL.neB rfl rfl rfl rfl rfl ?_) | (refine HL.build rfl rfl rfl rfl rfl ?_) | (apply HL.makeFunc; rfl; rfl; rfl; rfl; rfl) | (apply HL.nil)))
  refine HL.mut rfl (WL.call rfl rfl rfl (mk_two x11 9 hb hc) ?_)
  rintro vd x12 ⟨hd, hX⟩
  replace hT := hT.trans hX
  refine WL.nil (EX.mut hT ?_)
  replace ha := RL.ext ha hX
  replace hb := RL.ext hb hX
  replace hc := RL.ext hc hX
  (repeat (first | (apply HL.add; rfl; rfl; rfl; rfl; rfl; omega; omega) | (apply HL.sub'; rfl; rfl; rfl; rfl; rfl; omega; omega) | (apply HL.pure; rfl; rfl; rfl; rfl) | (apply HL.pass; rfl; rfl; rfl) | (refine HL.fa rfl rfl rfl rfl ?_) | (apply HL.nck; rfl; rfl; rfl; rfl) | (refine HL.ld (by assumption) rfl rfl rfl rfl (by assumption) rfl ?_) | (refine HL.ldA (by assumption) rfl rfl rfl rfl (by assumption) rfl ?_) | (refine HL.lenS rfl rfl rfl rfl ?_) | (refine HL.eqB rfl rfl rfl rfl rfl ?_) | (refine HL.neB rfl rfl rfl rfl rfl ?_) | (refine HL.build rfl rfl rfl rfl rfl ?_) | (apply HL.makeFunc; rfl; rfl; rfl; rfl; rfl) | (apply HL.nil)))
  refine HL.mut rfl (WL.callV (fv := []) rfl rfl rfl rfl (same_true x12 ha hd (hbw.ext hT) (hws.up hT) (hwl.up hT) (law3 s l f g)) ?_)
  rintro _ x13 ⟨rfl, hX⟩
  replace hT := hT.trans hX
  refine WL.nil (EX.mut hT ?_)
  clear hd hc hb ha
  (repeat (first | (apply HL.add; rfl; rfl; rfl; rfl; rfl; omega; omega) | (apply HL.sub'; rfl; rfl; rfl; rfl; rfl; omega; omega) | (apply HL.pure; rfl; rfl; rfl; rfl) | (apply HL.pass; rfl; rfl; rfl) | (refine HL.fa rfl rfl rfl rfl ?_) | (apply HL.nck; rfl; rfl; rfl; rfl) | (refine HL.ld (by assumption) rfl rfl rfl rfl (by assumption) rfl ?_) | (refine HL.ldA (by assumption) rfl rfl rfl rfl (by assumption) rfl ?_) | (refine HL.lenS rfl rfl rfl rfl ?_) | (refine HL.eqB rfl rfl rfl rfl rfl ?_) | (refine HL.neB rfl rfl rfl rfl rfl ?_) | (refine HL.build rfl rfl rfl rfl rfl ?_) | (apply HL.makeFunc; rfl; rfl; rfl; rfl; rfl) | (apply HL.nil)))
  refine HL.mut rfl (WL.call rfl rfl rfl (mk_one x13 10 (RL.ext hg hT)) ?_)
  rintro va x14 ⟨ha, hX⟩
  replace hT := hT.trans hX
  refine WL.nil (EX.mut hT ?_)
  (repeat (first | (apply HL.add; rfl; rfl; rfl; rfl; rfl; omega; omega) | (apply HL.sub'; rfl; rfl; rfl; rfl; rfl; omega; omega) | (apply HL.pure; rfl; rfl; rfl; rfl) | (apply HL.pass; rfl; rfl; rfl) | (refine HL.fa rfl rfl rfl rfl ?_) | (apply HL.nck; rfl; rfl; rfl; rfl) | (refine HL.ld (by assumption) rfl rfl rfl rfl (by assumption) rfl ?_) | (refine HL.ldA (by assumption) rfl rfl rfl rfl (by assumption) rfl ?_) | (refine HL.lenS rfl rfl rfl rfl ?_) | (refine HL.eqB rfl rfl rfl rfl rfl ?_) | (refine HL.neB rfl rfl rfl rfl rfl ?_) | (refine HL.build rfl rfl rfl rfl rfl ?_) | (apply HL.makeFunc; rfl; rfl; rfl; rfl; rfl) | (apply HL.nil)))
  refine HL.mut rfl (WL.call rfl rfl rfl (mk_two x14 8 (RL.ext hy hT) (RL.ext hg hT)) ?_)
  rintro vb x15 ⟨hb, hX⟩
  replace hT := hT.trans hX
  refine WL.nil (EX.mut hT ?_)
  replace ha := RL.ext ha hX
  (repeat (first | (apply HL.add; rfl; rfl; rfl; rfl; rfl; omega; omega) | (apply HL.sub'; rfl; rfl; rfl; rfl; rfl; omega; omega) | (apply HL.pure; rfl; rfl; rfl; rfl) | (apply HL.pass; rfl; rfl; rfl) | (refine HL.fa rfl rfl rfl rfl ?_) | (apply HL.nck; rfl; rfl; rfl; rfl) | (refine HL.ld (by assumption) rfl rfl rfl rfl (by assumption) rfl ?_) | (refine HL.ldA (by assumption) rfl rfl rfl rfl (by assumption) rfl ?_) | (refine HL.lenS rfl rfl rfl rfl ?_) | (refine HL.eqB rfl rfl rfl rfl rfl ?_) | (refine HL.neB rfl rfl rfl rfl rfl ?_) | (refine HL.build rfl rfl rfl rfl rfl ?_) | (apply HL.makeFunc; rfl; rfl; rfl; rfl; rfl) | (apply HL.nil)))
  refine HL.mut rfl (WL.callV (fv := []) rfl rfl rfl rfl (same_true x15 ha hb (hbw.ext hT) (hws.up hT) (hwl.up hT) (law4 s l g)) ?_)
  rintro _ x16 ⟨rfl, hX⟩
  replace hT := hT.trans hX
  refine WL.nil (EX.mut hT ?_)
  clear hb ha
  (repeat (first | (apply HL.add; rfl; rfl; rfl; rfl; rfl; omega; omega) | (apply HL.sub'; rfl; rfl; rfl; rfl; rfl; omega; omega) | (apply HL.pure; rfl; rfl; rfl; rfl) | (apply HL.pass; rfl; rfl; rfl) | (refine HL.fa rfl rfl rfl rfl ?_) | (apply HL.nck; rfl; rfl; rfl; rfl) | (refine HL.ld (by assumption) rfl rfl rfl rfl (by assumption) rfl ?_) | (refine HL.ldA (by assumption) rfl rfl rfl rfl (by assumption) rfl ?_) | (refine HL.lenS rfl rfl rfl rfl ?_) | (refine HL.eqB rfl rfl rfl rfl rfl ?_) | (refine HL.neB rfl rfl rfl rfl rfl ?_) | (refine HL.build rfl rfl rfl rfl rfl ?_) | (apply HL.makeFunc; rfl; rfl; rfl; rfl; rfl) | (apply HL.nil)))
  refine HL.mut rfl (WL.call rfl rfl rfl (mk_one x16 10 (RL.ext hg hT)) ?_)
  rintro va x17 ⟨ha, hX⟩
  replace hT := hT.trans hX
  refine WL.nil (EX.mut hT ?_)
  (repeat (first | (apply HL.add; rfl; rfl; rfl; rfl; rfl; omega; omega) | (apply HL.sub'; rfl; rfl; rfl; rfl; rfl; omega; omega) | (apply HL.pure; rfl; rfl; rfl; rfl) | (apply HL.pass; rfl; rfl; rfl) | (refine HL.fa rfl rfl rfl rfl ?_) | (apply HL.nck; rfl; rfl; rfl; rfl) | (refine HL.ld (by assumption) rfl rfl rfl rfl (by assumption) rfl ?_) | (refine HL.ldA (by assumption) rfl rfl rfl rfl (by assumption) rfl ?_) | (refine HL.lenS rfl rfl rfl rfl ?_) | (refine HL.eqB rfl rfl rfl rfl rfl ?_) | (refine HL.neB rfl rfl rfl rfl rfl ?_) | (refine HL.build rfl rfl rfl rfl rfl ?_) | (apply HL.makeFunc; rfl; rfl; rfl; rfl; rfl) | (apply HL.nil)))
  refine HL.mut rfl (WL.callV (fv := []) (cv := []) rfl rfl rfl rfl (lnot_ok x17 ha) ?_)
  rintro vb x18 ⟨hb, hX⟩
  replace hT := hT.trans hX
  refine WL.nil (EX.mut hT ?_)
  replace ha := RL.ext ha hX
  (repeat (first | (apply HL.add; rfl; rfl; rfl; rfl; rfl; omega; omega) | (apply HL.sub'; rfl; rfl; rfl; rfl; rfl; omega; omega) | (apply HL.pure; rfl; rfl; rfl; rfl) | (apply HL.pass; rfl; rfl; rfl) | (refine HL.fa rfl rfl rfl rfl ?_) | (apply HL.nck; rfl; rfl; rfl; rfl) | (refine HL.ld (by assumption) rfl rfl rfl rfl (by assumption) rfl ?_) | (refine HL.ldA (by assumption) rfl rfl rfl rfl (by assumption) rfl ?_) | (refine HL.lenS rfl rfl rfl rfl ?_) | (refine HL.eqB rfl rfl rfl rfl rfl ?_) | (refine HL.neB rfl rfl rfl rfl rfl ?_) | (refine HL.build rfl rfl rfl rfl rfl ?_) | (apply HL.makeFunc; rfl; rfl; rfl; rfl; rfl) | (apply HL.nil)))
  refine HL.mut rfl (WL.callV (fv := []) (cv := []) rfl rfl rfl rfl (lnot_ok x18 (RL.ext hg hT)) ?_)
  rintro vc x19 ⟨hc, hX⟩
  replace hT := hT.trans hX
  refine WL.nil (EX.mut hT ?_)
  replace ha := RL.ext ha hX
  replace hb := RL.ext hb hX
  (repeat (first | (apply HL.add; rfl; rfl; rfl; rfl; rfl; omega; omega) | (apply HL.sub'; rfl; rfl; rfl; rfl; rfl; omega; omega) | (apply HL.pure; rfl; rfl; rfl; rfl) | (apply HL.pass; rfl; rfl; rfl) | (refine HL.fa rfl rfl rfl rfl ?_) | (apply HL.nck; rfl; rfl; rfl; rfl) | (refine HL.ld (by assumption) rfl rfl rfl rfl (by assumption) rfl ?_) | (refine HL.ldA (by assumption) rfl rfl rfl rfl (by assumption) rfl ?_) | (refine HL.lenS rfl rfl rfl rfl ?_) | (refine HL.eqB rfl rfl rfl rfl rfl ?_) | (refine HL.neB rfl rfl rfl rfl rfl ?_) | (refine HL.build rfl rfl rfl rfl rfl ?_) | (apply HL.makeFunc; rfl; rfl; rfl; rfl; rfl) | (apply HL.nil)))
  refine HL.mut rfl (WL.call rfl rfl rfl (mk_one x19 11 hc) ?_)
  rintro vd x20 ⟨hd, hX⟩
  replace hT := hT.trans hX
  refine WL.nil (EX.mut hT ?_)
  replace ha := RL.ext ha hX
  replace hb := RL.ext hb hX
  replace hc := RL.ext hc hX
  (repeat (first | (apply HL.add; rfl; rfl; rfl; rfl; rfl; omega; omega) | (apply HL.sub'; rfl; rfl; rfl; rfl; rfl; omega; omega) | (apply HL.pure; rfl; rfl; rfl; rfl) | (apply HL.pass; rfl; rfl; rfl) | (refine HL.fa rfl rfl rfl rfl ?_) | (apply HL.nck; rfl; rfl; rfl; rfl) | (refine HL.ld (by assumption) rfl rfl rfl rfl (by assumption) rfl ?_) | (refine HL.ldA (by assumption) rfl rfl rfl rfl (by assumption) rfl ?_) | (refine HL.lenS rfl rfl rfl rfl ?_) | (refine HL.eqB rfl rfl rfl rfl rfl ?_) | (refine HL.neB rfl rfl rfl rfl rfl ?_) | (refine HL.build rfl rfl rfl rfl rfl ?_) | (apply HL.makeFunc; rfl; rfl; rfl; rfl; rfl) | (apply HL.nil)))
  refine HL.mut rfl (WL.callV (fv := []) rfl rfl rfl rfl (same_true x20 hb hd (hbw.ext hT) (hws.up hT) (hwl.up hT) (law5 s l g)) ?_)
  rintro _ x21 ⟨rfl, hX⟩
  replace hT := hT.trans hX
  refine WL.nil (EX.mut hT ?_)
  clear hd hc hb ha
  (repeat (first | (apply HL.add; rfl; rfl; rfl; rfl; rfl; omega; omega) | (apply HL.sub'; rfl; rfl; rfl; rfl; rfl; omega; omega) | (apply HL.pure; rfl; rfl; rfl; rfl) | (apply HL.pass; rfl; rfl; rfl) | (refine HL.fa rfl rfl rfl rfl ?_) | (apply HL.nck; rfl; rfl; rfl; rfl) | (refine HL.ld (by assumption) rfl rfl rfl rfl (by assumption) rfl ?_) | (refine HL.ldA (by assumption) rfl rfl rfl rfl (by assumption) rfl ?_) | (refine HL.lenS rfl rfl rfl rfl ?_) | (refine HL.eqB rfl rfl rfl rfl rfl ?_) | (refine HL.neB rfl rfl rfl rfl rfl ?_) | (refine HL.build rfl rfl rfl rfl rfl ?_) | (apply HL.makeFunc; rfl; rfl; rfl; rfl; rfl) | (apply HL.nil)))
  refine HL.mut rfl (WL.call rfl rfl rfl (mk_two x21 5 (RL.ext hf hT) (RL.ext hg hT)) ?_)
  rintro va x22 ⟨ha, hX⟩
  replace hT := hT.trans hX
  refine WL.nil (EX.mut hT ?_)
  (repeat (first | (apply HL.add; rfl; rfl; rfl; rfl; rfl; omega; omega) | (apply HL.sub'; rfl; rfl; rfl; rfl; rfl; omega; omega) | (apply HL.pure; rfl; rfl; rfl; rfl) | (apply HL.pass; rfl; rfl; rfl) | (refine HL.fa rfl rfl rfl rfl ?_) | (apply HL.nck; rfl; rfl; rfl; rfl) | (refine HL.ld (by assumption) rfl rfl rfl rfl (by assumption) rfl ?_) | (refine HL.ldA (by assumption) rfl rfl rfl rfl (by assumption) rfl ?_) | (refine HL.lenS rfl rfl rfl rfl ?_) | (refine HL.eqB rfl rfl rfl rfl rfl ?_) | (refine HL.neB rfl rfl rfl rfl rfl ?_) | (refine HL.build rfl rfl rfl rfl rfl ?_) | (apply HL.makeFunc; rfl; rfl; rfl; rfl; rfl) | (apply HL.nil)))
  refine HL.mut rfl (WL.call rfl rfl rfl (mk_one x22 7 ha) ?_)
  rintro vb x23 ⟨hb, hX⟩
  replace hT := hT.trans hX
  refine WL.nil (EX.mut hT ?_)
  replace ha := RL.ext ha hX
  (repeat (first | (apply HL.add; rfl; rfl; rfl; rfl; rfl; omega; omega) | (apply HL.sub'; rfl; rfl; rfl; rfl; rfl; omega; omega) | (apply HL.pure; rfl; rfl; rfl; rfl) | (apply HL.pass; rfl; rfl; rfl) | (refine HL.fa rfl rfl rfl rfl ?_) | (apply HL.nck; rfl; rfl; rfl; rfl) | (refine HL.ld (by assumption) rfl rfl rfl rfl (by assumption) rfl ?_) | (refine HL.ldA (by assumption) rfl rfl rfl rfl (by assumption) rfl ?_) | (refine HL.lenS rfl rfl rfl rfl ?_) | (refine HL.eqB rfl rfl rfl rfl rfl ?_) | (refine HL.neB rfl rfl rfl rfl rfl ?_) | (refine HL.build rfl rfl rfl rfl rfl ?_) | (apply HL.makeFunc; rfl; rfl; rfl; rfl; rfl) | (apply HL.nil)))
  refine HL.mut rfl (WL.call rfl rfl rfl (mk_one x23 7 (RL.ext hf hT)) ?_)
  rintro vc x24 ⟨hc, hX⟩
  replace hT := hT.trans hX
  refine WL.nil (EX.mut hT ?_)
  replace ha := RL.ext ha hX
  replace hb := RL.ext hb hX
  (repeat (first | (apply HL.add; rfl; rfl; rfl; rfl; rfl; omega; omega) | (apply HL.sub'; rfl; rfl; rfl; rfl; rfl; omega; omega) | (apply HL.pure; rfl; rfl; rfl; rfl) | (apply HL.pass; rfl; rfl; rfl) | (refine HL.fa rfl rfl rfl rfl ?_) | (apply HL.nck; rfl; rfl; rfl; rfl) | (refine HL.ld (by assumption) rfl rfl rfl rfl (by assumption) rfl ?_) | (refine HL.ldA (by assumption) rfl rfl rfl rfl (by assumption) rfl ?_) | (refine HL.lenS rfl rfl rfl rfl ?_) | (refine HL.eqB rfl rfl rfl rfl rfl ?_) | (refine HL.neB rfl rfl rfl rfl rfl ?_) | (refine HL.build rfl rfl rfl rfl rfl ?_) | (apply HL.makeFunc; rfl; rfl; rfl; rfl; rfl) | (apply HL.nil)))
  refine HL.mut rfl (WL.call rfl rfl rfl (mk_one x24 7 (RL.ext hg hT)) ?_)
  rintro vd x25 ⟨hd, hX⟩
  replace hT := hT.trans hX
  refine WL.nil (EX.mut hT ?_)
  replace ha := RL.ext ha hX
  replace hb := RL.ext hb hX
  replace hc := RL.ext hc hX
  (repeat (first | (apply HL.add; rfl; rfl; rfl; rfl; rfl; omega; omega) | (apply HL.sub'; rfl; rfl; rfl; rfl; rfl; omega; omega) | (apply HL.pure; rfl; rfl; rfl; rfl) | (apply HL.pass; rfl; rfl; rfl) | (refine HL.fa rfl rfl rfl rfl ?_) | (apply HL.nck; rfl; rfl; rfl; rfl) | (refine HL.ld (by assumption) rfl rfl rfl rfl (by assumption) rfl ?_) | (refine HL.ldA (by assumption) rfl rfl rfl rfl (by assumption) rfl ?_) | (refine HL.lenS rfl rfl rfl rfl ?_) | (refine HL.eqB rfl rfl rfl rfl rfl ?_) | (refine HL.neB rfl rfl rfl rfl rfl ?_) | (refine HL.build rfl rfl rfl rfl rfl ?_) | (apply HL.makeFunc; rfl; rfl; rfl; rfl; rfl) | (apply HL.nil)))
  refine HL.mut rfl (WL.call rfl rfl rfl (mk_two x25 5 hc hd) ?_)
  rintro ve x26 ⟨he, hX⟩
  replace hT := hT.trans hX
  refine WL.nil (EX.mut hT ?_)
  replace ha := RL.ext ha hX
  replace hb := RL.ext hb hX
  replace hc := RL.ext hc hX
  replace hd := RL.ext hd hX
  (repeat (first | (apply HL.add; rfl; rfl; rfl; rfl; rfl; omega; omega) | (apply HL.sub'; rfl; rfl; rfl; rfl; rfl; omega; omega) | (apply HL.pure; rfl; rfl; rfl; rfl) | (apply HL.pass; rfl; rfl; rfl) | (refine HL.fa rfl rfl rfl rfl ?_) | (apply HL.nck; rfl; rfl; rfl; rfl) | (refine HL.ld (by assumption) rfl rfl rfl rfl (by assumption) rfl ?_) | (refine HL.ldA (by assumption) rfl rfl rfl rfl (by assumption) rfl ?_) | (refine HL.lenS rfl rfl rfl rfl ?_) | (refine HL.eqB rfl rfl rfl rfl rfl ?_) | (refine HL.neB rfl rfl rfl rfl rfl ?_) | (refine HL.build rfl rfl rfl rfl rfl ?_) | (apply HL.makeFunc; rfl; rfl; rfl; rfl; rfl) | (apply HL.nil)))
  refine HL.mut rfl (WL.callV (fv := []) rfl rfl rfl rfl (same_true x26 hb he (hbw.ext hT) (hws.up hT) (hwl.up hT) (law6 s l f g)) ?_)
  rintro _ x27 ⟨rfl, hX⟩
  replace hT := hT.trans hX
  refine WL.nil (EX.mut hT ?_)
  clear he hd hc hb ha
  (repeat (first | (apply HL.add; rfl; rfl; rfl; rfl; rfl; omega; omega) | (apply HL.sub'; rfl; rfl; rfl; rfl; rfl; omega; omega) | (apply HL.pure; rfl; rfl; rfl; rfl) | (apply HL.pass; rfl; rfl; rfl) | (refine HL.fa rfl rfl rfl rfl ?_) | (apply HL.nck; rfl; rfl; rfl; rfl) | (refine HL.ld (by assumption) rfl rfl rfl rfl (by assumption) rfl ?_) | (refine HL.ldA (by assumption) rfl rfl rfl rfl (by assumption) rfl ?_) | (refine HL.lenS rfl rfl rfl rfl ?_) | (refine HL.eqB rfl rfl rfl rfl rfl ?_) | (refine HL.neB rfl rfl rfl rfl rfl ?_) | (refine HL.build rfl rfl rfl rfl rfl ?_) | (apply HL.makeFunc; rfl; rfl; rfl; rfl; rfl) | (apply HL.nil)))
  refine HL.mut rfl (WL.call rfl rfl rfl (mk_one x27 11 (RL.ext hf hT)) ?_)
  rintro va x28 ⟨ha, hX⟩
  replace hT := hT.trans hX
  refine WL.nil (EX.mut hT ?_)
  (repeat (first | (apply HL.add; rfl; rfl; rfl; rfl; rfl; omega; omega) | (apply HL.sub'; rfl; rfl; rfl; rfl; rfl; omega; omega) | (apply HL.pure; rfl; rfl; rfl; rfl) | (apply HL.pass; rfl; rfl; rfl) | (refine HL.fa rfl rfl rfl rfl ?_) | (apply HL.nck; rfl; rfl; rfl; rfl) | (refine HL.ld (by assumption) rfl rfl rfl rfl (by assumption) rfl ?_) | (refine HL.ldA (by assumption) rfl rfl rfl rfl (by assumption) rfl ?_) | (refine HL.lenS rfl rfl rfl rfl ?_) | (refine HL.eqB rfl rfl rfl rfl rfl ?_) | (refine HL.neB rfl rfl rfl rfl rfl ?_) | (refine HL.build rfl rfl rfl rfl rfl ?_) | (apply HL.makeFunc; rfl; rfl; rfl; rfl; rfl) | (apply HL.nil)))
  refine HL.mut rfl (WL.call rfl rfl rfl (mk_one x28 11 ha) ?_)
  rintro vb x29 ⟨hb, hX⟩
  replace hT := hT.trans hX
  refine WL.nil (EX.mut hT ?_)
  replace ha := RL.ext ha hX
  (repeat (first | (apply HL.add; rfl; rfl; rfl; rfl; rfl; omega; omega) | (apply HL.sub'; rfl; rfl; rfl; rfl; rfl; omega; omega) | (apply HL.pure; rfl; rfl; rfl; rfl) | (apply HL.pass; rfl; rfl; rfl) | (refine HL.fa rfl rfl rfl rfl ?_) | (apply HL.nck; rfl; rfl; rfl; rfl) | (refine HL.ld (by assumption) rfl rfl rfl rfl (by assumption) rfl ?_) | (refine HL.ldA (by assumption) rfl rfl rfl rfl (by assumption) rfl ?_) | (refine HL.lenS rfl rfl rfl rfl ?_) | (refine HL.eqB rfl rfl rfl rfl rfl ?_) | (refine HL.neB rfl rfl rfl rfl rfl ?_) | (refine HL.build rfl rfl rfl rfl rfl ?_) | (apply HL.makeFunc; rfl; rfl; rfl; rfl; rfl) | (apply HL.nil)))
  refine HL.mut rfl (WL.call rfl rfl rfl (mk_one x29 11 (RL.ext hf hT)) ?_)
  rintro vc x30 ⟨hc, hX⟩
  replace hT := hT.trans hX
  refine WL.nil (EX.mut hT ?_)
  replace ha := RL.ext ha hX
  replace hb := RL.ext hb hX
  (repeat (first | (apply HL.add; rfl; rfl; rfl; rfl; rfl; omega; omega) | (apply HL.sub'; rfl; rfl; rfl; rfl; rfl; omega; omega) | (apply HL.pure; rfl; rfl; rfl; rfl) | (apply HL.pass; rfl; rfl; rfl) | (refine HL.fa rfl rfl rfl rfl ?_) | (apply HL.nck; rfl; rfl; rfl; rfl) | (refine HL.ld (by assumption) rfl rfl rfl rfl (by assumption) rfl ?_) | (refine HL.ldA (by assumption) rfl rfl rfl rfl (by assumption) rfl ?_) | (refine HL.lenS rfl rfl rfl rfl ?_) | (refine HL.eqB rfl rfl rfl rfl rfl ?_) | (refine HL.neB rfl rfl rfl rfl rfl ?_) | (refine HL.build rfl rfl rfl rfl rfl ?_) | (apply HL.makeFunc; rfl; rfl; rfl; rfl; rfl) | (apply HL.nil)))
  refine HL.mut rfl (WL.callV (fv := []) rfl rfl rfl rfl (same_true x30 hb hc (hbw.ext hT) (hws.up hT) (hwl.up hT) (law7 s l f)) ?_)
  rintro _ x31 ⟨rfl, hX⟩
  replace hT := hT.trans hX
  refine WL.nil (EX.mut hT ?_)
  clear hc hb ha
  (repeat (first | (apply HL.add; rfl; rfl; rfl; rfl; rfl; omega; omega) | (apply HL.sub'; rfl; rfl; rfl; rfl; rfl; omega; omega) | (apply HL.pure; rfl; rfl; rfl; rfl) | (apply HL.pass; rfl; rfl; rfl) | (refine HL.fa rfl rfl rfl rfl ?_) | (apply HL.nck; rfl; rfl; rfl; rfl) | (refine HL.ld (by assumption) rfl rfl rfl rfl (by assumption) rfl ?_) | (refine HL.ldA (by assumption) rfl rfl rfl rfl (by assumption) rfl ?_) | (refine HL.lenS rfl rfl rfl rfl ?_) | (refine HL.eqB rfl rfl rfl rfl rfl ?_) | (refine HL.neB rfl rfl rfl rfl rfl ?_) | (refine HL.build rfl rfl rfl rfl rfl ?_) | (apply HL.makeFunc; rfl; rfl; rfl; rfl; rfl) | (apply HL.nil)))
  (repeat (first | (apply WL.add; rfl; rfl; rfl; rfl; omega; omega) | (apply QL.add; rfl; rfl; rfl; rfl; omega; omega) | (apply WL.sub'; rfl; rfl; rfl; rfl; omega; omega) | (apply QL.sub'; rfl; rfl; rfl; rfl; omega; omega) | (apply WL.mul; rfl; rfl; rfl; rfl; omega; omega) | (apply QL.mul; rfl; rfl; rfl; rfl; omega; omega) | (apply WL.pure; rfl; rfl; rfl) | (apply QL.pure; rfl; rfl; rfl) | (apply WL.nil) | (apply EX.thenN) | (apply CW.seq) | (apply CW.region) | (apply WL.pass; rfl; rfl) | (apply QL.pass; rfl; rfl) | (apply WL.eqB; rfl; rfl; rfl; rfl) | (apply QL.eqB; rfl; rfl; rfl; rfl) | (apply WL.neB; rfl; rfl; rfl; rfl) | (apply QL.neB; rfl; rfl; rfl; rfl) | (apply WL.lenS; rfl; rfl; rfl) | (apply QL.lenS; rfl; rfl; rfl) | (apply WL.makeFunc; rfl; rfl; rfl; rfl) | (apply QL.makeFunc; rfl; rfl; rfl; rfl) | (apply WL.fa; rfl; rfl; rfl) | (apply QL.fa; rfl; rfl; rfl) | (apply WL.nck; rfl; rfl; rfl) | (apply QL.nck; rfl; rfl; rfl) | (apply WL.ld; rfl; rfl; rfl; assumption; rfl) | (apply QL.ld; rfl; rfl; rfl; assumption; rfl) | (apply WL.ldA; rfl; rfl; rfl; assumption; rfl) | (apply QL.ldA; rfl; rfl; rfl; assumption; rfl) | (apply CW.block) | (apply EX.inN) | (apply CW.condT; rfl) | (apply CW.condF; rfl) | (apply CW.exit) | (apply EX.thenX) | (apply EX.inX) | (apply EX.inXne; rfl) | (apply CW.ret) | (apply EX.thenR) | (apply EX.inR) | (apply CW.skip) | (refine WL.lenO rfl rfl rfl (by assumption) ?_) | (apply WL.isNil; rfl; rfl; rfl) | (apply CW.draw; exact mixed; kernel_rfl)))
  exact EX.ret1 rfl rfl ⟨rfl, hE.trans hT⟩
end Go.Proofs.Ytacpdifbpeajbaa
