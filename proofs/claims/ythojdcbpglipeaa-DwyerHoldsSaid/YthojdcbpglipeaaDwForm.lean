/-
  Package dwyer: its formulas built.
-/
import Derived.Test.YthojdcbpglipeaaDwMk
import Derived.Test.YthojdcbpglipeaaDwPl
import Derived.Test.YthojdcbpglipeaaMono
import Derived.Test.YthojdcbpglipeaaLtl2
import Derived.Test.YthojdcbpglipeaaRet
import Derived.Test.YthojdcbpglipeaaDwyer
set_option linter.unusedVariables false
set_option linter.unusedSimpArgs false
namespace Go.Proofs.Ythojdcbpglipeaa
open Go.RowKit

instance iDwForm1 : IsC Try.prog 240 1 false := IsC.of (by kernel_rfl) Try.underlying240 rfl
instance iDwForm2 : IsZC Try.prog 240 [.nilFunc] := IsZC.of (z := .nilFunc) (by kernel_rfl) rfl
abbrev Fresh (w : World) (t : Ltl) : Value → World → Prop := fun v w' => GL w.heap.size w' v t ∧ Ext w w'
theorem Rt.low {P : Program} {f : FuncId} {args : Array Value} {w : World} {t : Ltl} {B : Nat} (h : Rt P f args w (Fresh w t)) (hB : B ≤ w.heap.size) : Rt P f args w fun v w' => GL B w' v t ∧ Ext w w' := h.mono fun v w' h => ⟨h.1.low hB, h.2⟩
theorem FnV.low {P : Program} {fv : Value} {args : List Value} {w : World} {t : Ltl} {B : Nat} (h : FnV P fv args w (Fresh w t)) (hB : B ≤ w.heap.size) : FnV P fv args w fun v w' => GL B w' v t ∧ Ext w w' := h.mono fun v w' h => ⟨h.1.low hB, h.2⟩
theorem gleaf (B : Nat) (w : World) (k : Int) : GL B w (ltlV 3 k none 0 0) (leafL k) := Rd.mkLtl (kids := []) (Sl.zero _ _)
theorem rleaf (F : Nat → Prop) (w : World) (k : Int) : Rd w F (ltlV 3 k none 0 0) (leafL k) := Rd.mkLtl (kids := []) (Sl.zero _ _)
theorem dw_leafV (w : World) (k : Int) : Rt Try.prog 126 [.int .i64 k].toArray w fun v w' => v = ltlV 3 k none 0 0 ∧ Ext w w' := by
  refine Rt.enter1 Try.func126 Try.ntmps126 rfl rfl ?_
  (repeat (first | (apply CW.seq) | (apply CW.region)))
  refine WL.alloc rfl rfl (fun w1 hb hE => ?_)
  (repeat (first | (apply WL.pure; rfl; rfl; rfl) | (apply WL.nil) | (apply EX.thenN) | (apply CW.seq) | (apply CW.region)))
  refine WL.build rfl rfl rfl rfl ?_
  refine WL.st rfl rfl rfl hb rfl rfl (ones_of rfl) (fun w2 hb2 hgr => ?_)
  have hE2 : Ext w w2 := hE.grown hgr hE.size (fun g hg => by cases hg; exact Nat.le_refl _)
  (repeat (first | (apply WL.nil) | (apply EX.thenN) | (apply CW.ret)))
  exact EX.retC rfl rfl hb2 rfl ⟨rfl, hE2⟩
/-- blocks from B on that the first operations have made -/
def FM (B k : Nat) (γ : Nat → Nat) (w : World) : Nat → Prop := fun b => B ≤ b ∧ b < w.heap.size ∧ γ b ≤ k
theorem byM_new {γ : Nat → Nat} {w : World} {i : Nat} : byM γ w i w.heap.size = i := by unfold byM; rw [if_neg (Nat.lt_irrefl _)]
theorem FM.lt {B k : Nat} {γ : Nat → Nat} {w : World} : ∀ b, FM B k γ w b → b < w.heap.size := fun b h => h.2.1
theorem stF {B k : Nat} {t : Ltl} : StM (fun v γ w => Rd w (FM B k γ w) v t) := fun v γ γ' w w' h e hγ => (Rd.up0 h e FM.lt).wk (fun b hb => ⟨hb.1, Nat.lt_of_lt_of_le hb.2.1 e.size, by rw [hγ b hb.2.1]; exact hb.2.2⟩)
theorem stA {B i : Nat} {e : TypeId} {zs : List Value} : StM (fun v γ w => ∃ b, v = .pointer (some ⟨b, 0, none⟩) ∧ γ b = i ∧ B ≤ b ∧ Blk w b e zs) := by
  rintro v γ γ' w w' ⟨b, h1, h2, h3, h4⟩ e hγ
  exact ⟨b, h1, by rw [hγ b h4.lt]; exact h2, h3, h4.ext e⟩
theorem FM.call {P : Program} {f : FuncId} {args : Array Value} {w : World} {B k i : Nat} {γ : Nat → Nat} {t : Ltl} (hi : i ≤ k) (hB : B ≤ w.heap.size) (h : Rt P f args w fun v w' => Rd w' (Plus (FM B k γ w) w w') v t ∧ Ext w w') :
    Rt P f args w fun v w' => Rd w' (FM B k (byM γ w i) w') v t ∧ Ext w w' := h.mono fun v w' h => ⟨h.1.wk (fun b hb => by
  have := h.2.size
  rcases hb with hb | hb
  · exact ⟨hb.1, by have := hb.2.1; omega, by unfold byM; rw [if_pos hb.2.1]; exact hb.2.2⟩
  · exact ⟨by have := hb.1; omega, hb.2, by unfold byM; rw [if_neg (by have := hb.1; omega)]; exact hi⟩), h.2⟩
theorem FM.fresh {P : Program} {f : FuncId} {args : Array Value} {w : World} {B k i : Nat} {γ : Nat → Nat} {t : Ltl} (hi : i ≤ k) (hB : B ≤ w.heap.size) (h : Rt P f args w (Fresh w t)) :
    Rt P f args w fun v w' => Rd w' (FM B k (byM γ w i) w') v t ∧ Ext w w' := h.mono fun v w' h => ⟨h.1.wk (fun b hb => ⟨by have := hb.1; omega, hb.2, by unfold byM; rw [if_neg (by have := hb.1; omega)]; exact hi⟩), h.2⟩
/-- behind the store into a variable that came later -/
theorem FM.st {B k b : Nat} {γ : Nat → Nat} {w w' : World} {v : Value} {t : Ltl} (h : Rd w (FM B k γ w) v t) (hb : k < γ b) (hg : w.grownBy w' (some b)) : GL B w' v t :=
  (Rd.kept h hg (fun c hc => ⟨hc.2.1, fun e => by have := Option.some.inj e; subst this; have := hc.2.2; omega⟩)).wk (fun c hc => ⟨hc.1, Nat.lt_of_lt_of_le hc.2.1 hg.size⟩)
abbrev patL (k sc P S Q R c : Int) : List Value := [.int .i64 k, .int .i64 sc, .int .i64 P, .int .i64 S, .int .i64 Q, .int .i64 R, .int .i64 c]
set_option maxRecDepth 10000 in
set_option maxHeartbeats 1000000 in
theorem global_ok (k sc P S Q R c : Int) : ∀ (n : Nat), n ≤ 1000 → ∀ (w : World), Rt Try.prog 134 [.agg (patL k sc P S Q R c).toArray, .int .i64 (n : Int)].toArray w (Fresh w (globalF k P S n)) := by
  intro n
  induction n with
  | zero =>
    intro _ w
    refine Rt.enter2 Try.func134 Try.ntmps134 rfl rfl ?_
    (repeat (first | (apply CW.seq) | (apply CW.region)))
    refine WL.boxB rfl rfl rfl fun w1 ht e1 => ?_
    refine WL.alloc rfl rfl (fun w2 hr e2 => ?_)
    have ht := ht.ext e2
    have hE := e1.trans e2
    have hlr := hr.lt
    have hs1 := e1.size
    have hB : w2.heap.size ≤ w2.heap.size := Nat.le_refl _
    unfold globalF
    (repeat (first | (apply WL.pure; rfl; rfl; rfl) | (apply WL.nil) | (apply EX.thenN) | (apply CW.seq) | (apply CW.region) | (apply WL.fa; rfl; rfl; rfl) | (apply WL.ld; rfl; rfl; rfl; assumption; rfl) | (apply CW.block)))
    by_cases h2 : k = 2
    · subst h2
      rw [if_pos rfl]
      (repeat (first | (apply CW.seq) | (apply CW.region) | (apply WL.fa; rfl; rfl; rfl) | (apply WL.ld; rfl; rfl; rfl; assumption; rfl) | (apply CW.condT; rfl)))
      skip
      refine WL.call rfl rfl rfl (dw_leafV w2 P) ?_
      rintro _ y1 ⟨rfl, ey1⟩
      have ht := ht.ext ey1
      have hr := hr.ext ey1
      have hE := hE.trans ey1
      have hB := Nat.le_trans hB ey1.size
      refine WL.call rfl rfl rfl (dw_alwaysG y1 hB (gleaf _ _ _)) ?_
      rintro v13 y2 ⟨g13, ey2⟩
      have ht := ht.ext ey2
      have hr := hr.ext ey2
      have hE := hE.trans ey2
      have hB := Nat.le_trans hB ey2.size
      obtain ⟨uo, uc, rfl, hku⟩ := Rd.ltl g13
      skip
      refine WL.st rfl rfl rfl hr rfl rfl (ones_of rfl) (fun z hz hgz => ?_)
      (repeat (first | (apply WL.nil) | (apply EX.thenN) | (apply CW.ret) | (apply EX.thenR) | (apply EX.inR)))
      exact EX.retC rfl rfl hz rfl ⟨(g13.st hgz (by omega)).low (by omega), ret_size hE hgz (by omega)⟩
    by_cases h3 : k = 3
    · subst h3
      rw [if_neg (by decide), if_pos rfl]
      (repeat (first | (apply WL.pure; rfl; rfl; rfl) | (apply WL.nil) | (apply EX.thenN) | (apply CW.seq) | (apply CW.region) | (apply WL.fa; rfl; rfl; rfl) | (apply WL.ld; rfl; rfl; rfl; assumption; rfl) | (apply CW.condT; rfl) | (apply CW.condF; rfl)))
      skip
      refine WL.call rfl rfl rfl (dw_leafV w2 P) ?_
      rintro _ y1 ⟨rfl, ey1⟩
      have ht := ht.ext ey1
      have hr := hr.ext ey1
      have hE := hE.trans ey1
      have hB := Nat.le_trans hB ey1.size
      refine WL.call rfl rfl rfl (dw_oneG y1 hB 10 (gleaf _ _ _)) ?_
      rintro v19 y2 ⟨g19, ey2⟩
      have ht := ht.ext ey2
      have hr := hr.ext ey2
      have hE := hE.trans ey2
      have hB := Nat.le_trans hB ey2.size
      obtain ⟨uo, uc, rfl, hku⟩ := Rd.ltl g19
      skip
      refine WL.st rfl rfl rfl hr rfl rfl (ones_of rfl) (fun z hz hgz => ?_)
      (repeat (first | (apply WL.nil) | (apply EX.thenN) | (apply CW.ret) | (apply EX.thenR) | (apply EX.inR)))
      exact EX.retC rfl rfl hz rfl ⟨(g19.st hgz (by omega)).low (by omega), ret_size hE hgz (by omega)⟩
    by_cases h5 : k = 5
    · subst h5
      rw [if_neg (by decide), if_neg (by decide), if_pos rfl]
      have ed := Ext.drew w2
      have ht := ht.ext ed
      have hr := hr.ext ed
      have hE := hE.trans ed
      have hB : w2.heap.size ≤ (drew w2).heap.size := Nat.le_trans hB ed.size
      (repeat (first | (apply WL.pure; rfl; rfl; rfl) | (apply WL.nil) | (apply EX.thenN) | (apply CW.seq) | (apply CW.region) | (apply CW.condT; rfl) | (apply CW.condF; rfl)))
      refine CW.drawM 14 mixed (by kernel_rfl) ?_
      (repeat (first | (refine ML.q rfl rfl rfl (fun γ' w' hw' => WL.fa rfl rfl rfl (WL.nil (EX.mm rfl (Ext.refl _) rfl))) ?_) | (apply ML.q; rfl; rfl; rfl; (intro γ' w' hw'; apply WL.ld; rfl; rfl; rfl; apply Blk.ext; assumption; exact hw'; rfl; exact WL.nil (EX.mm rfl (Ext.refl _) rfl)))))
      refine ML.q rfl rfl rfl (fun γ w hw => WL.call rfl rfl rfl (dw_leafV w P) (fun v w' h => WL.nil (EX.mm rfl h.2 h.1))) ?_
      refine ML.fc (fun v γ w => GL w2.heap.size w v (notL (leafL P))) rfl rfl rfl (fun v γ γ' w w' h e _ => h.ext e) (fun γ w hw => WL.call rfl rfl rfl (dw_notG w (Nat.le_trans hB hw.size) (gleaf _ _ _)) (fun v w' h => WL.nil (EX.mm rfl h.2 h.1))) ?_
      (repeat (first | (refine ML.q rfl rfl rfl (fun γ' w' hw' => WL.fa rfl rfl rfl (WL.nil (EX.mm rfl (Ext.refl _) rfl))) ?_) | (apply ML.q; rfl; rfl; rfl; (intro γ' w' hw'; apply WL.ld; rfl; rfl; rfl; apply Blk.ext; assumption; exact hw'; rfl; exact WL.nil (EX.mm rfl (Ext.refl _) rfl)))))
      refine ML.q rfl rfl rfl (fun γ w hw => WL.call rfl rfl rfl (dw_leafV w S) (fun v w' h => WL.nil (EX.mm rfl h.2 h.1))) ?_
      refine ML.fc (fun v γ w => GL w2.heap.size w v (untL (notL (leafL P)) (leafL S))) rfl rfl rfl (fun v γ γ' w w' h e _ => h.ext e) (fun γ w hw v25 g25 => WL.call rfl rfl rfl (dw_untilG w (Nat.le_trans hB hw.size) g25 (gleaf _ _ _)) (fun v w' h => WL.nil (EX.mm rfl h.2 h.1))) ?_
      (repeat (first | (refine ML.q rfl rfl rfl (fun γ' w' hw' => WL.fa rfl rfl rfl (WL.nil (EX.mm rfl (Ext.refl _) rfl))) ?_) | (apply ML.q; rfl; rfl; rfl; (intro γ' w' hw'; apply WL.ld; rfl; rfl; rfl; apply Blk.ext; assumption; exact hw'; rfl; exact WL.nil (EX.mm rfl (Ext.refl _) rfl)))))
      refine ML.q rfl rfl rfl (fun γ w hw => WL.call rfl rfl rfl (dw_leafV w P) (fun v w' h => WL.nil (EX.mm rfl h.2 h.1))) ?_
      refine ML.fc (fun v γ w => GL w2.heap.size w v (notL (leafL P))) rfl rfl rfl (fun v γ γ' w w' h e _ => h.ext e) (fun γ w hw => WL.call rfl rfl rfl (dw_notG w (Nat.le_trans hB hw.size) (gleaf _ _ _)) (fun v w' h => WL.nil (EX.mm rfl h.2 h.1))) ?_
      refine ML.fc (fun v γ w => GL w2.heap.size w v (alwL (notL (leafL P)))) rfl rfl rfl (fun v γ γ' w w' h e _ => h.ext e) (fun γ w hw v33 g33 => WL.call rfl rfl rfl (dw_alwaysG w (Nat.le_trans hB hw.size) g33) (fun v w' h => WL.nil (EX.mm rfl h.2 h.1))) ?_
      refine ML.fc (fun v γ w => GL w2.heap.size w v (orL (untL (notL (leafL P)) (leafL S)) (alwL (notL (leafL P))))) rfl rfl rfl (fun v γ γ' w w' h e _ => h.ext e) (fun γ w hw v29 g29 v34 g34 => WL.call rfl rfl rfl (dw_orG w (Nat.le_trans hB hw.size) g29 g34) (fun v w' h => WL.nil (EX.mm rfl h.2 h.1))) ?_
      refine ML.nil fun γ w' hw' v35 g35 v34 g34 v33 g33 v29 g29 v25 g25 => ?_
      change WL _ _ _ _ _ _ _
      have ht := ht.ext hw'
      have hr := hr.ext hw'
      have hE := hE.trans hw'
      have hB := Nat.le_trans hB hw'.size
      obtain ⟨uo, uc, rfl, hku⟩ := Rd.ltl g35
      refine WL.st rfl rfl rfl hr rfl rfl (ones_of rfl) (fun z hz hgz => WL.nil (EX.tailE ?_))
      (repeat (first | (apply EX.thenN) | (apply CW.ret) | (apply EX.thenR) | (apply EX.inR)))
      exact EX.retC rfl rfl hz rfl ⟨(g35.st hgz (by omega)).low (by omega), ret_size hE hgz (by omega)⟩
    by_cases h6 : k = 6
    · subst h6
      rw [if_neg (by decide), if_neg (by decide), if_neg (by decide), if_pos rfl]
      have ed := Ext.drew w2
      have ht := ht.ext ed
      have hr := hr.ext ed
      have hE := hE.trans ed
      have hB : w2.heap.size ≤ (drew w2).heap.size := Nat.le_trans hB ed.size
      (repeat (first | (apply WL.pure; rfl; rfl; rfl) | (apply WL.nil) | (apply EX.thenN) | (apply CW.seq) | (apply CW.region) | (apply CW.condT; rfl) | (apply CW.condF; rfl)))
      refine CW.drawM 10 mixed (by kernel_rfl) ?_
      (repeat (first | (refine ML.q rfl rfl rfl (fun γ' w' hw' => WL.fa rfl rfl rfl (WL.nil (EX.mm rfl (Ext.refl _) rfl))) ?_) | (apply ML.q; rfl; rfl; rfl; (intro γ' w' hw'; apply WL.ld; rfl; rfl; rfl; apply Blk.ext; assumption; exact hw'; rfl; exact WL.nil (EX.mm rfl (Ext.refl _) rfl)))))
      refine ML.q rfl rfl rfl (fun γ w hw => WL.call rfl rfl rfl (dw_leafV w P) (fun v w' h => WL.nil (EX.mm rfl h.2 h.1))) ?_
      refine ML.fc (fun v γ w => GL w2.heap.size w v (notL (leafL P))) rfl rfl rfl (fun v γ γ' w w' h e _ => h.ext e) (fun γ w hw => WL.call rfl rfl rfl (dw_notG w (Nat.le_trans hB hw.size) (gleaf _ _ _)) (fun v w' h => WL.nil (EX.mm rfl h.2 h.1))) ?_
      (repeat (first | (refine ML.q rfl rfl rfl (fun γ' w' hw' => WL.fa rfl rfl rfl (WL.nil (EX.mm rfl (Ext.refl _) rfl))) ?_) | (apply ML.q; rfl; rfl; rfl; (intro γ' w' hw'; apply WL.ld; rfl; rfl; rfl; apply Blk.ext; assumption; exact hw'; rfl; exact WL.nil (EX.mm rfl (Ext.refl _) rfl)))))
      refine ML.q rfl rfl rfl (fun γ w hw => WL.call rfl rfl rfl (dw_leafV w S) (fun v w' h => WL.nil (EX.mm rfl h.2 h.1))) ?_
      refine ML.fc (fun v γ w => GL w2.heap.size w v (finL (leafL S))) rfl rfl rfl (fun v γ γ' w w' h e _ => h.ext e) (fun γ w hw => WL.call rfl rfl rfl (dw_oneG w (Nat.le_trans hB hw.size) 10 (gleaf _ _ _)) (fun v w' h => WL.nil (EX.mm rfl h.2 h.1))) ?_
      refine ML.fc (fun v γ w => GL w2.heap.size w v (orL (notL (leafL P)) (finL (leafL S)))) rfl rfl rfl (fun v γ γ' w w' h e _ => h.ext e) (fun γ w hw v41 g41 v45 g45 => WL.call rfl rfl rfl (dw_orG w (Nat.le_trans hB hw.size) g41 g45) (fun v w' h => WL.nil (EX.mm rfl h.2 h.1))) ?_
      refine ML.fc (fun v γ w => GL w2.heap.size w v (alwL (orL (notL (leafL P)) (finL (leafL S))))) rfl rfl rfl (fun v γ γ' w w' h e _ => h.ext e) (fun γ w hw v46 g46 => WL.call rfl rfl rfl (dw_alwaysG w (Nat.le_trans hB hw.size) g46) (fun v w' h => WL.nil (EX.mm rfl h.2 h.1))) ?_
      refine ML.nil fun γ w' hw' v47 g47 v46 g46 v45 g45 v41 g41 => ?_
      change WL _ _ _ _ _ _ _
      have ht := ht.ext hw'
      have hr := hr.ext hw'
      have hE := hE.trans hw'
      have hB := Nat.le_trans hB hw'.size
      obtain ⟨uo, uc, rfl, hku⟩ := Rd.ltl g47
      refine WL.st rfl rfl rfl hr rfl rfl (ones_of rfl) (fun z hz hgz => WL.nil (EX.tailE ?_))
      (repeat (first | (apply EX.thenN) | (apply CW.ret) | (apply EX.thenR) | (apply EX.inR)))
      exact EX.retC rfl rfl hz rfl ⟨(g47.st hgz (by omega)).low (by omega), ret_size hE hgz (by omega)⟩
    rw [if_neg h2, if_neg h3, if_neg h5, if_neg h6]
    rw [show (k == 2) = false by simpa using h2]
    (repeat (first | (apply WL.pure; rfl; rfl; rfl) | (apply WL.nil) | (apply EX.thenN) | (apply CW.seq) | (apply CW.region) | (apply CW.condF; rfl)))
    rw [show (k == 3) = false by simpa using h3]
    (repeat (first | (apply WL.pure; rfl; rfl; rfl) | (apply WL.nil) | (apply EX.thenN) | (apply CW.seq) | (apply CW.region) | (apply CW.condF; rfl)))
    rw [show (k == 5) = false by simpa using h5]
    (repeat (first | (apply WL.pure; rfl; rfl; rfl) | (apply WL.nil) | (apply EX.thenN) | (apply CW.seq) | (apply CW.region) | (apply CW.condF; rfl)))
    rw [show (k == 6) = false by simpa using h6]
    (repeat (first | (apply WL.pure; rfl; rfl; rfl) | (apply WL.nil) | (apply EX.thenN) | (apply CW.seq) | (apply CW.region) | (apply CW.condF; rfl)))
    by_cases h4 : k = 4
    · subst h4
      rw [if_pos rfl]
      (repeat (first | (apply WL.pure; rfl; rfl; rfl) | (apply WL.nil) | (apply EX.thenN) | (apply CW.seq) | (apply CW.region) | (apply WL.fa; rfl; rfl; rfl) | (apply WL.ld; rfl; rfl; rfl; assumption; rfl) | (apply EX.inN) | (apply CW.condT; rfl) | (apply CW.condF; rfl) | (apply CW.skip)))
      unfold boundG
      skip
      skip
      refine WL.call rfl rfl rfl (dw_leafV w2 P) ?_
      rintro _ y1 ⟨rfl, ey1⟩
      have ht := ht.ext ey1
      have hr := hr.ext ey1
      have hE := hE.trans ey1
      have hB := Nat.le_trans hB ey1.size
      refine WL.call rfl rfl rfl (dw_notG y1 hB (gleaf _ _ _)) ?_
      rintro v76 y2 ⟨g76, ey2⟩
      have ht := ht.ext ey2
      have hr := hr.ext ey2
      have hE := hE.trans ey2
      have hB := Nat.le_trans hB ey2.size
      refine WL.call rfl rfl rfl (dw_alwaysG y2 hB g76) ?_
      rintro v77 y3 ⟨g77, ey3⟩
      have g76 := g76.ext ey3
      have ht := ht.ext ey3
      have hr := hr.ext ey3
      have hE := hE.trans ey3
      have hB := Nat.le_trans hB ey3.size
      obtain ⟨uo, uc, rfl, hku⟩ := Rd.ltl g77
      skip
      refine WL.st rfl rfl rfl hr rfl rfl (ones_of rfl) (fun z hz hgz => ?_)
      (repeat (first | (apply WL.nil) | (apply EX.thenN) | (apply CW.ret)))
      exact EX.retC rfl rfl hz rfl ⟨(g77.st hgz (by omega)).low (by omega), ret_size hE hgz (by omega)⟩
    rw [if_neg h4]
    rw [show (k == 4) = false by simpa using h4]
    (repeat (first | (apply EX.thenN) | (apply CW.seq) | (apply CW.region) | (apply WL.fa; rfl; rfl; rfl) | (apply WL.ld; rfl; rfl; rfl; assumption; rfl) | (apply EX.inN) | (apply CW.condF; rfl) | (apply CW.skip)))
    skip
    skip
    refine WL.call rfl rfl rfl (dw_leafV w2 P) ?_
    rintro _ y1 ⟨rfl, ey1⟩
    have ht := ht.ext ey1
    have hr := hr.ext ey1
    have hE := hE.trans ey1
    have hB := Nat.le_trans hB ey1.size
    refine WL.call rfl rfl rfl (dw_notG y1 hB (gleaf _ _ _)) ?_
    rintro v76 y2 ⟨g76, ey2⟩
    have ht := ht.ext ey2
    have hr := hr.ext ey2
    have hE := hE.trans ey2
    have hB := Nat.le_trans hB ey2.size
    refine WL.call rfl rfl rfl (dw_alwaysG y2 hB g76) ?_
    rintro v77 y3 ⟨g77, ey3⟩
    have g76 := g76.ext ey3
    have ht := ht.ext ey3
    have hr := hr.ext ey3
    have hE := hE.trans ey3
    have hB := Nat.le_trans hB ey3.size
    obtain ⟨uo, uc, rfl, hku⟩ := Rd.ltl g77
    skip
    refine WL.st rfl rfl rfl hr rfl rfl (ones_of rfl) (fun z hz hgz => ?_)
    (repeat (first | (apply WL.nil) | (apply EX.thenN) | (apply CW.ret)))
    exact EX.retC rfl rfl hz rfl ⟨(g77.st hgz (by omega)).low (by omega), ret_size hE hgz (by omega)⟩
  | succ n ih =>
    intro hn w
    have ih : ∀ w : World, Rt Try.prog 134 [.agg (patL k sc P S Q R c).toArray, .int .i64 (((n + 1 : Nat) : Int) - 1)].toArray w (Fresh w (globalF k P S n)) := by
      rw [show ((n + 1 : Nat) : Int) - 1 = (n : Int) by omega]; exact ih (by omega)
    refine Rt.enter2 Try.func134 Try.ntmps134 rfl rfl ?_
    (repeat (first | (apply CW.seq) | (apply CW.region)))
    refine WL.boxB rfl rfl rfl fun w1 ht e1 => ?_
    refine WL.alloc rfl rfl (fun w2 hr e2 => ?_)
    have ht := ht.ext e2
    have hE := e1.trans e2
    have hlr := hr.lt
    have hs1 := e1.size
    have hB : w2.heap.size ≤ w2.heap.size := Nat.le_refl _
    unfold globalF
    (repeat (first | (apply WL.pure; rfl; rfl; rfl) | (apply WL.nil) | (apply EX.thenN) | (apply CW.seq) | (apply CW.region) | (apply WL.fa; rfl; rfl; rfl) | (apply WL.ld; rfl; rfl; rfl; assumption; rfl) | (apply CW.block)))
    by_cases h2 : k = 2
    · subst h2
      rw [if_pos rfl]
      (repeat (first | (apply CW.seq) | (apply CW.region) | (apply WL.fa; rfl; rfl; rfl) | (apply WL.ld; rfl; rfl; rfl; assumption; rfl) | (apply CW.condT; rfl)))
      skip
      refine WL.call rfl rfl rfl (dw_leafV w2 P) ?_
      rintro _ y1 ⟨rfl, ey1⟩
      have ht := ht.ext ey1
      have hr := hr.ext ey1
      have hE := hE.trans ey1
      have hB := Nat.le_trans hB ey1.size
      refine WL.call rfl rfl rfl (dw_alwaysG y1 hB (gleaf _ _ _)) ?_
      rintro v13 y2 ⟨g13, ey2⟩
      have ht := ht.ext ey2
      have hr := hr.ext ey2
      have hE := hE.trans ey2
      have hB := Nat.le_trans hB ey2.size
      obtain ⟨uo, uc, rfl, hku⟩ := Rd.ltl g13
      skip
      refine WL.st rfl rfl rfl hr rfl rfl (ones_of rfl) (fun z hz hgz => ?_)
      (repeat (first | (apply WL.nil) | (apply EX.thenN) | (apply CW.ret) | (apply EX.thenR) | (apply EX.inR)))
      exact EX.retC rfl rfl hz rfl ⟨(g13.st hgz (by omega)).low (by omega), ret_size hE hgz (by omega)⟩
    by_cases h3 : k = 3
    · subst h3
      rw [if_neg (by decide), if_pos rfl]
      (repeat (first | (apply WL.pure; rfl; rfl; rfl) | (apply WL.nil) | (apply EX.thenN) | (apply CW.seq) | (apply CW.region) | (apply WL.fa; rfl; rfl; rfl) | (apply WL.ld; rfl; rfl; rfl; assumption; rfl) | (apply CW.condT; rfl) | (apply CW.condF; rfl)))
      skip
      refine WL.call rfl rfl rfl (dw_leafV w2 P) ?_
      rintro _ y1 ⟨rfl, ey1⟩
      have ht := ht.ext ey1
      have hr := hr.ext ey1
      have hE := hE.trans ey1
      have hB := Nat.le_trans hB ey1.size
      refine WL.call rfl rfl rfl (dw_oneG y1 hB 10 (gleaf _ _ _)) ?_
      rintro v19 y2 ⟨g19, ey2⟩
      have ht := ht.ext ey2
      have hr := hr.ext ey2
      have hE := hE.trans ey2
      have hB := Nat.le_trans hB ey2.size
      obtain ⟨uo, uc, rfl, hku⟩ := Rd.ltl g19
      skip
      refine WL.st rfl rfl rfl hr rfl rfl (ones_of rfl) (fun z hz hgz => ?_)
      (repeat (first | (apply WL.nil) | (apply EX.thenN) | (apply CW.ret) | (apply EX.thenR) | (apply EX.inR)))
      exact EX.retC rfl rfl hz rfl ⟨(g19.st hgz (by omega)).low (by omega), ret_size hE hgz (by omega)⟩
    by_cases h5 : k = 5
    · subst h5
      rw [if_neg (by decide), if_neg (by decide), if_pos rfl]
      have ed := Ext.drew w2
      have ht := ht.ext ed
      have hr := hr.ext ed
      have hE := hE.trans ed
      have hB : w2.heap.size ≤ (drew w2).heap.size := Nat.le_trans hB ed.size
      (repeat (first | (apply WL.pure; rfl; rfl; rfl) | (apply WL.nil) | (apply EX.thenN) | (apply CW.seq) | (apply CW.region) | (apply CW.condT; rfl) | (apply CW.condF; rfl)))
      refine CW.drawM 14 mixed (by kernel_rfl) ?_
      (repeat (first | (refine ML.q rfl rfl rfl (fun γ' w' hw' => WL.fa rfl rfl rfl (WL.nil (EX.mm rfl (Ext.refl _) rfl))) ?_) | (apply ML.q; rfl; rfl; rfl; (intro γ' w' hw'; apply WL.ld; rfl; rfl; rfl; apply Blk.ext; assumption; exact hw'; rfl; exact WL.nil (EX.mm rfl (Ext.refl _) rfl)))))
      refine ML.q rfl rfl rfl (fun γ w hw => WL.call rfl rfl rfl (dw_leafV w P) (fun v w' h => WL.nil (EX.mm rfl h.2 h.1))) ?_
      refine ML.fc (fun v γ w => GL w2.heap.size w v (notL (leafL P))) rfl rfl rfl (fun v γ γ' w w' h e _ => h.ext e) (fun γ w hw => WL.call rfl rfl rfl (dw_notG w (Nat.le_trans hB hw.size) (gleaf _ _ _)) (fun v w' h => WL.nil (EX.mm rfl h.2 h.1))) ?_
      (repeat (first | (refine ML.q rfl rfl rfl (fun γ' w' hw' => WL.fa rfl rfl rfl (WL.nil (EX.mm rfl (Ext.refl _) rfl))) ?_) | (apply ML.q; rfl; rfl; rfl; (intro γ' w' hw'; apply WL.ld; rfl; rfl; rfl; apply Blk.ext; assumption; exact hw'; rfl; exact WL.nil (EX.mm rfl (Ext.refl _) rfl)))))
      refine ML.q rfl rfl rfl (fun γ w hw => WL.call rfl rfl rfl (dw_leafV w S) (fun v w' h => WL.nil (EX.mm rfl h.2 h.1))) ?_
      refine ML.fc (fun v γ w => GL w2.heap.size w v (untL (notL (leafL P)) (leafL S))) rfl rfl rfl (fun v γ γ' w w' h e _ => h.ext e) (fun γ w hw v25 g25 => WL.call rfl rfl rfl (dw_untilG w (Nat.le_trans hB hw.size) g25 (gleaf _ _ _)) (fun v w' h => WL.nil (EX.mm rfl h.2 h.1))) ?_
      (repeat (first | (refine ML.q rfl rfl rfl (fun γ' w' hw' => WL.fa rfl rfl rfl (WL.nil (EX.mm rfl (Ext.refl _) rfl))) ?_) | (apply ML.q; rfl; rfl; rfl; (intro γ' w' hw'; apply WL.ld; rfl; rfl; rfl; apply Blk.ext; assumption; exact hw'; rfl; exact WL.nil (EX.mm rfl (Ext.refl _) rfl)))))
      refine ML.q rfl rfl rfl (fun γ w hw => WL.call rfl rfl rfl (dw_leafV w P) (fun v w' h => WL.nil (EX.mm rfl h.2 h.1))) ?_
      refine ML.fc (fun v γ w => GL w2.heap.size w v (notL (leafL P))) rfl rfl rfl (fun v γ γ' w w' h e _ => h.ext e) (fun γ w hw => WL.call rfl rfl rfl (dw_notG w (Nat.le_trans hB hw.size) (gleaf _ _ _)) (fun v w' h => WL.nil (EX.mm rfl h.2 h.1))) ?_
      refine ML.fc (fun v γ w => GL w2.heap.size w v (alwL (notL (leafL P)))) rfl rfl rfl (fun v γ γ' w w' h e _ => h.ext e) (fun γ w hw v33 g33 => WL.call rfl rfl rfl (dw_alwaysG w (Nat.le_trans hB hw.size) g33) (fun v w' h => WL.nil (EX.mm rfl h.2 h.1))) ?_
      refine ML.fc (fun v γ w => GL w2.heap.size w v (orL (untL (notL (leafL P)) (leafL S)) (alwL (notL (leafL P))))) rfl rfl rfl (fun v γ γ' w w' h e _ => h.ext e) (fun γ w hw v29 g29 v34 g34 => WL.call rfl rfl rfl (dw_orG w (Nat.le_trans hB hw.size) g29 g34) (fun v w' h => WL.nil (EX.mm rfl h.2 h.1))) ?_
      refine ML.nil fun γ w' hw' v35 g35 v34 g34 v33 g33 v29 g29 v25 g25 => ?_
      change WL _ _ _ _ _ _ _
      have ht := ht.ext hw'
      have hr := hr.ext hw'
      have hE := hE.trans hw'
      have hB := Nat.le_trans hB hw'.size
      obtain ⟨uo, uc, rfl, hku⟩ := Rd.ltl g35
      refine WL.st rfl rfl rfl hr rfl rfl (ones_of rfl) (fun z hz hgz => WL.nil (EX.tailE ?_))
      (repeat (first | (apply EX.thenN) | (apply CW.ret) | (apply EX.thenR) | (apply EX.inR)))
      exact EX.retC rfl rfl hz rfl ⟨(g35.st hgz (by omega)).low (by omega), ret_size hE hgz (by omega)⟩
    by_cases h6 : k = 6
    · subst h6
      rw [if_neg (by decide), if_neg (by decide), if_neg (by decide), if_pos rfl]
      have ed := Ext.drew w2
      have ht := ht.ext ed
      have hr := hr.ext ed
      have hE := hE.trans ed
      have hB : w2.heap.size ≤ (drew w2).heap.size := Nat.le_trans hB ed.size
      (repeat (first | (apply WL.pure; rfl; rfl; rfl) | (apply WL.nil) | (apply EX.thenN) | (apply CW.seq) | (apply CW.region) | (apply CW.condT; rfl) | (apply CW.condF; rfl)))
      refine CW.drawM 10 mixed (by kernel_rfl) ?_
      (repeat (first | (refine ML.q rfl rfl rfl (fun γ' w' hw' => WL.fa rfl rfl rfl (WL.nil (EX.mm rfl (Ext.refl _) rfl))) ?_) | (apply ML.q; rfl; rfl; rfl; (intro γ' w' hw'; apply WL.ld; rfl; rfl; rfl; apply Blk.ext; assumption; exact hw'; rfl; exact WL.nil (EX.mm rfl (Ext.refl _) rfl)))))
      refine ML.q rfl rfl rfl (fun γ w hw => WL.call rfl rfl rfl (dw_leafV w P) (fun v w' h => WL.nil (EX.mm rfl h.2 h.1))) ?_
      refine ML.fc (fun v γ w => GL w2.heap.size w v (notL (leafL P))) rfl rfl rfl (fun v γ γ' w w' h e _ => h.ext e) (fun γ w hw => WL.call rfl rfl rfl (dw_notG w (Nat.le_trans hB hw.size) (gleaf _ _ _)) (fun v w' h => WL.nil (EX.mm rfl h.2 h.1))) ?_
      (repeat (first | (refine ML.q rfl rfl rfl (fun γ' w' hw' => WL.fa rfl rfl rfl (WL.nil (EX.mm rfl (Ext.refl _) rfl))) ?_) | (apply ML.q; rfl; rfl; rfl; (intro γ' w' hw'; apply WL.ld; rfl; rfl; rfl; apply Blk.ext; assumption; exact hw'; rfl; exact WL.nil (EX.mm rfl (Ext.refl _) rfl)))))
      refine ML.q rfl rfl rfl (fun γ w hw => WL.call rfl rfl rfl (dw_leafV w S) (fun v w' h => WL.nil (EX.mm rfl h.2 h.1))) ?_
      refine ML.fc (fun v γ w => GL w2.heap.size w v (finL (leafL S))) rfl rfl rfl (fun v γ γ' w w' h e _ => h.ext e) (fun γ w hw => WL.call rfl rfl rfl (dw_oneG w (Nat.le_trans hB hw.size) 10 (gleaf _ _ _)) (fun v w' h => WL.nil (EX.mm rfl h.2 h.1))) ?_
      refine ML.fc (fun v γ w => GL w2.heap.size w v (orL (notL (leafL P)) (finL (leafL S)))) rfl rfl rfl (fun v γ γ' w w' h e _ => h.ext e) (fun γ w hw v41 g41 v45 g45 => WL.call rfl rfl rfl (dw_orG w (Nat.le_trans hB hw.size) g41 g45) (fun v w' h => WL.nil (EX.mm rfl h.2 h.1))) ?_
      refine ML.fc (fun v γ w => GL w2.heap.size w v (alwL (orL (notL (leafL P)) (finL (leafL S))))) rfl rfl rfl (fun v γ γ' w w' h e _ => h.ext e) (fun γ w hw v46 g46 => WL.call rfl rfl rfl (dw_alwaysG w (Nat.le_trans hB hw.size) g46) (fun v w' h => WL.nil (EX.mm rfl h.2 h.1))) ?_
      refine ML.nil fun γ w' hw' v47 g47 v46 g46 v45 g45 v41 g41 => ?_
      change WL _ _ _ _ _ _ _
      have ht := ht.ext hw'
      have hr := hr.ext hw'
      have hE := hE.trans hw'
      have hB := Nat.le_trans hB hw'.size
      obtain ⟨uo, uc, rfl, hku⟩ := Rd.ltl g47
      refine WL.st rfl rfl rfl hr rfl rfl (ones_of rfl) (fun z hz hgz => WL.nil (EX.tailE ?_))
      (repeat (first | (apply EX.thenN) | (apply CW.ret) | (apply EX.thenR) | (apply EX.inR)))
      exact EX.retC rfl rfl hz rfl ⟨(g47.st hgz (by omega)).low (by omega), ret_size hE hgz (by omega)⟩
    rw [if_neg h2, if_neg h3, if_neg h5, if_neg h6]
    rw [show (k == 2) = false by simpa using h2]
    (repeat (first | (apply WL.pure; rfl; rfl; rfl) | (apply WL.nil) | (apply EX.thenN) | (apply CW.seq) | (apply CW.region) | (apply CW.condF; rfl)))
    rw [show (k == 3) = false by simpa using h3]
    (repeat (first | (apply WL.pure; rfl; rfl; rfl) | (apply WL.nil) | (apply EX.thenN) | (apply CW.seq) | (apply CW.region) | (apply CW.condF; rfl)))
    rw [show (k == 5) = false by simpa using h5]
    (repeat (first | (apply WL.pure; rfl; rfl; rfl) | (apply WL.nil) | (apply EX.thenN) | (apply CW.seq) | (apply CW.region) | (apply CW.condF; rfl)))
    rw [show (k == 6) = false by simpa using h6]
    (repeat (first | (apply WL.pure; rfl; rfl; rfl) | (apply WL.nil) | (apply EX.thenN) | (apply CW.seq) | (apply CW.region) | (apply CW.condF; rfl)))
    by_cases h4 : k = 4
    · subst h4
      rw [if_pos rfl]
      (repeat (first | (apply WL.pure; rfl; rfl; rfl) | (apply WL.nil) | (apply EX.thenN) | (apply CW.seq) | (apply CW.region) | (apply CW.condT; rfl)))
      rw [decide_eq_true (show ((n + 1 : Nat) : Int) > 0 by omega)]
      (repeat (first | (apply CW.seq) | (apply CW.condT; rfl)))
      have ed := Ext.drew w2
      have ht := ht.ext ed
      have hr := hr.ext ed
      have hE := hE.trans ed
      have hB : w2.heap.size ≤ (drew w2).heap.size := Nat.le_trans hB ed.size
      skip
      refine CW.drawM 10 mixed (by kernel_rfl) ?_
      (repeat (first | (refine ML.q rfl rfl rfl (fun γ' w' hw' => WL.fa rfl rfl rfl (WL.nil (EX.mm rfl (Ext.refl _) rfl))) ?_) | (apply ML.q; rfl; rfl; rfl; (intro γ' w' hw'; apply WL.ld; rfl; rfl; rfl; apply Blk.ext; assumption; exact hw'; rfl; exact WL.nil (EX.mm rfl (Ext.refl _) rfl)))))
      refine ML.q rfl rfl rfl (fun γ w hw => WL.call rfl rfl rfl (dw_leafV w P) (fun v w' h => WL.nil (EX.mm rfl h.2 h.1))) ?_
      (repeat (first | (apply ML.q; rfl; rfl; rfl; (intro γ' w' hw'; apply WL.sub'; rfl; rfl; rfl; rfl; omega; omega; exact WL.nil (EX.mm rfl (Ext.refl _) rfl))) | (refine ML.q rfl rfl rfl (fun γ' w' hw' => WL.pure rfl rfl rfl (WL.nil (EX.mm rfl (Ext.refl _) rfl))) ?_) | (apply ML.q; rfl; rfl; rfl; (intro γ' w' hw'; apply WL.ldA; rfl; rfl; rfl; apply Blk.ext; assumption; exact hw'; rfl; exact WL.nil (EX.mm rfl (Ext.refl _) rfl)))))
      refine ML.fc (fun v γ w => Rd w (FM w2.heap.size 8 γ w) v (globalF 4 P S n)) rfl rfl rfl stF (fun γ w hw => WL.call rfl rfl rfl (FM.fresh (i := 6) (by omega) (Nat.le_trans hB hw.size) ((ih w))) (fun v w' h => WL.nil (EX.mm rfl h.2 h.1))) ?_
      refine ML.fc (fun v γ w => Rd w (FM w2.heap.size 8 γ w) v (nextF (globalF 4 P S n))) rfl rfl rfl stF (fun γ w hw v58 g58 => WL.call rfl rfl rfl (FM.call (i := 7) (by omega) (Nat.le_trans hB hw.size) (dw_one w FM.lt 7 g58)) (fun v w' h => WL.nil (EX.mm rfl h.2 h.1))) ?_
      refine ML.fc (fun v γ w => Rd w (FM w2.heap.size 8 γ w) v (andL (leafL P) (nextF (globalF 4 P S n)))) rfl rfl rfl stF (fun γ w hw v59 g59 => WL.call rfl rfl rfl (FM.call (i := 8) (by omega) (Nat.le_trans hB hw.size) (dw_and w FM.lt (rleaf _ _ _) g59)) (fun v w' h => WL.nil (EX.mm rfl h.2 h.1))) ?_
      refine ML.fc (fun v γ w => ∃ b, v = .pointer (some ⟨b, 0, none⟩) ∧ γ b = 9 ∧ w2.heap.size ≤ b ∧ Blk w b 56 [.int .i64 0, .int .i64 0, .slice none 0 0]) rfl rfl rfl stA (fun γ w hw => WL.alloc rfl rfl (fun w' hb e => WL.nil (EX.mm rfl e ⟨_, rfl, byM_new, Nat.le_trans hB hw.size, hb⟩))) ?_
      refine ML.nil fun γ w' hw' v5 g5 v60 g60 v59 g59 v58 g58 => ?_
      change WL _ _ _ _ _ _ _
      have ht := ht.ext hw'
      have hr := hr.ext hw'
      have hE := hE.trans hw'
      have hB := Nat.le_trans hB hw'.size
      obtain ⟨b, rfl, hγ, hBb, hb5⟩ := g5
      obtain ⟨uo, uc, rfl, hku⟩ := Rd.ltl g60
      refine WL.st rfl rfl rfl hb5 rfl rfl (ones_of rfl) (fun w3 hb5 hg3 => WL.nil (EX.tailE ?_))
      have hv := FM.st g60 (b := b) (by rw [hγ]; decide) hg3
      have hlb := hb5.lt
      have hr := hr.kept hg3 (fun e => by have := Option.some.inj e; omega)
      have ht := ht.kept hg3 (fun e => by have := Option.some.inj e; omega)
      have hE : Ext w w3 := hE.grown hg3 hE.size (fun g hg => by cases hg; omega)
      have hB := Nat.le_trans hB hg3.size
      clear hw' g58 g59 hg3 g60 hku
      have ed := Ext.drew w3
      have ht := ht.ext ed
      have hr := hr.ext ed
      have hb5 := hb5.ext ed
      have hv := hv.ext ed
      have hE := hE.trans ed
      have hB : w2.heap.size ≤ (drew w3).heap.size := Nat.le_trans hB ed.size
      (repeat (first | (apply EX.thenN) | (apply CW.seq)))
      refine CW.drawM 12 mixed (by kernel_rfl) ?_
      (repeat (first | (refine ML.q rfl rfl rfl (fun γ' w' hw' => WL.fa rfl rfl rfl (WL.nil (EX.mm rfl (Ext.refl _) rfl))) ?_) | (apply ML.q; rfl; rfl; rfl; (intro γ' w' hw'; apply WL.ld; rfl; rfl; rfl; apply Blk.ext; assumption; exact hw'; rfl; exact WL.nil (EX.mm rfl (Ext.refl _) rfl)))))
      refine ML.q rfl rfl rfl (fun γ w hw => WL.call rfl rfl rfl (dw_leafV w P) (fun v w' h => WL.nil (EX.mm rfl h.2 h.1))) ?_
      refine ML.fc (fun v γ w => GL w2.heap.size w v (notL (leafL P))) rfl rfl rfl (fun v γ γ' w w' h e _ => h.ext e) (fun γ w hw => WL.call rfl rfl rfl (dw_notG w (Nat.le_trans hB hw.size) (gleaf _ _ _)) (fun v w' h => WL.nil (EX.mm rfl h.2 h.1))) ?_
      (repeat (apply ML.q; rfl; rfl; rfl; (intro γ' w' hw'; apply WL.ldA; rfl; rfl; rfl; apply Blk.ext; assumption; exact hw'; rfl; exact WL.nil (EX.mm rfl (Ext.refl _) rfl))))
      refine ML.fc (fun v γ w => GL w2.heap.size w v (untL (notL (leafL P)) (andL (leafL P) (nextF (globalF 4 P S n))))) rfl rfl rfl (fun v γ γ' w w' h e _ => h.ext e) (fun γ w hw v64 g64 => WL.call rfl rfl rfl (dw_untilG w (Nat.le_trans hB hw.size) g64 (hv.ext hw)) (fun v w' h => WL.nil (EX.mm rfl h.2 h.1))) ?_
      (repeat (first | (refine ML.q rfl rfl rfl (fun γ' w' hw' => WL.fa rfl rfl rfl (WL.nil (EX.mm rfl (Ext.refl _) rfl))) ?_) | (apply ML.q; rfl; rfl; rfl; (intro γ' w' hw'; apply WL.ld; rfl; rfl; rfl; apply Blk.ext; assumption; exact hw'; rfl; exact WL.nil (EX.mm rfl (Ext.refl _) rfl)))))
      refine ML.q rfl rfl rfl (fun γ w hw => WL.call rfl rfl rfl (dw_leafV w P) (fun v w' h => WL.nil (EX.mm rfl h.2 h.1))) ?_
      refine ML.fc (fun v γ w => GL w2.heap.size w v (notL (leafL P))) rfl rfl rfl (fun v γ γ' w w' h e _ => h.ext e) (fun γ w hw => WL.call rfl rfl rfl (dw_notG w (Nat.le_trans hB hw.size) (gleaf _ _ _)) (fun v w' h => WL.nil (EX.mm rfl h.2 h.1))) ?_
      refine ML.fc (fun v γ w => GL w2.heap.size w v (alwL (notL (leafL P)))) rfl rfl rfl (fun v γ γ' w w' h e _ => h.ext e) (fun γ w hw v70 g70 => WL.call rfl rfl rfl (dw_alwaysG w (Nat.le_trans hB hw.size) g70) (fun v w' h => WL.nil (EX.mm rfl h.2 h.1))) ?_
      refine ML.fc (fun v γ w => GL w2.heap.size w v (orL (untL (notL (leafL P)) (andL (leafL P) (nextF (globalF 4 P S n)))) (alwL (notL (leafL P))))) rfl rfl rfl (fun v γ γ' w w' h e _ => h.ext e) (fun γ w hw v66 g66 v71 g71 => WL.call rfl rfl rfl (dw_orG w (Nat.le_trans hB hw.size) g66 g71) (fun v w' h => WL.nil (EX.mm rfl h.2 h.1))) ?_
      refine ML.nil fun γ w' hw' v72 g72 v71 g71 v70 g70 v66 g66 v64 g64 => ?_
      change WL _ _ _ _ _ _ _
      have ht := ht.ext hw'
      have hr := hr.ext hw'
      have hb5 := hb5.ext hw'
      have hv := hv.ext hw'
      have hE := hE.trans hw'
      have hB := Nat.le_trans hB hw'.size
      obtain ⟨uo, uc, rfl, hku⟩ := Rd.ltl g72
      refine WL.st rfl rfl rfl hr rfl rfl (ones_of rfl) (fun z hz hgz => WL.nil (EX.tailE ?_))
      (repeat (first | (apply EX.thenN) | (apply CW.ret) | (apply EX.thenR) | (apply EX.inR)))
      have hfin := (g72.st hgz (by omega)).low (show w.heap.size ≤ w2.heap.size by omega)
      rw [show globalF 4 P S n = boundG P n by unfold globalF; rw [if_neg (by decide), if_neg (by decide), if_neg (by decide), if_neg (by decide), if_pos rfl]] at hfin
      exact EX.retC rfl rfl hz rfl ⟨hfin, ret_size hE hgz (by omega)⟩
    rw [if_neg h4]
    rw [show (k == 4) = false by simpa using h4]
    (repeat (first | (apply EX.thenN) | (apply CW.seq) | (apply CW.region) | (apply WL.fa; rfl; rfl; rfl) | (apply WL.ld; rfl; rfl; rfl; assumption; rfl) | (apply EX.inN) | (apply CW.condF; rfl) | (apply CW.skip)))
    skip
    skip
    refine WL.call rfl rfl rfl (dw_leafV w2 P) ?_
    rintro _ y1 ⟨rfl, ey1⟩
    have ht := ht.ext ey1
    have hr := hr.ext ey1
    have hE := hE.trans ey1
    have hB := Nat.le_trans hB ey1.size
    refine WL.call rfl rfl rfl (dw_notG y1 hB (gleaf _ _ _)) ?_
    rintro v76 y2 ⟨g76, ey2⟩
    have ht := ht.ext ey2
    have hr := hr.ext ey2
    have hE := hE.trans ey2
    have hB := Nat.le_trans hB ey2.size
    refine WL.call rfl rfl rfl (dw_alwaysG y2 hB g76) ?_
    rintro v77 y3 ⟨g77, ey3⟩
    have g76 := g76.ext ey3
    have ht := ht.ext ey3
    have hr := hr.ext ey3
    have hE := hE.trans ey3
    have hB := Nat.le_trans hB ey3.size
    obtain ⟨uo, uc, rfl, hku⟩ := Rd.ltl g77
    skip
    refine WL.st rfl rfl rfl hr rfl rfl (ones_of rfl) (fun z hz hgz => ?_)
    (repeat (first | (apply WL.nil) | (apply EX.thenN) | (apply CW.ret)))
    exact EX.retC rfl rfl hz rfl ⟨(g77.st hgz (by omega)).low (by omega), ret_size hE hgz (by omega)⟩
theorem weakly_ok (w : World) (weak : Bool) {fa fb : Value} {ta tb : Ltl} (ha : ∀ w1, Ext w w1 → FnV Try.prog fa [] w1 (Fresh w1 ta)) (hb : ∀ w1, Ext w w1 → FnV Try.prog fb [] w1 (Fresh w1 tb)) :
    Rt Try.prog 164 [.bool weak, fa, fb].toArray w (Fresh w (weakF weak ta tb)) := by
  refine Rt.enter3 Try.func164 Try.ntmps164 rfl rfl ?_
  (repeat (first | (apply CW.seq) | (apply CW.region)))
  refine WL.alloc rfl rfl (fun w1 hr e1 => ?_)
  have hE := e1
  have hlr := hr.lt
  have hs1 := e1.size
  have hB : w1.heap.size ≤ w1.heap.size := Nat.le_refl _
  unfold weakF
  (repeat (first | (apply WL.pure; rfl; rfl; rfl) | (apply WL.nil) | (apply EX.thenN) | (apply CW.seq) | (apply CW.region)))
  cases weak with
  | true =>
    rw [if_pos rfl]
    (repeat (first | (apply WL.pure; rfl; rfl; rfl) | (apply CW.seq) | (apply CW.region) | (apply CW.condT; rfl)))
    skip
    refine WL.callF (xs := []) (vs := []) rfl rfl rfl rfl ((ha w1 hE).low hB) ?_
    rintro v9 y1 ⟨g9, ey1⟩
    have hr := hr.ext ey1
    have hE := hE.trans ey1
    have hB := Nat.le_trans hB ey1.size
    (repeat (apply WL.pure; rfl; rfl; rfl))
    refine WL.callF (xs := []) (vs := []) rfl rfl rfl rfl ((hb y1 hE).low hB) ?_
    rintro v11 y2 ⟨g11, ey2⟩
    have g9 := g9.ext ey2
    have hr := hr.ext ey2
    have hE := hE.trans ey2
    have hB := Nat.le_trans hB ey2.size
    refine WL.call rfl rfl rfl (dw_untilG y2 hB g9 g11) ?_
    rintro v12 y3 ⟨g12, ey3⟩
    have g9 := g9.ext ey3
    have g11 := g11.ext ey3
    have hr := hr.ext ey3
    have hE := hE.trans ey3
    have hB := Nat.le_trans hB ey3.size
    (repeat (apply WL.pure; rfl; rfl; rfl))
    refine WL.callF (xs := []) (vs := []) rfl rfl rfl rfl ((ha y3 hE).low hB) ?_
    rintro v14 y4 ⟨g14, ey4⟩
    have g9 := g9.ext ey4
    have g11 := g11.ext ey4
    have g12 := g12.ext ey4
    have hr := hr.ext ey4
    have hE := hE.trans ey4
    have hB := Nat.le_trans hB ey4.size
    refine WL.call rfl rfl rfl (dw_alwaysG y4 hB g14) ?_
    rintro v15 y5 ⟨g15, ey5⟩
    have g9 := g9.ext ey5
    have g11 := g11.ext ey5
    have g12 := g12.ext ey5
    have g14 := g14.ext ey5
    have hr := hr.ext ey5
    have hE := hE.trans ey5
    have hB := Nat.le_trans hB ey5.size
    refine WL.call rfl rfl rfl (dw_orG y5 hB g12 g15) ?_
    rintro v16 y6 ⟨g16, ey6⟩
    have g9 := g9.ext ey6
    have g11 := g11.ext ey6
    have g12 := g12.ext ey6
    have g14 := g14.ext ey6
    have g15 := g15.ext ey6
    have hr := hr.ext ey6
    have hE := hE.trans ey6
    have hB := Nat.le_trans hB ey6.size
    obtain ⟨uo, uc, rfl, hku⟩ := Rd.ltl g16
    skip
    refine WL.st rfl rfl rfl hr rfl rfl (ones_of rfl) (fun z hz hgz => ?_)
    (repeat (first | (apply WL.nil) | (apply EX.thenN) | (apply CW.ret) | (apply EX.thenR)))
    exact EX.retC rfl rfl hz rfl ⟨(g16.st hgz (by omega)).low (by omega), ret_size hE hgz (by omega)⟩
  | false =>
    rw [if_neg (by decide)]
    (repeat (first | (apply WL.pure; rfl; rfl; rfl) | (apply EX.thenN) | (apply CW.seq) | (apply CW.region) | (apply CW.condF; rfl) | (apply CW.skip)))
    skip
    refine WL.callF (xs := []) (vs := []) rfl rfl rfl rfl ((ha w1 hE).low hB) ?_
    rintro v18 y1 ⟨g18, ey1⟩
    have hr := hr.ext ey1
    have hE := hE.trans ey1
    have hB := Nat.le_trans hB ey1.size
    (repeat (apply WL.pure; rfl; rfl; rfl))
    refine WL.callF (xs := []) (vs := []) rfl rfl rfl rfl ((hb y1 hE).low hB) ?_
    rintro v20 y2 ⟨g20, ey2⟩
    have g18 := g18.ext ey2
    have hr := hr.ext ey2
    have hE := hE.trans ey2
    have hB := Nat.le_trans hB ey2.size
    refine WL.call rfl rfl rfl (dw_untilG y2 hB g18 g20) ?_
    rintro v21 y3 ⟨g21, ey3⟩
    have g18 := g18.ext ey3
    have g20 := g20.ext ey3
    have hr := hr.ext ey3
    have hE := hE.trans ey3
    have hB := Nat.le_trans hB ey3.size
    obtain ⟨uo, uc, rfl, hku⟩ := Rd.ltl g21
    skip
    refine WL.st rfl rfl rfl hr rfl rfl (ones_of rfl) (fun z hz hgz => ?_)
    (repeat (first | (apply WL.nil) | (apply EX.thenN) | (apply CW.ret)))
    exact EX.retC rfl rfl hz rfl ⟨(g21.st hgz (by omega)).low (by omega), ret_size hE hgz (by omega)⟩
theorem up1 (w : World) {p3 : Nat} {k sc P S Q R c : Int} (ht : Blk w p3 52 (patL k sc P S Q R c)) : FnV Try.prog (.func (.func 162) [].toArray [.pointer (some ⟨p3, 0, none⟩)].toArray) [] w (Fresh w (notL (leafL P))) := by
  refine FnV.mk (cs := [_]) ?_
  refine Rt.enter1 Try.func162 Try.ntmps162 rfl rfl ?_
  (repeat (first | (apply CW.seq) | (apply CW.region)))
  refine WL.alloc rfl rfl (fun w1 hr e1 => ?_)
  have hE := e1
  have hlr := hr.lt
  have hs1 := e1.size
  have ht := ht.ext e1
  have hB : w1.heap.size ≤ w1.heap.size := Nat.le_refl _
  (repeat (first | (apply WL.nil) | (apply EX.thenN) | (apply CW.seq) | (apply CW.region) | (apply WL.fa; rfl; rfl; rfl) | (apply WL.ld; rfl; rfl; rfl; assumption; rfl)))
  skip
  refine WL.call rfl rfl rfl (dw_leafV w1 P) ?_
  rintro _ y1 ⟨rfl, ey1⟩
  have ht := ht.ext ey1
  have hr := hr.ext ey1
  have hE := hE.trans ey1
  have hB := Nat.le_trans hB ey1.size
  refine WL.call rfl rfl rfl (dw_notG y1 hB (gleaf _ _ _)) ?_
  rintro v5 y2 ⟨g5, ey2⟩
  have ht := ht.ext ey2
  have hr := hr.ext ey2
  have hE := hE.trans ey2
  have hB := Nat.le_trans hB ey2.size
  obtain ⟨uo, uc, rfl, hku⟩ := Rd.ltl g5
  skip
  refine WL.st rfl rfl rfl hr rfl rfl (ones_of rfl) (fun z hz hgz => ?_)
  (repeat (first | (apply WL.nil) | (apply EX.thenN) | (apply CW.ret)))
  exact EX.retC rfl rfl hz rfl ⟨(g5.st hgz (by omega)).low (by omega), ret_size hE hgz (by omega)⟩
theorem up2 (w : World) {p3 : Nat} {k sc P S Q R c : Int} (ht : Blk w p3 52 (patL k sc P S Q R c)) : FnV Try.prog (.func (.func 163) [].toArray [.pointer (some ⟨p3, 0, none⟩)].toArray) [] w (Fresh w (leafL R)) := by
  refine FnV.mk (cs := [_]) ?_
  refine Rt.enter1 Try.func163 Try.ntmps163 rfl rfl ?_
  (repeat (first | (apply CW.seq) | (apply CW.region)))
  refine WL.alloc rfl rfl (fun w1 hr e1 => ?_)
  have hE := e1
  have hlr := hr.lt
  have hs1 := e1.size
  have ht := ht.ext e1
  have hB : w1.heap.size ≤ w1.heap.size := Nat.le_refl _
  (repeat (first | (apply WL.nil) | (apply EX.thenN) | (apply CW.seq) | (apply CW.region) | (apply WL.fa; rfl; rfl; rfl) | (apply WL.ld; rfl; rfl; rfl; assumption; rfl)))
  skip
  refine WL.call rfl rfl rfl (dw_leafV w1 R) ?_
  rintro _ y1 ⟨rfl, ey1⟩
  have ht := ht.ext ey1
  have hr := hr.ext ey1
  have hE := hE.trans ey1
  have hB := Nat.le_trans hB ey1.size
  have hfin : GL w1.heap.size y1 (ltlV 3 R none 0 0) (leafL R) := gleaf _ _ _
  skip
  refine WL.st rfl rfl rfl hr rfl rfl (ones_of rfl) (fun z hz hgz => ?_)
  (repeat (first | (apply WL.nil) | (apply EX.thenN) | (apply CW.ret)))
  exact EX.retC rfl rfl hz rfl ⟨(hfin.st hgz (by omega)).low (by omega), ret_size hE hgz (by omega)⟩
theorem up3 (w : World) {p3 : Nat} {k sc P S Q R c : Int} (ht : Blk w p3 52 (patL k sc P S Q R c)) : FnV Try.prog (.func (.func 165) [].toArray [.pointer (some ⟨p3, 0, none⟩)].toArray) [] w (Fresh w (leafL P)) := by
  refine FnV.mk (cs := [_]) ?_
  refine Rt.enter1 Try.func165 Try.ntmps165 rfl rfl ?_
  (repeat (first | (apply CW.seq) | (apply CW.region)))
  refine WL.alloc rfl rfl (fun w1 hr e1 => ?_)
  have hE := e1
  have hlr := hr.lt
  have hs1 := e1.size
  have ht := ht.ext e1
  have hB : w1.heap.size ≤ w1.heap.size := Nat.le_refl _
  (repeat (first | (apply WL.nil) | (apply EX.thenN) | (apply CW.seq) | (apply CW.region) | (apply WL.fa; rfl; rfl; rfl) | (apply WL.ld; rfl; rfl; rfl; assumption; rfl)))
  skip
  refine WL.call rfl rfl rfl (dw_leafV w1 P) ?_
  rintro _ y1 ⟨rfl, ey1⟩
  have ht := ht.ext ey1
  have hr := hr.ext ey1
  have hE := hE.trans ey1
  have hB := Nat.le_trans hB ey1.size
  have hfin : GL w1.heap.size y1 (ltlV 3 P none 0 0) (leafL P) := gleaf _ _ _
  skip
  refine WL.st rfl rfl rfl hr rfl rfl (ones_of rfl) (fun z hz hgz => ?_)
  (repeat (first | (apply WL.nil) | (apply EX.thenN) | (apply CW.ret)))
  exact EX.retC rfl rfl hz rfl ⟨(hfin.st hgz (by omega)).low (by omega), ret_size hE hgz (by omega)⟩
theorem up4 (w : World) {p3 p8 : Nat} {k sc P S Q R c : Int} (ht : Blk w p3 52 (patL k sc P S Q R c)) (h8 : Blk w p8 240 [(.func (.func 163) [].toArray [.pointer (some ⟨p3, 0, none⟩)].toArray)]) : FnV Try.prog (.func (.func 166) [].toArray [.pointer (some ⟨p3, 0, none⟩), .pointer (some ⟨p8, 0, none⟩)].toArray) [] w (Fresh w (orL (leafL S) (leafL R))) := by
  refine FnV.mk (cs := [_, _]) ?_
  refine Rt.enter2 Try.func166 Try.ntmps166 rfl rfl ?_
  (repeat (first | (apply CW.seq) | (apply CW.region)))
  refine WL.alloc rfl rfl (fun w1 hr e1 => ?_)
  have hE := e1
  have hlr := hr.lt
  have hs1 := e1.size
  have ht := ht.ext e1
  have hB : w1.heap.size ≤ w1.heap.size := Nat.le_refl _
  have h8 := h8.ext e1
  have ed := Ext.drew w1
  have ht := ht.ext ed
  have hr := hr.ext ed
  have h8 := h8.ext ed
  have hE := hE.trans ed
  have hB : w1.heap.size ≤ (drew w1).heap.size := Nat.le_trans hB ed.size
  (repeat (first | (apply WL.nil) | (apply EX.thenN) | (apply CW.seq)))
  refine CW.drawM 6 mixed (by kernel_rfl) ?_
  (repeat (first | (refine ML.q rfl rfl rfl (fun γ' w' hw' => WL.fa rfl rfl rfl (WL.nil (EX.mm rfl (Ext.refl _) rfl))) ?_) | (apply ML.q; rfl; rfl; rfl; (intro γ' w' hw'; apply WL.ld; rfl; rfl; rfl; apply Blk.ext; assumption; exact hw'; rfl; exact WL.nil (EX.mm rfl (Ext.refl _) rfl)))))
  refine ML.q rfl rfl rfl (fun γ w hw => WL.call rfl rfl rfl (dw_leafV w S) (fun v w' h => WL.nil (EX.mm rfl h.2 h.1))) ?_
  (repeat (apply ML.q; rfl; rfl; rfl; (intro γ' w' hw'; apply WL.ld; rfl; rfl; rfl; apply Blk.ext; assumption; exact hw'; rfl; exact WL.nil (EX.mm rfl (Ext.refl _) rfl))))
  refine ML.fc (fun v γ w => GL w1.heap.size w v (leafL R)) rfl rfl rfl (fun v γ γ' w w' h e _ => h.ext e) (fun γ w hw => WL.callF (xs := []) (vs := []) rfl rfl rfl rfl ((up2 w (ht.ext hw)).low (Nat.le_trans hB hw.size)) (fun v w' h => WL.nil (EX.mm rfl h.2 h.1))) ?_
  refine ML.fc (fun v γ w => GL w1.heap.size w v (orL (leafL S) (leafL R))) rfl rfl rfl (fun v γ γ' w w' h e _ => h.ext e) (fun γ w hw v7 g7 => WL.call rfl rfl rfl (dw_orG w (Nat.le_trans hB hw.size) (gleaf _ _ _) g7) (fun v w' h => WL.nil (EX.mm rfl h.2 h.1))) ?_
  refine ML.nil fun γ w' hw' v8 g8 v7 g7 => ?_
  change WL _ _ _ _ _ _ _
  have ht := ht.ext hw'
  have hr := hr.ext hw'
  have h8 := h8.ext hw'
  have hE := hE.trans hw'
  have hB := Nat.le_trans hB hw'.size
  obtain ⟨uo, uc, rfl, hku⟩ := Rd.ltl g8
  refine WL.st rfl rfl rfl hr rfl rfl (ones_of rfl) (fun z hz hgz => WL.nil (EX.tailE ?_))
  (repeat (first | (apply EX.thenN) | (apply CW.ret)))
  exact EX.retC rfl rfl hz rfl ⟨(g8.st hgz (by omega)).low (by omega), ret_size hE hgz (by omega)⟩
theorem up5 (w : World) {p3 p7 p8 : Nat} {k sc P S Q R c : Int} (ht : Blk w p3 52 (patL k sc P S Q R c)) (h7 : Blk w p7 240 [(.func (.func 162) [].toArray [.pointer (some ⟨p3, 0, none⟩)].toArray)]) (h8 : Blk w p8 240 [(.func (.func 163) [].toArray [.pointer (some ⟨p3, 0, none⟩)].toArray)]) : FnV Try.prog (.func (.func 167) [].toArray [.pointer (some ⟨p7, 0, none⟩), .pointer (some ⟨p8, 0, none⟩), .pointer (some ⟨p3, 0, none⟩)].toArray) [] w (Fresh w (orL (notL (leafL P)) (untL (notL (leafL R)) (andL (leafL S) (notL (leafL R)))))) := by
  refine FnV.mk (cs := [_, _, _]) ?_
  refine Rt.enter3 Try.func167 Try.ntmps167 rfl rfl ?_
  (repeat (first | (apply CW.seq) | (apply CW.region)))
  refine WL.alloc rfl rfl (fun w1 hr e1 => ?_)
  have hE := e1
  have hlr := hr.lt
  have hs1 := e1.size
  have ht := ht.ext e1
  have hB : w1.heap.size ≤ w1.heap.size := Nat.le_refl _
  have h7 := h7.ext e1
  have h8 := h8.ext e1
  have ed := Ext.drew w1
  have ht := ht.ext ed
  have hr := hr.ext ed
  have h7 := h7.ext ed
  have h8 := h8.ext ed
  have hE := hE.trans ed
  have hB : w1.heap.size ≤ (drew w1).heap.size := Nat.le_trans hB ed.size
  (repeat (first | (apply WL.nil) | (apply EX.thenN) | (apply CW.seq)))
  refine CW.drawM 14 mixed (by kernel_rfl) ?_
  (repeat (apply ML.q; rfl; rfl; rfl; (intro γ' w' hw'; apply WL.ld; rfl; rfl; rfl; apply Blk.ext; assumption; exact hw'; rfl; exact WL.nil (EX.mm rfl (Ext.refl _) rfl))))
  refine ML.fc (fun v γ w => GL w1.heap.size w v (notL (leafL P))) rfl rfl rfl (fun v γ γ' w w' h e _ => h.ext e) (fun γ w hw => WL.callF (xs := []) (vs := []) rfl rfl rfl rfl ((up1 w (ht.ext hw)).low (Nat.le_trans hB hw.size)) (fun v w' h => WL.nil (EX.mm rfl h.2 h.1))) ?_
  (repeat (apply ML.q; rfl; rfl; rfl; (intro γ' w' hw'; apply WL.ld; rfl; rfl; rfl; apply Blk.ext; assumption; exact hw'; rfl; exact WL.nil (EX.mm rfl (Ext.refl _) rfl))))
  refine ML.fc (fun v γ w => GL w1.heap.size w v (leafL R)) rfl rfl rfl (fun v γ γ' w w' h e _ => h.ext e) (fun γ w hw v5 g5 => WL.callF (xs := []) (vs := []) rfl rfl rfl rfl ((up2 w (ht.ext hw)).low (Nat.le_trans hB hw.size)) (fun v w' h => WL.nil (EX.mm rfl h.2 h.1))) ?_
  refine ML.fc (fun v γ w => GL w1.heap.size w v (notL (leafL R))) rfl rfl rfl (fun v γ γ' w w' h e _ => h.ext e) (fun γ w hw v7 g7 => WL.call rfl rfl rfl (dw_notG w (Nat.le_trans hB hw.size) g7) (fun v w' h => WL.nil (EX.mm rfl h.2 h.1))) ?_
  (repeat (first | (refine ML.q rfl rfl rfl (fun γ' w' hw' => WL.fa rfl rfl rfl (WL.nil (EX.mm rfl (Ext.refl _) rfl))) ?_) | (apply ML.q; rfl; rfl; rfl; (intro γ' w' hw'; apply WL.ld; rfl; rfl; rfl; apply Blk.ext; assumption; exact hw'; rfl; exact WL.nil (EX.mm rfl (Ext.refl _) rfl)))))
  refine ML.q rfl rfl rfl (fun γ w hw => WL.call rfl rfl rfl (dw_leafV w S) (fun v w' h => WL.nil (EX.mm rfl h.2 h.1))) ?_
  (repeat (apply ML.q; rfl; rfl; rfl; (intro γ' w' hw'; apply WL.ld; rfl; rfl; rfl; apply Blk.ext; assumption; exact hw'; rfl; exact WL.nil (EX.mm rfl (Ext.refl _) rfl))))
  refine ML.fc (fun v γ w => GL w1.heap.size w v (leafL R)) rfl rfl rfl (fun v γ γ' w w' h e _ => h.ext e) (fun γ w hw => WL.callF (xs := []) (vs := []) rfl rfl rfl rfl ((up2 w (ht.ext hw)).low (Nat.le_trans hB hw.size)) (fun v w' h => WL.nil (EX.mm rfl h.2 h.1))) ?_
  refine ML.fc (fun v γ w => GL w1.heap.size w v (notL (leafL R))) rfl rfl rfl (fun v γ γ' w w' h e _ => h.ext e) (fun γ w hw v13 g13 => WL.call rfl rfl rfl (dw_notG w (Nat.le_trans hB hw.size) g13) (fun v w' h => WL.nil (EX.mm rfl h.2 h.1))) ?_
  refine ML.fc (fun v γ w => GL w1.heap.size w v (andL (leafL S) (notL (leafL R)))) rfl rfl rfl (fun v γ γ' w w' h e _ => h.ext e) (fun γ w hw v14 g14 => WL.call rfl rfl rfl (dw_andG w (Nat.le_trans hB hw.size) (gleaf _ _ _) g14) (fun v w' h => WL.nil (EX.mm rfl h.2 h.1))) ?_
  refine ML.fc (fun v γ w => GL w1.heap.size w v (untL (notL (leafL R)) (andL (leafL S) (notL (leafL R))))) rfl rfl rfl (fun v γ γ' w w' h e _ => h.ext e) (fun γ w hw v8 g8 v15 g15 => WL.call rfl rfl rfl (dw_untilG w (Nat.le_trans hB hw.size) g8 g15) (fun v w' h => WL.nil (EX.mm rfl h.2 h.1))) ?_
  refine ML.fc (fun v γ w => GL w1.heap.size w v (orL (notL (leafL P)) (untL (notL (leafL R)) (andL (leafL S) (notL (leafL R)))))) rfl rfl rfl (fun v γ γ' w w' h e _ => h.ext e) (fun γ w hw v5 g5 v16 g16 => WL.call rfl rfl rfl (dw_orG w (Nat.le_trans hB hw.size) g5 g16) (fun v w' h => WL.nil (EX.mm rfl h.2 h.1))) ?_
  refine ML.nil fun γ w' hw' v17 g17 v16 g16 v15 g15 v14 g14 v13 g13 v8 g8 v7 g7 v5 g5 => ?_
  change WL _ _ _ _ _ _ _
  have ht := ht.ext hw'
  have hr := hr.ext hw'
  have h7 := h7.ext hw'
  have h8 := h8.ext hw'
  have hE := hE.trans hw'
  have hB := Nat.le_trans hB hw'.size
  obtain ⟨uo, uc, rfl, hku⟩ := Rd.ltl g17
  refine WL.st rfl rfl rfl hr rfl rfl (ones_of rfl) (fun z hz hgz => WL.nil (EX.tailE ?_))
  (repeat (first | (apply EX.thenN) | (apply CW.ret)))
  exact EX.retC rfl rfl hz rfl ⟨(g17.st hgz (by omega)).low (by omega), ret_size hE hgz (by omega)⟩
theorem up6 (w : World) {p3 p4 p5 p8 : Nat} {k sc P S Q R c : Int} {n : Nat} {weak : Bool} {u : Ltl} (ht : Blk w p3 52 (patL k sc P S Q R c)) (h8 : Blk w p8 240 [(.func (.func 163) [].toArray [.pointer (some ⟨p3, 0, none⟩)].toArray)]) (hn : Blk w p4 3 [.int .i64 ((n + 1 : Nat) : Int)]) (hk : Blk w p5 4 [.bool weak]) (hle : n < 1000) (ih : ∀ w : World, Rt Try.prog 130 [.agg (patL k sc P S Q R c).toArray, .int .i64 (((n + 1 : Nat) : Int) - 1), .bool weak].toArray w (Fresh w u)) : FnV Try.prog (.func (.func 168) [].toArray [.pointer (some ⟨p8, 0, none⟩), .pointer (some ⟨p3, 0, none⟩), .pointer (some ⟨p4, 0, none⟩), .pointer (some ⟨p5, 0, none⟩)].toArray) [] w (Fresh w (orL (leafL R) (andL (andL (leafL P) (notL (leafL R))) (nextF u)))) := by
  refine FnV.mk (cs := [_, _, _, _]) ?_
  refine Rt.enter4 Try.func168 Try.ntmps168 rfl rfl ?_
  (repeat (first | (apply CW.seq) | (apply CW.region)))
  refine WL.alloc rfl rfl (fun w1 hr e1 => ?_)
  have hE := e1
  have hlr := hr.lt
  have hs1 := e1.size
  have ht := ht.ext e1
  have hB : w1.heap.size ≤ w1.heap.size := Nat.le_refl _
  have h8 := h8.ext e1
  have hn := hn.ext e1
  have hk := hk.ext e1
  have ed := Ext.drew w1
  have ht := ht.ext ed
  have hr := hr.ext ed
  have h8 := h8.ext ed
  have hn := hn.ext ed
  have hk := hk.ext ed
  have hE := hE.trans ed
  have hB : w1.heap.size ≤ (drew w1).heap.size := Nat.le_trans hB ed.size
  (repeat (first | (apply WL.nil) | (apply EX.thenN) | (apply CW.seq)))
  refine CW.drawM 17 mixed (by kernel_rfl) ?_
  (repeat (apply ML.q; rfl; rfl; rfl; (intro γ' w' hw'; apply WL.ld; rfl; rfl; rfl; apply Blk.ext; assumption; exact hw'; rfl; exact WL.nil (EX.mm rfl (Ext.refl _) rfl))))
  refine ML.fc (fun v γ w => GL w1.heap.size w v (leafL R)) rfl rfl rfl (fun v γ γ' w w' h e _ => h.ext e) (fun γ w hw => WL.callF (xs := []) (vs := []) rfl rfl rfl rfl ((up2 w (ht.ext hw)).low (Nat.le_trans hB hw.size)) (fun v w' h => WL.nil (EX.mm rfl h.2 h.1))) ?_
  (repeat (first | (refine ML.q rfl rfl rfl (fun γ' w' hw' => WL.fa rfl rfl rfl (WL.nil (EX.mm rfl (Ext.refl _) rfl))) ?_) | (apply ML.q; rfl; rfl; rfl; (intro γ' w' hw'; apply WL.ld; rfl; rfl; rfl; apply Blk.ext; assumption; exact hw'; rfl; exact WL.nil (EX.mm rfl (Ext.refl _) rfl)))))
  refine ML.q rfl rfl rfl (fun γ w hw => WL.call rfl rfl rfl (dw_leafV w P) (fun v w' h => WL.nil (EX.mm rfl h.2 h.1))) ?_
  (repeat (apply ML.q; rfl; rfl; rfl; (intro γ' w' hw'; apply WL.ld; rfl; rfl; rfl; apply Blk.ext; assumption; exact hw'; rfl; exact WL.nil (EX.mm rfl (Ext.refl _) rfl))))
  refine ML.fc (fun v γ w => GL w1.heap.size w v (leafL R)) rfl rfl rfl (fun v γ γ' w w' h e _ => h.ext e) (fun γ w hw => WL.callF (xs := []) (vs := []) rfl rfl rfl rfl ((up2 w (ht.ext hw)).low (Nat.le_trans hB hw.size)) (fun v w' h => WL.nil (EX.mm rfl h.2 h.1))) ?_
  refine ML.fc (fun v γ w => GL w1.heap.size w v (notL (leafL R))) rfl rfl rfl (fun v γ γ' w w' h e _ => h.ext e) (fun γ w hw v11 g11 => WL.call rfl rfl rfl (dw_notG w (Nat.le_trans hB hw.size) g11) (fun v w' h => WL.nil (EX.mm rfl h.2 h.1))) ?_
  refine ML.fc (fun v γ w => GL w1.heap.size w v (andL (leafL P) (notL (leafL R)))) rfl rfl rfl (fun v γ γ' w w' h e _ => h.ext e) (fun γ w hw v12 g12 => WL.call rfl rfl rfl (dw_andG w (Nat.le_trans hB hw.size) (gleaf _ _ _) g12) (fun v w' h => WL.nil (EX.mm rfl h.2 h.1))) ?_
  (repeat (first | (apply ML.q; rfl; rfl; rfl; (intro γ' w' hw'; apply WL.sub'; rfl; rfl; rfl; rfl; omega; omega; exact WL.nil (EX.mm rfl (Ext.refl _) rfl))) | (apply ML.q; rfl; rfl; rfl; (intro γ' w' hw'; apply WL.ld; rfl; rfl; rfl; apply Blk.ext; assumption; exact hw'; rfl; exact WL.nil (EX.mm rfl (Ext.refl _) rfl))) | (apply ML.q; rfl; rfl; rfl; (intro γ' w' hw'; apply WL.ldA; rfl; rfl; rfl; apply Blk.ext; assumption; exact hw'; rfl; exact WL.nil (EX.mm rfl (Ext.refl _) rfl)))))
  refine ML.fc (fun v γ w => GL w1.heap.size w v (u)) rfl rfl rfl (fun v γ γ' w w' h e _ => h.ext e) (fun γ w hw v13 g13 => WL.call rfl rfl rfl ((ih w).low (Nat.le_trans hB hw.size)) (fun v w' h => WL.nil (EX.mm rfl h.2 h.1))) ?_
  refine ML.fc (fun v γ w => GL w1.heap.size w v (nextF (u))) rfl rfl rfl (fun v γ γ' w w' h e _ => h.ext e) (fun γ w hw v18 g18 => WL.call rfl rfl rfl (dw_oneG w (Nat.le_trans hB hw.size) 7 g18) (fun v w' h => WL.nil (EX.mm rfl h.2 h.1))) ?_
  refine ML.fc (fun v γ w => GL w1.heap.size w v (andL (andL (leafL P) (notL (leafL R))) (nextF (u)))) rfl rfl rfl (fun v γ γ' w w' h e _ => h.ext e) (fun γ w hw v13 g13 v19 g19 => WL.call rfl rfl rfl (dw_andG w (Nat.le_trans hB hw.size) g13 g19) (fun v w' h => WL.nil (EX.mm rfl h.2 h.1))) ?_
  refine ML.fc (fun v γ w => GL w1.heap.size w v (orL (leafL R) (andL (andL (leafL P) (notL (leafL R))) (nextF (u))))) rfl rfl rfl (fun v γ γ' w w' h e _ => h.ext e) (fun γ w hw v6 g6 v20 g20 => WL.call rfl rfl rfl (dw_orG w (Nat.le_trans hB hw.size) g6 g20) (fun v w' h => WL.nil (EX.mm rfl h.2 h.1))) ?_
  refine ML.nil fun γ w' hw' v21 g21 v20 g20 v19 g19 v18 g18 v13 g13 v12 g12 v11 g11 v6 g6 => ?_
  change WL _ _ _ _ _ _ _
  have ht := ht.ext hw'
  have hr := hr.ext hw'
  have h8 := h8.ext hw'
  have hn := hn.ext hw'
  have hk := hk.ext hw'
  have hE := hE.trans hw'
  have hB := Nat.le_trans hB hw'.size
  obtain ⟨uo, uc, rfl, hku⟩ := Rd.ltl g21
  refine WL.st rfl rfl rfl hr rfl rfl (ones_of rfl) (fun z hz hgz => WL.nil (EX.tailE ?_))
  (repeat (first | (apply EX.thenN) | (apply CW.ret)))
  exact EX.retC rfl rfl hz rfl ⟨(g21.st hgz (by omega)).low (by omega), ret_size hE hgz (by omega)⟩
set_option maxHeartbeats 1000000 in
theorem upTo_ok (k sc P S Q R c : Int) (weak : Bool) : ∀ (n : Nat), n ≤ 1000 → ∀ (w : World), Rt Try.prog 130 [.agg (patL k sc P S Q R c).toArray, .int .i64 (n : Int), .bool weak].toArray w (Fresh w (upToF k P S R n weak)) := by
  intro n
  induction n with
  | zero =>
    intro _ w
    refine Rt.enter3 Try.func130 Try.ntmps130 rfl rfl ?_
    (repeat (first | (apply CW.seq) | (apply CW.region)))
    refine WL.boxB rfl rfl rfl fun w1 ht e1 => ?_
    refine WL.boxB rfl rfl rfl fun w2 hn e2 => ?_
    refine WL.boxB rfl rfl rfl fun w3 hk e3 => ?_
    refine WL.alloc rfl rfl (fun w4 hr e4 => ?_)
    have ht := ((ht.ext e2).ext e3).ext e4
    have hn := (hn.ext e3).ext e4
    have hk := hk.ext e4
    have hE := ((e1.trans e2).trans e3).trans e4
    have s1 := e1.size
    have s2 := e2.size
    have s3 := e3.size
    have s4 := e4.size
    have hlr := hr.lt
    (repeat (first | (apply WL.nil) | (apply EX.thenN) | (apply CW.seq) | (apply CW.region) | (apply WL.makeFunc; rfl; rfl; rfl; rfl)))
    refine WL.alloc rfl rfl (fun w5 h7 e5 => ?_)
    refine WL.st rfl rfl rfl h7 rfl rfl (ones_of rfl) (fun w6 h7 hg6 => ?_)
    have e6 : Ext w4 w6 := e5.grown hg6 e5.size (fun g hg => by cases hg; exact Nat.le_refl _)
    have ht := ht.ext e6
    have hn := hn.ext e6
    have hk := hk.ext e6
    have hr := hr.ext e6
    have hE := hE.trans e6
    (repeat (first | (apply WL.nil) | (apply EX.thenN) | (apply CW.seq) | (apply CW.region) | (apply WL.makeFunc; rfl; rfl; rfl; rfl)))
    refine WL.alloc rfl rfl (fun w7 h8 e7 => ?_)
    refine WL.st rfl rfl rfl h8 rfl rfl (ones_of rfl) (fun w8 h8 hg8 => ?_)
    have e8 : Ext w6 w8 := e7.grown hg8 e7.size (fun g hg => by cases hg; exact Nat.le_refl _)
    have ht := ht.ext e8
    have hn := hn.ext e8
    have hk := hk.ext e8
    have hr := hr.ext e8
    have h7 := h7.ext e8
    have hE := hE.trans e8
    have s6 := e6.size
    have s8 := e8.size
    have hB : w8.heap.size ≤ w8.heap.size := Nat.le_refl _
    clear e1 e2 e3 e4 e5 e6 e7 e8 hg6 hg8
    unfold upToF
    (repeat (first | (apply WL.pure; rfl; rfl; rfl) | (apply WL.nil) | (apply EX.thenN) | (apply CW.seq) | (apply CW.region) | (apply WL.fa; rfl; rfl; rfl) | (apply WL.ld; rfl; rfl; rfl; assumption; rfl) | (apply CW.block)))
    by_cases k2 : k = 2
    · subst k2
      rw [if_pos rfl]
      (repeat (first | (apply CW.seq) | (apply CW.region) | (apply WL.makeFunc; rfl; rfl; rfl; rfl) | (apply WL.ld; rfl; rfl; rfl; assumption; rfl) | (apply CW.condT; rfl)))
      refine WL.call rfl rfl rfl (weakly_ok w8 weak (ta := leafL P) (tb := leafL R) (fun x e => up3 x (ht.ext e)) (fun x e => up2 x (ht.ext e))) ?_
      rintro v19 y ⟨h19, ey⟩
      have hr := hr.ext ey
      have hE := hE.trans ey
      have hsy := ey.size
      obtain ⟨uo, uc, rfl, hku⟩ := Rd.ltl h19
      skip
      refine WL.st rfl rfl rfl hr rfl rfl (ones_of rfl) (fun z hz hgz => ?_)
      (repeat (first | (apply WL.nil) | (apply EX.thenN) | (apply CW.ret) | (apply EX.thenR) | (apply EX.inR)))
      have hfin := (h19.st hgz (by omega)).low (show w.heap.size ≤ w8.heap.size by omega)
      exact EX.retC rfl rfl hz rfl ⟨hfin, ret_size hE hgz (by omega)⟩
    by_cases k3 : k = 3
    · subst k3
      rw [if_neg (by decide), if_pos rfl]
      have ed := Ext.drew w8
      have ht := ht.ext ed
      have hr := hr.ext ed
      have h8 := h8.ext ed
      have hE := hE.trans ed
      have hB : w8.heap.size ≤ (drew w8).heap.size := Nat.le_trans hB ed.size
      (repeat (first | (apply WL.pure; rfl; rfl; rfl) | (apply WL.nil) | (apply EX.thenN) | (apply CW.seq) | (apply CW.region) | (apply CW.condT; rfl) | (apply CW.condF; rfl)))
      refine CW.drawM 11 mixed (by kernel_rfl) ?_
      (repeat (apply ML.q; rfl; rfl; rfl; (intro γ' w' hw'; apply WL.ld; rfl; rfl; rfl; apply Blk.ext; assumption; exact hw'; rfl; exact WL.nil (EX.mm rfl (Ext.refl _) rfl))))
      refine ML.fc (fun v γ w => GL w8.heap.size w v (leafL R)) rfl rfl rfl (fun v γ γ' w w' h e _ => h.ext e) (fun γ w hw => WL.callF (xs := []) (vs := []) rfl rfl rfl rfl ((up2 w (ht.ext hw)).low (Nat.le_trans hB hw.size)) (fun v w' h => WL.nil (EX.mm rfl h.2 h.1))) ?_
      refine ML.fc (fun v γ w => GL w8.heap.size w v (notL (leafL R))) rfl rfl rfl (fun v γ γ' w w' h e _ => h.ext e) (fun γ w hw v23 g23 => WL.call rfl rfl rfl (dw_notG w (Nat.le_trans hB hw.size) g23) (fun v w' h => WL.nil (EX.mm rfl h.2 h.1))) ?_
      (repeat (first | (refine ML.q rfl rfl rfl (fun γ' w' hw' => WL.fa rfl rfl rfl (WL.nil (EX.mm rfl (Ext.refl _) rfl))) ?_) | (apply ML.q; rfl; rfl; rfl; (intro γ' w' hw'; apply WL.ld; rfl; rfl; rfl; apply Blk.ext; assumption; exact hw'; rfl; exact WL.nil (EX.mm rfl (Ext.refl _) rfl)))))
      refine ML.q rfl rfl rfl (fun γ w hw => WL.call rfl rfl rfl (dw_leafV w P) (fun v w' h => WL.nil (EX.mm rfl h.2 h.1))) ?_
      (repeat (apply ML.q; rfl; rfl; rfl; (intro γ' w' hw'; apply WL.ld; rfl; rfl; rfl; apply Blk.ext; assumption; exact hw'; rfl; exact WL.nil (EX.mm rfl (Ext.refl _) rfl))))
      refine ML.fc (fun v γ w => GL w8.heap.size w v (leafL R)) rfl rfl rfl (fun v γ γ' w w' h e _ => h.ext e) (fun γ w hw => WL.callF (xs := []) (vs := []) rfl rfl rfl rfl ((up2 w (ht.ext hw)).low (Nat.le_trans hB hw.size)) (fun v w' h => WL.nil (EX.mm rfl h.2 h.1))) ?_
      refine ML.fc (fun v γ w => GL w8.heap.size w v (notL (leafL R))) rfl rfl rfl (fun v γ γ' w w' h e _ => h.ext e) (fun γ w hw v29 g29 => WL.call rfl rfl rfl (dw_notG w (Nat.le_trans hB hw.size) g29) (fun v w' h => WL.nil (EX.mm rfl h.2 h.1))) ?_
      refine ML.fc (fun v γ w => GL w8.heap.size w v (andL (leafL P) (notL (leafL R)))) rfl rfl rfl (fun v γ γ' w w' h e _ => h.ext e) (fun γ w hw v30 g30 => WL.call rfl rfl rfl (dw_andG w (Nat.le_trans hB hw.size) (gleaf _ _ _) g30) (fun v w' h => WL.nil (EX.mm rfl h.2 h.1))) ?_
      refine ML.fc (fun v γ w => GL w8.heap.size w v (untL (notL (leafL R)) (andL (leafL P) (notL (leafL R))))) rfl rfl rfl (fun v γ γ' w w' h e _ => h.ext e) (fun γ w hw v24 g24 v31 g31 => WL.call rfl rfl rfl (dw_untilG w (Nat.le_trans hB hw.size) g24 g31) (fun v w' h => WL.nil (EX.mm rfl h.2 h.1))) ?_
      refine ML.nil fun γ w' hw' v32 g32 v31 g31 v30 g30 v29 g29 v24 g24 v23 g23 => ?_
      change WL _ _ _ _ _ _ _
      have ht := ht.ext hw'
      have hr := hr.ext hw'
      have h8 := h8.ext hw'
      have hE := hE.trans hw'
      have hB := Nat.le_trans hB hw'.size
      obtain ⟨uo, uc, rfl, hku⟩ := Rd.ltl g32
      refine WL.st rfl rfl rfl hr rfl rfl (ones_of rfl) (fun z hz hgz => WL.nil (EX.tailE ?_))
      (repeat (first | (apply EX.thenN) | (apply CW.ret) | (apply EX.thenR) | (apply EX.inR)))
      exact EX.retC rfl rfl hz rfl ⟨(g32.st hgz (by omega)).low (by omega), ret_size hE hgz (by omega)⟩
    by_cases k5 : k = 5
    · subst k5
      rw [if_neg (by decide), if_neg (by decide), if_pos rfl]
      (repeat (first | (apply WL.pure; rfl; rfl; rfl) | (apply WL.nil) | (apply EX.thenN) | (apply CW.seq) | (apply CW.region) | (apply WL.makeFunc; rfl; rfl; rfl; rfl) | (apply WL.ld; rfl; rfl; rfl; assumption; rfl) | (apply CW.condT; rfl) | (apply CW.condF; rfl)))
      refine WL.call rfl rfl rfl (weakly_ok w8 weak (ta := notL (leafL P)) (tb := orL (leafL S) (leafL R)) (fun x e => up1 x (ht.ext e)) (fun x e => up4 x (ht.ext e) (h8.ext e))) ?_
      rintro v38 y ⟨h38, ey⟩
      have hr := hr.ext ey
      have hE := hE.trans ey
      have hsy := ey.size
      obtain ⟨uo, uc, rfl, hku⟩ := Rd.ltl h38
      skip
      refine WL.st rfl rfl rfl hr rfl rfl (ones_of rfl) (fun z hz hgz => ?_)
      (repeat (first | (apply WL.nil) | (apply EX.thenN) | (apply CW.ret) | (apply EX.thenR) | (apply EX.inR)))
      have hfin := (h38.st hgz (by omega)).low (show w.heap.size ≤ w8.heap.size by omega)
      exact EX.retC rfl rfl hz rfl ⟨hfin, ret_size hE hgz (by omega)⟩
    by_cases k6 : k = 6
    · subst k6
      rw [if_neg (by decide), if_neg (by decide), if_neg (by decide), if_pos rfl]
      (repeat (first | (apply WL.pure; rfl; rfl; rfl) | (apply WL.nil) | (apply EX.thenN) | (apply CW.seq) | (apply CW.region) | (apply WL.makeFunc; rfl; rfl; rfl; rfl) | (apply WL.ld; rfl; rfl; rfl; assumption; rfl) | (apply CW.condT; rfl) | (apply CW.condF; rfl)))
      refine WL.call rfl rfl rfl (weakly_ok w8 weak (ta := orL (notL (leafL P)) (untL (notL (leafL R)) (andL (leafL S) (notL (leafL R))))) (tb := leafL R) (fun x e => up5 x (ht.ext e) (h7.ext e) (h8.ext e)) (fun x e => up2 x (ht.ext e))) ?_
      rintro v45 y ⟨h45, ey⟩
      have hr := hr.ext ey
      have hE := hE.trans ey
      have hsy := ey.size
      obtain ⟨uo, uc, rfl, hku⟩ := Rd.ltl h45
      skip
      refine WL.st rfl rfl rfl hr rfl rfl (ones_of rfl) (fun z hz hgz => ?_)
      (repeat (first | (apply WL.nil) | (apply EX.thenN) | (apply CW.ret) | (apply EX.thenR) | (apply EX.inR)))
      have hfin := (h45.st hgz (by omega)).low (show w.heap.size ≤ w8.heap.size by omega)
      exact EX.retC rfl rfl hz rfl ⟨hfin, ret_size hE hgz (by omega)⟩
    rw [if_neg k2, if_neg k3, if_neg k5, if_neg k6]
    rw [show (k == 2) = false by simpa using k2]
    (repeat (first | (apply WL.pure; rfl; rfl; rfl) | (apply WL.nil) | (apply EX.thenN) | (apply CW.seq) | (apply CW.region) | (apply CW.condF; rfl)))
    rw [show (k == 3) = false by simpa using k3]
    (repeat (first | (apply WL.pure; rfl; rfl; rfl) | (apply WL.nil) | (apply EX.thenN) | (apply CW.seq) | (apply CW.region) | (apply CW.condF; rfl)))
    rw [show (k == 5) = false by simpa using k5]
    (repeat (first | (apply WL.pure; rfl; rfl; rfl) | (apply WL.nil) | (apply EX.thenN) | (apply CW.seq) | (apply CW.region) | (apply CW.condF; rfl)))
    rw [show (k == 6) = false by simpa using k6]
    (repeat (first | (apply WL.pure; rfl; rfl; rfl) | (apply WL.nil) | (apply EX.thenN) | (apply CW.seq) | (apply CW.region) | (apply CW.condF; rfl)))
    by_cases k4 : k = 4
    · subst k4
      rw [if_pos rfl]
      (repeat (first | (apply WL.pure; rfl; rfl; rfl) | (apply WL.nil) | (apply EX.thenN) | (apply CW.seq) | (apply CW.region) | (apply WL.ld; rfl; rfl; rfl; assumption; rfl) | (apply EX.inN) | (apply CW.condT; rfl) | (apply CW.condF; rfl) | (apply CW.skip)))
      unfold boundU
      skip
      refine WL.call rfl rfl rfl (weakly_ok w8 weak (ta := notL (leafL P)) (tb := leafL R) (fun x e => up1 x (ht.ext e)) (fun x e => up2 x (ht.ext e))) ?_
      rintro v57 y ⟨h57, ey⟩
      have hr := hr.ext ey
      have hE := hE.trans ey
      have hsy := ey.size
      obtain ⟨uo, uc, rfl, hku⟩ := Rd.ltl h57
      skip
      refine WL.st rfl rfl rfl hr rfl rfl (ones_of rfl) (fun z hz hgz => ?_)
      (repeat (first | (apply WL.nil) | (apply EX.thenN) | (apply CW.ret)))
      have hfin := (h57.st hgz (by omega)).low (show w.heap.size ≤ w8.heap.size by omega)
      exact EX.retC rfl rfl hz rfl ⟨hfin, ret_size hE hgz (by omega)⟩
    rw [if_neg k4]
    rw [show (k == 4) = false by simpa using k4]
    (repeat (first | (apply EX.thenN) | (apply CW.seq) | (apply CW.region) | (apply WL.ld; rfl; rfl; rfl; assumption; rfl) | (apply EX.inN) | (apply CW.condF; rfl) | (apply CW.skip)))
    skip
    refine WL.call rfl rfl rfl (weakly_ok w8 weak (ta := notL (leafL P)) (tb := leafL R) (fun x e => up1 x (ht.ext e)) (fun x e => up2 x (ht.ext e))) ?_
    rintro v57 y ⟨h57, ey⟩
    have hr := hr.ext ey
    have hE := hE.trans ey
    have hsy := ey.size
    obtain ⟨uo, uc, rfl, hku⟩ := Rd.ltl h57
    skip
    refine WL.st rfl rfl rfl hr rfl rfl (ones_of rfl) (fun z hz hgz => ?_)
    (repeat (first | (apply WL.nil) | (apply EX.thenN) | (apply CW.ret)))
    have hfin := (h57.st hgz (by omega)).low (show w.heap.size ≤ w8.heap.size by omega)
    exact EX.retC rfl rfl hz rfl ⟨hfin, ret_size hE hgz (by omega)⟩
  | succ n ih =>
    intro hle w
    have ih : k = 4 → ∀ w : World, Rt Try.prog 130 [.agg (patL k sc P S Q R c).toArray, .int .i64 (((n + 1 : Nat) : Int) - 1), .bool weak].toArray w (Fresh w (boundU P R weak n)) := by
      rw [show ((n + 1 : Nat) : Int) - 1 = (n : Int) by omega]
      intro hk w
      have := ih (by omega) w
      rwa [show upToF k P S R n weak = boundU P R weak n by subst hk; unfold upToF; rw [if_neg (by decide), if_neg (by decide), if_neg (by decide), if_neg (by decide), if_pos rfl]] at this
    refine Rt.enter3 Try.func130 Try.ntmps130 rfl rfl ?_
    (repeat (first | (apply CW.seq) | (apply CW.region)))
    refine WL.boxB rfl rfl rfl fun w1 ht e1 => ?_
    refine WL.boxB rfl rfl rfl fun w2 hn e2 => ?_
    refine WL.boxB rfl rfl rfl fun w3 hk e3 => ?_
    refine WL.alloc rfl rfl (fun w4 hr e4 => ?_)
    have ht := ((ht.ext e2).ext e3).ext e4
    have hn := (hn.ext e3).ext e4
    have hk := hk.ext e4
    have hE := ((e1.trans e2).trans e3).trans e4
    have s1 := e1.size
    have s2 := e2.size
    have s3 := e3.size
    have s4 := e4.size
    have hlr := hr.lt
    (repeat (first | (apply WL.nil) | (apply EX.thenN) | (apply CW.seq) | (apply CW.region) | (apply WL.makeFunc; rfl; rfl; rfl; rfl)))
    refine WL.alloc rfl rfl (fun w5 h7 e5 => ?_)
    refine WL.st rfl rfl rfl h7 rfl rfl (ones_of rfl) (fun w6 h7 hg6 => ?_)
    have e6 : Ext w4 w6 := e5.grown hg6 e5.size (fun g hg => by cases hg; exact Nat.le_refl _)
    have ht := ht.ext e6
    have hn := hn.ext e6
    have hk := hk.ext e6
    have hr := hr.ext e6
    have hE := hE.trans e6
    (repeat (first | (apply WL.nil) | (apply EX.thenN) | (apply CW.seq) | (apply CW.region) | (apply WL.makeFunc; rfl; rfl; rfl; rfl)))
    refine WL.alloc rfl rfl (fun w7 h8 e7 => ?_)
    refine WL.st rfl rfl rfl h8 rfl rfl (ones_of rfl) (fun w8 h8 hg8 => ?_)
    have e8 : Ext w6 w8 := e7.grown hg8 e7.size (fun g hg => by cases hg; exact Nat.le_refl _)
    have ht := ht.ext e8
    have hn := hn.ext e8
    have hk := hk.ext e8
    have hr := hr.ext e8
    have h7 := h7.ext e8
    have hE := hE.trans e8
    have s6 := e6.size
    have s8 := e8.size
    have hB : w8.heap.size ≤ w8.heap.size := Nat.le_refl _
    clear e1 e2 e3 e4 e5 e6 e7 e8 hg6 hg8
    unfold upToF
    (repeat (first | (apply WL.pure; rfl; rfl; rfl) | (apply WL.nil) | (apply EX.thenN) | (apply CW.seq) | (apply CW.region) | (apply WL.fa; rfl; rfl; rfl) | (apply WL.ld; rfl; rfl; rfl; assumption; rfl) | (apply CW.block)))
    by_cases k2 : k = 2
    · subst k2
      rw [if_pos rfl]
      (repeat (first | (apply CW.seq) | (apply CW.region) | (apply WL.makeFunc; rfl; rfl; rfl; rfl) | (apply WL.ld; rfl; rfl; rfl; assumption; rfl) | (apply CW.condT; rfl)))
      refine WL.call rfl rfl rfl (weakly_ok w8 weak (ta := leafL P) (tb := leafL R) (fun x e => up3 x (ht.ext e)) (fun x e => up2 x (ht.ext e))) ?_
      rintro v19 y ⟨h19, ey⟩
      have hr := hr.ext ey
      have hE := hE.trans ey
      have hsy := ey.size
      obtain ⟨uo, uc, rfl, hku⟩ := Rd.ltl h19
      skip
      refine WL.st rfl rfl rfl hr rfl rfl (ones_of rfl) (fun z hz hgz => ?_)
      (repeat (first | (apply WL.nil) | (apply EX.thenN) | (apply CW.ret) | (apply EX.thenR) | (apply EX.inR)))
      have hfin := (h19.st hgz (by omega)).low (show w.heap.size ≤ w8.heap.size by omega)
      exact EX.retC rfl rfl hz rfl ⟨hfin, ret_size hE hgz (by omega)⟩
    by_cases k3 : k = 3
    · subst k3
      rw [if_neg (by decide), if_pos rfl]
      have ed := Ext.drew w8
      have ht := ht.ext ed
      have hr := hr.ext ed
      have h8 := h8.ext ed
      have hE := hE.trans ed
      have hB : w8.heap.size ≤ (drew w8).heap.size := Nat.le_trans hB ed.size
      (repeat (first | (apply WL.pure; rfl; rfl; rfl) | (apply WL.nil) | (apply EX.thenN) | (apply CW.seq) | (apply CW.region) | (apply CW.condT; rfl) | (apply CW.condF; rfl)))
      refine CW.drawM 11 mixed (by kernel_rfl) ?_
      (repeat (apply ML.q; rfl; rfl; rfl; (intro γ' w' hw'; apply WL.ld; rfl; rfl; rfl; apply Blk.ext; assumption; exact hw'; rfl; exact WL.nil (EX.mm rfl (Ext.refl _) rfl))))
      refine ML.fc (fun v γ w => GL w8.heap.size w v (leafL R)) rfl rfl rfl (fun v γ γ' w w' h e _ => h.ext e) (fun γ w hw => WL.callF (xs := []) (vs := []) rfl rfl rfl rfl ((up2 w (ht.ext hw)).low (Nat.le_trans hB hw.size)) (fun v w' h => WL.nil (EX.mm rfl h.2 h.1))) ?_
      refine ML.fc (fun v γ w => GL w8.heap.size w v (notL (leafL R))) rfl rfl rfl (fun v γ γ' w w' h e _ => h.ext e) (fun γ w hw v23 g23 => WL.call rfl rfl rfl (dw_notG w (Nat.le_trans hB hw.size) g23) (fun v w' h => WL.nil (EX.mm rfl h.2 h.1))) ?_
      (repeat (first | (refine ML.q rfl rfl rfl (fun γ' w' hw' => WL.fa rfl rfl rfl (WL.nil (EX.mm rfl (Ext.refl _) rfl))) ?_) | (apply ML.q; rfl; rfl; rfl; (intro γ' w' hw'; apply WL.ld; rfl; rfl; rfl; apply Blk.ext; assumption; exact hw'; rfl; exact WL.nil (EX.mm rfl (Ext.refl _) rfl)))))
      refine ML.q rfl rfl rfl (fun γ w hw => WL.call rfl rfl rfl (dw_leafV w P) (fun v w' h => WL.nil (EX.mm rfl h.2 h.1))) ?_
      (repeat (apply ML.q; rfl; rfl; rfl; (intro γ' w' hw'; apply WL.ld; rfl; rfl; rfl; apply Blk.ext; assumption; exact hw'; rfl; exact WL.nil (EX.mm rfl (Ext.refl _) rfl))))
      refine ML.fc (fun v γ w => GL w8.heap.size w v (leafL R)) rfl rfl rfl (fun v γ γ' w w' h e _ => h.ext e) (fun γ w hw => WL.callF (xs := []) (vs := []) rfl rfl rfl rfl ((up2 w (ht.ext hw)).low (Nat.le_trans hB hw.size)) (fun v w' h => WL.nil (EX.mm rfl h.2 h.1))) ?_
      refine ML.fc (fun v γ w => GL w8.heap.size w v (notL (leafL R))) rfl rfl rfl (fun v γ γ' w w' h e _ => h.ext e) (fun γ w hw v29 g29 => WL.call rfl rfl rfl (dw_notG w (Nat.le_trans hB hw.size) g29) (fun v w' h => WL.nil (EX.mm rfl h.2 h.1))) ?_
      refine ML.fc (fun v γ w => GL w8.heap.size w v (andL (leafL P) (notL (leafL R)))) rfl rfl rfl (fun v γ γ' w w' h e _ => h.ext e) (fun γ w hw v30 g30 => WL.call rfl rfl rfl (dw_andG w (Nat.le_trans hB hw.size) (gleaf _ _ _) g30) (fun v w' h => WL.nil (EX.mm rfl h.2 h.1))) ?_
      refine ML.fc (fun v γ w => GL w8.heap.size w v (untL (notL (leafL R)) (andL (leafL P) (notL (leafL R))))) rfl rfl rfl (fun v γ γ' w w' h e _ => h.ext e) (fun γ w hw v24 g24 v31 g31 => WL.call rfl rfl rfl (dw_untilG w (Nat.le_trans hB hw.size) g24 g31) (fun v w' h => WL.nil (EX.mm rfl h.2 h.1))) ?_
      refine ML.nil fun γ w' hw' v32 g32 v31 g31 v30 g30 v29 g29 v24 g24 v23 g23 => ?_
      change WL _ _ _ _ _ _ _
      have ht := ht.ext hw'
      have hr := hr.ext hw'
      have h8 := h8.ext hw'
      have hE := hE.trans hw'
      have hB := Nat.le_trans hB hw'.size
      obtain ⟨uo, uc, rfl, hku⟩ := Rd.ltl g32
      refine WL.st rfl rfl rfl hr rfl rfl (ones_of rfl) (fun z hz hgz => WL.nil (EX.tailE ?_))
      (repeat (first | (apply EX.thenN) | (apply CW.ret) | (apply EX.thenR) | (apply EX.inR)))
      exact EX.retC rfl rfl hz rfl ⟨(g32.st hgz (by omega)).low (by omega), ret_size hE hgz (by omega)⟩
    by_cases k5 : k = 5
    · subst k5
      rw [if_neg (by decide), if_neg (by decide), if_pos rfl]
      (repeat (first | (apply WL.pure; rfl; rfl; rfl) | (apply WL.nil) | (apply EX.thenN) | (apply CW.seq) | (apply CW.region) | (apply WL.makeFunc; rfl; rfl; rfl; rfl) | (apply WL.ld; rfl; rfl; rfl; assumption; rfl) | (apply CW.condT; rfl) | (apply CW.condF; rfl)))
      refine WL.call rfl rfl rfl (weakly_ok w8 weak (ta := notL (leafL P)) (tb := orL (leafL S) (leafL R)) (fun x e => up1 x (ht.ext e)) (fun x e => up4 x (ht.ext e) (h8.ext e))) ?_
      rintro v38 y ⟨h38, ey⟩
      have hr := hr.ext ey
      have hE := hE.trans ey
      have hsy := ey.size
      obtain ⟨uo, uc, rfl, hku⟩ := Rd.ltl h38
      skip
      refine WL.st rfl rfl rfl hr rfl rfl (ones_of rfl) (fun z hz hgz => ?_)
      (repeat (first | (apply WL.nil) | (apply EX.thenN) | (apply CW.ret) | (apply EX.thenR) | (apply EX.inR)))
      have hfin := (h38.st hgz (by omega)).low (show w.heap.size ≤ w8.heap.size by omega)
      exact EX.retC rfl rfl hz rfl ⟨hfin, ret_size hE hgz (by omega)⟩
    by_cases k6 : k = 6
    · subst k6
      rw [if_neg (by decide), if_neg (by decide), if_neg (by decide), if_pos rfl]
      (repeat (first | (apply WL.pure; rfl; rfl; rfl) | (apply WL.nil) | (apply EX.thenN) | (apply CW.seq) | (apply CW.region) | (apply WL.makeFunc; rfl; rfl; rfl; rfl) | (apply WL.ld; rfl; rfl; rfl; assumption; rfl) | (apply CW.condT; rfl) | (apply CW.condF; rfl)))
      refine WL.call rfl rfl rfl (weakly_ok w8 weak (ta := orL (notL (leafL P)) (untL (notL (leafL R)) (andL (leafL S) (notL (leafL R))))) (tb := leafL R) (fun x e => up5 x (ht.ext e) (h7.ext e) (h8.ext e)) (fun x e => up2 x (ht.ext e))) ?_
      rintro v45 y ⟨h45, ey⟩
      have hr := hr.ext ey
      have hE := hE.trans ey
      have hsy := ey.size
      obtain ⟨uo, uc, rfl, hku⟩ := Rd.ltl h45
      skip
      refine WL.st rfl rfl rfl hr rfl rfl (ones_of rfl) (fun z hz hgz => ?_)
      (repeat (first | (apply WL.nil) | (apply EX.thenN) | (apply CW.ret) | (apply EX.thenR) | (apply EX.inR)))
      have hfin := (h45.st hgz (by omega)).low (show w.heap.size ≤ w8.heap.size by omega)
      exact EX.retC rfl rfl hz rfl ⟨hfin, ret_size hE hgz (by omega)⟩
    rw [if_neg k2, if_neg k3, if_neg k5, if_neg k6]
    rw [show (k == 2) = false by simpa using k2]
    (repeat (first | (apply WL.pure; rfl; rfl; rfl) | (apply WL.nil) | (apply EX.thenN) | (apply CW.seq) | (apply CW.region) | (apply CW.condF; rfl)))
    rw [show (k == 3) = false by simpa using k3]
    (repeat (first | (apply WL.pure; rfl; rfl; rfl) | (apply WL.nil) | (apply EX.thenN) | (apply CW.seq) | (apply CW.region) | (apply CW.condF; rfl)))
    rw [show (k == 5) = false by simpa using k5]
    (repeat (first | (apply WL.pure; rfl; rfl; rfl) | (apply WL.nil) | (apply EX.thenN) | (apply CW.seq) | (apply CW.region) | (apply CW.condF; rfl)))
    rw [show (k == 6) = false by simpa using k6]
    (repeat (first | (apply WL.pure; rfl; rfl; rfl) | (apply WL.nil) | (apply EX.thenN) | (apply CW.seq) | (apply CW.region) | (apply CW.condF; rfl)))
    by_cases k4 : k = 4
    · subst k4
      rw [if_pos rfl]
      (repeat (first | (apply WL.pure; rfl; rfl; rfl) | (apply WL.nil) | (apply EX.thenN) | (apply CW.seq) | (apply CW.region) | (apply WL.ld; rfl; rfl; rfl; assumption; rfl) | (apply CW.condT; rfl)))
      have ih := ih rfl
      rw [decide_eq_true (show ((n + 1 : Nat) : Int) > 0 by omega)]
      unfold boundU
      (repeat (first | (apply CW.seq) | (apply CW.region) | (apply WL.makeFunc; rfl; rfl; rfl; rfl) | (apply WL.ld; rfl; rfl; rfl; assumption; rfl) | (apply CW.condT; rfl)))
      refine WL.call rfl rfl rfl (weakly_ok w8 weak (ta := notL (leafL P)) (tb := orL (leafL R) (andL (andL (leafL P) (notL (leafL R))) (nextF (boundU P R weak n)))) (fun x e => up1 x (ht.ext e)) (fun x e => up6 (n := n) (weak := weak) (u := boundU P R weak n) x (ht.ext e) (h8.ext e) (hn.ext e) (hk.ext e) (by omega) ih)) ?_
      rintro v53 y ⟨h53, ey⟩
      have hr := hr.ext ey
      have hE := hE.trans ey
      have hsy := ey.size
      obtain ⟨uo, uc, rfl, hku⟩ := Rd.ltl h53
      skip
      refine WL.st rfl rfl rfl hr rfl rfl (ones_of rfl) (fun z hz hgz => ?_)
      (repeat (first | (apply WL.nil) | (apply EX.thenN) | (apply CW.ret) | (apply EX.thenR) | (apply EX.inR)))
      have hfin := (h53.st hgz (by omega)).low (show w.heap.size ≤ w8.heap.size by omega)
      exact EX.retC rfl rfl hz rfl ⟨hfin, ret_size hE hgz (by omega)⟩
    rw [if_neg k4]
    rw [show (k == 4) = false by simpa using k4]
    (repeat (first | (apply EX.thenN) | (apply CW.seq) | (apply CW.region) | (apply WL.ld; rfl; rfl; rfl; assumption; rfl) | (apply EX.inN) | (apply CW.condF; rfl) | (apply CW.skip)))
    skip
    refine WL.call rfl rfl rfl (weakly_ok w8 weak (ta := notL (leafL P)) (tb := leafL R) (fun x e => up1 x (ht.ext e)) (fun x e => up2 x (ht.ext e))) ?_
    rintro v57 y ⟨h57, ey⟩
    have hr := hr.ext ey
    have hE := hE.trans ey
    have hsy := ey.size
    obtain ⟨uo, uc, rfl, hku⟩ := Rd.ltl h57
    skip
    refine WL.st rfl rfl rfl hr rfl rfl (ones_of rfl) (fun z hz hgz => ?_)
    (repeat (first | (apply WL.nil) | (apply EX.thenN) | (apply CW.ret)))
    have hfin := (h57.st hgz (by omega)).low (show w.heap.size ≤ w8.heap.size by omega)
    exact EX.retC rfl rfl hz rfl ⟨hfin, ret_size hE hgz (by omega)⟩
theorem FM.keep {B k b : Nat} {γ : Nat → Nat} {w w' : World} {v : Value} {t : Ltl} (h : Rd w (FM B k γ w) v t) (hb : k < γ b) (hg : w.grownBy w' (some b)) : Rd w' (FM B k γ w') v t :=
  (Rd.kept h hg (fun c hc => ⟨hc.2.1, fun e => by have := Option.some.inj e; subst this; have := hc.2.2; omega⟩)).wk (fun c hc => ⟨hc.1, Nat.lt_of_lt_of_le hc.2.1 hg.size, hc.2.2⟩)
set_option maxHeartbeats 2000000 in
theorem form_ok (w : World) (k sc P S Q R : Int) (n : Nat) (hn : n ≤ 1000) : Rt Try.prog 80 [.agg (patL k sc P S Q R (n : Int)).toArray].toArray w (Fresh w (dwyF (k, sc, P, S, Q, R, (n : Int)))) := by
  refine Rt.enter1 Try.func80 Try.ntmps80 rfl rfl ?_
  have hg := global_ok k sc P S Q R (n : Int) n hn
  have hu := fun weak => upTo_ok k sc P S Q R (n : Int) weak n hn
  (repeat (first | (apply CW.seq) | (apply CW.region)))
  refine WL.boxB rfl rfl rfl fun w1 ht e1 => ?_
  refine WL.alloc rfl rfl (fun w2 hr e2 => ?_)
  have ht := ht.ext e2
  have hE := e1.trans e2
  have hlr := hr.lt
  have hs1 := e1.size
  have hB : w2.heap.size ≤ w2.heap.size := Nat.le_refl _
  unfold dwyF
  dsimp only
  rw [Int.toNat_natCast]
  have ed := Ext.drew w2
  have ht := ht.ext ed
  have hr := hr.ext ed
  have hE := hE.trans ed
  have hB : w2.heap.size ≤ (drew w2).heap.size := Nat.le_trans hB ed.size
  (repeat (first | (apply WL.nil) | (apply EX.thenN) | (apply CW.seq)))
  refine CW.drawM 9 mixed (by kernel_rfl) ?_
  (repeat (first | (refine ML.q rfl rfl rfl (fun γ' w' hw' => WL.fa rfl rfl rfl (WL.nil (EX.mm rfl (Ext.refl _) rfl))) ?_) | (apply ML.q; rfl; rfl; rfl; (intro γ' w' hw'; apply WL.ld; rfl; rfl; rfl; apply Blk.ext; assumption; exact hw'; rfl; exact WL.nil (EX.mm rfl (Ext.refl _) rfl)))))
  refine ML.q rfl rfl rfl (fun γ w hw => WL.call rfl rfl rfl (dw_leafV w Q) (fun v w' h => WL.nil (EX.mm rfl h.2 h.1))) ?_
  (repeat (first | (refine ML.q rfl rfl rfl (fun γ' w' hw' => WL.fa rfl rfl rfl (WL.nil (EX.mm rfl (Ext.refl _) rfl))) ?_) | (apply ML.q; rfl; rfl; rfl; (intro γ' w' hw'; apply WL.ld; rfl; rfl; rfl; apply Blk.ext; assumption; exact hw'; rfl; exact WL.nil (EX.mm rfl (Ext.refl _) rfl)))))
  refine ML.q rfl rfl rfl (fun γ w hw => WL.call rfl rfl rfl (dw_leafV w R) (fun v w' h => WL.nil (EX.mm rfl h.2 h.1))) ?_
  refine ML.fc (fun v γ w => Rd w (FM w2.heap.size 6 γ w) v (notL (leafL R))) rfl rfl rfl stF (fun γ w hw => WL.call rfl rfl rfl (FM.call (i := 6) (by omega) (Nat.le_trans hB hw.size) (dw_not w FM.lt (rleaf _ _ _))) (fun v w' h => WL.nil (EX.mm rfl h.2 h.1))) ?_
  refine ML.fc (fun v γ w => ∃ b, v = .pointer (some ⟨b, 0, none⟩) ∧ γ b = 7 ∧ w2.heap.size ≤ b ∧ Blk w b 56 [.int .i64 0, .int .i64 0, .slice none 0 0]) rfl rfl rfl stA (fun γ w hw => WL.alloc rfl rfl (fun w' hb e => WL.nil (EX.mm rfl e ⟨_, rfl, byM_new, Nat.le_trans hB hw.size, hb⟩))) ?_
  refine ML.fc (fun v γ w => ∃ b, v = .pointer (some ⟨b, 0, none⟩) ∧ γ b = 8 ∧ w2.heap.size ≤ b ∧ Blk w b 56 [.int .i64 0, .int .i64 0, .slice none 0 0]) rfl rfl rfl stA (fun γ w hw => WL.alloc rfl rfl (fun w' hb e => WL.nil (EX.mm rfl e ⟨_, rfl, byM_new, Nat.le_trans hB hw.size, hb⟩))) ?_
  refine ML.nil fun γ w' hw' v4 g4 v3 g3 v11 g11 => ?_
  change WL _ _ _ _ _ _ _
  have ht := ht.ext hw'
  have hr := hr.ext hw'
  have hE := hE.trans hw'
  have hB := Nat.le_trans hB hw'.size
  obtain ⟨b4, rfl, hγ4, hB4, hb4⟩ := g4
  obtain ⟨b3, rfl, hγ3, hB3, hb3⟩ := g3
  have hne : b3 ≠ b4 := fun e => by subst e; rw [hγ3] at hγ4; cases hγ4
  obtain ⟨uo, uc, rfl, hku⟩ := Rd.ltl g11
  refine WL.st rfl rfl rfl hb3 rfl rfl (ones_of rfl) (fun w3 hb3 hg3 => ?_)
  have hb4 := hb4.kept hg3 (fun e => hne (Option.some.inj e).symm)
  have g11 := FM.keep g11 (b := b3) (by rw [hγ3]; decide) hg3
  have hr := hr.kept hg3 (fun e => by have := Option.some.inj e; omega)
  have ht := ht.kept hg3 (fun e => by have := Option.some.inj e; omega)
  have hE : Ext w w3 := hE.grown hg3 hE.size (fun g hg => by cases hg; omega)
  have hB := Nat.le_trans hB hg3.size
  refine WL.st rfl rfl rfl hb4 rfl rfl (ones_of rfl) (fun w4 hb4 hg4 => WL.nil (EX.tailE ?_))
  have hv := FM.st g11 (b := b4) (by rw [hγ4]; decide) hg4
  have hb3 := hb3.kept hg4 (fun e => hne (Option.some.inj e))
  have hr := hr.kept hg4 (fun e => by have := Option.some.inj e; omega)
  have ht := ht.kept hg4 (fun e => by have := Option.some.inj e; omega)
  have hE : Ext w w4 := hE.grown hg4 hE.size (fun g hg => by cases hg; omega)
  have hB := Nat.le_trans hB hg4.size
  clear g11 hku hg3 hg4 hw' e1 e2
  (repeat (first | (apply WL.pure; rfl; rfl; rfl) | (apply WL.nil) | (apply EX.thenN) | (apply CW.seq) | (apply CW.region) | (apply WL.fa; rfl; rfl; rfl) | (apply WL.ld; rfl; rfl; rfl; assumption; rfl) | (apply CW.block)))
  by_cases s2 : sc = 2
  · subst s2
    rw [if_pos rfl]
    have ed := Ext.drew w4
    have ht := ht.ext ed
    have hr := hr.ext ed
    have hb3 := hb3.ext ed
    have hb4 := hb4.ext ed
    have hv := hv.ext ed
    have hE := hE.trans ed
    have hB : w2.heap.size ≤ (drew w4).heap.size := Nat.le_trans hB ed.size
    (repeat (first | (apply CW.seq) | (apply CW.condT; rfl)))
    refine CW.drawM 10 mixed (by kernel_rfl) ?_
    (repeat (first | (refine ML.q rfl rfl rfl (fun γ' w' hw' => WL.fa rfl rfl rfl (WL.nil (EX.mm rfl (Ext.refl _) rfl))) ?_) | (apply ML.q; rfl; rfl; rfl; (intro γ' w' hw'; apply WL.ld; rfl; rfl; rfl; apply Blk.ext; assumption; exact hw'; rfl; exact WL.nil (EX.mm rfl (Ext.refl _) rfl)))))
    refine ML.q rfl rfl rfl (fun γ w hw => WL.call rfl rfl rfl (dw_leafV w R) (fun v w' h => WL.nil (EX.mm rfl h.2 h.1))) ?_
    refine ML.fc (fun v γ w => GL w2.heap.size w v (finL (leafL R))) rfl rfl rfl (fun v γ γ' w w' h e _ => h.ext e) (fun γ w hw => WL.call rfl rfl rfl (dw_oneG w (Nat.le_trans hB hw.size) 10 (gleaf _ _ _)) (fun v w' h => WL.nil (EX.mm rfl h.2 h.1))) ?_
    refine ML.fc (fun v γ w => GL w2.heap.size w v (notL (finL (leafL R)))) rfl rfl rfl (fun v γ γ' w w' h e _ => h.ext e) (fun γ w hw v19 g19 => WL.call rfl rfl rfl (dw_notG w (Nat.le_trans hB hw.size) g19) (fun v w' h => WL.nil (EX.mm rfl h.2 h.1))) ?_
    (repeat (first | (refine ML.q rfl rfl rfl (fun γ' w' hw' => WL.fa rfl rfl rfl (WL.nil (EX.mm rfl (Ext.refl _) rfl))) ?_) | (apply ML.q; rfl; rfl; rfl; (intro γ' w' hw'; apply WL.ld; rfl; rfl; rfl; apply Blk.ext; assumption; exact hw'; rfl; exact WL.nil (EX.mm rfl (Ext.refl _) rfl))) | (apply ML.q; rfl; rfl; rfl; (intro γ' w' hw'; apply WL.ldA; rfl; rfl; rfl; apply Blk.ext; assumption; exact hw'; rfl; exact WL.nil (EX.mm rfl (Ext.refl _) rfl)))))
    refine ML.fc (fun v γ w => GL w2.heap.size w v (upToF k P S R n false)) rfl rfl rfl (fun v γ γ' w w' h e _ => h.ext e) (fun γ w hw v20 g20 => WL.call rfl rfl rfl ((hu false w).low (Nat.le_trans hB hw.size)) (fun v w' h => WL.nil (EX.mm rfl h.2 h.1))) ?_
    refine ML.fc (fun v γ w => GL w2.heap.size w v (orL (notL (finL (leafL R))) (upToF k P S R n false))) rfl rfl rfl (fun v γ γ' w w' h e _ => h.ext e) (fun γ w hw v20 g20 v24 g24 => WL.call rfl rfl rfl (dw_orG w (Nat.le_trans hB hw.size) g20 g24) (fun v w' h => WL.nil (EX.mm rfl h.2 h.1))) ?_
    refine ML.nil fun γ w' hw' v25 g25 v24 g24 v20 g20 v19 g19 => ?_
    change WL _ _ _ _ _ _ _
    have ht := ht.ext hw'
    have hr := hr.ext hw'
    have hb3 := hb3.ext hw'
    have hb4 := hb4.ext hw'
    have hv := hv.ext hw'
    have hE := hE.trans hw'
    have hB := Nat.le_trans hB hw'.size
    obtain ⟨uo, uc, rfl, hku⟩ := Rd.ltl g25
    refine WL.st rfl rfl rfl hr rfl rfl (ones_of rfl) (fun z hz hgz => WL.nil (EX.tailE ?_))
    (repeat (first | (apply EX.thenN) | (apply CW.ret) | (apply EX.thenR) | (apply EX.inR)))
    exact EX.retC rfl rfl hz rfl ⟨(g25.st hgz (by omega)).low (by omega), ret_size hE hgz (by omega)⟩
  by_cases s3 : sc = 3
  · subst s3
    rw [if_neg (by decide), if_pos rfl]
    have ed := Ext.drew w4
    have ht := ht.ext ed
    have hr := hr.ext ed
    have hb3 := hb3.ext ed
    have hb4 := hb4.ext ed
    have hv := hv.ext ed
    have hE := hE.trans ed
    have hB : w2.heap.size ≤ (drew w4).heap.size := Nat.le_trans hB ed.size
    (repeat (first | (apply WL.pure; rfl; rfl; rfl) | (apply WL.nil) | (apply EX.thenN) | (apply CW.seq) | (apply CW.region) | (apply CW.condT; rfl) | (apply CW.condF; rfl)))
    refine CW.drawM 17 mixed (by kernel_rfl) ?_
    (repeat (apply ML.q; rfl; rfl; rfl; (intro γ' w' hw'; apply WL.ldA; rfl; rfl; rfl; apply Blk.ext; assumption; exact hw'; rfl; exact WL.nil (EX.mm rfl (Ext.refl _) rfl))))
    refine ML.fc (fun v γ w => GL w2.heap.size w v (notL (leafL Q))) rfl rfl rfl (fun v γ γ' w w' h e _ => h.ext e) (fun γ w hw => WL.call rfl rfl rfl (dw_notG w (Nat.le_trans hB hw.size) (gleaf _ _ _)) (fun v w' h => WL.nil (EX.mm rfl h.2 h.1))) ?_
    refine ML.fc (fun v γ w => GL w2.heap.size w v (alwL (notL (leafL Q)))) rfl rfl rfl (fun v γ γ' w w' h e _ => h.ext e) (fun γ w hw v29 g29 => WL.call rfl rfl rfl (dw_alwaysG w (Nat.le_trans hB hw.size) g29) (fun v w' h => WL.nil (EX.mm rfl h.2 h.1))) ?_
    (repeat (first | (refine ML.q rfl rfl rfl (fun γ' w' hw' => WL.fa rfl rfl rfl (WL.nil (EX.mm rfl (Ext.refl _) rfl))) ?_) | (apply ML.q; rfl; rfl; rfl; (intro γ' w' hw'; apply WL.ld; rfl; rfl; rfl; apply Blk.ext; assumption; exact hw'; rfl; exact WL.nil (EX.mm rfl (Ext.refl _) rfl)))))
    refine ML.q rfl rfl rfl (fun γ w hw => WL.call rfl rfl rfl (dw_leafV w Q) (fun v w' h => WL.nil (EX.mm rfl h.2 h.1))) ?_
    refine ML.fc (fun v γ w => GL w2.heap.size w v (notL (leafL Q))) rfl rfl rfl (fun v γ γ' w w' h e _ => h.ext e) (fun γ w hw => WL.call rfl rfl rfl (dw_notG w (Nat.le_trans hB hw.size) (gleaf _ _ _)) (fun v w' h => WL.nil (EX.mm rfl h.2 h.1))) ?_
    (repeat (first | (refine ML.q rfl rfl rfl (fun γ' w' hw' => WL.fa rfl rfl rfl (WL.nil (EX.mm rfl (Ext.refl _) rfl))) ?_) | (apply ML.q; rfl; rfl; rfl; (intro γ' w' hw'; apply WL.ld; rfl; rfl; rfl; apply Blk.ext; assumption; exact hw'; rfl; exact WL.nil (EX.mm rfl (Ext.refl _) rfl)))))
    refine ML.q rfl rfl rfl (fun γ w hw => WL.call rfl rfl rfl (dw_leafV w Q) (fun v w' h => WL.nil (EX.mm rfl h.2 h.1))) ?_
    (repeat (first | (refine ML.q rfl rfl rfl (fun γ' w' hw' => WL.fa rfl rfl rfl (WL.nil (EX.mm rfl (Ext.refl _) rfl))) ?_) | (apply ML.q; rfl; rfl; rfl; (intro γ' w' hw'; apply WL.ld; rfl; rfl; rfl; apply Blk.ext; assumption; exact hw'; rfl; exact WL.nil (EX.mm rfl (Ext.refl _) rfl))) | (apply ML.q; rfl; rfl; rfl; (intro γ' w' hw'; apply WL.ldA; rfl; rfl; rfl; apply Blk.ext; assumption; exact hw'; rfl; exact WL.nil (EX.mm rfl (Ext.refl _) rfl)))))
    refine ML.fc (fun v γ w => GL w2.heap.size w v (globalF k P S n)) rfl rfl rfl (fun v γ γ' w w' h e _ => h.ext e) (fun γ w hw => WL.call rfl rfl rfl ((hg w).low (Nat.le_trans hB hw.size)) (fun v w' h => WL.nil (EX.mm rfl h.2 h.1))) ?_
    refine ML.fc (fun v γ w => GL w2.heap.size w v (andL (leafL Q) (globalF k P S n))) rfl rfl rfl (fun v γ γ' w w' h e _ => h.ext e) (fun γ w hw v41 g41 => WL.call rfl rfl rfl (dw_andG w (Nat.le_trans hB hw.size) (gleaf _ _ _) g41) (fun v w' h => WL.nil (EX.mm rfl h.2 h.1))) ?_
    refine ML.fc (fun v γ w => GL w2.heap.size w v (untL (notL (leafL Q)) (andL (leafL Q) (globalF k P S n)))) rfl rfl rfl (fun v γ γ' w w' h e _ => h.ext e) (fun γ w hw v34 g34 v42 g42 => WL.call rfl rfl rfl (dw_untilG w (Nat.le_trans hB hw.size) g34 g42) (fun v w' h => WL.nil (EX.mm rfl h.2 h.1))) ?_
    refine ML.fc (fun v γ w => GL w2.heap.size w v (orL (alwL (notL (leafL Q))) (untL (notL (leafL Q)) (andL (leafL Q) (globalF k P S n))))) rfl rfl rfl (fun v γ γ' w w' h e _ => h.ext e) (fun γ w hw v30 g30 v43 g43 => WL.call rfl rfl rfl (dw_orG w (Nat.le_trans hB hw.size) g30 g43) (fun v w' h => WL.nil (EX.mm rfl h.2 h.1))) ?_
    refine ML.nil fun γ w' hw' v44 g44 v43 g43 v42 g42 v41 g41 v34 g34 v30 g30 v29 g29 => ?_
    change WL _ _ _ _ _ _ _
    have ht := ht.ext hw'
    have hr := hr.ext hw'
    have hb3 := hb3.ext hw'
    have hb4 := hb4.ext hw'
    have hv := hv.ext hw'
    have hE := hE.trans hw'
    have hB := Nat.le_trans hB hw'.size
    obtain ⟨uo, uc, rfl, hku⟩ := Rd.ltl g44
    refine WL.st rfl rfl rfl hr rfl rfl (ones_of rfl) (fun z hz hgz => WL.nil (EX.tailE ?_))
    (repeat (first | (apply EX.thenN) | (apply CW.ret) | (apply EX.thenR) | (apply EX.inR)))
    exact EX.retC rfl rfl hz rfl ⟨(g44.st hgz (by omega)).low (by omega), ret_size hE hgz (by omega)⟩
  by_cases s4 : sc = 4
  · subst s4
    rw [if_neg (by decide), if_neg (by decide), if_pos rfl]
    have ed := Ext.drew w4
    have ht := ht.ext ed
    have hr := hr.ext ed
    have hb3 := hb3.ext ed
    have hb4 := hb4.ext ed
    have hv := hv.ext ed
    have hE := hE.trans ed
    have hB : w2.heap.size ≤ (drew w4).heap.size := Nat.le_trans hB ed.size
    (repeat (first | (apply WL.pure; rfl; rfl; rfl) | (apply WL.nil) | (apply EX.thenN) | (apply CW.seq) | (apply CW.region) | (apply CW.condT; rfl) | (apply CW.condF; rfl)))
    refine CW.drawM 15 mixed (by kernel_rfl) ?_
    (repeat (apply ML.q; rfl; rfl; rfl; (intro γ' w' hw'; apply WL.ldA; rfl; rfl; rfl; apply Blk.ext; assumption; exact hw'; rfl; exact WL.nil (EX.mm rfl (Ext.refl _) rfl))))
    refine ML.fc (fun v γ w => GL w2.heap.size w v (andL (leafL Q) (notL (leafL R)))) rfl rfl rfl (fun v γ γ' w w' h e _ => h.ext e) (fun γ w hw => WL.call rfl rfl rfl (dw_andG w (Nat.le_trans hB hw.size) (gleaf _ _ _) (hv.ext hw)) (fun v w' h => WL.nil (EX.mm rfl h.2 h.1))) ?_
    (repeat (first | (refine ML.q rfl rfl rfl (fun γ' w' hw' => WL.fa rfl rfl rfl (WL.nil (EX.mm rfl (Ext.refl _) rfl))) ?_) | (apply ML.q; rfl; rfl; rfl; (intro γ' w' hw'; apply WL.ld; rfl; rfl; rfl; apply Blk.ext; assumption; exact hw'; rfl; exact WL.nil (EX.mm rfl (Ext.refl _) rfl)))))
    refine ML.q rfl rfl rfl (fun γ w hw => WL.call rfl rfl rfl (dw_leafV w R) (fun v w' h => WL.nil (EX.mm rfl h.2 h.1))) ?_
    refine ML.fc (fun v γ w => GL w2.heap.size w v (finL (leafL R))) rfl rfl rfl (fun v γ γ' w w' h e _ => h.ext e) (fun γ w hw => WL.call rfl rfl rfl (dw_oneG w (Nat.le_trans hB hw.size) 10 (gleaf _ _ _)) (fun v w' h => WL.nil (EX.mm rfl h.2 h.1))) ?_
    refine ML.fc (fun v γ w => GL w2.heap.size w v (andL (andL (leafL Q) (notL (leafL R))) (finL (leafL R)))) rfl rfl rfl (fun v γ γ' w w' h e _ => h.ext e) (fun γ w hw v49 g49 v53 g53 => WL.call rfl rfl rfl (dw_andG w (Nat.le_trans hB hw.size) g49 g53) (fun v w' h => WL.nil (EX.mm rfl h.2 h.1))) ?_
    refine ML.fc (fun v γ w => GL w2.heap.size w v (notL (andL (andL (leafL Q) (notL (leafL R))) (finL (leafL R))))) rfl rfl rfl (fun v γ γ' w w' h e _ => h.ext e) (fun γ w hw v54 g54 => WL.call rfl rfl rfl (dw_notG w (Nat.le_trans hB hw.size) g54) (fun v w' h => WL.nil (EX.mm rfl h.2 h.1))) ?_
    (repeat (first | (refine ML.q rfl rfl rfl (fun γ' w' hw' => WL.fa rfl rfl rfl (WL.nil (EX.mm rfl (Ext.refl _) rfl))) ?_) | (apply ML.q; rfl; rfl; rfl; (intro γ' w' hw'; apply WL.ld; rfl; rfl; rfl; apply Blk.ext; assumption; exact hw'; rfl; exact WL.nil (EX.mm rfl (Ext.refl _) rfl))) | (apply ML.q; rfl; rfl; rfl; (intro γ' w' hw'; apply WL.ldA; rfl; rfl; rfl; apply Blk.ext; assumption; exact hw'; rfl; exact WL.nil (EX.mm rfl (Ext.refl _) rfl)))))
    refine ML.fc (fun v γ w => GL w2.heap.size w v (upToF k P S R n false)) rfl rfl rfl (fun v γ γ' w w' h e _ => h.ext e) (fun γ w hw v55 g55 => WL.call rfl rfl rfl ((hu false w).low (Nat.le_trans hB hw.size)) (fun v w' h => WL.nil (EX.mm rfl h.2 h.1))) ?_
    refine ML.fc (fun v γ w => GL w2.heap.size w v (orL (notL (andL (andL (leafL Q) (notL (leafL R))) (finL (leafL R)))) (upToF k P S R n false))) rfl rfl rfl (fun v γ γ' w w' h e _ => h.ext e) (fun γ w hw v55 g55 v59 g59 => WL.call rfl rfl rfl (dw_orG w (Nat.le_trans hB hw.size) g55 g59) (fun v w' h => WL.nil (EX.mm rfl h.2 h.1))) ?_
    refine ML.fc (fun v γ w => GL w2.heap.size w v (alwL (orL (notL (andL (andL (leafL Q) (notL (leafL R))) (finL (leafL R)))) (upToF k P S R n false)))) rfl rfl rfl (fun v γ γ' w w' h e _ => h.ext e) (fun γ w hw v60 g60 => WL.call rfl rfl rfl (dw_alwaysG w (Nat.le_trans hB hw.size) g60) (fun v w' h => WL.nil (EX.mm rfl h.2 h.1))) ?_
    refine ML.nil fun γ w' hw' v61 g61 v60 g60 v59 g59 v55 g55 v54 g54 v53 g53 v49 g49 => ?_
    change WL _ _ _ _ _ _ _
    have ht := ht.ext hw'
    have hr := hr.ext hw'
    have hb3 := hb3.ext hw'
    have hb4 := hb4.ext hw'
    have hv := hv.ext hw'
    have hE := hE.trans hw'
    have hB := Nat.le_trans hB hw'.size
    obtain ⟨uo, uc, rfl, hku⟩ := Rd.ltl g61
    refine WL.st rfl rfl rfl hr rfl rfl (ones_of rfl) (fun z hz hgz => WL.nil (EX.tailE ?_))
    (repeat (first | (apply EX.thenN) | (apply CW.ret) | (apply EX.thenR) | (apply EX.inR)))
    exact EX.retC rfl rfl hz rfl ⟨(g61.st hgz (by omega)).low (by omega), ret_size hE hgz (by omega)⟩
  by_cases s5 : sc = 5
  · subst s5
    rw [if_neg (by decide), if_neg (by decide), if_neg (by decide), if_pos rfl]
    have ed := Ext.drew w4
    have ht := ht.ext ed
    have hr := hr.ext ed
    have hb3 := hb3.ext ed
    have hb4 := hb4.ext ed
    have hv := hv.ext ed
    have hE := hE.trans ed
    have hB : w2.heap.size ≤ (drew w4).heap.size := Nat.le_trans hB ed.size
    (repeat (first | (apply WL.pure; rfl; rfl; rfl) | (apply WL.nil) | (apply EX.thenN) | (apply CW.seq) | (apply CW.region) | (apply CW.condT; rfl) | (apply CW.condF; rfl)))
    refine CW.drawM 10 mixed (by kernel_rfl) ?_
    (repeat (apply ML.q; rfl; rfl; rfl; (intro γ' w' hw'; apply WL.ldA; rfl; rfl; rfl; apply Blk.ext; assumption; exact hw'; rfl; exact WL.nil (EX.mm rfl (Ext.refl _) rfl))))
    refine ML.fc (fun v γ w => GL w2.heap.size w v (andL (leafL Q) (notL (leafL R)))) rfl rfl rfl (fun v γ γ' w w' h e _ => h.ext e) (fun γ w hw => WL.call rfl rfl rfl (dw_andG w (Nat.le_trans hB hw.size) (gleaf _ _ _) (hv.ext hw)) (fun v w' h => WL.nil (EX.mm rfl h.2 h.1))) ?_
    refine ML.fc (fun v γ w => GL w2.heap.size w v (notL (andL (leafL Q) (notL (leafL R))))) rfl rfl rfl (fun v γ γ' w w' h e _ => h.ext e) (fun γ w hw v66 g66 => WL.call rfl rfl rfl (dw_notG w (Nat.le_trans hB hw.size) g66) (fun v w' h => WL.nil (EX.mm rfl h.2 h.1))) ?_
    (repeat (first | (refine ML.q rfl rfl rfl (fun γ' w' hw' => WL.fa rfl rfl rfl (WL.nil (EX.mm rfl (Ext.refl _) rfl))) ?_) | (apply ML.q; rfl; rfl; rfl; (intro γ' w' hw'; apply WL.ld; rfl; rfl; rfl; apply Blk.ext; assumption; exact hw'; rfl; exact WL.nil (EX.mm rfl (Ext.refl _) rfl))) | (apply ML.q; rfl; rfl; rfl; (intro γ' w' hw'; apply WL.ldA; rfl; rfl; rfl; apply Blk.ext; assumption; exact hw'; rfl; exact WL.nil (EX.mm rfl (Ext.refl _) rfl)))))
    refine ML.fc (fun v γ w => GL w2.heap.size w v (upToF k P S R n true)) rfl rfl rfl (fun v γ γ' w w' h e _ => h.ext e) (fun γ w hw v67 g67 => WL.call rfl rfl rfl ((hu true w).low (Nat.le_trans hB hw.size)) (fun v w' h => WL.nil (EX.mm rfl h.2 h.1))) ?_
    refine ML.fc (fun v γ w => GL w2.heap.size w v (orL (notL (andL (leafL Q) (notL (leafL R)))) (upToF k P S R n true))) rfl rfl rfl (fun v γ γ' w w' h e _ => h.ext e) (fun γ w hw v67 g67 v71 g71 => WL.call rfl rfl rfl (dw_orG w (Nat.le_trans hB hw.size) g67 g71) (fun v w' h => WL.nil (EX.mm rfl h.2 h.1))) ?_
    refine ML.fc (fun v γ w => GL w2.heap.size w v (alwL (orL (notL (andL (leafL Q) (notL (leafL R)))) (upToF k P S R n true)))) rfl rfl rfl (fun v γ γ' w w' h e _ => h.ext e) (fun γ w hw v72 g72 => WL.call rfl rfl rfl (dw_alwaysG w (Nat.le_trans hB hw.size) g72) (fun v w' h => WL.nil (EX.mm rfl h.2 h.1))) ?_
    refine ML.nil fun γ w' hw' v73 g73 v72 g72 v71 g71 v67 g67 v66 g66 => ?_
    change WL _ _ _ _ _ _ _
    have ht := ht.ext hw'
    have hr := hr.ext hw'
    have hb3 := hb3.ext hw'
    have hb4 := hb4.ext hw'
    have hv := hv.ext hw'
    have hE := hE.trans hw'
    have hB := Nat.le_trans hB hw'.size
    obtain ⟨uo, uc, rfl, hku⟩ := Rd.ltl g73
    refine WL.st rfl rfl rfl hr rfl rfl (ones_of rfl) (fun z hz hgz => WL.nil (EX.tailE ?_))
    (repeat (first | (apply EX.thenN) | (apply CW.ret) | (apply EX.thenR) | (apply EX.inR)))
    exact EX.retC rfl rfl hz rfl ⟨(g73.st hgz (by omega)).low (by omega), ret_size hE hgz (by omega)⟩
  rw [if_neg s2, if_neg s3, if_neg s4, if_neg s5]
  rw [show (sc == 2) = false by simpa using s2]
  (repeat (first | (apply WL.pure; rfl; rfl; rfl) | (apply WL.nil) | (apply EX.thenN) | (apply CW.seq) | (apply CW.region) | (apply CW.condF; rfl)))
  rw [show (sc == 3) = false by simpa using s3]
  (repeat (first | (apply WL.pure; rfl; rfl; rfl) | (apply WL.nil) | (apply EX.thenN) | (apply CW.seq) | (apply CW.region) | (apply CW.condF; rfl)))
  rw [show (sc == 4) = false by simpa using s4]
  (repeat (first | (apply WL.pure; rfl; rfl; rfl) | (apply WL.nil) | (apply EX.thenN) | (apply CW.seq) | (apply CW.region) | (apply CW.condF; rfl)))
  rw [show (sc == 5) = false by simpa using s5]
  (repeat (first | (apply EX.thenN) | (apply CW.seq) | (apply CW.region) | (apply WL.fa; rfl; rfl; rfl) | (apply WL.ld; rfl; rfl; rfl; assumption; rfl) | (apply WL.ldA; rfl; rfl; rfl; assumption; rfl) | (apply EX.inN) | (apply CW.condF; rfl) | (apply CW.skip)))
  skip
  skip
  refine WL.call rfl rfl rfl ((hg w4).low hB) ?_
  rintro v77 y1 ⟨g77, ey1⟩
  have ht := ht.ext ey1
  have hr := hr.ext ey1
  have hE := hE.trans ey1
  have hB := Nat.le_trans hB ey1.size
  obtain ⟨uo, uc, rfl, hku⟩ := Rd.ltl g77
  skip
  refine WL.st rfl rfl rfl hr rfl rfl (ones_of rfl) (fun z hz hgz => ?_)
  (repeat (first | (apply WL.nil) | (apply EX.thenN) | (apply CW.ret)))
  exact EX.retC rfl rfl hz rfl ⟨(g77.st hgz (by omega)).low (by omega), ret_size hE hgz (by omega)⟩
end Go.Proofs.Ythojdcbpglipeaa
