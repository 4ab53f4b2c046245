import Derived.Test.YtllpfgcngokhnaaGreatPtLabelWords14
/-
  Package tableau: gather: walked.
-/
set_option linter.unusedVariables false
set_option linter.unusedSimpArgs false
namespace Go.Proofs.YtllpfgcngokhnaaGreat
open Go.RowKit

section
variable {P : Program} {Q : Exit → Act → World → Prop} {n : Nat} {σ : Sg} {w : World} {L rest : List Oper} {α : Type} [Rep α] {F : Nat → Prop} {e : TypeId} {ty : TypeId} {pos : String} {af : Array Edge} {g : Option (Nat × Bool)}
/-- an element of an owned row, stored by its address -/
theorem WL.stO {x y : Operand} {u : Value} {B b off cap : Nat} {xs : List α} {yv : α} {i : Nat} (hg : gd L σ ⟨none, .store e x y, ty, pos, af, g⟩ = some true)
    (hx : ev σ x = some (.pointer (some ⟨b, off + i * sz α, none⟩))) (hy : ev σ y = some u) [ht : IsT P e α] (hown : Own w B e F (.slice (some ⟨b, off, none⟩) xs.length cap) xs) (h1 : i < xs.length) (hu : Rd w F u yv)
    (h : ∀ w', Own w' B e F (.slice (some ⟨b, off, none⟩) xs.length cap) (xs.set i yv) → w.grownBy w' (some b) → WL P L Q rest n σ w') : WL P L Q (⟨none, .store e x y, ty, pos, af, g⟩ :: rest) n σ w := by
  rcases hown with ⟨hv, hx0⟩ | ⟨b', off', cap', cur, hv, ho⟩
  · subst hx0; simp at h1
  · obtain ⟨hv1, _, hv2⟩ := Value.slice.inj hv
    cases hv1; subst hv2
    obtain ⟨w', hr, ho', hgr⟩ := run_set (P := P) (v := u) (i := i) ho h1 hu
    refine WL.runU hg (fun a ha => ?_) (h w' ho' hgr)
    have e1 := ha.ev hx
    have e2 := ha.ev hy
    simp [execOp, e1, e2, Instr.storeAt, Instr.sureAddr, hr]
end
theorem gaE_len0 (k n : Int) (t : Ltl) (m : Mk2) : (gaN k n t m).1.length + (gaN k n t m).2.length ≤ m.1.length + m.2.length + 1 := by
  unfold gaN
  split
  · dsimp only; split <;> simp; omega
  · split
    · dsimp only; split <;> simp; omega
    · omega
mutual
theorem gaE_len : ∀ (t : Ltl) (m : Mk2), (gaE t m).1.length + (gaE t m).2.length ≤ m.1.length + m.2.length + t.nodes
  | .mk k n kids, m => by
    simp only [gaE, Ltl.nodes]
    have h1 := gaE_len0 k n (.mk k n kids) m
    have h2 := gaEs_len kids (gaN k n (.mk k n kids) m)
    omega
theorem gaEs_len : ∀ (l : List Ltl) (m : Mk2), (gaEs l m).1.length + (gaEs l m).2.length ≤ m.1.length + m.2.length + Ltl.nodesL l
  | [], m => by simp [gaEs]
  | x :: r, m => by
    simp only [gaEs, Ltl.nodesL]
    have h1 := gaE_len x m
    have h2 := gaEs_len r (gaE x m)
    omega
end
theorem gaEs_take {kids : List Ltl} {m : Mk2} {i : Nat} (h : i < kids.length) : gaEs (kids.take (i + 1)) m = gaE kids[i] (gaEs (kids.take i) m) := by
  have : ∀ (l : List Ltl) (m : Mk2) (x : Ltl), gaEs (l ++ [x]) m = gaE x (gaEs l m) := by
    intro l
    induction l with
    | nil => intro m x; simp [gaEs]
    | cons y r ih => intro m x; simp only [List.cons_append, gaEs]; exact ih _ x
  rw [List.take_succ_eq_append_getElem h, this]
theorem gaE_mk (k n : Int) (kids : List Ltl) (m : Mk2) : gaE (.mk k n kids) m = gaEs kids (gaN k n (.mk k n kids) m) := by simp only [gaE]
/-- a maker that grows -/
structure MkO (w : World) (B : Nat) (F : Nat → Prop) (sb : Nat) (av pv : Value) (m : Mk2) : Prop where
  blk : Blk w sb 79 [av, pv]
  a : Own w B 3 Non av m.1
  p : Own w B 35 F pv m.2
  ge : B ≤ sb
  na : ∀ g, av.ownBlock = some g → g ≠ sb
  np : ∀ g, pv.ownBlock = some g → g ≠ sb
  nap : ∀ g, av.ownBlock = some g → pv.ownBlock ≠ some g
  hF : ∀ b, F b → b < B
def mkoB (sb : Nat) (av pv : Value) : Nat → Prop := fun b => b = sb ∨ av.ownBlock = some b ∨ pv.ownBlock = some b
theorem MkO.ext {w w' : World} {B : Nat} {F : Nat → Prop} {sb : Nat} {av pv : Value} {m : Mk2} (h : MkO w B F sb av pv m) (hB : B ≤ w.heap.size) (hE : Ext w w') : MkO w' B F sb av pv m :=
  ⟨h.blk.ext hE, h.a.extN hE, h.p.ext hE (fun b hb => Nat.lt_of_lt_of_le (h.hF b hb) hB), h.ge, h.na, h.np, h.nap, h.hF⟩
theorem MkO.lo {w : World} {B : Nat} {F : Nat → Prop} {sb : Nat} {av pv : Value} {m : Mk2} (h : MkO w B F sb av pv m) : ∀ b, mkoB sb av pv b → B ≤ b ∧ b < w.heap.size := fun b hb => by
  rcases hb with h' | h' | h'
  · have := h.ge; have := h.blk.lt; omega
  · exact ⟨(h.a.lt b h').1, (h.a.lt b h').2.1⟩
  · exact ⟨(h.p.lt b h').1, (h.p.lt b h').2.1⟩
/-- read -/
theorem MkO.rd {w : World} {B : Nat} {F : Nat → Prop} {sb : Nat} {av pv : Value} {m : Mk2} (h : MkO w B F sb av pv m) (hB : B ≤ w.heap.size) : MkA w sb m := by
  obtain ⟨ao, ac, rfl, h1⟩ := h.a.oldN.sl
  obtain ⟨po, pc, rfl, h2⟩ := h.p.slF (F' := Old w) (fun b hb => Nat.lt_of_lt_of_le (h.hF b hb) hB) (fun g hg => (h.p.lt g hg).2.1)
  exact ⟨ao, ac, po, pc, h.blk, h1, h2⟩
theorem set_last {l : List Ltl} {x y : Ltl} : (l ++ [x]).set l.length y = l ++ [y] := by
  rw [List.set_append_right _ _ (Nat.le_refl _)]; simp
set_option maxHeartbeats 4000000 in
theorem gather_ok : ∀ (d : Nat) (t : Ltl), t.nodes ≤ d → wfT t → ∀ (w : World) {B sb : Nat} {F : Nat → Prop} {av pv : Value} {m : Mk2} {ko : Option Addr} {kc : Nat}, MkO w B F sb av pv m → B ≤ w.heap.size → Sl w F ko kc t.kids → m.1.length + m.2.length + t.nodes ≤ 1000 →
    Rt Tryz.prog 31 [.pointer (some ⟨sb, 0, none⟩), ltlV t.k t.n ko t.kids.length kc].toArray w fun v w' => ∃ av' pv', MkO w' B F sb av' pv' (gaE t m) ∧ Chg (mkoB sb av pv) w w' ∧ (∀ g, av'.ownBlock = some g → av.ownBlock = some g ∨ w.heap.size ≤ g) ∧ ∀ g, pv'.ownBlock = some g → pv.ownBlock = some g ∨ w.heap.size ≤ g := by
  intro d
  induction d with
  | zero => intro t h; have := t.nodes_pos; omega
  | succ d ih =>
    rintro ⟨k, n, kids⟩ hd hwf w B sb F av pv m ko kc hM hB hk hsz
    simp only [Ltl.k, Ltl.n, Ltl.kids] at hk ⊢
    have hkl := kids_le hwf
    have hlo := hM.lo
    have hF := hM.hF
    refine Rt.enter2 Tryz.func31 Tryz.ntmps31 rfl rfl ?_
    rw [gaE_mk]
    have hlen1 := gaE_len0 k n (.mk k n kids) m
    (repeat (first | (apply CW.seq) | (apply CW.region)))
    refine WL.boxB rfl rfl rfl fun w1 hb3 e1 => ?_
    have l3 := hb3.lt
    have y1 := e1.size
    have hM1 := hM.ext hB e1
    apply WL.nil
    apply EX.thenN
    refine CW.cutI (S := Value × Value) (fun s => [(0, .pointer (some ⟨sb, 0, none⟩)), (3, .pointer (some ⟨w.heap.size, 0, none⟩))])
      (fun s w' => MkO w' B F sb s.1 s.2 (gaN k n (.mk k n kids) m) ∧ Chg (mkoB sb av pv) w1 w' ∧ (∀ g, s.1.ownBlock = some g → av.ownBlock = some g ∨ w1.heap.size ≤ g) ∧ ∀ g, s.2.ownBlock = some g → pv.ownBlock = some g ∨ w1.heap.size ≤ g) ?_ ?_
    · have skip : ∀ (w2 : World) (e2 : Ext w1 w2), gaN k n (.mk k n kids) m = m → MkO w2 B F sb av pv (gaN k n (.mk k n kids) m) ∧ Chg (mkoB sb av pv) w1 w2 ∧ (∀ g, av.ownBlock = some g → av.ownBlock = some g ∨ w1.heap.size ≤ g) ∧ ∀ g, pv.ownBlock = some g → pv.ownBlock = some g ∨ w1.heap.size ≤ g := fun w2 e2 hx => by
        rw [hx]
        exact ⟨hM1.ext (by omega) e2, Chg.of_ext _ e2, fun g hg => .inl hg, fun g hg => .inl hg⟩
      by_cases h3 : k = 3
      · have hx : gaN k n (.mk k n kids) m = (if n ∈ m.1 then m.1 else m.1 ++ [n], m.2) := by unfold gaN; rw [if_pos h3]
        subst h3
        obtain ⟨ao, ac, hav, h1⟩ := hM1.a.oldN.sl
        subst hav
        have hD := Ext.drew w1
        have hSE : ∀ z, (fun z : World => Ext (drew w1) z) z → Ext (drew w1) z := fun _ h => h
        have hblkd := hM1.blk.ext hD
        have hb3d := hb3.ext hD
        (repeat (first | (apply WL.pure; rfl; rfl; rfl) | (apply WL.nil) | (apply EX.thenN) | (apply CW.seq) | (apply CW.region) | (apply WL.fa; rfl; rfl; rfl) | (apply WL.ld; rfl; rfl; rfl; assumption; rfl) | (apply CW.block) | (apply CW.condT; rfl)))
        refine CW.drawH (fun z : World => Ext (drew w1) z) [(0, true), (1, true), (2, true), (3, true), (4, true), (5, true), (6, false), (7, true)] mixed (by kernel_rfl) (Ext.refl _) ?_
        (repeat (first | (apply HL.pure; rfl; rfl; rfl; rfl) | (refine HL.fa rfl rfl rfl rfl ?_) | (apply HL.nck; rfl; rfl; rfl; rfl) | (refine HL.ld (by assumption) rfl rfl rfl rfl (by assumption) rfl ?_)))
        refine HL.mut rfl (WL.call rfl rfl rfl (contains_int (drew w1) n (h1.up hD)) ?_)
        rintro _ w2 ⟨rfl, e2⟩
        refine WL.nil (EX.mut e2 ?_)
        have e12 : Ext w1 w2 := hD.trans e2
        cases hc : m.1.contains n with
        | true =>
          have hin : n ∈ m.1 := by simpa using hc
          rw [if_pos hin] at hx
          (repeat (first | (apply HL.pure; rfl; rfl; rfl; rfl) | (apply HL.nil)))
          (repeat (first | (apply EX.thenN) | (apply EX.inN) | (apply CW.condF; rfl) | (apply CW.skip)))
          exact EX.cutI (.slice ao m.1.length ac, pv) (by repeat (first | exact trivial | refine ⟨rfl, ?_⟩)) (skip w2 e12 hx)
        | false =>
          have hin : n ∉ m.1 := by simpa using hc
          rw [if_neg hin] at hx
          (repeat (first | (apply HL.pure; rfl; rfl; rfl; rfl) | (apply HL.nil)))
          have hM2 := hM1.ext (by omega) e12
          have hblk2 := hM2.blk
          have hb32 := hb3.ext e12
          have z12 := e12.size
          have lsb := hblk2.lt
          have hD2 := Ext.drew w2
          have hblkd2 := hblk2.ext hD2
          have hb3d2 := hb32.ext hD2
          have hna := hM2.na
          have hnap := hM2.nap
          have hlo2 := hM2.lo
          have hK5 : ∀ u, (fun x : World => x.heap[w.heap.size]? = (drew w2).heap[w.heap.size]? ∧ x.heap[sb]? = (drew w2).heap[sb]?) u → u.heap[w.heap.size]? = (drew w2).heap[w.heap.size]? := fun _ h => h.1
          have hKs : ∀ u, (fun x : World => x.heap[w.heap.size]? = (drew w2).heap[w.heap.size]? ∧ x.heap[sb]? = (drew w2).heap[sb]?) u → u.heap[sb]? = (drew w2).heap[sb]? := fun _ h => h.2
          have hb3n : ∀ g, (Value.slice ao m.1.length ac).ownBlock = some g → g ≠ w.heap.size := fun g hg => by have := (hlo g (.inr (.inl hg))).2; omega
          (repeat (first | (apply EX.thenN) | (apply CW.condT; rfl)))
          refine CW.drawE (fun x : World => x.heap[w.heap.size]? = (drew w2).heap[w.heap.size]? ∧ x.heap[sb]? = (drew w2).heap[sb]?) [(0, true), (1, true), (2, true), (3, true), (4, true), (5, true), (6, true), (7, false), (8, false), (9, false), (10, false)] 11 mixed (by kernel_rfl) ⟨rfl, rfl⟩ ?_
          (repeat (first | (apply HL.pure; rfl; rfl; rfl; rfl) | (refine HL.fa rfl rfl rfl rfl ?_) | (apply HL.nck; rfl; rfl; rfl; rfl) | (refine HL.ldK (by assumption) rfl rfl rfl rfl (by assumption) rfl ?_)))
          refine HL.app1 (α := Int) (F := Non) (bytes := 8) (yv := n) rfl rfl rfl rfl (fun _ => rfl) rfl rfl (fun _ => rfl) (hM2.a.extN hD2) (Rd.mkInt _ _ _) (by have := hD2.size; omega) (fun _ h => h.elim) (by decide) (by unfold maxLen; omega) (by omega)
            (fun z hz => ⟨hz.block _ (by have := hD2.size; omega) (fun e => hb3n _ e.symm rfl), hz.block _ (by have := hD2.size; omega) (fun e => hna _ e.symm rfl)⟩) (fun cl w5 q5 ho5 hg5 hnb5 => ?_)
          obtain ⟨lo', lc', rfl⟩ := ho5.val
          have hblk5 := hblkd2.kept hg5 (fun e => hna _ e.symm rfl)
          have hS5 : w5.heap[w.heap.size]? = (drew w2).heap[w.heap.size]? ∧ w5.heap[sb]? = (drew w2).heap[sb]? := ⟨hg5.block _ (by have := hD2.size; omega) (fun e => hb3n _ e.symm rfl), hg5.block _ (by have := hD2.size; omega) (fun e => hna _ e.symm rfl)⟩
          refine HL.mut rfl (WL.nck rfl rfl rfl (WL.nil (EX.mut hS5 ?_)))
          refine HL.mut rfl (WL.fa rfl rfl rfl (WL.nil (EX.mut hS5 (HL.nil ?_))))
          refine EX.tail rfl (WL.st rfl rfl rfl hblk5 rfl rfl (ones_of rfl) (fun w6 hblk6 hg6 => WL.nil (EX.tailE ?_)))
          have hC6 : Chg (mkoB sb (.slice ao m.1.length ac) pv) w1 w6 := (((Chg.of_ext (mkoB sb (.slice ao m.1.length ac) pv) (e12.trans hD2)).grown hg5 (fun g hg => .inr (.inl hg)))).grown hg6 (fun g hg => by cases hg; exact .inl rfl)
          have hp6 : Own w6 B 35 F pv m.2 := ((hM2.p.ext hD2 (fun b hb => by have := hF b hb; omega)).kept hg5 (fun g hg e => hnap g e.symm hg) (fun b hb => ⟨by have := hF b hb; have := hD2.size; omega, fun e => by have := (hlo2 b (.inr (.inl e.symm))).1; have := hF b hb; omega⟩)).kept hg6 (fun g hg e => hM2.np g hg (Option.some.inj e)) (fun b hb => ⟨by have := hF b hb; have := hD2.size; have := hg5.size; omega, fun e => by have := Option.some.inj e; have := hF b hb; have := hM2.ge; omega⟩)
          have z5 := hg5.size
          have zd := hD2.size
          have hns : ∀ g, (Value.slice lo' (m.1 ++ [n]).length lc').ownBlock = some g → g ≠ sb := fun g hg => (hnb5 g hg).elim (hna g) (fun h => by omega)
          (repeat (apply EX.inN))
          refine EX.cutI (.slice lo' (m.1 ++ [n]).length lc', pv) (by repeat (first | exact trivial | refine ⟨rfl, ?_⟩)) ?_
          rw [hx]
          refine ⟨⟨hblk6, ho5.keptN hg6 (fun g hg e => hns g hg (Option.some.inj e)), hp6, hM2.ge, hns, hM2.np, fun g hg hg2 => ?_, hF⟩, hC6, fun g hg => (hnb5 g hg).imp id (fun h => by omega), fun g hg => .inl hg⟩
          rcases hnb5 g hg with h | h
          · exact hnap g h hg2
          · have := (hlo2 g (.inr (.inr hg2))).2; omega
      by_cases h7 : k = 7 ∨ k = 8 ∨ k = 9
      · have hx : gaN k n (.mk k n kids) m = (m.1, if m.2.any (sameB (.mk k n kids)) = true then m.2 else m.2 ++ [.mk k n kids]) := by unfold gaN; rw [if_neg h3, if_pos h7]
        have b3 : (k == 3) = false := by rw [beq_eq_false_iff_ne]; exact h3
        have hkk : (k == 7) = true ∨ ((k == 7) = false ∧ (k == 8) = true) ∨ ((k == 7) = false ∧ (k == 8) = false ∧ (k == 9) = true) := by
          simp only [beq_iff_eq, beq_eq_false_iff_ne]; omega
        (repeat (first | (apply WL.pure; rfl; rfl; rfl) | (apply WL.nil) | (apply EX.thenN) | (apply CW.seq) | (apply CW.region) | (apply WL.fa; rfl; rfl; rfl) | (apply WL.ld; rfl; rfl; rfl; assumption; rfl) | (apply CW.block)))
        rw [b3]
        apply CW.condF; rfl
        refine CW.cut [(0, .pointer (some ⟨sb, 0, none⟩)), (3, .pointer (some ⟨w.heap.size, 0, none⟩)), (29, .bool true)] ?_ ?_
        · (repeat (first | (apply WL.pure; rfl; rfl; rfl) | (apply WL.nil) | (apply EX.thenN) | (apply CW.seq) | (apply CW.region)))
          rcases hkk with h | ⟨h, h2⟩ | ⟨h, h2, h3⟩
          · rw [h]
            (repeat (first | (apply CW.condT; rfl) | (apply CW.skip)))
            exact EX.cut (by repeat (first | exact trivial | refine ⟨rfl, ?_⟩))
          · rw [h]
            (repeat (first | (apply WL.pure; rfl; rfl; rfl) | (apply WL.nil) | (apply EX.thenN) | (apply CW.seq) | (apply CW.region) | (apply CW.condF; rfl)))
            rw [h2]
            (repeat (first | (apply CW.condT; rfl) | (apply CW.skip)))
            exact EX.cut (by repeat (first | exact trivial | refine ⟨rfl, ?_⟩))
          · rw [h]
            (repeat (first | (apply WL.pure; rfl; rfl; rfl) | (apply WL.nil) | (apply EX.thenN) | (apply CW.seq) | (apply CW.region) | (apply CW.condF; rfl)))
            rw [h2]
            (repeat (first | (apply WL.pure; rfl; rfl; rfl) | (apply WL.nil) | (apply CW.region) | (apply CW.condF; rfl)))
            rw [h3]
            skip
            exact EX.cut (by repeat (first | exact trivial | refine ⟨rfl, ?_⟩))
        have hpart := part_ok w1 (t := .mk k n kids) (hM1.rd (by omega)) (hk.mono (w' := w1) (fun b hb => e1.block b (by have := hF b hb; omega)) (fun b hb => by have := hF b hb; exact (show b < w1.heap.size by omega)))
        (repeat (first | (apply WL.pure; rfl; rfl; rfl) | (apply CW.seq) | (apply CW.region) | (apply WL.ldA; rfl; rfl; rfl; assumption; rfl) | (apply CW.condT; rfl)))
        refine WL.call rfl rfl rfl hpart ?_
        rintro _ w2 ⟨rfl, e12⟩
        have hM2 := hM1.ext (by omega) e12
        have hany := idxOf_any (sameB (.mk k n kids)) m.2
        by_cases ha : m.2.any (sameB (.mk k n kids)) = true
        · rw [if_pos ha] at hx
          rw [ha, decide_eq_true_eq] at hany
          have hlt : decide (partI m (.mk k n kids) < 0) = false := decide_eq_false (by unfold partI; omega)
          (repeat (first | (apply WL.pure; rfl; rfl; rfl) | (apply WL.nil) | (apply EX.thenN)))
          rw [hlt]
          (repeat (first | (apply EX.inN) | (apply CW.condF; rfl) | (apply CW.skip)))
          exact EX.cutI (av, pv) (by repeat (first | exact trivial | refine ⟨rfl, ?_⟩)) (skip w2 e12 hx)
        · rw [if_neg ha] at hx
          rw [Bool.not_eq_true] at ha
          rw [ha, decide_eq_false_iff_not] at hany
          have hlt : decide (partI m (.mk k n kids) < 0) = true := decide_eq_true (by unfold partI; omega)
          (repeat (first | (apply WL.pure; rfl; rfl; rfl) | (apply WL.nil) | (apply EX.thenN)))
          rw [hlt]
          have hblk2 := hM2.blk
          have hb32 := hb3.ext e12
          have z12 := e12.size
          have lsb := hblk2.lt
          have hD2 := Ext.drew w2
          have zd : (drew w2).heap.size = w2.heap.size := rfl
          have hblkd2 := hblk2.ext hD2
          have hb3d2 := hb32.ext hD2
          have hlo2 := hM2.lo
          obtain ⟨po, pc, rfl⟩ := hM2.p.val
          have hpd := hM2.p.ext hD2 (fun b hb => by have := hF b hb; omega)
          have hb3n : ∀ g, (Value.slice po m.2.length pc).ownBlock = some g → g ≠ w.heap.size := fun g hg => by have := (hlo g (.inr (.inr hg))).2; omega
          have hKs : ∀ u, (fun x : World => x.heap[sb]? = (drew w2).heap[sb]? ∧ x.heap[w.heap.size]? = (drew w2).heap[w.heap.size]?) u → u.heap[sb]? = (drew w2).heap[sb]? := fun _ h => h.1
          have hK3 : ∀ u, (fun x : World => x.heap[w.heap.size]? = (drew w2).heap[w.heap.size]?) u → u.heap[w.heap.size]? = (drew w2).heap[w.heap.size]? := fun _ h => h
          (repeat (apply CW.condT; rfl))
          refine CW.drawQ 9 12 (fun x : World => x.heap[w.heap.size]? = (drew w2).heap[w.heap.size]?) (fun x : World => x.heap[sb]? = (drew w2).heap[sb]? ∧ x.heap[w.heap.size]? = (drew w2).heap[w.heap.size]?)
            (toP 1 [(0, true), (1, true), (2, true), (4, true)] ++ (toP 2 [(3, true), (5, true)] ++ ((6, 0) :: (7, 0) :: (toP 1 [(8, true), (10, true), (11, true)] ++ [])))) mixed (by kernel_rfl) rfl ⟨rfl, rfl⟩ ?_
          refine HP.weak [(0, true), (1, true), (2, true), (4, true)] rfl ?_
          (repeat (first | (apply HL.pure; rfl; rfl; rfl; rfl) | (refine HL.fa rfl rfl rfl rfl ?_) | (apply HL.nck; rfl; rfl; rfl; rfl)))
          refine HL.ldAQ hK3 rfl rfl rfl rfl hb3d2 rfl ?_
          (repeat (apply HL.nil))
          refine EX.rest ?_
          refine HP.early [(3, true), (5, true)] rfl ?_
          (repeat (first | (refine HL.ldK (by assumption) rfl rfl rfl rfl (by assumption) rfl ?_) | (refine HL.lenS rfl rfl rfl rfl ?_) | (apply HL.nil)))
          refine EX.rest ?_
          refine HP.app1f (α := Ltl) (F := F) (bytes := 40) (yv := (.mk 0 0 [] : Ltl)) rfl rfl rfl rfl rfl rfl (fun _ => rfl) rfl rfl (fun _ => rfl) hpd (Rd.mkLtl (kids := []) (Sl.zero _ _)) (by omega) (fun b hb => by have := hF b hb; omega) (by decide) (by unfold maxLen; omega) (by omega)
            (fun z hz => ⟨hz.block _ (by omega) (fun e => hb3n _ e.symm rfl), hz.block _ (by omega) (fun e => hM2.np _ e.symm rfl), hz.block _ (by omega) (fun e => hb3n _ e.symm rfl)⟩) (fun cl w5 q5 ho5 hg5 hnb5 => ?_)
          have z5 := hg5.size
          obtain ⟨g5, off, c5, rfl⟩ : ∃ g5 off c5, cl = .slice (some ⟨g5, off, none⟩) (m.2 ++ [(.mk 0 0 [] : Ltl)]).length c5 := by
            rcases ho5 with ⟨_, h⟩ | ⟨g, o, c, cur, h, _⟩
            · simp at h
            · exact ⟨g, o, c, h⟩
          have hlt5 := (ho5.lt g5 rfl)
          have hg5n : g5 ≠ sb := fun e => (hnb5 g5 rfl).elim (fun h => hM2.np g5 h e) (fun h => by omega)
          have hg53 : g5 ≠ w.heap.size := fun e => (hnb5 g5 rfl).elim (fun h => hb3n g5 h e) (fun h => by omega)
          have hblk5 := hblkd2.kept hg5 (fun e => hM2.np _ e.symm rfl)
          have hS5 : w5.heap[w.heap.size]? = (drew w2).heap[w.heap.size]? := hg5.block _ (by omega) (fun e => hb3n _ e.symm rfl)
          have hS5s : w5.heap[sb]? = (drew w2).heap[sb]? := hg5.block _ (by omega) (fun e => hM2.np _ e.symm rfl)
          have hkF : ∀ {z : World}, (∀ b, F b → z.heap[b]? = w.heap[b]?) → Rd z F (ltlV k n ko kids.length kc) (Ltl.mk k n kids) := fun {z} hz => Rd.mkLtl (hk.mono hz (fun _ h => h))
          have hF5 : ∀ b, F b → w5.heap[b]? = w.heap[b]? := fun b hb => by
            have h1 := hF b hb
            exact (hg5.block b (by omega) (fun e => by have := (hlo2 b (.inr (.inr e.symm))).1; omega)).trans (((e1.trans e12).trans hD2).block b (by omega))
          have hB5 : B ≤ g5 := hlt5.1
          refine HP.weak [(8, true), (10, true), (11, true)] rfl ?_
          skip
          refine HL.idx (α := Ltl) rfl rfl rfl rfl rfl (by omega) (by simp; omega) ?_
          rw [Int.toNat_natCast]
          (repeat (first | (refine HL.fa rfl rfl rfl rfl ?_) | (apply HL.nck; rfl; rfl; rfl; rfl) | (apply HL.nil)))
          refine EX.rest ?_
          refine HP.nil ?_
          have done : ∀ {z : World}, Blk z sb 79 [av, .slice (some ⟨g5, off, none⟩) (m.2 ++ [(.mk 0 0 [] : Ltl)]).length c5] → Own z B 35 F (.slice (some ⟨g5, off, none⟩) (m.2 ++ [(.mk 0 0 [] : Ltl)]).length c5) ((m.2 ++ [(.mk 0 0 [] : Ltl)]).set m.2.length (.mk k n kids)) → Own z B 3 Non av m.1 → Chg (mkoB sb av (.slice po m.2.length pc)) w1 z →
              MkO z B F sb av (.slice (some ⟨g5, off, none⟩) (m.2 ++ [(.mk 0 0 [] : Ltl)]).length c5) (gaN k n (.mk k n kids) m) ∧ Chg (mkoB sb av (.slice po m.2.length pc)) w1 z ∧ (∀ g, av.ownBlock = some g → av.ownBlock = some g ∨ w1.heap.size ≤ g) ∧ ∀ g, (Value.slice (some ⟨g5, off, none⟩) (m.2 ++ [(.mk 0 0 [] : Ltl)]).length c5).ownBlock = some g → (Value.slice po m.2.length pc).ownBlock = some g ∨ w1.heap.size ≤ g := by
            intro z hbz hoz haz hcz
            rw [hx]
            rw [set_last] at hoz
            refine ⟨⟨hbz, haz, ?_, hM2.ge, hM2.na, fun g hg => by cases hg; exact hg5n, fun g hg hg2 => ?_, hF⟩, hcz, fun g hg => .inl hg, fun g hg => (hnb5 g hg).imp id (fun h => by omega)⟩
            · rw [show (m.2 ++ [(.mk 0 0 [] : Ltl)]).length = (m.2 ++ [(.mk k n kids : Ltl)]).length by simp] at *
              exact hoz
            · rcases hnb5 g hg2 with h | h
              · exact hM2.nap g hg h
              · have := (hlo2 g (.inr (.inl hg))).2; omega
          have ha5 : Own w5 B 3 Non av m.1 := (hM2.a.extN hD2).keptN hg5 (fun g hg e => hM2.nap g hg e.symm)
          have hC5 : Chg (mkoB sb av (.slice po m.2.length pc)) w1 w5 := (Chg.of_ext (mkoB sb av (.slice po m.2.length pc)) (e12.trans hD2)).grown hg5 (fun g hg => .inr (.inr hg))
          have hag5 : ∀ g, av.ownBlock = some g → g ≠ g5 := fun g hg e => by
            subst e
            rcases hnb5 g rfl with h | h
            · exact hM2.nap g hg h
            · have := (hlo2 g (.inr (.inl hg))).2; omega
          have hgM : mkoB sb av (.slice po m.2.length pc) g5 ∨ w1.heap.size ≤ g5 := (hnb5 g5 rfl).imp (fun h => .inr (.inr h)) (fun h => by omega)
          refine EX.pair rfl rfl ?_ ?_
          · refine WL.stO (α := Ltl) (i := m.2.length) (yv := (.mk k n kids : Ltl)) rfl rfl rfl ho5 (by simp) (hkF hF5) (fun w6 ho6 hg6 => WL.nil (EX.then2 ?_ ⟨?_, ?_⟩ ?_))
            · exact (hg6.block _ (by omega) (fun e => hg53 (Option.some.inj e).symm)).trans hS5
            · exact (hg6.block _ (by omega) (fun e => hg5n (Option.some.inj e).symm)).trans hS5s
            · exact (hg6.block _ (by omega) (fun e => hg53 (Option.some.inj e).symm)).trans hS5
            · have hblk6 := hblk5.kept hg6 (fun e => hg5n (Option.some.inj e).symm)
              refine WL.st rfl rfl rfl hblk6 rfl rfl (ones_of rfl) (fun w7 hblk7 hg7 => WL.nil (EX.end2 ?_ ?_))
              · have z6 := hg6.size
                exact (hg7.block _ (by omega) (fun e => by have := Option.some.inj e; have := hM.blk.lt; omega)).trans ((hg6.block _ (by omega) (fun e => hg53 (Option.some.inj e).symm)).trans hS5)
              · (repeat (apply EX.inN))
                refine EX.cutI (av, _) (by repeat (first | exact trivial | refine ⟨rfl, ?_⟩)) (done hblk7 (ho6.kept hg7 (fun g hg e => by cases hg; exact hg5n (Option.some.inj e)) (fun b hb => ⟨by have := hF b hb; have := hg6.size; omega, fun e => by have := Option.some.inj e; have := hF b hb; have := hM2.ge; omega⟩)) ((ha5.keptN hg6 (fun g hg e => hag5 g hg (Option.some.inj e))).keptN hg7 (fun g hg e => hM2.na g hg (Option.some.inj e))) ?_)
                exact (hC5.then (Chg.of_grown hg6) (fun b hb => by cases hb; exact hgM)).grown hg7 (fun g hg => by cases hg; exact .inl rfl)
          · refine WL.st rfl rfl rfl hblk5 rfl rfl (ones_of rfl) (fun w6 hblk6 hg6 => WL.nil (EX.then2 ?_ trivial ?_))
            · exact (hg6.block _ (by omega) (fun e => by have := Option.some.inj e; have := (hlo2 sb (.inl rfl)).2; have := hM.blk.lt; omega)).trans hS5
            · have z6 := hg6.size
              have ho6 := ho5.kept hg6 (fun g hg e => by cases hg; exact hg5n (Option.some.inj e)) (fun b hb => ⟨by have := hF b hb; omega, fun e => by have := Option.some.inj e; have := hF b hb; have := hM2.ge; omega⟩)
              refine WL.stO (α := Ltl) (i := m.2.length) (yv := (.mk k n kids : Ltl)) rfl rfl rfl ho6 (by simp) (hkF (fun b hb => (hg6.block b (by have := hF b hb; omega) (fun e => by have := Option.some.inj e; have := hF b hb; have := hM2.ge; omega)).trans (hF5 b hb))) (fun w7 ho7 hg7 => WL.nil (EX.end2 ?_ ?_))
              · exact (hg7.block _ (by omega) (fun e => hg53 (Option.some.inj e).symm)).trans ((hg6.block _ (by omega) (fun e => by have := Option.some.inj e; have := hM.blk.lt; omega)).trans hS5)
              · (repeat (apply EX.inN))
                refine EX.cutI (av, _) (by repeat (first | exact trivial | refine ⟨rfl, ?_⟩)) (done (hblk6.kept hg7 (fun e => hg5n (Option.some.inj e).symm)) ho7 ((ha5.keptN hg6 (fun g hg e => hM2.na g hg (Option.some.inj e))).keptN hg7 (fun g hg e => hag5 g hg (Option.some.inj e))) ?_)
                exact (hC5.grown hg6 (fun g hg => by cases hg; exact .inl rfl)).then (Chg.of_grown hg7) (fun b hb => by cases hb; exact hgM)
      · have hx : gaN k n (.mk k n kids) m = m := by unfold gaN; rw [if_neg h3, if_neg h7]
        have b3 : (k == 3) = false := by rw [beq_eq_false_iff_ne]; exact h3
        have b7 : (k == 7) = false := by rw [beq_eq_false_iff_ne]; omega
        have b8 : (k == 8) = false := by rw [beq_eq_false_iff_ne]; omega
        have b9 : (k == 9) = false := by rw [beq_eq_false_iff_ne]; omega
        (repeat (first | (apply WL.pure; rfl; rfl; rfl) | (apply WL.nil) | (apply EX.thenN) | (apply CW.seq) | (apply CW.region) | (apply WL.fa; rfl; rfl; rfl) | (apply WL.ld; rfl; rfl; rfl; assumption; rfl) | (apply CW.block)))
        rw [b3]
        (repeat (first | (apply WL.pure; rfl; rfl; rfl) | (apply WL.nil) | (apply EX.thenN) | (apply CW.seq) | (apply CW.region) | (apply CW.condF; rfl)))
        rw [b7]
        (repeat (first | (apply WL.pure; rfl; rfl; rfl) | (apply WL.nil) | (apply EX.thenN) | (apply CW.seq) | (apply CW.region) | (apply CW.condF; rfl)))
        rw [b8]
        (repeat (first | (apply WL.pure; rfl; rfl; rfl) | (apply WL.nil) | (apply EX.thenN) | (apply CW.region) | (apply CW.condF; rfl)))
        rw [b9]
        (repeat (first | (apply EX.inN) | (apply CW.condF; rfl) | (apply CW.skip)))
        exact EX.cutI (av, pv) (by repeat (first | exact trivial | refine ⟨rfl, ?_⟩)) (skip w1 (Ext.refl _) hx)
    · rintro ⟨av1, pv1⟩ w2 ⟨hM2, hC2, na2, np2⟩
      dsimp only at hM2 hC2 na2 np2 ⊢
      have z2 := hC2.size
      have hb32 : Blk w2 w.heap.size 35 [.int .i64 k, .int .i64 n, .slice ko kids.length kc] := (hC2.block _ l3 (fun hb => by have := (hlo _ hb).2; omega)).trans hb3
      have hlo2 := hM2.lo
      have hk2 : Sl w2 F ko kc kids := hk.mono (fun b hb => (hC2.block b (by have := hF b hb; omega) (fun hs => by have := (hlo b hs).1; have := hF b hb; omega)).trans (e1.block b (by have := hF b hb; omega))) (fun _ h => h)
      have hmk : (gaN k n (.mk k n kids) m).1.length + (gaN k n (.mk k n kids) m).2.length + Ltl.nodesL kids ≤ 1000 := by
        simp only [Ltl.nodes] at hsz; omega
      generalize gaN k n (.mk k n kids) m = m1 at *
      (repeat (first | (apply WL.pure; rfl; rfl; rfl) | (apply WL.nil) | (apply EX.thenN) | (apply CW.seq) | (apply CW.region) | (apply WL.lenS; rfl; rfl; rfl) | (apply WL.fa; rfl; rfl; rfl) | (apply WL.ld; rfl; rfl; rfl; assumption; rfl) | (apply CW.block)))
      refine CW.loop (S := Nat × Value × Value) (fun s => [(0, .pointer (some ⟨sb, 0, none⟩)), (49, .slice ko kids.length kc), (50, .int .i64 kids.length), (51, .int .i64 s.1)])
        (fun s w' => s.1 ≤ kids.length ∧ MkO w' B F sb s.2.1 s.2.2 (gaEs (kids.take s.1) m1) ∧ Chg (mkoB sb av1 pv1) w2 w' ∧ (∀ g, s.2.1.ownBlock = some g → av1.ownBlock = some g ∨ w2.heap.size ≤ g) ∧ ∀ g, s.2.2.ownBlock = some g → pv1.ownBlock = some g ∨ w2.heap.size ≤ g) (fun s => kids.length - s.1) (0, av1, pv1) (by repeat (first | exact trivial | refine ⟨rfl, ?_⟩))
        ⟨Nat.zero_le _, by simpa [gaEs] using hM2, Chg.refl _ _, fun g hg => .inl hg, fun g hg => .inl hg⟩ ?_
      rintro ⟨i, cv, qv⟩ w3 ⟨hi, hM3, hC3, na3, np3⟩
      dsimp only at hi hM3 hC3 na3 np3 ⊢
      have z3 := hC3.size
      have hlo3 := hM3.lo
      have hk3 : Sl w3 F ko kc kids := hk2.mono (fun b hb => hC3.block b (by have := hF b hb; omega) (fun hs => by have := (hlo2 b hs).1; have := hF b hb; omega)) (fun _ h => h)
      (repeat (first | (apply WL.pure; rfl; rfl; rfl) | (apply WL.nil) | (apply EX.thenN) | (apply CW.seq) | (apply CW.region)))
      refine CW.cond rfl (fun h => ?_) (fun h => ?_)
      · have hi' : i < kids.length := by simp at h; omega
        have hwk := wf_kid hwf hi'
        have hnk := nodes_kid' hd hi'
        have hlen3 := gaEs_len (kids.take i) m1
        have htk := gaEs_take (m := m1) hi'
        have hnn : Ltl.nodesL (kids.take i) + kids[i].nodes ≤ Ltl.nodesL kids := by
          have : ∀ (l : List Ltl) (i : Nat) (h : i < l.length), Ltl.nodesL (l.take i) + l[i].nodes ≤ Ltl.nodesL l := by
            intro l
            induction l with
            | nil => intro i h; simp at h
            | cons x r ih2 =>
              intro i h
              cases i with
              | zero => simp [Ltl.nodesL]
              | succ i =>
                have := ih2 i (by simpa using h)
                simp only [List.take_succ_cons, Ltl.nodesL, List.getElem_cons_succ]; omega
          exact this kids i hi'
        (repeat (first | (apply EX.thenN) | (apply CW.seq) | (apply CW.region) | (apply CW.block) | (apply CW.skip)))
        refine WL.elemN rfl rfl rfl rfl rfl hk3 hi' (fun _ => rfl) (fun u q hu => ?_)
        obtain ⟨uo, uc, rfl, hku⟩ := Rd.ltl hu
        generalize kids[i] = x at *
        skip
        refine WL.alloc rfl rfl (fun w4 hb5 e4 => ?_)
        skip
        refine WL.st rfl rfl rfl hb5 rfl rfl (ones_of rfl) (fun w5 hb5 hg5 => ?_)
        have e5 : Ext w3 w5 := e4.grown hg5 e4.size (fun g hg => by cases hg; exact Nat.le_refl _)
        have z5 := e5.size
        (repeat (first | (apply WL.pure; rfl; rfl; rfl) | (apply WL.nil) | (apply EX.thenN) | (apply CW.region) | (apply WL.ldA; rfl; rfl; rfl; assumption; rfl)))
        refine WL.call rfl rfl rfl (ih x hnk hwk w5 (hM3.ext (by omega) e5) (by omega) (hku.mono (fun b hb => e5.block b (by have := hF b hb; omega)) (fun _ h => h)) (by omega)) ?_
        rintro _ w6 ⟨cv', qv', hM6, hC6, na6, np6⟩
        rw [← htk] at hM6
        (repeat (first | (apply WL.add; rfl; rfl; rfl; rfl; omega; omega) | (apply WL.pure; rfl; rfl; rfl) | (apply WL.nil) | (apply EX.thenN) | (apply CW.region) | (apply EX.inN)))
        refine EX.back (i + 1, cv', qv') (by repeat (first | exact trivial | refine ⟨rfl, ?_⟩)) ⟨hi', hM6, (hC3.trans (Chg.of_ext _ e5)).then hC6 (fun b hb => ?_), fun g hg => ?_, fun g hg => ?_⟩ (by dsimp only; omega)
        · rcases hb with h | h | h
          · exact .inl (.inl h)
          · exact (na3 b h).imp (fun h => .inr (.inl h)) id
          · exact (np3 b h).imp (fun h => .inr (.inr h)) id
        · exact (na6 g hg).elim (na3 g) (fun h => .inr (by omega))
        · exact (np6 g hg).elim (np3 g) (fun h => .inr (by omega))
      · obtain rfl : i = kids.length := by simp at h; omega
        rw [List.take_length] at hM3
        (repeat (first | (apply CW.exit) | (apply EX.thenX) | (apply EX.inX)))
        refine EX.end0 rfl ⟨cv, qv, hM3, ((Chg.of_ext _ e1).trans hC2).then hC3 (fun b hb => ?_), fun g hg => ?_, fun g hg => ?_⟩
        · rcases hb with h | h | h
          · exact .inl (.inl h)
          · exact (na2 b h).imp (fun h => .inr (.inl h)) (fun h => by omega)
          · exact (np2 b h).imp (fun h => .inr (.inr h)) (fun h => by omega)
        · exact (na3 g hg).elim (fun h => (na2 g h).imp id (fun h => by omega)) (fun h => .inr (by omega))
        · exact (np3 g hg).elim (fun h => (np2 g h).imp id (fun h => by omega)) (fun h => .inr (by omega))
end Go.Proofs.YtllpfgcngokhnaaGreat

/-
  Package tableau: Make: walked.
-/
set_option linter.unusedVariables false
set_option linter.unusedSimpArgs false
namespace Go.Proofs.YtllpfgcngokhnaaGreat
open Go.RowKit

/-- a maker that is read, by its blocks -/
structure MkF (w : World) (F : Nat → Prop) (sb : Nat) (m : Mk2) : Prop where
  ok : ∃ ao ac po pc, Blk w sb 79 [.slice ao m.1.length ac, .slice po m.2.length pc] ∧ Sl w F ao ac m.1 ∧ Sl w F po pc m.2
  sb : F sb
theorem MkF.to {w w' : World} {F : Nat → Prop} {sb : Nat} {m : Mk2} (h : MkF w F sb m) (hK : ∀ b, F b → w'.heap[b]? = w.heap[b]?) : MkF w' F sb m := by
  obtain ⟨ao, ac, po, pc, h1, h2, h3⟩ := h.ok
  exact ⟨⟨ao, ac, po, pc, (hK sb h.sb).trans h1, h2.mono hK (fun _ h => h), h3.mono hK (fun _ h => h)⟩, h.sb⟩
theorem MkF.rd {w : World} {F : Nat → Prop} {sb : Nat} {m : Mk2} (h : MkF w F sb m) (hF : ∀ b, F b → b < w.heap.size) : MkA w sb m := by
  obtain ⟨ao, ac, po, pc, h1, h2, h3⟩ := h.ok
  exact ⟨ao, ac, po, pc, h1, h2.mono (fun _ _ => rfl) hF, h3.mono (fun _ _ => rfl) hF⟩
/-- the automaton that is built, field by field -/
structure OutA (w : World) (B b7 : Nat) (c : Nat → Value) (xs : List Int) (vs : List Raw) (mu no : List Nat) (us : List Raw) : Prop where
  blk : Blk w b7 60 [c 0, c 1, c 2, c 3, c 4]
  o0 : Own w B 3 Non (c 0) xs
  o1 : Own w B 22 Non (c 1) vs
  o2 : Own w B 65 Non (c 2) mu
  o3 : Own w B 65 Non (c 3) no
  o4 : Own w B 22 Non (c 4) us
  dj : ∀ i j, i < 5 → j < 5 → i ≠ j → ∀ g, (c i).ownBlock = some g → (c j).ownBlock ≠ some g
  lb : b7 < B
def oM (b2 b7 : Nat) (c : Nat → Value) : Nat → Prop := fun b => b = b2 ∨ b = b7 ∨ ∃ i, i < 5 ∧ (c i).ownBlock = some b
def updV (c : Nat → Value) (i : Nat) (v : Value) : Nat → Value := fun j => if j = i then v else c j
section
variable {w w' w'' : World} {B b2 b7 : Nat} {c : Nat → Value} {xs : List Int} {vs us : List Raw} {mu no : List Nat} {i : Nat} {v' : Value}
theorem OutA.lt (h : OutA w B b7 c xs vs mu no us) : ∀ j, j < 5 → ∀ g, (c j).ownBlock = some g → B ≤ g ∧ g < w.heap.size := fun j hj g hg => by
  match j, hj with
  | 0, _ => exact ⟨(h.o0.lt g hg).1, (h.o0.lt g hg).2.1⟩
  | 1, _ => exact ⟨(h.o1.lt g hg).1, (h.o1.lt g hg).2.1⟩
  | 2, _ => exact ⟨(h.o2.lt g hg).1, (h.o2.lt g hg).2.1⟩
  | 3, _ => exact ⟨(h.o3.lt g hg).1, (h.o3.lt g hg).2.1⟩
  | 4, _ => exact ⟨(h.o4.lt g hg).1, (h.o4.lt g hg).2.1⟩
theorem OutA.ext (h : OutA w B b7 c xs vs mu no us) (hE : Ext w w') : OutA w' B b7 c xs vs mu no us :=
  ⟨h.blk.ext hE, h.o0.extN hE, h.o1.extN hE, h.o2.extN hE, h.o3.extN hE, h.o4.extN hE, h.dj, h.lb⟩
/-- one field grows: what the others are -/
theorem OutA.step (h : OutA w B b7 c xs vs mu no us) (hi : i < 5) (hg1 : w.grownBy w' (c i).ownBlock) (hg2 : w'.grownBy w'' (some b7)) (hnew : ∀ g, v'.ownBlock = some g → (c i).ownBlock = some g ∨ w.heap.size ≤ g) (hB : B ≤ w.heap.size) :
    (∀ j, j < 5 → j ≠ i → ∀ {α : Type} [Rep α] {e : TypeId} {ys : List α}, Own w B e Non (c j) ys → Own w'' B e Non (c j) ys) ∧ (∀ {α : Type} [Rep α] {e : TypeId} {ys : List α}, Own w' B e Non v' ys → Own w'' B e Non v' ys) ∧
      (∀ j k, j < 5 → k < 5 → j ≠ k → ∀ g, (updV c i v' j).ownBlock = some g → (updV c i v' k).ownBlock ≠ some g) ∧ Chg (oM b2 b7 c) w w'' ∧ (∀ b, oM b2 b7 (updV c i v') b → oM b2 b7 c b ∨ w.heap.size ≤ b) ∧ Chg (fun b => b = b7 ∨ B ≤ b) w w'' := by
  have hlt := h.lt
  have hlb := h.lb
  have z1 := hg1.size
  refine ⟨fun j hj hne α _ e ys ho => (ho.keptN hg1 (fun g hg he => h.dj j i hj hi hne g hg he.symm)).keptN hg2 (fun g hg he => by have := (hlt j hj g hg).1; have := Option.some.inj he; omega),
    fun ho => ho.keptN hg2 (fun g hg he => by have := (ho.lt g hg).1; have := Option.some.inj he; omega), fun j k hj hk hne g hg hg' => ?_, ((Chg.of_grown hg1).wk (fun b hb => .inr (.inr ⟨i, hi, hb⟩))).grown hg2 (fun g hg => by cases hg; exact .inr (.inl rfl)), fun b hb => ?_, ?_⟩
  · unfold updV at hg hg'
    by_cases e1 : j = i
    · subst e1
      rw [if_pos rfl] at hg
      rw [if_neg (fun e => hne e.symm)] at hg'
      rcases hnew g hg with h1 | h1
      · exact h.dj j k hj hk hne g h1 hg'
      · have := (hlt k hk g hg').2; omega
    · rw [if_neg e1] at hg
      by_cases e2 : k = i
      · subst e2
        rw [if_pos rfl] at hg'
        rcases hnew g hg' with h1 | h1
        · exact h.dj j k hj hk hne g hg h1
        · have := (hlt j hj g hg).2; omega
      · rw [if_neg e2] at hg'
        exact h.dj j k hj hk hne g hg hg'
  · rcases hb with hb | hb | ⟨j, hj, hb⟩
    · exact .inl (.inl hb)
    · exact .inl (.inr (.inl hb))
    · unfold updV at hb
      by_cases e : j = i
      · subst e
        rw [if_pos rfl] at hb
        exact (hnew b hb).imp (fun h => .inr (.inr ⟨j, hj, h⟩)) id
      · rw [if_neg e] at hb
        exact .inl (.inr (.inr ⟨j, hj, hb⟩))
  · exact ((Chg.of_grown hg1).wk (fun b hb => .inr (hlt i hi b hb).1)).grown hg2 (fun g hg => by cases hg; exact .inl rfl)
end
def byL (m : Mk2) (K i : Nat) : List (List Int) := (List.range K).map fun k => ((List.range i).filter fun t => decide (keepN m t = k)).map fun t : Nat => (t : Int)
theorem byL_len {m : Mk2} {K i : Nat} : (byL m K i).length = K := by unfold byL; rw [List.length_map, List.length_range]
theorem byL_get {m : Mk2} {K i k : Nat} (h : k < (byL m K i).length) : (byL m K i)[k] = ((List.range i).filter fun t => decide (keepN m t = k)).map fun t : Nat => (t : Int) := by
  simp only [byL, List.getElem_map, List.getElem_range]
theorem byL_row {m : Mk2} {K i k : Nat} (h : k < (byL m K i).length) : (byL m K i)[k].length ≤ i := by
  rw [byL_get, List.length_map]
  exact Nat.le_trans (List.length_filter_le _ _) (by rw [List.length_range]; exact Nat.le_refl _)
theorem byL_zero {m : Mk2} {K : Nat} : byL m K 0 = List.replicate K [] := by
  unfold byL
  refine List.ext_getElem (by simp) fun i h1 h2 => ?_
  simp
theorem byL_next {m : Mk2} {K i : Nat} (h : keepN m i < (byL m K i).length) : (byL m K i).set (keepN m i) ((byL m K i)[keepN m i] ++ [(i : Int)]) = byL m K (i + 1) := by
  refine List.ext_getElem (by rw [List.length_set, byL_len, byL_len]) fun j h1 h2 => ?_
  rw [List.getElem_set, byL_get h2, List.range_succ, List.filter_append, List.map_append]
  by_cases e : keepN m i = j
  · subst e
    rw [if_pos rfl, byL_get]
    simp
  · rw [if_neg e, byL_get]
    simp [e]
def selL (p : Nat → Bool) (i : Nat) : List Int := ((List.range i).filter p).map fun s : Nat => (s : Int)
theorem selL_next {p : Nat → Bool} {i : Nat} : selL p (i + 1) = if p i = true then selL p i ++ [(i : Int)] else selL p i := by
  unfold selL
  rw [List.range_succ, List.filter_append, List.map_append, List.filter_cons, List.filter_nil]
  cases p i <;> simp
theorem selL_len {p : Nat → Bool} {i : Nat} : (selL p i).length ≤ i := by
  unfold selL
  rw [List.length_map]
  exact Nat.le_trans (List.length_filter_le _ _) (by rw [List.length_range]; exact Nat.le_refl _)
theorem rngM_next {α : Type} {f : Nat → α} {i : Nat} : (List.range (i + 1)).map f = (List.range i).map f ++ [f i] := by rw [List.range_succ, List.map_append]; rfl
theorem rdU64 (w : World) (F : Nat → Prop) (x : Nat) (h : x < 18446744073709551616) : Rd w F (.int .u64 (x : Int)) x := ⟨_, rfl, rd_mkU64 _ _ x h⟩
theorem nilA5_at (w : World) : AutoAt w (Old w) (.agg #[.slice none 0 0, .slice none 0 0, .slice none 0 0, .slice none 0 0, .slice none 0 0]) nilA5 :=
  ⟨none, 0, none, 0, none, 0, none, 0, none, 0, rfl, Sl.zero w _, Sl.zero w _, Sl.zero w _, Sl.zero w _, Sl.zero w _⟩
set_option maxHeartbeats 4000000 in
theorem Make_ok (w0 : World) {t : Ltl} {ko : Option Addr} {kc : Nat} (hk : Sl w0 (Old w0) ko kc t.kids) :
    Rt Tryz.prog 20 [ltlV t.k t.n ko t.kids.length kc].toArray w0 fun v w' => (∃ rv, v = .tuple ⟨[rv, .int .i64 (makeT t).2]⟩ ∧ AutoAt w' (Old w') rv (makeT t).1) ∧ Ext w0 w' := by
  refine Rt.enter1 Tryz.func20 Tryz.ntmps20 rfl rfl ?_
  have hE := Ext.refl w0
  (repeat (first | (apply CW.seq) | (apply CW.region)))
  refine WL.boxB rfl rfl rfl fun w1 hb1 e1 => ?_
  have hE := hE.trans e1
  have l1 := hb1.lt
  skip
  refine WL.alloc rfl rfl (fun w2 hb2 e2 => ?_)
  have hb1 := hb1.ext e2
  have hE := hE.trans e2
  have l2 := hb2.lt
  have y2 := e2.size
  (repeat (first | (apply WL.pure; rfl; rfl; rfl) | (apply WL.nil) | (apply EX.thenN) | (apply CW.seq) | (apply CW.region) | (apply WL.ldA; rfl; rfl; rfl; assumption; rfl)))
  refine WL.call rfl rfl rfl (Plain_ok w2 (hk.up hE) (fun _ h => h)) ?_
  rintro _ w3 ⟨x, rfl, hx, e3⟩
  unfold makeT
  have hpl := plainE_ok (t := t)
  have hhas := plain_has t
  generalize (plainE t).2 = err at *
  generalize (plainE t).1 = f at *
  obtain ⟨fo, fc, rfl, hfk⟩ := Rd.ltl hx
  have hb1 := hb1.ext e3
  have hb2 := hb2.ext e3
  have hE := hE.trans e3
  have y3 := e3.size
  (repeat (apply WL.pure; rfl; rfl; rfl))
  refine WL.st rfl rfl rfl hb1 rfl rfl (ones_of rfl) (fun w4 hb1 hg4 => ?_)
  have y4 := hg4.size
  have hE4 : Ext w0 w4 := hE.grown hg4 hE.size (fun g hg => by cases hg; omega)
  have hb24 := hb2.kept hg4 (fun e => by have := Option.some.inj e; omega)
  have hfk4 : Sl w4 (Nw w2 w3) fo fc f.kids := hfk.mono (fun b hb => hg4.block b hb.2 (fun e => by have := Option.some.inj e; have := hb.1; omega)) (fun _ h => h)
  clear hfk hx hg4 hb2 e1 e2 e3 hE
  (repeat (first | (apply WL.pure; rfl; rfl; rfl) | (apply WL.nil) | (apply EX.thenN) | (apply CW.seq) | (apply CW.region)))
  refine CW.cond rfl (fun h => ?_) (fun h => ?_)
  · have h : err ≠ 0 := by simpa using h
    rw [if_pos h]
    (repeat (first | (apply CW.seq) | (apply CW.region)))
    refine WL.build (parts := []) rfl rfl rfl rfl ?_
    (repeat (apply WL.pure; rfl; rfl; rfl))
    refine WL.st rfl rfl rfl hb24 rfl rfl (ones_of rfl) (fun w5 hb5 hg5 => ?_)
    have hE5 : Ext w0 w5 := hE4.grown hg5 hE4.size (fun g hg => by cases hg; omega)
    (repeat (first | (apply WL.pure; rfl; rfl; rfl) | (apply WL.nil) | (apply EX.thenN) | (apply CW.ret) | (apply EX.thenR)))
    exact EX.retC2 rfl rfl rfl hb5 rfl ⟨⟨_, rfl, nilA5_at _⟩, hE5⟩
  have h : err = 0 := by simpa using h
  obtain ⟨hw, rfl, hwp, hn60⟩ := hpl h
  have hhas := hhas hw
  rw [if_neg (by simp [h])]
  clear h hpl
  generalize plainL t = f at *
  obtain ⟨hT, hF⟩ := tabM_ok hwp hhas.1 hhas.2
  have hga := gaE_len f ([], [])
  have hmlen := tabM_len f
  (repeat (first | (apply EX.thenN) | (apply CW.seq) | (apply CW.region) | (apply CW.skip)))
  refine WL.build (parts := []) rfl rfl rfl rfl ?_
  refine WL.boxB rfl rfl rfl fun w5 hsb e5 => ?_
  have l5 := hsb.lt
  have y5 := e5.size
  have hM5 : MkO w5 w4.heap.size (Nw w2 w3) w4.heap.size (.slice none 0 0) (.slice none 0 0) ([], []) :=
    ⟨hsb, Own.nil, Own.nil, Nat.le_refl _, (fun g hg => by cases hg), (fun g hg => by cases hg), (fun g hg => by cases hg), fun b hb => by have := hb.2; omega⟩
  have hb15 := hb1.ext e5
  have hb25 := hb24.ext e5
  have hE5 := hE4.trans e5
  (repeat (first | (apply WL.pure; rfl; rfl; rfl) | (apply WL.nil) | (apply EX.thenN) | (apply CW.seq) | (apply CW.region) | (apply WL.ldA; rfl; rfl; rfl; assumption; rfl)))
  refine WL.call rfl rfl rfl (gather_ok _ f (Nat.le_refl _) hwp w5 hM5 y5 (hfk4.mono (fun b hb => e5.block b (by have := hb.2; omega)) (fun _ h => h)) (by simp; omega)) ?_
  rintro _ w6 ⟨av, pv, hM6, hC6, na6, np6⟩
  have y6 := hC6.size
  have hlo6 := hM6.lo
  have hC6' : Chg (fun b => b = w4.heap.size) w5 w6 := hC6.wk (fun b hb => by
    rcases hb with h | h | h
    · exact h
    · cases h
    · cases h)
  have hblk6 := hM6.blk
  (repeat (first | (apply WL.pure; rfl; rfl; rfl) | (apply WL.nil) | (apply EX.thenN) | (apply CW.seq) | (apply CW.region) | (apply WL.fa; rfl; rfl; rfl) | (apply WL.nck; rfl; rfl; rfl) | (apply WL.ld; rfl; rfl; rfl; assumption; rfl)))
  refine WL.call rfl rfl rfl (sort_int w6 hM6.a (by simp at hga; omega)) ?_
  rintro _ w7 ⟨rfl, hso, hg7⟩
  have y7 := hg7.size
  have hsbE : w4.heap.size < w5.heap.size := l5
  have hM7 : MkO w7 w4.heap.size (Nw w2 w3) w4.heap.size av pv (tabM f) :=
    ⟨hM6.blk.kept hg7 (fun e => hM6.na _ e.symm rfl), hso, hM6.p.kept hg7 (fun g hg e => hM6.nap g e.symm hg) (fun b hb => ⟨by have := hb.2; omega, fun e => by have := (hlo6 b (.inr (.inl e.symm))).1; have := hb.2; omega⟩), hM6.ge, hM6.na, hM6.np, hM6.nap, hM6.hF⟩
  -- what is old, but for the maker
  have hold : ∀ b, b < w4.heap.size → w7.heap[b]? = w4.heap[b]? := fun b hb => (hg7.block b (by omega) (fun e => by have := (hlo6 b (.inr (.inl e.symm))).1; omega)).trans ((hC6'.block b (by omega) (by omega)).trans (e5.block b hb))
  have hb17 : Blk w7 _ _ _ := (hold _ (by omega)).trans hb1
  have hb27 : Blk w7 _ _ _ := (hold _ (by omega)).trans hb24
  have hE7 : Ext w0 w7 := by
    have h1 : Ext w4 w7 := ⟨hg7.os.trans (hC6.os.trans e5.os), hg7.tape.trans (hC6.tape.trans e5.tape), hg7.output.trans (hC6.output.trans e5.output), by omega, hold⟩
    exact hE4.trans h1
  have hfk7 : Sl w7 (Nw w2 w3) fo fc f.kids := hfk4.mono (fun b hb => hold b (by have := hb.2; omega)) (fun _ h => h)
  clear hM6 hC6 na6 np6 hC6' hblk6 hso hg7 hM5 hsb hb15 hb25 hfk4 hb24 hb1 e5 hE5 hlo6
  obtain ⟨ao, ac, rfl⟩ := hM7.a.val
  obtain ⟨po, pc, rfl⟩ := hM7.p.val
  have hblk7 := hM7.blk
  have hml : (tabM f).1.length + (tabM f).2.length ≤ 60 := by rw [hmlen.1, hmlen.2]; simp at hga; omega
  (repeat (first | (apply QL.add; rfl; rfl; rfl; rfl; omega; omega) | (apply QL.pure; rfl; rfl; rfl) | (apply WL.nil) | (apply EX.thenN) | (apply CW.seq) | (apply QL.lenS; rfl; rfl; rfl) | (apply QL.fa; rfl; rfl; rfl) | (apply QL.nck; rfl; rfl; rfl) | (apply QL.ld; rfl; rfl; rfl; assumption; rfl) | (apply CW.draw; exact mixed; kernel_rfl)))
  refine QL.nil (fun w8 e8 => ?_)
  have hE8 := hE7.trans e8
  have hb18 := hb17.ext e8
  have hb28 := hb27.ext e8
  have y8 := e8.size
  have hM8 := hM7.ext (by omega) e8
  have hfk8 := hfk7.mono (w' := w8) (fun b hb => e8.block b (by have := hb.2; omega)) (F' := fun b => b < w8.heap.size) (fun b hb => by have := hb.2; omega)
  rw [show (((tabM f).1.length : Nat) : Int) + (((tabM f).2.length : Nat) : Int) = ((numN (tabM f) : Nat) : Int) by unfold numN; omega]
  (repeat (first | (apply WL.pure; rfl; rfl; rfl) | (apply WL.nil) | (apply EX.thenN) | (apply CW.seq) | (apply CW.region)))
  refine CW.cond rfl (fun h => ?_) (fun h => ?_)
  · have h : numN (tabM f) > 10 := by exact_mod_cast of_decide_eq_true h
    rw [if_pos h]
    (repeat (first | (apply CW.seq) | (apply CW.region)))
    refine WL.build (parts := []) rfl rfl rfl rfl ?_
    skip
    refine WL.st rfl rfl rfl hb28 rfl rfl (ones_of rfl) (fun w9 hb9 hg9 => ?_)
    have hE9 : Ext w0 w9 := hE8.grown hg9 hE8.size (fun g hg => by cases hg; omega)
    (repeat (first | (apply WL.pure; rfl; rfl; rfl) | (apply WL.nil) | (apply EX.thenN) | (apply CW.ret) | (apply EX.thenR)))
    exact EX.retC2 rfl rfl rfl hb9 rfl ⟨⟨_, rfl, nilA5_at _⟩, hE9⟩
  have h10 : ¬ numN (tabM f) > 10 := by exact_mod_cast of_decide_eq_false h
  rw [if_neg h10]
  clear h
  have hlo8 := hM8.lo
  have hMk8 : MkF w8 (fun b => b < w8.heap.size) w4.heap.size (tabM f) := by
    obtain ⟨po', pc', ep, hps⟩ := hM8.p.slF (F' := fun b => b < w8.heap.size) (fun b hb => by have := hb.2; omega) (fun g hg => (hM8.p.lt g hg).2.1)
    obtain ⟨ao', ac', ea, has⟩ := hM8.a.slF (F' := fun b => b < w8.heap.size) (fun b hb => hb.elim) (fun g hg => (hM8.a.lt g hg).2.1)
    obtain ⟨rfl, _, rfl⟩ := Value.slice.inj ep
    obtain ⟨rfl, _, rfl⟩ := Value.slice.inj ea
    exact ⟨⟨ao, ac, po, pc, hM8.blk, has, hps⟩, by omega⟩
  have hmk := hMk8
  clear hM7 hM8 hblk7 hE7 hb17 hb27 hfk7 hold hlo8 hmlen hga e8
  generalize tabM f = m at *
  generalize hsbn : w4.heap.size = sb at *
  have hl20 : m.1.length ≤ 20 ∧ m.2.length ≤ 20 := by unfold numN at h10; omega
  have hpN : (1 <<< numN m) = 2 ^ numN m := Nat.one_shiftLeft _
  have hp10 : 2 ^ numN m ≤ 2 ^ 10 := Nat.pow_le_pow_right (by omega) (by omega)
  have hpK : (1 <<< m.2.length) = 2 ^ m.2.length := Nat.one_shiftLeft _
  have hpK10 : 2 ^ m.2.length ≤ 2 ^ 10 := Nat.pow_le_pow_right (by omega) (by unfold numN at h10; omega)
  (repeat (first | (apply EX.thenN) | (apply CW.seq) | (apply CW.region) | (apply CW.skip)))
  refine WL.alloc rfl rfl (fun w9 hb7 e9 => ?_)
  have l9 := hb7.lt
  have hb19 := hb18.ext e9
  have hb29 := hb28.ext e9
  have hmk9 := hmk.to (w' := w9) (fun b hb => e9.block b hb)
  have hfk9 := hfk8.mono (w' := w9) (fun b hb => e9.block b hb) (F' := fun b => b < w8.heap.size) (fun _ h => h)
  have hE9 := hE8.trans e9
  obtain ⟨ao', ac', po', pc', hblk9, has9, hps9⟩ := hmk9.ok
  generalize hb7n : w8.heap.size = b7 at *
  (repeat (first | (apply WL.pure; rfl; rfl; rfl) | (apply WL.nil) | (apply EX.thenN) | (apply CW.seq) | (apply CW.region) | (apply WL.lenS; rfl; rfl; rfl) | (apply WL.fa; rfl; rfl; rfl) | (apply WL.nck; rfl; rfl; rfl) | (apply WL.ld; rfl; rfl; rfl; assumption; rfl)))
  rw [shlS (show m.2.length < 62 by omega)]
  generalize 1 <<< m.2.length = K at *
  refine WL.make (α := Raw) rfl rfl rfl rfl (by omega) (by unfold maxLen; omega) (fun w10 ho10 hg10 => ?_)
  have e10 : Ext w9 w10 := (Below.refl _ _).grown hg10 (Nat.le_refl _) (fun k h => by cases h)
  generalize hbv : Value.slice (some ⟨w9.heap.size, 0, none⟩) (K) (K) = bv at *
  have hN10 : OwnN w10 w9.heap.size 22 3 bv _ (List.replicate (K) ([] : List Int)) := OwnN.made ho10
  rw [← byL_zero (m := m)] at hN10
  clear ho10 hg10
  (repeat (first | (apply WL.pure; rfl; rfl; rfl) | (apply WL.nil) | (apply EX.thenN) | (apply CW.seq) | (apply CW.region) | (apply CW.block)))
  rw [shlS (show numN m < 62 by omega)]
  generalize 1 <<< numN m = N at *
  refine CW.loop (S := Nat × List Raw) (fun s => [(1, .pointer (some ⟨w0.heap.size, 0, none⟩)), (2, .pointer (some ⟨w1.heap.size, 0, none⟩)), (5, .pointer (some ⟨sb, 0, none⟩)), (6, .int .i64 ((numN m : Nat) : Int)), (7, .pointer (some ⟨b7, 0, none⟩)), (8, bv), (57, .int .i64 (N : Int)), (58, .int .i64 s.1)])
    (fun s w => s.1 ≤ N ∧ OwnN w w9.heap.size 22 3 bv s.2 (byL m (K) s.1) ∧ Ext w9 w) (fun s => N - s.1) (0, _) (by repeat (first | exact trivial | refine ⟨rfl, ?_⟩)) ⟨Nat.zero_le _, hN10, e10⟩ ?_
  clear hN10 e10
  rintro ⟨i, vs⟩ w ⟨hi, hN, e⟩
  dsimp only at hi hN e ⊢
  have hvl := hN.len
  rw [byL_len] at hvl
  (repeat (first | (apply WL.pure; rfl; rfl; rfl) | (apply WL.nil) | (apply EX.thenN) | (apply CW.seq) | (apply CW.region)))
  refine CW.cond rfl (fun h => ?_) (fun h => ?_)
  · have hi' : i < N := by have h := of_decide_eq_true h; omega
    clear h
    (repeat (first | (apply WL.pure; rfl; rfl; rfl) | (apply WL.nil) | (apply EX.thenN) | (apply CW.seq) | (apply CW.region) | (apply CW.block) | (apply CW.skip)))
    refine WL.call rfl rfl rfl (kept_ok w ((hmk9.rd (fun b hb => by omega)).ext e) hT (by rw [hpN] at hi'; omega) hl20) ?_
    rintro _ w11 ⟨rfl, e11⟩
    have hN11 := hN.ext e11
    have e911 := e.trans e11
    have hkl : keepN m i < K := by rw [hpK]; exact packB_lt
    have hkv : keepN m i < vs.length := by omega
    have hkb : keepN m i < (byL m (K) i).length := by rw [byL_len]; exact hkl
    have hin := hN11.inn (keepN m i) hkv hkb
    have hrow := byL_row (m := m) hkb
    have hnx := byL_next (m := m) hkb
    generalize keepN m i = k at *
    (repeat (first | (apply WL.pure; rfl; rfl; rfl) | (apply WL.nil) | (apply EX.thenN) | (apply CW.region)))
    refine WL.elemON rfl rfl rfl rfl rfl hN11.out hkv (fun _ => rfl) (fun u q hu => ?_)
    obtain ⟨rfl, _⟩ := hu.raw
    (repeat (apply WL.pure; rfl; rfl; rfl))
    refine WL.app1 (F := Non) (yv := (i : Int)) rfl rfl (fun _ => rfl) rfl rfl (fun _ => rfl) hin (Rd.mkInt _ _ _) e911.size (fun _ h => h.elim) (by decide) (by unfold maxLen; omega) (by omega) (fun v' w12 p ho12 hg12 hnb => ?_)
    have hmid := hN11.mid hkv hg12
    skip
    refine WL.setN (u := v') (yv := ⟨v'⟩) rfl rfl rfl rfl hmid hkv (fun _ => rfl) (fun _ => rfl) (Rd.mkRaw _ _ _ ?_) (fun w13 q ho13 hg13 => ?_)
    · obtain ⟨a, b, rfl⟩ := ho12.val; rfl
    have hN13 := hN11.set hkv ho12 hg12 hnb ho13 hg13
    rw [hnx] at hN13
    have e13 : Ext w9 w13 := (e911.grown hg12 e911.size (fun b hb => (hin.lt b hb).1)).grown hg13 (Nat.le_trans e911.size hg12.size) (fun b hb => (hN11.out.lt b hb).1)
    (repeat (first | (apply WL.add; rfl; rfl; rfl; rfl; omega; omega) | (apply WL.pure; rfl; rfl; rfl) | (apply WL.nil) | (apply EX.thenN) | (apply CW.region) | (apply EX.inN)))
    exact EX.back (i + 1, vs.set k ⟨v'⟩) (by repeat (first | exact trivial | refine ⟨rfl, ?_⟩)) ⟨hi', hN13, e13⟩ (by dsimp only; omega)
  obtain rfl : N = i := by have h := of_decide_eq_false h; omega
  clear h hi
  have hlN := hN.lt
  obtain ⟨bo, bc, rfl, hby⟩ := hN.sl
  have yw := e.size
  have hbyL := hby.mono (w' := w) (fun _ _ => rfl) (F' := fun b => w9.heap.size ≤ b ∧ b < w.heap.size) (fun b hb => hlN b hb)
  have hmkL := hmk9.to (w' := w) (fun b hb => e.block b (by omega))
  have hfkL := hfk9.mono (w' := w) (fun b hb => e.block b (by omega)) (F' := fun b => b < b7) (fun _ h => h)
  have hb7L := hb7.ext e
  have hb1L := hb19.ext e
  have hb2L := hb29.ext e
  have hEL := hE9.trans e
  have hNlt : N ≤ 1024 := by rw [hpN]; exact hp10
  clear hN hvl hby hlN hb7 hb19 hb29 hmk9 hfk9 e9 hE9 hE8 hb18 hb28 hmk hfk8 hblk9 has9 hps9 e
  generalize hwLn : w.heap.size = wn at *
  have holdL : ∀ {z : World}, Chg (fun b => b = b7 ∨ wn ≤ b) w z → ∀ b, b < wn → b ≠ b7 → z.heap[b]? = w.heap[b]? := fun {z} hC b hb hne => hC.block b (by omega) (by omega)
  have hMA : ∀ {z : World}, Chg (fun b => b = b7 ∨ wn ≤ b) w z → MkA z sb m ∧ Sl z (Old z) fo fc f.kids ∧ Blk z w0.heap.size 35 [.int .i64 f.k, .int .i64 f.n, .slice fo f.kids.length fc] ∧ Sl z (fun b => w9.heap.size ≤ b ∧ b < wn) bo bc (byL m K N) := fun {z} hC => by
    have hz := hC.size
    exact ⟨(hmkL.to (fun b hb => holdL hC b (by omega) (by omega))).rd (fun b hb => by omega), hfkL.mono (fun b hb => holdL hC b (by omega) (by omega)) (fun b hb => by exact (show b < z.heap.size by omega)), (holdL hC _ (by omega) (by omega)).trans hb1L, hbyL.mono (fun b hb => holdL hC b hb.2 (by omega)) (fun _ h => h)⟩
  (repeat (first | (apply WL.pure; rfl; rfl; rfl) | (apply WL.nil) | (apply EX.thenN) | (apply CW.seq) | (apply CW.region) | (apply CW.block) | (apply CW.exit) | (apply EX.thenX) | (apply EX.inX)))
  rw [shlS (show numN m < 62 by omega), show (1 <<< numN m : Nat) = N by rw [Nat.one_shiftLeft, hpN]]
  refine CW.loop (S := Nat × (Nat → Value) × List Raw) (fun s => [(1, .pointer (some ⟨w0.heap.size, 0, none⟩)), (2, .pointer (some ⟨w1.heap.size, 0, none⟩)), (5, .pointer (some ⟨sb, 0, none⟩)), (6, .int .i64 ((numN m : Nat) : Int)), (7, .pointer (some ⟨b7, 0, none⟩)), (8, .slice bo (byL m K N).length bc), (76, .int .i64 (N : Int)), (77, .int .i64 s.1)])
    (fun s z => s.1 ≤ N ∧ OutA z wn b7 s.2.1 (selL (fun x => hoB m x f) s.1) s.2.2 ((List.range s.1).map fun x => bitsN m x true) ((List.range s.1).map fun x => bitsN m x false) [] ∧ InnR z (oM w1.heap.size b7 s.2.1) s.2.2 ((List.range s.1).map fun x => selL (fun t => decide (keepN m t = x >>> m.1.length)) N) ∧ Chg (fun b => b = b7 ∨ wn ≤ b) w z)
    (fun s => N - s.1) (0, (fun _ => .slice none 0 0), []) (by repeat (first | exact trivial | refine ⟨rfl, ?_⟩)) ⟨Nat.zero_le _, ⟨hb7L, Own.nil, Own.nil, Own.nil, Own.nil, Own.nil, (fun i j _ _ _ g hg => by cases hg), by omega⟩, InnR.nil, Chg.refl _ _⟩ ?_
  rintro ⟨i, c, vs⟩ z ⟨hi, hA, hR, hC⟩
  dsimp only at hi hA hR hC ⊢
  obtain ⟨kMA, kfk, kb1, kby⟩ := hMA hC
  have hz := hC.size
  have hlt := hA.lt
  have hRl := hR.len
  rw [List.length_map, List.length_range] at hRl
  (repeat (first | (apply WL.pure; rfl; rfl; rfl) | (apply WL.nil) | (apply EX.thenN) | (apply CW.seq) | (apply CW.region)))
  refine CW.cond rfl (fun h => ?_) (fun h => ?_)
  · have hi' : i < N := by have h := of_decide_eq_true h; omega
    clear h
    have hs20 : i < 1048576 := by omega
    apply CW.skip
    apply EX.thenN
    apply CW.seq
    apply CW.block
    apply CW.seq
    apply CW.region
    (repeat (apply WL.pure; rfl; rfl; rfl))
    apply WL.nil
    apply EX.thenN
    refine CW.cutI (S := Nat → Value) (fun c' => [(1, .pointer (some ⟨w0.heap.size, 0, none⟩)), (2, .pointer (some ⟨w1.heap.size, 0, none⟩)), (5, .pointer (some ⟨sb, 0, none⟩)), (6, .int .i64 ((numN m : Nat) : Int)), (7, .pointer (some ⟨b7, 0, none⟩)), (8, .slice bo (byL m K N).length bc), (11, .int .i64 (i : Int)), (76, .int .i64 (N : Int)), (77, .int .i64 (i : Int))])
      (fun c' z' => OutA z' wn b7 c' (selL (fun x => hoB m x f) (i + 1)) vs ((List.range i).map fun x => bitsN m x true) ((List.range i).map fun x => bitsN m x false) [] ∧ InnR z' (oM w1.heap.size b7 c') vs ((List.range i).map fun x => selL (fun t => decide (keepN m t = x >>> m.1.length)) N) ∧ Chg (fun b => b = b7 ∨ wn ≤ b) w z') ?_ ?_
    · (repeat (first | (apply WL.pure; rfl; rfl; rfl) | (apply CW.seq) | (apply CW.region) | (apply WL.ldA; rfl; rfl; rfl; assumption; rfl)))
      refine WL.call rfl rfl rfl (tholds_ok _ f (Nat.le_refl _) z kMA hF kfk hs20 hl20) ?_
      rintro _ z1 ⟨rfl, e1⟩
      have hA1 := hA.ext e1
      have hR1 := hR.to (Chg.of_ext (oM w1.heap.size b7 c) e1) (fun b hb => .inl hb)
      have hC1 := hC.trans (Chg.of_ext _ e1)
      have hnx := selL_next (p := fun x => hoB m x f) (i := i)
      have hxl := selL_len (p := fun x => hoB m x f) (i := i)
      have hz1 := e1.size
      cases hh : hoB m i f with
      | false =>
        simp only [hh] at hnx
        rw [if_neg (by decide)] at hnx
        (repeat (first | (apply WL.nil) | (apply EX.thenN) | (apply CW.condF; rfl) | (apply CW.skip)))
        exact EX.cutI c (by repeat (first | exact trivial | refine ⟨rfl, ?_⟩)) ⟨by rw [hnx]; exact hA1, hR1, hC1⟩
      | true =>
        simp only [hh] at hnx
        rw [if_pos trivial] at hnx
        have hblk1 := hA1.blk
        have hlt1 := hA1.lt
        (repeat (first | (apply WL.pure; rfl; rfl; rfl) | (apply WL.nil) | (apply EX.thenN) | (apply CW.region) | (apply WL.fa; rfl; rfl; rfl) | (apply WL.ld; rfl; rfl; rfl; assumption; rfl) | (apply CW.condT; rfl)))
        refine WL.app1 (F := Non) (yv := (i : Int)) rfl rfl (fun _ => rfl) rfl rfl (fun _ => rfl) hA1.o0 (Rd.mkInt _ _ _) (by omega) (fun _ h => h.elim) (by decide) (by unfold maxLen; omega) (by omega) (fun v' z2 p ho2 hg2 hnb => ?_)
        obtain ⟨so, sc, rfl⟩ := ho2.val
        have hblk2 := hblk1.kept hg2 (fun e => by have := (hlt1 0 (by omega) b7 e.symm).1; have := hA.lb; omega)
        (repeat (apply WL.fa; rfl; rfl; rfl))
        refine WL.st rfl rfl rfl hblk2 rfl rfl (ones_of rfl) (fun z3 hblk3 hg3 => ?_)
        obtain ⟨kk, kn, kd, kc, km, kw⟩ := hA1.step (b2 := w1.heap.size) (i := 0) (by omega) hg2 hg3 hnb (by omega)
        have ho3 := kn ho2
        rw [← hnx] at ho3
        (repeat (apply WL.nil))
        refine EX.cutI (updV c 0 _) (by repeat (first | exact trivial | refine ⟨rfl, ?_⟩)) ⟨⟨hblk3, ?_, kk 1 (by omega) (by omega) hA1.o1, kk 2 (by omega) (by omega) hA1.o2, kk 3 (by omega) (by omega) hA1.o3, kk 4 (by omega) (by omega) hA1.o4, kd, hA.lb⟩, hR1.to kc km, hC1.then kw (fun b hb => .inl hb)⟩
        rw [show (selL (fun x => hoB m x f) i ++ [(i : Int)]).length = (selL (fun x => hoB m x f) (i + 1)).length by rw [hnx]] at *
        exact ho3
    rintro c1 z1 ⟨hA1, hR1, hC1⟩
    have hs20' : i < 2 ^ 20 := by omega
    -- what is next
    have hD : Ext z1 (drew z1) := Ext.drew z1
    have hzd := hD.size
    have hz1 := hC1.size
    have hAd := hA1.ext hD
    have hRd := hR1.to (Chg.of_ext (oM w1.heap.size b7 c1) hD) (fun b hb => .inl hb)
    have hCd := hC1.trans (Chg.of_ext _ hD)
    have hblkd := hAd.blk
    have hltd := hAd.lt
    have lb := hAd.lb
    obtain ⟨kMA, kfk, kb1, kby⟩ := hMA hCd
    have howe : i >>> m.1.length < K := by
      rw [hpK, Nat.shiftRight_eq_div_pow, Nat.div_lt_iff_lt_mul (Nat.two_pow_pos _), ← Nat.pow_add]
      rw [hpN] at hi'
      unfold numN at hi'
      rw [Nat.add_comm]; exact hi'
    have hkb : i >>> m.1.length < (byL m K N).length := by rw [byL_len]; exact howe
    have hrowN : (byL m K N)[i >>> m.1.length] = selL (fun t => decide (keepN m t = i >>> m.1.length)) N := byL_get hkb
    have hrowl := selL_len (p := fun t => decide (keepN m t = i >>> m.1.length)) (i := N)
    (repeat (apply CW.seq))
    refine CW.drawE (fun x : World => ∀ b, b < wn → x.heap[b]? = (drew z1).heap[b]?) [(0, true), (1, true), (2, true), (3, true), (4, true), (5, false), (6, true), (7, true), (8, false), (9, false), (10, false), (11, false)] 12 mixed (by kernel_rfl) (fun _ _ => rfl) ?_
    (repeat (refine HL.fa rfl rfl rfl rfl ?_))
    refine HL.ldK (fun u h => h b7 lb) rfl rfl rfl rfl hblkd rfl ?_
    (repeat (apply HL.pure; rfl; rfl; rfl; rfl))
    refine HL.mut rfl (WL.call rfl rfl rfl (owed_ok _ kMA hl20.1) ?_)
    rintro _ _ ⟨rfl, rfl⟩
    refine WL.nil (EX.mut (fun _ _ => rfl) ?_)
    skip
    refine HL.elemK (k := i >>> m.1.length) (fun u h b hb => h b hb.2) rfl rfl rfl rfl rfl rfl rfl kby hkb (fun _ => rfl) (fun u q hu => ?_)
    rw [hrowN] at hu
    obtain ⟨ro, rc, rfl, hrow⟩ := hu.sl
    refine HL.mut rfl (WL.call rfl rfl rfl (clone_int (drew z1) (hrow.mono (fun _ _ => rfl) (fun b hb => by have := hb.2; exact (show b < (drew z1).heap.size by omega))) (by omega)) ?_)
    rintro rv z2 ⟨hrv, e2⟩
    have hz2 := e2.size
    refine WL.nil (EX.mut (fun b hb => e2.block b (by omega)) ?_)
    obtain ⟨ro', rc', rfl⟩ := hrv.val
    have hA2 := hAd.ext e2
    have hR2 := hRd.to (Chg.of_ext (oM w1.heap.size b7 c1) e2) (fun b hb => .inl hb)
    have hC2 := hCd.trans (Chg.of_ext _ e2)
    have hlt2 := hA2.lt
    have hlo1 := hA2.o1.lt
    refine HL.app1 (α := Raw) (F := Non) (bytes := 24) (yv := (⟨.slice ro' (selL (fun t => decide (keepN m t = i >>> m.1.length)) N).length rc'⟩ : Raw)) rfl rfl rfl rfl (fun _ => rfl) rfl rfl (fun _ => rfl) hA2.o1 (Rd.mkRaw _ _ _ rfl) (by omega) (fun _ h => h.elim) (by decide) (by unfold maxLen; omega) (by omega)
      (fun u hu b hb => (hu.block b (by omega) (fun e => by have := (hlo1 b e.symm).1; omega)).trans (e2.block b (by omega))) (fun v' z3 p ho3 hg3 hnb => ?_)
    obtain ⟨so, sc, rfl⟩ := ho3.val
    have hblk3 := hA2.blk.kept hg3 (fun e => by have := (hlo1 b7 e.symm).1; omega)
    have hz3 : z2.heap.size ≤ z3.heap.size := hg3.size
    refine HL.mut rfl (WL.fa rfl rfl rfl (WL.nil (EX.mut (fun b hb => (hg3.block b (by omega) (fun e => by have := (hlo1 b e.symm).1; omega)).trans (e2.block b (by omega))) (HL.nil ?_))))
    refine EX.tail rfl (WL.st rfl rfl rfl hblk3 rfl rfl (ones_of rfl) (fun z4 hblk4 hg4 => WL.nil (EX.tailE ?_)))
    obtain ⟨kk, kn, kd, kc, km, kw⟩ := hA2.step (b2 := w1.heap.size) (i := 1) (by omega) hg3 hg4 hnb (by omega)
    have hrvR : Rd z2 (Fz z2 (oM w1.heap.size b7 c1)) _ _ := hrv.rd.mono (fun _ _ => rfl) (fun g hg => hg.elim (fun h => h.elim) (fun hg => ⟨(hrv.lt g hg).2.1, fun h => by
      have h1 := (hrv.lt g hg).1
      rcases h with h | h | ⟨j, hj, h⟩
      · omega
      · omega
      · have := (hltd j hj g h).2; omega⟩))
    have hR4 := (hR2.push hrvR).to kc km
    rw [← rngM_next] at hR4
    have hA4 : OutA z4 wn b7 (updV c1 1 _) _ _ _ _ _ := ⟨hblk4, kk 0 (by omega) (by omega) hA2.o0, kn ho3, kk 2 (by omega) (by omega) hA2.o2, kk 3 (by omega) (by omega) hA2.o3, kk 4 (by omega) (by omega) hA2.o4, kd, lb⟩
    have hC4 := hC2.then kw (fun b hb => .inl hb)
    generalize hc2 : updV c1 1 _ = c2 at hA4 hR4
    clear kk kn kd kc km kw hrvR hblk4 hg4 hblk3 hlt2 hlo1 hg3 hnb ho3 hA2 hR2 hC2 e2 hrv hrow hblkd hltd kMA kfk kb1 kby hAd hRd hCd hD hA1 hR1 hC1
    apply EX.thenN
    -- bits true
    have hD : Ext z4 (drew z4) := Ext.drew z4
    have hzd := hD.size
    have hzi := hC4.size
    have hAd := hA4.ext hD
    have hCd := hC4.trans (Chg.of_ext _ hD)
    have hblkd := hAd.blk
    have lb := hAd.lb
    obtain ⟨kMA, kfk, kb1, kby⟩ := hMA hCd
    (repeat (apply CW.seq))
    refine CW.drawE (fun x : World => ∀ b, b < wn → x.heap[b]? = (drew z4).heap[b]?) [(0, true), (1, true), (2, true), (3, true), (4, false), (5, false), (6, false), (7, false)] 8 mixed (by kernel_rfl) (fun _ _ => rfl) ?_
    (repeat (refine HL.fa rfl rfl rfl rfl ?_))
    refine HL.ldK (fun u h => h b7 lb) rfl rfl rfl rfl hblkd rfl ?_
    (repeat (apply HL.pure; rfl; rfl; rfl; rfl))
    refine HL.mut rfl (WL.call rfl rfl rfl (bits_ok _ true kMA hT.ok hs20 hl20.1) ?_)
    rintro _ zc ⟨rfl, ec⟩
    have hzc := ec.size
    refine WL.nil (EX.mut (fun b hb => ec.block b (by omega)) ?_)
    have hAc := hAd.ext ec
    have hRc := hR4.to (Chg.of_ext (oM w1.heap.size b7 c2) (hD.trans ec)) (fun b hb => .inl hb)
    have hCc := hCd.trans (Chg.of_ext _ ec)
    have hloc := hAc.o2.lt
    refine HL.app1 (α := Nat) (F := Non) (bytes := 8) (yv := bitsN m i true) rfl rfl rfl rfl (fun _ => rfl) rfl rfl (fun _ => rfl) hAc.o2 (rdU64 _ _ _ (bitP_lt (fun x hx => (hT.ok.ra x hx).2) (Nat.le_refl _))) (by omega) (fun _ h => h.elim) (by decide) (by unfold maxLen; rw [List.length_map, List.length_range]; omega) (by rw [List.length_map, List.length_range]; omega)
      (fun u hu b hb => (hu.block b (by omega) (fun e => by have := (hloc b e.symm).1; omega)).trans (ec.block b (by omega))) (fun v' zA p hoA hgA hnb => ?_)
    obtain ⟨so, sc, rfl⟩ := hoA.val
    have hblkA := hAc.blk.kept hgA (fun e => by have := (hloc b7 e.symm).1; omega)
    have hzA : zc.heap.size ≤ zA.heap.size := hgA.size
    refine HL.mut rfl (WL.fa rfl rfl rfl (WL.nil (EX.mut (fun b hb => (hgA.block b (by omega) (fun e => by have := (hloc b e.symm).1; omega)).trans (ec.block b (by omega))) (HL.nil ?_))))
    refine EX.tail rfl (WL.st rfl rfl rfl hblkA rfl rfl (ones_of rfl) (fun z5 hblkB hgB => WL.nil (EX.tailE ?_)))
    obtain ⟨kk, kn, kd, kc, km, kw⟩ := hAc.step (b2 := w1.heap.size) (i := 2) (by omega) hgA hgB hnb (by omega)
    have hR5 := hRc.to kc km
    have hoB1 := hoA
    rw [show ((List.range i).map fun x => bitsN m x true) ++ [bitsN m i true] = (List.range (i + 1)).map fun x => bitsN m x true from rngM_next.symm] at hoB1 hblkB kd km hR5 kn
    have hA5 : OutA z5 wn b7 (updV c2 2 _) _ _ _ _ _ := ⟨hblkB, kk 0 (by omega) (by omega) hAc.o0, kk 1 (by omega) (by omega) hAc.o1, kn hoB1, kk 3 (by omega) (by omega) hAc.o3, kk 4 (by omega) (by omega) hAc.o4, kd, lb⟩
    have hC5 := hCc.then kw (fun b hb => .inl hb)
    generalize hcv5 : updV c2 2 _ = c3 at hA5 hR5
    clear kk kn kd kc km kw hgA hgB hnb hoA hoB1 hAc hRc hCc ec hblkd kMA kfk kb1 kby hAd hCd hD hA4 hR4 hC4 hblkA hblkB hloc
    apply EX.thenN
    -- bits false
    have hD : Ext z5 (drew z5) := Ext.drew z5
    have hzd := hD.size
    have hzi := hC5.size
    have hAd := hA5.ext hD
    have hCd := hC5.trans (Chg.of_ext _ hD)
    have hblkd := hAd.blk
    have lb := hAd.lb
    obtain ⟨kMA, kfk, kb1, kby⟩ := hMA hCd
    skip
    refine CW.drawE (fun x : World => ∀ b, b < wn → x.heap[b]? = (drew z5).heap[b]?) [(0, true), (1, true), (2, true), (3, true), (4, false), (5, false), (6, false), (7, false)] 8 mixed (by kernel_rfl) (fun _ _ => rfl) ?_
    (repeat (refine HL.fa rfl rfl rfl rfl ?_))
    refine HL.ldK (fun u h => h b7 lb) rfl rfl rfl rfl hblkd rfl ?_
    (repeat (apply HL.pure; rfl; rfl; rfl; rfl))
    refine HL.mut rfl (WL.call rfl rfl rfl (bits_ok _ false kMA hT.ok hs20 hl20.1) ?_)
    rintro _ zc ⟨rfl, ec⟩
    have hzc := ec.size
    refine WL.nil (EX.mut (fun b hb => ec.block b (by omega)) ?_)
    have hAc := hAd.ext ec
    have hRc := hR5.to (Chg.of_ext (oM w1.heap.size b7 c3) (hD.trans ec)) (fun b hb => .inl hb)
    have hCc := hCd.trans (Chg.of_ext _ ec)
    have hloc := hAc.o3.lt
    refine HL.app1 (α := Nat) (F := Non) (bytes := 8) (yv := bitsN m i false) rfl rfl rfl rfl (fun _ => rfl) rfl rfl (fun _ => rfl) hAc.o3 (rdU64 _ _ _ (bitP_lt (fun x hx => (hT.ok.ra x hx).2) (Nat.le_refl _))) (by omega) (fun _ h => h.elim) (by decide) (by unfold maxLen; rw [List.length_map, List.length_range]; omega) (by rw [List.length_map, List.length_range]; omega)
      (fun u hu b hb => (hu.block b (by omega) (fun e => by have := (hloc b e.symm).1; omega)).trans (ec.block b (by omega))) (fun v' zA p hoA hgA hnb => ?_)
    obtain ⟨so, sc, rfl⟩ := hoA.val
    have hblkA := hAc.blk.kept hgA (fun e => by have := (hloc b7 e.symm).1; omega)
    have hzA : zc.heap.size ≤ zA.heap.size := hgA.size
    refine HL.mut rfl (WL.fa rfl rfl rfl (WL.nil (EX.mut (fun b hb => (hgA.block b (by omega) (fun e => by have := (hloc b e.symm).1; omega)).trans (ec.block b (by omega))) (HL.nil ?_))))
    refine EX.tail rfl (WL.st rfl rfl rfl hblkA rfl rfl (ones_of rfl) (fun z6 hblkB hgB => WL.nil (EX.tailE ?_)))
    obtain ⟨kk, kn, kd, kc, km, kw⟩ := hAc.step (b2 := w1.heap.size) (i := 3) (by omega) hgA hgB hnb (by omega)
    have hR6 := hRc.to kc km
    have hoB1 := hoA
    rw [show ((List.range i).map fun x => bitsN m x false) ++ [bitsN m i false] = (List.range (i + 1)).map fun x => bitsN m x false from rngM_next.symm] at hoB1 hblkB kd km hR6 kn
    have hA6 : OutA z6 wn b7 (updV c3 3 _) _ _ _ _ _ := ⟨hblkB, kk 0 (by omega) (by omega) hAc.o0, kk 1 (by omega) (by omega) hAc.o1, kk 2 (by omega) (by omega) hAc.o2, kn hoB1, kk 4 (by omega) (by omega) hAc.o4, kd, lb⟩
    have hC6 := hCc.then kw (fun b hb => .inl hb)
    generalize hcv6 : updV c3 3 _ = c4 at hA6 hR6
    clear kk kn kd kc km kw hgA hgB hnb hoA hoB1 hAc hRc hCc ec hblkd kMA kfk kb1 kby hAd hCd hD hA5 hR5 hC5 hblkA hblkB hloc
    (repeat (first | (apply WL.add; rfl; rfl; rfl; rfl; omega; omega) | (apply WL.pure; rfl; rfl; rfl) | (apply WL.nil) | (apply EX.thenN) | (apply CW.region) | (apply EX.inN)))
    exact EX.back (i + 1, c4, _) (by repeat (first | exact trivial | refine ⟨rfl, ?_⟩)) ⟨hi', hA6, hR6, hC6⟩ (by dsimp only; omega)
  obtain rfl : N = i := by have h := of_decide_eq_false h; omega
  clear h hi hRl
  obtain ⟨mao, mac, mpo, mpc, hblkw, hasw, hpsw⟩ := hmkL.ok
  have hblkz : Blk z _ _ _ := (holdL hC sb (by omega) (by omega)).trans hblkw
  (repeat (first | (apply WL.pure; rfl; rfl; rfl) | (apply WL.nil) | (apply EX.thenN) | (apply CW.seq) | (apply CW.region) | (apply WL.lenS; rfl; rfl; rfl) | (apply WL.fa; rfl; rfl; rfl) | (apply WL.nck; rfl; rfl; rfl) | (apply WL.ld; rfl; rfl; rfl; assumption; rfl) | (apply CW.block) | (apply CW.exit) | (apply EX.thenX) | (apply EX.inX)))
  refine CW.loop (S := Nat × (Nat → Value) × List Raw) (fun s => [(2, .pointer (some ⟨w1.heap.size, 0, none⟩)), (5, .pointer (some ⟨sb, 0, none⟩)), (6, .int .i64 ((numN m : Nat) : Int)), (7, .pointer (some ⟨b7, 0, none⟩)), (122, .slice mpo m.2.length mpc), (123, .int .i64 m.2.length), (124, .int .i64 s.1)])
    (fun s z => s.1 ≤ m.2.length ∧ OutA z wn b7 s.2.1 (selL (fun x => hoB m x f) N) vs ((List.range N).map fun x => bitsN m x true) ((List.range N).map fun x => bitsN m x false) s.2.2 ∧ InnR z (oM w1.heap.size b7 s.2.1) vs ((List.range N).map fun x => selL (fun t => decide (keepN m t = x >>> m.1.length)) N) ∧
      InnR z (oM w1.heap.size b7 s.2.1) s.2.2 (((m.2.take s.1).filter fun g => decide (g.k ≠ 7)).map fun g => selL (fairB m g) N) ∧ Chg (fun b => b = b7 ∨ wn ≤ b) w z)
    (fun s => m.2.length - s.1) (0, c, []) (by repeat (first | exact trivial | refine ⟨rfl, ?_⟩)) ⟨Nat.zero_le _, hA, hR, InnR.nil, hC⟩ ?_
  clear hblkz hA hR hC kMA kfk kb1 kby hlt hz c z
  rintro ⟨i, c, us⟩ z ⟨hi, hA, hR, hU, hC⟩
  dsimp only at hi hA hR hU hC ⊢
  have hz := hC.size
  have hlt := hA.lt
  have hUl := hU.len
  have hfl : ((m.2.take i).filter fun g => decide (g.k ≠ 7)).length ≤ i := Nat.le_trans (List.length_filter_le _ _) (by rw [List.length_take]; omega)
  rw [List.length_map] at hUl
  (repeat (first | (apply WL.pure; rfl; rfl; rfl) | (apply WL.nil) | (apply EX.thenN) | (apply CW.seq) | (apply CW.region)))
  refine CW.cond rfl (fun h => ?_) (fun h => ?_)
  · have hi' : i < m.2.length := by have h := of_decide_eq_true h; omega
    clear h
    have hpsz : Sl z (fun b => b < b7) mpo mpc m.2 := hpsw.mono (fun b hb => holdL hC b (by have hb : b < b7 := hb; omega) (by have hb : b < b7 := hb; omega)) (fun _ h => h)
    have htk : (m.2.take (i + 1)) = m.2.take i ++ [m.2[i]] := by rw [List.take_add_one, List.getElem?_eq_getElem hi']; rfl
    have hmem : m.2[i] ∈ m.2 := List.getElem_mem hi'
    (repeat (first | (apply EX.thenN) | (apply CW.seq) | (apply CW.region) | (apply CW.block) | (apply CW.skip)))
    refine WL.elemN (i := i) rfl rfl rfl rfl rfl hpsz hi' (fun _ => rfl) (fun u q hu => ?_)
    generalize m.2[i] = g at *
    obtain ⟨go, gc, rfl, hgk⟩ := Rd.ltl hu
    clear hu hpsz
    skip
    refine WL.alloc rfl rfl (fun z1 hg1 e1 => ?_)
    skip
    refine WL.st rfl rfl rfl hg1 rfl rfl (ones_of rfl) (fun z2 hg2 hgg2 => ?_)
    have e2 : Ext z z2 := Below.grown e1 hgg2 e1.size (fun g hg => by cases hg; exact Nat.le_refl _)
    have hz2 := e2.size
    have hA2 := hA.ext e2
    have hR2 := hR.to (Chg.of_ext (oM w1.heap.size b7 c) e2) (fun b hb => .inl hb)
    have hU2 := hU.to (Chg.of_ext (oM w1.heap.size b7 c) e2) (fun b hb => .inl hb)
    have hC2 := hC.trans (Chg.of_ext _ e2)
    have lg := hg2.lt
    have hgk2 := hgk.mono (w' := z2) (F' := fun b => b < b7) (fun b hb => e2.block b (by have hb : b < b7 := hb; omega)) (fun _ h => h)
    have hOg := hT.part hmem
    clear hg1 e1 hgg2 hA hR hU hC hgk
    (repeat (first | (apply WL.pure; rfl; rfl; rfl) | (apply WL.nil) | (apply EX.thenN) | (apply CW.seq) | (apply CW.region) | (apply WL.fa; rfl; rfl; rfl) | (apply WL.ld; rfl; rfl; rfl; assumption; rfl)))
    refine CW.cond rfl (fun h => ?_) (fun h => ?_)
    · have h : g.k = 7 := by simpa using h
      (repeat (first | (apply WL.add; rfl; rfl; rfl; rfl; omega; omega) | (apply WL.pure; rfl; rfl; rfl) | (apply WL.nil) | (apply EX.thenN) | (apply CW.region) | (apply CW.exit) | (apply EX.thenX) | (apply EX.inX)))
      refine EX.back (i + 1, c, us) (by repeat (first | exact trivial | refine ⟨rfl, ?_⟩)) ⟨hi', hA2, hR2, ?_, hC2⟩ (by dsimp only; omega)
      rw [htk, List.filter_append, show ([g].filter fun g => decide (g.k ≠ 7)) = [] by simp [h], List.append_nil]
      exact hU2
    have hk7 : g.k ≠ 7 := by simpa using h
    have htk2 : ((m.2.take (i + 1)).filter fun g => decide (g.k ≠ 7)) = ((m.2.take i).filter fun g => decide (g.k ≠ 7)) ++ [g] := by rw [htk, List.filter_append, show ([g].filter fun g => decide (g.k ≠ 7)) = [g] by simp [hk7]]
    clear h htk
    obtain ⟨a, rfl⟩ | ⟨k, a, b, hk, rfl⟩ := part_shape (hT.ok.wp g hmem).1 (hT.ok.wp g hmem).2.1
    · exact absurd rfl hk7
    clear hk7
    generalize hgd : Ltl.mk k 0 [a, b] = g at *
    (repeat (first | (apply WL.pure; rfl; rfl; rfl) | (apply WL.nil) | (apply EX.thenN) | (apply CW.seq) | (apply CW.region) | (apply CW.block) | (apply CW.skip)))
    rw [shlS (show numN m < 62 by omega), show (1 <<< numN m : Nat) = N by rw [Nat.one_shiftLeft, hpN]]
    refine CW.loop (S := Nat × Value) (fun s => [(2, .pointer (some ⟨w1.heap.size, 0, none⟩)), (5, .pointer (some ⟨sb, 0, none⟩)), (6, .int .i64 ((numN m : Nat) : Int)), (7, .pointer (some ⟨b7, 0, none⟩)), (13, .pointer (some ⟨z.heap.size, 0, none⟩)), (14, s.2), (122, .slice mpo m.2.length mpc), (123, .int .i64 m.2.length), (124, .int .i64 i), (132, .int .i64 (N : Int)), (133, .int .i64 s.1)])
      (fun s y => s.1 ≤ N ∧ Own y z2.heap.size 3 Non s.2 (selL (fairB m g) s.1) ∧ Ext z2 y) (fun s => N - s.1) (0, .slice none 0 0) (by repeat (first | exact trivial | refine ⟨rfl, ?_⟩)) ⟨Nat.zero_le _, Own.nil, Ext.refl _⟩ ?_
    rintro ⟨j, sv⟩ y ⟨hj, hs, ey⟩
    dsimp only at hj hs ey ⊢
    have hy := ey.size
    have hsl := selL_len (p := fairB m g) (i := j)
    (repeat (first | (apply WL.pure; rfl; rfl; rfl) | (apply WL.nil) | (apply EX.thenN) | (apply CW.seq) | (apply CW.region)))
    refine CW.cond rfl (fun h => ?_) (fun h => ?_)
    · have hj' : j < N := by have h := of_decide_eq_true h; omega
      clear h
      have hgy := hg2.ext ey
      obtain ⟨kMA, kfk, kb1, kby⟩ := hMA (hC2.trans (Chg.of_ext _ ey))
      have hgky := hgk2.mono (w' := y) (F' := Old y) (fun b hb => ey.block b (by have hb : b < b7 := hb; omega)) (fun b hb => (show b < y.heap.size by have hb : b < b7 := hb; omega))
      have hnx := selL_next (p := fairB m g) (i := j)
      subst hgd
      (repeat (first | (apply WL.pure; rfl; rfl; rfl) | (apply WL.nil) | (apply EX.thenN) | (apply CW.seq) | (apply CW.region) | (apply WL.ldA; rfl; rfl; rfl; assumption; rfl) | (apply CW.block) | (apply CW.skip)))
      refine WL.call rfl rfl rfl (tfair_ok _ (k := k) (a := a) (b := b) kMA hOg hk hgky (show j < 1048576 by omega) hl20) ?_
      rintro v y1 ⟨hv, e1⟩
      have hs1 := hs.extN e1
      have hey := ey.trans e1
      have hy1 := hey.size
      generalize fairB m (.mk k 0 [a, b]) j = bb at hv hnx
      subst hv
      cases bb with
      | false =>
        rw [if_neg (by decide)] at hnx
        (repeat (first | (apply WL.add; rfl; rfl; rfl; rfl; omega; omega) | (apply WL.pure; rfl; rfl; rfl) | (apply WL.nil) | (apply EX.thenN) | (apply CW.region) | (apply EX.inN) | (apply CW.condF; rfl) | (apply CW.skip)))
        exact EX.back (j + 1, sv) (by repeat (first | exact trivial | refine ⟨rfl, ?_⟩)) ⟨hj', by rw [hnx]; exact hs1, hey⟩ (by dsimp only; omega)
      | true =>
        rw [if_pos rfl] at hnx
        (repeat (first | (apply WL.pure; rfl; rfl; rfl) | (apply WL.nil) | (apply EX.thenN) | (apply CW.region) | (apply CW.condT; rfl)))
        refine WL.app1 (F := Non) (yv := (j : Int)) rfl rfl (fun _ => rfl) rfl rfl (fun _ => rfl) hs1 (Rd.mkInt _ _ _) (by omega) (fun _ h => h.elim) (by decide) (by unfold maxLen; omega) (by omega) (fun v' y2 p ho2 hgr2 hnb => ?_)
        rw [← hnx] at ho2
        (repeat (first | (apply WL.add; rfl; rfl; rfl; rfl; omega; omega) | (apply WL.pure; rfl; rfl; rfl) | (apply WL.nil) | (apply EX.thenN) | (apply CW.region) | (apply EX.inN)))
        exact EX.back (j + 1, v') (by repeat (first | exact trivial | refine ⟨rfl, ?_⟩)) ⟨hj', ho2, hey.grown hgr2 hey.size (fun g hg => (hs1.lt g hg).1)⟩ (by dsimp only; omega)
    obtain rfl : N = j := by have h := of_decide_eq_false h; omega
    clear h hj
    have hAy := hA2.ext ey
    have hRy := hR2.to (Chg.of_ext (oM w1.heap.size b7 c) ey) (fun b hb => .inl hb)
    have hUy := hU2.to (Chg.of_ext (oM w1.heap.size b7 c) ey) (fun b hb => .inl hb)
    have hCy := hC2.trans (Chg.of_ext _ ey)
    have hblky := hAy.blk
    have hlty := hAy.lt
    have lb := hAy.lb
    have hlo4 := hAy.o4.lt
    obtain ⟨ro, rc, rfl⟩ := hs.val
    clear hA2 hR2 hU2 hC2 hg2
    (repeat (first | (apply WL.pure; rfl; rfl; rfl) | (apply EX.thenN) | (apply CW.region) | (apply WL.fa; rfl; rfl; rfl) | (apply WL.ld; rfl; rfl; rfl; assumption; rfl) | (apply CW.exit) | (apply EX.thenX) | (apply EX.inX)))
    refine WL.app1 (α := Raw) (F := Non) (yv := (⟨.slice ro (selL (fairB m g) N).length rc⟩ : Raw)) rfl rfl (fun _ => rfl) rfl rfl (fun _ => rfl) hAy.o4 (Rd.mkRaw _ _ _ rfl) (by omega) (fun _ h => h.elim) (by decide) (by unfold maxLen; omega) (by omega) (fun v' y2 p ho2 hgr2 hnb => ?_)
    obtain ⟨so, sc, rfl⟩ := ho2.val
    have hblk2 := hblky.kept hgr2 (fun e => by have := (hlo4 b7 e.symm).1; omega)
    (repeat (apply WL.fa; rfl; rfl; rfl))
    refine WL.st rfl rfl rfl hblk2 rfl rfl (ones_of rfl) (fun y3 hblk3 hgr3 => ?_)
    obtain ⟨kk, kn, kd, kc, km, kw⟩ := hAy.step (b2 := w1.heap.size) (i := 4) (by omega) hgr2 hgr3 hnb (by omega)
    have hrvR : Rd y (Fz y (oM w1.heap.size b7 c)) _ _ := hs.rd.mono (fun _ _ => rfl) (fun g hg => hg.elim (fun h => h.elim) (fun hg => ⟨(hs.lt g hg).2.1, fun h => by
      have h1 := (hs.lt g hg).1
      rcases h with h | h | ⟨j, hj, h⟩
      · omega
      · omega
      · have := (hlt j hj g h).2; omega⟩))
    have hU3 := (hUy.push hrvR).to kc km
    rw [show ((m.2.take i).filter fun g => decide (g.k ≠ 7)).map (fun g => selL (fairB m g) N) ++ [selL (fairB m g) N] = ((m.2.take (i + 1)).filter fun g => decide (g.k ≠ 7)).map (fun g => selL (fairB m g) N) by rw [htk2, List.map_append]; rfl] at hU3
    have hA3 : OutA y3 wn b7 (updV c 4 _) _ _ _ _ _ := ⟨hblk3, kk 0 (by omega) (by omega) hAy.o0, kk 1 (by omega) (by omega) hAy.o1, kk 2 (by omega) (by omega) hAy.o2, kk 3 (by omega) (by omega) hAy.o3, kn ho2, kd, lb⟩
    (repeat (first | (apply WL.add; rfl; rfl; rfl; rfl; omega; omega) | (apply WL.pure; rfl; rfl; rfl) | (apply WL.nil) | (apply EX.thenN) | (apply CW.region) | (apply EX.inN)))
    exact EX.back (i + 1, _, _) (by repeat (first | exact trivial | refine ⟨rfl, ?_⟩)) ⟨hi', hA3, hRy.to kc km, hU3, hCy.then kw (fun b hb => .inl hb)⟩ (by dsimp only; omega)
  obtain rfl : i = m.2.length := by have h := of_decide_eq_false h; omega
  rw [List.take_length] at hU
  clear h hi
  have hblkz := hA.blk
  have lb := hA.lb
  have hb2z : Blk z _ _ _ := (holdL hC w1.heap.size (by omega) (by omega)).trans hb2L
  have hE : Ext w0 z := Chg.ext hEL hC (fun b hb => by omega)
  have hFF : ∀ b, Fz z (oM w1.heap.size b7 c) b → b < z.heap.size ∧ b ≠ w1.heap.size := fun b hb => ⟨hb.1, fun e => hb.2 (.inl e)⟩
  have hFo : ∀ j, j < 5 → ∀ g, (c j).ownBlock = some g → g < z.heap.size ∧ g ≠ w1.heap.size := fun j hj g hg => ⟨(hlt j hj g hg).2, by have := (hlt j hj g hg).1; omega⟩
  obtain ⟨a1, d1, e1, s1⟩ := hA.o0.slF (F' := fun b => b < z.heap.size ∧ b ≠ w1.heap.size) (fun _ h => h.elim) (hFo 0 (by omega))
  obtain ⟨a2, d2, e2, s2⟩ := hR.sl (F := fun b => b < z.heap.size ∧ b ≠ w1.heap.size) hA.o1 hFF (hFo 1 (by omega))
  obtain ⟨a3, d3, e3, s3⟩ := hA.o2.slF (F' := fun b => b < z.heap.size ∧ b ≠ w1.heap.size) (fun _ h => h.elim) (hFo 2 (by omega))
  obtain ⟨a4, d4, e4, s4⟩ := hA.o3.slF (F' := fun b => b < z.heap.size ∧ b ≠ w1.heap.size) (fun _ h => h.elim) (hFo 3 (by omega))
  obtain ⟨a5, d5, e5, s5⟩ := hU.sl (F := fun b => b < z.heap.size ∧ b ≠ w1.heap.size) hA.o4 hFF (hFo 4 (by omega))
  rw [e1, e2, e3, e4, e5] at hblkz
  clear hA hR hU
  (repeat (first | (apply EX.thenN) | (apply CW.seq) | (apply CW.region) | (apply WL.ldA; rfl; rfl; rfl; assumption; rfl) | (apply CW.exit) | (apply EX.thenX) | (apply EX.inX)))
  refine WL.st rfl rfl rfl hb2z rfl rfl (ones_of rfl) (fun z1 hb1 hg1 => ?_)
  have hz1 := hg1.size
  have hk1 : ∀ b, b < z.heap.size ∧ b ≠ w1.heap.size → z1.heap[b]? = z.heap[b]? := fun b hb => hg1.block b hb.1 (fun e => hb.2 (Option.some.inj e))
  have hk2 : ∀ b, b < z.heap.size ∧ b ≠ w1.heap.size → Old z1 b := fun b hb => (show b < z1.heap.size by omega)
  have hE1 : Ext w0 z1 := hE.grown hg1 hE.size (fun g hg => by cases hg; omega)
  (repeat (first | (apply WL.pure; rfl; rfl; rfl) | (apply WL.nil) | (apply EX.thenN) | (apply CW.ret)))
  have hT5 : tabL m f = (selL (fun x => hoB m x f) N, (List.range N).map fun x => selL (fun t => decide (keepN m t = x >>> m.1.length)) N, (List.range N).map fun x => bitsN m x true, (List.range N).map fun x => bitsN m x false, (m.2.filter fun g => decide (g.k ≠ 7)).map fun g => selL (fairB m g) N) := by rw [hpN]; rfl
  refine EX.retC2 rfl rfl rfl hb1 rfl ⟨⟨_, rfl, ?_⟩, hE1⟩
  show AutoAt z1 (Old z1) _ (tabL m f)
  rw [hT5]
  exact ⟨a1, d1, a2, d2, a3, d3, a4, d4, a5, d5, rfl, s1.mono hk1 hk2, s2.mono hk1 hk2, s3.mono hk1 hk2, s4.mono hk1 hk2, s5.mono hk1 hk2⟩
end Go.Proofs.YtllpfgcngokhnaaGreat

/-
  watchkeep.made: walked. TableauMeans.
-/
set_option linter.unusedVariables false
set_option linter.unusedSimpArgs false
namespace Go.Proofs.YtllpfgcngokhnaaGreat
open Go.RowKit

end Go.Proofs.YtllpfgcngokhnaaGreat

