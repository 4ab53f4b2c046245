/-
  lasso.turns, least, Same: walked.
-/
import Derived.Test.YthojdcbpglipeaaLeastPl
import Derived.Test.YthojdcbpglipeaaRet
import Derived.Test.YthojdcbpglipeaaTail
import Derived.Test.YthojdcbpglipeaaLib2
set_option linter.unusedVariables false
set_option linter.unusedSimpArgs false
namespace Go.Proofs.Ythojdcbpglipeaa
open Go.RowKit

/-- x[i], read, of what stands since the base world; the index a whole number -/
theorem HL.elemZ {P : Program} {Q : Exit → Act → World → Prop} {n : Nat} {σ : Sg} {w wc : World} {L : List Oper} {S : World → Prop} {ord : List (Nat × Bool)} {i j d d' : Nat} {ty : TypeId} {pos : String} {af : Array Edge} {g : Option (Nat × Bool)} {ty' : TypeId} {pos' : String} {af' : Array Edge} {g' : Option (Nat × Bool)} {t e : TypeId} {x ix : Operand} {α : Type} [Rep α] {F : Nat → Prop}
    {ao : Option Addr} {cap : Nat} {xs : List α} {k : Int} {kd : IntKind} (hSE : ∀ w1, S w1 → Ext w w1)
    (ho1 : nthO L i = some ⟨some d, .indexAddr t x ix, ty, pos, af, g⟩) (ho2 : nthO L j = some ⟨some d', .load e (.tmp d), ty', pos', af', g'⟩)
    (hg : gd L σ ⟨some d, .indexAddr t x ix, ty, pos, af, g⟩ = some true) (hd : Nat.ble (d + 1) n = true) (hd' : Nat.ble (d' + 1) n = true)
    (hx : ev σ x = some (.slice ao xs.length cap)) (hi : ev σ ix = some (.int kd k)) [hs : IsS P t e] [ht : IsT P e α] (hF : ∀ b, F b → b < w.heap.size) (hsl : Sl w F ao cap xs) (h0 : 0 ≤ k) (h1 : k < xs.length)
    (hg' : ∀ p, gd L ((d, .pointer p) :: σ) ⟨some d', .load e (.tmp d), ty', pos', af', g'⟩ = some true)
    (h : ∀ u p, Rd w F u (xs[k.toNat]'(by omega)) → HL P L S Q ord n ((d', u) :: (d, .pointer p) :: σ) wc) :
    HL P L S Q ((i, true) :: (j, true) :: ord) n σ wc := by
  obtain ⟨b, off, rfl, hFb, es, hc, hr⟩ := hsl.el k.toNat (by omega)
  refine HL.idx (α := α) ho1 hg hd hx hi h0 h1 ?_
  refine HL.load (α := α) hSE ho2 (hg' _) hd' fnd_cons_eq (hF b hFb) hF hc hr ?_
  exact h _ _ ⟨es, rfl, hr⟩
theorem uclone_ok (w0 : World) {F : Nat → Prop} {ao : Option Addr} {cap : Nat} {xs : List Nat} (hs : Sl w0 F ao cap xs) (hF : ∀ b, F b → b < w0.heap.size) (hb : xs.length * 8 ≤ 140737488355328) :
    Rt Try.prog 27 [.slice ao xs.length cap].toArray w0 fun v w' => Own w' w0.heap.size 33 Non v xs ∧ Ext w0 w' := by
  have hm := hs.len63
  refine Rt.enter1 Try.func27 Try.ntmps27 rfl rfl ?_
  (repeat (first | (apply WL.pure; rfl; rfl; rfl) | (apply WL.nil) | (apply EX.thenN) | (apply CW.seq) | (apply CW.region) | (apply WL.isNil; rfl; rfl; rfl)))
  refine CW.cond rfl (fun h => ?_) (fun h => ?_)
  · (repeat (first | (apply WL.pure; rfl; rfl; rfl) | (apply WL.nil) | (apply EX.thenN) | (apply CW.seq) | (apply CW.region) | (apply CW.ret) | (apply EX.thenR)))
    refine EX.ret1 rfl rfl ⟨?_, Ext.refl _⟩
    have h0 : ao = none := by simpa using h
    have : xs = [] := List.eq_nil_of_length_eq_zero (by have := hs.nil h0; have := hs.le; omega)
    subst this
    exact Own.nil
  · (repeat (first | (apply EX.thenN) | (apply CW.seq) | (apply CW.region) | (apply CW.skip)))
    refine WL.lit0 (α := Nat) rfl rfl (fun w1 ho hg => ?_)
    (repeat (apply WL.pure; rfl; rfl; rfl))
    have hE : Ext w0 w1 := (Below.refl _ _).grown hg (Nat.le_refl _) (fun k h => by cases h)
    refine WL.app (F := Non) rfl rfl rfl rfl ho (hs.up0 hE hF).srcN hE.size (fun _ h => h.elim) (by simp [maxLen]; omega) (by simpa using hb) (fun v w2 ho2 hg2 _ => ?_)
    (repeat (first | (apply WL.pure; rfl; rfl; rfl) | (apply WL.nil) | (apply EX.thenN) | (apply CW.ret)))
    refine EX.ret1 rfl rfl ⟨by simpa using ho2, hE.grown hg2 hE.size ?_⟩
    intro k hk
    exact (ho.lt k hk).1
theorem turnsB_next {l : List Nat} {n : Nat} (h : ∀ j, n ≤ j → j < l.length → l.getD j 0 = l.getD (j - n) 0) : turnsB l n = true := by
  unfold turnsB
  rw [List.all_eq_true]
  intro j hj
  rw [List.mem_range] at hj
  simp only [Bool.or_eq_true, decide_eq_true_eq, beq_iff_eq]
  by_cases hn : j < n
  · exact .inl hn
  · exact .inr (h j (by omega) hj)
theorem getN_at {l : List Nat} {j : Nat} (h : j < l.length) : l.getD j 0 = l[j] := by rw [List.getD_eq_getElem?_getD, List.getElem?_eq_getElem h]; rfl
theorem turns_ok (w0 : World) {ao : Option Addr} {cap : Nat} {l : List Nat} (hs : Sl w0 (Old w0) ao cap l) {n : Nat} (hn : n ≤ l.length) (hm : l.length ≤ 1099511627776) :
    Rt Try.prog 173 [.slice ao l.length cap, .int .i64 n].toArray w0 fun v w' => v = .bool (turnsB l n) ∧ Ext w0 w' := by
  refine Rt.enter2 Try.func173 Try.ntmps173 rfl rfl ?_
  (repeat (first | (apply WL.pure; rfl; rfl; rfl) | (apply WL.nil) | (apply EX.thenN) | (apply CW.seq) | (apply CW.region) | (apply CW.block)))
  refine CW.loop (S := Nat) (fun i => [(0, .slice ao l.length cap), (1, .int .i64 n), (5, .int .i64 i)])
    (fun i w => n ≤ i ∧ i ≤ l.length ∧ Ext w0 w ∧ ∀ j, n ≤ j → j < i → l.getD j 0 = l.getD (j - n) 0) (fun i => l.length - i) n (by repeat (first | exact trivial | refine ⟨rfl, ?_⟩)) ⟨Nat.le_refl _, hn, Ext.refl _, fun j h1 h2 => by omega⟩ ?_
  rintro i w ⟨hni, hi, hE, hpre⟩
  (repeat (first | (apply WL.pure; rfl; rfl; rfl) | (apply WL.nil) | (apply EX.thenN) | (apply CW.seq) | (apply CW.region) | (apply WL.lenS; rfl; rfl; rfl)))
  refine CW.cond rfl (fun h1 => ?_) (fun h1 => ?_)
  · simp at h1
    have hsw := hs.up hE
    have hil : i - n < l.length := by omega
    have esub : (i : Int) - (n : Int) = ((i - n : Nat) : Int) := by omega
    (repeat (first | (apply QL.pure; rfl; rfl; rfl) | (apply EX.thenN) | (apply CW.seq) | (apply CW.block) | (apply CW.skip) | (apply CW.draw; exact mixed; kernel_rfl)))
    refine QL.elemN rfl rfl rfl rfl rfl (fun _ h => h) hsw h1 (fun _ => rfl) (fun u q hu => ?_)
    obtain ⟨rfl, hb1⟩ := hu.u64
    (repeat (first | (apply QL.sub'; rfl; rfl; rfl; rfl; omega; omega) | (apply QL.pure; rfl; rfl; rfl)))
    refine QL.elem rfl rfl rfl rfl rfl (fun _ h => h) hsw (by omega) (by omega) (fun _ => rfl) (fun u q2 hu2 => ?_)
    have ei : ((i : Int) - (n : Int)).toNat = i - n := by omega
    simp only [ei] at hu2
    obtain ⟨rfl, hb2⟩ := hu2.u64
    (repeat (apply QL.pure; rfl; rfl; rfl))
    refine QL.nil (fun w2 hE2 => ?_)
    (repeat (apply EX.thenN))
    refine CW.cond rfl (fun h2 => ?_) (fun h2 => ?_)
    · have h2 : ¬ l[i] = l[i - n] := by
        have : ¬ ((l[i] : Nat) : Int) = ((l[i - n] : Nat) : Int) := by simpa using h2
        omega
      (repeat (first | (apply WL.pure; rfl; rfl; rfl) | (apply WL.nil) | (apply EX.thenN) | (apply CW.seq) | (apply CW.region) | (apply CW.ret) | (apply EX.thenR) | (apply EX.inR)))
      refine EX.ret1 rfl rfl ⟨?_, hE.trans hE2⟩
      have : turnsB l n = false := by
        cases e : turnsB l n
        · rfl
        · exfalso
          unfold turnsB at e
          rw [List.all_eq_true] at e
          have := e i (List.mem_range.2 h1)
          simp only [Bool.or_eq_true, decide_eq_true_eq, beq_iff_eq] at this
          rw [getN_at h1, getN_at hil] at this
          omega
      rw [this]
    · have h2 : l[i] = l[i - n] := by
        have : ((l[i] : Nat) : Int) = ((l[i - n] : Nat) : Int) := by simpa using h2
        omega
      (repeat (first | (apply WL.add; rfl; rfl; rfl; rfl; omega; omega) | (apply WL.pure; rfl; rfl; rfl) | (apply WL.nil) | (apply EX.thenN) | (apply CW.region) | (apply EX.inN) | (apply CW.skip)))
      refine EX.back (i + 1) (by repeat (first | exact trivial | refine ⟨rfl, ?_⟩)) ⟨by omega, h1, hE.trans hE2, fun j h3 h4 => ?_⟩ (by omega)
      by_cases e : j = i
      · subst e; rw [getN_at h1, getN_at hil]; exact h2
      · exact hpre j h3 (by omega)
  · simp at h1
    have : i = l.length := by omega
    subst this
    (repeat (first | (apply WL.pure; rfl; rfl; rfl) | (apply WL.nil) | (apply EX.thenN) | (apply CW.seq) | (apply CW.region) | (apply CW.exit) | (apply EX.thenX) | (apply EX.inX) | (apply CW.ret)))
    refine EX.ret1 rfl rfl ⟨?_, hE⟩
    rw [turnsB_next hpre]
theorem perGo_found {l : List Nat} {n : Nat} (hfit : l.length % n = 0 ∧ turnsB l n = true) : ∀ (f k : Nat), k ≤ n → n < k + f → (∀ d, k ≤ d → d < n → ¬ (l.length % d = 0 ∧ turnsB l d = true)) → perGo l f k = l.take n
  | 0, k, h1, h2, _ => by omega
  | f + 1, k, h1, h2, hno => by
    by_cases e : k = n
    · subst e; rw [perGo, if_pos hfit]
    · rw [perGo, if_neg (hno k (Nat.le_refl _) (by omega))]
      exact perGo_found hfit f (k + 1) (by omega) (by omega) (fun d h3 h4 => hno d (by omega) h4)

theorem least_ok (w0 : World) {F : Nat → Prop} {so lo : Option Addr} {sc lc : Nat} {s l : List Nat} (hs : Sl w0 F so sc s) (hl : Sl w0 F lo lc l) (hF : ∀ b, F b → b < w0.heap.size) (h0 : 0 < l.length) (h60 : s.length + l.length ≤ 1000) :
    Rt Try.prog 137 [wordV so sc lo lc s l].toArray w0 fun v w' => Rd w' (fun b => w0.heap.size ≤ b ∧ b < w'.heap.size) v (leastL s l : LWord) ∧ Ext w0 w' := by
  refine Rt.enter1 Try.func137 Try.ntmps137 rfl rfl ?_
  (repeat (first | (apply CW.seq) | (apply CW.region)))
  refine WL.boxB rfl rfl rfl fun w1 hw hE1 => ?_
  have hlt1 : w0.heap.size < w1.heap.size := hw.lt
  refine WL.alloc rfl rfl (fun w2 hr hE2 => ?_)
  have hw := hw.ext hE2
  have hlt2 : w1.heap.size < w2.heap.size := hr.lt
  have hE12 := hE1.trans hE2
  (repeat (first | (apply WL.nil) | (apply EX.thenN) | (apply CW.seq)))
  have hSE : ∀ w3, (fun x => Ext w2 x) w3 → Ext w2 w3 := fun _ h => h
  refine CW.drawH (fun x => Ext w2 x) [(0, true), (1, true), (3, true), (4, true), (2, false), (5, false), (6, true), (7, true)] mixed (by kernel_rfl) (Ext.drew w2) ?_
  (repeat (first | (refine HL.fa rfl rfl rfl rfl ?_) | (refine HL.ld (by assumption) rfl rfl rfl rfl (by assumption) rfl ?_)))
  have hd : Ext w0 (drew w2) := hE12.trans (Ext.drew w2)
  refine HL.mut rfl (WL.call rfl rfl rfl (uclone_ok (drew w2) (hs.up0 hd hF) (fun b hb => Nat.lt_of_lt_of_le (hF b hb) hd.size) (by omega)) ?_)
  rintro sV w3 ⟨hos, hE3⟩
  have hT3 : Ext w2 w3 := (Ext.drew w2).trans hE3
  refine WL.nil (EX.mut hT3 ?_)
  have hd3 := hE12.trans hT3
  refine HL.mut rfl (WL.call rfl rfl rfl (uclone_ok w3 (hl.up0 hd3 hF) (fun b hb => Nat.lt_of_lt_of_le (hF b hb) hd3.size) (by omega)) ?_)
  rintro lV w4 ⟨hol, hE4⟩
  have hT4 : Ext w2 w4 := hT3.trans hE4
  refine WL.nil (EX.mut hT4 ?_)
  have hos := (hos.extN hE4).low (B' := w2.heap.size) (Nat.le_refl _)
  have hol := hol.low hT3.size
  (repeat (first | (apply HL.pure; rfl; rfl; rfl; rfl) | (apply HL.nil)))
  apply EX.thenN
  have hE4' := hE12.trans hT4
  have hr4 := hr.ext hT4
  clear hw hE1 hE2 hE3 hE4 hT3 hd hd3 hSE
  have hllen : 0 < l.length ∧ l.length ≤ 1000 := ⟨h0, by omega⟩
  obtain ⟨lo2, lc2, rfl, hlsl⟩ := hol.oldN.sl
  (repeat (first | (apply WL.pure; rfl; rfl; rfl) | (apply WL.nil) | (apply EX.thenN) | (apply CW.seq) | (apply CW.region) | (apply CW.block)))
  refine CW.loop (S := Nat) (fun n => [(2, .pointer (some ⟨w1.heap.size, 0, none⟩)), (3, sV), (4, .slice lo2 l.length lc2), (5, .int .i64 n)])
    (fun n w => 0 < n ∧ n ≤ l.length + 1 ∧ (∀ d, 0 < d → d < n → ¬ (l.length % d = 0 ∧ turnsB l d = true)) ∧ Ext w4 w) (fun n => l.length + 1 - n) 1 (by repeat (first | exact trivial | refine ⟨rfl, ?_⟩)) ⟨by omega, by omega, fun d h1 h2 => by omega, Ext.refl _⟩ ?_
  rintro n w5 ⟨hn0, hnl, hno, hE5⟩
  have hol5 := hol.extN hE5
  (repeat (first | (apply WL.pure; rfl; rfl; rfl) | (apply WL.nil) | (apply EX.thenN) | (apply CW.seq) | (apply CW.region) | (apply WL.lenS; rfl; rfl; rfl)))
  refine CW.cond rfl (fun h1 => ?_) (fun h1 => ?_)
  rotate_left
  · exfalso
    have hnn : n = l.length + 1 := by simp at h1; omega
    refine hno l.length h0 (by omega) ⟨Nat.mod_self _, ?_⟩
    rw [turns_per (s := s) h0 (Nat.mod_self _) h0]
    exact lat_perP h0
  have hnle : n ≤ l.length := by simp at h1; omega
  clear h1
  (repeat (first | (apply WL.pure; rfl; rfl; rfl) | (apply EX.thenN) | (apply CW.seq) | (apply CW.region) | (apply WL.lenS; rfl; rfl; rfl) | (apply CW.block) | (apply CW.skip)))
  refine WL.rem rfl rfl rfl rfl (by omega) (by omega) ?_
  (repeat (apply WL.pure; rfl; rfl; rfl))
  by_cases hdiv : l.length % n = 0
  · have e1 : ((l.length : Int) % (n : Int) == 0) = true := by
      rw [beq_iff_eq]; omega
    rw [e1]
    (repeat (apply WL.pure; rfl; rfl; rfl))
    refine WL.call rfl rfl rfl (turns_ok w5 (hlsl.up hE5) hnle (by omega)) ?_
    rintro _ w6 ⟨rfl, hE6⟩
    have hE56 := hE5.trans hE6
    cases hturn : turnsB l n
    · (repeat (first | (apply WL.add; rfl; rfl; rfl; rfl; omega; omega) | (apply WL.pure; rfl; rfl; rfl) | (apply WL.nil) | (apply EX.thenN) | (apply CW.region) | (apply EX.inN) | (apply CW.condF; rfl) | (apply CW.skip)))
      refine EX.back (n + 1) (by repeat (first | exact trivial | refine ⟨rfl, ?_⟩)) ⟨by omega, by omega, fun d h1 h2 => ?_, hE56⟩ (by omega)
      by_cases e : d = n
      · subst e; intro h; rw [hturn] at h; cases h.2
      · exact hno d h1 (by omega)
    have hper : perL l = l.take n := perGo_found ⟨hdiv, hturn⟩ _ 1 (by omega) (by omega) (fun d h1 h2 => hno d (by omega) h2)
    have hol6 := hol5.extN hE6
    have hos6 := hos.extN hE56
    (repeat (first | (apply WL.pure; rfl; rfl; rfl) | (apply WL.nil) | (apply EX.thenN) | (apply CW.seq) | (apply CW.region) | (apply CW.condT; rfl)))
    refine WL.cut3O (α := Nat) rfl rfl rfl rfl rfl hol6 hnle (fun pV hop hpb => ?_)
    rw [← hper] at hop
    have hpl : 0 < (perL l).length ∧ (perL l).length ≤ l.length := by rw [hper, List.length_take]; omega
    have hres : rollGo s.length s (perL l) = leastL s l := rfl
    generalize perL l = l1 at *
    have hE06 : Ext w2 w6 := hT4.trans hE56
    have hsl0 : s.length ≤ 1000 := by omega
    (repeat (first | (apply WL.pure; rfl; rfl; rfl) | (apply WL.nil) | (apply EX.thenN) | (apply CW.seq) | (apply CW.block) | (apply CW.exit) | (apply EX.thenX) | (apply EX.inX) | (apply EX.inXne; rfl)))
    refine CW.loop (S := List Nat × List Nat × Value × Value) (fun x => [(2, .pointer (some ⟨w1.heap.size, 0, none⟩)), (3, x.2.2.1), (4, x.2.2.2)])
      (fun x w => x.1.length ≤ s.length ∧ 0 < x.2.1.length ∧ x.2.1.length ≤ l.length ∧ rollGo x.1.length x.1 x.2.1 = leastL s l ∧ Own w w2.heap.size 33 Non x.2.2.1 x.1 ∧ Own w w2.heap.size 33 Non x.2.2.2 x.2.1 ∧ Ext w2 w) (fun x => x.1.length) (s, l1, sV, pV) (by repeat (first | exact trivial | refine ⟨rfl, ?_⟩)) ⟨Nat.le_refl _, hpl.1, hpl.2, hres, hos6, hop, hE06⟩ ?_
    clear hop hos6 hol6 hE06 hres hpl hper hol5 hE5 hE6 hE56 hno hos hol hlsl hT4
    rintro ⟨s2, l2, aV, bV⟩ w7 ⟨hs2, hl2, hl2', hres, hoa, hob, hE7⟩
    dsimp only at hs2 hl2 hl2' hres hoa hob
    obtain ⟨ao, ac, rfl, hasl⟩ := hoa.oldN.sl
    obtain ⟨bo, bc, rfl, hbsl⟩ := hob.oldN.sl
    (repeat (first | (apply QL.pure; rfl; rfl; rfl) | (apply CW.seq) | (apply QL.lenS; rfl; rfl; rfl) | (apply CW.draw; exact mixed; kernel_rfl)))
    (refine QL.lookG rfl rfl (fun h => ?_) (fun h => ?_))
    · have hpos : 0 < s2.length := by simpa using h
      have hsl1 : s2.length - 1 < s2.length := by omega
      have hll1 : l2.length - 1 < l2.length := by omega
      have eS : ((s2.length : Int) - 1).toNat = s2.length - 1 := by omega
      have eL : ((l2.length : Int) - 1).toNat = l2.length - 1 := by omega
      (repeat (first | (apply QL.sub'; rfl; rfl; rfl; rfl; omega; omega) | (apply QL.pure; rfl; rfl; rfl) | (apply QL.lenS; rfl; rfl; rfl)))
      refine QL.elem rfl rfl rfl rfl rfl (fun _ h => h) hasl (by omega) (by omega) (fun _ => rfl) (fun u q hu => ?_)
      simp only [eS] at hu
      obtain ⟨rfl, hb1⟩ := hu.u64
      (repeat (first | (apply QL.sub'; rfl; rfl; rfl; rfl; omega; omega) | (apply QL.pure; rfl; rfl; rfl) | (apply QL.lenS; rfl; rfl; rfl)))
      refine QL.elem rfl rfl rfl rfl rfl (fun _ h => h) hbsl (by omega) (by omega) (fun _ => rfl) (fun u q2 hu2 => ?_)
      simp only [eL] at hu2
      obtain ⟨rfl, hb2⟩ := hu2.u64
      (repeat (apply QL.pure; rfl; rfl; rfl))
      refine QL.nil (fun w8 hE8 => ?_)
      have hoa8 := hoa.extN hE8
      have hob8 := hob.extN hE8
      have hE28 := hE7.trans hE8
      (repeat (apply EX.thenN))
      refine CW.cond rfl (fun h1 => ?_) (fun h1 => ?_)
      · have heq : s2[s2.length - 1] = l2[l2.length - 1] := by
          have : ((s2[s2.length - 1] : Nat) : Int) = ((l2[l2.length - 1] : Nat) : Int) := by simpa using h1
          omega
        have hroll : rollGo s2.length s2 l2 = rollGo (s2.length - 1) (s2.take (s2.length - 1)) (l2.getD (l2.length - 1) 0 :: l2.take (l2.length - 1)) := by
          obtain ⟨m, hm⟩ : ∃ m, s2.length = m + 1 := ⟨s2.length - 1, by omega⟩
          rw [hm, rollGo, if_pos ⟨by omega, by rw [getN_at (by omega), getN_at hll1]; exact heq⟩, hm]
          rfl
        have elast : l2.getD (l2.length - 1) 0 = l2[l2.length - 1] := getN_at hll1
        rw [elast] at hroll
        (repeat (first | (apply WL.sub'; rfl; rfl; rfl; rfl; omega; omega) | (apply WL.pure; rfl; rfl; rfl) | (apply EX.thenN) | (apply CW.seq) | (apply CW.region) | (apply WL.lenS; rfl; rfl; rfl) | (apply CW.block) | (apply CW.skip)))
        refine WL.cutHiO (α := Nat) (s2.length - 1) (by omega) rfl rfl rfl rfl hoa8 (by omega) (fun cV hoc hcb => ?_)
        (repeat (apply WL.pure; rfl; rfl; rfl))
        apply WL.nil
        apply EX.thenN
        have hd : Ext w2 (drew w8) := hE28.trans (Ext.drew w8)
        have hobd := hob8.extN (Ext.drew w8)
        have hocd := hoc.extN (Ext.drew w8)
        obtain ⟨bo', bc', hbe, hbsd⟩ := hobd.oldN.sl
        obtain ⟨rfl, _, rfl⟩ := Value.slice.inj hbe
        have hSE : ∀ w9, (fun x => Ext (drew w8) x) w9 → Ext (drew w8) w9 := fun _ h => h
        refine CW.drawH (fun x => Ext (drew w8) x) [(0, true), (1, true), (2, true), (3, true), (4, true), (5, true), (7, true), (8, true), (9, true), (10, true), (11, true), (6, false), (12, false), (13, true)] mixed (by kernel_rfl) (Ext.refl _) ?_
        (repeat (first | (apply HL.sub'; rfl; rfl; rfl; rfl; rfl; omega; omega) | (apply HL.pure; rfl; rfl; rfl; rfl) | (refine HL.lenS rfl rfl rfl rfl ?_)))
        refine HL.elemZ hSE rfl rfl rfl rfl rfl rfl rfl (fun _ h => h) hbsd (by omega) (by omega) (fun _ => rfl) (fun u q3 hu3 => ?_)
        simp only [eL] at hu3
        obtain ⟨rfl, hb3⟩ := hu3.u64
        (repeat (first | (apply HL.sub'; rfl; rfl; rfl; rfl; rfl; omega; omega) | (apply HL.pure; rfl; rfl; rfl; rfl) | (refine HL.lenS rfl rfl rfl rfl ?_)))
        refine HL.cutHi (α := Nat) (l2.length - 1) (by omega) rfl rfl rfl rfl rfl (by have := hbsd.le; omega) ?_
        refine HL.mut rfl (WL.lit (α := Nat) (F := Non) (ys := [l2[l2.length - 1]]) rfl rfl rfl rfl rfl (.cons ⟨_, rfl, rd_mkU64 _ _ _ hb3⟩ .nil) (by show 1 * 1 ≤ 16777216; decide) (fun _ h => h.elim) (fun w9 ho9 hg9 => ?_))
        have hE9 : Ext (drew w8) w9 := (Ext.refl _).grown hg9 (Nat.le_refl _) (fun k h => by cases h)
        refine WL.nil (EX.mut hE9 ?_)
        have htk := (hbsd.up hE9).take (k := l2.length - 1) (by omega)
        have htl : (l2.take (l2.length - 1)).length = l2.length - 1 := by rw [List.length_take]; omega
        refine HL.mut rfl (WL.app (F := Non) (xs := [l2[l2.length - 1]]) (ys := l2.take (l2.length - 1)) (cap := bc) rfl rfl rfl (by rw [htl]; rfl) ho9 htk.srcN hE9.size (fun _ h => h.elim) (by rw [htl]; unfold maxLen; simp; omega) (by rw [htl]; simp; omega) (fun v' w10 ho10 hg10 hnb10 => ?_))
        have hE10 : Ext (drew w8) w10 := hE9.grown hg10 hE9.size (fun k hk => by cases hk; exact Nat.le_refl _)
        refine WL.nil (EX.mut hE10 ?_)
        have hoc10 := hocd.extN hE10
        (repeat (first | (apply HL.pure; rfl; rfl; rfl; rfl) | (apply HL.nil)))
        (repeat (apply EX.inN))
        refine EX.back (s2.take (s2.length - 1), l2[l2.length - 1] :: l2.take (l2.length - 1), cV, v') (by repeat (first | exact trivial | refine ⟨rfl, ?_⟩)) ⟨by simp only [List.length_take]; omega, by simp, by simp only [List.length_cons, htl]; omega, ?_, hoc10, ho10.low hd.size, hd.trans hE10⟩ (by simp only [List.length_take]; omega)
        dsimp only
        rw [List.length_take, Nat.min_eq_left (by omega), ← hroll]
        exact hres
      · have hne : ¬ s2[s2.length - 1] = l2[l2.length - 1] := by
          have : ¬ ((s2[s2.length - 1] : Nat) : Int) = ((l2[l2.length - 1] : Nat) : Int) := by simpa using h1
          omega
        have hfin : (s2, l2) = leastL s l := by
          rw [← hres]
          obtain ⟨m, hm⟩ : ∃ m, s2.length = m + 1 := ⟨s2.length - 1, by omega⟩
          rw [hm, rollGo, if_neg (fun h => hne (by have := h.2; rwa [getN_at (by omega), getN_at hll1] at this))]
        rw [← hfin]
        (repeat (first | (apply WL.pure; rfl; rfl; rfl) | (apply EX.thenN) | (apply CW.seq) | (apply CW.region) | (apply CW.exit) | (apply EX.thenX) | (apply EX.inX)))
        have hr8 := hr.ext hE28
        have hE08 : Ext w0 w8 := hE12.trans hE28
        refine WL.call rfl rfl rfl (uclone_ok w8 (hasl.up hE8) (fun _ h => h) (by omega)) ?_
        rintro eV w9 ⟨hoe, hE9⟩
        have hob9 := hob8.extN hE9
        have hr9 := hr8.ext hE9
        have hE09 := hE08.trans hE9
        obtain ⟨eo, ec, rfl⟩ := hoe.val
        (repeat (apply WL.pure; rfl; rfl; rfl))
        refine WL.build rfl rfl rfl rfl ?_
        refine WL.st rfl rfl rfl hr9 rfl rfl (ones_of rfl) (fun w10 hr10 hg10 => ?_)
        have hE10 : Ext w0 w10 := hE09.grown hg10 hE09.size (fun g hg => by cases hg; omega)
        have hw29 : w2.heap.size ≤ w8.heap.size := hE28.size
        have hoe10 := hoe.keptN hg10 (fun g hg e => by cases e; have := (hoe.lt _ hg).1; omega)
        have hob10 := hob9.keptN hg10 (fun g hg e => by cases e; have := (hob9.lt _ hg).1; omega)
        obtain ⟨q1, q2, he1, hsl1⟩ := (hoe10.rd.mono (F' := fun b => w0.heap.size ≤ b ∧ b < w10.heap.size) (fun _ _ => rfl) (fun b hb => hb.elim (fun h => h.elim) fun hb => ⟨Nat.le_trans hE08.size (hoe10.lt b hb).1, (hoe10.lt b hb).2.1⟩)).sl
        obtain ⟨rfl, _, rfl⟩ := Value.slice.inj he1
        obtain ⟨q3, q4, he2, hsl2⟩ := (hob10.rd.mono (F' := fun b => w0.heap.size ≤ b ∧ b < w10.heap.size) (fun _ _ => rfl) (fun b hb => hb.elim (fun h => h.elim) fun hb => ⟨Nat.le_trans hE12.size (hob10.lt b hb).1, (hob10.lt b hb).2.1⟩)).sl
        obtain ⟨rfl, _, rfl⟩ := Value.slice.inj he2
        (repeat (first | (apply WL.nil) | (apply EX.thenN) | (apply CW.ret)))
        exact EX.retC rfl rfl hr10 rfl ⟨Rd.mkPr (rd_mkSl hsl1) (rd_mkSl hsl2), hE10⟩
    · have hs0 : s2 = [] := by simpa using h
      have hfin : (s2, l2) = leastL s l := by
        rw [← hres, hs0]; rfl
      rw [← hfin]
      (repeat (first | (apply QL.pure; rfl; rfl; rfl) | (apply QL.pass; rfl; rfl)))
      refine QL.nil (fun w8 hE8 => ?_)
      have hoa8 := hoa.extN hE8
      have hob8 := hob.extN hE8
      have hE28 := hE7.trans hE8
      (repeat (first | (apply WL.pure; rfl; rfl; rfl) | (apply EX.thenN) | (apply CW.seq) | (apply CW.region) | (apply CW.condF; rfl) | (apply CW.exit) | (apply EX.thenX) | (apply EX.inX)))
      have hr8 := hr.ext hE28
      have hE08 : Ext w0 w8 := hE12.trans hE28
      refine WL.call rfl rfl rfl (uclone_ok w8 (hasl.up hE8) (fun _ h => h) (by omega)) ?_
      rintro eV w9 ⟨hoe, hE9⟩
      have hob9 := hob8.extN hE9
      have hr9 := hr8.ext hE9
      have hE09 := hE08.trans hE9
      obtain ⟨eo, ec, rfl⟩ := hoe.val
      (repeat (apply WL.pure; rfl; rfl; rfl))
      refine WL.build rfl rfl rfl rfl ?_
      refine WL.st rfl rfl rfl hr9 rfl rfl (ones_of rfl) (fun w10 hr10 hg10 => ?_)
      have hE10 : Ext w0 w10 := hE09.grown hg10 hE09.size (fun g hg => by cases hg; omega)
      have hw29 : w2.heap.size ≤ w8.heap.size := hE28.size
      have hoe10 := hoe.keptN hg10 (fun g hg e => by cases e; have := (hoe.lt _ hg).1; omega)
      have hob10 := hob9.keptN hg10 (fun g hg e => by cases e; have := (hob9.lt _ hg).1; omega)
      obtain ⟨q1, q2, he1, hsl1⟩ := (hoe10.rd.mono (F' := fun b => w0.heap.size ≤ b ∧ b < w10.heap.size) (fun _ _ => rfl) (fun b hb => hb.elim (fun h => h.elim) fun hb => ⟨Nat.le_trans hE08.size (hoe10.lt b hb).1, (hoe10.lt b hb).2.1⟩)).sl
      obtain ⟨rfl, _, rfl⟩ := Value.slice.inj he1
      obtain ⟨q3, q4, he2, hsl2⟩ := (hob10.rd.mono (F' := fun b => w0.heap.size ≤ b ∧ b < w10.heap.size) (fun _ _ => rfl) (fun b hb => hb.elim (fun h => h.elim) fun hb => ⟨Nat.le_trans hE12.size (hob10.lt b hb).1, (hob10.lt b hb).2.1⟩)).sl
      obtain ⟨rfl, _, rfl⟩ := Value.slice.inj he2
      (repeat (first | (apply WL.nil) | (apply EX.thenN) | (apply CW.ret)))
      exact EX.retC rfl rfl hr10 rfl ⟨Rd.mkPr (rd_mkSl hsl1) (rd_mkSl hsl2), hE10⟩
  · have e1 : ((l.length : Int) % (n : Int) == 0) = false := by
      rw [beq_eq_false_iff_ne]; omega
    rw [e1]
    (repeat (first | (apply WL.add; rfl; rfl; rfl; rfl; omega; omega) | (apply WL.pure; rfl; rfl; rfl) | (apply WL.nil) | (apply EX.thenN) | (apply CW.region) | (apply WL.pass; rfl; rfl) | (apply EX.inN) | (apply CW.condF; rfl) | (apply CW.skip)))
    refine EX.back (n + 1) (by repeat (first | exact trivial | refine ⟨rfl, ?_⟩)) ⟨by omega, by omega, fun d h1 h2 => ?_, hE5⟩ (by omega)
    by_cases e : d = n
    · subst e; exact fun h => hdiv h.1
    · exact hno d h1 (by omega)

def sameE (s l t m : List Nat) : Bool × Int := if chkW s l ≠ 0 then (false, chkW s l) else if chkW t m ≠ 0 then (false, chkW t m) else ((leastL s l).1 == (leastL t m).1 && (leastL s l).2 == (leastL t m).2, 0)
end Go.Proofs.Ythojdcbpglipeaa
