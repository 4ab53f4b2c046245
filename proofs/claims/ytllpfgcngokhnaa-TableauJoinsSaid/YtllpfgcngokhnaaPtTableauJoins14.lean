import Derived.Test.YtllpfgcngokhnaaPtTableauJoins13
/-
  lasso.turns, least, Same: walked.
-/
set_option linter.unusedVariables false
set_option linter.unusedSimpArgs false
namespace Go.Proofs.Ytllpfgcngokhnaa
open Go.RowKit

/-- x[i], read, of what stands since the base world; the index a whole number -/
theorem HL.elemZ {P : Program} {Q : Exit → Act → World → Prop} {n : Nat} {σ : Sg} {w wc : World} {L : List Oper} {S : World → Prop} {ord : List (Nat × Bool)} {i j d d' : Nat} {ty : TypeId} {pos : String} {af : Array Edge} {g : Option (Nat × Bool)} {ty' : TypeId} {pos' : String} {af' : Array Edge} {g' : Option (Nat × Bool)} {t e : TypeId} {x ix : Operand} {α : Type} [Rep α] {F : Nat → Prop}
    {ao : Option Addr} {cap : Nat} {xs : List α} {k : Int} {kd : IntKind} (hSE : ∀ w1, S w1 → Ext w w1)
    (ho1 : nthO L i = some ⟨some d, .indexAddr t x ix, ty, pos, af, g⟩) (ho2 : nthO L j = some ⟨some d', .load e (.tmp d), ty', pos', af', g'⟩)
    (hg : gd L σ ⟨some d, .indexAddr t x ix, ty, pos, af, g⟩ = some true) (hd : Nat.ble (d + 1) n = true) (hd' : Nat.ble (d' + 1) n = true)
    (hx : ev σ x = some (.slice ao xs.length cap)) (hi : ev σ ix = some (.int kd k)) [hs : IsS P t e] [ht : IsT P e α] (hF : ∀ b, F b → b < w.heap.size) (hsl : Sl w F ao cap xs) (h0 : 0 ≤ k) (h1 : k < xs.length)
    (hg' : ∀ p, gd L ((d, .pointer p) :: σ) ⟨some d', .load e (.tmp d), ty', pos', af', g'⟩ = some true)
    (h : ∀ u p, Rd w F u (xs[k.toNat]'(by omega)) → HL P L S Q ord n ((d', u) :: (d, .pointer p) :: σ) wc) :
    HL P L S Q ((i, true) :: (j, true) :: ord) n σ wc := by
  obtain ⟨b, off, rfl, hFb, es, hc, hr⟩ := hsl.el k.toNat (by omega)
  refine HL.idx (α := α) ho1 hg hd hx hi h0 h1 ?_
  refine HL.load (α := α) hSE ho2 (hg' _) hd' fnd_cons_eq (hF b hFb) hF hc hr ?_
  exact h _ _ ⟨es, rfl, hr⟩
theorem uclone_ok (w0 : World) {F : Nat → Prop} {ao : Option Addr} {cap : Nat} {xs : List Nat} (hs : Sl w0 F ao cap xs) (hF : ∀ b, F b → b < w0.heap.size) (hb : xs.length * 8 ≤ 140737488355328) :
    Rt Try.prog 107 [.slice ao xs.length cap].toArray w0 fun v w' => Own w' w0.heap.size 53 Non v xs ∧ Ext w0 w' := by
  have hm := hs.len63
  refine Rt.enter1 Try.func107 Try.ntmps107 rfl rfl ?_
  (repeat (first | (apply WL.pure; rfl; rfl; rfl) | (apply WL.nil) | (apply EX.thenN) | (apply CW.seq) | (apply CW.region) | (apply WL.isNil; rfl; rfl; rfl)))
  refine CW.cond rfl (fun h => ?_) (fun h => ?_)
  · (repeat (first | (apply WL.pure; rfl; rfl; rfl) | (apply WL.nil) | (apply EX.thenN) | (apply CW.seq) | (apply CW.region) | (apply CW.ret) | (apply EX.thenR)))
    refine EX.ret1 rfl rfl ⟨?_, Ext.refl _⟩
    have h0 : ao = none := by simpa using h
    have : xs = [] := List.eq_nil_of_length_eq_zero (by have := hs.nil h0; have := hs.le; omega)
    subst this
    exact Own.nil
  · (repeat (first | (apply EX.thenN) | (apply CW.seq) | (apply CW.region) | (apply CW.skip)))
    refine WL.lit0 (α := Nat) rfl rfl (fun w1 ho hg => ?_)
    (repeat (apply WL.pure; rfl; rfl; rfl))
    have hE : Ext w0 w1 := (Below.refl _ _).grown hg (Nat.le_refl _) (fun k h => by cases h)
    refine WL.app (F := Non) rfl rfl rfl rfl ho (hs.up0 hE hF).srcN hE.size (fun _ h => h.elim) (by simp [maxLen]; omega) (by simpa using hb) (fun v w2 ho2 hg2 _ => ?_)
    (repeat (first | (apply WL.pure; rfl; rfl; rfl) | (apply WL.nil) | (apply EX.thenN) | (apply CW.ret)))
    refine EX.ret1 rfl rfl ⟨by simpa using ho2, hE.grown hg2 hE.size ?_⟩
    intro k hk
    exact (ho.lt k hk).1
theorem turnsB_next {l : List Nat} {n : Nat} (h : ∀ j, n ≤ j → j < l.length → l.getD j 0 = l.getD (j - n) 0) : turnsB l n = true := by
  unfold turnsB
  rw [List.all_eq_true]
  intro j hj
  rw [List.mem_range] at hj
  simp only [Bool.or_eq_true, decide_eq_true_eq, beq_iff_eq]
  by_cases hn : j < n
  · exact .inl hn
  · exact .inr (h j (by omega) hj)
theorem getN_at {l : List Nat} {j : Nat} (h : j < l.length) : l.getD j 0 = l[j] := by rw [List.getD_eq_getElem?_getD, List.getElem?_eq_getElem h]; rfl
theorem turns_ok (w0 : World) {ao : Option Addr} {cap : Nat} {l : List Nat} (hs : Sl w0 (Old w0) ao cap l) {n : Nat} (hn : n ≤ l.length) (hm : l.length ≤ 1099511627776) :
    Rt Try.prog 144 [.slice ao l.length cap, .int .i64 n].toArray w0 fun v w' => v = .bool (turnsB l n) ∧ Ext w0 w' := by
  refine Rt.enter2 Try.func144 Try.ntmps144 rfl rfl ?_
  (repeat (first | (apply WL.pure; rfl; rfl; rfl) | (apply WL.nil) | (apply EX.thenN) | (apply CW.seq) | (apply CW.region) | (apply CW.block)))
  refine CW.loop (S := Nat) (fun i => [(0, .slice ao l.length cap), (1, .int .i64 n), (5, .int .i64 i)])
    (fun i w => n ≤ i ∧ i ≤ l.length ∧ Ext w0 w ∧ ∀ j, n ≤ j → j < i → l.getD j 0 = l.getD (j - n) 0) (fun i => l.length - i) n (by repeat (first | exact trivial | refine ⟨rfl, ?_⟩)) ⟨Nat.le_refl _, hn, Ext.refl _, fun j h1 h2 => by omega⟩ ?_
  rintro i w ⟨hni, hi, hE, hpre⟩
  (repeat (first | (apply WL.pure; rfl; rfl; rfl) | (apply WL.nil) | (apply EX.thenN) | (apply CW.seq) | (apply CW.region) | (apply WL.lenS; rfl; rfl; rfl)))
  refine CW.cond rfl (fun h1 => ?_) (fun h1 => ?_)
  · simp at h1
    have hsw := hs.up hE
    have hil : i - n < l.length := by omega
    have esub : (i : Int) - (n : Int) = ((i - n : Nat) : Int) := by omega
    (repeat (first | (apply QL.pure; rfl; rfl; rfl) | (apply EX.thenN) | (apply CW.seq) | (apply CW.block) | (apply CW.skip) | (apply CW.draw; exact mixed; kernel_rfl)))
    refine QL.elemN rfl rfl rfl rfl rfl (fun _ h => h) hsw h1 (fun _ => rfl) (fun u q hu => ?_)
    obtain ⟨rfl, hb1⟩ := hu.u64
    (repeat (first | (apply QL.sub'; rfl; rfl; rfl; rfl; omega; omega) | (apply QL.pure; rfl; rfl; rfl)))
    refine QL.elem rfl rfl rfl rfl rfl (fun _ h => h) hsw (by omega) (by omega) (fun _ => rfl) (fun u q2 hu2 => ?_)
    have ei : ((i : Int) - (n : Int)).toNat = i - n := by omega
    simp only [ei] at hu2
    obtain ⟨rfl, hb2⟩ := hu2.u64
    (repeat (apply QL.pure; rfl; rfl; rfl))
    refine QL.nil (fun w2 hE2 => ?_)
    (repeat (apply EX.thenN))
    refine CW.cond rfl (fun h2 => ?_) (fun h2 => ?_)
    · have h2 : ¬ l[i] = l[i - n] := by
        have : ¬ ((l[i] : Nat) : Int) = ((l[i - n] : Nat) : Int) := by simpa using h2
        omega
      (repeat (first | (apply WL.pure; rfl; rfl; rfl) | (apply WL.nil) | (apply EX.thenN) | (apply CW.seq) | (apply CW.region) | (apply CW.ret) | (apply EX.thenR) | (apply EX.inR)))
      refine EX.ret1 rfl rfl ⟨?_, hE.trans hE2⟩
      have : turnsB l n = false := by
        cases e : turnsB l n
        · rfl
        · exfalso
          unfold turnsB at e
          rw [List.all_eq_true] at e
          have := e i (List.mem_range.2 h1)
          simp only [Bool.or_eq_true, decide_eq_true_eq, beq_iff_eq] at this
          rw [getN_at h1, getN_at hil] at this
          omega
      rw [this]
    · have h2 : l[i] = l[i - n] := by
        have : ((l[i] : Nat) : Int) = ((l[i - n] : Nat) : Int) := by simpa using h2
        omega
      (repeat (first | (apply WL.add; rfl; rfl; rfl; rfl; omega; omega) | (apply WL.pure; rfl; rfl; rfl) | (apply WL.nil) | (apply EX.thenN) | (apply CW.region) | (apply EX.inN) | (apply CW.skip)))
      refine EX.back (i + 1) (by repeat (first | exact trivial | refine ⟨rfl, ?_⟩)) ⟨by omega, h1, hE.trans hE2, fun j h3 h4 => ?_⟩ (by omega)
      by_cases e : j = i
      · subst e; rw [getN_at h1, getN_at hil]; exact h2
      · exact hpre j h3 (by omega)
  · simp at h1
    have : i = l.length := by omega
    subst this
    (repeat (first | (apply WL.pure; rfl; rfl; rfl) | (apply WL.nil) | (apply EX.thenN) | (apply CW.seq) | (apply CW.region) | (apply CW.exit) | (apply EX.thenX) | (apply EX.inX) | (apply CW.ret)))
    refine EX.ret1 rfl rfl ⟨?_, hE⟩
    rw [turnsB_next hpre]
theorem perGo_found {l : List Nat} {n : Nat} (hfit : l.length % n = 0 ∧ turnsB l n = true) : ∀ (f k : Nat), k ≤ n → n < k + f → (∀ d, k ≤ d → d < n → ¬ (l.length % d = 0 ∧ turnsB l d = true)) → perGo l f k = l.take n
  | 0, k, h1, h2, _ => by omega
  | f + 1, k, h1, h2, hno => by
    by_cases e : k = n
    · subst e; rw [perGo, if_pos hfit]
    · rw [perGo, if_neg (hno k (Nat.le_refl _) (by omega))]
      exact perGo_found hfit f (k + 1) (by omega) (by omega) (fun d h3 h4 => hno d (by omega) h4)

theorem least_ok (w0 : World) {F : Nat → Prop} {so lo : Option Addr} {sc lc : Nat} {s l : List Nat} (hs : Sl w0 F so sc s) (hl : Sl w0 F lo lc l) (hF : ∀ b, F b → b < w0.heap.size) (h0 : 0 < l.length) (h60 : s.length + l.length ≤ 1000) :
    Rt Try.prog 105 [wordV so sc lo lc s l].toArray w0 fun v w' => Rd w' (fun b => w0.heap.size ≤ b ∧ b < w'.heap.size) v (leastL s l : LWord) ∧ Ext w0 w' := by
  refine Rt.enter1 Try.func105 Try.ntmps105 rfl rfl ?_
  (repeat (first | (apply CW.seq) | (apply CW.region)))
  refine WL.boxB rfl rfl rfl fun w1 hw hE1 => ?_
  have hlt1 : w0.heap.size < w1.heap.size := hw.lt
  refine WL.alloc rfl rfl (fun w2 hr hE2 => ?_)
  have hw := hw.ext hE2
  have hlt2 : w1.heap.size < w2.heap.size := hr.lt
  have hE12 := hE1.trans hE2
  (repeat (first | (apply WL.nil) | (apply EX.thenN) | (apply CW.seq)))
  have hSE : ∀ w3, (fun x => Ext w2 x) w3 → Ext w2 w3 := fun _ h => h
  refine CW.drawH (fun x => Ext w2 x) [(0, true), (1, true), (3, true), (4, true), (2, false), (5, false), (6, true), (7, true)] mixed (by kernel_rfl) (Ext.drew w2) ?_
  (repeat (first | (refine HL.fa rfl rfl rfl rfl ?_) | (refine HL.ld (by assumption) rfl rfl rfl rfl (by assumption) rfl ?_)))
  have hd : Ext w0 (drew w2) := hE12.trans (Ext.drew w2)
  refine HL.mut rfl (WL.call rfl rfl rfl (uclone_ok (drew w2) (hs.up0 hd hF) (fun b hb => Nat.lt_of_lt_of_le (hF b hb) hd.size) (by omega)) ?_)
  rintro sV w3 ⟨hos, hE3⟩
  have hT3 : Ext w2 w3 := (Ext.drew w2).trans hE3
  refine WL.nil (EX.mut hT3 ?_)
  have hd3 := hE12.trans hT3
  refine HL.mut rfl (WL.call rfl rfl rfl (uclone_ok w3 (hl.up0 hd3 hF) (fun b hb => Nat.lt_of_lt_of_le (hF b hb) hd3.size) (by omega)) ?_)
  rintro lV w4 ⟨hol, hE4⟩
  have hT4 : Ext w2 w4 := hT3.trans hE4
  refine WL.nil (EX.mut hT4 ?_)
  have hos := (hos.extN hE4).low (B' := w2.heap.size) (Nat.le_refl _)
  have hol := hol.low hT3.size
  (repeat (first | (apply HL.pure; rfl; rfl; rfl; rfl) | (apply HL.nil)))
  apply EX.thenN
  have hE4' := hE12.trans hT4
  have hr4 := hr.ext hT4
  clear hw hE1 hE2 hE3 hE4 hT3 hd hd3 hSE
  have hllen : 0 < l.length ∧ l.length ≤ 1000 := ⟨h0, by omega⟩
  obtain ⟨lo2, lc2, rfl, hlsl⟩ := hol.oldN.sl
  (repeat (first | (apply WL.pure; rfl; rfl; rfl) | (apply WL.nil) | (apply EX.thenN) | (apply CW.seq) | (apply CW.region) | (apply CW.block)))
  refine CW.loop (S := Nat) (fun n => [(2, .pointer (some ⟨w1.heap.size, 0, none⟩)), (3, sV), (4, .slice lo2 l.length lc2), (5, .int .i64 n)])
    (fun n w => 0 < n ∧ n ≤ l.length + 1 ∧ (∀ d, 0 < d → d < n → ¬ (l.length % d = 0 ∧ turnsB l d = true)) ∧ Ext w4 w) (fun n => l.length + 1 - n) 1 (by repeat (first | exact trivial | refine ⟨rfl, ?_⟩)) ⟨by omega, by omega, fun d h1 h2 => by omega, Ext.refl _⟩ ?_
  rintro n w5 ⟨hn0, hnl, hno, hE5⟩
  have hol5 := hol.extN hE5
  (repeat (first | (apply WL.pure; rfl; rfl; rfl) | (apply WL.nil) | (apply EX.thenN) | (apply CW.seq) | (apply CW.region) | (apply WL.lenS; rfl; rfl; rfl)))
  refine CW.cond rfl (fun h1 => ?_) (fun h1 => ?_)
  rotate_left
  · exfalso
    have hnn : n = l.length + 1 := by simp at h1; omega
    refine hno l.length h0 (by omega) ⟨Nat.mod_self _, ?_⟩
    rw [turns_per (s := s) h0 (Nat.mod_self _) h0]
    exact lat_perP h0
  have hnle : n ≤ l.length := by simp at h1; omega
  clear h1
  (repeat (first | (apply WL.pure; rfl; rfl; rfl) | (apply EX.thenN) | (apply CW.seq) | (apply CW.region) | (apply WL.lenS; rfl; rfl; rfl) | (apply CW.block) | (apply CW.skip)))
  refine WL.rem rfl rfl rfl rfl (by omega) (by omega) ?_
  (repeat (apply WL.pure; rfl; rfl; rfl))
  by_cases hdiv : l.length % n = 0
  · have e1 : ((l.length : Int) % (n : Int) == 0) = true := by
      rw [beq_iff_eq]; omega
    rw [e1]
    (repeat (apply WL.pure; rfl; rfl; rfl))
    refine WL.call rfl rfl rfl (turns_ok w5 (hlsl.up hE5) hnle (by omega)) ?_
    rintro _ w6 ⟨rfl, hE6⟩
    have hE56 := hE5.trans hE6
    cases hturn : turnsB l n
    · (repeat (first | (apply WL.add; rfl; rfl; rfl; rfl; omega; omega) | (apply WL.pure; rfl; rfl; rfl) | (apply WL.nil) | (apply EX.thenN) | (apply CW.region) | (apply EX.inN) | (apply CW.condF; rfl) | (apply CW.skip)))
      refine EX.back (n + 1) (by repeat (first | exact trivial | refine ⟨rfl, ?_⟩)) ⟨by omega, by omega, fun d h1 h2 => ?_, hE56⟩ (by omega)
      by_cases e : d = n
      · subst e; intro h; rw [hturn] at h; cases h.2
      · exact hno d h1 (by omega)
    have hper : perL l = l.take n := perGo_found ⟨hdiv, hturn⟩ _ 1 (by omega) (by omega) (fun d h1 h2 => hno d (by omega) h2)
    have hol6 := hol5.extN hE6
    have hos6 := hos.extN hE56
    (repeat (first | (apply WL.pure; rfl; rfl; rfl) | (apply WL.nil) | (apply EX.thenN) | (apply CW.seq) | (apply CW.region) | (apply CW.condT; rfl)))
    refine WL.cut3O (α := Nat) rfl rfl rfl rfl rfl hol6 hnle (fun pV hop hpb => ?_)
    rw [← hper] at hop
    have hpl : 0 < (perL l).length ∧ (perL l).length ≤ l.length := by rw [hper, List.length_take]; omega
    have hres : rollGo s.length s (perL l) = leastL s l := rfl
    generalize perL l = l1 at *
    have hE06 : Ext w2 w6 := hT4.trans hE56
    have hsl0 : s.length ≤ 1000 := by omega
    (repeat (first | (apply WL.pure; rfl; rfl; rfl) | (apply WL.nil) | (apply EX.thenN) | (apply CW.seq) | (apply CW.block) | (apply CW.exit) | (apply EX.thenX) | (apply EX.inX) | (apply EX.inXne; rfl)))
    refine CW.loop (S := List Nat × List Nat × Value × Value) (fun x => [(2, .pointer (some ⟨w1.heap.size, 0, none⟩)), (3, x.2.2.1), (4, x.2.2.2)])
      (fun x w => x.1.length ≤ s.length ∧ 0 < x.2.1.length ∧ x.2.1.length ≤ l.length ∧ rollGo x.1.length x.1 x.2.1 = leastL s l ∧ Own w w2.heap.size 53 Non x.2.2.1 x.1 ∧ Own w w2.heap.size 53 Non x.2.2.2 x.2.1 ∧ Ext w2 w) (fun x => x.1.length) (s, l1, sV, pV) (by repeat (first | exact trivial | refine ⟨rfl, ?_⟩)) ⟨Nat.le_refl _, hpl.1, hpl.2, hres, hos6, hop, hE06⟩ ?_
    clear hop hos6 hol6 hE06 hres hpl hper hol5 hE5 hE6 hE56 hno hos hol hlsl hT4
    rintro ⟨s2, l2, aV, bV⟩ w7 ⟨hs2, hl2, hl2', hres, hoa, hob, hE7⟩
    dsimp only at hs2 hl2 hl2' hres hoa hob
    obtain ⟨ao, ac, rfl, hasl⟩ := hoa.oldN.sl
    obtain ⟨bo, bc, rfl, hbsl⟩ := hob.oldN.sl
    (repeat (first | (apply QL.pure; rfl; rfl; rfl) | (apply CW.seq) | (apply QL.lenS; rfl; rfl; rfl) | (apply CW.draw; exact mixed; kernel_rfl)))
    (refine QL.lookG rfl rfl (fun h => ?_) (fun h => ?_))
    · have hpos : 0 < s2.length := by simpa using h
      have hsl1 : s2.length - 1 < s2.length := by omega
      have hll1 : l2.length - 1 < l2.length := by omega
      have eS : ((s2.length : Int) - 1).toNat = s2.length - 1 := by omega
      have eL : ((l2.length : Int) - 1).toNat = l2.length - 1 := by omega
      (repeat (first | (apply QL.sub'; rfl; rfl; rfl; rfl; omega; omega) | (apply QL.pure; rfl; rfl; rfl) | (apply QL.lenS; rfl; rfl; rfl)))
      refine QL.elem rfl rfl rfl rfl rfl (fun _ h => h) hasl (by omega) (by omega) (fun _ => rfl) (fun u q hu => ?_)
      simp only [eS] at hu
      obtain ⟨rfl, hb1⟩ := hu.u64
      (repeat (first | (apply QL.sub'; rfl; rfl; rfl; rfl; omega; omega) | (apply QL.pure; rfl; rfl; rfl) | (apply QL.lenS; rfl; rfl; rfl)))
      refine QL.elem rfl rfl rfl rfl rfl (fun _ h => h) hbsl (by omega) (by omega) (fun _ => rfl) (fun u q2 hu2 => ?_)
      simp only [eL] at hu2
      obtain ⟨rfl, hb2⟩ := hu2.u64
      (repeat (apply QL.pure; rfl; rfl; rfl))
      refine QL.nil (fun w8 hE8 => ?_)
      have hoa8 := hoa.extN hE8
      have hob8 := hob.extN hE8
      have hE28 := hE7.trans hE8
      (repeat (apply EX.thenN))
      refine CW.cond rfl (fun h1 => ?_) (fun h1 => ?_)
      · have heq : s2[s2.length - 1] = l2[l2.length - 1] := by
          have : ((s2[s2.length - 1] : Nat) : Int) = ((l2[l2.length - 1] : Nat) : Int) := by simpa using h1
          omega
        have hroll : rollGo s2.length s2 l2 = rollGo (s2.length - 1) (s2.take (s2.length - 1)) (l2.getD (l2.length - 1) 0 :: l2.take (l2.length - 1)) := by
          obtain ⟨m, hm⟩ : ∃ m, s2.length = m + 1 := ⟨s2.length - 1, by omega⟩
          rw [hm, rollGo, if_pos ⟨by omega, by rw [getN_at (by omega), getN_at hll1]; exact heq⟩, hm]
          rfl
        have elast : l2.getD (l2.length - 1) 0 = l2[l2.length - 1] := getN_at hll1
        rw [elast] at hroll
        (repeat (first | (apply WL.sub'; rfl; rfl; rfl; rfl; omega; omega) | (apply WL.pure; rfl; rfl; rfl) | (apply EX.thenN) | (apply CW.seq) | (apply CW.region) | (apply WL.lenS; rfl; rfl; rfl) | (apply CW.block) | (apply CW.skip)))
        refine WL.cutHiO (α := Nat) (s2.length - 1) (by omega) rfl rfl rfl rfl hoa8 (by omega) (fun cV hoc hcb => ?_)
        (repeat (apply WL.pure; rfl; rfl; rfl))
        apply WL.nil
        apply EX.thenN
        have hd : Ext w2 (drew w8) := hE28.trans (Ext.drew w8)
        have hobd := hob8.extN (Ext.drew w8)
        have hocd := hoc.extN (Ext.drew w8)
        obtain ⟨bo', bc', hbe, hbsd⟩ := hobd.oldN.sl
        obtain ⟨rfl, _, rfl⟩ := Value.slice.inj hbe
        have hSE : ∀ w9, (fun x => Ext (drew w8) x) w9 → Ext (drew w8) w9 := fun _ h => h
        refine CW.drawH (fun x => Ext (drew w8) x) [(0, true), (1, true), (2, true), (3, true), (4, true), (5, true), (7, true), (8, true), (9, true), (10, true), (11, true), (6, false), (12, false), (13, true)] mixed (by kernel_rfl) (Ext.refl _) ?_
        (repeat (first | (apply HL.sub'; rfl; rfl; rfl; rfl; rfl; omega; omega) | (apply HL.pure; rfl; rfl; rfl; rfl) | (refine HL.lenS rfl rfl rfl rfl ?_)))
        refine HL.elemZ hSE rfl rfl rfl rfl rfl rfl rfl (fun _ h => h) hbsd (by omega) (by omega) (fun _ => rfl) (fun u q3 hu3 => ?_)
        simp only [eL] at hu3
        obtain ⟨rfl, hb3⟩ := hu3.u64
        (repeat (first | (apply HL.sub'; rfl; rfl; rfl; rfl; rfl; omega; omega) | (apply HL.pure; rfl; rfl; rfl; rfl) | (refine HL.lenS rfl rfl rfl rfl ?_)))
        refine HL.cutHi (α := Nat) (l2.length - 1) (by omega) rfl rfl rfl rfl rfl (by have := hbsd.le; omega) ?_
        refine HL.mut rfl (WL.lit (α := Nat) (F := Non) (ys := [l2[l2.length - 1]]) rfl rfl rfl rfl rfl (.cons ⟨_, rfl, rd_mkU64 _ _ _ hb3⟩ .nil) (by show 1 * 1 ≤ 16777216; decide) (fun _ h => h.elim) (fun w9 ho9 hg9 => ?_))
        have hE9 : Ext (drew w8) w9 := (Ext.refl _).grown hg9 (Nat.le_refl _) (fun k h => by cases h)
        refine WL.nil (EX.mut hE9 ?_)
        have htk := (hbsd.up hE9).take (k := l2.length - 1) (by omega)
        have htl : (l2.take (l2.length - 1)).length = l2.length - 1 := by rw [List.length_take]; omega
        refine HL.mut rfl (WL.app (F := Non) (xs := [l2[l2.length - 1]]) (ys := l2.take (l2.length - 1)) (cap := bc) rfl rfl rfl (by rw [htl]; rfl) ho9 htk.srcN hE9.size (fun _ h => h.elim) (by rw [htl]; unfold maxLen; simp; omega) (by rw [htl]; simp; omega) (fun v' w10 ho10 hg10 hnb10 => ?_))
        have hE10 : Ext (drew w8) w10 := hE9.grown hg10 hE9.size (fun k hk => by cases hk; exact Nat.le_refl _)
        refine WL.nil (EX.mut hE10 ?_)
        have hoc10 := hocd.extN hE10
        (repeat (first | (apply HL.pure; rfl; rfl; rfl; rfl) | (apply HL.nil)))
        (repeat (apply EX.inN))
        refine EX.back (s2.take (s2.length - 1), l2[l2.length - 1] :: l2.take (l2.length - 1), cV, v') (by repeat (first | exact trivial | refine ⟨rfl, ?_⟩)) ⟨by simp only [List.length_take]; omega, by simp, by simp only [List.length_cons, htl]; omega, ?_, hoc10, ho10.low hd.size, hd.trans hE10⟩ (by simp only [List.length_take]; omega)
        dsimp only
        rw [List.length_take, Nat.min_eq_left (by omega), ← hroll]
        exact hres
      · have hne : ¬ s2[s2.length - 1] = l2[l2.length - 1] := by
          have : ¬ ((s2[s2.length - 1] : Nat) : Int) = ((l2[l2.length - 1] : Nat) : Int) := by simpa using h1
          omega
        have hfin : (s2, l2) = leastL s l := by
          rw [← hres]
          obtain ⟨m, hm⟩ : ∃ m, s2.length = m + 1 := ⟨s2.length - 1, by omega⟩
          rw [hm, rollGo, if_neg (fun h => hne (by have := h.2; rwa [getN_at (by omega), getN_at hll1] at this))]
        rw [← hfin]
        (repeat (first | (apply WL.pure; rfl; rfl; rfl) | (apply EX.thenN) | (apply CW.seq) | (apply CW.region) | (apply CW.exit) | (apply EX.thenX) | (apply EX.inX)))
        have hr8 := hr.ext hE28
        have hE08 : Ext w0 w8 := hE12.trans hE28
        refine WL.call rfl rfl rfl (uclone_ok w8 (hasl.up hE8) (fun _ h => h) (by omega)) ?_
        rintro eV w9 ⟨hoe, hE9⟩
        have hob9 := hob8.extN hE9
        have hr9 := hr8.ext hE9
        have hE09 := hE08.trans hE9
        obtain ⟨eo, ec, rfl⟩ := hoe.val
        (repeat (apply WL.pure; rfl; rfl; rfl))
        refine WL.build rfl rfl rfl rfl ?_
        refine WL.st rfl rfl rfl hr9 rfl rfl (ones_of rfl) (fun w10 hr10 hg10 => ?_)
        have hE10 : Ext w0 w10 := hE09.grown hg10 hE09.size (fun g hg => by cases hg; omega)
        have hw29 : w2.heap.size ≤ w8.heap.size := hE28.size
        have hoe10 := hoe.keptN hg10 (fun g hg e => by cases e; have := (hoe.lt _ hg).1; omega)
        have hob10 := hob9.keptN hg10 (fun g hg e => by cases e; have := (hob9.lt _ hg).1; omega)
        obtain ⟨q1, q2, he1, hsl1⟩ := (hoe10.rd.mono (F' := fun b => w0.heap.size ≤ b ∧ b < w10.heap.size) (fun _ _ => rfl) (fun b hb => hb.elim (fun h => h.elim) fun hb => ⟨Nat.le_trans hE08.size (hoe10.lt b hb).1, (hoe10.lt b hb).2.1⟩)).sl
        obtain ⟨rfl, _, rfl⟩ := Value.slice.inj he1
        obtain ⟨q3, q4, he2, hsl2⟩ := (hob10.rd.mono (F' := fun b => w0.heap.size ≤ b ∧ b < w10.heap.size) (fun _ _ => rfl) (fun b hb => hb.elim (fun h => h.elim) fun hb => ⟨Nat.le_trans hE12.size (hob10.lt b hb).1, (hob10.lt b hb).2.1⟩)).sl
        obtain ⟨rfl, _, rfl⟩ := Value.slice.inj he2
        (repeat (first | (apply WL.nil) | (apply EX.thenN) | (apply CW.ret)))
        exact EX.retC rfl rfl hr10 rfl ⟨Rd.mkPr (rd_mkSl hsl1) (rd_mkSl hsl2), hE10⟩
    · have hs0 : s2 = [] := by simpa using h
      have hfin : (s2, l2) = leastL s l := by
        rw [← hres, hs0]; rfl
      rw [← hfin]
      (repeat (first | (apply QL.pure; rfl; rfl; rfl) | (apply QL.pass; rfl; rfl)))
      refine QL.nil (fun w8 hE8 => ?_)
      have hoa8 := hoa.extN hE8
      have hob8 := hob.extN hE8
      have hE28 := hE7.trans hE8
      (repeat (first | (apply WL.pure; rfl; rfl; rfl) | (apply EX.thenN) | (apply CW.seq) | (apply CW.region) | (apply CW.condF; rfl) | (apply CW.exit) | (apply EX.thenX) | (apply EX.inX)))
      have hr8 := hr.ext hE28
      have hE08 : Ext w0 w8 := hE12.trans hE28
      refine WL.call rfl rfl rfl (uclone_ok w8 (hasl.up hE8) (fun _ h => h) (by omega)) ?_
      rintro eV w9 ⟨hoe, hE9⟩
      have hob9 := hob8.extN hE9
      have hr9 := hr8.ext hE9
      have hE09 := hE08.trans hE9
      obtain ⟨eo, ec, rfl⟩ := hoe.val
      (repeat (apply WL.pure; rfl; rfl; rfl))
      refine WL.build rfl rfl rfl rfl ?_
      refine WL.st rfl rfl rfl hr9 rfl rfl (ones_of rfl) (fun w10 hr10 hg10 => ?_)
      have hE10 : Ext w0 w10 := hE09.grown hg10 hE09.size (fun g hg => by cases hg; omega)
      have hw29 : w2.heap.size ≤ w8.heap.size := hE28.size
      have hoe10 := hoe.keptN hg10 (fun g hg e => by cases e; have := (hoe.lt _ hg).1; omega)
      have hob10 := hob9.keptN hg10 (fun g hg e => by cases e; have := (hob9.lt _ hg).1; omega)
      obtain ⟨q1, q2, he1, hsl1⟩ := (hoe10.rd.mono (F' := fun b => w0.heap.size ≤ b ∧ b < w10.heap.size) (fun _ _ => rfl) (fun b hb => hb.elim (fun h => h.elim) fun hb => ⟨Nat.le_trans hE08.size (hoe10.lt b hb).1, (hoe10.lt b hb).2.1⟩)).sl
      obtain ⟨rfl, _, rfl⟩ := Value.slice.inj he1
      obtain ⟨q3, q4, he2, hsl2⟩ := (hob10.rd.mono (F' := fun b => w0.heap.size ≤ b ∧ b < w10.heap.size) (fun _ _ => rfl) (fun b hb => hb.elim (fun h => h.elim) fun hb => ⟨Nat.le_trans hE12.size (hob10.lt b hb).1, (hob10.lt b hb).2.1⟩)).sl
      obtain ⟨rfl, _, rfl⟩ := Value.slice.inj he2
      (repeat (first | (apply WL.nil) | (apply EX.thenN) | (apply CW.ret)))
      exact EX.retC rfl rfl hr10 rfl ⟨Rd.mkPr (rd_mkSl hsl1) (rd_mkSl hsl2), hE10⟩
  · have e1 : ((l.length : Int) % (n : Int) == 0) = false := by
      rw [beq_eq_false_iff_ne]; omega
    rw [e1]
    (repeat (first | (apply WL.add; rfl; rfl; rfl; rfl; omega; omega) | (apply WL.pure; rfl; rfl; rfl) | (apply WL.nil) | (apply EX.thenN) | (apply CW.region) | (apply WL.pass; rfl; rfl) | (apply EX.inN) | (apply CW.condF; rfl) | (apply CW.skip)))
    refine EX.back (n + 1) (by repeat (first | exact trivial | refine ⟨rfl, ?_⟩)) ⟨by omega, by omega, fun d h1 h2 => ?_, hE5⟩ (by omega)
    by_cases e : d = n
    · subst e; exact fun h => hdiv h.1
    · exact hno d h1 (by omega)

def sameE (s l t m : List Nat) : Bool × Int := if chkW s l ≠ 0 then (false, chkW s l) else if chkW t m ≠ 0 then (false, chkW t m) else ((leastL s l).1 == (leastL t m).1 && (leastL s l).2 == (leastL t m).2, 0)
end Go.Proofs.Ytllpfgcngokhnaa
/-
  lasso.Least walked.
-/
set_option linter.unusedVariables false
set_option linter.unusedSimpArgs false
namespace Go.Proofs.Ytllpfgcngokhnaa
open Go.RowKit

instance iLeast2a : IsF Try.prog 56 := ⟨_, Try.func56, rfl, by decide⟩
def leastE (s l : List Nat) : LWord := if chkW s l ≠ 0 then ([], []) else leastL s l
theorem Least_okF (w0 : World) {so lo : Option Addr} {sc lc : Nat} {s l : List Nat} (hs : Sl w0 (Old w0) so sc s) (hl : Sl w0 (Old w0) lo lc l) :
    Rt Try.prog 56 [wordV so sc lo lc s l].toArray w0 fun v w' => ∃ x, v = .tuple ⟨[x, .int .i64 (chkW s l)]⟩ ∧ Rd w' (fun b => w0.heap.size ≤ b ∧ b < w'.heap.size) x (leastE s l) ∧ Ext w0 w' := by
  refine Rt.enter1 Try.func56 Try.ntmps56 rfl rfl ?_
  (repeat (first | (apply CW.seq) | (apply CW.region)))
  refine WL.boxB rfl rfl rfl fun w1 hb1 hE1 => ?_
  skip
  refine WL.alloc rfl rfl (fun w2 hr hE2 => ?_)
  have hb2 := hb1.ext hE2
  have hE2 := hE1.trans hE2
  have hsz := hE1.size
  (repeat (first | (apply WL.pure; rfl; rfl; rfl) | (apply WL.nil) | (apply EX.thenN) | (apply CW.seq) | (apply CW.region) | (apply WL.ldA; rfl; rfl; rfl; assumption; rfl)))
  refine WL.call rfl rfl rfl (lassoCheck w2 hs.len63 hl.len63) ?_
  rintro _ w3 ⟨rfl, e3⟩
  have hb3 := hb2.ext e3
  have hr3 := hr.ext e3
  have hE3 := hE2.trans e3
  unfold leastE
  (repeat (first | (apply WL.pure; rfl; rfl; rfl) | (apply WL.nil) | (apply EX.thenN) | (apply CW.seq) | (apply CW.region)))
  refine CW.cond rfl (fun h => ?_) (fun h => ?_)
  · have h : chkW s l ≠ 0 := by simpa using h
    rw [if_pos h]
    (repeat (first | (apply CW.seq) | (apply CW.region)))
    refine WL.build (parts := []) rfl rfl rfl rfl ?_
    (repeat (apply WL.pure; rfl; rfl; rfl))
    refine WL.st rfl rfl rfl hr3 rfl rfl (ones_of rfl) (fun w4 hr4 hg4 => ?_)
    have hE4 : Ext w0 w4 := hE3.grown hg4 hE3.size (fun g hg => by cases hg; omega)
    (repeat (first | (apply WL.pure; rfl; rfl; rfl) | (apply WL.nil) | (apply EX.thenN) | (apply CW.ret) | (apply EX.thenR)))
    exact EX.retC2 rfl rfl rfl hr4 rfl ⟨_, rfl, Rd.mkPr (rd_mkSl (Sl.zero _ _)) (rd_mkSl (Sl.zero _ _)), hE4⟩
  have h : chkW s l = 0 := by simpa using h
  rw [if_neg (by simp [h])]
  have k := chkW_ok h
  (repeat (first | (apply EX.thenN) | (apply CW.seq) | (apply CW.region) | (apply WL.ldA; rfl; rfl; rfl; assumption; rfl) | (apply CW.skip)))
  refine WL.call rfl rfl rfl (least_ok w3 (hs.at hE3) (hl.at hE3) (fun b hb => Nat.lt_of_lt_of_le hb hE3.size) k.2 (by omega)) ?_
  rintro v w4 ⟨h4, e4⟩
  have hr4 := hr3.ext e4
  have hE4 := hE3.trans e4
  have hlt := hr3.lt
  obtain ⟨xo, xc, yo, yc, rfl, hx, hy⟩ := h4.word
  skip
  refine WL.st rfl rfl rfl hr4 rfl rfl (ones_of rfl) (fun w5 hr5 hg5 => ?_)
  have hE5 : Ext w0 w5 := hE4.grown hg5 hE4.size (fun g hg => by cases hg; omega)
  have hF : ∀ b, (w3.heap.size ≤ b ∧ b < w4.heap.size) → w5.heap[b]? = w4.heap[b]? := fun b hb => hg5.block b hb.2 (fun e => by cases e; omega)
  have hO : ∀ b, (w3.heap.size ≤ b ∧ b < w4.heap.size) → (w0.heap.size ≤ b ∧ b < w5.heap.size) := fun b hb => ⟨Nat.le_trans hE3.size hb.1, Nat.lt_of_lt_of_le hb.2 hg5.size⟩
  rw [h]
  (repeat (first | (apply WL.pure; rfl; rfl; rfl) | (apply WL.nil) | (apply EX.thenN) | (apply CW.ret)))
  exact EX.retC2 rfl rfl rfl hr5 rfl ⟨_, rfl, Rd.mkPr (rd_mkSl (hx.mono hF hO)) (rd_mkSl (hy.mono hF hO)), hE5⟩
theorem Least_ok (w0 : World) {so lo : Option Addr} {sc lc : Nat} {s l : List Nat} (hs : Sl w0 (Old w0) so sc s) (hl : Sl w0 (Old w0) lo lc l) :
    Rt Try.prog 56 [wordV so sc lo lc s l].toArray w0 fun v w' => ∃ x, v = .tuple ⟨[x, .int .i64 (chkW s l)]⟩ ∧ Rd w' (Old w') x (leastE s l) ∧ Ext w0 w' :=
  (Least_okF w0 hs hl).mono fun v w' ⟨x, h1, h2, h3⟩ => ⟨x, h1, h2.mono (fun _ _ => rfl) (fun b hb => hb.2), h3⟩
end Go.Proofs.Ytllpfgcngokhnaa
/-
  Package auto: round, accepts, Accepts.
-/
set_option linter.unusedVariables false
set_option linter.unusedSimpArgs false
namespace Go.Proofs.Ytllpfgcngokhnaa
open Go.RowKit

theorem getB_at {l : List Bool} {j : Nat} (h : j < l.length) : l.getD j false = l[j] := by rw [List.getD_eq_getElem?_getD, List.getElem?_eq_getElem h]; rfl
/-- parts that are gone round in, so far -/
def rndP (g : Graph) (part : List Int) (n j c : Nat) : Prop := (∃ u, u < n ∧ part.getD u 0 = c ∧ ∃ to ∈ g.getD u [], part.getD to.toNat 0 = c) ∨ (part.getD n 0 = c ∧ ∃ to ∈ (g.getD n []).take j, part.getD to.toNat 0 = c)
theorem rndP_next {g : Graph} {part : List Int} {n c : Nat} : rndP g part n (g.getD n []).length c ↔ rndP g part (n + 1) 0 c := by
  unfold rndP
  rw [List.take_length, List.take_zero]
  constructor
  · rintro (⟨u, h1, h2⟩ | ⟨h1, h2⟩)
    · exact .inl ⟨u, by omega, h2⟩
    · exact .inl ⟨n, by omega, h1, h2⟩
  · rintro (⟨u, h1, h2, h3⟩ | ⟨_, h2⟩)
    · by_cases e : u = n
      · subst e; exact .inr ⟨h2, h3⟩
      · exact .inl ⟨u, by omega, h2, h3⟩
    · obtain ⟨to, h, _⟩ := h2; simp at h
theorem round_ok (w0 : World) {ao po : Option Addr} {cap pc : Nat} {g : Graph} {part : List Int} (hs : Sl w0 (Old w0) ao cap g) (hp : Sl w0 (Old w0) po pc part) (hg : okG g) (hpt : PartsOK g part) (hl : g.length ≤ 1099511627776) :
    Rt Try.prog 110 [.slice ao g.length cap, .slice po part.length pc].toArray w0 fun v w' => ∃ out : List Bool, Own w' w0.heap.size 4 Non v out ∧ out.length = g.length ∧
      (∀ c, c < g.length → (out.getD c false = true ↔ ∃ u, u < g.length ∧ part.getD u 0 = c ∧ ∃ to ∈ g.getD u [], part.getD to.toNat 0 = c)) ∧ Ext w0 w' := by
  have hm := hs.len63
  have hpl := hpt.len
  refine Rt.enter2 Try.func110 Try.ntmps110 rfl rfl ?_
  (repeat (first | (apply WL.pure; rfl; rfl; rfl) | (apply WL.nil) | (apply EX.thenN) | (apply CW.seq) | (apply CW.region) | (apply WL.lenS; rfl; rfl; rfl)))
  refine WL.make (α := Bool) rfl rfl rfl rfl (by omega) (by unfold maxLen; omega) (fun w1 ho1 hg1 => ?_)
  have hE1 : Ext w0 w1 := (Below.refl _ _).grown hg1 (Nat.le_refl _) (fun k h => by cases h)
  generalize hsv : Value.slice (some ⟨w0.heap.size, 0, none⟩) g.length g.length = sv at *
  (repeat (first | (apply WL.pure; rfl; rfl; rfl) | (apply WL.nil) | (apply EX.thenN) | (apply CW.seq) | (apply CW.region) | (apply WL.lenS; rfl; rfl; rfl) | (apply CW.block)))
  refine CW.loop (S := Nat × List Bool) (fun s => [(1, .slice po part.length pc), (5, sv), (13, .slice ao g.length cap), (14, .int .i64 g.length), (15, .int .i64 s.1)])
    (fun s w => s.1 ≤ g.length ∧ Own w w0.heap.size 4 Non sv s.2 ∧ s.2.length = g.length ∧ (∀ c, c < g.length → (s.2.getD c false = true ↔ rndP g part s.1 0 c)) ∧ Ext w0 w) (fun s => g.length - s.1) (0, List.replicate g.length false) (by repeat (first | exact trivial | refine ⟨rfl, ?_⟩))
    ⟨Nat.zero_le _, ho1, by simp, fun c hc => ?_, hE1⟩ ?_
  · dsimp only
    rw [getD_rep]
    unfold rndP
    simp
  rintro ⟨n, out⟩ w ⟨hn, ho, hol, hr, hE⟩
  dsimp only at hn ho hol hr ⊢
  (repeat (first | (apply WL.pure; rfl; rfl; rfl) | (apply WL.nil) | (apply EX.thenN) | (apply CW.seq) | (apply CW.region)))
  refine CW.cond rfl (fun h => ?_) (fun h => ?_)
  · have hn' : n < g.length := by simp at h; omega
    (repeat (first | (apply WL.pure; rfl; rfl; rfl) | (apply EX.thenN) | (apply CW.seq) | (apply CW.region) | (apply CW.block) | (apply CW.skip)))
    refine WL.elemN rfl rfl rfl rfl rfl (hs.at hE) hn' (fun _ => rfl) (fun u q hu => ?_)
    obtain ⟨ro, rc, rfl, hrow⟩ := hu.sl
    have hrl := hrow.len63
    have erow : g.getD n [] = g[n] := getDG_at hn'
    have hnp : n < part.length := by omega
    have hpn0 := hpt.ge n hnp
    have hpn1 := hpt.lt n hnp
    obtain ⟨c0, hc0⟩ := Int.eq_ofNat_of_zero_le hpn0
    have hc0l : c0 < g.length := by omega
    have hpc : part[n] = (c0 : Int) := by rw [← getDI_at hnp]; exact hc0
    (repeat (first | (apply WL.pure; rfl; rfl; rfl) | (apply WL.nil) | (apply EX.thenN) | (apply CW.seq) | (apply CW.region) | (apply WL.lenS; rfl; rfl; rfl) | (apply CW.block)))
    refine CW.loop (S := Nat × List Bool) (fun s => [(1, .slice po part.length pc), (5, sv), (6, .int .i64 n), (13, .slice ao g.length cap), (14, .int .i64 g.length), (15, .int .i64 n), (20, .slice ro g[n].length rc), (21, .int .i64 g[n].length), (22, .int .i64 s.1)])
      (fun s w => s.1 ≤ g[n].length ∧ Own w w0.heap.size 4 Non sv s.2 ∧ s.2.length = g.length ∧ (∀ c, c < g.length → (s.2.getD c false = true ↔ rndP g part n s.1 c)) ∧ Ext w0 w) (fun s => g[n].length - s.1) (0, out) (by repeat (first | exact trivial | refine ⟨rfl, ?_⟩))
      ⟨Nat.zero_le _, ho, hol, hr, hE⟩ ?_
    rintro ⟨j, out⟩ w2 ⟨hj, ho, hol, hr, hE2⟩
    dsimp only at hj ho hol hr ⊢
    have hrow2 : Sl w2 (Old w0) ro rc g[n] := hrow.mono (fun b hb => (hE2.block b hb).trans (hE.block b hb).symm) (fun _ h => h)
    (repeat (first | (apply WL.pure; rfl; rfl; rfl) | (apply WL.nil) | (apply EX.thenN) | (apply CW.seq) | (apply CW.region)))
    refine CW.cond rfl (fun h => ?_) (fun h => ?_)
    · have hj' : j < g[n].length := by simp at h; omega
      have hto := hg _ (List.getElem_mem hn') _ (List.getElem_mem hj')
      obtain ⟨to, eto⟩ := Int.eq_ofNat_of_zero_le hto.1
      have htp : to < part.length := by omega
      have hgj : (g.getD n []).take (j + 1) = (g.getD n []).take j ++ [(to : Int)] := by
        rw [erow, ← List.take_append_getElem hj', eto]
      have hstep : ∀ c, rndP g part n (j + 1) c ↔ rndP g part n j c ∨ (part.getD n 0 = c ∧ part.getD to 0 = c) := by
        intro c
        unfold rndP
        rw [hgj]
        constructor
        · rintro (h | ⟨h1, x, h2, h3⟩)
          · exact .inl (.inl h)
          · rcases List.mem_append.1 h2 with h2 | h2
            · exact .inl (.inr ⟨h1, x, h2, h3⟩)
            · rw [List.mem_singleton] at h2; subst h2; exact .inr ⟨h1, by simpa using h3⟩
        · rintro ((h | ⟨h1, x, h2, h3⟩) | ⟨h1, h2⟩)
          · exact .inl h
          · exact .inr ⟨h1, x, List.mem_append.2 (.inl h2), h3⟩
          · exact .inr ⟨h1, to, List.mem_append.2 (.inr (by simp)), by simpa using h2⟩
      (repeat (first | (apply EX.thenN) | (apply CW.seq) | (apply CW.region) | (apply CW.block) | (apply CW.skip)))
      refine WL.elemI rfl rfl rfl rfl rfl hrow2 hj' eto (fun _ => rfl) (fun q => ?_)
      (repeat (first | (apply WL.pure; rfl; rfl; rfl) | (apply QL.pure; rfl; rfl; rfl) | (apply WL.nil) | (apply EX.thenN) | (apply CW.seq) | (apply CW.draw; exact mixed; kernel_rfl)))
      refine QL.elemI rfl rfl rfl rfl rfl (fun _ h => h) (hp.up hE2) htp rfl (fun _ => rfl) (fun q => ?_)
      (repeat (apply QL.pure; rfl; rfl; rfl))
      refine QL.elemI rfl rfl rfl rfl rfl (fun _ h => h) (hp.up hE2) hnp hpc (fun _ => rfl) (fun q => ?_)
      (repeat (apply QL.pure; rfl; rfl; rfl))
      refine QL.nil (fun w3 e3 => ?_)
      have ho := ho.extN e3
      have hE3 := hE2.trans e3
      (repeat (apply EX.thenN))
      refine CW.cond rfl (fun h2 => ?_) (fun h2 => ?_)
      · have h2 : part[to] = (c0 : Int) := by simpa using h2
        (repeat (first | (apply WL.pure; rfl; rfl; rfl) | (apply CW.region)))
        refine WL.elemI rfl rfl rfl rfl rfl (hp.at hE3) hnp hpc (fun _ => rfl) (fun q => ?_)
        skip
        refine WL.setN (u := .bool true) (yv := true) rfl rfl rfl rfl ho (show c0 < out.length by omega) (fun _ => rfl) (fun _ => rfl) (Rd.mkBool _ _ _) (fun w4 q2 ho4 hg4 => ?_)
        have hE4 : Ext w0 w4 := hE3.grown hg4 hE3.size (fun b hb => (ho.lt b hb).1)
        (repeat (first | (apply WL.add; rfl; rfl; rfl; rfl; omega; omega) | (apply WL.pure; rfl; rfl; rfl) | (apply WL.nil) | (apply EX.thenN) | (apply CW.region) | (apply EX.inN)))
        refine EX.back (j + 1, out.set c0 true) (by repeat (first | exact trivial | refine ⟨rfl, ?_⟩)) ⟨hj', ho4, by simpa using hol, fun c hc => ?_, hE4⟩ (by dsimp only; omega)
        dsimp only
        rw [getD_set (by omega), hstep c]
        by_cases e : c0 = c
        · subst e
          rw [if_pos rfl]
          exact ⟨fun _ => .inr ⟨hc0, by rw [getDI_at htp]; exact h2⟩, fun _ => rfl⟩
        · rw [if_neg e, hr c hc]
          exact ⟨.inl, fun h => h.resolve_right (fun ⟨h1, _⟩ => e (by have := hc0.symm.trans h1; omega))⟩
      · have h2 : ¬ part[to] = (c0 : Int) := by simpa using h2
        (repeat (first | (apply WL.add; rfl; rfl; rfl; rfl; omega; omega) | (apply WL.pure; rfl; rfl; rfl) | (apply WL.nil) | (apply EX.thenN) | (apply CW.region) | (apply EX.inN) | (apply CW.skip)))
        refine EX.back (j + 1, out) (by repeat (first | exact trivial | refine ⟨rfl, ?_⟩)) ⟨hj', ho, hol, fun c hc => ?_, hE3⟩ (by dsimp only; omega)
        dsimp only
        rw [hstep c, hr c hc]
        exact ⟨.inl, fun h => h.resolve_right (fun ⟨h1, h3⟩ => h2 (by rw [← getDI_at htp, h3, ← h1]; exact hc0))⟩
    · obtain rfl : j = g[n].length := by simp at h; omega
      (repeat (first | (apply WL.add; rfl; rfl; rfl; rfl; omega; omega) | (apply WL.pure; rfl; rfl; rfl) | (apply WL.nil) | (apply EX.thenN) | (apply CW.region) | (apply EX.inN) | (apply CW.exit) | (apply EX.thenX) | (apply EX.inX)))
      refine EX.back (n + 1, out) (by repeat (first | exact trivial | refine ⟨rfl, ?_⟩)) ⟨hn', ho, hol, fun c hc => ?_, hE2⟩ (by dsimp only; omega)
      dsimp only
      rw [hr c hc, ← erow, rndP_next]
  · obtain rfl : n = g.length := by simp at h; omega
    (repeat (first | (apply WL.pure; rfl; rfl; rfl) | (apply WL.nil) | (apply EX.thenN) | (apply CW.seq) | (apply CW.region) | (apply CW.exit) | (apply EX.thenX) | (apply EX.inX) | (apply CW.ret)))
    refine EX.ret1 rfl rfl ⟨out, ho, hol, fun c hc => ?_, hE⟩
    rw [hr c hc]
    unfold rndP
    simp
end Go.Proofs.Ytllpfgcngokhnaa
/-
  An element that is read in a drawn region when nothing else may come.
-/
set_option linter.unusedVariables false
set_option linter.unusedSimpArgs false
namespace Go.Proofs.Ytllpfgcngokhnaa
open Go.RowKit
section
variable {P : Program} {Q : Exit → Act → World → Prop} {n : Nat} {σ : Sg} {wc : World} {L : List Oper} {S : World → Prop} {rest : List (Nat × Bool)} {i j d d' : Nat} {ty : TypeId} {pos : String} {af : Array Edge} {g : Option (Nat × Bool)} {ty' : TypeId} {pos' : String} {af' : Array Edge} {g' : Option (Nat × Bool)} {t e : TypeId} {x ix : Operand}
variable {α : Type} [Rep α] {F : Nat → Prop}
theorem HL.elemM {ao : Option Addr} {cap : Nat} {xs : List α} {k : Nat} {kd : IntKind} (hS : S wc)
    (ho1 : nthO L i = some ⟨some d, .indexAddr t x ix, ty, pos, af, g⟩) (ho2 : nthO L j = some ⟨some d', .load e (.tmp d), ty', pos', af', g'⟩)
    (hg : gd L σ ⟨some d, .indexAddr t x ix, ty, pos, af, g⟩ = some true) (hd : Nat.ble (d + 1) n = true) (hd' : Nat.ble (d' + 1) n = true)
    (hx : ev σ x = some (.slice ao xs.length cap)) (hi : ev σ ix = some (.int kd (k : Int))) [hs : IsS P t e] [ht : IsT P e α] (hsl : Sl wc F ao cap xs) (h1 : k < xs.length)
    (hg' : ∀ p, gd L ((d, .pointer p) :: σ) ⟨some d', .load e (.tmp d), ty', pos', af', g'⟩ = some true)
    (h : ∀ u p, Rd wc F u xs[k] → HL P L S Q rest n ((d', u) :: (d, .pointer p) :: σ) wc) :
    HL P L S Q ((i, false) :: (j, false) :: rest) n σ wc := by
  obtain ⟨b, off, rfl, hFb, es, hc, hr⟩ := hsl.el k h1
  refine HL.mut ho1 (WL.idx (α := α) hg hd hx hi (by omega) (by omega) (WL.nil (EX.mut hS ?_)))
  refine HL.mut ho2 (WL.load (α := α) (hg' _) hd' fnd_cons_eq (by simpa using hc) hr (WL.nil (EX.mut hS ?_)))
  exact h _ _ ⟨es, rfl, hr⟩
end
end Go.Proofs.Ytllpfgcngokhnaa
/-
  Package auto: accepts, Accepts.
-/
set_option linter.unusedVariables false
set_option linter.unusedSimpArgs false
namespace Go.Proofs.Ytllpfgcngokhnaa
open Go.RowKit

open Classical in
noncomputable def accB (A : LAuto) (L : Nat → Nat) : Bool := decide (Acc A.1 A.2.1 A.2.2.1 A.2.2.2.1 A.2.2.2.2 L)
theorem accB_iff {A : LAuto} {L : Nat → Nat} : accB A L = true ↔ Acc A.1 A.2.1 A.2.2.1 A.2.2.2.1 A.2.2.2.2 L := by unfold accB; simp
theorem sum_mod {n : Nat} (L : Nat → Nat) : ∀ m, ((List.range (n * m)).map fun x => L (x % n)).sum = m * ((List.range n).map L).sum
  | 0 => by simp
  | m + 1 => by
    rw [Nat.mul_add, Nat.mul_one, List.range_add, List.map_append, List.sum_append, sum_mod L m, Nat.add_mul, Nat.one_mul, List.map_map]
    congr 2
    refine List.map_congr_left fun x hx => ?_
    have hx := List.mem_range.1 hx
    show L ((n * m + x) % n) = L x
    rw [Nat.mul_add_mod, Nat.mod_eq_of_lt hx]
theorem sum_le : ∀ (l : List Nat) (f g : Nat → Nat), (∀ x ∈ l, f x ≤ g x) → (l.map f).sum ≤ (l.map g).sum
  | [], _, _, _ => Nat.le_refl _
  | x :: r, f, g, h => by
    have h1 := h x (by simp)
    have h2 := sum_le r f g (fun y hy => h y (by simp [hy]))
    simp only [List.map_cons, List.sum_cons]
    omega
theorem edges_range (g : Graph) : edges g = ((List.range g.length).map fun k => (g.getD k []).length).sum := by
  unfold edges
  congr 1
  refine List.ext_getElem (by simp) fun i h1 h2 => ?_
  simp at h1 h2
  simp [h1]
theorem edges_prod {nx : List (List Int)} {mu no s l : List Nat} : edges (prodG nx mu no s l) ≤ (s.length + l.length) * edges nx := by
  rw [edges_range nx, ← sum_mod]
  unfold edges prodG
  rw [List.map_map]
  refine sum_le _ _ _ fun x _ => ?_
  show (prodRow nx mu no s l (x / nx.length) (x % nx.length)).length ≤ _
  unfold prodRow
  split
  · rw [List.length_map]; exact List.length_filter_le _ _
  · exact Nat.zero_le _
/-- what accepts looks at so far -/
theorem filt_next {st : List Int} {p : Int → Bool} {i : Nat} (h : i < st.length) : (st.take (i + 1)).filter p = (st.take i).filter p ++ if p st[i] = true then [st[i]] else [] := by
  rw [← List.take_append_getElem h, List.filter_append]
  congr 1
  by_cases e : p st[i] = true
  · rw [if_pos e]; simp [e]
  · rw [if_neg e]; simp [e]
theorem rch_lt {g : Graph} {f : List Int} {x : Nat} (hg : okG g) (hf : okL g.length f) (h : Rch g f x) : x < g.length := by
  cases h with
  | base hx => have := hf _ hx; omega
  | step _ hx => have := okG_row hg _ _ hx; omega
theorem accepts_ok (w0 : World) {v0 : Value} {A : LAuto} {s l : List Nat} {so lo : Option Addr} {sc lc : Nat} (ha : AutoAt w0 (Old w0) v0 A) (hok : OkA A) (hs : Sl w0 (Old w0) so sc s) (hl : Sl w0 (Old w0) lo lc l)
    (h0 : 0 < l.length) (h60 : s.length + l.length ≤ 60) (hT : edges A.2.1 + A.1.length ≤ 8589934592) (hn0 : 0 < A.2.1.length) :
    Rt Try.prog 57 [v0, wordV so sc lo lc s l, .int .i64 (A.2.1.length : Nat)].toArray w0 fun v w' => v = .bool (accB A (lat s l)) ∧ Ext w0 w' := by
  obtain ⟨a1, c1, a2, c2, a3, c3, a4, c4, a5, c5, hv0, h1, h2, h3, h4, h5⟩ := ha.ok
  obtain ⟨st, nx, mu, no, fr⟩ := A
  dsimp only at *
  have hmu := hok.mu; have hno := hok.no; have hst := hok.st; have hnx := hok.nx; have hfr := hok.fr; have hn48 := hok.n
  dsimp only at hmu hno hst hnx hfr hn48
  have hm1 := h1.len63
  refine Rt.enter3 Try.func57 Try.ntmps57 rfl rfl ?_
  have hE := Ext.refl w0
  (repeat (first | (apply CW.seq) | (apply CW.region)))
  refine WL.boxB rfl rfl rfl fun w1 hb3 e1 => ?_
  have hE := hE.trans e1
  skip
  refine WL.boxB rfl rfl rfl fun w2 hb4 e2 => ?_
  have hb3 := hb3.ext e2
  have hE := hE.trans e2
  subst hv0
  (repeat (first | (apply WL.pure; rfl; rfl; rfl) | (apply WL.nil) | (apply EX.thenN) | (apply CW.seq) | (apply CW.region) | (apply WL.ldA; rfl; rfl; rfl; assumption; rfl)))
  have hrow : ∀ r ∈ nx, r.length ≤ 8589934592 := fun r hr => by
    obtain ⟨i, hi, rfl⟩ := List.mem_iff_getElem.1 hr
    have := row_edges hi; omega
  refine WL.call rfl rfl rfl (product_ok w2 (A := (st, nx, mu, no, fr)) ⟨a1, c1, a2, c2, a3, c3, a4, c4, a5, c5, rfl, h1.up hE, h2.up hE, h3.up hE, h4.up hE, h5.up hE⟩ hok (hs.up hE) (hl.up hE) h0 h60 hrow) ?_
  rintro gV w3 ⟨vs, hN, e3⟩
  have hb3 := hb3.ext e3
  have hb4 := hb4.ext e3
  have hE := hE.trans e3
  obtain ⟨go, gc, rfl, hg⟩ := hN.old.sl
  have hgok : okG (prodG nx mu no s l) := prodG_ok hnx h0
  have hgl : (prodG nx mu no s l).length = nx.length * (s.length + l.length) := by simp [prodG]
  have hge := edges_prod (nx := nx) (mu := mu) (no := no) (s := s) (l := l)
  have hge2 : (s.length + l.length) * edges nx ≤ 60 * edges nx := Nat.mul_le_mul_right _ h60
  have hgl2 : nx.length * (s.length + l.length) ≤ 2048 * 60 := Nat.mul_le_mul hn48 h60
  obtain ⟨g, hgd⟩ : ∃ g, g = prodG nx mu no s l := ⟨_, rfl⟩
  rw [← hgd] at hg hgok hgl hge ⊢
  clear hN
  (repeat (first | (apply WL.pure; rfl; rfl; rfl) | (apply WL.nil) | (apply EX.thenN) | (apply CW.seq) | (apply CW.region)))
  have hT0 : Ext w0 (drew w3) := hE.trans (Ext.drew w3)
  have hSE : ∀ x, (fun x => Ext w3 x) x → Ext w3 x := fun _ h => h
  refine CW.drawH (fun x => Ext w3 x) [(0, true), (1, true), (3, true), (4, true), (2, false), (5, false), (6, false), (7, false), (8, true)] mixed (by kernel_rfl) (Ext.drew w3) ?_
  (repeat (first | (refine HL.fa rfl rfl rfl rfl ?_) | (refine HL.ld (by assumption) rfl rfl rfl rfl (by assumption) rfl ?_)))
  refine HL.mut rfl (WL.call rfl rfl rfl (clone_u64 (drew w3) (hs.up hT0) (fun _ h => h) (by omega)) ?_)
  rintro cV w4 ⟨hoc, e4⟩
  have hT4 : Ext w3 w4 := (Ext.drew w3).trans e4
  refine WL.nil (EX.mut hT4 ?_)
  skip
  have hE4 := hE.trans hT4
  refine HL.mut rfl (WL.app (F := Non) rfl rfl rfl rfl hoc (hl.up hE4).srcN e4.size (fun _ h => h.elim) (by unfold maxLen; omega) (by omega) (fun wV w5 how hg5 _ => ?_))
  have hT5 : Ext w3 w5 := hT4.grown hg5 hT4.size (fun g hg => Nat.le_trans (Ext.drew w3).size (hoc.lt g hg).1)
  refine WL.nil (EX.mut hT5 ?_)
  skip
  obtain ⟨wo, wc, rfl, hall⟩ := how.oldN.sl
  have hal : 0 < (s ++ l).length := by rw [List.length_append]; omega
  refine HL.elemM (k := 0) hT5 rfl rfl rfl rfl rfl rfl rfl hall hal (fun _ => rfl) (fun u q hu => ?_)
  obtain ⟨rfl, hu64⟩ := hu.u64
  rw [lat_app hal] at hu64 ⊢
  (repeat (first | (apply HL.pure; rfl; rfl; rfl; rfl) | (apply HL.nil)))
  have hb3 := hb3.ext hT5
  have hE := hE.trans hT5
  have hg := hg.up hT5
  have hfit0 : ∀ k : Nat, k < nx.length → fitB mu no k (lat s l 0) = fitB mu no (k : Int).toNat (lat s l 0) := fun k _ => by rw [Int.toNat_natCast]
  clear e1 e2 e3 e4 hT0 hT4 hT5 hE4 how hg5 hoc hb4 hSE
  (repeat (first | (apply WL.pure; rfl; rfl; rfl) | (apply WL.nil) | (apply EX.thenN) | (apply CW.seq) | (apply CW.region) | (apply WL.lenS; rfl; rfl; rfl) | (apply WL.fa; rfl; rfl; rfl) | (apply WL.ld; rfl; rfl; rfl; assumption; rfl) | (apply CW.block)))
  refine CW.loop (S := Nat × Value) (fun x => [(2, .int .i64 nx.length), (3, .pointer (some ⟨w0.heap.size, 0, none⟩)), (7, .slice go g.length gc), (8, x.2), (9, .int .u64 (lat s l 0 : Nat)), (35, .slice a1 st.length c1), (36, .int .i64 st.length), (37, .int .i64 x.1)])
    (fun x w => x.1 ≤ st.length ∧ Own w w5.heap.size 3 Non x.2 ((st.take x.1).filter fun k => fitB mu no k.toNat (lat s l 0)) ∧ Ext w5 w) (fun x => st.length - x.1) (0, .slice none 0 0) (by repeat (first | exact trivial | refine ⟨rfl, ?_⟩)) ⟨Nat.zero_le _, Own.nil, Ext.refl _⟩ ?_
  rintro ⟨i, fV⟩ w6 ⟨hi, hof, e6⟩
  dsimp only at hi hof ⊢
  have hE6 := hE.trans e6
  have hb6 := hb3.ext e6
  (repeat (first | (apply WL.pure; rfl; rfl; rfl) | (apply WL.nil) | (apply EX.thenN) | (apply CW.seq) | (apply CW.region)))
  refine CW.cond rfl (fun h => ?_) (fun h => ?_)
  · have hi' : i < st.length := by simp at h; omega
    have hk := hst _ (List.getElem_mem hi')
    obtain ⟨k, ek⟩ := Int.eq_ofNat_of_zero_le hk.1
    have hkn : k < nx.length := by omega
    have hnext := filt_next (p := fun k => fitB mu no k.toNat (lat s l 0)) hi'
    rw [ek, Int.toNat_natCast] at hnext
    (repeat (first | (apply EX.thenN) | (apply CW.seq) | (apply CW.region) | (apply CW.block) | (apply CW.skip)))
    refine WL.elemI rfl rfl rfl rfl rfl (h1.at hE6) hi' ek (fun _ => rfl) (fun q => ?_)
    (repeat (first | (apply WL.pure; rfl; rfl; rfl) | (apply WL.nil) | (apply EX.thenN) | (apply CW.seq) | (apply CW.region) | (apply WL.ldA; rfl; rfl; rfl; assumption; rfl)))
    refine WL.call rfl rfl rfl (Fits_ok w6 (h3.up hE6) (h4.up hE6) k (lat s l 0) (by omega) (by omega) hu64) ?_
    rintro _ w7 ⟨rfl, e7⟩
    have hof := hof.extN e7
    have e7 := e6.trans e7
    have hfl : ((st.take i).filter fun k => fitB mu no k.toNat (lat s l 0)).length ≤ st.length := Nat.le_trans (List.length_filter_le _ _) (by rw [List.length_take]; omega)
    (repeat (first | (apply WL.nil) | (apply EX.thenN)))
    refine CW.cond rfl (fun hf => ?_) (fun hf => ?_)
    · rw [if_pos hf] at hnext
      (repeat (first | (apply WL.pure; rfl; rfl; rfl) | (apply CW.region)))
      refine WL.app1 (F := Non) (yv := (k : Int)) rfl rfl (fun _ => rfl) rfl rfl (fun _ => rfl) hof (Rd.mkInt _ _ _) e7.size (fun _ h => h.elim) (by decide) (by unfold maxLen; omega) (by omega) (fun v' w8 p ho8 hg8 hnb => ?_)
      rw [← hnext] at ho8
      have e8 : Ext w5 w8 := e7.grown hg8 e7.size (fun b hb => (hof.lt b hb).1)
      (repeat (first | (apply WL.add; rfl; rfl; rfl; rfl; omega; omega) | (apply WL.pure; rfl; rfl; rfl) | (apply WL.nil) | (apply EX.thenN) | (apply CW.region) | (apply EX.inN)))
      exact EX.back (i + 1, v') (by repeat (first | exact trivial | refine ⟨rfl, ?_⟩)) ⟨hi', ho8, e8⟩ (by dsimp only; omega)
    · rw [if_neg (by rw [hf]; simp), List.append_nil] at hnext
      (repeat (first | (apply WL.add; rfl; rfl; rfl; rfl; omega; omega) | (apply WL.pure; rfl; rfl; rfl) | (apply WL.nil) | (apply EX.thenN) | (apply CW.region) | (apply EX.inN) | (apply CW.skip)))
      exact EX.back (i + 1, fV) (by repeat (first | exact trivial | refine ⟨rfl, ?_⟩)) ⟨hi', by dsimp only; rw [hnext]; exact hof, e7⟩ (by dsimp only; omega)
  obtain rfl : i = st.length := by simp at h; omega
  rw [List.take_length] at hof
  have hofd : (st.filter fun k => fitB mu no k.toNat (lat s l 0)) = fromP st mu no s l := rfl
  rw [hofd] at hof
  have hfok : okL g.length (fromP st mu no s l) := by rw [hgd]; exact fromP_okL hst h0
  have hfl : (fromP st mu no s l).length ≤ st.length := List.length_filter_le _ _
  obtain ⟨fo, fc, rfl, hfs⟩ := hof.oldN.sl
  have hb3 := hb6
  clear hof hb6 h hi
  (repeat (first | (apply WL.pure; rfl; rfl; rfl) | (apply EX.thenN) | (apply CW.seq) | (apply CW.region) | (apply CW.exit) | (apply EX.thenX) | (apply EX.inX)))
  refine WL.call rfl rfl rfl (reached_ok w6 (hg.up e6) hfs hgok hfok (by omega)) ?_
  rintro _ w7 ⟨_, _, li, sm, rfl, hR, hli, hsm, e7⟩
  have hE := hE6.trans e7
  have hb3 := hb3.ext e7
  obtain ⟨lio, lic, rfl, hliS⟩ := hli.sl
  obtain ⟨smo, smc, rfl, hsmS⟩ := hsm.sl
  clear hli hsm
  have hli := hliS
  have hsm := hsmS
  clear hliS hsmS
  have hsmok := hR.okG hgok
  have hsml := hR.len
  have hlil : li.length ≤ g.length := by
    have hnd : (li.map Int.toNat).Nodup := by
      rw [List.Nodup, List.pairwise_map]
      refine List.Pairwise.imp_of_mem ?_ hR.nodup
      intro a b ha hb hab e
      have := hR.pos a ha; have := hR.pos b hb
      exact hab (by omega)
    have := nodup_len g.length (li.map Int.toNat) hnd (fun x hx => by
      obtain ⟨y, hy, rfl⟩ := List.mem_map.1 hx
      have h0 := hR.pos y hy
      have h1 := (hR.mem y.toNat).1 (by rw [show ((y.toNat : Nat) : Int) = y by omega]; exact hy)
      exact rch_lt hgok hfok h1)
    simpa using this
  clear e6 hE6
  (repeat (first | (apply WL.pure; rfl; rfl; rfl) | (apply WL.nil) | (apply EX.thenN) | (apply CW.seq) | (apply CW.region)))
  refine WL.call rfl rfl rfl (Split_ok w7 hsm (fun _ h => h) hsmok (by omega)) ?_
  rintro _ w8 ⟨part, hop, hP, e8⟩
  have hE := hE.trans e8
  have hb3 := hb3.ext e8
  have hli := hli.up e8
  have hsm := hsm.up e8
  obtain ⟨po, pc, rfl, hp⟩ := hop.oldN.sl
  have hpl := hP.len
  clear e7 e8 hop
  (repeat (first | (apply WL.pure; rfl; rfl; rfl) | (apply WL.nil) | (apply EX.thenN) | (apply CW.seq) | (apply CW.region)))
  refine WL.call rfl rfl rfl (round_ok w8 hsm hp hsmok hP (by omega)) ?_
  rintro gdV w9 ⟨good, hgo, hgol, hgood, e9⟩
  have hb9 := hb3.ext e9
  have hm5 := h5.len63
  have hm6 := hli.len63
  (repeat (first | (apply WL.pure; rfl; rfl; rfl) | (apply WL.nil) | (apply EX.thenN) | (apply CW.seq) | (apply CW.region) | (apply WL.lenS; rfl; rfl; rfl) | (apply WL.fa; rfl; rfl; rfl) | (apply WL.ld; rfl; rfl; rfl; assumption; rfl) | (apply CW.block)))
  refine CW.loop (S := Nat × List Bool) (fun x => [(2, .int .i64 nx.length), (12, .slice lio li.length lic), (13, .slice smo sm.length smc), (14, .slice po part.length pc), (15, gdV), (62, .slice a5 fr.length c5), (63, .int .i64 fr.length), (64, .int .i64 x.1)])
    (fun x w => x.1 ≤ fr.length ∧ Own w w8.heap.size 4 Non gdV x.2 ∧ x.2.length = sm.length ∧ (∀ c, c < sm.length → (x.2.getD c false = true ↔ (∃ u, u < sm.length ∧ part.getD u 0 = c ∧ ∃ to ∈ sm.getD u [], part.getD to.toNat 0 = c) ∧ ∀ F ∈ fr.take x.1, ∃ y, y < sm.length ∧ ((ndAt li y % nx.length : Nat) : Int) ∈ F ∧ part.getD y 0 = c)) ∧ Ext w8 w) (fun x => fr.length - x.1) (0, good) (by repeat (first | exact trivial | refine ⟨rfl, ?_⟩))
    ⟨Nat.zero_le _, hgo, hgol, fun c hc => by dsimp only; rw [hgood c hc, List.take_zero]; simp, e9⟩ ?_
  clear hgo hgol hgood hb9 e9
  rintro ⟨f, good⟩ w10 ⟨hf, hgo, hgol, hgood, e10⟩
  dsimp only at hf hgo hgol hgood ⊢
  (repeat (first | (apply WL.pure; rfl; rfl; rfl) | (apply WL.nil) | (apply EX.thenN) | (apply CW.seq) | (apply CW.region)))
  refine CW.cond rfl (fun h => ?_) (fun h => ?_)
  · have hf' : f < fr.length := by simp at h; omega
    have hE10 := hE.trans e10
    have hFok := hfr _ (List.getElem_mem hf')
    (repeat (first | (apply EX.thenN) | (apply CW.seq) | (apply CW.region) | (apply CW.block) | (apply CW.skip)))
    refine WL.elemN rfl rfl rfl rfl rfl (h5.at hE10) hf' (fun _ => rfl) (fun u q hu => ?_)
    obtain ⟨Fo, Fc, rfl, hF⟩ := hu.sl
    (repeat (first | (apply WL.pure; rfl; rfl; rfl) | (apply WL.nil) | (apply EX.thenN) | (apply CW.seq) | (apply CW.region)))
    refine WL.call rfl rfl rfl (member_ok w10 hF (fun b hb => Nat.lt_of_lt_of_le hb hE10.size) nx.length (by omega) hFok) ?_
    rintro _ w11 ⟨hom, e11⟩
    have hgo := hgo.extN e11
    have e11 := e10.trans e11
    have hE11 := hE.trans e11
    obtain ⟨mo, mc, rfl, hmem⟩ := hom.oldN.sl
    clear hom hF
    (repeat (first | (apply WL.pure; rfl; rfl; rfl) | (apply WL.nil) | (apply EX.thenN) | (apply CW.seq) | (apply CW.region) | (apply WL.lenS; rfl; rfl; rfl)))
    refine WL.make (α := Bool) rfl rfl rfl rfl (by omega) (by unfold maxLen; omega) (fun w12 ho12 hg12 => ?_)
    have e12 : Ext w11 w12 := (Below.refl _ _).grown hg12 (Nat.le_refl _) (fun k h => by cases h)
    have hglt : ∀ b, gdV.ownBlock = some b → b < w11.heap.size := fun b hb => (hgo.lt b hb).2.1
    (repeat (first | (apply WL.pure; rfl; rfl; rfl) | (apply WL.nil) | (apply EX.thenN) | (apply CW.seq) | (apply CW.region) | (apply WL.lenS; rfl; rfl; rfl) | (apply CW.block)))
    refine CW.loop (S := Nat × List Bool) (fun x => [(2, .int .i64 nx.length), (12, .slice lio li.length lic), (13, .slice smo sm.length smc), (14, .slice po part.length pc), (15, gdV), (18, .slice mo (memL nx.length fr[f]).length mc), (19, .slice (some ⟨w11.heap.size, 0, none⟩) sm.length sm.length), (62, .slice a5 fr.length c5), (63, .int .i64 fr.length), (64, .int .i64 f), (74, .slice lio li.length lic), (75, .int .i64 li.length), (76, .int .i64 x.1)])
      (fun x w => x.1 ≤ li.length ∧ Own w w11.heap.size 4 Non (.slice (some ⟨w11.heap.size, 0, none⟩) sm.length sm.length) x.2 ∧ x.2.length = sm.length ∧ (∀ c, c < sm.length → (x.2.getD c false = true ↔ ∃ y, y < x.1 ∧ ((ndAt li y % nx.length : Nat) : Int) ∈ fr[f] ∧ part.getD y 0 = c)) ∧ Ext w11 w) (fun x => li.length - x.1) (0, List.replicate sm.length false) (by repeat (first | exact trivial | refine ⟨rfl, ?_⟩))
      ⟨Nat.zero_le _, ho12, by simp, fun c hc => by dsimp only; rw [getD_rep]; simp, e12⟩ ?_
    rintro ⟨i, has⟩ w13 ⟨hi, hoh, hhl, hhas, e13⟩
    dsimp only at hi hoh hhl hhas ⊢
    (repeat (first | (apply WL.pure; rfl; rfl; rfl) | (apply WL.nil) | (apply EX.thenN) | (apply CW.seq) | (apply CW.region)))
    refine CW.cond rfl (fun h => ?_) (fun h => ?_)
    · have hi' : i < li.length := by simp at h; omega
      have hli13 := hli.up (e11.trans e13)
      have hp13 := hp.up (e11.trans e13)
      have hx0 := hR.pos _ (List.getElem_mem hi')
      obtain ⟨x, ex⟩ := Int.eq_ofNat_of_zero_le hx0
      have hnd : ndAt li i = x := by unfold ndAt; rw [getDI_at hi', ex]; omega
      have hip : i < part.length := by omega
      have hp0 := hP.ge i hip
      have hp1 := hP.lt i hip
      obtain ⟨c0, ec0⟩ := Int.eq_ofNat_of_zero_le hp0
      have hc0 : c0 < sm.length := by omega
      have hpc : part[i] = (c0 : Int) := by rw [← getDI_at hip]; exact ec0
      have hch : c0 < has.length := by omega
      have hxn : x % nx.length < (memL nx.length fr[f]).length := by rw [memL_len]; exact Nat.mod_lt _ hn0
      (repeat (first | (apply WL.pure; rfl; rfl; rfl) | (apply EX.thenN) | (apply CW.seq) | (apply CW.region) | (apply CW.block) | (apply CW.skip)))
      refine WL.elemI rfl rfl rfl rfl rfl hli13 hi' ex (fun _ => rfl) (fun q => ?_)
      (repeat (apply WL.pure; rfl; rfl; rfl))
      apply WL.nil
      apply EX.thenN
      have hd := Ext.drew w13
      have hpd := hp.at ((e11.trans e13).trans hd)
      have hmd := hmem.at (e13.trans hd)
      have hohd := hoh.extN hd
      obtain ⟨ho', hc', hv', hhs⟩ := hohd.slF (F' := fun b => b = w11.heap.size) (fun _ h => h.elim) (fun g hg => by cases hg; rfl)
      obtain ⟨rfl, _, rfl⟩ := Value.slice.inj hv'
      rw [← hhl] at hhs
      have hKK : ∀ (F : Nat → Prop) z, (fun x : World => x = drew w13) z → ∀ b, F b → z.heap[b]? = (drew w13).heap[b]? := fun F z hz b _ => by rw [hz]
      refine CW.drawE (fun x : World => x = drew w13) [(0, true), (1, true), (2, true), (3, true), (4, true), (5, true), (6, true), (7, true), (8, true), (9, true), (10, true), (11, true), (12, true), (13, true), (14, true), (15, true), (16, true), (17, true), (18, true), (19, true), (20, true)] 21 mixed (by kernel_rfl) rfl ?_
      (repeat (apply HL.pure; rfl; rfl; rfl; rfl))
      refine HL.elemK (w := drew w13) (F := Old w8) (hKK _) rfl rfl rfl rfl rfl rfl rfl hpd hip (fun _ => rfl) (fun u q hu => ?_)
      obtain rfl := hu.int
      rw [hpc]
      (repeat (apply HL.pure; rfl; rfl; rfl; rfl))
      refine HL.elemK (w := drew w13) (F := Old w8) (hKK _) rfl rfl rfl rfl rfl rfl rfl hpd hip (fun _ => rfl) (fun u q hu => ?_)
      obtain rfl := hu.int
      rw [hpc]
      skip
      rw [← hhl]
      refine HL.elemK (w := drew w13) (F := fun b => b = w11.heap.size) (hKK _) rfl rfl rfl rfl rfl rfl rfl hhs hch (fun _ => rfl) (fun u q hu => ?_)
      obtain rfl := hu.bool
      rw [hhl]
      have hstep : ∀ (b : Bool), (b = true ↔ has[c0] = true ∨ ((x % nx.length : Nat) : Int) ∈ fr[f]) → ∀ w', Own w' w11.heap.size 4 Non (.slice (some ⟨w11.heap.size, 0, none⟩) sm.length sm.length) (has.set c0 b) → Ext w11 w' →
          (i + 1 ≤ li.length ∧ Own w' w11.heap.size 4 Non (.slice (some ⟨w11.heap.size, 0, none⟩) sm.length sm.length) (has.set c0 b) ∧ (has.set c0 b).length = sm.length ∧ (∀ c, c < sm.length → ((has.set c0 b).getD c false = true ↔ ∃ y, y < i + 1 ∧ ((ndAt li y % nx.length : Nat) : Int) ∈ fr[f] ∧ part.getD y 0 = c)) ∧ Ext w11 w') := by
        intro b hb w' ho he
        refine ⟨hi', ho, by simpa using hhl, fun c hc => ?_, he⟩
        have hsplit : (∃ y, y < i + 1 ∧ ((ndAt li y % nx.length : Nat) : Int) ∈ fr[f] ∧ part.getD y 0 = c) ↔ (∃ y, y < i ∧ ((ndAt li y % nx.length : Nat) : Int) ∈ fr[f] ∧ part.getD y 0 = c) ∨ (((x % nx.length : Nat) : Int) ∈ fr[f] ∧ c0 = c) := by
          constructor
          · rintro ⟨y, hy1, hy2, hy3⟩
            by_cases e : y = i
            · subst e; rw [hnd] at hy2; exact .inr ⟨hy2, by omega⟩
            · exact .inl ⟨y, by omega, hy2, hy3⟩
          · rintro (⟨y, hy1, hy2⟩ | ⟨hy1, hy2⟩)
            · exact ⟨y, by omega, hy2⟩
            · exact ⟨i, by omega, by rw [hnd]; exact hy1, by omega⟩
        rw [getD_set hch, hsplit]
        by_cases e : c0 = c
        · subst e
          rw [if_pos rfl, hb, ← getB_at hch, hhas _ hc]
          simp
        · rw [if_neg e, hhas c hc]
          simp [e]
      by_cases hh : has[c0] = true
      · rw [hh]
        (repeat (first | (apply HL.pure; rfl; rfl; rfl; rfl) | (apply HL.pass; rfl; rfl; rfl)))
        refine HL.setTail (yv := true) rfl rfl rfl rfl rfl rfl hohd hch (fun _ => rfl) (fun _ => rfl) (Rd.mkBool _ _ _) (fun w14 q ho14 hg14 => ?_)
        have e14 : Ext w11 w14 := (e13.trans hd).grown hg14 (e13.trans hd).size (fun b hb => (hohd.lt b hb).1)
        (repeat (first | (apply WL.add; rfl; rfl; rfl; rfl; omega; omega) | (apply WL.pure; rfl; rfl; rfl) | (apply WL.nil) | (apply EX.thenN) | (apply CW.region) | (apply EX.inN)))
        exact EX.back (i + 1, has.set c0 true) (by repeat (first | exact trivial | refine ⟨rfl, ?_⟩)) (hstep true (by simp [hh]) _ ho14 e14) (by dsimp only; omega)
      · have hh : has[c0] = false := by simpa using hh
        rw [hh]
        (repeat (apply HL.pure; rfl; rfl; rfl; rfl))
        refine HL.rem rfl rfl rfl rfl rfl (by omega) (by omega) ?_
        rw [show (x : Int) % (nx.length : Int) = ((x % nx.length : Nat) : Int) from (Int.natCast_emod _ _).symm]
        skip
        refine HL.elemK (w := drew w13) (F := Old w11) (hKK _) rfl rfl rfl rfl rfl rfl rfl hmd hxn (fun _ => rfl) (fun u q hu => ?_)
        obtain rfl := hu.bool
        rw [memL_get (Nat.mod_lt _ hn0)]
        (repeat (apply HL.pure; rfl; rfl; rfl; rfl))
        refine HL.setTail (yv := decide (((x % nx.length : Nat) : Int) ∈ fr[f])) rfl rfl rfl rfl rfl rfl hohd hch (fun _ => rfl) (fun _ => rfl) (Rd.mkBool _ _ _) (fun w14 q ho14 hg14 => ?_)
        have e14 : Ext w11 w14 := (e13.trans hd).grown hg14 (e13.trans hd).size (fun b hb => (hohd.lt b hb).1)
        (repeat (first | (apply WL.add; rfl; rfl; rfl; rfl; omega; omega) | (apply WL.pure; rfl; rfl; rfl) | (apply WL.nil) | (apply EX.thenN) | (apply CW.region) | (apply EX.inN)))
        exact EX.back (i + 1, has.set c0 _) (by repeat (first | exact trivial | refine ⟨rfl, ?_⟩)) (hstep _ (by simp [hh]) _ ho14 e14) (by dsimp only; omega)
    · obtain rfl : i = li.length := by simp at h; omega
      have hgo13 := hgo.extN e13
      have e13' := e11.trans e13
      (repeat (first | (apply WL.pure; rfl; rfl; rfl) | (apply WL.nil) | (apply EX.thenN) | (apply CW.seq) | (apply CW.region) | (apply CW.block) | (apply CW.exit) | (apply EX.thenX) | (apply EX.inX) | (refine WL.lenO rfl rfl rfl (by assumption) ?_)))
      refine CW.loop (S := Nat × List Bool) (fun x => [(2, .int .i64 nx.length), (12, .slice lio li.length lic), (13, .slice smo sm.length smc), (14, .slice po part.length pc), (15, gdV), (19, .slice (some ⟨w11.heap.size, 0, none⟩) sm.length sm.length), (62, .slice a5 fr.length c5), (63, .int .i64 fr.length), (64, .int .i64 f), (104, .int .i64 sm.length), (105, .int .i64 x.1)])
        (fun x w => x.1 ≤ sm.length ∧ Own w w8.heap.size 4 Non gdV x.2 ∧ x.2.length = sm.length ∧ (∀ c, c < sm.length → x.2.getD c false = if c < x.1 then good.getD c false && has.getD c false else good.getD c false) ∧ Own w w11.heap.size 4 Non (.slice (some ⟨w11.heap.size, 0, none⟩) sm.length sm.length) has ∧ Ext w8 w) (fun x => sm.length - x.1) (0, good) ?_
        ⟨Nat.zero_le _, hgo13, hgol, fun c hc => by dsimp only; rw [if_neg (by omega)], hoh, e13'⟩ ?_
      · rw [hgol]; exact (by repeat (first | exact trivial | refine ⟨rfl, ?_⟩))
      rintro ⟨k, gd'⟩ w14 ⟨hk, hg14, hgl14, hgd14, hoh, e14⟩
      dsimp only at hk hg14 hgl14 hgd14 hoh ⊢
      (repeat (first | (apply WL.pure; rfl; rfl; rfl) | (apply WL.nil) | (apply EX.thenN) | (apply CW.seq) | (apply CW.region)))
      refine CW.cond rfl (fun h => ?_) (fun h => ?_)
      · have hk' : k < sm.length := by simp at h; omega
        have hkg : k < gd'.length := by omega
        have hkh : k < has.length := by omega
        have hgk : gd'[k] = good.getD k false := by rw [← getB_at hkg, hgd14 k hk', if_neg (by omega)]
        have hst : ∀ b : Bool, b = (good.getD k false && has.getD k false) → ∀ c, c < sm.length → (gd'.set k b).getD c false = if c < k + 1 then good.getD c false && has.getD c false else good.getD c false := by
          intro b hb c hc
          rw [getD_set hkg]
          by_cases e : k = c
          · subst e; rw [if_pos rfl, if_pos (by omega), hb]
          · rw [if_neg e, hgd14 c hc]
            by_cases h1 : c < k
            · rw [if_pos h1, if_pos (by omega)]
            · rw [if_neg h1, if_neg (by omega)]
        (repeat (first | (apply WL.pure; rfl; rfl; rfl) | (apply WL.nil) | (apply EX.thenN) | (apply CW.seq) | (apply CW.region) | (apply CW.block) | (apply CW.skip)))
        refine WL.elemON rfl rfl rfl rfl rfl hg14 hkg (fun _ => rfl) (fun u q hu => ?_)
        obtain rfl := hu.bool
        rw [hgk]
        (repeat (apply WL.pure; rfl; rfl; rfl))
        by_cases hgt : good.getD k false = true
        · rw [hgt]
          (repeat (apply WL.pure; rfl; rfl; rfl))
          refine WL.elemON rfl rfl rfl rfl rfl hoh hkh (fun _ => rfl) (fun u q hu => ?_)
          obtain rfl := hu.bool
          (repeat (apply WL.pure; rfl; rfl; rfl))
          refine WL.setN (u := .bool has[k]) (yv := has[k]) rfl rfl rfl rfl hg14 hkg (fun _ => rfl) (fun _ => rfl) (Rd.mkBool _ _ _) (fun w15 q ho15 hg15 => ?_)
          have e15 : Ext w8 w15 := e14.grown hg15 e14.size (fun b hb => (hg14.lt b hb).1)
          have hoh15 := hoh.keptN hg15 (fun g hg e => by cases hg; exact absurd (hglt _ e.symm) (Nat.lt_irrefl _))
          (repeat (first | (apply WL.add; rfl; rfl; rfl; rfl; omega; omega) | (apply WL.pure; rfl; rfl; rfl) | (apply WL.nil) | (apply EX.thenN) | (apply CW.region) | (apply EX.inN)))
          exact EX.back (k + 1, gd'.set k has[k]) (by repeat (first | exact trivial | refine ⟨rfl, ?_⟩)) ⟨hk', ho15, by simpa using hgl14, hst _ (by rw [hgt, getB_at hkh]; rfl), hoh15, e15⟩ (by dsimp only; omega)
        · have hgt : good.getD k false = false := by simpa using hgt
          rw [hgt]
          (repeat (first | (apply WL.pure; rfl; rfl; rfl) | (apply WL.pass; rfl; rfl)))
          refine WL.setN (u := .bool false) (yv := false) rfl rfl rfl rfl hg14 hkg (fun _ => rfl) (fun _ => rfl) (Rd.mkBool _ _ _) (fun w15 q ho15 hg15 => ?_)
          have e15 : Ext w8 w15 := e14.grown hg15 e14.size (fun b hb => (hg14.lt b hb).1)
          have hoh15 := hoh.keptN hg15 (fun g hg e => by cases hg; exact absurd (hglt _ e.symm) (Nat.lt_irrefl _))
          (repeat (first | (apply WL.add; rfl; rfl; rfl; rfl; omega; omega) | (apply WL.pure; rfl; rfl; rfl) | (apply WL.nil) | (apply EX.thenN) | (apply CW.region) | (apply EX.inN)))
          exact EX.back (k + 1, gd'.set k false) (by repeat (first | exact trivial | refine ⟨rfl, ?_⟩)) ⟨hk', ho15, by simpa using hgl14, hst _ (by rw [hgt]; rfl), hoh15, e15⟩ (by dsimp only; omega)
      · obtain rfl : k = sm.length := by simp at h; omega
        (repeat (first | (apply WL.add; rfl; rfl; rfl; rfl; omega; omega) | (apply WL.pure; rfl; rfl; rfl) | (apply WL.nil) | (apply EX.thenN) | (apply CW.region) | (apply EX.inN) | (apply CW.exit) | (apply EX.thenX) | (apply EX.inX)))
        refine EX.back (f + 1, gd') (by repeat (first | exact trivial | refine ⟨rfl, ?_⟩)) ⟨hf', hg14, hgl14, fun c hc => ?_, e14⟩ (by dsimp only; omega)
        dsimp only
        rw [hgd14 c hc, if_pos hc, Bool.and_eq_true, hgood c hc, hhas c hc, ← List.take_append_getElem hf', and_assoc]
        refine and_congr Iff.rfl ⟨fun ⟨h1, h2⟩ F hF => ?_, fun h1 => ⟨fun F hF => h1 F (List.mem_append.2 (.inl hF)), ?_⟩⟩
        · rcases List.mem_append.1 hF with hF | hF
          · exact h1 F hF
          · rw [List.mem_singleton] at hF; subst hF; rw [hsml]; exact h2
        · have := h1 fr[f] (List.mem_append.2 (.inr (by simp)))
          rw [hsml] at this; exact this
  · obtain rfl : f = fr.length := by simp at h; omega
    rw [List.take_length] at hgood
    obtain ⟨ggo, ggc, rfl, hgs⟩ := hgo.oldN.sl
    (repeat (first | (apply WL.pure; rfl; rfl; rfl) | (apply EX.thenN) | (apply CW.seq) | (apply CW.region) | (apply CW.exit) | (apply EX.thenX) | (apply EX.inX)))
    refine WL.call rfl rfl rfl (contains_bool w10 true hgs) ?_
    rintro _ w11 ⟨rfl, e11⟩
    (repeat (first | (apply WL.pure; rfl; rfl; rfl) | (apply WL.nil) | (apply EX.thenN) | (apply CW.ret)))
    refine EX.ret1 rfl rfl ⟨?_, (hE.trans e10).trans e11⟩
    congr 1
    rw [Bool.eq_iff_iff, accB_iff, List.contains_iff_mem]
    rw [hgd] at hR
    exact (acc_good hnx hst h0 hR hP hgol hgood).symm.symm
end Go.Proofs.Ytllpfgcngokhnaa
/-
  The least form of a word fits.
-/
set_option linter.unusedVariables false
set_option linter.unusedSimpArgs false
namespace Go.Proofs.Ytllpfgcngokhnaa
open Go.RowKit

theorem rollGo_len : ∀ (f : Nat) (s l : List Nat), 0 < l.length → (rollGo f s l).1.length ≤ s.length ∧ (rollGo f s l).2.length = l.length
  | 0, s, l, _ => by simp [rollGo]
  | f + 1, s, l, h => by
    unfold rollGo
    split
    · have hl : (l.getD (l.length - 1) 0 :: l.take (l.length - 1)).length = l.length := by rw [List.length_cons, List.length_take]; omega
      have := rollGo_len f (s.take (s.length - 1)) (l.getD (l.length - 1) 0 :: l.take (l.length - 1)) (by omega)
      rw [List.length_take] at this
      exact ⟨by omega, by omega⟩
    · exact ⟨Nat.le_refl _, rfl⟩
theorem leastL_chk {s l : List Nat} (h : chkW s l = 0) : chkW (leastL s l).1 (leastL s l).2 = 0 ∧ leastL (leastL s l).1 (leastL s l).2 = leastL s l := by
  have hW := chkW_ok h
  have sp := leastL_spec (s := s) hW.2
  have hpos := sp.pos
  have h1 : (leastL s l).1.length ≤ s.length ∧ (leastL s l).2.length ≤ l.length := by
    have h := perGo_spec (s := s) hW.2 l.length 1 (by omega) (by omega) (fun d hd hd1 => by omega)
    have hp : (perL l).length ≤ l.length := h.2.2.2
    have := rollGo_len s.length s (perL l) h.1
    exact ⟨this.1, by show (rollGo s.length s (perL l)).2.length ≤ _; omega⟩
  constructor
  · unfold chkW
    rw [if_neg (by omega), if_neg (by omega)]
  · exact leastL_eq hpos hW.2 sp.same
end Go.Proofs.Ytllpfgcngokhnaa
/-
  Package auto: Accepts.
-/
set_option linter.unusedVariables false
set_option linter.unusedSimpArgs false
namespace Go.Proofs.Ytllpfgcngokhnaa
open Go.RowKit

noncomputable def accF (A : LAuto) (s l : List Nat) : Bool × Int := if chkA A ≠ 0 then (false, chkA A) else if chkW s l ≠ 0 then (false, chkW s l) else (accB A (lat s l), 0)
theorem accB_none {A : LAuto} (h : OkA A) (h0 : A.2.1.length = 0) (L : Nat → Nat) : accB A L = false := by
  rw [← Bool.not_eq_true, accB_iff]
  rintro ⟨r, h1, _⟩
  have := h.st _ h1
  omega
theorem Accepts_ok (w0 : World) {v0 : Value} {A : LAuto} {s l : List Nat} {so lo : Option Addr} {sc lc : Nat} (ha : AutoAt w0 (Old w0) v0 A) (hs : Sl w0 (Old w0) so sc s) (hl : Sl w0 (Old w0) lo lc l)
    (hT : edges A.2.1 + A.1.length ≤ 8589934592) :
    Rt Try.prog 16 [v0, wordV so sc lo lc s l].toArray w0 fun v w' => v = .tuple ⟨[.bool (accF A s l).1, .int .i64 (accF A s l).2]⟩ ∧ Ext w0 w' := by
  have hms := hs.len63
  have hml := hl.len63
  obtain ⟨a1, c1, a2, c2, a3, c3, a4, c4, a5, c5, hv0, h1, h2, h3, h4, h5⟩ := ha.ok
  refine Rt.enter2 Try.func16 Try.ntmps16 rfl rfl ?_
  have hE := Ext.refl w0
  (repeat (first | (apply CW.seq) | (apply CW.region)))
  refine WL.boxB rfl rfl rfl fun w1 hb2 e1 => ?_
  have hE := hE.trans e1
  have z1 := hb2.lt
  skip
  refine WL.boxB rfl rfl rfl fun w2 hb3 e2 => ?_
  have hb2 := hb2.ext e2
  have hE := hE.trans e2
  have z2 := e1.size
  subst hv0
  unfold accF
  (repeat (first | (apply WL.pure; rfl; rfl; rfl) | (apply WL.nil) | (apply EX.thenN) | (apply CW.seq) | (apply CW.region) | (apply WL.ldA; rfl; rfl; rfl; assumption; rfl)))
  refine WL.call rfl rfl rfl (aCheck_ok w2 (A := A) ⟨a1, c1, a2, c2, a3, c3, a4, c4, a5, c5, rfl, h1.up hE, h2.up hE, h3.up hE, h4.up hE, h5.up hE⟩) ?_
  rintro _ w3 ⟨rfl, e3⟩
  have hb2 := hb2.ext e3
  have hb3 := hb3.ext e3
  have hE := hE.trans e3
  (repeat (first | (apply WL.pure; rfl; rfl; rfl) | (apply WL.nil) | (apply EX.thenN) | (apply CW.seq) | (apply CW.region)))
  refine CW.cond rfl (fun h => ?_) (fun h => ?_)
  · have h : chkA A ≠ 0 := by simpa using h
    (repeat (first | (apply WL.pure; rfl; rfl; rfl) | (apply WL.nil) | (apply EX.thenN) | (apply CW.seq) | (apply CW.region) | (apply CW.ret) | (apply EX.thenR)))
    refine EX.ret2 rfl rfl rfl ⟨?_, hE⟩
    rw [if_pos h]
  have hA : chkA A = 0 := by simpa using h
  have hok := chkA_ok hA
  rw [if_neg (by simp [hA])]
  (repeat (first | (apply EX.thenN) | (apply CW.seq) | (apply CW.region) | (apply WL.ldA; rfl; rfl; rfl; assumption; rfl) | (apply CW.skip)))
  refine WL.call rfl rfl rfl (lassoCheck w3 hs.len63 hl.len63) ?_
  rintro _ w4 ⟨rfl, e4⟩
  have hb2 := hb2.ext e4
  have hb3 := hb3.ext e4
  have z3 := hb3.lt
  have hE := hE.trans e4
  (repeat (first | (apply WL.pure; rfl; rfl; rfl) | (apply WL.nil) | (apply EX.thenN) | (apply CW.seq) | (apply CW.region)))
  refine CW.cond rfl (fun h => ?_) (fun h => ?_)
  · have h : chkW s l ≠ 0 := by simpa using h
    (repeat (first | (apply WL.pure; rfl; rfl; rfl) | (apply WL.nil) | (apply EX.thenN) | (apply CW.seq) | (apply CW.region) | (apply CW.ret) | (apply EX.thenR)))
    refine EX.ret2 rfl rfl rfl ⟨?_, hE⟩
    rw [if_pos h]
  have hW : chkW s l = 0 := by simpa using h
  rw [if_neg (by simp [hW])]
  have hk := chkW_ok hW
  (repeat (first | (apply EX.thenN) | (apply CW.seq) | (apply CW.region) | (apply WL.ldA; rfl; rfl; rfl; assumption; rfl) | (apply CW.skip)))
  refine WL.call rfl rfl rfl (Least_okF w4 (hs.up hE) (hl.up hE)) ?_
  rintro _ w5 ⟨x, rfl, hx, e5⟩
  have hb2 := hb2.ext e5
  have hb3 := hb3.ext e5
  have hE := hE.trans e5
  have hle : leastE s l = leastL s l := by unfold leastE; rw [if_neg (by simp [hW])]
  rw [hle] at hx
  have hsp := leastL_spec (s := s) hk.2
  have hck := leastL_chk hW
  generalize leastL s l = sl at hx hsp hck
  obtain ⟨s', l'⟩ := sl
  obtain ⟨so', sc', lo', lc', rfl, hs', hl'⟩ := hx.word
  dsimp only at hs' hl' hsp hck ⊢
  have hk' := chkW_ok hck.1
  (repeat (apply WL.pure; rfl; rfl; rfl))
  refine WL.st rfl rfl rfl hb3 rfl rfl (ones_of rfl) (fun w6 hb3 hg6 => ?_)
  have hb2 := hb2.kept hg6 (by simp; omega)
  have hE6 : Ext w0 w6 := hE.grown hg6 hE.size (fun g hg => by cases hg; exact z2)
  have hz4 := e5.size
  have hF : ∀ b, (w4.heap.size ≤ b ∧ b < w5.heap.size) → w6.heap[b]? = w5.heap[b]? := fun b hb => hg6.block b hb.2 (fun e => by cases e; have := z3; omega)
  have hO : ∀ b, (w4.heap.size ≤ b ∧ b < w5.heap.size) → Old w6 b := fun b hb => Nat.lt_of_lt_of_le hb.2 hg6.size
  have hs6 := hs'.mono hF hO
  have hl6 := hl'.mono hF hO
  (repeat (first | (apply WL.pure; rfl; rfl; rfl) | (apply WL.nil) | (apply EX.thenN) | (apply CW.seq) | (apply CW.region) | (apply WL.lenS; rfl; rfl; rfl) | (apply WL.fa; rfl; rfl; rfl) | (apply WL.ld; rfl; rfl; rfl; assumption; rfl)))
  refine CW.cond rfl (fun h => ?_) (fun h => ?_)
  · have h0 : A.2.1.length = 0 := by simpa using h
    (repeat (first | (apply WL.pure; rfl; rfl; rfl) | (apply WL.nil) | (apply EX.thenN) | (apply CW.seq) | (apply CW.region) | (apply CW.ret) | (apply EX.thenR)))
    refine EX.ret2 rfl rfl rfl ⟨?_, hE6⟩
    rw [accB_none hok h0]
  have h0 : 0 < A.2.1.length := by simp at h; exact Nat.pos_of_ne_zero (fun e => h (List.eq_nil_of_length_eq_zero e))
  (repeat (first | (apply WL.pure; rfl; rfl; rfl) | (apply EX.thenN) | (apply CW.seq) | (apply CW.region) | (apply WL.ldA; rfl; rfl; rfl; assumption; rfl) | (apply CW.skip)))
  refine WL.call rfl rfl rfl (accepts_ok w6 (A := A) ⟨a1, c1, a2, c2, a3, c3, a4, c4, a5, c5, rfl, h1.up hE6, h2.up hE6, h3.up hE6, h4.up hE6, h5.up hE6⟩ hok hs6 hl6 hk'.2 hk'.1 hT h0) ?_
  rintro _ w7 ⟨rfl, e7⟩
  (repeat (first | (apply WL.pure; rfl; rfl; rfl) | (apply WL.nil) | (apply EX.thenN) | (apply CW.ret)))
  refine EX.ret2 rfl rfl rfl ⟨?_, hE6.trans e7⟩
  rw [show lat s' l' = lat s l from funext hsp.same]
end Go.Proofs.Ytllpfgcngokhnaa
/-
  Literals all of whose blocks are new.
-/
set_option linter.unusedVariables false
set_option linter.unusedSimpArgs false
namespace Go.Proofs.Ytllpfgcngokhnaa
open Go.RowKit

/-- the blocks from c on -/
def From (c : Nat) (w : World) : Nat → Prop := fun b => c ≤ b ∧ b < w.heap.size
theorem Rd.upF {α : Type} [Rep α] {w w' : World} {c : Nat} {v : Value} {x : α} (h : Rd w (From c w) v x) (hE : Ext w w') : Rd w' (From c w') v x := h.mono (fun b hb => hE.block b hb.2) fun b hb => ⟨hb.1, Nat.lt_of_lt_of_le hb.2 hE.size⟩
section
variable {P : Program} {Q : Exit → Act → World → Prop} {n : Nat} {σ : Sg} {w : World} {L rest : List Oper} {d : Nat} {ty : TypeId} {pos : String} {af : Array Edge} {g : Option (Nat × Bool)}
variable {α : Type} [Rep α] {e t : TypeId} {x0 : α} {bytes : Nat}
theorem WL.litF (c : Nat) (hc : c ≤ w.heap.size) {len : Nat} {parts : List (Nat × Operand)} {vs : List Value} (ys : List α) (hg : gd L σ ⟨some d, .buildSlice t len parts.toArray, ty, pos, af, g⟩ = some true) (hd : Nat.ble (d + 1) n = true)
    (hp : idxL 0 (sndL parts) = parts) (hv : evs σ (sndL parts) = some vs) [hs : IsS P t e] [ht : IsT P e α] [hz : IsZ P e x0 bytes] (hlen : len = ys.length) (hr : RdAll w (From c w) vs ys) (hsz : ys.length * sz α ≤ 16777216)
    (h : ∀ v w', Ext w w' → Rd w' (From c w') v ys → WL P L Q rest n ((d, v) :: σ) w') :
    WL P L Q (⟨some d, .buildSlice t len parts.toArray, ty, pos, af, g⟩ :: rest) n σ w :=
  WL.lit hg hd hp hv hlen hr hsz (fun b h => h.2) fun w' ho hgr => by
    have hE : Ext w w' := (Below.refl _ _).grown hgr (Nat.le_refl _) (fun k h => by cases h)
    refine h _ w' hE (ho.rd.mono (fun _ _ => rfl) fun b hb => ?_)
    rcases hb with hb | hb
    · exact ⟨hb.1, Nat.lt_of_lt_of_le hb.2 hE.size⟩
    · have := ho.lt b hb; exact ⟨by omega, this.2.1⟩
end
end Go.Proofs.Ytllpfgcngokhnaa
/-
  watchkeep.ones, ever; slices.Clone at [][]int.
-/
set_option linter.unusedVariables false
set_option linter.unusedSimpArgs false
namespace Go.Proofs.Ytllpfgcngokhnaa
open Go.RowKit

def onesA : LAuto := ([0, 1], [[0, 1], [0, 1]], [1, 0], [0, 1], [[0]])
theorem rdU (w : World) (F : Nat → Prop) (x : Nat) (h : x < 18446744073709551616) : Rd w F (.int .u64 (x : Int)) x := ⟨_, rfl, rd_mkU64 _ _ _ h⟩
theorem ones_ok (w0 : World) : Rt Try.prog 13 [].toArray w0 fun v w' => AutoAt w' (Old w') v onesA ∧ Ext w0 w' := by
  refine Rt.enter0 Try.func13 Try.ntmps13 rfl ?_
  (repeat (first | (apply CW.seq) | (apply CW.region)))
  refine WL.alloc rfl rfl (fun w1 hb hE1 => ?_)
  have hc1 : w0.heap.size + 1 ≤ w1.heap.size := hb.lt
  generalize hcc : w0.heap.size + 1 = c at hc1
  (repeat (first | (apply WL.nil) | (apply EX.thenN) | (apply CW.seq) | (apply CW.region)))
  refine WL.litF c (by omega) [(0 : Int), 1] rfl rfl rfl rfl rfl (.cons (Rd.mkInt _ _ _) (.cons (Rd.mkInt _ _ _) .nil)) (by decide) (fun v2 w2 e2 r2 => ?_)
  have z2 := e2.size
  refine WL.litF c (by omega) [(0 : Int), 1] rfl rfl rfl rfl rfl (.cons (Rd.mkInt _ _ _) (.cons (Rd.mkInt _ _ _) .nil)) (by decide) (fun v3 w3 e3 r3 => ?_)
  have z3 := e3.size
  refine WL.litF c (by omega) [(0 : Int), 1] rfl rfl rfl rfl rfl (.cons (Rd.mkInt _ _ _) (.cons (Rd.mkInt _ _ _) .nil)) (by decide) (fun v4 w4 e4 r4 => ?_)
  have z4 := e4.size
  refine WL.litF c (by omega) [[(0 : Int), 1], [0, 1]] rfl rfl rfl rfl rfl (.cons (r3.upF e4) (.cons r4 .nil)) (by decide) (fun v5 w5 e5 r5 => ?_)
  have z5 := e5.size
  refine WL.litF c (by omega) [(1 : Nat), 0] rfl rfl rfl rfl rfl (.cons (rdU _ _ 1 (by decide)) (.cons (rdU _ _ 0 (by decide)) .nil)) (by decide) (fun v6 w6 e6 r6 => ?_)
  have z6 := e6.size
  refine WL.litF c (by omega) [(0 : Nat), 1] rfl rfl rfl rfl rfl (.cons (rdU _ _ 0 (by decide)) (.cons (rdU _ _ 1 (by decide)) .nil)) (by decide) (fun v7 w7 e7 r7 => ?_)
  have z7 := e7.size
  refine WL.litF c (by omega) [(0 : Int)] rfl rfl rfl rfl rfl (.cons (Rd.mkInt _ _ _) .nil) (by decide) (fun v8 w8 e8 r8 => ?_)
  have z8 := e8.size
  refine WL.litF c (by omega) [[(0 : Int)]] rfl rfl rfl rfl rfl (.cons r8 .nil) (by decide) (fun v9 w9 e9 r9 => ?_)
  replace r2 := r2.upF (e3.trans (e4.trans (e5.trans (e6.trans (e7.trans (e8.trans e9))))))
  replace r5 := r5.upF (e6.trans (e7.trans (e8.trans e9)))
  replace r6 := r6.upF (e7.trans (e8.trans e9))
  replace r7 := r7.upF (e8.trans e9)
  have hb9 := hb.ext (e2.trans (e3.trans (e4.trans (e5.trans (e6.trans (e7.trans (e8.trans e9)))))))
  have hE9 := hE1.trans (e2.trans (e3.trans (e4.trans (e5.trans (e6.trans (e7.trans (e8.trans e9)))))))
  clear r3 r4 r8 e2 e3 e4 e5 e6 e7 e8 e9 hE1
  obtain ⟨a1, c1, rfl, s1⟩ := r2.sl
  obtain ⟨a2, c2, rfl, s2⟩ := r5.sl
  obtain ⟨a3, c3, rfl, s3⟩ := r6.sl
  obtain ⟨a4, c4, rfl, s4⟩ := r7.sl
  obtain ⟨a5, c5, rfl, s5⟩ := r9.sl
  skip
  refine WL.build rfl rfl rfl rfl ?_
  skip
  refine WL.st rfl rfl rfl hb9 rfl rfl (ones_of rfl) (fun w10 hb10 hg10 => ?_)
  have hE10 : Ext w0 w10 := hE9.grown hg10 hE9.size (fun g hg => by cases hg; exact Nat.le_refl _)
  have hF : ∀ b, From c w9 b → w10.heap[b]? = w9.heap[b]? := fun b hb => hg10.block b hb.2 (fun e => by cases e; have := hb.1; omega)
  have hO : ∀ b, From c w9 b → Old w10 b := fun b hb => Nat.lt_of_lt_of_le hb.2 hg10.size
  (repeat (first | (apply WL.nil) | (apply EX.thenN) | (apply CW.ret)))
  exact EX.retC rfl rfl hb10 rfl ⟨⟨a1, c1, a2, c2, a3, c3, a4, c4, a5, c5, rfl, s1.mono hF hO, s2.mono hF hO, s3.mono hF hO, s4.mono hF hO, s5.mono hF hO⟩, hE10⟩
theorem onesA_ok : chkA onesA = 0 := by decide
theorem ones_yes : accF onesA [0] [1, 0] = (true, 0) := by
  unfold accF
  rw [if_neg (by simp [onesA_ok]), if_neg (by decide)]
  have : accB onesA (lat [0] [1, 0]) = true := by
    rw [accB_iff]
    have hL : ∀ i, lat [0] [1, 0] i = i % 2 := by
      intro i
      unfold lat
      split
      · rename_i h; simp at h; subst h; rfl
      · rename_i h
        simp at h
        simp only [List.length_cons, List.length_nil]
        rcases Nat.mod_two_eq_zero_or_one i with h1 | h1
        · rw [h1, show (i - (0 + 1)) % (0 + 1 + 1) = 1 by omega]; rfl
        · rw [h1, show (i - (0 + 1)) % (0 + 1 + 1) = 0 by omega]; rfl
    refine ⟨fun i => (i + 1) % 2, ?_, ?_, ?_, ?_⟩
    · show ((0 + 1) % 2 : Int) ∈ [(0 : Int), 1]; decide
    · intro i
      rw [hL]
      show fitB [1, 0] [0, 1] ((i + 1) % 2) (i % 2) = true
      rcases Nat.mod_two_eq_zero_or_one i with h1 | h1
      · rw [h1, show (i + 1) % 2 = 1 by omega]; decide
      · rw [h1, show (i + 1) % 2 = 0 by omega]; decide
    · intro i
      show (((i + 1 + 1) % 2 : Nat) : Int) ∈ ([[0, 1], [0, 1]] : List (List Int)).getD ((i + 1) % 2) []
      rcases Nat.mod_two_eq_zero_or_one i with h1 | h1
      · rw [show (i + 1) % 2 = 1 by omega, show (i + 1 + 1) % 2 = 0 by omega]; decide
      · rw [show (i + 1) % 2 = 0 by omega, show (i + 1 + 1) % 2 = 1 by omega]; decide
    · intro F hF i
      have : F = [0] := by simpa [onesA] using hF
      subst this
      refine ⟨2 * i + 1, by omega, ?_⟩
      show (((2 * i + 1 + 1) % 2 : Nat) : Int) ∈ [(0 : Int)]
      rw [show (2 * i + 1 + 1) % 2 = 0 by omega]; decide
  rw [this]
theorem ones_no : accF onesA [1] [0] = (false, 0) := by
  unfold accF
  rw [if_neg (by simp [onesA_ok]), if_neg (by decide)]
  have : accB onesA (lat [1] [0]) = false := by
    rw [← Bool.not_eq_true, accB_iff]
    rintro ⟨r, h1, h2, h3, h4⟩
    obtain ⟨j, hj, hm⟩ := h4 [0] (by simp [onesA]) 1
    have hr : r j = 0 := by simp at hm; omega
    have := h2 j
    have hL : lat [1] [0] j = 0 := by
      unfold lat
      rw [if_neg (by simp; omega)]
      simp only [List.length_cons, List.length_nil]
      rw [show (j - (0 + 1)) % (0 + 1) = 0 by omega]; rfl
    rw [hr, hL] at this
    exact absurd this (by decide)
  rw [this]
end Go.Proofs.Ytllpfgcngokhnaa
/-
  Accepts, by its error and its answer.
-/
set_option linter.unusedVariables false
set_option linter.unusedSimpArgs false
namespace Go.Proofs.Ytllpfgcngokhnaa
open Go.RowKit

theorem AutoAt.up {w w' : World} {v : Value} {A : LAuto} (h : AutoAt w (Old w) v A) (hE : Ext w w') : AutoAt w' (Old w') v A := by
  obtain ⟨a1, c1, a2, c2, a3, c3, a4, c4, a5, c5, hv, h1, h2, h3, h4, h5⟩ := h.ok
  exact ⟨a1, c1, a2, c2, a3, c3, a4, c4, a5, c5, hv, h1.up hE, h2.up hE, h3.up hE, h4.up hE, h5.up hE⟩
theorem accF_ok {A : LAuto} {s l : List Nat} (h : (accF A s l).2 = 0) : OkA A ∧ chkW s l = 0 ∧ (accF A s l).1 = accB A (lat s l) := by
  unfold accF at h ⊢
  split at h
  · rename_i h1; exact absurd h h1
  rename_i h1
  split at h
  · rename_i h2; exact absurd h h2
  rename_i h2
  rw [if_neg h1, if_neg h2]
  exact ⟨chkA_ok (by simpa using h1), by simpa using h2, rfl⟩
theorem accF_err {A : LAuto} {s l : List Nat} (h : (accF A s l).2 ≠ 0) : (accF A s l).1 = false := by
  unfold accF at h ⊢
  split
  · rfl
  split
  · rfl
  rename_i h1 h2
  rw [if_neg h1, if_neg h2] at h
  exact absurd rfl h
theorem accB_le {A B : LAuto} {L : Nat → Nat} (h : Acc A.1 A.2.1 A.2.2.1 A.2.2.2.1 A.2.2.2.2 L → Acc B.1 B.2.1 B.2.2.1 B.2.2.2.1 B.2.2.2.2 L) (ha : accB A L = true) : accB B L = true := accB_iff.2 (h (accB_iff.1 ha))
theorem okA_pos {A : LAuto} (h : OkA A) : PosA A := ⟨fun x hx => (h.st x hx).1, fun k x hx => (okG_row h.nx k x hx).1⟩
theorem accF_at {A : LAuto} {s l : List Nat} (h : OkA A) (hW : chkW s l = 0) : accF A s l = (accB A (lat s l), 0) := by
  unfold accF
  rw [if_neg (by simp [chkA_of h]), if_neg (by simp [hW])]
theorem bool_iff {a b c : Bool} (h : a = true ↔ b = true ∧ c = true) : a = (b && c) := by
  cases a <;> cases b <;> cases c <;> simp_all
end Go.Proofs.Ytllpfgcngokhnaa
