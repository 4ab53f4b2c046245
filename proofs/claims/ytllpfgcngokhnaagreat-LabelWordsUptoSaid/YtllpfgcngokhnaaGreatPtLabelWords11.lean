import Derived.Test.YtllpfgcngokhnaaGreatPtLabelWords10
/-
  Package empty: good: walked.
-/
set_option linter.unusedVariables false
set_option linter.unusedSimpArgs false
namespace Go.Proofs.YtllpfgcngokhnaaGreat
open Go.RowKit

theorem idxOf_true {l : List Bool} {k : Nat} (hl : l.length = k) : (idxOf (fun y => true == y) l = -1 ∧ ∀ c, l.getD c false = false) ∨ ∃ c : Nat, idxOf (fun y => true == y) l = (c : Int) ∧ c < k ∧ l.getD c false = true := by
  unfold idxOf
  cases h : l.findIdx? fun y => true == y with
  | none =>
    refine .inl ⟨rfl, fun c => ?_⟩
    rw [List.findIdx?_eq_none_iff] at h
    rw [List.getD_eq_getElem?_getD]
    cases e : l[c]? with
    | none => rfl
    | some b =>
      have := h b (List.mem_of_getElem? e)
      cases b <;> simp_all
  | some i =>
    obtain ⟨h1, h2, h3⟩ := List.findIdx?_eq_some_iff_getElem.1 h
    refine .inr ⟨i, rfl, by omega, ?_⟩
    rw [wgetB h1]
    simpa using h2.symm
theorem egood1_ok (w : World) (b b' : Nat) {po : Option Addr} {pc : Nat} {part : List Int} {to n : Nat} (hb : Blk w b 22 [.slice po part.length pc]) (hb' : Blk w b' 3 [.int .i64 (n : Int)]) (hp : Sl w (Old w) po pc part) (ht : to < part.length) (hn : n < part.length) :
    Rt Tryz.prog 79 [.int .i64 (to : Int), .pointer (some ⟨b, 0, none⟩), .pointer (some ⟨b', 0, none⟩)].toArray w fun v w' => v = .bool (part.getD to 0 == part.getD n 0) ∧ Ext w w' := by
  refine Rt.enter3 Tryz.func79 Tryz.ntmps79 rfl rfl ?_
  (repeat (first | (apply WL.pure; rfl; rfl; rfl) | (apply QL.pure; rfl; rfl; rfl) | (apply WL.nil) | (apply EX.thenN) | (apply CW.seq) | (apply CW.region) | (apply QL.ld; rfl; rfl; rfl; assumption; rfl) | (apply CW.draw; exact mixed; kernel_rfl)))
  refine QL.elemI rfl rfl rfl rfl rfl (fun _ h => h) hp ht rfl (fun _ => rfl) (fun q => ?_)
  (repeat (apply QL.ld; rfl; rfl; rfl; assumption; rfl))
  refine QL.elemI rfl rfl rfl rfl rfl (fun _ h => h) hp hn rfl (fun _ => rfl) (fun q' => ?_)
  (repeat (apply QL.pure; rfl; rfl; rfl))
  refine QL.nil (fun w2 e2 => ?_)
  (repeat (first | (apply EX.thenN) | (apply CW.ret)))
  exact EX.ret1 rfl rfl ⟨by rw [wgetDI ht, wgetDI hn], e2⟩
set_option maxHeartbeats 2000000 in
theorem egood_ok (w0 : World) {sb N : Nat} {x0 x1 x2 x3 x4 x5 x6 x7 x8 x9 x12 : Value} {lo no po so : Option Addr} {lc nc pc sc : Nat} {g : List (List Int)} {part : List Int} {sets : List (List Bool)}
    (hb : Blk w0 sb 91 [x0, x1, x2, x3, x4, x5, x6, x7, x8, x9, .slice lo N lc, .slice no g.length nc, x12]) (hN : N = g.length) (hs : Sl w0 (Old w0) no nc g) (hp : Sl w0 (Old w0) po pc part) (hfs : Sl w0 (Old w0) so sc sets)
    (hg : okG g) (hpt : PartsOK g part) (hl : g.length ≤ 1228800) (hsl : ∀ S ∈ sets, S.length = g.length) :
    Rt Tryz.prog 43 [.pointer (some ⟨sb, 0, none⟩), .slice po part.length pc, .slice so sets.length sc].toArray w0 fun v w' => ∃ p : Int, v = .int .i64 p ∧ ((p = -1 ∧ ∀ c : Int, 0 ≤ c → c < g.length → ¬ GoodC g part sets c) ∨ (0 ≤ p ∧ p < g.length ∧ GoodC g part sets p)) ∧ Ext w0 w' := by
  have hm := hs.len63
  have hmp := hp.len63
  have hms := hfs.len63
  have hpl := hpt.len
  subst hN
  have hsb0 := hb.lt
  refine Rt.enter3 Tryz.func43 Tryz.ntmps43 rfl rfl ?_
  (repeat (first | (apply CW.seq) | (apply CW.region)))
  refine WL.boxB rfl rfl rfl fun w1 hb4 hE1 => ?_
  have hb40 := hb4
  have hl1 := hb4.lt
  have hb1 := hb.ext hE1
  (repeat (first | (apply WL.pure; rfl; rfl; rfl) | (apply WL.nil) | (apply EX.thenN) | (apply CW.seq) | (apply CW.region) | (apply WL.lenS; rfl; rfl; rfl) | (apply WL.fa; rfl; rfl; rfl) | (apply WL.nck; rfl; rfl; rfl) | (apply WL.ld; rfl; rfl; rfl; assumption; rfl)))
  refine WL.make (α := Bool) rfl rfl rfl rfl (by omega) (by unfold maxLen; omega) (fun w2 ho2 hg2 => ?_)
  have e2 : Ext w1 w2 := (Below.refl _ _).grown hg2 (Nat.le_refl _) (fun k h => by cases h)
  generalize hsv : Value.slice (some ⟨w1.heap.size, 0, none⟩) g.length g.length = sv at *
  have hpc : ∀ n, n < part.length → ∃ c0 : Nat, part[n]! = (c0 : Int) ∧ c0 < g.length ∧ part.getD n 0 = (c0 : Int) := fun n hn => by
    have h0 := hpt.ge n hn; have h1 := hpt.lt n hn
    obtain ⟨c0, hc0⟩ := Int.eq_ofNat_of_zero_le h0
    exact ⟨c0, by rw [← hc0, wgetDI hn]; simp [hn], by omega, hc0⟩
  have hb2 := hb1.ext e2
  (repeat (first | (apply WL.pure; rfl; rfl; rfl) | (apply WL.nil) | (apply EX.thenN) | (apply CW.seq) | (apply CW.region) | (apply WL.lenS; rfl; rfl; rfl) | (apply WL.fa; rfl; rfl; rfl) | (apply WL.nck; rfl; rfl; rfl) | (apply WL.ld; rfl; rfl; rfl; assumption; rfl) | (apply CW.block)))
  refine CW.loop (S := Nat × List Bool) (fun s => [(0, .pointer (some ⟨sb, 0, none⟩)), (2, .slice so sets.length sc), (4, .pointer (some ⟨w0.heap.size, 0, none⟩)), (7, sv), (25, .slice no g.length nc), (26, .int .i64 g.length), (27, .int .i64 s.1)])
    (fun s w => s.1 ≤ g.length ∧ Own w w1.heap.size 4 Non sv s.2 ∧ s.2.length = g.length ∧ (∀ c : Nat, c < g.length → (s.2.getD c false = true ↔ prtP g part s.1 c)) ∧ Ext w1 w) (fun s => g.length - s.1) (0, List.replicate g.length false) (by repeat (first | exact trivial | refine ⟨rfl, ?_⟩))
    ⟨Nat.zero_le _, ho2, by simp, fun c hc => by dsimp only; rw [getD_rep]; unfold prtP; simp, e2⟩ ?_
  rintro ⟨n, out⟩ w ⟨hn, ho, hol, hr, e⟩
  dsimp only at hn ho hol hr ⊢
  have hE := hE1.trans e
  (repeat (first | (apply WL.pure; rfl; rfl; rfl) | (apply WL.nil) | (apply EX.thenN) | (apply CW.seq) | (apply CW.region)))
  refine CW.cond rfl (fun h => ?_) (fun h => ?_)
  · have hn' : n < g.length := by simp at h; omega
    have erow : g.getD n [] = g[n] := wgetDG hn'
    have hnp : n < part.length := by omega
    obtain ⟨c0, _, hc0l, hc0⟩ := hpc n hnp
    have hpn : part[n] = (c0 : Int) := by rw [← wgetDI hnp]; exact hc0
    (repeat (first | (apply WL.pure; rfl; rfl; rfl) | (apply EX.thenN) | (apply CW.seq) | (apply CW.region) | (apply CW.block) | (apply CW.skip)))
    refine WL.elemN rfl rfl rfl rfl rfl (hs.at hE) hn' (fun _ => rfl) (fun u q hu => ?_)
    obtain ⟨ro, rc, rfl, hrow⟩ := hu.sl
    have hrl := hrow.len63
    skip
    refine WL.alloc rfl rfl (fun w3 hb8 e3 => ?_)
    have z3 := hb8.lt
    skip
    refine WL.st rfl rfl rfl hb8 rfl rfl (ones_of rfl) (fun w4 hb8 hg4 => ?_)
    have e4 : Ext w w4 := e3.grown hg4 e3.size (fun g hg => by cases hg; exact Nat.le_refl _)
    have hE4 := hE.trans e4
    have hb44 := hb4.ext (e.trans e4)
    have ho := ho.extN e4
    (repeat (first | (apply WL.pure; rfl; rfl; rfl) | (apply WL.nil) | (apply EX.thenN) | (apply CW.seq) | (apply CW.region) | (apply WL.makeFunc; rfl; rfl; rfl; rfl)))
    refine WL.call rfl rfl rfl (containsFunc_int w4 (fun x => part.getD x.toNat 0 == part.getD n 0) (hrow.mono (fun b hb => (hE4.block b hb).trans (hE.block b hb).symm) (fun b hb => Nat.lt_of_lt_of_le hb hE4.size)) (fun w5 hw i hi => ?_)) ?_
    · have hto := hg _ (List.getElem_mem hn') _ (List.getElem_mem hi)
      obtain ⟨to, eto⟩ := Int.eq_ofNat_of_zero_le hto.1
      rw [eto, Int.toNat_natCast]
      exact FnV.mk (cs := [_, _]) (egood1_ok w5 _ _ (hb44.ext hw) (hb8.ext hw) (hp.up (hE4.trans hw)) (by omega) hnp)
    rintro _ w5 ⟨rfl, e5⟩
    have hb45 := hb44.ext e5
    have hb8 := hb8.ext e5
    have ho := ho.extN e5
    have hE5 := hE4.trans e5
    have e5 := (e.trans e4).trans e5
    have hany : (g[n].any fun x => part.getD x.toNat 0 == part.getD n 0) = true ↔ ∃ to ∈ g.getD n [], part.getD to.toNat 0 = part.getD n 0 := by
      rw [List.any_eq_true, erow]; simp
    (repeat (first | (apply WL.nil) | (apply EX.thenN)))
    refine CW.cond rfl (fun h2 => ?_) (fun h2 => ?_)
    · (repeat (first | (apply WL.pure; rfl; rfl; rfl) | (apply CW.region) | (apply WL.ld; rfl; rfl; rfl; assumption; rfl)))
      refine WL.elemI rfl rfl rfl rfl rfl (hp.at hE5) hnp hpn (fun _ => rfl) (fun q => ?_)
      skip
      refine WL.setN (u := .bool true) (yv := true) rfl rfl rfl rfl ho (show c0 < out.length by omega) (fun _ => rfl) (fun _ => rfl) (Rd.mkBool _ _ _) (fun w6 q2 ho6 hg6 => ?_)
      have e6 : Ext w1 w6 := e5.grown hg6 e5.size (fun b hb => (ho.lt b hb).1)
      (repeat (first | (apply WL.add; rfl; rfl; rfl; rfl; omega; omega) | (apply WL.pure; rfl; rfl; rfl) | (apply WL.nil) | (apply EX.thenN) | (apply CW.region) | (apply EX.inN)))
      refine EX.back (n + 1, out.set c0 true) (by repeat (first | exact trivial | refine ⟨rfl, ?_⟩)) ⟨hn', ho6, by simpa using hol, fun c hc => ?_, e6⟩ (by dsimp only; omega)
      dsimp only
      rw [getD_set (by omega), prtP_next, ← hany]
      by_cases e : c0 = c
      · subst e
        rw [if_pos rfl]
        exact ⟨fun _ => .inr ⟨hc0, h2⟩, fun _ => rfl⟩
      · rw [if_neg e, hr c hc]
        exact ⟨.inl, fun h => h.resolve_right (fun ⟨h1, _⟩ => e (by have := hc0.symm.trans h1; omega))⟩
    · (repeat (first | (apply WL.add; rfl; rfl; rfl; rfl; omega; omega) | (apply WL.pure; rfl; rfl; rfl) | (apply WL.nil) | (apply EX.thenN) | (apply CW.region) | (apply EX.inN) | (apply CW.skip)))
      refine EX.back (n + 1, out) (by repeat (first | exact trivial | refine ⟨rfl, ?_⟩)) ⟨hn', ho, hol, fun c hc => ?_, e5⟩ (by dsimp only; omega)
      dsimp only
      rw [hr c hc, prtP_next, ← hany, h2]
      simp
  obtain rfl : n = g.length := by simp at h; omega
  clear h hn
  have hb4 := hb4.ext e
  (repeat (first | (apply WL.pure; rfl; rfl; rfl) | (apply WL.nil) | (apply EX.thenN) | (apply CW.seq) | (apply CW.region) | (apply WL.lenS; rfl; rfl; rfl) | (apply CW.block) | (apply CW.exit) | (apply EX.thenX) | (apply EX.inX)))
  refine CW.loop (S := Nat × List Bool) (fun s => [(0, .pointer (some ⟨sb, 0, none⟩)), (4, .pointer (some ⟨w0.heap.size, 0, none⟩)), (7, sv), (42, .slice so sets.length sc), (43, .int .i64 sets.length), (44, .int .i64 s.1)])
    (fun s w => s.1 ≤ sets.length ∧ Own w w1.heap.size 4 Non sv s.2 ∧ s.2.length = g.length ∧ (∀ c : Nat, c < g.length → (s.2.getD c false = true ↔ prtP g part g.length c ∧ ∀ S ∈ sets.take s.1, ∃ x, x < g.length ∧ S.getD x false = true ∧ part.getD x 0 = c)) ∧ Ext w1 w) (fun s => sets.length - s.1) (0, out) (by repeat (first | exact trivial | refine ⟨rfl, ?_⟩))
    ⟨Nat.zero_le _, ho, hol, fun c hc => by dsimp only; rw [hr c hc]; simp, e⟩ ?_
  clear hr ho hol hE
  rintro ⟨f, out⟩ w3 ⟨hf, ho, hol, hr, e3⟩
  dsimp only at hf ho hol hr ⊢
  have hE := hE1.trans e3
  have hbs3 := hb.ext hE
  (repeat (first | (apply WL.pure; rfl; rfl; rfl) | (apply WL.nil) | (apply EX.thenN) | (apply CW.seq) | (apply CW.region)))
  refine CW.cond rfl (fun h => ?_) (fun h => ?_)
  · have hf' : f < sets.length := by simp at h; omega
    have hSl := hsl _ (List.getElem_mem hf')
    (repeat (first | (apply EX.thenN) | (apply CW.seq) | (apply CW.region) | (apply CW.block) | (apply CW.skip)))
    refine WL.elemN rfl rfl rfl rfl rfl (hfs.at hE) hf' (fun _ => rfl) (fun u q hu => ?_)
    obtain ⟨Fo, Fc, rfl, hF⟩ := hu.sl
    have hFl := hF.len63
    (repeat (first | (apply WL.pure; rfl; rfl; rfl) | (apply WL.nil) | (apply EX.thenN) | (apply CW.seq) | (apply CW.region) | (apply WL.lenS; rfl; rfl; rfl) | (apply WL.fa; rfl; rfl; rfl) | (apply WL.nck; rfl; rfl; rfl) | (apply WL.ld; rfl; rfl; rfl; assumption; rfl)))
    refine WL.make (α := Bool) rfl rfl rfl rfl (by omega) (by unfold maxLen; omega) (fun w4 ho4 hg4 => ?_)
    have e4 : Ext w3 w4 := (Below.refl _ _).grown hg4 (Nat.le_refl _) (fun k h => by cases h)
    have hslt : ∀ b, sv.ownBlock = some b → b < w3.heap.size := fun b hb => (ho.lt b hb).2.1
    (repeat (first | (apply WL.pure; rfl; rfl; rfl) | (apply WL.nil) | (apply EX.thenN) | (apply CW.seq) | (apply CW.region) | (apply WL.lenS; rfl; rfl; rfl) | (apply CW.block)))
    refine CW.loop (S := Nat × List Bool) (fun s => [(0, .pointer (some ⟨sb, 0, none⟩)), (4, .pointer (some ⟨w0.heap.size, 0, none⟩)), (7, sv), (12, .slice (some ⟨w3.heap.size, 0, none⟩) g.length g.length), (42, .slice so sets.length sc), (43, .int .i64 sets.length), (44, .int .i64 f), (54, .slice Fo sets[f].length Fc), (55, .int .i64 sets[f].length), (56, .int .i64 s.1)])
      (fun s w => s.1 ≤ sets[f].length ∧ Own w w3.heap.size 4 Non (.slice (some ⟨w3.heap.size, 0, none⟩) g.length g.length) s.2 ∧ s.2.length = g.length ∧ (∀ c : Nat, c < g.length → (s.2.getD c false = true ↔ ∃ x, x < s.1 ∧ sets[f].getD x false = true ∧ part.getD x 0 = c)) ∧ Ext w3 w) (fun s => sets[f].length - s.1) (0, List.replicate g.length false) (by repeat (first | exact trivial | refine ⟨rfl, ?_⟩))
      ⟨Nat.zero_le _, ho4, by simp, fun c hc => by dsimp only; rw [getD_rep]; simp, e4⟩ ?_
    rintro ⟨i, has⟩ w5 ⟨hi, hoh, hhl, hhas, e5⟩
    dsimp only at hi hoh hhl hhas ⊢
    have hE5 := hE.trans e5
    have hb5 := hb40.ext (e3.trans e5)
    (repeat (first | (apply WL.pure; rfl; rfl; rfl) | (apply WL.nil) | (apply EX.thenN) | (apply CW.seq) | (apply CW.region)))
    refine CW.cond rfl (fun h => ?_) (fun h => ?_)
    · have hi' : i < sets[f].length := by simp at h; omega
      have hip : i < part.length := by omega
      obtain ⟨c0, _, hc0, ec0⟩ := hpc i hip
      have hpc' : part[i] = (c0 : Int) := by rw [← wgetDI hip]; exact ec0
      have hch : c0 < has.length := by omega
      have hF5 : Sl w5 (Old w0) Fo Fc sets[f] := hF.mono (fun b hb => (hE5.block b hb).trans (hE.block b hb).symm) (fun _ h => h)
      (repeat (first | (apply WL.pure; rfl; rfl; rfl) | (apply EX.thenN) | (apply CW.seq) | (apply CW.region) | (apply CW.block) | (apply CW.skip)))
      refine WL.elemB rfl rfl rfl rfl rfl hF5 hi' rfl (fun _ => rfl) (fun q => ?_)
      have hsg : sets[f].getD i false = sets[f][i] := wgetB hi'
      generalize sets[f][i] = is at *
      (repeat (apply WL.pure; rfl; rfl; rfl))
      apply WL.nil
      apply EX.thenN
      have hd := Ext.drew w5
      have hpd := hp.at (hE5.trans hd)
      have hbd := hb5.ext hd
      have hohd := hoh.extN hd
      obtain ⟨ho', hc', hv', hhs⟩ := hohd.slF (F' := fun b => b = w3.heap.size) (fun _ h => h.elim) (fun g hg => by cases hg; rfl)
      obtain ⟨rfl, _, rfl⟩ := Value.slice.inj hv'
      rw [← hhl] at hhs
      have hKK : ∀ (F : Nat → Prop) z, (fun x : World => x = drew w5) z → ∀ b, F b → z.heap[b]? = (drew w5).heap[b]? := fun F z hz b _ => by rw [hz]
      have hK1 : ∀ u, (fun x : World => x = drew w5) u → u.heap[w0.heap.size]? = (drew w5).heap[w0.heap.size]? := fun u hu => by rw [hu]
      have hstep : ∀ (b : Bool), (b = true ↔ has[c0] = true ∨ is = true) → ∀ w', Own w' w3.heap.size 4 Non (.slice (some ⟨w3.heap.size, 0, none⟩) g.length g.length) (has.set c0 b) → Ext w3 w' →
          (i + 1 ≤ sets[f].length ∧ Own w' w3.heap.size 4 Non (.slice (some ⟨w3.heap.size, 0, none⟩) g.length g.length) (has.set c0 b) ∧ (has.set c0 b).length = g.length ∧ (∀ c : Nat, c < g.length → ((has.set c0 b).getD c false = true ↔ ∃ y, y < i + 1 ∧ sets[f].getD y false = true ∧ part.getD y 0 = c)) ∧ Ext w3 w') := by
        intro b hb w' ho he
        refine ⟨hi', ho, by simpa using hhl, fun c hc => ?_, he⟩
        have hsplit : (∃ y, y < i + 1 ∧ sets[f].getD y false = true ∧ part.getD y 0 = c) ↔ (∃ y, y < i ∧ sets[f].getD y false = true ∧ part.getD y 0 = c) ∨ (is = true ∧ c0 = c) := by
          constructor
          · rintro ⟨y, hy1, hy2, hy3⟩
            by_cases e : y = i
            · subst e; exact .inr ⟨by rw [← hsg]; exact hy2, by omega⟩
            · exact .inl ⟨y, by omega, hy2, hy3⟩
          · rintro (⟨y, hy1, hy2⟩ | ⟨hy1, hy2⟩)
            · exact ⟨y, by omega, hy2⟩
            · exact ⟨i, by omega, by rw [hsg]; exact hy1, by omega⟩
        rw [getD_set hch, hsplit]
        by_cases e : c0 = c
        · subst e
          rw [if_pos rfl, hb, ← getB_at hch, hhas _ hc]
          simp
        · rw [if_neg e, hhas c hc]
          simp [e]
      refine CW.drawE (fun x : World => x = drew w5) [(0, true), (1, true), (2, true), (3, true), (4, true), (5, true), (6, true), (7, true), (8, true), (9, true), (10, true), (11, true), (12, true), (13, true), (14, true), (15, true)] 16 mixed (by kernel_rfl) rfl ?_
      (repeat (first | (apply HL.pure; rfl; rfl; rfl; rfl) | (refine HL.ldK (by assumption) rfl rfl rfl rfl (by assumption) rfl ?_)))
      refine HL.elemK (w := drew w5) (F := Old w0) (hKK _) rfl rfl rfl rfl rfl rfl rfl hpd hip (fun _ => rfl) (fun u q hu => ?_)
      obtain rfl := hu.int
      rw [hpc']
      (repeat (first | (apply HL.pure; rfl; rfl; rfl; rfl) | (refine HL.ldK (by assumption) rfl rfl rfl rfl (by assumption) rfl ?_)))
      refine HL.elemK (w := drew w5) (F := Old w0) (hKK _) rfl rfl rfl rfl rfl rfl rfl hpd hip (fun _ => rfl) (fun u q hu => ?_)
      obtain rfl := hu.int
      rw [hpc']
      skip
      rw [← hhl]
      refine HL.elemK (w := drew w5) (F := fun b => b = w3.heap.size) (hKK _) rfl rfl rfl rfl rfl rfl rfl hhs hch (fun _ => rfl) (fun u q hu => ?_)
      obtain rfl := hu.bool
      rw [hhl]
      by_cases hh : has[c0] = true
      · rw [hh]
        (repeat (first | (apply HL.pure; rfl; rfl; rfl; rfl) | (apply HL.pass; rfl; rfl; rfl)))
        refine HL.setTail (yv := true) rfl rfl rfl rfl rfl rfl hohd hch (fun _ => rfl) (fun _ => rfl) (Rd.mkBool _ _ _) (fun w14 q ho14 hg14 => ?_)
        have e14 : Ext w3 w14 := (e5.trans hd).grown hg14 (e5.trans hd).size (fun b hb => (hohd.lt b hb).1)
        (repeat (first | (apply WL.add; rfl; rfl; rfl; rfl; omega; omega) | (apply WL.pure; rfl; rfl; rfl) | (apply WL.nil) | (apply EX.thenN) | (apply CW.region) | (apply EX.inN)))
        exact EX.back (i + 1, has.set c0 true) (by repeat (first | exact trivial | refine ⟨rfl, ?_⟩)) (hstep true (by simp [hh]) _ ho14 e14) (by dsimp only; omega)
      · have hh : has[c0] = false := by simpa using hh
        rw [hh]
        (repeat (apply HL.pure; rfl; rfl; rfl; rfl))
        refine HL.setTail (yv := is) rfl rfl rfl rfl rfl rfl hohd hch (fun _ => rfl) (fun _ => rfl) (Rd.mkBool _ _ _) (fun w14 q ho14 hg14 => ?_)
        have e14 : Ext w3 w14 := (e5.trans hd).grown hg14 (e5.trans hd).size (fun b hb => (hohd.lt b hb).1)
        (repeat (first | (apply WL.add; rfl; rfl; rfl; rfl; omega; omega) | (apply WL.pure; rfl; rfl; rfl) | (apply WL.nil) | (apply EX.thenN) | (apply CW.region) | (apply EX.inN)))
        exact EX.back (i + 1, has.set c0 is) (by repeat (first | exact trivial | refine ⟨rfl, ?_⟩)) (hstep _ (by simp [hh]) _ ho14 e14) (by dsimp only; omega)
    · obtain rfl : i = sets[f].length := by simp at h; omega
      have ho5 := ho.extN e5
      rw [hSl] at hhas
      generalize hhv : Value.slice (some ⟨w3.heap.size, 0, none⟩) g.length g.length = hv at *
      have hhb : hv.ownBlock = some w3.heap.size := by rw [← hhv]; rfl
      (repeat (first | (apply WL.pure; rfl; rfl; rfl) | (apply WL.nil) | (apply EX.thenN) | (apply CW.seq) | (apply CW.region) | (apply CW.block) | (apply CW.exit) | (apply EX.thenX) | (apply EX.inX) | (refine WL.lenO rfl rfl rfl (by assumption) ?_)))
      refine CW.loop (S := Nat × List Bool) (fun s => [(0, .pointer (some ⟨sb, 0, none⟩)), (4, .pointer (some ⟨w0.heap.size, 0, none⟩)), (7, sv), (12, hv), (42, .slice so sets.length sc), (43, .int .i64 sets.length), (44, .int .i64 f), (79, .int .i64 g.length), (80, .int .i64 s.1)])
        (fun s w => s.1 ≤ g.length ∧ Own w w1.heap.size 4 Non sv s.2 ∧ s.2.length = g.length ∧ (∀ c : Nat, c < g.length → s.2.getD c false = if c < s.1 then out.getD c false && has.getD c false else out.getD c false) ∧ Own w w3.heap.size 4 Non hv has ∧ Ext w1 w) (fun s => g.length - s.1) (0, out) ?_
        ⟨Nat.zero_le _, ho5, hol, fun c hc => by dsimp only; rw [if_neg (by omega)], hoh, e3.trans e5⟩ ?_
      · rw [hol]; exact (by repeat (first | exact trivial | refine ⟨rfl, ?_⟩))
      rintro ⟨k, gd'⟩ w14 ⟨hk, hg14, hgl14, hgd14, hoh, e14⟩
      dsimp only at hk hg14 hgl14 hgd14 hoh ⊢
      (repeat (first | (apply WL.pure; rfl; rfl; rfl) | (apply WL.nil) | (apply EX.thenN) | (apply CW.seq) | (apply CW.region)))
      refine CW.cond rfl (fun h => ?_) (fun h => ?_)
      · have hk' : k < g.length := by simp at h; omega
        have hkg : k < gd'.length := by omega
        have hkh : k < has.length := by omega
        have hgk : gd'[k] = out.getD k false := by rw [← wgetB hkg, hgd14 k hk', if_neg (by omega)]
        have hst : ∀ b : Bool, b = (out.getD k false && has.getD k false) → ∀ c : Nat, c < g.length → (gd'.set k b).getD c false = if c < k + 1 then out.getD c false && has.getD c false else out.getD c false := by
          intro b hb c hc
          rw [getD_set hkg]
          by_cases e : k = c
          · subst e; rw [if_pos rfl, if_pos (by omega), hb]
          · rw [if_neg e, hgd14 c hc]
            by_cases h1 : c < k
            · rw [if_pos h1, if_pos (by omega)]
            · rw [if_neg h1, if_neg (by omega)]
        (repeat (first | (apply WL.pure; rfl; rfl; rfl) | (apply WL.nil) | (apply EX.thenN) | (apply CW.seq) | (apply CW.region) | (apply CW.block) | (apply CW.skip)))
        refine WL.elemON rfl rfl rfl rfl rfl hg14 hkg (fun _ => rfl) (fun u q hu => ?_)
        obtain rfl := hu.bool
        rw [hgk]
        by_cases hgt : out.getD k false = true
        · rw [hgt]
          (repeat (apply WL.pure; rfl; rfl; rfl))
          refine WL.elemON rfl rfl rfl rfl rfl hoh hkh (fun _ => rfl) (fun u q hu => ?_)
          obtain rfl := hu.bool
          (repeat (apply WL.pure; rfl; rfl; rfl))
          refine WL.setN (u := .bool has[k]) (yv := has[k]) rfl rfl rfl rfl hg14 hkg (fun _ => rfl) (fun _ => rfl) (Rd.mkBool _ _ _) (fun w15 q ho15 hg15 => ?_)
          have e15 : Ext w1 w15 := e14.grown hg15 e14.size (fun b hb => (hg14.lt b hb).1)
          have hoh15 := hoh.keptN hg15 (fun g hg e => by rw [hhb] at hg; cases hg; exact absurd (hslt _ e.symm) (Nat.lt_irrefl _))
          (repeat (first | (apply WL.add; rfl; rfl; rfl; rfl; omega; omega) | (apply WL.pure; rfl; rfl; rfl) | (apply WL.nil) | (apply EX.thenN) | (apply CW.region) | (apply EX.inN)))
          exact EX.back (k + 1, gd'.set k has[k]) (by repeat (first | exact trivial | refine ⟨rfl, ?_⟩)) ⟨hk', ho15, by simpa using hgl14, hst _ (by rw [hgt, wgetB hkh]; rfl), hoh15, e15⟩ (by dsimp only; omega)
        · have hgt : out.getD k false = false := by simpa using hgt
          rw [hgt]
          (repeat (first | (apply WL.pure; rfl; rfl; rfl) | (apply WL.pass; rfl; rfl)))
          refine WL.setN (u := .bool false) (yv := false) rfl rfl rfl rfl hg14 hkg (fun _ => rfl) (fun _ => rfl) (Rd.mkBool _ _ _) (fun w15 q ho15 hg15 => ?_)
          have e15 : Ext w1 w15 := e14.grown hg15 e14.size (fun b hb => (hg14.lt b hb).1)
          have hoh15 := hoh.keptN hg15 (fun g hg e => by rw [hhb] at hg; cases hg; exact absurd (hslt _ e.symm) (Nat.lt_irrefl _))
          (repeat (first | (apply WL.add; rfl; rfl; rfl; rfl; omega; omega) | (apply WL.pure; rfl; rfl; rfl) | (apply WL.nil) | (apply EX.thenN) | (apply CW.region) | (apply EX.inN)))
          exact EX.back (k + 1, gd'.set k false) (by repeat (first | exact trivial | refine ⟨rfl, ?_⟩)) ⟨hk', ho15, by simpa using hgl14, hst _ (by rw [hgt]; rfl), hoh15, e15⟩ (by dsimp only; omega)
      · obtain rfl : k = g.length := by simp at h; omega
        (repeat (first | (apply WL.add; rfl; rfl; rfl; rfl; omega; omega) | (apply WL.pure; rfl; rfl; rfl) | (apply WL.nil) | (apply EX.thenN) | (apply CW.region) | (apply EX.inN) | (apply CW.exit) | (apply EX.thenX) | (apply EX.inX)))
        refine EX.back (f + 1, gd') (by repeat (first | exact trivial | refine ⟨rfl, ?_⟩)) ⟨hf', hg14, hgl14, fun c hc => ?_, e14⟩ (by dsimp only; omega)
        dsimp only
        rw [hgd14 c hc, if_pos hc, Bool.and_eq_true, hr c hc, hhas c hc, ← List.take_append_getElem hf', and_assoc]
        refine and_congr Iff.rfl ⟨fun ⟨h1, h2⟩ F hF => ?_, fun h1 => ⟨fun F hF => h1 F (List.mem_append.2 (.inl hF)), h1 sets[f] (List.mem_append.2 (.inr (by simp)))⟩⟩
        rcases List.mem_append.1 hF with hF | hF
        · exact h1 F hF
        · rw [List.mem_singleton] at hF; subst hF; exact h2
  · obtain rfl : f = sets.length := by simp at h; omega
    rw [List.take_length] at hr
    obtain ⟨oo, oc, rfl, hos⟩ := ho.oldN.sl
    (repeat (first | (apply WL.pure; rfl; rfl; rfl) | (apply EX.thenN) | (apply CW.seq) | (apply CW.region) | (apply CW.exit) | (apply EX.thenX) | (apply EX.inX)))
    refine WL.call rfl rfl rfl (index_bool w3 true hos) ?_
    rintro _ w4 ⟨rfl, e4⟩
    have hiff : ∀ c : Nat, c < g.length → (out.getD c false = true ↔ GoodC g part sets (c : Int)) := fun c hc => hr c hc
    (repeat (first | (apply WL.pure; rfl; rfl; rfl) | (apply WL.nil) | (apply EX.thenN) | (apply CW.ret)))
    refine EX.ret1 rfl rfl ⟨_, rfl, ?_, hE.trans e4⟩
    rcases idxOf_true hol with ⟨h1, h2⟩ | ⟨c, h1, h2, h3⟩
    · refine .inl ⟨h1, fun c h0 h3 h4 => ?_⟩
      obtain ⟨c, rfl⟩ := Int.eq_ofNat_of_zero_le h0
      have := (hiff c (by omega)).2 h4
      rw [h2] at this
      cases this
    · exact .inr ⟨by omega, by omega, by rw [h1]; exact (hiff c h2).1 h3⟩
end Go.Proofs.YtllpfgcngokhnaaGreat

/-
  Package empty: round, states: walked.
-/
set_option linter.unusedVariables false
set_option linter.unusedSimpArgs false
namespace Go.Proofs.YtllpfgcngokhnaaGreat
open Go.RowKit

theorem Cells.nthE {w : World} {b off : Nat} {cs : List Value} (h : Cells w b off cs) {j : Nat} {v : Value} (hv : cs[j]? = some v) : Cells w b (off + j) [v] := by
  intro k u hu
  cases k with
  | zero => simp at hu; subst hu; exact h j _ hv
  | succ k => simp at hu
theorem Sl.pairAt {w : World} {F : Nat → Prop} {ao : Option Addr} {cap : Nat} {xs : List Pr2} (h : Sl w F ao cap xs) (i : Nat) (hi : i < xs.length) : ∃ b off, ao = some ⟨b, off, none⟩ ∧ F b ∧ Cells w b (off + i * 2 + 0) [.int .i64 xs[i].1] ∧ Cells w b (off + i * 2 + 1) [.int .i64 xs[i].2] := by
  obtain ⟨b, off, e, hF, es, hc, hr⟩ := h.el i hi
  obtain ⟨c1, c2, rfl, h1, h2⟩ := rd_pr hr
  rw [rd_int h1, rd_int h2] at hc
  exact ⟨b, off, e, hF, hc.nthE rfl, hc.nthE rfl⟩
theorem drop_last1 {l : List Int} (h : 0 < l.length) : l.drop (l.length - 1) = [l.getD (l.length - 1) 0] := by
  refine List.ext_getElem (by simp; omega) fun i h1 h2 => ?_
  rw [List.length_drop] at h1
  obtain rfl : i = 0 := by omega
  rw [List.getElem_drop, List.getD_eq_getElem?_getD, List.getElem?_eq_getElem (by omega)]; rfl
/-- on in the part, from each node of a good part -/
theorem good_next {g : Graph} {part : List Int} {sets : List (List Bool)} (hg : okG g) (hp : PartsOK g part) {i : Nat} (hi : i < g.length) (h : GoodC g part sets (part.getD i 0)) : ∃ u : Nat, u < g.length ∧ (u : Int) ∈ g.getD i [] ∧ part.getD u 0 = part.getD i 0 := by
  obtain ⟨⟨u, h1, h2⟩, _⟩ := (good_core' hg hp hi).2 h
  have hu : u < g.length := Eg.lt hg h1
  exact ⟨u, hu, h1, (hp.same u i hu hi).2 ⟨(rch1 hg).2 h2, (rch1 hg).2 (Rc.one h1)⟩⟩
theorem eround1_ok (w : World) (b : Nat) {po : Option Addr} {pc : Nat} {S : List Bool} {k : Nat} (hb : Blk w b 42 [.slice po S.length pc]) (hp : Sl w (Old w) po pc S) (hk : k < S.length) :
    Rt Tryz.prog 82 [.int .i64 (k : Int), .pointer (some ⟨b, 0, none⟩)].toArray w fun v w' => v = .bool (S.getD k false) ∧ Ext w w' := by
  refine Rt.enter2 Tryz.func82 Tryz.ntmps82 rfl rfl ?_
  (repeat (first | (apply WL.pure; rfl; rfl; rfl) | (apply WL.nil) | (apply EX.thenN) | (apply CW.seq) | (apply CW.region) | (apply WL.ld; rfl; rfl; rfl; assumption; rfl)))
  refine WL.elemB rfl rfl rfl rfl rfl hp hk rfl (fun _ => rfl) (fun q => ?_)
  (repeat (first | (apply WL.pure; rfl; rfl; rfl) | (apply WL.nil) | (apply EX.thenN) | (apply CW.ret)))
  exact EX.ret1 rfl rfl ⟨by rw [wgetB hk], Ext.refl w⟩
theorem eround2_ok (w : World) (b : Nat) {po : Option Addr} {pc : Nat} {S : List Bool} {k : Nat} (hb : Blk w b 42 [.slice po S.length pc]) (hp : Sl w (Old w) po pc S) (hk : k < S.length) :
    Rt Tryz.prog 83 [.int .i64 (k : Int), .pointer (some ⟨b, 0, none⟩)].toArray w fun v w' => v = .bool (S.getD k false) ∧ Ext w w' := by
  refine Rt.enter2 Tryz.func83 Tryz.ntmps83 rfl rfl ?_
  (repeat (first | (apply WL.pure; rfl; rfl; rfl) | (apply WL.nil) | (apply EX.thenN) | (apply CW.seq) | (apply CW.region) | (apply WL.ld; rfl; rfl; rfl; assumption; rfl)))
  refine WL.elemB rfl rfl rfl rfl rfl hp hk rfl (fun _ => rfl) (fun q => ?_)
  (repeat (first | (apply WL.pure; rfl; rfl; rfl) | (apply WL.nil) | (apply EX.thenN) | (apply CW.ret)))
  exact EX.ret1 rfl rfl ⟨by rw [wgetB hk], Ext.refl w⟩
theorem eround3_ok (w : World) (b : Nat) {k n : Nat} (hb : Blk w b 3 [.int .i64 (n : Int)]) :
    Rt Tryz.prog 84 [.int .i64 (k : Int), .pointer (some ⟨b, 0, none⟩)].toArray w fun v w' => v = .bool (decide (k = n)) ∧ Ext w w' := by
  refine Rt.enter2 Tryz.func84 Tryz.ntmps84 rfl rfl ?_
  (repeat (first | (apply WL.pure; rfl; rfl; rfl) | (apply WL.nil) | (apply EX.thenN) | (apply CW.seq) | (apply CW.region) | (apply WL.ld; rfl; rfl; rfl; assumption; rfl) | (apply CW.ret)))
  refine EX.ret1 rfl rfl ⟨?_, Ext.refl w⟩
  congr 1
  (rw [Bool.eq_iff_iff]; simp; try omega)
set_option maxHeartbeats 2000000 in
theorem eround_ok (w0 : World) {sb n : Nat} {x0 x1 x2 x3 x4 x5 x6 x7 x8 x9 x10 x12 : Value} {no po so : Option Addr} {nc pc sc : Nat} {g : List (List Int)} {part : List Int} {sets : List (List Bool)}
    (hb : Blk w0 sb 91 [x0, x1, x2, x3, x4, x5, x6, x7, x8, x9, x10, .slice no g.length nc, x12]) (hs : Sl w0 (Old w0) no nc g) (hp : Sl w0 (Old w0) po pc part) (hfs : Sl w0 (Old w0) so sc sets)
    (hg : okG g) (hpt : PartsOK g part) (hl : g.length ≤ 1228800) (hsl : ∀ S ∈ sets, S.length = g.length) (hsn : sets.length ≤ 160) (hrw0 : ∀ r ∈ g, r.length ≤ 1099511627776) (hn : n < g.length) (hgd : GoodC g part sets (part.getD n 0)) :
    Rt Tryz.prog 46 [.pointer (some ⟨sb, 0, none⟩), .int .i64 (n : Int), .slice po part.length pc, .slice so sets.length sc].toArray w0 fun v w' => ∃ out, Own w' w0.heap.size 3 Non v out ∧ RoOK g n sets out ∧ Ext w0 w' := by
  have hpl := hpt.len
  have hms := hfs.len63
  have hnp : n < part.length := by omega
  have h0 := hpt.ge n hnp
  have hpn : part[n] = part.getD n 0 := (wgetDI hnp).symm
  have hsb0 := hb.lt
  have hsg : sets.length * g.length ≤ 160 * 1228800 := Nat.mul_le_mul hsn hl
  refine Rt.enter4 Tryz.func46 Tryz.ntmps46 rfl rfl ?_
  (repeat (first | (apply CW.seq) | (apply CW.region)))
  refine WL.boxB rfl rfl rfl fun w1 hb5 hE1 => ?_
  have hl5 := hb5.lt
  generalize hbn : w0.heap.size = b5 at *
  (repeat (first | (apply WL.pure; rfl; rfl; rfl) | (apply WL.nil) | (apply EX.thenN) | (apply CW.seq) | (apply CW.region) | (apply WL.ld; rfl; rfl; rfl; assumption; rfl)))
  refine WL.elemI rfl rfl rfl rfl rfl (hp.at hE1) hnp hpn (fun _ => rfl) (fun q => ?_)
  generalize hcc : part.getD n 0 = c at *
  (repeat (first | (apply WL.pure; rfl; rfl; rfl) | (apply WL.nil) | (apply EX.thenN) | (apply CW.seq) | (apply CW.region) | (apply WL.ld; rfl; rfl; rfl; assumption; rfl)))
  refine WL.lit (F := Non) (ys := [(n : Int)]) rfl rfl rfl rfl rfl (.cons (Rd.mkInt _ _ _) .nil) (by show 1 * 1 ≤ 16777216; decide) (fun _ h => h.elim) (fun w2 ho2 hg2 => ?_)
  have e2 : Ext w1 w2 := (Below.refl _ _).grown hg2 (Nat.le_refl _) (fun k h => by cases h)
  generalize hov : Value.slice (some ⟨w1.heap.size, 0, none⟩) 1 1 = ov0 at *
  (repeat (first | (apply WL.pure; rfl; rfl; rfl) | (apply WL.nil) | (apply EX.thenN) | (apply CW.seq) | (apply CW.region) | (apply WL.lenS; rfl; rfl; rfl) | (apply CW.block)))
  refine CW.loop (S := Nat × List Int × Value) (fun s => [(0, .pointer (some ⟨sb, 0, none⟩)), (2, .slice po part.length pc), (5, .pointer (some ⟨b5, 0, none⟩)), (9, .int .i64 c), (10, s.2.2), (24, .slice so sets.length sc), (25, .int .i64 sets.length), (26, .int .i64 s.1)])
    (fun s w => s.1 ≤ sets.length ∧ RoI g part n (sets.take s.1) s.2.1 ∧ Own w w1.heap.size 3 Non s.2.2 s.2.1 ∧ Ext w1 w) (fun s => sets.length - s.1) (0, [(n : Int)], ov0) (by repeat (first | exact trivial | refine ⟨rfl, ?_⟩))
    ⟨Nat.zero_le _, by simpa using RoI.start (part := part) hn, ho2, e2⟩ ?_
  clear ho2 hg2 e2
  rintro ⟨i, out, ov⟩ w ⟨hi, hR, ho, e⟩
  dsimp only at hi hR ho e ⊢
  have hE := hE1.trans e
  have hRl := hR.len
  have hRn := hR.ne
  have hlt := fun g hg => ho.lt g hg
  have hbw := hb.ext hE
  have hb5w := hb5.ext e
  have htl : (sets.take i).length ≤ 160 := by rw [List.length_take]; omega
  have htg : (sets.take i).length * g.length ≤ 160 * 1228800 := Nat.mul_le_mul htl hl
  have hol : out.length ≤ 196608001 := by omega
  have hlast0 : out.getD (out.length - 1) 0 ∈ out := by rw [List.getD_eq_getElem?_getD, List.getElem?_eq_getElem (by omega)]; exact List.getElem_mem _
  have hlr := hR.rg _ hlast0
  have hlp := hR.pt _ hlast0
  obtain ⟨la, hla⟩ := Int.eq_ofNat_of_zero_le hlr.1
  rw [hla, Int.toNat_natCast, hcc] at hlp
  have hlag : la < g.length := by omega
  (repeat (first | (apply WL.pure; rfl; rfl; rfl) | (apply WL.nil) | (apply EX.thenN) | (apply CW.seq) | (apply CW.region)))
  refine CW.cond rfl (fun h => ?_) (fun h => ?_)
  · have hi' : i < sets.length := by simp at h; omega
    clear h
    have hSm := List.getElem_mem hi'
    have hSl := hsl _ hSm
    have htk : sets.take (i + 1) = sets.take i ++ [sets[i]] := List.take_succ_eq_append_getElem hi'
    (repeat (first | (apply EX.thenN) | (apply CW.seq) | (apply CW.region) | (apply CW.block) | (apply CW.skip)))
    refine WL.elemN rfl rfl rfl rfl rfl (hfs.mono (w' := w) hE.block (F' := fun b => b < b5) (fun b hb => by rw [← hbn]; exact hb)) hi' (fun _ => rfl) (fun u q hu => ?_)
    obtain ⟨Fo, Fc, rfl, hF⟩ := hu.sl
    clear hu
    generalize sets[i] = S at *
    skip
    refine WL.alloc rfl rfl (fun w3 hb8 e3 => ?_)
    skip
    refine WL.st rfl rfl rfl hb8 rfl rfl (ones_of rfl) (fun w4 hb8 hg4 => ?_)
    have e4 : Ext w w4 := e3.grown hg4 e3.size (fun g hg => by cases hg; exact Nat.le_refl _)
    have hE4 := hE.trans e4
    have ho4 := ho.extN e4
    have hz4 := hE4.size
    have hF4 : ∀ {x : World}, Ext w4 x → Sl x (Old x) Fo Fc S := fun {x} hx => hF.mono (fun b hb => ((hE4.trans hx).block b (by rw [hbn]; exact hb)).trans (hE.block b (by rw [hbn]; exact hb)).symm) (fun b hb => by have := (hE4.trans hx).size; exact (show b < x.heap.size by omega))
    obtain ⟨oo, oc, rfl, hos⟩ := ho4.oldN.sl
    (repeat (first | (apply WL.pure; rfl; rfl; rfl) | (apply WL.nil) | (apply EX.thenN) | (apply CW.seq) | (apply CW.region) | (apply WL.makeFunc; rfl; rfl; rfl; rfl)))
    refine WL.call rfl rfl rfl (containsFunc_int w4 (fun x => S.getD x.toNat false) hos (fun w5 hw j hj => ?_)) ?_
    · have hto := hR.rg _ (List.getElem_mem hj)
      obtain ⟨to, eto⟩ := Int.eq_ofNat_of_zero_le hto.1
      rw [eto, Int.toNat_natCast]
      exact FnV.mk (cs := [_]) (eround1_ok w5 _ (hb8.ext hw) (hF4 hw) (by omega))
    rintro _ w5 ⟨rfl, e5⟩
    have e45 := e4.trans e5
    have hE5 := hE.trans e45
    have e15 := e.trans e45
    have ho5 := ho4.extN e5
    (repeat (first | (apply WL.nil) | (apply EX.thenN)))
    refine CW.cond rfl (fun h2 => ?_) (fun h2 => ?_)
    · (repeat (first | (apply WL.add; rfl; rfl; rfl; rfl; omega; omega) | (apply WL.pure; rfl; rfl; rfl) | (apply WL.nil) | (apply EX.thenN) | (apply CW.region) | (apply CW.exit) | (apply EX.thenX) | (apply EX.inX)))
      refine EX.back (i + 1, out, .slice oo out.length oc) (by repeat (first | exact trivial | refine ⟨rfl, ?_⟩)) ⟨hi', ?_, ho5, e15⟩ (by dsimp only; omega)
      dsimp only
      rw [htk]
      rw [List.any_eq_true] at h2
      exact hR.skip h2
    · have hdl := drop_last1 hRn
      (repeat (first | (apply WL.sub'; rfl; rfl; rfl; rfl; omega; omega) | (apply WL.pure; rfl; rfl; rfl) | (apply EX.thenN) | (apply CW.seq) | (apply CW.region) | (apply WL.lenS; rfl; rfl; rfl) | (apply CW.skip)))
      refine WL.cutLoO (α := Int) (out.length - 1) (by omega) rfl rfl rfl rfl ho5 (by omega) (fun tv2 ho2 hob => ?_)
      rw [hdl] at ho2
      obtain ⟨fo, fc, rfl, hfr⟩ := ho2.oldN.sl
      have hfin := hgd.2 S hSm
      obtain ⟨x, hx, hxs, hxp⟩ := hfin
      (repeat (first | (apply WL.pure; rfl; rfl; rfl) | (apply WL.makeFunc; rfl; rfl; rfl; rfl)))
      refine WL.call rfl rfl rfl (eway_ok w5 (fr := [out.getD (out.length - 1) 0]) (to := fun k => S.getD k false) (hb.ext hE5) (hs.up hE5) hfr (hp.up hE5) hg (fun y hy => by rw [List.mem_singleton] at hy; subst hy; exact hlr) hpl hl (fun z hz k hk => FnV.mk (cs := [_]) (eround2_ok z _ ((hb8.ext e5).ext hz) (hF4 (e5.trans hz)) (by omega)))) ?_
      rintro v6 w6 ⟨r, hor, hw, e6⟩
      have hw : WyOK g [out.getD (out.length - 1) 0] (fun k => S.getD k false) (alB part c) r := by
        rcases hw with ⟨_, hw⟩ | hw
        · exact absurd hw (way_inPart hg hpt h0 hlag hx hlp hxp (by rw [hla]; simp) hxs)
        · exact hw
      have hrl := hw.len
      have hrn := hw.ne
      have hR' := hR.go (S := S) (l := r) (by rw [hcc]; exact h0) (by rw [hcc]; exact hw)
      have ho6 := ho5.extN e6
      have hz5 := e15.size
      (repeat (first | (apply WL.pure; rfl; rfl; rfl) | (apply WL.nil) | (apply EX.thenN) | (apply CW.region)))
      refine WL.cutLoO (α := Int) 1 rfl rfl rfl rfl rfl hor (by omega) (fun v7 ho7 hob7 => ?_)
      obtain ⟨ro, rc, rfl, hrs⟩ := ho7.oldN.sl
      skip
      refine WL.app (F := Non) rfl rfl rfl rfl ho6 hrs.srcN (by have := (e15.trans e6).size; omega) (fun _ h => h.elim) (by unfold maxLen; rw [List.length_drop]; omega) (by rw [List.length_drop]; omega) (fun v8 w8 ho8 hg8 hnb8 => ?_)
      have e8 : Ext w1 w8 := (e15.trans e6).grown hg8 (e15.trans e6).size (fun b hb => (ho6.lt b hb).1)
      (repeat (first | (apply WL.add; rfl; rfl; rfl; rfl; omega; omega) | (apply WL.pure; rfl; rfl; rfl) | (apply WL.nil) | (apply EX.thenN) | (apply CW.region) | (apply EX.inN)))
      exact EX.back (i + 1, out ++ r.drop 1, v8) (by repeat (first | exact trivial | refine ⟨rfl, ?_⟩)) ⟨hi', by dsimp only; rw [htk]; exact hR', ho8, e8⟩ (by dsimp only; omega)
  obtain rfl : i = sets.length := by simp at h; omega
  rw [List.take_length] at hR
  clear h hi htl htg
  obtain ⟨oo, oc, rfl, hos⟩ := ho.oldN.sl
  have hrow : g.getD la [] = g[la] := wgetDG hlag
  (repeat (first | (apply QL.sub'; rfl; rfl; rfl; rfl; omega; omega) | (apply WL.pure; rfl; rfl; rfl) | (apply QL.pure; rfl; rfl; rfl) | (apply WL.nil) | (apply EX.thenN) | (apply CW.seq) | (apply CW.region) | (apply QL.lenS; rfl; rfl; rfl) | (apply QL.fa; rfl; rfl; rfl) | (apply QL.nck; rfl; rfl; rfl) | (apply QL.ld; rfl; rfl; rfl; assumption; rfl) | (apply CW.exit) | (apply EX.thenX) | (apply EX.inX) | (apply CW.draw; exact mixed; kernel_rfl)))
  have holl : out.length - 1 < out.length := by omega
  have hlael : out[out.length - 1] = (la : Int) := by rw [← hla, wgetDI holl]
  rw [show ((out.length : Nat) : Int) - 1 = ((out.length - 1 : Nat) : Int) by omega]
  refine QL.elemI rfl rfl rfl rfl rfl (fun _ h => h) hos holl hlael (fun _ => rfl) (fun q => ?_)
  skip
  refine QL.elemN rfl rfl rfl rfl rfl (fun b hb => by have := hE.size; omega) (hs.mono (w' := w) hE.block (F' := fun b => b < b5) (fun b hb => by rw [← hbn]; exact hb)) hlag (fun _ => rfl) (fun u q hu => ?_)
  obtain ⟨ro, rc, rfl, hrs⟩ := hu.sl
  clear hu
  have hrr : okL g.length g[la] := hg _ (List.getElem_mem hlag)
  have hrwl := hrw0 _ (List.getElem_mem hlag)
  generalize hrw : g[la] = row at *
  have hrl := hrs.len63
  (repeat (first | (apply QL.pure; rfl; rfl; rfl) | (apply QL.lenS; rfl; rfl; rfl)))
  refine QL.nil (fun w2 e2 => ?_)
  have e12 := e.trans e2
  have hE2 := hE.trans e2
  have ho2 := ho.extN e2
  have hz2 := hE2.size
  (repeat (first | (apply EX.thenN) | (apply CW.block)))
  refine CW.loop (S := Nat × List Int × Value) (fun s => [(0, .pointer (some ⟨sb, 0, none⟩)), (2, .slice po part.length pc), (5, .pointer (some ⟨b5, 0, none⟩)), (9, .int .i64 c), (10, .slice oo out.length oc), (14, s.2.2), (59, .slice ro row.length rc), (60, .int .i64 row.length), (61, .int .i64 s.1)])
    (fun s w => s.1 ≤ row.length ∧ s.2.1 = (row.take s.1).filter (fun k => decide (part.getD k.toNat 0 = c)) ∧ Own w w2.heap.size 3 Non s.2.2 s.2.1 ∧ Ext w2 w) (fun s => row.length - s.1) (0, [], .slice none 0 0) (by repeat (first | exact trivial | refine ⟨rfl, ?_⟩))
    ⟨Nat.zero_le _, by simp, Own.nil, Ext.refl _⟩ ?_
  rintro ⟨j, th, tv⟩ w3 ⟨hj, hth, ht, e3⟩
  dsimp only at hj hth ht e3 ⊢
  have hE3 := hE2.trans e3
  have hthl : th.length ≤ j := by
    rw [hth]
    exact Nat.le_trans (List.length_filter_le _ _) (by rw [List.length_take]; omega)
  (repeat (first | (apply WL.pure; rfl; rfl; rfl) | (apply WL.nil) | (apply EX.thenN) | (apply CW.seq) | (apply CW.region)))
  refine CW.cond rfl (fun h => ?_) (fun h => ?_)
  · have hj' : j < row.length := by simp at h; omega
    clear h
    have hkr := hrr _ (List.getElem_mem hj')
    have htk : row.take (j + 1) = row.take j ++ [row[j]] := List.take_succ_eq_append_getElem hj'
    (repeat (first | (apply EX.thenN) | (apply CW.seq) | (apply CW.region) | (apply CW.block) | (apply CW.skip)))
    refine WL.elemI rfl rfl rfl rfl rfl (hrs.mono (w' := w3) (fun b hb => (hE3.block b (by rw [hbn]; exact hb)).trans (hE.block b (by rw [hbn]; exact hb)).symm) (F' := fun b => b < b5) (fun _ h => h)) hj' rfl (fun _ => rfl) (fun q => ?_)
    generalize row[j] = k at *
    obtain ⟨kn, rfl⟩ := Int.eq_ofNat_of_zero_le hkr.1
    have hkp : kn < part.length := by omega
    have hpk : part.getD kn 0 = part[kn] := wgetDI hkp
    (repeat (first | (apply WL.pure; rfl; rfl; rfl) | (apply WL.nil) | (apply EX.thenN) | (apply CW.seq) | (apply CW.region)))
    refine WL.elemI rfl rfl rfl rfl rfl (hp.at hE3) hkp rfl (fun _ => rfl) (fun q => ?_)
    (repeat (first | (apply WL.pure; rfl; rfl; rfl) | (apply WL.nil) | (apply EX.thenN)))
    refine CW.cond rfl (fun h2 => ?_) (fun h2 => ?_)
    · have h2 : part[kn] = c := by simpa using h2
      (repeat (first | (apply WL.pure; rfl; rfl; rfl) | (apply CW.region)))
      refine WL.app1 (F := Non) (yv := (kn : Int)) rfl rfl (fun _ => rfl) rfl rfl (fun _ => rfl) ht (Rd.mkInt _ _ _) e3.size (fun _ h => h.elim) (by decide) (by unfold maxLen; omega) (by omega) (fun tv' w4 p ho4 hg4 hnb4 => ?_)
      (repeat (first | (apply WL.add; rfl; rfl; rfl; rfl; omega; omega) | (apply WL.pure; rfl; rfl; rfl) | (apply WL.nil) | (apply EX.thenN) | (apply CW.region) | (apply EX.inN)))
      refine EX.back (j + 1, th ++ [(kn : Int)], tv') (by repeat (first | exact trivial | refine ⟨rfl, ?_⟩)) ⟨hj', ?_, ho4, e3.grown hg4 e3.size (fun g hg => (ht.lt g hg).1)⟩ (by dsimp only; omega)
      dsimp only
      rw [htk, List.filter_append, ← hth, List.filter_cons, List.filter_nil, Int.toNat_natCast, hpk, decide_eq_true h2, if_pos rfl]
    · have h2 : ¬ part[kn] = c := by simpa using h2
      (repeat (first | (apply WL.add; rfl; rfl; rfl; rfl; omega; omega) | (apply WL.pure; rfl; rfl; rfl) | (apply WL.nil) | (apply EX.thenN) | (apply CW.region) | (apply EX.inN) | (apply CW.skip)))
      refine EX.back (j + 1, th, tv) (by repeat (first | exact trivial | refine ⟨rfl, ?_⟩)) ⟨hj', ?_, ht, e3⟩ (by dsimp only; omega)
      dsimp only
      rw [htk, List.filter_append, ← hth, List.filter_cons, List.filter_nil, Int.toNat_natCast, hpk, decide_eq_false h2, if_neg (by decide), List.append_nil]
  obtain rfl : j = row.length := by simp at h; omega
  rw [List.take_length] at hth
  clear h hj hthl
  have hmem : ∀ x ∈ th, x ∈ row := fun x hx => by rw [hth] at hx; exact (List.mem_filter.1 hx).1
  obtain ⟨tt, tc, rfl, hts⟩ := ht.oldN.sl
  have ho3 := ho2.extN e3
  obtain ⟨u, hu, hue, hup⟩ := good_next hg hpt hlag (sets := sets) (by rw [hlp]; exact hgd)
  rw [hrow] at hue
  have hut : (u : Int) ∈ th := by rw [hth]; exact List.mem_filter.2 ⟨hue, decide_eq_true (by rw [Int.toNat_natCast, hup, hlp])⟩
  have hb53 := hb5w.ext (e2.trans e3)
  (repeat (first | (apply WL.pure; rfl; rfl; rfl) | (apply EX.thenN) | (apply CW.seq) | (apply CW.region) | (apply WL.makeFunc; rfl; rfl; rfl; rfl) | (apply CW.exit) | (apply EX.thenX) | (apply EX.inX)))
  refine WL.call rfl rfl rfl (eway_ok w3 (fr := th) (to := fun k => decide (k = n)) (hb.ext hE3) (hs.up hE3) hts (hp.up hE3) hg (fun y hy => hrr y (hmem y hy)) hpl hl (fun z hz k hk => FnV.mk (cs := [_]) (eround3_ok z _ (hb53.ext hz)))) ?_
  rintro v6 w6 ⟨r, hor, hw, e6⟩
  have hw : WyOK g th (fun k => decide (k = n)) (alB part c) r := by
    rcases hw with ⟨_, hw⟩ | hw
    · exact absurd hw (way_inPart hg hpt h0 hu hn (by rw [hup, hlp]) hcc hut (by simp))
    · exact hw
  have hrl2 := hw.len
  have hrn := hw.ne
  have hRO := hR.close (l := r) (fr := th) (by rw [hla, Int.toNat_natCast, hrow]; exact hmem) hw
  have ho6 := ho3.extN e6
  have e16 := (e12.trans e3).trans e6
  (repeat (first | (apply WL.sub'; rfl; rfl; rfl; rfl; omega; omega) | (apply WL.pure; rfl; rfl; rfl) | (apply WL.nil) | (apply EX.thenN) | (apply CW.seq) | (apply CW.region) | (refine WL.lenO rfl rfl rfl (by assumption) ?_)))
  refine WL.cutHiO (α := Int) (r.length - 1) (by omega) rfl rfl rfl rfl hor (by omega) (fun v7 ho7 hob7 => ?_)
  obtain ⟨ro7, rc7, rfl, hrs7⟩ := ho7.oldN.sl
  skip
  refine WL.app (F := Non) rfl rfl rfl rfl ho6 hrs7.srcN e16.size (fun _ h => h.elim) (by unfold maxLen; rw [List.length_take]; omega) (by rw [List.length_take]; omega) (fun v8 w8 ho8 hg8 hnb8 => ?_)
  have e8 : Ext w1 w8 := e16.grown hg8 e16.size (fun b hb => (ho6.lt b hb).1)
  (repeat (first | (apply WL.pure; rfl; rfl; rfl) | (apply WL.nil) | (apply EX.thenN) | (apply CW.ret)))
  exact EX.ret1 rfl rfl ⟨_, ho8.low (by have := hE1.size; omega), hRO, hE1.trans e8⟩
/-- states along pairs -/
theorem estates_ok (w0 : World) {sb : Nat} {x0 x1 x2 x3 x4 x5 x6 x7 x8 x9 x11 x12 : Value} {lo ao : Option Addr} {lc ac : Nat} {ps : List Pr2} {l : List Int}
    (hb : Blk w0 sb 91 [x0, x1, x2, x3, x4, x5, x6, x7, x8, x9, .slice lo ps.length lc, x11, x12]) (hlo : Sl w0 (Old w0) lo lc ps) (hs : Sl w0 (Old w0) ao ac l) (hl : okL ps.length l) (hll : l.length ≤ 1099511627776) :
    Rt Tryz.prog 47 [.pointer (some ⟨sb, 0, none⟩), .slice ao l.length ac].toArray w0 fun v w' => Own w' w0.heap.size 3 Non v (l.map fun n => (ps.getD n.toNat (0, 0)).1) ∧ Ext w0 w' := by
  refine Rt.enter2 Tryz.func47 Tryz.ntmps47 rfl rfl ?_
  (repeat (first | (apply WL.pure; rfl; rfl; rfl) | (apply WL.nil) | (apply EX.thenN) | (apply CW.seq) | (apply CW.region) | (apply WL.lenS; rfl; rfl; rfl) | (apply CW.block)))
  refine CW.loop (S := Nat × Value) (fun s => [(0, .pointer (some ⟨sb, 0, none⟩)), (5, s.2), (8, .slice ao l.length ac), (9, .int .i64 l.length), (10, .int .i64 s.1)])
    (fun s w => s.1 ≤ l.length ∧ Own w w0.heap.size 3 Non s.2 ((l.take s.1).map fun n => (ps.getD n.toNat (0, 0)).1) ∧ Ext w0 w) (fun s => l.length - s.1) (0, .slice none 0 0) (by repeat (first | exact trivial | refine ⟨rfl, ?_⟩)) ⟨Nat.zero_le _, Own.nil, Ext.refl _⟩ ?_
  rintro ⟨i, ov⟩ w ⟨hi, ho, hE⟩
  dsimp only at hi ho hE ⊢
  have hbw := hb.ext hE
  (repeat (first | (apply WL.pure; rfl; rfl; rfl) | (apply WL.nil) | (apply EX.thenN) | (apply CW.seq) | (apply CW.region)))
  refine CW.cond rfl (fun h => ?_) (fun h => ?_)
  · have hi' : i < l.length := by simp at h; omega
    have hxr := hl _ (List.getElem_mem hi')
    have htk : (l.take (i + 1)).map (fun n => (ps.getD n.toNat (0, 0)).1) = (l.take i).map (fun n => (ps.getD n.toNat (0, 0)).1) ++ [(ps.getD l[i].toNat (0, 0)).1] := by
      rw [List.take_succ_eq_append_getElem hi', List.map_append]; rfl
    have htl : (List.map (fun n : Int => (ps.getD n.toNat (0, 0)).1) (l.take i)).length = i := by rw [List.length_map, List.length_take]; omega
    (repeat (first | (apply EX.thenN) | (apply CW.seq) | (apply CW.region) | (apply CW.block) | (apply CW.skip)))
    refine WL.elemI rfl rfl rfl rfl rfl (hs.up hE) hi' rfl (fun _ => rfl) (fun q => ?_)
    generalize l[i] = x at *
    obtain ⟨k, rfl⟩ := Int.eq_ofNat_of_zero_le hxr.1
    rw [Int.toNat_natCast] at htk
    have hk : k < ps.length := by omega
    have hpg : ps.getD k (0, 0) = ps[k] := by rw [List.getD_eq_getElem?_getD, List.getElem?_eq_getElem hk]; rfl
    rw [hpg] at htk
    obtain ⟨b, off, rfl, hFb, hc1, _⟩ := (hlo.up hE).pairAt k hk
    (repeat (first | (apply WL.pure; rfl; rfl; rfl) | (apply WL.nil) | (apply EX.thenN) | (apply CW.region) | (apply WL.fa; rfl; rfl; rfl) | (apply WL.nck; rfl; rfl; rfl) | (apply WL.ld; rfl; rfl; rfl; assumption; rfl)))
    refine WL.idx (α := Pr2) rfl rfl rfl rfl (by omega) (by omega) ?_
    refine WL.fa rfl rfl rfl ?_
    refine WL.load (α := Int) (F := Non) rfl rfl rfl hc1 rfl ?_
    refine WL.app1 (F := Non) (yv := ps[k].1) rfl rfl (fun _ => rfl) rfl rfl (fun _ => rfl) ho (Rd.mkInt _ _ _) hE.size (fun _ h => h.elim) (by decide) (by unfold maxLen; omega) (by omega) (fun tv' w4 p ho4 hg4 hnb4 => ?_)
    (repeat (first | (apply WL.add; rfl; rfl; rfl; rfl; omega; omega) | (apply WL.pure; rfl; rfl; rfl) | (apply WL.nil) | (apply EX.thenN) | (apply CW.region) | (apply EX.inN)))
    refine EX.back (i + 1, tv') (by repeat (first | exact trivial | refine ⟨rfl, ?_⟩)) ⟨hi', ?_, hE.grown hg4 hE.size (fun g hg => (ho.lt g hg).1)⟩ (by dsimp only; omega)
    dsimp only
    rw [htk]
    exact ho4
  · obtain rfl : i = l.length := by simp at h; omega
    rw [List.take_length] at ho
    (repeat (first | (apply WL.pure; rfl; rfl; rfl) | (apply WL.nil) | (apply EX.thenN) | (apply CW.seq) | (apply CW.region) | (apply CW.exit) | (apply EX.thenX) | (apply EX.inX) | (apply CW.ret)))
    exact EX.ret1 rfl rfl ⟨ho, hE⟩
end Go.Proofs.YtllpfgcngokhnaaGreat

/-
  Drawn regions whose operations, whatever the order, only make new memory: walked in the order of the text. What is known of each value lasts. Over any program.
-/
set_option linter.unusedVariables false
set_option linter.unusedSimpArgs false
namespace Go.Proofs.YtllpfgcngokhnaaGreat
open Go.RowKit

/-- what is known of an operation that has been walked: its number, its slot; its value, or a fact of it (of the value, of who made which block, of the world) -/
inductive ME where
  | kn (i d : Nat) (v : Value)
  | fc (i d : Nat) (Φ : Value → (Nat → Nat) → World → Prop)
def ME.i : ME → Nat | .kn i _ _ => i | .fc i _ _ => i
def ME.d : ME → Nat | .kn _ d _ => d | .fc _ d _ => d
def ME.Φ : ME → Value → (Nat → Nat) → World → Prop | .kn _ _ v => fun u _ _ => u = v | .fc _ _ Φ => Φ
def StM (Φ : Value → (Nat → Nat) → World → Prop) : Prop := ∀ v γ γ' w w', Φ v γ w → Ext w w' → (∀ b, b < w.heap.size → γ' b = γ b) → Φ v γ' w'
def ME.ok (m : ME) : Prop := StM m.Φ
/-- the new blocks are i's -/
def byM (γ : Nat → Nat) (w : World) (i : Nat) : Nat → Nat := fun b => if b < w.heap.size then γ b else i
abbrev Ctx := List ME
def findM : Ctx → Nat → Option ME
  | [], _ => none
  | m :: r, j => match Nat.beq m.i j with | true => some m | false => findM r j
theorem findM_mem : ∀ {Γ : Ctx} {j : Nat} {m : ME}, findM Γ j = some m → m ∈ Γ ∧ m.i = j
  | [], _, _, h => by cases h
  | x :: r, j, m, h => by
    unfold findM at h
    split at h
    · rename_i e
      injection h with h
      subst h
      exact ⟨by simp, Nat.eq_of_beq_eq_true e⟩
    · obtain ⟨h1, h2⟩ := findM_mem h
      exact ⟨by simp [h1], h2⟩
def elN (j : Nat) : List Nat → Bool
  | [] => false
  | x :: r => match Nat.beq x j with | true => true | false => elN j r
/-- the edges that an operation waits for, each once -/
def onsL : List Edge → List Nat
  | [] => []
  | e :: r => match Region.binds .any e with
    | true => (match elN e.on (onsL r) with | true => onsL r | false => e.on :: onsL r)
    | false => onsL r
def ons (o : Oper) : List Nat := onsL o.after.toList
theorem onsL_mem {j : Nat} : ∀ {l : List Edge}, j ∈ onsL l → ∃ e ∈ l, Region.binds .any e = true ∧ e.on = j
  | [], h => by cases h
  | e :: r, h => by
    have up : j ∈ onsL r → ∃ e' ∈ e :: r, Region.binds .any e' = true ∧ e'.on = j := fun h => by
      obtain ⟨e', h1, h2⟩ := onsL_mem h; exact ⟨e', by simp [h1], h2⟩
    unfold onsL at h
    split at h
    · rename_i hb
      split at h
      · exact up h
      · rcases List.mem_cons.1 h with rfl | h
        · exact ⟨e, by simp, hb, rfl⟩
        · exact up h
    · exact up h
theorem ons_mem {o : Oper} {j : Nat} (h : j ∈ ons o) : ∃ e ∈ o.after, Region.binds .any e = true ∧ e.on = j := by
  obtain ⟨e, h1, h2⟩ := onsL_mem h
  exact ⟨e, by simpa using h1, h2⟩
/-- the slots that an operation finds: those of values that are known -/
def kS (Γ : Ctx) (σ : Sg) : List Nat → Sg
  | [] => σ
  | j :: r => match findM Γ j with | some (.kn _ d v) => (d, v) :: kS Γ σ r | _ => kS Γ σ r
/-- .. and of facts -/
def needK (Γ : Ctx) (γ : Nat → Nat) (w : World) (k : Sg → Prop) : List Nat → Sg → Prop
  | [], σ => k σ
  | j :: r, σ => match findM Γ j with
    | some (.kn _ d v) => needK Γ γ w k r ((d, v) :: σ)
    | some (.fc _ d Φ) => ∀ v, Φ v γ w → needK Γ γ w k r ((d, v) :: σ)
    | none => needK Γ γ w k r σ
theorem fr_cons {n : Nat} {σ : Sg} {a : Act} {d : Nat} {v : Value} (h : Fr n σ a) (hv : a.tmps.getD d undef = v) : Fr n ((d, v) :: σ) a := by
  refine ⟨h.size, h.defers, fun t u hu => ?_⟩
  by_cases e : d = t
  · subst e; rw [fnd_cons_eq] at hu; cases hu; exact hv
  · rw [fnd_cons_ne e] at hu; exact h.slot _ _ hu
theorem kS_fr {Γ : Ctx} {n : Nat} {σ : Sg} {a : Act} {γ : Nat → Nat} {w : World} (ha : Fr n σ a) : ∀ (l : List Nat), (∀ j ∈ l, ∀ m ∈ Γ, m.i = j → m.Φ (a.tmps.getD m.d undef) γ w) → Fr n (kS Γ σ l) a
  | [], _ => ha
  | j :: r, h => by
    have ih := kS_fr (γ := γ) (w := w) ha r (fun x hx => h x (by simp [hx]))
    unfold kS
    split
    · rename_i i d v hf
      obtain ⟨h1, h2⟩ := findM_mem hf
      exact fr_cons ih (h j (by simp) _ h1 h2)
    · exact ih
theorem needK_fr {Γ : Ctx} {n : Nat} {a : Act} {γ : Nat → Nat} {w : World} {k : Sg → Prop} : ∀ (l : List Nat) (σ : Sg), needK Γ γ w k l σ → Fr n σ a → (∀ j ∈ l, ∀ m ∈ Γ, m.i = j → m.Φ (a.tmps.getD m.d undef) γ w) → ∃ τ, Fr n τ a ∧ k τ
  | [], σ, h, ha, _ => ⟨σ, ha, h⟩
  | j :: r, σ, h, ha, hΦ => by
    unfold needK at h
    have hr : ∀ x ∈ r, ∀ m ∈ Γ, m.i = x → m.Φ (a.tmps.getD m.d undef) γ w := fun x hx => hΦ x (by simp [hx])
    split at h
    · rename_i i d v hf
      obtain ⟨h1, h2⟩ := findM_mem hf
      exact needK_fr r _ h (fr_cons ha (hΦ j (by simp) _ h1 h2)) hr
    · rename_i i d Φ hf
      obtain ⟨h1, h2⟩ := findM_mem hf
      exact needK_fr r _ (h _ (hΦ j (by simp) _ h1 h2)) (fr_cons ha rfl) hr
    · exact needK_fr r _ h ha hr
/-- behind one operation -/
def AftM (γ : Nat → Nat) (w : World) (i d : Nat) (Φ : Value → (Nat → Nat) → World → Prop) : Exit → Act → World → Prop :=
  fun x a w' => x = .normal ∧ a.defers = [] ∧ Ext w w' ∧ Φ (a.tmps.getD d undef) (byM γ w i) w'
/-- what one operation does, wherever it comes; or it isn't wanted -/
def OB (P : Program) (L : List Oper) (w0 : World) (n : Nat) (σ : Sg) (Γ : Ctx) (o : Oper) (i d : Nat) (Φ : Value → (Nat → Nat) → World → Prop) : Prop :=
  ∀ w γ, Ext w0 w → ∀ a, Fr n σ a → (∀ j ∈ ons o, ∀ m ∈ Γ, m.i = j → m.Φ (a.tmps.getD m.d undef) γ w) →
    (Region.wanted o (yielded L.toArray a.tmps) = true ∧ o.wp P a w (fun a' w' => Ext w w' ∧ ∃ v, a' = a.put (some d) v ∧ Φ v (byM γ w i) w') Never) ∨ (Region.wanted o (yielded L.toArray a.tmps) = false ∧ Φ undef (byM γ w i) w)
/-- the walk -/
def ML (P : Program) (L : List Oper) (w0 : World) (n : Nat) (σ : Sg) (K : Ctx → Prop) : Nat → Ctx → List Oper → Prop
  | _, Γ, [] => K Γ
  | i, Γ, o :: r => ∃ m : ME, m.i = i ∧ o.dst = some m.d ∧ Nat.ble (m.d + 1) n = true ∧ fnd σ m.d = none ∧ m.ok ∧ OB P L w0 n σ Γ o i m.d m.Φ ∧ ML P L w0 n σ K (i + 1) (m :: Γ) r
theorem aft_wp {P : Program} {o : Oper} {i d n : Nat} {L : List Oper} {γ : Nat → Nat} {Φ : Value → (Nat → Nat) → World → Prop} {a : Act} {w : World} {τ : Sg} (hd : o.dst = some d) (hn : Nat.ble (d + 1) n = true) (ha : Fr n τ a) (hw : Region.wanted o (yielded L.toArray a.tmps) = true) (h : WL P L (AftM γ w i d Φ) [o] n τ w) :
    o.wp P a w (fun a' w' => Ext w w' ∧ ∃ v, a' = a.put (some d) v ∧ Φ v (byM γ w i) w') Never := by
  unfold WL at h
  have h2 := h a ha
  simp only [wpList, hw, if_true] at h2
  have hlt : d < n := Nat.le_of_ble_eq_true hn
  have hget : ∀ v, (a.put (some d) v).tmps.getD d undef = v := by
    intro v
    simp [Act.put, Array.getD, ha.size, hlt]
  rcases h2 with h2 | ⟨_, hl⟩
  · unfold Oper.wp at *
    obtain ⟨dst, op, ty, pos, af, g⟩ := o
    simp only at hd
    subst hd
    generalize (execOp a.eval _).run P w = r at *
    cases r with
    | ok k w' =>
      cases k <;> simp only [Oper.upon] at h2 ⊢ <;> first
        | exact ⟨h2.2.2.1, _, rfl, by have := h2.2.2.2; rw [hget] at this; exact this⟩
        | (exfalso; have := h2.2.1; simp [Act.put] at this; done)
        | (refine Calls.mono h2 (fun x w'' he => ?_)
           cases x
           · exact ⟨he.2.2.1, _, rfl, by have := he.2.2.2; rw [hget] at this; exact this⟩
           · exact absurd he.1 (by simp)
           · obtain ⟨_, _, hx⟩ := he; exact absurd hx.1 (by simp))
        | exact Rows.mono h2 (fun v w'' he => ⟨he.2.2.1, _, rfl, by have := he.2.2.2; rw [hget] at this; exact this⟩)
        | exact h2
    | halt x w' => cases x <;> simp only [Oper.upon] at h2 ⊢ <;> first | exact h2 | exact absurd h2.1 (by simp)
  · obtain ⟨_, _, hx⟩ := hl
    exact absurd hx.1 (by simp)
section
variable {P : Program} {L : List Oper} {w0 : World} {n : Nat} {σ : Sg} {K : Ctx → Prop} {i d : Nat} {Γ : Ctx} {r : List Oper} {op : Op} {ty : TypeId} {pos : String} {af : Array Edge} {g : Option (Nat × Bool)}
/-- an operation whose value is known, by the rule for its like -/
theorem ML.q {v : Value} (hg : gd L (kS Γ σ (onsL af.toList)) ⟨some d, op, ty, pos, af, g⟩ = some true) (hn : Nat.ble (d + 1) n = true) (hf : fnd σ d = none)
    (h : ∀ γ w, Ext w0 w → WL P L (AftM γ w i d (fun u _ _ => u = v)) [⟨some d, op, ty, pos, af, g⟩] n (kS Γ σ (onsL af.toList)) w) (hr : ML P L w0 n σ K (i + 1) (.kn i d v :: Γ) r) :
    ML P L w0 n σ K i Γ (⟨some d, op, ty, pos, af, g⟩ :: r) := by
  refine ⟨.kn i d v, rfl, rfl, hn, hf, fun u _ _ w w' h _ _ => h, fun w γ hw a ha hΦ => .inl ?_, hr⟩
  have hk : Fr n (kS Γ σ (onsL af.toList)) a := kS_fr ha _ hΦ
  have hwa := gd_wanted hk hg
  exact ⟨hwa, aft_wp rfl hn hk hwa (h γ w hw)⟩
/-- one that isn't wanted -/
theorem ML.pass (hg : gd L (kS Γ σ (onsL af.toList)) ⟨some d, op, ty, pos, af, g⟩ = some false) (hn : Nat.ble (d + 1) n = true) (hf : fnd σ d = none)
    (hr : ML P L w0 n σ K (i + 1) (.kn i d undef :: Γ) r) : ML P L w0 n σ K i Γ (⟨some d, op, ty, pos, af, g⟩ :: r) := by
  refine ⟨.kn i d undef, rfl, rfl, hn, hf, fun u _ _ w w' h _ _ => h, fun w γ hw a ha hΦ => .inr ?_, hr⟩
  have hk : Fr n (kS Γ σ (onsL af.toList)) a := kS_fr ha _ hΦ
  exact ⟨gd_wanted hk hg, rfl⟩
/-- one of whose value a fact is known -/
theorem ML.fc (Φ : Value → (Nat → Nat) → World → Prop) (hg : gd L (kS Γ σ (onsL af.toList)) ⟨some d, op, ty, pos, af, g⟩ = some true) (hn : Nat.ble (d + 1) n = true) (hf : fnd σ d = none) (hs : StM Φ)
    (h : ∀ γ w, Ext w0 w → needK Γ γ w (fun τ => WL P L (AftM γ w i d Φ) [⟨some d, op, ty, pos, af, g⟩] n τ w) (onsL af.toList) σ) (hr : ML P L w0 n σ K (i + 1) (.fc i d Φ :: Γ) r) :
    ML P L w0 n σ K i Γ (⟨some d, op, ty, pos, af, g⟩ :: r) := by
  refine ⟨.fc i d Φ, rfl, rfl, hn, hf, hs, fun w γ hw a ha hΦ => .inl ?_, hr⟩
  have hk : Fr n (kS Γ σ (onsL af.toList)) a := kS_fr ha _ hΦ
  have hwa := gd_wanted hk hg
  obtain ⟨τ, hτ, hW⟩ := needK_fr _ _ (h γ w hw) ha hΦ
  exact ⟨hwa, aft_wp rfl hn hτ hwa hW⟩
/-- the same, its value known, facts looked at -/
theorem ML.kc {v : Value} (hg : gd L (kS Γ σ (onsL af.toList)) ⟨some d, op, ty, pos, af, g⟩ = some true) (hn : Nat.ble (d + 1) n = true) (hf : fnd σ d = none)
    (h : ∀ γ w, Ext w0 w → needK Γ γ w (fun τ => WL P L (AftM γ w i d (fun u _ _ => u = v)) [⟨some d, op, ty, pos, af, g⟩] n τ w) (onsL af.toList) σ) (hr : ML P L w0 n σ K (i + 1) (.kn i d v :: Γ) r) :
    ML P L w0 n σ K i Γ (⟨some d, op, ty, pos, af, g⟩ :: r) := by
  refine ⟨.kn i d v, rfl, rfl, hn, hf, fun u _ _ w w' h _ _ => h, fun w γ hw a ha hΦ => .inl ?_, hr⟩
  have hk : Fr n (kS Γ σ (onsL af.toList)) a := kS_fr ha _ hΦ
  have hwa := gd_wanted hk hg
  obtain ⟨τ, hτ, hW⟩ := needK_fr _ _ (h γ w hw) ha hΦ
  exact ⟨hwa, aft_wp rfl hn hτ hwa hW⟩
end
/- THE ORDERS -/
/-- all that must come ahead, by marks -/
def mark (L : List Oper) : Nat → List Bool → List Bool
  | 0, m => m
  | i + 1, m => match m.getD i false, L[i]? with
    | true, some o => mark L i ((ons o).foldl (fun m j => m.set j true) m)
    | _, _ => mark L i m
theorem mark_sound {L : List Oper} {S : Nat → Prop} (hS : ∀ i o, S i → L[i]? = some o → ∀ j ∈ ons o, S j) : ∀ (i : Nat) (m : List Bool), (∀ x, m.getD x false = true → S x) → ∀ x, (mark L i m).getD x false = true → S x
  | 0, m, h, x, hx => h x hx
  | i + 1, m, h, x, hx => by
    unfold mark at hx
    split at hx
    · rename_i o hm ho
      refine mark_sound hS i _ ?_ x hx
      have hSi := hS i o (h i hm) ho
      have key : ∀ (l : List Nat) (m : List Bool), (∀ j ∈ l, S j) → (∀ x, m.getD x false = true → S x) → ∀ x, (l.foldl (fun m j => m.set j true) m).getD x false = true → S x := by
        intro l
        induction l with
        | nil => intro m _ h x hx; exact h x hx
        | cons j l ih =>
          intro m hl h x hx
          refine ih _ (fun y hy => hl y (by simp [hy])) (fun y hy => ?_) x hx
          by_cases e : j = y
          · subst e; exact hl _ (by simp)
          · refine h y ?_
            simpa [List.getD_eq_getElem?_getD, List.getElem?_set, e] using hy
      exact key _ _ hSi h
    · exact mark_sound hS i _ h x hx
/-- what the walk gives -/
structure MG (P : Program) (L : List Oper) (w0 : World) (n : Nat) (σ : Sg) (Γ : Ctx) (i : Nat) (o : Oper) : Prop where
  ex : ∃ m ∈ Γ, ∃ Δ : Ctx, (∀ x ∈ Δ, x ∈ Γ) ∧ m.i = i ∧ o.dst = some m.d ∧ Nat.ble (m.d + 1) n = true ∧ fnd σ m.d = none ∧ OB P L w0 n σ Δ o i m.d m.Φ
theorem map_inj {β γ : Type} {f : β → γ} {l : List β} (h : (l.map f).Nodup) : ∀ x ∈ l, ∀ y ∈ l, f x = f y → x = y := fun x hx y hy => nodup_inj h x hx y hy
structure MInv (L : List Oper) (w0 : World) (n : Nat) (σ : Sg) (Γ : Ctx) (k : Nat) (listed : Array Bool) (a : Act) (γ : Nat → Nat) (w : World) : Prop where
  size : listed.size = L.length
  fr : Fr n σ a
  ext : Ext w0 w
  facts : ∀ m ∈ Γ, listed.getD m.i false = true → m.Φ (a.tmps.getD m.d undef) γ w
  closed : ∀ i o, listed.getD i false = true → L[i]? = some o → ∀ j ∈ ons o, listed.getD j false = true
  low : ∀ i, listed.getD i false = true → i < k
theorem listed_set {l : Array Bool} {i j : Nat} : (l.setIfInBounds i true).getD j false = true ↔ (j = i ∧ i < l.size) ∨ l.getD j false = true := by
  simp only [Array.getD_eq_getD_getElem?, Array.getElem?_setIfInBounds]
  by_cases e : i = j
  · subst e
    by_cases h : i < l.size
    · simp [h]
    · simp [h]
  · rw [if_neg e]
    constructor
    · exact fun h => .inr h
    · rintro (⟨h, _⟩ | h)
      · exact absurd h.symm e
      · exact h
theorem MInv.step {L : List Oper} {w0 w w' : World} {n k i : Nat} {σ : Sg} {Γ : Ctx} {listed : Array Bool} {a : Act} {γ : Nat → Nat} {m : ME} {o : Oper} {v : Value} (h : MInv L w0 n σ Γ k listed a γ w) (hm : m ∈ Γ) (hmi : m.i = i) (ho : L[i]? = some o) (hn : Nat.ble (m.d + 1) n = true)
    (hf : fnd σ m.d = none) (hok : ∀ m ∈ Γ, m.ok) (hnd : (Γ.map (·.i)).Nodup) (hdd : ∀ x ∈ Γ, x.i ≠ i → x.d ≠ m.d) (hE : Ext w w') (hΦ : m.Φ v (byM γ w i) w') (hons : ∀ j ∈ ons o, listed.getD j false = true) (hik : i < k) : MInv L w0 n σ Γ k (listed.setIfInBounds i true) (a.put (some m.d) v) (byM γ w i) w' := by
  have hlt : m.d < n := Nat.le_of_ble_eq_true hn
  have hp := h.fr.put (d := some m.d) (v := v) hn
  refine ⟨by simpa using h.size, ⟨hp.size, hp.defers, fun t u hu => hp.slot t u ?_⟩, h.ext.trans hE, fun x hx hl => ?_, fun j o' hj ho' q hq => ?_, fun j hj => ?_⟩
  · show fnd ((m.d, v) :: σ) t = some u
    rw [fnd_cons_ne (fun e => by subst e; rw [hf] at hu; cases hu)]; exact hu
  · rcases listed_set.1 hl with ⟨e, _⟩ | hl
    · obtain rfl : x = m := map_inj hnd x hx m hm (by show x.i = m.i; rw [e, hmi])
      have : (a.put (some x.d) v).tmps.getD x.d undef = v := by simp [Act.put, Array.getD, h.fr.size, hlt]
      rw [this]; exact hΦ
    · by_cases e : x.i = i
      · obtain rfl : x = m := map_inj hnd x hx m hm (by show x.i = m.i; rw [e, hmi])
        have : (a.put (some x.d) v).tmps.getD x.d undef = v := by simp [Act.put, Array.getD, h.fr.size, hlt]
        rw [this]; exact hΦ
      · have hne := hdd x hx e
        have : (a.put (some m.d) v).tmps.getD x.d undef = a.tmps.getD x.d undef := by
          simp only [Act.put, Array.getD_eq_getD_getElem?]
          rw [Array.getElem?_setIfInBounds_ne (fun e => hne e.symm)]
        rw [this]
        exact hok x hx _ _ _ _ _ (h.facts x hx hl) hE (fun b hb => if_pos hb)
  · rcases listed_set.1 hj with ⟨e, _⟩ | hj
    · subst e
      rw [ho] at ho'
      cases ho'
      exact listed_set.2 (.inr (hons q hq))
    · exact listed_set.2 (.inr (h.closed j o' hj ho' q hq))
  · rcases listed_set.1 hj with ⟨e, _⟩ | hj
    · omega
    · exact h.low j hj
theorem onsE {o : Oper} {listed : Array Bool} (h : ∀ e ∈ o.after, Region.binds .any e = true → listed.getD e.on false = true) : ∀ j ∈ ons o, listed.getD j false = true := fun j hj => by
  obtain ⟨e, h1, h2, rfl⟩ := ons_mem hj
  exact h e h1 h2
theorem getD_tf {l : Array Bool} {i : Nat} (hi : i < l.size) : l.getD i true = l.getD i false := by simp [Array.getD_eq_getD_getElem?, hi]
section
variable {P : Program} {Q : Exit → Act → World → Prop} {n : Nat} {σ : Sg} {w : World} {L : List Oper}
theorem ML.nil {w0 : World} {K : Ctx → Prop} {i : Nat} {Γ : Ctx} (h : K Γ) : ML P L w0 n σ K i Γ [] := h
end
end Go.Proofs.YtllpfgcngokhnaaGreat

/-
  Orders of drawn regions, checked with marks in one number: for long regions. Over any program.
-/
set_option linter.unusedVariables false
set_option linter.unusedSimpArgs false
namespace Go.Proofs.YtllpfgcngokhnaaGreat
open Go.RowKit

def bt (m j : Nat) : Bool := Nat.beq (Nat.land (Nat.shiftRight m j) 1) 1
/-- what an operation waits for -/
def emask : List Edge → Nat
  | [] => 0
  | e :: r => match Region.binds .any e with
    | true => Nat.lor (Nat.shiftLeft 1 e.on) (emask r)
    | false => emask r
theorem emask_bit {j : Nat} : ∀ {l : List Edge}, (emask l).testBit j = true ↔ ∃ e ∈ l, Region.binds .any e = true ∧ e.on = j
  | [] => by simp [emask]
  | e :: r => by
    have ih := emask_bit (j := j) (l := r)
    unfold emask
    split
    · rename_i hb
      show ((1 <<< e.on) ||| emask r).testBit j = true ↔ _
      rw [Nat.testBit_or, Bool.or_eq_true, ih]
      have h1 : (1 <<< e.on).testBit j = decide (e.on = j) := by
        rw [Nat.one_shiftLeft, Nat.testBit_two_pow]
      rw [h1]
      simp [hb]
    · rename_i hb
      rw [ih]
      simp [hb]
def sub1 (m M : Nat) : Bool := Nat.beq (Nat.land m M) m
theorem sub1_iff {m M : Nat} : sub1 m M = true ↔ ∀ j, m.testBit j = true → M.testBit j = true := by
  unfold sub1
  rw [Nat.beq_eq]
  show m &&& M = m ↔ _
  constructor
  · intro h j hj
    have := congrArg (fun x => x.testBit j) h
    simp only [Nat.testBit_and, hj, Bool.true_and] at this
    exact this
  · intro h
    refine Nat.eq_of_testBit_eq fun j => ?_
    rw [Nat.testBit_and]
    cases hj : m.testBit j with
    | false => rfl
    | true => rw [h j hj]; rfl
/-- none but i is ready -/
def alone (i M : Nat) : Nat → List Nat → Bool
  | _, [] => true
  | j, m :: r => match Nat.beq j i with
    | true => alone i M (j + 1) r
    | false => match bt M j with
      | true => alone i M (j + 1) r
      | false => match sub1 m M with
        | true => false
        | false => alone i M (j + 1) r
/- WHAT IT SAYS -/
structure Mk1 (L : List Oper) (listed : Array Bool) (M : Nat) : Prop where
  size : listed.size = L.length
  bit : ∀ j, listed.getD j false = M.testBit j
section
variable {L : List Oper} {listed : Array Bool} {M i : Nat}
theorem Mk1.put (h : Mk1 L listed M) (hi : i < L.length) : Mk1 L (listed.setIfInBounds i true) (Nat.lor (Nat.shiftLeft 1 i) M) := by
  refine ⟨by simpa using h.size, fun j => ?_⟩
  have e : Nat.lor (Nat.shiftLeft 1 i) M = (1 <<< i) ||| M := rfl
  rw [e, Nat.testBit_or, Nat.one_shiftLeft, Nat.testBit_two_pow]
  by_cases hj : i = j
  · subst hj
    have := h.size
    simp [Array.getD_eq_getD_getElem?, show i < listed.size by omega]
  · rw [decide_eq_false hj, Bool.false_or, ← h.bit j]
    simp only [Array.getD_eq_getD_getElem?]
    rw [Array.getElem?_setIfInBounds_ne hj]
/-- ready, by marks -/
theorem Mk1.ready (h : Mk1 L listed M) {j : Nat} : j ∈ Region.ready .any L.toArray listed ↔ ∃ o, L[j]? = some o ∧ M.testBit j = false ∧ sub1 (emask o.after.toList) M = true := by
  rw [mem_ready]
  constructor
  · rintro ⟨h0, o, ho, he⟩
    have ho' : L[j]? = some o := by simpa using ho
    have hj : j < L.length := (List.getElem?_eq_some_iff.1 ho').1
    refine ⟨o, ho', ?_, sub1_iff.2 fun k hk => ?_⟩
    · rw [← h.bit, ← h0]
      have := h.size
      simp [Array.getD_eq_getD_getElem?, show j < listed.size by omega]
    · obtain ⟨e, h1, h2, rfl⟩ := emask_bit.1 hk
      rw [← h.bit]
      exact he e (by simpa using h1) h2
  · rintro ⟨o, ho, h0, hs⟩
    have hj : j < L.length := (List.getElem?_eq_some_iff.1 ho).1
    refine ⟨?_, o, by simpa using ho, fun e he hb => ?_⟩
    · have h1 := h.bit j
      rw [h0] at h1
      have := h.size
      simpa [Array.getD_eq_getD_getElem?, show j < listed.size by omega] using h1
    · rw [h.bit]
      exact sub1_iff.1 hs _ (emask_bit.2 ⟨e, by simpa using he, hb, rfl⟩)
end
section
variable {P : Program} {Q : Exit → Act → World → Prop} {n : Nat} {σ : Sg} {w : World} {L : List Oper}
end
end Go.Proofs.YtllpfgcngokhnaaGreat

