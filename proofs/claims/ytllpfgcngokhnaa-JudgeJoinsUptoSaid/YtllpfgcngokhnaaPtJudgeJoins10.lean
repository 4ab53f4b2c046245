import Derived.Test.YtllpfgcngokhnaaPtJudgeJoins9
/-
  Package world: fairParts, Within, Fair: walked.
-/
set_option linter.unusedVariables false
set_option linter.unusedSimpArgs false
namespace Go.Proofs.Ytllpfgcngokhnaa
open Go.RowKit

theorem wgetDI {l : List Int} {j : Nat} (h : j < l.length) : l.getD j 0 = l[j] := by rw [List.getD_eq_getElem?_getD, List.getElem?_eq_getElem h]; rfl
theorem wgetDG {l : List (List Int)} {j : Nat} (h : j < l.length) : l.getD j [] = l[j] := by rw [List.getD_eq_getElem?_getD, List.getElem?_eq_getElem h]; rfl
theorem wgetB {l : List Bool} {j : Nat} (h : j < l.length) : l.getD j false = l[j] := by rw [List.getD_eq_getElem?_getD, List.getElem?_eq_getElem h]; rfl
theorem fp1 (w : World) (b b' : Nat) {po : Option Addr} {pc : Nat} {part : List Int} {to n : Nat} (hb : Blk w b 22 [.slice po part.length pc]) (hb' : Blk w b' 3 [.int .i64 (n : Int)]) (hp : Sl w (Old w) po pc part) (ht : to < part.length) (hn : n < part.length) :
    Rt Try.prog 176 [.int .i64 (to : Int), .pointer (some ⟨b, 0, none⟩), .pointer (some ⟨b', 0, none⟩)].toArray w fun v w' => v = .bool (part.getD to 0 == part.getD n 0) ∧ Ext w w' := by
  refine Rt.enter3 Try.func176 Try.ntmps176 rfl rfl ?_
  (repeat (first | (apply WL.pure; rfl; rfl; rfl) | (apply QL.pure; rfl; rfl; rfl) | (apply WL.nil) | (apply EX.thenN) | (apply CW.seq) | (apply CW.region) | (apply QL.ld; rfl; rfl; rfl; assumption; rfl) | (apply CW.draw; exact mixed; kernel_rfl)))
  refine QL.elemI rfl rfl rfl rfl rfl (fun _ h => h) hp ht rfl (fun _ => rfl) (fun q => ?_)
  (repeat (apply QL.ld; rfl; rfl; rfl; assumption; rfl))
  refine QL.elemI rfl rfl rfl rfl rfl (fun _ h => h) hp hn rfl (fun _ => rfl) (fun q' => ?_)
  (repeat (apply QL.pure; rfl; rfl; rfl))
  refine QL.nil (fun w2 e2 => ?_)
  (repeat (first | (apply EX.thenN) | (apply CW.ret)))
  exact EX.ret1 rfl rfl ⟨by rw [wgetDI ht, wgetDI hn], e2⟩
def prtP (g : Graph) (part : List Int) (n c : Nat) : Prop := ∃ u, u < n ∧ part.getD u 0 = c ∧ ∃ to ∈ g.getD u [], part.getD to.toNat 0 = c
theorem prtP_next {g : Graph} {part : List Int} {n c : Nat} : prtP g part (n + 1) c ↔ prtP g part n c ∨ (part.getD n 0 = c ∧ ∃ to ∈ g.getD n [], part.getD to.toNat 0 = part.getD n 0) := by
  unfold prtP
  constructor
  · rintro ⟨u, h1, h2, h3⟩
    by_cases e : u = n
    · subst e; exact .inr ⟨h2, by rw [h2]; exact h3⟩
    · exact .inl ⟨u, by omega, h2, h3⟩
  · rintro (⟨u, h1, h2⟩ | ⟨h1, h2⟩)
    · exact ⟨u, by omega, h2⟩
    · exact ⟨n, by omega, h1, by rw [← h1]; exact h2⟩
theorem fairParts_ok (w0 : World) {ao po so : Option Addr} {cap pc sc : Nat} {g sets : Graph} {part : List Int} (hs : Sl w0 (Old w0) ao cap g) (hp : Sl w0 (Old w0) po pc part) (hfs : Sl w0 (Old w0) so sc sets) (hg : okG g) (hpt : PartsOK g part) (hl : g.length ≤ 1099511627776)
    (hsets : ∀ F ∈ sets, okL g.length F) :
    Rt Try.prog 139 [.slice ao g.length cap, .slice po part.length pc, .slice so sets.length sc].toArray w0 fun v w' => ∃ out : List Bool, Own w' w0.heap.size 4 Non v out ∧ out.length = g.length ∧
      (∀ c, c < g.length → (out.getD c false = true ↔ prtP g part g.length c ∧ ∀ F ∈ sets, ∃ x ∈ F, part.getD x.toNat 0 = c)) ∧ Ext w0 w' := by
  have hm := hs.len63
  have hmp := hp.len63
  have hms := hfs.len63
  have hpl := hpt.len
  refine Rt.enter3 Try.func139 Try.ntmps139 rfl rfl ?_
  (repeat (first | (apply CW.seq) | (apply CW.region)))
  refine WL.boxB rfl rfl rfl fun w1 hb4 hE1 => ?_
  have hb40 := hb4
  have hl1 := hb4.lt
  (repeat (first | (apply WL.pure; rfl; rfl; rfl) | (apply WL.nil) | (apply EX.thenN) | (apply CW.seq) | (apply CW.region) | (apply WL.lenS; rfl; rfl; rfl)))
  refine WL.make (α := Bool) rfl rfl rfl rfl (by omega) (by unfold maxLen; omega) (fun w2 ho2 hg2 => ?_)
  have e2 : Ext w1 w2 := (Below.refl _ _).grown hg2 (Nat.le_refl _) (fun k h => by cases h)
  generalize hsv : Value.slice (some ⟨w1.heap.size, 0, none⟩) g.length g.length = sv at *
  have hpc : ∀ n, n < part.length → ∃ c0 : Nat, part[n]! = (c0 : Int) ∧ c0 < g.length ∧ part.getD n 0 = (c0 : Int) := fun n hn => by
    have h0 := hpt.ge n hn; have h1 := hpt.lt n hn
    obtain ⟨c0, hc0⟩ := Int.eq_ofNat_of_zero_le h0
    exact ⟨c0, by rw [← hc0, wgetDI hn]; simp [hn], by omega, hc0⟩
  (repeat (first | (apply WL.pure; rfl; rfl; rfl) | (apply WL.nil) | (apply EX.thenN) | (apply CW.seq) | (apply CW.region) | (apply WL.lenS; rfl; rfl; rfl) | (apply CW.block)))
  refine CW.loop (S := Nat × List Bool) (fun s => [(0, .slice ao g.length cap), (2, .slice so sets.length sc), (4, .pointer (some ⟨w0.heap.size, 0, none⟩)), (7, sv), (19, .slice ao g.length cap), (20, .int .i64 g.length), (21, .int .i64 s.1)])
    (fun s w => s.1 ≤ g.length ∧ Own w w1.heap.size 4 Non sv s.2 ∧ s.2.length = g.length ∧ (∀ c, c < g.length → (s.2.getD c false = true ↔ prtP g part s.1 c)) ∧ Ext w1 w) (fun s => g.length - s.1) (0, List.replicate g.length false) (by repeat (first | exact trivial | refine ⟨rfl, ?_⟩))
    ⟨Nat.zero_le _, ho2, by simp, fun c hc => by dsimp only; rw [getD_rep]; unfold prtP; simp, e2⟩ ?_
  rintro ⟨n, out⟩ w ⟨hn, ho, hol, hr, e⟩
  dsimp only at hn ho hol hr ⊢
  have hE := hE1.trans e
  (repeat (first | (apply WL.pure; rfl; rfl; rfl) | (apply WL.nil) | (apply EX.thenN) | (apply CW.seq) | (apply CW.region)))
  refine CW.cond rfl (fun h => ?_) (fun h => ?_)
  · have hn' : n < g.length := by simp at h; omega
    have erow : g.getD n [] = g[n] := wgetDG hn'
    have hnp : n < part.length := by omega
    obtain ⟨c0, _, hc0l, hc0⟩ := hpc n hnp
    have hpn : part[n] = (c0 : Int) := by rw [← wgetDI hnp]; exact hc0
    (repeat (first | (apply WL.pure; rfl; rfl; rfl) | (apply EX.thenN) | (apply CW.seq) | (apply CW.region) | (apply CW.block) | (apply CW.skip)))
    refine WL.elemN rfl rfl rfl rfl rfl (hs.at hE) hn' (fun _ => rfl) (fun u q hu => ?_)
    obtain ⟨ro, rc, rfl, hrow⟩ := hu.sl
    have hrl := hrow.len63
    skip
    refine WL.alloc rfl rfl (fun w3 hb8 e3 => ?_)
    have z3 := hb8.lt
    skip
    refine WL.st rfl rfl rfl hb8 rfl rfl (ones_of rfl) (fun w4 hb8 hg4 => ?_)
    have e4 : Ext w w4 := e3.grown hg4 e3.size (fun g hg => by cases hg; exact Nat.le_refl _)
    have hE4 := hE.trans e4
    have hb44 := hb4.ext (e.trans e4)
    have ho := ho.extN e4
    (repeat (first | (apply WL.pure; rfl; rfl; rfl) | (apply WL.nil) | (apply EX.thenN) | (apply CW.seq) | (apply CW.region) | (apply WL.makeFunc; rfl; rfl; rfl; rfl)))
    refine WL.call rfl rfl rfl (containsFunc_int w4 (fun x => part.getD x.toNat 0 == part.getD n 0) (hrow.mono (fun b hb => (hE4.block b hb).trans (hE.block b hb).symm) (fun b hb => Nat.lt_of_lt_of_le hb hE4.size)) (fun w5 hw i hi => ?_)) ?_
    · have hto := hg _ (List.getElem_mem hn') _ (List.getElem_mem hi)
      obtain ⟨to, eto⟩ := Int.eq_ofNat_of_zero_le hto.1
      rw [eto, Int.toNat_natCast]
      exact FnV.mk (cs := [_, _]) (fp1 w5 _ _ (hb44.ext hw) (hb8.ext hw) (hp.up (hE4.trans hw)) (by omega) hnp)
    rintro _ w5 ⟨rfl, e5⟩
    have hb45 := hb44.ext e5
    have hb8 := hb8.ext e5
    have ho := ho.extN e5
    have hE5 := hE4.trans e5
    have e5 := (e.trans e4).trans e5
    have hany : (g[n].any fun x => part.getD x.toNat 0 == part.getD n 0) = true ↔ ∃ to ∈ g.getD n [], part.getD to.toNat 0 = part.getD n 0 := by
      rw [List.any_eq_true, erow]; simp
    (repeat (first | (apply WL.nil) | (apply EX.thenN)))
    refine CW.cond rfl (fun h2 => ?_) (fun h2 => ?_)
    · (repeat (first | (apply WL.pure; rfl; rfl; rfl) | (apply CW.region) | (apply WL.ld; rfl; rfl; rfl; assumption; rfl)))
      refine WL.elemI rfl rfl rfl rfl rfl (hp.at hE5) hnp hpn (fun _ => rfl) (fun q => ?_)
      skip
      refine WL.setN (u := .bool true) (yv := true) rfl rfl rfl rfl ho (show c0 < out.length by omega) (fun _ => rfl) (fun _ => rfl) (Rd.mkBool _ _ _) (fun w6 q2 ho6 hg6 => ?_)
      have e6 : Ext w1 w6 := e5.grown hg6 e5.size (fun b hb => (ho.lt b hb).1)
      (repeat (first | (apply WL.add; rfl; rfl; rfl; rfl; omega; omega) | (apply WL.pure; rfl; rfl; rfl) | (apply WL.nil) | (apply EX.thenN) | (apply CW.region) | (apply EX.inN)))
      refine EX.back (n + 1, out.set c0 true) (by repeat (first | exact trivial | refine ⟨rfl, ?_⟩)) ⟨hn', ho6, by simpa using hol, fun c hc => ?_, e6⟩ (by dsimp only; omega)
      dsimp only
      rw [getD_set (by omega), prtP_next, ← hany]
      by_cases e : c0 = c
      · subst e
        rw [if_pos rfl]
        exact ⟨fun _ => .inr ⟨hc0, h2⟩, fun _ => rfl⟩
      · rw [if_neg e, hr c hc]
        exact ⟨.inl, fun h => h.resolve_right (fun ⟨h1, _⟩ => e (by have := hc0.symm.trans h1; omega))⟩
    · (repeat (first | (apply WL.add; rfl; rfl; rfl; rfl; omega; omega) | (apply WL.pure; rfl; rfl; rfl) | (apply WL.nil) | (apply EX.thenN) | (apply CW.region) | (apply EX.inN) | (apply CW.skip)))
      refine EX.back (n + 1, out) (by repeat (first | exact trivial | refine ⟨rfl, ?_⟩)) ⟨hn', ho, hol, fun c hc => ?_, e5⟩ (by dsimp only; omega)
      dsimp only
      rw [hr c hc, prtP_next, ← hany, h2]
      simp
  obtain rfl : n = g.length := by simp at h; omega
  clear h hn
  have hb4 := hb4.ext e
  have hsb : ∀ b, sv.ownBlock = some b → b < w.heap.size := fun b hb => (ho.lt b hb).2.1
  (repeat (first | (apply WL.pure; rfl; rfl; rfl) | (apply WL.nil) | (apply EX.thenN) | (apply CW.seq) | (apply CW.region) | (apply WL.lenS; rfl; rfl; rfl) | (apply CW.block) | (apply CW.exit) | (apply EX.thenX) | (apply EX.inX)))
  refine CW.loop (S := Nat × List Bool) (fun s => [(0, .slice ao g.length cap), (4, .pointer (some ⟨w0.heap.size, 0, none⟩)), (7, sv), (36, .slice so sets.length sc), (37, .int .i64 sets.length), (38, .int .i64 s.1)])
    (fun s w => s.1 ≤ sets.length ∧ Own w w1.heap.size 4 Non sv s.2 ∧ s.2.length = g.length ∧ (∀ c, c < g.length → (s.2.getD c false = true ↔ prtP g part g.length c ∧ ∀ F ∈ sets.take s.1, ∃ x ∈ F, part.getD x.toNat 0 = c)) ∧ Ext w1 w) (fun s => sets.length - s.1) (0, out) (by repeat (first | exact trivial | refine ⟨rfl, ?_⟩))
    ⟨Nat.zero_le _, ho, hol, fun c hc => by dsimp only; rw [hr c hc]; simp, e⟩ ?_
  clear hr ho hol hE
  rintro ⟨f, out⟩ w3 ⟨hf, ho, hol, hr, e3⟩
  dsimp only at hf ho hol hr ⊢
  have hE := hE1.trans e3
  (repeat (first | (apply WL.pure; rfl; rfl; rfl) | (apply WL.nil) | (apply EX.thenN) | (apply CW.seq) | (apply CW.region)))
  refine CW.cond rfl (fun h => ?_) (fun h => ?_)
  · have hf' : f < sets.length := by simp at h; omega
    have hFok := hsets _ (List.getElem_mem hf')
    (repeat (first | (apply EX.thenN) | (apply CW.seq) | (apply CW.region) | (apply CW.block) | (apply CW.skip)))
    refine WL.elemN rfl rfl rfl rfl rfl (hfs.at hE) hf' (fun _ => rfl) (fun u q hu => ?_)
    obtain ⟨Fo, Fc, rfl, hF⟩ := hu.sl
    have hFl := hF.len63
    (repeat (first | (apply WL.pure; rfl; rfl; rfl) | (apply WL.nil) | (apply EX.thenN) | (apply CW.seq) | (apply CW.region) | (apply WL.lenS; rfl; rfl; rfl)))
    refine WL.make (α := Bool) rfl rfl rfl rfl (by omega) (by unfold maxLen; omega) (fun w4 ho4 hg4 => ?_)
    have e4 : Ext w3 w4 := (Below.refl _ _).grown hg4 (Nat.le_refl _) (fun k h => by cases h)
    have hslt : ∀ b, sv.ownBlock = some b → b < w3.heap.size := fun b hb => (ho.lt b hb).2.1
    generalize hhv : Value.slice (some ⟨w3.heap.size, 0, none⟩) g.length g.length = hv at *
    have hhb : hv.ownBlock = some w3.heap.size := by rw [← hhv]; rfl
    (repeat (first | (apply WL.pure; rfl; rfl; rfl) | (apply WL.nil) | (apply EX.thenN) | (apply CW.seq) | (apply CW.region) | (apply WL.lenS; rfl; rfl; rfl) | (apply CW.block)))
    refine CW.loop (S := Nat × List Bool) (fun s => [(0, .slice ao g.length cap), (4, .pointer (some ⟨w0.heap.size, 0, none⟩)), (7, sv), (12, hv), (36, .slice so sets.length sc), (37, .int .i64 sets.length), (38, .int .i64 f), (45, .slice Fo sets[f].length Fc), (46, .int .i64 sets[f].length), (47, .int .i64 s.1)])
      (fun s w => s.1 ≤ sets[f].length ∧ Own w w3.heap.size 4 Non hv s.2 ∧ s.2.length = g.length ∧ (∀ c, c < g.length → (s.2.getD c false = true ↔ ∃ x ∈ sets[f].take s.1, part.getD x.toNat 0 = c)) ∧ Ext w3 w) (fun s => sets[f].length - s.1) (0, List.replicate g.length false) (by repeat (first | exact trivial | refine ⟨rfl, ?_⟩))
      ⟨Nat.zero_le _, ho4, by simp, fun c hc => by dsimp only; rw [getD_rep]; simp, e4⟩ ?_
    rintro ⟨i, has⟩ w5 ⟨hi, hoh, hhl, hhas, e5⟩
    dsimp only at hi hoh hhl hhas ⊢
    have hE5 := hE.trans e5
    have hb5 := hb40.ext (e3.trans e5)
    (repeat (first | (apply WL.pure; rfl; rfl; rfl) | (apply WL.nil) | (apply EX.thenN) | (apply CW.seq) | (apply CW.region)))
    refine CW.cond rfl (fun h => ?_) (fun h => ?_)
    · have hi' : i < sets[f].length := by simp at h; omega
      have hto := hFok _ (List.getElem_mem hi')
      obtain ⟨x, ex⟩ := Int.eq_ofNat_of_zero_le hto.1
      have hxp : x < part.length := by omega
      obtain ⟨c0, _, hc0l, hc0⟩ := hpc x hxp
      have hpx : part[x] = (c0 : Int) := by rw [← wgetDI hxp]; exact hc0
      have hF5 : Sl w5 (Old w0) Fo Fc sets[f] := hF.mono (fun b hb => (hE5.block b hb).trans (hE.block b hb).symm) (fun _ h => h)
      (repeat (first | (apply EX.thenN) | (apply CW.seq) | (apply CW.region) | (apply CW.block) | (apply CW.skip)))
      refine WL.elemI rfl rfl rfl rfl rfl hF5 hi' ex (fun _ => rfl) (fun q => ?_)
      (repeat (first | (apply WL.pure; rfl; rfl; rfl) | (apply WL.nil) | (apply EX.thenN) | (apply CW.region) | (apply WL.ld; rfl; rfl; rfl; assumption; rfl)))
      refine WL.elemI rfl rfl rfl rfl rfl (hp.at hE5) hxp hpx (fun _ => rfl) (fun q => ?_)
      skip
      refine WL.setN (u := .bool true) (yv := true) rfl rfl rfl rfl hoh (show c0 < has.length by omega) (fun _ => rfl) (fun _ => rfl) (Rd.mkBool _ _ _) (fun w6 q2 ho6 hg6 => ?_)
      have e6 : Ext w3 w6 := e5.grown hg6 e5.size (fun b hb => (hoh.lt b hb).1)
      (repeat (first | (apply WL.add; rfl; rfl; rfl; rfl; omega; omega) | (apply WL.pure; rfl; rfl; rfl) | (apply WL.nil) | (apply EX.thenN) | (apply CW.region) | (apply EX.inN)))
      refine EX.back (i + 1, has.set c0 true) (by repeat (first | exact trivial | refine ⟨rfl, ?_⟩)) ⟨hi', ho6, by simpa using hhl, fun c hc => ?_, e6⟩ (by dsimp only; omega)
      dsimp only
      rw [getD_set (by omega), ← List.take_append_getElem hi', ex]
      by_cases e : c0 = c
      · subst e
        rw [if_pos rfl]
        exact ⟨fun _ => ⟨(x : Int), by simp, by simpa using hc0⟩, fun _ => rfl⟩
      · rw [if_neg e, hhas c hc]
        constructor
        · rintro ⟨y, h1, h2⟩; exact ⟨y, List.mem_append.2 (.inl h1), h2⟩
        · rintro ⟨y, h1, h2⟩
          rcases List.mem_append.1 h1 with h1 | h1
          · exact ⟨y, h1, h2⟩
          · rw [List.mem_singleton] at h1; subst h1
            rw [Int.toNat_natCast, hc0] at h2; omega
    · obtain rfl : i = sets[f].length := by simp at h; omega
      rw [List.take_length] at hhas
      have ho5 := ho.extN e5
      (repeat (first | (apply WL.pure; rfl; rfl; rfl) | (apply WL.nil) | (apply EX.thenN) | (apply CW.seq) | (apply CW.region) | (apply CW.block) | (apply CW.exit) | (apply EX.thenX) | (apply EX.inX) | (refine WL.lenO rfl rfl rfl (by assumption) ?_)))
      refine CW.loop (S := Nat × List Bool) (fun s => [(0, .slice ao g.length cap), (4, .pointer (some ⟨w0.heap.size, 0, none⟩)), (7, sv), (12, hv), (36, .slice so sets.length sc), (37, .int .i64 sets.length), (38, .int .i64 f), (59, .int .i64 g.length), (60, .int .i64 s.1)])
        (fun s w => s.1 ≤ g.length ∧ Own w w1.heap.size 4 Non sv s.2 ∧ s.2.length = g.length ∧ (∀ c, c < g.length → s.2.getD c false = if c < s.1 then out.getD c false && has.getD c false else out.getD c false) ∧ Own w w3.heap.size 4 Non hv has ∧ Ext w1 w) (fun s => g.length - s.1) (0, out) ?_
        ⟨Nat.zero_le _, ho5, hol, fun c hc => by dsimp only; rw [if_neg (by omega)], hoh, e3.trans e5⟩ ?_
      · rw [hol]; exact (by repeat (first | exact trivial | refine ⟨rfl, ?_⟩))
      rintro ⟨k, gd'⟩ w14 ⟨hk, hg14, hgl14, hgd14, hoh, e14⟩
      dsimp only at hk hg14 hgl14 hgd14 hoh ⊢
      (repeat (first | (apply WL.pure; rfl; rfl; rfl) | (apply WL.nil) | (apply EX.thenN) | (apply CW.seq) | (apply CW.region)))
      refine CW.cond rfl (fun h => ?_) (fun h => ?_)
      · have hk' : k < g.length := by simp at h; omega
        have hkg : k < gd'.length := by omega
        have hkh : k < has.length := by omega
        have hgk : gd'[k] = out.getD k false := by rw [← wgetB hkg, hgd14 k hk', if_neg (by omega)]
        have hst : ∀ b : Bool, b = (out.getD k false && has.getD k false) → ∀ c, c < g.length → (gd'.set k b).getD c false = if c < k + 1 then out.getD c false && has.getD c false else out.getD c false := by
          intro b hb c hc
          rw [getD_set hkg]
          by_cases e : k = c
          · subst e; rw [if_pos rfl, if_pos (by omega), hb]
          · rw [if_neg e, hgd14 c hc]
            by_cases h1 : c < k
            · rw [if_pos h1, if_pos (by omega)]
            · rw [if_neg h1, if_neg (by omega)]
        (repeat (first | (apply WL.pure; rfl; rfl; rfl) | (apply WL.nil) | (apply EX.thenN) | (apply CW.seq) | (apply CW.region) | (apply CW.block) | (apply CW.skip)))
        refine WL.elemON rfl rfl rfl rfl rfl hg14 hkg (fun _ => rfl) (fun u q hu => ?_)
        obtain rfl := hu.bool
        rw [hgk]
        by_cases hgt : out.getD k false = true
        · rw [hgt]
          (repeat (apply WL.pure; rfl; rfl; rfl))
          refine WL.elemON rfl rfl rfl rfl rfl hoh hkh (fun _ => rfl) (fun u q hu => ?_)
          obtain rfl := hu.bool
          (repeat (apply WL.pure; rfl; rfl; rfl))
          refine WL.setN (u := .bool has[k]) (yv := has[k]) rfl rfl rfl rfl hg14 hkg (fun _ => rfl) (fun _ => rfl) (Rd.mkBool _ _ _) (fun w15 q ho15 hg15 => ?_)
          have e15 : Ext w1 w15 := e14.grown hg15 e14.size (fun b hb => (hg14.lt b hb).1)
          have hoh15 := hoh.keptN hg15 (fun g hg e => by rw [hhb] at hg; cases hg; exact absurd (hslt _ e.symm) (Nat.lt_irrefl _))
          (repeat (first | (apply WL.add; rfl; rfl; rfl; rfl; omega; omega) | (apply WL.pure; rfl; rfl; rfl) | (apply WL.nil) | (apply EX.thenN) | (apply CW.region) | (apply EX.inN)))
          exact EX.back (k + 1, gd'.set k has[k]) (by repeat (first | exact trivial | refine ⟨rfl, ?_⟩)) ⟨hk', ho15, by simpa using hgl14, hst _ (by rw [hgt, wgetB hkh]; rfl), hoh15, e15⟩ (by dsimp only; omega)
        · have hgt : out.getD k false = false := by simpa using hgt
          rw [hgt]
          (repeat (first | (apply WL.pure; rfl; rfl; rfl) | (apply WL.pass; rfl; rfl)))
          refine WL.setN (u := .bool false) (yv := false) rfl rfl rfl rfl hg14 hkg (fun _ => rfl) (fun _ => rfl) (Rd.mkBool _ _ _) (fun w15 q ho15 hg15 => ?_)
          have e15 : Ext w1 w15 := e14.grown hg15 e14.size (fun b hb => (hg14.lt b hb).1)
          have hoh15 := hoh.keptN hg15 (fun g hg e => by rw [hhb] at hg; cases hg; exact absurd (hslt _ e.symm) (Nat.lt_irrefl _))
          (repeat (first | (apply WL.add; rfl; rfl; rfl; rfl; omega; omega) | (apply WL.pure; rfl; rfl; rfl) | (apply WL.nil) | (apply EX.thenN) | (apply CW.region) | (apply EX.inN)))
          exact EX.back (k + 1, gd'.set k false) (by repeat (first | exact trivial | refine ⟨rfl, ?_⟩)) ⟨hk', ho15, by simpa using hgl14, hst _ (by rw [hgt]; rfl), hoh15, e15⟩ (by dsimp only; omega)
      · obtain rfl : k = g.length := by simp at h; omega
        (repeat (first | (apply WL.add; rfl; rfl; rfl; rfl; omega; omega) | (apply WL.pure; rfl; rfl; rfl) | (apply WL.nil) | (apply EX.thenN) | (apply CW.region) | (apply EX.inN) | (apply CW.exit) | (apply EX.thenX) | (apply EX.inX)))
        refine EX.back (f + 1, gd') (by repeat (first | exact trivial | refine ⟨rfl, ?_⟩)) ⟨hf', hg14, hgl14, fun c hc => ?_, e14⟩ (by dsimp only; omega)
        dsimp only
        rw [hgd14 c hc, if_pos hc, Bool.and_eq_true, hr c hc, hhas c hc, ← List.take_append_getElem hf', and_assoc]
        refine and_congr Iff.rfl ⟨fun ⟨h1, h2⟩ F hF => ?_, fun h1 => ⟨fun F hF => h1 F (List.mem_append.2 (.inl hF)), h1 sets[f] (List.mem_append.2 (.inr (by simp)))⟩⟩
        rcases List.mem_append.1 hF with hF | hF
        · exact h1 F hF
        · rw [List.mem_singleton] at hF; subst hF; exact h2
  · obtain rfl : f = sets.length := by simp at h; omega
    rw [List.take_length] at hr
    (repeat (first | (apply WL.pure; rfl; rfl; rfl) | (apply WL.nil) | (apply EX.thenN) | (apply CW.seq) | (apply CW.region) | (apply CW.exit) | (apply EX.thenX) | (apply EX.inX) | (apply CW.ret)))
    exact EX.ret1 rfl rfl ⟨out, ho.low (by omega), hol, hr, hE⟩

/- WITHIN SOME STATES -/
def inRow (nx : Graph) (inn : List Bool) (n j : Nat) : List Int := ((nx.getD n []).take j).filter fun to => inn.getD n false && inn.getD to.toNat false
def inFull (nx : Graph) (inn : List Bool) (n : Nat) : List Int := (nx.getD n []).filter fun to => inn.getD n false && inn.getD to.toNat false
def inG (nx : Graph) (inn : List Bool) : Graph := (List.range nx.length).map (inFull nx inn)
theorem inG_len {nx : Graph} {inn : List Bool} : (inG nx inn).length = nx.length := by simp [inG]
theorem inG_row {nx : Graph} {inn : List Bool} {n : Nat} (h : n < nx.length) : (inG nx inn).getD n [] = inFull nx inn n := by
  unfold inG; rw [List.getD_eq_getElem?_getD, List.getElem?_map, List.getElem?_range h]; rfl
theorem inG_edge {nx : Graph} {inn : List Bool} {u v : Nat} : Eg (inG nx inn) u v ↔ Eg nx u v ∧ inn.getD u false = true ∧ inn.getD v false = true := by
  by_cases h : u < nx.length
  · unfold Eg
    rw [inG_row h]
    unfold inFull
    rw [List.mem_filter]
    simp
  · constructor
    · intro k; have := k.lt1; rw [inG_len] at this; exact absurd this h
    · intro k; exact absurd k.1.lt1 h
theorem inG_ok {nx : Graph} {inn : List Bool} (h : okG nx) : okG (inG nx inn) := by
  intro r hr x hx
  rw [inG_len]
  obtain ⟨n, hn, rfl⟩ := List.mem_map.1 hr
  exact okG_row h n x (List.mem_filter.1 hx).1
theorem inG_edges {nx : Graph} {inn : List Bool} : edges (inG nx inn) ≤ edges nx := by
  unfold edges inG
  rw [List.map_map]
  have e : nx.map List.length = (List.range nx.length).map fun k => (nx.getD k []).length := by
    refine List.ext_getElem (by simp) fun i h1 h2 => ?_
    simp at h1; simp [h1]
  rw [e]
  have : ∀ l : List Nat, (l.map (List.length ∘ inFull nx inn)).sum ≤ (l.map fun k => (nx.getD k []).length).sum := by
    intro l
    induction l with
    | nil => exact Nat.le_refl _
    | cons x r ih =>
      simp only [List.map_cons, List.sum_cons]
      have : (List.length ∘ inFull nx inn) x ≤ (nx.getD x []).length := List.length_filter_le _ _
      omega
  exact this _
theorem inRow_next {nx : Graph} {inn : List Bool} {n j : Nat} (h : j < (nx.getD n []).length) : inRow nx inn n (j + 1) = inRow nx inn n j ++ if (inn.getD n false && inn.getD ((nx.getD n [])[j]).toNat false) = true then [(nx.getD n [])[j]] else [] := by
  unfold inRow
  rw [← List.take_append_getElem h, List.filter_append]
  congr 1
  by_cases e : (inn.getD n false && inn.getD ((nx.getD n [])[j]).toNat false) = true
  · rw [if_pos e]; simp only [List.filter_cons, e, List.filter_nil]; rfl
  · rw [if_neg e]; simp only [List.filter_cons, e, List.filter_nil]; rfl
theorem inRow_full {nx : Graph} {inn : List Bool} {n : Nat} : inRow nx inn n (nx.getD n []).length = inFull nx inn n := by unfold inRow inFull; rw [List.take_length]
abbrev setPs (fr : Graph) : List (Nat → Prop) := fr.map fun F x => ((x : Nat) : Int) ∈ F
open Classical in
/-- of each state whether a fair way begins there that stays among some -/
noncomputable def withinB (nx : Graph) (inn : List Bool) (fr : Graph) : List Bool := (List.range nx.length).map fun n => decide (∃ r, r 0 = n ∧ Way8 (Eg (inG nx inn)) (setPs fr) r)
theorem withinB_len {nx : Graph} {inn : List Bool} {fr : Graph} : (withinB nx inn fr).length = nx.length := by simp [withinB]
theorem withinB_iff {nx : Graph} {inn : List Bool} {fr : Graph} {n : Nat} (h : n < nx.length) : (withinB nx inn fr).getD n false = true ↔ ∃ r, r 0 = n ∧ Way8 (Eg (inG nx inn)) (setPs fr) r := by
  unfold withinB; rw [List.getD_eq_getElem?_getD, List.getElem?_map, List.getElem?_range h]; simp
/-- nodes from which one of some is come to, turned round -/
theorem back_iff {g : Graph} (hg : okG g) {ends : List Int} (he : okL g.length ends) {n : Nat} : Rch (turnL g) ends n ↔ ∃ v : Nat, (v : Int) ∈ ends ∧ Rc (Eg g) n v := by
  rw [rch_rc (turnL_ok g) (fun x hx => (he x hx).1)]
  refine exists_congr fun v => and_congr_right fun _ => ?_
  rw [← rch1 (turnL_ok g), rch_turn hg, rch1 hg]
theorem within_spec {nx fr : Graph} {inn good : List Bool} {part ends : List Int} (hok : okG nx) (hP : PartsOK (inG nx inn) part) (hfr : ∀ F ∈ fr, okL nx.length F)
    (hgood : ∀ c, c < nx.length → (good.getD c false = true ↔ prtP (inG nx inn) part nx.length c ∧ ∀ F ∈ fr, ∃ x ∈ F, part.getD x.toNat 0 = c))
    (hends : ∀ v : Nat, (v : Int) ∈ ends ↔ v < nx.length ∧ inn.getD v false = true ∧ good.getD (part.getD v 0).toNat false = true) (hpos : ∀ x ∈ ends, 0 ≤ x) :
    rchB (turnL (inG nx inn)) ends = withinB nx inn fr := by
  have hg := inG_ok (inn := inn) hok
  have he : okL (inG nx inn).length ends := fun x hx => by
    have h0 := hpos x hx
    have := ((hends x.toNat).1 (by rw [show ((x.toNat : Nat) : Int) = x by omega]; exact hx)).1
    rw [inG_len]; omega
  refine List.ext_getElem (by rw [rchB_len, turnL_len, inG_len, withinB_len]) fun n h1 h2 => ?_
  have hn : n < nx.length := by rw [withinB_len] at h2; exact h2
  rw [Bool.eq_iff_iff, rchB_iff h1, back_iff hg he, ← wgetB h2, withinB_iff hn, fair_iff (N := nx.length) (fun u v h => by have := h.lt hg; rwa [inG_len] at this) hn]
  have hcore : ∀ v, v < nx.length → (good.getD (part.getD v 0).toNat false = true ↔ Core (Eg (inG nx inn)) (setPs fr) v) := by
    intro v hv
    have hvp : v < part.length := by rw [hP.len, inG_len]; exact hv
    have k0 := hP.ge v hvp
    have k1 := hP.lt v hvp
    rw [inG_len] at k1
    rw [core_part hg hP (by rw [inG_len]; exact hv), hgood _ (by omega), show (((part.getD v 0).toNat : Nat) : Int) = part.getD v 0 by omega, inG_len]
    unfold prtP
    rw [show (((part.getD v 0).toNat : Nat) : Int) = part.getD v 0 by omega]
    refine and_congr Iff.rfl ⟨fun k P hPm => ?_, fun k F hF => ?_⟩
    · obtain ⟨F, hF, rfl⟩ := List.mem_map.1 hPm
      obtain ⟨x, hx, hxp⟩ := k F hF
      have := hfr F hF x hx
      exact ⟨x.toNat, by omega, by show ((x.toNat : Nat) : Int) ∈ F; rw [show ((x.toNat : Nat) : Int) = x by omega]; exact hx, hxp⟩
    · obtain ⟨x, hx1, hx2, hx3⟩ := k _ (List.mem_map.2 ⟨F, hF, rfl⟩)
      exact ⟨(x : Int), hx2, by simpa using hx3⟩
  constructor
  · rintro ⟨v, hv, hr⟩
    obtain ⟨h3, _, h4⟩ := (hends v).1 hv
    exact ⟨v, hr, (hcore v h3).1 h4⟩
  · rintro ⟨v, hr, hc⟩
    have hc' := hc
    obtain ⟨⟨u, hu, _⟩, _⟩ := hc
    have hv : v < nx.length := by have := hu.lt1; rwa [inG_len] at this
    exact ⟨v, (hends v).2 ⟨hv, (inG_edge.1 hu).2.1, (hcore v hv).2 hc'⟩, hr⟩
theorem edges_row {g : Graph} : ∀ {i : Nat}, (h : i < g.length) → g[i].length ≤ edges g := by
  unfold edges
  induction g with
  | nil => intro i h; cases h
  | cons r g ih =>
    intro i h
    cases i with
    | zero => simp
    | succ i => have := ih (i := i) (by simpa using h); simp at this ⊢; omega
/-- ends so far -/
def endsP (inn good : List Bool) (part : List Int) (n : Nat) : List Int := ((List.range n).filter fun v => inn.getD v false && good.getD (part.getD v 0).toNat false).map fun v : Nat => (v : Int)
theorem endsP_next {inn good : List Bool} {part : List Int} {n : Nat} : endsP inn good part (n + 1) = endsP inn good part n ++ if (inn.getD n false && good.getD (part.getD n 0).toNat false) = true then [(n : Int)] else [] := by
  unfold endsP
  rw [List.range_succ, List.filter_append, List.map_append]
  congr 1
  by_cases e : (inn.getD n false && good.getD (part.getD n 0).toNat false) = true
  · rw [if_pos e]; simp only [List.filter_cons, e, List.filter_nil]; rfl
  · rw [if_neg e]; simp only [List.filter_cons, e, List.filter_nil]; rfl
theorem endsP_len {inn good : List Bool} {part : List Int} {n : Nat} : (endsP inn good part n).length ≤ n := by
  unfold endsP; rw [List.length_map]
  exact Nat.le_trans (List.length_filter_le _ _) (by simp)
theorem endsP_mem {inn good : List Bool} {part : List Int} {n v : Nat} : (v : Int) ∈ endsP inn good part n ↔ v < n ∧ inn.getD v false = true ∧ good.getD (part.getD v 0).toNat false = true := by
  unfold endsP
  rw [List.mem_map]
  constructor
  · rintro ⟨u, h1, h2⟩
    obtain rfl : u = v := by omega
    have := List.mem_filter.1 h1
    rw [List.mem_range, Bool.and_eq_true] at this
    exact this
  · rintro ⟨h1, h2, h3⟩
    exact ⟨v, List.mem_filter.2 ⟨List.mem_range.2 h1, by rw [h2, h3]; rfl⟩, rfl⟩
theorem endsP_pos {inn good : List Bool} {part : List Int} {n : Nat} : ∀ x ∈ endsP inn good part n, 0 ≤ x := by
  intro x hx
  obtain ⟨u, _, rfl⟩ := List.mem_map.1 hx
  omega
theorem Within_ok (w0 : World) {a1 a2 a3 a4 io : Option Addr} {c1 c2 c3 c4 n1 n3 ic : Nat} {nx fr : Graph} {inn : List Bool} (h2 : Sl w0 (Old w0) a2 c2 nx) (h4 : Sl w0 (Old w0) a4 c4 fr) (hin : Sl w0 (Old w0) io ic inn)
    (hok : okG nx) (hfr : ∀ F ∈ fr, okL nx.length F) (hil : inn.length = nx.length) (hn : nx.length ≤ 600) (hT : edges nx ≤ 8589934592) :
    Rt Try.prog 86 [worldV a1 c1 a2 c2 a3 c3 a4 c4 n1 nx.length n3 fr.length, .slice io inn.length ic].toArray w0 fun v w' => Own w' w0.heap.size 4 Non v (withinB nx inn fr) ∧ Ext w0 w' := by
  have hm2 := h2.len63
  refine Rt.enter2 Try.func86 Try.ntmps86 rfl rfl ?_
  (repeat (first | (apply CW.seq) | (apply CW.region)))
  refine WL.boxB rfl rfl rfl fun w1 hb2 e1 => ?_
  have hl1 := hb2.lt
  (repeat (first | (apply WL.pure; rfl; rfl; rfl) | (apply WL.nil) | (apply EX.thenN) | (apply CW.seq) | (apply CW.region) | (apply WL.lenS; rfl; rfl; rfl) | (apply WL.fa; rfl; rfl; rfl) | (apply WL.ld; rfl; rfl; rfl; assumption; rfl)))
  refine WL.make (α := Raw) rfl rfl rfl rfl (by omega) (by unfold maxLen; omega) (fun w2 ho2 hg2 => ?_)
  have e2 : Ext w1 w2 := (Below.refl _ _).grown hg2 (Nat.le_refl _) (fun k h => by cases h)
  generalize hsv : Value.slice (some ⟨w1.heap.size, 0, none⟩) nx.length nx.length = sv at *
  have hN2 : OwnN w2 w1.heap.size 22 3 sv _ (List.replicate nx.length ([] : List Int)) := OwnN.made ho2
  rw [← gridP_start (full := inFull nx inn)] at hN2
  clear ho2 hg2
  have hb20 := hb2
  have hb2 := hb2.ext e2
  (repeat (first | (apply WL.pure; rfl; rfl; rfl) | (apply WL.nil) | (apply EX.thenN) | (apply CW.seq) | (apply CW.region) | (apply WL.lenS; rfl; rfl; rfl) | (apply WL.fa; rfl; rfl; rfl) | (apply WL.ld; rfl; rfl; rfl; assumption; rfl) | (apply CW.block)))
  refine CW.loop (S := Nat × List Raw) (fun s => [(1, .slice io inn.length ic), (2, .pointer (some ⟨w0.heap.size, 0, none⟩)), (5, sv), (23, .slice a2 nx.length c2), (24, .int .i64 nx.length), (25, .int .i64 s.1)])
    (fun s w => s.1 ≤ nx.length ∧ OwnN w w1.heap.size 22 3 sv s.2 (gridP nx.length (inFull nx inn) s.1 []) ∧ Ext w1 w) (fun s => nx.length - s.1) (0, _) (by repeat (first | exact trivial | refine ⟨rfl, ?_⟩)) ⟨Nat.zero_le _, hN2, e2⟩ ?_
  rintro ⟨n, vs⟩ w3 ⟨hn3, hN, e3⟩
  dsimp only at hn3 hN ⊢
  have hE3 := e1.trans e3
  have hb23 := hb20.ext e3
  (repeat (first | (apply WL.pure; rfl; rfl; rfl) | (apply WL.nil) | (apply EX.thenN) | (apply CW.seq) | (apply CW.region)))
  refine CW.cond rfl (fun h => ?_) (fun h => ?_)
  · have hn' : n < nx.length := by simp at h; omega
    have hni : n < inn.length := by omega
    have erow : nx.getD n [] = nx[n] := wgetDG hn'
    have hre := edges_row hn'
    (repeat (first | (apply WL.pure; rfl; rfl; rfl) | (apply EX.thenN) | (apply CW.seq) | (apply CW.region) | (apply CW.block) | (apply CW.skip)))
    refine WL.elemN rfl rfl rfl rfl rfl (h2.at hE3) hn' (fun _ => rfl) (fun u q hu => ?_)
    obtain ⟨ro, rc, rfl, hrow⟩ := hu.sl
    have hrl := hrow.len63
    (repeat (first | (apply WL.pure; rfl; rfl; rfl) | (apply WL.nil) | (apply EX.thenN) | (apply CW.seq) | (apply CW.region) | (apply WL.lenS; rfl; rfl; rfl) | (apply CW.block)))
    refine CW.loop (S := Nat × List Raw) (fun s => [(1, .slice io inn.length ic), (2, .pointer (some ⟨w0.heap.size, 0, none⟩)), (5, sv), (6, .int .i64 n), (23, .slice a2 nx.length c2), (24, .int .i64 nx.length), (25, .int .i64 n), (30, .slice ro nx[n].length rc), (31, .int .i64 nx[n].length), (32, .int .i64 s.1)])
      (fun s w => s.1 ≤ nx[n].length ∧ OwnN w w1.heap.size 22 3 sv s.2 (gridP nx.length (inFull nx inn) n (inRow nx inn n s.1)) ∧ Ext w1 w) (fun s => nx[n].length - s.1) (0, vs) (by repeat (first | exact trivial | refine ⟨rfl, ?_⟩)) ⟨Nat.zero_le _, by show OwnN _ _ _ _ _ _ (gridP _ _ _ (inRow nx inn n 0)); rw [show inRow nx inn n 0 = [] by simp [inRow]]; exact hN, e3⟩ ?_
    rintro ⟨j, vs⟩ w4 ⟨hj, hN, e4⟩
    dsimp only at hj hN ⊢
    have hE4 := e1.trans e4
    have hrow4 : Sl w4 (Old w0) ro rc nx[n] := hrow.mono (fun b hb => (hE4.block b hb).trans (hE3.block b hb).symm) (fun _ h => h)
    have hin4 := hin.at hE4
    (repeat (first | (apply WL.pure; rfl; rfl; rfl) | (apply WL.nil) | (apply EX.thenN) | (apply CW.seq) | (apply CW.region)))
    refine CW.cond rfl (fun h => ?_) (fun h => ?_)
    · have hj' : j < nx[n].length := by simp at h; omega
      have hto := hok _ (List.getElem_mem hn') _ (List.getElem_mem hj')
      obtain ⟨to, eto⟩ := Int.eq_ofNat_of_zero_le hto.1
      have hti : to < inn.length := by omega
      have hnext := inRow_next (nx := nx) (inn := inn) (n := n) (j := j) (by rw [erow]; exact hj')
      have hgj : (nx.getD n [])[j]'(by rw [erow]; exact hj') = (to : Int) := by simp only [erow]; exact eto
      rw [hgj, Int.toNat_natCast] at hnext
      have hlen := hN.len
      rw [gridP_len] at hlen
      have hnv : n < vs.length := by omega
      have hin' := hN.inn n hnv (by rw [gridP_len]; exact hn')
      rw [gridP_get hn'] at hin'
      have hil2 : (inRow nx inn n j).length ≤ nx[n].length := by
        unfold inRow; rw [erow]
        exact Nat.le_trans (List.length_filter_le _ _) (by rw [List.length_take]; omega)
      (repeat (first | (apply EX.thenN) | (apply CW.seq) | (apply CW.region) | (apply CW.block) | (apply CW.skip)))
      refine WL.elemI rfl rfl rfl rfl rfl hrow4 hj' eto (fun _ => rfl) (fun q => ?_)
      (repeat (first | (apply WL.pure; rfl; rfl; rfl) | (apply WL.nil) | (apply EX.thenN) | (apply CW.seq) | (apply CW.region)))
      refine WL.elemB rfl rfl rfl rfl rfl hin4 hni (wgetB hni).symm (fun _ => rfl) (fun q => ?_)
      have skipc : (inn.getD n false && inn.getD to false) = false → OwnN w4 w1.heap.size 22 3 sv vs (gridP nx.length (inFull nx inn) n (inRow nx inn n (j + 1))) := fun h => by
        rw [hnext, if_neg (by rw [h]; simp), List.append_nil]; exact hN
      by_cases hc1 : inn.getD n false = true
      · rw [hc1]
        (repeat (apply WL.pure; rfl; rfl; rfl))
        refine WL.elemB rfl rfl rfl rfl rfl hin4 hti (wgetB hti).symm (fun _ => rfl) (fun q => ?_)
        by_cases hc2 : inn.getD to false = true
        · rw [hc2]
          rw [if_pos (by rw [hc1, hc2]; rfl)] at hnext
          (repeat (first | (apply WL.pure; rfl; rfl; rfl) | (apply WL.nil) | (apply EX.thenN) | (apply CW.region) | (apply CW.condT; rfl)))
          refine WL.elemON rfl rfl rfl rfl rfl hN.out hnv (fun _ => rfl) (fun u q hu => ?_)
          obtain ⟨rfl, _⟩ := hu.raw
          (repeat (apply WL.pure; rfl; rfl; rfl))
          refine WL.app1 (F := Non) (yv := (to : Int)) rfl rfl (fun _ => rfl) rfl rfl (fun _ => rfl) hin' (Rd.mkInt _ _ _) e4.size (fun _ h => h.elim) (by decide) (by unfold maxLen; omega) (by omega) (fun v' w5 p ho5 hg5 hnb => ?_)
          rw [← hnext] at ho5
          have hmid := hN.mid hnv hg5
          skip
          refine WL.setN (u := v') (yv := ⟨v'⟩) rfl rfl rfl rfl hmid hnv (fun _ => rfl) (fun _ => rfl) (Rd.mkRaw _ _ _ ?_) (fun w6 q ho6 hg6 => ?_)
          · obtain ⟨a, b, rfl⟩ := ho5.val; rfl
          have hN6 := hN.set hnv ho5 hg5 hnb ho6 hg6
          rw [gridP_set hn'] at hN6
          have e6 : Ext w1 w6 := (e4.grown hg5 e4.size (fun b hb => (hin'.lt b hb).1)).grown hg6 (Nat.le_trans e4.size hg5.size) (fun b hb => (hN.out.lt b hb).1)
          (repeat (first | (apply WL.add; rfl; rfl; rfl; rfl; omega; omega) | (apply WL.pure; rfl; rfl; rfl) | (apply WL.nil) | (apply EX.thenN) | (apply CW.region) | (apply EX.inN)))
          exact EX.back (j + 1, vs.set n ⟨v'⟩) (by repeat (first | exact trivial | refine ⟨rfl, ?_⟩)) ⟨hj', hN6, e6⟩ (by dsimp only; omega)
        · have hc2 : inn.getD to false = false := by simpa using hc2
          rw [hc2]
          (repeat (first | (apply WL.add; rfl; rfl; rfl; rfl; omega; omega) | (apply WL.pure; rfl; rfl; rfl) | (apply WL.nil) | (apply EX.thenN) | (apply CW.region) | (apply EX.inN) | (apply CW.condF; rfl) | (apply CW.skip)))
          exact EX.back (j + 1, vs) (by repeat (first | exact trivial | refine ⟨rfl, ?_⟩)) ⟨hj', skipc (by rw [hc2, Bool.and_false]), e4⟩ (by dsimp only; omega)
      · have hc1 : inn.getD n false = false := by simpa using hc1
        rw [hc1]
        (repeat (first | (apply WL.add; rfl; rfl; rfl; rfl; omega; omega) | (apply WL.pure; rfl; rfl; rfl) | (apply WL.nil) | (apply EX.thenN) | (apply CW.region) | (apply WL.pass; rfl; rfl) | (apply EX.inN) | (apply CW.condF; rfl) | (apply CW.skip)))
        exact EX.back (j + 1, vs) (by repeat (first | exact trivial | refine ⟨rfl, ?_⟩)) ⟨hj', skipc (by rw [hc1, Bool.false_and]), e4⟩ (by dsimp only; omega)
    · obtain rfl : j = nx[n].length := by simp at h; omega
      (repeat (first | (apply WL.add; rfl; rfl; rfl; rfl; omega; omega) | (apply WL.pure; rfl; rfl; rfl) | (apply WL.nil) | (apply EX.thenN) | (apply CW.region) | (apply EX.inN) | (apply CW.exit) | (apply EX.thenX) | (apply EX.inX)))
      refine EX.back (n + 1, vs) (by repeat (first | exact trivial | refine ⟨rfl, ?_⟩)) ⟨hn', ?_, e4⟩ (by dsimp only; omega)
      rw [← erow, inRow_full, gridP_next] at hN
      exact hN
  obtain rfl : n = nx.length := by simp at h; omega
  rw [gridP_done] at hN
  have hgG : (List.range nx.length).map (inFull nx inn) = inG nx inn := rfl
  rw [hgG] at hN
  have hgl := inG_len (nx := nx) (inn := inn)
  have hgok := inG_ok (inn := inn) hok
  have hge := inG_edges (nx := nx) (inn := inn)
  have hb2 : Blk w3 w0.heap.size 26 (cellsL (worldV a1 c1 a2 c2 a3 c3 a4 c4 n1 nx.length n3 fr.length)) := hb20.ext e3
  obtain ⟨go, gc, rfl, hg⟩ := hN.old.sl
  have hfr' : ∀ F ∈ fr, okL (inG nx inn).length F := by rw [hgl]; exact hfr
  clear h hn3 hN
  (repeat (first | (apply WL.pure; rfl; rfl; rfl) | (apply EX.thenN) | (apply CW.seq) | (apply CW.region) | (apply CW.exit) | (apply EX.thenX) | (apply EX.inX)))
  refine WL.call rfl rfl rfl (Split_ok w3 hg (fun _ h => h) hgok (by omega)) ?_
  rintro _ w4 ⟨part, hop, hP, e4⟩
  have hE4 := hE3.trans e4
  have hb2 := hb2.ext e4
  have hg := hg.up e4
  obtain ⟨po, pc, rfl, hp⟩ := hop.oldN.sl
  have hpl := hP.len
  (repeat (first | (apply WL.pure; rfl; rfl; rfl) | (apply WL.nil) | (apply EX.thenN) | (apply CW.seq) | (apply CW.region) | (apply WL.fa; rfl; rfl; rfl) | (apply WL.ld; rfl; rfl; rfl; assumption; rfl)))
  refine WL.call rfl rfl rfl (fairParts_ok w4 hg hp (h4.up hE4) hgok hP (by omega) hfr') ?_
  rintro _ w5 ⟨good, hgo, hgol, hgood, e5⟩
  have hE5 := hE4.trans e5
  have hp := hp.up e5
  have hg := hg.up e5
  obtain ⟨oo, oc, rfl, hgd⟩ := hgo.oldN.sl
  clear hgo hop e4 e5 hb2
  rw [hgl] at hgood
  (repeat (first | (apply WL.pure; rfl; rfl; rfl) | (apply WL.nil) | (apply EX.thenN) | (apply CW.seq) | (apply CW.region) | (apply WL.lenS; rfl; rfl; rfl) | (apply CW.block)))
  refine CW.loop (S := Nat × Value) (fun s => [(1, .slice io inn.length ic), (5, .slice go (inG nx inn).length gc), (10, .slice po part.length pc), (11, .slice oo good.length oc), (12, s.2), (66, .int .i64 (inG nx inn).length), (67, .int .i64 s.1)])
    (fun s w => s.1 ≤ nx.length ∧ Own w w5.heap.size 3 Non s.2 (endsP inn good part s.1) ∧ Ext w5 w) (fun s => nx.length - s.1) (0, .slice none 0 0) (by repeat (first | exact trivial | refine ⟨rfl, ?_⟩)) ⟨Nat.zero_le _, Own.nil, Ext.refl _⟩ ?_
  rintro ⟨n, ev⟩ w6 ⟨hn6, hoe, e6⟩
  dsimp only at hn6 hoe ⊢
  have hel := endsP_len (inn := inn) (good := good) (part := part) (n := n)
  (repeat (first | (apply WL.pure; rfl; rfl; rfl) | (apply WL.nil) | (apply EX.thenN) | (apply CW.seq) | (apply CW.region)))
  refine CW.cond rfl (fun h => ?_) (fun h => ?_)
  · have hn' : n < nx.length := by simp at h; omega
    have hni : n < inn.length := by omega
    have hnp : n < part.length := by omega
    have h0 := hP.ge n hnp
    have h1 := hP.lt n hnp
    obtain ⟨c0, hc0⟩ := Int.eq_ofNat_of_zero_le h0
    have hpn : part[n] = (c0 : Int) := by rw [← wgetDI hnp]; exact hc0
    have hcg : c0 < good.length := by omega
    have hnext := endsP_next (inn := inn) (good := good) (part := part) (n := n)
    rw [hc0, Int.toNat_natCast] at hnext
    (repeat (first | (apply WL.pure; rfl; rfl; rfl) | (apply WL.nil) | (apply EX.thenN) | (apply CW.seq) | (apply CW.region) | (apply CW.block) | (apply CW.skip)))
    refine WL.elemB rfl rfl rfl rfl rfl (hin.at (hE5.trans e6)) hni (wgetB hni).symm (fun _ => rfl) (fun q => ?_)
    by_cases hc1 : inn.getD n false = true
    · rw [hc1]
      (repeat (apply WL.pure; rfl; rfl; rfl))
      refine WL.elemI rfl rfl rfl rfl rfl (hp.up e6) hnp hpn (fun _ => rfl) (fun q => ?_)
      skip
      refine WL.elemB rfl rfl rfl rfl rfl (hgd.up e6) hcg (wgetB hcg).symm (fun _ => rfl) (fun q => ?_)
      by_cases hc2 : good.getD c0 false = true
      · rw [hc2]
        rw [if_pos (by rw [hc1, hc2]; rfl)] at hnext
        (repeat (first | (apply WL.pure; rfl; rfl; rfl) | (apply WL.nil) | (apply EX.thenN) | (apply CW.region) | (apply CW.condT; rfl)))
        refine WL.app1 (F := Non) (yv := (n : Int)) rfl rfl (fun _ => rfl) rfl rfl (fun _ => rfl) hoe (Rd.mkInt _ _ _) e6.size (fun _ h => h.elim) (by decide) (by unfold maxLen; omega) (by omega) (fun v' w7 p ho7 hg7 hnb => ?_)
        rw [← hnext] at ho7
        have e7 : Ext w5 w7 := e6.grown hg7 e6.size (fun b hb => (hoe.lt b hb).1)
        (repeat (first | (apply WL.add; rfl; rfl; rfl; rfl; omega; omega) | (apply WL.pure; rfl; rfl; rfl) | (apply WL.nil) | (apply EX.thenN) | (apply CW.region) | (apply EX.inN)))
        exact EX.back (n + 1, v') (by repeat (first | exact trivial | refine ⟨rfl, ?_⟩)) ⟨hn', ho7, e7⟩ (by dsimp only; omega)
      · have hc2 : good.getD c0 false = false := by simpa using hc2
        rw [hc2]
        rw [if_neg (by rw [hc2]; simp), List.append_nil] at hnext
        (repeat (first | (apply WL.add; rfl; rfl; rfl; rfl; omega; omega) | (apply WL.pure; rfl; rfl; rfl) | (apply WL.nil) | (apply EX.thenN) | (apply CW.region) | (apply EX.inN) | (apply CW.condF; rfl) | (apply CW.skip)))
        exact EX.back (n + 1, ev) (by repeat (first | exact trivial | refine ⟨rfl, ?_⟩)) ⟨hn', by dsimp only; rw [hnext]; exact hoe, e6⟩ (by dsimp only; omega)
    · have hc1 : inn.getD n false = false := by simpa using hc1
      rw [hc1]
      rw [if_neg (by rw [hc1]; simp), List.append_nil] at hnext
      (repeat (first | (apply WL.add; rfl; rfl; rfl; rfl; omega; omega) | (apply WL.pure; rfl; rfl; rfl) | (apply WL.nil) | (apply EX.thenN) | (apply CW.region) | (apply WL.pass; rfl; rfl) | (apply EX.inN) | (apply CW.condF; rfl) | (apply CW.skip)))
      exact EX.back (n + 1, ev) (by repeat (first | exact trivial | refine ⟨rfl, ?_⟩)) ⟨hn', by dsimp only; rw [hnext]; exact hoe, e6⟩ (by dsimp only; omega)
  obtain rfl : n = nx.length := by simp at h; omega
  obtain ⟨eo, ec, rfl, hes⟩ := hoe.oldN.sl
  have hE6 := hE5.trans e6
  have hch : chkG (inG nx inn) = 0 := chkG_of hgok (by omega)
  (repeat (first | (apply WL.pure; rfl; rfl; rfl) | (apply EX.thenN) | (apply CW.seq) | (apply CW.region) | (apply CW.exit) | (apply EX.thenX) | (apply EX.inX)))
  refine WL.call rfl rfl rfl (Turn_ok w6 (hg.up e6)) ?_
  rintro _ w7 ⟨tv, ts, rfl, hTN, e7⟩
  unfold turnF at hTN
  rw [if_pos hch] at hTN
  obtain ⟨to, tc, rfl, htu⟩ := hTN.old.sl
  have htl := turnL_len (inG nx inn)
  have hte := edges_turn (inG nx inn)
  have hte2 : (inG nx inn).length * ((inG nx inn).length + 1) ≤ 600 * 601 := Nat.mul_le_mul (by omega) (by omega)
  have hspec := within_spec (ends := endsP inn good part nx.length) hok hP hfr hgood (fun v => endsP_mem) endsP_pos
  have heok : okL (turnL (inG nx inn)).length (endsP inn good part nx.length) := fun x hx => by
    have h0 := endsP_pos x hx
    have := (endsP_mem (v := x.toNat)).1 (by rw [show ((x.toNat : Nat) : Int) = x by omega]; exact hx)
    rw [htl, hgl]; omega
  have hrF := reachF_of (turnL_ok (inG nx inn)) heok (by omega)
  (repeat (first | (apply WL.pure; rfl; rfl; rfl) | (apply WL.nil) | (apply EX.thenN) | (apply CW.seq) | (apply CW.region)))
  refine WL.call rfl rfl rfl (Reach_ok w7 htu (hes.up e7) (by omega)) ?_
  rw [hrF, hspec]
  rintro _ w8 ⟨rv, rfl, hor, e8⟩
  (repeat (first | (apply WL.pure; rfl; rfl; rfl) | (apply WL.nil) | (apply EX.thenN) | (apply CW.seq) | (apply CW.region) | (apply CW.ret)))
  exact EX.ret1 rfl rfl ⟨hor.low (Nat.le_trans hE6.size e7.size), (hE6.trans e7).trans e8⟩
end Go.Proofs.Ytllpfgcngokhnaa

/-
  Package empty: good: walked.
-/
set_option linter.unusedVariables false
set_option linter.unusedSimpArgs false
namespace Go.Proofs.Ytllpfgcngokhnaa
open Go.RowKit

theorem idxOf_true {l : List Bool} {k : Nat} (hl : l.length = k) : (idxOf (fun y => true == y) l = -1 ∧ ∀ c, l.getD c false = false) ∨ ∃ c : Nat, idxOf (fun y => true == y) l = (c : Int) ∧ c < k ∧ l.getD c false = true := by
  unfold idxOf
  cases h : l.findIdx? fun y => true == y with
  | none =>
    refine .inl ⟨rfl, fun c => ?_⟩
    rw [List.findIdx?_eq_none_iff] at h
    rw [List.getD_eq_getElem?_getD]
    cases e : l[c]? with
    | none => rfl
    | some b =>
      have := h b (List.mem_of_getElem? e)
      cases b <;> simp_all
  | some i =>
    obtain ⟨h1, h2, h3⟩ := List.findIdx?_eq_some_iff_getElem.1 h
    refine .inr ⟨i, rfl, by omega, ?_⟩
    rw [wgetB h1]
    simpa using h2.symm
theorem egood1_ok (w : World) (b b' : Nat) {po : Option Addr} {pc : Nat} {part : List Int} {to n : Nat} (hb : Blk w b 22 [.slice po part.length pc]) (hb' : Blk w b' 3 [.int .i64 (n : Int)]) (hp : Sl w (Old w) po pc part) (ht : to < part.length) (hn : n < part.length) :
    Rt Try.prog 97 [.int .i64 (to : Int), .pointer (some ⟨b, 0, none⟩), .pointer (some ⟨b', 0, none⟩)].toArray w fun v w' => v = .bool (part.getD to 0 == part.getD n 0) ∧ Ext w w' := by
  refine Rt.enter3 Try.func97 Try.ntmps97 rfl rfl ?_
  (repeat (first | (apply WL.pure; rfl; rfl; rfl) | (apply QL.pure; rfl; rfl; rfl) | (apply WL.nil) | (apply EX.thenN) | (apply CW.seq) | (apply CW.region) | (apply QL.ld; rfl; rfl; rfl; assumption; rfl) | (apply CW.draw; exact mixed; kernel_rfl)))
  refine QL.elemI rfl rfl rfl rfl rfl (fun _ h => h) hp ht rfl (fun _ => rfl) (fun q => ?_)
  (repeat (apply QL.ld; rfl; rfl; rfl; assumption; rfl))
  refine QL.elemI rfl rfl rfl rfl rfl (fun _ h => h) hp hn rfl (fun _ => rfl) (fun q' => ?_)
  (repeat (apply QL.pure; rfl; rfl; rfl))
  refine QL.nil (fun w2 e2 => ?_)
  (repeat (first | (apply EX.thenN) | (apply CW.ret)))
  exact EX.ret1 rfl rfl ⟨by rw [wgetDI ht, wgetDI hn], e2⟩
set_option maxHeartbeats 2000000 in
theorem egood_ok (w0 : World) {sb N : Nat} {x0 x1 x2 x3 x4 x5 x6 x7 x8 x9 x12 : Value} {lo no po so : Option Addr} {lc nc pc sc : Nat} {g : List (List Int)} {part : List Int} {sets : List (List Bool)}
    (hb : Blk w0 sb 90 [x0, x1, x2, x3, x4, x5, x6, x7, x8, x9, .slice lo N lc, .slice no g.length nc, x12]) (hN : N = g.length) (hs : Sl w0 (Old w0) no nc g) (hp : Sl w0 (Old w0) po pc part) (hfs : Sl w0 (Old w0) so sc sets)
    (hg : okG g) (hpt : PartsOK g part) (hl : g.length ≤ 1228800) (hsl : ∀ S ∈ sets, S.length = g.length) :
    Rt Try.prog 47 [.pointer (some ⟨sb, 0, none⟩), .slice po part.length pc, .slice so sets.length sc].toArray w0 fun v w' => ∃ p : Int, v = .int .i64 p ∧ ((p = -1 ∧ ∀ c : Int, 0 ≤ c → c < g.length → ¬ GoodC g part sets c) ∨ (0 ≤ p ∧ p < g.length ∧ GoodC g part sets p)) ∧ Ext w0 w' := by
  have hm := hs.len63
  have hmp := hp.len63
  have hms := hfs.len63
  have hpl := hpt.len
  subst hN
  have hsb0 := hb.lt
  refine Rt.enter3 Try.func47 Try.ntmps47 rfl rfl ?_
  (repeat (first | (apply CW.seq) | (apply CW.region)))
  refine WL.boxB rfl rfl rfl fun w1 hb4 hE1 => ?_
  have hb40 := hb4
  have hl1 := hb4.lt
  have hb1 := hb.ext hE1
  (repeat (first | (apply WL.pure; rfl; rfl; rfl) | (apply WL.nil) | (apply EX.thenN) | (apply CW.seq) | (apply CW.region) | (apply WL.lenS; rfl; rfl; rfl) | (apply WL.fa; rfl; rfl; rfl) | (apply WL.nck; rfl; rfl; rfl) | (apply WL.ld; rfl; rfl; rfl; assumption; rfl)))
  refine WL.make (α := Bool) rfl rfl rfl rfl (by omega) (by unfold maxLen; omega) (fun w2 ho2 hg2 => ?_)
  have e2 : Ext w1 w2 := (Below.refl _ _).grown hg2 (Nat.le_refl _) (fun k h => by cases h)
  generalize hsv : Value.slice (some ⟨w1.heap.size, 0, none⟩) g.length g.length = sv at *
  have hpc : ∀ n, n < part.length → ∃ c0 : Nat, part[n]! = (c0 : Int) ∧ c0 < g.length ∧ part.getD n 0 = (c0 : Int) := fun n hn => by
    have h0 := hpt.ge n hn; have h1 := hpt.lt n hn
    obtain ⟨c0, hc0⟩ := Int.eq_ofNat_of_zero_le h0
    exact ⟨c0, by rw [← hc0, wgetDI hn]; simp [hn], by omega, hc0⟩
  have hb2 := hb1.ext e2
  (repeat (first | (apply WL.pure; rfl; rfl; rfl) | (apply WL.nil) | (apply EX.thenN) | (apply CW.seq) | (apply CW.region) | (apply WL.lenS; rfl; rfl; rfl) | (apply WL.fa; rfl; rfl; rfl) | (apply WL.nck; rfl; rfl; rfl) | (apply WL.ld; rfl; rfl; rfl; assumption; rfl) | (apply CW.block)))
  refine CW.loop (S := Nat × List Bool) (fun s => [(0, .pointer (some ⟨sb, 0, none⟩)), (2, .slice so sets.length sc), (4, .pointer (some ⟨w0.heap.size, 0, none⟩)), (7, sv), (25, .slice no g.length nc), (26, .int .i64 g.length), (27, .int .i64 s.1)])
    (fun s w => s.1 ≤ g.length ∧ Own w w1.heap.size 4 Non sv s.2 ∧ s.2.length = g.length ∧ (∀ c : Nat, c < g.length → (s.2.getD c false = true ↔ prtP g part s.1 c)) ∧ Ext w1 w) (fun s => g.length - s.1) (0, List.replicate g.length false) (by repeat (first | exact trivial | refine ⟨rfl, ?_⟩))
    ⟨Nat.zero_le _, ho2, by simp, fun c hc => by dsimp only; rw [getD_rep]; unfold prtP; simp, e2⟩ ?_
  rintro ⟨n, out⟩ w ⟨hn, ho, hol, hr, e⟩
  dsimp only at hn ho hol hr ⊢
  have hE := hE1.trans e
  (repeat (first | (apply WL.pure; rfl; rfl; rfl) | (apply WL.nil) | (apply EX.thenN) | (apply CW.seq) | (apply CW.region)))
  refine CW.cond rfl (fun h => ?_) (fun h => ?_)
  · have hn' : n < g.length := by simp at h; omega
    have erow : g.getD n [] = g[n] := wgetDG hn'
    have hnp : n < part.length := by omega
    obtain ⟨c0, _, hc0l, hc0⟩ := hpc n hnp
    have hpn : part[n] = (c0 : Int) := by rw [← wgetDI hnp]; exact hc0
    (repeat (first | (apply WL.pure; rfl; rfl; rfl) | (apply EX.thenN) | (apply CW.seq) | (apply CW.region) | (apply CW.block) | (apply CW.skip)))
    refine WL.elemN rfl rfl rfl rfl rfl (hs.at hE) hn' (fun _ => rfl) (fun u q hu => ?_)
    obtain ⟨ro, rc, rfl, hrow⟩ := hu.sl
    have hrl := hrow.len63
    skip
    refine WL.alloc rfl rfl (fun w3 hb8 e3 => ?_)
    have z3 := hb8.lt
    skip
    refine WL.st rfl rfl rfl hb8 rfl rfl (ones_of rfl) (fun w4 hb8 hg4 => ?_)
    have e4 : Ext w w4 := e3.grown hg4 e3.size (fun g hg => by cases hg; exact Nat.le_refl _)
    have hE4 := hE.trans e4
    have hb44 := hb4.ext (e.trans e4)
    have ho := ho.extN e4
    (repeat (first | (apply WL.pure; rfl; rfl; rfl) | (apply WL.nil) | (apply EX.thenN) | (apply CW.seq) | (apply CW.region) | (apply WL.makeFunc; rfl; rfl; rfl; rfl)))
    refine WL.call rfl rfl rfl (containsFunc_int w4 (fun x => part.getD x.toNat 0 == part.getD n 0) (hrow.mono (fun b hb => (hE4.block b hb).trans (hE.block b hb).symm) (fun b hb => Nat.lt_of_lt_of_le hb hE4.size)) (fun w5 hw i hi => ?_)) ?_
    · have hto := hg _ (List.getElem_mem hn') _ (List.getElem_mem hi)
      obtain ⟨to, eto⟩ := Int.eq_ofNat_of_zero_le hto.1
      rw [eto, Int.toNat_natCast]
      exact FnV.mk (cs := [_, _]) (egood1_ok w5 _ _ (hb44.ext hw) (hb8.ext hw) (hp.up (hE4.trans hw)) (by omega) hnp)
    rintro _ w5 ⟨rfl, e5⟩
    have hb45 := hb44.ext e5
    have hb8 := hb8.ext e5
    have ho := ho.extN e5
    have hE5 := hE4.trans e5
    have e5 := (e.trans e4).trans e5
    have hany : (g[n].any fun x => part.getD x.toNat 0 == part.getD n 0) = true ↔ ∃ to ∈ g.getD n [], part.getD to.toNat 0 = part.getD n 0 := by
      rw [List.any_eq_true, erow]; simp
    (repeat (first | (apply WL.nil) | (apply EX.thenN)))
    refine CW.cond rfl (fun h2 => ?_) (fun h2 => ?_)
    · (repeat (first | (apply WL.pure; rfl; rfl; rfl) | (apply CW.region) | (apply WL.ld; rfl; rfl; rfl; assumption; rfl)))
      refine WL.elemI rfl rfl rfl rfl rfl (hp.at hE5) hnp hpn (fun _ => rfl) (fun q => ?_)
      skip
      refine WL.setN (u := .bool true) (yv := true) rfl rfl rfl rfl ho (show c0 < out.length by omega) (fun _ => rfl) (fun _ => rfl) (Rd.mkBool _ _ _) (fun w6 q2 ho6 hg6 => ?_)
      have e6 : Ext w1 w6 := e5.grown hg6 e5.size (fun b hb => (ho.lt b hb).1)
      (repeat (first | (apply WL.add; rfl; rfl; rfl; rfl; omega; omega) | (apply WL.pure; rfl; rfl; rfl) | (apply WL.nil) | (apply EX.thenN) | (apply CW.region) | (apply EX.inN)))
      refine EX.back (n + 1, out.set c0 true) (by repeat (first | exact trivial | refine ⟨rfl, ?_⟩)) ⟨hn', ho6, by simpa using hol, fun c hc => ?_, e6⟩ (by dsimp only; omega)
      dsimp only
      rw [getD_set (by omega), prtP_next, ← hany]
      by_cases e : c0 = c
      · subst e
        rw [if_pos rfl]
        exact ⟨fun _ => .inr ⟨hc0, h2⟩, fun _ => rfl⟩
      · rw [if_neg e, hr c hc]
        exact ⟨.inl, fun h => h.resolve_right (fun ⟨h1, _⟩ => e (by have := hc0.symm.trans h1; omega))⟩
    · (repeat (first | (apply WL.add; rfl; rfl; rfl; rfl; omega; omega) | (apply WL.pure; rfl; rfl; rfl) | (apply WL.nil) | (apply EX.thenN) | (apply CW.region) | (apply EX.inN) | (apply CW.skip)))
      refine EX.back (n + 1, out) (by repeat (first | exact trivial | refine ⟨rfl, ?_⟩)) ⟨hn', ho, hol, fun c hc => ?_, e5⟩ (by dsimp only; omega)
      dsimp only
      rw [hr c hc, prtP_next, ← hany, h2]
      simp
  obtain rfl : n = g.length := by simp at h; omega
  clear h hn
  have hb4 := hb4.ext e
  (repeat (first | (apply WL.pure; rfl; rfl; rfl) | (apply WL.nil) | (apply EX.thenN) | (apply CW.seq) | (apply CW.region) | (apply WL.lenS; rfl; rfl; rfl) | (apply CW.block) | (apply CW.exit) | (apply EX.thenX) | (apply EX.inX)))
  refine CW.loop (S := Nat × List Bool) (fun s => [(0, .pointer (some ⟨sb, 0, none⟩)), (4, .pointer (some ⟨w0.heap.size, 0, none⟩)), (7, sv), (42, .slice so sets.length sc), (43, .int .i64 sets.length), (44, .int .i64 s.1)])
    (fun s w => s.1 ≤ sets.length ∧ Own w w1.heap.size 4 Non sv s.2 ∧ s.2.length = g.length ∧ (∀ c : Nat, c < g.length → (s.2.getD c false = true ↔ prtP g part g.length c ∧ ∀ S ∈ sets.take s.1, ∃ x, x < g.length ∧ S.getD x false = true ∧ part.getD x 0 = c)) ∧ Ext w1 w) (fun s => sets.length - s.1) (0, out) (by repeat (first | exact trivial | refine ⟨rfl, ?_⟩))
    ⟨Nat.zero_le _, ho, hol, fun c hc => by dsimp only; rw [hr c hc]; simp, e⟩ ?_
  clear hr ho hol hE
  rintro ⟨f, out⟩ w3 ⟨hf, ho, hol, hr, e3⟩
  dsimp only at hf ho hol hr ⊢
  have hE := hE1.trans e3
  have hbs3 := hb.ext hE
  (repeat (first | (apply WL.pure; rfl; rfl; rfl) | (apply WL.nil) | (apply EX.thenN) | (apply CW.seq) | (apply CW.region)))
  refine CW.cond rfl (fun h => ?_) (fun h => ?_)
  · have hf' : f < sets.length := by simp at h; omega
    have hSl := hsl _ (List.getElem_mem hf')
    (repeat (first | (apply EX.thenN) | (apply CW.seq) | (apply CW.region) | (apply CW.block) | (apply CW.skip)))
    refine WL.elemN rfl rfl rfl rfl rfl (hfs.at hE) hf' (fun _ => rfl) (fun u q hu => ?_)
    obtain ⟨Fo, Fc, rfl, hF⟩ := hu.sl
    have hFl := hF.len63
    (repeat (first | (apply WL.pure; rfl; rfl; rfl) | (apply WL.nil) | (apply EX.thenN) | (apply CW.seq) | (apply CW.region) | (apply WL.lenS; rfl; rfl; rfl) | (apply WL.fa; rfl; rfl; rfl) | (apply WL.nck; rfl; rfl; rfl) | (apply WL.ld; rfl; rfl; rfl; assumption; rfl)))
    refine WL.make (α := Bool) rfl rfl rfl rfl (by omega) (by unfold maxLen; omega) (fun w4 ho4 hg4 => ?_)
    have e4 : Ext w3 w4 := (Below.refl _ _).grown hg4 (Nat.le_refl _) (fun k h => by cases h)
    have hslt : ∀ b, sv.ownBlock = some b → b < w3.heap.size := fun b hb => (ho.lt b hb).2.1
    (repeat (first | (apply WL.pure; rfl; rfl; rfl) | (apply WL.nil) | (apply EX.thenN) | (apply CW.seq) | (apply CW.region) | (apply WL.lenS; rfl; rfl; rfl) | (apply CW.block)))
    refine CW.loop (S := Nat × List Bool) (fun s => [(0, .pointer (some ⟨sb, 0, none⟩)), (4, .pointer (some ⟨w0.heap.size, 0, none⟩)), (7, sv), (12, .slice (some ⟨w3.heap.size, 0, none⟩) g.length g.length), (42, .slice so sets.length sc), (43, .int .i64 sets.length), (44, .int .i64 f), (54, .slice Fo sets[f].length Fc), (55, .int .i64 sets[f].length), (56, .int .i64 s.1)])
      (fun s w => s.1 ≤ sets[f].length ∧ Own w w3.heap.size 4 Non (.slice (some ⟨w3.heap.size, 0, none⟩) g.length g.length) s.2 ∧ s.2.length = g.length ∧ (∀ c : Nat, c < g.length → (s.2.getD c false = true ↔ ∃ x, x < s.1 ∧ sets[f].getD x false = true ∧ part.getD x 0 = c)) ∧ Ext w3 w) (fun s => sets[f].length - s.1) (0, List.replicate g.length false) (by repeat (first | exact trivial | refine ⟨rfl, ?_⟩))
      ⟨Nat.zero_le _, ho4, by simp, fun c hc => by dsimp only; rw [getD_rep]; simp, e4⟩ ?_
    rintro ⟨i, has⟩ w5 ⟨hi, hoh, hhl, hhas, e5⟩
    dsimp only at hi hoh hhl hhas ⊢
    have hE5 := hE.trans e5
    have hb5 := hb40.ext (e3.trans e5)
    (repeat (first | (apply WL.pure; rfl; rfl; rfl) | (apply WL.nil) | (apply EX.thenN) | (apply CW.seq) | (apply CW.region)))
    refine CW.cond rfl (fun h => ?_) (fun h => ?_)
    · have hi' : i < sets[f].length := by simp at h; omega
      have hip : i < part.length := by omega
      obtain ⟨c0, _, hc0, ec0⟩ := hpc i hip
      have hpc' : part[i] = (c0 : Int) := by rw [← wgetDI hip]; exact ec0
      have hch : c0 < has.length := by omega
      have hF5 : Sl w5 (Old w0) Fo Fc sets[f] := hF.mono (fun b hb => (hE5.block b hb).trans (hE.block b hb).symm) (fun _ h => h)
      (repeat (first | (apply WL.pure; rfl; rfl; rfl) | (apply EX.thenN) | (apply CW.seq) | (apply CW.region) | (apply CW.block) | (apply CW.skip)))
      refine WL.elemB rfl rfl rfl rfl rfl hF5 hi' rfl (fun _ => rfl) (fun q => ?_)
      have hsg : sets[f].getD i false = sets[f][i] := wgetB hi'
      generalize sets[f][i] = is at *
      (repeat (apply WL.pure; rfl; rfl; rfl))
      apply WL.nil
      apply EX.thenN
      have hd := Ext.drew w5
      have hpd := hp.at (hE5.trans hd)
      have hbd := hb5.ext hd
      have hohd := hoh.extN hd
      obtain ⟨ho', hc', hv', hhs⟩ := hohd.slF (F' := fun b => b = w3.heap.size) (fun _ h => h.elim) (fun g hg => by cases hg; rfl)
      obtain ⟨rfl, _, rfl⟩ := Value.slice.inj hv'
      rw [← hhl] at hhs
      have hKK : ∀ (F : Nat → Prop) z, (fun x : World => x = drew w5) z → ∀ b, F b → z.heap[b]? = (drew w5).heap[b]? := fun F z hz b _ => by rw [hz]
      have hK1 : ∀ u, (fun x : World => x = drew w5) u → u.heap[w0.heap.size]? = (drew w5).heap[w0.heap.size]? := fun u hu => by rw [hu]
      have hstep : ∀ (b : Bool), (b = true ↔ has[c0] = true ∨ is = true) → ∀ w', Own w' w3.heap.size 4 Non (.slice (some ⟨w3.heap.size, 0, none⟩) g.length g.length) (has.set c0 b) → Ext w3 w' →
          (i + 1 ≤ sets[f].length ∧ Own w' w3.heap.size 4 Non (.slice (some ⟨w3.heap.size, 0, none⟩) g.length g.length) (has.set c0 b) ∧ (has.set c0 b).length = g.length ∧ (∀ c : Nat, c < g.length → ((has.set c0 b).getD c false = true ↔ ∃ y, y < i + 1 ∧ sets[f].getD y false = true ∧ part.getD y 0 = c)) ∧ Ext w3 w') := by
        intro b hb w' ho he
        refine ⟨hi', ho, by simpa using hhl, fun c hc => ?_, he⟩
        have hsplit : (∃ y, y < i + 1 ∧ sets[f].getD y false = true ∧ part.getD y 0 = c) ↔ (∃ y, y < i ∧ sets[f].getD y false = true ∧ part.getD y 0 = c) ∨ (is = true ∧ c0 = c) := by
          constructor
          · rintro ⟨y, hy1, hy2, hy3⟩
            by_cases e : y = i
            · subst e; exact .inr ⟨by rw [← hsg]; exact hy2, by omega⟩
            · exact .inl ⟨y, by omega, hy2, hy3⟩
          · rintro (⟨y, hy1, hy2⟩ | ⟨hy1, hy2⟩)
            · exact ⟨y, by omega, hy2⟩
            · exact ⟨i, by omega, by rw [hsg]; exact hy1, by omega⟩
        rw [getD_set hch, hsplit]
        by_cases e : c0 = c
        · subst e
          rw [if_pos rfl, hb, ← getB_at hch, hhas _ hc]
          simp
        · rw [if_neg e, hhas c hc]
          simp [e]
      refine CW.drawE (fun x : World => x = drew w5) [(0, true), (1, true), (2, true), (3, true), (4, true), (5, true), (6, true), (7, true), (8, true), (9, true), (10, true), (11, true), (12, true), (13, true), (14, true), (15, true)] 16 mixed (by kernel_rfl) rfl ?_
      (repeat (first | (apply HL.pure; rfl; rfl; rfl; rfl) | (refine HL.ldK (by assumption) rfl rfl rfl rfl (by assumption) rfl ?_)))
      refine HL.elemK (w := drew w5) (F := Old w0) (hKK _) rfl rfl rfl rfl rfl rfl rfl hpd hip (fun _ => rfl) (fun u q hu => ?_)
      obtain rfl := hu.int
      rw [hpc']
      (repeat (first | (apply HL.pure; rfl; rfl; rfl; rfl) | (refine HL.ldK (by assumption) rfl rfl rfl rfl (by assumption) rfl ?_)))
      refine HL.elemK (w := drew w5) (F := Old w0) (hKK _) rfl rfl rfl rfl rfl rfl rfl hpd hip (fun _ => rfl) (fun u q hu => ?_)
      obtain rfl := hu.int
      rw [hpc']
      skip
      rw [← hhl]
      refine HL.elemK (w := drew w5) (F := fun b => b = w3.heap.size) (hKK _) rfl rfl rfl rfl rfl rfl rfl hhs hch (fun _ => rfl) (fun u q hu => ?_)
      obtain rfl := hu.bool
      rw [hhl]
      by_cases hh : has[c0] = true
      · rw [hh]
        (repeat (first | (apply HL.pure; rfl; rfl; rfl; rfl) | (apply HL.pass; rfl; rfl; rfl)))
        refine HL.setTail (yv := true) rfl rfl rfl rfl rfl rfl hohd hch (fun _ => rfl) (fun _ => rfl) (Rd.mkBool _ _ _) (fun w14 q ho14 hg14 => ?_)
        have e14 : Ext w3 w14 := (e5.trans hd).grown hg14 (e5.trans hd).size (fun b hb => (hohd.lt b hb).1)
        (repeat (first | (apply WL.add; rfl; rfl; rfl; rfl; omega; omega) | (apply WL.pure; rfl; rfl; rfl) | (apply WL.nil) | (apply EX.thenN) | (apply CW.region) | (apply EX.inN)))
        exact EX.back (i + 1, has.set c0 true) (by repeat (first | exact trivial | refine ⟨rfl, ?_⟩)) (hstep true (by simp [hh]) _ ho14 e14) (by dsimp only; omega)
      · have hh : has[c0] = false := by simpa using hh
        rw [hh]
        (repeat (apply HL.pure; rfl; rfl; rfl; rfl))
        refine HL.setTail (yv := is) rfl rfl rfl rfl rfl rfl hohd hch (fun _ => rfl) (fun _ => rfl) (Rd.mkBool _ _ _) (fun w14 q ho14 hg14 => ?_)
        have e14 : Ext w3 w14 := (e5.trans hd).grown hg14 (e5.trans hd).size (fun b hb => (hohd.lt b hb).1)
        (repeat (first | (apply WL.add; rfl; rfl; rfl; rfl; omega; omega) | (apply WL.pure; rfl; rfl; rfl) | (apply WL.nil) | (apply EX.thenN) | (apply CW.region) | (apply EX.inN)))
        exact EX.back (i + 1, has.set c0 is) (by repeat (first | exact trivial | refine ⟨rfl, ?_⟩)) (hstep _ (by simp [hh]) _ ho14 e14) (by dsimp only; omega)
    · obtain rfl : i = sets[f].length := by simp at h; omega
      have ho5 := ho.extN e5
      rw [hSl] at hhas
      generalize hhv : Value.slice (some ⟨w3.heap.size, 0, none⟩) g.length g.length = hv at *
      have hhb : hv.ownBlock = some w3.heap.size := by rw [← hhv]; rfl
      (repeat (first | (apply WL.pure; rfl; rfl; rfl) | (apply WL.nil) | (apply EX.thenN) | (apply CW.seq) | (apply CW.region) | (apply CW.block) | (apply CW.exit) | (apply EX.thenX) | (apply EX.inX) | (refine WL.lenO rfl rfl rfl (by assumption) ?_)))
      refine CW.loop (S := Nat × List Bool) (fun s => [(0, .pointer (some ⟨sb, 0, none⟩)), (4, .pointer (some ⟨w0.heap.size, 0, none⟩)), (7, sv), (12, hv), (42, .slice so sets.length sc), (43, .int .i64 sets.length), (44, .int .i64 f), (79, .int .i64 g.length), (80, .int .i64 s.1)])
        (fun s w => s.1 ≤ g.length ∧ Own w w1.heap.size 4 Non sv s.2 ∧ s.2.length = g.length ∧ (∀ c : Nat, c < g.length → s.2.getD c false = if c < s.1 then out.getD c false && has.getD c false else out.getD c false) ∧ Own w w3.heap.size 4 Non hv has ∧ Ext w1 w) (fun s => g.length - s.1) (0, out) ?_
        ⟨Nat.zero_le _, ho5, hol, fun c hc => by dsimp only; rw [if_neg (by omega)], hoh, e3.trans e5⟩ ?_
      · rw [hol]; exact (by repeat (first | exact trivial | refine ⟨rfl, ?_⟩))
      rintro ⟨k, gd'⟩ w14 ⟨hk, hg14, hgl14, hgd14, hoh, e14⟩
      dsimp only at hk hg14 hgl14 hgd14 hoh ⊢
      (repeat (first | (apply WL.pure; rfl; rfl; rfl) | (apply WL.nil) | (apply EX.thenN) | (apply CW.seq) | (apply CW.region)))
      refine CW.cond rfl (fun h => ?_) (fun h => ?_)
      · have hk' : k < g.length := by simp at h; omega
        have hkg : k < gd'.length := by omega
        have hkh : k < has.length := by omega
        have hgk : gd'[k] = out.getD k false := by rw [← wgetB hkg, hgd14 k hk', if_neg (by omega)]
        have hst : ∀ b : Bool, b = (out.getD k false && has.getD k false) → ∀ c : Nat, c < g.length → (gd'.set k b).getD c false = if c < k + 1 then out.getD c false && has.getD c false else out.getD c false := by
          intro b hb c hc
          rw [getD_set hkg]
          by_cases e : k = c
          · subst e; rw [if_pos rfl, if_pos (by omega), hb]
          · rw [if_neg e, hgd14 c hc]
            by_cases h1 : c < k
            · rw [if_pos h1, if_pos (by omega)]
            · rw [if_neg h1, if_neg (by omega)]
        (repeat (first | (apply WL.pure; rfl; rfl; rfl) | (apply WL.nil) | (apply EX.thenN) | (apply CW.seq) | (apply CW.region) | (apply CW.block) | (apply CW.skip)))
        refine WL.elemON rfl rfl rfl rfl rfl hg14 hkg (fun _ => rfl) (fun u q hu => ?_)
        obtain rfl := hu.bool
        rw [hgk]
        by_cases hgt : out.getD k false = true
        · rw [hgt]
          (repeat (apply WL.pure; rfl; rfl; rfl))
          refine WL.elemON rfl rfl rfl rfl rfl hoh hkh (fun _ => rfl) (fun u q hu => ?_)
          obtain rfl := hu.bool
          (repeat (apply WL.pure; rfl; rfl; rfl))
          refine WL.setN (u := .bool has[k]) (yv := has[k]) rfl rfl rfl rfl hg14 hkg (fun _ => rfl) (fun _ => rfl) (Rd.mkBool _ _ _) (fun w15 q ho15 hg15 => ?_)
          have e15 : Ext w1 w15 := e14.grown hg15 e14.size (fun b hb => (hg14.lt b hb).1)
          have hoh15 := hoh.keptN hg15 (fun g hg e => by rw [hhb] at hg; cases hg; exact absurd (hslt _ e.symm) (Nat.lt_irrefl _))
          (repeat (first | (apply WL.add; rfl; rfl; rfl; rfl; omega; omega) | (apply WL.pure; rfl; rfl; rfl) | (apply WL.nil) | (apply EX.thenN) | (apply CW.region) | (apply EX.inN)))
          exact EX.back (k + 1, gd'.set k has[k]) (by repeat (first | exact trivial | refine ⟨rfl, ?_⟩)) ⟨hk', ho15, by simpa using hgl14, hst _ (by rw [hgt, wgetB hkh]; rfl), hoh15, e15⟩ (by dsimp only; omega)
        · have hgt : out.getD k false = false := by simpa using hgt
          rw [hgt]
          (repeat (first | (apply WL.pure; rfl; rfl; rfl) | (apply WL.pass; rfl; rfl)))
          refine WL.setN (u := .bool false) (yv := false) rfl rfl rfl rfl hg14 hkg (fun _ => rfl) (fun _ => rfl) (Rd.mkBool _ _ _) (fun w15 q ho15 hg15 => ?_)
          have e15 : Ext w1 w15 := e14.grown hg15 e14.size (fun b hb => (hg14.lt b hb).1)
          have hoh15 := hoh.keptN hg15 (fun g hg e => by rw [hhb] at hg; cases hg; exact absurd (hslt _ e.symm) (Nat.lt_irrefl _))
          (repeat (first | (apply WL.add; rfl; rfl; rfl; rfl; omega; omega) | (apply WL.pure; rfl; rfl; rfl) | (apply WL.nil) | (apply EX.thenN) | (apply CW.region) | (apply EX.inN)))
          exact EX.back (k + 1, gd'.set k false) (by repeat (first | exact trivial | refine ⟨rfl, ?_⟩)) ⟨hk', ho15, by simpa using hgl14, hst _ (by rw [hgt]; rfl), hoh15, e15⟩ (by dsimp only; omega)
      · obtain rfl : k = g.length := by simp at h; omega
        (repeat (first | (apply WL.add; rfl; rfl; rfl; rfl; omega; omega) | (apply WL.pure; rfl; rfl; rfl) | (apply WL.nil) | (apply EX.thenN) | (apply CW.region) | (apply EX.inN) | (apply CW.exit) | (apply EX.thenX) | (apply EX.inX)))
        refine EX.back (f + 1, gd') (by repeat (first | exact trivial | refine ⟨rfl, ?_⟩)) ⟨hf', hg14, hgl14, fun c hc => ?_, e14⟩ (by dsimp only; omega)
        dsimp only
        rw [hgd14 c hc, if_pos hc, Bool.and_eq_true, hr c hc, hhas c hc, ← List.take_append_getElem hf', and_assoc]
        refine and_congr Iff.rfl ⟨fun ⟨h1, h2⟩ F hF => ?_, fun h1 => ⟨fun F hF => h1 F (List.mem_append.2 (.inl hF)), h1 sets[f] (List.mem_append.2 (.inr (by simp)))⟩⟩
        rcases List.mem_append.1 hF with hF | hF
        · exact h1 F hF
        · rw [List.mem_singleton] at hF; subst hF; exact h2
  · obtain rfl : f = sets.length := by simp at h; omega
    rw [List.take_length] at hr
    obtain ⟨oo, oc, rfl, hos⟩ := ho.oldN.sl
    (repeat (first | (apply WL.pure; rfl; rfl; rfl) | (apply EX.thenN) | (apply CW.seq) | (apply CW.region) | (apply CW.exit) | (apply EX.thenX) | (apply EX.inX)))
    refine WL.call rfl rfl rfl (index_bool w3 true hos) ?_
    rintro _ w4 ⟨rfl, e4⟩
    have hiff : ∀ c : Nat, c < g.length → (out.getD c false = true ↔ GoodC g part sets (c : Int)) := fun c hc => hr c hc
    (repeat (first | (apply WL.pure; rfl; rfl; rfl) | (apply WL.nil) | (apply EX.thenN) | (apply CW.ret)))
    refine EX.ret1 rfl rfl ⟨_, rfl, ?_, hE.trans e4⟩
    rcases idxOf_true hol with ⟨h1, h2⟩ | ⟨c, h1, h2, h3⟩
    · refine .inl ⟨h1, fun c h0 h3 h4 => ?_⟩
      obtain ⟨c, rfl⟩ := Int.eq_ofNat_of_zero_le h0
      have := (hiff c (by omega)).2 h4
      rw [h2] at this
      cases this
    · exact .inr ⟨by omega, by omega, by rw [h1]; exact (hiff c h2).1 h3⟩
end Go.Proofs.Ytllpfgcngokhnaa

