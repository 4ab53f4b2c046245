import Derived.Test.YtikigaeihdmcaaaPtWorldOwn7
/-
  Package world: fairParts, Within, Fair: walked.
-/
set_option linter.unusedVariables false
set_option linter.unusedSimpArgs false
namespace Go.Proofs.Ytikigaeihdmcaaa
open Go.RowKit

theorem wgetDI {l : List Int} {j : Nat} (h : j < l.length) : l.getD j 0 = l[j] := by rw [List.getD_eq_getElem?_getD, List.getElem?_eq_getElem h]; rfl
theorem wgetDG {l : List (List Int)} {j : Nat} (h : j < l.length) : l.getD j [] = l[j] := by rw [List.getD_eq_getElem?_getD, List.getElem?_eq_getElem h]; rfl
theorem wgetB {l : List Bool} {j : Nat} (h : j < l.length) : l.getD j false = l[j] := by rw [List.getD_eq_getElem?_getD, List.getElem?_eq_getElem h]; rfl
theorem fp1 (w : World) (b b' : Nat) {po : Option Addr} {pc : Nat} {part : List Int} {to n : Nat} (hb : Blk w b 22 [.slice po part.length pc]) (hb' : Blk w b' 3 [.int .i64 (n : Int)]) (hp : Sl w (Old w) po pc part) (ht : to < part.length) (hn : n < part.length) :
    Rt Try.prog 76 [.int .i64 (to : Int), .pointer (some ⟨b, 0, none⟩), .pointer (some ⟨b', 0, none⟩)].toArray w fun v w' => v = .bool (part.getD to 0 == part.getD n 0) ∧ Ext w w' := by
  refine Rt.enter3 Try.func76 Try.ntmps76 rfl rfl ?_
  (repeat (first | (apply WL.pure; rfl; rfl; rfl) | (apply QL.pure; rfl; rfl; rfl) | (apply WL.nil) | (apply EX.thenN) | (apply CW.seq) | (apply CW.region) | (apply QL.ld; rfl; rfl; rfl; assumption; rfl) | (apply CW.draw; exact mixed; kernel_rfl)))
  refine QL.elemI rfl rfl rfl rfl rfl (fun _ h => h) hp ht rfl (fun _ => rfl) (fun q => ?_)
  (repeat (apply QL.ld; rfl; rfl; rfl; assumption; rfl))
  refine QL.elemI rfl rfl rfl rfl rfl (fun _ h => h) hp hn rfl (fun _ => rfl) (fun q' => ?_)
  (repeat (apply QL.pure; rfl; rfl; rfl))
  refine QL.nil (fun w2 e2 => ?_)
  (repeat (first | (apply EX.thenN) | (apply CW.ret)))
  exact EX.ret1 rfl rfl ⟨by rw [wgetDI ht, wgetDI hn], e2⟩
def prtP (g : Graph) (part : List Int) (n c : Nat) : Prop := ∃ u, u < n ∧ part.getD u 0 = c ∧ ∃ to ∈ g.getD u [], part.getD to.toNat 0 = c
theorem prtP_next {g : Graph} {part : List Int} {n c : Nat} : prtP g part (n + 1) c ↔ prtP g part n c ∨ (part.getD n 0 = c ∧ ∃ to ∈ g.getD n [], part.getD to.toNat 0 = part.getD n 0) := by
  unfold prtP
  constructor
  · rintro ⟨u, h1, h2, h3⟩
    by_cases e : u = n
    · subst e; exact .inr ⟨h2, by rw [h2]; exact h3⟩
    · exact .inl ⟨u, by omega, h2, h3⟩
  · rintro (⟨u, h1, h2⟩ | ⟨h1, h2⟩)
    · exact ⟨u, by omega, h2⟩
    · exact ⟨n, by omega, h1, by rw [← h1]; exact h2⟩
theorem fairParts_ok (w0 : World) {ao po so : Option Addr} {cap pc sc : Nat} {g sets : Graph} {part : List Int} (hs : Sl w0 (Old w0) ao cap g) (hp : Sl w0 (Old w0) po pc part) (hfs : Sl w0 (Old w0) so sc sets) (hg : okG g) (hpt : PartsOK g part) (hl : g.length ≤ 1099511627776)
    (hsets : ∀ F ∈ sets, okL g.length F) :
    Rt Try.prog 66 [.slice ao g.length cap, .slice po part.length pc, .slice so sets.length sc].toArray w0 fun v w' => ∃ out : List Bool, Own w' w0.heap.size 4 Non v out ∧ out.length = g.length ∧
      (∀ c, c < g.length → (out.getD c false = true ↔ prtP g part g.length c ∧ ∀ F ∈ sets, ∃ x ∈ F, part.getD x.toNat 0 = c)) ∧ Ext w0 w' := by
  have hm := hs.len63
  have hmp := hp.len63
  have hms := hfs.len63
  have hpl := hpt.len
  refine Rt.enter3 Try.func66 Try.ntmps66 rfl rfl ?_
  (repeat (first | (apply CW.seq) | (apply CW.region)))
  refine WL.boxB rfl rfl rfl fun w1 hb4 hE1 => ?_
  have hb40 := hb4
  have hl1 := hb4.lt
  (repeat (first | (apply WL.pure; rfl; rfl; rfl) | (apply WL.nil) | (apply EX.thenN) | (apply CW.seq) | (apply CW.region) | (apply WL.lenS; rfl; rfl; rfl)))
  refine WL.make (α := Bool) rfl rfl rfl rfl (by omega) (by unfold maxLen; omega) (fun w2 ho2 hg2 => ?_)
  have e2 : Ext w1 w2 := (Below.refl _ _).grown hg2 (Nat.le_refl _) (fun k h => by cases h)
  generalize hsv : Value.slice (some ⟨w1.heap.size, 0, none⟩) g.length g.length = sv at *
  have hpc : ∀ n, n < part.length → ∃ c0 : Nat, part[n]! = (c0 : Int) ∧ c0 < g.length ∧ part.getD n 0 = (c0 : Int) := fun n hn => by
    have h0 := hpt.ge n hn; have h1 := hpt.lt n hn
    obtain ⟨c0, hc0⟩ := Int.eq_ofNat_of_zero_le h0
    exact ⟨c0, by rw [← hc0, wgetDI hn]; simp [hn], by omega, hc0⟩
  (repeat (first | (apply WL.pure; rfl; rfl; rfl) | (apply WL.nil) | (apply EX.thenN) | (apply CW.seq) | (apply CW.region) | (apply WL.lenS; rfl; rfl; rfl) | (apply CW.block)))
  refine CW.loop (S := Nat × List Bool) (fun s => [(0, .slice ao g.length cap), (2, .slice so sets.length sc), (4, .pointer (some ⟨w0.heap.size, 0, none⟩)), (7, sv), (19, .slice ao g.length cap), (20, .int .i64 g.length), (21, .int .i64 s.1)])
    (fun s w => s.1 ≤ g.length ∧ Own w w1.heap.size 4 Non sv s.2 ∧ s.2.length = g.length ∧ (∀ c, c < g.length → (s.2.getD c false = true ↔ prtP g part s.1 c)) ∧ Ext w1 w) (fun s => g.length - s.1) (0, List.replicate g.length false) (by repeat (first | exact trivial | refine ⟨rfl, ?_⟩))
    ⟨Nat.zero_le _, ho2, by simp, fun c hc => by dsimp only; rw [getD_rep]; unfold prtP; simp, e2⟩ ?_
  rintro ⟨n, out⟩ w ⟨hn, ho, hol, hr, e⟩
  dsimp only at hn ho hol hr ⊢
  have hE := hE1.trans e
  (repeat (first | (apply WL.pure; rfl; rfl; rfl) | (apply WL.nil) | (apply EX.thenN) | (apply CW.seq) | (apply CW.region)))
  refine CW.cond rfl (fun h => ?_) (fun h => ?_)
  · have hn' : n < g.length := by simp at h; omega
    have erow : g.getD n [] = g[n] := wgetDG hn'
    have hnp : n < part.length := by omega
    obtain ⟨c0, _, hc0l, hc0⟩ := hpc n hnp
    have hpn : part[n] = (c0 : Int) := by rw [← wgetDI hnp]; exact hc0
    (repeat (first | (apply WL.pure; rfl; rfl; rfl) | (apply EX.thenN) | (apply CW.seq) | (apply CW.region) | (apply CW.block) | (apply CW.skip)))
    refine WL.elemN rfl rfl rfl rfl rfl (hs.at hE) hn' (fun _ => rfl) (fun u q hu => ?_)
    obtain ⟨ro, rc, rfl, hrow⟩ := hu.sl
    have hrl := hrow.len63
    skip
    refine WL.alloc rfl rfl (fun w3 hb8 e3 => ?_)
    have z3 := hb8.lt
    skip
    refine WL.st rfl rfl rfl hb8 rfl rfl (ones_of rfl) (fun w4 hb8 hg4 => ?_)
    have e4 : Ext w w4 := e3.grown hg4 e3.size (fun g hg => by cases hg; exact Nat.le_refl _)
    have hE4 := hE.trans e4
    have hb44 := hb4.ext (e.trans e4)
    have ho := ho.extN e4
    (repeat (first | (apply WL.pure; rfl; rfl; rfl) | (apply WL.nil) | (apply EX.thenN) | (apply CW.seq) | (apply CW.region) | (apply WL.makeFunc; rfl; rfl; rfl; rfl)))
    refine WL.call rfl rfl rfl (containsFunc_int w4 (fun x => part.getD x.toNat 0 == part.getD n 0) (hrow.mono (fun b hb => (hE4.block b hb).trans (hE.block b hb).symm) (fun b hb => Nat.lt_of_lt_of_le hb hE4.size)) (fun w5 hw i hi => ?_)) ?_
    · have hto := hg _ (List.getElem_mem hn') _ (List.getElem_mem hi)
      obtain ⟨to, eto⟩ := Int.eq_ofNat_of_zero_le hto.1
      rw [eto, Int.toNat_natCast]
      exact FnV.mk (cs := [_, _]) (fp1 w5 _ _ (hb44.ext hw) (hb8.ext hw) (hp.up (hE4.trans hw)) (by omega) hnp)
    rintro _ w5 ⟨rfl, e5⟩
    have hb45 := hb44.ext e5
    have hb8 := hb8.ext e5
    have ho := ho.extN e5
    have hE5 := hE4.trans e5
    have e5 := (e.trans e4).trans e5
    have hany : (g[n].any fun x => part.getD x.toNat 0 == part.getD n 0) = true ↔ ∃ to ∈ g.getD n [], part.getD to.toNat 0 = part.getD n 0 := by
      rw [List.any_eq_true, erow]; simp
    (repeat (first | (apply WL.nil) | (apply EX.thenN)))
    refine CW.cond rfl (fun h2 => ?_) (fun h2 => ?_)
    · (repeat (first | (apply WL.pure; rfl; rfl; rfl) | (apply CW.region) | (apply WL.ld; rfl; rfl; rfl; assumption; rfl)))
      refine WL.elemI rfl rfl rfl rfl rfl (hp.at hE5) hnp hpn (fun _ => rfl) (fun q => ?_)
      skip
      refine WL.setN (u := .bool true) (yv := true) rfl rfl rfl rfl ho (show c0 < out.length by omega) (fun _ => rfl) (fun _ => rfl) (Rd.mkBool _ _ _) (fun w6 q2 ho6 hg6 => ?_)
      have e6 : Ext w1 w6 := e5.grown hg6 e5.size (fun b hb => (ho.lt b hb).1)
      (repeat (first | (apply WL.add; rfl; rfl; rfl; rfl; omega; omega) | (apply WL.pure; rfl; rfl; rfl) | (apply WL.nil) | (apply EX.thenN) | (apply CW.region) | (apply EX.inN)))
      refine EX.back (n + 1, out.set c0 true) (by repeat (first | exact trivial | refine ⟨rfl, ?_⟩)) ⟨hn', ho6, by simpa using hol, fun c hc => ?_, e6⟩ (by dsimp only; omega)
      dsimp only
      rw [getD_set (by omega), prtP_next, ← hany]
      by_cases e : c0 = c
      · subst e
        rw [if_pos rfl]
        exact ⟨fun _ => .inr ⟨hc0, h2⟩, fun _ => rfl⟩
      · rw [if_neg e, hr c hc]
        exact ⟨.inl, fun h => h.resolve_right (fun ⟨h1, _⟩ => e (by have := hc0.symm.trans h1; omega))⟩
    · (repeat (first | (apply WL.add; rfl; rfl; rfl; rfl; omega; omega) | (apply WL.pure; rfl; rfl; rfl) | (apply WL.nil) | (apply EX.thenN) | (apply CW.region) | (apply EX.inN) | (apply CW.skip)))
      refine EX.back (n + 1, out) (by repeat (first | exact trivial | refine ⟨rfl, ?_⟩)) ⟨hn', ho, hol, fun c hc => ?_, e5⟩ (by dsimp only; omega)
      dsimp only
      rw [hr c hc, prtP_next, ← hany, h2]
      simp
  obtain rfl : n = g.length := by simp at h; omega
  clear h hn
  have hb4 := hb4.ext e
  have hsb : ∀ b, sv.ownBlock = some b → b < w.heap.size := fun b hb => (ho.lt b hb).2.1
  (repeat (first | (apply WL.pure; rfl; rfl; rfl) | (apply WL.nil) | (apply EX.thenN) | (apply CW.seq) | (apply CW.region) | (apply WL.lenS; rfl; rfl; rfl) | (apply CW.block) | (apply CW.exit) | (apply EX.thenX) | (apply EX.inX)))
  refine CW.loop (S := Nat × List Bool) (fun s => [(0, .slice ao g.length cap), (4, .pointer (some ⟨w0.heap.size, 0, none⟩)), (7, sv), (36, .slice so sets.length sc), (37, .int .i64 sets.length), (38, .int .i64 s.1)])
    (fun s w => s.1 ≤ sets.length ∧ Own w w1.heap.size 4 Non sv s.2 ∧ s.2.length = g.length ∧ (∀ c, c < g.length → (s.2.getD c false = true ↔ prtP g part g.length c ∧ ∀ F ∈ sets.take s.1, ∃ x ∈ F, part.getD x.toNat 0 = c)) ∧ Ext w1 w) (fun s => sets.length - s.1) (0, out) (by repeat (first | exact trivial | refine ⟨rfl, ?_⟩))
    ⟨Nat.zero_le _, ho, hol, fun c hc => by dsimp only; rw [hr c hc]; simp, e⟩ ?_
  clear hr ho hol hE
  rintro ⟨f, out⟩ w3 ⟨hf, ho, hol, hr, e3⟩
  dsimp only at hf ho hol hr ⊢
  have hE := hE1.trans e3
  (repeat (first | (apply WL.pure; rfl; rfl; rfl) | (apply WL.nil) | (apply EX.thenN) | (apply CW.seq) | (apply CW.region)))
  refine CW.cond rfl (fun h => ?_) (fun h => ?_)
  · have hf' : f < sets.length := by simp at h; omega
    have hFok := hsets _ (List.getElem_mem hf')
    (repeat (first | (apply EX.thenN) | (apply CW.seq) | (apply CW.region) | (apply CW.block) | (apply CW.skip)))
    refine WL.elemN rfl rfl rfl rfl rfl (hfs.at hE) hf' (fun _ => rfl) (fun u q hu => ?_)
    obtain ⟨Fo, Fc, rfl, hF⟩ := hu.sl
    have hFl := hF.len63
    (repeat (first | (apply WL.pure; rfl; rfl; rfl) | (apply WL.nil) | (apply EX.thenN) | (apply CW.seq) | (apply CW.region) | (apply WL.lenS; rfl; rfl; rfl)))
    refine WL.make (α := Bool) rfl rfl rfl rfl (by omega) (by unfold maxLen; omega) (fun w4 ho4 hg4 => ?_)
    have e4 : Ext w3 w4 := (Below.refl _ _).grown hg4 (Nat.le_refl _) (fun k h => by cases h)
    have hslt : ∀ b, sv.ownBlock = some b → b < w3.heap.size := fun b hb => (ho.lt b hb).2.1
    generalize hhv : Value.slice (some ⟨w3.heap.size, 0, none⟩) g.length g.length = hv at *
    have hhb : hv.ownBlock = some w3.heap.size := by rw [← hhv]; rfl
    (repeat (first | (apply WL.pure; rfl; rfl; rfl) | (apply WL.nil) | (apply EX.thenN) | (apply CW.seq) | (apply CW.region) | (apply WL.lenS; rfl; rfl; rfl) | (apply CW.block)))
    refine CW.loop (S := Nat × List Bool) (fun s => [(0, .slice ao g.length cap), (4, .pointer (some ⟨w0.heap.size, 0, none⟩)), (7, sv), (12, hv), (36, .slice so sets.length sc), (37, .int .i64 sets.length), (38, .int .i64 f), (45, .slice Fo sets[f].length Fc), (46, .int .i64 sets[f].length), (47, .int .i64 s.1)])
      (fun s w => s.1 ≤ sets[f].length ∧ Own w w3.heap.size 4 Non hv s.2 ∧ s.2.length = g.length ∧ (∀ c, c < g.length → (s.2.getD c false = true ↔ ∃ x ∈ sets[f].take s.1, part.getD x.toNat 0 = c)) ∧ Ext w3 w) (fun s => sets[f].length - s.1) (0, List.replicate g.length false) (by repeat (first | exact trivial | refine ⟨rfl, ?_⟩))
      ⟨Nat.zero_le _, ho4, by simp, fun c hc => by dsimp only; rw [getD_rep]; simp, e4⟩ ?_
    rintro ⟨i, has⟩ w5 ⟨hi, hoh, hhl, hhas, e5⟩
    dsimp only at hi hoh hhl hhas ⊢
    have hE5 := hE.trans e5
    have hb5 := hb40.ext (e3.trans e5)
    (repeat (first | (apply WL.pure; rfl; rfl; rfl) | (apply WL.nil) | (apply EX.thenN) | (apply CW.seq) | (apply CW.region)))
    refine CW.cond rfl (fun h => ?_) (fun h => ?_)
    · have hi' : i < sets[f].length := by simp at h; omega
      have hto := hFok _ (List.getElem_mem hi')
      obtain ⟨x, ex⟩ := Int.eq_ofNat_of_zero_le hto.1
      have hxp : x < part.length := by omega
      obtain ⟨c0, _, hc0l, hc0⟩ := hpc x hxp
      have hpx : part[x] = (c0 : Int) := by rw [← wgetDI hxp]; exact hc0
      have hF5 : Sl w5 (Old w0) Fo Fc sets[f] := hF.mono (fun b hb => (hE5.block b hb).trans (hE.block b hb).symm) (fun _ h => h)
      (repeat (first | (apply EX.thenN) | (apply CW.seq) | (apply CW.region) | (apply CW.block) | (apply CW.skip)))
      refine WL.elemI rfl rfl rfl rfl rfl hF5 hi' ex (fun _ => rfl) (fun q => ?_)
      (repeat (first | (apply WL.pure; rfl; rfl; rfl) | (apply WL.nil) | (apply EX.thenN) | (apply CW.region) | (apply WL.ld; rfl; rfl; rfl; assumption; rfl)))
      refine WL.elemI rfl rfl rfl rfl rfl (hp.at hE5) hxp hpx (fun _ => rfl) (fun q => ?_)
      skip
      refine WL.setN (u := .bool true) (yv := true) rfl rfl rfl rfl hoh (show c0 < has.length by omega) (fun _ => rfl) (fun _ => rfl) (Rd.mkBool _ _ _) (fun w6 q2 ho6 hg6 => ?_)
      have e6 : Ext w3 w6 := e5.grown hg6 e5.size (fun b hb => (hoh.lt b hb).1)
      (repeat (first | (apply WL.add; rfl; rfl; rfl; rfl; omega; omega) | (apply WL.pure; rfl; rfl; rfl) | (apply WL.nil) | (apply EX.thenN) | (apply CW.region) | (apply EX.inN)))
      refine EX.back (i + 1, has.set c0 true) (by repeat (first | exact trivial | refine ⟨rfl, ?_⟩)) ⟨hi', ho6, by simpa using hhl, fun c hc => ?_, e6⟩ (by dsimp only; omega)
      dsimp only
      rw [getD_set (by omega), ← List.take_append_getElem hi', ex]
      by_cases e : c0 = c
      · subst e
        rw [if_pos rfl]
        exact ⟨fun _ => ⟨(x : Int), by simp, by simpa using hc0⟩, fun _ => rfl⟩
      · rw [if_neg e, hhas c hc]
        constructor
        · rintro ⟨y, h1, h2⟩; exact ⟨y, List.mem_append.2 (.inl h1), h2⟩
        · rintro ⟨y, h1, h2⟩
          rcases List.mem_append.1 h1 with h1 | h1
          · exact ⟨y, h1, h2⟩
          · rw [List.mem_singleton] at h1; subst h1
            rw [Int.toNat_natCast, hc0] at h2; omega
    · obtain rfl : i = sets[f].length := by simp at h; omega
      rw [List.take_length] at hhas
      have ho5 := ho.extN e5
      (repeat (first | (apply WL.pure; rfl; rfl; rfl) | (apply WL.nil) | (apply EX.thenN) | (apply CW.seq) | (apply CW.region) | (apply CW.block) | (apply CW.exit) | (apply EX.thenX) | (apply EX.inX) | (refine WL.lenO rfl rfl rfl (by assumption) ?_)))
      refine CW.loop (S := Nat × List Bool) (fun s => [(0, .slice ao g.length cap), (4, .pointer (some ⟨w0.heap.size, 0, none⟩)), (7, sv), (12, hv), (36, .slice so sets.length sc), (37, .int .i64 sets.length), (38, .int .i64 f), (59, .int .i64 g.length), (60, .int .i64 s.1)])
        (fun s w => s.1 ≤ g.length ∧ Own w w1.heap.size 4 Non sv s.2 ∧ s.2.length = g.length ∧ (∀ c, c < g.length → s.2.getD c false = if c < s.1 then out.getD c false && has.getD c false else out.getD c false) ∧ Own w w3.heap.size 4 Non hv has ∧ Ext w1 w) (fun s => g.length - s.1) (0, out) ?_
        ⟨Nat.zero_le _, ho5, hol, fun c hc => by dsimp only; rw [if_neg (by omega)], hoh, e3.trans e5⟩ ?_
      · rw [hol]; exact (by repeat (first | exact trivial | refine ⟨rfl, ?_⟩))
      rintro ⟨k, gd'⟩ w14 ⟨hk, hg14, hgl14, hgd14, hoh, e14⟩
      dsimp only at hk hg14 hgl14 hgd14 hoh ⊢
      (repeat (first | (apply WL.pure; rfl; rfl; rfl) | (apply WL.nil) | (apply EX.thenN) | (apply CW.seq) | (apply CW.region)))
      refine CW.cond rfl (fun h => ?_) (fun h => ?_)
      · have hk' : k < g.length := by simp at h; omega
        have hkg : k < gd'.length := by omega
        have hkh : k < has.length := by omega
        have hgk : gd'[k] = out.getD k false := by rw [← wgetB hkg, hgd14 k hk', if_neg (by omega)]
        have hst : ∀ b : Bool, b = (out.getD k false && has.getD k false) → ∀ c, c < g.length → (gd'.set k b).getD c false = if c < k + 1 then out.getD c false && has.getD c false else out.getD c false := by
          intro b hb c hc
          rw [getD_set hkg]
          by_cases e : k = c
          · subst e; rw [if_pos rfl, if_pos (by omega), hb]
          · rw [if_neg e, hgd14 c hc]
            by_cases h1 : c < k
            · rw [if_pos h1, if_pos (by omega)]
            · rw [if_neg h1, if_neg (by omega)]
        (repeat (first | (apply WL.pure; rfl; rfl; rfl) | (apply WL.nil) | (apply EX.thenN) | (apply CW.seq) | (apply CW.region) | (apply CW.block) | (apply CW.skip)))
        refine WL.elemON rfl rfl rfl rfl rfl hg14 hkg (fun _ => rfl) (fun u q hu => ?_)
        obtain rfl := hu.bool
        rw [hgk]
        by_cases hgt : out.getD k false = true
        · rw [hgt]
          (repeat (apply WL.pure; rfl; rfl; rfl))
          refine WL.elemON rfl rfl rfl rfl rfl hoh hkh (fun _ => rfl) (fun u q hu => ?_)
          obtain rfl := hu.bool
          (repeat (apply WL.pure; rfl; rfl; rfl))
          refine WL.setN (u := .bool has[k]) (yv := has[k]) rfl rfl rfl rfl hg14 hkg (fun _ => rfl) (fun _ => rfl) (Rd.mkBool _ _ _) (fun w15 q ho15 hg15 => ?_)
          have e15 : Ext w1 w15 := e14.grown hg15 e14.size (fun b hb => (hg14.lt b hb).1)
          have hoh15 := hoh.keptN hg15 (fun g hg e => by rw [hhb] at hg; cases hg; exact absurd (hslt _ e.symm) (Nat.lt_irrefl _))
          (repeat (first | (apply WL.add; rfl; rfl; rfl; rfl; omega; omega) | (apply WL.pure; rfl; rfl; rfl) | (apply WL.nil) | (apply EX.thenN) | (apply CW.region) | (apply EX.inN)))
          exact EX.back (k + 1, gd'.set k has[k]) (by repeat (first | exact trivial | refine ⟨rfl, ?_⟩)) ⟨hk', ho15, by simpa using hgl14, hst _ (by rw [hgt, wgetB hkh]; rfl), hoh15, e15⟩ (by dsimp only; omega)
        · have hgt : out.getD k false = false := by simpa using hgt
          rw [hgt]
          (repeat (first | (apply WL.pure; rfl; rfl; rfl) | (apply WL.pass; rfl; rfl)))
          refine WL.setN (u := .bool false) (yv := false) rfl rfl rfl rfl hg14 hkg (fun _ => rfl) (fun _ => rfl) (Rd.mkBool _ _ _) (fun w15 q ho15 hg15 => ?_)
          have e15 : Ext w1 w15 := e14.grown hg15 e14.size (fun b hb => (hg14.lt b hb).1)
          have hoh15 := hoh.keptN hg15 (fun g hg e => by rw [hhb] at hg; cases hg; exact absurd (hslt _ e.symm) (Nat.lt_irrefl _))
          (repeat (first | (apply WL.add; rfl; rfl; rfl; rfl; omega; omega) | (apply WL.pure; rfl; rfl; rfl) | (apply WL.nil) | (apply EX.thenN) | (apply CW.region) | (apply EX.inN)))
          exact EX.back (k + 1, gd'.set k false) (by repeat (first | exact trivial | refine ⟨rfl, ?_⟩)) ⟨hk', ho15, by simpa using hgl14, hst _ (by rw [hgt]; rfl), hoh15, e15⟩ (by dsimp only; omega)
      · obtain rfl : k = g.length := by simp at h; omega
        (repeat (first | (apply WL.add; rfl; rfl; rfl; rfl; omega; omega) | (apply WL.pure; rfl; rfl; rfl) | (apply WL.nil) | (apply EX.thenN) | (apply CW.region) | (apply EX.inN) | (apply CW.exit) | (apply EX.thenX) | (apply EX.inX)))
        refine EX.back (f + 1, gd') (by repeat (first | exact trivial | refine ⟨rfl, ?_⟩)) ⟨hf', hg14, hgl14, fun c hc => ?_, e14⟩ (by dsimp only; omega)
        dsimp only
        rw [hgd14 c hc, if_pos hc, Bool.and_eq_true, hr c hc, hhas c hc, ← List.take_append_getElem hf', and_assoc]
        refine and_congr Iff.rfl ⟨fun ⟨h1, h2⟩ F hF => ?_, fun h1 => ⟨fun F hF => h1 F (List.mem_append.2 (.inl hF)), h1 sets[f] (List.mem_append.2 (.inr (by simp)))⟩⟩
        rcases List.mem_append.1 hF with hF | hF
        · exact h1 F hF
        · rw [List.mem_singleton] at hF; subst hF; exact h2
  · obtain rfl : f = sets.length := by simp at h; omega
    rw [List.take_length] at hr
    (repeat (first | (apply WL.pure; rfl; rfl; rfl) | (apply WL.nil) | (apply EX.thenN) | (apply CW.seq) | (apply CW.region) | (apply CW.exit) | (apply EX.thenX) | (apply EX.inX) | (apply CW.ret)))
    exact EX.ret1 rfl rfl ⟨out, ho.low (by omega), hol, hr, hE⟩

/- WITHIN SOME STATES -/
def inRow (nx : Graph) (inn : List Bool) (n j : Nat) : List Int := ((nx.getD n []).take j).filter fun to => inn.getD n false && inn.getD to.toNat false
def inFull (nx : Graph) (inn : List Bool) (n : Nat) : List Int := (nx.getD n []).filter fun to => inn.getD n false && inn.getD to.toNat false
def inG (nx : Graph) (inn : List Bool) : Graph := (List.range nx.length).map (inFull nx inn)
theorem inG_len {nx : Graph} {inn : List Bool} : (inG nx inn).length = nx.length := by simp [inG]
theorem inG_row {nx : Graph} {inn : List Bool} {n : Nat} (h : n < nx.length) : (inG nx inn).getD n [] = inFull nx inn n := by
  unfold inG; rw [List.getD_eq_getElem?_getD, List.getElem?_map, List.getElem?_range h]; rfl
theorem inG_edge {nx : Graph} {inn : List Bool} {u v : Nat} : Eg (inG nx inn) u v ↔ Eg nx u v ∧ inn.getD u false = true ∧ inn.getD v false = true := by
  by_cases h : u < nx.length
  · unfold Eg
    rw [inG_row h]
    unfold inFull
    rw [List.mem_filter]
    simp
  · constructor
    · intro k; have := k.lt1; rw [inG_len] at this; exact absurd this h
    · intro k; exact absurd k.1.lt1 h
theorem inG_ok {nx : Graph} {inn : List Bool} (h : okG nx) : okG (inG nx inn) := by
  intro r hr x hx
  rw [inG_len]
  obtain ⟨n, hn, rfl⟩ := List.mem_map.1 hr
  exact okG_row h n x (List.mem_filter.1 hx).1
theorem inG_edges {nx : Graph} {inn : List Bool} : edges (inG nx inn) ≤ edges nx := by
  unfold edges inG
  rw [List.map_map]
  have e : nx.map List.length = (List.range nx.length).map fun k => (nx.getD k []).length := by
    refine List.ext_getElem (by simp) fun i h1 h2 => ?_
    simp at h1; simp [h1]
  rw [e]
  have : ∀ l : List Nat, (l.map (List.length ∘ inFull nx inn)).sum ≤ (l.map fun k => (nx.getD k []).length).sum := by
    intro l
    induction l with
    | nil => exact Nat.le_refl _
    | cons x r ih =>
      simp only [List.map_cons, List.sum_cons]
      have : (List.length ∘ inFull nx inn) x ≤ (nx.getD x []).length := List.length_filter_le _ _
      omega
  exact this _
theorem inRow_next {nx : Graph} {inn : List Bool} {n j : Nat} (h : j < (nx.getD n []).length) : inRow nx inn n (j + 1) = inRow nx inn n j ++ if (inn.getD n false && inn.getD ((nx.getD n [])[j]).toNat false) = true then [(nx.getD n [])[j]] else [] := by
  unfold inRow
  rw [← List.take_append_getElem h, List.filter_append]
  congr 1
  by_cases e : (inn.getD n false && inn.getD ((nx.getD n [])[j]).toNat false) = true
  · rw [if_pos e]; simp only [List.filter_cons, e, List.filter_nil]; rfl
  · rw [if_neg e]; simp only [List.filter_cons, e, List.filter_nil]; rfl
theorem inRow_full {nx : Graph} {inn : List Bool} {n : Nat} : inRow nx inn n (nx.getD n []).length = inFull nx inn n := by unfold inRow inFull; rw [List.take_length]
abbrev setPs (fr : Graph) : List (Nat → Prop) := fr.map fun F x => ((x : Nat) : Int) ∈ F
open Classical in
/-- of each state whether a fair way begins there that stays among some -/
noncomputable def withinB (nx : Graph) (inn : List Bool) (fr : Graph) : List Bool := (List.range nx.length).map fun n => decide (∃ r, r 0 = n ∧ Way8 (Eg (inG nx inn)) (setPs fr) r)
theorem withinB_len {nx : Graph} {inn : List Bool} {fr : Graph} : (withinB nx inn fr).length = nx.length := by simp [withinB]
theorem withinB_iff {nx : Graph} {inn : List Bool} {fr : Graph} {n : Nat} (h : n < nx.length) : (withinB nx inn fr).getD n false = true ↔ ∃ r, r 0 = n ∧ Way8 (Eg (inG nx inn)) (setPs fr) r := by
  unfold withinB; rw [List.getD_eq_getElem?_getD, List.getElem?_map, List.getElem?_range h]; simp
/-- nodes from which one of some is come to, turned round -/
theorem back_iff {g : Graph} (hg : okG g) {ends : List Int} (he : okL g.length ends) {n : Nat} : Rch (turnL g) ends n ↔ ∃ v : Nat, (v : Int) ∈ ends ∧ Rc (Eg g) n v := by
  rw [rch_rc (turnL_ok g) (fun x hx => (he x hx).1)]
  refine exists_congr fun v => and_congr_right fun _ => ?_
  rw [← rch1 (turnL_ok g), rch_turn hg, rch1 hg]
theorem within_spec {nx fr : Graph} {inn good : List Bool} {part ends : List Int} (hok : okG nx) (hP : PartsOK (inG nx inn) part) (hfr : ∀ F ∈ fr, okL nx.length F)
    (hgood : ∀ c, c < nx.length → (good.getD c false = true ↔ prtP (inG nx inn) part nx.length c ∧ ∀ F ∈ fr, ∃ x ∈ F, part.getD x.toNat 0 = c))
    (hends : ∀ v : Nat, (v : Int) ∈ ends ↔ v < nx.length ∧ inn.getD v false = true ∧ good.getD (part.getD v 0).toNat false = true) (hpos : ∀ x ∈ ends, 0 ≤ x) :
    rchB (turnL (inG nx inn)) ends = withinB nx inn fr := by
  have hg := inG_ok (inn := inn) hok
  have he : okL (inG nx inn).length ends := fun x hx => by
    have h0 := hpos x hx
    have := ((hends x.toNat).1 (by rw [show ((x.toNat : Nat) : Int) = x by omega]; exact hx)).1
    rw [inG_len]; omega
  refine List.ext_getElem (by rw [rchB_len, turnL_len, inG_len, withinB_len]) fun n h1 h2 => ?_
  have hn : n < nx.length := by rw [withinB_len] at h2; exact h2
  rw [Bool.eq_iff_iff, rchB_iff h1, back_iff hg he, ← wgetB h2, withinB_iff hn, fair_iff (N := nx.length) (fun u v h => by have := h.lt hg; rwa [inG_len] at this) hn]
  have hcore : ∀ v, v < nx.length → (good.getD (part.getD v 0).toNat false = true ↔ Core (Eg (inG nx inn)) (setPs fr) v) := by
    intro v hv
    have hvp : v < part.length := by rw [hP.len, inG_len]; exact hv
    have k0 := hP.ge v hvp
    have k1 := hP.lt v hvp
    rw [inG_len] at k1
    rw [core_part hg hP (by rw [inG_len]; exact hv), hgood _ (by omega), show (((part.getD v 0).toNat : Nat) : Int) = part.getD v 0 by omega, inG_len]
    unfold prtP
    rw [show (((part.getD v 0).toNat : Nat) : Int) = part.getD v 0 by omega]
    refine and_congr Iff.rfl ⟨fun k P hPm => ?_, fun k F hF => ?_⟩
    · obtain ⟨F, hF, rfl⟩ := List.mem_map.1 hPm
      obtain ⟨x, hx, hxp⟩ := k F hF
      have := hfr F hF x hx
      exact ⟨x.toNat, by omega, by show ((x.toNat : Nat) : Int) ∈ F; rw [show ((x.toNat : Nat) : Int) = x by omega]; exact hx, hxp⟩
    · obtain ⟨x, hx1, hx2, hx3⟩ := k _ (List.mem_map.2 ⟨F, hF, rfl⟩)
      exact ⟨(x : Int), hx2, by simpa using hx3⟩
  constructor
  · rintro ⟨v, hv, hr⟩
    obtain ⟨h3, _, h4⟩ := (hends v).1 hv
    exact ⟨v, hr, (hcore v h3).1 h4⟩
  · rintro ⟨v, hr, hc⟩
    have hc' := hc
    obtain ⟨⟨u, hu, _⟩, _⟩ := hc
    have hv : v < nx.length := by have := hu.lt1; rwa [inG_len] at this
    exact ⟨v, (hends v).2 ⟨hv, (inG_edge.1 hu).2.1, (hcore v hv).2 hc'⟩, hr⟩
theorem edges_row {g : Graph} : ∀ {i : Nat}, (h : i < g.length) → g[i].length ≤ edges g := by
  unfold edges
  induction g with
  | nil => intro i h; cases h
  | cons r g ih =>
    intro i h
    cases i with
    | zero => simp
    | succ i => have := ih (i := i) (by simpa using h); simp at this ⊢; omega
/-- ends so far -/
def endsP (inn good : List Bool) (part : List Int) (n : Nat) : List Int := ((List.range n).filter fun v => inn.getD v false && good.getD (part.getD v 0).toNat false).map fun v : Nat => (v : Int)
theorem endsP_next {inn good : List Bool} {part : List Int} {n : Nat} : endsP inn good part (n + 1) = endsP inn good part n ++ if (inn.getD n false && good.getD (part.getD n 0).toNat false) = true then [(n : Int)] else [] := by
  unfold endsP
  rw [List.range_succ, List.filter_append, List.map_append]
  congr 1
  by_cases e : (inn.getD n false && good.getD (part.getD n 0).toNat false) = true
  · rw [if_pos e]; simp only [List.filter_cons, e, List.filter_nil]; rfl
  · rw [if_neg e]; simp only [List.filter_cons, e, List.filter_nil]; rfl
theorem endsP_len {inn good : List Bool} {part : List Int} {n : Nat} : (endsP inn good part n).length ≤ n := by
  unfold endsP; rw [List.length_map]
  exact Nat.le_trans (List.length_filter_le _ _) (by simp)
theorem endsP_mem {inn good : List Bool} {part : List Int} {n v : Nat} : (v : Int) ∈ endsP inn good part n ↔ v < n ∧ inn.getD v false = true ∧ good.getD (part.getD v 0).toNat false = true := by
  unfold endsP
  rw [List.mem_map]
  constructor
  · rintro ⟨u, h1, h2⟩
    obtain rfl : u = v := by omega
    have := List.mem_filter.1 h1
    rw [List.mem_range, Bool.and_eq_true] at this
    exact this
  · rintro ⟨h1, h2, h3⟩
    exact ⟨v, List.mem_filter.2 ⟨List.mem_range.2 h1, by rw [h2, h3]; rfl⟩, rfl⟩
theorem endsP_pos {inn good : List Bool} {part : List Int} {n : Nat} : ∀ x ∈ endsP inn good part n, 0 ≤ x := by
  intro x hx
  obtain ⟨u, _, rfl⟩ := List.mem_map.1 hx
  omega
theorem Within_ok (w0 : World) {a1 a2 a3 a4 io : Option Addr} {c1 c2 c3 c4 n1 n3 ic : Nat} {nx fr : Graph} {inn : List Bool} (h2 : Sl w0 (Old w0) a2 c2 nx) (h4 : Sl w0 (Old w0) a4 c4 fr) (hin : Sl w0 (Old w0) io ic inn)
    (hok : okG nx) (hfr : ∀ F ∈ fr, okL nx.length F) (hil : inn.length = nx.length) (hn : nx.length ≤ 600) (hT : edges nx ≤ 8589934592) :
    Rt Try.prog 52 [worldV a1 c1 a2 c2 a3 c3 a4 c4 n1 nx.length n3 fr.length, .slice io inn.length ic].toArray w0 fun v w' => Own w' w0.heap.size 4 Non v (withinB nx inn fr) ∧ Ext w0 w' := by
  have hm2 := h2.len63
  refine Rt.enter2 Try.func52 Try.ntmps52 rfl rfl ?_
  (repeat (first | (apply CW.seq) | (apply CW.region)))
  refine WL.boxB rfl rfl rfl fun w1 hb2 e1 => ?_
  have hl1 := hb2.lt
  (repeat (first | (apply WL.pure; rfl; rfl; rfl) | (apply WL.nil) | (apply EX.thenN) | (apply CW.seq) | (apply CW.region) | (apply WL.lenS; rfl; rfl; rfl) | (apply WL.fa; rfl; rfl; rfl) | (apply WL.ld; rfl; rfl; rfl; assumption; rfl)))
  refine WL.make (α := Raw) rfl rfl rfl rfl (by omega) (by unfold maxLen; omega) (fun w2 ho2 hg2 => ?_)
  have e2 : Ext w1 w2 := (Below.refl _ _).grown hg2 (Nat.le_refl _) (fun k h => by cases h)
  generalize hsv : Value.slice (some ⟨w1.heap.size, 0, none⟩) nx.length nx.length = sv at *
  have hN2 : OwnN w2 w1.heap.size 22 3 sv _ (List.replicate nx.length ([] : List Int)) := OwnN.made ho2
  rw [← gridP_start (full := inFull nx inn)] at hN2
  clear ho2 hg2
  have hb20 := hb2
  have hb2 := hb2.ext e2
  (repeat (first | (apply WL.pure; rfl; rfl; rfl) | (apply WL.nil) | (apply EX.thenN) | (apply CW.seq) | (apply CW.region) | (apply WL.lenS; rfl; rfl; rfl) | (apply WL.fa; rfl; rfl; rfl) | (apply WL.ld; rfl; rfl; rfl; assumption; rfl) | (apply CW.block)))
  refine CW.loop (S := Nat × List Raw) (fun s => [(1, .slice io inn.length ic), (2, .pointer (some ⟨w0.heap.size, 0, none⟩)), (5, sv), (23, .slice a2 nx.length c2), (24, .int .i64 nx.length), (25, .int .i64 s.1)])
    (fun s w => s.1 ≤ nx.length ∧ OwnN w w1.heap.size 22 3 sv s.2 (gridP nx.length (inFull nx inn) s.1 []) ∧ Ext w1 w) (fun s => nx.length - s.1) (0, _) (by repeat (first | exact trivial | refine ⟨rfl, ?_⟩)) ⟨Nat.zero_le _, hN2, e2⟩ ?_
  rintro ⟨n, vs⟩ w3 ⟨hn3, hN, e3⟩
  dsimp only at hn3 hN ⊢
  have hE3 := e1.trans e3
  have hb23 := hb20.ext e3
  (repeat (first | (apply WL.pure; rfl; rfl; rfl) | (apply WL.nil) | (apply EX.thenN) | (apply CW.seq) | (apply CW.region)))
  refine CW.cond rfl (fun h => ?_) (fun h => ?_)
  · have hn' : n < nx.length := by simp at h; omega
    have hni : n < inn.length := by omega
    have erow : nx.getD n [] = nx[n] := wgetDG hn'
    have hre := edges_row hn'
    (repeat (first | (apply WL.pure; rfl; rfl; rfl) | (apply EX.thenN) | (apply CW.seq) | (apply CW.region) | (apply CW.block) | (apply CW.skip)))
    refine WL.elemN rfl rfl rfl rfl rfl (h2.at hE3) hn' (fun _ => rfl) (fun u q hu => ?_)
    obtain ⟨ro, rc, rfl, hrow⟩ := hu.sl
    have hrl := hrow.len63
    (repeat (first | (apply WL.pure; rfl; rfl; rfl) | (apply WL.nil) | (apply EX.thenN) | (apply CW.seq) | (apply CW.region) | (apply WL.lenS; rfl; rfl; rfl) | (apply CW.block)))
    refine CW.loop (S := Nat × List Raw) (fun s => [(1, .slice io inn.length ic), (2, .pointer (some ⟨w0.heap.size, 0, none⟩)), (5, sv), (6, .int .i64 n), (23, .slice a2 nx.length c2), (24, .int .i64 nx.length), (25, .int .i64 n), (30, .slice ro nx[n].length rc), (31, .int .i64 nx[n].length), (32, .int .i64 s.1)])
      (fun s w => s.1 ≤ nx[n].length ∧ OwnN w w1.heap.size 22 3 sv s.2 (gridP nx.length (inFull nx inn) n (inRow nx inn n s.1)) ∧ Ext w1 w) (fun s => nx[n].length - s.1) (0, vs) (by repeat (first | exact trivial | refine ⟨rfl, ?_⟩)) ⟨Nat.zero_le _, by show OwnN _ _ _ _ _ _ (gridP _ _ _ (inRow nx inn n 0)); rw [show inRow nx inn n 0 = [] by simp [inRow]]; exact hN, e3⟩ ?_
    rintro ⟨j, vs⟩ w4 ⟨hj, hN, e4⟩
    dsimp only at hj hN ⊢
    have hE4 := e1.trans e4
    have hrow4 : Sl w4 (Old w0) ro rc nx[n] := hrow.mono (fun b hb => (hE4.block b hb).trans (hE3.block b hb).symm) (fun _ h => h)
    have hin4 := hin.at hE4
    (repeat (first | (apply WL.pure; rfl; rfl; rfl) | (apply WL.nil) | (apply EX.thenN) | (apply CW.seq) | (apply CW.region)))
    refine CW.cond rfl (fun h => ?_) (fun h => ?_)
    · have hj' : j < nx[n].length := by simp at h; omega
      have hto := hok _ (List.getElem_mem hn') _ (List.getElem_mem hj')
      obtain ⟨to, eto⟩ := Int.eq_ofNat_of_zero_le hto.1
      have hti : to < inn.length := by omega
      have hnext := inRow_next (nx := nx) (inn := inn) (n := n) (j := j) (by rw [erow]; exact hj')
      have hgj : (nx.getD n [])[j]'(by rw [erow]; exact hj') = (to : Int) := by simp only [erow]; exact eto
      rw [hgj, Int.toNat_natCast] at hnext
      have hlen := hN.len
      rw [gridP_len] at hlen
      have hnv : n < vs.length := by omega
      have hin' := hN.inn n hnv (by rw [gridP_len]; exact hn')
      rw [gridP_get hn'] at hin'
      have hil2 : (inRow nx inn n j).length ≤ nx[n].length := by
        unfold inRow; rw [erow]
        exact Nat.le_trans (List.length_filter_le _ _) (by rw [List.length_take]; omega)
      (repeat (first | (apply EX.thenN) | (apply CW.seq) | (apply CW.region) | (apply CW.block) | (apply CW.skip)))
      refine WL.elemI rfl rfl rfl rfl rfl hrow4 hj' eto (fun _ => rfl) (fun q => ?_)
      (repeat (first | (apply WL.pure; rfl; rfl; rfl) | (apply WL.nil) | (apply EX.thenN) | (apply CW.seq) | (apply CW.region)))
      refine WL.elemB rfl rfl rfl rfl rfl hin4 hni (wgetB hni).symm (fun _ => rfl) (fun q => ?_)
      have skipc : (inn.getD n false && inn.getD to false) = false → OwnN w4 w1.heap.size 22 3 sv vs (gridP nx.length (inFull nx inn) n (inRow nx inn n (j + 1))) := fun h => by
        rw [hnext, if_neg (by rw [h]; simp), List.append_nil]; exact hN
      by_cases hc1 : inn.getD n false = true
      · rw [hc1]
        (repeat (apply WL.pure; rfl; rfl; rfl))
        refine WL.elemB rfl rfl rfl rfl rfl hin4 hti (wgetB hti).symm (fun _ => rfl) (fun q => ?_)
        by_cases hc2 : inn.getD to false = true
        · rw [hc2]
          rw [if_pos (by rw [hc1, hc2]; rfl)] at hnext
          (repeat (first | (apply WL.pure; rfl; rfl; rfl) | (apply WL.nil) | (apply EX.thenN) | (apply CW.region) | (apply CW.condT; rfl)))
          refine WL.elemON rfl rfl rfl rfl rfl hN.out hnv (fun _ => rfl) (fun u q hu => ?_)
          obtain ⟨rfl, _⟩ := hu.raw
          (repeat (apply WL.pure; rfl; rfl; rfl))
          refine WL.app1 (F := Non) (yv := (to : Int)) rfl rfl (fun _ => rfl) rfl rfl (fun _ => rfl) hin' (Rd.mkInt _ _ _) e4.size (fun _ h => h.elim) (by decide) (by unfold maxLen; omega) (by omega) (fun v' w5 p ho5 hg5 hnb => ?_)
          rw [← hnext] at ho5
          have hmid := hN.mid hnv hg5
          skip
          refine WL.setN (u := v') (yv := ⟨v'⟩) rfl rfl rfl rfl hmid hnv (fun _ => rfl) (fun _ => rfl) (Rd.mkRaw _ _ _ ?_) (fun w6 q ho6 hg6 => ?_)
          · obtain ⟨a, b, rfl⟩ := ho5.val; rfl
          have hN6 := hN.set hnv ho5 hg5 hnb ho6 hg6
          rw [gridP_set hn'] at hN6
          have e6 : Ext w1 w6 := (e4.grown hg5 e4.size (fun b hb => (hin'.lt b hb).1)).grown hg6 (Nat.le_trans e4.size hg5.size) (fun b hb => (hN.out.lt b hb).1)
          (repeat (first | (apply WL.add; rfl; rfl; rfl; rfl; omega; omega) | (apply WL.pure; rfl; rfl; rfl) | (apply WL.nil) | (apply EX.thenN) | (apply CW.region) | (apply EX.inN)))
          exact EX.back (j + 1, vs.set n ⟨v'⟩) (by repeat (first | exact trivial | refine ⟨rfl, ?_⟩)) ⟨hj', hN6, e6⟩ (by dsimp only; omega)
        · have hc2 : inn.getD to false = false := by simpa using hc2
          rw [hc2]
          (repeat (first | (apply WL.add; rfl; rfl; rfl; rfl; omega; omega) | (apply WL.pure; rfl; rfl; rfl) | (apply WL.nil) | (apply EX.thenN) | (apply CW.region) | (apply EX.inN) | (apply CW.condF; rfl) | (apply CW.skip)))
          exact EX.back (j + 1, vs) (by repeat (first | exact trivial | refine ⟨rfl, ?_⟩)) ⟨hj', skipc (by rw [hc2, Bool.and_false]), e4⟩ (by dsimp only; omega)
      · have hc1 : inn.getD n false = false := by simpa using hc1
        rw [hc1]
        (repeat (first | (apply WL.add; rfl; rfl; rfl; rfl; omega; omega) | (apply WL.pure; rfl; rfl; rfl) | (apply WL.nil) | (apply EX.thenN) | (apply CW.region) | (apply WL.pass; rfl; rfl) | (apply EX.inN) | (apply CW.condF; rfl) | (apply CW.skip)))
        exact EX.back (j + 1, vs) (by repeat (first | exact trivial | refine ⟨rfl, ?_⟩)) ⟨hj', skipc (by rw [hc1, Bool.false_and]), e4⟩ (by dsimp only; omega)
    · obtain rfl : j = nx[n].length := by simp at h; omega
      (repeat (first | (apply WL.add; rfl; rfl; rfl; rfl; omega; omega) | (apply WL.pure; rfl; rfl; rfl) | (apply WL.nil) | (apply EX.thenN) | (apply CW.region) | (apply EX.inN) | (apply CW.exit) | (apply EX.thenX) | (apply EX.inX)))
      refine EX.back (n + 1, vs) (by repeat (first | exact trivial | refine ⟨rfl, ?_⟩)) ⟨hn', ?_, e4⟩ (by dsimp only; omega)
      rw [← erow, inRow_full, gridP_next] at hN
      exact hN
  obtain rfl : n = nx.length := by simp at h; omega
  rw [gridP_done] at hN
  have hgG : (List.range nx.length).map (inFull nx inn) = inG nx inn := rfl
  rw [hgG] at hN
  have hgl := inG_len (nx := nx) (inn := inn)
  have hgok := inG_ok (inn := inn) hok
  have hge := inG_edges (nx := nx) (inn := inn)
  have hb2 : Blk w3 w0.heap.size 26 (cellsL (worldV a1 c1 a2 c2 a3 c3 a4 c4 n1 nx.length n3 fr.length)) := hb20.ext e3
  obtain ⟨go, gc, rfl, hg⟩ := hN.old.sl
  have hfr' : ∀ F ∈ fr, okL (inG nx inn).length F := by rw [hgl]; exact hfr
  clear h hn3 hN
  (repeat (first | (apply WL.pure; rfl; rfl; rfl) | (apply EX.thenN) | (apply CW.seq) | (apply CW.region) | (apply CW.exit) | (apply EX.thenX) | (apply EX.inX)))
  refine WL.call rfl rfl rfl (Split_ok w3 hg (fun _ h => h) hgok (by omega)) ?_
  rintro _ w4 ⟨part, hop, hP, e4⟩
  have hE4 := hE3.trans e4
  have hb2 := hb2.ext e4
  have hg := hg.up e4
  obtain ⟨po, pc, rfl, hp⟩ := hop.oldN.sl
  have hpl := hP.len
  (repeat (first | (apply WL.pure; rfl; rfl; rfl) | (apply WL.nil) | (apply EX.thenN) | (apply CW.seq) | (apply CW.region) | (apply WL.fa; rfl; rfl; rfl) | (apply WL.ld; rfl; rfl; rfl; assumption; rfl)))
  refine WL.call rfl rfl rfl (fairParts_ok w4 hg hp (h4.up hE4) hgok hP (by omega) hfr') ?_
  rintro _ w5 ⟨good, hgo, hgol, hgood, e5⟩
  have hE5 := hE4.trans e5
  have hp := hp.up e5
  have hg := hg.up e5
  obtain ⟨oo, oc, rfl, hgd⟩ := hgo.oldN.sl
  clear hgo hop e4 e5 hb2
  rw [hgl] at hgood
  (repeat (first | (apply WL.pure; rfl; rfl; rfl) | (apply WL.nil) | (apply EX.thenN) | (apply CW.seq) | (apply CW.region) | (apply WL.lenS; rfl; rfl; rfl) | (apply CW.block)))
  refine CW.loop (S := Nat × Value) (fun s => [(1, .slice io inn.length ic), (5, .slice go (inG nx inn).length gc), (10, .slice po part.length pc), (11, .slice oo good.length oc), (12, s.2), (66, .int .i64 (inG nx inn).length), (67, .int .i64 s.1)])
    (fun s w => s.1 ≤ nx.length ∧ Own w w5.heap.size 3 Non s.2 (endsP inn good part s.1) ∧ Ext w5 w) (fun s => nx.length - s.1) (0, .slice none 0 0) (by repeat (first | exact trivial | refine ⟨rfl, ?_⟩)) ⟨Nat.zero_le _, Own.nil, Ext.refl _⟩ ?_
  rintro ⟨n, ev⟩ w6 ⟨hn6, hoe, e6⟩
  dsimp only at hn6 hoe ⊢
  have hel := endsP_len (inn := inn) (good := good) (part := part) (n := n)
  (repeat (first | (apply WL.pure; rfl; rfl; rfl) | (apply WL.nil) | (apply EX.thenN) | (apply CW.seq) | (apply CW.region)))
  refine CW.cond rfl (fun h => ?_) (fun h => ?_)
  · have hn' : n < nx.length := by simp at h; omega
    have hni : n < inn.length := by omega
    have hnp : n < part.length := by omega
    have h0 := hP.ge n hnp
    have h1 := hP.lt n hnp
    obtain ⟨c0, hc0⟩ := Int.eq_ofNat_of_zero_le h0
    have hpn : part[n] = (c0 : Int) := by rw [← wgetDI hnp]; exact hc0
    have hcg : c0 < good.length := by omega
    have hnext := endsP_next (inn := inn) (good := good) (part := part) (n := n)
    rw [hc0, Int.toNat_natCast] at hnext
    (repeat (first | (apply WL.pure; rfl; rfl; rfl) | (apply WL.nil) | (apply EX.thenN) | (apply CW.seq) | (apply CW.region) | (apply CW.block) | (apply CW.skip)))
    refine WL.elemB rfl rfl rfl rfl rfl (hin.at (hE5.trans e6)) hni (wgetB hni).symm (fun _ => rfl) (fun q => ?_)
    by_cases hc1 : inn.getD n false = true
    · rw [hc1]
      (repeat (apply WL.pure; rfl; rfl; rfl))
      refine WL.elemI rfl rfl rfl rfl rfl (hp.up e6) hnp hpn (fun _ => rfl) (fun q => ?_)
      skip
      refine WL.elemB rfl rfl rfl rfl rfl (hgd.up e6) hcg (wgetB hcg).symm (fun _ => rfl) (fun q => ?_)
      by_cases hc2 : good.getD c0 false = true
      · rw [hc2]
        rw [if_pos (by rw [hc1, hc2]; rfl)] at hnext
        (repeat (first | (apply WL.pure; rfl; rfl; rfl) | (apply WL.nil) | (apply EX.thenN) | (apply CW.region) | (apply CW.condT; rfl)))
        refine WL.app1 (F := Non) (yv := (n : Int)) rfl rfl (fun _ => rfl) rfl rfl (fun _ => rfl) hoe (Rd.mkInt _ _ _) e6.size (fun _ h => h.elim) (by decide) (by unfold maxLen; omega) (by omega) (fun v' w7 p ho7 hg7 hnb => ?_)
        rw [← hnext] at ho7
        have e7 : Ext w5 w7 := e6.grown hg7 e6.size (fun b hb => (hoe.lt b hb).1)
        (repeat (first | (apply WL.add; rfl; rfl; rfl; rfl; omega; omega) | (apply WL.pure; rfl; rfl; rfl) | (apply WL.nil) | (apply EX.thenN) | (apply CW.region) | (apply EX.inN)))
        exact EX.back (n + 1, v') (by repeat (first | exact trivial | refine ⟨rfl, ?_⟩)) ⟨hn', ho7, e7⟩ (by dsimp only; omega)
      · have hc2 : good.getD c0 false = false := by simpa using hc2
        rw [hc2]
        rw [if_neg (by rw [hc2]; simp), List.append_nil] at hnext
        (repeat (first | (apply WL.add; rfl; rfl; rfl; rfl; omega; omega) | (apply WL.pure; rfl; rfl; rfl) | (apply WL.nil) | (apply EX.thenN) | (apply CW.region) | (apply EX.inN) | (apply CW.condF; rfl) | (apply CW.skip)))
        exact EX.back (n + 1, ev) (by repeat (first | exact trivial | refine ⟨rfl, ?_⟩)) ⟨hn', by dsimp only; rw [hnext]; exact hoe, e6⟩ (by dsimp only; omega)
    · have hc1 : inn.getD n false = false := by simpa using hc1
      rw [hc1]
      rw [if_neg (by rw [hc1]; simp), List.append_nil] at hnext
      (repeat (first | (apply WL.add; rfl; rfl; rfl; rfl; omega; omega) | (apply WL.pure; rfl; rfl; rfl) | (apply WL.nil) | (apply EX.thenN) | (apply CW.region) | (apply WL.pass; rfl; rfl) | (apply EX.inN) | (apply CW.condF; rfl) | (apply CW.skip)))
      exact EX.back (n + 1, ev) (by repeat (first | exact trivial | refine ⟨rfl, ?_⟩)) ⟨hn', by dsimp only; rw [hnext]; exact hoe, e6⟩ (by dsimp only; omega)
  obtain rfl : n = nx.length := by simp at h; omega
  obtain ⟨eo, ec, rfl, hes⟩ := hoe.oldN.sl
  have hE6 := hE5.trans e6
  have hch : chkG (inG nx inn) = 0 := chkG_of hgok (by omega)
  (repeat (first | (apply WL.pure; rfl; rfl; rfl) | (apply EX.thenN) | (apply CW.seq) | (apply CW.region) | (apply CW.exit) | (apply EX.thenX) | (apply EX.inX)))
  refine WL.call rfl rfl rfl (Turn_ok w6 (hg.up e6)) ?_
  rintro _ w7 ⟨tv, ts, rfl, hTN, e7⟩
  unfold turnF at hTN
  rw [if_pos hch] at hTN
  obtain ⟨to, tc, rfl, htu⟩ := hTN.old.sl
  have htl := turnL_len (inG nx inn)
  have hte := edges_turn (inG nx inn)
  have hte2 : (inG nx inn).length * ((inG nx inn).length + 1) ≤ 600 * 601 := Nat.mul_le_mul (by omega) (by omega)
  have hspec := within_spec (ends := endsP inn good part nx.length) hok hP hfr hgood (fun v => endsP_mem) endsP_pos
  have heok : okL (turnL (inG nx inn)).length (endsP inn good part nx.length) := fun x hx => by
    have h0 := endsP_pos x hx
    have := (endsP_mem (v := x.toNat)).1 (by rw [show ((x.toNat : Nat) : Int) = x by omega]; exact hx)
    rw [htl, hgl]; omega
  have hrF := reachF_of (turnL_ok (inG nx inn)) heok (by omega)
  (repeat (first | (apply WL.pure; rfl; rfl; rfl) | (apply WL.nil) | (apply EX.thenN) | (apply CW.seq) | (apply CW.region)))
  refine WL.call rfl rfl rfl (Reach_ok w7 htu (hes.up e7) (by omega)) ?_
  rw [hrF, hspec]
  rintro _ w8 ⟨rv, rfl, hor, e8⟩
  (repeat (first | (apply WL.pure; rfl; rfl; rfl) | (apply WL.nil) | (apply EX.thenN) | (apply CW.seq) | (apply CW.region) | (apply CW.ret)))
  exact EX.ret1 rfl rfl ⟨hor.low (Nat.le_trans hE6.size e7.size), (hE6.trans e7).trans e8⟩
end Go.Proofs.Ytikigaeihdmcaaa

/-
  Package world: where fair ways begin: plain laws, and Fair walked.
-/
set_option linter.unusedVariables false
set_option linter.unusedSimpArgs false
namespace Go.Proofs.Ytikigaeihdmcaaa
open Go.RowKit

theorem repT {n k : Nat} (h : k < n) : (List.replicate n true).getD k false = true := by
  rw [List.getD_eq_getElem?_getD, List.getElem?_replicate, if_pos h]; rfl
noncomputable abbrev allB (nx fr : Graph) : List Bool := withinB nx (List.replicate nx.length true) fr
theorem all_edge {nx : Graph} (hok : okG nx) {u v : Nat} : Eg (inG nx (List.replicate nx.length true)) u v ↔ Eg nx u v := by
  rw [inG_edge]
  exact ⟨fun h => h.1, fun h => ⟨h, repT h.lt1, repT (h.lt hok)⟩⟩
theorem allB_iff {nx fr : Graph} (hok : okG nx) {n : Nat} (h : n < nx.length) : (allB nx fr).getD n false = true ↔ ∃ r, r 0 = n ∧ Way8 (Eg nx) (setPs fr) r := by
  rw [withinB_iff h, show Eg (inG nx (List.replicate nx.length true)) = Eg nx from funext fun u => funext fun v => propext (all_edge hok)]
theorem Fair_ok (w0 : World) {a1 a2 a3 a4 : Option Addr} {c1 c2 c3 c4 k : Nat} {st : List Int} {nx fr : Graph} (h1 : Sl w0 (Old w0) a1 c1 st) (h2 : Sl w0 (Old w0) a2 c2 nx) (hk : k ≤ 9223372036854775807) (h4 : Sl w0 (Old w0) a4 c4 fr) (hT : edges nx ≤ 8589934592) :
    Rt Try.prog 33 [worldV a1 c1 a2 c2 a3 c3 a4 c4 st.length nx.length k fr.length].toArray w0 fun v w' => ∃ x, v = .tuple ⟨[x, .int .i64 (chkWd st nx k fr)]⟩ ∧ Own w' w0.heap.size 4 Non x (if chkWd st nx k fr = 0 then allB nx fr else []) ∧ Ext w0 w' := by
  have hm2 := h2.len63
  refine Rt.enter1 Try.func33 Try.ntmps33 rfl rfl ?_
  have hE := Ext.refl w0
  (repeat (first | (apply CW.seq) | (apply CW.region)))
  refine WL.boxB rfl rfl rfl fun w1 hb1 e1 => ?_
  have hE := hE.trans e1
  (repeat (first | (apply WL.pure; rfl; rfl; rfl) | (apply WL.nil) | (apply EX.thenN) | (apply CW.seq) | (apply CW.region) | (apply WL.ldA; rfl; rfl; rfl; assumption; rfl)))
  refine WL.call rfl rfl rfl (wCheck_ok w1 (h1.up hE) (h2.up hE) hk (h4.up hE)) ?_
  rintro _ w2 ⟨rfl, e2⟩
  have hb1 := hb1.ext e2
  have hE := hE.trans e2
  (repeat (first | (apply WL.pure; rfl; rfl; rfl) | (apply WL.nil) | (apply EX.thenN) | (apply CW.seq) | (apply CW.region)))
  refine CW.cond rfl (fun h => ?_) (fun h => ?_)
  · have h : chkWd st nx k fr ≠ 0 := by simpa using h
    (repeat (first | (apply WL.pure; rfl; rfl; rfl) | (apply WL.nil) | (apply EX.thenN) | (apply CW.seq) | (apply CW.region) | (apply CW.ret) | (apply EX.thenR)))
    exact EX.ret2 rfl rfl rfl ⟨_, rfl, by rw [if_neg h]; exact Own.nil, hE⟩
  have h : chkWd st nx k fr = 0 := by simpa using h
  obtain ⟨hn600, hf80, hkn, hokst, hoknx, hokfr⟩ := chkWd_ok h
  have hok : okG nx := fun r hr => (hoknx r hr).2
  rw [if_pos h, h]
  (repeat (first | (apply EX.thenN) | (apply CW.seq) | (apply CW.region) | (apply WL.lenS; rfl; rfl; rfl) | (apply WL.fa; rfl; rfl; rfl) | (apply WL.ld; rfl; rfl; rfl; assumption; rfl) | (apply CW.skip)))
  refine WL.make (α := Bool) rfl rfl rfl rfl (by omega) (by unfold maxLen; omega) (fun w3 ho3 hg3 => ?_)
  have e3 : Ext w2 w3 := (Below.refl _ _).grown hg3 (Nat.le_refl _) (fun k h => by cases h)
  generalize hsv : Value.slice (some ⟨w2.heap.size, 0, none⟩) nx.length nx.length = sv at *
  have hlv : ∃ ao cap, sv = .slice ao nx.length cap := ⟨_, _, hsv.symm⟩
  (repeat (first | (apply WL.pure; rfl; rfl; rfl) | (apply WL.nil) | (apply EX.thenN) | (apply CW.seq) | (apply CW.region) | (apply CW.block) | (refine WL.lenO rfl rfl rfl (by assumption) ?_)))
  rw [List.length_replicate]
  refine CW.loop (S := Nat × List Bool) (fun s => [(1, .pointer (some ⟨w0.heap.size, 0, none⟩)), (5, sv), (17, .int .i64 nx.length), (18, .int .i64 s.1)])
    (fun s w => s.1 ≤ nx.length ∧ Own w w2.heap.size 4 Non sv s.2 ∧ s.2.length = nx.length ∧ (∀ c, c < s.1 → s.2.getD c false = true) ∧ Ext w2 w) (fun s => nx.length - s.1) (0, List.replicate nx.length false) (by repeat (first | exact trivial | refine ⟨rfl, ?_⟩)) ⟨Nat.zero_le _, ho3, by simp, fun c hc => absurd hc (by dsimp only; omega), e3⟩ ?_
  rintro ⟨i, inn⟩ w4 ⟨hi, ho, hil, hin, e4⟩
  dsimp only at hi ho hil hin ⊢
  have hE4 := hE.trans e4
  have hb4 := hb1.ext e4
  (repeat (first | (apply WL.pure; rfl; rfl; rfl) | (apply WL.nil) | (apply EX.thenN) | (apply CW.seq) | (apply CW.region)))
  refine CW.cond rfl (fun h => ?_) (fun h => ?_)
  · have hi' : i < nx.length := by simp at h; omega
    (repeat (first | (apply WL.pure; rfl; rfl; rfl) | (apply WL.nil) | (apply EX.thenN) | (apply CW.seq) | (apply CW.region) | (apply CW.block) | (apply CW.skip)))
    refine WL.setN (u := .bool true) (yv := true) rfl rfl rfl rfl ho (show i < inn.length by omega) (fun _ => rfl) (fun _ => rfl) (Rd.mkBool _ _ _) (fun w5 q2 ho5 hg5 => ?_)
    have e5 : Ext w2 w5 := e4.grown hg5 e4.size (fun b hb => (ho.lt b hb).1)
    (repeat (first | (apply WL.add; rfl; rfl; rfl; rfl; omega; omega) | (apply WL.pure; rfl; rfl; rfl) | (apply WL.nil) | (apply EX.thenN) | (apply CW.region) | (apply EX.inN)))
    refine EX.back (i + 1, inn.set i true) (by repeat (first | exact trivial | refine ⟨rfl, ?_⟩)) ⟨hi', ho5, by simpa using hil, fun c hc => ?_, e5⟩ (by dsimp only; omega)
    dsimp only at hc ⊢
    rw [getD_set (by omega)]
    by_cases e : i = c
    · rw [if_pos e]
    · rw [if_neg e]; exact hin c (by omega)
  obtain rfl : i = nx.length := by simp at h; omega
  have hrep : inn = List.replicate nx.length true := by
    refine List.ext_getElem (by simpa using hil) fun c h1 h2 => ?_
    rw [← wgetB h1, List.getElem_replicate]
    exact hin c (by omega)
  subst hrep
  obtain ⟨io, ic, hiv, his⟩ := ho.oldN.sl
  subst hiv
  (repeat (first | (apply WL.pure; rfl; rfl; rfl) | (apply EX.thenN) | (apply CW.seq) | (apply CW.region) | (apply WL.ldA; rfl; rfl; rfl; assumption; rfl) | (apply CW.exit) | (apply EX.thenX) | (apply EX.inX)))
  refine WL.call rfl rfl rfl (Within_ok w4 (h2.up hE4) (h4.up hE4) his hok hokfr (by simp) hn600 hT) ?_
  rintro v w5 ⟨hov, e5⟩
  (repeat (first | (apply WL.pure; rfl; rfl; rfl) | (apply WL.nil) | (apply EX.thenN) | (apply CW.ret)))
  exact EX.ret2 rfl rfl rfl ⟨_, rfl, hov.low hE4.size, hE4.trans e5⟩
end Go.Proofs.Ytikigaeihdmcaaa

/-
  Formulas of one way: how they lie in memory, their check.
-/
set_option linter.unusedVariables false
set_option linter.unusedSimpArgs false
namespace Go.Proofs.Ytikigaeihdmcaaa
open Go.RowKit

inductive Ltl where
  | mk (k n : Int) (kids : List Ltl) : Ltl
def Ltl.k : Ltl → Int | .mk k _ _ => k
def Ltl.n : Ltl → Int | .mk _ n _ => n
def Ltl.kids : Ltl → List Ltl | .mk _ _ l => l
mutual
def Ltl.nodes : Ltl → Nat
  | .mk _ _ kids => 1 + Ltl.nodesL kids
def Ltl.nodesL : List Ltl → Nat
  | [] => 0
  | x :: r => x.nodes + Ltl.nodesL r
end
theorem Ltl.nodes_pos (t : Ltl) : 0 < t.nodes := by cases t; simp [Ltl.nodes]; omega
theorem Ltl.nodes_kid : ∀ (l : List Ltl) (x : Ltl), x ∈ l → x.nodes ≤ Ltl.nodesL l
  | [], x, h => by cases h
  | y :: r, x, h => by
    simp only [Ltl.nodesL]
    rcases List.mem_cons.1 h with rfl | h
    · omega
    · have := Ltl.nodes_kid r x h; omega

inductive RdT (w : World) (F : Nat → Prop) : List Value → Ltl → Prop
  | mk (k n : Int) (kids : List Ltl) (ao : Option Addr) (cap : Nat) (es : Nat → List Value) : kids.length ≤ cap → cap ≤ maxLen → (ao = none → cap = 0) →
      (∀ i, i < kids.length → ∃ b off, ao = some ⟨b, off, none⟩ ∧ F b ∧ Cells w b (off + i * 3) (es i)) → (∀ i (h : i < kids.length), RdT w F (es i) kids[i]) →
      RdT w F [.int .i64 k, .int .i64 n, .slice ao kids.length cap] (.mk k n kids)
instance iLtl1 : Rep Ltl where
  sz := 3
  pos := by decide
  agg := true
  rd := RdT
  len := by intro w F cs x h; cases h; rfl
  one := by
    intro w F cs x h v hv
    cases h
    simp at hv
    rcases hv with rfl | rfl | rfl <;> rfl
  szAgg := fun h => by cases h
  mono := by
    intro w w' F F' cs x h hb hF
    induction h with
    | mk k n kids ao cap es h1 h2 h3 h4 h5 ih =>
      refine .mk k n kids ao cap es h1 h2 h3 (fun i hi => ?_) (fun i hi => ih i hi)
      obtain ⟨b, off, e, hf, hc⟩ := h4 i hi
      exact ⟨b, off, e, hF b hf, hc.mono (hb b hf)⟩
theorem RdT.sl {w : World} {F : Nat → Prop} {cs : List Value} {t : Ltl} (h : rd w F cs t) : ∃ ao cap, cs = [.int .i64 t.k, .int .i64 t.n, .slice ao t.kids.length cap] ∧ Sl w F ao cap t.kids := by
  cases h with
  | mk k n kids ao cap es h1 h2 h3 h4 h5 =>
    refine ⟨ao, cap, rfl, h1, h2, h3, fun i hi => ?_⟩
    obtain ⟨b, off, e, hf, hc⟩ := h4 i hi
    exact ⟨b, off, e, hf, es i, hc, h5 i hi⟩
theorem RdT.of {w : World} {F : Nat → Prop} {k n : Int} {kids : List Ltl} {ao : Option Addr} {cap : Nat} (h : Sl w F ao cap kids) : rd w F [.int .i64 k, .int .i64 n, .slice ao kids.length cap] (Ltl.mk k n kids) := by
  have h4 : ∀ i, ∃ es : List Value, ∀ hi : i < kids.length, ∃ b off, ao = some ⟨b, off, none⟩ ∧ F b ∧ Cells w b (off + i * 3) es ∧ rd w F es kids[i] := by
    intro i
    by_cases hi : i < kids.length
    · obtain ⟨b, off, e, hf, es, hc, hr⟩ := h.el i hi
      exact ⟨es, fun _ => ⟨b, off, e, hf, hc, hr⟩⟩
    · exact ⟨[], fun h => absurd h hi⟩
  refine .mk k n kids ao cap (fun i => Classical.choose (h4 i)) h.le h.mx h.nil (fun i hi => ?_) (fun i hi => ?_)
  · obtain ⟨b, off, e, hf, hc, _⟩ := Classical.choose_spec (h4 i) hi
    exact ⟨b, off, e, hf, hc⟩
  · obtain ⟨b, off, e, hf, hc, hr⟩ := Classical.choose_spec (h4 i) hi
    exact hr
abbrev ltlV (k n : Int) (ao : Option Addr) (len cap : Nat) : Value := .agg [.int .i64 k, .int .i64 n, .slice ao len cap].toArray
theorem Rd.ltl {w : World} {F : Nat → Prop} {v : Value} {t : Ltl} (h : Rd w F v t) : ∃ ao cap, v = ltlV t.k t.n ao t.kids.length cap ∧ Sl w F ao cap t.kids := by
  obtain ⟨cs, e, hr⟩ := h
  obtain ⟨ao, cap, rfl, hs⟩ := RdT.sl hr
  exact ⟨ao, cap, e, hs⟩
theorem Rd.mkLtl {w : World} {F : Nat → Prop} {k n : Int} {kids : List Ltl} {ao : Option Addr} {cap : Nat} (h : Sl w F ao cap kids) : Rd w F (ltlV k n ao kids.length cap) (Ltl.mk k n kids) := ⟨_, rfl, RdT.of h⟩
instance iLtl14 : IsC Try.prog 82 1 false := IsC.of (by kernel_rfl) Try.underlying82 rfl

def kidsK (k : Int) : Int := if k = 1 ∨ k = 2 ∨ k = 3 then 0 else if k = 4 ∨ k = 7 ∨ k = 10 ∨ k = 11 then 1 else if k = 5 ∨ k = 6 ∨ k = 8 ∨ k = 9 then 2 else -1
end Go.Proofs.Ytikigaeihdmcaaa

/-
  Package ltl: Check.
-/
set_option linter.unusedVariables false
set_option linter.unusedSimpArgs false
namespace Go.Proofs.Ytikigaeihdmcaaa
open Go.RowKit

theorem grown_tr {w w1 w2 : World} {r : Option Nat} (h1 : w.grownBy w1 r) (h2 : w1.grownBy w2 r) : w.grownBy w2 r :=
  ⟨h2.os.trans h1.os, h2.tape.trans h1.tape, h2.output.trans h1.output, Nat.le_trans h1.size h2.size, fun k hk hne => (h2.block k (Nat.lt_of_lt_of_le hk h1.size) hne).trans (h1.block k hk hne)⟩
theorem Ext.grw {w w1 : World} (h : Ext w w1) (r : Option Nat) : w.grownBy w1 r := ⟨h.os, h.tape, h.output, h.size, fun k hk _ => h.block k hk⟩
end Go.Proofs.Ytikigaeihdmcaaa

/-
  Formulas of all ways: how they lie in memory (as those of one way do), their check.
-/
set_option linter.unusedVariables false
set_option linter.unusedSimpArgs false
namespace Go.Proofs.Ytikigaeihdmcaaa
open Go.RowKit

instance iCtl2 : IsT Try.prog 29 Ltl := IsT.of (by kernel_rfl) Try.underlying29 rfl
instance iCtl3 : IsS Try.prog 27 29 := ⟨Try.underlying27⟩
instance iCtl4 : IsT Try.prog 27 (List Ltl) := IsT.of (by kernel_rfl) Try.underlying27 rfl
instance iCtl5 : IsZ Try.prog 29 (Ltl.mk 0 0 []) 40 := IsZ.of (z := .agg #[.int .i64 0, .int .i64 0, .slice none 0 0]) (by kernel_rfl) (fun _ _ => RdT.of (kids := []) ⟨by simp, by simp [maxLen], fun _ => rfl, fun i hi => absurd hi (by simp)⟩)
instance iCtl6 : IsC Try.prog 29 3 true := IsC.of (by kernel_rfl) Try.underlying29 rfl
instance iCtl7 : IsC Try.prog 27 1 false := IsC.of (by kernel_rfl) Try.underlying27 rfl
instance iCtl8 : IsZC Try.prog 27 [.slice none 0 0] := IsZC.of (z := .slice none 0 0) (by kernel_rfl) rfl
instance iCtl9 : IsFd Try.prog 29 0 0 := IsFd.of (by kernel_rfl)
instance iCtl10 : IsFd Try.prog 29 1 1 := IsFd.of (by kernel_rfl)
instance iCtl11 : IsFd Try.prog 29 2 2 := IsFd.of (by kernel_rfl)
instance iCtl12 : IsZC Try.prog 29 [.int .i64 0, .int .i64 0, .slice none 0 0] := IsZC.of (z := .agg #[.int .i64 0, .int .i64 0, .slice none 0 0]) (by kernel_rfl) rfl
instance iCtl13 : IsBd Try.prog 29 [(0, 1), (1, 1), (2, 1)] := IsBd.of (by kernel_rfl)
def kidsC (k : Int) : Int := if k = 1 ∨ k = 2 ∨ k = 3 then 0 else if k = 4 ∨ k = 7 ∨ k = 8 ∨ k = 9 ∨ k = 11 ∨ k = 12 ∨ k = 13 then 1 else if k = 5 ∨ k = 6 ∨ k = 10 ∨ k = 14 then 2 else -1
theorem ckids_ok (w : World) (k : Int) : Rt Try.prog 65 [.int .i64 k].toArray w fun v w' => v = .int .i64 (kidsC k) ∧ w = w' := by
  refine Rt.enter1 Try.func65 Try.ntmps65 rfl rfl ?_
  unfold kidsC
  (repeat (first | (apply WL.pure; rfl; rfl; rfl) | (apply WL.nil) | (apply EX.thenN) | (apply CW.seq) | (apply CW.region) | (apply CW.block)))
  refine CW.cond rfl (fun h => ?_) (fun h => ?_) <;> simp at h
  · subst h; (repeat (first | (apply WL.pure; rfl; rfl; rfl) | (apply WL.nil) | (apply EX.thenN) | (apply CW.seq) | (apply CW.region) | (apply CW.condT; rfl) | (apply CW.ret) | (apply EX.thenR) | (apply EX.inR) | (apply CW.skip)))
    exact EX.ret1 rfl rfl ⟨rfl, rfl⟩
  (repeat (first | (apply WL.pure; rfl; rfl; rfl) | (apply WL.nil) | (apply EX.thenN) | (apply CW.seq) | (apply CW.region)))
  refine CW.cond rfl (fun h => ?_) (fun h => ?_) <;> simp at h
  · subst h; (repeat (first | (apply WL.pure; rfl; rfl; rfl) | (apply WL.nil) | (apply EX.thenN) | (apply CW.seq) | (apply CW.region) | (apply CW.condT; rfl) | (apply CW.ret) | (apply EX.thenR) | (apply EX.inR) | (apply CW.skip)))
    exact EX.ret1 rfl rfl ⟨rfl, rfl⟩
  (repeat (first | (apply WL.pure; rfl; rfl; rfl) | (apply WL.nil) | (apply EX.thenN) | (apply CW.region)))
  refine CW.cond rfl (fun h => ?_) (fun h => ?_) <;> simp at h
  · subst h; (repeat (first | (apply WL.pure; rfl; rfl; rfl) | (apply WL.nil) | (apply EX.thenN) | (apply CW.seq) | (apply CW.region) | (apply CW.ret) | (apply EX.thenR) | (apply EX.inR)))
    exact EX.ret1 rfl rfl ⟨rfl, rfl⟩
  rw [if_neg (by omega)]
  (repeat (first | (apply WL.pure; rfl; rfl; rfl) | (apply WL.nil) | (apply EX.thenN) | (apply CW.seq) | (apply CW.region)))
  refine CW.cond rfl (fun h => ?_) (fun h => ?_) <;> simp at h
  · subst h; (repeat (first | (apply WL.pure; rfl; rfl; rfl) | (apply WL.nil) | (apply EX.thenN) | (apply CW.seq) | (apply CW.region) | (apply CW.condT; rfl) | (apply CW.ret) | (apply EX.thenR) | (apply EX.inR) | (apply CW.skip)))
    exact EX.ret1 rfl rfl ⟨rfl, rfl⟩
  (repeat (first | (apply WL.pure; rfl; rfl; rfl) | (apply WL.nil) | (apply EX.thenN) | (apply CW.seq) | (apply CW.region)))
  refine CW.cond rfl (fun h => ?_) (fun h => ?_) <;> simp at h
  · subst h; (repeat (first | (apply WL.pure; rfl; rfl; rfl) | (apply WL.nil) | (apply EX.thenN) | (apply CW.seq) | (apply CW.region) | (apply CW.condT; rfl) | (apply CW.ret) | (apply EX.thenR) | (apply EX.inR) | (apply CW.skip)))
    exact EX.ret1 rfl rfl ⟨rfl, rfl⟩
  (repeat (first | (apply WL.pure; rfl; rfl; rfl) | (apply WL.nil) | (apply EX.thenN) | (apply CW.seq) | (apply CW.region)))
  refine CW.cond rfl (fun h => ?_) (fun h => ?_) <;> simp at h
  · subst h; (repeat (first | (apply WL.pure; rfl; rfl; rfl) | (apply WL.nil) | (apply EX.thenN) | (apply CW.seq) | (apply CW.region) | (apply CW.condT; rfl) | (apply CW.ret) | (apply EX.thenR) | (apply EX.inR) | (apply CW.skip)))
    exact EX.ret1 rfl rfl ⟨rfl, rfl⟩
  (repeat (first | (apply WL.pure; rfl; rfl; rfl) | (apply WL.nil) | (apply EX.thenN) | (apply CW.seq) | (apply CW.region)))
  refine CW.cond rfl (fun h => ?_) (fun h => ?_) <;> simp at h
  · subst h; (repeat (first | (apply WL.pure; rfl; rfl; rfl) | (apply WL.nil) | (apply EX.thenN) | (apply CW.seq) | (apply CW.region) | (apply CW.condT; rfl) | (apply CW.ret) | (apply EX.thenR) | (apply EX.inR) | (apply CW.skip)))
    exact EX.ret1 rfl rfl ⟨rfl, rfl⟩
  (repeat (first | (apply WL.pure; rfl; rfl; rfl) | (apply WL.nil) | (apply EX.thenN) | (apply CW.seq) | (apply CW.region)))
  refine CW.cond rfl (fun h => ?_) (fun h => ?_) <;> simp at h
  · subst h; (repeat (first | (apply WL.pure; rfl; rfl; rfl) | (apply WL.nil) | (apply EX.thenN) | (apply CW.seq) | (apply CW.region) | (apply CW.condT; rfl) | (apply CW.ret) | (apply EX.thenR) | (apply EX.inR) | (apply CW.skip)))
    exact EX.ret1 rfl rfl ⟨rfl, rfl⟩
  (repeat (first | (apply WL.pure; rfl; rfl; rfl) | (apply WL.nil) | (apply EX.thenN) | (apply CW.seq) | (apply CW.region)))
  refine CW.cond rfl (fun h => ?_) (fun h => ?_) <;> simp at h
  · subst h; (repeat (first | (apply WL.pure; rfl; rfl; rfl) | (apply WL.nil) | (apply EX.thenN) | (apply CW.seq) | (apply CW.region) | (apply CW.condT; rfl) | (apply CW.ret) | (apply EX.thenR) | (apply EX.inR) | (apply CW.skip)))
    exact EX.ret1 rfl rfl ⟨rfl, rfl⟩
  (repeat (first | (apply WL.pure; rfl; rfl; rfl) | (apply WL.nil) | (apply EX.thenN) | (apply CW.region)))
  refine CW.cond rfl (fun h => ?_) (fun h => ?_) <;> simp at h
  · subst h; (repeat (first | (apply WL.pure; rfl; rfl; rfl) | (apply WL.nil) | (apply EX.thenN) | (apply CW.seq) | (apply CW.region) | (apply CW.ret) | (apply EX.thenR) | (apply EX.inR)))
    exact EX.ret1 rfl rfl ⟨rfl, rfl⟩
  rw [if_neg (by omega)]
  (repeat (first | (apply WL.pure; rfl; rfl; rfl) | (apply WL.nil) | (apply EX.thenN) | (apply CW.seq) | (apply CW.region)))
  refine CW.cond rfl (fun h => ?_) (fun h => ?_) <;> simp at h
  · subst h; (repeat (first | (apply WL.pure; rfl; rfl; rfl) | (apply WL.nil) | (apply EX.thenN) | (apply CW.seq) | (apply CW.region) | (apply CW.condT; rfl) | (apply CW.ret) | (apply EX.thenR) | (apply EX.inR) | (apply CW.skip)))
    exact EX.ret1 rfl rfl ⟨rfl, rfl⟩
  (repeat (first | (apply WL.pure; rfl; rfl; rfl) | (apply WL.nil) | (apply EX.thenN) | (apply CW.seq) | (apply CW.region)))
  refine CW.cond rfl (fun h => ?_) (fun h => ?_) <;> simp at h
  · subst h; (repeat (first | (apply WL.pure; rfl; rfl; rfl) | (apply WL.nil) | (apply EX.thenN) | (apply CW.seq) | (apply CW.region) | (apply CW.condT; rfl) | (apply CW.ret) | (apply EX.thenR) | (apply EX.inR) | (apply CW.skip)))
    exact EX.ret1 rfl rfl ⟨rfl, rfl⟩
  (repeat (first | (apply WL.pure; rfl; rfl; rfl) | (apply WL.nil) | (apply EX.thenN) | (apply CW.seq) | (apply CW.region)))
  refine CW.cond rfl (fun h => ?_) (fun h => ?_) <;> simp at h
  · subst h; (repeat (first | (apply WL.pure; rfl; rfl; rfl) | (apply WL.nil) | (apply EX.thenN) | (apply CW.seq) | (apply CW.region) | (apply CW.condT; rfl) | (apply CW.ret) | (apply EX.thenR) | (apply EX.inR) | (apply CW.skip)))
    exact EX.ret1 rfl rfl ⟨rfl, rfl⟩
  (repeat (first | (apply WL.pure; rfl; rfl; rfl) | (apply WL.nil) | (apply EX.thenN) | (apply CW.region)))
  refine CW.cond rfl (fun h => ?_) (fun h => ?_) <;> simp at h
  · subst h; (repeat (first | (apply WL.pure; rfl; rfl; rfl) | (apply WL.nil) | (apply EX.thenN) | (apply CW.seq) | (apply CW.region) | (apply CW.ret) | (apply EX.thenR) | (apply EX.inR)))
    exact EX.ret1 rfl rfl ⟨rfl, rfl⟩
  rw [if_neg (by omega)]
  (repeat (first | (apply WL.pure; rfl; rfl; rfl) | (apply WL.nil) | (apply EX.thenN) | (apply CW.seq) | (apply CW.region) | (apply EX.inN) | (apply CW.ret) | (apply CW.skip)))
  exact EX.ret1 rfl rfl ⟨rfl, rfl⟩
mutual
def chkC : Ltl → Int → Int → Int × Int
  | .mk k n kids, deep, c => if c + 1 > 60 then (2, c + 1) else if deep > 20 then (5, c + 1) else if kidsC k ≠ kids.length ∨ n < 0 ∨ n > 63 ∨ (k ≠ 3 ∧ n ≠ 0) then (1, c + 1) else chkCL kids (deep + 1) (c + 1)
def chkCL : List Ltl → Int → Int → Int × Int
  | [], _, c => (0, c)
  | x :: r, deep, c => if (chkC x deep c).1 ≠ 0 then chkC x deep c else chkCL r deep (chkC x deep c).2
end
mutual
theorem chkC_le : ∀ (t : Ltl) (deep c : Int), (chkC t deep c).1 = 0 → c < (chkC t deep c).2 ∧ (chkC t deep c).2 ≤ 60
  | .mk k n kids, deep, c, h => by
    simp only [chkC] at h ⊢
    split at h
    · cases h
    · rename_i h1
      rw [if_neg h1]
      split at h
      · cases h
      · rename_i h2
        rw [if_neg h2]
        split at h
        · cases h
        · rename_i h3
          rw [if_neg h3]
          have := chkCL_le kids (deep + 1) (c + 1) (by omega) h
          omega
theorem chkCL_le : ∀ (l : List Ltl) (deep c : Int), c ≤ 60 → (chkCL l deep c).1 = 0 → c ≤ (chkCL l deep c).2 ∧ (chkCL l deep c).2 ≤ 60
  | [], deep, c, hc, h => by simp only [chkCL]; omega
  | x :: r, deep, c, hc, h => by
    simp only [chkCL] at h ⊢
    split at h
    · rename_i h1; exact absurd h h1
    · rename_i h1
      rw [if_neg h1]
      have h2 := chkC_le x deep c (by simpa using h1)
      have h3 := chkCL_le r deep _ h2.2 h
      omega
end
theorem ccheck_ok : ∀ (m : Nat) (t : Ltl), t.nodes ≤ m → ∀ (w : World) (F : Nat → Prop) (deep c : Int) (bn : Nat) (ao : Option Addr) (cap : Nat), Sl w F ao cap t.kids → (∀ b, F b → b < w.heap.size) → ¬ F bn →
    Blk w bn 3 [.int .i64 c] → 0 ≤ c → c ≤ 60 → 0 ≤ deep → deep ≤ 1000 →
    Rt Try.prog 51 [ltlV t.k t.n ao t.kids.length cap, .int .i64 deep, .pointer (some ⟨bn, 0, none⟩)].toArray w fun v w' => v = .int .i64 (chkC t deep c).1 ∧ Blk w' bn 3 [.int .i64 (chkC t deep c).2] ∧ w.grownBy w' (some bn)
  | 0, t, hm => by have := t.nodes_pos; omega
  | m + 1, .mk k n kids, hm => by
    intro w F deep c bn ao cap hs hF hn hb hc0 hc1 hd0 hd1
    simp only [Ltl.kids, Ltl.k, Ltl.n] at *
    refine Rt.enter3 Try.func51 Try.ntmps51 rfl rfl ?_
    have hlen := hs.len63
    have hbn := hb.lt
    (repeat (first | (apply CW.seq) | (apply CW.region)))
    refine WL.boxB rfl rfl rfl fun w1 hf hE1 => ?_
    have hb1 := hb.ext hE1
    have hg1 := hE1.grw (some bn)
    (repeat (first | (apply WL.add; rfl; rfl; rfl; rfl; omega; omega) | (apply WL.pure; rfl; rfl; rfl) | (apply WL.nil) | (apply EX.thenN) | (apply CW.seq) | (apply CW.region) | (apply WL.nck; rfl; rfl; rfl) | (apply WL.ld; rfl; rfl; rfl; assumption; rfl)))
    refine WL.st rfl rfl rfl hb1 rfl rfl (ones_of rfl) (fun w2 hb2 hgr => ?_)
    have hf2 := hf.kept hgr (by simp; omega)
    have hg2 := grown_tr hg1 hgr
    simp only [chkC]
    (repeat (first | (apply WL.pure; rfl; rfl; rfl) | (apply WL.nil) | (apply EX.thenN) | (apply CW.seq) | (apply CW.region) | (apply WL.nck; rfl; rfl; rfl) | (apply WL.ld; rfl; rfl; rfl; assumption; rfl) | (apply CW.block)))
    refine CW.cond rfl (fun h => ?_) (fun h => ?_) <;> simp only [decide_eq_true_eq, decide_eq_false_iff_not, gt_iff_lt] at h
    · (repeat (first | (apply WL.pure; rfl; rfl; rfl) | (apply WL.nil) | (apply EX.thenN) | (apply CW.seq) | (apply CW.region) | (apply CW.ret) | (apply EX.thenR) | (apply EX.inR)))
      refine EX.ret1 rfl rfl ?_
      rw [if_pos h]
      exact ⟨rfl, hb2, hg2⟩
    rw [if_neg (by omega)]
    (repeat (first | (apply WL.pure; rfl; rfl; rfl) | (apply WL.nil) | (apply EX.thenN) | (apply CW.seq) | (apply CW.region)))
    refine CW.cond rfl (fun h1 => ?_) (fun h1 => ?_) <;> simp only [decide_eq_true_eq, decide_eq_false_iff_not, gt_iff_lt] at h1
    · (repeat (first | (apply WL.pure; rfl; rfl; rfl) | (apply WL.nil) | (apply EX.thenN) | (apply CW.seq) | (apply CW.region) | (apply CW.ret) | (apply EX.thenR) | (apply EX.inR)))
      refine EX.ret1 rfl rfl ?_
      rw [if_pos h1]
      exact ⟨rfl, hb2, hg2⟩
    rw [if_neg (by omega)]
    refine CW.cutE [(1, .int .i64 deep), (2, .pointer (some ⟨bn, 0, none⟩)), (3, .pointer (some ⟨w.heap.size, 0, none⟩)), (23, .bool (decide (kidsC k ≠ kids.length ∨ n < 0 ∨ n > 63 ∨ (k ≠ 3 ∧ n ≠ 0))))] ?_ ?_
    · (repeat (first | (apply CW.seq) | (apply QL.fa; rfl; rfl; rfl) | (apply QL.ld; rfl; rfl; rfl; assumption; rfl) | (apply CW.draw; exact mixed; kernel_rfl)))
      refine QL.call rfl rfl rfl (fun w' h => Rt.mono (ckids_ok w' k) (fun v w'' hv => ⟨hv.1, hv.2 ▸ Ext.refl _⟩)) ?_
      (repeat (first | (apply QL.pure; rfl; rfl; rfl) | (apply QL.lenS; rfl; rfl; rfl) | (apply QL.fa; rfl; rfl; rfl) | (apply QL.ld; rfl; rfl; rfl; assumption; rfl)))
      refine QL.nil fun w3 hE3 => ?_
      have hf3 := hf2.ext hE3
      (repeat (apply EX.thenN))
      refine CW.cond rfl (fun h2 => ?_) (fun h2 => ?_) <;> simp at h2
      · (repeat (apply CW.skip))
        refine EX.cutE ⟨rfl, rfl, rfl, ?_, trivial⟩ hE3
        refine congrArg (fun b => some (Value.bool b)) ?_
        have : (kidsC k != (kids.length : Int)) = true := by simpa using h2
        rw [this, decide_eq_true (.inl h2)]
      · (repeat (first | (apply WL.pure; rfl; rfl; rfl) | (apply CW.seq) | (apply CW.region) | (apply WL.fa; rfl; rfl; rfl) | (apply WL.ld; rfl; rfl; rfl; assumption; rfl)))
        (refine WL.lookG rfl rfl (fun h => ?_) (fun h => ?_)) <;> simp at h
        · (repeat (first | (apply WL.pure; rfl; rfl; rfl) | (apply WL.nil) | (apply EX.thenN) | (apply WL.pass; rfl; rfl) | (apply CW.condT; rfl) | (apply CW.skip)))
          refine EX.cutE ⟨rfl, rfl, rfl, ?_, trivial⟩ hE3
          refine congrArg (fun b => some (Value.bool b)) ?_
          rw [decide_eq_true (.inr (.inl h))]
        · (repeat (first | (apply WL.pure; rfl; rfl; rfl) | (apply WL.nil) | (apply EX.thenN) | (apply WL.fa; rfl; rfl; rfl) | (apply WL.ld; rfl; rfl; rfl; assumption; rfl)))
          refine CW.cond rfl (fun h3 => ?_) (fun h3 => ?_) <;> simp at h3
          · (repeat (apply CW.skip))
            refine EX.cutE ⟨rfl, rfl, rfl, ?_, trivial⟩ hE3
            refine congrArg (fun b => some (Value.bool b)) ?_
            rw [decide_eq_true h3, decide_eq_true (.inr (.inr (.inl h3)))]
          · (repeat (first | (apply WL.pure; rfl; rfl; rfl) | (apply CW.region) | (apply WL.fa; rfl; rfl; rfl) | (apply WL.ld; rfl; rfl; rfl; assumption; rfl)))
            (refine WL.lookG rfl rfl (fun h => ?_) (fun h => ?_)) <;> simp at h
            · (repeat (first | (apply WL.pure; rfl; rfl; rfl) | (apply WL.nil) | (apply WL.fa; rfl; rfl; rfl) | (apply WL.ld; rfl; rfl; rfl; assumption; rfl)))
              refine EX.cutE ⟨rfl, rfl, rfl, ?_, trivial⟩ hE3
              refine congrArg (fun b => some (Value.bool b)) ?_
              (rw [Bool.eq_iff_iff]; simp; try omega)
            · (repeat (first | (apply WL.pure; rfl; rfl; rfl) | (apply WL.nil) | (apply WL.pass; rfl; rfl)))
              refine EX.cutE ⟨rfl, rfl, rfl, ?_, trivial⟩ hE3
              refine congrArg (fun b => some (Value.bool b)) ?_
              (rw [Bool.eq_iff_iff]; simp; try omega)
    intro w3 hE3
    have hb3 := hb2.ext hE3
    have hf3 := hf2.ext hE3
    have hg3 := grown_tr hg2 (hE3.grw (some bn))
    refine CW.cond rfl (fun h2 => ?_) (fun h2 => ?_) <;> simp only [decide_eq_true_eq, decide_eq_false_iff_not] at h2
    · rw [if_pos h2]
      (repeat (first | (apply WL.pure; rfl; rfl; rfl) | (apply WL.nil) | (apply EX.thenN) | (apply CW.seq) | (apply CW.region) | (apply CW.ret) | (apply EX.thenR) | (apply EX.inR)))
      exact EX.ret1 rfl rfl ⟨rfl, hb3, hg3⟩
    rw [if_neg h2]
    (repeat (first | (apply WL.pure; rfl; rfl; rfl) | (apply WL.nil) | (apply EX.thenN) | (apply CW.seq) | (apply CW.region) | (apply WL.lenS; rfl; rfl; rfl) | (apply WL.fa; rfl; rfl; rfl) | (apply WL.ld; rfl; rfl; rfl; assumption; rfl) | (apply CW.block) | (apply EX.inN) | (apply CW.skip)))
    refine CW.loop (S := Nat × Int) (fun x => [(1, .int .i64 deep), (2, .pointer (some ⟨bn, 0, none⟩)), (48, .slice ao kids.length cap), (49, .int .i64 (kids.length : Int)), (50, .int .i64 (x.1 : Int))])
      (fun x w' => w.grownBy w' (some bn) ∧ Blk w' bn 3 [.int .i64 x.2] ∧ 0 ≤ x.2 ∧ x.2 ≤ 60 ∧ x.1 ≤ kids.length ∧ chkCL kids (deep + 1) (c + 1) = chkCL (kids.drop x.1) (deep + 1) x.2) (fun x => kids.length - x.1) (0, c + 1) (by repeat (first | exact trivial | refine ⟨rfl, ?_⟩)) ⟨hg3, hb3, by simp only; omega, by simp only; omega, by omega, rfl⟩ ?_
    rintro ⟨i, ci⟩ w4 ⟨hg4, hb4, hci0, hci, hi, heq⟩
    simp only at hb4 hci0 hci hi heq
    rw [heq]
    (repeat (first | (apply WL.pure; rfl; rfl; rfl) | (apply WL.nil) | (apply EX.thenN) | (apply CW.seq) | (apply CW.region)))
    refine CW.cond rfl (fun h3 => ?_) (fun h3 => ?_) <;> simp at h3
    · have hs4 : Sl w4 F ao cap kids := hs.mono (fun b hb => hg4.block b (hF b hb) (by intro e; cases e; exact hn hb)) fun _ h => h
      have hF4 : ∀ b, F b → b < w4.heap.size := fun b hb => Nat.lt_of_lt_of_le (hF b hb) hg4.size
      (repeat (first | (apply EX.thenN) | (apply CW.seq) | (apply CW.region) | (apply CW.block) | (apply CW.skip)))
      refine WL.elemN rfl rfl rfl rfl rfl hs4 h3 (fun _ => rfl) (fun u q hu => ?_)
      have hdrop : kids.drop i = kids[i] :: kids.drop (i + 1) := List.drop_eq_getElem_cons h3
      have hnode : (kids[i]).nodes ≤ m := by
        have := Ltl.nodes_kid kids _ (List.getElem_mem h3)
        simp only [Ltl.nodes] at hm; omega
      rw [hdrop]
      simp only [chkCL]
      generalize kids[i] = x at *
      obtain ⟨ao', cap', rfl, hx⟩ := hu.ltl
      have hw4 : w.heap.size ≤ w4.heap.size := hg4.size
      refine WL.alloc rfl rfl (fun w5 hb5 hE5 => ?_)
      refine WL.st rfl rfl rfl hb5 rfl rfl (ones_of rfl) (fun w6 hb6 hgr6 => ?_)
      have hE6 : Ext w4 w6 := hE5.grown hgr6 hE5.size (fun g hg => by cases hg; exact Nat.le_refl _)
      have hb46 := hb4.ext hE6
      have hg6 := grown_tr hg4 (hE6.grw (some bn))
      (repeat (first | (apply WL.add; rfl; rfl; rfl; rfl; omega; omega) | (apply WL.pure; rfl; rfl; rfl) | (apply WL.nil) | (apply EX.thenN) | (apply CW.seq) | (apply CW.region) | (apply WL.ldA; rfl; rfl; rfl; assumption; rfl)))
      refine WL.call rfl rfl rfl (ccheck_ok m x hnode w6 F (deep + 1) ci bn ao' cap' (hx.mono (fun b hb => hE6.block b (hF4 b hb)) fun _ h => h) (fun b hb => Nat.lt_of_lt_of_le (hF4 b hb) hE6.size) hn hb46 hci0 hci (by omega) (by omega)) ?_
      rintro v w7 ⟨rfl, hb7, hg7⟩
      have hg7 := grown_tr hg6 hg7
      have hle := chkC_le x (deep + 1) ci
      generalize chkC x (deep + 1) ci = r at *
      obtain ⟨e, c'⟩ := r
      simp only at hle hb7
      (repeat (first | (apply WL.pure; rfl; rfl; rfl) | (apply WL.nil) | (apply EX.thenN) | (apply CW.seq) | (apply CW.region)))
      refine CW.cond rfl (fun h4 => ?_) (fun h4 => ?_) <;> simp at h4
      · (repeat (first | (apply WL.pure; rfl; rfl; rfl) | (apply WL.nil) | (apply EX.thenN) | (apply CW.seq) | (apply CW.region) | (apply CW.ret) | (apply EX.thenR) | (apply EX.inR)))
        refine EX.ret1 rfl rfl ?_
        rw [if_pos h4]
        exact ⟨rfl, hb7, hg7⟩
      · have := hle h4
        (repeat (first | (apply WL.add; rfl; rfl; rfl; rfl; omega; omega) | (apply WL.pure; rfl; rfl; rfl) | (apply WL.nil) | (apply EX.thenN) | (apply CW.region) | (apply EX.inN) | (apply CW.skip)))
        refine EX.back (i + 1, c') (by repeat (first | exact trivial | refine ⟨rfl, ?_⟩)) ⟨hg7, hb7, by simp only; omega, by simp only; omega, by simp only; omega, ?_⟩ (by simp only; omega)
        simp only
        rw [if_neg (by simp [h4])]
    · (repeat (first | (apply WL.pure; rfl; rfl; rfl) | (apply WL.nil) | (apply EX.thenN) | (apply CW.seq) | (apply CW.region) | (apply CW.exit) | (apply EX.thenX) | (apply EX.inX) | (apply CW.ret)))
      refine EX.ret1 rfl rfl ?_
      rw [List.drop_eq_nil_of_le (by omega)]
      exact ⟨rfl, hb4, hg4⟩
theorem ctlCheck (w : World) {F : Nat → Prop} {t : Ltl} {ao : Option Addr} {cap : Nat} (hs : Sl w F ao cap t.kids) (hF : ∀ b, F b → b < w.heap.size) :
    Rt Try.prog 32 [ltlV t.k t.n ao t.kids.length cap].toArray w fun v w' => v = .int .i64 (chkC t 1 0).1 ∧ Ext w w' := by
  refine Rt.enter1 Try.func32 Try.ntmps32 rfl rfl ?_
  (repeat (first | (apply CW.seq) | (apply CW.region)))
  refine WL.boxB rfl rfl rfl fun w1 hf hE1 => ?_
  (repeat (first | (apply WL.pure; rfl; rfl; rfl) | (apply WL.nil) | (apply EX.thenN) | (apply CW.seq) | (apply CW.region)))
  refine WL.alloc rfl rfl (fun w2 hb hE2 => ?_)
  have hlt := hb.lt
  refine WL.st rfl rfl rfl hb rfl rfl (ones_of rfl) (fun w3 hb hgr => ?_)
  have hE12 := hE1.trans hE2
  have hE3 : Ext w w3 := hE12.grown hgr hE12.size (fun g hg => by cases hg; exact hE1.size)
  have hf3 := (hf.ext hE2).kept hgr (by have := hf.lt; simp; omega)
  have hw1 : w.heap.size ≤ w1.heap.size := hE1.size
  (repeat (first | (apply WL.nil) | (apply EX.thenN) | (apply CW.seq) | (apply CW.region) | (apply WL.ldA; rfl; rfl; rfl; assumption; rfl)))
  refine WL.call rfl rfl rfl (ccheck_ok t.nodes t (Nat.le_refl _) w3 F 1 0 w1.heap.size ao cap (hs.mono (fun b hb => hE3.block b (hF b hb)) fun _ h => h) (fun b hb => Nat.lt_of_lt_of_le (hF b hb) hE3.size) (fun h => by have := hF _ h; omega) hb (by omega) (by omega) (by omega) (by omega)) ?_
  rintro v w4 ⟨rfl, hb4, hg4⟩
  (repeat (first | (apply WL.pure; rfl; rfl; rfl) | (apply WL.nil) | (apply EX.thenN) | (apply CW.ret)))
  exact EX.ret1 rfl rfl ⟨rfl, hE3.grown hg4 hE3.size (fun g hg => by cases hg; exact hE1.size)⟩
end Go.Proofs.Ytikigaeihdmcaaa

