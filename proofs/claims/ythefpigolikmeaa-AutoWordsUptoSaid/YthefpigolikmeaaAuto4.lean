/-
  Package auto: round, accepts, Accepts.
-/
import Derived.Test.YthefpigolikmeaaAuto3
import Derived.Test.YthefpigolikmeaaLibB
import Derived.Test.YthefpigolikmeaaLeast2
set_option linter.unusedVariables false
set_option linter.unusedSimpArgs false
namespace Go.Proofs.Ythefpigolikmeaa
open Go.RowKit

theorem getB_at {l : List Bool} {j : Nat} (h : j < l.length) : l.getD j false = l[j] := by rw [List.getD_eq_getElem?_getD, List.getElem?_eq_getElem h]; rfl
/-- parts that are gone round in, so far -/
def rndP (g : Graph) (part : List Int) (n j c : Nat) : Prop := (∃ u, u < n ∧ part.getD u 0 = c ∧ ∃ to ∈ g.getD u [], part.getD to.toNat 0 = c) ∨ (part.getD n 0 = c ∧ ∃ to ∈ (g.getD n []).take j, part.getD to.toNat 0 = c)
theorem rndP_next {g : Graph} {part : List Int} {n c : Nat} : rndP g part n (g.getD n []).length c ↔ rndP g part (n + 1) 0 c := by
  unfold rndP
  rw [List.take_length, List.take_zero]
  constructor
  · rintro (⟨u, h1, h2⟩ | ⟨h1, h2⟩)
    · exact .inl ⟨u, by omega, h2⟩
    · exact .inl ⟨n, by omega, h1, h2⟩
  · rintro (⟨u, h1, h2, h3⟩ | ⟨_, h2⟩)
    · by_cases e : u = n
      · subst e; exact .inr ⟨h2, h3⟩
      · exact .inl ⟨u, by omega, h2, h3⟩
    · obtain ⟨to, h, _⟩ := h2; simp at h
theorem round_ok (w0 : World) {ao po : Option Addr} {cap pc : Nat} {g : Graph} {part : List Int} (hs : Sl w0 (Old w0) ao cap g) (hp : Sl w0 (Old w0) po pc part) (hg : okG g) (hpt : PartsOK g part) (hl : g.length ≤ 1099511627776) :
    Rt Try.prog 131 [.slice ao g.length cap, .slice po part.length pc].toArray w0 fun v w' => ∃ out : List Bool, Own w' w0.heap.size 4 Non v out ∧ out.length = g.length ∧
      (∀ c, c < g.length → (out.getD c false = true ↔ ∃ u, u < g.length ∧ part.getD u 0 = c ∧ ∃ to ∈ g.getD u [], part.getD to.toNat 0 = c)) ∧ Ext w0 w' := by
  have hm := hs.len63
  have hpl := hpt.len
  refine Rt.enter2 Try.func131 Try.ntmps131 rfl rfl ?_
  (repeat (first | (apply WL.pure; rfl; rfl; rfl) | (apply WL.nil) | (apply EX.thenN) | (apply CW.seq) | (apply CW.region) | (apply WL.lenS; rfl; rfl; rfl)))
  refine WL.make (α := Bool) rfl rfl rfl rfl (by omega) (by unfold maxLen; omega) (fun w1 ho1 hg1 => ?_)
  have hE1 : Ext w0 w1 := (Below.refl _ _).grown hg1 (Nat.le_refl _) (fun k h => by cases h)
  generalize hsv : Value.slice (some ⟨w0.heap.size, 0, none⟩) g.length g.length = sv at *
  (repeat (first | (apply WL.pure; rfl; rfl; rfl) | (apply WL.nil) | (apply EX.thenN) | (apply CW.seq) | (apply CW.region) | (apply WL.lenS; rfl; rfl; rfl) | (apply CW.block)))
  refine CW.loop (S := Nat × List Bool) (fun s => [(1, .slice po part.length pc), (5, sv), (13, .slice ao g.length cap), (14, .int .i64 g.length), (15, .int .i64 s.1)])
    (fun s w => s.1 ≤ g.length ∧ Own w w0.heap.size 4 Non sv s.2 ∧ s.2.length = g.length ∧ (∀ c, c < g.length → (s.2.getD c false = true ↔ rndP g part s.1 0 c)) ∧ Ext w0 w) (fun s => g.length - s.1) (0, List.replicate g.length false) (by repeat (first | exact trivial | refine ⟨rfl, ?_⟩))
    ⟨Nat.zero_le _, ho1, by simp, fun c hc => ?_, hE1⟩ ?_
  · dsimp only
    rw [getD_rep]
    unfold rndP
    simp
  rintro ⟨n, out⟩ w ⟨hn, ho, hol, hr, hE⟩
  dsimp only at hn ho hol hr ⊢
  (repeat (first | (apply WL.pure; rfl; rfl; rfl) | (apply WL.nil) | (apply EX.thenN) | (apply CW.seq) | (apply CW.region)))
  refine CW.cond rfl (fun h => ?_) (fun h => ?_)
  · have hn' : n < g.length := by simp at h; omega
    (repeat (first | (apply WL.pure; rfl; rfl; rfl) | (apply EX.thenN) | (apply CW.seq) | (apply CW.region) | (apply CW.block) | (apply CW.skip)))
    refine WL.elemN rfl rfl rfl rfl rfl (hs.at hE) hn' (fun _ => rfl) (fun u q hu => ?_)
    obtain ⟨ro, rc, rfl, hrow⟩ := hu.sl
    have hrl := hrow.len63
    have erow : g.getD n [] = g[n] := getDG_at hn'
    have hnp : n < part.length := by omega
    have hpn0 := hpt.ge n hnp
    have hpn1 := hpt.lt n hnp
    obtain ⟨c0, hc0⟩ := Int.eq_ofNat_of_zero_le hpn0
    have hc0l : c0 < g.length := by omega
    have hpc : part[n] = (c0 : Int) := by rw [← getDI_at hnp]; exact hc0
    (repeat (first | (apply WL.pure; rfl; rfl; rfl) | (apply WL.nil) | (apply EX.thenN) | (apply CW.seq) | (apply CW.region) | (apply WL.lenS; rfl; rfl; rfl) | (apply CW.block)))
    refine CW.loop (S := Nat × List Bool) (fun s => [(1, .slice po part.length pc), (5, sv), (6, .int .i64 n), (13, .slice ao g.length cap), (14, .int .i64 g.length), (15, .int .i64 n), (20, .slice ro g[n].length rc), (21, .int .i64 g[n].length), (22, .int .i64 s.1)])
      (fun s w => s.1 ≤ g[n].length ∧ Own w w0.heap.size 4 Non sv s.2 ∧ s.2.length = g.length ∧ (∀ c, c < g.length → (s.2.getD c false = true ↔ rndP g part n s.1 c)) ∧ Ext w0 w) (fun s => g[n].length - s.1) (0, out) (by repeat (first | exact trivial | refine ⟨rfl, ?_⟩))
      ⟨Nat.zero_le _, ho, hol, hr, hE⟩ ?_
    rintro ⟨j, out⟩ w2 ⟨hj, ho, hol, hr, hE2⟩
    dsimp only at hj ho hol hr ⊢
    have hrow2 : Sl w2 (Old w0) ro rc g[n] := hrow.mono (fun b hb => (hE2.block b hb).trans (hE.block b hb).symm) (fun _ h => h)
    (repeat (first | (apply WL.pure; rfl; rfl; rfl) | (apply WL.nil) | (apply EX.thenN) | (apply CW.seq) | (apply CW.region)))
    refine CW.cond rfl (fun h => ?_) (fun h => ?_)
    · have hj' : j < g[n].length := by simp at h; omega
      have hto := hg _ (List.getElem_mem hn') _ (List.getElem_mem hj')
      obtain ⟨to, eto⟩ := Int.eq_ofNat_of_zero_le hto.1
      have htp : to < part.length := by omega
      have hgj : (g.getD n []).take (j + 1) = (g.getD n []).take j ++ [(to : Int)] := by
        rw [erow, ← List.take_append_getElem hj', eto]
      have hstep : ∀ c, rndP g part n (j + 1) c ↔ rndP g part n j c ∨ (part.getD n 0 = c ∧ part.getD to 0 = c) := by
        intro c
        unfold rndP
        rw [hgj]
        constructor
        · rintro (h | ⟨h1, x, h2, h3⟩)
          · exact .inl (.inl h)
          · rcases List.mem_append.1 h2 with h2 | h2
            · exact .inl (.inr ⟨h1, x, h2, h3⟩)
            · rw [List.mem_singleton] at h2; subst h2; exact .inr ⟨h1, by simpa using h3⟩
        · rintro ((h | ⟨h1, x, h2, h3⟩) | ⟨h1, h2⟩)
          · exact .inl h
          · exact .inr ⟨h1, x, List.mem_append.2 (.inl h2), h3⟩
          · exact .inr ⟨h1, to, List.mem_append.2 (.inr (by simp)), by simpa using h2⟩
      (repeat (first | (apply EX.thenN) | (apply CW.seq) | (apply CW.region) | (apply CW.block) | (apply CW.skip)))
      refine WL.elemI rfl rfl rfl rfl rfl hrow2 hj' eto (fun _ => rfl) (fun q => ?_)
      (repeat (first | (apply WL.pure; rfl; rfl; rfl) | (apply QL.pure; rfl; rfl; rfl) | (apply WL.nil) | (apply EX.thenN) | (apply CW.seq) | (apply CW.draw; exact mixed; kernel_rfl)))
      refine QL.elemI rfl rfl rfl rfl rfl (fun _ h => h) (hp.up hE2) htp rfl (fun _ => rfl) (fun q => ?_)
      (repeat (apply QL.pure; rfl; rfl; rfl))
      refine QL.elemI rfl rfl rfl rfl rfl (fun _ h => h) (hp.up hE2) hnp hpc (fun _ => rfl) (fun q => ?_)
      (repeat (apply QL.pure; rfl; rfl; rfl))
      refine QL.nil (fun w3 e3 => ?_)
      have ho := ho.extN e3
      have hE3 := hE2.trans e3
      (repeat (apply EX.thenN))
      refine CW.cond rfl (fun h2 => ?_) (fun h2 => ?_)
      · have h2 : part[to] = (c0 : Int) := by simpa using h2
        (repeat (first | (apply WL.pure; rfl; rfl; rfl) | (apply CW.region)))
        refine WL.elemI rfl rfl rfl rfl rfl (hp.at hE3) hnp hpc (fun _ => rfl) (fun q => ?_)
        skip
        refine WL.setN (u := .bool true) (yv := true) rfl rfl rfl rfl ho (show c0 < out.length by omega) (fun _ => rfl) (fun _ => rfl) (Rd.mkBool _ _ _) (fun w4 q2 ho4 hg4 => ?_)
        have hE4 : Ext w0 w4 := hE3.grown hg4 hE3.size (fun b hb => (ho.lt b hb).1)
        (repeat (first | (apply WL.add; rfl; rfl; rfl; rfl; omega; omega) | (apply WL.pure; rfl; rfl; rfl) | (apply WL.nil) | (apply EX.thenN) | (apply CW.region) | (apply EX.inN)))
        refine EX.back (j + 1, out.set c0 true) (by repeat (first | exact trivial | refine ⟨rfl, ?_⟩)) ⟨hj', ho4, by simpa using hol, fun c hc => ?_, hE4⟩ (by dsimp only; omega)
        dsimp only
        rw [getD_set (by omega), hstep c]
        by_cases e : c0 = c
        · subst e
          rw [if_pos rfl]
          exact ⟨fun _ => .inr ⟨hc0, by rw [getDI_at htp]; exact h2⟩, fun _ => rfl⟩
        · rw [if_neg e, hr c hc]
          exact ⟨.inl, fun h => h.resolve_right (fun ⟨h1, _⟩ => e (by have := hc0.symm.trans h1; omega))⟩
      · have h2 : ¬ part[to] = (c0 : Int) := by simpa using h2
        (repeat (first | (apply WL.add; rfl; rfl; rfl; rfl; omega; omega) | (apply WL.pure; rfl; rfl; rfl) | (apply WL.nil) | (apply EX.thenN) | (apply CW.region) | (apply EX.inN) | (apply CW.skip)))
        refine EX.back (j + 1, out) (by repeat (first | exact trivial | refine ⟨rfl, ?_⟩)) ⟨hj', ho, hol, fun c hc => ?_, hE3⟩ (by dsimp only; omega)
        dsimp only
        rw [hstep c, hr c hc]
        exact ⟨.inl, fun h => h.resolve_right (fun ⟨h1, h3⟩ => h2 (by rw [← getDI_at htp, h3, ← h1]; exact hc0))⟩
    · obtain rfl : j = g[n].length := by simp at h; omega
      (repeat (first | (apply WL.add; rfl; rfl; rfl; rfl; omega; omega) | (apply WL.pure; rfl; rfl; rfl) | (apply WL.nil) | (apply EX.thenN) | (apply CW.region) | (apply EX.inN) | (apply CW.exit) | (apply EX.thenX) | (apply EX.inX)))
      refine EX.back (n + 1, out) (by repeat (first | exact trivial | refine ⟨rfl, ?_⟩)) ⟨hn', ho, hol, fun c hc => ?_, hE2⟩ (by dsimp only; omega)
      dsimp only
      rw [hr c hc, ← erow, rndP_next]
  · obtain rfl : n = g.length := by simp at h; omega
    (repeat (first | (apply WL.pure; rfl; rfl; rfl) | (apply WL.nil) | (apply EX.thenN) | (apply CW.seq) | (apply CW.region) | (apply CW.exit) | (apply EX.thenX) | (apply EX.inX) | (apply CW.ret)))
    refine EX.ret1 rfl rfl ⟨out, ho, hol, fun c hc => ?_, hE⟩
    rw [hr c hc]
    unfold rndP
    simp
end Go.Proofs.Ythefpigolikmeaa
