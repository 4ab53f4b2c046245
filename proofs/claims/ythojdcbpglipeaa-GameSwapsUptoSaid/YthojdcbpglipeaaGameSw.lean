/-
  Tokens: two enabled steps of two nodes, no inclusive gateway and no stop, come to the same in either order; plain lists.
-/
import Derived.Test.YthojdcbpglipeaaGameL2
set_option linter.unusedVariables false
set_option linter.unusedSimpArgs false
namespace Go.Proofs.Ythojdcbpglipeaa

/-- what a step leaves on flow j before it puts -/
def leftAt (p : LProc) (m : List Int) (s : LStep) (j : Nat) : Int := if (j : Int) ∈ insL p.2 s.1 then takes m s (j : Int) else m.getD j 0
/-- what it puts there -/
def putsAt (p : LProc) (s : LStep) (j : Nat) : Int := bitAt s.2.2 0 (outsL p.2 s.1) (j : Int)
theorem putsAt_01 {p : LProc} {s : LStep} {j : Nat} : 0 ≤ putsAt p s j ∧ putsAt p s j ≤ 1 := bitAt_01 _ _ _
theorem putsAt_no {p : LProc} {s : LStep} {j : Nat} (h : (j : Int) ∉ outsL p.2 s.1) : putsAt p s j = 0 := bitAt_no _ _ _ h
theorem fireP_get {p : LProc} {m : List Int} {s : LStep} (hl : m.length = p.2.length) (h3 : kindAt p s.1.toNat ≠ 3) :
    ((∀ j : Nat, (j : Int) ∈ outsL p.2 s.1 → leftAt p m s j + putsAt p s j ≤ 9 ∨ putsAt p s j = 0) → ∃ m', fireP p m s = some m') ∧
    (∀ m', fireP p m s = some m' → (∀ j : Nat, (j : Int) ∈ outsL p.2 s.1 → leftAt p m s j + putsAt p s j ≤ 9 ∨ putsAt p s j = 0) ∧ m'.length = p.2.length ∧ ∀ j : Nat, m'.getD j 0 = leftAt p m s j + putsAt p s j) := by
  have hil : inL m.length (insL p.2 s.1) := by rw [hl]; exact inL_ins
  have hg := takeAll_get (s := s) (insL p.2 s.1) m hil insL_nodup
  have hTl : (takeAll s m (insL p.2 s.1)).length = m.length := takeAll_len _ _
  have hol : inL (takeAll s m (insL p.2 s.1)).length (outsL p.2 s.1) := by rw [hTl, hl]; exact inL_outs
  have hP := putAll_get (n := s.2.2) (outsL p.2 s.1) 0 _ hol outsL_nodup
  have hconv : (∀ x ∈ outsL p.2 s.1, (takeAll s m (insL p.2 s.1)).getD x.toNat 0 + bitAt s.2.2 0 (outsL p.2 s.1) x ≤ 9 ∨ bitAt s.2.2 0 (outsL p.2 s.1) x = 0) ↔
      (∀ j : Nat, (j : Int) ∈ outsL p.2 s.1 → leftAt p m s j + putsAt p s j ≤ 9 ∨ putsAt p s j = 0) := by
    constructor
    · intro h j hj
      have := h _ hj
      rw [Int.toNat_natCast, hg] at this
      exact this
    · intro h x hx
      have hx0 := (inL_outs (fl := p.2) x hx).1
      have hxe : ((x.toNat : Nat) : Int) = x := Int.toNat_of_nonneg hx0
      have := h x.toNat (by rw [hxe]; exact hx)
      unfold putsAt leftAt at this
      rw [hg]
      rw [hxe] at this ⊢
      exact this
  have hf : fireP p m s = putAll s.2.2 0 (takeAll s m (insL p.2 s.1)) (outsL p.2 s.1) := by unfold fireP; rw [if_neg h3]
  rw [hf]
  refine ⟨fun h => ?_, fun m' h => ?_⟩
  · obtain ⟨m', h1, _⟩ := hP.1 (hconv.2 h)
    exact ⟨m', h1⟩
  · have hb := hP.2 m' h
    obtain ⟨m2, h1, h2⟩ := hP.1 hb
    rw [h] at h1
    injection h1 with h1
    subst h1
    refine ⟨hconv.1 hb, by rw [putAll_len _ _ _ _ h, hTl, hl], fun j => ?_⟩
    rw [h2 j, hg j]; rfl
theorem ins_apart {fl : List LFlow} {a b x : Int} (ha : x ∈ insL fl a) (hb : x ∈ insL fl b) : a = b := by
  obtain ⟨j, rfl, h1, h2⟩ := insP_mem.1 ha
  obtain ⟨i, e, h3, h4⟩ := insP_mem.1 hb
  have : j = i := by omega
  subst this
  rw [← h2, ← h4]
theorem outs_apart {fl : List LFlow} {a b x : Int} (ha : x ∈ outsL fl a) (hb : x ∈ outsL fl b) : a = b := by
  obtain ⟨j, rfl, h1, h2⟩ := outsP_mem.1 ha
  obtain ⟨i, e, h3, h4⟩ := outsP_mem.1 hb
  have : j = i := by omega
  subst this
  rw [← h2, ← h4]
theorem takes_at {m m' : List Int} {s : LStep} {j : Nat} {d : Int} (h : m'.getD j 0 = m.getD j 0 + d) (hd : 0 ≤ d) (hp : s.2.1 < 0 → m.getD j 0 > 0) : takes m' s (j : Int) = takes m s (j : Int) + d := by
  unfold takes
  rw [Int.toNat_natCast, h]
  by_cases e : s.2.1 = (j : Int)
  · rw [if_pos (.inl e), if_pos (.inl e)]; omega
  · by_cases hn : s.2.1 < 0
    · have := hp hn
      rw [if_pos (.inr ⟨hn, by omega⟩), if_pos (.inr ⟨hn, by omega⟩)]; omega
    · rw [if_neg (by rintro (h | ⟨h, _⟩); exact e h; exact hn h), if_neg (by rintro (h | ⟨h, _⟩); exact e h; exact hn h)]
theorem takes_le {m : List Int} {s : LStep} {f : Int} : takes m s f ≤ m.getD f.toNat 0 := by unfold takes; split <;> omega
theorem leftAt_le {p : LProc} {m : List Int} {s : LStep} {j : Nat} : leftAt p m s j ≤ m.getD j 0 := by
  unfold leftAt
  split
  · have := takes_le (m := m) (s := s) (f := (j : Int)); rwa [Int.toNat_natCast] at this
  · exact Int.le_refl _
/-- enabled, and no inclusive gateway: the ways in that the step takes from hold tokens -/
theorem en_pos {p : LProc} {m : List Int} {s : LStep} (hm : MarkOk p m) (h7 : kindAt p s.1.toNat ≠ 7) (hen : enabledP p m s = true) : s.2.1 < 0 → ∀ j : Nat, (j : Int) ∈ insL p.2 s.1 → m.getD j 0 > 0 := by
  intro hn j hj
  unfold enabledP at hen
  rw [if_neg (by omega), if_neg h7, Bool.not_eq_true', List.any_eq_false] at hen
  have h1 := hen _ hj
  rw [Int.toNat_natCast] at h1
  have h2 := hm.2 j
  have h3 : m.getD j 0 ≠ 0 := by simpa using h1
  omega
theorem en_up {p : LProc} {m m' : List Int} {s : LStep} (hm : MarkOk p m) (h7 : kindAt p s.1.toNat ≠ 7) (hsf : 0 ≤ s.2.1 → s.2.1 ∈ insL p.2 s.1) (hen : enabledP p m s = true) (hup : ∀ j : Nat, (j : Int) ∈ insL p.2 s.1 → m.getD j 0 ≤ m'.getD j 0) : enabledP p m' s = true := by
  have hpos := en_pos hm h7 hen
  unfold enabledP at hen ⊢
  split
  · rename_i h0
    rw [if_pos h0] at hen
    have h1 : m.getD s.2.1.toNat 0 > 0 := of_decide_eq_true hen
    have h2 := hup s.2.1.toNat (by rw [Int.toNat_of_nonneg h0]; exact hsf h0)
    exact decide_eq_true (by omega)
  · rename_i h0
    rw [Bool.not_eq_true', List.any_eq_false]
    intro f hf
    have hf0 := (inL_ins (fl := p.2) f hf).1
    have hfe : ((f.toNat : Nat) : Int) = f := Int.toNat_of_nonneg hf0
    have h1 := hpos (by omega) f.toNat (by rw [hfe]; exact hf)
    have h2 := hup f.toNat (by rw [hfe]; exact hf)
    have : m'.getD f.toNat 0 ≠ 0 := by omega
    simpa using this
/-- the second of two steps -/
theorem second {p : LProc} {m x : List Int} {a b : LStep} (hm : MarkOk p m) (h7a : kindAt p a.1.toNat ≠ 7) (h3a : kindAt p a.1.toNat ≠ 3) (h7b : kindAt p b.1.toNat ≠ 7) (h3b : kindAt p b.1.toNat ≠ 3) (hne : a.1 ≠ b.1)
    (hsa : 0 ≤ a.2.1 → a.2.1 ∈ insL p.2 a.1) (hsb : 0 ≤ b.2.1 → b.2.1 ∈ insL p.2 b.1) (ha : enabledP p m a = true) (hb : enabledP p m b = true) (hx : fireP p m a = some x) (hy : (fireP p m b).isSome = true) :
    MarkOk p x ∧ enabledP p x b = true ∧ ∃ z, fireP p x b = some z ∧ z.length = p.2.length ∧
      ∀ j : Nat, z.getD j 0 = (if (j : Int) ∈ insL p.2 a.1 then takes m a (j : Int) else if (j : Int) ∈ insL p.2 b.1 then takes m b (j : Int) else m.getD j 0) + (putsAt p a j + putsAt p b j) := by
  have hX := ((fireP_get hm.1 h3a).2 x hx)
  obtain ⟨y, hy⟩ := Option.isSome_iff_exists.1 hy
  have hY := ((fireP_get hm.1 h3b).2 y hy)
  have hMx := fire_next hm ha hx
  have hapi : ∀ j : Nat, (j : Int) ∈ insL p.2 b.1 → (j : Int) ∉ insL p.2 a.1 := fun j h1 h2 => hne (ins_apart h2 h1)
  have hapo : ∀ j : Nat, (j : Int) ∈ outsL p.2 b.1 → (j : Int) ∉ outsL p.2 a.1 := fun j h1 h2 => hne (outs_apart h2 h1)
  have hxin : ∀ j : Nat, (j : Int) ∈ insL p.2 b.1 → x.getD j 0 = m.getD j 0 + putsAt p a j := fun j hj => by
    rw [hX.2.2 j]
    unfold leftAt
    rw [if_neg (hapi j hj)]
  have hen := en_up (m' := x) hm h7b hsb hb (fun j hj => by rw [hxin j hj]; have := (putsAt_01 (p := p) (s := a) (j := j)).1; omega)
  have hleft : ∀ j : Nat, leftAt p x b j = (if (j : Int) ∈ insL p.2 a.1 then takes m a (j : Int) else if (j : Int) ∈ insL p.2 b.1 then takes m b (j : Int) else m.getD j 0) + putsAt p a j := fun j => by
    unfold leftAt
    by_cases hjb : (j : Int) ∈ insL p.2 b.1
    · rw [if_pos hjb, if_pos hjb, if_neg (hapi j hjb)]
      exact takes_at (hxin j hjb) (putsAt_01).1 (fun hn => en_pos hm h7b hb hn j hjb)
    · rw [if_neg hjb, if_neg hjb, hX.2.2 j]; rfl
  have hG := fireP_get (p := p) (s := b) hX.2.1 h3b
  have hfit : ∀ j : Nat, (j : Int) ∈ outsL p.2 b.1 → leftAt p x b j + putsAt p b j ≤ 9 ∨ putsAt p b j = 0 := fun j hj => by
    have h1 := hY.1 j hj
    rw [hleft j, putsAt_no (hapo j hj)]
    rcases h1 with h1 | h1
    · left
      unfold leftAt at h1
      by_cases hja : (j : Int) ∈ insL p.2 a.1
      · have hjb : (j : Int) ∉ insL p.2 b.1 := fun h => hapi j h hja
        rw [if_neg hjb] at h1
        rw [if_pos hja]
        have := takes_le (m := m) (s := a) (f := (j : Int))
        rw [Int.toNat_natCast] at this
        omega
      · rw [if_neg hja]; omega
    · exact .inr h1
  obtain ⟨z, hz⟩ := hG.1 hfit
  have hZ := hG.2 z hz
  refine ⟨hMx, hen, z, hz, hZ.2.1, fun j => ?_⟩
  rw [hZ.2.2 j, hleft j]; omega
theorem eq_getD {a b : List Int} (hl : a.length = b.length) (h : ∀ j : Nat, a.getD j 0 = b.getD j 0) : a = b := by
  refine List.ext_getElem hl fun j h1 h2 => ?_
  have := h j
  rw [getDm_at h1, getDm_at h2] at this
  exact this
theorem swap_law {p : LProc} {m x y : List Int} {a b : LStep} (hm : MarkOk p m) (h7a : kindAt p a.1.toNat ≠ 7) (h3a : kindAt p a.1.toNat ≠ 3) (h7b : kindAt p b.1.toNat ≠ 7) (h3b : kindAt p b.1.toNat ≠ 3) (hne : a.1 ≠ b.1)
    (hsa : 0 ≤ a.2.1 → a.2.1 ∈ insL p.2 a.1) (hsb : 0 ≤ b.2.1 → b.2.1 ∈ insL p.2 b.1) (ha : enabledP p m a = true) (hb : enabledP p m b = true) (hx : fireP p m a = some x) (hy : fireP p m b = some y) :
    MarkOk p x ∧ MarkOk p y ∧ enabledP p x b = true ∧ enabledP p y a = true ∧ ∃ z, fireP p x b = some z ∧ fireP p y a = some z := by
  obtain ⟨h1, h2, z, h3, h4, h5⟩ := second hm h7a h3a h7b h3b hne hsa hsb ha hb hx (by rw [hy]; rfl)
  obtain ⟨g1, g2, z', g3, g4, g5⟩ := second hm h7b h3b h7a h3a (fun e => hne e.symm) hsb hsa hb ha hy (by rw [hx]; rfl)
  have hz : z = z' := eq_getD (by rw [h4, g4]) fun j => by
    rw [h5 j, g5 j]
    by_cases hja : (j : Int) ∈ insL p.2 a.1
    · have hjb : (j : Int) ∉ insL p.2 b.1 := fun h => hne (ins_apart hja h)
      rw [if_pos hja, if_neg hjb, if_pos hja]; omega
    · rw [if_neg hja]
      by_cases hjb : (j : Int) ∈ insL p.2 b.1
      · rw [if_pos hjb, if_pos hjb]; omega
      · rw [if_neg hjb, if_neg hjb, if_neg hja]; omega
  exact ⟨h1, g1, h2, g2, z, h3, hz ▸ g3⟩
end Go.Proofs.Ythojdcbpglipeaa
