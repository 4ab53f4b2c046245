/-
  Package lasso: words, their check and their letters.
-/
import Derived.Test.YthojdcbpglipeaaTy
set_option linter.unusedVariables false
set_option linter.unusedSimpArgs false
namespace Go.Proofs.Ythojdcbpglipeaa
open Go.RowKit

def chkW (s l : List Nat) : Int := if s.length > 60 ∨ l.length > 60 - s.length then 2 else if l.length = 0 then 1 else 0
def lat (s l : List Nat) (i : Nat) : Nat := if i < s.length then s.getD i 0 else l.getD ((i - s.length) % l.length) 0
theorem chkW_ok {s l : List Nat} (h : chkW s l = 0) : s.length + l.length ≤ 60 ∧ 0 < l.length := by
  unfold chkW at h
  split at h
  · cases h
  · split at h
    · cases h
    · omega
abbrev wordV (so : Option Addr) (sc : Nat) (lo : Option Addr) (lc : Nat) (s l : List Nat) : Value := .agg [.slice so s.length sc, .slice lo l.length lc].toArray

theorem lassoCheck (w : World) {so lo : Option Addr} {sc lc : Nat} {s l : List Nat} (hs : s.length ≤ 9223372036854775807) (hl : l.length ≤ 9223372036854775807) :
    Rt Try.prog 70 [wordV so sc lo lc s l].toArray w fun v w' => v = .int .i64 (chkW s l) ∧ Ext w w' := by
  refine Rt.enter1 Try.func70 Try.ntmps70 rfl rfl ?_
  (repeat (first | (apply CW.seq) | (apply CW.region)))
  refine WL.boxB rfl rfl rfl fun w1 hb hE => ?_
  (repeat (first | (apply WL.pure; rfl; rfl; rfl) | (apply WL.nil) | (apply EX.thenN) | (apply CW.seq) | (apply CW.region) | (apply WL.lenS; rfl; rfl; rfl) | (apply WL.fa; rfl; rfl; rfl) | (apply WL.ld; rfl; rfl; rfl; assumption; rfl) | (apply CW.block)))
  (refine WL.lookG rfl rfl (fun h => ?_) (fun h => ?_))
  · (repeat (first | (apply WL.pure; rfl; rfl; rfl) | (apply WL.nil) | (apply EX.thenN) | (apply CW.seq) | (apply CW.region) | (apply WL.pass; rfl; rfl) | (apply CW.condT; rfl) | (apply CW.ret) | (apply EX.thenR) | (apply EX.inR)))
    refine EX.ret1 rfl rfl ⟨?_, hE⟩
    simp at h; unfold chkW
    rw [if_pos (by omega)]
  · simp at h
    (repeat (first | (apply WL.sub'; rfl; rfl; rfl; rfl; omega; omega) | (apply WL.pure; rfl; rfl; rfl) | (apply WL.nil) | (apply EX.thenN) | (apply WL.lenS; rfl; rfl; rfl) | (apply WL.fa; rfl; rfl; rfl) | (apply WL.ld; rfl; rfl; rfl; assumption; rfl)))
    refine CW.cond rfl (fun h1 => ?_) (fun h1 => ?_) <;> simp at h1
    · (repeat (first | (apply WL.pure; rfl; rfl; rfl) | (apply WL.nil) | (apply EX.thenN) | (apply CW.seq) | (apply CW.region) | (apply CW.ret) | (apply EX.thenR) | (apply EX.inR)))
      refine EX.ret1 rfl rfl ⟨?_, hE⟩
      unfold chkW
      rw [if_pos (by omega)]
    · (repeat (first | (apply WL.pure; rfl; rfl; rfl) | (apply WL.nil) | (apply EX.thenN) | (apply CW.seq) | (apply CW.region) | (apply WL.lenS; rfl; rfl; rfl) | (apply WL.fa; rfl; rfl; rfl) | (apply WL.ld; rfl; rfl; rfl; assumption; rfl)))
      refine CW.cond rfl (fun h2 => ?_) (fun h2 => ?_) <;> simp at h2
      · (repeat (first | (apply WL.pure; rfl; rfl; rfl) | (apply WL.nil) | (apply EX.thenN) | (apply CW.seq) | (apply CW.region) | (apply CW.ret) | (apply EX.thenR) | (apply EX.inR)))
        refine EX.ret1 rfl rfl ⟨?_, hE⟩
        unfold chkW
        rw [if_neg (by omega), if_pos (by simp [h2])]
      · (repeat (first | (apply WL.pure; rfl; rfl; rfl) | (apply WL.nil) | (apply EX.thenN) | (apply CW.seq) | (apply CW.region) | (apply EX.inN) | (apply CW.ret) | (apply CW.skip)))
        refine EX.ret1 rfl rfl ⟨?_, hE⟩
        unfold chkW
        rw [if_neg (by omega), if_neg (by simp [h2])]

theorem lassoAt0 (w : World) {so lo : Option Addr} {sc lc : Nat} {s l : List Nat} {F : Nat → Prop} (hs : Sl w F so sc s) (hl : Sl w F lo lc l) (hF : ∀ b, F b → b < w.heap.size) (h0 : 0 < l.length) (i : Nat) (hi : i < 4611686018427387904) (hk : s.length < 4611686018427387904) :
    Rt Try.prog 159 [wordV so sc lo lc s l, .int .i64 (i : Int)].toArray w fun v w' => v = .int .u64 (lat s l i : Int) ∧ Ext w w' := by
  refine Rt.enter2 Try.func159 Try.ntmps159 rfl rfl ?_
  (repeat (first | (apply CW.seq) | (apply CW.region)))
  refine WL.boxB rfl rfl rfl fun w1 hb hE => ?_
  have hs1 := hs.mono (fun b h => hE.block b (hF b h)) fun _ h => h
  have hl1 := hl.mono (fun b h => hE.block b (hF b h)) fun _ h => h
  have hF1 : ∀ b, F b → b < w1.heap.size := fun b h => Nat.lt_of_lt_of_le (hF b h) hE.size
  (repeat (first | (apply WL.pure; rfl; rfl; rfl) | (apply WL.nil) | (apply EX.thenN) | (apply CW.seq) | (apply CW.region) | (apply WL.lenS; rfl; rfl; rfl) | (apply WL.fa; rfl; rfl; rfl) | (apply WL.ld; rfl; rfl; rfl; assumption; rfl)))
  refine CW.cond rfl (fun h => ?_) (fun h => ?_) <;> simp at h
  · (repeat (first | (apply WL.pure; rfl; rfl; rfl) | (apply CW.seq) | (apply CW.region) | (apply WL.fa; rfl; rfl; rfl) | (apply WL.ld; rfl; rfl; rfl; assumption; rfl)))
    refine WL.elemN rfl rfl rfl rfl rfl hs1 h (fun _ => rfl) (fun u q hu => ?_)
    obtain ⟨rfl, _⟩ := hu.u64
    (repeat (first | (apply WL.pure; rfl; rfl; rfl) | (apply WL.nil) | (apply EX.thenN) | (apply CW.ret) | (apply EX.thenR)))
    refine EX.ret1 rfl rfl ⟨?_, hE⟩
    unfold lat
    rw [if_pos h, List.getD_eq_getElem?_getD, List.getElem?_eq_getElem h]; rfl
  · have hl63 := hl.len63
    (repeat (first | (apply QL.sub'; rfl; rfl; rfl; rfl; omega; omega) | (apply QL.pure; rfl; rfl; rfl) | (apply EX.thenN) | (apply CW.seq) | (apply QL.lenS; rfl; rfl; rfl) | (apply QL.fa; rfl; rfl; rfl) | (apply QL.ld; rfl; rfl; rfl; assumption; rfl) | (apply CW.skip) | (apply CW.draw; exact mixed; kernel_rfl)))
    refine QL.rem rfl rfl rfl rfl (by omega) (by omega) ?_
    have e1 : ((i : Int) - (s.length : Int)) % (l.length : Int) = (((i - s.length) % l.length : Nat) : Int) := by
      rw [← Int.natCast_sub h]; rfl
    rw [e1]
    have hlt := Nat.mod_lt (i - s.length) h0
    refine QL.elemN rfl rfl rfl rfl rfl hF1 hl1 hlt (fun _ => rfl) (fun u q hu => ?_)
    obtain ⟨rfl, _⟩ := hu.u64
    (repeat (apply QL.pure; rfl; rfl; rfl))
    refine QL.nil fun w2 hE2 => ?_
    (repeat (first | (apply EX.thenN) | (apply CW.ret)))
    refine EX.ret1 rfl rfl ⟨?_, hE.trans hE2⟩
    unfold lat
    rw [if_neg (by omega), List.getD_eq_getElem?_getD, List.getElem?_eq_getElem hlt]; rfl

def latA (s l : List Nat) (i : Int) : Nat × Int := if chkW s l ≠ 0 then (0, chkW s l) else if i < 0 then (0, 1) else (lat s l i.toNat, 0)
theorem lassoAt (w : World) {so lo : Option Addr} {sc lc : Nat} {s l : List Nat} {F : Nat → Prop} (hs : Sl w F so sc s) (hl : Sl w F lo lc l) (hF : ∀ b, F b → b < w.heap.size) (i : Int) (hi : i < 4611686018427387904) :
    Rt Try.prog 111 [wordV so sc lo lc s l, .int .i64 i].toArray w fun v w' => v = .tuple ⟨[.int .u64 ((latA s l i).1 : Int), .int .i64 (latA s l i).2]⟩ ∧ Ext w w' := by
  refine Rt.enter2 Try.func111 Try.ntmps111 rfl rfl ?_
  (repeat (first | (apply CW.seq) | (apply CW.region)))
  refine WL.boxB rfl rfl rfl fun w1 hb hE => ?_
  (repeat (first | (apply WL.pure; rfl; rfl; rfl) | (apply WL.nil) | (apply EX.thenN) | (apply CW.seq) | (apply CW.region) | (apply WL.ldA; rfl; rfl; rfl; assumption; rfl)))
  refine WL.call rfl rfl rfl (lassoCheck w1 hs.len63 hl.len63) ?_
  rintro v w2 ⟨rfl, hE2⟩
  have hb2 := hb.ext hE2
  have hE2 := hE.trans hE2
  have hs2 := hs.mono (fun b h => hE2.block b (hF b h)) fun _ h => h
  have hl2 := hl.mono (fun b h => hE2.block b (hF b h)) fun _ h => h
  have hF2 : ∀ b, F b → b < w2.heap.size := fun b h => Nat.lt_of_lt_of_le (hF b h) hE2.size
  (repeat (first | (apply WL.pure; rfl; rfl; rfl) | (apply WL.nil) | (apply EX.thenN) | (apply CW.seq) | (apply CW.region)))
  refine CW.cond rfl (fun h => ?_) (fun h => ?_) <;> simp at h
  · (repeat (first | (apply WL.pure; rfl; rfl; rfl) | (apply WL.nil) | (apply EX.thenN) | (apply CW.seq) | (apply CW.region) | (apply CW.ret) | (apply EX.thenR)))
    refine EX.ret2 rfl rfl rfl ⟨?_, hE2⟩
    unfold latA
    rw [if_pos h]; rfl
  · have hc := chkW_ok h
    (repeat (first | (apply WL.pure; rfl; rfl; rfl) | (apply WL.nil) | (apply EX.thenN) | (apply CW.seq) | (apply CW.region) | (apply CW.skip)))
    refine CW.cond rfl (fun h1 => ?_) (fun h1 => ?_) <;> simp at h1
    · (repeat (first | (apply WL.pure; rfl; rfl; rfl) | (apply WL.nil) | (apply EX.thenN) | (apply CW.seq) | (apply CW.region) | (apply CW.ret) | (apply EX.thenR)))
      refine EX.ret2 rfl rfl rfl ⟨?_, hE2⟩
      unfold latA
      rw [if_neg (by simp [h]), if_pos h1]; rfl
    · obtain ⟨k, rfl⟩ := Int.eq_ofNat_of_zero_le h1
      (repeat (first | (apply WL.pure; rfl; rfl; rfl) | (apply EX.thenN) | (apply CW.seq) | (apply CW.region) | (apply WL.ldA; rfl; rfl; rfl; assumption; rfl) | (apply CW.skip)))
      refine WL.call rfl rfl rfl (lassoAt0 w2 hs2 hl2 hF2 hc.2 k (by omega) (by omega)) ?_
      rintro v w3 ⟨rfl, hE3⟩
      (repeat (first | (apply WL.pure; rfl; rfl; rfl) | (apply WL.nil) | (apply EX.thenN) | (apply CW.ret)))
      refine EX.ret2 rfl rfl rfl ⟨?_, hE2.trans hE3⟩
      unfold latA
      rw [if_neg (by simp [h]), if_neg (by omega)]; rfl
theorem latA_ok {s l : List Nat} (h : chkW s l = 0) (i : Nat) : latA s l (i : Int) = (lat s l i, 0) := by
  unfold latA; rw [if_neg (by simp [h]), if_neg (by omega)]; rfl
theorem lat_lt {s l : List Nat} (hs : ∀ x ∈ s, x < 18446744073709551616) (hl : ∀ x ∈ l, x < 18446744073709551616) (i : Nat) : lat s l i < 18446744073709551616 := by
  unfold lat
  have one : ∀ (l : List Nat), (∀ x ∈ l, x < 18446744073709551616) → ∀ k, l.getD k 0 < 18446744073709551616 := by
    intro l hl k
    rw [List.getD_eq_getElem?_getD]
    cases h : l[k]? with
    | none => simp
    | some y => simpa using hl y (List.mem_of_getElem? h)
  split
  · exact one s hs _
  · exact one l hl _
theorem Sl.u64 {w : World} {F : Nat → Prop} {ao : Option Addr} {cap : Nat} {xs : List Nat} (h : Sl w F ao cap xs) : ∀ x ∈ xs, x < 18446744073709551616 := by
  intro x hx
  obtain ⟨i, hi, rfl⟩ := List.getElem_of_mem hx
  obtain ⟨b, off, _, _, es, _, hr⟩ := h.el i hi
  exact hr.2
end Go.Proofs.Ythojdcbpglipeaa
