/-
  Package dwyer: looking at a word.
-/
import Derived.Test.YthojdcbpglipeaaDwyer
set_option linter.unusedVariables false
set_option linter.unusedSimpArgs false
namespace Go.Proofs.Ythojdcbpglipeaa
open Go.RowKit

structure LookAt (w : World) (F : Nat → Prop) (b : Nat) (pt : LPat) (so : Option Addr) (sc : Nat) (lo : Option Addr) (lc : Nat) (s l : List Nat) (e : Nat) : Prop where
  blk : Blk w b 150 [.int .i64 pt.1, .int .i64 pt.2.1, .int .i64 pt.2.2.1, .int .i64 pt.2.2.2.1, .int .i64 pt.2.2.2.2.1, .int .i64 pt.2.2.2.2.2.1, .int .i64 pt.2.2.2.2.2.2, .slice so s.length sc, .slice lo l.length lc, .int .i64 (e : Int)]
  hs : Sl w F so sc s
  hl : Sl w F lo lc l
  hF : ∀ k, F k → k < w.heap.size
  chk : chkW s l = 0
  small : e ≤ 100000
section
variable {w w' : World} {F : Nat → Prop} {b : Nat} {pt : LPat} {so : Option Addr} {sc : Nat} {lo : Option Addr} {lc : Nat} {s l : List Nat} {e : Nat}
theorem LookAt.ext (h : LookAt w F b pt so sc lo lc s l e) (hE : Ext w w') : LookAt w' F b pt so sc lo lc s l e :=
  ⟨h.blk.ext hE, h.hs.mono (fun k hk => hE.block k (h.hF k hk)) fun _ h => h, h.hl.mono (fun k hk => hE.block k (h.hF k hk)) fun _ h => h, fun k hk => Nat.lt_of_lt_of_le (h.hF k hk) hE.size, h.chk, h.small⟩

def hasL (s l : List Nat) (i a : Nat) : Bool := decide (lat s l i >>> a &&& 1 = 1)
def firstF (p : Nat → Bool) (e i : Nat) : Nat := if i < e ∧ p i = false then firstF p e (i + 1) else i
termination_by e - i
theorem firstF_go {p : Nat → Bool} {e i : Nat} (h : i < e) (hp : p i = false) : firstF p e i = firstF p e (i + 1) := by
  rw [firstF, if_pos ⟨h, hp⟩]
theorem firstF_end {p : Nat → Bool} {e i : Nat} (h : ¬ i < e) : firstF p e i = i := by
  rw [firstF, if_neg (fun h' => h h'.1)]
theorem firstF_hit {p : Nat → Bool} {e i : Nat} (h : p i = true) : firstF p e i = i := by
  rw [firstF, if_neg (by simp [h])]
theorem firstF_le {p : Nat → Bool} {e : Nat} : ∀ (m i : Nat), e - i ≤ m → i ≤ e → firstF p e i ≤ e
  | 0, i, hm, hi => by rw [firstF_end (by omega)]; exact hi
  | m + 1, i, hm, hi => by
    by_cases h : i < e
    · by_cases hp : p i = true
      · rw [firstF_hit hp]; exact hi
      · rw [firstF_go h (by simpa using hp)]; exact firstF_le m (i + 1) (by omega) (by omega)
    · rw [firstF_end h]; exact hi
theorem firstF_le' {p : Nat → Bool} {e i : Nat} (h : i ≤ e) : firstF p e i ≤ e := firstF_le (e - i) i (Nat.le_refl _) h
def firstL (s l : List Nat) (e i a : Nat) : Nat := firstF (fun j => hasL s l j a) e i
theorem firstL_le {i a : Nat} (h : i ≤ e) : firstL s l e i a ≤ e := firstF_le' h

theorem has_ok (L : LookAt w F b pt so sc lo lc s l e) (i : Nat) (hi : i < 1000000) (a : Int) (ha : 0 ≤ a) :
    Rt Try.prog 125 [.pointer (some ⟨b, 0, none⟩), .int .i64 (i : Int), .int .i64 a].toArray w fun v w' => v = .bool (hasL s l i a.toNat) ∧ Ext w w' := by
  refine Rt.enter3 Try.func125 Try.ntmps125 rfl rfl ?_
  have hb := L.blk
  (repeat (first | (apply WL.pure; rfl; rfl; rfl) | (apply WL.nil) | (apply EX.thenN) | (apply CW.seq) | (apply CW.region) | (apply WL.fa; rfl; rfl; rfl) | (apply WL.nck; rfl; rfl; rfl) | (apply WL.ldA; rfl; rfl; rfl; assumption; rfl)))
  refine WL.call rfl rfl rfl (lassoAt w L.hs L.hl L.hF (i : Int) (by omega)) ?_
  rintro v w1 ⟨rfl, hE⟩
  rw [latA_ok L.chk]
  have hlt : lat s l i < 18446744073709551616 := lat_lt L.hs.u64 L.hl.u64 i
  (repeat (first | (apply WL.pure; rfl; rfl; rfl) | (apply WL.nil) | (apply EX.thenN) | (apply CW.seq) | (apply CW.region)))
  refine WL.shrI rfl rfl rfl rfl hlt ha ?_
  refine WL.and1 rfl rfl rfl rfl (Nat.lt_of_le_of_lt (Nat.shiftRight_le _ _) hlt) ?_
  (repeat (first | (apply WL.pure; rfl; rfl; rfl) | (apply WL.nil) | (apply EX.thenN) | (apply CW.ret)))
  refine EX.ret1 rfl rfl ⟨?_, hE⟩
  refine congrArg Value.bool ?_
  unfold hasL
  rw [Bool.eq_iff_iff]; simp only [beq_iff_eq, decide_eq_true_eq]; omega

theorem first_ok (L : LookAt w F b pt so sc lo lc s l e) (i : Nat) (hi : i < 1000000) (a : Int) (ha : 0 ≤ a) :
    Rt Try.prog 124 [.pointer (some ⟨b, 0, none⟩), .int .i64 (i : Int), .int .i64 a].toArray w fun v w' => v = .int .i64 (firstL s l e i a.toNat : Int) ∧ Ext w w' := by
  refine Rt.enter3 Try.func124 Try.ntmps124 rfl rfl ?_
  have hsm := L.small
  (repeat (first | (apply WL.pure; rfl; rfl; rfl) | (apply WL.nil) | (apply EX.thenN) | (apply CW.seq) | (apply CW.region) | (apply CW.block)))
  refine CW.loop (S := Nat) (fun k => [(0, .pointer (some ⟨b, 0, none⟩)), (1, .int .i64 (k : Int)), (2, .int .i64 a)])
    (fun k w1 => Ext w w1 ∧ firstL s l e k a.toNat = firstL s l e i a.toNat ∧ k < 1000001) (fun k => 1000001 - k) i (by repeat (first | exact trivial | refine ⟨rfl, ?_⟩)) ⟨Ext.refl _, rfl, by omega⟩ ?_
  rintro k w1 ⟨hE, hk, hlt⟩
  have L1 := L.ext hE
  have hb := L1.blk
  (repeat (first | (apply WL.pure; rfl; rfl; rfl) | (apply CW.seq) | (apply CW.region) | (apply WL.fa; rfl; rfl; rfl) | (apply WL.nck; rfl; rfl; rfl) | (apply WL.ld; rfl; rfl; rfl; assumption; rfl)))
  (refine WL.lookG rfl rfl (fun h => ?_) (fun h => ?_)) <;> simp at h
  · (repeat (apply WL.pure; rfl; rfl; rfl))
    refine WL.call rfl rfl rfl (has_ok L1 k (by omega) a ha) ?_
    rintro v w2 ⟨rfl, hE2⟩
    (repeat (first | (apply WL.pure; rfl; rfl; rfl) | (apply WL.nil) | (apply EX.thenN)))
    refine CW.cond rfl (fun h1 => ?_) (fun h1 => ?_) <;> simp at h1
    · (repeat (first | (apply WL.add; rfl; rfl; rfl; rfl; omega; omega) | (apply WL.pure; rfl; rfl; rfl) | (apply WL.nil) | (apply EX.thenN) | (apply CW.region) | (apply CW.block) | (apply EX.inN) | (apply CW.skip)))
      refine EX.back (k + 1) (by repeat (first | exact trivial | refine ⟨rfl, ?_⟩)) ⟨hE.trans hE2, ?_, by omega⟩ (by omega)
      rw [← hk]
      exact (firstF_go (p := fun j => hasL s l j a.toNat) (by omega) h1).symm
    · (repeat (first | (apply WL.pure; rfl; rfl; rfl) | (apply WL.nil) | (apply EX.thenN) | (apply CW.seq) | (apply CW.region) | (apply CW.exit) | (apply EX.thenX) | (apply EX.inX) | (apply CW.ret)))
      refine EX.ret1 rfl rfl ⟨?_, hE.trans hE2⟩
      rw [← hk]
      rw [show firstL s l e k a.toNat = k from firstF_hit h1]
  · (repeat (first | (apply WL.pure; rfl; rfl; rfl) | (apply WL.nil) | (apply EX.thenN) | (apply CW.seq) | (apply CW.region) | (apply WL.pass; rfl; rfl) | (apply CW.condF; rfl) | (apply CW.exit) | (apply EX.thenX) | (apply EX.inX) | (apply CW.ret)))
    refine EX.ret1 rfl rfl ⟨?_, hE⟩
    rw [← hk]
    rw [show firstL s l e k a.toNat = k from firstF_end (by omega)]
end
end Go.Proofs.Ythojdcbpglipeaa
