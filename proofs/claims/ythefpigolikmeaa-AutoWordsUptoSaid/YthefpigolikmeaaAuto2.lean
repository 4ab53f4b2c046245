/-
  Package auto: product.
-/
import Derived.Test.YthefpigolikmeaaAuto
set_option linter.unusedVariables false
set_option linter.unusedSimpArgs false
namespace Go.Proofs.Ythefpigolikmeaa
open Go.RowKit

/-- j edges of a row are looked at -/
def prodPart (nx : List (List Int)) (mu no s l : List Nat) (x j : Nat) : List Int :=
  if fitB mu no (x % nx.length) (lat s l (x / nx.length)) = true then (((nx.getD (x % nx.length) []).take j).filter fun to => fitB mu no to.toNat (lat s l (nextL s l (x / nx.length)))).map fun to => (nextL s l (x / nx.length) : Int) * nx.length + to else []
def prodFull (nx : List (List Int)) (mu no s l : List Nat) (x : Nat) : List Int := prodRow nx mu no s l (x / nx.length) (x % nx.length)
theorem prodPart_full {nx : List (List Int)} {mu no s l : List Nat} {x : Nat} : prodPart nx mu no s l x (nx.getD (x % nx.length) []).length = prodFull nx mu no s l x := by
  unfold prodPart prodFull prodRow; rw [List.take_length]
theorem divmod {n i k : Nat} (hk : k < n) : (i * n + k) / n = i ∧ (i * n + k) % n = k := by
  constructor
  · rw [Nat.add_comm, Nat.add_mul_div_right _ _ (by omega), Nat.div_eq_of_lt hk, Nat.zero_add]
  · rw [Nat.add_comm, Nat.add_mul_mod_self_right, Nat.mod_eq_of_lt hk]
theorem prodPart_next {nx : List (List Int)} {mu no s l : List Nat} {i k j : Nat} (hk : k < nx.length) (hj : j < nx[k].length) (hf : fitB mu no k (lat s l i) = true) :
    prodPart nx mu no s l (i * nx.length + k) (j + 1) = prodPart nx mu no s l (i * nx.length + k) j ++ if fitB mu no (nx[k][j]).toNat (lat s l (nextL s l i)) = true then [(nextL s l i : Int) * nx.length + nx[k][j]] else [] := by
  obtain ⟨e1, e2⟩ := divmod (n := nx.length) (i := i) hk
  unfold prodPart
  rw [e1, e2, if_pos hf, if_pos hf]
  have er : nx.getD k [] = nx[k] := by rw [List.getD_eq_getElem?_getD, List.getElem?_eq_getElem hk]; rfl
  rw [er, ← List.take_append_getElem hj, List.filter_append, List.map_append]
  congr 1
  by_cases h : fitB mu no (nx[k][j]).toNat (lat s l (nextL s l i)) = true
  · rw [if_pos h]; simp [h]
  · rw [if_neg h]; simp [h]
theorem prodPart_zero {nx : List (List Int)} {mu no s l : List Nat} {x : Nat} : prodPart nx mu no s l x 0 = [] := by
  unfold prodPart; split <;> simp
theorem prodPart_no {nx : List (List Int)} {mu no s l : List Nat} {i k : Nat} (hk : k < nx.length) (hf : ¬ fitB mu no k (lat s l i) = true) : prodFull nx mu no s l (i * nx.length + k) = [] := by
  obtain ⟨e1, e2⟩ := divmod (n := nx.length) (i := i) hk
  unfold prodFull prodRow
  rw [e1, e2, if_neg hf]
theorem prodPart_len {nx : List (List Int)} {mu no s l : List Nat} {x j : Nat} : (prodPart nx mu no s l x j).length ≤ (nx.getD (x % nx.length) []).length := by
  unfold prodPart
  split
  · rw [List.length_map]
    refine Nat.le_trans (List.length_filter_le _ _) ?_
    rw [List.length_take]; omega
  · simp
theorem lat_app {s l : List Nat} {i : Nat} (h : i < (s ++ l).length) : (s ++ l)[i] = lat s l i := by
  unfold lat
  rw [List.length_append] at h
  by_cases hi : i < s.length
  · rw [if_pos hi, List.getElem_append_left hi, getDN_at hi]
  · rw [if_neg hi, List.getElem_append_right (by omega), Nat.mod_eq_of_lt (by omega), getDN_at (by omega)]
theorem product_ok (w0 : World) {v0 : Value} {A : LAuto} {s l : List Nat} {so lo : Option Addr} {sc lc : Nat} (ha : AutoAt w0 (Old w0) v0 A) (hok : OkA A) (hs : Sl w0 (Old w0) so sc s) (hl : Sl w0 (Old w0) lo lc l)
    (h0 : 0 < l.length) (h60 : s.length + l.length ≤ 60) (hT : ∀ r ∈ A.2.1, r.length ≤ 8589934592) :
    Rt Try.prog 128 [v0, wordV so sc lo lc s l].toArray w0 fun v w' => ∃ vs, OwnN w' w0.heap.size 22 3 v vs (prodG A.2.1 A.2.2.1 A.2.2.2.1 s l) ∧ Ext w0 w' := by
  obtain ⟨a1, c1, a2, c2, a3, c3, a4, c4, a5, c5, rfl, h1, h2, h3, h4, h5⟩ := ha.ok
  obtain ⟨st, nx, mu, no, fr⟩ := A
  dsimp only at *
  have hm2 := h2.len63
  have hn := hok.n
  have hmu := hok.mu
  have hno := hok.no
  have hnx := hok.nx
  dsimp only at hn hmu hno hnx
  refine Rt.enter2 Try.func128 Try.ntmps128 rfl rfl ?_
  have hE := Ext.refl w0
  (repeat (first | (apply CW.seq) | (apply CW.region)))
  refine WL.boxB rfl rfl rfl fun w1 hb2 e1 => ?_
  have hE := hE.trans e1
  skip
  refine WL.boxB rfl rfl rfl fun w2 hb3 e2 => ?_
  have hb2 := hb2.ext e2
  have hE := hE.trans e2
  (repeat (first | (apply WL.pure; rfl; rfl; rfl) | (apply WL.nil) | (apply EX.thenN) | (apply CW.seq)))
  apply CW.draw
  · exact mixed
  · kernel_rfl
  (repeat (first | (apply QL.add; rfl; rfl; rfl; rfl; omega; omega) | (apply QL.pure; rfl; rfl; rfl) | (apply QL.lenS; rfl; rfl; rfl) | (apply QL.fa; rfl; rfl; rfl) | (apply QL.ld; rfl; rfl; rfl; assumption; rfl)))
  refine QL.nil (fun w3 e3 => ?_)
  have hb2 := hb2.ext e3
  have hb3 := hb3.ext e3
  have hE := hE.trans e3
  (repeat (first | (apply EX.thenN) | (apply CW.seq)))
  have hT0 : Ext w0 (drew w3) := hE.trans (Ext.drew w3)
  have hSE : ∀ x, (fun x => Ext w3 x) x → Ext w3 x := fun _ h => h
  refine CW.drawH (fun x => Ext w3 x) [(0, true), (1, true), (3, true), (4, true), (2, false), (5, false), (6, true)] mixed (by kernel_rfl) (Ext.drew w3) ?_
  (repeat (first | (refine HL.fa rfl rfl rfl rfl ?_) | (refine HL.ld (by assumption) rfl rfl rfl rfl (by assumption) rfl ?_)))
  refine HL.mut rfl (WL.call rfl rfl rfl (clone_u64 (drew w3) (hs.up hT0) (fun _ h => h) (by omega)) ?_)
  rintro cV w4 ⟨hoc, e4⟩
  have hT4 : Ext w3 w4 := (Ext.drew w3).trans e4
  refine WL.nil (EX.mut hT4 ?_)
  skip
  have hE4 := hE.trans hT4
  refine HL.mut rfl (WL.app (F := Non) rfl rfl rfl rfl hoc (hl.up hE4).srcN e4.size (fun _ h => h.elim) (by unfold maxLen; omega) (by omega) (fun wV w5 how hg5 _ => ?_))
  have hT5 : Ext w3 w5 := hT4.grown hg5 hT4.size (fun g hg => Nat.le_trans (Ext.drew w3).size (hoc.lt g hg).1)
  refine WL.nil (EX.mut hT5 ?_)
  (repeat (first | (apply HL.pure; rfl; rfl; rfl; rfl) | (apply HL.nil)))
  have hE := hE.trans hT5
  have hb2 := hb2.ext hT5
  have hb3 := hb3.ext hT5
  obtain ⟨wo, wc, rfl, hall⟩ := how.oldN.sl
  clear e1 e2 e3 e4 hT0 hT4 hT5 hE4 how hg5 hoc
  have hxs : ∀ x ∈ s ++ l, x < 18446744073709551616 := by
    intro x hx
    obtain ⟨i, hi, rfl⟩ := List.mem_iff_getElem.1 hx
    obtain ⟨b, off, _, _, es, _, hr⟩ := hall.el i hi
    exact (rd_u64 hr).2
  have hlat : ∀ i, i < (s ++ l).length → lat s l i < 18446744073709551616 := fun i hi => by rw [← lat_app hi]; exact hxs _ (List.getElem_mem hi)
  have halen : (s ++ l).length = s.length + l.length := List.length_append
  obtain ⟨m, hm⟩ : ∃ m, m = s.length + l.length := ⟨_, rfl⟩
  rw [show (s.length : Int) + l.length = (m : Int) by omega]
  have hNN : nx.length * m ≤ 122880 := Nat.le_trans (Nat.mul_le_mul hn (show m ≤ 60 by omega)) (by decide)
  have hNZ : (nx.length : Int) * (m : Int) = ((nx.length * m : Nat) : Int) := by push_cast; rfl
  (repeat (first | (apply WL.mul; rfl; rfl; rfl; rfl; omega; omega) | (apply WL.pure; rfl; rfl; rfl) | (apply EX.thenN) | (apply CW.seq) | (apply CW.region)))
  rw [hNZ]
  refine WL.make (α := Raw) rfl rfl rfl rfl (by omega) (by unfold maxLen; omega) (fun w6 ho6 hg6 => ?_)
  have e6 : Ext w5 w6 := (Below.refl _ _).grown hg6 (Nat.le_refl _) (fun k h => by cases h)
  generalize hsv : Value.slice (some ⟨w5.heap.size, 0, none⟩) (nx.length * m) (nx.length * m) = sv at *
  obtain ⟨full, hfull⟩ : ∃ full, full = prodFull nx mu no s l := ⟨_, rfl⟩
  have hN6 : OwnN w6 w5.heap.size 22 3 sv _ (List.replicate (nx.length * m) ([] : List Int)) := OwnN.made ho6
  rw [← gridP_start (full := full)] at hN6
  clear ho6 hg6
  have hixN : ∀ i k, i < m → k < nx.length → i * nx.length + k < nx.length * m := fun i k hi hk => by
    have h1 : (i + 1) * nx.length ≤ m * nx.length := Nat.mul_le_mul_right _ hi
    rw [Nat.add_mul, Nat.mul_comm m] at h1
    omega
  have hcast : ∀ i k : Nat, (i : Int) * (nx.length : Int) + (k : Int) = ((i * nx.length + k : Nat) : Int) := fun i k => by push_cast; rfl
  (repeat (first | (apply WL.pure; rfl; rfl; rfl) | (apply WL.nil) | (apply EX.thenN) | (apply CW.seq) | (apply CW.region) | (apply WL.lenS; rfl; rfl; rfl) | (apply CW.block)))
  refine CW.loop (S := Nat × List Raw) (fun x => [(2, .pointer (some ⟨w0.heap.size, 0, none⟩)), (3, .pointer (some ⟨w1.heap.size, 0, none⟩)), (5, .int .i64 nx.length), (6, .int .i64 m), (7, .slice wo (s ++ l).length wc), (8, sv), (35, .slice wo (s ++ l).length wc), (36, .int .i64 (s ++ l).length), (37, .int .i64 x.1)])
    (fun x w => x.1 ≤ m ∧ OwnN w w5.heap.size 22 3 sv x.2 (gridP (nx.length * m) full (x.1 * nx.length) []) ∧ Ext w5 w) (fun x => m - x.1) (0, _) (by repeat (first | exact trivial | refine ⟨rfl, ?_⟩)) ⟨Nat.zero_le _, by rw [Nat.zero_mul]; exact hN6, e6⟩ ?_
  rintro ⟨i, vs⟩ w7 ⟨hi, hN, e7⟩
  dsimp only at hi hN
  (repeat (first | (apply WL.pure; rfl; rfl; rfl) | (apply WL.nil) | (apply EX.thenN) | (apply CW.seq) | (apply CW.region)))
  refine CW.cond rfl (fun h => ?_) (fun h => ?_)
  · have hi' : i < (s ++ l).length := by simp at h; omega
    have him : i < m := by omega
    (repeat (first | (apply WL.pure; rfl; rfl; rfl) | (apply EX.thenN) | (apply CW.seq) | (apply CW.region) | (apply CW.block) | (apply CW.skip)))
    refine WL.elemN rfl rfl rfl rfl rfl (hall.up e7) hi' (fun _ => rfl) (fun u q hu => ?_)
    obtain ⟨rfl, hu64⟩ := hu.u64
    rw [lat_app hi'] at hu64 ⊢
    (repeat (apply WL.pure; rfl; rfl; rfl))
    apply WL.nil
    apply EX.thenN
    apply CW.seq
    apply CW.region
    (repeat (first | (apply WL.add; rfl; rfl; rfl; rfl; omega; omega) | (apply WL.pure; rfl; rfl; rfl)))
    apply WL.nil
    apply EX.thenN
    refine CW.cut [(2, .pointer (some ⟨w0.heap.size, 0, none⟩)), (3, .pointer (some ⟨w1.heap.size, 0, none⟩)), (5, .int .i64 nx.length), (6, .int .i64 m), (7, .slice wo (s ++ l).length wc), (8, sv), (9, .int .i64 i), (10, .int .u64 (lat s l i : Nat)), (11, .int .i64 (nextL s l i : Nat)), (35, .slice wo (s ++ l).length wc), (36, .int .i64 (s ++ l).length), (37, .int .i64 i)] ?_ ?_
    · (repeat (first | (apply WL.pure; rfl; rfl; rfl) | (apply WL.nil) | (apply EX.thenN) | (apply CW.seq) | (apply CW.region)))
      refine CW.cond rfl (fun h9 => ?_) (fun h9 => ?_)
      · have h9 : i + 1 = s.length + l.length := by simp at h9; omega
        have hb3 := hb3.ext e7
        (repeat (first | (apply WL.pure; rfl; rfl; rfl) | (apply WL.nil) | (apply CW.region) | (apply WL.lenS; rfl; rfl; rfl) | (apply WL.fa; rfl; rfl; rfl) | (apply WL.ld; rfl; rfl; rfl; assumption; rfl)))
        rw [show nextL s l i = s.length by unfold nextL; rw [if_pos h9]]
        exact EX.cut (by repeat (first | exact trivial | refine ⟨rfl, ?_⟩))
      · have h9 : ¬ i + 1 = s.length + l.length := by simp at h9; omega
        rw [show nextL s l i = i + 1 by unfold nextL; rw [if_neg h9]]
        exact CW.skip (EX.cut (by repeat (first | exact trivial | refine ⟨rfl, ?_⟩)))
    have hnxt : nextL s l i < (s ++ l).length := by unfold nextL; split <;> omega
    obtain ⟨nxt, hnx'⟩ : ∃ nxt, nxt = nextL s l i := ⟨_, rfl⟩
    rw [← hnx'] at hnxt ⊢
    (repeat (first | (apply WL.pure; rfl; rfl; rfl) | (apply WL.nil) | (apply EX.thenN) | (apply CW.seq) | (apply CW.region) | (apply CW.block)))
    refine CW.loop (S := Nat × List Raw) (fun x => [(2, .pointer (some ⟨w0.heap.size, 0, none⟩)), (3, .pointer (some ⟨w1.heap.size, 0, none⟩)), (5, .int .i64 nx.length), (6, .int .i64 m), (7, .slice wo (s ++ l).length wc), (8, sv), (9, .int .i64 i), (10, .int .u64 (lat s l i : Nat)), (11, .int .i64 nxt), (35, .slice wo (s ++ l).length wc), (36, .int .i64 (s ++ l).length), (37, .int .i64 i), (50, .int .i64 nx.length), (51, .int .i64 x.1)])
      (fun x w => x.1 ≤ nx.length ∧ OwnN w w5.heap.size 22 3 sv x.2 (gridP (nx.length * m) full (i * nx.length + x.1) []) ∧ Ext w5 w) (fun x => nx.length - x.1) (0, vs) (by repeat (first | exact trivial | refine ⟨rfl, ?_⟩)) ⟨Nat.zero_le _, hN, e7⟩ ?_
    rintro ⟨k, vs⟩ w8 ⟨hk, hN, e8⟩
    dsimp only at hk hN
    (repeat (first | (apply WL.pure; rfl; rfl; rfl) | (apply WL.nil) | (apply EX.thenN) | (apply CW.seq) | (apply CW.region)))
    refine CW.cond rfl (fun h => ?_) (fun h => ?_)
    · have hk' : k < nx.length := by simp at h; omega
      have hb2' := hb2.ext e8
      have hE8 := hE.trans e8
      have er : nx.getD k [] = nx[k] := by rw [List.getD_eq_getElem?_getD, List.getElem?_eq_getElem hk']; rfl
      obtain ⟨dm1, dm2⟩ := divmod (n := nx.length) (i := i) hk'
      (repeat (first | (apply WL.pure; rfl; rfl; rfl) | (apply WL.nil) | (apply EX.thenN) | (apply CW.seq) | (apply CW.region) | (apply WL.ldA; rfl; rfl; rfl; assumption; rfl) | (apply CW.block) | (apply CW.skip)))
      refine WL.call rfl rfl rfl (Fits_ok w8 (h3.up hE8) (h4.up hE8) k (lat s l i) (by omega) (by omega) hu64) ?_
      rintro _ w9 ⟨rfl, e9⟩
      have e8 := e8.trans e9
      have hN := hN.ext e9
      have hE8 := hE8.trans e9
      have hb2' := hb2'.ext e9
      (repeat (first | (apply WL.pure; rfl; rfl; rfl) | (apply WL.nil) | (apply EX.thenN)))
      refine CW.cond rfl (fun hf => ?_) (fun hf => ?_)
      · have hf : ¬ fitB mu no k (lat s l i) = true := by simpa using hf
        (repeat (first | (apply WL.add; rfl; rfl; rfl; rfl; omega; omega) | (apply WL.pure; rfl; rfl; rfl) | (apply WL.nil) | (apply EX.thenN) | (apply CW.region) | (apply CW.exit) | (apply EX.thenX) | (apply EX.inX)))
        refine EX.back (k + 1, vs) (by repeat (first | exact trivial | refine ⟨rfl, ?_⟩)) ⟨hk', ?_, e8⟩ (by dsimp only; omega)
        have e := gridP_next (N := nx.length * m) (full := full) (x0 := i * nx.length + k)
        rw [show full (i * nx.length + k) = [] by rw [hfull]; exact prodPart_no hk' hf] at e
        rw [e] at hN; exact hN
      have hf : fitB mu no k (lat s l i) = true := by simpa using hf
      (repeat (first | (apply WL.pure; rfl; rfl; rfl) | (apply EX.thenN) | (apply CW.seq) | (apply CW.region) | (apply WL.fa; rfl; rfl; rfl) | (apply WL.ld; rfl; rfl; rfl; assumption; rfl) | (apply CW.skip)))
      refine WL.elemN rfl rfl rfl rfl rfl (h2.at hE8) hk' (fun _ => rfl) (fun u q hu => ?_)
      obtain ⟨ro, rc, rfl, hrow⟩ := hu.sl
      have hrl := hrow.len63
      have hrT := hT _ (List.getElem_mem hk')
      (repeat (first | (apply WL.pure; rfl; rfl; rfl) | (apply WL.nil) | (apply EX.thenN) | (apply WL.lenS; rfl; rfl; rfl) | (apply CW.block)))
      refine CW.loop (S := Nat × List Raw) (fun x => [(2, .pointer (some ⟨w0.heap.size, 0, none⟩)), (3, .pointer (some ⟨w1.heap.size, 0, none⟩)), (5, .int .i64 nx.length), (6, .int .i64 m), (7, .slice wo (s ++ l).length wc), (8, sv), (9, .int .i64 i), (10, .int .u64 (lat s l i : Nat)), (11, .int .i64 nxt), (12, .int .i64 k), (35, .slice wo (s ++ l).length wc), (36, .int .i64 (s ++ l).length), (37, .int .i64 i), (50, .int .i64 nx.length), (51, .int .i64 k), (63, .slice ro nx[k].length rc), (64, .int .i64 nx[k].length), (65, .int .i64 x.1)])
        (fun x w => x.1 ≤ nx[k].length ∧ OwnN w w5.heap.size 22 3 sv x.2 (gridP (nx.length * m) full (i * nx.length + k) (prodPart nx mu no s l (i * nx.length + k) x.1)) ∧ Ext w5 w) (fun x => nx[k].length - x.1) (0, vs) (by repeat (first | exact trivial | refine ⟨rfl, ?_⟩)) ⟨Nat.zero_le _, by rw [prodPart_zero]; exact hN, e8⟩ ?_
      rintro ⟨j, vs⟩ w10 ⟨hj, hN, e10⟩
      dsimp only at hj hN
      (repeat (first | (apply WL.pure; rfl; rfl; rfl) | (apply WL.nil) | (apply EX.thenN) | (apply CW.seq) | (apply CW.region)))
      refine CW.cond rfl (fun h => ?_) (fun h => ?_)
      · have hj' : j < nx[k].length := by simp at h; omega
        have hto := hnx _ (List.getElem_mem hk') _ (List.getElem_mem hj')
        obtain ⟨to, eto⟩ := Int.eq_ofNat_of_zero_le hto.1
        have hto' : to < nx.length := by omega
        have hb2' := hb2.ext e10
        have hE10 := hE.trans e10
        have hxN := hixN i k him hk'
        have hpn := prodPart_next (mu := mu) (no := no) (s := s) (l := l) (i := i) hk' hj' hf
        rw [← hnx', eto, Int.toNat_natCast] at hpn
        have hlN : lat s l nxt < 18446744073709551616 := hlat _ hnxt
        have hrow10 : Sl w10 (Old w0) ro rc nx[k] := hrow.mono (fun b hb => (hE10.block b hb).trans (hE8.block b hb).symm) (fun _ h => h)
        (repeat (first | (apply EX.thenN) | (apply CW.seq) | (apply CW.region) | (apply CW.block) | (apply CW.skip)))
        refine WL.elemI rfl rfl rfl rfl rfl hrow10 hj' eto (fun _ => rfl) (fun q => ?_)
        (repeat (first | (apply WL.pure; rfl; rfl; rfl) | (apply QL.pure; rfl; rfl; rfl) | (apply WL.nil) | (apply EX.thenN) | (apply CW.seq) | (apply QL.ldA; rfl; rfl; rfl; assumption; rfl) | (apply CW.draw; exact mixed; kernel_rfl)))
        refine QL.elemN rfl rfl rfl rfl rfl (fun _ h => h) (hall.up e10) hnxt (fun _ => rfl) (fun u q hu => ?_)
        obtain ⟨rfl, _⟩ := hu.u64
        rw [lat_app hnxt]
        skip
        refine QL.call rfl rfl rfl (fun w hE => Fits_ok w (h3.up (hE10.trans hE)) (h4.up (hE10.trans hE)) to (lat s l nxt) (by omega) (by omega) hlN) ?_
        skip
        refine QL.nil (fun w11 e11 => ?_)
        have hN := hN.ext e11
        have e11 := e10.trans e11
        have hlen := hN.len
        rw [gridP_len] at hlen
        have hxv : i * nx.length + k < vs.length := by omega
        (repeat (apply EX.thenN))
        refine CW.cond rfl (fun hc => ?_) (fun hc => ?_)
        · rw [if_pos hc] at hpn
          have hm1 : (i : Int) * (nx.length : Int) ≤ 122880 := by have := hcast i k; omega
          have hm2 : (0 : Int) ≤ (i : Int) * (nx.length : Int) := by have := hcast i 0; omega
          have hxT := hixN nxt to (by omega) hto'
          have hm3 : (nxt : Int) * (nx.length : Int) ≤ 122880 := by have := hcast nxt to; omega
          have hm4 : (0 : Int) ≤ (nxt : Int) * (nx.length : Int) := by have := hcast nxt 0; omega
          have hin := hN.inn (i * nx.length + k) hxv (by rw [gridP_len]; exact hxN)
          rw [gridP_get hxN] at hin
          have hpl := prodPart_len (nx := nx) (mu := mu) (no := no) (s := s) (l := l) (x := i * nx.length + k) (j := j)
          rw [dm2, er] at hpl
          (repeat (first | (apply WL.add; rfl; rfl; rfl; rfl; omega; omega) | (apply WL.mul; rfl; rfl; rfl; rfl; omega; omega) | (apply WL.pure; rfl; rfl; rfl) | (apply CW.region)))
          rw [hcast i k]
          refine WL.elemON rfl rfl rfl rfl rfl hN.out hxv (fun _ => rfl) (fun u q hu => ?_)
          obtain ⟨rfl, _⟩ := hu.raw
          (repeat (first | (apply WL.add; rfl; rfl; rfl; rfl; omega; omega) | (apply WL.mul; rfl; rfl; rfl; rfl; omega; omega) | (apply WL.pure; rfl; rfl; rfl)))
          refine WL.app1 (F := Non) (yv := (nxt : Int) * (nx.length : Int) + (to : Int)) rfl rfl (fun _ => rfl) rfl rfl (fun _ => rfl) hin (Rd.mkInt _ _ _) e11.size (fun _ h => h.elim) (by decide) (by unfold maxLen; omega) (by omega) (fun v' w12 p ho12 hg12 hnb => ?_)
          skip
          have hmid := hN.mid hxv hg12
          refine WL.setN (u := v') (yv := ⟨v'⟩) rfl rfl rfl rfl hmid hxv (fun _ => rfl) (fun _ => rfl) (Rd.mkRaw _ _ _ ?_) (fun w13 q ho13 hg13 => ?_)
          · obtain ⟨a, b, rfl⟩ := ho12.val; rfl
          have hN13 := hN.set hxv ho12 hg12 hnb ho13 hg13
          rw [gridP_set hxN, ← hpn] at hN13
          have e13 : Ext w5 w13 := (e11.grown hg12 e11.size (fun b hb => (hin.lt b hb).1)).grown hg13 (Nat.le_trans e11.size hg12.size) (fun b hb => (hN.out.lt b hb).1)
          (repeat (first | (apply WL.add; rfl; rfl; rfl; rfl; omega; omega) | (apply WL.pure; rfl; rfl; rfl) | (apply WL.nil) | (apply EX.thenN) | (apply CW.region) | (apply EX.inN)))
          exact EX.back (j + 1, vs.set (i * nx.length + k) ⟨v'⟩) (by repeat (first | exact trivial | refine ⟨rfl, ?_⟩)) ⟨hj', hN13, e13⟩ (by dsimp only; omega)
        · rw [if_neg (by rw [hc]; simp), List.append_nil] at hpn
          (repeat (first | (apply WL.add; rfl; rfl; rfl; rfl; omega; omega) | (apply WL.pure; rfl; rfl; rfl) | (apply WL.nil) | (apply EX.thenN) | (apply CW.region) | (apply EX.inN) | (apply CW.skip)))
          refine EX.back (j + 1, vs) (by repeat (first | exact trivial | refine ⟨rfl, ?_⟩)) ⟨hj', ?_, e11⟩ (by dsimp only; omega)
          rw [hpn]; exact hN
      · obtain rfl : j = nx[k].length := by simp at h; omega
        (repeat (first | (apply WL.add; rfl; rfl; rfl; rfl; omega; omega) | (apply WL.pure; rfl; rfl; rfl) | (apply WL.nil) | (apply EX.thenN) | (apply CW.region) | (apply EX.inN) | (apply CW.exit) | (apply EX.thenX) | (apply EX.inX)))
        refine EX.back (k + 1, vs) (by repeat (first | exact trivial | refine ⟨rfl, ?_⟩)) ⟨hk', ?_, e10⟩ (by dsimp only; omega)
        have e := prodPart_full (nx := nx) (mu := mu) (no := no) (s := s) (l := l) (x := i * nx.length + k)
        rw [dm2, er] at e
        rw [e, ← hfull, gridP_next] at hN
        exact hN
    · obtain rfl : k = nx.length := by simp at h; omega
      (repeat (first | (apply WL.add; rfl; rfl; rfl; rfl; omega; omega) | (apply WL.pure; rfl; rfl; rfl) | (apply WL.nil) | (apply EX.thenN) | (apply CW.region) | (apply EX.inN) | (apply CW.exit) | (apply EX.thenX) | (apply EX.inX)))
      refine EX.back (i + 1, vs) (by repeat (first | exact trivial | refine ⟨rfl, ?_⟩)) ⟨him, ?_, e8⟩ (by dsimp only; omega)
      rw [show (i + 1) * nx.length = i * nx.length + nx.length by rw [Nat.add_mul]; omega]
      exact hN
  · have him : i = m := by simp at h; omega
    subst him
    (repeat (first | (apply WL.pure; rfl; rfl; rfl) | (apply WL.nil) | (apply EX.thenN) | (apply CW.seq) | (apply CW.region) | (apply CW.exit) | (apply EX.thenX) | (apply EX.inX) | (apply CW.ret)))
    refine EX.ret1 rfl rfl ⟨vs, ?_, hE.trans e7⟩
    rw [Nat.mul_comm i, gridP_done, hm] at hN
    have e : (List.range (nx.length * (s.length + l.length))).map full = prodG nx mu no s l := by rw [hfull]; rfl
    rw [e] at hN
    exact hN.low hE.size
end Go.Proofs.Ythefpigolikmeaa
