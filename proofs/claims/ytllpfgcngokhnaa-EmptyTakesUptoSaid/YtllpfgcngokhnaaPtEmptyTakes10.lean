import Derived.Test.YtllpfgcngokhnaaPtEmptyTakes9
/-
  Package auto: product.
-/
set_option linter.unusedVariables false
set_option linter.unusedSimpArgs false
namespace Go.Proofs.Ytllpfgcngokhnaa
open Go.RowKit

/-- j edges of a row are looked at -/
def prodPart (nx : List (List Int)) (mu no s l : List Nat) (x j : Nat) : List Int :=
  if fitB mu no (x % nx.length) (lat s l (x / nx.length)) = true then (((nx.getD (x % nx.length) []).take j).filter fun to => fitB mu no to.toNat (lat s l (nextL s l (x / nx.length)))).map fun to => (nextL s l (x / nx.length) : Int) * nx.length + to else []
def prodFull (nx : List (List Int)) (mu no s l : List Nat) (x : Nat) : List Int := prodRow nx mu no s l (x / nx.length) (x % nx.length)
theorem prodPart_full {nx : List (List Int)} {mu no s l : List Nat} {x : Nat} : prodPart nx mu no s l x (nx.getD (x % nx.length) []).length = prodFull nx mu no s l x := by
  unfold prodPart prodFull prodRow; rw [List.take_length]
theorem divmod {n i k : Nat} (hk : k < n) : (i * n + k) / n = i ∧ (i * n + k) % n = k := by
  constructor
  · rw [Nat.add_comm, Nat.add_mul_div_right _ _ (by omega), Nat.div_eq_of_lt hk, Nat.zero_add]
  · rw [Nat.add_comm, Nat.add_mul_mod_self_right, Nat.mod_eq_of_lt hk]
theorem prodPart_next {nx : List (List Int)} {mu no s l : List Nat} {i k j : Nat} (hk : k < nx.length) (hj : j < nx[k].length) (hf : fitB mu no k (lat s l i) = true) :
    prodPart nx mu no s l (i * nx.length + k) (j + 1) = prodPart nx mu no s l (i * nx.length + k) j ++ if fitB mu no (nx[k][j]).toNat (lat s l (nextL s l i)) = true then [(nextL s l i : Int) * nx.length + nx[k][j]] else [] := by
  obtain ⟨e1, e2⟩ := divmod (n := nx.length) (i := i) hk
  unfold prodPart
  rw [e1, e2, if_pos hf, if_pos hf]
  have er : nx.getD k [] = nx[k] := by rw [List.getD_eq_getElem?_getD, List.getElem?_eq_getElem hk]; rfl
  rw [er, ← List.take_append_getElem hj, List.filter_append, List.map_append]
  congr 1
  by_cases h : fitB mu no (nx[k][j]).toNat (lat s l (nextL s l i)) = true
  · rw [if_pos h]; simp [h]
  · rw [if_neg h]; simp [h]
theorem prodPart_zero {nx : List (List Int)} {mu no s l : List Nat} {x : Nat} : prodPart nx mu no s l x 0 = [] := by
  unfold prodPart; split <;> simp
theorem prodPart_no {nx : List (List Int)} {mu no s l : List Nat} {i k : Nat} (hk : k < nx.length) (hf : ¬ fitB mu no k (lat s l i) = true) : prodFull nx mu no s l (i * nx.length + k) = [] := by
  obtain ⟨e1, e2⟩ := divmod (n := nx.length) (i := i) hk
  unfold prodFull prodRow
  rw [e1, e2, if_neg hf]
theorem prodPart_len {nx : List (List Int)} {mu no s l : List Nat} {x j : Nat} : (prodPart nx mu no s l x j).length ≤ (nx.getD (x % nx.length) []).length := by
  unfold prodPart
  split
  · rw [List.length_map]
    refine Nat.le_trans (List.length_filter_le _ _) ?_
    rw [List.length_take]; omega
  · simp
theorem lat_app {s l : List Nat} {i : Nat} (h : i < (s ++ l).length) : (s ++ l)[i] = lat s l i := by
  unfold lat
  rw [List.length_append] at h
  by_cases hi : i < s.length
  · rw [if_pos hi, List.getElem_append_left hi, getDN_at hi]
  · rw [if_neg hi, List.getElem_append_right (by omega), Nat.mod_eq_of_lt (by omega), getDN_at (by omega)]
theorem product_ok (w0 : World) {v0 : Value} {A : LAuto} {s l : List Nat} {so lo : Option Addr} {sc lc : Nat} (ha : AutoAt w0 (Old w0) v0 A) (hok : OkA A) (hs : Sl w0 (Old w0) so sc s) (hl : Sl w0 (Old w0) lo lc l)
    (h0 : 0 < l.length) (h60 : s.length + l.length ≤ 60) (hT : ∀ r ∈ A.2.1, r.length ≤ 8589934592) :
    Rt Try.prog 106 [v0, wordV so sc lo lc s l].toArray w0 fun v w' => ∃ vs, OwnN w' w0.heap.size 22 3 v vs (prodG A.2.1 A.2.2.1 A.2.2.2.1 s l) ∧ Ext w0 w' := by
  obtain ⟨a1, c1, a2, c2, a3, c3, a4, c4, a5, c5, rfl, h1, h2, h3, h4, h5⟩ := ha.ok
  obtain ⟨st, nx, mu, no, fr⟩ := A
  dsimp only at *
  have hm2 := h2.len63
  have hn := hok.n
  have hmu := hok.mu
  have hno := hok.no
  have hnx := hok.nx
  dsimp only at hn hmu hno hnx
  refine Rt.enter2 Try.func106 Try.ntmps106 rfl rfl ?_
  have hE := Ext.refl w0
  (repeat (first | (apply CW.seq) | (apply CW.region)))
  refine WL.boxB rfl rfl rfl fun w1 hb2 e1 => ?_
  have hE := hE.trans e1
  skip
  refine WL.boxB rfl rfl rfl fun w2 hb3 e2 => ?_
  have hb2 := hb2.ext e2
  have hE := hE.trans e2
  (repeat (first | (apply WL.pure; rfl; rfl; rfl) | (apply WL.nil) | (apply EX.thenN) | (apply CW.seq)))
  apply CW.draw
  · exact mixed
  · kernel_rfl
  (repeat (first | (apply QL.add; rfl; rfl; rfl; rfl; omega; omega) | (apply QL.pure; rfl; rfl; rfl) | (apply QL.lenS; rfl; rfl; rfl) | (apply QL.fa; rfl; rfl; rfl) | (apply QL.ld; rfl; rfl; rfl; assumption; rfl)))
  refine QL.nil (fun w3 e3 => ?_)
  have hb2 := hb2.ext e3
  have hb3 := hb3.ext e3
  have hE := hE.trans e3
  (repeat (first | (apply EX.thenN) | (apply CW.seq)))
  have hT0 : Ext w0 (drew w3) := hE.trans (Ext.drew w3)
  have hSE : ∀ x, (fun x => Ext w3 x) x → Ext w3 x := fun _ h => h
  refine CW.drawH (fun x => Ext w3 x) [(0, true), (1, true), (3, true), (4, true), (2, false), (5, false), (6, true)] mixed (by kernel_rfl) (Ext.drew w3) ?_
  (repeat (first | (refine HL.fa rfl rfl rfl rfl ?_) | (refine HL.ld (by assumption) rfl rfl rfl rfl (by assumption) rfl ?_)))
  refine HL.mut rfl (WL.call rfl rfl rfl (clone_u64 (drew w3) (hs.up hT0) (fun _ h => h) (by omega)) ?_)
  rintro cV w4 ⟨hoc, e4⟩
  have hT4 : Ext w3 w4 := (Ext.drew w3).trans e4
  refine WL.nil (EX.mut hT4 ?_)
  skip
  have hE4 := hE.trans hT4
  refine HL.mut rfl (WL.app (F := Non) rfl rfl rfl rfl hoc (hl.up hE4).srcN e4.size (fun _ h => h.elim) (by unfold maxLen; omega) (by omega) (fun wV w5 how hg5 _ => ?_))
  have hT5 : Ext w3 w5 := hT4.grown hg5 hT4.size (fun g hg => Nat.le_trans (Ext.drew w3).size (hoc.lt g hg).1)
  refine WL.nil (EX.mut hT5 ?_)
  (repeat (first | (apply HL.pure; rfl; rfl; rfl; rfl) | (apply HL.nil)))
  have hE := hE.trans hT5
  have hb2 := hb2.ext hT5
  have hb3 := hb3.ext hT5
  obtain ⟨wo, wc, rfl, hall⟩ := how.oldN.sl
  clear e1 e2 e3 e4 hT0 hT4 hT5 hE4 how hg5 hoc
  have hxs : ∀ x ∈ s ++ l, x < 18446744073709551616 := by
    intro x hx
    obtain ⟨i, hi, rfl⟩ := List.mem_iff_getElem.1 hx
    obtain ⟨b, off, _, _, es, _, hr⟩ := hall.el i hi
    exact (rd_u64 hr).2
  have hlat : ∀ i, i < (s ++ l).length → lat s l i < 18446744073709551616 := fun i hi => by rw [← lat_app hi]; exact hxs _ (List.getElem_mem hi)
  have halen : (s ++ l).length = s.length + l.length := List.length_append
  obtain ⟨m, hm⟩ : ∃ m, m = s.length + l.length := ⟨_, rfl⟩
  rw [show (s.length : Int) + l.length = (m : Int) by omega]
  have hNN : nx.length * m ≤ 122880 := Nat.le_trans (Nat.mul_le_mul hn (show m ≤ 60 by omega)) (by decide)
  have hNZ : (nx.length : Int) * (m : Int) = ((nx.length * m : Nat) : Int) := by push_cast; rfl
  (repeat (first | (apply WL.mul; rfl; rfl; rfl; rfl; omega; omega) | (apply WL.pure; rfl; rfl; rfl) | (apply EX.thenN) | (apply CW.seq) | (apply CW.region)))
  rw [hNZ]
  refine WL.make (α := Raw) rfl rfl rfl rfl (by omega) (by unfold maxLen; omega) (fun w6 ho6 hg6 => ?_)
  have e6 : Ext w5 w6 := (Below.refl _ _).grown hg6 (Nat.le_refl _) (fun k h => by cases h)
  generalize hsv : Value.slice (some ⟨w5.heap.size, 0, none⟩) (nx.length * m) (nx.length * m) = sv at *
  obtain ⟨full, hfull⟩ : ∃ full, full = prodFull nx mu no s l := ⟨_, rfl⟩
  have hN6 : OwnN w6 w5.heap.size 22 3 sv _ (List.replicate (nx.length * m) ([] : List Int)) := OwnN.made ho6
  rw [← gridP_start (full := full)] at hN6
  clear ho6 hg6
  have hixN : ∀ i k, i < m → k < nx.length → i * nx.length + k < nx.length * m := fun i k hi hk => by
    have h1 : (i + 1) * nx.length ≤ m * nx.length := Nat.mul_le_mul_right _ hi
    rw [Nat.add_mul, Nat.mul_comm m] at h1
    omega
  have hcast : ∀ i k : Nat, (i : Int) * (nx.length : Int) + (k : Int) = ((i * nx.length + k : Nat) : Int) := fun i k => by push_cast; rfl
  (repeat (first | (apply WL.pure; rfl; rfl; rfl) | (apply WL.nil) | (apply EX.thenN) | (apply CW.seq) | (apply CW.region) | (apply WL.lenS; rfl; rfl; rfl) | (apply CW.block)))
  refine CW.loop (S := Nat × List Raw) (fun x => [(2, .pointer (some ⟨w0.heap.size, 0, none⟩)), (3, .pointer (some ⟨w1.heap.size, 0, none⟩)), (5, .int .i64 nx.length), (6, .int .i64 m), (7, .slice wo (s ++ l).length wc), (8, sv), (35, .slice wo (s ++ l).length wc), (36, .int .i64 (s ++ l).length), (37, .int .i64 x.1)])
    (fun x w => x.1 ≤ m ∧ OwnN w w5.heap.size 22 3 sv x.2 (gridP (nx.length * m) full (x.1 * nx.length) []) ∧ Ext w5 w) (fun x => m - x.1) (0, _) (by repeat (first | exact trivial | refine ⟨rfl, ?_⟩)) ⟨Nat.zero_le _, by rw [Nat.zero_mul]; exact hN6, e6⟩ ?_
  rintro ⟨i, vs⟩ w7 ⟨hi, hN, e7⟩
  dsimp only at hi hN
  (repeat (first | (apply WL.pure; rfl; rfl; rfl) | (apply WL.nil) | (apply EX.thenN) | (apply CW.seq) | (apply CW.region)))
  refine CW.cond rfl (fun h => ?_) (fun h => ?_)
  · have hi' : i < (s ++ l).length := by simp at h; omega
    have him : i < m := by omega
    (repeat (first | (apply WL.pure; rfl; rfl; rfl) | (apply EX.thenN) | (apply CW.seq) | (apply CW.region) | (apply CW.block) | (apply CW.skip)))
    refine WL.elemN rfl rfl rfl rfl rfl (hall.up e7) hi' (fun _ => rfl) (fun u q hu => ?_)
    obtain ⟨rfl, hu64⟩ := hu.u64
    rw [lat_app hi'] at hu64 ⊢
    (repeat (apply WL.pure; rfl; rfl; rfl))
    apply WL.nil
    apply EX.thenN
    apply CW.seq
    apply CW.region
    (repeat (first | (apply WL.add; rfl; rfl; rfl; rfl; omega; omega) | (apply WL.pure; rfl; rfl; rfl)))
    apply WL.nil
    apply EX.thenN
    refine CW.cut [(2, .pointer (some ⟨w0.heap.size, 0, none⟩)), (3, .pointer (some ⟨w1.heap.size, 0, none⟩)), (5, .int .i64 nx.length), (6, .int .i64 m), (7, .slice wo (s ++ l).length wc), (8, sv), (9, .int .i64 i), (10, .int .u64 (lat s l i : Nat)), (11, .int .i64 (nextL s l i : Nat)), (35, .slice wo (s ++ l).length wc), (36, .int .i64 (s ++ l).length), (37, .int .i64 i)] ?_ ?_
    · (repeat (first | (apply WL.pure; rfl; rfl; rfl) | (apply WL.nil) | (apply EX.thenN) | (apply CW.seq) | (apply CW.region)))
      refine CW.cond rfl (fun h9 => ?_) (fun h9 => ?_)
      · have h9 : i + 1 = s.length + l.length := by simp at h9; omega
        have hb3 := hb3.ext e7
        (repeat (first | (apply WL.pure; rfl; rfl; rfl) | (apply WL.nil) | (apply CW.region) | (apply WL.lenS; rfl; rfl; rfl) | (apply WL.fa; rfl; rfl; rfl) | (apply WL.ld; rfl; rfl; rfl; assumption; rfl)))
        rw [show nextL s l i = s.length by unfold nextL; rw [if_pos h9]]
        exact EX.cut (by repeat (first | exact trivial | refine ⟨rfl, ?_⟩))
      · have h9 : ¬ i + 1 = s.length + l.length := by simp at h9; omega
        rw [show nextL s l i = i + 1 by unfold nextL; rw [if_neg h9]]
        exact CW.skip (EX.cut (by repeat (first | exact trivial | refine ⟨rfl, ?_⟩)))
    have hnxt : nextL s l i < (s ++ l).length := by unfold nextL; split <;> omega
    obtain ⟨nxt, hnx'⟩ : ∃ nxt, nxt = nextL s l i := ⟨_, rfl⟩
    rw [← hnx'] at hnxt ⊢
    (repeat (first | (apply WL.pure; rfl; rfl; rfl) | (apply WL.nil) | (apply EX.thenN) | (apply CW.seq) | (apply CW.region) | (apply CW.block)))
    refine CW.loop (S := Nat × List Raw) (fun x => [(2, .pointer (some ⟨w0.heap.size, 0, none⟩)), (3, .pointer (some ⟨w1.heap.size, 0, none⟩)), (5, .int .i64 nx.length), (6, .int .i64 m), (7, .slice wo (s ++ l).length wc), (8, sv), (9, .int .i64 i), (10, .int .u64 (lat s l i : Nat)), (11, .int .i64 nxt), (35, .slice wo (s ++ l).length wc), (36, .int .i64 (s ++ l).length), (37, .int .i64 i), (50, .int .i64 nx.length), (51, .int .i64 x.1)])
      (fun x w => x.1 ≤ nx.length ∧ OwnN w w5.heap.size 22 3 sv x.2 (gridP (nx.length * m) full (i * nx.length + x.1) []) ∧ Ext w5 w) (fun x => nx.length - x.1) (0, vs) (by repeat (first | exact trivial | refine ⟨rfl, ?_⟩)) ⟨Nat.zero_le _, hN, e7⟩ ?_
    rintro ⟨k, vs⟩ w8 ⟨hk, hN, e8⟩
    dsimp only at hk hN
    (repeat (first | (apply WL.pure; rfl; rfl; rfl) | (apply WL.nil) | (apply EX.thenN) | (apply CW.seq) | (apply CW.region)))
    refine CW.cond rfl (fun h => ?_) (fun h => ?_)
    · have hk' : k < nx.length := by simp at h; omega
      have hb2' := hb2.ext e8
      have hE8 := hE.trans e8
      have er : nx.getD k [] = nx[k] := by rw [List.getD_eq_getElem?_getD, List.getElem?_eq_getElem hk']; rfl
      obtain ⟨dm1, dm2⟩ := divmod (n := nx.length) (i := i) hk'
      (repeat (first | (apply WL.pure; rfl; rfl; rfl) | (apply WL.nil) | (apply EX.thenN) | (apply CW.seq) | (apply CW.region) | (apply WL.ldA; rfl; rfl; rfl; assumption; rfl) | (apply CW.block) | (apply CW.skip)))
      refine WL.call rfl rfl rfl (Fits_ok w8 (h3.up hE8) (h4.up hE8) k (lat s l i) (by omega) (by omega) hu64) ?_
      rintro _ w9 ⟨rfl, e9⟩
      have e8 := e8.trans e9
      have hN := hN.ext e9
      have hE8 := hE8.trans e9
      have hb2' := hb2'.ext e9
      (repeat (first | (apply WL.pure; rfl; rfl; rfl) | (apply WL.nil) | (apply EX.thenN)))
      refine CW.cond rfl (fun hf => ?_) (fun hf => ?_)
      · have hf : ¬ fitB mu no k (lat s l i) = true := by simpa using hf
        (repeat (first | (apply WL.add; rfl; rfl; rfl; rfl; omega; omega) | (apply WL.pure; rfl; rfl; rfl) | (apply WL.nil) | (apply EX.thenN) | (apply CW.region) | (apply CW.exit) | (apply EX.thenX) | (apply EX.inX)))
        refine EX.back (k + 1, vs) (by repeat (first | exact trivial | refine ⟨rfl, ?_⟩)) ⟨hk', ?_, e8⟩ (by dsimp only; omega)
        have e := gridP_next (N := nx.length * m) (full := full) (x0 := i * nx.length + k)
        rw [show full (i * nx.length + k) = [] by rw [hfull]; exact prodPart_no hk' hf] at e
        rw [e] at hN; exact hN
      have hf : fitB mu no k (lat s l i) = true := by simpa using hf
      (repeat (first | (apply WL.pure; rfl; rfl; rfl) | (apply EX.thenN) | (apply CW.seq) | (apply CW.region) | (apply WL.fa; rfl; rfl; rfl) | (apply WL.ld; rfl; rfl; rfl; assumption; rfl) | (apply CW.skip)))
      refine WL.elemN rfl rfl rfl rfl rfl (h2.at hE8) hk' (fun _ => rfl) (fun u q hu => ?_)
      obtain ⟨ro, rc, rfl, hrow⟩ := hu.sl
      have hrl := hrow.len63
      have hrT := hT _ (List.getElem_mem hk')
      (repeat (first | (apply WL.pure; rfl; rfl; rfl) | (apply WL.nil) | (apply EX.thenN) | (apply WL.lenS; rfl; rfl; rfl) | (apply CW.block)))
      refine CW.loop (S := Nat × List Raw) (fun x => [(2, .pointer (some ⟨w0.heap.size, 0, none⟩)), (3, .pointer (some ⟨w1.heap.size, 0, none⟩)), (5, .int .i64 nx.length), (6, .int .i64 m), (7, .slice wo (s ++ l).length wc), (8, sv), (9, .int .i64 i), (10, .int .u64 (lat s l i : Nat)), (11, .int .i64 nxt), (12, .int .i64 k), (35, .slice wo (s ++ l).length wc), (36, .int .i64 (s ++ l).length), (37, .int .i64 i), (50, .int .i64 nx.length), (51, .int .i64 k), (63, .slice ro nx[k].length rc), (64, .int .i64 nx[k].length), (65, .int .i64 x.1)])
        (fun x w => x.1 ≤ nx[k].length ∧ OwnN w w5.heap.size 22 3 sv x.2 (gridP (nx.length * m) full (i * nx.length + k) (prodPart nx mu no s l (i * nx.length + k) x.1)) ∧ Ext w5 w) (fun x => nx[k].length - x.1) (0, vs) (by repeat (first | exact trivial | refine ⟨rfl, ?_⟩)) ⟨Nat.zero_le _, by rw [prodPart_zero]; exact hN, e8⟩ ?_
      rintro ⟨j, vs⟩ w10 ⟨hj, hN, e10⟩
      dsimp only at hj hN
      (repeat (first | (apply WL.pure; rfl; rfl; rfl) | (apply WL.nil) | (apply EX.thenN) | (apply CW.seq) | (apply CW.region)))
      refine CW.cond rfl (fun h => ?_) (fun h => ?_)
      · have hj' : j < nx[k].length := by simp at h; omega
        have hto := hnx _ (List.getElem_mem hk') _ (List.getElem_mem hj')
        obtain ⟨to, eto⟩ := Int.eq_ofNat_of_zero_le hto.1
        have hto' : to < nx.length := by omega
        have hb2' := hb2.ext e10
        have hE10 := hE.trans e10
        have hxN := hixN i k him hk'
        have hpn := prodPart_next (mu := mu) (no := no) (s := s) (l := l) (i := i) hk' hj' hf
        rw [← hnx', eto, Int.toNat_natCast] at hpn
        have hlN : lat s l nxt < 18446744073709551616 := hlat _ hnxt
        have hrow10 : Sl w10 (Old w0) ro rc nx[k] := hrow.mono (fun b hb => (hE10.block b hb).trans (hE8.block b hb).symm) (fun _ h => h)
        (repeat (first | (apply EX.thenN) | (apply CW.seq) | (apply CW.region) | (apply CW.block) | (apply CW.skip)))
        refine WL.elemI rfl rfl rfl rfl rfl hrow10 hj' eto (fun _ => rfl) (fun q => ?_)
        (repeat (first | (apply WL.pure; rfl; rfl; rfl) | (apply QL.pure; rfl; rfl; rfl) | (apply WL.nil) | (apply EX.thenN) | (apply CW.seq) | (apply QL.ldA; rfl; rfl; rfl; assumption; rfl) | (apply CW.draw; exact mixed; kernel_rfl)))
        refine QL.elemN rfl rfl rfl rfl rfl (fun _ h => h) (hall.up e10) hnxt (fun _ => rfl) (fun u q hu => ?_)
        obtain ⟨rfl, _⟩ := hu.u64
        rw [lat_app hnxt]
        skip
        refine QL.call rfl rfl rfl (fun w hE => Fits_ok w (h3.up (hE10.trans hE)) (h4.up (hE10.trans hE)) to (lat s l nxt) (by omega) (by omega) hlN) ?_
        skip
        refine QL.nil (fun w11 e11 => ?_)
        have hN := hN.ext e11
        have e11 := e10.trans e11
        have hlen := hN.len
        rw [gridP_len] at hlen
        have hxv : i * nx.length + k < vs.length := by omega
        (repeat (apply EX.thenN))
        refine CW.cond rfl (fun hc => ?_) (fun hc => ?_)
        · rw [if_pos hc] at hpn
          have hm1 : (i : Int) * (nx.length : Int) ≤ 122880 := by have := hcast i k; omega
          have hm2 : (0 : Int) ≤ (i : Int) * (nx.length : Int) := by have := hcast i 0; omega
          have hxT := hixN nxt to (by omega) hto'
          have hm3 : (nxt : Int) * (nx.length : Int) ≤ 122880 := by have := hcast nxt to; omega
          have hm4 : (0 : Int) ≤ (nxt : Int) * (nx.length : Int) := by have := hcast nxt 0; omega
          have hin := hN.inn (i * nx.length + k) hxv (by rw [gridP_len]; exact hxN)
          rw [gridP_get hxN] at hin
          have hpl := prodPart_len (nx := nx) (mu := mu) (no := no) (s := s) (l := l) (x := i * nx.length + k) (j := j)
          rw [dm2, er] at hpl
          (repeat (first | (apply WL.add; rfl; rfl; rfl; rfl; omega; omega) | (apply WL.mul; rfl; rfl; rfl; rfl; omega; omega) | (apply WL.pure; rfl; rfl; rfl) | (apply CW.region)))
          rw [hcast i k]
          refine WL.elemON rfl rfl rfl rfl rfl hN.out hxv (fun _ => rfl) (fun u q hu => ?_)
          obtain ⟨rfl, _⟩ := hu.raw
          (repeat (first | (apply WL.add; rfl; rfl; rfl; rfl; omega; omega) | (apply WL.mul; rfl; rfl; rfl; rfl; omega; omega) | (apply WL.pure; rfl; rfl; rfl)))
          refine WL.app1 (F := Non) (yv := (nxt : Int) * (nx.length : Int) + (to : Int)) rfl rfl (fun _ => rfl) rfl rfl (fun _ => rfl) hin (Rd.mkInt _ _ _) e11.size (fun _ h => h.elim) (by decide) (by unfold maxLen; omega) (by omega) (fun v' w12 p ho12 hg12 hnb => ?_)
          skip
          have hmid := hN.mid hxv hg12
          refine WL.setN (u := v') (yv := ⟨v'⟩) rfl rfl rfl rfl hmid hxv (fun _ => rfl) (fun _ => rfl) (Rd.mkRaw _ _ _ ?_) (fun w13 q ho13 hg13 => ?_)
          · obtain ⟨a, b, rfl⟩ := ho12.val; rfl
          have hN13 := hN.set hxv ho12 hg12 hnb ho13 hg13
          rw [gridP_set hxN, ← hpn] at hN13
          have e13 : Ext w5 w13 := (e11.grown hg12 e11.size (fun b hb => (hin.lt b hb).1)).grown hg13 (Nat.le_trans e11.size hg12.size) (fun b hb => (hN.out.lt b hb).1)
          (repeat (first | (apply WL.add; rfl; rfl; rfl; rfl; omega; omega) | (apply WL.pure; rfl; rfl; rfl) | (apply WL.nil) | (apply EX.thenN) | (apply CW.region) | (apply EX.inN)))
          exact EX.back (j + 1, vs.set (i * nx.length + k) ⟨v'⟩) (by repeat (first | exact trivial | refine ⟨rfl, ?_⟩)) ⟨hj', hN13, e13⟩ (by dsimp only; omega)
        · rw [if_neg (by rw [hc]; simp), List.append_nil] at hpn
          (repeat (first | (apply WL.add; rfl; rfl; rfl; rfl; omega; omega) | (apply WL.pure; rfl; rfl; rfl) | (apply WL.nil) | (apply EX.thenN) | (apply CW.region) | (apply EX.inN) | (apply CW.skip)))
          refine EX.back (j + 1, vs) (by repeat (first | exact trivial | refine ⟨rfl, ?_⟩)) ⟨hj', ?_, e11⟩ (by dsimp only; omega)
          rw [hpn]; exact hN
      · obtain rfl : j = nx[k].length := by simp at h; omega
        (repeat (first | (apply WL.add; rfl; rfl; rfl; rfl; omega; omega) | (apply WL.pure; rfl; rfl; rfl) | (apply WL.nil) | (apply EX.thenN) | (apply CW.region) | (apply EX.inN) | (apply CW.exit) | (apply EX.thenX) | (apply EX.inX)))
        refine EX.back (k + 1, vs) (by repeat (first | exact trivial | refine ⟨rfl, ?_⟩)) ⟨hk', ?_, e10⟩ (by dsimp only; omega)
        have e := prodPart_full (nx := nx) (mu := mu) (no := no) (s := s) (l := l) (x := i * nx.length + k)
        rw [dm2, er] at e
        rw [e, ← hfull, gridP_next] at hN
        exact hN
    · obtain rfl : k = nx.length := by simp at h; omega
      (repeat (first | (apply WL.add; rfl; rfl; rfl; rfl; omega; omega) | (apply WL.pure; rfl; rfl; rfl) | (apply WL.nil) | (apply EX.thenN) | (apply CW.region) | (apply EX.inN) | (apply CW.exit) | (apply EX.thenX) | (apply EX.inX)))
      refine EX.back (i + 1, vs) (by repeat (first | exact trivial | refine ⟨rfl, ?_⟩)) ⟨him, ?_, e8⟩ (by dsimp only; omega)
      rw [show (i + 1) * nx.length = i * nx.length + nx.length by rw [Nat.add_mul]; omega]
      exact hN
  · have him : i = m := by simp at h; omega
    subst him
    (repeat (first | (apply WL.pure; rfl; rfl; rfl) | (apply WL.nil) | (apply EX.thenN) | (apply CW.seq) | (apply CW.region) | (apply CW.exit) | (apply EX.thenX) | (apply EX.inX) | (apply CW.ret)))
    refine EX.ret1 rfl rfl ⟨vs, ?_, hE.trans e7⟩
    rw [Nat.mul_comm i, gridP_done, hm] at hN
    have e : (List.range (nx.length * (s.length + l.length))).map full = prodG nx mu no s l := by rw [hfull]; rfl
    rw [e] at hN
    exact hN.low hE.size
end Go.Proofs.Ytllpfgcngokhnaa
/-
  Package auto: reached, round.
-/
set_option linter.unusedVariables false
set_option linter.unusedSimpArgs false
namespace Go.Proofs.Ytllpfgcngokhnaa
open Go.RowKit

def nzB (num : List Int) : List Bool := num.map fun x => decide (x ≠ 0)
structure NInv (g : Graph) (f num li todo : List Int) : Prop where
  ln : num.length = g.length
  nd : li.Nodup
  ok : okL g.length li
  val : ∀ k : Nat, k < g.length → num.getD k 0 = if (k : Int) ∈ li then (li.idxOf (k : Int) : Int) + 1 else 0
  rv : RInv g f (nzB num) todo
section
variable {g : Graph} {f num li todo : List Int}
theorem nzB_get {k : Nat} (h : k < num.length) : (nzB num).getD k false = decide (num.getD k 0 ≠ 0) := by
  unfold nzB
  rw [List.getD_eq_getElem?_getD, List.getD_eq_getElem?_getD, List.getElem?_map, List.getElem?_eq_getElem h]; rfl
theorem nzB_set {k : Nat} {v : Int} (hv : v ≠ 0) : nzB (num.set k v) = (nzB num).set k true := by
  unfold nzB; rw [List.map_set, decide_eq_true hv]
theorem NInv.start (hf : okL g.length f) : NInv g f (List.replicate g.length 0) [] f := by
  refine ⟨by simp, List.nodup_nil, (fun x hx => by cases hx), fun k hk => ?_, ?_⟩
  · rw [if_neg (by simp), List.getD_eq_getElem?_getD, List.getElem?_replicate, if_pos hk]; rfl
  · have : nzB (List.replicate g.length (0 : Int)) = List.replicate g.length false := by simp [nzB]
    rw [this]; exact RInv.start hf
theorem NInv.pass {x : Int} (h : NInv g f num li (todo ++ [x])) (hx : num.getD x.toNat 0 ≠ 0) : NInv g f num li todo := by
  have hxo := h.rv.ok x (by simp)
  refine ⟨h.ln, h.nd, h.ok, h.val, RInv.pass h.rv ?_⟩
  rw [nzB_get (by rw [h.ln]; omega)]
  simpa using hx
theorem NInv.mark {x : Int} (hg : okG g) (h : NInv g f num li (todo ++ [x])) (hx : num.getD x.toNat 0 = 0) : NInv g f (num.set x.toNat ((li.length : Int) + 1)) (li ++ [x]) (todo ++ g.getD x.toNat []) := by
  have hxo := h.rv.ok x (by simp)
  have hxn : ((x.toNat : Nat) : Int) = x := by omega
  have hxl : x.toNat < g.length := by omega
  have hni : x ∉ li := by
    intro hm
    have := h.val x.toNat hxl
    rw [hxn, if_pos hm, hx] at this
    omega
  refine ⟨by simpa using h.ln, ?_, ?_, fun k hk => ?_, ?_⟩
  · rw [List.nodup_append]
    refine ⟨h.nd, by simp, fun a ha b hb e => ?_⟩
    rw [List.mem_singleton] at hb; subst hb; subst e; exact hni ha
  · intro y hy
    rcases List.mem_append.1 hy with h1 | h1
    · exact h.ok y h1
    · rw [List.mem_singleton] at h1; subst h1; exact hxo
  · rw [getD_setI (by rw [h.ln]; exact hxl)]
    by_cases e : x.toNat = k
    · subst e
      rw [if_pos rfl, hxn, if_pos (by simp), List.idxOf_append, if_neg hni]
      simp
    · rw [if_neg e, h.val k hk]
      have hne : ¬ (k : Int) = x := by omega
      have hiff : ((k : Int) ∈ li ++ [x]) ↔ (k : Int) ∈ li := by
        rw [List.mem_append, List.mem_singleton]; exact ⟨fun h => h.resolve_right hne, .inl⟩
      by_cases hm : (k : Int) ∈ li
      · rw [if_pos hm, if_pos (hiff.2 hm), List.idxOf_append, if_pos hm]
      · rw [if_neg hm, if_neg (fun h => hm (hiff.1 h))]
  · rw [nzB_set (by omega)]; exact RInv.mark hg h.rv
theorem NInv.done (h : NInv g f num li []) (hg : okG g) (hf : okL g.length f) (x : Nat) : (x : Int) ∈ li ↔ Rch g f x := by
  have hr := h.rv.done
  constructor
  · intro hm
    have hx := h.ok _ hm
    have hxl : x < g.length := by omega
    have h1 : (nzB num).getD x false = true := by
      rw [nzB_get (by rw [h.ln]; exact hxl), h.val x hxl, if_pos hm]
      simp; omega
    exact h.rv.sound x h1
  · intro hm
    have hxl : x < g.length := by
      cases hm with
      | base hx => have := hf _ hx; omega
      | step _ hx => have := okG_row hg _ _ hx; omega
    have h1 : (rchB g f).getD x false = true := by
      rw [List.getD_eq_getElem?_getD, rchB_get hxl]; simp [hm]
    rw [← hr, nzB_get (by rw [h.ln]; exact hxl), h.val x hxl] at h1
    apply Classical.byContradiction
    intro hn
    rw [if_neg hn] at h1
    simp at h1
def smFull (g : Graph) (li : List Int) (i : Nat) : List Int := (g.getD (li.getD i 0).toNat []).map fun to => (li.idxOf to : Int)
theorem sm_ok (h : NInv g f num li []) (hg : okG g) (hf : okL g.length f) : RchdOK g f li ((List.range li.length).map (smFull g li)) := by
  refine ⟨h.done hg hf, fun x hx => (h.ok x hx).1, h.nd, by simp, fun i hi => ?_⟩
  rw [List.getD_eq_getElem?_getD, List.getElem?_map, List.getElem?_range hi]; rfl
end
theorem getDI_at {l : List Int} {j : Nat} (h : j < l.length) : l.getD j 0 = l[j] := by rw [List.getD_eq_getElem?_getD, List.getElem?_eq_getElem h]; rfl
theorem getDG_at {l : List (List Int)} {j : Nat} (h : j < l.length) : l.getD j [] = l[j] := by rw [List.getD_eq_getElem?_getD, List.getElem?_eq_getElem h]; rfl
theorem smFull_next {g : Graph} {li : List Int} {i j : Nat} (h : j < (g.getD (li.getD i 0).toNat []).length) : (smFull g li i).take (j + 1) = (smFull g li i).take j ++ [(li.idxOf (g.getD (li.getD i 0).toNat [])[j] : Int)] := by
  unfold smFull
  rw [← List.take_append_getElem (by simpa using h)]
  simp
theorem row_edges {g : Graph} : ∀ {i : Nat}, (h : i < g.length) → g[i].length ≤ edges g := by
  unfold edges
  induction g with
  | nil => intro i h; cases h
  | cons r g ih =>
    intro i h
    cases i with
    | zero => simp
    | succ i => have := ih (i := i) (by simpa using h); simp at this ⊢; omega
theorem nodup_len : ∀ (n : Nat) (l : List Nat), l.Nodup → (∀ x ∈ l, x < n) → l.length ≤ n
  | 0, l, _, h => by
    cases l with
    | nil => simp
    | cons x r => have := h x (by simp); omega
  | n + 1, l, hd, h => by
    by_cases hn : n ∈ l
    · have h1 := nodup_len n (l.erase n) (hd.erase n) (fun x hx => by
        have h2 := (List.Nodup.mem_erase_iff hd).1 hx
        have := h x h2.2; have := h2.1; omega)
      rw [List.length_erase_of_mem hn] at h1
      omega
    · have := nodup_len n l hd (fun x hx => by
        have h2 := h x hx
        have : x ≠ n := fun e => hn (e ▸ hx)
        omega)
      omega
theorem reached_ok (w0 : World) {ao fo : Option Addr} {cap fcap : Nat} {g : Graph} {f : List Int} (hs : Sl w0 (Old w0) ao cap g) (hf : Sl w0 (Old w0) fo fcap f)
    (hg : okG g) (hof : okL g.length f) (hT : f.length + edges g + g.length ≤ 1099511627776) :
    Rt Try.prog 109 [.slice ao g.length cap, .slice fo f.length fcap].toArray w0 fun r w' => ∃ v u li sm, r = .tuple ⟨[v, u]⟩ ∧ RchdOK g f li sm ∧ Rd w' (Old w') v li ∧ Rd w' (Old w') u sm ∧ Ext w0 w' := by
  have hm := hs.len63
  have hm2 := hf.len63
  refine Rt.enter2 Try.func109 Try.ntmps109 rfl rfl ?_
  (repeat (first | (apply WL.pure; rfl; rfl; rfl) | (apply WL.nil) | (apply EX.thenN) | (apply CW.seq) | (apply CW.region) | (apply WL.lenS; rfl; rfl; rfl)))
  refine WL.make (α := Int) rfl rfl rfl rfl (by omega) (by unfold maxLen; omega) (fun w1 ho1 hg1 => ?_)
  have hE1 : Ext w0 w1 := (Below.refl _ _).grown hg1 (Nat.le_refl _) (fun k h => by cases h)
  have hlt1 : w0.heap.size < w1.heap.size := (ho1.lt _ rfl).2.1
  (repeat (first | (apply WL.pure; rfl; rfl; rfl) | (apply WL.nil) | (apply EX.thenN) | (apply CW.seq) | (apply CW.region)))
  refine WL.call rfl rfl rfl (clone_int w1 (hf.up hE1) (by omega)) ?_
  rintro tv w2 ⟨ho2, hE2⟩
  (repeat (first | (apply WL.pure; rfl; rfl; rfl) | (apply WL.nil) | (apply EX.thenN) | (apply CW.seq) | (apply CW.region) | (apply CW.block)))
  generalize hsv : Value.slice (some ⟨w0.heap.size, 0, none⟩) g.length g.length = sv at *
  have hsb : sv.ownBlock = some w0.heap.size := by rw [← hsv]; rfl
  refine CW.loop (S := Value × Value × List Int × List Int × List Int) (fun s => [(0, .slice ao g.length cap), (6, sv), (7, s.1), (8, s.2.1)])
    (fun s w => NInv g f s.2.2.1 s.2.2.2.1 s.2.2.2.2 ∧ s.2.2.2.2.length + pot g (nzB s.2.2.1) ≤ f.length + edges g + g.length ∧ Own w w0.heap.size 3 Non sv s.2.2.1 ∧ Own w (w0.heap.size + 1) 3 Non s.1 s.2.2.2.2 ∧ Own w (w0.heap.size + 1) 3 Non s.2.1 s.2.2.2.1 ∧ Ext w0 w ∧ w1.heap.size ≤ w.heap.size ∧ (∀ k, s.1.ownBlock = some k → s.2.1.ownBlock = some k → False))
    (fun s => s.2.2.2.2.length + pot g (nzB s.2.2.1)) (tv, .slice none 0 0, List.replicate g.length 0, [], f) (by repeat (first | exact trivial | refine ⟨rfl, ?_⟩))
    ⟨NInv.start hof, ?_, ho1.extN hE2, ho2.low (by omega), Own.nil, hE1.trans hE2, hE2.size, fun k _ h => by cases h⟩ ?_
  · have e : nzB (List.replicate g.length (0 : Int)) = List.replicate g.length false := by simp [nzB]
    show f.length + pot g (nzB (List.replicate g.length 0)) ≤ _
    rw [e, pot_start]; omega
  rintro ⟨tv, lv, num, li, todo⟩ w ⟨hR, hpot, hso, hto, hlo, hB, hw1, hne⟩
  dsimp only at hR hpot hso hto hlo hne
  have hlil : li.length ≤ g.length := by
    have hnd : (li.map Int.toNat).Nodup := by
      rw [List.Nodup, List.pairwise_map]
      refine List.Pairwise.imp_of_mem ?_ hR.nd
      intro a b ha hb hab e
      have := hR.ok a ha; have := hR.ok b hb
      exact hab (by omega)
    have := nodup_len g.length (li.map Int.toNat) hnd (fun x hx => by
      obtain ⟨y, hy, rfl⟩ := List.mem_map.1 hx
      have := hR.ok y hy
      omega)
    simpa using this
  (repeat (first | (apply WL.pure; rfl; rfl; rfl) | (apply WL.nil) | (apply EX.thenN) | (apply CW.seq) | (apply CW.region) | (refine WL.lenO rfl rfl rfl (by assumption) ?_)))
  refine CW.cond rfl (fun h => ?_) (fun h => ?_)
  · simp at h
    have hlen : 0 < todo.length := by omega
    have hlast := take_last hlen
    (repeat (first | (apply WL.sub'; rfl; rfl; rfl; rfl; omega; omega) | (apply WL.pure; rfl; rfl; rfl) | (apply EX.thenN) | (apply CW.seq) | (apply CW.region) | (apply CW.block) | (apply CW.skip) | (refine WL.lenO rfl rfl rfl (by assumption) ?_)))
    refine WL.elemO rfl rfl rfl rfl rfl hto (by omega) (by omega) (fun _ => rfl) (fun u q hu => ?_)
    obtain rfl := hu.int
    have ei : ((todo.length : Int) - 1).toNat = todo.length - 1 := by omega
    simp only [ei]
    generalize hx : todo[todo.length - 1] = x at *
    generalize hrest : todo.take (todo.length - 1) = rest at *
    rw [hlast] at hR
    have hlr : todo.length = rest.length + 1 := by rw [hlast]; simp
    have hxo := hR.rv.ok x (by simp)
    (repeat (first | (apply WL.sub'; rfl; rfl; rfl; rfl; omega; omega) | (apply WL.pure; rfl; rfl; rfl) | (apply WL.nil) | (apply EX.thenN) | (apply CW.seq) | (apply CW.region) | (refine WL.lenO rfl rfl rfl (by assumption) ?_)))
    refine WL.cutHiO (α := Int) (todo.length - 1) (by omega) rfl rfl rfl rfl hto (by omega) (fun tv' hto' hb' => ?_)
    rw [hrest] at hto'
    have hne' : ∀ k, tv'.ownBlock = some k → lv.ownBlock = some k → False := fun k hk => hne k (by rw [← hb']; exact hk)
    (repeat (first | (apply WL.pure; rfl; rfl; rfl) | (apply WL.nil) | (apply EX.thenN) | (apply CW.seq) | (apply CW.region)))
    refine WL.elemO rfl rfl rfl rfl rfl hso (by omega) (by rw [hR.ln]; omega) (fun _ => rfl) (fun u q2 hu => ?_)
    obtain rfl := hu.int
    have hxl : x.toNat < num.length := by rw [hR.ln]; omega
    have hxd := getDI_at hxl
    (repeat (first | (apply WL.pure; rfl; rfl; rfl) | (apply WL.nil) | (apply EX.thenN)))
    refine CW.cond rfl (fun h2 => ?_) (fun h2 => ?_)
    · have hs0 : num.getD x.toNat 0 = 0 := by rw [hxd]; simpa using h2
      have hsz0 : (nzB num).getD x.toNat true = false := by
        have e1 := nzB_get hxl
        rw [hs0] at e1
        rw [List.getD_eq_getElem?_getD] at e1 ⊢
        cases e2 : (nzB num)[x.toNat]? with
        | none => exfalso; rw [List.getElem?_eq_none_iff] at e2; simp [nzB] at e2; omega
        | some b => rw [e2] at e1; simpa using e1
      have hpm := pot_set g (nzB num) x.toNat (by omega) hR.rv.len hsz0
      have hmk := NInv.mark hg hR hs0
      (repeat (first | (apply WL.pure; rfl; rfl; rfl) | (apply CW.seq) | (apply CW.region)))
      refine WL.app1 (F := Non) (yv := x) rfl rfl (fun _ => rfl) rfl rfl (fun _ => rfl) hlo (Rd.mkInt _ _ _) (by omega) (fun _ h => h.elim) (by decide) (by unfold maxLen; omega) (by omega) (fun lv' w3 p ho3 hg3 hnb => ?_)
      have hB3 : Ext w0 w3 := hB.grown hg3 hB.size (fun k hk => by have := (hlo.lt k hk).1; omega)
      have hso3 : Own w3 w0.heap.size 3 Non sv num := hso.keptN hg3 (fun k hk e => by rw [hsb] at hk; cases hk; have := (hlo.lt _ e.symm).1; omega)
      have hto3 : Own w3 (w0.heap.size + 1) 3 Non tv' rest := hto'.keptN hg3 (fun k hk e => hne' k hk e.symm)
      have hne3 : ∀ k, tv'.ownBlock = some k → lv'.ownBlock = some k → False := fun k h1 h2 => by
        rcases hnb k h2 with h3 | h3
        · exact hne' k h1 h3
        · have := (hto'.lt k h1).2.1; omega
      have hw3 := hg3.size
      (repeat (first | (apply WL.pure; rfl; rfl; rfl) | (apply WL.nil) | (apply EX.thenN) | (apply CW.seq) | (apply CW.region) | (refine WL.lenO rfl rfl rfl (by assumption) ?_)))
      refine WL.set rfl rfl rfl rfl hso3 (by omega) (by rw [hR.ln]; omega) (fun _ => rfl) (fun _ => rfl) (Rd.mkInt _ _ _) (fun w4 q3 hso4 hg4 => ?_)
      have hB4 : Ext w0 w4 := hB3.grown hg4 hB3.size (fun k hk => by rw [hsb] at hk; cases hk; exact Nat.le_refl _)
      have hto4 : Own w4 (w0.heap.size + 1) 3 Non tv' rest := hto3.keptN hg4 (fun k hk e => by rw [hsb] at e; cases e; have := (hto3.lt _ hk).1; omega)
      have hlo4 : Own w4 (w0.heap.size + 1) 3 Non lv' (li ++ [x]) := ho3.keptN hg4 (fun k hk e => by rw [hsb] at e; cases e; have := (ho3.lt _ hk).1; omega)
      have hw4 := hg4.size
      (repeat (first | (apply WL.pure; rfl; rfl; rfl) | (apply WL.nil) | (apply EX.thenN) | (apply CW.region)))
      have hxg : x.toNat < g.length := by omega
      refine WL.elem rfl rfl rfl rfl rfl (hs.at hB4) (by omega) (by omega) (fun _ => rfl) (fun u q4 hu => ?_)
      obtain ⟨ro, rcap, rfl, hrow⟩ := hu.sl
      have erow : g.getD x.toNat [] = g[x.toNat] := getDG_at hxg
      rw [erow] at hpm hmk
      skip
      refine WL.app (F := Non) rfl rfl rfl rfl hto4 hrow.srcN (by omega) (fun _ h => h.elim) (by unfold maxLen; omega) (by omega) (fun tv5 w5 ho5 hg5 hn5 => ?_)
      (repeat (first | (apply WL.pure; rfl; rfl; rfl) | (apply WL.nil) | (apply EX.inN)))
      have elen : (((li ++ [x]).length : Nat) : Int) = (li.length : Int) + 1 := by simp
      rw [elen] at hso4
      refine EX.back (tv5, lv', num.set x.toNat ((li.length : Int) + 1), li ++ [x], rest ++ g[x.toNat]) (by repeat (first | exact trivial | refine ⟨rfl, ?_⟩)) ⟨hmk, ?_, ?_, ho5, ?_, ?_, ?_, ?_⟩ ?_
      · dsimp only
        rw [nzB_set (by omega), List.length_append]; omega
      · exact hso4.keptN hg5 (fun k hk e => by rw [hsb] at hk; cases hk; have := (hto4.lt _ e.symm).1; omega)
      · exact hlo4.keptN hg5 (fun k hk e => hne3 k e.symm hk)
      · exact hB4.grown hg5 hB4.size (fun k hk => by have := (hto4.lt k hk).1; omega)
      · have := hg5.size; omega
      · intro k h1 h2
        rcases hn5 k h1 with h3 | h3
        · exact hne3 k h3 h2
        · have := (hlo4.lt k h2).2.1; omega
      · dsimp only
        rw [nzB_set (by omega), List.length_append]; omega
    · have hs0 : num.getD x.toNat 0 ≠ 0 := by rw [hxd]; simpa using h2
      (repeat (first | (apply EX.inN) | (apply CW.skip)))
      exact EX.back (tv', lv, num, li, rest) (by repeat (first | exact trivial | refine ⟨rfl, ?_⟩)) ⟨NInv.pass hR hs0, by dsimp only; omega, hso, hto', hlo, hB, hw1, hne'⟩ (by dsimp only; omega)
  · have htn : todo = [] := by simpa using h
    subst htn
    have hsm := sm_ok hR hg hof
    obtain ⟨lo, lc, rfl, hlis⟩ := hlo.oldN.sl
    (repeat (first | (apply WL.pure; rfl; rfl; rfl) | (apply EX.thenN) | (apply CW.seq) | (apply CW.region) | (apply WL.lenS; rfl; rfl; rfl) | (apply CW.exit) | (apply EX.thenX) | (apply EX.inX)))
    refine WL.make (α := Raw) rfl rfl rfl rfl (by omega) (by unfold maxLen; omega) (fun w3 ho3 hg3 => ?_)
    have hE3 : Ext w w3 := (Below.refl _ _).grown hg3 (Nat.le_refl _) (fun k h => by cases h)
    have hN3 : OwnN w3 w.heap.size 22 3 (.slice (some ⟨w.heap.size, 0, none⟩) li.length li.length) _ (List.replicate li.length ([] : List Int)) := OwnN.made ho3
    rw [← gridP_start (full := smFull g li)] at hN3
    have hnum : Sl w (Old w) (some ⟨w0.heap.size, 0, none⟩) g.length num := by
      obtain ⟨a, c, e, h⟩ := hso.oldN.sl
      rw [← hsv] at e
      obtain ⟨rfl, e2, rfl⟩ := Value.slice.inj e
      exact h
    have hlnum := hR.ln
    rw [← hsv]
    rw [← hlnum] at hnum
    clear ho3 hg3 hso hto hlo
    (repeat (first | (apply WL.pure; rfl; rfl; rfl) | (apply WL.nil) | (apply EX.thenN) | (apply CW.seq) | (apply CW.region) | (apply WL.lenS; rfl; rfl; rfl) | (apply CW.block)))
    refine CW.loop (S := Nat × List Raw) (fun s => [(0, .slice ao g.length cap), (6, .slice (some ⟨w0.heap.size, 0, none⟩) g.length g.length), (8, .slice lo li.length lc), (10, .slice (some ⟨w.heap.size, 0, none⟩) li.length li.length), (57, .slice lo li.length lc), (58, .int .i64 li.length), (59, .int .i64 s.1)])
      (fun s x => s.1 ≤ li.length ∧ OwnN x w.heap.size 22 3 (.slice (some ⟨w.heap.size, 0, none⟩) li.length li.length) s.2 (gridP li.length (smFull g li) s.1 []) ∧ Ext w x) (fun s => li.length - s.1) (0, _) (by repeat (first | exact trivial | refine ⟨rfl, ?_⟩)) ⟨Nat.zero_le _, hN3, hE3⟩ ?_
    rintro ⟨i, vs⟩ w4 ⟨hi, hN, e4⟩
    dsimp only at hi hN
    (repeat (first | (apply WL.pure; rfl; rfl; rfl) | (apply WL.nil) | (apply EX.thenN) | (apply CW.seq) | (apply CW.region)))
    refine CW.cond rfl (fun h => ?_) (fun h => ?_)
    · have hi' : i < li.length := by simp at h; omega
      have hlx := hR.ok _ (List.getElem_mem hi')
      obtain ⟨x, ex⟩ := Int.eq_ofNat_of_zero_le hlx.1
      have hxg : x < g.length := by omega
      have exn : (li.getD i 0).toNat = x := by rw [getDI_at hi', ex]; omega
      have erow : g.getD (li.getD i 0).toNat [] = g[x] := by rw [exn]; exact getDG_at hxg
      (repeat (first | (apply WL.pure; rfl; rfl; rfl) | (apply EX.thenN) | (apply CW.seq) | (apply CW.region) | (apply CW.block) | (apply CW.skip)))
      refine WL.elemI rfl rfl rfl rfl rfl (hlis.up e4) hi' ex (fun _ => rfl) (fun q => ?_)
      (repeat (first | (apply WL.pure; rfl; rfl; rfl) | (apply WL.nil) | (apply EX.thenN) | (apply CW.seq) | (apply CW.region)))
      refine WL.elemN rfl rfl rfl rfl rfl (hs.at (hB.trans e4)) hxg (fun _ => rfl) (fun u q hu => ?_)
      obtain ⟨ro, rc, rfl, hrow⟩ := hu.sl
      have hre := row_edges hxg
      have hrl := hrow.len63
      (repeat (first | (apply WL.pure; rfl; rfl; rfl) | (apply WL.nil) | (apply EX.thenN) | (apply WL.lenS; rfl; rfl; rfl) | (apply CW.block)))
      refine CW.loop (S := Nat × List Raw) (fun s => [(0, .slice ao g.length cap), (6, .slice (some ⟨w0.heap.size, 0, none⟩) g.length g.length), (8, .slice lo li.length lc), (10, .slice (some ⟨w.heap.size, 0, none⟩) li.length li.length), (11, .int .i64 i), (57, .slice lo li.length lc), (58, .int .i64 li.length), (59, .int .i64 i), (67, .slice ro g[x].length rc), (68, .int .i64 g[x].length), (69, .int .i64 s.1)])
        (fun s z => s.1 ≤ g[x].length ∧ OwnN z w.heap.size 22 3 (.slice (some ⟨w.heap.size, 0, none⟩) li.length li.length) s.2 (gridP li.length (smFull g li) i ((smFull g li i).take s.1)) ∧ Ext w z) (fun s => g[x].length - s.1) (0, vs) (by repeat (first | exact trivial | refine ⟨rfl, ?_⟩)) ⟨Nat.zero_le _, by rw [List.take_zero]; exact hN, e4⟩ ?_
      rintro ⟨j, vs⟩ w5 ⟨hj, hN, e5⟩
      dsimp only at hj hN
      have hrow5 : Sl w5 (Old w0) ro rc g[x] := hrow.mono (fun b hb => ((hB.trans e5).block b hb).trans ((hB.trans e4).block b hb).symm) (fun _ h => h)
      (repeat (first | (apply WL.pure; rfl; rfl; rfl) | (apply WL.nil) | (apply EX.thenN) | (apply CW.seq) | (apply CW.region)))
      refine CW.cond rfl (fun h => ?_) (fun h => ?_)
      · have hj' : j < g[x].length := by simp at h; omega
        have hto := hg _ (List.getElem_mem hxg) _ (List.getElem_mem hj')
        obtain ⟨to, eto⟩ := Int.eq_ofNat_of_zero_le hto.1
        have htol : to < g.length := by omega
        have htn : to < num.length := by omega
        (repeat (first | (apply EX.thenN) | (apply CW.seq) | (apply CW.region) | (apply CW.block) | (apply CW.skip)))
        refine WL.elemI rfl rfl rfl rfl rfl hrow5 hj' eto (fun _ => rfl) (fun q => ?_)
        (repeat (apply WL.pure; rfl; rfl; rfl))
        apply WL.nil
        apply EX.thenN
        have hlen := hN.len
        rw [gridP_len] at hlen
        have hiv : i < vs.length := by omega
        have hd := Ext.drew w5
        have hNd := hN.ext hd
        have hin := hNd.inn i hiv (by rw [gridP_len]; exact hi')
        rw [gridP_get hi'] at hin
        obtain ⟨oo, oc, hov, hout⟩ := hNd.out.slF (F' := fun b => b = w.heap.size) (fun _ h => h.elim) (fun g hg => by cases hg; rfl)
        obtain ⟨rfl, _, rfl⟩ := Value.slice.inj hov
        have hnumd : Sl (drew w5) (Old w) (some ⟨w0.heap.size, 0, none⟩) num.length num := hnum.at (e5.trans hd)
        have hnext := smFull_next (g := g) (li := li) (i := i) (j := j) (by rw [erow]; exact hj')
        have hgj : (g.getD (li.getD i 0).toNat [])[j]'(by rw [erow]; exact hj') = (to : Int) := by simp only [erow]; exact eto
        rw [hgj] at hnext
        have hmem : (to : Int) ∈ li := by
          refine (hR.done hg hof to).2 ?_
          have h1 := (hR.done hg hof x).1 (by rw [← ex]; exact List.getElem_mem hi')
          have h2 := Rch.step (x := (to : Int)) h1 (by rw [getDG_at hxg, ← eto]; exact List.getElem_mem hj')
          simpa using h2
        have hnv : num[to] = (li.idxOf (to : Int) : Int) + 1 := by rw [← getDI_at htn, hR.val to htol, if_pos hmem]
        have hsl : (smFull g li i).length = g[x].length := by unfold smFull; rw [List.length_map, erow]
        have hsz : w.heap.size < w5.heap.size := (hN.out.lt _ rfl).2.1
        have hszd := hd.size
        refine CW.drawE (fun z : World => ∀ b, b ≤ w.heap.size → z.heap[b]? = (drew w5).heap[b]?) [(0, true), (1, true), (2, true), (3, true), (4, true), (5, true), (6, true), (7, true), (8, true), (9, true), (10, true), (11, false), (12, false), (13, true)] 14 mixed (by kernel_rfl) (fun _ _ => rfl) ?_
        (repeat (apply HL.pure; rfl; rfl; rfl; rfl))
        rw [← hlen] at hout ⊢
        refine HL.elemK (w := drew w5) (F := fun b => b = w.heap.size) (fun z hz b hb => hz b (by rw [hb]; exact Nat.le_refl _)) rfl rfl rfl rfl rfl rfl rfl hout hiv (fun _ => rfl) (fun u q hu => ?_)
        obtain ⟨rfl, _⟩ := hu.raw
        rw [hlen]
        (repeat (apply HL.pure; rfl; rfl; rfl; rfl))
        rw [← hlnum]
        refine HL.elemK (w := drew w5) (F := Old w) (fun z hz b hb => hz b (Nat.le_of_lt hb)) rfl rfl rfl rfl rfl rfl rfl hnumd htn (fun _ => rfl) (fun u q hu => ?_)
        obtain rfl := hu.int
        rw [hlnum, hnv]
        have hix := List.idxOf_lt_length_iff.2 hmem
        (repeat (apply HL.sub'; rfl; rfl; rfl; rfl; rfl; omega; omega))
        rw [show (li.idxOf (to : Int) : Int) + 1 - 1 = (li.idxOf (to : Int) : Int) by omega]
        refine HL.app1 (bytes := 8) rfl rfl rfl rfl (fun _ => rfl) rfl rfl (fun _ => rfl) hin (Rd.mkInt _ _ _) (by omega) (fun _ h => h.elim) (by decide) (by rw [List.length_take]; unfold maxLen; omega) (by rw [List.length_take]; omega)
          (fun z hz b hb => hz.block b (by omega) (fun e => ?_)) (fun v' w6 p ho6 hg6 hnb => ?_)
        · rcases Nat.lt_or_ge b w.heap.size with h1 | h1
          · have := (hin.lt b e.symm).1; omega
          · obtain rfl : b = w.heap.size := by omega
            exact hNd.dio i hiv _ e.symm rfl
        rw [← hnext] at ho6
        have hmid := hNd.mid hiv hg6
        skip
        refine HL.setTail (yv := (⟨v'⟩ : Raw)) rfl rfl rfl rfl rfl rfl hmid hiv (fun _ => rfl) (fun _ => rfl) (Rd.mkRaw _ _ _ ?_) (fun w7 q ho7 hg7 => ?_)
        · obtain ⟨a, b, rfl⟩ := ho6.val; rfl
        have hN7 := hNd.set hiv ho6 hg6 hnb ho7 hg7
        rw [gridP_set hi'] at hN7
        have e5d := e5.trans hd
        have e7 : Ext w w7 := (e5d.grown hg6 e5d.size (fun b hb => (hin.lt b hb).1)).grown hg7 (Nat.le_trans e5d.size hg6.size) (fun b hb => (hNd.out.lt b hb).1)
        (repeat (first | (apply WL.add; rfl; rfl; rfl; rfl; omega; omega) | (apply WL.pure; rfl; rfl; rfl) | (apply WL.nil) | (apply EX.thenN) | (apply CW.region) | (apply EX.inN)))
        exact EX.back (j + 1, vs.set i ⟨v'⟩) (by repeat (first | exact trivial | refine ⟨rfl, ?_⟩)) ⟨hj', hN7, e7⟩ (by dsimp only; omega)
      · obtain rfl : j = g[x].length := by simp at h; omega
        (repeat (first | (apply WL.add; rfl; rfl; rfl; rfl; omega; omega) | (apply WL.pure; rfl; rfl; rfl) | (apply WL.nil) | (apply EX.thenN) | (apply CW.region) | (apply EX.inN) | (apply CW.exit) | (apply EX.thenX) | (apply EX.inX)))
        refine EX.back (i + 1, vs) (by repeat (first | exact trivial | refine ⟨rfl, ?_⟩)) ⟨hi', ?_, e5⟩ (by dsimp only; omega)
        have hsl : (smFull g li i).length = g[x].length := by unfold smFull; rw [List.length_map, erow]
        rw [← hsl, List.take_length, gridP_next] at hN
        exact hN
    · obtain rfl : i = li.length := by simp at h; omega
      rw [gridP_done] at hN
      (repeat (first | (apply WL.pure; rfl; rfl; rfl) | (apply WL.nil) | (apply EX.thenN) | (apply CW.seq) | (apply CW.region) | (apply CW.exit) | (apply EX.thenX) | (apply EX.inX) | (apply CW.ret)))
      exact EX.ret2 rfl rfl rfl ⟨_, _, li, _, rfl, hsm, (hlis.up e4).rd, hN.old, hB.trans e4⟩
end Go.Proofs.Ytllpfgcngokhnaa
/-
  slices.Index and slices.Contains at []bool.
-/
set_option linter.unusedVariables false
namespace Go.Proofs.Ytllpfgcngokhnaa
open Go.RowKit
theorem index_bool (w0 : World) {ao : Option Addr} {cap : Nat} {xs : List Bool} (x : Bool) (hs : Sl w0 (Old w0) ao cap xs) :
    Rt Try.prog 98 [.slice ao xs.length cap, .bool x].toArray w0 fun v w' => v = .int .i64 (idxOf (fun y => x == y) xs) ∧ Ext w0 w' := by
  have hm := hs.len63
  refine Rt.enter2 Try.func98 Try.ntmps98 rfl rfl ?_
  (repeat (first | (apply WL.pure; rfl; rfl; rfl) | (apply WL.nil) | (apply EX.thenN) | (apply CW.seq) | (apply CW.region) | (apply WL.lenS; rfl; rfl; rfl) | (apply CW.block)))
  refine CW.loop (S := Nat) (fun k => [(0, .slice ao xs.length cap), (1, .bool x), (7, .int .i64 xs.length), (8, .int .i64 k)])
    (fun k w => k ≤ xs.length ∧ Ext w0 w ∧ ∀ j (h : j < xs.length), j < k → (x == xs[j]) = false) (fun k => xs.length - k) 0 (by repeat (first | exact trivial | refine ⟨rfl, ?_⟩)) ⟨by omega, Ext.refl _, by omega⟩ ?_
  rintro k w ⟨hk, hB, hn⟩
  (repeat (first | (apply WL.pure; rfl; rfl; rfl) | (apply WL.nil) | (apply EX.thenN) | (apply CW.seq) | (apply CW.region)))
  refine CW.cond rfl (fun h => ?_) (fun h => ?_)
  · simp at h
    (repeat (first | (apply WL.pure; rfl; rfl; rfl) | (apply WL.nil) | (apply EX.thenN) | (apply CW.seq) | (apply CW.region) | (apply CW.block) | (apply CW.skip)))
    refine WL.elemB rfl rfl rfl rfl rfl (hs.at hB) h rfl (fun _ => rfl) (fun q => ?_)
    (repeat (first | (apply WL.nil) | (apply EX.thenN) | (apply WL.eqB; rfl; rfl; rfl; rfl)))
    refine CW.cond rfl (fun h' => ?_) (fun h' => ?_)
    · (repeat (first | (apply WL.pure; rfl; rfl; rfl) | (apply WL.nil) | (apply EX.thenN) | (apply CW.seq) | (apply CW.region) | (apply CW.ret) | (apply EX.thenR) | (apply EX.inR)))
      refine EX.ret1 rfl rfl ⟨?_, hB⟩
      rw [idxOf_here h hn h']
    · (repeat (first | (apply WL.add; rfl; rfl; rfl; rfl; omega; omega) | (apply WL.pure; rfl; rfl; rfl) | (apply WL.nil) | (apply EX.thenN) | (apply CW.region) | (apply EX.inN) | (apply CW.skip)))
      refine EX.back (k + 1) (by repeat (first | exact trivial | refine ⟨rfl, ?_⟩)) ⟨h, hB, ?_⟩ (by omega)
      intro j hj hlt
      by_cases e : j = k
      · subst e; exact h'
      · exact hn j hj (by omega)
  · simp at h
    (repeat (first | (apply WL.pure; rfl; rfl; rfl) | (apply WL.nil) | (apply EX.thenN) | (apply CW.seq) | (apply CW.region) | (apply CW.exit) | (apply EX.thenX) | (apply EX.inX) | (apply CW.ret)))
    refine EX.ret1 rfl rfl ⟨?_, hB⟩
    rw [idxOf_none (fun j hj => hn j hj (by omega))]
theorem contains_bool (w0 : World) {ao : Option Addr} {cap : Nat} {xs : List Bool} (x : Bool) (hs : Sl w0 (Old w0) ao cap xs) :
    Rt Try.prog 112 [.slice ao xs.length cap, .bool x].toArray w0 fun v w' => v = .bool (xs.contains x) ∧ Ext w0 w' := by
  refine Rt.enter2 Try.func112 Try.ntmps112 rfl rfl ?_
  (repeat (first | (apply WL.pure; rfl; rfl; rfl) | (apply WL.nil) | (apply EX.thenN) | (apply CW.seq) | (apply CW.region)))
  refine WL.call rfl rfl rfl (index_bool w0 x hs) ?_
  rintro v w' ⟨rfl, hB⟩
  (repeat (first | (apply WL.pure; rfl; rfl; rfl) | (apply WL.nil) | (apply EX.thenN) | (apply CW.ret)))
  refine EX.ret1 rfl rfl ⟨?_, hB⟩
  rw [← List.any_beq, ← idxOf_any]
end Go.Proofs.Ytllpfgcngokhnaa
/-
  lasso.turns, least, Same: walked.
-/
set_option linter.unusedVariables false
set_option linter.unusedSimpArgs false
namespace Go.Proofs.Ytllpfgcngokhnaa
open Go.RowKit

/-- x[i], read, of what stands since the base world; the index a whole number -/
theorem HL.elemZ {P : Program} {Q : Exit → Act → World → Prop} {n : Nat} {σ : Sg} {w wc : World} {L : List Oper} {S : World → Prop} {ord : List (Nat × Bool)} {i j d d' : Nat} {ty : TypeId} {pos : String} {af : Array Edge} {g : Option (Nat × Bool)} {ty' : TypeId} {pos' : String} {af' : Array Edge} {g' : Option (Nat × Bool)} {t e : TypeId} {x ix : Operand} {α : Type} [Rep α] {F : Nat → Prop}
    {ao : Option Addr} {cap : Nat} {xs : List α} {k : Int} {kd : IntKind} (hSE : ∀ w1, S w1 → Ext w w1)
    (ho1 : nthO L i = some ⟨some d, .indexAddr t x ix, ty, pos, af, g⟩) (ho2 : nthO L j = some ⟨some d', .load e (.tmp d), ty', pos', af', g'⟩)
    (hg : gd L σ ⟨some d, .indexAddr t x ix, ty, pos, af, g⟩ = some true) (hd : Nat.ble (d + 1) n = true) (hd' : Nat.ble (d' + 1) n = true)
    (hx : ev σ x = some (.slice ao xs.length cap)) (hi : ev σ ix = some (.int kd k)) [hs : IsS P t e] [ht : IsT P e α] (hF : ∀ b, F b → b < w.heap.size) (hsl : Sl w F ao cap xs) (h0 : 0 ≤ k) (h1 : k < xs.length)
    (hg' : ∀ p, gd L ((d, .pointer p) :: σ) ⟨some d', .load e (.tmp d), ty', pos', af', g'⟩ = some true)
    (h : ∀ u p, Rd w F u (xs[k.toNat]'(by omega)) → HL P L S Q ord n ((d', u) :: (d, .pointer p) :: σ) wc) :
    HL P L S Q ((i, true) :: (j, true) :: ord) n σ wc := by
  obtain ⟨b, off, rfl, hFb, es, hc, hr⟩ := hsl.el k.toNat (by omega)
  refine HL.idx (α := α) ho1 hg hd hx hi h0 h1 ?_
  refine HL.load (α := α) hSE ho2 (hg' _) hd' fnd_cons_eq (hF b hFb) hF hc hr ?_
  exact h _ _ ⟨es, rfl, hr⟩
theorem uclone_ok (w0 : World) {F : Nat → Prop} {ao : Option Addr} {cap : Nat} {xs : List Nat} (hs : Sl w0 F ao cap xs) (hF : ∀ b, F b → b < w0.heap.size) (hb : xs.length * 8 ≤ 140737488355328) :
    Rt Try.prog 107 [.slice ao xs.length cap].toArray w0 fun v w' => Own w' w0.heap.size 53 Non v xs ∧ Ext w0 w' := by
  have hm := hs.len63
  refine Rt.enter1 Try.func107 Try.ntmps107 rfl rfl ?_
  (repeat (first | (apply WL.pure; rfl; rfl; rfl) | (apply WL.nil) | (apply EX.thenN) | (apply CW.seq) | (apply CW.region) | (apply WL.isNil; rfl; rfl; rfl)))
  refine CW.cond rfl (fun h => ?_) (fun h => ?_)
  · (repeat (first | (apply WL.pure; rfl; rfl; rfl) | (apply WL.nil) | (apply EX.thenN) | (apply CW.seq) | (apply CW.region) | (apply CW.ret) | (apply EX.thenR)))
    refine EX.ret1 rfl rfl ⟨?_, Ext.refl _⟩
    have h0 : ao = none := by simpa using h
    have : xs = [] := List.eq_nil_of_length_eq_zero (by have := hs.nil h0; have := hs.le; omega)
    subst this
    exact Own.nil
  · (repeat (first | (apply EX.thenN) | (apply CW.seq) | (apply CW.region) | (apply CW.skip)))
    refine WL.lit0 (α := Nat) rfl rfl (fun w1 ho hg => ?_)
    (repeat (apply WL.pure; rfl; rfl; rfl))
    have hE : Ext w0 w1 := (Below.refl _ _).grown hg (Nat.le_refl _) (fun k h => by cases h)
    refine WL.app (F := Non) rfl rfl rfl rfl ho (hs.up0 hE hF).srcN hE.size (fun _ h => h.elim) (by simp [maxLen]; omega) (by simpa using hb) (fun v w2 ho2 hg2 _ => ?_)
    (repeat (first | (apply WL.pure; rfl; rfl; rfl) | (apply WL.nil) | (apply EX.thenN) | (apply CW.ret)))
    refine EX.ret1 rfl rfl ⟨by simpa using ho2, hE.grown hg2 hE.size ?_⟩
    intro k hk
    exact (ho.lt k hk).1
theorem turnsB_next {l : List Nat} {n : Nat} (h : ∀ j, n ≤ j → j < l.length → l.getD j 0 = l.getD (j - n) 0) : turnsB l n = true := by
  unfold turnsB
  rw [List.all_eq_true]
  intro j hj
  rw [List.mem_range] at hj
  simp only [Bool.or_eq_true, decide_eq_true_eq, beq_iff_eq]
  by_cases hn : j < n
  · exact .inl hn
  · exact .inr (h j (by omega) hj)
theorem getN_at {l : List Nat} {j : Nat} (h : j < l.length) : l.getD j 0 = l[j] := by rw [List.getD_eq_getElem?_getD, List.getElem?_eq_getElem h]; rfl
theorem turns_ok (w0 : World) {ao : Option Addr} {cap : Nat} {l : List Nat} (hs : Sl w0 (Old w0) ao cap l) {n : Nat} (hn : n ≤ l.length) (hm : l.length ≤ 1099511627776) :
    Rt Try.prog 144 [.slice ao l.length cap, .int .i64 n].toArray w0 fun v w' => v = .bool (turnsB l n) ∧ Ext w0 w' := by
  refine Rt.enter2 Try.func144 Try.ntmps144 rfl rfl ?_
  (repeat (first | (apply WL.pure; rfl; rfl; rfl) | (apply WL.nil) | (apply EX.thenN) | (apply CW.seq) | (apply CW.region) | (apply CW.block)))
  refine CW.loop (S := Nat) (fun i => [(0, .slice ao l.length cap), (1, .int .i64 n), (5, .int .i64 i)])
    (fun i w => n ≤ i ∧ i ≤ l.length ∧ Ext w0 w ∧ ∀ j, n ≤ j → j < i → l.getD j 0 = l.getD (j - n) 0) (fun i => l.length - i) n (by repeat (first | exact trivial | refine ⟨rfl, ?_⟩)) ⟨Nat.le_refl _, hn, Ext.refl _, fun j h1 h2 => by omega⟩ ?_
  rintro i w ⟨hni, hi, hE, hpre⟩
  (repeat (first | (apply WL.pure; rfl; rfl; rfl) | (apply WL.nil) | (apply EX.thenN) | (apply CW.seq) | (apply CW.region) | (apply WL.lenS; rfl; rfl; rfl)))
  refine CW.cond rfl (fun h1 => ?_) (fun h1 => ?_)
  · simp at h1
    have hsw := hs.up hE
    have hil : i - n < l.length := by omega
    have esub : (i : Int) - (n : Int) = ((i - n : Nat) : Int) := by omega
    (repeat (first | (apply QL.pure; rfl; rfl; rfl) | (apply EX.thenN) | (apply CW.seq) | (apply CW.block) | (apply CW.skip) | (apply CW.draw; exact mixed; kernel_rfl)))
    refine QL.elemN rfl rfl rfl rfl rfl (fun _ h => h) hsw h1 (fun _ => rfl) (fun u q hu => ?_)
    obtain ⟨rfl, hb1⟩ := hu.u64
    (repeat (first | (apply QL.sub'; rfl; rfl; rfl; rfl; omega; omega) | (apply QL.pure; rfl; rfl; rfl)))
    refine QL.elem rfl rfl rfl rfl rfl (fun _ h => h) hsw (by omega) (by omega) (fun _ => rfl) (fun u q2 hu2 => ?_)
    have ei : ((i : Int) - (n : Int)).toNat = i - n := by omega
    simp only [ei] at hu2
    obtain ⟨rfl, hb2⟩ := hu2.u64
    (repeat (apply QL.pure; rfl; rfl; rfl))
    refine QL.nil (fun w2 hE2 => ?_)
    (repeat (apply EX.thenN))
    refine CW.cond rfl (fun h2 => ?_) (fun h2 => ?_)
    · have h2 : ¬ l[i] = l[i - n] := by
        have : ¬ ((l[i] : Nat) : Int) = ((l[i - n] : Nat) : Int) := by simpa using h2
        omega
      (repeat (first | (apply WL.pure; rfl; rfl; rfl) | (apply WL.nil) | (apply EX.thenN) | (apply CW.seq) | (apply CW.region) | (apply CW.ret) | (apply EX.thenR) | (apply EX.inR)))
      refine EX.ret1 rfl rfl ⟨?_, hE.trans hE2⟩
      have : turnsB l n = false := by
        cases e : turnsB l n
        · rfl
        · exfalso
          unfold turnsB at e
          rw [List.all_eq_true] at e
          have := e i (List.mem_range.2 h1)
          simp only [Bool.or_eq_true, decide_eq_true_eq, beq_iff_eq] at this
          rw [getN_at h1, getN_at hil] at this
          omega
      rw [this]
    · have h2 : l[i] = l[i - n] := by
        have : ((l[i] : Nat) : Int) = ((l[i - n] : Nat) : Int) := by simpa using h2
        omega
      (repeat (first | (apply WL.add; rfl; rfl; rfl; rfl; omega; omega) | (apply WL.pure; rfl; rfl; rfl) | (apply WL.nil) | (apply EX.thenN) | (apply CW.region) | (apply EX.inN) | (apply CW.skip)))
      refine EX.back (i + 1) (by repeat (first | exact trivial | refine ⟨rfl, ?_⟩)) ⟨by omega, h1, hE.trans hE2, fun j h3 h4 => ?_⟩ (by omega)
      by_cases e : j = i
      · subst e; rw [getN_at h1, getN_at hil]; exact h2
      · exact hpre j h3 (by omega)
  · simp at h1
    have : i = l.length := by omega
    subst this
    (repeat (first | (apply WL.pure; rfl; rfl; rfl) | (apply WL.nil) | (apply EX.thenN) | (apply CW.seq) | (apply CW.region) | (apply CW.exit) | (apply EX.thenX) | (apply EX.inX) | (apply CW.ret)))
    refine EX.ret1 rfl rfl ⟨?_, hE⟩
    rw [turnsB_next hpre]
theorem perGo_found {l : List Nat} {n : Nat} (hfit : l.length % n = 0 ∧ turnsB l n = true) : ∀ (f k : Nat), k ≤ n → n < k + f → (∀ d, k ≤ d → d < n → ¬ (l.length % d = 0 ∧ turnsB l d = true)) → perGo l f k = l.take n
  | 0, k, h1, h2, _ => by omega
  | f + 1, k, h1, h2, hno => by
    by_cases e : k = n
    · subst e; rw [perGo, if_pos hfit]
    · rw [perGo, if_neg (hno k (Nat.le_refl _) (by omega))]
      exact perGo_found hfit f (k + 1) (by omega) (by omega) (fun d h3 h4 => hno d (by omega) h4)

theorem least_ok (w0 : World) {F : Nat → Prop} {so lo : Option Addr} {sc lc : Nat} {s l : List Nat} (hs : Sl w0 F so sc s) (hl : Sl w0 F lo lc l) (hF : ∀ b, F b → b < w0.heap.size) (h0 : 0 < l.length) (h60 : s.length + l.length ≤ 1000) :
    Rt Try.prog 105 [wordV so sc lo lc s l].toArray w0 fun v w' => Rd w' (fun b => w0.heap.size ≤ b ∧ b < w'.heap.size) v (leastL s l : LWord) ∧ Ext w0 w' := by
  refine Rt.enter1 Try.func105 Try.ntmps105 rfl rfl ?_
  (repeat (first | (apply CW.seq) | (apply CW.region)))
  refine WL.boxB rfl rfl rfl fun w1 hw hE1 => ?_
  have hlt1 : w0.heap.size < w1.heap.size := hw.lt
  refine WL.alloc rfl rfl (fun w2 hr hE2 => ?_)
  have hw := hw.ext hE2
  have hlt2 : w1.heap.size < w2.heap.size := hr.lt
  have hE12 := hE1.trans hE2
  (repeat (first | (apply WL.nil) | (apply EX.thenN) | (apply CW.seq)))
  have hSE : ∀ w3, (fun x => Ext w2 x) w3 → Ext w2 w3 := fun _ h => h
  refine CW.drawH (fun x => Ext w2 x) [(0, true), (1, true), (3, true), (4, true), (2, false), (5, false), (6, true), (7, true)] mixed (by kernel_rfl) (Ext.drew w2) ?_
  (repeat (first | (refine HL.fa rfl rfl rfl rfl ?_) | (refine HL.ld (by assumption) rfl rfl rfl rfl (by assumption) rfl ?_)))
  have hd : Ext w0 (drew w2) := hE12.trans (Ext.drew w2)
  refine HL.mut rfl (WL.call rfl rfl rfl (uclone_ok (drew w2) (hs.up0 hd hF) (fun b hb => Nat.lt_of_lt_of_le (hF b hb) hd.size) (by omega)) ?_)
  rintro sV w3 ⟨hos, hE3⟩
  have hT3 : Ext w2 w3 := (Ext.drew w2).trans hE3
  refine WL.nil (EX.mut hT3 ?_)
  have hd3 := hE12.trans hT3
  refine HL.mut rfl (WL.call rfl rfl rfl (uclone_ok w3 (hl.up0 hd3 hF) (fun b hb => Nat.lt_of_lt_of_le (hF b hb) hd3.size) (by omega)) ?_)
  rintro lV w4 ⟨hol, hE4⟩
  have hT4 : Ext w2 w4 := hT3.trans hE4
  refine WL.nil (EX.mut hT4 ?_)
  have hos := (hos.extN hE4).low (B' := w2.heap.size) (Nat.le_refl _)
  have hol := hol.low hT3.size
  (repeat (first | (apply HL.pure; rfl; rfl; rfl; rfl) | (apply HL.nil)))
  apply EX.thenN
  have hE4' := hE12.trans hT4
  have hr4 := hr.ext hT4
  clear hw hE1 hE2 hE3 hE4 hT3 hd hd3 hSE
  have hllen : 0 < l.length ∧ l.length ≤ 1000 := ⟨h0, by omega⟩
  obtain ⟨lo2, lc2, rfl, hlsl⟩ := hol.oldN.sl
  (repeat (first | (apply WL.pure; rfl; rfl; rfl) | (apply WL.nil) | (apply EX.thenN) | (apply CW.seq) | (apply CW.region) | (apply CW.block)))
  refine CW.loop (S := Nat) (fun n => [(2, .pointer (some ⟨w1.heap.size, 0, none⟩)), (3, sV), (4, .slice lo2 l.length lc2), (5, .int .i64 n)])
    (fun n w => 0 < n ∧ n ≤ l.length + 1 ∧ (∀ d, 0 < d → d < n → ¬ (l.length % d = 0 ∧ turnsB l d = true)) ∧ Ext w4 w) (fun n => l.length + 1 - n) 1 (by repeat (first | exact trivial | refine ⟨rfl, ?_⟩)) ⟨by omega, by omega, fun d h1 h2 => by omega, Ext.refl _⟩ ?_
  rintro n w5 ⟨hn0, hnl, hno, hE5⟩
  have hol5 := hol.extN hE5
  (repeat (first | (apply WL.pure; rfl; rfl; rfl) | (apply WL.nil) | (apply EX.thenN) | (apply CW.seq) | (apply CW.region) | (apply WL.lenS; rfl; rfl; rfl)))
  refine CW.cond rfl (fun h1 => ?_) (fun h1 => ?_)
  rotate_left
  · exfalso
    have hnn : n = l.length + 1 := by simp at h1; omega
    refine hno l.length h0 (by omega) ⟨Nat.mod_self _, ?_⟩
    rw [turns_per (s := s) h0 (Nat.mod_self _) h0]
    exact lat_perP h0
  have hnle : n ≤ l.length := by simp at h1; omega
  clear h1
  (repeat (first | (apply WL.pure; rfl; rfl; rfl) | (apply EX.thenN) | (apply CW.seq) | (apply CW.region) | (apply WL.lenS; rfl; rfl; rfl) | (apply CW.block) | (apply CW.skip)))
  refine WL.rem rfl rfl rfl rfl (by omega) (by omega) ?_
  (repeat (apply WL.pure; rfl; rfl; rfl))
  by_cases hdiv : l.length % n = 0
  · have e1 : ((l.length : Int) % (n : Int) == 0) = true := by
      rw [beq_iff_eq]; omega
    rw [e1]
    (repeat (apply WL.pure; rfl; rfl; rfl))
    refine WL.call rfl rfl rfl (turns_ok w5 (hlsl.up hE5) hnle (by omega)) ?_
    rintro _ w6 ⟨rfl, hE6⟩
    have hE56 := hE5.trans hE6
    cases hturn : turnsB l n
    · (repeat (first | (apply WL.add; rfl; rfl; rfl; rfl; omega; omega) | (apply WL.pure; rfl; rfl; rfl) | (apply WL.nil) | (apply EX.thenN) | (apply CW.region) | (apply EX.inN) | (apply CW.condF; rfl) | (apply CW.skip)))
      refine EX.back (n + 1) (by repeat (first | exact trivial | refine ⟨rfl, ?_⟩)) ⟨by omega, by omega, fun d h1 h2 => ?_, hE56⟩ (by omega)
      by_cases e : d = n
      · subst e; intro h; rw [hturn] at h; cases h.2
      · exact hno d h1 (by omega)
    have hper : perL l = l.take n := perGo_found ⟨hdiv, hturn⟩ _ 1 (by omega) (by omega) (fun d h1 h2 => hno d (by omega) h2)
    have hol6 := hol5.extN hE6
    have hos6 := hos.extN hE56
    (repeat (first | (apply WL.pure; rfl; rfl; rfl) | (apply WL.nil) | (apply EX.thenN) | (apply CW.seq) | (apply CW.region) | (apply CW.condT; rfl)))
    refine WL.cut3O (α := Nat) rfl rfl rfl rfl rfl hol6 hnle (fun pV hop hpb => ?_)
    rw [← hper] at hop
    have hpl : 0 < (perL l).length ∧ (perL l).length ≤ l.length := by rw [hper, List.length_take]; omega
    have hres : rollGo s.length s (perL l) = leastL s l := rfl
    generalize perL l = l1 at *
    have hE06 : Ext w2 w6 := hT4.trans hE56
    have hsl0 : s.length ≤ 1000 := by omega
    (repeat (first | (apply WL.pure; rfl; rfl; rfl) | (apply WL.nil) | (apply EX.thenN) | (apply CW.seq) | (apply CW.block) | (apply CW.exit) | (apply EX.thenX) | (apply EX.inX) | (apply EX.inXne; rfl)))
    refine CW.loop (S := List Nat × List Nat × Value × Value) (fun x => [(2, .pointer (some ⟨w1.heap.size, 0, none⟩)), (3, x.2.2.1), (4, x.2.2.2)])
      (fun x w => x.1.length ≤ s.length ∧ 0 < x.2.1.length ∧ x.2.1.length ≤ l.length ∧ rollGo x.1.length x.1 x.2.1 = leastL s l ∧ Own w w2.heap.size 53 Non x.2.2.1 x.1 ∧ Own w w2.heap.size 53 Non x.2.2.2 x.2.1 ∧ Ext w2 w) (fun x => x.1.length) (s, l1, sV, pV) (by repeat (first | exact trivial | refine ⟨rfl, ?_⟩)) ⟨Nat.le_refl _, hpl.1, hpl.2, hres, hos6, hop, hE06⟩ ?_
    clear hop hos6 hol6 hE06 hres hpl hper hol5 hE5 hE6 hE56 hno hos hol hlsl hT4
    rintro ⟨s2, l2, aV, bV⟩ w7 ⟨hs2, hl2, hl2', hres, hoa, hob, hE7⟩
    dsimp only at hs2 hl2 hl2' hres hoa hob
    obtain ⟨ao, ac, rfl, hasl⟩ := hoa.oldN.sl
    obtain ⟨bo, bc, rfl, hbsl⟩ := hob.oldN.sl
    (repeat (first | (apply QL.pure; rfl; rfl; rfl) | (apply CW.seq) | (apply QL.lenS; rfl; rfl; rfl) | (apply CW.draw; exact mixed; kernel_rfl)))
    (refine QL.lookG rfl rfl (fun h => ?_) (fun h => ?_))
    · have hpos : 0 < s2.length := by simpa using h
      have hsl1 : s2.length - 1 < s2.length := by omega
      have hll1 : l2.length - 1 < l2.length := by omega
      have eS : ((s2.length : Int) - 1).toNat = s2.length - 1 := by omega
      have eL : ((l2.length : Int) - 1).toNat = l2.length - 1 := by omega
      (repeat (first | (apply QL.sub'; rfl; rfl; rfl; rfl; omega; omega) | (apply QL.pure; rfl; rfl; rfl) | (apply QL.lenS; rfl; rfl; rfl)))
      refine QL.elem rfl rfl rfl rfl rfl (fun _ h => h) hasl (by omega) (by omega) (fun _ => rfl) (fun u q hu => ?_)
      simp only [eS] at hu
      obtain ⟨rfl, hb1⟩ := hu.u64
      (repeat (first | (apply QL.sub'; rfl; rfl; rfl; rfl; omega; omega) | (apply QL.pure; rfl; rfl; rfl) | (apply QL.lenS; rfl; rfl; rfl)))
      refine QL.elem rfl rfl rfl rfl rfl (fun _ h => h) hbsl (by omega) (by omega) (fun _ => rfl) (fun u q2 hu2 => ?_)
      simp only [eL] at hu2
      obtain ⟨rfl, hb2⟩ := hu2.u64
      (repeat (apply QL.pure; rfl; rfl; rfl))
      refine QL.nil (fun w8 hE8 => ?_)
      have hoa8 := hoa.extN hE8
      have hob8 := hob.extN hE8
      have hE28 := hE7.trans hE8
      (repeat (apply EX.thenN))
      refine CW.cond rfl (fun h1 => ?_) (fun h1 => ?_)
      · have heq : s2[s2.length - 1] = l2[l2.length - 1] := by
          have : ((s2[s2.length - 1] : Nat) : Int) = ((l2[l2.length - 1] : Nat) : Int) := by simpa using h1
          omega
        have hroll : rollGo s2.length s2 l2 = rollGo (s2.length - 1) (s2.take (s2.length - 1)) (l2.getD (l2.length - 1) 0 :: l2.take (l2.length - 1)) := by
          obtain ⟨m, hm⟩ : ∃ m, s2.length = m + 1 := ⟨s2.length - 1, by omega⟩
          rw [hm, rollGo, if_pos ⟨by omega, by rw [getN_at (by omega), getN_at hll1]; exact heq⟩, hm]
          rfl
        have elast : l2.getD (l2.length - 1) 0 = l2[l2.length - 1] := getN_at hll1
        rw [elast] at hroll
        (repeat (first | (apply WL.sub'; rfl; rfl; rfl; rfl; omega; omega) | (apply WL.pure; rfl; rfl; rfl) | (apply EX.thenN) | (apply CW.seq) | (apply CW.region) | (apply WL.lenS; rfl; rfl; rfl) | (apply CW.block) | (apply CW.skip)))
        refine WL.cutHiO (α := Nat) (s2.length - 1) (by omega) rfl rfl rfl rfl hoa8 (by omega) (fun cV hoc hcb => ?_)
        (repeat (apply WL.pure; rfl; rfl; rfl))
        apply WL.nil
        apply EX.thenN
        have hd : Ext w2 (drew w8) := hE28.trans (Ext.drew w8)
        have hobd := hob8.extN (Ext.drew w8)
        have hocd := hoc.extN (Ext.drew w8)
        obtain ⟨bo', bc', hbe, hbsd⟩ := hobd.oldN.sl
        obtain ⟨rfl, _, rfl⟩ := Value.slice.inj hbe
        have hSE : ∀ w9, (fun x => Ext (drew w8) x) w9 → Ext (drew w8) w9 := fun _ h => h
        refine CW.drawH (fun x => Ext (drew w8) x) [(0, true), (1, true), (2, true), (3, true), (4, true), (5, true), (7, true), (8, true), (9, true), (10, true), (11, true), (6, false), (12, false), (13, true)] mixed (by kernel_rfl) (Ext.refl _) ?_
        (repeat (first | (apply HL.sub'; rfl; rfl; rfl; rfl; rfl; omega; omega) | (apply HL.pure; rfl; rfl; rfl; rfl) | (refine HL.lenS rfl rfl rfl rfl ?_)))
        refine HL.elemZ hSE rfl rfl rfl rfl rfl rfl rfl (fun _ h => h) hbsd (by omega) (by omega) (fun _ => rfl) (fun u q3 hu3 => ?_)
        simp only [eL] at hu3
        obtain ⟨rfl, hb3⟩ := hu3.u64
        (repeat (first | (apply HL.sub'; rfl; rfl; rfl; rfl; rfl; omega; omega) | (apply HL.pure; rfl; rfl; rfl; rfl) | (refine HL.lenS rfl rfl rfl rfl ?_)))
        refine HL.cutHi (α := Nat) (l2.length - 1) (by omega) rfl rfl rfl rfl rfl (by have := hbsd.le; omega) ?_
        refine HL.mut rfl (WL.lit (α := Nat) (F := Non) (ys := [l2[l2.length - 1]]) rfl rfl rfl rfl rfl (.cons ⟨_, rfl, rd_mkU64 _ _ _ hb3⟩ .nil) (by show 1 * 1 ≤ 16777216; decide) (fun _ h => h.elim) (fun w9 ho9 hg9 => ?_))
        have hE9 : Ext (drew w8) w9 := (Ext.refl _).grown hg9 (Nat.le_refl _) (fun k h => by cases h)
        refine WL.nil (EX.mut hE9 ?_)
        have htk := (hbsd.up hE9).take (k := l2.length - 1) (by omega)
        have htl : (l2.take (l2.length - 1)).length = l2.length - 1 := by rw [List.length_take]; omega
        refine HL.mut rfl (WL.app (F := Non) (xs := [l2[l2.length - 1]]) (ys := l2.take (l2.length - 1)) (cap := bc) rfl rfl rfl (by rw [htl]; rfl) ho9 htk.srcN hE9.size (fun _ h => h.elim) (by rw [htl]; unfold maxLen; simp; omega) (by rw [htl]; simp; omega) (fun v' w10 ho10 hg10 hnb10 => ?_))
        have hE10 : Ext (drew w8) w10 := hE9.grown hg10 hE9.size (fun k hk => by cases hk; exact Nat.le_refl _)
        refine WL.nil (EX.mut hE10 ?_)
        have hoc10 := hocd.extN hE10
        (repeat (first | (apply HL.pure; rfl; rfl; rfl; rfl) | (apply HL.nil)))
        (repeat (apply EX.inN))
        refine EX.back (s2.take (s2.length - 1), l2[l2.length - 1] :: l2.take (l2.length - 1), cV, v') (by repeat (first | exact trivial | refine ⟨rfl, ?_⟩)) ⟨by simp only [List.length_take]; omega, by simp, by simp only [List.length_cons, htl]; omega, ?_, hoc10, ho10.low hd.size, hd.trans hE10⟩ (by simp only [List.length_take]; omega)
        dsimp only
        rw [List.length_take, Nat.min_eq_left (by omega), ← hroll]
        exact hres
      · have hne : ¬ s2[s2.length - 1] = l2[l2.length - 1] := by
          have : ¬ ((s2[s2.length - 1] : Nat) : Int) = ((l2[l2.length - 1] : Nat) : Int) := by simpa using h1
          omega
        have hfin : (s2, l2) = leastL s l := by
          rw [← hres]
          obtain ⟨m, hm⟩ : ∃ m, s2.length = m + 1 := ⟨s2.length - 1, by omega⟩
          rw [hm, rollGo, if_neg (fun h => hne (by have := h.2; rwa [getN_at (by omega), getN_at hll1] at this))]
        rw [← hfin]
        (repeat (first | (apply WL.pure; rfl; rfl; rfl) | (apply EX.thenN) | (apply CW.seq) | (apply CW.region) | (apply CW.exit) | (apply EX.thenX) | (apply EX.inX)))
        have hr8 := hr.ext hE28
        have hE08 : Ext w0 w8 := hE12.trans hE28
        refine WL.call rfl rfl rfl (uclone_ok w8 (hasl.up hE8) (fun _ h => h) (by omega)) ?_
        rintro eV w9 ⟨hoe, hE9⟩
        have hob9 := hob8.extN hE9
        have hr9 := hr8.ext hE9
        have hE09 := hE08.trans hE9
        obtain ⟨eo, ec, rfl⟩ := hoe.val
        (repeat (apply WL.pure; rfl; rfl; rfl))
        refine WL.build rfl rfl rfl rfl ?_
        refine WL.st rfl rfl rfl hr9 rfl rfl (ones_of rfl) (fun w10 hr10 hg10 => ?_)
        have hE10 : Ext w0 w10 := hE09.grown hg10 hE09.size (fun g hg => by cases hg; omega)
        have hw29 : w2.heap.size ≤ w8.heap.size := hE28.size
        have hoe10 := hoe.keptN hg10 (fun g hg e => by cases e; have := (hoe.lt _ hg).1; omega)
        have hob10 := hob9.keptN hg10 (fun g hg e => by cases e; have := (hob9.lt _ hg).1; omega)
        obtain ⟨q1, q2, he1, hsl1⟩ := (hoe10.rd.mono (F' := fun b => w0.heap.size ≤ b ∧ b < w10.heap.size) (fun _ _ => rfl) (fun b hb => hb.elim (fun h => h.elim) fun hb => ⟨Nat.le_trans hE08.size (hoe10.lt b hb).1, (hoe10.lt b hb).2.1⟩)).sl
        obtain ⟨rfl, _, rfl⟩ := Value.slice.inj he1
        obtain ⟨q3, q4, he2, hsl2⟩ := (hob10.rd.mono (F' := fun b => w0.heap.size ≤ b ∧ b < w10.heap.size) (fun _ _ => rfl) (fun b hb => hb.elim (fun h => h.elim) fun hb => ⟨Nat.le_trans hE12.size (hob10.lt b hb).1, (hob10.lt b hb).2.1⟩)).sl
        obtain ⟨rfl, _, rfl⟩ := Value.slice.inj he2
        (repeat (first | (apply WL.nil) | (apply EX.thenN) | (apply CW.ret)))
        exact EX.retC rfl rfl hr10 rfl ⟨Rd.mkPr (rd_mkSl hsl1) (rd_mkSl hsl2), hE10⟩
    · have hs0 : s2 = [] := by simpa using h
      have hfin : (s2, l2) = leastL s l := by
        rw [← hres, hs0]; rfl
      rw [← hfin]
      (repeat (first | (apply QL.pure; rfl; rfl; rfl) | (apply QL.pass; rfl; rfl)))
      refine QL.nil (fun w8 hE8 => ?_)
      have hoa8 := hoa.extN hE8
      have hob8 := hob.extN hE8
      have hE28 := hE7.trans hE8
      (repeat (first | (apply WL.pure; rfl; rfl; rfl) | (apply EX.thenN) | (apply CW.seq) | (apply CW.region) | (apply CW.condF; rfl) | (apply CW.exit) | (apply EX.thenX) | (apply EX.inX)))
      have hr8 := hr.ext hE28
      have hE08 : Ext w0 w8 := hE12.trans hE28
      refine WL.call rfl rfl rfl (uclone_ok w8 (hasl.up hE8) (fun _ h => h) (by omega)) ?_
      rintro eV w9 ⟨hoe, hE9⟩
      have hob9 := hob8.extN hE9
      have hr9 := hr8.ext hE9
      have hE09 := hE08.trans hE9
      obtain ⟨eo, ec, rfl⟩ := hoe.val
      (repeat (apply WL.pure; rfl; rfl; rfl))
      refine WL.build rfl rfl rfl rfl ?_
      refine WL.st rfl rfl rfl hr9 rfl rfl (ones_of rfl) (fun w10 hr10 hg10 => ?_)
      have hE10 : Ext w0 w10 := hE09.grown hg10 hE09.size (fun g hg => by cases hg; omega)
      have hw29 : w2.heap.size ≤ w8.heap.size := hE28.size
      have hoe10 := hoe.keptN hg10 (fun g hg e => by cases e; have := (hoe.lt _ hg).1; omega)
      have hob10 := hob9.keptN hg10 (fun g hg e => by cases e; have := (hob9.lt _ hg).1; omega)
      obtain ⟨q1, q2, he1, hsl1⟩ := (hoe10.rd.mono (F' := fun b => w0.heap.size ≤ b ∧ b < w10.heap.size) (fun _ _ => rfl) (fun b hb => hb.elim (fun h => h.elim) fun hb => ⟨Nat.le_trans hE08.size (hoe10.lt b hb).1, (hoe10.lt b hb).2.1⟩)).sl
      obtain ⟨rfl, _, rfl⟩ := Value.slice.inj he1
      obtain ⟨q3, q4, he2, hsl2⟩ := (hob10.rd.mono (F' := fun b => w0.heap.size ≤ b ∧ b < w10.heap.size) (fun _ _ => rfl) (fun b hb => hb.elim (fun h => h.elim) fun hb => ⟨Nat.le_trans hE12.size (hob10.lt b hb).1, (hob10.lt b hb).2.1⟩)).sl
      obtain ⟨rfl, _, rfl⟩ := Value.slice.inj he2
      (repeat (first | (apply WL.nil) | (apply EX.thenN) | (apply CW.ret)))
      exact EX.retC rfl rfl hr10 rfl ⟨Rd.mkPr (rd_mkSl hsl1) (rd_mkSl hsl2), hE10⟩
  · have e1 : ((l.length : Int) % (n : Int) == 0) = false := by
      rw [beq_eq_false_iff_ne]; omega
    rw [e1]
    (repeat (first | (apply WL.add; rfl; rfl; rfl; rfl; omega; omega) | (apply WL.pure; rfl; rfl; rfl) | (apply WL.nil) | (apply EX.thenN) | (apply CW.region) | (apply WL.pass; rfl; rfl) | (apply EX.inN) | (apply CW.condF; rfl) | (apply CW.skip)))
    refine EX.back (n + 1) (by repeat (first | exact trivial | refine ⟨rfl, ?_⟩)) ⟨by omega, by omega, fun d h1 h2 => ?_, hE5⟩ (by omega)
    by_cases e : d = n
    · subst e; exact fun h => hdiv h.1
    · exact hno d h1 (by omega)

def sameE (s l t m : List Nat) : Bool × Int := if chkW s l ≠ 0 then (false, chkW s l) else if chkW t m ≠ 0 then (false, chkW t m) else ((leastL s l).1 == (leastL t m).1 && (leastL s l).2 == (leastL t m).2, 0)
end Go.Proofs.Ytllpfgcngokhnaa
/-
  lasso.Least walked.
-/
set_option linter.unusedVariables false
set_option linter.unusedSimpArgs false
namespace Go.Proofs.Ytllpfgcngokhnaa
open Go.RowKit

instance iLeast2a : IsF Try.prog 56 := ⟨_, Try.func56, rfl, by decide⟩
def leastE (s l : List Nat) : LWord := if chkW s l ≠ 0 then ([], []) else leastL s l
theorem Least_okF (w0 : World) {so lo : Option Addr} {sc lc : Nat} {s l : List Nat} (hs : Sl w0 (Old w0) so sc s) (hl : Sl w0 (Old w0) lo lc l) :
    Rt Try.prog 56 [wordV so sc lo lc s l].toArray w0 fun v w' => ∃ x, v = .tuple ⟨[x, .int .i64 (chkW s l)]⟩ ∧ Rd w' (fun b => w0.heap.size ≤ b ∧ b < w'.heap.size) x (leastE s l) ∧ Ext w0 w' := by
  refine Rt.enter1 Try.func56 Try.ntmps56 rfl rfl ?_
  (repeat (first | (apply CW.seq) | (apply CW.region)))
  refine WL.boxB rfl rfl rfl fun w1 hb1 hE1 => ?_
  skip
  refine WL.alloc rfl rfl (fun w2 hr hE2 => ?_)
  have hb2 := hb1.ext hE2
  have hE2 := hE1.trans hE2
  have hsz := hE1.size
  (repeat (first | (apply WL.pure; rfl; rfl; rfl) | (apply WL.nil) | (apply EX.thenN) | (apply CW.seq) | (apply CW.region) | (apply WL.ldA; rfl; rfl; rfl; assumption; rfl)))
  refine WL.call rfl rfl rfl (lassoCheck w2 hs.len63 hl.len63) ?_
  rintro _ w3 ⟨rfl, e3⟩
  have hb3 := hb2.ext e3
  have hr3 := hr.ext e3
  have hE3 := hE2.trans e3
  unfold leastE
  (repeat (first | (apply WL.pure; rfl; rfl; rfl) | (apply WL.nil) | (apply EX.thenN) | (apply CW.seq) | (apply CW.region)))
  refine CW.cond rfl (fun h => ?_) (fun h => ?_)
  · have h : chkW s l ≠ 0 := by simpa using h
    rw [if_pos h]
    (repeat (first | (apply CW.seq) | (apply CW.region)))
    refine WL.build (parts := []) rfl rfl rfl rfl ?_
    (repeat (apply WL.pure; rfl; rfl; rfl))
    refine WL.st rfl rfl rfl hr3 rfl rfl (ones_of rfl) (fun w4 hr4 hg4 => ?_)
    have hE4 : Ext w0 w4 := hE3.grown hg4 hE3.size (fun g hg => by cases hg; omega)
    (repeat (first | (apply WL.pure; rfl; rfl; rfl) | (apply WL.nil) | (apply EX.thenN) | (apply CW.ret) | (apply EX.thenR)))
    exact EX.retC2 rfl rfl rfl hr4 rfl ⟨_, rfl, Rd.mkPr (rd_mkSl (Sl.zero _ _)) (rd_mkSl (Sl.zero _ _)), hE4⟩
  have h : chkW s l = 0 := by simpa using h
  rw [if_neg (by simp [h])]
  have k := chkW_ok h
  (repeat (first | (apply EX.thenN) | (apply CW.seq) | (apply CW.region) | (apply WL.ldA; rfl; rfl; rfl; assumption; rfl) | (apply CW.skip)))
  refine WL.call rfl rfl rfl (least_ok w3 (hs.at hE3) (hl.at hE3) (fun b hb => Nat.lt_of_lt_of_le hb hE3.size) k.2 (by omega)) ?_
  rintro v w4 ⟨h4, e4⟩
  have hr4 := hr3.ext e4
  have hE4 := hE3.trans e4
  have hlt := hr3.lt
  obtain ⟨xo, xc, yo, yc, rfl, hx, hy⟩ := h4.word
  skip
  refine WL.st rfl rfl rfl hr4 rfl rfl (ones_of rfl) (fun w5 hr5 hg5 => ?_)
  have hE5 : Ext w0 w5 := hE4.grown hg5 hE4.size (fun g hg => by cases hg; omega)
  have hF : ∀ b, (w3.heap.size ≤ b ∧ b < w4.heap.size) → w5.heap[b]? = w4.heap[b]? := fun b hb => hg5.block b hb.2 (fun e => by cases e; omega)
  have hO : ∀ b, (w3.heap.size ≤ b ∧ b < w4.heap.size) → (w0.heap.size ≤ b ∧ b < w5.heap.size) := fun b hb => ⟨Nat.le_trans hE3.size hb.1, Nat.lt_of_lt_of_le hb.2 hg5.size⟩
  rw [h]
  (repeat (first | (apply WL.pure; rfl; rfl; rfl) | (apply WL.nil) | (apply EX.thenN) | (apply CW.ret)))
  exact EX.retC2 rfl rfl rfl hr5 rfl ⟨_, rfl, Rd.mkPr (rd_mkSl (hx.mono hF hO)) (rd_mkSl (hy.mono hF hO)), hE5⟩
theorem Least_ok (w0 : World) {so lo : Option Addr} {sc lc : Nat} {s l : List Nat} (hs : Sl w0 (Old w0) so sc s) (hl : Sl w0 (Old w0) lo lc l) :
    Rt Try.prog 56 [wordV so sc lo lc s l].toArray w0 fun v w' => ∃ x, v = .tuple ⟨[x, .int .i64 (chkW s l)]⟩ ∧ Rd w' (Old w') x (leastE s l) ∧ Ext w0 w' :=
  (Least_okF w0 hs hl).mono fun v w' ⟨x, h1, h2, h3⟩ => ⟨x, h1, h2.mono (fun _ _ => rfl) (fun b hb => hb.2), h3⟩
end Go.Proofs.Ytllpfgcngokhnaa
