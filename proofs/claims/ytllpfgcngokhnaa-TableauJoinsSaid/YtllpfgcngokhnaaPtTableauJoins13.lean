import Derived.Test.YtllpfgcngokhnaaPtTableauJoins12
/-
  Package auto: product.
-/
set_option linter.unusedVariables false
set_option linter.unusedSimpArgs false
namespace Go.Proofs.Ytllpfgcngokhnaa
open Go.RowKit

/-- j edges of a row are looked at -/
def prodPart (nx : List (List Int)) (mu no s l : List Nat) (x j : Nat) : List Int :=
  if fitB mu no (x % nx.length) (lat s l (x / nx.length)) = true then (((nx.getD (x % nx.length) []).take j).filter fun to => fitB mu no to.toNat (lat s l (nextL s l (x / nx.length)))).map fun to => (nextL s l (x / nx.length) : Int) * nx.length + to else []
def prodFull (nx : List (List Int)) (mu no s l : List Nat) (x : Nat) : List Int := prodRow nx mu no s l (x / nx.length) (x % nx.length)
theorem prodPart_full {nx : List (List Int)} {mu no s l : List Nat} {x : Nat} : prodPart nx mu no s l x (nx.getD (x % nx.length) []).length = prodFull nx mu no s l x := by
  unfold prodPart prodFull prodRow; rw [List.take_length]
theorem divmod {n i k : Nat} (hk : k < n) : (i * n + k) / n = i ∧ (i * n + k) % n = k := by
  constructor
  · rw [Nat.add_comm, Nat.add_mul_div_right _ _ (by omega), Nat.div_eq_of_lt hk, Nat.zero_add]
  · rw [Nat.add_comm, Nat.add_mul_mod_self_right, Nat.mod_eq_of_lt hk]
theorem prodPart_next {nx : List (List Int)} {mu no s l : List Nat} {i k j : Nat} (hk : k < nx.length) (hj : j < nx[k].length) (hf : fitB mu no k (lat s l i) = true) :
    prodPart nx mu no s l (i * nx.length + k) (j + 1) = prodPart nx mu no s l (i * nx.length + k) j ++ if fitB mu no (nx[k][j]).toNat (lat s l (nextL s l i)) = true then [(nextL s l i : Int) * nx.length + nx[k][j]] else [] := by
  obtain ⟨e1, e2⟩ := divmod (n := nx.length) (i := i) hk
  unfold prodPart
  rw [e1, e2, if_pos hf, if_pos hf]
  have er : nx.getD k [] = nx[k] := by rw [List.getD_eq_getElem?_getD, List.getElem?_eq_getElem hk]; rfl
  rw [er, ← List.take_append_getElem hj, List.filter_append, List.map_append]
  congr 1
  by_cases h : fitB mu no (nx[k][j]).toNat (lat s l (nextL s l i)) = true
  · rw [if_pos h]; simp [h]
  · rw [if_neg h]; simp [h]
theorem prodPart_zero {nx : List (List Int)} {mu no s l : List Nat} {x : Nat} : prodPart nx mu no s l x 0 = [] := by
  unfold prodPart; split <;> simp
theorem prodPart_no {nx : List (List Int)} {mu no s l : List Nat} {i k : Nat} (hk : k < nx.length) (hf : ¬ fitB mu no k (lat s l i) = true) : prodFull nx mu no s l (i * nx.length + k) = [] := by
  obtain ⟨e1, e2⟩ := divmod (n := nx.length) (i := i) hk
  unfold prodFull prodRow
  rw [e1, e2, if_neg hf]
theorem prodPart_len {nx : List (List Int)} {mu no s l : List Nat} {x j : Nat} : (prodPart nx mu no s l x j).length ≤ (nx.getD (x % nx.length) []).length := by
  unfold prodPart
  split
  · rw [List.length_map]
    refine Nat.le_trans (List.length_filter_le _ _) ?_
    rw [List.length_take]; omega
  · simp
theorem lat_app {s l : List Nat} {i : Nat} (h : i < (s ++ l).length) : (s ++ l)[i] = lat s l i := by
  unfold lat
  rw [List.length_append] at h
  by_cases hi : i < s.length
  · rw [if_pos hi, List.getElem_append_left hi, getDN_at hi]
  · rw [if_neg hi, List.getElem_append_right (by omega), Nat.mod_eq_of_lt (by omega), getDN_at (by omega)]
theorem product_ok (w0 : World) {v0 : Value} {A : LAuto} {s l : List Nat} {so lo : Option Addr} {sc lc : Nat} (ha : AutoAt w0 (Old w0) v0 A) (hok : OkA A) (hs : Sl w0 (Old w0) so sc s) (hl : Sl w0 (Old w0) lo lc l)
    (h0 : 0 < l.length) (h60 : s.length + l.length ≤ 60) (hT : ∀ r ∈ A.2.1, r.length ≤ 8589934592) :
    Rt Try.prog 106 [v0, wordV so sc lo lc s l].toArray w0 fun v w' => ∃ vs, OwnN w' w0.heap.size 22 3 v vs (prodG A.2.1 A.2.2.1 A.2.2.2.1 s l) ∧ Ext w0 w' := by
  obtain ⟨a1, c1, a2, c2, a3, c3, a4, c4, a5, c5, rfl, h1, h2, h3, h4, h5⟩ := ha.ok
  obtain ⟨st, nx, mu, no, fr⟩ := A
  dsimp only at *
  have hm2 := h2.len63
  have hn := hok.n
  have hmu := hok.mu
  have hno := hok.no
  have hnx := hok.nx
  dsimp only at hn hmu hno hnx
  refine Rt.enter2 Try.func106 Try.ntmps106 rfl rfl ?_
  have hE := Ext.refl w0
  (repeat (first | (apply CW.seq) | (apply CW.region)))
  refine WL.boxB rfl rfl rfl fun w1 hb2 e1 => ?_
  have hE := hE.trans e1
  skip
  refine WL.boxB rfl rfl rfl fun w2 hb3 e2 => ?_
  have hb2 := hb2.ext e2
  have hE := hE.trans e2
  (repeat (first | (apply WL.pure; rfl; rfl; rfl) | (apply WL.nil) | (apply EX.thenN) | (apply CW.seq)))
  apply CW.draw
  · exact mixed
  · kernel_rfl
  (repeat (first | (apply QL.add; rfl; rfl; rfl; rfl; omega; omega) | (apply QL.pure; rfl; rfl; rfl) | (apply QL.lenS; rfl; rfl; rfl) | (apply QL.fa; rfl; rfl; rfl) | (apply QL.ld; rfl; rfl; rfl; assumption; rfl)))
  refine QL.nil (fun w3 e3 => ?_)
  have hb2 := hb2.ext e3
  have hb3 := hb3.ext e3
  have hE := hE.trans e3
  (repeat (first | (apply EX.thenN) | (apply CW.seq)))
  have hT0 : Ext w0 (drew w3) := hE.trans (Ext.drew w3)
  have hSE : ∀ x, (fun x => Ext w3 x) x → Ext w3 x := fun _ h => h
  refine CW.drawH (fun x => Ext w3 x) [(0, true), (1, true), (3, true), (4, true), (2, false), (5, false), (6, true)] mixed (by kernel_rfl) (Ext.drew w3) ?_
  (repeat (first | (refine HL.fa rfl rfl rfl rfl ?_) | (refine HL.ld (by assumption) rfl rfl rfl rfl (by assumption) rfl ?_)))
  refine HL.mut rfl (WL.call rfl rfl rfl (clone_u64 (drew w3) (hs.up hT0) (fun _ h => h) (by omega)) ?_)
  rintro cV w4 ⟨hoc, e4⟩
  have hT4 : Ext w3 w4 := (Ext.drew w3).trans e4
  refine WL.nil (EX.mut hT4 ?_)
  skip
  have hE4 := hE.trans hT4
  refine HL.mut rfl (WL.app (F := Non) rfl rfl rfl rfl hoc (hl.up hE4).srcN e4.size (fun _ h => h.elim) (by unfold maxLen; omega) (by omega) (fun wV w5 how hg5 _ => ?_))
  have hT5 : Ext w3 w5 := hT4.grown hg5 hT4.size (fun g hg => Nat.le_trans (Ext.drew w3).size (hoc.lt g hg).1)
  refine WL.nil (EX.mut hT5 ?_)
  (repeat (first | (apply HL.pure; rfl; rfl; rfl; rfl) | (apply HL.nil)))
  have hE := hE.trans hT5
  have hb2 := hb2.ext hT5
  have hb3 := hb3.ext hT5
  obtain ⟨wo, wc, rfl, hall⟩ := how.oldN.sl
  clear e1 e2 e3 e4 hT0 hT4 hT5 hE4 how hg5 hoc
  have hxs : ∀ x ∈ s ++ l, x < 18446744073709551616 := by
    intro x hx
    obtain ⟨i, hi, rfl⟩ := List.mem_iff_getElem.1 hx
    obtain ⟨b, off, _, _, es, _, hr⟩ := hall.el i hi
    exact (rd_u64 hr).2
  have hlat : ∀ i, i < (s ++ l).length → lat s l i < 18446744073709551616 := fun i hi => by rw [← lat_app hi]; exact hxs _ (List.getElem_mem hi)
  have halen : (s ++ l).length = s.length + l.length := List.length_append
  obtain ⟨m, hm⟩ : ∃ m, m = s.length + l.length := ⟨_, rfl⟩
  rw [show (s.length : Int) + l.length = (m : Int) by omega]
  have hNN : nx.length * m ≤ 122880 := Nat.le_trans (Nat.mul_le_mul hn (show m ≤ 60 by omega)) (by decide)
  have hNZ : (nx.length : Int) * (m : Int) = ((nx.length * m : Nat) : Int) := by push_cast; rfl
  (repeat (first | (apply WL.mul; rfl; rfl; rfl; rfl; omega; omega) | (apply WL.pure; rfl; rfl; rfl) | (apply EX.thenN) | (apply CW.seq) | (apply CW.region)))
  rw [hNZ]
  refine WL.make (α := Raw) rfl rfl rfl rfl (by omega) (by unfold maxLen; omega) (fun w6 ho6 hg6 => ?_)
  have e6 : Ext w5 w6 := (Below.refl _ _).grown hg6 (Nat.le_refl _) (fun k h => by cases h)
  generalize hsv : Value.slice (some ⟨w5.heap.size, 0, none⟩) (nx.length * m) (nx.length * m) = sv at *
  obtain ⟨full, hfull⟩ : ∃ full, full = prodFull nx mu no s l := ⟨_, rfl⟩
  have hN6 : OwnN w6 w5.heap.size 22 3 sv _ (List.replicate (nx.length * m) ([] : List Int)) := OwnN.made ho6
  rw [← gridP_start (full := full)] at hN6
  clear ho6 hg6
  have hixN : ∀ i k, i < m → k < nx.length → i * nx.length + k < nx.length * m := fun i k hi hk => by
    have h1 : (i + 1) * nx.length ≤ m * nx.length := Nat.mul_le_mul_right _ hi
    rw [Nat.add_mul, Nat.mul_comm m] at h1
    omega
  have hcast : ∀ i k : Nat, (i : Int) * (nx.length : Int) + (k : Int) = ((i * nx.length + k : Nat) : Int) := fun i k => by push_cast; rfl
  (repeat (first | (apply WL.pure; rfl; rfl; rfl) | (apply WL.nil) | (apply EX.thenN) | (apply CW.seq) | (apply CW.region) | (apply WL.lenS; rfl; rfl; rfl) | (apply CW.block)))
  refine CW.loop (S := Nat × List Raw) (fun x => [(2, .pointer (some ⟨w0.heap.size, 0, none⟩)), (3, .pointer (some ⟨w1.heap.size, 0, none⟩)), (5, .int .i64 nx.length), (6, .int .i64 m), (7, .slice wo (s ++ l).length wc), (8, sv), (35, .slice wo (s ++ l).length wc), (36, .int .i64 (s ++ l).length), (37, .int .i64 x.1)])
    (fun x w => x.1 ≤ m ∧ OwnN w w5.heap.size 22 3 sv x.2 (gridP (nx.length * m) full (x.1 * nx.length) []) ∧ Ext w5 w) (fun x => m - x.1) (0, _) (by repeat (first | exact trivial | refine ⟨rfl, ?_⟩)) ⟨Nat.zero_le _, by rw [Nat.zero_mul]; exact hN6, e6⟩ ?_
  rintro ⟨i, vs⟩ w7 ⟨hi, hN, e7⟩
  dsimp only at hi hN
  (repeat (first | (apply WL.pure; rfl; rfl; rfl) | (apply WL.nil) | (apply EX.thenN) | (apply CW.seq) | (apply CW.region)))
  refine CW.cond rfl (fun h => ?_) (fun h => ?_)
  · have hi' : i < (s ++ l).length := by simp at h; omega
    have him : i < m := by omega
    (repeat (first | (apply WL.pure; rfl; rfl; rfl) | (apply EX.thenN) | (apply CW.seq) | (apply CW.region) | (apply CW.block) | (apply CW.skip)))
    refine WL.elemN rfl rfl rfl rfl rfl (hall.up e7) hi' (fun _ => rfl) (fun u q hu => ?_)
    obtain ⟨rfl, hu64⟩ := hu.u64
    rw [lat_app hi'] at hu64 ⊢
    (repeat (apply WL.pure; rfl; rfl; rfl))
    apply WL.nil
    apply EX.thenN
    apply CW.seq
    apply CW.region
    (repeat (first | (apply WL.add; rfl; rfl; rfl; rfl; omega; omega) | (apply WL.pure; rfl; rfl; rfl)))
    apply WL.nil
    apply EX.thenN
    refine CW.cut [(2, .pointer (some ⟨w0.heap.size, 0, none⟩)), (3, .pointer (some ⟨w1.heap.size, 0, none⟩)), (5, .int .i64 nx.length), (6, .int .i64 m), (7, .slice wo (s ++ l).length wc), (8, sv), (9, .int .i64 i), (10, .int .u64 (lat s l i : Nat)), (11, .int .i64 (nextL s l i : Nat)), (35, .slice wo (s ++ l).length wc), (36, .int .i64 (s ++ l).length), (37, .int .i64 i)] ?_ ?_
    · (repeat (first | (apply WL.pure; rfl; rfl; rfl) | (apply WL.nil) | (apply EX.thenN) | (apply CW.seq) | (apply CW.region)))
      refine CW.cond rfl (fun h9 => ?_) (fun h9 => ?_)
      · have h9 : i + 1 = s.length + l.length := by simp at h9; omega
        have hb3 := hb3.ext e7
        (repeat (first | (apply WL.pure; rfl; rfl; rfl) | (apply WL.nil) | (apply CW.region) | (apply WL.lenS; rfl; rfl; rfl) | (apply WL.fa; rfl; rfl; rfl) | (apply WL.ld; rfl; rfl; rfl; assumption; rfl)))
        rw [show nextL s l i = s.length by unfold nextL; rw [if_pos h9]]
        exact EX.cut (by repeat (first | exact trivial | refine ⟨rfl, ?_⟩))
      · have h9 : ¬ i + 1 = s.length + l.length := by simp at h9; omega
        rw [show nextL s l i = i + 1 by unfold nextL; rw [if_neg h9]]
        exact CW.skip (EX.cut (by repeat (first | exact trivial | refine ⟨rfl, ?_⟩)))
    have hnxt : nextL s l i < (s ++ l).length := by unfold nextL; split <;> omega
    obtain ⟨nxt, hnx'⟩ : ∃ nxt, nxt = nextL s l i := ⟨_, rfl⟩
    rw [← hnx'] at hnxt ⊢
    (repeat (first | (apply WL.pure; rfl; rfl; rfl) | (apply WL.nil) | (apply EX.thenN) | (apply CW.seq) | (apply CW.region) | (apply CW.block)))
    refine CW.loop (S := Nat × List Raw) (fun x => [(2, .pointer (some ⟨w0.heap.size, 0, none⟩)), (3, .pointer (some ⟨w1.heap.size, 0, none⟩)), (5, .int .i64 nx.length), (6, .int .i64 m), (7, .slice wo (s ++ l).length wc), (8, sv), (9, .int .i64 i), (10, .int .u64 (lat s l i : Nat)), (11, .int .i64 nxt), (35, .slice wo (s ++ l).length wc), (36, .int .i64 (s ++ l).length), (37, .int .i64 i), (50, .int .i64 nx.length), (51, .int .i64 x.1)])
      (fun x w => x.1 ≤ nx.length ∧ OwnN w w5.heap.size 22 3 sv x.2 (gridP (nx.length * m) full (i * nx.length + x.1) []) ∧ Ext w5 w) (fun x => nx.length - x.1) (0, vs) (by repeat (first | exact trivial | refine ⟨rfl, ?_⟩)) ⟨Nat.zero_le _, hN, e7⟩ ?_
    rintro ⟨k, vs⟩ w8 ⟨hk, hN, e8⟩
    dsimp only at hk hN
    (repeat (first | (apply WL.pure; rfl; rfl; rfl) | (apply WL.nil) | (apply EX.thenN) | (apply CW.seq) | (apply CW.region)))
    refine CW.cond rfl (fun h => ?_) (fun h => ?_)
    · have hk' : k < nx.length := by simp at h; omega
      have hb2' := hb2.ext e8
      have hE8 := hE.trans e8
      have er : nx.getD k [] = nx[k] := by rw [List.getD_eq_getElem?_getD, List.getElem?_eq_getElem hk']; rfl
      obtain ⟨dm1, dm2⟩ := divmod (n := nx.length) (i := i) hk'
      (repeat (first | (apply WL.pure; rfl; rfl; rfl) | (apply WL.nil) | (apply EX.thenN) | (apply CW.seq) | (apply CW.region) | (apply WL.ldA; rfl; rfl; rfl; assumption; rfl) | (apply CW.block) | (apply CW.skip)))
      refine WL.call rfl rfl rfl (Fits_ok w8 (h3.up hE8) (h4.up hE8) k (lat s l i) (by omega) (by omega) hu64) ?_
      rintro _ w9 ⟨rfl, e9⟩
      have e8 := e8.trans e9
      have hN := hN.ext e9
      have hE8 := hE8.trans e9
      have hb2' := hb2'.ext e9
      (repeat (first | (apply WL.pure; rfl; rfl; rfl) | (apply WL.nil) | (apply EX.thenN)))
      refine CW.cond rfl (fun hf => ?_) (fun hf => ?_)
      · have hf : ¬ fitB mu no k (lat s l i) = true := by simpa using hf
        (repeat (first | (apply WL.add; rfl; rfl; rfl; rfl; omega; omega) | (apply WL.pure; rfl; rfl; rfl) | (apply WL.nil) | (apply EX.thenN) | (apply CW.region) | (apply CW.exit) | (apply EX.thenX) | (apply EX.inX)))
        refine EX.back (k + 1, vs) (by repeat (first | exact trivial | refine ⟨rfl, ?_⟩)) ⟨hk', ?_, e8⟩ (by dsimp only; omega)
        have e := gridP_next (N := nx.length * m) (full := full) (x0 := i * nx.length + k)
        rw [show full (i * nx.length + k) = [] by rw [hfull]; exact prodPart_no hk' hf] at e
        rw [e] at hN; exact hN
      have hf : fitB mu no k (lat s l i) = true := by simpa using hf
      (repeat (first | (apply WL.pure; rfl; rfl; rfl) | (apply EX.thenN) | (apply CW.seq) | (apply CW.region) | (apply WL.fa; rfl; rfl; rfl) | (apply WL.ld; rfl; rfl; rfl; assumption; rfl) | (apply CW.skip)))
      refine WL.elemN rfl rfl rfl rfl rfl (h2.at hE8) hk' (fun _ => rfl) (fun u q hu => ?_)
      obtain ⟨ro, rc, rfl, hrow⟩ := hu.sl
      have hrl := hrow.len63
      have hrT := hT _ (List.getElem_mem hk')
      (repeat (first | (apply WL.pure; rfl; rfl; rfl) | (apply WL.nil) | (apply EX.thenN) | (apply WL.lenS; rfl; rfl; rfl) | (apply CW.block)))
      refine CW.loop (S := Nat × List Raw) (fun x => [(2, .pointer (some ⟨w0.heap.size, 0, none⟩)), (3, .pointer (some ⟨w1.heap.size, 0, none⟩)), (5, .int .i64 nx.length), (6, .int .i64 m), (7, .slice wo (s ++ l).length wc), (8, sv), (9, .int .i64 i), (10, .int .u64 (lat s l i : Nat)), (11, .int .i64 nxt), (12, .int .i64 k), (35, .slice wo (s ++ l).length wc), (36, .int .i64 (s ++ l).length), (37, .int .i64 i), (50, .int .i64 nx.length), (51, .int .i64 k), (63, .slice ro nx[k].length rc), (64, .int .i64 nx[k].length), (65, .int .i64 x.1)])
        (fun x w => x.1 ≤ nx[k].length ∧ OwnN w w5.heap.size 22 3 sv x.2 (gridP (nx.length * m) full (i * nx.length + k) (prodPart nx mu no s l (i * nx.length + k) x.1)) ∧ Ext w5 w) (fun x => nx[k].length - x.1) (0, vs) (by repeat (first | exact trivial | refine ⟨rfl, ?_⟩)) ⟨Nat.zero_le _, by rw [prodPart_zero]; exact hN, e8⟩ ?_
      rintro ⟨j, vs⟩ w10 ⟨hj, hN, e10⟩
      dsimp only at hj hN
      (repeat (first | (apply WL.pure; rfl; rfl; rfl) | (apply WL.nil) | (apply EX.thenN) | (apply CW.seq) | (apply CW.region)))
      refine CW.cond rfl (fun h => ?_) (fun h => ?_)
      · have hj' : j < nx[k].length := by simp at h; omega
        have hto := hnx _ (List.getElem_mem hk') _ (List.getElem_mem hj')
        obtain ⟨to, eto⟩ := Int.eq_ofNat_of_zero_le hto.1
        have hto' : to < nx.length := by omega
        have hb2' := hb2.ext e10
        have hE10 := hE.trans e10
        have hxN := hixN i k him hk'
        have hpn := prodPart_next (mu := mu) (no := no) (s := s) (l := l) (i := i) hk' hj' hf
        rw [← hnx', eto, Int.toNat_natCast] at hpn
        have hlN : lat s l nxt < 18446744073709551616 := hlat _ hnxt
        have hrow10 : Sl w10 (Old w0) ro rc nx[k] := hrow.mono (fun b hb => (hE10.block b hb).trans (hE8.block b hb).symm) (fun _ h => h)
        (repeat (first | (apply EX.thenN) | (apply CW.seq) | (apply CW.region) | (apply CW.block) | (apply CW.skip)))
        refine WL.elemI rfl rfl rfl rfl rfl hrow10 hj' eto (fun _ => rfl) (fun q => ?_)
        (repeat (first | (apply WL.pure; rfl; rfl; rfl) | (apply QL.pure; rfl; rfl; rfl) | (apply WL.nil) | (apply EX.thenN) | (apply CW.seq) | (apply QL.ldA; rfl; rfl; rfl; assumption; rfl) | (apply CW.draw; exact mixed; kernel_rfl)))
        refine QL.elemN rfl rfl rfl rfl rfl (fun _ h => h) (hall.up e10) hnxt (fun _ => rfl) (fun u q hu => ?_)
        obtain ⟨rfl, _⟩ := hu.u64
        rw [lat_app hnxt]
        skip
        refine QL.call rfl rfl rfl (fun w hE => Fits_ok w (h3.up (hE10.trans hE)) (h4.up (hE10.trans hE)) to (lat s l nxt) (by omega) (by omega) hlN) ?_
        skip
        refine QL.nil (fun w11 e11 => ?_)
        have hN := hN.ext e11
        have e11 := e10.trans e11
        have hlen := hN.len
        rw [gridP_len] at hlen
        have hxv : i * nx.length + k < vs.length := by omega
        (repeat (apply EX.thenN))
        refine CW.cond rfl (fun hc => ?_) (fun hc => ?_)
        · rw [if_pos hc] at hpn
          have hm1 : (i : Int) * (nx.length : Int) ≤ 122880 := by have := hcast i k; omega
          have hm2 : (0 : Int) ≤ (i : Int) * (nx.length : Int) := by have := hcast i 0; omega
          have hxT := hixN nxt to (by omega) hto'
          have hm3 : (nxt : Int) * (nx.length : Int) ≤ 122880 := by have := hcast nxt to; omega
          have hm4 : (0 : Int) ≤ (nxt : Int) * (nx.length : Int) := by have := hcast nxt 0; omega
          have hin := hN.inn (i * nx.length + k) hxv (by rw [gridP_len]; exact hxN)
          rw [gridP_get hxN] at hin
          have hpl := prodPart_len (nx := nx) (mu := mu) (no := no) (s := s) (l := l) (x := i * nx.length + k) (j := j)
          rw [dm2, er] at hpl
          (repeat (first | (apply WL.add; rfl; rfl; rfl; rfl; omega; omega) | (apply WL.mul; rfl; rfl; rfl; rfl; omega; omega) | (apply WL.pure; rfl; rfl; rfl) | (apply CW.region)))
          rw [hcast i k]
          refine WL.elemON rfl rfl rfl rfl rfl hN.out hxv (fun _ => rfl) (fun u q hu => ?_)
          obtain ⟨rfl, _⟩ := hu.raw
          (repeat (first | (apply WL.add; rfl; rfl; rfl; rfl; omega; omega) | (apply WL.mul; rfl; rfl; rfl; rfl; omega; omega) | (apply WL.pure; rfl; rfl; rfl)))
          refine WL.app1 (F := Non) (yv := (nxt : Int) * (nx.length : Int) + (to : Int)) rfl rfl (fun _ => rfl) rfl rfl (fun _ => rfl) hin (Rd.mkInt _ _ _) e11.size (fun _ h => h.elim) (by decide) (by unfold maxLen; omega) (by omega) (fun v' w12 p ho12 hg12 hnb => ?_)
          skip
          have hmid := hN.mid hxv hg12
          refine WL.setN (u := v') (yv := ⟨v'⟩) rfl rfl rfl rfl hmid hxv (fun _ => rfl) (fun _ => rfl) (Rd.mkRaw _ _ _ ?_) (fun w13 q ho13 hg13 => ?_)
          · obtain ⟨a, b, rfl⟩ := ho12.val; rfl
          have hN13 := hN.set hxv ho12 hg12 hnb ho13 hg13
          rw [gridP_set hxN, ← hpn] at hN13
          have e13 : Ext w5 w13 := (e11.grown hg12 e11.size (fun b hb => (hin.lt b hb).1)).grown hg13 (Nat.le_trans e11.size hg12.size) (fun b hb => (hN.out.lt b hb).1)
          (repeat (first | (apply WL.add; rfl; rfl; rfl; rfl; omega; omega) | (apply WL.pure; rfl; rfl; rfl) | (apply WL.nil) | (apply EX.thenN) | (apply CW.region) | (apply EX.inN)))
          exact EX.back (j + 1, vs.set (i * nx.length + k) ⟨v'⟩) (by repeat (first | exact trivial | refine ⟨rfl, ?_⟩)) ⟨hj', hN13, e13⟩ (by dsimp only; omega)
        · rw [if_neg (by rw [hc]; simp), List.append_nil] at hpn
          (repeat (first | (apply WL.add; rfl; rfl; rfl; rfl; omega; omega) | (apply WL.pure; rfl; rfl; rfl) | (apply WL.nil) | (apply EX.thenN) | (apply CW.region) | (apply EX.inN) | (apply CW.skip)))
          refine EX.back (j + 1, vs) (by repeat (first | exact trivial | refine ⟨rfl, ?_⟩)) ⟨hj', ?_, e11⟩ (by dsimp only; omega)
          rw [hpn]; exact hN
      · obtain rfl : j = nx[k].length := by simp at h; omega
        (repeat (first | (apply WL.add; rfl; rfl; rfl; rfl; omega; omega) | (apply WL.pure; rfl; rfl; rfl) | (apply WL.nil) | (apply EX.thenN) | (apply CW.region) | (apply EX.inN) | (apply CW.exit) | (apply EX.thenX) | (apply EX.inX)))
        refine EX.back (k + 1, vs) (by repeat (first | exact trivial | refine ⟨rfl, ?_⟩)) ⟨hk', ?_, e10⟩ (by dsimp only; omega)
        have e := prodPart_full (nx := nx) (mu := mu) (no := no) (s := s) (l := l) (x := i * nx.length + k)
        rw [dm2, er] at e
        rw [e, ← hfull, gridP_next] at hN
        exact hN
    · obtain rfl : k = nx.length := by simp at h; omega
      (repeat (first | (apply WL.add; rfl; rfl; rfl; rfl; omega; omega) | (apply WL.pure; rfl; rfl; rfl) | (apply WL.nil) | (apply EX.thenN) | (apply CW.region) | (apply EX.inN) | (apply CW.exit) | (apply EX.thenX) | (apply EX.inX)))
      refine EX.back (i + 1, vs) (by repeat (first | exact trivial | refine ⟨rfl, ?_⟩)) ⟨him, ?_, e8⟩ (by dsimp only; omega)
      rw [show (i + 1) * nx.length = i * nx.length + nx.length by rw [Nat.add_mul]; omega]
      exact hN
  · have him : i = m := by simp at h; omega
    subst him
    (repeat (first | (apply WL.pure; rfl; rfl; rfl) | (apply WL.nil) | (apply EX.thenN) | (apply CW.seq) | (apply CW.region) | (apply CW.exit) | (apply EX.thenX) | (apply EX.inX) | (apply CW.ret)))
    refine EX.ret1 rfl rfl ⟨vs, ?_, hE.trans e7⟩
    rw [Nat.mul_comm i, gridP_done, hm] at hN
    have e : (List.range (nx.length * (s.length + l.length))).map full = prodG nx mu no s l := by rw [hfull]; rfl
    rw [e] at hN
    exact hN.low hE.size
end Go.Proofs.Ytllpfgcngokhnaa
/-
  Package auto: reached, round.
-/
set_option linter.unusedVariables false
set_option linter.unusedSimpArgs false
namespace Go.Proofs.Ytllpfgcngokhnaa
open Go.RowKit

def nzB (num : List Int) : List Bool := num.map fun x => decide (x ≠ 0)
structure NInv (g : Graph) (f num li todo : List Int) : Prop where
  ln : num.length = g.length
  nd : li.Nodup
  ok : okL g.length li
  val : ∀ k : Nat, k < g.length → num.getD k 0 = if (k : Int) ∈ li then (li.idxOf (k : Int) : Int) + 1 else 0
  rv : RInv g f (nzB num) todo
section
variable {g : Graph} {f num li todo : List Int}
theorem nzB_get {k : Nat} (h : k < num.length) : (nzB num).getD k false = decide (num.getD k 0 ≠ 0) := by
  unfold nzB
  rw [List.getD_eq_getElem?_getD, List.getD_eq_getElem?_getD, List.getElem?_map, List.getElem?_eq_getElem h]; rfl
theorem nzB_set {k : Nat} {v : Int} (hv : v ≠ 0) : nzB (num.set k v) = (nzB num).set k true := by
  unfold nzB; rw [List.map_set, decide_eq_true hv]
theorem NInv.start (hf : okL g.length f) : NInv g f (List.replicate g.length 0) [] f := by
  refine ⟨by simp, List.nodup_nil, (fun x hx => by cases hx), fun k hk => ?_, ?_⟩
  · rw [if_neg (by simp), List.getD_eq_getElem?_getD, List.getElem?_replicate, if_pos hk]; rfl
  · have : nzB (List.replicate g.length (0 : Int)) = List.replicate g.length false := by simp [nzB]
    rw [this]; exact RInv.start hf
theorem NInv.pass {x : Int} (h : NInv g f num li (todo ++ [x])) (hx : num.getD x.toNat 0 ≠ 0) : NInv g f num li todo := by
  have hxo := h.rv.ok x (by simp)
  refine ⟨h.ln, h.nd, h.ok, h.val, RInv.pass h.rv ?_⟩
  rw [nzB_get (by rw [h.ln]; omega)]
  simpa using hx
theorem NInv.mark {x : Int} (hg : okG g) (h : NInv g f num li (todo ++ [x])) (hx : num.getD x.toNat 0 = 0) : NInv g f (num.set x.toNat ((li.length : Int) + 1)) (li ++ [x]) (todo ++ g.getD x.toNat []) := by
  have hxo := h.rv.ok x (by simp)
  have hxn : ((x.toNat : Nat) : Int) = x := by omega
  have hxl : x.toNat < g.length := by omega
  have hni : x ∉ li := by
    intro hm
    have := h.val x.toNat hxl
    rw [hxn, if_pos hm, hx] at this
    omega
  refine ⟨by simpa using h.ln, ?_, ?_, fun k hk => ?_, ?_⟩
  · rw [List.nodup_append]
    refine ⟨h.nd, by simp, fun a ha b hb e => ?_⟩
    rw [List.mem_singleton] at hb; subst hb; subst e; exact hni ha
  · intro y hy
    rcases List.mem_append.1 hy with h1 | h1
    · exact h.ok y h1
    · rw [List.mem_singleton] at h1; subst h1; exact hxo
  · rw [getD_setI (by rw [h.ln]; exact hxl)]
    by_cases e : x.toNat = k
    · subst e
      rw [if_pos rfl, hxn, if_pos (by simp), List.idxOf_append, if_neg hni]
      simp
    · rw [if_neg e, h.val k hk]
      have hne : ¬ (k : Int) = x := by omega
      have hiff : ((k : Int) ∈ li ++ [x]) ↔ (k : Int) ∈ li := by
        rw [List.mem_append, List.mem_singleton]; exact ⟨fun h => h.resolve_right hne, .inl⟩
      by_cases hm : (k : Int) ∈ li
      · rw [if_pos hm, if_pos (hiff.2 hm), List.idxOf_append, if_pos hm]
      · rw [if_neg hm, if_neg (fun h => hm (hiff.1 h))]
  · rw [nzB_set (by omega)]; exact RInv.mark hg h.rv
theorem NInv.done (h : NInv g f num li []) (hg : okG g) (hf : okL g.length f) (x : Nat) : (x : Int) ∈ li ↔ Rch g f x := by
  have hr := h.rv.done
  constructor
  · intro hm
    have hx := h.ok _ hm
    have hxl : x < g.length := by omega
    have h1 : (nzB num).getD x false = true := by
      rw [nzB_get (by rw [h.ln]; exact hxl), h.val x hxl, if_pos hm]
      simp; omega
    exact h.rv.sound x h1
  · intro hm
    have hxl : x < g.length := by
      cases hm with
      | base hx => have := hf _ hx; omega
      | step _ hx => have := okG_row hg _ _ hx; omega
    have h1 : (rchB g f).getD x false = true := by
      rw [List.getD_eq_getElem?_getD, rchB_get hxl]; simp [hm]
    rw [← hr, nzB_get (by rw [h.ln]; exact hxl), h.val x hxl] at h1
    apply Classical.byContradiction
    intro hn
    rw [if_neg hn] at h1
    simp at h1
def smFull (g : Graph) (li : List Int) (i : Nat) : List Int := (g.getD (li.getD i 0).toNat []).map fun to => (li.idxOf to : Int)
theorem sm_ok (h : NInv g f num li []) (hg : okG g) (hf : okL g.length f) : RchdOK g f li ((List.range li.length).map (smFull g li)) := by
  refine ⟨h.done hg hf, fun x hx => (h.ok x hx).1, h.nd, by simp, fun i hi => ?_⟩
  rw [List.getD_eq_getElem?_getD, List.getElem?_map, List.getElem?_range hi]; rfl
end
theorem getDI_at {l : List Int} {j : Nat} (h : j < l.length) : l.getD j 0 = l[j] := by rw [List.getD_eq_getElem?_getD, List.getElem?_eq_getElem h]; rfl
theorem getDG_at {l : List (List Int)} {j : Nat} (h : j < l.length) : l.getD j [] = l[j] := by rw [List.getD_eq_getElem?_getD, List.getElem?_eq_getElem h]; rfl
theorem smFull_next {g : Graph} {li : List Int} {i j : Nat} (h : j < (g.getD (li.getD i 0).toNat []).length) : (smFull g li i).take (j + 1) = (smFull g li i).take j ++ [(li.idxOf (g.getD (li.getD i 0).toNat [])[j] : Int)] := by
  unfold smFull
  rw [← List.take_append_getElem (by simpa using h)]
  simp
theorem row_edges {g : Graph} : ∀ {i : Nat}, (h : i < g.length) → g[i].length ≤ edges g := by
  unfold edges
  induction g with
  | nil => intro i h; cases h
  | cons r g ih =>
    intro i h
    cases i with
    | zero => simp
    | succ i => have := ih (i := i) (by simpa using h); simp at this ⊢; omega
theorem nodup_len : ∀ (n : Nat) (l : List Nat), l.Nodup → (∀ x ∈ l, x < n) → l.length ≤ n
  | 0, l, _, h => by
    cases l with
    | nil => simp
    | cons x r => have := h x (by simp); omega
  | n + 1, l, hd, h => by
    by_cases hn : n ∈ l
    · have h1 := nodup_len n (l.erase n) (hd.erase n) (fun x hx => by
        have h2 := (List.Nodup.mem_erase_iff hd).1 hx
        have := h x h2.2; have := h2.1; omega)
      rw [List.length_erase_of_mem hn] at h1
      omega
    · have := nodup_len n l hd (fun x hx => by
        have h2 := h x hx
        have : x ≠ n := fun e => hn (e ▸ hx)
        omega)
      omega
theorem reached_ok (w0 : World) {ao fo : Option Addr} {cap fcap : Nat} {g : Graph} {f : List Int} (hs : Sl w0 (Old w0) ao cap g) (hf : Sl w0 (Old w0) fo fcap f)
    (hg : okG g) (hof : okL g.length f) (hT : f.length + edges g + g.length ≤ 1099511627776) :
    Rt Try.prog 109 [.slice ao g.length cap, .slice fo f.length fcap].toArray w0 fun r w' => ∃ v u li sm, r = .tuple ⟨[v, u]⟩ ∧ RchdOK g f li sm ∧ Rd w' (Old w') v li ∧ Rd w' (Old w') u sm ∧ Ext w0 w' := by
  have hm := hs.len63
  have hm2 := hf.len63
  refine Rt.enter2 Try.func109 Try.ntmps109 rfl rfl ?_
  (repeat (first | (apply WL.pure; rfl; rfl; rfl) | (apply WL.nil) | (apply EX.thenN) | (apply CW.seq) | (apply CW.region) | (apply WL.lenS; rfl; rfl; rfl)))
  refine WL.make (α := Int) rfl rfl rfl rfl (by omega) (by unfold maxLen; omega) (fun w1 ho1 hg1 => ?_)
  have hE1 : Ext w0 w1 := (Below.refl _ _).grown hg1 (Nat.le_refl _) (fun k h => by cases h)
  have hlt1 : w0.heap.size < w1.heap.size := (ho1.lt _ rfl).2.1
  (repeat (first | (apply WL.pure; rfl; rfl; rfl) | (apply WL.nil) | (apply EX.thenN) | (apply CW.seq) | (apply CW.region)))
  refine WL.call rfl rfl rfl (clone_int w1 (hf.up hE1) (by omega)) ?_
  rintro tv w2 ⟨ho2, hE2⟩
  (repeat (first | (apply WL.pure; rfl; rfl; rfl) | (apply WL.nil) | (apply EX.thenN) | (apply CW.seq) | (apply CW.region) | (apply CW.block)))
  generalize hsv : Value.slice (some ⟨w0.heap.size, 0, none⟩) g.length g.length = sv at *
  have hsb : sv.ownBlock = some w0.heap.size := by rw [← hsv]; rfl
  refine CW.loop (S := Value × Value × List Int × List Int × List Int) (fun s => [(0, .slice ao g.length cap), (6, sv), (7, s.1), (8, s.2.1)])
    (fun s w => NInv g f s.2.2.1 s.2.2.2.1 s.2.2.2.2 ∧ s.2.2.2.2.length + pot g (nzB s.2.2.1) ≤ f.length + edges g + g.length ∧ Own w w0.heap.size 3 Non sv s.2.2.1 ∧ Own w (w0.heap.size + 1) 3 Non s.1 s.2.2.2.2 ∧ Own w (w0.heap.size + 1) 3 Non s.2.1 s.2.2.2.1 ∧ Ext w0 w ∧ w1.heap.size ≤ w.heap.size ∧ (∀ k, s.1.ownBlock = some k → s.2.1.ownBlock = some k → False))
    (fun s => s.2.2.2.2.length + pot g (nzB s.2.2.1)) (tv, .slice none 0 0, List.replicate g.length 0, [], f) (by repeat (first | exact trivial | refine ⟨rfl, ?_⟩))
    ⟨NInv.start hof, ?_, ho1.extN hE2, ho2.low (by omega), Own.nil, hE1.trans hE2, hE2.size, fun k _ h => by cases h⟩ ?_
  · have e : nzB (List.replicate g.length (0 : Int)) = List.replicate g.length false := by simp [nzB]
    show f.length + pot g (nzB (List.replicate g.length 0)) ≤ _
    rw [e, pot_start]; omega
  rintro ⟨tv, lv, num, li, todo⟩ w ⟨hR, hpot, hso, hto, hlo, hB, hw1, hne⟩
  dsimp only at hR hpot hso hto hlo hne
  have hlil : li.length ≤ g.length := by
    have hnd : (li.map Int.toNat).Nodup := by
      rw [List.Nodup, List.pairwise_map]
      refine List.Pairwise.imp_of_mem ?_ hR.nd
      intro a b ha hb hab e
      have := hR.ok a ha; have := hR.ok b hb
      exact hab (by omega)
    have := nodup_len g.length (li.map Int.toNat) hnd (fun x hx => by
      obtain ⟨y, hy, rfl⟩ := List.mem_map.1 hx
      have := hR.ok y hy
      omega)
    simpa using this
  (repeat (first | (apply WL.pure; rfl; rfl; rfl) | (apply WL.nil) | (apply EX.thenN) | (apply CW.seq) | (apply CW.region) | (refine WL.lenO rfl rfl rfl (by assumption) ?_)))
  refine CW.cond rfl (fun h => ?_) (fun h => ?_)
  · simp at h
    have hlen : 0 < todo.length := by omega
    have hlast := take_last hlen
    (repeat (first | (apply WL.sub'; rfl; rfl; rfl; rfl; omega; omega) | (apply WL.pure; rfl; rfl; rfl) | (apply EX.thenN) | (apply CW.seq) | (apply CW.region) | (apply CW.block) | (apply CW.skip) | (refine WL.lenO rfl rfl rfl (by assumption) ?_)))
    refine WL.elemO rfl rfl rfl rfl rfl hto (by omega) (by omega) (fun _ => rfl) (fun u q hu => ?_)
    obtain rfl := hu.int
    have ei : ((todo.length : Int) - 1).toNat = todo.length - 1 := by omega
    simp only [ei]
    generalize hx : todo[todo.length - 1] = x at *
    generalize hrest : todo.take (todo.length - 1) = rest at *
    rw [hlast] at hR
    have hlr : todo.length = rest.length + 1 := by rw [hlast]; simp
    have hxo := hR.rv.ok x (by simp)
    (repeat (first | (apply WL.sub'; rfl; rfl; rfl; rfl; omega; omega) | (apply WL.pure; rfl; rfl; rfl) | (apply WL.nil) | (apply EX.thenN) | (apply CW.seq) | (apply CW.region) | (refine WL.lenO rfl rfl rfl (by assumption) ?_)))
    refine WL.cutHiO (α := Int) (todo.length - 1) (by omega) rfl rfl rfl rfl hto (by omega) (fun tv' hto' hb' => ?_)
    rw [hrest] at hto'
    have hne' : ∀ k, tv'.ownBlock = some k → lv.ownBlock = some k → False := fun k hk => hne k (by rw [← hb']; exact hk)
    (repeat (first | (apply WL.pure; rfl; rfl; rfl) | (apply WL.nil) | (apply EX.thenN) | (apply CW.seq) | (apply CW.region)))
    refine WL.elemO rfl rfl rfl rfl rfl hso (by omega) (by rw [hR.ln]; omega) (fun _ => rfl) (fun u q2 hu => ?_)
    obtain rfl := hu.int
    have hxl : x.toNat < num.length := by rw [hR.ln]; omega
    have hxd := getDI_at hxl
    (repeat (first | (apply WL.pure; rfl; rfl; rfl) | (apply WL.nil) | (apply EX.thenN)))
    refine CW.cond rfl (fun h2 => ?_) (fun h2 => ?_)
    · have hs0 : num.getD x.toNat 0 = 0 := by rw [hxd]; simpa using h2
      have hsz0 : (nzB num).getD x.toNat true = false := by
        have e1 := nzB_get hxl
        rw [hs0] at e1
        rw [List.getD_eq_getElem?_getD] at e1 ⊢
        cases e2 : (nzB num)[x.toNat]? with
        | none => exfalso; rw [List.getElem?_eq_none_iff] at e2; simp [nzB] at e2; omega
        | some b => rw [e2] at e1; simpa using e1
      have hpm := pot_set g (nzB num) x.toNat (by omega) hR.rv.len hsz0
      have hmk := NInv.mark hg hR hs0
      (repeat (first | (apply WL.pure; rfl; rfl; rfl) | (apply CW.seq) | (apply CW.region)))
      refine WL.app1 (F := Non) (yv := x) rfl rfl (fun _ => rfl) rfl rfl (fun _ => rfl) hlo (Rd.mkInt _ _ _) (by omega) (fun _ h => h.elim) (by decide) (by unfold maxLen; omega) (by omega) (fun lv' w3 p ho3 hg3 hnb => ?_)
      have hB3 : Ext w0 w3 := hB.grown hg3 hB.size (fun k hk => by have := (hlo.lt k hk).1; omega)
      have hso3 : Own w3 w0.heap.size 3 Non sv num := hso.keptN hg3 (fun k hk e => by rw [hsb] at hk; cases hk; have := (hlo.lt _ e.symm).1; omega)
      have hto3 : Own w3 (w0.heap.size + 1) 3 Non tv' rest := hto'.keptN hg3 (fun k hk e => hne' k hk e.symm)
      have hne3 : ∀ k, tv'.ownBlock = some k → lv'.ownBlock = some k → False := fun k h1 h2 => by
        rcases hnb k h2 with h3 | h3
        · exact hne' k h1 h3
        · have := (hto'.lt k h1).2.1; omega
      have hw3 := hg3.size
      (repeat (first | (apply WL.pure; rfl; rfl; rfl) | (apply WL.nil) | (apply EX.thenN) | (apply CW.seq) | (apply CW.region) | (refine WL.lenO rfl rfl rfl (by assumption) ?_)))
      refine WL.set rfl rfl rfl rfl hso3 (by omega) (by rw [hR.ln]; omega) (fun _ => rfl) (fun _ => rfl) (Rd.mkInt _ _ _) (fun w4 q3 hso4 hg4 => ?_)
      have hB4 : Ext w0 w4 := hB3.grown hg4 hB3.size (fun k hk => by rw [hsb] at hk; cases hk; exact Nat.le_refl _)
      have hto4 : Own w4 (w0.heap.size + 1) 3 Non tv' rest := hto3.keptN hg4 (fun k hk e => by rw [hsb] at e; cases e; have := (hto3.lt _ hk).1; omega)
      have hlo4 : Own w4 (w0.heap.size + 1) 3 Non lv' (li ++ [x]) := ho3.keptN hg4 (fun k hk e => by rw [hsb] at e; cases e; have := (ho3.lt _ hk).1; omega)
      have hw4 := hg4.size
      (repeat (first | (apply WL.pure; rfl; rfl; rfl) | (apply WL.nil) | (apply EX.thenN) | (apply CW.region)))
      have hxg : x.toNat < g.length := by omega
      refine WL.elem rfl rfl rfl rfl rfl (hs.at hB4) (by omega) (by omega) (fun _ => rfl) (fun u q4 hu => ?_)
      obtain ⟨ro, rcap, rfl, hrow⟩ := hu.sl
      have erow : g.getD x.toNat [] = g[x.toNat] := getDG_at hxg
      rw [erow] at hpm hmk
      skip
      refine WL.app (F := Non) rfl rfl rfl rfl hto4 hrow.srcN (by omega) (fun _ h => h.elim) (by unfold maxLen; omega) (by omega) (fun tv5 w5 ho5 hg5 hn5 => ?_)
      (repeat (first | (apply WL.pure; rfl; rfl; rfl) | (apply WL.nil) | (apply EX.inN)))
      have elen : (((li ++ [x]).length : Nat) : Int) = (li.length : Int) + 1 := by simp
      rw [elen] at hso4
      refine EX.back (tv5, lv', num.set x.toNat ((li.length : Int) + 1), li ++ [x], rest ++ g[x.toNat]) (by repeat (first | exact trivial | refine ⟨rfl, ?_⟩)) ⟨hmk, ?_, ?_, ho5, ?_, ?_, ?_, ?_⟩ ?_
      · dsimp only
        rw [nzB_set (by omega), List.length_append]; omega
      · exact hso4.keptN hg5 (fun k hk e => by rw [hsb] at hk; cases hk; have := (hto4.lt _ e.symm).1; omega)
      · exact hlo4.keptN hg5 (fun k hk e => hne3 k e.symm hk)
      · exact hB4.grown hg5 hB4.size (fun k hk => by have := (hto4.lt k hk).1; omega)
      · have := hg5.size; omega
      · intro k h1 h2
        rcases hn5 k h1 with h3 | h3
        · exact hne3 k h3 h2
        · have := (hlo4.lt k h2).2.1; omega
      · dsimp only
        rw [nzB_set (by omega), List.length_append]; omega
    · have hs0 : num.getD x.toNat 0 ≠ 0 := by rw [hxd]; simpa using h2
      (repeat (first | (apply EX.inN) | (apply CW.skip)))
      exact EX.back (tv', lv, num, li, rest) (by repeat (first | exact trivial | refine ⟨rfl, ?_⟩)) ⟨NInv.pass hR hs0, by dsimp only; omega, hso, hto', hlo, hB, hw1, hne'⟩ (by dsimp only; omega)
  · have htn : todo = [] := by simpa using h
    subst htn
    have hsm := sm_ok hR hg hof
    obtain ⟨lo, lc, rfl, hlis⟩ := hlo.oldN.sl
    (repeat (first | (apply WL.pure; rfl; rfl; rfl) | (apply EX.thenN) | (apply CW.seq) | (apply CW.region) | (apply WL.lenS; rfl; rfl; rfl) | (apply CW.exit) | (apply EX.thenX) | (apply EX.inX)))
    refine WL.make (α := Raw) rfl rfl rfl rfl (by omega) (by unfold maxLen; omega) (fun w3 ho3 hg3 => ?_)
    have hE3 : Ext w w3 := (Below.refl _ _).grown hg3 (Nat.le_refl _) (fun k h => by cases h)
    have hN3 : OwnN w3 w.heap.size 22 3 (.slice (some ⟨w.heap.size, 0, none⟩) li.length li.length) _ (List.replicate li.length ([] : List Int)) := OwnN.made ho3
    rw [← gridP_start (full := smFull g li)] at hN3
    have hnum : Sl w (Old w) (some ⟨w0.heap.size, 0, none⟩) g.length num := by
      obtain ⟨a, c, e, h⟩ := hso.oldN.sl
      rw [← hsv] at e
      obtain ⟨rfl, e2, rfl⟩ := Value.slice.inj e
      exact h
    have hlnum := hR.ln
    rw [← hsv]
    rw [← hlnum] at hnum
    clear ho3 hg3 hso hto hlo
    (repeat (first | (apply WL.pure; rfl; rfl; rfl) | (apply WL.nil) | (apply EX.thenN) | (apply CW.seq) | (apply CW.region) | (apply WL.lenS; rfl; rfl; rfl) | (apply CW.block)))
    refine CW.loop (S := Nat × List Raw) (fun s => [(0, .slice ao g.length cap), (6, .slice (some ⟨w0.heap.size, 0, none⟩) g.length g.length), (8, .slice lo li.length lc), (10, .slice (some ⟨w.heap.size, 0, none⟩) li.length li.length), (57, .slice lo li.length lc), (58, .int .i64 li.length), (59, .int .i64 s.1)])
      (fun s x => s.1 ≤ li.length ∧ OwnN x w.heap.size 22 3 (.slice (some ⟨w.heap.size, 0, none⟩) li.length li.length) s.2 (gridP li.length (smFull g li) s.1 []) ∧ Ext w x) (fun s => li.length - s.1) (0, _) (by repeat (first | exact trivial | refine ⟨rfl, ?_⟩)) ⟨Nat.zero_le _, hN3, hE3⟩ ?_
    rintro ⟨i, vs⟩ w4 ⟨hi, hN, e4⟩
    dsimp only at hi hN
    (repeat (first | (apply WL.pure; rfl; rfl; rfl) | (apply WL.nil) | (apply EX.thenN) | (apply CW.seq) | (apply CW.region)))
    refine CW.cond rfl (fun h => ?_) (fun h => ?_)
    · have hi' : i < li.length := by simp at h; omega
      have hlx := hR.ok _ (List.getElem_mem hi')
      obtain ⟨x, ex⟩ := Int.eq_ofNat_of_zero_le hlx.1
      have hxg : x < g.length := by omega
      have exn : (li.getD i 0).toNat = x := by rw [getDI_at hi', ex]; omega
      have erow : g.getD (li.getD i 0).toNat [] = g[x] := by rw [exn]; exact getDG_at hxg
      (repeat (first | (apply WL.pure; rfl; rfl; rfl) | (apply EX.thenN) | (apply CW.seq) | (apply CW.region) | (apply CW.block) | (apply CW.skip)))
      refine WL.elemI rfl rfl rfl rfl rfl (hlis.up e4) hi' ex (fun _ => rfl) (fun q => ?_)
      (repeat (first | (apply WL.pure; rfl; rfl; rfl) | (apply WL.nil) | (apply EX.thenN) | (apply CW.seq) | (apply CW.region)))
      refine WL.elemN rfl rfl rfl rfl rfl (hs.at (hB.trans e4)) hxg (fun _ => rfl) (fun u q hu => ?_)
      obtain ⟨ro, rc, rfl, hrow⟩ := hu.sl
      have hre := row_edges hxg
      have hrl := hrow.len63
      (repeat (first | (apply WL.pure; rfl; rfl; rfl) | (apply WL.nil) | (apply EX.thenN) | (apply WL.lenS; rfl; rfl; rfl) | (apply CW.block)))
      refine CW.loop (S := Nat × List Raw) (fun s => [(0, .slice ao g.length cap), (6, .slice (some ⟨w0.heap.size, 0, none⟩) g.length g.length), (8, .slice lo li.length lc), (10, .slice (some ⟨w.heap.size, 0, none⟩) li.length li.length), (11, .int .i64 i), (57, .slice lo li.length lc), (58, .int .i64 li.length), (59, .int .i64 i), (67, .slice ro g[x].length rc), (68, .int .i64 g[x].length), (69, .int .i64 s.1)])
        (fun s z => s.1 ≤ g[x].length ∧ OwnN z w.heap.size 22 3 (.slice (some ⟨w.heap.size, 0, none⟩) li.length li.length) s.2 (gridP li.length (smFull g li) i ((smFull g li i).take s.1)) ∧ Ext w z) (fun s => g[x].length - s.1) (0, vs) (by repeat (first | exact trivial | refine ⟨rfl, ?_⟩)) ⟨Nat.zero_le _, by rw [List.take_zero]; exact hN, e4⟩ ?_
      rintro ⟨j, vs⟩ w5 ⟨hj, hN, e5⟩
      dsimp only at hj hN
      have hrow5 : Sl w5 (Old w0) ro rc g[x] := hrow.mono (fun b hb => ((hB.trans e5).block b hb).trans ((hB.trans e4).block b hb).symm) (fun _ h => h)
      (repeat (first | (apply WL.pure; rfl; rfl; rfl) | (apply WL.nil) | (apply EX.thenN) | (apply CW.seq) | (apply CW.region)))
      refine CW.cond rfl (fun h => ?_) (fun h => ?_)
      · have hj' : j < g[x].length := by simp at h; omega
        have hto := hg _ (List.getElem_mem hxg) _ (List.getElem_mem hj')
        obtain ⟨to, eto⟩ := Int.eq_ofNat_of_zero_le hto.1
        have htol : to < g.length := by omega
        have htn : to < num.length := by omega
        (repeat (first | (apply EX.thenN) | (apply CW.seq) | (apply CW.region) | (apply CW.block) | (apply CW.skip)))
        refine WL.elemI rfl rfl rfl rfl rfl hrow5 hj' eto (fun _ => rfl) (fun q => ?_)
        (repeat (apply WL.pure; rfl; rfl; rfl))
        apply WL.nil
        apply EX.thenN
        have hlen := hN.len
        rw [gridP_len] at hlen
        have hiv : i < vs.length := by omega
        have hd := Ext.drew w5
        have hNd := hN.ext hd
        have hin := hNd.inn i hiv (by rw [gridP_len]; exact hi')
        rw [gridP_get hi'] at hin
        obtain ⟨oo, oc, hov, hout⟩ := hNd.out.slF (F' := fun b => b = w.heap.size) (fun _ h => h.elim) (fun g hg => by cases hg; rfl)
        obtain ⟨rfl, _, rfl⟩ := Value.slice.inj hov
        have hnumd : Sl (drew w5) (Old w) (some ⟨w0.heap.size, 0, none⟩) num.length num := hnum.at (e5.trans hd)
        have hnext := smFull_next (g := g) (li := li) (i := i) (j := j) (by rw [erow]; exact hj')
        have hgj : (g.getD (li.getD i 0).toNat [])[j]'(by rw [erow]; exact hj') = (to : Int) := by simp only [erow]; exact eto
        rw [hgj] at hnext
        have hmem : (to : Int) ∈ li := by
          refine (hR.done hg hof to).2 ?_
          have h1 := (hR.done hg hof x).1 (by rw [← ex]; exact List.getElem_mem hi')
          have h2 := Rch.step (x := (to : Int)) h1 (by rw [getDG_at hxg, ← eto]; exact List.getElem_mem hj')
          simpa using h2
        have hnv : num[to] = (li.idxOf (to : Int) : Int) + 1 := by rw [← getDI_at htn, hR.val to htol, if_pos hmem]
        have hsl : (smFull g li i).length = g[x].length := by unfold smFull; rw [List.length_map, erow]
        have hsz : w.heap.size < w5.heap.size := (hN.out.lt _ rfl).2.1
        have hszd := hd.size
        refine CW.drawE (fun z : World => ∀ b, b ≤ w.heap.size → z.heap[b]? = (drew w5).heap[b]?) [(0, true), (1, true), (2, true), (3, true), (4, true), (5, true), (6, true), (7, true), (8, true), (9, true), (10, true), (11, false), (12, false), (13, true)] 14 mixed (by kernel_rfl) (fun _ _ => rfl) ?_
        (repeat (apply HL.pure; rfl; rfl; rfl; rfl))
        rw [← hlen] at hout ⊢
        refine HL.elemK (w := drew w5) (F := fun b => b = w.heap.size) (fun z hz b hb => hz b (by rw [hb]; exact Nat.le_refl _)) rfl rfl rfl rfl rfl rfl rfl hout hiv (fun _ => rfl) (fun u q hu => ?_)
        obtain ⟨rfl, _⟩ := hu.raw
        rw [hlen]
        (repeat (apply HL.pure; rfl; rfl; rfl; rfl))
        rw [← hlnum]
        refine HL.elemK (w := drew w5) (F := Old w) (fun z hz b hb => hz b (Nat.le_of_lt hb)) rfl rfl rfl rfl rfl rfl rfl hnumd htn (fun _ => rfl) (fun u q hu => ?_)
        obtain rfl := hu.int
        rw [hlnum, hnv]
        have hix := List.idxOf_lt_length_iff.2 hmem
        (repeat (apply HL.sub'; rfl; rfl; rfl; rfl; rfl; omega; omega))
        rw [show (li.idxOf (to : Int) : Int) + 1 - 1 = (li.idxOf (to : Int) : Int) by omega]
        refine HL.app1 (bytes := 8) rfl rfl rfl rfl (fun _ => rfl) rfl rfl (fun _ => rfl) hin (Rd.mkInt _ _ _) (by omega) (fun _ h => h.elim) (by decide) (by rw [List.length_take]; unfold maxLen; omega) (by rw [List.length_take]; omega)
          (fun z hz b hb => hz.block b (by omega) (fun e => ?_)) (fun v' w6 p ho6 hg6 hnb => ?_)
        · rcases Nat.lt_or_ge b w.heap.size with h1 | h1
          · have := (hin.lt b e.symm).1; omega
          · obtain rfl : b = w.heap.size := by omega
            exact hNd.dio i hiv _ e.symm rfl
        rw [← hnext] at ho6
        have hmid := hNd.mid hiv hg6
        skip
        refine HL.setTail (yv := (⟨v'⟩ : Raw)) rfl rfl rfl rfl rfl rfl hmid hiv (fun _ => rfl) (fun _ => rfl) (Rd.mkRaw _ _ _ ?_) (fun w7 q ho7 hg7 => ?_)
        · obtain ⟨a, b, rfl⟩ := ho6.val; rfl
        have hN7 := hNd.set hiv ho6 hg6 hnb ho7 hg7
        rw [gridP_set hi'] at hN7
        have e5d := e5.trans hd
        have e7 : Ext w w7 := (e5d.grown hg6 e5d.size (fun b hb => (hin.lt b hb).1)).grown hg7 (Nat.le_trans e5d.size hg6.size) (fun b hb => (hNd.out.lt b hb).1)
        (repeat (first | (apply WL.add; rfl; rfl; rfl; rfl; omega; omega) | (apply WL.pure; rfl; rfl; rfl) | (apply WL.nil) | (apply EX.thenN) | (apply CW.region) | (apply EX.inN)))
        exact EX.back (j + 1, vs.set i ⟨v'⟩) (by repeat (first | exact trivial | refine ⟨rfl, ?_⟩)) ⟨hj', hN7, e7⟩ (by dsimp only; omega)
      · obtain rfl : j = g[x].length := by simp at h; omega
        (repeat (first | (apply WL.add; rfl; rfl; rfl; rfl; omega; omega) | (apply WL.pure; rfl; rfl; rfl) | (apply WL.nil) | (apply EX.thenN) | (apply CW.region) | (apply EX.inN) | (apply CW.exit) | (apply EX.thenX) | (apply EX.inX)))
        refine EX.back (i + 1, vs) (by repeat (first | exact trivial | refine ⟨rfl, ?_⟩)) ⟨hi', ?_, e5⟩ (by dsimp only; omega)
        have hsl : (smFull g li i).length = g[x].length := by unfold smFull; rw [List.length_map, erow]
        rw [← hsl, List.take_length, gridP_next] at hN
        exact hN
    · obtain rfl : i = li.length := by simp at h; omega
      rw [gridP_done] at hN
      (repeat (first | (apply WL.pure; rfl; rfl; rfl) | (apply WL.nil) | (apply EX.thenN) | (apply CW.seq) | (apply CW.region) | (apply CW.exit) | (apply EX.thenX) | (apply EX.inX) | (apply CW.ret)))
      exact EX.ret2 rfl rfl rfl ⟨_, _, li, _, rfl, hsm, (hlis.up e4).rd, hN.old, hB.trans e4⟩
end Go.Proofs.Ytllpfgcngokhnaa
/-
  slices.Index and slices.Contains at []bool.
-/
set_option linter.unusedVariables false
namespace Go.Proofs.Ytllpfgcngokhnaa
open Go.RowKit
theorem index_bool (w0 : World) {ao : Option Addr} {cap : Nat} {xs : List Bool} (x : Bool) (hs : Sl w0 (Old w0) ao cap xs) :
    Rt Try.prog 98 [.slice ao xs.length cap, .bool x].toArray w0 fun v w' => v = .int .i64 (idxOf (fun y => x == y) xs) ∧ Ext w0 w' := by
  have hm := hs.len63
  refine Rt.enter2 Try.func98 Try.ntmps98 rfl rfl ?_
  (repeat (first | (apply WL.pure; rfl; rfl; rfl) | (apply WL.nil) | (apply EX.thenN) | (apply CW.seq) | (apply CW.region) | (apply WL.lenS; rfl; rfl; rfl) | (apply CW.block)))
  refine CW.loop (S := Nat) (fun k => [(0, .slice ao xs.length cap), (1, .bool x), (7, .int .i64 xs.length), (8, .int .i64 k)])
    (fun k w => k ≤ xs.length ∧ Ext w0 w ∧ ∀ j (h : j < xs.length), j < k → (x == xs[j]) = false) (fun k => xs.length - k) 0 (by repeat (first | exact trivial | refine ⟨rfl, ?_⟩)) ⟨by omega, Ext.refl _, by omega⟩ ?_
  rintro k w ⟨hk, hB, hn⟩
  (repeat (first | (apply WL.pure; rfl; rfl; rfl) | (apply WL.nil) | (apply EX.thenN) | (apply CW.seq) | (apply CW.region)))
  refine CW.cond rfl (fun h => ?_) (fun h => ?_)
  · simp at h
    (repeat (first | (apply WL.pure; rfl; rfl; rfl) | (apply WL.nil) | (apply EX.thenN) | (apply CW.seq) | (apply CW.region) | (apply CW.block) | (apply CW.skip)))
    refine WL.elemB rfl rfl rfl rfl rfl (hs.at hB) h rfl (fun _ => rfl) (fun q => ?_)
    (repeat (first | (apply WL.nil) | (apply EX.thenN) | (apply WL.eqB; rfl; rfl; rfl; rfl)))
    refine CW.cond rfl (fun h' => ?_) (fun h' => ?_)
    · (repeat (first | (apply WL.pure; rfl; rfl; rfl) | (apply WL.nil) | (apply EX.thenN) | (apply CW.seq) | (apply CW.region) | (apply CW.ret) | (apply EX.thenR) | (apply EX.inR)))
      refine EX.ret1 rfl rfl ⟨?_, hB⟩
      rw [idxOf_here h hn h']
    · (repeat (first | (apply WL.add; rfl; rfl; rfl; rfl; omega; omega) | (apply WL.pure; rfl; rfl; rfl) | (apply WL.nil) | (apply EX.thenN) | (apply CW.region) | (apply EX.inN) | (apply CW.skip)))
      refine EX.back (k + 1) (by repeat (first | exact trivial | refine ⟨rfl, ?_⟩)) ⟨h, hB, ?_⟩ (by omega)
      intro j hj hlt
      by_cases e : j = k
      · subst e; exact h'
      · exact hn j hj (by omega)
  · simp at h
    (repeat (first | (apply WL.pure; rfl; rfl; rfl) | (apply WL.nil) | (apply EX.thenN) | (apply CW.seq) | (apply CW.region) | (apply CW.exit) | (apply EX.thenX) | (apply EX.inX) | (apply CW.ret)))
    refine EX.ret1 rfl rfl ⟨?_, hB⟩
    rw [idxOf_none (fun j hj => hn j hj (by omega))]
theorem contains_bool (w0 : World) {ao : Option Addr} {cap : Nat} {xs : List Bool} (x : Bool) (hs : Sl w0 (Old w0) ao cap xs) :
    Rt Try.prog 112 [.slice ao xs.length cap, .bool x].toArray w0 fun v w' => v = .bool (xs.contains x) ∧ Ext w0 w' := by
  refine Rt.enter2 Try.func112 Try.ntmps112 rfl rfl ?_
  (repeat (first | (apply WL.pure; rfl; rfl; rfl) | (apply WL.nil) | (apply EX.thenN) | (apply CW.seq) | (apply CW.region)))
  refine WL.call rfl rfl rfl (index_bool w0 x hs) ?_
  rintro v w' ⟨rfl, hB⟩
  (repeat (first | (apply WL.pure; rfl; rfl; rfl) | (apply WL.nil) | (apply EX.thenN) | (apply CW.ret)))
  refine EX.ret1 rfl rfl ⟨?_, hB⟩
  rw [← List.any_beq, ← idxOf_any]
end Go.Proofs.Ytllpfgcngokhnaa
/-
  The least way to write a word that goes round: plain part.
-/
set_option linter.unusedVariables false
set_option linter.unusedSimpArgs false
namespace Go.Proofs.Ytllpfgcngokhnaa
open Go.RowKit

/-- d is a period from n on -/
def Per (L : Nat → Nat) (n d : Nat) : Prop := ∀ i, n ≤ i → L (i + d) = L i
theorem Per.later {L : Nat → Nat} {n m d : Nat} (h : Per L n d) (hm : n ≤ m) : Per L m d := fun i hi => h i (by omega)
theorem Per.mul {L : Nat → Nat} {n d : Nat} (h : Per L n d) : ∀ k, Per L n (k * d)
  | 0 => fun i _ => by simp
  | k + 1 => fun i hi => by
    rw [Nat.add_mul, Nat.one_mul, ← Nat.add_assoc, h _ (by omega)]
    exact Per.mul h k i hi
theorem Per.sub {L : Nat → Nat} {n p q : Nat} (hp : Per L n p) (hq : Per L n q) (h : p ≤ q) : Per L n (q - p) := by
  intro i hi
  rw [← hp (i + (q - p)) (by omega)]
  have : i + (q - p) + p = i + q := by omega
  rw [this]
  exact hq i hi
theorem Per.gcd {L : Nat → Nat} {n : Nat} : ∀ (k p q : Nat), p + q ≤ k → Per L n p → Per L n q → Per L n (Nat.gcd p q)
  | 0, p, q, hk, hp, hq => by
    have e1 : p = 0 := by omega
    have e2 : q = 0 := by omega
    subst e1 e2
    exact hp
  | k + 1, p, q, hk, hp, hq => by
    by_cases hp0 : p = 0
    · subst hp0; rw [Nat.gcd_zero_left]; exact hq
    by_cases hq0 : q = 0
    · subst hq0; rw [Nat.gcd_zero_right]; exact hp
    by_cases h : p ≤ q
    · have := Per.gcd k p (q - p) (by omega) hp (hp.sub hq h)
      rwa [Nat.gcd_sub_self_right h] at this
    · have := Per.gcd k (p - q) q (by omega) (hq.sub hp (by omega)) hq
      rwa [Nat.gcd_sub_self_left (by omega)] at this
/-- an eventual period is one from where the word goes round on -/
theorem Per.early {L : Nat → Nat} {n m p d : Nat} (hp : Per L n p) (h0 : 0 < p) (hd : Per L m d) : Per L n d := by
  intro i hi
  have h1 := hp.mul m (i + d) (by omega)
  have h2 := hp.mul m i hi
  have hm : m ≤ m * p := Nat.le_mul_of_pos_right m h0
  have h3 := hd (i + m * p) (by omega)
  have e : i + m * p + d = i + d + m * p := by omega
  rw [e, h1, h2] at h3
  exact h3
/-- the least eventual period -/
def Least (L : Nat → Nat) (p : Nat) : Prop := ∀ d m, 0 < d → Per L m d → p ≤ d

theorem lat_perP {s l : List Nat} (h0 : 0 < l.length) : Per (lat s l) s.length l.length := by
  intro i hi
  unfold lat
  rw [if_neg (by omega), if_neg (by omega)]
  congr 1
  have : i + l.length - s.length = (i - s.length) + l.length := by omega
  rw [this, Nat.add_mod_right]
theorem lat_loopP {s l : List Nat} {j : Nat} (h : j < l.length) : lat s l (s.length + j) = l.getD j 0 := by
  unfold lat
  rw [if_neg (by omega)]
  congr 1
  rw [Nat.add_sub_cancel_left, Nat.mod_eq_of_lt h]
/-- two ways to write one word, both least, are one -/
structure LeastW (L : Nat → Nat) (s l : List Nat) : Prop where
  pos : 0 < l.length
  same : ∀ i, lat s l i = L i
  least : Least L l.length
  tight : ∀ h : 0 < s.length, s[s.length - 1]? ≠ l[l.length - 1]?
theorem leastW_len {L : Nat → Nat} {s l t m : List Nat} (h : LeastW L s l) (k : LeastW L t m) : l.length = m.length := by
  have h1 : Per L s.length l.length := fun i hi => by rw [← h.same, ← h.same]; exact lat_perP h.pos i hi
  have h2 : Per L t.length m.length := fun i hi => by rw [← k.same, ← k.same]; exact lat_perP k.pos i hi
  have a := h.least m.length t.length k.pos h2
  have b := k.least l.length s.length h.pos h1
  omega
theorem leastW_stem {L : Nat → Nat} {s l t m : List Nat} (h : LeastW L s l) (k : LeastW L t m) : t.length ≤ s.length := by
  apply Classical.byContradiction
  intro hlt
  have hl := leastW_len h k
  have hp := h.pos
  have ht : 0 < t.length := by omega
  apply k.tight ht
  have h1 : Per L s.length l.length := fun i hi => by rw [← h.same, ← h.same]; exact lat_perP h.pos i hi
  have e1 := h1 (t.length - 1) (by omega)
  have e2 : lat t m (t.length - 1) = t.getD (t.length - 1) 0 := by unfold lat; rw [if_pos (by omega)]
  have e3 : lat t m (t.length + (m.length - 1)) = m.getD (m.length - 1) 0 := lat_loopP (by omega)
  rw [← k.same, ← k.same, e2, show t.length - 1 + l.length = t.length + (m.length - 1) by omega, e3] at e1
  rw [List.getD_eq_getElem?_getD, List.getD_eq_getElem?_getD, List.getElem?_eq_getElem (by omega), List.getElem?_eq_getElem (by omega)] at e1
  rw [List.getElem?_eq_getElem (by omega), List.getElem?_eq_getElem (by omega)]
  simp only [Option.getD_some] at e1
  rw [e1]
theorem leastW_eq {L : Nat → Nat} {s l t m : List Nat} (h : LeastW L s l) (k : LeastW L t m) : s = t ∧ l = m := by
  have hl := leastW_len h k
  have hs : s.length = t.length := Nat.le_antisymm (leastW_stem k h) (leastW_stem h k)
  constructor
  · apply List.ext_getElem hs
    intro i h1 h2
    have e1 := h.same i
    have e2 := k.same i
    unfold lat at e1 e2
    rw [if_pos h1] at e1
    rw [if_pos h2] at e2
    rw [← e2] at e1
    rw [List.getD_eq_getElem?_getD, List.getD_eq_getElem?_getD, List.getElem?_eq_getElem h1, List.getElem?_eq_getElem h2] at e1
    exact e1
  · apply List.ext_getElem hl
    intro i h1 h2
    have e1 := h.same (s.length + i)
    have e2 := k.same (t.length + i)
    rw [lat_loopP h1] at e1
    rw [lat_loopP h2, ← hs] at e2
    rw [← e2] at e1
    rw [List.getD_eq_getElem?_getD, List.getD_eq_getElem?_getD, List.getElem?_eq_getElem h1, List.getElem?_eq_getElem h2] at e1
    exact e1

/- WHAT least COMPUTES -/
def turnsB (l : List Nat) (n : Nat) : Bool := (List.range l.length).all fun i => decide (i < n) || (l.getD i 0 == l.getD (i - n) 0)
/-- the first n from k on that fits -/
def perGo (l : List Nat) : Nat → Nat → List Nat
  | 0, _ => l
  | f + 1, n => if l.length % n = 0 ∧ turnsB l n = true then l.take n else perGo l f (n + 1)
def perL (l : List Nat) : List Nat := perGo l l.length 1
def rollGo : Nat → List Nat → List Nat → List Nat × List Nat
  | 0, s, l => (s, l)
  | f + 1, s, l => if 0 < s.length ∧ s.getD (s.length - 1) 0 = l.getD (l.length - 1) 0 then rollGo f (s.take (s.length - 1)) (l.getD (l.length - 1) 0 :: l.take (l.length - 1)) else (s, l)
def leastL (s l : List Nat) : List Nat × List Nat := rollGo s.length s (perL l)

theorem turns_per {s l : List Nat} {n : Nat} (hn : 0 < n) (hd : l.length % n = 0) (h0 : 0 < l.length) : turnsB l n = true ↔ Per (lat s l) s.length n := by
  have hnl : n ≤ l.length := Nat.le_of_dvd h0 (Nat.dvd_of_mod_eq_zero hd)
  constructor
  · intro h i hi
    unfold turnsB at h
    rw [List.all_eq_true] at h
    have hget : ∀ j, j < l.length → n ≤ j → l.getD j 0 = l.getD (j - n) 0 := by
      intro j hj hnj
      have := h j (List.mem_range.2 hj)
      simp only [Bool.or_eq_true, decide_eq_true_eq, beq_iff_eq] at this
      rcases this with h1 | h1
      · omega
      · exact h1
    -- by steps of n: a letter is that at the place's rest by n
    have hrest : ∀ j, j < l.length → l.getD j 0 = l.getD (j % n) 0 := by
      intro j
      induction j using Nat.strongRecOn with
      | _ j ih =>
        intro hj
        by_cases hjn : j < n
        · rw [Nat.mod_eq_of_lt hjn]
        · rw [hget j hj (by omega), ih (j - n) (by omega) (by omega), ← Nat.mod_eq_sub_mod (by omega)]
    unfold lat
    rw [if_neg (by omega), if_neg (by omega)]
    have hm1 : (i + n - s.length) % l.length < l.length := Nat.mod_lt _ h0
    have hm2 : (i - s.length) % l.length < l.length := Nat.mod_lt _ h0
    rw [hrest _ hm1, hrest _ hm2]
    congr 1
    have hdv : n ∣ l.length := Nat.dvd_of_mod_eq_zero hd
    rw [Nat.mod_mod_of_dvd _ hdv, Nat.mod_mod_of_dvd _ hdv]
    rw [show i + n - s.length = (i - s.length) + n by omega, Nat.add_mod_right]
  · intro h
    unfold turnsB
    rw [List.all_eq_true]
    intro i hi
    rw [List.mem_range] at hi
    simp only [Bool.or_eq_true, decide_eq_true_eq, beq_iff_eq]
    by_cases hin : i < n
    · exact .inl hin
    · right
      have := h (s.length + (i - n)) (by omega)
      rw [show s.length + (i - n) + n = s.length + i by omega, lat_loopP hi, lat_loopP (by omega)] at this
      exact this
theorem perGo_spec {s l : List Nat} (h0 : 0 < l.length) : ∀ (f n : Nat), 0 < n → n + f = l.length + 1 → (∀ d, 0 < d → d < n → ¬ (l.length % d = 0 ∧ turnsB l d = true)) →
    0 < (perGo l f n).length ∧ (∀ i, lat s (perGo l f n) i = lat s l i) ∧ Least (lat s l) (perGo l f n).length ∧ (perGo l f n).length ≤ l.length
  | 0, n, hn, hf, hno => by
    exfalso
    refine hno l.length h0 (by omega) ⟨Nat.mod_self _, ?_⟩
    rw [turns_per (s := s) h0 (Nat.mod_self _) h0]
    exact lat_perP h0
  | f + 1, n, hn, hf, hno => by
    by_cases hc : l.length % n = 0 ∧ turnsB l n = true
    · have e : perGo l (f + 1) n = l.take n := by rw [perGo, if_pos hc]
      have hper := (turns_per (s := s) hn hc.1 h0).1 hc.2
      have hdv : n ∣ l.length := Nat.dvd_of_mod_eq_zero hc.1
      have hnl : n ≤ l.length := Nat.le_of_dvd h0 hdv
      have hlen : (l.take n).length = n := by rw [List.length_take]; omega
      rw [e, hlen]
      refine ⟨hn, fun i => ?_, fun d m hd hm => ?_, hnl⟩
      · by_cases his : i < s.length
        · unfold lat; rw [if_pos his, if_pos his]
        · have hrest : ∀ q j, lat s l (s.length + (q * n + j)) = lat s l (s.length + j) := by
            intro q j
            have := hper.mul q (s.length + j) (by omega)
            rw [← this]; congr 1; omega
          have hlt : (i - s.length) % n < n := Nat.mod_lt _ hn
          have h1 : lat s (l.take n) i = (l.take n).getD ((i - s.length) % n) 0 := by unfold lat; rw [if_neg his, hlen]
          have h2 := hrest ((i - s.length) / n) ((i - s.length) % n)
          have hdm : (i - s.length) / n * n + (i - s.length) % n = i - s.length := by rw [Nat.mul_comm]; exact Nat.div_add_mod _ _
          rw [hdm, show s.length + (i - s.length) = i by omega, lat_loopP (by omega)] at h2
          rw [h1, h2, List.getD_eq_getElem?_getD, List.getElem?_take_of_lt hlt, ← List.getD_eq_getElem?_getD]
      · have hd' : Per (lat s l) s.length d := (lat_perP h0).early h0 hm
        have hg := Per.gcd _ d n (Nat.le_refl _) hd' hper
        have hgpos : 0 < Nat.gcd d n := Nat.gcd_pos_of_pos_left _ hd
        have hgl : l.length % Nat.gcd d n = 0 := Nat.mod_eq_zero_of_dvd (Nat.dvd_trans (Nat.gcd_dvd_right d n) hdv)
        have hgn : Nat.gcd d n ≤ n := Nat.le_of_dvd hn (Nat.gcd_dvd_right d n)
        have hgd : Nat.gcd d n ≤ d := Nat.le_of_dvd hd (Nat.gcd_dvd_left d n)
        have := hno (Nat.gcd d n) hgpos
        by_cases hlt : Nat.gcd d n < n
        · exact absurd ⟨hgl, (turns_per (s := s) hgpos hgl h0).2 hg⟩ (this hlt)
        · omega
    · have e : perGo l (f + 1) n = perGo l f (n + 1) := by rw [perGo, if_neg hc]
      rw [e]
      refine perGo_spec h0 f (n + 1) (by omega) (by omega) (fun d hd hdn => ?_)
      by_cases hde : d = n
      · subst hde; exact hc
      · exact hno d hd (by omega)
theorem lat_roll {s l : List Nat} (hs : 0 < s.length) (hl : 0 < l.length) (he : s.getD (s.length - 1) 0 = l.getD (l.length - 1) 0) (i : Nat) : lat (s.take (s.length - 1)) (l.getD (l.length - 1) 0 :: l.take (l.length - 1)) i = lat s l i := by
  have hls : (s.take (s.length - 1)).length = s.length - 1 := by rw [List.length_take]; omega
  have hll : (l.getD (l.length - 1) 0 :: l.take (l.length - 1)).length = l.length := by rw [List.length_cons, List.length_take]; omega
  unfold lat
  rw [hls, hll]
  by_cases h1 : i < s.length - 1
  · rw [if_pos h1, if_pos (by omega), List.getD_eq_getElem?_getD, List.getElem?_take_of_lt h1, ← List.getD_eq_getElem?_getD]
  · rw [if_neg h1]
    have hget : ∀ j, j < l.length → (l.getD (l.length - 1) 0 :: l.take (l.length - 1)).getD j 0 = if j = 0 then l.getD (l.length - 1) 0 else l.getD (j - 1) 0 := by
      intro j hj
      cases j with
      | zero => rfl
      | succ j =>
        rw [if_neg (by omega), List.getD_eq_getElem?_getD, List.getElem?_cons_succ, List.getElem?_take_of_lt (by omega), ← List.getD_eq_getElem?_getD]
        rfl
    by_cases h2 : i < s.length
    · have : i = s.length - 1 := by omega
      subst this
      rw [if_pos h2, Nat.sub_self, Nat.zero_mod, hget 0 hl, if_pos rfl, he]
    · rw [if_neg h2, hget _ (Nat.mod_lt _ hl)]
      have e : i - (s.length - 1) = (i - s.length) + 1 := by omega
      rw [e]
      have hm := Nat.mod_lt (i - s.length) hl
      rw [Nat.add_mod]
      by_cases h3 : (i - s.length) % l.length = l.length - 1
      · rw [h3]
        by_cases h1l : l.length = 1
        · rw [h1l]; simp
        · have : (l.length - 1 + 1 % l.length) % l.length = 0 := by rw [Nat.mod_eq_of_lt (show 1 < l.length by omega), show l.length - 1 + 1 = l.length by omega, Nat.mod_self]
          rw [this, if_pos rfl]
      · have h1l : 1 < l.length := by omega
        rw [Nat.mod_eq_of_lt h1l, Nat.mod_eq_of_lt (by omega), if_neg (by omega)]
        rfl
theorem rollGo_spec {L : Nat → Nat} : ∀ (f : Nat) (s l : List Nat), s.length ≤ f → 0 < l.length → (∀ i, lat s l i = L i) → Least L l.length → LeastW L (rollGo f s l).1 (rollGo f s l).2
  | 0, s, l, hf, h0, hs, hl => ⟨h0, hs, hl, fun h => by have h : 0 < s.length := h; omega⟩
  | f + 1, s, l, hf, h0, hs, hl => by
    by_cases hc : 0 < s.length ∧ s.getD (s.length - 1) 0 = l.getD (l.length - 1) 0
    · rw [rollGo, if_pos hc]
      have hll : (l.getD (l.length - 1) 0 :: l.take (l.length - 1)).length = l.length := by rw [List.length_cons, List.length_take]; omega
      refine rollGo_spec f _ _ (by rw [List.length_take]; omega) (by rw [hll]; exact h0) (fun i => ?_) (by rw [hll]; exact hl)
      rw [lat_roll hc.1 h0 hc.2]; exact hs i
    · rw [rollGo, if_neg hc]
      refine ⟨h0, hs, hl, fun h e => hc ⟨h, ?_⟩⟩
      rw [List.getD_eq_getElem?_getD, List.getD_eq_getElem?_getD, e]
theorem leastL_spec {s l : List Nat} (h0 : 0 < l.length) : LeastW (lat s l) (leastL s l).1 (leastL s l).2 := by
  have h := perGo_spec (s := s) h0 l.length 1 (by omega) (by omega) (fun d hd hd1 => by omega)
  exact rollGo_spec s.length s (perL l) (Nat.le_refl _) h.1 h.2.1 h.2.2.1
/-- one word, however it is written, has one least way to write it -/
theorem leastL_eq {s l t m : List Nat} (h0 : 0 < l.length) (h1 : 0 < m.length) (h : ∀ i, lat s l i = lat t m i) : leastL s l = leastL t m := by
  have a := leastL_spec (s := s) h0
  have b := leastL_spec (s := t) h1
  have e : lat s l = lat t m := funext h
  rw [e] at a
  have := leastW_eq a b
  exact Prod.ext this.1 this.2
/-- some letters of the loop are put into the stem -/
theorem lat_unroll {s l : List Nat} (h0 : 0 < l.length) {n : Nat} (hn : n ≤ l.length) (i : Nat) : lat (s ++ l.take n) (l.drop n ++ l.take n) i = lat s l i := by
  have hlen : (l.drop n ++ l.take n).length = l.length := by rw [List.length_append, List.length_drop, List.length_take]; omega
  have hst : (s ++ l.take n).length = s.length + n := by rw [List.length_append, List.length_take]; omega
  unfold lat
  rw [hst, hlen]
  by_cases h1 : i < s.length
  · rw [if_pos h1, if_pos (by omega), List.getD_eq_getElem?_getD, List.getElem?_append_left h1, ← List.getD_eq_getElem?_getD]
  · rw [if_neg h1]
    by_cases h2 : i < s.length + n
    · rw [if_pos h2, List.getD_eq_getElem?_getD, List.getElem?_append_right (by omega), List.getElem?_take_of_lt (by omega), ← List.getD_eq_getElem?_getD, Nat.mod_eq_of_lt (by omega)]
    · rw [if_neg h2]
      have hm := Nat.mod_lt (i - (s.length + n)) h0
      have e : i - s.length = (i - (s.length + n)) + n := by omega
      rw [e]
      generalize i - (s.length + n) = j at *
      have hj : (j + n) % l.length = (j % l.length + n) % l.length := (Nat.mod_add_mod j l.length n).symm
      rw [hj]
      generalize j % l.length = r at *
      by_cases h3 : r < l.length - n
      · rw [List.getD_eq_getElem?_getD, List.getElem?_append_left (by rw [List.length_drop]; exact h3), List.getElem?_drop, ← List.getD_eq_getElem?_getD, Nat.mod_eq_of_lt (by omega), Nat.add_comm]
      · rw [List.getD_eq_getElem?_getD, List.getElem?_append_right (by rw [List.length_drop]; omega), List.length_drop, List.getElem?_take_of_lt (by omega), ← List.getD_eq_getElem?_getD]
        rw [Nat.mod_eq_sub_mod (by omega), Nat.mod_eq_of_lt (by omega)]
        congr 1; omega
end Go.Proofs.Ytllpfgcngokhnaa
