import Derived.Test.YtllpfgcngokhnaaPtEmptyTakes17
/-
  Package auto: the closures of Both and Single, sets: walked.
-/
set_option linter.unusedVariables false
set_option linter.unusedSimpArgs false
namespace Go.Proofs.Ytllpfgcngokhnaa
open Go.RowKit

def rowP (mu no mu' no' : List Nat) (x : Int) (k : List Int) : List Pr2 := (k.filter fun y => decide (mu.getD x.toNat 0 &&& no'.getD y.toNat 0 = 0) && decide (no.getD x.toNat 0 &&& mu'.getD y.toNat 0 = 0)).map fun y => (x, y)
theorem crossP_next {mu no mu' no' : List Nat} {l k : List Int} {i : Nat} (h : i < l.length) : crossP mu no mu' no' (l.take (i + 1)) k = crossP mu no mu' no' (l.take i) k ++ rowP mu no mu' no' l[i] k := by
  unfold crossP
  rw [List.take_add_one, List.getElem?_eq_getElem h, List.flatMap_append]
  simp [rowP]
theorem filter_one {p : Int → Bool} {f : Int → Pr2} {y : Int} : ([y].filter p).map f = if p y = true then [f y] else [] := by
  cases h : p y <;> simp [List.filter, h]
theorem rowP_next {mu no mu' no' : List Nat} {x : Int} {k : List Int} {j : Nat} (h : j < k.length) : rowP mu no mu' no' x (k.take (j + 1)) = rowP mu no mu' no' x (k.take j) ++ if (decide (mu.getD x.toNat 0 &&& no'.getD k[j].toNat 0 = 0) && decide (no.getD x.toNat 0 &&& mu'.getD k[j].toNat 0 = 0)) = true then [(x, k[j])] else [] := by
  unfold rowP
  rw [List.take_add_one, List.getElem?_eq_getElem h, List.filter_append, List.map_append]
  congr 1
  exact filter_one (p := fun y => decide (mu.getD x.toNat 0 &&& no'.getD y.toNat 0 = 0) && decide (no.getD x.toNat 0 &&& mu'.getD y.toNat 0 = 0)) (f := fun y => (x, y))
theorem rowP_len {mu no mu' no' : List Nat} {x : Int} {k : List Int} : (rowP mu no mu' no' x k).length ≤ k.length := by
  unfold rowP
  rw [List.length_map]
  exact List.length_filter_le _ _
theorem crossP_len {mu no mu' no' : List Nat} {k : List Int} : ∀ l : List Int, (crossP mu no mu' no' l k).length ≤ l.length * k.length
  | [] => by simp [crossP]
  | x :: r => by
    have h1 := crossP_len (mu := mu) (no := no) (mu' := mu') (no' := no') (k := k) r
    have h2 := rowP_len (mu := mu) (no := no) (mu' := mu') (no' := no') (x := x) (k := k)
    unfold crossP at h1 ⊢
    unfold rowP at h2
    rw [List.flatMap_cons, List.length_append, List.length_cons, Nat.succ_mul]
    omega
theorem mkgetG {l : List (List Int)} {j : Nat} (h : j < l.length) : l.getD j [] = l[j] := by rw [List.getD_eq_getElem?_getD, List.getElem?_eq_getElem h]; rfl
theorem wgetN' {l : List Nat} {j : Nat} (h : j < l.length) : l.getD j 0 = l[j] := by rw [List.getD_eq_getElem?_getD, List.getElem?_eq_getElem h]; rfl
set_option maxHeartbeats 1000000 in
theorem cross_ok (w0 : World) {b2 b3 : Nat} {F : Nat → Prop} {m1 m2 n1 n2 lo ko : Option Addr} {d1 d2 f1 f2 lc kc : Nat} {x0 x1 x4 y0 y1 y4 : Value} {mu no mu' no' : List Nat} {l k : List Int} {N N' : Nat}
    (hb2 : Blk w0 b2 28 [x0, x1, .slice m1 mu.length d1, .slice m2 no.length d2, x4]) (hb3 : Blk w0 b3 28 [y0, y1, .slice n1 mu'.length f1, .slice n2 no'.length f2, y4])
    (hm1 : Sl w0 F m1 d1 mu) (hm2 : Sl w0 F m2 d2 no) (hn1 : Sl w0 F n1 f1 mu') (hn2 : Sl w0 F n2 f2 no') (hl : Sl w0 F lo lc l) (hk : Sl w0 F ko kc k) (hF : ∀ b, F b → b < w0.heap.size)
    (e1 : mu.length = N) (e2 : no.length = N) (e3 : mu'.length = N') (e4 : no'.length = N') (okl : okL N l) (okk : okL N' k) (hln : l.length * k.length + k.length ≤ 2199023255552) :
    Rt Try.prog 58 [.slice lo l.length lc, .slice ko k.length kc, .pointer (some ⟨b2, 0, none⟩), .pointer (some ⟨b3, 0, none⟩)].toArray w0 fun v w' => Own w' w0.heap.size 105 Non v (crossP mu no mu' no' l k) ∧ Ext w0 w' := by
  have hl63 := hl.len63
  have hk63 := hk.len63
  refine Rt.enter4 Try.func58 Try.ntmps58 rfl rfl ?_
  (repeat (first | (apply WL.pure; rfl; rfl; rfl) | (apply WL.nil) | (apply EX.thenN) | (apply CW.seq) | (apply CW.region) | (apply WL.lenS; rfl; rfl; rfl) | (apply CW.block)))
  refine CW.loop (S := Nat × Value) (fun s => [(1, .slice ko k.length kc), (2, .pointer (some ⟨b2, 0, none⟩)), (3, .pointer (some ⟨b3, 0, none⟩)), (7, s.2), (12, .slice lo l.length lc), (13, .int .i64 l.length), (14, .int .i64 s.1)])
    (fun s w => s.1 ≤ l.length ∧ Own w w0.heap.size 105 Non s.2 (crossP mu no mu' no' (l.take s.1) k) ∧ Ext w0 w) (fun s => l.length - s.1) (0, .slice none 0 0) (by repeat (first | exact trivial | refine ⟨rfl, ?_⟩)) ⟨Nat.zero_le _, Own.nil, Ext.refl _⟩ ?_
  rintro ⟨i, ov⟩ w1 ⟨hi, ho, e⟩
  dsimp only at hi ho e ⊢
  (repeat (first | (apply WL.pure; rfl; rfl; rfl) | (apply WL.nil) | (apply EX.thenN) | (apply CW.seq) | (apply CW.region)))
  refine CW.cond rfl (fun h => ?_) (fun h => ?_)
  · have hi' : i < l.length := by simp only [decide_eq_true_eq] at h; omega
    have hx0 := okl _ (List.getElem_mem hi')
    have hnx := crossP_next (mu := mu) (no := no) (mu' := mu') (no' := no') (k := k) hi'
    have hcl := crossP_len (mu := mu) (no := no) (mu' := mu') (no' := no') (k := k) (l.take i)
    have hcl2 : (l.take i).length * k.length ≤ l.length * k.length := Nat.mul_le_mul_right _ (by rw [List.length_take]; omega)
    clear h
    (repeat (first | (apply EX.thenN) | (apply CW.seq) | (apply CW.region) | (apply CW.block) | (apply CW.skip)))
    refine WL.elemN (i := i) rfl rfl rfl rfl rfl (hl.up0 e hF) hi' (fun _ => rfl) (fun u q hu => ?_)
    rw [hu.int]
    clear hu
    obtain ⟨x, hx⟩ : ∃ x : Nat, l[i] = (x : Int) := ⟨(l[i]).toNat, by omega⟩
    rw [hx] at hnx hx0 ⊢
    generalize crossP mu no mu' no' (l.take i) k = C at *
    have hxN : x < N := by omega
    (repeat (first | (apply WL.pure; rfl; rfl; rfl) | (apply WL.nil) | (apply EX.thenN) | (apply CW.seq) | (apply CW.region) | (apply WL.lenS; rfl; rfl; rfl) | (apply CW.block)))
    refine CW.loop (S := Nat × Value) (fun s => [(1, .slice ko k.length kc), (2, .pointer (some ⟨b2, 0, none⟩)), (3, .pointer (some ⟨b3, 0, none⟩)), (7, s.2), (9, .int .i64 x), (12, .slice lo l.length lc), (13, .int .i64 l.length), (14, .int .i64 i), (18, .slice ko k.length kc), (19, .int .i64 k.length), (20, .int .i64 s.1)])
      (fun s w => s.1 ≤ k.length ∧ Own w w0.heap.size 105 Non s.2 (C ++ rowP mu no mu' no' x (k.take s.1)) ∧ Ext w0 w) (fun s => k.length - s.1) (0, ov) (by repeat (first | exact trivial | refine ⟨rfl, ?_⟩)) ⟨Nat.zero_le _, by simpa [rowP] using ho, e⟩ ?_
    clear ho e
    rintro ⟨j, rv⟩ w2 ⟨hj, ho, e⟩
    dsimp only at hj ho e ⊢
    (repeat (first | (apply WL.pure; rfl; rfl; rfl) | (apply WL.nil) | (apply EX.thenN) | (apply CW.seq) | (apply CW.region)))
    refine CW.cond rfl (fun h => ?_) (fun h => ?_)
    · have hj' : j < k.length := by simp only [decide_eq_true_eq] at h; omega
      have hy0 := okk _ (List.getElem_mem hj')
      have hrn := rowP_next (mu := mu) (no := no) (mu' := mu') (no' := no') (x := (x : Int)) hj'
      have hrl := rowP_len (mu := mu) (no := no) (mu' := mu') (no' := no') (x := (x : Int)) (k := k.take j)
      rw [List.length_take] at hrl
      clear h
      have hb2 := hb2.ext e
      have hb3 := hb3.ext e
      (repeat (first | (apply EX.thenN) | (apply CW.seq) | (apply CW.region) | (apply CW.block) | (apply CW.skip)))
      refine WL.elemN (i := j) rfl rfl rfl rfl rfl (hk.up0 e hF) hj' (fun _ => rfl) (fun u q hu => ?_)
      rw [hu.int]
      clear hu
      obtain ⟨y, hy⟩ : ∃ y : Nat, k[j] = (y : Int) := ⟨(k[j]).toNat, by omega⟩
      rw [hy] at hrn hy0 ⊢
      have hyN : y < N' := by omega
      rw [Int.toNat_natCast, Int.toNat_natCast] at hrn
      generalize hR : rowP mu no mu' no' (x : Int) (k.take (j + 1)) = R1 at *
      generalize rowP mu no mu' no' (x : Int) (k.take j) = R0 at *
      have hF2 : ∀ b, F b → b < w2.heap.size := fun b hb => Nat.lt_of_lt_of_le (hF b hb) e.size
      (repeat (first | (apply WL.pure; rfl; rfl; rfl) | (apply QL.pure; rfl; rfl; rfl) | (apply WL.nil) | (apply EX.thenN) | (apply CW.seq) | (apply QL.fa; rfl; rfl; rfl) | (apply QL.ld; rfl; rfl; rfl; assumption; rfl) | (apply CW.draw; exact mixed; kernel_rfl)))
      refine QL.elemN (i := x) rfl rfl rfl rfl rfl hF2 (hm1.up0 e hF) (show x < mu.length by omega) (fun _ => rfl) (fun u q hu => ?_)
      obtain ⟨rfl, g1⟩ := hu.u64
      rw [← wgetN'] at g1 ⊢
      (repeat (first | (apply QL.pure; rfl; rfl; rfl) | (apply QL.fa; rfl; rfl; rfl) | (apply QL.ld; rfl; rfl; rfl; assumption; rfl)))
      refine QL.elemN (i := y) rfl rfl rfl rfl rfl hF2 (hn2.up0 e hF) (show y < no'.length by omega) (fun _ => rfl) (fun u q hu => ?_)
      obtain ⟨rfl, g2⟩ := hu.u64
      rw [← wgetN'] at g2 ⊢
      refine QL.andN rfl rfl rfl rfl g1 g2 ?_
      generalize mu.getD x 0 &&& no'.getD y 0 = z1 at *
      clear g1 g2 hu
      by_cases hz1 : z1 = 0
      case neg =>
        have hz : (((z1 : Nat) : Int) == 0) = false := by
          have : (z1 : Int) ≠ 0 := by omega
          simpa using this
        rw [decide_eq_false hz1, Bool.false_and, if_neg (by decide), List.append_nil] at hrn
        (repeat (apply QL.pure; rfl; rfl; rfl))
        rw [hz]
        (repeat (first | (apply QL.pure; rfl; rfl; rfl) | (apply QL.pass; rfl; rfl)))
        refine QL.nil fun w3 e3 => ?_
        (repeat (first | (apply WL.add; rfl; rfl; rfl; rfl; omega; omega) | (apply WL.pure; rfl; rfl; rfl) | (apply WL.nil) | (apply EX.thenN) | (apply CW.region) | (apply EX.inN) | (apply CW.condF; rfl) | (apply CW.skip)))
        exact EX.back (j + 1, rv) (by repeat (first | exact trivial | refine ⟨rfl, ?_⟩)) ⟨hj', by dsimp only; rw [hR, hrn]; exact ho.extN e3, e.trans e3⟩ (by dsimp only; omega)
      have hz : (((z1 : Nat) : Int) == 0) = true := by subst hz1; rfl
      rw [decide_eq_true hz1, Bool.true_and] at hrn
      (repeat (apply QL.pure; rfl; rfl; rfl))
      rw [hz]
      (repeat (first | (apply QL.pure; rfl; rfl; rfl) | (apply QL.fa; rfl; rfl; rfl) | (apply QL.ld; rfl; rfl; rfl; assumption; rfl)))
      refine QL.elemN (i := x) rfl rfl rfl rfl rfl hF2 (hm2.up0 e hF) (show x < no.length by omega) (fun _ => rfl) (fun u q hu => ?_)
      obtain ⟨rfl, g1⟩ := hu.u64
      rw [← wgetN'] at g1 ⊢
      (repeat (first | (apply QL.pure; rfl; rfl; rfl) | (apply QL.fa; rfl; rfl; rfl) | (apply QL.ld; rfl; rfl; rfl; assumption; rfl)))
      refine QL.elemN (i := y) rfl rfl rfl rfl rfl hF2 (hn1.up0 e hF) (show y < mu'.length by omega) (fun _ => rfl) (fun u q hu => ?_)
      obtain ⟨rfl, g2⟩ := hu.u64
      rw [← wgetN'] at g2 ⊢
      refine QL.andN rfl rfl rfl rfl g1 g2 ?_
      generalize no.getD x 0 &&& mu'.getD y 0 = z2 at *
      clear g1 g2 hu
      by_cases hz2 : z2 = 0
      case neg =>
        have hz : (((z2 : Nat) : Int) == 0) = false := by
          have : (z2 : Int) ≠ 0 := by omega
          simpa using this
        rw [decide_eq_false hz2, if_neg (by decide), List.append_nil] at hrn
        (repeat (apply QL.pure; rfl; rfl; rfl))
        rw [hz]
        skip
        refine QL.nil fun w3 e3 => ?_
        (repeat (first | (apply WL.add; rfl; rfl; rfl; rfl; omega; omega) | (apply WL.pure; rfl; rfl; rfl) | (apply WL.nil) | (apply EX.thenN) | (apply CW.region) | (apply EX.inN) | (apply CW.condF; rfl) | (apply CW.skip)))
        exact EX.back (j + 1, rv) (by repeat (first | exact trivial | refine ⟨rfl, ?_⟩)) ⟨hj', by dsimp only; rw [hR, hrn]; exact ho.extN e3, e.trans e3⟩ (by dsimp only; omega)
      have hz : (((z2 : Nat) : Int) == 0) = true := by subst hz2; rfl
      rw [decide_eq_true hz2, if_pos rfl] at hrn
      (repeat (apply QL.pure; rfl; rfl; rfl))
      rw [hz]
      skip
      refine QL.nil fun w3 e3 => ?_
      have ho := ho.extN e3
      have e := e.trans e3
      (repeat (first | (apply WL.pure; rfl; rfl; rfl) | (apply EX.thenN) | (apply CW.region) | (apply CW.condT; rfl)))
      refine WL.build rfl rfl rfl rfl ?_
      refine WL.app1 (α := Int × Int) (F := Non) (bytes := 16) (yv := ((x : Int), (y : Int))) rfl rfl (fun _ => rfl) rfl rfl (fun _ => rfl) ho (Rd.mkPr (c1 := [.int .i64 x]) (c2 := [.int .i64 y]) (rd_mkInt _ _ _) (rd_mkInt _ _ _)) e.size (fun _ h => h.elim) (by decide) (by unfold maxLen; rw [List.length_append]; omega) (by rw [List.length_append]; omega) (fun rv' w4 q ho4 hg4 hnb4 => ?_)
      rw [List.append_assoc, ← hrn, ← hR] at ho4
      (repeat (first | (apply WL.add; rfl; rfl; rfl; rfl; omega; omega) | (apply WL.pure; rfl; rfl; rfl) | (apply WL.nil) | (apply EX.thenN) | (apply CW.region) | (apply EX.inN)))
      exact EX.back (j + 1, rv') (by repeat (first | exact trivial | refine ⟨rfl, ?_⟩)) ⟨hj', ho4, Below.grown e hg4 e.size (fun g hg => (ho.lt g hg).1)⟩ (by dsimp only; omega)
    have hje : j = k.length := by simp only [decide_eq_false_iff_not] at h; omega
    subst hje
    rw [List.take_length, ← hnx] at ho
    (repeat (first | (apply WL.add; rfl; rfl; rfl; rfl; omega; omega) | (apply WL.pure; rfl; rfl; rfl) | (apply WL.nil) | (apply EX.thenN) | (apply CW.region) | (apply EX.inN) | (apply CW.exit) | (apply EX.thenX) | (apply EX.inX)))
    exact EX.back (i + 1, rv) (by repeat (first | exact trivial | refine ⟨rfl, ?_⟩)) ⟨hi', ho, e⟩ (by dsimp only; omega)
  have hie : i = l.length := by simp only [decide_eq_false_iff_not] at h; omega
  subst hie
  rw [List.take_length] at ho
  (repeat (first | (apply WL.pure; rfl; rfl; rfl) | (apply WL.nil) | (apply EX.thenN) | (apply CW.seq) | (apply CW.region) | (apply CW.exit) | (apply EX.thenX) | (apply EX.inX) | (apply CW.ret)))
  exact EX.ret1 rfl rfl ⟨ho, e⟩
theorem both3_ok (w : World) (p : Pr2) : Rt Try.prog 62 [prV p].toArray w fun v w' => v = .int .i64 p.1 ∧ Ext w w' := by
  refine Rt.enter1 Try.func62 Try.ntmps62 rfl rfl ?_
  (repeat (first | (apply CW.seq) | (apply CW.region)))
  refine WL.boxB rfl rfl rfl fun w1 hb1 e1 => ?_
  (repeat (first | (apply WL.pure; rfl; rfl; rfl) | (apply WL.nil) | (apply EX.thenN) | (apply CW.seq) | (apply CW.region) | (apply WL.fa; rfl; rfl; rfl) | (apply WL.ld; rfl; rfl; rfl; assumption; rfl) | (apply CW.ret)))
  exact EX.ret1 rfl rfl ⟨rfl, e1⟩
theorem both4_ok (w : World) (p : Pr2) : Rt Try.prog 63 [prV p].toArray w fun v w' => v = .int .i64 p.2 ∧ Ext w w' := by
  refine Rt.enter1 Try.func63 Try.ntmps63 rfl rfl ?_
  (repeat (first | (apply CW.seq) | (apply CW.region)))
  refine WL.boxB rfl rfl rfl fun w1 hb1 e1 => ?_
  (repeat (first | (apply WL.pure; rfl; rfl; rfl) | (apply WL.nil) | (apply EX.thenN) | (apply CW.seq) | (apply CW.region) | (apply WL.fa; rfl; rfl; rfl) | (apply WL.ld; rfl; rfl; rfl; assumption; rfl) | (apply CW.ret)))
  exact EX.ret1 rfl rfl ⟨rfl, e1⟩
/-- a variable that holds an automaton -/
def AuB (w : World) (b : Nat) (A : LAuto) : Prop :=
  ∃ (a1 : Option Addr) (c1 : Nat) (a2 : Option Addr) (c2 : Nat) (a3 : Option Addr) (c3 : Nat) (a4 : Option Addr) (c4 : Nat) (a5 : Option Addr) (c5 : Nat), Blk w b 28 [.slice a1 A.1.length c1, .slice a2 A.2.1.length c2, .slice a3 A.2.2.1.length c3, .slice a4 A.2.2.2.1.length c4, .slice a5 A.2.2.2.2.length c5] ∧
    Sl w (Old w) a1 c1 A.1 ∧ Sl w (Old w) a2 c2 A.2.1 ∧ Sl w (Old w) a3 c3 A.2.2.1 ∧ Sl w (Old w) a4 c4 A.2.2.2.1 ∧ Sl w (Old w) a5 c5 A.2.2.2.2
theorem AuB.up {w w' : World} {b : Nat} {A : LAuto} (h : AuB w b A) (hE : Ext w w') : AuB w' b A := by
  obtain ⟨a1, c1, a2, c2, a3, c3, a4, c4, a5, c5, hb, h1, h2, h3, h4, h5⟩ := h
  exact ⟨a1, c1, a2, c2, a3, c3, a4, c4, a5, c5, hb.ext hE, h1.up hE, h2.up hE, h3.up hE, h4.up hE, h5.up hE⟩
instance iMk10 : IsC Try.prog 106 1 false := IsC.of (by kernel_rfl) Try.underlying106 rfl
instance iMk11 : IsZC Try.prog 106 [.nilFunc] := IsZC.of (z := .nilFunc) (by kernel_rfl) rfl
abbrev crossV (b2 b3 : Nat) : Value := .func (.func 58) #[] #[.pointer (some ⟨b2, 0, none⟩), .pointer (some ⟨b3, 0, none⟩)]
theorem both2_ok (w0 : World) {b2 b3 b8 : Nat} {A B : LAuto} {p : Pr2} (hA : AuB w0 b2 A) (hB : AuB w0 b3 B) (hb8 : Blk w0 b8 106 [crossV b2 b3]) (okA : OkA A) (okB : OkA B) (p1 : 0 ≤ p.1 ∧ p.1 < A.2.1.length) (p2 : 0 ≤ p.2 ∧ p.2 < B.2.1.length)
    (sA : ∀ j, (A.2.1.getD j []).length ≤ 1048576) (sB : ∀ j, (B.2.1.getD j []).length ≤ 1048576) :
    Rt Try.prog 60 [prV p, .pointer (some ⟨b8, 0, none⟩), .pointer (some ⟨b2, 0, none⟩), .pointer (some ⟨b3, 0, none⟩)].toArray w0 fun v w' => Own w' w0.heap.size 105 Non v (bothNext A B p) ∧ Ext w0 w' := by
  obtain ⟨a1, c1, a2, c2, a3, c3, a4, c4, a5, c5, hb2, h1, h2, h3, h4, h5⟩ := hA
  obtain ⟨k1, d1, k2, d2, k3, d3, k4, d4, k5, d5, hb3, g1, g2, g3, g4, g5⟩ := hB
  obtain ⟨x, hx⟩ : ∃ x : Nat, p.1 = (x : Int) := ⟨p.1.toNat, by omega⟩
  obtain ⟨y, hy⟩ : ∃ y : Nat, p.2 = (y : Int) := ⟨p.2.toNat, by omega⟩
  obtain ⟨pa, pb⟩ := p
  dsimp only at hx hy p1 p2
  subst hx hy
  refine Rt.enter4 Try.func60 Try.ntmps60 rfl rfl ?_
  (repeat (first | (apply CW.seq) | (apply CW.region)))
  refine WL.boxB rfl rfl rfl fun w1 hb1 e1 => ?_
  have hb2 := hb2.ext e1
  have hb3 := hb3.ext e1
  have hb8 := hb8.ext e1
  (repeat (first | (apply WL.pure; rfl; rfl; rfl) | (apply WL.nil) | (apply EX.thenN) | (apply CW.seq)))
  have hSE : ∀ z, (fun z : World => Ext w1 z) z → Ext w1 z := fun _ h => h
  refine CW.drawH (fun z : World => Ext w1 z) [(0, true), (1, true), (2, true), (3, true), (4, true), (5, true), (6, true), (7, true), (8, true), (9, true), (10, true), (11, true), (12, true), (13, false), (14, true)] mixed (by kernel_rfl) (Ext.drew w1) ?_
  (repeat (first | (refine HL.fa rfl rfl rfl rfl ?_) | (refine HL.ld (by assumption) rfl rfl rfl rfl (by assumption) rfl ?_)))
  refine HL.elemN (k := x) hSE rfl rfl rfl rfl rfl rfl rfl (fun _ h => h) (h2.up e1) (show x < A.2.1.length by omega) (fun _ => rfl) (fun u q hu => ?_)
  obtain ⟨lo, lc, rfl, hl⟩ := hu.sl
  (repeat (first | (refine HL.fa rfl rfl rfl rfl ?_) | (refine HL.ld (by assumption) rfl rfl rfl rfl (by assumption) rfl ?_)))
  refine HL.elemN (k := y) hSE rfl rfl rfl rfl rfl rfl rfl (fun _ h => h) (g2.up e1) (show y < B.2.1.length by omega) (fun _ => rfl) (fun u q hu => ?_)
  obtain ⟨ko, kc, rfl, hk⟩ := hu.sl
  have eA := (mkgetG (show x < A.2.1.length by omega)).symm
  have eB := (mkgetG (show y < B.2.1.length by omega)).symm
  have sx := sA x
  have sy := sB y
  have ox := okG_row okA.nx x
  have oy := okG_row okB.nx y
  have hX : bothNext A B ((x : Int), (y : Int)) = crossP A.2.2.1 A.2.2.2.1 B.2.2.1 B.2.2.2.1 (A.2.1.getD x []) (B.2.1.getD y []) := rfl
  rw [hX]
  rw [eA] at hl ⊢
  rw [eB] at hk ⊢
  generalize A.2.1.getD x [] = l at *
  generalize B.2.1.getD y [] = k at *
  have hD := Ext.drew w1
  have hD1 := e1.trans hD
  have hmul : l.length * k.length ≤ 1048576 * 1048576 := Nat.mul_le_mul sx sy
  refine HL.mut rfl (WL.callV (fv := []) rfl rfl rfl rfl (cross_ok (drew w1) (F := Old (drew w1)) (hb2.ext hD) (hb3.ext hD) (h3.up hD1) (h4.up hD1) (g3.up hD1) (g4.up hD1) (hl.up hD) (hk.up hD) (fun _ h => h) okA.mu okA.no okB.mu okB.no ox oy (by omega)) ?_)
  rintro v w2 ⟨ho, e2⟩
  have x2 : Ext w1 w2 := hD.trans e2
  refine WL.nil (EX.mut x2 ?_)
  (repeat (first | (apply HL.pure; rfl; rfl; rfl; rfl) | (apply HL.nil)))
  (repeat (first | (apply EX.thenN) | (apply CW.ret)))
  exact EX.ret1 rfl rfl ⟨ho.low hD1.size, e1.trans x2⟩
end Go.Proofs.Ytllpfgcngokhnaa
/-
  Package auto: sets: walked.
-/
set_option linter.unusedVariables false
set_option linter.unusedSimpArgs false
namespace Go.Proofs.Ytllpfgcngokhnaa
open Go.RowKit

theorem setP_next {ps : List Pr2} {of : Pr2 → Int} {F : List Int} {j : Nat} (h : j < ps.length) : setP (ps.take (j + 1)) of F = setP (ps.take j) of F ++ if of ps[j] ∈ F then [(j : Int)] else [] := by
  unfold setP
  have h1 : (ps.take (j + 1)).length = j + 1 := by rw [List.length_take]; omega
  have h2 : (ps.take j).length = j := by rw [List.length_take]; omega
  have g : ∀ k i, i < k → (ps.take k).getD i (0, 0) = ps.getD i (0, 0) := fun k i h => by
    rw [List.getD_eq_getElem?_getD, List.getD_eq_getElem?_getD, List.getElem?_take_of_lt h]
  rw [h1, h2, List.range_succ, List.filter_append, List.map_append]
  congr 1
  · congr 1
    refine List.filter_congr fun i hi => ?_
    rw [List.mem_range] at hi
    rw [g _ _ (by omega), g _ _ hi]
  · rw [List.filter_cons, List.filter_nil, g _ _ (by omega)]
    have : ps.getD j (0, 0) = ps[j] := by rw [List.getD_eq_getElem?_getD, List.getElem?_eq_getElem h]; rfl
    rw [this]
    by_cases hm : of ps[j] ∈ F
    · rw [decide_eq_true hm, if_pos rfl, if_pos hm]; rfl
    · rw [decide_eq_false hm, if_neg (by decide), if_neg hm]; rfl
theorem setP_nil {of : Pr2 → Int} {F : List Int} : setP [] of F = [] := rfl
theorem setP_len {ps : List Pr2} {of : Pr2 → Int} {F : List Int} : (setP ps of F).length ≤ ps.length := by
  unfold setP
  rw [List.length_map]
  exact Nat.le_trans (List.length_filter_le _ _) (by rw [List.length_range]; exact Nat.le_refl _)
set_option maxHeartbeats 1000000 in
theorem sets_ok (w0 : World) {N sb B2 n : Nat} {m : Value} {lo fo : Option Addr} {lc fc : Nat} {x1 x2 x3 x4 nv : Value} {ps : List Pr2} {vs : List Raw} {xs Fr : List (List Int)} {ofv : Value} {of : Pr2 → Int}
    (hb : Blk w0 sb 110 [m, .slice lo ps.length lc, x1, x2, x3, x4, nv]) (hlo : Sl w0 (Fz w0 (fun b => b = sb ∨ nv.ownBlock = some b)) lo lc ps) (hn : Own w0 B2 22 Non nv vs) (hB : B2 ≤ w0.heap.size)
    (hNw : N ≤ w0.heap.size) (inn : InnR w0 (fun b => b = sb ∨ nv.ownBlock = some b ∨ b < N) vs xs) (hsb : ∀ g, nv.ownBlock = some g → g ≠ sb) (hfr : Sl w0 (Fz w0 (fun b => b = sb ∨ nv.ownBlock = some b)) fo fc Fr) (hok : ∀ r ∈ Fr, okL n r) (hnn : n ≤ 1099511627776)
    (hof : ∀ w p, p ∈ ps → FnV Try.prog ofv [prV p] w fun v w' => v = .int .i64 (of p) ∧ Ext w w') (hin : ∀ p ∈ ps, 0 ≤ of p ∧ of p < n) (hps : ps.length ≤ 2049) (hF1 : xs.length + Fr.length ≤ 4096) :
    Rt Try.prog 61 [.pointer (some ⟨sb, 0, none⟩), .slice fo Fr.length fc, .int .i64 (n : Int), ofv].toArray w0 fun v w' => ∃ nv' vs', Blk w' sb 110 [m, .slice lo ps.length lc, x1, x2, x3, x4, nv'] ∧
      Own w' B2 22 Non nv' vs' ∧ InnR w' (fun b => b = sb ∨ nv'.ownBlock = some b ∨ b < N) vs' (xs ++ Fr.map (setP ps of)) ∧ Chg (fun b => b = sb ∨ nv.ownBlock = some b) w0 w' ∧ ∀ g, nv'.ownBlock = some g → nv.ownBlock = some g ∨ w0.heap.size ≤ g := by
  have hfl := hfr.len63
  have hsb0 := hb.lt
  refine Rt.enter4 Try.func61 Try.ntmps61 rfl rfl ?_
  (repeat (first | (apply WL.pure; rfl; rfl; rfl) | (apply WL.nil) | (apply EX.thenN) | (apply CW.seq) | (apply CW.region) | (apply WL.lenS; rfl; rfl; rfl) | (apply CW.block)))
  refine CW.loop (S := Nat × Value × List Raw) (fun s => [(0, .pointer (some ⟨sb, 0, none⟩)), (2, .int .i64 n), (3, ofv), (14, .slice fo Fr.length fc), (15, .int .i64 Fr.length), (16, .int .i64 s.1)])
    (fun s w => s.1 ≤ Fr.length ∧ Blk w sb 110 [m, .slice lo ps.length lc, x1, x2, x3, x4, s.2.1] ∧ Own w B2 22 Non s.2.1 s.2.2 ∧ InnR w (fun b => b = sb ∨ s.2.1.ownBlock = some b ∨ b < N) s.2.2 (xs ++ (Fr.take s.1).map (setP ps of)) ∧
      Chg (fun b => b = sb ∨ nv.ownBlock = some b) w0 w ∧ ∀ g, s.2.1.ownBlock = some g → nv.ownBlock = some g ∨ w0.heap.size ≤ g)
    (fun s => Fr.length - s.1) (0, nv, vs) (by repeat (first | exact trivial | refine ⟨rfl, ?_⟩)) ⟨Nat.zero_le _, hb, hn, by simpa using inn, Chg.refl _ _, fun g hg => .inl hg⟩ ?_
  rintro ⟨i, cv, cs⟩ w1 ⟨hi, hb1, hn1, in1, hC1, nw1⟩
  dsimp only at hi hb1 hn1 in1 hC1 nw1 ⊢
  have z1 := hC1.size
  (repeat (first | (apply WL.pure; rfl; rfl; rfl) | (apply WL.nil) | (apply EX.thenN) | (apply CW.seq) | (apply CW.region)))
  refine CW.cond rfl (fun h => ?_) (fun h => ?_)
  · have hi' : i < Fr.length := by simp only [decide_eq_true_eq] at h; omega
    clear h
    have hM1 : ∀ b, (b = sb ∨ cv.ownBlock = some b) → (b = sb ∨ nv.ownBlock = some b) ∨ w0.heap.size ≤ b := fun b h => by
      rcases h with h | h
      · exact .inl (.inl h)
      · exact (nw1 b h).imp .inr id
    have hlo1 := hlo.fz hC1 hM1
    have hfr1 := hfr.fz hC1 hM1
    have hcsl : cs.length = xs.length + i := by rw [in1.len, List.length_append, List.length_map, List.length_take]; omega
    have hfi := hok _ (List.getElem_mem hi')
    have hnx : (Fr.take (i + 1)).map (setP ps of) = (Fr.take i).map (setP ps of) ++ [setP ps of Fr[i]] := by
      rw [List.take_add_one, List.getElem?_eq_getElem hi', List.map_append]; rfl
    have hcs1 : ∀ g, cv.ownBlock = some g → g ≠ sb := fun g hg => by
      rcases nw1 g hg with h | h
      · exact hsb g h
      · omega
    (repeat (first | (apply EX.thenN) | (apply CW.seq) | (apply CW.region) | (apply CW.block) | (apply CW.skip)))
    refine WL.elemN (i := i) rfl rfl rfl rfl rfl hfr1 hi' (fun _ => rfl) (fun u q hu => ?_)
    obtain ⟨ro, rc, rfl, hr⟩ := hu.sl
    clear hu
    generalize Fr[i] = F at *
    (repeat (first | (apply WL.pure; rfl; rfl; rfl) | (apply WL.nil) | (apply EX.thenN) | (apply CW.seq) | (apply CW.region)))
    refine WL.call rfl rfl rfl (member_ok w1 hr (fun b hb => hb.1) n hnn hfi) ?_
    rintro mv w2 ⟨hm, e2⟩
    obtain ⟨mo, mc, rfl, hms⟩ := hm.oldN.sl
    have hml : (memL n F).length = n := memL_len
    have hb2 := hb1.ext e2
    have z2 := e2.size
    have hlo2 := (hlo1.old'.up e2)
    have hll := hlo2.len63
    (repeat (first | (apply WL.pure; rfl; rfl; rfl) | (apply WL.nil) | (apply EX.thenN) | (apply CW.seq) | (apply CW.region) | (apply WL.lenS; rfl; rfl; rfl) | (apply WL.fa; rfl; rfl; rfl) | (apply WL.nck; rfl; rfl; rfl) | (apply WL.ld; rfl; rfl; rfl; assumption; rfl) | (apply CW.block)))
    refine CW.loop (S := Nat × Value) (fun s => [(0, .pointer (some ⟨sb, 0, none⟩)), (2, .int .i64 n), (3, ofv), (10, .slice mo (memL n F).length mc), (11, s.2), (14, .slice fo Fr.length fc), (15, .int .i64 Fr.length), (16, .int .i64 i), (26, .slice lo ps.length lc), (27, .int .i64 ps.length), (28, .int .i64 s.1)])
      (fun s w => s.1 ≤ ps.length ∧ Own w w2.heap.size 3 Non s.2 (setP (ps.take s.1) of F) ∧ Ext w2 w) (fun s => ps.length - s.1) (0, .slice none 0 0) (by repeat (first | exact trivial | refine ⟨rfl, ?_⟩)) ⟨Nat.zero_le _, Own.nil, Ext.refl _⟩ ?_
    rintro ⟨j, rv⟩ w3 ⟨hj, ho, e3⟩
    dsimp only at hj ho e3 ⊢
    (repeat (first | (apply WL.pure; rfl; rfl; rfl) | (apply WL.nil) | (apply EX.thenN) | (apply CW.seq) | (apply CW.region)))
    refine CW.cond rfl (fun h => ?_) (fun h => ?_)
    · have hj' : j < ps.length := by simp only [decide_eq_true_eq] at h; omega
      clear h
      have hsn := setP_next (of := of) (F := F) hj'
      have hsl := setP_len (ps := ps.take j) (of := of) (F := F)
      rw [List.length_take] at hsl
      have hpm := List.getElem_mem hj'
      have hip := hin _ hpm
      (repeat (first | (apply WL.pure; rfl; rfl; rfl) | (apply EX.thenN) | (apply CW.seq) | (apply CW.region) | (apply CW.block) | (apply CW.skip)))
      refine WL.elemN (i := j) rfl rfl rfl rfl rfl (hlo2.up e3) hj' (fun _ => rfl) (fun u q hu => ?_)
      rw [rd_pr2 hu]
      clear hu
      generalize ps[j] = p at *
      skip
      refine WL.alloc rfl rfl (fun w4 hb4 e4 => ?_)
      (repeat (apply WL.pure; rfl; rfl; rfl))
      refine WL.st rfl rfl rfl hb4 rfl rfl (ones_of rfl) (fun w5 hb5 hg5 => ?_)
      have e5 : Ext w3 w5 := Below.grown e4 hg5 e4.size (fun g hg => by cases hg; exact Nat.le_refl _)
      have z5 := e5.size
      have ho5 := ho.extN e5
      clear hg5 e4 hb4
      (repeat (first | (apply WL.pure; rfl; rfl; rfl) | (apply WL.nil) | (apply EX.thenN) | (apply CW.seq) | (apply CW.region) | (apply WL.ldA; rfl; rfl; rfl; assumption; rfl)))
      refine WL.callF rfl rfl rfl rfl (hof w5 p hpm) ?_
      rintro _ w6 ⟨rfl, e6⟩
      have e36 := e5.trans e6
      have e26 := e3.trans e36
      obtain ⟨k, hk⟩ : ∃ k : Nat, of p = (k : Int) := ⟨(of p).toNat, by omega⟩
      have hkn : k < n := by omega
      rw [hk] at hsn ⊢
      have ho6 := ho5.extN e6
      skip
      refine WL.elemB rfl rfl rfl rfl rfl (hms.up e26) (i := k) (by rw [hml]; exact hkn) (memL_get hkn) (fun _ => rfl) (fun q => ?_)
      by_cases hmm : (k : Int) ∈ F
      · rw [if_pos hmm] at hsn
        rw [decide_eq_true hmm]
        (repeat (first | (apply WL.pure; rfl; rfl; rfl) | (apply WL.nil) | (apply EX.thenN) | (apply CW.region) | (apply CW.condT; rfl)))
        refine WL.app1 (α := Int) (F := Non) (bytes := 8) (yv := (j : Int)) rfl rfl (fun _ => rfl) rfl rfl (fun _ => rfl) ho6 (Rd.mkInt _ _ _) (by have := e26.size; omega) (fun _ h => h.elim) (by decide) (by unfold maxLen; omega) (by omega) (fun rv' w7 q ho7 hg7 hnb7 => ?_)
        rw [← hsn] at ho7
        have e7 : Ext w2 w7 := Below.grown e26 hg7 e26.size (fun g hg => (ho6.lt g hg).1)
        (repeat (first | (apply WL.add; rfl; rfl; rfl; rfl; omega; omega) | (apply WL.pure; rfl; rfl; rfl) | (apply WL.nil) | (apply EX.thenN) | (apply CW.region) | (apply EX.inN)))
        exact EX.back (j + 1, rv') (by repeat (first | exact trivial | refine ⟨rfl, ?_⟩)) ⟨hj', ho7, e7⟩ (by dsimp only; omega)
      · rw [if_neg hmm, List.append_nil] at hsn
        rw [decide_eq_false hmm]
        rw [← hsn] at ho6
        (repeat (first | (apply WL.add; rfl; rfl; rfl; rfl; omega; omega) | (apply WL.pure; rfl; rfl; rfl) | (apply WL.nil) | (apply EX.thenN) | (apply CW.region) | (apply EX.inN) | (apply CW.condF; rfl) | (apply CW.skip)))
        exact EX.back (j + 1, rv) (by repeat (first | exact trivial | refine ⟨rfl, ?_⟩)) ⟨hj', ho6, e26⟩ (by dsimp only; omega)
    have hje : j = ps.length := by simp only [decide_eq_false_iff_not] at h; omega
    subst hje
    rw [List.take_length] at ho
    clear h
    have e13 := e2.trans e3
    have hb3 := hb1.ext e13
    have hn3 := hn1.extN e13
    obtain ⟨so, sc, rfl⟩ := ho.val
    have z3 := e3.size
    have hlr := fun g hg => ho.lt g hg
    have hln := fun g hg => hn1.lt g hg
    obtain ⟨cvo, cvc, rfl⟩ := hn1.val
    (repeat (first | (apply WL.pure; rfl; rfl; rfl) | (apply EX.thenN) | (apply CW.region) | (apply WL.fa; rfl; rfl; rfl) | (apply WL.nck; rfl; rfl; rfl) | (apply WL.ld; rfl; rfl; rfl; assumption; rfl) | (apply CW.exit) | (apply EX.thenX) | (apply EX.inX)))
    refine WL.app1 (α := Raw) (F := Non) (bytes := 24) (yv := (⟨.slice so (setP ps of F).length sc⟩ : Raw)) rfl rfl (fun _ => rfl) rfl rfl (fun _ => rfl) hn3 (Rd.mkRaw _ _ _ rfl) (by omega) (fun _ h => h.elim) (by decide) (by unfold maxLen; omega) (by omega) (fun nv' w4 q ho4 hg4 hnb4 => ?_)
    obtain ⟨nvo, nvc, rfl⟩ := ho4.val
    have hb4 := hb3.kept hg4 (fun e => hcs1 _ e.symm rfl)
    have z4 := hg4.size
    (repeat (first | (apply WL.fa; rfl; rfl; rfl) | (apply WL.nck; rfl; rfl; rfl)))
    refine WL.st rfl rfl rfl hb4 rfl rfl (ones_of rfl) (fun w5 hb5 hg5 => ?_)
    have z5 := hg5.size
    have hnsb : ∀ g, (Value.slice nvo (cs ++ [(⟨.slice so (setP ps of F).length sc⟩ : Raw)]).length nvc).ownBlock = some g → g ≠ sb := fun g hg => by
      rcases hnb4 g hg with h | h
      · exact hcs1 g h
      · omega
    have ho5 := ho4.keptN hg5 (fun g hg e => hnsb g hg (Option.some.inj e))
    -- what is kept
    have hrow : Rd w3 (Fz w3 (fun b => b = sb ∨ Value.ownBlock (.slice cvo cs.length cvc) = some b ∨ b < N)) (.slice so (setP ps of F).length sc) (setP ps of F) :=
      ho.rd.mono (fun _ _ => rfl) (fun g hg => hg.elim (fun h => h.elim) (fun hg => ⟨(hlr g hg).2.1, fun h => by
        have h1 := (hlr g hg).1
        rcases h with h | h | h
        · omega
        · have := (hln g h).2.1; omega
        · omega⟩))
    have hin3 := (in1.to (Chg.of_ext _ e13) (fun b h => .inl h)).push hrow
    have hC35 : Chg (fun b => b = sb ∨ Value.ownBlock (.slice cvo cs.length cvc) = some b) w3 w5 := ((Chg.of_grown hg4).wk (fun b h => .inr h)).grown hg5 (fun g hg => by cases hg; exact .inl rfl)
    have hW35 : Chg (fun b => b = sb ∨ Value.ownBlock (.slice cvo cs.length cvc) = some b ∨ b < N) w3 w5 := hC35.wk (fun b h => h.imp id .inl)
    have hin5 := hin3.to hW35 (M' := fun b => b = sb ∨ (Value.slice nvo (cs ++ [(⟨.slice so (setP ps of F).length sc⟩ : Raw)]).length nvc).ownBlock = some b ∨ b < N) (fun b h => by
      rcases h with h | h | h
      · exact .inl (.inl h)
      · exact (hnb4 b h).imp (fun h => .inr (.inl h)) id
      · exact .inl (.inr (.inr h)))
    rw [List.append_assoc, ← hnx] at hin5
    have hC5 : Chg (fun b => b = sb ∨ nv.ownBlock = some b) w0 w5 := (hC1.trans (Chg.of_ext _ e13)).then hC35 (fun b h => hM1 b h)
    (repeat (first | (apply WL.add; rfl; rfl; rfl; rfl; omega; omega) | (apply WL.pure; rfl; rfl; rfl) | (apply WL.nil) | (apply EX.thenN) | (apply CW.region) | (apply EX.inN)))
    refine EX.back (i + 1, _, cs ++ [(⟨.slice so (setP ps of F).length sc⟩ : Raw)]) (by repeat (first | exact trivial | refine ⟨rfl, ?_⟩)) ⟨hi', hb5, ho5, hin5, hC5, fun g hg => ?_⟩ (by dsimp only; omega)
    rcases hnb4 g hg with h | h
    · exact nw1 g h
    · exact .inr (by omega)
  have hie : i = Fr.length := by simp only [decide_eq_false_iff_not] at h; omega
  subst hie
  rw [List.take_length] at in1
  (repeat (first | (apply CW.exit) | (apply EX.thenX) | (apply EX.inX)))
  exact EX.end0 rfl ⟨cv, cs, hb1, hn1, in1, hC1, nw1⟩
end Go.Proofs.Ytllpfgcngokhnaa
/-
  Package auto: Both: walked.
-/
set_option linter.unusedVariables false
set_option linter.unusedSimpArgs false
namespace Go.Proofs.Ytllpfgcngokhnaa
open Go.RowKit

instance iBo1 : IsZC Try.prog 28 [.slice none 0 0, .slice none 0 0, .slice none 0 0, .slice none 0 0, .slice none 0 0] := IsZC.of (z := .agg #[.slice none 0 0, .slice none 0 0, .slice none 0 0, .slice none 0 0, .slice none 0 0]) (by kernel_rfl) rfl
def nilA : LAuto := ([], [], [], [], [])
def bothE (A B : LAuto) : LAuto × Int :=
  if chkA A ≠ 0 then (nilA, chkA A) else if chkA B ≠ 0 then (nilA, chkA B) else if (madeE (bothNext A B) (bothStart A B)).2.1 = true ∧ A.2.2.2.2.length + B.2.2.2.2.length ≤ 80 then (bothL A B, 0) else (nilA, 2)
abbrev PrQ (A B : LAuto) (p : Pr2) : Prop := (0 ≤ p.1 ∧ p.1 < (A.2.1.length : Int)) ∧ 0 ≤ p.2 ∧ p.2 < (B.2.1.length : Int)
theorem nilA_at (w : World) : AutoAt w (Old w) (.agg #[.slice none 0 0, .slice none 0 0, .slice none 0 0, .slice none 0 0, .slice none 0 0]) nilA :=
  ⟨none, 0, none, 0, none, 0, none, 0, none, 0, rfl, Sl.zero w _, Sl.zero w _, Sl.zero w _, Sl.zero w _, Sl.zero w _⟩
set_option maxHeartbeats 2000000 in
theorem Both_ok (w0 : World) {va vb : Value} {A B : LAuto} (ha : AutoAt w0 (Old w0) va A) (hb : AutoAt w0 (Old w0) vb B) (sA : ∀ j, (A.2.1.getD j []).length ≤ 1048576) (sB : ∀ j, (B.2.1.getD j []).length ≤ 1048576) (tA : A.1.length ≤ 1048576) (tB : B.1.length ≤ 1048576) :
    Rt Try.prog 17 [va, vb].toArray w0 fun v w' => (∃ rv, v = .tuple ⟨[rv, .int .i64 (bothE A B).2]⟩ ∧ AutoAt w' (Old w') rv (bothE A B).1) ∧ Ext w0 w' := by
  obtain ⟨a1, c1, a2, c2, a3, c3, a4, c4, a5, c5, rfl, h1, h2, h3, h4, h5⟩ := ha.ok
  obtain ⟨k1, d1, k2, d2, k3, d3, k4, d4, k5, d5, rfl, g1, g2, g3, g4, g5⟩ := hb.ok
  refine Rt.enter2 Try.func17 Try.ntmps17 rfl rfl ?_
  have hE := Ext.refl w0
  (repeat (first | (apply CW.seq) | (apply CW.region)))
  refine WL.boxB rfl rfl rfl fun w1 hb2 e1 => ?_
  have hE := hE.trans e1
  skip
  refine WL.boxB rfl rfl rfl fun w2 hb3 e2 => ?_
  have hb2 := hb2.ext e2
  have hE := hE.trans e2
  skip
  refine WL.alloc rfl rfl (fun w3 hb4 e3 => ?_)
  have hb2 := hb2.ext e3
  have hb3 := hb3.ext e3
  have hE := hE.trans e3
  have y1 := e1.size
  have y2 := e2.size
  have y3 := hb4.lt
  have l2 := hb2.lt
  have l3 := hb3.lt
  unfold bothE
  (repeat (first | (apply WL.pure; rfl; rfl; rfl) | (apply WL.nil) | (apply EX.thenN) | (apply CW.seq) | (apply CW.region) | (apply WL.ldA; rfl; rfl; rfl; assumption; rfl)))
  refine WL.call rfl rfl rfl (aCheck_ok w3 (A := A) ⟨a1, c1, a2, c2, a3, c3, a4, c4, a5, c5, rfl, h1.up hE, h2.up hE, h3.up hE, h4.up hE, h5.up hE⟩) ?_
  rintro _ w4 ⟨rfl, e4⟩
  have hb2 := hb2.ext e4
  have hb3 := hb3.ext e4
  have hb4 := hb4.ext e4
  have hE := hE.trans e4
  have y4 := e4.size
  (repeat (first | (apply WL.pure; rfl; rfl; rfl) | (apply WL.nil) | (apply EX.thenN) | (apply CW.seq) | (apply CW.region)))
  refine CW.cond rfl (fun h => ?_) (fun h => ?_)
  · have h : chkA A ≠ 0 := by simpa using h
    rw [if_pos h]
    (repeat (first | (apply CW.seq) | (apply CW.region)))
    refine WL.build (parts := []) rfl rfl rfl rfl ?_
    (repeat (apply WL.pure; rfl; rfl; rfl))
    refine WL.st rfl rfl rfl hb4 rfl rfl (ones_of rfl) (fun w5 hb5 hg5 => ?_)
    have hE5 : Ext w0 w5 := hE.grown hg5 hE.size (fun g hg => by cases hg; omega)
    (repeat (first | (apply WL.pure; rfl; rfl; rfl) | (apply WL.nil) | (apply EX.thenN) | (apply CW.ret) | (apply EX.thenR)))
    exact EX.retC2 rfl rfl rfl hb5 rfl ⟨⟨_, rfl, nilA_at _⟩, hE5⟩
  have hA : chkA A = 0 := by simpa using h
  have okA := chkA_ok hA
  clear h
  rw [if_neg (by simp [hA])]
  (repeat (first | (apply EX.thenN) | (apply CW.seq) | (apply CW.region) | (apply WL.ldA; rfl; rfl; rfl; assumption; rfl) | (apply CW.skip)))
  refine WL.call rfl rfl rfl (aCheck_ok w4 (A := B) ⟨k1, d1, k2, d2, k3, d3, k4, d4, k5, d5, rfl, g1.up hE, g2.up hE, g3.up hE, g4.up hE, g5.up hE⟩) ?_
  rintro _ w5 ⟨rfl, e5⟩
  have hb2 := hb2.ext e5
  have hb3 := hb3.ext e5
  have hb4 := hb4.ext e5
  have hE := hE.trans e5
  have y5 := e5.size
  (repeat (first | (apply WL.pure; rfl; rfl; rfl) | (apply WL.nil) | (apply EX.thenN) | (apply CW.seq) | (apply CW.region)))
  refine CW.cond rfl (fun h => ?_) (fun h => ?_)
  · have h : chkA B ≠ 0 := by simpa using h
    rw [if_pos h]
    (repeat (first | (apply CW.seq) | (apply CW.region)))
    refine WL.build (parts := []) rfl rfl rfl rfl ?_
    (repeat (apply WL.pure; rfl; rfl; rfl))
    refine WL.st rfl rfl rfl hb4 rfl rfl (ones_of rfl) (fun w6 hb6 hg6 => ?_)
    have hE6 : Ext w0 w6 := hE.grown hg6 hE.size (fun g hg => by cases hg; omega)
    (repeat (first | (apply WL.pure; rfl; rfl; rfl) | (apply WL.nil) | (apply EX.thenN) | (apply CW.ret) | (apply EX.thenR)))
    exact EX.retC2 rfl rfl rfl hb6 rfl ⟨⟨_, rfl, nilA_at _⟩, hE6⟩
  have hB : chkA B = 0 := by simpa using h
  have okB := chkA_ok hB
  clear h
  rw [if_neg (by simp [hB])]
  (repeat (first | (apply EX.thenN) | (apply CW.seq) | (apply CW.region) | (apply WL.makeFunc; rfl; rfl; rfl; rfl) | (apply CW.skip)))
  refine WL.alloc rfl rfl (fun w6 hb8 e6 => ?_)
  skip
  refine WL.st rfl rfl rfl hb8 rfl rfl (ones_of rfl) (fun w7 hb8 hg7 => ?_)
  have e7 : Ext w5 w7 := Below.grown e6 hg7 e6.size (fun g hg => by cases hg; exact Nat.le_refl _)
  have hb2 := hb2.ext e7
  have hb3 := hb3.ext e7
  have hb4 := hb4.ext e7
  have hE := hE.trans e7
  have l8 := hb8.lt
  have y7 := e7.size
  clear e6 hg7
  (repeat (first | (apply WL.nil) | (apply EX.thenN) | (apply CW.seq) | (apply CW.region)))
  refine WL.mkMap (k := 105) rfl rfl (fun hnum => ?_)
  have e8 : Ext w7 (w7.alloc (.map #[] 0)) := Ext.alloc w7 _
  generalize w7.alloc (.map #[] 0) = w8 at *
  refine WL.build rfl rfl rfl rfl ?_
  refine WL.boxB rfl rfl rfl fun w9 hsb e9 => ?_
  have l7 := hnum.lt
  have hb2 := (hb2.ext e8).ext e9
  have hb3 := (hb3.ext e8).ext e9
  have hb4 := (hb4.ext e8).ext e9
  have hb8 := (hb8.ext e8).ext e9
  have hnum := hnum.ext e9
  have hE := (hE.trans e8).trans e9
  have y8 := e8.size
  have y9 := e9.size
  have l9 := hsb.lt
  clear e1 e2 e3 e4 e5 e7 e8 e9
  have hcross : ∀ l k : List Int, l.length ≤ 1048576 → k.length ≤ 1048576 → l.length * k.length ≤ 1099511627776 := fun l k h h' => Nat.mul_le_mul h h'
  have hq : ∀ l k : List Int, okL A.2.1.length l → okL B.2.1.length k → ∀ p ∈ crossP A.2.2.1 A.2.2.2.1 B.2.2.1 B.2.2.2.1 l k, PrQ A B p := fun l k h h' p hp => by
    obtain ⟨q1, q2, _⟩ := cross_mem.1 hp
    exact ⟨h _ q1, h' _ q2⟩
  have hAn := okA.n
  have hBn := okB.n
  have hst : bothStart A B = crossP A.2.2.1 A.2.2.2.1 B.2.2.1 B.2.2.2.1 A.1 B.1 := rfl
  have hmE := hcross A.1 B.1 tA tB
  (repeat (first | (apply WL.pure; rfl; rfl; rfl) | (apply WL.nil) | (apply EX.thenN) | (apply CW.seq) | (apply CW.region) | (apply WL.fa; rfl; rfl; rfl) | (apply WL.ld; rfl; rfl; rfl; assumption; rfl)))
  refine WL.callV (fv := []) rfl rfl rfl rfl (cross_ok w9 (F := Old w9) hb2 hb3 (h3.up hE) (h4.up hE) (g3.up hE) (g4.up hE) (h1.up hE) (g1.up hE) (fun _ h => h) okA.mu okA.no okB.mu okB.no okA.st okB.st (by omega)) ?_
  rintro sv w10 ⟨hos, e10⟩
  rw [← hst] at hos
  have hb2 := hb2.ext e10
  have hb3 := hb3.ext e10
  have hb4 := hb4.ext e10
  have hb8 := hb8.ext e10
  have hsb := hsb.ext e10
  have hnum := hnum.ext e10
  have hE := hE.trans e10
  have y10 := e10.size
  have hstl : (bothStart A B).length ≤ 1099511627776 := Nat.le_trans (crossP_len _) hmE
  have hlt10 := fun g hg => hos.lt g hg
  obtain ⟨so, sc, rfl⟩ := hos.val
  obtain ⟨so', sc', es, hss⟩ := hos.sl
  obtain ⟨rfl, _, rfl⟩ := Value.slice.inj es
  have hmk : Mk w10 w7.heap.size ⟨w8.heap.size, w7.heap.size, .slice none 0 0, .slice none 0 0, .slice none 0 0, .slice none 0 0, .slice none 0 0, .slice none 0 0⟩ [] :=
    ⟨hsb, hnum, Own.nil, ⟨by dsimp only; omega, Nat.le_refl _⟩, (by dsimp only; omega), (fun g hg => by cases hg), List.nodup_nil, (fun p hp => by cases hp)⟩
  have hfn : ∀ w p, Chg (fun b => b = w8.heap.size ∨ b = w7.heap.size) w10 w → PrQ A B p →
      FnV Try.prog (.func (.func 60) #[] #[.pointer (some ⟨w5.heap.size, 0, none⟩), .pointer (some ⟨w0.heap.size, 0, none⟩), .pointer (some ⟨w1.heap.size, 0, none⟩)]) [prV p] w fun v w' => Own w' w.heap.size 105 Non v (bothNext A B p) ∧ Ext w w' := fun w p hC hp => by
    have hEw : Ext w0 w := Chg.ext hE hC (fun b hb => by rcases hb with rfl | rfl <;> omega)
    have hk : ∀ b, b < w7.heap.size → w.heap[b]? = w10.heap[b]? := fun b hb => hC.block b (by omega) (fun h => by rcases h with h | h <;> omega)
    exact FnV.mk (cs := [_, _, _]) (both2_ok w (A := A) (B := B) ⟨a1, c1, a2, c2, a3, c3, a4, c4, a5, c5, (hk _ (by omega)).trans hb2, h1.up hEw, h2.up hEw, h3.up hEw, h4.up hEw, h5.up hEw⟩ ⟨k1, d1, k2, d2, k3, d3, k4, d4, k5, d5, (hk _ (by omega)).trans hb3, g1.up hEw, g2.up hEw, g3.up hEw, g4.up hEw, g5.up hEw⟩ ((hk _ (by omega)).trans hb8) okA okB hp.1 hp.2 sA sB)
  (repeat (apply WL.makeFunc; rfl; rfl; rfl; rfl))
  refine WL.call rfl rfl rfl (made_ok w10 (Q := PrQ A B) (next := bothNext A B) hmk (by omega) (Nat.le_refl _) hss (fun b hb => hb.elim (fun h => h.elim) (fun hb => by have := hlt10 b hb; exact ⟨by omega, by omega, by omega⟩)) (hq _ _ okA.st okB.st) hstl (fun p hp => ⟨by omega, by omega, by omega, by omega⟩)
    (fun p hp => ⟨hq _ _ (okG_row okA.nx _) (okG_row okB.nx _), Nat.le_trans (crossP_len _) (hcross _ _ (sA _) (sB _))⟩) hfn) ?_
  rintro _ w11 ⟨lo, lc, uo, uc, no, nc, rfl, hsb, hlo, hso, hno, hC⟩
  have hE11 : Ext w0 w11 := Chg.ext hE hC (fun b hb => by rcases hb with rfl | rfl <;> omega)
  have hk : ∀ b, b < w7.heap.size → w11.heap[b]? = w10.heap[b]? := fun b hb => hC.block b (by omega) (fun h => by rcases h with h | h <;> omega)
  have hb2 : Blk w11 _ _ _ := (hk _ (by omega)).trans hb2
  have hb3 : Blk w11 _ _ _ := (hk _ (by omega)).trans hb3
  have hb4 : Blk w11 _ _ _ := (hk _ (by omega)).trans hb4
  have y11 := hC.size
  have l11 := hsb.lt
  clear hfn hmk hss hb8 hnum hos hk es hlt10 hst hmE hstl
  have hin := made_in (next := bothNext A B) (start := bothStart A B)
  have hall := made_all (Q := PrQ A B) (next := bothNext A B) (start := bothStart A B) (fun p hp => hq _ _ (okG_row okA.nx _) (okG_row okB.nx _)) (hq _ _ okA.st okB.st)
  have hbl : bothL A B = (madeS (bothStart A B), (madeE (bothNext A B) (bothStart A B)).2.2, (madeE (bothNext A B) (bothStart A B)).1.map (fun p => A.2.2.1.getD p.1.toNat 0 ||| B.2.2.1.getD p.2.toNat 0), (madeE (bothNext A B) (bothStart A B)).1.map (fun p => A.2.2.2.1.getD p.1.toNat 0 ||| B.2.2.2.1.getD p.2.toNat 0),
    A.2.2.2.2.map (setP (madeE (bothNext A B) (bothStart A B)).1 Prod.fst) ++ B.2.2.2.2.map (setP (madeE (bothNext A B) (bothStart A B)).1 Prod.snd)) := rfl
  rw [hbl]
  generalize (madeE (bothNext A B) (bothStart A B)).2.1 = ok at *
  generalize (madeE (bothNext A B) (bothStart A B)).1 = ps at *
  generalize (madeE (bothNext A B) (bothStart A B)).2.2 = nx at *
  generalize madeS (bothStart A B) = st at *
  clear hbl hq
  have hA80 := okA.f
  have hB80 := okB.f
  cases ok with
  | false =>
    rw [if_neg (by simp)]
    (repeat (first | (apply WL.pure; rfl; rfl; rfl) | (apply WL.nil) | (apply EX.thenN) | (apply CW.seq) | (apply CW.region) | (apply WL.pass; rfl; rfl) | (apply CW.condT; rfl)))
    refine WL.build (parts := []) rfl rfl rfl rfl ?_
    skip
    refine WL.st rfl rfl rfl hb4 rfl rfl (ones_of rfl) (fun w12 hb12 hg12 => ?_)
    have hE12 : Ext w0 w12 := hE11.grown hg12 hE11.size (fun g hg => by cases hg; omega)
    (repeat (first | (apply WL.pure; rfl; rfl; rfl) | (apply WL.nil) | (apply EX.thenN) | (apply CW.ret) | (apply EX.thenR)))
    exact EX.retC2 rfl rfl rfl hb12 rfl ⟨⟨_, rfl, nilA_at _⟩, hE12⟩
  | true =>
  have hi := hin rfl
  have hp8 := hi.n
  by_cases h80 : A.2.2.2.2.length + B.2.2.2.2.length ≤ 80
  case neg =>
    rw [if_neg (fun h => h80 h.2)]
    (repeat (first | (apply WL.add; rfl; rfl; rfl; rfl; omega; omega) | (apply WL.pure; rfl; rfl; rfl) | (apply WL.nil) | (apply EX.thenN) | (apply WL.lenS; rfl; rfl; rfl) | (apply WL.fa; rfl; rfl; rfl) | (apply WL.ld; rfl; rfl; rfl; assumption; rfl)))
    rw [decide_eq_true (show ((A.2.2.2.2.length : Int) + (B.2.2.2.2.length : Int) > 80) by omega)]
    (repeat (first | (apply CW.seq) | (apply CW.region) | (apply CW.condT; rfl)))
    refine WL.build (parts := []) rfl rfl rfl rfl ?_
    skip
    refine WL.st rfl rfl rfl hb4 rfl rfl (ones_of rfl) (fun w12 hb12 hg12 => ?_)
    have hE12 : Ext w0 w12 := hE11.grown hg12 hE11.size (fun g hg => by cases hg; omega)
    (repeat (first | (apply WL.pure; rfl; rfl; rfl) | (apply WL.nil) | (apply EX.thenN) | (apply CW.ret) | (apply EX.thenR)))
    exact EX.retC2 rfl rfl rfl hb12 rfl ⟨⟨_, rfl, nilA_at _⟩, hE12⟩
  rw [if_pos ⟨rfl, h80⟩]
  (repeat (first | (apply WL.add; rfl; rfl; rfl; rfl; omega; omega) | (apply WL.pure; rfl; rfl; rfl) | (apply WL.nil) | (apply EX.thenN) | (apply WL.lenS; rfl; rfl; rfl) | (apply WL.fa; rfl; rfl; rfl) | (apply WL.ld; rfl; rfl; rfl; assumption; rfl)))
  rw [decide_eq_false (show ¬ ((A.2.2.2.2.length : Int) + (B.2.2.2.2.length : Int) > 80) by omega)]
  (repeat (first | (apply WL.pure; rfl; rfl; rfl) | (apply WL.nil) | (apply EX.thenN) | (apply CW.seq) | (apply CW.region) | (apply WL.lenS; rfl; rfl; rfl) | (apply WL.fa; rfl; rfl; rfl) | (apply WL.nck; rfl; rfl; rfl) | (apply WL.ld; rfl; rfl; rfl; assumption; rfl) | (apply CW.block) | (apply CW.condF; rfl) | (apply CW.skip)))
  refine CW.loop (S := Nat × Value × Value) (fun s => [(2, .pointer (some ⟨w0.heap.size, 0, none⟩)), (3, .pointer (some ⟨w1.heap.size, 0, none⟩)), (4, .pointer (some ⟨w2.heap.size, 0, none⟩)), (9, .pointer (some ⟨w8.heap.size, 0, none⟩)), (52, .slice lo ps.length lc), (53, .int .i64 ps.length), (54, .int .i64 s.1)])
    (fun s w => s.1 ≤ ps.length ∧ Blk w w8.heap.size 110 [.map (some w7.heap.size), .slice lo ps.length lc, .slice uo st.length uc, .slice no nx.length nc, s.2.1, s.2.2, .slice none 0 0] ∧ Own w w11.heap.size 53 Non s.2.1 ((ps.take s.1).map (fun p : Pr2 => A.2.2.1.getD p.1.toNat 0 ||| B.2.2.1.getD p.2.toNat 0)) ∧
      Own w w11.heap.size 53 Non s.2.2 ((ps.take s.1).map (fun p : Pr2 => A.2.2.2.1.getD p.1.toNat 0 ||| B.2.2.2.1.getD p.2.toNat 0)) ∧ (∀ g, s.2.1.ownBlock = some g → s.2.2.ownBlock ≠ some g) ∧ Chg (fun b => b = w8.heap.size) w11 w)
    (fun s => ps.length - s.1) (0, .slice none 0 0, .slice none 0 0) (by repeat (first | exact trivial | refine ⟨rfl, ?_⟩)) ⟨Nat.zero_le _, hsb, Own.nil, Own.nil, (fun g hg => by cases hg), Chg.refl _ _⟩ ?_
  rintro ⟨i, mv, nv⟩ w12 ⟨hi12, hsb12, hom, hon, hdis, hC12⟩
  dsimp only at hi12 hsb12 hom hon hdis hC12 ⊢
  have y12 := hC12.size
  have hE12 : Ext w0 w12 := Chg.ext hE11 hC12 (fun b hb => by subst hb; omega)
  have hlo12 := hlo.fz (hC12.wk (M' := fun b => b = w8.heap.size ∨ b < w7.heap.size) (fun b h => .inl h)) (fun b h => .inl h)
  have hlm := fun g hg => hom.lt g hg
  have hln := fun g hg => hon.lt g hg
  obtain ⟨mo, mc, rfl⟩ := hom.val
  obtain ⟨nvo, nvc, rfl⟩ := hon.val
  (repeat (first | (apply WL.pure; rfl; rfl; rfl) | (apply WL.nil) | (apply EX.thenN) | (apply CW.seq) | (apply CW.region)))
  refine CW.cond rfl (fun h => ?_) (fun h => ?_)
  · have hi' : i < ps.length := by simp only [decide_eq_true_eq] at h; omega
    clear h
    have hb2 : Blk w12 _ _ _ := (hC12.block _ (by omega) (fun h => by omega)).trans hb2
    have hb3 : Blk w12 _ _ _ := (hC12.block _ (by omega) (fun h => by omega)).trans hb3
    have hpm := hall _ (List.getElem_mem hi')
    have hn1 : (ps.take (i + 1)).map (fun p : Pr2 => A.2.2.1.getD p.1.toNat 0 ||| B.2.2.1.getD p.2.toNat 0) = (ps.take i).map (fun p : Pr2 => A.2.2.1.getD p.1.toNat 0 ||| B.2.2.1.getD p.2.toNat 0) ++ [A.2.2.1.getD ps[i].1.toNat 0 ||| B.2.2.1.getD ps[i].2.toNat 0] := by
      rw [List.take_add_one, List.getElem?_eq_getElem hi', List.map_append]; rfl
    have hn2 : (ps.take (i + 1)).map (fun p : Pr2 => A.2.2.2.1.getD p.1.toNat 0 ||| B.2.2.2.1.getD p.2.toNat 0) = (ps.take i).map (fun p : Pr2 => A.2.2.2.1.getD p.1.toNat 0 ||| B.2.2.2.1.getD p.2.toNat 0) ++ [A.2.2.2.1.getD ps[i].1.toNat 0 ||| B.2.2.2.1.getD ps[i].2.toNat 0] := by
      rw [List.take_add_one, List.getElem?_eq_getElem hi', List.map_append]; rfl
    (repeat (first | (apply EX.thenN) | (apply CW.seq) | (apply CW.region) | (apply CW.block) | (apply CW.skip)))
    refine WL.elemN (i := i) rfl rfl rfl rfl rfl hlo12 hi' (fun _ => rfl) (fun u q hu => ?_)
    rw [rd_pr2 hu]
    clear hu
    generalize ps[i] = p at *
    obtain ⟨x, hx⟩ : ∃ x : Nat, p.1 = (x : Int) := ⟨p.1.toNat, by omega⟩
    obtain ⟨y, hy⟩ : ∃ y : Nat, p.2 = (y : Int) := ⟨p.2.toNat, by omega⟩
    obtain ⟨pa, pb⟩ := p
    dsimp only at hx hy
    subst hx hy
    dsimp only at hpm hn1 hn2
    rw [Int.toNat_natCast, Int.toNat_natCast] at hn1 hn2
    skip
    refine WL.alloc rfl rfl (fun w13 hpb13 e13 => ?_)
    skip
    refine WL.st rfl rfl rfl hpb13 rfl rfl (ones_of rfl) (fun w14 hpb14 hg14 => ?_)
    have e14 : Ext w12 w14 := Below.grown e13 hg14 e13.size (fun g hg => by cases hg; exact Nat.le_refl _)
    have y14 := e14.size
    have hE14 := hE12.trans e14
    have hsb14 := hsb12.ext e14
    have hb214 := hb2.ext e14
    have hb314 := hb3.ext e14
    have hom14 := hom.extN e14
    have hon14 := hon.extN e14
    have hC14 := hC12.trans (Chg.of_ext _ e14)
    clear e13 hg14 hpb13
    -- R14
    have hD : Ext w14 (drew w14) := Ext.drew w14
    have hsbd := hsb14.ext hD
    have hb2d := hb214.ext hD
    have hb3d := hb314.ext hD
    have hpbd := hpb14.ext hD
    have lpb := hpb14.lt
    have hKs : ∀ u, (fun z : World => ∀ b, b < w14.heap.size → (Value.slice mo ((ps.take i).map (fun p : Pr2 => A.2.2.1.getD p.1.toNat 0 ||| B.2.2.1.getD p.2.toNat 0)).length mc).ownBlock ≠ some b → z.heap[b]? = (drew w14).heap[b]?) u → u.heap[w8.heap.size]? = (drew w14).heap[w8.heap.size]? := fun u h => h _ (by omega) (fun e => by have := hlm _ e; omega)
    have hK2 : ∀ u, (fun z : World => ∀ b, b < w14.heap.size → (Value.slice mo ((ps.take i).map (fun p : Pr2 => A.2.2.1.getD p.1.toNat 0 ||| B.2.2.1.getD p.2.toNat 0)).length mc).ownBlock ≠ some b → z.heap[b]? = (drew w14).heap[b]?) u → u.heap[w0.heap.size]? = (drew w14).heap[w0.heap.size]? := fun u h => h _ (by omega) (fun e => by have := hlm _ e; omega)
    have hK3 : ∀ u, (fun z : World => ∀ b, b < w14.heap.size → (Value.slice mo ((ps.take i).map (fun p : Pr2 => A.2.2.1.getD p.1.toNat 0 ||| B.2.2.1.getD p.2.toNat 0)).length mc).ownBlock ≠ some b → z.heap[b]? = (drew w14).heap[b]?) u → u.heap[w1.heap.size]? = (drew w14).heap[w1.heap.size]? := fun u h => h _ (by omega) (fun e => by have := hlm _ e; omega)
    have hKp : ∀ u, (fun z : World => ∀ b, b < w14.heap.size → (Value.slice mo ((ps.take i).map (fun p : Pr2 => A.2.2.1.getD p.1.toNat 0 ||| B.2.2.1.getD p.2.toNat 0)).length mc).ownBlock ≠ some b → z.heap[b]? = (drew w14).heap[b]?) u → u.heap[w12.heap.size]? = (drew w14).heap[w12.heap.size]? := fun u h => h _ (by omega) (fun e => by have := hlm _ e; omega)
    have hKo : ∀ u, (fun z : World => ∀ b, b < w14.heap.size → (Value.slice mo ((ps.take i).map (fun p : Pr2 => A.2.2.1.getD p.1.toNat 0 ||| B.2.2.1.getD p.2.toNat 0)).length mc).ownBlock ≠ some b → z.heap[b]? = (drew w14).heap[b]?) u → ∀ b, Old w0 b → u.heap[b]? = (drew w14).heap[b]? := fun u h b hb => by
      have hb : b < w0.heap.size := hb
      exact h _ (by omega) (fun e => by have := hlm _ e; omega)
    have hEd := hE14.trans hD
    (repeat (first | (apply WL.nil) | (apply EX.thenN) | (apply CW.seq)))
    refine CW.drawE (fun z : World => ∀ b, b < w14.heap.size → (Value.slice mo ((ps.take i).map (fun p : Pr2 => A.2.2.1.getD p.1.toNat 0 ||| B.2.2.1.getD p.2.toNat 0)).length mc).ownBlock ≠ some b → z.heap[b]? = (drew w14).heap[b]?) [(0, true), (1, true), (2, true), (3, true), (4, true), (5, true), (6, true), (7, true), (8, true), (9, true), (10, true), (11, true), (12, true), (13, true), (14, true), (15, true), (16, true), (17, true), (18, true), (19, false), (20, false), (21, false), (22, false), (23, false)] 24 mixed (by kernel_rfl) (fun _ _ _ => rfl) ?_
    (repeat (first | (apply HL.pure; rfl; rfl; rfl; rfl) | (refine HL.fa rfl rfl rfl rfl ?_) | (apply HL.nck; rfl; rfl; rfl; rfl) | (refine HL.ldK (by assumption) rfl rfl rfl rfl (by assumption) rfl ?_)))
    refine HL.elemK (k := x) hKo rfl rfl rfl rfl rfl rfl rfl (h3.at hEd) (show x < _ by have := okA.mu; omega) (fun _ => rfl) (fun u q hu => ?_)
    obtain ⟨rfl, q1⟩ := hu.u64
    rw [← wgetN'] at q1 ⊢
    (repeat (first | (refine HL.fa rfl rfl rfl rfl ?_) | (refine HL.ldK (by assumption) rfl rfl rfl rfl (by assumption) rfl ?_)))
    refine HL.elemK (k := y) hKo rfl rfl rfl rfl rfl rfl rfl (g3.at hEd) (show y < _ by have := okB.mu; omega) (fun _ => rfl) (fun u q hu => ?_)
    obtain ⟨rfl, q2⟩ := hu.u64
    rw [← wgetN'] at q2 ⊢
    refine HL.orN rfl rfl rfl rfl rfl q1 q2 ?_
    refine HL.app1 (α := Nat) (F := Non) (bytes := 8) (yv := A.2.2.1.getD x 0 ||| B.2.2.1.getD y 0) rfl rfl rfl rfl (fun _ => rfl) rfl rfl (fun _ => rfl) (hom14.extN hD) ⟨_, rfl, rd_mkU64 _ _ _ (Nat.or_lt_two_pow (n := 64) q1 q2)⟩ (by have := hD.size; omega) (fun _ h => h.elim) (by decide) (by unfold maxLen; rw [List.length_map, List.length_take]; omega) (by rw [List.length_map, List.length_take]; omega)
      (fun z hz b hb hne => hz.block b hb (fun e => hne e.symm)) (fun mv2 w15 q3 ho15 hg15 hnb15 => ?_)
    rw [← hn1] at ho15
    have hsb15 := hsbd.kept hg15 (fun e => by have := hlm _ e.symm; omega)
    have y15 : w14.heap.size ≤ w15.heap.size := hg15.size
    obtain ⟨mo', mc', rfl⟩ := ho15.val
    have hS15 : (fun z : World => ∀ b, b < w14.heap.size → (Value.slice mo ((ps.take i).map (fun p : Pr2 => A.2.2.1.getD p.1.toNat 0 ||| B.2.2.1.getD p.2.toNat 0)).length mc).ownBlock ≠ some b → z.heap[b]? = (drew w14).heap[b]?) w15 := fun b hb hne => hg15.block b hb (fun e => hne e.symm)
    refine HL.mut rfl (WL.nck rfl rfl rfl (WL.nil (EX.mut hS15 ?_)))
    refine HL.mut rfl (WL.fa rfl rfl rfl (WL.nil (EX.mut hS15 ?_)))
    refine HL.mut rfl (WL.fa rfl rfl rfl (WL.nil (EX.mut hS15 (HL.nil ?_))))
    refine EX.tail rfl (WL.st rfl rfl rfl hsb15 rfl rfl (ones_of rfl) (fun w16 hsb16 hg16 => WL.nil (EX.tailE ?_)))
    have hm16 : ∀ g, (Value.slice mo' ((ps.take (i + 1)).map (fun p : Pr2 => A.2.2.1.getD p.1.toNat 0 ||| B.2.2.1.getD p.2.toNat 0)).length mc').ownBlock = some g → w11.heap.size ≤ g ∧ g ≠ w8.heap.size := fun g hg => by
      rcases hnb15 g hg with h | h
      · have := hlm g h; omega
      · have h : w14.heap.size ≤ g := h
        omega
    have y16 := hg16.size
    have e14d : Ext w14 (drew w14) := Ext.drew w14
    have hkeep : ∀ b, b < w14.heap.size → b ≠ w8.heap.size → (Value.slice mo ((ps.take i).map (fun p : Pr2 => A.2.2.1.getD p.1.toNat 0 ||| B.2.2.1.getD p.2.toNat 0)).length mc).ownBlock ≠ some b → w16.heap[b]? = w14.heap[b]? := fun b hb h1 h2 => (hg16.block b (by omega) (fun e => h1 (Option.some.inj e))).trans (hg15.block b hb (fun e => h2 e.symm))
    have hb216 : Blk w16 _ _ _ := (hkeep _ (by omega) (by omega) (fun e => by have := hlm _ e; omega)).trans hb214
    have hb316 : Blk w16 _ _ _ := (hkeep _ (by omega) (by omega) (fun e => by have := hlm _ e; omega)).trans hb314
    have hpb16 : Blk w16 _ _ _ := (hkeep _ (by omega) (by omega) (fun e => by have := hlm _ e; omega)).trans hpb14
    have hom16 := ho15.keptN hg16 (fun g hg e => (hm16 g hg).2 (Option.some.inj e))
    have hon16 := ((hon14.extN e14d).keptN hg15 (fun g hg e => hdis g e.symm hg)).keptN hg16 (fun g hg e => by have := Option.some.inj e; have := hln g hg; omega)
    have hC16 := ((hC14.trans (Chg.of_ext _ e14d)).then (Chg.of_grown hg15) (fun b h => .inr (by have := hlm b h; omega))).grown hg16 (fun g hg => by cases hg; rfl)
    have hE16 : Ext w0 w16 := Chg.ext hE11 hC16 (fun b hb => by subst hb; omega)
    have hdis16 : ∀ g, (Value.slice mo' ((ps.take (i + 1)).map (fun p : Pr2 => A.2.2.1.getD p.1.toNat 0 ||| B.2.2.1.getD p.2.toNat 0)).length mc').ownBlock = some g → (Value.slice nvo ((ps.take i).map (fun p : Pr2 => A.2.2.2.1.getD p.1.toNat 0 ||| B.2.2.2.1.getD p.2.toNat 0)).length nvc).ownBlock ≠ some g := fun g hg e => by
      rcases hnb15 g hg with h | h
      · exact hdis g h e
      · have h : w14.heap.size ≤ g := h
        have := hln g e; omega
    have hlm16 := fun g hg => hom16.lt g hg
    clear hKs hK2 hK3 hKp hKo hS15 hD hsbd hb2d hb3d hpbd hEd ho15 hsb15 hg15 hg16 hkeep hsb14 hb214 hb314 hpb14 hom14 hon14 hE14 hnb15 q1 q2 hu
    apply EX.thenN
    -- R15
    have hD : Ext w16 (drew w16) := Ext.drew w16
    have hsbd := hsb16.ext hD
    have hb2d := hb216.ext hD
    have hb3d := hb316.ext hD
    have hpbd := hpb16.ext hD
    have lpb := hpb16.lt
    have hKs : ∀ u, (fun z : World => ∀ b, b < w16.heap.size → (Value.slice nvo ((ps.take i).map (fun p : Pr2 => A.2.2.2.1.getD p.1.toNat 0 ||| B.2.2.2.1.getD p.2.toNat 0)).length nvc).ownBlock ≠ some b → z.heap[b]? = (drew w16).heap[b]?) u → u.heap[w8.heap.size]? = (drew w16).heap[w8.heap.size]? := fun u h => h _ (by omega) (fun e => by have := hln _ e; omega)
    have hK2 : ∀ u, (fun z : World => ∀ b, b < w16.heap.size → (Value.slice nvo ((ps.take i).map (fun p : Pr2 => A.2.2.2.1.getD p.1.toNat 0 ||| B.2.2.2.1.getD p.2.toNat 0)).length nvc).ownBlock ≠ some b → z.heap[b]? = (drew w16).heap[b]?) u → u.heap[w0.heap.size]? = (drew w16).heap[w0.heap.size]? := fun u h => h _ (by omega) (fun e => by have := hln _ e; omega)
    have hK3 : ∀ u, (fun z : World => ∀ b, b < w16.heap.size → (Value.slice nvo ((ps.take i).map (fun p : Pr2 => A.2.2.2.1.getD p.1.toNat 0 ||| B.2.2.2.1.getD p.2.toNat 0)).length nvc).ownBlock ≠ some b → z.heap[b]? = (drew w16).heap[b]?) u → u.heap[w1.heap.size]? = (drew w16).heap[w1.heap.size]? := fun u h => h _ (by omega) (fun e => by have := hln _ e; omega)
    have hKp : ∀ u, (fun z : World => ∀ b, b < w16.heap.size → (Value.slice nvo ((ps.take i).map (fun p : Pr2 => A.2.2.2.1.getD p.1.toNat 0 ||| B.2.2.2.1.getD p.2.toNat 0)).length nvc).ownBlock ≠ some b → z.heap[b]? = (drew w16).heap[b]?) u → u.heap[w12.heap.size]? = (drew w16).heap[w12.heap.size]? := fun u h => h _ (by omega) (fun e => by have := hln _ e; omega)
    have hKo : ∀ u, (fun z : World => ∀ b, b < w16.heap.size → (Value.slice nvo ((ps.take i).map (fun p : Pr2 => A.2.2.2.1.getD p.1.toNat 0 ||| B.2.2.2.1.getD p.2.toNat 0)).length nvc).ownBlock ≠ some b → z.heap[b]? = (drew w16).heap[b]?) u → ∀ b, Old w0 b → u.heap[b]? = (drew w16).heap[b]? := fun u h b hb => by
      have hb : b < w0.heap.size := hb
      exact h _ (by omega) (fun e => by have := hln _ e; omega)
    have hEd := hE16.trans hD
    skip
    refine CW.drawE (fun z : World => ∀ b, b < w16.heap.size → (Value.slice nvo ((ps.take i).map (fun p : Pr2 => A.2.2.2.1.getD p.1.toNat 0 ||| B.2.2.2.1.getD p.2.toNat 0)).length nvc).ownBlock ≠ some b → z.heap[b]? = (drew w16).heap[b]?) [(0, true), (1, true), (2, true), (3, true), (4, true), (5, true), (6, true), (7, true), (8, true), (9, true), (10, true), (11, true), (12, true), (13, true), (14, true), (15, true), (16, true), (17, true), (18, true), (19, false), (20, false), (21, false), (22, false), (23, false)] 24 mixed (by kernel_rfl) (fun _ _ _ => rfl) ?_
    (repeat (first | (apply HL.pure; rfl; rfl; rfl; rfl) | (refine HL.fa rfl rfl rfl rfl ?_) | (apply HL.nck; rfl; rfl; rfl; rfl) | (refine HL.ldK (by assumption) rfl rfl rfl rfl (by assumption) rfl ?_)))
    refine HL.elemK (k := x) hKo rfl rfl rfl rfl rfl rfl rfl (h4.at hEd) (show x < _ by have := okA.no; omega) (fun _ => rfl) (fun u q hu => ?_)
    obtain ⟨rfl, q1⟩ := hu.u64
    rw [← wgetN'] at q1 ⊢
    (repeat (first | (refine HL.fa rfl rfl rfl rfl ?_) | (refine HL.ldK (by assumption) rfl rfl rfl rfl (by assumption) rfl ?_)))
    refine HL.elemK (k := y) hKo rfl rfl rfl rfl rfl rfl rfl (g4.at hEd) (show y < _ by have := okB.no; omega) (fun _ => rfl) (fun u q hu => ?_)
    obtain ⟨rfl, q2⟩ := hu.u64
    rw [← wgetN'] at q2 ⊢
    refine HL.orN rfl rfl rfl rfl rfl q1 q2 ?_
    refine HL.app1 (α := Nat) (F := Non) (bytes := 8) (yv := A.2.2.2.1.getD x 0 ||| B.2.2.2.1.getD y 0) rfl rfl rfl rfl (fun _ => rfl) rfl rfl (fun _ => rfl) (hon16.extN hD) ⟨_, rfl, rd_mkU64 _ _ _ (Nat.or_lt_two_pow (n := 64) q1 q2)⟩ (by have := hD.size; omega) (fun _ h => h.elim) (by decide) (by unfold maxLen; rw [List.length_map, List.length_take]; omega) (by rw [List.length_map, List.length_take]; omega)
      (fun z hz b hb hne => hz.block b hb (fun e => hne e.symm)) (fun nv2 w17 q3 ho17 hg17 hnb17 => ?_)
    rw [← hn2] at ho17
    have hsb17 := hsbd.kept hg17 (fun e => by have := hln _ e.symm; omega)
    have y17 : w16.heap.size ≤ w17.heap.size := hg17.size
    obtain ⟨nvo', nvc', rfl⟩ := ho17.val
    have hS17 : (fun z : World => ∀ b, b < w16.heap.size → (Value.slice nvo ((ps.take i).map (fun p : Pr2 => A.2.2.2.1.getD p.1.toNat 0 ||| B.2.2.2.1.getD p.2.toNat 0)).length nvc).ownBlock ≠ some b → z.heap[b]? = (drew w16).heap[b]?) w17 := fun b hb hne => hg17.block b hb (fun e => hne e.symm)
    refine HL.mut rfl (WL.nck rfl rfl rfl (WL.nil (EX.mut hS17 ?_)))
    refine HL.mut rfl (WL.fa rfl rfl rfl (WL.nil (EX.mut hS17 ?_)))
    refine HL.mut rfl (WL.fa rfl rfl rfl (WL.nil (EX.mut hS17 (HL.nil ?_))))
    refine EX.tail rfl (WL.st rfl rfl rfl hsb17 rfl rfl (ones_of rfl) (fun w18 hsb18 hg18 => WL.nil (EX.tailE ?_)))
    have hm18 : ∀ g, (Value.slice nvo' ((ps.take (i + 1)).map (fun p : Pr2 => A.2.2.2.1.getD p.1.toNat 0 ||| B.2.2.2.1.getD p.2.toNat 0)).length nvc').ownBlock = some g → w11.heap.size ≤ g ∧ g ≠ w8.heap.size := fun g hg => by
      rcases hnb17 g hg with h | h
      · have := hln g h; omega
      · have h : w16.heap.size ≤ g := h
        omega
    have y18 := hg18.size
    have e16d : Ext w16 (drew w16) := Ext.drew w16
    have hon18 := ho17.keptN hg18 (fun g hg e => (hm18 g hg).2 (Option.some.inj e))
    have hom18 := ((hom16.extN e16d).keptN hg17 (fun g hg e => hdis16 g hg e.symm)).keptN hg18 (fun g hg e => (hm16 g hg).2 (Option.some.inj e))
    have hC18 := ((hC16.trans (Chg.of_ext _ e16d)).then (Chg.of_grown hg17) (fun b h => .inr (by have := hln b h; omega))).grown hg18 (fun g hg => by cases hg; rfl)
    (repeat (first | (apply WL.add; rfl; rfl; rfl; rfl; omega; omega) | (apply WL.pure; rfl; rfl; rfl) | (apply WL.nil) | (apply EX.thenN) | (apply CW.region) | (apply EX.inN)))
    refine EX.back (i + 1, _, _) (by repeat (first | exact trivial | refine ⟨rfl, ?_⟩)) ⟨hi', hsb18, hom18, hon18, fun g hg e => ?_, hC18⟩ (by dsimp only; omega)
    rcases hnb17 g e with h | h
    · exact hdis16 g hg h
    · have h : w16.heap.size ≤ g := h
      have := (hlm16 g hg).2.1; omega
  have hie : i = ps.length := by simp only [decide_eq_false_iff_not] at h; omega
  subst hie
  rw [List.take_length] at hom hon hsb12
  clear h
  have hb212 : Blk w12 _ _ _ := (hC12.block _ (by omega) (fun h => by omega)).trans hb2
  have hb312 : Blk w12 _ _ _ := (hC12.block _ (by omega) (fun h => by omega)).trans hb3
  have hb412 : Blk w12 _ _ _ := (hC12.block _ (by omega) (fun h => by omega)).trans hb4
  have hso12 := hso.fz (hC12.wk (M' := fun b => b = w8.heap.size ∨ b < w7.heap.size) (fun b h => .inl h)) (fun b h => .inl h)
  have hno12 := hno.fz (hC12.wk (M' := fun b => b = w8.heap.size ∨ b < w7.heap.size) (fun b h => .inl h)) (fun b h => .inl h)
  have hlo12' := hlo12.mono (F' := Fz w12 (fun b => b = w8.heap.size ∨ (Value.slice none 0 0).ownBlock = some b)) (fun _ _ => rfl) (fun b hb => ⟨hb.1, fun h => hb.2 (.inl (h.resolve_right (fun h => by cases h)))⟩)
  have hf1 : Sl w12 (Fz w12 (fun b => b = w8.heap.size ∨ (Value.slice none 0 0).ownBlock = some b)) a5 c5 A.2.2.2.2 := (h5.at hE12).toFz (fun b hb => by
    have hb : b < w0.heap.size := hb
    exact ⟨by omega, fun h => by rcases h with h | h; (· omega); (· cases h)⟩)
  have hps1 : ∀ p ∈ ps, 0 ≤ p.1 ∧ p.1 < (A.2.1.length : Int) := fun p hp => (hall p hp).1
  have hps2 : ∀ p ∈ ps, 0 ≤ p.2 ∧ p.2 < (B.2.1.length : Int) := fun p hp => (hall p hp).2
  clear hb2 hb3 hb4 hlo hlo12 hsb hso hno hall hin hlm hln
  (repeat (first | (apply WL.pure; rfl; rfl; rfl) | (apply EX.thenN) | (apply CW.seq) | (apply CW.region) | (apply WL.lenS; rfl; rfl; rfl) | (apply WL.fa; rfl; rfl; rfl) | (apply WL.ld; rfl; rfl; rfl; assumption; rfl) | (apply CW.exit) | (apply EX.thenX) | (apply EX.inX)))
  refine WL.call rfl rfl rfl (sets_ok w12 (N := w7.heap.size) (B2 := w12.heap.size) (n := A.2.1.length) (vs := []) (xs := []) (of := Prod.fst) hsb12 hlo12' Own.nil (Nat.le_refl _) (by omega) InnR.nil (fun g hg => by cases hg) hf1 okA.fr (by omega) (fun w p hp => FnV.mk (cs := []) (both3_ok w p)) hps1 (by omega) (by simp; omega)) ?_
  rintro _ w13 ⟨nv1, vs1, hsb13, hf13, inn13, hC13, hnew13⟩
  rw [List.nil_append] at inn13
  have y13 := hC13.size
  have hE13 : Ext w0 w13 := Chg.ext hE12 hC13 (fun b hb => by rcases hb with h | h; (· subst h; omega); (· cases h))
  have hkk13 : ∀ b, b < w12.heap.size → b ≠ w8.heap.size → w13.heap[b]? = w12.heap[b]? := fun b hb hne => hC13.block b hb (fun h => by rcases h with h | h; (· exact hne h); (· cases h))
  have hb313 : Blk w13 _ _ _ := (hkk13 _ (by omega) (by omega)).trans hb312
  have hb413 : Blk w13 _ _ _ := (hkk13 _ (by omega) (by omega)).trans hb412
  have hnl1 := fun g hg => hf13.lt g hg
  have hlo13 := hlo12'.fz hC13 (M' := fun b => b = w8.heap.size ∨ nv1.ownBlock = some b) (fun b h => by
    rcases h with h | h
    · exact .inl (.inl h)
    · exact .inr (hnl1 b h).1)
  have hf2 : Sl w13 (Fz w13 (fun b => b = w8.heap.size ∨ nv1.ownBlock = some b)) k5 d5 B.2.2.2.2 := (g5.at hE13).toFz (fun b hb => by
    have hb : b < w0.heap.size := hb
    exact ⟨by omega, fun h => by rcases h with h | h; (· omega); (· have := (hnl1 b h).1; omega)⟩)
  clear hb312 hb412 hlo12' hf1
  (repeat (first | (apply WL.pure; rfl; rfl; rfl) | (apply WL.nil) | (apply EX.thenN) | (apply CW.seq) | (apply CW.region) | (apply WL.lenS; rfl; rfl; rfl) | (apply WL.fa; rfl; rfl; rfl) | (apply WL.ld; rfl; rfl; rfl; assumption; rfl)))
  refine WL.call rfl rfl rfl (sets_ok w13 (N := w7.heap.size) (B2 := w12.heap.size) (n := B.2.1.length) (of := Prod.snd) hsb13 hlo13 hf13 (by omega) (by omega) inn13 (fun g hg => by have := (hnl1 g hg).1; omega) hf2 okB.fr (by omega) (fun w p hp => FnV.mk (cs := []) (both4_ok w p)) hps2 (by omega) (by rw [List.length_map]; omega)) ?_
  rintro _ w14 ⟨nv2, vs2, hsb14, hf14, inn14, hC14, hnew14⟩
  have y14 := hC14.size
  have hE14 : Ext w0 w14 := Chg.ext hE13 hC14 (fun b hb => by rcases hb with h | h; (· subst h; omega); (· have := (hnl1 b h).1; omega))
  have hkk14 : ∀ b, b < w12.heap.size → b ≠ w8.heap.size → w14.heap[b]? = w12.heap[b]? := fun b hb hne => (hC14.block b (by omega) (fun h => by rcases h with h | h; (· exact hne h); (· have := (hnl1 b h).1; omega))).trans (hkk13 b hb hne)
  have hb414 : Blk w14 _ _ _ := (hC14.block _ (by omega) (fun h => by rcases h with h | h; (· omega); (· have := (hnl1 _ h).1; omega))).trans hb413
  have hnl2 := fun g hg => hf14.lt g hg
  obtain ⟨fo, fc, rfl, hfs⟩ := inn14.sl (F := fun b => b < w14.heap.size ∧ w7.heap.size ≤ b) hf14 (fun b hb => ⟨hb.1, by have h := hb.2; exact Nat.le_of_not_lt (fun hx => h (.inr (.inr hx)))⟩) (fun g hg => ⟨(hnl2 g hg).2.1, by have := (hnl2 g hg).1; omega⟩)
  clear hb413 hlo13 hf2
  (repeat (first | (apply WL.pure; rfl; rfl; rfl) | (apply WL.nil) | (apply EX.thenN) | (apply CW.seq) | (apply CW.region) | (apply WL.fa; rfl; rfl; rfl) | (apply WL.nck; rfl; rfl; rfl) | (apply WL.ldA; rfl; rfl; rfl; assumption; rfl)))
  refine WL.st rfl rfl rfl hb414 rfl rfl (ones_of rfl) (fun w15 hb15 hg15 => ?_)
  have y15 := hg15.size
  have hE15 : Ext w0 w15 := hE14.grown hg15 hE14.size (fun g hg => by cases hg; omega)
  have hkk15 : ∀ b, b < w14.heap.size → w7.heap.size ≤ b → w15.heap[b]? = w14.heap[b]? := fun b hb hge => hg15.block b hb (fun e => by have := Option.some.inj e; omega)
  have hfin : ∀ b, Fz w12 (fun b => b = w8.heap.size ∨ b < w7.heap.size) b → w15.heap[b]? = w12.heap[b]? := fun b hb => (hkk15 b (by have := hb.1; omega) (Nat.le_of_not_lt (fun hx => hb.2 (.inr hx)))).trans (hkk14 b hb.1 (fun h => hb.2 (.inl h)))
  have hle : ∀ b, Fz w12 (fun b => b = w8.heap.size ∨ b < w7.heap.size) b → Old w15 b := fun b hb => (show b < w15.heap.size by have := hb.1; omega)
  obtain ⟨mo', mc', em, hms⟩ := hom.slF (F' := Fz w12 (fun b => b = w8.heap.size ∨ b < w7.heap.size)) (fun _ h => h.elim) (fun g hg => ⟨(hom.lt g hg).2.1, fun h => by have := (hom.lt g hg).1; rcases h with h | h <;> omega⟩)
  obtain ⟨rfl, _, rfl⟩ := Value.slice.inj em
  obtain ⟨no', nc', en, hns⟩ := hon.slF (F' := Fz w12 (fun b => b = w8.heap.size ∨ b < w7.heap.size)) (fun _ h => h.elim) (fun g hg => ⟨(hon.lt g hg).2.1, fun h => by have := (hon.lt g hg).1; rcases h with h | h <;> omega⟩)
  obtain ⟨rfl, _, rfl⟩ := Value.slice.inj en
  (repeat (first | (apply WL.pure; rfl; rfl; rfl) | (apply WL.nil) | (apply EX.thenN) | (apply CW.ret)))
  exact EX.retC2 rfl rfl rfl hb15 rfl ⟨⟨_, rfl, ⟨uo, uc, no, nc, mo, mc, nvo, nvc, fo, fc, rfl, hso12.mono hfin hle, hno12.mono hfin hle, hms.mono hfin hle, hns.mono hfin hle, hfs.mono (fun b hb => hkk15 b hb.1 hb.2) (fun b hb => (show b < w15.heap.size by have := hb.1; omega))⟩⟩, hE15⟩
end Go.Proofs.Ytllpfgcngokhnaa
/-
  Both, by its error.
-/
set_option linter.unusedVariables false
set_option linter.unusedSimpArgs false
namespace Go.Proofs.Ytllpfgcngokhnaa
open Go.RowKit

theorem bothE_ok {A B : LAuto} (h : (bothE A B).2 = 0) : OkA A ∧ OkA B ∧ (madeE (bothNext A B) (bothStart A B)).2.1 = true ∧ A.2.2.2.2.length + B.2.2.2.2.length ≤ 80 ∧ (bothE A B).1 = bothL A B := by
  unfold bothE at h ⊢
  split at h
  · rename_i g; exact absurd h g
  rename_i g1
  split at h
  · rename_i g; exact absurd h g
  rename_i g2
  split at h
  case isFalse => simp at h
  rename_i g3
  rw [if_neg g1, if_neg g2, if_pos g3]
  exact ⟨chkA_ok (by simpa using g1), chkA_ok (by simpa using g2), g3.1, g3.2, rfl⟩
theorem bothE_err {A B : LAuto} (h : (bothE A B).2 ≠ 0) : (bothE A B).1 = nilA := by
  unfold bothE at h ⊢
  split
  · rfl
  rename_i g1
  split
  · rfl
  rename_i g2
  rw [if_neg g1, if_neg g2] at h
  split
  · rename_i g3; rw [if_pos g3] at h; exact absurd rfl h
  · rfl
end Go.Proofs.Ytllpfgcngokhnaa
/-
  EmptyTakes: walked.
-/
set_option linter.unusedVariables false
set_option linter.unusedSimpArgs false
namespace Go.Proofs.Ytllpfgcngokhnaa
open Go.RowKit

theorem both_rows {A B : LAuto} (h : (madeE (bothNext A B) (bothStart A B)).2.1 = true) : (∀ j, ((bothL A B).2.1.getD j []).length ≤ 1048576) ∧ (bothL A B).1.length ≤ 1048576 := by
  have hm := made_in h
  have hn := hm.n
  refine ⟨fun j => ?_, by have := hm.sl; exact Nat.le_trans this (by decide)⟩
  show ((madeE (bothNext A B) (bothStart A B)).2.2.getD j []).length ≤ 1048576
  by_cases hj : j < (madeE (bothNext A B) (bothStart A B)).2.2.length
  · rw [List.getD_eq_getElem?_getD, List.getElem?_eq_getElem hj]
    have h1 := List.getElem_mem hj
    have h2 := okL_nodup_len (madeGo_nd _ _ _ _ [] (fun r hr => by cases hr) _ h1) (hm.no _ h1)
    show (madeE (bothNext A B) (bothStart A B)).2.2[j].length ≤ 1048576
    omega
  · rw [List.getD_eq_getElem?_getD, List.getElem?_eq_none (by omega)]; exact Nat.zero_le _
theorem found_is {W : LWorld} {A : LAuto2} {s l : List Int} {is : Bool} {err : Int} (h : FoundE W A s l is err) (he : err = 0) : chkE W = 0 ∧ chkA A = 0 ∧ (is = true ↔ EWay W A) := by
  rcases h with ⟨h, _⟩ | ⟨_, h1, h2, ⟨h3, _, _, h4⟩ | ⟨h3, h4, _⟩⟩
  · exact absurd he h
  · exact ⟨h1, h2, by rw [h3]; exact ⟨(fun h => by cases h), fun h => absurd h h4⟩⟩
  · exact ⟨h1, h2, by rw [h3]; exact ⟨fun _ => h4, fun _ => rfl⟩⟩
theorem found_err {W : LWorld} {A : LAuto2} {s l : List Int} {is : Bool} {err : Int} (h : FoundE W A s l is err) (he : err ≠ 0) : is = false ∧ (chkE W = 0 → chkA A = 0 → False) := by
  rcases h with ⟨_, h, _, _, h2⟩ | ⟨h, _⟩
  · exact ⟨h, h2⟩
  · exact absurd h he
set_option maxHeartbeats 2000000 in
theorem EmptyTakes_ok (w0 : World) {va vb : Value} {W : LWorld} {A B : LAuto2} {s0 l0 : List Int} {o1 o2 o3 o4 so0 lo0 : Option Addr} {c1 c2 c3 c4 sc0 lc0 : Nat} (h1 : Sl w0 (Old w0) o1 c1 W.1) (h2 : Sl w0 (Old w0) o2 c2 W.2.1) (h3 : Sl w0 (Old w0) o3 c3 W.2.2.1) (h4 : Sl w0 (Old w0) o4 c4 W.2.2.2)
    (ha : AutoAt w0 (Old w0) va A) (hb : AutoAt w0 (Old w0) vb B) (hs0 : Sl w0 (Old w0) so0 sc0 s0) (hl0 : Sl w0 (Old w0) lo0 lc0 l0)
    (sW : ∀ j, (W.2.1.getD j []).length ≤ 1048576) (sA : ∀ j, (A.2.1.getD j []).length ≤ 1048576) (sB : ∀ j, (B.2.1.getD j []).length ≤ 1048576) (tW : W.1.length ≤ 1048576) (tA : A.1.length ≤ 1048576) (tB : B.1.length ≤ 1048576) (eA : edges A.2.1 + A.1.length ≤ 8589934592) :
    Rt Try.prog 4 [worldV o1 c1 o2 c2 o3 c3 o4 c4 W.1.length W.2.1.length W.2.2.1.length W.2.2.2.length, va, vb, pathV so0 sc0 lo0 lc0 s0 l0].toArray w0 fun v w' => v = .bool true ∧ Ext w0 w' := by
  have ha0 := ha
  have hb0 := hb
  have hm3 := h3.len63
  obtain ⟨k1, d1, k2, d2, k3, d3, k4, d4, k5, d5, rfl, g1, g2, g3, g4, g5⟩ := ha.ok
  clear g1 g2 g3 g4 g5 ha
  obtain ⟨m1, f1, m2, f2, m3, f3, m4, f4, m5, f5, rfl, g1, g2, g3, g4, g5⟩ := hb.ok
  clear g1 g2 g3 g4 g5 hb
  refine Rt.enter4 Try.func4 Try.ntmps4 rfl rfl ?_
  have hE := Ext.refl w0
  (repeat (first | (apply CW.seq) | (apply CW.region)))
  refine WL.boxB rfl rfl rfl fun w1 hb4 e1 => ?_
  have hE := hE.trans e1
  skip
  refine WL.boxB rfl rfl rfl fun w2 hb5 e2 => ?_
  have hb4 := hb4.ext e2
  have hE := hE.trans e2
  skip
  refine WL.boxB rfl rfl rfl fun w3 hb6 e3 => ?_
  have hb4 := hb4.ext e3
  have hb5 := hb5.ext e3
  have hE := hE.trans e3
  skip
  refine WL.boxB rfl rfl rfl fun w4 hb7 e4 => ?_
  have hb4 := hb4.ext e4
  have hb5 := hb5.ext e4
  have hb6 := hb6.ext e4
  have hE := hE.trans e4
  (repeat (first | (apply WL.pure; rfl; rfl; rfl) | (apply WL.nil) | (apply EX.thenN) | (apply CW.seq) | (apply CW.region)))
  refine WL.call rfl rfl rfl (wturns_okL w4) ?_
  rintro _ w5 ⟨⟨p1, q1, p2, q2, p3, q3, p4, q4, rfl, t1, t2, t3, t4⟩, e5⟩
  refine WL.call rfl rfl rfl (ones_ok w5) ?_
  rintro vo w6 ⟨hon, e6⟩
  refine WL.call rfl rfl rfl (find_ok w6 (W := turnsW) (A := onesA) (t1.up e6) (t2.up e6) (t3.up e6) (t4.up e6) hon turnsW_row onesA_row (by decide) (by decide)) ?_
  rintro _ w7 ⟨⟨s, l, is, err, so, sc, lo, lc, rfl, hs, hl, hF⟩, e7⟩
  obtain ⟨rfl, rfl, _⟩ := found_turns hF
  have e47 := (e5.trans e6).trans e7
  have hb4 := hb4.ext e47
  have hb5 := hb5.ext e47
  have hb6 := hb6.ext e47
  have hb7 := hb7.ext e47
  have hE := hE.trans e47
  clear hF hon t1 t2 t3 t4 e47 e1 e2 e3 e4 e5 e6
  (repeat (apply WL.pure; rfl; rfl; rfl))
  refine WL.alloc rfl rfl (fun w8 hb9 e8 => ?_)
  skip
  refine WL.st rfl rfl rfl hb9 rfl rfl (ones_of rfl) (fun w9 hb9 hg9 => ?_)
  have e9 : Ext w7 w9 := e8.grown hg9 e8.size (fun g hg => by cases hg; exact Nat.le_refl _)
  have hb4 := hb4.ext e9
  have hb5 := hb5.ext e9
  have hb6 := hb6.ext e9
  have hb7 := hb7.ext e9
  have hE := hE.trans e9
  clear e8 hg9 hb9 hs hl e7
  (repeat (first | (apply WL.pure; rfl; rfl; rfl) | (apply WL.nil) | (apply EX.thenN) | (apply CW.seq) | (apply CW.region) | (apply WL.ldA; rfl; rfl; rfl; assumption; rfl) | (apply CW.condF; rfl) | (apply CW.skip)))
  refine WL.call rfl rfl rfl (find_ok w9 (W := W) (A := A) (h1.up hE) (h2.up hE) (h3.up hE) (h4.up hE) (ha0.up hE) sW sA tW tA) ?_
  rintro _ w10 ⟨⟨s, l, is1, err1, so, sc, lo, lc, rfl, hs, hl, hF1⟩, e10⟩
  have hb4 := hb4.ext e10
  have hb5 := hb5.ext e10
  have hb6 := hb6.ext e10
  have hb7 := hb7.ext e10
  have hE := hE.trans e10
  (repeat (apply WL.pure; rfl; rfl; rfl))
  refine WL.alloc rfl rfl (fun w11 hb12 e11 => ?_)
  skip
  refine WL.st rfl rfl rfl hb12 rfl rfl (ones_of rfl) (fun w12 hb12 hg12 => ?_)
  have e12 : Ext w10 w12 := e11.grown hg12 e11.size (fun g hg => by cases hg; exact Nat.le_refl _)
  have hb4 := hb4.ext e12
  have hb5 := hb5.ext e12
  have hb6 := hb6.ext e12
  have hb7 := hb7.ext e12
  have hE := hE.trans e12
  clear e11 hg12 hb12 hs hl e10 e9 e12
  (repeat (first | (apply WL.pure; rfl; rfl; rfl) | (apply WL.nil) | (apply EX.thenN) | (apply CW.seq) | (apply CW.region)))
  refine CW.cond rfl (fun h => ?_) (fun h => ?_)
  · have h : err1 ≠ 0 := by simpa using h
    obtain ⟨rfl, _⟩ := found_err hF1 h
    (repeat (first | (apply WL.pure; rfl; rfl; rfl) | (apply WL.nil) | (apply EX.thenN) | (apply CW.seq) | (apply CW.region) | (apply CW.ret) | (apply EX.thenR)))
    exact EX.ret1 rfl rfl ⟨rfl, hE⟩
  have h : err1 = 0 := by simpa using h
  obtain ⟨hW, hA, hi1⟩ := found_is hF1 h
  have okA := chkA_ok hA
  clear h hF1
  apply CW.skip
  apply EX.thenN
  refine CW.cutE [(4, .pointer (some ⟨w0.heap.size, 0, none⟩)), (5, .pointer (some ⟨w1.heap.size, 0, none⟩)), (6, .pointer (some ⟨w2.heap.size, 0, none⟩)), (13, .bool is1)] ?_ ?_
  · (repeat (first | (apply CW.seq) | (apply CW.region) | (apply WL.ldA; rfl; rfl; rfl; assumption; rfl)))
    refine WL.call rfl rfl rfl (Good_ok w12 (h1.up hE) (h2.up hE) hm3 (h4.up hE) (hs0.up hE) (hl0.up hE)) ?_
    rintro _ w13 ⟨rfl, e13⟩
    have hb4 := hb4.ext e13
    have hb5 := hb5.ext e13
    have hb7 := hb7.ext e13
    have hE := hE.trans e13
    by_cases hG : goodF W.1 W.2.1 W.2.2.1.length W.2.2.2 s0 l0 = (true, 0)
    case neg =>
      by_cases h0 : (goodF W.1 W.2.1 W.2.2.1.length W.2.2.2 s0 l0).2 = 0
      · have h1 : (goodF W.1 W.2.1 W.2.2.1.length W.2.2.2 s0 l0).1 = false := by
          cases e : (goodF W.1 W.2.1 W.2.2.1.length W.2.2.2 s0 l0).1
          · rfl
          · exact absurd (Prod.ext e h0) hG
        rw [h0, h1]
        (repeat (first | (apply WL.pure; rfl; rfl; rfl) | (apply WL.nil) | (apply EX.thenN) | (apply CW.seq) | (apply CW.region) | (apply CW.condF; rfl) | (apply CW.skip)))
        exact EX.cutE (by repeat (first | exact trivial | refine ⟨rfl, ?_⟩)) e13
      · have hb : ((goodF W.1 W.2.1 W.2.2.1.length W.2.2.2 s0 l0).2 == 0) = false := by simpa using h0
        (repeat (first | (apply WL.pure; rfl; rfl; rfl) | (apply WL.nil) | (apply EX.thenN) | (apply CW.seq) | (apply CW.region)))
        rw [hb]
        (repeat (first | (apply WL.pure; rfl; rfl; rfl) | (apply WL.nil) | (apply EX.thenN) | (apply WL.pass; rfl; rfl) | (apply CW.condF; rfl) | (apply CW.skip)))
        exact EX.cutE (by repeat (first | exact trivial | refine ⟨rfl, ?_⟩)) e13
    obtain ⟨hs6, hl6⟩ := goodF_len hG
    rw [hG]
    (repeat (first | (apply WL.pure; rfl; rfl; rfl) | (apply WL.nil) | (apply EX.thenN) | (apply CW.seq) | (apply CW.region) | (apply WL.ldA; rfl; rfl; rfl; assumption; rfl) | (apply CW.condT; rfl)))
    refine WL.call rfl rfl rfl (Word_ok w13 (h1.up hE) (h2.up hE) (h3.up hE) (h4.up hE) (hs0.up hE) (hl0.up hE) hs6 hl6) ?_
    rintro _ w14 ⟨x, rfl, hx, e14⟩
    obtain ⟨xo, xc, yo, yc, rfl, hxs, hxl⟩ := hx.word
    have hb5 := hb5.ext e14
    have hE := hE.trans e14
    (repeat (apply WL.pure; rfl; rfl; rfl))
    refine WL.alloc rfl rfl (fun w15 hb17 e15 => ?_)
    skip
    refine WL.st rfl rfl rfl hb17 rfl rfl (ones_of rfl) (fun w16 hb17 hg16 => ?_)
    have e16 : Ext w14 w16 := e15.grown hg16 e15.size (fun g hg => by cases hg; exact Nat.le_refl _)
    have hb5 := hb5.ext e16
    have hE := hE.trans e16
    have hxs := hxs.up e16
    have hxl := hxl.up e16
    have e1216 := (e13.trans e14).trans e16
    clear e15 hg16
    by_cases hw : (wordF W.1 W.2.1 W.2.2.1 W.2.2.2 s0 l0).2 = 0
    case neg =>
      have hb : ((wordF W.1 W.2.1 W.2.2.1 W.2.2.2 s0 l0).2 == 0) = false := by simpa using hw
      (repeat (first | (apply WL.pure; rfl; rfl; rfl) | (apply WL.nil) | (apply EX.thenN) | (apply CW.seq) | (apply CW.region)))
      rw [hb]
      (repeat (first | (apply CW.condF; rfl) | (apply CW.skip)))
      exact EX.cutE (by repeat (first | exact trivial | refine ⟨rfl, ?_⟩)) e1216
    have hway := path_way (s := s0) (l := l0) okA hG hw
    rw [hw]
    (repeat (first | (apply WL.pure; rfl; rfl; rfl) | (apply WL.nil) | (apply EX.thenN) | (apply CW.seq) | (apply CW.region) | (apply WL.ldA; rfl; rfl; rfl; assumption; rfl) | (apply CW.condT; rfl)))
    refine WL.call rfl rfl rfl (Accepts_ok w16 (A := A) (ha0.up hE) hxs hxl eA) ?_
    rintro _ w17 ⟨rfl, e17⟩
    cases hac : (accF A (wordF W.1 W.2.1 W.2.2.1 W.2.2.2 s0 l0).1.1 (wordF W.1 W.2.1 W.2.2.1 W.2.2.2 s0 l0).1.2).1
    · (repeat (first | (apply WL.pure; rfl; rfl; rfl) | (apply WL.nil) | (apply EX.thenN) | (apply CW.seq) | (apply CW.region) | (apply WL.pass; rfl; rfl) | (apply CW.condF; rfl) | (apply CW.skip)))
      exact EX.cutE (by repeat (first | exact trivial | refine ⟨rfl, ?_⟩)) (e1216.trans e17)
    · obtain rfl : is1 = true := hi1.2 (hway hac)
      (repeat (first | (apply WL.pure; rfl; rfl; rfl) | (apply WL.nil) | (apply EX.thenN) | (apply CW.seq) | (apply CW.region) | (apply CW.condF; rfl) | (apply CW.skip)))
      exact EX.cutE (by repeat (first | exact trivial | refine ⟨rfl, ?_⟩)) (e1216.trans e17)
  intro w13 e13
  have hb4 := hb4.ext e13
  have hb5 := hb5.ext e13
  have hb6 := hb6.ext e13
  have hE := hE.trans e13
  clear hb7 e13
  (repeat (first | (apply CW.seq) | (apply CW.region) | (apply WL.ldA; rfl; rfl; rfl; assumption; rfl)))
  refine WL.call rfl rfl rfl (Both_ok w13 (ha0.up hE) (hb0.up hE) sA sB tA tB) ?_
  rintro _ w14 ⟨⟨rv, rfl, hr⟩, e14⟩
  have hb4 := hb4.ext e14
  have hb5 := hb5.ext e14
  have hb6 := hb6.ext e14
  have hE := hE.trans e14
  have hok := bothE_ok (A := A) (B := B)
  generalize (bothE A B).2 = eb at *
  generalize (bothE A B).1 = C at *
  obtain ⟨u1, n1, u2, n2, u3, n3, u4, n4, u5, n5, rfl, p1, p2, p3, p4, p5⟩ := hr.ok
  clear hr
  (repeat (apply WL.pure; rfl; rfl; rfl))
  refine WL.alloc rfl rfl (fun w15 hb21 e15 => ?_)
  skip
  refine WL.st rfl rfl rfl hb21 rfl rfl (ones_of rfl) (fun w16 hb21 hg16 => ?_)
  have e16 : Ext w14 w16 := e15.grown hg16 e15.size (fun g hg => by cases hg; exact Nat.le_refl _)
  have hb4 := hb4.ext e16
  have hb6 := hb6.ext e16
  have hE := hE.trans e16
  have hC : AutoAt w16 (Old w16) _ C := ⟨u1, n1, u2, n2, u3, n3, u4, n4, u5, n5, rfl, p1.up e16, p2.up e16, p3.up e16, p4.up e16, p5.up e16⟩
  clear e14 e15 e16 hg16 p1 p2 p3 p4 p5 hb5
  (repeat (first | (apply WL.pure; rfl; rfl; rfl) | (apply WL.nil) | (apply EX.thenN) | (apply CW.seq) | (apply CW.region) | (apply WL.ldA; rfl; rfl; rfl; assumption; rfl)))
  refine WL.call rfl rfl rfl (find_ok w16 (W := W) (A := B) (h1.up hE) (h2.up hE) (h3.up hE) (h4.up hE) (hb0.up hE) sW sB tW tB) ?_
  rintro _ w17 ⟨⟨s, l, is2, err2, so, sc, lo, lc, rfl, hs, hl, hF2⟩, e17⟩
  have hb4 := hb4.ext e17
  have hb21 := hb21.ext e17
  have hE := hE.trans e17
  have hC := hC.up e17
  (repeat (apply WL.pure; rfl; rfl; rfl))
  refine WL.alloc rfl rfl (fun w18 hb23 e18 => ?_)
  skip
  refine WL.st rfl rfl rfl hb23 rfl rfl (ones_of rfl) (fun w19 hb23 hg19 => ?_)
  have e19 : Ext w17 w19 := e18.grown hg19 e18.size (fun g hg => by cases hg; exact Nat.le_refl _)
  have hb4 := hb4.ext e19
  have hb21 := hb21.ext e19
  have hE := hE.trans e19
  have hC := hC.up e19
  clear e17 e18 e19 hg19 hb23 hs hl hb6
  by_cases he : eb = 0
  case neg =>
    have hb : (eb != 0) = true := by simpa using he
    (repeat (first | (apply WL.pure; rfl; rfl; rfl) | (apply WL.nil) | (apply EX.thenN) | (apply CW.seq) | (apply CW.region)))
    rw [hb]
    (repeat (first | (apply WL.pure; rfl; rfl; rfl) | (apply WL.nil) | (apply EX.thenN) | (apply CW.seq) | (apply CW.region) | (apply WL.pass; rfl; rfl) | (apply CW.condT; rfl) | (apply CW.ret) | (apply EX.thenR)))
    exact EX.ret1 rfl rfl ⟨rfl, hE⟩
  obtain ⟨_, okB, hmade, h80, rfl⟩ := hok he
  subst he
  by_cases he : err2 = 0
  case neg =>
    have hb : (err2 != 0) = true := by simpa using he
    (repeat (first | (apply WL.pure; rfl; rfl; rfl) | (apply WL.nil) | (apply EX.thenN) | (apply CW.seq) | (apply CW.region)))
    rw [hb]
    (repeat (first | (apply WL.pure; rfl; rfl; rfl) | (apply WL.nil) | (apply EX.thenN) | (apply CW.seq) | (apply CW.region) | (apply CW.condT; rfl) | (apply CW.ret) | (apply EX.thenR)))
    exact EX.ret1 rfl rfl ⟨rfl, hE⟩
  obtain ⟨_, _, hi2⟩ := found_is hF2 he
  subst he
  clear hF2 hok
  obtain ⟨okC, _⟩ := both_okA hmade h80
  obtain ⟨sC, tC⟩ := both_rows hmade
  (repeat (first | (apply WL.pure; rfl; rfl; rfl) | (apply WL.nil) | (apply EX.thenN) | (apply CW.seq) | (apply CW.region) | (apply WL.ldA; rfl; rfl; rfl; assumption; rfl) | (apply CW.condF; rfl) | (apply CW.skip)))
  refine WL.call rfl rfl rfl (find_ok w19 (W := W) (A := bothL A B) (h1.up hE) (h2.up hE) (h3.up hE) (h4.up hE) hC sW sC tW tC) ?_
  rintro _ w20 ⟨⟨s, l, is3, err3, so, sc, lo, lc, rfl, hs, hl, hF3⟩, e20⟩
  have hE := hE.trans e20
  (repeat (apply WL.pure; rfl; rfl; rfl))
  refine WL.alloc rfl rfl (fun w21 hb26 e21 => ?_)
  skip
  refine WL.st rfl rfl rfl hb26 rfl rfl (ones_of rfl) (fun w22 hb26 hg22 => ?_)
  have e22 : Ext w20 w22 := e21.grown hg22 e21.size (fun g hg => by cases hg; exact Nat.le_refl _)
  have hE := hE.trans e22
  have he3 : err3 = 0 := Decidable.byContradiction fun he => (found_err hF3 he).2 hW (chkA_of okC)
  obtain ⟨_, _, hi3⟩ := found_is hF3 he3
  subst he3
  cases is3 with
  | false =>
    (repeat (first | (apply WL.pure; rfl; rfl; rfl) | (apply WL.nil) | (apply EX.thenN) | (apply CW.seq) | (apply CW.region) | (apply WL.pass; rfl; rfl) | (apply CW.ret)))
    exact EX.ret1 rfl rfl ⟨rfl, hE⟩
  | true =>
    obtain ⟨hx1, hx2⟩ := eway_both (chkE_pos hW) okA okB hmade okC (hi3.1 rfl)
    obtain rfl : is1 = true := hi1.2 hx1
    obtain rfl : is2 = true := hi2.2 hx2
    (repeat (first | (apply WL.pure; rfl; rfl; rfl) | (apply WL.nil) | (apply EX.thenN) | (apply CW.seq) | (apply CW.region) | (apply CW.ret)))
    exact EX.ret1 rfl rfl ⟨rfl, hE⟩
end Go.Proofs.Ytllpfgcngokhnaa
