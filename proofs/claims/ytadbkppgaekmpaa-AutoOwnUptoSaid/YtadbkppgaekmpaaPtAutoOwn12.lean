import Derived.Test.YtadbkppgaekmpaaPtAutoOwn11
/-
  Package auto: the closures of Both and Single, sets: walked.
-/
set_option linter.unusedVariables false
set_option linter.unusedSimpArgs false
namespace Go.Proofs.Ytadbkppgaekmpaa
open Go.RowKit

def rowP (mu no mu' no' : List Nat) (x : Int) (k : List Int) : List Pr2 := (k.filter fun y => decide (mu.getD x.toNat 0 &&& no'.getD y.toNat 0 = 0) && decide (no.getD x.toNat 0 &&& mu'.getD y.toNat 0 = 0)).map fun y => (x, y)
theorem crossP_next {mu no mu' no' : List Nat} {l k : List Int} {i : Nat} (h : i < l.length) : crossP mu no mu' no' (l.take (i + 1)) k = crossP mu no mu' no' (l.take i) k ++ rowP mu no mu' no' l[i] k := by
  unfold crossP
  rw [List.take_add_one, List.getElem?_eq_getElem h, List.flatMap_append]
  simp [rowP]
theorem filter_one {p : Int → Bool} {f : Int → Pr2} {y : Int} : ([y].filter p).map f = if p y = true then [f y] else [] := by
  cases h : p y <;> simp [List.filter, h]
theorem rowP_next {mu no mu' no' : List Nat} {x : Int} {k : List Int} {j : Nat} (h : j < k.length) : rowP mu no mu' no' x (k.take (j + 1)) = rowP mu no mu' no' x (k.take j) ++ if (decide (mu.getD x.toNat 0 &&& no'.getD k[j].toNat 0 = 0) && decide (no.getD x.toNat 0 &&& mu'.getD k[j].toNat 0 = 0)) = true then [(x, k[j])] else [] := by
  unfold rowP
  rw [List.take_add_one, List.getElem?_eq_getElem h, List.filter_append, List.map_append]
  congr 1
  exact filter_one (p := fun y => decide (mu.getD x.toNat 0 &&& no'.getD y.toNat 0 = 0) && decide (no.getD x.toNat 0 &&& mu'.getD y.toNat 0 = 0)) (f := fun y => (x, y))
theorem rowP_len {mu no mu' no' : List Nat} {x : Int} {k : List Int} : (rowP mu no mu' no' x k).length ≤ k.length := by
  unfold rowP
  rw [List.length_map]
  exact List.length_filter_le _ _
theorem crossP_len {mu no mu' no' : List Nat} {k : List Int} : ∀ l : List Int, (crossP mu no mu' no' l k).length ≤ l.length * k.length
  | [] => by simp [crossP]
  | x :: r => by
    have h1 := crossP_len (mu := mu) (no := no) (mu' := mu') (no' := no') (k := k) r
    have h2 := rowP_len (mu := mu) (no := no) (mu' := mu') (no' := no') (x := x) (k := k)
    unfold crossP at h1 ⊢
    unfold rowP at h2
    rw [List.flatMap_cons, List.length_append, List.length_cons, Nat.succ_mul]
    omega
theorem mkgetG {l : List (List Int)} {j : Nat} (h : j < l.length) : l.getD j [] = l[j] := by rw [List.getD_eq_getElem?_getD, List.getElem?_eq_getElem h]; rfl
theorem wgetN' {l : List Nat} {j : Nat} (h : j < l.length) : l.getD j 0 = l[j] := by rw [List.getD_eq_getElem?_getD, List.getElem?_eq_getElem h]; rfl
set_option maxHeartbeats 1000000 in
theorem cross_ok (w0 : World) {b2 b3 : Nat} {F : Nat → Prop} {m1 m2 n1 n2 lo ko : Option Addr} {d1 d2 f1 f2 lc kc : Nat} {x0 x1 x4 y0 y1 y4 : Value} {mu no mu' no' : List Nat} {l k : List Int} {N N' : Nat}
    (hb2 : Blk w0 b2 26 [x0, x1, .slice m1 mu.length d1, .slice m2 no.length d2, x4]) (hb3 : Blk w0 b3 26 [y0, y1, .slice n1 mu'.length f1, .slice n2 no'.length f2, y4])
    (hm1 : Sl w0 F m1 d1 mu) (hm2 : Sl w0 F m2 d2 no) (hn1 : Sl w0 F n1 f1 mu') (hn2 : Sl w0 F n2 f2 no') (hl : Sl w0 F lo lc l) (hk : Sl w0 F ko kc k) (hF : ∀ b, F b → b < w0.heap.size)
    (e1 : mu.length = N) (e2 : no.length = N) (e3 : mu'.length = N') (e4 : no'.length = N') (okl : okL N l) (okk : okL N' k) (hln : l.length * k.length + k.length ≤ 2199023255552) :
    Rt Try.prog 76 [.slice lo l.length lc, .slice ko k.length kc, .pointer (some ⟨b2, 0, none⟩), .pointer (some ⟨b3, 0, none⟩)].toArray w0 fun v w' => Own w' w0.heap.size 133 Non v (crossP mu no mu' no' l k) ∧ Ext w0 w' := by
  have hl63 := hl.len63
  have hk63 := hk.len63
  refine Rt.enter4 Try.func76 Try.ntmps76 rfl rfl ?_
  (repeat (first | (apply WL.pure; rfl; rfl; rfl) | (apply WL.nil) | (apply EX.thenN) | (apply CW.seq) | (apply CW.region) | (apply WL.lenS; rfl; rfl; rfl) | (apply CW.block)))
  refine CW.loop (S := Nat × Value) (fun s => [(1, .slice ko k.length kc), (2, .pointer (some ⟨b2, 0, none⟩)), (3, .pointer (some ⟨b3, 0, none⟩)), (7, s.2), (12, .slice lo l.length lc), (13, .int .i64 l.length), (14, .int .i64 s.1)])
    (fun s w => s.1 ≤ l.length ∧ Own w w0.heap.size 133 Non s.2 (crossP mu no mu' no' (l.take s.1) k) ∧ Ext w0 w) (fun s => l.length - s.1) (0, .slice none 0 0) (by repeat (first | exact trivial | refine ⟨rfl, ?_⟩)) ⟨Nat.zero_le _, Own.nil, Ext.refl _⟩ ?_
  rintro ⟨i, ov⟩ w1 ⟨hi, ho, e⟩
  dsimp only at hi ho e ⊢
  (repeat (first | (apply WL.pure; rfl; rfl; rfl) | (apply WL.nil) | (apply EX.thenN) | (apply CW.seq) | (apply CW.region)))
  refine CW.cond rfl (fun h => ?_) (fun h => ?_)
  · have hi' : i < l.length := by simp only [decide_eq_true_eq] at h; omega
    have hx0 := okl _ (List.getElem_mem hi')
    have hnx := crossP_next (mu := mu) (no := no) (mu' := mu') (no' := no') (k := k) hi'
    have hcl := crossP_len (mu := mu) (no := no) (mu' := mu') (no' := no') (k := k) (l.take i)
    have hcl2 : (l.take i).length * k.length ≤ l.length * k.length := Nat.mul_le_mul_right _ (by rw [List.length_take]; omega)
    clear h
    (repeat (first | (apply EX.thenN) | (apply CW.seq) | (apply CW.region) | (apply CW.block) | (apply CW.skip)))
    refine WL.elemN (i := i) rfl rfl rfl rfl rfl (hl.up0 e hF) hi' (fun _ => rfl) (fun u q hu => ?_)
    rw [hu.int]
    clear hu
    obtain ⟨x, hx⟩ : ∃ x : Nat, l[i] = (x : Int) := ⟨(l[i]).toNat, by omega⟩
    rw [hx] at hnx hx0 ⊢
    generalize crossP mu no mu' no' (l.take i) k = C at *
    have hxN : x < N := by omega
    (repeat (first | (apply WL.pure; rfl; rfl; rfl) | (apply WL.nil) | (apply EX.thenN) | (apply CW.seq) | (apply CW.region) | (apply WL.lenS; rfl; rfl; rfl) | (apply CW.block)))
    refine CW.loop (S := Nat × Value) (fun s => [(1, .slice ko k.length kc), (2, .pointer (some ⟨b2, 0, none⟩)), (3, .pointer (some ⟨b3, 0, none⟩)), (7, s.2), (9, .int .i64 x), (12, .slice lo l.length lc), (13, .int .i64 l.length), (14, .int .i64 i), (18, .slice ko k.length kc), (19, .int .i64 k.length), (20, .int .i64 s.1)])
      (fun s w => s.1 ≤ k.length ∧ Own w w0.heap.size 133 Non s.2 (C ++ rowP mu no mu' no' x (k.take s.1)) ∧ Ext w0 w) (fun s => k.length - s.1) (0, ov) (by repeat (first | exact trivial | refine ⟨rfl, ?_⟩)) ⟨Nat.zero_le _, by simpa [rowP] using ho, e⟩ ?_
    clear ho e
    rintro ⟨j, rv⟩ w2 ⟨hj, ho, e⟩
    dsimp only at hj ho e ⊢
    (repeat (first | (apply WL.pure; rfl; rfl; rfl) | (apply WL.nil) | (apply EX.thenN) | (apply CW.seq) | (apply CW.region)))
    refine CW.cond rfl (fun h => ?_) (fun h => ?_)
    · have hj' : j < k.length := by simp only [decide_eq_true_eq] at h; omega
      have hy0 := okk _ (List.getElem_mem hj')
      have hrn := rowP_next (mu := mu) (no := no) (mu' := mu') (no' := no') (x := (x : Int)) hj'
      have hrl := rowP_len (mu := mu) (no := no) (mu' := mu') (no' := no') (x := (x : Int)) (k := k.take j)
      rw [List.length_take] at hrl
      clear h
      have hb2 := hb2.ext e
      have hb3 := hb3.ext e
      (repeat (first | (apply EX.thenN) | (apply CW.seq) | (apply CW.region) | (apply CW.block) | (apply CW.skip)))
      refine WL.elemN (i := j) rfl rfl rfl rfl rfl (hk.up0 e hF) hj' (fun _ => rfl) (fun u q hu => ?_)
      rw [hu.int]
      clear hu
      obtain ⟨y, hy⟩ : ∃ y : Nat, k[j] = (y : Int) := ⟨(k[j]).toNat, by omega⟩
      rw [hy] at hrn hy0 ⊢
      have hyN : y < N' := by omega
      rw [Int.toNat_natCast, Int.toNat_natCast] at hrn
      generalize hR : rowP mu no mu' no' (x : Int) (k.take (j + 1)) = R1 at *
      generalize rowP mu no mu' no' (x : Int) (k.take j) = R0 at *
      have hF2 : ∀ b, F b → b < w2.heap.size := fun b hb => Nat.lt_of_lt_of_le (hF b hb) e.size
      (repeat (first | (apply WL.pure; rfl; rfl; rfl) | (apply QL.pure; rfl; rfl; rfl) | (apply WL.nil) | (apply EX.thenN) | (apply CW.seq) | (apply QL.fa; rfl; rfl; rfl) | (apply QL.ld; rfl; rfl; rfl; assumption; rfl) | (apply CW.draw; exact mixed; kernel_rfl)))
      refine QL.elemN (i := x) rfl rfl rfl rfl rfl hF2 (hm1.up0 e hF) (show x < mu.length by omega) (fun _ => rfl) (fun u q hu => ?_)
      obtain ⟨rfl, g1⟩ := hu.u64
      rw [← wgetN'] at g1 ⊢
      (repeat (first | (apply QL.pure; rfl; rfl; rfl) | (apply QL.fa; rfl; rfl; rfl) | (apply QL.ld; rfl; rfl; rfl; assumption; rfl)))
      refine QL.elemN (i := y) rfl rfl rfl rfl rfl hF2 (hn2.up0 e hF) (show y < no'.length by omega) (fun _ => rfl) (fun u q hu => ?_)
      obtain ⟨rfl, g2⟩ := hu.u64
      rw [← wgetN'] at g2 ⊢
      refine QL.andN rfl rfl rfl rfl g1 g2 ?_
      generalize mu.getD x 0 &&& no'.getD y 0 = z1 at *
      clear g1 g2 hu
      by_cases hz1 : z1 = 0
      case neg =>
        have hz : (((z1 : Nat) : Int) == 0) = false := by
          have : (z1 : Int) ≠ 0 := by omega
          simpa using this
        rw [decide_eq_false hz1, Bool.false_and, if_neg (by decide), List.append_nil] at hrn
        (repeat (apply QL.pure; rfl; rfl; rfl))
        rw [hz]
        (repeat (first | (apply QL.pure; rfl; rfl; rfl) | (apply QL.pass; rfl; rfl)))
        refine QL.nil fun w3 e3 => ?_
        (repeat (first | (apply WL.add; rfl; rfl; rfl; rfl; omega; omega) | (apply WL.pure; rfl; rfl; rfl) | (apply WL.nil) | (apply EX.thenN) | (apply CW.region) | (apply EX.inN) | (apply CW.condF; rfl) | (apply CW.skip)))
        exact EX.back (j + 1, rv) (by repeat (first | exact trivial | refine ⟨rfl, ?_⟩)) ⟨hj', by dsimp only; rw [hR, hrn]; exact ho.extN e3, e.trans e3⟩ (by dsimp only; omega)
      have hz : (((z1 : Nat) : Int) == 0) = true := by subst hz1; rfl
      rw [decide_eq_true hz1, Bool.true_and] at hrn
      (repeat (apply QL.pure; rfl; rfl; rfl))
      rw [hz]
      (repeat (first | (apply QL.pure; rfl; rfl; rfl) | (apply QL.fa; rfl; rfl; rfl) | (apply QL.ld; rfl; rfl; rfl; assumption; rfl)))
      refine QL.elemN (i := x) rfl rfl rfl rfl rfl hF2 (hm2.up0 e hF) (show x < no.length by omega) (fun _ => rfl) (fun u q hu => ?_)
      obtain ⟨rfl, g1⟩ := hu.u64
      rw [← wgetN'] at g1 ⊢
      (repeat (first | (apply QL.pure; rfl; rfl; rfl) | (apply QL.fa; rfl; rfl; rfl) | (apply QL.ld; rfl; rfl; rfl; assumption; rfl)))
      refine QL.elemN (i := y) rfl rfl rfl rfl rfl hF2 (hn1.up0 e hF) (show y < mu'.length by omega) (fun _ => rfl) (fun u q hu => ?_)
      obtain ⟨rfl, g2⟩ := hu.u64
      rw [← wgetN'] at g2 ⊢
      refine QL.andN rfl rfl rfl rfl g1 g2 ?_
      generalize no.getD x 0 &&& mu'.getD y 0 = z2 at *
      clear g1 g2 hu
      by_cases hz2 : z2 = 0
      case neg =>
        have hz : (((z2 : Nat) : Int) == 0) = false := by
          have : (z2 : Int) ≠ 0 := by omega
          simpa using this
        rw [decide_eq_false hz2, if_neg (by decide), List.append_nil] at hrn
        (repeat (apply QL.pure; rfl; rfl; rfl))
        rw [hz]
        skip
        refine QL.nil fun w3 e3 => ?_
        (repeat (first | (apply WL.add; rfl; rfl; rfl; rfl; omega; omega) | (apply WL.pure; rfl; rfl; rfl) | (apply WL.nil) | (apply EX.thenN) | (apply CW.region) | (apply EX.inN) | (apply CW.condF; rfl) | (apply CW.skip)))
        exact EX.back (j + 1, rv) (by repeat (first | exact trivial | refine ⟨rfl, ?_⟩)) ⟨hj', by dsimp only; rw [hR, hrn]; exact ho.extN e3, e.trans e3⟩ (by dsimp only; omega)
      have hz : (((z2 : Nat) : Int) == 0) = true := by subst hz2; rfl
      rw [decide_eq_true hz2, if_pos rfl] at hrn
      (repeat (apply QL.pure; rfl; rfl; rfl))
      rw [hz]
      skip
      refine QL.nil fun w3 e3 => ?_
      have ho := ho.extN e3
      have e := e.trans e3
      (repeat (first | (apply WL.pure; rfl; rfl; rfl) | (apply EX.thenN) | (apply CW.region) | (apply CW.condT; rfl)))
      refine WL.build rfl rfl rfl rfl ?_
      refine WL.app1 (α := Int × Int) (F := Non) (bytes := 16) (yv := ((x : Int), (y : Int))) rfl rfl (fun _ => rfl) rfl rfl (fun _ => rfl) ho (Rd.mkPr (c1 := [.int .i64 x]) (c2 := [.int .i64 y]) (rd_mkInt _ _ _) (rd_mkInt _ _ _)) e.size (fun _ h => h.elim) (by decide) (by unfold maxLen; rw [List.length_append]; omega) (by rw [List.length_append]; omega) (fun rv' w4 q ho4 hg4 hnb4 => ?_)
      rw [List.append_assoc, ← hrn, ← hR] at ho4
      (repeat (first | (apply WL.add; rfl; rfl; rfl; rfl; omega; omega) | (apply WL.pure; rfl; rfl; rfl) | (apply WL.nil) | (apply EX.thenN) | (apply CW.region) | (apply EX.inN)))
      exact EX.back (j + 1, rv') (by repeat (first | exact trivial | refine ⟨rfl, ?_⟩)) ⟨hj', ho4, Below.grown e hg4 e.size (fun g hg => (ho.lt g hg).1)⟩ (by dsimp only; omega)
    have hje : j = k.length := by simp only [decide_eq_false_iff_not] at h; omega
    subst hje
    rw [List.take_length, ← hnx] at ho
    (repeat (first | (apply WL.add; rfl; rfl; rfl; rfl; omega; omega) | (apply WL.pure; rfl; rfl; rfl) | (apply WL.nil) | (apply EX.thenN) | (apply CW.region) | (apply EX.inN) | (apply CW.exit) | (apply EX.thenX) | (apply EX.inX)))
    exact EX.back (i + 1, rv) (by repeat (first | exact trivial | refine ⟨rfl, ?_⟩)) ⟨hi', ho, e⟩ (by dsimp only; omega)
  have hie : i = l.length := by simp only [decide_eq_false_iff_not] at h; omega
  subst hie
  rw [List.take_length] at ho
  (repeat (first | (apply WL.pure; rfl; rfl; rfl) | (apply WL.nil) | (apply EX.thenN) | (apply CW.seq) | (apply CW.region) | (apply CW.exit) | (apply EX.thenX) | (apply EX.inX) | (apply CW.ret)))
  exact EX.ret1 rfl rfl ⟨ho, e⟩
theorem both3_ok (w : World) (p : Pr2) : Rt Try.prog 79 [prV p].toArray w fun v w' => v = .int .i64 p.1 ∧ Ext w w' := by
  refine Rt.enter1 Try.func79 Try.ntmps79 rfl rfl ?_
  (repeat (first | (apply CW.seq) | (apply CW.region)))
  refine WL.boxB rfl rfl rfl fun w1 hb1 e1 => ?_
  (repeat (first | (apply WL.pure; rfl; rfl; rfl) | (apply WL.nil) | (apply EX.thenN) | (apply CW.seq) | (apply CW.region) | (apply WL.fa; rfl; rfl; rfl) | (apply WL.ld; rfl; rfl; rfl; assumption; rfl) | (apply CW.ret)))
  exact EX.ret1 rfl rfl ⟨rfl, e1⟩
theorem both4_ok (w : World) (p : Pr2) : Rt Try.prog 80 [prV p].toArray w fun v w' => v = .int .i64 p.2 ∧ Ext w w' := by
  refine Rt.enter1 Try.func80 Try.ntmps80 rfl rfl ?_
  (repeat (first | (apply CW.seq) | (apply CW.region)))
  refine WL.boxB rfl rfl rfl fun w1 hb1 e1 => ?_
  (repeat (first | (apply WL.pure; rfl; rfl; rfl) | (apply WL.nil) | (apply EX.thenN) | (apply CW.seq) | (apply CW.region) | (apply WL.fa; rfl; rfl; rfl) | (apply WL.ld; rfl; rfl; rfl; assumption; rfl) | (apply CW.ret)))
  exact EX.ret1 rfl rfl ⟨rfl, e1⟩
/-- a variable that holds an automaton -/
def AuB (w : World) (b : Nat) (A : LAuto) : Prop :=
  ∃ (a1 : Option Addr) (c1 : Nat) (a2 : Option Addr) (c2 : Nat) (a3 : Option Addr) (c3 : Nat) (a4 : Option Addr) (c4 : Nat) (a5 : Option Addr) (c5 : Nat), Blk w b 26 [.slice a1 A.1.length c1, .slice a2 A.2.1.length c2, .slice a3 A.2.2.1.length c3, .slice a4 A.2.2.2.1.length c4, .slice a5 A.2.2.2.2.length c5] ∧
    Sl w (Old w) a1 c1 A.1 ∧ Sl w (Old w) a2 c2 A.2.1 ∧ Sl w (Old w) a3 c3 A.2.2.1 ∧ Sl w (Old w) a4 c4 A.2.2.2.1 ∧ Sl w (Old w) a5 c5 A.2.2.2.2
theorem AuB.up {w w' : World} {b : Nat} {A : LAuto} (h : AuB w b A) (hE : Ext w w') : AuB w' b A := by
  obtain ⟨a1, c1, a2, c2, a3, c3, a4, c4, a5, c5, hb, h1, h2, h3, h4, h5⟩ := h
  exact ⟨a1, c1, a2, c2, a3, c3, a4, c4, a5, c5, hb.ext hE, h1.up hE, h2.up hE, h3.up hE, h4.up hE, h5.up hE⟩
instance iMk10 : IsC Try.prog 147 1 false := IsC.of (by kernel_rfl) Try.underlying147 rfl
instance iMk11 : IsZC Try.prog 147 [.nilFunc] := IsZC.of (z := .nilFunc) (by kernel_rfl) rfl
abbrev crossV (b2 b3 : Nat) : Value := .func (.func 76) #[] #[.pointer (some ⟨b2, 0, none⟩), .pointer (some ⟨b3, 0, none⟩)]
theorem both2_ok (w0 : World) {b2 b3 b8 : Nat} {A B : LAuto} {p : Pr2} (hA : AuB w0 b2 A) (hB : AuB w0 b3 B) (hb8 : Blk w0 b8 147 [crossV b2 b3]) (okA : OkA A) (okB : OkA B) (p1 : 0 ≤ p.1 ∧ p.1 < A.2.1.length) (p2 : 0 ≤ p.2 ∧ p.2 < B.2.1.length)
    (sA : ∀ j, (A.2.1.getD j []).length ≤ 1048576) (sB : ∀ j, (B.2.1.getD j []).length ≤ 1048576) :
    Rt Try.prog 77 [prV p, .pointer (some ⟨b8, 0, none⟩), .pointer (some ⟨b2, 0, none⟩), .pointer (some ⟨b3, 0, none⟩)].toArray w0 fun v w' => Own w' w0.heap.size 133 Non v (bothNext A B p) ∧ Ext w0 w' := by
  obtain ⟨a1, c1, a2, c2, a3, c3, a4, c4, a5, c5, hb2, h1, h2, h3, h4, h5⟩ := hA
  obtain ⟨k1, d1, k2, d2, k3, d3, k4, d4, k5, d5, hb3, g1, g2, g3, g4, g5⟩ := hB
  obtain ⟨x, hx⟩ : ∃ x : Nat, p.1 = (x : Int) := ⟨p.1.toNat, by omega⟩
  obtain ⟨y, hy⟩ : ∃ y : Nat, p.2 = (y : Int) := ⟨p.2.toNat, by omega⟩
  obtain ⟨pa, pb⟩ := p
  dsimp only at hx hy p1 p2
  subst hx hy
  refine Rt.enter4 Try.func77 Try.ntmps77 rfl rfl ?_
  (repeat (first | (apply CW.seq) | (apply CW.region)))
  refine WL.boxB rfl rfl rfl fun w1 hb1 e1 => ?_
  have hb2 := hb2.ext e1
  have hb3 := hb3.ext e1
  have hb8 := hb8.ext e1
  (repeat (first | (apply WL.pure; rfl; rfl; rfl) | (apply WL.nil) | (apply EX.thenN) | (apply CW.seq)))
  have hSE : ∀ z, (fun z : World => Ext w1 z) z → Ext w1 z := fun _ h => h
  refine CW.drawH (fun z : World => Ext w1 z) [(0, true), (1, true), (2, true), (3, true), (4, true), (5, true), (6, true), (7, true), (8, true), (9, true), (10, true), (11, true), (12, true), (13, false), (14, true)] mixed (by kernel_rfl) (Ext.drew w1) ?_
  (repeat (first | (refine HL.fa rfl rfl rfl rfl ?_) | (refine HL.ld (by assumption) rfl rfl rfl rfl (by assumption) rfl ?_)))
  refine HL.elemN (k := x) hSE rfl rfl rfl rfl rfl rfl rfl (fun _ h => h) (h2.up e1) (show x < A.2.1.length by omega) (fun _ => rfl) (fun u q hu => ?_)
  obtain ⟨lo, lc, rfl, hl⟩ := hu.sl
  (repeat (first | (refine HL.fa rfl rfl rfl rfl ?_) | (refine HL.ld (by assumption) rfl rfl rfl rfl (by assumption) rfl ?_)))
  refine HL.elemN (k := y) hSE rfl rfl rfl rfl rfl rfl rfl (fun _ h => h) (g2.up e1) (show y < B.2.1.length by omega) (fun _ => rfl) (fun u q hu => ?_)
  obtain ⟨ko, kc, rfl, hk⟩ := hu.sl
  have eA := (mkgetG (show x < A.2.1.length by omega)).symm
  have eB := (mkgetG (show y < B.2.1.length by omega)).symm
  have sx := sA x
  have sy := sB y
  have ox := okG_row okA.nx x
  have oy := okG_row okB.nx y
  have hX : bothNext A B ((x : Int), (y : Int)) = crossP A.2.2.1 A.2.2.2.1 B.2.2.1 B.2.2.2.1 (A.2.1.getD x []) (B.2.1.getD y []) := rfl
  rw [hX]
  rw [eA] at hl ⊢
  rw [eB] at hk ⊢
  generalize A.2.1.getD x [] = l at *
  generalize B.2.1.getD y [] = k at *
  have hD := Ext.drew w1
  have hD1 := e1.trans hD
  have hmul : l.length * k.length ≤ 1048576 * 1048576 := Nat.mul_le_mul sx sy
  refine HL.mut rfl (WL.callV (fv := []) rfl rfl rfl rfl (cross_ok (drew w1) (F := Old (drew w1)) (hb2.ext hD) (hb3.ext hD) (h3.up hD1) (h4.up hD1) (g3.up hD1) (g4.up hD1) (hl.up hD) (hk.up hD) (fun _ h => h) okA.mu okA.no okB.mu okB.no ox oy (by omega)) ?_)
  rintro v w2 ⟨ho, e2⟩
  have x2 : Ext w1 w2 := hD.trans e2
  refine WL.nil (EX.mut x2 ?_)
  (repeat (first | (apply HL.pure; rfl; rfl; rfl; rfl) | (apply HL.nil)))
  (repeat (first | (apply EX.thenN) | (apply CW.ret)))
  exact EX.ret1 rfl rfl ⟨ho.low hD1.size, e1.trans x2⟩
/-- the next pairs of Single -/
theorem single1_ok (w0 : World) {b1 b5 : Nat} {A : LAuto} {p : Pr2} {io : Option Addr} {ic : Nat} (hA : AuB w0 b1 A) (hb5 : Blk w0 b5 130 [.slice io (A.2.2.2.2.map (memL A.2.1.length)).length ic]) (hin : Sl w0 (Old w0) io ic (A.2.2.2.2.map (memL A.2.1.length)))
    (okA : OkA A) (p1 : 0 ≤ p.1 ∧ p.1 < A.2.1.length) (p2 : 0 ≤ p.2 ∧ (p.2 < A.2.2.2.2.length ∨ p.2 = 0 ∧ A.2.2.2.2.length = 0)) (sA : ∀ j, (A.2.1.getD j []).length ≤ 1048576) :
    Rt Try.prog 67 [prV p, .pointer (some ⟨b5, 0, none⟩), .pointer (some ⟨b1, 0, none⟩)].toArray w0 fun v w' => Own w' w0.heap.size 133 Non v (oneNext A p) ∧ Ext w0 w' := by
  obtain ⟨a1, c1, a2, c2, a3, c3, a4, c4, a5, c5, hb1, h1, h2, h3, h4, h5⟩ := hA
  obtain ⟨x, hx⟩ : ∃ x : Nat, p.1 = (x : Int) := ⟨p.1.toNat, by omega⟩
  obtain ⟨y, hy⟩ : ∃ y : Nat, p.2 = (y : Int) := ⟨p.2.toNat, by omega⟩
  obtain ⟨pa, pb⟩ := p
  dsimp only at hx hy p1 p2
  subst hx hy
  have hxN : x < A.2.1.length := by omega
  have hfl := okA.f
  have hml : (A.2.2.2.2.map (memL A.2.1.length)).length = A.2.2.2.2.length := List.length_map _
  have hmg : ∀ j (h : j < A.2.2.2.2.length), (A.2.2.2.2.map (memL A.2.1.length))[j]'(by rw [hml]; exact h) = memL A.2.1.length A.2.2.2.2[j] := fun j h => List.getElem_map _
  unfold oneNext oneK
  dsimp only
  rw [Int.toNat_natCast, Int.toNat_natCast]
  refine Rt.enter3 Try.func67 Try.ntmps67 rfl rfl ?_
  (repeat (first | (apply CW.seq) | (apply CW.region)))
  refine WL.boxB rfl rfl rfl fun w1 hbp e1 => ?_
  have hb1 := hb1.ext e1
  have hb5 := hb5.ext e1
  generalize hK : (if 0 < A.2.2.2.2.length ∧ (x : Int) ∈ A.2.2.2.2.getD y [] then ((y : Int) + 1) % (A.2.2.2.2.length : Int) else (y : Int)) = kk
  (repeat (apply WL.pure; rfl; rfl; rfl))
  apply WL.nil
  apply EX.thenN
  apply CW.seq
  apply CW.region
  (repeat (first | (apply WL.pure; rfl; rfl; rfl) | (apply WL.fa; rfl; rfl; rfl) | (apply WL.ld; rfl; rfl; rfl; assumption; rfl)))
  apply WL.nil
  apply EX.thenN
  refine CW.cutE [(2, .pointer (some ⟨b1, 0, none⟩)), (3, .pointer (some ⟨w0.heap.size, 0, none⟩)), (5, .int .i64 kk)] ?_ (fun w2 e2 => ?_)
  · rw [hml] at hb5
    (repeat (first | (apply QL.pure; rfl; rfl; rfl) | (apply CW.seq) | (apply QL.lenS; rfl; rfl; rfl) | (apply QL.ld; rfl; rfl; rfl; assumption; rfl) | (apply CW.draw; exact mixed; kernel_rfl)))
    by_cases h0 : A.2.2.2.2.length = 0
    · rw [decide_eq_false (show ¬ ((A.2.2.2.2.length : Int) > 0) by omega)]
      rw [if_neg (by omega)] at hK
      subst hK
      (repeat (first | (apply QL.pure; rfl; rfl; rfl) | (apply QL.pass; rfl; rfl)))
      refine QL.nil fun w2 e2 => ?_
      (repeat (first | (apply EX.thenN) | (apply CW.condF; rfl) | (apply CW.skip)))
      exact EX.cutE (by repeat (first | exact trivial | refine ⟨rfl, ?_⟩)) e2
    rw [decide_eq_true (show ((A.2.2.2.2.length : Int) > 0) by omega)]
    have hy : y < A.2.2.2.2.length := by omega
    have hin1 := hin.up e1
    have hyg : A.2.2.2.2.getD y [] = A.2.2.2.2[y] := mkgetG hy
    rw [hyg] at hK
    rw [← hml] at hb5
    (repeat (first | (apply QL.pure; rfl; rfl; rfl) | (apply QL.ld; rfl; rfl; rfl; assumption; rfl)))
    rw [← hml]
    refine QL.elemN (i := y) rfl rfl rfl rfl rfl (fun _ h => h) hin1 (by rw [hml]; exact hy) (fun _ => rfl) (fun u q hu => ?_)
    rw [hmg y hy] at hu
    obtain ⟨uo, uc, rfl, hus⟩ := hu.sl
    have hxm : x < (memL A.2.1.length A.2.2.2.2[y]).length := by rw [memL_len]; exact hxN
    (repeat (first | (apply QL.fa; rfl; rfl; rfl) | (apply QL.ld; rfl; rfl; rfl; assumption; rfl)))
    refine QL.elemB rfl rfl rfl rfl rfl (fun _ h => h) hus hxm (memL_get hxN) (fun _ => rfl) (fun q => ?_)
    by_cases hm : (x : Int) ∈ A.2.2.2.2[y]
    · rw [if_pos ⟨by omega, hm⟩] at hK
      rw [decide_eq_true hm]
      subst hK
      (repeat (apply QL.pure; rfl; rfl; rfl))
      refine QL.nil fun w2 e2 => ?_
      have hb5 := hb5.ext e2
      rw [hml] at hb5
      (repeat (first | (apply WL.add; rfl; rfl; rfl; rfl; omega; omega) | (apply WL.pure; rfl; rfl; rfl) | (apply EX.thenN) | (apply CW.region) | (apply WL.lenS; rfl; rfl; rfl) | (apply WL.ld; rfl; rfl; rfl; assumption; rfl) | (apply CW.condT; rfl)))
      refine WL.rem rfl rfl rfl rfl (by omega) (by omega) ?_
      (repeat (first | (apply WL.pure; rfl; rfl; rfl) | (apply WL.nil)))
      exact EX.cutE (by repeat (first | exact trivial | refine ⟨rfl, ?_⟩)) e2
    · rw [if_neg (fun h => hm h.2)] at hK
      rw [decide_eq_false hm]
      subst hK
      (repeat (apply QL.pure; rfl; rfl; rfl))
      refine QL.nil fun w2 e2 => ?_
      (repeat (first | (apply EX.thenN) | (apply CW.condF; rfl) | (apply CW.skip)))
      exact EX.cutE (by repeat (first | exact trivial | refine ⟨rfl, ?_⟩)) e2
  have hE := e1.trans e2
  have hb1 := hb1.ext e2
  have hbp := hbp.ext e2
  have hrow := mkgetG hxN
  have srow := sA x
  have hkb : 0 ≤ kk ∧ kk ≤ 100 := by
    rw [← hK]
    split
    · have h1 := Int.emod_nonneg ((y : Int) + 1) (show (A.2.2.2.2.length : Int) ≠ 0 by omega)
      have h2 := Int.emod_lt_of_pos ((y : Int) + 1) (show (0 : Int) < (A.2.2.2.2.length : Int) by omega)
      omega
    · omega
  clear hK
  (repeat (first | (apply WL.pure; rfl; rfl; rfl) | (apply WL.nil) | (apply EX.thenN) | (apply CW.seq) | (apply CW.region) | (apply WL.fa; rfl; rfl; rfl) | (apply WL.ld; rfl; rfl; rfl; assumption; rfl)))
  refine WL.elemN (i := x) rfl rfl rfl rfl rfl (h2.up hE) hxN (fun _ => rfl) (fun u q hu => ?_)
  rw [← hrow] at hu
  obtain ⟨ro, rc, rfl, hr⟩ := hu.sl
  generalize A.2.1.getD x [] = row at *
  clear hu
  have hrl := hr.len63
  (repeat (first | (apply WL.pure; rfl; rfl; rfl) | (apply WL.nil) | (apply EX.thenN) | (apply WL.lenS; rfl; rfl; rfl) | (apply CW.block)))
  refine CW.loop (S := Nat × Value) (fun s => [(5, .int .i64 kk), (6, s.2), (34, .slice ro row.length rc), (35, .int .i64 row.length), (36, .int .i64 s.1)])
    (fun s w => s.1 ≤ row.length ∧ Own w w2.heap.size 133 Non s.2 ((row.take s.1).map fun x => (x, kk)) ∧ Ext w2 w) (fun s => row.length - s.1) (0, .slice none 0 0) (by repeat (first | exact trivial | refine ⟨rfl, ?_⟩)) ⟨Nat.zero_le _, Own.nil, Ext.refl _⟩ ?_
  rintro ⟨i, ov⟩ w3 ⟨hi, ho, e3⟩
  dsimp only at hi ho e3 ⊢
  (repeat (first | (apply WL.pure; rfl; rfl; rfl) | (apply WL.nil) | (apply EX.thenN) | (apply CW.seq) | (apply CW.region)))
  refine CW.cond rfl (fun h => ?_) (fun h => ?_)
  · have hi' : i < row.length := by simp only [decide_eq_true_eq] at h; omega
    have hnx : (row.take (i + 1)).map (fun x => (x, kk)) = (row.take i).map (fun x => (x, kk)) ++ [(row[i], kk)] := by
      rw [List.take_add_one, List.getElem?_eq_getElem hi', List.map_append]; rfl
    clear h
    (repeat (first | (apply EX.thenN) | (apply CW.seq) | (apply CW.region) | (apply CW.block) | (apply CW.skip)))
    refine WL.elemN (i := i) rfl rfl rfl rfl rfl (hr.up e3) hi' (fun _ => rfl) (fun u q hu => ?_)
    rw [hu.int]
    (repeat (first | (apply WL.pure; rfl; rfl; rfl) | (apply WL.nil) | (apply EX.thenN) | (apply CW.region)))
    refine WL.build rfl rfl rfl rfl ?_
    refine WL.app1 (α := Int × Int) (F := Non) (bytes := 16) (yv := (row[i], kk)) rfl rfl (fun _ => rfl) rfl rfl (fun _ => rfl) ho (Rd.mkPr (c1 := [.int .i64 row[i]]) (c2 := [.int .i64 kk]) (rd_mkInt _ _ _) (rd_mkInt _ _ _)) e3.size (fun _ h => h.elim) (by decide) (by unfold maxLen; rw [List.length_map, List.length_take]; omega) (by rw [List.length_map, List.length_take]; omega) (fun ov' w4 q ho4 hg4 hnb4 => ?_)
    rw [← hnx] at ho4
    (repeat (first | (apply WL.add; rfl; rfl; rfl; rfl; omega; omega) | (apply WL.pure; rfl; rfl; rfl) | (apply WL.nil) | (apply EX.thenN) | (apply CW.region) | (apply EX.inN)))
    exact EX.back (i + 1, ov') (by repeat (first | exact trivial | refine ⟨rfl, ?_⟩)) ⟨hi', ho4, Below.grown e3 hg4 e3.size (fun g hg => (ho.lt g hg).1)⟩ (by dsimp only; omega)
  have hie : i = row.length := by simp only [decide_eq_false_iff_not] at h; omega
  subst hie
  rw [List.take_length] at ho
  (repeat (first | (apply WL.pure; rfl; rfl; rfl) | (apply WL.nil) | (apply EX.thenN) | (apply CW.seq) | (apply CW.region) | (apply CW.exit) | (apply EX.thenX) | (apply EX.inX) | (apply CW.ret)))
  exact EX.ret1 rfl rfl ⟨ho.low hE.size, hE.trans e3⟩
end Go.Proofs.Ytadbkppgaekmpaa
/-
  Package auto: sets: walked.
-/
set_option linter.unusedVariables false
set_option linter.unusedSimpArgs false
namespace Go.Proofs.Ytadbkppgaekmpaa
open Go.RowKit

theorem setP_next {ps : List Pr2} {of : Pr2 → Int} {F : List Int} {j : Nat} (h : j < ps.length) : setP (ps.take (j + 1)) of F = setP (ps.take j) of F ++ if of ps[j] ∈ F then [(j : Int)] else [] := by
  unfold setP
  have h1 : (ps.take (j + 1)).length = j + 1 := by rw [List.length_take]; omega
  have h2 : (ps.take j).length = j := by rw [List.length_take]; omega
  have g : ∀ k i, i < k → (ps.take k).getD i (0, 0) = ps.getD i (0, 0) := fun k i h => by
    rw [List.getD_eq_getElem?_getD, List.getD_eq_getElem?_getD, List.getElem?_take_of_lt h]
  rw [h1, h2, List.range_succ, List.filter_append, List.map_append]
  congr 1
  · congr 1
    refine List.filter_congr fun i hi => ?_
    rw [List.mem_range] at hi
    rw [g _ _ (by omega), g _ _ hi]
  · rw [List.filter_cons, List.filter_nil, g _ _ (by omega)]
    have : ps.getD j (0, 0) = ps[j] := by rw [List.getD_eq_getElem?_getD, List.getElem?_eq_getElem h]; rfl
    rw [this]
    by_cases hm : of ps[j] ∈ F
    · rw [decide_eq_true hm, if_pos rfl, if_pos hm]; rfl
    · rw [decide_eq_false hm, if_neg (by decide), if_neg hm]; rfl
theorem setP_nil {of : Pr2 → Int} {F : List Int} : setP [] of F = [] := rfl
theorem setP_len {ps : List Pr2} {of : Pr2 → Int} {F : List Int} : (setP ps of F).length ≤ ps.length := by
  unfold setP
  rw [List.length_map]
  exact Nat.le_trans (List.length_filter_le _ _) (by rw [List.length_range]; exact Nat.le_refl _)
set_option maxHeartbeats 1000000 in
theorem sets_ok (w0 : World) {N sb B2 n : Nat} {m : Value} {lo fo : Option Addr} {lc fc : Nat} {x1 x2 x3 x4 nv : Value} {ps : List Pr2} {vs : List Raw} {xs Fr : List (List Int)} {ofv : Value} {of : Pr2 → Int}
    (hb : Blk w0 sb 139 [m, .slice lo ps.length lc, x1, x2, x3, x4, nv]) (hlo : Sl w0 (Fz w0 (fun b => b = sb ∨ nv.ownBlock = some b)) lo lc ps) (hn : Own w0 B2 22 Non nv vs) (hB : B2 ≤ w0.heap.size)
    (hNw : N ≤ w0.heap.size) (inn : InnR w0 (fun b => b = sb ∨ nv.ownBlock = some b ∨ b < N) vs xs) (hsb : ∀ g, nv.ownBlock = some g → g ≠ sb) (hfr : Sl w0 (Fz w0 (fun b => b = sb ∨ nv.ownBlock = some b)) fo fc Fr) (hok : ∀ r ∈ Fr, okL n r) (hnn : n ≤ 1099511627776)
    (hof : ∀ w p, p ∈ ps → FnV Try.prog ofv [prV p] w fun v w' => v = .int .i64 (of p) ∧ Ext w w') (hin : ∀ p ∈ ps, 0 ≤ of p ∧ of p < n) (hps : ps.length ≤ 2049) (hF1 : xs.length + Fr.length ≤ 4096) :
    Rt Try.prog 78 [.pointer (some ⟨sb, 0, none⟩), .slice fo Fr.length fc, .int .i64 (n : Int), ofv].toArray w0 fun v w' => ∃ nv' vs', Blk w' sb 139 [m, .slice lo ps.length lc, x1, x2, x3, x4, nv'] ∧
      Own w' B2 22 Non nv' vs' ∧ InnR w' (fun b => b = sb ∨ nv'.ownBlock = some b ∨ b < N) vs' (xs ++ Fr.map (setP ps of)) ∧ Chg (fun b => b = sb ∨ nv.ownBlock = some b) w0 w' ∧ ∀ g, nv'.ownBlock = some g → nv.ownBlock = some g ∨ w0.heap.size ≤ g := by
  have hfl := hfr.len63
  have hsb0 := hb.lt
  refine Rt.enter4 Try.func78 Try.ntmps78 rfl rfl ?_
  (repeat (first | (apply WL.pure; rfl; rfl; rfl) | (apply WL.nil) | (apply EX.thenN) | (apply CW.seq) | (apply CW.region) | (apply WL.lenS; rfl; rfl; rfl) | (apply CW.block)))
  refine CW.loop (S := Nat × Value × List Raw) (fun s => [(0, .pointer (some ⟨sb, 0, none⟩)), (2, .int .i64 n), (3, ofv), (14, .slice fo Fr.length fc), (15, .int .i64 Fr.length), (16, .int .i64 s.1)])
    (fun s w => s.1 ≤ Fr.length ∧ Blk w sb 139 [m, .slice lo ps.length lc, x1, x2, x3, x4, s.2.1] ∧ Own w B2 22 Non s.2.1 s.2.2 ∧ InnR w (fun b => b = sb ∨ s.2.1.ownBlock = some b ∨ b < N) s.2.2 (xs ++ (Fr.take s.1).map (setP ps of)) ∧
      Chg (fun b => b = sb ∨ nv.ownBlock = some b) w0 w ∧ ∀ g, s.2.1.ownBlock = some g → nv.ownBlock = some g ∨ w0.heap.size ≤ g)
    (fun s => Fr.length - s.1) (0, nv, vs) (by repeat (first | exact trivial | refine ⟨rfl, ?_⟩)) ⟨Nat.zero_le _, hb, hn, by simpa using inn, Chg.refl _ _, fun g hg => .inl hg⟩ ?_
  rintro ⟨i, cv, cs⟩ w1 ⟨hi, hb1, hn1, in1, hC1, nw1⟩
  dsimp only at hi hb1 hn1 in1 hC1 nw1 ⊢
  have z1 := hC1.size
  (repeat (first | (apply WL.pure; rfl; rfl; rfl) | (apply WL.nil) | (apply EX.thenN) | (apply CW.seq) | (apply CW.region)))
  refine CW.cond rfl (fun h => ?_) (fun h => ?_)
  · have hi' : i < Fr.length := by simp only [decide_eq_true_eq] at h; omega
    clear h
    have hM1 : ∀ b, (b = sb ∨ cv.ownBlock = some b) → (b = sb ∨ nv.ownBlock = some b) ∨ w0.heap.size ≤ b := fun b h => by
      rcases h with h | h
      · exact .inl (.inl h)
      · exact (nw1 b h).imp .inr id
    have hlo1 := hlo.fz hC1 hM1
    have hfr1 := hfr.fz hC1 hM1
    have hcsl : cs.length = xs.length + i := by rw [in1.len, List.length_append, List.length_map, List.length_take]; omega
    have hfi := hok _ (List.getElem_mem hi')
    have hnx : (Fr.take (i + 1)).map (setP ps of) = (Fr.take i).map (setP ps of) ++ [setP ps of Fr[i]] := by
      rw [List.take_add_one, List.getElem?_eq_getElem hi', List.map_append]; rfl
    have hcs1 : ∀ g, cv.ownBlock = some g → g ≠ sb := fun g hg => by
      rcases nw1 g hg with h | h
      · exact hsb g h
      · omega
    (repeat (first | (apply EX.thenN) | (apply CW.seq) | (apply CW.region) | (apply CW.block) | (apply CW.skip)))
    refine WL.elemN (i := i) rfl rfl rfl rfl rfl hfr1 hi' (fun _ => rfl) (fun u q hu => ?_)
    obtain ⟨ro, rc, rfl, hr⟩ := hu.sl
    clear hu
    generalize Fr[i] = F at *
    (repeat (first | (apply WL.pure; rfl; rfl; rfl) | (apply WL.nil) | (apply EX.thenN) | (apply CW.seq) | (apply CW.region)))
    refine WL.call rfl rfl rfl (member_ok w1 hr (fun b hb => hb.1) n hnn hfi) ?_
    rintro mv w2 ⟨hm, e2⟩
    obtain ⟨mo, mc, rfl, hms⟩ := hm.oldN.sl
    have hml : (memL n F).length = n := memL_len
    have hb2 := hb1.ext e2
    have z2 := e2.size
    have hlo2 := (hlo1.old'.up e2)
    have hll := hlo2.len63
    (repeat (first | (apply WL.pure; rfl; rfl; rfl) | (apply WL.nil) | (apply EX.thenN) | (apply CW.seq) | (apply CW.region) | (apply WL.lenS; rfl; rfl; rfl) | (apply WL.fa; rfl; rfl; rfl) | (apply WL.nck; rfl; rfl; rfl) | (apply WL.ld; rfl; rfl; rfl; assumption; rfl) | (apply CW.block)))
    refine CW.loop (S := Nat × Value) (fun s => [(0, .pointer (some ⟨sb, 0, none⟩)), (2, .int .i64 n), (3, ofv), (10, .slice mo (memL n F).length mc), (11, s.2), (14, .slice fo Fr.length fc), (15, .int .i64 Fr.length), (16, .int .i64 i), (26, .slice lo ps.length lc), (27, .int .i64 ps.length), (28, .int .i64 s.1)])
      (fun s w => s.1 ≤ ps.length ∧ Own w w2.heap.size 3 Non s.2 (setP (ps.take s.1) of F) ∧ Ext w2 w) (fun s => ps.length - s.1) (0, .slice none 0 0) (by repeat (first | exact trivial | refine ⟨rfl, ?_⟩)) ⟨Nat.zero_le _, Own.nil, Ext.refl _⟩ ?_
    rintro ⟨j, rv⟩ w3 ⟨hj, ho, e3⟩
    dsimp only at hj ho e3 ⊢
    (repeat (first | (apply WL.pure; rfl; rfl; rfl) | (apply WL.nil) | (apply EX.thenN) | (apply CW.seq) | (apply CW.region)))
    refine CW.cond rfl (fun h => ?_) (fun h => ?_)
    · have hj' : j < ps.length := by simp only [decide_eq_true_eq] at h; omega
      clear h
      have hsn := setP_next (of := of) (F := F) hj'
      have hsl := setP_len (ps := ps.take j) (of := of) (F := F)
      rw [List.length_take] at hsl
      have hpm := List.getElem_mem hj'
      have hip := hin _ hpm
      (repeat (first | (apply WL.pure; rfl; rfl; rfl) | (apply EX.thenN) | (apply CW.seq) | (apply CW.region) | (apply CW.block) | (apply CW.skip)))
      refine WL.elemN (i := j) rfl rfl rfl rfl rfl (hlo2.up e3) hj' (fun _ => rfl) (fun u q hu => ?_)
      rw [rd_pr2 hu]
      clear hu
      generalize ps[j] = p at *
      skip
      refine WL.alloc rfl rfl (fun w4 hb4 e4 => ?_)
      (repeat (apply WL.pure; rfl; rfl; rfl))
      refine WL.st rfl rfl rfl hb4 rfl rfl (ones_of rfl) (fun w5 hb5 hg5 => ?_)
      have e5 : Ext w3 w5 := Below.grown e4 hg5 e4.size (fun g hg => by cases hg; exact Nat.le_refl _)
      have z5 := e5.size
      have ho5 := ho.extN e5
      clear hg5 e4 hb4
      (repeat (first | (apply WL.pure; rfl; rfl; rfl) | (apply WL.nil) | (apply EX.thenN) | (apply CW.seq) | (apply CW.region) | (apply WL.ldA; rfl; rfl; rfl; assumption; rfl)))
      refine WL.callF rfl rfl rfl rfl (hof w5 p hpm) ?_
      rintro _ w6 ⟨rfl, e6⟩
      have e36 := e5.trans e6
      have e26 := e3.trans e36
      obtain ⟨k, hk⟩ : ∃ k : Nat, of p = (k : Int) := ⟨(of p).toNat, by omega⟩
      have hkn : k < n := by omega
      rw [hk] at hsn ⊢
      have ho6 := ho5.extN e6
      skip
      refine WL.elemB rfl rfl rfl rfl rfl (hms.up e26) (i := k) (by rw [hml]; exact hkn) (memL_get hkn) (fun _ => rfl) (fun q => ?_)
      by_cases hmm : (k : Int) ∈ F
      · rw [if_pos hmm] at hsn
        rw [decide_eq_true hmm]
        (repeat (first | (apply WL.pure; rfl; rfl; rfl) | (apply WL.nil) | (apply EX.thenN) | (apply CW.region) | (apply CW.condT; rfl)))
        refine WL.app1 (α := Int) (F := Non) (bytes := 8) (yv := (j : Int)) rfl rfl (fun _ => rfl) rfl rfl (fun _ => rfl) ho6 (Rd.mkInt _ _ _) (by have := e26.size; omega) (fun _ h => h.elim) (by decide) (by unfold maxLen; omega) (by omega) (fun rv' w7 q ho7 hg7 hnb7 => ?_)
        rw [← hsn] at ho7
        have e7 : Ext w2 w7 := Below.grown e26 hg7 e26.size (fun g hg => (ho6.lt g hg).1)
        (repeat (first | (apply WL.add; rfl; rfl; rfl; rfl; omega; omega) | (apply WL.pure; rfl; rfl; rfl) | (apply WL.nil) | (apply EX.thenN) | (apply CW.region) | (apply EX.inN)))
        exact EX.back (j + 1, rv') (by repeat (first | exact trivial | refine ⟨rfl, ?_⟩)) ⟨hj', ho7, e7⟩ (by dsimp only; omega)
      · rw [if_neg hmm, List.append_nil] at hsn
        rw [decide_eq_false hmm]
        rw [← hsn] at ho6
        (repeat (first | (apply WL.add; rfl; rfl; rfl; rfl; omega; omega) | (apply WL.pure; rfl; rfl; rfl) | (apply WL.nil) | (apply EX.thenN) | (apply CW.region) | (apply EX.inN) | (apply CW.condF; rfl) | (apply CW.skip)))
        exact EX.back (j + 1, rv) (by repeat (first | exact trivial | refine ⟨rfl, ?_⟩)) ⟨hj', ho6, e26⟩ (by dsimp only; omega)
    have hje : j = ps.length := by simp only [decide_eq_false_iff_not] at h; omega
    subst hje
    rw [List.take_length] at ho
    clear h
    have e13 := e2.trans e3
    have hb3 := hb1.ext e13
    have hn3 := hn1.extN e13
    obtain ⟨so, sc, rfl⟩ := ho.val
    have z3 := e3.size
    have hlr := fun g hg => ho.lt g hg
    have hln := fun g hg => hn1.lt g hg
    obtain ⟨cvo, cvc, rfl⟩ := hn1.val
    (repeat (first | (apply WL.pure; rfl; rfl; rfl) | (apply EX.thenN) | (apply CW.region) | (apply WL.fa; rfl; rfl; rfl) | (apply WL.nck; rfl; rfl; rfl) | (apply WL.ld; rfl; rfl; rfl; assumption; rfl) | (apply CW.exit) | (apply EX.thenX) | (apply EX.inX)))
    refine WL.app1 (α := Raw) (F := Non) (bytes := 24) (yv := (⟨.slice so (setP ps of F).length sc⟩ : Raw)) rfl rfl (fun _ => rfl) rfl rfl (fun _ => rfl) hn3 (Rd.mkRaw _ _ _ rfl) (by omega) (fun _ h => h.elim) (by decide) (by unfold maxLen; omega) (by omega) (fun nv' w4 q ho4 hg4 hnb4 => ?_)
    obtain ⟨nvo, nvc, rfl⟩ := ho4.val
    have hb4 := hb3.kept hg4 (fun e => hcs1 _ e.symm rfl)
    have z4 := hg4.size
    (repeat (first | (apply WL.fa; rfl; rfl; rfl) | (apply WL.nck; rfl; rfl; rfl)))
    refine WL.st rfl rfl rfl hb4 rfl rfl (ones_of rfl) (fun w5 hb5 hg5 => ?_)
    have z5 := hg5.size
    have hnsb : ∀ g, (Value.slice nvo (cs ++ [(⟨.slice so (setP ps of F).length sc⟩ : Raw)]).length nvc).ownBlock = some g → g ≠ sb := fun g hg => by
      rcases hnb4 g hg with h | h
      · exact hcs1 g h
      · omega
    have ho5 := ho4.keptN hg5 (fun g hg e => hnsb g hg (Option.some.inj e))
    -- what is kept
    have hrow : Rd w3 (Fz w3 (fun b => b = sb ∨ Value.ownBlock (.slice cvo cs.length cvc) = some b ∨ b < N)) (.slice so (setP ps of F).length sc) (setP ps of F) :=
      ho.rd.mono (fun _ _ => rfl) (fun g hg => hg.elim (fun h => h.elim) (fun hg => ⟨(hlr g hg).2.1, fun h => by
        have h1 := (hlr g hg).1
        rcases h with h | h | h
        · omega
        · have := (hln g h).2.1; omega
        · omega⟩))
    have hin3 := (in1.to (Chg.of_ext _ e13) (fun b h => .inl h)).push hrow
    have hC35 : Chg (fun b => b = sb ∨ Value.ownBlock (.slice cvo cs.length cvc) = some b) w3 w5 := ((Chg.of_grown hg4).wk (fun b h => .inr h)).grown hg5 (fun g hg => by cases hg; exact .inl rfl)
    have hW35 : Chg (fun b => b = sb ∨ Value.ownBlock (.slice cvo cs.length cvc) = some b ∨ b < N) w3 w5 := hC35.wk (fun b h => h.imp id .inl)
    have hin5 := hin3.to hW35 (M' := fun b => b = sb ∨ (Value.slice nvo (cs ++ [(⟨.slice so (setP ps of F).length sc⟩ : Raw)]).length nvc).ownBlock = some b ∨ b < N) (fun b h => by
      rcases h with h | h | h
      · exact .inl (.inl h)
      · exact (hnb4 b h).imp (fun h => .inr (.inl h)) id
      · exact .inl (.inr (.inr h)))
    rw [List.append_assoc, ← hnx] at hin5
    have hC5 : Chg (fun b => b = sb ∨ nv.ownBlock = some b) w0 w5 := (hC1.trans (Chg.of_ext _ e13)).then hC35 (fun b h => hM1 b h)
    (repeat (first | (apply WL.add; rfl; rfl; rfl; rfl; omega; omega) | (apply WL.pure; rfl; rfl; rfl) | (apply WL.nil) | (apply EX.thenN) | (apply CW.region) | (apply EX.inN)))
    refine EX.back (i + 1, _, cs ++ [(⟨.slice so (setP ps of F).length sc⟩ : Raw)]) (by repeat (first | exact trivial | refine ⟨rfl, ?_⟩)) ⟨hi', hb5, ho5, hin5, hC5, fun g hg => ?_⟩ (by dsimp only; omega)
    rcases hnb4 g hg with h | h
    · exact nw1 g h
    · exact .inr (by omega)
  have hie : i = Fr.length := by simp only [decide_eq_false_iff_not] at h; omega
  subst hie
  rw [List.take_length] at in1
  (repeat (first | (apply CW.exit) | (apply EX.thenX) | (apply EX.inX)))
  exact EX.end0 rfl ⟨cv, cs, hb1, hn1, in1, hC1, nw1⟩
end Go.Proofs.Ytadbkppgaekmpaa
/-
  Package auto: product.
-/
set_option linter.unusedVariables false
set_option linter.unusedSimpArgs false
namespace Go.Proofs.Ytadbkppgaekmpaa
open Go.RowKit

/-- j edges of a row are looked at -/
def prodPart (nx : List (List Int)) (mu no s l : List Nat) (x j : Nat) : List Int :=
  if fitB mu no (x % nx.length) (lat s l (x / nx.length)) = true then (((nx.getD (x % nx.length) []).take j).filter fun to => fitB mu no to.toNat (lat s l (nextL s l (x / nx.length)))).map fun to => (nextL s l (x / nx.length) : Int) * nx.length + to else []
def prodFull (nx : List (List Int)) (mu no s l : List Nat) (x : Nat) : List Int := prodRow nx mu no s l (x / nx.length) (x % nx.length)
theorem prodPart_full {nx : List (List Int)} {mu no s l : List Nat} {x : Nat} : prodPart nx mu no s l x (nx.getD (x % nx.length) []).length = prodFull nx mu no s l x := by
  unfold prodPart prodFull prodRow; rw [List.take_length]
theorem divmod {n i k : Nat} (hk : k < n) : (i * n + k) / n = i ∧ (i * n + k) % n = k := by
  constructor
  · rw [Nat.add_comm, Nat.add_mul_div_right _ _ (by omega), Nat.div_eq_of_lt hk, Nat.zero_add]
  · rw [Nat.add_comm, Nat.add_mul_mod_self_right, Nat.mod_eq_of_lt hk]
theorem prodPart_next {nx : List (List Int)} {mu no s l : List Nat} {i k j : Nat} (hk : k < nx.length) (hj : j < nx[k].length) (hf : fitB mu no k (lat s l i) = true) :
    prodPart nx mu no s l (i * nx.length + k) (j + 1) = prodPart nx mu no s l (i * nx.length + k) j ++ if fitB mu no (nx[k][j]).toNat (lat s l (nextL s l i)) = true then [(nextL s l i : Int) * nx.length + nx[k][j]] else [] := by
  obtain ⟨e1, e2⟩ := divmod (n := nx.length) (i := i) hk
  unfold prodPart
  rw [e1, e2, if_pos hf, if_pos hf]
  have er : nx.getD k [] = nx[k] := by rw [List.getD_eq_getElem?_getD, List.getElem?_eq_getElem hk]; rfl
  rw [er, ← List.take_append_getElem hj, List.filter_append, List.map_append]
  congr 1
  by_cases h : fitB mu no (nx[k][j]).toNat (lat s l (nextL s l i)) = true
  · rw [if_pos h]; simp [h]
  · rw [if_neg h]; simp [h]
theorem prodPart_zero {nx : List (List Int)} {mu no s l : List Nat} {x : Nat} : prodPart nx mu no s l x 0 = [] := by
  unfold prodPart; split <;> simp
theorem prodPart_no {nx : List (List Int)} {mu no s l : List Nat} {i k : Nat} (hk : k < nx.length) (hf : ¬ fitB mu no k (lat s l i) = true) : prodFull nx mu no s l (i * nx.length + k) = [] := by
  obtain ⟨e1, e2⟩ := divmod (n := nx.length) (i := i) hk
  unfold prodFull prodRow
  rw [e1, e2, if_neg hf]
theorem prodPart_len {nx : List (List Int)} {mu no s l : List Nat} {x j : Nat} : (prodPart nx mu no s l x j).length ≤ (nx.getD (x % nx.length) []).length := by
  unfold prodPart
  split
  · rw [List.length_map]
    refine Nat.le_trans (List.length_filter_le _ _) ?_
    rw [List.length_take]; omega
  · simp
theorem lat_app {s l : List Nat} {i : Nat} (h : i < (s ++ l).length) : (s ++ l)[i] = lat s l i := by
  unfold lat
  rw [List.length_append] at h
  by_cases hi : i < s.length
  · rw [if_pos hi, List.getElem_append_left hi, getDN_at hi]
  · rw [if_neg hi, List.getElem_append_right (by omega), Nat.mod_eq_of_lt (by omega), getDN_at (by omega)]
theorem product_ok (w0 : World) {v0 : Value} {A : LAuto} {s l : List Nat} {so lo : Option Addr} {sc lc : Nat} (ha : AutoAt w0 (Old w0) v0 A) (hok : OkA A) (hs : Sl w0 (Old w0) so sc s) (hl : Sl w0 (Old w0) lo lc l)
    (h0 : 0 < l.length) (h60 : s.length + l.length ≤ 60) (hT : ∀ r ∈ A.2.1, r.length ≤ 8589934592) :
    Rt Try.prog 133 [v0, wordV so sc lo lc s l].toArray w0 fun v w' => ∃ vs, OwnN w' w0.heap.size 22 3 v vs (prodG A.2.1 A.2.2.1 A.2.2.2.1 s l) ∧ Ext w0 w' := by
  obtain ⟨a1, c1, a2, c2, a3, c3, a4, c4, a5, c5, rfl, h1, h2, h3, h4, h5⟩ := ha.ok
  obtain ⟨st, nx, mu, no, fr⟩ := A
  dsimp only at *
  have hm2 := h2.len63
  have hn := hok.n
  have hmu := hok.mu
  have hno := hok.no
  have hnx := hok.nx
  dsimp only at hn hmu hno hnx
  refine Rt.enter2 Try.func133 Try.ntmps133 rfl rfl ?_
  have hE := Ext.refl w0
  (repeat (first | (apply CW.seq) | (apply CW.region)))
  refine WL.boxB rfl rfl rfl fun w1 hb2 e1 => ?_
  have hE := hE.trans e1
  skip
  refine WL.boxB rfl rfl rfl fun w2 hb3 e2 => ?_
  have hb2 := hb2.ext e2
  have hE := hE.trans e2
  (repeat (first | (apply WL.pure; rfl; rfl; rfl) | (apply WL.nil) | (apply EX.thenN) | (apply CW.seq)))
  apply CW.draw
  · exact mixed
  · kernel_rfl
  (repeat (first | (apply QL.add; rfl; rfl; rfl; rfl; omega; omega) | (apply QL.pure; rfl; rfl; rfl) | (apply QL.lenS; rfl; rfl; rfl) | (apply QL.fa; rfl; rfl; rfl) | (apply QL.ld; rfl; rfl; rfl; assumption; rfl)))
  refine QL.nil (fun w3 e3 => ?_)
  have hb2 := hb2.ext e3
  have hb3 := hb3.ext e3
  have hE := hE.trans e3
  (repeat (first | (apply EX.thenN) | (apply CW.seq)))
  have hT0 : Ext w0 (drew w3) := hE.trans (Ext.drew w3)
  have hSE : ∀ x, (fun x => Ext w3 x) x → Ext w3 x := fun _ h => h
  refine CW.drawH (fun x => Ext w3 x) [(0, true), (1, true), (3, true), (4, true), (2, false), (5, false), (6, true)] mixed (by kernel_rfl) (Ext.drew w3) ?_
  (repeat (first | (refine HL.fa rfl rfl rfl rfl ?_) | (refine HL.ld (by assumption) rfl rfl rfl rfl (by assumption) rfl ?_)))
  refine HL.mut rfl (WL.call rfl rfl rfl (clone_u64 (drew w3) (hs.up hT0) (fun _ h => h) (by omega)) ?_)
  rintro cV w4 ⟨hoc, e4⟩
  have hT4 : Ext w3 w4 := (Ext.drew w3).trans e4
  refine WL.nil (EX.mut hT4 ?_)
  skip
  have hE4 := hE.trans hT4
  refine HL.mut rfl (WL.app (F := Non) rfl rfl rfl rfl hoc (hl.up hE4).srcN e4.size (fun _ h => h.elim) (by unfold maxLen; omega) (by omega) (fun wV w5 how hg5 _ => ?_))
  have hT5 : Ext w3 w5 := hT4.grown hg5 hT4.size (fun g hg => Nat.le_trans (Ext.drew w3).size (hoc.lt g hg).1)
  refine WL.nil (EX.mut hT5 ?_)
  (repeat (first | (apply HL.pure; rfl; rfl; rfl; rfl) | (apply HL.nil)))
  have hE := hE.trans hT5
  have hb2 := hb2.ext hT5
  have hb3 := hb3.ext hT5
  obtain ⟨wo, wc, rfl, hall⟩ := how.oldN.sl
  clear e1 e2 e3 e4 hT0 hT4 hT5 hE4 how hg5 hoc
  have hxs : ∀ x ∈ s ++ l, x < 18446744073709551616 := by
    intro x hx
    obtain ⟨i, hi, rfl⟩ := List.mem_iff_getElem.1 hx
    obtain ⟨b, off, _, _, es, _, hr⟩ := hall.el i hi
    exact (rd_u64 hr).2
  have hlat : ∀ i, i < (s ++ l).length → lat s l i < 18446744073709551616 := fun i hi => by rw [← lat_app hi]; exact hxs _ (List.getElem_mem hi)
  have halen : (s ++ l).length = s.length + l.length := List.length_append
  obtain ⟨m, hm⟩ : ∃ m, m = s.length + l.length := ⟨_, rfl⟩
  rw [show (s.length : Int) + l.length = (m : Int) by omega]
  have hNN : nx.length * m ≤ 122880 := Nat.le_trans (Nat.mul_le_mul hn (show m ≤ 60 by omega)) (by decide)
  have hNZ : (nx.length : Int) * (m : Int) = ((nx.length * m : Nat) : Int) := by push_cast; rfl
  (repeat (first | (apply WL.mul; rfl; rfl; rfl; rfl; omega; omega) | (apply WL.pure; rfl; rfl; rfl) | (apply EX.thenN) | (apply CW.seq) | (apply CW.region)))
  rw [hNZ]
  refine WL.make (α := Raw) rfl rfl rfl rfl (by omega) (by unfold maxLen; omega) (fun w6 ho6 hg6 => ?_)
  have e6 : Ext w5 w6 := (Below.refl _ _).grown hg6 (Nat.le_refl _) (fun k h => by cases h)
  generalize hsv : Value.slice (some ⟨w5.heap.size, 0, none⟩) (nx.length * m) (nx.length * m) = sv at *
  obtain ⟨full, hfull⟩ : ∃ full, full = prodFull nx mu no s l := ⟨_, rfl⟩
  have hN6 : OwnN w6 w5.heap.size 22 3 sv _ (List.replicate (nx.length * m) ([] : List Int)) := OwnN.made ho6
  rw [← gridP_start (full := full)] at hN6
  clear ho6 hg6
  have hixN : ∀ i k, i < m → k < nx.length → i * nx.length + k < nx.length * m := fun i k hi hk => by
    have h1 : (i + 1) * nx.length ≤ m * nx.length := Nat.mul_le_mul_right _ hi
    rw [Nat.add_mul, Nat.mul_comm m] at h1
    omega
  have hcast : ∀ i k : Nat, (i : Int) * (nx.length : Int) + (k : Int) = ((i * nx.length + k : Nat) : Int) := fun i k => by push_cast; rfl
  (repeat (first | (apply WL.pure; rfl; rfl; rfl) | (apply WL.nil) | (apply EX.thenN) | (apply CW.seq) | (apply CW.region) | (apply WL.lenS; rfl; rfl; rfl) | (apply CW.block)))
  refine CW.loop (S := Nat × List Raw) (fun x => [(2, .pointer (some ⟨w0.heap.size, 0, none⟩)), (3, .pointer (some ⟨w1.heap.size, 0, none⟩)), (5, .int .i64 nx.length), (6, .int .i64 m), (7, .slice wo (s ++ l).length wc), (8, sv), (35, .slice wo (s ++ l).length wc), (36, .int .i64 (s ++ l).length), (37, .int .i64 x.1)])
    (fun x w => x.1 ≤ m ∧ OwnN w w5.heap.size 22 3 sv x.2 (gridP (nx.length * m) full (x.1 * nx.length) []) ∧ Ext w5 w) (fun x => m - x.1) (0, _) (by repeat (first | exact trivial | refine ⟨rfl, ?_⟩)) ⟨Nat.zero_le _, by rw [Nat.zero_mul]; exact hN6, e6⟩ ?_
  rintro ⟨i, vs⟩ w7 ⟨hi, hN, e7⟩
  dsimp only at hi hN
  (repeat (first | (apply WL.pure; rfl; rfl; rfl) | (apply WL.nil) | (apply EX.thenN) | (apply CW.seq) | (apply CW.region)))
  refine CW.cond rfl (fun h => ?_) (fun h => ?_)
  · have hi' : i < (s ++ l).length := by simp at h; omega
    have him : i < m := by omega
    (repeat (first | (apply WL.pure; rfl; rfl; rfl) | (apply EX.thenN) | (apply CW.seq) | (apply CW.region) | (apply CW.block) | (apply CW.skip)))
    refine WL.elemN rfl rfl rfl rfl rfl (hall.up e7) hi' (fun _ => rfl) (fun u q hu => ?_)
    obtain ⟨rfl, hu64⟩ := hu.u64
    rw [lat_app hi'] at hu64 ⊢
    (repeat (apply WL.pure; rfl; rfl; rfl))
    apply WL.nil
    apply EX.thenN
    apply CW.seq
    apply CW.region
    (repeat (first | (apply WL.add; rfl; rfl; rfl; rfl; omega; omega) | (apply WL.pure; rfl; rfl; rfl)))
    apply WL.nil
    apply EX.thenN
    refine CW.cut [(2, .pointer (some ⟨w0.heap.size, 0, none⟩)), (3, .pointer (some ⟨w1.heap.size, 0, none⟩)), (5, .int .i64 nx.length), (6, .int .i64 m), (7, .slice wo (s ++ l).length wc), (8, sv), (9, .int .i64 i), (10, .int .u64 (lat s l i : Nat)), (11, .int .i64 (nextL s l i : Nat)), (35, .slice wo (s ++ l).length wc), (36, .int .i64 (s ++ l).length), (37, .int .i64 i)] ?_ ?_
    · (repeat (first | (apply WL.pure; rfl; rfl; rfl) | (apply WL.nil) | (apply EX.thenN) | (apply CW.seq) | (apply CW.region)))
      refine CW.cond rfl (fun h9 => ?_) (fun h9 => ?_)
      · have h9 : i + 1 = s.length + l.length := by simp at h9; omega
        have hb3 := hb3.ext e7
        (repeat (first | (apply WL.pure; rfl; rfl; rfl) | (apply WL.nil) | (apply CW.region) | (apply WL.lenS; rfl; rfl; rfl) | (apply WL.fa; rfl; rfl; rfl) | (apply WL.ld; rfl; rfl; rfl; assumption; rfl)))
        rw [show nextL s l i = s.length by unfold nextL; rw [if_pos h9]]
        exact EX.cut (by repeat (first | exact trivial | refine ⟨rfl, ?_⟩))
      · have h9 : ¬ i + 1 = s.length + l.length := by simp at h9; omega
        rw [show nextL s l i = i + 1 by unfold nextL; rw [if_neg h9]]
        exact CW.skip (EX.cut (by repeat (first | exact trivial | refine ⟨rfl, ?_⟩)))
    have hnxt : nextL s l i < (s ++ l).length := by unfold nextL; split <;> omega
    obtain ⟨nxt, hnx'⟩ : ∃ nxt, nxt = nextL s l i := ⟨_, rfl⟩
    rw [← hnx'] at hnxt ⊢
    (repeat (first | (apply WL.pure; rfl; rfl; rfl) | (apply WL.nil) | (apply EX.thenN) | (apply CW.seq) | (apply CW.region) | (apply CW.block)))
    refine CW.loop (S := Nat × List Raw) (fun x => [(2, .pointer (some ⟨w0.heap.size, 0, none⟩)), (3, .pointer (some ⟨w1.heap.size, 0, none⟩)), (5, .int .i64 nx.length), (6, .int .i64 m), (7, .slice wo (s ++ l).length wc), (8, sv), (9, .int .i64 i), (10, .int .u64 (lat s l i : Nat)), (11, .int .i64 nxt), (35, .slice wo (s ++ l).length wc), (36, .int .i64 (s ++ l).length), (37, .int .i64 i), (50, .int .i64 nx.length), (51, .int .i64 x.1)])
      (fun x w => x.1 ≤ nx.length ∧ OwnN w w5.heap.size 22 3 sv x.2 (gridP (nx.length * m) full (i * nx.length + x.1) []) ∧ Ext w5 w) (fun x => nx.length - x.1) (0, vs) (by repeat (first | exact trivial | refine ⟨rfl, ?_⟩)) ⟨Nat.zero_le _, hN, e7⟩ ?_
    rintro ⟨k, vs⟩ w8 ⟨hk, hN, e8⟩
    dsimp only at hk hN
    (repeat (first | (apply WL.pure; rfl; rfl; rfl) | (apply WL.nil) | (apply EX.thenN) | (apply CW.seq) | (apply CW.region)))
    refine CW.cond rfl (fun h => ?_) (fun h => ?_)
    · have hk' : k < nx.length := by simp at h; omega
      have hb2' := hb2.ext e8
      have hE8 := hE.trans e8
      have er : nx.getD k [] = nx[k] := by rw [List.getD_eq_getElem?_getD, List.getElem?_eq_getElem hk']; rfl
      obtain ⟨dm1, dm2⟩ := divmod (n := nx.length) (i := i) hk'
      (repeat (first | (apply WL.pure; rfl; rfl; rfl) | (apply WL.nil) | (apply EX.thenN) | (apply CW.seq) | (apply CW.region) | (apply WL.ldA; rfl; rfl; rfl; assumption; rfl) | (apply CW.block) | (apply CW.skip)))
      refine WL.call rfl rfl rfl (Fits_ok w8 (h3.up hE8) (h4.up hE8) k (lat s l i) (by omega) (by omega) hu64) ?_
      rintro _ w9 ⟨rfl, e9⟩
      have e8 := e8.trans e9
      have hN := hN.ext e9
      have hE8 := hE8.trans e9
      have hb2' := hb2'.ext e9
      (repeat (first | (apply WL.pure; rfl; rfl; rfl) | (apply WL.nil) | (apply EX.thenN)))
      refine CW.cond rfl (fun hf => ?_) (fun hf => ?_)
      · have hf : ¬ fitB mu no k (lat s l i) = true := by simpa using hf
        (repeat (first | (apply WL.add; rfl; rfl; rfl; rfl; omega; omega) | (apply WL.pure; rfl; rfl; rfl) | (apply WL.nil) | (apply EX.thenN) | (apply CW.region) | (apply CW.exit) | (apply EX.thenX) | (apply EX.inX)))
        refine EX.back (k + 1, vs) (by repeat (first | exact trivial | refine ⟨rfl, ?_⟩)) ⟨hk', ?_, e8⟩ (by dsimp only; omega)
        have e := gridP_next (N := nx.length * m) (full := full) (x0 := i * nx.length + k)
        rw [show full (i * nx.length + k) = [] by rw [hfull]; exact prodPart_no hk' hf] at e
        rw [e] at hN; exact hN
      have hf : fitB mu no k (lat s l i) = true := by simpa using hf
      (repeat (first | (apply WL.pure; rfl; rfl; rfl) | (apply EX.thenN) | (apply CW.seq) | (apply CW.region) | (apply WL.fa; rfl; rfl; rfl) | (apply WL.ld; rfl; rfl; rfl; assumption; rfl) | (apply CW.skip)))
      refine WL.elemN rfl rfl rfl rfl rfl (h2.at hE8) hk' (fun _ => rfl) (fun u q hu => ?_)
      obtain ⟨ro, rc, rfl, hrow⟩ := hu.sl
      have hrl := hrow.len63
      have hrT := hT _ (List.getElem_mem hk')
      (repeat (first | (apply WL.pure; rfl; rfl; rfl) | (apply WL.nil) | (apply EX.thenN) | (apply WL.lenS; rfl; rfl; rfl) | (apply CW.block)))
      refine CW.loop (S := Nat × List Raw) (fun x => [(2, .pointer (some ⟨w0.heap.size, 0, none⟩)), (3, .pointer (some ⟨w1.heap.size, 0, none⟩)), (5, .int .i64 nx.length), (6, .int .i64 m), (7, .slice wo (s ++ l).length wc), (8, sv), (9, .int .i64 i), (10, .int .u64 (lat s l i : Nat)), (11, .int .i64 nxt), (12, .int .i64 k), (35, .slice wo (s ++ l).length wc), (36, .int .i64 (s ++ l).length), (37, .int .i64 i), (50, .int .i64 nx.length), (51, .int .i64 k), (63, .slice ro nx[k].length rc), (64, .int .i64 nx[k].length), (65, .int .i64 x.1)])
        (fun x w => x.1 ≤ nx[k].length ∧ OwnN w w5.heap.size 22 3 sv x.2 (gridP (nx.length * m) full (i * nx.length + k) (prodPart nx mu no s l (i * nx.length + k) x.1)) ∧ Ext w5 w) (fun x => nx[k].length - x.1) (0, vs) (by repeat (first | exact trivial | refine ⟨rfl, ?_⟩)) ⟨Nat.zero_le _, by rw [prodPart_zero]; exact hN, e8⟩ ?_
      rintro ⟨j, vs⟩ w10 ⟨hj, hN, e10⟩
      dsimp only at hj hN
      (repeat (first | (apply WL.pure; rfl; rfl; rfl) | (apply WL.nil) | (apply EX.thenN) | (apply CW.seq) | (apply CW.region)))
      refine CW.cond rfl (fun h => ?_) (fun h => ?_)
      · have hj' : j < nx[k].length := by simp at h; omega
        have hto := hnx _ (List.getElem_mem hk') _ (List.getElem_mem hj')
        obtain ⟨to, eto⟩ := Int.eq_ofNat_of_zero_le hto.1
        have hto' : to < nx.length := by omega
        have hb2' := hb2.ext e10
        have hE10 := hE.trans e10
        have hxN := hixN i k him hk'
        have hpn := prodPart_next (mu := mu) (no := no) (s := s) (l := l) (i := i) hk' hj' hf
        rw [← hnx', eto, Int.toNat_natCast] at hpn
        have hlN : lat s l nxt < 18446744073709551616 := hlat _ hnxt
        have hrow10 : Sl w10 (Old w0) ro rc nx[k] := hrow.mono (fun b hb => (hE10.block b hb).trans (hE8.block b hb).symm) (fun _ h => h)
        (repeat (first | (apply EX.thenN) | (apply CW.seq) | (apply CW.region) | (apply CW.block) | (apply CW.skip)))
        refine WL.elemI rfl rfl rfl rfl rfl hrow10 hj' eto (fun _ => rfl) (fun q => ?_)
        (repeat (first | (apply WL.pure; rfl; rfl; rfl) | (apply QL.pure; rfl; rfl; rfl) | (apply WL.nil) | (apply EX.thenN) | (apply CW.seq) | (apply QL.ldA; rfl; rfl; rfl; assumption; rfl) | (apply CW.draw; exact mixed; kernel_rfl)))
        refine QL.elemN rfl rfl rfl rfl rfl (fun _ h => h) (hall.up e10) hnxt (fun _ => rfl) (fun u q hu => ?_)
        obtain ⟨rfl, _⟩ := hu.u64
        rw [lat_app hnxt]
        skip
        refine QL.call rfl rfl rfl (fun w hE => Fits_ok w (h3.up (hE10.trans hE)) (h4.up (hE10.trans hE)) to (lat s l nxt) (by omega) (by omega) hlN) ?_
        skip
        refine QL.nil (fun w11 e11 => ?_)
        have hN := hN.ext e11
        have e11 := e10.trans e11
        have hlen := hN.len
        rw [gridP_len] at hlen
        have hxv : i * nx.length + k < vs.length := by omega
        (repeat (apply EX.thenN))
        refine CW.cond rfl (fun hc => ?_) (fun hc => ?_)
        · rw [if_pos hc] at hpn
          have hm1 : (i : Int) * (nx.length : Int) ≤ 122880 := by have := hcast i k; omega
          have hm2 : (0 : Int) ≤ (i : Int) * (nx.length : Int) := by have := hcast i 0; omega
          have hxT := hixN nxt to (by omega) hto'
          have hm3 : (nxt : Int) * (nx.length : Int) ≤ 122880 := by have := hcast nxt to; omega
          have hm4 : (0 : Int) ≤ (nxt : Int) * (nx.length : Int) := by have := hcast nxt 0; omega
          have hin := hN.inn (i * nx.length + k) hxv (by rw [gridP_len]; exact hxN)
          rw [gridP_get hxN] at hin
          have hpl := prodPart_len (nx := nx) (mu := mu) (no := no) (s := s) (l := l) (x := i * nx.length + k) (j := j)
          rw [dm2, er] at hpl
          (repeat (first | (apply WL.add; rfl; rfl; rfl; rfl; omega; omega) | (apply WL.mul; rfl; rfl; rfl; rfl; omega; omega) | (apply WL.pure; rfl; rfl; rfl) | (apply CW.region)))
          rw [hcast i k]
          refine WL.elemON rfl rfl rfl rfl rfl hN.out hxv (fun _ => rfl) (fun u q hu => ?_)
          obtain ⟨rfl, _⟩ := hu.raw
          (repeat (first | (apply WL.add; rfl; rfl; rfl; rfl; omega; omega) | (apply WL.mul; rfl; rfl; rfl; rfl; omega; omega) | (apply WL.pure; rfl; rfl; rfl)))
          refine WL.app1 (F := Non) (yv := (nxt : Int) * (nx.length : Int) + (to : Int)) rfl rfl (fun _ => rfl) rfl rfl (fun _ => rfl) hin (Rd.mkInt _ _ _) e11.size (fun _ h => h.elim) (by decide) (by unfold maxLen; omega) (by omega) (fun v' w12 p ho12 hg12 hnb => ?_)
          skip
          have hmid := hN.mid hxv hg12
          refine WL.setN (u := v') (yv := ⟨v'⟩) rfl rfl rfl rfl hmid hxv (fun _ => rfl) (fun _ => rfl) (Rd.mkRaw _ _ _ ?_) (fun w13 q ho13 hg13 => ?_)
          · obtain ⟨a, b, rfl⟩ := ho12.val; rfl
          have hN13 := hN.set hxv ho12 hg12 hnb ho13 hg13
          rw [gridP_set hxN, ← hpn] at hN13
          have e13 : Ext w5 w13 := (e11.grown hg12 e11.size (fun b hb => (hin.lt b hb).1)).grown hg13 (Nat.le_trans e11.size hg12.size) (fun b hb => (hN.out.lt b hb).1)
          (repeat (first | (apply WL.add; rfl; rfl; rfl; rfl; omega; omega) | (apply WL.pure; rfl; rfl; rfl) | (apply WL.nil) | (apply EX.thenN) | (apply CW.region) | (apply EX.inN)))
          exact EX.back (j + 1, vs.set (i * nx.length + k) ⟨v'⟩) (by repeat (first | exact trivial | refine ⟨rfl, ?_⟩)) ⟨hj', hN13, e13⟩ (by dsimp only; omega)
        · rw [if_neg (by rw [hc]; simp), List.append_nil] at hpn
          (repeat (first | (apply WL.add; rfl; rfl; rfl; rfl; omega; omega) | (apply WL.pure; rfl; rfl; rfl) | (apply WL.nil) | (apply EX.thenN) | (apply CW.region) | (apply EX.inN) | (apply CW.skip)))
          refine EX.back (j + 1, vs) (by repeat (first | exact trivial | refine ⟨rfl, ?_⟩)) ⟨hj', ?_, e11⟩ (by dsimp only; omega)
          rw [hpn]; exact hN
      · obtain rfl : j = nx[k].length := by simp at h; omega
        (repeat (first | (apply WL.add; rfl; rfl; rfl; rfl; omega; omega) | (apply WL.pure; rfl; rfl; rfl) | (apply WL.nil) | (apply EX.thenN) | (apply CW.region) | (apply EX.inN) | (apply CW.exit) | (apply EX.thenX) | (apply EX.inX)))
        refine EX.back (k + 1, vs) (by repeat (first | exact trivial | refine ⟨rfl, ?_⟩)) ⟨hk', ?_, e10⟩ (by dsimp only; omega)
        have e := prodPart_full (nx := nx) (mu := mu) (no := no) (s := s) (l := l) (x := i * nx.length + k)
        rw [dm2, er] at e
        rw [e, ← hfull, gridP_next] at hN
        exact hN
    · obtain rfl : k = nx.length := by simp at h; omega
      (repeat (first | (apply WL.add; rfl; rfl; rfl; rfl; omega; omega) | (apply WL.pure; rfl; rfl; rfl) | (apply WL.nil) | (apply EX.thenN) | (apply CW.region) | (apply EX.inN) | (apply CW.exit) | (apply EX.thenX) | (apply EX.inX)))
      refine EX.back (i + 1, vs) (by repeat (first | exact trivial | refine ⟨rfl, ?_⟩)) ⟨him, ?_, e8⟩ (by dsimp only; omega)
      rw [show (i + 1) * nx.length = i * nx.length + nx.length by rw [Nat.add_mul]; omega]
      exact hN
  · have him : i = m := by simp at h; omega
    subst him
    (repeat (first | (apply WL.pure; rfl; rfl; rfl) | (apply WL.nil) | (apply EX.thenN) | (apply CW.seq) | (apply CW.region) | (apply CW.exit) | (apply EX.thenX) | (apply EX.inX) | (apply CW.ret)))
    refine EX.ret1 rfl rfl ⟨vs, ?_, hE.trans e7⟩
    rw [Nat.mul_comm i, gridP_done, hm] at hN
    have e : (List.range (nx.length * (s.length + l.length))).map full = prodG nx mu no s l := by rw [hfull]; rfl
    rw [e] at hN
    exact hN.low hE.size
end Go.Proofs.Ytadbkppgaekmpaa
/-
  Package auto: reached, round.
-/
set_option linter.unusedVariables false
set_option linter.unusedSimpArgs false
namespace Go.Proofs.Ytadbkppgaekmpaa
open Go.RowKit

def nzB (num : List Int) : List Bool := num.map fun x => decide (x ≠ 0)
structure NInv (g : Graph) (f num li todo : List Int) : Prop where
  ln : num.length = g.length
  nd : li.Nodup
  ok : okL g.length li
  val : ∀ k : Nat, k < g.length → num.getD k 0 = if (k : Int) ∈ li then (li.idxOf (k : Int) : Int) + 1 else 0
  rv : RInv g f (nzB num) todo
section
variable {g : Graph} {f num li todo : List Int}
theorem nzB_get {k : Nat} (h : k < num.length) : (nzB num).getD k false = decide (num.getD k 0 ≠ 0) := by
  unfold nzB
  rw [List.getD_eq_getElem?_getD, List.getD_eq_getElem?_getD, List.getElem?_map, List.getElem?_eq_getElem h]; rfl
theorem nzB_set {k : Nat} {v : Int} (hv : v ≠ 0) : nzB (num.set k v) = (nzB num).set k true := by
  unfold nzB; rw [List.map_set, decide_eq_true hv]
theorem NInv.start (hf : okL g.length f) : NInv g f (List.replicate g.length 0) [] f := by
  refine ⟨by simp, List.nodup_nil, (fun x hx => by cases hx), fun k hk => ?_, ?_⟩
  · rw [if_neg (by simp), List.getD_eq_getElem?_getD, List.getElem?_replicate, if_pos hk]; rfl
  · have : nzB (List.replicate g.length (0 : Int)) = List.replicate g.length false := by simp [nzB]
    rw [this]; exact RInv.start hf
theorem NInv.pass {x : Int} (h : NInv g f num li (todo ++ [x])) (hx : num.getD x.toNat 0 ≠ 0) : NInv g f num li todo := by
  have hxo := h.rv.ok x (by simp)
  refine ⟨h.ln, h.nd, h.ok, h.val, RInv.pass h.rv ?_⟩
  rw [nzB_get (by rw [h.ln]; omega)]
  simpa using hx
theorem NInv.mark {x : Int} (hg : okG g) (h : NInv g f num li (todo ++ [x])) (hx : num.getD x.toNat 0 = 0) : NInv g f (num.set x.toNat ((li.length : Int) + 1)) (li ++ [x]) (todo ++ g.getD x.toNat []) := by
  have hxo := h.rv.ok x (by simp)
  have hxn : ((x.toNat : Nat) : Int) = x := by omega
  have hxl : x.toNat < g.length := by omega
  have hni : x ∉ li := by
    intro hm
    have := h.val x.toNat hxl
    rw [hxn, if_pos hm, hx] at this
    omega
  refine ⟨by simpa using h.ln, ?_, ?_, fun k hk => ?_, ?_⟩
  · rw [List.nodup_append]
    refine ⟨h.nd, by simp, fun a ha b hb e => ?_⟩
    rw [List.mem_singleton] at hb; subst hb; subst e; exact hni ha
  · intro y hy
    rcases List.mem_append.1 hy with h1 | h1
    · exact h.ok y h1
    · rw [List.mem_singleton] at h1; subst h1; exact hxo
  · rw [getD_setI (by rw [h.ln]; exact hxl)]
    by_cases e : x.toNat = k
    · subst e
      rw [if_pos rfl, hxn, if_pos (by simp), List.idxOf_append, if_neg hni]
      simp
    · rw [if_neg e, h.val k hk]
      have hne : ¬ (k : Int) = x := by omega
      have hiff : ((k : Int) ∈ li ++ [x]) ↔ (k : Int) ∈ li := by
        rw [List.mem_append, List.mem_singleton]; exact ⟨fun h => h.resolve_right hne, .inl⟩
      by_cases hm : (k : Int) ∈ li
      · rw [if_pos hm, if_pos (hiff.2 hm), List.idxOf_append, if_pos hm]
      · rw [if_neg hm, if_neg (fun h => hm (hiff.1 h))]
  · rw [nzB_set (by omega)]; exact RInv.mark hg h.rv
theorem NInv.done (h : NInv g f num li []) (hg : okG g) (hf : okL g.length f) (x : Nat) : (x : Int) ∈ li ↔ Rch g f x := by
  have hr := h.rv.done
  constructor
  · intro hm
    have hx := h.ok _ hm
    have hxl : x < g.length := by omega
    have h1 : (nzB num).getD x false = true := by
      rw [nzB_get (by rw [h.ln]; exact hxl), h.val x hxl, if_pos hm]
      simp; omega
    exact h.rv.sound x h1
  · intro hm
    have hxl : x < g.length := by
      cases hm with
      | base hx => have := hf _ hx; omega
      | step _ hx => have := okG_row hg _ _ hx; omega
    have h1 : (rchB g f).getD x false = true := by
      rw [List.getD_eq_getElem?_getD, rchB_get hxl]; simp [hm]
    rw [← hr, nzB_get (by rw [h.ln]; exact hxl), h.val x hxl] at h1
    apply Classical.byContradiction
    intro hn
    rw [if_neg hn] at h1
    simp at h1
def smFull (g : Graph) (li : List Int) (i : Nat) : List Int := (g.getD (li.getD i 0).toNat []).map fun to => (li.idxOf to : Int)
theorem sm_ok (h : NInv g f num li []) (hg : okG g) (hf : okL g.length f) : RchdOK g f li ((List.range li.length).map (smFull g li)) := by
  refine ⟨h.done hg hf, fun x hx => (h.ok x hx).1, h.nd, by simp, fun i hi => ?_⟩
  rw [List.getD_eq_getElem?_getD, List.getElem?_map, List.getElem?_range hi]; rfl
end
theorem getDI_at {l : List Int} {j : Nat} (h : j < l.length) : l.getD j 0 = l[j] := by rw [List.getD_eq_getElem?_getD, List.getElem?_eq_getElem h]; rfl
theorem getDG_at {l : List (List Int)} {j : Nat} (h : j < l.length) : l.getD j [] = l[j] := by rw [List.getD_eq_getElem?_getD, List.getElem?_eq_getElem h]; rfl
theorem smFull_next {g : Graph} {li : List Int} {i j : Nat} (h : j < (g.getD (li.getD i 0).toNat []).length) : (smFull g li i).take (j + 1) = (smFull g li i).take j ++ [(li.idxOf (g.getD (li.getD i 0).toNat [])[j] : Int)] := by
  unfold smFull
  rw [← List.take_append_getElem (by simpa using h)]
  simp
theorem row_edges {g : Graph} : ∀ {i : Nat}, (h : i < g.length) → g[i].length ≤ edges g := by
  unfold edges
  induction g with
  | nil => intro i h; cases h
  | cons r g ih =>
    intro i h
    cases i with
    | zero => simp
    | succ i => have := ih (i := i) (by simpa using h); simp at this ⊢; omega
theorem nodup_len : ∀ (n : Nat) (l : List Nat), l.Nodup → (∀ x ∈ l, x < n) → l.length ≤ n
  | 0, l, _, h => by
    cases l with
    | nil => simp
    | cons x r => have := h x (by simp); omega
  | n + 1, l, hd, h => by
    by_cases hn : n ∈ l
    · have h1 := nodup_len n (l.erase n) (hd.erase n) (fun x hx => by
        have h2 := (List.Nodup.mem_erase_iff hd).1 hx
        have := h x h2.2; have := h2.1; omega)
      rw [List.length_erase_of_mem hn] at h1
      omega
    · have := nodup_len n l hd (fun x hx => by
        have h2 := h x hx
        have : x ≠ n := fun e => hn (e ▸ hx)
        omega)
      omega
theorem reached_ok (w0 : World) {ao fo : Option Addr} {cap fcap : Nat} {g : Graph} {f : List Int} (hs : Sl w0 (Old w0) ao cap g) (hf : Sl w0 (Old w0) fo fcap f)
    (hg : okG g) (hof : okL g.length f) (hT : f.length + edges g + g.length ≤ 1099511627776) :
    Rt Try.prog 136 [.slice ao g.length cap, .slice fo f.length fcap].toArray w0 fun r w' => ∃ v u li sm, r = .tuple ⟨[v, u]⟩ ∧ RchdOK g f li sm ∧ Rd w' (Old w') v li ∧ Rd w' (Old w') u sm ∧ Ext w0 w' := by
  have hm := hs.len63
  have hm2 := hf.len63
  refine Rt.enter2 Try.func136 Try.ntmps136 rfl rfl ?_
  (repeat (first | (apply WL.pure; rfl; rfl; rfl) | (apply WL.nil) | (apply EX.thenN) | (apply CW.seq) | (apply CW.region) | (apply WL.lenS; rfl; rfl; rfl)))
  refine WL.make (α := Int) rfl rfl rfl rfl (by omega) (by unfold maxLen; omega) (fun w1 ho1 hg1 => ?_)
  have hE1 : Ext w0 w1 := (Below.refl _ _).grown hg1 (Nat.le_refl _) (fun k h => by cases h)
  have hlt1 : w0.heap.size < w1.heap.size := (ho1.lt _ rfl).2.1
  (repeat (first | (apply WL.pure; rfl; rfl; rfl) | (apply WL.nil) | (apply EX.thenN) | (apply CW.seq) | (apply CW.region)))
  refine WL.call rfl rfl rfl (clone_int w1 (hf.up hE1) (by omega)) ?_
  rintro tv w2 ⟨ho2, hE2⟩
  (repeat (first | (apply WL.pure; rfl; rfl; rfl) | (apply WL.nil) | (apply EX.thenN) | (apply CW.seq) | (apply CW.region) | (apply CW.block)))
  generalize hsv : Value.slice (some ⟨w0.heap.size, 0, none⟩) g.length g.length = sv at *
  have hsb : sv.ownBlock = some w0.heap.size := by rw [← hsv]; rfl
  refine CW.loop (S := Value × Value × List Int × List Int × List Int) (fun s => [(0, .slice ao g.length cap), (6, sv), (7, s.1), (8, s.2.1)])
    (fun s w => NInv g f s.2.2.1 s.2.2.2.1 s.2.2.2.2 ∧ s.2.2.2.2.length + pot g (nzB s.2.2.1) ≤ f.length + edges g + g.length ∧ Own w w0.heap.size 3 Non sv s.2.2.1 ∧ Own w (w0.heap.size + 1) 3 Non s.1 s.2.2.2.2 ∧ Own w (w0.heap.size + 1) 3 Non s.2.1 s.2.2.2.1 ∧ Ext w0 w ∧ w1.heap.size ≤ w.heap.size ∧ (∀ k, s.1.ownBlock = some k → s.2.1.ownBlock = some k → False))
    (fun s => s.2.2.2.2.length + pot g (nzB s.2.2.1)) (tv, .slice none 0 0, List.replicate g.length 0, [], f) (by repeat (first | exact trivial | refine ⟨rfl, ?_⟩))
    ⟨NInv.start hof, ?_, ho1.extN hE2, ho2.low (by omega), Own.nil, hE1.trans hE2, hE2.size, fun k _ h => by cases h⟩ ?_
  · have e : nzB (List.replicate g.length (0 : Int)) = List.replicate g.length false := by simp [nzB]
    show f.length + pot g (nzB (List.replicate g.length 0)) ≤ _
    rw [e, pot_start]; omega
  rintro ⟨tv, lv, num, li, todo⟩ w ⟨hR, hpot, hso, hto, hlo, hB, hw1, hne⟩
  dsimp only at hR hpot hso hto hlo hne
  have hlil : li.length ≤ g.length := by
    have hnd : (li.map Int.toNat).Nodup := by
      rw [List.Nodup, List.pairwise_map]
      refine List.Pairwise.imp_of_mem ?_ hR.nd
      intro a b ha hb hab e
      have := hR.ok a ha; have := hR.ok b hb
      exact hab (by omega)
    have := nodup_len g.length (li.map Int.toNat) hnd (fun x hx => by
      obtain ⟨y, hy, rfl⟩ := List.mem_map.1 hx
      have := hR.ok y hy
      omega)
    simpa using this
  (repeat (first | (apply WL.pure; rfl; rfl; rfl) | (apply WL.nil) | (apply EX.thenN) | (apply CW.seq) | (apply CW.region) | (refine WL.lenO rfl rfl rfl (by assumption) ?_)))
  refine CW.cond rfl (fun h => ?_) (fun h => ?_)
  · simp at h
    have hlen : 0 < todo.length := by omega
    have hlast := take_last hlen
    (repeat (first | (apply WL.sub'; rfl; rfl; rfl; rfl; omega; omega) | (apply WL.pure; rfl; rfl; rfl) | (apply EX.thenN) | (apply CW.seq) | (apply CW.region) | (apply CW.block) | (apply CW.skip) | (refine WL.lenO rfl rfl rfl (by assumption) ?_)))
    refine WL.elemO rfl rfl rfl rfl rfl hto (by omega) (by omega) (fun _ => rfl) (fun u q hu => ?_)
    obtain rfl := hu.int
    have ei : ((todo.length : Int) - 1).toNat = todo.length - 1 := by omega
    simp only [ei]
    generalize hx : todo[todo.length - 1] = x at *
    generalize hrest : todo.take (todo.length - 1) = rest at *
    rw [hlast] at hR
    have hlr : todo.length = rest.length + 1 := by rw [hlast]; simp
    have hxo := hR.rv.ok x (by simp)
    (repeat (first | (apply WL.sub'; rfl; rfl; rfl; rfl; omega; omega) | (apply WL.pure; rfl; rfl; rfl) | (apply WL.nil) | (apply EX.thenN) | (apply CW.seq) | (apply CW.region) | (refine WL.lenO rfl rfl rfl (by assumption) ?_)))
    refine WL.cutHiO (α := Int) (todo.length - 1) (by omega) rfl rfl rfl rfl hto (by omega) (fun tv' hto' hb' => ?_)
    rw [hrest] at hto'
    have hne' : ∀ k, tv'.ownBlock = some k → lv.ownBlock = some k → False := fun k hk => hne k (by rw [← hb']; exact hk)
    (repeat (first | (apply WL.pure; rfl; rfl; rfl) | (apply WL.nil) | (apply EX.thenN) | (apply CW.seq) | (apply CW.region)))
    refine WL.elemO rfl rfl rfl rfl rfl hso (by omega) (by rw [hR.ln]; omega) (fun _ => rfl) (fun u q2 hu => ?_)
    obtain rfl := hu.int
    have hxl : x.toNat < num.length := by rw [hR.ln]; omega
    have hxd := getDI_at hxl
    (repeat (first | (apply WL.pure; rfl; rfl; rfl) | (apply WL.nil) | (apply EX.thenN)))
    refine CW.cond rfl (fun h2 => ?_) (fun h2 => ?_)
    · have hs0 : num.getD x.toNat 0 = 0 := by rw [hxd]; simpa using h2
      have hsz0 : (nzB num).getD x.toNat true = false := by
        have e1 := nzB_get hxl
        rw [hs0] at e1
        rw [List.getD_eq_getElem?_getD] at e1 ⊢
        cases e2 : (nzB num)[x.toNat]? with
        | none => exfalso; rw [List.getElem?_eq_none_iff] at e2; simp [nzB] at e2; omega
        | some b => rw [e2] at e1; simpa using e1
      have hpm := pot_set g (nzB num) x.toNat (by omega) hR.rv.len hsz0
      have hmk := NInv.mark hg hR hs0
      (repeat (first | (apply WL.pure; rfl; rfl; rfl) | (apply CW.seq) | (apply CW.region)))
      refine WL.app1 (F := Non) (yv := x) rfl rfl (fun _ => rfl) rfl rfl (fun _ => rfl) hlo (Rd.mkInt _ _ _) (by omega) (fun _ h => h.elim) (by decide) (by unfold maxLen; omega) (by omega) (fun lv' w3 p ho3 hg3 hnb => ?_)
      have hB3 : Ext w0 w3 := hB.grown hg3 hB.size (fun k hk => by have := (hlo.lt k hk).1; omega)
      have hso3 : Own w3 w0.heap.size 3 Non sv num := hso.keptN hg3 (fun k hk e => by rw [hsb] at hk; cases hk; have := (hlo.lt _ e.symm).1; omega)
      have hto3 : Own w3 (w0.heap.size + 1) 3 Non tv' rest := hto'.keptN hg3 (fun k hk e => hne' k hk e.symm)
      have hne3 : ∀ k, tv'.ownBlock = some k → lv'.ownBlock = some k → False := fun k h1 h2 => by
        rcases hnb k h2 with h3 | h3
        · exact hne' k h1 h3
        · have := (hto'.lt k h1).2.1; omega
      have hw3 := hg3.size
      (repeat (first | (apply WL.pure; rfl; rfl; rfl) | (apply WL.nil) | (apply EX.thenN) | (apply CW.seq) | (apply CW.region) | (refine WL.lenO rfl rfl rfl (by assumption) ?_)))
      refine WL.set rfl rfl rfl rfl hso3 (by omega) (by rw [hR.ln]; omega) (fun _ => rfl) (fun _ => rfl) (Rd.mkInt _ _ _) (fun w4 q3 hso4 hg4 => ?_)
      have hB4 : Ext w0 w4 := hB3.grown hg4 hB3.size (fun k hk => by rw [hsb] at hk; cases hk; exact Nat.le_refl _)
      have hto4 : Own w4 (w0.heap.size + 1) 3 Non tv' rest := hto3.keptN hg4 (fun k hk e => by rw [hsb] at e; cases e; have := (hto3.lt _ hk).1; omega)
      have hlo4 : Own w4 (w0.heap.size + 1) 3 Non lv' (li ++ [x]) := ho3.keptN hg4 (fun k hk e => by rw [hsb] at e; cases e; have := (ho3.lt _ hk).1; omega)
      have hw4 := hg4.size
      (repeat (first | (apply WL.pure; rfl; rfl; rfl) | (apply WL.nil) | (apply EX.thenN) | (apply CW.region)))
      have hxg : x.toNat < g.length := by omega
      refine WL.elem rfl rfl rfl rfl rfl (hs.at hB4) (by omega) (by omega) (fun _ => rfl) (fun u q4 hu => ?_)
      obtain ⟨ro, rcap, rfl, hrow⟩ := hu.sl
      have erow : g.getD x.toNat [] = g[x.toNat] := getDG_at hxg
      rw [erow] at hpm hmk
      skip
      refine WL.app (F := Non) rfl rfl rfl rfl hto4 hrow.srcN (by omega) (fun _ h => h.elim) (by unfold maxLen; omega) (by omega) (fun tv5 w5 ho5 hg5 hn5 => ?_)
      (repeat (first | (apply WL.pure; rfl; rfl; rfl) | (apply WL.nil) | (apply EX.inN)))
      have elen : (((li ++ [x]).length : Nat) : Int) = (li.length : Int) + 1 := by simp
      rw [elen] at hso4
      refine EX.back (tv5, lv', num.set x.toNat ((li.length : Int) + 1), li ++ [x], rest ++ g[x.toNat]) (by repeat (first | exact trivial | refine ⟨rfl, ?_⟩)) ⟨hmk, ?_, ?_, ho5, ?_, ?_, ?_, ?_⟩ ?_
      · dsimp only
        rw [nzB_set (by omega), List.length_append]; omega
      · exact hso4.keptN hg5 (fun k hk e => by rw [hsb] at hk; cases hk; have := (hto4.lt _ e.symm).1; omega)
      · exact hlo4.keptN hg5 (fun k hk e => hne3 k e.symm hk)
      · exact hB4.grown hg5 hB4.size (fun k hk => by have := (hto4.lt k hk).1; omega)
      · have := hg5.size; omega
      · intro k h1 h2
        rcases hn5 k h1 with h3 | h3
        · exact hne3 k h3 h2
        · have := (hlo4.lt k h2).2.1; omega
      · dsimp only
        rw [nzB_set (by omega), List.length_append]; omega
    · have hs0 : num.getD x.toNat 0 ≠ 0 := by rw [hxd]; simpa using h2
      (repeat (first | (apply EX.inN) | (apply CW.skip)))
      exact EX.back (tv', lv, num, li, rest) (by repeat (first | exact trivial | refine ⟨rfl, ?_⟩)) ⟨NInv.pass hR hs0, by dsimp only; omega, hso, hto', hlo, hB, hw1, hne'⟩ (by dsimp only; omega)
  · have htn : todo = [] := by simpa using h
    subst htn
    have hsm := sm_ok hR hg hof
    obtain ⟨lo, lc, rfl, hlis⟩ := hlo.oldN.sl
    (repeat (first | (apply WL.pure; rfl; rfl; rfl) | (apply EX.thenN) | (apply CW.seq) | (apply CW.region) | (apply WL.lenS; rfl; rfl; rfl) | (apply CW.exit) | (apply EX.thenX) | (apply EX.inX)))
    refine WL.make (α := Raw) rfl rfl rfl rfl (by omega) (by unfold maxLen; omega) (fun w3 ho3 hg3 => ?_)
    have hE3 : Ext w w3 := (Below.refl _ _).grown hg3 (Nat.le_refl _) (fun k h => by cases h)
    have hN3 : OwnN w3 w.heap.size 22 3 (.slice (some ⟨w.heap.size, 0, none⟩) li.length li.length) _ (List.replicate li.length ([] : List Int)) := OwnN.made ho3
    rw [← gridP_start (full := smFull g li)] at hN3
    have hnum : Sl w (Old w) (some ⟨w0.heap.size, 0, none⟩) g.length num := by
      obtain ⟨a, c, e, h⟩ := hso.oldN.sl
      rw [← hsv] at e
      obtain ⟨rfl, e2, rfl⟩ := Value.slice.inj e
      exact h
    have hlnum := hR.ln
    rw [← hsv]
    rw [← hlnum] at hnum
    clear ho3 hg3 hso hto hlo
    (repeat (first | (apply WL.pure; rfl; rfl; rfl) | (apply WL.nil) | (apply EX.thenN) | (apply CW.seq) | (apply CW.region) | (apply WL.lenS; rfl; rfl; rfl) | (apply CW.block)))
    refine CW.loop (S := Nat × List Raw) (fun s => [(0, .slice ao g.length cap), (6, .slice (some ⟨w0.heap.size, 0, none⟩) g.length g.length), (8, .slice lo li.length lc), (10, .slice (some ⟨w.heap.size, 0, none⟩) li.length li.length), (57, .slice lo li.length lc), (58, .int .i64 li.length), (59, .int .i64 s.1)])
      (fun s x => s.1 ≤ li.length ∧ OwnN x w.heap.size 22 3 (.slice (some ⟨w.heap.size, 0, none⟩) li.length li.length) s.2 (gridP li.length (smFull g li) s.1 []) ∧ Ext w x) (fun s => li.length - s.1) (0, _) (by repeat (first | exact trivial | refine ⟨rfl, ?_⟩)) ⟨Nat.zero_le _, hN3, hE3⟩ ?_
    rintro ⟨i, vs⟩ w4 ⟨hi, hN, e4⟩
    dsimp only at hi hN
    (repeat (first | (apply WL.pure; rfl; rfl; rfl) | (apply WL.nil) | (apply EX.thenN) | (apply CW.seq) | (apply CW.region)))
    refine CW.cond rfl (fun h => ?_) (fun h => ?_)
    · have hi' : i < li.length := by simp at h; omega
      have hlx := hR.ok _ (List.getElem_mem hi')
      obtain ⟨x, ex⟩ := Int.eq_ofNat_of_zero_le hlx.1
      have hxg : x < g.length := by omega
      have exn : (li.getD i 0).toNat = x := by rw [getDI_at hi', ex]; omega
      have erow : g.getD (li.getD i 0).toNat [] = g[x] := by rw [exn]; exact getDG_at hxg
      (repeat (first | (apply WL.pure; rfl; rfl; rfl) | (apply EX.thenN) | (apply CW.seq) | (apply CW.region) | (apply CW.block) | (apply CW.skip)))
      refine WL.elemI rfl rfl rfl rfl rfl (hlis.up e4) hi' ex (fun _ => rfl) (fun q => ?_)
      (repeat (first | (apply WL.pure; rfl; rfl; rfl) | (apply WL.nil) | (apply EX.thenN) | (apply CW.seq) | (apply CW.region)))
      refine WL.elemN rfl rfl rfl rfl rfl (hs.at (hB.trans e4)) hxg (fun _ => rfl) (fun u q hu => ?_)
      obtain ⟨ro, rc, rfl, hrow⟩ := hu.sl
      have hre := row_edges hxg
      have hrl := hrow.len63
      (repeat (first | (apply WL.pure; rfl; rfl; rfl) | (apply WL.nil) | (apply EX.thenN) | (apply WL.lenS; rfl; rfl; rfl) | (apply CW.block)))
      refine CW.loop (S := Nat × List Raw) (fun s => [(0, .slice ao g.length cap), (6, .slice (some ⟨w0.heap.size, 0, none⟩) g.length g.length), (8, .slice lo li.length lc), (10, .slice (some ⟨w.heap.size, 0, none⟩) li.length li.length), (11, .int .i64 i), (57, .slice lo li.length lc), (58, .int .i64 li.length), (59, .int .i64 i), (67, .slice ro g[x].length rc), (68, .int .i64 g[x].length), (69, .int .i64 s.1)])
        (fun s z => s.1 ≤ g[x].length ∧ OwnN z w.heap.size 22 3 (.slice (some ⟨w.heap.size, 0, none⟩) li.length li.length) s.2 (gridP li.length (smFull g li) i ((smFull g li i).take s.1)) ∧ Ext w z) (fun s => g[x].length - s.1) (0, vs) (by repeat (first | exact trivial | refine ⟨rfl, ?_⟩)) ⟨Nat.zero_le _, by rw [List.take_zero]; exact hN, e4⟩ ?_
      rintro ⟨j, vs⟩ w5 ⟨hj, hN, e5⟩
      dsimp only at hj hN
      have hrow5 : Sl w5 (Old w0) ro rc g[x] := hrow.mono (fun b hb => ((hB.trans e5).block b hb).trans ((hB.trans e4).block b hb).symm) (fun _ h => h)
      (repeat (first | (apply WL.pure; rfl; rfl; rfl) | (apply WL.nil) | (apply EX.thenN) | (apply CW.seq) | (apply CW.region)))
      refine CW.cond rfl (fun h => ?_) (fun h => ?_)
      · have hj' : j < g[x].length := by simp at h; omega
        have hto := hg _ (List.getElem_mem hxg) _ (List.getElem_mem hj')
        obtain ⟨to, eto⟩ := Int.eq_ofNat_of_zero_le hto.1
        have htol : to < g.length := by omega
        have htn : to < num.length := by omega
        (repeat (first | (apply EX.thenN) | (apply CW.seq) | (apply CW.region) | (apply CW.block) | (apply CW.skip)))
        refine WL.elemI rfl rfl rfl rfl rfl hrow5 hj' eto (fun _ => rfl) (fun q => ?_)
        (repeat (apply WL.pure; rfl; rfl; rfl))
        apply WL.nil
        apply EX.thenN
        have hlen := hN.len
        rw [gridP_len] at hlen
        have hiv : i < vs.length := by omega
        have hd := Ext.drew w5
        have hNd := hN.ext hd
        have hin := hNd.inn i hiv (by rw [gridP_len]; exact hi')
        rw [gridP_get hi'] at hin
        obtain ⟨oo, oc, hov, hout⟩ := hNd.out.slF (F' := fun b => b = w.heap.size) (fun _ h => h.elim) (fun g hg => by cases hg; rfl)
        obtain ⟨rfl, _, rfl⟩ := Value.slice.inj hov
        have hnumd : Sl (drew w5) (Old w) (some ⟨w0.heap.size, 0, none⟩) num.length num := hnum.at (e5.trans hd)
        have hnext := smFull_next (g := g) (li := li) (i := i) (j := j) (by rw [erow]; exact hj')
        have hgj : (g.getD (li.getD i 0).toNat [])[j]'(by rw [erow]; exact hj') = (to : Int) := by simp only [erow]; exact eto
        rw [hgj] at hnext
        have hmem : (to : Int) ∈ li := by
          refine (hR.done hg hof to).2 ?_
          have h1 := (hR.done hg hof x).1 (by rw [← ex]; exact List.getElem_mem hi')
          have h2 := Rch.step (x := (to : Int)) h1 (by rw [getDG_at hxg, ← eto]; exact List.getElem_mem hj')
          simpa using h2
        have hnv : num[to] = (li.idxOf (to : Int) : Int) + 1 := by rw [← getDI_at htn, hR.val to htol, if_pos hmem]
        have hsl : (smFull g li i).length = g[x].length := by unfold smFull; rw [List.length_map, erow]
        have hsz : w.heap.size < w5.heap.size := (hN.out.lt _ rfl).2.1
        have hszd := hd.size
        refine CW.drawE (fun z : World => ∀ b, b ≤ w.heap.size → z.heap[b]? = (drew w5).heap[b]?) [(0, true), (1, true), (2, true), (3, true), (4, true), (5, true), (6, true), (7, true), (8, true), (9, true), (10, true), (11, false), (12, false), (13, true)] 14 mixed (by kernel_rfl) (fun _ _ => rfl) ?_
        (repeat (apply HL.pure; rfl; rfl; rfl; rfl))
        rw [← hlen] at hout ⊢
        refine HL.elemK (w := drew w5) (F := fun b => b = w.heap.size) (fun z hz b hb => hz b (by rw [hb]; exact Nat.le_refl _)) rfl rfl rfl rfl rfl rfl rfl hout hiv (fun _ => rfl) (fun u q hu => ?_)
        obtain ⟨rfl, _⟩ := hu.raw
        rw [hlen]
        (repeat (apply HL.pure; rfl; rfl; rfl; rfl))
        rw [← hlnum]
        refine HL.elemK (w := drew w5) (F := Old w) (fun z hz b hb => hz b (Nat.le_of_lt hb)) rfl rfl rfl rfl rfl rfl rfl hnumd htn (fun _ => rfl) (fun u q hu => ?_)
        obtain rfl := hu.int
        rw [hlnum, hnv]
        have hix := List.idxOf_lt_length_iff.2 hmem
        (repeat (apply HL.sub'; rfl; rfl; rfl; rfl; rfl; omega; omega))
        rw [show (li.idxOf (to : Int) : Int) + 1 - 1 = (li.idxOf (to : Int) : Int) by omega]
        refine HL.app1 (bytes := 8) rfl rfl rfl rfl (fun _ => rfl) rfl rfl (fun _ => rfl) hin (Rd.mkInt _ _ _) (by omega) (fun _ h => h.elim) (by decide) (by rw [List.length_take]; unfold maxLen; omega) (by rw [List.length_take]; omega)
          (fun z hz b hb => hz.block b (by omega) (fun e => ?_)) (fun v' w6 p ho6 hg6 hnb => ?_)
        · rcases Nat.lt_or_ge b w.heap.size with h1 | h1
          · have := (hin.lt b e.symm).1; omega
          · obtain rfl : b = w.heap.size := by omega
            exact hNd.dio i hiv _ e.symm rfl
        rw [← hnext] at ho6
        have hmid := hNd.mid hiv hg6
        skip
        refine HL.setTail (yv := (⟨v'⟩ : Raw)) rfl rfl rfl rfl rfl rfl hmid hiv (fun _ => rfl) (fun _ => rfl) (Rd.mkRaw _ _ _ ?_) (fun w7 q ho7 hg7 => ?_)
        · obtain ⟨a, b, rfl⟩ := ho6.val; rfl
        have hN7 := hNd.set hiv ho6 hg6 hnb ho7 hg7
        rw [gridP_set hi'] at hN7
        have e5d := e5.trans hd
        have e7 : Ext w w7 := (e5d.grown hg6 e5d.size (fun b hb => (hin.lt b hb).1)).grown hg7 (Nat.le_trans e5d.size hg6.size) (fun b hb => (hNd.out.lt b hb).1)
        (repeat (first | (apply WL.add; rfl; rfl; rfl; rfl; omega; omega) | (apply WL.pure; rfl; rfl; rfl) | (apply WL.nil) | (apply EX.thenN) | (apply CW.region) | (apply EX.inN)))
        exact EX.back (j + 1, vs.set i ⟨v'⟩) (by repeat (first | exact trivial | refine ⟨rfl, ?_⟩)) ⟨hj', hN7, e7⟩ (by dsimp only; omega)
      · obtain rfl : j = g[x].length := by simp at h; omega
        (repeat (first | (apply WL.add; rfl; rfl; rfl; rfl; omega; omega) | (apply WL.pure; rfl; rfl; rfl) | (apply WL.nil) | (apply EX.thenN) | (apply CW.region) | (apply EX.inN) | (apply CW.exit) | (apply EX.thenX) | (apply EX.inX)))
        refine EX.back (i + 1, vs) (by repeat (first | exact trivial | refine ⟨rfl, ?_⟩)) ⟨hi', ?_, e5⟩ (by dsimp only; omega)
        have hsl : (smFull g li i).length = g[x].length := by unfold smFull; rw [List.length_map, erow]
        rw [← hsl, List.take_length, gridP_next] at hN
        exact hN
    · obtain rfl : i = li.length := by simp at h; omega
      rw [gridP_done] at hN
      (repeat (first | (apply WL.pure; rfl; rfl; rfl) | (apply WL.nil) | (apply EX.thenN) | (apply CW.seq) | (apply CW.region) | (apply CW.exit) | (apply EX.thenX) | (apply EX.inX) | (apply CW.ret)))
      exact EX.ret2 rfl rfl rfl ⟨_, _, li, _, rfl, hsm, (hlis.up e4).rd, hN.old, hB.trans e4⟩
end Go.Proofs.Ytadbkppgaekmpaa
