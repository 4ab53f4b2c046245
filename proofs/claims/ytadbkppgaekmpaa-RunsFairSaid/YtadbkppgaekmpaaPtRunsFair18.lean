import Derived.Test.YtadbkppgaekmpaaPtRunsFair17
/-
  Each state of a process's world begins a fair way: plain lists, no program in sight.
-/
set_option linter.unusedVariables false
set_option linter.unusedSimpArgs false
namespace Go.Proofs.Ytadbkppgaekmpaa

def runG (nx : List (List LEdge)) : List (List Int) := (List.range (atV nx nx.length)).map (nextJ nx)
def runF (K : Nat) (nx : List (List LEdge)) : List (List Int) := (List.range K).map fun k : Nat => fairK nx (k : Int)
theorem runG_len {nx : List (List LEdge)} : (runG nx).length = atV nx nx.length := by simp [runG]
theorem runG_get {nx : List (List LEdge)} {j : Nat} (h : j < atV nx nx.length) : (runG nx).getD j [] = nextJ nx j := by
  unfold runG
  rw [List.getD_eq_getElem?_getD, List.getElem?_map, List.getElem?_range h]; rfl
theorem allL_in {nx : List (List LEdge)} {m : Nat} (hm : m < nx.length) : okL (atV nx nx.length) (allL nx m) := fun x hx => by
  unfold allL at hx
  obtain ⟨i, hi, rfl⟩ := List.mem_map.1 hx
  have := atV_lt (nx := nx) hm (List.mem_range.1 hi)
  omega
theorem toE_ok {sl : List LStep} {nx : List (List LEdge)} (hN : NxOk sl nx) {j : Nat} (hj : j < atV nx nx.length) (h0 : ¬ (ofX nx j).1 < 0) : (toE nx j).2.toNat < nx.length := by
  obtain ⟨n, i, hn, hi, hji, hx2, hx⟩ := ofX_ok hN hj
  rcases hx with ⟨hx, _⟩ | ⟨_, _, hir, hxe⟩
  · omega
  have hed := hN.ed n hn _ (List.getElem_mem hir)
  unfold toE
  rw [hx2, Int.toNat_natCast, show j - atV nx n = i by omega, getEd hir]
  omega
theorem nextJ_in {sl : List LStep} {nx : List (List LEdge)} (hN : NxOk sl nx) {j : Nat} (hj : j < atV nx nx.length) : okL (atV nx nx.length) (nextJ nx j) := by
  unfold nextJ
  split
  · intro x hx
    rw [List.mem_singleton] at hx
    subst hx; omega
  · rename_i h0
    exact allL_in (toE_ok hN hj h0)
theorem nextJ_len {sl : List LStep} {nx : List (List LEdge)} (hN : NxOk sl nx) {j : Nat} : 0 < (nextJ nx j).length ∧ (nextJ nx j).length ≤ 60 := by
  unfold nextJ
  split
  · simp
  · have h1 := mny_pos (nx := nx) (n := (toE nx j).2.toNat)
    have h2 := hN.row (toE nx j).2.toNat
    unfold allL
    rw [List.length_map, List.length_range]
    unfold mny at h1 ⊢
    omega
theorem runG_rows {sl : List LStep} {nx : List (List LEdge)} (hN : NxOk sl nx) : ∀ r ∈ runG nx, 0 < r.length ∧ r.length ≤ 60 ∧ okL (atV nx nx.length) r := fun r hr => by
  unfold runG at hr
  obtain ⟨j, hj, rfl⟩ := List.mem_map.1 hr
  exact ⟨(nextJ_len hN).1, (nextJ_len hN).2, nextJ_in hN (List.mem_range.1 hj)⟩
theorem fairK_in {nx : List (List LEdge)} {k : Int} : okL (atV nx nx.length) (fairK nx k) := fun x hx => by
  unfold fairK fairN at hx
  obtain ⟨i, hi, rfl⟩ := List.mem_map.1 hx
  have := List.mem_range.1 (List.mem_filter.1 hi).1
  omega
theorem runF_in {nx : List (List LEdge)} {K : Nat} : ∀ F ∈ runF K nx, okL (atV nx nx.length) F := fun F hF => by
  unfold runF at hF
  obtain ⟨k, _, rfl⟩ := List.mem_map.1 hF
  exact fairK_in
theorem runs_chk {sl : List LStep} {nx : List (List LEdge)} (hN : NxOk sl nx) (h600 : atV nx nx.length ≤ 600) : chkWd (allL nx 0) (runG nx) (atV nx nx.length) (runF sl.length nx) = 0 := by
  have hsl := hN.sl
  have hF : (runF sl.length nx).length = sl.length := by simp [runF]
  unfold chkWd
  rw [runG_len, if_neg (by omega), if_neg, if_neg, if_neg]
  · intro h
    obtain ⟨F, hF, ho⟩ := List.any_eq_true.1 h
    rw [oddB_false.2 (runF_in F hF)] at ho; cases ho
  · intro h
    obtain ⟨r, hr, ho⟩ := List.any_eq_true.1 h
    obtain ⟨h1, _, h3⟩ := runG_rows hN r hr
    unfold chkN at ho
    rw [oddB_false.2 h3, Bool.or_false] at ho
    simp at ho
    rw [ho] at h1; simp at h1
  · rintro (h | h)
    · exact h rfl
    · rw [oddB_false.2 (allL_in hN.pos)] at h; cases h
/-- the edge of a step, or the first -/
def pickE (row : List LEdge) (k : Int) : Nat := (row.findIdx? fun e => e.1 == k).getD 0
theorem pickE_lt {nx : List (List LEdge)} {m : Nat} {k : Int} : pickE (nx.getD m []) k < mny nx m := by
  unfold pickE
  cases h : (nx.getD m []).findIdx? (fun e => e.1 == k) with
  | none => exact mny_pos
  | some i =>
    obtain ⟨h1, _⟩ := List.findIdx?_eq_some_iff_getElem.1 h
    unfold mny
    simp only [Option.getD_some]
    omega
theorem pickE_at {row : List LEdge} {k : Int} (h : (row.any fun y => y.1 == k) = true) : pickE row k < row.length ∧ (row.getD (pickE row k) (0, 0)).1 = k := by
  unfold pickE
  cases hf : row.findIdx? (fun e => e.1 == k) with
  | none =>
    rw [List.findIdx?_eq_none_iff] at hf
    obtain ⟨y, hy, hyk⟩ := List.any_eq_true.1 h
    rw [hf y hy] at hyk; cases hyk
  | some i =>
    obtain ⟨h1, h2, _⟩ := List.findIdx?_eq_some_iff_getElem.1 hf
    simp only [Option.getD_some]
    rw [getEd h1]
    exact ⟨h1, by simpa using h2⟩
/-- each step in turn -/
def turnR (K : Nat) (nx : List (List LEdge)) (n : Nat) : Nat → Nat
  | 0 => n
  | t + 1 => if (ofX nx (turnR K nx n t)).1 < 0 then turnR K nx n t else atV nx (toE nx (turnR K nx n t)).2.toNat + pickE (nx.getD (toE nx (turnR K nx n t)).2.toNat []) (((t + 1) % K : Nat) : Int)
theorem turnR_lt {sl : List LStep} {nx : List (List LEdge)} (hN : NxOk sl nx) {K n : Nat} (hn : n < atV nx nx.length) : ∀ t, turnR K nx n t < atV nx nx.length
  | 0 => hn
  | t + 1 => by
    have ih := turnR_lt hN (K := K) hn t
    rw [turnR]
    split
    · exact ih
    · rename_i h0
      exact atV_lt (toE_ok hN ih h0) pickE_lt
theorem inF_mem {nx : List (List LEdge)} {k : Int} {j : Nat} (hj : j < atV nx nx.length) (h : inF nx k j = true) : (j : Int) ∈ fairK nx k := by
  unfold fairK fairN
  exact List.mem_map.2 ⟨j, List.mem_filter.2 ⟨List.mem_range.2 hj, h⟩, rfl⟩
theorem turnR_stay {K n : Nat} {nx : List (List LEdge)} {t0 : Nat} (h : (ofX nx (turnR K nx n t0)).1 < 0) : ∀ d, turnR K nx n (t0 + d) = turnR K nx n t0
  | 0 => rfl
  | d + 1 => by
    have ih := turnR_stay h d
    rw [show t0 + (d + 1) = (t0 + d) + 1 by omega, turnR, ih, if_pos h]
theorem runs_fair {sl : List LStep} {nx : List (List LEdge)} (hN : NxOk sl nx) : allB (runG nx) (runF sl.length nx) = List.replicate (atV nx nx.length) true := by
  have hok : okG (runG nx) := fun r hr => by rw [runG_len]; exact (runG_rows hN r hr).2.2
  have hlen : (allB (runG nx) (runF sl.length nx)).length = atV nx nx.length := by
    unfold allB
    rw [withinB_len, runG_len]
  refine List.ext_getElem (by rw [hlen, List.length_replicate]) fun n h1 h2 => ?_
  rw [List.getElem_replicate]
  have hn : n < atV nx nx.length := by omega
  have := (allB_iff (nx := runG nx) (fr := runF sl.length nx) hok (n := n) (by rw [runG_len]; exact hn)).2 ⟨turnR sl.length nx n, rfl, fun t => ?_, fun P hP i => ?_⟩
  · rw [List.getD_eq_getElem?_getD, List.getElem?_eq_getElem h1] at this
    exact this
  · have hlt := turnR_lt hN (K := sl.length) hn t
    show ((turnR sl.length nx n (t + 1) : Nat) : Int) ∈ (runG nx).getD (turnR sl.length nx n t) []
    rw [runG_get hlt]
    unfold nextJ
    rw [turnR]
    split
    · simp
    · unfold allL
      exact List.mem_map.2 ⟨_, List.mem_range.2 pickE_lt, rfl⟩
  · obtain ⟨F, hF, rfl⟩ := List.mem_map.1 hP
    unfold runF at hF
    obtain ⟨k, hk, rfl⟩ := List.mem_map.1 hF
    have hk := List.mem_range.1 hk
    by_cases hneg : ∃ t0, (ofX nx (turnR sl.length nx n t0)).1 < 0
    · obtain ⟨t0, h0⟩ := hneg
      refine ⟨t0 + i, by omega, ?_⟩
      have hlt := turnR_lt hN (K := sl.length) hn (t0 + i)
      refine inF_mem hlt ?_
      rw [turnR_stay h0]
      have hlt0 := turnR_lt hN (K := sl.length) hn t0
      obtain ⟨m, q, hm, hq, _, hx2, hx⟩ := ofX_ok hN hlt0
      rcases hx with ⟨_, he⟩ | ⟨h, _⟩
      · unfold inF canJ
        rw [hx2, Int.toNat_natCast, he]; rfl
      · omega
    · have hneg : ∀ t, ¬ (ofX nx (turnR sl.length nx n t)).1 < 0 := fun t h => hneg ⟨t, h⟩
      have hge : i ≤ sl.length * (i + 1) + k := by
        have : 1 * (i + 1) ≤ sl.length * (i + 1) := Nat.mul_le_mul_right _ (by omega)
        omega
      have h1 : 1 ≤ sl.length * (i + 1) + k := by
        have : 1 * (i + 1) ≤ sl.length * (i + 1) := Nat.mul_le_mul_right _ (by omega)
        omega
      refine ⟨sl.length * (i + 1) + k, hge, ?_⟩
      have hmod : (sl.length * (i + 1) + k) % sl.length = k := by rw [Nat.mul_add_mod, Nat.mod_eq_of_lt hk]
      generalize sl.length * (i + 1) + k = j at *
      obtain ⟨t, rfl⟩ : ∃ t, j = t + 1 := ⟨j - 1, by omega⟩
      have hlt := turnR_lt hN (K := sl.length) hn (t + 1)
      have hltt := turnR_lt hN (K := sl.length) hn t
      refine inF_mem hlt ?_
      have hm := toE_ok hN hltt (hneg t)
      rw [turnR, if_neg (hneg t), hmod]
      generalize (toE nx (turnR sl.length nx n t)).2.toNat = m at *
      unfold inF canJ
      have hx := ofX_at hm (pickE_lt (nx := nx) (m := m) (k := (k : Int)))
      have hx2 : (ofX nx (atV nx m + pickE (nx.getD m []) (k : Int))).2 = (m : Int) := by
        rw [hx]; split <;> rfl
      rw [hx2, Int.toNat_natCast]
      cases hany : ((nx.getD m []).any fun y => y.1 == (k : Int)) with
      | false => rfl
      | true =>
        obtain ⟨p1, p2⟩ := pickE_at hany
        have hne : nx.getD m [] ≠ [] := fun h => by rw [h] at p1; simp at p1
        rw [hx, if_neg hne]
        dsimp only
        rw [p2, beq_self_eq_true]
        exact Bool.or_true _
theorem runG_edges {sl : List LStep} {nx : List (List LEdge)} (hN : NxOk sl nx) (h600 : atV nx nx.length ≤ 600) : edges (runG nx) ≤ 8589934592 := by
  have h := edges_le (runG nx) 60 (fun r hr => (runG_rows hN r hr).2.1)
  rw [runG_len] at h
  omega
end Go.Proofs.Ytadbkppgaekmpaa
/-
  Package runs: states: walked.
-/
set_option linter.unusedVariables false
set_option linter.unusedSimpArgs false
namespace Go.Proofs.Ytadbkppgaekmpaa
open Go.RowKit

/-- max(x, y) -/
theorem WL.maxR {P : Program} {Q : Exit → Act → World → Prop} {n : Nat} {σ : Sg} {w : World} {L rest : List Oper} {d : Nat} {ty : TypeId} {pos : String} {af : Array Edge} {g : Option (Nat × Bool)} {x y : Operand} {a c : Int} {ts : Array TypeId}
    (hg : gd L σ ⟨some d, .call ⟨.builtin .max, #[x, y], ts⟩, ty, pos, af, g⟩ = some true) (hd : Nat.ble (d + 1) n = true) (hx : ev σ x = some (.int .i64 a)) (hy : ev σ y = some (.int .i64 c))
    (h : WL P L Q rest n ((d, .int .i64 (max a c)) :: σ) w) : WL P L Q (⟨some d, .call ⟨.builtin .max, #[x, y], ts⟩, ty, pos, af, g⟩ :: rest) n σ w := by
  refine WL.run hg hd (fun u hu => ?_) h
  have e : (if a < c then c else a) = max a c := by omega
  simp [execOp, resolve, invoke, builtin, hu.ev hx, hu.ev hy, run_max_int2, e]
/-- three lists that grow in one struct -/
structure Fld3 (w : World) (B sb : Nat) (ov av yv : Value) (os : List LEdge) (bs ys : List Int) : Prop where
  o : Own w B 77 Non ov os
  a : Own w B 3 Non av bs
  y : Own w B 3 Non yv ys
  oa : ∀ g, ov.ownBlock = some g → av.ownBlock ≠ some g
  oy : ∀ g, ov.ownBlock = some g → yv.ownBlock ≠ some g
  ay : ∀ g, av.ownBlock = some g → yv.ownBlock ≠ some g
  sb : sb < B
section
variable {w w0 w1 w2 : World} {B sb : Nat} {ov av yv ov' av' yv' : Value} {os os' : List LEdge} {bs ys bs' ys' : List Int}
theorem Fld3.ext (h : Fld3 w B sb ov av yv os bs ys) (hE : Ext w w1) : Fld3 w1 B sb ov av yv os bs ys := ⟨h.o.extN hE, h.a.extN hE, h.y.extN hE, h.oa, h.oy, h.ay, h.sb⟩
theorem Fld3.setO (h : Fld3 w B sb ov av yv os bs ys) (hB : B = w0.heap.size) (hC : Chg (fun b => b = sb) w0 w) (ho : Own w1 B 77 Non ov' os') (hg : w.grownBy w1 ov.ownBlock) (hnb : ∀ g, ov'.ownBlock = some g → ov.ownBlock = some g ∨ w.heap.size ≤ g) (hg2 : w1.grownBy w2 (some sb)) :
    Fld3 w2 B sb ov' av yv os' bs ys ∧ Chg (fun b => b = sb) w0 w2 := by
  have hsb := h.sb
  refine ⟨⟨ho.keptN hg2 (fun g hg e => by have := (ho.lt g hg).1; have := Option.some.inj e; omega), (h.a.keptN hg (fun g hg e => h.oa g e.symm hg)).keptN hg2 (fun g hg e => by have := (h.a.lt g hg).1; have := Option.some.inj e; omega), (h.y.keptN hg (fun g hg e => h.oy g e.symm hg)).keptN hg2 (fun g hg e => by have := (h.y.lt g hg).1; have := Option.some.inj e; omega), fun g hg e => ?_, fun g hg e => ?_, h.ay, hsb⟩, ?_⟩
  · rcases hnb g hg with h1 | h1
    · exact h.oa g h1 e
    · have := (h.a.lt g e).2.1; omega
  · rcases hnb g hg with h1 | h1
    · exact h.oy g h1 e
    · have := (h.y.lt g e).2.1; omega
  · exact (hC.then (Chg.of_grown hg) (fun b hb => .inr (by have := (h.o.lt b hb).1; omega))).grown hg2 (fun g hg => by cases hg; rfl)
theorem Fld3.setA (h : Fld3 w B sb ov av yv os bs ys) (hB : B = w0.heap.size) (hC : Chg (fun b => b = sb) w0 w) (ho : Own w1 B 3 Non av' bs') (hg : w.grownBy w1 av.ownBlock) (hnb : ∀ g, av'.ownBlock = some g → av.ownBlock = some g ∨ w.heap.size ≤ g) (hg2 : w1.grownBy w2 (some sb)) :
    Fld3 w2 B sb ov av' yv os bs' ys ∧ Chg (fun b => b = sb) w0 w2 := by
  have hsb := h.sb
  refine ⟨⟨(h.o.keptN hg (fun g hg e => h.oa g hg e.symm)).keptN hg2 (fun g hg e => by have := (h.o.lt g hg).1; have := Option.some.inj e; omega), ho.keptN hg2 (fun g hg e => by have := (ho.lt g hg).1; have := Option.some.inj e; omega), (h.y.keptN hg (fun g hg e => h.ay g e.symm hg)).keptN hg2 (fun g hg e => by have := (h.y.lt g hg).1; have := Option.some.inj e; omega), fun g hg e => ?_, h.oy, fun g hg e => ?_, hsb⟩, ?_⟩
  · rcases hnb g e with h1 | h1
    · exact h.oa g hg h1
    · have := (h.o.lt g hg).2.1; omega
  · rcases hnb g hg with h1 | h1
    · exact h.ay g h1 e
    · have := (h.y.lt g e).2.1; omega
  · exact (hC.then (Chg.of_grown hg) (fun b hb => .inr (by have := (h.a.lt b hb).1; omega))).grown hg2 (fun g hg => by cases hg; rfl)
theorem Fld3.setY (h : Fld3 w B sb ov av yv os bs ys) (hB : B = w0.heap.size) (hC : Chg (fun b => b = sb) w0 w) (ho : Own w1 B 3 Non yv' ys') (hg : w.grownBy w1 yv.ownBlock) (hnb : ∀ g, yv'.ownBlock = some g → yv.ownBlock = some g ∨ w.heap.size ≤ g) (hg2 : w1.grownBy w2 (some sb)) :
    Fld3 w2 B sb ov av yv' os bs ys' ∧ Chg (fun b => b = sb) w0 w2 := by
  have hsb := h.sb
  refine ⟨⟨(h.o.keptN hg (fun g hg e => h.oy g hg e.symm)).keptN hg2 (fun g hg e => by have := (h.o.lt g hg).1; have := Option.some.inj e; omega), (h.a.keptN hg (fun g hg e => h.ay g hg e.symm)).keptN hg2 (fun g hg e => by have := (h.a.lt g hg).1; have := Option.some.inj e; omega), ho.keptN hg2 (fun g hg e => by have := (ho.lt g hg).1; have := Option.some.inj e; omega), h.oa, fun g hg e => ?_, fun g hg e => ?_, hsb⟩, ?_⟩
  · rcases hnb g e with h1 | h1
    · exact h.oy g hg h1
    · have := (h.o.lt g hg).2.1; omega
  · rcases hnb g e with h1 | h1
    · exact h.ay g hg h1
    · have := (h.a.lt g hg).2.1; omega
  · exact (hC.then (Chg.of_grown hg) (fun b hb => .inr (by have := (h.y.lt b hb).1; omega))).grown hg2 (fun g hg => by cases hg; rfl)
end
theorem atL_next {nx : List (List LEdge)} {k : Nat} : atL nx (k + 1) = atL nx k ++ [((atV nx k : Nat) : Int)] := by unfold atL; rw [List.range_succ, List.map_append]; rfl
theorem manyL_next {nx : List (List LEdge)} {k : Nat} : manyL nx (k + 1) = manyL nx k ++ [((mny nx k : Nat) : Int)] := by unfold manyL; rw [List.range_succ, List.map_append]; rfl
set_option maxHeartbeats 2000000 in
theorem states_ok (w0 : World) {F : Nat → Prop} {sb : Nat} {lV mV x1 x2 x3 x4 : Value} {no : Option Addr} {nc : Nat} {nx : List (List LEdge)}
    (hb : Blk w0 sb 170 [lV, mV, .slice no nx.length nc, .slice none 0 0, .slice none 0 0, .slice none 0 0, x1, x2, x3, x4]) (hn : Sl w0 F no nc nx) (hF : ∀ b, F b → b < w0.heap.size ∧ b ≠ sb) (hrow : ∀ j, (nx.getD j []).length ≤ 60) (hn200 : nx.length ≤ 200) :
    Rt Try.prog 94 [.pointer (some ⟨sb, 0, none⟩)].toArray w0 fun v w' => v = .bool (decide (atV nx nx.length ≤ 600)) ∧ ∃ ov av yv, Blk w' sb 170 [lV, mV, .slice no nx.length nc, ov, av, yv, x1, x2, x3, x4] ∧
      Fld3 w' w0.heap.size sb ov av yv (ofP nx nx.length) (atL nx nx.length) (manyL nx nx.length) ∧ Chg (fun b => b = sb) w0 w' := by
  have hsb0 := hb.lt
  refine Rt.enter1 Try.func94 Try.ntmps94 rfl rfl ?_
  (repeat (first | (apply WL.pure; rfl; rfl; rfl) | (apply WL.nil) | (apply EX.thenN) | (apply CW.seq) | (apply CW.region) | (apply WL.lenS; rfl; rfl; rfl) | (apply WL.fa; rfl; rfl; rfl) | (apply WL.nck; rfl; rfl; rfl) | (apply WL.ld; rfl; rfl; rfl; assumption; rfl) | (apply CW.block)))
  refine CW.loop (S := Nat × Value × Value × Value) (fun s => [(0, .pointer (some ⟨sb, 0, none⟩)), (11, .slice no nx.length nc), (12, .int .i64 nx.length), (13, .int .i64 s.1)])
    (fun s w => s.1 ≤ nx.length ∧ Blk w sb 170 [lV, mV, .slice no nx.length nc, s.2.1, s.2.2.1, s.2.2.2, x1, x2, x3, x4] ∧ Fld3 w w0.heap.size sb s.2.1 s.2.2.1 s.2.2.2 (ofP nx s.1) (atL nx s.1) (manyL nx s.1) ∧ Chg (fun b => b = sb) w0 w)
    (fun s => nx.length - s.1) (0, .slice none 0 0, .slice none 0 0, .slice none 0 0) (by repeat (first | exact trivial | refine ⟨rfl, ?_⟩)) ⟨Nat.zero_le _, hb, ⟨Own.nil, Own.nil, Own.nil, (fun g hg => by cases hg), (fun g hg => by cases hg), (fun g hg => by cases hg), hsb0⟩, Chg.refl _ _⟩ ?_
  clear hb
  rintro ⟨n, ov, av, yv⟩ w1 ⟨hi, hb, hf, hC⟩
  dsimp only at hi hb hf hC ⊢
  have z1 := hC.size
  obtain ⟨oo, oc, rfl⟩ := hf.o.val
  have hatn := atV_le hrow n
  have hol : (ofP nx n).length = atV nx n := rfl
  rw [hol] at hb
  (repeat (first | (apply WL.pure; rfl; rfl; rfl) | (apply WL.nil) | (apply EX.thenN) | (apply CW.seq) | (apply CW.region)))
  refine CW.cond rfl (fun h => ?_) (fun h => ?_)
  · have hi' : n < nx.length := by simp only [decide_eq_true_eq] at h; omega
    clear h
    have hnF : ∀ {w : World}, Chg (fun b => b = sb) w0 w → Sl w F no nc nx := fun h => hn.mono (fun b hb => h.block b (hF b hb).1 (hF b hb).2) (fun _ h => h)
    have hFl : ∀ {w : World}, Chg (fun b => b = sb) w0 w → ∀ b, F b → b < w.heap.size := fun h b hb => Nat.lt_of_lt_of_le (hF b hb).1 h.size
    obtain ⟨ao, ac, rfl⟩ := hf.a.val
    have hla := fun g hg => hf.a.lt g hg
    have hal : (atL nx n).length = n := atL_len
    have hrl := hrow n
    (repeat (first | (apply WL.pure; rfl; rfl; rfl) | (apply EX.thenN) | (apply CW.seq) | (apply CW.region) | (apply CW.block) | (apply CW.skip)))
    refine WL.elemN (i := n) rfl rfl rfl rfl rfl (hnF hC) hi' (fun _ => rfl) (fun u q hu => ?_)
    rw [← getRow hi'] at hu
    obtain ⟨ro, rc, rfl, hr⟩ := hu.sl
    clear hu
    (repeat (first | (apply WL.pure; rfl; rfl; rfl) | (apply WL.nil) | (apply EX.thenN) | (apply CW.seq)))
    -- at
    have hD : Ext w1 (drew w1) := Ext.drew w1
    have hbd := hb.ext hD
    have hKs : ∀ u, (fun z : World => ∀ b, b < w1.heap.size → (Value.slice ao (atL nx n).length ac).ownBlock ≠ some b → z.heap[b]? = (drew w1).heap[b]?) u → u.heap[sb]? = (drew w1).heap[sb]? := fun u h => h _ (by omega) (fun e => by have := hla _ e; omega)
    skip
    refine CW.drawE (fun z : World => ∀ b, b < w1.heap.size → (Value.slice ao (atL nx n).length ac).ownBlock ≠ some b → z.heap[b]? = (drew w1).heap[b]?) [(0, true), (1, true), (2, true), (3, true), (4, true), (5, true), (6, true), (7, true), (8, true), (9, true), (10, false), (11, false), (12, false), (13, false)] 14 mixed (by kernel_rfl) (fun _ _ _ => rfl) ?_
    (repeat (first | (apply HL.pure; rfl; rfl; rfl; rfl) | (refine HL.fa rfl rfl rfl rfl ?_) | (apply HL.nck; rfl; rfl; rfl; rfl) | (refine HL.ldK (by assumption) rfl rfl rfl rfl (by assumption) rfl ?_) | (refine HL.lenS rfl rfl rfl rfl ?_)))
    refine HL.app1 (α := Int) (F := Non) (bytes := 8) (yv := ((atV nx n : Nat) : Int)) rfl rfl rfl rfl (fun _ => rfl) rfl rfl (fun _ => rfl) (hf.a.extN hD) (Rd.mkInt _ _ _) (by have := hD.size; omega) (fun _ h => h.elim) (by decide) (by unfold maxLen; omega) (by omega)
      (fun z hz b hb hne => hz.block b hb (fun e => hne e.symm)) (fun av' w2 q2 ho2 hg2 hnb2 => ?_)
    rw [← atL_next] at ho2
    have hb2 := hbd.kept hg2 (fun e => by have := hla _ e.symm; omega)
    have hS2 : (fun z : World => ∀ b, b < w1.heap.size → (Value.slice ao (atL nx n).length ac).ownBlock ≠ some b → z.heap[b]? = (drew w1).heap[b]?) w2 := fun b hb hne => hg2.block b hb (fun e => hne e.symm)
    obtain ⟨ao', ac', rfl⟩ := ho2.val
    refine HL.mut rfl (WL.nck rfl rfl rfl (WL.nil (EX.mut hS2 ?_)))
    refine HL.mut rfl (WL.fa rfl rfl rfl (WL.nil (EX.mut hS2 (HL.nil ?_))))
    refine EX.tail rfl (WL.st rfl rfl rfl hb2 rfl rfl (ones_of rfl) (fun w3 hb3 hg3 => WL.nil (EX.tailE ?_)))
    obtain ⟨hf3, hC3⟩ := (hf.ext hD).setA rfl (hC.trans (Chg.of_ext _ hD)) ho2 hg2 hnb2 hg3
    have hr3 : Sl w3 F ro rc (nx.getD n []) := hr.mono (fun b hb => (hC3.block b (hF b hb).1 (hF b hb).2).trans (hC.block b (hF b hb).1 (hF b hb).2).symm) (fun _ h => h)
    clear hKs hS2 hD hbd hb2 hg2 hg3 ho2 hnb2 hf hla hC hb hr z1
    have hon : ofP nx (n + 1) = ofP nx n ++ ofRow (nx.getD n []) n := ofP_next
    have hmn : manyL nx (n + 1) = manyL nx n ++ [((max 1 (nx.getD n []).length : Nat) : Int)] := manyL_next
    generalize nx.getD n [] = row at *
    have hrF : ∀ {w : World}, Chg (fun b => b = sb) w0 w → Sl w F ro rc row := fun h => hr3.mono (fun b hb => (h.block b (hF b hb).1 (hF b hb).2).trans (hC3.block b (hF b hb).1 (hF b hb).2).symm) (fun _ h => h)
    apply EX.thenN
    (repeat (first | (apply WL.pure; rfl; rfl; rfl) | (apply WL.nil) | (apply EX.thenN) | (apply CW.seq) | (apply CW.region) | (apply WL.lenS; rfl; rfl; rfl) | (apply CW.block)))
    refine CW.loop (S := Nat × Value) (fun s => [(0, .pointer (some ⟨sb, 0, none⟩)), (3, .int .i64 n), (4, .slice ro row.length rc), (11, .slice no nx.length nc), (12, .int .i64 nx.length), (13, .int .i64 n), (32, .slice ro row.length rc), (33, .int .i64 row.length), (34, .int .i64 s.1)])
      (fun s w => s.1 ≤ row.length ∧ Blk w sb 170 [lV, mV, .slice no nx.length nc, s.2, .slice ao' (atL nx (n + 1)).length ac', yv, x1, x2, x3, x4] ∧ Fld3 w w0.heap.size sb s.2 (.slice ao' (atL nx (n + 1)).length ac') yv (ofP nx n ++ (row.take s.1).map fun x => (x.1, (n : Int))) (atL nx (n + 1)) (manyL nx n) ∧ Chg (fun b => b = sb) w0 w)
      (fun s => row.length - s.1) (0, .slice oo (ofP nx n).length oc) (by repeat (first | exact trivial | refine ⟨rfl, ?_⟩)) ⟨Nat.zero_le _, hb3, by simpa using hf3, hC3⟩ ?_
    clear hb3 hf3
    rintro ⟨r, ov⟩ w4 ⟨hr0, hb, hf, hC⟩
    dsimp only at hr0 hb hf hC ⊢
    have z4 := hC.size
    (repeat (first | (apply WL.pure; rfl; rfl; rfl) | (apply WL.nil) | (apply EX.thenN) | (apply CW.seq) | (apply CW.region)))
    refine CW.cond rfl (fun h => ?_) (fun h => ?_)
    · have hr' : r < row.length := by simp only [decide_eq_true_eq] at h; omega
      clear h
      have hnx : ofP nx n ++ (row.take (r + 1)).map (fun x : LEdge => (x.1, (n : Int))) = (ofP nx n ++ (row.take r).map (fun x : LEdge => (x.1, (n : Int)))) ++ [(row[r].1, (n : Int))] := by
        rw [List.take_add_one, List.getElem?_eq_getElem hr', List.map_append, List.append_assoc]; rfl
      have hln : (ofP nx n ++ (row.take r).map (fun x : LEdge => (x.1, (n : Int)))).length = atV nx n + r := by
        rw [List.length_append, List.length_map, List.length_take, hol]; omega
      obtain ⟨oo, oc, rfl⟩ := hf.o.val
      have hlo := fun g hg => hf.o.lt g hg
      (repeat (first | (apply EX.thenN) | (apply CW.seq) | (apply CW.region) | (apply CW.block) | (apply CW.skip)))
      refine WL.elemN (i := r) rfl rfl rfl rfl rfl (hrF hC) hr' (fun _ => rfl) (fun u q hu => ?_)
      rw [rd_edgeR hu]
      clear hu
      generalize row[r] = ed at *
      skip
      refine WL.alloc rfl rfl (fun w5 hb6 e5 => ?_)
      skip
      refine WL.st rfl rfl rfl hb6 rfl rfl (ones_of rfl) (fun w6 hb6 hg6 => ?_)
      have e6 : Ext w4 w6 := Below.grown e5 hg6 e5.size (fun g hg => by cases hg; exact Nat.le_refl _)
      have z6 := e6.size
      have hb := hb.ext e6
      have hf := hf.ext e6
      have hC := hC.trans (Chg.of_ext _ e6)
      have l6 := hb6.lt
      clear e5 hg6
      have hD : Ext w6 (drew w6) := Ext.drew w6
      have hbd := hb.ext hD
      have hb6d := hb6.ext hD
      generalize hOV : ofP nx n ++ (row.take r).map (fun x : LEdge => (x.1, (n : Int))) = OV at *
      have hKs : ∀ u, (fun z : World => ∀ b, b < w6.heap.size → (Value.slice oo OV.length oc).ownBlock ≠ some b → z.heap[b]? = (drew w6).heap[b]?) u → u.heap[sb]? = (drew w6).heap[sb]? := fun u h => h _ (by omega) (fun e => by have := hlo _ e; omega)
      have hK6 : ∀ u, (fun z : World => ∀ b, b < w6.heap.size → (Value.slice oo OV.length oc).ownBlock ≠ some b → z.heap[b]? = (drew w6).heap[b]?) u → u.heap[w4.heap.size]? = (drew w6).heap[w4.heap.size]? := fun u h => h _ (by omega) (fun e => by have := (hlo _ e).2.1; omega)
      (repeat (first | (apply WL.nil) | (apply EX.thenN)))
      refine CW.drawE (fun z : World => ∀ b, b < w6.heap.size → (Value.slice oo OV.length oc).ownBlock ≠ some b → z.heap[b]? = (drew w6).heap[b]?) [(0, true), (1, true), (2, true), (3, true), (4, true), (5, true), (6, true), (7, true), (8, true), (9, false), (10, false), (11, false), (12, false)] 13 mixed (by kernel_rfl) (fun _ _ _ => rfl) ?_
      (repeat (first | (apply HL.pure; rfl; rfl; rfl; rfl) | (refine HL.fa rfl rfl rfl rfl ?_) | (apply HL.nck; rfl; rfl; rfl; rfl) | (refine HL.ldK (by assumption) rfl rfl rfl rfl (by assumption) rfl ?_) | (refine HL.build rfl rfl rfl rfl rfl ?_)))
      refine HL.app1 (α := LEdge) (F := Non) (bytes := 16) (yv := (ed.1, (n : Int))) rfl rfl rfl rfl (fun _ => rfl) rfl rfl (fun _ => rfl) (hf.o.extN hD) (Rd.mkPr (c1 := [.int .i64 ed.1]) (c2 := [.int .i64 (n : Int)]) (rd_mkInt _ _ _) (rd_mkInt _ _ _)) (by have := hD.size; omega) (fun _ h => h.elim) (by decide) (by unfold maxLen; omega) (by omega)
        (fun z hz b hb hne => hz.block b hb (fun e => hne e.symm)) (fun ov' w7 q2 ho7 hg7 hnb7 => ?_)
      rw [← hnx] at ho7
      have hb7 := hbd.kept hg7 (fun e => by have := hlo _ e.symm; omega)
      have hS7 : (fun z : World => ∀ b, b < w6.heap.size → (Value.slice oo OV.length oc).ownBlock ≠ some b → z.heap[b]? = (drew w6).heap[b]?) w7 := fun b hb hne => hg7.block b hb (fun e => hne e.symm)
      obtain ⟨oo', oc', rfl⟩ := ho7.val
      refine HL.mut rfl (WL.nck rfl rfl rfl (WL.nil (EX.mut hS7 ?_)))
      refine HL.mut rfl (WL.fa rfl rfl rfl (WL.nil (EX.mut hS7 (HL.nil ?_))))
      refine EX.tail rfl (WL.st rfl rfl rfl hb7 rfl rfl (ones_of rfl) (fun w8 hb8 hg8 => WL.nil (EX.tailE ?_)))
      obtain ⟨hf8, hC8⟩ := (hf.ext hD).setO rfl (hC.trans (Chg.of_ext _ hD)) ho7 hg7 hnb7 hg8
      (repeat (first | (apply WL.add; rfl; rfl; rfl; rfl; omega; omega) | (apply WL.pure; rfl; rfl; rfl) | (apply WL.nil) | (apply EX.thenN) | (apply CW.region) | (apply EX.inN)))
      exact EX.back (r + 1, _) (by repeat (first | exact trivial | refine ⟨rfl, ?_⟩)) ⟨hr', hb8, hf8, hC8⟩ (by dsimp only; omega)
    have hre : r = row.length := by simp only [decide_eq_false_iff_not] at h; omega
    subst hre
    rw [List.take_length] at hf
    clear h
    have hln : (ofP nx n ++ row.map (fun x : LEdge => (x.1, (n : Int)))).length = atV nx n + row.length := by
      rw [List.length_append, List.length_map, hol]
    obtain ⟨oo, oc, rfl⟩ := hf.o.val
    have hlo := fun g hg => hf.o.lt g hg
    apply CW.exit
    repeat (first | apply EX.thenX | apply EX.inX | apply EX.thenN)
    refine CW.cutI (S := Option Addr × Nat) (fun _ => [(0, .pointer (some ⟨sb, 0, none⟩)), (4, .slice ro row.length rc), (11, .slice no nx.length nc), (12, .int .i64 nx.length), (13, .int .i64 n)])
      (fun s w => Blk w sb 170 [lV, mV, .slice no nx.length nc, .slice s.1 (ofP nx (n + 1)).length s.2, .slice ao' (atL nx (n + 1)).length ac', yv, x1, x2, x3, x4] ∧ Fld3 w w0.heap.size sb (.slice s.1 (ofP nx (n + 1)).length s.2) (.slice ao' (atL nx (n + 1)).length ac') yv (ofP nx (n + 1)) (atL nx (n + 1)) (manyL nx n) ∧ Chg (fun b => b = sb) w0 w) ?_ ?_
    · by_cases h0 : row = []
      · have hor : ofP nx (n + 1) = (ofP nx n ++ row.map (fun x : LEdge => (x.1, (n : Int)))) ++ [(-1, (n : Int))] := by
          rw [hon]; unfold ofRow; rw [if_pos h0, h0]; simp
        have hle : ((row.length : Int) == 0) = true := by rw [h0]; rfl
        generalize ofP nx n ++ row.map (fun x : LEdge => (x.1, (n : Int))) = OV at *
        (repeat (first | (apply WL.pure; rfl; rfl; rfl) | (apply WL.nil) | (apply EX.thenN) | (apply CW.seq) | (apply CW.region) | (apply WL.lenS; rfl; rfl; rfl)))
        rw [hle]
        (repeat (first | (apply WL.pure; rfl; rfl; rfl) | (apply CW.region) | (apply WL.fa; rfl; rfl; rfl) | (apply WL.nck; rfl; rfl; rfl) | (apply WL.ld; rfl; rfl; rfl; assumption; rfl) | (apply CW.condT; rfl)))
        refine WL.build rfl rfl rfl rfl ?_
        refine WL.app1 (α := LEdge) (F := Non) (bytes := 16) (yv := (-1, (n : Int))) rfl rfl (fun _ => rfl) rfl rfl (fun _ => rfl) hf.o (Rd.mkPr (c1 := [.int .i64 (-1)]) (c2 := [.int .i64 (n : Int)]) (rd_mkInt _ _ _) (rd_mkInt _ _ _)) z4 (fun _ h => h.elim) (by decide) (by unfold maxLen; omega) (by omega) (fun ov' w5 q ho5 hg5 hnb5 => ?_)
        rw [← hor] at ho5
        have hb5 := hb.kept hg5 (fun e => by have := hlo _ e.symm; omega)
        obtain ⟨oo', oc', rfl⟩ := ho5.val
        (repeat (first | (apply WL.fa; rfl; rfl; rfl) | (apply WL.nck; rfl; rfl; rfl)))
        refine WL.st rfl rfl rfl hb5 rfl rfl (ones_of rfl) (fun w6 hb6 hg6 => ?_)
        obtain ⟨hf6, hC6⟩ := hf.setO rfl hC ho5 hg5 hnb5 hg6
        (repeat (apply WL.nil))
        exact EX.cutI (oo', oc') (by repeat (first | exact trivial | refine ⟨rfl, ?_⟩)) ⟨hb6, hf6, hC6⟩
      · have hor : ofP nx (n + 1) = ofP nx n ++ row.map (fun x : LEdge => (x.1, (n : Int))) := by
          rw [hon]; unfold ofRow; rw [if_neg h0]
        have hle : ((row.length : Int) == 0) = false := by
          have : 0 < row.length := List.length_pos_iff.2 h0
          have : (row.length : Int) ≠ 0 := by omega
          simpa using this
        rw [← hor] at hf hb
        (repeat (first | (apply WL.pure; rfl; rfl; rfl) | (apply WL.nil) | (apply EX.thenN) | (apply CW.seq) | (apply CW.region) | (apply WL.lenS; rfl; rfl; rfl)))
        rw [hle]
        (repeat (first | (apply CW.condF; rfl) | (apply CW.skip)))
        exact EX.cutI (oo, oc) (by repeat (first | exact trivial | refine ⟨rfl, ?_⟩)) ⟨hb, hf, hC⟩
    clear hb hf hlo hC z4
    rintro ⟨oo, oc⟩ w5 ⟨hb, hf, hC⟩
    dsimp only at hb hf hC
    have z5 := hC.size
    obtain ⟨yo, yc, rfl⟩ := hf.y.val
    have hly := fun g hg => hf.y.lt g hg
    have hyl : (manyL nx n).length = n := manyL_len
    (repeat (first | (apply WL.pure; rfl; rfl; rfl) | (apply CW.region) | (apply WL.lenS; rfl; rfl; rfl) | (apply WL.fa; rfl; rfl; rfl) | (apply WL.nck; rfl; rfl; rfl) | (apply WL.ld; rfl; rfl; rfl; assumption; rfl)))
    refine WL.maxR rfl rfl rfl rfl ?_
    rw [show max (1 : Int) (row.length : Int) = ((max 1 row.length : Nat) : Int) by omega]
    refine WL.app1 (α := Int) (F := Non) (bytes := 8) (yv := ((max 1 row.length : Nat) : Int)) rfl rfl (fun _ => rfl) rfl rfl (fun _ => rfl) hf.y (Rd.mkInt _ _ _) z5 (fun _ h => h.elim) (by decide) (by unfold maxLen; omega) (by omega) (fun yv' w6 q ho6 hg6 hnb6 => ?_)
    rw [← hmn] at ho6
    have hb6 := hb.kept hg6 (fun e => by have := hly _ e.symm; omega)
    obtain ⟨yo', yc', rfl⟩ := ho6.val
    (repeat (first | (apply WL.fa; rfl; rfl; rfl) | (apply WL.nck; rfl; rfl; rfl)))
    refine WL.st rfl rfl rfl hb6 rfl rfl (ones_of rfl) (fun w7 hb7 hg7 => ?_)
    obtain ⟨hf7, hC7⟩ := hf.setY rfl hC ho6 hg6 hnb6 hg7
    (repeat (first | (apply WL.add; rfl; rfl; rfl; rfl; omega; omega) | (apply WL.pure; rfl; rfl; rfl) | (apply WL.nil) | (apply EX.thenN) | (apply CW.region) | (apply EX.inN)))
    exact EX.back (n + 1, _, _, _) (by repeat (first | exact trivial | refine ⟨rfl, ?_⟩)) ⟨hi', hb7, hf7, hC7⟩ (by dsimp only; omega)
  have hne : n = nx.length := by simp only [decide_eq_false_iff_not] at h; omega
  subst hne
  have hde : decide (((atV nx nx.length : Nat) : Int) ≤ 600) = decide (atV nx nx.length ≤ 600) := by
    by_cases h : atV nx nx.length ≤ 600
    · rw [decide_eq_true h, decide_eq_true (by omega)]
    · rw [decide_eq_false h, decide_eq_false (by omega)]
  rw [← hde]
  (repeat (first | (apply WL.pure; rfl; rfl; rfl) | (apply WL.nil) | (apply EX.thenN) | (apply CW.seq) | (apply CW.region) | (apply WL.lenS; rfl; rfl; rfl) | (apply WL.fa; rfl; rfl; rfl) | (apply WL.nck; rfl; rfl; rfl) | (apply WL.ld; rfl; rfl; rfl; assumption; rfl) | (apply CW.exit) | (apply EX.thenX) | (apply EX.inX) | (apply CW.ret)))
  exact EX.ret1 rfl rfl ⟨rfl, _, _, _, hb, hf, hC⟩
end Go.Proofs.Ytadbkppgaekmpaa
/-
  Package runs: Of: walked.
-/
set_option linter.unusedVariables false
set_option linter.unusedSimpArgs false
namespace Go.Proofs.Ytadbkppgaekmpaa
open Go.RowKit

theorem results_cell3 {fn : Func} {a u s : Nat} {t : TypeId} (h : fn.results = #[.cell a t, .tmp u, .tmp s]) (tmps : Array Value) (P : Program) (w : World) {p : Addr} {v : Value} (ha : tmps.getD a undef = .pointer (some p)) (hl : (loadVar t p).run P w = .ok v w) :
    (results fn tmps).run P w = .ok (.tuple ⟨[v, tmps.getD u undef, tmps.getD s undef]⟩) w := by
  simp only [Array.getD_eq_getD_getElem?] at ha ⊢
  simp [results, h, ha, asAddr, hl]
theorem EX.retC3 {P : Program} {n : Nat} {σ : Sg} {w : World} {fn : Func} {a b u s : Nat} {t e : TypeId} {cells : List Value} {k : Nat} {x y : Value} {R : Value → World → Prop} (hr : fn.results = #[.cell a t, .tmp u, .tmp s]) (ha : fnd σ a = some (.pointer (some ⟨b, 0, none⟩))) (hu : fnd σ u = some x) (hs : fnd σ s = some y) [hc : IsC P t k true] (hb : Blk w b e cells) (hk : lenL cells = k) (h : R (.tuple ⟨[.agg cells.toArray, x, y]⟩) w) :
    EX (bodyPost P fn fun e w' => ∃ v, e = .returned v ∧ R v w') .ret n σ w := by
  unfold EX; intro ac hac
  refine bodyPost_ret (results_cell3 hr _ _ _ (hac.slot a _ ha) (v := .agg cells.toArray) ?_) hac.defers ⟨_, by rw [hac.slot u x hu, hac.slot s y hs], h⟩
  rw [lenL_eq] at hk
  have hld := run_loadCells_list (P := P) w ⟨b, 0, none⟩ cells (fun j u hu => by rw [WideShapes.add_plain, Nat.zero_add]; exact hb.cell hu)
  obtain ⟨i, dd, h1, h2, h3, h4⟩ := hc.ok
  have hagg : (isAgg t).run P w = .ok true w := by
    unfold isAgg
    rw [Sem.run_bind, run_underlying h3 w, ← h4]
    cases dd <;> rfl
  rw [hk] at hld
  simp [loadVar, hagg, sizeOf, typeInfo, h1, h2, hld]
structure WorldAt (w : World) (F : Nat → Prop) (v : Value) (A : LWorld4) : Prop where
  ok : ∃ a1 c1 a2 c2 a3 c3 a4 c4, v = worldV a1 c1 a2 c2 a3 c3 a4 c4 A.1.length A.2.1.length A.2.2.1.length A.2.2.2.length ∧ Sl w F a1 c1 A.1 ∧ Sl w F a2 c2 A.2.1 ∧ Sl w F a3 c3 A.2.2.1 ∧ Sl w F a4 c4 A.2.2.2
theorem rangeI_next {α : Type} {f : Nat → α} {n : Nat} : (List.range (n + 1)).map f = (List.range n).map f ++ [f n] := by rw [List.range_succ, List.map_append]; rfl
theorem nilW_at (w : World) (F : Nat → Prop) : WorldAt w F (.agg #[.slice none 0 0, .slice none 0 0, .slice none 0 0, .slice none 0 0]) nilW :=
  ⟨none, 0, none, 0, none, 0, none, 0, rfl, Sl.zero w _, Sl.zero w _, Sl.zero w _, Sl.zero w _⟩
set_option maxHeartbeats 4000000 in
theorem runsOf_ok (w0 : World) {so fo : Option Addr} {sc fc : Nat} {ns : List LNode} {fl : List LFlow} (hs : Sl w0 (Old w0) so sc ns) (hf : Sl w0 (Old w0) fo fc fl) (tok st : Int) :
    Rt Try.prog 41 [procV so sc fo fc ns.length fl.length, .int .i64 tok, .int .i64 st].toArray w0 fun v w' => (∃ x oo oc, v = .tuple ⟨[x, .slice oo (runsE (ns, fl) tok st).1.2.length oc, .int .i64 (runsE (ns, fl) tok st).2]⟩ ∧ WorldAt w' (Old w') x (runsE (ns, fl) tok st).1.1 ∧ Sl w' (Old w') oo oc (runsE (ns, fl) tok st).1.2) ∧ Ext w0 w' := by
  refine Rt.enter3 Try.func41 Try.ntmps41 rfl rfl ?_
  have hE := Ext.refl w0
  (repeat (first | (apply CW.seq) | (apply CW.region)))
  refine WL.boxB rfl rfl rfl fun w1 hb3 e1 => ?_
  have hE := hE.trans e1
  skip
  refine WL.alloc rfl rfl (fun w2 hb6 e2 => ?_)
  have hb3 := hb3.ext e2
  have hE := hE.trans e2
  have l1 := hb3.lt
  have l2 := hb6.lt
  have z1 := e1.size
  unfold runsE
  (repeat (first | (apply WL.pure; rfl; rfl; rfl) | (apply WL.nil) | (apply EX.thenN) | (apply CW.seq) | (apply CW.region) | (apply WL.ldA; rfl; rfl; rfl; assumption; rfl)))
  refine WL.call rfl rfl rfl (Explore_ok w2 (hs.up hE) (hf.up hE) tok st) ?_
  rintro _ w3 ⟨mv, nv, rfl, hmv, hnv, e3⟩
  have hb3 := hb3.ext e3
  have hb6 := hb6.ext e3
  have hE := hE.trans e3
  have hnx := explore_nx (p := (ns, fl)) (tok := tok) (st := st)
  have hexl := explore_law (p := (ns, fl)) (tok := tok) (st := st)
  generalize exploreE (ns, fl) tok st = r1 at *
  obtain ⟨⟨ml, nx⟩, x1⟩ := r1
  dsimp only at hmv hnv hnx hexl ⊢
  obtain ⟨mo, mc, rfl, hms⟩ := hmv.sl
  obtain ⟨no, nc, rfl, hns⟩ := hnv.sl
  clear hmv hnv
  (repeat (apply WL.pure; rfl; rfl; rfl))
  refine WL.alloc rfl rfl (fun w4 hb9 e4 => ?_)
  skip
  refine WL.st rfl rfl rfl hb9 rfl rfl (ones_of rfl) (fun w5 hb9 hg5 => ?_)
  have e5 : Ext w3 w5 := Below.grown e4 hg5 e4.size (fun g hg => by cases hg; exact Nat.le_refl _)
  have hb3 := hb3.ext e5
  have hb6 := hb6.ext e5
  have hE := hE.trans e5
  have hns := hns.up e5
  have z3 := e3.size
  have z5 := e5.size
  clear e1 e2 e3 e4 e5 hg5 hms
  by_cases hx : x1 = 0
  case neg =>
    have hb : (x1 != 0) = true := by simpa using hx
    rw [if_pos hx]
    (repeat (first | (apply WL.pure; rfl; rfl; rfl) | (apply WL.nil) | (apply EX.thenN) | (apply CW.seq) | (apply CW.region)))
    rw [hb]
    (repeat (first | (apply CW.seq) | (apply CW.region) | (apply CW.condT; rfl)))
    refine WL.build (parts := []) rfl rfl rfl rfl ?_
    (repeat (apply WL.pure; rfl; rfl; rfl))
    refine WL.st rfl rfl rfl hb6 rfl rfl (ones_of rfl) (fun w6 hb6 hg6 => ?_)
    have hE6 : Ext w0 w6 := hE.grown hg6 hE.size (fun g hg => by cases hg; omega)
    (repeat (first | (apply WL.pure; rfl; rfl; rfl) | (apply WL.nil) | (apply EX.thenN) | (apply CW.ret) | (apply EX.thenR)))
    exact EX.retC3 rfl rfl rfl rfl hb6 rfl ⟨⟨_, none, 0, rfl, nilW_at _ _, Sl.zero _ _⟩, hE6⟩
  subst hx
  have hN := hnx rfl
  have hst0 := (hexl rfl).1
  rw [if_neg (by simp)]
  clear hnx hexl
  (repeat (first | (apply WL.pure; rfl; rfl; rfl) | (apply WL.nil) | (apply EX.thenN) | (apply CW.seq) | (apply CW.region) | (apply WL.ldA; rfl; rfl; rfl; assumption; rfl) | (apply CW.condF; rfl) | (apply CW.skip)))
  refine WL.build rfl rfl rfl rfl ?_
  skip
  refine WL.boxB rfl rfl rfl fun w6 hsb e6 => ?_
  have hb3 := hb3.ext e6
  have hb6 := hb6.ext e6
  have hE := hE.trans e6
  have hns6 : Sl w6 (Old w5) no nc nx := hns.at e6
  have z6 := e6.size
  have l6 := hsb.lt
  (repeat (first | (apply WL.pure; rfl; rfl; rfl) | (apply WL.nil) | (apply EX.thenN) | (apply CW.seq) | (apply CW.region) | (apply WL.ldA; rfl; rfl; rfl; assumption; rfl)))
  refine WL.call rfl rfl rfl (Of_ok w6 (hs.up hE) (hf.up hE)) ?_
  rintro _ w7 ⟨lv, rfl, hlo, e7⟩
  have hb6 := hb6.ext e7
  have hsb := hsb.ext e7
  have hE := hE.trans e7
  have z7 := e7.size
  have hll := fun g hg => hlo.lt g hg
  generalize (stepsE (ns, fl)).1 = sl at *
  obtain ⟨lo, lc, rfl⟩ := hlo.val
  obtain ⟨lo', lc', el, hls⟩ := hlo.sl
  obtain ⟨rfl, _, rfl⟩ := Value.slice.inj el
  (repeat (first | (apply WL.pure; rfl; rfl; rfl) | (apply WL.fa; rfl; rfl; rfl) | (apply WL.nck; rfl; rfl; rfl)))
  refine WL.st rfl rfl rfl hsb rfl rfl (ones_of rfl) (fun w8 hsb hg8 => ?_)
  have z8 := hg8.size
  have l8 := hsb.lt
  have hb68 := hb6.kept hg8 (fun e => by have := Option.some.inj e; omega)
  have hE8 : Ext w0 w8 := hE.grown hg8 hE.size (fun g hg => by cases hg; omega)
  have hk8 : ∀ b, b < w7.heap.size → b ≠ w5.heap.size → w8.heap[b]? = w7.heap[b]? := fun b hb hne => hg8.block b hb (fun e => hne (Option.some.inj e))
  have hls8 : Sl w8 (fun b => b < w8.heap.size ∧ b ≠ w5.heap.size) lo lc sl := hls.mono (fun b hb => hb.elim (fun h => h.elim) (fun h => hk8 b (hll b h).2.1 (by have := (hll b h).1; omega))) (fun b hb => hb.elim (fun h => h.elim) (fun h => ⟨by have := (hll b h).2.1; omega, by have := (hll b h).1; omega⟩))
  have hns8 : Sl w8 (Old w5) no nc nx := hns6.mono (fun b hb => by
    have hb : b < w5.heap.size := hb
    exact (hk8 b (by omega) (by omega)).trans (e7.block b (by omega))) (fun _ h => h)
  clear hk8 e7 hls hns hns6 hlo hll hb6 hE
  (repeat (first | (apply WL.pure; rfl; rfl; rfl) | (apply WL.nil) | (apply EX.thenN) | (apply CW.seq) | (apply CW.region)))
  refine WL.call rfl rfl rfl (states_ok w8 hsb hns8 (fun b hb => by
    have hb : b < w5.heap.size := hb
    exact ⟨by omega, by omega⟩) hN.row hN.n) ?_
  rintro _ w9 ⟨rfl, ov, av, yv, hsb9, hf9, hC9⟩
  have z9 := hC9.size
  have l9 := hsb9.lt
  have hb69 : Blk w9 _ _ _ := (hC9.block _ (by omega) (fun h => by omega)).trans hb68
  have hE9 : Ext w0 w9 := Chg.ext hE8 hC9 (fun b hb => by subst hb; omega)
  have q1 : Sl w9 (Fz w9 (fun b => b = w5.heap.size)) lo lc sl := Sl.fz (M := fun b => b = w5.heap.size) hls8 hC9 (fun b h => .inl h)
  have q2 : Sl w9 (Fz w9 (fun b => b = w5.heap.size)) no nc nx := Sl.fz (M := fun b => b = w5.heap.size) (hns8.mono (fun _ _ => rfl) (fun b hb => by
    have hb : b < w5.heap.size := hb
    exact ⟨by omega, by omega⟩)) hC9 (fun b h => .inl h)
  obtain ⟨oo, oc, rfl, q3⟩ := hf9.o.slF (F' := fun b => w8.heap.size ≤ b ∧ b < w9.heap.size) (fun _ h => h.elim) (fun g hg => ⟨(hf9.o.lt g hg).1, (hf9.o.lt g hg).2.1⟩)
  obtain ⟨ao, ac, rfl, q4⟩ := hf9.a.slF (F' := fun b => w8.heap.size ≤ b ∧ b < w9.heap.size) (fun _ h => h.elim) (fun g hg => ⟨(hf9.a.lt g hg).1, (hf9.a.lt g hg).2.1⟩)
  obtain ⟨yo, yc, rfl, q5⟩ := hf9.y.slF (F' := fun b => w8.heap.size ≤ b ∧ b < w9.heap.size) (fun _ h => h.elim) (fun g hg => ⟨(hf9.y.lt g hg).1, (hf9.y.lt g hg).2.1⟩)
  rw [atL_len, manyL_len, show (ofP nx nx.length).length = atV nx nx.length from rfl] at hsb9
  have hmk : ∀ {w : World} {x1 x2 x3 x4 : Value}, Chg (fun b => b = w5.heap.size) w9 w → Blk w w5.heap.size 170 [.slice lo sl.length lc, .agg [.slice mo ml.length mc, .slice no nx.length nc].toArray, .slice no nx.length nc, .slice oo (atV nx nx.length) oc, .slice ao nx.length ac, .slice yo nx.length yc, x1, x2, x3, x4] → True := fun _ _ => trivial
  have hrun : ∀ {w : World} {mv x1 x2 x3 x4 : Value}, Chg (fun b => b = w5.heap.size) w9 w → Blk w w5.heap.size 170 [.slice lo sl.length lc, mv, .slice no nx.length nc, .slice oo (atV nx nx.length) oc, .slice ao nx.length ac, .slice yo nx.length yc, x1, x2, x3, x4] → RunAt w w5.heap.size sl nx := fun {w} {mv} {x1} {x2} {x3} {x4} hC hb => by
    have hk : ∀ b, w8.heap.size ≤ b ∧ b < w9.heap.size → w.heap[b]? = w9.heap[b]? := fun b hb => hC.block b hb.2 (fun h => by omega)
    have hl : ∀ b, w8.heap.size ≤ b ∧ b < w9.heap.size → Old w b := fun b hb => Nat.lt_of_lt_of_le hb.2 hC.size
    exact ⟨lo, lc, mv, no, nc, oo, oc, ao, ac, yo, yc, x1, x2, x3, x4, hb, (q1.fz hC (fun b h => .inl h)).old', (q2.fz hC (fun b h => .inl h)).old', q3.mono hk hl, q4.mono hk hl, q5.mono hk hl⟩
  clear hmk hf9 hC9 hsb hb68 hls8 hns8
  have hat := atV_le hN.row nx.length
  have hn200 := hN.n
  have hsl := hN.sl
  by_cases h600 : atV nx nx.length ≤ 600
  case neg =>
    rw [decide_eq_false h600, if_pos (by omega)]
    (repeat (first | (apply WL.pure; rfl; rfl; rfl) | (apply WL.nil) | (apply EX.thenN) | (apply CW.seq) | (apply CW.region) | (apply CW.condT; rfl)))
    refine WL.build (parts := []) rfl rfl rfl rfl ?_
    skip
    refine WL.st rfl rfl rfl hb69 rfl rfl (ones_of rfl) (fun w10 hb6 hg6 => ?_)
    have hE6 : Ext w0 w10 := hE9.grown hg6 hE9.size (fun g hg => by cases hg; omega)
    (repeat (first | (apply WL.pure; rfl; rfl; rfl) | (apply WL.nil) | (apply EX.thenN) | (apply CW.ret) | (apply EX.thenR)))
    exact EX.retC3 rfl rfl rfl rfl hb6 rfl ⟨⟨_, none, 0, rfl, nilW_at _ _, Sl.zero _ _⟩, hE6⟩
  rw [decide_eq_true h600, if_neg (by omega)]
  generalize hNN : atV nx nx.length = NN at *
  (repeat (first | (apply WL.pure; rfl; rfl; rfl) | (apply WL.nil) | (apply EX.thenN) | (apply CW.seq) | (apply CW.region) | (apply WL.lenS; rfl; rfl; rfl) | (apply WL.fa; rfl; rfl; rfl) | (apply WL.nck; rfl; rfl; rfl) | (apply WL.ld; rfl; rfl; rfl; assumption; rfl) | (apply CW.block) | (apply CW.condF; rfl) | (apply CW.skip)))
  refine CW.loop (S := Nat × Value × Value × List Raw) (fun s => [(6, .pointer (some ⟨w1.heap.size, 0, none⟩)), (11, .pointer (some ⟨w5.heap.size, 0, none⟩)), (44, .int .i64 (NN : Nat)), (45, .int .i64 s.1)])
    (fun s w => s.1 ≤ NN ∧ Blk w w5.heap.size 170 [.slice lo sl.length lc, .slice mo ml.length mc, .slice no nx.length nc, .slice oo NN oc, .slice ao nx.length ac, .slice yo nx.length yc, .slice none 0 0, s.2.1, s.2.2.1, .slice none 0 0] ∧ Own w w9.heap.size 22 Non s.2.1 s.2.2.2 ∧
      InnR w (fun b => b = w5.heap.size ∨ s.2.1.ownBlock = some b ∨ s.2.2.1.ownBlock = some b ∨ b < w9.heap.size) s.2.2.2 ((List.range s.1).map (nextJ nx)) ∧ Own w w9.heap.size 33 Non s.2.2.1 ((List.range s.1).map (labelJ sl nx)) ∧ (∀ g, s.2.1.ownBlock = some g → s.2.2.1.ownBlock ≠ some g) ∧ Chg (fun b => b = w5.heap.size) w9 w)
    (fun s => NN - s.1) (0, .slice none 0 0, .slice none 0 0, []) (by repeat (first | exact trivial | refine ⟨rfl, ?_⟩)) ⟨Nat.zero_le _, hsb9, Own.nil, InnR.nil, Own.nil, (fun g hg => by cases hg), Chg.refl _ _⟩ ?_
  rintro ⟨j, nv, lbv, vs⟩ w10 ⟨hj0, hsb10, hon, inn, hol, hdis, hC10⟩
  dsimp only at hj0 hsb10 hon inn hol hdis hC10 ⊢
  have z10 := hC10.size
  have hln := fun g hg => hon.lt g hg
  have hllb := fun g hg => hol.lt g hg
  have hvl : vs.length = j := by rw [inn.len]; simp
  obtain ⟨nvo, nvc, rfl⟩ := hon.val
  obtain ⟨lbo, lbc, rfl⟩ := hol.val
  (repeat (first | (apply WL.pure; rfl; rfl; rfl) | (apply WL.nil) | (apply EX.thenN) | (apply CW.seq) | (apply CW.region)))
  refine CW.cond rfl (fun h => ?_) (fun h => ?_)
  · have hj : j < NN := by simp only [decide_eq_true_eq] at h; omega
    clear h
    -- R11
    have hD : Ext w10 (drew w10) := Ext.drew w10
    have hsbd := hsb10.ext hD
    have hKs : ∀ u, (fun z : World => ∀ b, b < w10.heap.size → (Value.slice nvo vs.length nvc).ownBlock ≠ some b → z.heap[b]? = (drew w10).heap[b]?) u → u.heap[w5.heap.size]? = (drew w10).heap[w5.heap.size]? := fun u h => h _ (by omega) (fun e => by have := hln _ e; omega)
    (repeat (first | (apply WL.pure; rfl; rfl; rfl) | (apply WL.nil) | (apply EX.thenN) | (apply CW.seq) | (apply CW.region) | (apply CW.block) | (apply CW.skip)))
    refine CW.drawE (fun z : World => ∀ b, b < w10.heap.size → (Value.slice nvo vs.length nvc).ownBlock ≠ some b → z.heap[b]? = (drew w10).heap[b]?) [(0, true), (1, true), (2, true), (3, true), (4, true), (5, true), (6, true), (7, true), (8, false), (9, false), (10, false), (11, false), (12, false), (13, false)] 14 mixed (by kernel_rfl) (fun _ _ _ => rfl) ?_
    (repeat (first | (apply HL.pure; rfl; rfl; rfl; rfl) | (refine HL.fa rfl rfl rfl rfl ?_) | (apply HL.nck; rfl; rfl; rfl; rfl) | (refine HL.ldK (by assumption) rfl rfl rfl rfl (by assumption) rfl ?_)))
    refine HL.mut rfl (WL.call rfl rfl rfl (rnext_ok (drew w10) ((hrun hC10 hsb10).up hD) hN (by rw [hNN]; exact hj)) ?_)
    rintro rv w11 ⟨hro, e11⟩
    have e1011 := hD.trans e11
    have z11 := e1011.size
    have hlr := fun g hg => hro.lt g hg
    obtain ⟨ro, rc, rfl⟩ := hro.val
    refine WL.nil (EX.mut (fun b hb _ => e11.block b hb) ?_)
    refine HL.app1 (α := Raw) (F := Non) (bytes := 24) (yv := (⟨.slice ro (nextJ nx j).length rc⟩ : Raw)) rfl rfl rfl rfl (fun _ => rfl) rfl rfl (fun _ => rfl) (hon.extN e1011) (Rd.mkRaw _ _ _ rfl) (by omega) (fun _ h => h.elim) (by decide) (by unfold maxLen; omega) (by omega)
      (fun z hz b hb hne => (hz.block b (by omega) (fun e => hne e.symm)).trans (e11.block b hb)) (fun nv' w12 q12 ho12 hg12 hnb12 => ?_)
    have hsb12 := (hsbd.ext e11).kept hg12 (fun e => by have := hln _ e.symm; omega)
    have z12 := hg12.size
    have hS12 : (fun z : World => ∀ b, b < w10.heap.size → (Value.slice nvo vs.length nvc).ownBlock ≠ some b → z.heap[b]? = (drew w10).heap[b]?) w12 := fun b hb hne => (hg12.block b (by omega) (fun e => hne e.symm)).trans (e11.block b hb)
    obtain ⟨nvo', nvc', rfl⟩ := ho12.val
    refine HL.mut rfl (WL.nck rfl rfl rfl (WL.nil (EX.mut hS12 ?_)))
    refine HL.mut rfl (WL.fa rfl rfl rfl (WL.nil (EX.mut hS12 ?_)))
    refine HL.mut rfl (WL.fa rfl rfl rfl (WL.nil (EX.mut hS12 (HL.nil ?_))))
    refine EX.tail rfl (WL.st rfl rfl rfl hsb12 rfl rfl (ones_of rfl) (fun w13 hsb13 hg13 => WL.nil (EX.tailE ?_)))
    have z13 := hg13.size
    have hnn : ∀ g, (Value.slice nvo' (vs ++ [(⟨.slice ro (nextJ nx j).length rc⟩ : Raw)]).length nvc').ownBlock = some g → g ≠ w5.heap.size ∧ w9.heap.size ≤ g := fun g hg => ⟨fun e => by have := (ho12.lt g hg).1; omega, (ho12.lt g hg).1⟩
    have hon13 := ho12.keptN hg13 (fun g hg e => (hnn g hg).1 (Option.some.inj e))
    have hol13 := ((hol.extN e1011).keptN hg12 (fun g hg e => hdis g e.symm hg)).keptN hg13 (fun g hg e => by have := Option.some.inj e; have := hllb g hg; omega)
    have hdis13 : ∀ g, (Value.slice nvo' (vs ++ [(⟨.slice ro (nextJ nx j).length rc⟩ : Raw)]).length nvc').ownBlock = some g → (Value.slice lbo ((List.range j).map (labelJ sl nx)).length lbc).ownBlock ≠ some g := fun g hg e => by
      rcases hnb12 g hg with h | h
      · exact hdis g h e
      · have := (hllb g e).2.1; omega
    have hC13 : Chg (fun b => b = w5.heap.size) w9 w13 := ((hC10.trans (Chg.of_ext _ e1011)).then (Chg.of_grown hg12) (fun b h => .inr (hln b h).1)).grown hg13 (fun g hg => by cases hg; rfl)
    have hrowr : Rd w11 (Fz w11 (fun b => b = w5.heap.size ∨ (Value.slice nvo vs.length nvc).ownBlock = some b ∨ (Value.slice lbo ((List.range j).map (labelJ sl nx)).length lbc).ownBlock = some b ∨ b < w9.heap.size)) (.slice ro (nextJ nx j).length rc) (nextJ nx j) :=
      hro.rd.mono (fun _ _ => rfl) (fun g hg => hg.elim (fun h => h.elim) (fun hg => ⟨(hlr g hg).2.1, fun h => by
        have h1 : w10.heap.size ≤ g := (hlr g hg).1
        rcases h with h | h | h | h
        · omega
        · have := (hln g h).2.1; omega
        · have := (hllb g h).2.1; omega
        · omega⟩))
    have inn11 := (inn.to (Chg.of_ext _ e1011) (fun b h => .inl h)).push hrowr
    have hC1113 : Chg (fun b => b = w5.heap.size ∨ (Value.slice nvo vs.length nvc).ownBlock = some b ∨ (Value.slice lbo ((List.range j).map (labelJ sl nx)).length lbc).ownBlock = some b ∨ b < w9.heap.size) w11 w13 := ((Chg.of_grown hg12).wk (fun b h => .inr (.inl h))).grown hg13 (fun g hg => by cases hg; exact .inl rfl)
    have inn13 := inn11.to hC1113 (M' := fun b => b = w5.heap.size ∨ (Value.slice nvo' (vs ++ [(⟨.slice ro (nextJ nx j).length rc⟩ : Raw)]).length nvc').ownBlock = some b ∨ (Value.slice lbo ((List.range j).map (labelJ sl nx)).length lbc).ownBlock = some b ∨ b < w9.heap.size) (fun b h => by
      rcases h with h | h | h | h
      · exact .inl (.inl h)
      · exact (hnb12 b h).imp (fun h => .inr (.inl h)) id
      · exact .inl (.inr (.inr (.inl h)))
      · exact .inl (.inr (.inr (.inr h))))
    rw [← rangeI_next] at inn13
    have hln13 := fun g hg => hon13.lt g hg
    clear hKs hS12 hD hsbd e11 e1011 hlr hro hsb12 hg12 hg13 hnb12 ho12 hrowr inn11 hC1113 inn hon hol hdis hnn hC10 hsb10 hln
    apply EX.thenN
    -- R12
    have hD : Ext w13 (drew w13) := Ext.drew w13
    have hsbd := hsb13.ext hD
    have hKs : ∀ u, (fun z : World => ∀ b, b < w13.heap.size → (Value.slice lbo ((List.range j).map (labelJ sl nx)).length lbc).ownBlock ≠ some b → z.heap[b]? = (drew w13).heap[b]?) u → u.heap[w5.heap.size]? = (drew w13).heap[w5.heap.size]? := fun u h => h _ (by omega) (fun e => by have := hllb _ e; omega)
    have hlbl : ((List.range j).map (labelJ sl nx)).length = j := by simp
    skip
    refine CW.drawE (fun z : World => ∀ b, b < w13.heap.size → (Value.slice lbo ((List.range j).map (labelJ sl nx)).length lbc).ownBlock ≠ some b → z.heap[b]? = (drew w13).heap[b]?) [(0, true), (1, true), (2, true), (3, true), (4, true), (5, true), (6, true), (7, true), (8, false), (9, false), (10, false), (11, false), (12, false), (13, false)] 14 mixed (by kernel_rfl) (fun _ _ _ => rfl) ?_
    (repeat (first | (apply HL.pure; rfl; rfl; rfl; rfl) | (refine HL.fa rfl rfl rfl rfl ?_) | (apply HL.nck; rfl; rfl; rfl; rfl) | (refine HL.ldK (by assumption) rfl rfl rfl rfl (by assumption) rfl ?_)))
    refine HL.mut rfl (WL.call rfl rfl rfl (label_ok (drew w13) ((hrun hC13 hsb13).up hD) hN (by rw [hNN]; exact hj)) ?_)
    rintro _ w14 ⟨rfl, hlt64, e14⟩
    have e1314 := hD.trans e14
    have z14 := e1314.size
    refine WL.nil (EX.mut (fun b hb _ => e14.block b hb) ?_)
    refine HL.app1 (α := Nat) (F := Non) (bytes := 8) (yv := labelJ sl nx j) rfl rfl rfl rfl (fun _ => rfl) rfl rfl (fun _ => rfl) (hol13.extN e1314) ⟨_, rfl, rd_mkU64 _ _ _ hlt64⟩ (by omega) (fun _ h => h.elim) (by decide) (by unfold maxLen; omega) (by omega)
      (fun z hz b hb hne => (hz.block b (by omega) (fun e => hne e.symm)).trans (e14.block b hb)) (fun lb' w15 q15 ho15 hg15 hnb15 => ?_)
    rw [← rangeI_next] at ho15
    have hsb15 := (hsbd.ext e14).kept hg15 (fun e => by have := hllb _ e.symm; omega)
    have z15 := hg15.size
    have hS15 : (fun z : World => ∀ b, b < w13.heap.size → (Value.slice lbo ((List.range j).map (labelJ sl nx)).length lbc).ownBlock ≠ some b → z.heap[b]? = (drew w13).heap[b]?) w15 := fun b hb hne => (hg15.block b (by omega) (fun e => hne e.symm)).trans (e14.block b hb)
    obtain ⟨lbo', lbc', rfl⟩ := ho15.val
    refine HL.mut rfl (WL.nck rfl rfl rfl (WL.nil (EX.mut hS15 ?_)))
    refine HL.mut rfl (WL.fa rfl rfl rfl (WL.nil (EX.mut hS15 ?_)))
    refine HL.mut rfl (WL.fa rfl rfl rfl (WL.nil (EX.mut hS15 (HL.nil ?_))))
    refine EX.tail rfl (WL.st rfl rfl rfl hsb15 rfl rfl (ones_of rfl) (fun w16 hsb16 hg16 => WL.nil (EX.tailE ?_)))
    have hol16 := ho15.keptN hg16 (fun g hg e => by have := Option.some.inj e; have := (ho15.lt g hg).1; omega)
    have hon16 := ((hon13.extN e1314).keptN hg15 (fun g hg e => hdis13 g hg e.symm)).keptN hg16 (fun g hg e => by have := Option.some.inj e; have := hln13 g hg; omega)
    have hC16 : Chg (fun b => b = w5.heap.size) w9 w16 := ((hC13.trans (Chg.of_ext _ e1314)).then (Chg.of_grown hg15) (fun b h => .inr (hllb b h).1)).grown hg16 (fun g hg => by cases hg; rfl)
    have hC1416 : Chg (fun b => b = w5.heap.size ∨ (Value.slice nvo' (vs ++ [(⟨.slice ro (nextJ nx j).length rc⟩ : Raw)]).length nvc').ownBlock = some b ∨ (Value.slice lbo ((List.range j).map (labelJ sl nx)).length lbc).ownBlock = some b ∨ b < w9.heap.size) w14 w16 := ((Chg.of_grown hg15).wk (fun b h => .inr (.inr (.inl h)))).grown hg16 (fun g hg => by cases hg; exact .inl rfl)
    have inn16 := (inn13.to (Chg.of_ext _ e1314) (fun b h => .inl h)).to hC1416 (M' := fun b => b = w5.heap.size ∨ (Value.slice nvo' (vs ++ [(⟨.slice ro (nextJ nx j).length rc⟩ : Raw)]).length nvc').ownBlock = some b ∨ (Value.slice lbo' ((List.range (j + 1)).map (labelJ sl nx)).length lbc').ownBlock = some b ∨ b < w9.heap.size) (fun b h => by
      rcases h with h | h | h | h
      · exact .inl (.inl h)
      · exact .inl (.inr (.inl h))
      · exact (hnb15 b h).imp (fun h => .inr (.inr (.inl h))) id
      · exact .inl (.inr (.inr (.inr h))))
    have hdis16 : ∀ g, (Value.slice nvo' (vs ++ [(⟨.slice ro (nextJ nx j).length rc⟩ : Raw)]).length nvc').ownBlock = some g → (Value.slice lbo' ((List.range (j + 1)).map (labelJ sl nx)).length lbc').ownBlock ≠ some g := fun g hg e => by
      rcases hnb15 g e with h | h
      · exact hdis13 g hg h
      · have := (hln13 g hg).2.1; omega
    (repeat (first | (apply WL.add; rfl; rfl; rfl; rfl; omega; omega) | (apply WL.pure; rfl; rfl; rfl) | (apply WL.nil) | (apply EX.thenN) | (apply CW.region) | (apply EX.inN)))
    exact EX.back (j + 1, _, _, _) (by repeat (first | exact trivial | refine ⟨rfl, ?_⟩)) ⟨hj, hsb16, hon16, inn16, hol16, hdis16, hC16⟩ (by dsimp only; omega)
  have hje : j = NN := by simp only [decide_eq_false_iff_not] at h; omega
  subst hje
  clear h
  have hC10' := hC10
  have hR10 := hrun hC10 hsb10
  have hb610 : Blk w10 _ _ _ := (hC10.block _ (by omega) (fun h => by omega)).trans hb69
  have hE10 : Ext w0 w10 := Chg.ext hE9 hC10 (fun b hb => by subst hb; omega)
  (repeat (first | (apply WL.pure; rfl; rfl; rfl) | (apply EX.thenN) | (apply CW.seq) | (apply CW.region) | (apply CW.exit) | (apply EX.thenX) | (apply EX.inX)))
  refine WL.call rfl rfl rfl (all_ok w10 (m := 0) hR10 hN hN.pos) ?_
  rintro sv w11 ⟨hos, e11⟩
  have hsb11 := hsb10.ext e11
  have z11 := e11.size
  have hlos := fun g hg => hos.lt g hg
  obtain ⟨sto, stc, rfl⟩ := hos.val
  (repeat (first | (apply WL.fa; rfl; rfl; rfl) | (apply WL.nck; rfl; rfl; rfl)))
  refine WL.st rfl rfl rfl hsb11 rfl rfl (ones_of rfl) (fun w12 hsb12 hg12 => ?_)
  have z12 := hg12.size
  have hC1012 : Chg (fun b => b = w5.heap.size) w10 w12 := (Chg.of_ext _ e11).grown hg12 (fun g hg => by cases hg; rfl)
  have hC12 := hC10.trans hC1012
  have hb612 : Blk w12 _ _ _ := (hC1012.block _ (by omega) (fun h => by omega)).trans hb610
  have hE12 : Ext w0 w12 := Chg.ext hE10 hC1012 (fun b hb => by subst hb; omega)
  have hon12 := (hon.extN e11).keptN hg12 (fun g hg e => by have := Option.some.inj e; have := hln g hg; omega)
  have hol12 := (hol.extN e11).keptN hg12 (fun g hg e => by have := Option.some.inj e; have := hllb g hg; omega)
  have hos12 := hos.keptN hg12 (fun g hg e => by have := Option.some.inj e; have := hlos g hg; omega)
  have inn12 := inn.to (hC1012.wk (M' := fun b => b = w5.heap.size ∨ (Value.slice nvo vs.length nvc).ownBlock = some b ∨ (Value.slice lbo ((List.range j).map (labelJ sl nx)).length lbc).ownBlock = some b ∨ b < w9.heap.size) (fun b h => .inl h)) (fun b h => .inl h)
  obtain ⟨nvo2, nvc2, en, s2⟩ := inn12.sl (F := Fz w12 (fun b => b = w5.heap.size ∨ b < w9.heap.size)) hon12 (fun b hb => ⟨hb.1, fun h => hb.2 (h.elim .inl fun h => .inr (.inr (.inr h)))⟩) (fun g hg => ⟨(hon12.lt g hg).2.1, fun h => by have := (hln g hg).1; rcases h with h | h <;> omega⟩)
  obtain ⟨rfl, hnlen, rfl⟩ := Value.slice.inj en
  obtain ⟨lbo2, lbc2, en2, s3⟩ := hol12.slF (F' := Fz w12 (fun b => b = w5.heap.size ∨ b < w9.heap.size)) (fun _ h => h.elim) (fun g hg => ⟨(hol12.lt g hg).2.1, fun h => by have := (hllb g hg).1; rcases h with h | h <;> omega⟩)
  obtain ⟨rfl, _, rfl⟩ := Value.slice.inj en2
  obtain ⟨sto2, stc2, en3, s1⟩ := hos12.slF (F' := Fz w12 (fun b => b = w5.heap.size ∨ b < w9.heap.size)) (fun _ h => h.elim) (fun g hg => ⟨(hos12.lt g hg).2.1, fun h => by have := (hlos g hg).1; rcases h with h | h <;> omega⟩)
  obtain ⟨rfl, _, rfl⟩ := Value.slice.inj en3
  rw [hnlen] at hsb12
  clear hon hol hos inn hdis hC10' hon12 hol12 hos12 inn12 hln hllb hlos en en2 en3 hR10 hsb10 hsb11 e11 hg12 hE10 hb610 hC10
  (repeat (first | (apply WL.pure; rfl; rfl; rfl) | (apply WL.nil) | (apply EX.thenN) | (apply CW.seq) | (apply CW.region) | (apply WL.lenS; rfl; rfl; rfl) | (apply WL.fa; rfl; rfl; rfl) | (apply WL.nck; rfl; rfl; rfl) | (apply WL.ld; rfl; rfl; rfl; assumption; rfl) | (apply CW.block)))
  refine CW.loop (S := Nat × Value × List Raw) (fun s => [(6, .pointer (some ⟨w1.heap.size, 0, none⟩)), (11, .pointer (some ⟨w5.heap.size, 0, none⟩)), (87, .int .i64 sl.length), (88, .int .i64 s.1)])
    (fun s w => s.1 ≤ sl.length ∧ Blk w w5.heap.size 170 [.slice lo sl.length lc, .slice mo ml.length mc, .slice no nx.length nc, .slice oo j oc, .slice ao nx.length ac, .slice yo nx.length yc, .slice sto (allL nx 0).length stc, .slice nvo ((List.range j).map (nextJ nx)).length nvc, .slice lbo ((List.range j).map (labelJ sl nx)).length lbc, s.2.1] ∧ Own w w12.heap.size 22 Non s.2.1 s.2.2 ∧
      InnR w (fun b => b = w5.heap.size ∨ s.2.1.ownBlock = some b ∨ b < w9.heap.size) s.2.2 ((List.range s.1).map fun k : Nat => fairK nx (k : Int)) ∧ Chg (fun b => b = w5.heap.size) w12 w)
    (fun s => sl.length - s.1) (0, .slice none 0 0, []) (by repeat (first | exact trivial | refine ⟨rfl, ?_⟩)) ⟨Nat.zero_le _, hsb12, Own.nil, InnR.nil, Chg.refl _ _⟩ ?_
  rintro ⟨k, fv, ws⟩ w13 ⟨hk0, hsb13, hof, inf, hC13⟩
  dsimp only at hk0 hsb13 hof inf hC13 ⊢
  have z13 := hC13.size
  have hlf := fun g hg => hof.lt g hg
  have hwl : ws.length = k := by rw [inf.len]; simp
  obtain ⟨fvo, fvc, rfl⟩ := hof.val
  (repeat (first | (apply WL.pure; rfl; rfl; rfl) | (apply WL.nil) | (apply EX.thenN) | (apply CW.seq) | (apply CW.region)))
  refine CW.cond rfl (fun h => ?_) (fun h => ?_)
  · have hk : k < sl.length := by simp only [decide_eq_true_eq] at h; omega
    clear h
    have hD : Ext w13 (drew w13) := Ext.drew w13
    have hsbd := hsb13.ext hD
    have hKs : ∀ u, (fun z : World => ∀ b, b < w13.heap.size → (Value.slice fvo ws.length fvc).ownBlock ≠ some b → z.heap[b]? = (drew w13).heap[b]?) u → u.heap[w5.heap.size]? = (drew w13).heap[w5.heap.size]? := fun u h => h _ (by omega) (fun e => by have := hlf _ e; omega)
    (repeat (first | (apply WL.pure; rfl; rfl; rfl) | (apply WL.nil) | (apply EX.thenN) | (apply CW.seq) | (apply CW.region) | (apply CW.block) | (apply CW.skip)))
    refine CW.drawE (fun z : World => ∀ b, b < w13.heap.size → (Value.slice fvo ws.length fvc).ownBlock ≠ some b → z.heap[b]? = (drew w13).heap[b]?) [(0, true), (1, true), (2, true), (3, true), (4, true), (5, true), (6, true), (7, true), (8, false), (9, false), (10, false), (11, false), (12, false), (13, false)] 14 mixed (by kernel_rfl) (fun _ _ _ => rfl) ?_
    (repeat (first | (apply HL.pure; rfl; rfl; rfl; rfl) | (refine HL.fa rfl rfl rfl rfl ?_) | (apply HL.nck; rfl; rfl; rfl; rfl) | (refine HL.ldK (by assumption) rfl rfl rfl rfl (by assumption) rfl ?_)))
    refine HL.mut rfl (WL.call rfl rfl rfl (fair_ok (drew w13) (k := k) ((hrun (hC12.trans hC13) hsb13).up hD) hN) ?_)
    rintro rv w14 ⟨hro, e14⟩
    have e1314 := hD.trans e14
    have z14 := e1314.size
    have hlr := fun g hg => hro.lt g hg
    obtain ⟨ro, rc, rfl⟩ := hro.val
    refine WL.nil (EX.mut (fun b hb _ => e14.block b hb) ?_)
    refine HL.app1 (α := Raw) (F := Non) (bytes := 24) (yv := (⟨.slice ro (fairK nx (k : Int)).length rc⟩ : Raw)) rfl rfl rfl rfl (fun _ => rfl) rfl rfl (fun _ => rfl) (hof.extN e1314) (Rd.mkRaw _ _ _ rfl) (by omega) (fun _ h => h.elim) (by decide) (by unfold maxLen; omega) (by omega)
      (fun z hz b hb hne => (hz.block b (by omega) (fun e => hne e.symm)).trans (e14.block b hb)) (fun fv' w15 q15 ho15 hg15 hnb15 => ?_)
    have hsb15 := (hsbd.ext e14).kept hg15 (fun e => by have := hlf _ e.symm; omega)
    have z15 := hg15.size
    have hS15 : (fun z : World => ∀ b, b < w13.heap.size → (Value.slice fvo ws.length fvc).ownBlock ≠ some b → z.heap[b]? = (drew w13).heap[b]?) w15 := fun b hb hne => (hg15.block b (by omega) (fun e => hne e.symm)).trans (e14.block b hb)
    obtain ⟨fvo', fvc', rfl⟩ := ho15.val
    refine HL.mut rfl (WL.nck rfl rfl rfl (WL.nil (EX.mut hS15 ?_)))
    refine HL.mut rfl (WL.fa rfl rfl rfl (WL.nil (EX.mut hS15 ?_)))
    refine HL.mut rfl (WL.fa rfl rfl rfl (WL.nil (EX.mut hS15 (HL.nil ?_))))
    refine EX.tail rfl (WL.st rfl rfl rfl hsb15 rfl rfl (ones_of rfl) (fun w16 hsb16 hg16 => WL.nil (EX.tailE ?_)))
    have hof16 := ho15.keptN hg16 (fun g hg e => by have := Option.some.inj e; have := (ho15.lt g hg).1; omega)
    have hC16 : Chg (fun b => b = w5.heap.size) w12 w16 := ((hC13.trans (Chg.of_ext _ e1314)).then (Chg.of_grown hg15) (fun b h => .inr (hlf b h).1)).grown hg16 (fun g hg => by cases hg; rfl)
    have hrowr : Rd w14 (Fz w14 (fun b => b = w5.heap.size ∨ (Value.slice fvo ws.length fvc).ownBlock = some b ∨ b < w9.heap.size)) (.slice ro (fairK nx (k : Int)).length rc) (fairK nx (k : Int)) :=
      hro.rd.mono (fun _ _ => rfl) (fun g hg => hg.elim (fun h => h.elim) (fun hg => ⟨(hlr g hg).2.1, fun h => by
        have h1 : w13.heap.size ≤ g := (hlr g hg).1
        rcases h with h | h | h
        · omega
        · have := (hlf g h).2.1; omega
        · omega⟩))
    have inf14 := (inf.to (Chg.of_ext _ e1314) (fun b h => .inl h)).push hrowr
    have hC1416 : Chg (fun b => b = w5.heap.size ∨ (Value.slice fvo ws.length fvc).ownBlock = some b ∨ b < w9.heap.size) w14 w16 := ((Chg.of_grown hg15).wk (fun b h => .inr (.inl h))).grown hg16 (fun g hg => by cases hg; exact .inl rfl)
    have inf16 := inf14.to hC1416 (M' := fun b => b = w5.heap.size ∨ (Value.slice fvo' (ws ++ [(⟨.slice ro (fairK nx (k : Int)).length rc⟩ : Raw)]).length fvc').ownBlock = some b ∨ b < w9.heap.size) (fun b h => by
      rcases h with h | h | h
      · exact .inl (.inl h)
      · exact (hnb15 b h).imp (fun h => .inr (.inl h)) id
      · exact .inl (.inr (.inr h)))
    rw [← rangeI_next (f := fun k : Nat => fairK nx (k : Int))] at inf16
    (repeat (first | (apply WL.add; rfl; rfl; rfl; rfl; omega; omega) | (apply WL.pure; rfl; rfl; rfl) | (apply WL.nil) | (apply EX.thenN) | (apply CW.region) | (apply EX.inN)))
    exact EX.back (k + 1, _, _) (by repeat (first | exact trivial | refine ⟨rfl, ?_⟩)) ⟨hk, hsb16, hof16, inf16, hC16⟩ (by dsimp only; omega)
  have hke : k = sl.length := by simp only [decide_eq_false_iff_not] at h; omega
  subst hke
  clear h
  obtain ⟨fvo2, fvc2, en4, s4⟩ := inf.sl (F := Fz w13 (fun b => b = w5.heap.size ∨ b < w9.heap.size)) hof (fun b hb => ⟨hb.1, fun h => hb.2 (h.elim .inl fun h => .inr (.inr h))⟩) (fun g hg => ⟨(hof.lt g hg).2.1, fun h => by have := (hlf g hg).1; rcases h with h | h <;> omega⟩)
  obtain ⟨rfl, hflen, rfl⟩ := Value.slice.inj en4
  rw [hflen] at hsb13
  have hb613 : Blk w13 _ _ _ := (hC13.block _ (by omega) (fun h => by omega)).trans hb612
  have hE13 : Ext w0 w13 := Chg.ext hE12 hC13 (fun b hb => by subst hb; omega)
  have hD : Ext w13 (drew w13) := Ext.drew w13
  have hsbd := hsb13.ext hD
  have hb6d := hb613.ext hD
  have hKs : ∀ u, (fun z : World => z.heap[w5.heap.size]? = (drew w13).heap[w5.heap.size]?) u → u.heap[w5.heap.size]? = (drew w13).heap[w5.heap.size]? := fun u h => h
  (repeat (first | (apply EX.thenN) | (apply CW.seq) | (apply CW.exit) | (apply EX.thenX) | (apply EX.inX)))
  refine CW.drawH (fun z : World => z.heap[w5.heap.size]? = (drew w13).heap[w5.heap.size]?) [(0, true), (1, true), (2, true), (3, true), (4, true), (5, true), (6, true), (7, true), (8, false), (9, true), (10, true)] mixed (by kernel_rfl) rfl ?_
  (repeat (first | (apply HL.pure; rfl; rfl; rfl; rfl) | (refine HL.fa rfl rfl rfl rfl ?_) | (apply HL.nck; rfl; rfl; rfl; rfl)))
  refine HL.ldAQ hKs rfl rfl rfl rfl hsbd rfl ?_
  (repeat (first | (apply HL.pure; rfl; rfl; rfl; rfl) | (refine HL.fa rfl rfl rfl rfl ?_) | (apply HL.nck; rfl; rfl; rfl; rfl) | (refine HL.ldK (by assumption) rfl rfl rfl rfl (by assumption) rfl ?_)))
  refine HL.mut rfl (WL.st rfl rfl rfl hb6d rfl rfl (ones_of rfl) (fun w14 hb14 hg14 => WL.nil (EX.mut ?_ ?_)))
  · exact hg14.block _ (by have := hD.size; omega) (fun e => by have := Option.some.inj e; omega)
  (repeat (first | (apply HL.pure; rfl; rfl; rfl; rfl) | (apply HL.nil)))
  have z14 : w13.heap.size ≤ w14.heap.size := hg14.size
  have hE14 : Ext w0 w14 := (hE13.trans hD).grown hg14 (by have := hE13.size; have := hD.size; omega) (fun g hg => by cases hg; omega)
  have hk13 : ∀ b, b < w13.heap.size → b ≠ w1.heap.size → w14.heap[b]? = w13.heap[b]? := fun b hb hne => hg14.block b hb (fun e => hne (Option.some.inj e))
  have hfin : ∀ b, Fz w12 (fun b => b = w5.heap.size ∨ b < w9.heap.size) b → w14.heap[b]? = w12.heap[b]? := fun b hb => by
    have h1 : w9.heap.size ≤ b := Nat.le_of_not_lt (fun hx => hb.2 (.inr hx))
    have h2 := hb.1
    exact (hk13 b (by omega) (by omega)).trans (hC13.block b hb.1 (fun h => hb.2 (.inl h)))
  have hle : ∀ b, Fz w12 (fun b => b = w5.heap.size ∨ b < w9.heap.size) b → Old w14 b := fun b hb => (show b < w14.heap.size by have := hb.1; omega)
  have hC913 := hC12.trans hC13
  have s5 : Sl w14 (Old w14) oo oc (ofP nx nx.length) := q3.mono (fun b hb => (hk13 b (by have := hb.2; omega) (by have := hb.1; omega)).trans (hC913.block b hb.2 (fun h => by have := hb.1; omega))) (fun b hb => (show b < w14.heap.size by have := hb.2; omega))
  (repeat (first | (apply EX.thenN) | (apply CW.ret)))
  subst hNN
  exact EX.retC3 rfl rfl rfl rfl hb14 rfl ⟨⟨_, oo, oc, rfl, ⟨sto, stc, nvo, nvc, lbo, lbc, fvo, fvc, rfl, s1.mono hfin hle, s2.mono hfin hle, s3.mono hfin hle, s4.mono (fun b hb => hk13 b hb.1 (by have := Nat.le_of_not_lt (fun hx => hb.2 (.inr hx)); omega)) (fun b hb => (show b < w14.heap.size by have := hb.1; omega))⟩, s5⟩, hE14⟩
end Go.Proofs.Ytadbkppgaekmpaa
/-
  RunsWalks: walked.
-/
set_option linter.unusedVariables false
set_option linter.unusedSimpArgs false
namespace Go.Proofs.Ytadbkppgaekmpaa
open Go.RowKit

theorem straight_runs : (runsE straightP 1 9).2 = 0 ∧ (runsE straightP 1 9).1.1.2.2.1 = [2, 4, 9223372036854775808] ∧ (runsE straightP 1 9).1.2 = [(0, 0), (1, 1), (-1, 2)] ∧ (runsE straightP 1 9).1.1.1 = [0] := by
  have hs : stepsE straightP = ([(1, 0, 1), (2, 1, 0)], 0) := straight_steps
  unfold runsE
  rw [straight_sp.2.2, hs]
  dsimp only
  rw [if_neg (by decide), if_neg (by decide)]
  refine ⟨rfl, by decide, by decide, by decide⟩
theorem runsE_ok {p : LProc} {tok st : Int} (h : (runsE p tok st).2 = 0) : (exploreE p tok st).2 = 0 ∧ atV (exploreE p tok st).1.2 (exploreE p tok st).1.2.length ≤ 600 ∧ (runsE p tok st).1 = (runsW (stepsE p).1 (exploreE p tok st).1.2, ofP (exploreE p tok st).1.2 (exploreE p tok st).1.2.length) := by
  unfold runsE at h ⊢
  split at h
  · rename_i g; exact absurd h g
  rename_i g1
  split at h
  · cases h
  rename_i g2
  rw [if_neg g1, if_neg g2]
  exact ⟨by simpa using g1, by omega, rfl⟩
theorem runsE_err {p : LProc} {tok st : Int} (h : (runsE p tok st).2 ≠ 0) : (runsE p tok st).1 = (nilW, []) := by
  unfold runsE at h ⊢
  split
  · rfl
  rename_i g1
  rw [if_neg g1] at h
  split
  · rfl
  rename_i g2
  rw [if_neg g2] at h
  exact absurd rfl h
theorem idxOf_spec {α : Type} {p : α → Bool} {xs : List α} {j : Nat} (hj : j < xs.length) (h : idxOf p xs = (j : Int)) : p xs[j] = true ∧ ∀ i (hi : i < xs.length), i < j → p xs[i] = false := by
  unfold idxOf at h
  cases hf : xs.findIdx? p with
  | none =>
    rw [hf] at h
    have h : (-1 : Int) = (j : Int) := h
    omega
  | some i =>
    rw [hf] at h
    have h : (i : Int) = (j : Int) := h
    have e : i = j := by omega
    subst e
    obtain ⟨h1, h2, h3⟩ := List.findIdx?_eq_some_iff_getElem.1 hf
    exact ⟨h2, fun k hk hlt => by simpa using h3 k hlt⟩
theorem allL_get {nx : List (List LEdge)} {m i : Nat} (h : i < (allL nx m).length) : (allL nx m)[i] = ((atV nx m + i : Nat) : Int) := by simp [allL]
theorem allL_len {nx : List (List LEdge)} {m : Nat} : (allL nx m).length = mny nx m := by simp [allL]
theorem mny_row {nx : List (List LEdge)} {m : Nat} (h : nx.getD m [] ≠ []) : mny nx m = (nx.getD m []).length := by
  have : 0 < (nx.getD m []).length := List.length_pos_iff.2 h
  unfold mny; omega
theorem ofX_row {nx : List (List LEdge)} {m i : Nat} (hm : m < nx.length) (hi : i < (nx.getD m []).length) : ofX nx (atV nx m + i) = (((nx.getD m []).getD i (0, 0)).1, (m : Int)) := by
  have hne : nx.getD m [] ≠ [] := fun h => by rw [h] at hi; simp at hi
  rw [ofX_at hm (by rw [mny_row hne]; exact hi), if_neg hne]
theorem all_find {nx : List (List LEdge)} {m j : Nat} {k : Int} (hm : m < nx.length) (hj : j < (nx.getD m []).length) (hidx : idxOf (fun e : LEdge => e.1 == k) (nx.getD m []) = (j : Int)) :
    idxOf (fun x : Int => (ofX nx x.toNat).1 == k) (allL nx m) = (j : Int) ∧ ((nx.getD m []).getD j (0, 0)).1 = k := by
  obtain ⟨h1, h2⟩ := idxOf_spec hj hidx
  have hne : nx.getD m [] ≠ [] := fun h => by rw [h] at hj; simp at hj
  have hln : (allL nx m).length = (nx.getD m []).length := by rw [allL_len, mny_row hne]
  have hx : ∀ i (hi : i < (allL nx m).length), ((ofX nx ((allL nx m)[i]).toNat).1 == k) = (((nx.getD m [])[i]'(by omega)).1 == k) := fun i hi => by
    rw [allL_get, Int.toNat_natCast, ofX_row hm (by omega), getEd (by omega)]
  refine ⟨idxOf_here (by omega) (fun i hi hlt => ?_) ?_, ?_⟩
  · rw [hx i hi]; exact h2 i (by omega) hlt
  · rw [hx j (by omega)]; exact h1
  · rw [getEd hj]; simpa using h1
theorem walked_first2 {p : LProc} {dice : List Int} (hz : (stepsE p).2 = 0) : (walkedP p dice).1 ≠ [] ∧ (walkedP p dice).1.getD 0 [] = beginL p := by
  unfold walkedP
  rw [if_neg (by simp [hz])]
  exact ⟨by simp, rfl⟩
theorem rw1_ok (w : World) {b13 b21 x : Nat} {oo : Option Addr} {oc : Nat} {l : List LEdge} {k : Int} (hb13 : Blk w b13 74 [.slice oo l.length oc]) (hb21 : Blk w b21 3 [.int .i64 k]) (ho : Sl w (Old w) oo oc l) (hx : x < l.length) :
    Rt Try.prog 45 [.int .i64 (x : Int), .pointer (some ⟨b13, 0, none⟩), .pointer (some ⟨b21, 0, none⟩)].toArray w fun v w' => v = .bool ((l.getD x (0, 0)).1 == k) ∧ Ext w w' := by
  obtain ⟨ob, off, rfl, hob, hc1, hc2⟩ := ho.edge0 hx
  refine Rt.enter3 Try.func45 Try.ntmps45 rfl rfl ?_
  rw [getEd hx]
  (repeat (first | (apply WL.pure; rfl; rfl; rfl) | (apply QL.pure; rfl; rfl; rfl) | (apply WL.nil) | (apply EX.thenN) | (apply CW.seq) | (apply CW.region) | (apply QL.ld; rfl; rfl; rfl; assumption; rfl) | (apply CW.draw; exact mixed; kernel_rfl)))
  refine QL.idx (α := LEdge) rfl rfl rfl rfl (by omega) (by omega) ?_
  (repeat (apply QL.fa; rfl; rfl; rfl))
  refine QL.load (α := Int) (F := Non) (y := l[x].1) rfl rfl rfl hob (fun _ h => h.elim) (by rw [Int.toNat_natCast]; exact hc1) rfl ?_
  rw [show vOf Int [.int .i64 l[x].1] = .int .i64 l[x].1 from rfl]
  (repeat (first | (apply QL.pure; rfl; rfl; rfl) | (apply QL.ld; rfl; rfl; rfl; assumption; rfl)))
  refine QL.nil fun w1 e1 => ?_
  (repeat (first | (apply EX.thenN) | (apply CW.ret)))
  exact EX.ret1 rfl rfl ⟨rfl, e1⟩
set_option maxRecDepth 100000 in
set_option maxHeartbeats 2000000 in
theorem RunsWalks_ok (w0 : World) {so fo dO : Option Addr} {sc fc dc : Nat} {ns : List LNode} {fl : List LFlow} {dice : List Int} (hs : Sl w0 (Old w0) so sc ns) (hf : Sl w0 (Old w0) fo fc fl) (hd : Sl w0 (Old w0) dO dc dice) (hdl : dice.length ≤ 1048576) (tok st : Int) :
    Rt Try.prog 7 [procV so sc fo fc ns.length fl.length, .int .i64 tok, .int .i64 st, .slice dO dice.length dc].toArray w0 fun v w' => v = .bool true ∧ Ext w0 w' := by
  refine Rt.enter4 Try.func7 Try.ntmps7 rfl rfl ?_
  have hE := Ext.refl w0
  (repeat (first | (apply CW.seq) | (apply CW.region)))
  refine WL.boxB rfl rfl rfl fun w1 hb4 e1 => ?_
  have hE := hE.trans e1
  (repeat (first | (apply WL.pure; rfl; rfl; rfl) | (apply WL.nil) | (apply EX.thenN) | (apply CW.seq) | (apply CW.region)))
  refine WL.call rfl rfl rfl (straight_ok w1) ?_
  rintro _ w2 ⟨⟨p1, q1, p2, q2, rfl, g1, g2⟩, e2⟩
  have hb4 := hb4.ext e2
  have hE := hE.trans e2
  skip
  refine WL.call rfl rfl rfl (runsOf_ok w2 (ns := straightP.1) (fl := straightP.2) g1 g2 1 9) ?_
  rintro _ w3 ⟨⟨x, oo, oc, rfl, hx, ho⟩, e3⟩
  have hb4 := hb4.ext e3
  have hE := hE.trans e3
  obtain ⟨s1, s2, s3, s4⟩ := straight_runs
  rw [show ((straightP.1, straightP.2) : LProc) = straightP from rfl] at *
  rw [s1, s3]
  obtain ⟨a1, c1, a2, c2, a3, c3, a4, c4, rfl, h1, h2, h3, h4⟩ := hx.ok
  rw [s2] at h3 ⊢
  generalize (runsE straightP 1 9).1.1.1 = y1 at *
  generalize (runsE straightP 1 9).1.1.2.1 = y2 at *
  generalize (runsE straightP 1 9).1.1.2.2.2 = y4 at *
  clear hx ho h1 h2 h4
  (repeat (apply WL.pure; rfl; rfl; rfl))
  refine WL.alloc rfl rfl (fun w4 hb9 e4 => ?_)
  skip
  refine WL.st rfl rfl rfl hb9 rfl rfl (ones_of rfl) (fun w5 hb9 hg5 => ?_)
  have e5 : Ext w3 w5 := e4.grown hg5 e4.size (fun g hg => by cases hg; exact Nat.le_refl _)
  have hb4 := hb4.ext e5
  have hE := hE.trans e5
  have h3 := h3.up e5
  clear e1 e2 e3 e4 e5 g1 g2 hg5
  (repeat (first | (apply WL.pure; rfl; rfl; rfl) | (apply WL.nil) | (apply EX.thenN) | (apply CW.seq) | (apply CW.region) | (apply WL.lenS; rfl; rfl; rfl) | (apply WL.fa; rfl; rfl; rfl) | (apply WL.ld; rfl; rfl; rfl; assumption; rfl)))
  refine WL.elemN (i := 0) rfl rfl rfl rfl rfl h3 (by decide) (fun _ => rfl) (fun u q hu => ?_)
  obtain ⟨rfl, _⟩ := hu.u64
  (repeat (first | (apply WL.pure; rfl; rfl; rfl) | (apply WL.nil) | (apply EX.thenN) | (apply CW.seq) | (apply CW.region) | (apply WL.ldA; rfl; rfl; rfl; assumption; rfl) | (apply CW.condF; rfl) | (apply CW.skip)))
  clear hu h3 hb9
  refine WL.call rfl rfl rfl (runsOf_ok w5 (hs.up hE) (hf.up hE) tok st) ?_
  rintro _ w6 ⟨⟨x, oo, oc, rfl, hx, ho⟩, e6⟩
  have hb4 := hb4.ext e6
  have hE := hE.trans e6
  have her := runsE_err (p := (ns, fl)) (tok := tok) (st := st)
  have hok := runsE_ok (p := (ns, fl)) (tok := tok) (st := st)
  generalize (runsE (ns, fl) tok st).2 = e at *
  generalize (runsE (ns, fl) tok st).1 = R at *
  obtain ⟨W, of⟩ := R
  obtain ⟨a1, c1, a2, c2, a3, c3, a4, c4, rfl, h1, h2, h3, h4⟩ := hx.ok
  dsimp only at ho h1 h2 h3 h4 her hok ⊢
  clear hx
  (repeat (apply WL.pure; rfl; rfl; rfl))
  refine WL.alloc rfl rfl (fun w7 hb12 e7 => ?_)
  skip
  refine WL.alloc rfl rfl (fun w8 hb13 e8 => ?_)
  have l12 := hb12.lt
  have hb12 := hb12.ext e8
  have l13 := hb13.lt
  have z8 := e8.size
  skip
  refine WL.st rfl rfl rfl hb12 rfl rfl (ones_of rfl) (fun w9 hb12 hg9 => ?_)
  have hb13 := hb13.kept hg9 (fun e => by have := Option.some.inj e; have := hb12.lt; have := e7.size; omega)
  skip
  refine WL.st rfl rfl rfl hb13 rfl rfl (ones_of rfl) (fun w10 hb13 hg10 => ?_)
  have hb12 := hb12.kept hg10 (fun e => by have := Option.some.inj e; have := e7.size; omega)
  have e10 : Ext w6 w10 := ((e7.trans e8).grown hg9 (by have := e7.size; omega) (fun g hg => by cases hg; exact Nat.le_refl _)).grown hg10 (by have := e7.size; have := hg9.size; omega) (fun g hg => by cases hg; have := e7.size; omega)
  have hb4 := hb4.ext e10
  have hE := hE.trans e10
  have ho := ho.up e10
  have h1 := h1.up e10
  have h2 := h2.up e10
  have h3 := h3.up e10
  clear e6 e7 e8 hg9 hg10 h4 e10 l12 l13 z8
  by_cases he : e = 0
  case neg =>
    have be : (e != 0) = true := by simpa using he
    obtain ⟨rfl, rfl⟩ := Prod.mk.inj (her he)
    (repeat (first | (apply WL.pure; rfl; rfl; rfl) | (apply WL.nil) | (apply EX.thenN) | (apply CW.seq) | (apply CW.region)))
    rw [be]
    (repeat (first | (apply WL.pure; rfl; rfl; rfl) | (apply WL.nil) | (apply EX.thenN) | (apply CW.seq) | (apply CW.region) | (apply WL.lenS; rfl; rfl; rfl) | (apply WL.ld; rfl; rfl; rfl; assumption; rfl) | (apply CW.condT; rfl) | (apply CW.ret) | (apply EX.thenR)))
    exact EX.ret1 rfl rfl ⟨rfl, hE⟩
  subst he
  obtain ⟨hx0, h600, hW⟩ := hok rfl
  obtain ⟨rfl, rfl⟩ := Prod.mk.inj hW
  have hNx := explore_nx hx0
  obtain ⟨hz, _, hsp, hnl, hml0, hfirst, _⟩ := explore_law hx0
  clear hok her hW
  generalize (exploreE (ns, fl) tok st).1.1 = ml at *
  generalize (exploreE (ns, fl) tok st).1.2 = nx at *
  clear hx0
  (repeat (first | (apply WL.pure; rfl; rfl; rfl) | (apply WL.nil) | (apply EX.thenN) | (apply CW.seq) | (apply CW.region) | (apply WL.ldA; rfl; rfl; rfl; assumption; rfl) | (apply CW.condF; rfl) | (apply CW.skip)))
  refine WL.call rfl rfl rfl (walked_ok w10 (hs.up hE) (hf.up hE) (hd.up hE) hdl) ?_
  rintro _ w11 ⟨mv, lv, rfl, hmv, hlv, e11⟩
  have hb4 := hb4.ext e11
  have hb12 := hb12.ext e11
  have hb13 := hb13.ext e11
  have hE := hE.trans e11
  have ho := ho.up e11
  have h1 := h1.up e11
  have h2 := h2.up e11
  have h3 := h3.up e11
  have hw1 := walked_first2 (p := (ns, fl)) (dice := dice) hz
  obtain ⟨hne, hw0⟩ := hw1
  obtain ⟨_, hlen, hst, hmok⟩ := walked_law (p := (ns, fl)) dice hne
  obtain ⟨ko, kc, rfl, hks⟩ := hmv.sl
  obtain ⟨lo, lc, rfl, hls⟩ := hlv.sl
  generalize (walkedP (ns, fl) dice).1 = marks at *
  generalize (walkedP (ns, fl) dice).2 = l at *
  clear hmv hlv e11 hks
  (repeat (first | (apply WL.pure; rfl; rfl; rfl) | (apply WL.nil) | (apply EX.thenN) | (apply CW.seq) | (apply CW.region) | (apply WL.ldA; rfl; rfl; rfl; assumption; rfl)))
  refine WL.call rfl rfl rfl (Of_ok w11 (hs.up hE) (hf.up hE)) ?_
  rintro _ w12 ⟨sv, rfl, hsl, e12⟩
  have hb12 := hb12.ext e12
  have hb13 := hb13.ext e12
  have hE := hE.trans e12
  have ho := ho.up e12
  have h1 := h1.up e12
  have h2 := h2.up e12
  have h3 := h3.up e12
  have hls := hls.up e12
  obtain ⟨qo, qc, rfl, hqs⟩ := hsl.oldN.sl
  clear hsl e12 hb4
  have hll := hls.len63
  have hpos := hNx.pos
  generalize (stepsE (ns, fl)).1 = sl at *
  have hNl : ((List.range (atV nx nx.length)).map (labelJ sl nx)).length = atV nx nx.length := by simp
  have hNn : ((List.range (atV nx nx.length)).map (nextJ nx)).length = atV nx nx.length := by simp
  have hs1 : (runsW sl nx).1 = allL nx 0 := rfl
  have hs2 : (runsW sl nx).2.1 = (List.range (atV nx nx.length)).map (nextJ nx) := rfl
  have hs3 : (runsW sl nx).2.2.1 = (List.range (atV nx nx.length)).map (labelJ sl nx) := rfl
  rw [hs1] at h1 hb12
  rw [hs2] at h2 hb12
  rw [hs3] at h3 hb12
  clear hs1 hs2 hs3
  have hsi : runsW sl nx = runsW sl nx := rfl
  (repeat (first | (apply WL.pure; rfl; rfl; rfl) | (apply WL.nil) | (apply EX.thenN) | (apply CW.seq) | (apply CW.region) | (apply WL.lenS; rfl; rfl; rfl) | (apply WL.fa; rfl; rfl; rfl) | (apply WL.ld; rfl; rfl; rfl; assumption; rfl) | (apply CW.block)))
  refine CW.loop (S := Nat × Nat × Option Addr × Nat) (fun t => [(12, .pointer (some ⟨w6.heap.size, 0, none⟩)), (13, .pointer (some ⟨w7.heap.size, 0, none⟩)), (17, .slice qo sl.length qc), (19, .slice t.2.2.1 (allL nx t.2.1).length t.2.2.2), (70, .slice lo l.length lc), (71, .int .i64 l.length), (72, .int .i64 t.1)])
    (fun t w => t.1 ≤ l.length ∧ t.2.1 < nx.length ∧ ml.getD t.2.1 [] = marks.getD t.1 [] ∧ Sl w (Old w) t.2.2.1 t.2.2.2 (allL nx t.2.1) ∧ Ext w12 w) (fun t => l.length - t.1) (0, 0, a1, c1) (by repeat (first | exact trivial | refine ⟨rfl, ?_⟩)) ⟨Nat.zero_le _, hpos, by rw [hfirst, hw0], h1, Ext.refl _⟩ ?_
  rintro ⟨i, m, ao, ac⟩ w13 ⟨hi, hm, heq, hat, e13⟩
  dsimp only at hi hm heq hat e13 ⊢
  have hb12 := hb12.ext e13
  have hb13 := hb13.ext e13
  have hE13 := hE.trans e13
  (repeat (first | (apply WL.pure; rfl; rfl; rfl) | (apply WL.nil) | (apply EX.thenN) | (apply CW.seq) | (apply CW.region)))
  refine CW.cond rfl (fun h => ?_) (fun h => ?_)
  · have hi' : i < l.length := by simp at h; omega
    have hsti := hst i hi'
    have hi0 : i < marks.length := by omega
    have hm' : m < ml.length := by omega
    rw [getDm_at hi', getDG_atM hi0] at hsti
    rw [getDG_atM hm', getDG_atM hi0] at heq
    have hma := hmok _ (List.getElem_mem hi0)
    obtain ⟨j, hj, hidx, hto0, hto1, hto2⟩ := space_step hz hsp hm (by rw [getDG_atM hm', heq]) hma hsti
    obtain ⟨hfind, hk⟩ := all_find hm hj hidx
    have hed := hNx.ed m hm _ (List.getElem_mem hj)
    rw [← getEd hj] at hed
    have hne' : nx.getD m [] ≠ [] := fun h => by rw [h] at hj; simp at hj
    have hjm : j < mny nx m := by rw [mny_row hne']; exact hj
    have hjx := ofX_row hm hj
    have hjlt := atV_lt (nx := nx) hm hjm
    clear hst hmok hsp h
    have hto : toE nx (atV nx m + j) = (nx.getD m []).getD j (0, 0) := by
      unfold toE
      rw [hjx]
      dsimp only
      rw [Int.toNat_natCast, show atV nx m + j - atV nx m = j by omega]
    obtain ⟨t, ht⟩ : ∃ t : Nat, ((nx.getD m []).getD j (0, 0)).2 = (t : Int) := ⟨((nx.getD m []).getD j (0, 0)).2.toNat, by omega⟩
    have hnext : nextJ nx (atV nx m + j) = allL nx t := by
      unfold nextJ
      rw [hjx, if_neg (by dsimp only; omega), hto, ht, Int.toNat_natCast]
    obtain ⟨kk, hkk⟩ : ∃ kk : Nat, ((nx.getD m []).getD j (0, 0)).1 = (kk : Int) := ⟨((nx.getD m []).getD j (0, 0)).1.toNat, by omega⟩
    have hksl : kk < sl.length := by omega
    have hnd := hNx.node _ (List.getElem_mem hksl)
    obtain ⟨nd, hnd2⟩ : ∃ nd : Nat, sl[kk].1 = (nd : Int) := ⟨(sl[kk].1).toNat, by omega⟩
    have hlab : labelJ sl nx (atV nx m + j) = 2 ^ nd := by
      unfold labelJ
      rw [hjx, if_neg (by dsimp only; omega)]
      dsimp only
      rw [hkk, Int.toNat_natCast, getSt hksl, hnd2, Int.toNat_natCast]
    rw [ht] at hto0 hto1 hto2
    rw [Int.toNat_natCast] at hto2
    have hlk : l[i] = (kk : Int) := by rw [← hk, hkk]
    have hal : (allL nx m).length = mny nx m := allL_len
    (repeat (first | (apply EX.thenN) | (apply CW.seq) | (apply CW.region) | (apply CW.block) | (apply CW.skip)))
    refine WL.elemI rfl rfl rfl rfl rfl (hls.up e13) hi' hlk (fun _ => rfl) (fun q => ?_)
    skip
    refine WL.alloc rfl rfl (fun w14 hb21 e14 => ?_)
    skip
    refine WL.st rfl rfl rfl hb21 rfl rfl (ones_of rfl) (fun w15 hb21 hg15 => ?_)
    have e15 : Ext w13 w15 := e14.grown hg15 e14.size (fun g hg => by cases hg; exact Nat.le_refl _)
    have hb12 := hb12.ext e15
    have hb13 := hb13.ext e15
    have e15 := e13.trans e15
    have hat15 := hat.up (show Ext w13 w15 from e14.grown hg15 e14.size (fun g hg => by cases hg; exact Nat.le_refl _))
    clear e14 hg15
    have ho15 := ho.up e15
    (repeat (first | (apply WL.pure; rfl; rfl; rfl) | (apply WL.nil) | (apply EX.thenN) | (apply CW.seq) | (apply CW.region) | (apply WL.makeFunc; rfl; rfl; rfl; rfl)))
    refine WL.call rfl rfl rfl (indexFunc_int w15 (fun x : Int => (ofX nx x.toNat).1 == (kk : Int)) hat15 (fun w hw i2 hi2 => ?_)) ?_
    · rw [allL_get]
      have hb2 : i2 < mny nx m := by rw [← hal]; exact hi2
      have hxl := atV_lt (nx := nx) hm hb2
      exact FnV.mk (cs := [_, _]) (rw1_ok w (x := atV nx m + i2) (hb13.ext hw) (hb21.ext hw) (ho15.up hw) hxl)
    rintro _ w16 ⟨rfl, e16⟩
    rw [← hk, hkk] at hfind
    rw [hfind]
    have e16' := e15.trans e16
    have hb12 := hb12.ext e16
    have hb21 := hb21.ext e16
    have hat16 := hat15.up e16
    have hjl : (decide ((j : Int) < 0)) = false := decide_eq_false (by omega)
    obtain ⟨qb, qf, rfl, hqb, hqc⟩ := (hqs.up e16').step0 hksl
    rw [hnd2] at hqc
    (repeat (first | (apply WL.pure; rfl; rfl; rfl) | (apply QL.pure; rfl; rfl; rfl) | (apply WL.nil) | (apply EX.thenN) | (apply CW.seq) | (apply QL.fa; rfl; rfl; rfl) | (apply QL.ld; rfl; rfl; rfl; assumption; rfl) | (apply CW.draw; exact mixed; kernel_rfl)))
    rw [hjl]
    skip
    refine QL.elemI (i := j) rfl rfl rfl rfl rfl (fun _ h => h) hat16 (by rw [hal]; exact hjm) (allL_get _) (fun _ => rfl) (fun q => ?_)
    skip
    refine QL.elemN (i := atV nx m + j) rfl rfl rfl rfl rfl (fun _ h => h) (h3.up e16') (by rw [hNl]; exact hjlt) (fun _ => rfl) (fun u q hu => ?_)
    rw [List.getElem_map, List.getElem_range, hlab] at hu
    obtain ⟨rfl, _⟩ := hu.u64
    clear hu
    (repeat (first | (apply QL.pure; rfl; rfl; rfl) | (apply QL.ld; rfl; rfl; rfl; assumption; rfl)))
    refine QL.idx (α := LStep) rfl rfl rfl rfl (by omega) (by omega) ?_
    (repeat (apply QL.fa; rfl; rfl; rfl))
    refine QL.load (α := Int) (F := Non) (y := (nd : Int)) rfl rfl rfl hqb (fun _ h => h.elim) (by rw [Int.toNat_natCast]; exact hqc) rfl ?_
    rw [show vOf Int [.int .i64 (nd : Int)] = .int .i64 (nd : Int) from rfl]
    (repeat (apply QL.pure; rfl; rfl; rfl))
    rw [shl1U (show nd < 62 by omega)]
    rw [show (((2 ^ nd : Nat) : Int) != ((2 ^ nd : Nat) : Int)) = false by simp]
    skip
    refine QL.nil fun w17 e17 => ?_
    have hb12 := hb12.ext e17
    have hat17 := hat16.up e17
    have e17' := e16'.trans e17
    (repeat (first | (apply QL.pure; rfl; rfl; rfl) | (apply EX.thenN) | (apply QL.fa; rfl; rfl; rfl) | (apply QL.ld; rfl; rfl; rfl; assumption; rfl) | (apply CW.condF; rfl) | (apply CW.skip) | (apply CW.draw; exact mixed; kernel_rfl)))
    refine QL.elemI (i := j) rfl rfl rfl rfl rfl (fun _ h => h) hat17 (by rw [hal]; exact hjm) (allL_get _) (fun _ => rfl) (fun q => ?_)
    skip
    refine QL.elemN (i := atV nx m + j) rfl rfl rfl rfl rfl (fun _ h => h) (h2.up e17') (by rw [hNn]; exact hjlt) (fun _ => rfl) (fun u q hu => ?_)
    rw [List.getElem_map, List.getElem_range, hnext] at hu
    obtain ⟨ao', ac', rfl, hat'⟩ := hu.sl
    clear hu
    (repeat (apply QL.pure; rfl; rfl; rfl))
    refine QL.nil fun w18 e18 => ?_
    (repeat (first | (apply WL.add; rfl; rfl; rfl; rfl; omega; omega) | (apply WL.pure; rfl; rfl; rfl) | (apply WL.nil) | (apply EX.thenN) | (apply CW.region) | (apply EX.inN)))
    exact EX.back (i + 1, t, ao', ac') (by repeat (first | exact trivial | refine ⟨rfl, ?_⟩)) ⟨hi', (by dsimp only; omega), (by dsimp only; rw [hto2]), hat'.up e18, e17'.trans e18⟩ (by dsimp only; omega)
  · (repeat (first | (apply WL.pure; rfl; rfl; rfl) | (apply WL.nil) | (apply EX.thenN) | (apply CW.seq) | (apply CW.region) | (apply CW.exit) | (apply EX.thenX) | (apply EX.inX) | (apply CW.ret)))
    exact EX.ret1 rfl rfl ⟨rfl, hE13⟩
end Go.Proofs.Ytadbkppgaekmpaa
