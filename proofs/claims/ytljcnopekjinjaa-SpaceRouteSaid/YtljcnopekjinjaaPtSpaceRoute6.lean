import Derived.Laws.StructEq
import Derived.Test.YtljcnopekjinjaaPtSpaceRoute5
/-
  Package proc: nodes, Check, Ins, Outs: walked.
-/
set_option linter.unusedVariables false
set_option linter.unusedSimpArgs false
namespace Go.Proofs.Ytljcnopekjinjaa
open Go.RowKit

theorem nodes1 (w : World) (m : LNode) (b : Nat) {x : LNode} (hb : Blk w b 67 [.string x.1, .int .i64 x.2]) :
    Rt Try.prog 112 [.agg [.string m.1, .int .i64 m.2].toArray, .pointer (some ⟨b, 0, none⟩)].toArray w fun v w' => v = .bool (nameEq m.1 x.1) ∧ Ext w w' := by
  refine Rt.enter2 Try.func112 Try.ntmps112 rfl rfl ?_
  (repeat (first | (apply CW.seq) | (apply CW.region)))
  refine WL.boxB rfl rfl rfl fun w1 hb1 e1 => ?_
  have hb := hb.ext e1
  (repeat (first | (apply WL.pure; rfl; rfl; rfl) | (apply WL.nil) | (apply EX.thenN) | (apply CW.seq) | (apply CW.region) | (apply WL.fa; rfl; rfl; rfl) | (apply WL.ld; rfl; rfl; rfl; assumption; rfl) | (apply CW.ret)))
  exact EX.ret1 rfl rfl ⟨rfl, e1⟩
theorem nodes_ok (w0 : World) {so fo : Option Addr} {sc fc k : Nat} {ns : List LNode} (hs : Sl w0 (Old w0) so sc ns) :
    Rt Try.prog 96 [procV so sc fo fc ns.length k].toArray w0 fun v w' => v = .int .i64 (nodesE ns) ∧ Ext w0 w' := by
  have hm := hs.len63
  have hle := hs.le
  refine Rt.enter1 Try.func96 Try.ntmps96 rfl rfl ?_
  (repeat (first | (apply CW.seq) | (apply CW.region)))
  refine WL.boxB rfl rfl rfl fun w1 hb1 e1 => ?_
  have hl1 := hb1.lt
  (repeat (first | (apply WL.pure; rfl; rfl; rfl) | (apply WL.nil) | (apply EX.thenN) | (apply CW.seq) | (apply CW.region) | (apply WL.lenS; rfl; rfl; rfl) | (apply WL.fa; rfl; rfl; rfl) | (apply WL.ld; rfl; rfl; rfl; assumption; rfl) | (apply CW.block)))
  refine CW.loop (S := Nat) (fun i => [(1, .pointer (some ⟨w0.heap.size, 0, none⟩)), (6, .slice so ns.length sc), (7, .int .i64 ns.length), (8, .int .i64 i)])
    (fun i w => i ≤ ns.length ∧ Ext w1 w ∧ ∀ j, j < i → nodeE ns j = 0) (fun i => ns.length - i) 0 (by repeat (first | exact trivial | refine ⟨rfl, ?_⟩)) ⟨by omega, Ext.refl _, by omega⟩ ?_
  rintro i w ⟨hi, e, hno⟩
  have hE := e1.trans e
  have hb1 := hb1.ext e
  (repeat (first | (apply WL.pure; rfl; rfl; rfl) | (apply WL.nil) | (apply EX.thenN) | (apply CW.seq) | (apply CW.region)))
  refine CW.cond rfl (fun h => ?_) (fun h => ?_)
  · have hi' : i < ns.length := by simp at h; omega
    have hnd := getDNd_at hi'
    (repeat (first | (apply WL.pure; rfl; rfl; rfl) | (apply EX.thenN) | (apply CW.seq) | (apply CW.region) | (apply CW.block) | (apply CW.skip)))
    refine WL.elemN rfl rfl rfl rfl rfl (hs.at hE) hi' (fun _ => rfl) (fun u q hu => ?_)
    obtain rfl := hu.node
    skip
    refine WL.alloc rfl rfl (fun w2 hb4 e2 => ?_)
    have hl4 := hb4.lt
    (repeat (apply WL.pure; rfl; rfl; rfl))
    refine WL.st rfl rfl rfl hb4 rfl rfl (ones_of rfl) (fun w3 hb4 hg3 => ?_)
    have e3 : Ext w w3 := e2.grown hg3 e2.size (fun g hg => by cases hg; exact Nat.le_refl _)
    have hb1 := hb1.ext e3
    have hE := hE.trans e3
    (repeat (first | (apply WL.nil) | (apply EX.thenN) | (apply CW.seq) | (apply CW.region) | (apply WL.fa; rfl; rfl; rfl) | (apply WL.ld; rfl; rfl; rfl; assumption; rfl)))
    refine WL.call rfl rfl rfl (Named_ok w3 ns[i].1) ?_
    rintro _ w4 ⟨rfl, e4⟩
    have hb1 := hb1.ext e4
    have hb4 := hb4.ext e4
    have hE := hE.trans e4
    have e34 := e3.trans e4
    have hbad : (!namedB ns[i].1 || decide (ns[i].2 < 1) || decide (ns[i].2 > 7)) = true → nodesE ns = 1 := fun hb => by
      have : nodeE ns i = 1 := by unfold nodeE; rw [hnd, if_pos hb]
      rw [nodesE_first hi' hno (by rw [this]; decide), this]
    (repeat (apply WL.pure; rfl; rfl; rfl))
    by_cases c1 : namedB ns[i].1 = true
    · rw [c1] at hbad ⊢
      (repeat (first | (apply WL.pure; rfl; rfl; rfl) | (apply WL.fa; rfl; rfl; rfl) | (apply WL.ld; rfl; rfl; rfl; assumption; rfl)))
      by_cases c2 : decide (ns[i].2 < 1) = true
      · rw [c2]
        (repeat (first | (apply WL.pure; rfl; rfl; rfl) | (apply WL.nil) | (apply EX.thenN) | (apply CW.seq) | (apply CW.region) | (apply WL.pass; rfl; rfl) | (apply CW.condT; rfl) | (apply CW.ret) | (apply EX.thenR) | (apply EX.inR)))
        refine EX.ret1 rfl rfl ⟨?_, hE⟩
        rw [hbad (by rw [c2]; rfl)]
      have c2 : decide (ns[i].2 < 1) = false := by simpa using c2
      rw [c2]
      (repeat (first | (apply WL.pure; rfl; rfl; rfl) | (apply WL.nil) | (apply EX.thenN) | (apply WL.fa; rfl; rfl; rfl) | (apply WL.ld; rfl; rfl; rfl; assumption; rfl)))
      by_cases c3 : decide (ns[i].2 > 7) = true
      · rw [c3]
        (repeat (first | (apply WL.pure; rfl; rfl; rfl) | (apply WL.nil) | (apply EX.thenN) | (apply CW.seq) | (apply CW.region) | (apply CW.condT; rfl) | (apply CW.ret) | (apply EX.thenR) | (apply EX.inR)))
        refine EX.ret1 rfl rfl ⟨?_, hE⟩
        rw [hbad (by rw [c2, c3]; rfl)]
      have c3 : decide (ns[i].2 > 7) = false := by simpa using c3
      rw [c3]
      (repeat (first | (apply WL.pure; rfl; rfl; rfl) | (apply EX.thenN) | (apply CW.seq) | (apply CW.region) | (apply WL.fa; rfl; rfl; rfl) | (apply WL.ld; rfl; rfl; rfl; assumption; rfl) | (apply CW.condF; rfl) | (apply CW.skip)))
      refine WL.cutHi (α := LNode) i rfl rfl rfl rfl rfl (by omega) ?_
      (repeat (apply WL.makeFunc; rfl; rfl; rfl; rfl))
      have hcut := (hs.up hE).take (k := i) (by omega)
      have htl : (ns.take i).length = i := by rw [List.length_take]; omega
      have hcf := containsFunc_node w4 (fv := .func (.func 112) [].toArray [.pointer (some ⟨w.heap.size, 0, none⟩)].toArray) (fun m => nameEq m.1 ns[i].1) hcut (fun w5 hw j hj u hu => by
        obtain rfl := hu.node
        exact FnV.mk (cs := [_]) (nodes1 w5 _ _ (hb4.ext hw)))
      rw [htl] at hcf
      refine WL.call rfl rfl rfl hcf ?_
      rintro _ w5 ⟨rfl, e5⟩
      have hb1 := hb1.ext e5
      (repeat (first | (apply WL.nil) | (apply EX.thenN)))
      refine CW.cond rfl (fun h2 => ?_) (fun h2 => ?_)
      · (repeat (first | (apply WL.pure; rfl; rfl; rfl) | (apply WL.nil) | (apply EX.thenN) | (apply CW.seq) | (apply CW.region) | (apply CW.ret) | (apply EX.thenR) | (apply EX.inR)))
        refine EX.ret1 rfl rfl ⟨?_, hE.trans e5⟩
        have : nodeE ns i = 4 := by unfold nodeE; rw [hnd, if_neg (by rw [show namedB ns[i].1 = true from c1, c2, c3]; simp), if_pos h2]
        rw [nodesE_first hi' hno (by rw [this]; decide), this]
      · (repeat (first | (apply WL.add; rfl; rfl; rfl; rfl; omega; omega) | (apply WL.pure; rfl; rfl; rfl) | (apply WL.nil) | (apply EX.thenN) | (apply CW.region) | (apply EX.inN) | (apply CW.skip)))
        refine EX.back (i + 1) (by repeat (first | exact trivial | refine ⟨rfl, ?_⟩)) ⟨hi', (e.trans e34).trans e5, fun j hj => ?_⟩ (by omega)
        by_cases ej : j = i
        · subst ej
          unfold nodeE; rw [hnd, if_neg (by rw [show namedB ns[j].1 = true from c1, c2, c3]; simp), if_neg (by rw [h2]; simp)]
        · exact hno j (by omega)
    · have c1 : namedB ns[i].1 = false := by simpa using c1
      rw [c1] at hbad ⊢
      (repeat (first | (apply WL.pure; rfl; rfl; rfl) | (apply WL.nil) | (apply EX.thenN) | (apply CW.seq) | (apply CW.region) | (apply WL.pass; rfl; rfl) | (apply CW.condT; rfl) | (apply CW.ret) | (apply EX.thenR) | (apply EX.inR)))
      refine EX.ret1 rfl rfl ⟨?_, hE⟩
      rw [hbad rfl]
  · obtain rfl : i = ns.length := by simp at h; omega
    (repeat (first | (apply WL.pure; rfl; rfl; rfl) | (apply WL.nil) | (apply EX.thenN) | (apply CW.seq) | (apply CW.region) | (apply CW.exit) | (apply EX.thenX) | (apply EX.inX) | (apply CW.ret)))
    refine EX.ret1 rfl rfl ⟨?_, hE⟩
    rw [nodesE_zero hno]

/- THE GRAPH OF THE FLOWS -/
def flowsP (n : Nat) (fl : List LFlow) (i : Nat) : Graph := flowsG n (fl.take i)
theorem flowsP_len {n : Nat} {fl : List LFlow} {i : Nat} : (flowsP n fl i).length = n := by simp [flowsP, flowsG]
theorem flowsP_zero {n : Nat} {fl : List LFlow} : flowsP n fl 0 = List.replicate n [] := by
  refine List.ext_getElem (by simp [flowsP, flowsG]) fun k h1 h2 => ?_
  simp [flowsP, flowsG]
theorem flowsP_get {n : Nat} {fl : List LFlow} {i k : Nat} (h : k < n) : (flowsP n fl i)[k]'(by rw [flowsP_len]; exact h) = ((fl.take i).filter fun f => f.1 == (k : Int)).map (·.2) := by simp [flowsP, flowsG]
theorem flowsP_next {n : Nat} {fl : List LFlow} {i a : Nat} {b : Int} (hi : i < fl.length) (hf : fl[i] = ((a : Int), b)) (ha : a < n) :
    (flowsP n fl i).set a ((((fl.take i).filter fun f => f.1 == (a : Int)).map (·.2)) ++ [b]) = flowsP n fl (i + 1) := by
  refine List.ext_getElem (by simp [flowsP_len]) fun k h1 h2 => ?_
  have hk : k < n := by rw [flowsP_len] at h2; exact h2
  rw [List.getElem_set, flowsP_get hk, flowsP_get hk, ← List.take_append_getElem hi, hf, List.filter_append, List.map_append]
  by_cases e : a = k
  · subst e; rw [if_pos rfl]; simp
  · rw [if_neg e]
    have : ((a : Int) == (k : Int)) = false := by simpa using fun h : (a : Int) = k => e (by omega)
    simp [List.filter_cons, this]
theorem flowsG_ok {n : Nat} {fl : List LFlow} (h : ∀ f ∈ fl, 0 ≤ f.2 ∧ f.2 < n) : okG (flowsG n fl) := by
  intro r hr x hx
  rw [show (flowsG n fl).length = n by simp [flowsG]]
  obtain ⟨k, _, rfl⟩ := List.mem_map.1 hr
  obtain ⟨f, hf, rfl⟩ := List.mem_map.1 hx
  exact h f (List.mem_filter.1 hf).1
theorem flowsG_edges {n : Nat} {fl : List LFlow} : edges (flowsG n fl) ≤ n * fl.length := by
  unfold edges flowsG
  rw [List.map_map]
  have : ∀ m : List Nat, (m.map (List.length ∘ fun k : Nat => (fl.filter fun f => f.1 == (k : Int)).map (·.2))).sum ≤ m.length * fl.length := fun m => by
    induction m with
    | nil => simp
    | cons a m ih =>
      simp only [List.map_cons, List.sum_cons, List.length_cons, Nat.add_mul, Nat.one_mul]
      have : (List.length ∘ fun k : Nat => (fl.filter fun f => f.1 == (k : Int)).map (·.2)) a ≤ fl.length := by
        show ((fl.filter fun f => f.1 == (a : Int)).map (·.2)).length ≤ _
        rw [List.length_map]; exact List.length_filter_le _ _
      omega
  have := this (List.range n)
  rwa [List.length_range] at this
theorem startsL_next {ns : List LNode} {k : Nat} : startsL ns (k + 1) = startsL ns k ++ if ((ns.getD k (⟨#[]⟩, 0)).2 == 1) = true then [k] else [] := by
  unfold startsL
  rw [List.range_succ, List.filter_append]
  congr 1
  by_cases e : ((ns.getD k (⟨#[]⟩, 0)).2 == 1) = true
  · rw [if_pos e]; simp only [List.filter_cons, e, List.filter_nil]; rfl
  · rw [if_neg e]; simp only [List.filter_cons, e, List.filter_nil]; rfl
def lastI (l : List Nat) : Int := (l.getLast?.map fun n : Nat => (n : Int)).getD (-1)
theorem startsL_len {ns : List LNode} {k : Nat} : (startsL ns k).length ≤ k := by
  unfold startsL; exact Nat.le_trans (List.length_filter_le _ _) (by simp)
theorem chkR_eq {ns : List LNode} {fl : List LFlow} {s : Nat} (h : startsL ns ns.length = [s]) : chkR (ns, fl) = if (rchB (flowsG ns.length fl) [(s : Int)]).contains false = true then 6 else 0 := by
  have hgl : (flowsG ns.length fl).length = ns.length := by simp [flowsG]
  have hiff : (∃ n, n < ns.length ∧ ¬ Rch (flowsG ns.length fl) (((startsL ns ns.length).getLast?.map fun n : Nat => (n : Int)).toList) n) ↔ (rchB (flowsG ns.length fl) [(s : Int)]).contains false = true := by
    rw [h, List.contains_iff_mem, List.mem_iff_getElem]
    show (∃ n, n < ns.length ∧ ¬ Rch (flowsG ns.length fl) [(s : Int)] n) ↔ _
    constructor
    · rintro ⟨n, hn, hr⟩
      have hn' : n < (rchB (flowsG ns.length fl) [(s : Int)]).length := by rw [rchB_len, hgl]; exact hn
      refine ⟨n, hn', ?_⟩
      rw [← Bool.not_eq_true, rchB_iff hn']; exact hr
    · rintro ⟨n, hn, he⟩
      have hn' : n < ns.length := by rw [rchB_len, hgl] at hn; exact hn
      exact ⟨n, hn', fun hr => by rw [(rchB_iff hn).2 hr] at he; cases he⟩
  unfold chkR
  by_cases hc : (rchB (flowsG ns.length fl) [(s : Int)]).contains false = true
  · rw [if_pos hc]; exact if_pos (hiff.2 hc)
  · rw [if_neg hc]; exact if_neg (fun h => hc (hiff.1 h))
theorem Check_pr (w0 : World) {so fo : Option Addr} {sc fc : Nat} {ns : List LNode} {fl : List LFlow} (hs : Sl w0 (Old w0) so sc ns) (hf : Sl w0 (Old w0) fo fc fl) :
    Rt Try.prog 74 [procV so sc fo fc ns.length fl.length].toArray w0 fun v w' => v = .int .i64 (chkPr (ns, fl)) ∧ Ext w0 w' := by
  have hms := hs.len63
  have hmf := hf.len63
  refine Rt.enter1 Try.func74 Try.ntmps74 rfl rfl ?_
  have hE := Ext.refl w0
  (repeat (first | (apply CW.seq) | (apply CW.region)))
  refine WL.boxB rfl rfl rfl fun w1 hb1 e1 => ?_
  have hE := hE.trans e1
  unfold chkPr
  dsimp only
  (repeat (first | (apply WL.pure; rfl; rfl; rfl) | (apply WL.nil) | (apply EX.thenN) | (apply CW.seq) | (apply CW.region) | (apply WL.lenS; rfl; rfl; rfl) | (apply WL.fa; rfl; rfl; rfl) | (apply WL.ld; rfl; rfl; rfl; assumption; rfl)))
  (refine WL.lookG rfl rfl (fun h => ?_) (fun h => ?_))
  · (repeat (first | (apply WL.pure; rfl; rfl; rfl) | (apply WL.nil) | (apply EX.thenN) | (apply CW.seq) | (apply CW.region) | (apply WL.pass; rfl; rfl) | (apply CW.condT; rfl) | (apply CW.ret) | (apply EX.thenR)))
    refine EX.ret1 rfl rfl ⟨?_, hE⟩
    rw [if_pos (.inl (by simp at h; omega))]
  have c1 : ns.length ≤ 20 := by simp at h; omega
  clear h
  (repeat (first | (apply WL.pure; rfl; rfl; rfl) | (apply WL.nil) | (apply EX.thenN) | (apply WL.lenS; rfl; rfl; rfl) | (apply WL.fa; rfl; rfl; rfl) | (apply WL.ld; rfl; rfl; rfl; assumption; rfl)))
  refine CW.cond rfl (fun h => ?_) (fun h => ?_)
  · (repeat (first | (apply WL.pure; rfl; rfl; rfl) | (apply WL.nil) | (apply EX.thenN) | (apply CW.seq) | (apply CW.region) | (apply CW.ret) | (apply EX.thenR)))
    refine EX.ret1 rfl rfl ⟨?_, hE⟩
    rw [if_pos (.inr (by simp at h; omega))]
  have c2 : fl.length ≤ 30 := by simp at h; omega
  clear h
  rw [if_neg (by omega)]
  (repeat (first | (apply EX.thenN) | (apply CW.seq) | (apply CW.region) | (apply WL.ldA; rfl; rfl; rfl; assumption; rfl) | (apply CW.skip)))
  refine WL.call rfl rfl rfl (nodes_ok w1 (hs.up hE)) ?_
  rintro _ w2 ⟨rfl, e2⟩
  have hb1 := hb1.ext e2
  have hE := hE.trans e2
  (repeat (first | (apply WL.pure; rfl; rfl; rfl) | (apply WL.nil) | (apply EX.thenN) | (apply CW.seq) | (apply CW.region)))
  refine CW.cond rfl (fun h => ?_) (fun h => ?_)
  · have h : nodesE ns ≠ 0 := by simpa using h
    (repeat (first | (apply WL.pure; rfl; rfl; rfl) | (apply WL.nil) | (apply EX.thenN) | (apply CW.seq) | (apply CW.region) | (apply CW.ret) | (apply EX.thenR)))
    refine EX.ret1 rfl rfl ⟨?_, hE⟩
    rw [if_pos h]
  have h : nodesE ns = 0 := by simpa using h
  rw [if_neg (by simp [h])]
  clear h e1 e2
  have z2 := hE.size
  (repeat (first | (apply EX.thenN) | (apply CW.seq) | (apply CW.region) | (apply WL.lenS; rfl; rfl; rfl) | (apply WL.fa; rfl; rfl; rfl) | (apply WL.ld; rfl; rfl; rfl; assumption; rfl) | (apply CW.skip)))
  refine WL.make (α := Raw) rfl rfl rfl rfl (by omega) (by unfold maxLen; omega) (fun w3 ho3 hg3 => ?_)
  have e3 : Ext w2 w3 := (Below.refl _ _).grown hg3 (Nat.le_refl _) (fun k h => by cases h)
  have hN3 : OwnN w3 w2.heap.size 26 3 (.slice (some ⟨w2.heap.size, 0, none⟩) ns.length ns.length) _ (List.replicate ns.length ([] : List Int)) := OwnN.made ho3
  rw [← flowsP_zero (fl := fl)] at hN3
  have hb13 := hb1.ext e3
  clear ho3 hg3
  (repeat (first | (apply WL.pure; rfl; rfl; rfl) | (apply WL.nil) | (apply EX.thenN) | (apply CW.seq) | (apply CW.region) | (apply WL.lenS; rfl; rfl; rfl) | (apply WL.fa; rfl; rfl; rfl) | (apply WL.ld; rfl; rfl; rfl; assumption; rfl) | (apply CW.block)))
  refine CW.loop (S := Nat × List Raw) (fun s => [(1, .pointer (some ⟨w0.heap.size, 0, none⟩)), (4, .slice (some ⟨w2.heap.size, 0, none⟩) ns.length ns.length), (35, .slice fo fl.length fc), (36, .int .i64 fl.length), (37, .int .i64 s.1)])
    (fun s w => s.1 ≤ fl.length ∧ (∀ f ∈ fl.take s.1, flowOdd ns.length f = false) ∧ OwnN w w2.heap.size 26 3 (.slice (some ⟨w2.heap.size, 0, none⟩) ns.length ns.length) s.2 (flowsP ns.length fl s.1) ∧ Ext w2 w) (fun s => fl.length - s.1) (0, _) (by repeat (first | exact trivial | refine ⟨rfl, ?_⟩)) ⟨Nat.zero_le _, (fun f hf => by simp at hf), hN3, e3⟩ ?_
  rintro ⟨i, vs⟩ w4 ⟨hi, hev, hN, e4⟩
  dsimp only at hi hev hN ⊢
  have hE4 := hE.trans e4
  have hN4 := hN
  have hsz : w2.heap.size < w4.heap.size := (hN.out.lt _ rfl).2.1
  (repeat (first | (apply WL.pure; rfl; rfl; rfl) | (apply WL.nil) | (apply EX.thenN) | (apply CW.seq) | (apply CW.region)))
  refine CW.cond rfl (fun h => ?_) (fun h => ?_)
  · have hi' : i < fl.length := by simp at h; omega
    have hbad : flowOdd ns.length fl[i] = true → (if fl.any (flowOdd ns.length) = true then (1 : Int) else if (startsL ns ns.length).length ≠ 1 then 1 else if (List.range ns.length).any (badCount (ns, fl)) = true then 1 else chkR (ns, fl)) = 1 := fun hb => by
      rw [if_pos (List.any_eq_true.2 ⟨_, List.getElem_mem hi', hb⟩)]
    (repeat (first | (apply EX.thenN) | (apply CW.seq) | (apply CW.region) | (apply CW.block) | (apply CW.skip)))
    refine WL.elemN rfl rfl rfl rfl rfl (hf.at hE4) hi' (fun _ => rfl) (fun u q hu => ?_)
    obtain rfl := hu.flow
    skip
    refine WL.alloc rfl rfl (fun w5 hb6 e5 => ?_)
    skip
    refine WL.st rfl rfl rfl hb6 rfl rfl (ones_of rfl) (fun w6 hb6 hg6 => ?_)
    have e6 : Ext w4 w6 := e5.grown hg6 e5.size (fun g hg => by cases hg; exact Nat.le_refl _)
    have hN := hN.ext e6
    have hE6 := hE4.trans e6
    have e26 := e4.trans e6
    (repeat (first | (apply WL.pure; rfl; rfl; rfl) | (apply WL.nil) | (apply EX.thenN) | (apply CW.seq) | (apply CW.region) | (apply WL.fa; rfl; rfl; rfl) | (apply WL.ld; rfl; rfl; rfl; assumption; rfl)))
    by_cases d1 : decide (fl[i].1 < 0) = true
    · rw [d1]
      (repeat (first | (apply WL.pure; rfl; rfl; rfl) | (apply WL.nil) | (apply EX.thenN) | (apply CW.seq) | (apply CW.region) | (apply WL.pass; rfl; rfl) | (apply CW.condT; rfl) | (apply CW.ret) | (apply EX.thenR) | (apply EX.inR)))
      refine EX.ret1 rfl rfl ⟨?_, hE6⟩
      rw [hbad (by unfold flowOdd; rw [d1]; rfl)]
    have d1 : decide (fl[i].1 < 0) = false := by simpa using d1
    rw [d1]
    (repeat (first | (apply WL.pure; rfl; rfl; rfl) | (apply WL.lenS; rfl; rfl; rfl) | (apply WL.fa; rfl; rfl; rfl) | (apply WL.ld; rfl; rfl; rfl; assumption; rfl)))
    by_cases d2 : decide (fl[i].1 ≥ (ns.length : Int)) = true
    · rw [d2]
      (repeat (first | (apply WL.pure; rfl; rfl; rfl) | (apply WL.nil) | (apply EX.thenN) | (apply CW.seq) | (apply CW.region) | (apply WL.pass; rfl; rfl) | (apply CW.condT; rfl) | (apply CW.ret) | (apply EX.thenR) | (apply EX.inR)))
      refine EX.ret1 rfl rfl ⟨?_, hE6⟩
      rw [hbad (by unfold flowOdd; rw [d1, d2]; rfl)]
    have d2 : decide (fl[i].1 ≥ (ns.length : Int)) = false := by simpa using d2
    rw [d2]
    (repeat (first | (apply WL.pure; rfl; rfl; rfl) | (apply WL.fa; rfl; rfl; rfl) | (apply WL.ld; rfl; rfl; rfl; assumption; rfl)))
    by_cases d3 : decide (fl[i].2 < 0) = true
    · rw [d3]
      (repeat (first | (apply WL.pure; rfl; rfl; rfl) | (apply WL.nil) | (apply EX.thenN) | (apply CW.seq) | (apply CW.region) | (apply WL.pass; rfl; rfl) | (apply CW.condT; rfl) | (apply CW.ret) | (apply EX.thenR) | (apply EX.inR)))
      refine EX.ret1 rfl rfl ⟨?_, hE6⟩
      rw [hbad (by unfold flowOdd; rw [d1, d2, d3]; rfl)]
    have d3 : decide (fl[i].2 < 0) = false := by simpa using d3
    rw [d3]
    (repeat (first | (apply WL.pure; rfl; rfl; rfl) | (apply WL.nil) | (apply EX.thenN) | (apply WL.lenS; rfl; rfl; rfl) | (apply WL.fa; rfl; rfl; rfl) | (apply WL.ld; rfl; rfl; rfl; assumption; rfl)))
    refine CW.cond rfl (fun d4 => ?_) (fun d4 => ?_)
    · (repeat (first | (apply WL.pure; rfl; rfl; rfl) | (apply WL.nil) | (apply EX.thenN) | (apply CW.seq) | (apply CW.region) | (apply CW.ret) | (apply EX.thenR) | (apply EX.inR)))
      refine EX.ret1 rfl rfl ⟨?_, hE6⟩
      rw [hbad (by unfold flowOdd; rw [d1, d2, d3, d4]; rfl)]
    have hgd : flowOdd ns.length fl[i] = false := by unfold flowOdd; rw [d1, d2, d3, d4]; rfl
    simp at d1 d2 d3 d4
    obtain ⟨a, ea⟩ := Int.eq_ofNat_of_zero_le d1
    have han : a < ns.length := by omega
    have hfi : fl[i] = ((a : Int), fl[i].2) := by rw [← ea]
    have hnext := flowsP_next hi' hfi han
    have hlen := hN.len
    rw [flowsP_len] at hlen
    have hav : a < vs.length := by omega
    have hd := Ext.drew w6
    have hNd := hN.ext hd
    have hb6d := hb6.ext hd
    have hin := hNd.inn a hav (by rw [flowsP_len]; exact han)
    rw [flowsP_get han] at hin
    have hrl : (((fl.take i).filter fun f => f.1 == (a : Int)).map (·.2)).length ≤ 30 := by
      rw [List.length_map]; exact Nat.le_trans (List.length_filter_le _ _) (by rw [List.length_take]; omega)
    obtain ⟨oo, oc, hov, hout⟩ := hNd.out.slF (F' := fun b => b = w2.heap.size) (fun _ h => h.elim) (fun g hg => by cases hg; rfl)
    obtain ⟨rfl, _, rfl⟩ := Value.slice.inj hov
    rw [← hlen] at hout
    have hsz6 := e6.size
    have hszd := hd.size
    have hl6 := hb6.lt
    rw [ea] at hb6d
    (repeat (first | (apply EX.thenN) | (apply CW.skip)))
    have hK : ∀ z, (fun z : World => ∀ b, b = w2.heap.size ∨ b = w4.heap.size → z.heap[b]? = (drew w6).heap[b]?) z → z.heap[w4.heap.size]? = (drew w6).heap[w4.heap.size]? := fun z hz => hz _ (.inr rfl)
    refine CW.drawE (fun z : World => ∀ b, b = w2.heap.size ∨ b = w4.heap.size → z.heap[b]? = (drew w6).heap[b]?) [(0, true), (1, true), (2, true), (3, true), (4, true), (5, true), (6, true), (7, true), (8, true), (9, true), (10, false), (11, false), (12, true)] 13 mixed (by kernel_rfl) (fun _ _ => rfl) ?_
    (repeat (first | (apply HL.pure; rfl; rfl; rfl; rfl) | (refine HL.fa rfl rfl rfl rfl ?_) | (refine HL.ldK (by assumption) rfl rfl rfl rfl (by assumption) rfl ?_)))
    rw [← hlen]
    refine HL.elemK (w := drew w6) (F := fun b => b = w2.heap.size) (fun z hz b hb => hz b (.inl hb)) rfl rfl rfl rfl rfl rfl rfl hout hav (fun _ => rfl) (fun u q hu => ?_)
    obtain ⟨rfl, _⟩ := hu.raw
    rw [hlen]
    (repeat (first | (refine HL.fa rfl rfl rfl rfl ?_) | (refine HL.ldK (by assumption) rfl rfl rfl rfl (by assumption) rfl ?_)))
    refine HL.app1 (bytes := 8) rfl rfl rfl rfl (fun _ => rfl) rfl rfl (fun _ => rfl) hin (Rd.mkInt _ _ _) (by omega) (fun _ h => h.elim) (by decide) (by unfold maxLen; omega) (by omega)
      (fun z hz b hb => hz.block b (by omega) (fun e => ?_)) (fun v' w7 p ho7 hg7 hnb => ?_)
    · rcases hb with rfl | rfl
      · exact hNd.dio a hav _ e.symm rfl
      · exact absurd ((hN4.inn a hav (by rw [flowsP_len]; exact han)).lt _ e.symm).2.1 (Nat.lt_irrefl _)
    rw [hfi] at ho7
    have hmid := hNd.mid hav hg7
    skip
    refine HL.setTail (yv := (⟨v'⟩ : Raw)) rfl rfl rfl rfl rfl rfl hmid hav (fun _ => rfl) (fun _ => rfl) (Rd.mkRaw _ _ _ ?_) (fun w8 q ho8 hg8 => ?_)
    · obtain ⟨a, b, rfl⟩ := ho7.val; rfl
    have hN8 := hNd.set hav ho7 hg7 hnb ho8 hg8
    rw [hnext] at hN8
    have e26d := e26.trans hd
    have e8 : Ext w2 w8 := (e26d.grown hg7 e26d.size (fun b hb => (hin.lt b hb).1)).grown hg8 (Nat.le_trans e26d.size hg7.size) (fun b hb => (hNd.out.lt b hb).1)
    (repeat (first | (apply WL.add; rfl; rfl; rfl; rfl; omega; omega) | (apply WL.pure; rfl; rfl; rfl) | (apply WL.nil) | (apply EX.thenN) | (apply CW.region) | (apply EX.inN)))
    refine EX.back (i + 1, vs.set a ⟨v'⟩) (by repeat (first | exact trivial | refine ⟨rfl, ?_⟩)) ⟨hi', fun f hf' => ?_, hN8, e8⟩ (by dsimp only; omega)
    dsimp only at hf'
    rw [← List.take_append_getElem hi'] at hf'
    rcases List.mem_append.1 hf' with h1 | h1
    · exact hev f h1
    · rw [List.mem_singleton] at h1; subst h1; exact hgd
  obtain rfl : i = fl.length := by simp at h; omega
  rw [List.take_length] at hev
  have hany : fl.any (flowOdd ns.length) = false := List.any_eq_false.2 (fun f hf => by simp [hev f hf])
  have hfok : ∀ f ∈ fl, 0 ≤ f.1 ∧ f.1 < ns.length ∧ 0 ≤ f.2 ∧ f.2 < ns.length := fun f hf => by
    have := hev f hf
    unfold flowOdd at this
    simp at this
    omega
  rw [if_neg (by rw [hany]; simp)]
  have hgG : flowsP ns.length fl fl.length = flowsG ns.length fl := by unfold flowsP; rw [List.take_length]
  rw [hgG] at hN
  have hgl : (flowsG ns.length fl).length = ns.length := by simp [flowsG]
  have hgok : okG (flowsG ns.length fl) := by
    intro r hr x hx
    rw [hgl]
    obtain ⟨k, _, rfl⟩ := List.mem_map.1 hr
    obtain ⟨f, hf, rfl⟩ := List.mem_map.1 hx
    exact (hfok f (List.mem_filter.1 hf).1).2.2
  have hge := flowsG_edges (n := ns.length) (fl := fl)
  have hge2 : ns.length * fl.length ≤ 20 * 30 := Nat.mul_le_mul c1 c2
  obtain ⟨go, gc, hgv, hg⟩ := hN.old.sl
  rw [hgl] at hgv
  obtain ⟨rfl, _, rfl⟩ := Value.slice.inj hgv
  have hb14 := hb1.ext e4
  clear h hi hev hN hN4 hN3 hany hgv
  (repeat (first | (apply WL.pure; rfl; rfl; rfl) | (apply WL.nil) | (apply EX.thenN) | (apply CW.seq) | (apply CW.region) | (apply WL.lenS; rfl; rfl; rfl) | (apply WL.fa; rfl; rfl; rfl) | (apply WL.ld; rfl; rfl; rfl; assumption; rfl) | (apply CW.block) | (apply CW.exit) | (apply EX.thenX) | (apply EX.inX)))
  refine CW.loop (S := Nat) (fun i => [(1, .pointer (some ⟨w0.heap.size, 0, none⟩)), (4, .slice (some ⟨w2.heap.size, 0, none⟩) ns.length ns.length), (7, .int .i64 (lastI (startsL ns i))), (8, .int .i64 ((startsL ns i).length : Int)), (78, .slice so ns.length sc), (79, .int .i64 ns.length), (80, .int .i64 i)])
    (fun i w => i ≤ ns.length ∧ Ext w4 w) (fun i => ns.length - i) 0 (by repeat (first | exact trivial | refine ⟨rfl, ?_⟩)) ⟨by omega, Ext.refl _⟩ ?_
  rintro i w5 ⟨hi, e5⟩
  have hE5 := hE4.trans e5
  have hnext := startsL_next (ns := ns) (k := i)
  have hsl := startsL_len (ns := ns) (k := i)
  (repeat (first | (apply WL.pure; rfl; rfl; rfl) | (apply WL.nil) | (apply EX.thenN) | (apply CW.seq) | (apply CW.region)))
  refine CW.cond rfl (fun h => ?_) (fun h => ?_)
  · have hi' : i < ns.length := by simp at h; omega
    rw [getDNd_at hi'] at hnext
    (repeat (first | (apply WL.pure; rfl; rfl; rfl) | (apply EX.thenN) | (apply CW.seq) | (apply CW.region) | (apply CW.block) | (apply CW.skip)))
    refine WL.elemN rfl rfl rfl rfl rfl (hs.at hE5) hi' (fun _ => rfl) (fun u q hu => ?_)
    obtain rfl := hu.node
    skip
    refine WL.alloc rfl rfl (fun w6 hb10 e6 => ?_)
    (repeat (apply WL.pure; rfl; rfl; rfl))
    refine WL.st rfl rfl rfl hb10 rfl rfl (ones_of rfl) (fun w7 hb10 hg7 => ?_)
    have e7 : Ext w5 w7 := e6.grown hg7 e6.size (fun g hg => by cases hg; exact Nat.le_refl _)
    (repeat (first | (apply WL.pure; rfl; rfl; rfl) | (apply WL.nil) | (apply EX.thenN) | (apply CW.seq) | (apply CW.region) | (apply WL.fa; rfl; rfl; rfl) | (apply WL.ld; rfl; rfl; rfl; assumption; rfl)))
    refine CW.cond rfl (fun h2 => ?_) (fun h2 => ?_)
    · rw [if_pos h2] at hnext
      have hn1 : ((startsL ns i).length : Int) + 1 = ((startsL ns (i + 1)).length : Int) := by rw [hnext]; simp
      have hn2 : (i : Int) = lastI (startsL ns (i + 1)) := by rw [hnext]; simp [lastI]
      (repeat (first | (apply WL.add; rfl; rfl; rfl; rfl; omega; omega) | (apply WL.pure; rfl; rfl; rfl) | (apply WL.nil) | (apply EX.thenN) | (apply CW.seq) | (apply CW.region) | (apply EX.inN)))
      refine EX.back (i + 1) ⟨rfl, rfl, ?_, ?_, rfl, rfl, rfl, trivial⟩ ⟨hi', e5.trans e7⟩ (by omega)
      · rw [← hn2]; rfl
      · rw [← hn1]; rfl
    · rw [if_neg (by rw [h2]; simp), List.append_nil] at hnext
      (repeat (first | (apply WL.add; rfl; rfl; rfl; rfl; omega; omega) | (apply WL.pure; rfl; rfl; rfl) | (apply WL.nil) | (apply EX.thenN) | (apply CW.region) | (apply EX.inN) | (apply CW.skip)))
      refine EX.back (i + 1) ?_ ⟨hi', e5.trans e7⟩ (by omega)
      rw [hnext]; exact (by repeat (first | exact trivial | refine ⟨rfl, ?_⟩))
  obtain rfl : i = ns.length := by simp at h; omega
  have hb15 := hb14.ext e5
  clear h hi hnext
  (repeat (first | (apply WL.pure; rfl; rfl; rfl) | (apply WL.nil) | (apply EX.thenN) | (apply CW.seq) | (apply CW.region) | (apply CW.exit) | (apply EX.thenX) | (apply EX.inX)))
  refine CW.cond rfl (fun h => ?_) (fun h => ?_)
  · have h : (startsL ns ns.length).length ≠ 1 := by simp at h; omega
    (repeat (first | (apply WL.pure; rfl; rfl; rfl) | (apply WL.nil) | (apply EX.thenN) | (apply CW.seq) | (apply CW.region) | (apply CW.ret) | (apply EX.thenR)))
    refine EX.ret1 rfl rfl ⟨?_, hE5⟩
    rw [if_pos h]
  have h1 : (startsL ns ns.length).length = 1 := by simp at h; omega
  rw [if_neg (by omega)]
  obtain ⟨s, hs1⟩ := List.length_eq_one_iff.1 h1
  have hsn : s < ns.length := by
    have : s ∈ startsL ns ns.length := by rw [hs1]; simp
    unfold startsL at this
    exact List.mem_range.1 (List.mem_filter.1 this).1
  rw [chkR_eq hs1, hs1]
  rw [show lastI [s] = (s : Int) from rfl]
  clear h
  (repeat (first | (apply WL.pure; rfl; rfl; rfl) | (apply WL.nil) | (apply EX.thenN) | (apply CW.seq) | (apply CW.region) | (apply WL.lenS; rfl; rfl; rfl) | (apply WL.fa; rfl; rfl; rfl) | (apply WL.ld; rfl; rfl; rfl; assumption; rfl) | (apply CW.block) | (apply CW.skip)))
  refine CW.loop (S := Nat) (fun i => [(1, .pointer (some ⟨w0.heap.size, 0, none⟩)), (4, .slice (some ⟨w2.heap.size, 0, none⟩) ns.length ns.length), (7, .int .i64 (s : Int)), (95, .slice so ns.length sc), (96, .int .i64 ns.length), (97, .int .i64 i)])
    (fun i w => i ≤ ns.length ∧ Ext w5 w ∧ ∀ j, j < i → badCount (ns, fl) j = false) (fun i => ns.length - i) 0 (by repeat (first | exact trivial | refine ⟨rfl, ?_⟩)) ⟨by omega, Ext.refl _, by omega⟩ ?_
  rintro i w6 ⟨hi, e6, hno⟩
  have hE6 := hE5.trans e6
  have hb16 := hb15.ext e6
  (repeat (first | (apply WL.pure; rfl; rfl; rfl) | (apply WL.nil) | (apply EX.thenN) | (apply CW.seq) | (apply CW.region)))
  refine CW.cond rfl (fun h => ?_) (fun h => ?_)
  · have hi' : i < ns.length := by simp at h; omega
    have hnd := getDNd_at hi'
    (repeat (first | (apply WL.pure; rfl; rfl; rfl) | (apply EX.thenN) | (apply CW.seq) | (apply CW.region) | (apply CW.block) | (apply CW.skip)))
    refine WL.elemN rfl rfl rfl rfl rfl (hs.at hE6) hi' (fun _ => rfl) (fun u q hu => ?_)
    obtain rfl := hu.node
    skip
    refine WL.alloc rfl rfl (fun w7 hb12 e7 => ?_)
    (repeat (apply WL.pure; rfl; rfl; rfl))
    refine WL.st rfl rfl rfl hb12 rfl rfl (ones_of rfl) (fun w8 hb12 hg8 => ?_)
    have e8 : Ext w6 w8 := e7.grown hg8 e7.size (fun g hg => by cases hg; exact Nat.le_refl _)
    have hb18 := hb16.ext e8
    have hE8 := hE6.trans e8
    have hd := Ext.drew w8
    have hSE : ∀ x, (fun x => Ext w8 x) x → Ext w8 x := fun _ h => h
    have hb12d := hb12
    (repeat (first | (apply WL.nil) | (apply EX.thenN) | (apply CW.seq)))
    refine CW.drawH (fun x => Ext w8 x) [(0, true), (1, true), (2, true), (3, true), (6, true), (7, true), (4, false), (5, true), (8, false), (9, true), (10, false), (11, true)] mixed (by kernel_rfl) (Ext.drew w8) ?_
    (repeat (first | (apply HL.pure; rfl; rfl; rfl; rfl) | (refine HL.fa rfl rfl rfl rfl ?_) | (refine HL.ld (by assumption) rfl rfl rfl rfl (by assumption) rfl ?_) | (refine HL.ldA (by assumption) rfl rfl rfl rfl (by assumption) rfl ?_)))
    refine HL.mut rfl (WL.call rfl rfl rfl (ins_ok (drew w8) (hf.up (hE8.trans hd)) (i : Int) (by omega)) ?_)
    rintro iv w9 ⟨hoi, e9⟩
    have hT9 := hd.trans e9
    obtain ⟨iao, ica, rfl⟩ := hoi.val
    refine WL.nil (EX.mut hT9 ?_)
    (repeat (refine HL.lenS rfl rfl rfl rfl ?_))
    refine HL.mut rfl (WL.call rfl rfl rfl (outs_ok w9 (hf.up (hE8.trans hT9)) (i : Int) (by omega)) ?_)
    rintro ov w10 ⟨hoo, e10⟩
    have hT10 := hT9.trans e10
    obtain ⟨oao, oca, rfl⟩ := hoo.val
    refine WL.nil (EX.mut hT10 ?_)
    (repeat (refine HL.lenS rfl rfl rfl rfl ?_))
    refine HL.mut rfl (WL.call rfl rfl rfl (counts_ok w10 ns[i].2 (insL fl (i : Int)).length (outsL fl (i : Int)).length) ?_)
    rintro _ _ ⟨rfl, rfl⟩
    refine WL.nil (EX.mut hT10 ?_)
    have hbc : badCount (ns, fl) i = !countsB ns[i].2 (insL fl (i : Int)).length (outsL fl (i : Int)).length := by unfold badCount; rw [hnd]
    (repeat (first | (apply HL.pure; rfl; rfl; rfl; rfl) | (apply HL.nil)))
    (repeat (apply EX.thenN))
    refine CW.cond rfl (fun h2 => ?_) (fun h2 => ?_)
    · (repeat (first | (apply WL.pure; rfl; rfl; rfl) | (apply WL.nil) | (apply EX.thenN) | (apply CW.seq) | (apply CW.region) | (apply CW.ret) | (apply EX.thenR) | (apply EX.inR)))
      refine EX.ret1 rfl rfl ⟨?_, hE8.trans hT10⟩
      rw [if_pos (List.any_eq_true.2 ⟨i, List.mem_range.2 hi', by rw [hbc]; exact h2⟩)]
    · (repeat (first | (apply WL.add; rfl; rfl; rfl; rfl; omega; omega) | (apply WL.pure; rfl; rfl; rfl) | (apply WL.nil) | (apply EX.thenN) | (apply CW.region) | (apply EX.inN) | (apply CW.skip)))
      refine EX.back (i + 1) (by repeat (first | exact trivial | refine ⟨rfl, ?_⟩)) ⟨hi', (e6.trans e8).trans hT10, fun j hj => ?_⟩ (by omega)
      by_cases e : j = i
      · subst e; rw [hbc]; exact h2
      · exact hno j (by omega)
  obtain rfl : i = ns.length := by simp at h; omega
  have hany : (List.range ns.length).any (badCount (ns, fl)) = false := List.any_eq_false.2 (fun j hj => by simp [hno j (List.mem_range.1 hj)])
  rw [if_neg (by rw [hany]; simp)]
  clear h hi hno
  have hg6 := hg.up (e5.trans e6)
  (repeat (first | (apply WL.pure; rfl; rfl; rfl) | (apply EX.thenN) | (apply CW.seq) | (apply CW.region) | (apply CW.exit) | (apply EX.thenX) | (apply EX.inX)))
  refine WL.litR [(s : Int)] rfl rfl rfl rfl rfl (.cons (Rd.mkInt _ _ _) .nil) (by show 1 * 1 ≤ 16777216; decide) (fun v7 w7 e7 r7 _ => ?_)
  obtain ⟨lo, lc, rfl, hls⟩ := r7.sl
  have hsok : okL (flowsG ns.length fl).length [(s : Int)] := fun x hx => by rw [List.mem_singleton] at hx; subst hx; rw [hgl]; omega
  have hrF := reachF_of hgok hsok (by omega)
  rw [← hgl]
  have hRR := Reach_ok w7 (hg6.up e7) hls (by simp only [List.length_singleton]; omega)
  rw [hrF, hgl] at hRR
  rw [hgl]
  skip
  refine WL.call rfl rfl rfl hRR ?_
  rintro _ w8 ⟨rv, rfl, hor, e8⟩
  obtain ⟨ro, rc, rfl, hrs⟩ := hor.oldN.sl
  (repeat (first | (apply WL.pure; rfl; rfl; rfl) | (apply WL.nil) | (apply EX.thenN) | (apply CW.seq) | (apply CW.region)))
  refine WL.call rfl rfl rfl (contains_bool w8 false hrs) ?_
  rintro _ w9 ⟨rfl, e9⟩
  have hE9 := ((hE6.trans e7).trans e8).trans e9
  (repeat (first | (apply WL.nil) | (apply EX.thenN)))
  refine CW.cond rfl (fun h2 => ?_) (fun h2 => ?_)
  · (repeat (first | (apply WL.pure; rfl; rfl; rfl) | (apply WL.nil) | (apply EX.thenN) | (apply CW.seq) | (apply CW.region) | (apply CW.ret) | (apply EX.thenR)))
    refine EX.ret1 rfl rfl ⟨?_, hE9⟩
    rw [if_pos h2]
  · (repeat (first | (apply WL.pure; rfl; rfl; rfl) | (apply WL.nil) | (apply EX.thenN) | (apply CW.seq) | (apply CW.region) | (apply CW.ret) | (apply CW.skip)))
    refine EX.ret1 rfl rfl ⟨?_, hE9⟩
    rw [if_neg (by rw [h2]; simp)]
end Go.Proofs.Ytljcnopekjinjaa
/-
  Literals all of whose blocks are new.
-/
set_option linter.unusedVariables false
set_option linter.unusedSimpArgs false
namespace Go.Proofs.Ytljcnopekjinjaa
open Go.RowKit

/-- the blocks from c on -/
def From (c : Nat) (w : World) : Nat → Prop := fun b => c ≤ b ∧ b < w.heap.size
theorem Rd.upF {α : Type} [Rep α] {w w' : World} {c : Nat} {v : Value} {x : α} (h : Rd w (From c w) v x) (hE : Ext w w') : Rd w' (From c w') v x := h.mono (fun b hb => hE.block b hb.2) fun b hb => ⟨hb.1, Nat.lt_of_lt_of_le hb.2 hE.size⟩
section
variable {P : Program} {Q : Exit → Act → World → Prop} {n : Nat} {σ : Sg} {w : World} {L rest : List Oper} {d : Nat} {ty : TypeId} {pos : String} {af : Array Edge} {g : Option (Nat × Bool)}
variable {α : Type} [Rep α] {e t : TypeId} {x0 : α} {bytes : Nat}
theorem WL.litF (c : Nat) (hc : c ≤ w.heap.size) {len : Nat} {parts : List (Nat × Operand)} {vs : List Value} (ys : List α) (hg : gd L σ ⟨some d, .buildSlice t len parts.toArray, ty, pos, af, g⟩ = some true) (hd : Nat.ble (d + 1) n = true)
    (hp : idxL 0 (sndL parts) = parts) (hv : evs σ (sndL parts) = some vs) [hs : IsS P t e] [ht : IsT P e α] [hz : IsZ P e x0 bytes] (hlen : len = ys.length) (hr : RdAll w (From c w) vs ys) (hsz : ys.length * sz α ≤ 16777216)
    (h : ∀ v w', Ext w w' → Rd w' (From c w') v ys → WL P L Q rest n ((d, v) :: σ) w') :
    WL P L Q (⟨some d, .buildSlice t len parts.toArray, ty, pos, af, g⟩ :: rest) n σ w :=
  WL.lit hg hd hp hv hlen hr hsz (fun b h => h.2) fun w' ho hgr => by
    have hE : Ext w w' := (Below.refl _ _).grown hgr (Nat.le_refl _) (fun k h => by cases h)
    refine h _ w' hE (ho.rd.mono (fun _ _ => rfl) fun b hb => ?_)
    rcases hb with hb | hb
    · exact ⟨hb.1, Nat.lt_of_lt_of_le hb.2 hE.size⟩
    · have := ho.lt b hb; exact ⟨by omega, this.2.1⟩
end
end Go.Proofs.Ytljcnopekjinjaa
/-
  Results that lie in a variable; slices that are read, later on; slices cut with their capacity. Over any program.
-/
set_option linter.unusedVariables false
set_option linter.unusedSimpArgs false
namespace Go.Proofs.Ytljcnopekjinjaa
open Go.RowKit

theorem results_cell {fn : Func} {a : Nat} {t : TypeId} (h : fn.results = #[.cell a t]) (tmps : Array Value) (P : Program) (w : World) {p : Addr} {v : Value} (ha : tmps.getD a undef = .pointer (some p)) (hl : (loadVar t p).run P w = .ok v w) :
    (results fn tmps).run P w = .ok v w := by
  simp only [Array.getD_eq_getD_getElem?] at ha
  simp [results, h, ha, asAddr, hl]
theorem EX.retC {P : Program} {n : Nat} {σ : Sg} {w : World} {fn : Func} {a b : Nat} {t e : TypeId} {cells : List Value} {k : Nat} {R : Value → World → Prop} (hr : fn.results = #[.cell a t]) (ha : fnd σ a = some (.pointer (some ⟨b, 0, none⟩))) [hc : IsC P t k true] (hb : Blk w b e cells) (hk : lenL cells = k) (h : R (.agg cells.toArray) w) :
    EX (bodyPost P fn fun e w' => ∃ v, e = .returned v ∧ R v w') .ret n σ w := by
  unfold EX; intro ac hac
  refine bodyPost_ret (results_cell hr _ _ _ (hac.slot a _ ha) (v := .agg cells.toArray) ?_) hac.defers ⟨_, rfl, h⟩
  rw [lenL_eq] at hk
  have hld := run_loadCells_list (P := P) w ⟨b, 0, none⟩ cells (fun j u hu => by rw [WideShapes.add_plain, Nat.zero_add]; exact hb.cell hu)
  obtain ⟨i, dd, h1, h2, h3, h4⟩ := hc.ok
  have hagg : (isAgg t).run P w = .ok true w := by
    unfold isAgg
    rw [Sem.run_bind, run_underlying h3 w, ← h4]
    cases dd <;> rfl
  rw [hk] at hld
  simp [loadVar, hagg, sizeOf, typeInfo, h1, h2, hld]
theorem results_cell2 {fn : Func} {a u : Nat} {t : TypeId} (h : fn.results = #[.cell a t, .tmp u]) (tmps : Array Value) (P : Program) (w : World) {p : Addr} {v : Value} (ha : tmps.getD a undef = .pointer (some p)) (hl : (loadVar t p).run P w = .ok v w) :
    (results fn tmps).run P w = .ok (.tuple ⟨[v, tmps.getD u undef]⟩) w := by
  simp only [Array.getD_eq_getD_getElem?] at ha ⊢
  simp [results, h, ha, asAddr, hl]
theorem EX.retC2 {P : Program} {n : Nat} {σ : Sg} {w : World} {fn : Func} {a b u : Nat} {t e : TypeId} {cells : List Value} {k : Nat} {x : Value} {R : Value → World → Prop} (hr : fn.results = #[.cell a t, .tmp u]) (ha : fnd σ a = some (.pointer (some ⟨b, 0, none⟩))) (hu : fnd σ u = some x) [hc : IsC P t k true] (hb : Blk w b e cells) (hk : lenL cells = k) (h : R (.tuple ⟨[.agg cells.toArray, x]⟩) w) :
    EX (bodyPost P fn fun e w' => ∃ v, e = .returned v ∧ R v w') .ret n σ w := by
  unfold EX; intro ac hac
  refine bodyPost_ret (results_cell2 hr _ _ _ (hac.slot a _ ha) (v := .agg cells.toArray) ?_) hac.defers ⟨_, by rw [hac.slot u x hu], h⟩
  rw [lenL_eq] at hk
  have hld := run_loadCells_list (P := P) w ⟨b, 0, none⟩ cells (fun j u hu => by rw [WideShapes.add_plain, Nat.zero_add]; exact hb.cell hu)
  obtain ⟨i, dd, h1, h2, h3, h4⟩ := hc.ok
  have hagg : (isAgg t).run P w = .ok true w := by
    unfold isAgg
    rw [Sem.run_bind, run_underlying h3 w, ← h4]
    cases dd <;> rfl
  rw [hk] at hld
  simp [loadVar, hagg, sizeOf, typeInfo, h1, h2, hld]
theorem Sl.zero {α : Type} [Rep α] (w : World) (F : Nat → Prop) : Sl w F none 0 ([] : List α) := ⟨by simp, by simp [maxLen], fun _ => rfl, fun i hi => absurd hi (by simp)⟩
theorem Sl.up0 {α : Type} [Rep α] {w w' : World} {F : Nat → Prop} {ao : Option Addr} {cap : Nat} {xs : List α} (h : Sl w F ao cap xs) (hE : Ext w w') (hF : ∀ b, F b → b < w.heap.size) : Sl w' F ao cap xs := h.mono (fun b hb => hE.block b (hF b hb)) fun _ h => h
section
variable {P : Program} {Q : Exit → Act → World → Prop} {n : Nat} {σ : Sg} {w : World} {L rest : List Oper} {d : Nat} {ty : TypeId} {pos : String} {af : Array Edge} {g : Option (Nat × Bool)} {t e : TypeId} {α : Type} [Rep α] {F : Nat → Prop}
theorem run_cut3 {ao : Option Addr} {len cap k : Nat} {k1 k2 : IntKind} (w : World) [hs : IsS P t e] [ht : IsT P e α] (h : k ≤ cap) :
    (Instr.sliceAt t (.slice ao len cap) none (some (.int k1 (k : Int))) (some (.int k2 (k : Int)))).run P w = .ok (.slice ao k k) w := by
  have a2 : (k : Int) ≤ (cap : Int) := by omega
  have a3 : (0 : Int) ≤ (k : Int) := by omega
  simp only [Instr.sliceAt, Sem.run_bind, run_underlying hs.ok, Result.andThen_ok, Instr.slice, Instr.sliceBounds]
  simp [run_sizeOf (α := α), Instr.sliceBound, asIntOf, h, Addr.add_zero']
/-- x[:k:k] -/
theorem WL.cut3O {x y z : Operand} {v : Value} {xs : List α} {B : Nat} {k1 k2 : IntKind} {k : Nat} (hg : gd L σ ⟨some d, .slice t x none (some y) (some z), ty, pos, af, g⟩ = some true) (hd : Nat.ble (d + 1) n = true)
    (hx : ev σ x = some v) (hy : ev σ y = some (.int k1 (k : Int))) (hz : ev σ z = some (.int k2 (k : Int))) [hs : IsS P t e] [ht : IsT P e α] (hown : Own w B e F v xs) (hk : k ≤ xs.length)
    (h : ∀ v', Own w B e F v' (xs.take k) → v'.ownBlock = v.ownBlock → WL P L Q rest n ((d, v') :: σ) w) : WL P L Q (⟨some d, .slice t x none (some y) (some z), ty, pos, af, g⟩ :: rest) n σ w := by
  obtain ⟨ao, cap, rfl⟩ := hown.val
  have hle := hown.le rfl
  refine WL.run (v := .slice ao k k) hg hd (fun a ha => ?_) (h _ ?_ (by cases ao <;> rfl))
  · have := run_cut3 (P := P) (t := t) (e := e) (α := α) (ao := ao) (len := xs.length) (cap := cap) (k := k) (k1 := k1) (k2 := k2) w (by omega)
    simp [execOp, ha.ev hx, ha.ev hy, ha.ev hz, this]
  · rcases hown with ⟨h1, rfl⟩ | ⟨g', off, cp, cur, h1, ho⟩
    · obtain ⟨rfl, _, rfl⟩ := Value.slice.inj h1
      have : k = 0 := by simpa using hk
      subst this
      exact .inl ⟨rfl, by simp⟩
    · obtain ⟨rfl, _, rfl⟩ := Value.slice.inj h1
      have hlen : (xs.take k).length = k := by rw [List.length_take]; omega
      have hmul : k * sz α ≤ cap * sz α := Nat.mul_le_mul_right _ (by omega)
      refine .inr ⟨g', off, k, cur, by rw [hlen], ⟨ho.blk, ho.ge, ho.nF, by omega, by have := ho.mx; omega, by have := ho.fit; omega, ?_⟩⟩
      have := ho.el.take k hk
      rw [List.take_take, Nat.min_eq_left (Nat.mul_le_mul_right _ hk)] at this
      rw [hlen]; exact this
end
end Go.Proofs.Ytljcnopekjinjaa
/-
  Package proc: Ins, Outs; watchkeep.straight: walked.
-/
set_option linter.unusedVariables false
set_option linter.unusedSimpArgs false
namespace Go.Proofs.Ytljcnopekjinjaa
open Go.RowKit

noncomputable def listE (p : LProc) (n : Int) : Int := if chkPr p ≠ 0 then chkPr p else if n < 0 ∨ n ≥ p.1.length then 1 else 0
theorem list_ok (w0 : World) {so fo : Option Addr} {sc fc : Nat} {ns : List LNode} {fl : List LFlow} (hs : Sl w0 (Old w0) so sc ns) (hf : Sl w0 (Old w0) fo fc fl) (n : Int) {fv : Value} (sel : List Int)
    (hfv : fl.length ≤ 30 → ∀ w, Ext w0 w → FnV Try.prog fv [procV so sc fo fc ns.length fl.length, .int .i64 n] w fun v w' => Own w' w.heap.size 3 Non v sel ∧ Ext w w') :
    Rt Try.prog 61 [procV so sc fo fc ns.length fl.length, .int .i64 n, fv].toArray w0 fun v w' => ∃ x, v = .tuple ⟨[x, .int .i64 (listE (ns, fl) n)]⟩ ∧ Own w' w0.heap.size 3 Non x (if listE (ns, fl) n = 0 then sel else []) ∧ Ext w0 w' := by
  have hms := hs.len63
  refine Rt.enter3 Try.func61 Try.ntmps61 rfl rfl ?_
  have hE := Ext.refl w0
  (repeat (first | (apply CW.seq) | (apply CW.region)))
  refine WL.boxB rfl rfl rfl fun w1 hb3 e1 => ?_
  have hE := hE.trans e1
  unfold listE
  dsimp only
  (repeat (first | (apply WL.pure; rfl; rfl; rfl) | (apply WL.nil) | (apply EX.thenN) | (apply CW.seq) | (apply CW.region) | (apply WL.ldA; rfl; rfl; rfl; assumption; rfl)))
  refine WL.call rfl rfl rfl (Check_pr w1 (hs.up hE) (hf.up hE)) ?_
  rintro _ w2 ⟨rfl, e2⟩
  have hb3 := hb3.ext e2
  have hE := hE.trans e2
  (repeat (first | (apply WL.pure; rfl; rfl; rfl) | (apply WL.nil) | (apply EX.thenN) | (apply CW.seq) | (apply CW.region)))
  refine CW.cond rfl (fun h => ?_) (fun h => ?_)
  · have h : chkPr (ns, fl) ≠ 0 := by simpa using h
    (repeat (first | (apply WL.pure; rfl; rfl; rfl) | (apply WL.nil) | (apply EX.thenN) | (apply CW.seq) | (apply CW.region) | (apply CW.ret) | (apply EX.thenR)))
    refine EX.ret2 rfl rfl rfl ⟨_, by rw [if_pos h], ?_, hE⟩
    rw [if_pos h, if_neg h]; exact Own.nil
  have h : chkPr (ns, fl) = 0 := by simpa using h
  have hok := chkPr_ok h
  rw [if_neg (by simp [h])]
  clear h
  (repeat (first | (apply WL.pure; rfl; rfl; rfl) | (apply EX.thenN) | (apply CW.seq) | (apply CW.region) | (apply CW.skip)))
  (refine WL.lookG rfl rfl (fun h => ?_) (fun h => ?_))
  · (repeat (first | (apply WL.pure; rfl; rfl; rfl) | (apply WL.nil) | (apply EX.thenN) | (apply CW.seq) | (apply CW.region) | (apply WL.pass; rfl; rfl) | (apply CW.condT; rfl) | (apply CW.ret) | (apply EX.thenR)))
    have e : (if n < 0 ∨ n ≥ (ns.length : Int) then (1 : Int) else 0) = 1 := if_pos (.inl (by simpa using h))
    exact EX.ret2 rfl rfl rfl ⟨_, by rw [e], by rw [e, if_neg (by decide)]; exact Own.nil, hE⟩
  have h1 : ¬ n < 0 := by simpa using h
  clear h
  (repeat (first | (apply WL.pure; rfl; rfl; rfl) | (apply WL.nil) | (apply EX.thenN) | (apply WL.lenS; rfl; rfl; rfl) | (apply WL.fa; rfl; rfl; rfl) | (apply WL.ld; rfl; rfl; rfl; assumption; rfl)))
  refine CW.cond rfl (fun h => ?_) (fun h => ?_)
  · have h : n ≥ ns.length := by simpa using h
    (repeat (first | (apply WL.pure; rfl; rfl; rfl) | (apply WL.nil) | (apply EX.thenN) | (apply CW.seq) | (apply CW.region) | (apply CW.ret) | (apply EX.thenR)))
    have e : (if n < 0 ∨ n ≥ (ns.length : Int) then (1 : Int) else 0) = 1 := if_pos (.inr h)
    exact EX.ret2 rfl rfl rfl ⟨_, by rw [e], by rw [e, if_neg (by decide)]; exact Own.nil, hE⟩
  have h2 : ¬ n ≥ ns.length := by simpa using h
  rw [if_neg (by omega), if_pos rfl]
  clear h
  (repeat (first | (apply WL.pure; rfl; rfl; rfl) | (apply EX.thenN) | (apply CW.seq) | (apply CW.region) | (apply WL.ldA; rfl; rfl; rfl; assumption; rfl) | (apply CW.skip)))
  refine WL.callF rfl rfl rfl rfl (hfv hok.f w2 hE) ?_
  rintro x w3 ⟨ho, e3⟩
  (repeat (first | (apply WL.pure; rfl; rfl; rfl) | (apply WL.nil) | (apply EX.thenN) | (apply CW.ret)))
  exact EX.ret2 rfl rfl rfl ⟨_, rfl, ho.low hE.size, hE.trans e3⟩
theorem Ins_ok (w0 : World) {so fo : Option Addr} {sc fc : Nat} {ns : List LNode} {fl : List LFlow} (hs : Sl w0 (Old w0) so sc ns) (hf : Sl w0 (Old w0) fo fc fl) (n : Int) :
    Rt Try.prog 94 [procV so sc fo fc ns.length fl.length, .int .i64 n].toArray w0 fun v w' => ∃ x, v = .tuple ⟨[x, .int .i64 (listE (ns, fl) n)]⟩ ∧ Own w' w0.heap.size 3 Non x (if listE (ns, fl) n = 0 then insL fl n else []) ∧ Ext w0 w' := by
  refine Rt.enter2 Try.func94 Try.ntmps94 rfl rfl ?_
  (repeat (first | (apply CW.seq) | (apply CW.region)))
  refine WL.boxB rfl rfl rfl fun w1 hb e1 => ?_
  (repeat (first | (apply WL.pure; rfl; rfl; rfl) | (apply WL.nil) | (apply EX.thenN) | (apply CW.seq) | (apply CW.region) | (apply WL.ldA; rfl; rfl; rfl; assumption; rfl)))
  refine WL.call rfl rfl rfl (list_ok w1 (hs.up e1) (hf.up e1) n (insL fl n) (fun hl w hw => FnV.mk (cs := []) (ins_ok w (hf.up (e1.trans hw)) n (by omega)))) ?_
  rintro _ w2 ⟨x, rfl, ho, e2⟩
  (repeat (first | (apply WL.pure; rfl; rfl; rfl) | (apply WL.nil) | (apply EX.thenN) | (apply CW.ret)))
  exact EX.ret2 rfl rfl rfl ⟨x, rfl, ho.low e1.size, e1.trans e2⟩
theorem Outs_ok (w0 : World) {so fo : Option Addr} {sc fc : Nat} {ns : List LNode} {fl : List LFlow} (hs : Sl w0 (Old w0) so sc ns) (hf : Sl w0 (Old w0) fo fc fl) (n : Int) :
    Rt Try.prog 26 [procV so sc fo fc ns.length fl.length, .int .i64 n].toArray w0 fun v w' => ∃ x, v = .tuple ⟨[x, .int .i64 (listE (ns, fl) n)]⟩ ∧ Own w' w0.heap.size 3 Non x (if listE (ns, fl) n = 0 then outsL fl n else []) ∧ Ext w0 w' := by
  refine Rt.enter2 Try.func26 Try.ntmps26 rfl rfl ?_
  (repeat (first | (apply CW.seq) | (apply CW.region)))
  refine WL.boxB rfl rfl rfl fun w1 hb e1 => ?_
  (repeat (first | (apply WL.pure; rfl; rfl; rfl) | (apply WL.nil) | (apply EX.thenN) | (apply CW.seq) | (apply CW.region) | (apply WL.ldA; rfl; rfl; rfl; assumption; rfl)))
  refine WL.call rfl rfl rfl (list_ok w1 (hs.up e1) (hf.up e1) n (outsL fl n) (fun hl w hw => FnV.mk (cs := []) (outs_ok w (hf.up (e1.trans hw)) n (by omega)))) ?_
  rintro _ w2 ⟨x, rfl, ho, e2⟩
  (repeat (first | (apply WL.pure; rfl; rfl; rfl) | (apply WL.nil) | (apply EX.thenN) | (apply CW.ret)))
  exact EX.ret2 rfl rfl rfl ⟨x, rfl, ho.low e1.size, e1.trans e2⟩
def straightP : LProc := ([(⟨#[97]⟩, 1), (⟨#[98]⟩, 4), (⟨#[99]⟩, 2)], [(0, 1), (1, 2)])
theorem rdNd (w : World) (F : Nat → Prop) (s : ByteArray) (k : Int) (h : s.size ≤ maxLen) : Rd w F (.agg [.string s, .int .i64 k].toArray) ((s, k) : LNode) := Rd.mkPr (c1 := [.string s]) (c2 := [.int .i64 k]) ⟨rfl, h⟩ (rd_mkInt _ _ _)
theorem rdFl (w : World) (F : Nat → Prop) (a b : Int) : Rd w F (.agg [.int .i64 a, .int .i64 b].toArray) ((a, b) : LFlow) := Rd.mkPr (c1 := [.int .i64 a]) (c2 := [.int .i64 b]) (rd_mkInt _ _ _) (rd_mkInt _ _ _)
theorem straight_ok (w0 : World) : Rt Try.prog 10 [].toArray w0 fun v w' => (∃ so sc fo fc, v = procV so sc fo fc 3 2 ∧ Sl w' (Old w') so sc straightP.1 ∧ Sl w' (Old w') fo fc straightP.2) ∧ Ext w0 w' := by
  refine Rt.enter0 Try.func10 Try.ntmps10 rfl ?_
  (repeat (first | (apply CW.seq) | (apply CW.region)))
  refine WL.alloc rfl rfl (fun w1 hb hE1 => ?_)
  have hc1 : w0.heap.size + 1 ≤ w1.heap.size := hb.lt
  generalize hcc : w0.heap.size + 1 = c at hc1
  (repeat (first | (apply WL.nil) | (apply EX.thenN) | (apply CW.seq) | (apply CW.region)))
  refine WL.build rfl rfl rfl rfl ?_
  refine WL.build rfl rfl rfl rfl ?_
  refine WL.build rfl rfl rfl rfl ?_
  refine WL.litF c (by omega) straightP.1 rfl rfl rfl rfl rfl (.cons (rdNd _ _ _ _ (by decide)) (.cons (rdNd _ _ _ _ (by decide)) (.cons (rdNd _ _ _ _ (by decide)) .nil))) (by decide) (fun v2 w2 e2 r2 => ?_)
  have z2 := e2.size
  refine WL.build rfl rfl rfl rfl ?_
  refine WL.build rfl rfl rfl rfl ?_
  refine WL.litF c (by omega) straightP.2 rfl rfl rfl rfl rfl (.cons (rdFl _ _ _ _) (.cons (rdFl _ _ _ _) .nil)) (by decide) (fun v3 w3 e3 r3 => ?_)
  have r2 := r2.upF e3
  have hb3 := hb.ext (e2.trans e3)
  have hE3 := hE1.trans (e2.trans e3)
  obtain ⟨a1, c1, rfl, s1⟩ := r2.sl
  obtain ⟨a2, c2, rfl, s2⟩ := r3.sl
  refine WL.build rfl rfl rfl rfl ?_
  skip
  refine WL.st rfl rfl rfl hb3 rfl rfl (ones_of rfl) (fun w4 hb4 hg4 => ?_)
  have hE4 : Ext w0 w4 := hE3.grown hg4 hE3.size (fun g hg => by cases hg; exact Nat.le_refl _)
  have hF : ∀ b, From c w3 b → w4.heap[b]? = w3.heap[b]? := fun b hb => hg4.block b hb.2 (fun e => by cases e; have := hb.1; omega)
  have hO : ∀ b, From c w3 b → Old w4 b := fun b hb => Nat.lt_of_lt_of_le hb.2 hg4.size
  (repeat (first | (apply WL.nil) | (apply EX.thenN) | (apply CW.ret)))
  exact EX.retC rfl rfl hb4 rfl ⟨⟨a1, c1, a2, c2, rfl, s1.mono hF hO, s2.mono hF hO⟩, hE4⟩
theorem straight_chk : chkPr straightP = 0 := by
  have hst : startsL straightP.1 straightP.1.length = [0] := by decide
  have hok : okG (flowsG straightP.1.length straightP.2) := (chkG_ok (by decide : chkG (flowsG straightP.1.length straightP.2) = 0)).1
  have hR : chkR straightP = 0 := by
    have := chkR_eq (ns := straightP.1) (fl := straightP.2) hst
    rw [rchB_run hok (by intro x hx; simp at hx; subst hx; decide) 20 (by decide)] at this
    rw [show chkR straightP = chkR (straightP.1, straightP.2) from rfl, this]
    decide
  unfold chkPr
  rw [hR, if_neg (by decide), if_neg (by decide), if_neg (by decide), if_neg (by decide), if_neg (by decide)]
end Go.Proofs.Ytljcnopekjinjaa
/-
  Package steps: of, Of: walked.
-/
set_option linter.unusedVariables false
set_option linter.unusedSimpArgs false
namespace Go.Proofs.Ytljcnopekjinjaa
open Go.RowKit

theorem shl1W {s : Nat} (hs : s < 62) : IntKind.i64.wrap (1 * 2 ^ min ((s : Int)).toNat IntKind.i64.bits) = (2 : Int) ^ s := by
  have h1 : min s (IntKind.bits .i64) = s := by show min s 64 = s; omega
  have h2 := pow_lt2 (show s < 62 by omega)
  have h3 := pow_pos2 s
  simp only [Int.toNat_natCast, h1, Int.one_mul]
  rw [wrap_in (by omega) (by omega)]
theorem Cells.tl' {w : World} {b o : Nat} {x : Value} {r : List Value} (h : Cells w b o (x :: r)) : Cells w b (o + 1) r := fun j u hu => by
  have := h (j + 1) u (by simpa using hu)
  rwa [show o + (j + 1) = o + 1 + j by omega] at this
theorem Sl.nodeK {w : World} {F : Nat → Prop} {ao : Option Addr} {cap : Nat} {xs : List LNode} (h : Sl w F ao cap xs) {i : Nat} (hi : i < xs.length) : ∃ b off, ao = some ⟨b, off, none⟩ ∧ F b ∧ Cells w b (off + i * 2 + 1) [.int .i64 xs[i].2] := by
  obtain ⟨b, off, e, hb, es, hc, hr⟩ := h.el i hi
  obtain ⟨c1, c2, rfl, h1, h2⟩ := rd_pr hr
  have h1' := h1.1
  subst h1'
  rw [rd_int h2] at hc
  exact ⟨b, off, e, hb, hc.tl'⟩
theorem rdSt (w : World) (F : Nat → Prop) (a b c : Int) : Rd w F (.agg [.int .i64 a, .int .i64 b, .int .i64 c].toArray) ((a, b, c) : LStep) := Rd.mkPr (c1 := [.int .i64 a]) (c2 := [.int .i64 b, .int .i64 c]) (rd_mkInt _ _ _) (rd_mk (rd_mkInt _ _ _) (rd_mkInt _ _ _))
theorem take_map_next {α β : Type} (f : α → β) {l : List α} {i : Nat} (h : i < l.length) : (l.take (i + 1)).map f = (l.take i).map f ++ [f l[i]] := by
  rw [← List.take_append_getElem h, List.map_append]; rfl
instance iSteps1 : Flat LStep := ⟨fun h => h⟩
set_option maxHeartbeats 1000000 in
theorem of_ok (w0 : World) {so fo : Option Addr} {sc fc : Nat} {ns : List LNode} {fl : List LFlow} (hs : Sl w0 (Old w0) so sc ns) (hf : Sl w0 (Old w0) fo fc fl) (hc0 : chkPr (ns, fl) = 0) {n : Nat} (hn : n < ns.length) :
    Rt Try.prog 75 [procV so sc fo fc ns.length fl.length, .int .i64 (n : Int)].toArray w0 fun v w' => Own w' w0.heap.size 92 Non v (stepsN (ns, fl) n) ∧ Ext w0 w' := by
  have hok := chkPr_ok hc0
  have hf30 := hok.f
  dsimp only at hf30
  have hle : listE (ns, fl) (n : Int) = 0 := by
    unfold listE
    rw [if_neg (by simp [hc0]), if_neg (by dsimp only; omega)]
  have hkk : kindAt (ns, fl) n = ns[n].2 := by unfold kindAt; rw [getDNd_at hn]
  have h7 : ns[n].2 = 7 → (outsL fl (n : Int)).length ≤ 4 := fun h => okPr_outs hok hn (by rw [hkk]; exact h)
  have hil : (insL fl (n : Int)).length ≤ fl.length := insP_len
  have hol : (outsL fl (n : Int)).length ≤ fl.length := outsP_len
  have hstN : stepsN (ns, fl) n = stepsK ns[n].2 (n : Int) (insL fl (n : Int)) (outsL fl (n : Int)).length := by unfold stepsN; rw [hkk]
  rw [hstN]
  refine Rt.enter2 Try.func75 Try.ntmps75 rfl rfl ?_
  have hE := Ext.refl w0
  (repeat (first | (apply CW.seq) | (apply CW.region)))
  refine WL.boxB rfl rfl rfl fun w1 hb2 e1 => ?_
  have hE := hE.trans e1
  (repeat (first | (apply WL.pure; rfl; rfl; rfl) | (apply WL.nil) | (apply EX.thenN) | (apply CW.seq) | (apply CW.region) | (apply WL.ldA; rfl; rfl; rfl; assumption; rfl)))
  refine WL.call rfl rfl rfl (Ins_ok w1 (hs.up hE) (hf.up hE) (n : Int)) ?_
  rintro _ w2 ⟨x, rfl, hox, e2⟩
  rw [hle, if_pos rfl] at hox
  have hb2 := hb2.ext e2
  have hE := hE.trans e2
  obtain ⟨xo, xc, rfl, hxs⟩ := hox.oldN.sl
  (repeat (first | (apply WL.pure; rfl; rfl; rfl) | (apply WL.nil) | (apply EX.thenN) | (apply CW.seq) | (apply CW.region) | (apply WL.ldA; rfl; rfl; rfl; assumption; rfl)))
  refine WL.call rfl rfl rfl (Outs_ok w2 (hs.up hE) (hf.up hE) (n : Int)) ?_
  rintro _ w3 ⟨y, rfl, hoy, e3⟩
  rw [hle, if_pos rfl] at hoy
  have hb2 := hb2.ext e3
  have hE := hE.trans e3
  have hxs := hxs.up e3
  obtain ⟨yo, yc, rfl, hys⟩ := hoy.oldN.sl
  clear hox hoy e1 e2 e3 hle hstN hc0 hkk
  generalize insL fl (n : Int) = ins at *
  generalize (outsL fl (n : Int)).length = o at *
  have z3 := hE.size
  (repeat (first | (apply WL.pure; rfl; rfl; rfl) | (apply WL.nil) | (apply EX.thenN) | (apply CW.seq) | (apply CW.region) | (apply WL.lenS; rfl; rfl; rfl) | (apply WL.fa; rfl; rfl; rfl) | (apply WL.ld; rfl; rfl; rfl; assumption; rfl)))
  rw [shl1W (show o < 62 by omega)]
  obtain ⟨po, hpo⟩ : ∃ po, po = (2 : Int) ^ o := ⟨_, rfl⟩
  have hp1 := pow_pos2 o
  have hp2 := pow_le2 (show o ≤ 30 by omega)
  have hp3 : (2 : Int) ^ 30 = 1073741824 := by decide
  rw [← hpo] at hp1 hp2 ⊢
  rw [wrap_in (show -9223372036854775808 ≤ po - 1 by omega) (by omega)]
  obtain ⟨nb, off, rfl, hnb, hnc⟩ := (hs.at hE).nodeK hn
  skip
  refine WL.idx (α := LNode) rfl rfl rfl rfl (by omega) (by omega) ?_
  (repeat (apply WL.fa; rfl; rfl; rfl))
  refine WL.load (α := Int) (F := Non) (y := ns[n].2) rfl rfl rfl (by rw [Int.toNat_natCast]; exact hnc) rfl ?_
  rw [show vOf Int [.int .i64 ns[n].2] = .int .i64 ns[n].2 from rfl]
  generalize ns[n].2 = k at *
  clear hnc hnb
  skip
  apply WL.nil
  apply EX.thenN
  apply CW.block
  refine CW.cut [(1, .int .i64 (n : Int)), (5, .slice xo ins.length xc), (7, .slice yo o yc), (9, .int .i64 (po - 1)), (10, .slice none 0 0), (38, .int .i64 k), (39, .bool (decide (k = 4 ∨ k = 2 ∨ k = 3)))] ?_ ?_
  · (repeat (first | (apply WL.pure; rfl; rfl; rfl) | (apply WL.nil) | (apply EX.thenN) | (apply CW.seq) | (apply CW.region)))
    by_cases h4 : k = 4
    · subst h4
      (repeat (first | (apply CW.condT; rfl) | (apply CW.skip)))
      exact EX.cut (by repeat (first | exact trivial | refine ⟨rfl, ?_⟩))
    have b4 : (k == 4) = false := by simpa using h4
    rw [b4]
    (repeat (first | (apply WL.pure; rfl; rfl; rfl) | (apply WL.nil) | (apply EX.thenN) | (apply CW.seq) | (apply CW.region) | (apply CW.condF; rfl)))
    by_cases h2 : k = 2
    · subst h2
      (repeat (first | (apply CW.condT; rfl) | (apply CW.skip)))
      exact EX.cut (by repeat (first | exact trivial | refine ⟨rfl, ?_⟩))
    have b2 : (k == 2) = false := by simpa using h2
    rw [b2]
    (repeat (first | (apply WL.pure; rfl; rfl; rfl) | (apply WL.nil) | (apply CW.region) | (apply CW.condF; rfl)))
    rw [show decide (k = 4 ∨ k = 2 ∨ k = 3) = (k == 3) by rw [Bool.eq_iff_iff]; simp [h4, h2]]
    exact EX.cut (by repeat (first | exact trivial | refine ⟨rfl, ?_⟩))
  by_cases hd : k = 4 ∨ k = 2 ∨ k = 3
  · have hst : stepsK k (n : Int) ins o = ins.map fun f => ((n : Int), f, po - 1) := by unfold stepsK; rw [if_pos hd, hpo]
    rw [hst, decide_eq_true hd]
    (repeat (first | (apply WL.pure; rfl; rfl; rfl) | (apply WL.nil) | (apply EX.thenN) | (apply CW.seq) | (apply CW.region) | (apply WL.lenS; rfl; rfl; rfl) | (apply CW.block) | (apply CW.condT; rfl)))
    refine CW.loop (S := Nat × Value) (fun s => [(1, .int .i64 (n : Int)), (9, .int .i64 (po - 1)), (10, s.2), (43, .slice xo ins.length xc), (44, .int .i64 ins.length), (45, .int .i64 s.1)])
      (fun s w => s.1 ≤ ins.length ∧ Own w w3.heap.size 92 Non s.2 ((ins.take s.1).map fun f => (((n : Int), f, po - 1) : LStep)) ∧ Ext w3 w) (fun s => ins.length - s.1) (0, .slice none 0 0) (by repeat (first | exact trivial | refine ⟨rfl, ?_⟩)) ⟨Nat.zero_le _, Own.nil, Ext.refl _⟩ ?_
    rintro ⟨i, ov⟩ w4 ⟨hi, ho, e4⟩
    dsimp only at hi ho ⊢
    (repeat (first | (apply WL.pure; rfl; rfl; rfl) | (apply WL.nil) | (apply EX.thenN) | (apply CW.seq) | (apply CW.region)))
    refine CW.cond rfl (fun h => ?_) (fun h => ?_)
    · have hi' : i < ins.length := by simp at h; omega
      have hnext := take_map_next (fun f => (((n : Int), f, po - 1) : LStep)) hi'
      (repeat (first | (apply EX.thenN) | (apply CW.seq) | (apply CW.region) | (apply CW.block) | (apply CW.skip)))
      refine WL.elemI rfl rfl rfl rfl rfl (hxs.up e4) hi' rfl (fun _ => rfl) (fun q => ?_)
      (repeat (first | (apply WL.pure; rfl; rfl; rfl) | (apply WL.nil) | (apply EX.thenN) | (apply CW.region)))
      refine WL.build rfl rfl rfl rfl ?_
      refine WL.app1 (F := Non) (yv := (((n : Int), ins[i], po - 1) : LStep)) rfl rfl (fun _ => rfl) rfl rfl (fun _ => rfl) ho (rdSt _ _ _ _ _) e4.size (fun _ h => h.elim) (by decide) (by rw [List.length_map, List.length_take]; unfold maxLen; omega) (by rw [List.length_map, List.length_take]; omega) (fun v' w5 p ho5 hg5 hnb => ?_)
      rw [← hnext] at ho5
      have e5 : Ext w3 w5 := e4.grown hg5 e4.size (fun b hb => (ho.lt b hb).1)
      (repeat (first | (apply WL.add; rfl; rfl; rfl; rfl; omega; omega) | (apply WL.pure; rfl; rfl; rfl) | (apply WL.nil) | (apply EX.thenN) | (apply CW.region) | (apply EX.inN)))
      exact EX.back (i + 1, v') (by repeat (first | exact trivial | refine ⟨rfl, ?_⟩)) ⟨hi', ho5, e5⟩ (by dsimp only; omega)
    · obtain rfl : i = ins.length := by simp at h; omega
      rw [List.take_length] at ho
      (repeat (first | (apply WL.pure; rfl; rfl; rfl) | (apply WL.nil) | (apply EX.thenN) | (apply CW.seq) | (apply CW.region) | (apply EX.inN) | (apply CW.exit) | (apply EX.thenX) | (apply EX.inX) | (apply CW.ret)))
      exact EX.ret1 rfl rfl ⟨ho.low z3, hE.trans e4⟩
  rw [decide_eq_false hd]
  (repeat (first | (apply WL.pure; rfl; rfl; rfl) | (apply WL.nil) | (apply EX.thenN) | (apply CW.seq) | (apply CW.region) | (apply CW.condF; rfl)))
  by_cases h5 : k = 5
  · subst h5
    have hst : stepsK 5 (n : Int) ins o = ins.flatMap fun f => (List.range o).map fun k : Nat => ((n : Int), f, (2 : Int) ^ k) := by unfold stepsK; rw [if_neg hd, if_pos rfl]
    rw [hst]
    have hflen : ∀ l : List Int, (l.flatMap fun f => (List.range o).map fun k : Nat => (((n : Int), f, (2 : Int) ^ k) : LStep)).length = l.length * o := fun l => by
      induction l with
      | nil => simp
      | cons a l ih => rw [List.flatMap_cons, List.length_append, ih]; simp [Nat.add_mul]; omega
    (repeat (first | (apply WL.pure; rfl; rfl; rfl) | (apply WL.nil) | (apply EX.thenN) | (apply CW.seq) | (apply CW.region) | (apply WL.lenS; rfl; rfl; rfl) | (apply CW.block) | (apply CW.condT; rfl)))
    refine CW.loop (S := Nat × Value) (fun s => [(1, .int .i64 (n : Int)), (7, .slice yo o yc), (10, s.2), (59, .slice xo ins.length xc), (60, .int .i64 ins.length), (61, .int .i64 s.1)])
      (fun s w => s.1 ≤ ins.length ∧ Own w w3.heap.size 92 Non s.2 ((ins.take s.1).flatMap fun f => (List.range o).map fun k : Nat => (((n : Int), f, (2 : Int) ^ k) : LStep)) ∧ Ext w3 w) (fun s => ins.length - s.1) (0, .slice none 0 0) (by repeat (first | exact trivial | refine ⟨rfl, ?_⟩)) ⟨Nat.zero_le _, Own.nil, Ext.refl _⟩ ?_
    rintro ⟨i, ov⟩ w4 ⟨hi, ho, e4⟩
    dsimp only at hi ho ⊢
    (repeat (first | (apply WL.pure; rfl; rfl; rfl) | (apply WL.nil) | (apply EX.thenN) | (apply CW.seq) | (apply CW.region)))
    refine CW.cond rfl (fun h => ?_) (fun h => ?_)
    · have hi' : i < ins.length := by simp at h; omega
      have hfl1 := hflen (ins.take i)
      rw [List.length_take, Nat.min_eq_left hi] at hfl1
      have hmul : i * o ≤ 30 * 30 := Nat.mul_le_mul (by omega) (by omega)
      generalize hbase : ((ins.take i).flatMap fun f => (List.range o).map fun k : Nat => (((n : Int), f, (2 : Int) ^ k) : LStep)) = base at ho hfl1
      (repeat (first | (apply EX.thenN) | (apply CW.seq) | (apply CW.region) | (apply CW.block) | (apply CW.skip)))
      refine WL.elemI rfl rfl rfl rfl rfl (hxs.up e4) hi' rfl (fun _ => rfl) (fun q => ?_)
      (repeat (first | (apply WL.pure; rfl; rfl; rfl) | (apply WL.nil) | (apply EX.thenN) | (apply CW.seq) | (apply CW.region) | (apply WL.lenS; rfl; rfl; rfl) | (apply CW.block)))
      refine CW.loop (S := Nat × Value) (fun s => [(1, .int .i64 (n : Int)), (7, .slice yo o yc), (10, s.2), (14, .int .i64 ins[i]), (59, .slice xo ins.length xc), (60, .int .i64 ins.length), (61, .int .i64 i), (66, .int .i64 o), (67, .int .i64 s.1)])
        (fun s w => s.1 ≤ o ∧ Own w w3.heap.size 92 Non s.2 (base ++ (List.range s.1).map fun k : Nat => (((n : Int), ins[i], (2 : Int) ^ k) : LStep)) ∧ Ext w3 w) (fun s => o - s.1) (0, ov) (by repeat (first | exact trivial | refine ⟨rfl, ?_⟩)) ⟨Nat.zero_le _, by simpa using ho, e4⟩ ?_
      rintro ⟨j, ov⟩ w5 ⟨hj, ho, e5⟩
      dsimp only at hj ho ⊢
      (repeat (first | (apply WL.pure; rfl; rfl; rfl) | (apply WL.nil) | (apply EX.thenN) | (apply CW.seq) | (apply CW.region)))
      refine CW.cond rfl (fun h => ?_) (fun h => ?_)
      · have hj' : j < o := by simp at h; omega
        (repeat (first | (apply WL.pure; rfl; rfl; rfl) | (apply WL.nil) | (apply EX.thenN) | (apply CW.seq) | (apply CW.region) | (apply CW.block) | (apply CW.skip)))
        rw [shl1W (show j < 62 by omega)]
        refine WL.build rfl rfl rfl rfl ?_
        refine WL.app1 (F := Non) (yv := (((n : Int), ins[i], (2 : Int) ^ j) : LStep)) rfl rfl (fun _ => rfl) rfl rfl (fun _ => rfl) ho (rdSt _ _ _ _ _) e5.size (fun _ h => h.elim) (by decide) (by rw [List.length_append, List.length_map, List.length_range]; unfold maxLen; omega) (by rw [List.length_append, List.length_map, List.length_range]; omega) (fun v' w6 p ho6 hg6 hnb => ?_)
        have e6 : Ext w3 w6 := e5.grown hg6 e5.size (fun b hb => (ho.lt b hb).1)
        (repeat (first | (apply WL.add; rfl; rfl; rfl; rfl; omega; omega) | (apply WL.pure; rfl; rfl; rfl) | (apply WL.nil) | (apply EX.thenN) | (apply CW.region) | (apply EX.inN)))
        refine EX.back (j + 1, v') (by repeat (first | exact trivial | refine ⟨rfl, ?_⟩)) ⟨hj', ?_, e6⟩ (by dsimp only; omega)
        dsimp only
        rw [List.range_succ, List.map_append, ← List.append_assoc]
        exact ho6
      · obtain rfl : j = o := by simp at h; omega
        (repeat (first | (apply WL.add; rfl; rfl; rfl; rfl; omega; omega) | (apply WL.pure; rfl; rfl; rfl) | (apply WL.nil) | (apply EX.thenN) | (apply CW.region) | (apply EX.inN) | (apply CW.exit) | (apply EX.thenX) | (apply EX.inX)))
        refine EX.back (i + 1, ov) (by repeat (first | exact trivial | refine ⟨rfl, ?_⟩)) ⟨hi', ?_, e5⟩ (by dsimp only; omega)
        dsimp only
        rw [← List.take_append_getElem hi', List.flatMap_append, hbase]
        simpa using ho
    · obtain rfl : i = ins.length := by simp at h; omega
      rw [List.take_length] at ho
      (repeat (first | (apply WL.pure; rfl; rfl; rfl) | (apply WL.nil) | (apply EX.thenN) | (apply CW.seq) | (apply CW.region) | (apply EX.inN) | (apply CW.exit) | (apply EX.thenX) | (apply EX.inX) | (apply CW.ret)))
      exact EX.ret1 rfl rfl ⟨ho.low z3, hE.trans e4⟩
  have b5 : (k == 5) = false := by simpa using h5
  rw [b5]
  (repeat (first | (apply WL.pure; rfl; rfl; rfl) | (apply WL.nil) | (apply EX.thenN) | (apply CW.seq) | (apply CW.region) | (apply CW.condF; rfl)))
  by_cases h6 : k = 6
  · subst h6
    have hst : stepsK 6 (n : Int) ins o = [((n : Int), -1, po - 1)] := by unfold stepsK; rw [if_neg hd, if_neg h5, if_pos rfl, hpo]
    rw [hst]
    (repeat (first | (apply WL.pure; rfl; rfl; rfl) | (apply CW.region) | (apply CW.condT; rfl)))
    refine WL.build rfl rfl rfl rfl ?_
    refine WL.app1 (F := Non) (B := w3.heap.size) (xs := []) (yv := (((n : Int), -1, po - 1) : LStep)) rfl rfl (fun _ => rfl) rfl rfl (fun _ => rfl) Own.nil (rdSt _ _ _ _ _) (Nat.le_refl _) (fun _ h => h.elim) (by decide) (by simp [maxLen]) (by simp) (fun v' w6 p ho6 hg6 hnb => ?_)
    have e6 : Ext w3 w6 := (Ext.refl _).grown hg6 (Nat.le_refl _) (fun b hb => by cases hb)
    (repeat (first | (apply WL.pure; rfl; rfl; rfl) | (apply WL.nil) | (apply EX.thenN) | (apply CW.seq) | (apply CW.region) | (apply EX.inN) | (apply CW.ret)))
    exact EX.ret1 rfl rfl ⟨ho6.low z3, hE.trans e6⟩
  have b6 : (k == 6) = false := by simpa using h6
  rw [b6]
  (repeat (first | (apply WL.pure; rfl; rfl; rfl) | (apply WL.nil) | (apply EX.thenN) | (apply CW.seq) | (apply CW.region) | (apply CW.condF; rfl)))
  by_cases h7' : k = 7
  · subst h7'
    have ho4 := h7 rfl
    have hst : stepsK 7 (n : Int) ins o = (List.range (2 ^ o - 1)).map fun k : Nat => ((n : Int), -1, (k : Int) + 1) := by unfold stepsK; rw [if_neg hd, if_neg h5, if_neg h6, if_pos rfl]
    rw [hst]
    have hpn : po = ((2 ^ o : Nat) : Int) := by rw [hpo]; push_cast; rfl
    have hN1 := Nat.one_le_two_pow (n := o)
    have hN2 : 2 ^ o ≤ 2 ^ 4 := Nat.pow_le_pow_right (by omega) ho4
    obtain ⟨N, hN⟩ : ∃ N, N = 2 ^ o := ⟨_, rfl⟩
    rw [← hN] at hpn hN1 hN2 ⊢
    have hN3 : N ≤ 16 := by have : 2 ^ 4 = 16 := by decide
                            omega
    (repeat (first | (apply WL.pure; rfl; rfl; rfl) | (apply WL.nil) | (apply EX.thenN) | (apply CW.seq) | (apply CW.region) | (apply CW.block) | (apply CW.condT; rfl)))
    refine CW.loop (S := Nat × Value) (fun s => [(1, .int .i64 (n : Int)), (9, .int .i64 (po - 1)), (10, s.2), (16, .int .i64 ((s.1 : Int) + 1))])
      (fun s w => s.1 ≤ N - 1 ∧ Own w w3.heap.size 92 Non s.2 ((List.range s.1).map fun k : Nat => (((n : Int), -1, (k : Int) + 1) : LStep)) ∧ Ext w3 w) (fun s => N - s.1) (0, .slice none 0 0) (by repeat (first | exact trivial | refine ⟨rfl, ?_⟩)) ⟨Nat.zero_le _, Own.nil, Ext.refl _⟩ ?_
    rintro ⟨i, ov⟩ w4 ⟨hi, ho, e4⟩
    dsimp only at hi ho ⊢
    (repeat (first | (apply WL.pure; rfl; rfl; rfl) | (apply WL.nil) | (apply EX.thenN) | (apply CW.seq) | (apply CW.region)))
    refine CW.cond rfl (fun h => ?_) (fun h => ?_)
    · have hi' : i < N - 1 := by simp at h; omega
      (repeat (first | (apply WL.pure; rfl; rfl; rfl) | (apply EX.thenN) | (apply CW.seq) | (apply CW.region) | (apply CW.block) | (apply CW.skip)))
      refine WL.build rfl rfl rfl rfl ?_
      refine WL.app1 (F := Non) (yv := (((n : Int), -1, (i : Int) + 1) : LStep)) rfl rfl (fun _ => rfl) rfl rfl (fun _ => rfl) ho (rdSt _ _ _ _ _) e4.size (fun _ h => h.elim) (by decide) (by rw [List.length_map, List.length_range]; unfold maxLen; omega) (by rw [List.length_map, List.length_range]; omega) (fun v' w5 p ho5 hg5 hnb => ?_)
      have e5 : Ext w3 w5 := e4.grown hg5 e4.size (fun b hb => (ho.lt b hb).1)
      (repeat (first | (apply WL.add; rfl; rfl; rfl; rfl; omega; omega) | (apply WL.pure; rfl; rfl; rfl) | (apply WL.nil) | (apply EX.thenN) | (apply CW.region) | (apply EX.inN)))
      refine EX.back (i + 1, v') (by repeat (first | exact trivial | refine ⟨rfl, ?_⟩)) ⟨by dsimp only; omega, ?_, e5⟩ (by dsimp only; omega)
      dsimp only
      rw [List.range_succ, List.map_append]
      exact ho5
    · obtain rfl : i = N - 1 := by simp at h; omega
      (repeat (first | (apply WL.pure; rfl; rfl; rfl) | (apply WL.nil) | (apply EX.thenN) | (apply CW.seq) | (apply CW.region) | (apply EX.inN) | (apply CW.exit) | (apply EX.thenX) | (apply EX.inX) | (apply CW.ret)))
      exact EX.ret1 rfl rfl ⟨ho.low z3, hE.trans e4⟩
  have b7 : (k == 7) = false := by simpa using h7'
  rw [b7]
  have hst : stepsK k (n : Int) ins o = [] := by unfold stepsK; rw [if_neg hd, if_neg h5, if_neg h6, if_neg h7']
  rw [hst]
  (repeat (first | (apply WL.pure; rfl; rfl; rfl) | (apply WL.nil) | (apply EX.thenN) | (apply CW.seq) | (apply CW.region) | (apply EX.inN) | (apply CW.condF; rfl) | (apply CW.ret) | (apply CW.skip)))
  exact EX.ret1 rfl rfl ⟨Own.nil, hE⟩
theorem Of_ok (w0 : World) {so fo : Option Addr} {sc fc : Nat} {ns : List LNode} {fl : List LFlow} (hs : Sl w0 (Old w0) so sc ns) (hf : Sl w0 (Old w0) fo fc fl) :
    Rt Try.prog 39 [procV so sc fo fc ns.length fl.length].toArray w0 fun v w' => ∃ x, v = .tuple ⟨[x, .int .i64 (stepsE (ns, fl)).2]⟩ ∧ Own w' w0.heap.size 92 Non x (stepsE (ns, fl)).1 ∧ Ext w0 w' := by
  have hms := hs.len63
  refine Rt.enter1 Try.func39 Try.ntmps39 rfl rfl ?_
  have hE := Ext.refl w0
  (repeat (first | (apply CW.seq) | (apply CW.region)))
  refine WL.boxB rfl rfl rfl fun w1 hb1 e1 => ?_
  have hE := hE.trans e1
  unfold stepsE
  (repeat (first | (apply WL.pure; rfl; rfl; rfl) | (apply WL.nil) | (apply EX.thenN) | (apply CW.seq) | (apply CW.region) | (apply WL.ldA; rfl; rfl; rfl; assumption; rfl)))
  refine WL.call rfl rfl rfl (Check_pr w1 (hs.up hE) (hf.up hE)) ?_
  rintro _ w2 ⟨rfl, e2⟩
  have hb1 := hb1.ext e2
  have hE := hE.trans e2
  (repeat (first | (apply WL.pure; rfl; rfl; rfl) | (apply WL.nil) | (apply EX.thenN) | (apply CW.seq) | (apply CW.region)))
  refine CW.cond rfl (fun h => ?_) (fun h => ?_)
  · have h : chkPr (ns, fl) ≠ 0 := by simpa using h
    (repeat (first | (apply WL.pure; rfl; rfl; rfl) | (apply WL.nil) | (apply EX.thenN) | (apply CW.seq) | (apply CW.region) | (apply CW.ret) | (apply EX.thenR)))
    refine EX.ret2 rfl rfl rfl ⟨_, by rw [if_pos h], ?_, hE⟩
    rw [if_pos h]; exact Own.nil
  have hc0 : chkPr (ns, fl) = 0 := by simpa using h
  have hok := chkPr_ok hc0
  have hn20 := hok.n
  dsimp only at hn20
  rw [if_neg (by simp [hc0])]
  have z2 := hE.size
  (repeat (first | (apply WL.pure; rfl; rfl; rfl) | (apply WL.nil) | (apply EX.thenN) | (apply CW.seq) | (apply CW.region) | (apply WL.lenS; rfl; rfl; rfl) | (apply WL.fa; rfl; rfl; rfl) | (apply WL.ld; rfl; rfl; rfl; assumption; rfl) | (apply CW.block) | (apply CW.skip)))
  refine CW.loop (S := Nat × Value) (fun s => [(1, .pointer (some ⟨w0.heap.size, 0, none⟩)), (5, s.2), (14, .int .i64 ns.length), (15, .int .i64 s.1)])
    (fun s w => s.1 ≤ ns.length ∧ Own w w2.heap.size 92 Non s.2 (stepsP (ns, fl) s.1) ∧ Ext w2 w) (fun s => ns.length - s.1) (0, .slice none 0 0) (by repeat (first | exact trivial | refine ⟨rfl, ?_⟩)) ⟨Nat.zero_le _, Own.nil, Ext.refl _⟩ ?_
  rintro ⟨i, ov⟩ w3 ⟨hi, ho, e3⟩
  dsimp only at hi ho ⊢
  have hb3 := hb1.ext e3
  have hE3 := hE.trans e3
  have hlen := stepsP_len hok i hi
  (repeat (first | (apply WL.pure; rfl; rfl; rfl) | (apply WL.nil) | (apply EX.thenN) | (apply CW.seq) | (apply CW.region)))
  refine CW.cond rfl (fun h => ?_) (fun h => ?_)
  · have hi' : i < ns.length := by simp at h; omega
    have hlen2 := stepsP_len hok (i + 1) hi'
    rw [stepsP_next, List.length_append] at hlen2
    (repeat (first | (apply WL.pure; rfl; rfl; rfl) | (apply WL.nil) | (apply EX.thenN) | (apply CW.seq) | (apply CW.region) | (apply WL.ldA; rfl; rfl; rfl; assumption; rfl) | (apply CW.block) | (apply CW.skip)))
    refine WL.call rfl rfl rfl (of_ok w3 (hs.up hE3) (hf.up hE3) hc0 hi') ?_
    rintro sv w4 ⟨hos, e4⟩
    have ho := ho.extN e4
    have e4 := e3.trans e4
    obtain ⟨so', sc', rfl, hss⟩ := hos.oldN.sl
    skip
    refine WL.app (F := Non) rfl rfl rfl rfl ho hss.srcN e4.size (fun _ h => h.elim) (by unfold maxLen; omega) (by omega) (fun v' w5 ho5 hg5 _ => ?_)
    rw [← stepsP_next] at ho5
    have e5 : Ext w2 w5 := e4.grown hg5 e4.size (fun b hb => (ho.lt b hb).1)
    (repeat (first | (apply WL.add; rfl; rfl; rfl; rfl; omega; omega) | (apply WL.pure; rfl; rfl; rfl) | (apply WL.nil) | (apply EX.thenN) | (apply CW.region) | (apply EX.inN)))
    exact EX.back (i + 1, v') (by repeat (first | exact trivial | refine ⟨rfl, ?_⟩)) ⟨hi', ho5, e5⟩ (by dsimp only; omega)
  obtain rfl : i = ns.length := by simp at h; omega
  (repeat (first | (apply WL.pure; rfl; rfl; rfl) | (apply WL.nil) | (apply EX.thenN) | (apply CW.seq) | (apply CW.region) | (apply CW.exit) | (apply EX.thenX) | (apply EX.inX) | (refine WL.lenO rfl rfl rfl (by assumption) ?_)))
  refine CW.cond rfl (fun h => ?_) (fun h => ?_)
  · have h : (stepsL (ns, fl)).length > 60 := by simp at h; show (stepsP (ns, fl) ns.length).length > 60; omega
    (repeat (first | (apply WL.pure; rfl; rfl; rfl) | (apply WL.nil) | (apply EX.thenN) | (apply CW.seq) | (apply CW.region) | (apply CW.ret) | (apply EX.thenR)))
    refine EX.ret2 rfl rfl rfl ⟨_, by rw [if_pos h], ?_, hE3⟩
    rw [if_pos h]; exact Own.nil
  · have h : ¬ (stepsL (ns, fl)).length > 60 := by simp at h; show ¬ (stepsP (ns, fl) ns.length).length > 60; omega
    (repeat (first | (apply WL.pure; rfl; rfl; rfl) | (apply WL.nil) | (apply EX.thenN) | (apply CW.seq) | (apply CW.region) | (apply CW.ret) | (apply CW.skip)))
    refine EX.ret2 rfl rfl rfl ⟨_, by rw [if_neg h], ?_, hE3⟩
    rw [if_neg h]; exact ho.low z2
end Go.Proofs.Ytljcnopekjinjaa
/-
  A step compared with a step; slices.Equal, slices.Index, slices.Contains at lists of steps.
-/
set_option linter.unusedVariables false
set_option linter.unusedSimpArgs false
namespace Go.Proofs.Ytljcnopekjinjaa
open Go.RowKit

def stV (s : LStep) : Value := .agg [.int .i64 s.1, .int .i64 s.2.1, .int .i64 s.2.2].toArray
theorem Rd.step {w : World} {F : Nat → Prop} {v : Value} {x : LStep} (h : Rd w F v x) : v = stV x := by
  obtain ⟨c1, c2, rfl, h1, h2⟩ := h.pr
  obtain ⟨c3, c4, rfl, h3, h4⟩ := rd_pr h2
  rw [rd_int h1, rd_int h3, rd_int h4]; rfl
theorem equalIn_step0 (x y : LStep) (w : World) : (Op.equalIn 10000 92 (stV x) (stV y)).run Try.prog w = .ok (x == y) w := by
  have u3 := Try.underlying3
  have a3 := Try.isAgg3
  have z3 := Try.sizeOf3
  have hS : Try.prog.underlying 92 = some (.struct (Try.prog.fieldsOf 92)) := by kernel_rfl
  have hp : Try.prog.stoodInHeld 92 = false := by kernel_rfl
  obtain ⟨a, b, c⟩ := x
  obtain ⟨a', b', c'⟩ := y
  simp only [stV]
  rw [show (10000 : Nat) = 9999 + 1 from rfl, run_equalIn_agg w 9999 92 _ _ hS hp]
  simp only [Program.fieldsOf, Try.underlying92]
  go_simp
  by_cases h1 : a = a' <;> by_cases h2 : b = b' <;> by_cases h3 : c = c' <;> simp [h1, h2, h3]
theorem equalIn_step (x y : LStep) (w : World) : (binOp .eql 92 (stV x) (stV y)).run Try.prog w = .ok (.bool (x == y)) w := by
  have h := equalIn_step0 x y w
  unfold stV at h ⊢
  rw [run_eql_struct, h]; rfl
theorem nequalIn_step (x y : LStep) (w : World) : (binOp .neq 92 (stV x) (stV y)).run Try.prog w = .ok (.bool (x != y)) w := by
  have h := equalIn_step0 x y w
  unfold stV at h ⊢
  rw [run_neq_struct, h]; rfl
theorem run_eqSt (x y : LStep) (p q : Operand) (w : World) : ((do eqGuard .eql 92 p q (stV x) (stV y); binOp .eql 92 (stV x) (stV y) : Sem Value)).run Try.prog w = .ok (.bool (x == y)) w := by
  have hm : Try.prog.eqGuardType Try.prog.depth 92 = false := by kernel_rfl
  have h := equalIn_step x y w
  rw [Sem.run_bind]
  have hg : (eqGuard .eql 92 p q (stV x) (stV y)).run Try.prog w = .ok () w := run_eqGuard_agg w .eql 92 p q _ _ hm
  rw [hg, Result.andThen_ok, h]
theorem run_neSt (x y : LStep) (p q : Operand) (w : World) : ((do eqGuard .neq 92 p q (stV x) (stV y); binOp .neq 92 (stV x) (stV y) : Sem Value)).run Try.prog w = .ok (.bool (x != y)) w := by
  have hm : Try.prog.eqGuardType Try.prog.depth 92 = false := by kernel_rfl
  rw [Sem.run_bind]
  have hg : (eqGuard .neq 92 p q (stV x) (stV y)).run Try.prog w = .ok () w := run_eqGuard_agg w .neq 92 p q _ _ hm
  rw [hg, Result.andThen_ok, nequalIn_step]
section
variable {Q : Exit → Act → World → Prop} {n : Nat} {σ : Sg} {w : World} {L rest : List Oper} {d : Nat} {ty : TypeId} {pos : String} {af : Array Edge} {g : Option (Nat × Bool)} {yt : TypeId} {x y : Operand}
theorem QL.neSt {a b : LStep} (hg : gd L σ ⟨some d, .binOp .neq 92 x y yt, ty, pos, af, g⟩ = some true) (hd : Nat.ble (d + 1) n = true) (hx : ev σ x = some (stV a)) (hy : ev σ y = some (stV b))
    (h : QL Try.prog L w Q rest n ((d, .bool (a != b)) :: σ)) : QL Try.prog L w Q (⟨some d, .binOp .neq 92 x y yt, ty, pos, af, g⟩ :: rest) n σ := by
  refine QL.run hg hd (fun c hc w' _ => ?_) h
  have := run_neSt a b x y w'
  simp only [execOp, hc.ev hx, hc.ev hy]
  rw [Sem.run_bind, this]; rfl
theorem QL.eqSt {a b : LStep} (hg : gd L σ ⟨some d, .binOp .eql 92 x y yt, ty, pos, af, g⟩ = some true) (hd : Nat.ble (d + 1) n = true) (hx : ev σ x = some (stV a)) (hy : ev σ y = some (stV b))
    (h : QL Try.prog L w Q rest n ((d, .bool (a == b)) :: σ)) : QL Try.prog L w Q (⟨some d, .binOp .eql 92 x y yt, ty, pos, af, g⟩ :: rest) n σ := by
  refine QL.run hg hd (fun c hc w' _ => ?_) h
  have := run_eqSt a b x y w'
  simp only [execOp, hc.ev hx, hc.ev hy]
  rw [Sem.run_bind, this]; rfl
end
end Go.Proofs.Ytljcnopekjinjaa
/-
  ProcFlows: walked.
-/
set_option linter.unusedVariables false
set_option linter.unusedSimpArgs false
namespace Go.Proofs.Ytljcnopekjinjaa
open Go.RowKit

theorem Cells.tl {w : World} {b o : Nat} {x : Value} {r : List Value} (h : Cells w b o (x :: r)) : Cells w b (o + 1) r := fun j u hu => by
  have := h (j + 1) u (by simpa using hu)
  rwa [show o + (j + 1) = o + 1 + j by omega] at this
/-- the cells of a list's element that is a pair of numbers -/
theorem Sl.pair {w : World} {F : Nat → Prop} {ao : Option Addr} {cap : Nat} {xs : List (Int × Int)} (h : Sl w F ao cap xs) {i : Nat} (hi : i < xs.length) : ∃ b off, ao = some ⟨b, off, none⟩ ∧ F b ∧ Cells w b (off + i * 2) [.int .i64 xs[i].1] ∧ Cells w b (off + i * 2 + 1) [.int .i64 xs[i].2] := by
  obtain ⟨b, off, e, hb, es, hc, hr⟩ := h.el i hi
  obtain ⟨c1, c2, rfl, h1, h2⟩ := rd_pr hr
  rw [rd_int h1, rd_int h2] at hc
  exact ⟨b, off, e, hb, fun j u hu => hc j u (by cases j with | zero => simpa using hu | succ j => simp at hu), hc.tl⟩
def insSum (fl : List LFlow) (n : Nat) : Nat := ((List.range n).map fun k : Nat => (insL fl (k : Int)).length).sum
def outsSum (fl : List LFlow) (n : Nat) : Nat := ((List.range n).map fun k : Nat => (outsL fl (k : Int)).length).sum
theorem insSum_next {fl : List LFlow} {n : Nat} : insSum fl (n + 1) = insSum fl n + (insL fl (n : Int)).length := by unfold insSum; rw [List.range_succ, List.map_append, List.sum_append]; simp
theorem outsSum_next {fl : List LFlow} {n : Nat} : outsSum fl (n + 1) = outsSum fl n + (outsL fl (n : Int)).length := by unfold outsSum; rw [List.range_succ, List.map_append, List.sum_append]; simp
theorem insSum_all {p : LProc} (h : OkPr p) : insSum p.2 p.1.length = p.2.length := by
  have := count_by (N := p.1.length) (fun i : Nat => (p.2.getD i (0, 0)).2) (List.range p.2.length) (fun i hi => by
    have hi := List.mem_range.1 hi
    rw [getDF_at hi]
    have := h.flows _ (List.getElem_mem hi)
    exact ⟨this.2.2.1, this.2.2.2⟩)
  rw [List.length_range] at this
  rw [← this]
  unfold insSum insL insP
  simp only [List.length_map]
theorem outsSum_all {p : LProc} (h : OkPr p) : outsSum p.2 p.1.length = p.2.length := by
  have := count_by (N := p.1.length) (fun i : Nat => (p.2.getD i (0, 0)).1) (List.range p.2.length) (fun i hi => by
    have hi := List.mem_range.1 hi
    rw [getDF_at hi]
    have := h.flows _ (List.getElem_mem hi)
    exact ⟨this.1, this.2.1⟩)
  rw [List.length_range] at this
  rw [← this]
  unfold outsSum outsL outsP
  simp only [List.length_map]
theorem insSum_le {fl : List LFlow} {n : Nat} (hl : fl.length ≤ 30) (hn : n ≤ 20) : insSum fl n ≤ 30 * n := by
  induction n with
  | zero => simp [insSum]
  | succ n ih =>
    rw [insSum_next]
    have : (insL fl (n : Int)).length ≤ fl.length := insP_len
    have := ih (by omega)
    omega
theorem outsSum_le {fl : List LFlow} {n : Nat} (hl : fl.length ≤ 30) (hn : n ≤ 20) : outsSum fl n ≤ 30 * n := by
  induction n with
  | zero => simp [outsSum]
  | succ n ih =>
    rw [outsSum_next]
    have : (outsL fl (n : Int)).length ≤ fl.length := outsP_len
    have := ih (by omega)
    omega
theorem listE_ok {p : LProc} (h : chkPr p = 0) {n : Nat} (hn : n < p.1.length) : listE p (n : Int) = 0 := by
  unfold listE
  rw [if_neg (by simp [h]), if_neg (by omega)]
end Go.Proofs.Ytljcnopekjinjaa
/-
  StepsCover: walked.
-/
set_option linter.unusedVariables false
set_option linter.unusedSimpArgs false
namespace Go.Proofs.Ytljcnopekjinjaa
open Go.RowKit

section
variable {P : Program} {Q : Exit → Act → World → Prop} {n : Nat} {σ : Sg} {w : World} {L rest : List Oper} {d : Nat} {ty : TypeId} {pos : String} {af : Array Edge} {g : Option (Nat × Bool)} {t e : TypeId} {α : Type} [Rep α]
/-- x[:k] -/
theorem QL.cutHi {x y : Operand} {ao : Option Addr} {len cap : Nat} {i : Int} {kd : IntKind} (k : Nat) (hik : i = (k : Int)) (hg : gd L σ ⟨some d, .slice t x none (some y) none, ty, pos, af, g⟩ = some true) (hd : Nat.ble (d + 1) n = true)
    (hx : ev σ x = some (.slice ao len cap)) (hy : ev σ y = some (.int kd i)) [hs : IsS P t e] [ht : IsT P e α] (hk : k ≤ cap)
    (h : QL P L w Q rest n ((d, .slice ao k cap) :: σ)) : QL P L w Q (⟨some d, .slice t x none (some y) none, ty, pos, af, g⟩ :: rest) n σ := by
  subst hik
  refine QL.run hg hd (fun a ha w' _ => ?_) h
  have := run_cut (P := P) (t := t) (e := e) (α := α) (ao := ao) (len := len) (cap := cap) (lo := 0) (hi := k) w' (by omega) hk none (some (.int kd (k : Int))) (.inl ⟨rfl, rfl⟩) (.inr ⟨kd, rfl⟩)
  simp [execOp, ha.ev hx, ha.ev hy, this, Addr.add_zero']
end
theorem run_shr0 (P : Program) (w : World) (a : Int) (s : Nat) (h0 : 0 ≤ a) (h1 : a < 2 ^ s) (hs : s ≤ 62) (t : TypeId) : (binOp .shr t (.int .i64 a) (.int .i64 (s : Int))).run P w = .ok (.int .i64 0) w := by
  rw [binOp_shr, shift_shr_i64 (h₀ := by omega) (h₁ := by omega), Int.toNat_natCast, Int.ediv_eq_zero_of_lt h0 h1]; rfl
section
variable {P : Program} {Q : Exit → Act → World → Prop} {n : Nat} {σ : Sg} {w : World} {L rest : List Oper} {d : Nat} {ty : TypeId} {pos : String} {af : Array Edge} {g : Option (Nat × Bool)} {t yt : TypeId} {x y : Operand}
theorem QL.shr0 {a : Int} {s : Nat} (hg : gd L σ ⟨some d, .binOp .shr t x y yt, ty, pos, af, g⟩ = some true) (hd : Nat.ble (d + 1) n = true) (hx : ev σ x = some (.int .i64 a)) (hy : ev σ y = some (.int .i64 (s : Int))) (h0 : 0 ≤ a) (h1 : a < 2 ^ s) (hs : s ≤ 62)
    (h : QL P L w Q rest n ((d, .int .i64 0) :: σ)) : QL P L w Q (⟨some d, .binOp .shr t x y yt, ty, pos, af, g⟩ :: rest) n σ := by
  refine QL.run hg hd (fun a0 ha0 w' _ => ?_) h
  have := run_shr0 P w' a s h0 h1 hs t
  simp [execOp, ha0.ev hx, ha0.ev hy, eqG (op := .shr) rfl, this]
end
theorem straight_steps : stepsE straightP = ([(1, 0, 1), (2, 1, 0)], 0) := by
  have h : stepsL straightP = [(1, 0, 1), (2, 1, 0)] := by decide
  unfold stepsE
  rw [if_neg (by simp [straight_chk]), h]; rfl
theorem stepsE_ok {p : LProc} (h : (stepsE p).2 = 0) : chkPr p = 0 ∧ (stepsE p).1 = stepsL p ∧ (stepsL p).length ≤ 60 := by
  unfold stepsE at h ⊢
  split at h
  · rename_i h1; exact absurd h h1
  · split at h
    · simp at h
    · rename_i h1 h2
      rw [if_neg h1, if_neg h2]
      exact ⟨by simpa using h1, rfl, by omega⟩
theorem stepsE_bad {p : LProc} (h : (stepsE p).2 ≠ 0) : (stepsE p).1 = [] := by
  unfold stepsE at h ⊢
  split
  · rfl
  · split
    · rfl
    · rename_i h1 h2; rw [if_neg h1, if_neg h2] at h; exact absurd rfl h
theorem steps_any {p : LProc} (h : OkPr p) {n : Nat} (hn : n < p.1.length) : ((stepsL p).any (fun s : LStep => s.1 == (n : Int)) != (kindAt p n != 1)) = false := by
  have hs := stepsN_some h hn
  have : (stepsL p).any (fun s : LStep => s.1 == (n : Int)) = (kindAt p n != 1) := by
    rw [Bool.eq_iff_iff, List.any_eq_true, bne_iff_ne, ← hs]
    constructor
    · rintro ⟨s, hs, e⟩
      obtain ⟨m, hm, hsm⟩ := stepsP_mem.1 hs
      have := stepsK_node s hsm
      have e : s.1 = (n : Int) := by simpa using e
      obtain rfl : m = n := by omega
      intro e0
      rw [e0] at hsm; cases hsm
    · intro hne
      obtain ⟨s, hs⟩ := List.exists_mem_of_ne_nil _ hne
      exact ⟨s, stepsP_mem.2 ⟨n, hn, hs⟩, by simpa using stepsK_node s hs⟩
  rw [this]; simp
theorem nodup_take {α : Type} [BEq α] [LawfulBEq α] {l : List α} (h : l.Nodup) {i : Nat} (hi : i < l.length) : (l.take i).contains l[i] = false := by
  rw [List.contains_eq_mem, decide_eq_false_iff_not]
  intro hm
  obtain ⟨j, hj, e⟩ := List.mem_iff_getElem.1 hm
  rw [List.length_take] at hj
  rw [List.getElem_take] at e
  have := (List.getElem_inj h).1 e
  omega
end Go.Proofs.Ytljcnopekjinjaa
