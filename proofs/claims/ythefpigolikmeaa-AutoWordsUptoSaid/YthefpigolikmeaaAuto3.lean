/-
  Package auto: reached, round.
-/
import Derived.Test.YthefpigolikmeaaAuto2
set_option linter.unusedVariables false
set_option linter.unusedSimpArgs false
namespace Go.Proofs.Ythefpigolikmeaa
open Go.RowKit

def nzB (num : List Int) : List Bool := num.map fun x => decide (x ≠ 0)
structure NInv (g : Graph) (f num li todo : List Int) : Prop where
  ln : num.length = g.length
  nd : li.Nodup
  ok : okL g.length li
  val : ∀ k : Nat, k < g.length → num.getD k 0 = if (k : Int) ∈ li then (li.idxOf (k : Int) : Int) + 1 else 0
  rv : RInv g f (nzB num) todo
section
variable {g : Graph} {f num li todo : List Int}
theorem nzB_get {k : Nat} (h : k < num.length) : (nzB num).getD k false = decide (num.getD k 0 ≠ 0) := by
  unfold nzB
  rw [List.getD_eq_getElem?_getD, List.getD_eq_getElem?_getD, List.getElem?_map, List.getElem?_eq_getElem h]; rfl
theorem nzB_set {k : Nat} {v : Int} (hv : v ≠ 0) : nzB (num.set k v) = (nzB num).set k true := by
  unfold nzB; rw [List.map_set, decide_eq_true hv]
theorem NInv.start (hf : okL g.length f) : NInv g f (List.replicate g.length 0) [] f := by
  refine ⟨by simp, List.nodup_nil, (fun x hx => by cases hx), fun k hk => ?_, ?_⟩
  · rw [if_neg (by simp), List.getD_eq_getElem?_getD, List.getElem?_replicate, if_pos hk]; rfl
  · have : nzB (List.replicate g.length (0 : Int)) = List.replicate g.length false := by simp [nzB]
    rw [this]; exact RInv.start hf
theorem NInv.pass {x : Int} (h : NInv g f num li (todo ++ [x])) (hx : num.getD x.toNat 0 ≠ 0) : NInv g f num li todo := by
  have hxo := h.rv.ok x (by simp)
  refine ⟨h.ln, h.nd, h.ok, h.val, RInv.pass h.rv ?_⟩
  rw [nzB_get (by rw [h.ln]; omega)]
  simpa using hx
theorem NInv.mark {x : Int} (hg : okG g) (h : NInv g f num li (todo ++ [x])) (hx : num.getD x.toNat 0 = 0) : NInv g f (num.set x.toNat ((li.length : Int) + 1)) (li ++ [x]) (todo ++ g.getD x.toNat []) := by
  have hxo := h.rv.ok x (by simp)
  have hxn : ((x.toNat : Nat) : Int) = x := by omega
  have hxl : x.toNat < g.length := by omega
  have hni : x ∉ li := by
    intro hm
    have := h.val x.toNat hxl
    rw [hxn, if_pos hm, hx] at this
    omega
  refine ⟨by simpa using h.ln, ?_, ?_, fun k hk => ?_, ?_⟩
  · rw [List.nodup_append]
    refine ⟨h.nd, by simp, fun a ha b hb e => ?_⟩
    rw [List.mem_singleton] at hb; subst hb; subst e; exact hni ha
  · intro y hy
    rcases List.mem_append.1 hy with h1 | h1
    · exact h.ok y h1
    · rw [List.mem_singleton] at h1; subst h1; exact hxo
  · rw [getD_setI (by rw [h.ln]; exact hxl)]
    by_cases e : x.toNat = k
    · subst e
      rw [if_pos rfl, hxn, if_pos (by simp), List.idxOf_append, if_neg hni]
      simp
    · rw [if_neg e, h.val k hk]
      have hne : ¬ (k : Int) = x := by omega
      have hiff : ((k : Int) ∈ li ++ [x]) ↔ (k : Int) ∈ li := by
        rw [List.mem_append, List.mem_singleton]; exact ⟨fun h => h.resolve_right hne, .inl⟩
      by_cases hm : (k : Int) ∈ li
      · rw [if_pos hm, if_pos (hiff.2 hm), List.idxOf_append, if_pos hm]
      · rw [if_neg hm, if_neg (fun h => hm (hiff.1 h))]
  · rw [nzB_set (by omega)]; exact RInv.mark hg h.rv
theorem NInv.done (h : NInv g f num li []) (hg : okG g) (hf : okL g.length f) (x : Nat) : (x : Int) ∈ li ↔ Rch g f x := by
  have hr := h.rv.done
  constructor
  · intro hm
    have hx := h.ok _ hm
    have hxl : x < g.length := by omega
    have h1 : (nzB num).getD x false = true := by
      rw [nzB_get (by rw [h.ln]; exact hxl), h.val x hxl, if_pos hm]
      simp; omega
    exact h.rv.sound x h1
  · intro hm
    have hxl : x < g.length := by
      cases hm with
      | base hx => have := hf _ hx; omega
      | step _ hx => have := okG_row hg _ _ hx; omega
    have h1 : (rchB g f).getD x false = true := by
      rw [List.getD_eq_getElem?_getD, rchB_get hxl]; simp [hm]
    rw [← hr, nzB_get (by rw [h.ln]; exact hxl), h.val x hxl] at h1
    apply Classical.byContradiction
    intro hn
    rw [if_neg hn] at h1
    simp at h1
def smFull (g : Graph) (li : List Int) (i : Nat) : List Int := (g.getD (li.getD i 0).toNat []).map fun to => (li.idxOf to : Int)
theorem sm_ok (h : NInv g f num li []) (hg : okG g) (hf : okL g.length f) : RchdOK g f li ((List.range li.length).map (smFull g li)) := by
  refine ⟨h.done hg hf, fun x hx => (h.ok x hx).1, h.nd, by simp, fun i hi => ?_⟩
  rw [List.getD_eq_getElem?_getD, List.getElem?_map, List.getElem?_range hi]; rfl
end
theorem getDI_at {l : List Int} {j : Nat} (h : j < l.length) : l.getD j 0 = l[j] := by rw [List.getD_eq_getElem?_getD, List.getElem?_eq_getElem h]; rfl
theorem getDG_at {l : List (List Int)} {j : Nat} (h : j < l.length) : l.getD j [] = l[j] := by rw [List.getD_eq_getElem?_getD, List.getElem?_eq_getElem h]; rfl
theorem smFull_next {g : Graph} {li : List Int} {i j : Nat} (h : j < (g.getD (li.getD i 0).toNat []).length) : (smFull g li i).take (j + 1) = (smFull g li i).take j ++ [(li.idxOf (g.getD (li.getD i 0).toNat [])[j] : Int)] := by
  unfold smFull
  rw [← List.take_append_getElem (by simpa using h)]
  simp
theorem row_edges {g : Graph} : ∀ {i : Nat}, (h : i < g.length) → g[i].length ≤ edges g := by
  unfold edges
  induction g with
  | nil => intro i h; cases h
  | cons r g ih =>
    intro i h
    cases i with
    | zero => simp
    | succ i => have := ih (i := i) (by simpa using h); simp at this ⊢; omega
theorem nodup_len : ∀ (n : Nat) (l : List Nat), l.Nodup → (∀ x ∈ l, x < n) → l.length ≤ n
  | 0, l, _, h => by
    cases l with
    | nil => simp
    | cons x r => have := h x (by simp); omega
  | n + 1, l, hd, h => by
    by_cases hn : n ∈ l
    · have h1 := nodup_len n (l.erase n) (hd.erase n) (fun x hx => by
        have h2 := (List.Nodup.mem_erase_iff hd).1 hx
        have := h x h2.2; have := h2.1; omega)
      rw [List.length_erase_of_mem hn] at h1
      omega
    · have := nodup_len n l hd (fun x hx => by
        have h2 := h x hx
        have : x ≠ n := fun e => hn (e ▸ hx)
        omega)
      omega
theorem reached_ok (w0 : World) {ao fo : Option Addr} {cap fcap : Nat} {g : Graph} {f : List Int} (hs : Sl w0 (Old w0) ao cap g) (hf : Sl w0 (Old w0) fo fcap f)
    (hg : okG g) (hof : okL g.length f) (hT : f.length + edges g + g.length ≤ 1099511627776) :
    Rt Try.prog 130 [.slice ao g.length cap, .slice fo f.length fcap].toArray w0 fun r w' => ∃ v u li sm, r = .tuple ⟨[v, u]⟩ ∧ RchdOK g f li sm ∧ Rd w' (Old w') v li ∧ Rd w' (Old w') u sm ∧ Ext w0 w' := by
  have hm := hs.len63
  have hm2 := hf.len63
  refine Rt.enter2 Try.func130 Try.ntmps130 rfl rfl ?_
  (repeat (first | (apply WL.pure; rfl; rfl; rfl) | (apply WL.nil) | (apply EX.thenN) | (apply CW.seq) | (apply CW.region) | (apply WL.lenS; rfl; rfl; rfl)))
  refine WL.make (α := Int) rfl rfl rfl rfl (by omega) (by unfold maxLen; omega) (fun w1 ho1 hg1 => ?_)
  have hE1 : Ext w0 w1 := (Below.refl _ _).grown hg1 (Nat.le_refl _) (fun k h => by cases h)
  have hlt1 : w0.heap.size < w1.heap.size := (ho1.lt _ rfl).2.1
  (repeat (first | (apply WL.pure; rfl; rfl; rfl) | (apply WL.nil) | (apply EX.thenN) | (apply CW.seq) | (apply CW.region)))
  refine WL.call rfl rfl rfl (clone_int w1 (hf.up hE1) (by omega)) ?_
  rintro tv w2 ⟨ho2, hE2⟩
  (repeat (first | (apply WL.pure; rfl; rfl; rfl) | (apply WL.nil) | (apply EX.thenN) | (apply CW.seq) | (apply CW.region) | (apply CW.block)))
  generalize hsv : Value.slice (some ⟨w0.heap.size, 0, none⟩) g.length g.length = sv at *
  have hsb : sv.ownBlock = some w0.heap.size := by rw [← hsv]; rfl
  refine CW.loop (S := Value × Value × List Int × List Int × List Int) (fun s => [(0, .slice ao g.length cap), (6, sv), (7, s.1), (8, s.2.1)])
    (fun s w => NInv g f s.2.2.1 s.2.2.2.1 s.2.2.2.2 ∧ s.2.2.2.2.length + pot g (nzB s.2.2.1) ≤ f.length + edges g + g.length ∧ Own w w0.heap.size 3 Non sv s.2.2.1 ∧ Own w (w0.heap.size + 1) 3 Non s.1 s.2.2.2.2 ∧ Own w (w0.heap.size + 1) 3 Non s.2.1 s.2.2.2.1 ∧ Ext w0 w ∧ w1.heap.size ≤ w.heap.size ∧ (∀ k, s.1.ownBlock = some k → s.2.1.ownBlock = some k → False))
    (fun s => s.2.2.2.2.length + pot g (nzB s.2.2.1)) (tv, .slice none 0 0, List.replicate g.length 0, [], f) (by repeat (first | exact trivial | refine ⟨rfl, ?_⟩))
    ⟨NInv.start hof, ?_, ho1.extN hE2, ho2.low (by omega), Own.nil, hE1.trans hE2, hE2.size, fun k _ h => by cases h⟩ ?_
  · have e : nzB (List.replicate g.length (0 : Int)) = List.replicate g.length false := by simp [nzB]
    show f.length + pot g (nzB (List.replicate g.length 0)) ≤ _
    rw [e, pot_start]; omega
  rintro ⟨tv, lv, num, li, todo⟩ w ⟨hR, hpot, hso, hto, hlo, hB, hw1, hne⟩
  dsimp only at hR hpot hso hto hlo hne
  have hlil : li.length ≤ g.length := by
    have hnd : (li.map Int.toNat).Nodup := by
      rw [List.Nodup, List.pairwise_map]
      refine List.Pairwise.imp_of_mem ?_ hR.nd
      intro a b ha hb hab e
      have := hR.ok a ha; have := hR.ok b hb
      exact hab (by omega)
    have := nodup_len g.length (li.map Int.toNat) hnd (fun x hx => by
      obtain ⟨y, hy, rfl⟩ := List.mem_map.1 hx
      have := hR.ok y hy
      omega)
    simpa using this
  (repeat (first | (apply WL.pure; rfl; rfl; rfl) | (apply WL.nil) | (apply EX.thenN) | (apply CW.seq) | (apply CW.region) | (refine WL.lenO rfl rfl rfl (by assumption) ?_)))
  refine CW.cond rfl (fun h => ?_) (fun h => ?_)
  · simp at h
    have hlen : 0 < todo.length := by omega
    have hlast := take_last hlen
    (repeat (first | (apply WL.sub'; rfl; rfl; rfl; rfl; omega; omega) | (apply WL.pure; rfl; rfl; rfl) | (apply EX.thenN) | (apply CW.seq) | (apply CW.region) | (apply CW.block) | (apply CW.skip) | (refine WL.lenO rfl rfl rfl (by assumption) ?_)))
    refine WL.elemO rfl rfl rfl rfl rfl hto (by omega) (by omega) (fun _ => rfl) (fun u q hu => ?_)
    obtain rfl := hu.int
    have ei : ((todo.length : Int) - 1).toNat = todo.length - 1 := by omega
    simp only [ei]
    generalize hx : todo[todo.length - 1] = x at *
    generalize hrest : todo.take (todo.length - 1) = rest at *
    rw [hlast] at hR
    have hlr : todo.length = rest.length + 1 := by rw [hlast]; simp
    have hxo := hR.rv.ok x (by simp)
    (repeat (first | (apply WL.sub'; rfl; rfl; rfl; rfl; omega; omega) | (apply WL.pure; rfl; rfl; rfl) | (apply WL.nil) | (apply EX.thenN) | (apply CW.seq) | (apply CW.region) | (refine WL.lenO rfl rfl rfl (by assumption) ?_)))
    refine WL.cutHiO (α := Int) (todo.length - 1) (by omega) rfl rfl rfl rfl hto (by omega) (fun tv' hto' hb' => ?_)
    rw [hrest] at hto'
    have hne' : ∀ k, tv'.ownBlock = some k → lv.ownBlock = some k → False := fun k hk => hne k (by rw [← hb']; exact hk)
    (repeat (first | (apply WL.pure; rfl; rfl; rfl) | (apply WL.nil) | (apply EX.thenN) | (apply CW.seq) | (apply CW.region)))
    refine WL.elemO rfl rfl rfl rfl rfl hso (by omega) (by rw [hR.ln]; omega) (fun _ => rfl) (fun u q2 hu => ?_)
    obtain rfl := hu.int
    have hxl : x.toNat < num.length := by rw [hR.ln]; omega
    have hxd := getDI_at hxl
    (repeat (first | (apply WL.pure; rfl; rfl; rfl) | (apply WL.nil) | (apply EX.thenN)))
    refine CW.cond rfl (fun h2 => ?_) (fun h2 => ?_)
    · have hs0 : num.getD x.toNat 0 = 0 := by rw [hxd]; simpa using h2
      have hsz0 : (nzB num).getD x.toNat true = false := by
        have e1 := nzB_get hxl
        rw [hs0] at e1
        rw [List.getD_eq_getElem?_getD] at e1 ⊢
        cases e2 : (nzB num)[x.toNat]? with
        | none => exfalso; rw [List.getElem?_eq_none_iff] at e2; simp [nzB] at e2; omega
        | some b => rw [e2] at e1; simpa using e1
      have hpm := pot_set g (nzB num) x.toNat (by omega) hR.rv.len hsz0
      have hmk := NInv.mark hg hR hs0
      (repeat (first | (apply WL.pure; rfl; rfl; rfl) | (apply CW.seq) | (apply CW.region)))
      refine WL.app1 (F := Non) (yv := x) rfl rfl (fun _ => rfl) rfl rfl (fun _ => rfl) hlo (Rd.mkInt _ _ _) (by omega) (fun _ h => h.elim) (by decide) (by unfold maxLen; omega) (by omega) (fun lv' w3 p ho3 hg3 hnb => ?_)
      have hB3 : Ext w0 w3 := hB.grown hg3 hB.size (fun k hk => by have := (hlo.lt k hk).1; omega)
      have hso3 : Own w3 w0.heap.size 3 Non sv num := hso.keptN hg3 (fun k hk e => by rw [hsb] at hk; cases hk; have := (hlo.lt _ e.symm).1; omega)
      have hto3 : Own w3 (w0.heap.size + 1) 3 Non tv' rest := hto'.keptN hg3 (fun k hk e => hne' k hk e.symm)
      have hne3 : ∀ k, tv'.ownBlock = some k → lv'.ownBlock = some k → False := fun k h1 h2 => by
        rcases hnb k h2 with h3 | h3
        · exact hne' k h1 h3
        · have := (hto'.lt k h1).2.1; omega
      have hw3 := hg3.size
      (repeat (first | (apply WL.pure; rfl; rfl; rfl) | (apply WL.nil) | (apply EX.thenN) | (apply CW.seq) | (apply CW.region) | (refine WL.lenO rfl rfl rfl (by assumption) ?_)))
      refine WL.set rfl rfl rfl rfl hso3 (by omega) (by rw [hR.ln]; omega) (fun _ => rfl) (fun _ => rfl) (Rd.mkInt _ _ _) (fun w4 q3 hso4 hg4 => ?_)
      have hB4 : Ext w0 w4 := hB3.grown hg4 hB3.size (fun k hk => by rw [hsb] at hk; cases hk; exact Nat.le_refl _)
      have hto4 : Own w4 (w0.heap.size + 1) 3 Non tv' rest := hto3.keptN hg4 (fun k hk e => by rw [hsb] at e; cases e; have := (hto3.lt _ hk).1; omega)
      have hlo4 : Own w4 (w0.heap.size + 1) 3 Non lv' (li ++ [x]) := ho3.keptN hg4 (fun k hk e => by rw [hsb] at e; cases e; have := (ho3.lt _ hk).1; omega)
      have hw4 := hg4.size
      (repeat (first | (apply WL.pure; rfl; rfl; rfl) | (apply WL.nil) | (apply EX.thenN) | (apply CW.region)))
      have hxg : x.toNat < g.length := by omega
      refine WL.elem rfl rfl rfl rfl rfl (hs.at hB4) (by omega) (by omega) (fun _ => rfl) (fun u q4 hu => ?_)
      obtain ⟨ro, rcap, rfl, hrow⟩ := hu.sl
      have erow : g.getD x.toNat [] = g[x.toNat] := getDG_at hxg
      rw [erow] at hpm hmk
      skip
      refine WL.app (F := Non) rfl rfl rfl rfl hto4 hrow.srcN (by omega) (fun _ h => h.elim) (by unfold maxLen; omega) (by omega) (fun tv5 w5 ho5 hg5 hn5 => ?_)
      (repeat (first | (apply WL.pure; rfl; rfl; rfl) | (apply WL.nil) | (apply EX.inN)))
      have elen : (((li ++ [x]).length : Nat) : Int) = (li.length : Int) + 1 := by simp
      rw [elen] at hso4
      refine EX.back (tv5, lv', num.set x.toNat ((li.length : Int) + 1), li ++ [x], rest ++ g[x.toNat]) (by repeat (first | exact trivial | refine ⟨rfl, ?_⟩)) ⟨hmk, ?_, ?_, ho5, ?_, ?_, ?_, ?_⟩ ?_
      · dsimp only
        rw [nzB_set (by omega), List.length_append]; omega
      · exact hso4.keptN hg5 (fun k hk e => by rw [hsb] at hk; cases hk; have := (hto4.lt _ e.symm).1; omega)
      · exact hlo4.keptN hg5 (fun k hk e => hne3 k e.symm hk)
      · exact hB4.grown hg5 hB4.size (fun k hk => by have := (hto4.lt k hk).1; omega)
      · have := hg5.size; omega
      · intro k h1 h2
        rcases hn5 k h1 with h3 | h3
        · exact hne3 k h3 h2
        · have := (hlo4.lt k h2).2.1; omega
      · dsimp only
        rw [nzB_set (by omega), List.length_append]; omega
    · have hs0 : num.getD x.toNat 0 ≠ 0 := by rw [hxd]; simpa using h2
      (repeat (first | (apply EX.inN) | (apply CW.skip)))
      exact EX.back (tv', lv, num, li, rest) (by repeat (first | exact trivial | refine ⟨rfl, ?_⟩)) ⟨NInv.pass hR hs0, by dsimp only; omega, hso, hto', hlo, hB, hw1, hne'⟩ (by dsimp only; omega)
  · have htn : todo = [] := by simpa using h
    subst htn
    have hsm := sm_ok hR hg hof
    obtain ⟨lo, lc, rfl, hlis⟩ := hlo.oldN.sl
    (repeat (first | (apply WL.pure; rfl; rfl; rfl) | (apply EX.thenN) | (apply CW.seq) | (apply CW.region) | (apply WL.lenS; rfl; rfl; rfl) | (apply CW.exit) | (apply EX.thenX) | (apply EX.inX)))
    refine WL.make (α := Raw) rfl rfl rfl rfl (by omega) (by unfold maxLen; omega) (fun w3 ho3 hg3 => ?_)
    have hE3 : Ext w w3 := (Below.refl _ _).grown hg3 (Nat.le_refl _) (fun k h => by cases h)
    have hN3 : OwnN w3 w.heap.size 22 3 (.slice (some ⟨w.heap.size, 0, none⟩) li.length li.length) _ (List.replicate li.length ([] : List Int)) := OwnN.made ho3
    rw [← gridP_start (full := smFull g li)] at hN3
    have hnum : Sl w (Old w) (some ⟨w0.heap.size, 0, none⟩) g.length num := by
      obtain ⟨a, c, e, h⟩ := hso.oldN.sl
      rw [← hsv] at e
      obtain ⟨rfl, e2, rfl⟩ := Value.slice.inj e
      exact h
    have hlnum := hR.ln
    rw [← hsv]
    rw [← hlnum] at hnum
    clear ho3 hg3 hso hto hlo
    (repeat (first | (apply WL.pure; rfl; rfl; rfl) | (apply WL.nil) | (apply EX.thenN) | (apply CW.seq) | (apply CW.region) | (apply WL.lenS; rfl; rfl; rfl) | (apply CW.block)))
    refine CW.loop (S := Nat × List Raw) (fun s => [(0, .slice ao g.length cap), (6, .slice (some ⟨w0.heap.size, 0, none⟩) g.length g.length), (8, .slice lo li.length lc), (10, .slice (some ⟨w.heap.size, 0, none⟩) li.length li.length), (57, .slice lo li.length lc), (58, .int .i64 li.length), (59, .int .i64 s.1)])
      (fun s x => s.1 ≤ li.length ∧ OwnN x w.heap.size 22 3 (.slice (some ⟨w.heap.size, 0, none⟩) li.length li.length) s.2 (gridP li.length (smFull g li) s.1 []) ∧ Ext w x) (fun s => li.length - s.1) (0, _) (by repeat (first | exact trivial | refine ⟨rfl, ?_⟩)) ⟨Nat.zero_le _, hN3, hE3⟩ ?_
    rintro ⟨i, vs⟩ w4 ⟨hi, hN, e4⟩
    dsimp only at hi hN
    (repeat (first | (apply WL.pure; rfl; rfl; rfl) | (apply WL.nil) | (apply EX.thenN) | (apply CW.seq) | (apply CW.region)))
    refine CW.cond rfl (fun h => ?_) (fun h => ?_)
    · have hi' : i < li.length := by simp at h; omega
      have hlx := hR.ok _ (List.getElem_mem hi')
      obtain ⟨x, ex⟩ := Int.eq_ofNat_of_zero_le hlx.1
      have hxg : x < g.length := by omega
      have exn : (li.getD i 0).toNat = x := by rw [getDI_at hi', ex]; omega
      have erow : g.getD (li.getD i 0).toNat [] = g[x] := by rw [exn]; exact getDG_at hxg
      (repeat (first | (apply WL.pure; rfl; rfl; rfl) | (apply EX.thenN) | (apply CW.seq) | (apply CW.region) | (apply CW.block) | (apply CW.skip)))
      refine WL.elemI rfl rfl rfl rfl rfl (hlis.up e4) hi' ex (fun _ => rfl) (fun q => ?_)
      (repeat (first | (apply WL.pure; rfl; rfl; rfl) | (apply WL.nil) | (apply EX.thenN) | (apply CW.seq) | (apply CW.region)))
      refine WL.elemN rfl rfl rfl rfl rfl (hs.at (hB.trans e4)) hxg (fun _ => rfl) (fun u q hu => ?_)
      obtain ⟨ro, rc, rfl, hrow⟩ := hu.sl
      have hre := row_edges hxg
      have hrl := hrow.len63
      (repeat (first | (apply WL.pure; rfl; rfl; rfl) | (apply WL.nil) | (apply EX.thenN) | (apply WL.lenS; rfl; rfl; rfl) | (apply CW.block)))
      refine CW.loop (S := Nat × List Raw) (fun s => [(0, .slice ao g.length cap), (6, .slice (some ⟨w0.heap.size, 0, none⟩) g.length g.length), (8, .slice lo li.length lc), (10, .slice (some ⟨w.heap.size, 0, none⟩) li.length li.length), (11, .int .i64 i), (57, .slice lo li.length lc), (58, .int .i64 li.length), (59, .int .i64 i), (67, .slice ro g[x].length rc), (68, .int .i64 g[x].length), (69, .int .i64 s.1)])
        (fun s z => s.1 ≤ g[x].length ∧ OwnN z w.heap.size 22 3 (.slice (some ⟨w.heap.size, 0, none⟩) li.length li.length) s.2 (gridP li.length (smFull g li) i ((smFull g li i).take s.1)) ∧ Ext w z) (fun s => g[x].length - s.1) (0, vs) (by repeat (first | exact trivial | refine ⟨rfl, ?_⟩)) ⟨Nat.zero_le _, by rw [List.take_zero]; exact hN, e4⟩ ?_
      rintro ⟨j, vs⟩ w5 ⟨hj, hN, e5⟩
      dsimp only at hj hN
      have hrow5 : Sl w5 (Old w0) ro rc g[x] := hrow.mono (fun b hb => ((hB.trans e5).block b hb).trans ((hB.trans e4).block b hb).symm) (fun _ h => h)
      (repeat (first | (apply WL.pure; rfl; rfl; rfl) | (apply WL.nil) | (apply EX.thenN) | (apply CW.seq) | (apply CW.region)))
      refine CW.cond rfl (fun h => ?_) (fun h => ?_)
      · have hj' : j < g[x].length := by simp at h; omega
        have hto := hg _ (List.getElem_mem hxg) _ (List.getElem_mem hj')
        obtain ⟨to, eto⟩ := Int.eq_ofNat_of_zero_le hto.1
        have htol : to < g.length := by omega
        have htn : to < num.length := by omega
        (repeat (first | (apply EX.thenN) | (apply CW.seq) | (apply CW.region) | (apply CW.block) | (apply CW.skip)))
        refine WL.elemI rfl rfl rfl rfl rfl hrow5 hj' eto (fun _ => rfl) (fun q => ?_)
        (repeat (apply WL.pure; rfl; rfl; rfl))
        apply WL.nil
        apply EX.thenN
        have hlen := hN.len
        rw [gridP_len] at hlen
        have hiv : i < vs.length := by omega
        have hd := Ext.drew w5
        have hNd := hN.ext hd
        have hin := hNd.inn i hiv (by rw [gridP_len]; exact hi')
        rw [gridP_get hi'] at hin
        obtain ⟨oo, oc, hov, hout⟩ := hNd.out.slF (F' := fun b => b = w.heap.size) (fun _ h => h.elim) (fun g hg => by cases hg; rfl)
        obtain ⟨rfl, _, rfl⟩ := Value.slice.inj hov
        have hnumd : Sl (drew w5) (Old w) (some ⟨w0.heap.size, 0, none⟩) num.length num := hnum.at (e5.trans hd)
        have hnext := smFull_next (g := g) (li := li) (i := i) (j := j) (by rw [erow]; exact hj')
        have hgj : (g.getD (li.getD i 0).toNat [])[j]'(by rw [erow]; exact hj') = (to : Int) := by simp only [erow]; exact eto
        rw [hgj] at hnext
        have hmem : (to : Int) ∈ li := by
          refine (hR.done hg hof to).2 ?_
          have h1 := (hR.done hg hof x).1 (by rw [← ex]; exact List.getElem_mem hi')
          have h2 := Rch.step (x := (to : Int)) h1 (by rw [getDG_at hxg, ← eto]; exact List.getElem_mem hj')
          simpa using h2
        have hnv : num[to] = (li.idxOf (to : Int) : Int) + 1 := by rw [← getDI_at htn, hR.val to htol, if_pos hmem]
        have hsl : (smFull g li i).length = g[x].length := by unfold smFull; rw [List.length_map, erow]
        have hsz : w.heap.size < w5.heap.size := (hN.out.lt _ rfl).2.1
        have hszd := hd.size
        refine CW.drawE (fun z : World => ∀ b, b ≤ w.heap.size → z.heap[b]? = (drew w5).heap[b]?) [(0, true), (1, true), (2, true), (3, true), (4, true), (5, true), (6, true), (7, true), (8, true), (9, true), (10, true), (11, false), (12, false), (13, true)] 14 mixed (by kernel_rfl) (fun _ _ => rfl) ?_
        (repeat (apply HL.pure; rfl; rfl; rfl; rfl))
        rw [← hlen] at hout ⊢
        refine HL.elemK (w := drew w5) (F := fun b => b = w.heap.size) (fun z hz b hb => hz b (by rw [hb]; exact Nat.le_refl _)) rfl rfl rfl rfl rfl rfl rfl hout hiv (fun _ => rfl) (fun u q hu => ?_)
        obtain ⟨rfl, _⟩ := hu.raw
        rw [hlen]
        (repeat (apply HL.pure; rfl; rfl; rfl; rfl))
        rw [← hlnum]
        refine HL.elemK (w := drew w5) (F := Old w) (fun z hz b hb => hz b (Nat.le_of_lt hb)) rfl rfl rfl rfl rfl rfl rfl hnumd htn (fun _ => rfl) (fun u q hu => ?_)
        obtain rfl := hu.int
        rw [hlnum, hnv]
        have hix := List.idxOf_lt_length_iff.2 hmem
        (repeat (apply HL.sub'; rfl; rfl; rfl; rfl; rfl; omega; omega))
        rw [show (li.idxOf (to : Int) : Int) + 1 - 1 = (li.idxOf (to : Int) : Int) by omega]
        refine HL.app1 (bytes := 8) rfl rfl rfl rfl (fun _ => rfl) rfl rfl (fun _ => rfl) hin (Rd.mkInt _ _ _) (by omega) (fun _ h => h.elim) (by decide) (by rw [List.length_take]; unfold maxLen; omega) (by rw [List.length_take]; omega)
          (fun z hz b hb => hz.block b (by omega) (fun e => ?_)) (fun v' w6 p ho6 hg6 hnb => ?_)
        · rcases Nat.lt_or_ge b w.heap.size with h1 | h1
          · have := (hin.lt b e.symm).1; omega
          · obtain rfl : b = w.heap.size := by omega
            exact hNd.dio i hiv _ e.symm rfl
        rw [← hnext] at ho6
        have hmid := hNd.mid hiv hg6
        skip
        refine HL.setTail (yv := (⟨v'⟩ : Raw)) rfl rfl rfl rfl rfl rfl hmid hiv (fun _ => rfl) (fun _ => rfl) (Rd.mkRaw _ _ _ ?_) (fun w7 q ho7 hg7 => ?_)
        · obtain ⟨a, b, rfl⟩ := ho6.val; rfl
        have hN7 := hNd.set hiv ho6 hg6 hnb ho7 hg7
        rw [gridP_set hi'] at hN7
        have e5d := e5.trans hd
        have e7 : Ext w w7 := (e5d.grown hg6 e5d.size (fun b hb => (hin.lt b hb).1)).grown hg7 (Nat.le_trans e5d.size hg6.size) (fun b hb => (hNd.out.lt b hb).1)
        (repeat (first | (apply WL.add; rfl; rfl; rfl; rfl; omega; omega) | (apply WL.pure; rfl; rfl; rfl) | (apply WL.nil) | (apply EX.thenN) | (apply CW.region) | (apply EX.inN)))
        exact EX.back (j + 1, vs.set i ⟨v'⟩) (by repeat (first | exact trivial | refine ⟨rfl, ?_⟩)) ⟨hj', hN7, e7⟩ (by dsimp only; omega)
      · obtain rfl : j = g[x].length := by simp at h; omega
        (repeat (first | (apply WL.add; rfl; rfl; rfl; rfl; omega; omega) | (apply WL.pure; rfl; rfl; rfl) | (apply WL.nil) | (apply EX.thenN) | (apply CW.region) | (apply EX.inN) | (apply CW.exit) | (apply EX.thenX) | (apply EX.inX)))
        refine EX.back (i + 1, vs) (by repeat (first | exact trivial | refine ⟨rfl, ?_⟩)) ⟨hi', ?_, e5⟩ (by dsimp only; omega)
        have hsl : (smFull g li i).length = g[x].length := by unfold smFull; rw [List.length_map, erow]
        rw [← hsl, List.take_length, gridP_next] at hN
        exact hN
    · obtain rfl : i = li.length := by simp at h; omega
      rw [gridP_done] at hN
      (repeat (first | (apply WL.pure; rfl; rfl; rfl) | (apply WL.nil) | (apply EX.thenN) | (apply CW.seq) | (apply CW.region) | (apply CW.exit) | (apply EX.thenX) | (apply EX.inX) | (apply CW.ret)))
      exact EX.ret2 rfl rfl rfl ⟨_, _, li, _, rfl, hsm, (hlis.up e4).rd, hN.old, hB.trans e4⟩
end Go.Proofs.Ythefpigolikmeaa
