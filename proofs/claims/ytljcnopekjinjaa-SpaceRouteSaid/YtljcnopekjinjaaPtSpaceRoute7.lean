import Derived.Lib.RabinKarpLaws
import Derived.Test.YtljcnopekjinjaaPtSpaceRoute6
/-
  Package game: Begin, check, come: walked.
-/
set_option linter.unusedVariables false
set_option linter.unusedSimpArgs false
namespace Go.Proofs.Ytljcnopekjinjaa
open Go.RowKit

def fillN (f : Nat → Int) (F i : Nat) : List Int := (List.range F).map fun j => if j < i then f j else 0
theorem fillN_len {f : Nat → Int} {F i : Nat} : (fillN f F i).length = F := by simp [fillN]
theorem fillN_zero {f : Nat → Int} {F : Nat} : fillN f F 0 = List.replicate F 0 := by
  unfold fillN
  apply List.ext_getElem (by simp)
  intro j h1 h2; simp
theorem fillN_set {f : Nat → Int} {F i : Nat} (hi : i < F) : (fillN f F i).set i (f i) = fillN f F (i + 1) := by
  unfold fillN
  apply List.ext_getElem (by simp)
  intro j h1 h2
  rw [List.getElem_set]
  simp only [List.getElem_map, List.getElem_range]
  by_cases e : i = j
  · subst e; rw [if_pos rfl, if_pos (by omega)]
  · rw [if_neg e]
    by_cases h : j < i
    · rw [if_pos h, if_pos (by omega)]
    · rw [if_neg h, if_neg (by omega)]
theorem fillN_skip {f : Nat → Int} {F i : Nat} (h0 : f i = 0) : fillN f F i = fillN f F (i + 1) := by
  unfold fillN
  apply List.ext_getElem (by simp)
  intro j h1 h2
  simp only [List.getElem_map, List.getElem_range]
  by_cases e : i = j
  · subst e; rw [if_neg (by omega), if_pos (by omega), h0]
  · by_cases h : j < i
    · rw [if_pos h, if_pos (by omega)]
    · rw [if_neg h, if_neg (by omega)]
theorem Rd.pairI {w : World} {F : Nat → Prop} {v : Value} {x : Int × Int} (h : Rd w F v x) : v = .agg [.int .i64 x.1, .int .i64 x.2].toArray := by
  obtain ⟨c1, c2, rfl, h1, h2⟩ := h.pr
  rw [rd_int h1, rd_int h2]; rfl
theorem kindAt_at {ns : List LNode} {fl : List LFlow} {n : Nat} (h : n < ns.length) : kindAt (ns, fl) n = ns[n].2 := by unfold kindAt; rw [getDNd_at h]
theorem okPr_flow {ns : List LNode} {fl : List LFlow} (h : OkPr (ns, fl)) {i : Nat} (hi : i < fl.length) : ∃ a b : Nat, fl[i].1 = (a : Int) ∧ fl[i].2 = (b : Int) ∧ a < ns.length ∧ b < ns.length := by
  have := h.flows _ (List.getElem_mem hi)
  dsimp only at this
  exact ⟨fl[i].1.toNat, fl[i].2.toNat, by omega, by omega, by omega, by omega⟩
theorem Begin_ok (w0 : World) {so fo : Option Addr} {sc fc : Nat} {ns : List LNode} {fl : List LFlow} (hs : Sl w0 (Old w0) so sc ns) (hf : Sl w0 (Old w0) fo fc fl) :
    Rt Try.prog 49 [procV so sc fo fc ns.length fl.length].toArray w0 fun v w' => ∃ x, v = .tuple ⟨[x, .int .i64 (stepsE (ns, fl)).2]⟩ ∧ Own w' w0.heap.size 3 Non x (if (stepsE (ns, fl)).2 = 0 then beginL (ns, fl) else []) ∧ Ext w0 w' := by
  have hms := hs.len63
  have hmf := hf.len63
  refine Rt.enter1 Try.func49 Try.ntmps49 rfl rfl ?_
  have hE := Ext.refl w0
  (repeat (first | (apply CW.seq) | (apply CW.region)))
  refine WL.boxB rfl rfl rfl fun w1 hb1 e1 => ?_
  have hE := hE.trans e1
  (repeat (first | (apply WL.pure; rfl; rfl; rfl) | (apply WL.nil) | (apply EX.thenN) | (apply CW.seq) | (apply CW.region) | (apply WL.ldA; rfl; rfl; rfl; assumption; rfl)))
  refine WL.call rfl rfl rfl (Of_ok w1 (hs.up hE) (hf.up hE)) ?_
  rintro _ w2 ⟨x, rfl, hox, e2⟩
  have hb1 := hb1.ext e2
  have hE := hE.trans e2
  by_cases hz : (stepsE (ns, fl)).2 = 0
  case neg =>
    have hz1 : ((stepsE (ns, fl)).2 != 0) = true := by simpa using hz
    (repeat (first | (apply WL.pure; rfl; rfl; rfl) | (apply WL.nil) | (apply EX.thenN) | (apply CW.seq) | (apply CW.region)))
    rw [hz1]
    (repeat (first | (apply WL.pure; rfl; rfl; rfl) | (apply WL.nil) | (apply EX.thenN) | (apply CW.seq) | (apply CW.region) | (apply CW.condT; rfl) | (apply CW.ret) | (apply EX.thenR)))
    refine EX.ret2 rfl rfl rfl ⟨_, rfl, ?_, hE⟩
    rw [if_neg hz]; exact Own.nil
  obtain ⟨hc0, _, _⟩ := stepsE_ok hz
  rw [if_pos hz, hz]
  have hok := chkPr_ok hc0
  have hn20 := hok.n
  have hf30 := hok.f
  dsimp only at hn20 hf30
  clear hox
  (repeat (first | (apply WL.pure; rfl; rfl; rfl) | (apply WL.nil) | (apply EX.thenN) | (apply CW.seq) | (apply CW.region) | (apply WL.lenS; rfl; rfl; rfl) | (apply WL.fa; rfl; rfl; rfl) | (apply WL.ld; rfl; rfl; rfl; assumption; rfl) | (apply CW.condF; rfl) | (apply CW.skip)))
  refine WL.make (α := Int) rfl rfl rfl rfl (by omega) (by unfold maxLen; omega) (fun w3 ho3 hg3 => ?_)
  have hE3 : Ext w0 w3 := hE.grown hg3 hE.size (fun k h => by cases h)
  have e3 : Ext w2 w3 := (Below.refl _ _).grown hg3 (Nat.le_refl _) (fun k h => by cases h)
  have hb2 := hb1
  have hb1 := hb1.ext e3
  have hlt := (ho3.lt _ rfl).2.1
  generalize hsv : Value.slice (some ⟨w2.heap.size, 0, none⟩) fl.length fl.length = sv at *
  (repeat (first | (apply WL.pure; rfl; rfl; rfl) | (apply WL.nil) | (apply EX.thenN) | (apply CW.seq) | (apply CW.region) | (apply WL.lenS; rfl; rfl; rfl) | (apply WL.fa; rfl; rfl; rfl) | (apply WL.ld; rfl; rfl; rfl; assumption; rfl) | (apply CW.block)))
  refine CW.loop (S := Nat) (fun i => [(1, .pointer (some ⟨w0.heap.size, 0, none⟩)), (6, sv), (22, .slice fo fl.length fc), (23, .int .i64 fl.length), (24, .int .i64 i)])
    (fun i w => i ≤ fl.length ∧ Own w w2.heap.size 3 Non sv (fillN (fun j => if kindAt (ns, fl) (fl.getD j (0, 0)).1.toNat = 1 then 1 else 0) fl.length i) ∧ Ext w2 w) (fun i => fl.length - i) 0 (by repeat (first | exact trivial | refine ⟨rfl, ?_⟩)) ⟨by omega, by rw [fillN_zero]; exact ho3, e3⟩ ?_
  rintro i w4 ⟨hi, ho, e4⟩
  have hb1 := hb2.ext e4
  have hE4 := hE.trans e4
  (repeat (first | (apply WL.pure; rfl; rfl; rfl) | (apply WL.nil) | (apply EX.thenN) | (apply CW.seq) | (apply CW.region)))
  refine CW.cond rfl (fun h => ?_) (fun h => ?_)
  · have hi' : i < fl.length := by simp at h; omega
    obtain ⟨a, b, ea, eb, ha, hb⟩ := okPr_flow hok hi'
    (repeat (first | (apply WL.pure; rfl; rfl; rfl) | (apply EX.thenN) | (apply CW.seq) | (apply CW.region) | (apply CW.block) | (apply CW.skip)))
    refine WL.elemN rfl rfl rfl rfl rfl (hf.up hE4) hi' (fun _ => rfl) (fun u q hu => ?_)
    rw [hu.pairI, ea, eb]
    clear hu
    skip
    refine WL.alloc rfl rfl (fun w5 hb8 e5 => ?_)
    (repeat (apply WL.pure; rfl; rfl; rfl))
    refine WL.st rfl rfl rfl hb8 rfl rfl (ones_of rfl) (fun w6 hb8 hg6 => ?_)
    have e6 : Ext w4 w6 := e5.grown hg6 e5.size (fun g hg => by cases hg; exact Nat.le_refl _)
    have hb1 := hb1.ext e6
    have hE6 := hE4.trans e6
    have ho := ho.extN e6
    obtain ⟨nb, off, rfl, hnb, hnc⟩ := (hs.at hE6).nodeK ha
    have hkk : kindAt (ns, fl) (fl.getD i (0, 0)).1.toNat = ns[a].2 := by rw [getDF_at hi', ea, Int.toNat_natCast, kindAt_at ha]
    (repeat (first | (apply WL.nil) | (apply EX.thenN) | (apply CW.seq) | (apply CW.region) | (apply WL.fa; rfl; rfl; rfl) | (apply WL.ld; rfl; rfl; rfl; assumption; rfl)))
    refine WL.idx (α := LNode) rfl rfl rfl rfl (by omega) (by omega) ?_
    (repeat (apply WL.fa; rfl; rfl; rfl))
    refine WL.load (α := Int) (F := Non) (y := ns[a].2) rfl rfl rfl (by rw [Int.toNat_natCast]; exact hnc) rfl ?_
    rw [show vOf Int [.int .i64 ns[a].2] = .int .i64 ns[a].2 from rfl]
    (repeat (first | (apply WL.pure; rfl; rfl; rfl) | (apply WL.nil) | (apply EX.thenN)))
    refine CW.cond rfl (fun h => ?_) (fun h => ?_)
    · have h : ns[a].2 = 1 := by simpa using h
      (repeat (first | (apply WL.pure; rfl; rfl; rfl) | (apply CW.region)))
      refine WL.setN (u := .int .i64 1) (yv := (1 : Int)) rfl rfl rfl rfl ho (by rw [fillN_len]; exact hi') (fun _ => rfl) (fun _ => rfl) (Rd.mkInt _ _ _) (fun w7 q ho7 hg7 => ?_)
      have e7 : Ext w2 w7 := (e4.trans e6).grown hg7 (e4.trans e6).size (fun b hb => (ho.lt b hb).1)
      (repeat (first | (apply WL.add; rfl; rfl; rfl; rfl; omega; omega) | (apply WL.pure; rfl; rfl; rfl) | (apply WL.nil) | (apply EX.thenN) | (apply CW.region) | (apply EX.inN)))
      refine EX.back (i + 1) (by repeat (first | exact trivial | refine ⟨rfl, ?_⟩)) ⟨hi', ?_, e7⟩ (by omega)
      rw [← fillN_set hi', hkk, if_pos h]; exact ho7
    · have h : ¬ ns[a].2 = 1 := by simpa using h
      (repeat (first | (apply WL.add; rfl; rfl; rfl; rfl; omega; omega) | (apply WL.pure; rfl; rfl; rfl) | (apply WL.nil) | (apply EX.thenN) | (apply CW.region) | (apply EX.inN) | (apply CW.skip)))
      refine EX.back (i + 1) (by repeat (first | exact trivial | refine ⟨rfl, ?_⟩)) ⟨hi', ?_, e4.trans e6⟩ (by omega)
      rw [← fillN_skip (by rw [hkk, if_neg h])]; exact ho
  · obtain rfl : i = fl.length := by simp at h; omega
    have : fillN (fun j => if kindAt (ns, fl) (fl.getD j (0, 0)).1.toNat = 1 then 1 else 0) fl.length fl.length = beginL (ns, fl) := by
      unfold fillN beginL
      apply List.ext_getElem (by simp)
      intro j h1 h2
      have hj : j < fl.length := by simpa using h1
      simp only [List.getElem_map, List.getElem_range, if_pos hj]
      rw [getDF_at hj]
    rw [this] at ho
    (repeat (first | (apply WL.pure; rfl; rfl; rfl) | (apply WL.nil) | (apply EX.thenN) | (apply CW.seq) | (apply CW.region) | (apply CW.exit) | (apply EX.thenX) | (apply EX.inX) | (apply CW.ret)))
    exact EX.ret2 rfl rfl rfl ⟨_, rfl, ho.low hE.size, hE4⟩
theorem tok_ok (w : World) (n : Int) : Rt Try.prog 92 [.int .i64 n].toArray w fun v w' => v = .bool (tokB n) ∧ Ext w w' := by
  refine Rt.enter1 Try.func92 Try.ntmps92 rfl rfl ?_
  (repeat (first | (apply WL.pure; rfl; rfl; rfl) | (apply WL.nil) | (apply EX.thenN) | (apply CW.seq) | (apply CW.region)))
  by_cases h : n < 0
  · rw [decide_eq_true h]
    (repeat (first | (apply WL.pure; rfl; rfl; rfl) | (apply WL.nil) | (apply EX.thenN) | (apply WL.pass; rfl; rfl) | (apply CW.ret)))
    exact EX.ret1 rfl rfl ⟨by unfold tokB; rw [decide_eq_true h]; rfl, Ext.refl _⟩
  · rw [decide_eq_false h]
    (repeat (first | (apply WL.pure; rfl; rfl; rfl) | (apply WL.nil) | (apply EX.thenN) | (apply CW.ret)))
    exact EX.ret1 rfl rfl ⟨by unfold tokB; rw [decide_eq_false h]; rfl, Ext.refl _⟩
theorem check_ok (w0 : World) {so fo mo : Option Addr} {sc fc mc : Nat} {ns : List LNode} {fl : List LFlow} {m : List Int} (hs : Sl w0 (Old w0) so sc ns) (hf : Sl w0 (Old w0) fo fc fl) (hm : Sl w0 (Old w0) mo mc m) :
    Rt Try.prog 59 [procV so sc fo fc ns.length fl.length, .slice mo m.length mc].toArray w0 fun v w' => ∃ x, v = .tuple ⟨[x, .int .i64 (chkM (ns, fl) m)]⟩ ∧ Own w' w0.heap.size 92 Non x (if chkM (ns, fl) m = 0 then stepsL (ns, fl) else []) ∧ Ext w0 w' := by
  have hmf := hf.len63
  have hmm := hm.len63
  refine Rt.enter2 Try.func59 Try.ntmps59 rfl rfl ?_
  have hE := Ext.refl w0
  (repeat (first | (apply CW.seq) | (apply CW.region)))
  refine WL.boxB rfl rfl rfl fun w1 hb1 e1 => ?_
  have hE := hE.trans e1
  (repeat (first | (apply WL.pure; rfl; rfl; rfl) | (apply WL.nil) | (apply EX.thenN) | (apply CW.seq) | (apply CW.region) | (apply WL.ldA; rfl; rfl; rfl; assumption; rfl)))
  refine WL.call rfl rfl rfl (Of_ok w1 (hs.up hE) (hf.up hE)) ?_
  rintro _ w2 ⟨x, rfl, hox, e2⟩
  have hb1 := hb1.ext e2
  have hE := hE.trans e2
  unfold chkM
  by_cases hz : (stepsE (ns, fl)).2 = 0
  case neg =>
    have hz1 : ((stepsE (ns, fl)).2 != 0) = true := by simpa using hz
    (repeat (first | (apply WL.pure; rfl; rfl; rfl) | (apply WL.nil) | (apply EX.thenN) | (apply CW.seq) | (apply CW.region)))
    rw [hz1]
    (repeat (first | (apply WL.pure; rfl; rfl; rfl) | (apply WL.nil) | (apply EX.thenN) | (apply CW.seq) | (apply CW.region) | (apply CW.condT; rfl) | (apply CW.ret) | (apply EX.thenR)))
    refine EX.ret2 rfl rfl rfl ⟨_, by rw [if_pos hz], ?_, hE⟩
    rw [if_pos hz, if_neg hz]; exact Own.nil
  obtain ⟨hc0, hst, _⟩ := stepsE_ok hz
  rw [if_neg (by simp [hz]), hz]
  rw [hst] at hox
  (repeat (first | (apply WL.pure; rfl; rfl; rfl) | (apply WL.nil) | (apply EX.thenN) | (apply CW.seq) | (apply CW.region) | (apply WL.lenS; rfl; rfl; rfl) | (apply WL.fa; rfl; rfl; rfl) | (apply WL.ld; rfl; rfl; rfl; assumption; rfl) | (apply CW.condF; rfl) | (apply CW.skip)))
  by_cases hl : m.length = fl.length
  · have hl1 : ((m.length : Int) != (fl.length : Int)) = false := by simp [hl]
    rw [hl1]
    (repeat (apply WL.pure; rfl; rfl; rfl))
    refine WL.call rfl rfl rfl (containsFunc_int w2 tokB (hm.up hE) (fun w hw j hj => FnV.mk (cs := []) (tok_ok w _))) ?_
    rintro _ w3 ⟨rfl, e3⟩
    have hox := hox.extN e3
    have hE := hE.trans e3
    (repeat (first | (apply WL.pure; rfl; rfl; rfl) | (apply WL.nil) | (apply EX.thenN)))
    refine CW.cond rfl (fun h => ?_) (fun h => ?_)
    · have h : m.any tokB = true := by simpa using h
      (repeat (first | (apply WL.pure; rfl; rfl; rfl) | (apply WL.nil) | (apply EX.thenN) | (apply CW.seq) | (apply CW.region) | (apply CW.ret) | (apply EX.thenR)))
      have hck : (if m.length ≠ fl.length ∨ m.any tokB = true then (1 : Int) else 0) = 1 := if_pos (.inr h)
      dsimp only
      rw [hck]
      exact EX.ret2 rfl rfl rfl ⟨_, rfl, by rw [if_neg (by decide)]; exact Own.nil, hE⟩
    · have h : ¬ (m.length ≠ fl.length ∨ m.any tokB = true) := by
        have h : m.any tokB = false := by simpa using h
        rw [h]; simp [hl]
      (repeat (first | (apply WL.pure; rfl; rfl; rfl) | (apply WL.nil) | (apply EX.thenN) | (apply CW.seq) | (apply CW.region) | (apply CW.ret) | (apply CW.skip)))
      have hck : (if m.length ≠ fl.length ∨ m.any tokB = true then (1 : Int) else 0) = 0 := if_neg h
      dsimp only
      rw [hck]
      exact EX.ret2 rfl rfl rfl ⟨_, rfl, by rw [if_pos rfl]; exact hox.low e1.size, hE⟩
  · have hl1 : ((m.length : Int) != (fl.length : Int)) = true := by rw [bne_iff_ne]; omega
    rw [hl1]
    (repeat (first | (apply WL.pure; rfl; rfl; rfl) | (apply WL.nil) | (apply EX.thenN) | (apply CW.seq) | (apply CW.region) | (apply WL.pass; rfl; rfl) | (apply CW.condT; rfl) | (apply CW.ret) | (apply EX.thenR)))
    have hck : (if m.length ≠ fl.length ∨ m.any tokB = true then (1 : Int) else 0) = 1 := if_pos (.inl hl)
    dsimp only
    rw [hck]
    exact EX.ret2 rfl rfl rfl ⟨_, rfl, by rw [if_neg (by decide)]; exact Own.nil, hE⟩
end Go.Proofs.Ytljcnopekjinjaa
/-
  Package game: come, joins, enabled, Enabled: walked.
-/
set_option linter.unusedVariables false
set_option linter.unusedSimpArgs false
namespace Go.Proofs.Ytljcnopekjinjaa
open Go.RowKit

theorem getDB_at {l : List Bool} {j : Nat} (h : j < l.length) : l.getD j false = l[j] := by rw [List.getD_eq_getElem?_getD, List.getElem?_eq_getElem h]; rfl
theorem come_ok (w0 : World) {so fo : Option Addr} {sc fc : Nat} {ns : List LNode} {fl : List LFlow} (hs : Sl w0 (Old w0) so sc ns) (hf : Sl w0 (Old w0) fo fc fl) (hok : OkPr (ns, fl)) {flow : Nat} (hfl : flow < fl.length) (but : Int) :
    Rt Try.prog 109 [procV so sc fo fc ns.length fl.length, .int .i64 (flow : Int), .int .i64 but].toArray w0 fun v w' => Own w' w0.heap.size 4 Non v (comeL fl flow but) ∧ Ext w0 w' := by
  have hf30 := hok.f
  dsimp only at hf30
  refine Rt.enter3 Try.func109 Try.ntmps109 rfl rfl ?_
  have hE := Ext.refl w0
  (repeat (first | (apply CW.seq) | (apply CW.region)))
  refine WL.boxB rfl rfl rfl fun w1 hb1 e1 => ?_
  have hE := hE.trans e1
  have z1 := e1.size
  (repeat (first | (apply WL.pure; rfl; rfl; rfl) | (apply WL.nil) | (apply EX.thenN) | (apply CW.seq) | (apply CW.region) | (apply WL.lenS; rfl; rfl; rfl) | (apply WL.fa; rfl; rfl; rfl) | (apply WL.ld; rfl; rfl; rfl; assumption; rfl)))
  refine WL.make (α := Bool) rfl rfl rfl rfl (by omega) (by unfold maxLen; omega) (fun w2 ho2 hg2 => ?_)
  have e2 : Ext w1 w2 := (Below.refl _ _).grown hg2 (Nat.le_refl _) (fun k h => by cases h)
  have hlt := (ho2.lt _ rfl).2.1
  generalize hsv : Value.slice (some ⟨w1.heap.size, 0, none⟩) fl.length fl.length = sv at *
  have hdb : sv.ownBlock = some w1.heap.size := by rw [← hsv]; rfl
  (repeat (first | (apply WL.pure; rfl; rfl; rfl) | (apply WL.nil) | (apply EX.thenN) | (apply CW.seq) | (apply CW.region)))
  refine WL.setN (u := .bool true) (yv := true) rfl rfl rfl rfl ho2 (by simpa using hfl) (fun _ => rfl) (fun _ => rfl) (Rd.mkBool _ _ _) (fun w3 q ho3 hg3 => ?_)
  have e3 : Ext w1 w3 := e2.grown hg3 e2.size (fun b hb => (ho2.lt b hb).1)
  have hlt3 : w1.heap.size < w3.heap.size := (ho3.lt _ hdb).2.1
  (repeat (first | (apply WL.pure; rfl; rfl; rfl) | (apply WL.nil) | (apply EX.thenN) | (apply CW.seq) | (apply CW.region)))
  refine WL.lit (F := Non) (ys := [(flow : Int)]) rfl rfl rfl rfl rfl (.cons (Rd.mkInt _ _ _) .nil) (by show 1 * 1 ≤ 16777216; decide) (fun _ h => h.elim) (fun w4 ho4 hg4 => ?_)
  have e4 : Ext w1 w4 := e3.grown hg4 e3.size (fun k h => by cases h)
  have ho3 := ho3.keptN hg4 (fun g _ h => by cases h)
  have hne4 : ∀ b, Value.ownBlock (.slice (some ⟨w3.heap.size, 0, none⟩) 1 1) = some b → b ≠ w1.heap.size := fun b hb => by
    have e : some w3.heap.size = some b := hb
    injection e with e; omega
  have ho4 := ho4.low e3.size
  generalize Value.slice (some ⟨w3.heap.size, 0, none⟩) 1 1 = tv at *
  have hI : ComeI fl ((List.replicate fl.length false).set flow true) [(flow : Int)] := ⟨by simp, fun x hx => by rw [List.mem_singleton] at hx; omega⟩
  have hm0 : [(flow : Int)].length + falses ((List.replicate fl.length false).set flow true) ≤ fl.length := by
    have := falses_set (l := List.replicate fl.length false) (k := flow) (by simpa using hfl) (by rw [List.getD_eq_getElem?_getD, List.getElem?_replicate]; split <;> rfl)
    rw [falses_rep] at this
    simp only [List.length_cons, List.length_nil]; omega
  clear e2 e3 hg2 hg3 hg4 ho2
  (repeat (first | (apply WL.pure; rfl; rfl; rfl) | (apply WL.nil) | (apply EX.thenN) | (apply CW.seq) | (apply CW.block)))
  refine CW.loop (S := Nat × List Bool × List Int × Value) (fun s => [(2, .int .i64 but), (3, .pointer (some ⟨w0.heap.size, 0, none⟩)), (7, sv), (8, s.2.2.2)])
    (fun s w => comeGo fl but s.1 s.2.1 s.2.2.1 = comeL fl flow but ∧ ComeI fl s.2.1 s.2.2.1 ∧ s.2.2.1.length + falses s.2.1 ≤ s.1 ∧ s.1 ≤ fl.length ∧ Own w w1.heap.size 4 Non sv s.2.1 ∧ Own w w1.heap.size 3 Non s.2.2.2 s.2.2.1 ∧ (∀ b, s.2.2.2.ownBlock = some b → b ≠ w1.heap.size) ∧ Ext w1 w) (fun s => s.1)
    (fl.length, (List.replicate fl.length false).set flow true, [(flow : Int)], tv) (by repeat (first | exact trivial | refine ⟨rfl, ?_⟩)) ⟨rfl, hI, hm0, Nat.le_refl _, ho3, ho4, hne4, e4⟩ ?_
  rintro ⟨f, out, todo, tv⟩ w5 ⟨hgo, hI, hm, hfF, hod, hon, hne, e5⟩
  dsimp only at hgo hI hm hfF hod hon hne e5 ⊢
  have hE5 := hE.trans e5
  have hb5 := hb1.ext e5
  (repeat (first | (apply WL.pure; rfl; rfl; rfl) | (apply WL.nil) | (apply EX.thenN) | (apply CW.seq) | (apply CW.region) | (refine WL.lenO rfl rfl rfl (by assumption) ?_)))
  refine CW.cond rfl (fun h0 => ?_) (fun h0 => ?_)
  · simp at h0
    match todo, h0 with
    | x :: r, _ =>
    have hx := hI.ok x (by simp)
    obtain ⟨k, rfl⟩ := Int.eq_ofNat_of_zero_le hx.1
    have hk : k < fl.length := by omega
    obtain ⟨a, b, ea, eb, ha, hb⟩ := okPr_flow hok hk
    match f, hm with
    | 0, hm => simp at hm
    | f + 1, hm =>
    have hm : r.length + falses out ≤ f := by simp at hm; omega
    have hI' : ComeI fl out r := ⟨hI.len, fun y hy => hI.ok y (by simp [hy])⟩
    unfold comeGo at hgo
    rw [Int.toNat_natCast, getDF_at hk, ea] at hgo
    obtain ⟨to, tc, rfl, hts⟩ := hon.oldN.sl
    obtain ⟨fb, off, rfl, hfb, hc1, _⟩ := (hf.up hE5).pair hk
    (repeat (first | (apply QL.pure; rfl; rfl; rfl) | (apply EX.thenN) | (apply CW.seq) | (apply QL.fa; rfl; rfl; rfl) | (apply QL.ld; rfl; rfl; rfl; assumption; rfl) | (apply CW.block) | (apply CW.skip) | (apply CW.draw; exact mixed; kernel_rfl)))
    refine QL.elem (i := 0) rfl rfl rfl rfl rfl (fun _ h => h) hts (by omega) (by simp) (fun _ => rfl) (fun u q hu => ?_)
    obtain rfl := hu.int
    simp only [Int.toNat_zero, List.getElem_cons_zero]
    refine QL.idx (α := LFlow) rfl rfl rfl rfl (by omega) (by omega) ?_
    (repeat (apply QL.fa; rfl; rfl; rfl))
    refine QL.load (α := Int) (F := Non) (y := fl[k].1) rfl rfl rfl hfb (fun _ h => h.elim) (by rw [Int.toNat_natCast]; exact hc1) rfl ?_
    rw [show vOf Int [.int .i64 fl[k].1] = .int .i64 fl[k].1 from rfl, ea]
    (repeat (apply QL.pure; rfl; rfl; rfl))
    refine QL.nil (fun w6 e6 => ?_)
    have hod := hod.extN e6
    have hon := hon.extN e6
    have e6 := e5.trans e6
    have hE6 := hE.trans e6
    have hb6 := hb1.ext e6
    clear hts
    (repeat (first | (apply WL.pure; rfl; rfl; rfl) | (apply EX.thenN) | (apply CW.seq) | (apply CW.region)))
    refine WL.cutLoO (α := Int) 1 rfl rfl rfl rfl rfl hon (by simp) (fun nv2 hon2 hnb => ?_)
    simp only [List.drop_succ_cons, List.drop_zero] at hon2
    have hne2 : ∀ b, nv2.ownBlock = some b → b ≠ w1.heap.size := fun b hb => hne b (by rw [← hnb]; exact hb)
    (repeat (first | (apply WL.pure; rfl; rfl; rfl) | (apply WL.nil) | (apply EX.thenN) | (apply CW.seq) | (apply CW.region)))
    refine CW.cond rfl (fun h2 => ?_) (fun h2 => ?_)
    · have h2 : (a : Int) = but := by simpa using h2
      rw [if_pos h2] at hgo
      (repeat (first | (apply CW.exit) | (apply EX.thenX) | (apply EX.inX)))
      exact EX.back (f, out, r, nv2) (by repeat (first | exact trivial | refine ⟨rfl, ?_⟩)) ⟨hgo, hI', hm, by omega, hod, hon2, hne2, e6⟩ (by dsimp only; omega)
    have h2 : ¬ (a : Int) = but := by simpa using h2
    rw [if_neg h2] at hgo
    (repeat (first | (apply WL.pure; rfl; rfl; rfl) | (apply WL.nil) | (apply EX.thenN) | (apply CW.seq) | (apply CW.region) | (apply WL.lenS; rfl; rfl; rfl) | (apply WL.fa; rfl; rfl; rfl) | (apply WL.ld; rfl; rfl; rfl; assumption; rfl) | (apply CW.block) | (apply CW.skip)))
    refine CW.loop (S := Nat × List Bool × List Int × Value) (fun s => [(2, .int .i64 but), (3, .pointer (some ⟨w0.heap.size, 0, none⟩)), (7, sv), (8, s.2.2.2), (9, .int .i64 (a : Int)), (38, .slice (some ⟨fb, off, none⟩) fl.length fc), (39, .int .i64 fl.length), (40, .int .i64 s.1)])
      (fun s w => s.1 ≤ fl.length ∧ (s.2.1, s.2.2.1) = (List.range s.1).foldl (comeStep fl (a : Int)) (out, r) ∧ ComeI fl s.2.1 s.2.2.1 ∧ s.2.2.1.length + falses s.2.1 = r.length + falses out ∧ Own w w1.heap.size 4 Non sv s.2.1 ∧ Own w w1.heap.size 3 Non s.2.2.2 s.2.2.1 ∧ (∀ b, s.2.2.2.ownBlock = some b → b ≠ w1.heap.size) ∧ Ext w1 w) (fun s => fl.length - s.1)
      (0, out, r, nv2) (by repeat (first | exact trivial | refine ⟨rfl, ?_⟩)) ⟨Nat.zero_le _, rfl, hI', rfl, hod, hon2, hne2, e6⟩ ?_
    rintro ⟨j, out2, todo2, tv3⟩ w7 ⟨hj, hfold, hI3, hm3, hod3, hon3, hne3, e7⟩
    dsimp only at hj hfold hI3 hm3 hod3 hon3 hne3 e7 ⊢
    have hE7 := hE.trans e7
    (repeat (first | (apply WL.pure; rfl; rfl; rfl) | (apply WL.nil) | (apply EX.thenN) | (apply CW.seq) | (apply CW.region)))
    refine CW.cond rfl (fun h1 => ?_) (fun h1 => ?_)
    · have hj' : j < fl.length := by simp at h1; omega
      obtain ⟨a2, b2, ea2, eb2, ha2, hb2⟩ := okPr_flow hok hj'
      have hst := comeStep_ok (n := (a : Int)) hj' hI3
      have hfold' : comeStep fl (a : Int) (out2, todo2) j = (List.range (j + 1)).foldl (comeStep fl (a : Int)) (out, r) := by
        rw [List.range_succ, List.foldl_append, ← hfold]; rfl
      have hjo : j < out2.length := by rw [hI3.len]; exact hj'
      have hcs : comeStep fl (a : Int) (out2, todo2) j = if (b2 : Int) = (a : Int) ∧ out2[j] = false then (out2.set j true, todo2 ++ [(j : Int)]) else (out2, todo2) := by
        unfold comeStep; rw [getDF_at hj', eb2, getDB_at hjo]
      rw [hcs] at hst hfold'
      have hlen3 : todo2.length ≤ 60 := by have := falses_le (l := out); have := hI.len; omega
      (repeat (first | (apply WL.pure; rfl; rfl; rfl) | (apply EX.thenN) | (apply CW.seq) | (apply CW.region) | (apply CW.block) | (apply CW.skip)))
      refine WL.elemN rfl rfl rfl rfl rfl (hf.up hE7) hj' (fun _ => rfl) (fun u q hu => ?_)
      rw [hu.pairI, ea2, eb2]
      clear hu
      skip
      refine WL.alloc rfl rfl (fun w8 hb8 e8 => ?_)
      (repeat (apply WL.pure; rfl; rfl; rfl))
      refine WL.st rfl rfl rfl hb8 rfl rfl (ones_of rfl) (fun w9 hb9 hg9 => ?_)
      have e9 : Ext w7 w9 := e8.grown hg9 e8.size (fun g hg => by cases hg; exact Nat.le_refl _)
      have hod4 := hod3.extN e9
      have hon4 := hon3.extN e9
      have e9 := e7.trans e9
      (repeat (first | (apply WL.pure; rfl; rfl; rfl) | (apply WL.nil) | (apply EX.thenN) | (apply CW.seq) | (apply CW.region) | (apply WL.fa; rfl; rfl; rfl) | (apply WL.ld; rfl; rfl; rfl; assumption; rfl)))
      by_cases h3 : (b2 : Int) = (a : Int)
      · rw [show ((b2 : Int) == (a : Int)) = true by simpa using h3]
        (repeat (apply WL.pure; rfl; rfl; rfl))
        refine WL.elemON rfl rfl rfl rfl rfl hod4 hjo (fun _ => rfl) (fun u q hu => ?_)
        obtain rfl := hu.bool
        (repeat (first | (apply WL.pure; rfl; rfl; rfl) | (apply WL.nil) | (apply EX.thenN)))
        by_cases h4 : out2[j] = false
        · rw [if_pos ⟨h3, h4⟩] at hst hfold'
          dsimp only at hst
          rw [h4]
          (repeat (first | (apply WL.pure; rfl; rfl; rfl) | (apply CW.seq) | (apply CW.region) | (apply CW.condT; rfl)))
          refine WL.setN (u := .bool true) (yv := true) rfl rfl rfl rfl hod4 hjo (fun _ => rfl) (fun _ => rfl) (Rd.mkBool _ _ _) (fun w10 q ho10 hg10 => ?_)
          have e10 : Ext w1 w10 := e9.grown hg10 e9.size (fun b hb => (hod4.lt b hb).1)
          have hon5 := hon4.keptN hg10 (fun g hg => by rw [hdb]; simpa using hne3 g hg)
          (repeat (first | (apply WL.pure; rfl; rfl; rfl) | (apply WL.nil) | (apply EX.thenN) | (apply CW.region)))
          refine WL.app1 (F := Non) (yv := (j : Int)) rfl rfl (fun _ => rfl) rfl rfl (fun _ => rfl) hon5 (Rd.mkInt _ _ _) e10.size (fun _ h => h.elim) (by decide) (by unfold maxLen; omega) (by omega) (fun v' w11 p ho11 hg11 hnb11 => ?_)
          have e11 : Ext w1 w11 := e10.grown hg11 e10.size (fun b hb => (hon5.lt b hb).1)
          have hd11 := ho10.keptN hg11 (fun g hg e => by rw [hdb] at hg; cases hg; exact hne3 _ e.symm rfl)
          (repeat (first | (apply WL.add; rfl; rfl; rfl; rfl; omega; omega) | (apply WL.pure; rfl; rfl; rfl) | (apply WL.nil) | (apply EX.thenN) | (apply CW.region) | (apply EX.inN)))
          refine EX.back (j + 1, out2.set j true, todo2 ++ [(j : Int)], v') (by repeat (first | exact trivial | refine ⟨rfl, ?_⟩)) ⟨hj', hfold', hst.1, by rw [hst.2]; exact hm3, hd11, ho11, ?_, e11⟩ (by dsimp only; omega)
          intro b hb'
          rcases hnb11 b hb' with h | h
          · exact hne3 b h
          · have := (ho10.lt _ hdb).2.1; omega
        · rw [if_neg (fun h => h4 h.2)] at hst hfold'
          have h4 : out2[j] = true := by simpa using h4
          rw [h4]
          (repeat (first | (apply WL.add; rfl; rfl; rfl; rfl; omega; omega) | (apply WL.pure; rfl; rfl; rfl) | (apply WL.nil) | (apply EX.thenN) | (apply CW.region) | (apply EX.inN) | (apply CW.condF; rfl) | (apply CW.skip)))
          exact EX.back (j + 1, out2, todo2, tv3) (by repeat (first | exact trivial | refine ⟨rfl, ?_⟩)) ⟨hj', hfold', hI3, hm3, hod4, hon4, hne3, e9⟩ (by dsimp only; omega)
      · rw [if_neg (fun h => h3 h.1)] at hst hfold'
        rw [show ((b2 : Int) == (a : Int)) = false by simpa using h3]
        (repeat (first | (apply WL.add; rfl; rfl; rfl; rfl; omega; omega) | (apply WL.pure; rfl; rfl; rfl) | (apply WL.nil) | (apply EX.thenN) | (apply CW.region) | (apply WL.pass; rfl; rfl) | (apply EX.inN) | (apply CW.condF; rfl) | (apply CW.skip)))
        exact EX.back (j + 1, out2, todo2, tv3) (by repeat (first | exact trivial | refine ⟨rfl, ?_⟩)) ⟨hj', hfold', hI3, hm3, hod4, hon4, hne3, e9⟩ (by dsimp only; omega)
    · obtain rfl : j = fl.length := by simp at h1; omega
      rw [← hfold] at hgo
      (repeat (first | (apply EX.inN) | (apply CW.exit) | (apply EX.thenX) | (apply EX.inX)))
      exact EX.back (f, out2, todo2, tv3) (by repeat (first | exact trivial | refine ⟨rfl, ?_⟩)) ⟨hgo, hI3, by dsimp only; omega, by dsimp only; omega, hod3, hon3, hne3, e7⟩ (by dsimp only; omega)
  · have hnil : todo = [] := by
      simpa using h0
    subst hnil
    rw [comeGo_nil] at hgo
    subst hgo
    (repeat (first | (apply WL.pure; rfl; rfl; rfl) | (apply WL.nil) | (apply EX.thenN) | (apply CW.seq) | (apply CW.region) | (apply CW.exit) | (apply EX.thenX) | (apply EX.inX) | (apply CW.ret)))
    exact EX.ret1 rfl rfl ⟨hod.low z1, hE5⟩
end Go.Proofs.Ytljcnopekjinjaa
/-
  Package game: joins, enabled, Enabled: walked.
-/
set_option linter.unusedVariables false
set_option linter.unusedSimpArgs false
namespace Go.Proofs.Ytljcnopekjinjaa
open Go.RowKit

theorem any_take_next {α : Type} (p : α → Bool) {l : List α} {i : Nat} (h : i < l.length) : (l.take (i + 1)).any p = ((l.take i).any p || p l[i]) := by
  rw [← List.take_append_getElem h, List.any_append]; simp
theorem getDm_at {l : List Int} {j : Nat} (h : j < l.length) : l.getD j 0 = l[j] := by rw [List.getD_eq_getElem?_getD, List.getElem?_eq_getElem h]; rfl
theorem joinsP_false {p : LProc} {m : List Int} {n f : Int} (h : f ∈ insL p.2 n) (h1 : ¬ m.getD f.toNat 0 > 0) (h2 : badIn p m n f = true) : joinsP p m n = false := by
  unfold joinsP
  rw [if_pos]
  exact List.any_eq_true.2 ⟨f, h, by rw [decide_eq_false h1, h2]; rfl⟩
theorem joinsP_some {p : LProc} {m : List Int} {n : Int} (h : ∀ f ∈ insL p.2 n, ¬ m.getD f.toNat 0 > 0 → badIn p m n f = false) : joinsP p m n = (insL p.2 n).any fun f => decide (m.getD f.toNat 0 > 0) := by
  unfold joinsP
  rw [if_neg]
  rw [List.any_eq_true]
  rintro ⟨f, hf, hb⟩
  rw [Bool.and_eq_true] at hb
  have h1 : ¬ m.getD f.toNat 0 > 0 := by simpa using hb.1
  rw [h f hf h1] at hb
  simp at hb
def badAt (fl : List LFlow) (m : List Int) (c : List Bool) (n : Int) (i : Nat) : Bool := c.getD i false && decide (m.getD i 0 > 0) && decide ((fl.getD i (0, 0)).2 ≠ n)
theorem badIn_eq {p : LProc} {m : List Int} {n : Int} {f : Nat} : badIn p m n (f : Int) = (List.range p.2.length).any (badAt p.2 m (comeL p.2 f n) n) := rfl
theorem joins_ok (w0 : World) {so fo mo : Option Addr} {sc fc mc : Nat} {ns : List LNode} {fl : List LFlow} {m : List Int} (hs : Sl w0 (Old w0) so sc ns) (hf : Sl w0 (Old w0) fo fc fl) (hm : Sl w0 (Old w0) mo mc m) (hc0 : chkPr (ns, fl) = 0) (hml : m.length = fl.length) {n : Nat} (hn : n < ns.length) :
    Rt Try.prog 93 [procV so sc fo fc ns.length fl.length, .slice mo m.length mc, .int .i64 (n : Int)].toArray w0 fun v w' => v = .bool (joinsP (ns, fl) m (n : Int)) ∧ Ext w0 w' := by
  have hok := chkPr_ok hc0
  have hf30 := hok.f
  dsimp only at hf30
  have hle : listE (ns, fl) (n : Int) = 0 := listE_ok hc0 hn
  refine Rt.enter3 Try.func93 Try.ntmps93 rfl rfl ?_
  have hE := Ext.refl w0
  (repeat (first | (apply CW.seq) | (apply CW.region)))
  refine WL.boxB rfl rfl rfl fun w1 hb1 e1 => ?_
  have hE := hE.trans e1
  (repeat (first | (apply WL.pure; rfl; rfl; rfl) | (apply WL.nil) | (apply EX.thenN) | (apply CW.seq) | (apply CW.region) | (apply WL.ldA; rfl; rfl; rfl; assumption; rfl)))
  refine WL.call rfl rfl rfl (Ins_ok w1 (hs.up hE) (hf.up hE) (n : Int)) ?_
  rintro _ w2 ⟨x, rfl, hox, e2⟩
  rw [hle, if_pos rfl] at hox
  have hb1 := hb1.ext e2
  have hE := hE.trans e2
  obtain ⟨xo, xc, rfl, hxs⟩ := hox.oldN.sl
  have hins := fun x (hx : x ∈ insL fl (n : Int)) => insP_mem.1 hx
  have hjf := fun f => @joinsP_false (ns, fl) m (n : Int) f
  have hjs := @joinsP_some (ns, fl) m (n : Int)
  have hil : (insL fl (n : Int)).length ≤ fl.length := insP_len
  dsimp only at hjf hjs
  rw [hle]
  clear hox e1
  generalize insL fl (n : Int) = ins at *
  (repeat (first | (apply WL.pure; rfl; rfl; rfl) | (apply WL.nil) | (apply EX.thenN) | (apply CW.seq) | (apply CW.region) | (apply WL.lenS; rfl; rfl; rfl) | (apply CW.block)))
  refine CW.loop (S := Nat × Bool) (fun s => [(1, .slice mo m.length mc), (2, .int .i64 (n : Int)), (3, .pointer (some ⟨w0.heap.size, 0, none⟩)), (9, .bool s.2), (20, .slice xo ins.length xc), (21, .int .i64 ins.length), (22, .int .i64 s.1)])
    (fun s w => s.1 ≤ ins.length ∧ s.2 = ((ins.take s.1).any fun f => decide (m.getD f.toNat 0 > 0)) ∧ (∀ j (h : j < ins.length), j < s.1 → ¬ m.getD ins[j].toNat 0 > 0 → badIn (ns, fl) m (n : Int) ins[j] = false) ∧ Ext w2 w) (fun s => ins.length - s.1)
    (0, false) (by repeat (first | exact trivial | refine ⟨rfl, ?_⟩)) ⟨Nat.zero_le _, rfl, (fun j _ h => absurd h (Nat.not_lt_zero _)), Ext.refl _⟩ ?_
  rintro ⟨i, b⟩ w3 ⟨hi, hb, hbad, e3⟩
  dsimp only at hi hb hbad e3 ⊢
  have hb1 := hb1.ext e3
  have hE3 := hE.trans e3
  (repeat (first | (apply WL.pure; rfl; rfl; rfl) | (apply WL.nil) | (apply EX.thenN) | (apply CW.seq) | (apply CW.region)))
  refine CW.cond rfl (fun h => ?_) (fun h => ?_)
  · have hi' : i < ins.length := by simp at h; omega
    have hmem := List.getElem_mem hi'
    obtain ⟨f, ef, hlt, _⟩ := hins _ hmem
    have hfm : f < m.length := by rw [hml]; exact hlt
    have hnext := any_take_next (fun f : Int => decide (m.getD f.toNat 0 > 0)) hi'
    rw [ef, Int.toNat_natCast, getDm_at hfm] at hnext
    (repeat (first | (apply EX.thenN) | (apply CW.seq) | (apply CW.region) | (apply CW.block) | (apply CW.skip)))
    refine WL.elemI rfl rfl rfl rfl rfl (hxs.up e3) hi' ef (fun _ => rfl) (fun q => ?_)
    (repeat (first | (apply WL.pure; rfl; rfl; rfl) | (apply WL.nil) | (apply EX.thenN) | (apply CW.seq) | (apply CW.region)))
    refine WL.elemI rfl rfl rfl rfl rfl (hm.up hE3) hfm rfl (fun _ => rfl) (fun q => ?_)
    (repeat (first | (apply WL.pure; rfl; rfl; rfl) | (apply WL.nil) | (apply EX.thenN)))
    refine CW.cond rfl (fun h => ?_) (fun h => ?_)
    · rw [h, Bool.or_true] at hnext
      have hp : m.getD ins[i].toNat 0 > 0 := by rw [ef, Int.toNat_natCast, getDm_at hfm]; simpa using h
      (repeat (first | (apply WL.add; rfl; rfl; rfl; rfl; omega; omega) | (apply WL.pure; rfl; rfl; rfl) | (apply WL.nil) | (apply EX.thenN) | (apply CW.seq) | (apply CW.region) | (apply CW.exit) | (apply EX.thenX) | (apply EX.inX)))
      refine EX.back (i + 1, true) (by repeat (first | exact trivial | refine ⟨rfl, ?_⟩)) ⟨hi', hnext.symm, fun j hj hlt hn => ?_, e3⟩ (by dsimp only; omega)
      dsimp only at hlt
      by_cases e : j = i
      · subst e; exact absurd hp hn
      · exact hbad j hj (by omega) hn
    rw [h, Bool.or_false, ← hb] at hnext
    have hnp : ¬ m.getD ins[i].toNat 0 > 0 := by rw [ef, Int.toNat_natCast, getDm_at hfm]; simpa using h
    have hbi := badIn_eq (p := (ns, fl)) (m := m) (n := (n : Int)) (f := f)
    rw [← ef] at hbi
    dsimp only at hbi
    (repeat (first | (apply WL.pure; rfl; rfl; rfl) | (apply EX.thenN) | (apply CW.seq) | (apply CW.region) | (apply WL.ldA; rfl; rfl; rfl; assumption; rfl) | (apply CW.skip)))
    refine WL.call rfl rfl rfl (come_ok w3 (hs.up hE3) (hf.up hE3) hok hlt (n : Int)) ?_
    rintro v w4 ⟨hoc, e4⟩
    have hb1 := hb1.ext e4
    have hE4 := hE3.trans e4
    have hcl := comeL_len (fl := fl) (flow := f) (but := (n : Int))
    generalize comeL fl f (n : Int) = c at *
    obtain ⟨co, cc, rfl, hcs⟩ := hoc.oldN.sl
    clear hoc
    (repeat (first | (apply WL.pure; rfl; rfl; rfl) | (apply WL.nil) | (apply EX.thenN) | (apply WL.lenS; rfl; rfl; rfl) | (apply CW.block)))
    refine CW.loop (S := Nat) (fun j => [(1, .slice mo m.length mc), (2, .int .i64 (n : Int)), (3, .pointer (some ⟨w0.heap.size, 0, none⟩)), (9, .bool b), (20, .slice xo ins.length xc), (21, .int .i64 ins.length), (22, .int .i64 i), (34, .slice co c.length cc), (35, .int .i64 c.length), (36, .int .i64 j)])
      (fun j w => j ≤ c.length ∧ (∀ k, k < j → badAt fl m c (n : Int) k = false) ∧ Ext w4 w) (fun j => c.length - j) 0 (by repeat (first | exact trivial | refine ⟨rfl, ?_⟩)) ⟨Nat.zero_le _, (fun k h => absurd h (Nat.not_lt_zero _)), Ext.refl _⟩ ?_
    rintro j w5 ⟨hj, hall, e5⟩
    have hb1 := hb1.ext e5
    have hE5 := hE4.trans e5
    (repeat (first | (apply WL.pure; rfl; rfl; rfl) | (apply WL.nil) | (apply EX.thenN) | (apply CW.seq) | (apply CW.region)))
    refine CW.cond rfl (fun h2 => ?_) (fun h2 => ?_)
    · have hj' : j < c.length := by simp at h2; omega
      have hjf' : j < fl.length := by omega
      have hjm : j < m.length := by omega
      have hba : badAt fl m c (n : Int) j = (c[j] && decide (m[j] > 0) && decide (fl[j].2 ≠ (n : Int))) := by unfold badAt; rw [getDB_at hj', getDm_at hjm, getDF_at hjf']
      have hbk : badAt fl m c (n : Int) j = false → ∀ k, k < j + 1 → badAt fl m c (n : Int) k = false := fun h k hk => by
        by_cases e : k = j
        · subst e; exact h
        · exact hall k (by omega)
      (repeat (first | (apply WL.pure; rfl; rfl; rfl) | (apply EX.thenN) | (apply CW.seq) | (apply CW.region) | (apply CW.block) | (apply CW.skip)))
      refine WL.elemB rfl rfl rfl rfl rfl (hcs.up e5) hj' rfl (fun _ => rfl) (fun q => ?_)
      (repeat (first | (apply WL.pure; rfl; rfl; rfl) | (apply WL.nil) | (apply EX.thenN) | (apply CW.seq) | (apply CW.region)))
      by_cases h3 : c[j] = true
      · rw [h3] at hba ⊢
        rw [Bool.true_and] at hba
        (repeat (apply WL.pure; rfl; rfl; rfl))
        refine WL.elemI rfl rfl rfl rfl rfl (hm.up hE5) hjm rfl (fun _ => rfl) (fun q => ?_)
        (repeat (apply WL.pure; rfl; rfl; rfl))
        by_cases h4 : m[j] > 0
        · rw [decide_eq_true h4] at hba ⊢
          rw [Bool.true_and] at hba
          obtain ⟨fb, off, rfl, hfb, _, hc2⟩ := (hf.up hE5).pair hjf'
          (repeat (first | (apply WL.pure; rfl; rfl; rfl) | (apply WL.fa; rfl; rfl; rfl) | (apply WL.ld; rfl; rfl; rfl; assumption; rfl)))
          refine WL.idx (α := LFlow) rfl rfl rfl rfl (by omega) (by omega) ?_
          (repeat (apply WL.fa; rfl; rfl; rfl))
          refine WL.load (α := Int) (F := Non) (y := fl[j].2) rfl rfl rfl (by rw [Int.toNat_natCast]; exact hc2) rfl ?_
          rw [show vOf Int [.int .i64 fl[j].2] = .int .i64 fl[j].2 from rfl]
          (repeat (first | (apply WL.pure; rfl; rfl; rfl) | (apply WL.nil) | (apply EX.thenN)))
          refine CW.cond rfl (fun h5 => ?_) (fun h5 => ?_)
          · have h5 : fl[j].2 ≠ (n : Int) := by simpa using h5
            rw [decide_eq_true h5] at hba
            have hbt : badIn (ns, fl) m (n : Int) ins[i] = true := by
              rw [hbi]
              exact List.any_eq_true.2 ⟨j, List.mem_range.2 hjf', hba⟩
            (repeat (first | (apply WL.pure; rfl; rfl; rfl) | (apply WL.nil) | (apply EX.thenN) | (apply CW.seq) | (apply CW.region) | (apply CW.ret) | (apply EX.thenR) | (apply EX.inR)))
            refine EX.ret1 rfl rfl ⟨?_, hE5⟩
            rw [hjf _ hmem hnp hbt]
          · have h5 : ¬ fl[j].2 ≠ (n : Int) := by simpa using h5
            rw [decide_eq_false h5] at hba
            (repeat (first | (apply WL.add; rfl; rfl; rfl; rfl; omega; omega) | (apply WL.pure; rfl; rfl; rfl) | (apply WL.nil) | (apply EX.thenN) | (apply CW.region) | (apply EX.inN) | (apply CW.skip)))
            exact EX.back (j + 1) (by repeat (first | exact trivial | refine ⟨rfl, ?_⟩)) ⟨hj', hbk hba, e5⟩ (by omega)
        · rw [decide_eq_false h4] at hba ⊢
          rw [Bool.false_and] at hba
          (repeat (first | (apply WL.add; rfl; rfl; rfl; rfl; omega; omega) | (apply WL.pure; rfl; rfl; rfl) | (apply WL.nil) | (apply EX.thenN) | (apply CW.region) | (apply WL.pass; rfl; rfl) | (apply EX.inN) | (apply CW.condF; rfl) | (apply CW.skip)))
          exact EX.back (j + 1) (by repeat (first | exact trivial | refine ⟨rfl, ?_⟩)) ⟨hj', hbk hba, e5⟩ (by omega)
      · have h3 : c[j] = false := by simpa using h3
        rw [h3] at hba ⊢
        rw [Bool.false_and, Bool.false_and] at hba
        (repeat (first | (apply WL.add; rfl; rfl; rfl; rfl; omega; omega) | (apply WL.pure; rfl; rfl; rfl) | (apply WL.nil) | (apply EX.thenN) | (apply CW.region) | (apply WL.pass; rfl; rfl) | (apply EX.inN) | (apply CW.condF; rfl) | (apply CW.skip)))
        exact EX.back (j + 1) (by repeat (first | exact trivial | refine ⟨rfl, ?_⟩)) ⟨hj', hbk hba, e5⟩ (by omega)
    · obtain rfl : j = c.length := by simp at h2; omega
      have hbf : badIn (ns, fl) m (n : Int) ins[i] = false := by
        rw [hbi]
        exact List.any_eq_false.2 (fun k hk => by rw [hall k (by rw [hcl]; exact List.mem_range.1 hk)]; simp)
      (repeat (first | (apply WL.add; rfl; rfl; rfl; rfl; omega; omega) | (apply WL.pure; rfl; rfl; rfl) | (apply WL.nil) | (apply EX.thenN) | (apply CW.region) | (apply EX.inN) | (apply CW.exit) | (apply EX.thenX) | (apply EX.inX)))
      refine EX.back (i + 1, b) (by repeat (first | exact trivial | refine ⟨rfl, ?_⟩)) ⟨hi', hnext.symm, fun j hj hlt hn => ?_, (e3.trans e4).trans e5⟩ (by dsimp only; omega)
      dsimp only at hlt
      by_cases e : j = i
      · subst e; exact hbf
      · exact hbad j hj (by omega) hn
  · obtain rfl : i = ins.length := by simp at h; omega
    rw [List.take_length] at hb
    have := hjs (fun f hf hn => by
      obtain ⟨j, hj, rfl⟩ := List.mem_iff_getElem.1 hf
      exact hbad j hj hj hn)
    (repeat (first | (apply WL.pure; rfl; rfl; rfl) | (apply WL.nil) | (apply EX.thenN) | (apply CW.seq) | (apply CW.region) | (apply CW.exit) | (apply EX.thenX) | (apply EX.inX) | (apply CW.ret)))
    exact EX.ret1 rfl rfl ⟨by rw [this, ← hb], hE3⟩
theorem enabled1_ok (w : World) (b : Nat) {mo : Option Addr} {mc : Nat} {m : List Int} (hb : Blk w b 26 [.slice mo m.length mc]) (hm : Sl w (Old w) mo mc m) {f : Nat} (hfm : f < m.length) :
    Rt Try.prog 95 [.int .i64 (f : Int), .pointer (some ⟨b, 0, none⟩)].toArray w fun v w' => v = .bool (m.getD f 0 == 0) ∧ Ext w w' := by
  refine Rt.enter2 Try.func95 Try.ntmps95 rfl rfl ?_
  (repeat (first | (apply WL.pure; rfl; rfl; rfl) | (apply WL.nil) | (apply EX.thenN) | (apply CW.seq) | (apply CW.region) | (apply WL.ld; rfl; rfl; rfl; assumption; rfl)))
  refine WL.elemI rfl rfl rfl rfl rfl hm hfm rfl (fun _ => rfl) (fun q => ?_)
  (repeat (first | (apply WL.pure; rfl; rfl; rfl) | (apply WL.nil) | (apply EX.thenN) | (apply CW.ret)))
  exact EX.ret1 rfl rfl ⟨by rw [getDm_at hfm], Ext.refl _⟩
theorem enabled_ok (w0 : World) {so fo mo : Option Addr} {sc fc mc : Nat} {ns : List LNode} {fl : List LFlow} {m : List Int} (hs : Sl w0 (Old w0) so sc ns) (hf : Sl w0 (Old w0) fo fc fl) (hm : Sl w0 (Old w0) mo mc m) (hc0 : chkPr (ns, fl) = 0) (hml : m.length = fl.length) {s : LStep} {n : Nat} (hn : n < ns.length) (hsn : s ∈ stepsN (ns, fl) n) :
    Rt Try.prog 60 [procV so sc fo fc ns.length fl.length, .slice mo m.length mc, stV s].toArray w0 fun v w' => v = .bool (enabledP (ns, fl) m s) ∧ Ext w0 w' := by
  have hok := chkPr_ok hc0
  have hf30 := hok.f
  dsimp only at hf30
  have q1 := stepsK_node _ hsn
  have q2 := stepsK_in _ hsn
  have hle : listE (ns, fl) (n : Int) = 0 := listE_ok hc0 hn
  clear hsn
  obtain ⟨s1, s2, s3⟩ := s
  dsimp only at q1 q2
  subst q1
  unfold stV enabledP
  dsimp only
  refine Rt.enter3 Try.func60 Try.ntmps60 rfl rfl ?_
  have hE := Ext.refl w0
  (repeat (first | (apply CW.seq) | (apply CW.region)))
  refine WL.boxB rfl rfl rfl fun w1 hb3 e1 => ?_
  have hE := hE.trans e1
  skip
  refine WL.boxB rfl rfl rfl fun w2 hb4 e2 => ?_
  have hb3 := hb3.ext e2
  have hE := hE.trans e2
  skip
  refine WL.boxB rfl rfl rfl fun w3 hb5 e3 => ?_
  have hb3 := hb3.ext e3
  have hb4 := hb4.ext e3
  have hE := hE.trans e3
  (repeat (first | (apply WL.pure; rfl; rfl; rfl) | (apply WL.nil) | (apply EX.thenN) | (apply CW.seq) | (apply CW.region) | (apply WL.fa; rfl; rfl; rfl) | (apply WL.ld; rfl; rfl; rfl; assumption; rfl)))
  refine CW.cond rfl (fun h => ?_) (fun h => ?_)
  · have h : s2 ≥ 0 := by simpa using h
    rcases q2 with rfl | hin
    · omega
    obtain ⟨f, rfl, hlt, _⟩ := insP_mem.1 hin
    have hfm : f < m.length := by rw [hml]; exact hlt
    rw [if_pos h, Int.toNat_natCast, getDm_at hfm]
    (repeat (first | (apply CW.seq) | (apply CW.region) | (apply WL.fa; rfl; rfl; rfl) | (apply WL.ld; rfl; rfl; rfl; assumption; rfl)))
    refine WL.elemI rfl rfl rfl rfl rfl (hm.up hE) hfm rfl (fun _ => rfl) (fun q => ?_)
    (repeat (first | (apply WL.pure; rfl; rfl; rfl) | (apply WL.nil) | (apply EX.thenN) | (apply CW.ret) | (apply EX.thenR)))
    exact EX.ret1 rfl rfl ⟨rfl, hE⟩
  have h : ¬ 0 ≤ s2 := by simpa using h
  rw [if_neg h, Int.toNat_natCast, kindAt_at hn]
  obtain ⟨nb, off, rfl, hnb, hnc⟩ := (hs.at hE).nodeK hn
  (repeat (first | (apply EX.thenN) | (apply CW.seq) | (apply CW.region) | (apply WL.fa; rfl; rfl; rfl) | (apply WL.ld; rfl; rfl; rfl; assumption; rfl) | (apply CW.skip)))
  refine WL.idx (α := LNode) rfl rfl rfl rfl (by omega) (by omega) ?_
  (repeat (apply WL.fa; rfl; rfl; rfl))
  refine WL.load (α := Int) (F := Non) (y := ns[n].2) rfl rfl rfl (by rw [Int.toNat_natCast]; exact hnc) rfl ?_
  rw [show vOf Int [.int .i64 ns[n].2] = .int .i64 ns[n].2 from rfl]
  (repeat (first | (apply WL.pure; rfl; rfl; rfl) | (apply WL.nil) | (apply EX.thenN)))
  refine CW.cond rfl (fun h => ?_) (fun h => ?_)
  · have h : ns[n].2 = 7 := by simpa using h
    rw [if_pos h]
    (repeat (first | (apply CW.seq) | (apply CW.region) | (apply WL.fa; rfl; rfl; rfl) | (apply WL.ld; rfl; rfl; rfl; assumption; rfl) | (apply WL.ldA; rfl; rfl; rfl; assumption; rfl)))
    refine WL.call rfl rfl rfl (joins_ok w3 (hs.up hE) (hf.up hE) (hm.up hE) hc0 hml hn) ?_
    rintro _ w4 ⟨rfl, e4⟩
    (repeat (first | (apply WL.pure; rfl; rfl; rfl) | (apply WL.nil) | (apply EX.thenN) | (apply CW.ret) | (apply EX.thenR)))
    exact EX.ret1 rfl rfl ⟨rfl, hE.trans e4⟩
  have h : ¬ ns[n].2 = 7 := by simpa using h
  rw [if_neg h]
  (repeat (first | (apply EX.thenN) | (apply CW.seq) | (apply CW.region) | (apply WL.fa; rfl; rfl; rfl) | (apply WL.ld; rfl; rfl; rfl; assumption; rfl) | (apply WL.ldA; rfl; rfl; rfl; assumption; rfl) | (apply CW.skip)))
  refine WL.call rfl rfl rfl (Ins_ok w3 (hs.up hE) (hf.up hE) (n : Int)) ?_
  rintro _ w4 ⟨x, rfl, hox, e4⟩
  rw [hle, if_pos rfl] at hox
  rw [hle]
  have hb4 := hb4.ext e4
  have hE := hE.trans e4
  obtain ⟨xo, xc, rfl, hxs⟩ := hox.oldN.sl
  (repeat (first | (apply WL.pure; rfl; rfl; rfl) | (apply WL.nil) | (apply EX.thenN) | (apply CW.seq) | (apply CW.region) | (apply WL.makeFunc; rfl; rfl; rfl; rfl)))
  refine WL.call rfl rfl rfl (containsFunc_int w4 (fun f => m.getD f.toNat 0 == 0) hxs (fun w hw j hj => ?_)) ?_
  · obtain ⟨f, ef, hlt, _⟩ := insP_mem.1 (List.getElem_mem hj)
    rw [ef, Int.toNat_natCast]
    exact FnV.mk (cs := [_]) (enabled1_ok w _ (hb4.ext hw) (hm.up (hE.trans hw)) (by rw [hml]; exact hlt))
  rintro _ w5 ⟨rfl, e5⟩
  (repeat (first | (apply WL.pure; rfl; rfl; rfl) | (apply WL.nil) | (apply EX.thenN) | (apply CW.ret)))
  exact EX.ret1 rfl rfl ⟨rfl, hE.trans e5⟩
theorem stepsL_at {p : LProc} {i : Nat} (h : i < (stepsL p).length) : (stepsL p).getD i (0, 0, 0) = (stepsL p)[i] := by rw [List.getD_eq_getElem?_getD, List.getElem?_eq_getElem h]; rfl
theorem chkM_ok {p : LProc} {m : List Int} (h : chkM p m = 0) : chkPr p = 0 ∧ m.length = p.2.length ∧ m.any tokB = false ∧ (stepsL p).length ≤ 60 := by
  unfold chkM at h
  split at h
  · rename_i h1; exact absurd h h1
  · rename_i h1
    split at h
    · cases h
    · rename_i h2
      have := stepsE_ok (p := p) (by simpa using h1)
      refine ⟨this.1, Classical.byContradiction fun e => h2 (.inl e), ?_, this.2.2⟩
      by_cases e : m.any tokB = true
      · exact absurd (.inr e) h2
      · simpa using e
theorem Enabled_ok (w0 : World) {so fo mo : Option Addr} {sc fc mc : Nat} {ns : List LNode} {fl : List LFlow} {m : List Int} (hs : Sl w0 (Old w0) so sc ns) (hf : Sl w0 (Old w0) fo fc fl) (hm : Sl w0 (Old w0) mo mc m) :
    Rt Try.prog 25 [procV so sc fo fc ns.length fl.length, .slice mo m.length mc].toArray w0 fun v w' => ∃ x, v = .tuple ⟨[x, .int .i64 (chkM (ns, fl) m)]⟩ ∧ Own w' w0.heap.size 3 Non x (if chkM (ns, fl) m = 0 then canL (ns, fl) m else []) ∧ Ext w0 w' := by
  refine Rt.enter2 Try.func25 Try.ntmps25 rfl rfl ?_
  have hE := Ext.refl w0
  (repeat (first | (apply CW.seq) | (apply CW.region)))
  refine WL.boxB rfl rfl rfl fun w1 hb1 e1 => ?_
  have hE := hE.trans e1
  (repeat (first | (apply WL.pure; rfl; rfl; rfl) | (apply WL.nil) | (apply EX.thenN) | (apply CW.seq) | (apply CW.region) | (apply WL.ldA; rfl; rfl; rfl; assumption; rfl)))
  refine WL.call rfl rfl rfl (check_ok w1 (hs.up hE) (hf.up hE) (hm.up hE)) ?_
  rintro _ w2 ⟨x, rfl, hox, e2⟩
  have hb1 := hb1.ext e2
  have hE := hE.trans e2
  by_cases hz : chkM (ns, fl) m = 0
  case neg =>
    have hz1 : (chkM (ns, fl) m != 0) = true := by simpa using hz
    (repeat (first | (apply WL.pure; rfl; rfl; rfl) | (apply WL.nil) | (apply EX.thenN) | (apply CW.seq) | (apply CW.region)))
    rw [hz1]
    (repeat (first | (apply WL.pure; rfl; rfl; rfl) | (apply WL.nil) | (apply EX.thenN) | (apply CW.seq) | (apply CW.region) | (apply CW.condT; rfl) | (apply CW.ret) | (apply EX.thenR)))
    refine EX.ret2 rfl rfl rfl ⟨_, rfl, ?_, hE⟩
    rw [if_neg hz]; exact Own.nil
  obtain ⟨hc0, hml, _, hl60⟩ := chkM_ok hz
  rw [if_pos hz] at hox
  rw [if_pos hz, hz]
  dsimp only at hml
  obtain ⟨xo, xc, rfl, hxs⟩ := hox.oldN.sl
  clear hox
  have hlen : ∀ k, k ≤ (stepsL (ns, fl)).length → (canP (ns, fl) m k).length ≤ 60 := fun k hk => by
    unfold canP
    rw [List.length_map]
    have := List.length_filter_le (fun i => enabledP (ns, fl) m ((stepsL (ns, fl)).getD i (0, 0, 0))) (List.range k)
    rw [List.length_range] at this
    omega
  have z2 := hE.size
  (repeat (first | (apply WL.pure; rfl; rfl; rfl) | (apply WL.nil) | (apply EX.thenN) | (apply CW.seq) | (apply CW.region) | (apply WL.lenS; rfl; rfl; rfl) | (apply CW.block) | (apply CW.condF; rfl) | (apply CW.skip)))
  refine CW.loop (S := Nat × Value) (fun s => [(1, .slice mo m.length mc), (2, .pointer (some ⟨w0.heap.size, 0, none⟩)), (8, s.2), (20, .slice xo (stepsL (ns, fl)).length xc), (21, .int .i64 (stepsL (ns, fl)).length), (22, .int .i64 s.1)])
    (fun s w => s.1 ≤ (stepsL (ns, fl)).length ∧ Own w w2.heap.size 3 Non s.2 (canP (ns, fl) m s.1) ∧ Ext w2 w) (fun s => (stepsL (ns, fl)).length - s.1) (0, .slice none 0 0) (by repeat (first | exact trivial | refine ⟨rfl, ?_⟩)) ⟨Nat.zero_le _, Own.nil, Ext.refl _⟩ ?_
  rintro ⟨i, ov⟩ w3 ⟨hi, ho, e3⟩
  dsimp only at hi ho e3 ⊢
  have hb1 := hb1.ext e3
  have hE3 := hE.trans e3
  (repeat (first | (apply WL.pure; rfl; rfl; rfl) | (apply WL.nil) | (apply EX.thenN) | (apply CW.seq) | (apply CW.region)))
  refine CW.cond rfl (fun h => ?_) (fun h => ?_)
  · have hi' : i < (stepsL (ns, fl)).length := by simp at h; omega
    obtain ⟨n, hn, hsn⟩ := stepsP_mem.1 (List.getElem_mem hi')
    have hnext := canP_next (p := (ns, fl)) (m := m) (k := i)
    rw [stepsL_at hi'] at hnext
    have hl1 := hlen i hi
    (repeat (first | (apply WL.pure; rfl; rfl; rfl) | (apply EX.thenN) | (apply CW.seq) | (apply CW.region) | (apply CW.block) | (apply CW.skip)))
    refine WL.elemN rfl rfl rfl rfl rfl (hxs.up e3) hi' (fun _ => rfl) (fun u q hu => ?_)
    rw [hu.step]
    have hen := fun w hs hf hm => enabled_ok w (so := so) (fo := fo) (mo := mo) (sc := sc) (fc := fc) (mc := mc) hs hf hm hc0 hml hn hsn
    clear hu hsn
    generalize (stepsL (ns, fl))[i] = s at *
    unfold stV at hen ⊢
    skip
    refine WL.alloc rfl rfl (fun w4 hb10 e4 => ?_)
    (repeat (apply WL.pure; rfl; rfl; rfl))
    refine WL.st rfl rfl rfl hb10 rfl rfl (ones_of rfl) (fun w5 hb10 hg5 => ?_)
    have e5 : Ext w3 w5 := e4.grown hg5 e4.size (fun g hg => by cases hg; exact Nat.le_refl _)
    have hb1 := hb1.ext e5
    have hE5 := hE3.trans e5
    have ho := ho.extN e5
    (repeat (first | (apply WL.pure; rfl; rfl; rfl) | (apply WL.nil) | (apply EX.thenN) | (apply CW.seq) | (apply CW.region) | (apply WL.ldA; rfl; rfl; rfl; assumption; rfl)))
    refine WL.call rfl rfl rfl (hen w5 (hs.up hE5) (hf.up hE5) (hm.up hE5)) ?_
    rintro _ w6 ⟨rfl, e6⟩
    have ho := ho.extN e6
    have e6 : Ext w2 w6 := (e3.trans e5).trans e6
    have z6 := e6.size
    (repeat (first | (apply WL.nil) | (apply EX.thenN)))
    refine CW.cond rfl (fun h => ?_) (fun h => ?_)
    · rw [if_pos h] at hnext
      (repeat (first | (apply WL.pure; rfl; rfl; rfl) | (apply CW.region)))
      refine WL.app1 (F := Non) (yv := (i : Int)) rfl rfl (fun _ => rfl) rfl rfl (fun _ => rfl) ho (Rd.mkInt _ _ _) e6.size (fun _ h => h.elim) (by decide) (by unfold maxLen; omega) (by omega) (fun v' w7 p ho7 hg7 hnb => ?_)
      have e7 : Ext w2 w7 := e6.grown hg7 e6.size (fun b hb => (ho.lt b hb).1)
      rw [← hnext] at ho7
      (repeat (first | (apply WL.add; rfl; rfl; rfl; rfl; omega; omega) | (apply WL.pure; rfl; rfl; rfl) | (apply WL.nil) | (apply EX.thenN) | (apply CW.region) | (apply EX.inN)))
      exact EX.back (i + 1, v') (by repeat (first | exact trivial | refine ⟨rfl, ?_⟩)) ⟨hi', ho7, e7⟩ (by dsimp only; omega)
    · rw [if_neg (by simp [h]), List.append_nil] at hnext
      (repeat (first | (apply WL.add; rfl; rfl; rfl; rfl; omega; omega) | (apply WL.pure; rfl; rfl; rfl) | (apply WL.nil) | (apply EX.thenN) | (apply CW.region) | (apply EX.inN) | (apply CW.skip)))
      exact EX.back (i + 1, ov) (by repeat (first | exact trivial | refine ⟨rfl, ?_⟩)) ⟨hi', by dsimp only; rw [hnext]; exact ho, e6⟩ (by dsimp only; omega)
  · obtain rfl : i = (stepsL (ns, fl)).length := by simp at h; omega
    (repeat (first | (apply WL.pure; rfl; rfl; rfl) | (apply WL.nil) | (apply EX.thenN) | (apply CW.seq) | (apply CW.region) | (apply CW.exit) | (apply EX.thenX) | (apply EX.inX) | (apply CW.ret)))
    exact EX.ret2 rfl rfl rfl ⟨_, rfl, ho.low z2, hE3⟩
end Go.Proofs.Ytljcnopekjinjaa
/-
  Package game: fire, Fire: walked.
-/
set_option linter.unusedVariables false
set_option linter.unusedSimpArgs false
namespace Go.Proofs.Ytljcnopekjinjaa
open Go.RowKit

/- clear(x), x a list of numbers -/
theorem elems_zeros (w : World) (F : Nat → Prop) : ∀ k : Nat, Elems w F (List.replicate k (Value.int .i64 0)) (List.replicate k (0 : Int))
  | 0 => Elems.nil
  | k + 1 => by
    rw [List.replicate_succ', List.replicate_succ']
    exact (elems_zeros w F k).append (Elems.one (rd_mkInt w F 0))
section
variable {P : Program} {Q : Exit → Act → World → Prop} {n : Nat} {σ : Sg} {w : World} {L rest : List Oper} {d : Nat} {ty : TypeId} {pos : String} {af : Array Edge} {g : Option (Nat × Bool)} {t e : TypeId} {bytes : Nat}
theorem WL.runV {op : Op} {v : Value} {w' : World} (hg : gd L σ ⟨none, op, ty, pos, af, g⟩ = some true)
    (hr : ∀ a, Fr n σ a → (execOp a.eval ⟨none, op, ty, pos, af, g⟩).run P w = .ok (.value v) w') (h : WL P L Q rest n σ w') : WL P L Q (⟨none, op, ty, pos, af, g⟩ :: rest) n σ w := by
  unfold WL at *
  intro a ha
  refine wpList_step fun K hK => ?_
  rw [gd_wanted ha hg, if_pos rfl]
  unfold Oper.wp
  rw [hr a ha]
  exact hK _ _ (h _ (ha.put (d := none) (v := v) rfl))
theorem run_clear {v : Value} {xs : List Int} {B : Nat} (w : World) [hs : IsS P t e] [ht : IsT P e Int] [hz : IsZ P e (0 : Int) bytes] (hown : Own w B e Non v xs) :
    ∃ w', (Builtin.clear_ #[t] ty #[v]).run P w = .ok (.tuple #[]) w' ∧ Own w' B e Non v (xs.map fun _ => (0 : Int)) ∧ w.grownBy w' v.ownBlock := by
  rcases hown with ⟨rfl, rfl⟩ | ⟨b, off, cap, cur, rfl, ho⟩
  · refine ⟨w, by simp [Builtin.clear_, run_underlying hs.ok], Own.nil, ?_⟩
    exact ⟨rfl, rfl, rfl, Nat.le_refl _, fun k _ _ => rfl⟩
  · by_cases h0 : xs = []
    · subst h0
      refine ⟨w, by simp [Builtin.clear_, run_underlying hs.ok], .inr ⟨b, off, cap, cur, rfl, ho⟩, ?_⟩
      exact ⟨rfl, rfl, rfl, Nat.le_refl _, fun k _ _ => rfl⟩
    obtain ⟨i, z, h1, h2, h3, h4⟩ := hz.ok
    have hzc : z.cells.toList = [Value.int .i64 0] := h4 w Non
    have hz1 : z.cells = #[Value.int .i64 0] := by apply Array.ext'; exact hzc
    have hpos : 0 < xs.length := List.length_pos_iff.2 h0
    obtain ⟨k, hk⟩ : ∃ k, xs.length = k + 1 := ⟨xs.length - 1, by omega⟩
    have hsz : sz Int = 1 := rfl
    have hfit := ho.fit
    have hle := ho.le
    rw [hsz, Nat.mul_one] at hfit
    have hst := run_storeCells_at P b off e (List.replicate xs.length (Value.int .i64 0)) 0 cur w ho.blk (by simp; omega) (fun v hv => by rw [List.eq_of_mem_replicate hv]; rfl)
    simp only [Nat.add_zero] at hst
    have hzz : (Builtin.zeroCells z.cells xs.length).toList = List.replicate xs.length (Value.int .i64 0) := by
      rw [hz1]
      simp [Builtin.zeroCells]
      apply List.ext_getElem
      · simp
      · intro i h1 h2
        simp [Nat.mod_one]
    refine ⟨w.setRow b (cur.toList.take off ++ List.replicate xs.length (Value.int .i64 0) ++ cur.toList.drop (off + xs.length)).toArray, ?_, .inr ⟨b, off, cap, (cur.toList.take off ++ List.replicate xs.length (Value.int .i64 0) ++ cur.toList.drop (off + xs.length)).toArray, by rw [List.length_map], ⟨setRow_heap w b cur _ e _ ho.blk, ho.ge, ho.nF, by simpa using ho.le, ho.mx, ?_, ?_⟩⟩, ⟨rfl, rfl, rfl, by simp, fun k _ hk => setRow_other w b k _ (fun e => hk (by rw [e]; rfl))⟩⟩
    · rw [List.length_replicate] at hst
      rw [hk] at hst hzz ⊢
      have hzv : (zeroValue e).run P w = .ok z w := by simp [zeroValue, typeInfo, h1, h2]
      simp only [List.append_assoc] at hst
      simp [Builtin.clear_, run_underlying hs.ok, hzv, hzz, hst]
    · simp only [List.size_toArray, List.length_append, List.length_take, List.length_drop, Array.length_toList, List.length_replicate]
      rw [hsz]; omega
    · rw [List.length_map, hsz, Nat.mul_one, List.map_const']
      have e1 : ((((cur.toList.take off ++ List.replicate xs.length (Value.int .i64 0) ++ cur.toList.drop (off + xs.length)).toArray.toList).drop off).take xs.length) = List.replicate xs.length (Value.int .i64 0) := by
        have hl : (cur.toList.take off).length = off := by rw [List.length_take, Array.length_toList]; omega
        simp only [List.append_assoc]
        rw [List.drop_append, hl, Nat.sub_self, List.drop_zero, List.drop_eq_nil_of_le (by omega), List.nil_append, List.take_append]
        simp
      rw [e1]
      exact elems_zeros _ _ _
theorem WL.clearI {x : Operand} {v : Value} {xs : List Int} {B : Nat} (hg : gd L σ ⟨none, .call ⟨.builtin .clear, #[x], #[t]⟩, ty, pos, af, g⟩ = some true)
    (hx : ev σ x = some v) [hs : IsS P t e] [ht : IsT P e Int] [hz : IsZ P e (0 : Int) bytes] (hown : Own w B e Non v xs)
    (h : ∀ w', Own w' B e Non v (xs.map fun _ => (0 : Int)) → w.grownBy w' v.ownBlock → WL P L Q rest n σ w') :
    WL P L Q (⟨none, .call ⟨.builtin .clear, #[x], #[t]⟩, ty, pos, af, g⟩ :: rest) n σ w := by
  obtain ⟨w', hr, ho, hgr⟩ := run_clear (P := P) (t := t) (ty := ty) w hown
  refine WL.runV (v := .tuple #[]) hg (fun a ha => ?_) (h w' ho hgr)
  simp [execOp, resolve, invoke, builtin, ha.ev hx, hr]
end
theorem run_shrZ (P : Program) (w : World) (a : Int) (s : Nat) (hs : s ≤ 62) (t : TypeId) : (binOp .shr t (.int .i64 a) (.int .i64 (s : Int))).run P w = .ok (.int .i64 (a / 2 ^ s)) w := by
  rw [binOp_shr, shift_shr_i64 (h₀ := by omega) (h₁ := by omega), Int.toNat_natCast]; rfl
section
variable {P : Program} {Q : Exit → Act → World → Prop} {n : Nat} {σ : Sg} {w : World} {L rest : List Oper} {d : Nat} {ty : TypeId} {pos : String} {af : Array Edge} {g : Option (Nat × Bool)} {t yt : TypeId} {x y : Operand}
theorem WL.shrZ {a : Int} {s : Nat} (hg : gd L σ ⟨some d, .binOp .shr t x y yt, ty, pos, af, g⟩ = some true) (hd : Nat.ble (d + 1) n = true) (hx : ev σ x = some (.int .i64 a)) (hy : ev σ y = some (.int .i64 (s : Int))) (hs : s ≤ 62)
    (h : WL P L Q rest n ((d, .int .i64 (a / 2 ^ s)) :: σ) w) : WL P L Q (⟨some d, .binOp .shr t x y yt, ty, pos, af, g⟩ :: rest) n σ w := by
  refine WL.run hg hd (fun a0 ha0 => ?_) h
  have := run_shrZ P w a s hs t
  simp [execOp, ha0.ev hx, ha0.ev hy, eqG (op := .shr) rfl, this]
end
theorem bitK_and {a : Int} {k : Nat} (h0 : 0 ≤ a) (h1 : a < 4611686018427387904) : bits BinOp.and IntKind.i64 (a / 2 ^ k) 1 = bitK a k := by
  have hp : (1 : Int) ≤ 2 ^ k := pow_pos2 k
  have hq0 : 0 ≤ a / 2 ^ k := Int.ediv_nonneg h0 (by omega)
  have hq1 : a / 2 ^ k ≤ a := Int.ediv_le_self _ h0
  obtain ⟨q, hq⟩ := Int.eq_ofNat_of_zero_le hq0
  have := Go.Proofs.and_one q (by omega)
  unfold bitK
  rw [hq, this]; omega
theorem takes_set {s : LStep} {o : List Int} {f : Nat} (hf : f < o.length) (h : ¬ (s.2.1 = (f : Int) ∨ s.2.1 < 0 ∧ o[f] > 0)) : o.set f (takes o s (f : Int)) = o := by
  unfold takes
  rw [Int.toNat_natCast, getDm_at hf, if_neg h, List.set_getElem_self]
/-- the numbers of tokens are in bounds -/
def tokI (b : Nat) (o : List Int) : Prop := ∀ k (h : k < o.length), -(b : Int) ≤ o[k] ∧ o[k] ≤ 9
theorem tokI_set {b b' : Nat} {o : List Int} {k : Nat} {v : Int} (h : tokI b o) (hb : b ≤ b') (h0 : -(b' : Int) ≤ v) (h1 : v ≤ 9) : tokI b' (o.set k v) := fun j hj => by
  rw [List.length_set] at hj
  rw [List.getElem_set]
  split
  · exact ⟨h0, h1⟩
  · have := h j hj; omega
theorem fire_ok (w0 : World) {so fo mo : Option Addr} {sc fc mc : Nat} {ns : List LNode} {fl : List LFlow} {m : List Int} (hs : Sl w0 (Old w0) so sc ns) (hf : Sl w0 (Old w0) fo fc fl) (hm : Sl w0 (Old w0) mo mc m) (hc0 : chkPr (ns, fl) = 0) (hml : m.length = fl.length) (hmt : tokI 0 m) {s : LStep} {n : Nat} (hn : n < ns.length) (hsn : s ∈ stepsN (ns, fl) n) :
    Rt Try.prog 63 [procV so sc fo fc ns.length fl.length, .slice mo m.length mc, stV s].toArray w0 fun v w' => ∃ x, v = .tuple ⟨[x, .int .i64 (if (fireP (ns, fl) m s).isSome then 0 else 7)]⟩ ∧ Own w' w0.heap.size 3 Non x ((fireP (ns, fl) m s).getD []) ∧ Ext w0 w' := by
  have hok := chkPr_ok hc0
  have hf30 := hok.f
  dsimp only at hf30
  have q1 := stepsK_node _ hsn
  have q2 := stepsK_in _ hsn
  have q3 := stepsK_out _ hsn
  have hle : listE (ns, fl) (n : Int) = 0 := listE_ok hc0 hn
  have hol : (outsL fl (n : Int)).length ≤ fl.length := outsP_len
  have hil : (insL fl (n : Int)).length ≤ fl.length := insP_len
  clear hsn
  obtain ⟨s1, s2, s3⟩ := s
  dsimp only at q1 q2 q3
  subst q1
  have hp30 := pow_le2 (show (outsL fl (n : Int)).length ≤ 30 by omega)
  have hp31 : (2 : Int) ^ 30 = 1073741824 := by decide
  have hs30 : s3 < 4611686018427387904 := by omega
  unfold stV fireP
  dsimp only
  rw [Int.toNat_natCast, kindAt_at hn]
  refine Rt.enter3 Try.func63 Try.ntmps63 rfl rfl ?_
  have hE := Ext.refl w0
  (repeat (first | (apply CW.seq) | (apply CW.region)))
  refine WL.boxB rfl rfl rfl fun w1 hb3 e1 => ?_
  have hE := hE.trans e1
  skip
  refine WL.boxB rfl rfl rfl fun w2 hb5 e2 => ?_
  have hb3 := hb3.ext e2
  have hE := hE.trans e2
  (repeat (first | (apply WL.pure; rfl; rfl; rfl) | (apply WL.nil) | (apply EX.thenN) | (apply CW.seq) | (apply CW.region)))
  have hd3 := hb3
  have hd5 := hb5
  refine WL.call rfl rfl rfl (clone_int w2 (hm.up hE) (by omega)) ?_
  rintro ov w3 ⟨ho, e3⟩
  have hb3 := hb3.ext e3
  have hb5 := hb5.ext e3
  have z2 := hE.size
  have hE := hE.trans e3
  obtain ⟨nb, off, rfl, hnb, hnc⟩ := (hs.at hE).nodeK hn
  (repeat (first | (apply WL.pure; rfl; rfl; rfl) | (apply WL.nil) | (apply EX.thenN) | (apply CW.seq) | (apply CW.region) | (apply WL.fa; rfl; rfl; rfl) | (apply WL.ld; rfl; rfl; rfl; assumption; rfl)))
  refine WL.idx (α := LNode) rfl rfl rfl rfl (by omega) (by omega) ?_
  (repeat (apply WL.fa; rfl; rfl; rfl))
  refine WL.load (α := Int) (F := Non) (y := ns[n].2) rfl rfl rfl (by rw [Int.toNat_natCast]; exact hnc) rfl ?_
  rw [show vOf Int [.int .i64 ns[n].2] = .int .i64 ns[n].2 from rfl]
  (repeat (first | (apply WL.pure; rfl; rfl; rfl) | (apply WL.nil) | (apply EX.thenN)))
  refine CW.cond rfl (fun h => ?_) (fun h => ?_)
  · have h : ns[n].2 = 3 := by simpa using h
    rw [if_pos h]
    (repeat (first | (apply WL.pure; rfl; rfl; rfl) | (apply CW.seq) | (apply CW.region)))
    refine WL.clearI rfl rfl ho (fun w4 ho4 hg4 => ?_)
    have e4 : Ext w2 w4 := e3.grown hg4 e3.size (fun b hb => (ho.lt b hb).1)
    (repeat (first | (apply WL.pure; rfl; rfl; rfl) | (apply WL.nil) | (apply EX.thenN) | (apply CW.seq) | (apply CW.region) | (apply CW.ret) | (apply EX.thenR)))
    exact EX.ret2 rfl rfl rfl ⟨_, rfl, ho4.low z2, Ext.trans (Ext.trans e1 e2) e4⟩
  have h : ¬ ns[n].2 = 3 := by simpa using h
  rw [if_neg h]
  have e12 := Ext.trans e1 e2
  clear hnc hnb e1
  (repeat (first | (apply EX.thenN) | (apply CW.seq) | (apply CW.region) | (apply WL.fa; rfl; rfl; rfl) | (apply WL.ld; rfl; rfl; rfl; assumption; rfl) | (apply WL.ldA; rfl; rfl; rfl; assumption; rfl) | (apply CW.skip)))
  have hc3 := hb3
  have hc5 := hb5
  have hgo : ∀ g, ov.ownBlock = some g → g < w3.heap.size := fun g hg => (ho.lt g hg).2.1
  refine WL.call rfl rfl rfl (Ins_ok w3 (hs.up hE) (hf.up hE) (n : Int)) ?_
  rintro _ w4 ⟨x, rfl, hox, e4⟩
  rw [hle, if_pos rfl] at hox
  have hb3 := hb3.ext e4
  have hb5 := hb5.ext e4
  have z34 := e4.size
  have hE := hE.trans e4
  have ho := ho.extN e4
  have e4 := e3.trans e4
  obtain ⟨xo, xc, rfl, _⟩ := hox.oldN.sl
  have hins := fun x (hx : x ∈ insL fl (n : Int)) => insP_mem.1 hx
  rw [hle]
  generalize hinsL : insL fl (n : Int) = ins at *
  obtain ⟨s, hsdef⟩ : ∃ s : LStep, s = ((n : Int), s2, s3) := ⟨_, rfl⟩
  have hs21 : s.2.1 = s2 := by rw [hsdef]
  rw [← hsdef]
  have hTk : takeAll s m (ins.drop 0) = takeAll s m ins := by rw [List.drop_zero]
  (repeat (first | (apply WL.pure; rfl; rfl; rfl) | (apply WL.nil) | (apply EX.thenN) | (apply CW.seq) | (apply CW.region) | (apply WL.lenS; rfl; rfl; rfl) | (apply CW.block)))
  refine CW.loop (S := Nat × List Int) (fun t => [(3, .pointer (some ⟨w0.heap.size, 0, none⟩)), (5, .pointer (some ⟨w1.heap.size, 0, none⟩)), (8, ov), (36, .slice xo ins.length xc), (37, .int .i64 ins.length), (38, .int .i64 t.1)])
    (fun t w => t.1 ≤ ins.length ∧ t.2.length = m.length ∧ tokI t.1 t.2 ∧ takeAll s t.2 (ins.drop t.1) = takeAll s m ins ∧ Own w w2.heap.size 3 Non ov t.2 ∧ Own w w3.heap.size 3 Non (.slice xo ins.length xc) ins ∧ Ext w2 w ∧ w3.heap.size ≤ w.heap.size) (fun t => ins.length - t.1)
    (0, m) (by repeat (first | exact trivial | refine ⟨rfl, ?_⟩)) ⟨Nat.zero_le _, rfl, hmt, hTk, ho, hox, e4, z34⟩ ?_
  rintro ⟨i, o⟩ w5 ⟨hi, hol5, htk, hT, ho, hox, e5, z5⟩
  dsimp only at hi hol5 htk hT ho e5 ⊢
  have hE5 := Ext.trans e12 e5
  have hb3 := hd3.ext e5
  have hb5 := hd5.ext e5
  obtain ⟨_, _, exo, hxs⟩ := hox.oldN.sl
  obtain ⟨rfl, _, rfl⟩ := Value.slice.inj exo
  (repeat (first | (apply WL.pure; rfl; rfl; rfl) | (apply WL.nil) | (apply EX.thenN) | (apply CW.seq) | (apply CW.region)))
  refine CW.cond rfl (fun h => ?_) (fun h => ?_)
  · have hi' : i < ins.length := by simp at h; omega
    obtain ⟨f, ef, hlt, _⟩ := hins _ (List.getElem_mem hi')
    have hfo : f < o.length := by omega
    have hbd := htk f hfo
    rw [List.drop_eq_getElem_cons hi', takeAll, ef, Int.toNat_natCast] at hT
    have hno : ¬ (s2 = (f : Int) ∨ s2 < 0 ∧ o[f] > 0) → takeAll s o (ins.drop (i + 1)) = takeAll s m ins := fun h => by
      rw [← hT, takes_set hfo (by rw [hs21]; exact h)]
    have hyes : (s2 = (f : Int) ∨ s2 < 0 ∧ o[f] > 0) → takeAll s (o.set f (o[f] - 1)) (ins.drop (i + 1)) = takeAll s m ins := fun h => by
      rw [← hT]
      unfold takes
      rw [Int.toNat_natCast, getDm_at hfo, hs21, if_pos h]
    have htk' : tokI (i + 1) o := fun j hj => by have := htk j hj; omega
    (repeat (first | (apply EX.thenN) | (apply CW.seq) | (apply CW.region) | (apply CW.block) | (apply CW.skip)))
    refine WL.elemI rfl rfl rfl rfl rfl hxs hi' ef (fun _ => rfl) (fun q => ?_)
    (repeat (first | (apply WL.pure; rfl; rfl; rfl) | (apply WL.nil) | (apply EX.thenN) | (apply CW.seq) | (apply CW.region) | (apply WL.fa; rfl; rfl; rfl) | (apply WL.ld; rfl; rfl; rfl; assumption; rfl)))
    by_cases h1 : s2 = (f : Int)
    · rw [show (s2 == (f : Int)) = true by simpa using h1]
      (repeat (first | (apply WL.pure; rfl; rfl; rfl) | (apply WL.nil) | (apply EX.thenN) | (apply CW.region) | (apply WL.pass; rfl; rfl) | (apply CW.condT; rfl)))
      refine WL.elemON rfl rfl rfl rfl rfl ho hfo (fun _ => rfl) (fun u q hu => ?_)
      obtain rfl := hu.int
      (repeat (apply WL.sub'; rfl; rfl; rfl; rfl; omega; omega))
      refine WL.setN (u := .int .i64 (o[f] - 1)) (yv := o[f] - 1) rfl rfl rfl rfl ho hfo (fun _ => rfl) (fun _ => rfl) (Rd.mkInt _ _ _) (fun w6 q ho6 hg6 => ?_)
      have e6 : Ext w2 w6 := e5.grown hg6 e5.size (fun b hb => (ho.lt b hb).1)
      have hox6 := hox.keptN hg6 (fun g hg e => by have := (hox.lt g hg).1; have := hgo g e.symm; omega)
      (repeat (first | (apply WL.add; rfl; rfl; rfl; rfl; omega; omega) | (apply WL.pure; rfl; rfl; rfl) | (apply WL.nil) | (apply EX.thenN) | (apply CW.region) | (apply EX.inN)))
      exact EX.back (i + 1, o.set f (o[f] - 1)) (by repeat (first | exact trivial | refine ⟨rfl, ?_⟩)) ⟨hi', by simpa using hol5, tokI_set htk (by omega) (by omega) (by omega), hyes (.inl h1), ho6, hox6, e6, Nat.le_trans z5 hg6.size⟩ (by dsimp only; omega)
    · rw [show (s2 == (f : Int)) = false by simpa using h1]
      by_cases h2 : s2 < 0
      · (repeat (first | (apply WL.pure; rfl; rfl; rfl) | (apply WL.fa; rfl; rfl; rfl) | (apply WL.ld; rfl; rfl; rfl; assumption; rfl)))
        rw [decide_eq_true h2]
        (repeat (apply WL.pure; rfl; rfl; rfl))
        refine WL.elemON rfl rfl rfl rfl rfl ho hfo (fun _ => rfl) (fun u q hu => ?_)
        obtain rfl := hu.int
        (repeat (first | (apply WL.pure; rfl; rfl; rfl) | (apply WL.nil) | (apply EX.thenN)))
        refine CW.cond rfl (fun h3 => ?_) (fun h3 => ?_)
        · have h3 : o[f] > 0 := by simpa using h3
          (repeat (first | (apply WL.pure; rfl; rfl; rfl) | (apply CW.region)))
          refine WL.elemON rfl rfl rfl rfl rfl ho hfo (fun _ => rfl) (fun u q hu => ?_)
          obtain rfl := hu.int
          (repeat (apply WL.sub'; rfl; rfl; rfl; rfl; omega; omega))
          refine WL.setN (u := .int .i64 (o[f] - 1)) (yv := o[f] - 1) rfl rfl rfl rfl ho hfo (fun _ => rfl) (fun _ => rfl) (Rd.mkInt _ _ _) (fun w6 q ho6 hg6 => ?_)
          have e6 : Ext w2 w6 := e5.grown hg6 e5.size (fun b hb => (ho.lt b hb).1)
          have hox6 := hox.keptN hg6 (fun g hg e => by have := (hox.lt g hg).1; have := hgo g e.symm; omega)
          (repeat (first | (apply WL.add; rfl; rfl; rfl; rfl; omega; omega) | (apply WL.pure; rfl; rfl; rfl) | (apply WL.nil) | (apply EX.thenN) | (apply CW.region) | (apply EX.inN)))
          exact EX.back (i + 1, o.set f (o[f] - 1)) (by repeat (first | exact trivial | refine ⟨rfl, ?_⟩)) ⟨hi', by simpa using hol5, tokI_set htk (by omega) (by omega) (by omega), hyes (.inr ⟨h2, h3⟩), ho6, hox6, e6, Nat.le_trans z5 hg6.size⟩ (by dsimp only; omega)
        · have h3 : ¬ o[f] > 0 := by simpa using h3
          (repeat (first | (apply WL.add; rfl; rfl; rfl; rfl; omega; omega) | (apply WL.pure; rfl; rfl; rfl) | (apply WL.nil) | (apply EX.thenN) | (apply CW.region) | (apply EX.inN) | (apply CW.skip)))
          exact EX.back (i + 1, o) (by repeat (first | exact trivial | refine ⟨rfl, ?_⟩)) ⟨hi', hol5, htk', hno (fun h => h.elim h1 (fun h => h3 h.2)), ho, hox, e5, z5⟩ (by dsimp only; omega)
      · (repeat (first | (apply WL.pure; rfl; rfl; rfl) | (apply WL.fa; rfl; rfl; rfl) | (apply WL.ld; rfl; rfl; rfl; assumption; rfl)))
        rw [decide_eq_false h2]
        (repeat (first | (apply WL.add; rfl; rfl; rfl; rfl; omega; omega) | (apply WL.pure; rfl; rfl; rfl) | (apply WL.nil) | (apply EX.thenN) | (apply CW.region) | (apply WL.pass; rfl; rfl) | (apply EX.inN) | (apply CW.condF; rfl) | (apply CW.skip)))
        exact EX.back (i + 1, o) (by repeat (first | exact trivial | refine ⟨rfl, ?_⟩)) ⟨hi', hol5, htk', hno (fun h => h.elim h1 (fun h => h2 h.1)), ho, hox, e5, z5⟩ (by dsimp only; omega)
  obtain rfl : i = ins.length := by simp at h; omega
  rw [List.drop_length, takeAll] at hT
  rw [← hT]
  clear hT exo hxs hox
  (repeat (first | (apply EX.thenN) | (apply CW.seq) | (apply CW.region) | (apply WL.fa; rfl; rfl; rfl) | (apply WL.ld; rfl; rfl; rfl; assumption; rfl) | (apply WL.ldA; rfl; rfl; rfl; assumption; rfl) | (apply CW.exit) | (apply EX.thenX) | (apply EX.inX)))
  refine WL.call rfl rfl rfl (Outs_ok w5 (hs.up hE5) (hf.up hE5) (n : Int)) ?_
  rintro _ w6 ⟨x, rfl, hoy, e6⟩
  rw [hle, if_pos rfl] at hoy
  rw [hle]
  have ho := ho.extN e6
  have e6 := e5.trans e6
  obtain ⟨yo, yc, rfl, _⟩ := hoy.oldN.sl
  have houts := fun x (hx : x ∈ outsL fl (n : Int)) => outsP_mem.1 hx
  generalize outsL fl (n : Int) = outs at *
  have hb3 := hd3.ext e6
  have hb5 := hd5.ext e6
  generalize hR : putAll s3 0 o outs = R
  have hRk : putAll s3 0 o (outs.drop 0) = R := by rw [List.drop_zero]; exact hR
  have htk30 : tokI 30 o := fun j hj => by have := htk j hj; omega
  (repeat (first | (apply WL.pure; rfl; rfl; rfl) | (apply WL.nil) | (apply EX.thenN) | (apply CW.seq) | (apply CW.region) | (apply WL.lenS; rfl; rfl; rfl) | (apply CW.block)))
  refine CW.loop (S := Nat × List Int) (fun t => [(5, .pointer (some ⟨w1.heap.size, 0, none⟩)), (8, ov), (72, .slice yo outs.length yc), (73, .int .i64 outs.length), (74, .int .i64 t.1)])
    (fun t w => t.1 ≤ outs.length ∧ t.2.length = m.length ∧ tokI 30 t.2 ∧ putAll s3 t.1 t.2 (outs.drop t.1) = R ∧ Own w w2.heap.size 3 Non ov t.2 ∧ Own w w5.heap.size 3 Non (.slice yo outs.length yc) outs ∧ Ext w2 w) (fun t => outs.length - t.1)
    (0, o) (by repeat (first | exact trivial | refine ⟨rfl, ?_⟩)) ⟨Nat.zero_le _, hol5, htk30, hRk, ho, hoy, e6⟩ ?_
  clear hR hRk htk30 ho hoy e6 htk hol5 hb5 hb3 hE5
  rintro ⟨k, o2⟩ w7 ⟨hk, hol7, htk, hR, ho, hoy, e7⟩
  dsimp only at hk hol7 htk hR ho e7 ⊢
  have hE7 := Ext.trans e12 e7
  have hb5 := hd5.ext e7
  obtain ⟨_, _, eyo, hys⟩ := hoy.oldN.sl
  obtain ⟨rfl, _, rfl⟩ := Value.slice.inj eyo
  (repeat (first | (apply WL.pure; rfl; rfl; rfl) | (apply WL.nil) | (apply EX.thenN) | (apply CW.seq) | (apply CW.region)))
  refine CW.cond rfl (fun h => ?_) (fun h => ?_)
  · have hk' : k < outs.length := by simp at h; omega
    obtain ⟨f, ef, hlt, _⟩ := houts _ (List.getElem_mem hk')
    have hfo : f < o2.length := by omega
    have hbd := htk f hfo
    have hbit := bitK_and (k := k) q3.1 hs30
    rw [List.drop_eq_getElem_cons hk', putAll, ef, Int.toNat_natCast, getDm_at hfo] at hR
    (repeat (first | (apply WL.pure; rfl; rfl; rfl) | (apply EX.thenN) | (apply CW.seq) | (apply CW.region) | (apply CW.block) | (apply CW.skip)))
    refine WL.elemI rfl rfl rfl rfl rfl hys hk' ef (fun _ => rfl) (fun q => ?_)
    (repeat (first | (apply WL.pure; rfl; rfl; rfl) | (apply WL.nil) | (apply EX.thenN) | (apply CW.seq) | (apply CW.region) | (apply WL.fa; rfl; rfl; rfl) | (apply WL.ld; rfl; rfl; rfl; assumption; rfl)))
    refine WL.shrZ (s := k) rfl rfl rfl rfl (by omega) ?_
    (repeat (first | (apply WL.pure; rfl; rfl; rfl) | (apply WL.nil) | (apply EX.thenN)))
    rw [hbit]
    refine CW.cond rfl (fun h1 => ?_) (fun h1 => ?_)
    · have h1 : bitK s3 k = 1 := by simpa using h1
      rw [if_pos h1] at hR
      (repeat (first | (apply WL.pure; rfl; rfl; rfl) | (apply CW.seq) | (apply CW.region)))
      refine WL.elemON rfl rfl rfl rfl rfl ho hfo (fun _ => rfl) (fun u q hu => ?_)
      obtain rfl := hu.int
      (repeat (apply WL.add; rfl; rfl; rfl; rfl; omega; omega))
      refine WL.setN (u := .int .i64 (o2[f] + 1)) (yv := o2[f] + 1) rfl rfl rfl rfl ho hfo (fun _ => rfl) (fun _ => rfl) (Rd.mkInt _ _ _) (fun w8 q ho8 hg8 => ?_)
      have e8 : Ext w2 w8 := e7.grown hg8 e7.size (fun b hb => (ho.lt b hb).1)
      have hoy8 := hoy.keptN hg8 (fun g hg e => by have := (hoy.lt g hg).1; have := hgo g e.symm; omega)
      have hE8 := Ext.trans e12 e8
      have hfo8 : f < (o2.set f (o2[f] + 1)).length := by simpa using hfo
      (repeat (first | (apply WL.pure; rfl; rfl; rfl) | (apply WL.nil) | (apply EX.thenN) | (apply CW.seq) | (apply CW.region)))
      refine WL.elemON rfl rfl rfl rfl rfl ho8 hfo8 (fun _ => rfl) (fun u q hu => ?_)
      obtain rfl := hu.int
      rw [List.getElem_set_self]
      (repeat (first | (apply WL.pure; rfl; rfl; rfl) | (apply WL.nil) | (apply EX.thenN)))
      refine CW.cond rfl (fun h2 => ?_) (fun h2 => ?_)
      · have h2 : o2[f] + 1 > 9 := by simpa using h2
        rw [if_pos h2] at hR
        subst hR
        (repeat (first | (apply WL.pure; rfl; rfl; rfl) | (apply WL.nil) | (apply EX.thenN) | (apply CW.seq) | (apply CW.region) | (apply CW.ret) | (apply EX.thenR) | (apply EX.inR)))
        exact EX.ret2 rfl rfl rfl ⟨_, rfl, Own.nil, hE8⟩
      · have h2 : ¬ o2[f] + 1 > 9 := by simpa using h2
        rw [if_neg h2] at hR
        (repeat (first | (apply WL.add; rfl; rfl; rfl; rfl; omega; omega) | (apply WL.pure; rfl; rfl; rfl) | (apply WL.nil) | (apply EX.thenN) | (apply CW.region) | (apply EX.inN) | (apply CW.skip)))
        exact EX.back (k + 1, o2.set f (o2[f] + 1)) (by repeat (first | exact trivial | refine ⟨rfl, ?_⟩)) ⟨hk', by simpa using hol7, tokI_set htk (by omega) (by omega) (by omega), hR, ho8, hoy8, e8⟩ (by dsimp only; omega)
    · have h1 : ¬ bitK s3 k = 1 := by simpa using h1
      rw [if_neg h1] at hR
      (repeat (first | (apply WL.add; rfl; rfl; rfl; rfl; omega; omega) | (apply WL.pure; rfl; rfl; rfl) | (apply WL.nil) | (apply EX.thenN) | (apply CW.region) | (apply EX.inN) | (apply CW.skip)))
      exact EX.back (k + 1, o2) (by repeat (first | exact trivial | refine ⟨rfl, ?_⟩)) ⟨hk', hol7, htk, hR, ho, hoy, e7⟩ (by dsimp only; omega)
  · obtain rfl : k = outs.length := by simp at h; omega
    rw [List.drop_length, putAll] at hR
    subst hR
    (repeat (first | (apply WL.pure; rfl; rfl; rfl) | (apply WL.nil) | (apply EX.thenN) | (apply CW.seq) | (apply CW.region) | (apply CW.exit) | (apply EX.thenX) | (apply EX.inX) | (apply CW.ret)))
    exact EX.ret2 rfl rfl rfl ⟨_, rfl, ho.low z2, hE7⟩
end Go.Proofs.Ytljcnopekjinjaa
/-
  An element that is read in a drawn region when nothing else may come.
-/
set_option linter.unusedVariables false
set_option linter.unusedSimpArgs false
namespace Go.Proofs.Ytljcnopekjinjaa
open Go.RowKit
section
variable {P : Program} {Q : Exit → Act → World → Prop} {n : Nat} {σ : Sg} {wc : World} {L : List Oper} {S : World → Prop} {rest : List (Nat × Bool)} {i j d d' : Nat} {ty : TypeId} {pos : String} {af : Array Edge} {g : Option (Nat × Bool)} {ty' : TypeId} {pos' : String} {af' : Array Edge} {g' : Option (Nat × Bool)} {t e : TypeId} {x ix : Operand}
variable {α : Type} [Rep α] {F : Nat → Prop}
theorem HL.elemM {ao : Option Addr} {cap : Nat} {xs : List α} {k : Nat} {kd : IntKind} (hS : S wc)
    (ho1 : nthO L i = some ⟨some d, .indexAddr t x ix, ty, pos, af, g⟩) (ho2 : nthO L j = some ⟨some d', .load e (.tmp d), ty', pos', af', g'⟩)
    (hg : gd L σ ⟨some d, .indexAddr t x ix, ty, pos, af, g⟩ = some true) (hd : Nat.ble (d + 1) n = true) (hd' : Nat.ble (d' + 1) n = true)
    (hx : ev σ x = some (.slice ao xs.length cap)) (hi : ev σ ix = some (.int kd (k : Int))) [hs : IsS P t e] [ht : IsT P e α] (hsl : Sl wc F ao cap xs) (h1 : k < xs.length)
    (hg' : ∀ p, gd L ((d, .pointer p) :: σ) ⟨some d', .load e (.tmp d), ty', pos', af', g'⟩ = some true)
    (h : ∀ u p, Rd wc F u xs[k] → HL P L S Q rest n ((d', u) :: (d, .pointer p) :: σ) wc) :
    HL P L S Q ((i, false) :: (j, false) :: rest) n σ wc := by
  obtain ⟨b, off, rfl, hFb, es, hc, hr⟩ := hsl.el k h1
  refine HL.mut ho1 (WL.idx (α := α) hg hd hx hi (by omega) (by omega) (WL.nil (EX.mut hS ?_)))
  refine HL.mut ho2 (WL.load (α := α) (hg' _) hd' fnd_cons_eq (by simpa using hc) hr (WL.nil (EX.mut hS ?_)))
  exact h _ _ ⟨es, rfl, hr⟩
end
end Go.Proofs.Ytljcnopekjinjaa
/-
  Package game: Fire; watchkeep: sumOf: walked.
-/
set_option linter.unusedVariables false
set_option linter.unusedSimpArgs false
namespace Go.Proofs.Ytljcnopekjinjaa
open Go.RowKit

theorem tokI_of {m : List Int} (h : m.any tokB = false) : tokI 0 m := fun k hk => by
  have := List.any_eq_false.1 h _ (List.getElem_mem hk)
  unfold tokB at this
  simp at this
  omega
theorem Fire_ok (w0 : World) {so fo mo : Option Addr} {sc fc mc : Nat} {ns : List LNode} {fl : List LFlow} {m : List Int} (hs : Sl w0 (Old w0) so sc ns) (hf : Sl w0 (Old w0) fo fc fl) (hm : Sl w0 (Old w0) mo mc m) (k : Int) :
    Rt Try.prog 30 [procV so sc fo fc ns.length fl.length, .slice mo m.length mc, .int .i64 k].toArray w0 fun v w' => ∃ x, v = .tuple ⟨[x, .int .i64 (fireE (ns, fl) m k).2]⟩ ∧ Own w' w0.heap.size 3 Non x (fireE (ns, fl) m k).1 ∧ Ext w0 w' := by
  refine Rt.enter3 Try.func30 Try.ntmps30 rfl rfl ?_
  have hE := Ext.refl w0
  (repeat (first | (apply CW.seq) | (apply CW.region)))
  refine WL.boxB rfl rfl rfl fun w1 hb3 e1 => ?_
  have hE := hE.trans e1
  (repeat (first | (apply WL.pure; rfl; rfl; rfl) | (apply WL.nil) | (apply EX.thenN) | (apply CW.seq) | (apply CW.region) | (apply WL.ldA; rfl; rfl; rfl; assumption; rfl)))
  refine WL.call rfl rfl rfl (check_ok w1 (hs.up hE) (hf.up hE) (hm.up hE)) ?_
  rintro _ w2 ⟨x, rfl, hox, e2⟩
  have hb3 := hb3.ext e2
  have hE := hE.trans e2
  unfold fireE
  by_cases hz : chkM (ns, fl) m = 0
  case neg =>
    have hz1 : (chkM (ns, fl) m != 0) = true := by simpa using hz
    rw [if_pos hz]
    (repeat (first | (apply WL.pure; rfl; rfl; rfl) | (apply WL.nil) | (apply EX.thenN) | (apply CW.seq) | (apply CW.region) | (apply CW.block)))
    rw [hz1]
    (repeat (first | (apply WL.pure; rfl; rfl; rfl) | (apply WL.nil) | (apply EX.thenN) | (apply CW.seq) | (apply CW.region) | (apply CW.condT; rfl) | (apply CW.ret) | (apply EX.thenR) | (apply EX.inR)))
    exact EX.ret2 rfl rfl rfl ⟨_, rfl, Own.nil, hE⟩
  obtain ⟨hc0, hml, htok, hl60⟩ := chkM_ok hz
  have hti := tokI_of htok
  rw [if_pos hz] at hox
  rw [if_neg (by simp [hz]), hz]
  dsimp only at hml
  obtain ⟨xo, xc, rfl, hxs⟩ := hox.oldN.sl
  clear hox
  (repeat (first | (apply WL.pure; rfl; rfl; rfl) | (apply WL.nil) | (apply EX.thenN) | (apply CW.seq) | (apply CW.region) | (apply CW.block) | (apply CW.condF; rfl)))
  by_cases hr : k < 0 ∨ k ≥ (stepsL (ns, fl)).length
  · rw [if_pos hr]
    by_cases hk : k < 0
    · rw [decide_eq_true hk]
      (repeat (first | (apply WL.pure; rfl; rfl; rfl) | (apply WL.nil) | (apply EX.thenN) | (apply CW.seq) | (apply CW.region) | (apply WL.pass; rfl; rfl) | (apply CW.condT; rfl) | (apply CW.ret) | (apply EX.thenR) | (apply EX.inR)))
      exact EX.ret2 rfl rfl rfl ⟨_, rfl, Own.nil, hE⟩
    · rw [decide_eq_false hk]
      (repeat (first | (apply WL.pure; rfl; rfl; rfl) | (apply WL.nil) | (apply EX.thenN) | (apply WL.lenS; rfl; rfl; rfl)))
      rw [decide_eq_true (show k ≥ ((stepsL (ns, fl)).length : Int) from hr.resolve_left hk)]
      (repeat (first | (apply WL.pure; rfl; rfl; rfl) | (apply WL.nil) | (apply EX.thenN) | (apply CW.seq) | (apply CW.region) | (apply CW.condT; rfl) | (apply CW.ret) | (apply EX.thenR) | (apply EX.inR)))
      exact EX.ret2 rfl rfl rfl ⟨_, rfl, Own.nil, hE⟩
  rw [if_neg hr]
  have hk0 : ¬ k < 0 := fun h => hr (.inl h)
  have hk1 : ¬ k ≥ ((stepsL (ns, fl)).length : Int) := fun h => hr (.inr h)
  rw [decide_eq_false hk0]
  (repeat (first | (apply WL.pure; rfl; rfl; rfl) | (apply WL.nil) | (apply EX.thenN) | (apply WL.lenS; rfl; rfl; rfl)))
  rw [decide_eq_false hk1]
  obtain ⟨i, rfl⟩ := Int.eq_ofNat_of_zero_le (show 0 ≤ k by omega)
  have hi' : i < (stepsL (ns, fl)).length := by omega
  obtain ⟨n, hn, hsn⟩ := stepsP_mem.1 (List.getElem_mem hi')
  rw [Int.toNat_natCast, stepsL_at hi']
  have hen := fun w hs hf hm => enabled_ok w (so := so) (fo := fo) (mo := mo) (sc := sc) (fc := fc) (mc := mc) hs hf hm hc0 hml hn hsn
  have hfi := fun w hs hf hm => fire_ok w (so := so) (fo := fo) (mo := mo) (sc := sc) (fc := fc) (mc := mc) hs hf hm hc0 hml hti hn hsn
  obtain ⟨s, hsdef⟩ : ∃ s, s = (stepsL (ns, fl))[i] := ⟨_, rfl⟩
  rw [← hsdef] at hen hfi ⊢
  (repeat (first | (apply QL.pure; rfl; rfl; rfl) | (apply CW.seq) | (apply QL.ldA; rfl; rfl; rfl; assumption; rfl) | (apply CW.condF; rfl) | (apply CW.draw; exact mixed; kernel_rfl)))
  refine QL.elemN rfl rfl rfl rfl rfl (fun _ h => h) hxs hi' (fun _ => rfl) (fun u q hu => ?_)
  rw [hu.step, ← hsdef]
  refine QL.call rfl rfl rfl (fun w hw => hen w (hs.up (hE.trans hw)) (hf.up (hE.trans hw)) (hm.up (hE.trans hw))) ?_
  (repeat (apply QL.pure; rfl; rfl; rfl))
  refine QL.nil (fun w3 e3 => ?_)
  have hb3 := hb3.ext e3
  have hE := hE.trans e3
  have hxs := hxs.up e3
  clear hu
  (repeat (apply EX.thenN))
  refine CW.cond rfl (fun h => ?_) (fun h => ?_)
  · have h : enabledP (ns, fl) m s = false := by simpa using h
    rw [if_pos h]
    (repeat (first | (apply WL.pure; rfl; rfl; rfl) | (apply WL.nil) | (apply EX.thenN) | (apply CW.seq) | (apply CW.region) | (apply CW.ret) | (apply EX.thenR) | (apply EX.inR)))
    exact EX.ret2 rfl rfl rfl ⟨_, rfl, Own.nil, hE⟩
  have h : ¬ enabledP (ns, fl) m s = false := by simpa using h
  rw [if_neg h]
  have hd := Ext.drew w3
  have hSE : ∀ x, (fun x => Ext w3 x) x → Ext w3 x := fun _ h => h
  have hE4 := hE.trans hd
  (repeat (first | (apply EX.thenN) | (apply CW.seq) | (apply EX.inN) | (apply CW.skip)))
  refine CW.drawH (fun x => Ext w3 x) [(0, true), (1, true), (2, true), (3, true), (4, true), (5, true), (6, false), (7, true), (8, true), (9, true), (10, true)] mixed (by kernel_rfl) (Ext.drew w3) ?_
  (repeat (first | (apply HL.pure; rfl; rfl; rfl; rfl) | (refine HL.ldA (by assumption) rfl rfl rfl rfl (by assumption) rfl ?_)))
  refine HL.elemN (α := LStep) (k := i) hSE rfl rfl rfl rfl rfl rfl rfl (fun _ h => h) hxs hi' (fun _ => rfl) (fun u q hu => ?_)
  rw [hu.step, ← hsdef]
  skip
  refine HL.mut rfl (WL.call rfl rfl rfl (hfi (drew w3) (hs.up hE4) (hf.up hE4) (hm.up hE4)) ?_)
  rintro _ w4 ⟨x, rfl, hox, e4⟩
  have hT4 : Ext w3 w4 := hd.trans e4
  refine WL.nil (EX.mut hT4 ?_)
  (repeat (first | (apply HL.pure; rfl; rfl; rfl; rfl) | (apply HL.nil)))
  (repeat (first | (apply EX.thenN) | (apply CW.ret)))
  exact EX.ret2 rfl rfl rfl ⟨_, rfl, hox.low hE4.size, hE.trans hT4⟩
end Go.Proofs.Ytljcnopekjinjaa
/-
  Small helpers of package watchkeep.
-/
set_option linter.unusedVariables false
namespace Go.Proofs.Ytljcnopekjinjaa
open Go.RowKit
theorem wrest_ok (w : World) (n m : Int) (hm : 0 < m) (hm2 : m < 4611686018427387904) : Rt Try.prog 55 [.int .i64 n, .int .i64 m].toArray w fun v w' => v = .int .i64 (n % m) ∧ w = w' := by
  refine Rt.enter2 Try.func55 Try.ntmps55 rfl rfl ?_
  have h1 := Int.tmod_add_mul_tdiv n m
  have h2 : n.tmod m < m := Int.tmod_lt_of_pos n hm
  have h3 : -m < n.tmod m := by
    have := Int.tmod_lt_of_pos (-n) hm
    rw [Int.neg_tmod] at this; omega
  have hpos : 0 ≤ n.tmod m → n.tmod m = n % m := fun h => by
    have e : n % m = (n.tmod m + m * n.tdiv m) % m := by rw [h1]
    rw [e, Int.add_mul_emod_self_left, Int.emod_eq_of_lt h h2]
  have hneg : n.tmod m < 0 → n.tmod m + m = n % m := fun h => by
    have e : n % m = ((n.tmod m + m) + m * (n.tdiv m - 1)) % m := by rw [Int.mul_sub]; congr 1; omega
    rw [e, Int.add_mul_emod_self_left, Int.emod_eq_of_lt (by omega) (by omega)]
  (repeat (first | (apply WL.pure; rfl; rfl; rfl) | (apply WL.nil) | (apply EX.thenN) | (apply CW.seq) | (apply CW.region)))
  refine WL.remT rfl rfl rfl rfl (by omega) ?_
  (repeat (first | (apply WL.pure; rfl; rfl; rfl) | (apply WL.nil) | (apply EX.thenN) | (apply CW.seq) | (apply CW.region)))
  refine CW.cond rfl (fun h => ?_) (fun h => ?_) <;> simp only [decide_eq_true_eq, decide_eq_false_iff_not] at h
  · (repeat (first | (apply WL.add; rfl; rfl; rfl; rfl; omega; omega) | (apply WL.pure; rfl; rfl; rfl) | (apply WL.nil) | (apply EX.thenN) | (apply CW.seq) | (apply CW.region) | (apply CW.ret)))
    exact EX.ret1 rfl rfl ⟨congrArg (Value.int .i64) (hneg h), rfl⟩
  · (repeat (first | (apply WL.pure; rfl; rfl; rfl) | (apply WL.nil) | (apply EX.thenN) | (apply CW.seq) | (apply CW.region) | (apply CW.ret) | (apply CW.skip)))
    exact EX.ret1 rfl rfl ⟨congrArg (Value.int .i64) (hpos (by omega)), rfl⟩
end Go.Proofs.Ytljcnopekjinjaa
