/-
  Package scc: Split and Parts.
-/
import Derived.Test.YthefpigolikmeaaVisit
set_option linter.unusedVariables false
set_option linter.unusedSimpArgs false
namespace Go.Proofs.Ythefpigolikmeaa
open Go.RowKit

/-- one more than the largest -/
def nxt (l : List Int) : Int := l.foldl (fun m x => max m (x + 1)) 0
theorem nxt_app (l : List Int) (x : Int) : nxt (l ++ [x]) = max (nxt l) (x + 1) := by simp [nxt]
theorem nxt_ge : ∀ (l : List Int) (x : Int), x ∈ l → x + 1 ≤ nxt l := by
  have key : ∀ (l : List Int) (m : Int), m ≤ l.foldl (fun m x => max m (x + 1)) m ∧ ∀ x ∈ l, x + 1 ≤ l.foldl (fun m x => max m (x + 1)) m := by
    intro l
    induction l with
    | nil => intro m; simp
    | cons y l ih =>
      intro m
      have h := ih (max m (y + 1))
      simp only [List.foldl_cons]
      refine ⟨by omega, fun x hx => ?_⟩
      rcases List.mem_cons.1 hx with rfl | hx
      · omega
      · exact h.2 x hx
  intro l x hx
  exact (key l 0).2 x hx
/-- numbered as the parts' first nodes come -/
def Canon (p : List Int) : Prop := ∀ i, i < p.length → (∃ j, j < i ∧ p.getD j 0 = p.getD i 0) ∨ p.getD i 0 = nxt (p.take i)
theorem canon_unique {p q : List Int} (hp : Canon p) (hq : Canon q) (hl : p.length = q.length) (h : ∀ a b, a < p.length → b < p.length → (p.getD a 0 = p.getD b 0 ↔ q.getD a 0 = q.getD b 0)) : p = q := by
  have key : ∀ i, i ≤ p.length → p.take i = q.take i := by
    intro i
    induction i using Nat.strongRecOn with
    | _ i ih =>
      intro hi
      cases i with
      | zero => rfl
      | succ i =>
        have e := ih i (by omega) (by omega)
        have hq' : i < q.length := by omega
        rw [List.take_succ_eq_append_getElem (by omega), List.take_succ_eq_append_getElem hq', e]
        congr 2
        have e1 : p.getD i 0 = p[i] := getD_at (by omega)
        have e2 : q.getD i 0 = q[i] := getD_at hq'
        rw [← e1, ← e2]
        have hprev : ∀ j, j < i → p.getD j 0 = q.getD j 0 := by
          intro j hj
          have := congrArg (fun l : List Int => l.getD j 0) e
          simpa [List.getD_eq_getElem?_getD, List.getElem?_take, hj] using this
        rcases hp i (by omega) with ⟨j, hj, h1⟩ | h1
        · have h2 := (h j i (by omega) (by omega)).1 h1
          rw [← h1, ← h2, hprev j hj]
        · rcases hq i hq' with ⟨j, hj, h2⟩ | h2
          · have h3 := (h j i (by omega) (by omega)).2 h2
            rw [← h3, ← h2, hprev j hj]
          · rw [h1, h2, e]
  have := key p.length (Nat.le_refl _)
  rw [List.take_length, hl, List.take_length] at this
  exact this
structure PartsOK (g : Graph) (p : List Int) : Prop where
  len : p.length = g.length
  canon : Canon p
  same : ∀ a b, a < g.length → b < g.length → (p.getD a 0 = p.getD b 0 ↔ Rch g [(a : Int)] b ∧ Rch g [(b : Int)] a)
  ge : ∀ i, i < p.length → 0 ≤ p.getD i 0
  lt : ∀ i, i < p.length → p.getD i 0 < g.length

/-- while the parts are named -/
structure CInv (q : List Int) (got : Int) (i : Nat) (name : List Int) (next : Int) (out : List Int) : Prop where
  ln : (name.length : Int) = got
  lo : out.length = q.length
  n0 : ∀ k, 0 ≤ name.getD k 0 ∧ name.getD k 0 ≤ next
  z : ∀ j, j < i → 0 < name.getD (q.getD j 0).toNat 0 ∧ out.getD j 0 = name.getD (q.getD j 0).toNat 0 - 1
  zz : ∀ k, 0 < name.getD k 0 → ∃ j, j < i ∧ (q.getD j 0).toNat = k
  inj : ∀ k k', 0 < name.getD k 0 → name.getD k 0 = name.getD k' 0 → k = k'
  nx : next = nxt (out.take i)
  le : next ≤ i
  canon : ∀ j, j < i → (∃ m, m < j ∧ out.getD m 0 = out.getD j 0) ∨ out.getD j 0 = nxt (out.take j)
theorem CInv.start {q out : List Int} {got : Int} (hg : 0 ≤ got) (hl : out.length = q.length) : CInv q got 0 (List.replicate got.toNat 0) 0 out := by
  have h0 : ∀ k, (List.replicate got.toNat (0 : Int)).getD k 0 = 0 := by
    intro k
    rw [List.getD_eq_getElem?_getD, List.getElem?_replicate]
    split <;> rfl
  refine ⟨by simp; omega, hl, fun k => by rw [h0]; simp, fun j hj => absurd hj (by simp), fun k hk => by rw [h0] at hk; omega, fun k k' hk => by rw [h0] at hk; omega, rfl, by simp, fun j hj => absurd hj (by simp)⟩
theorem take_set_getD {out : List Int} {i : Nat} {x : Int} (hi : i < out.length) : (out.set i x).take (i + 1) = out.take i ++ [x] := by
  rw [List.take_succ_eq_append_getElem (by rw [List.length_set]; exact hi)]
  rw [List.take_set_of_le (Nat.le_refl _), List.getElem_set_self]
theorem CInv.canonStep {q out : List Int} {got next : Int} {i : Nat} {name : List Int} (h : CInv q got i name next out) {x : Int} (hi : i < out.length) (hx : (∃ m, m < i ∧ out.getD m 0 = x) ∨ x = nxt (out.take i)) :
    ∀ j, j < i + 1 → (∃ m, m < j ∧ (out.set i x).getD m 0 = (out.set i x).getD j 0) ∨ (out.set i x).getD j 0 = nxt ((out.set i x).take j) := by
  intro j hj
  have hget : ∀ k, (out.set i x).getD k 0 = if i = k then x else out.getD k 0 := fun k => getD_setD hi
  have htk : ∀ k, k ≤ i → (out.set i x).take k = out.take k := fun k hk => List.take_set_of_le hk
  by_cases e : j = i
  · subst e
    rw [htk j (Nat.le_refl _), hget, if_pos rfl]
    rcases hx with ⟨m, hm, h1⟩ | h1
    · exact .inl ⟨m, hm, by rw [hget, if_neg (by omega)]; exact h1⟩
    · exact .inr h1
  · have hj' : j < i := by omega
    rw [htk j (by omega), hget, if_neg (Ne.symm e)]
    rcases h.canon j hj' with ⟨m, hm, h1⟩ | h1
    · exact .inl ⟨m, hm, by rw [hget, if_neg (by omega)]; exact h1⟩
    · exact .inr h1
/-- a part that has its name -/
theorem CInv.old {q out : List Int} {got next : Int} {i : Nat} {name : List Int} (h : CInv q got i name next out) (hi : i < q.length) (hn : name.getD (q.getD i 0).toNat 0 ≠ 0) : CInv q got (i + 1) name next (out.set i (name.getD (q.getD i 0).toNat 0 - 1)) := by
  have hil : i < out.length := by rw [h.lo]; exact hi
  have hpos : 0 < name.getD (q.getD i 0).toNat 0 := by have := (h.n0 (q.getD i 0).toNat).1; omega
  have hle := (h.n0 (q.getD i 0).toNat).2
  have hget : ∀ k, (out.set i (name.getD (q.getD i 0).toNat 0 - 1)).getD k 0 = if i = k then name.getD (q.getD i 0).toNat 0 - 1 else out.getD k 0 := fun k => getD_setD hil
  obtain ⟨j, hj, hqj⟩ := h.zz _ hpos
  refine ⟨h.ln, by rw [List.length_set]; exact h.lo, h.n0, ?_, ?_, h.inj, ?_, by have := h.le; omega, ?_⟩
  · intro k hk
    rw [hget]
    by_cases e : i = k
    · subst e; rw [if_pos rfl]; exact ⟨hpos, rfl⟩
    · rw [if_neg e]; exact h.z k (by omega)
  · intro k hk
    obtain ⟨j, hj, h1⟩ := h.zz k hk
    exact ⟨j, by omega, h1⟩
  · rw [take_set_getD hil, nxt_app, ← h.nx]; omega
  · refine h.canonStep hil (.inl ⟨j, hj, ?_⟩)
    rw [(h.z j hj).2, hqj]
/-- a part that gets its name -/
theorem CInv.new {q out : List Int} {got next : Int} {i : Nat} {name : List Int} (h : CInv q got i name next out) (hi : i < q.length) (hk : (q.getD i 0).toNat < name.length) (hn : name.getD (q.getD i 0).toNat 0 = 0) :
    CInv q got (i + 1) (name.set (q.getD i 0).toNat (next + 1)) (next + 1) (out.set i next) := by
  have hil : i < out.length := by rw [h.lo]; exact hi
  have hget : ∀ k, (out.set i next).getD k 0 = if i = k then next else out.getD k 0 := fun k => getD_setD hil
  have hnm : ∀ k, (name.set (q.getD i 0).toNat (next + 1)).getD k 0 = if (q.getD i 0).toNat = k then next + 1 else name.getD k 0 := fun k => getD_setD hk
  have hnx0 : 0 ≤ next := by have := h.n0 0; omega
  refine ⟨by rw [List.length_set]; exact h.ln, by rw [List.length_set]; exact h.lo, ?_, ?_, ?_, ?_, ?_, by have := h.le; omega, h.canonStep hil (.inr h.nx)⟩
  · intro k
    rw [hnm]
    have := h.n0 k
    split <;> omega
  · intro j hj
    rw [hnm, hget]
    by_cases e : i = j
    · subst e
      rw [if_pos rfl, if_pos rfl]
      omega
    · rw [if_neg e]
      have h1 := h.z j (by omega)
      have : ¬ (q.getD i 0).toNat = (q.getD j 0).toNat := fun h2 => by rw [← h2] at h1; omega
      rw [if_neg this]
      exact h1
  · intro k hk2
    rw [hnm] at hk2
    split at hk2
    · rename_i e; exact ⟨i, by omega, e⟩
    · obtain ⟨j, hj, h1⟩ := h.zz k hk2; exact ⟨j, by omega, h1⟩
  · intro k k' h1 h2
    rw [hnm] at h1
    rw [hnm, hnm] at h2
    have a1 := h.n0 k
    have a2 := h.n0 k'
    split at h2 <;> split at h2
    · rename_i e1 e2; rw [← e1, ← e2]
    · omega
    · omega
    · rename_i e1 e2
      rw [if_neg e1] at h1
      exact h.inj k k' h1 h2
  · rw [take_set_getD hil, nxt_app, ← h.nx]; omega
theorem CInv.done {q out name : List Int} {got next : Int} (h : CInv q got q.length name next out) {g : Graph} (hl : q.length = g.length) (hq : ∀ a, a < g.length → 0 ≤ q.getD a 0) (hs : ∀ a b, a < g.length → b < g.length → (q.getD a 0 = q.getD b 0 ↔ Rch g [(a : Int)] b ∧ Rch g [(b : Int)] a)) : PartsOK g out := by
  refine ⟨by rw [h.lo, hl], fun i hi => h.canon i (by rw [← h.lo]; exact hi), fun a b ha hb => ?_, fun i hi => ?_, fun i hi => ?_⟩
  · rw [← hs a b ha hb]
    have h1 := h.z a (by omega)
    have h2 := h.z b (by omega)
    rw [h1.2, h2.2]
    have q1 := hq a ha
    have q2 := hq b hb
    constructor
    · intro e
      have e2 : name.getD (q.getD a 0).toNat 0 = name.getD (q.getD b 0).toNat 0 := by omega
      have := h.inj _ _ h1.1 e2
      omega
    · intro e; rw [e]
  · have := h.z i (by rw [← h.lo]; exact hi)
    omega
  · have h1 := h.z i (by rw [← h.lo]; exact hi)
    have h2 := (h.n0 (q.getD i 0).toNat).2
    have h3 := h.le
    omega
theorem TInv.start (g : Graph) (part : List Int) (hl : part.length = g.length) (hp : ∀ j, j < g.length → part.getD j (-1) = -1) : TInv g ⟨List.replicate g.length 0, List.replicate g.length 0, part, 0, 0⟩ [] := by
  have hz : ∀ k, (List.replicate g.length (0 : Int)).getD k 0 = 0 := by
    intro k
    rw [List.getD_eq_getElem?_getD, List.getElem?_replicate]
    split <;> rfl
  have hn : ∀ k, Ts.nm ⟨List.replicate g.length 0, List.replicate g.length 0, part, 0, 0⟩ k = 0 := hz
  have ht : ∀ k, k < g.length → Ts.pt ⟨List.replicate g.length 0, List.replicate g.length 0, part, 0, 0⟩ k = -1 := hp
  refine ⟨by simp, by simp, hl, fun n hn => absurd hn (by simp [stk]), fun n h => ?_, fun n h => by rw [hn]; omega, fun n hn => absurd hn (by simp [stk]), by simp [stk], fun n h => by rw [hn]; simp, by simp, fun f hf => absurd hf (by simp), trivial, fun n h h1 => by rw [ht n h] at h1; omega, fun n h => by rw [ht n h]; simp, by simp, by simp [List.countP_replicate], ?_, fun a b ha hb h1 => by rw [ht a ha] at h1; omega⟩
  · rw [hn, ht n h]; simp [stk]
  · have : negs part ≤ part.length := List.countP_le_length
    simp; omega

theorem Split_ok (w0 : World) {F : Nat → Prop} {ao : Option Addr} {cap : Nat} {g : Graph} (hg : Sl w0 F ao cap g) (hF : ∀ b, F b → b < w0.heap.size) (hG : okG g) (hgl : g.length ≤ 1099511627776) :
    Rt Try.prog 123 [.slice ao g.length cap].toArray w0 fun v w' => ∃ p, Own w' w0.heap.size 3 Non v p ∧ PartsOK g p ∧ Ext w0 w' := by
  refine Rt.enter1 Try.func123 Try.ntmps123 rfl rfl ?_
  (repeat (first | (apply WL.pure; rfl; rfl; rfl) | (apply WL.nil) | (apply EX.thenN) | (apply CW.seq) | (apply CW.region) | (apply WL.lenS; rfl; rfl; rfl)))
  refine CW.drawB (fun x => Ext w0 x) [(0, true), (1, true), (3, true), (5, true)] [2, 4, 6] [(7, true), (8, false), (9, true)] mixed (by kernel_rfl) (Ext.drew w0) ?_
  (repeat (first | (apply HL.pure; rfl; rfl; rfl; rfl) | (apply HL.nil)))
  refine EX.bag [⟨2, 15, fun v N w => Own w w0.heap.size 3 Non v (List.replicate g.length (0 : Int)) ∧ ∃ b, v.ownBlock = some b ∧ N b⟩, ⟨4, 17, fun v N w => Own w w0.heap.size 3 Non v (List.replicate g.length (0 : Int)) ∧ ∃ b, v.ownBlock = some b ∧ N b⟩,
    ⟨6, 19, fun v N w => Own w w0.heap.size 3 Non v (List.replicate g.length (0 : Int)) ∧ ∃ b, v.ownBlock = some b ∧ N b⟩] rfl rfl rfl (Ext.drew w0) ?_ ?_
  · intro e he
    simp only [List.mem_cons, List.not_mem_nil, or_false] at he
    rcases he with rfl | rfl | rfl
    all_goals
      refine ⟨⟨_, rfl, rfl, rfl, fun w' hS => ?_⟩, rfl, rfl, fun v N w1 w2 h hE => ⟨h.1.extN hE, h.2⟩⟩
      refine WL.make (α := Int) rfl rfl rfl rfl (by omega) (by unfold maxLen; omega) (fun w2 ho hgr => ?_)
      have hE : Ext w' w2 := (Ext.refl w').grown hgr (Nat.le_refl _) (fun k h => by cases h)
      have hS : Ext w0 w' := hS
      exact WL.nil (EX.bagE (fun b => b = w'.heap.size) rfl (hS.trans hE) hE ⟨ho.low hS.size, _, rfl, rfl⟩ (fun b hb => by subst hb; exact ⟨Nat.le_refl _, (ho.lt _ rfl).2.1⟩))
  intro w1 hS1 hE1 nV N1 h1 _ lV N2 h2 d2 pV N3 h3 d3
  obtain ⟨h1, nb, hnb, m1⟩ := h1
  obtain ⟨h2, lb, hlb, m2⟩ := h2
  obtain ⟨h3, pb, hpb, m3⟩ := h3
  have n12 : nb ≠ lb := fun e => d2 N1 (by simp) nb m1 (by rw [e]; exact m2)
  have n13 : nb ≠ pb := fun e => d3 N1 (by simp) nb m1 (by rw [e]; exact m3)
  have n23 : lb ≠ pb := fun e => d3 N2 (by simp) lb m2 (by rw [e]; exact m3)
  dsimp only
  have hS1 : Ext w0 w1 := hS1
  obtain ⟨no, nc, hnv⟩ := h1.val
  obtain ⟨lo, lc, hlv⟩ := h2.val
  obtain ⟨po, pc, hpv⟩ := h3.val
  subst hnv hlv hpv
  refine HL.build rfl rfl rfl rfl rfl ?_
  refine HL.mut rfl (WL.boxB rfl rfl rfl fun w2 hb2 hE2 => ?_)
  have hE02 := hS1.trans hE2
  refine WL.nil (EX.mut hE02 ?_)
  (repeat (first | (apply HL.pure; rfl; rfl; rfl; rfl) | (apply HL.nil)))
  have hsz1 : w0.heap.size ≤ w1.heap.size := hS1.size
  have g1 := h1.lt _ hnb
  have g2 := h2.lt _ hlb
  have g3 := h3.lt _ hpb
  have hM2 : TM w2 w0.heap.size w1.heap.size (.slice ao g.length cap) (.slice no (List.replicate g.length (0 : Int)).length nc) (.slice lo (List.replicate g.length (0 : Int)).length lc) (.slice po (List.replicate g.length (0 : Int)).length pc) (.slice none 0 0) nb lb pb ⟨List.replicate g.length 0, List.replicate g.length 0, List.replicate g.length 0, 0, 0⟩ (ints []) :=
    ⟨hb2, h1.extN hE2, h2.extN hE2, h3.extN hE2, Own.nil, hsz1, hnb, hlb, hpb, ⟨n12, n13, n23, by omega, by omega, by omega⟩, fun k hk => by simp [Value.ownBlock] at hk⟩
  generalize hnV : Value.slice no (List.replicate g.length (0 : Int)).length nc = nV at *
  generalize hlV : Value.slice lo (List.replicate g.length (0 : Int)).length lc = lV at *
  generalize hpV : Value.slice po (List.replicate g.length (0 : Int)).length pc = pV at *
  generalize hbb : w1.heap.size = b at *
  clear h1 h2 h3 g1 g2 g3 hb2 hS1 hE2 hE1 d2 d3 m1 m2 m3 hnV hlV hpV
  apply EX.thenN
  (repeat (first | (apply WL.pure; rfl; rfl; rfl) | (apply WL.nil) | (apply EX.thenN) | (apply CW.seq) | (apply CW.region) | (apply CW.block)))
  refine CW.loop (S := Nat × List Int) (fun x => [(3, .int .i64 g.length), (4, .pointer (some ⟨b, 0, none⟩)), (22, .int .i64 g.length), (23, .int .i64 x.1)])
    (fun x w => x.1 ≤ g.length ∧ x.2.length = g.length ∧ (∀ j, j < x.1 → x.2.getD j (-1) = -1) ∧ TM w w0.heap.size b (.slice ao g.length cap) nV lV pV (.slice none 0 0) nb lb pb ⟨List.replicate g.length 0, List.replicate g.length 0, x.2, 0, 0⟩ (ints []) ∧ Ext w0 w) (fun x => g.length - x.1) (0, List.replicate g.length 0) (by repeat (first | exact trivial | refine ⟨rfl, ?_⟩)) ⟨by omega, by simp, fun j hj => absurd hj (by simp), hM2, hE02⟩ ?_
  rintro ⟨i, part⟩ w3 ⟨hi, hpl, hpre, hM, hE3⟩
  dsimp only at hi hpl hpre hM
  (repeat (first | (apply WL.pure; rfl; rfl; rfl) | (apply WL.nil) | (apply EX.thenN) | (apply CW.seq) | (apply CW.region)))
  refine CW.cond rfl (fun hlt => ?_) (fun hlt => ?_)
  · simp at hlt
    have hb := hM.blk
    obtain ⟨hn1, hn2, hn3, hn4, hn5, hn6⟩ := hM.ne
    (repeat (first | (apply WL.pure; rfl; rfl; rfl) | (apply WL.nil) | (apply EX.thenN) | (apply CW.seq) | (apply CW.region) | (apply WL.fa; rfl; rfl; rfl) | (apply WL.nck; rfl; rfl; rfl) | (apply WL.ld; rfl; rfl; rfl; assumption; rfl) | (apply CW.block) | (apply CW.skip)))
    refine WL.setN (u := .int .i64 (-1)) (yv := (-1 : Int)) rfl rfl rfl rfl hM.part (by dsimp only; omega) (fun _ => rfl) (fun _ => rfl) (Rd.mkInt _ _ _) (fun w4 q hp4 hg4 => ?_)
    have hM4 : TM w4 w0.heap.size b (.slice ao g.length cap) nV lV pV (.slice none 0 0) nb lb pb ⟨List.replicate g.length 0, List.replicate g.length 0, part.set i (-1), 0, 0⟩ (ints []) :=
      ⟨hb.kept hg4 (fun e => by rw [hM.hpb] at e; cases e; exact hn6 rfl), hM.num.keptN hg4 (fun g hg e => by rw [hM.hnb] at hg; rw [hM.hpb] at e; cases hg; cases e; exact hn2 rfl), hM.low.keptN hg4 (fun g hg e => by rw [hM.hlb] at hg; rw [hM.hpb] at e; cases hg; cases e; exact hn3 rfl), hp4, Own.nil, hM.ge, hM.hnb, hM.hlb, hM.hpb, hM.ne, hM.sne⟩
    have hE4 : Ext w0 w4 := hE3.grown hg4 hE3.size (fun k hk => (hM.part.lt k hk).1)
    (repeat (first | (apply WL.add; rfl; rfl; rfl; rfl; omega; omega) | (apply WL.pure; rfl; rfl; rfl) | (apply WL.nil) | (apply EX.thenN) | (apply CW.region) | (apply EX.inN)))
    refine EX.back (i + 1, part.set i (-1)) (by repeat (first | exact trivial | refine ⟨rfl, ?_⟩)) ⟨hlt, by simp [hpl], fun j hj => ?_, hM4, hE4⟩ (by simp only; omega)
    dsimp only
    rw [getD_setD (by omega)]
    split
    · rfl
    · exact hpre j (by dsimp only at hj; omega)
  simp at hlt
  have : i = g.length := by omega
  subst this
  have hI0 := TInv.start g part hpl hpre
  clear hlt hi hpre
  (repeat (first | (apply WL.pure; rfl; rfl; rfl) | (apply WL.nil) | (apply EX.thenN) | (apply CW.seq) | (apply CW.region) | (apply CW.block) | (apply CW.exit) | (apply EX.thenX) | (apply EX.inX)))
  refine CW.loop (S := Nat × Ts × Value) (fun x => [(3, .int .i64 g.length), (4, .pointer (some ⟨b, 0, none⟩)), (33, .int .i64 g.length), (34, .int .i64 x.1)])
    (fun x w => x.1 ≤ g.length ∧ TInv g x.2.1 [] ∧ TM w w0.heap.size b (.slice ao g.length cap) nV lV pV x.2.2 nb lb pb x.2.1 (ints []) ∧ Ext w0 w ∧ ∀ j, j < x.1 → 0 < x.2.1.nm j) (fun x => g.length - x.1) (0, _, .slice none 0 0) (by repeat (first | exact trivial | refine ⟨rfl, ?_⟩)) ⟨by omega, hI0, hM, hE3, fun j hj => absurd hj (by simp)⟩ ?_
  clear hI0 hM hE3 hM2 hE02
  rintro ⟨i, s, sV⟩ w3 ⟨hi, hI, hM, hE3, hvis⟩
  dsimp only at hi hI hM hvis
  (repeat (first | (apply WL.pure; rfl; rfl; rfl) | (apply WL.nil) | (apply EX.thenN) | (apply CW.seq) | (apply CW.region)))
  refine CW.cond rfl (fun hlt => ?_) (fun hlt => ?_)
  · simp at hlt
    have hb := hM.blk
    have hil : i < s.num.length := by rw [hI.ln]; exact hlt
    have en : s.num[i] = s.nm i := (getD_at hil).symm
    (repeat (first | (apply WL.pure; rfl; rfl; rfl) | (apply WL.nil) | (apply EX.thenN) | (apply CW.seq) | (apply CW.region) | (apply WL.fa; rfl; rfl; rfl) | (apply WL.nck; rfl; rfl; rfl) | (apply WL.ld; rfl; rfl; rfl; assumption; rfl) | (apply CW.block) | (apply CW.skip)))
    refine WL.elemON rfl rfl rfl rfl rfl hM.num hil (fun _ => rfl) (fun u q hu => ?_)
    obtain rfl := hu.int
    rw [en]
    (repeat (first | (apply WL.pure; rfl; rfl; rfl) | (apply WL.nil) | (apply EX.thenN)))
    refine CW.cond rfl (fun hz => ?_) (fun hz => ?_)
    · have hz : s.nm i = 0 := by simpa using hz
      (repeat (first | (apply WL.pure; rfl; rfl; rfl) | (apply CW.region)))
      refine WL.call rfl rfl rfl (visit_ok w0 w3 hE3 hg hF hG hgl hM hI hlt hz) ?_
      rintro _ w4 ⟨sV4, s4, hM4, hI4, hE4, hmo, hv4⟩
      (repeat (first | (apply WL.add; rfl; rfl; rfl; rfl; omega; omega) | (apply WL.pure; rfl; rfl; rfl) | (apply WL.nil) | (apply EX.thenN) | (apply CW.region) | (apply EX.inN)))
      refine EX.back (i + 1, s4, sV4) (by repeat (first | exact trivial | refine ⟨rfl, ?_⟩)) ⟨hlt, hI4, hM4, hE4, fun j hj => ?_⟩ (by simp only; omega)
      by_cases e : j = i
      · subst e; exact hv4
      · exact hmo j (hvis j (by dsimp only at hj; omega))
    · have hz : s.nm i ≠ 0 := by simpa using hz
      have := hI.non i hlt
      (repeat (first | (apply WL.add; rfl; rfl; rfl; rfl; omega; omega) | (apply WL.pure; rfl; rfl; rfl) | (apply WL.nil) | (apply EX.thenN) | (apply CW.region) | (apply EX.inN) | (apply CW.skip)))
      refine EX.back (i + 1, s, sV) (by repeat (first | exact trivial | refine ⟨rfl, ?_⟩)) ⟨hlt, hI, hM, hE3, fun j hj => ?_⟩ (by simp only; omega)
      by_cases e : j = i
      · subst e; dsimp only; omega
      · exact hvis j (by dsimp only at hj; omega)
  simp at hlt
  have : i = g.length := by omega
  subst this
  clear hlt hi
  have hb := hM.blk
  have hclosed : ∀ a, a < g.length → 0 ≤ s.pt a := fun a ha => by
    rcases (hI.vis a ha).1 (hvis a ha) with h | h
    · simp [stk] at h
    · exact h
  have hgn := hI.gn
  have hg0 := hI.g0
  have hpl := hI.lp
  obtain ⟨gn, egn⟩ := Int.eq_ofNat_of_zero_le hg0
  rw [egn] at hb
  have hgnl : gn ≤ g.length := by omega
  (repeat (first | (apply WL.pure; rfl; rfl; rfl) | (apply EX.thenN) | (apply CW.seq) | (apply CW.region) | (apply WL.fa; rfl; rfl; rfl) | (apply WL.nck; rfl; rfl; rfl) | (apply WL.ld; rfl; rfl; rfl; assumption; rfl) | (apply CW.exit) | (apply EX.thenX) | (apply EX.inX)))
  refine WL.make (α := Int) rfl rfl rfl rfl (by omega) (by unfold maxLen; omega) (fun w4 hname4 hg4 => ?_)
  have hE34 : Ext w3 w4 := (Ext.refl w3).grown hg4 (Nat.le_refl _) (fun k h => by cases h)
  have hM4 := hM.ext hE34
  have hE4 := hE3.trans hE34
  have hb4 := hM4.blk
  (repeat (first | (apply WL.pure; rfl; rfl; rfl) | (apply WL.nil) | (apply EX.thenN) | (apply CW.seq) | (apply CW.region)))
  refine WL.make (α := Int) rfl rfl rfl rfl (by omega) (by unfold maxLen; omega) (fun w5 hout5 hg5 => ?_)
  have hE45 : Ext w4 w5 := (Ext.refl w4).grown hg5 (Nat.le_refl _) (fun k h => by cases h)
  have hM5 := hM4.ext hE45
  have hE5 := hE4.trans hE45
  have hname5 := (hname4.extN hE45).low hE3.size
  have hout5 := hout5.low hE4.size
  have hnb34 : w3.heap.size < w4.heap.size := (hname4.lt _ rfl).2.1
  have l1 := hM.lts.1
  have l4 := hM.lts.2.2.2.1
  have hge3 := hE3.size
  have hge4 := hE4.size
  generalize hnm : Value.slice (some ⟨w3.heap.size, 0, none⟩) gn gn = mV at *
  generalize hou : Value.slice (some ⟨w4.heap.size, 0, none⟩) g.length g.length = oV at *
  have hmb : mV.ownBlock = some w3.heap.size := by rw [← hnm]; rfl
  have hob : oV.ownBlock = some w4.heap.size := by rw [← hou]; rfl
  have hC0 : CInv s.part s.got 0 (List.replicate gn 0) 0 (List.replicate g.length 0) := by
    have := CInv.start (q := s.part) (out := List.replicate g.length 0) hg0 (by simp [hpl])
    rwa [egn, Int.toNat_natCast, ← egn] at this
  have hsame : ∀ a b, a < g.length → b < g.length → (s.part.getD a 0 = s.part.getD b 0 ↔ Rch g [(a : Int)] b ∧ Rch g [(b : Int)] a) := by
    intro a b ha hb
    rw [← hI.scc a b ha hb (hclosed a ha) (hclosed b hb)]
    unfold Ts.pt
    rw [getD_at (by omega), getD_at (by omega), getD_at (by omega), getD_at (by omega)]
  have hq0 : ∀ a, a < g.length → 0 ≤ s.part.getD a 0 := fun a ha => by
    have := hclosed a ha
    unfold Ts.pt at this
    rw [getD_at (by omega)] at this ⊢
    exact this
  have hql : ∀ a, a < g.length → s.part.getD a 0 < s.got := fun a ha => by
    have := hI.ptl a ha
    unfold Ts.pt at this
    rw [getD_at (by omega)] at this ⊢
    exact this
  have hmS : ¬ tS b nb lb pb sV w3.heap.size := by
    obtain ⟨a1, a2, a3, a4, a5, _⟩ := hM.lts
    rintro (h1 | h1 | h1 | h1 | h1)
    · omega
    · omega
    · omega
    · omega
    · have := a5 _ h1; omega
  have hoS : ¬ tS b nb lb pb sV w4.heap.size := by
    obtain ⟨a1, a2, a3, a4, a5, _⟩ := hM.lts
    rintro (h1 | h1 | h1 | h1 | h1)
    · omega
    · omega
    · omega
    · omega
    · have := a5 _ h1; omega
  clear hb hb4 hM4 hname4 hg4 hg5 hE34 hE45 hnm hou
  (repeat (first | (apply WL.pure; rfl; rfl; rfl) | (apply WL.nil) | (apply EX.thenN) | (apply CW.seq) | (apply CW.region) | (apply CW.block)))
  refine CW.loop (S := Nat × List Int × Int × List Int) (fun x => [(4, .pointer (some ⟨b, 0, none⟩)), (7, mV), (8, .int .i64 x.2.2.1), (9, oV), (56, .int .i64 g.length), (57, .int .i64 x.1)])
    (fun x w => x.1 ≤ g.length ∧ CInv s.part s.got x.1 x.2.1 x.2.2.1 x.2.2.2 ∧ TM w w0.heap.size b (.slice ao g.length cap) nV lV pV sV nb lb pb s (ints []) ∧ Own w w0.heap.size 3 Non mV x.2.1 ∧ Own w w0.heap.size 3 Non oV x.2.2.2 ∧ Ext w0 w) (fun x => g.length - x.1) (0, _, 0, _) (by repeat (first | exact trivial | refine ⟨rfl, ?_⟩)) ⟨by omega, hC0, hM5, hname5, hout5, hE5⟩ ?_
  clear hM5 hname5 hout5 hE5 hC0 hM
  rintro ⟨i, name, next, out⟩ w6 ⟨hi, hC, hM, hname, hout, hE6⟩
  dsimp only at hi hC hname hout
  (repeat (first | (apply WL.pure; rfl; rfl; rfl) | (apply WL.nil) | (apply EX.thenN) | (apply CW.seq) | (apply CW.region)))
  refine CW.cond rfl (fun hlt => ?_) (fun hlt => ?_)
  · simp at hlt
    have hb := hM.blk
    have hip : i < s.part.length := by omega
    have ei : s.part[i] = s.part.getD i 0 := (getD_at hip).symm
    obtain ⟨k, ek⟩ := Int.eq_ofNat_of_zero_le (hq0 i hlt)
    have hkl := hql i hlt
    have hnl := hC.ln
    have hkn : k < name.length := by omega
    have hk0 := hC.n0 k
    have hCle := hC.le
    have hio : i < out.length := by rw [hC.lo]; exact hip
    have enk : name[k] = name.getD k 0 := (getD_at hkn).symm
    obtain ⟨hn1, hn2, hn3, hn4, hn5, hn6⟩ := hM.ne
    dsimp only
    apply CW.skip
    apply EX.thenN
    apply CW.seq
    apply CW.block
    apply CW.seq
    apply CW.region
    (repeat (apply WL.pure; rfl; rfl; rfl))
    apply WL.nil
    apply EX.thenN
    refine CW.cutI (S := List Int × Int) (fun x => [(4, .pointer (some ⟨b, 0, none⟩)), (7, mV), (8, .int .i64 x.2), (9, oV), (10, .int .i64 i), (56, .int .i64 g.length), (57, .int .i64 i)])
      (fun x w' => ∃ out', CInv s.part s.got (i + 1) x.1 x.2 out' ∧ out' = out.set i (x.1.getD k 0 - 1) ∧ x.1.length = name.length ∧ TM w' w0.heap.size b (.slice ao g.length cap) nV lV pV sV nb lb pb s (ints []) ∧ Own w' w0.heap.size 3 Non mV x.1 ∧ Own w' w0.heap.size 3 Non oV out ∧ Ext w0 w') ?_ ?_
    · (repeat (first | (apply WL.pure; rfl; rfl; rfl) | (apply CW.seq) | (apply CW.region) | (apply WL.fa; rfl; rfl; rfl) | (apply WL.nck; rfl; rfl; rfl) | (apply WL.ld; rfl; rfl; rfl; assumption; rfl)))
      refine WL.elemON rfl rfl rfl rfl rfl hM.part hip (fun _ => rfl) (fun u q hu => ?_)
      obtain rfl := hu.int
      rw [ei, ek]
      skip
      refine WL.elemON rfl rfl rfl rfl rfl hname hkn (fun _ => rfl) (fun u q hu => ?_)
      obtain rfl := hu.int
      rw [enk]
      (repeat (first | (apply WL.pure; rfl; rfl; rfl) | (apply WL.nil) | (apply EX.thenN)))
      refine CW.cond rfl (fun hz => ?_) (fun hz => ?_)
      · have hz : name.getD k 0 = 0 := by simpa using hz
        have hN := hC.new hip (by rw [ek, Int.toNat_natCast]; exact hkn) (by rw [ek, Int.toNat_natCast]; exact hz)
        rw [ek, Int.toNat_natCast] at hN
        (repeat (first | (apply WL.add; rfl; rfl; rfl; rfl; omega; omega) | (apply WL.pure; rfl; rfl; rfl) | (apply WL.nil) | (apply EX.thenN) | (apply CW.seq) | (apply CW.region) | (apply WL.fa; rfl; rfl; rfl) | (apply WL.nck; rfl; rfl; rfl) | (apply WL.ld; rfl; rfl; rfl; assumption; rfl)))
        refine WL.elemON rfl rfl rfl rfl rfl hM.part hip (fun _ => rfl) (fun u q hu => ?_)
        obtain rfl := hu.int
        rw [ei, ek]
        (repeat (apply WL.pure; rfl; rfl; rfl))
        refine WL.setN (u := .int .i64 (next + 1)) (yv := next + 1) rfl rfl rfl rfl hname hkn (fun _ => rfl) (fun _ => rfl) (Rd.mkInt _ _ _) (fun w7 q hname7 hg7 => ?_)
        have hM7 := hM.off hg7 (fun j hj => by
          rw [hmb] at hj
          cases hj
          exact hmS)
        have hout7 := hout.keptN hg7 (fun g hg e => by rw [hob] at hg; rw [hmb] at e; cases hg; simp at e; omega)
        have hE7 : Ext w0 w7 := hE6.grown hg7 hE6.size (fun j hj => (hname.lt j hj).1)
        (repeat (apply WL.nil))
        refine EX.cutI (name.set k (next + 1), next + 1) (by repeat (first | exact trivial | refine ⟨rfl, ?_⟩)) ⟨_, hN, ?_, by simp, hM7, hname7, hout7, hE7⟩
        dsimp only
        rw [getD_setD hkn, if_pos rfl]
        congr 1; omega
      · have hz : name.getD k 0 ≠ 0 := by simpa using hz
        have hN := hC.old hip (by rw [ek, Int.toNat_natCast]; exact hz)
        rw [ek, Int.toNat_natCast] at hN
        (repeat (apply CW.skip))
        exact EX.cutI (name, next) (by repeat (first | exact trivial | refine ⟨rfl, ?_⟩)) ⟨_, hN, rfl, rfl, hM, hname, hout, hE6⟩
    rintro ⟨name', next'⟩ w7 ⟨out', hN, rfl, hnl', hM7, hname7, hout7, hE7⟩
    dsimp only at hN hnl' hname7 ⊢
    have hb7 := hM7.blk
    have hkn' : k < name'.length := by omega
    have enk' : name'[k] = name'.getD k 0 := (getD_at hkn').symm
    have hk0' := hN.n0 k
    have hNle := hN.le
    (repeat (first | (apply WL.pure; rfl; rfl; rfl) | (apply CW.region) | (apply WL.fa; rfl; rfl; rfl) | (apply WL.nck; rfl; rfl; rfl) | (apply WL.ld; rfl; rfl; rfl; assumption; rfl)))
    refine WL.elemON rfl rfl rfl rfl rfl hM7.part hip (fun _ => rfl) (fun u q hu => ?_)
    obtain rfl := hu.int
    rw [ei, ek]
    skip
    refine WL.elemON rfl rfl rfl rfl rfl hname7 hkn' (fun _ => rfl) (fun u q hu => ?_)
    obtain rfl := hu.int
    rw [enk']
    (repeat (apply WL.sub'; rfl; rfl; rfl; rfl; omega; omega))
    refine WL.setN (u := .int .i64 (name'.getD k 0 - 1)) (yv := name'.getD k 0 - 1) rfl rfl rfl rfl hout7 hio (fun _ => rfl) (fun _ => rfl) (Rd.mkInt _ _ _) (fun w8 q hout8 hg8 => ?_)
    have hM8 := hM7.off hg8 (fun j hj => by rw [hob] at hj; cases hj; exact hoS)
    have hname8 := hname7.keptN hg8 (fun g hg e => by rw [hmb] at hg; rw [hob] at e; cases hg; simp at e; omega)
    have hE8 : Ext w0 w8 := hE7.grown hg8 hE7.size (fun j hj => (hout7.lt j hj).1)
    (repeat (first | (apply WL.add; rfl; rfl; rfl; rfl; omega; omega) | (apply WL.pure; rfl; rfl; rfl) | (apply WL.nil) | (apply EX.thenN) | (apply CW.region) | (apply EX.inN)))
    exact EX.back (i + 1, name', next', _) (by repeat (first | exact trivial | refine ⟨rfl, ?_⟩)) ⟨hlt, hN, hM8, hname8, hout8, hE8⟩ (by simp only; omega)
  simp at hlt
  have : i = g.length := by omega
  subst this
  (repeat (first | (apply WL.pure; rfl; rfl; rfl) | (apply WL.nil) | (apply EX.thenN) | (apply CW.seq) | (apply CW.region) | (apply CW.exit) | (apply EX.thenX) | (apply EX.inX) | (apply CW.ret)))
  refine EX.ret1 rfl rfl ⟨out, hout, ?_, hE6⟩
  exact CInv.done (hpl ▸ hC) hpl hq0 hsame
end Go.Proofs.Ythefpigolikmeaa
