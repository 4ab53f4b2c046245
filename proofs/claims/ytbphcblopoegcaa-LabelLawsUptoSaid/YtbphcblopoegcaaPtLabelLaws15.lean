import Derived.Test.YtbphcblopoegcaaRows
import Derived.OpenShut
import Derived.JoinedCond
import Derived.Test.YtbphcblopoegcaaPtLabelLaws14
/-
  LabelLaws: walked; labels, known.
-/
set_option linter.unusedVariables false
set_option linter.unusedSimpArgs false
namespace Go.Proofs.Ytbphcblopoegcaa
open Go.RowKit

/-- LabelLaws' own function 'same', with the world's variable -/
theorem csame_true (w : World) {v v' : Value} {t t' : Ltl} {b : Nat} {a1 a2 a3 a4 : Option Addr} {c1 c2 c3 c4 : Nat} {st : List Int} {nx fr : Graph} {lb : List Nat} (h : CL w v t) (h' : CL w v' t')
    (hb : Blk w b 51 [.slice a1 st.length c1, .slice a2 nx.length c2, .slice a3 lb.length c3, .slice a4 fr.length c4]) (h1 : Sl w (Old w) a1 c1 st) (h2 : Sl w (Old w) a2 c2 nx) (h3 : Sl w (Old w) a3 c3 lb) (h4 : Sl w (Old w) a4 c4 fr) (hT : edges nx ≤ 8589934592)
    (hlaw : okG nx → ∀ n, ctlF nx lb fr t n ↔ ctlF nx lb fr t' n) :
    Rt Try.prog 31 [v, v', .pointer (some ⟨b, 0, none⟩)].toArray w fun r w' => r = .bool true ∧ Ext w w' := by
  obtain ⟨ao, cap, rfl, hk⟩ := Rd.ltl h
  obtain ⟨ao', cap', rfl, hk'⟩ := Rd.ltl h'
  refine Rt.enter3 Try.func31 Try.ntmps31 rfl rfl ?_
  (repeat (first | (apply CW.seq) | (apply CW.region)))
  refine WL.boxB rfl rfl rfl fun w0 hb0 hE0 => ?_
  refine WL.boxB rfl rfl rfl fun w1 hb1 hE1 => ?_
  have hb0 := hb0.ext hE1
  have hE1 := hE0.trans hE1
  have hbw := hb.ext hE1
  (repeat (first | (apply WL.pure; rfl; rfl; rfl) | (apply WL.nil) | (apply EX.thenN) | (apply CW.seq) | (apply CW.region) | (apply WL.ldA; rfl; rfl; rfl; assumption; rfl)))
  refine WL.call rfl rfl rfl (labels_ok w1 (h1.up hE1) (h2.up hE1) (h3.up hE1) (h4.up hE1) (hk.up hE1) hT) ?_
  rintro _ w2 ⟨x, rfl, hx, e2⟩
  have hE2 := hE1.trans e2
  have hb1 := hb1.ext e2
  have hbw := hbw.ext e2
  (repeat (first | (apply WL.pure; rfl; rfl; rfl) | (apply WL.nil) | (apply EX.thenN) | (apply CW.seq) | (apply CW.region) | (apply WL.ldA; rfl; rfl; rfl; assumption; rfl)))
  refine WL.call rfl rfl rfl (labels_ok w2 (h1.up hE2) (h2.up hE2) (h3.up hE2) (h4.up hE2) (hk'.up hE2) hT) ?_
  rintro _ w3 ⟨y, rfl, hy, e3⟩
  have hE3 := hE2.trans e3
  have hx := hx.extN e3
  by_cases n1 : labE st nx lb.length fr t = 0
  case neg =>
    rw [decide_eq_false n1]
    (repeat (first | (apply WL.pure; rfl; rfl; rfl) | (apply WL.nil) | (apply EX.thenN) | (apply CW.seq) | (apply CW.region) | (apply WL.pass; rfl; rfl) | (apply CW.ret)))
    exact EX.ret1 rfl rfl ⟨rfl, hE3⟩
  rw [decide_eq_true n1]
  by_cases n2 : labE st nx lb.length fr t' = 0
  case neg =>
    rw [decide_eq_false n2]
    (repeat (first | (apply WL.pure; rfl; rfl; rfl) | (apply WL.nil) | (apply EX.thenN) | (apply CW.seq) | (apply CW.region) | (apply WL.pass; rfl; rfl) | (apply CW.ret)))
    exact EX.ret1 rfl rfl ⟨rfl, hE3⟩
  rw [decide_eq_true n2]
  rw [if_pos n1] at hx
  rw [if_pos n2] at hy
  have hok : okG nx := fun r hr => ((chkWd_ok (labE_ok n1).1).2.2.2.2.1 r hr).2
  rw [← boolsN_congr (fun i _ => hlaw hok i)] at hy
  obtain ⟨xo, xc, rfl, hxs⟩ := hx.asSl
  obtain ⟨yo, yc, rfl, hys⟩ := hy.asSl
  (repeat (first | (apply WL.pure; rfl; rfl; rfl) | (apply WL.nil) | (apply EX.thenN) | (apply CW.seq) | (apply CW.region)))
  refine WL.call rfl rfl rfl (equal_bool w3 hxs hys) ?_
  rintro _ w4 ⟨rfl, e4⟩
  rw [show (boolsN nx.length (ctlF nx lb fr t) == boolsN nx.length (ctlF nx lb fr t)) = true by simp]
  (repeat (first | (apply WL.pure; rfl; rfl; rfl) | (apply WL.nil) | (apply EX.thenN) | (apply CW.ret)))
  exact EX.ret1 rfl rfl ⟨rfl, hE3.trans e4⟩
theorem cnot_ok (w : World) {v : Value} {t : Ltl} (h : CL w v t) : Rt Try.prog 34 [v].toArray w fun r w' => CL w' r (.mk 4 0 [t]) ∧ Ext w w' := by
  obtain ⟨ao, cap, rfl, hk⟩ := Rd.ltl h
  refine Rt.enter1 Try.func34 Try.ntmps34 rfl rfl ?_
  (repeat (first | (apply CW.seq) | (apply CW.region)))
  refine WL.boxB rfl rfl rfl fun w0 hb0 hE0 => ?_
  refine WL.alloc rfl rfl (fun w1 hr hE1 => ?_)
  have hb0 := hb0.ext hE1
  have hE1 := hE0.trans hE1
  (repeat (first | (apply WL.nil) | (apply EX.thenN) | (apply CW.seq) | (apply CW.region) | (apply WL.ldA; rfl; rfl; rfl; assumption; rfl)))
  refine WL.call rfl rfl rfl (mk_coneF w1 (F := Old w) (fun b hb => Nat.lt_of_lt_of_le hb hE1.size) 4 (Rd.at h hE1)) ?_
  rintro r w2 ⟨hr2, hE2⟩
  have hr' := hr.ext hE2
  obtain ⟨bo, bc, rfl, hk2⟩ := Rd.ltl hr2
  have hE12 := hE1.trans hE2
  skip
  refine WL.st rfl rfl rfl hr' rfl rfl (ones_of rfl) (fun w3 hr3 hgr => ?_)
  have hs0 : w.heap.size ≤ w0.heap.size := hE0.size
  have hE : Ext w w3 := hE12.grown hgr hE12.size (fun g hg => by cases hg; exact hs0)
  have hlt := hr.lt
  (repeat (first | (apply WL.nil) | (apply EX.thenN) | (apply CW.ret)))
  refine EX.retC rfl rfl hr3 rfl ⟨?_, hE⟩
  exact Rd.mkLtl (hk2.mono (fun g hg => hgr.block g (hg.elim (fun h => Nat.lt_of_lt_of_le h hE12.size) (·.2)) (by
    rcases hg with hg | hg
    · have : g < w.heap.size := hg
      intro e; cases e; omega
    · intro e; cases e; omega)) (fun g hg => hg.elim (fun h => Nat.lt_of_lt_of_le h hE.size) (fun h => Nat.lt_of_lt_of_le h.2 hgr.size)))
set_option maxHeartbeats 4000000 in
set_option maxRecDepth 100000 in
theorem LabelLaws_ok (w : World) {f g : Ltl} {vf vg : Value} {a1 a2 a3 a4 : Option Addr} {c1 c2 c3 c4 : Nat} {st : List Int} {nx fr : Graph} {lb : List Nat} (hf : CL w vf f) (hg : CL w vg g) (h1 : Sl w (Old w) a1 c1 st) (h2 : Sl w (Old w) a2 c2 nx) (h3 : Sl w (Old w) a3 c3 lb) (h4 : Sl w (Old w) a4 c4 fr) (hT0 : edges nx ≤ 8589934592) :
    Rt Try.prog 6 [worldV a1 c1 a2 c2 a3 c3 a4 c4 st.length nx.length lb.length fr.length, vf, vg].toArray w fun v w' => v = .bool true ∧ Ext w w' := by
  obtain ⟨ao, cap, rfl, hk⟩ := Rd.ltl hf
  obtain ⟨ao', cap', rfl, hk'⟩ := Rd.ltl hg
  refine Rt.enter3 Try.func6 Try.ntmps6 rfl rfl ?_
  (repeat (first | (apply CW.seq) | (apply CW.region)))
  refine WL.boxB rfl rfl rfl fun w1 hb0 hE1 => ?_
  refine WL.boxB rfl rfl rfl fun w2 hb1 hE2 => ?_
  refine WL.boxB rfl rfl rfl fun w3 hb2 hE3 => ?_
  have hb0 := hb0.ext (hE2.trans hE3)
  have hb1 := hb1.ext hE3
  have hE3 := (hE1.trans hE2).trans hE3
  (repeat (first | (apply WL.pure; rfl; rfl; rfl) | (apply WL.nil) | (apply EX.thenN) | (apply CW.seq) | (apply CW.region)))
  refine WL.call rfl rfl rfl (known_ok w3) ?_
  rintro v w4 ⟨rfl, hE4⟩
  have hb0 := hb0.ext hE4
  have hb1 := hb1.ext hE4
  have hb2 := hb2.ext hE4
  have hE4 := hE3.trans hE4
  (repeat (apply WL.pure; rfl; rfl; rfl))
  apply WL.nil
  apply EX.thenN
  refine CW.condF rfl ?_
  apply CW.skip
  apply EX.thenN
  (repeat (first | (apply WL.pure; rfl; rfl; rfl) | (apply WL.nil) | (apply EX.thenN) | (apply CW.seq) | (apply CW.region) | (apply WL.makeFunc; rfl; rfl; rfl; rfl)))
  -- yes
  refine WL.build rfl rfl rfl rfl ?_
  refine WL.alloc rfl rfl (fun wa hby hEa => ?_)
  refine WL.st rfl rfl rfl hby rfl rfl (ones_of rfl) (fun w5 hby hg5 => ?_)
  have e5 : Ext w4 w5 := hEa.grown hg5 hEa.size (fun g hg => by cases hg; exact Nat.le_refl _)
  have hb0 := hb0.ext e5
  have hb1 := hb1.ext e5
  have hb2 := hb2.ext e5
  have hE5 := hE4.trans e5
  have hy : CL w5 (ltlV 1 0 none 0 0) (.mk 1 0 []) := Rd.mkLtl (kids := []) (Sl.zero _ _)
  clear hEa hg5 e5
  (repeat (first | (apply WL.nil) | (apply EX.thenN) | (apply CW.seq) | (apply CW.region) | (apply WL.ldA; rfl; rfl; rfl; assumption; rfl)))
  -- fair
  refine WL.call rfl rfl rfl (mk_cone w5 7 hy) ?_
  rintro vq w6 ⟨hq, e6⟩
  obtain ⟨qo, qc, rfl, hqk⟩ := Rd.ltl hq
  have hy := CL.ext hy e6
  have hb0 := hb0.ext e6
  have hb1 := hb1.ext e6
  have hb2 := hb2.ext e6
  have hby := hby.ext e6
  have hE6 := hE5.trans e6
  skip
  refine WL.alloc rfl rfl (fun wa hbq hEa => ?_)
  refine WL.st rfl rfl rfl hbq rfl rfl (ones_of rfl) (fun w7 hbq hg7 => ?_)
  have e7 : Ext w6 w7 := hEa.grown hg7 hEa.size (fun g hg => by cases hg; exact Nat.le_refl _)
  have hy := CL.ext hy e7
  have hq := CL.ext hq e7
  have hb0 := hb0.ext e7
  have hb1 := hb1.ext e7
  have hb2 := hb2.ext e7
  have hby := hby.ext e7
  have hE4 := hE6.trans e7
  clear hEa hg7 e7 e6 hqk hE6 hE5
  clear hE1 hE2 hE3
  have hf4 := CL.ext hf hE4
  have hg4 := CL.ext hg hE4
  have h1 := h1.up hE4
  have h2 := h2.up hE4
  have h3 := h3.up hE4
  have h4 := h4.up hE4
  (repeat (first | (apply WL.nil) | (apply EX.thenN) | (apply CW.seq)))
  -- eu, au
  have hSE : ∀ w1, (fun x => Ext w7 x) w1 → Ext w7 w1 := fun _ h => h
  refine CW.drawB (fun x => Ext w7 x) [(0, true), (1, true), (3, true), (4, true)] [2, 5, 6, 7] [(8, false), (9, false)] mixed (by kernel_rfl) (Ext.drew w7) ?_
  (repeat (first | (refine HL.ldA (by assumption) rfl rfl rfl rfl (by assumption) rfl ?_) | (apply HL.nil)))
  have hlt : ∀ w', Ext w7 w' → ∀ b, Old w7 b → b < w'.heap.size := fun w' h b hb => Nat.lt_of_lt_of_le hb h.size
  refine EX.bag [⟨2, 21, fun v N w' => Ext w7 w' ∧ Rd w' (fun b => Old w7 b ∨ N b) v (.mk 10 0 [f, g] : Ltl) ∧ ∀ b, N b → b < w'.heap.size⟩, ⟨5, 24, fun v N w' => Ext w7 w' ∧ Rd w' (fun b => Old w7 b ∨ N b) v (.mk 14 0 [f, g] : Ltl) ∧ ∀ b, N b → b < w'.heap.size⟩,
    ⟨6, 11, fun v N w => ∃ b, v = .pointer (some ⟨b, 0, none⟩) ∧ N b ∧ w7.heap.size ≤ b ∧ Blk w b 54 [.int .i64 0, .int .i64 0, .slice none 0 0]⟩, ⟨7, 12, fun v N w => ∃ b, v = .pointer (some ⟨b, 0, none⟩) ∧ N b ∧ w7.heap.size ≤ b ∧ Blk w b 54 [.int .i64 0, .int .i64 0, .slice none 0 0]⟩] rfl rfl rfl (Ext.drew w7) ?_ ?_
  · intro e he
    simp only [List.mem_cons, List.not_mem_nil, or_false] at he
    have hst : ∀ (t : Ltl) v (N : Nat → Prop) w1 w2, (Ext w7 w1 ∧ Rd w1 (fun b => Old w7 b ∨ N b) v t ∧ ∀ b, N b → b < w1.heap.size) → Ext w1 w2 → (Ext w7 w2 ∧ Rd w2 (fun b => Old w7 b ∨ N b) v t ∧ ∀ b, N b → b < w2.heap.size) := by
      intro t v N w1 w2 ⟨h4, h5, h6⟩ hE
      exact ⟨h4.trans hE, h5.mono (fun b hb => hE.block b (hb.elim (hlt w1 h4 b) (h6 b))) (fun _ h => h), fun b hb => Nat.lt_of_lt_of_le (h6 b hb) hE.size⟩
    rcases he with rfl | rfl | rfl | rfl
    · refine ⟨⟨_, rfl, rfl, rfl, fun w' hS => ?_⟩, rfl, rfl, hst _⟩
      · refine WL.call rfl rfl rfl (mk_ctwoF w' (hlt w' hS) 10 (Rd.at hf4 hS) (Rd.at hg4 hS)) ?_
        rintro v w2 ⟨h1, h2⟩
        exact WL.nil (EX.bagE (fun b => w'.heap.size ≤ b ∧ b < w2.heap.size) rfl (Ext.trans hS h2) h2 ⟨Ext.trans hS h2, h1, fun b hb => hb.2⟩ (fun _ h => h))
    · refine ⟨⟨_, rfl, rfl, rfl, fun w' hS => ?_⟩, rfl, rfl, hst _⟩
      · refine WL.call rfl rfl rfl (mk_ctwoF w' (hlt w' hS) 14 (Rd.at hf4 hS) (Rd.at hg4 hS)) ?_
        rintro v w2 ⟨h1, h2⟩
        exact WL.nil (EX.bagE (fun b => w'.heap.size ≤ b ∧ b < w2.heap.size) rfl (Ext.trans hS h2) h2 ⟨Ext.trans hS h2, h1, fun b hb => hb.2⟩ (fun _ h => h))
    · refine ⟨⟨_, rfl, rfl, rfl, fun w' hS => ?_⟩, rfl, rfl, fun v N w w' ⟨b, h1, h2, h3, h4⟩ hE => ⟨b, h1, h2, h3, h4.ext hE⟩⟩
      refine WL.alloc rfl rfl (fun w2 hb hE => ?_)
      exact WL.nil (EX.bagE (fun b => b = w'.heap.size) rfl (Ext.trans hS hE) hE ⟨_, rfl, rfl, hS.size, hb⟩ (fun b hb' => by have := hb.lt; omega))
    · refine ⟨⟨_, rfl, rfl, rfl, fun w' hS => ?_⟩, rfl, rfl, fun v N w w' ⟨b, h1, h2, h3, h4⟩ hE => ⟨b, h1, h2, h3, h4.ext hE⟩⟩
      refine WL.alloc rfl rfl (fun w2 hb hE => ?_)
      exact WL.nil (EX.bagE (fun b => b = w'.heap.size) rfl (Ext.trans hS hE) hE ⟨_, rfl, rfl, hS.size, hb⟩ (fun b hb' => by have := hb.lt; omega))
  intro w5 hS5 hE5 v17 N17 h17 _ v20 N20 h20 _ v8 N8 h8 d8 v9 N9 h9 d9
  obtain ⟨b8, rfl, m8, hge8, h8⟩ := h8
  obtain ⟨b9, rfl, m9, hge9, h9⟩ := h9
  have hne : b8 ≠ b9 := fun e => d9 N8 (by simp) b8 m8 (by rw [e]; exact m9)
  dsimp only
  have hS5 : Ext w7 w5 := hS5
  obtain ⟨u8, d8c, rfl, k8⟩ := Rd.ltl h17.2.1
  obtain ⟨u9, d9c, rfl, k9⟩ := Rd.ltl h20.2.1
  have hl8 := h8.lt
  have hl9 := h9.lt
  show HL _ _ _ _ _ _ _ _
  refine HL.mut rfl (WL.st rfl rfl rfl h8 rfl rfl (ones_of rfl) (fun w6 h8 hgr6 => ?_))
  have hS6 : Ext w7 w6 := hS5.grown hgr6 hS5.size (fun g hg => by cases hg; exact hge8)
  have h9 := h9.kept hgr6 (by simp; omega)
  refine WL.nil (EX.mut hS6 ?_)
  refine HL.mut rfl (WL.st rfl rfl rfl h9 rfl rfl (ones_of rfl) (fun w8 h9 hgr7 => ?_))
  have hS7 : Ext w7 w8 := hS6.grown hgr7 hS6.size (fun g hg => by cases hg; exact hge9)
  have h8 := h8.kept hgr7 (by simp; omega)
  refine WL.nil (EX.mut hS7 ?_)
  apply HL.nil
  have hkb : ∀ N : Nat → Prop, (∀ b, N b → b < w5.heap.size) → (∀ b, N b → b ≠ b8) → (∀ b, N b → b ≠ b9) → ∀ b, (Old w7 b ∨ N b) → w8.heap[b]? = w5.heap[b]? := by
    intro N h1 h2 h3 b hb
    have hlt : b < w5.heap.size := hb.elim (fun h => Nat.lt_of_lt_of_le h hS5.size) (h1 b)
    have n8 : b ≠ b8 := hb.elim (fun h => by have : b < w7.heap.size := h; omega) (h2 b)
    have n9 : b ≠ b9 := hb.elim (fun h => by have : b < w7.heap.size := h; omega) (h3 b)
    exact (hgr7.block b (Nat.lt_of_lt_of_le hlt hgr6.size) (by simp; omega)).trans (hgr6.block b hlt (by simp; omega))
  have hkc : ∀ N : Nat → Prop, (∀ b, N b → b < w5.heap.size) → ∀ b, (Old w7 b ∨ N b) → Old w8 b := by
    intro N h1 b hb
    have hlt : b < w5.heap.size := hb.elim (fun h => Nat.lt_of_lt_of_le h hS5.size) (h1 b)
    exact Nat.lt_of_lt_of_le hlt (Nat.le_trans hgr6.size hgr7.size)
  have hu : CL w8 (ltlV 10 0 u8 2 d8c) (.mk 10 0 [f, g]) := Rd.mkLtl (kids := [f, g]) (k8.mono (hkb _ h17.2.2 (fun b hb e => d8 N17 (by simp) b hb (e ▸ m8)) (fun b hb e => d9 N17 (by simp) b hb (e ▸ m9))) (hkc _ h17.2.2))
  have hr : CL w8 (ltlV 14 0 u9 2 d9c) (.mk 14 0 [f, g]) := Rd.mkLtl (kids := [f, g]) (k9.mono (hkb _ h20.2.2 (fun b hb e => d8 N20 (by simp) b hb (e ▸ m8)) (fun b hb e => d9 N20 (by simp) b hb (e ▸ m9))) (hkc _ h20.2.2))
  clear hkb hkc h17 h20 d8 d9 m8 m9 k8 k9
  have hf : CL w8 (ltlV f.k f.n ao f.kids.length cap) f := CL.ext hf4 hS7
  have hg : CL w8 (ltlV g.k g.n ao' g.kids.length cap') g := CL.ext hg4 hS7
  have hy := CL.ext hy hS7
  have hq := CL.ext hq hS7
  have hbf := hb1.ext hS7
  have hbg := hb2.ext hS7
  have hbw := hb0.ext hS7
  have hby := hby.ext hS7
  have hbq := hbq.ext hS7
  have h1 := h1.up hS7
  have h2 := h2.up hS7
  have h3 := h3.up hS7
  have h4 := h4.up hS7
  have hE8 := hE4.trans hS7
  clear hS7 hS6 hS5 hb0 hb1 hb2 hf4 hg4 hE4 hSE
  apply EX.thenN
  apply CW.seq
  -- the eight laws
  have hSE : ∀ w1, (fun x => Ext w8 x) w1 → Ext w8 w1 := fun _ h => h
  refine CW.drawF (fun x => Ext w8 x) [0, 0, 2, 0, 0, 28, 37, 64, 128, 128, 640, 128, 128, 7296, 9600, 16512, 49152, 65536, 65536, 327680, 65536, 65536, 65536, 6881280, 8454144, 17891328, 34275328, 67174400, 201326592, 268435456, 268435456, 1342177280, 268435456, 268435456, 268435456, 28185722880, 34628173824, 73282879488, 140391743488, 275146342400, 824633720832, 1099511627776, 1099511627776, 5497558138880, 1099511627776, 1099511627776, 1099511627776, 115448720916480, 141836999983104, 300166674382848, 575044581326848, 1126999418470400, 3377699720527872, 4503599627370496, 4503599627370496, 4503599627370496, 4503599627370496, 112589990684262400, 4503599627370496, 4503599627370496, 725079540006649856, 1445655480385929216, 2454461796916920320, 4643211215818981376, 9227875636482146304, 27670116110564327424, 36893488147419103232, 36893488147419103232, 36893488147419103232, 36893488147419103232, 922337203685477580800, 36893488147419103232, 36893488147419103232, 36893488147419103232, 10662218074604120834048, 23648725902495645171712, 40177008592539403419648, 76775348834779153825792, 151373981868860580560896, 302268348391804712779776, 906694364710971881029632, 1208925819614629174706176, 1208925819614629174706176, 6044629098073145873530880, 1208925819614629174706176, 1208925819614629174706176, 49565958604199796162953216, 78580178274950896355901440, 175294243844121230332395520, 322783193837105989646548992, 620178945462304766624268288, 2475880078570760549798248447] [(0, true), (1, true), (3, true), (4, true), (2, false), (5, false), (6, false), (7, true), (8, true), (9, true), (11, true), (12, true), (10, false), (13, false), (14, false), (15, true), (16, true), (17, true), (18, true), (20, true), (21, true), (22, true), (19, false), (23, false), (24, false), (25, false), (26, false), (27, true), (28, true), (29, true), (30, true), (32, true), (33, true), (34, true), (31, false), (35, false), (36, false), (37, false), (38, false), (39, true), (40, true), (41, true), (42, true), (44, true), (45, true), (46, true), (43, false), (47, false), (48, false), (49, false), (50, false), (51, true), (52, true), (53, true), (54, true), (55, true), (56, true), (58, true), (59, true), (57, false), (60, false), (61, false), (62, false), (63, false), (64, true), (65, true), (66, true), (67, true), (68, true), (69, true), (71, true), (72, true), (73, true), (70, false), (74, false), (75, false), (76, false), (77, false), (78, false), (79, true), (80, true), (81, true), (82, true), (84, true), (85, true), (83, false), (86, false), (87, false), (88, false), (89, false), (90, true), (91, true)] mixed (by kernel_rfl) (by kernel_rfl) rfl (by kernel_rfl) (Ext.drew w8) ?_
  have hT : Ext w8 (drew w8) := Ext.drew w8
  (repeat (first | (apply HL.pure; rfl; rfl; rfl; rfl) | (refine HL.ldA (by assumption) rfl rfl rfl rfl (by assumption) rfl ?_)))
  refine HL.mut rfl (WL.call rfl rfl rfl (mk_cone (drew w8) 8 (CL.ext hg hT)) ?_)
  rintro va x1 ⟨ha, hX⟩
  replace hT := hT.trans hX
  refine WL.nil (EX.mut hT ?_)
  skip
  refine HL.mut rfl (WL.call rfl rfl rfl (mk_ctwo x1 10 (CL.ext hy hT) (CL.ext hg hT)) ?_)
  rintro vb x2 ⟨hb, hX⟩
  replace hT := hT.trans hX
  refine WL.nil (EX.mut hT ?_)
  replace ha := CL.ext ha hX
  skip
  refine HL.mut rfl (WL.callV (fv := []) rfl rfl rfl rfl (csame_true x2 ha hb (hbw.ext hT) (h1.up hT) (h2.up hT) (h3.up hT) (h4.up hT) hT0 (fun _ _ => Iff.rfl)) ?_)
  rintro _ x3 ⟨rfl, hX⟩
  replace hT := hT.trans hX
  refine WL.nil (EX.mut hT ?_)
  clear hb ha
  (repeat (first | (apply HL.pure; rfl; rfl; rfl; rfl) | (refine HL.ldA (by assumption) rfl rfl rfl rfl (by assumption) rfl ?_)))
  refine HL.mut rfl (WL.call rfl rfl rfl (mk_cone x3 12 (CL.ext hg hT)) ?_)
  rintro va x4 ⟨ha, hX⟩
  replace hT := hT.trans hX
  refine WL.nil (EX.mut hT ?_)
  skip
  refine HL.mut rfl (WL.call rfl rfl rfl (mk_ctwo x4 14 (CL.ext hy hT) (CL.ext hg hT)) ?_)
  rintro vb x5 ⟨hb, hX⟩
  replace hT := hT.trans hX
  refine WL.nil (EX.mut hT ?_)
  replace ha := CL.ext ha hX
  skip
  refine HL.mut rfl (WL.callV (fv := []) rfl rfl rfl rfl (csame_true x5 ha hb (hbw.ext hT) (h1.up hT) (h2.up hT) (h3.up hT) (h4.up hT) hT0 (fun _ _ => law_af)) ?_)
  rintro _ x6 ⟨rfl, hX⟩
  replace hT := hT.trans hX
  refine WL.nil (EX.mut hT ?_)
  clear hb ha
  (repeat (first | (apply HL.pure; rfl; rfl; rfl; rfl) | (refine HL.ldA (by assumption) rfl rfl rfl rfl (by assumption) rfl ?_)))
  refine HL.mut rfl (WL.call rfl rfl rfl (mk_cone x6 13 (CL.ext hf hT)) ?_)
  rintro va x7 ⟨ha, hX⟩
  replace hT := hT.trans hX
  refine WL.nil (EX.mut hT ?_)
  skip
  refine HL.mut rfl (WL.callV (fv := []) (cv := []) rfl rfl rfl rfl (cnot_ok x7 (CL.ext hf hT)) ?_)
  rintro vb x8 ⟨hb, hX⟩
  replace hT := hT.trans hX
  refine WL.nil (EX.mut hT ?_)
  replace ha := CL.ext ha hX
  skip
  refine HL.mut rfl (WL.call rfl rfl rfl (mk_cone x8 8 hb) ?_)
  rintro vc x9 ⟨hc, hX⟩
  replace hT := hT.trans hX
  refine WL.nil (EX.mut hT ?_)
  replace ha := CL.ext ha hX
  replace hb := CL.ext hb hX
  skip
  refine HL.mut rfl (WL.callV (fv := []) (cv := []) rfl rfl rfl rfl (cnot_ok x9 hc) ?_)
  rintro vd x10 ⟨hd, hX⟩
  replace hT := hT.trans hX
  refine WL.nil (EX.mut hT ?_)
  replace ha := CL.ext ha hX
  replace hb := CL.ext hb hX
  replace hc := CL.ext hc hX
  skip
  refine HL.mut rfl (WL.callV (fv := []) rfl rfl rfl rfl (csame_true x10 ha hd (hbw.ext hT) (h1.up hT) (h2.up hT) (h3.up hT) (h4.up hT) hT0 (fun _ _ => Iff.rfl)) ?_)
  rintro _ x11 ⟨rfl, hX⟩
  replace hT := hT.trans hX
  refine WL.nil (EX.mut hT ?_)
  clear hd hc hb ha
  (repeat (first | (apply HL.pure; rfl; rfl; rfl; rfl) | (refine HL.ldA (by assumption) rfl rfl rfl rfl (by assumption) rfl ?_)))
  refine HL.mut rfl (WL.call rfl rfl rfl (mk_cone x11 11 (CL.ext hf hT)) ?_)
  rintro va x12 ⟨ha, hX⟩
  replace hT := hT.trans hX
  refine WL.nil (EX.mut hT ?_)
  skip
  refine HL.mut rfl (WL.callV (fv := []) (cv := []) rfl rfl rfl rfl (cnot_ok x12 (CL.ext hf hT)) ?_)
  rintro vb x13 ⟨hb, hX⟩
  replace hT := hT.trans hX
  refine WL.nil (EX.mut hT ?_)
  replace ha := CL.ext ha hX
  skip
  refine HL.mut rfl (WL.call rfl rfl rfl (mk_cone x13 7 hb) ?_)
  rintro vc x14 ⟨hc, hX⟩
  replace hT := hT.trans hX
  refine WL.nil (EX.mut hT ?_)
  replace ha := CL.ext ha hX
  replace hb := CL.ext hb hX
  skip
  refine HL.mut rfl (WL.callV (fv := []) (cv := []) rfl rfl rfl rfl (cnot_ok x14 hc) ?_)
  rintro vd x15 ⟨hd, hX⟩
  replace hT := hT.trans hX
  refine WL.nil (EX.mut hT ?_)
  replace ha := CL.ext ha hX
  replace hb := CL.ext hb hX
  replace hc := CL.ext hc hX
  skip
  refine HL.mut rfl (WL.callV (fv := []) rfl rfl rfl rfl (csame_true x15 ha hd (hbw.ext hT) (h1.up hT) (h2.up hT) (h3.up hT) (h4.up hT) hT0 (fun _ _ => Iff.rfl)) ?_)
  rintro _ x16 ⟨rfl, hX⟩
  replace hT := hT.trans hX
  refine WL.nil (EX.mut hT ?_)
  clear hd hc hb ha
  (repeat (first | (apply HL.pure; rfl; rfl; rfl; rfl) | (refine HL.ldA (by assumption) rfl rfl rfl rfl (by assumption) rfl ?_)))
  refine HL.mut rfl (WL.call rfl rfl rfl (mk_cone x16 9 (CL.ext hf hT)) ?_)
  rintro va x17 ⟨ha, hX⟩
  replace hT := hT.trans hX
  refine WL.nil (EX.mut hT ?_)
  skip
  refine HL.mut rfl (WL.callV (fv := []) (cv := []) rfl rfl rfl rfl (cnot_ok x17 (CL.ext hf hT)) ?_)
  rintro vb x18 ⟨hb, hX⟩
  replace hT := hT.trans hX
  refine WL.nil (EX.mut hT ?_)
  replace ha := CL.ext ha hX
  skip
  refine HL.mut rfl (WL.call rfl rfl rfl (mk_cone x18 12 hb) ?_)
  rintro vc x19 ⟨hc, hX⟩
  replace hT := hT.trans hX
  refine WL.nil (EX.mut hT ?_)
  replace ha := CL.ext ha hX
  replace hb := CL.ext hb hX
  skip
  refine HL.mut rfl (WL.callV (fv := []) (cv := []) rfl rfl rfl rfl (cnot_ok x19 hc) ?_)
  rintro vd x20 ⟨hd, hX⟩
  replace hT := hT.trans hX
  refine WL.nil (EX.mut hT ?_)
  replace ha := CL.ext ha hX
  replace hb := CL.ext hb hX
  replace hc := CL.ext hc hX
  skip
  refine HL.mut rfl (WL.callV (fv := []) rfl rfl rfl rfl (csame_true x20 ha hd (hbw.ext hT) (h1.up hT) (h2.up hT) (h3.up hT) (h4.up hT) hT0 (fun h _ => law_eg h)) ?_)
  rintro _ x21 ⟨rfl, hX⟩
  replace hT := hT.trans hX
  refine WL.nil (EX.mut hT ?_)
  clear hd hc hb ha
  (repeat (first | (apply HL.pure; rfl; rfl; rfl; rfl) | (refine HL.ldA (by assumption) rfl rfl rfl rfl (by assumption) rfl ?_)))
  refine HL.mut rfl (WL.call rfl rfl rfl (mk_ctwo x21 5 (CL.ext hg hT) (CL.ext hq hT)) ?_)
  rintro va x22 ⟨ha, hX⟩
  replace hT := hT.trans hX
  refine WL.nil (EX.mut hT ?_)
  skip
  refine HL.mut rfl (WL.call rfl rfl rfl (mk_cone x22 7 (CL.ext hu hT)) ?_)
  rintro vb x23 ⟨hb, hX⟩
  replace hT := hT.trans hX
  refine WL.nil (EX.mut hT ?_)
  replace ha := CL.ext ha hX
  skip
  refine HL.mut rfl (WL.call rfl rfl rfl (mk_ctwo x23 5 (CL.ext hf hT) hb) ?_)
  rintro vc x24 ⟨hc, hX⟩
  replace hT := hT.trans hX
  refine WL.nil (EX.mut hT ?_)
  replace ha := CL.ext ha hX
  replace hb := CL.ext hb hX
  skip
  refine HL.mut rfl (WL.call rfl rfl rfl (mk_ctwo x24 6 ha hc) ?_)
  rintro vd x25 ⟨hd, hX⟩
  replace hT := hT.trans hX
  refine WL.nil (EX.mut hT ?_)
  replace ha := CL.ext ha hX
  replace hb := CL.ext hb hX
  replace hc := CL.ext hc hX
  skip
  refine HL.mut rfl (WL.callV (fv := []) rfl rfl rfl rfl (csame_true x25 (CL.ext hu hT) hd (hbw.ext hT) (h1.up hT) (h2.up hT) (h3.up hT) (h4.up hT) hT0 (fun _ _ => law_eu)) ?_)
  rintro _ x26 ⟨rfl, hX⟩
  replace hT := hT.trans hX
  refine WL.nil (EX.mut hT ?_)
  clear hd hc hb ha
  (repeat (first | (apply HL.pure; rfl; rfl; rfl; rfl) | (refine HL.ldA (by assumption) rfl rfl rfl rfl (by assumption) rfl ?_)))
  refine HL.mut rfl (WL.callV (fv := []) (cv := []) rfl rfl rfl rfl (cnot_ok x26 (CL.ext hq hT)) ?_)
  rintro va x27 ⟨ha, hX⟩
  replace hT := hT.trans hX
  refine WL.nil (EX.mut hT ?_)
  skip
  refine HL.mut rfl (WL.call rfl rfl rfl (mk_cone x27 11 (CL.ext hr hT)) ?_)
  rintro vb x28 ⟨hb, hX⟩
  replace hT := hT.trans hX
  refine WL.nil (EX.mut hT ?_)
  replace ha := CL.ext ha hX
  skip
  refine HL.mut rfl (WL.call rfl rfl rfl (mk_ctwo x28 5 (CL.ext hf hT) hb) ?_)
  rintro vc x29 ⟨hc, hX⟩
  replace hT := hT.trans hX
  refine WL.nil (EX.mut hT ?_)
  replace ha := CL.ext ha hX
  replace hb := CL.ext hb hX
  skip
  refine HL.mut rfl (WL.call rfl rfl rfl (mk_ctwo x29 6 (CL.ext hg hT) hc) ?_)
  rintro vd x30 ⟨hd, hX⟩
  replace hT := hT.trans hX
  refine WL.nil (EX.mut hT ?_)
  replace ha := CL.ext ha hX
  replace hb := CL.ext hb hX
  replace hc := CL.ext hc hX
  skip
  refine HL.mut rfl (WL.call rfl rfl rfl (mk_ctwo x30 6 ha hd) ?_)
  rintro ve x31 ⟨he, hX⟩
  replace hT := hT.trans hX
  refine WL.nil (EX.mut hT ?_)
  replace ha := CL.ext ha hX
  replace hb := CL.ext hb hX
  replace hc := CL.ext hc hX
  replace hd := CL.ext hd hX
  skip
  refine HL.mut rfl (WL.callV (fv := []) rfl rfl rfl rfl (csame_true x31 (CL.ext hr hT) he (hbw.ext hT) (h1.up hT) (h2.up hT) (h3.up hT) (h4.up hT) hT0 (fun _ _ => law_au)) ?_)
  rintro _ x32 ⟨rfl, hX⟩
  replace hT := hT.trans hX
  refine WL.nil (EX.mut hT ?_)
  clear he hd hc hb ha
  (repeat (first | (apply HL.pure; rfl; rfl; rfl; rfl) | (refine HL.ldA (by assumption) rfl rfl rfl rfl (by assumption) rfl ?_)))
  refine HL.mut rfl (WL.call rfl rfl rfl (mk_cone x32 9 (CL.ext hf hT)) ?_)
  rintro va x33 ⟨ha, hX⟩
  replace hT := hT.trans hX
  refine WL.nil (EX.mut hT ?_)
  skip
  refine HL.mut rfl (WL.call rfl rfl rfl (mk_cone x33 9 (CL.ext hf hT)) ?_)
  rintro vb x34 ⟨hb, hX⟩
  replace hT := hT.trans hX
  refine WL.nil (EX.mut hT ?_)
  replace ha := CL.ext ha hX
  skip
  refine HL.mut rfl (WL.call rfl rfl rfl (mk_cone x34 7 hb) ?_)
  rintro vc x35 ⟨hc, hX⟩
  replace hT := hT.trans hX
  refine WL.nil (EX.mut hT ?_)
  replace ha := CL.ext ha hX
  replace hb := CL.ext hb hX
  skip
  refine HL.mut rfl (WL.call rfl rfl rfl (mk_ctwo x35 5 (CL.ext hf hT) hc) ?_)
  rintro vd x36 ⟨hd, hX⟩
  replace hT := hT.trans hX
  refine WL.nil (EX.mut hT ?_)
  replace ha := CL.ext ha hX
  replace hb := CL.ext hb hX
  replace hc := CL.ext hc hX
  skip
  refine HL.mut rfl (WL.callV (fv := []) rfl rfl rfl rfl (csame_true x36 ha hd (hbw.ext hT) (h1.up hT) (h2.up hT) (h3.up hT) (h4.up hT) hT0 (fun _ _ => law_eg2)) ?_)
  rintro _ x37 ⟨rfl, hX⟩
  replace hT := hT.trans hX
  refine WL.nil (EX.mut hT ?_)
  clear hd hc hb ha
  (repeat (first | (apply HL.pure; rfl; rfl; rfl; rfl) | (apply HL.nil)))
  (repeat (first | (apply EX.thenN) | (apply CW.ret)))
  exact EX.ret1 rfl rfl ⟨rfl, hE8.trans hT⟩
end Go.Proofs.Ytbphcblopoegcaa
/-
  From the form's readings of the arguments to our own, and back: what a law's proof needs at its two ends.
-/
set_option linter.unusedVariables false
set_option linter.unusedSimpArgs false
namespace Go.Proofs.Ytbphcblopoegcaa
open Go.RowKit Go.ChangeShapes Go.WideShapes Go.ChangeAt

theorem bulk_one {H : Type} (d : DataW H) : 1 ≤ Rows.uptoBulk d := by
  cases d with
  | lit l => cases l <;> simp [Rows.uptoBulk]
  | nil => simp [Rows.uptoBulk]
  | ptr d => simp [Rows.uptoBulk]
  | slice elems spare => simp [Rows.uptoBulk]
  | agg parts => simp [Rows.uptoBulk]
  | iface t d => simp [Rows.uptoBulk]
  | map entries => simp [Rows.uptoBulk]
  | held h => simp [Rows.uptoBulk]
theorem bulk_app {H : Type} (l r : List (DataW H)) : Rows.uptoBulkAll (l ++ r) = Rows.uptoBulkAll l + Rows.uptoBulkAll r := by
  induction l with
  | nil => simp [Rows.uptoBulkAll]
  | cons x l ih => simp only [List.cons_append, Rows.uptoBulkAll, ih]; omega

/-- the bound, as the form hands it over -/
theorem bound {H : Type} {l : List (DataW H)} (hk : Rows.uptoSmall H l = true) : Rows.uptoBulkAll l ≤ 1048576 := by
  simpa [Rows.uptoSmall] using hk
/-- how many values a value of ours holds -/
class Bk (α : Type) where
  bk : α → Nat
abbrev bk {α : Type} [Bk α] : α → Nat := Bk.bk
instance iOpen1 : Bk Int := ⟨fun _ => 1⟩
instance iOpen2 : Bk Bool := ⟨fun _ => 1⟩
instance iOpen3 : Bk Nat := ⟨fun _ => 1⟩
instance iOpen4 : Bk ByteArray := ⟨fun s => s.size + 1⟩
def bkL {α : Type} [Bk α] : List α → Nat
  | [] => 0
  | x :: r => bk x + bkL r
instance iOpen8 {α : Type} [Bk α] : Bk (List α) := ⟨fun l => bkL l + 1⟩

/-- what the form reads at a type, we read, too -/
class Opn (P : Program) (t : TypeId) (α : Type) [Rep α] [Bk α] : Prop where
  op : ∀ {H : Type} {enc : TypeId × Value → H} {w : World} {fuel : Nat} {cs : List Value} {d : DataW H} {ps : List MemPlace}, DataW.trod enc P w 0 (fun _ => true) true fuel t cs = some (d, ps) → ∃ x : α, rd w (Old w) cs x ∧ bk x ≤ Rows.uptoBulk d

theorem Opn.int {P : Program} {t : TypeId} (h : P.underlying t = some (.int .i64)) : Opn P t Int where
  op := by
    intro H enc w fuel cs d ps hd
    cases fuel with
    | zero => simp [DataW.trod] at hd
    | succ fuel =>
      unfold DataW.trod at hd
      rw [h] at hd
      split at hd <;> try (simp at *; done)
      rename_i k k' n e1
      simp at e1
      split at hd
      · rename_i hk
        simp at hd
        obtain ⟨rfl, rfl⟩ := hd
        exact ⟨n, by rw [hk.1, ← e1]; rfl, bulk_one _⟩
      · cases hd
theorem Opn.bool {P : Program} {t : TypeId} (h : P.underlying t = some .bool) : Opn P t Bool where
  op := by
    intro H enc w fuel cs d ps hd
    cases fuel with
    | zero => simp [DataW.trod] at hd
    | succ fuel =>
      unfold DataW.trod at hd
      rw [h] at hd
      split at hd <;> try (simp at *; done)
      rename_i b e1
      simp at hd
      obtain ⟨rfl, rfl⟩ := hd
      exact ⟨b, rfl, bulk_one _⟩
theorem Opn.u64 {P : Program} {t : TypeId} (h : P.underlying t = some (.int .u64)) : Opn P t Nat where
  op := by
    intro H enc w fuel cs d ps hd
    cases fuel with
    | zero => simp [DataW.trod] at hd
    | succ fuel =>
      unfold DataW.trod at hd
      rw [h] at hd
      split at hd <;> try (simp at *; done)
      rename_i k k' n e1
      simp at e1
      split at hd
      · rename_i hk
        simp at hd
        obtain ⟨rfl, rfl⟩ := hd
        have hwf := hk.2
        rw [← e1] at hwf
        have hb : 0 ≤ n ∧ n ≤ 18446744073709551615 := by simpa [Lit.wf, IntKind.min, IntKind.max, IntKind.signed, IntKind.bits] using hwf
        refine ⟨n.toNat, ⟨?_, by omega⟩, bulk_one _⟩
        rw [hk.1, ← e1, Int.toNat_of_nonneg hb.1]
      · cases hd
theorem Opn.string {P : Program} {t : TypeId} (h : P.underlying t = some .string) : Opn P t ByteArray where
  op := by
    intro H enc w fuel cs d ps hd
    cases fuel with
    | zero => simp [DataW.trod] at hd
    | succ fuel =>
      unfold DataW.trod at hd
      rw [h] at hd
      split at hd <;> try (simp at *; done)
      rename_i s e1
      split at hd
      · rename_i hk
        simp at hd
        obtain ⟨rfl, rfl⟩ := hd
        refine ⟨s, ⟨rfl, hk⟩, ?_⟩
        show s.size + 1 ≤ _
        simp only [Rows.uptoBulk]
        have e : s.data.toList.length = s.size := by rw [Array.length_toList]; rfl
        omega
      · cases hd

theorem mapM_range {β : Type} (f : Nat → Option β) : ∀ (n : Nat) (es : List β), (List.range n).mapM f = some es → es.length = n ∧ ∀ i (h : i < es.length), f i = some es[i]
  | 0, es, h => by
    simp at h; subst h
    exact ⟨rfl, fun i hi => absurd hi (by simp)⟩
  | n + 1, es, h => by
    rw [List.range_succ, List.mapM_append] at h
    simp only [List.mapM_cons, List.mapM_nil, Option.bind_eq_bind, Option.pure_def] at h
    cases h1 : (List.range n).mapM f with
    | none => rw [h1] at h; cases h
    | some l =>
      rw [h1] at h
      cases h2 : f n with
      | none => rw [h2] at h; cases h
      | some y =>
        rw [h2] at h
        simp at h
        subst h
        obtain ⟨hl, hi⟩ := mapM_range f n l h1
        refine ⟨by simp [hl], fun i hlt => ?_⟩
        by_cases hi' : i < l.length
        · rw [List.getElem_append_left hi']; exact hi i hi'
        · have : i = n := by simp at hlt; omega
          subst this
          rw [List.getElem_append_right (by omega)]
          simpa [hl] using h2
theorem mapM_cells {w : World} {a : Addr} {n : Nat} {cs : List Value} (h : w.cells? 0 a n = some cs) : cs.length = n ∧ ∀ j (hj : j < cs.length), w.cell? (a.add j) = some cs[j] := by
  unfold World.cells? at h
  rw [if_pos (Nat.zero_le _)] at h
  exact mapM_range _ n cs h

theorem slice_op {P : Program} {t e : TypeId} {α : Type} [Rep α] [Bk α] [hs : IsS P t e] [ht : IsT P e α] {H : Type} {enc : TypeId × Value → H} {w : World} {fuel : Nat}
    (ho : ∀ {cs : List Value} {d : DataW H} {ps : List MemPlace}, DataW.trod enc P w 0 (fun _ => true) true fuel e cs = some (d, ps) → ∃ x : α, rd w (Old w) cs x ∧ bk x ≤ Rows.uptoBulk d)
    {cs : List Value} {d : DataW H} {ps : List MemPlace} (hd : DataW.trod enc P w 0 (fun _ => true) true (fuel + 1) t cs = some (d, ps)) : ∃ x : List α, rd w (Old w) cs x ∧ bk x ≤ Rows.uptoBulk d := by
  unfold DataW.trod at hd
  rw [hs.ok] at hd
  obtain ⟨i0, hi1, hi2⟩ := IsT.info (P := P) (t := e) (α := α)
  have hsz : P.cellsOf e = sz α := by simp [Program.cellsOf, hi1, hi2]
  have hp : 0 < sz α := Rep.pos
  split at hd <;> try (simp at *; done)
  · simp at hd
    obtain ⟨rfl, rfl⟩ := hd
    exact ⟨[], ⟨none, 0, rfl, by simp, by simp [maxLen], fun _ => rfl, fun i hi => absurd hi (by simp)⟩, bulk_one _⟩
  · rename_i e' a len cap e1
    cases e1
    simp only at hd
    split at hd
    · rename_i hc
      obtain ⟨_, hle, hmx⟩ := hc
      rw [hsz] at hd
      cases hm : (List.range len).mapM (fun i => (w.cells? 0 (a.add (i * sz α)) (sz α)).bind (DataW.trod enc P w 0 (fun _ => true) true fuel e)) with
      | none => rw [hm] at hd; cases hd
      | some elems =>
        rw [hm] at hd
        simp only [Option.bind_some, if_true] at hd
        obtain ⟨rest, _, hd2⟩ := Option.map_eq_some_iff.1 hd
        simp only [Prod.mk.injEq] at hd2
        obtain ⟨rfl, _⟩ := hd2
        obtain ⟨hlen, hget⟩ := mapM_range _ len elems hm
        -- one element at a time
        have one : ∀ i (h : i < elems.length), ∃ x : α, (∃ b off, some a = some ⟨b, off, none⟩ ∧ Old w b ∧ ∃ es, Cells w b (off + i * sz α) es ∧ rd w (Old w) es x) ∧ bk x ≤ Rows.uptoBulk (elems[i]).1 := by
          intro i hi
          have h1 := hget i hi
          cases hcs : w.cells? 0 (a.add (i * sz α)) (sz α) with
          | none => rw [hcs] at h1; cases h1
          | some es =>
            rw [hcs] at h1
            simp only [Option.bind_some] at h1
            obtain ⟨x, hr, hb⟩ := ho (d := (elems[i]).1) (ps := (elems[i]).2) h1
            obtain ⟨hl, hc⟩ := mapM_cells hcs
            have h0 := hc 0 (by omega)
            have hspot : a.spot = none := by
              cases hsp : a.spot with
              | none => rfl
              | some k =>
                -- the first element's first cell lies at the address itself
                have h2 := hget 0 (by omega)
                cases hcs0 : w.cells? 0 (a.add (0 * sz α)) (sz α) with
                | none => rw [hcs0] at h2; cases h2
                | some es0 =>
                  obtain ⟨hl0, hc0⟩ := mapM_cells hcs0
                  have h3 := hc0 0 (by omega)
                  have e3 : (a.add (0 * sz α)).add 0 = a := by simp [Addr.add]
                  rw [e3] at h3
                  unfold World.cell? at h3
                  split at h3
                  · simp [hsp] at h3
                  · cases h3
            obtain ⟨b, off, sp⟩ := a
            simp only at hspot
            subst hspot
            rw [WideShapes.add_plain] at hc h0
            have hblt : b < w.heap.size := World.block_lt_of_cell? w _ h0
            refine ⟨x, ⟨b, off, rfl, hblt, es, ?_, hr⟩, hb⟩
            intro j u hu
            obtain ⟨hj, rfl⟩ := List.getElem?_eq_some_iff.1 hu
            have := hc j hj
            rwa [WideShapes.add_plain] at this
        have all : ∀ k, k ≤ elems.length → ∃ xs : List α, xs.length = k ∧ (∀ i (h : i < xs.length), ∃ b off, some a = some ⟨b, off, none⟩ ∧ Old w b ∧ ∃ es, Cells w b (off + i * sz α) es ∧ rd w (Old w) es xs[i]) ∧ bkL xs ≤ Rows.uptoBulkAll ((elems.map (·.1)).take k) := by
          intro k
          induction k with
          | zero => intro _; exact ⟨[], rfl, fun i hi => absurd hi (by simp), by simp [bkL, Rows.uptoBulkAll]⟩
          | succ k ih =>
            intro hk
            obtain ⟨xs, h1, h2, h3⟩ := ih (by omega)
            obtain ⟨x, h4, h5⟩ := one k (by omega)
            refine ⟨xs ++ [x], by simp [h1], ?_, ?_⟩
            · intro i hi
              by_cases hlt : i < xs.length
              · rw [List.getElem_append_left hlt]; exact h2 i hlt
              · have : i = k := by simp at hi; omega
                subst this
                rw [List.getElem_append_right (by omega)]
                simpa [h1] using h4
            · have hb : ∀ (l : List α), bkL (l ++ [x]) = bkL l + bk x := by
                intro l; induction l with
                | nil => simp [bkL]
                | cons y l ih => simp only [List.cons_append, bkL, ih]; omega
              rw [hb, List.take_succ_eq_append_getElem (by simp; omega), bulk_app]
              simp only [List.getElem_map, Rows.uptoBulkAll]
              omega
        obtain ⟨xs, h1, h2, h3⟩ := all elems.length (Nat.le_refl _)
        have hx : xs.length = len := by omega
        refine ⟨xs, ⟨some a, cap, by rw [hx], ⟨by omega, hmx, (fun h => by cases h), h2⟩⟩, ?_⟩
        show bkL xs + 1 ≤ _
        rw [List.take_of_length_le (by simp)] at h3
        simp only [Rows.uptoBulk]
        omega
    · cases hd

theorem Opn.slice {P : Program} {t e : TypeId} {α : Type} [Rep α] [Bk α] [hs : IsS P t e] [ht : IsT P e α] [ho : Opn P e α] : Opn P t (List α) where
  op := by
    intro H enc w fuel cs d ps hd
    cases fuel with
    | zero => simp [DataW.trod] at hd
    | succ fuel => exact slice_op (e := e) (fun h => ho.op h) hd

theorem okWide_form {P : Program} {w : World} {r : Reach} {base : Nat} {t : TypeId} {v : Value} {d : TypeDesc} (hu : P.underlying t = some d) (h : Value.okWide P w r base t v) :
    (aggD d = false → v.oneCell' = true) ∧ (aggD d = true → ∃ cs, v = .agg cs) := by
  unfold Value.okWide at h
  rw [hu] at h
  constructor
  · intro hd
    cases v <;> first
      | rfl
      | (exfalso; cases d <;> simp [aggD] at hd <;> simp [Cell.okWide, Cell.ok, hu] at h)
  · intro hd
    cases d <;> simp [aggD] at hd <;> (obtain ⟨cs, rfl, _⟩ := h; exact ⟨cs, rfl⟩)
/-- an argument, opened -/
theorem Opn.arg {P : Program} {t : TypeId} {α : Type} [Rep α] [Bk α] [ht : IsT P t α] [ho : Opn P t α] {H : Type} {enc : TypeId × Value → H} {w : World} {v : Value} {d : DataW H} {ps : List MemPlace} {r : Reach} {base : Nat}
    (hv : Value.okWide P w r base t v) (h : DataW.Trod enc P w 0 (fun _ => true) true t v d ps) : ∃ x : α, Rd w (Old w) v x ∧ bk x ≤ Rows.uptoBulk d := by
  obtain ⟨i, dd, _, _, h3, h4⟩ := ht.ok
  obtain ⟨f1, f2⟩ := okWide_form h3 hv
  obtain ⟨fuel, hf⟩ := h
  obtain ⟨x, hr, hb⟩ := ho.op hf
  refine ⟨x, ⟨v.cells.toList, ?_, hr⟩, hb⟩
  unfold vOf
  split
  · rename_i he
    obtain ⟨cs, rfl⟩ := f2 (h4.trans he)
    simp [Value.cells]
  · rename_i he
    have := f1 (h4.trans he)
    cases v <;> first | rfl | (simp [Value.oneCell'] at this)

theorem trodAll_below {H : Type} {enc : TypeId × Value → H} {P : Program} (hl : laidOutB P = true) {W W' : World} (hb : Ext W W') : ∀ {ts : List TypeId} {vs : List Value} {ds : List (DataW H)} {ps : List MemPlace},
    (∀ t ∈ ts, P.readableRec t = true ∧ t < P.types.size) → DataW.TrodAll enc P W 0 (fun _ => true) true ts vs ds ps → (∀ x ∈ ps, x.block < W.heap.size) →
    DataW.TrodAll enc P W' 0 (fun b => decide (b < W.heap.size)) true ts vs ds ps
  | [], [], [], _, _, h, _ => h
  | t :: ts, v :: vs, d :: ds, ps, hr, h, hlt => by
    obtain ⟨p, q, h1, h2, rfl⟩ := h
    exact ⟨p, q, Below.trod hl (hr t (by simp)).1 (hr t (by simp)).2 h1 hb (fun x hx => hlt x (by simp [hx])),
      trodAll_below hl hb (fun t ht => hr t (by simp [ht])) h2 (fun x hx => hlt x (by simp [hx])), rfl⟩
  | [], [], _ :: _, _, _, h, _ => h.elim
  | [], _ :: _, [], _, _, h, _ => h.elim
  | [], _ :: _, _ :: _, _, _, h, _ => h.elim
  | _ :: _, [], [], _, _, h, _ => h.elim
  | _ :: _, [], _ :: _, _, _, h, _ => h.elim
  | _ :: _, _ :: _, [], _, _, h, _ => h.elim

/-- the law's end: it returned true, and only new memory was made -/
theorem law_post {H : Type} {enc : TypeId × Value → H} {P : Program} {fn : Func} {s : ChangeSpec} {W W' : World} {args : Array Value} {ds gs : List (DataW H)} {before : List MemPlace} {tb : TypeId}
    (hl : laidOutB P = true) (hW : DataW.Whole enc P fn.params.toList s.vars false W args.toList ds gs before) (hv : s.vars = []) (hr : ∀ t ∈ fn.params.toList, P.readableRec t = true ∧ t < P.types.size)
    (hsp : (s.fn H (ds ++ gs)).results = [.lit (.bool true)] ∧ (s.fn H (ds ++ gs)).args = ds ∧ (s.fn H (ds ++ gs)).vars = []) (hres : fn.resultTypes = #[tb]) (hb : P.underlying tb = some .bool) (hE : Ext W W') :
    s.post enc P fn false true false false W args (.bool true) W' := by
  have hlt := hW.lt
  have hW' := hW
  obtain ⟨p, q, hA, hV, rfl, _, _⟩ := hW
  rw [hv] at hV
  obtain ⟨e1, e2, e3⟩ := hsp
  refine ⟨ds, gs, p ++ q, [], p, [], hW', ?_, ?_, ?_, hE.frame _, fun h => by cases h⟩
  · rw [e1, hres]
    exact trodAll_mk1 (shut_bool hb true)
  · rw [e2]
    exact trodAll_below hl hE hr hA (fun x hx => hlt x (by simp [hx]))
  · rw [e3, hv]
    exact rfl
/- structs -/
instance iOpen9 {α β : Type} [Bk α] [Bk β] : Bk (α × β) := ⟨fun x => bk x.1 + bk x.2⟩
/-- a list of fields, from an offset on -/
class OpnFs (P : Program) (fs : List (TypeId × Nat)) (off : Nat) (α : Type) [Rep α] [Bk α] : Prop where
  op : ∀ {H : Type} {enc : TypeId × Value → H} {w : World} {fuel : Nat} {cs : List Value} {xs : List (DataW H × List MemPlace)}, off + sz α = cs.length →
    (fs.mapM fun f => DataW.trod enc P w 0 (fun _ => true) true fuel f.1 ((cs.drop f.2).take (P.cellsOf f.1))) = some xs → ∃ x : α, rd w (Old w) (cs.drop off) x ∧ bk x ≤ Rows.uptoBulkAll (xs.map (·.1))
theorem cellsOf_T {P : Program} {t : TypeId} {α : Type} [Rep α] [ht : IsT P t α] : P.cellsOf t = sz α := by
  obtain ⟨i, h1, h2⟩ := IsT.info (P := P) (t := t) (α := α)
  simp [Program.cellsOf, h1, h2]
instance OpnFs.one {P : Program} {t : TypeId} {off : Nat} {α : Type} [Rep α] [Bk α] [ht : IsT P t α] [ho : Opn P t α] : OpnFs P [(t, off)] off α where
  op := by
    intro H enc w fuel cs xs hl h
    simp only [List.mapM_cons, List.mapM_nil, Option.bind_eq_bind, Option.pure_def] at h
    cases h1 : DataW.trod enc P w 0 (fun _ => true) true fuel t ((cs.drop off).take (P.cellsOf t)) with
    | none => rw [h1] at h; cases h
    | some d =>
      rw [h1] at h; simp at h; subst h
      obtain ⟨d, ps⟩ := d
      obtain ⟨x, hr, hb⟩ := ho.op h1
      rw [cellsOf_T (α := α), List.take_of_length_le (by rw [List.length_drop]; omega)] at hr
      exact ⟨x, hr, by simpa [Rows.uptoBulkAll] using hb⟩
instance OpnFs.cons {P : Program} {t : TypeId} {off : Nat} {f : TypeId × Nat} {fs : List (TypeId × Nat)} {α β : Type} [Rep α] [Bk α] [Rep β] [Bk β] [ht : IsT P t α] [ho : Opn P t α] [hr : OpnFs P (f :: fs) (off + sz α) β] : OpnFs P ((t, off) :: f :: fs) off (α × β) where
  op := by
    intro H enc w fuel cs xs hl h
    rw [List.mapM_cons] at h
    simp only [Option.bind_eq_bind, Option.pure_def] at h
    have hl' : off + sz α + sz β = cs.length := by
      have : sz (α × β) = sz α + sz β := rfl
      omega
    cases h1 : DataW.trod enc P w 0 (fun _ => true) true fuel t ((cs.drop off).take (P.cellsOf t)) with
    | none => rw [h1] at h; cases h
    | some d =>
      rw [h1] at h
      simp only [Option.bind_some] at h
      obtain ⟨ys, h2, h3⟩ := Option.bind_eq_some_iff.1 h
      cases h3
      obtain ⟨d, ps⟩ := d
      obtain ⟨x, hx, hb⟩ := ho.op h1
      obtain ⟨y, hy, hc⟩ := hr.op hl' h2
      rw [cellsOf_T (α := α)] at hx
      refine ⟨(x, y), ⟨(cs.drop off).take (sz α), cs.drop (off + sz α), ?_, hx, hy⟩, ?_⟩
      · rw [← List.drop_drop, List.take_append_drop]
      · show bk x + bk y ≤ _
        simp only [List.map_cons, Rows.uptoBulkAll]
        omega
def stFact (P : Program) (t : TypeId) : Option (List (TypeId × Nat)) := match P.underlying t with
  | some (.struct fs) => some (fs.toList.map fun f => (f.type, f.offset))
  | _ => none
theorem Opn.struct {P : Program} {t : TypeId} {fs : List (TypeId × Nat)} {α : Type} [Rep α] [Bk α] [ht : IsT P t α] [hf : OpnFs P fs 0 α] (h : stFact P t = some fs) : Opn P t α where
  op := by
    intro H enc w fuel cs d ps hd
    unfold stFact at h
    split at h
    · rename_i gs hu
      cases h
      cases fuel with
      | zero => simp [DataW.trod] at hd
      | succ fuel =>
        unfold DataW.trod at hd
        rw [hu] at hd
        simp only at hd
        split at hd
        · rename_i hl
          obtain ⟨xs, h1, h2⟩ := Option.map_eq_some_iff.1 hd
          cases h2
          have := hf.op (enc := enc) (w := w) (fuel := fuel) (cs := cs) (xs := xs) (by rw [hl, cellsOf_T (α := α)]; omega) (by rw [List.mapM_map]; exact h1)
          obtain ⟨x, hr, hb⟩ := this
          exact ⟨x, by simpa using hr, by simp only [Rows.uptoBulk]; omega⟩
        · cases hd
    · cases h
instance iOpen5 : Opn Try.prog 3 Int := Opn.int Try.underlying3
instance iOpen6 : Opn Try.prog 22 (List Int) := Opn.slice
instance iOpen7 : Opn Try.prog 23 (List (List Int)) := Opn.slice
end Go.Proofs.Ytbphcblopoegcaa
/-
  The types of the arguments, as the form reads them.
-/
set_option linter.unusedVariables false
namespace Go.Proofs.Ytbphcblopoegcaa
open Go.RowKit

instance iOpn1 : Opn Try.prog 4 Bool := Opn.bool Try.underlying4
instance iOpn2 : Opn Try.prog 33 Nat := Opn.u64 Try.underlying33
instance iOpn3 : Opn Try.prog 9 ByteArray := Opn.string Try.underlying9
instance iOpn4 : Opn Try.prog 27 Int := Opn.int Try.underlying27
instance iOpn5 : Opn Try.prog 55 (List Bool) := Opn.slice
instance iOpn6 : Opn Try.prog 24 (List Nat) := Opn.slice
instance iOpn10 : Opn Try.prog 101 (ByteArray × Int) := Opn.struct (fs := [(9, 0), (3, 1)]) (by kernel_rfl)
instance iOpn11 : Opn Try.prog 104 (Int × Int) := Opn.struct (fs := [(3, 0), (3, 1)]) (by kernel_rfl)
instance iOpn12 : Opn Try.prog 95 (Int × Int × Int) := Opn.struct (fs := [(3, 0), (3, 1), (3, 2)]) (by kernel_rfl)
instance iOpn13 : Opn Try.prog 92 (Int × Int) := Opn.struct (fs := [(3, 0), (3, 1)]) (by kernel_rfl)
instance iOpn14 : Opn Try.prog 77 (List (ByteArray × Int)) := Opn.slice
instance iOpn15 : Opn Try.prog 78 (List (Int × Int)) := Opn.slice
instance iOpn16 : Opn Try.prog 87 (List (Int × Int × Int)) := Opn.slice
instance iOpn17 : Opn Try.prog 81 (List (Int × Int)) := Opn.slice
instance iOpn18 : Opn Try.prog 42 (List Nat × List Nat) := Opn.struct (fs := [(24, 0), (24, 1)]) (by kernel_rfl)
instance iOpn19 : Opn Try.prog 67 (List Int × List Int) := Opn.struct (fs := [(22, 0), (22, 1)]) (by kernel_rfl)
instance iOpn22 : Opn Try.prog 51 (List Int × List (List Int) × List Nat × List (List Int)) := Opn.struct (fs := [(22, 0), (23, 1), (24, 2), (23, 3)]) (by kernel_rfl)
instance iOpn23 : Opn Try.prog 26 (List Int × List (List Int) × List Nat × List Nat × List (List Int)) := Opn.struct (fs := [(22, 0), (23, 1), (24, 2), (24, 3), (23, 4)]) (by kernel_rfl)
instance iOpn24 : Opn Try.prog 80 (List (ByteArray × Int) × List (Int × Int)) := Opn.struct (fs := [(77, 0), (78, 1)]) (by kernel_rfl)
instance iOpn25 : Opn Try.prog 126 (Bool × List Int × List Int) := Opn.struct (fs := [(4, 0), (22, 1), (22, 2)]) (by kernel_rfl)
end Go.Proofs.Ytbphcblopoegcaa
/-
  Formulas as arguments.
-/
set_option linter.unusedVariables false
set_option linter.unusedSimpArgs false
namespace Go.Proofs.Ytbphcblopoegcaa
open Go.RowKit

instance iOpnLtl1 : Bk Ltl := ⟨Ltl.nodes⟩
theorem len3 {cs : List Value} (h : cs.length = 3) : ∃ c0 c1 c2, cs = [c0, c1, c2] := by
  match cs, h with
  | [a, b, c], _ => exact ⟨a, b, c, rfl⟩
theorem ltl_op {H : Type} {enc : TypeId × Value → H} {w : World} : ∀ (fuel : Nat) {cs : List Value} {d : DataW H} {ps : List MemPlace}, DataW.trod enc Try.prog w 0 (fun _ => true) true fuel 129 cs = some (d, ps) → ∃ x : Ltl, rd w (Old w) cs x ∧ bk x ≤ Rows.uptoBulk d := by
  intro fuel
  induction fuel using Nat.strongRecOn with
  | _ fuel ih =>
    intro cs d ps hd
    have hst : stFact Try.prog 129 = some [(3, 0), (3, 1), (127, 2)] := by kernel_rfl
    unfold stFact at hst
    split at hst
    · rename_i gs hu
      have hst := Option.some.inj hst
      cases fuel with
      | zero => simp [DataW.trod] at hd
      | succ fuel =>
        unfold DataW.trod at hd
        rw [hu] at hd
        simp only at hd
        split at hd
        · rename_i hl
          obtain ⟨xs, h1, h2⟩ := Option.map_eq_some_iff.1 hd
          cases h2
          have h3 : (List.map (fun f : Field => (f.type, f.offset)) gs.toList).mapM (fun f : TypeId × Nat => DataW.trod enc Try.prog w 0 (fun _ => true) true fuel f.1 ((cs.drop f.2).take (Try.prog.cellsOf f.1))) = some xs := by rw [List.mapM_map]; exact h1
          rw [hst] at h3
          rw [cellsOf_T (α := Ltl)] at hl
          have hl3 : cs.length = 3 := hl
          simp only [List.mapM_cons, List.mapM_nil, Option.bind_eq_bind, Option.pure_def] at h3
          obtain ⟨x1, e1, h3⟩ := Option.bind_eq_some_iff.1 h3
          obtain ⟨y1, h3, hy1⟩ := Option.bind_eq_some_iff.1 h3
          obtain ⟨x2, e2, h3⟩ := Option.bind_eq_some_iff.1 h3
          obtain ⟨y2, h3, hy2⟩ := Option.bind_eq_some_iff.1 h3
          obtain ⟨x3, e3, h3⟩ := Option.bind_eq_some_iff.1 h3
          simp at h3 hy2 hy1
          subst h3 hy2 hy1
          obtain ⟨d1, p1⟩ := x1
          obtain ⟨d2, p2⟩ := x2
          obtain ⟨d3, p3⟩ := x3
          rw [cellsOf_T (α := Int)] at e1 e2
          rw [cellsOf_T (α := List Ltl)] at e3
          obtain ⟨k, hk, bk1⟩ := Opn.op (P := Try.prog) (t := 3) (α := Int) e1
          obtain ⟨n, hn, bk2⟩ := Opn.op (P := Try.prog) (t := 3) (α := Int) e2
          cases fuel with
          | zero => simp [DataW.trod] at e3
          | succ fuel =>
            obtain ⟨kids, hkids, bk3⟩ := slice_op (α := Ltl) (e := 129) (fun h => ih fuel (by omega) h) e3
            obtain ⟨ao, cap, hc, hs⟩ := rd_sl hkids
            have hk' := rd_int hk
            have hn' := rd_int hn
            refine ⟨.mk k n kids, ?_, ?_⟩
            · clear hu hst h1 e1 e2 e3 ih bk1 bk2 bk3
              obtain ⟨c0, c1, c2, rfl⟩ := len3 hl3
              have a0 : [c0] = [.int .i64 k] := hk'
              have a1 : [c1] = [.int .i64 n] := hn'
              have a2 : [c2] = [.slice ao kids.length cap] := hc
              rw [List.cons.inj a0 |>.1, List.cons.inj a1 |>.1, List.cons.inj a2 |>.1]
              exact RdT.of hs
            · have hnl : ∀ l : List Ltl, bkL l = Ltl.nodesL l := by
                intro l
                induction l with
                | nil => rfl
                | cons x r ihl => simp only [bkL, Ltl.nodesL, ihl]; rfl
              have e3' : bk kids = bkL kids + 1 := rfl
              have e4 : bk (Ltl.mk k n kids) = 1 + Ltl.nodesL kids := by show Ltl.nodes _ = _; simp [Ltl.nodes]
              rw [e4, ← hnl]
              simp only [List.map_cons, List.map_nil, Rows.uptoBulk, Rows.uptoBulkAll]
              omega
        · cases hd
    · cases hst
instance iOpnLtl2 : Opn Try.prog 129 Ltl where
  op := fun h => ltl_op _ h
end Go.Proofs.Ytbphcblopoegcaa
/-
  Formulas of all ways as arguments.
-/
set_option linter.unusedVariables false
set_option linter.unusedSimpArgs false
namespace Go.Proofs.Ytbphcblopoegcaa
open Go.RowKit

theorem ctl_op {H : Type} {enc : TypeId × Value → H} {w : World} : ∀ (fuel : Nat) {cs : List Value} {d : DataW H} {ps : List MemPlace}, DataW.trod enc Try.prog w 0 (fun _ => true) true fuel 54 cs = some (d, ps) → ∃ x : Ltl, rd w (Old w) cs x ∧ bk x ≤ Rows.uptoBulk d := by
  intro fuel
  induction fuel using Nat.strongRecOn with
  | _ fuel ih =>
    intro cs d ps hd
    have hst : stFact Try.prog 54 = some [(3, 0), (3, 1), (52, 2)] := by kernel_rfl
    unfold stFact at hst
    split at hst
    · rename_i gs hu
      have hst := Option.some.inj hst
      cases fuel with
      | zero => simp [DataW.trod] at hd
      | succ fuel =>
        unfold DataW.trod at hd
        rw [hu] at hd
        simp only at hd
        split at hd
        · rename_i hl
          obtain ⟨xs, h1, h2⟩ := Option.map_eq_some_iff.1 hd
          cases h2
          have h3 : (List.map (fun f : Field => (f.type, f.offset)) gs.toList).mapM (fun f : TypeId × Nat => DataW.trod enc Try.prog w 0 (fun _ => true) true fuel f.1 ((cs.drop f.2).take (Try.prog.cellsOf f.1))) = some xs := by rw [List.mapM_map]; exact h1
          rw [hst] at h3
          rw [cellsOf_T (α := Ltl)] at hl
          have hl3 : cs.length = 3 := hl
          simp only [List.mapM_cons, List.mapM_nil, Option.bind_eq_bind, Option.pure_def] at h3
          obtain ⟨x1, e1, h3⟩ := Option.bind_eq_some_iff.1 h3
          obtain ⟨y1, h3, hy1⟩ := Option.bind_eq_some_iff.1 h3
          obtain ⟨x2, e2, h3⟩ := Option.bind_eq_some_iff.1 h3
          obtain ⟨y2, h3, hy2⟩ := Option.bind_eq_some_iff.1 h3
          obtain ⟨x3, e3, h3⟩ := Option.bind_eq_some_iff.1 h3
          simp at h3 hy2 hy1
          subst h3 hy2 hy1
          obtain ⟨d1, p1⟩ := x1
          obtain ⟨d2, p2⟩ := x2
          obtain ⟨d3, p3⟩ := x3
          rw [cellsOf_T (α := Int)] at e1 e2
          rw [cellsOf_T (α := List Ltl)] at e3
          obtain ⟨k, hk, bk1⟩ := Opn.op (P := Try.prog) (t := 3) (α := Int) e1
          obtain ⟨n, hn, bk2⟩ := Opn.op (P := Try.prog) (t := 3) (α := Int) e2
          cases fuel with
          | zero => simp [DataW.trod] at e3
          | succ fuel =>
            obtain ⟨kids, hkids, bk3⟩ := slice_op (α := Ltl) (e := 54) (fun h => ih fuel (by omega) h) e3
            obtain ⟨ao, cap, hc, hs⟩ := rd_sl hkids
            have hk' := rd_int hk
            have hn' := rd_int hn
            refine ⟨.mk k n kids, ?_, ?_⟩
            · clear hu hst h1 e1 e2 e3 ih bk1 bk2 bk3
              obtain ⟨c0, c1, c2, rfl⟩ := len3 hl3
              have a0 : [c0] = [.int .i64 k] := hk'
              have a1 : [c1] = [.int .i64 n] := hn'
              have a2 : [c2] = [.slice ao kids.length cap] := hc
              rw [List.cons.inj a0 |>.1, List.cons.inj a1 |>.1, List.cons.inj a2 |>.1]
              exact RdT.of hs
            · have hnl : ∀ l : List Ltl, bkL l = Ltl.nodesL l := by
                intro l
                induction l with
                | nil => rfl
                | cons x r ihl => simp only [bkL, Ltl.nodesL, ihl]; rfl
              have e3' : bk kids = bkL kids + 1 := rfl
              have e4 : bk (Ltl.mk k n kids) = 1 + Ltl.nodesL kids := by show Ltl.nodes _ = _; simp [Ltl.nodes]
              rw [e4, ← hnl]
              simp only [List.map_cons, List.map_nil, Rows.uptoBulk, Rows.uptoBulkAll]
              omega
        · cases hd
    · cases hst
instance iOpnCtl2 : Opn Try.prog 54 Ltl where
  op := fun h => ctl_op _ h
end Go.Proofs.Ytbphcblopoegcaa
/-
  Bulk of lists of numbers.
-/
namespace Go.Proofs.Ytbphcblopoegcaa
open Go.RowKit

theorem bulk_flat {α : Type} [Bk α] (h : ∀ x : α, bk x = 1) : ∀ l : List α, bkL l = l.length
  | [] => rfl
  | x :: r => by simp only [bkL, h, bulk_flat h r, List.length_cons]; omega
theorem bulk_l (l : List Int) : l.length + 1 = bk l := by show _ = bkL l + 1; rw [bulk_flat (fun _ => rfl)]
theorem bulk_b (l : List Bool) : l.length + 1 = bk l := by show _ = bkL l + 1; rw [bulk_flat (fun _ => rfl)]
theorem bulk_n (l : List Nat) : l.length + 1 = bk l := by show _ = bkL l + 1; rw [bulk_flat (fun _ => rfl)]
theorem bulk_g : ∀ g : List (List Int), edges g + g.length ≤ bkL g
  | [] => by simp [edges, bkL]
  | l :: g => by
    have h1 := bulk_g g
    have h3 : bk l = l.length + 1 := (bulk_l l).symm
    simp only [bkL, h3, edges, List.map_cons, List.sum_cons, List.length_cons] at h1 ⊢
    omega
theorem bulk_gg (g : List (List Int)) : edges g + g.length + 1 ≤ bk g := by
  have := bulk_g g
  show _ ≤ bkL g + 1
  omega
end Go.Proofs.Ytbphcblopoegcaa
