import Derived.Laws.StructEq
import Derived.Test.YtadbkppgaekmpaaPtProcOwn10
/-
  Package space: run, Explore: walked.
-/
set_option linter.unusedVariables false
set_option linter.unusedSimpArgs false
namespace Go.Proofs.Ytadbkppgaekmpaa
open Go.RowKit

instance iSp20 : IsT Try.prog 74 Raw := IsT.of (by kernel_rfl) Try.underlying74 rfl
instance iSp21 : IsZ Try.prog 74 (⟨.slice none 0 0⟩ : Raw) 24 := IsZ.of (z := .slice none 0 0) (by kernel_rfl) (fun _ _ => ⟨rfl, rfl⟩)
theorem grown_refl (w : World) (row : Option Nat) : w.grownBy w row := ⟨rfl, rfl, rfl, Nat.le_refl _, fun _ _ _ => rfl⟩
/-- the edges of one more marking -/
theorem Srch.pushN {w w1 w2 : World} {B : Nat} {c : SC} {s : Sr} {nx : List (List LEdge)} {nv' : Value} {xo : Option Addr} {xc : Nat} {es : List LEdge} (h : Srch w B c s nx) (hB : B ≤ w.heap.size) (hx : Sl w (Fb c w) xo xc es) (hxT : RowT (Fb c w) w 2 (.slice xo es.length xc))
    (ho : Own w1 B 74 Non nv' (c.nvs ++ [(⟨.slice xo es.length xc⟩ : Raw)])) (hg : w.grownBy w1 c.nv.ownBlock) (hnb : ∀ g, nv'.ownBlock = some g → c.nv.ownBlock = some g ∨ w.heap.size ≤ g) (hg2 : w1.grownBy w2 (some c.sb))
    (hb : Blk w2 c.sb 163 [c.p1, c.p2, .int .i64 c.tok, .int .i64 c.st, c.mv, nv', .map (some c.mb), c.ov, .int .i64 s.2.2.1, .int .i64 s.2.2.2]) :
    Srch w2 B ⟨c.sb, c.mb, c.mv, nv', c.ov, c.mvs, c.nvs ++ [(⟨.slice xo es.length xc⟩ : Raw)], c.p1, c.p2, c.tok, c.st, c.N, c.xt, c.lo⟩ s (nx ++ [es]) ∧ Chg (busyI c) w w2 ∧
      ∀ b, busy ⟨c.sb, c.mb, c.mv, nv', c.ov, c.mvs, c.nvs ++ [(⟨.slice xo es.length xc⟩ : Raw)], c.p1, c.p2, c.tok, c.st, c.N, c.xt, c.lo⟩ b → busy c b ∨ w.heap.size ≤ b := by
  have hd := h.dis
  have hl := busy_ge h
  have hC : Chg (busyI c) w w2 := ((Chg.refl _ w).grown hg (fun g hg => .inr (.inr (.inr (.inl hg))))).grown hg2 (fun g hg => by cases hg; exact .inl rfl)
  have hby : ∀ b, busy ⟨c.sb, c.mb, c.mv, nv', c.ov, c.mvs, c.nvs ++ [(⟨.slice xo es.length xc⟩ : Raw)], c.p1, c.p2, c.tok, c.st, c.N, c.xt, c.lo⟩ b → busy c b ∨ w.heap.size ≤ b := by
    intro b hb
    rcases hb with h | h | h | h | h | h
    · exact .inl (.inl h)
    · exact .inl (.inr (.inl h))
    · exact .inl (.inr (.inr (.inl h)))
    · exact (hnb b h).imp (fun h => .inr (.inr (.inr (.inl h)))) id
    · exact .inl (.inr (.inr (.inr (.inr (.inl h)))))
    · exact .inl (.inr (.inr (.inr (.inr (.inr h)))))
  have na : ∀ {a : Option Nat}, ap a c.nv.ownBlock → (∀ g, a = some g → g < w.heap.size) → ap a nv'.ownBlock := fun k kl => (k.sym.new hnb kl).sym
  have n0 : ap (some c.sb) nv'.ownBlock := na hd.d03 (fun g e => by cases e; exact (hl _ (.inl rfl)).2)
  have n1 : ap (some c.mb) nv'.ownBlock := na hd.d13 (fun g e => by cases e; exact (hl _ (.inr (.inl rfl))).2)
  have n2 : ap c.mv.ownBlock nv'.ownBlock := na hd.d23 (fun g e => (hl _ (.inr (.inr (.inl e)))).2)
  have n4 : ap c.ov.ownBlock nv'.ownBlock := na hd.d34.sym (fun g e => (hl _ (.inr (.inr (.inr (.inr (.inl e)))))).2)
  have n5 : ap c.xt.ownBlock nv'.ownBlock := na hd.d35.sym (fun g e => (hl _ (.inr (.inr (.inr (.inr (.inr e)))))).2)
  refine ⟨⟨hb, (h.num.kept hg (fun e => hd.d13 _ rfl e.symm)).kept hg2 (fun e => hd.d01 (Option.some.inj e).symm), (h.mo.keptN hg (fun g k e => hd.d23 g k e.symm)).keptN hg2 (fun g k e => hd.d02 g e.symm k), ho.keptN hg2 (fun g k e => n0 g e.symm k), (h.oo.keptN hg (fun g k e => hd.d34 g e.symm k)).keptN hg2 (fun g k e => hd.d04 g e.symm k),
    h.mi.to (bI hC) hby, (h.ni.to (bI hC) hby).push (Fb.to hx (bI hC) hby) (Fb.toT hxT (bI hC) hby), h.ge, h.lob, (fun g k => ⟨(h.xo g k).1, Nat.lt_of_lt_of_le (h.xo g k).2 hC.size⟩),
    ⟨hd.d01, hd.d02, n0, hd.d04, hd.d12, n1, hd.d14, n2, hd.d24, n4.sym, hd.d05, hd.d15, hd.d25, n5.sym, hd.d45⟩, h.ok, h.nd, h.lim⟩, hC, hby⟩
theorem edgesGo_grows {p : LProc} {tok st n : Int} {m : List Int} : ∀ (l : List Int) (s : Sr) (out : List LEdge), s.1.length ≤ (edgesGo p tok st n m l s out).1.1.length
  | [], s, out => Nat.le_refl _
  | k :: r, s, out => by
    rw [edgesGo]
    split
    · exact Nat.le_refl _
    have h : s.1.length ≤ (putE tok st s (fireE p m k).1 (n, k)).1.1.length := by
      rcases putE_grows (tok := tok) (st := st) (s := s) (m := (fireE p m k).1) (fr := (n, k)) with h | h <;> rw [h]
      · exact Nat.le_refl _
      · simp
    split
    · exact h
    · exact Nat.le_trans h (edgesGo_grows r _ _)
theorem edgesE_grows {p : LProc} {tok st : Int} {n : Nat} {s : Sr} : s.1.length ≤ (edgesE p tok st n s).1.1.length := edgesGo_grows _ _ _
set_option maxHeartbeats 2000000 in
theorem run_ok (w0 : World) {so fo : Option Addr} {sc fc : Nat} {ns : List LNode} {fl : List LFlow} (hs : Sl w0 (Old w0) so sc ns) (hf : Sl w0 (Old w0) fo fc fl) (tok st : Int) :
    Rt Try.prog 89 [procV so sc fo fc ns.length fl.length, .int .i64 tok, .int .i64 st].toArray w0 fun v w' => Ext w0 w' ∧ ((runPre (ns, fl) tok st ≠ 0 ∧ v = .tuple ⟨[.pointer none, .int .i64 (runPre (ns, fl) tok st)]⟩) ∨
      (runPre (ns, fl) tok st = 0 ∧ ∃ c, v = .tuple ⟨[.pointer (some ⟨c.sb, 0, none⟩), .int .i64 (runB (ns, fl) tok st).2.2]⟩ ∧ Srch w' w0.heap.size c (runB (ns, fl) tok st).1 (runB (ns, fl) tok st).2.1 ∧ c.lo = w0.heap.size)) := by
  refine Rt.enter3 Try.func89 Try.ntmps89 rfl rfl ?_
  (repeat (first | (apply CW.seq) | (apply CW.region)))
  refine WL.boxB rfl rfl rfl fun w1 hb3 e1 => ?_
  (repeat (first | (apply WL.pure; rfl; rfl; rfl) | (apply WL.nil) | (apply EX.thenN) | (apply CW.seq) | (apply CW.region) | (apply WL.ldA; rfl; rfl; rfl; assumption; rfl)))
  refine WL.call rfl rfl rfl (Of_ok w1 (hs.up e1) (hf.up e1)) ?_
  rintro _ w2 ⟨x, rfl, hox, e2⟩
  have hb3 := hb3.ext e2
  have hE := e1.trans e2
  unfold runPre
  by_cases hz : (stepsE (ns, fl)).2 = 0
  case neg =>
    have hz1 : ((stepsE (ns, fl)).2 != 0) = true := by simpa using hz
    rw [if_pos hz]
    (repeat (first | (apply WL.pure; rfl; rfl; rfl) | (apply WL.nil) | (apply EX.thenN) | (apply CW.seq) | (apply CW.region)))
    rw [hz1]
    (repeat (first | (apply WL.pure; rfl; rfl; rfl) | (apply WL.nil) | (apply EX.thenN) | (apply CW.seq) | (apply CW.region) | (apply CW.condT; rfl) | (apply CW.ret) | (apply EX.thenR)))
    exact EX.ret2 rfl rfl rfl ⟨hE, .inl ⟨hz, rfl⟩⟩
  rw [if_neg (by simp [hz]), hz]
  obtain ⟨hc0, hse, hl60⟩ := stepsE_ok hz
  have hpok := chkPr_ok hc0
  have hf30 := hpok.f
  dsimp only at hf30
  by_cases ha : tok < 1 ∨ tok > 9 ∨ st < 1 ∨ st > 200
  · have hra : runArg tok st = 1 := by unfold runArg; rw [if_pos ha]
    rw [hra]
    have fin : ∀ (Q : Exit → Act → World → Prop), True := fun _ => trivial
    (repeat (first | (apply WL.pure; rfl; rfl; rfl) | (apply WL.nil) | (apply EX.thenN) | (apply CW.seq) | (apply CW.region) | (apply CW.condF; rfl) | (apply CW.skip)))
    by_cases h1 : tok < 1
    · rw [decide_eq_true h1]
      (repeat (first | (apply WL.pure; rfl; rfl; rfl) | (apply WL.nil) | (apply EX.thenN) | (apply CW.seq) | (apply CW.region) | (apply WL.pass; rfl; rfl) | (apply CW.condT; rfl) | (apply CW.ret) | (apply EX.thenR)))
      exact EX.ret2 rfl rfl rfl ⟨hE, .inl ⟨by decide, rfl⟩⟩
    rw [decide_eq_false h1]
    (repeat (apply WL.pure; rfl; rfl; rfl))
    by_cases h2 : tok > 9
    · rw [decide_eq_true h2]
      (repeat (first | (apply WL.pure; rfl; rfl; rfl) | (apply WL.nil) | (apply EX.thenN) | (apply CW.seq) | (apply CW.region) | (apply WL.pass; rfl; rfl) | (apply CW.condT; rfl) | (apply CW.ret) | (apply EX.thenR)))
      exact EX.ret2 rfl rfl rfl ⟨hE, .inl ⟨by decide, rfl⟩⟩
    rw [decide_eq_false h2]
    (repeat (apply WL.pure; rfl; rfl; rfl))
    by_cases h3 : st < 1
    · rw [decide_eq_true h3]
      (repeat (first | (apply WL.pure; rfl; rfl; rfl) | (apply WL.nil) | (apply EX.thenN) | (apply CW.seq) | (apply CW.region) | (apply WL.pass; rfl; rfl) | (apply CW.condT; rfl) | (apply CW.ret) | (apply EX.thenR)))
      exact EX.ret2 rfl rfl rfl ⟨hE, .inl ⟨by decide, rfl⟩⟩
    rw [decide_eq_false h3]
    (repeat (first | (apply WL.pure; rfl; rfl; rfl) | (apply WL.nil) | (apply EX.thenN)))
    rw [decide_eq_true (show st > 200 by omega)]
    (repeat (first | (apply WL.pure; rfl; rfl; rfl) | (apply WL.nil) | (apply EX.thenN) | (apply CW.seq) | (apply CW.region) | (apply CW.condT; rfl) | (apply CW.ret) | (apply EX.thenR)))
    exact EX.ret2 rfl rfl rfl ⟨hE, .inl ⟨by decide, rfl⟩⟩
  have hra : runArg tok st = 0 := by unfold runArg; rw [if_neg ha]
  rw [hra]
  (repeat (first | (apply WL.pure; rfl; rfl; rfl) | (apply WL.nil) | (apply EX.thenN) | (apply CW.seq) | (apply CW.region) | (apply CW.condF; rfl) | (apply CW.skip)))
  rw [decide_eq_false (show ¬ tok < 1 by omega)]
  (repeat (apply WL.pure; rfl; rfl; rfl))
  rw [decide_eq_false (show ¬ tok > 9 by omega)]
  (repeat (apply WL.pure; rfl; rfl; rfl))
  rw [decide_eq_false (show ¬ st < 1 by omega)]
  (repeat (first | (apply WL.pure; rfl; rfl; rfl) | (apply WL.nil) | (apply EX.thenN)))
  rw [decide_eq_false (show ¬ st > 200 by omega)]
  (repeat (first | (apply WL.pure; rfl; rfl; rfl) | (apply EX.thenN) | (apply CW.seq) | (apply CW.region) | (apply WL.ldA; rfl; rfl; rfl; assumption; rfl) | (apply CW.condF; rfl) | (apply CW.skip)))
  refine WL.mkMap (k := 252) rfl rfl (fun hnum => ?_)
  have e3 : Ext w2 (w2.alloc (.map #[] 0)) := Ext.alloc w2 _
  generalize w2.alloc (.map #[] 0) = w3 at *
  have hb3 := hb3.ext e3
  have hE := hE.trans e3
  refine WL.build rfl rfl rfl rfl ?_
  refine WL.boxB rfl rfl rfl fun w4 hblk e4 => ?_
  have hlm := hnum.lt
  have hz2 := e1.size
  have hz3 := e2.size
  have hz4 := e3.size
  have hb3 := hb3.ext e4
  have hE4 := hE.trans e4
  have hS0 : Srch w4 w0.heap.size ⟨w3.heap.size, w2.heap.size, .slice none 0 0, .slice none 0 0, .slice none 0 0, [], [], .slice so ns.length sc, .slice fo fl.length fc, tok, st, fl.length, .slice none 0 0, w0.heap.size⟩ ([], [], (0, 0)) [] := by
    have no : ∀ {a : Option Nat}, ap a none := fun g _ h => by cases h
    have no2 : ∀ {a : Option Nat}, ap none a := fun g h _ => by cases h
    refine ⟨hblk, hnum.ext e4, Own.nil, Own.nil, Own.nil, ⟨rfl, fun i h _ => absurd h (by simp), fun i h => absurd h (by simp)⟩, ⟨rfl, fun i h _ => absurd h (by simp), fun i h => absurd h (by simp)⟩, ⟨by dsimp only; omega, by dsimp only; omega⟩, Nat.le_refl _, (fun g h => by cases h), ⟨by dsimp only; omega, no, no, no, no, no, no, no2, no2, no2, no, no, no2, no2, no2⟩, (fun m h => by cases h), List.Pairwise.nil, ⟨by dsimp only; simp; omega, by dsimp only; omega, by dsimp only; omega, rfl, by dsimp only; omega⟩⟩
  (repeat (first | (apply WL.pure; rfl; rfl; rfl) | (apply WL.nil) | (apply EX.thenN) | (apply CW.seq) | (apply CW.region) | (apply WL.ldA; rfl; rfl; rfl; assumption; rfl)))
  refine WL.call rfl rfl rfl (Begin_ok w4 (hs.up hE4) (hf.up hE4)) ?_
  rintro _ w5 ⟨x, rfl, hox, e5⟩
  rw [if_pos hz] at hox
  have hS5 := hS0.ext e5
  have hE5 := hE4.trans e5
  have hbm := beginL_ok (p := (ns, fl))
  have hl4 := fun b h => (busy_ge hS0 b h).2
  have hxT := hox.rowT (F := Fb ⟨w3.heap.size, w2.heap.size, .slice none 0 0, .slice none 0 0, .slice none 0 0, [], [], .slice so ns.length sc, .slice fo fl.length fc, tok, st, fl.length, .slice none 0 0, w0.heap.size⟩ w5) (fun g hg => ⟨by have := (hox.lt g hg).1; have := hE4.size; dsimp only; omega, (hox.lt g hg).2.1, fun h => by have := hl4 g h; have := (hox.lt g hg).1; omega⟩)
  obtain ⟨xo, xc, rfl, hxs⟩ := hox.slF (F' := Fb ⟨w3.heap.size, w2.heap.size, .slice none 0 0, .slice none 0 0, .slice none 0 0, [], [], .slice so ns.length sc, .slice fo fl.length fc, tok, st, fl.length, .slice none 0 0, w0.heap.size⟩ w5) (fun _ h => h.elim) (fun g hg => ⟨by have := (hox.lt g hg).1; have := hE4.size; dsimp only; omega, (hox.lt g hg).2.1, fun h => by have := hl4 g h; have := (hox.lt g hg).1; omega⟩)
  unfold runB
  generalize beginL (ns, fl) = m0 at *
  (repeat (first | (apply WL.pure; rfl; rfl; rfl) | (apply WL.nil) | (apply EX.thenN) | (apply CW.seq) | (apply CW.region)))
  refine WL.build rfl rfl rfl rfl ?_
  refine WL.call rfl rfl rfl (state_ok w5 hS5 hE5.size hxs hxT hbm.1 (mark_tok hbm) (-1, -1)) ?_
  rintro _ w6 ⟨c, rfl, hS6, hsc, hC6, hby6⟩
  dsimp only at hS6 hsc
  have hE6 : Ext w0 w6 := (bI hC6).ext hE5 (fun b h => (busy_ge hS5 b h).1)
  by_cases hp : (putE tok st ([], [], (0, 0)) m0 (-1, -1)).2.2 = 0
  case neg =>
    have hz1 : ((putE tok st ([], [], (0, 0)) m0 (-1, -1)).2.2 != 0) = true := by simpa using hp
    rw [if_pos hp]
    have hlo6 := hsc.2.2.2.2.2.2.2
    obtain ⟨g1, _⟩ := hsc
    dsimp only at g1 hlo6
    (repeat (first | (apply WL.pure; rfl; rfl; rfl) | (apply WL.nil) | (apply EX.thenN) | (apply CW.seq) | (apply CW.region)))
    rw [hz1]
    (repeat (first | (apply WL.pure; rfl; rfl; rfl) | (apply WL.nil) | (apply EX.thenN) | (apply CW.seq) | (apply CW.region) | (apply CW.condT; rfl) | (apply CW.ret) | (apply EX.thenR)))
    exact EX.ret2 rfl rfl rfl ⟨hE6, .inr ⟨rfl, c, by rw [g1], hS6, hlo6⟩⟩
  rw [if_neg (by simp [hp]), hp]
  generalize (putE tok st ([], [], (0, 0)) m0 (-1, -1)).1 = s0 at *
  clear hS0 hS5 hxs hox hl4 hblk hnum hby6 hC6
  (repeat (first | (apply WL.pure; rfl; rfl; rfl) | (apply WL.nil) | (apply EX.thenN) | (apply CW.seq) | (apply CW.region) | (apply CW.block) | (apply CW.condF; rfl) | (apply CW.skip)))
  refine CW.loop (S := Nat × SC × Sr × List (List LEdge)) (fun t => [(10, .pointer (some ⟨w3.heap.size, 0, none⟩)), (15, .int .i64 t.1)])
    (fun t w => t.1 ≤ t.2.2.1.1.length ∧ runGo (ns, fl) tok st (201 - t.1) t.1 t.2.2.1 t.2.2.2 = runGo (ns, fl) tok st 201 0 s0 [] ∧ Srch w w0.heap.size t.2.1 t.2.2.1 t.2.2.2 ∧ t.2.1.xt = .slice none 0 0 ∧ t.2.2.2.length = t.1 ∧ t.2.1.sb = w3.heap.size ∧ t.2.1.p1 = .slice so ns.length sc ∧ t.2.1.p2 = .slice fo fl.length fc ∧ t.2.1.tok = tok ∧ t.2.1.st = st ∧ t.2.1.N = fl.length ∧ t.2.1.lo = w0.heap.size ∧ Ext w0 w)
    (fun t => 201 - t.1) (0, c, s0, []) (by repeat (first | exact trivial | refine ⟨rfl, ?_⟩)) ⟨Nat.zero_le _, rfl, hS6, hsc.2.2.2.2.2.2.1, rfl, hsc.1, hsc.2.1, hsc.2.2.1, hsc.2.2.2.1, hsc.2.2.2.2.1, hsc.2.2.2.2.2.1, hsc.2.2.2.2.2.2.2, hE6⟩ ?_
  clear hS6 hsc
  rintro ⟨n, c, s, nx⟩ w7 ⟨hn, hT, hS, hxt, hnl, q1, q2, q3, q4, q5, q6, q7, hE7⟩
  dsimp only at hn hT hS hxt hnl q1 q2 q3 q4 q5 q6 q7 hE7 ⊢
  have hlim := hS.lim
  have hml := hS.mi.len
  obtain ⟨ao, ac, hmv⟩ := hS.mo.val
  have hblk := hS.blk
  rw [hmv, q1, hml] at hblk
  have hn200 : s.1.length ≤ 200 := by have := hlim.1; have := hlim.2.2.1; omega
  obtain ⟨f, hf201⟩ : ∃ f, 201 - n = f + 1 := ⟨200 - n, by omega⟩
  rw [hf201, runGo] at hT
  (repeat (first | (apply WL.pure; rfl; rfl; rfl) | (apply WL.nil) | (apply EX.thenN) | (apply CW.seq) | (apply CW.region) | (apply WL.lenS; rfl; rfl; rfl) | (apply WL.fa; rfl; rfl; rfl) | (apply WL.nck; rfl; rfl; rfl) | (apply WL.ld; rfl; rfl; rfl; assumption; rfl)))
  refine CW.cond rfl (fun h => ?_) (fun h => ?_)
  · have hn' : n < s.1.length := by simp at h; omega
    rw [if_pos hn'] at hT
    (repeat (first | (apply WL.pure; rfl; rfl; rfl) | (apply EX.thenN) | (apply CW.seq) | (apply CW.region) | (apply CW.block) | (apply CW.skip)))
    rw [← q1]
    refine WL.call rfl rfl rfl (edges_ok w7 hS hE7.size (hs.at hE7) (hf.at hE7) q2 q3 q6 hz hxt hn') ?_
    rintro _ w8 ⟨c', x, rfl, hS8, hsx, hC8, hby8, hxo8, hxx⟩
    rw [q4, q5] at hS8 hxo8 ⊢
    obtain ⟨g1, g2, g3, g4, g5, g6, g7⟩ := hsx
    have hE8 : Ext w0 w8 := hC8.ext hE7 (fun b h => (busy_ge hS b h).1)
    by_cases he : (edgesE (ns, fl) tok st n s).2.2 = 0
    case neg =>
      have hz1 : ((edgesE (ns, fl) tok st n s).2.2 != 0) = true := by simpa using he
      rw [if_pos he] at hT
      rw [← hT]
      (repeat (first | (apply WL.pure; rfl; rfl; rfl) | (apply WL.nil) | (apply EX.thenN) | (apply CW.seq) | (apply CW.region)))
      rw [hz1]
      (repeat (first | (apply WL.pure; rfl; rfl; rfl) | (apply WL.nil) | (apply EX.thenN) | (apply CW.seq) | (apply CW.region) | (apply CW.condT; rfl) | (apply CW.ret) | (apply EX.thenR) | (apply EX.inR)))
      exact EX.ret2 rfl rfl rfl ⟨hE8, .inr ⟨rfl, c', by rw [g1], hS8, by rw [g7, q7]⟩⟩
    rw [if_neg (by simp [he])] at hT
    rw [he]
    have hgrow := edgesE_grows (p := (ns, fl)) (tok := tok) (st := st) (n := n) (s := s)
    generalize edgesE (ns, fl) tok st n s = ee at *
    obtain ⟨s', es, er⟩ := ee
    dsimp only at hT hS8 hxo8 he hgrow ⊢
    -- the list of edges is nobody's now
    have hd8 := hS8.dis
    obtain ⟨hS9, hb9⟩ := hS8.grow (x' := .slice none 0 0) (grown_refl w8 _) (fun g h => by cases h) (fun g h => by cases h)
    have hxT := hxo8.rowT (F := Fb ⟨c'.sb, c'.mb, c'.mv, c'.nv, c'.ov, c'.mvs, c'.nvs, c'.p1, c'.p2, c'.tok, c'.st, c'.N, .slice none 0 0, c'.lo⟩ w8) (fun g hg => ⟨by have := (hxo8.lt g hg).1; have := hE7.size; dsimp only; omega, (hxo8.lt g hg).2.1, fun h => by
      have hg' := hxx g hg
      rcases h with h | h | h | h | h | h
      · exact hd8.d05 g (by rw [h]) hg'
      · exact hd8.d15 g (by rw [h]) hg'
      · exact hd8.d25 g h hg'
      · exact hd8.d35 g h hg'
      · exact hd8.d45 g h hg'
      · cases h⟩)
    obtain ⟨xo, xc, rfl, hxs⟩ := hxo8.slF (F' := Fb ⟨c'.sb, c'.mb, c'.mv, c'.nv, c'.ov, c'.mvs, c'.nvs, c'.p1, c'.p2, c'.tok, c'.st, c'.N, .slice none 0 0, c'.lo⟩ w8) (fun _ h => h.elim) (fun g hg => ⟨by have := (hxo8.lt g hg).1; have := hE7.size; dsimp only; omega, (hxo8.lt g hg).2.1, fun h => by
      have hg' := hxx g hg
      rcases h with h | h | h | h | h | h
      · exact hd8.d05 g (by rw [h]) hg'
      · exact hd8.d15 g (by rw [h]) hg'
      · exact hd8.d25 g h hg'
      · exact hd8.d35 g h hg'
      · exact hd8.d45 g h hg'
      · cases h⟩)
    have hS9n := hS9.no
    have hblk9 := hS9.blk
    have hnl9 := hS9.ni.len
    dsimp only at hS9n hblk9 hnl9
    obtain ⟨no, nc, hnv⟩ := hS9n.val
    rw [hnv, g1] at hblk9
    (repeat (first | (apply WL.pure; rfl; rfl; rfl) | (apply WL.nil) | (apply EX.thenN) | (apply CW.seq) | (apply CW.region) | (apply WL.fa; rfl; rfl; rfl) | (apply WL.nck; rfl; rfl; rfl) | (apply WL.ld; rfl; rfl; rfl; assumption; rfl) | (apply CW.condF; rfl) | (apply CW.skip)))
    refine WL.app1 (α := Raw) (F := Non) (bytes := 24) (yv := (⟨.slice xo es.length xc⟩ : Raw)) rfl rfl (fun _ => rfl) rfl rfl (fun _ => rfl) (hnv ▸ hS9n) (Rd.mkRaw _ _ _ rfl) hE8.size (fun _ h => h.elim) (by decide) (by unfold maxLen; omega) (by omega) (fun nv' w9 p9 ho9 hg9 hnb9 => ?_)
    obtain ⟨no', nc', rfl⟩ := ho9.val
    have hblk10 := hblk9.kept hg9 (fun e => hS9.dis.d03 c.sb (by dsimp only; rw [g1]) (by dsimp only; rw [hnv]; exact e.symm))
    (repeat (first | (apply WL.fa; rfl; rfl; rfl) | (apply WL.nck; rfl; rfl; rfl)))
    refine WL.st rfl rfl rfl hblk10 rfl rfl (ones_of rfl) (fun w10 hblk10 hg10 => ?_)
    obtain ⟨hS10, hC10, hb10⟩ := hS9.pushN hE8.size hxs hxT ho9 (by dsimp only; rw [hnv]; exact hg9) (by dsimp only; rw [hnv]; exact hnb9) (by dsimp only; rw [g1]; exact hg10) (by dsimp only; rw [g1]; exact hblk10)
    have hE10 : Ext w0 w10 := (bI hC10).ext hE8 (fun b h => (busy_ge hS9 b h).1)
    (repeat (first | (apply WL.add; rfl; rfl; rfl; rfl; omega; omega) | (apply WL.pure; rfl; rfl; rfl) | (apply WL.nil) | (apply EX.thenN) | (apply CW.region) | (apply EX.inN)))
    refine EX.back (n + 1, _, s', nx ++ [es]) (by repeat (first | exact trivial | refine ⟨rfl, ?_⟩)) ⟨?_, ?_, hS10, rfl, by simp [hnl], by dsimp only; rw [g1, q1], by dsimp only; rw [g2, q2], by dsimp only; rw [g3, q3], by dsimp only; rw [g4, q4], by dsimp only; rw [g5, q5], by dsimp only; rw [g6, q6], by dsimp only; rw [g7, q7], hE10⟩ (by dsimp only; omega)
    · dsimp only; omega
    · rw [show 201 - (n + 1) = f by omega]; exact hT
  · obtain rfl : n = s.1.length := by simp at h; omega
    rw [if_neg (Nat.lt_irrefl _)] at hT
    rw [← hT]
    (repeat (first | (apply WL.pure; rfl; rfl; rfl) | (apply WL.nil) | (apply EX.thenN) | (apply CW.seq) | (apply CW.region) | (apply CW.exit) | (apply EX.thenX) | (apply EX.inX) | (apply CW.ret)))
    exact EX.ret2 rfl rfl rfl ⟨hE7, .inr ⟨rfl, c, by rw [q1], hS, q7⟩⟩
/-- what a search hands out: a list of lists in new memory -/
def GF (lo hi : Nat) (x y : Value) : Nat → Prop := fun b => lo ≤ b ∧ b < hi ∧ x.ownBlock ≠ some b ∧ y.ownBlock ≠ some b
structure LOut {α : Type} [Rep α] (w : World) (lo hi : Nat) (x y : Value) (t : TypeId) (v : Value) (vs : List Raw) (xs : List (List α)) : Prop where
  own : Own w lo t Non v vs
  top : ∀ g, v.ownBlock = some g → g < hi
  len : vs.length = xs.length
  el : ∀ i (h : i < vs.length) (h' : i < xs.length), ∃ ao cap, vs[i].v = .slice ao xs[i].length cap ∧ Sl w (GF lo hi x y) ao cap xs[i]
  ty : ∀ i (h : i < vs.length), RowT (GF lo hi x y) w (sz α) vs[i].v
section
variable {α : Type} [Rep α] {w w' : World} {lo hi : Nat} {x y v : Value} {t : TypeId} {vs : List Raw} {xs : List (List α)}
theorem LOut.to (h : LOut w lo hi x y t v vs xs) (hb : ∀ b, lo ≤ b → b < hi → w'.heap[b]? = w.heap[b]?) : LOut w' lo hi x y t v vs xs :=
  ⟨h.own.keep (fun g hg => hb g (h.own.lt g hg).1 (h.top g hg)) (fun _ h => h.elim), h.top, h.len, fun i h1 h2 => by
    obtain ⟨ao, cap, e, hs⟩ := h.el i h1 h2
    exact ⟨ao, cap, e, hs.mono (fun b h => hb b h.1 h.2.1) fun _ h => h⟩, fun i h1 => (h.ty i h1).to fun b h _ => ⟨h, hb b h.1 h.2.1⟩⟩
theorem LOut.low (h : LOut w lo hi x y t v vs xs) {lo' : Nat} (hl : lo' ≤ lo) : LOut w lo' hi x y t v vs xs :=
  ⟨h.own.low hl, h.top, h.len, fun i h1 h2 => by
    obtain ⟨ao, cap, e, hs⟩ := h.el i h1 h2
    exact ⟨ao, cap, e, hs.mono (fun _ _ => rfl) fun b h => ⟨Nat.le_trans hl h.1, h.2⟩⟩, fun i h1 => (h.ty i h1).to fun b h _ => ⟨⟨Nat.le_trans hl h.1, h.2⟩, rfl⟩⟩
theorem LOut.nil : LOut w lo hi x y t (.slice none 0 0) [] ([] : List (List α)) := ⟨Own.nil, (fun g h => by cases h), rfl, fun i h _ => absurd h (by simp), fun i h => absurd h (by simp)⟩
theorem LOut.rd (h : LOut w lo hi x y t v vs xs) {F : Nat → Prop} (hF : ∀ b, lo ≤ b → b < hi → F b) : Rd w F v xs := by
  obtain ⟨ao, cap, e, hs⟩ := h.own.slF (F' := F) (fun _ h => h.elim) (fun g hg => hF g (h.own.lt g hg).1 (h.top g hg))
  have hsl : Sl w F ao cap xs := by
    refine ⟨by rw [← h.len]; exact hs.le, hs.mx, hs.nil, fun i hi => ?_⟩
    have hi' : i < vs.length := by rw [h.len]; exact hi
    obtain ⟨b, off, e1, hF', es, hc, hr⟩ := hs.el i hi'
    obtain ⟨rfl, h1⟩ := hr
    obtain ⟨io, ic, e2, hs2⟩ := h.el i hi' hi
    exact ⟨b, off, e1, hF', [vs[i].v], hc, io, ic, by rw [e2], hs2.mono (fun _ _ => rfl) (fun b hb => hF b hb.1 hb.2.1)⟩
  rw [e, h.len]
  exact hsl.rd
end
theorem Explore_own (w0 : World) {so fo : Option Addr} {sc fc : Nat} {ns : List LNode} {fl : List LFlow} (hs : Sl w0 (Old w0) so sc ns) (hf : Sl w0 (Old w0) fo fc fl) (tok st : Int) :
    Rt Try.prog 34 [procV so sc fo fc ns.length fl.length, .int .i64 tok, .int .i64 st].toArray w0 fun v w' => ∃ x y mvs nvs, v = .tuple ⟨[.agg [x, y].toArray, .int .i64 (exploreE (ns, fl) tok st).2]⟩ ∧ LOut w' w0.heap.size w'.heap.size x y 22 x mvs (exploreE (ns, fl) tok st).1.1 ∧ LOut w' w0.heap.size w'.heap.size x y 74 y nvs (exploreE (ns, fl) tok st).1.2 ∧ Ext w0 w' := by
  refine Rt.enter3 Try.func34 Try.ntmps34 rfl rfl ?_
  (repeat (first | (apply CW.seq) | (apply CW.region)))
  refine WL.boxB rfl rfl rfl fun w1 hb3 e1 => ?_
  skip
  refine WL.alloc rfl rfl (fun w2 hb6 e2 => ?_)
  have hb3 := hb3.ext e2
  have hE := e1.trans e2
  have hl6 := hb6.lt
  (repeat (first | (apply WL.pure; rfl; rfl; rfl) | (apply WL.nil) | (apply EX.thenN) | (apply CW.seq) | (apply CW.region) | (apply WL.ldA; rfl; rfl; rfl; assumption; rfl)))
  refine WL.call rfl rfl rfl (run_ok w2 (hs.up hE) (hf.up hE) tok st) ?_
  rintro _ w3 ⟨e3, hr⟩
  have hb6 := hb6.ext e3
  have hE3 := hE.trans e3
  unfold exploreE
  rcases hr with ⟨hp, rfl⟩ | ⟨hp, c, rfl, hS, hlo⟩
  · rw [if_pos hp]
    have hz1 : (runPre (ns, fl) tok st != 0) = true := by simpa using hp
    (repeat (first | (apply WL.pure; rfl; rfl; rfl) | (apply WL.nil) | (apply EX.thenN) | (apply CW.seq) | (apply CW.region)))
    rw [hz1]
    (repeat (first | (apply CW.seq) | (apply CW.region) | (apply CW.condT; rfl)))
    refine WL.build (parts := []) rfl rfl rfl rfl ?_
    (repeat (apply WL.pure; rfl; rfl; rfl))
    refine WL.st rfl rfl rfl hb6 rfl rfl (ones_of rfl) (fun w4 hb6 hg4 => ?_)
    (repeat (first | (apply WL.pure; rfl; rfl; rfl) | (apply WL.nil) | (apply EX.thenN) | (apply CW.ret) | (apply EX.thenR)))
    exact EX.retC2 rfl rfl rfl hb6 rfl ⟨_, _, [], [], rfl, LOut.nil, LOut.nil, hE3.grown hg4 hE3.size (fun g hg => by cases hg; exact e1.size)⟩
  rw [if_neg (by simp [hp])]
  by_cases he : (runB (ns, fl) tok st).2.2 = 0
  case neg =>
    rw [if_pos he]
    have hz1 : ((runB (ns, fl) tok st).2.2 != 0) = true := by simpa using he
    (repeat (first | (apply WL.pure; rfl; rfl; rfl) | (apply WL.nil) | (apply EX.thenN) | (apply CW.seq) | (apply CW.region)))
    rw [hz1]
    (repeat (first | (apply CW.seq) | (apply CW.region) | (apply CW.condT; rfl)))
    refine WL.build (parts := []) rfl rfl rfl rfl ?_
    (repeat (apply WL.pure; rfl; rfl; rfl))
    refine WL.st rfl rfl rfl hb6 rfl rfl (ones_of rfl) (fun w4 hb6 hg4 => ?_)
    (repeat (first | (apply WL.pure; rfl; rfl; rfl) | (apply WL.nil) | (apply EX.thenN) | (apply CW.ret) | (apply EX.thenR)))
    exact EX.retC2 rfl rfl rfl hb6 rfl ⟨_, _, [], [], rfl, LOut.nil, LOut.nil, hE3.grown hg4 hE3.size (fun g hg => by cases hg; exact e1.size)⟩
  rw [if_neg (by simp [he]), he]
  have hblk := hS.blk
  have hne : c.sb ≠ w1.heap.size := by have := hS.ge.1; omega
  obtain ⟨ao, ac, hmv⟩ := hS.mo.val
  obtain ⟨no, nc, hnv⟩ := hS.no.val
  rw [hmv, hnv] at hblk
  (repeat (first | (apply WL.pure; rfl; rfl; rfl) | (apply WL.nil) | (apply EX.thenN) | (apply CW.seq) | (apply CW.region) | (apply WL.fa; rfl; rfl; rfl) | (apply WL.nck; rfl; rfl; rfl) | (apply WL.ldA; rfl; rfl; rfl; assumption; rfl) | (apply CW.condF; rfl) | (apply CW.skip)))
  refine WL.st rfl rfl rfl hb6 rfl rfl (ones_of rfl) (fun w4 hb6 hg4 => ?_)
  have rdl : ∀ {α : Type} [Rep α] {t : TypeId} {v : Value} {vs : List Raw} {xs : List (List α)}, Own w3 w2.heap.size t Non v vs → Inn w3 c vs xs → LOut w4 w0.heap.size w4.heap.size c.mv c.nv t v vs xs := by
    intro α _ t v vs xs ho hi
    have hG : ∀ b, Fb c w3 b → GF w2.heap.size w3.heap.size c.mv c.nv b := fun b hb => ⟨by rw [← hlo]; exact hb.1, hb.2.1, fun e => hb.2.2 (.inr (.inr (.inl e))), fun e => hb.2.2 (.inr (.inr (.inr (.inl e))))⟩
    have h3 : LOut w3 w2.heap.size w3.heap.size c.mv c.nv t v vs xs := ⟨ho, fun g hg => (ho.lt g hg).2.1, hi.len, fun i h1 h2 => by
      obtain ⟨ao, cap, e, hs⟩ := hi.el i h1 h2
      exact ⟨ao, cap, e, hs.mono (fun _ _ => rfl) hG⟩, fun i h1 => (hi.ty i h1).to fun b h _ => ⟨hG b h, rfl⟩⟩
    have h4 := (h3.to (w' := w4) fun b h1 h2 => hg4.block b h2 (fun e => by have := Option.some.inj e; omega)).low hE.size
    exact ⟨h4.own, fun g hg => Nat.lt_of_lt_of_le (h4.top g hg) hg4.size, h4.len, fun i k1 k2 => by
      obtain ⟨ao, cap, e, hs⟩ := h4.el i k1 k2
      exact ⟨ao, cap, e, hs.mono (fun _ _ => rfl) fun b h => ⟨h.1, Nat.lt_of_lt_of_le h.2.1 hg4.size, h.2.2⟩⟩, fun i k1 => (h4.ty i k1).to fun b h _ => ⟨⟨h.1, Nat.lt_of_lt_of_le h.2.1 hg4.size, h.2.2⟩, rfl⟩⟩
  (repeat (first | (apply WL.pure; rfl; rfl; rfl) | (apply WL.nil) | (apply EX.thenN) | (apply CW.ret)))
  exact EX.retC2 rfl rfl rfl hb6 rfl ⟨_, _, c.mvs, c.nvs, rfl, by rw [← hmv, ← hnv]; exact rdl hS.mo hS.mi, by rw [← hmv, ← hnv]; exact rdl hS.no hS.ni, hE3.grown hg4 hE3.size (fun g hg => by cases hg; exact e1.size)⟩
theorem Explore_ok (w0 : World) {so fo : Option Addr} {sc fc : Nat} {ns : List LNode} {fl : List LFlow} (hs : Sl w0 (Old w0) so sc ns) (hf : Sl w0 (Old w0) fo fc fl) (tok st : Int) :
    Rt Try.prog 34 [procV so sc fo fc ns.length fl.length, .int .i64 tok, .int .i64 st].toArray w0 fun v w' => ∃ x y, v = .tuple ⟨[.agg [x, y].toArray, .int .i64 (exploreE (ns, fl) tok st).2]⟩ ∧ Rd w' (Old w') x (exploreE (ns, fl) tok st).1.1 ∧ Rd w' (Old w') y (exploreE (ns, fl) tok st).1.2 ∧ Ext w0 w' :=
  Rt.mono (Explore_own w0 hs hf tok st) fun v w' ⟨x, y, _, _, e, h1, h2, hE⟩ => ⟨x, y, e, h1.rd (fun b _ h => h), h2.rd (fun b _ h => h), hE⟩
end Go.Proofs.Ytadbkppgaekmpaa
/-
  An edge compared with an edge; slices.Equal, slices.EqualFunc at edges; watchref.SameSpace.
-/
set_option linter.unusedVariables false
set_option linter.unusedSimpArgs false
namespace Go.Proofs.Ytadbkppgaekmpaa
open Go.RowKit

instance iSpL1 : IsF Try.prog 93 := ⟨_, Try.func93, rfl, by decide⟩
instance iSpL2 : IsF Try.prog 92 := ⟨_, Try.func92, rfl, by decide⟩
instance iSpL3 : IsF Try.prog 40 := ⟨_, Try.func40, rfl, by decide⟩
instance iSpL4 : IsFd Try.prog 67 0 0 := IsFd.of (by kernel_rfl)
instance iSpL5 : IsFd Try.prog 67 1 1 := IsFd.of (by kernel_rfl)
def edV (s : LEdge) : Value := .agg [.int .i64 s.1, .int .i64 s.2].toArray
theorem Rd.edge {w : World} {F : Nat → Prop} {v : Value} {x : LEdge} (h : Rd w F v x) : v = edV x := by
  obtain ⟨c1, c2, rfl, h1, h2⟩ := h.pr
  rw [rd_int h1, rd_int h2]; rfl
theorem equalIn_edge0 (x y : LEdge) (w : World) : (Op.equalIn 10000 77 (edV x) (edV y)).run Try.prog w = .ok (x == y) w := by
  have u3 := Try.underlying3
  have a3 := Try.isAgg3
  have z3 := Try.sizeOf3
  have hS : Try.prog.underlying 77 = some (.struct (Try.prog.fieldsOf 77)) := by kernel_rfl
  have hp : Try.prog.stoodInHeld 77 = false := by kernel_rfl
  obtain ⟨a, b⟩ := x
  obtain ⟨a', b'⟩ := y
  simp only [edV]
  rw [show (10000 : Nat) = 9999 + 1 from rfl, run_equalIn_agg w 9999 77 _ _ hS hp]
  simp only [Program.fieldsOf, Try.underlying77]
  go_simp
  by_cases h1 : a = a' <;> by_cases h2 : b = b' <;> simp [h1, h2]
theorem equalIn_edge (x y : LEdge) (w : World) : (binOp .eql 77 (edV x) (edV y)).run Try.prog w = .ok (.bool (x == y)) w := by
  have h := equalIn_edge0 x y w
  unfold edV at h ⊢
  rw [run_eql_struct, h]; rfl
theorem nequalIn_edge (x y : LEdge) (w : World) : (binOp .neq 77 (edV x) (edV y)).run Try.prog w = .ok (.bool (x != y)) w := by
  have h := equalIn_edge0 x y w
  unfold edV at h ⊢
  rw [run_neq_struct, h]; rfl
theorem run_eqEd (x y : LEdge) (p q : Operand) (w : World) : ((do eqGuard .eql 77 p q (edV x) (edV y); binOp .eql 77 (edV x) (edV y) : Sem Value)).run Try.prog w = .ok (.bool (x == y)) w := by
  have hm : Try.prog.eqGuardType Try.prog.depth 77 = false := by kernel_rfl
  have h := equalIn_edge x y w
  rw [Sem.run_bind]
  have hg : (eqGuard .eql 77 p q (edV x) (edV y)).run Try.prog w = .ok () w := run_eqGuard_agg w .eql 77 p q _ _ hm
  rw [hg, Result.andThen_ok, h]
theorem run_neEd (x y : LEdge) (p q : Operand) (w : World) : ((do eqGuard .neq 77 p q (edV x) (edV y); binOp .neq 77 (edV x) (edV y) : Sem Value)).run Try.prog w = .ok (.bool (x != y)) w := by
  have hm : Try.prog.eqGuardType Try.prog.depth 77 = false := by kernel_rfl
  rw [Sem.run_bind]
  have hg : (eqGuard .neq 77 p q (edV x) (edV y)).run Try.prog w = .ok () w := run_eqGuard_agg w .neq 77 p q _ _ hm
  rw [hg, Result.andThen_ok, nequalIn_edge]
section
variable {Q : Exit → Act → World → Prop} {n : Nat} {σ : Sg} {w : World} {L rest : List Oper} {d : Nat} {ty : TypeId} {pos : String} {af : Array Edge} {g : Option (Nat × Bool)} {yt : TypeId} {x y : Operand}
theorem QL.neEd {a b : LEdge} (hg : gd L σ ⟨some d, .binOp .neq 77 x y yt, ty, pos, af, g⟩ = some true) (hd : Nat.ble (d + 1) n = true) (hx : ev σ x = some (edV a)) (hy : ev σ y = some (edV b))
    (h : QL Try.prog L w Q rest n ((d, .bool (a != b)) :: σ)) : QL Try.prog L w Q (⟨some d, .binOp .neq 77 x y yt, ty, pos, af, g⟩ :: rest) n σ := by
  refine QL.run hg hd (fun c hc w' _ => ?_) h
  have := run_neEd a b x y w'
  simp only [execOp, hc.ev hx, hc.ev hy]
  rw [Sem.run_bind, this]; rfl
theorem QL.eqEd {a b : LEdge} (hg : gd L σ ⟨some d, .binOp .eql 77 x y yt, ty, pos, af, g⟩ = some true) (hd : Nat.ble (d + 1) n = true) (hx : ev σ x = some (edV a)) (hy : ev σ y = some (edV b))
    (h : QL Try.prog L w Q rest n ((d, .bool (a == b)) :: σ)) : QL Try.prog L w Q (⟨some d, .binOp .eql 77 x y yt, ty, pos, af, g⟩ :: rest) n σ := by
  refine QL.run hg hd (fun c hc w' _ => ?_) h
  have := run_eqEd a b x y w'
  simp only [execOp, hc.ev hx, hc.ev hy]
  rw [Sem.run_bind, this]; rfl
end
theorem equal_edge (w0 : World) {ao bo : Option Addr} {cap cap' : Nat} {xs ys : List LEdge} (hs : Sl w0 (Old w0) ao cap xs) (ht : Sl w0 (Old w0) bo cap' ys) :
    Rt Try.prog 93 [.slice ao xs.length cap, .slice bo ys.length cap'].toArray w0 fun v w' => v = .bool (xs == ys) ∧ Ext w0 w' := by
  have hm := hs.len63
  refine Rt.enter2 Try.func93 Try.ntmps93 rfl rfl ?_
  (repeat (first | (apply WL.pure; rfl; rfl; rfl) | (apply WL.nil) | (apply EX.thenN) | (apply CW.seq) | (apply CW.region) | (apply WL.lenS; rfl; rfl; rfl)))
  refine CW.cond rfl (fun h => ?_) (fun h => ?_)
  · (repeat (first | (apply WL.pure; rfl; rfl; rfl) | (apply WL.nil) | (apply EX.thenN) | (apply CW.seq) | (apply CW.region) | (apply CW.ret) | (apply EX.thenR)))
    refine EX.ret1 rfl rfl ⟨?_, Ext.refl _⟩
    simp at h
    have : (xs == ys) = false := by rw [beq_eq_false_iff_ne]; intro e; exact h (by rw [e])
    rw [this]
  · simp at h
    (repeat (first | (apply WL.pure; rfl; rfl; rfl) | (apply WL.nil) | (apply EX.thenN) | (apply CW.seq) | (apply CW.region) | (apply WL.lenS; rfl; rfl; rfl) | (apply CW.block) | (apply CW.skip)))
    refine CW.loop (S := Nat) (fun k => [(0, .slice ao xs.length cap), (1, .slice bo ys.length cap'), (12, .int .i64 xs.length), (13, .int .i64 k)])
      (fun k w => k ≤ xs.length ∧ Ext w0 w ∧ ∀ j (h : j < xs.length) (h' : j < ys.length), j < k → xs[j] = ys[j]) (fun k => xs.length - k) 0 (by repeat (first | exact trivial | refine ⟨rfl, ?_⟩)) ⟨by omega, Ext.refl _, by omega⟩ ?_
    rintro k w ⟨hk, hB, hn⟩
    (repeat (first | (apply WL.pure; rfl; rfl; rfl) | (apply WL.nil) | (apply EX.thenN) | (apply CW.seq) | (apply CW.region)))
    refine CW.cond rfl (fun h1 => ?_) (fun h1 => ?_)
    · simp at h1
      (repeat (first | (apply WL.pure; rfl; rfl; rfl) | (apply QL.pure; rfl; rfl; rfl) | (apply WL.nil) | (apply EX.thenN) | (apply CW.seq) | (apply CW.region) | (apply CW.block) | (apply CW.skip) | (apply CW.draw; exact mixed; kernel_rfl)))
      refine QL.elemN rfl rfl rfl rfl rfl (fun _ h => h) (hs.up hB) h1 (fun _ => rfl) (fun u q hu => ?_)
      rw [hu.edge]
      (repeat (apply QL.pure; rfl; rfl; rfl))
      refine QL.elemN rfl rfl rfl rfl rfl (fun _ h => h) (ht.up hB) (show k < ys.length by omega) (fun _ => rfl) (fun u q' hu => ?_)
      rw [hu.edge]
      skip
      refine QL.neEd rfl rfl rfl rfl ?_
      refine QL.nil (fun w1 hE => ?_)
      (repeat (apply EX.thenN))
      refine CW.cond rfl (fun h2 => ?_) (fun h2 => ?_)
      · (repeat (first | (apply WL.pure; rfl; rfl; rfl) | (apply WL.nil) | (apply EX.thenN) | (apply CW.seq) | (apply CW.region) | (apply CW.ret) | (apply EX.thenR) | (apply EX.inR)))
        refine EX.ret1 rfl rfl ⟨?_, hB.trans hE⟩
        simp at h2
        have : (xs == ys) = false := by rw [beq_eq_false_iff_ne]; intro e; subst e; exact h2 rfl
        rw [this]
      · simp at h2
        (repeat (first | (apply WL.add; rfl; rfl; rfl; rfl; omega; omega) | (apply WL.pure; rfl; rfl; rfl) | (apply WL.nil) | (apply EX.thenN) | (apply CW.region) | (apply EX.inN) | (apply CW.skip)))
        refine EX.back (k + 1) (by repeat (first | exact trivial | refine ⟨rfl, ?_⟩)) ⟨h1, hB.trans hE, ?_⟩ (by omega)
        intro j hj hj' hlt
        by_cases e : j = k
        · subst e; exact h2
        · exact hn j hj hj' (by omega)
    · simp at h1
      (repeat (first | (apply WL.pure; rfl; rfl; rfl) | (apply WL.nil) | (apply EX.thenN) | (apply CW.seq) | (apply CW.region) | (apply CW.exit) | (apply EX.thenX) | (apply EX.inX) | (apply CW.ret)))
      refine EX.ret1 rfl rfl ⟨?_, hB⟩
      have : (xs == ys) = true := by
        rw [beq_iff_eq]
        exact List.ext_getElem (by omega) fun j h1 h2 => hn j h1 h2 (by omega)
      rw [this]
theorem equalFunc_le (w0 : World) {ao bo : Option Addr} {cap cap' : Nat} {xs ys : List (List LEdge)} {fv : Value} (hs : Sl w0 (Old w0) ao cap xs) (ht : Sl w0 (Old w0) bo cap' ys)
    (hf : ∀ w, Ext w0 w → ∀ i (h : i < xs.length) (h' : i < ys.length) u u', Rd w (Old w0) u xs[i] → Rd w (Old w0) u' ys[i] → FnV Try.prog fv [u, u'] w fun v w' => v = .bool (xs[i] == ys[i]) ∧ Ext w w') :
    Rt Try.prog 92 [.slice ao xs.length cap, .slice bo ys.length cap', fv].toArray w0 fun v w' => v = .bool (xs == ys) ∧ Ext w0 w' := by
  have hm := hs.len63
  refine Rt.enter3 Try.func92 Try.ntmps92 rfl rfl ?_
  (repeat (first | (apply WL.pure; rfl; rfl; rfl) | (apply WL.nil) | (apply EX.thenN) | (apply CW.seq) | (apply CW.region) | (apply WL.lenS; rfl; rfl; rfl)))
  refine CW.cond rfl (fun h => ?_) (fun h => ?_)
  · (repeat (first | (apply WL.pure; rfl; rfl; rfl) | (apply WL.nil) | (apply EX.thenN) | (apply CW.seq) | (apply CW.region) | (apply CW.ret) | (apply EX.thenR)))
    refine EX.ret1 rfl rfl ⟨?_, Ext.refl _⟩
    simp at h
    have : (xs == ys) = false := by rw [beq_eq_false_iff_ne]; intro e; exact h (by rw [e])
    rw [this]
  · simp at h
    (repeat (first | (apply WL.pure; rfl; rfl; rfl) | (apply WL.nil) | (apply EX.thenN) | (apply CW.seq) | (apply CW.region) | (apply WL.lenS; rfl; rfl; rfl) | (apply CW.block) | (apply CW.skip)))
    refine CW.loop (S := Nat) (fun k => [(1, .slice bo ys.length cap'), (2, fv), (15, .slice ao xs.length cap), (16, .int .i64 xs.length), (17, .int .i64 k)])
      (fun k w => k ≤ xs.length ∧ Ext w0 w ∧ ∀ j (h : j < xs.length) (h' : j < ys.length), j < k → xs[j] = ys[j]) (fun k => xs.length - k) 0 (by repeat (first | exact trivial | refine ⟨rfl, ?_⟩)) ⟨by omega, Ext.refl _, by omega⟩ ?_
    rintro k w ⟨hk, hB, hn⟩
    (repeat (first | (apply WL.pure; rfl; rfl; rfl) | (apply WL.nil) | (apply EX.thenN) | (apply CW.seq) | (apply CW.region)))
    refine CW.cond rfl (fun h1 => ?_) (fun h1 => ?_)
    · simp at h1
      (repeat (first | (apply WL.pure; rfl; rfl; rfl) | (apply EX.thenN) | (apply CW.seq) | (apply CW.region) | (apply CW.block) | (apply CW.skip)))
      refine WL.elemN rfl rfl rfl rfl rfl (hs.at hB) h1 (fun _ => rfl) (fun u q hu => ?_)
      (repeat (first | (apply WL.pure; rfl; rfl; rfl) | (apply WL.nil) | (apply EX.thenN) | (apply CW.seq) | (apply CW.region)))
      refine WL.elemN rfl rfl rfl rfl rfl (ht.at hB) (show k < ys.length by omega) (fun _ => rfl) (fun u' q' hu' => ?_)
      (repeat (first | (apply WL.pure; rfl; rfl; rfl) | (apply WL.nil) | (apply EX.thenN) | (apply CW.seq) | (apply CW.region)))
      refine WL.callF rfl rfl rfl rfl (hf w hB k h1 (by omega) u u' hu hu') ?_
      rintro v w' ⟨rfl, hE⟩
      (repeat (first | (apply WL.pure; rfl; rfl; rfl) | (apply WL.nil) | (apply EX.thenN)))
      refine CW.cond rfl (fun h2 => ?_) (fun h2 => ?_)
      · (repeat (first | (apply WL.pure; rfl; rfl; rfl) | (apply WL.nil) | (apply EX.thenN) | (apply CW.seq) | (apply CW.region) | (apply CW.ret) | (apply EX.thenR) | (apply EX.inR)))
        refine EX.ret1 rfl rfl ⟨?_, hB.trans hE⟩
        simp at h2
        have : (xs == ys) = false := by rw [beq_eq_false_iff_ne]; intro e; subst e; exact h2 rfl
        rw [this]
      · simp at h2
        (repeat (first | (apply WL.add; rfl; rfl; rfl; rfl; omega; omega) | (apply WL.pure; rfl; rfl; rfl) | (apply WL.nil) | (apply EX.thenN) | (apply CW.region) | (apply EX.inN) | (apply CW.skip)))
        refine EX.back (k + 1) (by repeat (first | exact trivial | refine ⟨rfl, ?_⟩)) ⟨h1, hB.trans hE, ?_⟩ (by omega)
        intro j hj hj' hlt
        by_cases e : j = k
        · subst e; exact h2
        · exact hn j hj hj' (by omega)
    · simp at h1
      (repeat (first | (apply WL.pure; rfl; rfl; rfl) | (apply WL.nil) | (apply EX.thenN) | (apply CW.seq) | (apply CW.region) | (apply CW.exit) | (apply EX.thenX) | (apply EX.inX) | (apply CW.ret)))
      refine EX.ret1 rfl rfl ⟨?_, hB⟩
      have : (xs == ys) = true := by
        rw [beq_iff_eq]
        exact List.ext_getElem (by omega) fun j h1 h2 => hn j h1 h2 (by omega)
      rw [this]
def spV (mo : Option Addr) (mc : Nat) (no : Option Addr) (nc : Nat) (ml nl : Nat) : Value := .agg [.slice mo ml mc, .slice no nl nc].toArray
theorem SameSpace_ok (w0 : World) {mo no mo' no' : Option Addr} {mc nc mc' nc' : Nat} {m m' : List (List Int)} {n n' : List (List LEdge)} (hm : Sl w0 (Old w0) mo mc m) (hn : Sl w0 (Old w0) no nc n) (hm' : Sl w0 (Old w0) mo' mc' m') (hn' : Sl w0 (Old w0) no' nc' n') :
    Rt Try.prog 40 [spV mo mc no nc m.length n.length, spV mo' mc' no' nc' m'.length n'.length].toArray w0 fun v w' => v = .bool (m == m' && n == n') ∧ Ext w0 w' := by
  refine Rt.enter2 Try.func40 Try.ntmps40 rfl rfl ?_
  unfold spV
  (repeat (first | (apply CW.seq) | (apply CW.region)))
  refine WL.boxB rfl rfl rfl fun w1 hb2 e1 => ?_
  skip
  refine WL.boxB rfl rfl rfl fun w2 hb3 e2 => ?_
  have hb2 := hb2.ext e2
  have hE := e1.trans e2
  (repeat (first | (apply WL.pure; rfl; rfl; rfl) | (apply WL.nil) | (apply EX.thenN) | (apply CW.seq) | (apply CW.region) | (apply WL.fa; rfl; rfl; rfl) | (apply WL.ld; rfl; rfl; rfl; assumption; rfl)))
  refine WL.call rfl rfl rfl (equalFunc_ll w2 (hm.up hE) (hm'.up hE) (fun w hE i hi hi' u u' hu hu' => ?_)) ?_
  · obtain ⟨a, b, rfl, h1⟩ := hu.sl
    obtain ⟨a', b', rfl, h2⟩ := hu'.sl
    have := equal_int w (h1.lift fun b hb => Nat.lt_of_lt_of_le hb hE.size) (h2.lift fun b hb => Nat.lt_of_lt_of_le hb hE.size)
    exact FnV.mk (cs := []) (by simpa using this)
  rintro _ w3 ⟨rfl, e3⟩
  have hb2 := hb2.ext e3
  have hb3 := hb3.ext e3
  have hE := hE.trans e3
  (repeat (apply WL.pure; rfl; rfl; rfl))
  cases hmm : (m == m')
  · (repeat (first | (apply WL.pure; rfl; rfl; rfl) | (apply WL.nil) | (apply EX.thenN) | (apply WL.pass; rfl; rfl) | (apply CW.ret)))
    exact EX.ret1 rfl rfl ⟨rfl, hE⟩
  (repeat (first | (apply WL.fa; rfl; rfl; rfl) | (apply WL.ld; rfl; rfl; rfl; assumption; rfl)))
  refine WL.call rfl rfl rfl (equalFunc_le w3 (hn.up hE) (hn'.up hE) (fun w hE i hi hi' u u' hu hu' => ?_)) ?_
  · obtain ⟨a, b, rfl, h1⟩ := hu.sl
    obtain ⟨a', b', rfl, h2⟩ := hu'.sl
    have := equal_edge w (h1.lift fun b hb => Nat.lt_of_lt_of_le hb hE.size) (h2.lift fun b hb => Nat.lt_of_lt_of_le hb hE.size)
    exact FnV.mk (cs := []) (by simpa using this)
  rintro _ w4 ⟨rfl, e4⟩
  have hE := hE.trans e4
  (repeat (first | (apply WL.pure; rfl; rfl; rfl) | (apply WL.nil) | (apply EX.thenN) | (apply CW.ret)))
  exact EX.ret1 rfl rfl ⟨by simp, hE⟩
end Go.Proofs.Ytadbkppgaekmpaa
/-
  Drawn regions with a chain of changes and an alloc that may come anywhere among them: one walk for all orders. Over any program.
-/
set_option linter.unusedVariables false
set_option linter.unusedSimpArgs false
namespace Go.Proofs.Ytadbkppgaekmpaa
open Go.RowKit

section
variable {P : Program} {n : Nat} {σ : Sg} {w : World} {L : List Oper}
theorem WL.mono1 {Q Q' : Exit → Act → World → Prop} {o : Oper} (hQ : ∀ x a w, Q x a w → x = .normal) (hm : ∀ a w, Q .normal a w → Q' .normal a w) (h : WL P L Q [o] n σ w) : WL P L Q' [o] n σ w := by
  unfold WL at *
  intro a ha
  have h2 := h a ha
  simp only [wpList] at h2 ⊢
  split
  · rename_i hw
    rw [if_pos hw] at h2
    rcases h2 with h2 | ⟨_, hl⟩
    · exact .inl (Oper.wp_mono (fun a' w' h' => hm _ _ h') (wp_exits (fun e a w hne hf => absurd (hQ _ _ _ hf) hne) h2))
    · obtain ⟨_, _, hx⟩ := hl
      exact absurd (hQ _ _ _ hx) (by simp)
  · rename_i hw
    rw [if_neg hw] at h2
    exact hm _ _ h2
theorem fnd_app {σ τ : Sg} {t : Nat} : fnd (σ ++ τ) t = match fnd σ t with | some v => some v | none => fnd τ t := by
  induction σ with
  | nil => rfl
  | cons x r ih =>
    obtain ⟨k, v⟩ := x
    show fnd ((k, v) :: (r ++ τ)) t = match fnd ((k, v) :: r) t with | some v => some v | none => fnd τ t
    by_cases h : k = t
    · subst h; rw [fnd_cons_eq, fnd_cons_eq]
    · rw [fnd_cons_ne h, fnd_cons_ne h]; exact ih
theorem Fr.toEnd {a : Act} {d : Nat} {v : Value} (h : Fr n ((d, v) :: σ) a) (hd : fnd σ d = none) : Fr n (σ ++ [(d, v)]) a := by
  refine ⟨h.size, h.defers, fun t u hu => h.slot t u ?_⟩
  rw [fnd_app] at hu
  by_cases e : d = t
  · subst e
    rw [hd] at hu
    rw [fnd_cons_eq]
    simpa [fnd_cons_eq] using hu
  · rw [fnd_cons_ne e]
    cases hx : fnd σ t with
    | some x => rw [hx] at hu; exact hu
    | none => rw [hx] at hu; simp only [fnd_cons_ne e] at hu; cases hu
/-- behind a step of the chain: one more slot -/
def StepA (S : World → Prop) (I : Sg → World → Option Nat → Prop) (n : Nat) (τ : Sg) (ob : Option Nat) : Exit → Act → World → Prop :=
  fun x a w => x = .normal ∧ S w ∧ ∃ σ, Fr n (σ ++ τ) a ∧ I σ w ob
theorem EX.stepA {S : World → Prop} {I : Sg → World → Option Nat → Prop} {τ : Sg} {ob : Option Nat} (hS : S w) (hI : I σ w ob) : EX (StepA S I n τ ob) .normal n (σ ++ τ) w := by
  unfold EX
  exact fun a ha => ⟨rfl, hS, σ, ha, hI⟩
theorem EX.chainA {Q : Exit → Act → World → Prop} {S : World → Prop} {e de : Nat} {c : List Nat} {r : List (Nat × Bool)} {t ty : TypeId} {pos : String} {af : Array Edge} {zs : List Value} [hz : IsZC P t zs] (hoe : nthO L e = some ⟨some de, .alloc t, ty, pos, af, none⟩) (hn : Nat.ble (de + 1) n = true)
    (I : Nat → Sg → World → Option Nat → Prop) (hde : ∀ i σ w ob, I i σ w ob → fnd σ de = none)
    (hal : ∀ i σ w, I i σ w none → S w → ∀ w', Blk w' w.heap.size t zs → Ext w w' → S w' ∧ I i σ w' (some w.heap.size))
    (hst : ∀ i (hi : i < c.length) σ w ob τ, I i σ w ob → S w → ∃ o, nthO L c[i] = some o ∧ WL P L (StepA S (I (i + 1)) n τ ob) [o] n (σ ++ τ) w)
    (hend : ∀ σ w b, I c.length σ w (some b) → S w → HL P L S Q r n (σ ++ [(de, .pointer (some ⟨b, 0, none⟩))]) w)
    (hI0 : I 0 σ w none) (hS : S w) : EX (ChainQ P L S Q e c r) .normal n σ w := by
  have aft : ∀ d k σ w b, d + k = c.length → I k σ w (some b) → S w → HL P L S Q ((c.drop k).map (fun j => (j, false)) ++ r) n (σ ++ [(de, .pointer (some ⟨b, 0, none⟩))]) w := by
    intro d
    induction d with
    | zero =>
      intro k σ w b hk hI hS
      obtain rfl : k = c.length := by omega
      rw [List.drop_length]
      exact hend σ w b hI hS
    | succ d ih =>
      intro k σ w b hk hI hS
      have hkl : k < c.length := by omega
      rw [List.drop_eq_getElem_cons hkl]
      obtain ⟨o, ho, hw⟩ := hst k hkl σ w (some b) [(de, .pointer (some ⟨b, 0, none⟩))] hI hS
      refine HL.mut ho (WL.mono1 (fun x a w h => h.1) (fun a w h => ?_) hw)
      obtain ⟨_, hS', σ', hF, hI'⟩ := h
      have := ih (k + 1) σ' w b (by omega) hI' hS'
      unfold HL at this
      exact ⟨rfl, hS', this a hF⟩
  have alc : ∀ k σ w, k ≤ c.length → I k σ w none → S w → HL P L S Q ((e, false) :: ((c.drop k).map (fun j => (j, false)) ++ r)) n σ w := by
    intro k σ w hk hI hS
    refine HL.mut hoe (WL.alloc rfl hn (fun w' hb hE => WL.nil ?_))
    obtain ⟨hS', hI'⟩ := hal k σ w hI hS w' hb hE
    have h1 := aft (c.length - k) k σ w' _ (by omega) hI' hS'
    unfold HL at h1
    unfold EX
    exact fun a ha => ⟨rfl, hS', h1 a (ha.toEnd (hde _ _ _ _ hI))⟩
  have bef : ∀ d k σ w, d + k = c.length → I k σ w none → S w → EX (ChainQ P L S Q e (c.drop k) r) .normal n σ w := by
    intro d
    induction d with
    | zero =>
      intro k σ w hk hI hS
      obtain rfl : k = c.length := by omega
      have := alc c.length σ w (Nat.le_refl _) hI hS
      rw [List.drop_length] at this ⊢
      exact EX.chain0 hS this
    | succ d ih =>
      intro k σ w hk hI hS
      have hkl : k < c.length := by omega
      have ha := alc k σ w (by omega) hI hS
      rw [List.drop_eq_getElem_cons hkl] at ha ⊢
      obtain ⟨o, ho, hw⟩ := hst k hkl σ w none [] hI hS
      rw [List.append_nil] at hw
      refine EX.chain hS ho (WL.mono1 (fun x a w h => h.1) (fun a w h => ?_) hw) ha
      obtain ⟨_, hS', σ', hF, hI'⟩ := h
      rw [List.append_nil] at hF
      have := ih (k + 1) σ' w (by omega) hI' hS'
      unfold EX at this
      exact this a hF
  exact bef c.length 0 σ w (by omega) hI0 hS
end
end Go.Proofs.Ytadbkppgaekmpaa
/-
  GameTokens: walked.
-/
set_option linter.unusedVariables false
set_option linter.unusedSimpArgs false
namespace Go.Proofs.Ytadbkppgaekmpaa
open Go.RowKit

theorem sum_range {m : List Int} (h : ∀ j : Nat, 0 ≤ m.getD j 0 ∧ m.getD j 0 ≤ 9) : ∀ i, i ≤ m.length → 0 ≤ (m.take i).sum ∧ (m.take i).sum ≤ 9 * (i : Int)
  | 0, _ => by simp
  | i + 1, hi => by
    have ih := sum_range h i (by omega)
    have hj := h i
    rw [getDm_at (by omega)] at hj
    rw [← List.take_append_getElem (by omega), List.sum_append, List.sum_cons, List.sum_nil]
    omega
theorem straight_fire : fireE straightP [1, 0] 0 = ([0, 1], 0) := by
  have hz : (stepsE straightP).2 = 0 := by rw [straight_steps]
  have hl : stepsL straightP = [(1, 0, 1), (2, 1, 0)] := by decide
  have hm : chkM straightP [1, 0] = 0 := markOk_chk hz ⟨rfl, fun j => by
    rcases j with _ | _ | j
    · decide
    · decide
    · exact ⟨Int.le_refl _, (by decide : (0 : Int) ≤ 9)⟩⟩
  unfold fireE
  rw [if_neg (by simp [hm]), hl, if_neg (by decide), if_neg (by decide)]
  decide
theorem getDG_atM {l : List (List Int)} {j : Nat} (h : j < l.length) : l.getD j [] = l[j] := by rw [List.getD_eq_getElem?_getD, List.getElem?_eq_getElem h]; rfl
theorem steps_at {p : LProc} {k : Int} (h0 : 0 ≤ k) (h1 : k < (stepsL p).length) : ∃ n, n < p.1.length ∧ (stepsL p).getD k.toNat (0, 0, 0) ∈ stepsN p n := by
  rw [stepsL_at (by omega)]
  exact stepsP_mem.1 (List.getElem_mem _)
theorem putN_range {n : Int} : ∀ c : Nat, 0 ≤ putN n 0 c ∧ putN n 0 c ≤ c
  | 0 => by simp [putN]
  | c + 1 => by
    have := putN_range (n := n) c
    have := bitK_01 n c
    rw [putN_last]; omega
end Go.Proofs.Ytadbkppgaekmpaa
/-
  Package scc: what turn, far and Way compute, in plain Lean.
-/
set_option linter.unusedVariables false
set_option linter.unusedSimpArgs false
namespace Go.Proofs.Ytadbkppgaekmpaa

/- TURN -/
/-- who leads to m: of the rows before n, and of row n's first j -/
def trow (g : List (List Int)) (n j : Nat) (m : Nat) : List Int :=
  ((List.range n).filter (fun k => (g.getD k []).contains (m : Int))).map (fun k : Nat => (k : Int)) ++ (if ((g.getD n []).take j).contains (m : Int) then [(n : Int)] else [])
def turnP (g : List (List Int)) (n j : Nat) : List (List Int) := (List.range g.length).map (trow g n j)
def turnL (g : List (List Int)) : List (List Int) := turnP g g.length 0
theorem turnP_len (g : List (List Int)) (n j : Nat) : (turnP g n j).length = g.length := by simp [turnP]
theorem turnP_get {g : List (List Int)} {n j i : Nat} (h : i < (turnP g n j).length) : (turnP g n j)[i] = trow g n j i := by simp [turnP]
theorem trow_len (g : List (List Int)) (n j m : Nat) : (trow g n j m).length ≤ n + 1 := by
  unfold trow
  have h1 := List.length_filter_le (fun k => (g.getD k []).contains (m : Int)) (List.range n)
  rw [List.length_range] at h1
  rw [List.length_append, List.length_map]
  split
  · simp only [List.length_singleton]; omega
  · simp only [List.length_nil]; omega
theorem trow_start (g : List (List Int)) (m : Nat) : trow g 0 0 m = [] := by simp [trow]
theorem turnP_start (g : List (List Int)) : turnP g 0 0 = List.replicate g.length [] := by
  apply List.ext_getElem (by simp [turnP])
  intro i h1 h2
  rw [turnP_get, trow_start]; simp
theorem trow_next {g : List (List Int)} {n : Nat} (m : Nat) : trow g (n + 1) 0 m = trow g n (g.getD n []).length m := by
  unfold trow
  rw [List.take_length, List.take_zero, List.range_succ, List.filter_append, List.map_append]
  cases h : (g.getD n []).contains (m : Int) <;> simp at h <;> simp [h]
theorem turnP_next {g : List (List Int)} {n : Nat} : turnP g (n + 1) 0 = turnP g n (g.getD n []).length := by
  unfold turnP; congr 1; funext m; exact trow_next m
theorem take_next {l : List Int} {j : Nat} (h : j < l.length) (x : Int) : (l.take (j + 1)).contains x = ((l.take j).contains x || x == l[j]) := by
  rw [List.take_succ_eq_append_getElem h, List.contains_eq_any_beq, List.contains_eq_any_beq, List.any_append]
  simp
theorem trow_new {g : List (List Int)} {n j m : Nat} (hj : j < (g.getD n []).length) (hm : (g.getD n [])[j] = (m : Int)) (hn : ((g.getD n []).take j).contains (m : Int) = false) : trow g n (j + 1) m = trow g n j m ++ [(n : Int)] := by
  unfold trow
  rw [take_next hj, hn, hm]; simp
theorem trow_old {g : List (List Int)} {n j m : Nat} (hj : j < (g.getD n []).length) (hn : ((g.getD n []).take j).contains (m : Int) = true) : trow g n (j + 1) m = trow g n j m := by
  unfold trow
  rw [take_next hj, hn]; simp
theorem trow_other {g : List (List Int)} {n j m : Nat} (hj : j < (g.getD n []).length) (hm : (g.getD n [])[j] ≠ (m : Int)) : trow g n (j + 1) m = trow g n j m := by
  unfold trow
  rw [take_next hj]
  have : ((m : Int) == (g.getD n [])[j]) = false := by rw [beq_eq_false_iff_ne]; exact Ne.symm hm
  rw [this, Bool.or_false]
/-- its last one is n just if n was put there -/
theorem trow_last {g : List (List Int)} {n j m : Nat} (h : 0 < (trow g n j m).length) : ((trow g n j m)[(trow g n j m).length - 1] = (n : Int)) ↔ ((g.getD n []).take j).contains (m : Int) = true := by
  have hl : (trow g n j m)[(trow g n j m).length - 1] = (trow g n j m).getLast (List.ne_nil_of_length_pos h) := by rw [List.getLast_eq_getElem]
  rw [hl]
  constructor
  · intro e
    apply Classical.byContradiction
    intro hc
    have hc' : ((g.getD n []).take j).contains (m : Int) = false := by simpa using hc
    have : (n : Int) ∈ trow g n j m := by rw [← e]; exact List.getLast_mem _
    unfold trow at this
    rw [hc'] at this
    simp at this
    omega
  · intro hc
    have : trow g n j m = ((List.range n).filter (fun k => (g.getD k []).contains (m : Int))).map (fun k : Nat => (k : Int)) ++ [(n : Int)] := by unfold trow; rw [if_pos hc]
    simp only [this]
    simp
theorem trow_nil {g : List (List Int)} {n j m : Nat} (h : (trow g n j m).length = 0) : ((g.getD n []).take j).contains (m : Int) = false := by
  cases hc : ((g.getD n []).take j).contains (m : Int)
  · rfl
  · unfold trow at h; rw [if_pos hc] at h; simp at h
theorem turnP_set {g : List (List Int)} {n j : Nat} (hj : j < (g.getD n []).length) {m : Nat} (hm : (g.getD n [])[j] = (m : Int)) (hmg : m < g.length) (hn : ((g.getD n []).take j).contains (m : Int) = false) :
    (turnP g n j).set m (trow g n j m ++ [(n : Int)]) = turnP g n (j + 1) := by
  apply List.ext_getElem (by simp [turnP])
  intro i h1 h2
  rw [List.getElem_set]
  by_cases e : m = i
  · subst e; rw [if_pos rfl, turnP_get, trow_new hj hm hn]
  · rw [if_neg e, turnP_get, turnP_get, trow_other hj (by rw [hm]; omega)]
theorem turnP_same {g : List (List Int)} {n j : Nat} (hj : j < (g.getD n []).length) {m : Nat} (hm : (g.getD n [])[j] = (m : Int)) (hn : ((g.getD n []).take j).contains (m : Int) = true) : turnP g n j = turnP g n (j + 1) := by
  apply List.ext_getElem (by simp [turnP])
  intro i h1 h2
  rw [turnP_get, turnP_get]
  by_cases e : m = i
  · subst e; rw [trow_old hj hn]
  · rw [trow_other hj (by rw [hm]; omega)]
theorem turnL_len (g : List (List Int)) : (turnL g).length = g.length := turnP_len _ _ _
theorem turnL_mem {g : List (List Int)} {m k : Nat} (hm : m < g.length) : (k : Int) ∈ (turnL g).getD m [] ↔ k < g.length ∧ (m : Int) ∈ g.getD k [] := by
  have : (turnL g).getD m [] = trow g g.length 0 m := by
    rw [List.getD_eq_getElem?_getD, List.getElem?_eq_getElem (by rw [turnL_len]; exact hm)]
    exact turnP_get _
  rw [this]
  unfold trow
  simp
  constructor
  · rintro ⟨a, ⟨h1, h2⟩, h3⟩
    have : a = k := by omega
    subst this; exact ⟨h1, h2⟩
  · rintro ⟨h1, h2⟩
    exact ⟨k, ⟨h1, h2⟩, rfl⟩
theorem turnL_ok (g : List (List Int)) : okG (turnL g) := by
  intro l hl x hx
  obtain ⟨m, hm, rfl⟩ := List.mem_iff_getElem.1 hl
  rw [turnL_len] at hm ⊢
  have e : (turnL g)[m]'(by rw [turnL_len]; exact hm) = trow g g.length 0 m := turnP_get _
  rw [e] at hx
  unfold trow at hx
  simp at hx
  obtain ⟨k, ⟨h1, _⟩, rfl⟩ := hx
  omega

/- FAR -/
def farStep (n : Int) (s : List Int × List Int) (k : Int) : List Int × List Int := if s.1.getD k.toNat 0 < 0 then (s.1.set k.toNat (s.1.getD n.toNat 0 + 1), s.2 ++ [k]) else s
def farGo (back : List (List Int)) : Nat → List Int → List Int → List Int
  | 0, d, _ => d
  | _ + 1, d, [] => d
  | f + 1, d, n :: r => farGo back f ((back.getD n.toNat []).foldl (farStep n) (d, r)).1 ((back.getD n.toNat []).foldl (farStep n) (d, r)).2
def farD (to : List Bool) : List Int := to.map fun b => if b then 0 else -1
def farN (to : List Bool) (n : Nat) : List Int := ((List.range n).filter (fun k => to.getD k false)).map fun k : Nat => (k : Int)
def farL (g : List (List Int)) (to : List Bool) : List Int := farGo (turnL g) (2 * g.length + 2) (farD to) (farN to to.length)
def negs (d : List Int) : Nat := d.countP fun x => decide (x < 0)
theorem negs_set {d : List Int} {k : Nat} {v : Int} (hk : k < d.length) (h : d[k] < 0) (hv : 0 ≤ v) : negs (d.set k v) + 1 = negs d := by
  unfold negs
  have e : d = d.take k ++ d[k] :: d.drop (k + 1) := by simp
  have e2 : d.set k v = d.take k ++ v :: d.drop (k + 1) := by rw [List.set_eq_take_append_cons_drop, if_pos hk]
  rw [e2]
  conv => rhs; rw [e]
  simp only [List.countP_append, List.countP_cons, h, decide_true, if_true]
  have : decide (v < 0) = false := by simp; omega
  rw [this]; simp; omega
/-- while one goes: what is marked stands; a number above 0 has one less beside it; who is done has all behind it numbered -/
structure FInv (g : List (List Int)) (to : List Bool) (d now : List Int) (cur : Option (Nat × Nat)) : Prop where
  len : d.length = g.length
  tol : to.length = g.length
  ge : ∀ n (h : n < d.length), -1 ≤ d[n]
  le : ∀ n (h : n < d.length), d[n] + negs d + 1 ≤ g.length
  zero : ∀ n (h : n < d.length), d[n] = 0 ↔ to.getD n false = true
  pos : ∀ n (h : n < d.length), 0 < d[n] → ∃ m, ∃ hm : m < d.length, (m : Int) ∈ g.getD n [] ∧ d[m] = d[n] - 1
  inN : ∀ x ∈ now, 0 ≤ x ∧ x < g.length
  nowd : ∀ x ∈ now, 0 ≤ d.getD x.toNat (-1)
  done : ∀ m (h : m < d.length), 0 ≤ d[m] → (m : Int) ∈ now ∨ (∃ j, cur = some (m, j)) ∨ ∀ k (hk : k < d.length), (m : Int) ∈ g.getD k [] → 0 ≤ d[k]
  curd : ∀ m j, cur = some (m, j) → ∃ hm : m < d.length, 0 ≤ d[m] ∧ ∀ x ∈ ((turnL g).getD m []).take j, 0 ≤ d.getD x.toNat (-1)
theorem getD_at {d : List Int} {n : Nat} {x : Int} (h : n < d.length) : d.getD n x = d[n] := by rw [List.getD_eq_getElem?_getD, List.getElem?_eq_getElem h]; rfl
theorem FInv.step {g : List (List Int)} {to : List Bool} {d now : List Int} {m j : Nat} (h : FInv g to d now (some (m, j))) (hj : j < ((turnL g).getD m []).length) {k : Int} (hk : ((turnL g).getD m [])[j] = k) :
    FInv g to (farStep m (d, now) k).1 (farStep m (d, now) k).2 (some (m, j + 1)) ∧ (farStep m (d, now) k).2.length + negs (farStep m (d, now) k).1 = now.length + negs d := by
  obtain ⟨hm, hdm, hpre⟩ := h.curd m j rfl
  have hml : m < g.length := by rw [← h.len]; exact hm
  have hrow : ((turnL g).getD m []) ∈ turnL g := by
    rw [List.getD_eq_getElem?_getD, List.getElem?_eq_getElem (by rw [turnL_len]; exact hml)]
    exact List.getElem_mem _
  have hk2 : 0 ≤ k ∧ k < g.length := by
    have := turnL_ok g _ hrow k (hk ▸ List.getElem_mem _)
    rwa [turnL_len] at this
  obtain ⟨kn, rfl⟩ := Int.eq_ofNat_of_zero_le hk2.1
  have hkn : kn < g.length := by omega
  have hkd : kn < d.length := by rw [h.len]; exact hkn
  have hmem : (m : Int) ∈ g.getD kn [] := ((turnL_mem hml).1 (hk ▸ List.getElem_mem hj)).2
  have htk : ∀ x, x ∈ ((turnL g).getD m []).take (j + 1) → x ∈ ((turnL g).getD m []).take j ∨ x = (kn : Int) := by
    intro x hx
    rw [List.take_succ_eq_append_getElem hj, hk] at hx
    simpa using hx
  unfold farStep
  simp only [Int.toNat_natCast]
  rw [getD_at hkd, getD_at hm]
  split
  · rename_i hneg
    have hne : m ≠ kn := fun e => by subst e; omega
    have hn := negs_set hkd hneg (v := d[m] + 1) (by omega)
    have hget : ∀ n (hn : n < (d.set kn (d[m] + 1)).length), (d.set kn (d[m] + 1))[n] = if kn = n then d[m] + 1 else d[n]'(by rw [List.length_set] at hn; exact hn) := fun n hn => List.getElem_set ..
    have hup : ∀ x, 0 ≤ d.getD x (-1) → 0 ≤ (d.set kn (d[m] + 1)).getD x (-1) := by
      intro x hx
      by_cases hxl : x < d.length
      · rw [getD_at (by rw [List.length_set]; exact hxl), hget]
        split
        · omega
        · rwa [getD_at hxl] at hx
      · rw [List.getD_eq_getElem?_getD, List.getElem?_eq_none (by omega)] at hx
        simp at hx
    refine ⟨⟨by rw [List.length_set]; exact h.len, h.tol, ?_, ?_, ?_, ?_, ?_, ?_, ?_, ?_⟩, by simp only [List.length_append, List.length_singleton]; omega⟩
    · intro n hn2
      rw [hget]
      split
      · omega
      · exact h.ge n _
    · intro n hn2
      rw [List.length_set] at hn2
      rw [hget]
      have h1 := h.le m hm
      have h2 := h.le n hn2
      dsimp only
      split <;> omega
    · intro n hn2
      rw [List.length_set] at hn2
      rw [hget]
      split
      · rename_i e
        subst e
        have := h.zero kn hkd
        constructor
        · intro e; omega
        · intro e; have := this.2 e; omega
      · exact h.zero n hn2
    · intro n hn2 hp
      rw [List.length_set] at hn2
      rw [hget] at hp ⊢
      split at hp
      · rename_i e
        subst e
        rw [if_pos rfl]
        refine ⟨m, by rw [List.length_set]; exact hm, hmem, ?_⟩
        rw [hget, if_neg (Ne.symm hne)]; omega
      · rename_i e
        rw [if_neg e]
        obtain ⟨m2, h1, h2, h3⟩ := h.pos n hn2 hp
        refine ⟨m2, by rw [List.length_set]; exact h1, h2, ?_⟩
        rw [hget, if_neg (fun e => by subst e; omega)]; exact h3
    · intro x hx
      rw [List.mem_append, List.mem_singleton] at hx
      rcases hx with hx | rfl
      · exact h.inN x hx
      · omega
    · intro x hx
      rw [List.mem_append, List.mem_singleton] at hx
      rcases hx with hx | rfl
      · exact hup _ (h.nowd x hx)
      · rw [Int.toNat_natCast, getD_at (by rw [List.length_set]; exact hkd), hget, if_pos rfl]; omega
    · intro m' hm' hp
      rw [List.length_set] at hm'
      rw [hget] at hp
      split at hp
      · rename_i e; subst e; exact .inl (by simp)
      · rcases h.done m' hm' hp with h1 | ⟨j', h1⟩ | h1
        · exact .inl (List.mem_append_left _ h1)
        · simp only [Option.some.injEq, Prod.mk.injEq] at h1
          exact .inr (.inl ⟨j + 1, by rw [h1.1]⟩)
        · refine .inr (.inr fun k2 hk2 hmk => ?_)
          rw [List.length_set] at hk2
          rw [hget]
          split
          · omega
          · exact h1 k2 hk2 hmk
    · intro m2 j2 e
      simp only [Option.some.injEq, Prod.mk.injEq] at e
      obtain ⟨rfl, rfl⟩ := e
      refine ⟨by rw [List.length_set]; exact hm, by rw [hget, if_neg (Ne.symm hne)]; exact hdm, fun x hx => ?_⟩
      rcases htk x hx with hx | rfl
      · exact hup _ (hpre x hx)
      · rw [Int.toNat_natCast, getD_at (by rw [List.length_set]; exact hkd), hget, if_pos rfl]; omega
  · rename_i hpos
    refine ⟨⟨h.len, h.tol, h.ge, h.le, h.zero, h.pos, h.inN, h.nowd, ?_, ?_⟩, rfl⟩
    · intro m' hm' hp
      rcases h.done m' hm' hp with h1 | ⟨j', h1⟩ | h1
      · exact .inl h1
      · simp only [Option.some.injEq, Prod.mk.injEq] at h1
        exact .inr (.inl ⟨j + 1, by rw [h1.1]⟩)
      · exact .inr (.inr h1)
    · intro m2 j2 e
      simp only [Option.some.injEq, Prod.mk.injEq] at e
      obtain ⟨rfl, rfl⟩ := e
      refine ⟨hm, hdm, fun x hx => ?_⟩
      rcases htk x hx with hx | rfl
      · exact hpre x hx
      · rw [Int.toNat_natCast, getD_at hkd]; omega
theorem FInv.steps {g : List (List Int)} {to : List Bool} {d now : List Int} {m : Nat} (h : FInv g to d now (some (m, 0))) : ∀ j, j ≤ ((turnL g).getD m []).length →
    FInv g to ((((turnL g).getD m []).take j).foldl (farStep m) (d, now)).1 ((((turnL g).getD m []).take j).foldl (farStep m) (d, now)).2 (some (m, j)) ∧
    ((((turnL g).getD m []).take j).foldl (farStep m) (d, now)).2.length + negs ((((turnL g).getD m []).take j).foldl (farStep m) (d, now)).1 = now.length + negs d
  | 0, _ => by simp only [List.take_zero, List.foldl_nil]; exact ⟨h, trivial⟩
  | j + 1, hj => by
    obtain ⟨h1, h2⟩ := FInv.steps h j (by omega)
    rw [List.take_succ_eq_append_getElem (by omega), List.foldl_append, List.foldl_cons, List.foldl_nil]
    obtain ⟨h3, h4⟩ := h1.step (by omega) rfl
    exact ⟨h3, by rw [h4, h2]⟩
theorem FInv.over {g : List (List Int)} {to : List Bool} {d now : List Int} {m : Nat} (h : FInv g to d now (some (m, ((turnL g).getD m []).length))) : FInv g to d now none := by
  obtain ⟨hm, hdm, hpre⟩ := h.curd m _ rfl
  refine ⟨h.len, h.tol, h.ge, h.le, h.zero, h.pos, h.inN, h.nowd, ?_, fun _ _ e => by cases e⟩
  intro m' hm' hp
  rcases h.done m' hm' hp with h1 | ⟨j', h1⟩ | h1
  · exact .inl h1
  · simp only [Option.some.injEq, Prod.mk.injEq] at h1
    obtain ⟨rfl, _⟩ := h1
    refine .inr (.inr fun k hk hmk => ?_)
    rw [List.take_length] at hpre
    have := hpre (k : Int) ((turnL_mem (by rw [← h.len]; exact hm)).2 ⟨by rw [← h.len]; exact hk, hmk⟩)
    rwa [Int.toNat_natCast, getD_at hk] at this
  · exact .inr (.inr h1)
theorem FInv.pop {g : List (List Int)} {to : List Bool} {d r : List Int} {n : Int} (h : FInv g to d (n :: r) none) : ∃ m : Nat, n = (m : Int) ∧ m < g.length ∧ FInv g to d r (some (m, 0)) := by
  have hn := h.inN n (by simp)
  obtain ⟨m, rfl⟩ := Int.eq_ofNat_of_zero_le hn.1
  have hm : m < d.length := by rw [h.len]; omega
  refine ⟨m, rfl, by omega, h.len, h.tol, h.ge, h.le, h.zero, h.pos, fun x hx => h.inN x (by simp [hx]), fun x hx => h.nowd x (by simp [hx]), ?_, ?_⟩
  · intro m' hm' hp
    rcases h.done m' hm' hp with h1 | ⟨j', h1⟩ | h1
    · rcases List.mem_cons.1 h1 with h1 | h1
      · exact .inr (.inl ⟨0, by rw [show m' = m by omega]⟩)
      · exact .inl h1
    · cases h1
    · exact .inr (.inr h1)
  · intro m2 j2 e
    simp only [Option.some.injEq, Prod.mk.injEq] at e
    obtain ⟨rfl, rfl⟩ := e
    refine ⟨hm, ?_, fun x hx => by simp at hx⟩
    have := h.nowd m (by simp)
    rwa [Int.toNat_natCast, getD_at hm] at this
theorem farGo_fuel {g : List (List Int)} {to : List Bool} : ∀ (f f' : Nat) (d now : List Int), FInv g to d now none → now.length + negs d ≤ f → now.length + negs d ≤ f' → farGo (turnL g) f d now = farGo (turnL g) f' d now
  | 0, f', d, now, h, h1, h2 => by
    have : now = [] := List.eq_nil_of_length_eq_zero (by omega)
    subst this
    cases f' <;> rfl
  | f + 1, 0, d, now, h, h1, h2 => by
    have : now = [] := List.eq_nil_of_length_eq_zero (by omega)
    subst this
    rfl
  | f + 1, f' + 1, d, [], h, h1, h2 => rfl
  | f + 1, f' + 1, d, n :: r, h, h1, h2 => by
    obtain ⟨m, rfl, hm, hp⟩ := h.pop
    obtain ⟨h3, h4⟩ := hp.steps _ (Nat.le_refl _)
    have h5 := h3.over
    rw [List.take_length] at h4 h5
    simp only [List.length_cons] at h1 h2
    unfold farGo
    rw [Int.toNat_natCast]
    exact farGo_fuel f f' _ _ h5 (by omega) (by omega)
theorem farGo_inv {g : List (List Int)} {to : List Bool} : ∀ (f : Nat) (d now : List Int), FInv g to d now none → now.length + negs d ≤ f → FInv g to (farGo (turnL g) f d now) [] none
  | 0, d, now, h, h1 => by
    have : now = [] := List.eq_nil_of_length_eq_zero (by omega)
    subst this
    exact h
  | f + 1, d, [], h, h1 => h
  | f + 1, d, n :: r, h, h1 => by
    obtain ⟨m, rfl, hm, hp⟩ := h.pop
    obtain ⟨h3, h4⟩ := hp.steps _ (Nat.le_refl _)
    have h5 := h3.over
    rw [List.take_length] at h4 h5
    simp only [List.length_cons] at h1
    unfold farGo
    rw [Int.toNat_natCast]
    exact farGo_inv f _ _ h5 (by omega)
theorem farD_get {to : List Bool} {n : Nat} (h : n < (farD to).length) : (farD to)[n] = if to.getD n false = true then 0 else -1 := by
  have h' : n < to.length := by simpa [farD] using h
  simp [farD, List.getD_eq_getElem?_getD, h']
theorem farD_negs (to : List Bool) : negs (farD to) + (to.countP fun b => b) = to.length := by
  unfold negs farD
  rw [List.countP_map, List.length_eq_countP_add_countP (fun b => b) (l := to), Nat.add_comm]
  congr 1
  apply List.countP_congr
  intro x _
  cases x <;> simp
theorem farN_len (to : List Bool) (n : Nat) : (farN to n).length ≤ n := by
  unfold farN
  rw [List.length_map]
  have := List.length_filter_le (fun k => to.getD k false) (List.range n)
  rwa [List.length_range] at this
theorem FInv.start {g : List (List Int)} {to : List Bool} (h : to.length = g.length) : FInv g to (farD to) (farN to to.length) none := by
  have hl : (farD to).length = g.length := by simp [farD, h]
  have hneg := farD_negs to
  refine ⟨hl, h, ?_, ?_, ?_, ?_, ?_, ?_, ?_, fun _ _ e => by cases e⟩
  · intro n hn; rw [farD_get]; split <;> omega
  · intro n hn
    rw [farD_get]
    split
    · rename_i ht
      have : 0 < to.countP fun b => b := by
        rw [List.countP_pos_iff]
        have hn' : n < to.length := by omega
        refine ⟨to[n], List.getElem_mem _, ?_⟩
        rw [List.getD_eq_getElem?_getD, List.getElem?_eq_getElem hn'] at ht
        exact ht
      omega
    · omega
  · intro n hn; rw [farD_get]; split <;> simp_all
  · intro n hn hp; rw [farD_get] at hp; split at hp <;> omega
  · intro x hx; simp [farN] at hx; obtain ⟨k, ⟨h1, _⟩, rfl⟩ := hx; omega
  · intro x hx
    simp [farN] at hx
    obtain ⟨k, ⟨h1, h2⟩, rfl⟩ := hx
    rw [Int.toNat_natCast, getD_at (by omega), farD_get, if_pos (by simpa using h2)]; omega
  · intro m hm hp
    rw [farD_get] at hp
    split at hp
    · rename_i ht
      refine .inl ?_
      simp [farN]
      exact ⟨m, ⟨by omega, by simpa using ht⟩, rfl⟩
    · omega
theorem farL_inv {g : List (List Int)} {to : List Bool} (h : to.length = g.length) : FInv g to (farL g to) [] none := by
  refine farGo_inv _ _ _ (FInv.start h) ?_
  have := farD_negs to
  have := farN_len to to.length
  omega

/- WAY -/
def dAt (d : List Int) (x : Int) : Int := d.getD x.toNat 0
def pickB (d : List Int) (at' n : Int) : Bool := decide (0 ≤ dAt d n) && (decide (at' < 0) || (decide (dAt d n < dAt d at') || (decide (dAt d n = dAt d at') && decide (n < at'))))
def wayPick (d : List Int) (l : List Int) : Int := l.foldl (fun at' n => if pickB d at' n then n else at') (-1)
def nextB (d : List Int) (at' nx n : Int) : Bool := decide (dAt d n = dAt d at' - 1) && (decide (nx < 0) || decide (n < nx))
def wayNext (d : List Int) (at' : Int) (row : List Int) : Int := row.foldl (fun nx n => if nextB d at' nx n then n else nx) (-1)
def wayGo (g : List (List Int)) (d : List Int) : Nat → Int → List Int
  | 0, a => [a]
  | f + 1, a => if 0 < dAt d a then a :: wayGo g d f (wayNext d a (g.getD a.toNat [])) else [a]
def wayF (g : List (List Int)) (from' : List Int) (to : List Bool) : List Int × Bool × Int :=
  if chkG g ≠ 0 then ([], false, chkG g) else if oddB g.length from' = true ∨ to.length ≠ g.length then ([], false, 1) else
  if wayPick (farL g to) from' < 0 then ([], false, 0) else (wayGo g (farL g to) g.length (wayPick (farL g to) from'), true, 0)
theorem pick_spec {d : List Int} : ∀ (l : List Int), (∀ x ∈ l, 0 ≤ x) → (wayPick d l = -1 ∧ ∀ x ∈ l, dAt d x < 0) ∨ (wayPick d l ∈ l ∧ 0 ≤ dAt d (wayPick d l)) := by
  have key : ∀ (l pre : List Int) (a : Int), (∀ x ∈ l, 0 ≤ x) → ((a = -1 ∧ ∀ x ∈ pre, dAt d x < 0) ∨ (a ∈ pre ∧ 0 ≤ a ∧ 0 ≤ dAt d a)) →
      ((l.foldl (fun at' n => if pickB d at' n then n else at') a = -1 ∧ ∀ x ∈ pre ++ l, dAt d x < 0) ∨ (l.foldl (fun at' n => if pickB d at' n then n else at') a ∈ pre ++ l ∧ 0 ≤ dAt d (l.foldl (fun at' n => if pickB d at' n then n else at') a))) := by
    intro l
    induction l with
    | nil => intro pre a _ h; simpa using h.imp id (fun h => ⟨h.1, h.2.2⟩)
    | cons x l ih =>
      intro pre a hl h
      have := ih (pre ++ [x]) (if pickB d a x then x else a) (fun y hy => hl y (by simp [hy])) (by
        have hx := hl x (by simp)
        rcases h with ⟨rfl, h2⟩ | ⟨h1, h2, h3⟩
        · by_cases h0 : 0 ≤ dAt d x
          · rw [if_pos (by simp [pickB, h0])]
            exact .inr ⟨by simp, hx, h0⟩
          · rw [if_neg (by simp [pickB, h0])]
            refine .inl ⟨rfl, fun y hy => ?_⟩
            rw [List.mem_append, List.mem_singleton] at hy
            rcases hy with hy | rfl
            · exact h2 y hy
            · omega
        · split
          · rename_i hp
            simp only [pickB, Bool.and_eq_true, decide_eq_true_eq] at hp
            exact .inr ⟨by simp, hx, hp.1⟩
          · exact .inr ⟨by simp [h1], h2, h3⟩)
      simpa using this
  intro l hl
  have := key l [] (-1) hl (.inl ⟨rfl, by simp⟩)
  simpa [wayPick] using this
theorem next_spec {d : List Int} {a : Int} (row : List Int) (hr : ∀ x ∈ row, 0 ≤ x) (h : ∃ m ∈ row, dAt d m = dAt d a - 1) : wayNext d a row ∈ row ∧ dAt d (wayNext d a row) = dAt d a - 1 := by
  have key : ∀ (l pre : List Int) (nx : Int), (∀ x ∈ l, 0 ≤ x) → ((nx = -1 ∧ ∀ x ∈ pre, dAt d x ≠ dAt d a - 1) ∨ (nx ∈ pre ∧ dAt d nx = dAt d a - 1)) →
      ((l.foldl (fun nx n => if nextB d a nx n then n else nx) nx = -1 ∧ ∀ x ∈ pre ++ l, dAt d x ≠ dAt d a - 1) ∨ (l.foldl (fun nx n => if nextB d a nx n then n else nx) nx ∈ pre ++ l ∧ dAt d (l.foldl (fun nx n => if nextB d a nx n then n else nx) nx) = dAt d a - 1)) := by
    intro l
    induction l with
    | nil => intro pre nx _ h; simpa using h
    | cons x l ih =>
      intro pre nx hl h
      have := ih (pre ++ [x]) (if nextB d a nx x then x else nx) (fun y hy => hl y (by simp [hy])) (by
        rcases h with ⟨rfl, h2⟩ | ⟨h1, h2⟩
        · by_cases h0 : dAt d x = dAt d a - 1
          · rw [if_pos (by simp [nextB, h0])]
            exact .inr ⟨by simp, h0⟩
          · rw [if_neg (by simp [nextB, h0])]
            refine .inl ⟨rfl, fun y hy => ?_⟩
            rw [List.mem_append, List.mem_singleton] at hy
            rcases hy with hy | rfl
            · exact h2 y hy
            · exact h0
        · split
          · rename_i hp
            simp only [nextB, Bool.and_eq_true, decide_eq_true_eq] at hp
            exact .inr ⟨by simp, hp.1⟩
          · exact .inr ⟨by simp [h1], h2⟩)
      simpa using this
  have := key row [] (-1) hr (.inl ⟨rfl, by simp⟩)
  simp only [List.nil_append] at this
  rcases this with ⟨_, h2⟩ | h2
  · obtain ⟨m, hm, he⟩ := h; exact absurd he (h2 m hm)
  · exact h2
/-- a list that is the way from a -/
structure WayOK (g : List (List Int)) (d : List Int) (l : List Int) (a : Int) : Prop where
  len : (l.length : Int) = dAt d a + 1
  hd : l[0]? = some a
  at' : ∀ i (hi : i < l.length), dAt d l[i] = dAt d a - i
  inR : ∀ i (hi : i < l.length), 0 ≤ l[i] ∧ l[i] < g.length
  go : ∀ i (hi : i < l.length) (f' : Nat), dAt d l[i] ≤ f' → wayGo g d f' l[i] = l.drop i
  edge : ∀ i (hi : i < l.length) (hp : 0 < i), l[i] ∈ g.getD (l[i - 1]'(by omega)).toNat []
section
variable {g : List (List Int)} {to : List Bool} (h : FInv g to (farL g to) [] none) (hg : okG g)
include h hg
theorem way_next {a : Int} (ha : 0 ≤ a ∧ a < g.length) (hp : 0 < dAt (farL g to) a) :
    wayNext (farL g to) a (g.getD a.toNat []) ∈ g.getD a.toNat [] ∧ dAt (farL g to) (wayNext (farL g to) a (g.getD a.toNat [])) = dAt (farL g to) a - 1 ∧ 0 ≤ wayNext (farL g to) a (g.getD a.toNat []) ∧ wayNext (farL g to) a (g.getD a.toNat []) < g.length := by
  have hr := okG_row hg a.toNat
  have hal : a.toNat < (farL g to).length := by rw [h.len]; omega
  unfold dAt at hp
  rw [getD_at hal] at hp
  obtain ⟨m, hm, h1, h2⟩ := h.pos a.toNat hal hp
  have hx := next_spec (d := farL g to) (a := a) (g.getD a.toNat []) (fun x hx => (hr x hx).1) ⟨(m : Int), h1, by unfold dAt; rw [Int.toNat_natCast, getD_at hm, getD_at hal]; exact h2⟩
  exact ⟨hx.1, hx.2, hr _ hx.1⟩
/-- the way from a -/
theorem way_all : ∀ (f : Nat) (a : Int), 0 ≤ a ∧ a < g.length → 0 ≤ dAt (farL g to) a → dAt (farL g to) a ≤ f → WayOK g (farL g to) (wayGo g (farL g to) f a) a
  | f, a, ha, h0, hf => by
    by_cases hp : 0 < dAt (farL g to) a
    · cases f with
      | zero => omega
      | succ f =>
        have hn := way_next h hg ha hp
        generalize hx : wayNext (farL g to) a (g.getD a.toNat []) = x at *
        have ih := way_all f x hn.2.2 (by omega) (by omega)
        generalize hl : wayGo g (farL g to) f x = l at *
        have hz : ∀ (h : 0 < l.length), l[0] = x := fun h => by
          have := ih.hd
          rw [List.getElem?_eq_getElem h] at this
          exact Option.some.inj this
        have hl0 : 0 < l.length := by have := ih.len; omega
        have efu : ∀ f' : Nat, dAt (farL g to) a ≤ f' → wayGo g (farL g to) f' a = a :: l := by
          intro f' hf'
          cases f' with
          | zero => omega
          | succ f' =>
            rw [wayGo, if_pos hp, hx]
            have h0 := ih.go 0 hl0 f' (by rw [hz hl0]; omega)
            rw [hz hl0] at h0
            rw [h0]; rfl
        rw [efu (f + 1) hf]
        have hlen := ih.len
        refine ⟨by rw [List.length_cons]; omega, rfl, fun i hi => ?_, fun i hi => ?_, fun i hi f' hf' => ?_, fun i hi hpos => ?_⟩
        · cases i with
          | zero => simp
          | succ i =>
            have := ih.at' i (by simpa using hi)
            simp only [List.getElem_cons_succ]; omega
        · cases i with
          | zero => exact ha
          | succ i => exact ih.inR i (by simpa using hi)
        · cases i with
          | zero => exact efu f' hf'
          | succ i => exact ih.go i (by simpa using hi) f' hf'
        · cases i with
          | zero => omega
          | succ i =>
            cases i with
            | zero =>
              simp only [List.getElem_cons_succ, Nat.zero_add, Nat.sub_self, List.getElem_cons_zero]
              rw [hz hl0]; exact hn.1
            | succ i =>
              have := ih.edge (i + 1) (by simpa using hi) (by omega)
              simpa using this
    · have e : ∀ f', wayGo g (farL g to) f' a = [a] := by
        intro f'
        cases f' with
        | zero => rfl
        | succ f' => rw [wayGo, if_neg hp]
      rw [e]
      have h1 : ∀ i, i < [a].length → i = 0 := fun i hi => by simpa using hi
      refine ⟨by simp; omega, by simp, fun i hi => ?_, fun i hi => ?_, fun i hi f' hf' => ?_, fun i hi hpos => ?_⟩ <;> obtain rfl := h1 i hi
      · simp
      · exact ha
      · exact e f'
      · omega
end
/-- what one comes to from some, if something marked is among it -/
theorem rch_way {g : List (List Int)} {to : List Bool} (h : FInv g to (farL g to) [] none) (hg : okG g) {f : List Int} (hf : okL g.length f) : (∃ n, n < g.length ∧ Rch g f n ∧ to.getD n false = true) ↔ ∃ x ∈ f, 0 ≤ dAt (farL g to) x := by
  constructor
  · rintro ⟨n, hn, hr, ht⟩
    apply Classical.byContradiction
    intro hno
    have key : ∀ m, Rch g f m → m < g.length ∧ dAt (farL g to) m < 0 := by
      intro m hm
      induction hm with
      | @base x hx =>
        have := hf x hx
        refine ⟨by omega, ?_⟩
        rw [show ((x.toNat : Nat) : Int) = x by omega]
        exact Int.not_le.1 fun h0 => hno ⟨x, hx, h0⟩
      | @step m x _ hx ih =>
        have hxr := okG_row hg m x hx
        refine ⟨by omega, ?_⟩
        rw [show ((x.toNat : Nat) : Int) = x by omega]
        apply Int.not_le.1
        intro h0
        have hxl : x.toNat < (farL g to).length := by rw [h.len]; omega
        have hml : m < (farL g to).length := by rw [h.len]; exact ih.1
        unfold dAt at h0
        rw [getD_at hxl] at h0
        have := h.done x.toNat hxl h0
        rcases this with h1 | ⟨j, h1⟩ | h1
        · cases h1
        · cases h1
        · have h2 := h1 m hml (by rw [show ((x.toNat : Nat) : Int) = x by omega]; exact hx)
          have h3 := ih.2
          unfold dAt at h3
          rw [Int.toNat_natCast, getD_at hml] at h3
          omega
    have h1 := (key n hr).2
    have hnl : n < (farL g to).length := by rw [h.len]; exact hn
    unfold dAt at h1
    rw [Int.toNat_natCast, getD_at hnl, (h.zero n hnl).2 ht] at h1
    omega
  · rintro ⟨x, hx, h0⟩
    have hxr := hf x hx
    have hW := way_all h hg (dAt (farL g to) x).toNat x hxr h0 (by omega)
    generalize wayGo g (farL g to) (dAt (farL g to) x).toNat x = l at hW
    have hlen := hW.len
    have hr : ∀ i (hi : i < l.length), Rch g f l[i].toNat := by
      intro i
      induction i with
      | zero =>
        intro hi
        have := hW.hd
        rw [List.getElem?_eq_getElem hi] at this
        rw [Option.some.inj this]
        exact .base hx
      | succ i ih =>
        intro hi
        exact .step (ih (by omega)) (by have := hW.edge (i + 1) hi (by omega); simpa using this)
    have hi : l.length - 1 < l.length := by omega
    have h1 := hW.at' _ hi
    have h2 := hW.inR _ hi
    refine ⟨l[l.length - 1].toNat, by omega, hr _ hi, ?_⟩
    have hll : l[l.length - 1].toNat < (farL g to).length := by rw [h.len]; omega
    refine (h.zero _ hll).1 ?_
    unfold dAt at h1 hlen
    rw [getD_at hll] at h1
    omega
end Go.Proofs.Ytadbkppgaekmpaa
