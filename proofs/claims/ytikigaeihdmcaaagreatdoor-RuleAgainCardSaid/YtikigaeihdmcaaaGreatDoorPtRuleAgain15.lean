import Derived.Test.YtikigaeihdmcaaaGreatDoorPtRuleAgain14
/-
  rule's reader of words: text, formula: walked.
-/
set_option linter.unusedVariables false
set_option linter.unusedSimpArgs false
namespace Go.Proofs.YtikigaeihdmcaaaGreatDoor
open Go.RowKit

instance iRtv1 : IsF Tryz.prog 68 := ⟨_, Tryz.func68, rfl, by decide⟩
instance iRtv2 : IsF Tryz.prog 47 := ⟨_, Tryz.func47, rfl, by decide⟩
theorem SenH.bnd {w : World} {a : Nat → Addr} (h : SenH w a) : 3 < w.heap.size ∧ ∀ i, i < 3 → (a i).block < w.heap.size := by
  refine ⟨cell_lt h.g2, fun i hi => ?_⟩
  obtain ⟨c, t, h⟩ := h.h i hi
  exact (Array.getElem?_eq_some_iff.1 h).1
theorem SenH.low {w w' : World} {a : Nat → Addr} (h : SenH w a) (hE : Ext w w') : SenH w' a := h.kept (hE.grw none) (fun b e => by cases e) h.bnd
theorem joinS_drop : ∀ (l : List Bys) (n : Nat), (joinS 32 (l.drop n)).length ≤ (joinS 32 l).length
  | [], n => by simp
  | x :: r, 0 => Nat.le_refl _
  | [x], n + 1 => by simp [joinS]
  | x :: y :: r, n + 1 => by
    have := joinS_drop (y :: r) n
    simp only [List.drop_succ_cons, joinS, List.length_append, List.length_cons] at this ⊢
    omega
theorem rtext_ok (w : World) {b : Nat} {wo : Option Addr} {wc : Nat} {W : List ByteArray} {no : Option Addr} {nc : Nat} {nms : List ByteArray} {st : RSt} (h : RRd w b wo wc W no nc nms st) :
    Rt Tryz.prog 68 [.pointer (some ⟨b, 0, none⟩)].toArray w fun v w' => v = tV (joinS 32 st.1) ∧ Ext w w' := by
  have hW := h.sz
  have hle := h.le
  have hD := Ext.drew w
  have hd := h.ext hD
  have hb := hd.blk
  have hws : ∀ w', Ext (drew w) w' → Sl w' (Old w') wo wc W := fun w' e => (hd.ext e).ws.mono (fun _ _ => rfl) (fun c hc => Nat.lt_trans hc (hd.ext e).lt)
  have hj : ∀ w', Ext (drew w) w' → Rt Tryz.prog 83 [.slice (if wc = W.length - st.1.length then wo else wo.map (·.add ((W.length - st.1.length) * sz ByteArray))) (W.length - (W.length - st.1.length)) (wc - (W.length - st.1.length)), tV [32]].toArray w' fun v w'' => v = tV (joinS 32 st.1) ∧ Ext w' w'' := fun w' e => by
    have hs := (hws w' e).drop (k := W.length - st.1.length) (by omega)
    have hm : (W.drop (W.length - st.1.length)).map bysA = st.1 := by rw [List.map_drop]; exact h.dr.symm
    have := sjoin_ok w' hs (by rw [List.map_drop]; have := joinS_drop (W.map bysA) (W.length - st.1.length); have := h.tot; omega) (by rw [List.length_drop]; omega)
    rw [hm, List.length_drop] at this
    exact this
  refine Rt.enter1 Tryz.func68 Tryz.ntmps68 rfl rfl ?_
  (repeat (first | (apply WL.pure; rfl; rfl; rfl) | (apply WL.nil) | (apply EX.thenN) | (apply CW.seq) | (apply CW.region)))
  refine CW.drawM 10 mixed (by kernel_rfl) ?_
  (repeat (first | (refine ML.q rfl rfl rfl (fun γ' w' hw' => WL.pure rfl rfl rfl (WL.nil (EX.mm rfl (Ext.refl _) rfl))) ?_) | (refine ML.q rfl rfl rfl (fun γ' w' hw' => WL.fa rfl rfl rfl (WL.nil (EX.mm rfl (Ext.refl _) rfl))) ?_) | (apply ML.q; rfl; rfl; rfl; (intro γ' w' hw'; apply WL.ld; rfl; rfl; rfl; apply Blk.ext; assumption; exact hw'; rfl; exact WL.nil (EX.mm rfl (Ext.refl _) rfl))) | (refine ML.q rfl rfl rfl (fun γ' w' hw' => WL.nck rfl rfl rfl (WL.nil (EX.mm rfl (Ext.refl _) rfl))) ?_)))
  refine ML.q rfl rfl rfl (fun γ' w' hw' => WL.cutLo (α := ByteArray) (W.length - st.1.length) rfl rfl rfl rfl rfl (by omega) (hws _ hw').le (WL.nil (EX.mm rfl (Ext.refl _) rfl))) ?_
  refine ML.kc (v := tV (joinS 32 st.1)) rfl rfl rfl (fun γ w hw => by
    change WL _ _ _ _ _ _ _
    refine WL.call rfl rfl rfl (hj w hw) ?_
    rintro _ w' ⟨rfl, e'⟩
    exact WL.nil (EX.mm rfl e' rfl)) ?_
  refine ML.nil fun γ w6 hw6 => ?_
  change WL _ _ _ _ _ _ _
  (repeat (apply WL.pure; rfl; rfl; rfl))
  refine WL.nil (EX.tailE ?_)
  (repeat (first | (apply EX.thenN) | (apply CW.ret)))
  exact EX.ret1 rfl rfl ⟨rfl, hD.trans hw6⟩
/-- all but two blocks stand -/
structure Two (w w' : World) (b c : Nat) : Prop where
  os : w'.os = w.os
  tape : w'.tape = w.tape
  output : w'.output = w.output
  size : w.heap.size ≤ w'.heap.size
  block : ∀ x, x < w.heap.size → x ≠ b → x ≠ c → w'.heap[x]? = w.heap[x]?
theorem Two.l {w w' w'' : World} {b c : Nat} (h : w.grownBy w' (some b)) (k : Two w' w'' b c) : Two w w'' b c :=
  ⟨k.os.trans h.os, k.tape.trans h.tape, k.output.trans h.output, Nat.le_trans h.size k.size, fun x hx h1 h2 => (k.block x (Nat.lt_of_lt_of_le hx h.size) h1 h2).trans (h.block x hx (fun e => h1 (Option.some.inj e)))⟩
theorem Two.of1 {w w' w'' : World} {b c : Nat} (h : w.grownBy w' (some b)) (k : w'.grownBy w'' (some c)) : Two w w'' b c :=
  ⟨k.os.trans h.os, k.tape.trans h.tape, k.output.trans h.output, Nat.le_trans h.size k.size, fun x hx h1 h2 => (k.block x (Nat.lt_of_lt_of_le hx h.size) (fun e => h2 (Option.some.inj e))).trans (h.block x hx (fun e => h1 (Option.some.inj e)))⟩
theorem Two.r {w w' w'' : World} {b c : Nat} (h : Two w w' b c) (k : w'.grownBy w'' (some b)) : Two w w'' b c :=
  ⟨k.os.trans h.os, k.tape.trans h.tape, k.output.trans h.output, Nat.le_trans h.size k.size, fun x hx h1 h2 => (k.block x (Nat.lt_of_lt_of_le hx h.size) (fun e => h1 (Option.some.inj e))).trans (h.block x hx h1 h2)⟩
abbrev rulLR (nm : ByteArray) (so : Int) (pt : LPat) (tp : LTpl) (lk ln : Int) (lo : Option Addr) (ll lc : Nat) (ck cn : Int) (co : Option Addr) (cl cc : Nat) : List Value := [.string nm, .int .i64 so,
  .int .i64 pt.1, .int .i64 pt.2.1, .int .i64 pt.2.2.1, .int .i64 pt.2.2.2.1, .int .i64 pt.2.2.2.2.1, .int .i64 pt.2.2.2.2.2.1, .int .i64 pt.2.2.2.2.2.2,
  .int .i64 tp.1, .int .i64 tp.2.1, .int .i64 tp.2.2.1, .int .i64 tp.2.2.2, .int .i64 lk, .int .i64 ln, .slice lo ll lc, .int .i64 ck, .int .i64 cn, .slice co cl cc]
abbrev rul0 (nm : ByteArray) (so : Int) : List Value := rulLR nm so patZ tplZ 0 0 none 0 0 0 0 none 0 0
set_option maxHeartbeats 4000000 in
theorem rformL_ok (w0 w : World) {b b3 : Nat} {nm : ByteArray} {wo : Option Addr} {wc : Nat} {W : List ByteArray} {no : Option Addr} {nc : Nat} {nms : List ByteArray} {st : RSt} (h : RRd w b wo wc W no nc nms st) (hne : st.1 ≠ []) (he0 : st.2 = 0) (hb3 : Blk w b3 33 (rul0 nm 3)) (hlt : b < b3) (hX : Below b w0 w) (hb0 : w0.heap.size ≤ b) (hE : ErrH w0) {sa : Nat → Addr} (hSn : SenH w0 sa) :
    Rt Tryz.prog 47 [.pointer (some ⟨b, 0, none⟩), .pointer (some ⟨b3, 0, none⟩)].toArray w fun v w' => v = .tuple #[] ∧ ∃ xo xc, Blk w' b3 33 (rulLR nm 3 patZ tplZ (parseL (joinS 32 (takeW st).1) nms).1.k (parseL (joinS 32 (takeW st).1) nms).1.n xo (parseL (joinS 32 (takeW st).1) nms).1.kids.length xc 0 0 none 0 0) ∧ Sl w' (fun c => w.heap.size ≤ c ∧ c < w'.heap.size) xo xc (parseL (joinS 32 (takeW st).1) nms).1.kids ∧
      RRd w' b wo wc W no nc nms (if (parseL (joinS 32 (takeW st).1) nms).2.2 ≠ 0 then failW (takeW st) (parseL (joinS 32 (takeW st).1) nms).2.2 else ([], st.2)) ∧ Two w w' b b3 := by
  have hWs := h.sz
  have hle := h.le
  have hb := h.blk
  have hlb := h.lt
  have hlb3 := hb3.lt
  refine Rt.enter2 Tryz.func47 Tryz.ntmps47 rfl rfl ?_
  (repeat (first | (apply WL.add; rfl; rfl; rfl; rfl; omega; omega) | (apply WL.pure; rfl; rfl; rfl) | (apply CW.seq) | (apply CW.region) | (apply WL.fa; rfl; rfl; rfl) | (apply WL.nck; rfl; rfl; rfl) | (apply WL.ld; rfl; rfl; rfl; assumption; rfl)))
  refine WL.st rfl rfl rfl hb rfl rfl (ones_of rfl) (fun w1 hb1 hg1 => ?_)
  have h1 := h.took hne hg1 hb1
  have hb31 := hb3.kept hg1 (fun e => by have := Option.some.inj e; omega)
  clear hb1 hb
  have hX1 : Below b w0 w1 := hX.grown hg1 (Nat.le_of_lt hlb) (fun k e => by cases e; exact Nat.le_refl _)
  have hle1 := h1.le
  generalize hst : takeW st = s1 at *
  have hs1 : s1.2 = st.2 := by rw [← hst]; rfl
  (repeat (first | (apply WL.pure; rfl; rfl; rfl) | (apply WL.nil) | (apply EX.thenN) | (apply CW.seq) | (apply CW.region) | (apply WL.fa; rfl; rfl; rfl) | (apply WL.nck; rfl; rfl; rfl) | (apply WL.ld; rfl; rfl; rfl; assumption; rfl) | (apply CW.condT; rfl)))
  have hD := Ext.drew w1
  have hd := h1.ext hD
  have hb3d := hb31.ext hD
  have hbd := hd.blk
  have hXd : Below b w0 (drew w1) := hX1.drew
  have hEd : Ext w0 (drew w1) := hXd.mono hb0
  have z1 := hg1.size
  have hKs : ∀ u, (fun z : World => z.heap[b]? = (drew w1).heap[b]?) u → u.heap[b]? = (drew w1).heap[b]? := fun u h => h
  skip
  refine CW.drawH (fun z : World => z.heap[b]? = (drew w1).heap[b]?) [(0, true), (1, true), (3, true), (4, true), (5, true), (6, true), (2, false), (7, false), (8, true), (9, true), (10, true), (11, true), (12, true), (13, true), (14, false), (15, true)] mixed (by kernel_rfl) rfl ?_
  (repeat (first | (apply HL.pure; rfl; rfl; rfl; rfl) | (refine HL.fa rfl rfl rfl rfl ?_) | (apply HL.nck; rfl; rfl; rfl; rfl) | (refine HL.ldK (by assumption) rfl rfl rfl rfl (by assumption) rfl ?_)))
  refine HL.mut rfl (WL.call rfl rfl rfl (rtext_ok (drew w1) hd) ?_)
  rintro _ w2 ⟨rfl, e2⟩
  refine WL.nil (EX.mut (e2.block b hd.lt) ?_)
  have h2 := hd.ext e2
  have hn2 : Sl w2 (Old w2) no nc nms := h2.nm.mono (fun _ _ => rfl) (fun c hc => Nat.lt_trans hc h2.lt)
  have hE2 := hEd.trans e2
  refine HL.mut rfl (WL.call rfl rfl rfl (lparse_ok w2 (hE.kept (hE2.grw none) (by simp)) (hSn.low hE2) (s := joinS 32 s1.1) hn2) ?_)
  rintro _ w3 ⟨x, rfl, hx, e3⟩
  refine WL.nil (EX.mut ((e3.block b h2.lt).trans (e2.block b hd.lt)) ?_)
  obtain ⟨xo, xc, rfl, hxk⟩ := Rd.ltl hx
  have hb33 := (hb3d.ext e2).ext e3
  have h3 := h2.ext e3
  have z2 := e2.size
  have z3 := e3.size
  have zd := hD.size
  (repeat (first | (apply HL.pure; rfl; rfl; rfl; rfl) | (refine HL.fa rfl rfl rfl rfl ?_) | (apply HL.nck; rfl; rfl; rfl; rfl)))
  refine HL.mut rfl (WL.st rfl rfl rfl hb33 rfl rfl (ones_of rfl) (fun w4 hb34 hg4 => ?_))
  refine WL.nil (EX.mut ((hg4.block b h3.lt (fun e => by have := Option.some.inj e; omega)).trans ((e3.block b h2.lt).trans (e2.block b hd.lt))) ?_)
  (repeat (first | (apply HL.pure; rfl; rfl; rfl; rfl) | (apply HL.nil)))
  have h4 := h3.keep hg4 (fun c e => by have := Option.some.inj e; omega)
  have hxk4 : Sl w4 (fun c => w.heap.size ≤ c ∧ c < w4.heap.size) xo xc _ := hxk.mono (fun c hc => hg4.block c hc.2 (fun e => by have := Option.some.inj e; have := hc.1; omega)) (fun c hc => ⟨by have := hc.1; omega, Nat.lt_of_lt_of_le hc.2 hg4.size⟩)
  have hT : Two w w4 b b3 := Two.of1 (grT hg1 ((hD.trans (e2.trans e3)).grw _)) hg4
  have z4 := hg4.size
  clear hx hxk hb33 hb3d hbd hKs
  generalize parseL (joinS 32 s1.1) nms = pr at *
  obtain ⟨t, a, e⟩ := pr
  dsimp only at hxk4 hb34 ⊢
  have hb4 := h4.blk
  (repeat (first | (apply WL.pure; rfl; rfl; rfl) | (apply WL.nil) | (apply EX.thenN) | (apply CW.seq) | (apply CW.region)))
  refine CW.cond rfl (fun hc => ?_) (fun hc => ?_)
  · have hc : e ≠ 0 := by simpa using hc
    rw [if_pos hc]
    (repeat (first | (apply WL.pure; rfl; rfl; rfl) | (apply CW.seq) | (apply CW.region)))
    refine WL.call rfl rfl rfl (fail_ok w4 h4 e) ?_
    rintro _ w5 ⟨rfl, h5, g5⟩
    (repeat (first | (apply WL.nil) | (apply EX.thenN) | (apply CW.ret) | (apply EX.thenR)))
    exact EX.ret0 rfl ⟨rfl, xo, xc, hb34.kept g5 (fun e => by have := Option.some.inj e; omega), hxk4.mono (fun c hc => g5.block c hc.2 (fun e => by have := Option.some.inj e; have := hc.1; omega)) (fun c hc => ⟨hc.1, Nat.lt_of_lt_of_le hc.2 g5.size⟩), h5, hT.r g5⟩
  · have hc : e = 0 := by simpa using hc
    rw [if_neg (by simpa using hc)]
    (repeat (first | (apply WL.pure; rfl; rfl; rfl) | (apply EX.thenN) | (apply CW.region) | (apply WL.lenS; rfl; rfl; rfl) | (apply WL.fa; rfl; rfl; rfl) | (apply WL.nck; rfl; rfl; rfl) | (apply WL.ld; rfl; rfl; rfl; assumption; rfl) | (apply CW.skip)))
    refine WL.st rfl rfl rfl hb4 rfl rfl (ones_of rfl) (fun w5 hb5 g5 => ?_)
    (repeat (apply WL.nil))
    refine EX.end0 rfl ⟨rfl, xo, xc, hb34.kept g5 (fun e => by have := Option.some.inj e; omega), hxk4.mono (fun c hc => g5.block c hc.2 (fun e => by have := Option.some.inj e; have := hc.1; omega)) (fun c hc => ⟨hc.1, Nat.lt_of_lt_of_le hc.2 g5.size⟩), h4.own (st' := ([], st.2)) g5 ?_ ?_ (Nat.zero_le _), hT.r g5⟩
    · rw [← hs1]; exact hb5
    · show [] = (W.map bysA).drop (W.length - 0)
      rw [Nat.sub_zero, ← List.length_map (f := bysA), List.drop_length]
set_option maxHeartbeats 4000000 in
theorem rformC_ok (w0 w : World) {b b3 : Nat} {nm : ByteArray} {wo : Option Addr} {wc : Nat} {W : List ByteArray} {no : Option Addr} {nc : Nat} {nms : List ByteArray} {st : RSt} (h : RRd w b wo wc W no nc nms st) (hne : st.1 ≠ []) (he0 : st.2 = 0) (hb3 : Blk w b3 33 (rul0 nm 4)) (hlt : b < b3) (hX : Below b w0 w) (hb0 : w0.heap.size ≤ b) (hE : ErrH w0) :
    Rt Tryz.prog 47 [.pointer (some ⟨b, 0, none⟩), .pointer (some ⟨b3, 0, none⟩)].toArray w fun v w' => v = .tuple #[] ∧ ∃ xo xc, Blk w' b3 33 (rulLR nm 4 patZ tplZ 0 0 none 0 0 (parseC (joinS 32 (takeW st).1) nms).1.k (parseC (joinS 32 (takeW st).1) nms).1.n xo (parseC (joinS 32 (takeW st).1) nms).1.kids.length xc) ∧ Sl w' (fun c => w.heap.size ≤ c ∧ c < w'.heap.size) xo xc (parseC (joinS 32 (takeW st).1) nms).1.kids ∧
      RRd w' b wo wc W no nc nms (if (parseC (joinS 32 (takeW st).1) nms).2.2 ≠ 0 then failW (takeW st) (parseC (joinS 32 (takeW st).1) nms).2.2 else ([], st.2)) ∧ Two w w' b b3 := by
  have hWs := h.sz
  have hle := h.le
  have hb := h.blk
  have hlb := h.lt
  have hlb3 := hb3.lt
  refine Rt.enter2 Tryz.func47 Tryz.ntmps47 rfl rfl ?_
  (repeat (first | (apply WL.add; rfl; rfl; rfl; rfl; omega; omega) | (apply WL.pure; rfl; rfl; rfl) | (apply CW.seq) | (apply CW.region) | (apply WL.fa; rfl; rfl; rfl) | (apply WL.nck; rfl; rfl; rfl) | (apply WL.ld; rfl; rfl; rfl; assumption; rfl)))
  refine WL.st rfl rfl rfl hb rfl rfl (ones_of rfl) (fun w1 hb1 hg1 => ?_)
  have h1 := h.took hne hg1 hb1
  have hb31 := hb3.kept hg1 (fun e => by have := Option.some.inj e; omega)
  clear hb1 hb
  have hX1 : Below b w0 w1 := hX.grown hg1 (Nat.le_of_lt hlb) (fun k e => by cases e; exact Nat.le_refl _)
  have hle1 := h1.le
  generalize hst : takeW st = s1 at *
  have hs1 : s1.2 = st.2 := by rw [← hst]; rfl
  (repeat (first | (apply WL.pure; rfl; rfl; rfl) | (apply WL.nil) | (apply EX.thenN) | (apply CW.seq) | (apply CW.region) | (apply WL.fa; rfl; rfl; rfl) | (apply WL.nck; rfl; rfl; rfl) | (apply WL.ld; rfl; rfl; rfl; assumption; rfl) | (apply CW.condF; rfl)))
  have hD := Ext.drew w1
  have hd := h1.ext hD
  have hb3d := hb31.ext hD
  have hbd := hd.blk
  have hXd : Below b w0 (drew w1) := hX1.drew
  have hEd : Ext w0 (drew w1) := hXd.mono hb0
  have z1 := hg1.size
  have hKs : ∀ u, (fun z : World => z.heap[b]? = (drew w1).heap[b]?) u → u.heap[b]? = (drew w1).heap[b]? := fun u h => h
  skip
  refine CW.drawH (fun z : World => z.heap[b]? = (drew w1).heap[b]?) [(0, true), (1, true), (3, true), (4, true), (5, true), (6, true), (2, false), (7, false), (8, true), (9, true), (10, true), (11, true), (12, true), (13, true), (14, false), (15, true)] mixed (by kernel_rfl) rfl ?_
  (repeat (first | (apply HL.pure; rfl; rfl; rfl; rfl) | (refine HL.fa rfl rfl rfl rfl ?_) | (apply HL.nck; rfl; rfl; rfl; rfl) | (refine HL.ldK (by assumption) rfl rfl rfl rfl (by assumption) rfl ?_)))
  refine HL.mut rfl (WL.call rfl rfl rfl (rtext_ok (drew w1) hd) ?_)
  rintro _ w2 ⟨rfl, e2⟩
  refine WL.nil (EX.mut (e2.block b hd.lt) ?_)
  have h2 := hd.ext e2
  have hn2 : Sl w2 (Old w2) no nc nms := h2.nm.mono (fun _ _ => rfl) (fun c hc => Nat.lt_trans hc h2.lt)
  have hE2 := hEd.trans e2
  refine HL.mut rfl (WL.call rfl rfl rfl (cparse_ok w2 (hE.kept (hE2.grw none) (by simp)) (s := joinS 32 s1.1) hn2) ?_)
  rintro _ w3 ⟨x, rfl, hx, e3⟩
  refine WL.nil (EX.mut ((e3.block b h2.lt).trans (e2.block b hd.lt)) ?_)
  obtain ⟨xo, xc, rfl, hxk⟩ := Rd.ltl hx
  have hb33 := (hb3d.ext e2).ext e3
  have h3 := h2.ext e3
  have z2 := e2.size
  have z3 := e3.size
  have zd := hD.size
  (repeat (first | (apply HL.pure; rfl; rfl; rfl; rfl) | (refine HL.fa rfl rfl rfl rfl ?_) | (apply HL.nck; rfl; rfl; rfl; rfl)))
  refine HL.mut rfl (WL.st rfl rfl rfl hb33 rfl rfl (ones_of rfl) (fun w4 hb34 hg4 => ?_))
  refine WL.nil (EX.mut ((hg4.block b h3.lt (fun e => by have := Option.some.inj e; omega)).trans ((e3.block b h2.lt).trans (e2.block b hd.lt))) ?_)
  (repeat (first | (apply HL.pure; rfl; rfl; rfl; rfl) | (apply HL.nil)))
  have h4 := h3.keep hg4 (fun c e => by have := Option.some.inj e; omega)
  have hxk4 : Sl w4 (fun c => w.heap.size ≤ c ∧ c < w4.heap.size) xo xc _ := hxk.mono (fun c hc => hg4.block c hc.2 (fun e => by have := Option.some.inj e; have := hc.1; omega)) (fun c hc => ⟨by have := hc.1; omega, Nat.lt_of_lt_of_le hc.2 hg4.size⟩)
  have hT : Two w w4 b b3 := Two.of1 (grT hg1 ((hD.trans (e2.trans e3)).grw _)) hg4
  have z4 := hg4.size
  clear hx hxk hb33 hb3d hbd hKs
  generalize parseC (joinS 32 s1.1) nms = pr at *
  obtain ⟨t, a, e⟩ := pr
  dsimp only at hxk4 hb34 ⊢
  have hb4 := h4.blk
  (repeat (first | (apply WL.pure; rfl; rfl; rfl) | (apply WL.nil) | (apply EX.thenN) | (apply CW.seq) | (apply CW.region)))
  refine CW.cond rfl (fun hc => ?_) (fun hc => ?_)
  · have hc : e ≠ 0 := by simpa using hc
    rw [if_pos hc]
    (repeat (first | (apply WL.pure; rfl; rfl; rfl) | (apply CW.seq) | (apply CW.region)))
    refine WL.call rfl rfl rfl (fail_ok w4 h4 e) ?_
    rintro _ w5 ⟨rfl, h5, g5⟩
    (repeat (first | (apply WL.nil) | (apply EX.thenN) | (apply CW.ret) | (apply EX.thenR)))
    exact EX.ret0 rfl ⟨rfl, xo, xc, hb34.kept g5 (fun e => by have := Option.some.inj e; omega), hxk4.mono (fun c hc => g5.block c hc.2 (fun e => by have := Option.some.inj e; have := hc.1; omega)) (fun c hc => ⟨hc.1, Nat.lt_of_lt_of_le hc.2 g5.size⟩), h5, hT.r g5⟩
  · have hc : e = 0 := by simpa using hc
    rw [if_neg (by simpa using hc)]
    (repeat (first | (apply WL.pure; rfl; rfl; rfl) | (apply EX.thenN) | (apply CW.region) | (apply WL.lenS; rfl; rfl; rfl) | (apply WL.fa; rfl; rfl; rfl) | (apply WL.nck; rfl; rfl; rfl) | (apply WL.ld; rfl; rfl; rfl; assumption; rfl) | (apply CW.skip)))
    refine WL.st rfl rfl rfl hb4 rfl rfl (ones_of rfl) (fun w5 hb5 g5 => ?_)
    (repeat (apply WL.nil))
    refine EX.end0 rfl ⟨rfl, xo, xc, hb34.kept g5 (fun e => by have := Option.some.inj e; omega), hxk4.mono (fun c hc => g5.block c hc.2 (fun e => by have := Option.some.inj e; have := hc.1; omega)) (fun c hc => ⟨hc.1, Nat.lt_of_lt_of_le hc.2 g5.size⟩), h4.own (st' := ([], st.2)) g5 ?_ ?_ (Nat.zero_le _), hT.r g5⟩
    · rw [← hs1]; exact hb5
    · show [] = (W.map bysA).drop (W.length - 0)
      rw [Nat.sub_zero, ← List.length_map (f := bysA), List.drop_length]
end Go.Proofs.YtikigaeihdmcaaaGreatDoor

/-
  rule's reader of words: rule: walked.
-/
set_option linter.unusedVariables false
set_option linter.unusedSimpArgs false
namespace Go.Proofs.YtikigaeihdmcaaaGreatDoor
open Go.RowKit

instance iRtu1 : IsF Tryz.prog 27 := ⟨_, Tryz.func27, rfl, by decide⟩
instance iRtu2 : IsZC Tryz.prog 33 [.string ⟨#[]⟩, .int .i64 0, .int .i64 0, .int .i64 0, .int .i64 0, .int .i64 0, .int .i64 0, .int .i64 0, .int .i64 0, .int .i64 0, .int .i64 0, .int .i64 0, .int .i64 0, .int .i64 0, .int .i64 0, .slice none 0 0, .int .i64 0, .int .i64 0, .slice none 0 0] := IsZC.of (z := .agg #[.string ⟨#[]⟩, .int .i64 0, .int .i64 0, .int .i64 0, .int .i64 0, .int .i64 0, .int .i64 0, .int .i64 0, .int .i64 0, .int .i64 0, .int .i64 0, .int .i64 0, .int .i64 0, .int .i64 0, .int .i64 0, .slice none 0 0, .int .i64 0, .int .i64 0, .slice none 0 0]) (by kernel_rfl) rfl
instance iRtu3 : IsBd Tryz.prog 33 [(0, 1), (1, 1), (2, 7), (9, 4), (13, 3), (16, 3)] := IsBd.of (by kernel_rfl)
section
variable {w0 w w' : World} {b b2 b3 : Nat} {T : TypeId} {z c c' : List Value} {wo : Option Addr} {wc : Nat} {W : List ByteArray} {no : Option Addr} {nc : Nat} {nms : List ByteArray} {st st' : RSt}
theorem RW.two (h : RW w0 w b b2 b3 T z c wo wc W no nc nms st) (hT : Two w w' b b3) (hr : RRd w' b wo wc W no nc nms st') (hb : Blk w' b3 T c') : RW w0 w' b b2 b3 T z c' wo wc W no nc nms st' := by
  have h1 := h.lo; have h2 := h.lt; have h3 := h.lob
  have g := h.g
  exact ⟨hr, (hT.block b2 h.h2.lt (by omega) (by omega)).trans h.h2, hb, ⟨hT.os.trans g.os, hT.tape.trans g.tape, hT.output.trans g.output, Nat.le_trans g.size hT.size, fun x hx hn => (hT.block x (Nat.lt_of_lt_of_le hx g.size) (fun e => hn (by rw [e])) (by omega)).trans (g.block x hx hn)⟩, h1, h2, h3⟩
theorem head_join : ∀ l : List Bys, (l.headD []).length ≤ (joinS 32 l).length
  | [] => by simp
  | [x] => Nat.le_refl _
  | x :: y :: r => by simp only [List.headD_cons, joinS, List.length_append]; omega
theorem RRd.next_len (h : RRd w b wo wc W no nc nms st) : (nextW st).length ≤ 5000 := by
  unfold nextW
  split
  · simp
  · have h1 := head_join st.1
    have h2 := joinS_drop (W.map bysA) (W.length - st.1.length)
    rw [← h.dr] at h2
    have := h.tot
    omega
theorem RRd.next_ne (hx : nextW st ≠ []) : st.1 ≠ [] := fun e => hx (by unfold nextW; rw [e]; split <;> rfl)
end
set_option maxHeartbeats 4000000 in
theorem rrule_ok (w0 w : World) {b : Nat} {wo : Option Addr} {wc : Nat} {W : List ByteArray} {no : Option Addr} {nc : Nat} {nms : List ByteArray} {st : RSt} (h : RRd w b wo wc W no nc nms st) (he0 : st.2 = 0) (hX : Below b w0 w) (hb0 : w0.heap.size ≤ b) (hE : ErrH w0) {sa : Nat → Addr} (hSn : SenH w0 sa) :
    Rt Tryz.prog 27 [.pointer (some ⟨b, 0, none⟩)].toArray w fun v w' => ∃ lo lc co cc, v = rulV (ruleR nms st).1 lo lc co cc ∧ Sl w' (fun c => w.heap.size ≤ c ∧ c < w'.heap.size) lo lc (ruleR nms st).1.2.2.2.2.1.kids ∧ Sl w' (fun c => w.heap.size ≤ c ∧ c < w'.heap.size) co cc (ruleR nms st).1.2.2.2.2.2.kids ∧
      RRd w' b wo wc W no nc nms (ruleR nms st).2 ∧ w.grownBy w' (some b) := by
  have hWs := h.sz
  have lb := h.lt
  refine Rt.enter1 Tryz.func27 Tryz.ntmps27 rfl rfl ?_
  unfold ruleR
  (repeat (first | (apply CW.seq) | (apply CW.region)))
  refine WL.alloc rfl rfl (fun w1 hb2 x1 => ?_)
  have hr1 := h.ext x1
  have l2 := hb2.lt
  (repeat (first | (apply WL.pure; rfl; rfl; rfl) | (apply WL.nil) | (apply EX.thenN) | (apply CW.seq) | (apply CW.region)))
  refine WL.call rfl rfl rfl (next_ok w1 hr1) ?_
  rintro _ w2 ⟨rfl, x2⟩
  have hr2 := hr1.ext x2
  have hne1 := RRd.next_ne (st := st)
  generalize hnw : nextW st = nw at *
  skip
  refine WL.build (parts := [(0, .tmp 5)]) rfl rfl rfl rfl ?_
  refine WL.alloc rfl rfl (fun w3 hb3 x3 => ?_)
  refine WL.st rfl rfl rfl hb3 rfl rfl (ones_of rfl) (fun w4 hb3 hg4 => ?_)
  have z1 := x1.size
  have z2 := x2.size
  have l23 : w.heap.size < w2.heap.size := by omega
  have h : RW w w4 b w.heap.size w2.heap.size 33 (rul0 ⟨#[]⟩ 0) (rul0 (txA nw) 0) wo wc W no nc nms st :=
    ⟨(hr2.ext x3).keep hg4 (fun x e => by have := Option.some.inj e; omega), ((hb2.ext x2).ext x3).kept hg4 (fun e => by have := Option.some.inj e; omega), hb3, grN (((x1.trans x2).trans x3).grw _) hg4 (by omega), Nat.le_refl _, l23, lb⟩
  clear hb2 hb3 hr1 hr2 x1 x2 x3 hg4 z1 z2
  generalize w2.heap.size = b3 at *
  have hb3 := h.h3
  (repeat (first | (apply WL.nil) | (apply EX.thenN) | (apply CW.seq) | (apply CW.region) | (apply WL.fa; rfl; rfl; rfl) | (apply WL.ld; rfl; rfl; rfl; assumption; rfl)))
  refine WL.call rfl rfl rfl (Named_ok w4 (txA nw)) ?_
  rintro _ w5 ⟨rfl, x5⟩
  have h := h.ext x5
  have hnb : namedB (txA nw) = namedL nw := rfl
  rw [hnb]
  cases hn : namedL nw with
  | false =>
    rw [if_pos rfl]
    (repeat (first | (apply WL.pure; rfl; rfl; rfl) | (apply WL.nil) | (apply EX.thenN) | (apply CW.seq) | (apply CW.region) | (apply CW.condT; rfl)))
    refine WL.call rfl rfl rfl (fail_ok w5 h.rd 3) ?_
    rintro _ w6 ⟨rfl, h6, g6⟩
    have h := h.step h6 g6
    have hb3 := h.h3
    have hb2 := h.h2
    (repeat (first | (apply WL.nil) | (apply EX.thenN) | (apply CW.seq) | (apply CW.region) | (apply WL.ldA; rfl; rfl; rfl; assumption; rfl)))
    refine WL.st rfl rfl rfl hb2 rfl rfl (ones_of rfl) (fun wz hbz hgz => ?_)
    (repeat (first | (apply WL.nil) | (apply EX.thenN) | (apply CW.ret) | (apply EX.thenR)))
    have lt3 := h.lt
    have lo3 := h.lo
    have zz := hgz.size
    refine EX.retC rfl rfl hbz rfl ⟨_, _, _, _, rfl, Sl.zero _ _, Sl.zero _ _, h.rd.keep hgz (fun x e => by have := Option.some.inj e; omega), grN h.g hgz (Nat.le_refl _)⟩
  | true =>
  rw [if_neg (by decide)]
  have hb := h.rd.blk
  have hle := h.rd.le
  (repeat (first | (apply WL.add; rfl; rfl; rfl; rfl; omega; omega) | (apply WL.pure; rfl; rfl; rfl) | (apply WL.nil) | (apply EX.thenN) | (apply CW.seq) | (apply CW.region) | (apply WL.fa; rfl; rfl; rfl) | (apply WL.nck; rfl; rfl; rfl) | (apply WL.ld; rfl; rfl; rfl; assumption; rfl) | (apply CW.condF; rfl) | (apply CW.skip)))
  refine WL.st rfl rfl rfl hb rfl rfl (ones_of rfl) (fun w6 hb6 hg6 => ?_)
  have h := h.step (h.rd.took (hne1 (fun e => by rw [e] at hn; cases hn)) hg6 hb6) hg6
  clear hb hb6 hg6 hle hne1
  have hs1 : (takeW st).2 = 0 := he0
  generalize takeW st = s1 at *
  have lo6 := h.lo
  have lt6 := h.lt
  obtain ⟨w2s, hw2s⟩ : ∃ n, n = b3 := ⟨_, rfl⟩
  have hs0 : s1.2 = 0 := hs1
  (repeat (first | (apply WL.pure; rfl; rfl; rfl) | (apply WL.nil) | (apply EX.thenN) | (apply CW.seq) | (apply CW.region)))
  refine WL.call rfl rfl rfl (next_ok w6 h.rd) ?_
  rintro _ w7 ⟨rfl, x7⟩
  have h := h.ext x7
  have hne2 := RRd.next_ne (st := s1)
  generalize nextW s1 = nx at *
  (repeat (first | (apply WL.pure; rfl; rfl; rfl) | (apply WL.nil) | (apply EX.thenN) | (apply CW.seq) | (apply CW.region) | (apply CW.block)))
  by_cases hd : nx = tDecl
  · rw [if_pos hd]
    have hne2 := hne2 (by rw [hd]; decide)
    rw [show ((txA nx).data.toList == ({ data := #[100, 101, 99, 108, 97, 114, 101] } : ByteArray).data.toList) = true from beq_iff_eq.2 hd]
    (repeat (first | (apply WL.pure; rfl; rfl; rfl) | (apply CW.seq) | (apply CW.region) | (apply WL.fa; rfl; rfl; rfl) | (apply WL.nck; rfl; rfl; rfl) | (apply CW.condT; rfl)))
    have hb := h.rd.blk
    have hle := h.rd.le
    (repeat (first | (apply WL.add; rfl; rfl; rfl; rfl; omega; omega) | (apply WL.fa; rfl; rfl; rfl) | (apply WL.nck; rfl; rfl; rfl) | (apply WL.ld; rfl; rfl; rfl; assumption; rfl)))
    refine WL.st rfl rfl rfl hb rfl rfl (ones_of rfl) (fun wt hbt hgt => ?_)
    have h := h.step (h.rd.took hne2 hgt hbt) hgt
    clear hb hbt hgt hle
    generalize takeW s1 = s2 at *
    (repeat (first | (apply WL.pure; rfl; rfl; rfl) | (apply WL.nil) | (apply EX.thenN) | (apply CW.region)))
    refine WL.call rfl rfl rfl (rtpl_ok _ h.rd) ?_
    rintro _ w9 ⟨rfl, h9, g9⟩
    have h := h.step h9 g9
    generalize tplR nms s2 = pr at *
    obtain ⟨tp, s3⟩ := pr
    have hb3 := h.h3
    dsimp only at h ⊢
    (repeat (apply WL.fa; rfl; rfl; rfl))
    refine WL.st rfl rfl rfl hb3 rfl rfl (ones_of rfl) (fun wq hb hg => ?_)
    have h := h.put hb hg
    have hb3 := h.h3
    (repeat (apply WL.fa; rfl; rfl; rfl))
    refine WL.st rfl rfl rfl hb3 rfl rfl (ones_of rfl) (fun wq hb hg => ?_)
    have h := h.put hb hg
    have hb3 := h.h3
    have hb2 := h.h2
    (repeat (first | (apply WL.nil) | (apply EX.thenN) | (apply CW.seq) | (apply CW.region) | (apply WL.ldA; rfl; rfl; rfl; assumption; rfl) | (apply EX.inN)))
    refine WL.st rfl rfl rfl hb2 rfl rfl (ones_of rfl) (fun wz hbz hgz => ?_)
    (repeat (first | (apply WL.nil) | (apply EX.thenN) | (apply CW.ret)))
    have lt3 := h.lt
    have lo3 := h.lo
    have zz := hgz.size
    refine EX.retC rfl rfl hbz rfl ⟨_, _, _, _, rfl, Sl.zero _ _, Sl.zero _ _, h.rd.keep hgz (fun x e => by have := Option.some.inj e; omega), grN h.g hgz (Nat.le_refl _)⟩
  rw [if_neg hd]
  rw [show ((txA nx).data.toList == ({ data := #[100, 101, 99, 108, 97, 114, 101] } : ByteArray).data.toList) = false from beq_eq_false_iff_ne.2 hd]
  (repeat (first | (apply WL.pure; rfl; rfl; rfl) | (apply WL.nil) | (apply EX.thenN) | (apply CW.seq) | (apply CW.region) | (apply CW.condF; rfl)))
  by_cases hlt : nx = tLtl
  · rw [if_pos hlt]
    have hne2 := hne2 (by rw [hlt]; decide)
    rw [show ((txA nx).data.toList == ({ data := #[108, 116, 108] } : ByteArray).data.toList) = true from beq_iff_eq.2 hlt]
    have hb3 := h.h3
    (repeat (first | (apply CW.seq) | (apply CW.region) | (apply WL.fa; rfl; rfl; rfl) | (apply CW.condT; rfl)))
    refine WL.st rfl rfl rfl hb3 rfl rfl (ones_of rfl) (fun wf hbf hgf => ?_)
    have h := h.put hbf hgf
    have hXf : Below b w0 wf := hX.trans (⟨h.g.os, h.g.tape, h.g.output, h.g.size, fun x hx => h.g.block x (by omega) (fun e => by have := Option.some.inj e; omega)⟩)
    have ltf := h.lt
    have lof := h.lo
    (repeat (first | (apply WL.pure; rfl; rfl; rfl) | (apply WL.nil) | (apply EX.thenN) | (apply CW.region)))
    refine WL.call rfl rfl rfl (rformL_ok w0 wf h.rd hne2 hs0 h.h3 (by omega) hXf hb0 hE hSn) ?_
    rintro _ wg ⟨rfl, xo, xc, hbg, hxk, hrg, hTg⟩
    have h := h.two hTg hrg hbg
    have zgf := h.g.size
    have hlw : w.heap.size ≤ wf.heap.size := by have := Nat.le_of_lt ltf; have := hbf.lt; omega
    have hxk := hxk.mono (F' := fun c => w2s ≤ c ∧ c < wg.heap.size) (fun _ _ => rfl) (fun c hc => ⟨by have := hc.1; have := hbf.lt; omega, hc.2⟩)
    rw [hs0] at h
    rw [he0]
    have hb3 := h.h3
    have hb2 := h.h2
    (repeat (first | (apply WL.nil) | (apply EX.thenN) | (apply CW.seq) | (apply CW.region) | (apply WL.ldA; rfl; rfl; rfl; assumption; rfl) | (apply EX.inN)))
    refine WL.st rfl rfl rfl hb2 rfl rfl (ones_of rfl) (fun wz hbz hgz => ?_)
    (repeat (first | (apply WL.nil) | (apply EX.thenN) | (apply CW.ret)))
    have lt3 := h.lt
    have lo3 := h.lo
    have zz := hgz.size
    refine EX.retC rfl rfl hbz rfl ⟨_, _, _, _, rfl, hxk.mono (fun c hc => hgz.block c hc.2 (fun e => by have := Option.some.inj e; have := hc.1; omega)) (fun c hc => ⟨by have := hc.1; omega, Nat.lt_of_lt_of_le hc.2 zz⟩), Sl.zero _ _, h.rd.keep hgz (fun x e => by have := Option.some.inj e; omega), grN h.g hgz (Nat.le_refl _)⟩
  rw [if_neg hlt]
  rw [show ((txA nx).data.toList == ({ data := #[108, 116, 108] } : ByteArray).data.toList) = false from beq_eq_false_iff_ne.2 hlt]
  (repeat (first | (apply WL.pure; rfl; rfl; rfl) | (apply WL.nil) | (apply EX.thenN) | (apply CW.seq) | (apply CW.region) | (apply CW.condF; rfl)))
  by_cases hct : nx = tCtl
  · rw [if_pos hct]
    have hne2 := hne2 (by rw [hct]; decide)
    rw [show ((txA nx).data.toList == ({ data := #[99, 116, 108] } : ByteArray).data.toList) = true from beq_iff_eq.2 hct]
    have hb3 := h.h3
    (repeat (first | (apply CW.seq) | (apply CW.region) | (apply WL.fa; rfl; rfl; rfl) | (apply CW.condT; rfl)))
    refine WL.st rfl rfl rfl hb3 rfl rfl (ones_of rfl) (fun wf hbf hgf => ?_)
    have h := h.put hbf hgf
    have hXf : Below b w0 wf := hX.trans (⟨h.g.os, h.g.tape, h.g.output, h.g.size, fun x hx => h.g.block x (by omega) (fun e => by have := Option.some.inj e; omega)⟩)
    have ltf := h.lt
    have lof := h.lo
    (repeat (first | (apply WL.pure; rfl; rfl; rfl) | (apply WL.nil) | (apply EX.thenN) | (apply CW.region)))
    refine WL.call rfl rfl rfl (rformC_ok w0 wf h.rd hne2 hs0 h.h3 (by omega) hXf hb0 hE) ?_
    rintro _ wg ⟨rfl, xo, xc, hbg, hxk, hrg, hTg⟩
    have h := h.two hTg hrg hbg
    have zgf := h.g.size
    have hlw : w.heap.size ≤ wf.heap.size := by have := Nat.le_of_lt ltf; have := hbf.lt; omega
    have hxk := hxk.mono (F' := fun c => w2s ≤ c ∧ c < wg.heap.size) (fun _ _ => rfl) (fun c hc => ⟨by have := hc.1; have := hbf.lt; omega, hc.2⟩)
    rw [hs0] at h
    rw [he0]
    have hb3 := h.h3
    have hb2 := h.h2
    (repeat (first | (apply WL.nil) | (apply EX.thenN) | (apply CW.seq) | (apply CW.region) | (apply WL.ldA; rfl; rfl; rfl; assumption; rfl) | (apply EX.inN)))
    refine WL.st rfl rfl rfl hb2 rfl rfl (ones_of rfl) (fun wz hbz hgz => ?_)
    (repeat (first | (apply WL.nil) | (apply EX.thenN) | (apply CW.ret)))
    have lt3 := h.lt
    have lo3 := h.lo
    have zz := hgz.size
    refine EX.retC rfl rfl hbz rfl ⟨_, _, _, _, rfl, Sl.zero _ _, hxk.mono (fun c hc => hgz.block c hc.2 (fun e => by have := Option.some.inj e; have := hc.1; omega)) (fun c hc => ⟨by have := hc.1; omega, Nat.lt_of_lt_of_le hc.2 zz⟩), h.rd.keep hgz (fun x e => by have := Option.some.inj e; omega), grN h.g hgz (Nat.le_refl _)⟩
  rw [if_neg hct]
  rw [show ((txA nx).data.toList == ({ data := #[99, 116, 108] } : ByteArray).data.toList) = false from beq_eq_false_iff_ne.2 hct]
  (repeat (first | (apply WL.pure; rfl; rfl; rfl) | (apply CW.region) | (apply CW.condF; rfl)))
  refine WL.call rfl rfl rfl (rpat_ok _ h.rd) ?_
  rintro _ w9 ⟨rfl, h9, g9⟩
  have h := h.step h9 g9
  generalize patR nms s1 = pr at *
  obtain ⟨pt, s3⟩ := pr
  have hb3 := h.h3
  dsimp only at h ⊢
  (repeat (apply WL.fa; rfl; rfl; rfl))
  refine WL.st rfl rfl rfl hb3 rfl rfl (ones_of rfl) (fun wq hb hg => ?_)
  have h := h.put hb hg
  have hb3 := h.h3
  (repeat (apply WL.fa; rfl; rfl; rfl))
  refine WL.st rfl rfl rfl hb3 rfl rfl (ones_of rfl) (fun wq hb hg => ?_)
  have h := h.put hb hg
  have hb3 := h.h3
  have hb2 := h.h2
  (repeat (first | (apply WL.nil) | (apply EX.thenN) | (apply CW.seq) | (apply CW.region) | (apply WL.ldA; rfl; rfl; rfl; assumption; rfl) | (apply EX.inN)))
  refine WL.st rfl rfl rfl hb2 rfl rfl (ones_of rfl) (fun wz hbz hgz => ?_)
  (repeat (first | (apply WL.nil) | (apply EX.thenN) | (apply CW.ret)))
  have lt3 := h.lt
  have lo3 := h.lo
  have zz := hgz.size
  refine EX.retC rfl rfl hbz rfl ⟨_, _, _, _, rfl, Sl.zero _ _, Sl.zero _ _, h.rd.keep hgz (fun x e => by have := Option.some.inj e; omega), grN h.g hgz (Nat.le_refl _)⟩
end Go.Proofs.YtikigaeihdmcaaaGreatDoor

/-
  rule.Parse, walked.
-/
set_option linter.unusedVariables false
set_option linter.unusedSimpArgs false
namespace Go.Proofs.YtikigaeihdmcaaaGreatDoor
open Go.RowKit

theorem splitL_len (c : UInt8) : ∀ s : Bys, (splitL c s).length ≤ s.length + 1
  | [] => by simp [splitL]
  | b :: l => by
    have ih := splitL_len c l
    unfold splitL
    split
    · simp only [List.length_cons]; omega
    · split
      · simp
      · rename_i x r h
        rw [h] at ih
        simp only [List.length_cons] at ih ⊢; omega
/-- a rule that a call tells -/
def RG (w : World) (v : Value) (r : LRule) : Prop := ∃ lo lc co cc, v = rulV r lo lc co cc ∧ Sl w (Old w) lo lc r.2.2.2.2.1.kids ∧ Sl w (Old w) co cc r.2.2.2.2.2.kids ∧ r.1.size ≤ maxLen
theorem RG.zero (w : World) : RG w (.agg (rul0 ⟨#[]⟩ 0).toArray) ruleZ := ⟨none, 0, none, 0, rfl, Sl.zero _ _, Sl.zero _ _, by decide⟩
theorem ruleR_name {w : World} {b : Nat} {wo : Option Addr} {wc : Nat} {W : List ByteArray} {no : Option Addr} {nc : Nat} {nms : List ByteArray} {st : RSt} (h : RRd w b wo wc W no nc nms st) : (ruleR nms st).1.1.size ≤ maxLen := by
  have e : (ruleR nms st).1.1 = txA (nextW st) := by
    unfold ruleR
    split
    · rfl
    split
    · rfl
    split
    · rfl
    split
    · rfl
    · rfl
  rw [e, txA_size]
  have := h.next_len
  unfold maxLen; omega
set_option maxHeartbeats 4000000 in
theorem rparse_ok (w0 : World) (hM : MaxH w0) (hE : ErrH w0) {sa : Nat → Addr} (hSn : SenH w0 sa) {s : Bys} {no : Option Addr} {nc : Nat} {nms : List ByteArray} (hn : Sl w0 (Old w0) no nc nms) :
    Rt Tryz.prog 8 [tV s, .slice no nms.length nc].toArray w0 fun v w' => ∃ x, v = .tuple ⟨[x, .int .i64 ((parseR s nms).2.1 : Int), .int .i64 (parseR s nms).2.2]⟩ ∧ RG w' x (parseR s nms).1 ∧ Ext w0 w' := by
  refine Rt.enter2 Tryz.func8 Tryz.ntmps8 rfl rfl ?_
  unfold parseR
  (repeat (first | (apply CW.seq) | (apply CW.region)))
  refine WL.alloc rfl rfl (fun w1 hb4 e1 => ?_)
  (repeat (first | (apply WL.pure; rfl; rfl; rfl) | (apply WL.nil) | (apply EX.thenN) | (apply CW.seq) | (apply CW.region)))
  refine WL.lenP2 rfl rfl rfl ?_
  (repeat (first | (apply WL.pure; rfl; rfl; rfl) | (apply WL.nil) | (apply EX.thenN)))
  refine CW.cond rfl (fun h => ?_) (fun h => ?_)
  · have h : s.length > 4096 := by have : (s.length : Int) > 4096 := by simpa using h
                                   omega
    rw [if_pos h]
    (repeat (first | (apply CW.seq) | (apply CW.region)))
    refine WL.build (parts := []) rfl rfl rfl rfl ?_
    skip
    refine WL.st rfl rfl rfl hb4 rfl rfl (ones_of rfl) (fun w2 hb42 hg2 => ?_)
    (repeat (first | (apply WL.pure; rfl; rfl; rfl) | (apply WL.nil) | (apply EX.thenN) | (apply CW.ret) | (apply EX.thenR)))
    exact EX.retC3 rfl rfl rfl rfl hb42 rfl ⟨_, rfl, RG.zero _, e1.grown hg2 e1.size (fun g hg => by cases hg; exact Nat.le_refl _)⟩
  have hs : s.length ≤ 4096 := by have : ¬ (s.length : Int) > 4096 := by simpa using h
                                  omega
  rw [if_neg (by omega)]
  clear h
  have l4 := hb4.lt
  (repeat (first | (apply WL.pure; rfl; rfl; rfl) | (apply EX.thenN) | (apply CW.seq) | (apply CW.region) | (apply CW.skip)))
  refine WL.call rfl rfl rfl (split_ok w1 s (by omega) (hM.ext e1)) ?_
  rintro _ w2 ⟨⟨wo, wc, rfl, hws⟩, e2⟩
  have hb4 := hb4.ext e2
  (repeat (apply WL.pure; rfl; rfl; rfl))
  refine WL.build (parts := [(0, .tmp 15), (1, .tmp 16)]) rfl rfl rfl rfl ?_
  refine WL.boxB rfl rfl rfl fun w3 hb7 e3 => ?_
  have hb4 := hb4.ext e3
  have hE02 := e1.trans e2
  have z2 := hE02.size
  have z12 := e2.size
  have hlen := splitL_len 32 s
  have hjn := join_split 32 s
  have hsl3 : Sl w3 (fun c => c < w2.heap.size) wo wc ((splitL 32 s).map txA) := hws.mono (fun c hc => e3.block c hc.2) (fun c hc => hc.2)
  have hn3 : Sl w3 (fun c => c < w2.heap.size) no nc nms := (hn.up hE02).mono (fun c hc => e3.block c hc) (fun c hc => hc)
  have hmb : ((splitL 32 s).map txA).map bysA = splitL 32 s := by rw [List.map_map]; exact List.map_id _
  generalize hW : (splitL 32 s).map txA = W at *
  have hWl : W.length = (splitL 32 s).length := by rw [← hW, List.length_map]
  have hrd : RRd w3 w2.heap.size wo wc W no nc nms (splitL 32 s, 0) := by
    refine ⟨?_, hsl3, hn3, ?_, ?_, by omega, by rw [hmb, hjn]; omega⟩
    · rw [hWl, Nat.sub_self, ← hWl]; exact hb7
    · rw [hWl, Nat.sub_self, hmb]; rfl
    · rw [hWl]; exact Nat.le_refl _
  have hE2 := hE.kept (hE02.grw none) (by simp)
  have hSn2 := hSn.low hE02
  have hE03 := hE02.trans e3
  have hnm := ruleR_name (nms := nms) hrd
  (repeat (first | (apply WL.pure; rfl; rfl; rfl) | (apply WL.nil) | (apply EX.thenN) | (apply CW.seq) | (apply CW.region)))
  refine WL.call rfl rfl rfl (rrule_ok w2 w3 hrd rfl e3 (Nat.le_refl _) hE2 hSn2) ?_
  rintro _ w4 ⟨lo, lc, co, cc, rfl, hl4, hc4, hr4, g4⟩
  have z3 := e3.size
  have hlt := hrd.lt
  have hb44 := hb4.kept g4 (fun e => by have := Option.some.inj e; omega)
  have hE4 : Ext w0 w4 := hE03.grown g4 hE03.size (fun k e => by cases e; omega)
  clear hrd hsl3 hn3 hws e3
  generalize ruleR nms (splitL 32 s, 0) = rr at *
  obtain ⟨r, st⟩ := rr
  dsimp only at hl4 hc4 hr4 hnm ⊢
  skip
  refine WL.alloc rfl rfl (fun w5 hb8 e5 => ?_)
  refine WL.st rfl rfl rfl hb8 rfl rfl (ones_of rfl) (fun w6 hb8 hg6 => ?_)
  have hr6 := (hr4.ext e5).keep hg6 (fun x e => by have := Option.some.inj e; have := hr4.lt; omega)
  have hb46 := (hb44.ext e5).kept hg6 (fun e => by have := Option.some.inj e; have := hb44.lt; omega)
  have e46 : Ext w4 w6 := e5.grown hg6 e5.size (fun k e => by cases e; exact Nat.le_refl _)
  have hl6 : Sl w6 (fun c => w3.heap.size ≤ c ∧ c < w6.heap.size) lo lc r.2.2.2.2.1.kids := hl4.mono (fun c hc => e46.block c hc.2) (fun c hc => ⟨hc.1, Nat.lt_of_lt_of_le hc.2 e46.size⟩)
  have hc6 : Sl w6 (fun c => w3.heap.size ≤ c ∧ c < w6.heap.size) co cc r.2.2.2.2.2.kids := hc4.mono (fun c hc => e46.block c hc.2) (fun c hc => ⟨hc.1, Nat.lt_of_lt_of_le hc.2 e46.size⟩)
  have hE6 := hE4.trans e46
  have z4 := hE4.size
  have l8 : w3.heap.size ≤ w4.heap.size := g4.size
  have l84 : w4.heap.size < w6.heap.size := hb8.lt
  clear hb44 hl4 hc4 hr4 hb4 e5 hg6 e46
  generalize hb2e : w2.heap.size = b at *
  generalize hb8e : w4.heap.size = b8 at *
  have hbb8 : b < b8 := by omega
  apply WL.nil
  apply EX.thenN
  refine CW.cutI (S := Unit) (fun _ => [(1, .slice no nms.length nc), (4, .pointer (some ⟨w0.heap.size, 0, none⟩)), (7, .pointer (some ⟨b, 0, none⟩)), (8, .pointer (some ⟨b8, 0, none⟩))])
    (fun _ w => RRd w b wo wc W no nc nms (endW st) ∧ Blk w w0.heap.size 33 (rul0 ⟨#[]⟩ 0) ∧ Blk w b8 33 (cellsL (rulV r lo lc co cc)) ∧ Sl w (fun c => w3.heap.size ≤ c ∧ c < w.heap.size) lo lc r.2.2.2.2.1.kids ∧ Sl w (fun c => w3.heap.size ≤ c ∧ c < w.heap.size) co cc r.2.2.2.2.2.kids ∧ Ext w0 w) ?_ ?_
  · have hb7 := hr6.blk
    have hle := hr6.le
    have hD := Ext.drew w6
    have hb7 := hb7.ext hD
    have keepE : ∀ w, Ext w6 w → endW st = st → RRd w b wo wc W no nc nms (endW st) ∧ Blk w w0.heap.size 33 (rul0 ⟨#[]⟩ 0) ∧ Blk w b8 33 (cellsL (rulV r lo lc co cc)) ∧ Sl w (fun c => w3.heap.size ≤ c ∧ c < w.heap.size) lo lc r.2.2.2.2.1.kids ∧ Sl w (fun c => w3.heap.size ≤ c ∧ c < w.heap.size) co cc r.2.2.2.2.2.kids ∧ Ext w0 w := fun w e hend => by
      rw [hend]
      exact ⟨hr6.ext e, hb46.ext e, hb8.ext e, hl6.mono (fun c hc => e.block c hc.2) (fun c hc => ⟨hc.1, Nat.lt_of_lt_of_le hc.2 e.size⟩), hc6.mono (fun c hc => e.block c hc.2) (fun c hc => ⟨hc.1, Nat.lt_of_lt_of_le hc.2 e.size⟩), hE6.trans e⟩
    (repeat (first | (apply QL.pure; rfl; rfl; rfl) | (apply CW.seq) | (apply QL.fa; rfl; rfl; rfl) | (apply QL.nck; rfl; rfl; rfl) | (apply QL.ld; rfl; rfl; rfl; assumption; rfl) | (apply CW.draw; exact mixed; kernel_rfl)))
    cases he : (st.2 == 0) with
    | false =>
      have he : st.2 ≠ 0 := by simpa using he
      (repeat (first | (apply QL.pure; rfl; rfl; rfl) | (apply QL.pass; rfl; rfl)))
      refine QL.nil (fun w7 e7 => ?_)
      (repeat (first | (apply EX.thenN) | (apply CW.condF; rfl) | (apply CW.skip)))
      exact EX.cutI () (by repeat (first | exact trivial | refine ⟨rfl, ?_⟩)) (keepE w7 e7 (by unfold endW; rw [if_neg (fun h => he h.1)]))
    | true =>
    have he : st.2 = 0 := by simpa using he
    (repeat (first | (apply QL.pure; rfl; rfl; rfl) | (apply QL.lenS; rfl; rfl; rfl) | (apply QL.fa; rfl; rfl; rfl) | (apply QL.nck; rfl; rfl; rfl) | (apply QL.ld; rfl; rfl; rfl; assumption; rfl)))
    cases hl : decide (((W.length - st.1.length : Nat) : Int) < (W.length : Int)) with
    | false =>
      have hl : st.1 = [] := by
        have := of_decide_eq_false hl
        exact List.length_eq_zero_iff.1 (by omega)
      skip
      refine QL.nil (fun w7 e7 => ?_)
      (repeat (first | (apply EX.thenN) | (apply CW.condF; rfl) | (apply CW.skip)))
      exact EX.cutI () (by repeat (first | exact trivial | refine ⟨rfl, ?_⟩)) (keepE w7 e7 (by unfold endW; rw [if_neg (fun h => h.2 hl)]))
    | true =>
    have hl : st.1 ≠ [] := fun e => by
      have := of_decide_eq_true hl
      rw [e] at this
      simp at this
    skip
    refine QL.nil (fun w7 e7 => ?_)
    have hend : endW st = failW st 3 := by unfold endW; rw [if_pos ⟨he, hl⟩]
    (repeat (first | (apply WL.pure; rfl; rfl; rfl) | (apply EX.thenN) | (apply CW.region) | (apply CW.condT; rfl)))
    refine WL.call rfl rfl rfl (fail_ok w7 (hr6.ext e7) 3) ?_
    rintro _ w8 ⟨rfl, h8, g8⟩
    (repeat (apply WL.nil))
    refine EX.cutI () (by repeat (first | exact trivial | refine ⟨rfl, ?_⟩)) ?_
    rw [hend]
    have e67 := hE6.trans e7
    have z7 := e7.size
    refine ⟨h8, (hb46.ext e7).kept g8 (fun e => by have := Option.some.inj e; omega), (hb8.ext e7).kept g8 (fun e => by have := Option.some.inj e; omega), ?_, ?_, e67.grown g8 e67.size (fun k e => by cases e; omega)⟩
    · exact hl6.mono (fun c hc => (g8.block c (by have := hc.2; omega) (fun e => by have := Option.some.inj e; have := hc.1; omega)).trans (e7.block c hc.2)) (fun c hc => ⟨hc.1, by have := hc.2; have := g8.size; omega⟩)
    · exact hc6.mono (fun c hc => (g8.block c (by have := hc.2; omega) (fun e => by have := Option.some.inj e; have := hc.1; omega)).trans (e7.block c hc.2)) (fun c hc => ⟨hc.1, by have := hc.2; have := g8.size; omega⟩)
  clear hr6 hb46 hb8 hl6 hc6 hE6 l84
  generalize endW st = sE at *
  rintro _ w7 ⟨hr, hb4, hb8, hl, hc, hE7⟩
  have hb7 := hr.blk
  have hle := hr.le
  (repeat (first | (apply WL.pure; rfl; rfl; rfl) | (apply WL.nil) | (apply EX.thenN) | (apply CW.seq) | (apply CW.region) | (apply WL.fa; rfl; rfl; rfl) | (apply WL.nck; rfl; rfl; rfl) | (apply WL.ld; rfl; rfl; rfl; assumption; rfl)))
  refine CW.cond rfl (fun h => ?_) (fun h => ?_)
  · have h : sE.2 ≠ 0 := by simpa using h
    rw [if_pos h]
    have hD := Ext.drew w7
    have hb7 := hb7.ext hD
    have hb4 := hb4.ext hD
    have hX := hE7.trans hD
    have hKs : ∀ u, (fun z : World => z.heap[b]? = (drew w7).heap[b]?) u → u.heap[b]? = (drew w7).heap[b]? := fun u h => h
    (repeat (apply CW.seq))
    refine CW.drawH (fun z : World => z.heap[b]? = (drew w7).heap[b]?) [(0, true), (1, true), (2, true), (3, true), (4, true), (5, true), (6, true), (7, true), (8, true), (9, false), (10, true), (11, true)] mixed (by kernel_rfl) rfl ?_
    (repeat (first | (apply HL.pure; rfl; rfl; rfl; rfl) | (refine HL.fa rfl rfl rfl rfl ?_) | (apply HL.nck; rfl; rfl; rfl; rfl) | (refine HL.ldK (by assumption) rfl rfl rfl rfl (by assumption) rfl ?_) | (refine HL.build rfl rfl rfl rfl rfl ?_)))
    refine HL.mut rfl (WL.st rfl rfl rfl hb4 rfl rfl (ones_of rfl) (fun w8 hb9 hg8 => ?_))
    refine WL.nil (EX.mut (hg8.block _ hb7.lt (fun e => by have := Option.some.inj e; omega)) ?_)
    (repeat (first | (apply HL.pure; rfl; rfl; rfl; rfl) | (apply HL.nil)))
    (repeat (first | (apply EX.thenN) | (apply CW.ret) | (apply EX.thenR)))
    refine EX.retC3 rfl rfl rfl rfl hb9 rfl ⟨_, ?_, RG.zero _, hX.grown hg8 hX.size (fun g hg => by cases hg; exact Nat.le_refl _)⟩
    rw [← hWl]
    rfl
  have h : sE.2 = 0 := by simpa using h
  rw [if_neg (by simpa using h)]
  (repeat (first | (apply WL.pure; rfl; rfl; rfl) | (apply EX.thenN) | (apply CW.seq) | (apply CW.region) | (apply WL.ldA; rfl; rfl; rfl; assumption; rfl) | (apply CW.skip)))
  refine WL.call rfl rfl rfl (rcheck_ok w7 (r := r) (hl.mono (fun _ _ => rfl) (fun c hc => hc.2)) (hc.mono (fun _ _ => rfl) (fun c hc => hc.2)) (hn.up hE7)) ?_
  rintro _ w8 ⟨rfl, e8⟩
  have hb4 := hb4.ext e8
  have hb8 := hb8.ext e8
  have hE8 := hE7.trans e8
  (repeat (first | (apply WL.pure; rfl; rfl; rfl) | (apply WL.nil) | (apply EX.thenN) | (apply CW.seq) | (apply CW.region)))
  refine CW.cond rfl (fun h => ?_) (fun h => ?_)
  · have h : chkRl r nms ≠ 0 := by simpa using h
    rw [if_pos h]
    (repeat (first | (apply CW.seq) | (apply CW.region)))
    refine WL.build (parts := []) rfl rfl rfl rfl ?_
    (repeat (apply WL.pure; rfl; rfl; rfl))
    refine WL.st rfl rfl rfl hb4 rfl rfl (ones_of rfl) (fun w9 hb9 hg9 => ?_)
    (repeat (first | (apply WL.pure; rfl; rfl; rfl) | (apply WL.nil) | (apply EX.thenN) | (apply CW.ret) | (apply EX.thenR)))
    exact EX.retC3 rfl rfl rfl rfl hb9 rfl ⟨_, rfl, RG.zero _, hE8.grown hg9 hE8.size (fun g hg => by cases hg; exact Nat.le_refl _)⟩
  · have h : chkRl r nms = 0 := by simpa using h
    rw [if_neg (by simpa using h)]
    (repeat (first | (apply EX.thenN) | (apply CW.seq) | (apply CW.region) | (apply WL.ldA; rfl; rfl; rfl; assumption; rfl) | (apply CW.skip)))
    refine WL.st rfl rfl rfl hb4 rfl rfl (ones_of rfl) (fun w9 hb9 hg9 => ?_)
    (repeat (first | (apply WL.pure; rfl; rfl; rfl) | (apply WL.nil) | (apply EX.thenN) | (apply CW.ret)))
    have z8 := e8.size
    refine EX.retC3 rfl rfl rfl rfl hb9 rfl ⟨_, rfl, ⟨lo, lc, co, cc, rfl, ?_, ?_, hnm⟩, hE8.grown hg9 hE8.size (fun g hg => by cases hg; exact Nat.le_refl _)⟩
    · exact hl.mono (fun c hc => (hg9.block c (by have := hc.2; omega) (fun e => by have := Option.some.inj e; have := hc.1; omega)).trans (e8.block c hc.2)) (fun c hc => by have := hc.2; have := hg9.size; show c < _; omega)
    · exact hc.mono (fun c hc => (hg9.block c (by have := hc.2; omega) (fun e => by have := Option.some.inj e; have := hc.1; omega)).trans (e8.block c hc.2)) (fun c hc => by have := hc.2; have := hg9.size; show c < _; omega)
end Go.Proofs.YtikigaeihdmcaaaGreatDoor

/-
  Package push walked, second part: Same, SameLtl, Size.
-/
set_option linter.unusedVariables false
set_option linter.unusedSimpArgs false
namespace Go.Proofs.YtikigaeihdmcaaaGreatDoor
open Go.RowKit

theorem sameLtl : ∀ (m : Nat) (a b : Ltl), a.nodes ≤ m → ∀ (w : World) (F : Nat → Prop) (ao bo : Option Addr) (ac bc : Nat), Sl w F ao ac a.kids → Sl w F bo bc b.kids → (∀ b, F b → b < w.heap.size) →
    Rt Tryz.prog 29 [ltlV a.k a.n ao a.kids.length ac, ltlV b.k b.n bo b.kids.length bc].toArray w fun v w' => v = .bool (sameB a b) ∧ Ext w w' := by
  intro m
  induction m with
  | zero => intro a b h; have := a.nodes_pos; omega
  | succ m ih =>
    rintro ⟨k, n, xs⟩ ⟨k', n', ys⟩ hm w F ao bo ac bc ha hb hF
    simp only [Ltl.k, Ltl.n, Ltl.kids, Ltl.nodes] at *
    have hxl := ha.len63
    refine Rt.enter2 Tryz.func29 Tryz.ntmps29 rfl rfl ?_
    (repeat (first | (apply CW.seq) | (apply CW.region)))
    refine WL.boxB rfl rfl rfl fun w1 hf hE1 => ?_
    skip
    refine WL.boxB rfl rfl rfl fun w2 hg hE2 => ?_
    have hf := hf.ext hE2
    have hE2 := hE1.trans hE2
    have hS : sameB (.mk k n xs) (.mk k' n' ys) = (k == k' && n == n' && sameBs xs ys) := by simp [sameB]
    rw [hS]
    (repeat (first | (apply WL.pure; rfl; rfl; rfl) | (apply WL.nil) | (apply EX.thenN) | (apply CW.seq) | (apply CW.region) | (apply WL.fa; rfl; rfl; rfl) | (apply WL.ld; rfl; rfl; rfl; assumption; rfl)))
    cases h1 : (k != k') with
    | true =>
      (repeat (first | (apply WL.pure; rfl; rfl; rfl) | (apply WL.nil) | (apply EX.thenN) | (apply CW.seq) | (apply CW.region) | (apply WL.pass; rfl; rfl) | (apply CW.condT; rfl) | (apply CW.ret) | (apply EX.thenR)))
      refine EX.ret1 rfl rfl ⟨?_, hE2⟩
      simp at h1; simp [h1]
    | false =>
    have h1 : k = k' := by simpa using h1
    (repeat (first | (apply WL.pure; rfl; rfl; rfl) | (apply WL.fa; rfl; rfl; rfl) | (apply WL.ld; rfl; rfl; rfl; assumption; rfl)))
    cases h2 : (n != n') with
    | true =>
      (repeat (first | (apply WL.pure; rfl; rfl; rfl) | (apply WL.nil) | (apply EX.thenN) | (apply CW.seq) | (apply CW.region) | (apply WL.pass; rfl; rfl) | (apply CW.condT; rfl) | (apply CW.ret) | (apply EX.thenR)))
      refine EX.ret1 rfl rfl ⟨?_, hE2⟩
      simp at h2; simp [h2]
    | false =>
    have h2 : n = n' := by simpa using h2
    (repeat (first | (apply WL.pure; rfl; rfl; rfl) | (apply WL.nil) | (apply EX.thenN) | (apply WL.lenS; rfl; rfl; rfl) | (apply WL.fa; rfl; rfl; rfl) | (apply WL.ld; rfl; rfl; rfl; assumption; rfl)))
    cases h3 : ((xs.length : Int) != (ys.length : Int)) with
    | true =>
      (repeat (first | (apply WL.pure; rfl; rfl; rfl) | (apply WL.nil) | (apply EX.thenN) | (apply CW.seq) | (apply CW.region) | (apply CW.condT; rfl) | (apply CW.ret) | (apply EX.thenR)))
      refine EX.ret1 rfl rfl ⟨?_, hE2⟩
      have h3 : xs.length ≠ ys.length := by simp at h3; omega
      have : sameBs xs ys = false := by
        rw [Bool.eq_false_iff, Ne, sameBs_iff]
        exact fun e => h3 (by rw [e])
      rw [this]; simp
    | false =>
    have h3 : xs.length = ys.length := by simp at h3; omega
    (repeat (first | (apply WL.pure; rfl; rfl; rfl) | (apply WL.nil) | (apply EX.thenN) | (apply CW.seq) | (apply CW.region) | (apply CW.block) | (apply CW.condF; rfl) | (apply CW.skip)))
    refine CW.loop (S := Nat) (fun i => [(2, .pointer (some ⟨w.heap.size, 0, none⟩)), (3, .pointer (some ⟨w1.heap.size, 0, none⟩)), (5, .int .i64 i)])
      (fun i w' => i ≤ xs.length ∧ Ext w2 w' ∧ ∀ j (h : j < xs.length) (h' : j < ys.length), j < i → sameB xs[j] ys[j] = true) (fun i => xs.length - i) 0 (by repeat (first | exact trivial | refine ⟨rfl, ?_⟩)) ⟨by omega, Ext.refl _, by omega⟩ ?_
    rintro i w3 ⟨hi, hE3, hall⟩
    have hf3 := hf.ext hE3
    have hg3 := hg.ext hE3
    have hE3' := hE2.trans hE3
    (repeat (first | (apply WL.pure; rfl; rfl; rfl) | (apply WL.nil) | (apply EX.thenN) | (apply CW.seq) | (apply CW.region) | (apply WL.lenS; rfl; rfl; rfl) | (apply WL.fa; rfl; rfl; rfl) | (apply WL.ld; rfl; rfl; rfl; assumption; rfl)))
    refine CW.cond rfl (fun h => ?_) (fun h => ?_)
    · have h : i < xs.length := by simpa using h
      have h' : i < ys.length := by omega
      (repeat (first | (apply QL.pure; rfl; rfl; rfl) | (apply EX.thenN) | (apply CW.seq) | (apply QL.fa; rfl; rfl; rfl) | (apply QL.ld; rfl; rfl; rfl; assumption; rfl) | (apply CW.block) | (apply CW.skip) | (apply CW.draw; exact mixed; kernel_rfl)))
      refine QL.elemN rfl rfl rfl rfl rfl (fun b hb => Nat.lt_of_lt_of_le (hF b hb) hE3'.size) (ha.up0 hE3' hF) h (fun _ => rfl) (fun u q hu => ?_)
      (repeat (first | (apply QL.pure; rfl; rfl; rfl) | (apply QL.fa; rfl; rfl; rfl) | (apply QL.ld; rfl; rfl; rfl; assumption; rfl)))
      refine QL.elemN rfl rfl rfl rfl rfl (fun b hb => Nat.lt_of_lt_of_le (hF b hb) hE3'.size) (hb.up0 hE3' hF) h' (fun _ => rfl) (fun u' q' hu' => ?_)
      obtain ⟨uo, uc, rfl, hku⟩ := Rd.ltl hu
      obtain ⟨uo', uc', rfl, hku'⟩ := Rd.ltl hu'
      have hF3 : ∀ b, F b → b < w3.heap.size := fun b hb => Nat.lt_of_lt_of_le (hF b hb) hE3'.size
      have hnode : (xs[i]).nodes ≤ m := by have := Ltl.nodes_kid xs xs[i] (List.getElem_mem h); omega
      refine QL.call (v := .bool (sameB xs[i] ys[i])) rfl rfl rfl (fun w4 e4 => ih xs[i] ys[i] hnode w4 F uo uo' uc uc' (hku.up0 e4 hF3) (hku'.up0 e4 hF3) (fun b hb => Nat.lt_of_lt_of_le (hF3 b hb) e4.size)) ?_
      (repeat (apply QL.pure; rfl; rfl; rfl))
      refine QL.nil (fun w4 e4 => ?_)
      cases hs : sameB xs[i] ys[i] with
      | true =>
        (repeat (first | (apply WL.add; rfl; rfl; rfl; rfl; omega; omega) | (apply WL.pure; rfl; rfl; rfl) | (apply WL.nil) | (apply EX.thenN) | (apply CW.region) | (apply EX.inN) | (apply CW.condF; rfl) | (apply CW.skip)))
        refine EX.back (i + 1) (by repeat (first | exact trivial | refine ⟨rfl, ?_⟩)) ⟨h, hE3.trans e4, fun j hj hj' hlt => ?_⟩ (by omega)
        by_cases e : j = i
        · subst e; exact hs
        · exact hall j hj hj' (by omega)
      | false =>
        (repeat (first | (apply WL.pure; rfl; rfl; rfl) | (apply WL.nil) | (apply EX.thenN) | (apply CW.seq) | (apply CW.region) | (apply CW.condT; rfl) | (apply CW.ret) | (apply EX.thenR) | (apply EX.inR)))
        refine EX.ret1 rfl rfl ⟨?_, hE3'.trans e4⟩
        have : sameBs xs ys = false := by
          rw [Bool.eq_false_iff, Ne, sameBs_iff]
          intro e
          subst e
          rw [sameB_self] at hs
          cases hs
        rw [this]; simp
    · have h : ¬ i < xs.length := by simpa using h
      (repeat (first | (apply WL.pure; rfl; rfl; rfl) | (apply WL.nil) | (apply EX.thenN) | (apply CW.seq) | (apply CW.region) | (apply CW.exit) | (apply EX.thenX) | (apply EX.inX) | (apply CW.ret)))
      refine EX.ret1 rfl rfl ⟨?_, hE3'⟩
      have : sameBs xs ys = true := by
        rw [sameBs_iff]
        exact List.ext_getElem h3 (fun j hj hj' => (sameB_iff _ _).1 (hall j hj hj' (by omega)))
      rw [this]; simp [h1, h2]
end Go.Proofs.YtikigaeihdmcaaaGreatDoor

/-
  SameCtl, walked.
-/
set_option linter.unusedVariables false
set_option linter.unusedSimpArgs false
namespace Go.Proofs.YtikigaeihdmcaaaGreatDoor
open Go.RowKit

instance iSameC1 : IsF Tryz.prog 30 := ⟨_, Tryz.func30, rfl, by decide⟩
theorem sameCtl : ∀ (m : Nat) (a b : Ltl), a.nodes ≤ m → ∀ (w : World) (F : Nat → Prop) (ao bo : Option Addr) (ac bc : Nat), Sl w F ao ac a.kids → Sl w F bo bc b.kids → (∀ b, F b → b < w.heap.size) →
    Rt Tryz.prog 30 [ltlV a.k a.n ao a.kids.length ac, ltlV b.k b.n bo b.kids.length bc].toArray w fun v w' => v = .bool (sameB a b) ∧ Ext w w' := by
  intro m
  induction m with
  | zero => intro a b h; have := a.nodes_pos; omega
  | succ m ih =>
    rintro ⟨k, n, xs⟩ ⟨k', n', ys⟩ hm w F ao bo ac bc ha hb hF
    simp only [Ltl.k, Ltl.n, Ltl.kids, Ltl.nodes] at *
    have hxl := ha.len63
    refine Rt.enter2 Tryz.func30 Tryz.ntmps30 rfl rfl ?_
    (repeat (first | (apply CW.seq) | (apply CW.region)))
    refine WL.boxB rfl rfl rfl fun w1 hf hE1 => ?_
    skip
    refine WL.boxB rfl rfl rfl fun w2 hg hE2 => ?_
    have hf := hf.ext hE2
    have hE2 := hE1.trans hE2
    have hS : sameB (.mk k n xs) (.mk k' n' ys) = (k == k' && n == n' && sameBs xs ys) := by simp [sameB]
    rw [hS]
    (repeat (first | (apply WL.pure; rfl; rfl; rfl) | (apply WL.nil) | (apply EX.thenN) | (apply CW.seq) | (apply CW.region) | (apply WL.fa; rfl; rfl; rfl) | (apply WL.ld; rfl; rfl; rfl; assumption; rfl)))
    cases h1 : (k != k') with
    | true =>
      (repeat (first | (apply WL.pure; rfl; rfl; rfl) | (apply WL.nil) | (apply EX.thenN) | (apply CW.seq) | (apply CW.region) | (apply WL.pass; rfl; rfl) | (apply CW.condT; rfl) | (apply CW.ret) | (apply EX.thenR)))
      refine EX.ret1 rfl rfl ⟨?_, hE2⟩
      simp at h1; simp [h1]
    | false =>
    have h1 : k = k' := by simpa using h1
    (repeat (first | (apply WL.pure; rfl; rfl; rfl) | (apply WL.fa; rfl; rfl; rfl) | (apply WL.ld; rfl; rfl; rfl; assumption; rfl)))
    cases h2 : (n != n') with
    | true =>
      (repeat (first | (apply WL.pure; rfl; rfl; rfl) | (apply WL.nil) | (apply EX.thenN) | (apply CW.seq) | (apply CW.region) | (apply WL.pass; rfl; rfl) | (apply CW.condT; rfl) | (apply CW.ret) | (apply EX.thenR)))
      refine EX.ret1 rfl rfl ⟨?_, hE2⟩
      simp at h2; simp [h2]
    | false =>
    have h2 : n = n' := by simpa using h2
    (repeat (first | (apply WL.pure; rfl; rfl; rfl) | (apply WL.nil) | (apply EX.thenN) | (apply WL.lenS; rfl; rfl; rfl) | (apply WL.fa; rfl; rfl; rfl) | (apply WL.ld; rfl; rfl; rfl; assumption; rfl)))
    cases h3 : ((xs.length : Int) != (ys.length : Int)) with
    | true =>
      (repeat (first | (apply WL.pure; rfl; rfl; rfl) | (apply WL.nil) | (apply EX.thenN) | (apply CW.seq) | (apply CW.region) | (apply CW.condT; rfl) | (apply CW.ret) | (apply EX.thenR)))
      refine EX.ret1 rfl rfl ⟨?_, hE2⟩
      have h3 : xs.length ≠ ys.length := by simp at h3; omega
      have : sameBs xs ys = false := by
        rw [Bool.eq_false_iff, Ne, sameBs_iff]
        exact fun e => h3 (by rw [e])
      rw [this]; simp
    | false =>
    have h3 : xs.length = ys.length := by simp at h3; omega
    (repeat (first | (apply WL.pure; rfl; rfl; rfl) | (apply WL.nil) | (apply EX.thenN) | (apply CW.seq) | (apply CW.region) | (apply CW.block) | (apply CW.condF; rfl) | (apply CW.skip)))
    refine CW.loop (S := Nat) (fun i => [(2, .pointer (some ⟨w.heap.size, 0, none⟩)), (3, .pointer (some ⟨w1.heap.size, 0, none⟩)), (5, .int .i64 i)])
      (fun i w' => i ≤ xs.length ∧ Ext w2 w' ∧ ∀ j (h : j < xs.length) (h' : j < ys.length), j < i → sameB xs[j] ys[j] = true) (fun i => xs.length - i) 0 (by repeat (first | exact trivial | refine ⟨rfl, ?_⟩)) ⟨by omega, Ext.refl _, by omega⟩ ?_
    rintro i w3 ⟨hi, hE3, hall⟩
    have hf3 := hf.ext hE3
    have hg3 := hg.ext hE3
    have hE3' := hE2.trans hE3
    (repeat (first | (apply WL.pure; rfl; rfl; rfl) | (apply WL.nil) | (apply EX.thenN) | (apply CW.seq) | (apply CW.region) | (apply WL.lenS; rfl; rfl; rfl) | (apply WL.fa; rfl; rfl; rfl) | (apply WL.ld; rfl; rfl; rfl; assumption; rfl)))
    refine CW.cond rfl (fun h => ?_) (fun h => ?_)
    · have h : i < xs.length := by simpa using h
      have h' : i < ys.length := by omega
      (repeat (first | (apply QL.pure; rfl; rfl; rfl) | (apply EX.thenN) | (apply CW.seq) | (apply QL.fa; rfl; rfl; rfl) | (apply QL.ld; rfl; rfl; rfl; assumption; rfl) | (apply CW.block) | (apply CW.skip) | (apply CW.draw; exact mixed; kernel_rfl)))
      refine QL.elemN rfl rfl rfl rfl rfl (fun b hb => Nat.lt_of_lt_of_le (hF b hb) hE3'.size) (ha.up0 hE3' hF) h (fun _ => rfl) (fun u q hu => ?_)
      (repeat (first | (apply QL.pure; rfl; rfl; rfl) | (apply QL.fa; rfl; rfl; rfl) | (apply QL.ld; rfl; rfl; rfl; assumption; rfl)))
      refine QL.elemN rfl rfl rfl rfl rfl (fun b hb => Nat.lt_of_lt_of_le (hF b hb) hE3'.size) (hb.up0 hE3' hF) h' (fun _ => rfl) (fun u' q' hu' => ?_)
      obtain ⟨uo, uc, rfl, hku⟩ := Rd.ltl hu
      obtain ⟨uo', uc', rfl, hku'⟩ := Rd.ltl hu'
      have hF3 : ∀ b, F b → b < w3.heap.size := fun b hb => Nat.lt_of_lt_of_le (hF b hb) hE3'.size
      have hnode : (xs[i]).nodes ≤ m := by have := Ltl.nodes_kid xs xs[i] (List.getElem_mem h); omega
      refine QL.call (v := .bool (sameB xs[i] ys[i])) rfl rfl rfl (fun w4 e4 => ih xs[i] ys[i] hnode w4 F uo uo' uc uc' (hku.up0 e4 hF3) (hku'.up0 e4 hF3) (fun b hb => Nat.lt_of_lt_of_le (hF3 b hb) e4.size)) ?_
      (repeat (apply QL.pure; rfl; rfl; rfl))
      refine QL.nil (fun w4 e4 => ?_)
      cases hs : sameB xs[i] ys[i] with
      | true =>
        (repeat (first | (apply WL.add; rfl; rfl; rfl; rfl; omega; omega) | (apply WL.pure; rfl; rfl; rfl) | (apply WL.nil) | (apply EX.thenN) | (apply CW.region) | (apply EX.inN) | (apply CW.condF; rfl) | (apply CW.skip)))
        refine EX.back (i + 1) (by repeat (first | exact trivial | refine ⟨rfl, ?_⟩)) ⟨h, hE3.trans e4, fun j hj hj' hlt => ?_⟩ (by omega)
        by_cases e : j = i
        · subst e; exact hs
        · exact hall j hj hj' (by omega)
      | false =>
        (repeat (first | (apply WL.pure; rfl; rfl; rfl) | (apply WL.nil) | (apply EX.thenN) | (apply CW.seq) | (apply CW.region) | (apply CW.condT; rfl) | (apply CW.ret) | (apply EX.thenR) | (apply EX.inR)))
        refine EX.ret1 rfl rfl ⟨?_, hE3'.trans e4⟩
        have : sameBs xs ys = false := by
          rw [Bool.eq_false_iff, Ne, sameBs_iff]
          intro e
          subst e
          rw [sameB_self] at hs
          cases hs
        rw [this]; simp
    · have h : ¬ i < xs.length := by simpa using h
      (repeat (first | (apply WL.pure; rfl; rfl; rfl) | (apply WL.nil) | (apply EX.thenN) | (apply CW.seq) | (apply CW.region) | (apply CW.exit) | (apply EX.thenX) | (apply EX.inX) | (apply CW.ret)))
      refine EX.ret1 rfl rfl ⟨?_, hE3'⟩
      have : sameBs xs ys = true := by
        rw [sameBs_iff]
        exact List.ext_getElem h3 (fun j hj hj' => (sameB_iff _ _).1 (hall j hj hj' (by omega)))
      rw [this]; simp [h1, h2]
end Go.Proofs.YtikigaeihdmcaaaGreatDoor

/-
  SameRule at one rule told twice: walked.
-/
set_option linter.unusedVariables false
set_option linter.unusedSimpArgs false
namespace Go.Proofs.YtikigaeihdmcaaaGreatDoor
open Go.RowKit

instance iRtw1 : IsF Tryz.prog 9 := ⟨_, Tryz.func9, rfl, by decide⟩
theorem equalIn_patS (x : LPat) (w : World) : (Op.equalIn 10000 23 (patV x) (patV x)).run Tryz.prog w = .ok true w := by
  have u3 := Tryz.underlying3
  have a3 := Tryz.isAgg3
  have z3 := Tryz.sizeOf3
  have hS : Tryz.prog.underlying 23 = some (.struct (Tryz.prog.fieldsOf 23)) := by kernel_rfl
  have hp : Tryz.prog.stoodInHeld 23 = false := by kernel_rfl
  obtain ⟨a, b, c, d, e, f, g⟩ := x
  simp only [patV]
  rw [show (10000 : Nat) = 9999 + 1 from rfl, run_equalIn_agg w 9999 23 _ _ hS hp]
  simp only [Program.fieldsOf, Tryz.underlying23]
  go_simp
theorem equalIn_tplS (x : LTpl) (w : World) : (Op.equalIn 10000 25 (tplV x) (tplV x)).run Tryz.prog w = .ok true w := by
  have u3 := Tryz.underlying3
  have a3 := Tryz.isAgg3
  have z3 := Tryz.sizeOf3
  have hS : Tryz.prog.underlying 25 = some (.struct (Tryz.prog.fieldsOf 25)) := by kernel_rfl
  have hp : Tryz.prog.stoodInHeld 25 = false := by kernel_rfl
  obtain ⟨a, b, c, d⟩ := x
  simp only [tplV]
  rw [show (10000 : Nat) = 9999 + 1 from rfl, run_equalIn_agg w 9999 25 _ _ hS hp]
  simp only [Program.fieldsOf, Tryz.underlying25]
  go_simp
theorem run_eqPatS (x : LPat) (p q : Operand) (w : World) : ((do eqGuard .eql 23 p q (patV x) (patV x); binOp .eql 23 (patV x) (patV x) : Sem Value)).run Tryz.prog w = .ok (.bool true) w := by
  have hm : Tryz.prog.eqGuardType Tryz.prog.depth 23 = false := by kernel_rfl
  rw [Sem.run_bind]
  have hg : (eqGuard .eql 23 p q (patV x) (patV x)).run Tryz.prog w = .ok () w := run_eqGuard_agg w .eql 23 p q _ _ hm
  have h := equalIn_patS x w
  rw [hg, Result.andThen_ok]
  unfold patV at h ⊢
  rw [run_eql_struct, h]; rfl
theorem run_eqTplS (x : LTpl) (p q : Operand) (w : World) : ((do eqGuard .eql 25 p q (tplV x) (tplV x); binOp .eql 25 (tplV x) (tplV x) : Sem Value)).run Tryz.prog w = .ok (.bool true) w := by
  have hm : Tryz.prog.eqGuardType Tryz.prog.depth 25 = false := by kernel_rfl
  rw [Sem.run_bind]
  have hg : (eqGuard .eql 25 p q (tplV x) (tplV x)).run Tryz.prog w = .ok () w := run_eqGuard_agg w .eql 25 p q _ _ hm
  have h := equalIn_tplS x w
  rw [hg, Result.andThen_ok]
  unfold tplV at h ⊢
  rw [run_eql_struct, h]; rfl
theorem run_neTplS (x : LTpl) (p q : Operand) (w : World) : ((do eqGuard .neq 25 p q (tplV x) (tplV x); binOp .neq 25 (tplV x) (tplV x) : Sem Value)).run Tryz.prog w = .ok (.bool false) w := by
  have hm : Tryz.prog.eqGuardType Tryz.prog.depth 25 = false := by kernel_rfl
  rw [Sem.run_bind]
  have hg : (eqGuard .neq 25 p q (tplV x) (tplV x)).run Tryz.prog w = .ok () w := run_eqGuard_agg w .neq 25 p q _ _ hm
  have h := equalIn_tplS x w
  rw [hg, Result.andThen_ok]
  unfold tplV at h ⊢
  rw [run_neq_struct, h]; rfl
theorem sameRule_ok (w0 : World) {r : LRule} {lo co lo' co' : Option Addr} {lc cc lc' cc' : Nat} (hl : Sl w0 (Old w0) lo lc r.2.2.2.2.1.kids) (hc : Sl w0 (Old w0) co cc r.2.2.2.2.2.kids) (hl' : Sl w0 (Old w0) lo' lc' r.2.2.2.2.1.kids) (hc' : Sl w0 (Old w0) co' cc' r.2.2.2.2.2.kids) :
    Rt Tryz.prog 9 [rulV r lo lc co cc, rulV r lo' lc' co' cc'].toArray w0 fun v w' => v = .bool true ∧ Ext w0 w' := by
  refine Rt.enter2 Tryz.func9 Tryz.ntmps9 rfl rfl ?_
  obtain ⟨nm, so, pt, tp, lt, ct⟩ := r
  dsimp only at hl hc hl' hc'
  unfold rulV
  dsimp only
  (repeat (first | (apply CW.seq) | (apply CW.region)))
  refine WL.boxB rfl rfl rfl fun w1 hb2 e1 => ?_
  skip
  refine WL.boxB rfl rfl rfl fun w2 hb3 e2 => ?_
  have hb2 := hb2.ext e2
  have hE := e1.trans e2
  (repeat (first | (apply WL.pure; rfl; rfl; rfl) | (apply WL.nil) | (apply EX.thenN) | (apply CW.seq) | (apply CW.region) | (apply WL.fa; rfl; rfl; rfl) | (apply WL.ld; rfl; rfl; rfl; assumption; rfl)))
  rw [show (nm.data.toList == nm.data.toList) = true from beq_self_eq_true _]
  (repeat (first | (apply WL.pure; rfl; rfl; rfl) | (apply WL.fa; rfl; rfl; rfl) | (apply WL.ld; rfl; rfl; rfl; assumption; rfl)))
  rw [show (so == so) = true from beq_self_eq_true _]
  (repeat (first | (apply WL.fa; rfl; rfl; rfl) | (apply WL.ldA; rfl; rfl; rfl; assumption; rfl)))
  refine WL.bin (a := patV pt) (b := patV pt) (r := .bool true) rfl rfl rfl rfl (run_eqPatS pt _ _ _) ?_
  (repeat (first | (apply WL.pure; rfl; rfl; rfl) | (apply WL.fa; rfl; rfl; rfl) | (apply WL.ldA; rfl; rfl; rfl; assumption; rfl)))
  refine WL.bin (a := tplV tp) (b := tplV tp) (r := .bool true) rfl rfl rfl rfl (run_eqTplS tp _ _ _) ?_
  (repeat (first | (apply WL.pure; rfl; rfl; rfl) | (apply WL.fa; rfl; rfl; rfl) | (apply WL.ldA; rfl; rfl; rfl; assumption; rfl)))
  refine WL.call rfl rfl rfl (sameLtl lt.nodes lt lt (Nat.le_refl _) w2 (Old w2) lo lo' lc lc' (hl.up hE) (hl'.up hE) (fun b hb => hb)) ?_
  rintro _ w3 ⟨rfl, e3⟩
  have hb2 := hb2.ext e3
  have hb3 := hb3.ext e3
  have hE3 := hE.trans e3
  rw [sameB_self]
  (repeat (first | (apply WL.pure; rfl; rfl; rfl) | (apply WL.fa; rfl; rfl; rfl) | (apply WL.ldA; rfl; rfl; rfl; assumption; rfl)))
  refine WL.call rfl rfl rfl (sameCtl ct.nodes ct ct (Nat.le_refl _) w3 (Old w3) co co' cc cc' (hc.up hE3) (hc'.up hE3) (fun b hb => hb)) ?_
  rintro _ w4 ⟨rfl, e4⟩
  rw [sameB_self]
  (repeat (first | (apply WL.pure; rfl; rfl; rfl) | (apply WL.nil) | (apply EX.thenN) | (apply CW.ret)))
  exact EX.ret1 rfl rfl ⟨rfl, hE3.trans e4⟩
end Go.Proofs.YtikigaeihdmcaaaGreatDoor

/-
  RuleAgain, walked.
-/
set_option linter.unusedVariables false
set_option linter.unusedSimpArgs false
namespace Go.Proofs.YtikigaeihdmcaaaGreatDoor
open Go.RowKit

abbrev shortR : LRule := (⟨#[114]⟩, 2, patZ, (3, 0, 0, 2), ltl0, ltl0)
def shortRT : Bys := [114, 32, 100, 101, 99, 108, 97, 114, 101, 32, 101, 120, 97, 99, 116, 108, 121, 32, 97, 32, 50]
theorem shortR_parse : parseR shortRT [⟨#[97]⟩] = (shortR, 0, 0) := by kernel_rfl
theorem parseR_cases (s : Bys) (nms : List ByteArray) : ((parseR s nms).2.2 ≠ 0 ∧ (parseR s nms).1 = ruleZ) ∨ ((parseR s nms).2.2 = 0 ∧ chkRl (parseR s nms).1 nms = 0) := by
  unfold parseR
  split
  · exact .inl ⟨by decide, rfl⟩
  split
  · rename_i h; exact .inl ⟨h, rfl⟩
  split
  · rename_i h; exact .inl ⟨h, rfl⟩
  · rename_i h; exact .inr ⟨rfl, by simpa using h⟩
set_option maxRecDepth 10000 in
set_option maxHeartbeats 2000000 in
theorem ruleAgain_ok (w0 : World) (hM : MaxH w0) (hE : ErrH w0) {sa : Nat → Addr} (hSn : SenH w0 sa) {s : Bys} {no : Option Addr} {nc : Nat} {nms : List ByteArray} (hn : Sl w0 (Old w0) no nc nms) :
    Rt Tryz.prog 4 [tV s, .slice no nms.length nc].toArray w0 fun v w' => v = .bool true ∧ Ext w0 w' := by
  refine Rt.enter2 Tryz.func4 Tryz.ntmps4 rfl rfl ?_
  (repeat (first | (apply WL.pure; rfl; rfl; rfl) | (apply WL.nil) | (apply EX.thenN) | (apply CW.seq) | (apply CW.region)))
  refine WL.lit (F := Non) (ys := [(⟨#[97]⟩ : ByteArray)]) rfl rfl rfl rfl rfl ⟨Rd.mkStr _ _ _ (by decide), trivial⟩ (by show 1 * 1 ≤ 16777216; decide) (fun _ h => h.elim) (fun w1 ho1 hg1 => ?_)
  have e1 : Ext w0 w1 := (Below.refl _ _).grown hg1 (Nat.le_refl _) (fun k h => by cases h)
  obtain ⟨mo, mc, he, hm1⟩ := ho1.oldN.sl
  obtain ⟨rfl, _, rfl⟩ := Value.slice.inj he
  have hp := rparse_ok w1 (hM.ext e1) (hE.kept (e1.grw none) (by simp)) (hSn.low e1) (s := shortRT) (nms := [⟨#[97]⟩]) hm1
  rw [shortR_parse] at hp
  refine WL.call rfl rfl rfl hp ?_
  rintro _ w2 ⟨x, rfl, hx, e2⟩
  obtain ⟨lo1, lc1, co1, cc1, rfl, hl1, hc1, -⟩ := hx
  have hE2 := e1.trans e2
  clear hp he ho1 hg1 hm1 e1 e2
  dsimp only
  (repeat (apply WL.pure; rfl; rfl; rfl))
  refine WL.alloc rfl rfl (fun w3 hb5 e3 => ?_)
  skip
  refine WL.st rfl rfl rfl hb5 rfl rfl (ones_of rfl) (fun w4 hb5 hg4 => ?_)
  have e4 : Ext w2 w4 := e3.grown hg4 e3.size (fun g hg => by cases hg; exact Nat.le_refl _)
  have hE4 := hE2.trans e4
  (repeat (first | (apply WL.pure; rfl; rfl; rfl) | (apply WL.nil) | (apply EX.thenN) | (apply CW.seq) | (apply CW.region) | (apply WL.fa; rfl; rfl; rfl) | (apply WL.ldA; rfl; rfl; rfl; assumption; rfl)))
  refine WL.build (parts := [(0, .const (.int .i64 3)), (3, .const (.int .i64 2))]) rfl rfl rfl rfl ?_
  refine WL.bin (a := tplV (3, 0, 0, 2)) (b := tplV (3, 0, 0, 2)) (r := .bool false) rfl rfl rfl rfl (run_neTplS _ _ _ _) ?_
  (repeat (first | (apply WL.pure; rfl; rfl; rfl) | (apply WL.nil) | (apply EX.thenN) | (apply CW.seq) | (apply CW.region) | (apply CW.condF; rfl) | (apply CW.skip)))
  refine WL.call rfl rfl rfl (rparse_ok w4 (hM.ext hE4) (hE.kept (hE4.grw none) (by simp)) (hSn.low hE4) (s := s) (hn.up hE4)) ?_
  rintro _ w5 ⟨x, rfl, hx, e5⟩
  have hcs := parseR_cases s nms
  generalize parseR s nms = pr at *
  obtain ⟨r, a, e⟩ := pr
  dsimp only at hcs hx ⊢
  have hE5 := hE4.trans e5
  obtain ⟨lo, lc, co, cc, rfl, hl, hc, hsz⟩ := hx
  clear hb5 hl1 hc1 hg4 e3
  (repeat (apply WL.pure; rfl; rfl; rfl))
  refine WL.alloc rfl rfl (fun w6 hb8 e6 => ?_)
  skip
  refine WL.st rfl rfl rfl hb8 rfl rfl (ones_of rfl) (fun w7 hb8 hg7 => ?_)
  have e7 : Ext w5 w7 := e6.grown hg7 e6.size (fun g hg => by cases hg; exact Nat.le_refl _)
  have hE7 := hE5.trans e7
  have hl := hl.up e7
  have hc := hc.up e7
  clear e6 hg7
  rcases hcs with ⟨he, rfl⟩ | ⟨rfl, hz⟩
  · (repeat (first | (apply WL.pure; rfl; rfl; rfl) | (apply WL.nil) | (apply EX.thenN) | (apply CW.seq) | (apply CW.region)))
    refine CW.cond rfl (fun h => ?_) (fun h => ?_)
    · (repeat (first | (apply CW.seq) | (apply CW.region) | (apply WL.ldA; rfl; rfl; rfl; assumption; rfl)))
      refine WL.build (parts := []) rfl rfl rfl rfl ?_
      refine WL.call rfl rfl rfl (sameRule_ok w7 (r := ruleZ) (lo := lo) (co := co) (lc := lc) (cc := cc) (lo' := none) (co' := none) (lc' := 0) (cc' := 0) hl hc (Sl.zero _ _) (Sl.zero _ _)) ?_
      rintro _ w8 ⟨rfl, e8⟩
      (repeat (first | (apply WL.pure; rfl; rfl; rfl) | (apply WL.nil) | (apply EX.thenN) | (apply CW.ret) | (apply EX.thenR)))
      exact EX.ret1 rfl rfl ⟨rfl, hE7.trans e8⟩
    · exact absurd (by simpa using h) he
  (repeat (first | (apply WL.pure; rfl; rfl; rfl) | (apply WL.nil) | (apply EX.thenN) | (apply CW.seq) | (apply CW.region) | (apply WL.ldA; rfl; rfl; rfl; assumption; rfl) | (apply CW.condF; rfl) | (apply CW.skip)))
  refine WL.call rfl rfl rfl (rprint_ok w7 (r := r) hl hc (hn.up hE7) hsz) ?_
  rintro _ w8 ⟨rfl, e8⟩
  have hlaw := rback_law hz
  have hq2 : (printR r nms).2 = 0 := by unfold printR; rw [if_neg (by simpa using hz)]
  have hpr : printR r nms = printR r nms := rfl
  generalize hP : printR r nms = pq at *
  obtain ⟨u, e⟩ := pq
  dsimp only at hq2 hlaw ⊢
  subst hq2
  have hE8 := hE7.trans e8
  have hb8 := hb8.ext e8
  (repeat (first | (apply WL.pure; rfl; rfl; rfl) | (apply WL.nil) | (apply EX.thenN) | (apply CW.seq) | (apply CW.region) | (apply CW.condF; rfl) | (apply CW.skip)))
  refine WL.call rfl rfl rfl (rparse_ok w8 (hM.ext hE8) (hE.kept (hE8.grw none) (by simp)) (hSn.low hE8) (s := u) (hn.up hE8)) ?_
  rintro _ w9 ⟨x, rfl, hx, e9⟩
  have hE9 := hE8.trans e9
  have hb8 := hb8.ext e9
  obtain ⟨lo2, lc2, co2, cc2, rfl, hl2, hc2, hsz2⟩ := hx
  rcases hlaw with hp | ⟨hso, e, he, hp⟩
  · rw [hp] at hl2 hc2 hsz2 ⊢
    dsimp only at hl2 hc2 hsz2 ⊢
    (repeat (apply WL.pure; rfl; rfl; rfl))
    refine WL.alloc rfl rfl (fun w10 hb12 e10 => ?_)
    skip
    refine WL.st rfl rfl rfl hb12 rfl rfl (ones_of rfl) (fun w11 hb12 hg11 => ?_)
    have e11 : Ext w9 w11 := e10.grown hg11 e10.size (fun g hg => by cases hg; exact Nat.le_refl _)
    have hE11 := hE9.trans e11
    have hb8 := hb8.ext e11
    (repeat (first | (apply WL.pure; rfl; rfl; rfl) | (apply WL.nil) | (apply EX.thenN) | (apply CW.seq) | (apply CW.region) | (apply WL.ldA; rfl; rfl; rfl; assumption; rfl)))
    refine WL.call rfl rfl rfl (rprint_ok w11 (r := r) (hl2.up e11) (hc2.up e11) (hn.up hE11) hsz2) ?_
    rintro _ w12 ⟨rfl, e12⟩
    rw [hP]
    have hb8 := hb8.ext e12
    have hb12 := hb12.ext e12
    have hE12 := hE11.trans e12
    dsimp only
    (repeat (first | (apply WL.pure; rfl; rfl; rfl) | (apply WL.nil) | (apply EX.thenN) | (apply CW.seq) | (apply CW.region) | (apply WL.ldA; rfl; rfl; rfl; assumption; rfl)))
    refine WL.call rfl rfl rfl (sameRule_ok w12 (r := r) (((hl.up e8).up e9).up (e11.trans e12)) (((hc.up e8).up e9).up (e11.trans e12)) ((hl2.up e11).up e12) ((hc2.up e11).up e12)) ?_
    rintro _ w13 ⟨rfl, e13⟩
    (repeat (first | (apply WL.pure; rfl; rfl; rfl) | (apply WL.nil) | (apply EX.thenN) | (apply CW.ret)))
    rw [show ((txA u).data.toList == (txA u).data.toList) = true from beq_self_eq_true _]
    exact EX.ret1 rfl rfl ⟨rfl, hE12.trans e13⟩
  · rw [hp] at hl2 hc2 hsz2 ⊢
    dsimp only at hl2 hc2 hsz2 ⊢
    (repeat (apply WL.pure; rfl; rfl; rfl))
    refine WL.alloc rfl rfl (fun w10 hb12 e10 => ?_)
    skip
    refine WL.st rfl rfl rfl hb12 rfl rfl (ones_of rfl) (fun w11 hb12 hg11 => ?_)
    have e11 : Ext w9 w11 := e10.grown hg11 e10.size (fun g hg => by cases hg; exact Nat.le_refl _)
    have hE11 := hE9.trans e11
    (repeat (first | (apply WL.pure; rfl; rfl; rfl) | (apply WL.nil) | (apply EX.thenN) | (apply CW.seq) | (apply CW.region) | (apply WL.ldA; rfl; rfl; rfl; assumption; rfl)))
    refine WL.call rfl rfl rfl (rprint_ok w11 (r := ruleZ) (hl2.up e11) (hc2.up e11) (hn.up hE11) hsz2) ?_
    rintro _ w12 ⟨rfl, e12⟩
    have hE12 := hE11.trans e12
    rcases he with rfl | rfl
    · (repeat (first | (apply WL.pure; rfl; rfl; rfl) | (apply WL.nil) | (apply EX.thenN) | (apply CW.seq) | (apply CW.region) | (apply WL.pass; rfl; rfl) | (apply CW.ret)))
      exact EX.ret1 rfl rfl ⟨rfl, hE12⟩
    · (repeat (first | (apply WL.pure; rfl; rfl; rfl) | (apply WL.nil) | (apply EX.thenN) | (apply CW.seq) | (apply CW.region) | (apply WL.pass; rfl; rfl) | (apply CW.ret)))
      exact EX.ret1 rfl rfl ⟨rfl, hE12⟩
end Go.Proofs.YtikigaeihdmcaaaGreatDoor

