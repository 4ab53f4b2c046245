import Derived.Shelf.Slices.Reverse
import Derived.Test.YtllpfgcngokhnaaPtEmptyTakes12
/-
  Package empty: add: walked.
-/
set_option linter.unusedVariables false
set_option linter.unusedSimpArgs false
namespace Go.Proofs.Ytllpfgcngokhnaa
open Go.RowKit

instance iEm1 : IsM Try.prog 87 93 3 := ⟨Try.underlying87⟩
instance iEm2 : IsC Try.prog 87 1 false := IsC.of (by kernel_rfl) Try.underlying87 rfl
instance iEm3 : IsZ0 Try.prog 3 := ⟨by kernel_rfl⟩
theorem emLaid : laidOutB Try.prog = true := by kernel_rfl
instance iEm4 : IsKy Try.prog 93 := IsKy.of (m := 2) emLaid (by decide) (by kernel_rfl) (by kernel_rfl) Try.underlying93 rfl
abbrev peV (p : Pr2) : Value := .agg ⟨[.int .i64 p.1, .int .i64 p.2]⟩
def SmE (p : Pr2) : Prop := 0 ≤ p.1 ∧ p.1 < 4096 ∧ 0 ≤ p.2 ∧ p.2 < 4096
theorem peV_key {p : Pr2} (h : SmE p) : KeyV Try.prog 93 (peV p) := by
  obtain ⟨h1, h2, h3, h4⟩ := h
  refine KeyV.pair (fa := 3) (fb := 3) (by kernel_rfl) (fun a b => ?_) ⟨_, Try.underlying93⟩ ?_ ?_
  · obtain ⟨s, hs⟩ : ∃ s, Try.prog.types.size = s + 1 := by
      have : Nat.ble 1 Try.prog.types.size = true := by kernel_rfl
      have := Nat.le_of_ble_eq_true this
      exact ⟨Try.prog.types.size - 1, by omega⟩
    have hc : Try.prog.cellsOf 3 = 1 := by kernel_rfl
    have hI : ∀ (x : Int), Try.prog.keyLits (s + 1) 3 [.int .i64 x] = if (Lit.int .i64 x).wf = true then some [.int .i64 x] else none := fun x => by
      rw [Program.keyLits.eq_def]
      simp only [Try.underlying3]
      by_cases h : (Lit.int .i64 x).wf = true <;> simp [h]
    rw [hs, Program.keyLits.eq_def]
    simp only [Try.underlying93]
    rw [if_pos ⟨by kernel_rfl, by kernel_rfl⟩]
    simp only [List.mapM_cons, List.mapM_nil, hc, List.drop_zero, List.take_succ_cons, List.take_zero, List.drop_succ_cons, hI]
    by_cases h1 : (Lit.int .i64 a).wf = true <;> by_cases h2 : (Lit.int .i64 b).wf = true <;> simp [h1, h2]
  · simp [Lit.wf, IntKind.min, IntKind.max, IntKind.signed, IntKind.bits]; omega
  · simp [Lit.wf, IntKind.min, IntKind.max, IntKind.signed, IntKind.bits]; omega
theorem peV_inj {p q : Pr2} (h : peV p = peV q) : p = q := by
  obtain ⟨a, b⟩ := p
  obtain ⟨c, d⟩ := q
  simp [peV] at h
  exact Prod.ext h.1 h.2
/-- where the world and the automaton lie that are searched -/
structure EA where
  a1 : Option Addr
  c1 : Nat
  a2 : Option Addr
  c2 : Nat
  a3 : Option Addr
  c3 : Nat
  a4 : Option Addr
  c4 : Nat
  k1 : Option Addr
  d1 : Nat
  k2 : Option Addr
  d2 : Nat
  k3 : Option Addr
  d3 : Nat
  k4 : Option Addr
  d4 : Nat
  k5 : Option Addr
  d5 : Nat
  W : LWorld
  A : LAuto2
abbrev eCells (e : EA) (mb : Nat) (lv nv fv : Value) : List Value := [.slice e.a1 e.W.1.length e.c1, .slice e.a2 e.W.2.1.length e.c2, .slice e.a3 e.W.2.2.1.length e.c3, .slice e.a4 e.W.2.2.2.length e.c4, .slice e.k1 e.A.1.length e.d1, .slice e.k2 e.A.2.1.length e.d2, .slice e.k3 e.A.2.2.1.length e.d3, .slice e.k4 e.A.2.2.2.1.length e.d4, .slice e.k5 e.A.2.2.2.2.length e.d5, .map (some mb), lv, nv, fv]
structure EIn (w : World) (F : Nat → Prop) (e : EA) : Prop where
  h1 : Sl w F e.a1 e.c1 e.W.1
  h2 : Sl w F e.a2 e.c2 e.W.2.1
  h3 : Sl w F e.a3 e.c3 e.W.2.2.1
  h4 : Sl w F e.a4 e.c4 e.W.2.2.2
  g1 : Sl w F e.k1 e.d1 e.A.1
  g2 : Sl w F e.k2 e.d2 e.A.2.1
  g3 : Sl w F e.k3 e.d3 e.A.2.2.1
  g4 : Sl w F e.k4 e.d4 e.A.2.2.2.1
  g5 : Sl w F e.k5 e.d5 e.A.2.2.2.2
theorem EIn.to {w w' : World} {F F' : Nat → Prop} {e : EA} (h : EIn w F e) (hK : ∀ b, F b → w'.heap[b]? = w.heap[b]?) (hF : ∀ b, F b → F' b) : EIn w' F' e :=
  ⟨h.h1.mono hK hF, h.h2.mono hK hF, h.h3.mono hK hF, h.h4.mono hK hF, h.g1.mono hK hF, h.g2.mono hK hF, h.g3.mono hK hF, h.g4.mono hK hF, h.g5.mono hK hF⟩
def fitE (e : EA) (p : Pr2) : Bool := fitB e.A.2.2.1 e.A.2.2.2.1 p.2.toNat (e.W.2.2.1.getD p.1.toNat 0)
/-- a pair of a state of the world and one of the automaton -/
def InE (e : EA) (p : Pr2) : Prop := (0 ≤ p.1 ∧ p.1 < (e.W.2.1.length : Int)) ∧ 0 ≤ p.2 ∧ p.2 < (e.A.2.1.length : Int)
/-- sizes are right -/
structure OkE (e : EA) : Prop where
  wn : e.W.2.1.length ≤ 600
  an : e.A.2.1.length ≤ 2048
  lb : e.W.2.2.1.length = e.W.2.1.length
  mu : e.A.2.2.1.length = e.A.2.1.length
  no : e.A.2.2.2.1.length = e.A.2.1.length
theorem InE.sm {e : EA} {p : Pr2} (hk : OkE e) (h : InE e p) : SmE p := by
  obtain ⟨⟨h1, h2⟩, h3, h4⟩ := h
  have := hk.wn
  have := hk.an
  exact ⟨h1, by omega, h3, by omega⟩
/-- the search -/
structure Em (w : World) (B : Nat) (e : EA) (sb mb : Nat) (lv nv fv : Value) (ps : List Pr2) : Prop where
  blk : Blk w sb 90 (eCells e mb lv nv fv)
  num : NumM Try.prog 93 w mb (ps.map peV)
  lo : Own w B 93 Non lv ps
  inn : EIn w (fun b => b < B) e
  ge : B ≤ sb ∧ B ≤ mb
  ne : sb ≠ mb
  nl : ∀ g, lv.ownBlock = some g → g ≠ sb ∧ g ≠ mb
  nd : ps.Nodup
  ins : ∀ p ∈ ps, InE e p
  ok : OkE e
theorem Em.ext {w w' : World} {B : Nat} {e : EA} {sb mb : Nat} {lv nv fv : Value} {ps : List Pr2} (h : Em w B e sb mb lv nv fv ps) (hB : B ≤ w.heap.size) (hE : Ext w w') : Em w' B e sb mb lv nv fv ps :=
  ⟨h.blk.ext hE, h.num.ext hE, h.lo.extN hE, h.inn.to (fun b hb => hE.block b (Nat.lt_of_lt_of_le hb hB)) (fun _ h => h), h.ge, h.ne, h.nl, h.nd, h.ins, h.ok⟩
theorem Em.len {w : World} {B : Nat} {e : EA} {sb mb : Nat} {lv nv fv : Value} {ps : List Pr2} (h : Em w B e sb mb lv nv fv ps) : ps.length ≤ 1228800 := by
  have h1 := nodup_box h.nd h.ins
  have h2 := Nat.mul_le_mul h.ok.wn h.ok.an
  omega
def emB (sb mb : Nat) (lv : Value) : Nat → Prop := fun b => b = sb ∨ b = mb ∨ lv.ownBlock = some b
set_option maxHeartbeats 2000000 in
theorem eadd_ok (w0 : World) {B : Nat} {e : EA} {sb mb : Nat} {lv nv fv : Value} {ps : List Pr2} {p : Pr2} (h : Em w0 B e sb mb lv nv fv ps) (hB : B ≤ w0.heap.size) (hp : InE e p) :
    Rt Try.prog 92 [.pointer (some ⟨sb, 0, none⟩), peV p].toArray w0 fun v w' => ∃ lv', v = .int .i64 (if fitE e p = true then (ps.idxOf p : Int) else -1) ∧ Em w' B e sb mb lv' nv fv (if fitE e p = true then addF ps p else ps) ∧
      Chg (emB sb mb lv) w0 w' ∧ (∀ g, lv'.ownBlock = some g → lv.ownBlock = some g ∨ w0.heap.size ≤ g) := by
  obtain ⟨x, y, rfl⟩ : ∃ x y : Nat, p = ((x : Int), (y : Int)) := ⟨p.1.toNat, p.2.toNat, by
    obtain ⟨⟨p1, p2⟩, p3, p4⟩ := hp
    exact Prod.ext (by show p.1 = ((p.1.toNat : Nat) : Int); omega) (by show p.2 = ((p.2.toNat : Nat) : Int); omega)⟩
  have hkey := peV_key (hp.sm h.ok)
  have hlen := h.len
  have hmem : peV ((x : Int), (y : Int)) ∈ ps.map peV ↔ ((x : Int), (y : Int)) ∈ ps := by
    rw [List.mem_map]
    exact ⟨fun ⟨q, h1, h2⟩ => by rw [← peV_inj h2]; exact h1, fun h => ⟨_, h, rfl⟩⟩
  refine Rt.enter2 Try.func92 Try.ntmps92 rfl rfl ?_
  (repeat (first | (apply CW.seq) | (apply CW.region)))
  refine WL.boxB rfl rfl rfl fun w1 hb3 e1 => ?_
  have h1 := h.ext hB e1
  have hblk := h1.blk
  have z1 := e1.size
  have l3 := hb3.lt
  obtain ⟨lo, lc, rfl⟩ := h.lo.val
  have hok := h.ok
  have hxl : x < e.W.2.2.1.length := by have := hp.1.2; have := hok.lb; dsimp only at *; omega
  have hym : y < e.A.2.2.1.length := by have := hp.2.2; have := hok.mu; dsimp only at *; omega
  have hyn : y < e.A.2.2.2.1.length := by have := hp.2.2; have := hok.no; dsimp only at *; omega
  have hI := h1.inn.to (F' := Old w1) (fun _ _ => rfl) (fun b hb => (show b < w1.heap.size by omega))
  have hfe : fitE e ((x : Int), (y : Int)) = fitB e.A.2.2.1 e.A.2.2.2.1 y e.W.2.2.1[x] := by
    unfold fitE
    dsimp only
    rw [Int.toNat_natCast, Int.toNat_natCast, List.getD_eq_getElem?_getD, List.getElem?_eq_getElem hxl]; rfl
  have hSE : ∀ z, (fun z : World => Ext w1 z) z → Ext w1 z := fun _ h => h
  generalize hpp : (((x : Int), (y : Int)) : Pr2) = pp at *
  have hp1 : pp.1 = (x : Int) := by rw [← hpp]
  have hp2 : pp.2 = (y : Int) := by rw [← hpp]
  (repeat (first | (apply WL.pure; rfl; rfl; rfl) | (apply WL.nil) | (apply EX.thenN) | (apply CW.seq)))
  refine CW.drawH (fun z => Ext w1 z) [(0, true), (1, true), (2, true), (3, true), (4, true), (5, true), (6, true), (7, true), (8, true), (9, true), (10, true), (11, true), (12, true), (13, true), (14, true), (15, false), (16, true)] mixed (by kernel_rfl) (Ext.drew w1) ?_
  (repeat (first | (apply HL.pure; rfl; rfl; rfl; rfl) | (refine HL.fa rfl rfl rfl rfl ?_) | (apply HL.nck; rfl; rfl; rfl; rfl) | (refine HL.ld (by assumption) rfl rfl rfl rfl (by assumption) rfl ?_) | (refine HL.ldA (by assumption) rfl rfl rfl rfl (by assumption) rfl ?_)))
  rw [hp1, hp2]
  refine HL.elemN (α := Nat) (k := x) hSE rfl rfl rfl rfl rfl rfl rfl (fun _ h => h) hI.h3 hxl (fun _ => rfl) (fun u q hu => ?_)
  obtain ⟨rfl, hu64⟩ := hu.u64
  skip
  have hd := Ext.drew w1
  refine HL.mut rfl (WL.call rfl rfl rfl (Fits_ok (drew w1) (hI.g3.at hd) (hI.g4.at hd) y e.W.2.2.1[x] hym hyn hu64) ?_)
  rintro _ w2 ⟨rfl, e2⟩
  have e2 := hd.trans e2
  refine WL.nil (EX.mut e2 ?_)
  rw [← hfe]
  (repeat (first | (apply HL.pure; rfl; rfl; rfl; rfl) | (apply HL.nil)))
  have hE := e1.trans e2
  by_cases hfit : fitE e pp = true
  case neg =>
    have hfit : fitE e pp = false := by simpa using hfit
    rw [hfit]
    (repeat (first | (apply WL.pure; rfl; rfl; rfl) | (apply WL.nil) | (apply EX.thenN) | (apply CW.seq) | (apply CW.region) | (apply CW.condT; rfl) | (apply CW.ret) | (apply EX.thenR)))
    exact EX.ret1 rfl rfl ⟨.slice lo ps.length lc, rfl, by simpa using h.ext hB hE, ⟨hE.os, hE.tape, hE.output, hE.size, fun b hb _ => hE.block b hb⟩, fun g hg => .inl hg⟩
  rw [hfit, if_pos rfl, if_pos rfl]
  apply EX.thenN
  refine CW.condF rfl ?_
  apply CW.skip
  apply EX.thenN
  have h2 := h.ext hB hE
  have hb32 := hb3.ext e2
  have hz2 := hE.size
  refine CW.cutE [(0, .pointer (some ⟨sb, 0, none⟩)), (3, .pointer (some ⟨w0.heap.size, 0, none⟩)), (5, .int .i64 (if pp ∈ ps then (ps.idxOf pp : Int) else 0)), (6, .bool (decide (pp ∈ ps)))] ?_ (fun w3 e3 => ?_)
  · have hblk := h2.blk
    by_cases hin : pp ∈ ps
    · rw [if_pos hin, decide_eq_true hin]
      obtain ⟨j, hj, hjm⟩ := List.mem_iff_getElem.1 hin
      have hix : ps.idxOf pp = j := by rw [← hjm]; exact h.nd.idxOf_getElem j hj
      rw [hix]
      (repeat (first | (apply QL.pure; rfl; rfl; rfl) | (apply QL.fa; rfl; rfl; rfl) | (apply QL.nck; rfl; rfl; rfl) | (apply QL.ld; rfl; rfl; rfl; assumption; rfl) | (apply QL.ldA; rfl; rfl; rfl; assumption; rfl) | (apply CW.draw; exact mixed; kernel_rfl)))
      refine QL.numYes (j := j) (by simpa using hj) (by rw [List.getElem_map, hjm]) rfl rfl rfl rfl h2.num hkey ?_
      (repeat (apply QL.pure; rfl; rfl; rfl))
      refine QL.nil (fun w3 e3 => ?_)
      exact EX.cutE (by repeat (first | exact trivial | refine ⟨rfl, ?_⟩)) e3
    · rw [if_neg hin, decide_eq_false hin]
      (repeat (first | (apply QL.pure; rfl; rfl; rfl) | (apply QL.fa; rfl; rfl; rfl) | (apply QL.nck; rfl; rfl; rfl) | (apply QL.ld; rfl; rfl; rfl; assumption; rfl) | (apply QL.ldA; rfl; rfl; rfl; assumption; rfl) | (apply CW.draw; exact mixed; kernel_rfl)))
      refine QL.numNo rfl rfl rfl rfl h2.num hkey (fun h => hin (hmem.1 h)) ?_
      (repeat (apply QL.pure; rfl; rfl; rfl))
      refine QL.nil (fun w3 e3 => ?_)
      exact EX.cutE (by repeat (first | exact trivial | refine ⟨rfl, ?_⟩)) e3
  have hE3 := hE.trans e3
  have h3 := h.ext hB hE3
  have hb3 := hb32.ext e3
  have hz3 := hE3.size
  have hchg : Chg (emB sb mb (.slice lo ps.length lc)) w0 w3 := ⟨hE3.os, hE3.tape, hE3.output, hE3.size, fun b hb _ => hE3.block b hb⟩
  clear h1 hblk hI hSE hb32 h2 e2 e1 hE hd
  by_cases hin : pp ∈ ps
  · rw [if_pos hin, decide_eq_true hin, show addF ps pp = ps from if_pos hin]
    (repeat (first | (apply WL.pure; rfl; rfl; rfl) | (apply WL.nil) | (apply EX.thenN) | (apply CW.seq) | (apply CW.region) | (apply CW.condF; rfl) | (apply CW.ret) | (apply CW.skip)))
    exact EX.ret1 rfl rfl ⟨.slice lo ps.length lc, rfl, h3, hchg, fun g hg => .inl hg⟩
  rw [if_neg hin, decide_eq_false hin, show addF ps pp = ps ++ [pp] from if_neg hin]
  have hix := idxOf_new hin
  have hblk := h3.blk
  have hmb0 := h.num.lt
  have hsb0 := h.blk.lt
  have hlt0 := h.lo.lt
  have hne := h.ne
  have hnl := h.nl
  have hl3x := hb3.lt
  rw [hix]
  -- the map
  have hD : Ext w3 (drew w3) := Ext.drew w3
  have hblkd := hblk.ext hD
  have hb3d := hb3.ext hD
  have hK5 : ∀ u, (fun x : World => x.heap[w0.heap.size]? = (drew w3).heap[w0.heap.size]? ∧ x.heap[sb]? = (drew w3).heap[sb]?) u → u.heap[w0.heap.size]? = (drew w3).heap[w0.heap.size]? := fun _ h => h.1
  have hKs : ∀ u, (fun x : World => x.heap[w0.heap.size]? = (drew w3).heap[w0.heap.size]? ∧ x.heap[sb]? = (drew w3).heap[sb]?) u → u.heap[sb]? = (drew w3).heap[sb]? := fun _ h => h.2
  (repeat (first | (apply WL.pure; rfl; rfl; rfl) | (apply WL.nil) | (apply EX.thenN) | (apply CW.seq) | (apply CW.region) | (apply WL.lenS; rfl; rfl; rfl) | (apply WL.fa; rfl; rfl; rfl) | (apply WL.nck; rfl; rfl; rfl) | (apply WL.ld; rfl; rfl; rfl; assumption; rfl) | (apply CW.condT; rfl)))
  refine CW.drawH (fun x : World => x.heap[w0.heap.size]? = (drew w3).heap[w0.heap.size]? ∧ x.heap[sb]? = (drew w3).heap[sb]?) [(0, true), (1, true), (2, true), (3, true), (4, true), (5, true), (6, false)] mixed (by kernel_rfl) ⟨rfl, rfl⟩ ?_
  (repeat (first | (apply HL.pure; rfl; rfl; rfl; rfl) | (refine HL.fa rfl rfl rfl rfl ?_) | (apply HL.nck; rfl; rfl; rfl; rfl) | (refine HL.ldK (by assumption) rfl rfl rfl rfl (by assumption) rfl ?_)))
  refine HL.ldAQ hK5 rfl rfl rfl rfl hb3d rfl ?_
  (repeat (apply HL.pure; rfl; rfl; rfl; rfl))
  refine HL.mut rfl (WL.numPut (ks := ps.map peV) rfl rfl rfl (by simp [ev, fnd, List.length_map]) (h3.num.ext hD) hkey (fun h => hin (hmem.1 h)) (fun w4 hnum4 hg4 => ?_))
  have hzd := hD.size
  refine WL.nil (EX.mut ⟨?_, ?_⟩ (HL.nil ?_))
  · exact hg4.block _ (by omega) (fun e => by have := Option.some.inj e; omega)
  · exact hg4.block _ (by omega) (fun e => hne (Option.some.inj e))
  have hz4 := hg4.size
  have hblk4 := hblkd.kept hg4 (fun e => hne (Option.some.inj e))
  have hb34 := hb3d.kept hg4 (fun e => by have := Option.some.inj e; omega)
  have hlo4 := (h3.lo.extN hD).keptN hg4 (fun g hg e => (hnl g hg).2 (Option.some.inj e))
  have hC4 : Chg (emB sb mb (.slice lo ps.length lc)) w0 w4 := (⟨hD.os.trans hchg.os, hD.tape.trans hchg.tape, hD.output.trans hchg.output, Nat.le_trans hchg.size hD.size, fun b hb hn => (hD.block b (Nat.lt_of_lt_of_le hb hchg.size)).trans (hchg.block b hb hn)⟩ : Chg _ w0 (drew w3)).grown hg4 (fun g hg => by cases hg; exact .inr (.inl rfl))
  clear hblkd hb3d hK5 hKs hD hzd hg4 hblk hb3
  -- the list
  have hD : Ext w4 (drew w4) := Ext.drew w4
  have hblkd := hblk4.ext hD
  have hb3d := hb34.ext hD
  have hlsb := hblk4.lt
  have hl3 := hb34.lt
  have hK5 : ∀ u, (fun x : World => x.heap[w0.heap.size]? = (drew w4).heap[w0.heap.size]? ∧ x.heap[sb]? = (drew w4).heap[sb]?) u → u.heap[w0.heap.size]? = (drew w4).heap[w0.heap.size]? := fun _ h => h.1
  have hKs : ∀ u, (fun x : World => x.heap[w0.heap.size]? = (drew w4).heap[w0.heap.size]? ∧ x.heap[sb]? = (drew w4).heap[sb]?) u → u.heap[sb]? = (drew w4).heap[sb]? := fun _ h => h.2
  have hzd := hD.size
  (repeat (apply EX.thenN))
  refine CW.drawE (fun x : World => x.heap[w0.heap.size]? = (drew w4).heap[w0.heap.size]? ∧ x.heap[sb]? = (drew w4).heap[sb]?) [(0, true), (1, true), (2, true), (3, true), (4, true), (5, true), (6, false), (7, false), (8, false), (9, false)] 10 mixed (by kernel_rfl) ⟨rfl, rfl⟩ ?_
  (repeat (first | (apply HL.pure; rfl; rfl; rfl; rfl) | (refine HL.fa rfl rfl rfl rfl ?_) | (apply HL.nck; rfl; rfl; rfl; rfl) | (refine HL.ldK (by assumption) rfl rfl rfl rfl (by assumption) rfl ?_)))
  refine HL.ldAQ hK5 rfl rfl rfl rfl hb3d rfl ?_
  refine HL.app1 (α := Int × Int) (F := Non) (bytes := 16) (yv := pp) rfl rfl rfl rfl (fun _ => rfl) rfl rfl (fun _ => rfl) (hlo4.extN hD) (Rd.mkPr (c1 := [.int .i64 pp.1]) (c2 := [.int .i64 pp.2]) (rd_mkInt _ _ _) (rd_mkInt _ _ _)) (by omega) (fun _ h => h.elim) (by decide) (by unfold maxLen; omega) (by omega)
    (fun z hz => ⟨hz.block _ (by omega) (fun e => by have := hlt0 _ e.symm; omega), hz.block _ (by omega) (fun e => (hnl _ e.symm).1 rfl)⟩) (fun cl w5 q5 ho5 hg5 hnb5 => ?_)
  obtain ⟨lo', lc', rfl⟩ := ho5.val
  have hblk5 := hblkd.kept hg5 (fun e => (hnl _ e.symm).1 rfl)
  have hnum5 := (hnum4.ext hD).kept hg5 (fun e => (hnl _ e.symm).2 rfl)
  have hS5 : w5.heap[w0.heap.size]? = (drew w4).heap[w0.heap.size]? ∧ w5.heap[sb]? = (drew w4).heap[sb]? := ⟨hg5.block _ (by omega) (fun e => by have := hlt0 _ e.symm; omega), hg5.block _ (by omega) (fun e => (hnl _ e.symm).1 rfl)⟩
  refine HL.mut rfl (WL.nck rfl rfl rfl (WL.nil (EX.mut hS5 ?_)))
  refine HL.mut rfl (WL.fa rfl rfl rfl (WL.nil (EX.mut hS5 (HL.nil ?_))))
  refine EX.tail rfl (WL.st rfl rfl rfl hblk5 rfl rfl (ones_of rfl) (fun w6 hblk6 hg6 => WL.nil (EX.tailE ?_)))
  have hlo6 := ho5.keptN hg6 (fun g hg e => by
    rcases hnb5 g hg with h | h
    · exact (hnl g h).1 (Option.some.inj e)
    · have := Option.some.inj e; omega)
  have hnum6 := hnum5.kept hg6 (fun e => hne (Option.some.inj e).symm)
  have hC5 := (⟨hD.os.trans hC4.os, hD.tape.trans hC4.tape, hD.output.trans hC4.output, Nat.le_trans hC4.size hD.size, fun b hb hn => (hD.block b (Nat.lt_of_lt_of_le hb hC4.size)).trans (hC4.block b hb hn)⟩ : Chg (emB sb mb (.slice lo ps.length lc)) w0 (drew w4)).grown hg5 (fun g hg => .inr (.inr hg))
  have hC6 := hC5.grown hg6 (fun g hg => by cases hg; exact .inl rfl)
  have hz5 := hg5.size
  rw [show ps.map peV ++ [peV pp] = (ps ++ [pp]).map peV by simp] at hnum6
  have hge := h.ge
  have hSb : ∀ b, emB sb mb (.slice lo ps.length lc) b → B ≤ b := fun b hb => by
    rcases hb with h' | h' | h'
    · omega
    · omega
    · exact (hlt0 b h').1
  (repeat (first | (apply WL.pure; rfl; rfl; rfl) | (apply WL.nil) | (apply EX.thenN) | (apply CW.seq) | (apply CW.region) | (apply CW.ret)))
  refine EX.ret1 rfl rfl ⟨.slice lo' (ps ++ [pp]).length lc', rfl, ⟨hblk6, hnum6, hlo6, h.inn.to (fun b hb => hC6.block b (by omega) (fun hs => by have := hSb b hs; omega)) (fun _ h => h), hge, hne, fun g hg => ?_, ?_, fun q hq => ?_, hok⟩, hC6, fun g hg => ?_⟩
  · rcases hnb5 g hg with h | h
    · exact hnl g h
    · exact ⟨by omega, by omega⟩
  · rw [List.nodup_append]
    refine ⟨h.nd, List.pairwise_singleton _ _, fun a ha b hb e' => ?_⟩
    rw [List.mem_singleton] at hb
    exact hin (by rw [← hb, ← e']; exact ha)
  · rcases List.mem_append.1 hq with hq | hq
    · exact h.ins q hq
    · rw [List.mem_singleton] at hq; rw [hq]; exact hp
  · rcases hnb5 g hg with h | h
    · exact .inl h
    · exact .inr (by omega)
end Go.Proofs.Ytllpfgcngokhnaa
/-
  Package empty: cross, states: walked.
-/
set_option linter.unusedVariables false
set_option linter.unusedSimpArgs false
namespace Go.Proofs.Ytllpfgcngokhnaa
open Go.RowKit

theorem Em.chg {S : Nat → Prop} {w w' : World} {B : Nat} {e : EA} {sb mb : Nat} {lv nv fv : Value} {ps : List Pr2} (h : Em w B e sb mb lv nv fv ps) (hB : B ≤ w.heap.size) (hC : Chg S w w') (hS : ∀ b, S b → B ≤ b ∧ b ≠ sb ∧ b ≠ mb ∧ lv.ownBlock ≠ some b) : Em w' B e sb mb lv nv fv ps :=
  ⟨(hC.block sb h.blk.lt (fun k => (hS _ k).2.1 rfl)).trans h.blk, h.num.at (hC.block mb h.num.lt (fun k => (hS _ k).2.2.1 rfl)), h.lo.chg hC (fun b hb k => (hS b k).2.2.2 hb), h.inn.to (fun b hb => hC.block b (Nat.lt_of_lt_of_le hb hB) (fun k => by have := (hS b k).1; omega)) (fun _ h => h), h.ge, h.ne, h.nl, h.nd, h.ins, h.ok⟩
structure CrI (w0 w : World) (B : Nat) (e : EA) (sb mb : Nat) (lv0 lv ov nv fv : Value) (ps : List Pr2) (out : List Int) : Prop where
  em : Em w B e sb mb lv nv fv ps
  own : Own w w0.heap.size 3 Non ov out
  chg : Chg (emB sb mb lv0) w0 w
  new : ∀ g, lv.ownBlock = some g → lv0.ownBlock = some g ∨ w0.heap.size ≤ g
  dis : ∀ g, ov.ownBlock = some g → lv.ownBlock ≠ some g
theorem pairsX_cons {x : Int} {l k : List Int} : pairsX (x :: l) k = (k.map fun y => (x, y)) ++ pairsX l k := rfl
theorem pairsX_len (l k : List Int) : (pairsX l k).length = l.length * k.length := by
  unfold pairsX
  induction l with
  | nil => simp
  | cons x r ih => rw [List.flatMap_cons, List.length_append, ih, List.length_map, List.length_cons, Nat.succ_mul]; omega
set_option maxHeartbeats 2000000 in
theorem cross_okE (w0 : World) {B : Nat} {e : EA} {sb mb : Nat} {lv nv fv : Value} {ps : List Pr2} {lo ko : Option Addr} {lc kc : Nat} {l k : List Int} (h : Em w0 B e sb mb lv nv fv ps) (hB : B ≤ w0.heap.size) (hl : Sl w0 (fun b => b < B) lo lc l) (hk : Sl w0 (fun b => b < B) ko kc k)
    (okl : okL e.W.2.1.length l) (okk : okL e.A.2.1.length k) (hln : l.length ≤ 1048576) (hkn : k.length ≤ 1048576) :
    Rt Try.prog 44 [.pointer (some ⟨sb, 0, none⟩), .slice lo l.length lc, .slice ko k.length kc].toArray w0 fun v w' => ∃ lv', CrI w0 w' B e sb mb lv lv' v nv fv (putF (fitE e) (pairsX l k) ps []).1 (putF (fitE e) (pairsX l k) ps []).2 := by
  have hT : (pairsX l k).length ≤ 1099511627776 := by rw [pairsX_len]; exact Nat.mul_le_mul hln hkn
  have hge := h.ge
  have hsb0 := h.blk.lt
  have hmb0 := h.num.lt
  have hlt0 := h.lo.lt
  have hSB : ∀ b, emB sb mb lv b → B ≤ b := fun b hb => by
    rcases hb with h' | h' | h'
    · omega
    · omega
    · exact (hlt0 b h').1
  generalize hG : putF (fitE e) (pairsX l k) ps [] = G at *
  refine Rt.enter3 Try.func44 Try.ntmps44 rfl rfl ?_
  (repeat (first | (apply WL.pure; rfl; rfl; rfl) | (apply WL.nil) | (apply EX.thenN) | (apply CW.seq) | (apply CW.region) | (apply WL.lenS; rfl; rfl; rfl) | (apply CW.block)))
  refine CW.loop (S := Nat × Value × Value × List Pr2 × List Int) (fun s => [(0, .pointer (some ⟨sb, 0, none⟩)), (2, .slice ko k.length kc), (7, s.2.2.1), (13, .slice lo l.length lc), (14, .int .i64 l.length), (15, .int .i64 s.1)])
    (fun s w => s.1 ≤ l.length ∧ putF (fitE e) (pairsX (l.drop s.1) k) s.2.2.2.1 s.2.2.2.2 = G ∧ CrI w0 w B e sb mb lv s.2.1 s.2.2.1 nv fv s.2.2.2.1 s.2.2.2.2 ∧ s.2.2.2.2.length + (pairsX (l.drop s.1) k).length ≤ (pairsX l k).length)
    (fun s => l.length - s.1) (0, lv, .slice none 0 0, ps, []) (by repeat (first | exact trivial | refine ⟨rfl, ?_⟩)) ⟨Nat.zero_le _, hG, ⟨h, Own.nil, Chg.refl _ _, fun g hg => .inl hg, fun g hg => by cases hg⟩, by simp⟩ ?_
  rintro ⟨i, lv1, ov, ps1, out⟩ w1 ⟨hi, hT1, hI, hle⟩
  dsimp only at hi hT1 hI hle ⊢
  (repeat (first | (apply WL.pure; rfl; rfl; rfl) | (apply WL.nil) | (apply EX.thenN) | (apply CW.seq) | (apply CW.region)))
  refine CW.cond rfl (fun hc => ?_) (fun hc => ?_)
  · have hi' : i < l.length := by simp at hc; omega
    rw [List.drop_eq_getElem_cons hi', pairsX_cons] at hT1 hle
    have hl1 := hl.mono (w' := w1) (fun b hb => hI.chg.block b (by omega) (fun hs => by have := hSB b hs; omega)) (F' := Old w1) (fun b hb => by have := hI.chg.size; exact (show b < w1.heap.size by omega))
    have hxr := okl _ (List.getElem_mem hi')
    (repeat (first | (apply EX.thenN) | (apply CW.seq) | (apply CW.region) | (apply CW.block) | (apply CW.skip)))
    refine WL.elemI rfl rfl rfl rfl rfl hl1 hi' rfl (fun _ => rfl) (fun q => ?_)
    generalize l[i] = x at *
    generalize hR : pairsX (l.drop (i + 1)) k = R at *
    (repeat (first | (apply WL.pure; rfl; rfl; rfl) | (apply WL.nil) | (apply EX.thenN) | (apply CW.seq) | (apply CW.region) | (apply WL.lenS; rfl; rfl; rfl) | (apply CW.block)))
    refine CW.loop (S := Nat × Value × Value × List Pr2 × List Int) (fun s => [(0, .pointer (some ⟨sb, 0, none⟩)), (2, .slice ko k.length kc), (7, s.2.2.1), (9, .int .i64 x), (13, .slice lo l.length lc), (14, .int .i64 l.length), (15, .int .i64 i), (19, .slice ko k.length kc), (20, .int .i64 k.length), (21, .int .i64 s.1)])
      (fun s w => s.1 ≤ k.length ∧ putF (fitE e) (((k.drop s.1).map fun y => (x, y)) ++ R) s.2.2.2.1 s.2.2.2.2 = G ∧ CrI w0 w B e sb mb lv s.2.1 s.2.2.1 nv fv s.2.2.2.1 s.2.2.2.2 ∧ s.2.2.2.2.length + (k.length - s.1) + R.length ≤ (pairsX l k).length)
      (fun s => k.length - s.1) (0, lv1, ov, ps1, out) (by repeat (first | exact trivial | refine ⟨rfl, ?_⟩)) ⟨Nat.zero_le _, hT1, hI, by simp only [List.length_append, List.length_map] at hle; dsimp only; omega⟩ ?_
    clear hT1 hI hle hl1
    rintro ⟨j, lv1, ov, ps1, out⟩ w1 ⟨hj, hT1, hI, hle⟩
    dsimp only at hj hT1 hI hle ⊢
    have z1 := hI.chg.size
    (repeat (first | (apply WL.pure; rfl; rfl; rfl) | (apply WL.nil) | (apply EX.thenN) | (apply CW.seq) | (apply CW.region)))
    refine CW.cond rfl (fun hc => ?_) (fun hc => ?_)
    · have hj' : j < k.length := by simp at hc; omega
      rw [List.drop_eq_getElem_cons hj', List.map_cons, List.cons_append, putF] at hT1
      have hk1 := hk.mono (w' := w1) (fun b hb => hI.chg.block b (by omega) (fun hs => by have := hSB b hs; omega)) (F' := Old w1) (fun b hb => (show b < w1.heap.size by omega))
      have hyr := okk _ (List.getElem_mem hj')
      (repeat (first | (apply EX.thenN) | (apply CW.seq) | (apply CW.region) | (apply CW.block) | (apply CW.skip)))
      refine WL.elemI rfl rfl rfl rfl rfl hk1 hj' rfl (fun _ => rfl) (fun q => ?_)
      generalize k[j] = y at *
      have hin : InE e (x, y) := ⟨hxr, hyr⟩
      (repeat (first | (apply WL.pure; rfl; rfl; rfl) | (apply WL.nil) | (apply EX.thenN) | (apply CW.seq) | (apply CW.region)))
      refine WL.build rfl rfl rfl rfl ?_
      have hadd := eadd_ok w1 hI.em (by omega) hin
      rw [show peV (x, y) = .agg [.int .i64 x, .int .i64 y].toArray from rfl] at hadd
      refine WL.call rfl rfl rfl hadd ?_
      rintro _ w2 ⟨lv2, rfl, hE2, hC2, hn2⟩
      have hlo1 := fun g hg => hI.own.lt g hg
      have hll1 := fun g hg => hI.em.lo.lt g hg
      have z2 := hC2.size
      have hov2 := hI.own.chg hC2 (fun b hb hs => by
        have := hlo1 b hb
        rcases hs with h' | h' | h'
        · omega
        · omega
        · exact hI.dis b hb h')
      have hC02 : Chg (emB sb mb lv) w0 w2 := hI.chg.then hC2 (fun b hs => by
        rcases hs with h' | h' | h'
        · exact .inl (.inl h')
        · exact .inl (.inr (.inl h'))
        · exact (hI.new b h').imp (fun h => .inr (.inr h)) id)
      have hn02 : ∀ g, lv2.ownBlock = some g → lv.ownBlock = some g ∨ w0.heap.size ≤ g := fun g hg => (hn2 g hg).elim (hI.new g) (fun h => .inr (by omega))
      have hd2 : ∀ g, ov.ownBlock = some g → lv2.ownBlock ≠ some g := fun g hg hl => (hn2 g hl).elim (hI.dis g hg) (fun h => by have := (hlo1 g hg).2; omega)
      by_cases hf : fitE e (x, y) = true
      · rw [if_pos hf] at hT1 hE2
        rw [if_pos hf]
        have hge0 : decide (((ps1.idxOf (x, y) : Nat) : Int) ≥ 0) = true := decide_eq_true (by omega)
        (repeat (first | (apply WL.pure; rfl; rfl; rfl) | (apply WL.nil) | (apply EX.thenN) | (apply CW.seq) | (apply CW.region) | (apply CW.condT; rfl)))
        rw [hge0]
        skip
        refine WL.app1 (α := Int) (F := Non) (bytes := 8) (yv := ((ps1.idxOf (x, y) : Nat) : Int)) rfl rfl (fun _ => rfl) rfl rfl (fun _ => rfl) hov2 (Rd.mkInt _ _ _) (by omega) (fun _ h => h.elim) (by decide) (by unfold maxLen; omega) (by omega) (fun ov' w3 q ho3 hg3 hnb3 => ?_)
        have hll2 := fun g hg => hE2.lo.lt g hg
        have hov2l := fun g hg => hov2.lt g hg
        have hE3 := hE2.chg (by omega) (Chg.of_grown hg3) (fun b hb => ⟨by have := (hov2l b hb).1; omega, by have := (hov2l b hb).1; omega, by have := (hov2l b hb).1; omega, hd2 b hb⟩)
        (repeat (first | (apply WL.add; rfl; rfl; rfl; rfl; omega; omega) | (apply WL.pure; rfl; rfl; rfl) | (apply WL.nil) | (apply EX.thenN) | (apply CW.region) | (apply EX.inN)))
        exact EX.back (j + 1, lv2, ov', _, _) (by repeat (first | exact trivial | refine ⟨rfl, ?_⟩)) ⟨hj', hT1, ⟨hE3, ho3, hC02.then (Chg.of_grown hg3) (fun b hb => .inr (hov2l b hb).1), hn02, fun g hg hl => (hnb3 g hg).elim (fun h => hd2 g h hl) (fun h => by have := (hll2 g hl).2.1; omega)⟩, by simp; omega⟩ (by dsimp only; omega)
      · rw [if_neg hf] at hT1 hE2
        rw [if_neg hf]
        (repeat (first | (apply WL.add; rfl; rfl; rfl; rfl; omega; omega) | (apply WL.pure; rfl; rfl; rfl) | (apply WL.nil) | (apply EX.thenN) | (apply CW.seq) | (apply CW.region) | (apply EX.inN) | (apply CW.condF; rfl) | (apply CW.skip)))
        exact EX.back (j + 1, lv2, ov, _, _) (by repeat (first | exact trivial | refine ⟨rfl, ?_⟩)) ⟨hj', hT1, ⟨hE2, hov2, hC02, hn02, hd2⟩, by dsimp only; omega⟩ (by dsimp only; omega)
    · obtain rfl : j = k.length := by simp at hc; omega
      rw [List.drop_length, List.map_nil, List.nil_append] at hT1
      (repeat (first | (apply WL.add; rfl; rfl; rfl; rfl; omega; omega) | (apply WL.pure; rfl; rfl; rfl) | (apply WL.nil) | (apply EX.thenN) | (apply CW.region) | (apply EX.inN) | (apply CW.exit) | (apply EX.thenX) | (apply EX.inX)))
      exact EX.back (i + 1, lv1, ov, ps1, out) (by repeat (first | exact trivial | refine ⟨rfl, ?_⟩)) ⟨hi', by rw [hR]; exact hT1, hI, by dsimp only; rw [hR]; omega⟩ (by dsimp only; omega)
  · obtain rfl : i = l.length := by simp at hc; omega
    rw [List.drop_length] at hT1
    have hT1 : (ps1, out) = G := hT1
    subst hT1
    (repeat (first | (apply WL.pure; rfl; rfl; rfl) | (apply WL.nil) | (apply EX.thenN) | (apply CW.seq) | (apply CW.region) | (apply CW.exit) | (apply EX.thenX) | (apply EX.inX) | (apply CW.ret)))
    exact EX.ret1 rfl rfl ⟨lv1, hI⟩
end Go.Proofs.Ytllpfgcngokhnaa
/-
  Package empty: sets: walked.
-/
set_option linter.unusedVariables false
set_option linter.unusedSimpArgs false
namespace Go.Proofs.Ytllpfgcngokhnaa
open Go.RowKit

instance iEs1 : IsT Try.prog 54 Raw := IsT.of (by kernel_rfl) Try.underlying54 rfl
instance iEs2 : IsZ Try.prog 54 (⟨.slice none 0 0⟩ : Raw) 24 := IsZ.of (z := .slice none 0 0) (by kernel_rfl) (fun _ _ => ⟨rfl, rfl⟩)
theorem rd_peV {w : World} {F : Nat → Prop} {v : Value} {x : Pr2} (h : Rd w F v x) : v = peV x := by
  obtain ⟨c1, c2, rfl, h1, h2⟩ := h.pr
  rw [rd_int h1, rd_int h2]; rfl
theorem esets2_ok (w : World) (p : Pr2) : Rt Try.prog 95 [peV p].toArray w fun v w' => v = .int .i64 p.1 ∧ Ext w w' := by
  refine Rt.enter1 Try.func95 Try.ntmps95 rfl rfl ?_
  (repeat (first | (apply CW.seq) | (apply CW.region)))
  refine WL.boxB rfl rfl rfl fun w1 hb1 e1 => ?_
  (repeat (first | (apply WL.pure; rfl; rfl; rfl) | (apply WL.nil) | (apply EX.thenN) | (apply CW.seq) | (apply CW.region) | (apply WL.fa; rfl; rfl; rfl) | (apply WL.ld; rfl; rfl; rfl; assumption; rfl) | (apply CW.ret)))
  exact EX.ret1 rfl rfl ⟨rfl, e1⟩
theorem esets3_ok (w : World) (p : Pr2) : Rt Try.prog 96 [peV p].toArray w fun v w' => v = .int .i64 p.2 ∧ Ext w w' := by
  refine Rt.enter1 Try.func96 Try.ntmps96 rfl rfl ?_
  (repeat (first | (apply CW.seq) | (apply CW.region)))
  refine WL.boxB rfl rfl rfl fun w1 hb1 e1 => ?_
  (repeat (first | (apply WL.pure; rfl; rfl; rfl) | (apply WL.nil) | (apply EX.thenN) | (apply CW.seq) | (apply CW.region) | (apply WL.fa; rfl; rfl; rfl) | (apply WL.ld; rfl; rfl; rfl; assumption; rfl) | (apply CW.ret)))
  exact EX.ret1 rfl rfl ⟨rfl, e1⟩
set_option maxHeartbeats 1000000 in
theorem eput_ok (w0 : World) {b1 bo sb B2 n : Nat} {x0 x1 x2 x3 x4 x5 x6 x7 x8 x9 x11 x12 ov ofv : Value} {lo fo : Option Addr} {lc fc : Nat} {ps : List Pr2} {Fl : List Int} {vs : List Raw} {xs : List (List Bool)} {of : Pr2 → Int}
    (hb1 : Blk w0 b1 86 [.pointer (some ⟨sb, 0, none⟩)]) (hb : Blk w0 sb 90 [x0, x1, x2, x3, x4, x5, x6, x7, x8, x9, .slice lo ps.length lc, x11, x12]) (hbo : Blk w0 bo 95 [ov]) (hn : Own w0 B2 54 Non ov vs) (hB : B2 ≤ w0.heap.size)
    (inn : InnR w0 (fun b => b = bo ∨ ov.ownBlock = some b) vs xs) (hlo : Sl w0 (Old w0) lo lc ps) (hfr : Sl w0 (Old w0) fo fc Fl) (hok : okL n Fl) (hnn : n ≤ 1099511627776)
    (hof : ∀ w p, p ∈ ps → FnV Try.prog ofv [peV p] w fun v w' => v = .int .i64 (of p) ∧ Ext w w') (hin : ∀ p ∈ ps, 0 ≤ of p ∧ of p < n) (hps : ps.length ≤ 1228800) (hxs : xs.length ≤ 4096) (hne : ∀ g, ov.ownBlock = some g → g ≠ bo) :
    Rt Try.prog 94 [.slice fo Fl.length fc, ofv, .int .i64 (n : Int), .pointer (some ⟨b1, 0, none⟩), .pointer (some ⟨bo, 0, none⟩)].toArray w0 fun v w' => ∃ ov' vs', Blk w' bo 95 [ov'] ∧ Own w' B2 54 Non ov' vs' ∧
      InnR w' (fun b => b = bo ∨ ov'.ownBlock = some b) vs' (xs ++ [ps.map fun p => decide (of p ∈ Fl)]) ∧ Chg (fun b => b = bo ∨ ov.ownBlock = some b) w0 w' ∧ ∀ g, ov'.ownBlock = some g → ov.ownBlock = some g ∨ w0.heap.size ≤ g := by
  have hfl := hfr.len63
  have hll := hlo.len63
  have hlbo := hbo.lt
  refine Rt.enter5 Try.func94 Try.ntmps94 rfl rfl ?_
  (repeat (first | (apply WL.pure; rfl; rfl; rfl) | (apply CW.seq) | (apply CW.region)))
  refine WL.make (α := Bool) rfl rfl rfl rfl (by omega) (by unfold maxLen; omega) (fun w1 ho1 hg1 => ?_)
  have hE1 : Ext w0 w1 := (Below.refl _ _).grown hg1 (Nat.le_refl _) (fun k h => by cases h)
  generalize hsv : Value.slice (some ⟨w0.heap.size, 0, none⟩) n n = sv at *
  (repeat (first | (apply WL.pure; rfl; rfl; rfl) | (apply WL.nil) | (apply EX.thenN) | (apply CW.seq) | (apply CW.region) | (apply WL.lenS; rfl; rfl; rfl) | (apply CW.block)))
  refine CW.loop (S := Nat × List Bool) (fun s => [(1, ofv), (3, .pointer (some ⟨b1, 0, none⟩)), (4, .pointer (some ⟨bo, 0, none⟩)), (8, sv), (16, .slice fo Fl.length fc), (17, .int .i64 Fl.length), (18, .int .i64 s.1)])
    (fun s w => s.1 ≤ Fl.length ∧ Own w w0.heap.size 4 Non sv s.2 ∧ s.2.length = n ∧ (∀ c : Nat, c < n → (s.2.getD c false = true ↔ (c : Int) ∈ Fl.take s.1)) ∧ Ext w0 w) (fun s => Fl.length - s.1) (0, List.replicate n false) (by repeat (first | exact trivial | refine ⟨rfl, ?_⟩))
    ⟨Nat.zero_le _, ho1, by simp, fun c hc => by simp [List.getElem?_replicate, hc], hE1⟩ ?_
  clear ho1 hg1 hE1
  rintro ⟨i, il⟩ w ⟨hi, ho, hil, hr, hE⟩
  dsimp only at hi ho hil hr ⊢
  (repeat (first | (apply WL.pure; rfl; rfl; rfl) | (apply WL.nil) | (apply EX.thenN) | (apply CW.seq) | (apply CW.region)))
  refine CW.cond rfl (fun h => ?_) (fun h => ?_)
  · have hi' : i < Fl.length := by simp at h; omega
    have hxr := hok _ (List.getElem_mem hi')
    have htk : Fl.take (i + 1) = Fl.take i ++ [Fl[i]] := List.take_succ_eq_append_getElem hi'
    (repeat (first | (apply EX.thenN) | (apply CW.seq) | (apply CW.region) | (apply CW.block) | (apply CW.skip)))
    refine WL.elemI rfl rfl rfl rfl rfl (hfr.up hE) hi' rfl (fun _ => rfl) (fun q => ?_)
    generalize Fl[i] = x at *
    obtain ⟨c0, rfl⟩ := Int.eq_ofNat_of_zero_le hxr.1
    (repeat (first | (apply WL.pure; rfl; rfl; rfl) | (apply WL.nil) | (apply EX.thenN) | (apply CW.region)))
    refine WL.setN (u := .bool true) (yv := true) rfl rfl rfl rfl ho (show c0 < il.length by omega) (fun _ => rfl) (fun _ => rfl) (Rd.mkBool _ _ _) (fun w4 q2 ho4 hg4 => ?_)
    have hE4 : Ext w0 w4 := hE.grown hg4 hE.size (fun b hb => (ho.lt b hb).1)
    (repeat (first | (apply WL.add; rfl; rfl; rfl; rfl; omega; omega) | (apply WL.pure; rfl; rfl; rfl) | (apply WL.nil) | (apply EX.thenN) | (apply CW.region) | (apply EX.inN)))
    refine EX.back (i + 1, il.set c0 true) (by repeat (first | exact trivial | refine ⟨rfl, ?_⟩)) ⟨hi', ho4, by simpa using hil, fun c hc => ?_, hE4⟩ (by dsimp only; omega)
    dsimp only
    rw [getD_set (by omega), htk, List.mem_append, List.mem_singleton]
    by_cases e : c0 = c
    · subst e; simp
    · rw [if_neg e, hr c hc]
      exact ⟨.inl, fun h => h.resolve_right (fun h => e (by omega))⟩
  obtain rfl : i = Fl.length := by simp at h; omega
  clear h hi
  rw [List.take_length] at hr
  have hbit : ∀ p ∈ ps, ∀ c : Nat, of p = (c : Int) → il.getD c false = decide (of p ∈ Fl) := fun p hp c hc => by
    have h1 := hin p hp
    rw [Bool.eq_iff_iff, hr c (by omega), hc]; simp
  have hb1w := hb1.ext hE
  have hbw := hb.ext hE
  have hzw := hE.size
  have hltw := fun g hg => ho.lt g hg
  obtain ⟨mo, mc, rfl, hms⟩ := ho.oldN.sl
  (repeat (first | (apply EX.thenN) | (apply CW.seq) | (apply CW.region) | (apply WL.lenS; rfl; rfl; rfl) | (apply WL.fa; rfl; rfl; rfl) | (apply WL.nck; rfl; rfl; rfl) | (apply WL.ld; rfl; rfl; rfl; assumption; rfl) | (apply CW.exit) | (apply EX.thenX) | (apply EX.inX)))
  refine WL.make (α := Bool) rfl rfl rfl rfl (by omega) (by unfold maxLen; omega) (fun w2 ho2 hg2 => ?_)
  have hE2 : Ext w w2 := (Below.refl _ _).grown hg2 (Nat.le_refl _) (fun k h => by cases h)
  generalize hsv2 : Value.slice (some ⟨w.heap.size, 0, none⟩) ps.length ps.length = sv2 at *
  have hb1w := hb1w.ext hE2
  have hbw := hbw.ext hE2
  (repeat (first | (apply WL.pure; rfl; rfl; rfl) | (apply WL.nil) | (apply EX.thenN) | (apply CW.seq) | (apply CW.region) | (apply WL.lenS; rfl; rfl; rfl) | (apply WL.fa; rfl; rfl; rfl) | (apply WL.nck; rfl; rfl; rfl) | (apply WL.ld; rfl; rfl; rfl; assumption; rfl) | (apply CW.block)))
  refine CW.loop (S := Nat × List Bool) (fun s => [(1, ofv), (4, .pointer (some ⟨bo, 0, none⟩)), (8, .slice mo il.length mc), (11, sv2), (35, .slice lo ps.length lc), (36, .int .i64 ps.length), (37, .int .i64 s.1)])
    (fun s u => s.1 ≤ ps.length ∧ Own u w.heap.size 4 Non sv2 s.2 ∧ s.2.length = ps.length ∧ (∀ c : Nat, c < s.1 → s.2.getD c false = decide (of (ps.getD c (0, 0)) ∈ Fl)) ∧ Ext w u) (fun s => ps.length - s.1) (0, List.replicate ps.length false) (by repeat (first | exact trivial | refine ⟨rfl, ?_⟩))
    ⟨Nat.zero_le _, ho2, by simp, fun c hc => absurd hc (by simp), hE2⟩ ?_
  clear ho2 hg2 hE2 hb1w hbw
  rintro ⟨j, sl⟩ w3 ⟨hj, ho3, hsl, hset, hE3⟩
  dsimp only at hj ho3 hsl hset ⊢
  (repeat (first | (apply WL.pure; rfl; rfl; rfl) | (apply WL.nil) | (apply EX.thenN) | (apply CW.seq) | (apply CW.region)))
  refine CW.cond rfl (fun h => ?_) (fun h => ?_)
  · have hj' : j < ps.length := by simp at h; omega
    clear h
    have hpm := List.getElem_mem hj'
    have hpg : ps.getD j (0, 0) = ps[j] := by rw [List.getD_eq_getElem?_getD, List.getElem?_eq_getElem hj']; rfl
    have hip := hin _ hpm
    (repeat (first | (apply WL.pure; rfl; rfl; rfl) | (apply EX.thenN) | (apply CW.seq) | (apply CW.region) | (apply CW.block) | (apply CW.skip)))
    refine WL.elemN (i := j) rfl rfl rfl rfl rfl (hlo.up (hE.trans hE3)) hj' (fun _ => rfl) (fun u q hu => ?_)
    rw [rd_peV hu]
    clear hu
    generalize ps[j] = p at *
    skip
    refine WL.alloc rfl rfl (fun w4 hb4 e4 => ?_)
    (repeat (apply WL.pure; rfl; rfl; rfl))
    refine WL.st rfl rfl rfl hb4 rfl rfl (ones_of rfl) (fun w5 hb5 hg5 => ?_)
    have e5 : Ext w3 w5 := Below.grown e4 hg5 e4.size (fun g hg => by cases hg; exact Nat.le_refl _)
    clear hg5 e4 hb4
    (repeat (first | (apply WL.pure; rfl; rfl; rfl) | (apply WL.nil) | (apply EX.thenN) | (apply CW.region) | (apply WL.ldA; rfl; rfl; rfl; assumption; rfl)))
    refine WL.callF rfl rfl rfl rfl (hof w5 p hpm) ?_
    rintro _ w6 ⟨rfl, e6⟩
    have e36 := e5.trans e6
    have hE6 := hE3.trans e36
    have ho6 := ho3.extN e36
    obtain ⟨k, hk⟩ : ∃ k : Nat, of p = (k : Int) := ⟨(of p).toNat, by omega⟩
    have hkn : k < n := by omega
    have hbk := hbit p hpm k hk
    rw [hk]
    skip
    refine WL.elemB rfl rfl rfl rfl rfl (hms.up hE6) (i := k) (by omega) (y := decide (of p ∈ Fl)) (by rw [← hbk, List.getD_eq_getElem?_getD, List.getElem?_eq_getElem (by omega)]; rfl) (fun _ => rfl) (fun q => ?_)
    refine WL.setN (yv := decide (of p ∈ Fl)) rfl rfl rfl rfl ho6 (show j < sl.length by omega) (fun _ => rfl) (fun _ => rfl) (Rd.mkBool _ _ _) (fun w7 q2 ho7 hg7 => ?_)
    have hE7 : Ext w w7 := hE6.grown hg7 hE6.size (fun b hb => (ho6.lt b hb).1)
    (repeat (first | (apply WL.add; rfl; rfl; rfl; rfl; omega; omega) | (apply WL.pure; rfl; rfl; rfl) | (apply WL.nil) | (apply EX.thenN) | (apply CW.region) | (apply EX.inN)))
    refine EX.back (j + 1, sl.set j (decide (of p ∈ Fl))) (by repeat (first | exact trivial | refine ⟨rfl, ?_⟩)) ⟨hj', ho7, by simpa using hsl, fun c hc => ?_, hE7⟩ (by dsimp only; omega)
    dsimp only at hc ⊢
    rw [getD_set (by omega)]
    by_cases e : j = c
    · subst e; rw [if_pos rfl, hpg]
    · rw [if_neg e]; exact hset c (by omega)
  obtain rfl : j = ps.length := by simp at h; omega
  have hsl2 : sl = ps.map fun p => decide (of p ∈ Fl) := by
    refine List.ext_getElem (by rw [List.length_map]; exact hsl) fun i h1 h2 => ?_
    have h3 : i < ps.length := by omega
    have h4 := hset i h3
    rw [List.getD_eq_getElem?_getD, List.getElem?_eq_getElem h1, List.getD_eq_getElem?_getD, List.getElem?_eq_getElem h3] at h4
    rw [List.getElem_map]
    exact h4
  subst hsl2
  have hE03 := hE.trans hE3
  have hbo3 := hbo.ext hE03
  have hn3 := hn.extN hE03
  have hz3 := hE3.size
  obtain ⟨so, sc, rfl⟩ := ho3.val
  have hlt3 := fun g hg => ho3.lt g hg
  have hltn := fun g hg => hn.lt g hg
  have hcsl := inn.len
  obtain ⟨vo, vc, rfl⟩ := hn3.val
  (repeat (first | (apply WL.pure; rfl; rfl; rfl) | (apply EX.thenN) | (apply CW.region) | (apply WL.ld; rfl; rfl; rfl; assumption; rfl) | (apply CW.exit) | (apply EX.thenX) | (apply EX.inX)))
  refine WL.app1 (α := Raw) (F := Non) (bytes := 24) (yv := (⟨.slice so (ps.map fun p => decide (of p ∈ Fl)).length sc⟩ : Raw)) rfl rfl (fun _ => rfl) rfl rfl (fun _ => rfl) hn3 (Rd.mkRaw _ _ _ rfl) (by omega) (fun _ h => h.elim) (by decide) (by unfold maxLen; omega) (by omega) (fun nv' w4 q ho4 hg4 hnb4 => ?_)
  obtain ⟨nvo, nvc, rfl⟩ := ho4.val
  have hbo4 := hbo3.kept hg4 (fun e => hne _ e.symm rfl)
  have z4 := hg4.size
  skip
  refine WL.st rfl rfl rfl hbo4 rfl rfl (ones_of rfl) (fun w5 hb5 hg5 => ?_)
  have z5 := hg5.size
  have hnsb : ∀ g, (Value.slice nvo (vs ++ [(⟨.slice so (ps.map fun p => decide (of p ∈ Fl)).length sc⟩ : Raw)]).length nvc).ownBlock = some g → g ≠ bo := fun g hg => by
    rcases hnb4 g hg with h | h
    · exact hne g h
    · omega
  have ho5 := ho4.keptN hg5 (fun g hg e => hnsb g hg (Option.some.inj e))
  have hrow : Rd w3 (Fz w3 (fun b => b = bo ∨ Value.ownBlock (.slice vo vs.length vc) = some b)) (.slice so (ps.map fun p => decide (of p ∈ Fl)).length sc) (ps.map fun p => decide (of p ∈ Fl)) :=
    ho3.rd.mono (fun _ _ => rfl) (fun g hg => hg.elim (fun h => h.elim) (fun hg => ⟨(hlt3 g hg).2.1, fun h => by
      have h1 := (hlt3 g hg).1
      rcases h with h | h
      · omega
      · have := (hltn g h).2.1; omega⟩))
  have hin3 := (inn.to (Chg.of_ext _ hE03) (fun b h => .inl h)).push hrow
  have hC35 : Chg (fun b => b = bo ∨ Value.ownBlock (.slice vo vs.length vc) = some b) w3 w5 := ((Chg.of_grown hg4).wk (fun b h => .inr h)).grown hg5 (fun g hg => by cases hg; exact .inl rfl)
  have hin5 := hin3.to hC35 (M' := fun b => b = bo ∨ (Value.slice nvo (vs ++ [(⟨.slice so (ps.map fun p => decide (of p ∈ Fl)).length sc⟩ : Raw)]).length nvc).ownBlock = some b) (fun b h => by
    rcases h with h | h
    · exact .inl (.inl h)
    · exact (hnb4 b h).imp .inr id)
  have hC5 := (Chg.of_ext (fun b => b = bo ∨ Value.ownBlock (.slice vo vs.length vc) = some b) hE03).trans hC35
  (repeat (apply WL.nil))
  exact EX.end0 rfl ⟨_, _, hb5, ho5, hin5, hC5, fun g hg => (hnb4 g hg).imp id (fun h => by have := hE03.size; omega)⟩
def setsX (W : List Int × List (List Int) × List Nat × List (List Int)) (A : LAuto2) (ps : List Pr2) : List (List Bool) := W.2.2.2.map (fun F => ps.map fun p => decide (p.1 ∈ F)) ++ A.2.2.2.2.map fun F => ps.map fun p => decide (p.2 ∈ F)
set_option maxHeartbeats 2000000 in
theorem esets_ok (w0 : World) {B : Nat} {e : EA} {sb mb : Nat} {lv nv fv : Value} {ps : List Pr2} (h : Em w0 B e sb mb lv nv fv ps) (hB : B ≤ w0.heap.size) (hf1 : ∀ r ∈ e.W.2.2.2, okL e.W.2.1.length r) (hf2 : ∀ r ∈ e.A.2.2.2.2, okL e.A.2.1.length r)
    (hl1 : e.W.2.2.2.length ≤ 80) (hl2 : e.A.2.2.2.2.length ≤ 80) :
    Rt Try.prog 46 [.pointer (some ⟨sb, 0, none⟩)].toArray w0 fun v w' => ∃ so sc, v = .slice so (setsX e.W e.A ps).length sc ∧ Sl w' (Old w') so sc (setsX e.W e.A ps) ∧ Ext w0 w' := by
  have hok := h.ok
  have hwn := hok.wn
  have han := hok.an
  have hpl := h.len
  have hsb0 := h.blk.lt
  obtain ⟨lo, lc, rfl⟩ := h.lo.val
  obtain ⟨lo', lc', he, hlo⟩ := h.lo.oldN.sl
  have he := Value.slice.inj he
  obtain ⟨rfl, -, rfl⟩ := he
  refine Rt.enter1 Try.func46 Try.ntmps46 rfl rfl ?_
  (repeat (first | (apply CW.seq) | (apply CW.region)))
  refine WL.boxB rfl rfl rfl fun w1 hb1 e1 => ?_
  have l10 := hb1.lt
  (repeat (first | (apply WL.pure; rfl; rfl; rfl) | (apply WL.nil) | (apply EX.thenN) | (apply CW.seq) | (apply CW.region)))
  refine WL.alloc rfl rfl (fun w2 hb3 e2 => ?_)
  have hb1 := hb1.ext e2
  have hE2 := e1.trans e2
  have z1 := e1.size
  have z2 := e2.size
  have l1 := hb1.lt
  have l3 := hb3.lt
  generalize hbo : w1.heap.size = bo at *
  generalize hb1n : w0.heap.size = b1 at *
  have hb1lt : b1 < bo := by omega
  have hlo2 := hlo.mono (w' := w2) (fun b hb => hE2.block b hb) (F' := fun b => b < b1) (fun b hb => by rw [← hb1n]; exact hb)
  have hin2 := h.inn.to (w' := w2) (fun b hb => hE2.block b (by omega)) (F' := fun b => b < b1) (fun b hb => by omega)
  have hblk2 := h.blk.ext hE2
  -- what every world of the loops has
  have hkp : ∀ {w : World}, Chg (fun b => b = bo) w2 w → (∀ b, b < bo → w.heap[b]? = w2.heap[b]?) ∧ w2.heap.size ≤ w.heap.size := fun {w} hC => ⟨fun b hb => hC.block b (by omega) (by omega), hC.size⟩
  have hbk : ∀ {w : World}, Chg (fun b => b = bo) w2 w → Blk w b1 86 [.pointer (some ⟨sb, 0, none⟩)] ∧ Blk w sb 90 (eCells e mb (.slice lo ps.length lc) nv fv) ∧ Sl w (Old w) lo lc ps ∧ EIn w (Old w) e := fun {w} hC =>
    ⟨(hkp hC).1 b1 hb1lt |>.trans hb1, ((hkp hC).1 sb (by omega)).trans hblk2, hlo2.mono (fun b hb => (hkp hC).1 b (by omega)) (fun b hb => by have := (hkp hC).2; exact (show b < w.heap.size by omega)), hin2.to (fun b hb => (hkp hC).1 b (by omega)) (fun b hb => by have := (hkp hC).2; exact (show b < w.heap.size by omega))⟩
  (repeat (first | (apply WL.pure; rfl; rfl; rfl) | (apply WL.nil) | (apply EX.thenN) | (apply CW.seq) | (apply CW.region) | (apply WL.lenS; rfl; rfl; rfl) | (apply WL.makeFunc; rfl; rfl; rfl; rfl) | (apply WL.fa; rfl; rfl; rfl) | (apply WL.nck; rfl; rfl; rfl) | (apply WL.ld; rfl; rfl; rfl; assumption; rfl) | (apply CW.block)))
  refine CW.loop (S := Nat × Value × List Raw) (fun s => [(1, .pointer (some ⟨b1, 0, none⟩)), (3, .pointer (some ⟨bo, 0, none⟩)), (4, .func (.func 94) [].toArray [.pointer (some ⟨b1, 0, none⟩), .pointer (some ⟨bo, 0, none⟩)].toArray), (14, .slice e.a4 e.W.2.2.2.length e.c4), (15, .int .i64 e.W.2.2.2.length), (16, .int .i64 s.1)])
    (fun s w => s.1 ≤ e.W.2.2.2.length ∧ Blk w bo 95 [s.2.1] ∧ Own w w2.heap.size 54 Non s.2.1 s.2.2 ∧ InnR w (fun b => b = bo ∨ s.2.1.ownBlock = some b) s.2.2 ((e.W.2.2.2.take s.1).map fun F => ps.map fun p => decide (p.1 ∈ F)) ∧ Chg (fun b => b = bo) w2 w)
    (fun s => e.W.2.2.2.length - s.1) (0, .slice none 0 0, []) (by repeat (first | exact trivial | refine ⟨rfl, ?_⟩)) ⟨Nat.zero_le _, hb3, Own.nil, InnR.nil, Chg.refl _ _⟩ ?_
  rintro ⟨i, ov, vs⟩ w ⟨hi, hbo3, hn, inn, hC⟩
  dsimp only at hi hbo3 hn inn hC ⊢
  obtain ⟨kb1, kblk, klo, kin⟩ := hbk hC
  have kz := (hkp hC).2
  have klt := fun g hg => hn.lt g hg
  (repeat (first | (apply WL.pure; rfl; rfl; rfl) | (apply WL.nil) | (apply EX.thenN) | (apply CW.seq) | (apply CW.region)))
  refine CW.cond rfl (fun h => ?_) (fun h => ?_)
  · have hi' : i < e.W.2.2.2.length := by simp at h; omega
    have hfi := hf1 _ (List.getElem_mem hi')
    have hnx : (e.W.2.2.2.take (i + 1)).map (fun F => ps.map fun p => decide (p.1 ∈ F)) = (e.W.2.2.2.take i).map (fun F => ps.map fun p => decide (p.1 ∈ F)) ++ [ps.map fun p => decide (p.1 ∈ e.W.2.2.2[i])] := by
      rw [List.take_add_one, List.getElem?_eq_getElem hi', List.map_append]; rfl
    (repeat (first | (apply EX.thenN) | (apply CW.seq) | (apply CW.region) | (apply CW.block) | (apply CW.skip)))
    refine WL.elemN rfl rfl rfl rfl rfl kin.h4 hi' (fun _ => rfl) (fun u q hu => ?_)
    obtain ⟨ro, rc, rfl, hrow⟩ := hu.sl
    clear hu
    generalize e.W.2.2.2[i] = F at *
    (repeat (first | (apply WL.pure; rfl; rfl; rfl) | (apply WL.nil) | (apply EX.thenN) | (apply CW.region) | (apply WL.lenS; rfl; rfl; rfl) | (apply WL.fa; rfl; rfl; rfl) | (apply WL.nck; rfl; rfl; rfl) | (apply WL.ld; rfl; rfl; rfl; assumption; rfl)))
    refine WL.callV (fv := []) rfl rfl rfl rfl (eput_ok w (n := e.W.2.1.length) (of := Prod.fst) kb1 kblk hbo3 hn kz inn klo hrow hfi (by omega) (fun w p hp => FnV.mk (cs := []) (esets2_ok w p)) (fun p hp => (‹Em w0 B e sb mb _ nv fv ps›.ins p hp).1) hpl (by rw [List.length_map, List.length_take]; omega) (fun g hg => by have := (klt g hg).1; omega)) ?_
    rintro _ w' ⟨ov', vs', hbo4, hn4, inn4, hC4, hnew4⟩
    rw [← hnx] at inn4
    (repeat (first | (apply WL.add; rfl; rfl; rfl; rfl; omega; omega) | (apply WL.pure; rfl; rfl; rfl) | (apply WL.nil) | (apply EX.thenN) | (apply CW.region) | (apply EX.inN)))
    exact EX.back (i + 1, ov', vs') (by repeat (first | exact trivial | refine ⟨rfl, ?_⟩)) ⟨hi', hbo4, hn4, inn4, hC.then hC4 (fun b hb => hb.imp id (fun hb => (klt b hb).1))⟩ (by dsimp only; omega)
  obtain rfl : i = e.W.2.2.2.length := by simp at h; omega
  rw [List.take_length] at inn
  clear h hi
  (repeat (first | (apply WL.pure; rfl; rfl; rfl) | (apply WL.nil) | (apply EX.thenN) | (apply CW.seq) | (apply CW.region) | (apply WL.lenS; rfl; rfl; rfl) | (apply WL.fa; rfl; rfl; rfl) | (apply WL.nck; rfl; rfl; rfl) | (apply WL.ld; rfl; rfl; rfl; assumption; rfl) | (apply CW.block) | (apply CW.exit) | (apply EX.thenX) | (apply EX.inX)))
  refine CW.loop (S := Nat × Value × List Raw) (fun s => [(1, .pointer (some ⟨b1, 0, none⟩)), (3, .pointer (some ⟨bo, 0, none⟩)), (4, .func (.func 94) [].toArray [.pointer (some ⟨b1, 0, none⟩), .pointer (some ⟨bo, 0, none⟩)].toArray), (34, .slice e.k5 e.A.2.2.2.2.length e.d5), (35, .int .i64 e.A.2.2.2.2.length), (36, .int .i64 s.1)])
    (fun s w => s.1 ≤ e.A.2.2.2.2.length ∧ Blk w bo 95 [s.2.1] ∧ Own w w2.heap.size 54 Non s.2.1 s.2.2 ∧ InnR w (fun b => b = bo ∨ s.2.1.ownBlock = some b) s.2.2 ((e.W.2.2.2.map fun F => ps.map fun p => decide (p.1 ∈ F)) ++ (e.A.2.2.2.2.take s.1).map fun F => ps.map fun p => decide (p.2 ∈ F)) ∧ Chg (fun b => b = bo) w2 w)
    (fun s => e.A.2.2.2.2.length - s.1) (0, ov, vs) (by repeat (first | exact trivial | refine ⟨rfl, ?_⟩)) ⟨Nat.zero_le _, hbo3, hn, by simpa using inn, hC⟩ ?_
  clear hbo3 hn inn hC kb1 kblk klo kin kz klt
  rintro ⟨i, ov, vs⟩ w ⟨hi, hbo3, hn, inn, hC⟩
  dsimp only at hi hbo3 hn inn hC ⊢
  obtain ⟨kb1, kblk, klo, kin⟩ := hbk hC
  have kz := (hkp hC).2
  have klt := fun g hg => hn.lt g hg
  (repeat (first | (apply WL.pure; rfl; rfl; rfl) | (apply WL.nil) | (apply EX.thenN) | (apply CW.seq) | (apply CW.region)))
  refine CW.cond rfl (fun h => ?_) (fun h => ?_)
  · have hi' : i < e.A.2.2.2.2.length := by simp at h; omega
    have hfi := hf2 _ (List.getElem_mem hi')
    have hnx : (e.A.2.2.2.2.take (i + 1)).map (fun F => ps.map fun p => decide (p.2 ∈ F)) = (e.A.2.2.2.2.take i).map (fun F => ps.map fun p => decide (p.2 ∈ F)) ++ [ps.map fun p => decide (p.2 ∈ e.A.2.2.2.2[i])] := by
      rw [List.take_add_one, List.getElem?_eq_getElem hi', List.map_append]; rfl
    (repeat (first | (apply EX.thenN) | (apply CW.seq) | (apply CW.region) | (apply CW.block) | (apply CW.skip)))
    refine WL.elemN rfl rfl rfl rfl rfl kin.g5 hi' (fun _ => rfl) (fun u q hu => ?_)
    obtain ⟨ro, rc, rfl, hrow⟩ := hu.sl
    clear hu
    generalize e.A.2.2.2.2[i] = F at *
    (repeat (first | (apply WL.pure; rfl; rfl; rfl) | (apply WL.nil) | (apply EX.thenN) | (apply CW.region) | (apply WL.lenS; rfl; rfl; rfl) | (apply WL.fa; rfl; rfl; rfl) | (apply WL.nck; rfl; rfl; rfl) | (apply WL.ld; rfl; rfl; rfl; assumption; rfl)))
    refine WL.callV (fv := []) rfl rfl rfl rfl (eput_ok w (n := e.A.2.1.length) (of := Prod.snd) kb1 kblk hbo3 hn kz inn klo hrow hfi (by omega) (fun w p hp => FnV.mk (cs := []) (esets3_ok w p)) (fun p hp => (‹Em w0 B e sb mb _ nv fv ps›.ins p hp).2) hpl (by rw [List.length_append, List.length_map, List.length_map, List.length_take]; omega) (fun g hg => by have := (klt g hg).1; omega)) ?_
    rintro _ w' ⟨ov', vs', hbo4, hn4, inn4, hC4, hnew4⟩
    rw [List.append_assoc, ← hnx] at inn4
    (repeat (first | (apply WL.add; rfl; rfl; rfl; rfl; omega; omega) | (apply WL.pure; rfl; rfl; rfl) | (apply WL.nil) | (apply EX.thenN) | (apply CW.region) | (apply EX.inN)))
    exact EX.back (i + 1, ov', vs') (by repeat (first | exact trivial | refine ⟨rfl, ?_⟩)) ⟨hi', hbo4, hn4, inn4, hC.then hC4 (fun b hb => hb.imp id (fun hb => (klt b hb).1))⟩ (by dsimp only; omega)
  obtain rfl : i = e.A.2.2.2.2.length := by simp at h; omega
  rw [List.take_length] at inn
  obtain ⟨so, sc, rfl, hs⟩ := inn.old hn
  (repeat (first | (apply WL.pure; rfl; rfl; rfl) | (apply WL.nil) | (apply EX.thenN) | (apply CW.seq) | (apply CW.region) | (apply WL.ld; rfl; rfl; rfl; assumption; rfl) | (apply CW.exit) | (apply EX.thenX) | (apply EX.inX) | (apply CW.ret)))
  exact EX.ret1 rfl rfl ⟨so, sc, rfl, hs, Chg.ext hE2 hC (fun b hb => by omega)⟩
end Go.Proofs.Ytllpfgcngokhnaa
/-
  Maps made by the call: keys with any elements, as a list in the order in which they came. Over any program.
-/
set_option linter.unusedVariables false
set_option linter.unusedSimpArgs false
namespace Go.Proofs.Ytllpfgcngokhnaa
open Go.RowKit

/-- keys of which the model's order is whole, whatever their kind -/
class IsKx (P : Program) (k : TypeId) : Prop where
  ok : Go.Maps.Keyed P k
theorem IsKx.int {P : Program} {k : TypeId} (h : P.underlying k = some (.int .i64)) : IsKx P k := ⟨Go.Maps.int_keyed h⟩
theorem KeyV.int {P : Program} {k : TypeId} (h : P.underlying k = some (.int .i64)) {x : Int} (hx : -9223372036854775808 ≤ x ∧ x ≤ 9223372036854775807) : KeyV P k (.int .i64 x) := by
  refine ⟨.int .i64 x, ?_⟩
  unfold keyOf
  rw [h]
  dsimp only
  unfold mapKey
  rw [h]
  dsimp only
  rw [if_pos ⟨rfl, by simp [Lit.wf, IntKind.min, IntKind.max, IntKind.signed, IntKind.bits]; omega⟩]
/-- block b is a map that holds these keys with these elements -/
def MapI (P : Program) (k : TypeId) (w : World) (b : Nat) (kv : List (Value × Value)) : Prop :=
  ∃ (es : Array MapEntry) (clock : Nat), w.heap[b]? = some (.map es clock) ∧ es.toList.map (fun e => (e.key, e.val)) = kv ∧ (∀ x ∈ kv, KeyV P k x.1) ∧ (kv.map Prod.fst).Nodup
section
variable {P : Program} {k : TypeId} {w w' : World} {b : Nat} {kv : List (Value × Value)}
theorem MapI.lt (h : MapI P k w b kv) : b < w.heap.size := by
  obtain ⟨es, clock, hb, _⟩ := h
  exact (Array.getElem?_eq_some_iff.1 hb).1
theorem MapI.at (h : MapI P k w b kv) (hb : w'.heap[b]? = w.heap[b]?) : MapI P k w' b kv := by
  obtain ⟨es, clock, h1, h2⟩ := h
  exact ⟨es, clock, hb.trans h1, h2⟩
theorem MapI.ext (h : MapI P k w b kv) (hE : Ext w w') : MapI P k w' b kv := h.at (hE.block b h.lt)
theorem MapI.kept {row : Option Nat} (h : MapI P k w b kv) (hg : w.grownBy w' row) (hne : some b ≠ row) : MapI P k w' b kv := h.at (hg.block b h.lt hne)
theorem MapI.made (w : World) : MapI P k (w.alloc (.map #[] 0)) w.heap.size [] :=
  ⟨#[], 0, heap_alloc_new w _, rfl, fun x h => by simp at h, List.Pairwise.nil⟩
theorem run_mget {t e : TypeId} {x : Value} [ht : IsM P t k e] [hk : IsKx P k] [hz : IsZ0 P e] (h : MapI P k w b kv) (hx : KeyV P k x) :
    (x ∉ kv.map Prod.fst ∧ (Instr.lookup t (.map (some b)) x true).run P w = .ok (.tuple #[.int .i64 0, .bool false]) w) ∨
    ∃ (j : Nat) (hj : j < kv.length), kv[j].1 = x ∧ (Instr.lookup t (.map (some b)) x true).run P w = .ok (.tuple #[kv[j].2, .bool true]) w ∧ (Instr.lookup t (.map (some b)) x false).run P w = .ok kv[j].2 w := by
  obtain ⟨es, clock, hb, hes, hks, hnd⟩ := h
  obtain ⟨l, hx⟩ := hx
  obtain ⟨i, h1, h2⟩ := Option.map_eq_some_iff.1 hz.ok
  have hzr : (zeroValue e).run P w = .ok (.int .i64 0) w := by simp [zeroValue, typeInfo, h1, h2]
  have hkeys : ∀ e ∈ es.toList, ∃ l, keyOf P k e.key = some l := fun e he => hks (e.key, e.val) (hes ▸ List.mem_map.2 ⟨e, he, rfl⟩)
  rcases hk.ok.find w hx es.toList hkeys with ⟨g1, g2⟩ | ⟨j, e0, g1, g2, g3⟩
  · refine .inl ⟨fun hm => ?_, by simp [Instr.lookup, run_underlying ht.ok, MapKept.run_getObj_map hb, hk.ok.check w _ hx, g1, hzr, Result.andThen]⟩
    rw [← hes, List.map_map] at hm
    obtain ⟨e, he, hke⟩ := List.mem_map.1 hm
    exact g2 e he hke
  · have hj : j < kv.length := by rw [← hes, List.length_map]; exact (List.getElem?_eq_some_iff.1 g2).1
    have hj0 : j < es.toList.length := (List.getElem?_eq_some_iff.1 g2).1
    have hje : es.toList[j] = e0 := (List.getElem?_eq_some_iff.1 g2).2
    subst hes
    refine .inr ⟨j, hj, ?_, ?_, ?_⟩
    · rw [List.getElem_map, ← g3, hje]
    · rw [List.getElem_map, hje]
      simp [Instr.lookup, run_underlying ht.ok, MapKept.run_getObj_map hb, hk.ok.check w _ hx, g1, Result.andThen]
    · rw [List.getElem_map, hje]
      simp [Instr.lookup, run_underlying ht.ok, MapKept.run_getObj_map hb, hk.ok.check w _ hx, g1, Result.andThen]
theorem run_mput {t e : TypeId} {x y : Value} [ht : IsM P t k e] [hk : IsKx P k] (h : MapI P k w b kv) (hx : KeyV P k x) (hn : x ∉ kv.map Prod.fst) :
    ∃ w', (Instr.mapUpdate t (.map (some b)) x y).run P w = .ok () w' ∧ MapI P k w' b (kv ++ [(x, y)]) ∧ w.grownBy w' (some b) := by
  obtain ⟨es, clock, hb, hes, hks, hnd⟩ := h
  obtain ⟨l, hx'⟩ := hx
  have hkeys : ∀ e ∈ es.toList, ∃ l, keyOf P k e.key = some l := fun e he => hks (e.key, e.val) (hes ▸ List.mem_map.2 ⟨e, he, rfl⟩)
  have hlt := (Array.getElem?_eq_some_iff.1 hb).1
  rcases hk.ok.find w hx' es.toList hkeys with ⟨g1, g2⟩ | ⟨j, e0, g1, g2, g3⟩
  · refine ⟨_, by simp [Instr.mapUpdate, run_underlying ht.ok, MapKept.run_getObj_map hb, hk.ok.check w false hx', g1, MapKept.run_setObj_map _ hb, Result.andThen]; rfl, ?_, ?_⟩
    · refine ⟨es.push ⟨x, y, clock⟩, clock + 1, by simp [hlt], by simp [hes], fun z hz => ?_, ?_⟩
      · rcases List.mem_append.1 hz with hz | hz
        · exact hks z hz
        · rw [List.mem_singleton] at hz; subst hz; exact ⟨l, hx'⟩
      · rw [List.map_append, List.nodup_append]
        refine ⟨hnd, by simp, fun a ha c hc e => ?_⟩
        simp at hc
        subst hc; subst e; exact hn ha
    · exact ⟨rfl, rfl, rfl, by simp, fun i _ hi => by
        simp only [Array.getElem?_setIfInBounds]
        rw [if_neg (fun e => hi (by rw [e]))]⟩
  · refine absurd ?_ hn
    rw [← hes, List.map_map]
    exact List.mem_map.2 ⟨e0, List.mem_of_getElem? g2, g3⟩
end
section
variable {P : Program} {Q : Exit → Act → World → Prop} {n : Nat} {σ : Sg} {w : World} {L rest : List Oper} {d : Nat} {ty : TypeId} {pos : String} {af : Array Edge} {g : Option (Nat × Bool)} {t k e : TypeId} {b : Nat} {kv : List (Value × Value)} {x y z : Operand} {v u : Value}
/-- v, ok := m[x] -/
theorem WL.mget (hg : gd L σ ⟨some d, .lookup t x y true, ty, pos, af, g⟩ = some true) (hd : Nat.ble (d + 1) n = true) (hx : ev σ x = some (.map (some b))) (hy : ev σ y = some v) [ht : IsM P t k e] [hk : IsKx P k] [hz : IsZ0 P e]
    (h : MapI P k w b kv) (hv : KeyV P k v)
    (h1 : v ∉ kv.map Prod.fst → WL P L Q rest n ((d, .tuple ⟨[.int .i64 0, .bool false]⟩) :: σ) w)
    (h2 : ∀ (j : Nat) (hj : j < kv.length), kv[j].1 = v → WL P L Q rest n ((d, .tuple ⟨[kv[j].2, .bool true]⟩) :: σ) w) :
    WL P L Q (⟨some d, .lookup t x y true, ty, pos, af, g⟩ :: rest) n σ w := by
  rcases run_mget (t := t) h hv with ⟨g1, g2⟩ | ⟨j, hj, g1, g2, _⟩
  · refine WL.run hg hd (fun a ha => ?_) (h1 g1)
    simp [execOp, ha.ev hx, ha.ev hy, g2]
  · refine WL.run hg hd (fun a ha => ?_) (h2 j hj g1)
    simp [execOp, ha.ev hx, ha.ev hy, g2]
/-- v := m[x], at a key -/
theorem WL.mgetY {j : Nat} (hj : j < kv.length) (hjv : kv[j].1 = v) (hg : gd L σ ⟨some d, .lookup t x y false, ty, pos, af, g⟩ = some true) (hd : Nat.ble (d + 1) n = true) (hx : ev σ x = some (.map (some b))) (hy : ev σ y = some v) [ht : IsM P t k e] [hk : IsKx P k] [hz : IsZ0 P e]
    (h : MapI P k w b kv) (hv : KeyV P k v)
    (hr : WL P L Q rest n ((d, kv[j].2) :: σ) w) : WL P L Q (⟨some d, .lookup t x y false, ty, pos, af, g⟩ :: rest) n σ w := by
  have hnd : (kv.map Prod.fst).Nodup := by obtain ⟨_, _, _, _, _, h⟩ := h; exact h
  rcases run_mget (t := t) h hv with ⟨g1, g2⟩ | ⟨i, hi, g1, _, g3⟩
  · exact absurd (List.mem_map.2 ⟨kv[j], List.getElem_mem hj, hjv⟩) g1
  · have hij : i = j := by
      have h1 : (kv.map Prod.fst)[i]'(by simpa using hi) = (kv.map Prod.fst)[j]'(by simpa using hj) := by simp [g1, hjv]
      exact (List.getElem_inj hnd).1 h1
    subst hij
    refine WL.run hg hd (fun a ha => ?_) hr
    simp [execOp, ha.ev hx, ha.ev hy, g3]
/-- m[x] = y, at a new key -/
theorem WL.mput (hg : gd L σ ⟨none, .mapUpdate t x y z, ty, pos, af, g⟩ = some true) (hx : ev σ x = some (.map (some b))) (hy : ev σ y = some v) (hzv : ev σ z = some u) [ht : IsM P t k e] [hk : IsKx P k]
    (h : MapI P k w b kv) (hv : KeyV P k v) (hn : v ∉ kv.map Prod.fst)
    (hr : ∀ w', MapI P k w' b (kv ++ [(v, u)]) → w.grownBy w' (some b) → WL P L Q rest n σ w') :
    WL P L Q (⟨none, .mapUpdate t x y z, ty, pos, af, g⟩ :: rest) n σ w := by
  obtain ⟨w', g1, g2, g3⟩ := run_mput (t := t) (y := u) h hv hn
  refine WL.runU hg (fun a ha => ?_) (hr w' g2 g3)
  simp [execOp, ha.ev hx, ha.ev hy, ha.ev hzv, g1]
theorem WL.mkMapI (hg : gd L σ ⟨some d, .makeMap t none, ty, pos, af, g⟩ = some true) (hd : Nat.ble (d + 1) n = true)
    (h : MapI P k (w.alloc (.map #[] 0)) w.heap.size [] → WL P L Q rest n ((d, .map (some w.heap.size)) :: σ) (w.alloc (.map #[] 0))) :
    WL P L Q (⟨some d, .makeMap t none, ty, pos, af, g⟩ :: rest) n σ w := by
  refine WL.run hg hd (fun a ha => ?_) (h (MapI.made w))
  simp [execOp, Instr.makeMap]
end
end Go.Proofs.Ytllpfgcngokhnaa
/-
  slices.Reverse at []int: the kit's proof, over our own rows.
-/
set_option linter.unusedVariables false
set_option linter.unusedSimpArgs false
namespace Go.Proofs.Ytllpfgcngokhnaa
open Go.RowKit Go.Shelf

def revRen : Ren := ⟨fun _ => 99, fun x => if Nat.beq x 3 = true then 3 else if Nat.beq x 4 = true then 4 else if Nat.beq x 28 = true then 22 else 0, fun x => x⟩
set_option maxRecDepth 100000 in
theorem revLays : Lays.n112 Try.prog revRen where
  mixed := by kernel_rfl
  f112 := (Try.func99).trans (by kernel_rfl)
  t0 := by kernel_rfl
  a0 := fun w => rfl
  z0 := fun w => rfl
  v0 := fun w => rfl
  t3 := Try.underlying3
  a3 := Try.isAgg3
  z3 := Try.sizeOf3
  v3 := Try.zeroValue3
  t4 := Try.underlying4
  a4 := Try.isAgg4
  z4 := Try.sizeOf4
  v4 := Try.zeroValue4
  t28 := Try.underlying22
  a28 := Try.isAgg22
  z28 := Try.sizeOf22
  v28 := Try.zeroValue22
theorem elems_get {w : World} {F : Nat → Prop} {cells : List Value} {xs : List Int} (h : Elems w F cells xs) : cells = xs.map fun x => Value.int .i64 x := by
  refine List.ext_getElem (by rw [List.length_map, h.1]; show _ * 1 = _; omega) fun i h1 h2 => ?_
  rw [List.length_map] at h2
  have h3 := h.2 i h2
  have hz : sz Int = 1 := rfl
  rw [hz, Nat.mul_one] at h3
  have h4 := rd_int h3
  have h5 := congrArg (fun l : List Value => l[0]?) h4
  simp only [List.getElem?_take_of_lt (show 0 < 1 by omega), List.getElem?_drop, Nat.add_zero, List.getElem?_eq_getElem h1] at h5
  simpa using h5
theorem elems_ints (w : World) (F : Nat → Prop) : ∀ xs : List Int, Elems w F (xs.map fun x => Value.int .i64 x) xs
  | [] => Elems.nil
  | x :: r => by
    have := (Elems.one (rd_mkInt w F x)).append (elems_ints w F r)
    simpa using this
theorem reverse_int (w : World) {B : Nat} {v : Value} {xs : List Int} (ho : Own w B 3 Non v xs) :
    Rt Try.prog 99 [v].toArray w fun u w' => u = .tuple #[] ∧ Own w' B 3 Non v xs.reverse ∧ w.grownBy w' v.ownBlock := by
  have hgr : w.grownBy w v.ownBlock := ⟨rfl, rfl, rfl, Nat.le_refl _, fun _ _ _ => rfl⟩
  rcases ho with ⟨rfl, rfl⟩ | ⟨g, off, cap, cur, rfl, ho⟩
  · refine Calls.mono (Any.slices_Reverse_int_empty revLays none 0 w) ?_
    rintro e w' ⟨rfl, rfl⟩
    exact ⟨_, rfl, rfl, Own.nil, hgr⟩
  · have hz : sz Int = 1 := rfl
    have hfit := ho.fit
    have hle := ho.le
    have hmx := ho.mx
    have hel := elems_get ho.el
    rw [hz, Nat.mul_one] at hfit hel
    have hcell : ∀ j (hj : j < xs.length), cur[off + j]? = some (Value.int .i64 xs[j]) := fun j hj => by
      have h1 : ((cur.toList.drop off).take xs.length)[j]? = (xs.map fun x => Value.int .i64 x)[j]? := by rw [hel]
      rw [List.getElem?_take_of_lt hj, List.getElem?_drop, List.getElem?_map, List.getElem?_eq_getElem hj] at h1
      simpa using h1
    have hH : Sort.Holds (Value.int .i64) w g off xs.toArray := fun j hj => by
      have hj' : j < xs.length := by simpa using hj
      constructor
      · have : xs.toArray[j]! = xs[j] := by simp [hj']
        rw [this]
        simp [World.cell?, ho.blk, hcell j hj']
      · simp [World.frozen?, ho.blk]
    refine Calls.mono (Any.slices_Reverse_int revLays g off cap xs w hH (by unfold maxLen at hmx; omega)) ?_
    rintro e w' ⟨rfl, n, rfl⟩
    have hheap : (Sort.putRow (Value.int .i64) (Sort.ahead w n) g off xs.reverse.toArray).heap[g]? = some (.cells (Sort.putCells (Value.int .i64) off xs.reverse.toArray cur) 3 (0, 0)) := by
      show (w.heap.modify g _)[g]? = _
      rw [Array.getElem?_modify, if_pos rfl, ho.blk]; rfl
    have hother : ∀ k, k ≠ g → (Sort.putRow (Value.int .i64) (Sort.ahead w n) g off xs.reverse.toArray).heap[k]? = w.heap[k]? := fun k hk => by
      show (w.heap.modify g _)[k]? = _
      rw [Array.getElem?_modify, if_neg (fun e => hk e.symm)]
    have hsize : (Sort.putRow (Value.int .i64) (Sort.ahead w n) g off xs.reverse.toArray).heap.size = w.heap.size := by
      show (w.heap.modify g _).size = _
      rw [Array.size_modify]
    have hos : (Sort.putRow (Value.int .i64) (Sort.ahead w n) g off xs.reverse.toArray).os = w.os := rfl
    have htp : (Sort.putRow (Value.int .i64) (Sort.ahead w n) g off xs.reverse.toArray).tape = w.tape := rfl
    have hou : (Sort.putRow (Value.int .i64) (Sort.ahead w n) g off xs.reverse.toArray).output = w.output := rfl
    generalize Sort.putRow (Value.int .i64) (Sort.ahead w n) g off xs.reverse.toArray = w' at *
    have hps : (Sort.putCells (Value.int .i64) off xs.reverse.toArray cur).size = cur.size := by simp [Sort.putCells]
    refine ⟨_, rfl, rfl, .inr ⟨g, off, cap, _, by rw [List.length_reverse], ⟨hheap, ho.ge, ho.nF, by simpa using hle, hmx, by rw [hps, hz]; omega, ?_⟩⟩, ⟨hos, htp, hou, by omega, fun k _ hk => hother k (fun e => hk (by rw [e]; rfl))⟩⟩
    have e1 : (((Sort.putCells (Value.int .i64) off xs.reverse.toArray cur).toList.drop off).take (xs.reverse.length * sz Int)) = xs.reverse.map fun x => Value.int .i64 x := by
      rw [hz, Nat.mul_one]
      refine List.ext_getElem? fun j => ?_
      by_cases hj : j < xs.length
      · rw [List.getElem?_take_of_lt (by simpa using hj), List.getElem?_drop, Array.getElem?_toList, Sort.putCells, Array.getElem?_mapIdx, hcell j hj, List.getElem?_map, List.getElem?_eq_getElem (by simpa using hj)]
        simp [hj, show off + j < off + xs.length by omega]
      · rw [List.getElem?_eq_none (by simp; try omega), List.getElem?_eq_none (by simp; try omega)]
    rw [e1]
    exact elems_ints _ _ _
end Go.Proofs.Ytllpfgcngokhnaa
