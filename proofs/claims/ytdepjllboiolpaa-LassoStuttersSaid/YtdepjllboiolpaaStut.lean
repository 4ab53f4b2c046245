/-
  LassoStutters: its drawn region of two clones and a variable (the rest is under way).
-/
import Derived.Test.YtdepjllboiolpaaPlain
import Derived.Test.YtdepjllboiolpaaLassoTurns
import Derived.Test.YtdepjllboiolpaaChain
set_option linter.unusedVariables false
set_option linter.unusedSimpArgs false
namespace Go.Proofs.Ytdepjllboiolpaa
open Go.RowKit

/-- two lists of letters that the call owns -/
structure TwoU (w : World) (B : Nat) (v u : Value) (xs ys : List Nat) : Prop where
  o1 : Own w B 61 Non v xs
  o2 : Own w B 61 Non u ys
  ne : ∀ g, v.ownBlock = some g → u.ownBlock ≠ some g
theorem TwoU.ext {w w' : World} {B : Nat} {v u : Value} {xs ys : List Nat} (h : TwoU w B v u xs ys) (hE : Ext w w') : TwoU w' B v u xs ys := ⟨h.o1.extN hE, h.o2.extN hE, h.ne⟩
theorem ls_chain {Q : Exit → Act → World → Prop} {n : Nat} {L : List Oper} {w5 : World} {p3 p4 v2 v7 : Value} {so lo : Option Addr} {sc lc : Nat} {s l : List Nat}
    {i2 i5 i6 i7 i8 : TypeId} {q2 q5 q6 q7 q8 : String} {f2 f5 f6 f7 f8 : Array Edge} {ts ts' : Array TypeId}
    (o2 : nthO L 2 = some ⟨some 30, .call ⟨.value (.func 29), [Operand.tmp 29].toArray, ts⟩, i2, q2, f2, none⟩)
    (o5 : nthO L 5 = some ⟨some 33, .call ⟨.value (.func 29), [Operand.tmp 32].toArray, ts'⟩, i5, q5, f5, none⟩)
    (o6 : nthO L 6 = some ⟨some 34, .build 27 [(0, Operand.tmp 30), (1, Operand.tmp 33)].toArray, i6, q6, f6, none⟩)
    (o7 : nthO L 7 = some ⟨some 9, .alloc 27, i7, q7, f7, none⟩)
    (o8 : nthO L 8 = some ⟨none, .store 27 (.tmp 9) (.tmp 34), i8, q8, f8, none⟩)
    (n30 : Nat.ble 31 n = true) (n33 : Nat.ble 34 n = true) (n34 : Nat.ble 35 n = true) (n9 : Nat.ble 10 n = true)
    (hs : Sl w5 (Old w5) so sc s) (hl : Sl w5 (Old w5) lo lc l) (h6 : s.length + l.length ≤ 1000)
    (hQ : ∀ w b x y, Ext w5 w → w5.heap.size ≤ b → TwoU w w5.heap.size x y s l → x.ownBlock ≠ some b → y.ownBlock ≠ some b → Blk w b 27 [x, y] → EX Q .normal n [(9, .pointer (some ⟨b, 0, none⟩)), (3, p3), (4, p4), (2, v2), (7, v7)] w) :
    EX (ChainQ Try.prog L (fun x => Ext w5 x) Q 7 [2, 5, 6] [(8, false)]) .normal n [(3, p3), (4, p4), (2, v2), (7, v7), (29, .slice so s.length sc), (32, .slice lo l.length lc)] (drew w5) := by
  have Z : ∀ w b, Blk w b 27 [.slice none 0 0, .slice none 0 0] → b < w.heap.size := fun w b h => h.lt
  have T3 : ∀ w b u1 m1 u2 m2, Ext w5 w → TwoU w w5.heap.size (.slice u1 s.length m1) (.slice u2 l.length m2) s l → Blk w b 27 [.slice none 0 0, .slice none 0 0] → w5.heap.size ≤ b → Value.ownBlock (.slice u1 s.length m1) ≠ some b → Value.ownBlock (.slice u2 l.length m2) ≠ some b →
      HL Try.prog L (fun x => Ext w5 x) Q [(8, false)] n [(9, .pointer (some ⟨b, 0, none⟩)), (34, .agg [.slice u1 s.length m1, .slice u2 l.length m2].toArray), (3, p3), (4, p4), (2, v2), (7, v7)] w := by
    intro w b u1 m1 u2 m2 hE hT hb hge hv hu
    refine HL.mut o8 (WL.st rfl rfl rfl hb rfl rfl (ones_of rfl) (fun w' hb' hg => ?_))
    have hE' : Ext w5 w' := hE.grown hg hE.size (fun g hg => by cases hg; exact hge)
    have h1 := hT.o1.keptN hg (fun g h e => by cases e; exact hv h)
    have h2 := hT.o2.keptN hg (fun g h e => by cases e; exact hu h)
    exact WL.nil (EX.mut hE' (HL.nil (EX.sub (by repeat (first | exact trivial | refine ⟨rfl, ?_⟩)) (hQ w' b _ _ hE' hge ⟨h1, h2, hT.ne⟩ hv hu hb'))))
  have T2 : ∀ w b v u, Ext w5 w → TwoU w w5.heap.size v u s l → Blk w b 27 [.slice none 0 0, .slice none 0 0] → w5.heap.size ≤ b → v.ownBlock ≠ some b → u.ownBlock ≠ some b →
      HL Try.prog L (fun x => Ext w5 x) Q [(6, false), (8, false)] n [(9, .pointer (some ⟨b, 0, none⟩)), (30, v), (33, u), (3, p3), (4, p4), (2, v2), (7, v7)] w := by
    intro w b v u hE hT hb hge hv hu
    obtain ⟨u1, m1, rfl⟩ := hT.o1.val
    obtain ⟨u2, m2, rfl⟩ := hT.o2.val
    exact HL.mut o6 (WL.build rfl n34 rfl rfl (WL.nil (EX.mut hE (HL.sub (by repeat (first | exact trivial | refine ⟨rfl, ?_⟩)) (T3 w b u1 m1 u2 m2 hE hT hb hge hv hu)))))
  have T1 : ∀ w b v, Ext w5 w → Own w w5.heap.size 61 Non v s → Blk w b 27 [.slice none 0 0, .slice none 0 0] → w5.heap.size ≤ b → v.ownBlock ≠ some b →
      HL Try.prog L (fun x => Ext w5 x) Q [(5, false), (6, false), (8, false)] n [(9, .pointer (some ⟨b, 0, none⟩)), (30, v), (32, .slice lo l.length lc), (3, p3), (4, p4), (2, v2), (7, v7)] w := by
    intro w b v hE hT hb hge hv
    refine HL.mut o5 (WL.call rfl n33 rfl (uclone_ok w (hl.up hE) (fun _ h => h) (by omega)) ?_)
    rintro u w' ⟨ho, e⟩
    have hE' := hE.trans e
    exact WL.nil (EX.mut hE' (HL.sub (by repeat (first | exact trivial | refine ⟨rfl, ?_⟩)) (T2 w' b v u hE' ⟨hT.extN e, ho.low hE.size, fun g h1 h2 => by have := (hT.lt g h1).2.1; have := (ho.lt g h2).1; omega⟩ (hb.ext e) hge hv (fun h => by have := (ho.lt b h).1; have := hb.lt; omega))))
  have T0 : ∀ w b, Ext w5 w → Blk w b 27 [.slice none 0 0, .slice none 0 0] → w5.heap.size ≤ b →
      HL Try.prog L (fun x => Ext w5 x) Q [(2, false), (5, false), (6, false), (8, false)] n [(9, .pointer (some ⟨b, 0, none⟩)), (29, .slice so s.length sc), (32, .slice lo l.length lc), (3, p3), (4, p4), (2, v2), (7, v7)] w := by
    intro w b hE hb hge
    refine HL.mut o2 (WL.call rfl n30 rfl (uclone_ok w (hs.up hE) (fun _ h => h) (by omega)) ?_)
    rintro u w' ⟨ho, e⟩
    have hE' := hE.trans e
    exact WL.nil (EX.mut hE' (HL.sub (by repeat (first | exact trivial | refine ⟨rfl, ?_⟩)) (T1 w' b u hE' (ho.low hE.size) (hb.ext e) hge (fun h => by have := (ho.lt b h).1; have := hb.lt; omega))))
  have L2 : ∀ w v u, Ext w5 w → TwoU w w5.heap.size v u s l →
      EX (ChainQ Try.prog L (fun x => Ext w5 x) Q 7 [6] [(8, false)]) .normal n [(30, v), (33, u), (3, p3), (4, p4), (2, v2), (7, v7)] w := by
    intro w v u hE hT
    obtain ⟨u1, m1, rfl⟩ := hT.o1.val
    obtain ⟨u2, m2, rfl⟩ := hT.o2.val
    refine EX.chain hE o6 (WL.build rfl n34 rfl rfl (WL.nil (EX.sub (τ := [(34, .agg [.slice u1 s.length m1, .slice u2 l.length m2].toArray), (3, p3), (4, p4), (2, v2), (7, v7)]) (by repeat (first | exact trivial | refine ⟨rfl, ?_⟩)) (EX.chain0 hE (HL.mut o7 (WL.alloc rfl n9 (fun w' hb e => ?_))))))) (HL.mut o7 (WL.alloc rfl n9 (fun w' hb e => ?_)))
    · have hE' := hE.trans e
      exact WL.nil (EX.mut hE' (HL.sub (by repeat (first | exact trivial | refine ⟨rfl, ?_⟩)) (T3 w' _ u1 m1 u2 m2 hE' (hT.ext e) hb hE.size (fun h => by have := (hT.o1.lt _ h).2.1; omega) (fun h => by have := (hT.o2.lt _ h).2.1; omega))))
    · have hE' := hE.trans e
      exact WL.nil (EX.mut hE' (HL.sub (by repeat (first | exact trivial | refine ⟨rfl, ?_⟩)) (T2 w' _ _ _ hE' (hT.ext e) hb hE.size (fun h => by have := (hT.o1.lt _ h).2.1; omega) (fun h => by have := (hT.o2.lt _ h).2.1; omega))))
  have L1 : ∀ w v, Ext w5 w → Own w w5.heap.size 61 Non v s →
      EX (ChainQ Try.prog L (fun x => Ext w5 x) Q 7 [5, 6] [(8, false)]) .normal n [(30, v), (32, .slice lo l.length lc), (3, p3), (4, p4), (2, v2), (7, v7)] w := by
    intro w v hE hT
    refine EX.chain hE o5 (WL.call rfl n33 rfl (uclone_ok w (hl.up hE) (fun _ h => h) (by omega)) ?_) (HL.mut o7 (WL.alloc rfl n9 (fun w' hb e => ?_)))
    · rintro u w' ⟨ho, e⟩
      have hE' := hE.trans e
      exact WL.nil (EX.sub (by repeat (first | exact trivial | refine ⟨rfl, ?_⟩)) (L2 w' v u hE' ⟨hT.extN e, ho.low hE.size, fun g h1 h2 => by have := (hT.lt g h1).2.1; have := (ho.lt g h2).1; omega⟩))
    · have hE' := hE.trans e
      exact WL.nil (EX.mut hE' (HL.sub (by repeat (first | exact trivial | refine ⟨rfl, ?_⟩)) (T1 w' _ v hE' (hT.extN e) hb hE.size (fun h => by have := (hT.lt _ h).2.1; omega))))
  have hE0 : Ext w5 (drew w5) := Ext.drew w5
  refine EX.chain hE0 o2 (WL.call rfl n30 rfl (uclone_ok _ (hs.up hE0) (fun _ h => h) (by omega)) ?_) (HL.mut o7 (WL.alloc rfl n9 (fun w' hb e => ?_)))
  · rintro u w' ⟨ho, e⟩
    have hE' := hE0.trans e
    exact WL.nil (EX.sub (by repeat (first | exact trivial | refine ⟨rfl, ?_⟩)) (L1 w' u hE' (ho.low hE0.size)))
  · have hE' := hE0.trans e
    exact WL.nil (EX.mut hE' (HL.sub (by repeat (first | exact trivial | refine ⟨rfl, ?_⟩)) (T0 w' _ hE' hb hE0.size)))
end Go.Proofs.Ytdepjllboiolpaa
