/-
  Tarjan's search, walked: begin, close.
-/
import Derived.Test.YthefpigolikmeaaFar
import Derived.Test.YthefpigolikmeaaTail
import Derived.Test.YthefpigolikmeaaChg
import Derived.Test.YthefpigolikmeaaTarPl
set_option linter.unusedVariables false
set_option linter.unusedSimpArgs false
namespace Go.Proofs.Ythefpigolikmeaa
open Go.RowKit

instance iTar1 : IsT Try.prog 232 (Int × Int) := IsT.of (by kernel_rfl) Try.underlying232 rfl
instance iTar2 : IsC Try.prog 232 2 true := IsC.of (by kernel_rfl) Try.underlying232 rfl
instance iTar3 : IsFd Try.prog 232 0 0 := IsFd.of (by kernel_rfl)
instance iTar4 : IsFd Try.prog 232 1 1 := IsFd.of (by kernel_rfl)
instance iTar5 : IsZC Try.prog 232 [.int .i64 0, .int .i64 0] := IsZC.of (z := .agg #[.int .i64 0, .int .i64 0]) (by kernel_rfl) rfl
instance iTar6 : IsBd Try.prog 232 [(0, 1), (1, 1)] := IsBd.of (by kernel_rfl)
instance iTar7 : IsZ Try.prog 232 ((0, 0) : Int × Int) 16 := IsZ.of (z := .agg #[.int .i64 0, .int .i64 0]) (by kernel_rfl) (fun _ _ => rd_mk (rd_mkInt _ _ _) (rd_mkInt _ _ _))
instance iTar8 : IsS Try.prog 233 232 := ⟨Try.underlying233⟩
instance iTar9 : IsT Try.prog 233 (List (Int × Int)) := IsT.of (by kernel_rfl) Try.underlying233 rfl
instance iTar10 : Flat (Int × Int) := ⟨fun h => h⟩

section
variable {P : Program} {Q : Exit → Act → World → Prop} {n : Nat} {σ : Sg} {w wc : World} {L rest : List Oper} {S : World → Prop} {ord : List (Nat × Bool)} {i d : Nat} {op : Op} {ty : TypeId} {pos : String} {af : Array Edge} {g : Option (Nat × Bool)} {t e : TypeId} {x y : Operand} {b o : Nat} {cells : List Value}
/-- min(x, y) -/
theorem WL.min2 {a c : Int} {ts : Array TypeId} (hg : gd L σ ⟨some d, .call ⟨.builtin .min, #[x, y], ts⟩, ty, pos, af, g⟩ = some true) (hd : Nat.ble (d + 1) n = true) (hx : ev σ x = some (.int .i64 a)) (hy : ev σ y = some (.int .i64 c))
    (h : WL P L Q rest n ((d, .int .i64 (min a c)) :: σ) w) : WL P L Q (⟨some d, .call ⟨.builtin .min, #[x, y], ts⟩, ty, pos, af, g⟩ :: rest) n σ w := by
  refine WL.run hg hd (fun u hu => ?_) h
  have e : (if c < a then c else a) = min a c := by omega
  simp [execOp, resolve, invoke, builtin, hu.ev hx, hu.ev hy, run_min_int2, e]
end

/-- the search in memory -/
structure TM (w : World) (B b : Nat) (gV nV lV pV sV : Value) (nb lb pb : Nat) (s : Ts) (st : List Int) : Prop where
  blk : Blk w b 217 [gV, nV, lV, pV, sV, .int .i64 s.count, .int .i64 s.got]
  num : Own w B 3 Non nV s.num
  low : Own w B 3 Non lV s.low
  part : Own w B 3 Non pV s.part
  stk : Own w B 3 Non sV st
  ge : B ≤ b
  hnb : nV.ownBlock = some nb
  hlb : lV.ownBlock = some lb
  hpb : pV.ownBlock = some pb
  ne : nb ≠ lb ∧ nb ≠ pb ∧ lb ≠ pb ∧ nb ≠ b ∧ lb ≠ b ∧ pb ≠ b
  sne : ∀ k, sV.ownBlock = some k → k ≠ nb ∧ k ≠ lb ∧ k ≠ pb ∧ k ≠ b
/-- what a step of the search may change -/
def tS (b nb lb pb : Nat) (sV : Value) : Nat → Prop := fun k => k = b ∨ k = nb ∨ k = lb ∨ k = pb ∨ sV.ownBlock = some k
theorem TM.lts {w : World} {B b : Nat} {gV nV lV pV sV : Value} {nb lb pb : Nat} {s : Ts} {st : List Int} (h : TM w B b gV nV lV pV sV nb lb pb s st) : b < w.heap.size ∧ nb < w.heap.size ∧ lb < w.heap.size ∧ pb < w.heap.size ∧ (∀ k, sV.ownBlock = some k → k < w.heap.size) ∧ B ≤ nb ∧ B ≤ lb ∧ B ≤ pb ∧ (∀ k, sV.ownBlock = some k → B ≤ k) :=
  ⟨h.blk.lt, (h.num.lt _ h.hnb).2.1, (h.low.lt _ h.hlb).2.1, (h.part.lt _ h.hpb).2.1, fun k hk => (h.stk.lt k hk).2.1, (h.num.lt _ h.hnb).1, (h.low.lt _ h.hlb).1, (h.part.lt _ h.hpb).1, fun k hk => (h.stk.lt k hk).1⟩
theorem TM.ext {w w' : World} {B b : Nat} {gV nV lV pV sV : Value} {nb lb pb : Nat} {s : Ts} {st : List Int} (h : TM w B b gV nV lV pV sV nb lb pb s st) (hE : Ext w w') : TM w' B b gV nV lV pV sV nb lb pb s st :=
  ⟨h.blk.ext hE, h.num.extN hE, h.low.extN hE, h.part.extN hE, h.stk.extN hE, h.ge, h.hnb, h.hlb, h.hpb, h.ne, h.sne⟩
/-- another block has changed -/
theorem TM.off {w w' : World} {row : Option Nat} {B b : Nat} {gV nV lV pV sV : Value} {nb lb pb : Nat} {s : Ts} {st : List Int} (h : TM w B b gV nV lV pV sV nb lb pb s st) (hg : w.grownBy w' row) (hn : ∀ k, row = some k → ¬ tS b nb lb pb sV k) : TM w' B b gV nV lV pV sV nb lb pb s st :=
  ⟨h.blk.kept hg (fun e => hn b e.symm (.inl rfl)), h.num.keptN hg (fun k hk e => hn k e.symm (.inr (.inl (by rw [h.hnb] at hk; cases hk; rfl)))), h.low.keptN hg (fun k hk e => hn k e.symm (.inr (.inr (.inl (by rw [h.hlb] at hk; cases hk; rfl))))), h.part.keptN hg (fun k hk e => hn k e.symm (.inr (.inr (.inr (.inl (by rw [h.hpb] at hk; cases hk; rfl)))))), h.stk.keptN hg (fun k hk e => hn k e.symm (.inr (.inr (.inr (.inr hk))))), h.ge, h.hnb, h.hlb, h.hpb, h.ne, h.sne⟩

theorem begin_ok (w : World) {B b : Nat} {gV nV lV pV sV : Value} {nb lb pb : Nat} {s : Ts} {st : List Int} (h : TM w B b gV nV lV pV sV nb lb pb s st) {k : Nat} (hB : B ≤ w.heap.size) (hk : k < s.num.length) (hk2 : k < s.low.length) (hc0 : 0 ≤ s.count) (hc : s.count < 4611686018427387904) (hst : st.length ≤ 1099511627776) :
    Rt Try.prog 184 [.pointer (some ⟨b, 0, none⟩), .int .i64 k].toArray w fun _ w' => ∃ sV', TM w' B b gV nV lV pV sV' nb lb pb (tBegin k s) (st ++ [(k : Int)]) ∧ Chg (tS b nb lb pb sV) w w' ∧ (∀ j, sV'.ownBlock = some j → sV.ownBlock = some j ∨ w.heap.size ≤ j) := by
  obtain ⟨hn1, hn2, hn3, hn4, hn5, hn6⟩ := h.ne
  refine Rt.enter2 Try.func184 Try.ntmps184 rfl rfl ?_
  have hb := h.blk
  (repeat (first | (apply WL.add; rfl; rfl; rfl; rfl; omega; omega) | (apply WL.pure; rfl; rfl; rfl) | (apply CW.seq) | (apply CW.region) | (apply WL.fa; rfl; rfl; rfl) | (apply WL.nck; rfl; rfl; rfl) | (apply WL.ld; rfl; rfl; rfl; assumption; rfl)))
  refine WL.st rfl rfl rfl hb rfl rfl (ones_of rfl) (fun w1 hb1 hg1 => ?_)
  have hC1 : Chg (tS b nb lb pb sV) w w1 := (Chg.refl _ _).grown hg1 (fun g e => by cases e; exact .inl rfl)
  have hnum1 := h.num.keptN hg1 (fun g hg e => by rw [h.hnb] at hg; cases hg; cases e; exact hn4 rfl)
  have hlow1 := h.low.keptN hg1 (fun g hg e => by rw [h.hlb] at hg; cases hg; cases e; exact hn5 rfl)
  have hpart1 := h.part.keptN hg1 (fun g hg e => by rw [h.hpb] at hg; cases hg; cases e; exact hn6 rfl)
  have hstk1 := h.stk.keptN hg1 (fun g hg e => by cases e; exact (h.sne _ hg).2.2.2 rfl)
  skip
  apply WL.nil
  apply EX.thenN
  apply CW.seq
  have hd := hb1.ext (Ext.drew w1)
  have hSK : ∀ w2, (fun x : World => x.heap[b]? = (drew w1).heap[b]?) w2 → w2.heap[b]? = (drew w1).heap[b]? := fun _ h => h
  refine CW.drawH (fun x : World => x.heap[b]? = (drew w1).heap[b]?) [(0, true), (1, true), (2, true), (3, true), (4, true), (5, true), (6, true), (7, true), (8, true), (9, true), (10, true), (11, true), (12, true), (13, true), (14, true), (15, true), (16, true), (17, true), (18, true), (19, false), (20, true), (21, false)] mixed (by kernel_rfl) rfl ?_
  (repeat (first | (apply HL.pure; rfl; rfl; rfl; rfl) | (refine HL.fa rfl rfl rfl rfl ?_) | (apply HL.nck; rfl; rfl; rfl; rfl) | (refine HL.ldK (by assumption) rfl rfl rfl rfl (by assumption) rfl ?_)))
  have hnumd := hnum1.extN (Ext.drew w1)
  have hlowd := hlow1.extN (Ext.drew w1)
  refine HL.setN (u := .int .i64 (s.count + 1)) (yv := s.count + 1) rfl rfl rfl rfl rfl rfl hnumd hk (fun _ => rfl) (fun _ => rfl) (Rd.mkInt _ _ _) (fun w' hg => hg.block b hd.lt (fun e => hn4 (by rw [h.hnb] at e; exact (Option.some.inj e).symm))) (fun w2 q hnum2 hg2 => ?_)
  have hlow2 := hlowd.keptN hg2 (fun g hg e => by rw [h.hlb] at hg; rw [h.hnb] at e; cases hg; cases e; exact hn1 rfl)
  have hb2 := hd.kept hg2 (fun e => by rw [h.hnb] at e; cases e; exact hn4 rfl)
  skip
  refine HL.setN (u := .int .i64 (s.count + 1)) (yv := s.count + 1) rfl rfl rfl rfl rfl rfl hlow2 hk2 (fun _ => rfl) (fun _ => rfl) (Rd.mkInt _ _ _) (fun w' hg => (hg.block b hb2.lt (fun e => hn5 (by rw [h.hlb] at e; exact (Option.some.inj e).symm))).trans (hg2.block b hd.lt (fun e => hn4 (by rw [h.hnb] at e; exact (Option.some.inj e).symm)))) (fun w3 q3 hlow3 hg3 => ?_)
  have hnum3 := hnum2.keptN hg3 (fun g hg e => by rw [h.hnb] at hg; rw [h.hlb] at e; cases hg; cases e; exact hn1 rfl)
  have hb3 := hb2.kept hg3 (fun e => by rw [h.hlb] at e; cases e; exact hn5 rfl)
  have hpart3 := ((hpart1.extN (Ext.drew w1)).keptN hg2 (fun g hg e => by rw [h.hpb] at hg; rw [h.hnb] at e; cases hg; cases e; exact hn2 rfl)).keptN hg3 (fun g hg e => by rw [h.hpb] at hg; rw [h.hlb] at e; cases hg; cases e; exact hn3 rfl)
  have hstk3 := ((hstk1.extN (Ext.drew w1)).keptN hg2 (fun g hg e => by rw [h.hnb] at e; cases e; exact (h.sne _ hg).1 rfl)).keptN hg3 (fun g hg e => by rw [h.hlb] at e; cases e; exact (h.sne _ hg).2.1 rfl)
  have hC3 : Chg (tS b nb lb pb sV) w w3 := ((hC1.grown (w'' := drew w1) (row := none) ⟨rfl, rfl, rfl, Nat.le_refl _, fun _ _ _ => rfl⟩ (fun g e => by cases e)).grown hg2 (fun g e => by rw [h.hnb] at e; cases e; exact .inr (.inl rfl))).grown hg3 (fun g e => by rw [h.hlb] at e; cases e; exact .inr (.inr (.inl rfl)))
  clear hb hb1 hb2 hd hnum1 hnum2 hnumd hlow1 hlow2 hlowd hpart1 hstk1 hSK hC1
  (repeat (apply HL.nil))
  apply EX.thenN
  apply CW.region
  (repeat (first | (apply WL.pure; rfl; rfl; rfl) | (apply WL.fa; rfl; rfl; rfl) | (apply WL.nck; rfl; rfl; rfl) | (apply WL.ld; rfl; rfl; rfl; assumption; rfl)))
  have hBw : B ≤ w3.heap.size := Nat.le_trans hB hC3.size
  refine WL.app1 (F := Non) (yv := (k : Int)) rfl rfl (fun _ => rfl) rfl rfl (fun _ => rfl) hstk3 (Rd.mkInt _ _ _) hBw (fun _ h => h.elim) (by decide) (by unfold maxLen; omega) (by omega) (fun sV' w4 p hstk4 hg4 hnb4 => ?_)
  have hnum4 := hnum3.keptN hg4 (fun g hg e => by rw [h.hnb] at hg; cases hg; exact (h.sne _ e.symm).1 rfl)
  have hlow4 := hlow3.keptN hg4 (fun g hg e => by rw [h.hlb] at hg; cases hg; exact (h.sne _ e.symm).2.1 rfl)
  have hpart4 := hpart3.keptN hg4 (fun g hg e => by rw [h.hpb] at hg; cases hg; exact (h.sne _ e.symm).2.2.1 rfl)
  have hb4 := hb3.kept hg4 (fun e => (h.sne _ e.symm).2.2.2 rfl)
  have hC4 : Chg (tS b nb lb pb sV) w w4 := hC3.grown hg4 (fun g e => .inr (.inr (.inr (.inr e))))
  have hl1 := hnum3.lt _ h.hnb
  have hl2 := hlow3.lt _ h.hlb
  have hl3 := hpart3.lt _ h.hpb
  have hl4 := hb3.lt
  have hsne' : ∀ j, sV'.ownBlock = some j → j ≠ nb ∧ j ≠ lb ∧ j ≠ pb ∧ j ≠ b := by
    intro j hj
    rcases hnb4 j hj with h1 | h1
    · exact h.sne j h1
    · refine ⟨?_, ?_, ?_, ?_⟩ <;> (intro e; omega)
  (repeat (first | (apply WL.fa; rfl; rfl; rfl) | (apply WL.nck; rfl; rfl; rfl)))
  obtain ⟨so, sc, rfl⟩ := hstk4.val
  refine WL.st rfl rfl rfl hb4 rfl rfl (ones_of rfl) (fun w5 hb5 hg5 => ?_)
  (repeat (apply WL.nil))
  refine EX.end0 rfl ⟨_, ⟨hb5, ?_, ?_, ?_, ?_, h.ge, h.hnb, h.hlb, h.hpb, h.ne, hsne'⟩, hC4.grown hg5 (fun g e => by cases e; exact .inl rfl), fun j hj => (hnb4 j hj).imp id (fun h1 => Nat.le_trans hC3.size h1)⟩
  · exact hnum4.keptN hg5 (fun g hg e => by rw [h.hnb] at hg; cases hg; cases e; exact hn4 rfl)
  · exact hlow4.keptN hg5 (fun g hg e => by rw [h.hlb] at hg; cases hg; cases e; exact hn5 rfl)
  · exact hpart4.keptN hg5 (fun g hg e => by rw [h.hpb] at hg; cases hg; cases e; exact hn6 rfl)
  · exact hstk4.keptN hg5 (fun g hg e => by cases e; exact (hsne' _ hg).2.2.2 rfl)

/-- the stack's nodes, as numbers -/
def ints (l : List Nat) : List Int := l.map fun n : Nat => (n : Int)
theorem ints_app (a b : List Nat) : ints (a ++ b) = ints a ++ ints b := List.map_append
theorem close_ok (w : World) {B b : Nat} {gV nV lV pV sV : Value} {nb lb pb : Nat} {s : Ts} {base T : List Nat} {k : Nat} (h : TM w B b gV nV lV pV sV nb lb pb s (ints (base ++ k :: T))) (hnd : (k :: T).Nodup) (hT : ∀ x ∈ k :: T, x < s.part.length) (hg0 : 0 ≤ s.got) (hg1 : s.got < 4611686018427387904) :
    Rt Try.prog 185 [.pointer (some ⟨b, 0, none⟩), .int .i64 k].toArray w fun _ w' => ∃ sV', TM w' B b gV nV lV pV sV' nb lb pb (tClose (k :: T) s) (ints base) ∧ Chg (tS b nb lb pb sV) w w' ∧ sV'.ownBlock = sV.ownBlock := by
  obtain ⟨hn1, hn2, hn3, hn4, hn5, hn6⟩ := h.ne
  refine Rt.enter2 Try.func185 Try.ntmps185 rfl rfl ?_
  (repeat (first | (apply CW.seq) | (apply CW.block)))
  refine CW.loop (S := List Nat × List Nat × Value) (fun _ => [(0, .pointer (some ⟨b, 0, none⟩)), (1, .int .i64 k)])
    (fun x w' => k :: T = x.1 ++ x.2.1 ∧ 0 < x.1.length ∧ TM w' B b gV nV lV pV x.2.2 nb lb pb { s with part := setAll s.part x.2.1 s.got } (ints (base ++ x.1)) ∧ Chg (tS b nb lb pb sV) w w' ∧ x.2.2.ownBlock = sV.ownBlock) (fun x => x.1.length) (k :: T, [], sV) (by repeat (first | exact trivial | refine ⟨rfl, ?_⟩)) ⟨(List.append_nil _).symm, Nat.succ_pos _, h, Chg.refl _ _, rfl⟩ ?_
  rintro ⟨rem, D, v⟩ w1 ⟨hrem, hpos, hM, hC, hv⟩
  dsimp only at hrem hpos hM hv
  obtain ⟨rem', m, rfl⟩ : ∃ rem' m, rem = rem' ++ [m] := ⟨rem.dropLast, rem.getLast (List.ne_nil_of_length_pos hpos), (List.dropLast_concat_getLast _).symm⟩
  have hmT : m ∈ k :: T := by rw [hrem]; simp
  have hml := hT m hmT
  have est : ints (base ++ (rem' ++ [m])) = ints (base ++ rem') ++ [(m : Int)] := by rw [← List.append_assoc, ints_app]; rfl
  rw [est] at hM
  generalize hX : ints (base ++ rem') = X at *
  have hb := hM.blk
  obtain ⟨so, sc, hsv, hsl⟩ := hM.stk.oldN.sl
  have hlen : (X ++ [(m : Int)]).length = X.length + 1 := by simp
  have hel : ∀ (h : (((X ++ [(m : Int)]).length : Int) - 1).toNat < (X ++ [(m : Int)]).length), (X ++ [(m : Int)])[(((X ++ [(m : Int)]).length : Int) - 1).toNat] = m := by
    intro h
    have : (((X ++ [(m : Int)]).length : Int) - 1).toNat = X.length := by rw [hlen]; omega
    simp [this]
  have hmx := hsl.len63
  subst hsv
  (repeat (first | (apply QL.sub'; rfl; rfl; rfl; rfl; omega; omega) | (apply QL.pure; rfl; rfl; rfl) | (apply CW.seq) | (apply QL.lenS; rfl; rfl; rfl) | (apply QL.fa; rfl; rfl; rfl) | (apply QL.nck; rfl; rfl; rfl) | (apply QL.ld; rfl; rfl; rfl; assumption; rfl) | (apply CW.block) | (apply CW.draw; exact mixed; kernel_rfl)))
  refine QL.elem rfl rfl rfl rfl rfl (fun _ h => h) hsl (by omega) (by omega) (fun _ => rfl) (fun u q hu => ?_)
  obtain rfl := hu.int
  simp only [hel]
  (repeat (apply QL.pure; rfl; rfl; rfl))
  refine QL.nil (fun w2 hE2 => ?_)
  have hM2 := hM.ext hE2
  have hC2 : Chg (tS b nb lb pb sV) w w2 := ⟨hE2.os.trans hC.os, hE2.tape.trans hC.tape, hE2.output.trans hC.output, Nat.le_trans hC.size hE2.size, fun k hk hn => (hE2.block k (Nat.lt_of_lt_of_le hk hC.size)).trans (hC.block k hk hn)⟩
  apply EX.thenN
  apply CW.seq
  have hMd := hM2.ext (Ext.drew w2)
  have hbd := hMd.blk
  have hSK : ∀ w3, (fun x : World => x.heap[b]? = (drew w2).heap[b]?) w3 → w3.heap[b]? = (drew w2).heap[b]? := fun _ h => h
  refine CW.drawE (fun x : World => x.heap[b]? = (drew w2).heap[b]?) [(0, true), (1, true), (2, true), (3, true), (4, true), (5, true), (6, true), (7, true), (8, true), (9, true), (10, true), (11, true), (12, false), (13, true)] 14 mixed (by kernel_rfl) rfl ?_
  (repeat (first | (apply HL.sub'; rfl; rfl; rfl; rfl; rfl; omega; omega) | (apply HL.pure; rfl; rfl; rfl; rfl) | (refine HL.fa rfl rfl rfl rfl ?_) | (apply HL.nck; rfl; rfl; rfl; rfl) | (refine HL.ldK (by assumption) rfl rfl rfl rfl (by assumption) rfl ?_) | (refine HL.lenS rfl rfl rfl rfl ?_)))
  refine HL.cutHi (α := Int) X.length (by rw [hlen]; omega) rfl rfl rfl rfl rfl (by have := hsl.le; omega) ?_
  refine HL.mut rfl (WL.nck rfl rfl rfl (WL.nil (EX.mut rfl ?_)))
  (repeat (first | (refine HL.fa rfl rfl rfl rfl ?_) | (apply HL.nil)))
  refine EX.tail rfl (WL.st rfl rfl rfl hbd rfl rfl (ones_of rfl) (fun w3 hb3 hg3 => WL.nil (EX.tailE ?_)))
  have hstk3 := (hMd.stk.take rfl (k := X.length) (by omega)).keptN hg3 (fun g hg e => by cases e; exact (hM.sne _ (show Value.ownBlock (.slice so (X ++ [(m : Int)]).length sc) = some b by cases so <;> exact hg)).2.2.2 rfl)
  rw [show (X ++ [(m : Int)]).take X.length = X by simp] at hstk3
  have hnum3 := hMd.num.keptN hg3 (fun g hg e => by rw [h.hnb] at hg; cases hg; cases e; exact hn4 rfl)
  have hlow3 := hMd.low.keptN hg3 (fun g hg e => by rw [h.hlb] at hg; cases hg; cases e; exact hn5 rfl)
  have hpart3 := hMd.part.keptN hg3 (fun g hg e => by rw [h.hpb] at hg; cases hg; cases e; exact hn6 rfl)
  have hC3 : Chg (tS b nb lb pb sV) w w3 := (hC2.grown (w'' := drew w2) (row := none) ⟨rfl, rfl, rfl, Nat.le_refl _, fun _ _ _ => rfl⟩ (fun g e => by cases e)).grown hg3 (fun g e => by cases e; exact .inl rfl)
  apply EX.thenN
  apply CW.seq
  have hb4 := hb3.ext (Ext.drew w3)
  have hSK : ∀ w4, (fun x : World => x.heap[b]? = (drew w3).heap[b]?) w4 → w4.heap[b]? = (drew w3).heap[b]? := fun _ h => h
  refine CW.drawH (fun x : World => x.heap[b]? = (drew w3).heap[b]?) [(0, true), (1, true), (2, true), (3, true), (4, true), (5, true), (6, true), (7, true), (8, true), (9, true), (10, false)] mixed (by kernel_rfl) rfl ?_
  (repeat (first | (apply HL.pure; rfl; rfl; rfl; rfl) | (refine HL.fa rfl rfl rfl rfl ?_) | (apply HL.nck; rfl; rfl; rfl; rfl) | (refine HL.ldK (by assumption) rfl rfl rfl rfl (by assumption) rfl ?_)))
  refine HL.setN (u := .int .i64 s.got) (yv := s.got) rfl rfl rfl rfl rfl rfl (hpart3.extN (Ext.drew w3)) (by dsimp only; rw [setAll_len]; exact hml) (fun _ => rfl) (fun _ => rfl) (Rd.mkInt _ _ _) (fun w' hg => hg.block b hb4.lt (fun e => by rw [h.hpb] at e; cases e; exact hn6 rfl)) (fun w5 q hpart5 hg5 => ?_)
  have hnum5 := (hnum3.extN (Ext.drew w3)).keptN hg5 (fun g hg e => by rw [h.hnb] at hg; rw [h.hpb] at e; cases hg; cases e; exact hn2 rfl)
  have hlow5 := (hlow3.extN (Ext.drew w3)).keptN hg5 (fun g hg e => by rw [h.hlb] at hg; rw [h.hpb] at e; cases hg; cases e; exact hn3 rfl)
  have hvs : Value.ownBlock (.slice so X.length sc) = sV.ownBlock := by rw [← hv]; cases so <;> rfl
  have hstk5 := (hstk3.extN (Ext.drew w3)).keptN hg5 (fun g hg e => by rw [h.hpb] at e; cases e; exact (h.sne _ (hvs ▸ hg)).2.2.1 rfl)
  have hb5 := hb4.kept hg5 (fun e => by rw [h.hpb] at e; cases e; exact hn6 rfl)
  have hC5 : Chg (tS b nb lb pb sV) w w5 := (hC3.grown (w'' := drew w3) (row := none) ⟨rfl, rfl, rfl, Nat.le_refl _, fun _ _ _ => rfl⟩ (fun g e => by cases e)).grown hg5 (fun g e => by rw [h.hpb] at e; cases e; exact .inr (.inr (.inr (.inl rfl))))
  have hsne5 : ∀ j, Value.ownBlock (.slice so X.length sc) = some j → j ≠ nb ∧ j ≠ lb ∧ j ≠ pb ∧ j ≠ b := fun j hj => h.sne j (hvs ▸ hj)
  have hM5 : TM w5 B b gV nV lV pV (.slice so X.length sc) nb lb pb { s with part := setAll s.part (m :: D) s.got } (ints (base ++ rem')) := ⟨hb5, hnum5, hlow5, hpart5, by rw [hX]; exact hstk5, h.ge, h.hnb, h.hlb, h.hpb, h.ne, hsne5⟩
  clear hM hM2 hMd hb hbd hb3 hb4 hstk3 hnum3 hlow3 hpart3 hnum5 hlow5 hpart5 hstk5 hC3 hC2 hC hSK
  (repeat (apply HL.nil))
  apply EX.thenN
  (repeat (first | (apply WL.pure; rfl; rfl; rfl) | (apply WL.nil) | (apply EX.thenN) | (apply CW.seq) | (apply CW.region)))
  refine CW.cond rfl (fun hmk => ?_) (fun hmk => ?_)
  · have hmk : m = k := by
      have : (m : Int) = (k : Int) := by simpa using hmk
      omega
    subst hmk
    have hr : rem' = [] := by
      cases rem' with
      | nil => rfl
      | cons y ys =>
        exfalso
        rw [List.cons_append, List.cons_append] at hrem
        obtain ⟨rfl, h2⟩ := List.cons.inj hrem
        rw [List.nodup_cons] at hnd
        exact hnd.1 (by rw [h2]; simp)
    subst hr
    have hD : D = T := by simpa using hrem.symm
    subst hD
    rw [List.append_nil] at hM5
    have hb6 := hM5.blk
    dsimp only at hb6
    (repeat (first | (apply WL.add; rfl; rfl; rfl; rfl; omega; omega) | (apply WL.pure; rfl; rfl; rfl) | (apply EX.thenN) | (apply CW.region) | (apply WL.fa; rfl; rfl; rfl) | (apply WL.nck; rfl; rfl; rfl) | (apply WL.ld; rfl; rfl; rfl; assumption; rfl) | (apply CW.exit) | (apply EX.thenX) | (apply EX.inX) | (apply EX.inXne; rfl)))
    refine WL.st rfl rfl rfl hb6 rfl rfl (ones_of rfl) (fun w6 hb7 hg6 => ?_)
    (repeat (apply WL.nil))
    refine EX.end0 rfl ⟨_, ⟨hb7, ?_, ?_, ?_, ?_, h.ge, h.hnb, h.hlb, h.hpb, h.ne, hsne5⟩, hC5.grown hg6 (fun g e => by cases e; exact .inl rfl), hvs⟩
    · exact hM5.num.keptN hg6 (fun g hg e => by rw [h.hnb] at hg; cases hg; cases e; exact hn4 rfl)
    · exact hM5.low.keptN hg6 (fun g hg e => by rw [h.hlb] at hg; cases hg; cases e; exact hn5 rfl)
    · exact hM5.part.keptN hg6 (fun g hg e => by rw [h.hpb] at hg; cases hg; cases e; exact hn6 rfl)
    · exact hM5.stk.keptN hg6 (fun g hg e => by cases e; exact (hsne5 _ hg).2.2.2 rfl)
  · have hmk : ¬ m = k := by
      have : ¬ (m : Int) = (k : Int) := by simpa using hmk
      omega
    have hr : 0 < rem'.length := by
      cases rem' with
      | nil => exact absurd (List.cons.inj hrem).1.symm hmk
      | cons y ys => simp
    (repeat (first | (apply EX.inN) | (apply CW.skip)))
    exact EX.back (rem', m :: D, _) (by repeat (first | exact trivial | refine ⟨rfl, ?_⟩)) ⟨by rw [hrem]; simp, hr, hM5, hC5, hvs⟩ (by simp)
end Go.Proofs.Ythefpigolikmeaa
