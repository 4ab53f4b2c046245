import Derived.Test.YtikigaeihdmcaaaGreatDoorPtReportLines10
/-
  ctl.Parse, walked: the next token.
-/
set_option linter.unusedVariables false
set_option linter.unusedSimpArgs false
namespace Go.Proofs.YtikigaeihdmcaaaGreatDoor
open Go.RowKit

/-- a reader of a text -/
structure Rdr (T : TypeId) (w : World) (rb : Nat) (s : Bys) (no : Option Addr) (nc : Nat) (nms : List ByteArray) (o : Nat) (st : Bys × Bys) : Prop where
  blk : Blk w rb T [tV s, .slice no nms.length nc, tV st.1, .int .i64 (atT s.length st : Int), .int .i64 ((s.length - st.2.length : Nat) : Int), .int .i64 (o : Int)]
  nm : Sl w (fun b => b < rb) no nc nms
  drp : s.drop (s.length - st.2.length) = st.2
  len : st.1.length + st.2.length ≤ s.length
theorem Rdr.lt {T : TypeId} {w : World} {rb : Nat} {s : Bys} {no : Option Addr} {nc : Nat} {nms : List ByteArray} {o : Nat} {st : Bys × Bys} (h : Rdr T w rb s no nc nms o st) : rb < w.heap.size := h.blk.lt
theorem Rdr.kept {T : TypeId} {w w' : World} {rb : Nat} {s : Bys} {no : Option Addr} {nc : Nat} {nms : List ByteArray} {o : Nat} {st : Bys × Bys} {r : Option Nat} (h : Rdr T w rb s no nc nms o st) (hg : w.grownBy w' r) (hr : ∀ b, r = some b → rb < b) : Rdr T w' rb s no nc nms o st := by
  have hl := h.lt
  refine ⟨h.blk.kept hg (fun e => by have := hr rb e.symm; omega), h.nm.mono (fun b hb => hg.block b (by omega) (fun e => by have := hr b e.symm; omega)) fun _ h => h, h.drp, h.len⟩
theorem Rdr.ext {T : TypeId} {w w' : World} {rb : Nat} {s : Bys} {no : Option Addr} {nc : Nat} {nms : List ByteArray} {o : Nat} {st : Bys × Bys} (h : Rdr T w rb s no nc nms o st) (hE : Ext w w') : Rdr T w' rb s no nc nms o st := h.kept (hE.grw none) (fun b e => by cases e)
section
variable {P : Program} {Q : Exit → Act → World → Prop} {n : Nat} {σ : Sg} {w : World} {L rest : List Oper} {d : Nat} {op : Op} {ty : TypeId} {pos : String} {af : Array Edge} {g : Option (Nat × Bool)} {t yt : TypeId} {x y ix : Operand}
theorem WL.lenB {s : Bys} (hg : gd L σ ⟨some d, .call ⟨.builtin .len, #[x], #[t]⟩, ty, pos, af, g⟩ = some true) (hd : Nat.ble (d + 1) n = true)
    (hx : ev σ x = some (tV s)) [hs : IsStr P t] (h : WL P L Q rest n ((d, .int .i64 (s.length : Int)) :: σ) w) : WL P L Q (⟨some d, .call ⟨.builtin .len, #[x], #[t]⟩, ty, pos, af, g⟩ :: rest) n σ w :=
  WL.lenT hg hd hx (by rw [txA_size]; exact h)
theorem QL.lenB {s : Bys} (hg : gd L σ ⟨some d, .call ⟨.builtin .len, #[x], #[t]⟩, ty, pos, af, g⟩ = some true) (hd : Nat.ble (d + 1) n = true)
    (hx : ev σ x = some (tV s)) [hs : IsStr P t] (h : QL P L w Q rest n ((d, .int .i64 (s.length : Int)) :: σ)) : QL P L w Q (⟨some d, .call ⟨.builtin .len, #[x], #[t]⟩, ty, pos, af, g⟩ :: rest) n σ :=
  QL.lenT hg hd hx (by rw [txA_size]; exact h)
end
/-- a byte that is c -/
theorem by_eq {b c : UInt8} : (((b.toNat : Nat) : Int) == ((c.toNat : Nat) : Int)) = (b == c) := by
  rw [Bool.eq_iff_iff, beq_iff_eq, beq_iff_eq]
  constructor
  · intro h
    exact UInt8.toNat_inj.1 (by omega)
  · intro h
    subst h; rfl
theorem by32 {b : UInt8} : (((b.toNat : Nat) : Int) == 32) = (b == 32) := by_eq (c := 32)
theorem by45 {b : UInt8} : (((b.toNat : Nat) : Int) == 45) = (b == 45) := by_eq (c := 45)
theorem by62 {b : UInt8} : (((b.toNat : Nat) : Int) == 62) = (b == 62) := by_eq (c := 62)
theorem HL.ldE {P : Program} {Q : Exit → Act → World → Prop} {n : Nat} {σ : Sg} {wc : World} {L : List Oper} {S : World → Prop} {ord : List (Nat × Bool)} {i d : Nat} {ty : TypeId} {pos : String} {af : Array Edge} {g : Option (Nat × Bool)} {t e : TypeId} {x : Operand} {b o : Nat} {v : Value}
    (hK : ∀ w1, S w1 → ∃ cells, Blk w1 b e cells ∧ nthV cells o = some v) (ho : nthO L i = some ⟨some d, .load t x, ty, pos, af, g⟩) (hg : gd L σ ⟨some d, .load t x, ty, pos, af, g⟩ = some true) (hd : Nat.ble (d + 1) n = true) (hx : ev σ x = some (.pointer (some ⟨b, o, none⟩))) [hc : IsC P t 1 false]
    (h : HL P L S Q ord n ((d, v) :: σ) wc) : HL P L S Q ((i, true) :: ord) n σ wc := by
  refine HL.run ho hg hd (fun a ha w' hsw => ?_) h
  obtain ⟨cells, hb, hv⟩ := hK w' hsw
  simp [execOp, ha.ev hx, run_ld (P := P) (t := t) w' hb hv]
instance iCRd1 : IsFd Tryz.prog 139 0 0 := IsFd.of (by kernel_rfl)
instance iCRd2 : IsFd Tryz.prog 139 1 1 := IsFd.of (by kernel_rfl)
instance iCRd3 : IsFd Tryz.prog 139 2 2 := IsFd.of (by kernel_rfl)
instance iCRd4 : IsFd Tryz.prog 139 3 3 := IsFd.of (by kernel_rfl)
instance iCRd5 : IsFd Tryz.prog 139 4 4 := IsFd.of (by kernel_rfl)
instance iCRd6 : IsFd Tryz.prog 139 5 5 := IsFd.of (by kernel_rfl)
instance iCRd7 : IsBd Tryz.prog 135 [(0, 1), (1, 1), (2, 1)] := IsBd.of (by kernel_rfl)
instance iCRd8 : IsZC Tryz.prog 135 [.int .i64 0, .int .i64 0, .nilIface] := IsZC.of (z := .agg #[.int .i64 0, .int .i64 0, .nilIface]) (by kernel_rfl) rfl
instance iCRd9 : IsBd Tryz.prog 139 [(0, 1), (1, 1), (2, 1), (3, 1), (4, 1), (5, 1)] := IsBd.of (by kernel_rfl)
instance iCRd10 : IsZC Tryz.prog 139 [tV [], .slice none 0 0, tV [], .int .i64 0, .int .i64 0, .int .i64 0] := IsZC.of (z := .agg #[tV [], .slice none 0 0, tV [], .int .i64 0, .int .i64 0, .int .i64 0]) (by kernel_rfl) rfl
theorem cletter_ok (w0 : World) (c : UInt8) : Rt Tryz.prog 106 [.int .u8 (c.toNat : Int)].toArray w0 fun v w' => v = .bool (lowB c) ∧ Ext w0 w' := by
  refine Rt.enter1 Tryz.func106 Tryz.ntmps106 rfl rfl ?_
  unfold lowB
  (repeat (first | (apply WL.pure; rfl; rfl; rfl) | (apply WL.nil) | (apply EX.thenN) | (apply CW.seq) | (apply CW.region)))
  (refine WL.lookG rfl rfl (fun h => ?_) (fun h => ?_))
  · (repeat (first | (apply WL.pure; rfl; rfl; rfl) | (apply WL.nil) | (apply EX.thenN) | (apply CW.ret)))
    refine EX.ret1 rfl rfl ⟨?_, Ext.refl _⟩
    congr 1
    rw [Bool.eq_iff_iff]
    simp at h ⊢
    omega
  · (repeat (first | (apply WL.pure; rfl; rfl; rfl) | (apply WL.nil) | (apply EX.thenN) | (apply WL.pass; rfl; rfl) | (apply CW.ret)))
    refine EX.ret1 rfl rfl ⟨?_, Ext.refl _⟩
    congr 1
    rw [Bool.eq_iff_iff]
    simp at h ⊢
    omega
theorem cwrong_ok (w0 : World) {rb : Nat} {s : Bys} {no : Option Addr} {nc : Nat} {nms : List ByteArray} {o : Nat} {st : Bys × Bys} (hr : Rdr 139 w0 rb s no nc nms o st) (c : Int) :
    Rt Tryz.prog 86 [.pointer (some ⟨rb, 0, none⟩), .int .i64 c].toArray w0 fun v w' => v = .iface 131 (.pointer (some ⟨w0.heap.size, 0, none⟩)) ∧ Blk w' w0.heap.size 135 [.int .i64 c, .int .i64 (atT s.length st : Int), .nilIface] ∧ Ext w0 w' := by
  have hb := hr.blk
  refine Rt.enter2 Tryz.func86 Tryz.ntmps86 rfl rfl ?_
  (repeat (first | (apply WL.pure; rfl; rfl; rfl) | (apply WL.nil) | (apply EX.thenN) | (apply CW.seq) | (apply CW.region) | (apply WL.fa; rfl; rfl; rfl) | (apply WL.nck; rfl; rfl; rfl) | (apply WL.ld; rfl; rfl; rfl; assumption; rfl)))
  refine WL.build rfl rfl rfl rfl ?_
  refine WL.boxB rfl rfl rfl fun w1 hb1 e1 => ?_
  refine WL.mkIf rfl rfl rfl Tryz.underlying131 rfl ?_
  (repeat (first | (apply WL.pure; rfl; rfl; rfl) | (apply WL.nil) | (apply EX.thenN) | (apply CW.ret)))
  exact EX.ret1 rfl rfl ⟨rfl, hb1, e1⟩
theorem cnext_ok (w0 : World) {rb : Nat} {s : Bys} {no : Option Addr} {nc : Nat} {nms : List ByteArray} {o : Nat} {st : Bys × Bys} (hr : Rdr 139 w0 rb s no nc nms o st) (hs : s.length ≤ 300) :
    Rt Tryz.prog 84 [.pointer (some ⟨rb, 0, none⟩)].toArray w0 fun v w' => Rdr 139 w' rb s no nc nms o (nxT st.2) ∧ w0.grownBy w' (some rb) := by
  obtain ⟨hb, hnm, hdr, hln⟩ := hr
  have hbl := hb.lt
  generalize hE : s.length - st.2.length = E at *
  have hEl : E ≤ s.length := by omega
  refine Rt.enter1 Tryz.func84 Tryz.ntmps84 rfl rfl ?_
  apply CW.seq
  apply CW.region
  (repeat (first | (apply WL.pure; rfl; rfl; rfl) | (apply WL.fa; rfl; rfl; rfl) | (apply WL.nck; rfl; rfl; rfl) | (apply WL.ld; rfl; rfl; rfl; assumption; rfl)))
  apply WL.nil
  apply EX.thenN
  refine CW.cutI (S := Nat) (fun i => [(0, .pointer (some ⟨rb, 0, none⟩)), (2, .int .i64 (i : Int))])
    (fun i w => w = w0 ∧ E ≤ i ∧ i ≤ s.length ∧ (∀ k (hk : k < s.length), E ≤ k → k < i → (s[k] == 32) = true) ∧ (∀ hk : i < s.length, (s[i] == 32) = false)) ?_ ?_
  · apply CW.block
    refine CW.loop (S := Nat) (fun i => [(0, .pointer (some ⟨rb, 0, none⟩)), (2, .int .i64 (i : Int))])
      (fun i w => w = w0 ∧ E ≤ i ∧ i ≤ s.length ∧ (∀ k (hk : k < s.length), E ≤ k → k < i → (s[k] == 32) = true)) (fun i => s.length - i) E (by repeat (first | exact trivial | refine ⟨rfl, ?_⟩)) ⟨rfl, Nat.le_refl _, hEl, fun k _ h1 h2 => by omega⟩ ?_
    rintro i w ⟨hw, h1, h2, h3⟩
    subst hw
    (repeat (first | (apply WL.pure; rfl; rfl; rfl) | (apply CW.seq) | (apply CW.region) | (apply WL.fa; rfl; rfl; rfl) | (apply WL.nck; rfl; rfl; rfl) | (apply WL.ld; rfl; rfl; rfl; assumption; rfl)))
    refine WL.lenB rfl rfl rfl ?_
    (repeat (apply WL.pure; rfl; rfl; rfl))
    (refine WL.lookG rfl rfl (fun h => ?_) (fun h => ?_))
    · have hi : i < s.length := by simpa using h
      (repeat (first | (apply WL.pure; rfl; rfl; rfl) | (apply WL.fa; rfl; rfl; rfl) | (apply WL.nck; rfl; rfl; rfl) | (apply WL.ld; rfl; rfl; rfl; assumption; rfl)))
      refine WL.byteL rfl rfl rfl rfl hi ?_
      (repeat (first | (apply WL.pure; rfl; rfl; rfl) | (apply WL.nil) | (apply EX.thenN)))
      rw [by32]
      refine CW.cond rfl (fun hc' => ?_) (fun hc' => ?_)
      · (repeat (first | (apply WL.add; rfl; rfl; rfl; rfl; omega; omega) | (apply WL.pure; rfl; rfl; rfl) | (apply WL.nil) | (apply EX.thenN) | (apply CW.region) | (apply CW.block) | (apply EX.inN) | (apply CW.skip)))
        refine EX.back (i + 1) (by repeat (first | exact trivial | refine ⟨rfl, ?_⟩)) ⟨rfl, by omega, by omega, fun k hk a b => ?_⟩ (by omega)
        by_cases e : k = i
        · subst e; exact hc'
        · exact h3 k hk a (by omega)
      · (repeat (first | (apply CW.exit) | (apply EX.thenX) | (apply EX.inX)))
        exact EX.cutI i (by repeat (first | exact trivial | refine ⟨rfl, ?_⟩)) ⟨rfl, h1, h2, h3, fun _ => hc'⟩
    · have hi : ¬ i < s.length := by simpa using h
      (repeat (first | (apply WL.pure; rfl; rfl; rfl) | (apply WL.nil) | (apply EX.thenN) | (apply WL.pass; rfl; rfl) | (apply CW.condF; rfl) | (apply CW.exit) | (apply EX.thenX) | (apply EX.inX)))
      exact EX.cutI i (by repeat (first | exact trivial | refine ⟨rfl, ?_⟩)) ⟨rfl, h1, h2, h3, fun hk => absurd hk hi⟩
  rintro i w ⟨hw, hi1, hi2, hi3, hi4⟩
  subst hw
  apply CW.seq
  apply CW.region
  (repeat (first | (apply WL.pure; rfl; rfl; rfl) | (apply WL.fa; rfl; rfl; rfl) | (apply WL.nck; rfl; rfl; rfl)))
  refine WL.st rfl rfl rfl hb rfl rfl (ones_of rfl) (fun w1 hb1 hg1 => ?_)
  clear hb
  (repeat (first | (apply WL.fa; rfl; rfl; rfl) | (apply WL.nck; rfl; rfl; rfl)))
  refine WL.st rfl rfl rfl hb1 rfl rfl (ones_of rfl) (fun w2 hb2 hg2 => ?_)
  clear hb1
  have hG2 := grown_tr hg1 hg2
  clear hg1 hg2
  apply WL.nil
  apply EX.thenN
  refine CW.cutI (S := Nat) (fun _ => [(0, .pointer (some ⟨rb, 0, none⟩)), (2, .int .i64 (i : Int))])
    (fun j x => w.grownBy x (some rb) ∧ Blk x rb 139 [tV s, .slice no nms.length nc, tV st.1, .int .i64 (i : Int), .int .i64 (j : Int), .int .i64 (o : Int)] ∧ i ≤ j ∧ j ≤ s.length ∧ (∀ k (hk : k < s.length), i ≤ k → k < j → lowB s[k] = true) ∧ (∀ hk : j < s.length, lowB s[j] = false)) ?_ ?_
  · apply CW.block
    refine CW.loop (S := Nat) (fun _ => [(0, .pointer (some ⟨rb, 0, none⟩)), (2, .int .i64 (i : Int))])
      (fun j x => w.grownBy x (some rb) ∧ Blk x rb 139 [tV s, .slice no nms.length nc, tV st.1, .int .i64 (i : Int), .int .i64 (j : Int), .int .i64 (o : Int)] ∧ i ≤ j ∧ j ≤ s.length ∧ (∀ k (hk : k < s.length), i ≤ k → k < j → lowB s[k] = true)) (fun j => s.length - j) i (by repeat (first | exact trivial | refine ⟨rfl, ?_⟩)) ⟨hG2, hb2, Nat.le_refl _, hi2, fun k _ h1 h2 => by omega⟩ ?_
    clear hb2 hG2
    rintro j x ⟨hg, hb, h1, h2, h3⟩
    (repeat (first | (apply QL.pure; rfl; rfl; rfl) | (apply CW.seq) | (apply QL.fa; rfl; rfl; rfl) | (apply QL.nck; rfl; rfl; rfl) | (apply QL.ld; rfl; rfl; rfl; assumption; rfl) | (apply CW.draw; exact mixed; kernel_rfl)))
    refine QL.lenB rfl rfl rfl ?_
    (repeat (apply QL.pure; rfl; rfl; rfl))
    (refine QL.lookG rfl rfl (fun h => ?_) (fun h => ?_))
    · have hj : j < s.length := by simpa using h
      (repeat (first | (apply QL.pure; rfl; rfl; rfl) | (apply QL.fa; rfl; rfl; rfl) | (apply QL.nck; rfl; rfl; rfl) | (apply QL.ld; rfl; rfl; rfl; assumption; rfl)))
      refine QL.byteL rfl rfl rfl rfl hj ?_
      skip
      refine QL.call rfl rfl rfl (fun w' _ => cletter_ok w' s[j]) ?_
      (repeat (apply QL.pure; rfl; rfl; rfl))
      refine QL.nil (fun x2 e2 => ?_)
      have hb2 := hb.ext e2
      have hG := grown_tr hg (e2.grw _)
      (repeat (apply EX.thenN))
      refine CW.cond rfl (fun hc => ?_) (fun hc => ?_)
      · (repeat (first | (apply WL.add; rfl; rfl; rfl; rfl; omega; omega) | (apply WL.pure; rfl; rfl; rfl) | (apply EX.thenN) | (apply CW.region) | (apply WL.fa; rfl; rfl; rfl) | (apply WL.nck; rfl; rfl; rfl) | (apply WL.ld; rfl; rfl; rfl; assumption; rfl) | (apply CW.block) | (apply CW.skip)))
        refine WL.st rfl rfl rfl hb2 rfl rfl (ones_of rfl) (fun x3 hb3 hg3 => ?_)
        (repeat (first | (apply WL.nil) | (apply EX.inN)))
        refine EX.back (j + 1) (by repeat (first | exact trivial | refine ⟨rfl, ?_⟩)) ⟨grown_tr hG hg3, hb3, by omega, by omega, fun k hk a b => ?_⟩ (by omega)
        by_cases e : k = j
        · subst e; exact hc
        · exact h3 k hk a (by omega)
      · (repeat (first | (apply CW.exit) | (apply EX.thenX) | (apply EX.inX)))
        exact EX.cutI j (by repeat (first | exact trivial | refine ⟨rfl, ?_⟩)) ⟨hG, hb2, h1, h2, h3, fun _ => hc⟩
    · have hj : ¬ j < s.length := by simpa using h
      (repeat (first | (apply QL.pure; rfl; rfl; rfl) | (apply QL.pass; rfl; rfl)))
      refine QL.nil (fun x2 e2 => ?_)
      have hb2 := hb.ext e2
      have hG := grown_tr hg (e2.grw _)
      (repeat (first | (apply EX.thenN) | (apply CW.condF; rfl) | (apply CW.exit) | (apply EX.thenX) | (apply EX.inX)))
      exact EX.cutI j (by repeat (first | exact trivial | refine ⟨rfl, ?_⟩)) ⟨hG, hb2, h1, h2, h3, fun hk => absurd hk hj⟩
  clear hb2 hG2
  rintro j x ⟨hg, hb, hj1, hj2, hj3, hj4⟩
  obtain ⟨hN1, hN2, hN3⟩ := nx_done (s := s) hi1 hj1 hj2 hi3 hi4 hj3 hj4
  rw [hdr] at hN1 hN2 hN3
  refine CW.cutI (S := Nat) (fun _ => [(0, .pointer (some ⟨rb, 0, none⟩)), (2, .int .i64 (i : Int))])
    (fun m y => w.grownBy y (some rb) ∧ Blk y rb 139 [tV s, .slice no nms.length nc, tV st.1, .int .i64 (i : Int), .int .i64 (m : Int), .int .i64 (o : Int)] ∧ i ≤ m ∧ m ≤ s.length ∧ nxT st.2 = ((s.take m).drop i, s.drop m)) ?_ ?_
  · apply CW.block
    (repeat (first | (apply WL.pure; rfl; rfl; rfl) | (apply CW.seq) | (apply CW.region) | (apply WL.fa; rfl; rfl; rfl) | (apply WL.nck; rfl; rfl; rfl) | (apply WL.ld; rfl; rfl; rfl; assumption; rfl)))
    (refine WL.lookG rfl rfl (fun h => ?_) (fun h => ?_))
    · have hij : i < j := by simpa using h
      (repeat (first | (apply WL.pure; rfl; rfl; rfl) | (apply WL.nil) | (apply EX.thenN) | (apply WL.pass; rfl; rfl) | (apply EX.inN) | (apply CW.condT; rfl) | (apply CW.skip)))
      exact EX.cutI j (by repeat (first | exact trivial | refine ⟨rfl, ?_⟩)) ⟨hg, hb, hj1, hj2, hN1 (.inl hij)⟩
    have hij : i = j := by have : ¬ i < j := by simpa using h
                           omega
    subst hij
    clear h
    (repeat (first | (apply WL.pure; rfl; rfl; rfl) | (apply WL.fa; rfl; rfl; rfl) | (apply WL.nck; rfl; rfl; rfl) | (apply WL.ld; rfl; rfl; rfl; assumption; rfl)))
    refine WL.lenB rfl rfl rfl ?_
    (repeat (first | (apply WL.pure; rfl; rfl; rfl) | (apply WL.nil) | (apply EX.thenN)))
    refine CW.cond rfl (fun h => ?_) (fun h => ?_)
    · have hil : i = s.length := by have : (i : Int) = (s.length : Int) := by simpa using h
                                    omega
      (repeat (first | (apply EX.inN) | (apply CW.skip)))
      exact EX.cutI i (by repeat (first | exact trivial | refine ⟨rfl, ?_⟩)) ⟨hg, hb, hj1, hj2, hN1 (.inr hil)⟩
    have hil : i < s.length := by have : ¬ (i : Int) = (s.length : Int) := by simpa using h
                                  omega
    (repeat (first | (apply WL.pure; rfl; rfl; rfl) | (apply CW.seq) | (apply CW.region) | (apply WL.fa; rfl; rfl; rfl) | (apply WL.nck; rfl; rfl; rfl) | (apply WL.ld; rfl; rfl; rfl; assumption; rfl)))
    refine WL.byteL rfl rfl rfl rfl hil ?_
    (repeat (apply WL.pure; rfl; rfl; rfl))
    rw [by45]
    (refine WL.lookG rfl rfl (fun h => ?_) (fun h => ?_))
    · have h45 : s[i] = 45 := by simpa using h
      (repeat (first | (apply WL.add; rfl; rfl; rfl; rfl; omega; omega) | (apply WL.pure; rfl; rfl; rfl) | (apply WL.fa; rfl; rfl; rfl) | (apply WL.nck; rfl; rfl; rfl) | (apply WL.ld; rfl; rfl; rfl; assumption; rfl)))
      refine WL.lenB rfl rfl rfl ?_
      (repeat (apply WL.pure; rfl; rfl; rfl))
      by_cases hi1 : i + 1 < s.length
      · rw [show decide ((i : Int) + 1 < (s.length : Int)) = true by simp; omega]
        (repeat (first | (apply WL.add; rfl; rfl; rfl; rfl; omega; omega) | (apply WL.pure; rfl; rfl; rfl) | (apply WL.fa; rfl; rfl; rfl) | (apply WL.nck; rfl; rfl; rfl) | (apply WL.ld; rfl; rfl; rfl; assumption; rfl)))
        refine WL.byteL (i := i + 1) rfl rfl rfl rfl hi1 ?_
        (repeat (first | (apply WL.pure; rfl; rfl; rfl) | (apply WL.nil) | (apply EX.thenN)))
        rw [by62]
        refine CW.cond rfl (fun h => ?_) (fun h => ?_)
        · have h62 : s[i + 1] = 62 := by simpa using h
          (repeat (first | (apply WL.add; rfl; rfl; rfl; rfl; omega; omega) | (apply WL.pure; rfl; rfl; rfl) | (apply CW.region) | (apply WL.fa; rfl; rfl; rfl) | (apply WL.nck; rfl; rfl; rfl)))
          refine WL.st rfl rfl rfl hb rfl rfl (ones_of rfl) (fun y hb2 hg2 => ?_)
          (repeat (first | (apply WL.nil) | (apply EX.inN)))
          exact EX.cutI (i + 2) (by repeat (first | exact trivial | refine ⟨rfl, ?_⟩)) ⟨grown_tr hg hg2, hb2, by omega, by omega, hN2 rfl hil (by rw [List.getElem?_eq_getElem hil, h45]) (by rw [List.getElem?_eq_getElem hi1, h62])⟩
        · have h62 : ¬ s[i + 1] = 62 := by simpa using h
          (repeat (first | (apply WL.add; rfl; rfl; rfl; rfl; omega; omega) | (apply WL.pure; rfl; rfl; rfl) | (apply CW.region) | (apply WL.fa; rfl; rfl; rfl) | (apply WL.nck; rfl; rfl; rfl)))
          refine WL.st rfl rfl rfl hb rfl rfl (ones_of rfl) (fun y hb2 hg2 => ?_)
          (repeat (first | (apply WL.nil) | (apply EX.inN)))
          exact EX.cutI (i + 1) (by repeat (first | exact trivial | refine ⟨rfl, ?_⟩)) ⟨grown_tr hg hg2, hb2, by omega, by omega, hN3 rfl hil (fun e => by rw [List.getElem?_eq_getElem hi1] at e; exact h62 (Option.some.inj e.2))⟩
      · rw [show decide ((i : Int) + 1 < (s.length : Int)) = false by simp; omega]
        (repeat (first | (apply WL.add; rfl; rfl; rfl; rfl; omega; omega) | (apply WL.pure; rfl; rfl; rfl) | (apply WL.nil) | (apply EX.thenN) | (apply CW.region) | (apply WL.pass; rfl; rfl) | (apply WL.fa; rfl; rfl; rfl) | (apply WL.nck; rfl; rfl; rfl) | (apply CW.condF; rfl)))
        refine WL.st rfl rfl rfl hb rfl rfl (ones_of rfl) (fun y hb2 hg2 => ?_)
        (repeat (first | (apply WL.nil) | (apply EX.inN)))
        exact EX.cutI (i + 1) (by repeat (first | exact trivial | refine ⟨rfl, ?_⟩)) ⟨grown_tr hg hg2, hb2, by omega, by omega, hN3 rfl hil (fun e => by obtain ⟨h, _⟩ := List.getElem?_eq_some_iff.1 e.2; exact hi1 h)⟩
    · have h45 : ¬ s[i] = 45 := by simpa using h
      (repeat (first | (apply WL.add; rfl; rfl; rfl; rfl; omega; omega) | (apply WL.pure; rfl; rfl; rfl) | (apply WL.nil) | (apply EX.thenN) | (apply CW.region) | (apply WL.pass; rfl; rfl) | (apply WL.fa; rfl; rfl; rfl) | (apply WL.nck; rfl; rfl; rfl) | (apply CW.condF; rfl)))
      refine WL.st rfl rfl rfl hb rfl rfl (ones_of rfl) (fun y hb2 hg2 => ?_)
      (repeat (first | (apply WL.nil) | (apply EX.inN)))
      exact EX.cutI (i + 1) (by repeat (first | exact trivial | refine ⟨rfl, ?_⟩)) ⟨grown_tr hg hg2, hb2, by omega, by omega, hN3 rfl hil (fun e => by rw [List.getElem?_eq_getElem hil] at e; exact h45 (Option.some.inj e.1))⟩
  clear hb hg
  rintro m y ⟨hg, hb, hm1, hm2, hnx⟩
  have hD := Ext.drew y
  have hbd := hb.ext hD
  refine CW.drawH (fun z : World => ∃ tk, Blk z rb 139 [tV s, .slice no nms.length nc, tk, .int .i64 (i : Int), .int .i64 (m : Int), .int .i64 (o : Int)]) [(0, true), (1, true), (2, true), (3, true), (4, true), (5, true), (6, true), (7, true), (8, true), (9, true), (10, true), (11, true), (12, true), (13, false)] mixed (by kernel_rfl) ⟨_, hbd⟩ ?_
  (repeat (first | (apply HL.pure; rfl; rfl; rfl; rfl) | (refine HL.fa rfl rfl rfl rfl ?_) | (apply HL.nck; rfl; rfl; rfl; rfl)))
  refine HL.ldE (v := tV s) (fun z hz => by obtain ⟨tk, hz⟩ := hz; exact ⟨_, hz, rfl⟩) rfl rfl rfl rfl ?_
  (repeat (first | (apply HL.pure; rfl; rfl; rfl; rfl) | (refine HL.fa rfl rfl rfl rfl ?_) | (apply HL.nck; rfl; rfl; rfl; rfl)))
  refine HL.ldE (v := .int .i64 (m : Int)) (fun z hz => by obtain ⟨tk, hz⟩ := hz; exact ⟨_, hz, rfl⟩) rfl rfl rfl rfl ?_
  refine HL.cutT rfl rfl rfl rfl rfl rfl hm1 hm2 ?_
  (repeat (first | (refine HL.fa rfl rfl rfl rfl ?_) | (apply HL.nck; rfl; rfl; rfl; rfl)))
  refine HL.mut rfl (WL.st rfl rfl rfl hbd rfl rfl (ones_of rfl) (fun z hz hgz => ?_))
  refine WL.nil (EX.mut ⟨_, hz⟩ ?_)
  (repeat (apply HL.nil))
  skip
  have hN : w.grownBy z (some rb) := grown_tr (grown_tr hg (hD.grw _)) hgz
  have hl1 : ((s.take m).drop i).length = m - i := by rw [List.length_drop, List.length_take]; omega
  have hl2 : (s.drop m).length = s.length - m := List.length_drop
  refine EX.end0 rfl ⟨⟨?_, hnm.mono (fun b hb => hN.block b (by omega) (by simp; omega)) fun _ h => h, ?_, ?_⟩, hN⟩
  · rw [hnx]
    unfold atT
    dsimp only
    rw [hl1, hl2, show s.length - (s.length - m) - (m - i) = i by omega, show s.length - (s.length - m) = m by omega]
    exact hz
  · rw [hnx]
    dsimp only
    rw [hl2, show s.length - (s.length - m) = m by omega]
  · rw [hnx]
    dsimp only
    omega
end Go.Proofs.YtikigaeihdmcaaaGreatDoor

/-
  The small makers of formulas of all ways.
-/
set_option linter.unusedVariables false
set_option linter.unusedSimpArgs false
namespace Go.Proofs.YtikigaeihdmcaaaGreatDoor
open Go.RowKit

/-- a formula that stands in memory -/
def CL (w : World) (v : Value) (t : Ltl) : Prop := Rd w (Old w) v t
theorem CL.ext {w w' : World} {v : Value} {t : Ltl} (h : CL w v t) (hE : Ext w w') : CL w' v t := Rd.mono h (fun b hb => hE.block b hb) (fun b hb => Nat.lt_of_lt_of_le hb hE.size)
/-- blocks of F, and new ones -/
def PlusC (F : Nat → Prop) (w w' : World) : Nat → Prop := fun b => F b ∨ (w.heap.size ≤ b ∧ b < w'.heap.size)
end Go.Proofs.YtikigaeihdmcaaaGreatDoor

/-
  Package lasso: next, not, until.
-/
set_option linter.unusedVariables false
set_option linter.unusedSimpArgs false
namespace Go.Proofs.YtikigaeihdmcaaaGreatDoor
open Go.RowKit

end Go.Proofs.YtikigaeihdmcaaaGreatDoor

/-
  Package lasso: what formulas say at all places.
-/
set_option linter.unusedVariables false
set_option linter.unusedSimpArgs false
namespace Go.Proofs.YtikigaeihdmcaaaGreatDoor
open Go.RowKit

mutual
def wfT : Ltl → Prop
  | .mk k n kids => kidsK k = kids.length ∧ 0 ≤ n ∧ n ≤ 63 ∧ (k ≠ 3 → n = 0) ∧ wfTs kids
def wfTs : List Ltl → Prop
  | [] => True
  | x :: r => wfT x ∧ wfTs r
end
end Go.Proofs.YtikigaeihdmcaaaGreatDoor

/-
  What formulas of one way mean, on endless words; that lasso.holds says so. Plain law, no program in sight.
-/
set_option linter.unusedVariables false
set_option linter.unusedSimpArgs false
namespace Go.Proofs.YtikigaeihdmcaaaGreatDoor
open Go.RowKit

def Til (A B : Nat → Prop) (i : Nat) : Prop := ∃ j, i ≤ j ∧ B j ∧ ∀ m, i ≤ m → m < j → A m
theorem Til.step {A B : Nat → Prop} {i : Nat} : Til A B i ↔ B i ∨ (A i ∧ Til A B (i + 1)) := by
  constructor
  · rintro ⟨j, hj, hb, ha⟩
    by_cases h : i = j
    · subst h; exact .inl hb
    · exact .inr ⟨ha i (Nat.le_refl _) (by omega), j, by omega, hb, fun m h1 h2 => ha m (by omega) h2⟩
  · rintro (hb | ⟨ha, j, hj, hb, hm⟩)
    · exact ⟨i, Nat.le_refl _, hb, fun m h1 h2 => by omega⟩
    · refine ⟨j, by omega, hb, fun m h1 h2 => ?_⟩
      by_cases h : m = i
      · subst h; exact ha
      · exact hm m (by omega) h2
theorem Til.shift {A B A' B' : Nat → Prop} {i i' : Nat} (ha : ∀ j, A (i + j) ↔ A' (i' + j)) (hb : ∀ j, B (i + j) ↔ B' (i' + j)) : Til A B i ↔ Til A' B' i' := by
  constructor
  · rintro ⟨j, hj, h1, h2⟩
    obtain ⟨d, rfl⟩ := Nat.exists_eq_add_of_le hj
    refine ⟨i' + d, by omega, (hb d).1 h1, fun m hm hm2 => ?_⟩
    obtain ⟨e, rfl⟩ := Nat.exists_eq_add_of_le hm
    exact (ha e).1 (h2 (i + e) (by omega) (by omega))
  · rintro ⟨j, hj, h1, h2⟩
    obtain ⟨d, rfl⟩ := Nat.exists_eq_add_of_le hj
    refine ⟨i + d, by omega, (hb d).2 h1, fun m hm hm2 => ?_⟩
    obtain ⟨e, rfl⟩ := Nat.exists_eq_add_of_le hm
    exact (ha e).2 (h2 (i' + e) (by omega) (by omega))
section
variable {s l : List Nat} {a b : List Bool} {A B : Nat → Prop} {N : Nat}
end

/- WHAT HOLDS -/
end Go.Proofs.YtikigaeihdmcaaaGreatDoor

/-
  Package push, plain: nots pushed down, plain, slim; what they mean and what forms they give.
-/
set_option linter.unusedVariables false
set_option linter.unusedSimpArgs false
namespace Go.Proofs.YtikigaeihdmcaaaGreatDoor
open Go.RowKit

/- DEPTH, AND WHAT Check ASKS -/
mutual
def Ltl.deep : Ltl → Nat
  | .mk _ _ kids => 1 + Ltl.deepL kids
def Ltl.deepL : List Ltl → Nat
  | [] => 0
  | x :: r => max x.deep (Ltl.deepL r)
end
/- EQUALITY -/
mutual
def sameB : Ltl → Ltl → Bool
  | .mk k n l, .mk k' n' l' => k == k' && n == n' && sameBs l l'
def sameBs : List Ltl → List Ltl → Bool
  | [], [] => true
  | x :: r, y :: q => sameB x y && sameBs r q
  | [], _ :: _ => false
  | _ :: _, [] => false
end
mutual
theorem sameB_iff : ∀ (a b : Ltl), sameB a b = true ↔ a = b
  | .mk k n l, .mk k' n' l' => by
    simp only [sameB, Bool.and_eq_true, beq_iff_eq, sameBs_iff l l', Ltl.mk.injEq]
    exact and_assoc
theorem sameBs_iff : ∀ (a b : List Ltl), sameBs a b = true ↔ a = b
  | [], [] => by simp [sameBs]
  | x :: r, y :: q => by simp only [sameBs, Bool.and_eq_true, sameB_iff x y, sameBs_iff r q, List.cons.injEq]
  | [], _ :: _ => by simp [sameBs]
  | _ :: _, [] => by simp [sameBs]
end
theorem sameB_self (a : Ltl) : sameB a a = true := (sameB_iff a a).2 rfl

/- THE MEANING, KIND BY KIND -/
section
variable {L : Nat → Nat} {n : Int} {a b : Ltl} {i : Nat}
end
theorem Til.congr {A B A' B' : Nat → Prop} (ha : ∀ j, A j ↔ A' j) (hb : ∀ j, B j ↔ B' j) (i : Nat) : Til A B i ↔ Til A' B' i :=
  Til.shift (fun _ => ha _) (fun _ => hb _)

/- NOTS -/
end Go.Proofs.YtikigaeihdmcaaaGreatDoor

/-
  Package push, plain, second part: forms of what is pushed; plain; slim.
-/
set_option linter.unusedVariables false
set_option linter.unusedSimpArgs false
namespace Go.Proofs.YtikigaeihdmcaaaGreatDoor
open Go.RowKit

/- FORMS -/
/- PLAIN -/
/- SLIM -/
section
variable {L : Nat → Nat}
theorem Til.ff {A B : Nat → Prop} {i : Nat} (h : ∀ j, i ≤ j → ¬ B j) : ¬ Til A B i := fun ⟨j, hj, hb, _⟩ => h j hj hb
end
/- slim is right, no larger, no deeper -/
structure Slm (a t : Ltl) : Prop where
  wf : wfT a
  nodes : a.nodes ≤ t.nodes
  deep : a.deep ≤ t.deep
/- slim again is the same -/
end Go.Proofs.YtikigaeihdmcaaaGreatDoor

/-
  lasso.Holds; the small makers of formulas.
-/
set_option linter.unusedVariables false
set_option linter.unusedSimpArgs false
namespace Go.Proofs.YtikigaeihdmcaaaGreatDoor
open Go.RowKit

/-- a formula that stands in memory -/
def RL (w : World) (v : Value) (t : Ltl) : Prop := Rd w (Old w) v t
theorem RL.ext {w w' : World} {v : Value} {t : Ltl} (h : RL w v t) (hE : Ext w w') : RL w' v t := Rd.mono h (fun b hb => hE.block b hb) (fun b hb => Nat.lt_of_lt_of_le hb hE.size)
def Plus (F : Nat → Prop) (w w' : World) : Nat → Prop := fun b => F b ∨ (w.heap.size ≤ b ∧ b < w'.heap.size)
end Go.Proofs.YtikigaeihdmcaaaGreatDoor

/-
  Package push walked, first part: small functions; lists of formulas that grow.
-/
set_option linter.unusedVariables false
set_option linter.unusedSimpArgs false
namespace Go.Proofs.YtikigaeihdmcaaaGreatDoor
open Go.RowKit

/-- a struct that nobody changes meanwhile -/
theorem HL.ldAK {P : Program} {Q : Exit → Act → World → Prop} {n : Nat} {σ : Sg} {w wc : World} {L : List Oper} {S : World → Prop} {ord : List (Nat × Bool)} {i d : Nat} {ty : TypeId} {pos : String} {af : Array Edge} {g : Option (Nat × Bool)} {t e : TypeId} {x : Operand} {b o : Nat} {cells vs : List Value} {k : Nat}
    (hK : ∀ w1, S w1 → w1.heap[b]? = w.heap[b]?) (ho : nthO L i = some ⟨some d, .load t x, ty, pos, af, g⟩) (hg : gd L σ ⟨some d, .load t x, ty, pos, af, g⟩ = some true) (hd : Nat.ble (d + 1) n = true) (hx : ev σ x = some (.pointer (some ⟨b, o, none⟩))) [hc : IsC P t k true] (hb : Blk w b e cells) (hv : segL cells o k = some vs)
    (h : HL P L S Q ord n ((d, .agg vs.toArray) :: σ) wc) : HL P L S Q ((i, true) :: ord) n σ wc := by
  refine HL.run ho hg hd (fun a ha w' hsw => ?_) h
  have hb' : Blk w' b e cells := (hK w' hsw).trans hb
  simp [execOp, ha.ev hx, run_ldA (P := P) (t := t) w' hb' hv]
/-- new blocks -/
def Nw (w w' : World) : Nat → Prop := fun b => w.heap.size ≤ b ∧ b < w'.heap.size
theorem Nw.lt {w w' : World} : ∀ b, Nw w w' b → b < w'.heap.size := fun _ h => h.2
theorem Nw.mono {a b c d : World} (h1 : a.heap.size ≤ b.heap.size) (h2 : c.heap.size ≤ d.heap.size) : ∀ x, Nw b c x → Nw a d x := fun x h => ⟨Nat.le_trans h1 h.1, Nat.lt_of_lt_of_le h.2 h2⟩
/-- behind a change of one block that is not met -/
theorem Rd.kept {α : Type} [Rep α] {w w' : World} {F : Nat → Prop} {v : Value} {x : α} {row : Option Nat} (h : Rd w F v x) (hg : w.grownBy w' row) (hF : ∀ b, F b → b < w.heap.size ∧ some b ≠ row) : Rd w' F v x :=
  h.mono (fun b hb => hg.block b (hF b hb).1 (hF b hb).2) fun _ h => h
theorem Rd.up0 {α : Type} [Rep α] {w w' : World} {F : Nat → Prop} {v : Value} {x : α} (h : Rd w F v x) (hE : Ext w w') (hF : ∀ b, F b → b < w.heap.size) : Rd w' F v x := h.mono (fun b hb => hE.block b (hF b hb)) fun _ h => h
theorem Rd.wk {α : Type} [Rep α] {w : World} {F F' : Nat → Prop} {v : Value} {x : α} (h : Rd w F v x) (hF : ∀ b, F b → F' b) : Rd w F' v x := h.mono (fun _ _ => rfl) hF
/-- the world but for one block -/
def SO (r : Nat) (w : World) : World → Prop := fun x => w.heap.size ≤ x.heap.size ∧ ∀ b, b ≠ r → b < w.heap.size → x.heap[b]? = w.heap[b]?
theorem SO.refl (r : Nat) (w : World) : SO r w w := ⟨Nat.le_refl _, fun _ _ _ => rfl⟩
theorem SO.ext {r : Nat} {w x y : World} (h : SO r w x) (hE : Ext x y) : SO r w y := ⟨Nat.le_trans h.1 hE.size, fun b h1 h2 => (hE.block b (Nat.lt_of_lt_of_le h2 h.1)).trans (h.2 b h1 h2)⟩
theorem SO.st {r : Nat} {w x y : World} (h : SO r w x) (hg : x.grownBy y (some r)) : SO r w y := ⟨Nat.le_trans h.1 hg.size, fun b h1 h2 => (hg.block b (Nat.lt_of_lt_of_le h2 h.1) (fun e => h1 (by cases e; rfl))).trans (h.2 b h1 h2)⟩

/- A LIST OF FORMULAS THAT GROWS: all that it meets is at B or behind -/
section
variable {α : Type} [Rep α]
def Grow (B : Nat) (e : TypeId) (w : World) (v : Value) (xs : List α) : Prop := ∃ F, (∀ b, F b → B ≤ b ∧ b < w.heap.size) ∧ Own w B e F v xs
variable {B : Nat} {e : TypeId} {w w' : World} {v : Value} {xs : List α}
theorem Grow.nil : Grow B e w (.slice none 0 0) ([] : List α) := ⟨Non, fun _ h => h.elim, Own.nil⟩
theorem Grow.ext (h : Grow B e w v xs) (hE : Ext w w') : Grow B e w' v xs := by
  obtain ⟨F, h1, h2⟩ := h
  exact ⟨F, fun b hb => ⟨(h1 b hb).1, Nat.lt_of_lt_of_le (h1 b hb).2 hE.size⟩, h2.ext hE fun b hb => (h1 b hb).2⟩
theorem Grow.kept {r : Nat} (h : Grow B e w v xs) (hg : w.grownBy w' (some r)) (hr : r < B) : Grow B e w' v xs := by
  obtain ⟨F, h1, h2⟩ := h
  refine ⟨F, fun b hb => ⟨(h1 b hb).1, Nat.lt_of_lt_of_le (h1 b hb).2 hg.size⟩, h2.kept hg (fun g hgo e => ?_) (fun b hb => ⟨(h1 b hb).2, fun e => ?_⟩)⟩
  · have := (h2.lt g hgo).1; cases e; omega
  · have := (h1 b hb).1; cases e; omega
theorem Grow.lt (h : Grow B e w v xs) : ∀ g, v.ownBlock = some g → B ≤ g ∧ g < w.heap.size := by
  obtain ⟨F, h1, h2⟩ := h
  exact fun g hg => ⟨(h2.lt g hg).1, (h2.lt g hg).2.1⟩
theorem Grow.sl (h : Grow B e w v xs) : ∃ ao cap, v = .slice ao xs.length cap ∧ Sl w (fun b => B ≤ b ∧ b < w.heap.size) ao cap xs := by
  obtain ⟨F, h1, h2⟩ := h
  exact h2.slF (fun b hb => h1 b hb) (fun g hg => ⟨(h2.lt g hg).1, (h2.lt g hg).2.1⟩)
/-- ready for one more, that meets Fu -/
theorem Grow.open (h : Grow B e w v xs) {Fu : Nat → Prop} (hFu : ∀ b, Fu b → B ≤ b ∧ b < w.heap.size) (hn : ∀ g, v.ownBlock = some g → ¬ Fu g) : ∃ F, (∀ b, F b → B ≤ b ∧ b < w.heap.size) ∧ Own w B e F v xs ∧ (∀ b, Fu b → F b) := by
  obtain ⟨F, h1, h2⟩ := h
  refine ⟨fun b => F b ∨ Fu b, fun b hb => hb.elim (h1 b) (hFu b), h2.wk (fun b hb => .inl hb) (fun g hg hb => ?_), fun b hb => .inr hb⟩
  exact hb.elim (h2.lt g hg).2.2 (hn g hg)
end

end Go.Proofs.YtikigaeihdmcaaaGreatDoor

/-
  Formulas all of whose blocks lie at B or behind.
-/
set_option linter.unusedVariables false
set_option linter.unusedSimpArgs false
namespace Go.Proofs.YtikigaeihdmcaaaGreatDoor
open Go.RowKit

abbrev GL (B : Nat) (w : World) (v : Value) (t : Ltl) : Prop := Rd w (fun b => B ≤ b ∧ b < w.heap.size) v t
theorem GL.ext {B : Nat} {w w' : World} {v : Value} {t : Ltl} (h : GL B w v t) (hE : Ext w w') : GL B w' v t := (Rd.up0 h hE (fun b hb => hb.2)).wk (fun b hb => ⟨hb.1, Nat.lt_of_lt_of_le hb.2 hE.size⟩)
theorem GL.st {B r : Nat} {w w' : World} {v : Value} {t : Ltl} (h : GL B w v t) (hg : w.grownBy w' (some r)) (hr : r < B) : GL B w' v t :=
  (Rd.kept h hg (fun b hb => ⟨hb.2, fun e => by have := Option.some.inj e; have := hb.1; omega⟩)).wk (fun b hb => ⟨hb.1, Nat.lt_of_lt_of_le hb.2 hg.size⟩)
theorem GL.low {B B' : Nat} {w : World} {v : Value} {t : Ltl} (h : GL B w v t) (hB : B' ≤ B) : GL B' w v t := Rd.wk h (fun b hb => ⟨Nat.le_trans hB hb.1, hb.2⟩)
theorem GL.plus {B : Nat} {w w' : World} (hB : B ≤ w.heap.size) (hE : Ext w w') : ∀ b, Plus (fun b => B ≤ b ∧ b < w.heap.size) w w' b → B ≤ b ∧ b < w'.heap.size := fun b hb => by
  have := hE.size
  rcases hb with hb | hb
  · exact ⟨hb.1, by omega⟩
  · exact ⟨by omega, hb.2⟩
theorem GL.old {B : Nat} {w : World} {v : Value} {t : Ltl} (h : GL B w v t) : Rd w (Old w) v t := Rd.wk h (fun b hb => hb.2)
end Go.Proofs.YtikigaeihdmcaaaGreatDoor

/-
  ctl.Parse, walked: one token taken, one word read.
-/
set_option linter.unusedVariables false
set_option linter.unusedSimpArgs false
namespace Go.Proofs.YtikigaeihdmcaaaGreatDoor
open Go.RowKit

/-- blocks from B on, but for those of X -/
def GXs (B : Nat) (X : List Nat) (w : World) : Nat → Prop := fun b => B ≤ b ∧ b < w.heap.size ∧ b ∉ X
abbrev GX (B : Nat) (X : List Nat) (w : World) (v : Value) (t : Ltl) : Prop := Rd w (GXs B X w) v t
theorem GX.ext {B : Nat} {X : List Nat} {w w' : World} {v : Value} {t : Ltl} (h : GX B X w v t) (hE : Ext w w') : GX B X w' v t :=
  (Rd.up0 h hE (fun b hb => hb.2.1)).wk (fun b hb => ⟨hb.1, Nat.lt_of_lt_of_le hb.2.1 hE.size, hb.2.2⟩)
theorem GX.st {B r : Nat} {X : List Nat} {w w' : World} {v : Value} {t : Ltl} (h : GX B X w v t) (hg : w.grownBy w' (some r)) (hr : r < B ∨ r ∈ X) : GX B X w' v t :=
  (Rd.kept h hg (fun b hb => ⟨hb.2.1, fun e => by have := Option.some.inj e; subst this; rcases hr with hr | hr; have := hb.1; omega; exact hb.2.2 hr⟩)).wk (fun b hb => ⟨hb.1, Nat.lt_of_lt_of_le hb.2.1 hg.size, hb.2.2⟩)
/-- a variable that came later -/
theorem GX.add {B r : Nat} {X : List Nat} {w w' : World} {v : Value} {t : Ltl} (h : GX B X w v t) (hE : Ext w w') (hr : w.heap.size ≤ r) : GX B (r :: X) w' v t :=
  (Rd.up0 h hE (fun b hb => hb.2.1)).wk (fun b hb => ⟨hb.1, Nat.lt_of_lt_of_le hb.2.1 hE.size, fun hm => by
    rcases List.mem_cons.1 hm with e | hm
    · have := hb.2.1; omega
    · exact hb.2.2 hm⟩)
theorem GX.of {B B' : Nat} {X : List Nat} {w : World} {v : Value} {t : Ltl} (h : GL B' w v t) (hB : B ≤ B') (hX : ∀ r ∈ X, r < B') : GX B X w v t :=
  Rd.wk h (fun b hb => ⟨Nat.le_trans hB hb.1, hb.2, fun hm => by have := hX b hm; have := hb.1; omega⟩)
theorem GX.gl {B : Nat} {X : List Nat} {w : World} {v : Value} {t : Ltl} (h : GX B X w v t) : GL B w v t := Rd.wk h (fun b hb => ⟨hb.1, hb.2.1⟩)
theorem GX.low {B B' : Nat} {X : List Nat} {w : World} {v : Value} {t : Ltl} (h : GX B X w v t) (hB : B' ≤ B) : GX B' X w v t := Rd.wk h (fun b hb => ⟨Nat.le_trans hB hb.1, hb.2⟩)
theorem GX.plus {B : Nat} {X : List Nat} {w w' : World} {v : Value} {t : Ltl} (h : Rd w' (PlusC (GXs B X w) w w') v t) (hE : Ext w w') (hB : B ≤ w.heap.size) (hX : ∀ r ∈ X, r < w.heap.size) : GX B X w' v t := Rd.wk h (fun b hb => by
  rcases hb with hb | hb
  · exact ⟨hb.1, Nat.lt_of_lt_of_le hb.2.1 hE.size, hb.2.2⟩
  · exact ⟨Nat.le_trans hB hb.1, hb.2, fun hm => by have := hX b hm; have := hb.1; omega⟩)
/-- a variable that holds a formula -/
def HF (T : TypeId) (w : World) (b B : Nat) (X : List Nat) (t : Ltl) : Prop := ∃ uo uc, Blk w b T [.int .i64 t.k, .int .i64 t.n, .slice uo t.kids.length uc] ∧ Sl w (GXs B X w) uo uc t.kids
theorem HF.lt {T : TypeId} {w : World} {b B : Nat} {X : List Nat} {t : Ltl} (h : HF T w b B X t) : b < w.heap.size := by
  obtain ⟨uo, uc, h1, h2⟩ := h
  exact h1.lt
theorem HF.gx {T : TypeId} {w : World} {b B : Nat} {X : List Nat} {t : Ltl} (h : HF T w b B X t) : ∃ uo uc, Blk w b T [.int .i64 t.k, .int .i64 t.n, .slice uo t.kids.length uc] ∧ GX B X w (ltlV t.k t.n uo t.kids.length uc) t := by
  obtain ⟨uo, uc, h1, h2⟩ := h
  cases t with
  | mk k n kids => exact ⟨uo, uc, h1, Rd.mkLtl h2⟩
theorem HF.of {T : TypeId} {w : World} {b B : Nat} {X : List Nat} {t : Ltl} {uo : Option Addr} {uc : Nat} (h : Blk w b T [.int .i64 t.k, .int .i64 t.n, .slice uo t.kids.length uc]) (hv : GX B X w (ltlV t.k t.n uo t.kids.length uc) t) : HF T w b B X t := by
  obtain ⟨ao, cap, e, hs⟩ := Rd.ltl hv
  have := congrArg (fun v => match v with | .agg a => a.toList | _ => []) e
  simp only [List.cons.injEq, Value.slice.injEq, true_and, and_true] at this
  obtain ⟨rfl, rfl⟩ := this
  exact ⟨_, _, h, hs⟩
theorem HF.ext {T : TypeId} {w w' : World} {b B : Nat} {X : List Nat} {t : Ltl} (h : HF T w b B X t) (hE : Ext w w') : HF T w' b B X t := by
  obtain ⟨uo, uc, h1, h2⟩ := h.gx
  exact HF.of (h1.ext hE) (h2.ext hE)
theorem HF.st {T : TypeId} {w w' : World} {b B r : Nat} {X : List Nat} {t : Ltl} (h : HF T w b B X t) (hg : w.grownBy w' (some r)) (hr : r < B ∨ r ∈ X) (hb : r ≠ b) : HF T w' b B X t := by
  obtain ⟨uo, uc, h1, h2⟩ := h.gx
  exact HF.of (h1.kept hg (fun e => hb (Option.some.inj e).symm)) (h2.st hg hr)
theorem HF.add {T : TypeId} {w w' : World} {b B r : Nat} {X : List Nat} {t : Ltl} (h : HF T w b B X t) (hE : Ext w w') (hr : w.heap.size ≤ r) : HF T w' b B (r :: X) t := by
  obtain ⟨uo, uc, h1, h2⟩ := h.gx
  exact HF.of (h1.ext hE) (h2.add hE hr)
/-- a fault -/
def FlV (w : World) (B : Nat) (c : Int) (a : Nat) (v : Value) : Prop := ∃ fb, v = .iface 131 (.pointer (some ⟨fb, 0, none⟩)) ∧ B ≤ fb ∧ Blk w fb 135 [.int .i64 c, .int .i64 (a : Int), .nilIface]
theorem FlV.ext {w w' : World} {B : Nat} {c : Int} {a : Nat} {v : Value} (h : FlV w B c a v) (hE : Ext w w') : FlV w' B c a v := by
  obtain ⟨fb, e, h1, h2⟩ := h
  exact ⟨fb, e, h1, h2.ext hE⟩
theorem FlV.low {w : World} {B B' : Nat} {c : Int} {a : Nat} {v : Value} (h : FlV w B c a v) (hB : B' ≤ B) : FlV w B' c a v := by
  obtain ⟨fb, e, h1, h2⟩ := h
  exact ⟨fb, e, Nat.le_trans hB h1, h2⟩
/-- a store into a variable that was there before the fault, or came behind it -/
theorem FlV.st {w w' : World} {B r : Nat} {c : Int} {a : Nat} {v : Value} (h : FlV w B c a v) (hg : w.grownBy w' (some r)) (hr : r < B) : FlV w' B c a v := by
  obtain ⟨fb, e, h1, h2⟩ := h
  exact ⟨fb, e, h1, h2.kept hg (fun e => by have := Option.some.inj e; omega)⟩
theorem FlV.stT {w w' : World} {B r : Nat} {T : TypeId} {cells : List Value} {c : Int} {a : Nat} {v : Value} (h : FlV w B c a v) (hg : w.grownBy w' (some r)) (hb : Blk w r T cells) (hT : T ≠ 135) : FlV w' B c a v := by
  obtain ⟨fb, e, h1, h2⟩ := h
  refine ⟨fb, e, h1, h2.kept hg (fun e => ?_)⟩
  have := Option.some.inj e
  subst this
  have h3 : w.heap[fb]? = w.heap[fb]? := rfl
  unfold Blk at hb h2
  rw [h2] at hb
  have := Option.some.inj hb
  simp at this
  exact hT this.2.symm
theorem FlV.err {w : World} {B : Nat} {c : Int} {a : Nat} {v : Value} (h : FlV w B c a v) : errI v = true ∧ nilI v = false := by
  obtain ⟨fb, rfl, _⟩ := h
  exact ⟨rfl, rfl⟩
/-- an error, or none, of a reading -/
def ErP (w : World) (B : Nat) (r : PR) (e : Value) (t : Ltl) (st : Bys × Bys) : Prop := (e = .nilIface ∧ r = .ok t st) ∨ ∃ c a, r = .er c a ∧ FlV w B c a e
theorem ErP.ext {w w' : World} {B : Nat} {r : PR} {e : Value} {t : Ltl} {st : Bys × Bys} (h : ErP w B r e t st) (hE : Ext w w') : ErP w' B r e t st := by
  rcases h with h | ⟨c, a, h1, h2⟩
  · exact .inl h
  · exact .inr ⟨c, a, h1, h2.ext hE⟩
theorem ErP.low {w : World} {B B' : Nat} {r : PR} {e : Value} {t : Ltl} {st : Bys × Bys} (h : ErP w B r e t st) (hB : B' ≤ B) : ErP w B' r e t st := by
  rcases h with h | ⟨c, a, h1, h2⟩
  · exact .inl h
  · exact .inr ⟨c, a, h1, h2.low hB⟩
theorem ErP.stT {w w' : World} {B b : Nat} {r : PR} {T : TypeId} {cells : List Value} {e : Value} {t : Ltl} {st : Bys × Bys} (h : ErP w B r e t st) (hg : w.grownBy w' (some b)) (hb : Blk w b T cells) (hT : T ≠ 135) : ErP w' B r e t st := by
  rcases h with h | ⟨c, a, h1, h2⟩
  · exact .inl h
  · exact .inr ⟨c, a, h1, h2.stT hg hb hT⟩
theorem ErP.err {w : World} {B : Nat} {r : PR} {e : Value} {t : Ltl} {st : Bys × Bys} (h : ErP w B r e t st) : errI e = true := by
  rcases h with ⟨rfl, _⟩ | ⟨c, a, h1, h2⟩
  · rfl
  · exact h2.err.1
/-- what a reading told -/
def PRs (T : TypeId) (rb : Nat) (s : Bys) (no : Option Addr) (nc : Nat) (nms : List ByteArray) (o B : Nat) (r : PR) (v : Value) (w : World) : Prop :=
  ∃ x e t st', v = .tuple ⟨[x, e]⟩ ∧ GL B w x t ∧ Rdr T w rb s no nc nms o st' ∧ ErP w B r e t st'
theorem ctake_ok (w0 : World) {rb : Nat} {s : Bys} {no : Option Addr} {nc : Nat} {nms : List ByteArray} {o : Nat} {st : Bys × Bys} (hr : Rdr 139 w0 rb s no nc nms o st) (hs : s.length ≤ 300) (x : Bys) :
    Rt Tryz.prog 109 [.pointer (some ⟨rb, 0, none⟩), tV x].toArray w0 fun v w' => v = .bool (decide (st.1 = x)) ∧ Rdr 139 w' rb s no nc nms o (if st.1 = x then nxT st.2 else st) ∧ w0.grownBy w' (some rb) := by
  have hb := hr.blk
  refine Rt.enter2 Tryz.func109 Tryz.ntmps109 rfl rfl ?_
  (repeat (first | (apply WL.pure; rfl; rfl; rfl) | (apply WL.nil) | (apply EX.thenN) | (apply CW.seq) | (apply CW.region) | (apply WL.fa; rfl; rfl; rfl) | (apply WL.nck; rfl; rfl; rfl) | (apply WL.ld; rfl; rfl; rfl; assumption; rfl)))
  have he : ((txA st.1).data.toList == (txA x).data.toList) = decide (st.1 = x) := by rw [txA_list, txA_list]; rw [Bool.eq_iff_iff]; simp
  rw [he]
  by_cases h : st.1 = x
  · rw [if_pos h, show decide (st.1 = x) = true from decide_eq_true h]
    (repeat (first | (apply WL.pure; rfl; rfl; rfl) | (apply EX.thenN) | (apply CW.seq) | (apply CW.region) | (apply CW.condF; rfl) | (apply CW.skip)))
    refine WL.call rfl rfl rfl (cnext_ok w0 hr hs) ?_
    rintro v w1 ⟨h1, h2⟩
    (repeat (first | (apply WL.pure; rfl; rfl; rfl) | (apply WL.nil) | (apply EX.thenN) | (apply CW.seq) | (apply CW.region) | (apply CW.ret)))
    exact EX.ret1 rfl rfl ⟨rfl, h1, h2⟩
  · rw [if_neg h, show decide (st.1 = x) = false from decide_eq_false h]
    (repeat (first | (apply WL.pure; rfl; rfl; rfl) | (apply WL.nil) | (apply EX.thenN) | (apply CW.seq) | (apply CW.region) | (apply CW.condT; rfl) | (apply CW.ret) | (apply EX.thenR)))
    exact EX.ret1 rfl rfl ⟨rfl, hr, (Ext.refl w0).grw _⟩
theorem cone_ok (w : World) {F : Nat → Prop} (hF : ∀ b, F b → b < w.heap.size) (k : Int) {v : Value} {t : Ltl} (h : Rd w F v t) : Rt Tryz.prog 111 [.int .i64 k, v].toArray w fun v w' => Rd w' (PlusC F w w') v (.mk k 0 [t] : Ltl) ∧ Ext w w' := by
  obtain ⟨ao, cap, rfl, hk⟩ := Rd.ltl h
  refine Rt.enter2 Tryz.func111 Tryz.ntmps111 rfl rfl ?_
  (repeat (first | (apply CW.seq) | (apply CW.region)))
  refine WL.boxB rfl rfl rfl fun w1 hb hE1 => ?_
  refine WL.alloc rfl rfl (fun w2 hr hE2 => ?_)
  have hb2 := hb.ext hE2
  have hE12 := hE1.trans hE2
  (repeat (first | (apply WL.pure; rfl; rfl; rfl) | (apply WL.nil) | (apply EX.thenN) | (apply CW.seq) | (apply CW.region) | (apply WL.ldA; rfl; rfl; rfl; assumption; rfl)))
  have hl : Rd w2 F (ltlV t.k t.n ao t.kids.length cap) t := Rd.mono h (fun b hb => hE12.block b (hF b hb)) (fun _ h => h)
  have hw2 : w.heap.size ≤ w2.heap.size := hE12.size
  have hlt := hr.lt
  have hw1 : w.heap.size ≤ w1.heap.size := hE1.size
  refine WL.lit (F := F) (ys := [t]) rfl rfl rfl rfl rfl (.cons hl .nil) (by show 1 * 3 ≤ 16777216; decide) (fun b hb => Nat.lt_of_lt_of_le (hF b hb) hw2) (fun w3 ho hg3 => ?_)
  have hE23 : Ext w2 w3 := (Ext.refl w2).grown hg3 (Nat.le_refl _) (fun k h => by cases h)
  have hr3 := hr.ext hE23
  have hE13 := hE12.trans hE23
  refine WL.build rfl rfl rfl rfl ?_
  refine WL.st rfl rfl rfl hr3 rfl rfl (ones_of rfl) (fun w4 hr4 hgr => ?_)
  have hE4 : Ext w w4 := hE13.grown hgr hE13.size (fun g hg => by cases hg; exact hE1.size)
  have ho4 := ho.kept hgr (fun g hg => by have := (ho.lt g hg).1; simp; omega) (fun b hb => ⟨Nat.lt_of_lt_of_le (hF b hb) hE13.size, by have : b < w.heap.size := hF b hb; simp; omega⟩)
  obtain ⟨uo, uc, he, hu⟩ := (ho4.rd.mono (F' := PlusC F w w4) (fun _ _ => rfl) (fun b hb => hb.elim .inl fun hv => .inr ⟨Nat.le_trans hE12.size (ho4.lt b hv).1, (ho4.lt b hv).2.1⟩)).sl
  obtain ⟨rfl, _, rfl⟩ := Value.slice.inj he
  (repeat (first | (apply WL.nil) | (apply EX.thenN) | (apply CW.ret)))
  exact EX.retC rfl rfl hr4 rfl ⟨Rd.mkLtl (kids := [t]) hu, hE4⟩
theorem ctwo_ok (w : World) {F : Nat → Prop} (hF : ∀ b, F b → b < w.heap.size) (k : Int) {v v' : Value} {t t' : Ltl} (h : Rd w F v t) (h' : Rd w F v' t') : Rt Tryz.prog 110 [.int .i64 k, v, v'].toArray w fun v w' => Rd w' (PlusC F w w') v (.mk k 0 [t, t'] : Ltl) ∧ Ext w w' := by
  obtain ⟨ao, cap, rfl, hk⟩ := Rd.ltl h
  obtain ⟨ao', cap', rfl, hk'⟩ := Rd.ltl h'
  refine Rt.enter3 Tryz.func110 Tryz.ntmps110 rfl rfl ?_
  (repeat (first | (apply CW.seq) | (apply CW.region)))
  refine WL.boxB rfl rfl rfl fun w0 hb0 hE0 => ?_
  refine WL.boxB rfl rfl rfl fun w1 hb hE1 => ?_
  have hb0 := hb0.ext hE1
  have hE1 := hE0.trans hE1
  refine WL.alloc rfl rfl (fun w2 hr hE2 => ?_)
  have hb0 := hb0.ext hE2
  have hb2 := hb.ext hE2
  have hE12 := hE1.trans hE2
  (repeat (first | (apply WL.pure; rfl; rfl; rfl) | (apply WL.nil) | (apply EX.thenN) | (apply CW.seq) | (apply CW.region) | (apply WL.ldA; rfl; rfl; rfl; assumption; rfl)))
  have hl : Rd w2 F (ltlV t.k t.n ao t.kids.length cap) t := Rd.mono h (fun b hb => hE12.block b (hF b hb)) (fun _ h => h)
  have hl' : Rd w2 F (ltlV t'.k t'.n ao' t'.kids.length cap') t' := Rd.mono h' (fun b hb => hE12.block b (hF b hb)) (fun _ h => h)
  have hw2 : w.heap.size ≤ w2.heap.size := hE12.size
  have hlt := hr.lt
  have hw1 : w.heap.size ≤ w1.heap.size := hE1.size
  refine WL.lit (F := F) (ys := [t, t']) rfl rfl rfl rfl rfl (.cons hl (.cons hl' .nil)) (by show 2 * 3 ≤ 16777216; decide) (fun b hb => Nat.lt_of_lt_of_le (hF b hb) hw2) (fun w3 ho hg3 => ?_)
  have hE23 : Ext w2 w3 := (Ext.refl w2).grown hg3 (Nat.le_refl _) (fun k h => by cases h)
  have hr3 := hr.ext hE23
  have hE13 := hE12.trans hE23
  refine WL.build rfl rfl rfl rfl ?_
  refine WL.st rfl rfl rfl hr3 rfl rfl (ones_of rfl) (fun w4 hr4 hgr => ?_)
  have hE4 : Ext w w4 := hE13.grown hgr hE13.size (fun g hg => by cases hg; exact hE1.size)
  have ho4 := ho.kept hgr (fun g hg => by have := (ho.lt g hg).1; simp; omega) (fun b hb => ⟨Nat.lt_of_lt_of_le (hF b hb) hE13.size, by have : b < w.heap.size := hF b hb; simp; omega⟩)
  obtain ⟨uo, uc, he, hu⟩ := (ho4.rd.mono (F' := PlusC F w w4) (fun _ _ => rfl) (fun b hb => hb.elim .inl fun hv => .inr ⟨Nat.le_trans hE12.size (ho4.lt b hv).1, (ho4.lt b hv).2.1⟩)).sl
  obtain ⟨rfl, _, rfl⟩ := Value.slice.inj he
  (repeat (first | (apply WL.nil) | (apply EX.thenN) | (apply CW.ret)))
  exact EX.retC rfl rfl hr4 rfl ⟨Rd.mkLtl (kids := [t, t']) hu, hE4⟩
end Go.Proofs.YtikigaeihdmcaaaGreatDoor

/-
  ltl.Parse, walked: the next token.
-/
set_option linter.unusedVariables false
set_option linter.unusedSimpArgs false
namespace Go.Proofs.YtikigaeihdmcaaaGreatDoor
open Go.RowKit

instance iLRd1 : IsFd Tryz.prog 125 0 0 := IsFd.of (by kernel_rfl)
instance iLRd2 : IsFd Tryz.prog 125 1 1 := IsFd.of (by kernel_rfl)
instance iLRd3 : IsFd Tryz.prog 125 2 2 := IsFd.of (by kernel_rfl)
instance iLRd4 : IsFd Tryz.prog 125 3 3 := IsFd.of (by kernel_rfl)
instance iLRd5 : IsFd Tryz.prog 125 4 4 := IsFd.of (by kernel_rfl)
instance iLRd6 : IsFd Tryz.prog 125 5 5 := IsFd.of (by kernel_rfl)
instance iLRd9 : IsBd Tryz.prog 125 [(0, 1), (1, 1), (2, 1), (3, 1), (4, 1), (5, 1)] := IsBd.of (by kernel_rfl)
instance iLRd10 : IsZC Tryz.prog 125 [tV [], .slice none 0 0, tV [], .int .i64 0, .int .i64 0, .int .i64 0] := IsZC.of (z := .agg #[tV [], .slice none 0 0, tV [], .int .i64 0, .int .i64 0, .int .i64 0]) (by kernel_rfl) rfl
theorem lletter_ok (w0 : World) (c : UInt8) : Rt Tryz.prog 92 [.int .u8 (c.toNat : Int)].toArray w0 fun v w' => v = .bool (lowB c) ∧ Ext w0 w' := by
  refine Rt.enter1 Tryz.func92 Tryz.ntmps92 rfl rfl ?_
  unfold lowB
  (repeat (first | (apply WL.pure; rfl; rfl; rfl) | (apply WL.nil) | (apply EX.thenN) | (apply CW.seq) | (apply CW.region)))
  (refine WL.lookG rfl rfl (fun h => ?_) (fun h => ?_))
  · (repeat (first | (apply WL.pure; rfl; rfl; rfl) | (apply WL.nil) | (apply EX.thenN) | (apply CW.ret)))
    refine EX.ret1 rfl rfl ⟨?_, Ext.refl _⟩
    congr 1
    rw [Bool.eq_iff_iff]
    simp at h ⊢
    omega
  · (repeat (first | (apply WL.pure; rfl; rfl; rfl) | (apply WL.nil) | (apply EX.thenN) | (apply WL.pass; rfl; rfl) | (apply CW.ret)))
    refine EX.ret1 rfl rfl ⟨?_, Ext.refl _⟩
    congr 1
    rw [Bool.eq_iff_iff]
    simp at h ⊢
    omega
theorem lnext_ok (w0 : World) {rb : Nat} {s : Bys} {no : Option Addr} {nc : Nat} {nms : List ByteArray} {o : Nat} {st : Bys × Bys} (hr : Rdr 125 w0 rb s no nc nms o st) (hs : s.length ≤ 300) :
    Rt Tryz.prog 79 [.pointer (some ⟨rb, 0, none⟩)].toArray w0 fun v w' => Rdr 125 w' rb s no nc nms o (nxT st.2) ∧ w0.grownBy w' (some rb) := by
  obtain ⟨hb, hnm, hdr, hln⟩ := hr
  have hbl := hb.lt
  generalize hE : s.length - st.2.length = E at *
  have hEl : E ≤ s.length := by omega
  refine Rt.enter1 Tryz.func79 Tryz.ntmps79 rfl rfl ?_
  apply CW.seq
  apply CW.region
  (repeat (first | (apply WL.pure; rfl; rfl; rfl) | (apply WL.fa; rfl; rfl; rfl) | (apply WL.nck; rfl; rfl; rfl) | (apply WL.ld; rfl; rfl; rfl; assumption; rfl)))
  apply WL.nil
  apply EX.thenN
  refine CW.cutI (S := Nat) (fun i => [(0, .pointer (some ⟨rb, 0, none⟩)), (2, .int .i64 (i : Int))])
    (fun i w => w = w0 ∧ E ≤ i ∧ i ≤ s.length ∧ (∀ k (hk : k < s.length), E ≤ k → k < i → (s[k] == 32) = true) ∧ (∀ hk : i < s.length, (s[i] == 32) = false)) ?_ ?_
  · apply CW.block
    refine CW.loop (S := Nat) (fun i => [(0, .pointer (some ⟨rb, 0, none⟩)), (2, .int .i64 (i : Int))])
      (fun i w => w = w0 ∧ E ≤ i ∧ i ≤ s.length ∧ (∀ k (hk : k < s.length), E ≤ k → k < i → (s[k] == 32) = true)) (fun i => s.length - i) E (by repeat (first | exact trivial | refine ⟨rfl, ?_⟩)) ⟨rfl, Nat.le_refl _, hEl, fun k _ h1 h2 => by omega⟩ ?_
    rintro i w ⟨hw, h1, h2, h3⟩
    subst hw
    (repeat (first | (apply WL.pure; rfl; rfl; rfl) | (apply CW.seq) | (apply CW.region) | (apply WL.fa; rfl; rfl; rfl) | (apply WL.nck; rfl; rfl; rfl) | (apply WL.ld; rfl; rfl; rfl; assumption; rfl)))
    refine WL.lenB rfl rfl rfl ?_
    (repeat (apply WL.pure; rfl; rfl; rfl))
    (refine WL.lookG rfl rfl (fun h => ?_) (fun h => ?_))
    · have hi : i < s.length := by simpa using h
      (repeat (first | (apply WL.pure; rfl; rfl; rfl) | (apply WL.fa; rfl; rfl; rfl) | (apply WL.nck; rfl; rfl; rfl) | (apply WL.ld; rfl; rfl; rfl; assumption; rfl)))
      refine WL.byteL rfl rfl rfl rfl hi ?_
      (repeat (first | (apply WL.pure; rfl; rfl; rfl) | (apply WL.nil) | (apply EX.thenN)))
      rw [by32]
      refine CW.cond rfl (fun hc' => ?_) (fun hc' => ?_)
      · (repeat (first | (apply WL.add; rfl; rfl; rfl; rfl; omega; omega) | (apply WL.pure; rfl; rfl; rfl) | (apply WL.nil) | (apply EX.thenN) | (apply CW.region) | (apply CW.block) | (apply EX.inN) | (apply CW.skip)))
        refine EX.back (i + 1) (by repeat (first | exact trivial | refine ⟨rfl, ?_⟩)) ⟨rfl, by omega, by omega, fun k hk a b => ?_⟩ (by omega)
        by_cases e : k = i
        · subst e; exact hc'
        · exact h3 k hk a (by omega)
      · (repeat (first | (apply CW.exit) | (apply EX.thenX) | (apply EX.inX)))
        exact EX.cutI i (by repeat (first | exact trivial | refine ⟨rfl, ?_⟩)) ⟨rfl, h1, h2, h3, fun _ => hc'⟩
    · have hi : ¬ i < s.length := by simpa using h
      (repeat (first | (apply WL.pure; rfl; rfl; rfl) | (apply WL.nil) | (apply EX.thenN) | (apply WL.pass; rfl; rfl) | (apply CW.condF; rfl) | (apply CW.exit) | (apply EX.thenX) | (apply EX.inX)))
      exact EX.cutI i (by repeat (first | exact trivial | refine ⟨rfl, ?_⟩)) ⟨rfl, h1, h2, h3, fun hk => absurd hk hi⟩
  rintro i w ⟨hw, hi1, hi2, hi3, hi4⟩
  subst hw
  apply CW.seq
  apply CW.region
  (repeat (first | (apply WL.pure; rfl; rfl; rfl) | (apply WL.fa; rfl; rfl; rfl) | (apply WL.nck; rfl; rfl; rfl)))
  refine WL.st rfl rfl rfl hb rfl rfl (ones_of rfl) (fun w1 hb1 hg1 => ?_)
  clear hb
  (repeat (first | (apply WL.fa; rfl; rfl; rfl) | (apply WL.nck; rfl; rfl; rfl)))
  refine WL.st rfl rfl rfl hb1 rfl rfl (ones_of rfl) (fun w2 hb2 hg2 => ?_)
  clear hb1
  have hG2 := grown_tr hg1 hg2
  clear hg1 hg2
  apply WL.nil
  apply EX.thenN
  refine CW.cutI (S := Nat) (fun _ => [(0, .pointer (some ⟨rb, 0, none⟩)), (2, .int .i64 (i : Int))])
    (fun j x => w.grownBy x (some rb) ∧ Blk x rb 125 [tV s, .slice no nms.length nc, tV st.1, .int .i64 (i : Int), .int .i64 (j : Int), .int .i64 (o : Int)] ∧ i ≤ j ∧ j ≤ s.length ∧ (∀ k (hk : k < s.length), i ≤ k → k < j → lowB s[k] = true) ∧ (∀ hk : j < s.length, lowB s[j] = false)) ?_ ?_
  · apply CW.block
    refine CW.loop (S := Nat) (fun _ => [(0, .pointer (some ⟨rb, 0, none⟩)), (2, .int .i64 (i : Int))])
      (fun j x => w.grownBy x (some rb) ∧ Blk x rb 125 [tV s, .slice no nms.length nc, tV st.1, .int .i64 (i : Int), .int .i64 (j : Int), .int .i64 (o : Int)] ∧ i ≤ j ∧ j ≤ s.length ∧ (∀ k (hk : k < s.length), i ≤ k → k < j → lowB s[k] = true)) (fun j => s.length - j) i (by repeat (first | exact trivial | refine ⟨rfl, ?_⟩)) ⟨hG2, hb2, Nat.le_refl _, hi2, fun k _ h1 h2 => by omega⟩ ?_
    clear hb2 hG2
    rintro j x ⟨hg, hb, h1, h2, h3⟩
    (repeat (first | (apply QL.pure; rfl; rfl; rfl) | (apply CW.seq) | (apply QL.fa; rfl; rfl; rfl) | (apply QL.nck; rfl; rfl; rfl) | (apply QL.ld; rfl; rfl; rfl; assumption; rfl) | (apply CW.draw; exact mixed; kernel_rfl)))
    refine QL.lenB rfl rfl rfl ?_
    (repeat (apply QL.pure; rfl; rfl; rfl))
    (refine QL.lookG rfl rfl (fun h => ?_) (fun h => ?_))
    · have hj : j < s.length := by simpa using h
      (repeat (first | (apply QL.pure; rfl; rfl; rfl) | (apply QL.fa; rfl; rfl; rfl) | (apply QL.nck; rfl; rfl; rfl) | (apply QL.ld; rfl; rfl; rfl; assumption; rfl)))
      refine QL.byteL rfl rfl rfl rfl hj ?_
      skip
      refine QL.call rfl rfl rfl (fun w' _ => lletter_ok w' s[j]) ?_
      (repeat (apply QL.pure; rfl; rfl; rfl))
      refine QL.nil (fun x2 e2 => ?_)
      have hb2 := hb.ext e2
      have hG := grown_tr hg (e2.grw _)
      (repeat (apply EX.thenN))
      refine CW.cond rfl (fun hc => ?_) (fun hc => ?_)
      · (repeat (first | (apply WL.add; rfl; rfl; rfl; rfl; omega; omega) | (apply WL.pure; rfl; rfl; rfl) | (apply EX.thenN) | (apply CW.region) | (apply WL.fa; rfl; rfl; rfl) | (apply WL.nck; rfl; rfl; rfl) | (apply WL.ld; rfl; rfl; rfl; assumption; rfl) | (apply CW.block) | (apply CW.skip)))
        refine WL.st rfl rfl rfl hb2 rfl rfl (ones_of rfl) (fun x3 hb3 hg3 => ?_)
        (repeat (first | (apply WL.nil) | (apply EX.inN)))
        refine EX.back (j + 1) (by repeat (first | exact trivial | refine ⟨rfl, ?_⟩)) ⟨grown_tr hG hg3, hb3, by omega, by omega, fun k hk a b => ?_⟩ (by omega)
        by_cases e : k = j
        · subst e; exact hc
        · exact h3 k hk a (by omega)
      · (repeat (first | (apply CW.exit) | (apply EX.thenX) | (apply EX.inX)))
        exact EX.cutI j (by repeat (first | exact trivial | refine ⟨rfl, ?_⟩)) ⟨hG, hb2, h1, h2, h3, fun _ => hc⟩
    · have hj : ¬ j < s.length := by simpa using h
      (repeat (first | (apply QL.pure; rfl; rfl; rfl) | (apply QL.pass; rfl; rfl)))
      refine QL.nil (fun x2 e2 => ?_)
      have hb2 := hb.ext e2
      have hG := grown_tr hg (e2.grw _)
      (repeat (first | (apply EX.thenN) | (apply CW.condF; rfl) | (apply CW.exit) | (apply EX.thenX) | (apply EX.inX)))
      exact EX.cutI j (by repeat (first | exact trivial | refine ⟨rfl, ?_⟩)) ⟨hG, hb2, h1, h2, h3, fun hk => absurd hk hj⟩
  clear hb2 hG2
  rintro j x ⟨hg, hb, hj1, hj2, hj3, hj4⟩
  obtain ⟨hN1, hN2, hN3⟩ := nx_done (s := s) hi1 hj1 hj2 hi3 hi4 hj3 hj4
  rw [hdr] at hN1 hN2 hN3
  refine CW.cutI (S := Nat) (fun _ => [(0, .pointer (some ⟨rb, 0, none⟩)), (2, .int .i64 (i : Int))])
    (fun m y => w.grownBy y (some rb) ∧ Blk y rb 125 [tV s, .slice no nms.length nc, tV st.1, .int .i64 (i : Int), .int .i64 (m : Int), .int .i64 (o : Int)] ∧ i ≤ m ∧ m ≤ s.length ∧ nxT st.2 = ((s.take m).drop i, s.drop m)) ?_ ?_
  · apply CW.block
    (repeat (first | (apply WL.pure; rfl; rfl; rfl) | (apply CW.seq) | (apply CW.region) | (apply WL.fa; rfl; rfl; rfl) | (apply WL.nck; rfl; rfl; rfl) | (apply WL.ld; rfl; rfl; rfl; assumption; rfl)))
    (refine WL.lookG rfl rfl (fun h => ?_) (fun h => ?_))
    · have hij : i < j := by simpa using h
      (repeat (first | (apply WL.pure; rfl; rfl; rfl) | (apply WL.nil) | (apply EX.thenN) | (apply WL.pass; rfl; rfl) | (apply EX.inN) | (apply CW.condT; rfl) | (apply CW.skip)))
      exact EX.cutI j (by repeat (first | exact trivial | refine ⟨rfl, ?_⟩)) ⟨hg, hb, hj1, hj2, hN1 (.inl hij)⟩
    have hij : i = j := by have : ¬ i < j := by simpa using h
                           omega
    subst hij
    clear h
    (repeat (first | (apply WL.pure; rfl; rfl; rfl) | (apply WL.fa; rfl; rfl; rfl) | (apply WL.nck; rfl; rfl; rfl) | (apply WL.ld; rfl; rfl; rfl; assumption; rfl)))
    refine WL.lenB rfl rfl rfl ?_
    (repeat (first | (apply WL.pure; rfl; rfl; rfl) | (apply WL.nil) | (apply EX.thenN)))
    refine CW.cond rfl (fun h => ?_) (fun h => ?_)
    · have hil : i = s.length := by have : (i : Int) = (s.length : Int) := by simpa using h
                                    omega
      (repeat (first | (apply EX.inN) | (apply CW.skip)))
      exact EX.cutI i (by repeat (first | exact trivial | refine ⟨rfl, ?_⟩)) ⟨hg, hb, hj1, hj2, hN1 (.inr hil)⟩
    have hil : i < s.length := by have : ¬ (i : Int) = (s.length : Int) := by simpa using h
                                  omega
    (repeat (first | (apply WL.pure; rfl; rfl; rfl) | (apply CW.seq) | (apply CW.region) | (apply WL.fa; rfl; rfl; rfl) | (apply WL.nck; rfl; rfl; rfl) | (apply WL.ld; rfl; rfl; rfl; assumption; rfl)))
    refine WL.byteL rfl rfl rfl rfl hil ?_
    (repeat (apply WL.pure; rfl; rfl; rfl))
    rw [by45]
    (refine WL.lookG rfl rfl (fun h => ?_) (fun h => ?_))
    · have h45 : s[i] = 45 := by simpa using h
      (repeat (first | (apply WL.add; rfl; rfl; rfl; rfl; omega; omega) | (apply WL.pure; rfl; rfl; rfl) | (apply WL.fa; rfl; rfl; rfl) | (apply WL.nck; rfl; rfl; rfl) | (apply WL.ld; rfl; rfl; rfl; assumption; rfl)))
      refine WL.lenB rfl rfl rfl ?_
      (repeat (apply WL.pure; rfl; rfl; rfl))
      by_cases hi1 : i + 1 < s.length
      · rw [show decide ((i : Int) + 1 < (s.length : Int)) = true by simp; omega]
        (repeat (first | (apply WL.add; rfl; rfl; rfl; rfl; omega; omega) | (apply WL.pure; rfl; rfl; rfl) | (apply WL.fa; rfl; rfl; rfl) | (apply WL.nck; rfl; rfl; rfl) | (apply WL.ld; rfl; rfl; rfl; assumption; rfl)))
        refine WL.byteL (i := i + 1) rfl rfl rfl rfl hi1 ?_
        (repeat (first | (apply WL.pure; rfl; rfl; rfl) | (apply WL.nil) | (apply EX.thenN)))
        rw [by62]
        refine CW.cond rfl (fun h => ?_) (fun h => ?_)
        · have h62 : s[i + 1] = 62 := by simpa using h
          (repeat (first | (apply WL.add; rfl; rfl; rfl; rfl; omega; omega) | (apply WL.pure; rfl; rfl; rfl) | (apply CW.region) | (apply WL.fa; rfl; rfl; rfl) | (apply WL.nck; rfl; rfl; rfl)))
          refine WL.st rfl rfl rfl hb rfl rfl (ones_of rfl) (fun y hb2 hg2 => ?_)
          (repeat (first | (apply WL.nil) | (apply EX.inN)))
          exact EX.cutI (i + 2) (by repeat (first | exact trivial | refine ⟨rfl, ?_⟩)) ⟨grown_tr hg hg2, hb2, by omega, by omega, hN2 rfl hil (by rw [List.getElem?_eq_getElem hil, h45]) (by rw [List.getElem?_eq_getElem hi1, h62])⟩
        · have h62 : ¬ s[i + 1] = 62 := by simpa using h
          (repeat (first | (apply WL.add; rfl; rfl; rfl; rfl; omega; omega) | (apply WL.pure; rfl; rfl; rfl) | (apply CW.region) | (apply WL.fa; rfl; rfl; rfl) | (apply WL.nck; rfl; rfl; rfl)))
          refine WL.st rfl rfl rfl hb rfl rfl (ones_of rfl) (fun y hb2 hg2 => ?_)
          (repeat (first | (apply WL.nil) | (apply EX.inN)))
          exact EX.cutI (i + 1) (by repeat (first | exact trivial | refine ⟨rfl, ?_⟩)) ⟨grown_tr hg hg2, hb2, by omega, by omega, hN3 rfl hil (fun e => by rw [List.getElem?_eq_getElem hi1] at e; exact h62 (Option.some.inj e.2))⟩
      · rw [show decide ((i : Int) + 1 < (s.length : Int)) = false by simp; omega]
        (repeat (first | (apply WL.add; rfl; rfl; rfl; rfl; omega; omega) | (apply WL.pure; rfl; rfl; rfl) | (apply WL.nil) | (apply EX.thenN) | (apply CW.region) | (apply WL.pass; rfl; rfl) | (apply WL.fa; rfl; rfl; rfl) | (apply WL.nck; rfl; rfl; rfl) | (apply CW.condF; rfl)))
        refine WL.st rfl rfl rfl hb rfl rfl (ones_of rfl) (fun y hb2 hg2 => ?_)
        (repeat (first | (apply WL.nil) | (apply EX.inN)))
        exact EX.cutI (i + 1) (by repeat (first | exact trivial | refine ⟨rfl, ?_⟩)) ⟨grown_tr hg hg2, hb2, by omega, by omega, hN3 rfl hil (fun e => by obtain ⟨h, _⟩ := List.getElem?_eq_some_iff.1 e.2; exact hi1 h)⟩
    · have h45 : ¬ s[i] = 45 := by simpa using h
      (repeat (first | (apply WL.add; rfl; rfl; rfl; rfl; omega; omega) | (apply WL.pure; rfl; rfl; rfl) | (apply WL.nil) | (apply EX.thenN) | (apply CW.region) | (apply WL.pass; rfl; rfl) | (apply WL.fa; rfl; rfl; rfl) | (apply WL.nck; rfl; rfl; rfl) | (apply CW.condF; rfl)))
      refine WL.st rfl rfl rfl hb rfl rfl (ones_of rfl) (fun y hb2 hg2 => ?_)
      (repeat (first | (apply WL.nil) | (apply EX.inN)))
      exact EX.cutI (i + 1) (by repeat (first | exact trivial | refine ⟨rfl, ?_⟩)) ⟨grown_tr hg hg2, hb2, by omega, by omega, hN3 rfl hil (fun e => by rw [List.getElem?_eq_getElem hil] at e; exact h45 (Option.some.inj e.1))⟩
  clear hb hg
  rintro m y ⟨hg, hb, hm1, hm2, hnx⟩
  have hD := Ext.drew y
  have hbd := hb.ext hD
  refine CW.drawH (fun z : World => ∃ tk, Blk z rb 125 [tV s, .slice no nms.length nc, tk, .int .i64 (i : Int), .int .i64 (m : Int), .int .i64 (o : Int)]) [(0, true), (1, true), (2, true), (3, true), (4, true), (5, true), (6, true), (7, true), (8, true), (9, true), (10, true), (11, true), (12, true), (13, false)] mixed (by kernel_rfl) ⟨_, hbd⟩ ?_
  (repeat (first | (apply HL.pure; rfl; rfl; rfl; rfl) | (refine HL.fa rfl rfl rfl rfl ?_) | (apply HL.nck; rfl; rfl; rfl; rfl)))
  refine HL.ldE (v := tV s) (fun z hz => by obtain ⟨tk, hz⟩ := hz; exact ⟨_, hz, rfl⟩) rfl rfl rfl rfl ?_
  (repeat (first | (apply HL.pure; rfl; rfl; rfl; rfl) | (refine HL.fa rfl rfl rfl rfl ?_) | (apply HL.nck; rfl; rfl; rfl; rfl)))
  refine HL.ldE (v := .int .i64 (m : Int)) (fun z hz => by obtain ⟨tk, hz⟩ := hz; exact ⟨_, hz, rfl⟩) rfl rfl rfl rfl ?_
  refine HL.cutT rfl rfl rfl rfl rfl rfl hm1 hm2 ?_
  (repeat (first | (refine HL.fa rfl rfl rfl rfl ?_) | (apply HL.nck; rfl; rfl; rfl; rfl)))
  refine HL.mut rfl (WL.st rfl rfl rfl hbd rfl rfl (ones_of rfl) (fun z hz hgz => ?_))
  refine WL.nil (EX.mut ⟨_, hz⟩ ?_)
  (repeat (apply HL.nil))
  skip
  have hN : w.grownBy z (some rb) := grown_tr (grown_tr hg (hD.grw _)) hgz
  have hl1 : ((s.take m).drop i).length = m - i := by rw [List.length_drop, List.length_take]; omega
  have hl2 : (s.drop m).length = s.length - m := List.length_drop
  refine EX.end0 rfl ⟨⟨?_, hnm.mono (fun b hb => hN.block b (by omega) (by simp; omega)) fun _ h => h, ?_, ?_⟩, hN⟩
  · rw [hnx]
    unfold atT
    dsimp only
    rw [hl1, hl2, show s.length - (s.length - m) - (m - i) = i by omega, show s.length - (s.length - m) = m by omega]
    exact hz
  · rw [hnx]
    dsimp only
    rw [hl2, show s.length - (s.length - m) = m by omega]
  · rw [hnx]
    dsimp only
    omega
end Go.Proofs.YtikigaeihdmcaaaGreatDoor

/-
  ltl.Parse, walked: one token taken; faults.
-/
set_option linter.unusedVariables false
set_option linter.unusedSimpArgs false
namespace Go.Proofs.YtikigaeihdmcaaaGreatDoor
open Go.RowKit

/-- a fault -/
def FlL (w : World) (B : Nat) (c : Int) (a : Nat) (v : Value) : Prop := ∃ fb why, v = .iface 131 (.pointer (some ⟨fb, 0, none⟩)) ∧ B ≤ fb ∧ Blk w fb 135 [.int .i64 c, .int .i64 (a : Int), why]
theorem FlL.ext {w w' : World} {B : Nat} {c : Int} {a : Nat} {v : Value} (h : FlL w B c a v) (hE : Ext w w') : FlL w' B c a v := by
  obtain ⟨fb, why, e, h1, h2⟩ := h
  exact ⟨fb, why, e, h1, h2.ext hE⟩
theorem FlL.low {w : World} {B B' : Nat} {c : Int} {a : Nat} {v : Value} (h : FlL w B c a v) (hB : B' ≤ B) : FlL w B' c a v := by
  obtain ⟨fb, why, e, h1, h2⟩ := h
  exact ⟨fb, why, e, Nat.le_trans hB h1, h2⟩
/-- a store into a variable that was there before the fault, or came behind it -/
theorem FlL.st {w w' : World} {B r : Nat} {c : Int} {a : Nat} {v : Value} (h : FlL w B c a v) (hg : w.grownBy w' (some r)) (hr : r < B) : FlL w' B c a v := by
  obtain ⟨fb, why, e, h1, h2⟩ := h
  exact ⟨fb, why, e, h1, h2.kept hg (fun e => by have := Option.some.inj e; omega)⟩
theorem FlL.stT {w w' : World} {B r : Nat} {T : TypeId} {cells : List Value} {c : Int} {a : Nat} {v : Value} (h : FlL w B c a v) (hg : w.grownBy w' (some r)) (hb : Blk w r T cells) (hT : T ≠ 135) : FlL w' B c a v := by
  obtain ⟨fb, why, e, h1, h2⟩ := h
  refine ⟨fb, why, e, h1, h2.kept hg (fun e => ?_)⟩
  have := Option.some.inj e
  subst this
  have h3 : w.heap[fb]? = w.heap[fb]? := rfl
  unfold Blk at hb h2
  rw [h2] at hb
  have := Option.some.inj hb
  simp at this
  exact hT this.2.symm
theorem FlL.err {w : World} {B : Nat} {c : Int} {a : Nat} {v : Value} (h : FlL w B c a v) : errI v = true ∧ nilI v = false := by
  obtain ⟨fb, why, rfl, _⟩ := h
  exact ⟨rfl, rfl⟩
/-- an error, or none, of a reading -/
def ErL (w : World) (B : Nat) (r : PR) (e : Value) (t : Ltl) (st : Bys × Bys) : Prop := (e = .nilIface ∧ r = .ok t st) ∨ ∃ c a, r = .er c a ∧ FlL w B c a e
theorem ErL.ext {w w' : World} {B : Nat} {r : PR} {e : Value} {t : Ltl} {st : Bys × Bys} (h : ErL w B r e t st) (hE : Ext w w') : ErL w' B r e t st := by
  rcases h with h | ⟨c, a, h1, h2⟩
  · exact .inl h
  · exact .inr ⟨c, a, h1, h2.ext hE⟩
theorem ErL.low {w : World} {B B' : Nat} {r : PR} {e : Value} {t : Ltl} {st : Bys × Bys} (h : ErL w B r e t st) (hB : B' ≤ B) : ErL w B' r e t st := by
  rcases h with h | ⟨c, a, h1, h2⟩
  · exact .inl h
  · exact .inr ⟨c, a, h1, h2.low hB⟩
theorem ErL.stT {w w' : World} {B b : Nat} {r : PR} {T : TypeId} {cells : List Value} {e : Value} {t : Ltl} {st : Bys × Bys} (h : ErL w B r e t st) (hg : w.grownBy w' (some b)) (hb : Blk w b T cells) (hT : T ≠ 135) : ErL w' B r e t st := by
  rcases h with h | ⟨c, a, h1, h2⟩
  · exact .inl h
  · exact .inr ⟨c, a, h1, h2.stT hg hb hT⟩
theorem ErL.err {w : World} {B : Nat} {r : PR} {e : Value} {t : Ltl} {st : Bys × Bys} (h : ErL w B r e t st) : errI e = true := by
  rcases h with ⟨rfl, _⟩ | ⟨c, a, h1, h2⟩
  · rfl
  · exact h2.err.1
/-- what a reading told -/
def PRl (T : TypeId) (rb : Nat) (s : Bys) (no : Option Addr) (nc : Nat) (nms : List ByteArray) (o B : Nat) (r : PR) (v : Value) (w : World) : Prop :=
  ∃ x e t st', v = .tuple ⟨[x, e]⟩ ∧ GL B w x t ∧ Rdr T w rb s no nc nms o st' ∧ ErL w B r e t st'
theorem ltake_ok (w0 : World) {rb : Nat} {s : Bys} {no : Option Addr} {nc : Nat} {nms : List ByteArray} {o : Nat} {st : Bys × Bys} (hr : Rdr 125 w0 rb s no nc nms o st) (hs : s.length ≤ 300) (x : Bys) :
    Rt Tryz.prog 95 [.pointer (some ⟨rb, 0, none⟩), tV x].toArray w0 fun v w' => v = .bool (decide (st.1 = x)) ∧ Rdr 125 w' rb s no nc nms o (if st.1 = x then nxT st.2 else st) ∧ w0.grownBy w' (some rb) := by
  have hb := hr.blk
  refine Rt.enter2 Tryz.func95 Tryz.ntmps95 rfl rfl ?_
  (repeat (first | (apply WL.pure; rfl; rfl; rfl) | (apply WL.nil) | (apply EX.thenN) | (apply CW.seq) | (apply CW.region) | (apply WL.fa; rfl; rfl; rfl) | (apply WL.nck; rfl; rfl; rfl) | (apply WL.ld; rfl; rfl; rfl; assumption; rfl)))
  have he : ((txA st.1).data.toList == (txA x).data.toList) = decide (st.1 = x) := by rw [txA_list, txA_list]; rw [Bool.eq_iff_iff]; simp
  rw [he]
  by_cases h : st.1 = x
  · rw [if_pos h, show decide (st.1 = x) = true from decide_eq_true h]
    (repeat (first | (apply WL.pure; rfl; rfl; rfl) | (apply EX.thenN) | (apply CW.seq) | (apply CW.region) | (apply CW.condF; rfl) | (apply CW.skip)))
    refine WL.call rfl rfl rfl (lnext_ok w0 hr hs) ?_
    rintro v w1 ⟨h1, h2⟩
    (repeat (first | (apply WL.pure; rfl; rfl; rfl) | (apply WL.nil) | (apply EX.thenN) | (apply CW.seq) | (apply CW.region) | (apply CW.ret)))
    exact EX.ret1 rfl rfl ⟨rfl, h1, h2⟩
  · rw [if_neg h, show decide (st.1 = x) = false from decide_eq_false h]
    (repeat (first | (apply WL.pure; rfl; rfl; rfl) | (apply WL.nil) | (apply EX.thenN) | (apply CW.seq) | (apply CW.region) | (apply CW.condT; rfl) | (apply CW.ret) | (apply EX.thenR)))
    exact EX.ret1 rfl rfl ⟨rfl, hr, (Ext.refl w0).grw _⟩
theorem lone_ok (w : World) {F : Nat → Prop} (hF : ∀ b, F b → b < w.heap.size) (k : Int) {v : Value} {t : Ltl} (h : Rd w F v t) : Rt Tryz.prog 97 [.int .i64 k, v].toArray w fun v w' => Rd w' (PlusC F w w') v (.mk k 0 [t] : Ltl) ∧ Ext w w' := by
  obtain ⟨ao, cap, rfl, hk⟩ := Rd.ltl h
  refine Rt.enter2 Tryz.func97 Tryz.ntmps97 rfl rfl ?_
  (repeat (first | (apply CW.seq) | (apply CW.region)))
  refine WL.boxB rfl rfl rfl fun w1 hb hE1 => ?_
  refine WL.alloc rfl rfl (fun w2 hr hE2 => ?_)
  have hb2 := hb.ext hE2
  have hE12 := hE1.trans hE2
  (repeat (first | (apply WL.pure; rfl; rfl; rfl) | (apply WL.nil) | (apply EX.thenN) | (apply CW.seq) | (apply CW.region) | (apply WL.ldA; rfl; rfl; rfl; assumption; rfl)))
  have hl : Rd w2 F (ltlV t.k t.n ao t.kids.length cap) t := Rd.mono h (fun b hb => hE12.block b (hF b hb)) (fun _ h => h)
  have hw2 : w.heap.size ≤ w2.heap.size := hE12.size
  have hlt := hr.lt
  have hw1 : w.heap.size ≤ w1.heap.size := hE1.size
  refine WL.lit (F := F) (ys := [t]) rfl rfl rfl rfl rfl (.cons hl .nil) (by show 1 * 3 ≤ 16777216; decide) (fun b hb => Nat.lt_of_lt_of_le (hF b hb) hw2) (fun w3 ho hg3 => ?_)
  have hE23 : Ext w2 w3 := (Ext.refl w2).grown hg3 (Nat.le_refl _) (fun k h => by cases h)
  have hr3 := hr.ext hE23
  have hE13 := hE12.trans hE23
  refine WL.build rfl rfl rfl rfl ?_
  refine WL.st rfl rfl rfl hr3 rfl rfl (ones_of rfl) (fun w4 hr4 hgr => ?_)
  have hE4 : Ext w w4 := hE13.grown hgr hE13.size (fun g hg => by cases hg; exact hE1.size)
  have ho4 := ho.kept hgr (fun g hg => by have := (ho.lt g hg).1; simp; omega) (fun b hb => ⟨Nat.lt_of_lt_of_le (hF b hb) hE13.size, by have : b < w.heap.size := hF b hb; simp; omega⟩)
  obtain ⟨uo, uc, he, hu⟩ := (ho4.rd.mono (F' := PlusC F w w4) (fun _ _ => rfl) (fun b hb => hb.elim .inl fun hv => .inr ⟨Nat.le_trans hE12.size (ho4.lt b hv).1, (ho4.lt b hv).2.1⟩)).sl
  obtain ⟨rfl, _, rfl⟩ := Value.slice.inj he
  (repeat (first | (apply WL.nil) | (apply EX.thenN) | (apply CW.ret)))
  exact EX.retC rfl rfl hr4 rfl ⟨Rd.mkLtl (kids := [t]) hu, hE4⟩
theorem ltwo_ok (w : World) {F : Nat → Prop} (hF : ∀ b, F b → b < w.heap.size) (k : Int) {v v' : Value} {t t' : Ltl} (h : Rd w F v t) (h' : Rd w F v' t') : Rt Tryz.prog 96 [.int .i64 k, v, v'].toArray w fun v w' => Rd w' (PlusC F w w') v (.mk k 0 [t, t'] : Ltl) ∧ Ext w w' := by
  obtain ⟨ao, cap, rfl, hk⟩ := Rd.ltl h
  obtain ⟨ao', cap', rfl, hk'⟩ := Rd.ltl h'
  refine Rt.enter3 Tryz.func96 Tryz.ntmps96 rfl rfl ?_
  (repeat (first | (apply CW.seq) | (apply CW.region)))
  refine WL.boxB rfl rfl rfl fun w0 hb0 hE0 => ?_
  refine WL.boxB rfl rfl rfl fun w1 hb hE1 => ?_
  have hb0 := hb0.ext hE1
  have hE1 := hE0.trans hE1
  refine WL.alloc rfl rfl (fun w2 hr hE2 => ?_)
  have hb0 := hb0.ext hE2
  have hb2 := hb.ext hE2
  have hE12 := hE1.trans hE2
  (repeat (first | (apply WL.pure; rfl; rfl; rfl) | (apply WL.nil) | (apply EX.thenN) | (apply CW.seq) | (apply CW.region) | (apply WL.ldA; rfl; rfl; rfl; assumption; rfl)))
  have hl : Rd w2 F (ltlV t.k t.n ao t.kids.length cap) t := Rd.mono h (fun b hb => hE12.block b (hF b hb)) (fun _ h => h)
  have hl' : Rd w2 F (ltlV t'.k t'.n ao' t'.kids.length cap') t' := Rd.mono h' (fun b hb => hE12.block b (hF b hb)) (fun _ h => h)
  have hw2 : w.heap.size ≤ w2.heap.size := hE12.size
  have hlt := hr.lt
  have hw1 : w.heap.size ≤ w1.heap.size := hE1.size
  refine WL.lit (F := F) (ys := [t, t']) rfl rfl rfl rfl rfl (.cons hl (.cons hl' .nil)) (by show 2 * 3 ≤ 16777216; decide) (fun b hb => Nat.lt_of_lt_of_le (hF b hb) hw2) (fun w3 ho hg3 => ?_)
  have hE23 : Ext w2 w3 := (Ext.refl w2).grown hg3 (Nat.le_refl _) (fun k h => by cases h)
  have hr3 := hr.ext hE23
  have hE13 := hE12.trans hE23
  refine WL.build rfl rfl rfl rfl ?_
  refine WL.st rfl rfl rfl hr3 rfl rfl (ones_of rfl) (fun w4 hr4 hgr => ?_)
  have hE4 : Ext w w4 := hE13.grown hgr hE13.size (fun g hg => by cases hg; exact hE1.size)
  have ho4 := ho.kept hgr (fun g hg => by have := (ho.lt g hg).1; simp; omega) (fun b hb => ⟨Nat.lt_of_lt_of_le (hF b hb) hE13.size, by have : b < w.heap.size := hF b hb; simp; omega⟩)
  obtain ⟨uo, uc, he, hu⟩ := (ho4.rd.mono (F' := PlusC F w w4) (fun _ _ => rfl) (fun b hb => hb.elim .inl fun hv => .inr ⟨Nat.le_trans hE12.size (ho4.lt b hv).1, (ho4.lt b hv).2.1⟩)).sl
  obtain ⟨rfl, _, rfl⟩ := Value.slice.inj he
  (repeat (first | (apply WL.nil) | (apply EX.thenN) | (apply CW.ret)))
  exact EX.retC rfl rfl hr4 rfl ⟨Rd.mkLtl (kids := [t, t']) hu, hE4⟩
end Go.Proofs.YtikigaeihdmcaaaGreatDoor

