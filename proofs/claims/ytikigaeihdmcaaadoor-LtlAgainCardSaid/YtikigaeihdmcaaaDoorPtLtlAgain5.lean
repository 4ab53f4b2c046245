import Derived.Test.YtikigaeihdmcaaaDoorPtLtlAgain4
/-
  ltl.Print, walked.
-/
set_option linter.unusedVariables false
set_option linter.unusedSimpArgs false
namespace Go.Proofs.YtikigaeihdmcaaaDoor
open Go.RowKit

theorem idxB_of (x : ByteArray) (nms : List ByteArray) : idxOf (fun y : ByteArray => x.data.toList == y.data.toList) nms = idxB nms x.data.toList := by
  unfold idxOf idxB
  rw [show (fun y : ByteArray => x.data.toList == y.data.toList) = fun y => y.data.toList == x.data.toList from funext fun y => Bool.beq_comm]
  all_goals rfl
theorem getDNm_at {nms : List ByteArray} {i : Nat} (h : i < nms.length) : nms.getD i ⟨#[]⟩ = nms[i] := by rw [List.getD_eq_getElem?_getD, List.getElem?_eq_getElem h]; rfl
/-- the shape of a formula: as many kids as its kind has -/
inductive ShT (kk : Int → Int) : Ltl → Prop
  | mk (k n : Int) (kids : List Ltl) : kk k = kids.length → 0 ≤ n → n ≤ 63 → (∀ x ∈ kids, ShT kk x) → ShT kk (.mk k n kids)
mutual
theorem chkF_sh : ∀ (t : Ltl) (d c : Int), (chkF t d c).1 = 0 → ShT kidsK t ∧ (chkF t d c).2 = c + t.nodes
  | .mk k n kids, d, c, h => by
    simp only [chkF] at h ⊢
    split at h
    · cases h
    split at h
    · cases h
    split at h
    · cases h
    rename_i h1 h2 h3
    rw [if_neg h1, if_neg h2, if_neg h3]
    have ⟨g1, g2⟩ := chkFL_sh kids (d + 1) (c + 1) h
    simp only [not_or] at h3
    refine ⟨.mk k n kids (by omega) (by omega) (by omega) g1, ?_⟩
    rw [g2]; simp only [Ltl.nodes]; omega
theorem chkFL_sh : ∀ (l : List Ltl) (d c : Int), (chkFL l d c).1 = 0 → (∀ x ∈ l, ShT kidsK x) ∧ (chkFL l d c).2 = c + Ltl.nodesL l
  | [], d, c, h => ⟨fun x hx => by (cases hx), by simp [chkFL, Ltl.nodesL]⟩
  | y :: r, d, c, h => by
    simp only [chkFL] at h ⊢
    split at h
    · rename_i h1; exact absurd h h1
    rename_i h1
    rw [if_neg h1]
    have ⟨g1, g2⟩ := chkF_sh y d c (by simpa using h1)
    have ⟨g3, g4⟩ := chkFL_sh r d _ h
    refine ⟨fun x hx => ?_, ?_⟩
    · rcases List.mem_cons.1 hx with rfl | hx
      · exact g1
      · exact g3 x hx
    · rw [g4, g2]; simp only [Ltl.nodesL]; omega
end
section
variable {P : Program} {Q : Exit → Act → World → Prop} {n : Nat} {σ : Sg} {w wc : World} {L : List Oper} {S : World → Prop} {ord : List (Nat × Bool)} {i d : Nat} {ty : TypeId} {pos : String} {af : Array Edge} {g : Option (Nat × Bool)} {t e : TypeId} {x : Operand} {b o : Nat} {cells : List Value}
/-- what a block that nobody changes meanwhile holds -/
theorem HL.ldS {v : Value} (hK : ∀ w1, S w1 → Blk w1 b e cells) (ho : nthO L i = some ⟨some d, .load t x, ty, pos, af, g⟩) (hg : gd L σ ⟨some d, .load t x, ty, pos, af, g⟩ = some true) (hd : Nat.ble (d + 1) n = true) (hx : ev σ x = some (.pointer (some ⟨b, o, none⟩))) [hc : IsC P t 1 false] (hv : nthV cells o = some v)
    (h : HL P L S Q ord n ((d, v) :: σ) wc) : HL P L S Q ((i, true) :: ord) n σ wc := by
  refine HL.run ho hg hd (fun a ha w' hsw => ?_) h
  simp [execOp, ha.ev hx, run_ld (P := P) (t := t) w' (hK w' hsw) hv]
theorem HL.ldAS {vs : List Value} {k : Nat} (hK : ∀ w1, S w1 → Blk w1 b e cells) (ho : nthO L i = some ⟨some d, .load t x, ty, pos, af, g⟩) (hg : gd L σ ⟨some d, .load t x, ty, pos, af, g⟩ = some true) (hd : Nat.ble (d + 1) n = true) (hx : ev σ x = some (.pointer (some ⟨b, o, none⟩))) [hc : IsC P t k true] (hv : segL cells o k = some vs)
    (h : HL P L S Q ord n ((d, .agg vs.toArray) :: σ) wc) : HL P L S Q ((i, true) :: ord) n σ wc := by
  refine HL.run ho hg hd (fun a ha w' hsw => ?_) h
  simp [execOp, ha.ev hx, run_ldA (P := P) (t := t) w' (hK w' hsw) hv]
end
instance iPrn1 : IsFd Tryd.prog 81 0 0 := IsFd.of (by kernel_rfl)
instance iPrn2 : IsFd Tryd.prog 81 1 1 := IsFd.of (by kernel_rfl)
instance iPrn3 : IsBd Tryd.prog 81 [(0, 1), (1, 1)] := IsBd.of (by kernel_rfl)
instance iPrn4 : IsZC Tryd.prog 81 [.slice none 0 0, .bool false] := IsZC.of (z := .agg #[.slice none 0 0, .bool false]) (by kernel_rfl) rfl
instance iPrn5 : IsC Tryd.prog 81 2 true := IsC.of (by kernel_rfl) Tryd.underlying81 rfl
instance iPrn6 : IsAr Tryd.prog 142 10 9 := ⟨Tryd.underlying142⟩
abbrev noT : Value := .string ⟨#[]⟩
instance iPrn7 : IsZC Tryd.prog 142 [noT, noT, noT, noT, noT, noT, noT, noT, noT, noT] := IsZC.of (z := .agg #[noT, noT, noT, noT, noT, noT, noT, noT, noT, noT]) (by kernel_rfl) rfl
theorem lname_ok (w0 : World) {no : Option Addr} {nc : Nat} {nms : List ByteArray} (hn : Sl w0 (Old w0) no nc nms) (n : Int) (h0 : 0 ≤ n) :
    Rt Tryd.prog 66 [.int .i64 n, .slice no nms.length nc].toArray w0 fun v w' => v = tV (nmL nms n) ∧ Ext w0 w' := by
  have hm := hn.len63
  refine Rt.enter2 Tryd.func66 Tryd.ntmps66 rfl rfl ?_
  obtain ⟨i, rfl⟩ := Int.eq_ofNat_of_zero_le h0
  (repeat (first | (apply WL.add; rfl; rfl; rfl; rfl; omega; omega) | (apply QL.add; rfl; rfl; rfl; rfl; omega; omega) | (apply WL.sub'; rfl; rfl; rfl; rfl; omega; omega) | (apply QL.sub'; rfl; rfl; rfl; rfl; omega; omega) | (apply WL.mul; rfl; rfl; rfl; rfl; omega; omega) | (apply QL.mul; rfl; rfl; rfl; rfl; omega; omega) | (apply WL.pure; rfl; rfl; rfl) | (apply QL.pure; rfl; rfl; rfl) | (apply WL.nil) | (apply EX.thenN) | (apply CW.seq) | (apply CW.region) | (apply WL.pass; rfl; rfl) | (apply QL.pass; rfl; rfl) | (apply WL.eqB; rfl; rfl; rfl; rfl) | (apply QL.eqB; rfl; rfl; rfl; rfl) | (apply WL.neB; rfl; rfl; rfl; rfl) | (apply QL.neB; rfl; rfl; rfl; rfl) | (apply WL.lenS; rfl; rfl; rfl) | (apply QL.lenS; rfl; rfl; rfl) | (apply WL.makeFunc; rfl; rfl; rfl; rfl) | (apply QL.makeFunc; rfl; rfl; rfl; rfl) | (apply WL.fa; rfl; rfl; rfl) | (apply QL.fa; rfl; rfl; rfl) | (apply WL.nck; rfl; rfl; rfl) | (apply QL.nck; rfl; rfl; rfl) | (apply WL.ld; rfl; rfl; rfl; assumption; rfl) | (apply QL.ld; rfl; rfl; rfl; assumption; rfl) | (apply WL.ldA; rfl; rfl; rfl; assumption; rfl) | (apply QL.ldA; rfl; rfl; rfl; assumption; rfl) | (apply CW.block) | (apply EX.inN) | (apply CW.condT; rfl) | (apply CW.condF; rfl) | (apply CW.exit) | (apply EX.thenX) | (apply EX.inX) | (apply EX.inXne; rfl) | (apply CW.ret) | (apply EX.thenR) | (apply EX.inR) | (apply CW.skip) | (refine WL.lenO rfl rfl rfl (by assumption) ?_) | (apply WL.isNil; rfl; rfl; rfl) | (apply CW.draw; exact mixed; kernel_rfl)))
  refine CW.cond rfl (fun h => ?_) (fun h => ?_)
  · (repeat (first | (apply WL.add; rfl; rfl; rfl; rfl; omega; omega) | (apply QL.add; rfl; rfl; rfl; rfl; omega; omega) | (apply WL.sub'; rfl; rfl; rfl; rfl; omega; omega) | (apply QL.sub'; rfl; rfl; rfl; rfl; omega; omega) | (apply WL.mul; rfl; rfl; rfl; rfl; omega; omega) | (apply QL.mul; rfl; rfl; rfl; rfl; omega; omega) | (apply WL.pure; rfl; rfl; rfl) | (apply QL.pure; rfl; rfl; rfl) | (apply WL.nil) | (apply EX.thenN) | (apply CW.seq) | (apply CW.region) | (apply WL.pass; rfl; rfl) | (apply QL.pass; rfl; rfl) | (apply WL.eqB; rfl; rfl; rfl; rfl) | (apply QL.eqB; rfl; rfl; rfl; rfl) | (apply WL.neB; rfl; rfl; rfl; rfl) | (apply QL.neB; rfl; rfl; rfl; rfl) | (apply WL.lenS; rfl; rfl; rfl) | (apply QL.lenS; rfl; rfl; rfl) | (apply WL.makeFunc; rfl; rfl; rfl; rfl) | (apply QL.makeFunc; rfl; rfl; rfl; rfl) | (apply WL.fa; rfl; rfl; rfl) | (apply QL.fa; rfl; rfl; rfl) | (apply WL.nck; rfl; rfl; rfl) | (apply QL.nck; rfl; rfl; rfl) | (apply WL.ld; rfl; rfl; rfl; assumption; rfl) | (apply QL.ld; rfl; rfl; rfl; assumption; rfl) | (apply WL.ldA; rfl; rfl; rfl; assumption; rfl) | (apply QL.ldA; rfl; rfl; rfl; assumption; rfl) | (apply CW.block) | (apply EX.inN) | (apply CW.condT; rfl) | (apply CW.condF; rfl) | (apply CW.exit) | (apply EX.thenX) | (apply EX.inX) | (apply EX.inXne; rfl) | (apply CW.ret) | (apply EX.thenR) | (apply EX.inR) | (apply CW.skip) | (refine WL.lenO rfl rfl rfl (by assumption) ?_) | (apply WL.isNil; rfl; rfl; rfl) | (apply CW.draw; exact mixed; kernel_rfl)))
    refine EX.ret1 rfl rfl ⟨?_, Ext.refl _⟩
    have : (i : Int) = 63 := by simpa using h
    unfold nmL; rw [if_pos this]; rfl
  have h63 : ¬ (i : Int) = 63 := by simpa using h
  (repeat (first | (apply WL.add; rfl; rfl; rfl; rfl; omega; omega) | (apply QL.add; rfl; rfl; rfl; rfl; omega; omega) | (apply WL.sub'; rfl; rfl; rfl; rfl; omega; omega) | (apply QL.sub'; rfl; rfl; rfl; rfl; omega; omega) | (apply WL.mul; rfl; rfl; rfl; rfl; omega; omega) | (apply QL.mul; rfl; rfl; rfl; rfl; omega; omega) | (apply WL.pure; rfl; rfl; rfl) | (apply QL.pure; rfl; rfl; rfl) | (apply WL.nil) | (apply EX.thenN) | (apply CW.seq) | (apply CW.region) | (apply WL.pass; rfl; rfl) | (apply QL.pass; rfl; rfl) | (apply WL.eqB; rfl; rfl; rfl; rfl) | (apply QL.eqB; rfl; rfl; rfl; rfl) | (apply WL.neB; rfl; rfl; rfl; rfl) | (apply QL.neB; rfl; rfl; rfl; rfl) | (apply WL.lenS; rfl; rfl; rfl) | (apply QL.lenS; rfl; rfl; rfl) | (apply WL.makeFunc; rfl; rfl; rfl; rfl) | (apply QL.makeFunc; rfl; rfl; rfl; rfl) | (apply WL.fa; rfl; rfl; rfl) | (apply QL.fa; rfl; rfl; rfl) | (apply WL.nck; rfl; rfl; rfl) | (apply QL.nck; rfl; rfl; rfl) | (apply WL.ld; rfl; rfl; rfl; assumption; rfl) | (apply QL.ld; rfl; rfl; rfl; assumption; rfl) | (apply WL.ldA; rfl; rfl; rfl; assumption; rfl) | (apply QL.ldA; rfl; rfl; rfl; assumption; rfl) | (apply CW.block) | (apply EX.inN) | (apply CW.condT; rfl) | (apply CW.condF; rfl) | (apply CW.exit) | (apply EX.thenX) | (apply EX.inX) | (apply EX.inXne; rfl) | (apply CW.ret) | (apply EX.thenR) | (apply EX.inR) | (apply CW.skip) | (refine WL.lenO rfl rfl rfl (by assumption) ?_) | (apply WL.isNil; rfl; rfl; rfl) | (apply CW.draw; exact mixed; kernel_rfl)))
  (first | (refine WL.lookG rfl rfl (fun h => ?_) (fun h => ?_)) | (refine WL.lookP rfl (fun h => ?_) (fun h => ?_)) | (refine QL.lookG rfl rfl (fun h => ?_) (fun h => ?_)) | (refine QL.lookP rfl (fun h => ?_) (fun h => ?_)) | (refine CW.cond rfl (fun h => ?_) (fun h => ?_)) | (refine HL.lookG rfl rfl rfl rfl (fun h => ?_) (fun h => ?_)) | (refine HL.lookP rfl rfl (fun h => ?_) (fun h => ?_)))
  · have h1 : (i : Int) ≥ (nms.length : Int) := by simpa using h
    (repeat (first | (apply WL.add; rfl; rfl; rfl; rfl; omega; omega) | (apply QL.add; rfl; rfl; rfl; rfl; omega; omega) | (apply WL.sub'; rfl; rfl; rfl; rfl; omega; omega) | (apply QL.sub'; rfl; rfl; rfl; rfl; omega; omega) | (apply WL.mul; rfl; rfl; rfl; rfl; omega; omega) | (apply QL.mul; rfl; rfl; rfl; rfl; omega; omega) | (apply WL.pure; rfl; rfl; rfl) | (apply QL.pure; rfl; rfl; rfl) | (apply WL.nil) | (apply EX.thenN) | (apply CW.seq) | (apply CW.region) | (apply WL.pass; rfl; rfl) | (apply QL.pass; rfl; rfl) | (apply WL.eqB; rfl; rfl; rfl; rfl) | (apply QL.eqB; rfl; rfl; rfl; rfl) | (apply WL.neB; rfl; rfl; rfl; rfl) | (apply QL.neB; rfl; rfl; rfl; rfl) | (apply WL.lenS; rfl; rfl; rfl) | (apply QL.lenS; rfl; rfl; rfl) | (apply WL.makeFunc; rfl; rfl; rfl; rfl) | (apply QL.makeFunc; rfl; rfl; rfl; rfl) | (apply WL.fa; rfl; rfl; rfl) | (apply QL.fa; rfl; rfl; rfl) | (apply WL.nck; rfl; rfl; rfl) | (apply QL.nck; rfl; rfl; rfl) | (apply WL.ld; rfl; rfl; rfl; assumption; rfl) | (apply QL.ld; rfl; rfl; rfl; assumption; rfl) | (apply WL.ldA; rfl; rfl; rfl; assumption; rfl) | (apply QL.ldA; rfl; rfl; rfl; assumption; rfl) | (apply CW.block) | (apply EX.inN) | (apply CW.condT; rfl) | (apply CW.condF; rfl) | (apply CW.exit) | (apply EX.thenX) | (apply EX.inX) | (apply EX.inXne; rfl) | (apply CW.ret) | (apply EX.thenR) | (apply EX.inR) | (apply CW.skip) | (refine WL.lenO rfl rfl rfl (by assumption) ?_) | (apply WL.isNil; rfl; rfl; rfl) | (apply CW.draw; exact mixed; kernel_rfl)))
    refine EX.ret1 rfl rfl ⟨?_, Ext.refl _⟩
    unfold nmL; rw [if_neg h63, if_pos h1]; rfl
  have h1 : ¬ (i : Int) ≥ (nms.length : Int) := by simpa using h
  have hi : i < nms.length := by omega
  (repeat (first | (apply WL.add; rfl; rfl; rfl; rfl; omega; omega) | (apply QL.add; rfl; rfl; rfl; rfl; omega; omega) | (apply WL.sub'; rfl; rfl; rfl; rfl; omega; omega) | (apply QL.sub'; rfl; rfl; rfl; rfl; omega; omega) | (apply WL.mul; rfl; rfl; rfl; rfl; omega; omega) | (apply QL.mul; rfl; rfl; rfl; rfl; omega; omega) | (apply WL.pure; rfl; rfl; rfl) | (apply QL.pure; rfl; rfl; rfl) | (apply WL.nil) | (apply EX.thenN) | (apply CW.seq) | (apply CW.region) | (apply WL.pass; rfl; rfl) | (apply QL.pass; rfl; rfl) | (apply WL.eqB; rfl; rfl; rfl; rfl) | (apply QL.eqB; rfl; rfl; rfl; rfl) | (apply WL.neB; rfl; rfl; rfl; rfl) | (apply QL.neB; rfl; rfl; rfl; rfl) | (apply WL.lenS; rfl; rfl; rfl) | (apply QL.lenS; rfl; rfl; rfl) | (apply WL.makeFunc; rfl; rfl; rfl; rfl) | (apply QL.makeFunc; rfl; rfl; rfl; rfl) | (apply WL.fa; rfl; rfl; rfl) | (apply QL.fa; rfl; rfl; rfl) | (apply WL.nck; rfl; rfl; rfl) | (apply QL.nck; rfl; rfl; rfl) | (apply WL.ld; rfl; rfl; rfl; assumption; rfl) | (apply QL.ld; rfl; rfl; rfl; assumption; rfl) | (apply WL.ldA; rfl; rfl; rfl; assumption; rfl) | (apply QL.ldA; rfl; rfl; rfl; assumption; rfl) | (apply CW.block) | (apply EX.inN) | (apply CW.condT; rfl) | (apply CW.condF; rfl) | (apply CW.exit) | (apply EX.thenX) | (apply EX.inX) | (apply EX.inXne; rfl) | (apply CW.ret) | (apply EX.thenR) | (apply EX.inR) | (apply CW.skip) | (refine WL.lenO rfl rfl rfl (by assumption) ?_) | (apply WL.isNil; rfl; rfl; rfl) | (apply CW.draw; exact mixed; kernel_rfl)))
  refine WL.elemN rfl rfl rfl rfl rfl hn hi (fun _ => rfl) (fun u1 q1 hu1 => ?_)
  obtain ⟨rfl, _⟩ := hu1.str
  (repeat (first | (apply WL.add; rfl; rfl; rfl; rfl; omega; omega) | (apply QL.add; rfl; rfl; rfl; rfl; omega; omega) | (apply WL.sub'; rfl; rfl; rfl; rfl; omega; omega) | (apply QL.sub'; rfl; rfl; rfl; rfl; omega; omega) | (apply WL.mul; rfl; rfl; rfl; rfl; omega; omega) | (apply QL.mul; rfl; rfl; rfl; rfl; omega; omega) | (apply WL.pure; rfl; rfl; rfl) | (apply QL.pure; rfl; rfl; rfl) | (apply WL.nil) | (apply EX.thenN) | (apply CW.seq) | (apply CW.region) | (apply WL.pass; rfl; rfl) | (apply QL.pass; rfl; rfl) | (apply WL.eqB; rfl; rfl; rfl; rfl) | (apply QL.eqB; rfl; rfl; rfl; rfl) | (apply WL.neB; rfl; rfl; rfl; rfl) | (apply QL.neB; rfl; rfl; rfl; rfl) | (apply WL.lenS; rfl; rfl; rfl) | (apply QL.lenS; rfl; rfl; rfl) | (apply WL.makeFunc; rfl; rfl; rfl; rfl) | (apply QL.makeFunc; rfl; rfl; rfl; rfl) | (apply WL.fa; rfl; rfl; rfl) | (apply QL.fa; rfl; rfl; rfl) | (apply WL.nck; rfl; rfl; rfl) | (apply QL.nck; rfl; rfl; rfl) | (apply WL.ld; rfl; rfl; rfl; assumption; rfl) | (apply QL.ld; rfl; rfl; rfl; assumption; rfl) | (apply WL.ldA; rfl; rfl; rfl; assumption; rfl) | (apply QL.ldA; rfl; rfl; rfl; assumption; rfl) | (apply CW.block) | (apply EX.inN) | (apply CW.condT; rfl) | (apply CW.condF; rfl) | (apply CW.exit) | (apply EX.thenX) | (apply EX.inX) | (apply EX.inXne; rfl) | (apply CW.ret) | (apply EX.thenR) | (apply EX.inR) | (apply CW.skip) | (refine WL.lenO rfl rfl rfl (by assumption) ?_) | (apply WL.isNil; rfl; rfl; rfl) | (apply CW.draw; exact mixed; kernel_rfl)))
  refine WL.call rfl rfl rfl (Named_ok w0 nms[i]) ?_
  rintro _ w1 ⟨rfl, e1⟩
  (repeat (first | (apply WL.add; rfl; rfl; rfl; rfl; omega; omega) | (apply QL.add; rfl; rfl; rfl; rfl; omega; omega) | (apply WL.sub'; rfl; rfl; rfl; rfl; omega; omega) | (apply QL.sub'; rfl; rfl; rfl; rfl; omega; omega) | (apply WL.mul; rfl; rfl; rfl; rfl; omega; omega) | (apply QL.mul; rfl; rfl; rfl; rfl; omega; omega) | (apply WL.pure; rfl; rfl; rfl) | (apply QL.pure; rfl; rfl; rfl) | (apply WL.nil) | (apply EX.thenN) | (apply CW.seq) | (apply CW.region) | (apply WL.pass; rfl; rfl) | (apply QL.pass; rfl; rfl) | (apply WL.eqB; rfl; rfl; rfl; rfl) | (apply QL.eqB; rfl; rfl; rfl; rfl) | (apply WL.neB; rfl; rfl; rfl; rfl) | (apply QL.neB; rfl; rfl; rfl; rfl) | (apply WL.lenS; rfl; rfl; rfl) | (apply QL.lenS; rfl; rfl; rfl) | (apply WL.makeFunc; rfl; rfl; rfl; rfl) | (apply QL.makeFunc; rfl; rfl; rfl; rfl) | (apply WL.fa; rfl; rfl; rfl) | (apply QL.fa; rfl; rfl; rfl) | (apply WL.nck; rfl; rfl; rfl) | (apply QL.nck; rfl; rfl; rfl) | (apply WL.ld; rfl; rfl; rfl; assumption; rfl) | (apply QL.ld; rfl; rfl; rfl; assumption; rfl) | (apply WL.ldA; rfl; rfl; rfl; assumption; rfl) | (apply QL.ldA; rfl; rfl; rfl; assumption; rfl) | (apply CW.block) | (apply EX.inN) | (apply CW.condT; rfl) | (apply CW.condF; rfl) | (apply CW.exit) | (apply EX.thenX) | (apply EX.inX) | (apply EX.inXne; rfl) | (apply CW.ret) | (apply EX.thenR) | (apply EX.inR) | (apply CW.skip) | (refine WL.lenO rfl rfl rfl (by assumption) ?_) | (apply WL.isNil; rfl; rfl; rfl) | (apply CW.draw; exact mixed; kernel_rfl)))
  (first | (refine WL.lookG rfl rfl (fun h => ?_) (fun h => ?_)) | (refine WL.lookP rfl (fun h => ?_) (fun h => ?_)) | (refine QL.lookG rfl rfl (fun h => ?_) (fun h => ?_)) | (refine QL.lookP rfl (fun h => ?_) (fun h => ?_)) | (refine CW.cond rfl (fun h => ?_) (fun h => ?_)) | (refine HL.lookG rfl rfl rfl rfl (fun h => ?_) (fun h => ?_)) | (refine HL.lookP rfl rfl (fun h => ?_) (fun h => ?_)))
  · (repeat (first | (apply WL.add; rfl; rfl; rfl; rfl; omega; omega) | (apply QL.add; rfl; rfl; rfl; rfl; omega; omega) | (apply WL.sub'; rfl; rfl; rfl; rfl; omega; omega) | (apply QL.sub'; rfl; rfl; rfl; rfl; omega; omega) | (apply WL.mul; rfl; rfl; rfl; rfl; omega; omega) | (apply QL.mul; rfl; rfl; rfl; rfl; omega; omega) | (apply WL.pure; rfl; rfl; rfl) | (apply QL.pure; rfl; rfl; rfl) | (apply WL.nil) | (apply EX.thenN) | (apply CW.seq) | (apply CW.region) | (apply WL.pass; rfl; rfl) | (apply QL.pass; rfl; rfl) | (apply WL.eqB; rfl; rfl; rfl; rfl) | (apply QL.eqB; rfl; rfl; rfl; rfl) | (apply WL.neB; rfl; rfl; rfl; rfl) | (apply QL.neB; rfl; rfl; rfl; rfl) | (apply WL.lenS; rfl; rfl; rfl) | (apply QL.lenS; rfl; rfl; rfl) | (apply WL.makeFunc; rfl; rfl; rfl; rfl) | (apply QL.makeFunc; rfl; rfl; rfl; rfl) | (apply WL.fa; rfl; rfl; rfl) | (apply QL.fa; rfl; rfl; rfl) | (apply WL.nck; rfl; rfl; rfl) | (apply QL.nck; rfl; rfl; rfl) | (apply WL.ld; rfl; rfl; rfl; assumption; rfl) | (apply QL.ld; rfl; rfl; rfl; assumption; rfl) | (apply WL.ldA; rfl; rfl; rfl; assumption; rfl) | (apply QL.ldA; rfl; rfl; rfl; assumption; rfl) | (apply CW.block) | (apply EX.inN) | (apply CW.condT; rfl) | (apply CW.condF; rfl) | (apply CW.exit) | (apply EX.thenX) | (apply EX.inX) | (apply EX.inXne; rfl) | (apply CW.ret) | (apply EX.thenR) | (apply EX.inR) | (apply CW.skip) | (refine WL.lenO rfl rfl rfl (by assumption) ?_) | (apply WL.isNil; rfl; rfl; rfl) | (apply CW.draw; exact mixed; kernel_rfl)))
    refine EX.ret1 rfl rfl ⟨?_, e1⟩
    unfold nmL; rw [if_neg h63, if_neg h1, if_pos (by rw [Int.toNat_natCast, getDNm_at hi]; simpa using h)]; rfl
  have h2 : ¬ namedB nms[i] = false := by simpa using h
  (repeat (first | (apply WL.add; rfl; rfl; rfl; rfl; omega; omega) | (apply QL.add; rfl; rfl; rfl; rfl; omega; omega) | (apply WL.sub'; rfl; rfl; rfl; rfl; omega; omega) | (apply QL.sub'; rfl; rfl; rfl; rfl; omega; omega) | (apply WL.mul; rfl; rfl; rfl; rfl; omega; omega) | (apply QL.mul; rfl; rfl; rfl; rfl; omega; omega) | (apply WL.pure; rfl; rfl; rfl) | (apply QL.pure; rfl; rfl; rfl) | (apply WL.nil) | (apply EX.thenN) | (apply CW.seq) | (apply CW.region) | (apply WL.pass; rfl; rfl) | (apply QL.pass; rfl; rfl) | (apply WL.eqB; rfl; rfl; rfl; rfl) | (apply QL.eqB; rfl; rfl; rfl; rfl) | (apply WL.neB; rfl; rfl; rfl; rfl) | (apply QL.neB; rfl; rfl; rfl; rfl) | (apply WL.lenS; rfl; rfl; rfl) | (apply QL.lenS; rfl; rfl; rfl) | (apply WL.makeFunc; rfl; rfl; rfl; rfl) | (apply QL.makeFunc; rfl; rfl; rfl; rfl) | (apply WL.fa; rfl; rfl; rfl) | (apply QL.fa; rfl; rfl; rfl) | (apply WL.nck; rfl; rfl; rfl) | (apply QL.nck; rfl; rfl; rfl) | (apply WL.ld; rfl; rfl; rfl; assumption; rfl) | (apply QL.ld; rfl; rfl; rfl; assumption; rfl) | (apply WL.ldA; rfl; rfl; rfl; assumption; rfl) | (apply QL.ldA; rfl; rfl; rfl; assumption; rfl) | (apply CW.block) | (apply EX.inN) | (apply CW.condT; rfl) | (apply CW.condF; rfl) | (apply CW.exit) | (apply EX.thenX) | (apply EX.inX) | (apply EX.inXne; rfl) | (apply CW.ret) | (apply EX.thenR) | (apply EX.inR) | (apply CW.skip) | (refine WL.lenO rfl rfl rfl (by assumption) ?_) | (apply WL.isNil; rfl; rfl; rfl) | (apply CW.draw; exact mixed; kernel_rfl)))
  refine WL.elemN rfl rfl rfl rfl rfl (hn.up e1) hi (fun _ => rfl) (fun u1 q1 hu1 => ?_)
  obtain ⟨rfl, _⟩ := hu1.str
  (repeat (first | (apply WL.add; rfl; rfl; rfl; rfl; omega; omega) | (apply QL.add; rfl; rfl; rfl; rfl; omega; omega) | (apply WL.sub'; rfl; rfl; rfl; rfl; omega; omega) | (apply QL.sub'; rfl; rfl; rfl; rfl; omega; omega) | (apply WL.mul; rfl; rfl; rfl; rfl; omega; omega) | (apply QL.mul; rfl; rfl; rfl; rfl; omega; omega) | (apply WL.pure; rfl; rfl; rfl) | (apply QL.pure; rfl; rfl; rfl) | (apply WL.nil) | (apply EX.thenN) | (apply CW.seq) | (apply CW.region) | (apply WL.pass; rfl; rfl) | (apply QL.pass; rfl; rfl) | (apply WL.eqB; rfl; rfl; rfl; rfl) | (apply QL.eqB; rfl; rfl; rfl; rfl) | (apply WL.neB; rfl; rfl; rfl; rfl) | (apply QL.neB; rfl; rfl; rfl; rfl) | (apply WL.lenS; rfl; rfl; rfl) | (apply QL.lenS; rfl; rfl; rfl) | (apply WL.makeFunc; rfl; rfl; rfl; rfl) | (apply QL.makeFunc; rfl; rfl; rfl; rfl) | (apply WL.fa; rfl; rfl; rfl) | (apply QL.fa; rfl; rfl; rfl) | (apply WL.nck; rfl; rfl; rfl) | (apply QL.nck; rfl; rfl; rfl) | (apply WL.ld; rfl; rfl; rfl; assumption; rfl) | (apply QL.ld; rfl; rfl; rfl; assumption; rfl) | (apply WL.ldA; rfl; rfl; rfl; assumption; rfl) | (apply QL.ldA; rfl; rfl; rfl; assumption; rfl) | (apply CW.block) | (apply EX.inN) | (apply CW.condT; rfl) | (apply CW.condF; rfl) | (apply CW.exit) | (apply EX.thenX) | (apply EX.inX) | (apply EX.inXne; rfl) | (apply CW.ret) | (apply EX.thenR) | (apply EX.inR) | (apply CW.skip) | (refine WL.lenO rfl rfl rfl (by assumption) ?_) | (apply WL.isNil; rfl; rfl; rfl) | (apply CW.draw; exact mixed; kernel_rfl)))
  refine WL.call rfl rfl rfl (index_str w1 nms[i] (hn.up e1)) ?_
  rintro _ w2 ⟨rfl, rfl⟩
  (repeat (first | (apply WL.add; rfl; rfl; rfl; rfl; omega; omega) | (apply QL.add; rfl; rfl; rfl; rfl; omega; omega) | (apply WL.sub'; rfl; rfl; rfl; rfl; omega; omega) | (apply QL.sub'; rfl; rfl; rfl; rfl; omega; omega) | (apply WL.mul; rfl; rfl; rfl; rfl; omega; omega) | (apply QL.mul; rfl; rfl; rfl; rfl; omega; omega) | (apply WL.pure; rfl; rfl; rfl) | (apply QL.pure; rfl; rfl; rfl) | (apply WL.nil) | (apply EX.thenN) | (apply CW.seq) | (apply CW.region) | (apply WL.pass; rfl; rfl) | (apply QL.pass; rfl; rfl) | (apply WL.eqB; rfl; rfl; rfl; rfl) | (apply QL.eqB; rfl; rfl; rfl; rfl) | (apply WL.neB; rfl; rfl; rfl; rfl) | (apply QL.neB; rfl; rfl; rfl; rfl) | (apply WL.lenS; rfl; rfl; rfl) | (apply QL.lenS; rfl; rfl; rfl) | (apply WL.makeFunc; rfl; rfl; rfl; rfl) | (apply QL.makeFunc; rfl; rfl; rfl; rfl) | (apply WL.fa; rfl; rfl; rfl) | (apply QL.fa; rfl; rfl; rfl) | (apply WL.nck; rfl; rfl; rfl) | (apply QL.nck; rfl; rfl; rfl) | (apply WL.ld; rfl; rfl; rfl; assumption; rfl) | (apply QL.ld; rfl; rfl; rfl; assumption; rfl) | (apply WL.ldA; rfl; rfl; rfl; assumption; rfl) | (apply QL.ldA; rfl; rfl; rfl; assumption; rfl) | (apply CW.block) | (apply EX.inN) | (apply CW.condT; rfl) | (apply CW.condF; rfl) | (apply CW.exit) | (apply EX.thenX) | (apply EX.inX) | (apply EX.inXne; rfl) | (apply CW.ret) | (apply EX.thenR) | (apply EX.inR) | (apply CW.skip) | (refine WL.lenO rfl rfl rfl (by assumption) ?_) | (apply WL.isNil; rfl; rfl; rfl) | (apply CW.draw; exact mixed; kernel_rfl)))
  refine CW.cond rfl (fun h => ?_) (fun h => ?_)
  · (repeat (first | (apply WL.add; rfl; rfl; rfl; rfl; omega; omega) | (apply QL.add; rfl; rfl; rfl; rfl; omega; omega) | (apply WL.sub'; rfl; rfl; rfl; rfl; omega; omega) | (apply QL.sub'; rfl; rfl; rfl; rfl; omega; omega) | (apply WL.mul; rfl; rfl; rfl; rfl; omega; omega) | (apply QL.mul; rfl; rfl; rfl; rfl; omega; omega) | (apply WL.pure; rfl; rfl; rfl) | (apply QL.pure; rfl; rfl; rfl) | (apply WL.nil) | (apply EX.thenN) | (apply CW.seq) | (apply CW.region) | (apply WL.pass; rfl; rfl) | (apply QL.pass; rfl; rfl) | (apply WL.eqB; rfl; rfl; rfl; rfl) | (apply QL.eqB; rfl; rfl; rfl; rfl) | (apply WL.neB; rfl; rfl; rfl; rfl) | (apply QL.neB; rfl; rfl; rfl; rfl) | (apply WL.lenS; rfl; rfl; rfl) | (apply QL.lenS; rfl; rfl; rfl) | (apply WL.makeFunc; rfl; rfl; rfl; rfl) | (apply QL.makeFunc; rfl; rfl; rfl; rfl) | (apply WL.fa; rfl; rfl; rfl) | (apply QL.fa; rfl; rfl; rfl) | (apply WL.nck; rfl; rfl; rfl) | (apply QL.nck; rfl; rfl; rfl) | (apply WL.ld; rfl; rfl; rfl; assumption; rfl) | (apply QL.ld; rfl; rfl; rfl; assumption; rfl) | (apply WL.ldA; rfl; rfl; rfl; assumption; rfl) | (apply QL.ldA; rfl; rfl; rfl; assumption; rfl) | (apply CW.block) | (apply EX.inN) | (apply CW.condT; rfl) | (apply CW.condF; rfl) | (apply CW.exit) | (apply EX.thenX) | (apply EX.inX) | (apply EX.inXne; rfl) | (apply CW.ret) | (apply EX.thenR) | (apply EX.inR) | (apply CW.skip) | (refine WL.lenO rfl rfl rfl (by assumption) ?_) | (apply WL.isNil; rfl; rfl; rfl) | (apply CW.draw; exact mixed; kernel_rfl)))
    refine EX.ret1 rfl rfl ⟨?_, e1⟩
    unfold nmL; rw [if_neg h63, if_neg h1, if_neg (by rw [Int.toNat_natCast, getDNm_at hi]; exact h2), if_pos (by rw [Int.toNat_natCast, getDNm_at hi, ← idxB_of]; simpa using h)]; rfl
  (repeat (first | (apply WL.add; rfl; rfl; rfl; rfl; omega; omega) | (apply QL.add; rfl; rfl; rfl; rfl; omega; omega) | (apply WL.sub'; rfl; rfl; rfl; rfl; omega; omega) | (apply QL.sub'; rfl; rfl; rfl; rfl; omega; omega) | (apply WL.mul; rfl; rfl; rfl; rfl; omega; omega) | (apply QL.mul; rfl; rfl; rfl; rfl; omega; omega) | (apply WL.pure; rfl; rfl; rfl) | (apply QL.pure; rfl; rfl; rfl) | (apply WL.nil) | (apply EX.thenN) | (apply CW.seq) | (apply CW.region) | (apply WL.pass; rfl; rfl) | (apply QL.pass; rfl; rfl) | (apply WL.eqB; rfl; rfl; rfl; rfl) | (apply QL.eqB; rfl; rfl; rfl; rfl) | (apply WL.neB; rfl; rfl; rfl; rfl) | (apply QL.neB; rfl; rfl; rfl; rfl) | (apply WL.lenS; rfl; rfl; rfl) | (apply QL.lenS; rfl; rfl; rfl) | (apply WL.makeFunc; rfl; rfl; rfl; rfl) | (apply QL.makeFunc; rfl; rfl; rfl; rfl) | (apply WL.fa; rfl; rfl; rfl) | (apply QL.fa; rfl; rfl; rfl) | (apply WL.nck; rfl; rfl; rfl) | (apply QL.nck; rfl; rfl; rfl) | (apply WL.ld; rfl; rfl; rfl; assumption; rfl) | (apply QL.ld; rfl; rfl; rfl; assumption; rfl) | (apply WL.ldA; rfl; rfl; rfl; assumption; rfl) | (apply QL.ldA; rfl; rfl; rfl; assumption; rfl) | (apply CW.block) | (apply EX.inN) | (apply CW.condT; rfl) | (apply CW.condF; rfl) | (apply CW.exit) | (apply EX.thenX) | (apply EX.inX) | (apply EX.inXne; rfl) | (apply CW.ret) | (apply EX.thenR) | (apply EX.inR) | (apply CW.skip) | (refine WL.lenO rfl rfl rfl (by assumption) ?_) | (apply WL.isNil; rfl; rfl; rfl) | (apply CW.draw; exact mixed; kernel_rfl)))
  refine WL.elemN rfl rfl rfl rfl rfl (hn.up e1) hi (fun _ => rfl) (fun u1 q1 hu1 => ?_)
  obtain ⟨rfl, _⟩ := hu1.str
  (repeat (first | (apply WL.add; rfl; rfl; rfl; rfl; omega; omega) | (apply QL.add; rfl; rfl; rfl; rfl; omega; omega) | (apply WL.sub'; rfl; rfl; rfl; rfl; omega; omega) | (apply QL.sub'; rfl; rfl; rfl; rfl; omega; omega) | (apply WL.mul; rfl; rfl; rfl; rfl; omega; omega) | (apply QL.mul; rfl; rfl; rfl; rfl; omega; omega) | (apply WL.pure; rfl; rfl; rfl) | (apply QL.pure; rfl; rfl; rfl) | (apply WL.nil) | (apply EX.thenN) | (apply CW.seq) | (apply CW.region) | (apply WL.pass; rfl; rfl) | (apply QL.pass; rfl; rfl) | (apply WL.eqB; rfl; rfl; rfl; rfl) | (apply QL.eqB; rfl; rfl; rfl; rfl) | (apply WL.neB; rfl; rfl; rfl; rfl) | (apply QL.neB; rfl; rfl; rfl; rfl) | (apply WL.lenS; rfl; rfl; rfl) | (apply QL.lenS; rfl; rfl; rfl) | (apply WL.makeFunc; rfl; rfl; rfl; rfl) | (apply QL.makeFunc; rfl; rfl; rfl; rfl) | (apply WL.fa; rfl; rfl; rfl) | (apply QL.fa; rfl; rfl; rfl) | (apply WL.nck; rfl; rfl; rfl) | (apply QL.nck; rfl; rfl; rfl) | (apply WL.ld; rfl; rfl; rfl; assumption; rfl) | (apply QL.ld; rfl; rfl; rfl; assumption; rfl) | (apply WL.ldA; rfl; rfl; rfl; assumption; rfl) | (apply QL.ldA; rfl; rfl; rfl; assumption; rfl) | (apply CW.block) | (apply EX.inN) | (apply CW.condT; rfl) | (apply CW.condF; rfl) | (apply CW.exit) | (apply EX.thenX) | (apply EX.inX) | (apply EX.inXne; rfl) | (apply CW.ret) | (apply EX.thenR) | (apply EX.inR) | (apply CW.skip) | (refine WL.lenO rfl rfl rfl (by assumption) ?_) | (apply WL.isNil; rfl; rfl; rfl) | (apply CW.draw; exact mixed; kernel_rfl)))
  refine EX.ret1 rfl rfl ⟨?_, e1⟩
  unfold nmL; rw [if_neg h63, if_neg h1, if_neg (by rw [Int.toNat_natCast, getDNm_at hi]; exact h2), if_neg (by rw [Int.toNat_natCast, getDNm_at hi, ← idxB_of]; simpa using h)]
  rw [Int.toNat_natCast, getDNm_at hi, tV, txA_eta]
theorem lbare_ok (w0 : World) (k i x : Int) : Rt Tryd.prog 95 [.int .i64 k, .int .i64 i, .int .i64 x].toArray w0 fun v w' => v = .bool (bareL k i x) ∧ w0 = w' := by
  refine Rt.enter3 Tryd.func95 Tryd.ntmps95 rfl rfl ?_
  unfold bareL
  (repeat (first | (apply WL.add; rfl; rfl; rfl; rfl; omega; omega) | (apply QL.add; rfl; rfl; rfl; rfl; omega; omega) | (apply WL.sub'; rfl; rfl; rfl; rfl; omega; omega) | (apply QL.sub'; rfl; rfl; rfl; rfl; omega; omega) | (apply WL.mul; rfl; rfl; rfl; rfl; omega; omega) | (apply QL.mul; rfl; rfl; rfl; rfl; omega; omega) | (apply WL.pure; rfl; rfl; rfl) | (apply QL.pure; rfl; rfl; rfl) | (apply WL.nil) | (apply EX.thenN) | (apply CW.seq) | (apply CW.region) | (apply WL.pass; rfl; rfl) | (apply QL.pass; rfl; rfl) | (apply WL.eqB; rfl; rfl; rfl; rfl) | (apply QL.eqB; rfl; rfl; rfl; rfl) | (apply WL.neB; rfl; rfl; rfl; rfl) | (apply QL.neB; rfl; rfl; rfl; rfl) | (apply WL.lenS; rfl; rfl; rfl) | (apply QL.lenS; rfl; rfl; rfl) | (apply WL.makeFunc; rfl; rfl; rfl; rfl) | (apply QL.makeFunc; rfl; rfl; rfl; rfl) | (apply WL.fa; rfl; rfl; rfl) | (apply QL.fa; rfl; rfl; rfl) | (apply WL.nck; rfl; rfl; rfl) | (apply QL.nck; rfl; rfl; rfl) | (apply WL.ld; rfl; rfl; rfl; assumption; rfl) | (apply QL.ld; rfl; rfl; rfl; assumption; rfl) | (apply WL.ldA; rfl; rfl; rfl; assumption; rfl) | (apply QL.ldA; rfl; rfl; rfl; assumption; rfl) | (apply CW.block) | (apply EX.inN) | (apply CW.condT; rfl) | (apply CW.condF; rfl) | (apply CW.exit) | (apply EX.thenX) | (apply EX.inX) | (apply EX.inXne; rfl) | (apply CW.ret) | (apply EX.thenR) | (apply EX.inR) | (apply CW.skip) | (refine WL.lenO rfl rfl rfl (by assumption) ?_) | (apply WL.isNil; rfl; rfl; rfl) | (apply CW.draw; exact mixed; kernel_rfl)))
  refine CW.cond rfl (fun h => ?_) (fun h => ?_)
  · have hx : x = 5 := by simpa using h
    rw [if_pos hx]
    clear h
    (repeat (first | (apply WL.add; rfl; rfl; rfl; rfl; omega; omega) | (apply QL.add; rfl; rfl; rfl; rfl; omega; omega) | (apply WL.sub'; rfl; rfl; rfl; rfl; omega; omega) | (apply QL.sub'; rfl; rfl; rfl; rfl; omega; omega) | (apply WL.mul; rfl; rfl; rfl; rfl; omega; omega) | (apply QL.mul; rfl; rfl; rfl; rfl; omega; omega) | (apply WL.pure; rfl; rfl; rfl) | (apply QL.pure; rfl; rfl; rfl) | (apply WL.nil) | (apply EX.thenN) | (apply CW.seq) | (apply CW.region) | (apply WL.pass; rfl; rfl) | (apply QL.pass; rfl; rfl) | (apply WL.eqB; rfl; rfl; rfl; rfl) | (apply QL.eqB; rfl; rfl; rfl; rfl) | (apply WL.neB; rfl; rfl; rfl; rfl) | (apply QL.neB; rfl; rfl; rfl; rfl) | (apply WL.lenS; rfl; rfl; rfl) | (apply QL.lenS; rfl; rfl; rfl) | (apply WL.makeFunc; rfl; rfl; rfl; rfl) | (apply QL.makeFunc; rfl; rfl; rfl; rfl) | (apply WL.fa; rfl; rfl; rfl) | (apply QL.fa; rfl; rfl; rfl) | (apply WL.nck; rfl; rfl; rfl) | (apply QL.nck; rfl; rfl; rfl) | (apply WL.ld; rfl; rfl; rfl; assumption; rfl) | (apply QL.ld; rfl; rfl; rfl; assumption; rfl) | (apply WL.ldA; rfl; rfl; rfl; assumption; rfl) | (apply QL.ldA; rfl; rfl; rfl; assumption; rfl) | (apply CW.block) | (apply EX.inN) | (apply CW.condT; rfl) | (apply CW.condF; rfl) | (apply CW.exit) | (apply EX.thenX) | (apply EX.inX) | (apply EX.inXne; rfl) | (apply CW.ret) | (apply EX.thenR) | (apply EX.inR) | (apply CW.skip) | (refine WL.lenO rfl rfl rfl (by assumption) ?_) | (apply WL.isNil; rfl; rfl; rfl) | (apply CW.draw; exact mixed; kernel_rfl)))
    (first | (refine WL.lookG rfl rfl (fun h => ?_) (fun h => ?_)) | (refine WL.lookP rfl (fun h => ?_) (fun h => ?_)) | (refine QL.lookG rfl rfl (fun h => ?_) (fun h => ?_)) | (refine QL.lookP rfl (fun h => ?_) (fun h => ?_)) | (refine CW.cond rfl (fun h => ?_) (fun h => ?_)) | (refine HL.lookG rfl rfl rfl rfl (fun h => ?_) (fun h => ?_)) | (refine HL.lookP rfl rfl (fun h => ?_) (fun h => ?_)))
    · (repeat (first | (apply WL.add; rfl; rfl; rfl; rfl; omega; omega) | (apply QL.add; rfl; rfl; rfl; rfl; omega; omega) | (apply WL.sub'; rfl; rfl; rfl; rfl; omega; omega) | (apply QL.sub'; rfl; rfl; rfl; rfl; omega; omega) | (apply WL.mul; rfl; rfl; rfl; rfl; omega; omega) | (apply QL.mul; rfl; rfl; rfl; rfl; omega; omega) | (apply WL.pure; rfl; rfl; rfl) | (apply QL.pure; rfl; rfl; rfl) | (apply WL.nil) | (apply EX.thenN) | (apply CW.seq) | (apply CW.region) | (apply WL.pass; rfl; rfl) | (apply QL.pass; rfl; rfl) | (apply WL.eqB; rfl; rfl; rfl; rfl) | (apply QL.eqB; rfl; rfl; rfl; rfl) | (apply WL.neB; rfl; rfl; rfl; rfl) | (apply QL.neB; rfl; rfl; rfl; rfl) | (apply WL.lenS; rfl; rfl; rfl) | (apply QL.lenS; rfl; rfl; rfl) | (apply WL.makeFunc; rfl; rfl; rfl; rfl) | (apply QL.makeFunc; rfl; rfl; rfl; rfl) | (apply WL.fa; rfl; rfl; rfl) | (apply QL.fa; rfl; rfl; rfl) | (apply WL.nck; rfl; rfl; rfl) | (apply QL.nck; rfl; rfl; rfl) | (apply WL.ld; rfl; rfl; rfl; assumption; rfl) | (apply QL.ld; rfl; rfl; rfl; assumption; rfl) | (apply WL.ldA; rfl; rfl; rfl; assumption; rfl) | (apply QL.ldA; rfl; rfl; rfl; assumption; rfl) | (apply CW.block) | (apply EX.inN) | (apply CW.condT; rfl) | (apply CW.condF; rfl) | (apply CW.exit) | (apply EX.thenX) | (apply EX.inX) | (apply EX.inXne; rfl) | (apply CW.ret) | (apply EX.thenR) | (apply EX.inR) | (apply CW.skip) | (refine WL.lenO rfl rfl rfl (by assumption) ?_) | (apply WL.isNil; rfl; rfl; rfl) | (apply CW.draw; exact mixed; kernel_rfl)))
      exact EX.ret1 rfl rfl ⟨by rw [h]; rfl, rfl⟩
    · rw [h]
      clear h
      (repeat (first | (apply WL.add; rfl; rfl; rfl; rfl; omega; omega) | (apply QL.add; rfl; rfl; rfl; rfl; omega; omega) | (apply WL.sub'; rfl; rfl; rfl; rfl; omega; omega) | (apply QL.sub'; rfl; rfl; rfl; rfl; omega; omega) | (apply WL.mul; rfl; rfl; rfl; rfl; omega; omega) | (apply QL.mul; rfl; rfl; rfl; rfl; omega; omega) | (apply WL.pure; rfl; rfl; rfl) | (apply QL.pure; rfl; rfl; rfl) | (apply WL.nil) | (apply EX.thenN) | (apply CW.seq) | (apply CW.region) | (apply WL.pass; rfl; rfl) | (apply QL.pass; rfl; rfl) | (apply WL.eqB; rfl; rfl; rfl; rfl) | (apply QL.eqB; rfl; rfl; rfl; rfl) | (apply WL.neB; rfl; rfl; rfl; rfl) | (apply QL.neB; rfl; rfl; rfl; rfl) | (apply WL.lenS; rfl; rfl; rfl) | (apply QL.lenS; rfl; rfl; rfl) | (apply WL.makeFunc; rfl; rfl; rfl; rfl) | (apply QL.makeFunc; rfl; rfl; rfl; rfl) | (apply WL.fa; rfl; rfl; rfl) | (apply QL.fa; rfl; rfl; rfl) | (apply WL.nck; rfl; rfl; rfl) | (apply QL.nck; rfl; rfl; rfl) | (apply WL.ld; rfl; rfl; rfl; assumption; rfl) | (apply QL.ld; rfl; rfl; rfl; assumption; rfl) | (apply WL.ldA; rfl; rfl; rfl; assumption; rfl) | (apply QL.ldA; rfl; rfl; rfl; assumption; rfl) | (apply CW.block) | (apply EX.inN) | (apply CW.condT; rfl) | (apply CW.condF; rfl) | (apply CW.exit) | (apply EX.thenX) | (apply EX.inX) | (apply EX.inXne; rfl) | (apply CW.ret) | (apply EX.thenR) | (apply EX.inR) | (apply CW.skip) | (refine WL.lenO rfl rfl rfl (by assumption) ?_) | (apply WL.isNil; rfl; rfl; rfl) | (apply CW.draw; exact mixed; kernel_rfl)))
      (first | (refine WL.lookG rfl rfl (fun h => ?_) (fun h => ?_)) | (refine WL.lookP rfl (fun h => ?_) (fun h => ?_)) | (refine QL.lookG rfl rfl (fun h => ?_) (fun h => ?_)) | (refine QL.lookP rfl (fun h => ?_) (fun h => ?_)) | (refine CW.cond rfl (fun h => ?_) (fun h => ?_)) | (refine HL.lookG rfl rfl rfl rfl (fun h => ?_) (fun h => ?_)) | (refine HL.lookP rfl rfl (fun h => ?_) (fun h => ?_)))
      · (repeat (first | (apply WL.add; rfl; rfl; rfl; rfl; omega; omega) | (apply QL.add; rfl; rfl; rfl; rfl; omega; omega) | (apply WL.sub'; rfl; rfl; rfl; rfl; omega; omega) | (apply QL.sub'; rfl; rfl; rfl; rfl; omega; omega) | (apply WL.mul; rfl; rfl; rfl; rfl; omega; omega) | (apply QL.mul; rfl; rfl; rfl; rfl; omega; omega) | (apply WL.pure; rfl; rfl; rfl) | (apply QL.pure; rfl; rfl; rfl) | (apply WL.nil) | (apply EX.thenN) | (apply CW.seq) | (apply CW.region) | (apply WL.pass; rfl; rfl) | (apply QL.pass; rfl; rfl) | (apply WL.eqB; rfl; rfl; rfl; rfl) | (apply QL.eqB; rfl; rfl; rfl; rfl) | (apply WL.neB; rfl; rfl; rfl; rfl) | (apply QL.neB; rfl; rfl; rfl; rfl) | (apply WL.lenS; rfl; rfl; rfl) | (apply QL.lenS; rfl; rfl; rfl) | (apply WL.makeFunc; rfl; rfl; rfl; rfl) | (apply QL.makeFunc; rfl; rfl; rfl; rfl) | (apply WL.fa; rfl; rfl; rfl) | (apply QL.fa; rfl; rfl; rfl) | (apply WL.nck; rfl; rfl; rfl) | (apply QL.nck; rfl; rfl; rfl) | (apply WL.ld; rfl; rfl; rfl; assumption; rfl) | (apply QL.ld; rfl; rfl; rfl; assumption; rfl) | (apply WL.ldA; rfl; rfl; rfl; assumption; rfl) | (apply QL.ldA; rfl; rfl; rfl; assumption; rfl) | (apply CW.block) | (apply EX.inN) | (apply CW.condT; rfl) | (apply CW.condF; rfl) | (apply CW.exit) | (apply EX.thenX) | (apply EX.inX) | (apply EX.inXne; rfl) | (apply CW.ret) | (apply EX.thenR) | (apply EX.inR) | (apply CW.skip) | (refine WL.lenO rfl rfl rfl (by assumption) ?_) | (apply WL.isNil; rfl; rfl; rfl) | (apply CW.draw; exact mixed; kernel_rfl)))
        exact EX.ret1 rfl rfl ⟨by rw [h]; rfl, rfl⟩
      · (repeat (first | (apply WL.add; rfl; rfl; rfl; rfl; omega; omega) | (apply QL.add; rfl; rfl; rfl; rfl; omega; omega) | (apply WL.sub'; rfl; rfl; rfl; rfl; omega; omega) | (apply QL.sub'; rfl; rfl; rfl; rfl; omega; omega) | (apply WL.mul; rfl; rfl; rfl; rfl; omega; omega) | (apply QL.mul; rfl; rfl; rfl; rfl; omega; omega) | (apply WL.pure; rfl; rfl; rfl) | (apply QL.pure; rfl; rfl; rfl) | (apply WL.nil) | (apply EX.thenN) | (apply CW.seq) | (apply CW.region) | (apply WL.pass; rfl; rfl) | (apply QL.pass; rfl; rfl) | (apply WL.eqB; rfl; rfl; rfl; rfl) | (apply QL.eqB; rfl; rfl; rfl; rfl) | (apply WL.neB; rfl; rfl; rfl; rfl) | (apply QL.neB; rfl; rfl; rfl; rfl) | (apply WL.lenS; rfl; rfl; rfl) | (apply QL.lenS; rfl; rfl; rfl) | (apply WL.makeFunc; rfl; rfl; rfl; rfl) | (apply QL.makeFunc; rfl; rfl; rfl; rfl) | (apply WL.fa; rfl; rfl; rfl) | (apply QL.fa; rfl; rfl; rfl) | (apply WL.nck; rfl; rfl; rfl) | (apply QL.nck; rfl; rfl; rfl) | (apply WL.ld; rfl; rfl; rfl; assumption; rfl) | (apply QL.ld; rfl; rfl; rfl; assumption; rfl) | (apply WL.ldA; rfl; rfl; rfl; assumption; rfl) | (apply QL.ldA; rfl; rfl; rfl; assumption; rfl) | (apply CW.block) | (apply EX.inN) | (apply CW.condT; rfl) | (apply CW.condF; rfl) | (apply CW.exit) | (apply EX.thenX) | (apply EX.inX) | (apply EX.inXne; rfl) | (apply CW.ret) | (apply EX.thenR) | (apply EX.inR) | (apply CW.skip) | (refine WL.lenO rfl rfl rfl (by assumption) ?_) | (apply WL.isNil; rfl; rfl; rfl) | (apply CW.draw; exact mixed; kernel_rfl)))
        exact EX.ret1 rfl rfl ⟨by rw [h]; rfl, rfl⟩
  have h5 : ¬ x = 5 := by simpa using h
  rw [if_neg h5]
  (repeat (first | (apply WL.add; rfl; rfl; rfl; rfl; omega; omega) | (apply QL.add; rfl; rfl; rfl; rfl; omega; omega) | (apply WL.sub'; rfl; rfl; rfl; rfl; omega; omega) | (apply QL.sub'; rfl; rfl; rfl; rfl; omega; omega) | (apply WL.mul; rfl; rfl; rfl; rfl; omega; omega) | (apply QL.mul; rfl; rfl; rfl; rfl; omega; omega) | (apply WL.pure; rfl; rfl; rfl) | (apply QL.pure; rfl; rfl; rfl) | (apply WL.nil) | (apply EX.thenN) | (apply CW.seq) | (apply CW.region) | (apply WL.pass; rfl; rfl) | (apply QL.pass; rfl; rfl) | (apply WL.eqB; rfl; rfl; rfl; rfl) | (apply QL.eqB; rfl; rfl; rfl; rfl) | (apply WL.neB; rfl; rfl; rfl; rfl) | (apply QL.neB; rfl; rfl; rfl; rfl) | (apply WL.lenS; rfl; rfl; rfl) | (apply QL.lenS; rfl; rfl; rfl) | (apply WL.makeFunc; rfl; rfl; rfl; rfl) | (apply QL.makeFunc; rfl; rfl; rfl; rfl) | (apply WL.fa; rfl; rfl; rfl) | (apply QL.fa; rfl; rfl; rfl) | (apply WL.nck; rfl; rfl; rfl) | (apply QL.nck; rfl; rfl; rfl) | (apply WL.ld; rfl; rfl; rfl; assumption; rfl) | (apply QL.ld; rfl; rfl; rfl; assumption; rfl) | (apply WL.ldA; rfl; rfl; rfl; assumption; rfl) | (apply QL.ldA; rfl; rfl; rfl; assumption; rfl) | (apply CW.block) | (apply EX.inN) | (apply CW.condT; rfl) | (apply CW.condF; rfl) | (apply CW.exit) | (apply EX.thenX) | (apply EX.inX) | (apply EX.inXne; rfl) | (apply CW.ret) | (apply EX.thenR) | (apply EX.inR) | (apply CW.skip) | (refine WL.lenO rfl rfl rfl (by assumption) ?_) | (apply WL.isNil; rfl; rfl; rfl) | (apply CW.draw; exact mixed; kernel_rfl)))
  refine CW.cond rfl (fun h => ?_) (fun h => ?_)
  · have h : x = 6 := by simpa using h
    rw [if_pos h]
    clear h
    (repeat (first | (apply WL.add; rfl; rfl; rfl; rfl; omega; omega) | (apply QL.add; rfl; rfl; rfl; rfl; omega; omega) | (apply WL.sub'; rfl; rfl; rfl; rfl; omega; omega) | (apply QL.sub'; rfl; rfl; rfl; rfl; omega; omega) | (apply WL.mul; rfl; rfl; rfl; rfl; omega; omega) | (apply QL.mul; rfl; rfl; rfl; rfl; omega; omega) | (apply WL.pure; rfl; rfl; rfl) | (apply QL.pure; rfl; rfl; rfl) | (apply WL.nil) | (apply EX.thenN) | (apply CW.seq) | (apply CW.region) | (apply WL.pass; rfl; rfl) | (apply QL.pass; rfl; rfl) | (apply WL.eqB; rfl; rfl; rfl; rfl) | (apply QL.eqB; rfl; rfl; rfl; rfl) | (apply WL.neB; rfl; rfl; rfl; rfl) | (apply QL.neB; rfl; rfl; rfl; rfl) | (apply WL.lenS; rfl; rfl; rfl) | (apply QL.lenS; rfl; rfl; rfl) | (apply WL.makeFunc; rfl; rfl; rfl; rfl) | (apply QL.makeFunc; rfl; rfl; rfl; rfl) | (apply WL.fa; rfl; rfl; rfl) | (apply QL.fa; rfl; rfl; rfl) | (apply WL.nck; rfl; rfl; rfl) | (apply QL.nck; rfl; rfl; rfl) | (apply WL.ld; rfl; rfl; rfl; assumption; rfl) | (apply QL.ld; rfl; rfl; rfl; assumption; rfl) | (apply WL.ldA; rfl; rfl; rfl; assumption; rfl) | (apply QL.ldA; rfl; rfl; rfl; assumption; rfl) | (apply CW.block) | (apply EX.inN) | (apply CW.condT; rfl) | (apply CW.condF; rfl) | (apply CW.exit) | (apply EX.thenX) | (apply EX.inX) | (apply EX.inXne; rfl) | (apply CW.ret) | (apply EX.thenR) | (apply EX.inR) | (apply CW.skip) | (refine WL.lenO rfl rfl rfl (by assumption) ?_) | (apply WL.isNil; rfl; rfl; rfl) | (apply CW.draw; exact mixed; kernel_rfl)))
    (first | (refine WL.lookG rfl rfl (fun h => ?_) (fun h => ?_)) | (refine WL.lookP rfl (fun h => ?_) (fun h => ?_)) | (refine QL.lookG rfl rfl (fun h => ?_) (fun h => ?_)) | (refine QL.lookP rfl (fun h => ?_) (fun h => ?_)) | (refine CW.cond rfl (fun h => ?_) (fun h => ?_)) | (refine HL.lookG rfl rfl rfl rfl (fun h => ?_) (fun h => ?_)) | (refine HL.lookP rfl rfl (fun h => ?_) (fun h => ?_)))
    · (repeat (first | (apply WL.add; rfl; rfl; rfl; rfl; omega; omega) | (apply QL.add; rfl; rfl; rfl; rfl; omega; omega) | (apply WL.sub'; rfl; rfl; rfl; rfl; omega; omega) | (apply QL.sub'; rfl; rfl; rfl; rfl; omega; omega) | (apply WL.mul; rfl; rfl; rfl; rfl; omega; omega) | (apply QL.mul; rfl; rfl; rfl; rfl; omega; omega) | (apply WL.pure; rfl; rfl; rfl) | (apply QL.pure; rfl; rfl; rfl) | (apply WL.nil) | (apply EX.thenN) | (apply CW.seq) | (apply CW.region) | (apply WL.pass; rfl; rfl) | (apply QL.pass; rfl; rfl) | (apply WL.eqB; rfl; rfl; rfl; rfl) | (apply QL.eqB; rfl; rfl; rfl; rfl) | (apply WL.neB; rfl; rfl; rfl; rfl) | (apply QL.neB; rfl; rfl; rfl; rfl) | (apply WL.lenS; rfl; rfl; rfl) | (apply QL.lenS; rfl; rfl; rfl) | (apply WL.makeFunc; rfl; rfl; rfl; rfl) | (apply QL.makeFunc; rfl; rfl; rfl; rfl) | (apply WL.fa; rfl; rfl; rfl) | (apply QL.fa; rfl; rfl; rfl) | (apply WL.nck; rfl; rfl; rfl) | (apply QL.nck; rfl; rfl; rfl) | (apply WL.ld; rfl; rfl; rfl; assumption; rfl) | (apply QL.ld; rfl; rfl; rfl; assumption; rfl) | (apply WL.ldA; rfl; rfl; rfl; assumption; rfl) | (apply QL.ldA; rfl; rfl; rfl; assumption; rfl) | (apply CW.block) | (apply EX.inN) | (apply CW.condT; rfl) | (apply CW.condF; rfl) | (apply CW.exit) | (apply EX.thenX) | (apply EX.inX) | (apply EX.inXne; rfl) | (apply CW.ret) | (apply EX.thenR) | (apply EX.inR) | (apply CW.skip) | (refine WL.lenO rfl rfl rfl (by assumption) ?_) | (apply WL.isNil; rfl; rfl; rfl) | (apply CW.draw; exact mixed; kernel_rfl)))
      exact EX.ret1 rfl rfl ⟨by rw [h]; rfl, rfl⟩
    · (repeat (first | (apply WL.add; rfl; rfl; rfl; rfl; omega; omega) | (apply QL.add; rfl; rfl; rfl; rfl; omega; omega) | (apply WL.sub'; rfl; rfl; rfl; rfl; omega; omega) | (apply QL.sub'; rfl; rfl; rfl; rfl; omega; omega) | (apply WL.mul; rfl; rfl; rfl; rfl; omega; omega) | (apply QL.mul; rfl; rfl; rfl; rfl; omega; omega) | (apply WL.pure; rfl; rfl; rfl) | (apply QL.pure; rfl; rfl; rfl) | (apply WL.nil) | (apply EX.thenN) | (apply CW.seq) | (apply CW.region) | (apply WL.pass; rfl; rfl) | (apply QL.pass; rfl; rfl) | (apply WL.eqB; rfl; rfl; rfl; rfl) | (apply QL.eqB; rfl; rfl; rfl; rfl) | (apply WL.neB; rfl; rfl; rfl; rfl) | (apply QL.neB; rfl; rfl; rfl; rfl) | (apply WL.lenS; rfl; rfl; rfl) | (apply QL.lenS; rfl; rfl; rfl) | (apply WL.makeFunc; rfl; rfl; rfl; rfl) | (apply QL.makeFunc; rfl; rfl; rfl; rfl) | (apply WL.fa; rfl; rfl; rfl) | (apply QL.fa; rfl; rfl; rfl) | (apply WL.nck; rfl; rfl; rfl) | (apply QL.nck; rfl; rfl; rfl) | (apply WL.ld; rfl; rfl; rfl; assumption; rfl) | (apply QL.ld; rfl; rfl; rfl; assumption; rfl) | (apply WL.ldA; rfl; rfl; rfl; assumption; rfl) | (apply QL.ldA; rfl; rfl; rfl; assumption; rfl) | (apply CW.block) | (apply EX.inN) | (apply CW.condT; rfl) | (apply CW.condF; rfl) | (apply CW.exit) | (apply EX.thenX) | (apply EX.inX) | (apply EX.inXne; rfl) | (apply CW.ret) | (apply EX.thenR) | (apply EX.inR) | (apply CW.skip) | (refine WL.lenO rfl rfl rfl (by assumption) ?_) | (apply WL.isNil; rfl; rfl; rfl) | (apply CW.draw; exact mixed; kernel_rfl)))
      exact EX.ret1 rfl rfl ⟨by rw [h]; rfl, rfl⟩
  have h6 : ¬ x = 6 := by simpa using h
  rw [if_neg h6]
  refine CW.cut [(0, .int .i64 k), (1, .int .i64 i), (2, .int .i64 x), (28, .bool (decide (x = 8 ∨ x = 9)))] ?_ ?_
  · (repeat (first | (apply WL.add; rfl; rfl; rfl; rfl; omega; omega) | (apply QL.add; rfl; rfl; rfl; rfl; omega; omega) | (apply WL.sub'; rfl; rfl; rfl; rfl; omega; omega) | (apply QL.sub'; rfl; rfl; rfl; rfl; omega; omega) | (apply WL.mul; rfl; rfl; rfl; rfl; omega; omega) | (apply QL.mul; rfl; rfl; rfl; rfl; omega; omega) | (apply WL.pure; rfl; rfl; rfl) | (apply QL.pure; rfl; rfl; rfl) | (apply WL.nil) | (apply EX.thenN) | (apply CW.seq) | (apply CW.region) | (apply WL.pass; rfl; rfl) | (apply QL.pass; rfl; rfl) | (apply WL.eqB; rfl; rfl; rfl; rfl) | (apply QL.eqB; rfl; rfl; rfl; rfl) | (apply WL.neB; rfl; rfl; rfl; rfl) | (apply QL.neB; rfl; rfl; rfl; rfl) | (apply WL.lenS; rfl; rfl; rfl) | (apply QL.lenS; rfl; rfl; rfl) | (apply WL.makeFunc; rfl; rfl; rfl; rfl) | (apply QL.makeFunc; rfl; rfl; rfl; rfl) | (apply WL.fa; rfl; rfl; rfl) | (apply QL.fa; rfl; rfl; rfl) | (apply WL.nck; rfl; rfl; rfl) | (apply QL.nck; rfl; rfl; rfl) | (apply WL.ld; rfl; rfl; rfl; assumption; rfl) | (apply QL.ld; rfl; rfl; rfl; assumption; rfl) | (apply WL.ldA; rfl; rfl; rfl; assumption; rfl) | (apply QL.ldA; rfl; rfl; rfl; assumption; rfl) | (apply CW.block) | (apply EX.inN) | (apply CW.condT; rfl) | (apply CW.condF; rfl) | (apply CW.exit) | (apply EX.thenX) | (apply EX.inX) | (apply EX.inXne; rfl) | (apply CW.ret) | (apply EX.thenR) | (apply EX.inR) | (apply CW.skip) | (refine WL.lenO rfl rfl rfl (by assumption) ?_) | (apply WL.isNil; rfl; rfl; rfl) | (apply CW.draw; exact mixed; kernel_rfl)))
    refine CW.cond rfl (fun h => ?_) (fun h => ?_)
    · (repeat (first | (apply WL.add; rfl; rfl; rfl; rfl; omega; omega) | (apply QL.add; rfl; rfl; rfl; rfl; omega; omega) | (apply WL.sub'; rfl; rfl; rfl; rfl; omega; omega) | (apply QL.sub'; rfl; rfl; rfl; rfl; omega; omega) | (apply WL.mul; rfl; rfl; rfl; rfl; omega; omega) | (apply QL.mul; rfl; rfl; rfl; rfl; omega; omega) | (apply WL.pure; rfl; rfl; rfl) | (apply QL.pure; rfl; rfl; rfl) | (apply WL.nil) | (apply EX.thenN) | (apply CW.seq) | (apply CW.region) | (apply WL.pass; rfl; rfl) | (apply QL.pass; rfl; rfl) | (apply WL.eqB; rfl; rfl; rfl; rfl) | (apply QL.eqB; rfl; rfl; rfl; rfl) | (apply WL.neB; rfl; rfl; rfl; rfl) | (apply QL.neB; rfl; rfl; rfl; rfl) | (apply WL.lenS; rfl; rfl; rfl) | (apply QL.lenS; rfl; rfl; rfl) | (apply WL.makeFunc; rfl; rfl; rfl; rfl) | (apply QL.makeFunc; rfl; rfl; rfl; rfl) | (apply WL.fa; rfl; rfl; rfl) | (apply QL.fa; rfl; rfl; rfl) | (apply WL.nck; rfl; rfl; rfl) | (apply QL.nck; rfl; rfl; rfl) | (apply WL.ld; rfl; rfl; rfl; assumption; rfl) | (apply QL.ld; rfl; rfl; rfl; assumption; rfl) | (apply WL.ldA; rfl; rfl; rfl; assumption; rfl) | (apply QL.ldA; rfl; rfl; rfl; assumption; rfl) | (apply CW.block) | (apply EX.inN) | (apply CW.condT; rfl) | (apply CW.condF; rfl) | (apply CW.exit) | (apply EX.thenX) | (apply EX.inX) | (apply EX.inXne; rfl) | (apply CW.ret) | (apply EX.thenR) | (apply EX.inR) | (apply CW.skip) | (refine WL.lenO rfl rfl rfl (by assumption) ?_) | (apply WL.isNil; rfl; rfl; rfl) | (apply CW.draw; exact mixed; kernel_rfl)))
      refine EX.cut ⟨rfl, rfl, rfl, ?_, trivial⟩
      refine congrArg (fun b => some (Value.bool b)) ?_
      have : x = 8 := by simpa using h
      simp [this]
    · (repeat (first | (apply WL.add; rfl; rfl; rfl; rfl; omega; omega) | (apply QL.add; rfl; rfl; rfl; rfl; omega; omega) | (apply WL.sub'; rfl; rfl; rfl; rfl; omega; omega) | (apply QL.sub'; rfl; rfl; rfl; rfl; omega; omega) | (apply WL.mul; rfl; rfl; rfl; rfl; omega; omega) | (apply QL.mul; rfl; rfl; rfl; rfl; omega; omega) | (apply WL.pure; rfl; rfl; rfl) | (apply QL.pure; rfl; rfl; rfl) | (apply WL.nil) | (apply EX.thenN) | (apply CW.seq) | (apply CW.region) | (apply WL.pass; rfl; rfl) | (apply QL.pass; rfl; rfl) | (apply WL.eqB; rfl; rfl; rfl; rfl) | (apply QL.eqB; rfl; rfl; rfl; rfl) | (apply WL.neB; rfl; rfl; rfl; rfl) | (apply QL.neB; rfl; rfl; rfl; rfl) | (apply WL.lenS; rfl; rfl; rfl) | (apply QL.lenS; rfl; rfl; rfl) | (apply WL.makeFunc; rfl; rfl; rfl; rfl) | (apply QL.makeFunc; rfl; rfl; rfl; rfl) | (apply WL.fa; rfl; rfl; rfl) | (apply QL.fa; rfl; rfl; rfl) | (apply WL.nck; rfl; rfl; rfl) | (apply QL.nck; rfl; rfl; rfl) | (apply WL.ld; rfl; rfl; rfl; assumption; rfl) | (apply QL.ld; rfl; rfl; rfl; assumption; rfl) | (apply WL.ldA; rfl; rfl; rfl; assumption; rfl) | (apply QL.ldA; rfl; rfl; rfl; assumption; rfl) | (apply CW.block) | (apply EX.inN) | (apply CW.condT; rfl) | (apply CW.condF; rfl) | (apply CW.exit) | (apply EX.thenX) | (apply EX.inX) | (apply EX.inXne; rfl) | (apply CW.ret) | (apply EX.thenR) | (apply EX.inR) | (apply CW.skip) | (refine WL.lenO rfl rfl rfl (by assumption) ?_) | (apply WL.isNil; rfl; rfl; rfl) | (apply CW.draw; exact mixed; kernel_rfl)))
      refine EX.cut ⟨rfl, rfl, rfl, ?_, trivial⟩
      refine congrArg (fun b => some (Value.bool b)) ?_
      have : ¬ x = 8 := by simpa using h
      rw [Bool.eq_iff_iff]; simp [this]
  refine CW.cond rfl (fun h => ?_) (fun h => ?_)
  · rw [if_pos (by simpa using h)]
    clear h
    (repeat (first | (apply WL.add; rfl; rfl; rfl; rfl; omega; omega) | (apply QL.add; rfl; rfl; rfl; rfl; omega; omega) | (apply WL.sub'; rfl; rfl; rfl; rfl; omega; omega) | (apply QL.sub'; rfl; rfl; rfl; rfl; omega; omega) | (apply WL.mul; rfl; rfl; rfl; rfl; omega; omega) | (apply QL.mul; rfl; rfl; rfl; rfl; omega; omega) | (apply WL.pure; rfl; rfl; rfl) | (apply QL.pure; rfl; rfl; rfl) | (apply WL.nil) | (apply EX.thenN) | (apply CW.seq) | (apply CW.region) | (apply WL.pass; rfl; rfl) | (apply QL.pass; rfl; rfl) | (apply WL.eqB; rfl; rfl; rfl; rfl) | (apply QL.eqB; rfl; rfl; rfl; rfl) | (apply WL.neB; rfl; rfl; rfl; rfl) | (apply QL.neB; rfl; rfl; rfl; rfl) | (apply WL.lenS; rfl; rfl; rfl) | (apply QL.lenS; rfl; rfl; rfl) | (apply WL.makeFunc; rfl; rfl; rfl; rfl) | (apply QL.makeFunc; rfl; rfl; rfl; rfl) | (apply WL.fa; rfl; rfl; rfl) | (apply QL.fa; rfl; rfl; rfl) | (apply WL.nck; rfl; rfl; rfl) | (apply QL.nck; rfl; rfl; rfl) | (apply WL.ld; rfl; rfl; rfl; assumption; rfl) | (apply QL.ld; rfl; rfl; rfl; assumption; rfl) | (apply WL.ldA; rfl; rfl; rfl; assumption; rfl) | (apply QL.ldA; rfl; rfl; rfl; assumption; rfl) | (apply CW.block) | (apply EX.inN) | (apply CW.condT; rfl) | (apply CW.condF; rfl) | (apply CW.exit) | (apply EX.thenX) | (apply EX.inX) | (apply EX.inXne; rfl) | (apply CW.ret) | (apply EX.thenR) | (apply EX.inR) | (apply CW.skip) | (refine WL.lenO rfl rfl rfl (by assumption) ?_) | (apply WL.isNil; rfl; rfl; rfl) | (apply CW.draw; exact mixed; kernel_rfl)))
    (first | (refine WL.lookG rfl rfl (fun h => ?_) (fun h => ?_)) | (refine WL.lookP rfl (fun h => ?_) (fun h => ?_)) | (refine QL.lookG rfl rfl (fun h => ?_) (fun h => ?_)) | (refine QL.lookP rfl (fun h => ?_) (fun h => ?_)) | (refine CW.cond rfl (fun h => ?_) (fun h => ?_)) | (refine HL.lookG rfl rfl rfl rfl (fun h => ?_) (fun h => ?_)) | (refine HL.lookP rfl rfl (fun h => ?_) (fun h => ?_)))
    · (repeat (first | (apply WL.add; rfl; rfl; rfl; rfl; omega; omega) | (apply QL.add; rfl; rfl; rfl; rfl; omega; omega) | (apply WL.sub'; rfl; rfl; rfl; rfl; omega; omega) | (apply QL.sub'; rfl; rfl; rfl; rfl; omega; omega) | (apply WL.mul; rfl; rfl; rfl; rfl; omega; omega) | (apply QL.mul; rfl; rfl; rfl; rfl; omega; omega) | (apply WL.pure; rfl; rfl; rfl) | (apply QL.pure; rfl; rfl; rfl) | (apply WL.nil) | (apply EX.thenN) | (apply CW.seq) | (apply CW.region) | (apply WL.pass; rfl; rfl) | (apply QL.pass; rfl; rfl) | (apply WL.eqB; rfl; rfl; rfl; rfl) | (apply QL.eqB; rfl; rfl; rfl; rfl) | (apply WL.neB; rfl; rfl; rfl; rfl) | (apply QL.neB; rfl; rfl; rfl; rfl) | (apply WL.lenS; rfl; rfl; rfl) | (apply QL.lenS; rfl; rfl; rfl) | (apply WL.makeFunc; rfl; rfl; rfl; rfl) | (apply QL.makeFunc; rfl; rfl; rfl; rfl) | (apply WL.fa; rfl; rfl; rfl) | (apply QL.fa; rfl; rfl; rfl) | (apply WL.nck; rfl; rfl; rfl) | (apply QL.nck; rfl; rfl; rfl) | (apply WL.ld; rfl; rfl; rfl; assumption; rfl) | (apply QL.ld; rfl; rfl; rfl; assumption; rfl) | (apply WL.ldA; rfl; rfl; rfl; assumption; rfl) | (apply QL.ldA; rfl; rfl; rfl; assumption; rfl) | (apply CW.block) | (apply EX.inN) | (apply CW.condT; rfl) | (apply CW.condF; rfl) | (apply CW.exit) | (apply EX.thenX) | (apply EX.inX) | (apply EX.inXne; rfl) | (apply CW.ret) | (apply EX.thenR) | (apply EX.inR) | (apply CW.skip) | (refine WL.lenO rfl rfl rfl (by assumption) ?_) | (apply WL.isNil; rfl; rfl; rfl) | (apply CW.draw; exact mixed; kernel_rfl)))
      exact EX.ret1 rfl rfl ⟨by rw [h]; rfl, rfl⟩
    · (repeat (first | (apply WL.add; rfl; rfl; rfl; rfl; omega; omega) | (apply QL.add; rfl; rfl; rfl; rfl; omega; omega) | (apply WL.sub'; rfl; rfl; rfl; rfl; omega; omega) | (apply QL.sub'; rfl; rfl; rfl; rfl; omega; omega) | (apply WL.mul; rfl; rfl; rfl; rfl; omega; omega) | (apply QL.mul; rfl; rfl; rfl; rfl; omega; omega) | (apply WL.pure; rfl; rfl; rfl) | (apply QL.pure; rfl; rfl; rfl) | (apply WL.nil) | (apply EX.thenN) | (apply CW.seq) | (apply CW.region) | (apply WL.pass; rfl; rfl) | (apply QL.pass; rfl; rfl) | (apply WL.eqB; rfl; rfl; rfl; rfl) | (apply QL.eqB; rfl; rfl; rfl; rfl) | (apply WL.neB; rfl; rfl; rfl; rfl) | (apply QL.neB; rfl; rfl; rfl; rfl) | (apply WL.lenS; rfl; rfl; rfl) | (apply QL.lenS; rfl; rfl; rfl) | (apply WL.makeFunc; rfl; rfl; rfl; rfl) | (apply QL.makeFunc; rfl; rfl; rfl; rfl) | (apply WL.fa; rfl; rfl; rfl) | (apply QL.fa; rfl; rfl; rfl) | (apply WL.nck; rfl; rfl; rfl) | (apply QL.nck; rfl; rfl; rfl) | (apply WL.ld; rfl; rfl; rfl; assumption; rfl) | (apply QL.ld; rfl; rfl; rfl; assumption; rfl) | (apply WL.ldA; rfl; rfl; rfl; assumption; rfl) | (apply QL.ldA; rfl; rfl; rfl; assumption; rfl) | (apply CW.block) | (apply EX.inN) | (apply CW.condT; rfl) | (apply CW.condF; rfl) | (apply CW.exit) | (apply EX.thenX) | (apply EX.inX) | (apply EX.inXne; rfl) | (apply CW.ret) | (apply EX.thenR) | (apply EX.inR) | (apply CW.skip) | (refine WL.lenO rfl rfl rfl (by assumption) ?_) | (apply WL.isNil; rfl; rfl; rfl) | (apply CW.draw; exact mixed; kernel_rfl)))
      exact EX.ret1 rfl rfl ⟨by rw [h]; rfl, rfl⟩
  · rw [if_neg (by simpa using h)]
    (repeat (first | (apply WL.add; rfl; rfl; rfl; rfl; omega; omega) | (apply QL.add; rfl; rfl; rfl; rfl; omega; omega) | (apply WL.sub'; rfl; rfl; rfl; rfl; omega; omega) | (apply QL.sub'; rfl; rfl; rfl; rfl; omega; omega) | (apply WL.mul; rfl; rfl; rfl; rfl; omega; omega) | (apply QL.mul; rfl; rfl; rfl; rfl; omega; omega) | (apply WL.pure; rfl; rfl; rfl) | (apply QL.pure; rfl; rfl; rfl) | (apply WL.nil) | (apply EX.thenN) | (apply CW.seq) | (apply CW.region) | (apply WL.pass; rfl; rfl) | (apply QL.pass; rfl; rfl) | (apply WL.eqB; rfl; rfl; rfl; rfl) | (apply QL.eqB; rfl; rfl; rfl; rfl) | (apply WL.neB; rfl; rfl; rfl; rfl) | (apply QL.neB; rfl; rfl; rfl; rfl) | (apply WL.lenS; rfl; rfl; rfl) | (apply QL.lenS; rfl; rfl; rfl) | (apply WL.makeFunc; rfl; rfl; rfl; rfl) | (apply QL.makeFunc; rfl; rfl; rfl; rfl) | (apply WL.fa; rfl; rfl; rfl) | (apply QL.fa; rfl; rfl; rfl) | (apply WL.nck; rfl; rfl; rfl) | (apply QL.nck; rfl; rfl; rfl) | (apply WL.ld; rfl; rfl; rfl; assumption; rfl) | (apply QL.ld; rfl; rfl; rfl; assumption; rfl) | (apply WL.ldA; rfl; rfl; rfl; assumption; rfl) | (apply QL.ldA; rfl; rfl; rfl; assumption; rfl) | (apply CW.block) | (apply EX.inN) | (apply CW.condT; rfl) | (apply CW.condF; rfl) | (apply CW.exit) | (apply EX.thenX) | (apply EX.inX) | (apply EX.inXne; rfl) | (apply CW.ret) | (apply EX.thenR) | (apply EX.inR) | (apply CW.skip) | (refine WL.lenO rfl rfl rfl (by assumption) ?_) | (apply WL.isNil; rfl; rfl; rfl) | (apply CW.draw; exact mixed; kernel_rfl)))
    exact EX.ret1 rfl rfl ⟨rfl, rfl⟩
end Go.Proofs.YtikigaeihdmcaaaDoor

/-
  ltl.Print, walked: the text.
-/
set_option linter.unusedVariables false
set_option linter.unusedSimpArgs false
namespace Go.Proofs.YtikigaeihdmcaaaDoor
open Go.RowKit

theorem mk_k (k n : Int) (l : List Ltl) : (Ltl.mk k n l).k = k := rfl
theorem mk_n (k n : Int) (l : List Ltl) : (Ltl.mk k n l).n = n := rfl
theorem mk_kids (k n : Int) (l : List Ltl) : (Ltl.mk k n l).kids = l := rfl
theorem shT_inv {kk : Int → Int} {k n : Int} {kids : List Ltl} (h : ShT kk (.mk k n kids)) : kk k = kids.length ∧ 0 ≤ n ∧ n ≤ 63 ∧ ∀ x ∈ kids, ShT kk x := by
  cases h with
  | mk _ _ _ h1 h2 h3 h4 => exact ⟨h1, h2, h3, h4⟩
theorem txtL_bin {nm : Int → Bys} {k n : Int} {x y : Ltl} (hk : k = 5 ∨ k = 6 ∨ k = 8 ∨ k = 9) :
    txtL nm (.mk k n [x, y]) = kidT (bareL k 0 x.k) (txtL nm x) ++ [32] ++ sigL k ++ [32] ++ kidT (bareL k 1 y.k) (txtL nm y) := by
  rcases hk with rfl | rfl | rfl | rfl <;> simp [txtL, txtLs, joinL]
theorem kid_cells {w : World} {F : Nat → Prop} {es : List Value} {x : Ltl} (h : rd w F es x) {b off : Nat} (hc : Cells w b off es) : Cells w b off [.int .i64 x.k] := by
  obtain ⟨ao, cap, rfl, _⟩ := RdT.sl h
  intro j u hu
  cases j with
  | zero => exact hc 0 u hu
  | succ j => simp at hu
/-- a writer of texts -/
abbrev WrB (w : World) (bw : Nat) (no : Option Addr) (len nc : Nat) (b : Bool) : Prop := Blk w bw 81 [.slice no len nc, .bool b]
def LText (t : Ltl) : Prop := ∀ (w : World) (F : Nat → Prop) (bw : Nat) (ao : Option Addr) (cap : Nat) (no : Option Addr) (nc : Nat) (nms : List ByteArray) (b : Bool), Sl w F ao cap t.kids → Sl w F no nc nms → (∀ k, F k → k < w.heap.size) → ¬ F bw → WrB w bw no nms.length nc b →
  Rt Tryd.prog 33 [.pointer (some ⟨bw, 0, none⟩), ltlV t.k t.n ao t.kids.length cap].toArray w fun v w' => v = tV (txtL (nmL nms) t) ∧ WrB w' bw no nms.length nc (b || badF (nmL nms) t) ∧ w.grownBy w' (some bw)
theorem lkid_ok {t : Ltl} {i : Nat} (hi : i < t.kids.length) (ih : LText t.kids[i]) (hl : t.kids[i].nodes ≤ 1000) (w : World) (F : Nat → Prop) (bw : Nat) (ao : Option Addr) (cap : Nat) (no : Option Addr) (nc : Nat) (nms : List ByteArray) (b : Bool)
    (hs : Sl w F ao cap t.kids) (hn : Sl w F no nc nms) (hF : ∀ k, F k → k < w.heap.size) (hnb : ¬ F bw) (hb : WrB w bw no nms.length nc b) :
    Rt Tryd.prog 67 [.pointer (some ⟨bw, 0, none⟩), ltlV t.k t.n ao t.kids.length cap, .int .i64 (i : Int)].toArray w fun v w' => v = tV (kidT (bareL t.k i t.kids[i].k) (txtL (nmL nms) t.kids[i])) ∧ WrB w' bw no nms.length nc (b || badF (nmL nms) t.kids[i]) ∧ w.grownBy w' (some bw) := by
  have hm := hs.len63
  have hbl := hb.lt
  have htl := txtL_len (nmL_len nms) t.kids[i]
  obtain ⟨kb, koff, rfl, hFk, es, hcl, hrd⟩ := hs.el i hi
  refine Rt.enter3 Tryd.func67 Tryd.ntmps67 rfl rfl ?_
  (repeat (first | (apply CW.seq) | (apply CW.region)))
  refine WL.boxB rfl rfl rfl fun w1 hb4 e1 => ?_
  have hF1 : ∀ k, F k → k < w1.heap.size := fun k hk => Nat.lt_of_lt_of_le (hF k hk) e1.size
  have hs1 : Sl w1 F _ cap t.kids := hs.mono (fun k hk => e1.block k (hF k hk)) fun _ h => h
  have hn1 : Sl w1 F no nc nms := hn.mono (fun k hk => e1.block k (hF k hk)) fun _ h => h
  (repeat (first | (apply WL.pure; rfl; rfl; rfl) | (apply WL.nil) | (apply EX.thenN) | (apply CW.seq) | (apply CW.region) | (apply WL.fa; rfl; rfl; rfl) | (apply WL.ld; rfl; rfl; rfl; assumption; rfl)))
  refine WL.elemN rfl rfl rfl rfl rfl hs1 hi (fun _ => rfl) (fun u q hu => ?_)
  obtain ⟨ao', cap', rfl, hx⟩ := hu.ltl
  skip
  refine WL.call rfl rfl rfl (ih w1 F bw ao' cap' no nc nms b hx hn1 hF1 hnb (hb.ext e1)) ?_
  rintro _ w2 ⟨rfl, hb2, hg2⟩
  have hb42 := hb4.kept hg2 (fun e => by have := Option.some.inj e; omega)
  have hF2 : ∀ k, F k → k < w2.heap.size := fun k hk => Nat.lt_of_lt_of_le (hF1 k hk) hg2.size
  have hk2 : w2.heap[kb]? = w.heap[kb]? := (hg2.block kb (hF1 kb hFk) (fun e => by cases e; exact hnb hFk)).trans (e1.block kb (hF kb hFk))
  have hc2 : Cells w2 kb (koff + i * sz Ltl) [.int .i64 t.kids[i].k] := kid_cells (Rep.mono hrd (fun k hk => (hg2.block k (hF1 k hk) (fun e => by cases e; exact hnb hk)).trans (e1.block k (hF k hk))) fun _ h => h) (hcl.mono hk2)
  have hE : w.grownBy w2 (some bw) := grown_tr (e1.grw (some bw)) hg2
  generalize hT : txtL (nmL nms) t.kids[i] = T at *
  (repeat (first | (apply WL.pure; rfl; rfl; rfl) | (apply QL.pure; rfl; rfl; rfl) | (apply WL.nil) | (apply EX.thenN) | (apply CW.seq) | (apply QL.fa; rfl; rfl; rfl) | (apply QL.ld; rfl; rfl; rfl; assumption; rfl) | (apply CW.draw; exact mixed; kernel_rfl)))
  refine QL.idx (α := Ltl) rfl rfl rfl rfl (by omega) (by omega) ?_
  (repeat (apply QL.fa; rfl; rfl; rfl))
  refine QL.load (α := Int) (F := F) (y := t.kids[i].k) rfl rfl rfl (hF2 kb hFk) hF2 (by rw [Int.toNat_natCast]; exact hc2) rfl ?_
  rw [show vOf Int [.int .i64 t.kids[i].k] = .int .i64 t.kids[i].k from rfl]
  skip
  refine QL.call rfl rfl rfl (fun w' h => Rt.mono (lbare_ok w' t.k i t.kids[i].k) (fun v w'' hv => ⟨hv.1, hv.2 ▸ Ext.refl _⟩)) ?_
  refine QL.nil (fun w3 e3 => ?_)
  have hE3 : w.grownBy w3 (some bw) := grown_tr hE (e3.grw (some bw))
  have hb3 := hb2.ext e3
  unfold kidT
  (repeat (apply EX.thenN))
  refine CW.cond rfl (fun h => ?_) (fun h => ?_)
  · rw [if_pos h]
    (repeat (first | (apply WL.pure; rfl; rfl; rfl) | (apply WL.nil) | (apply EX.thenN) | (apply CW.seq) | (apply CW.region) | (apply CW.ret) | (apply EX.thenR)))
    exact EX.ret1 rfl rfl ⟨rfl, hb3, hE3⟩
  · rw [if_neg (by rw [h]; decide)]
    (repeat (first | (apply WL.pure; rfl; rfl; rfl) | (apply EX.thenN) | (apply CW.seq) | (apply CW.region) | (apply CW.skip)))
    refine WL.cat (a := [40]) (b := T) rfl rfl rfl rfl (by simp only [List.length_cons, List.length_nil]; omega) ?_
    refine WL.cat (a := [40] ++ T) (b := [41]) rfl rfl rfl rfl (by simp only [List.length_append, List.length_cons, List.length_nil]; omega) ?_
    (repeat (first | (apply WL.pure; rfl; rfl; rfl) | (apply WL.nil) | (apply EX.thenN) | (apply CW.ret)))
    exact EX.ret1 rfl rfl ⟨rfl, hb3, hE3⟩
set_option maxHeartbeats 1000000 in
theorem ltext_ok : ∀ (m : Nat) (t : Ltl), t.nodes ≤ m → m ≤ 1000 → ShT kidsK t → LText t
  | 0, t, hm, _, _ => by have := t.nodes_pos; omega
  | m + 1, .mk k n kids, hm, hm1, hsh => by
    intro w F bw ao cap no nc nms b hs hn hF hnb hb
    obtain ⟨hk, h0, h63, hkids⟩ := shT_inv hsh
    simp only [Ltl.nodes] at hm
    have hnd : ∀ i (hi : i < kids.length), kids[i].nodes ≤ m := fun i hi => by have := Ltl.nodes_kid kids _ (List.getElem_mem hi); omega
    have ihk : ∀ i (hi : i < kids.length), LText kids[i] := fun i hi => ltext_ok m kids[i] (hnd i hi) (by omega) (hkids _ (List.getElem_mem hi))
    have htl : ∀ i (hi : i < kids.length), (txtL (nmL nms) kids[i]).length ≤ 8000 := fun i hi => by have := txtL_len (nmL_len nms) kids[i]; have := hnd i hi; omega
    have hbl := hb.lt
    simp only [mk_kids] at hs
    simp only [mk_k, mk_n, mk_kids]
    refine Rt.enter2 Tryd.func33 Tryd.ntmps33 rfl rfl ?_
    (repeat (first | (apply CW.seq) | (apply CW.region)))
    refine WL.boxB rfl rfl rfl fun w1 hb3 e1 => ?_
    have hF1 : ∀ k, F k → k < w1.heap.size := fun k hk => Nat.lt_of_lt_of_le (hF k hk) e1.size
    have hs1 : Sl w1 F ao cap kids := hs.mono (fun k hk => e1.block k (hF k hk)) fun _ h => h
    have hn1 : Sl w1 F no nc nms := hn.mono (fun k hk => e1.block k (hF k hk)) fun _ h => h
    have hb1 := hb.ext e1
    have hg1 : w.grownBy w1 (some bw) := e1.grw (some bw)
    have hl3 := hb3.lt
    (repeat (first | (apply WL.pure; rfl; rfl; rfl) | (apply WL.nil) | (apply EX.thenN) | (apply CW.seq) | (apply CW.region) | (apply WL.fa; rfl; rfl; rfl) | (apply WL.ld; rfl; rfl; rfl; assumption; rfl) | (apply CW.block)))
    refine CW.cond rfl (fun h => ?_) (fun h => ?_)
    · obtain rfl : k = 1 := by simpa using h
      obtain rfl : kids = [] := List.eq_nil_of_length_eq_zero (by have : kidsK 1 = 0 := rfl; omega)
      (repeat (first | (apply WL.pure; rfl; rfl; rfl) | (apply WL.nil) | (apply EX.thenN) | (apply CW.seq) | (apply CW.region) | (apply CW.ret) | (apply EX.thenR) | (apply EX.inR)))
      exact EX.ret1 rfl rfl ⟨rfl, by simpa [badF, badFs] using hb1, hg1⟩
    have k1 : ¬ k = 1 := by simpa using h
    (repeat (first | (apply WL.pure; rfl; rfl; rfl) | (apply WL.nil) | (apply EX.thenN) | (apply CW.seq) | (apply CW.region)))
    refine CW.cond rfl (fun h => ?_) (fun h => ?_)
    · obtain rfl : k = 2 := by simpa using h
      obtain rfl : kids = [] := List.eq_nil_of_length_eq_zero (by have : kidsK 2 = 0 := rfl; omega)
      (repeat (first | (apply WL.pure; rfl; rfl; rfl) | (apply WL.nil) | (apply EX.thenN) | (apply CW.seq) | (apply CW.region) | (apply CW.ret) | (apply EX.thenR) | (apply EX.inR)))
      exact EX.ret1 rfl rfl ⟨rfl, by simpa [badF, badFs] using hb1, hg1⟩
    have k2 : ¬ k = 2 := by simpa using h
    (repeat (first | (apply WL.pure; rfl; rfl; rfl) | (apply WL.nil) | (apply EX.thenN) | (apply CW.seq) | (apply CW.region)))
    refine CW.cond rfl (fun h => ?_) (fun h => ?_)
    · obtain rfl : k = 3 := by simpa using h
      obtain rfl : kids = [] := List.eq_nil_of_length_eq_zero (by have : kidsK 3 = 0 := rfl; omega)
      (repeat (first | (apply QL.pure; rfl; rfl; rfl) | (apply CW.seq) | (apply QL.fa; rfl; rfl; rfl) | (apply QL.nck; rfl; rfl; rfl) | (apply QL.ld; rfl; rfl; rfl; assumption; rfl) | (apply CW.draw; exact mixed; kernel_rfl)))
      refine QL.call rfl rfl rfl (fun w' h => lname_ok w' ((hn1.mono (fun k hk => h.block k (hF1 k hk)) fun _ h => h).lift fun k hk => Nat.lt_of_lt_of_le (hF1 k hk) h.size) n h0) ?_
      (repeat (apply QL.pure; rfl; rfl; rfl))
      refine QL.nil (fun w2 e2 => ?_)
      have hb2 := hb1.ext e2
      (repeat (first | (apply WL.pure; rfl; rfl; rfl) | (apply EX.thenN) | (apply CW.seq) | (apply CW.region) | (apply WL.fa; rfl; rfl; rfl) | (apply WL.nck; rfl; rfl; rfl) | (apply WL.ld; rfl; rfl; rfl; assumption; rfl)))
      (refine WL.lookG rfl rfl (fun h => ?_) (fun h => ?_))
      · (repeat (first | (apply WL.pure; rfl; rfl; rfl) | (apply WL.pass; rfl; rfl) | (apply WL.fa; rfl; rfl; rfl) | (apply WL.nck; rfl; rfl; rfl)))
        refine WL.st rfl rfl rfl hb2 rfl rfl (ones_of rfl) (fun w3 hb23 hg3 => ?_)
        (repeat (first | (apply WL.pure; rfl; rfl; rfl) | (apply WL.nil) | (apply EX.thenN) | (apply CW.seq) | (apply CW.region) | (apply CW.ret) | (apply EX.thenR) | (apply EX.inR)))
        refine EX.ret1 rfl rfl ⟨by simp [txtL, joinL], ?_, grown_tr (grown_tr hg1 (e2.grw _)) hg3⟩
        rw [h]; exact hb23
      · (repeat (first | (apply WL.pure; rfl; rfl; rfl) | (apply WL.fa; rfl; rfl; rfl) | (apply WL.nck; rfl; rfl; rfl)))
        refine WL.st rfl rfl rfl hb2 rfl rfl (ones_of rfl) (fun w3 hb23 hg3 => ?_)
        (repeat (first | (apply WL.pure; rfl; rfl; rfl) | (apply WL.nil) | (apply EX.thenN) | (apply CW.seq) | (apply CW.region) | (apply CW.ret) | (apply EX.thenR) | (apply EX.inR)))
        refine EX.ret1 rfl rfl ⟨by simp [txtL, joinL], ?_, grown_tr (grown_tr hg1 (e2.grw _)) hg3⟩
        rw [h, show (false || badF (nmL nms) (.mk 3 n [])) = ((txA (nmL nms n)).data.toList == (⟨#[]⟩ : ByteArray).data.toList) by rw [txA_list]; simp [badF, badFs]]
        exact hb23
    have k3 : ¬ k = 3 := by simpa using h
    -- one kid
    have hone : ∀ K, kidsK K = 1 → k = K → ∃ x, kids = [x] := fun K hK e => List.length_eq_one_iff.1 (by rw [e] at hk; omega)
    have hkid : ∀ i (hi : i < kids.length), _ := fun i hi => lkid_ok (t := .mk k n kids) (i := i) hi (ihk i hi) (by have := hnd i hi; show kids[i].nodes ≤ 1000; omega) w1 F bw ao cap no nc nms b hs1 hn1 hF1 hnb hb1
    simp only [mk_k, mk_n, mk_kids] at hkid
    (repeat (first | (apply WL.pure; rfl; rfl; rfl) | (apply WL.nil) | (apply EX.thenN) | (apply CW.seq) | (apply CW.region)))
    refine CW.cond rfl (fun h => ?_) (fun h => ?_)
    · have hk4 : k = 4 := by simpa using h
      obtain ⟨x, rfl⟩ := hone 4 rfl hk4
      have hlx := htl 0 (by simp)
      have hky := kidT_len (bareL k ((0 : Nat) : Int) x.k) (txtL (nmL nms) x)
      simp only [List.getElem_cons_zero] at hlx
      (repeat (first | (apply WL.pure; rfl; rfl; rfl) | (apply CW.seq) | (apply CW.region) | (apply WL.ldA; rfl; rfl; rfl; assumption; rfl)))
      refine WL.call rfl rfl rfl (hkid 0 (by simp)) ?_
      rintro _ w2 ⟨rfl, hb2, hg2⟩
      simp only [List.getElem_cons_zero] at hb2 ⊢
      refine WL.cat (a := [33]) rfl rfl rfl rfl (by simp only [List.length_cons, List.length_nil]; omega) ?_
      (repeat (first | (apply WL.pure; rfl; rfl; rfl) | (apply WL.nil) | (apply EX.thenN) | (apply CW.ret) | (apply EX.thenR) | (apply EX.inR)))
      subst hk4
      exact EX.ret1 rfl rfl ⟨by simp [txtL, txtLs, joinL], by simpa [badF, badFs] using hb2, grown_tr hg1 hg2⟩
    (repeat (first | (apply WL.pure; rfl; rfl; rfl) | (apply WL.nil) | (apply EX.thenN) | (apply CW.seq) | (apply CW.region)))
    refine CW.cond rfl (fun h => ?_) (fun h => ?_)
    · have hk4 : k = 7 := by simpa using h
      obtain ⟨x, rfl⟩ := hone 7 rfl hk4
      have hlx := htl 0 (by simp)
      have hky := kidT_len (bareL k ((0 : Nat) : Int) x.k) (txtL (nmL nms) x)
      simp only [List.getElem_cons_zero] at hlx
      (repeat (first | (apply WL.pure; rfl; rfl; rfl) | (apply CW.seq) | (apply CW.region) | (apply WL.ldA; rfl; rfl; rfl; assumption; rfl)))
      refine WL.call rfl rfl rfl (hkid 0 (by simp)) ?_
      rintro _ w2 ⟨rfl, hb2, hg2⟩
      simp only [List.getElem_cons_zero] at hb2 ⊢
      refine WL.cat (a := [88, 32]) rfl rfl rfl rfl (by simp only [List.length_cons, List.length_nil]; omega) ?_
      (repeat (first | (apply WL.pure; rfl; rfl; rfl) | (apply WL.nil) | (apply EX.thenN) | (apply CW.ret) | (apply EX.thenR) | (apply EX.inR)))
      subst hk4
      exact EX.ret1 rfl rfl ⟨by simp [txtL, txtLs, joinL], by simpa [badF, badFs] using hb2, grown_tr hg1 hg2⟩
    (repeat (first | (apply WL.pure; rfl; rfl; rfl) | (apply WL.nil) | (apply EX.thenN) | (apply CW.seq) | (apply CW.region)))
    refine CW.cond rfl (fun h => ?_) (fun h => ?_)
    · have hk4 : k = 10 := by simpa using h
      obtain ⟨x, rfl⟩ := hone 10 rfl hk4
      have hlx := htl 0 (by simp)
      have hky := kidT_len (bareL k ((0 : Nat) : Int) x.k) (txtL (nmL nms) x)
      simp only [List.getElem_cons_zero] at hlx
      (repeat (first | (apply WL.pure; rfl; rfl; rfl) | (apply CW.seq) | (apply CW.region) | (apply WL.ldA; rfl; rfl; rfl; assumption; rfl)))
      refine WL.call rfl rfl rfl (hkid 0 (by simp)) ?_
      rintro _ w2 ⟨rfl, hb2, hg2⟩
      simp only [List.getElem_cons_zero] at hb2 ⊢
      refine WL.cat (a := [70, 32]) rfl rfl rfl rfl (by simp only [List.length_cons, List.length_nil]; omega) ?_
      (repeat (first | (apply WL.pure; rfl; rfl; rfl) | (apply WL.nil) | (apply EX.thenN) | (apply CW.ret) | (apply EX.thenR) | (apply EX.inR)))
      subst hk4
      exact EX.ret1 rfl rfl ⟨by simp [txtL, txtLs, joinL], by simpa [badF, badFs] using hb2, grown_tr hg1 hg2⟩
    (repeat (first | (apply WL.pure; rfl; rfl; rfl) | (apply WL.nil) | (apply EX.thenN) | (apply CW.seq) | (apply CW.region)))
    refine CW.cond rfl (fun h => ?_) (fun h => ?_)
    · have hk4 : k = 11 := by simpa using h
      obtain ⟨x, rfl⟩ := hone 11 rfl hk4
      have hlx := htl 0 (by simp)
      have hky := kidT_len (bareL k ((0 : Nat) : Int) x.k) (txtL (nmL nms) x)
      simp only [List.getElem_cons_zero] at hlx
      (repeat (first | (apply WL.pure; rfl; rfl; rfl) | (apply CW.seq) | (apply CW.region) | (apply WL.ldA; rfl; rfl; rfl; assumption; rfl)))
      refine WL.call rfl rfl rfl (hkid 0 (by simp)) ?_
      rintro _ w2 ⟨rfl, hb2, hg2⟩
      simp only [List.getElem_cons_zero] at hb2 ⊢
      refine WL.cat (a := [71, 32]) rfl rfl rfl rfl (by simp only [List.length_cons, List.length_nil]; omega) ?_
      (repeat (first | (apply WL.pure; rfl; rfl; rfl) | (apply WL.nil) | (apply EX.thenN) | (apply CW.ret) | (apply EX.thenR) | (apply EX.inR)))
      subst hk4
      exact EX.ret1 rfl rfl ⟨by simp [txtL, txtLs, joinL], by simpa [badF, badFs] using hb2, grown_tr hg1 hg2⟩
    -- two kids
    have hbin : (k = 5 ∨ k = 6 ∨ k = 8 ∨ k = 9) ∧ kids.length = 2 := by
      rcases kidsK_nat hk with ⟨_, e⟩ | ⟨_, e⟩ | ⟨e1, e⟩
      · omega
      · simp only [beq_iff_eq, beq_eq_false_iff_ne] at *; omega
      · exact ⟨e, e1⟩
    obtain ⟨hbk, hk2⟩ := hbin
    obtain ⟨x, y, rfl⟩ : ∃ x y, kids = [x, y] := by
      match kids, hk2 with
      | [x, y], _ => exact ⟨x, y, rfl⟩
    have hlx := htl 0 (by simp)
    have hly := htl 1 (by simp)
    simp only [List.getElem_cons_zero, List.getElem_cons_succ] at hlx hly
    have hkx := kidT_len (bareL k ((0 : Nat) : Int) x.k) (txtL (nmL nms) x)
    have hky := kidT_len (bareL k ((1 : Nat) : Int) y.k) (txtL (nmL nms) y)
    obtain ⟨ki, rfl, hki, hsg⟩ : ∃ i : Nat, k = (i : Int) ∧ i < 10 ∧ nthV [noT, noT, noT, noT, noT, tV [38], tV [47], noT, tV [85], tV [82]] i = some (tV (sigL k)) := by
      rcases hbk with rfl | rfl | rfl | rfl
      · exact ⟨5, rfl, by decide, rfl⟩
      · exact ⟨6, rfl, by decide, rfl⟩
      · exact ⟨8, rfl, by decide, rfl⟩
      · exact ⟨9, rfl, by decide, rfl⟩
    have hsl : (sigL (ki : Int)).length ≤ 1 := by unfold sigL; (repeat' split) <;> decide
    generalize hsig : sigL (ki : Int) = sg at *
    (repeat (first | (apply EX.thenN) | (apply CW.seq) | (apply CW.region) | (apply EX.inN) | (apply CW.skip)))
    refine WL.buildAr (out := [noT, noT, noT, noT, noT, tV [38], tV [47], noT, tV [85], tV [82]]) rfl rfl rfl rfl ?_
    (repeat (first | (apply WL.fa; rfl; rfl; rfl) | (apply WL.ld; rfl; rfl; rfl; assumption; rfl)))
    refine WL.indexAr rfl rfl rfl rfl hki hsg ?_
    (repeat (first | (apply WL.pure; rfl; rfl; rfl) | (apply WL.nil) | (apply EX.thenN) | (apply CW.seq)))
    have hD : Ext w1 (drew w1) := Ext.drew w1
    have hb3d := hb3.ext hD
    refine CW.drawH (fun z : World => z.heap[w.heap.size]? = (drew w1).heap[w.heap.size]?) [(0, true), (1, true), (4, true), (7, true), (8, true), (2, false), (3, true), (5, true), (6, true), (9, false), (10, true), (11, true)] mixed (by kernel_rfl) rfl ?_
    have hKS : ∀ z : World, (fun z : World => z.heap[w.heap.size]? = (drew w1).heap[w.heap.size]?) z → Blk z w.heap.size 39 [.int .i64 (ki : Int), .int .i64 n, .slice ao 2 cap] := fun z hz => hz.trans hb3d
    (repeat (apply HL.pure; rfl; rfl; rfl; rfl))
    refine HL.ldAS hKS rfl rfl rfl rfl rfl ?_
    (repeat (apply HL.pure; rfl; rfl; rfl; rfl))
    refine HL.ldAS hKS rfl rfl rfl rfl rfl ?_
    refine HL.mut rfl (WL.call rfl rfl rfl (lkid_ok (t := .mk (ki : Int) n [x, y]) (i := 0) (by simp [mk_kids]) (ihk 0 (by simp)) (by have := hnd 0 (by simp); show x.nodes ≤ 1000; simp only [List.getElem_cons_zero] at this; omega) (drew w1) F bw ao cap no nc nms b (hs1.mono (fun k hk => hD.block k (hF1 k hk)) fun _ h => h) (hn1.mono (fun k hk => hD.block k (hF1 k hk)) fun _ h => h) hF1 hnb (hb1.ext hD)) ?_)
    rintro _ w2 ⟨rfl, hb2, hg2⟩
    have hw2 : w2.heap[w.heap.size]? = (drew w1).heap[w.heap.size]? := hg2.block _ hl3 (fun e => by have := Option.some.inj e; omega)
    have hF2 : ∀ k, F k → k < w2.heap.size := fun k hk => Nat.lt_of_lt_of_le (hF1 k hk) hg2.size
    have hgd : w1.grownBy w2 (some bw) := grown_tr (hD.grw _) hg2
    have hbk2 : ∀ k, F k → w2.heap[k]? = w1.heap[k]? := fun k hk => hgd.block k (hF1 k hk) (fun e => by cases e; exact hnb hk)
    refine WL.nil (EX.mut hw2 ?_)
    simp only [mk_k, mk_kids, List.getElem_cons_zero] at hb2 ⊢
    refine HL.cat (b := [32]) rfl rfl rfl rfl rfl (by simp only [List.length_cons, List.length_nil]; omega) ?_
    refine HL.cat (b := sg) rfl rfl rfl rfl rfl (by simp only [List.length_append, List.length_cons, List.length_nil]; omega) ?_
    refine HL.cat (b := [32]) rfl rfl rfl rfl rfl (by simp only [List.length_append, List.length_cons, List.length_nil]; omega) ?_
    refine HL.mut rfl (WL.call rfl rfl rfl (lkid_ok (t := .mk (ki : Int) n [x, y]) (i := 1) (by simp [mk_kids]) (ihk 1 (by simp)) (by have := hnd 1 (by simp); show y.nodes ≤ 1000; simp only [List.getElem_cons_succ, List.getElem_cons_zero] at this; omega) w2 F bw ao cap no nc nms _ (hs1.mono hbk2 fun _ h => h) (hn1.mono hbk2 fun _ h => h) hF2 hnb hb2) ?_)
    rintro _ w3 ⟨rfl, hb23, hg3⟩
    have hw3 : w3.heap[w.heap.size]? = (drew w1).heap[w.heap.size]? := (hg3.block _ (by have := hg2.size; have : w1.heap.size ≤ w2.heap.size := this; omega) (fun e => by have := Option.some.inj e; omega)).trans hw2
    refine WL.nil (EX.mut hw3 ?_)
    simp only [mk_k, mk_kids, List.getElem_cons_succ, List.getElem_cons_zero] at hb23 ⊢
    refine HL.cat rfl rfl rfl rfl rfl (by simp only [List.length_append, List.length_cons, List.length_nil]; omega) ?_
    (repeat (first | (apply HL.pure; rfl; rfl; rfl; rfl) | (apply HL.nil)))
    (repeat (first | (apply EX.thenN) | (apply CW.ret)))
    refine EX.ret1 rfl rfl ⟨by rw [txtL_bin hbk, hsig]; rfl, ?_, grown_tr (grown_tr hg1 hgd) hg3⟩
    rw [show (b || badF (nmL nms) (.mk (ki : Int) n [x, y])) = (b || badF (nmL nms) x || badF (nmL nms) y) by
      have : ((ki : Int) == 3) = false := by rcases hbk with e | e | e | e <;> rw [e] <;> rfl
      simp [badF, badFs, this, Bool.or_assoc]]
    exact hb23
theorem lprint_ok (w0 : World) {ao no : Option Addr} {cap nc : Nat} {t : Ltl} {nms : List ByteArray} (hs : Sl w0 (Old w0) ao cap t.kids) (hn : Sl w0 (Old w0) no nc nms) :
    Rt Tryd.prog 15 [ltlV t.k t.n ao t.kids.length cap, .slice no nms.length nc].toArray w0 fun v w' => v = .tuple ⟨[tV (printL t nms).1, .int .i64 (printL t nms).2]⟩ ∧ Ext w0 w' := by
  refine Rt.enter2 Tryd.func15 Tryd.ntmps15 rfl rfl ?_
  unfold printL
  (repeat (first | (apply CW.seq) | (apply CW.region)))
  refine WL.boxB rfl rfl rfl fun w1 hb2 e1 => ?_
  (repeat (first | (apply WL.pure; rfl; rfl; rfl) | (apply WL.nil) | (apply EX.thenN) | (apply CW.seq) | (apply CW.region) | (apply WL.ldA; rfl; rfl; rfl; assumption; rfl)))
  refine WL.call rfl rfl rfl (ltlCheck w1 (hs.up e1) (fun _ h => h)) ?_
  rintro _ w2 ⟨rfl, e2⟩
  have hb2 := hb2.ext e2
  have hE := e1.trans e2
  (repeat (first | (apply WL.pure; rfl; rfl; rfl) | (apply WL.nil) | (apply EX.thenN) | (apply CW.seq) | (apply CW.region)))
  refine CW.cond rfl (fun h => ?_) (fun h => ?_)
  · rw [if_pos (by simpa using h)]
    (repeat (first | (apply WL.pure; rfl; rfl; rfl) | (apply WL.nil) | (apply EX.thenN) | (apply CW.seq) | (apply CW.region) | (apply CW.ret) | (apply EX.thenR)))
    exact EX.ret2 rfl rfl rfl ⟨rfl, hE⟩
  have hc : (chkF t 1 0).1 = 0 := by simpa using h
  rw [if_neg (by simpa using h)]
  obtain ⟨hsh, hnn⟩ := chkF_sh t 1 0 hc
  have hle := (chkF_le t 1 0 hc).2
  (repeat (first | (apply WL.pure; rfl; rfl; rfl) | (apply EX.thenN) | (apply CW.seq) | (apply CW.region) | (apply CW.skip)))
  refine WL.build rfl rfl rfl rfl ?_
  refine WL.boxB rfl rfl rfl fun w3 hb16 e3 => ?_
  have hb2 := hb2.ext e3
  have hE3 := hE.trans e3
  (repeat (first | (apply WL.pure; rfl; rfl; rfl) | (apply WL.nil) | (apply EX.thenN) | (apply CW.seq) | (apply CW.region) | (apply WL.ldA; rfl; rfl; rfl; assumption; rfl)))
  refine WL.call rfl rfl rfl (ltext_ok t.nodes t (Nat.le_refl _) (by omega) hsh w3 (Old w0) w2.heap.size ao cap no nc nms false (hs.at hE3) (hn.at hE3) (fun k hk => Nat.lt_of_lt_of_le hk hE3.size) (fun hk => by have h1 : w2.heap.size < w0.heap.size := hk; have := hE.size; omega) hb16) ?_
  rintro _ w4 ⟨rfl, hb4, hg4⟩
  have hE4 : Ext w0 w4 := hE3.grown hg4 hE3.size (fun g hg => by cases hg; exact hE.size)
  rw [Bool.false_or] at hb4
  (repeat (first | (apply WL.pure; rfl; rfl; rfl) | (apply WL.nil) | (apply EX.thenN) | (apply CW.seq) | (apply CW.region) | (apply WL.fa; rfl; rfl; rfl) | (apply WL.nck; rfl; rfl; rfl) | (apply WL.ld; rfl; rfl; rfl; assumption; rfl)))
  refine CW.cond rfl (fun h => ?_) (fun h => ?_)
  · rw [if_pos h]
    (repeat (first | (apply WL.pure; rfl; rfl; rfl) | (apply WL.nil) | (apply EX.thenN) | (apply CW.seq) | (apply CW.region) | (apply CW.ret) | (apply EX.thenR)))
    exact EX.ret2 rfl rfl rfl ⟨rfl, hE4⟩
  · rw [if_neg (by rw [h]; decide)]
    (repeat (first | (apply WL.pure; rfl; rfl; rfl) | (apply WL.nil) | (apply EX.thenN) | (apply CW.seq) | (apply CW.region) | (apply CW.ret) | (apply CW.skip)))
    exact EX.ret2 rfl rfl rfl ⟨rfl, hE4⟩
end Go.Proofs.YtikigaeihdmcaaaDoor

/-
  ctl.Print, walked.
-/
set_option linter.unusedVariables false
set_option linter.unusedSimpArgs false
namespace Go.Proofs.YtikigaeihdmcaaaDoor
open Go.RowKit

instance iPrc1 : IsFd Tryd.prog 63 0 0 := IsFd.of (by kernel_rfl)
instance iPrc2 : IsFd Tryd.prog 63 1 1 := IsFd.of (by kernel_rfl)
instance iPrc3 : IsBd Tryd.prog 63 [(0, 1), (1, 1)] := IsBd.of (by kernel_rfl)
instance iPrc4 : IsZC Tryd.prog 63 [.slice none 0 0, .bool false] := IsZC.of (z := .agg #[.slice none 0 0, .bool false]) (by kernel_rfl) rfl
instance iPrc5 : IsC Tryd.prog 63 2 true := IsC.of (by kernel_rfl) Tryd.underlying63 rfl
instance iPrc6 : IsAr Tryd.prog 157 14 9 := ⟨Tryd.underlying157⟩
abbrev noTC : Value := .string ⟨#[]⟩
instance iPrc7 : IsZC Tryd.prog 157 [noTC, noTC, noTC, noTC, noTC, noTC, noTC, noTC, noTC, noTC, noTC, noTC, noTC, noTC] := IsZC.of (z := .agg #[noTC, noTC, noTC, noTC, noTC, noTC, noTC, noTC, noTC, noTC, noTC, noTC, noTC, noTC]) (by kernel_rfl) rfl
end Go.Proofs.YtikigaeihdmcaaaDoor

/-
  ctl.Parse, walked: the next token.
-/
set_option linter.unusedVariables false
set_option linter.unusedSimpArgs false
namespace Go.Proofs.YtikigaeihdmcaaaDoor
open Go.RowKit

/-- a reader of a text -/
structure Rdr (T : TypeId) (w : World) (rb : Nat) (s : Bys) (no : Option Addr) (nc : Nat) (nms : List ByteArray) (o : Nat) (st : Bys × Bys) : Prop where
  blk : Blk w rb T [tV s, .slice no nms.length nc, tV st.1, .int .i64 (atT s.length st : Int), .int .i64 ((s.length - st.2.length : Nat) : Int), .int .i64 (o : Int)]
  nm : Sl w (fun b => b < rb) no nc nms
  drp : s.drop (s.length - st.2.length) = st.2
  len : st.1.length + st.2.length ≤ s.length
theorem Rdr.lt {T : TypeId} {w : World} {rb : Nat} {s : Bys} {no : Option Addr} {nc : Nat} {nms : List ByteArray} {o : Nat} {st : Bys × Bys} (h : Rdr T w rb s no nc nms o st) : rb < w.heap.size := h.blk.lt
theorem Rdr.kept {T : TypeId} {w w' : World} {rb : Nat} {s : Bys} {no : Option Addr} {nc : Nat} {nms : List ByteArray} {o : Nat} {st : Bys × Bys} {r : Option Nat} (h : Rdr T w rb s no nc nms o st) (hg : w.grownBy w' r) (hr : ∀ b, r = some b → rb < b) : Rdr T w' rb s no nc nms o st := by
  have hl := h.lt
  refine ⟨h.blk.kept hg (fun e => by have := hr rb e.symm; omega), h.nm.mono (fun b hb => hg.block b (by omega) (fun e => by have := hr b e.symm; omega)) fun _ h => h, h.drp, h.len⟩
theorem Rdr.ext {T : TypeId} {w w' : World} {rb : Nat} {s : Bys} {no : Option Addr} {nc : Nat} {nms : List ByteArray} {o : Nat} {st : Bys × Bys} (h : Rdr T w rb s no nc nms o st) (hE : Ext w w') : Rdr T w' rb s no nc nms o st := h.kept (hE.grw none) (fun b e => by cases e)
section
variable {P : Program} {Q : Exit → Act → World → Prop} {n : Nat} {σ : Sg} {w : World} {L rest : List Oper} {d : Nat} {op : Op} {ty : TypeId} {pos : String} {af : Array Edge} {g : Option (Nat × Bool)} {t yt : TypeId} {x y ix : Operand}
theorem WL.lenB {s : Bys} (hg : gd L σ ⟨some d, .call ⟨.builtin .len, #[x], #[t]⟩, ty, pos, af, g⟩ = some true) (hd : Nat.ble (d + 1) n = true)
    (hx : ev σ x = some (tV s)) [hs : IsStr P t] (h : WL P L Q rest n ((d, .int .i64 (s.length : Int)) :: σ) w) : WL P L Q (⟨some d, .call ⟨.builtin .len, #[x], #[t]⟩, ty, pos, af, g⟩ :: rest) n σ w :=
  WL.lenT hg hd hx (by rw [txA_size]; exact h)
theorem QL.lenB {s : Bys} (hg : gd L σ ⟨some d, .call ⟨.builtin .len, #[x], #[t]⟩, ty, pos, af, g⟩ = some true) (hd : Nat.ble (d + 1) n = true)
    (hx : ev σ x = some (tV s)) [hs : IsStr P t] (h : QL P L w Q rest n ((d, .int .i64 (s.length : Int)) :: σ)) : QL P L w Q (⟨some d, .call ⟨.builtin .len, #[x], #[t]⟩, ty, pos, af, g⟩ :: rest) n σ :=
  QL.lenT hg hd hx (by rw [txA_size]; exact h)
end
/-- a byte that is c -/
theorem by_eq {b c : UInt8} : (((b.toNat : Nat) : Int) == ((c.toNat : Nat) : Int)) = (b == c) := by
  rw [Bool.eq_iff_iff, beq_iff_eq, beq_iff_eq]
  constructor
  · intro h
    exact UInt8.toNat_inj.1 (by omega)
  · intro h
    subst h; rfl
theorem by32 {b : UInt8} : (((b.toNat : Nat) : Int) == 32) = (b == 32) := by_eq (c := 32)
theorem by45 {b : UInt8} : (((b.toNat : Nat) : Int) == 45) = (b == 45) := by_eq (c := 45)
theorem by62 {b : UInt8} : (((b.toNat : Nat) : Int) == 62) = (b == 62) := by_eq (c := 62)
theorem HL.ldE {P : Program} {Q : Exit → Act → World → Prop} {n : Nat} {σ : Sg} {wc : World} {L : List Oper} {S : World → Prop} {ord : List (Nat × Bool)} {i d : Nat} {ty : TypeId} {pos : String} {af : Array Edge} {g : Option (Nat × Bool)} {t e : TypeId} {x : Operand} {b o : Nat} {v : Value}
    (hK : ∀ w1, S w1 → ∃ cells, Blk w1 b e cells ∧ nthV cells o = some v) (ho : nthO L i = some ⟨some d, .load t x, ty, pos, af, g⟩) (hg : gd L σ ⟨some d, .load t x, ty, pos, af, g⟩ = some true) (hd : Nat.ble (d + 1) n = true) (hx : ev σ x = some (.pointer (some ⟨b, o, none⟩))) [hc : IsC P t 1 false]
    (h : HL P L S Q ord n ((d, v) :: σ) wc) : HL P L S Q ((i, true) :: ord) n σ wc := by
  refine HL.run ho hg hd (fun a ha w' hsw => ?_) h
  obtain ⟨cells, hb, hv⟩ := hK w' hsw
  simp [execOp, ha.ev hx, run_ld (P := P) (t := t) w' hb hv]
instance iCRd1 : IsFd Tryd.prog 67 0 0 := IsFd.of (by kernel_rfl)
instance iCRd2 : IsFd Tryd.prog 67 1 1 := IsFd.of (by kernel_rfl)
instance iCRd3 : IsFd Tryd.prog 67 2 2 := IsFd.of (by kernel_rfl)
instance iCRd4 : IsFd Tryd.prog 67 3 3 := IsFd.of (by kernel_rfl)
instance iCRd5 : IsFd Tryd.prog 67 4 4 := IsFd.of (by kernel_rfl)
instance iCRd6 : IsFd Tryd.prog 67 5 5 := IsFd.of (by kernel_rfl)
instance iCRd7 : IsBd Tryd.prog 77 [(0, 1), (1, 1), (2, 1)] := IsBd.of (by kernel_rfl)
instance iCRd8 : IsZC Tryd.prog 77 [.int .i64 0, .int .i64 0, .nilIface] := IsZC.of (z := .agg #[.int .i64 0, .int .i64 0, .nilIface]) (by kernel_rfl) rfl
instance iCRd9 : IsBd Tryd.prog 67 [(0, 1), (1, 1), (2, 1), (3, 1), (4, 1), (5, 1)] := IsBd.of (by kernel_rfl)
instance iCRd10 : IsZC Tryd.prog 67 [tV [], .slice none 0 0, tV [], .int .i64 0, .int .i64 0, .int .i64 0] := IsZC.of (z := .agg #[tV [], .slice none 0 0, tV [], .int .i64 0, .int .i64 0, .int .i64 0]) (by kernel_rfl) rfl
end Go.Proofs.YtikigaeihdmcaaaDoor

