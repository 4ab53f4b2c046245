import Derived.Test.YtikigaeihdmcaaaDoorPtCtlAgain14
/-
  Formulas as arguments.
-/
set_option linter.unusedVariables false
set_option linter.unusedSimpArgs false
namespace Go.Proofs.YtikigaeihdmcaaaDoor
open Go.RowKit

instance iOpnLtl1 : Bk Ltl := ⟨Ltl.nodes⟩
theorem len3 {cs : List Value} (h : cs.length = 3) : ∃ c0 c1 c2, cs = [c0, c1, c2] := by
  match cs, h with
  | [a, b, c], _ => exact ⟨a, b, c, rfl⟩
theorem ltl_op {H : Type} {enc : TypeId × Value → H} {w : World} : ∀ (fuel : Nat) {cs : List Value} {d : DataW H} {ps : List MemPlace}, DataW.trod enc Tryd.prog w 0 (fun _ => true) true fuel 39 cs = some (d, ps) → ∃ x : Ltl, rd w (Old w) cs x ∧ bk x ≤ Rows.uptoBulk d := by
  intro fuel
  induction fuel using Nat.strongRecOn with
  | _ fuel ih =>
    intro cs d ps hd
    have hst : stFact Tryd.prog 39 = some [(3, 0), (3, 1), (37, 2)] := by kernel_rfl
    unfold stFact at hst
    split at hst
    · rename_i gs hu
      have hst := Option.some.inj hst
      cases fuel with
      | zero => simp [DataW.trod] at hd
      | succ fuel =>
        unfold DataW.trod at hd
        rw [hu] at hd
        simp only at hd
        split at hd
        · rename_i hl
          obtain ⟨xs, h1, h2⟩ := Option.map_eq_some_iff.1 hd
          cases h2
          have h3 : (List.map (fun f : Field => (f.type, f.offset)) gs.toList).mapM (fun f : TypeId × Nat => DataW.trod enc Tryd.prog w 0 (fun _ => true) true fuel f.1 ((cs.drop f.2).take (Tryd.prog.cellsOf f.1))) = some xs := by rw [List.mapM_map]; exact h1
          rw [hst] at h3
          rw [cellsOf_T (α := Ltl)] at hl
          have hl3 : cs.length = 3 := hl
          simp only [List.mapM_cons, List.mapM_nil, Option.bind_eq_bind, Option.pure_def] at h3
          obtain ⟨x1, e1, h3⟩ := Option.bind_eq_some_iff.1 h3
          obtain ⟨y1, h3, hy1⟩ := Option.bind_eq_some_iff.1 h3
          obtain ⟨x2, e2, h3⟩ := Option.bind_eq_some_iff.1 h3
          obtain ⟨y2, h3, hy2⟩ := Option.bind_eq_some_iff.1 h3
          obtain ⟨x3, e3, h3⟩ := Option.bind_eq_some_iff.1 h3
          simp at h3 hy2 hy1
          subst h3 hy2 hy1
          obtain ⟨d1, p1⟩ := x1
          obtain ⟨d2, p2⟩ := x2
          obtain ⟨d3, p3⟩ := x3
          rw [cellsOf_T (α := Int)] at e1 e2
          rw [cellsOf_T (α := List Ltl)] at e3
          obtain ⟨k, hk, bk1⟩ := Opn.op (P := Tryd.prog) (t := 3) (α := Int) e1
          obtain ⟨n, hn, bk2⟩ := Opn.op (P := Tryd.prog) (t := 3) (α := Int) e2
          cases fuel with
          | zero => simp [DataW.trod] at e3
          | succ fuel =>
            obtain ⟨kids, hkids, bk3⟩ := slice_op (α := Ltl) (e := 39) (fun h => ih fuel (by omega) h) e3
            obtain ⟨ao, cap, hc, hs⟩ := rd_sl hkids
            have hk' := rd_int hk
            have hn' := rd_int hn
            refine ⟨.mk k n kids, ?_, ?_⟩
            · clear hu hst h1 e1 e2 e3 ih bk1 bk2 bk3
              obtain ⟨c0, c1, c2, rfl⟩ := len3 hl3
              have a0 : [c0] = [.int .i64 k] := hk'
              have a1 : [c1] = [.int .i64 n] := hn'
              have a2 : [c2] = [.slice ao kids.length cap] := hc
              rw [List.cons.inj a0 |>.1, List.cons.inj a1 |>.1, List.cons.inj a2 |>.1]
              exact RdT.of hs
            · have hnl : ∀ l : List Ltl, bkL l = Ltl.nodesL l := by
                intro l
                induction l with
                | nil => rfl
                | cons x r ihl => simp only [bkL, Ltl.nodesL, ihl]; rfl
              have e3' : bk kids = bkL kids + 1 := rfl
              have e4 : bk (Ltl.mk k n kids) = 1 + Ltl.nodesL kids := by show Ltl.nodes _ = _; simp [Ltl.nodes]
              rw [e4, ← hnl]
              simp only [List.map_cons, List.map_nil, Rows.uptoBulk, Rows.uptoBulkAll]
              omega
        · cases hd
    · cases hst
instance iOpnLtl2 : Opn Tryd.prog 39 Ltl where
  op := fun h => ltl_op _ h
end Go.Proofs.YtikigaeihdmcaaaDoor

/-
  Formulas of all ways as arguments.
-/
set_option linter.unusedVariables false
set_option linter.unusedSimpArgs false
namespace Go.Proofs.YtikigaeihdmcaaaDoor
open Go.RowKit

theorem ctl_op {H : Type} {enc : TypeId × Value → H} {w : World} : ∀ (fuel : Nat) {cs : List Value} {d : DataW H} {ps : List MemPlace}, DataW.trod enc Tryd.prog w 0 (fun _ => true) true fuel 24 cs = some (d, ps) → ∃ x : Ltl, rd w (Old w) cs x ∧ bk x ≤ Rows.uptoBulk d := by
  intro fuel
  induction fuel using Nat.strongRecOn with
  | _ fuel ih =>
    intro cs d ps hd
    have hst : stFact Tryd.prog 24 = some [(3, 0), (3, 1), (22, 2)] := by kernel_rfl
    unfold stFact at hst
    split at hst
    · rename_i gs hu
      have hst := Option.some.inj hst
      cases fuel with
      | zero => simp [DataW.trod] at hd
      | succ fuel =>
        unfold DataW.trod at hd
        rw [hu] at hd
        simp only at hd
        split at hd
        · rename_i hl
          obtain ⟨xs, h1, h2⟩ := Option.map_eq_some_iff.1 hd
          cases h2
          have h3 : (List.map (fun f : Field => (f.type, f.offset)) gs.toList).mapM (fun f : TypeId × Nat => DataW.trod enc Tryd.prog w 0 (fun _ => true) true fuel f.1 ((cs.drop f.2).take (Tryd.prog.cellsOf f.1))) = some xs := by rw [List.mapM_map]; exact h1
          rw [hst] at h3
          rw [cellsOf_T (α := Ltl)] at hl
          have hl3 : cs.length = 3 := hl
          simp only [List.mapM_cons, List.mapM_nil, Option.bind_eq_bind, Option.pure_def] at h3
          obtain ⟨x1, e1, h3⟩ := Option.bind_eq_some_iff.1 h3
          obtain ⟨y1, h3, hy1⟩ := Option.bind_eq_some_iff.1 h3
          obtain ⟨x2, e2, h3⟩ := Option.bind_eq_some_iff.1 h3
          obtain ⟨y2, h3, hy2⟩ := Option.bind_eq_some_iff.1 h3
          obtain ⟨x3, e3, h3⟩ := Option.bind_eq_some_iff.1 h3
          simp at h3 hy2 hy1
          subst h3 hy2 hy1
          obtain ⟨d1, p1⟩ := x1
          obtain ⟨d2, p2⟩ := x2
          obtain ⟨d3, p3⟩ := x3
          rw [cellsOf_T (α := Int)] at e1 e2
          rw [cellsOf_T (α := List Ltl)] at e3
          obtain ⟨k, hk, bk1⟩ := Opn.op (P := Tryd.prog) (t := 3) (α := Int) e1
          obtain ⟨n, hn, bk2⟩ := Opn.op (P := Tryd.prog) (t := 3) (α := Int) e2
          cases fuel with
          | zero => simp [DataW.trod] at e3
          | succ fuel =>
            obtain ⟨kids, hkids, bk3⟩ := slice_op (α := Ltl) (e := 24) (fun h => ih fuel (by omega) h) e3
            obtain ⟨ao, cap, hc, hs⟩ := rd_sl hkids
            have hk' := rd_int hk
            have hn' := rd_int hn
            refine ⟨.mk k n kids, ?_, ?_⟩
            · clear hu hst h1 e1 e2 e3 ih bk1 bk2 bk3
              obtain ⟨c0, c1, c2, rfl⟩ := len3 hl3
              have a0 : [c0] = [.int .i64 k] := hk'
              have a1 : [c1] = [.int .i64 n] := hn'
              have a2 : [c2] = [.slice ao kids.length cap] := hc
              rw [List.cons.inj a0 |>.1, List.cons.inj a1 |>.1, List.cons.inj a2 |>.1]
              exact RdT.of hs
            · have hnl : ∀ l : List Ltl, bkL l = Ltl.nodesL l := by
                intro l
                induction l with
                | nil => rfl
                | cons x r ihl => simp only [bkL, Ltl.nodesL, ihl]; rfl
              have e3' : bk kids = bkL kids + 1 := rfl
              have e4 : bk (Ltl.mk k n kids) = 1 + Ltl.nodesL kids := by show Ltl.nodes _ = _; simp [Ltl.nodes]
              rw [e4, ← hnl]
              simp only [List.map_cons, List.map_nil, Rows.uptoBulk, Rows.uptoBulkAll]
              omega
        · cases hd
    · cases hst
instance iOpnCtl2 : Opn Tryd.prog 24 Ltl where
  op := fun h => ctl_op _ h
end Go.Proofs.YtikigaeihdmcaaaDoor

