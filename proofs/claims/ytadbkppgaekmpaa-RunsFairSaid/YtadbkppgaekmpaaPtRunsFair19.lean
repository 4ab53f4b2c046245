import Derived.Laws.StructEq
import Derived.Test.YtadbkppgaekmpaaRows
import Derived.OpenShut
import Derived.JoinedCond
import Derived.Test.YtadbkppgaekmpaaPtRunsFair18
/-
  An edge compared with an edge; slices.Equal, slices.EqualFunc at edges; watchref.SameSpace.
-/
set_option linter.unusedVariables false
set_option linter.unusedSimpArgs false
namespace Go.Proofs.Ytadbkppgaekmpaa
open Go.RowKit

instance iSpL1 : IsF Try.prog 93 := ⟨_, Try.func93, rfl, by decide⟩
instance iSpL2 : IsF Try.prog 92 := ⟨_, Try.func92, rfl, by decide⟩
instance iSpL3 : IsF Try.prog 40 := ⟨_, Try.func40, rfl, by decide⟩
instance iSpL4 : IsFd Try.prog 67 0 0 := IsFd.of (by kernel_rfl)
instance iSpL5 : IsFd Try.prog 67 1 1 := IsFd.of (by kernel_rfl)
def edV (s : LEdge) : Value := .agg [.int .i64 s.1, .int .i64 s.2].toArray
theorem Rd.edge {w : World} {F : Nat → Prop} {v : Value} {x : LEdge} (h : Rd w F v x) : v = edV x := by
  obtain ⟨c1, c2, rfl, h1, h2⟩ := h.pr
  rw [rd_int h1, rd_int h2]; rfl
theorem equalIn_edge0 (x y : LEdge) (w : World) : (Op.equalIn 10000 77 (edV x) (edV y)).run Try.prog w = .ok (x == y) w := by
  have u3 := Try.underlying3
  have a3 := Try.isAgg3
  have z3 := Try.sizeOf3
  have hS : Try.prog.underlying 77 = some (.struct (Try.prog.fieldsOf 77)) := by kernel_rfl
  have hp : Try.prog.stoodInHeld 77 = false := by kernel_rfl
  obtain ⟨a, b⟩ := x
  obtain ⟨a', b'⟩ := y
  simp only [edV]
  rw [show (10000 : Nat) = 9999 + 1 from rfl, run_equalIn_agg w 9999 77 _ _ hS hp]
  simp only [Program.fieldsOf, Try.underlying77]
  go_simp
  by_cases h1 : a = a' <;> by_cases h2 : b = b' <;> simp [h1, h2]
theorem equalIn_edge (x y : LEdge) (w : World) : (binOp .eql 77 (edV x) (edV y)).run Try.prog w = .ok (.bool (x == y)) w := by
  have h := equalIn_edge0 x y w
  unfold edV at h ⊢
  rw [run_eql_struct, h]; rfl
theorem nequalIn_edge (x y : LEdge) (w : World) : (binOp .neq 77 (edV x) (edV y)).run Try.prog w = .ok (.bool (x != y)) w := by
  have h := equalIn_edge0 x y w
  unfold edV at h ⊢
  rw [run_neq_struct, h]; rfl
theorem run_eqEd (x y : LEdge) (p q : Operand) (w : World) : ((do eqGuard .eql 77 p q (edV x) (edV y); binOp .eql 77 (edV x) (edV y) : Sem Value)).run Try.prog w = .ok (.bool (x == y)) w := by
  have hm : Try.prog.eqGuardType Try.prog.depth 77 = false := by kernel_rfl
  have h := equalIn_edge x y w
  rw [Sem.run_bind]
  have hg : (eqGuard .eql 77 p q (edV x) (edV y)).run Try.prog w = .ok () w := run_eqGuard_agg w .eql 77 p q _ _ hm
  rw [hg, Result.andThen_ok, h]
theorem run_neEd (x y : LEdge) (p q : Operand) (w : World) : ((do eqGuard .neq 77 p q (edV x) (edV y); binOp .neq 77 (edV x) (edV y) : Sem Value)).run Try.prog w = .ok (.bool (x != y)) w := by
  have hm : Try.prog.eqGuardType Try.prog.depth 77 = false := by kernel_rfl
  rw [Sem.run_bind]
  have hg : (eqGuard .neq 77 p q (edV x) (edV y)).run Try.prog w = .ok () w := run_eqGuard_agg w .neq 77 p q _ _ hm
  rw [hg, Result.andThen_ok, nequalIn_edge]
section
variable {Q : Exit → Act → World → Prop} {n : Nat} {σ : Sg} {w : World} {L rest : List Oper} {d : Nat} {ty : TypeId} {pos : String} {af : Array Edge} {g : Option (Nat × Bool)} {yt : TypeId} {x y : Operand}
theorem QL.neEd {a b : LEdge} (hg : gd L σ ⟨some d, .binOp .neq 77 x y yt, ty, pos, af, g⟩ = some true) (hd : Nat.ble (d + 1) n = true) (hx : ev σ x = some (edV a)) (hy : ev σ y = some (edV b))
    (h : QL Try.prog L w Q rest n ((d, .bool (a != b)) :: σ)) : QL Try.prog L w Q (⟨some d, .binOp .neq 77 x y yt, ty, pos, af, g⟩ :: rest) n σ := by
  refine QL.run hg hd (fun c hc w' _ => ?_) h
  have := run_neEd a b x y w'
  simp only [execOp, hc.ev hx, hc.ev hy]
  rw [Sem.run_bind, this]; rfl
theorem QL.eqEd {a b : LEdge} (hg : gd L σ ⟨some d, .binOp .eql 77 x y yt, ty, pos, af, g⟩ = some true) (hd : Nat.ble (d + 1) n = true) (hx : ev σ x = some (edV a)) (hy : ev σ y = some (edV b))
    (h : QL Try.prog L w Q rest n ((d, .bool (a == b)) :: σ)) : QL Try.prog L w Q (⟨some d, .binOp .eql 77 x y yt, ty, pos, af, g⟩ :: rest) n σ := by
  refine QL.run hg hd (fun c hc w' _ => ?_) h
  have := run_eqEd a b x y w'
  simp only [execOp, hc.ev hx, hc.ev hy]
  rw [Sem.run_bind, this]; rfl
end
theorem equal_edge (w0 : World) {ao bo : Option Addr} {cap cap' : Nat} {xs ys : List LEdge} (hs : Sl w0 (Old w0) ao cap xs) (ht : Sl w0 (Old w0) bo cap' ys) :
    Rt Try.prog 93 [.slice ao xs.length cap, .slice bo ys.length cap'].toArray w0 fun v w' => v = .bool (xs == ys) ∧ Ext w0 w' := by
  have hm := hs.len63
  refine Rt.enter2 Try.func93 Try.ntmps93 rfl rfl ?_
  (repeat (first | (apply WL.pure; rfl; rfl; rfl) | (apply WL.nil) | (apply EX.thenN) | (apply CW.seq) | (apply CW.region) | (apply WL.lenS; rfl; rfl; rfl)))
  refine CW.cond rfl (fun h => ?_) (fun h => ?_)
  · (repeat (first | (apply WL.pure; rfl; rfl; rfl) | (apply WL.nil) | (apply EX.thenN) | (apply CW.seq) | (apply CW.region) | (apply CW.ret) | (apply EX.thenR)))
    refine EX.ret1 rfl rfl ⟨?_, Ext.refl _⟩
    simp at h
    have : (xs == ys) = false := by rw [beq_eq_false_iff_ne]; intro e; exact h (by rw [e])
    rw [this]
  · simp at h
    (repeat (first | (apply WL.pure; rfl; rfl; rfl) | (apply WL.nil) | (apply EX.thenN) | (apply CW.seq) | (apply CW.region) | (apply WL.lenS; rfl; rfl; rfl) | (apply CW.block) | (apply CW.skip)))
    refine CW.loop (S := Nat) (fun k => [(0, .slice ao xs.length cap), (1, .slice bo ys.length cap'), (12, .int .i64 xs.length), (13, .int .i64 k)])
      (fun k w => k ≤ xs.length ∧ Ext w0 w ∧ ∀ j (h : j < xs.length) (h' : j < ys.length), j < k → xs[j] = ys[j]) (fun k => xs.length - k) 0 (by repeat (first | exact trivial | refine ⟨rfl, ?_⟩)) ⟨by omega, Ext.refl _, by omega⟩ ?_
    rintro k w ⟨hk, hB, hn⟩
    (repeat (first | (apply WL.pure; rfl; rfl; rfl) | (apply WL.nil) | (apply EX.thenN) | (apply CW.seq) | (apply CW.region)))
    refine CW.cond rfl (fun h1 => ?_) (fun h1 => ?_)
    · simp at h1
      (repeat (first | (apply WL.pure; rfl; rfl; rfl) | (apply QL.pure; rfl; rfl; rfl) | (apply WL.nil) | (apply EX.thenN) | (apply CW.seq) | (apply CW.region) | (apply CW.block) | (apply CW.skip) | (apply CW.draw; exact mixed; kernel_rfl)))
      refine QL.elemN rfl rfl rfl rfl rfl (fun _ h => h) (hs.up hB) h1 (fun _ => rfl) (fun u q hu => ?_)
      rw [hu.edge]
      (repeat (apply QL.pure; rfl; rfl; rfl))
      refine QL.elemN rfl rfl rfl rfl rfl (fun _ h => h) (ht.up hB) (show k < ys.length by omega) (fun _ => rfl) (fun u q' hu => ?_)
      rw [hu.edge]
      skip
      refine QL.neEd rfl rfl rfl rfl ?_
      refine QL.nil (fun w1 hE => ?_)
      (repeat (apply EX.thenN))
      refine CW.cond rfl (fun h2 => ?_) (fun h2 => ?_)
      · (repeat (first | (apply WL.pure; rfl; rfl; rfl) | (apply WL.nil) | (apply EX.thenN) | (apply CW.seq) | (apply CW.region) | (apply CW.ret) | (apply EX.thenR) | (apply EX.inR)))
        refine EX.ret1 rfl rfl ⟨?_, hB.trans hE⟩
        simp at h2
        have : (xs == ys) = false := by rw [beq_eq_false_iff_ne]; intro e; subst e; exact h2 rfl
        rw [this]
      · simp at h2
        (repeat (first | (apply WL.add; rfl; rfl; rfl; rfl; omega; omega) | (apply WL.pure; rfl; rfl; rfl) | (apply WL.nil) | (apply EX.thenN) | (apply CW.region) | (apply EX.inN) | (apply CW.skip)))
        refine EX.back (k + 1) (by repeat (first | exact trivial | refine ⟨rfl, ?_⟩)) ⟨h1, hB.trans hE, ?_⟩ (by omega)
        intro j hj hj' hlt
        by_cases e : j = k
        · subst e; exact h2
        · exact hn j hj hj' (by omega)
    · simp at h1
      (repeat (first | (apply WL.pure; rfl; rfl; rfl) | (apply WL.nil) | (apply EX.thenN) | (apply CW.seq) | (apply CW.region) | (apply CW.exit) | (apply EX.thenX) | (apply EX.inX) | (apply CW.ret)))
      refine EX.ret1 rfl rfl ⟨?_, hB⟩
      have : (xs == ys) = true := by
        rw [beq_iff_eq]
        exact List.ext_getElem (by omega) fun j h1 h2 => hn j h1 h2 (by omega)
      rw [this]
theorem equalFunc_le (w0 : World) {ao bo : Option Addr} {cap cap' : Nat} {xs ys : List (List LEdge)} {fv : Value} (hs : Sl w0 (Old w0) ao cap xs) (ht : Sl w0 (Old w0) bo cap' ys)
    (hf : ∀ w, Ext w0 w → ∀ i (h : i < xs.length) (h' : i < ys.length) u u', Rd w (Old w0) u xs[i] → Rd w (Old w0) u' ys[i] → FnV Try.prog fv [u, u'] w fun v w' => v = .bool (xs[i] == ys[i]) ∧ Ext w w') :
    Rt Try.prog 92 [.slice ao xs.length cap, .slice bo ys.length cap', fv].toArray w0 fun v w' => v = .bool (xs == ys) ∧ Ext w0 w' := by
  have hm := hs.len63
  refine Rt.enter3 Try.func92 Try.ntmps92 rfl rfl ?_
  (repeat (first | (apply WL.pure; rfl; rfl; rfl) | (apply WL.nil) | (apply EX.thenN) | (apply CW.seq) | (apply CW.region) | (apply WL.lenS; rfl; rfl; rfl)))
  refine CW.cond rfl (fun h => ?_) (fun h => ?_)
  · (repeat (first | (apply WL.pure; rfl; rfl; rfl) | (apply WL.nil) | (apply EX.thenN) | (apply CW.seq) | (apply CW.region) | (apply CW.ret) | (apply EX.thenR)))
    refine EX.ret1 rfl rfl ⟨?_, Ext.refl _⟩
    simp at h
    have : (xs == ys) = false := by rw [beq_eq_false_iff_ne]; intro e; exact h (by rw [e])
    rw [this]
  · simp at h
    (repeat (first | (apply WL.pure; rfl; rfl; rfl) | (apply WL.nil) | (apply EX.thenN) | (apply CW.seq) | (apply CW.region) | (apply WL.lenS; rfl; rfl; rfl) | (apply CW.block) | (apply CW.skip)))
    refine CW.loop (S := Nat) (fun k => [(1, .slice bo ys.length cap'), (2, fv), (15, .slice ao xs.length cap), (16, .int .i64 xs.length), (17, .int .i64 k)])
      (fun k w => k ≤ xs.length ∧ Ext w0 w ∧ ∀ j (h : j < xs.length) (h' : j < ys.length), j < k → xs[j] = ys[j]) (fun k => xs.length - k) 0 (by repeat (first | exact trivial | refine ⟨rfl, ?_⟩)) ⟨by omega, Ext.refl _, by omega⟩ ?_
    rintro k w ⟨hk, hB, hn⟩
    (repeat (first | (apply WL.pure; rfl; rfl; rfl) | (apply WL.nil) | (apply EX.thenN) | (apply CW.seq) | (apply CW.region)))
    refine CW.cond rfl (fun h1 => ?_) (fun h1 => ?_)
    · simp at h1
      (repeat (first | (apply WL.pure; rfl; rfl; rfl) | (apply EX.thenN) | (apply CW.seq) | (apply CW.region) | (apply CW.block) | (apply CW.skip)))
      refine WL.elemN rfl rfl rfl rfl rfl (hs.at hB) h1 (fun _ => rfl) (fun u q hu => ?_)
      (repeat (first | (apply WL.pure; rfl; rfl; rfl) | (apply WL.nil) | (apply EX.thenN) | (apply CW.seq) | (apply CW.region)))
      refine WL.elemN rfl rfl rfl rfl rfl (ht.at hB) (show k < ys.length by omega) (fun _ => rfl) (fun u' q' hu' => ?_)
      (repeat (first | (apply WL.pure; rfl; rfl; rfl) | (apply WL.nil) | (apply EX.thenN) | (apply CW.seq) | (apply CW.region)))
      refine WL.callF rfl rfl rfl rfl (hf w hB k h1 (by omega) u u' hu hu') ?_
      rintro v w' ⟨rfl, hE⟩
      (repeat (first | (apply WL.pure; rfl; rfl; rfl) | (apply WL.nil) | (apply EX.thenN)))
      refine CW.cond rfl (fun h2 => ?_) (fun h2 => ?_)
      · (repeat (first | (apply WL.pure; rfl; rfl; rfl) | (apply WL.nil) | (apply EX.thenN) | (apply CW.seq) | (apply CW.region) | (apply CW.ret) | (apply EX.thenR) | (apply EX.inR)))
        refine EX.ret1 rfl rfl ⟨?_, hB.trans hE⟩
        simp at h2
        have : (xs == ys) = false := by rw [beq_eq_false_iff_ne]; intro e; subst e; exact h2 rfl
        rw [this]
      · simp at h2
        (repeat (first | (apply WL.add; rfl; rfl; rfl; rfl; omega; omega) | (apply WL.pure; rfl; rfl; rfl) | (apply WL.nil) | (apply EX.thenN) | (apply CW.region) | (apply EX.inN) | (apply CW.skip)))
        refine EX.back (k + 1) (by repeat (first | exact trivial | refine ⟨rfl, ?_⟩)) ⟨h1, hB.trans hE, ?_⟩ (by omega)
        intro j hj hj' hlt
        by_cases e : j = k
        · subst e; exact h2
        · exact hn j hj hj' (by omega)
    · simp at h1
      (repeat (first | (apply WL.pure; rfl; rfl; rfl) | (apply WL.nil) | (apply EX.thenN) | (apply CW.seq) | (apply CW.region) | (apply CW.exit) | (apply EX.thenX) | (apply EX.inX) | (apply CW.ret)))
      refine EX.ret1 rfl rfl ⟨?_, hB⟩
      have : (xs == ys) = true := by
        rw [beq_iff_eq]
        exact List.ext_getElem (by omega) fun j h1 h2 => hn j h1 h2 (by omega)
      rw [this]
def spV (mo : Option Addr) (mc : Nat) (no : Option Addr) (nc : Nat) (ml nl : Nat) : Value := .agg [.slice mo ml mc, .slice no nl nc].toArray
theorem SameSpace_ok (w0 : World) {mo no mo' no' : Option Addr} {mc nc mc' nc' : Nat} {m m' : List (List Int)} {n n' : List (List LEdge)} (hm : Sl w0 (Old w0) mo mc m) (hn : Sl w0 (Old w0) no nc n) (hm' : Sl w0 (Old w0) mo' mc' m') (hn' : Sl w0 (Old w0) no' nc' n') :
    Rt Try.prog 40 [spV mo mc no nc m.length n.length, spV mo' mc' no' nc' m'.length n'.length].toArray w0 fun v w' => v = .bool (m == m' && n == n') ∧ Ext w0 w' := by
  refine Rt.enter2 Try.func40 Try.ntmps40 rfl rfl ?_
  unfold spV
  (repeat (first | (apply CW.seq) | (apply CW.region)))
  refine WL.boxB rfl rfl rfl fun w1 hb2 e1 => ?_
  skip
  refine WL.boxB rfl rfl rfl fun w2 hb3 e2 => ?_
  have hb2 := hb2.ext e2
  have hE := e1.trans e2
  (repeat (first | (apply WL.pure; rfl; rfl; rfl) | (apply WL.nil) | (apply EX.thenN) | (apply CW.seq) | (apply CW.region) | (apply WL.fa; rfl; rfl; rfl) | (apply WL.ld; rfl; rfl; rfl; assumption; rfl)))
  refine WL.call rfl rfl rfl (equalFunc_ll w2 (hm.up hE) (hm'.up hE) (fun w hE i hi hi' u u' hu hu' => ?_)) ?_
  · obtain ⟨a, b, rfl, h1⟩ := hu.sl
    obtain ⟨a', b', rfl, h2⟩ := hu'.sl
    have := equal_int w (h1.lift fun b hb => Nat.lt_of_lt_of_le hb hE.size) (h2.lift fun b hb => Nat.lt_of_lt_of_le hb hE.size)
    exact FnV.mk (cs := []) (by simpa using this)
  rintro _ w3 ⟨rfl, e3⟩
  have hb2 := hb2.ext e3
  have hb3 := hb3.ext e3
  have hE := hE.trans e3
  (repeat (apply WL.pure; rfl; rfl; rfl))
  cases hmm : (m == m')
  · (repeat (first | (apply WL.pure; rfl; rfl; rfl) | (apply WL.nil) | (apply EX.thenN) | (apply WL.pass; rfl; rfl) | (apply CW.ret)))
    exact EX.ret1 rfl rfl ⟨rfl, hE⟩
  (repeat (first | (apply WL.fa; rfl; rfl; rfl) | (apply WL.ld; rfl; rfl; rfl; assumption; rfl)))
  refine WL.call rfl rfl rfl (equalFunc_le w3 (hn.up hE) (hn'.up hE) (fun w hE i hi hi' u u' hu hu' => ?_)) ?_
  · obtain ⟨a, b, rfl, h1⟩ := hu.sl
    obtain ⟨a', b', rfl, h2⟩ := hu'.sl
    have := equal_edge w (h1.lift fun b hb => Nat.lt_of_lt_of_le hb hE.size) (h2.lift fun b hb => Nat.lt_of_lt_of_le hb hE.size)
    exact FnV.mk (cs := []) (by simpa using this)
  rintro _ w4 ⟨rfl, e4⟩
  have hE := hE.trans e4
  (repeat (first | (apply WL.pure; rfl; rfl; rfl) | (apply WL.nil) | (apply EX.thenN) | (apply CW.ret)))
  exact EX.ret1 rfl rfl ⟨by simp, hE⟩
end Go.Proofs.Ytadbkppgaekmpaa
/-
  SpaceBounds: walked.
-/
set_option linter.unusedVariables false
set_option linter.unusedSimpArgs false
namespace Go.Proofs.Ytadbkppgaekmpaa
open Go.RowKit

theorem Explore_sp (w0 : World) {so fo : Option Addr} {sc fc : Nat} {ns : List LNode} {fl : List LFlow} (hs : Sl w0 (Old w0) so sc ns) (hf : Sl w0 (Old w0) fo fc fl) (tok st : Int) {r : (List (List Int) × List (List LEdge)) × Int} (hr : exploreE (ns, fl) tok st = r) :
    Rt Try.prog 34 [procV so sc fo fc ns.length fl.length, .int .i64 tok, .int .i64 st].toArray w0 fun v w' => ∃ mo mc no nc, v = .tuple ⟨[spV mo mc no nc r.1.1.length r.1.2.length, .int .i64 r.2]⟩ ∧ Sl w' (Old w') mo mc r.1.1 ∧ Sl w' (Old w') no nc r.1.2 ∧ Ext w0 w' := by
  subst hr
  refine Rt.mono (Explore_ok w0 hs hf tok st) ?_
  rintro _ w' ⟨x, y, rfl, hx, hy, hE⟩
  obtain ⟨mo, mc, rfl, h1⟩ := hx.sl
  obtain ⟨no, nc, rfl, h2⟩ := hy.sl
  exact ⟨mo, mc, no, nc, rfl, h1, h2, hE⟩
theorem spV_agg {mo no : Option Addr} {mc nc ml nl : Nat} : spV mo mc no nc ml nl = .agg [.slice mo ml mc, .slice no nl nc].toArray := rfl
end Go.Proofs.Ytadbkppgaekmpaa
/-
  RunsFair: walked.
-/
set_option linter.unusedVariables false
set_option linter.unusedSimpArgs false
namespace Go.Proofs.Ytadbkppgaekmpaa
open Go.RowKit

set_option maxRecDepth 100000 in
set_option maxHeartbeats 2000000 in
theorem RunsFair_ok (w0 : World) {so fo : Option Addr} {sc fc : Nat} {ns : List LNode} {fl : List LFlow} (hs : Sl w0 (Old w0) so sc ns) (hf : Sl w0 (Old w0) fo fc fl) (tok st : Int) :
    Rt Try.prog 12 [procV so sc fo fc ns.length fl.length, .int .i64 tok, .int .i64 st].toArray w0 fun v w' => v = .bool true ∧ Ext w0 w' := by
  refine Rt.enter3 Try.func12 Try.ntmps12 rfl rfl ?_
  have hE := Ext.refl w0
  (repeat (first | (apply CW.seq) | (apply CW.region)))
  refine WL.boxB rfl rfl rfl fun w1 hb3 e1 => ?_
  have hE := hE.trans e1
  (repeat (first | (apply WL.pure; rfl; rfl; rfl) | (apply WL.nil) | (apply EX.thenN) | (apply CW.seq) | (apply CW.region)))
  refine WL.call rfl rfl rfl (straight_ok w1) ?_
  rintro _ w2 ⟨⟨p1, q1, p2, q2, rfl, g1, g2⟩, e2⟩
  have hb3 := hb3.ext e2
  have hE := hE.trans e2
  skip
  refine WL.call rfl rfl rfl (runsOf_ok w2 (ns := straightP.1) (fl := straightP.2) g1 g2 1 9) ?_
  rintro _ w3 ⟨⟨x, oo, oc, rfl, hx, ho⟩, e3⟩
  have hb3 := hb3.ext e3
  have hE := hE.trans e3
  obtain ⟨s1, s2, s3, s4⟩ := straight_runs
  rw [show ((straightP.1, straightP.2) : LProc) = straightP from rfl] at *
  rw [s3] at ho
  rw [s1, s3]
  obtain ⟨a1, c1, a2, c2, a3, c3, a4, c4, rfl, h1, h2, h3, h4⟩ := hx.ok
  rw [s4] at h1 ⊢
  generalize (runsE straightP 1 9).1.1.2.1 = y2 at *
  generalize (runsE straightP 1 9).1.1.2.2.1 = y3 at *
  generalize (runsE straightP 1 9).1.1.2.2.2 = y4 at *
  clear hx h2 h3 h4 s2
  (repeat (apply WL.pure; rfl; rfl; rfl))
  refine WL.alloc rfl rfl (fun w4 hb7 e4 => ?_)
  skip
  refine WL.st rfl rfl rfl hb7 rfl rfl (ones_of rfl) (fun w5 hb7 hg5 => ?_)
  have e5 : Ext w3 w5 := e4.grown hg5 e4.size (fun g hg => by cases hg; exact Nat.le_refl _)
  have hb3 := hb3.ext e5
  have hE := hE.trans e5
  have h1 := h1.up e5
  obtain ⟨ob, off, rfl, hob, hc1, hc2⟩ := (ho.up e5).edge0 (i := 2) (by decide)
  clear e1 e2 e3 e4 e5 g1 g2 hg5 ho
  (repeat (first | (apply WL.pure; rfl; rfl; rfl) | (apply WL.nil) | (apply EX.thenN) | (apply CW.seq) | (apply CW.region) | (apply WL.lenS; rfl; rfl; rfl)))
  refine WL.idx (α := LEdge) rfl rfl rfl rfl (by decide) (by decide) ?_
  (repeat (apply WL.fa; rfl; rfl; rfl))
  refine WL.load (α := Int) (F := Non) (y := -1) rfl rfl rfl hc1 rfl ?_
  rw [show vOf Int [.int .i64 (([(0, 0), (1, 1), (-1, 2)] : List LEdge)[2]'(by decide)).1] = .int .i64 (-1) from rfl]
  (repeat (first | (apply WL.pure; rfl; rfl; rfl) | (apply WL.fa; rfl; rfl; rfl) | (apply WL.ld; rfl; rfl; rfl; assumption; rfl)))
  refine WL.litR [(0 : Int)] rfl rfl rfl rfl rfl (.cons (Rd.mkInt _ _ _) .nil) (by decide) (fun v1 w6 e6 r1 _ => ?_)
  obtain ⟨ko, kc, rfl, k1⟩ := r1.sl
  have hE := hE.trans e6
  have hb3 := hb3.ext e6
  skip
  refine WL.call rfl rfl rfl (equal_int w6 (h1.up e6) k1) ?_
  rintro _ w7 ⟨rfl, e7⟩
  have hE := hE.trans e7
  have hb3 := hb3.ext e7
  rw [show (([0] : List Int) == [0]) = true from rfl]
  clear e6 e7 h1 k1 r1 hb7 hc1 hc2
  (repeat (first | (apply WL.pure; rfl; rfl; rfl) | (apply WL.nil) | (apply EX.thenN) | (apply CW.seq) | (apply CW.region) | (apply WL.ldA; rfl; rfl; rfl; assumption; rfl) | (apply CW.condF; rfl) | (apply CW.skip)))
  refine WL.call rfl rfl rfl (runsOf_ok w7 (hs.up hE) (hf.up hE) tok st) ?_
  rintro _ w8 ⟨⟨x, oo, oc, rfl, hx, ho⟩, e8⟩
  have hb3 := hb3.ext e8
  have hE := hE.trans e8
  have her := runsE_err (p := (ns, fl)) (tok := tok) (st := st)
  have hok := runsE_ok (p := (ns, fl)) (tok := tok) (st := st)
  generalize (runsE (ns, fl) tok st).2 = e at *
  generalize (runsE (ns, fl) tok st).1 = R at *
  obtain ⟨W, of⟩ := R
  obtain ⟨a1, c1, a2, c2, a3, c3, a4, c4, rfl, p1, p2, p3, p4⟩ := hx.ok
  dsimp only at ho p1 p2 p3 p4 her hok ⊢
  clear hx
  (repeat (apply WL.pure; rfl; rfl; rfl))
  refine WL.alloc rfl rfl (fun w9 hb10 e9 => ?_)
  skip
  refine WL.st rfl rfl rfl hb10 rfl rfl (ones_of rfl) (fun w10 hb10 hg10 => ?_)
  have e10 : Ext w8 w10 := e9.grown hg10 e9.size (fun g hg => by cases hg; exact Nat.le_refl _)
  have hb3 := hb3.ext e10
  have hE := hE.trans e10
  have ho := ho.up e10
  have h1 := p1.up e10
  have h2 := p2.up e10
  have h4 := p4.up e10
  have hlb := p3.len63
  clear e8 e9 hg10 p1 p2 p3 p4 e10
  by_cases he : e = 0
  case neg =>
    have be : (e != 0) = true := by simpa using he
    obtain ⟨rfl, rfl⟩ := Prod.mk.inj (her he)
    (repeat (first | (apply WL.pure; rfl; rfl; rfl) | (apply WL.nil) | (apply EX.thenN) | (apply CW.seq) | (apply CW.region)))
    rw [be]
    (repeat (first | (apply WL.pure; rfl; rfl; rfl) | (apply WL.nil) | (apply EX.thenN) | (apply CW.seq) | (apply CW.region) | (apply WL.lenS; rfl; rfl; rfl) | (apply WL.fa; rfl; rfl; rfl) | (apply WL.ld; rfl; rfl; rfl; assumption; rfl) | (apply CW.condT; rfl) | (apply CW.ret) | (apply EX.thenR)))
    exact EX.ret1 rfl rfl ⟨rfl, hE⟩
  subst he
  obtain ⟨hx0, h600, hW⟩ := hok rfl
  obtain ⟨rfl, rfl⟩ := Prod.mk.inj hW
  have hNx := explore_nx hx0
  obtain ⟨hz, hsr, hsp, hnl, hml0, hfirst, _⟩ := explore_law hx0
  clear hok her hW
  have hs1 : (runsW (stepsE (ns, fl)).1 (exploreE (ns, fl) tok st).1.2).1 = allL (exploreE (ns, fl) tok st).1.2 0 := rfl
  have hs2 : (runsW (stepsE (ns, fl)).1 (exploreE (ns, fl) tok st).1.2).2.1 = runG (exploreE (ns, fl) tok st).1.2 := rfl
  have hs3 : (runsW (stepsE (ns, fl)).1 (exploreE (ns, fl) tok st).1.2).2.2.1.length = atV (exploreE (ns, fl) tok st).1.2 (exploreE (ns, fl) tok st).1.2.length := by simp [runsW]
  have hs4 : (runsW (stepsE (ns, fl)).1 (exploreE (ns, fl) tok st).1.2).2.2.2 = runF (stepsE (ns, fl)).1.length (exploreE (ns, fl) tok st).1.2 := rfl
  rw [hs1] at h1 hb10
  rw [hs2] at h2 hb10
  rw [hs3] at hb10
  rw [hs4] at h4 hb10
  clear hs1 hs2 hs3 hs4 hlb
  generalize hsl : (stepsE (ns, fl)).1 = sl at *
  have hall := runs_fair hNx
  have hchk := runs_chk hNx h600
  have hedg := runG_edges hNx h600
  generalize hml : (exploreE (ns, fl) tok st).1.1 = ml at *
  generalize hnx : (exploreE (ns, fl) tok st).1.2 = nx at *
  have hexp : exploreE (ns, fl) tok st = ((ml, nx), 0) := by rw [← hml, ← hnx, ← hx0]
  clear hx0 hml hnx
  (repeat (first | (apply WL.pure; rfl; rfl; rfl) | (apply WL.nil) | (apply EX.thenN) | (apply CW.seq) | (apply CW.region) | (apply WL.ldA; rfl; rfl; rfl; assumption; rfl) | (apply CW.condF; rfl) | (apply CW.skip)))
  refine WL.call rfl rfl rfl (Fair_ok w10 h1 h2 (by omega) h4 hedg) ?_
  rintro _ w11 ⟨lv, rfl, hlv, e11⟩
  rw [hchk] at hlv ⊢
  rw [if_pos rfl, hall] at hlv
  have hb3 := hb3.ext e11
  have hb10 := hb10.ext e11
  have hE := hE.trans e11
  have ho := ho.up e11
  obtain ⟨qo, qc, rfl, hqs⟩ := hlv.oldN.sl
  clear hlv hall hchk h1 h2 h4 e11
  (repeat (first | (apply WL.pure; rfl; rfl; rfl) | (apply WL.nil) | (apply EX.thenN) | (apply CW.seq) | (apply CW.region) | (apply WL.ldA; rfl; rfl; rfl; assumption; rfl)))
  refine WL.call rfl rfl rfl (Explore_sp w11 (hs.up hE) (hf.up hE) tok st hexp) ?_
  rintro _ w12 ⟨mo, mc, no, nc, rfl, hms, hns, e12⟩
  dsimp only at hms hns ⊢
  rw [spV_agg]
  have hb3 := hb3.ext e12
  have hb10 := hb10.ext e12
  have hE := hE.trans e12
  have ho := ho.up e12
  have hqs := hqs.up e12
  (repeat (apply WL.pure; rfl; rfl; rfl))
  refine WL.alloc rfl rfl (fun w13 hb15 e13 => ?_)
  skip
  refine WL.st rfl rfl rfl hb15 rfl rfl (ones_of rfl) (fun w14 hb15 hg14 => ?_)
  have e14 : Ext w12 w14 := e13.grown hg14 e13.size (fun g hg => by cases hg; exact Nat.le_refl _)
  have hb3 := hb3.ext e14
  have hb10 := hb10.ext e14
  have hE := hE.trans e14
  have ho := ho.up e14
  have hqs := hqs.up e14
  have hms := hms.up e14
  clear e12 e13 e14 hg14 hns
  (repeat (first | (apply WL.pure; rfl; rfl; rfl) | (apply WL.nil) | (apply EX.thenN) | (apply CW.seq) | (apply CW.region)))
  refine WL.call rfl rfl rfl (contains_bool w14 false hqs) ?_
  rintro _ w15 ⟨rfl, e15⟩
  rw [show (List.replicate (atV nx nx.length) true).contains false = false by simp]
  have hb3 := hb3.ext e15
  have hb10 := hb10.ext e15
  have hb15 := hb15.ext e15
  have hE := hE.trans e15
  have ho := ho.up e15
  have hms := hms.up e15
  have hol : (ofP nx nx.length).length = atV nx nx.length := rfl
  rw [runG_len] at hb10
  clear e15 hqs
  (repeat (first | (apply WL.pure; rfl; rfl; rfl) | (apply WL.nil) | (apply EX.thenN) | (apply WL.lenS; rfl; rfl; rfl) | (apply WL.fa; rfl; rfl; rfl) | (apply WL.ld; rfl; rfl; rfl; assumption; rfl)))
  rw [show (((ofP nx nx.length).length : Int) != ((atV nx nx.length : Nat) : Int)) = false by rw [hol]; simp]
  (repeat (first | (apply WL.pure; rfl; rfl; rfl) | (apply WL.nil) | (apply EX.thenN) | (apply CW.seq) | (apply CW.region) | (apply WL.lenS; rfl; rfl; rfl) | (apply CW.block) | (apply CW.condF; rfl) | (apply CW.skip)))
  refine CW.loop (S := Nat) (fun i => [(3, .pointer (some ⟨w0.heap.size, 0, none⟩)), (15, .pointer (some ⟨w12.heap.size, 0, none⟩)), (93, .slice oo (ofP nx nx.length).length oc), (94, .int .i64 (ofP nx nx.length).length), (95, .int .i64 i)])
    (fun i w => i ≤ atV nx nx.length ∧ Ext w15 w) (fun i => atV nx nx.length - i) 0 (by repeat (first | exact trivial | refine ⟨rfl, ?_⟩)) ⟨Nat.zero_le _, Ext.refl _⟩ ?_
  rintro i w16 ⟨hi0, e16⟩
  have hb3 := hb3.ext e16
  have hb15 := hb15.ext e16
  have hE16 := hE.trans e16
  have ho := ho.up e16
  have hms := hms.up e16
  (repeat (first | (apply WL.pure; rfl; rfl; rfl) | (apply WL.nil) | (apply EX.thenN) | (apply CW.seq) | (apply CW.region)))
  refine CW.cond rfl (fun h => ?_) (fun h => ?_)
  · have hi : i < atV nx nx.length := by simp only [decide_eq_true_eq] at h; omega
    clear h
    have hgx : (ofP nx nx.length)[i]'hi = ofX nx i := (getEd hi).symm
    obtain ⟨n, q, hn, hq, hiq, hx2, hx⟩ := ofX_ok hNx hi
    have hnm : n < ml.length := by omega
    have hcan := hsp.can n hn
    have hmark := hsr.ok _ (List.getElem_mem hnm)
    have hchm := markOk_chk hz hmark
    rw [getDG_atM hnm] at hcan
    unfold canE at hcan
    rw [if_pos hchm] at hcan
    (repeat (first | (apply EX.thenN) | (apply CW.seq) | (apply CW.region) | (apply CW.block) | (apply CW.skip)))
    refine WL.elemN (i := i) rfl rfl rfl rfl rfl ho hi (fun _ => rfl) (fun u q hu => ?_)
    rw [hgx] at hu
    rw [rd_edgeR hu]
    clear hu
    skip
    refine WL.alloc rfl rfl (fun w17 hb18 e17 => ?_)
    skip
    refine WL.st rfl rfl rfl hb18 rfl rfl (ones_of rfl) (fun w18 hb18 hg18 => ?_)
    have e18 : Ext w16 w18 := e17.grown hg18 e17.size (fun g hg => by cases hg; exact Nat.le_refl _)
    have hb3 := hb3.ext e18
    have hb15 := hb15.ext e18
    have hE18 := hE16.trans e18
    have hms := hms.up e18
    have e1518 := e16.trans e18
    clear e17 hg18
    rw [hx2] at hb18
    have hSE : ∀ z, (fun z : World => Ext w18 z) z → Ext w18 z := fun _ h => h
    have hD := Ext.drew w18
    (repeat (first | (apply WL.nil) | (apply EX.thenN) | (apply CW.seq)))
    refine CW.drawH (fun z : World => Ext w18 z) [(0, true), (1, true), (2, true), (3, true), (4, true), (5, true), (6, true), (7, false), (8, true), (9, true), (10, true), (11, true), (12, true)] mixed (by kernel_rfl) (Ext.drew w18) ?_
    (repeat (first | (refine HL.fa rfl rfl rfl rfl ?_) | (refine HL.ld (by assumption) rfl rfl rfl rfl (by assumption) rfl ?_) | (refine HL.ldA (by assumption) rfl rfl rfl rfl (by assumption) rfl ?_)))
    refine HL.elemN (k := n) hSE rfl rfl rfl rfl rfl rfl rfl (fun _ h => h) hms hnm (fun _ => rfl) (fun u q hu => ?_)
    obtain ⟨ro, rc, rfl, hr⟩ := hu.sl
    clear hu
    skip
    refine HL.mut rfl (WL.call rfl rfl rfl (Enabled_ok (drew w18) (hs.up (hE18.trans hD)) (hf.up (hE18.trans hD)) (hr.up hD)) ?_)
    rintro _ w19 ⟨cv, rfl, hcv, e19⟩
    rw [hchm] at hcv ⊢
    rw [if_pos rfl, ← hcan] at hcv
    have e1819 := hD.trans e19
    refine WL.nil (EX.mut e1819 ?_)
    (repeat (first | (apply HL.pure; rfl; rfl; rfl; rfl) | (apply HL.nil)))
    have hb18 := hb18.ext e1819
    have e1519 := e1518.trans e1819
    obtain ⟨co, cc, rfl, hcs⟩ := hcv.oldN.sl
    clear hcv
    (repeat (first | (apply WL.pure; rfl; rfl; rfl) | (apply EX.thenN) | (apply CW.seq) | (apply CW.region) | (apply WL.fa; rfl; rfl; rfl) | (apply WL.ld; rfl; rfl; rfl; assumption; rfl)))
    rcases hx with ⟨hx, hnil⟩ | ⟨hx0, hx1, hir, hxe⟩
    · rw [hx] at hb18 ⊢
      rw [hnil] at hcs ⊢
      (repeat (first | (apply WL.add; rfl; rfl; rfl; rfl; omega; omega) | (apply WL.pure; rfl; rfl; rfl) | (apply WL.nil) | (apply EX.thenN) | (apply CW.region) | (apply WL.pass; rfl; rfl) | (apply WL.lenS; rfl; rfl; rfl) | (apply WL.fa; rfl; rfl; rfl) | (apply WL.ld; rfl; rfl; rfl; assumption; rfl) | (apply EX.inN) | (apply CW.condF; rfl) | (apply CW.skip)))
      exact EX.back (i + 1) (by repeat (first | exact trivial | refine ⟨rfl, ?_⟩)) ⟨hi, e1519⟩ (by omega)
    · rw [decide_eq_true (show (ofX nx i).1 ≥ 0 by omega)]
      have hin : ((nx.getD n []).map Prod.fst).contains (ofX nx i).1 = true := by
        rw [List.contains_eq_mem]
        refine decide_eq_true (List.mem_map.2 ⟨_, List.getElem_mem hir, ?_⟩)
        rw [hxe, getEd hir]
      (repeat (first | (apply WL.pure; rfl; rfl; rfl) | (apply WL.fa; rfl; rfl; rfl) | (apply WL.ld; rfl; rfl; rfl; assumption; rfl)))
      refine WL.call rfl rfl rfl (contains_int w19 (ofX nx i).1 hcs) ?_
      rintro _ w20 ⟨rfl, e20⟩
      rw [hin]
      have hb18 := hb18.ext e20
      (repeat (first | (apply WL.pure; rfl; rfl; rfl) | (apply WL.fa; rfl; rfl; rfl) | (apply WL.ld; rfl; rfl; rfl; assumption; rfl)))
      rw [decide_eq_false (show ¬ (ofX nx i).1 < 0 by omega)]
      (repeat (first | (apply WL.add; rfl; rfl; rfl; rfl; omega; omega) | (apply WL.pure; rfl; rfl; rfl) | (apply WL.nil) | (apply EX.thenN) | (apply CW.region) | (apply WL.pass; rfl; rfl) | (apply EX.inN) | (apply CW.condF; rfl) | (apply CW.skip)))
      exact EX.back (i + 1) (by repeat (first | exact trivial | refine ⟨rfl, ?_⟩)) ⟨hi, e1519.trans e20⟩ (by omega)
  · (repeat (first | (apply WL.pure; rfl; rfl; rfl) | (apply WL.nil) | (apply EX.thenN) | (apply CW.seq) | (apply CW.region) | (apply CW.exit) | (apply EX.thenX) | (apply EX.inX) | (apply CW.ret)))
    exact EX.ret1 rfl rfl ⟨rfl, hE16⟩
end Go.Proofs.Ytadbkppgaekmpaa
/-
  From the form's readings of the arguments to our own, and back: what a law's proof needs at its two ends.
-/
set_option linter.unusedVariables false
set_option linter.unusedSimpArgs false
namespace Go.Proofs.Ytadbkppgaekmpaa
open Go.RowKit Go.ChangeShapes Go.WideShapes Go.ChangeAt

theorem bulk_one {H : Type} (d : DataW H) : 1 ≤ Rows.uptoBulk d := by
  cases d with
  | lit l => cases l <;> simp [Rows.uptoBulk]
  | nil => simp [Rows.uptoBulk]
  | ptr d => simp [Rows.uptoBulk]
  | slice elems spare => simp [Rows.uptoBulk]
  | agg parts => simp [Rows.uptoBulk]
  | iface t d => simp [Rows.uptoBulk]
  | map entries => simp [Rows.uptoBulk]
  | held h => simp [Rows.uptoBulk]
theorem bulk_app {H : Type} (l r : List (DataW H)) : Rows.uptoBulkAll (l ++ r) = Rows.uptoBulkAll l + Rows.uptoBulkAll r := by
  induction l with
  | nil => simp [Rows.uptoBulkAll]
  | cons x l ih => simp only [List.cons_append, Rows.uptoBulkAll, ih]; omega

/-- the bound, as the form hands it over -/
theorem bound {H : Type} {l : List (DataW H)} (hk : Rows.uptoSmall H l = true) : Rows.uptoBulkAll l ≤ 1048576 := by
  simpa [Rows.uptoSmall] using hk
/-- how many values a value of ours holds -/
class Bk (α : Type) where
  bk : α → Nat
abbrev bk {α : Type} [Bk α] : α → Nat := Bk.bk
instance iOpen1 : Bk Int := ⟨fun _ => 1⟩
instance iOpen2 : Bk Bool := ⟨fun _ => 1⟩
instance iOpen3 : Bk Nat := ⟨fun _ => 1⟩
instance iOpen4 : Bk ByteArray := ⟨fun s => s.size + 1⟩
def bkL {α : Type} [Bk α] : List α → Nat
  | [] => 0
  | x :: r => bk x + bkL r
instance iOpen8 {α : Type} [Bk α] : Bk (List α) := ⟨fun l => bkL l + 1⟩

/-- what the form reads at a type, we read, too -/
class Opn (P : Program) (t : TypeId) (α : Type) [Rep α] [Bk α] : Prop where
  op : ∀ {H : Type} {enc : TypeId × Value → H} {w : World} {fuel : Nat} {cs : List Value} {d : DataW H} {ps : List MemPlace}, DataW.trod enc P w 0 (fun _ => true) true fuel t cs = some (d, ps) → ∃ x : α, rd w (Old w) cs x ∧ bk x ≤ Rows.uptoBulk d

theorem Opn.int {P : Program} {t : TypeId} (h : P.underlying t = some (.int .i64)) : Opn P t Int where
  op := by
    intro H enc w fuel cs d ps hd
    cases fuel with
    | zero => simp [DataW.trod] at hd
    | succ fuel =>
      unfold DataW.trod at hd
      rw [h] at hd
      split at hd <;> try (simp at *; done)
      rename_i k k' n e1
      simp at e1
      split at hd
      · rename_i hk
        simp at hd
        obtain ⟨rfl, rfl⟩ := hd
        exact ⟨n, by rw [hk.1, ← e1]; rfl, bulk_one _⟩
      · cases hd
theorem Opn.bool {P : Program} {t : TypeId} (h : P.underlying t = some .bool) : Opn P t Bool where
  op := by
    intro H enc w fuel cs d ps hd
    cases fuel with
    | zero => simp [DataW.trod] at hd
    | succ fuel =>
      unfold DataW.trod at hd
      rw [h] at hd
      split at hd <;> try (simp at *; done)
      rename_i b e1
      simp at hd
      obtain ⟨rfl, rfl⟩ := hd
      exact ⟨b, rfl, bulk_one _⟩
theorem Opn.u64 {P : Program} {t : TypeId} (h : P.underlying t = some (.int .u64)) : Opn P t Nat where
  op := by
    intro H enc w fuel cs d ps hd
    cases fuel with
    | zero => simp [DataW.trod] at hd
    | succ fuel =>
      unfold DataW.trod at hd
      rw [h] at hd
      split at hd <;> try (simp at *; done)
      rename_i k k' n e1
      simp at e1
      split at hd
      · rename_i hk
        simp at hd
        obtain ⟨rfl, rfl⟩ := hd
        have hwf := hk.2
        rw [← e1] at hwf
        have hb : 0 ≤ n ∧ n ≤ 18446744073709551615 := by simpa [Lit.wf, IntKind.min, IntKind.max, IntKind.signed, IntKind.bits] using hwf
        refine ⟨n.toNat, ⟨?_, by omega⟩, bulk_one _⟩
        rw [hk.1, ← e1, Int.toNat_of_nonneg hb.1]
      · cases hd
theorem Opn.string {P : Program} {t : TypeId} (h : P.underlying t = some .string) : Opn P t ByteArray where
  op := by
    intro H enc w fuel cs d ps hd
    cases fuel with
    | zero => simp [DataW.trod] at hd
    | succ fuel =>
      unfold DataW.trod at hd
      rw [h] at hd
      split at hd <;> try (simp at *; done)
      rename_i s e1
      split at hd
      · rename_i hk
        simp at hd
        obtain ⟨rfl, rfl⟩ := hd
        refine ⟨s, ⟨rfl, hk⟩, ?_⟩
        show s.size + 1 ≤ _
        simp only [Rows.uptoBulk]
        have e : s.data.toList.length = s.size := by rw [Array.length_toList]; rfl
        omega
      · cases hd

theorem mapM_range {β : Type} (f : Nat → Option β) : ∀ (n : Nat) (es : List β), (List.range n).mapM f = some es → es.length = n ∧ ∀ i (h : i < es.length), f i = some es[i]
  | 0, es, h => by
    simp at h; subst h
    exact ⟨rfl, fun i hi => absurd hi (by simp)⟩
  | n + 1, es, h => by
    rw [List.range_succ, List.mapM_append] at h
    simp only [List.mapM_cons, List.mapM_nil, Option.bind_eq_bind, Option.pure_def] at h
    cases h1 : (List.range n).mapM f with
    | none => rw [h1] at h; cases h
    | some l =>
      rw [h1] at h
      cases h2 : f n with
      | none => rw [h2] at h; cases h
      | some y =>
        rw [h2] at h
        simp at h
        subst h
        obtain ⟨hl, hi⟩ := mapM_range f n l h1
        refine ⟨by simp [hl], fun i hlt => ?_⟩
        by_cases hi' : i < l.length
        · rw [List.getElem_append_left hi']; exact hi i hi'
        · have : i = n := by simp at hlt; omega
          subst this
          rw [List.getElem_append_right (by omega)]
          simpa [hl] using h2
theorem mapM_cells {w : World} {a : Addr} {n : Nat} {cs : List Value} (h : w.cells? 0 a n = some cs) : cs.length = n ∧ ∀ j (hj : j < cs.length), w.cell? (a.add j) = some cs[j] := by
  unfold World.cells? at h
  rw [if_pos (Nat.zero_le _)] at h
  exact mapM_range _ n cs h

theorem slice_op {P : Program} {t e : TypeId} {α : Type} [Rep α] [Bk α] [hs : IsS P t e] [ht : IsT P e α] {H : Type} {enc : TypeId × Value → H} {w : World} {fuel : Nat}
    (ho : ∀ {cs : List Value} {d : DataW H} {ps : List MemPlace}, DataW.trod enc P w 0 (fun _ => true) true fuel e cs = some (d, ps) → ∃ x : α, rd w (Old w) cs x ∧ bk x ≤ Rows.uptoBulk d)
    {cs : List Value} {d : DataW H} {ps : List MemPlace} (hd : DataW.trod enc P w 0 (fun _ => true) true (fuel + 1) t cs = some (d, ps)) : ∃ x : List α, rd w (Old w) cs x ∧ bk x ≤ Rows.uptoBulk d := by
  unfold DataW.trod at hd
  rw [hs.ok] at hd
  obtain ⟨i0, hi1, hi2⟩ := IsT.info (P := P) (t := e) (α := α)
  have hsz : P.cellsOf e = sz α := by simp [Program.cellsOf, hi1, hi2]
  have hp : 0 < sz α := Rep.pos
  split at hd <;> try (simp at *; done)
  · simp at hd
    obtain ⟨rfl, rfl⟩ := hd
    exact ⟨[], ⟨none, 0, rfl, by simp, by simp [maxLen], fun _ => rfl, fun i hi => absurd hi (by simp)⟩, bulk_one _⟩
  · rename_i e' a len cap e1
    cases e1
    simp only at hd
    split at hd
    · rename_i hc
      obtain ⟨_, hle, hmx⟩ := hc
      rw [hsz] at hd
      cases hm : (List.range len).mapM (fun i => (w.cells? 0 (a.add (i * sz α)) (sz α)).bind (DataW.trod enc P w 0 (fun _ => true) true fuel e)) with
      | none => rw [hm] at hd; cases hd
      | some elems =>
        rw [hm] at hd
        simp only [Option.bind_some, if_true] at hd
        obtain ⟨rest, _, hd2⟩ := Option.map_eq_some_iff.1 hd
        simp only [Prod.mk.injEq] at hd2
        obtain ⟨rfl, _⟩ := hd2
        obtain ⟨hlen, hget⟩ := mapM_range _ len elems hm
        -- one element at a time
        have one : ∀ i (h : i < elems.length), ∃ x : α, (∃ b off, some a = some ⟨b, off, none⟩ ∧ Old w b ∧ ∃ es, Cells w b (off + i * sz α) es ∧ rd w (Old w) es x) ∧ bk x ≤ Rows.uptoBulk (elems[i]).1 := by
          intro i hi
          have h1 := hget i hi
          cases hcs : w.cells? 0 (a.add (i * sz α)) (sz α) with
          | none => rw [hcs] at h1; cases h1
          | some es =>
            rw [hcs] at h1
            simp only [Option.bind_some] at h1
            obtain ⟨x, hr, hb⟩ := ho (d := (elems[i]).1) (ps := (elems[i]).2) h1
            obtain ⟨hl, hc⟩ := mapM_cells hcs
            have h0 := hc 0 (by omega)
            have hspot : a.spot = none := by
              cases hsp : a.spot with
              | none => rfl
              | some k =>
                -- the first element's first cell lies at the address itself
                have h2 := hget 0 (by omega)
                cases hcs0 : w.cells? 0 (a.add (0 * sz α)) (sz α) with
                | none => rw [hcs0] at h2; cases h2
                | some es0 =>
                  obtain ⟨hl0, hc0⟩ := mapM_cells hcs0
                  have h3 := hc0 0 (by omega)
                  have e3 : (a.add (0 * sz α)).add 0 = a := by simp [Addr.add]
                  rw [e3] at h3
                  unfold World.cell? at h3
                  split at h3
                  · simp [hsp] at h3
                  · cases h3
            obtain ⟨b, off, sp⟩ := a
            simp only at hspot
            subst hspot
            rw [WideShapes.add_plain] at hc h0
            have hblt : b < w.heap.size := World.block_lt_of_cell? w _ h0
            refine ⟨x, ⟨b, off, rfl, hblt, es, ?_, hr⟩, hb⟩
            intro j u hu
            obtain ⟨hj, rfl⟩ := List.getElem?_eq_some_iff.1 hu
            have := hc j hj
            rwa [WideShapes.add_plain] at this
        have all : ∀ k, k ≤ elems.length → ∃ xs : List α, xs.length = k ∧ (∀ i (h : i < xs.length), ∃ b off, some a = some ⟨b, off, none⟩ ∧ Old w b ∧ ∃ es, Cells w b (off + i * sz α) es ∧ rd w (Old w) es xs[i]) ∧ bkL xs ≤ Rows.uptoBulkAll ((elems.map (·.1)).take k) := by
          intro k
          induction k with
          | zero => intro _; exact ⟨[], rfl, fun i hi => absurd hi (by simp), by simp [bkL, Rows.uptoBulkAll]⟩
          | succ k ih =>
            intro hk
            obtain ⟨xs, h1, h2, h3⟩ := ih (by omega)
            obtain ⟨x, h4, h5⟩ := one k (by omega)
            refine ⟨xs ++ [x], by simp [h1], ?_, ?_⟩
            · intro i hi
              by_cases hlt : i < xs.length
              · rw [List.getElem_append_left hlt]; exact h2 i hlt
              · have : i = k := by simp at hi; omega
                subst this
                rw [List.getElem_append_right (by omega)]
                simpa [h1] using h4
            · have hb : ∀ (l : List α), bkL (l ++ [x]) = bkL l + bk x := by
                intro l; induction l with
                | nil => simp [bkL]
                | cons y l ih => simp only [List.cons_append, bkL, ih]; omega
              rw [hb, List.take_succ_eq_append_getElem (by simp; omega), bulk_app]
              simp only [List.getElem_map, Rows.uptoBulkAll]
              omega
        obtain ⟨xs, h1, h2, h3⟩ := all elems.length (Nat.le_refl _)
        have hx : xs.length = len := by omega
        refine ⟨xs, ⟨some a, cap, by rw [hx], ⟨by omega, hmx, (fun h => by cases h), h2⟩⟩, ?_⟩
        show bkL xs + 1 ≤ _
        rw [List.take_of_length_le (by simp)] at h3
        simp only [Rows.uptoBulk]
        omega
    · cases hd

theorem Opn.slice {P : Program} {t e : TypeId} {α : Type} [Rep α] [Bk α] [hs : IsS P t e] [ht : IsT P e α] [ho : Opn P e α] : Opn P t (List α) where
  op := by
    intro H enc w fuel cs d ps hd
    cases fuel with
    | zero => simp [DataW.trod] at hd
    | succ fuel => exact slice_op (e := e) (fun h => ho.op h) hd

theorem okWide_form {P : Program} {w : World} {r : Reach} {base : Nat} {t : TypeId} {v : Value} {d : TypeDesc} (hu : P.underlying t = some d) (h : Value.okWide P w r base t v) :
    (aggD d = false → v.oneCell' = true) ∧ (aggD d = true → ∃ cs, v = .agg cs) := by
  unfold Value.okWide at h
  rw [hu] at h
  constructor
  · intro hd
    cases v <;> first
      | rfl
      | (exfalso; cases d <;> simp [aggD] at hd <;> simp [Cell.okWide, Cell.ok, hu] at h)
  · intro hd
    cases d <;> simp [aggD] at hd <;> (obtain ⟨cs, rfl, _⟩ := h; exact ⟨cs, rfl⟩)
/-- an argument, opened -/
theorem Opn.arg {P : Program} {t : TypeId} {α : Type} [Rep α] [Bk α] [ht : IsT P t α] [ho : Opn P t α] {H : Type} {enc : TypeId × Value → H} {w : World} {v : Value} {d : DataW H} {ps : List MemPlace} {r : Reach} {base : Nat}
    (hv : Value.okWide P w r base t v) (h : DataW.Trod enc P w 0 (fun _ => true) true t v d ps) : ∃ x : α, Rd w (Old w) v x ∧ bk x ≤ Rows.uptoBulk d := by
  obtain ⟨i, dd, _, _, h3, h4⟩ := ht.ok
  obtain ⟨f1, f2⟩ := okWide_form h3 hv
  obtain ⟨fuel, hf⟩ := h
  obtain ⟨x, hr, hb⟩ := ho.op hf
  refine ⟨x, ⟨v.cells.toList, ?_, hr⟩, hb⟩
  unfold vOf
  split
  · rename_i he
    obtain ⟨cs, rfl⟩ := f2 (h4.trans he)
    simp [Value.cells]
  · rename_i he
    have := f1 (h4.trans he)
    cases v <;> first | rfl | (simp [Value.oneCell'] at this)

theorem trodAll_below {H : Type} {enc : TypeId × Value → H} {P : Program} (hl : laidOutB P = true) {W W' : World} (hb : Ext W W') : ∀ {ts : List TypeId} {vs : List Value} {ds : List (DataW H)} {ps : List MemPlace},
    (∀ t ∈ ts, P.readableRec t = true ∧ t < P.types.size) → DataW.TrodAll enc P W 0 (fun _ => true) true ts vs ds ps → (∀ x ∈ ps, x.block < W.heap.size) →
    DataW.TrodAll enc P W' 0 (fun b => decide (b < W.heap.size)) true ts vs ds ps
  | [], [], [], _, _, h, _ => h
  | t :: ts, v :: vs, d :: ds, ps, hr, h, hlt => by
    obtain ⟨p, q, h1, h2, rfl⟩ := h
    exact ⟨p, q, Below.trod hl (hr t (by simp)).1 (hr t (by simp)).2 h1 hb (fun x hx => hlt x (by simp [hx])),
      trodAll_below hl hb (fun t ht => hr t (by simp [ht])) h2 (fun x hx => hlt x (by simp [hx])), rfl⟩
  | [], [], _ :: _, _, _, h, _ => h.elim
  | [], _ :: _, [], _, _, h, _ => h.elim
  | [], _ :: _, _ :: _, _, _, h, _ => h.elim
  | _ :: _, [], [], _, _, h, _ => h.elim
  | _ :: _, [], _ :: _, _, _, h, _ => h.elim
  | _ :: _, _ :: _, [], _, _, h, _ => h.elim

/-- the law's end: it returned true, and only new memory was made -/
theorem law_post {H : Type} {enc : TypeId × Value → H} {P : Program} {fn : Func} {s : ChangeSpec} {W W' : World} {args : Array Value} {ds gs : List (DataW H)} {before : List MemPlace} {tb : TypeId}
    (hl : laidOutB P = true) (hW : DataW.Whole enc P fn.params.toList s.vars false W args.toList ds gs before) (hv : s.vars = []) (hr : ∀ t ∈ fn.params.toList, P.readableRec t = true ∧ t < P.types.size)
    (hsp : (s.fn H (ds ++ gs)).results = [.lit (.bool true)] ∧ (s.fn H (ds ++ gs)).args = ds ∧ (s.fn H (ds ++ gs)).vars = []) (hres : fn.resultTypes = #[tb]) (hb : P.underlying tb = some .bool) (hE : Ext W W') :
    s.post enc P fn false true false false W args (.bool true) W' := by
  have hlt := hW.lt
  have hW' := hW
  obtain ⟨p, q, hA, hV, rfl, _, _⟩ := hW
  rw [hv] at hV
  obtain ⟨e1, e2, e3⟩ := hsp
  refine ⟨ds, gs, p ++ q, [], p, [], hW', ?_, ?_, ?_, hE.frame _, fun h => by cases h⟩
  · rw [e1, hres]
    exact trodAll_mk1 (shut_bool hb true)
  · rw [e2]
    exact trodAll_below hl hE hr hA (fun x hx => hlt x (by simp [hx]))
  · rw [e3, hv]
    exact rfl
/- structs -/
instance iOpen9 {α β : Type} [Bk α] [Bk β] : Bk (α × β) := ⟨fun x => bk x.1 + bk x.2⟩
/-- a list of fields, from an offset on -/
class OpnFs (P : Program) (fs : List (TypeId × Nat)) (off : Nat) (α : Type) [Rep α] [Bk α] : Prop where
  op : ∀ {H : Type} {enc : TypeId × Value → H} {w : World} {fuel : Nat} {cs : List Value} {xs : List (DataW H × List MemPlace)}, off + sz α = cs.length →
    (fs.mapM fun f => DataW.trod enc P w 0 (fun _ => true) true fuel f.1 ((cs.drop f.2).take (P.cellsOf f.1))) = some xs → ∃ x : α, rd w (Old w) (cs.drop off) x ∧ bk x ≤ Rows.uptoBulkAll (xs.map (·.1))
theorem cellsOf_T {P : Program} {t : TypeId} {α : Type} [Rep α] [ht : IsT P t α] : P.cellsOf t = sz α := by
  obtain ⟨i, h1, h2⟩ := IsT.info (P := P) (t := t) (α := α)
  simp [Program.cellsOf, h1, h2]
instance OpnFs.one {P : Program} {t : TypeId} {off : Nat} {α : Type} [Rep α] [Bk α] [ht : IsT P t α] [ho : Opn P t α] : OpnFs P [(t, off)] off α where
  op := by
    intro H enc w fuel cs xs hl h
    simp only [List.mapM_cons, List.mapM_nil, Option.bind_eq_bind, Option.pure_def] at h
    cases h1 : DataW.trod enc P w 0 (fun _ => true) true fuel t ((cs.drop off).take (P.cellsOf t)) with
    | none => rw [h1] at h; cases h
    | some d =>
      rw [h1] at h; simp at h; subst h
      obtain ⟨d, ps⟩ := d
      obtain ⟨x, hr, hb⟩ := ho.op h1
      rw [cellsOf_T (α := α), List.take_of_length_le (by rw [List.length_drop]; omega)] at hr
      exact ⟨x, hr, by simpa [Rows.uptoBulkAll] using hb⟩
instance OpnFs.cons {P : Program} {t : TypeId} {off : Nat} {f : TypeId × Nat} {fs : List (TypeId × Nat)} {α β : Type} [Rep α] [Bk α] [Rep β] [Bk β] [ht : IsT P t α] [ho : Opn P t α] [hr : OpnFs P (f :: fs) (off + sz α) β] : OpnFs P ((t, off) :: f :: fs) off (α × β) where
  op := by
    intro H enc w fuel cs xs hl h
    rw [List.mapM_cons] at h
    simp only [Option.bind_eq_bind, Option.pure_def] at h
    have hl' : off + sz α + sz β = cs.length := by
      have : sz (α × β) = sz α + sz β := rfl
      omega
    cases h1 : DataW.trod enc P w 0 (fun _ => true) true fuel t ((cs.drop off).take (P.cellsOf t)) with
    | none => rw [h1] at h; cases h
    | some d =>
      rw [h1] at h
      simp only [Option.bind_some] at h
      obtain ⟨ys, h2, h3⟩ := Option.bind_eq_some_iff.1 h
      cases h3
      obtain ⟨d, ps⟩ := d
      obtain ⟨x, hx, hb⟩ := ho.op h1
      obtain ⟨y, hy, hc⟩ := hr.op hl' h2
      rw [cellsOf_T (α := α)] at hx
      refine ⟨(x, y), ⟨(cs.drop off).take (sz α), cs.drop (off + sz α), ?_, hx, hy⟩, ?_⟩
      · rw [← List.drop_drop, List.take_append_drop]
      · show bk x + bk y ≤ _
        simp only [List.map_cons, Rows.uptoBulkAll]
        omega
def stFact (P : Program) (t : TypeId) : Option (List (TypeId × Nat)) := match P.underlying t with
  | some (.struct fs) => some (fs.toList.map fun f => (f.type, f.offset))
  | _ => none
theorem Opn.struct {P : Program} {t : TypeId} {fs : List (TypeId × Nat)} {α : Type} [Rep α] [Bk α] [ht : IsT P t α] [hf : OpnFs P fs 0 α] (h : stFact P t = some fs) : Opn P t α where
  op := by
    intro H enc w fuel cs d ps hd
    unfold stFact at h
    split at h
    · rename_i gs hu
      cases h
      cases fuel with
      | zero => simp [DataW.trod] at hd
      | succ fuel =>
        unfold DataW.trod at hd
        rw [hu] at hd
        simp only at hd
        split at hd
        · rename_i hl
          obtain ⟨xs, h1, h2⟩ := Option.map_eq_some_iff.1 hd
          cases h2
          have := hf.op (enc := enc) (w := w) (fuel := fuel) (cs := cs) (xs := xs) (by rw [hl, cellsOf_T (α := α)]; omega) (by rw [List.mapM_map]; exact h1)
          obtain ⟨x, hr, hb⟩ := this
          exact ⟨x, by simpa using hr, by simp only [Rows.uptoBulk]; omega⟩
        · cases hd
    · cases h
instance iOpen5 : Opn Try.prog 3 Int := Opn.int Try.underlying3
instance iOpen6 : Opn Try.prog 22 (List Int) := Opn.slice
instance iOpen7 : Opn Try.prog 23 (List (List Int)) := Opn.slice
end Go.Proofs.Ytadbkppgaekmpaa
/-
  The types of the arguments, as the form reads them.
-/
set_option linter.unusedVariables false
namespace Go.Proofs.Ytadbkppgaekmpaa
open Go.RowKit

instance iOpn1 : Opn Try.prog 4 Bool := Opn.bool Try.underlying4
instance iOpn2 : Opn Try.prog 33 Nat := Opn.u64 Try.underlying33
instance iOpn3 : Opn Try.prog 9 ByteArray := Opn.string Try.underlying9
instance iOpn4 : Opn Try.prog 27 Int := Opn.int Try.underlying27
instance iOpn5 : Opn Try.prog 97 (List Bool) := Opn.slice
instance iOpn6 : Opn Try.prog 24 (List Nat) := Opn.slice
instance iOpn10 : Opn Try.prog 59 (ByteArray × Int) := Opn.struct (fs := [(9, 0), (3, 1)]) (by kernel_rfl)
instance iOpn11 : Opn Try.prog 62 (Int × Int) := Opn.struct (fs := [(3, 0), (3, 1)]) (by kernel_rfl)
instance iOpn12 : Opn Try.prog 92 (Int × Int × Int) := Opn.struct (fs := [(3, 0), (3, 1), (3, 2)]) (by kernel_rfl)
instance iOpn13 : Opn Try.prog 77 (Int × Int) := Opn.struct (fs := [(3, 0), (3, 1)]) (by kernel_rfl)
instance iOpn14 : Opn Try.prog 50 (List (ByteArray × Int)) := Opn.slice
instance iOpn15 : Opn Try.prog 51 (List (Int × Int)) := Opn.slice
instance iOpn16 : Opn Try.prog 86 (List (Int × Int × Int)) := Opn.slice
instance iOpn17 : Opn Try.prog 74 (List (Int × Int)) := Opn.slice
instance iOpn18 : Opn Try.prog 42 (List Nat × List Nat) := Opn.struct (fs := [(24, 0), (24, 1)]) (by kernel_rfl)
instance iOpn19 : Opn Try.prog 101 (List Int × List Int) := Opn.struct (fs := [(22, 0), (22, 1)]) (by kernel_rfl)
instance iOpn22 : Opn Try.prog 81 (List Int × List (List Int) × List Nat × List (List Int)) := Opn.struct (fs := [(22, 0), (23, 1), (24, 2), (23, 3)]) (by kernel_rfl)
instance iOpn23 : Opn Try.prog 26 (List Int × List (List Int) × List Nat × List Nat × List (List Int)) := Opn.struct (fs := [(22, 0), (23, 1), (24, 2), (24, 3), (23, 4)]) (by kernel_rfl)
instance iOpn24 : Opn Try.prog 53 (List (ByteArray × Int) × List (Int × Int)) := Opn.struct (fs := [(50, 0), (51, 1)]) (by kernel_rfl)
instance iOpn25 : Opn Try.prog 116 (Bool × List Int × List Int) := Opn.struct (fs := [(4, 0), (22, 1), (22, 2)]) (by kernel_rfl)
end Go.Proofs.Ytadbkppgaekmpaa
