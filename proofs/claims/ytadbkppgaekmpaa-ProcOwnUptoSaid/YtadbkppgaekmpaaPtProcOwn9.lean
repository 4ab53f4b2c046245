import Derived.Lib.RabinKarpLaws
import Derived.Test.YtadbkppgaekmpaaPtProcOwn8
/-
  Package game: fire, Fire: walked.
-/
set_option linter.unusedVariables false
set_option linter.unusedSimpArgs false
namespace Go.Proofs.Ytadbkppgaekmpaa
open Go.RowKit

/- clear(x), x a list of numbers -/
theorem elems_zeros (w : World) (F : Nat → Prop) : ∀ k : Nat, Elems w F (List.replicate k (Value.int .i64 0)) (List.replicate k (0 : Int))
  | 0 => Elems.nil
  | k + 1 => by
    rw [List.replicate_succ', List.replicate_succ']
    exact (elems_zeros w F k).append (Elems.one (rd_mkInt w F 0))
section
variable {P : Program} {Q : Exit → Act → World → Prop} {n : Nat} {σ : Sg} {w : World} {L rest : List Oper} {d : Nat} {ty : TypeId} {pos : String} {af : Array Edge} {g : Option (Nat × Bool)} {t e : TypeId} {bytes : Nat}
theorem WL.runV {op : Op} {v : Value} {w' : World} (hg : gd L σ ⟨none, op, ty, pos, af, g⟩ = some true)
    (hr : ∀ a, Fr n σ a → (execOp a.eval ⟨none, op, ty, pos, af, g⟩).run P w = .ok (.value v) w') (h : WL P L Q rest n σ w') : WL P L Q (⟨none, op, ty, pos, af, g⟩ :: rest) n σ w := by
  unfold WL at *
  intro a ha
  refine wpList_step fun K hK => ?_
  rw [gd_wanted ha hg, if_pos rfl]
  unfold Oper.wp
  rw [hr a ha]
  exact hK _ _ (h _ (ha.put (d := none) (v := v) rfl))
theorem run_clear {v : Value} {xs : List Int} {B : Nat} (w : World) [hs : IsS P t e] [ht : IsT P e Int] [hz : IsZ P e (0 : Int) bytes] (hown : Own w B e Non v xs) :
    ∃ w', (Builtin.clear_ #[t] ty #[v]).run P w = .ok (.tuple #[]) w' ∧ Own w' B e Non v (xs.map fun _ => (0 : Int)) ∧ w.grownBy w' v.ownBlock := by
  rcases hown with ⟨rfl, rfl⟩ | ⟨b, off, cap, cur, rfl, ho⟩
  · refine ⟨w, by simp [Builtin.clear_, run_underlying hs.ok], Own.nil, ?_⟩
    exact ⟨rfl, rfl, rfl, Nat.le_refl _, fun k _ _ => rfl⟩
  · by_cases h0 : xs = []
    · subst h0
      refine ⟨w, by simp [Builtin.clear_, run_underlying hs.ok], .inr ⟨b, off, cap, cur, rfl, ho⟩, ?_⟩
      exact ⟨rfl, rfl, rfl, Nat.le_refl _, fun k _ _ => rfl⟩
    obtain ⟨i, z, h1, h2, h3, h4⟩ := hz.ok
    have hzc : z.cells.toList = [Value.int .i64 0] := h4 w Non
    have hz1 : z.cells = #[Value.int .i64 0] := by apply Array.ext'; exact hzc
    have hpos : 0 < xs.length := List.length_pos_iff.2 h0
    obtain ⟨k, hk⟩ : ∃ k, xs.length = k + 1 := ⟨xs.length - 1, by omega⟩
    have hsz : sz Int = 1 := rfl
    have hfit := ho.fit
    have hle := ho.le
    rw [hsz, Nat.mul_one] at hfit
    have hst := run_storeCells_at P b off e (List.replicate xs.length (Value.int .i64 0)) 0 cur w ho.blk (by simp; omega) (fun v hv => by rw [List.eq_of_mem_replicate hv]; rfl)
    simp only [Nat.add_zero] at hst
    have hzz : (Builtin.zeroCells z.cells xs.length).toList = List.replicate xs.length (Value.int .i64 0) := by
      rw [hz1]
      simp [Builtin.zeroCells]
      apply List.ext_getElem
      · simp
      · intro i h1 h2
        simp [Nat.mod_one]
    refine ⟨w.setRow b (cur.toList.take off ++ List.replicate xs.length (Value.int .i64 0) ++ cur.toList.drop (off + xs.length)).toArray, ?_, .inr ⟨b, off, cap, (cur.toList.take off ++ List.replicate xs.length (Value.int .i64 0) ++ cur.toList.drop (off + xs.length)).toArray, by rw [List.length_map], ⟨setRow_heap w b cur _ e _ ho.blk, ho.ge, ho.nF, by simpa using ho.le, ho.mx, ?_, ?_⟩⟩, ⟨rfl, rfl, rfl, by simp, fun k _ hk => setRow_other w b k _ (fun e => hk (by rw [e]; rfl))⟩⟩
    · rw [List.length_replicate] at hst
      rw [hk] at hst hzz ⊢
      have hzv : (zeroValue e).run P w = .ok z w := by simp [zeroValue, typeInfo, h1, h2]
      simp only [List.append_assoc] at hst
      simp [Builtin.clear_, run_underlying hs.ok, hzv, hzz, hst]
    · simp only [List.size_toArray, List.length_append, List.length_take, List.length_drop, Array.length_toList, List.length_replicate]
      rw [hsz]; omega
    · rw [List.length_map, hsz, Nat.mul_one, List.map_const']
      have e1 : ((((cur.toList.take off ++ List.replicate xs.length (Value.int .i64 0) ++ cur.toList.drop (off + xs.length)).toArray.toList).drop off).take xs.length) = List.replicate xs.length (Value.int .i64 0) := by
        have hl : (cur.toList.take off).length = off := by rw [List.length_take, Array.length_toList]; omega
        simp only [List.append_assoc]
        rw [List.drop_append, hl, Nat.sub_self, List.drop_zero, List.drop_eq_nil_of_le (by omega), List.nil_append, List.take_append]
        simp
      rw [e1]
      exact elems_zeros _ _ _
theorem WL.clearI {x : Operand} {v : Value} {xs : List Int} {B : Nat} (hg : gd L σ ⟨none, .call ⟨.builtin .clear, #[x], #[t]⟩, ty, pos, af, g⟩ = some true)
    (hx : ev σ x = some v) [hs : IsS P t e] [ht : IsT P e Int] [hz : IsZ P e (0 : Int) bytes] (hown : Own w B e Non v xs)
    (h : ∀ w', Own w' B e Non v (xs.map fun _ => (0 : Int)) → w.grownBy w' v.ownBlock → WL P L Q rest n σ w') :
    WL P L Q (⟨none, .call ⟨.builtin .clear, #[x], #[t]⟩, ty, pos, af, g⟩ :: rest) n σ w := by
  obtain ⟨w', hr, ho, hgr⟩ := run_clear (P := P) (t := t) (ty := ty) w hown
  refine WL.runV (v := .tuple #[]) hg (fun a ha => ?_) (h w' ho hgr)
  simp [execOp, resolve, invoke, builtin, ha.ev hx, hr]
end
theorem bitK_and {a : Int} {k : Nat} (h0 : 0 ≤ a) (h1 : a < 4611686018427387904) : bits BinOp.and IntKind.i64 (a / 2 ^ k) 1 = bitK a k := by
  have hp : (1 : Int) ≤ 2 ^ k := pow_pos2 k
  have hq0 : 0 ≤ a / 2 ^ k := Int.ediv_nonneg h0 (by omega)
  have hq1 : a / 2 ^ k ≤ a := Int.ediv_le_self _ h0
  obtain ⟨q, hq⟩ := Int.eq_ofNat_of_zero_le hq0
  have := Go.Proofs.and_one q (by omega)
  unfold bitK
  rw [hq, this]; omega
theorem takes_set {s : LStep} {o : List Int} {f : Nat} (hf : f < o.length) (h : ¬ (s.2.1 = (f : Int) ∨ s.2.1 < 0 ∧ o[f] > 0)) : o.set f (takes o s (f : Int)) = o := by
  unfold takes
  rw [Int.toNat_natCast, getDm_at hf, if_neg h, List.set_getElem_self]
/-- the numbers of tokens are in bounds -/
def tokI (b : Nat) (o : List Int) : Prop := ∀ k (h : k < o.length), -(b : Int) ≤ o[k] ∧ o[k] ≤ 9
theorem tokI_set {b b' : Nat} {o : List Int} {k : Nat} {v : Int} (h : tokI b o) (hb : b ≤ b') (h0 : -(b' : Int) ≤ v) (h1 : v ≤ 9) : tokI b' (o.set k v) := fun j hj => by
  rw [List.length_set] at hj
  rw [List.getElem_set]
  split
  · exact ⟨h0, h1⟩
  · have := h j hj; omega
theorem fire_ok (w0 : World) {so fo mo : Option Addr} {sc fc mc : Nat} {ns : List LNode} {fl : List LFlow} {m : List Int} (hs : Sl w0 (Old w0) so sc ns) (hf : Sl w0 (Old w0) fo fc fl) (hm : Sl w0 (Old w0) mo mc m) (hc0 : chkPr (ns, fl) = 0) (hml : m.length = fl.length) (hmt : tokI 0 m) {s : LStep} {n : Nat} (hn : n < ns.length) (hsn : s ∈ stepsN (ns, fl) n) :
    Rt Try.prog 88 [procV so sc fo fc ns.length fl.length, .slice mo m.length mc, stV s].toArray w0 fun v w' => ∃ x, v = .tuple ⟨[x, .int .i64 (if (fireP (ns, fl) m s).isSome then 0 else 7)]⟩ ∧ Own w' w0.heap.size 3 Non x ((fireP (ns, fl) m s).getD []) ∧ Ext w0 w' := by
  have hok := chkPr_ok hc0
  have hf30 := hok.f
  dsimp only at hf30
  have q1 := stepsK_node _ hsn
  have q2 := stepsK_in _ hsn
  have q3 := stepsK_out _ hsn
  have hle : listE (ns, fl) (n : Int) = 0 := listE_ok hc0 hn
  have hol : (outsL fl (n : Int)).length ≤ fl.length := outsP_len
  have hil : (insL fl (n : Int)).length ≤ fl.length := insP_len
  clear hsn
  obtain ⟨s1, s2, s3⟩ := s
  dsimp only at q1 q2 q3
  subst q1
  have hp30 := pow_le2 (show (outsL fl (n : Int)).length ≤ 30 by omega)
  have hp31 : (2 : Int) ^ 30 = 1073741824 := by decide
  have hs30 : s3 < 4611686018427387904 := by omega
  unfold stV fireP
  dsimp only
  rw [Int.toNat_natCast, kindAt_at hn]
  refine Rt.enter3 Try.func88 Try.ntmps88 rfl rfl ?_
  have hE := Ext.refl w0
  (repeat (first | (apply CW.seq) | (apply CW.region)))
  refine WL.boxB rfl rfl rfl fun w1 hb3 e1 => ?_
  have hE := hE.trans e1
  skip
  refine WL.boxB rfl rfl rfl fun w2 hb5 e2 => ?_
  have hb3 := hb3.ext e2
  have hE := hE.trans e2
  (repeat (first | (apply WL.pure; rfl; rfl; rfl) | (apply WL.nil) | (apply EX.thenN) | (apply CW.seq) | (apply CW.region)))
  have hd3 := hb3
  have hd5 := hb5
  refine WL.call rfl rfl rfl (clone_int w2 (hm.up hE) (by omega)) ?_
  rintro ov w3 ⟨ho, e3⟩
  have hb3 := hb3.ext e3
  have hb5 := hb5.ext e3
  have z2 := hE.size
  have hE := hE.trans e3
  obtain ⟨nb, off, rfl, hnb, hnc⟩ := (hs.at hE).nodeK hn
  (repeat (first | (apply WL.pure; rfl; rfl; rfl) | (apply WL.nil) | (apply EX.thenN) | (apply CW.seq) | (apply CW.region) | (apply WL.fa; rfl; rfl; rfl) | (apply WL.ld; rfl; rfl; rfl; assumption; rfl)))
  refine WL.idx (α := LNode) rfl rfl rfl rfl (by omega) (by omega) ?_
  (repeat (apply WL.fa; rfl; rfl; rfl))
  refine WL.load (α := Int) (F := Non) (y := ns[n].2) rfl rfl rfl (by rw [Int.toNat_natCast]; exact hnc) rfl ?_
  rw [show vOf Int [.int .i64 ns[n].2] = .int .i64 ns[n].2 from rfl]
  (repeat (first | (apply WL.pure; rfl; rfl; rfl) | (apply WL.nil) | (apply EX.thenN)))
  refine CW.cond rfl (fun h => ?_) (fun h => ?_)
  · have h : ns[n].2 = 3 := by simpa using h
    rw [if_pos h]
    (repeat (first | (apply WL.pure; rfl; rfl; rfl) | (apply CW.seq) | (apply CW.region)))
    refine WL.clearI rfl rfl ho (fun w4 ho4 hg4 => ?_)
    have e4 : Ext w2 w4 := e3.grown hg4 e3.size (fun b hb => (ho.lt b hb).1)
    (repeat (first | (apply WL.pure; rfl; rfl; rfl) | (apply WL.nil) | (apply EX.thenN) | (apply CW.seq) | (apply CW.region) | (apply CW.ret) | (apply EX.thenR)))
    exact EX.ret2 rfl rfl rfl ⟨_, rfl, ho4.low z2, Ext.trans (Ext.trans e1 e2) e4⟩
  have h : ¬ ns[n].2 = 3 := by simpa using h
  rw [if_neg h]
  have e12 := Ext.trans e1 e2
  clear hnc hnb e1
  (repeat (first | (apply EX.thenN) | (apply CW.seq) | (apply CW.region) | (apply WL.fa; rfl; rfl; rfl) | (apply WL.ld; rfl; rfl; rfl; assumption; rfl) | (apply WL.ldA; rfl; rfl; rfl; assumption; rfl) | (apply CW.skip)))
  have hc3 := hb3
  have hc5 := hb5
  have hgo : ∀ g, ov.ownBlock = some g → g < w3.heap.size := fun g hg => (ho.lt g hg).2.1
  refine WL.call rfl rfl rfl (Ins_ok w3 (hs.up hE) (hf.up hE) (n : Int)) ?_
  rintro _ w4 ⟨x, rfl, hox, e4⟩
  rw [hle, if_pos rfl] at hox
  have hb3 := hb3.ext e4
  have hb5 := hb5.ext e4
  have z34 := e4.size
  have hE := hE.trans e4
  have ho := ho.extN e4
  have e4 := e3.trans e4
  obtain ⟨xo, xc, rfl, _⟩ := hox.oldN.sl
  have hins := fun x (hx : x ∈ insL fl (n : Int)) => insP_mem.1 hx
  rw [hle]
  generalize hinsL : insL fl (n : Int) = ins at *
  obtain ⟨s, hsdef⟩ : ∃ s : LStep, s = ((n : Int), s2, s3) := ⟨_, rfl⟩
  have hs21 : s.2.1 = s2 := by rw [hsdef]
  rw [← hsdef]
  have hTk : takeAll s m (ins.drop 0) = takeAll s m ins := by rw [List.drop_zero]
  (repeat (first | (apply WL.pure; rfl; rfl; rfl) | (apply WL.nil) | (apply EX.thenN) | (apply CW.seq) | (apply CW.region) | (apply WL.lenS; rfl; rfl; rfl) | (apply CW.block)))
  refine CW.loop (S := Nat × List Int) (fun t => [(3, .pointer (some ⟨w0.heap.size, 0, none⟩)), (5, .pointer (some ⟨w1.heap.size, 0, none⟩)), (8, ov), (36, .slice xo ins.length xc), (37, .int .i64 ins.length), (38, .int .i64 t.1)])
    (fun t w => t.1 ≤ ins.length ∧ t.2.length = m.length ∧ tokI t.1 t.2 ∧ takeAll s t.2 (ins.drop t.1) = takeAll s m ins ∧ Own w w2.heap.size 3 Non ov t.2 ∧ Own w w3.heap.size 3 Non (.slice xo ins.length xc) ins ∧ Ext w2 w ∧ w3.heap.size ≤ w.heap.size) (fun t => ins.length - t.1)
    (0, m) (by repeat (first | exact trivial | refine ⟨rfl, ?_⟩)) ⟨Nat.zero_le _, rfl, hmt, hTk, ho, hox, e4, z34⟩ ?_
  rintro ⟨i, o⟩ w5 ⟨hi, hol5, htk, hT, ho, hox, e5, z5⟩
  dsimp only at hi hol5 htk hT ho e5 ⊢
  have hE5 := Ext.trans e12 e5
  have hb3 := hd3.ext e5
  have hb5 := hd5.ext e5
  obtain ⟨_, _, exo, hxs⟩ := hox.oldN.sl
  obtain ⟨rfl, _, rfl⟩ := Value.slice.inj exo
  (repeat (first | (apply WL.pure; rfl; rfl; rfl) | (apply WL.nil) | (apply EX.thenN) | (apply CW.seq) | (apply CW.region)))
  refine CW.cond rfl (fun h => ?_) (fun h => ?_)
  · have hi' : i < ins.length := by simp at h; omega
    obtain ⟨f, ef, hlt, _⟩ := hins _ (List.getElem_mem hi')
    have hfo : f < o.length := by omega
    have hbd := htk f hfo
    rw [List.drop_eq_getElem_cons hi', takeAll, ef, Int.toNat_natCast] at hT
    have hno : ¬ (s2 = (f : Int) ∨ s2 < 0 ∧ o[f] > 0) → takeAll s o (ins.drop (i + 1)) = takeAll s m ins := fun h => by
      rw [← hT, takes_set hfo (by rw [hs21]; exact h)]
    have hyes : (s2 = (f : Int) ∨ s2 < 0 ∧ o[f] > 0) → takeAll s (o.set f (o[f] - 1)) (ins.drop (i + 1)) = takeAll s m ins := fun h => by
      rw [← hT]
      unfold takes
      rw [Int.toNat_natCast, getDm_at hfo, hs21, if_pos h]
    have htk' : tokI (i + 1) o := fun j hj => by have := htk j hj; omega
    (repeat (first | (apply EX.thenN) | (apply CW.seq) | (apply CW.region) | (apply CW.block) | (apply CW.skip)))
    refine WL.elemI rfl rfl rfl rfl rfl hxs hi' ef (fun _ => rfl) (fun q => ?_)
    (repeat (first | (apply WL.pure; rfl; rfl; rfl) | (apply WL.nil) | (apply EX.thenN) | (apply CW.seq) | (apply CW.region) | (apply WL.fa; rfl; rfl; rfl) | (apply WL.ld; rfl; rfl; rfl; assumption; rfl)))
    by_cases h1 : s2 = (f : Int)
    · rw [show (s2 == (f : Int)) = true by simpa using h1]
      (repeat (first | (apply WL.pure; rfl; rfl; rfl) | (apply WL.nil) | (apply EX.thenN) | (apply CW.region) | (apply WL.pass; rfl; rfl) | (apply CW.condT; rfl)))
      refine WL.elemON rfl rfl rfl rfl rfl ho hfo (fun _ => rfl) (fun u q hu => ?_)
      obtain rfl := hu.int
      (repeat (apply WL.sub'; rfl; rfl; rfl; rfl; omega; omega))
      refine WL.setN (u := .int .i64 (o[f] - 1)) (yv := o[f] - 1) rfl rfl rfl rfl ho hfo (fun _ => rfl) (fun _ => rfl) (Rd.mkInt _ _ _) (fun w6 q ho6 hg6 => ?_)
      have e6 : Ext w2 w6 := e5.grown hg6 e5.size (fun b hb => (ho.lt b hb).1)
      have hox6 := hox.keptN hg6 (fun g hg e => by have := (hox.lt g hg).1; have := hgo g e.symm; omega)
      (repeat (first | (apply WL.add; rfl; rfl; rfl; rfl; omega; omega) | (apply WL.pure; rfl; rfl; rfl) | (apply WL.nil) | (apply EX.thenN) | (apply CW.region) | (apply EX.inN)))
      exact EX.back (i + 1, o.set f (o[f] - 1)) (by repeat (first | exact trivial | refine ⟨rfl, ?_⟩)) ⟨hi', by simpa using hol5, tokI_set htk (by omega) (by omega) (by omega), hyes (.inl h1), ho6, hox6, e6, Nat.le_trans z5 hg6.size⟩ (by dsimp only; omega)
    · rw [show (s2 == (f : Int)) = false by simpa using h1]
      by_cases h2 : s2 < 0
      · (repeat (first | (apply WL.pure; rfl; rfl; rfl) | (apply WL.fa; rfl; rfl; rfl) | (apply WL.ld; rfl; rfl; rfl; assumption; rfl)))
        rw [decide_eq_true h2]
        (repeat (apply WL.pure; rfl; rfl; rfl))
        refine WL.elemON rfl rfl rfl rfl rfl ho hfo (fun _ => rfl) (fun u q hu => ?_)
        obtain rfl := hu.int
        (repeat (first | (apply WL.pure; rfl; rfl; rfl) | (apply WL.nil) | (apply EX.thenN)))
        refine CW.cond rfl (fun h3 => ?_) (fun h3 => ?_)
        · have h3 : o[f] > 0 := by simpa using h3
          (repeat (first | (apply WL.pure; rfl; rfl; rfl) | (apply CW.region)))
          refine WL.elemON rfl rfl rfl rfl rfl ho hfo (fun _ => rfl) (fun u q hu => ?_)
          obtain rfl := hu.int
          (repeat (apply WL.sub'; rfl; rfl; rfl; rfl; omega; omega))
          refine WL.setN (u := .int .i64 (o[f] - 1)) (yv := o[f] - 1) rfl rfl rfl rfl ho hfo (fun _ => rfl) (fun _ => rfl) (Rd.mkInt _ _ _) (fun w6 q ho6 hg6 => ?_)
          have e6 : Ext w2 w6 := e5.grown hg6 e5.size (fun b hb => (ho.lt b hb).1)
          have hox6 := hox.keptN hg6 (fun g hg e => by have := (hox.lt g hg).1; have := hgo g e.symm; omega)
          (repeat (first | (apply WL.add; rfl; rfl; rfl; rfl; omega; omega) | (apply WL.pure; rfl; rfl; rfl) | (apply WL.nil) | (apply EX.thenN) | (apply CW.region) | (apply EX.inN)))
          exact EX.back (i + 1, o.set f (o[f] - 1)) (by repeat (first | exact trivial | refine ⟨rfl, ?_⟩)) ⟨hi', by simpa using hol5, tokI_set htk (by omega) (by omega) (by omega), hyes (.inr ⟨h2, h3⟩), ho6, hox6, e6, Nat.le_trans z5 hg6.size⟩ (by dsimp only; omega)
        · have h3 : ¬ o[f] > 0 := by simpa using h3
          (repeat (first | (apply WL.add; rfl; rfl; rfl; rfl; omega; omega) | (apply WL.pure; rfl; rfl; rfl) | (apply WL.nil) | (apply EX.thenN) | (apply CW.region) | (apply EX.inN) | (apply CW.skip)))
          exact EX.back (i + 1, o) (by repeat (first | exact trivial | refine ⟨rfl, ?_⟩)) ⟨hi', hol5, htk', hno (fun h => h.elim h1 (fun h => h3 h.2)), ho, hox, e5, z5⟩ (by dsimp only; omega)
      · (repeat (first | (apply WL.pure; rfl; rfl; rfl) | (apply WL.fa; rfl; rfl; rfl) | (apply WL.ld; rfl; rfl; rfl; assumption; rfl)))
        rw [decide_eq_false h2]
        (repeat (first | (apply WL.add; rfl; rfl; rfl; rfl; omega; omega) | (apply WL.pure; rfl; rfl; rfl) | (apply WL.nil) | (apply EX.thenN) | (apply CW.region) | (apply WL.pass; rfl; rfl) | (apply EX.inN) | (apply CW.condF; rfl) | (apply CW.skip)))
        exact EX.back (i + 1, o) (by repeat (first | exact trivial | refine ⟨rfl, ?_⟩)) ⟨hi', hol5, htk', hno (fun h => h.elim h1 (fun h => h2 h.1)), ho, hox, e5, z5⟩ (by dsimp only; omega)
  obtain rfl : i = ins.length := by simp at h; omega
  rw [List.drop_length, takeAll] at hT
  rw [← hT]
  clear hT exo hxs hox
  (repeat (first | (apply EX.thenN) | (apply CW.seq) | (apply CW.region) | (apply WL.fa; rfl; rfl; rfl) | (apply WL.ld; rfl; rfl; rfl; assumption; rfl) | (apply WL.ldA; rfl; rfl; rfl; assumption; rfl) | (apply CW.exit) | (apply EX.thenX) | (apply EX.inX)))
  refine WL.call rfl rfl rfl (Outs_ok w5 (hs.up hE5) (hf.up hE5) (n : Int)) ?_
  rintro _ w6 ⟨x, rfl, hoy, e6⟩
  rw [hle, if_pos rfl] at hoy
  rw [hle]
  have ho := ho.extN e6
  have e6 := e5.trans e6
  obtain ⟨yo, yc, rfl, _⟩ := hoy.oldN.sl
  have houts := fun x (hx : x ∈ outsL fl (n : Int)) => outsP_mem.1 hx
  generalize outsL fl (n : Int) = outs at *
  have hb3 := hd3.ext e6
  have hb5 := hd5.ext e6
  generalize hR : putAll s3 0 o outs = R
  have hRk : putAll s3 0 o (outs.drop 0) = R := by rw [List.drop_zero]; exact hR
  have htk30 : tokI 30 o := fun j hj => by have := htk j hj; omega
  (repeat (first | (apply WL.pure; rfl; rfl; rfl) | (apply WL.nil) | (apply EX.thenN) | (apply CW.seq) | (apply CW.region) | (apply WL.lenS; rfl; rfl; rfl) | (apply CW.block)))
  refine CW.loop (S := Nat × List Int) (fun t => [(5, .pointer (some ⟨w1.heap.size, 0, none⟩)), (8, ov), (72, .slice yo outs.length yc), (73, .int .i64 outs.length), (74, .int .i64 t.1)])
    (fun t w => t.1 ≤ outs.length ∧ t.2.length = m.length ∧ tokI 30 t.2 ∧ putAll s3 t.1 t.2 (outs.drop t.1) = R ∧ Own w w2.heap.size 3 Non ov t.2 ∧ Own w w5.heap.size 3 Non (.slice yo outs.length yc) outs ∧ Ext w2 w) (fun t => outs.length - t.1)
    (0, o) (by repeat (first | exact trivial | refine ⟨rfl, ?_⟩)) ⟨Nat.zero_le _, hol5, htk30, hRk, ho, hoy, e6⟩ ?_
  clear hR hRk htk30 ho hoy e6 htk hol5 hb5 hb3 hE5
  rintro ⟨k, o2⟩ w7 ⟨hk, hol7, htk, hR, ho, hoy, e7⟩
  dsimp only at hk hol7 htk hR ho e7 ⊢
  have hE7 := Ext.trans e12 e7
  have hb5 := hd5.ext e7
  obtain ⟨_, _, eyo, hys⟩ := hoy.oldN.sl
  obtain ⟨rfl, _, rfl⟩ := Value.slice.inj eyo
  (repeat (first | (apply WL.pure; rfl; rfl; rfl) | (apply WL.nil) | (apply EX.thenN) | (apply CW.seq) | (apply CW.region)))
  refine CW.cond rfl (fun h => ?_) (fun h => ?_)
  · have hk' : k < outs.length := by simp at h; omega
    obtain ⟨f, ef, hlt, _⟩ := houts _ (List.getElem_mem hk')
    have hfo : f < o2.length := by omega
    have hbd := htk f hfo
    have hbit := bitK_and (k := k) q3.1 hs30
    rw [List.drop_eq_getElem_cons hk', putAll, ef, Int.toNat_natCast, getDm_at hfo] at hR
    (repeat (first | (apply WL.pure; rfl; rfl; rfl) | (apply EX.thenN) | (apply CW.seq) | (apply CW.region) | (apply CW.block) | (apply CW.skip)))
    refine WL.elemI rfl rfl rfl rfl rfl hys hk' ef (fun _ => rfl) (fun q => ?_)
    (repeat (first | (apply WL.pure; rfl; rfl; rfl) | (apply WL.nil) | (apply EX.thenN) | (apply CW.seq) | (apply CW.region) | (apply WL.fa; rfl; rfl; rfl) | (apply WL.ld; rfl; rfl; rfl; assumption; rfl)))
    refine WL.shrZ (s := k) rfl rfl rfl rfl (by omega) ?_
    (repeat (first | (apply WL.pure; rfl; rfl; rfl) | (apply WL.nil) | (apply EX.thenN)))
    rw [hbit]
    refine CW.cond rfl (fun h1 => ?_) (fun h1 => ?_)
    · have h1 : bitK s3 k = 1 := by simpa using h1
      rw [if_pos h1] at hR
      (repeat (first | (apply WL.pure; rfl; rfl; rfl) | (apply CW.seq) | (apply CW.region)))
      refine WL.elemON rfl rfl rfl rfl rfl ho hfo (fun _ => rfl) (fun u q hu => ?_)
      obtain rfl := hu.int
      (repeat (apply WL.add; rfl; rfl; rfl; rfl; omega; omega))
      refine WL.setN (u := .int .i64 (o2[f] + 1)) (yv := o2[f] + 1) rfl rfl rfl rfl ho hfo (fun _ => rfl) (fun _ => rfl) (Rd.mkInt _ _ _) (fun w8 q ho8 hg8 => ?_)
      have e8 : Ext w2 w8 := e7.grown hg8 e7.size (fun b hb => (ho.lt b hb).1)
      have hoy8 := hoy.keptN hg8 (fun g hg e => by have := (hoy.lt g hg).1; have := hgo g e.symm; omega)
      have hE8 := Ext.trans e12 e8
      have hfo8 : f < (o2.set f (o2[f] + 1)).length := by simpa using hfo
      (repeat (first | (apply WL.pure; rfl; rfl; rfl) | (apply WL.nil) | (apply EX.thenN) | (apply CW.seq) | (apply CW.region)))
      refine WL.elemON rfl rfl rfl rfl rfl ho8 hfo8 (fun _ => rfl) (fun u q hu => ?_)
      obtain rfl := hu.int
      rw [List.getElem_set_self]
      (repeat (first | (apply WL.pure; rfl; rfl; rfl) | (apply WL.nil) | (apply EX.thenN)))
      refine CW.cond rfl (fun h2 => ?_) (fun h2 => ?_)
      · have h2 : o2[f] + 1 > 9 := by simpa using h2
        rw [if_pos h2] at hR
        subst hR
        (repeat (first | (apply WL.pure; rfl; rfl; rfl) | (apply WL.nil) | (apply EX.thenN) | (apply CW.seq) | (apply CW.region) | (apply CW.ret) | (apply EX.thenR) | (apply EX.inR)))
        exact EX.ret2 rfl rfl rfl ⟨_, rfl, Own.nil, hE8⟩
      · have h2 : ¬ o2[f] + 1 > 9 := by simpa using h2
        rw [if_neg h2] at hR
        (repeat (first | (apply WL.add; rfl; rfl; rfl; rfl; omega; omega) | (apply WL.pure; rfl; rfl; rfl) | (apply WL.nil) | (apply EX.thenN) | (apply CW.region) | (apply EX.inN) | (apply CW.skip)))
        exact EX.back (k + 1, o2.set f (o2[f] + 1)) (by repeat (first | exact trivial | refine ⟨rfl, ?_⟩)) ⟨hk', by simpa using hol7, tokI_set htk (by omega) (by omega) (by omega), hR, ho8, hoy8, e8⟩ (by dsimp only; omega)
    · have h1 : ¬ bitK s3 k = 1 := by simpa using h1
      rw [if_neg h1] at hR
      (repeat (first | (apply WL.add; rfl; rfl; rfl; rfl; omega; omega) | (apply WL.pure; rfl; rfl; rfl) | (apply WL.nil) | (apply EX.thenN) | (apply CW.region) | (apply EX.inN) | (apply CW.skip)))
      exact EX.back (k + 1, o2) (by repeat (first | exact trivial | refine ⟨rfl, ?_⟩)) ⟨hk', hol7, htk, hR, ho, hoy, e7⟩ (by dsimp only; omega)
  · obtain rfl : k = outs.length := by simp at h; omega
    rw [List.drop_length, putAll] at hR
    subst hR
    (repeat (first | (apply WL.pure; rfl; rfl; rfl) | (apply WL.nil) | (apply EX.thenN) | (apply CW.seq) | (apply CW.region) | (apply CW.exit) | (apply EX.thenX) | (apply EX.inX) | (apply CW.ret)))
    exact EX.ret2 rfl rfl rfl ⟨_, rfl, ho.low z2, hE7⟩
end Go.Proofs.Ytadbkppgaekmpaa
/-
  An element that is read in a drawn region when nothing else may come.
-/
set_option linter.unusedVariables false
set_option linter.unusedSimpArgs false
namespace Go.Proofs.Ytadbkppgaekmpaa
open Go.RowKit
section
variable {P : Program} {Q : Exit → Act → World → Prop} {n : Nat} {σ : Sg} {wc : World} {L : List Oper} {S : World → Prop} {rest : List (Nat × Bool)} {i j d d' : Nat} {ty : TypeId} {pos : String} {af : Array Edge} {g : Option (Nat × Bool)} {ty' : TypeId} {pos' : String} {af' : Array Edge} {g' : Option (Nat × Bool)} {t e : TypeId} {x ix : Operand}
variable {α : Type} [Rep α] {F : Nat → Prop}
theorem HL.elemM {ao : Option Addr} {cap : Nat} {xs : List α} {k : Nat} {kd : IntKind} (hS : S wc)
    (ho1 : nthO L i = some ⟨some d, .indexAddr t x ix, ty, pos, af, g⟩) (ho2 : nthO L j = some ⟨some d', .load e (.tmp d), ty', pos', af', g'⟩)
    (hg : gd L σ ⟨some d, .indexAddr t x ix, ty, pos, af, g⟩ = some true) (hd : Nat.ble (d + 1) n = true) (hd' : Nat.ble (d' + 1) n = true)
    (hx : ev σ x = some (.slice ao xs.length cap)) (hi : ev σ ix = some (.int kd (k : Int))) [hs : IsS P t e] [ht : IsT P e α] (hsl : Sl wc F ao cap xs) (h1 : k < xs.length)
    (hg' : ∀ p, gd L ((d, .pointer p) :: σ) ⟨some d', .load e (.tmp d), ty', pos', af', g'⟩ = some true)
    (h : ∀ u p, Rd wc F u xs[k] → HL P L S Q rest n ((d', u) :: (d, .pointer p) :: σ) wc) :
    HL P L S Q ((i, false) :: (j, false) :: rest) n σ wc := by
  obtain ⟨b, off, rfl, hFb, es, hc, hr⟩ := hsl.el k h1
  refine HL.mut ho1 (WL.idx (α := α) hg hd hx hi (by omega) (by omega) (WL.nil (EX.mut hS ?_)))
  refine HL.mut ho2 (WL.load (α := α) (hg' _) hd' fnd_cons_eq (by simpa using hc) hr (WL.nil (EX.mut hS ?_)))
  exact h _ _ ⟨es, rfl, hr⟩
end
end Go.Proofs.Ytadbkppgaekmpaa
/-
  Package game: Fire; watchkeep: sumOf: walked.
-/
set_option linter.unusedVariables false
set_option linter.unusedSimpArgs false
namespace Go.Proofs.Ytadbkppgaekmpaa
open Go.RowKit

theorem tokI_of {m : List Int} (h : m.any tokB = false) : tokI 0 m := fun k hk => by
  have := List.any_eq_false.1 h _ (List.getElem_mem hk)
  unfold tokB at this
  simp at this
  omega
theorem Fire_ok (w0 : World) {so fo mo : Option Addr} {sc fc mc : Nat} {ns : List LNode} {fl : List LFlow} {m : List Int} (hs : Sl w0 (Old w0) so sc ns) (hf : Sl w0 (Old w0) fo fc fl) (hm : Sl w0 (Old w0) mo mc m) (k : Int) :
    Rt Try.prog 33 [procV so sc fo fc ns.length fl.length, .slice mo m.length mc, .int .i64 k].toArray w0 fun v w' => ∃ x, v = .tuple ⟨[x, .int .i64 (fireE (ns, fl) m k).2]⟩ ∧ Own w' w0.heap.size 3 Non x (fireE (ns, fl) m k).1 ∧ Ext w0 w' := by
  refine Rt.enter3 Try.func33 Try.ntmps33 rfl rfl ?_
  have hE := Ext.refl w0
  (repeat (first | (apply CW.seq) | (apply CW.region)))
  refine WL.boxB rfl rfl rfl fun w1 hb3 e1 => ?_
  have hE := hE.trans e1
  (repeat (first | (apply WL.pure; rfl; rfl; rfl) | (apply WL.nil) | (apply EX.thenN) | (apply CW.seq) | (apply CW.region) | (apply WL.ldA; rfl; rfl; rfl; assumption; rfl)))
  refine WL.call rfl rfl rfl (check_ok w1 (hs.up hE) (hf.up hE) (hm.up hE)) ?_
  rintro _ w2 ⟨x, rfl, hox, e2⟩
  have hb3 := hb3.ext e2
  have hE := hE.trans e2
  unfold fireE
  by_cases hz : chkM (ns, fl) m = 0
  case neg =>
    have hz1 : (chkM (ns, fl) m != 0) = true := by simpa using hz
    rw [if_pos hz]
    (repeat (first | (apply WL.pure; rfl; rfl; rfl) | (apply WL.nil) | (apply EX.thenN) | (apply CW.seq) | (apply CW.region) | (apply CW.block)))
    rw [hz1]
    (repeat (first | (apply WL.pure; rfl; rfl; rfl) | (apply WL.nil) | (apply EX.thenN) | (apply CW.seq) | (apply CW.region) | (apply CW.condT; rfl) | (apply CW.ret) | (apply EX.thenR) | (apply EX.inR)))
    exact EX.ret2 rfl rfl rfl ⟨_, rfl, Own.nil, hE⟩
  obtain ⟨hc0, hml, htok, hl60⟩ := chkM_ok hz
  have hti := tokI_of htok
  rw [if_pos hz] at hox
  rw [if_neg (by simp [hz]), hz]
  dsimp only at hml
  obtain ⟨xo, xc, rfl, hxs⟩ := hox.oldN.sl
  clear hox
  (repeat (first | (apply WL.pure; rfl; rfl; rfl) | (apply WL.nil) | (apply EX.thenN) | (apply CW.seq) | (apply CW.region) | (apply CW.block) | (apply CW.condF; rfl)))
  by_cases hr : k < 0 ∨ k ≥ (stepsL (ns, fl)).length
  · rw [if_pos hr]
    by_cases hk : k < 0
    · rw [decide_eq_true hk]
      (repeat (first | (apply WL.pure; rfl; rfl; rfl) | (apply WL.nil) | (apply EX.thenN) | (apply CW.seq) | (apply CW.region) | (apply WL.pass; rfl; rfl) | (apply CW.condT; rfl) | (apply CW.ret) | (apply EX.thenR) | (apply EX.inR)))
      exact EX.ret2 rfl rfl rfl ⟨_, rfl, Own.nil, hE⟩
    · rw [decide_eq_false hk]
      (repeat (first | (apply WL.pure; rfl; rfl; rfl) | (apply WL.nil) | (apply EX.thenN) | (apply WL.lenS; rfl; rfl; rfl)))
      rw [decide_eq_true (show k ≥ ((stepsL (ns, fl)).length : Int) from hr.resolve_left hk)]
      (repeat (first | (apply WL.pure; rfl; rfl; rfl) | (apply WL.nil) | (apply EX.thenN) | (apply CW.seq) | (apply CW.region) | (apply CW.condT; rfl) | (apply CW.ret) | (apply EX.thenR) | (apply EX.inR)))
      exact EX.ret2 rfl rfl rfl ⟨_, rfl, Own.nil, hE⟩
  rw [if_neg hr]
  have hk0 : ¬ k < 0 := fun h => hr (.inl h)
  have hk1 : ¬ k ≥ ((stepsL (ns, fl)).length : Int) := fun h => hr (.inr h)
  rw [decide_eq_false hk0]
  (repeat (first | (apply WL.pure; rfl; rfl; rfl) | (apply WL.nil) | (apply EX.thenN) | (apply WL.lenS; rfl; rfl; rfl)))
  rw [decide_eq_false hk1]
  obtain ⟨i, rfl⟩ := Int.eq_ofNat_of_zero_le (show 0 ≤ k by omega)
  have hi' : i < (stepsL (ns, fl)).length := by omega
  obtain ⟨n, hn, hsn⟩ := stepsP_mem.1 (List.getElem_mem hi')
  rw [Int.toNat_natCast, stepsL_at hi']
  have hen := fun w hs hf hm => enabled_ok w (so := so) (fo := fo) (mo := mo) (sc := sc) (fc := fc) (mc := mc) hs hf hm hc0 hml hn hsn
  have hfi := fun w hs hf hm => fire_ok w (so := so) (fo := fo) (mo := mo) (sc := sc) (fc := fc) (mc := mc) hs hf hm hc0 hml hti hn hsn
  obtain ⟨s, hsdef⟩ : ∃ s, s = (stepsL (ns, fl))[i] := ⟨_, rfl⟩
  rw [← hsdef] at hen hfi ⊢
  (repeat (first | (apply QL.pure; rfl; rfl; rfl) | (apply CW.seq) | (apply QL.ldA; rfl; rfl; rfl; assumption; rfl) | (apply CW.condF; rfl) | (apply CW.draw; exact mixed; kernel_rfl)))
  refine QL.elemN rfl rfl rfl rfl rfl (fun _ h => h) hxs hi' (fun _ => rfl) (fun u q hu => ?_)
  rw [hu.step, ← hsdef]
  refine QL.call rfl rfl rfl (fun w hw => hen w (hs.up (hE.trans hw)) (hf.up (hE.trans hw)) (hm.up (hE.trans hw))) ?_
  (repeat (apply QL.pure; rfl; rfl; rfl))
  refine QL.nil (fun w3 e3 => ?_)
  have hb3 := hb3.ext e3
  have hE := hE.trans e3
  have hxs := hxs.up e3
  clear hu
  (repeat (apply EX.thenN))
  refine CW.cond rfl (fun h => ?_) (fun h => ?_)
  · have h : enabledP (ns, fl) m s = false := by simpa using h
    rw [if_pos h]
    (repeat (first | (apply WL.pure; rfl; rfl; rfl) | (apply WL.nil) | (apply EX.thenN) | (apply CW.seq) | (apply CW.region) | (apply CW.ret) | (apply EX.thenR) | (apply EX.inR)))
    exact EX.ret2 rfl rfl rfl ⟨_, rfl, Own.nil, hE⟩
  have h : ¬ enabledP (ns, fl) m s = false := by simpa using h
  rw [if_neg h]
  have hd := Ext.drew w3
  have hSE : ∀ x, (fun x => Ext w3 x) x → Ext w3 x := fun _ h => h
  have hE4 := hE.trans hd
  (repeat (first | (apply EX.thenN) | (apply CW.seq) | (apply EX.inN) | (apply CW.skip)))
  refine CW.drawH (fun x => Ext w3 x) [(0, true), (1, true), (2, true), (3, true), (4, true), (5, true), (6, false), (7, true), (8, true), (9, true), (10, true)] mixed (by kernel_rfl) (Ext.drew w3) ?_
  (repeat (first | (apply HL.pure; rfl; rfl; rfl; rfl) | (refine HL.ldA (by assumption) rfl rfl rfl rfl (by assumption) rfl ?_)))
  refine HL.elemN (α := LStep) (k := i) hSE rfl rfl rfl rfl rfl rfl rfl (fun _ h => h) hxs hi' (fun _ => rfl) (fun u q hu => ?_)
  rw [hu.step, ← hsdef]
  skip
  refine HL.mut rfl (WL.call rfl rfl rfl (hfi (drew w3) (hs.up hE4) (hf.up hE4) (hm.up hE4)) ?_)
  rintro _ w4 ⟨x, rfl, hox, e4⟩
  have hT4 : Ext w3 w4 := hd.trans e4
  refine WL.nil (EX.mut hT4 ?_)
  (repeat (first | (apply HL.pure; rfl; rfl; rfl; rfl) | (apply HL.nil)))
  (repeat (first | (apply EX.thenN) | (apply CW.ret)))
  exact EX.ret2 rfl rfl rfl ⟨_, rfl, hox.low hE4.size, hE.trans hT4⟩
end Go.Proofs.Ytadbkppgaekmpaa
/-
  Small helpers of package watchkeep.
-/
set_option linter.unusedVariables false
namespace Go.Proofs.Ytadbkppgaekmpaa
open Go.RowKit
theorem wlists_ok (w0 : World) {ao bo : Option Addr} {cap cap' : Nat} {xs ys : List (List Int)} (hs : Sl w0 (Old w0) ao cap xs) (ht : Sl w0 (Old w0) bo cap' ys) :
    Rt Try.prog 62 [.slice ao xs.length cap, .slice bo ys.length cap'].toArray w0 fun v w' => v = .bool (xs == ys) ∧ Ext w0 w' := by
  refine Rt.enter2 Try.func62 Try.ntmps62 rfl rfl ?_
  (repeat (first | (apply WL.pure; rfl; rfl; rfl) | (apply WL.nil) | (apply EX.thenN) | (apply CW.seq) | (apply CW.region)))
  refine WL.call rfl rfl rfl (equalFunc_ll w0 hs ht (fun w hE i hi hi' u u' hu hu' => ?_)) ?_
  · obtain ⟨a, b, rfl, h1⟩ := hu.sl
    obtain ⟨a', b', rfl, h2⟩ := hu'.sl
    have := equal_int w (h1.lift fun b hb => Nat.lt_of_lt_of_le hb hE.size) (h2.lift fun b hb => Nat.lt_of_lt_of_le hb hE.size)
    exact FnV.mk (cs := []) (by simpa using this)
  · rintro v w' ⟨rfl, hE⟩
    (repeat (first | (apply WL.pure; rfl; rfl; rfl) | (apply WL.nil) | (apply EX.thenN) | (apply CW.ret)))
    exact EX.ret1 rfl rfl ⟨rfl, hE⟩
theorem wrest_ok (w : World) (n m : Int) (hm : 0 < m) (hm2 : m < 4611686018427387904) : Rt Try.prog 60 [.int .i64 n, .int .i64 m].toArray w fun v w' => v = .int .i64 (n % m) ∧ w = w' := by
  refine Rt.enter2 Try.func60 Try.ntmps60 rfl rfl ?_
  have h1 := Int.tmod_add_mul_tdiv n m
  have h2 : n.tmod m < m := Int.tmod_lt_of_pos n hm
  have h3 : -m < n.tmod m := by
    have := Int.tmod_lt_of_pos (-n) hm
    rw [Int.neg_tmod] at this; omega
  have hpos : 0 ≤ n.tmod m → n.tmod m = n % m := fun h => by
    have e : n % m = (n.tmod m + m * n.tdiv m) % m := by rw [h1]
    rw [e, Int.add_mul_emod_self_left, Int.emod_eq_of_lt h h2]
  have hneg : n.tmod m < 0 → n.tmod m + m = n % m := fun h => by
    have e : n % m = ((n.tmod m + m) + m * (n.tdiv m - 1)) % m := by rw [Int.mul_sub]; congr 1; omega
    rw [e, Int.add_mul_emod_self_left, Int.emod_eq_of_lt (by omega) (by omega)]
  (repeat (first | (apply WL.pure; rfl; rfl; rfl) | (apply WL.nil) | (apply EX.thenN) | (apply CW.seq) | (apply CW.region)))
  refine WL.remT rfl rfl rfl rfl (by omega) ?_
  (repeat (first | (apply WL.pure; rfl; rfl; rfl) | (apply WL.nil) | (apply EX.thenN) | (apply CW.seq) | (apply CW.region)))
  refine CW.cond rfl (fun h => ?_) (fun h => ?_) <;> simp only [decide_eq_true_eq, decide_eq_false_iff_not] at h
  · (repeat (first | (apply WL.add; rfl; rfl; rfl; rfl; omega; omega) | (apply WL.pure; rfl; rfl; rfl) | (apply WL.nil) | (apply EX.thenN) | (apply CW.seq) | (apply CW.region) | (apply CW.ret)))
    exact EX.ret1 rfl rfl ⟨congrArg (Value.int .i64) (hneg h), rfl⟩
  · (repeat (first | (apply WL.pure; rfl; rfl; rfl) | (apply WL.nil) | (apply EX.thenN) | (apply CW.seq) | (apply CW.region) | (apply CW.ret) | (apply CW.skip)))
    exact EX.ret1 rfl rfl ⟨congrArg (Value.int .i64) (hpos (by omega)), rfl⟩
end Go.Proofs.Ytadbkppgaekmpaa
/-
  watchkeep: walked: walked.
-/
set_option linter.unusedVariables false
set_option linter.unusedSimpArgs false
namespace Go.Proofs.Ytadbkppgaekmpaa
open Go.RowKit

/-- met, but no block of the two lists that grow -/
def Fx (w : World) (mv lv : Value) (b : Nat) : Prop := b < w.heap.size ∧ mv.ownBlock ≠ some b ∧ lv.ownBlock ≠ some b
theorem Fx.step1 {w w' : World} {mv mv' lv : Value} (hg : w.grownBy w' mv.ownBlock) (hnb : ∀ g, mv'.ownBlock = some g → mv.ownBlock = some g ∨ w.heap.size ≤ g) {ao : Option Addr} {cap : Nat} {m : List Int} (h : Sl w (Fx w mv lv) ao cap m) : Sl w' (Fx w' mv' lv) ao cap m :=
  h.mono (fun b hb => hg.block b hb.1 (fun e => hb.2.1 e.symm)) fun b hb => ⟨Nat.lt_of_lt_of_le hb.1 hg.size, fun e => (hnb b e).elim (fun e => hb.2.1 e) (fun e => by have := hb.1; omega), hb.2.2⟩
theorem Fx.step2 {w w' : World} {mv lv lv' : Value} (hg : w.grownBy w' lv.ownBlock) (hnb : ∀ g, lv'.ownBlock = some g → lv.ownBlock = some g ∨ w.heap.size ≤ g) {ao : Option Addr} {cap : Nat} {m : List Int} (h : Sl w (Fx w mv lv) ao cap m) : Sl w' (Fx w' mv lv') ao cap m :=
  h.mono (fun b hb => hg.block b hb.1 (fun e => hb.2.2 e.symm)) fun b hb => ⟨Nat.lt_of_lt_of_le hb.1 hg.size, hb.2.1, fun e => (hnb b e).elim (fun e => hb.2.2 e) (fun e => by have := hb.1; omega)⟩
theorem Fx.ext {w w' : World} {mv lv : Value} (hE : Ext w w') {ao : Option Addr} {cap : Nat} {m : List Int} (h : Sl w (Fx w mv lv) ao cap m) : Sl w' (Fx w' mv lv) ao cap m :=
  h.mono (fun b hb => hE.block b hb.1) fun b hb => ⟨Nat.lt_of_lt_of_le hb.1 hE.size, hb.2.1, hb.2.2⟩
theorem Fx.old {w : World} {mv lv : Value} {ao : Option Addr} {cap : Nat} {m : List Int} (h : Sl w (Fx w mv lv) ao cap m) : Sl w (Old w) ao cap m := h.mono (fun _ _ => rfl) fun b hb => hb.1
structure Marks (w : World) (B : Nat) (mv lv : Value) (vs : List Raw) (xs : List (List Int)) (ks : List Int) : Prop where
  own : Own w B 22 Non mv vs
  kso : Own w B 3 Non lv ks
  dis : ∀ g, mv.ownBlock = some g → lv.ownBlock = some g → False
  len : vs.length = xs.length
  el : ∀ i (h : i < vs.length) (h' : i < xs.length), ∃ ao cap, vs[i].v = .slice ao xs[i].length cap ∧ Sl w (Fx w mv lv) ao cap xs[i]
section
variable {w w' : World} {B : Nat} {mv lv : Value} {vs : List Raw} {xs : List (List Int)} {ks : List Int}
theorem Marks.ext (h : Marks w B mv lv vs xs ks) (hE : Ext w w') : Marks w' B mv lv vs xs ks :=
  ⟨h.own.extN hE, h.kso.extN hE, h.dis, h.len, fun i h1 h2 => by
    obtain ⟨ao, cap, e, hs⟩ := h.el i h1 h2
    exact ⟨ao, cap, e, Fx.ext hE hs⟩⟩
theorem Marks.push (h : Marks w B mv lv vs xs ks) {ao : Option Addr} {cap : Nat} {m : List Int} (hm : Sl w (Fx w mv lv) ao cap m) {mv' : Value} (ho : Own w' B 22 Non mv' (vs ++ [⟨.slice ao m.length cap⟩])) (hg : w.grownBy w' mv.ownBlock)
    (hnb : ∀ g, mv'.ownBlock = some g → mv.ownBlock = some g ∨ w.heap.size ≤ g) : Marks w' B mv' lv (vs ++ [⟨.slice ao m.length cap⟩]) (xs ++ [m]) ks := by
  refine ⟨ho, h.kso.keptN hg (fun g hg' e => h.dis g e.symm hg'), fun g h1 h2 => ?_, by simp [h.len], fun i h1 h2 => ?_⟩
  · rcases hnb g h1 with h3 | h3
    · exact h.dis g h3 h2
    · have := (h.kso.lt g h2).2.1; omega
  · by_cases hi : i < vs.length
    · have hi' : i < xs.length := by rw [← h.len]; exact hi
      obtain ⟨a, c, e, hs⟩ := h.el i hi hi'
      refine ⟨a, c, ?_, ?_⟩
      · rw [List.getElem_append_left hi, e]; simp only [List.getElem_append_left hi']
      · rw [List.getElem_append_left hi']; exact Fx.step1 hg hnb hs
    · have hiv : i = vs.length := by simp at h1; omega
      have hix : i = xs.length := by rw [← h.len]; exact hiv
      refine ⟨ao, cap, ?_, ?_⟩
      · rw [List.getElem_append_right (by omega), List.getElem_append_right (by omega)]
        simp [hiv, h.len]
      · rw [List.getElem_append_right (by omega)]
        simp only [hix, Nat.sub_self, List.getElem_cons_zero]
        exact Fx.step1 hg hnb hm
theorem Marks.pushK (h : Marks w B mv lv vs xs ks) {k : Int} {lv' : Value} (ho : Own w' B 3 Non lv' (ks ++ [k])) (hg : w.grownBy w' lv.ownBlock)
    (hnb : ∀ g, lv'.ownBlock = some g → lv.ownBlock = some g ∨ w.heap.size ≤ g) : Marks w' B mv lv' vs xs (ks ++ [k]) := by
  refine ⟨h.own.keptN hg (fun g hg' e => h.dis g hg' e.symm), ho, fun g h1 h2 => ?_, h.len, fun i h1 h2 => ?_⟩
  · rcases hnb g h2 with h3 | h3
    · exact h.dis g h1 h3
    · have := (h.own.lt g h1).2.1; omega
  · obtain ⟨a, c, e, hs⟩ := h.el i h1 h2
    exact ⟨a, c, e, Fx.step2 hg hnb hs⟩
theorem Marks.rd (h : Marks w B mv lv vs xs ks) : Rd w (Old w) mv xs := by
  obtain ⟨ao, cap, e, hs⟩ := h.own.oldN.sl
  have hsl : Sl w (Old w) ao cap xs := by
    refine ⟨by rw [← h.len]; exact hs.le, hs.mx, hs.nil, fun i hi => ?_⟩
    have hi' : i < vs.length := by rw [h.len]; exact hi
    obtain ⟨b, off, e1, hF, es, hc, hr⟩ := hs.el i hi'
    obtain ⟨rfl, h1⟩ := hr
    obtain ⟨io, ic, e2, hs2⟩ := h.el i hi' hi
    exact ⟨b, off, e1, hF, [vs[i].v], hc, io, ic, by rw [e2], Fx.old hs2⟩
  rw [e, h.len]
  exact hsl.rd
end
theorem canE_len {p : LProc} {m : List Int} : (canE p m).length ≤ 60 := by
  unfold canE
  split
  · rename_i h
    obtain ⟨_, _, _, h60⟩ := chkM_ok h
    unfold canL canP
    rw [List.length_map]
    have := List.length_filter_le (fun i => enabledP p m ((stepsL p).getD i (0, 0, 0))) (List.range (stepsL p).length)
    rw [List.length_range] at this
    omega
  · simp
theorem walked_ok (w0 : World) {so fo dO : Option Addr} {sc fc dc : Nat} {ns : List LNode} {fl : List LFlow} {dice : List Int} (hs : Sl w0 (Old w0) so sc ns) (hf : Sl w0 (Old w0) fo fc fl) (hd : Sl w0 (Old w0) dO dc dice) (hdl : dice.length ≤ 1048576) :
    Rt Try.prog 42 [procV so sc fo fc ns.length fl.length, .slice dO dice.length dc].toArray w0 fun v w' => ∃ mv lv, v = .tuple ⟨[mv, lv]⟩ ∧ Rd w' (Old w') mv (walkedP (ns, fl) dice).1 ∧ Rd w' (Old w') lv (walkedP (ns, fl) dice).2 ∧ Ext w0 w' := by
  refine Rt.enter2 Try.func42 Try.ntmps42 rfl rfl ?_
  have hE := Ext.refl w0
  (repeat (first | (apply CW.seq) | (apply CW.region)))
  refine WL.boxB rfl rfl rfl fun w1 hb1 e1 => ?_
  have hE := hE.trans e1
  (repeat (first | (apply WL.pure; rfl; rfl; rfl) | (apply WL.nil) | (apply EX.thenN) | (apply CW.seq) | (apply CW.region) | (apply WL.ldA; rfl; rfl; rfl; assumption; rfl)))
  refine WL.call rfl rfl rfl (Begin_ok w1 (hs.up hE) (hf.up hE)) ?_
  rintro _ w2 ⟨x, rfl, hox, e2⟩
  have hE := hE.trans e2
  have hb2 := hb1.ext e2
  unfold walkedP
  by_cases hz : (stepsE (ns, fl)).2 = 0
  case neg =>
    have hz1 : ((stepsE (ns, fl)).2 != 0) = true := by simpa using hz
    rw [if_pos hz]
    (repeat (first | (apply WL.pure; rfl; rfl; rfl) | (apply WL.nil) | (apply EX.thenN) | (apply CW.seq) | (apply CW.region)))
    rw [hz1]
    (repeat (first | (apply WL.pure; rfl; rfl; rfl) | (apply WL.nil) | (apply EX.thenN) | (apply CW.seq) | (apply CW.region) | (apply CW.condT; rfl) | (apply CW.ret) | (apply EX.thenR)))
    exact EX.ret2 rfl rfl rfl ⟨_, _, rfl, (Own.nil (B := 0) (F := Non) (e := 0) (α := List Int)).old (fun _ h => h.elim), (Own.nil (B := 0) (F := Non) (e := 0) (α := Int)).oldN, hE⟩
  rw [if_pos hz] at hox
  rw [if_neg (by simp [hz]), hz]
  obtain ⟨xo, xc, rfl, hxs⟩ := hox.oldN.sl
  have hbx := fun g hg => (hox.lt g hg)
  generalize beginL (ns, fl) = m0 at *
  (repeat (first | (apply WL.pure; rfl; rfl; rfl) | (apply WL.nil) | (apply EX.thenN) | (apply CW.seq) | (apply CW.region) | (apply CW.condF; rfl) | (apply CW.skip)))
  refine WL.lit (α := Raw) (F := Non) (ys := [(⟨.slice xo m0.length xc⟩ : Raw)]) rfl rfl rfl rfl rfl (.cons (Rd.mkRaw _ _ _ rfl) .nil) (by show 1 * 1 ≤ 16777216; decide) (fun _ h => h.elim) (fun w3 ho3 hg3 => ?_)
  have e3 : Ext w2 w3 := (Ext.refl _).grown hg3 (Nat.le_refl _) (fun k h => by cases h)
  have hm0 : Sl w3 (Fx w3 (.slice (some ⟨w2.heap.size, 0, none⟩) 1 1) (.slice none 0 0)) xo xc m0 := hxs.mono (fun b hb => e3.block b hb) fun b hb => ⟨Nat.lt_of_lt_of_le hb e3.size, fun e => by
    have e : some w2.heap.size = some b := e
    injection e with e; have : b < w2.heap.size := hb; omega, fun e => by cases e⟩
  have hM : Marks w3 w2.heap.size (.slice (some ⟨w2.heap.size, 0, none⟩) 1 1) (.slice none 0 0) [(⟨.slice xo m0.length xc⟩ : Raw)] [m0] [] :=
    ⟨ho3, Own.nil, (fun g _ h => by cases h), rfl, fun i h1 h2 => by
      obtain rfl : i = 0 := by simp at h1; omega
      exact ⟨xo, xc, rfl, hm0⟩⟩
  have hb3 := hb2.ext e3
  clear ho3 hg3 hox hxs hbx hb1
  generalize Value.slice (some ⟨w2.heap.size, 0, none⟩) 1 1 = mv0 at *
  (repeat (first | (apply WL.pure; rfl; rfl; rfl) | (apply WL.nil) | (apply EX.thenN) | (apply CW.seq) | (apply CW.region) | (apply WL.lenS; rfl; rfl; rfl) | (apply CW.block)))
  refine CW.loop (S := Nat × (Option Addr × Nat) × (Value × Value) × List Raw × List (List Int) × List Int × List Int) (fun s => [(2, .pointer (some ⟨w0.heap.size, 0, none⟩)), (4, s.2.2.1.1), (5, s.2.2.1.2), (6, .slice s.2.1.1 s.2.2.2.2.2.2.length s.2.1.2), (24, .slice dO dice.length dc), (25, .int .i64 dice.length), (26, .int .i64 s.1)])
    (fun s w => s.1 ≤ dice.length ∧ s.2.2.2.2.1 ++ (walkGo (ns, fl) (dice.drop s.1) s.2.2.2.2.2.2).1 = m0 :: (walkGo (ns, fl) dice m0).1 ∧ s.2.2.2.2.2.1 ++ (walkGo (ns, fl) (dice.drop s.1) s.2.2.2.2.2.2).2 = (walkGo (ns, fl) dice m0).2
      ∧ Marks w w2.heap.size s.2.2.1.1 s.2.2.1.2 s.2.2.2.1 s.2.2.2.2.1 s.2.2.2.2.2.1 ∧ Sl w (Fx w s.2.2.1.1 s.2.2.1.2) s.2.1.1 s.2.1.2 s.2.2.2.2.2.2 ∧ s.2.2.2.1.length = s.1 + 1 ∧ s.2.2.2.2.2.1.length = s.1 ∧ Ext w2 w) (fun s => dice.length - s.1)
    (0, (xo, xc), (mv0, .slice none 0 0), [(⟨.slice xo m0.length xc⟩ : Raw)], [m0], [], m0) (by repeat (first | exact trivial | refine ⟨rfl, ?_⟩)) ⟨Nat.zero_le _, by simp, by simp, hM, hm0, rfl, rfl, e3⟩ ?_
  clear hM hm0 hb3 e3
  rintro ⟨i, ⟨ao, cap⟩, ⟨mv, lv⟩, vs, xs, ks, m⟩ w4 ⟨hi, hT1, hT2, hM, hm, hvl, hkl, e4⟩
  dsimp only at hi hT1 hT2 hM hm hvl hkl e4 ⊢
  have hE4 := hE.trans e4
  have hb4 := hb2.ext e4
  (repeat (first | (apply WL.pure; rfl; rfl; rfl) | (apply WL.nil) | (apply EX.thenN) | (apply CW.seq) | (apply CW.region)))
  refine CW.cond rfl (fun h => ?_) (fun h => ?_)
  · have hi' : i < dice.length := by simp at h; omega
    rw [List.drop_eq_getElem_cons hi', walkGo] at hT1 hT2
    (repeat (first | (apply EX.thenN) | (apply CW.seq) | (apply CW.region) | (apply CW.block) | (apply CW.skip)))
    refine WL.elemI rfl rfl rfl rfl rfl (hd.up hE4) hi' rfl (fun _ => rfl) (fun q => ?_)
    generalize dice[i] = dd at *
    (repeat (first | (apply WL.pure; rfl; rfl; rfl) | (apply WL.nil) | (apply EX.thenN) | (apply CW.seq) | (apply CW.region) | (apply WL.ldA; rfl; rfl; rfl; assumption; rfl)))
    refine WL.call rfl rfl rfl (Enabled_ok w4 (hs.up hE4) (hf.up hE4) (Fx.old hm)) ?_
    rintro _ w5 ⟨x, rfl, hox, e5⟩
    change Own w5 _ _ _ _ (canE (ns, fl) m) at hox
    obtain ⟨co, cc, rfl, hcs⟩ := hox.oldN.sl
    have hM := hM.ext e5
    have hm := Fx.ext e5 hm
    have hE5 := hE4.trans e5
    have e5 := e4.trans e5
    have hb5 := hb2.ext e5
    have hcl := canE_len (p := (ns, fl)) (m := m)
    (repeat (first | (apply WL.pure; rfl; rfl; rfl) | (apply WL.nil) | (apply EX.thenN) | (apply CW.seq) | (apply CW.region) | (apply WL.lenS; rfl; rfl; rfl)))
    refine CW.cond rfl (fun h1 => ?_) (fun h1 => ?_)
    · have h1 : canE (ns, fl) m = [] := by
        apply List.eq_nil_of_length_eq_zero
        have : ((canE (ns, fl) m).length : Int) = 0 := by simpa using h1
        omega
      rw [if_pos h1, List.append_nil] at hT1 hT2
      rw [← hT1, ← hT2]
      (repeat (first | (apply WL.pure; rfl; rfl; rfl) | (apply WL.nil) | (apply EX.thenN) | (apply CW.seq) | (apply CW.region) | (apply CW.ret) | (apply EX.thenR) | (apply EX.inR)))
      exact EX.ret2 rfl rfl rfl ⟨_, _, rfl, hM.rd, hM.kso.oldN, hE5⟩
    have h1 : canE (ns, fl) m ≠ [] := fun e => by rw [e] at h1; simp at h1
    rw [if_neg h1] at hT1 hT2
    have hcp : 0 < (canE (ns, fl) m).length := List.length_pos_iff.2 h1
    have hr0 := Int.emod_nonneg dd (show ((canE (ns, fl) m).length : Int) ≠ 0 by omega)
    have hr1 := Int.emod_lt_of_pos dd (show (0 : Int) < ((canE (ns, fl) m).length : Int) by omega)
    have hpick : pickD dd (canE (ns, fl) m) = (canE (ns, fl) m)[(dd % ((canE (ns, fl) m).length : Int)).toNat]'(by omega) := by
      unfold pickD; rw [getDm_at (by omega)]
    (repeat (first | (apply WL.pure; rfl; rfl; rfl) | (apply EX.thenN) | (apply CW.seq) | (apply CW.region) | (apply WL.lenS; rfl; rfl; rfl) | (apply CW.skip)))
    refine WL.call rfl rfl rfl (wrest_ok w5 dd ((canE (ns, fl) m).length : Int) (by omega) (by omega)) ?_
    rintro _ _ ⟨rfl, rfl⟩
    skip
    refine WL.elem rfl rfl rfl rfl rfl hcs hr0 hr1 (fun _ => rfl) (fun u q hu => ?_)
    rw [← hpick] at hu
    obtain rfl := hu.int
    generalize hkk : pickD dd (canE (ns, fl) m) = k at *
    (repeat (first | (apply WL.pure; rfl; rfl; rfl) | (apply WL.nil) | (apply EX.thenN) | (apply CW.seq) | (apply CW.region) | (apply WL.ldA; rfl; rfl; rfl; assumption; rfl)))
    refine WL.call rfl rfl rfl (Fire_ok w5 (hs.up hE5) (hf.up hE5) (Fx.old hm) k) ?_
    rintro _ w6 ⟨x, rfl, hoy, e6⟩
    have hM5 := hM
    have hM := hM.ext e6
    have hE6 := hE5.trans e6
    have e6' := e5.trans e6
    have hb6 := hb2.ext e6'
    by_cases hz2 : (fireE (ns, fl) m k).2 = 0
    case neg =>
      have hz1 : ((fireE (ns, fl) m k).2 != 0) = true := by simpa using hz2
      rw [if_pos hz2, List.append_nil] at hT1 hT2
      rw [← hT1, ← hT2]
      (repeat (first | (apply WL.pure; rfl; rfl; rfl) | (apply WL.nil) | (apply EX.thenN) | (apply CW.seq) | (apply CW.region)))
      rw [hz1]
      (repeat (first | (apply WL.pure; rfl; rfl; rfl) | (apply WL.nil) | (apply EX.thenN) | (apply CW.seq) | (apply CW.region) | (apply CW.condT; rfl) | (apply CW.ret) | (apply EX.thenR) | (apply EX.inR)))
      exact EX.ret2 rfl rfl rfl ⟨_, _, rfl, hM.rd, hM.kso.oldN, hE6⟩
    rw [if_neg (by simp [hz2])] at hT1 hT2
    rw [hz2]
    generalize (fireE (ns, fl) m k).1 = m' at *
    obtain ⟨yo, yc, rfl, hym⟩ := hoy.slF (F' := Fx w6 mv lv) (fun _ h => h.elim) (fun g hg => by
      have h1 := hoy.lt g hg
      refine ⟨h1.2.1, fun e => ?_, fun e => ?_⟩
      · have := (hM5.own.lt g e).2.1; omega
      · have := (hM5.kso.lt g e).2.1; omega)
    clear hoy hM5 hcs hu hox
    (repeat (first | (apply WL.pure; rfl; rfl; rfl) | (apply WL.nil) | (apply EX.thenN) | (apply CW.seq) | (apply CW.region) | (apply CW.condF; rfl) | (apply CW.skip)))
    refine WL.app1 (α := Raw) (F := Non) (yv := (⟨.slice yo m'.length yc⟩ : Raw)) rfl rfl (fun _ => rfl) rfl rfl (fun _ => rfl) hM.own (Rd.mkRaw _ _ _ rfl) e6'.size (fun _ h => h.elim) (by decide) (by unfold maxLen; omega) (by omega) (fun mv' w7 p ho7 hg7 hnb7 => ?_)
    have hM7 := hM.push hym ho7 hg7 hnb7
    have hm7 := Fx.step1 hg7 hnb7 hym
    have e7 : Ext w2 w7 := e6'.grown hg7 e6'.size (fun b hb => (hM.own.lt b hb).1)
    (repeat (apply WL.pure; rfl; rfl; rfl))
    refine WL.app1 (F := Non) (yv := k) rfl rfl (fun _ => rfl) rfl rfl (fun _ => rfl) hM7.kso (Rd.mkInt _ _ _) e7.size (fun _ h => h.elim) (by decide) (by unfold maxLen; omega) (by omega) (fun lv' w8 p ho8 hg8 hnb8 => ?_)
    have hM8 := hM7.pushK ho8 hg8 hnb8
    have hm8 := Fx.step2 hg8 hnb8 hm7
    have e8 : Ext w2 w8 := e7.grown hg8 e7.size (fun b hb => (hM7.kso.lt b hb).1)
    (repeat (first | (apply WL.add; rfl; rfl; rfl; rfl; omega; omega) | (apply WL.pure; rfl; rfl; rfl) | (apply WL.nil) | (apply EX.thenN) | (apply CW.region) | (apply EX.inN)))
    exact EX.back (i + 1, (yo, yc), (mv', lv'), vs ++ [⟨.slice yo m'.length yc⟩], xs ++ [m'], ks ++ [k], m') (by repeat (first | exact trivial | refine ⟨rfl, ?_⟩)) ⟨hi', by simpa using hT1, by simpa using hT2, hM8, hm8, by simp [hvl], by simp [hkl], e8⟩ (by dsimp only; omega)
  · obtain rfl : i = dice.length := by simp at h; omega
    rw [List.drop_length, walkGo, List.append_nil] at hT1 hT2
    rw [← hT1, ← hT2]
    (repeat (first | (apply WL.pure; rfl; rfl; rfl) | (apply WL.nil) | (apply EX.thenN) | (apply CW.seq) | (apply CW.region) | (apply CW.exit) | (apply EX.thenX) | (apply EX.inX) | (apply CW.ret)))
    exact EX.ret2 rfl rfl rfl ⟨_, _, rfl, hM.rd, hM.kso.oldN, hE4⟩
end Go.Proofs.Ytadbkppgaekmpaa
/-
  Tokens: what a step takes and puts; plain lists.
-/
set_option linter.unusedVariables false
set_option linter.unusedSimpArgs false
namespace Go.Proofs.Ytadbkppgaekmpaa

theorem getDset {l : List Int} {i j : Nat} {v : Int} (h : i < l.length) : (l.set i v).getD j 0 = if i = j then v else l.getD j 0 := by
  simp only [List.getD_eq_getElem?_getD, List.getElem?_set]
  split
  · subst_vars; simp [h]
  · rfl
/-- numbers of places -/
def inL (N : Nat) (l : List Int) : Prop := ∀ x ∈ l, 0 ≤ x ∧ x < N
theorem inL_ins {fl : List LFlow} {n : Int} : inL fl.length (insL fl n) := fun x hx => by
  obtain ⟨j, rfl, h, _⟩ := insP_mem.1 hx; omega
theorem inL_outs {fl : List LFlow} {n : Int} : inL fl.length (outsL fl n) := fun x hx => by
  obtain ⟨j, rfl, h, _⟩ := outsP_mem.1 hx; omega
theorem outsL_nodup {fl : List LFlow} {n : Int} : (outsL fl n).Nodup := by
  unfold outsL outsP
  rw [List.Nodup, List.pairwise_map]
  exact (List.nodup_range.filter _).imp fun hab e => hab (by omega)
section
variable {s : LStep}
theorem takeAll_len : ∀ (l : List Int) (m : List Int), (takeAll s m l).length = m.length
  | [], m => rfl
  | f :: r, m => by rw [takeAll, takeAll_len r, List.length_set]
theorem takes_eq {m m' : List Int} {f : Int} (h : m.getD f.toNat 0 = m'.getD f.toNat 0) : takes m s f = takes m' s f := by unfold takes; rw [h]
theorem takeAll_get : ∀ (l : List Int) (m : List Int), inL m.length l → l.Nodup → ∀ j : Nat, (takeAll s m l).getD j 0 = if (j : Int) ∈ l then takes m s (j : Int) else m.getD j 0
  | [], m, _, _, j => by simp [takeAll]
  | f :: r, m, hl, hd, j => by
    rw [List.nodup_cons] at hd
    have hf := hl f (by simp)
    have ih := takeAll_get r (m.set f.toNat (takes m s f)) (fun x hx => by rw [List.length_set]; exact hl x (by simp [hx])) hd.2 j
    rw [takeAll, ih, getDset (by omega)]
    by_cases e : f.toNat = j
    · have ej : (j : Int) = f := by omega
      rw [if_pos e, ej, if_neg hd.1, if_pos (by simp)]
    · have ej : ¬ (j : Int) = f := by omega
      rw [if_neg e]
      by_cases hm : (j : Int) ∈ r
      · rw [if_pos hm, if_pos (by simp [hm])]
        exact takes_eq (by rw [Int.toNat_natCast, getDset (by omega), if_neg e])
      · rw [if_neg hm, if_neg (by simp [hm, ej])]
end
theorem putAll_len {n : Int} : ∀ (l : List Int) (k : Nat) (m m' : List Int), putAll n k m l = some m' → m'.length = m.length
  | [], k, m, m', h => by rw [putAll] at h; injection h with h; rw [h]
  | f :: r, k, m, m', h => by
    rw [putAll] at h
    split at h
    · split at h
      · cases h
      · rw [putAll_len r _ _ _ h, List.length_set]
    · exact putAll_len r _ _ _ h
/-- the bit of flow j, if it is among l -/
def bitAt (n : Int) : Nat → List Int → Int → Int
  | _, [], _ => 0
  | k, f :: r, j => if f = j then bitK n k else bitAt n (k + 1) r j
theorem bitAt_no {n : Int} : ∀ (l : List Int) (k : Nat) (j : Int), j ∉ l → bitAt n k l j = 0
  | [], k, j, _ => rfl
  | f :: r, k, j, h => by
    rw [bitAt, if_neg (fun e => h (by simp [e])), bitAt_no r _ j (fun hm => h (by simp [hm]))]
theorem bitK_01 (n : Int) (k : Nat) : bitK n k = 0 ∨ bitK n k = 1 := by unfold bitK; omega
/-- puts: each place within its bound -/
theorem putAll_get {n : Int} : ∀ (l : List Int) (k : Nat) (m : List Int), inL m.length l → l.Nodup →
    ((∀ x ∈ l, m.getD x.toNat 0 + bitAt n k l x ≤ 9 ∨ bitAt n k l x = 0) → ∃ m', putAll n k m l = some m' ∧ ∀ j : Nat, m'.getD j 0 = m.getD j 0 + bitAt n k l (j : Int)) ∧
    (∀ m', putAll n k m l = some m' → ∀ x ∈ l, m.getD x.toNat 0 + bitAt n k l x ≤ 9 ∨ bitAt n k l x = 0)
  | [], k, m, _, _ => ⟨fun _ => ⟨m, rfl, fun j => by simp [bitAt]⟩, fun _ _ x hx => by cases hx⟩
  | f :: r, k, m, hl, hd => by
    rw [List.nodup_cons] at hd
    have hf := hl f (by simp)
    have hlr : inL m.length r := fun x hx => hl x (by simp [hx])
    have hbf : bitAt n k (f :: r) f = bitK n k := by rw [bitAt, if_pos rfl]
    have hbx : ∀ x, x ≠ f → bitAt n k (f :: r) x = bitAt n (k + 1) r x := fun x h => by rw [bitAt, if_neg (fun e => h e.symm)]
    have hxr : ∀ x ∈ r, x ≠ f := fun x hx e => hd.1 (e ▸ hx)
    rcases bitK_01 n k with hb | hb
    · have ih := putAll_get (n := n) r (k + 1) m hlr hd.2
      have he : putAll n k m (f :: r) = putAll n (k + 1) m r := by rw [putAll, if_neg (by omega)]
      rw [he]
      refine ⟨fun h => ?_, fun m' h x hx => ?_⟩
      · obtain ⟨m', h1, h2⟩ := ih.1 (fun x hx => by have := h x (by simp [hx]); rwa [hbx x (hxr x hx)] at this)
        refine ⟨m', h1, fun j => ?_⟩
        rw [h2 j]
        by_cases e : (j : Int) = f
        · rw [e, hbf, hb, bitAt_no r _ f hd.1]
        · rw [hbx _ e]
      · rcases List.mem_cons.1 hx with rfl | hx
        · right; rw [hbf, hb]
        · rw [hbx x (hxr x hx)]; exact ih.2 m' h x hx
    · have hset : ∀ x : Int, 0 ≤ x → x ≠ f → (m.set f.toNat (m.getD f.toNat 0 + 1)).getD x.toNat 0 = m.getD x.toNat 0 := fun x h0 h => by
        rw [getDset (by omega), if_neg (by omega)]
      have ih := putAll_get (n := n) r (k + 1) (m.set f.toNat (m.getD f.toNat 0 + 1)) (fun x hx => by rw [List.length_set]; exact hlr x hx) hd.2
      have he : putAll n k m (f :: r) = if m.getD f.toNat 0 + 1 > 9 then none else putAll n (k + 1) (m.set f.toNat (m.getD f.toNat 0 + 1)) r := by rw [putAll, if_pos hb]
      rw [he]
      refine ⟨fun h => ?_, fun m' h x hx => ?_⟩
      · have h9 : ¬ m.getD f.toNat 0 + 1 > 9 := by
          have := h f (by simp)
          rw [hbf, hb] at this
          omega
        rw [if_neg h9]
        obtain ⟨m', h1, h2⟩ := ih.1 (fun x hx => by
          have := h x (by simp [hx])
          rw [hbx x (hxr x hx)] at this
          rwa [hset x (hlr x hx).1 (hxr x hx)])
        refine ⟨m', h1, fun j => ?_⟩
        rw [h2 j]
        by_cases e : (j : Int) = f
        · rw [getDset (by omega), if_pos (by omega), e, hbf, hb, bitAt_no r _ f hd.1]
          have : f.toNat = j := by omega
          rw [this]; omega
        · have := hset (j : Int) (by omega) e
          rw [Int.toNat_natCast] at this
          rw [hbx _ e, this]
      · split at h
        · cases h
        · rename_i h9
          rcases List.mem_cons.1 hx with rfl | hx
          · left; rw [hbf, hb]; omega
          · rw [hbx x (hxr x hx)]
            have := ih.2 m' h x hx
            rwa [hset x (hlr x hx).1 (hxr x hx)] at this
/- SUMS -/
theorem sum_set : ∀ (m : List Int) (i : Nat) (v : Int), i < m.length → (m.set i v).sum = m.sum - m.getD i 0 + v
  | [], i, v, h => by cases h
  | a :: r, 0, v, _ => by simp [List.getD_eq_getElem?_getD]; omega
  | a :: r, i + 1, v, h => by
    have := sum_set r i v (by simpa using h)
    simp only [List.set_cons_succ, List.sum_cons, List.getD_cons_succ, this]; omega
/-- how many are taken off l -/
def tookN (s : LStep) (m : List Int) (l : List Int) : Int := (l.map fun f => m.getD f.toNat 0 - takes m s f).sum
theorem takeAll_sum {s : LStep} : ∀ (l : List Int) (m : List Int), inL m.length l → l.Nodup → (takeAll s m l).sum = m.sum - tookN s m l
  | [], m, _, _ => by simp [takeAll, tookN]
  | f :: r, m, hl, hd => by
    rw [List.nodup_cons] at hd
    have hf := hl f (by simp)
    have ih := takeAll_sum (s := s) r (m.set f.toNat (takes m s f)) (fun x hx => by rw [List.length_set]; exact hl x (by simp [hx])) hd.2
    have ht : tookN s (m.set f.toNat (takes m s f)) r = tookN s m r := by
      unfold tookN
      congr 1
      apply List.map_congr_left
      intro x hx
      have hx0 := (hl x (by simp [hx])).1
      have hne : x ≠ f := fun e => hd.1 (e ▸ hx)
      have e1 : (m.set f.toNat (takes m s f)).getD x.toNat 0 = m.getD x.toNat 0 := by rw [getDset (by omega), if_neg (by omega)]
      rw [e1, takes_eq e1]
    rw [takeAll, ih, ht, sum_set m f.toNat _ (by omega)]
    unfold tookN
    simp only [List.map_cons, List.sum_cons]; omega
/-- how many are put -/
def putN (n : Int) (k c : Nat) : Int := ((List.range c).map fun i => bitK n (k + i)).sum
theorem putN_succ {n : Int} {k c : Nat} : putN n k (c + 1) = bitK n k + putN n (k + 1) c := by
  unfold putN
  rw [List.range_succ_eq_map, List.map_cons, List.sum_cons, List.map_map]
  congr 1
  congr 1
  apply List.map_congr_left
  intro i _
  show bitK n (k + (i + 1)) = bitK n (k + 1 + i)
  congr 1; omega
theorem putN_last {n : Int} {c : Nat} : putN n 0 (c + 1) = putN n 0 c + bitK n c := by
  unfold putN
  rw [List.range_succ, List.map_append, List.sum_append]; simp
theorem putAll_sum {n : Int} : ∀ (l : List Int) (k : Nat) (m m' : List Int), inL m.length l → putAll n k m l = some m' → m'.sum = m.sum + putN n k l.length
  | [], k, m, m', _, h => by rw [putAll] at h; injection h with h; subst h; simp [putN]
  | f :: r, k, m, m', hl, h => by
    have hf := hl f (by simp)
    have hlr : inL m.length r := fun x hx => hl x (by simp [hx])
    rw [List.length_cons, putN_succ]
    rw [putAll] at h
    split at h
    · rename_i hb
      split at h
      · cases h
      · have := putAll_sum r _ _ _ (fun x hx => by rw [List.length_set]; exact hlr x hx) h
        rw [this, sum_set m f.toNat _ (by omega), hb]; omega
    · rename_i hb
      have := putAll_sum r _ _ _ hlr h
      have := bitK_01 n k
      omega
theorem map1_sum : ∀ l : List Int, (l.map fun _ => (1 : Int)).sum = l.length
  | [] => rfl
  | a :: r => by rw [List.map_cons, List.sum_cons, map1_sum r, List.length_cons]; omega
theorem map01_sum {a : Int} : ∀ l : List Int, l.Nodup → (l.map fun f => if a = f then (1 : Int) else 0).sum = if a ∈ l then 1 else 0
  | [], _ => by simp
  | f :: r, hd => by
    rw [List.nodup_cons] at hd
    rw [List.map_cons, List.sum_cons, map01_sum r hd.2]
    by_cases e : a = f
    · subst e
      rw [if_pos rfl, if_neg hd.1, if_pos (by simp)]; rfl
    · rw [if_neg e]
      by_cases hm : a ∈ r
      · rw [if_pos hm, if_pos (by simp [hm])]; omega
      · rw [if_neg hm, if_neg (by simp [hm, e])]; rfl
/-- what is taken: one, or all -/
theorem took_one {s : LStep} {m l : List Int} (hd : l.Nodup) (h0 : 0 ≤ s.2.1) (hm : s.2.1 ∈ l) : tookN s m l = 1 := by
  have := map01_sum (a := s.2.1) l hd
  rw [if_pos hm] at this
  rw [← this]
  unfold tookN
  congr 1
  apply List.map_congr_left
  intro f _
  unfold takes
  by_cases e : s.2.1 = f
  · rw [if_pos (.inl e), if_pos e]; omega
  · rw [if_neg (by rintro (h | ⟨h, _⟩); exact e h; omega), if_neg e]; omega
theorem took_all {s : LStep} {m l : List Int} (h0 : s.2.1 < 0) (hm : ∀ f ∈ l, m.getD f.toNat 0 > 0) : tookN s m l = l.length := by
  rw [← map1_sum]
  unfold tookN
  congr 1
  apply List.map_congr_left
  intro f hf
  unfold takes
  rw [if_pos (.inr ⟨h0, hm f hf⟩)]; omega
end Go.Proofs.Ytadbkppgaekmpaa
/-
  Tokens: a walk by dice: each marking is one, each step is enabled and leads on.
-/
set_option linter.unusedVariables false
set_option linter.unusedSimpArgs false
namespace Go.Proofs.Ytadbkppgaekmpaa

def MarkOk (p : LProc) (m : List Int) : Prop := m.length = p.2.length ∧ ∀ j : Nat, 0 ≤ m.getD j 0 ∧ m.getD j 0 ≤ 9
theorem markOk_chk {p : LProc} {m : List Int} (hz : (stepsE p).2 = 0) (h : MarkOk p m) : chkM p m = 0 := by
  unfold chkM
  rw [if_neg (by simp [hz]), if_neg]
  rintro (e | e)
  · exact e h.1
  · obtain ⟨x, hx, ht⟩ := List.any_eq_true.1 e
    obtain ⟨j, hj, rfl⟩ := List.mem_iff_getElem.1 hx
    have := h.2 j
    rw [getDm_at hj] at this
    unfold tokB at ht
    simp at ht
    omega
theorem chk_markOk {p : LProc} {m : List Int} (h : chkM p m = 0) : MarkOk p m := by
  obtain ⟨_, h1, h2, _⟩ := chkM_ok h
  have h3 := tokI_of h2
  refine ⟨h1, fun j => ?_⟩
  by_cases hj : j < m.length
  · rw [getDm_at hj]; have := h3 j hj; omega
  · rw [List.getD_eq_getElem?_getD, List.getElem?_eq_none (by omega)]
    exact ⟨Int.le_refl _, by decide⟩
theorem beginL_ok {p : LProc} : MarkOk p (beginL p) := by
  refine ⟨by simp [beginL], fun j => ?_⟩
  by_cases hj : j < (beginL p).length
  · rw [getDm_at hj]
    have e : (beginL p)[j] = if kindAt p (p.2[j]'(by simpa [beginL] using hj)).1.toNat = 1 then 1 else 0 := by simp [beginL]
    rw [e]
    split <;> omega
  · rw [List.getD_eq_getElem?_getD, List.getElem?_eq_none (by omega)]
    exact ⟨Int.le_refl _, by decide⟩
def StepAt (p : LProc) (m : List Int) (k : Int) (m' : List Int) : Prop :=
  0 ≤ k ∧ k < (stepsL p).length ∧ enabledP p m ((stepsL p).getD k.toNat (0, 0, 0)) = true ∧ fireP p m ((stepsL p).getD k.toNat (0, 0, 0)) = some m'
theorem fireE_ok {p : LProc} {m : List Int} {k : Int} (h : (fireE p m k).2 = 0) : chkM p m = 0 ∧ StepAt p m k (fireE p m k).1 := by
  unfold fireE at h ⊢
  split at h
  · rename_i h1; exact absurd h h1
  · rename_i h1
    split at h
    · cases h
    · rename_i h2
      split at h
      · cases h
      · rename_i h3
        rw [if_neg h1, if_neg h2, if_neg h3]
        refine ⟨by simpa using h1, by omega, by omega, by simpa using h3, ?_⟩
        dsimp only at h ⊢
        cases e : fireP p m ((stepsL p).getD k.toNat (0, 0, 0)) with
        | none => rw [e] at h; cases h
        | some r => rfl
theorem takes_range {m : List Int} {s : LStep} {f : Int} (h0 : 0 ≤ m.getD f.toNat 0) (h9 : m.getD f.toNat 0 ≤ 9) (hp : s.2.1 = f → m.getD f.toNat 0 > 0) : 0 ≤ takes m s f ∧ takes m s f ≤ 9 := by
  unfold takes
  split
  · rename_i h
    rcases h with h | h
    · have := hp h; omega
    · omega
  · exact ⟨h0, h9⟩
theorem bitAt_01 {n : Int} : ∀ (l : List Int) (k : Nat) (j : Int), 0 ≤ bitAt n k l j ∧ bitAt n k l j ≤ 1
  | [], k, j => ⟨Int.le_refl _, (by decide : (0 : Int) ≤ 1)⟩
  | f :: r, k, j => by
    rw [bitAt]
    split
    · have := bitK_01 n k; omega
    · exact bitAt_01 r _ j
theorem fire_next {p : LProc} {m m' : List Int} {s : LStep} (hm : MarkOk p m) (hen : enabledP p m s = true) (h : fireP p m s = some m') : MarkOk p m' := by
  unfold fireP at h
  split at h
  · injection h with h
    subst h
    refine ⟨by simpa using hm.1, fun j => ?_⟩
    by_cases hj : j < m.length
    · rw [getDm_at (by simpa using hj), List.getElem_map]; omega
    · rw [List.getD_eq_getElem?_getD, List.getElem?_eq_none (by simpa using hj)]
      exact ⟨Int.le_refl _, by decide⟩
  · have hil : inL m.length (insL p.2 s.1) := by rw [hm.1]; exact inL_ins
    have hg := takeAll_get (s := s) (insL p.2 s.1) m hil insL_nodup
    have hTl : (takeAll s m (insL p.2 s.1)).length = m.length := takeAll_len _ _
    have hol : inL (takeAll s m (insL p.2 s.1)).length (outsL p.2 s.1) := by rw [hTl, hm.1]; exact inL_outs
    have hP := putAll_get (n := s.2.2) (outsL p.2 s.1) 0 _ hol outsL_nodup
    have hb := hP.2 m' h
    obtain ⟨m2, h1, h2⟩ := hP.1 hb
    rw [h] at h1
    injection h1 with h1
    subst h1
    have hT : ∀ j : Nat, 0 ≤ (takeAll s m (insL p.2 s.1)).getD j 0 ∧ (takeAll s m (insL p.2 s.1)).getD j 0 ≤ 9 := fun j => by
      rw [hg j]
      have hmj := hm.2 j
      split
      · refine takes_range (by rw [Int.toNat_natCast]; exact hmj.1) (by rw [Int.toNat_natCast]; exact hmj.2) (fun e => ?_)
        unfold enabledP at hen
        rw [if_pos (by omega), e] at hen
        simpa using hen
      · exact hmj
    refine ⟨by rw [putAll_len _ _ _ _ h, hTl]; exact hm.1, fun j => ?_⟩
    rw [h2 j]
    have h3 := hT j
    have h4 := bitAt_01 (n := s.2.2) (outsL p.2 s.1) 0 (j : Int)
    by_cases hj : (j : Int) ∈ outsL p.2 s.1
    · have h5 := hb _ hj
      rw [Int.toNat_natCast] at h5
      omega
    · have h5 := bitAt_no (n := s.2.2) (outsL p.2 s.1) 0 (j : Int) hj
      omega
theorem walkGo_ok {p : LProc} : ∀ (dice : List Int) (m : List Int), MarkOk p m →
    (walkGo p dice m).1.length = (walkGo p dice m).2.length ∧ (∀ i, i < (walkGo p dice m).2.length → StepAt p ((m :: (walkGo p dice m).1).getD i []) ((walkGo p dice m).2.getD i 0) ((m :: (walkGo p dice m).1).getD (i + 1) [])) ∧ ∀ x ∈ (walkGo p dice m).1, MarkOk p x
  | [], m, _ => ⟨rfl, fun i h => absurd h (by simp [walkGo]), fun x hx => by simp [walkGo] at hx⟩
  | d :: r, m, hm => by
    rw [walkGo]
    split
    · exact ⟨rfl, fun i h => absurd h (by simp), fun x hx => by simp at hx⟩
    · split
      · exact ⟨rfl, fun i h => absurd h (by simp), fun x hx => by simp at hx⟩
      · rename_i h1 h2
        have h2 : (fireE p m (pickD d (canE p m))).2 = 0 := by simpa using h2
        obtain ⟨_, hst⟩ := fireE_ok h2
        have hn := fire_next hm hst.2.2.1 hst.2.2.2
        obtain ⟨i1, i2, i3⟩ := walkGo_ok r _ hn
        generalize pickD d (canE p m) = k at *
        generalize (fireE p m k).1 = m1 at *
        refine ⟨by simp [i1], fun i h => ?_, fun x hx => ?_⟩
        · cases i with
          | zero => exact hst
          | succ i => exact i2 i (by simpa using h)
        · rcases List.mem_cons.1 hx with rfl | hx
          · exact hn
          · exact i3 x hx
theorem walked_law {p : LProc} (dice : List Int) (h0 : (walkedP p dice).1 ≠ []) : (stepsE p).2 = 0 ∧ (walkedP p dice).1.length = (walkedP p dice).2.length + 1 ∧
    (∀ i, i < (walkedP p dice).2.length → StepAt p ((walkedP p dice).1.getD i []) ((walkedP p dice).2.getD i 0) ((walkedP p dice).1.getD (i + 1) [])) ∧ ∀ x ∈ (walkedP p dice).1, MarkOk p x := by
  unfold walkedP at h0 ⊢
  split at h0
  · exact absurd rfl h0
  · rename_i hz
    rw [if_neg hz]
    obtain ⟨i1, i2, i3⟩ := walkGo_ok dice (beginL p) beginL_ok
    refine ⟨by simpa using hz, by simp [i1], i2, fun x hx => ?_⟩
    rcases List.mem_cons.1 hx with rfl | hx
    · exact beginL_ok
    · exact i3 x hx
/-- the sum of the tokens -/
theorem step_sum {p : LProc} {m m' : List Int} {k : Int} {n : Nat} (hm : MarkOk p m) (h : StepAt p m k m') (hn : n < p.1.length) (hsn : (stepsL p).getD k.toNat (0, 0, 0) ∈ stepsN p n) (h7 : kindAt p n ≠ 7) (h3 : kindAt p n ≠ 3) :
    m'.sum = m.sum - (if kindAt p n = 6 then ((insL p.2 (n : Int)).length : Int) else 1) + putN ((stepsL p).getD k.toNat (0, 0, 0)).2.2 0 (outsL p.2 (n : Int)).length := by
  obtain ⟨_, _, hen, hf⟩ := h
  generalize (stepsL p).getD k.toNat (0, 0, 0) = s at *
  have q1 := stepsK_node _ hsn
  unfold fireP at hf
  rw [q1, Int.toNat_natCast, if_neg h3] at hf
  have hil : inL m.length (insL p.2 (n : Int)) := by rw [hm.1]; exact inL_ins
  have hTl : (takeAll s m (insL p.2 (n : Int))).length = m.length := takeAll_len _ _
  have hol : inL (takeAll s m (insL p.2 (n : Int))).length (outsL p.2 (n : Int)) := by rw [hTl, hm.1]; exact inL_outs
  rw [putAll_sum _ _ _ _ hol hf, takeAll_sum _ _ hil insL_nodup]
  congr 2
  unfold stepsN stepsK at hsn
  unfold enabledP at hen
  rw [q1, Int.toNat_natCast] at hen
  split at hsn
  · rename_i hk
    obtain ⟨f, hfm, rfl⟩ := List.mem_map.1 hsn
    rw [if_neg (by omega)]
    exact took_one insL_nodup (inL_ins f hfm).1 hfm
  split at hsn
  · rename_i hk
    obtain ⟨f, hfm, hsn⟩ := List.mem_flatMap.1 hsn
    obtain ⟨j, _, rfl⟩ := List.mem_map.1 hsn
    rw [if_neg (by omega)]
    exact took_one insL_nodup (inL_ins f hfm).1 hfm
  split at hsn
  · rename_i hk
    rw [List.mem_singleton] at hsn
    subst hsn
    rw [if_pos hk]
    refine took_all (by dsimp only; decide) (fun f hfm => ?_)
    dsimp only at hen
    rw [if_neg (by decide), if_neg (by omega), Bool.not_eq_true', List.any_eq_false] at hen
    have h1 := hen f hfm
    have h2 := hm.2 f.toNat
    have h3 : m.getD f.toNat 0 ≠ 0 := by simpa using h1
    omega
  cases hsn
end Go.Proofs.Ytadbkppgaekmpaa
/-
  Rows of cells of which only the type counts: what spoil needs of a list.
-/
set_option linter.unusedVariables false
set_option linter.unusedSimpArgs false
namespace Go.Proofs.Ytadbkppgaekmpaa
open Go.RowKit

def Cel (w : World) (b n : Nat) : Prop := ∃ cur e, w.heap[b]? = some (.cells cur e (0, 0)) ∧ n ≤ cur.size
def KeepC (w w' : World) : Prop := ∀ b n, Cel w b n → Cel w' b n
theorem KeepC.refl (w : World) : KeepC w w := fun _ _ h => h
theorem KeepC.trans {a b c : World} (h : KeepC a b) (k : KeepC b c) : KeepC a c := fun x n hx => k x n (h x n hx)
theorem Cel.lt {w : World} {b n : Nat} (h : Cel w b n) : b < w.heap.size := by
  obtain ⟨cur, e, h, _⟩ := h
  exact (Array.getElem?_eq_some_iff.1 h).1
theorem Cel.at {w w' : World} {b n : Nat} (h : Cel w b n) (hb : w'.heap[b]? = w.heap[b]?) : Cel w' b n := by
  obtain ⟨cur, e, h1, h2⟩ := h
  exact ⟨cur, e, hb.trans h1, h2⟩
theorem KeepC.ext {w w' : World} (h : Ext w w') : KeepC w w' := fun b n hb => hb.at (h.block b hb.lt)
/-- a list's cells are there, wherever a block of F keeps them -/
def RowT (F : Nat → Prop) (w : World) (z : Nat) (v : Value) : Prop := ∃ ao len cap, v = .slice ao len cap ∧ cap ≤ maxLen ∧ len ≤ cap ∧ (0 < cap → ∃ b off, ao = some ⟨b, off, none⟩ ∧ F b ∧ Cel w b (off + cap * z))
section
variable {α : Type} [Rep α] {w w' : World} {B : Nat} {e : TypeId} {F F' : Nat → Prop} {v : Value} {xs : List α} {z : Nat}
theorem Own.rowT (h : Own w B e Non v xs) (hF : ∀ g, v.ownBlock = some g → F g) : RowT F w (sz α) v := by
  rcases h with ⟨rfl, rfl⟩ | ⟨g, off, cap, cur, rfl, ho⟩
  · exact ⟨none, 0, 0, rfl, by simp [maxLen], Nat.le_refl _, fun h => absurd h (by simp)⟩
  · exact ⟨_, _, _, rfl, ho.mx, ho.le, fun _ => ⟨g, off, rfl, hF g rfl, cur, e, ho.blk, ho.fit⟩⟩
theorem RowT.to (h : RowT F w z v) (hF : ∀ b, F b → b < w.heap.size → F' b ∧ w'.heap[b]? = w.heap[b]?) : RowT F' w' z v := by
  obtain ⟨ao, len, cap, h1, h2, h3, h4⟩ := h
  refine ⟨ao, len, cap, h1, h2, h3, fun hc => ?_⟩
  obtain ⟨b, off, k1, k2, k3⟩ := h4 hc
  have := hF b k2 k3.lt
  exact ⟨b, off, k1, this.1, k3.at this.2⟩
theorem RowT.keep (h : RowT F w z v) (hk : KeepC w w') : RowT F w' z v := by
  obtain ⟨ao, len, cap, h1, h2, h3, h4⟩ := h
  refine ⟨ao, len, cap, h1, h2, h3, fun hc => ?_⟩
  obtain ⟨b, off, k1, k2, k3⟩ := h4 hc
  exact ⟨b, off, k1, k2, hk _ _ k3⟩
theorem RowT.nil : RowT F w z (.slice none 0 0) := ⟨none, 0, 0, rfl, by simp [maxLen], Nat.le_refl _, fun h => absurd h (by simp)⟩
end
section
variable {P : Program} {Q : Exit → Act → World → Prop} {n : Nat} {σ : Sg} {w : World} {L rest : List Oper} {d : Nat} {ty : TypeId} {pos : String} {af : Array Edge} {g : Option (Nat × Bool)}
variable {α : Type} [Rep α] {e t : TypeId} {F : Nat → Prop}
/-- x[i] = y in a row of which only the cells count -/
theorem WL.stRowT {x ix y : Operand} {u : Value} {yv : α} {b off len cap : Nat} {i : Nat} {kd : IntKind} {ty' : TypeId} {pos' : String} {af' : Array Edge} {g' : Option (Nat × Bool)}
    (hg : gd L σ ⟨some d, .indexAddr t x ix, ty, pos, af, g⟩ = some true) (hd : Nat.ble (d + 1) n = true)
    (hx : ev σ x = some (.slice (some ⟨b, off, none⟩) len cap)) (hi : ev σ ix = some (.int kd (i : Int))) [hs : IsS P t e] [ht : IsT P e α] (hlt : i < len) (hle : len ≤ cap) (hc : Cel w b (off + cap * sz α))
    (hg' : ∀ p, gd L ((d, .pointer p) :: σ) ⟨none, .store e (.tmp d) y, ty', pos', af', g'⟩ = some true) (hy : ∀ p, ev ((d, .pointer p) :: σ) y = some u) (hu : Rd w F u yv)
    (h : ∀ w' p, KeepC w w' → w.grownBy w' (some b) → WL P L Q rest n ((d, .pointer p) :: σ) w') :
    WL P L Q (⟨some d, .indexAddr t x ix, ty, pos, af, g⟩ :: ⟨none, .store e (.tmp d) y, ty', pos', af', g'⟩ :: rest) n σ w := by
  refine WL.idx (α := α) hg hd hx hi (by omega) (by omega) ?_
  rw [Int.toNat_natCast]
  obtain ⟨cs, hv, hr⟩ := hu
  have hl : cs.length = sz α := Rep.len hr
  have hvc : u.cells = cs.toArray := by rw [hv]; apply Array.ext'; simpa using vOf_cells hr
  obtain ⟨cur, e', hb, hfit⟩ := hc
  have hle2 : (i + 1) * sz α ≤ cap * sz α := Nat.mul_le_mul_right _ (by omega)
  rw [Nat.add_mul, Nat.one_mul] at hle2
  have hst := run_storeCells_at P b (off + i * sz α) e' cs 0 cur w hb (by omega) (Rep.one hr)
  simp only [Nat.add_zero] at hst
  have hrun : (storeVar e ⟨b, off + i * sz α, none⟩ u).run P w = .ok () (w.setRow b (cur.toList.take (off + i * sz α) ++ cs ++ cur.toList.drop (off + i * sz α + cs.length)).toArray) := by
    unfold storeVar
    rw [Sem.run_bind, run_sizeOf (α := α)]
    simp only [Result.andThen_ok, hvc]
    rw [if_neg (by simp [hl])]
    exact hst
  obtain ⟨nr, hnr⟩ : ∃ nr, nr = (cur.toList.take (off + i * sz α) ++ cs ++ cur.toList.drop (off + i * sz α + cs.length)).toArray := ⟨_, rfl⟩
  have hsz : nr.size = cur.size := by
    rw [hnr]
    simp only [List.size_toArray, List.length_append, List.length_take, List.length_drop, Array.length_toList]
    omega
  rw [← hnr] at hrun
  refine WL.runU (hg' _) (fun a ha => ?_) (h (w.setRow b nr) _ (fun k m hk => ?_) (grown_setRow w b _))
  · have e1 := ha.ev (x := .tmp d) fnd_cons_eq
    have e2 := ha.ev (hy _)
    simp [execOp, e1, e2, Instr.storeAt, Instr.sureAddr, hrun]
  · by_cases e : k = b
    · subst e
      obtain ⟨c0, e0, h1, h2⟩ := hk
      rw [hb] at h1
      injection h1 with h1
      injection h1 with h1 h3
      subst h1
      exact ⟨_, e', setRow_heap w k cur _ e' _ hb, by rw [hsz]; exact h2⟩
    · exact hk.at (setRow_other w b k _ e)
end
theorem spoilT_ok (w0 : World) {F : Nat → Prop} {v : Value} (h : RowT F w0 1 v) (x : Int) :
    Rt Try.prog 22 [v, .int .i64 x].toArray w0 fun _ w' => Chg F w0 w' ∧ KeepC w0 w' := by
  obtain ⟨ao, len, cap, rfl, hmx, hle, hcap⟩ := h
  unfold maxLen at hmx
  refine Rt.enter2 Try.func22 Try.ntmps22 rfl rfl ?_
  (repeat (first | (apply WL.pure; rfl; rfl; rfl) | (apply CW.seq) | (apply CW.region)))
  refine WL.capS rfl rfl rfl ?_
  skip
  refine WL.cutHi (α := Int) cap rfl rfl rfl rfl rfl (Nat.le_refl _) ?_
  (repeat (first | (apply WL.pure; rfl; rfl; rfl) | (apply WL.nil) | (apply EX.thenN) | (apply CW.seq) | (apply CW.region) | (apply WL.lenS; rfl; rfl; rfl) | (apply CW.block)))
  refine CW.loop (S := Nat) (fun k => [(0, .slice ao cap cap), (1, .int .i64 x), (10, .int .i64 cap), (11, .int .i64 k)])
    (fun k w => k ≤ cap ∧ Chg F w0 w ∧ KeepC w0 w) (fun k => cap - k) 0 (by repeat (first | exact trivial | refine ⟨rfl, ?_⟩)) ⟨by omega, Chg.refl _ _, KeepC.refl _⟩ ?_
  rintro k w ⟨hk, hC, hK⟩
  (repeat (first | (apply WL.pure; rfl; rfl; rfl) | (apply WL.nil) | (apply EX.thenN) | (apply CW.seq) | (apply CW.region)))
  refine CW.cond rfl (fun h1 => ?_) (fun h1 => ?_)
  · simp at h1
    obtain ⟨b, off, rfl, hF, hc⟩ := hcap (by omega)
    (repeat (first | (apply WL.pure; rfl; rfl; rfl) | (apply WL.nil) | (apply EX.thenN) | (apply CW.seq) | (apply CW.region) | (apply CW.block) | (apply CW.skip)))
    refine WL.stRowT (α := Int) (F := Non) (yv := x) rfl rfl rfl rfl h1 (Nat.le_refl _) (hK _ _ hc) (fun _ => rfl) (fun _ => rfl) (Rd.mkInt _ _ _) (fun w' p hk' hg2 => ?_)
    (repeat (first | (apply WL.add; rfl; rfl; rfl; rfl; omega; omega) | (apply WL.pure; rfl; rfl; rfl) | (apply WL.nil) | (apply EX.thenN) | (apply CW.region) | (apply EX.inN)))
    exact EX.back (k + 1) (by repeat (first | exact trivial | refine ⟨rfl, ?_⟩)) ⟨h1, hC.grown hg2 (fun b' e => by cases e; exact hF), hK.trans hk'⟩ (by omega)
  · simp at h1
    (repeat (first | (apply CW.exit) | (apply EX.thenX) | (apply EX.inX)))
    exact EX.end0 rfl ⟨hC, hK⟩
instance iCel1 : IsF Try.prog 39 := ⟨_, Try.func39, rfl, by decide⟩
theorem spoilTE_ok (w0 : World) {F : Nat → Prop} {v : Value} (h : RowT F w0 2 v) :
    Rt Try.prog 39 [v, .agg [.int .i64 0, .int .i64 0].toArray].toArray w0 fun _ w' => Chg F w0 w' ∧ KeepC w0 w' := by
  obtain ⟨ao, len, cap, rfl, hmx, hle, hcap⟩ := h
  unfold maxLen at hmx
  refine Rt.enter2 Try.func39 Try.ntmps39 rfl rfl ?_
  (repeat (first | (apply CW.seq) | (apply CW.region)))
  refine WL.boxB rfl rfl rfl fun w1 hb3 e1 => ?_
  have l3 := hb3.lt
  (repeat (first | (apply WL.pure; rfl; rfl; rfl) | (apply WL.nil) | (apply EX.thenN) | (apply CW.seq) | (apply CW.region)))
  refine WL.capS rfl rfl rfl ?_
  skip
  refine WL.cutHi (α := Int × Int) cap rfl rfl rfl rfl rfl (Nat.le_refl _) ?_
  (repeat (first | (apply WL.pure; rfl; rfl; rfl) | (apply WL.nil) | (apply EX.thenN) | (apply CW.seq) | (apply CW.region) | (apply WL.lenS; rfl; rfl; rfl) | (apply CW.block)))
  refine CW.loop (S := Nat) (fun k => [(0, .slice ao cap cap), (3, .pointer (some ⟨w0.heap.size, 0, none⟩)), (10, .int .i64 cap), (11, .int .i64 k)])
    (fun k w => k ≤ cap ∧ Chg F w0 w ∧ KeepC w0 w ∧ w.heap[w0.heap.size]? = w1.heap[w0.heap.size]?) (fun k => cap - k) 0 (by repeat (first | exact trivial | refine ⟨rfl, ?_⟩)) ⟨by omega, ⟨e1.os, e1.tape, e1.output, e1.size, fun b hb _ => e1.block b hb⟩, KeepC.ext e1, rfl⟩ ?_
  rintro k w ⟨hk, hC, hK, hB⟩
  have hb3 : Blk w _ _ _ := hB.trans hb3
  (repeat (first | (apply WL.pure; rfl; rfl; rfl) | (apply WL.nil) | (apply EX.thenN) | (apply CW.seq) | (apply CW.region)))
  refine CW.cond rfl (fun h1 => ?_) (fun h1 => ?_)
  · simp at h1
    obtain ⟨b, off, rfl, hF, hc⟩ := hcap (by omega)
    have hcl := hc.lt
    (repeat (first | (apply WL.pure; rfl; rfl; rfl) | (apply WL.nil) | (apply EX.thenN) | (apply CW.seq) | (apply CW.region) | (apply WL.ldA; rfl; rfl; rfl; assumption; rfl) | (apply CW.block) | (apply CW.skip)))
    refine WL.stRowT (α := Int × Int) (F := Non) (yv := (0, 0)) rfl rfl rfl rfl h1 (Nat.le_refl _) (hK _ _ hc) (fun _ => rfl) (fun _ => rfl) (Rd.mkPr (c1 := [_]) (c2 := [_]) (rd_mkInt _ _ _) (rd_mkInt _ _ _)) (fun w' p hk' hg2 => ?_)
    (repeat (first | (apply WL.add; rfl; rfl; rfl; rfl; omega; omega) | (apply WL.pure; rfl; rfl; rfl) | (apply WL.nil) | (apply EX.thenN) | (apply CW.region) | (apply EX.inN)))
    exact EX.back (k + 1) (by repeat (first | exact trivial | refine ⟨rfl, ?_⟩)) ⟨h1, hC.grown hg2 (fun b' e => by cases e; exact hF), hK.trans hk', (hg2.block _ (by have := hC.size; have := hb3.lt; omega) (fun e => by injection e with e; omega)).trans hB⟩ (by omega)
  · simp at h1
    (repeat (first | (apply CW.exit) | (apply EX.thenX) | (apply EX.inX)))
    exact EX.end0 rfl ⟨hC, hK⟩
end Go.Proofs.Ytadbkppgaekmpaa
