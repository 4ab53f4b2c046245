/-
  Package game: fire, Fire: walked.
-/
import Derived.Lib.RabinKarpLaws
import Derived.Test.YthojdcbpglipeaaGame3
set_option linter.unusedVariables false
set_option linter.unusedSimpArgs false
namespace Go.Proofs.Ythojdcbpglipeaa
open Go.RowKit

/- clear(x), x a list of numbers -/
theorem elems_zeros (w : World) (F : Nat → Prop) : ∀ k : Nat, Elems w F (List.replicate k (Value.int .i64 0)) (List.replicate k (0 : Int))
  | 0 => Elems.nil
  | k + 1 => by
    rw [List.replicate_succ', List.replicate_succ']
    exact (elems_zeros w F k).append (Elems.one (rd_mkInt w F 0))
section
variable {P : Program} {Q : Exit → Act → World → Prop} {n : Nat} {σ : Sg} {w : World} {L rest : List Oper} {d : Nat} {ty : TypeId} {pos : String} {af : Array Edge} {g : Option (Nat × Bool)} {t e : TypeId} {bytes : Nat}
theorem WL.runV {op : Op} {v : Value} {w' : World} (hg : gd L σ ⟨none, op, ty, pos, af, g⟩ = some true)
    (hr : ∀ a, Fr n σ a → (execOp a.eval ⟨none, op, ty, pos, af, g⟩).run P w = .ok (.value v) w') (h : WL P L Q rest n σ w') : WL P L Q (⟨none, op, ty, pos, af, g⟩ :: rest) n σ w := by
  unfold WL at *
  intro a ha
  refine wpList_step fun K hK => ?_
  rw [gd_wanted ha hg, if_pos rfl]
  unfold Oper.wp
  rw [hr a ha]
  exact hK _ _ (h _ (ha.put (d := none) (v := v) rfl))
theorem run_clear {v : Value} {xs : List Int} {B : Nat} (w : World) [hs : IsS P t e] [ht : IsT P e Int] [hz : IsZ P e (0 : Int) bytes] (hown : Own w B e Non v xs) :
    ∃ w', (Builtin.clear_ #[t] ty #[v]).run P w = .ok (.tuple #[]) w' ∧ Own w' B e Non v (xs.map fun _ => (0 : Int)) ∧ w.grownBy w' v.ownBlock := by
  rcases hown with ⟨rfl, rfl⟩ | ⟨b, off, cap, cur, rfl, ho⟩
  · refine ⟨w, by simp [Builtin.clear_, run_underlying hs.ok], Own.nil, ?_⟩
    exact ⟨rfl, rfl, rfl, Nat.le_refl _, fun k _ _ => rfl⟩
  · by_cases h0 : xs = []
    · subst h0
      refine ⟨w, by simp [Builtin.clear_, run_underlying hs.ok], .inr ⟨b, off, cap, cur, rfl, ho⟩, ?_⟩
      exact ⟨rfl, rfl, rfl, Nat.le_refl _, fun k _ _ => rfl⟩
    obtain ⟨i, z, h1, h2, h3, h4⟩ := hz.ok
    have hzc : z.cells.toList = [Value.int .i64 0] := h4 w Non
    have hz1 : z.cells = #[Value.int .i64 0] := by apply Array.ext'; exact hzc
    have hpos : 0 < xs.length := List.length_pos_iff.2 h0
    obtain ⟨k, hk⟩ : ∃ k, xs.length = k + 1 := ⟨xs.length - 1, by omega⟩
    have hsz : sz Int = 1 := rfl
    have hfit := ho.fit
    have hle := ho.le
    rw [hsz, Nat.mul_one] at hfit
    have hst := run_storeCells_at P b off e (List.replicate xs.length (Value.int .i64 0)) 0 cur w ho.blk (by simp; omega) (fun v hv => by rw [List.eq_of_mem_replicate hv]; rfl)
    simp only [Nat.add_zero] at hst
    have hzz : (Builtin.zeroCells z.cells xs.length).toList = List.replicate xs.length (Value.int .i64 0) := by
      rw [hz1]
      simp [Builtin.zeroCells]
      apply List.ext_getElem
      · simp
      · intro i h1 h2
        simp [Nat.mod_one]
    refine ⟨w.setRow b (cur.toList.take off ++ List.replicate xs.length (Value.int .i64 0) ++ cur.toList.drop (off + xs.length)).toArray, ?_, .inr ⟨b, off, cap, (cur.toList.take off ++ List.replicate xs.length (Value.int .i64 0) ++ cur.toList.drop (off + xs.length)).toArray, by rw [List.length_map], ⟨setRow_heap w b cur _ e _ ho.blk, ho.ge, ho.nF, by simpa using ho.le, ho.mx, ?_, ?_⟩⟩, ⟨rfl, rfl, rfl, by simp, fun k _ hk => setRow_other w b k _ (fun e => hk (by rw [e]; rfl))⟩⟩
    · rw [List.length_replicate] at hst
      rw [hk] at hst hzz ⊢
      have hzv : (zeroValue e).run P w = .ok z w := by simp [zeroValue, typeInfo, h1, h2]
      simp only [List.append_assoc] at hst
      simp [Builtin.clear_, run_underlying hs.ok, hzv, hzz, hst]
    · simp only [List.size_toArray, List.length_append, List.length_take, List.length_drop, Array.length_toList, List.length_replicate]
      rw [hsz]; omega
    · rw [List.length_map, hsz, Nat.mul_one, List.map_const']
      have e1 : ((((cur.toList.take off ++ List.replicate xs.length (Value.int .i64 0) ++ cur.toList.drop (off + xs.length)).toArray.toList).drop off).take xs.length) = List.replicate xs.length (Value.int .i64 0) := by
        have hl : (cur.toList.take off).length = off := by rw [List.length_take, Array.length_toList]; omega
        simp only [List.append_assoc]
        rw [List.drop_append, hl, Nat.sub_self, List.drop_zero, List.drop_eq_nil_of_le (by omega), List.nil_append, List.take_append]
        simp
      rw [e1]
      exact elems_zeros _ _ _
theorem WL.clearI {x : Operand} {v : Value} {xs : List Int} {B : Nat} (hg : gd L σ ⟨none, .call ⟨.builtin .clear, #[x], #[t]⟩, ty, pos, af, g⟩ = some true)
    (hx : ev σ x = some v) [hs : IsS P t e] [ht : IsT P e Int] [hz : IsZ P e (0 : Int) bytes] (hown : Own w B e Non v xs)
    (h : ∀ w', Own w' B e Non v (xs.map fun _ => (0 : Int)) → w.grownBy w' v.ownBlock → WL P L Q rest n σ w') :
    WL P L Q (⟨none, .call ⟨.builtin .clear, #[x], #[t]⟩, ty, pos, af, g⟩ :: rest) n σ w := by
  obtain ⟨w', hr, ho, hgr⟩ := run_clear (P := P) (t := t) (ty := ty) w hown
  refine WL.runV (v := .tuple #[]) hg (fun a ha => ?_) (h w' ho hgr)
  simp [execOp, resolve, invoke, builtin, ha.ev hx, hr]
end
theorem run_shrZ (P : Program) (w : World) (a : Int) (s : Nat) (hs : s ≤ 62) (t : TypeId) : (binOp .shr t (.int .i64 a) (.int .i64 (s : Int))).run P w = .ok (.int .i64 (a / 2 ^ s)) w := by
  rw [binOp_shr, shift_shr_i64 (h₀ := by omega) (h₁ := by omega), Int.toNat_natCast]; rfl
section
variable {P : Program} {Q : Exit → Act → World → Prop} {n : Nat} {σ : Sg} {w : World} {L rest : List Oper} {d : Nat} {ty : TypeId} {pos : String} {af : Array Edge} {g : Option (Nat × Bool)} {t yt : TypeId} {x y : Operand}
theorem WL.shrZ {a : Int} {s : Nat} (hg : gd L σ ⟨some d, .binOp .shr t x y yt, ty, pos, af, g⟩ = some true) (hd : Nat.ble (d + 1) n = true) (hx : ev σ x = some (.int .i64 a)) (hy : ev σ y = some (.int .i64 (s : Int))) (hs : s ≤ 62)
    (h : WL P L Q rest n ((d, .int .i64 (a / 2 ^ s)) :: σ) w) : WL P L Q (⟨some d, .binOp .shr t x y yt, ty, pos, af, g⟩ :: rest) n σ w := by
  refine WL.run hg hd (fun a0 ha0 => ?_) h
  have := run_shrZ P w a s hs t
  simp [execOp, ha0.ev hx, ha0.ev hy, eqG (op := .shr) rfl, this]
end
theorem bitK_and {a : Int} {k : Nat} (h0 : 0 ≤ a) (h1 : a < 4611686018427387904) : bits BinOp.and IntKind.i64 (a / 2 ^ k) 1 = bitK a k := by
  have hp : (1 : Int) ≤ 2 ^ k := pow_pos2 k
  have hq0 : 0 ≤ a / 2 ^ k := Int.ediv_nonneg h0 (by omega)
  have hq1 : a / 2 ^ k ≤ a := Int.ediv_le_self _ h0
  obtain ⟨q, hq⟩ := Int.eq_ofNat_of_zero_le hq0
  have := Go.Proofs.and_one q (by omega)
  unfold bitK
  rw [hq, this]; omega
theorem takes_set {s : LStep} {o : List Int} {f : Nat} (hf : f < o.length) (h : ¬ (s.2.1 = (f : Int) ∨ s.2.1 < 0 ∧ o[f] > 0)) : o.set f (takes o s (f : Int)) = o := by
  unfold takes
  rw [Int.toNat_natCast, getDm_at hf, if_neg h, List.set_getElem_self]
/-- the numbers of tokens are in bounds -/
def tokI (b : Nat) (o : List Int) : Prop := ∀ k (h : k < o.length), -(b : Int) ≤ o[k] ∧ o[k] ≤ 9
theorem tokI_set {b b' : Nat} {o : List Int} {k : Nat} {v : Int} (h : tokI b o) (hb : b ≤ b') (h0 : -(b' : Int) ≤ v) (h1 : v ≤ 9) : tokI b' (o.set k v) := fun j hj => by
  rw [List.length_set] at hj
  rw [List.getElem_set]
  split
  · exact ⟨h0, h1⟩
  · have := h j hj; omega
theorem fire_ok (w0 : World) {so fo mo : Option Addr} {sc fc mc : Nat} {ns : List LNode} {fl : List LFlow} {m : List Int} (hs : Sl w0 (Old w0) so sc ns) (hf : Sl w0 (Old w0) fo fc fl) (hm : Sl w0 (Old w0) mo mc m) (hc0 : chkPr (ns, fl) = 0) (hml : m.length = fl.length) (hmt : tokI 0 m) {s : LStep} {n : Nat} (hn : n < ns.length) (hsn : s ∈ stepsN (ns, fl) n) :
    Rt Try.prog 98 [procV so sc fo fc ns.length fl.length, .slice mo m.length mc, stV s].toArray w0 fun v w' => ∃ x, v = .tuple ⟨[x, .int .i64 (if (fireP (ns, fl) m s).isSome then 0 else 7)]⟩ ∧ Own w' w0.heap.size 3 Non x ((fireP (ns, fl) m s).getD []) ∧ Ext w0 w' := by
  have hok := chkPr_ok hc0
  have hf30 := hok.f
  dsimp only at hf30
  have q1 := stepsK_node _ hsn
  have q2 := stepsK_in _ hsn
  have q3 := stepsK_out _ hsn
  have hle : listE (ns, fl) (n : Int) = 0 := listE_ok hc0 hn
  have hol : (outsL fl (n : Int)).length ≤ fl.length := outsP_len
  have hil : (insL fl (n : Int)).length ≤ fl.length := insP_len
  clear hsn
  obtain ⟨s1, s2, s3⟩ := s
  dsimp only at q1 q2 q3
  subst q1
  have hp30 := pow_le2 (show (outsL fl (n : Int)).length ≤ 30 by omega)
  have hp31 : (2 : Int) ^ 30 = 1073741824 := by decide
  have hs30 : s3 < 4611686018427387904 := by omega
  unfold stV fireP
  dsimp only
  rw [Int.toNat_natCast, kindAt_at hn]
  refine Rt.enter3 Try.func98 Try.ntmps98 rfl rfl ?_
  have hE := Ext.refl w0
  (repeat (first | (apply CW.seq) | (apply CW.region)))
  refine WL.boxB rfl rfl rfl fun w1 hb3 e1 => ?_
  have hE := hE.trans e1
  skip
  refine WL.boxB rfl rfl rfl fun w2 hb5 e2 => ?_
  have hb3 := hb3.ext e2
  have hE := hE.trans e2
  (repeat (first | (apply WL.pure; rfl; rfl; rfl) | (apply WL.nil) | (apply EX.thenN) | (apply CW.seq) | (apply CW.region)))
  have hd3 := hb3
  have hd5 := hb5
  refine WL.call rfl rfl rfl (clone_int w2 (hm.up hE) (by omega)) ?_
  rintro ov w3 ⟨ho, e3⟩
  have hb3 := hb3.ext e3
  have hb5 := hb5.ext e3
  have z2 := hE.size
  have hE := hE.trans e3
  obtain ⟨nb, off, rfl, hnb, hnc⟩ := (hs.at hE).nodeK hn
  (repeat (first | (apply WL.pure; rfl; rfl; rfl) | (apply WL.nil) | (apply EX.thenN) | (apply CW.seq) | (apply CW.region) | (apply WL.fa; rfl; rfl; rfl) | (apply WL.ld; rfl; rfl; rfl; assumption; rfl)))
  refine WL.idx (α := LNode) rfl rfl rfl rfl (by omega) (by omega) ?_
  (repeat (apply WL.fa; rfl; rfl; rfl))
  refine WL.load (α := Int) (F := Non) (y := ns[n].2) rfl rfl rfl (by rw [Int.toNat_natCast]; exact hnc) rfl ?_
  rw [show vOf Int [.int .i64 ns[n].2] = .int .i64 ns[n].2 from rfl]
  (repeat (first | (apply WL.pure; rfl; rfl; rfl) | (apply WL.nil) | (apply EX.thenN)))
  refine CW.cond rfl (fun h => ?_) (fun h => ?_)
  · have h : ns[n].2 = 3 := by simpa using h
    rw [if_pos h]
    (repeat (first | (apply WL.pure; rfl; rfl; rfl) | (apply CW.seq) | (apply CW.region)))
    refine WL.clearI rfl rfl ho (fun w4 ho4 hg4 => ?_)
    have e4 : Ext w2 w4 := e3.grown hg4 e3.size (fun b hb => (ho.lt b hb).1)
    (repeat (first | (apply WL.pure; rfl; rfl; rfl) | (apply WL.nil) | (apply EX.thenN) | (apply CW.seq) | (apply CW.region) | (apply CW.ret) | (apply EX.thenR)))
    exact EX.ret2 rfl rfl rfl ⟨_, rfl, ho4.low z2, Ext.trans (Ext.trans e1 e2) e4⟩
  have h : ¬ ns[n].2 = 3 := by simpa using h
  rw [if_neg h]
  have e12 := Ext.trans e1 e2
  clear hnc hnb e1
  (repeat (first | (apply EX.thenN) | (apply CW.seq) | (apply CW.region) | (apply WL.fa; rfl; rfl; rfl) | (apply WL.ld; rfl; rfl; rfl; assumption; rfl) | (apply WL.ldA; rfl; rfl; rfl; assumption; rfl) | (apply CW.skip)))
  have hc3 := hb3
  have hc5 := hb5
  have hgo : ∀ g, ov.ownBlock = some g → g < w3.heap.size := fun g hg => (ho.lt g hg).2.1
  refine WL.call rfl rfl rfl (Ins_ok w3 (hs.up hE) (hf.up hE) (n : Int)) ?_
  rintro _ w4 ⟨x, rfl, hox, e4⟩
  rw [hle, if_pos rfl] at hox
  have hb3 := hb3.ext e4
  have hb5 := hb5.ext e4
  have z34 := e4.size
  have hE := hE.trans e4
  have ho := ho.extN e4
  have e4 := e3.trans e4
  obtain ⟨xo, xc, rfl, _⟩ := hox.oldN.sl
  have hins := fun x (hx : x ∈ insL fl (n : Int)) => insP_mem.1 hx
  rw [hle]
  generalize hinsL : insL fl (n : Int) = ins at *
  obtain ⟨s, hsdef⟩ : ∃ s : LStep, s = ((n : Int), s2, s3) := ⟨_, rfl⟩
  have hs21 : s.2.1 = s2 := by rw [hsdef]
  rw [← hsdef]
  have hTk : takeAll s m (ins.drop 0) = takeAll s m ins := by rw [List.drop_zero]
  (repeat (first | (apply WL.pure; rfl; rfl; rfl) | (apply WL.nil) | (apply EX.thenN) | (apply CW.seq) | (apply CW.region) | (apply WL.lenS; rfl; rfl; rfl) | (apply CW.block)))
  refine CW.loop (S := Nat × List Int) (fun t => [(3, .pointer (some ⟨w0.heap.size, 0, none⟩)), (5, .pointer (some ⟨w1.heap.size, 0, none⟩)), (8, ov), (36, .slice xo ins.length xc), (37, .int .i64 ins.length), (38, .int .i64 t.1)])
    (fun t w => t.1 ≤ ins.length ∧ t.2.length = m.length ∧ tokI t.1 t.2 ∧ takeAll s t.2 (ins.drop t.1) = takeAll s m ins ∧ Own w w2.heap.size 3 Non ov t.2 ∧ Own w w3.heap.size 3 Non (.slice xo ins.length xc) ins ∧ Ext w2 w ∧ w3.heap.size ≤ w.heap.size) (fun t => ins.length - t.1)
    (0, m) (by repeat (first | exact trivial | refine ⟨rfl, ?_⟩)) ⟨Nat.zero_le _, rfl, hmt, hTk, ho, hox, e4, z34⟩ ?_
  rintro ⟨i, o⟩ w5 ⟨hi, hol5, htk, hT, ho, hox, e5, z5⟩
  dsimp only at hi hol5 htk hT ho e5 ⊢
  have hE5 := Ext.trans e12 e5
  have hb3 := hd3.ext e5
  have hb5 := hd5.ext e5
  obtain ⟨_, _, exo, hxs⟩ := hox.oldN.sl
  obtain ⟨rfl, _, rfl⟩ := Value.slice.inj exo
  (repeat (first | (apply WL.pure; rfl; rfl; rfl) | (apply WL.nil) | (apply EX.thenN) | (apply CW.seq) | (apply CW.region)))
  refine CW.cond rfl (fun h => ?_) (fun h => ?_)
  · have hi' : i < ins.length := by simp at h; omega
    obtain ⟨f, ef, hlt, _⟩ := hins _ (List.getElem_mem hi')
    have hfo : f < o.length := by omega
    have hbd := htk f hfo
    rw [List.drop_eq_getElem_cons hi', takeAll, ef, Int.toNat_natCast] at hT
    have hno : ¬ (s2 = (f : Int) ∨ s2 < 0 ∧ o[f] > 0) → takeAll s o (ins.drop (i + 1)) = takeAll s m ins := fun h => by
      rw [← hT, takes_set hfo (by rw [hs21]; exact h)]
    have hyes : (s2 = (f : Int) ∨ s2 < 0 ∧ o[f] > 0) → takeAll s (o.set f (o[f] - 1)) (ins.drop (i + 1)) = takeAll s m ins := fun h => by
      rw [← hT]
      unfold takes
      rw [Int.toNat_natCast, getDm_at hfo, hs21, if_pos h]
    have htk' : tokI (i + 1) o := fun j hj => by have := htk j hj; omega
    (repeat (first | (apply EX.thenN) | (apply CW.seq) | (apply CW.region) | (apply CW.block) | (apply CW.skip)))
    refine WL.elemI rfl rfl rfl rfl rfl hxs hi' ef (fun _ => rfl) (fun q => ?_)
    (repeat (first | (apply WL.pure; rfl; rfl; rfl) | (apply WL.nil) | (apply EX.thenN) | (apply CW.seq) | (apply CW.region) | (apply WL.fa; rfl; rfl; rfl) | (apply WL.ld; rfl; rfl; rfl; assumption; rfl)))
    by_cases h1 : s2 = (f : Int)
    · rw [show (s2 == (f : Int)) = true by simpa using h1]
      (repeat (first | (apply WL.pure; rfl; rfl; rfl) | (apply WL.nil) | (apply EX.thenN) | (apply CW.region) | (apply WL.pass; rfl; rfl) | (apply CW.condT; rfl)))
      refine WL.elemON rfl rfl rfl rfl rfl ho hfo (fun _ => rfl) (fun u q hu => ?_)
      obtain rfl := hu.int
      (repeat (apply WL.sub'; rfl; rfl; rfl; rfl; omega; omega))
      refine WL.setN (u := .int .i64 (o[f] - 1)) (yv := o[f] - 1) rfl rfl rfl rfl ho hfo (fun _ => rfl) (fun _ => rfl) (Rd.mkInt _ _ _) (fun w6 q ho6 hg6 => ?_)
      have e6 : Ext w2 w6 := e5.grown hg6 e5.size (fun b hb => (ho.lt b hb).1)
      have hox6 := hox.keptN hg6 (fun g hg e => by have := (hox.lt g hg).1; have := hgo g e.symm; omega)
      (repeat (first | (apply WL.add; rfl; rfl; rfl; rfl; omega; omega) | (apply WL.pure; rfl; rfl; rfl) | (apply WL.nil) | (apply EX.thenN) | (apply CW.region) | (apply EX.inN)))
      exact EX.back (i + 1, o.set f (o[f] - 1)) (by repeat (first | exact trivial | refine ⟨rfl, ?_⟩)) ⟨hi', by simpa using hol5, tokI_set htk (by omega) (by omega) (by omega), hyes (.inl h1), ho6, hox6, e6, Nat.le_trans z5 hg6.size⟩ (by dsimp only; omega)
    · rw [show (s2 == (f : Int)) = false by simpa using h1]
      by_cases h2 : s2 < 0
      · (repeat (first | (apply WL.pure; rfl; rfl; rfl) | (apply WL.fa; rfl; rfl; rfl) | (apply WL.ld; rfl; rfl; rfl; assumption; rfl)))
        rw [decide_eq_true h2]
        (repeat (apply WL.pure; rfl; rfl; rfl))
        refine WL.elemON rfl rfl rfl rfl rfl ho hfo (fun _ => rfl) (fun u q hu => ?_)
        obtain rfl := hu.int
        (repeat (first | (apply WL.pure; rfl; rfl; rfl) | (apply WL.nil) | (apply EX.thenN)))
        refine CW.cond rfl (fun h3 => ?_) (fun h3 => ?_)
        · have h3 : o[f] > 0 := by simpa using h3
          (repeat (first | (apply WL.pure; rfl; rfl; rfl) | (apply CW.region)))
          refine WL.elemON rfl rfl rfl rfl rfl ho hfo (fun _ => rfl) (fun u q hu => ?_)
          obtain rfl := hu.int
          (repeat (apply WL.sub'; rfl; rfl; rfl; rfl; omega; omega))
          refine WL.setN (u := .int .i64 (o[f] - 1)) (yv := o[f] - 1) rfl rfl rfl rfl ho hfo (fun _ => rfl) (fun _ => rfl) (Rd.mkInt _ _ _) (fun w6 q ho6 hg6 => ?_)
          have e6 : Ext w2 w6 := e5.grown hg6 e5.size (fun b hb => (ho.lt b hb).1)
          have hox6 := hox.keptN hg6 (fun g hg e => by have := (hox.lt g hg).1; have := hgo g e.symm; omega)
          (repeat (first | (apply WL.add; rfl; rfl; rfl; rfl; omega; omega) | (apply WL.pure; rfl; rfl; rfl) | (apply WL.nil) | (apply EX.thenN) | (apply CW.region) | (apply EX.inN)))
          exact EX.back (i + 1, o.set f (o[f] - 1)) (by repeat (first | exact trivial | refine ⟨rfl, ?_⟩)) ⟨hi', by simpa using hol5, tokI_set htk (by omega) (by omega) (by omega), hyes (.inr ⟨h2, h3⟩), ho6, hox6, e6, Nat.le_trans z5 hg6.size⟩ (by dsimp only; omega)
        · have h3 : ¬ o[f] > 0 := by simpa using h3
          (repeat (first | (apply WL.add; rfl; rfl; rfl; rfl; omega; omega) | (apply WL.pure; rfl; rfl; rfl) | (apply WL.nil) | (apply EX.thenN) | (apply CW.region) | (apply EX.inN) | (apply CW.skip)))
          exact EX.back (i + 1, o) (by repeat (first | exact trivial | refine ⟨rfl, ?_⟩)) ⟨hi', hol5, htk', hno (fun h => h.elim h1 (fun h => h3 h.2)), ho, hox, e5, z5⟩ (by dsimp only; omega)
      · (repeat (first | (apply WL.pure; rfl; rfl; rfl) | (apply WL.fa; rfl; rfl; rfl) | (apply WL.ld; rfl; rfl; rfl; assumption; rfl)))
        rw [decide_eq_false h2]
        (repeat (first | (apply WL.add; rfl; rfl; rfl; rfl; omega; omega) | (apply WL.pure; rfl; rfl; rfl) | (apply WL.nil) | (apply EX.thenN) | (apply CW.region) | (apply WL.pass; rfl; rfl) | (apply EX.inN) | (apply CW.condF; rfl) | (apply CW.skip)))
        exact EX.back (i + 1, o) (by repeat (first | exact trivial | refine ⟨rfl, ?_⟩)) ⟨hi', hol5, htk', hno (fun h => h.elim h1 (fun h => h2 h.1)), ho, hox, e5, z5⟩ (by dsimp only; omega)
  obtain rfl : i = ins.length := by simp at h; omega
  rw [List.drop_length, takeAll] at hT
  rw [← hT]
  clear hT exo hxs hox
  (repeat (first | (apply EX.thenN) | (apply CW.seq) | (apply CW.region) | (apply WL.fa; rfl; rfl; rfl) | (apply WL.ld; rfl; rfl; rfl; assumption; rfl) | (apply WL.ldA; rfl; rfl; rfl; assumption; rfl) | (apply CW.exit) | (apply EX.thenX) | (apply EX.inX)))
  refine WL.call rfl rfl rfl (Outs_ok w5 (hs.up hE5) (hf.up hE5) (n : Int)) ?_
  rintro _ w6 ⟨x, rfl, hoy, e6⟩
  rw [hle, if_pos rfl] at hoy
  rw [hle]
  have ho := ho.extN e6
  have e6 := e5.trans e6
  obtain ⟨yo, yc, rfl, _⟩ := hoy.oldN.sl
  have houts := fun x (hx : x ∈ outsL fl (n : Int)) => outsP_mem.1 hx
  generalize outsL fl (n : Int) = outs at *
  have hb3 := hd3.ext e6
  have hb5 := hd5.ext e6
  generalize hR : putAll s3 0 o outs = R
  have hRk : putAll s3 0 o (outs.drop 0) = R := by rw [List.drop_zero]; exact hR
  have htk30 : tokI 30 o := fun j hj => by have := htk j hj; omega
  (repeat (first | (apply WL.pure; rfl; rfl; rfl) | (apply WL.nil) | (apply EX.thenN) | (apply CW.seq) | (apply CW.region) | (apply WL.lenS; rfl; rfl; rfl) | (apply CW.block)))
  refine CW.loop (S := Nat × List Int) (fun t => [(5, .pointer (some ⟨w1.heap.size, 0, none⟩)), (8, ov), (72, .slice yo outs.length yc), (73, .int .i64 outs.length), (74, .int .i64 t.1)])
    (fun t w => t.1 ≤ outs.length ∧ t.2.length = m.length ∧ tokI 30 t.2 ∧ putAll s3 t.1 t.2 (outs.drop t.1) = R ∧ Own w w2.heap.size 3 Non ov t.2 ∧ Own w w5.heap.size 3 Non (.slice yo outs.length yc) outs ∧ Ext w2 w) (fun t => outs.length - t.1)
    (0, o) (by repeat (first | exact trivial | refine ⟨rfl, ?_⟩)) ⟨Nat.zero_le _, hol5, htk30, hRk, ho, hoy, e6⟩ ?_
  clear hR hRk htk30 ho hoy e6 htk hol5 hb5 hb3 hE5
  rintro ⟨k, o2⟩ w7 ⟨hk, hol7, htk, hR, ho, hoy, e7⟩
  dsimp only at hk hol7 htk hR ho e7 ⊢
  have hE7 := Ext.trans e12 e7
  have hb5 := hd5.ext e7
  obtain ⟨_, _, eyo, hys⟩ := hoy.oldN.sl
  obtain ⟨rfl, _, rfl⟩ := Value.slice.inj eyo
  (repeat (first | (apply WL.pure; rfl; rfl; rfl) | (apply WL.nil) | (apply EX.thenN) | (apply CW.seq) | (apply CW.region)))
  refine CW.cond rfl (fun h => ?_) (fun h => ?_)
  · have hk' : k < outs.length := by simp at h; omega
    obtain ⟨f, ef, hlt, _⟩ := houts _ (List.getElem_mem hk')
    have hfo : f < o2.length := by omega
    have hbd := htk f hfo
    have hbit := bitK_and (k := k) q3.1 hs30
    rw [List.drop_eq_getElem_cons hk', putAll, ef, Int.toNat_natCast, getDm_at hfo] at hR
    (repeat (first | (apply WL.pure; rfl; rfl; rfl) | (apply EX.thenN) | (apply CW.seq) | (apply CW.region) | (apply CW.block) | (apply CW.skip)))
    refine WL.elemI rfl rfl rfl rfl rfl hys hk' ef (fun _ => rfl) (fun q => ?_)
    (repeat (first | (apply WL.pure; rfl; rfl; rfl) | (apply WL.nil) | (apply EX.thenN) | (apply CW.seq) | (apply CW.region) | (apply WL.fa; rfl; rfl; rfl) | (apply WL.ld; rfl; rfl; rfl; assumption; rfl)))
    refine WL.shrZ (s := k) rfl rfl rfl rfl (by omega) ?_
    (repeat (first | (apply WL.pure; rfl; rfl; rfl) | (apply WL.nil) | (apply EX.thenN)))
    rw [hbit]
    refine CW.cond rfl (fun h1 => ?_) (fun h1 => ?_)
    · have h1 : bitK s3 k = 1 := by simpa using h1
      rw [if_pos h1] at hR
      (repeat (first | (apply WL.pure; rfl; rfl; rfl) | (apply CW.seq) | (apply CW.region)))
      refine WL.elemON rfl rfl rfl rfl rfl ho hfo (fun _ => rfl) (fun u q hu => ?_)
      obtain rfl := hu.int
      (repeat (apply WL.add; rfl; rfl; rfl; rfl; omega; omega))
      refine WL.setN (u := .int .i64 (o2[f] + 1)) (yv := o2[f] + 1) rfl rfl rfl rfl ho hfo (fun _ => rfl) (fun _ => rfl) (Rd.mkInt _ _ _) (fun w8 q ho8 hg8 => ?_)
      have e8 : Ext w2 w8 := e7.grown hg8 e7.size (fun b hb => (ho.lt b hb).1)
      have hoy8 := hoy.keptN hg8 (fun g hg e => by have := (hoy.lt g hg).1; have := hgo g e.symm; omega)
      have hE8 := Ext.trans e12 e8
      have hfo8 : f < (o2.set f (o2[f] + 1)).length := by simpa using hfo
      (repeat (first | (apply WL.pure; rfl; rfl; rfl) | (apply WL.nil) | (apply EX.thenN) | (apply CW.seq) | (apply CW.region)))
      refine WL.elemON rfl rfl rfl rfl rfl ho8 hfo8 (fun _ => rfl) (fun u q hu => ?_)
      obtain rfl := hu.int
      rw [List.getElem_set_self]
      (repeat (first | (apply WL.pure; rfl; rfl; rfl) | (apply WL.nil) | (apply EX.thenN)))
      refine CW.cond rfl (fun h2 => ?_) (fun h2 => ?_)
      · have h2 : o2[f] + 1 > 9 := by simpa using h2
        rw [if_pos h2] at hR
        subst hR
        (repeat (first | (apply WL.pure; rfl; rfl; rfl) | (apply WL.nil) | (apply EX.thenN) | (apply CW.seq) | (apply CW.region) | (apply CW.ret) | (apply EX.thenR) | (apply EX.inR)))
        exact EX.ret2 rfl rfl rfl ⟨_, rfl, Own.nil, hE8⟩
      · have h2 : ¬ o2[f] + 1 > 9 := by simpa using h2
        rw [if_neg h2] at hR
        (repeat (first | (apply WL.add; rfl; rfl; rfl; rfl; omega; omega) | (apply WL.pure; rfl; rfl; rfl) | (apply WL.nil) | (apply EX.thenN) | (apply CW.region) | (apply EX.inN) | (apply CW.skip)))
        exact EX.back (k + 1, o2.set f (o2[f] + 1)) (by repeat (first | exact trivial | refine ⟨rfl, ?_⟩)) ⟨hk', by simpa using hol7, tokI_set htk (by omega) (by omega) (by omega), hR, ho8, hoy8, e8⟩ (by dsimp only; omega)
    · have h1 : ¬ bitK s3 k = 1 := by simpa using h1
      rw [if_neg h1] at hR
      (repeat (first | (apply WL.add; rfl; rfl; rfl; rfl; omega; omega) | (apply WL.pure; rfl; rfl; rfl) | (apply WL.nil) | (apply EX.thenN) | (apply CW.region) | (apply EX.inN) | (apply CW.skip)))
      exact EX.back (k + 1, o2) (by repeat (first | exact trivial | refine ⟨rfl, ?_⟩)) ⟨hk', hol7, htk, hR, ho, hoy, e7⟩ (by dsimp only; omega)
  · obtain rfl : k = outs.length := by simp at h; omega
    rw [List.drop_length, putAll] at hR
    subst hR
    (repeat (first | (apply WL.pure; rfl; rfl; rfl) | (apply WL.nil) | (apply EX.thenN) | (apply CW.seq) | (apply CW.region) | (apply CW.exit) | (apply EX.thenX) | (apply EX.inX) | (apply CW.ret)))
    exact EX.ret2 rfl rfl rfl ⟨_, rfl, ho.low z2, hE7⟩
end Go.Proofs.Ythojdcbpglipeaa
