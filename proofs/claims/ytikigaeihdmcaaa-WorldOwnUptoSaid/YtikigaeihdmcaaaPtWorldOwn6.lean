import Derived.Test.YtikigaeihdmcaaaPtWorldOwn5
/-
  Tarjan's search, walked: visit.
-/
set_option linter.unusedVariables false
set_option linter.unusedSimpArgs false
namespace Go.Proofs.Ytikigaeihdmcaaa
open Go.RowKit

theorem Own.top {w : World} {B : Nat} {e : TypeId} {v : Value} {xs : List (Int × Int)} {a c : Int} (h : Own w B e Non v (xs ++ [(a, c)])) :
    ∃ b off cap, v = .slice (some ⟨b, off, none⟩) (xs.length + 1) cap ∧ B ≤ b ∧ b < w.heap.size ∧ v.ownBlock = some b ∧ Cells w b (off + xs.length * 2) [.int .i64 a] ∧ Cells w b (off + xs.length * 2 + 1) [.int .i64 c] ∧
      ∃ cur, w.heap[b]? = some (.cells cur e (0, 0)) ∧ off + xs.length * 2 + 2 ≤ cur.size := by
  rcases h with ⟨_, h⟩ | ⟨b, off, cap, cur, rfl, ho⟩
  · simp at h
  · have hl : (xs ++ [(a, c)]).length = xs.length + 1 := by simp
    have hr := ho.el.2 xs.length (by simp)
    have e1 : (xs ++ [(a, c)])[xs.length]'(by simp) = (a, c) := by simp
    rw [e1] at hr
    obtain ⟨c1, c2, e2, h1, h2⟩ := rd_pr hr
    have h1 := rd_int h1
    have h2 := rd_int h2
    rw [h1, h2] at e2
    have hle := ho.le
    have hfit := ho.fit
    have hsz : sz (Int × Int) = 2 := rfl
    rw [hsz] at hfit e2
    rw [hl] at hle e2
    have hm : (xs.length + 1) * 2 ≤ cap * 2 := Nat.mul_le_mul_right _ hle
    have hcell : ∀ j u, ([Value.int .i64 a, .int .i64 c] : List Value)[j]? = some u → w.cell? ⟨b, off + xs.length * 2 + j, none⟩ = some u := by
      intro j u hu
      have hu2 : (((cur.toList.drop off).take ((xs.length + 1) * 2)).drop (xs.length * 2)).take 2 = [Value.int .i64 a, .int .i64 c] := e2
      rw [← hu2, List.getElem?_take] at hu
      split at hu
      · rw [List.getElem?_drop] at hu
        rw [cell_of_row w b _ cur e (0, 0) ho.blk]
        have := cur_get hu
        rw [← this]; congr 1; omega
      · cases hu
    refine ⟨b, off, cap, by rw [hl], ho.ge, (Array.getElem?_eq_some_iff.1 ho.blk).1, rfl, ?_, ?_, cur, ho.blk, by omega⟩
    · intro j u hu
      cases j with
      | zero => exact hcell 0 u (by simpa using hu)
      | succ j => simp at hu
    · intro j u hu
      cases j with
      | zero => exact hcell 1 u (by simpa using hu)
      | succ j => simp at hu
section
variable {P : Program} {Q : Exit → Act → World → Prop} {n : Nat} {σ : Sg} {w : World} {L rest : List Oper} {ty : TypeId} {pos : String} {af : Array Edge} {g : Option (Nat × Bool)} {t e : TypeId} {x y : Operand}
/-- the second number of the last pair is written -/
theorem WL.stTop {B b off cap : Nat} {xs : List (Int × Int)} {a c c' : Int} [ht : IsT P e (Int × Int)] [hc : IsC P t 1 false] (hg : gd L σ ⟨none, .store t x y, ty, pos, af, g⟩ = some true) (hx : ev σ x = some (.pointer (some ⟨b, off + xs.length * 2 + 1, none⟩))) (hy : ev σ y = some (.int .i64 c'))
    (ho : Own w B e Non (.slice (some ⟨b, off, none⟩) (xs.length + 1) cap) (xs ++ [(a, c)]))
    (h : ∀ w', Own w' B e Non (.slice (some ⟨b, off, none⟩) (xs.length + 1) cap) (xs ++ [(a, c')]) → w.grownBy w' (some b) → WL P L Q rest n σ w') : WL P L Q (⟨none, .store t x y, ty, pos, af, g⟩ :: rest) n σ w := by
  have hl : (xs ++ [(a, c)]).length = xs.length + 1 := by simp
  obtain ⟨b', off', cap', he, _, _, _, hca, hcc, _⟩ := ho.top
  obtain ⟨he1, _, rfl⟩ := Value.slice.inj he
  simp only [Option.some.injEq, Addr.mk.injEq] at he1
  obtain ⟨rfl, rfl, _⟩ := he1
  rcases ho with ⟨h0, _⟩ | ⟨b2, off2, cap2, cur, h0, ho⟩
  · cases h0
  · obtain ⟨h1, _, rfl⟩ := Value.slice.inj h0
    simp only [Option.some.injEq, Addr.mk.injEq] at h1
    obtain ⟨rfl, rfl, _⟩ := h1
    obtain ⟨w', hr, ho', hgr⟩ := run_set (P := P) (v := undef) (i := xs.length) (y := (a, c')) ho (by simp) (Rd.mkPr (rd_mkInt w Non a) (rd_mkInt w Non c'))
    have hfit := ho.fit
    have hle := ho.le
    have hsz : sz (Int × Int) = 2 := rfl
    rw [hsz] at hfit hr
    rw [hl] at hle ho'
    have hm : (xs.length + 1) * 2 ≤ cap * 2 := Nat.mul_le_mul_right _ hle
    have hset : (xs ++ [(a, c)]).set xs.length (a, c') = xs ++ [(a, c')] := by simp
    rw [hset] at ho'
    refine WL.runU hg (fun q hq => ?_) (h w' ho' hgr)
    have hst2 := run_storeCells_at P b (off + xs.length * 2) e [Value.int .i64 a, .int .i64 c'] 0 cur w ho.blk (by simp; omega) (by simp [Value.oneCell'])
    have hst1 := run_storeCells_at P b (off + xs.length * 2 + 1) e [Value.int .i64 c'] 0 cur w ho.blk (by simp; omega) (by simp [Value.oneCell'])
    simp only [Nat.add_zero] at hst1 hst2
    have hrow : (cur.toList.take (off + xs.length * 2 + 1) ++ [Value.int .i64 c'] ++ cur.toList.drop (off + xs.length * 2 + 1 + 1)) = (cur.toList.take (off + xs.length * 2) ++ [Value.int .i64 a, .int .i64 c'] ++ cur.toList.drop (off + xs.length * 2 + 2)) := by
      have ha := hca 0 _ rfl
      rw [Nat.add_zero, cell_of_row w b _ cur e (0, 0) ho.blk] at ha
      have hlt : off + xs.length * 2 < cur.toList.length := by simp; omega
      rw [List.take_succ_eq_append_getElem hlt]
      have : cur.toList[off + xs.length * 2] = .int .i64 a := by
        have h2 : cur.toList[off + xs.length * 2]? = some (Value.int .i64 a) := by simpa using ha
        rw [List.getElem?_eq_getElem hlt] at h2
        exact Option.some.inj h2
      rw [this]
      simp
    have hw' : w' = w.setRow b (cur.toList.take (off + xs.length * 2) ++ [Value.int .i64 a, .int .i64 c'] ++ cur.toList.drop (off + xs.length * 2 + 2)).toArray := by
      have : (storeVar e ⟨b, off + xs.length * 2, none⟩ (.agg ([Value.int .i64 a] ++ [Value.int .i64 c']).toArray)).run P w = .ok () (w.setRow b (cur.toList.take (off + xs.length * 2) ++ [Value.int .i64 a, .int .i64 c'] ++ cur.toList.drop (off + xs.length * 2 + 2)).toArray) := by
        have hvc : (Value.agg ([Value.int .i64 a] ++ [Value.int .i64 c']).toArray).cells = [Value.int .i64 a, .int .i64 c'].toArray := rfl
        unfold storeVar
        rw [Sem.run_bind, run_sizeOf (α := Int × Int)]
        simp only [Result.andThen_ok, hvc]
        rw [if_neg (by simp [hsz])]
        exact hst2
      rw [this] at hr
      cases hr
      rfl
    obtain ⟨i, d, hi1, hi2, _, _⟩ := hc.ok
    simp only [execOp, hq.ev hx, hq.ev hy, Instr.storeAt, Sem.run_bind, Instr.sureAddr, Sem.run_pure, Result.andThen_ok, storeVar, sizeOf, typeInfo, run_program, hi1, hi2, Value.cells]
    rw [hw', ← hrow]
    simp
    simp at hst1
    rw [hst1]
    rfl
end

theorem asc_len {s : Ts} {M : Int} : ∀ (l : List Nat) (c : Int), c ≤ M → l.Pairwise (fun a b => s.nm a < s.nm b) → (∀ x ∈ l, c < s.nm x ∧ s.nm x ≤ M) → (l.length : Int) ≤ M - c
  | [], c, h, _, _ => by simp; omega
  | a :: l, c, h, hp, hb => by
    rw [List.pairwise_cons] at hp
    have ha := hb a (by simp)
    have := asc_len l (s.nm a) ha.2 hp.2 (fun x hx => ⟨hp.1 x hx, (hb x (by simp [hx])).2⟩)
    simp only [List.length_cons]
    omega
theorem TInv.count_le {g : Graph} {s : Ts} {fs : List Tf} (h : TInv g s fs) : s.count ≤ g.length := by have := h.cn; omega
theorem TInv.stk_len {g : Graph} {s : Ts} {fs : List Tf} (h : TInv g s fs) : (stk fs).length ≤ g.length := by
  have := asc_len (s := s) (M := s.count) (stk fs) 0 h.c0 h.asc (fun x hx => ⟨(h.vis x (h.inG x hx)).2 (.inl hx), h.top x (h.inG x hx)⟩)
  have := h.count_le
  omega
theorem fs_len : ∀ fs : List Tf, fs.length ≤ (stk fs).length
  | [] => by simp
  | f :: r => by
    have := fs_len r
    simp only [stk, List.length_append, List.length_cons]; omega
def pth : List Tf → List (Int × Int)
  | [] => []
  | f :: r => pth r ++ [((f.v : Int), (f.i : Int))]
theorem pth_len : ∀ fs : List Tf, (pth fs).length = fs.length
  | [] => rfl
  | f :: r => by simp [pth, pth_len r]
def wsum (g : Graph) : List Tf → Nat
  | [] => 0
  | f :: r => ((rowN g f.v).length - f.i + 1) + wsum g r
def visB (s : Ts) : List Bool := s.num.map fun x => decide (x ≠ 0)
def tpot (g : Graph) (s : Ts) (fs : List Tf) : Nat := pot g (visB s) + wsum g fs
theorem pot_begin {g : Graph} {s : Ts} {fs : List Tf} (h : TInv g s fs) {n : Nat} (hn : n < g.length) (h0 : s.nm n = 0) : pot g (visB (tBegin n s)) + (rowN g n).length + 1 = pot g (visB s) := by
  have hnl : n < s.num.length := by rw [h.ln]; exact hn
  have e : visB (tBegin n s) = (visB s).set n true := by
    unfold visB tBegin
    simp only
    rw [List.map_set]
    congr 1
    have := h.c0
    simp; omega
  have h1 := pot_set g (visB s) n hn (by simp [visB, h.ln]) (by
    have : s.num[n] = s.nm n := (getD_at hnl).symm
    unfold visB
    rw [List.getD_eq_getElem?_getD, List.getElem?_map, List.getElem?_eq_getElem hnl]
    simp [this, h0])
  rw [e]
  exact h1
theorem visB_low (s : Ts) (n : Nat) (x : Int) : visB (tLow n x s) = visB s := rfl
theorem visB_close (s : Ts) (D : List Nat) : visB (tClose D s) = visB s := rfl
theorem grow_vis {g : Graph} {s : Ts} {fs : List Tf} (h : TInv g s fs) {n k : Nat} (hn : n < g.length) (hk : 0 < s.nm k) : 0 < (tBegin n s).nm k := by
  rw [nm_begin (by rw [h.ln]; exact hn)]
  have := h.c0
  split <;> omega
/-- the pairs of the way keep from the search's blocks -/
def Apart (B b nb lb pb : Nat) (pV sV : Value) : Prop := ∀ k, pV.ownBlock = some k → ¬ tS b nb lb pb sV k

def lowUp (r : List Tf) (f : Tf) (s : Ts) : Ts := match r with
  | [] => s
  | h :: _ => tLow h.v (min (s.lw h.v) (s.lw f.v)) s
theorem visit_ok (w0 w : World) {b : Nat} {nV lV pV sV : Value} {nb lb pb : Nat} {s : Ts} {g : Graph} {F : Nat → Prop} {ao : Option Addr} {cap : Nat} {n : Nat} (hE : Ext w0 w) (hg : Sl w0 F ao cap g) (hF : ∀ b, F b → b < w0.heap.size) (hG : okG g) (hgl : g.length ≤ 1099511627776)
    (hM : TM w w0.heap.size b (.slice ao g.length cap) nV lV pV sV nb lb pb s (ints [])) (hI : TInv g s []) (hn : n < g.length) (h0 : s.nm n = 0) :
    Rt Try.prog 69 [.pointer (some ⟨b, 0, none⟩), .int .i64 n].toArray w fun _ w' => ∃ sV' s', TM w' w0.heap.size b (.slice ao g.length cap) nV lV pV sV' nb lb pb s' (ints []) ∧ TInv g s' [] ∧ Ext w0 w' ∧ (∀ k, 0 < s.nm k → 0 < s'.nm k) ∧ 0 < s'.nm n := by
  obtain ⟨hn1, hn2, hn3, hn4, hn5, hn6⟩ := hM.ne
  have hc := hI.count_le
  have hI1 := hI.root hG hn h0
  have hnl : n < s.num.length := by rw [hI.ln]; exact hn
  have hnl2 : n < s.low.length := by rw [hI.ll]; exact hn
  refine Rt.enter2 Try.func69 Try.ntmps69 rfl rfl ?_
  (repeat (first | (apply WL.pure; rfl; rfl; rfl) | (apply CW.seq) | (apply CW.region)))
  refine WL.build rfl rfl rfl rfl ?_
  skip
  refine WL.lit (α := Int × Int) (F := Non) (ys := [((n : Int), (0 : Int))]) rfl rfl rfl rfl rfl (.cons (Rd.mkPr (rd_mkInt _ _ _) (rd_mkInt _ _ _)) .nil) (by show 1 * 2 ≤ 16777216; decide) (fun _ h => h.elim) (fun w1 hp1 hg1 => ?_)
  have hE01 : Ext w w1 := (Ext.refl w).grown hg1 (Nat.le_refl _) (fun k h => by cases h)
  have hM1 := hM.ext hE01
  have hE1 := hE.trans hE01
  (repeat (first | (apply WL.pure; rfl; rfl; rfl) | (apply WL.nil) | (apply EX.thenN) | (apply CW.seq) | (apply CW.region)))
  refine WL.call rfl rfl rfl (begin_ok w1 hM1 (Nat.le_of_lt (Nat.lt_of_le_of_lt hM1.ge hM1.lts.1)) hnl hnl2 hI.c0 (by omega) (by simp [ints])) ?_
  rintro _ w2 ⟨sV2, hM2, hC2, hnb2⟩
  obtain ⟨l1, l2, l3, l4, l5, l6, l7, l8, l9⟩ := hM.lts
  have hpb : ∀ k, Value.ownBlock (.slice (some ⟨w.heap.size, 0, none⟩) 1 1) = some k → ¬ tS b nb lb pb sV k := by
    intro k hk
    have hk : w.heap.size = k := Option.some.inj hk
    rintro (h1 | h1 | h1 | h1 | h1)
    · omega
    · omega
    · omega
    · omega
    · have := l5 _ h1; omega
  have hS2 : ∀ k, tS b nb lb pb sV k → w0.heap.size ≤ k := by
    rintro k (rfl | rfl | rfl | rfl | h1)
    · exact hM.ge
    · exact l6
    · exact l7
    · exact l8
    · exact l9 _ h1
  have hE2 : Ext w0 w2 := Chg.ext hE1 hC2 hS2
  have hp2 := hp1.chg hC2 hpb
  have hap2 : Apart w0.heap.size b nb lb pb (.slice (some ⟨w.heap.size, 0, none⟩) 1 1) sV2 := by
    intro k hk
    rintro (h1 | h1 | h1 | h1 | h1)
    · exact hpb k hk (.inl h1)
    · exact hpb k hk (.inr (.inl h1))
    · exact hpb k hk (.inr (.inr (.inl h1)))
    · exact hpb k hk (.inr (.inr (.inr (.inl h1))))
    · rcases hnb2 k h1 with h2 | h2
      · exact hpb k hk (.inr (.inr (.inr (.inr h2))))
      · have hk : w.heap.size = k := Option.some.inj hk
        have : w.heap.size < w1.heap.size := (hp1.lt _ rfl).2.1
        omega
  (repeat (first | (apply WL.nil) | (apply EX.thenN) | (apply CW.block)))
  refine CW.loop (S := Ts × List Tf × Value × Value) (fun x => [(0, .pointer (some ⟨b, 0, none⟩)), (4, x.2.2.1)])
    (fun x w' => TInv g x.1 x.2.1 ∧ TM w' w0.heap.size b (.slice ao g.length cap) nV lV pV x.2.2.2 nb lb pb x.1 (ints (stk x.2.1)) ∧ Own w' w0.heap.size 104 Non x.2.2.1 (pth x.2.1) ∧ Apart w0.heap.size b nb lb pb x.2.2.1 x.2.2.2 ∧ Ext w0 w' ∧ (∀ k, 0 < s.nm k → 0 < x.1.nm k) ∧ 0 < x.1.nm n)
    (fun x => tpot g x.1 x.2.1) (tBegin n s, [⟨n, 0, []⟩], _, sV2) (by repeat (first | exact trivial | refine ⟨rfl, ?_⟩)) ⟨hI1, by simpa [ints, stk] using hM2, by simpa [pth] using hp2.low hE.size, hap2, hE2, fun k hk => grow_vis hI hn hk, ?_⟩ ?_
  · rw [nm_begin hnl, if_pos rfl]; have := hI.c0; omega
  clear hp2 hp1 hM2 hM1 hC2 hnb2 hE2 hE1 hE01 hI1 hap2 hpb hS2
  rintro ⟨s1, fs, wV, tV⟩ w3 ⟨hI, hM, hP, hap, hE3, hmo, hvn⟩
  dsimp only at hI hM hP hap hmo hvn
  (repeat (first | (apply WL.pure; rfl; rfl; rfl) | (apply WL.nil) | (apply EX.thenN) | (apply CW.seq) | (apply CW.region) | (refine WL.lenO rfl rfl rfl (by assumption) ?_)))
  refine CW.cond rfl (fun hc0 => ?_) (fun hc0 => ?_)
  · obtain ⟨f, r, rfl⟩ : ∃ f r, fs = f :: r := by
      cases fs with
      | nil => simp [pth] at hc0
      | cons f r => exact ⟨f, r, rfl⟩
    clear hc0
    have hstl := hI.stk_len
    have hfl := fs_len (f :: r)
    have hplen := pth_len r
    have hfv := hI.fin
    have hFr := hI.frs f (by simp)
    have hfi := hFr.i
    have hcle := hI.count_le
    have hgot := hI.gn
    have hg0 := hI.g0
    have hcc0 := hI.c0
    have hg3 : Sl w3 F ao cap g := hg.mono (fun b hb => hE3.block b (hF b hb)) fun _ h => h
    have hF3 : ∀ b, F b → b < w3.heap.size := fun b hb => Nat.lt_of_lt_of_le (hF b hb) hE3.size
    have hrowg : rowN g f.v = g[f.v] := by unfold rowN; rw [List.getD_eq_getElem?_getD, List.getElem?_eq_getElem hfv]; rfl
    have hP0 : Own w3 w0.heap.size 104 Non wV (pth r ++ [((f.v : Int), (f.i : Int))]) := hP
    obtain ⟨pk, off, pc, rfl, hpge, hplt, hpob, hca, hcb, cur, hcur, hcurs⟩ := hP0.top
    have hb := hM.blk
    have hpl1 : (pth r ++ [((f.v : Int), (f.i : Int))]).length = (pth r).length + 1 := by simp
    simp only [List.length_cons] at hfl
    (repeat (first | (apply WL.sub'; rfl; rfl; rfl; rfl; omega; omega) | (apply WL.pure; rfl; rfl; rfl) | (apply EX.thenN) | (apply CW.seq) | (apply CW.region) | (apply WL.lenS; rfl; rfl; rfl) | (apply CW.block) | (apply CW.skip)))
    refine WL.idx (α := Int × Int) rfl rfl rfl rfl (by omega) (by omega) ?_
    have eoff : (((((pth r).length + 1 : Nat) : Int)) - 1).toNat * sz (Int × Int) = (pth r).length * 2 := by
      have : (((((pth r).length + 1 : Nat) : Int)) - 1).toNat = (pth r).length := by omega
      rw [this]; rfl
    rw [eoff]
    (repeat (first | (apply WL.pure; rfl; rfl; rfl) | (apply QL.pure; rfl; rfl; rfl) | (apply WL.nil) | (apply EX.thenN) | (apply CW.seq) | (apply QL.fa; rfl; rfl; rfl) | (apply QL.nck; rfl; rfl; rfl) | (apply CW.draw; exact mixed; kernel_rfl)))
    refine QL.load (α := Int) (F := Non) rfl rfl rfl hplt (fun _ h => h.elim) hcb (rd_mkInt _ _ _) ?_
    (repeat (first | (apply QL.pure; rfl; rfl; rfl) | (apply QL.fa; rfl; rfl; rfl) | (apply QL.nck; rfl; rfl; rfl) | (apply QL.ld; rfl; rfl; rfl; assumption; rfl)))
    refine QL.load (α := Int) (F := Non) rfl rfl rfl hplt (fun _ h => h.elim) hca (rd_mkInt _ _ _) ?_
    skip
    refine QL.elemN rfl rfl rfl rfl rfl hF3 hg3 hfv (fun _ => rfl) (fun u q hu => ?_)
    obtain ⟨ro, rc, rfl, hrow⟩ := hu.sl
    have hrl := hrow.len63
    (repeat (first | (apply QL.pure; rfl; rfl; rfl) | (apply QL.lenS; rfl; rfl; rfl)))
    refine QL.nil (fun w4 hE4 => ?_)
    (repeat (apply EX.thenN))
    refine CW.cond rfl (fun hlt => ?_) (fun hlt => ?_)
    · have hi : f.i < (rowN g f.v).length := by rw [hrowg]; simpa [vOf] using hlt
      have hil : f.i < g[f.v].length := by rw [← hrowg]; exact hi
      have hwr := hG _ (List.getElem_mem hfv) _ (List.getElem_mem hil)
      obtain ⟨to, eto⟩ := Int.eq_ofNat_of_zero_le hwr.1
      have hto : to < g.length := by omega
      have erow : (rowN g f.v)[f.i] = (to : Int) := by simp only [hrowg]; exact eto
      have hM4 := hM.ext hE4
      have hP4 := hP0.extN hE4
      have hb4 := hM4.blk
      have hca4 : Cells w4 pk (off + (pth r).length * 2) [Value.int .i64 (f.v : Int)] := hca.mono (hE4.block pk hplt)
      have hcb4 : Cells w4 pk (off + (pth r).length * 2 + 1) [Value.int .i64 (f.i : Int)] := hcb.mono (hE4.block pk hplt)
      have hplt4 : pk < w4.heap.size := Nat.lt_of_lt_of_le hplt hE4.size
      have hE04 := hE3.trans hE4
      have hg4 : Sl w4 F ao cap g := hg.mono (fun b hb => hE04.block b (hF b hb)) fun _ h => h
      have hF4 : ∀ b, F b → b < w4.heap.size := fun b hb => Nat.lt_of_lt_of_le (hF b hb) hE04.size
      clear hM hP hP0 hb hca hcb hg3 hF3 hE3 hrow
      (repeat (first | (apply QL.pure; rfl; rfl; rfl) | (apply CW.seq) | (apply QL.fa; rfl; rfl; rfl) | (apply QL.nck; rfl; rfl; rfl) | (apply QL.ld; rfl; rfl; rfl; assumption; rfl) | (apply CW.draw; exact mixed; kernel_rfl)))
      refine QL.load (α := Int) (F := Non) rfl rfl rfl hplt4 (fun _ h => h.elim) hca4 (rd_mkInt _ _ _) ?_
      skip
      refine QL.elemN rfl rfl rfl rfl rfl hF4 hg4 hfv (fun _ => rfl) (fun u q hu => ?_)
      obtain ⟨ro2, rc2, rfl, hrow4⟩ := hu.sl
      (repeat (first | (apply QL.pure; rfl; rfl; rfl) | (apply QL.fa; rfl; rfl; rfl) | (apply QL.nck; rfl; rfl; rfl)))
      refine QL.load (α := Int) (F := Non) rfl rfl rfl hplt4 (fun _ h => h.elim) hcb4 (rd_mkInt _ _ _) ?_
      skip
      refine QL.elemI rfl rfl rfl rfl rfl hF4 hrow4 hil eto (fun _ => rfl) (fun q => ?_)
      (repeat (apply QL.pure; rfl; rfl; rfl))
      refine QL.nil (fun w5 hE5 => ?_)
      have hM5 := hM4.ext hE5
      have hP5 := hP4.extN hE5
      have hb5 := hM5.blk
      have hca5 : Cells w5 pk (off + (pth r).length * 2) [Value.int .i64 (f.v : Int)] := hca4.mono (hE5.block pk hplt4)
      have hcb5 : Cells w5 pk (off + (pth r).length * 2 + 1) [Value.int .i64 (f.i : Int)] := hcb4.mono (hE5.block pk hplt4)
      have hE05 := hE04.trans hE5
      have hplt5 : pk < w5.heap.size := Nat.lt_of_lt_of_le hplt4 hE5.size
      have hmaxr : f.i + 1 < 9223372036854775808 := by omega
      clear hM4 hP4 hb4 hca4 hcb4 hg4 hF4 hE04 hrow4
      (repeat (first | (apply WL.pure; rfl; rfl; rfl) | (apply EX.thenN) | (apply CW.seq) | (apply CW.region) | (apply WL.fa; rfl; rfl; rfl) | (apply WL.nck; rfl; rfl; rfl)))
      refine WL.load (α := Int) (F := Non) rfl rfl rfl hcb5 (rd_mkInt _ _ _) ?_
      (repeat (first | (apply WL.add; rfl; rfl; rfl; rfl; omega; omega) | (apply WL.fa; rfl; rfl; rfl) | (apply WL.nck; rfl; rfl; rfl)))
      refine WL.stTop (xs := pth r) (c' := ((f.i + 1 : Nat) : Int)) rfl rfl rfl hP5 (fun w6 hP6 hg6 => ?_)
      have hapk := hap pk hpob
      have hM6 := hM5.off hg6 (fun k hk => by cases hk; exact hapk)
      have hb6 := hM6.blk
      have hE06 : Ext w0 w6 := hE05.grown hg6 hE05.size (fun k hk => by cases hk; exact hpge)
      have hpge6 : pk < w6.heap.size := Nat.lt_of_lt_of_le hplt5 hg6.size
      have hnumto : to < s1.num.length := by rw [hI.ln]; exact hto
      have hlowto : to < s1.low.length := by rw [hI.ll]; exact hto
      have hpartto : to < s1.part.length := by rw [hI.lp]; exact hto
      have enum : s1.num[to] = s1.nm to := (getD_at hnumto).symm
      have epart : s1.part[to] = s1.pt to := (getD_at hpartto).symm
      have hP6' : Own w6 w0.heap.size 104 Non (.slice (some ⟨pk, off, none⟩) ((pth r).length + 1) pc) (pth (⟨f.v, f.i + 1, f.seg⟩ :: r)) := by simpa [pth] using hP6
      clear hM5 hP5 hb5 hca5 hcb5 hE05
      (repeat (first | (apply WL.pure; rfl; rfl; rfl) | (apply WL.nil) | (apply EX.thenN) | (apply CW.seq) | (apply CW.region) | (apply WL.fa; rfl; rfl; rfl) | (apply WL.nck; rfl; rfl; rfl) | (apply WL.ld; rfl; rfl; rfl; assumption; rfl) | (apply CW.block)))
      refine WL.elemON rfl rfl rfl rfl rfl hM6.num hnumto (fun _ => rfl) (fun u q hu => ?_)
      obtain rfl := hu.int
      rw [enum]
      (repeat (first | (apply WL.pure; rfl; rfl; rfl) | (apply WL.nil) | (apply EX.thenN)))
      refine CW.cond rfl (fun hz => ?_) (fun hz => ?_)
      · have hz : s1.nm to = 0 := by simpa using hz
        (repeat (first | (apply WL.pure; rfl; rfl; rfl) | (apply CW.seq) | (apply CW.region)))
        refine WL.call rfl rfl rfl (begin_ok w6 hM6 hE06.size hnumto hlowto hcc0 (by omega) (by simp only [ints, List.length_map]; omega)) ?_
        rintro _ w7 ⟨tV7, hM7, hC7, hnb7⟩
        have hS7 : ∀ k, tS b nb lb pb tV k → w0.heap.size ≤ k := by
          obtain ⟨l1, l2, l3, l4, l5, l6, l7, l8, l9⟩ := hM6.lts
          rintro k (rfl | rfl | rfl | rfl | h1)
          · exact hM6.ge
          · exact l6
          · exact l7
          · exact l8
          · exact l9 _ h1
        have hE07 : Ext w0 w7 := Chg.ext hE06 hC7 hS7
        have hP7 := hP6'.chg hC7 hap
        have hap7 : Apart w0.heap.size b nb lb pb (.slice (some ⟨pk, off, none⟩) ((pth r).length + 1) pc) tV7 := by
          intro k hk
          rintro (h1 | h1 | h1 | h1 | h1)
          · exact hap k hk (.inl h1)
          · exact hap k hk (.inr (.inl h1))
          · exact hap k hk (.inr (.inr (.inl h1)))
          · exact hap k hk (.inr (.inr (.inr (.inl h1))))
          · rcases hnb7 k h1 with h2 | h2
            · exact hap k hk (.inr (.inr (.inr (.inr h2))))
            · have := (hP6'.lt k hk).2.1
              omega
        (repeat (first | (apply WL.pure; rfl; rfl; rfl) | (apply WL.nil) | (apply EX.thenN) | (apply CW.region)))
        refine WL.build rfl rfl rfl rfl ?_
        skip
        refine WL.app1 (α := Int × Int) (F := Non) (yv := ((to : Int), (0 : Int))) rfl rfl (fun _ => rfl) rfl rfl (fun _ => rfl) hP7 (Rd.mkPr (rd_mkInt _ _ _) (rd_mkInt _ _ _)) hE07.size (fun _ h => h.elim) (by decide) (by simp only [pth, List.length_append, List.length_singleton]; unfold maxLen; omega) (by simp only [pth, List.length_append, List.length_singleton]; omega) (fun pV8 w8 p hP8 hg8 hnb8 => ?_)
        have hM8 := hM7.off hg8 (fun k hk => hap7 k hk)
        have hE08 : Ext w0 w8 := hE07.grown hg8 hE07.size (fun k hk => (hP7.lt k hk).1)
        have hap8 : Apart w0.heap.size b nb lb pb pV8 tV7 := by
          intro k hk
          rcases hnb8 k hk with h1 | h1
          · exact hap7 k h1
          · obtain ⟨l1, l2, l3, l4, l5, l6, l7, l8, l9⟩ := hM7.lts
            rintro (h2 | h2 | h2 | h2 | h2)
            · omega
            · omega
            · omega
            · omega
            · have := l5 _ h2; omega
        have hpotb := pot_begin hI hto hz
        (repeat (first | (apply WL.pure; rfl; rfl; rfl) | (apply WL.nil) | (apply EX.thenN) | (apply EX.inN) | (apply CW.exit) | (apply EX.thenX) | (apply EX.inX)))
        refine EX.back (tBegin to s1, ⟨to, 0, []⟩ :: ⟨f.v, f.i + 1, f.seg⟩ :: r, pV8, tV7) (by repeat (first | exact trivial | refine ⟨rfl, ?_⟩)) ⟨hI.tree hG hi hto erow hz, ?_, by simpa [pth] using hP8, hap8, hE08, fun k hk => grow_vis hI hto (hmo k hk), grow_vis hI hto hvn⟩ ?_
        · have e : ints (stk (⟨to, 0, []⟩ :: ⟨f.v, f.i + 1, f.seg⟩ :: r)) = ints (stk (f :: r)) ++ [(to : Int)] := by simp [stk, ints]
          dsimp only
          rw [e]
          exact hM8
        · show tpot g (tBegin to s1) _ < tpot g s1 _
          simp only [tpot, wsum]; omega
      · have hz : s1.nm to ≠ 0 := by simpa using hz
        (repeat (first | (apply WL.pure; rfl; rfl; rfl) | (apply CW.seq) | (apply CW.region) | (apply WL.fa; rfl; rfl; rfl) | (apply WL.nck; rfl; rfl; rfl) | (apply WL.ld; rfl; rfl; rfl; assumption; rfl)))
        refine WL.elemON rfl rfl rfl rfl rfl hM6.part hpartto (fun _ => rfl) (fun u q hu => ?_)
        obtain rfl := hu.int
        rw [epart]
        (repeat (first | (apply WL.pure; rfl; rfl; rfl) | (apply WL.nil) | (apply EX.thenN)))
        refine CW.cond rfl (fun hp0 => ?_) (fun hp0 => ?_)
        · have hp0 : s1.pt to < 0 := by simpa using hp0
          skip
          have hfvl : f.v < s1.low.length := by rw [hI.ll]; exact hfv
          have elow : s1.low[f.v] = s1.lw f.v := (getD_at hfvl).symm
          have hMd := hM6.ext (Ext.drew w6)
          have hbd := hMd.blk
          have hcad : Cells (drew w6) pk (off + (pth r).length * 2) [Value.int .i64 (f.v : Int)] := by
            obtain ⟨b', o', c', he, _, _, _, h1, _, _⟩ := (hP6.extN (Ext.drew w6)).top
            obtain ⟨h2, _, _⟩ := Value.slice.inj he
            simp only [Option.some.injEq, Addr.mk.injEq] at h2
            obtain ⟨rfl, rfl, _⟩ := h2
            exact h1
          have hSE : ∀ w7, (fun x => x = drew w6) w7 → Ext (drew w6) w7 := fun _ h => h ▸ Ext.refl _
          obtain ⟨lO, lC, hlv, hlsl⟩ := hMd.low.oldN.sl
          obtain ⟨nO, nC, hnv, hnsl⟩ := hMd.num.oldN.sl
          have hbd' := hbd
          rw [hlv, hnv] at hbd'
          refine CW.drawE (fun x => x = drew w6) [(0, true), (1, true), (2, true), (3, true), (4, true), (5, true), (6, true), (7, true), (8, true), (9, true), (10, true), (11, true), (12, true), (13, true), (14, true), (15, true), (16, true), (17, true), (18, true), (19, true), (20, true), (21, true), (22, true), (23, true), (24, true), (25, false), (26, true)] 27 mixed (by kernel_rfl) rfl ?_
          clear hbd
          (repeat (first | (apply HL.pure; rfl; rfl; rfl; rfl) | (refine HL.fa rfl rfl rfl rfl ?_) | (apply HL.nck; rfl; rfl; rfl; rfl) | (refine HL.ld (by assumption) rfl rfl rfl rfl (by assumption) rfl ?_)))
          refine HL.load (α := Int) (F := Non) hSE rfl rfl rfl rfl hpge6 (fun _ h => h.elim) hcad (rd_mkInt _ _ _) ?_
          (repeat (first | (apply HL.pure; rfl; rfl; rfl; rfl) | (refine HL.fa rfl rfl rfl rfl ?_) | (apply HL.nck; rfl; rfl; rfl; rfl) | (refine HL.ld (by assumption) rfl rfl rfl rfl (by assumption) rfl ?_)))
          refine HL.load (α := Int) (F := Non) hSE rfl rfl rfl rfl hpge6 (fun _ h => h.elim) hcad (rd_mkInt _ _ _) ?_
          skip
          refine HL.elemN hSE rfl rfl rfl rfl rfl rfl rfl (fun _ h => h) hlsl hfvl (fun _ => rfl) (fun u q hu => ?_)
          obtain rfl := hu.int
          rw [elow]
          (repeat (first | (apply HL.pure; rfl; rfl; rfl; rfl) | (refine HL.fa rfl rfl rfl rfl ?_) | (apply HL.nck; rfl; rfl; rfl; rfl) | (refine HL.ld (by assumption) rfl rfl rfl rfl (by assumption) rfl ?_)))
          refine HL.elemN hSE rfl rfl rfl rfl rfl rfl rfl (fun _ h => h) hnsl hnumto (fun _ => rfl) (fun u q hu => ?_)
          obtain rfl := hu.int
          rw [enum]
          skip
          refine HL.mut rfl (WL.min2 rfl rfl rfl rfl (WL.nil (EX.mut rfl ?_)))
          have hlowd := hMd.low
          rw [hlv] at hlowd
          refine HL.setTail (u := .int .i64 (min (s1.lw f.v) (s1.nm to))) (yv := min (s1.lw f.v) (s1.nm to)) rfl rfl rfl rfl rfl rfl hlowd hfvl (fun _ => rfl) (fun _ => rfl) (Rd.mkInt _ _ _) (fun w7 q hlow7 hg7 => ?_)
          rw [← hlv] at hlow7 hg7
          have hE07 : Ext w0 w7 := (hE06.trans (Ext.drew w6)).grown hg7 (Nat.le_trans hE06.size (Nat.le_refl _)) (fun k hk => (hMd.low.lt k hk).1)
          have hM7 : TM w7 w0.heap.size b (.slice ao g.length cap) nV lV pV tV nb lb pb (tLow f.v (min (s1.lw f.v) (s1.nm to)) s1) (ints (stk (f :: r))) := by
            refine ⟨hMd.blk.kept hg7 (fun e => by rw [hM6.hlb] at e; cases e; exact hn5 rfl), hMd.num.keptN hg7 (fun g hg e => by rw [hM6.hnb] at hg; rw [hM6.hlb] at e; cases hg; cases e; exact hn1 rfl), hlow7, hMd.part.keptN hg7 (fun g hg e => by rw [hM6.hpb] at hg; rw [hM6.hlb] at e; cases hg; cases e; exact hn3 rfl), hMd.stk.keptN hg7 (fun g hg e => by rw [hM6.hlb] at e; cases e; exact (hM6.sne _ hg).2.1 rfl), hM6.ge, hM6.hnb, hM6.hlb, hM6.hpb, hM6.ne, hM6.sne⟩
          have hP7 := (hP6'.extN (Ext.drew w6)).keptN hg7 (fun g hg e => by rw [hM6.hlb] at e; cases e; exact hap _ hg (.inr (.inr (.inl rfl))))
          (repeat (first | (apply EX.thenN) | (apply EX.inN) | (apply CW.exit) | (apply EX.thenX) | (apply EX.inX)))
          refine EX.back (tLow f.v (min (s1.lw f.v) (s1.nm to)) s1, ⟨f.v, f.i + 1, f.seg⟩ :: r, _, tV) (by repeat (first | exact trivial | refine ⟨rfl, ?_⟩)) ⟨hI.back hi hto erow hz hp0, hM7, hP7, hap, hE07, hmo, hvn⟩ ?_
          show tpot g (tLow f.v (min (s1.lw f.v) (s1.nm to)) s1) _ < tpot g s1 _
          simp only [tpot, wsum, visB_low]; omega
        · have hp0 : 0 ≤ s1.pt to := by simpa using hp0
          (repeat (first | (apply EX.thenN) | (apply EX.inN) | (apply CW.exit) | (apply EX.thenX) | (apply EX.inX) | (apply CW.skip)))
          refine EX.back (s1, ⟨f.v, f.i + 1, f.seg⟩ :: r, _, tV) (by repeat (first | exact trivial | refine ⟨rfl, ?_⟩)) ⟨hI.shut hi hto erow hp0, hM6, hP6', hap, hE06, hmo, hvn⟩ ?_
          show tpot g s1 _ < tpot g s1 _
          simp only [tpot, wsum]; omega
    · have hi : f.i = (rowN g f.v).length := by
        have : ¬ f.i < g[f.v].length := by simpa [vOf] using hlt
        rw [hrowg] at hfi ⊢; omega
      have hM4 := hM.ext hE4
      have hP4 := hP0.extN hE4
      have hca4 : Cells w4 pk (off + (pth r).length * 2) [Value.int .i64 (f.v : Int)] := hca.mono (hE4.block pk hplt)
      have hE04 := hE3.trans hE4
      clear hM hP hb hca hcb hg3 hF3 hE3 hrow
      (repeat (first | (apply WL.pure; rfl; rfl; rfl) | (apply EX.thenN) | (apply CW.seq) | (apply CW.region) | (apply WL.fa; rfl; rfl; rfl) | (apply WL.nck; rfl; rfl; rfl) | (apply CW.skip)))
      refine WL.load (α := Int) (F := Non) rfl rfl rfl hca4 (rd_mkInt _ _ _) ?_
      (repeat (first | (apply WL.sub'; rfl; rfl; rfl; rfl; omega; omega) | (apply WL.pure; rfl; rfl; rfl) | (apply WL.nil) | (apply EX.thenN) | (apply CW.seq) | (apply CW.region) | (apply WL.lenS; rfl; rfl; rfl)))
      refine WL.cutHiO (α := Int × Int) (pth r).length (by omega) rfl rfl rfl rfl hP4 (by omega) (fun pV5 hP5 hpb5 => ?_)
      rw [show (pth r ++ [((f.v : Int), (f.i : Int))]).take (pth r).length = pth r by simp] at hP5
      have hap5 : Apart w0.heap.size b nb lb pb pV5 tV := fun k hk => hap k (by rw [← hpb5]; exact hk)
      have hfvl : f.v < s1.low.length := by rw [hI.ll]; exact hfv
      have hfvn : f.v < s1.num.length := by rw [hI.ln]; exact hfv
      have hP4l : (pth r).length ≤ 1099511627776 := by omega
      (repeat (apply WL.pure; rfl; rfl; rfl))
      apply WL.nil
      apply EX.thenN
      refine CW.cutI (S := Unit) (fun _ => [(0, .pointer (some ⟨b, 0, none⟩)), (4, pV5), (7, .int .i64 (f.v : Int))])
        (fun _ w' => TM w' w0.heap.size b (.slice ao g.length cap) nV lV pV tV nb lb pb (lowUp r f s1) (ints (stk (f :: r))) ∧ Own w' w0.heap.size 104 Non pV5 (pth r) ∧ Ext w0 w') ?_ ?_
      · (repeat (first | (apply WL.pure; rfl; rfl; rfl) | (apply WL.nil) | (apply EX.thenN) | (apply CW.seq) | (apply CW.region) | (refine WL.lenO rfl rfl rfl (by assumption) ?_)))
        refine CW.cond rfl (fun hr0 => ?_) (fun hr0 => ?_)
        · obtain ⟨h, r', rfl⟩ : ∃ h r', r = h :: r' := by
            cases r with
            | nil => simp [pth] at hr0
            | cons h r' => exact ⟨h, r', rfl⟩
          have hhv : h.v < g.length := hI.inG h.v (by rw [mem_stk, mem_stk]; exact .inl (.inr (.inl rfl)))
          have hhvl : h.v < s1.low.length := by rw [hI.ll]; exact hhv
          have elh : s1.low[h.v] = s1.lw h.v := (getD_at hhvl).symm
          have elf : s1.low[f.v] = s1.lw f.v := (getD_at hfvl).symm
          have hP5' : Own w4 w0.heap.size 104 Non pV5 (pth r' ++ [((h.v : Int), (h.i : Int))]) := hP5
          obtain ⟨pk2, off2, pc2, hpv, hpge2, hplt2, hpob2, hcaH, hcbH, _⟩ := hP5'.top
          subst hpv
          have hplr : (pth r').length + 1 ≤ 1099511627776 := by simpa [pth] using hP4l
          (repeat (first | (apply WL.sub'; rfl; rfl; rfl; rfl; omega; omega) | (apply WL.pure; rfl; rfl; rfl) | (apply CW.seq) | (apply CW.region) | (apply WL.lenS; rfl; rfl; rfl)))
          refine WL.idx (α := Int × Int) rfl rfl rfl rfl (by omega) (by omega) ?_
          have eoff2 : (((((pth r').length + 1 : Nat) : Int)) - 1).toNat * sz (Int × Int) = (pth r').length * 2 := by
            have : (((((pth r').length + 1 : Nat) : Int)) - 1).toNat = (pth r').length := by omega
            rw [this]; rfl
          rw [eoff2]
          (repeat (apply WL.fa; rfl; rfl; rfl))
          refine WL.load (α := Int) (F := Non) rfl rfl rfl hcaH (rd_mkInt _ _ _) ?_
          (repeat (first | (apply WL.pure; rfl; rfl; rfl) | (apply WL.nil) | (apply EX.thenN)))
          have hMd := hM4.ext (Ext.drew w4)
          have hbd := hMd.blk
          have hSE : ∀ w7, (fun x => x = drew w4) w7 → Ext (drew w4) w7 := fun _ h => h ▸ Ext.refl _
          obtain ⟨lO, lC, hlv, hlsl⟩ := hMd.low.oldN.sl
          have hbd' := hbd
          rw [hlv] at hbd'
          refine CW.drawE (fun x => x = drew w4) [(0, true), (1, true), (2, true), (3, true), (4, true), (5, true), (6, true), (7, true), (8, true), (9, true), (10, true), (11, true), (12, true), (13, true), (14, true), (15, true), (16, true), (17, true), (18, true), (19, false), (20, true)] 21 mixed (by kernel_rfl) rfl ?_
          clear hbd
          (repeat (first | (apply HL.pure; rfl; rfl; rfl; rfl) | (refine HL.fa rfl rfl rfl rfl ?_) | (apply HL.nck; rfl; rfl; rfl; rfl) | (refine HL.ld (by assumption) rfl rfl rfl rfl (by assumption) rfl ?_)))
          refine HL.elemN hSE rfl rfl rfl rfl rfl rfl rfl (fun _ h => h) hlsl hhvl (fun _ => rfl) (fun u q hu => ?_)
          obtain rfl := hu.int
          rw [elh]
          (repeat (first | (apply HL.pure; rfl; rfl; rfl; rfl) | (refine HL.fa rfl rfl rfl rfl ?_) | (apply HL.nck; rfl; rfl; rfl; rfl) | (refine HL.ld (by assumption) rfl rfl rfl rfl (by assumption) rfl ?_)))
          refine HL.elemN hSE rfl rfl rfl rfl rfl rfl rfl (fun _ h => h) hlsl hfvl (fun _ => rfl) (fun u q hu => ?_)
          obtain rfl := hu.int
          rw [elf]
          skip
          refine HL.mut rfl (WL.min2 rfl rfl rfl rfl (WL.nil (EX.mut rfl ?_)))
          have hlowd := hMd.low
          rw [hlv] at hlowd
          refine HL.setTail (u := .int .i64 (min (s1.lw h.v) (s1.lw f.v))) (yv := min (s1.lw h.v) (s1.lw f.v)) rfl rfl rfl rfl rfl rfl hlowd hhvl (fun _ => rfl) (fun _ => rfl) (Rd.mkInt _ _ _) (fun w7 q hlow7 hg7 => ?_)
          rw [← hlv] at hlow7 hg7
          have hE07 : Ext w0 w7 := (hE04.trans (Ext.drew w4)).grown hg7 (Nat.le_trans hE04.size (Nat.le_refl _)) (fun k hk => (hMd.low.lt k hk).1)
          have hM7 : TM w7 w0.heap.size b (.slice ao g.length cap) nV lV pV tV nb lb pb (lowUp (h :: r') f s1) (ints (stk (f :: h :: r'))) := by
            refine ⟨hMd.blk.kept hg7 (fun e => by rw [hM4.hlb] at e; cases e; exact hn5 rfl), hMd.num.keptN hg7 (fun g hg e => by rw [hM4.hnb] at hg; rw [hM4.hlb] at e; cases hg; cases e; exact hn1 rfl), hlow7, hMd.part.keptN hg7 (fun g hg e => by rw [hM4.hpb] at hg; rw [hM4.hlb] at e; cases hg; cases e; exact hn3 rfl), hMd.stk.keptN hg7 (fun g hg e => by rw [hM4.hlb] at e; cases e; exact (hM4.sne _ hg).2.1 rfl), hM4.ge, hM4.hnb, hM4.hlb, hM4.hpb, hM4.ne, hM4.sne⟩
          have hP7 := (hP5.extN (Ext.drew w4)).keptN hg7 (fun g hg e => by rw [hM4.hlb] at e; cases e; exact hap5 _ hg (.inr (.inr (.inl rfl))))
          skip
          exact EX.cutI () (by repeat (first | exact trivial | refine ⟨rfl, ?_⟩)) ⟨hM7, hP7, hE07⟩
        · have hr0 : r = [] := by
            have : (pth r).length = 0 := by simp at hr0; simp [hr0]
            rw [pth_len] at this
            exact List.eq_nil_of_length_eq_zero this
          subst hr0
          (repeat (apply CW.skip))
          exact EX.cutI () (by repeat (first | exact trivial | refine ⟨rfl, ?_⟩)) ⟨hM4, hP5, hE04⟩
      rintro _ w7 ⟨hM7, hP7, hE07⟩
      have elw : (lowUp r f s1).lw f.v = s1.lw f.v := by
        cases r with
        | nil => rfl
        | cons h r' => exact hI.pass
      have hlen7 : (lowUp r f s1).low.length = s1.low.length := by cases r <;> simp [lowUp, tLow]
      have enm7 : (lowUp r f s1).num = s1.num := by cases r <;> rfl
      have hfv7 : f.v < (lowUp r f s1).low.length := by rw [hlen7]; exact hfvl
      have el7 : (lowUp r f s1).low[f.v] = s1.lw f.v := by rw [← elw]; exact (getD_at hfv7).symm
      have hfn7 : f.v < (lowUp r f s1).num.length := by rw [enm7]; exact hfvn
      have en7 : (lowUp r f s1).num[f.v] = s1.nm f.v := by
        have : (lowUp r f s1).nm f.v = s1.nm f.v := by unfold Ts.nm; rw [enm7]
        rw [← this]; exact (getD_at hfn7).symm
      obtain ⟨lO, lC, hlv, hlsl⟩ := hM7.low.oldN.sl
      obtain ⟨nO, nC, hnv, hnsl⟩ := hM7.num.oldN.sl
      have hb7 := hM7.blk
      rw [hlv, hnv] at hb7
      (repeat (first | (apply QL.pure; rfl; rfl; rfl) | (apply CW.seq) | (apply QL.fa; rfl; rfl; rfl) | (apply QL.nck; rfl; rfl; rfl) | (apply QL.ld; rfl; rfl; rfl; assumption; rfl) | (apply CW.draw; exact mixed; kernel_rfl)))
      refine QL.elemI rfl rfl rfl rfl rfl (fun _ h => h) hlsl hfv7 el7 (fun _ => rfl) (fun q => ?_)
      (repeat (first | (apply QL.pure; rfl; rfl; rfl) | (apply QL.fa; rfl; rfl; rfl) | (apply QL.nck; rfl; rfl; rfl) | (apply QL.ld; rfl; rfl; rfl; assumption; rfl)))
      refine QL.elemI rfl rfl rfl rfl rfl (fun _ h => h) hnsl hfn7 en7 (fun _ => rfl) (fun q => ?_)
      (repeat (apply QL.pure; rfl; rfl; rfl))
      refine QL.nil (fun w8 hE8 => ?_)
      have hM8 := hM7.ext hE8
      have hP8 := hP7.extN hE8
      have hE08 := hE07.trans hE8
      (repeat (apply EX.thenN))
      refine CW.cond rfl (fun heq => ?_) (fun heq => ?_)
      · have heq : s1.lw f.v = s1.nm f.v := by simpa using heq
        have els : lowUp r f s1 = s1 := by
          cases r with
          | nil => rfl
          | cons h r' => exact hI.keepLow heq
        rw [els] at hM8
        have hT := hI.close hG hi heq
        have hnd := hI.nodup
        rw [show stk (f :: r) = stk r ++ f.v :: f.seg from rfl] at hnd hM8
        (repeat (first | (apply WL.pure; rfl; rfl; rfl) | (apply CW.region)))
        refine WL.call rfl rfl rfl (close_ok w8 hM8 (List.nodup_append.1 hnd).2.1 (fun x hx => by rw [hI.lp]; exact hI.inG x (by rw [show stk (f :: r) = stk r ++ f.v :: f.seg from rfl]; exact List.mem_append_right _ hx)) hg0 (by omega)) ?_
        rintro _ w9 ⟨tV9, hM9, hC9, hnb9⟩
        have hS9 : ∀ k, tS b nb lb pb tV k → w0.heap.size ≤ k := by
          obtain ⟨l1, l2, l3, l4, l5, l6, l7, l8, l9⟩ := hM8.lts
          rintro k (rfl | rfl | rfl | rfl | h1)
          · exact hM8.ge
          · exact l6
          · exact l7
          · exact l8
          · exact l9 _ h1
        have hE09 : Ext w0 w9 := Chg.ext hE08 hC9 hS9
        have hP9 := hP8.chg hC9 hap5
        have hap9 : Apart w0.heap.size b nb lb pb pV5 tV9 := fun k hk h1 => hap5 k hk (by unfold tS at h1 ⊢; rw [hnb9] at h1; exact h1)
        (repeat (first | (apply WL.nil) | (apply EX.inN)))
        refine EX.back (tClose (f.v :: f.seg) s1, r, pV5, tV9) (by repeat (first | exact trivial | refine ⟨rfl, ?_⟩)) ⟨hT, hM9, hP9, hap9, hE09, hmo, hvn⟩ ?_
        show tpot g (tClose (f.v :: f.seg) s1) _ < tpot g s1 _
        simp only [tpot, wsum, visB_close]; omega
      · have heq : s1.lw f.v ≠ s1.nm f.v := by simpa using heq
        cases r with
        | nil => exact absurd hI.alone heq
        | cons h r' =>
          have hT := hI.merge hi heq
          (repeat (first | (apply EX.inN) | (apply CW.skip)))
          refine EX.back (tLow h.v (min (s1.lw h.v) (s1.lw f.v)) s1, ⟨h.v, h.i, h.seg ++ f.v :: f.seg⟩ :: r', pV5, tV) (by repeat (first | exact trivial | refine ⟨rfl, ?_⟩)) ⟨hT, ?_, hP8, hap5, hE08, hmo, hvn⟩ ?_
          · dsimp only; rw [stk_merge]; exact hM8
          · show tpot g (tLow h.v (min (s1.lw h.v) (s1.lw f.v)) s1) _ < tpot g s1 _
            simp only [tpot, wsum, visB_low]; omega
  · have hfs : fs = [] := by
      have : (pth fs).length = 0 := by simp at hc0; simp [hc0]
      rw [pth_len] at this
      exact List.eq_nil_of_length_eq_zero this
    subst hfs
    (repeat (first | (apply CW.exit) | (apply EX.thenX) | (apply EX.inX)))
    exact EX.end0 rfl ⟨tV, s1, hM, hI, hE3, hmo, hvn⟩
end Go.Proofs.Ytikigaeihdmcaaa

/-
  Package scc: Split and Parts.
-/
set_option linter.unusedVariables false
set_option linter.unusedSimpArgs false
namespace Go.Proofs.Ytikigaeihdmcaaa
open Go.RowKit

/-- one more than the largest -/
def nxt (l : List Int) : Int := l.foldl (fun m x => max m (x + 1)) 0
theorem nxt_app (l : List Int) (x : Int) : nxt (l ++ [x]) = max (nxt l) (x + 1) := by simp [nxt]
/-- numbered as the parts' first nodes come -/
def Canon (p : List Int) : Prop := ∀ i, i < p.length → (∃ j, j < i ∧ p.getD j 0 = p.getD i 0) ∨ p.getD i 0 = nxt (p.take i)
structure PartsOK (g : Graph) (p : List Int) : Prop where
  len : p.length = g.length
  canon : Canon p
  same : ∀ a b, a < g.length → b < g.length → (p.getD a 0 = p.getD b 0 ↔ Rch g [(a : Int)] b ∧ Rch g [(b : Int)] a)
  ge : ∀ i, i < p.length → 0 ≤ p.getD i 0
  lt : ∀ i, i < p.length → p.getD i 0 < g.length

/-- while the parts are named -/
structure CInv (q : List Int) (got : Int) (i : Nat) (name : List Int) (next : Int) (out : List Int) : Prop where
  ln : (name.length : Int) = got
  lo : out.length = q.length
  n0 : ∀ k, 0 ≤ name.getD k 0 ∧ name.getD k 0 ≤ next
  z : ∀ j, j < i → 0 < name.getD (q.getD j 0).toNat 0 ∧ out.getD j 0 = name.getD (q.getD j 0).toNat 0 - 1
  zz : ∀ k, 0 < name.getD k 0 → ∃ j, j < i ∧ (q.getD j 0).toNat = k
  inj : ∀ k k', 0 < name.getD k 0 → name.getD k 0 = name.getD k' 0 → k = k'
  nx : next = nxt (out.take i)
  le : next ≤ i
  canon : ∀ j, j < i → (∃ m, m < j ∧ out.getD m 0 = out.getD j 0) ∨ out.getD j 0 = nxt (out.take j)
theorem CInv.start {q out : List Int} {got : Int} (hg : 0 ≤ got) (hl : out.length = q.length) : CInv q got 0 (List.replicate got.toNat 0) 0 out := by
  have h0 : ∀ k, (List.replicate got.toNat (0 : Int)).getD k 0 = 0 := by
    intro k
    rw [List.getD_eq_getElem?_getD, List.getElem?_replicate]
    split <;> rfl
  refine ⟨by simp; omega, hl, fun k => by rw [h0]; simp, fun j hj => absurd hj (by simp), fun k hk => by rw [h0] at hk; omega, fun k k' hk => by rw [h0] at hk; omega, rfl, by simp, fun j hj => absurd hj (by simp)⟩
theorem take_set_getD {out : List Int} {i : Nat} {x : Int} (hi : i < out.length) : (out.set i x).take (i + 1) = out.take i ++ [x] := by
  rw [List.take_succ_eq_append_getElem (by rw [List.length_set]; exact hi)]
  rw [List.take_set_of_le (Nat.le_refl _), List.getElem_set_self]
theorem CInv.canonStep {q out : List Int} {got next : Int} {i : Nat} {name : List Int} (h : CInv q got i name next out) {x : Int} (hi : i < out.length) (hx : (∃ m, m < i ∧ out.getD m 0 = x) ∨ x = nxt (out.take i)) :
    ∀ j, j < i + 1 → (∃ m, m < j ∧ (out.set i x).getD m 0 = (out.set i x).getD j 0) ∨ (out.set i x).getD j 0 = nxt ((out.set i x).take j) := by
  intro j hj
  have hget : ∀ k, (out.set i x).getD k 0 = if i = k then x else out.getD k 0 := fun k => getD_setD hi
  have htk : ∀ k, k ≤ i → (out.set i x).take k = out.take k := fun k hk => List.take_set_of_le hk
  by_cases e : j = i
  · subst e
    rw [htk j (Nat.le_refl _), hget, if_pos rfl]
    rcases hx with ⟨m, hm, h1⟩ | h1
    · exact .inl ⟨m, hm, by rw [hget, if_neg (by omega)]; exact h1⟩
    · exact .inr h1
  · have hj' : j < i := by omega
    rw [htk j (by omega), hget, if_neg (Ne.symm e)]
    rcases h.canon j hj' with ⟨m, hm, h1⟩ | h1
    · exact .inl ⟨m, hm, by rw [hget, if_neg (by omega)]; exact h1⟩
    · exact .inr h1
/-- a part that has its name -/
theorem CInv.old {q out : List Int} {got next : Int} {i : Nat} {name : List Int} (h : CInv q got i name next out) (hi : i < q.length) (hn : name.getD (q.getD i 0).toNat 0 ≠ 0) : CInv q got (i + 1) name next (out.set i (name.getD (q.getD i 0).toNat 0 - 1)) := by
  have hil : i < out.length := by rw [h.lo]; exact hi
  have hpos : 0 < name.getD (q.getD i 0).toNat 0 := by have := (h.n0 (q.getD i 0).toNat).1; omega
  have hle := (h.n0 (q.getD i 0).toNat).2
  have hget : ∀ k, (out.set i (name.getD (q.getD i 0).toNat 0 - 1)).getD k 0 = if i = k then name.getD (q.getD i 0).toNat 0 - 1 else out.getD k 0 := fun k => getD_setD hil
  obtain ⟨j, hj, hqj⟩ := h.zz _ hpos
  refine ⟨h.ln, by rw [List.length_set]; exact h.lo, h.n0, ?_, ?_, h.inj, ?_, by have := h.le; omega, ?_⟩
  · intro k hk
    rw [hget]
    by_cases e : i = k
    · subst e; rw [if_pos rfl]; exact ⟨hpos, rfl⟩
    · rw [if_neg e]; exact h.z k (by omega)
  · intro k hk
    obtain ⟨j, hj, h1⟩ := h.zz k hk
    exact ⟨j, by omega, h1⟩
  · rw [take_set_getD hil, nxt_app, ← h.nx]; omega
  · refine h.canonStep hil (.inl ⟨j, hj, ?_⟩)
    rw [(h.z j hj).2, hqj]
/-- a part that gets its name -/
theorem CInv.new {q out : List Int} {got next : Int} {i : Nat} {name : List Int} (h : CInv q got i name next out) (hi : i < q.length) (hk : (q.getD i 0).toNat < name.length) (hn : name.getD (q.getD i 0).toNat 0 = 0) :
    CInv q got (i + 1) (name.set (q.getD i 0).toNat (next + 1)) (next + 1) (out.set i next) := by
  have hil : i < out.length := by rw [h.lo]; exact hi
  have hget : ∀ k, (out.set i next).getD k 0 = if i = k then next else out.getD k 0 := fun k => getD_setD hil
  have hnm : ∀ k, (name.set (q.getD i 0).toNat (next + 1)).getD k 0 = if (q.getD i 0).toNat = k then next + 1 else name.getD k 0 := fun k => getD_setD hk
  have hnx0 : 0 ≤ next := by have := h.n0 0; omega
  refine ⟨by rw [List.length_set]; exact h.ln, by rw [List.length_set]; exact h.lo, ?_, ?_, ?_, ?_, ?_, by have := h.le; omega, h.canonStep hil (.inr h.nx)⟩
  · intro k
    rw [hnm]
    have := h.n0 k
    split <;> omega
  · intro j hj
    rw [hnm, hget]
    by_cases e : i = j
    · subst e
      rw [if_pos rfl, if_pos rfl]
      omega
    · rw [if_neg e]
      have h1 := h.z j (by omega)
      have : ¬ (q.getD i 0).toNat = (q.getD j 0).toNat := fun h2 => by rw [← h2] at h1; omega
      rw [if_neg this]
      exact h1
  · intro k hk2
    rw [hnm] at hk2
    split at hk2
    · rename_i e; exact ⟨i, by omega, e⟩
    · obtain ⟨j, hj, h1⟩ := h.zz k hk2; exact ⟨j, by omega, h1⟩
  · intro k k' h1 h2
    rw [hnm] at h1
    rw [hnm, hnm] at h2
    have a1 := h.n0 k
    have a2 := h.n0 k'
    split at h2 <;> split at h2
    · rename_i e1 e2; rw [← e1, ← e2]
    · omega
    · omega
    · rename_i e1 e2
      rw [if_neg e1] at h1
      exact h.inj k k' h1 h2
  · rw [take_set_getD hil, nxt_app, ← h.nx]; omega
theorem CInv.done {q out name : List Int} {got next : Int} (h : CInv q got q.length name next out) {g : Graph} (hl : q.length = g.length) (hq : ∀ a, a < g.length → 0 ≤ q.getD a 0) (hs : ∀ a b, a < g.length → b < g.length → (q.getD a 0 = q.getD b 0 ↔ Rch g [(a : Int)] b ∧ Rch g [(b : Int)] a)) : PartsOK g out := by
  refine ⟨by rw [h.lo, hl], fun i hi => h.canon i (by rw [← h.lo]; exact hi), fun a b ha hb => ?_, fun i hi => ?_, fun i hi => ?_⟩
  · rw [← hs a b ha hb]
    have h1 := h.z a (by omega)
    have h2 := h.z b (by omega)
    rw [h1.2, h2.2]
    have q1 := hq a ha
    have q2 := hq b hb
    constructor
    · intro e
      have e2 : name.getD (q.getD a 0).toNat 0 = name.getD (q.getD b 0).toNat 0 := by omega
      have := h.inj _ _ h1.1 e2
      omega
    · intro e; rw [e]
  · have := h.z i (by rw [← h.lo]; exact hi)
    omega
  · have h1 := h.z i (by rw [← h.lo]; exact hi)
    have h2 := (h.n0 (q.getD i 0).toNat).2
    have h3 := h.le
    omega
theorem TInv.start (g : Graph) (part : List Int) (hl : part.length = g.length) (hp : ∀ j, j < g.length → part.getD j (-1) = -1) : TInv g ⟨List.replicate g.length 0, List.replicate g.length 0, part, 0, 0⟩ [] := by
  have hz : ∀ k, (List.replicate g.length (0 : Int)).getD k 0 = 0 := by
    intro k
    rw [List.getD_eq_getElem?_getD, List.getElem?_replicate]
    split <;> rfl
  have hn : ∀ k, Ts.nm ⟨List.replicate g.length 0, List.replicate g.length 0, part, 0, 0⟩ k = 0 := hz
  have ht : ∀ k, k < g.length → Ts.pt ⟨List.replicate g.length 0, List.replicate g.length 0, part, 0, 0⟩ k = -1 := hp
  refine ⟨by simp, by simp, hl, fun n hn => absurd hn (by simp [stk]), fun n h => ?_, fun n h => by rw [hn]; omega, fun n hn => absurd hn (by simp [stk]), by simp [stk], fun n h => by rw [hn]; simp, by simp, fun f hf => absurd hf (by simp), trivial, fun n h h1 => by rw [ht n h] at h1; omega, fun n h => by rw [ht n h]; simp, by simp, by simp [List.countP_replicate], ?_, fun a b ha hb h1 => by rw [ht a ha] at h1; omega⟩
  · rw [hn, ht n h]; simp [stk]
  · have : negs part ≤ part.length := List.countP_le_length
    simp; omega

theorem Split_ok (w0 : World) {F : Nat → Prop} {ao : Option Addr} {cap : Nat} {g : Graph} (hg : Sl w0 F ao cap g) (hF : ∀ b, F b → b < w0.heap.size) (hG : okG g) (hgl : g.length ≤ 1099511627776) :
    Rt Try.prog 58 [.slice ao g.length cap].toArray w0 fun v w' => ∃ p, Own w' w0.heap.size 3 Non v p ∧ PartsOK g p ∧ Ext w0 w' := by
  refine Rt.enter1 Try.func58 Try.ntmps58 rfl rfl ?_
  (repeat (first | (apply WL.pure; rfl; rfl; rfl) | (apply WL.nil) | (apply EX.thenN) | (apply CW.seq) | (apply CW.region) | (apply WL.lenS; rfl; rfl; rfl)))
  refine CW.drawB (fun x => Ext w0 x) [(0, true), (1, true), (3, true), (5, true)] [2, 4, 6] [(7, true), (8, false), (9, true)] mixed (by kernel_rfl) (Ext.drew w0) ?_
  (repeat (first | (apply HL.pure; rfl; rfl; rfl; rfl) | (apply HL.nil)))
  refine EX.bag [⟨2, 15, fun v N w => Own w w0.heap.size 3 Non v (List.replicate g.length (0 : Int)) ∧ ∃ b, v.ownBlock = some b ∧ N b⟩, ⟨4, 17, fun v N w => Own w w0.heap.size 3 Non v (List.replicate g.length (0 : Int)) ∧ ∃ b, v.ownBlock = some b ∧ N b⟩,
    ⟨6, 19, fun v N w => Own w w0.heap.size 3 Non v (List.replicate g.length (0 : Int)) ∧ ∃ b, v.ownBlock = some b ∧ N b⟩] rfl rfl rfl (Ext.drew w0) ?_ ?_
  · intro e he
    simp only [List.mem_cons, List.not_mem_nil, or_false] at he
    rcases he with rfl | rfl | rfl
    all_goals
      refine ⟨⟨_, rfl, rfl, rfl, fun w' hS => ?_⟩, rfl, rfl, fun v N w1 w2 h hE => ⟨h.1.extN hE, h.2⟩⟩
      refine WL.make (α := Int) rfl rfl rfl rfl (by omega) (by unfold maxLen; omega) (fun w2 ho hgr => ?_)
      have hE : Ext w' w2 := (Ext.refl w').grown hgr (Nat.le_refl _) (fun k h => by cases h)
      have hS : Ext w0 w' := hS
      exact WL.nil (EX.bagE (fun b => b = w'.heap.size) rfl (hS.trans hE) hE ⟨ho.low hS.size, _, rfl, rfl⟩ (fun b hb => by subst hb; exact ⟨Nat.le_refl _, (ho.lt _ rfl).2.1⟩))
  intro w1 hS1 hE1 nV N1 h1 _ lV N2 h2 d2 pV N3 h3 d3
  obtain ⟨h1, nb, hnb, m1⟩ := h1
  obtain ⟨h2, lb, hlb, m2⟩ := h2
  obtain ⟨h3, pb, hpb, m3⟩ := h3
  have n12 : nb ≠ lb := fun e => d2 N1 (by simp) nb m1 (by rw [e]; exact m2)
  have n13 : nb ≠ pb := fun e => d3 N1 (by simp) nb m1 (by rw [e]; exact m3)
  have n23 : lb ≠ pb := fun e => d3 N2 (by simp) lb m2 (by rw [e]; exact m3)
  dsimp only
  have hS1 : Ext w0 w1 := hS1
  obtain ⟨no, nc, hnv⟩ := h1.val
  obtain ⟨lo, lc, hlv⟩ := h2.val
  obtain ⟨po, pc, hpv⟩ := h3.val
  subst hnv hlv hpv
  refine HL.build rfl rfl rfl rfl rfl ?_
  refine HL.mut rfl (WL.boxB rfl rfl rfl fun w2 hb2 hE2 => ?_)
  have hE02 := hS1.trans hE2
  refine WL.nil (EX.mut hE02 ?_)
  (repeat (first | (apply HL.pure; rfl; rfl; rfl; rfl) | (apply HL.nil)))
  have hsz1 : w0.heap.size ≤ w1.heap.size := hS1.size
  have g1 := h1.lt _ hnb
  have g2 := h2.lt _ hlb
  have g3 := h3.lt _ hpb
  have hM2 : TM w2 w0.heap.size w1.heap.size (.slice ao g.length cap) (.slice no (List.replicate g.length (0 : Int)).length nc) (.slice lo (List.replicate g.length (0 : Int)).length lc) (.slice po (List.replicate g.length (0 : Int)).length pc) (.slice none 0 0) nb lb pb ⟨List.replicate g.length 0, List.replicate g.length 0, List.replicate g.length 0, 0, 0⟩ (ints []) :=
    ⟨hb2, h1.extN hE2, h2.extN hE2, h3.extN hE2, Own.nil, hsz1, hnb, hlb, hpb, ⟨n12, n13, n23, by omega, by omega, by omega⟩, fun k hk => by simp [Value.ownBlock] at hk⟩
  generalize hnV : Value.slice no (List.replicate g.length (0 : Int)).length nc = nV at *
  generalize hlV : Value.slice lo (List.replicate g.length (0 : Int)).length lc = lV at *
  generalize hpV : Value.slice po (List.replicate g.length (0 : Int)).length pc = pV at *
  generalize hbb : w1.heap.size = b at *
  clear h1 h2 h3 g1 g2 g3 hb2 hS1 hE2 hE1 d2 d3 m1 m2 m3 hnV hlV hpV
  apply EX.thenN
  (repeat (first | (apply WL.pure; rfl; rfl; rfl) | (apply WL.nil) | (apply EX.thenN) | (apply CW.seq) | (apply CW.region) | (apply CW.block)))
  refine CW.loop (S := Nat × List Int) (fun x => [(3, .int .i64 g.length), (4, .pointer (some ⟨b, 0, none⟩)), (22, .int .i64 g.length), (23, .int .i64 x.1)])
    (fun x w => x.1 ≤ g.length ∧ x.2.length = g.length ∧ (∀ j, j < x.1 → x.2.getD j (-1) = -1) ∧ TM w w0.heap.size b (.slice ao g.length cap) nV lV pV (.slice none 0 0) nb lb pb ⟨List.replicate g.length 0, List.replicate g.length 0, x.2, 0, 0⟩ (ints []) ∧ Ext w0 w) (fun x => g.length - x.1) (0, List.replicate g.length 0) (by repeat (first | exact trivial | refine ⟨rfl, ?_⟩)) ⟨by omega, by simp, fun j hj => absurd hj (by simp), hM2, hE02⟩ ?_
  rintro ⟨i, part⟩ w3 ⟨hi, hpl, hpre, hM, hE3⟩
  dsimp only at hi hpl hpre hM
  (repeat (first | (apply WL.pure; rfl; rfl; rfl) | (apply WL.nil) | (apply EX.thenN) | (apply CW.seq) | (apply CW.region)))
  refine CW.cond rfl (fun hlt => ?_) (fun hlt => ?_)
  · simp at hlt
    have hb := hM.blk
    obtain ⟨hn1, hn2, hn3, hn4, hn5, hn6⟩ := hM.ne
    (repeat (first | (apply WL.pure; rfl; rfl; rfl) | (apply WL.nil) | (apply EX.thenN) | (apply CW.seq) | (apply CW.region) | (apply WL.fa; rfl; rfl; rfl) | (apply WL.nck; rfl; rfl; rfl) | (apply WL.ld; rfl; rfl; rfl; assumption; rfl) | (apply CW.block) | (apply CW.skip)))
    refine WL.setN (u := .int .i64 (-1)) (yv := (-1 : Int)) rfl rfl rfl rfl hM.part (by dsimp only; omega) (fun _ => rfl) (fun _ => rfl) (Rd.mkInt _ _ _) (fun w4 q hp4 hg4 => ?_)
    have hM4 : TM w4 w0.heap.size b (.slice ao g.length cap) nV lV pV (.slice none 0 0) nb lb pb ⟨List.replicate g.length 0, List.replicate g.length 0, part.set i (-1), 0, 0⟩ (ints []) :=
      ⟨hb.kept hg4 (fun e => by rw [hM.hpb] at e; cases e; exact hn6 rfl), hM.num.keptN hg4 (fun g hg e => by rw [hM.hnb] at hg; rw [hM.hpb] at e; cases hg; cases e; exact hn2 rfl), hM.low.keptN hg4 (fun g hg e => by rw [hM.hlb] at hg; rw [hM.hpb] at e; cases hg; cases e; exact hn3 rfl), hp4, Own.nil, hM.ge, hM.hnb, hM.hlb, hM.hpb, hM.ne, hM.sne⟩
    have hE4 : Ext w0 w4 := hE3.grown hg4 hE3.size (fun k hk => (hM.part.lt k hk).1)
    (repeat (first | (apply WL.add; rfl; rfl; rfl; rfl; omega; omega) | (apply WL.pure; rfl; rfl; rfl) | (apply WL.nil) | (apply EX.thenN) | (apply CW.region) | (apply EX.inN)))
    refine EX.back (i + 1, part.set i (-1)) (by repeat (first | exact trivial | refine ⟨rfl, ?_⟩)) ⟨hlt, by simp [hpl], fun j hj => ?_, hM4, hE4⟩ (by simp only; omega)
    dsimp only
    rw [getD_setD (by omega)]
    split
    · rfl
    · exact hpre j (by dsimp only at hj; omega)
  simp at hlt
  have : i = g.length := by omega
  subst this
  have hI0 := TInv.start g part hpl hpre
  clear hlt hi hpre
  (repeat (first | (apply WL.pure; rfl; rfl; rfl) | (apply WL.nil) | (apply EX.thenN) | (apply CW.seq) | (apply CW.region) | (apply CW.block) | (apply CW.exit) | (apply EX.thenX) | (apply EX.inX)))
  refine CW.loop (S := Nat × Ts × Value) (fun x => [(3, .int .i64 g.length), (4, .pointer (some ⟨b, 0, none⟩)), (33, .int .i64 g.length), (34, .int .i64 x.1)])
    (fun x w => x.1 ≤ g.length ∧ TInv g x.2.1 [] ∧ TM w w0.heap.size b (.slice ao g.length cap) nV lV pV x.2.2 nb lb pb x.2.1 (ints []) ∧ Ext w0 w ∧ ∀ j, j < x.1 → 0 < x.2.1.nm j) (fun x => g.length - x.1) (0, _, .slice none 0 0) (by repeat (first | exact trivial | refine ⟨rfl, ?_⟩)) ⟨by omega, hI0, hM, hE3, fun j hj => absurd hj (by simp)⟩ ?_
  clear hI0 hM hE3 hM2 hE02
  rintro ⟨i, s, sV⟩ w3 ⟨hi, hI, hM, hE3, hvis⟩
  dsimp only at hi hI hM hvis
  (repeat (first | (apply WL.pure; rfl; rfl; rfl) | (apply WL.nil) | (apply EX.thenN) | (apply CW.seq) | (apply CW.region)))
  refine CW.cond rfl (fun hlt => ?_) (fun hlt => ?_)
  · simp at hlt
    have hb := hM.blk
    have hil : i < s.num.length := by rw [hI.ln]; exact hlt
    have en : s.num[i] = s.nm i := (getD_at hil).symm
    (repeat (first | (apply WL.pure; rfl; rfl; rfl) | (apply WL.nil) | (apply EX.thenN) | (apply CW.seq) | (apply CW.region) | (apply WL.fa; rfl; rfl; rfl) | (apply WL.nck; rfl; rfl; rfl) | (apply WL.ld; rfl; rfl; rfl; assumption; rfl) | (apply CW.block) | (apply CW.skip)))
    refine WL.elemON rfl rfl rfl rfl rfl hM.num hil (fun _ => rfl) (fun u q hu => ?_)
    obtain rfl := hu.int
    rw [en]
    (repeat (first | (apply WL.pure; rfl; rfl; rfl) | (apply WL.nil) | (apply EX.thenN)))
    refine CW.cond rfl (fun hz => ?_) (fun hz => ?_)
    · have hz : s.nm i = 0 := by simpa using hz
      (repeat (first | (apply WL.pure; rfl; rfl; rfl) | (apply CW.region)))
      refine WL.call rfl rfl rfl (visit_ok w0 w3 hE3 hg hF hG hgl hM hI hlt hz) ?_
      rintro _ w4 ⟨sV4, s4, hM4, hI4, hE4, hmo, hv4⟩
      (repeat (first | (apply WL.add; rfl; rfl; rfl; rfl; omega; omega) | (apply WL.pure; rfl; rfl; rfl) | (apply WL.nil) | (apply EX.thenN) | (apply CW.region) | (apply EX.inN)))
      refine EX.back (i + 1, s4, sV4) (by repeat (first | exact trivial | refine ⟨rfl, ?_⟩)) ⟨hlt, hI4, hM4, hE4, fun j hj => ?_⟩ (by simp only; omega)
      by_cases e : j = i
      · subst e; exact hv4
      · exact hmo j (hvis j (by dsimp only at hj; omega))
    · have hz : s.nm i ≠ 0 := by simpa using hz
      have := hI.non i hlt
      (repeat (first | (apply WL.add; rfl; rfl; rfl; rfl; omega; omega) | (apply WL.pure; rfl; rfl; rfl) | (apply WL.nil) | (apply EX.thenN) | (apply CW.region) | (apply EX.inN) | (apply CW.skip)))
      refine EX.back (i + 1, s, sV) (by repeat (first | exact trivial | refine ⟨rfl, ?_⟩)) ⟨hlt, hI, hM, hE3, fun j hj => ?_⟩ (by simp only; omega)
      by_cases e : j = i
      · subst e; dsimp only; omega
      · exact hvis j (by dsimp only at hj; omega)
  simp at hlt
  have : i = g.length := by omega
  subst this
  clear hlt hi
  have hb := hM.blk
  have hclosed : ∀ a, a < g.length → 0 ≤ s.pt a := fun a ha => by
    rcases (hI.vis a ha).1 (hvis a ha) with h | h
    · simp [stk] at h
    · exact h
  have hgn := hI.gn
  have hg0 := hI.g0
  have hpl := hI.lp
  obtain ⟨gn, egn⟩ := Int.eq_ofNat_of_zero_le hg0
  rw [egn] at hb
  have hgnl : gn ≤ g.length := by omega
  (repeat (first | (apply WL.pure; rfl; rfl; rfl) | (apply EX.thenN) | (apply CW.seq) | (apply CW.region) | (apply WL.fa; rfl; rfl; rfl) | (apply WL.nck; rfl; rfl; rfl) | (apply WL.ld; rfl; rfl; rfl; assumption; rfl) | (apply CW.exit) | (apply EX.thenX) | (apply EX.inX)))
  refine WL.make (α := Int) rfl rfl rfl rfl (by omega) (by unfold maxLen; omega) (fun w4 hname4 hg4 => ?_)
  have hE34 : Ext w3 w4 := (Ext.refl w3).grown hg4 (Nat.le_refl _) (fun k h => by cases h)
  have hM4 := hM.ext hE34
  have hE4 := hE3.trans hE34
  have hb4 := hM4.blk
  (repeat (first | (apply WL.pure; rfl; rfl; rfl) | (apply WL.nil) | (apply EX.thenN) | (apply CW.seq) | (apply CW.region)))
  refine WL.make (α := Int) rfl rfl rfl rfl (by omega) (by unfold maxLen; omega) (fun w5 hout5 hg5 => ?_)
  have hE45 : Ext w4 w5 := (Ext.refl w4).grown hg5 (Nat.le_refl _) (fun k h => by cases h)
  have hM5 := hM4.ext hE45
  have hE5 := hE4.trans hE45
  have hname5 := (hname4.extN hE45).low hE3.size
  have hout5 := hout5.low hE4.size
  have hnb34 : w3.heap.size < w4.heap.size := (hname4.lt _ rfl).2.1
  have l1 := hM.lts.1
  have l4 := hM.lts.2.2.2.1
  have hge3 := hE3.size
  have hge4 := hE4.size
  generalize hnm : Value.slice (some ⟨w3.heap.size, 0, none⟩) gn gn = mV at *
  generalize hou : Value.slice (some ⟨w4.heap.size, 0, none⟩) g.length g.length = oV at *
  have hmb : mV.ownBlock = some w3.heap.size := by rw [← hnm]; rfl
  have hob : oV.ownBlock = some w4.heap.size := by rw [← hou]; rfl
  have hC0 : CInv s.part s.got 0 (List.replicate gn 0) 0 (List.replicate g.length 0) := by
    have := CInv.start (q := s.part) (out := List.replicate g.length 0) hg0 (by simp [hpl])
    rwa [egn, Int.toNat_natCast, ← egn] at this
  have hsame : ∀ a b, a < g.length → b < g.length → (s.part.getD a 0 = s.part.getD b 0 ↔ Rch g [(a : Int)] b ∧ Rch g [(b : Int)] a) := by
    intro a b ha hb
    rw [← hI.scc a b ha hb (hclosed a ha) (hclosed b hb)]
    unfold Ts.pt
    rw [getD_at (by omega), getD_at (by omega), getD_at (by omega), getD_at (by omega)]
  have hq0 : ∀ a, a < g.length → 0 ≤ s.part.getD a 0 := fun a ha => by
    have := hclosed a ha
    unfold Ts.pt at this
    rw [getD_at (by omega)] at this ⊢
    exact this
  have hql : ∀ a, a < g.length → s.part.getD a 0 < s.got := fun a ha => by
    have := hI.ptl a ha
    unfold Ts.pt at this
    rw [getD_at (by omega)] at this ⊢
    exact this
  have hmS : ¬ tS b nb lb pb sV w3.heap.size := by
    obtain ⟨a1, a2, a3, a4, a5, _⟩ := hM.lts
    rintro (h1 | h1 | h1 | h1 | h1)
    · omega
    · omega
    · omega
    · omega
    · have := a5 _ h1; omega
  have hoS : ¬ tS b nb lb pb sV w4.heap.size := by
    obtain ⟨a1, a2, a3, a4, a5, _⟩ := hM.lts
    rintro (h1 | h1 | h1 | h1 | h1)
    · omega
    · omega
    · omega
    · omega
    · have := a5 _ h1; omega
  clear hb hb4 hM4 hname4 hg4 hg5 hE34 hE45 hnm hou
  (repeat (first | (apply WL.pure; rfl; rfl; rfl) | (apply WL.nil) | (apply EX.thenN) | (apply CW.seq) | (apply CW.region) | (apply CW.block)))
  refine CW.loop (S := Nat × List Int × Int × List Int) (fun x => [(4, .pointer (some ⟨b, 0, none⟩)), (7, mV), (8, .int .i64 x.2.2.1), (9, oV), (56, .int .i64 g.length), (57, .int .i64 x.1)])
    (fun x w => x.1 ≤ g.length ∧ CInv s.part s.got x.1 x.2.1 x.2.2.1 x.2.2.2 ∧ TM w w0.heap.size b (.slice ao g.length cap) nV lV pV sV nb lb pb s (ints []) ∧ Own w w0.heap.size 3 Non mV x.2.1 ∧ Own w w0.heap.size 3 Non oV x.2.2.2 ∧ Ext w0 w) (fun x => g.length - x.1) (0, _, 0, _) (by repeat (first | exact trivial | refine ⟨rfl, ?_⟩)) ⟨by omega, hC0, hM5, hname5, hout5, hE5⟩ ?_
  clear hM5 hname5 hout5 hE5 hC0 hM
  rintro ⟨i, name, next, out⟩ w6 ⟨hi, hC, hM, hname, hout, hE6⟩
  dsimp only at hi hC hname hout
  (repeat (first | (apply WL.pure; rfl; rfl; rfl) | (apply WL.nil) | (apply EX.thenN) | (apply CW.seq) | (apply CW.region)))
  refine CW.cond rfl (fun hlt => ?_) (fun hlt => ?_)
  · simp at hlt
    have hb := hM.blk
    have hip : i < s.part.length := by omega
    have ei : s.part[i] = s.part.getD i 0 := (getD_at hip).symm
    obtain ⟨k, ek⟩ := Int.eq_ofNat_of_zero_le (hq0 i hlt)
    have hkl := hql i hlt
    have hnl := hC.ln
    have hkn : k < name.length := by omega
    have hk0 := hC.n0 k
    have hCle := hC.le
    have hio : i < out.length := by rw [hC.lo]; exact hip
    have enk : name[k] = name.getD k 0 := (getD_at hkn).symm
    obtain ⟨hn1, hn2, hn3, hn4, hn5, hn6⟩ := hM.ne
    dsimp only
    apply CW.skip
    apply EX.thenN
    apply CW.seq
    apply CW.block
    apply CW.seq
    apply CW.region
    (repeat (apply WL.pure; rfl; rfl; rfl))
    apply WL.nil
    apply EX.thenN
    refine CW.cutI (S := List Int × Int) (fun x => [(4, .pointer (some ⟨b, 0, none⟩)), (7, mV), (8, .int .i64 x.2), (9, oV), (10, .int .i64 i), (56, .int .i64 g.length), (57, .int .i64 i)])
      (fun x w' => ∃ out', CInv s.part s.got (i + 1) x.1 x.2 out' ∧ out' = out.set i (x.1.getD k 0 - 1) ∧ x.1.length = name.length ∧ TM w' w0.heap.size b (.slice ao g.length cap) nV lV pV sV nb lb pb s (ints []) ∧ Own w' w0.heap.size 3 Non mV x.1 ∧ Own w' w0.heap.size 3 Non oV out ∧ Ext w0 w') ?_ ?_
    · (repeat (first | (apply WL.pure; rfl; rfl; rfl) | (apply CW.seq) | (apply CW.region) | (apply WL.fa; rfl; rfl; rfl) | (apply WL.nck; rfl; rfl; rfl) | (apply WL.ld; rfl; rfl; rfl; assumption; rfl)))
      refine WL.elemON rfl rfl rfl rfl rfl hM.part hip (fun _ => rfl) (fun u q hu => ?_)
      obtain rfl := hu.int
      rw [ei, ek]
      skip
      refine WL.elemON rfl rfl rfl rfl rfl hname hkn (fun _ => rfl) (fun u q hu => ?_)
      obtain rfl := hu.int
      rw [enk]
      (repeat (first | (apply WL.pure; rfl; rfl; rfl) | (apply WL.nil) | (apply EX.thenN)))
      refine CW.cond rfl (fun hz => ?_) (fun hz => ?_)
      · have hz : name.getD k 0 = 0 := by simpa using hz
        have hN := hC.new hip (by rw [ek, Int.toNat_natCast]; exact hkn) (by rw [ek, Int.toNat_natCast]; exact hz)
        rw [ek, Int.toNat_natCast] at hN
        (repeat (first | (apply WL.add; rfl; rfl; rfl; rfl; omega; omega) | (apply WL.pure; rfl; rfl; rfl) | (apply WL.nil) | (apply EX.thenN) | (apply CW.seq) | (apply CW.region) | (apply WL.fa; rfl; rfl; rfl) | (apply WL.nck; rfl; rfl; rfl) | (apply WL.ld; rfl; rfl; rfl; assumption; rfl)))
        refine WL.elemON rfl rfl rfl rfl rfl hM.part hip (fun _ => rfl) (fun u q hu => ?_)
        obtain rfl := hu.int
        rw [ei, ek]
        (repeat (apply WL.pure; rfl; rfl; rfl))
        refine WL.setN (u := .int .i64 (next + 1)) (yv := next + 1) rfl rfl rfl rfl hname hkn (fun _ => rfl) (fun _ => rfl) (Rd.mkInt _ _ _) (fun w7 q hname7 hg7 => ?_)
        have hM7 := hM.off hg7 (fun j hj => by
          rw [hmb] at hj
          cases hj
          exact hmS)
        have hout7 := hout.keptN hg7 (fun g hg e => by rw [hob] at hg; rw [hmb] at e; cases hg; simp at e; omega)
        have hE7 : Ext w0 w7 := hE6.grown hg7 hE6.size (fun j hj => (hname.lt j hj).1)
        (repeat (apply WL.nil))
        refine EX.cutI (name.set k (next + 1), next + 1) (by repeat (first | exact trivial | refine ⟨rfl, ?_⟩)) ⟨_, hN, ?_, by simp, hM7, hname7, hout7, hE7⟩
        dsimp only
        rw [getD_setD hkn, if_pos rfl]
        congr 1; omega
      · have hz : name.getD k 0 ≠ 0 := by simpa using hz
        have hN := hC.old hip (by rw [ek, Int.toNat_natCast]; exact hz)
        rw [ek, Int.toNat_natCast] at hN
        (repeat (apply CW.skip))
        exact EX.cutI (name, next) (by repeat (first | exact trivial | refine ⟨rfl, ?_⟩)) ⟨_, hN, rfl, rfl, hM, hname, hout, hE6⟩
    rintro ⟨name', next'⟩ w7 ⟨out', hN, rfl, hnl', hM7, hname7, hout7, hE7⟩
    dsimp only at hN hnl' hname7 ⊢
    have hb7 := hM7.blk
    have hkn' : k < name'.length := by omega
    have enk' : name'[k] = name'.getD k 0 := (getD_at hkn').symm
    have hk0' := hN.n0 k
    have hNle := hN.le
    (repeat (first | (apply WL.pure; rfl; rfl; rfl) | (apply CW.region) | (apply WL.fa; rfl; rfl; rfl) | (apply WL.nck; rfl; rfl; rfl) | (apply WL.ld; rfl; rfl; rfl; assumption; rfl)))
    refine WL.elemON rfl rfl rfl rfl rfl hM7.part hip (fun _ => rfl) (fun u q hu => ?_)
    obtain rfl := hu.int
    rw [ei, ek]
    skip
    refine WL.elemON rfl rfl rfl rfl rfl hname7 hkn' (fun _ => rfl) (fun u q hu => ?_)
    obtain rfl := hu.int
    rw [enk']
    (repeat (apply WL.sub'; rfl; rfl; rfl; rfl; omega; omega))
    refine WL.setN (u := .int .i64 (name'.getD k 0 - 1)) (yv := name'.getD k 0 - 1) rfl rfl rfl rfl hout7 hio (fun _ => rfl) (fun _ => rfl) (Rd.mkInt _ _ _) (fun w8 q hout8 hg8 => ?_)
    have hM8 := hM7.off hg8 (fun j hj => by rw [hob] at hj; cases hj; exact hoS)
    have hname8 := hname7.keptN hg8 (fun g hg e => by rw [hmb] at hg; rw [hob] at e; cases hg; simp at e; omega)
    have hE8 : Ext w0 w8 := hE7.grown hg8 hE7.size (fun j hj => (hout7.lt j hj).1)
    (repeat (first | (apply WL.add; rfl; rfl; rfl; rfl; omega; omega) | (apply WL.pure; rfl; rfl; rfl) | (apply WL.nil) | (apply EX.thenN) | (apply CW.region) | (apply EX.inN)))
    exact EX.back (i + 1, name', next', _) (by repeat (first | exact trivial | refine ⟨rfl, ?_⟩)) ⟨hlt, hN, hM8, hname8, hout8, hE8⟩ (by simp only; omega)
  simp at hlt
  have : i = g.length := by omega
  subst this
  (repeat (first | (apply WL.pure; rfl; rfl; rfl) | (apply WL.nil) | (apply EX.thenN) | (apply CW.seq) | (apply CW.region) | (apply CW.exit) | (apply EX.thenX) | (apply EX.inX) | (apply CW.ret)))
  refine EX.ret1 rfl rfl ⟨out, hout, ?_, hE6⟩
  exact CInv.done (hpl ▸ hC) hpl hq0 hsame
end Go.Proofs.Ytikigaeihdmcaaa

/-
  Package lasso: words, their check and their letters.
-/
set_option linter.unusedVariables false
set_option linter.unusedSimpArgs false
namespace Go.Proofs.Ytikigaeihdmcaaa
open Go.RowKit

def lat (s l : List Nat) (i : Nat) : Nat := if i < s.length then s.getD i 0 else l.getD ((i - s.length) % l.length) 0
theorem Sl.u64 {w : World} {F : Nat → Prop} {ao : Option Addr} {cap : Nat} {xs : List Nat} (h : Sl w F ao cap xs) : ∀ x ∈ xs, x < 18446744073709551616 := by
  intro x hx
  obtain ⟨i, hi, rfl⟩ := List.getElem_of_mem hx
  obtain ⟨b, off, _, _, es, _, hr⟩ := h.el i hi
  exact hr.2
end Go.Proofs.Ytikigaeihdmcaaa

/-
  Package lasso: next, not, until.
-/
set_option linter.unusedVariables false
set_option linter.unusedSimpArgs false
namespace Go.Proofs.Ytikigaeihdmcaaa
open Go.RowKit

end Go.Proofs.Ytikigaeihdmcaaa

/-
  What an automaton accepts: runs, the product with a word's places, parts of a graph: plain lists, no program in sight.
-/
set_option linter.unusedVariables false
set_option linter.unusedSimpArgs false
namespace Go.Proofs.Ytikigaeihdmcaaa

/- PARTS -/
theorem Rc.lt {E : Nat → Nat → Prop} {N a b : Nat} (hN : ∀ u v, E u v → v < N) (ha : a < N) : Rc E a b → b < N
  | ⟨p, n, h⟩ => by
    cases n with
    | zero => rw [← h.last, h.first]; exact ha
    | succ n => rw [← h.last]; exact hN _ _ (h.step n (by omega))
/-- a round has a first step -/
theorem Rc.first {E : Nat → Nat → Prop} {a b c : Nat} (h1 : Rc E a b) (h2 : E b c) (h3 : Rc E c a) : ∃ u, E a u ∧ Rc E u a := by
  obtain ⟨p, n, h⟩ := h1
  cases n with
  | zero => obtain rfl : a = b := h.first.symm.trans h.last
            exact ⟨c, h2, h3⟩
  | succ n =>
    refine ⟨p 1, by have := h.step 0 (by omega); rwa [h.first] at this, Rc.trans ⟨fun i => p (i + 1), n, rfl, h.last, fun i hi => h.step (i + 1) (by omega)⟩ ((Rc.one h2).trans h3)⟩
theorem core_part {g : Graph} {part : List Int} {Ps : List (Nat → Prop)} (hg : okG g) (hp : PartsOK g part) {i : Nat} (hi : i < g.length) :
    Core (Eg g) Ps i ↔ (∃ u, u < g.length ∧ part.getD u 0 = part.getD i 0 ∧ ∃ to ∈ g.getD u [], part.getD to.toNat 0 = part.getD i 0) ∧ ∀ P ∈ Ps, ∃ x, x < g.length ∧ P x ∧ part.getD x 0 = part.getD i 0 := by
  have hN : ∀ u v, Eg g u v → v < g.length := fun u v h => h.lt hg
  have hs : ∀ a b, a < g.length → b < g.length → (part.getD a 0 = part.getD b 0 ↔ Rc (Eg g) a b ∧ Rc (Eg g) b a) := fun a b ha hb => by
    rw [hp.same a b ha hb, rch1 hg, rch1 hg]
  constructor
  · rintro ⟨⟨u, h1, h2⟩, h3⟩
    refine ⟨⟨i, hi, rfl, (u : Int), h1, ?_⟩, fun P hP => ?_⟩
    · exact ((hs u i (hN _ _ h1) hi).2 ⟨h2, Rc.one h1⟩)
    · obtain ⟨x, hx, k1, k2⟩ := h3 P hP
      exact ⟨x, Rc.lt hN hi k1, hx, (hs x i (Rc.lt hN hi k1) hi).2 ⟨k2, k1⟩⟩
  · rintro ⟨⟨u, hu, h1, to, h2, h3⟩, h4⟩
    have ht := okG_row hg u to h2
    have h2' : Eg g u to.toNat := by show ((to.toNat : Nat) : Int) ∈ _; rw [show ((to.toNat : Nat) : Int) = to by omega]; exact h2
    refine ⟨Rc.first ((hs u i hu hi).1 h1).2 h2' ((hs _ i (hN _ _ h2') hi).1 h3).1, fun P hP => ?_⟩
    obtain ⟨x, hx, h5, h6⟩ := h4 P hP
    exact ⟨x, h5, ((hs x i hx hi).1 h6).2, ((hs x i hx hi).1 h6).1⟩

/- THE NODES THAT ARE COME TO -/
structure RchdOK (g : Graph) (f : List Int) (li : List Int) (sm : Graph) : Prop where
  mem : ∀ x : Nat, (x : Int) ∈ li ↔ Rch g f x
  pos : ∀ x ∈ li, 0 ≤ x
  nodup : li.Nodup
  len : sm.length = li.length
  row : ∀ i, i < li.length → sm.getD i [] = (g.getD (li.getD i 0).toNat []).map fun to => (li.idxOf to : Int)
section
variable {g : Graph} {f li : List Int} {sm : Graph}
abbrev ndAt (li : List Int) (i : Nat) : Nat := (li.getD i 0).toNat
theorem RchdOK.at (h : RchdOK g f li sm) {i : Nat} (hi : i < li.length) : ((ndAt li i : Nat) : Int) = li.getD i 0 ∧ li.getD i 0 ∈ li := by
  have e : li.getD i 0 = li[i] := by rw [List.getD_eq_getElem?_getD, List.getElem?_eq_getElem hi]; rfl
  have hm : li.getD i 0 ∈ li := by rw [e]; exact List.getElem_mem hi
  have := h.pos _ hm
  exact ⟨by unfold ndAt; omega, hm⟩
theorem RchdOK.idx (h : RchdOK g f li sm) {x : Nat} (hx : (x : Int) ∈ li) : li.idxOf (x : Int) < li.length ∧ ndAt li (li.idxOf (x : Int)) = x := by
  have hl := List.idxOf_lt_length_iff.2 hx
  refine ⟨hl, ?_⟩
  unfold ndAt
  rw [List.getD_eq_getElem?_getD, List.getElem?_eq_getElem hl, Option.getD_some, List.getElem_idxOf hl]
  omega
theorem RchdOK.idxAt (h : RchdOK g f li sm) {i : Nat} (hi : i < li.length) : li.idxOf (li.getD i 0) = i := by
  have e : li.getD i 0 = li[i] := by rw [List.getD_eq_getElem?_getD, List.getElem?_eq_getElem hi]; rfl
  rw [e]
  exact h.nodup.idxOf_getElem i hi
theorem RchdOK.edge (h : RchdOK g f li sm) (hg : okG g) {i j : Nat} (hi : i < li.length) (hj : j < li.length) : Eg sm i j ↔ Eg g (ndAt li i) (ndAt li j) := by
  unfold Eg
  rw [h.row i hi, List.mem_map, (h.at hj).1]
  constructor
  · rintro ⟨to, h1, h2⟩
    have hr : Rch g f to.toNat := Rch.step ((h.mem _).1 (by rw [(h.at hi).1]; exact (h.at hi).2)) h1
    have h0 := (okG_row hg _ _ h1).1
    have hm : to ∈ li := by rw [show to = ((to.toNat : Nat) : Int) by omega]; exact (h.mem _).2 hr
    have hl := List.idxOf_lt_length_iff.2 hm
    have : to = li.getD j 0 := by
      have e2 : li.idxOf to = j := by omega
      rw [← e2, List.getD_eq_getElem?_getD, List.getElem?_eq_getElem hl, Option.getD_some, List.getElem_idxOf hl]
    rw [← this]; exact h1
  · intro h1
    exact ⟨_, h1, by rw [h.idxAt hj]⟩
theorem RchdOK.okG (h : RchdOK g f li sm) (hg : okG g) : okG sm := by
  intro l hl x hx
  obtain ⟨i, hi, rfl⟩ := List.mem_iff_getElem.1 hl
  have hi' : i < li.length := by rw [← h.len]; exact hi
  have e : sm[i] = sm.getD i [] := by rw [List.getD_eq_getElem?_getD, List.getElem?_eq_getElem hi]; rfl
  rw [e, h.row i hi', List.mem_map] at hx
  obtain ⟨to, h1, rfl⟩ := hx
  have hr : Rch g f to.toNat := Rch.step ((h.mem _).1 (by rw [(h.at hi').1]; exact (h.at hi').2)) h1
  have h0 := (okG_row hg _ _ h1).1
  have hm : to ∈ li := by rw [show to = ((to.toNat : Nat) : Int) by omega]; exact (h.mem _).2 hr
  have hl := List.idxOf_lt_length_iff.2 hm
  rw [h.len]; omega
theorem Eg.lt1 {g : Graph} {u v : Nat} (h : Eg g u v) : u < g.length := by
  unfold Eg at h
  apply Classical.byContradiction
  intro hn
  rw [List.getD_eq_getElem?_getD, List.getElem?_eq_none (by omega)] at h
  simp at h
theorem RchdOK.rc (h : RchdOK g f li sm) (hg : _root_.Go.Proofs.Ytikigaeihdmcaaa.okG g) {i j : Nat} (hi : i < li.length) (hj : j < li.length) : Rc (Eg sm) i j ↔ Rc (Eg g) (ndAt li i) (ndAt li j) := by
  have hs := h.okG hg
  constructor
  · rintro ⟨p, n, hw⟩
    refine ⟨fun k => ndAt li (p k), n, by rw [hw.first], by rw [hw.last], fun k hk => ?_⟩
    have := hw.step k hk
    have a := this.lt1; have b := this.lt hs
    rw [h.len] at a b
    exact (h.edge hg a b).1 this
  · rintro ⟨p, n, hw⟩
    have hm : ∀ k, k ≤ n → ((p k : Nat) : Int) ∈ li := by
      intro k
      induction k with
      | zero => intro _; rw [hw.first, (h.at hi).1]; exact (h.at hi).2
      | succ k ih =>
        intro hk
        have h1 := (h.mem _).1 (ih (by omega))
        exact (h.mem _).2 (Rch.step h1 (hw.step k (by omega)))
    refine ⟨fun k => li.idxOf ((p k : Nat) : Int), n, ?_, ?_, fun k hk => ?_⟩
    · show li.idxOf _ = i
      rw [hw.first, (h.at hi).1, h.idxAt hi]
    · show li.idxOf _ = j
      rw [hw.last, (h.at hj).1, h.idxAt hj]
    · have a := h.idx (hm k (by omega)); have b := h.idx (hm (k + 1) (by omega))
      refine (h.edge hg a.1 b.1).2 ?_
      rw [a.2, b.2]; exact hw.step k hk
end

/- RUNS -/
def fitB (mu no : List Nat) (k x : Nat) : Bool := decide (x &&& mu.getD k 0 = mu.getD k 0) && decide (x &&& no.getD k 0 = 0)
/-- a run of an automaton over a word -/
structure AccRun (st : List Int) (nx : List (List Int)) (mu no : List Nat) (fr : List (List Int)) (L r : Nat → Nat) : Prop where
  first : (r 0 : Int) ∈ st
  fits : ∀ i, fitB mu no (r i) (L i) = true
  step : ∀ i, (r (i + 1) : Int) ∈ nx.getD (r i) []
  fair : ∀ F ∈ fr, ∀ i, ∃ j, i ≤ j ∧ (r j : Int) ∈ F
def Acc (st : List Int) (nx : List (List Int)) (mu no : List Nat) (fr : List (List Int)) (L : Nat → Nat) : Prop := ∃ r, AccRun st nx mu no fr L r
section
variable {st : List Int} {nx : List (List Int)} {mu no : List Nat} {fr : List (List Int)} {s l : List Nat}
end

/- LAWS OF RUNS -/
theorem Acc.congr {st : List Int} {nx : List (List Int)} {mu no : List Nat} {fr : List (List Int)} {L L' : Nat → Nat} (h : ∀ i, L i = L' i) : Acc st nx mu no fr L ↔ Acc st nx mu no fr L' := by
  rw [show L = L' from funext h]
theorem Acc.more {st : List Int} {nx : List (List Int)} {mu no : List Nat} {fr fr' : List (List Int)} {L : Nat → Nat} (h : ∀ F ∈ fr, F ∈ fr') : Acc st nx mu no fr' L → Acc st nx mu no fr L
  | ⟨r, a, b, c, d⟩ => ⟨r, a, b, c, fun F hF => d F (h F hF)⟩
end Go.Proofs.Ytikigaeihdmcaaa

/-
  Automata of pairs: plain lists, no program in sight.
-/
set_option linter.unusedVariables false
set_option linter.unusedSimpArgs false
namespace Go.Proofs.Ytikigaeihdmcaaa

abbrev Pr2 := Int × Int
theorem idxOf_left {ps t : List Pr2} {p : Pr2} (h : p ∈ ps) : (ps ++ t).idxOf p = ps.idxOf p := by rw [List.idxOf_append, if_pos h]
theorem idxOf_new {ps : List Pr2} {p : Pr2} (h : p ∉ ps) : ps.idxOf p = ps.length := by
  have h1 := List.idxOf_le_length (a := p) (l := ps)
  have h2 := mt List.idxOf_lt_length_iff.1 h
  omega
structure PutOk (r ps : List Pr2) (l : List Int) (q : List Pr2 × Bool × List Int) : Prop where
  nd : q.1.Nodup
  ext : ∃ t, q.1 = ps ++ t ∧ ∀ x ∈ t, x ∈ r
  mem : ∀ p ∈ r, p ∈ q.1
  num : ∀ i, i ∈ q.2.2 ↔ i ∈ l ∨ ∃ p ∈ r, i = (q.1.idxOf p : Int)
  le : ps.length ≤ 2048 → q.1.length ≤ 2048
/-- numbers of pairs -/
structure MadeOk (next : Pr2 → List Pr2) (start ps : List Pr2) (st : List Int) (nx : List (List Int)) : Prop where
  nd : ps.Nodup
  st0 : ∀ p ∈ start, p ∈ ps
  st1 : ∀ i, i ∈ st ↔ ∃ p ∈ start, i = (ps.idxOf p : Int)
  le : ps.length ≤ 2048
  nxl : nx.length ≤ ps.length
  nx0 : ∀ n, n < nx.length → ∀ p ∈ next (ps.getD n (0, 0)), p ∈ ps
  nx1 : ∀ n, n < nx.length → ∀ i, i ∈ nx.getD n [] ↔ ∃ p ∈ next (ps.getD n (0, 0)), i = (ps.idxOf p : Int)
theorem getDP_left {α : Type} {l t : List α} {j : Nat} {d : α} (h : j < l.length) : (l ++ t).getD j d = l.getD j d := by rw [List.getD_eq_getElem?_getD, List.getD_eq_getElem?_getD, List.getElem?_append_left h]
theorem getDP_last {α : Type} {l : List α} {x d : α} : (l ++ [x]).getD l.length d = x := by rw [List.getD_eq_getElem?_getD, List.getElem?_append_right (Nat.le_refl _)]; simp
theorem idxOf_at {ps : List Pr2} {p : Pr2} (h : p ∈ ps) : ps.idxOf p < ps.length ∧ ps.getD (ps.idxOf p) (0, 0) = p := by
  have hl := List.idxOf_lt_length_iff.2 h
  exact ⟨hl, by rw [List.getD_eq_getElem?_getD, List.getElem?_eq_getElem hl, Option.getD_some, List.getElem_idxOf hl]⟩
/- BITS -/
/- BOTH -/
abbrev LAuto2 := List Int × List (List Int) × List Nat × List Nat × List (List Int)
def AccA (A : LAuto2) (L : Nat → Nat) : Prop := Acc A.1 A.2.1 A.2.2.1 A.2.2.2.1 A.2.2.2.2 L
end Go.Proofs.Ytikigaeihdmcaaa

/-
  Pairs of a world's states and an automaton's: how they are found. Plain lists.
-/
set_option linter.unusedVariables false
set_option linter.unusedSimpArgs false
namespace Go.Proofs.Ytikigaeihdmcaaa

def addF (ps : List Pr2) (p : Pr2) : List Pr2 := if p ∈ ps then ps else ps ++ [p]
def putF (fit : Pr2 → Bool) : List Pr2 → List Pr2 → List Int → List Pr2 × List Int
  | [], ps, l => (ps, l)
  | p :: r, ps, l => if fit p = true then putF fit r (addF ps p) (l ++ [(ps.idxOf p : Int)]) else putF fit r ps l
section
variable {fit : Pr2 → Bool}
theorem addF_mem {ps : List Pr2} {p q : Pr2} : q ∈ addF ps p ↔ q ∈ ps ∨ q = p := by
  unfold addF
  split
  · exact ⟨.inl, fun h => h.elim id (fun h => by subst h; assumption)⟩
  · simp
theorem addF_app {ps : List Pr2} {p : Pr2} : ∃ t, addF ps p = ps ++ t := by
  unfold addF
  split
  · exact ⟨[], by simp⟩
  · exact ⟨[p], rfl⟩
theorem addF_nd {ps : List Pr2} {p : Pr2} (h : ps.Nodup) : (addF ps p).Nodup := by
  unfold addF
  split
  · exact h
  · rename_i hn
    rw [List.nodup_append]
    refine ⟨h, List.pairwise_singleton _ _, fun a ha b hb e => ?_⟩
    rw [List.mem_singleton] at hb
    exact hn (by rw [← hb, ← e]; exact ha)
theorem addF_idx {ps : List Pr2} {p : Pr2} : (addF ps p).idxOf p = ps.idxOf p := by
  unfold addF
  split
  · rfl
  · rename_i hn
    rw [List.idxOf_append, if_neg hn, idxOf_new hn]; simp
structure PutF (fit : Pr2 → Bool) (r ps : List Pr2) (l : List Int) (q : List Pr2 × List Int) : Prop where
  nd : q.1.Nodup
  app : ∃ t, q.1 = ps ++ t
  new : ∀ p ∈ q.1, p ∈ ps ∨ (p ∈ r ∧ fit p = true)
  all : ∀ p ∈ r, fit p = true → p ∈ q.1
  num : ∀ i, i ∈ q.2 ↔ i ∈ l ∨ ∃ p ∈ r, fit p = true ∧ i = (q.1.idxOf p : Int)
  len : q.2.length ≤ l.length + r.length
theorem putF_law : ∀ (r ps : List Pr2) (l : List Int), ps.Nodup → PutF fit r ps l (putF fit r ps l)
  | [], ps, l, h => ⟨h, ⟨[], by simp [putF]⟩, fun p hp => .inl hp, (fun p hp => by cases hp), fun i => by simp [putF], by simp [putF]⟩
  | p :: r, ps, l, h => by
    rw [putF]
    split
    · rename_i hf
      have k := putF_law r (addF ps p) (l ++ [(ps.idxOf p : Int)]) (addF_nd h)
      obtain ⟨t, ht⟩ := k.app
      obtain ⟨t', ht'⟩ := addF_app (ps := ps) (p := p)
      refine ⟨k.nd, ⟨t' ++ t, by rw [ht, ht', List.append_assoc]⟩, fun q hq => ?_, fun q hq hqf => ?_, fun i => ?_, ?_⟩
      · rcases k.new q hq with h1 | h1
        · rcases addF_mem.1 h1 with h1 | h1
          · exact .inl h1
          · subst h1; exact .inr ⟨List.mem_cons_self, hf⟩
        · exact .inr ⟨List.mem_cons_of_mem _ h1.1, h1.2⟩
      · rcases List.mem_cons.1 hq with rfl | hq
        · rw [ht]; exact List.mem_append_left _ (addF_mem.2 (.inr rfl))
        · exact k.all q hq hqf
      · have hix : (putF fit r (addF ps p) (l ++ [(ps.idxOf p : Int)])).1.idxOf p = ps.idxOf p := by
          rw [ht, List.idxOf_append, if_pos (addF_mem.2 (.inr rfl)), addF_idx]
        rw [k.num]
        constructor
        · rintro (h1 | ⟨q, h1, h2, h3⟩)
          · rcases List.mem_append.1 h1 with h1 | h1
            · exact .inl h1
            · rw [List.mem_singleton] at h1
              exact .inr ⟨p, List.mem_cons_self, hf, by rw [hix]; exact h1⟩
          · exact .inr ⟨q, List.mem_cons_of_mem _ h1, h2, h3⟩
        · rintro (h1 | ⟨q, h1, h2, h3⟩)
          · exact .inl (List.mem_append_left _ h1)
          · rcases List.mem_cons.1 h1 with rfl | h1
            · exact .inl (List.mem_append_right _ (by rw [List.mem_singleton, h3, hix]))
            · exact .inr ⟨q, h1, h2, h3⟩
      · have := k.len; simp only [List.length_append, List.length_cons, List.length_nil] at this ⊢; omega
    · rename_i hf
      have k := putF_law r ps l h
      refine ⟨k.nd, k.app, fun q hq => ?_, fun q hq hqf => ?_, fun i => ?_, ?_⟩
      · exact (k.new q hq).imp id fun h1 => ⟨List.mem_cons_of_mem _ h1.1, h1.2⟩
      · rcases List.mem_cons.1 hq with rfl | hq
        · exact absurd hqf hf
        · exact k.all q hq hqf
      · rw [k.num]
        constructor
        · rintro (h1 | ⟨q, h1, h2, h3⟩)
          · exact .inl h1
          · exact .inr ⟨q, List.mem_cons_of_mem _ h1, h2, h3⟩
        · rintro (h1 | ⟨q, h1, h2, h3⟩)
          · exact .inl h1
          · rcases List.mem_cons.1 h1 with rfl | h1
            · exact absurd h2 hf
            · exact .inr ⟨q, h1, h2, h3⟩
      · have := k.len; simp only [List.length_cons] at this ⊢; omega
theorem nodup_lenE : ∀ (n : Nat) (l : List Nat), l.Nodup → (∀ x ∈ l, x < n) → l.length ≤ n
  | 0, l, _, h => by
    cases l with
    | nil => simp
    | cons x r => have := h x (by simp); omega
  | n + 1, l, hd, h => by
    by_cases hn : n ∈ l
    · have h1 := nodup_lenE n (l.erase n) (hd.erase n) (fun x hx => by
        have h2 := (List.Nodup.mem_erase_iff hd).1 hx
        have := h x h2.2; have := h2.1; omega)
      rw [List.length_erase_of_mem hn] at h1
      omega
    · have := nodup_lenE n l hd (fun x hx => by
        have h2 := h x hx
        have : x ≠ n := fun e => hn (e ▸ hx)
        omega)
      omega
end
end Go.Proofs.Ytikigaeihdmcaaa

