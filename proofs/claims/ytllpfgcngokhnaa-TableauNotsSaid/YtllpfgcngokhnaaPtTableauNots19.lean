import Derived.Test.YtllpfgcngokhnaaPtTableauNots18
/-
  Package auto: made: walked.
-/
set_option linter.unusedVariables false
set_option linter.unusedSimpArgs false
namespace Go.Proofs.Ytllpfgcngokhnaa
open Go.RowKit

theorem putP_allQ {Q : Pr2 → Prop} {r ps : List Pr2} {ok : Bool} {l : List Int} (hr : ∀ p ∈ r, Q p) (hp : ∀ p ∈ ps, Q p) : ∀ p ∈ (putP r ps ok l).1, Q p := putP_all r ps ok l hr hp
theorem putP_len : ∀ (r ps : List Pr2) (ok : Bool) (l : List Int), (putP r ps ok l).2.2.length ≤ l.length + r.length
  | [], ps, ok, l => by rw [putP]; simp
  | p :: r, ps, ok, l => by
    rw [putP]
    split
    · refine Nat.le_trans (putP_len r _ _ _) ?_
      have : (addP ps l p).2.length ≤ l.length + 1 := by
        unfold addP
        dsimp only
        split
        · omega
        · simp
      simp only [List.length_cons]; omega
    · refine Nat.le_trans (putP_len r _ _ _) ?_
      simp only [List.length_cons]; omega
/-- the maker while all pairs are made -/
structure MadeI (w0 w : World) (N B B2 sb mb kb tb : Nat) (cl sv nv : Value) (st : List Int) (vs : List Raw) (ps : List Pr2) (ok : Bool) (nx : List (List Int)) : Prop where
  mak : Mk w B ⟨sb, mb, cl, sv, nv, .slice none 0 0, .slice none 0 0, .slice none 0 0⟩ ps
  hk : Blk w kb 4 [.bool ok]
  ht : Blk w tb 107 [.pointer (some ⟨sb, 0, none⟩)]
  hn : Own w B2 22 Non nv vs
  inn : InnR w (fun b => b = sb ∨ b = mb ∨ cl.ownBlock = some b ∨ b = kb ∨ nv.ownBlock = some b ∨ b < N) vs nx
  hs : ∃ so sc, sv = .slice so st.length sc ∧ Sl w (Fz w (fun b => b = sb ∨ b = mb ∨ cl.ownBlock = some b ∨ b = kb ∨ nv.ownBlock = some b ∨ b < N)) so sc st
  chg : Chg (fun b => b = sb ∨ b = mb) w0 w
  cln : ∀ g, cl.ownBlock = some g → w0.heap.size ≤ g ∧ g ≠ kb ∧ g ≠ tb
  clv : ∀ g, cl.ownBlock = some g → nv.ownBlock ≠ some g
set_option maxHeartbeats 4000000 in
theorem made_ok (w0 : World) {N B sb mb : Nat} {start : List Pr2} {F : Nat → Prop} {po : Option Addr} {pc : Nat} {fv : Value} {next : Pr2 → List Pr2} {Q : Pr2 → Prop}
    (h : Mk w0 B ⟨sb, mb, .slice none 0 0, .slice none 0 0, .slice none 0 0, .slice none 0 0, .slice none 0 0, .slice none 0 0⟩ []) (hB : B ≤ w0.heap.size) (hNB : N ≤ B) (hs : Sl w0 F po pc start) (hF : ∀ b, F b → b < w0.heap.size ∧ b ≠ sb ∧ b ≠ mb)
    (hsm : ∀ p ∈ start, Q p) (hlen : start.length ≤ 1099511627776) (hQ : ∀ p, Q p → SmP p) (hnext : ∀ p, Q p → (∀ x ∈ next p, Q x) ∧ (next p).length ≤ 1099511627776)
    (hfn : ∀ w p, Chg (fun b => b = sb ∨ b = mb) w0 w → Q p → FnV Try.prog fv [prV p] w fun v w' => Own w' w.heap.size 105 Non v (next p) ∧ Ext w w') :
    Rt Try.prog 59 [.pointer (some ⟨sb, 0, none⟩), .slice po start.length pc, fv].toArray w0 fun v w' => ∃ lo lc so sc no nc, v = .bool (madeE next start).2.1 ∧
      Blk w' sb 110 [.map (some mb), .slice lo (madeE next start).1.length lc, .slice so (madeS start).length sc, .slice no (madeE next start).2.2.length nc, .slice none 0 0, .slice none 0 0, .slice none 0 0] ∧
      Sl w' (Fz w' (fun b => b = sb ∨ b < N)) lo lc (madeE next start).1 ∧ Sl w' (Fz w' (fun b => b = sb ∨ b < N)) so sc (madeS start) ∧ Sl w' (Fz w' (fun b => b = sb ∨ b < N)) no nc (madeE next start).2.2 ∧ Chg (fun b => b = sb ∨ b = mb) w0 w' := by
  have hsb0 := h.blk.lt
  have hmb0 := h.num.lt
  dsimp only at hsb0 hmb0
  have hne := h.ne
  dsimp only at hne
  refine Rt.enter3 Try.func59 Try.ntmps59 rfl rfl ?_
  (repeat (first | (apply CW.seq) | (apply CW.region)))
  refine WL.boxB rfl rfl rfl fun w1 htb e1 => ?_
  have z1 := htb.lt
  (repeat (first | (apply WL.pure; rfl; rfl; rfl) | (apply WL.nil) | (apply EX.thenN) | (apply CW.seq) | (apply CW.region)))
  refine WL.alloc rfl rfl (fun w2 hkb e2 => ?_)
  skip
  refine WL.st rfl rfl rfl hkb rfl rfl (ones_of rfl) (fun w3 hkb hg3 => ?_)
  have e3 : Ext w1 w3 := Below.grown e2 hg3 e2.size (fun g hg => by cases hg; exact Nat.le_refl _)
  have htb := htb.ext e3
  have hE := e1.trans e3
  have z2 := hkb.lt
  have y1 := e1.size
  have y3 := e3.size
  clear e2 hg3
  have hM3 := h.ext hE
  generalize hkbn : w1.heap.size = kb at *
  generalize htbn : w0.heap.size = tb at *
  (repeat (first | (apply WL.pure; rfl; rfl; rfl) | (apply WL.nil) | (apply EX.thenN) | (apply CW.seq) | (apply CW.region) | (apply WL.makeFunc; rfl; rfl; rfl; rfl)))
  have hD : Ext w3 (drew w3) := Ext.drew w3
  have htbd := htb.ext hD
  have hK1 : ∀ u, (fun z : World => z.heap[tb]? = (drew w3).heap[tb]?) u → u.heap[tb]? = (drew w3).heap[tb]? := fun _ h => h
  refine CW.drawE (fun z : World => z.heap[tb]? = (drew w3).heap[tb]?) [(0, true), (1, true), (2, true), (3, false), (4, false), (5, false), (6, false)] 7 mixed (by kernel_rfl) rfl ?_
  (repeat (first | (apply HL.pure; rfl; rfl; rfl; rfl) | (refine HL.ldK (by assumption) rfl rfl rfl rfl (by assumption) rfl ?_)))
  have hput := put_ok (drew w3) (hM3.ext hD) (hkb.ext hD) htbd (hs.mono (fun b hb => (hE.trans hD).block b (by have := (hF b hb).1; omega)) (fun _ h => h)) (fun b hb => ⟨by have := (hF b hb).1; have := hD.size; omega, (hF b hb).2.1, (hF b hb).2.2, (fun e => by cases e), (by have := (hF b hb).1; omega)⟩)
    ⟨by dsimp only; omega, by dsimp only; omega, fun e => by cases e⟩ ⟨by dsimp only; omega, by dsimp only; omega, (fun e => by cases e), by omega⟩ (by have := hD.size; omega) (fun p hp => hQ p (hsm p hp)) (fun _ => by simp) (by simp) hlen
  dsimp only at hput
  refine HL.mut rfl (WL.callV (fv := []) rfl rfl rfl rfl hput ?_)
  rintro sv w4 ⟨cl, hM4, hk4, ho4, hC4, n1, d1⟩
  clear hput
  obtain ⟨so, sc, rfl⟩ := ho4.val
  have z4 := hC4.size
  have zd := hD.size
  have hlo4 := fun g hg => ho4.lt g hg
  have hS4 : w4.heap[tb]? = (drew w3).heap[tb]? := hC4.block tb (by omega) (fun h => by
    rcases h with h | h | h | h
    · omega
    · omega
    · cases h
    · omega)
  refine WL.nil (EX.mut hS4 ?_)
  refine HL.mut rfl (WL.nck rfl rfl rfl (WL.nil (EX.mut hS4 ?_)))
  refine HL.mut rfl (WL.fa rfl rfl rfl (WL.nil (EX.mut hS4 ?_)))
  refine HL.mut rfl (WL.fa rfl rfl rfl (WL.nil (EX.mut hS4 (HL.nil ?_))))
  have hblk4 := hM4.blk
  dsimp only at hblk4
  refine EX.tail rfl (WL.st rfl rfl rfl hblk4 rfl rfl (ones_of rfl) (fun w5 hblk5 hg5 => WL.nil (EX.tailE ?_)))
  have z5 := hg5.size
  have hlps := hM4.lo.lt
  dsimp only at hlps
  have hcn : ∀ g, cl.ownBlock = some g → w3.heap.size ≤ g := fun g hg => by
    rcases n1 g hg with h | h
    · cases h
    · omega
  have hC35 : Chg (fun b => b = sb ∨ b = mb) w0 w5 := ((Chg.of_ext (fun b => b = sb ∨ b = mb) (hE.trans hD)).then hC4 (fun b h => by
    rcases h with h | h | h | h
    · exact .inl (.inl h)
    · exact .inl (.inr h)
    · cases h
    · exact .inr (by omega))).grown hg5 (fun g hg => by cases hg; exact .inl rfl)
  have hkb5 : kb < w5.heap.size ∧ tb < w5.heap.size := by omega
  have hI : MadeI w0 w5 N B w5.heap.size sb mb kb tb cl (.slice so (madeS start).length sc) (.slice none 0 0) (madeS start) [] (putP start [] true []).1 (putP start [] true []).2.1 [] := by
    refine ⟨⟨hblk5, hM4.num.kept hg5 (fun e => hne (Option.some.inj e).symm), hM4.lo.keptN hg5 (fun g hg e => (hM4.nl g hg).1 (Option.some.inj e)), h.ge, hne, hM4.nl, hM4.nd, hM4.sm⟩, hk4.kept hg5 (fun e => by have := Option.some.inj e; omega),
      (hS4.trans htbd |> fun h : Blk w4 tb _ _ => h.kept hg5 (fun e => by have := Option.some.inj e; omega)), Own.nil, InnR.nil, ⟨so, sc, rfl, ?_⟩, hC35, fun g hg => ⟨by have := hcn g hg; omega, by have := hcn g hg; omega, by have := hcn g hg; omega⟩, fun g _ e => by cases e⟩
    have ho5 := ho4.keptN hg5 (fun g hg e => by have := (hlo4 g hg).1; have := Option.some.inj e; omega)
    obtain ⟨a, b, e, hsl⟩ := ho5.slF (F' := Fz w5 (fun b => b = sb ∨ b = mb ∨ cl.ownBlock = some b ∨ b = kb ∨ Value.ownBlock (.slice none 0 0) = some b ∨ b < N)) (fun _ h => h.elim) (fun g hg => ⟨(ho5.lt g hg).2.1, fun h => by
      have := (hlo4 g hg).1
      rcases h with h | h | h | h | h | h
      · omega
      · omega
      · exact d1 g hg h
      · omega
      · cases h
      · omega⟩)
    obtain ⟨rfl, _, rfl⟩ := Value.slice.inj e
    exact hsl
  have hps0 := putP_sizes start [] true [] (fun _ => by simp) (by simp)
  have hal0 : ∀ p ∈ (putP start [] true []).1, Q p := putP_allQ hsm (fun p hp => by cases hp)
  have hmade : madeGo next 2049 0 (putP start [] true []).1 (putP start [] true []).2.1 [] = madeE next start := rfl
  rw [← hmade]
  generalize (putP start [] true []).1 = ps0 at *
  generalize (putP start [] true []).2.1 = ok0 at *
  clear hC4 hM4 hk4 ho4 d1 n1 hlo4 hlps hS4 hblk4 hblk5 hg5 hC35 hM3 htbd hK1 hcn hmade htb hkb hD hE e1 e3 hs hF hsm
  have hz0 : w0.heap.size ≤ w5.heap.size := hI.chg.size
  apply EX.thenN
  (repeat (first | (apply WL.pure; rfl; rfl; rfl) | (apply WL.nil) | (apply EX.thenN) | (apply CW.seq) | (apply CW.region) | (apply CW.block)))
  refine CW.loop (S := Nat × Value × Value × List Raw × List Pr2 × Bool × List (List Int)) (fun s => [(2, fv), (3, .pointer (some ⟨tb, 0, none⟩)), (7, .pointer (some ⟨kb, 0, none⟩)), (8, .func (.func 113) #[] #[.pointer (some ⟨kb, 0, none⟩), .pointer (some ⟨tb, 0, none⟩)]), (9, .int .i64 s.1)])
    (fun s w => s.1 ≤ 2049 ∧ madeGo next (2049 - s.1) s.1 s.2.2.2.2.1 s.2.2.2.2.2.1 s.2.2.2.2.2.2 = madeGo next 2049 0 ps0 ok0 [] ∧ MadeI w0 w N B w5.heap.size sb mb kb tb s.2.1 (.slice so (madeS start).length sc) s.2.2.1 (madeS start) s.2.2.2.1 s.2.2.2.2.1 s.2.2.2.2.2.1 s.2.2.2.2.2.2 ∧ s.2.2.2.1.length = s.1 ∧
      (∀ p ∈ s.2.2.2.2.1, Q p) ∧ (s.2.2.2.2.2.1 = true → s.2.2.2.2.1.length ≤ 2048) ∧ s.2.2.2.2.1.length ≤ 2049 ∧ w5.heap.size ≤ w.heap.size)
    (fun s => 2049 - s.1) (0, cl, .slice none 0 0, [], ps0, ok0, []) (by repeat (first | exact trivial | refine ⟨rfl, ?_⟩)) ⟨Nat.zero_le _, rfl, hI, rfl, hal0, hps0.2, hps0.1, Nat.le_refl _⟩ ?_
  clear hI hal0 hps0
  rintro ⟨n, cl, nv, vs, ps, ok, nx⟩ w6 ⟨hn, hT, hI, hvl, hal, ho1, ho2, z6⟩
  dsimp only at hn hT hI hvl hal ho1 ho2 z6 ⊢
  have hblk := hI.mak.blk
  dsimp only at hblk
  have hkb := hI.hk
  have htb := hI.ht
  have lkb := hkb.lt
  have ltb := htb.lt
  obtain ⟨lo, lc, rfl⟩ := hI.mak.lo.val
  obtain ⟨no, nc, rfl⟩ := hI.hn.val
  have fin : ∀ (hx : madeGo next (2049 - n) n ps ok nx = (ps, ok, nx)) (w7 : World) (e7 : Ext w6 w7), ∃ lo lc so sc no nc, Value.bool ok = .bool (madeGo next 2049 0 ps0 ok0 []).2.1 ∧
      Blk w7 sb 110 [.map (some mb), .slice lo (madeGo next 2049 0 ps0 ok0 []).1.length lc, .slice so (madeS start).length sc, .slice no (madeGo next 2049 0 ps0 ok0 []).2.2.length nc, .slice none 0 0, .slice none 0 0, .slice none 0 0] ∧
      Sl w7 (Fz w7 (fun b => b = sb ∨ b < N)) lo lc (madeGo next 2049 0 ps0 ok0 []).1 ∧ Sl w7 (Fz w7 (fun b => b = sb ∨ b < N)) so sc (madeS start) ∧ Sl w7 (Fz w7 (fun b => b = sb ∨ b < N)) no nc (madeGo next 2049 0 ps0 ok0 []).2.2 ∧ Chg (fun b => b = sb ∨ b = mb) w0 w7 := by
    intro hx w7 e7
    rw [← hT, hx]
    obtain ⟨so', sc', es, hss⟩ := hI.hs
    obtain ⟨rfl, _, rfl⟩ := Value.slice.inj es
    have hnl := fun g hg => hI.hn.lt g hg
    have hll := fun g hg => hI.mak.lo.lt g hg
    have hlx := fun g hg => hI.cln g hg
    dsimp only at hll
    obtain ⟨no', nc', en, hns⟩ := hI.inn.sl (F := Fz w6 (fun b => b = sb ∨ b < N)) hI.hn (fun b hb => ⟨hb.1, fun h => hb.2 (h.elim .inl fun h => .inr (.inr (.inr (.inr (.inr h)))))⟩) (fun g hg => ⟨(hnl g hg).2.1, by have := (hnl g hg).1; omega⟩)
    obtain ⟨rfl, hvl2, rfl⟩ := Value.slice.inj en
    obtain ⟨lo', lc', el, hls⟩ := hI.mak.lo.slF (F' := Fz w6 (fun b => b = sb ∨ b < N)) (fun _ h => h.elim) (fun g hg => ⟨(hll g hg).2.1, by have := (hlx g hg).1; omega⟩)
    obtain ⟨rfl, _, rfl⟩ := Value.slice.inj el
    have hb7 := hblk.ext e7
    rw [hvl2] at hb7
    have hC7 : Chg (fun b => b = sb ∨ b < N) w6 w7 := Chg.of_ext _ e7
    exact ⟨lo, lc, so, sc, no, nc, rfl, hb7, hls.fz hC7 (fun _ h => .inl h), (hss.mono (F' := Fz w6 (fun b => b = sb ∨ b < N)) (fun _ _ => rfl) (fun b hb => ⟨hb.1, fun h => hb.2 (h.elim .inl fun h => .inr (.inr (.inr (.inr (.inr h)))))⟩)).fz hC7 (fun _ h => .inl h), hns.fz hC7 (fun _ h => .inl h), hI.chg.trans (Chg.of_ext _ e7)⟩
  cases ok with
  | false =>
    have hx : madeGo next (2049 - n) n ps false nx = (ps, false, nx) := by
      cases 2049 - n with
      | zero => rfl
      | succ f => rw [madeGo, if_neg (by simp)]
    (repeat (first | (apply WL.pure; rfl; rfl; rfl) | (apply WL.nil) | (apply EX.thenN) | (apply CW.seq) | (apply CW.region) | (apply WL.pass; rfl; rfl) | (apply WL.ld; rfl; rfl; rfl; assumption; rfl) | (apply CW.condF; rfl) | (apply CW.exit) | (apply EX.thenX) | (apply EX.inX) | (apply CW.ret)))
    exact EX.ret1 rfl rfl (fin hx w6 (Ext.refl _))
  | true =>
  have hp8 := ho1 rfl
  by_cases hnp : n < ps.length
  case neg =>
    have hx : madeGo next (2049 - n) n ps true nx = (ps, true, nx) := by
      cases 2049 - n with
      | zero => rfl
      | succ f => rw [madeGo, if_neg (by simp; omega)]
    (repeat (first | (apply WL.pure; rfl; rfl; rfl) | (apply WL.nil) | (apply EX.thenN) | (apply CW.seq) | (apply CW.region) | (apply WL.lenS; rfl; rfl; rfl) | (apply WL.fa; rfl; rfl; rfl) | (apply WL.nck; rfl; rfl; rfl) | (apply WL.ld; rfl; rfl; rfl; assumption; rfl)))
    rw [decide_eq_false (show ¬ ((n : Int) < (ps.length : Int)) by omega)]
    (repeat (first | (apply WL.pure; rfl; rfl; rfl) | (apply WL.nil) | (apply EX.thenN) | (apply CW.seq) | (apply CW.region) | (apply WL.ld; rfl; rfl; rfl; assumption; rfl) | (apply CW.condF; rfl) | (apply CW.exit) | (apply EX.thenX) | (apply EX.inX) | (apply CW.ret)))
    exact EX.ret1 rfl rfl (fin hx w6 (Ext.refl _))
  clear fin
  (repeat (first | (apply WL.pure; rfl; rfl; rfl) | (apply WL.nil) | (apply EX.thenN) | (apply CW.seq) | (apply CW.region) | (apply WL.lenS; rfl; rfl; rfl) | (apply WL.fa; rfl; rfl; rfl) | (apply WL.nck; rfl; rfl; rfl) | (apply WL.ld; rfl; rfl; rfl; assumption; rfl)))
  rw [decide_eq_true (show ((n : Int) < (ps.length : Int)) by omega)]
  (repeat (first | (apply EX.thenN) | (apply CW.seq) | (apply CW.block) | (apply CW.condT; rfl) | (apply CW.skip)))
  obtain ⟨f, hf⟩ : ∃ f, 2049 - n = f + 1 := ⟨2048 - n, by omega⟩
  have hpn : ps.getD n (0, 0) = ps[n] := by rw [List.getD_eq_getElem?_getD, List.getElem?_eq_getElem hnp]; rfl
  rw [hf, madeGo, if_pos ⟨rfl, hnp⟩, hpn] at hT
  have hQp := hal _ (List.getElem_mem hnp)
  obtain ⟨hnQ, hnl⟩ := hnext _ hQp
  have hll := fun g hg => hI.mak.lo.lt g hg
  have hlx := fun g hg => hI.cln g hg
  have hlv := fun g hg => hI.clv g hg
  have hnlt := fun g hg => hI.hn.lt g hg
  dsimp only at hll
  have hD : Ext w6 (drew w6) := Ext.drew w6
  have zd : (drew w6).heap.size = w6.heap.size := rfl
  have htbd := htb.ext hD
  have hblkd := hblk.ext hD
  have lsb := hblk.lt
  obtain ⟨lo', lc', el, hlsl⟩ := (hI.mak.lo.extN hD).sl
  obtain ⟨rfl, _, rfl⟩ := Value.slice.inj el
  have hK0 : ∀ u, (fun z : World => z.heap[tb]? = (drew w6).heap[tb]? ∧ ∃ lv, Blk z sb 110 [.map (some mb), lv, .slice so (madeS start).length sc, .slice no vs.length nc, .slice none 0 0, .slice none 0 0, .slice none 0 0]) u → u.heap[tb]? = (drew w6).heap[tb]? := fun _ h => h.1
  have hK1 : ∀ u, (fun z : World => z.heap[tb]? = (drew w6).heap[tb]? ∧ z.heap[sb]? = (drew w6).heap[sb]? ∧ ∀ b, (Non b ∨ Value.ownBlock (.slice lo ps.length lc) = some b) → z.heap[b]? = (drew w6).heap[b]?) u → u.heap[tb]? = (drew w6).heap[tb]? := fun _ h => h.1
  have hK2 : ∀ u, (fun z : World => z.heap[tb]? = (drew w6).heap[tb]? ∧ z.heap[sb]? = (drew w6).heap[sb]? ∧ ∀ b, (Non b ∨ Value.ownBlock (.slice lo ps.length lc) = some b) → z.heap[b]? = (drew w6).heap[b]?) u → u.heap[sb]? = (drew w6).heap[sb]? := fun _ h => h.2.1
  refine CW.drawP 16 22 (fun z : World => z.heap[tb]? = (drew w6).heap[tb]? ∧ ∃ lv, Blk z sb 110 [.map (some mb), lv, .slice so (madeS start).length sc, .slice no vs.length nc, .slice none 0 0, .slice none 0 0, .slice none 0 0])
    (fun z : World => z.heap[tb]? = (drew w6).heap[tb]? ∧ z.heap[sb]? = (drew w6).heap[sb]? ∧ ∀ b, (Non b ∨ Value.ownBlock (.slice lo ps.length lc) = some b) → z.heap[b]? = (drew w6).heap[b]?)
    (toP 1 [(0, true), (1, true), (2, true), (3, true), (4, true), (5, true), (6, true), (7, true), (8, true), (9, true), (10, true), (12, true)] ++ (toP 2 [(11, true), (13, true), (14, true)] ++ [(15, 0), (16, 0), (17, 0), (18, 0), (19, 1), (20, 1), (21, 1), (22, 3)])) mixed (by kernel_rfl) ⟨rfl, _, hblkd⟩ ⟨rfl, rfl, fun _ _ => rfl⟩ ?_
  refine HP.weak [(0, true), (1, true), (2, true), (3, true), (4, true), (5, true), (6, true), (7, true), (8, true), (9, true), (10, true), (12, true)] rfl ?_
  (repeat (first | (refine HL.fa rfl rfl rfl rfl ?_) | (apply HL.nck; rfl; rfl; rfl; rfl) | (refine HL.ldK (by assumption) rfl rfl rfl rfl (by assumption) rfl ?_)))
  refine HL.ldC (v := .slice no vs.length nc) (fun z hz => by obtain ⟨_, lv, hb⟩ := hz; exact ⟨_, _, hb, rfl⟩) rfl rfl rfl rfl ?_
  (repeat (first | (apply HL.pure; rfl; rfl; rfl; rfl) | (refine HL.fa rfl rfl rfl rfl ?_) | (apply HL.nck; rfl; rfl; rfl; rfl) | (refine HL.ldK (by assumption) rfl rfl rfl rfl (by assumption) rfl ?_) | (apply HL.nil)))
  refine EX.rest ?_
  refine HP.early [(11, true), (13, true), (14, true)] rfl ?_
  (repeat (refine HL.ldK (by assumption) rfl rfl rfl rfl (by assumption) rfl ?_))
  refine HL.elemK (k := n) (fun z hz => hz.2.2) rfl rfl rfl rfl rfl rfl rfl hlsl hnp (fun _ => rfl) (fun u q hu => ?_)
  rw [rd_pr2 hu]
  clear hu
  generalize ps[n] = p at *
  (repeat (apply HL.nil))
  refine EX.rest ?_
  -- the next pairs
  have hC6 : Chg (fun b => b = sb ∨ b = mb) w0 (drew w6) := hI.chg.trans (Chg.of_ext _ hD)
  refine HP.mut rfl (WL.callF rfl rfl rfl rfl (hfn (drew w6) p hC6 hQp) ?_)
  rintro rv w7 ⟨hor, e7⟩
  obtain ⟨ro, rc, rfl⟩ := hor.val
  have z7 := e7.size
  have hblk7 := hblkd.ext e7
  have htb7 := htbd.ext e7
  refine WL.nil (EX.mutP (ph := false) ⟨e7.block tb (by omega), _, hblk7⟩ (fun _ => ⟨e7.block tb (by omega), e7.block sb (by omega), fun b hb => e7.block b (hb.elim (fun h => h.elim) (fun h => by have := (hll b h).2.1; omega))⟩) ?_)
  -- their numbers
  have hM7 := (hI.mak.ext hD).ext e7
  have hrs : Sl w7 (fun b => Non b ∨ Value.ownBlock (.slice ro (next p).length rc) = some b) ro rc (next p) := by
    obtain ⟨a, b, e, hsl⟩ := hor.sl
    obtain ⟨rfl, _, rfl⟩ := Value.slice.inj e
    exact hsl
  have hlr := fun g hg => hor.lt g hg
  have lmb := hI.mak.num.lt
  dsimp only at lmb
  have hput := put_ok w7 (ok := true) hM7 ((hkb.ext hD).ext e7) htb7 hrs (fun b hb => hb.elim (fun h => h.elim) (fun hb => ⟨(hlr b hb).2.1, by have := (hlr b hb).1; dsimp only; omega, by have := (hlr b hb).1; dsimp only; omega, fun e => by have := (hlr b hb).1; have := (hll b e).2.1; omega, by have := (hlr b hb).1; omega⟩))
    ⟨by dsimp only; omega, by dsimp only; omega, fun e => (hlx kb e).2.1 rfl⟩ ⟨by dsimp only; omega, by dsimp only; omega, fun e => (hlx tb e).2.2 rfl, by omega⟩ (by omega) (fun x hx => hQ x (hnQ x hx)) (fun _ => hp8) ho2 hnl
  dsimp only at hput
  refine HP.mut rfl (WL.callV (fv := []) rfl rfl rfl rfl hput ?_)
  rintro uv w8 ⟨cl', hM8, hk8, ho8, hC8, n1, d1⟩
  clear hput
  obtain ⟨uo, uc, rfl⟩ := ho8.val
  have z8 := hC8.size
  have hlu := fun g hg => ho8.lt g hg
  have hS8 : w8.heap[tb]? = w7.heap[tb]? := hC8.block tb (by omega) (fun h => by
    rcases h with h | h | h | h
    · omega
    · omega
    · exact (hlx tb h).2.2 rfl
    · omega)
  have hblk8 := hM8.blk
  dsimp only at hblk8
  have hb87 : w8.heap[tb]? = (drew w6).heap[tb]? := hS8.trans (e7.block tb (by omega))
  refine WL.nil (EX.mutP (ph := true) ⟨hb87, _, hblk8⟩ (fun h => by cases h) ?_)
  have hn8 : Own w8 w5.heap.size 22 Non (.slice no vs.length nc) vs := ((hI.hn.extN hD).extN e7).keep (fun g hg => hC8.block g (by have := (hnlt g hg).2.1; omega) (fun h => by
    have hx := hnlt g hg
    rcases h with h | h | h | h
    · omega
    · omega
    · exact hlv g h hg
    · omega)) (fun _ h => h.elim)
  have hlc := fun g hg => hM8.lo.lt g hg
  dsimp only at hlc
  refine HP.app1 (α := Raw) (F := Non) (bytes := 24) (yv := (⟨.slice uo (putP (next p) ps true []).2.2.length uc⟩ : Raw)) rfl rfl rfl rfl (fun _ => rfl) rfl rfl (fun _ => rfl) hn8 (Rd.mkRaw _ _ _ rfl) (by omega) (fun _ h => h.elim) (by decide) (by unfold maxLen; omega) (by omega)
    (fun z hz => ⟨(hz.block tb (by omega) (fun e => by have := hnlt tb e.symm; omega)).trans hb87, _, hblk8.kept hz (fun e => by have := hnlt sb e.symm; omega)⟩) (fun nv' w9 q9 ho9 hg9 hnb9 => ?_)
  obtain ⟨no', nc', rfl⟩ := ho9.val
  have hblk9 := hblk8.kept hg9 (fun e => by have := hnlt sb e.symm; omega)
  have z9 := hg9.size
  have hSE9 : (fun z : World => z.heap[tb]? = (drew w6).heap[tb]? ∧ ∃ lv, Blk z sb 110 [.map (some mb), lv, .slice so (madeS start).length sc, .slice no vs.length nc, .slice none 0 0, .slice none 0 0, .slice none 0 0]) w9 := ⟨(hg9.block tb (by omega) (fun e => by have := hnlt tb e.symm; omega)).trans hb87, _, hblk9⟩
  refine HP.weak (r := [(22, 3)]) [(19, true), (20, true), (21, true)] rfl ?_
  (repeat (first | (refine HL.fa rfl rfl rfl rfl ?_) | (apply HL.nck; rfl; rfl; rfl; rfl) | (apply HL.nil)))
  refine EX.rest ?_
  refine HP.last rfl (WL.st rfl rfl rfl hblk9 rfl rfl (ones_of rfl) (fun w10 hblk10 hg10 => WL.nil (EX.tailE ?_)))
  have hcl8 : ∀ g, cl'.ownBlock = some g → (Value.ownBlock (.slice lo ps.length lc) = some g ∨ w7.heap.size ≤ g) ∧ g < w8.heap.size := fun g hg => ⟨n1 g hg, (hlc g hg).2.1⟩
  have hclx : ∀ g, cl'.ownBlock = some g → Value.ownBlock (.slice no vs.length nc) ≠ some g := fun g hg e => by
    rcases (hcl8 g hg).1 with h | h
    · exact hlv g h e
    · have := (hnlt g e).2.1; omega
  -- what is kept
  have hC68 : Chg (fun b => b = sb ∨ b = mb ∨ Value.ownBlock (.slice lo ps.length lc) = some b ∨ b = kb ∨ Value.ownBlock (.slice no vs.length nc) = some b) w6 w8 := (Chg.of_ext _ (hD.trans e7)).trans (hC8.wk (fun b h => by
    rcases h with h | h | h | h
    · exact .inl h
    · exact .inr (.inl h)
    · exact .inr (.inr (.inl h))
    · exact .inr (.inr (.inr (.inl h)))))
  have hM68 : ∀ b, (b = sb ∨ b = mb ∨ cl'.ownBlock = some b ∨ b = kb ∨ Value.ownBlock (.slice no vs.length nc) = some b ∨ b < N) → (b = sb ∨ b = mb ∨ Value.ownBlock (.slice lo ps.length lc) = some b ∨ b = kb ∨ Value.ownBlock (.slice no vs.length nc) = some b ∨ b < N) ∨ w6.heap.size ≤ b := fun b h => by
    rcases h with h | h | h | h | h | h
    · exact .inl (.inl h)
    · exact .inl (.inr (.inl h))
    · rcases (hcl8 b h).1 with h | h
      · exact .inl (.inr (.inr (.inl h)))
      · exact .inr (by omega)
    · exact .inl (.inr (.inr (.inr (.inl h))))
    · exact .inl (.inr (.inr (.inr (.inr (.inl h)))))
    · exact .inl (.inr (.inr (.inr (.inr (.inr h)))))
  have hrow : Rd w8 (Fz w8 (fun b => b = sb ∨ b = mb ∨ cl'.ownBlock = some b ∨ b = kb ∨ Value.ownBlock (.slice no vs.length nc) = some b ∨ b < N)) (.slice uo (putP (next p) ps true []).2.2.length uc) (putP (next p) ps true []).2.2 :=
    ho8.rd.mono (fun _ _ => rfl) (fun g hg => hg.elim (fun h => h.elim) (fun hg => ⟨(hlu g hg).2.1, fun h => by
      have h1 := (hlu g hg).1
      rcases h with h | h | h | h | h | h
      · omega
      · omega
      · exact d1 g hg h
      · omega
      · have := (hnlt g h).2.1; omega
      · omega⟩))
  have hW68 : Chg (fun b => b = sb ∨ b = mb ∨ Value.ownBlock (.slice lo ps.length lc) = some b ∨ b = kb ∨ Value.ownBlock (.slice no vs.length nc) = some b ∨ b < N) w6 w8 := hC68.wk (fun b h => by
    rcases h with h | h | h | h | h
    · exact .inl h
    · exact .inr (.inl h)
    · exact .inr (.inr (.inl h))
    · exact .inr (.inr (.inr (.inl h)))
    · exact .inr (.inr (.inr (.inr (.inl h)))))
  have hin8 := (hI.inn.to hW68 hM68).push hrow
  have hC810 : Chg (fun b => b = sb ∨ b = mb ∨ cl'.ownBlock = some b ∨ b = kb ∨ Value.ownBlock (.slice no vs.length nc) = some b) w8 w10 := ((Chg.of_grown hg9).wk (fun b h => .inr (.inr (.inr (.inr h))))).grown hg10 (fun g hg => by cases hg; exact .inl rfl)
  have hM810 : ∀ b, (b = sb ∨ b = mb ∨ cl'.ownBlock = some b ∨ b = kb ∨ Value.ownBlock (.slice no' (vs ++ [(⟨.slice uo (putP (next p) ps true []).2.2.length uc⟩ : Raw)]).length nc') = some b ∨ b < N) → (b = sb ∨ b = mb ∨ cl'.ownBlock = some b ∨ b = kb ∨ Value.ownBlock (.slice no vs.length nc) = some b ∨ b < N) ∨ w8.heap.size ≤ b := fun b h => by
    rcases h with h | h | h | h | h | h
    · exact .inl (.inl h)
    · exact .inl (.inr (.inl h))
    · exact .inl (.inr (.inr (.inl h)))
    · exact .inl (.inr (.inr (.inr (.inl h))))
    · rcases hnb9 b h with h | h
      · exact .inl (.inr (.inr (.inr (.inr (.inl h)))))
      · exact .inr h
    · exact .inl (.inr (.inr (.inr (.inr (.inr h)))))
  have hW810 : Chg (fun b => b = sb ∨ b = mb ∨ cl'.ownBlock = some b ∨ b = kb ∨ Value.ownBlock (.slice no vs.length nc) = some b ∨ b < N) w8 w10 := hC810.wk (fun b h => by
    rcases h with h | h | h | h | h
    · exact .inl h
    · exact .inr (.inl h)
    · exact .inr (.inr (.inl h))
    · exact .inr (.inr (.inr (.inl h)))
    · exact .inr (.inr (.inr (.inr (.inl h)))))
  obtain ⟨so', sc', es, hss⟩ := hI.hs
  obtain ⟨rfl, _, rfl⟩ := Value.slice.inj es
  have hI10 : MadeI w0 w10 N B w5.heap.size sb mb kb tb cl' (.slice so (madeS start).length sc) (.slice no' (vs ++ [(⟨.slice uo (putP (next p) ps true []).2.2.length uc⟩ : Raw)]).length nc') (madeS start) (vs ++ [(⟨.slice uo (putP (next p) ps true []).2.2.length uc⟩ : Raw)]) (putP (next p) ps true []).1 (putP (next p) ps true []).2.1 (nx ++ [(putP (next p) ps true []).2.2]) := by
    refine ⟨⟨hblk10, (hM8.num.kept hg9 (fun e => by have := hnlt mb e.symm; omega)).kept hg10 (fun e => hne (Option.some.inj e).symm), (hM8.lo.keptN hg9 (fun g hg e => hclx g hg e.symm)).keptN hg10 (fun g hg e => (hM8.nl g hg).1 (Option.some.inj e)), h.ge, hne, hM8.nl, hM8.nd, hM8.sm⟩,
      (hk8.kept hg9 (fun e => by have := hnlt kb e.symm; omega)).kept hg10 (fun e => by have := Option.some.inj e; omega), ?_, ho9.keptN hg10 (fun g hg e => by
        have := Option.some.inj e
        rcases hnb9 g hg with h | h
        · have := (hnlt g h).1; omega
        · omega), hin8.to hW810 hM810, ⟨so, sc, rfl, (hss.fz hW68 hM68).fz hW810 hM810⟩, ?_, fun g hg => ?_, fun g hg e => ?_⟩
    · have hb8 : Blk w8 tb 107 [.pointer (some ⟨sb, 0, none⟩)] := hS8.trans htb7
      exact (hb8.kept hg9 (fun e => by have := hnlt tb e.symm; omega)).kept hg10 (fun e => by have := Option.some.inj e; omega)
    · refine (hI.chg.then hC68 (fun b h => ?_)).then hC810 (fun b h => ?_)
      · rcases h with h | h | h | h | h
        · exact .inl (.inl h)
        · exact .inl (.inr h)
        · exact .inr (hlx b h).1
        · exact .inr (by omega)
        · exact .inr (by have := (hnlt b h).1; omega)
      · rcases h with h | h | h | h | h
        · exact .inl (.inl h)
        · exact .inl (.inr h)
        · rcases (hcl8 b h).1 with h | h
          · exact .inr (hlx b h).1
          · exact .inr (by omega)
        · exact .inr (by omega)
        · exact .inr (by have := (hnlt b h).1; omega)
    · rcases (hcl8 g hg).1 with h | h
      · exact hlx g h
      · exact ⟨by omega, by omega, by omega⟩
    · rcases hnb9 g e with h | h
      · exact hclx g hg h
      · have := (hcl8 g hg).2; omega
  have z10 : w9.heap.size ≤ w10.heap.size := hg10.size
  have hsz := putP_sizes (next p) ps true [] (fun _ => hp8) ho2
  have hal' : ∀ x ∈ (putP (next p) ps true []).1, Q x := putP_allQ hnQ hal
  clear hW68 hW810 hM8 hk8 ho8 hC8 hrow hin8 hM810 hM68 hC68 hC810 hcl8 hclx hlu hlc hg9 hg10 hblk10 hblk9 hn8 ho9 hSE9
  (repeat (first | (apply WL.add; rfl; rfl; rfl; rfl; omega; omega) | (apply WL.pure; rfl; rfl; rfl) | (apply WL.nil) | (apply EX.thenN) | (apply CW.region) | (apply EX.inN)))
  refine EX.back (n + 1, cl', _, vs ++ [_], _, _, nx ++ [_]) (by repeat (first | exact trivial | refine ⟨rfl, ?_⟩)) ⟨by dsimp only; omega, ?_, hI10, by simp [hvl], hal', hsz.2, hsz.1, ?_⟩ (by dsimp only; omega)
  · dsimp only
    rw [show 2049 - (n + 1) = f by omega]; exact hT
  · show w5.heap.size ≤ w10.heap.size
    omega
end Go.Proofs.Ytllpfgcngokhnaa
/-
  One fair set in place of many (Choueka): plain lists, no program in sight.
-/
set_option linter.unusedVariables false
set_option linter.unusedSimpArgs false
namespace Go.Proofs.Ytllpfgcngokhnaa

/-- which set is waited for next -/
def oneK (fr : List (List Int)) (p : Pr2) : Int := if 0 < fr.length ∧ p.1 ∈ fr.getD p.2.toNat [] then (p.2 + 1) % fr.length else p.2
def oneNext (A : LAuto2) (p : Pr2) : List Pr2 := (A.2.1.getD p.1.toNat []).map fun x => (x, oneK A.2.2.2.2 p)
def oneStart (A : LAuto2) : List Pr2 := A.1.map fun x => (x, 0)
def onePs (A : LAuto2) : List Pr2 := (madeE (oneNext A) (oneStart A)).1
def oneFair (fr : List (List Int)) (ps : List Pr2) : List Int := ((List.range ps.length).filter fun i => decide ((ps.getD i (0, 0)).2 = 0) && (decide (fr.length = 0) || decide ((ps.getD i (0, 0)).1 ∈ fr.getD 0 []))).map fun i : Nat => (i : Int)
def oneL (A : LAuto2) : LAuto2 :=
  (madeS (oneStart A), (madeE (oneNext A) (oneStart A)).2.2, (onePs A).map (fun p => A.2.2.1.getD p.1.toNat 0), (onePs A).map (fun p => A.2.2.2.1.getD p.1.toNat 0), [oneFair A.2.2.2.2 (onePs A)])
theorem oneFair_mem {fr : List (List Int)} {ps : List Pr2} {i : Nat} : (i : Int) ∈ oneFair fr ps ↔ i < ps.length ∧ (ps.getD i (0, 0)).2 = 0 ∧ (fr.length = 0 ∨ (ps.getD i (0, 0)).1 ∈ fr.getD 0 []) := by
  unfold oneFair
  rw [List.mem_map]
  constructor
  · rintro ⟨j, hj, e⟩
    obtain rfl : j = i := by omega
    obtain ⟨h1, h2⟩ := List.mem_filter.1 hj
    simp only [Bool.and_eq_true, Bool.or_eq_true, decide_eq_true_eq] at h2
    exact ⟨List.mem_range.1 h1, h2⟩
  · rintro ⟨h1, h2⟩
    exact ⟨i, List.mem_filter.2 ⟨List.mem_range.2 h1, by simpa using h2⟩, rfl⟩
theorem oneNext_mem {A : LAuto2} {p x : Pr2} : x ∈ oneNext A p ↔ x.1 ∈ A.2.1.getD p.1.toNat [] ∧ x.2 = oneK A.2.2.2.2 p := by
  unfold oneNext
  rw [List.mem_map]
  constructor
  · rintro ⟨y, hy, rfl⟩; exact ⟨hy, rfl⟩
  · rintro ⟨h1, h2⟩; exact ⟨x.1, h1, by rw [← h2]⟩
theorem oneStart_mem {A : LAuto2} {x : Pr2} : x ∈ oneStart A ↔ x.1 ∈ A.1 ∧ x.2 = 0 := by
  unfold oneStart
  rw [List.mem_map]
  constructor
  · rintro ⟨y, hy, rfl⟩; exact ⟨hy, rfl⟩
  · rintro ⟨h1, h2⟩; exact ⟨x.1, h1, by rw [← h2]⟩
/- COUNTING -/
section
variable {fr : List (List Int)} {q : Nat → Pr2}
theorem one_pass (hq : ∀ i, (q (i + 1)).2 = oneK fr (q i)) {t : Nat} (ht : t < fr.length) : ∀ (d a : Nat), 1 ≤ (q a).2 → (q a).2 ≤ t → (q (a + d)).2 = 0 → ∃ j, a ≤ j ∧ (q j).1 ∈ fr.getD t []
  | 0, a, h1, _, h0 => by rw [Nat.add_zero] at h0; omega
  | d + 1, a, h1, h2, h0 => by
    have hn := hq a
    unfold oneK at hn
    by_cases hin : (q a).1 ∈ fr.getD (q a).2.toNat []
    · by_cases e : (q a).2 = t
      · exact ⟨a, Nat.le_refl _, by rw [e, Int.toNat_natCast] at hin; exact hin⟩
      · rw [if_pos ⟨by omega, hin⟩, Int.emod_eq_of_lt (by omega) (by omega)] at hn
        obtain ⟨j, hj, hm⟩ := one_pass hq ht d (a + 1) (by omega) (by omega) (by rw [show a + 1 + d = a + (d + 1) by omega]; exact h0)
        exact ⟨j, by omega, hm⟩
    · rw [if_neg (fun h => hin h.2)] at hn
      obtain ⟨j, hj, hm⟩ := one_pass hq ht d (a + 1) (by omega) (by omega) (by rw [show a + 1 + d = a + (d + 1) by omega]; exact h0)
      exact ⟨j, by omega, hm⟩
/-- where one set is met again and again, all are -/
theorem one_all (hq : ∀ i, (q (i + 1)).2 = oneK fr (q i)) (hf : ∀ i, ∃ j, i ≤ j ∧ (q j).2 = 0 ∧ (fr.length = 0 ∨ (q j).1 ∈ fr.getD 0 [])) {t : Nat} (ht : t < fr.length) (i : Nat) : ∃ j, i ≤ j ∧ (q j).1 ∈ fr.getD t [] := by
  obtain ⟨a, ha, h0, h1⟩ := hf i
  have h1 : (q a).1 ∈ fr.getD 0 [] := h1.resolve_left (by omega)
  by_cases e : t = 0
  · subst e; exact ⟨a, ha, h1⟩
  · have hn := hq a
    unfold oneK at hn
    rw [h0, show (0 : Int).toNat = 0 from rfl, if_pos ⟨by omega, h1⟩, Int.emod_eq_of_lt (by omega) (by omega)] at hn
    obtain ⟨b, hb, hb0, _⟩ := hf (a + 1)
    obtain ⟨j, hj, hm⟩ := one_pass hq ht (b - (a + 1)) (a + 1) (by omega) (by omega) (by rw [show a + 1 + (b - (a + 1)) = b by omega]; exact hb0)
    exact ⟨j, by omega, hm⟩
theorem one_wait (hq : ∀ i, (q (i + 1)).2 = oneK fr (q i)) {c : Int} : ∀ (d i : Nat), (q i).2 = c → (q (i + d)).1 ∈ fr.getD c.toNat [] → ∃ j, i ≤ j ∧ (q j).2 = c ∧ (q j).1 ∈ fr.getD c.toNat []
  | 0, i, h1, h2 => ⟨i, Nat.le_refl _, h1, h2⟩
  | d + 1, i, h1, h2 => by
    by_cases hin : (q i).1 ∈ fr.getD c.toNat []
    · exact ⟨i, Nat.le_refl _, h1, hin⟩
    · have hn := hq i
      unfold oneK at hn
      rw [h1, if_neg (fun h => hin h.2)] at hn
      obtain ⟨j, hj, hm⟩ := one_wait hq d (i + 1) hn (by rw [show i + 1 + d = i + (d + 1) by omega]; exact h2)
      exact ⟨j, by omega, hm⟩
theorem one_round (hq : ∀ i, (q (i + 1)).2 = oneK fr (q i)) (hf : ∀ t, t < fr.length → ∀ i, ∃ j, i ≤ j ∧ (q j).1 ∈ fr.getD t []) (hm : 0 < fr.length) : ∀ (n : Nat) (i : Nat), 0 ≤ (q i).2 → (q i).2 < fr.length → ((q i).2 = 0 ∨ (fr.length : Int) - (q i).2 ≤ n) → ∃ j, i ≤ j ∧ (q j).2 = 0 ∧ (q j).1 ∈ fr.getD 0 [] := by
  have hgo : ∀ i, 0 ≤ (q i).2 → (q i).2 < fr.length → ∃ j, i ≤ j ∧ (q j).2 = (q i).2 ∧ (q j).1 ∈ fr.getD (q i).2.toNat [] := fun i h0 h1 => by
    obtain ⟨b, hb, hin⟩ := hf (q i).2.toNat (by omega) i
    exact one_wait hq (b - i) i rfl (by rw [show i + (b - i) = b by omega]; exact hin)
  intro n
  induction n with
  | zero =>
    intro i h0 h1 h2
    have h2 : (q i).2 = 0 := by omega
    obtain ⟨j, hj, e, hin⟩ := hgo i h0 h1
    rw [h2] at e hin
    exact ⟨j, hj, e, hin⟩
  | succ n ih =>
    intro i h0 h1 h2
    obtain ⟨j, hj, e, hin⟩ := hgo i h0 h1
    by_cases hz : (q i).2 = 0
    · rw [hz] at e hin
      exact ⟨j, hj, e, hin⟩
    · have hn := hq j
      unfold oneK at hn
      rw [e, if_pos ⟨hm, hin⟩] at hn
      by_cases hl : (q i).2 + 1 = fr.length
      · rw [hl, Int.emod_self] at hn
        obtain ⟨k, hk, h⟩ := ih (j + 1) (by omega) (by omega) (.inl hn)
        exact ⟨k, by omega, h⟩
      · rw [Int.emod_eq_of_lt (by omega) (by omega)] at hn
        obtain ⟨k, hk, h⟩ := ih (j + 1) (by omega) (by omega) (.inr (by omega))
        exact ⟨k, by omega, h⟩
end
theorem fit_one {A : LAuto2} {r x : Nat} (h : r < (onePs A).length) : fitB (oneL A).2.2.1 (oneL A).2.2.2.1 r x = fitB A.2.2.1 A.2.2.2.1 ((onePs A).getD r (0, 0)).1.toNat x := by
  unfold oneL fitB
  dsimp only
  rw [getD_map h, getD_map h]
theorem one_law {A : LAuto2} {L : Nat → Nat} (hA : PosA A) (h : (madeE (oneNext A) (oneStart A)).2.1 = true) : AccA (oneL A) L ↔ AccA A L := by
  obtain ⟨hM, hl⟩ := made_law h
  change MadeOk _ _ (onePs A) _ _ at hM
  change _ = (onePs A).length at hl
  have hst : ∀ i, i ∈ (oneL A).1 ↔ ∃ p ∈ oneStart A, i = ((onePs A).idxOf p : Int) := hM.st1
  have hnx : ∀ n, n < (onePs A).length → ∀ i, i ∈ (oneL A).2.1.getD n [] ↔ ∃ p ∈ oneNext A ((onePs A).getD n (0, 0)), i = ((onePs A).idxOf p : Int) := fun n hn => hM.nx1 n (by rw [hl]; exact hn)
  constructor
  · rintro ⟨r, hr⟩
    have hin : ∀ i, r i < (onePs A).length := by
      intro i
      cases i with
      | zero =>
        obtain ⟨p, hp, e⟩ := (hst _).1 hr.first
        have := (idxOf_at (hM.st0 p hp)).1
        omega
      | succ i =>
        have hs := hr.step i
        by_cases hlt : r i < (onePs A).length
        · obtain ⟨p, hp, e⟩ := (hnx _ hlt _).1 hs
          have := (idxOf_at (hM.nx0 _ (by rw [hl]; exact hlt) p hp)).1
          omega
        · exfalso
          have e : (oneL A).2.1.getD (r i) [] = [] := by
            rw [List.getD_eq_getElem?_getD, List.getElem?_eq_none (by show (madeE (oneNext A) (oneStart A)).2.2.length ≤ _; rw [hl]; omega)]; rfl
          rw [e] at hs; cases hs
    have hnx' : ∀ i, (onePs A).getD (r (i + 1)) (0, 0) ∈ oneNext A ((onePs A).getD (r i) (0, 0)) := fun i => by
      obtain ⟨p, hp, e⟩ := (hnx _ (hin i) _).1 (hr.step i)
      have e : r (i + 1) = (onePs A).idxOf p := by omega
      rw [e, (idxOf_at (hM.nx0 _ (by rw [hl]; exact hin i) p hp)).2]; exact hp
    have hst' : (onePs A).getD (r 0) (0, 0) ∈ oneStart A := by
      obtain ⟨p, hp, e⟩ := (hst _).1 hr.first
      have e : r 0 = (onePs A).idxOf p := by omega
      rw [e, (idxOf_at (hM.st0 p hp)).2]; exact hp
    have hq : ∀ i, 0 ≤ ((onePs A).getD (r i) (0, 0)).1 := by
      intro i
      cases i with
      | zero => exact hA.1 _ (oneStart_mem.1 hst').1
      | succ i => exact hA.2 _ _ (oneNext_mem.1 (hnx' i)).1
    have q1 : ∀ i, ((((onePs A).getD (r i) (0, 0)).1.toNat : Nat) : Int) = ((onePs A).getD (r i) (0, 0)).1 := fun i => by have := hq i; omega
    refine ⟨fun i => ((onePs A).getD (r i) (0, 0)).1.toNat, ?_, fun i => by rw [← fit_one (hin i)]; exact hr.fits i, fun i => ?_, fun F hF i => ?_⟩
    · rw [q1]; exact (oneStart_mem.1 hst').1
    · rw [q1]; exact (oneNext_mem.1 (hnx' i)).1
    · obtain ⟨t, ht, rfl⟩ := List.mem_iff_getElem.1 hF
      obtain ⟨j, hj, hm⟩ := one_all (fr := A.2.2.2.2) (q := fun i => (onePs A).getD (r i) (0, 0)) (fun i => (oneNext_mem.1 (hnx' i)).2) (fun i => by
        obtain ⟨j, hj, hm⟩ := hr.fair (oneFair A.2.2.2.2 (onePs A)) (List.mem_singleton.2 rfl) i
        exact ⟨j, hj, (oneFair_mem.1 hm).2⟩) ht i
      refine ⟨j, hj, ?_⟩
      rw [q1]
      rw [List.getD_eq_getElem?_getD, List.getElem?_eq_getElem ht] at hm
      exact hm
  · rintro ⟨ra, ha⟩
    obtain ⟨q, hq0, hq1, hqa⟩ : ∃ q : Nat → Pr2, q 0 = ((ra 0 : Int), 0) ∧ (∀ i, q (i + 1) = ((ra (i + 1) : Int), oneK A.2.2.2.2 (q i))) ∧ ∀ i, (q i).1 = (ra i : Int) := by
      refine ⟨fun i => Nat.rec ((ra 0 : Int), 0) (fun i p => ((ra (i + 1) : Int), oneK A.2.2.2.2 p)) i, rfl, fun i => rfl, fun i => ?_⟩
      cases i <;> rfl
    have hnext : ∀ i, q (i + 1) ∈ oneNext A (q i) := fun i => by
      rw [oneNext_mem, hqa, hqa, hq1, Int.toNat_natCast]
      exact ⟨ha.step i, rfl⟩
    have hps : ∀ i, q i ∈ onePs A := by
      intro i
      induction i with
      | zero => exact hM.st0 _ (oneStart_mem.2 (by rw [hq0]; exact ⟨ha.first, rfl⟩))
      | succ i ih =>
        obtain ⟨h1, h2⟩ := idxOf_at ih
        exact hM.nx0 _ (by rw [hl]; exact h1) _ (by rw [h2]; exact hnext i)
    have hix := fun i => idxOf_at (hps i)
    have hk : ∀ i, (q (i + 1)).2 = oneK A.2.2.2.2 (q i) := fun i => by rw [hq1]
    have hkr : ∀ i, (0 < A.2.2.2.2.length → 0 ≤ (q i).2 ∧ (q i).2 < A.2.2.2.2.length) ∧ (A.2.2.2.2.length = 0 → (q i).2 = 0) := by
      intro i
      induction i with
      | zero => rw [hq0]; exact ⟨fun h => ⟨Int.le_refl _, by dsimp only; omega⟩, fun _ => rfl⟩
      | succ i ih =>
        rw [hk]
        unfold oneK
        refine ⟨fun h => ?_, fun h => ?_⟩
        · split
          · exact ⟨Int.emod_nonneg _ (by omega), Int.emod_lt_of_pos _ (by omega)⟩
          · exact ih.1 h
        · rw [if_neg (fun hh => by omega)]; exact ih.2 h
    refine ⟨fun i => (onePs A).idxOf (q i), (hst _).2 ⟨_, oneStart_mem.2 (by rw [hq0]; exact ⟨ha.first, rfl⟩), rfl⟩, fun i => ?_, fun i => (hnx _ (hix i).1 _).2 ⟨_, by rw [(hix i).2]; exact hnext i, rfl⟩, fun F hF i => ?_⟩
    · rw [fit_one (hix i).1, (hix i).2, hqa, Int.toNat_natCast]; exact ha.fits i
    · obtain rfl := List.mem_singleton.1 hF
      by_cases hm : 0 < A.2.2.2.2.length
      · obtain ⟨j, hj, h0, hin⟩ := one_round hk (fun t ht i => by
          obtain ⟨j, hj, h⟩ := ha.fair (A.2.2.2.2[t]) (List.getElem_mem ht) i
          refine ⟨j, hj, ?_⟩
          rw [hqa, List.getD_eq_getElem?_getD, List.getElem?_eq_getElem ht]; exact h) hm A.2.2.2.2.length i ((hkr i).1 hm).1 ((hkr i).1 hm).2 (by have := ((hkr i).1 hm).1; omega)
        exact ⟨j, hj, oneFair_mem.2 ⟨(hix j).1, by rw [(hix j).2]; exact ⟨h0, .inr hin⟩⟩⟩
      · exact ⟨i, Nat.le_refl _, oneFair_mem.2 ⟨(hix i).1, by rw [(hix i).2]; exact ⟨(hkr i).2 (by omega), .inl (by omega)⟩⟩⟩
end Go.Proofs.Ytllpfgcngokhnaa
/-
  Package auto: the closures of Both and Single, sets: walked.
-/
set_option linter.unusedVariables false
set_option linter.unusedSimpArgs false
namespace Go.Proofs.Ytllpfgcngokhnaa
open Go.RowKit

def rowP (mu no mu' no' : List Nat) (x : Int) (k : List Int) : List Pr2 := (k.filter fun y => decide (mu.getD x.toNat 0 &&& no'.getD y.toNat 0 = 0) && decide (no.getD x.toNat 0 &&& mu'.getD y.toNat 0 = 0)).map fun y => (x, y)
theorem crossP_next {mu no mu' no' : List Nat} {l k : List Int} {i : Nat} (h : i < l.length) : crossP mu no mu' no' (l.take (i + 1)) k = crossP mu no mu' no' (l.take i) k ++ rowP mu no mu' no' l[i] k := by
  unfold crossP
  rw [List.take_add_one, List.getElem?_eq_getElem h, List.flatMap_append]
  simp [rowP]
theorem filter_one {p : Int → Bool} {f : Int → Pr2} {y : Int} : ([y].filter p).map f = if p y = true then [f y] else [] := by
  cases h : p y <;> simp [List.filter, h]
theorem rowP_next {mu no mu' no' : List Nat} {x : Int} {k : List Int} {j : Nat} (h : j < k.length) : rowP mu no mu' no' x (k.take (j + 1)) = rowP mu no mu' no' x (k.take j) ++ if (decide (mu.getD x.toNat 0 &&& no'.getD k[j].toNat 0 = 0) && decide (no.getD x.toNat 0 &&& mu'.getD k[j].toNat 0 = 0)) = true then [(x, k[j])] else [] := by
  unfold rowP
  rw [List.take_add_one, List.getElem?_eq_getElem h, List.filter_append, List.map_append]
  congr 1
  exact filter_one (p := fun y => decide (mu.getD x.toNat 0 &&& no'.getD y.toNat 0 = 0) && decide (no.getD x.toNat 0 &&& mu'.getD y.toNat 0 = 0)) (f := fun y => (x, y))
theorem rowP_len {mu no mu' no' : List Nat} {x : Int} {k : List Int} : (rowP mu no mu' no' x k).length ≤ k.length := by
  unfold rowP
  rw [List.length_map]
  exact List.length_filter_le _ _
theorem crossP_len {mu no mu' no' : List Nat} {k : List Int} : ∀ l : List Int, (crossP mu no mu' no' l k).length ≤ l.length * k.length
  | [] => by simp [crossP]
  | x :: r => by
    have h1 := crossP_len (mu := mu) (no := no) (mu' := mu') (no' := no') (k := k) r
    have h2 := rowP_len (mu := mu) (no := no) (mu' := mu') (no' := no') (x := x) (k := k)
    unfold crossP at h1 ⊢
    unfold rowP at h2
    rw [List.flatMap_cons, List.length_append, List.length_cons, Nat.succ_mul]
    omega
theorem mkgetG {l : List (List Int)} {j : Nat} (h : j < l.length) : l.getD j [] = l[j] := by rw [List.getD_eq_getElem?_getD, List.getElem?_eq_getElem h]; rfl
theorem wgetN' {l : List Nat} {j : Nat} (h : j < l.length) : l.getD j 0 = l[j] := by rw [List.getD_eq_getElem?_getD, List.getElem?_eq_getElem h]; rfl
set_option maxHeartbeats 1000000 in
theorem cross_ok (w0 : World) {b2 b3 : Nat} {F : Nat → Prop} {m1 m2 n1 n2 lo ko : Option Addr} {d1 d2 f1 f2 lc kc : Nat} {x0 x1 x4 y0 y1 y4 : Value} {mu no mu' no' : List Nat} {l k : List Int} {N N' : Nat}
    (hb2 : Blk w0 b2 28 [x0, x1, .slice m1 mu.length d1, .slice m2 no.length d2, x4]) (hb3 : Blk w0 b3 28 [y0, y1, .slice n1 mu'.length f1, .slice n2 no'.length f2, y4])
    (hm1 : Sl w0 F m1 d1 mu) (hm2 : Sl w0 F m2 d2 no) (hn1 : Sl w0 F n1 f1 mu') (hn2 : Sl w0 F n2 f2 no') (hl : Sl w0 F lo lc l) (hk : Sl w0 F ko kc k) (hF : ∀ b, F b → b < w0.heap.size)
    (e1 : mu.length = N) (e2 : no.length = N) (e3 : mu'.length = N') (e4 : no'.length = N') (okl : okL N l) (okk : okL N' k) (hln : l.length * k.length + k.length ≤ 2199023255552) :
    Rt Try.prog 58 [.slice lo l.length lc, .slice ko k.length kc, .pointer (some ⟨b2, 0, none⟩), .pointer (some ⟨b3, 0, none⟩)].toArray w0 fun v w' => Own w' w0.heap.size 105 Non v (crossP mu no mu' no' l k) ∧ Ext w0 w' := by
  have hl63 := hl.len63
  have hk63 := hk.len63
  refine Rt.enter4 Try.func58 Try.ntmps58 rfl rfl ?_
  (repeat (first | (apply WL.pure; rfl; rfl; rfl) | (apply WL.nil) | (apply EX.thenN) | (apply CW.seq) | (apply CW.region) | (apply WL.lenS; rfl; rfl; rfl) | (apply CW.block)))
  refine CW.loop (S := Nat × Value) (fun s => [(1, .slice ko k.length kc), (2, .pointer (some ⟨b2, 0, none⟩)), (3, .pointer (some ⟨b3, 0, none⟩)), (7, s.2), (12, .slice lo l.length lc), (13, .int .i64 l.length), (14, .int .i64 s.1)])
    (fun s w => s.1 ≤ l.length ∧ Own w w0.heap.size 105 Non s.2 (crossP mu no mu' no' (l.take s.1) k) ∧ Ext w0 w) (fun s => l.length - s.1) (0, .slice none 0 0) (by repeat (first | exact trivial | refine ⟨rfl, ?_⟩)) ⟨Nat.zero_le _, Own.nil, Ext.refl _⟩ ?_
  rintro ⟨i, ov⟩ w1 ⟨hi, ho, e⟩
  dsimp only at hi ho e ⊢
  (repeat (first | (apply WL.pure; rfl; rfl; rfl) | (apply WL.nil) | (apply EX.thenN) | (apply CW.seq) | (apply CW.region)))
  refine CW.cond rfl (fun h => ?_) (fun h => ?_)
  · have hi' : i < l.length := by simp only [decide_eq_true_eq] at h; omega
    have hx0 := okl _ (List.getElem_mem hi')
    have hnx := crossP_next (mu := mu) (no := no) (mu' := mu') (no' := no') (k := k) hi'
    have hcl := crossP_len (mu := mu) (no := no) (mu' := mu') (no' := no') (k := k) (l.take i)
    have hcl2 : (l.take i).length * k.length ≤ l.length * k.length := Nat.mul_le_mul_right _ (by rw [List.length_take]; omega)
    clear h
    (repeat (first | (apply EX.thenN) | (apply CW.seq) | (apply CW.region) | (apply CW.block) | (apply CW.skip)))
    refine WL.elemN (i := i) rfl rfl rfl rfl rfl (hl.up0 e hF) hi' (fun _ => rfl) (fun u q hu => ?_)
    rw [hu.int]
    clear hu
    obtain ⟨x, hx⟩ : ∃ x : Nat, l[i] = (x : Int) := ⟨(l[i]).toNat, by omega⟩
    rw [hx] at hnx hx0 ⊢
    generalize crossP mu no mu' no' (l.take i) k = C at *
    have hxN : x < N := by omega
    (repeat (first | (apply WL.pure; rfl; rfl; rfl) | (apply WL.nil) | (apply EX.thenN) | (apply CW.seq) | (apply CW.region) | (apply WL.lenS; rfl; rfl; rfl) | (apply CW.block)))
    refine CW.loop (S := Nat × Value) (fun s => [(1, .slice ko k.length kc), (2, .pointer (some ⟨b2, 0, none⟩)), (3, .pointer (some ⟨b3, 0, none⟩)), (7, s.2), (9, .int .i64 x), (12, .slice lo l.length lc), (13, .int .i64 l.length), (14, .int .i64 i), (18, .slice ko k.length kc), (19, .int .i64 k.length), (20, .int .i64 s.1)])
      (fun s w => s.1 ≤ k.length ∧ Own w w0.heap.size 105 Non s.2 (C ++ rowP mu no mu' no' x (k.take s.1)) ∧ Ext w0 w) (fun s => k.length - s.1) (0, ov) (by repeat (first | exact trivial | refine ⟨rfl, ?_⟩)) ⟨Nat.zero_le _, by simpa [rowP] using ho, e⟩ ?_
    clear ho e
    rintro ⟨j, rv⟩ w2 ⟨hj, ho, e⟩
    dsimp only at hj ho e ⊢
    (repeat (first | (apply WL.pure; rfl; rfl; rfl) | (apply WL.nil) | (apply EX.thenN) | (apply CW.seq) | (apply CW.region)))
    refine CW.cond rfl (fun h => ?_) (fun h => ?_)
    · have hj' : j < k.length := by simp only [decide_eq_true_eq] at h; omega
      have hy0 := okk _ (List.getElem_mem hj')
      have hrn := rowP_next (mu := mu) (no := no) (mu' := mu') (no' := no') (x := (x : Int)) hj'
      have hrl := rowP_len (mu := mu) (no := no) (mu' := mu') (no' := no') (x := (x : Int)) (k := k.take j)
      rw [List.length_take] at hrl
      clear h
      have hb2 := hb2.ext e
      have hb3 := hb3.ext e
      (repeat (first | (apply EX.thenN) | (apply CW.seq) | (apply CW.region) | (apply CW.block) | (apply CW.skip)))
      refine WL.elemN (i := j) rfl rfl rfl rfl rfl (hk.up0 e hF) hj' (fun _ => rfl) (fun u q hu => ?_)
      rw [hu.int]
      clear hu
      obtain ⟨y, hy⟩ : ∃ y : Nat, k[j] = (y : Int) := ⟨(k[j]).toNat, by omega⟩
      rw [hy] at hrn hy0 ⊢
      have hyN : y < N' := by omega
      rw [Int.toNat_natCast, Int.toNat_natCast] at hrn
      generalize hR : rowP mu no mu' no' (x : Int) (k.take (j + 1)) = R1 at *
      generalize rowP mu no mu' no' (x : Int) (k.take j) = R0 at *
      have hF2 : ∀ b, F b → b < w2.heap.size := fun b hb => Nat.lt_of_lt_of_le (hF b hb) e.size
      (repeat (first | (apply WL.pure; rfl; rfl; rfl) | (apply QL.pure; rfl; rfl; rfl) | (apply WL.nil) | (apply EX.thenN) | (apply CW.seq) | (apply QL.fa; rfl; rfl; rfl) | (apply QL.ld; rfl; rfl; rfl; assumption; rfl) | (apply CW.draw; exact mixed; kernel_rfl)))
      refine QL.elemN (i := x) rfl rfl rfl rfl rfl hF2 (hm1.up0 e hF) (show x < mu.length by omega) (fun _ => rfl) (fun u q hu => ?_)
      obtain ⟨rfl, g1⟩ := hu.u64
      rw [← wgetN'] at g1 ⊢
      (repeat (first | (apply QL.pure; rfl; rfl; rfl) | (apply QL.fa; rfl; rfl; rfl) | (apply QL.ld; rfl; rfl; rfl; assumption; rfl)))
      refine QL.elemN (i := y) rfl rfl rfl rfl rfl hF2 (hn2.up0 e hF) (show y < no'.length by omega) (fun _ => rfl) (fun u q hu => ?_)
      obtain ⟨rfl, g2⟩ := hu.u64
      rw [← wgetN'] at g2 ⊢
      refine QL.andN rfl rfl rfl rfl g1 g2 ?_
      generalize mu.getD x 0 &&& no'.getD y 0 = z1 at *
      clear g1 g2 hu
      by_cases hz1 : z1 = 0
      case neg =>
        have hz : (((z1 : Nat) : Int) == 0) = false := by
          have : (z1 : Int) ≠ 0 := by omega
          simpa using this
        rw [decide_eq_false hz1, Bool.false_and, if_neg (by decide), List.append_nil] at hrn
        (repeat (apply QL.pure; rfl; rfl; rfl))
        rw [hz]
        (repeat (first | (apply QL.pure; rfl; rfl; rfl) | (apply QL.pass; rfl; rfl)))
        refine QL.nil fun w3 e3 => ?_
        (repeat (first | (apply WL.add; rfl; rfl; rfl; rfl; omega; omega) | (apply WL.pure; rfl; rfl; rfl) | (apply WL.nil) | (apply EX.thenN) | (apply CW.region) | (apply EX.inN) | (apply CW.condF; rfl) | (apply CW.skip)))
        exact EX.back (j + 1, rv) (by repeat (first | exact trivial | refine ⟨rfl, ?_⟩)) ⟨hj', by dsimp only; rw [hR, hrn]; exact ho.extN e3, e.trans e3⟩ (by dsimp only; omega)
      have hz : (((z1 : Nat) : Int) == 0) = true := by subst hz1; rfl
      rw [decide_eq_true hz1, Bool.true_and] at hrn
      (repeat (apply QL.pure; rfl; rfl; rfl))
      rw [hz]
      (repeat (first | (apply QL.pure; rfl; rfl; rfl) | (apply QL.fa; rfl; rfl; rfl) | (apply QL.ld; rfl; rfl; rfl; assumption; rfl)))
      refine QL.elemN (i := x) rfl rfl rfl rfl rfl hF2 (hm2.up0 e hF) (show x < no.length by omega) (fun _ => rfl) (fun u q hu => ?_)
      obtain ⟨rfl, g1⟩ := hu.u64
      rw [← wgetN'] at g1 ⊢
      (repeat (first | (apply QL.pure; rfl; rfl; rfl) | (apply QL.fa; rfl; rfl; rfl) | (apply QL.ld; rfl; rfl; rfl; assumption; rfl)))
      refine QL.elemN (i := y) rfl rfl rfl rfl rfl hF2 (hn1.up0 e hF) (show y < mu'.length by omega) (fun _ => rfl) (fun u q hu => ?_)
      obtain ⟨rfl, g2⟩ := hu.u64
      rw [← wgetN'] at g2 ⊢
      refine QL.andN rfl rfl rfl rfl g1 g2 ?_
      generalize no.getD x 0 &&& mu'.getD y 0 = z2 at *
      clear g1 g2 hu
      by_cases hz2 : z2 = 0
      case neg =>
        have hz : (((z2 : Nat) : Int) == 0) = false := by
          have : (z2 : Int) ≠ 0 := by omega
          simpa using this
        rw [decide_eq_false hz2, if_neg (by decide), List.append_nil] at hrn
        (repeat (apply QL.pure; rfl; rfl; rfl))
        rw [hz]
        skip
        refine QL.nil fun w3 e3 => ?_
        (repeat (first | (apply WL.add; rfl; rfl; rfl; rfl; omega; omega) | (apply WL.pure; rfl; rfl; rfl) | (apply WL.nil) | (apply EX.thenN) | (apply CW.region) | (apply EX.inN) | (apply CW.condF; rfl) | (apply CW.skip)))
        exact EX.back (j + 1, rv) (by repeat (first | exact trivial | refine ⟨rfl, ?_⟩)) ⟨hj', by dsimp only; rw [hR, hrn]; exact ho.extN e3, e.trans e3⟩ (by dsimp only; omega)
      have hz : (((z2 : Nat) : Int) == 0) = true := by subst hz2; rfl
      rw [decide_eq_true hz2, if_pos rfl] at hrn
      (repeat (apply QL.pure; rfl; rfl; rfl))
      rw [hz]
      skip
      refine QL.nil fun w3 e3 => ?_
      have ho := ho.extN e3
      have e := e.trans e3
      (repeat (first | (apply WL.pure; rfl; rfl; rfl) | (apply EX.thenN) | (apply CW.region) | (apply CW.condT; rfl)))
      refine WL.build rfl rfl rfl rfl ?_
      refine WL.app1 (α := Int × Int) (F := Non) (bytes := 16) (yv := ((x : Int), (y : Int))) rfl rfl (fun _ => rfl) rfl rfl (fun _ => rfl) ho (Rd.mkPr (c1 := [.int .i64 x]) (c2 := [.int .i64 y]) (rd_mkInt _ _ _) (rd_mkInt _ _ _)) e.size (fun _ h => h.elim) (by decide) (by unfold maxLen; rw [List.length_append]; omega) (by rw [List.length_append]; omega) (fun rv' w4 q ho4 hg4 hnb4 => ?_)
      rw [List.append_assoc, ← hrn, ← hR] at ho4
      (repeat (first | (apply WL.add; rfl; rfl; rfl; rfl; omega; omega) | (apply WL.pure; rfl; rfl; rfl) | (apply WL.nil) | (apply EX.thenN) | (apply CW.region) | (apply EX.inN)))
      exact EX.back (j + 1, rv') (by repeat (first | exact trivial | refine ⟨rfl, ?_⟩)) ⟨hj', ho4, Below.grown e hg4 e.size (fun g hg => (ho.lt g hg).1)⟩ (by dsimp only; omega)
    have hje : j = k.length := by simp only [decide_eq_false_iff_not] at h; omega
    subst hje
    rw [List.take_length, ← hnx] at ho
    (repeat (first | (apply WL.add; rfl; rfl; rfl; rfl; omega; omega) | (apply WL.pure; rfl; rfl; rfl) | (apply WL.nil) | (apply EX.thenN) | (apply CW.region) | (apply EX.inN) | (apply CW.exit) | (apply EX.thenX) | (apply EX.inX)))
    exact EX.back (i + 1, rv) (by repeat (first | exact trivial | refine ⟨rfl, ?_⟩)) ⟨hi', ho, e⟩ (by dsimp only; omega)
  have hie : i = l.length := by simp only [decide_eq_false_iff_not] at h; omega
  subst hie
  rw [List.take_length] at ho
  (repeat (first | (apply WL.pure; rfl; rfl; rfl) | (apply WL.nil) | (apply EX.thenN) | (apply CW.seq) | (apply CW.region) | (apply CW.exit) | (apply EX.thenX) | (apply EX.inX) | (apply CW.ret)))
  exact EX.ret1 rfl rfl ⟨ho, e⟩
theorem both3_ok (w : World) (p : Pr2) : Rt Try.prog 62 [prV p].toArray w fun v w' => v = .int .i64 p.1 ∧ Ext w w' := by
  refine Rt.enter1 Try.func62 Try.ntmps62 rfl rfl ?_
  (repeat (first | (apply CW.seq) | (apply CW.region)))
  refine WL.boxB rfl rfl rfl fun w1 hb1 e1 => ?_
  (repeat (first | (apply WL.pure; rfl; rfl; rfl) | (apply WL.nil) | (apply EX.thenN) | (apply CW.seq) | (apply CW.region) | (apply WL.fa; rfl; rfl; rfl) | (apply WL.ld; rfl; rfl; rfl; assumption; rfl) | (apply CW.ret)))
  exact EX.ret1 rfl rfl ⟨rfl, e1⟩
theorem both4_ok (w : World) (p : Pr2) : Rt Try.prog 63 [prV p].toArray w fun v w' => v = .int .i64 p.2 ∧ Ext w w' := by
  refine Rt.enter1 Try.func63 Try.ntmps63 rfl rfl ?_
  (repeat (first | (apply CW.seq) | (apply CW.region)))
  refine WL.boxB rfl rfl rfl fun w1 hb1 e1 => ?_
  (repeat (first | (apply WL.pure; rfl; rfl; rfl) | (apply WL.nil) | (apply EX.thenN) | (apply CW.seq) | (apply CW.region) | (apply WL.fa; rfl; rfl; rfl) | (apply WL.ld; rfl; rfl; rfl; assumption; rfl) | (apply CW.ret)))
  exact EX.ret1 rfl rfl ⟨rfl, e1⟩
/-- a variable that holds an automaton -/
def AuB (w : World) (b : Nat) (A : LAuto) : Prop :=
  ∃ (a1 : Option Addr) (c1 : Nat) (a2 : Option Addr) (c2 : Nat) (a3 : Option Addr) (c3 : Nat) (a4 : Option Addr) (c4 : Nat) (a5 : Option Addr) (c5 : Nat), Blk w b 28 [.slice a1 A.1.length c1, .slice a2 A.2.1.length c2, .slice a3 A.2.2.1.length c3, .slice a4 A.2.2.2.1.length c4, .slice a5 A.2.2.2.2.length c5] ∧
    Sl w (Old w) a1 c1 A.1 ∧ Sl w (Old w) a2 c2 A.2.1 ∧ Sl w (Old w) a3 c3 A.2.2.1 ∧ Sl w (Old w) a4 c4 A.2.2.2.1 ∧ Sl w (Old w) a5 c5 A.2.2.2.2
theorem AuB.up {w w' : World} {b : Nat} {A : LAuto} (h : AuB w b A) (hE : Ext w w') : AuB w' b A := by
  obtain ⟨a1, c1, a2, c2, a3, c3, a4, c4, a5, c5, hb, h1, h2, h3, h4, h5⟩ := h
  exact ⟨a1, c1, a2, c2, a3, c3, a4, c4, a5, c5, hb.ext hE, h1.up hE, h2.up hE, h3.up hE, h4.up hE, h5.up hE⟩
instance iMk10 : IsC Try.prog 106 1 false := IsC.of (by kernel_rfl) Try.underlying106 rfl
instance iMk11 : IsZC Try.prog 106 [.nilFunc] := IsZC.of (z := .nilFunc) (by kernel_rfl) rfl
abbrev crossV (b2 b3 : Nat) : Value := .func (.func 58) #[] #[.pointer (some ⟨b2, 0, none⟩), .pointer (some ⟨b3, 0, none⟩)]
theorem both2_ok (w0 : World) {b2 b3 b8 : Nat} {A B : LAuto} {p : Pr2} (hA : AuB w0 b2 A) (hB : AuB w0 b3 B) (hb8 : Blk w0 b8 106 [crossV b2 b3]) (okA : OkA A) (okB : OkA B) (p1 : 0 ≤ p.1 ∧ p.1 < A.2.1.length) (p2 : 0 ≤ p.2 ∧ p.2 < B.2.1.length)
    (sA : ∀ j, (A.2.1.getD j []).length ≤ 1048576) (sB : ∀ j, (B.2.1.getD j []).length ≤ 1048576) :
    Rt Try.prog 60 [prV p, .pointer (some ⟨b8, 0, none⟩), .pointer (some ⟨b2, 0, none⟩), .pointer (some ⟨b3, 0, none⟩)].toArray w0 fun v w' => Own w' w0.heap.size 105 Non v (bothNext A B p) ∧ Ext w0 w' := by
  obtain ⟨a1, c1, a2, c2, a3, c3, a4, c4, a5, c5, hb2, h1, h2, h3, h4, h5⟩ := hA
  obtain ⟨k1, d1, k2, d2, k3, d3, k4, d4, k5, d5, hb3, g1, g2, g3, g4, g5⟩ := hB
  obtain ⟨x, hx⟩ : ∃ x : Nat, p.1 = (x : Int) := ⟨p.1.toNat, by omega⟩
  obtain ⟨y, hy⟩ : ∃ y : Nat, p.2 = (y : Int) := ⟨p.2.toNat, by omega⟩
  obtain ⟨pa, pb⟩ := p
  dsimp only at hx hy p1 p2
  subst hx hy
  refine Rt.enter4 Try.func60 Try.ntmps60 rfl rfl ?_
  (repeat (first | (apply CW.seq) | (apply CW.region)))
  refine WL.boxB rfl rfl rfl fun w1 hb1 e1 => ?_
  have hb2 := hb2.ext e1
  have hb3 := hb3.ext e1
  have hb8 := hb8.ext e1
  (repeat (first | (apply WL.pure; rfl; rfl; rfl) | (apply WL.nil) | (apply EX.thenN) | (apply CW.seq)))
  have hSE : ∀ z, (fun z : World => Ext w1 z) z → Ext w1 z := fun _ h => h
  refine CW.drawH (fun z : World => Ext w1 z) [(0, true), (1, true), (2, true), (3, true), (4, true), (5, true), (6, true), (7, true), (8, true), (9, true), (10, true), (11, true), (12, true), (13, false), (14, true)] mixed (by kernel_rfl) (Ext.drew w1) ?_
  (repeat (first | (refine HL.fa rfl rfl rfl rfl ?_) | (refine HL.ld (by assumption) rfl rfl rfl rfl (by assumption) rfl ?_)))
  refine HL.elemN (k := x) hSE rfl rfl rfl rfl rfl rfl rfl (fun _ h => h) (h2.up e1) (show x < A.2.1.length by omega) (fun _ => rfl) (fun u q hu => ?_)
  obtain ⟨lo, lc, rfl, hl⟩ := hu.sl
  (repeat (first | (refine HL.fa rfl rfl rfl rfl ?_) | (refine HL.ld (by assumption) rfl rfl rfl rfl (by assumption) rfl ?_)))
  refine HL.elemN (k := y) hSE rfl rfl rfl rfl rfl rfl rfl (fun _ h => h) (g2.up e1) (show y < B.2.1.length by omega) (fun _ => rfl) (fun u q hu => ?_)
  obtain ⟨ko, kc, rfl, hk⟩ := hu.sl
  have eA := (mkgetG (show x < A.2.1.length by omega)).symm
  have eB := (mkgetG (show y < B.2.1.length by omega)).symm
  have sx := sA x
  have sy := sB y
  have ox := okG_row okA.nx x
  have oy := okG_row okB.nx y
  have hX : bothNext A B ((x : Int), (y : Int)) = crossP A.2.2.1 A.2.2.2.1 B.2.2.1 B.2.2.2.1 (A.2.1.getD x []) (B.2.1.getD y []) := rfl
  rw [hX]
  rw [eA] at hl ⊢
  rw [eB] at hk ⊢
  generalize A.2.1.getD x [] = l at *
  generalize B.2.1.getD y [] = k at *
  have hD := Ext.drew w1
  have hD1 := e1.trans hD
  have hmul : l.length * k.length ≤ 1048576 * 1048576 := Nat.mul_le_mul sx sy
  refine HL.mut rfl (WL.callV (fv := []) rfl rfl rfl rfl (cross_ok (drew w1) (F := Old (drew w1)) (hb2.ext hD) (hb3.ext hD) (h3.up hD1) (h4.up hD1) (g3.up hD1) (g4.up hD1) (hl.up hD) (hk.up hD) (fun _ h => h) okA.mu okA.no okB.mu okB.no ox oy (by omega)) ?_)
  rintro v w2 ⟨ho, e2⟩
  have x2 : Ext w1 w2 := hD.trans e2
  refine WL.nil (EX.mut x2 ?_)
  (repeat (first | (apply HL.pure; rfl; rfl; rfl; rfl) | (apply HL.nil)))
  (repeat (first | (apply EX.thenN) | (apply CW.ret)))
  exact EX.ret1 rfl rfl ⟨ho.low hD1.size, e1.trans x2⟩
end Go.Proofs.Ytllpfgcngokhnaa
/-
  Package auto: sets: walked.
-/
set_option linter.unusedVariables false
set_option linter.unusedSimpArgs false
namespace Go.Proofs.Ytllpfgcngokhnaa
open Go.RowKit

theorem setP_next {ps : List Pr2} {of : Pr2 → Int} {F : List Int} {j : Nat} (h : j < ps.length) : setP (ps.take (j + 1)) of F = setP (ps.take j) of F ++ if of ps[j] ∈ F then [(j : Int)] else [] := by
  unfold setP
  have h1 : (ps.take (j + 1)).length = j + 1 := by rw [List.length_take]; omega
  have h2 : (ps.take j).length = j := by rw [List.length_take]; omega
  have g : ∀ k i, i < k → (ps.take k).getD i (0, 0) = ps.getD i (0, 0) := fun k i h => by
    rw [List.getD_eq_getElem?_getD, List.getD_eq_getElem?_getD, List.getElem?_take_of_lt h]
  rw [h1, h2, List.range_succ, List.filter_append, List.map_append]
  congr 1
  · congr 1
    refine List.filter_congr fun i hi => ?_
    rw [List.mem_range] at hi
    rw [g _ _ (by omega), g _ _ hi]
  · rw [List.filter_cons, List.filter_nil, g _ _ (by omega)]
    have : ps.getD j (0, 0) = ps[j] := by rw [List.getD_eq_getElem?_getD, List.getElem?_eq_getElem h]; rfl
    rw [this]
    by_cases hm : of ps[j] ∈ F
    · rw [decide_eq_true hm, if_pos rfl, if_pos hm]; rfl
    · rw [decide_eq_false hm, if_neg (by decide), if_neg hm]; rfl
theorem setP_nil {of : Pr2 → Int} {F : List Int} : setP [] of F = [] := rfl
theorem setP_len {ps : List Pr2} {of : Pr2 → Int} {F : List Int} : (setP ps of F).length ≤ ps.length := by
  unfold setP
  rw [List.length_map]
  exact Nat.le_trans (List.length_filter_le _ _) (by rw [List.length_range]; exact Nat.le_refl _)
set_option maxHeartbeats 1000000 in
theorem sets_ok (w0 : World) {N sb B2 n : Nat} {m : Value} {lo fo : Option Addr} {lc fc : Nat} {x1 x2 x3 x4 nv : Value} {ps : List Pr2} {vs : List Raw} {xs Fr : List (List Int)} {ofv : Value} {of : Pr2 → Int}
    (hb : Blk w0 sb 110 [m, .slice lo ps.length lc, x1, x2, x3, x4, nv]) (hlo : Sl w0 (Fz w0 (fun b => b = sb ∨ nv.ownBlock = some b)) lo lc ps) (hn : Own w0 B2 22 Non nv vs) (hB : B2 ≤ w0.heap.size)
    (hNw : N ≤ w0.heap.size) (inn : InnR w0 (fun b => b = sb ∨ nv.ownBlock = some b ∨ b < N) vs xs) (hsb : ∀ g, nv.ownBlock = some g → g ≠ sb) (hfr : Sl w0 (Fz w0 (fun b => b = sb ∨ nv.ownBlock = some b)) fo fc Fr) (hok : ∀ r ∈ Fr, okL n r) (hnn : n ≤ 1099511627776)
    (hof : ∀ w p, p ∈ ps → FnV Try.prog ofv [prV p] w fun v w' => v = .int .i64 (of p) ∧ Ext w w') (hin : ∀ p ∈ ps, 0 ≤ of p ∧ of p < n) (hps : ps.length ≤ 2049) (hF1 : xs.length + Fr.length ≤ 4096) :
    Rt Try.prog 61 [.pointer (some ⟨sb, 0, none⟩), .slice fo Fr.length fc, .int .i64 (n : Int), ofv].toArray w0 fun v w' => ∃ nv' vs', Blk w' sb 110 [m, .slice lo ps.length lc, x1, x2, x3, x4, nv'] ∧
      Own w' B2 22 Non nv' vs' ∧ InnR w' (fun b => b = sb ∨ nv'.ownBlock = some b ∨ b < N) vs' (xs ++ Fr.map (setP ps of)) ∧ Chg (fun b => b = sb ∨ nv.ownBlock = some b) w0 w' ∧ ∀ g, nv'.ownBlock = some g → nv.ownBlock = some g ∨ w0.heap.size ≤ g := by
  have hfl := hfr.len63
  have hsb0 := hb.lt
  refine Rt.enter4 Try.func61 Try.ntmps61 rfl rfl ?_
  (repeat (first | (apply WL.pure; rfl; rfl; rfl) | (apply WL.nil) | (apply EX.thenN) | (apply CW.seq) | (apply CW.region) | (apply WL.lenS; rfl; rfl; rfl) | (apply CW.block)))
  refine CW.loop (S := Nat × Value × List Raw) (fun s => [(0, .pointer (some ⟨sb, 0, none⟩)), (2, .int .i64 n), (3, ofv), (14, .slice fo Fr.length fc), (15, .int .i64 Fr.length), (16, .int .i64 s.1)])
    (fun s w => s.1 ≤ Fr.length ∧ Blk w sb 110 [m, .slice lo ps.length lc, x1, x2, x3, x4, s.2.1] ∧ Own w B2 22 Non s.2.1 s.2.2 ∧ InnR w (fun b => b = sb ∨ s.2.1.ownBlock = some b ∨ b < N) s.2.2 (xs ++ (Fr.take s.1).map (setP ps of)) ∧
      Chg (fun b => b = sb ∨ nv.ownBlock = some b) w0 w ∧ ∀ g, s.2.1.ownBlock = some g → nv.ownBlock = some g ∨ w0.heap.size ≤ g)
    (fun s => Fr.length - s.1) (0, nv, vs) (by repeat (first | exact trivial | refine ⟨rfl, ?_⟩)) ⟨Nat.zero_le _, hb, hn, by simpa using inn, Chg.refl _ _, fun g hg => .inl hg⟩ ?_
  rintro ⟨i, cv, cs⟩ w1 ⟨hi, hb1, hn1, in1, hC1, nw1⟩
  dsimp only at hi hb1 hn1 in1 hC1 nw1 ⊢
  have z1 := hC1.size
  (repeat (first | (apply WL.pure; rfl; rfl; rfl) | (apply WL.nil) | (apply EX.thenN) | (apply CW.seq) | (apply CW.region)))
  refine CW.cond rfl (fun h => ?_) (fun h => ?_)
  · have hi' : i < Fr.length := by simp only [decide_eq_true_eq] at h; omega
    clear h
    have hM1 : ∀ b, (b = sb ∨ cv.ownBlock = some b) → (b = sb ∨ nv.ownBlock = some b) ∨ w0.heap.size ≤ b := fun b h => by
      rcases h with h | h
      · exact .inl (.inl h)
      · exact (nw1 b h).imp .inr id
    have hlo1 := hlo.fz hC1 hM1
    have hfr1 := hfr.fz hC1 hM1
    have hcsl : cs.length = xs.length + i := by rw [in1.len, List.length_append, List.length_map, List.length_take]; omega
    have hfi := hok _ (List.getElem_mem hi')
    have hnx : (Fr.take (i + 1)).map (setP ps of) = (Fr.take i).map (setP ps of) ++ [setP ps of Fr[i]] := by
      rw [List.take_add_one, List.getElem?_eq_getElem hi', List.map_append]; rfl
    have hcs1 : ∀ g, cv.ownBlock = some g → g ≠ sb := fun g hg => by
      rcases nw1 g hg with h | h
      · exact hsb g h
      · omega
    (repeat (first | (apply EX.thenN) | (apply CW.seq) | (apply CW.region) | (apply CW.block) | (apply CW.skip)))
    refine WL.elemN (i := i) rfl rfl rfl rfl rfl hfr1 hi' (fun _ => rfl) (fun u q hu => ?_)
    obtain ⟨ro, rc, rfl, hr⟩ := hu.sl
    clear hu
    generalize Fr[i] = F at *
    (repeat (first | (apply WL.pure; rfl; rfl; rfl) | (apply WL.nil) | (apply EX.thenN) | (apply CW.seq) | (apply CW.region)))
    refine WL.call rfl rfl rfl (member_ok w1 hr (fun b hb => hb.1) n hnn hfi) ?_
    rintro mv w2 ⟨hm, e2⟩
    obtain ⟨mo, mc, rfl, hms⟩ := hm.oldN.sl
    have hml : (memL n F).length = n := memL_len
    have hb2 := hb1.ext e2
    have z2 := e2.size
    have hlo2 := (hlo1.old'.up e2)
    have hll := hlo2.len63
    (repeat (first | (apply WL.pure; rfl; rfl; rfl) | (apply WL.nil) | (apply EX.thenN) | (apply CW.seq) | (apply CW.region) | (apply WL.lenS; rfl; rfl; rfl) | (apply WL.fa; rfl; rfl; rfl) | (apply WL.nck; rfl; rfl; rfl) | (apply WL.ld; rfl; rfl; rfl; assumption; rfl) | (apply CW.block)))
    refine CW.loop (S := Nat × Value) (fun s => [(0, .pointer (some ⟨sb, 0, none⟩)), (2, .int .i64 n), (3, ofv), (10, .slice mo (memL n F).length mc), (11, s.2), (14, .slice fo Fr.length fc), (15, .int .i64 Fr.length), (16, .int .i64 i), (26, .slice lo ps.length lc), (27, .int .i64 ps.length), (28, .int .i64 s.1)])
      (fun s w => s.1 ≤ ps.length ∧ Own w w2.heap.size 3 Non s.2 (setP (ps.take s.1) of F) ∧ Ext w2 w) (fun s => ps.length - s.1) (0, .slice none 0 0) (by repeat (first | exact trivial | refine ⟨rfl, ?_⟩)) ⟨Nat.zero_le _, Own.nil, Ext.refl _⟩ ?_
    rintro ⟨j, rv⟩ w3 ⟨hj, ho, e3⟩
    dsimp only at hj ho e3 ⊢
    (repeat (first | (apply WL.pure; rfl; rfl; rfl) | (apply WL.nil) | (apply EX.thenN) | (apply CW.seq) | (apply CW.region)))
    refine CW.cond rfl (fun h => ?_) (fun h => ?_)
    · have hj' : j < ps.length := by simp only [decide_eq_true_eq] at h; omega
      clear h
      have hsn := setP_next (of := of) (F := F) hj'
      have hsl := setP_len (ps := ps.take j) (of := of) (F := F)
      rw [List.length_take] at hsl
      have hpm := List.getElem_mem hj'
      have hip := hin _ hpm
      (repeat (first | (apply WL.pure; rfl; rfl; rfl) | (apply EX.thenN) | (apply CW.seq) | (apply CW.region) | (apply CW.block) | (apply CW.skip)))
      refine WL.elemN (i := j) rfl rfl rfl rfl rfl (hlo2.up e3) hj' (fun _ => rfl) (fun u q hu => ?_)
      rw [rd_pr2 hu]
      clear hu
      generalize ps[j] = p at *
      skip
      refine WL.alloc rfl rfl (fun w4 hb4 e4 => ?_)
      (repeat (apply WL.pure; rfl; rfl; rfl))
      refine WL.st rfl rfl rfl hb4 rfl rfl (ones_of rfl) (fun w5 hb5 hg5 => ?_)
      have e5 : Ext w3 w5 := Below.grown e4 hg5 e4.size (fun g hg => by cases hg; exact Nat.le_refl _)
      have z5 := e5.size
      have ho5 := ho.extN e5
      clear hg5 e4 hb4
      (repeat (first | (apply WL.pure; rfl; rfl; rfl) | (apply WL.nil) | (apply EX.thenN) | (apply CW.seq) | (apply CW.region) | (apply WL.ldA; rfl; rfl; rfl; assumption; rfl)))
      refine WL.callF rfl rfl rfl rfl (hof w5 p hpm) ?_
      rintro _ w6 ⟨rfl, e6⟩
      have e36 := e5.trans e6
      have e26 := e3.trans e36
      obtain ⟨k, hk⟩ : ∃ k : Nat, of p = (k : Int) := ⟨(of p).toNat, by omega⟩
      have hkn : k < n := by omega
      rw [hk] at hsn ⊢
      have ho6 := ho5.extN e6
      skip
      refine WL.elemB rfl rfl rfl rfl rfl (hms.up e26) (i := k) (by rw [hml]; exact hkn) (memL_get hkn) (fun _ => rfl) (fun q => ?_)
      by_cases hmm : (k : Int) ∈ F
      · rw [if_pos hmm] at hsn
        rw [decide_eq_true hmm]
        (repeat (first | (apply WL.pure; rfl; rfl; rfl) | (apply WL.nil) | (apply EX.thenN) | (apply CW.region) | (apply CW.condT; rfl)))
        refine WL.app1 (α := Int) (F := Non) (bytes := 8) (yv := (j : Int)) rfl rfl (fun _ => rfl) rfl rfl (fun _ => rfl) ho6 (Rd.mkInt _ _ _) (by have := e26.size; omega) (fun _ h => h.elim) (by decide) (by unfold maxLen; omega) (by omega) (fun rv' w7 q ho7 hg7 hnb7 => ?_)
        rw [← hsn] at ho7
        have e7 : Ext w2 w7 := Below.grown e26 hg7 e26.size (fun g hg => (ho6.lt g hg).1)
        (repeat (first | (apply WL.add; rfl; rfl; rfl; rfl; omega; omega) | (apply WL.pure; rfl; rfl; rfl) | (apply WL.nil) | (apply EX.thenN) | (apply CW.region) | (apply EX.inN)))
        exact EX.back (j + 1, rv') (by repeat (first | exact trivial | refine ⟨rfl, ?_⟩)) ⟨hj', ho7, e7⟩ (by dsimp only; omega)
      · rw [if_neg hmm, List.append_nil] at hsn
        rw [decide_eq_false hmm]
        rw [← hsn] at ho6
        (repeat (first | (apply WL.add; rfl; rfl; rfl; rfl; omega; omega) | (apply WL.pure; rfl; rfl; rfl) | (apply WL.nil) | (apply EX.thenN) | (apply CW.region) | (apply EX.inN) | (apply CW.condF; rfl) | (apply CW.skip)))
        exact EX.back (j + 1, rv) (by repeat (first | exact trivial | refine ⟨rfl, ?_⟩)) ⟨hj', ho6, e26⟩ (by dsimp only; omega)
    have hje : j = ps.length := by simp only [decide_eq_false_iff_not] at h; omega
    subst hje
    rw [List.take_length] at ho
    clear h
    have e13 := e2.trans e3
    have hb3 := hb1.ext e13
    have hn3 := hn1.extN e13
    obtain ⟨so, sc, rfl⟩ := ho.val
    have z3 := e3.size
    have hlr := fun g hg => ho.lt g hg
    have hln := fun g hg => hn1.lt g hg
    obtain ⟨cvo, cvc, rfl⟩ := hn1.val
    (repeat (first | (apply WL.pure; rfl; rfl; rfl) | (apply EX.thenN) | (apply CW.region) | (apply WL.fa; rfl; rfl; rfl) | (apply WL.nck; rfl; rfl; rfl) | (apply WL.ld; rfl; rfl; rfl; assumption; rfl) | (apply CW.exit) | (apply EX.thenX) | (apply EX.inX)))
    refine WL.app1 (α := Raw) (F := Non) (bytes := 24) (yv := (⟨.slice so (setP ps of F).length sc⟩ : Raw)) rfl rfl (fun _ => rfl) rfl rfl (fun _ => rfl) hn3 (Rd.mkRaw _ _ _ rfl) (by omega) (fun _ h => h.elim) (by decide) (by unfold maxLen; omega) (by omega) (fun nv' w4 q ho4 hg4 hnb4 => ?_)
    obtain ⟨nvo, nvc, rfl⟩ := ho4.val
    have hb4 := hb3.kept hg4 (fun e => hcs1 _ e.symm rfl)
    have z4 := hg4.size
    (repeat (first | (apply WL.fa; rfl; rfl; rfl) | (apply WL.nck; rfl; rfl; rfl)))
    refine WL.st rfl rfl rfl hb4 rfl rfl (ones_of rfl) (fun w5 hb5 hg5 => ?_)
    have z5 := hg5.size
    have hnsb : ∀ g, (Value.slice nvo (cs ++ [(⟨.slice so (setP ps of F).length sc⟩ : Raw)]).length nvc).ownBlock = some g → g ≠ sb := fun g hg => by
      rcases hnb4 g hg with h | h
      · exact hcs1 g h
      · omega
    have ho5 := ho4.keptN hg5 (fun g hg e => hnsb g hg (Option.some.inj e))
    -- what is kept
    have hrow : Rd w3 (Fz w3 (fun b => b = sb ∨ Value.ownBlock (.slice cvo cs.length cvc) = some b ∨ b < N)) (.slice so (setP ps of F).length sc) (setP ps of F) :=
      ho.rd.mono (fun _ _ => rfl) (fun g hg => hg.elim (fun h => h.elim) (fun hg => ⟨(hlr g hg).2.1, fun h => by
        have h1 := (hlr g hg).1
        rcases h with h | h | h
        · omega
        · have := (hln g h).2.1; omega
        · omega⟩))
    have hin3 := (in1.to (Chg.of_ext _ e13) (fun b h => .inl h)).push hrow
    have hC35 : Chg (fun b => b = sb ∨ Value.ownBlock (.slice cvo cs.length cvc) = some b) w3 w5 := ((Chg.of_grown hg4).wk (fun b h => .inr h)).grown hg5 (fun g hg => by cases hg; exact .inl rfl)
    have hW35 : Chg (fun b => b = sb ∨ Value.ownBlock (.slice cvo cs.length cvc) = some b ∨ b < N) w3 w5 := hC35.wk (fun b h => h.imp id .inl)
    have hin5 := hin3.to hW35 (M' := fun b => b = sb ∨ (Value.slice nvo (cs ++ [(⟨.slice so (setP ps of F).length sc⟩ : Raw)]).length nvc).ownBlock = some b ∨ b < N) (fun b h => by
      rcases h with h | h | h
      · exact .inl (.inl h)
      · exact (hnb4 b h).imp (fun h => .inr (.inl h)) id
      · exact .inl (.inr (.inr h)))
    rw [List.append_assoc, ← hnx] at hin5
    have hC5 : Chg (fun b => b = sb ∨ nv.ownBlock = some b) w0 w5 := (hC1.trans (Chg.of_ext _ e13)).then hC35 (fun b h => hM1 b h)
    (repeat (first | (apply WL.add; rfl; rfl; rfl; rfl; omega; omega) | (apply WL.pure; rfl; rfl; rfl) | (apply WL.nil) | (apply EX.thenN) | (apply CW.region) | (apply EX.inN)))
    refine EX.back (i + 1, _, cs ++ [(⟨.slice so (setP ps of F).length sc⟩ : Raw)]) (by repeat (first | exact trivial | refine ⟨rfl, ?_⟩)) ⟨hi', hb5, ho5, hin5, hC5, fun g hg => ?_⟩ (by dsimp only; omega)
    rcases hnb4 g hg with h | h
    · exact nw1 g h
    · exact .inr (by omega)
  have hie : i = Fr.length := by simp only [decide_eq_false_iff_not] at h; omega
  subst hie
  rw [List.take_length] at in1
  (repeat (first | (apply CW.exit) | (apply EX.thenX) | (apply EX.inX)))
  exact EX.end0 rfl ⟨cv, cs, hb1, hn1, in1, hC1, nw1⟩
end Go.Proofs.Ytllpfgcngokhnaa
/-
  A graph turned round: plain lists.
-/
set_option linter.unusedVariables false
set_option linter.unusedSimpArgs false
namespace Go.Proofs.Ytllpfgcngokhnaa
open Go.RowKit

theorem turnL_row {g : Graph} {m : Nat} (h : m < (turnL g).length) : (turnL g)[m] = ((List.range g.length).filter (fun k => (g.getD k []).contains (m : Int))).map (fun k : Nat => (k : Int)) := by
  have e : (turnL g)[m] = trow g g.length 0 m := turnP_get _
  rw [e]
  unfold trow
  simp
theorem turn_thrice (g : Graph) : turnL (turnL (turnL g)) = turnL g := by
  apply List.ext_getElem (by simp only [turnL_len])
  intro m h1 h2
  rw [turnL_row, turnL_row]
  rw [turnL_len, turnL_len]
  congr 1
  apply List.filter_congr
  intro k hk
  rw [List.mem_range] at hk
  have hm : m < g.length := by rw [turnL_len] at h2; exact h2
  rw [Bool.eq_iff_iff]
  simp only [List.contains_iff_mem]
  rw [turnL_mem (by rw [turnL_len]; exact hk), turnL_mem hm]
  rw [turnL_len]
  exact ⟨fun h => h.2.2, fun h => ⟨hm, hk, h⟩⟩
theorem rch_turn1 {g : Graph} {a b : Nat} (h : Rch (turnL g) [(a : Int)] b) : Rch g [(b : Int)] a := by
  induction h with
  | @base x hx =>
    have : x = (a : Int) := by simpa using hx
    subst this
    simpa using Rch.self a
  | @step m x _ hx ih =>
    by_cases hm : m < g.length
    · have hx0 : 0 ≤ x := ((okG_row (turnL_ok g) m) x hx).1
      obtain ⟨k, rfl⟩ := Int.eq_ofNat_of_zero_le hx0
      exact (Rch.edge ((turnL_mem hm).1 hx).2).trans ih
    · rw [List.getD_eq_getElem?_getD, List.getElem?_eq_none (by rw [turnL_len]; omega)] at hx
      simp at hx
theorem rch_turn2 {g : Graph} (hg : okG g) {a b : Nat} (h : Rch g [(b : Int)] a) : Rch (turnL g) [(a : Int)] b := by
  induction h with
  | @base x hx =>
    have : x = (b : Int) := by simpa using hx
    subst this
    simpa using Rch.self b
  | @step m x _ hx ih =>
    have hxr := okG_row hg m x hx
    obtain ⟨k, rfl⟩ := Int.eq_ofNat_of_zero_le hxr.1
    have hm : m < g.length := by
      apply Classical.byContradiction
      intro hm
      rw [List.getD_eq_getElem?_getD, List.getElem?_eq_none (by omega)] at hx
      simp at hx
    have : (m : Int) ∈ (turnL g).getD k [] := (turnL_mem (by omega)).2 ⟨hm, hx⟩
    exact (Rch.edge this).trans ih
theorem rch_turn {g : Graph} (hg : okG g) {a b : Nat} : Rch (turnL g) [(a : Int)] b ↔ Rch g [(b : Int)] a := ⟨rch_turn1, rch_turn2 hg⟩
theorem parts_turn {g : Graph} (hg : okG g) {p q : List Int} (hp : PartsOK g p) (hq : PartsOK (turnL g) q) : p = q := by
  have hl : p.length = q.length := by rw [hp.len, hq.len, turnL_len]
  refine canon_unique hp.canon hq.canon hl fun a b ha hb => ?_
  rw [hp.len] at ha hb
  rw [hp.same a b ha hb, hq.same a b (by rw [turnL_len]; exact ha) (by rw [turnL_len]; exact hb), rch_turn hg, rch_turn hg]
  exact And.comm

theorem edges_le : ∀ (g : Graph) (c : Nat), (∀ l ∈ g, l.length ≤ c) → edges g ≤ g.length * c
  | [], c, _ => by simp [edges]
  | l :: g, c, h => by
    have h1 := edges_le g c (fun x hx => h x (by simp [hx]))
    have h2 := h l (by simp)
    simp only [edges, List.map_cons, List.sum_cons, List.length_cons] at h1 ⊢
    rw [Nat.add_mul, Nat.one_mul]
    omega
theorem edges_turn (g : Graph) : edges (turnL g) ≤ g.length * (g.length + 1) := by
  have h := edges_le (turnL g) (g.length + 1) (fun l hl => by
    obtain ⟨m, hm, rfl⟩ := List.mem_iff_getElem.1 hl
    have e : (turnL g)[m] = trow g g.length 0 m := turnP_get _
    rw [e]
    exact trow_len _ _ _ _)
  rwa [turnL_len] at h
end Go.Proofs.Ytllpfgcngokhnaa
/-
  What an automaton of pairs is like: plain lists, no program in sight.
-/
set_option linter.unusedVariables false
set_option linter.unusedSimpArgs false
namespace Go.Proofs.Ytllpfgcngokhnaa

theorem edges_getD : ∀ {g : Graph} {j : Nat}, (g.getD j []).length ≤ edges g
  | [], j => by simp
  | r :: g, 0 => by simp [edges]
  | r :: g, j + 1 => by
    have := edges_getD (g := g) (j := j)
    simp [edges] at this ⊢
    omega
theorem addP_nd {ps : List Pr2} {l : List Int} {p : Pr2} (h : l.Nodup) : (addP ps l p).2.Nodup := by
  unfold addP
  dsimp only
  split
  · exact h
  · rename_i hn
    rw [List.nodup_append]
    refine ⟨h, List.pairwise_singleton _ _, fun a ha b hb e => ?_⟩
    rw [List.mem_singleton] at hb
    exact hn (by rw [← hb, ← e]; exact ha)
theorem putP_nd : ∀ (r ps : List Pr2) (ok : Bool) (l : List Int), l.Nodup → (putP r ps ok l).2.2.Nodup
  | [], ps, ok, l, h => h
  | p :: r, ps, ok, l, h => by
    rw [putP]
    split
    · exact putP_nd r _ _ _ (addP_nd h)
    · exact putP_nd r _ _ _ h
theorem madeGo_nd {next : Pr2 → List Pr2} : ∀ (f n : Nat) (ps : List Pr2) (ok : Bool) (nx : List (List Int)), (∀ r ∈ nx, r.Nodup) → ∀ r ∈ (madeGo next f n ps ok nx).2.2, r.Nodup
  | 0, n, ps, ok, nx, h => h
  | f + 1, n, ps, ok, nx, h => by
    rw [madeGo]
    split
    · refine madeGo_nd f _ _ _ _ (fun r hr => ?_)
      rcases List.mem_append.1 hr with hr | hr
      · exact h r hr
      · rw [List.mem_singleton] at hr
        rw [hr]
        exact putP_nd _ _ _ _ List.nodup_nil
    · exact h
theorem okL_nodup_len {n : Nat} {l : List Int} (hn : l.Nodup) (h : okL n l) : l.length ≤ n := by
  have := nodup_len n (l.map Int.toNat) (by
    rw [List.nodup_iff_pairwise_ne] at hn ⊢
    rw [List.pairwise_map]
    refine List.Pairwise.imp_of_mem (fun {a b} ha hb hab e => hab ?_) hn
    have h1 := h a ha
    have h2 := h b hb
    omega) (fun x hx => by
    obtain ⟨y, hy, rfl⟩ := List.mem_map.1 hx
    have := h y hy
    omega)
  simpa using this
structure MadeIn (N : Nat) (st : List Int) (nx : List (List Int)) : Prop where
  so : okL N st
  no : ∀ r ∈ nx, okL N r
  ln : nx.length = N
  n : N ≤ 2048
  sl : st.length ≤ 2048
  ed : edges nx ≤ 4194304
theorem made_in {next : Pr2 → List Pr2} {start : List Pr2} (h : (madeE next start).2.1 = true) : MadeIn (madeE next start).1.length (madeS start) (madeE next start).2.2 := by
  obtain ⟨hM, hl⟩ := made_law h
  have h1 : okL (madeE next start).1.length (madeS start) := fun i hi => by
    obtain ⟨p, hp, e⟩ := (hM.st1 i).1 hi
    have := (idxOf_at (hM.st0 p hp)).1
    omega
  have h2 : ∀ r ∈ (madeE next start).2.2, okL (madeE next start).1.length r := fun r hr i hi => by
    obtain ⟨n, hn, rfl⟩ := List.mem_iff_getElem.1 hr
    have hg : (madeE next start).2.2.getD n [] = (madeE next start).2.2[n] := by rw [List.getD_eq_getElem?_getD, List.getElem?_eq_getElem hn]; rfl
    rw [← hg] at hi
    obtain ⟨p, hp, e⟩ := (hM.nx1 n hn i).1 hi
    have := (idxOf_at (hM.nx0 n hn p hp)).1
    omega
  have hn := hM.le
  refine ⟨h1, h2, hl, hn, ?_, ?_⟩
  · exact Nat.le_trans (okL_nodup_len (putP_nd _ _ _ _ List.nodup_nil) h1) hn
  · have h3 : ∀ r ∈ (madeE next start).2.2, r.length ≤ 2048 := fun r hr => Nat.le_trans (okL_nodup_len (madeGo_nd _ _ _ _ _ (fun _ h => by cases h) r hr) (h2 r hr)) hn
    have h4 := edges_le _ 2048 h3
    rw [hl] at h4
    have : (madeE next start).1.length * 2048 ≤ 2048 * 2048 := Nat.mul_le_mul_right _ hn
    omega
theorem setP_okL {ps : List Pr2} {of : Pr2 → Int} {F : List Int} : okL ps.length (setP ps of F) := fun i hi => by
  unfold setP at hi
  obtain ⟨j, hj, rfl⟩ := List.mem_map.1 hi
  have := List.mem_range.1 (List.mem_filter.1 hj).1
  omega
theorem oneFair_okL {fr : List (List Int)} {ps : List Pr2} : okL ps.length (oneFair fr ps) := fun i hi => by
  unfold oneFair at hi
  obtain ⟨j, hj, rfl⟩ := List.mem_map.1 hi
  have := List.mem_range.1 (List.mem_filter.1 hj).1
  omega
theorem both_okA {A B : LAuto} (h : (madeE (bothNext A B) (bothStart A B)).2.1 = true) (h80 : A.2.2.2.2.length + B.2.2.2.2.length ≤ 80) : OkA (bothL A B) ∧ edges (bothL A B).2.1 + (bothL A B).1.length ≤ 8589934592 := by
  have hI := made_in h
  have hl := hI.ln
  have hn := hI.n
  have hs := hI.sl
  have he := hI.ed
  refine ⟨⟨?_, ?_, ?_, ?_, ?_, ?_, ?_⟩, ?_⟩
  · show (madeE (bothNext A B) (bothStart A B)).2.2.length ≤ 2048; omega
  · show (A.2.2.2.2.map _ ++ B.2.2.2.2.map _).length ≤ 80
    rw [List.length_append, List.length_map, List.length_map]; exact h80
  · show ((bothPs A B).map _).length = (madeE (bothNext A B) (bothStart A B)).2.2.length
    rw [List.length_map]; exact hl.symm
  · show ((bothPs A B).map _).length = (madeE (bothNext A B) (bothStart A B)).2.2.length
    rw [List.length_map]; exact hl.symm
  · show okL (madeE (bothNext A B) (bothStart A B)).2.2.length (madeS (bothStart A B))
    rw [hl]; exact hI.so
  · show ∀ r ∈ (madeE (bothNext A B) (bothStart A B)).2.2, okL (madeE (bothNext A B) (bothStart A B)).2.2.length r
    rw [hl]; exact hI.no
  · show ∀ r ∈ A.2.2.2.2.map (setP (bothPs A B) Prod.fst) ++ B.2.2.2.2.map (setP (bothPs A B) Prod.snd), okL (madeE (bothNext A B) (bothStart A B)).2.2.length r
    rw [hl]
    intro r hr
    rcases List.mem_append.1 hr with hr | hr <;> (obtain ⟨F, _, rfl⟩ := List.mem_map.1 hr; exact setP_okL)
  · show edges (madeE (bothNext A B) (bothStart A B)).2.2 + (madeS (bothStart A B)).length ≤ _
    omega
theorem one_okA {A : LAuto} (h : (madeE (oneNext A) (oneStart A)).2.1 = true) : OkA (oneL A) ∧ edges (oneL A).2.1 + (oneL A).1.length ≤ 8589934592 := by
  have hI := made_in h
  have hl := hI.ln
  have hn := hI.n
  have hs := hI.sl
  have he := hI.ed
  refine ⟨⟨?_, ?_, ?_, ?_, ?_, ?_, ?_⟩, ?_⟩
  · show (madeE (oneNext A) (oneStart A)).2.2.length ≤ 2048; omega
  · show [oneFair A.2.2.2.2 (onePs A)].length ≤ 80
    simp
  · show ((onePs A).map _).length = (madeE (oneNext A) (oneStart A)).2.2.length
    rw [List.length_map]; exact hl.symm
  · show ((onePs A).map _).length = (madeE (oneNext A) (oneStart A)).2.2.length
    rw [List.length_map]; exact hl.symm
  · show okL (madeE (oneNext A) (oneStart A)).2.2.length (madeS (oneStart A))
    rw [hl]; exact hI.so
  · show ∀ r ∈ (madeE (oneNext A) (oneStart A)).2.2, okL (madeE (oneNext A) (oneStart A)).2.2.length r
    rw [hl]; exact hI.no
  · show ∀ r ∈ [oneFair A.2.2.2.2 (onePs A)], okL (madeE (oneNext A) (oneStart A)).2.2.length r
    rw [hl]
    intro r hr
    rw [List.mem_singleton] at hr
    rw [hr]; exact oneFair_okL
  · show edges (madeE (oneNext A) (oneStart A)).2.2 + (madeS (oneStart A)).length ≤ _
    omega
end Go.Proofs.Ytllpfgcngokhnaa
