import Derived.Test.YtadbkppgaekmpaaPtAutoOwn10
/-
  Package auto: made: walked.
-/
set_option linter.unusedVariables false
set_option linter.unusedSimpArgs false
namespace Go.Proofs.Ytadbkppgaekmpaa
open Go.RowKit

theorem putP_allQ {Q : Pr2 → Prop} {r ps : List Pr2} {ok : Bool} {l : List Int} (hr : ∀ p ∈ r, Q p) (hp : ∀ p ∈ ps, Q p) : ∀ p ∈ (putP r ps ok l).1, Q p := putP_all r ps ok l hr hp
theorem putP_len : ∀ (r ps : List Pr2) (ok : Bool) (l : List Int), (putP r ps ok l).2.2.length ≤ l.length + r.length
  | [], ps, ok, l => by rw [putP]; simp
  | p :: r, ps, ok, l => by
    rw [putP]
    split
    · refine Nat.le_trans (putP_len r _ _ _) ?_
      have : (addP ps l p).2.length ≤ l.length + 1 := by
        unfold addP
        dsimp only
        split
        · omega
        · simp
      simp only [List.length_cons]; omega
    · refine Nat.le_trans (putP_len r _ _ _) ?_
      simp only [List.length_cons]; omega
/-- the maker while all pairs are made -/
structure MadeI (w0 w : World) (N B B2 sb mb kb tb : Nat) (cl sv nv : Value) (st : List Int) (vs : List Raw) (ps : List Pr2) (ok : Bool) (nx : List (List Int)) : Prop where
  mak : Mk w B ⟨sb, mb, cl, sv, nv, .slice none 0 0, .slice none 0 0, .slice none 0 0⟩ ps
  hk : Blk w kb 4 [.bool ok]
  ht : Blk w tb 136 [.pointer (some ⟨sb, 0, none⟩)]
  hn : Own w B2 22 Non nv vs
  inn : InnR w (fun b => b = sb ∨ b = mb ∨ cl.ownBlock = some b ∨ b = kb ∨ nv.ownBlock = some b ∨ b < N) vs nx
  hs : ∃ so sc, sv = .slice so st.length sc ∧ Sl w (Fz w (fun b => b = sb ∨ b = mb ∨ cl.ownBlock = some b ∨ b = kb ∨ nv.ownBlock = some b ∨ b < N)) so sc st
  chg : Chg (fun b => b = sb ∨ b = mb) w0 w
  cln : ∀ g, cl.ownBlock = some g → w0.heap.size ≤ g ∧ g ≠ kb ∧ g ≠ tb
  clv : ∀ g, cl.ownBlock = some g → nv.ownBlock ≠ some g
set_option maxHeartbeats 4000000 in
theorem made_ok (w0 : World) {N B sb mb : Nat} {start : List Pr2} {F : Nat → Prop} {po : Option Addr} {pc : Nat} {fv : Value} {next : Pr2 → List Pr2} {Q : Pr2 → Prop}
    (h : Mk w0 B ⟨sb, mb, .slice none 0 0, .slice none 0 0, .slice none 0 0, .slice none 0 0, .slice none 0 0, .slice none 0 0⟩ []) (hB : B ≤ w0.heap.size) (hNB : N ≤ B) (hs : Sl w0 F po pc start) (hF : ∀ b, F b → b < w0.heap.size ∧ b ≠ sb ∧ b ≠ mb)
    (hsm : ∀ p ∈ start, Q p) (hlen : start.length ≤ 1099511627776) (hQ : ∀ p, Q p → SmP p) (hnext : ∀ p, Q p → (∀ x ∈ next p, Q x) ∧ (next p).length ≤ 1099511627776)
    (hfn : ∀ w p, Chg (fun b => b = sb ∨ b = mb) w0 w → Q p → FnV Try.prog fv [prV p] w fun v w' => Own w' w.heap.size 133 Non v (next p) ∧ Ext w w') :
    Rt Try.prog 68 [.pointer (some ⟨sb, 0, none⟩), .slice po start.length pc, fv].toArray w0 fun v w' => ∃ lo lc so sc no nc, v = .bool (madeE next start).2.1 ∧
      Blk w' sb 139 [.map (some mb), .slice lo (madeE next start).1.length lc, .slice so (madeS start).length sc, .slice no (madeE next start).2.2.length nc, .slice none 0 0, .slice none 0 0, .slice none 0 0] ∧
      Sl w' (Fz w' (fun b => b = sb ∨ b < N)) lo lc (madeE next start).1 ∧ Sl w' (Fz w' (fun b => b = sb ∨ b < N)) so sc (madeS start) ∧ Sl w' (Fz w' (fun b => b = sb ∨ b < N)) no nc (madeE next start).2.2 ∧ Chg (fun b => b = sb ∨ b = mb) w0 w' := by
  have hsb0 := h.blk.lt
  have hmb0 := h.num.lt
  dsimp only at hsb0 hmb0
  have hne := h.ne
  dsimp only at hne
  refine Rt.enter3 Try.func68 Try.ntmps68 rfl rfl ?_
  (repeat (first | (apply CW.seq) | (apply CW.region)))
  refine WL.boxB rfl rfl rfl fun w1 htb e1 => ?_
  have z1 := htb.lt
  (repeat (first | (apply WL.pure; rfl; rfl; rfl) | (apply WL.nil) | (apply EX.thenN) | (apply CW.seq) | (apply CW.region)))
  refine WL.alloc rfl rfl (fun w2 hkb e2 => ?_)
  skip
  refine WL.st rfl rfl rfl hkb rfl rfl (ones_of rfl) (fun w3 hkb hg3 => ?_)
  have e3 : Ext w1 w3 := Below.grown e2 hg3 e2.size (fun g hg => by cases hg; exact Nat.le_refl _)
  have htb := htb.ext e3
  have hE := e1.trans e3
  have z2 := hkb.lt
  have y1 := e1.size
  have y3 := e3.size
  clear e2 hg3
  have hM3 := h.ext hE
  generalize hkbn : w1.heap.size = kb at *
  generalize htbn : w0.heap.size = tb at *
  (repeat (first | (apply WL.pure; rfl; rfl; rfl) | (apply WL.nil) | (apply EX.thenN) | (apply CW.seq) | (apply CW.region) | (apply WL.makeFunc; rfl; rfl; rfl; rfl)))
  have hD : Ext w3 (drew w3) := Ext.drew w3
  have htbd := htb.ext hD
  have hK1 : ∀ u, (fun z : World => z.heap[tb]? = (drew w3).heap[tb]?) u → u.heap[tb]? = (drew w3).heap[tb]? := fun _ h => h
  refine CW.drawE (fun z : World => z.heap[tb]? = (drew w3).heap[tb]?) [(0, true), (1, true), (2, true), (3, false), (4, false), (5, false), (6, false)] 7 mixed (by kernel_rfl) rfl ?_
  (repeat (first | (apply HL.pure; rfl; rfl; rfl; rfl) | (refine HL.ldK (by assumption) rfl rfl rfl rfl (by assumption) rfl ?_)))
  have hput := put_ok (drew w3) (hM3.ext hD) (hkb.ext hD) htbd (hs.mono (fun b hb => (hE.trans hD).block b (by have := (hF b hb).1; omega)) (fun _ h => h)) (fun b hb => ⟨by have := (hF b hb).1; have := hD.size; omega, (hF b hb).2.1, (hF b hb).2.2, (fun e => by cases e), (by have := (hF b hb).1; omega)⟩)
    ⟨by dsimp only; omega, by dsimp only; omega, fun e => by cases e⟩ ⟨by dsimp only; omega, by dsimp only; omega, (fun e => by cases e), by omega⟩ (by have := hD.size; omega) (fun p hp => hQ p (hsm p hp)) (fun _ => by simp) (by simp) hlen
  dsimp only at hput
  refine HL.mut rfl (WL.callV (fv := []) rfl rfl rfl rfl hput ?_)
  rintro sv w4 ⟨cl, hM4, hk4, ho4, hC4, n1, d1⟩
  clear hput
  obtain ⟨so, sc, rfl⟩ := ho4.val
  have z4 := hC4.size
  have zd := hD.size
  have hlo4 := fun g hg => ho4.lt g hg
  have hS4 : w4.heap[tb]? = (drew w3).heap[tb]? := hC4.block tb (by omega) (fun h => by
    rcases h with h | h | h | h
    · omega
    · omega
    · cases h
    · omega)
  refine WL.nil (EX.mut hS4 ?_)
  refine HL.mut rfl (WL.nck rfl rfl rfl (WL.nil (EX.mut hS4 ?_)))
  refine HL.mut rfl (WL.fa rfl rfl rfl (WL.nil (EX.mut hS4 ?_)))
  refine HL.mut rfl (WL.fa rfl rfl rfl (WL.nil (EX.mut hS4 (HL.nil ?_))))
  have hblk4 := hM4.blk
  dsimp only at hblk4
  refine EX.tail rfl (WL.st rfl rfl rfl hblk4 rfl rfl (ones_of rfl) (fun w5 hblk5 hg5 => WL.nil (EX.tailE ?_)))
  have z5 := hg5.size
  have hlps := hM4.lo.lt
  dsimp only at hlps
  have hcn : ∀ g, cl.ownBlock = some g → w3.heap.size ≤ g := fun g hg => by
    rcases n1 g hg with h | h
    · cases h
    · omega
  have hC35 : Chg (fun b => b = sb ∨ b = mb) w0 w5 := ((Chg.of_ext (fun b => b = sb ∨ b = mb) (hE.trans hD)).then hC4 (fun b h => by
    rcases h with h | h | h | h
    · exact .inl (.inl h)
    · exact .inl (.inr h)
    · cases h
    · exact .inr (by omega))).grown hg5 (fun g hg => by cases hg; exact .inl rfl)
  have hkb5 : kb < w5.heap.size ∧ tb < w5.heap.size := by omega
  have hI : MadeI w0 w5 N B w5.heap.size sb mb kb tb cl (.slice so (madeS start).length sc) (.slice none 0 0) (madeS start) [] (putP start [] true []).1 (putP start [] true []).2.1 [] := by
    refine ⟨⟨hblk5, hM4.num.kept hg5 (fun e => hne (Option.some.inj e).symm), hM4.lo.keptN hg5 (fun g hg e => (hM4.nl g hg).1 (Option.some.inj e)), h.ge, hne, hM4.nl, hM4.nd, hM4.sm⟩, hk4.kept hg5 (fun e => by have := Option.some.inj e; omega),
      (hS4.trans htbd |> fun h : Blk w4 tb _ _ => h.kept hg5 (fun e => by have := Option.some.inj e; omega)), Own.nil, InnR.nil, ⟨so, sc, rfl, ?_⟩, hC35, fun g hg => ⟨by have := hcn g hg; omega, by have := hcn g hg; omega, by have := hcn g hg; omega⟩, fun g _ e => by cases e⟩
    have ho5 := ho4.keptN hg5 (fun g hg e => by have := (hlo4 g hg).1; have := Option.some.inj e; omega)
    obtain ⟨a, b, e, hsl⟩ := ho5.slF (F' := Fz w5 (fun b => b = sb ∨ b = mb ∨ cl.ownBlock = some b ∨ b = kb ∨ Value.ownBlock (.slice none 0 0) = some b ∨ b < N)) (fun _ h => h.elim) (fun g hg => ⟨(ho5.lt g hg).2.1, fun h => by
      have := (hlo4 g hg).1
      rcases h with h | h | h | h | h | h
      · omega
      · omega
      · exact d1 g hg h
      · omega
      · cases h
      · omega⟩)
    obtain ⟨rfl, _, rfl⟩ := Value.slice.inj e
    exact hsl
  have hps0 := putP_sizes start [] true [] (fun _ => by simp) (by simp)
  have hal0 : ∀ p ∈ (putP start [] true []).1, Q p := putP_allQ hsm (fun p hp => by cases hp)
  have hmade : madeGo next 2049 0 (putP start [] true []).1 (putP start [] true []).2.1 [] = madeE next start := rfl
  rw [← hmade]
  generalize (putP start [] true []).1 = ps0 at *
  generalize (putP start [] true []).2.1 = ok0 at *
  clear hC4 hM4 hk4 ho4 d1 n1 hlo4 hlps hS4 hblk4 hblk5 hg5 hC35 hM3 htbd hK1 hcn hmade htb hkb hD hE e1 e3 hs hF hsm
  have hz0 : w0.heap.size ≤ w5.heap.size := hI.chg.size
  apply EX.thenN
  (repeat (first | (apply WL.pure; rfl; rfl; rfl) | (apply WL.nil) | (apply EX.thenN) | (apply CW.seq) | (apply CW.region) | (apply CW.block)))
  refine CW.loop (S := Nat × Value × Value × List Raw × List Pr2 × Bool × List (List Int)) (fun s => [(2, fv), (3, .pointer (some ⟨tb, 0, none⟩)), (7, .pointer (some ⟨kb, 0, none⟩)), (8, .func (.func 130) #[] #[.pointer (some ⟨kb, 0, none⟩), .pointer (some ⟨tb, 0, none⟩)]), (9, .int .i64 s.1)])
    (fun s w => s.1 ≤ 2049 ∧ madeGo next (2049 - s.1) s.1 s.2.2.2.2.1 s.2.2.2.2.2.1 s.2.2.2.2.2.2 = madeGo next 2049 0 ps0 ok0 [] ∧ MadeI w0 w N B w5.heap.size sb mb kb tb s.2.1 (.slice so (madeS start).length sc) s.2.2.1 (madeS start) s.2.2.2.1 s.2.2.2.2.1 s.2.2.2.2.2.1 s.2.2.2.2.2.2 ∧ s.2.2.2.1.length = s.1 ∧
      (∀ p ∈ s.2.2.2.2.1, Q p) ∧ (s.2.2.2.2.2.1 = true → s.2.2.2.2.1.length ≤ 2048) ∧ s.2.2.2.2.1.length ≤ 2049 ∧ w5.heap.size ≤ w.heap.size)
    (fun s => 2049 - s.1) (0, cl, .slice none 0 0, [], ps0, ok0, []) (by repeat (first | exact trivial | refine ⟨rfl, ?_⟩)) ⟨Nat.zero_le _, rfl, hI, rfl, hal0, hps0.2, hps0.1, Nat.le_refl _⟩ ?_
  clear hI hal0 hps0
  rintro ⟨n, cl, nv, vs, ps, ok, nx⟩ w6 ⟨hn, hT, hI, hvl, hal, ho1, ho2, z6⟩
  dsimp only at hn hT hI hvl hal ho1 ho2 z6 ⊢
  have hblk := hI.mak.blk
  dsimp only at hblk
  have hkb := hI.hk
  have htb := hI.ht
  have lkb := hkb.lt
  have ltb := htb.lt
  obtain ⟨lo, lc, rfl⟩ := hI.mak.lo.val
  obtain ⟨no, nc, rfl⟩ := hI.hn.val
  have fin : ∀ (hx : madeGo next (2049 - n) n ps ok nx = (ps, ok, nx)) (w7 : World) (e7 : Ext w6 w7), ∃ lo lc so sc no nc, Value.bool ok = .bool (madeGo next 2049 0 ps0 ok0 []).2.1 ∧
      Blk w7 sb 139 [.map (some mb), .slice lo (madeGo next 2049 0 ps0 ok0 []).1.length lc, .slice so (madeS start).length sc, .slice no (madeGo next 2049 0 ps0 ok0 []).2.2.length nc, .slice none 0 0, .slice none 0 0, .slice none 0 0] ∧
      Sl w7 (Fz w7 (fun b => b = sb ∨ b < N)) lo lc (madeGo next 2049 0 ps0 ok0 []).1 ∧ Sl w7 (Fz w7 (fun b => b = sb ∨ b < N)) so sc (madeS start) ∧ Sl w7 (Fz w7 (fun b => b = sb ∨ b < N)) no nc (madeGo next 2049 0 ps0 ok0 []).2.2 ∧ Chg (fun b => b = sb ∨ b = mb) w0 w7 := by
    intro hx w7 e7
    rw [← hT, hx]
    obtain ⟨so', sc', es, hss⟩ := hI.hs
    obtain ⟨rfl, _, rfl⟩ := Value.slice.inj es
    have hnl := fun g hg => hI.hn.lt g hg
    have hll := fun g hg => hI.mak.lo.lt g hg
    have hlx := fun g hg => hI.cln g hg
    dsimp only at hll
    obtain ⟨no', nc', en, hns⟩ := hI.inn.sl (F := Fz w6 (fun b => b = sb ∨ b < N)) hI.hn (fun b hb => ⟨hb.1, fun h => hb.2 (h.elim .inl fun h => .inr (.inr (.inr (.inr (.inr h)))))⟩) (fun g hg => ⟨(hnl g hg).2.1, by have := (hnl g hg).1; omega⟩)
    obtain ⟨rfl, hvl2, rfl⟩ := Value.slice.inj en
    obtain ⟨lo', lc', el, hls⟩ := hI.mak.lo.slF (F' := Fz w6 (fun b => b = sb ∨ b < N)) (fun _ h => h.elim) (fun g hg => ⟨(hll g hg).2.1, by have := (hlx g hg).1; omega⟩)
    obtain ⟨rfl, _, rfl⟩ := Value.slice.inj el
    have hb7 := hblk.ext e7
    rw [hvl2] at hb7
    have hC7 : Chg (fun b => b = sb ∨ b < N) w6 w7 := Chg.of_ext _ e7
    exact ⟨lo, lc, so, sc, no, nc, rfl, hb7, hls.fz hC7 (fun _ h => .inl h), (hss.mono (F' := Fz w6 (fun b => b = sb ∨ b < N)) (fun _ _ => rfl) (fun b hb => ⟨hb.1, fun h => hb.2 (h.elim .inl fun h => .inr (.inr (.inr (.inr (.inr h)))))⟩)).fz hC7 (fun _ h => .inl h), hns.fz hC7 (fun _ h => .inl h), hI.chg.trans (Chg.of_ext _ e7)⟩
  cases ok with
  | false =>
    have hx : madeGo next (2049 - n) n ps false nx = (ps, false, nx) := by
      cases 2049 - n with
      | zero => rfl
      | succ f => rw [madeGo, if_neg (by simp)]
    (repeat (first | (apply WL.pure; rfl; rfl; rfl) | (apply WL.nil) | (apply EX.thenN) | (apply CW.seq) | (apply CW.region) | (apply WL.pass; rfl; rfl) | (apply WL.ld; rfl; rfl; rfl; assumption; rfl) | (apply CW.condF; rfl) | (apply CW.exit) | (apply EX.thenX) | (apply EX.inX) | (apply CW.ret)))
    exact EX.ret1 rfl rfl (fin hx w6 (Ext.refl _))
  | true =>
  have hp8 := ho1 rfl
  by_cases hnp : n < ps.length
  case neg =>
    have hx : madeGo next (2049 - n) n ps true nx = (ps, true, nx) := by
      cases 2049 - n with
      | zero => rfl
      | succ f => rw [madeGo, if_neg (by simp; omega)]
    (repeat (first | (apply WL.pure; rfl; rfl; rfl) | (apply WL.nil) | (apply EX.thenN) | (apply CW.seq) | (apply CW.region) | (apply WL.lenS; rfl; rfl; rfl) | (apply WL.fa; rfl; rfl; rfl) | (apply WL.nck; rfl; rfl; rfl) | (apply WL.ld; rfl; rfl; rfl; assumption; rfl)))
    rw [decide_eq_false (show ¬ ((n : Int) < (ps.length : Int)) by omega)]
    (repeat (first | (apply WL.pure; rfl; rfl; rfl) | (apply WL.nil) | (apply EX.thenN) | (apply CW.seq) | (apply CW.region) | (apply WL.ld; rfl; rfl; rfl; assumption; rfl) | (apply CW.condF; rfl) | (apply CW.exit) | (apply EX.thenX) | (apply EX.inX) | (apply CW.ret)))
    exact EX.ret1 rfl rfl (fin hx w6 (Ext.refl _))
  clear fin
  (repeat (first | (apply WL.pure; rfl; rfl; rfl) | (apply WL.nil) | (apply EX.thenN) | (apply CW.seq) | (apply CW.region) | (apply WL.lenS; rfl; rfl; rfl) | (apply WL.fa; rfl; rfl; rfl) | (apply WL.nck; rfl; rfl; rfl) | (apply WL.ld; rfl; rfl; rfl; assumption; rfl)))
  rw [decide_eq_true (show ((n : Int) < (ps.length : Int)) by omega)]
  (repeat (first | (apply EX.thenN) | (apply CW.seq) | (apply CW.block) | (apply CW.condT; rfl) | (apply CW.skip)))
  obtain ⟨f, hf⟩ : ∃ f, 2049 - n = f + 1 := ⟨2048 - n, by omega⟩
  have hpn : ps.getD n (0, 0) = ps[n] := by rw [List.getD_eq_getElem?_getD, List.getElem?_eq_getElem hnp]; rfl
  rw [hf, madeGo, if_pos ⟨rfl, hnp⟩, hpn] at hT
  have hQp := hal _ (List.getElem_mem hnp)
  obtain ⟨hnQ, hnl⟩ := hnext _ hQp
  have hll := fun g hg => hI.mak.lo.lt g hg
  have hlx := fun g hg => hI.cln g hg
  have hlv := fun g hg => hI.clv g hg
  have hnlt := fun g hg => hI.hn.lt g hg
  dsimp only at hll
  have hD : Ext w6 (drew w6) := Ext.drew w6
  have zd : (drew w6).heap.size = w6.heap.size := rfl
  have htbd := htb.ext hD
  have hblkd := hblk.ext hD
  have lsb := hblk.lt
  obtain ⟨lo', lc', el, hlsl⟩ := (hI.mak.lo.extN hD).sl
  obtain ⟨rfl, _, rfl⟩ := Value.slice.inj el
  have hK0 : ∀ u, (fun z : World => z.heap[tb]? = (drew w6).heap[tb]? ∧ ∃ lv, Blk z sb 139 [.map (some mb), lv, .slice so (madeS start).length sc, .slice no vs.length nc, .slice none 0 0, .slice none 0 0, .slice none 0 0]) u → u.heap[tb]? = (drew w6).heap[tb]? := fun _ h => h.1
  have hK1 : ∀ u, (fun z : World => z.heap[tb]? = (drew w6).heap[tb]? ∧ z.heap[sb]? = (drew w6).heap[sb]? ∧ ∀ b, (Non b ∨ Value.ownBlock (.slice lo ps.length lc) = some b) → z.heap[b]? = (drew w6).heap[b]?) u → u.heap[tb]? = (drew w6).heap[tb]? := fun _ h => h.1
  have hK2 : ∀ u, (fun z : World => z.heap[tb]? = (drew w6).heap[tb]? ∧ z.heap[sb]? = (drew w6).heap[sb]? ∧ ∀ b, (Non b ∨ Value.ownBlock (.slice lo ps.length lc) = some b) → z.heap[b]? = (drew w6).heap[b]?) u → u.heap[sb]? = (drew w6).heap[sb]? := fun _ h => h.2.1
  refine CW.drawP 16 22 (fun z : World => z.heap[tb]? = (drew w6).heap[tb]? ∧ ∃ lv, Blk z sb 139 [.map (some mb), lv, .slice so (madeS start).length sc, .slice no vs.length nc, .slice none 0 0, .slice none 0 0, .slice none 0 0])
    (fun z : World => z.heap[tb]? = (drew w6).heap[tb]? ∧ z.heap[sb]? = (drew w6).heap[sb]? ∧ ∀ b, (Non b ∨ Value.ownBlock (.slice lo ps.length lc) = some b) → z.heap[b]? = (drew w6).heap[b]?)
    (toP 1 [(0, true), (1, true), (2, true), (3, true), (4, true), (5, true), (6, true), (7, true), (8, true), (9, true), (10, true), (12, true)] ++ (toP 2 [(11, true), (13, true), (14, true)] ++ [(15, 0), (16, 0), (17, 0), (18, 0), (19, 1), (20, 1), (21, 1), (22, 3)])) mixed (by kernel_rfl) ⟨rfl, _, hblkd⟩ ⟨rfl, rfl, fun _ _ => rfl⟩ ?_
  refine HP.weak [(0, true), (1, true), (2, true), (3, true), (4, true), (5, true), (6, true), (7, true), (8, true), (9, true), (10, true), (12, true)] rfl ?_
  (repeat (first | (refine HL.fa rfl rfl rfl rfl ?_) | (apply HL.nck; rfl; rfl; rfl; rfl) | (refine HL.ldK (by assumption) rfl rfl rfl rfl (by assumption) rfl ?_)))
  refine HL.ldC (v := .slice no vs.length nc) (fun z hz => by obtain ⟨_, lv, hb⟩ := hz; exact ⟨_, _, hb, rfl⟩) rfl rfl rfl rfl ?_
  (repeat (first | (apply HL.pure; rfl; rfl; rfl; rfl) | (refine HL.fa rfl rfl rfl rfl ?_) | (apply HL.nck; rfl; rfl; rfl; rfl) | (refine HL.ldK (by assumption) rfl rfl rfl rfl (by assumption) rfl ?_) | (apply HL.nil)))
  refine EX.rest ?_
  refine HP.early [(11, true), (13, true), (14, true)] rfl ?_
  (repeat (refine HL.ldK (by assumption) rfl rfl rfl rfl (by assumption) rfl ?_))
  refine HL.elemK (k := n) (fun z hz => hz.2.2) rfl rfl rfl rfl rfl rfl rfl hlsl hnp (fun _ => rfl) (fun u q hu => ?_)
  rw [rd_pr2 hu]
  clear hu
  generalize ps[n] = p at *
  (repeat (apply HL.nil))
  refine EX.rest ?_
  -- the next pairs
  have hC6 : Chg (fun b => b = sb ∨ b = mb) w0 (drew w6) := hI.chg.trans (Chg.of_ext _ hD)
  refine HP.mut rfl (WL.callF rfl rfl rfl rfl (hfn (drew w6) p hC6 hQp) ?_)
  rintro rv w7 ⟨hor, e7⟩
  obtain ⟨ro, rc, rfl⟩ := hor.val
  have z7 := e7.size
  have hblk7 := hblkd.ext e7
  have htb7 := htbd.ext e7
  refine WL.nil (EX.mutP (ph := false) ⟨e7.block tb (by omega), _, hblk7⟩ (fun _ => ⟨e7.block tb (by omega), e7.block sb (by omega), fun b hb => e7.block b (hb.elim (fun h => h.elim) (fun h => by have := (hll b h).2.1; omega))⟩) ?_)
  -- their numbers
  have hM7 := (hI.mak.ext hD).ext e7
  have hrs : Sl w7 (fun b => Non b ∨ Value.ownBlock (.slice ro (next p).length rc) = some b) ro rc (next p) := by
    obtain ⟨a, b, e, hsl⟩ := hor.sl
    obtain ⟨rfl, _, rfl⟩ := Value.slice.inj e
    exact hsl
  have hlr := fun g hg => hor.lt g hg
  have lmb := hI.mak.num.lt
  dsimp only at lmb
  have hput := put_ok w7 (ok := true) hM7 ((hkb.ext hD).ext e7) htb7 hrs (fun b hb => hb.elim (fun h => h.elim) (fun hb => ⟨(hlr b hb).2.1, by have := (hlr b hb).1; dsimp only; omega, by have := (hlr b hb).1; dsimp only; omega, fun e => by have := (hlr b hb).1; have := (hll b e).2.1; omega, by have := (hlr b hb).1; omega⟩))
    ⟨by dsimp only; omega, by dsimp only; omega, fun e => (hlx kb e).2.1 rfl⟩ ⟨by dsimp only; omega, by dsimp only; omega, fun e => (hlx tb e).2.2 rfl, by omega⟩ (by omega) (fun x hx => hQ x (hnQ x hx)) (fun _ => hp8) ho2 hnl
  dsimp only at hput
  refine HP.mut rfl (WL.callV (fv := []) rfl rfl rfl rfl hput ?_)
  rintro uv w8 ⟨cl', hM8, hk8, ho8, hC8, n1, d1⟩
  clear hput
  obtain ⟨uo, uc, rfl⟩ := ho8.val
  have z8 := hC8.size
  have hlu := fun g hg => ho8.lt g hg
  have hS8 : w8.heap[tb]? = w7.heap[tb]? := hC8.block tb (by omega) (fun h => by
    rcases h with h | h | h | h
    · omega
    · omega
    · exact (hlx tb h).2.2 rfl
    · omega)
  have hblk8 := hM8.blk
  dsimp only at hblk8
  have hb87 : w8.heap[tb]? = (drew w6).heap[tb]? := hS8.trans (e7.block tb (by omega))
  refine WL.nil (EX.mutP (ph := true) ⟨hb87, _, hblk8⟩ (fun h => by cases h) ?_)
  have hn8 : Own w8 w5.heap.size 22 Non (.slice no vs.length nc) vs := ((hI.hn.extN hD).extN e7).keep (fun g hg => hC8.block g (by have := (hnlt g hg).2.1; omega) (fun h => by
    have hx := hnlt g hg
    rcases h with h | h | h | h
    · omega
    · omega
    · exact hlv g h hg
    · omega)) (fun _ h => h.elim)
  have hlc := fun g hg => hM8.lo.lt g hg
  dsimp only at hlc
  refine HP.app1 (α := Raw) (F := Non) (bytes := 24) (yv := (⟨.slice uo (putP (next p) ps true []).2.2.length uc⟩ : Raw)) rfl rfl rfl rfl (fun _ => rfl) rfl rfl (fun _ => rfl) hn8 (Rd.mkRaw _ _ _ rfl) (by omega) (fun _ h => h.elim) (by decide) (by unfold maxLen; omega) (by omega)
    (fun z hz => ⟨(hz.block tb (by omega) (fun e => by have := hnlt tb e.symm; omega)).trans hb87, _, hblk8.kept hz (fun e => by have := hnlt sb e.symm; omega)⟩) (fun nv' w9 q9 ho9 hg9 hnb9 => ?_)
  obtain ⟨no', nc', rfl⟩ := ho9.val
  have hblk9 := hblk8.kept hg9 (fun e => by have := hnlt sb e.symm; omega)
  have z9 := hg9.size
  have hSE9 : (fun z : World => z.heap[tb]? = (drew w6).heap[tb]? ∧ ∃ lv, Blk z sb 139 [.map (some mb), lv, .slice so (madeS start).length sc, .slice no vs.length nc, .slice none 0 0, .slice none 0 0, .slice none 0 0]) w9 := ⟨(hg9.block tb (by omega) (fun e => by have := hnlt tb e.symm; omega)).trans hb87, _, hblk9⟩
  refine HP.weak (r := [(22, 3)]) [(19, true), (20, true), (21, true)] rfl ?_
  (repeat (first | (refine HL.fa rfl rfl rfl rfl ?_) | (apply HL.nck; rfl; rfl; rfl; rfl) | (apply HL.nil)))
  refine EX.rest ?_
  refine HP.last rfl (WL.st rfl rfl rfl hblk9 rfl rfl (ones_of rfl) (fun w10 hblk10 hg10 => WL.nil (EX.tailE ?_)))
  have hcl8 : ∀ g, cl'.ownBlock = some g → (Value.ownBlock (.slice lo ps.length lc) = some g ∨ w7.heap.size ≤ g) ∧ g < w8.heap.size := fun g hg => ⟨n1 g hg, (hlc g hg).2.1⟩
  have hclx : ∀ g, cl'.ownBlock = some g → Value.ownBlock (.slice no vs.length nc) ≠ some g := fun g hg e => by
    rcases (hcl8 g hg).1 with h | h
    · exact hlv g h e
    · have := (hnlt g e).2.1; omega
  -- what is kept
  have hC68 : Chg (fun b => b = sb ∨ b = mb ∨ Value.ownBlock (.slice lo ps.length lc) = some b ∨ b = kb ∨ Value.ownBlock (.slice no vs.length nc) = some b) w6 w8 := (Chg.of_ext _ (hD.trans e7)).trans (hC8.wk (fun b h => by
    rcases h with h | h | h | h
    · exact .inl h
    · exact .inr (.inl h)
    · exact .inr (.inr (.inl h))
    · exact .inr (.inr (.inr (.inl h)))))
  have hM68 : ∀ b, (b = sb ∨ b = mb ∨ cl'.ownBlock = some b ∨ b = kb ∨ Value.ownBlock (.slice no vs.length nc) = some b ∨ b < N) → (b = sb ∨ b = mb ∨ Value.ownBlock (.slice lo ps.length lc) = some b ∨ b = kb ∨ Value.ownBlock (.slice no vs.length nc) = some b ∨ b < N) ∨ w6.heap.size ≤ b := fun b h => by
    rcases h with h | h | h | h | h | h
    · exact .inl (.inl h)
    · exact .inl (.inr (.inl h))
    · rcases (hcl8 b h).1 with h | h
      · exact .inl (.inr (.inr (.inl h)))
      · exact .inr (by omega)
    · exact .inl (.inr (.inr (.inr (.inl h))))
    · exact .inl (.inr (.inr (.inr (.inr (.inl h)))))
    · exact .inl (.inr (.inr (.inr (.inr (.inr h)))))
  have hrow : Rd w8 (Fz w8 (fun b => b = sb ∨ b = mb ∨ cl'.ownBlock = some b ∨ b = kb ∨ Value.ownBlock (.slice no vs.length nc) = some b ∨ b < N)) (.slice uo (putP (next p) ps true []).2.2.length uc) (putP (next p) ps true []).2.2 :=
    ho8.rd.mono (fun _ _ => rfl) (fun g hg => hg.elim (fun h => h.elim) (fun hg => ⟨(hlu g hg).2.1, fun h => by
      have h1 := (hlu g hg).1
      rcases h with h | h | h | h | h | h
      · omega
      · omega
      · exact d1 g hg h
      · omega
      · have := (hnlt g h).2.1; omega
      · omega⟩))
  have hW68 : Chg (fun b => b = sb ∨ b = mb ∨ Value.ownBlock (.slice lo ps.length lc) = some b ∨ b = kb ∨ Value.ownBlock (.slice no vs.length nc) = some b ∨ b < N) w6 w8 := hC68.wk (fun b h => by
    rcases h with h | h | h | h | h
    · exact .inl h
    · exact .inr (.inl h)
    · exact .inr (.inr (.inl h))
    · exact .inr (.inr (.inr (.inl h)))
    · exact .inr (.inr (.inr (.inr (.inl h)))))
  have hin8 := (hI.inn.to hW68 hM68).push hrow
  have hC810 : Chg (fun b => b = sb ∨ b = mb ∨ cl'.ownBlock = some b ∨ b = kb ∨ Value.ownBlock (.slice no vs.length nc) = some b) w8 w10 := ((Chg.of_grown hg9).wk (fun b h => .inr (.inr (.inr (.inr h))))).grown hg10 (fun g hg => by cases hg; exact .inl rfl)
  have hM810 : ∀ b, (b = sb ∨ b = mb ∨ cl'.ownBlock = some b ∨ b = kb ∨ Value.ownBlock (.slice no' (vs ++ [(⟨.slice uo (putP (next p) ps true []).2.2.length uc⟩ : Raw)]).length nc') = some b ∨ b < N) → (b = sb ∨ b = mb ∨ cl'.ownBlock = some b ∨ b = kb ∨ Value.ownBlock (.slice no vs.length nc) = some b ∨ b < N) ∨ w8.heap.size ≤ b := fun b h => by
    rcases h with h | h | h | h | h | h
    · exact .inl (.inl h)
    · exact .inl (.inr (.inl h))
    · exact .inl (.inr (.inr (.inl h)))
    · exact .inl (.inr (.inr (.inr (.inl h))))
    · rcases hnb9 b h with h | h
      · exact .inl (.inr (.inr (.inr (.inr (.inl h)))))
      · exact .inr h
    · exact .inl (.inr (.inr (.inr (.inr (.inr h)))))
  have hW810 : Chg (fun b => b = sb ∨ b = mb ∨ cl'.ownBlock = some b ∨ b = kb ∨ Value.ownBlock (.slice no vs.length nc) = some b ∨ b < N) w8 w10 := hC810.wk (fun b h => by
    rcases h with h | h | h | h | h
    · exact .inl h
    · exact .inr (.inl h)
    · exact .inr (.inr (.inl h))
    · exact .inr (.inr (.inr (.inl h)))
    · exact .inr (.inr (.inr (.inr (.inl h)))))
  obtain ⟨so', sc', es, hss⟩ := hI.hs
  obtain ⟨rfl, _, rfl⟩ := Value.slice.inj es
  have hI10 : MadeI w0 w10 N B w5.heap.size sb mb kb tb cl' (.slice so (madeS start).length sc) (.slice no' (vs ++ [(⟨.slice uo (putP (next p) ps true []).2.2.length uc⟩ : Raw)]).length nc') (madeS start) (vs ++ [(⟨.slice uo (putP (next p) ps true []).2.2.length uc⟩ : Raw)]) (putP (next p) ps true []).1 (putP (next p) ps true []).2.1 (nx ++ [(putP (next p) ps true []).2.2]) := by
    refine ⟨⟨hblk10, (hM8.num.kept hg9 (fun e => by have := hnlt mb e.symm; omega)).kept hg10 (fun e => hne (Option.some.inj e).symm), (hM8.lo.keptN hg9 (fun g hg e => hclx g hg e.symm)).keptN hg10 (fun g hg e => (hM8.nl g hg).1 (Option.some.inj e)), h.ge, hne, hM8.nl, hM8.nd, hM8.sm⟩,
      (hk8.kept hg9 (fun e => by have := hnlt kb e.symm; omega)).kept hg10 (fun e => by have := Option.some.inj e; omega), ?_, ho9.keptN hg10 (fun g hg e => by
        have := Option.some.inj e
        rcases hnb9 g hg with h | h
        · have := (hnlt g h).1; omega
        · omega), hin8.to hW810 hM810, ⟨so, sc, rfl, (hss.fz hW68 hM68).fz hW810 hM810⟩, ?_, fun g hg => ?_, fun g hg e => ?_⟩
    · have hb8 : Blk w8 tb 136 [.pointer (some ⟨sb, 0, none⟩)] := hS8.trans htb7
      exact (hb8.kept hg9 (fun e => by have := hnlt tb e.symm; omega)).kept hg10 (fun e => by have := Option.some.inj e; omega)
    · refine (hI.chg.then hC68 (fun b h => ?_)).then hC810 (fun b h => ?_)
      · rcases h with h | h | h | h | h
        · exact .inl (.inl h)
        · exact .inl (.inr h)
        · exact .inr (hlx b h).1
        · exact .inr (by omega)
        · exact .inr (by have := (hnlt b h).1; omega)
      · rcases h with h | h | h | h | h
        · exact .inl (.inl h)
        · exact .inl (.inr h)
        · rcases (hcl8 b h).1 with h | h
          · exact .inr (hlx b h).1
          · exact .inr (by omega)
        · exact .inr (by omega)
        · exact .inr (by have := (hnlt b h).1; omega)
    · rcases (hcl8 g hg).1 with h | h
      · exact hlx g h
      · exact ⟨by omega, by omega, by omega⟩
    · rcases hnb9 g e with h | h
      · exact hclx g hg h
      · have := (hcl8 g hg).2; omega
  have z10 : w9.heap.size ≤ w10.heap.size := hg10.size
  have hsz := putP_sizes (next p) ps true [] (fun _ => hp8) ho2
  have hal' : ∀ x ∈ (putP (next p) ps true []).1, Q x := putP_allQ hnQ hal
  clear hW68 hW810 hM8 hk8 ho8 hC8 hrow hin8 hM810 hM68 hC68 hC810 hcl8 hclx hlu hlc hg9 hg10 hblk10 hblk9 hn8 ho9 hSE9
  (repeat (first | (apply WL.add; rfl; rfl; rfl; rfl; omega; omega) | (apply WL.pure; rfl; rfl; rfl) | (apply WL.nil) | (apply EX.thenN) | (apply CW.region) | (apply EX.inN)))
  refine EX.back (n + 1, cl', _, vs ++ [_], _, _, nx ++ [_]) (by repeat (first | exact trivial | refine ⟨rfl, ?_⟩)) ⟨by dsimp only; omega, ?_, hI10, by simp [hvl], hal', hsz.2, hsz.1, ?_⟩ (by dsimp only; omega)
  · dsimp only
    rw [show 2049 - (n + 1) = f by omega]; exact hT
  · show w5.heap.size ≤ w10.heap.size
    omega
end Go.Proofs.Ytadbkppgaekmpaa
/-
  A list of lists while it is built row by row: plain lists.
-/
set_option linter.unusedVariables false
set_option linter.unusedSimpArgs false
namespace Go.Proofs.Ytadbkppgaekmpaa

def gridP {α : Type} (N : Nat) (full : Nat → List α) (x0 : Nat) (part : List α) : List (List α) := (List.range N).map fun x => if x < x0 then full x else if x = x0 then part else []
section
variable {α : Type} {N : Nat} {full : Nat → List α} {x0 : Nat} {part : List α}
theorem gridP_len : (gridP N full x0 part).length = N := by simp [gridP]
theorem gridP_start : gridP N full 0 [] = List.replicate N [] := by
  unfold gridP
  refine List.ext_getElem (by simp) fun i h1 h2 => ?_
  simp
theorem gridP_get (h : x0 < N) : (gridP N full x0 part)[x0]'(by rw [gridP_len]; exact h) = part := by simp [gridP]
theorem gridP_set {part' : List α} (h : x0 < N) : (gridP N full x0 part).set x0 part' = gridP N full x0 part' := by
  refine List.ext_getElem (by simp [gridP_len]) fun i h1 h2 => ?_
  rw [List.getElem_set]
  by_cases e : x0 = i
  · subst e; rw [if_pos rfl, gridP_get h]
  · rw [if_neg e]
    simp only [gridP, List.getElem_map, List.getElem_range]
    split
    · rfl
    · rw [if_neg (Ne.symm e), if_neg (Ne.symm e)]
theorem gridP_next : gridP N full x0 (full x0) = gridP N full (x0 + 1) [] := by
  unfold gridP
  refine List.ext_getElem (by simp) fun i h1 h2 => ?_
  simp only [List.getElem_map, List.getElem_range]
  by_cases h : i < x0
  · rw [if_pos h, if_pos (by omega)]
  · rw [if_neg h]
    by_cases e : i = x0
    · subst e; rw [if_pos rfl, if_pos (by omega)]
    · rw [if_neg e, if_neg (by omega)]
      split <;> rfl
theorem gridP_done : gridP N full N [] = (List.range N).map full := by
  unfold gridP
  refine List.ext_getElem (by simp) fun i h1 h2 => ?_
  simp only [List.getElem_map, List.getElem_range]
  rw [if_pos (by simpa using h1)]
end
/-- of each number below n whether it is in a list -/
def memL (n : Nat) (l : List Int) : List Bool := (List.range n).map fun i : Nat => decide ((i : Int) ∈ l)
theorem memL_len {n : Nat} {l : List Int} : (memL n l).length = n := by simp [memL]
theorem memL_nil {n : Nat} : memL n [] = List.replicate n false := by
  refine List.ext_getElem (by simp [memL]) fun i h1 h2 => ?_
  simp [memL]
theorem memL_get {n : Nat} {l : List Int} {i : Nat} (h : i < n) : (memL n l)[i]'(by rw [memL_len]; exact h) = decide ((i : Int) ∈ l) := by simp [memL]
theorem memL_next {n : Nat} {l : List Int} {i k : Nat} (h : i < l.length) (hk : l[i] = (k : Int)) : (memL n (l.take i)).set k true = memL n (l.take (i + 1)) := by
  refine List.ext_getElem (by simp [memL]) fun j h1 h2 => ?_
  rw [List.getElem_set]
  have hj : j < n := by rw [memL_len] at h2; exact h2
  rw [memL_get hj, memL_get hj, ← List.take_append_getElem h]
  by_cases e : k = j
  · subst e; rw [if_pos rfl]; simp [hk]
  · rw [if_neg e]
    have : ((j : Int) ∈ l.take i ++ [l[i]]) ↔ (j : Int) ∈ l.take i := by
      rw [List.mem_append, List.mem_singleton, hk]
      exact ⟨fun h => h.resolve_right (by omega), .inl⟩
    simp only [this]
end Go.Proofs.Ytadbkppgaekmpaa
/-
  watchkeep.unrolled: a word written otherwise.
-/
set_option linter.unusedVariables false
set_option linter.unusedSimpArgs false
namespace Go.Proofs.Ytadbkppgaekmpaa
open Go.RowKit

theorem rest_ok (w : World) (n m : Int) (hm : 0 < m) (hm2 : m < 4611686018427387904) : Rt Try.prog 60 [.int .i64 n, .int .i64 m].toArray w fun v w' => v = .int .i64 (n % m) ∧ w = w' := by
  refine Rt.enter2 Try.func60 Try.ntmps60 rfl rfl ?_
  have h1 := Int.tmod_add_mul_tdiv n m
  have h2 : n.tmod m < m := Int.tmod_lt_of_pos n hm
  have h3 : -m < n.tmod m := by
    have := Int.tmod_lt_of_pos (-n) hm
    rw [Int.neg_tmod] at this; omega
  have hpos : 0 ≤ n.tmod m → n.tmod m = n % m := fun h => by
    have e : n % m = (n.tmod m + m * n.tdiv m) % m := by rw [h1]
    rw [e, Int.add_mul_emod_self_left, Int.emod_eq_of_lt h h2]
  have hneg : n.tmod m < 0 → n.tmod m + m = n % m := fun h => by
    have e : n % m = ((n.tmod m + m) + m * (n.tdiv m - 1)) % m := by rw [Int.mul_sub]; congr 1; omega
    rw [e, Int.add_mul_emod_self_left, Int.emod_eq_of_lt (by omega) (by omega)]
  (repeat (first | (apply WL.pure; rfl; rfl; rfl) | (apply WL.nil) | (apply EX.thenN) | (apply CW.seq) | (apply CW.region)))
  refine WL.remT rfl rfl rfl rfl (by omega) ?_
  (repeat (first | (apply WL.pure; rfl; rfl; rfl) | (apply WL.nil) | (apply EX.thenN) | (apply CW.seq) | (apply CW.region)))
  refine CW.cond rfl (fun h => ?_) (fun h => ?_) <;> simp only [decide_eq_true_eq, decide_eq_false_iff_not] at h
  · (repeat (first | (apply WL.add; rfl; rfl; rfl; rfl; omega; omega) | (apply WL.pure; rfl; rfl; rfl) | (apply WL.nil) | (apply EX.thenN) | (apply CW.seq) | (apply CW.region) | (apply CW.ret)))
    exact EX.ret1 rfl rfl ⟨congrArg (Value.int .i64) (hneg h), rfl⟩
  · (repeat (first | (apply WL.pure; rfl; rfl; rfl) | (apply WL.nil) | (apply EX.thenN) | (apply CW.seq) | (apply CW.region) | (apply CW.ret) | (apply CW.skip)))
    exact EX.ret1 rfl rfl ⟨congrArg (Value.int .i64) (hpos (by omega)), rfl⟩
theorem clone_u64 (w0 : World) {F : Nat → Prop} {ao : Option Addr} {cap : Nat} {xs : List Nat} (hs : Sl w0 F ao cap xs) (hF : ∀ b, F b → b < w0.heap.size) (hb : xs.length * 8 ≤ 140737488355328) :
    Rt Try.prog 134 [.slice ao xs.length cap].toArray w0 fun v w' => Own w' w0.heap.size 33 Non v xs ∧ Ext w0 w' := by
  have hm := hs.len63
  refine Rt.enter1 Try.func134 Try.ntmps134 rfl rfl ?_
  (repeat (first | (apply WL.pure; rfl; rfl; rfl) | (apply WL.nil) | (apply EX.thenN) | (apply CW.seq) | (apply CW.region) | (apply WL.isNil; rfl; rfl; rfl)))
  refine CW.cond rfl (fun h => ?_) (fun h => ?_)
  · (repeat (first | (apply WL.pure; rfl; rfl; rfl) | (apply WL.nil) | (apply EX.thenN) | (apply CW.seq) | (apply CW.region) | (apply CW.ret) | (apply EX.thenR)))
    refine EX.ret1 rfl rfl ⟨?_, Ext.refl _⟩
    have h0 : ao = none := by simpa using h
    have : xs = [] := List.eq_nil_of_length_eq_zero (by have := hs.nil h0; have := hs.le; omega)
    subst this
    exact Own.nil
  · (repeat (first | (apply EX.thenN) | (apply CW.seq) | (apply CW.region) | (apply CW.skip)))
    refine WL.lit0 (α := Nat) rfl rfl (fun w1 ho hg => ?_)
    (repeat (apply WL.pure; rfl; rfl; rfl))
    have hE : Ext w0 w1 := (Below.refl _ _).grown hg (Nat.le_refl _) (fun k h => by cases h)
    refine WL.app (F := Non) rfl rfl rfl rfl ho (hs.up0 hE hF).srcN hE.size (fun _ h => h.elim) (by simp [maxLen]; omega) (by simpa using hb) (fun v w2 ho2 hg2 _ => ?_)
    (repeat (first | (apply WL.pure; rfl; rfl; rfl) | (apply WL.nil) | (apply EX.thenN) | (apply CW.ret)))
    refine EX.ret1 rfl rfl ⟨by simpa using ho2, hE.grown hg2 hE.size ?_⟩
    intro k hk
    exact (ho.lt k hk).1
/-- blocks that are new since w -/
def Fresh (w w' : World) : Nat → Prop := fun b => w.heap.size ≤ b ∧ b < w'.heap.size
end Go.Proofs.Ytadbkppgaekmpaa
/-
  Package auto: odd, Check, Fits, member, product.
-/
set_option linter.unusedVariables false
set_option linter.unusedSimpArgs false
namespace Go.Proofs.Ytadbkppgaekmpaa
open Go.RowKit

abbrev LAuto := List Int × List (List Int) × List Nat × List Nat × List (List Int)
abbrev autoV (a1 : Option Addr) (c1 : Nat) (a2 : Option Addr) (c2 : Nat) (a3 : Option Addr) (c3 : Nat) (a4 : Option Addr) (c4 : Nat) (a5 : Option Addr) (c5 : Nat) (n1 n2 n3 n4 n5 : Nat) : Value := .agg [.slice a1 n1 c1, .slice a2 n2 c2, .slice a3 n3 c3, .slice a4 n4 c4, .slice a5 n5 c5].toArray
/-- the cells of an automaton: what they read as -/
structure AutoAt (w : World) (F : Nat → Prop) (v : Value) (A : LAuto) : Prop where
  ok : ∃ a1 c1 a2 c2 a3 c3 a4 c4 a5 c5, v = autoV a1 c1 a2 c2 a3 c3 a4 c4 a5 c5 A.1.length A.2.1.length A.2.2.1.length A.2.2.2.1.length A.2.2.2.2.length ∧ Sl w F a1 c1 A.1 ∧ Sl w F a2 c2 A.2.1 ∧ Sl w F a3 c3 A.2.2.1 ∧ Sl w F a4 c4 A.2.2.2.1 ∧ Sl w F a5 c5 A.2.2.2.2
theorem Rd.auto {w : World} {F : Nat → Prop} {v : Value} {x : LAuto} (h : Rd w F v x) : AutoAt w F v x := by
  obtain ⟨c1, r1, rfl, h1, k1⟩ := h.pr
  obtain ⟨c2, r2, rfl, h2, k2⟩ := rd_pr k1
  obtain ⟨c3, r3, rfl, h3, k3⟩ := rd_pr k2
  obtain ⟨c4, r4, rfl, h4, h5⟩ := rd_pr k3
  obtain ⟨a1, d1, rfl, s1⟩ := rd_sl h1
  obtain ⟨a2, d2, rfl, s2⟩ := rd_sl h2
  obtain ⟨a3, d3, rfl, s3⟩ := rd_sl h3
  obtain ⟨a4, d4, rfl, s4⟩ := rd_sl h4
  obtain ⟨a5, d5, rfl, s5⟩ := rd_sl h5
  exact ⟨a1, d1, a2, d2, a3, d3, a4, d4, a5, d5, rfl, s1, s2, s3, s4, s5⟩
def chkA (A : LAuto) : Int :=
  if A.2.1.length > 2048 ∨ A.2.2.2.2.length > 80 then 2 else if A.2.2.1.length ≠ A.2.1.length ∨ A.2.2.2.1.length ≠ A.2.1.length ∨ oddB A.2.1.length A.1 = true then 1
  else if A.2.1.any (oddB A.2.1.length) = true ∨ A.2.2.2.2.any (oddB A.2.1.length) = true then 1 else 0
structure OkA (A : LAuto) : Prop where
  n : A.2.1.length ≤ 2048
  f : A.2.2.2.2.length ≤ 80
  mu : A.2.2.1.length = A.2.1.length
  no : A.2.2.2.1.length = A.2.1.length
  st : okL A.2.1.length A.1
  nx : ∀ r ∈ A.2.1, okL A.2.1.length r
  fr : ∀ r ∈ A.2.2.2.2, okL A.2.1.length r
theorem any_odd {n : Nat} {g : List (List Int)} : g.any (oddB n) = false ↔ ∀ r ∈ g, okL n r := by
  rw [List.any_eq_false]
  refine forall_congr' fun r => forall_congr' fun _ => ?_
  rw [← oddB_false, Bool.not_eq_true]
theorem chkA_ok {A : LAuto} (h : chkA A = 0) : OkA A := by
  unfold chkA at h
  split at h
  · cases h
  split at h
  · cases h
  split at h
  · cases h
  rename_i h1 h2 h3
  rw [not_or] at h1 h2 h3
  rw [not_or] at h2
  exact ⟨by omega, by omega, by omega, by omega, oddB_false.1 (by simpa using h2.2.2), any_odd.1 (by simpa using h3.1), any_odd.1 (by simpa using h3.2)⟩
theorem chkA_of {A : LAuto} (h : OkA A) : chkA A = 0 := by
  unfold chkA
  have a := oddB_false.2 h.st; have b := any_odd.2 h.nx; have c := any_odd.2 h.fr; have d := h.mu; have e := h.no
  rw [if_neg (by have := h.n; have := h.f; omega), if_neg (by rw [a]; simp; omega), if_neg (by rw [b, c]; simp)]

theorem aodd1 (n : Nat) (x : Int) (b : Nat) (w : World) (hb : Blk w b 3 [.int .i64 n]) :
    Rt Try.prog 138 [.int .i64 x, .pointer (some ⟨b, 0, none⟩)].toArray w fun v w' => v = .bool (decide (x < 0 ∨ x ≥ n)) ∧ w = w' := by
  refine Rt.enter2 Try.func138 Try.ntmps138 rfl rfl ?_
  (repeat (first | (apply WL.pure; rfl; rfl; rfl) | (apply WL.nil) | (apply EX.thenN) | (apply CW.seq) | (apply CW.region)))
  refine WL.look (s := 6) rfl (fun h => ?_) (fun h => ?_)
  · (repeat (first | (apply WL.pure; rfl; rfl; rfl) | (apply WL.nil) | (apply EX.thenN) | (apply WL.pass; rfl; rfl) | (apply CW.ret)))
    refine EX.ret1 rfl rfl ?_
    simp at h
    simp [h]
  · (repeat (first | (apply WL.pure; rfl; rfl; rfl) | (apply WL.nil) | (apply EX.thenN) | (apply WL.ld; rfl; rfl; rfl; assumption; rfl) | (apply CW.ret)))
    refine EX.ret1 rfl rfl ?_
    simp at h
    simp [Int.not_lt.2 h]
theorem aodd_ok (w0 : World) {lo : Option Addr} {lcap : Nat} {l : List Int} (n : Nat) (hl : Sl w0 (Old w0) lo lcap l) :
    Rt Try.prog 81 [.slice lo l.length lcap, .int .i64 n].toArray w0 fun v w' => v = .bool (oddB n l) ∧ Ext w0 w' := by
  refine Rt.enter2 Try.func81 Try.ntmps81 rfl rfl ?_
  (repeat (first | (apply CW.seq) | (apply CW.region)))
  refine WL.boxB rfl rfl rfl fun w1 hb hE => ?_
  (repeat (first | (apply WL.pure; rfl; rfl; rfl) | (apply WL.nil) | (apply EX.thenN) | (apply CW.seq) | (apply CW.region) | (apply WL.makeFunc; rfl; rfl; rfl; rfl)))
  refine WL.call rfl rfl rfl (containsFunc_int w1 (fun x => decide (x < 0 ∨ x ≥ n)) (hl.up hE) (fun w hw i h => ?_)) ?_
  · refine FnV.mk (Rt.mono (aodd1 n _ _ w (hb.ext hw)) ?_)
    rintro v w' ⟨rfl, rfl⟩
    exact ⟨rfl, Ext.refl _⟩
  · rintro v w' ⟨rfl, hB⟩
    (repeat (first | (apply WL.pure; rfl; rfl; rfl) | (apply WL.nil) | (apply EX.thenN) | (apply CW.ret)))
    exact EX.ret1 rfl rfl ⟨rfl, hE.trans hB⟩
theorem achk1 (w : World) {lo : Option Addr} {lcap : Nat} {l : List Int} (n : Nat) (b : Nat) (hb : Blk w b 3 [.int .i64 n]) (hl : Sl w (Old w) lo lcap l) :
    Rt Try.prog 82 [.slice lo l.length lcap, .pointer (some ⟨b, 0, none⟩)].toArray w fun v w' => v = .bool (oddB n l) ∧ Ext w w' := by
  refine Rt.enter2 Try.func82 Try.ntmps82 rfl rfl ?_
  (repeat (first | (apply WL.pure; rfl; rfl; rfl) | (apply WL.nil) | (apply EX.thenN) | (apply CW.seq) | (apply CW.region) | (apply WL.ld; rfl; rfl; rfl; assumption; rfl)))
  refine WL.call rfl rfl rfl (aodd_ok w n hl) ?_
  rintro _ w' ⟨rfl, hE⟩
  (repeat (first | (apply WL.pure; rfl; rfl; rfl) | (apply WL.nil) | (apply EX.thenN) | (apply CW.ret)))
  exact EX.ret1 rfl rfl ⟨rfl, hE⟩
theorem achk2 (w : World) {lo : Option Addr} {lcap : Nat} {l : List Int} (n : Nat) (b : Nat) (hb : Blk w b 3 [.int .i64 n]) (hl : Sl w (Old w) lo lcap l) :
    Rt Try.prog 83 [.slice lo l.length lcap, .pointer (some ⟨b, 0, none⟩)].toArray w fun v w' => v = .bool (oddB n l) ∧ Ext w w' := by
  refine Rt.enter2 Try.func83 Try.ntmps83 rfl rfl ?_
  (repeat (first | (apply WL.pure; rfl; rfl; rfl) | (apply WL.nil) | (apply EX.thenN) | (apply CW.seq) | (apply CW.region) | (apply WL.ld; rfl; rfl; rfl; assumption; rfl)))
  refine WL.call rfl rfl rfl (aodd_ok w n hl) ?_
  rintro _ w' ⟨rfl, hE⟩
  (repeat (first | (apply WL.pure; rfl; rfl; rfl) | (apply WL.nil) | (apply EX.thenN) | (apply CW.ret)))
  exact EX.ret1 rfl rfl ⟨rfl, hE⟩
theorem aCheck_ok (w0 : World) {v0 : Value} {A : LAuto} (ha : AutoAt w0 (Old w0) v0 A) :
    Rt Try.prog 27 [v0].toArray w0 fun v w' => v = .int .i64 (chkA A) ∧ Ext w0 w' := by
  obtain ⟨a1, c1, a2, c2, a3, c3, a4, c4, a5, c5, rfl, h1, h2, h3, h4, h5⟩ := ha.ok
  obtain ⟨st, nx, mu, no, fr⟩ := A
  dsimp only at *
  have hm2 := h2.len63
  have hm3 := h3.len63
  have hm4 := h4.len63
  have hm5 := h5.len63
  refine Rt.enter1 Try.func27 Try.ntmps27 rfl rfl ?_
  have hE := Ext.refl w0
  (repeat (first | (apply CW.seq) | (apply CW.region)))
  refine WL.boxB rfl rfl rfl fun w1 hb1 e1 => ?_
  have hE := hE.trans e1
  have z1 := e1.size
  have hl1 := hb1.lt
  (repeat (first | (apply WL.pure; rfl; rfl; rfl) | (apply WL.nil) | (apply EX.thenN) | (apply CW.seq) | (apply CW.region) | (apply WL.lenS; rfl; rfl; rfl) | (apply WL.fa; rfl; rfl; rfl) | (apply WL.ld; rfl; rfl; rfl; assumption; rfl)))
  refine WL.alloc rfl rfl (fun w2 hb3 e2 => ?_)
  have hb1 := hb1.ext e2
  have hE := hE.trans e2
  skip
  refine WL.st rfl rfl rfl hb3 rfl rfl (ones_of rfl) (fun w3 hb3 hg3 => ?_)
  have hb1 := hb1.kept hg3 (by simp; omega)
  have hE : Ext w0 w3 := hE.grown hg3 hE.size (fun g hg => by cases hg; exact z1)
  unfold chkA
  dsimp only
  (repeat (first | (apply WL.pure; rfl; rfl; rfl) | (apply WL.nil) | (apply EX.thenN) | (apply CW.seq) | (apply CW.region) | (apply WL.ld; rfl; rfl; rfl; assumption; rfl)))
  (refine WL.lookG rfl rfl (fun h => ?_) (fun h => ?_))
  · (repeat (first | (apply WL.pure; rfl; rfl; rfl) | (apply WL.nil) | (apply EX.thenN) | (apply CW.seq) | (apply CW.region) | (apply WL.pass; rfl; rfl) | (apply CW.condT; rfl) | (apply CW.ret) | (apply EX.thenR)))
    skip
    refine EX.ret1 rfl rfl ⟨?_, hE⟩
    simp at h
    rw [if_pos (.inl (by omega))]
  (repeat (first | (apply WL.pure; rfl; rfl; rfl) | (apply WL.nil) | (apply EX.thenN) | (apply WL.lenS; rfl; rfl; rfl) | (apply WL.fa; rfl; rfl; rfl) | (apply WL.ld; rfl; rfl; rfl; assumption; rfl)))
  refine CW.cond rfl (fun h5' => ?_) (fun h5' => ?_)
  · (repeat (first | (apply WL.pure; rfl; rfl; rfl) | (apply WL.nil) | (apply EX.thenN) | (apply CW.seq) | (apply CW.region) | (apply CW.ret) | (apply EX.thenR)))
    refine EX.ret1 rfl rfl ⟨?_, hE⟩
    simp at h5'
    rw [if_pos (.inr (by omega))]
  simp at h h5'
  rw [if_neg (by omega)]
  clear h h5'
  (repeat (first | (apply WL.pure; rfl; rfl; rfl) | (apply EX.thenN) | (apply CW.seq) | (apply CW.region) | (apply WL.lenS; rfl; rfl; rfl) | (apply WL.fa; rfl; rfl; rfl) | (apply WL.ld; rfl; rfl; rfl; assumption; rfl) | (apply CW.skip)))
  (refine WL.lookG rfl rfl (fun h => ?_) (fun h => ?_))
  · simp at h
    (repeat (first | (apply WL.pure; rfl; rfl; rfl) | (apply WL.nil) | (apply EX.thenN) | (apply CW.seq) | (apply CW.region) | (apply WL.pass; rfl; rfl) | (apply CW.condT; rfl) | (apply CW.ret) | (apply EX.thenR)))
    refine EX.ret1 rfl rfl ⟨?_, hE⟩
    rw [if_pos (.inl (by omega))]
  simp at h
  have h0 := h
  clear h
  (repeat (first | (apply WL.pure; rfl; rfl; rfl) | (apply WL.lenS; rfl; rfl; rfl) | (apply WL.fa; rfl; rfl; rfl) | (apply WL.ld; rfl; rfl; rfl; assumption; rfl)))
  (refine WL.lookG rfl rfl (fun h => ?_) (fun h => ?_))
  · have hx := h
    simp at hx
    (repeat (first | (apply WL.pure; rfl; rfl; rfl) | (apply WL.nil) | (apply EX.thenN) | (apply CW.seq) | (apply CW.region) | (apply WL.pass; rfl; rfl) | (apply CW.condT; rfl) | (apply CW.ret) | (apply EX.thenR)))
    refine EX.ret1 rfl rfl ⟨?_, hE⟩
    rw [if_pos (.inr (.inl (by omega)))]
  have hx := h
  simp at hx
  (repeat (first | (apply WL.fa; rfl; rfl; rfl) | (apply WL.ld; rfl; rfl; rfl; assumption; rfl)))
  refine WL.call rfl rfl rfl (aodd_ok w3 nx.length (h1.up hE)) ?_
  rintro _ w4 ⟨rfl, e4⟩
  have hb1 := hb1.ext e4
  have hb3 := hb3.ext e4
  have hE := hE.trans e4
  (repeat (first | (apply WL.pure; rfl; rfl; rfl) | (apply WL.nil) | (apply EX.thenN)))
  refine CW.cond rfl (fun h7 => ?_) (fun h7 => ?_)
  · (repeat (first | (apply WL.pure; rfl; rfl; rfl) | (apply WL.nil) | (apply EX.thenN) | (apply CW.seq) | (apply CW.region) | (apply CW.ret) | (apply EX.thenR)))
    refine EX.ret1 rfl rfl ⟨?_, hE⟩
    rw [if_pos (.inr (.inr h7))]
  rw [if_neg (by rw [h7]; simp; omega)]
  (repeat (first | (apply EX.thenN) | (apply CW.seq) | (apply CW.region) | (apply WL.makeFunc; rfl; rfl; rfl; rfl) | (apply WL.fa; rfl; rfl; rfl) | (apply WL.ld; rfl; rfl; rfl; assumption; rfl) | (apply CW.skip)))
  refine WL.call rfl rfl rfl (containsFunc_ll w4 (oddB nx.length) (h2.up hE) (fun w hw i hi u hu => ?_)) ?_
  · obtain ⟨lo, lc, rfl, hl⟩ := hu.sl
    exact FnV.mk (Rt.mono (achk1 w nx.length _ (hb3.ext hw) (hl.lift fun b hb => Nat.lt_of_lt_of_le hb hw.size)) fun v w' h => h)
  rintro _ w5 ⟨rfl, e5⟩
  have hb1 := hb1.ext e5
  have hb3 := hb3.ext e5
  have hE := hE.trans e5
  (repeat (apply WL.pure; rfl; rfl; rfl))
  (refine WL.lookG rfl rfl (fun h => ?_) (fun h => ?_))
  · have h8 := h
    (repeat (first | (apply WL.pure; rfl; rfl; rfl) | (apply WL.nil) | (apply EX.thenN) | (apply CW.seq) | (apply CW.region) | (apply WL.pass; rfl; rfl) | (apply CW.condT; rfl) | (apply CW.ret) | (apply EX.thenR)))
    refine EX.ret1 rfl rfl ⟨?_, hE⟩
    rw [if_pos (.inl h8)]
  have h8 := h
  (repeat (first | (apply WL.makeFunc; rfl; rfl; rfl; rfl) | (apply WL.fa; rfl; rfl; rfl) | (apply WL.ld; rfl; rfl; rfl; assumption; rfl)))
  refine WL.call rfl rfl rfl (containsFunc_ll w5 (oddB nx.length) (h5.up hE) (fun w hw i hi u hu => ?_)) ?_
  · obtain ⟨lo, lc, rfl, hl⟩ := hu.sl
    exact FnV.mk (Rt.mono (achk2 w nx.length _ (hb3.ext hw) (hl.lift fun b hb => Nat.lt_of_lt_of_le hb hw.size)) fun v w' h => h)
  rintro _ w6 ⟨rfl, e6⟩
  have hb1 := hb1.ext e6
  have hb3 := hb3.ext e6
  have hE := hE.trans e6
  (repeat (first | (apply WL.pure; rfl; rfl; rfl) | (apply WL.nil) | (apply EX.thenN)))
  refine CW.cond rfl (fun h9 => ?_) (fun h9 => ?_)
  · (repeat (first | (apply WL.pure; rfl; rfl; rfl) | (apply WL.nil) | (apply EX.thenN) | (apply CW.seq) | (apply CW.region) | (apply CW.ret) | (apply EX.thenR)))
    refine EX.ret1 rfl rfl ⟨?_, hE⟩
    rw [if_pos (.inr h9)]
  (repeat (first | (apply WL.pure; rfl; rfl; rfl) | (apply WL.nil) | (apply EX.thenN) | (apply CW.seq) | (apply CW.region) | (apply CW.ret) | (apply CW.skip)))
  refine EX.ret1 rfl rfl ⟨?_, hE⟩
  rw [if_neg (by rw [h8, h9]; simp)]
theorem getDN_at {l : List Nat} {k : Nat} (h : k < l.length) : l.getD k 0 = l[k] := by rw [List.getD_eq_getElem?_getD, List.getElem?_eq_getElem h]; rfl
theorem Fits_ok (w0 : World) {a1 a2 a3 a4 a5 : Option Addr} {c1 c2 c3 c4 c5 n1 n2 n5 : Nat} {mu no : List Nat} (h3 : Sl w0 (Old w0) a3 c3 mu) (h4 : Sl w0 (Old w0) a4 c4 no) (k x : Nat) (hk : k < mu.length) (hk2 : k < no.length) (hx : x < 18446744073709551616) :
    Rt Try.prog 135 [autoV a1 c1 a2 c2 a3 c3 a4 c4 a5 c5 n1 n2 mu.length no.length n5, .int .i64 (k : Int), .int .u64 (x : Int)].toArray w0 fun v w' => v = .bool (fitB mu no k x) ∧ Ext w0 w' := by
  refine Rt.enter3 Try.func135 Try.ntmps135 rfl rfl ?_
  (repeat (first | (apply CW.seq) | (apply CW.region)))
  refine WL.boxB rfl rfl rfl fun w1 hb e1 => ?_
  have h3 := h3.up e1
  have h4 := h4.up e1
  (repeat (first | (apply WL.pure; rfl; rfl; rfl) | (apply QL.pure; rfl; rfl; rfl) | (apply WL.nil) | (apply EX.thenN) | (apply CW.seq) | (apply QL.fa; rfl; rfl; rfl) | (apply QL.ld; rfl; rfl; rfl; assumption; rfl) | (apply CW.draw; exact mixed; kernel_rfl)))
  refine QL.elemN rfl rfl rfl rfl rfl (fun _ h => h) h3 hk (fun _ => rfl) (fun u q hu => ?_)
  obtain ⟨rfl, hu1⟩ := hu.u64
  (repeat (first | (apply QL.pure; rfl; rfl; rfl) | (apply QL.fa; rfl; rfl; rfl) | (apply QL.ld; rfl; rfl; rfl; assumption; rfl)))
  rw [bits_and_u64_nat _ _ hx hu1]
  refine QL.elemN rfl rfl rfl rfl rfl (fun _ h => h) h3 hk (fun _ => rfl) (fun u q' hu => ?_)
  obtain ⟨rfl, _⟩ := hu.u64
  (repeat (apply QL.pure; rfl; rfl; rfl))
  unfold fitB
  rw [getDN_at hk, getDN_at hk2]
  (refine QL.lookG rfl rfl (fun h => ?_) (fun h => ?_))
  · simp only [beq_iff_eq] at h
    have h : x &&& mu[k] = mu[k] := by exact_mod_cast h
    rw [decide_eq_true h, Bool.true_and]
    (repeat (first | (apply QL.pure; rfl; rfl; rfl) | (apply QL.fa; rfl; rfl; rfl) | (apply QL.ld; rfl; rfl; rfl; assumption; rfl)))
    refine QL.elemN rfl rfl rfl rfl rfl (fun _ h => h) h4 hk2 (fun _ => rfl) (fun u q' hu => ?_)
    obtain ⟨rfl, hu2⟩ := hu.u64
    (repeat (apply QL.pure; rfl; rfl; rfl))
    rw [bits_and_u64_nat _ _ hx hu2]
    refine QL.nil (fun w2 e2 => ?_)
    (repeat (first | (apply EX.thenN) | (apply CW.ret)))
    refine EX.ret1 rfl rfl ⟨?_, e1.trans e2⟩
    congr 1
    rw [Bool.eq_iff_iff, beq_iff_eq, decide_eq_true_iff]
    exact_mod_cast Iff.rfl
  · have h : ¬ x &&& mu[k] = mu[k] := by
      intro e; rw [e] at h; simp at h
    rw [decide_eq_false h, Bool.false_and]
    (repeat (first | (apply QL.pure; rfl; rfl; rfl) | (apply QL.pass; rfl; rfl)))
    refine QL.nil (fun w2 e2 => ?_)
    (repeat (first | (apply EX.thenN) | (apply CW.ret)))
    exact EX.ret1 rfl rfl ⟨rfl, e1.trans e2⟩
theorem member_ok (w0 : World) {F : Nat → Prop} {lo : Option Addr} {lc : Nat} {l : List Int} (hl : Sl w0 F lo lc l) (hF : ∀ b, F b → b < w0.heap.size) (n : Nat) (hn : n ≤ 1099511627776) (hok : okL n l) :
    Rt Try.prog 66 [.slice lo l.length lc, .int .i64 (n : Int)].toArray w0 fun v w' => Own w' w0.heap.size 4 Non v (memL n l) ∧ Ext w0 w' := by
  have hm := hl.len63
  refine Rt.enter2 Try.func66 Try.ntmps66 rfl rfl ?_
  (repeat (first | (apply WL.pure; rfl; rfl; rfl) | (apply WL.nil) | (apply EX.thenN) | (apply CW.seq) | (apply CW.region)))
  refine WL.make (α := Bool) rfl rfl rfl rfl (by omega) (by unfold maxLen; omega) (fun w1 ho1 hg1 => ?_)
  have hE1 : Ext w0 w1 := (Below.refl _ _).grown hg1 (Nat.le_refl _) (fun k h => by cases h)
  generalize hsv : Value.slice (some ⟨w0.heap.size, 0, none⟩) n n = sv at *
  rw [← memL_nil] at ho1
  (repeat (first | (apply WL.pure; rfl; rfl; rfl) | (apply WL.nil) | (apply EX.thenN) | (apply CW.seq) | (apply CW.region) | (apply WL.lenS; rfl; rfl; rfl) | (apply CW.block)))
  refine CW.loop (S := Nat) (fun i => [(5, sv), (10, .slice lo l.length lc), (11, .int .i64 l.length), (12, .int .i64 i)])
    (fun i w => i ≤ l.length ∧ Own w w0.heap.size 4 Non sv (memL n (l.take i)) ∧ Ext w0 w) (fun i => l.length - i) 0 (by repeat (first | exact trivial | refine ⟨rfl, ?_⟩)) ⟨by omega, ho1, hE1⟩ ?_
  rintro i w2 ⟨hi, ho, hE⟩
  (repeat (first | (apply WL.pure; rfl; rfl; rfl) | (apply WL.nil) | (apply EX.thenN) | (apply CW.seq) | (apply CW.region)))
  refine CW.cond rfl (fun h => ?_) (fun h => ?_)
  · simp at h
    have hk := hok _ (List.getElem_mem h)
    obtain ⟨k, ek⟩ := Int.eq_ofNat_of_zero_le hk.1
    have hkn : k < (memL n (l.take i)).length := by rw [memL_len]; omega
    (repeat (first | (apply EX.thenN) | (apply CW.seq) | (apply CW.region) | (apply CW.block) | (apply CW.skip)))
    refine WL.elemI rfl rfl rfl rfl rfl (hl.up0 hE hF) h ek (fun _ => rfl) (fun q => ?_)
    (repeat (first | (apply WL.pure; rfl; rfl; rfl) | (apply WL.nil) | (apply EX.thenN) | (apply CW.region)))
    refine WL.setN (u := .bool true) (yv := true) rfl rfl rfl rfl ho hkn (fun _ => rfl) (fun _ => rfl) (Rd.mkBool _ _ _) (fun w3 q2 ho3 hg3 => ?_)
    rw [memL_next h ek] at ho3
    have hE3 : Ext w0 w3 := hE.grown hg3 hE.size (fun b hb => (ho.lt b hb).1)
    (repeat (first | (apply WL.add; rfl; rfl; rfl; rfl; omega; omega) | (apply WL.pure; rfl; rfl; rfl) | (apply WL.nil) | (apply EX.thenN) | (apply CW.region) | (apply EX.inN)))
    exact EX.back (i + 1) (by repeat (first | exact trivial | refine ⟨rfl, ?_⟩)) ⟨h, ho3, hE3⟩ (by omega)
  · simp at h
    obtain rfl : i = l.length := by omega
    rw [List.take_length] at ho
    (repeat (first | (apply WL.pure; rfl; rfl; rfl) | (apply WL.nil) | (apply EX.thenN) | (apply CW.seq) | (apply CW.region) | (apply CW.exit) | (apply EX.thenX) | (apply EX.inX) | (apply CW.ret)))
    exact EX.ret1 rfl rfl ⟨ho, hE⟩
end Go.Proofs.Ytadbkppgaekmpaa
/-
  One fair set in place of many (Choueka): plain lists, no program in sight.
-/
set_option linter.unusedVariables false
set_option linter.unusedSimpArgs false
namespace Go.Proofs.Ytadbkppgaekmpaa

/-- which set is waited for next -/
def oneK (fr : List (List Int)) (p : Pr2) : Int := if 0 < fr.length ∧ p.1 ∈ fr.getD p.2.toNat [] then (p.2 + 1) % fr.length else p.2
def oneNext (A : LAuto2) (p : Pr2) : List Pr2 := (A.2.1.getD p.1.toNat []).map fun x => (x, oneK A.2.2.2.2 p)
def oneStart (A : LAuto2) : List Pr2 := A.1.map fun x => (x, 0)
def onePs (A : LAuto2) : List Pr2 := (madeE (oneNext A) (oneStart A)).1
def oneFair (fr : List (List Int)) (ps : List Pr2) : List Int := ((List.range ps.length).filter fun i => decide ((ps.getD i (0, 0)).2 = 0) && (decide (fr.length = 0) || decide ((ps.getD i (0, 0)).1 ∈ fr.getD 0 []))).map fun i : Nat => (i : Int)
def oneL (A : LAuto2) : LAuto2 :=
  (madeS (oneStart A), (madeE (oneNext A) (oneStart A)).2.2, (onePs A).map (fun p => A.2.2.1.getD p.1.toNat 0), (onePs A).map (fun p => A.2.2.2.1.getD p.1.toNat 0), [oneFair A.2.2.2.2 (onePs A)])
theorem oneFair_mem {fr : List (List Int)} {ps : List Pr2} {i : Nat} : (i : Int) ∈ oneFair fr ps ↔ i < ps.length ∧ (ps.getD i (0, 0)).2 = 0 ∧ (fr.length = 0 ∨ (ps.getD i (0, 0)).1 ∈ fr.getD 0 []) := by
  unfold oneFair
  rw [List.mem_map]
  constructor
  · rintro ⟨j, hj, e⟩
    obtain rfl : j = i := by omega
    obtain ⟨h1, h2⟩ := List.mem_filter.1 hj
    simp only [Bool.and_eq_true, Bool.or_eq_true, decide_eq_true_eq] at h2
    exact ⟨List.mem_range.1 h1, h2⟩
  · rintro ⟨h1, h2⟩
    exact ⟨i, List.mem_filter.2 ⟨List.mem_range.2 h1, by simpa using h2⟩, rfl⟩
theorem oneNext_mem {A : LAuto2} {p x : Pr2} : x ∈ oneNext A p ↔ x.1 ∈ A.2.1.getD p.1.toNat [] ∧ x.2 = oneK A.2.2.2.2 p := by
  unfold oneNext
  rw [List.mem_map]
  constructor
  · rintro ⟨y, hy, rfl⟩; exact ⟨hy, rfl⟩
  · rintro ⟨h1, h2⟩; exact ⟨x.1, h1, by rw [← h2]⟩
theorem oneStart_mem {A : LAuto2} {x : Pr2} : x ∈ oneStart A ↔ x.1 ∈ A.1 ∧ x.2 = 0 := by
  unfold oneStart
  rw [List.mem_map]
  constructor
  · rintro ⟨y, hy, rfl⟩; exact ⟨hy, rfl⟩
  · rintro ⟨h1, h2⟩; exact ⟨x.1, h1, by rw [← h2]⟩
/- COUNTING -/
section
variable {fr : List (List Int)} {q : Nat → Pr2}
theorem one_pass (hq : ∀ i, (q (i + 1)).2 = oneK fr (q i)) {t : Nat} (ht : t < fr.length) : ∀ (d a : Nat), 1 ≤ (q a).2 → (q a).2 ≤ t → (q (a + d)).2 = 0 → ∃ j, a ≤ j ∧ (q j).1 ∈ fr.getD t []
  | 0, a, h1, _, h0 => by rw [Nat.add_zero] at h0; omega
  | d + 1, a, h1, h2, h0 => by
    have hn := hq a
    unfold oneK at hn
    by_cases hin : (q a).1 ∈ fr.getD (q a).2.toNat []
    · by_cases e : (q a).2 = t
      · exact ⟨a, Nat.le_refl _, by rw [e, Int.toNat_natCast] at hin; exact hin⟩
      · rw [if_pos ⟨by omega, hin⟩, Int.emod_eq_of_lt (by omega) (by omega)] at hn
        obtain ⟨j, hj, hm⟩ := one_pass hq ht d (a + 1) (by omega) (by omega) (by rw [show a + 1 + d = a + (d + 1) by omega]; exact h0)
        exact ⟨j, by omega, hm⟩
    · rw [if_neg (fun h => hin h.2)] at hn
      obtain ⟨j, hj, hm⟩ := one_pass hq ht d (a + 1) (by omega) (by omega) (by rw [show a + 1 + d = a + (d + 1) by omega]; exact h0)
      exact ⟨j, by omega, hm⟩
/-- where one set is met again and again, all are -/
theorem one_all (hq : ∀ i, (q (i + 1)).2 = oneK fr (q i)) (hf : ∀ i, ∃ j, i ≤ j ∧ (q j).2 = 0 ∧ (fr.length = 0 ∨ (q j).1 ∈ fr.getD 0 [])) {t : Nat} (ht : t < fr.length) (i : Nat) : ∃ j, i ≤ j ∧ (q j).1 ∈ fr.getD t [] := by
  obtain ⟨a, ha, h0, h1⟩ := hf i
  have h1 : (q a).1 ∈ fr.getD 0 [] := h1.resolve_left (by omega)
  by_cases e : t = 0
  · subst e; exact ⟨a, ha, h1⟩
  · have hn := hq a
    unfold oneK at hn
    rw [h0, show (0 : Int).toNat = 0 from rfl, if_pos ⟨by omega, h1⟩, Int.emod_eq_of_lt (by omega) (by omega)] at hn
    obtain ⟨b, hb, hb0, _⟩ := hf (a + 1)
    obtain ⟨j, hj, hm⟩ := one_pass hq ht (b - (a + 1)) (a + 1) (by omega) (by omega) (by rw [show a + 1 + (b - (a + 1)) = b by omega]; exact hb0)
    exact ⟨j, by omega, hm⟩
theorem one_wait (hq : ∀ i, (q (i + 1)).2 = oneK fr (q i)) {c : Int} : ∀ (d i : Nat), (q i).2 = c → (q (i + d)).1 ∈ fr.getD c.toNat [] → ∃ j, i ≤ j ∧ (q j).2 = c ∧ (q j).1 ∈ fr.getD c.toNat []
  | 0, i, h1, h2 => ⟨i, Nat.le_refl _, h1, h2⟩
  | d + 1, i, h1, h2 => by
    by_cases hin : (q i).1 ∈ fr.getD c.toNat []
    · exact ⟨i, Nat.le_refl _, h1, hin⟩
    · have hn := hq i
      unfold oneK at hn
      rw [h1, if_neg (fun h => hin h.2)] at hn
      obtain ⟨j, hj, hm⟩ := one_wait hq d (i + 1) hn (by rw [show i + 1 + d = i + (d + 1) by omega]; exact h2)
      exact ⟨j, by omega, hm⟩
theorem one_round (hq : ∀ i, (q (i + 1)).2 = oneK fr (q i)) (hf : ∀ t, t < fr.length → ∀ i, ∃ j, i ≤ j ∧ (q j).1 ∈ fr.getD t []) (hm : 0 < fr.length) : ∀ (n : Nat) (i : Nat), 0 ≤ (q i).2 → (q i).2 < fr.length → ((q i).2 = 0 ∨ (fr.length : Int) - (q i).2 ≤ n) → ∃ j, i ≤ j ∧ (q j).2 = 0 ∧ (q j).1 ∈ fr.getD 0 [] := by
  have hgo : ∀ i, 0 ≤ (q i).2 → (q i).2 < fr.length → ∃ j, i ≤ j ∧ (q j).2 = (q i).2 ∧ (q j).1 ∈ fr.getD (q i).2.toNat [] := fun i h0 h1 => by
    obtain ⟨b, hb, hin⟩ := hf (q i).2.toNat (by omega) i
    exact one_wait hq (b - i) i rfl (by rw [show i + (b - i) = b by omega]; exact hin)
  intro n
  induction n with
  | zero =>
    intro i h0 h1 h2
    have h2 : (q i).2 = 0 := by omega
    obtain ⟨j, hj, e, hin⟩ := hgo i h0 h1
    rw [h2] at e hin
    exact ⟨j, hj, e, hin⟩
  | succ n ih =>
    intro i h0 h1 h2
    obtain ⟨j, hj, e, hin⟩ := hgo i h0 h1
    by_cases hz : (q i).2 = 0
    · rw [hz] at e hin
      exact ⟨j, hj, e, hin⟩
    · have hn := hq j
      unfold oneK at hn
      rw [e, if_pos ⟨hm, hin⟩] at hn
      by_cases hl : (q i).2 + 1 = fr.length
      · rw [hl, Int.emod_self] at hn
        obtain ⟨k, hk, h⟩ := ih (j + 1) (by omega) (by omega) (.inl hn)
        exact ⟨k, by omega, h⟩
      · rw [Int.emod_eq_of_lt (by omega) (by omega)] at hn
        obtain ⟨k, hk, h⟩ := ih (j + 1) (by omega) (by omega) (.inr (by omega))
        exact ⟨k, by omega, h⟩
end
theorem fit_one {A : LAuto2} {r x : Nat} (h : r < (onePs A).length) : fitB (oneL A).2.2.1 (oneL A).2.2.2.1 r x = fitB A.2.2.1 A.2.2.2.1 ((onePs A).getD r (0, 0)).1.toNat x := by
  unfold oneL fitB
  dsimp only
  rw [getD_map h, getD_map h]
theorem one_law {A : LAuto2} {L : Nat → Nat} (hA : PosA A) (h : (madeE (oneNext A) (oneStart A)).2.1 = true) : AccA (oneL A) L ↔ AccA A L := by
  obtain ⟨hM, hl⟩ := made_law h
  change MadeOk _ _ (onePs A) _ _ at hM
  change _ = (onePs A).length at hl
  have hst : ∀ i, i ∈ (oneL A).1 ↔ ∃ p ∈ oneStart A, i = ((onePs A).idxOf p : Int) := hM.st1
  have hnx : ∀ n, n < (onePs A).length → ∀ i, i ∈ (oneL A).2.1.getD n [] ↔ ∃ p ∈ oneNext A ((onePs A).getD n (0, 0)), i = ((onePs A).idxOf p : Int) := fun n hn => hM.nx1 n (by rw [hl]; exact hn)
  constructor
  · rintro ⟨r, hr⟩
    have hin : ∀ i, r i < (onePs A).length := by
      intro i
      cases i with
      | zero =>
        obtain ⟨p, hp, e⟩ := (hst _).1 hr.first
        have := (idxOf_at (hM.st0 p hp)).1
        omega
      | succ i =>
        have hs := hr.step i
        by_cases hlt : r i < (onePs A).length
        · obtain ⟨p, hp, e⟩ := (hnx _ hlt _).1 hs
          have := (idxOf_at (hM.nx0 _ (by rw [hl]; exact hlt) p hp)).1
          omega
        · exfalso
          have e : (oneL A).2.1.getD (r i) [] = [] := by
            rw [List.getD_eq_getElem?_getD, List.getElem?_eq_none (by show (madeE (oneNext A) (oneStart A)).2.2.length ≤ _; rw [hl]; omega)]; rfl
          rw [e] at hs; cases hs
    have hnx' : ∀ i, (onePs A).getD (r (i + 1)) (0, 0) ∈ oneNext A ((onePs A).getD (r i) (0, 0)) := fun i => by
      obtain ⟨p, hp, e⟩ := (hnx _ (hin i) _).1 (hr.step i)
      have e : r (i + 1) = (onePs A).idxOf p := by omega
      rw [e, (idxOf_at (hM.nx0 _ (by rw [hl]; exact hin i) p hp)).2]; exact hp
    have hst' : (onePs A).getD (r 0) (0, 0) ∈ oneStart A := by
      obtain ⟨p, hp, e⟩ := (hst _).1 hr.first
      have e : r 0 = (onePs A).idxOf p := by omega
      rw [e, (idxOf_at (hM.st0 p hp)).2]; exact hp
    have hq : ∀ i, 0 ≤ ((onePs A).getD (r i) (0, 0)).1 := by
      intro i
      cases i with
      | zero => exact hA.1 _ (oneStart_mem.1 hst').1
      | succ i => exact hA.2 _ _ (oneNext_mem.1 (hnx' i)).1
    have q1 : ∀ i, ((((onePs A).getD (r i) (0, 0)).1.toNat : Nat) : Int) = ((onePs A).getD (r i) (0, 0)).1 := fun i => by have := hq i; omega
    refine ⟨fun i => ((onePs A).getD (r i) (0, 0)).1.toNat, ?_, fun i => by rw [← fit_one (hin i)]; exact hr.fits i, fun i => ?_, fun F hF i => ?_⟩
    · rw [q1]; exact (oneStart_mem.1 hst').1
    · rw [q1]; exact (oneNext_mem.1 (hnx' i)).1
    · obtain ⟨t, ht, rfl⟩ := List.mem_iff_getElem.1 hF
      obtain ⟨j, hj, hm⟩ := one_all (fr := A.2.2.2.2) (q := fun i => (onePs A).getD (r i) (0, 0)) (fun i => (oneNext_mem.1 (hnx' i)).2) (fun i => by
        obtain ⟨j, hj, hm⟩ := hr.fair (oneFair A.2.2.2.2 (onePs A)) (List.mem_singleton.2 rfl) i
        exact ⟨j, hj, (oneFair_mem.1 hm).2⟩) ht i
      refine ⟨j, hj, ?_⟩
      rw [q1]
      rw [List.getD_eq_getElem?_getD, List.getElem?_eq_getElem ht] at hm
      exact hm
  · rintro ⟨ra, ha⟩
    obtain ⟨q, hq0, hq1, hqa⟩ : ∃ q : Nat → Pr2, q 0 = ((ra 0 : Int), 0) ∧ (∀ i, q (i + 1) = ((ra (i + 1) : Int), oneK A.2.2.2.2 (q i))) ∧ ∀ i, (q i).1 = (ra i : Int) := by
      refine ⟨fun i => Nat.rec ((ra 0 : Int), 0) (fun i p => ((ra (i + 1) : Int), oneK A.2.2.2.2 p)) i, rfl, fun i => rfl, fun i => ?_⟩
      cases i <;> rfl
    have hnext : ∀ i, q (i + 1) ∈ oneNext A (q i) := fun i => by
      rw [oneNext_mem, hqa, hqa, hq1, Int.toNat_natCast]
      exact ⟨ha.step i, rfl⟩
    have hps : ∀ i, q i ∈ onePs A := by
      intro i
      induction i with
      | zero => exact hM.st0 _ (oneStart_mem.2 (by rw [hq0]; exact ⟨ha.first, rfl⟩))
      | succ i ih =>
        obtain ⟨h1, h2⟩ := idxOf_at ih
        exact hM.nx0 _ (by rw [hl]; exact h1) _ (by rw [h2]; exact hnext i)
    have hix := fun i => idxOf_at (hps i)
    have hk : ∀ i, (q (i + 1)).2 = oneK A.2.2.2.2 (q i) := fun i => by rw [hq1]
    have hkr : ∀ i, (0 < A.2.2.2.2.length → 0 ≤ (q i).2 ∧ (q i).2 < A.2.2.2.2.length) ∧ (A.2.2.2.2.length = 0 → (q i).2 = 0) := by
      intro i
      induction i with
      | zero => rw [hq0]; exact ⟨fun h => ⟨Int.le_refl _, by dsimp only; omega⟩, fun _ => rfl⟩
      | succ i ih =>
        rw [hk]
        unfold oneK
        refine ⟨fun h => ?_, fun h => ?_⟩
        · split
          · exact ⟨Int.emod_nonneg _ (by omega), Int.emod_lt_of_pos _ (by omega)⟩
          · exact ih.1 h
        · rw [if_neg (fun hh => by omega)]; exact ih.2 h
    refine ⟨fun i => (onePs A).idxOf (q i), (hst _).2 ⟨_, oneStart_mem.2 (by rw [hq0]; exact ⟨ha.first, rfl⟩), rfl⟩, fun i => ?_, fun i => (hnx _ (hix i).1 _).2 ⟨_, by rw [(hix i).2]; exact hnext i, rfl⟩, fun F hF i => ?_⟩
    · rw [fit_one (hix i).1, (hix i).2, hqa, Int.toNat_natCast]; exact ha.fits i
    · obtain rfl := List.mem_singleton.1 hF
      by_cases hm : 0 < A.2.2.2.2.length
      · obtain ⟨j, hj, h0, hin⟩ := one_round hk (fun t ht i => by
          obtain ⟨j, hj, h⟩ := ha.fair (A.2.2.2.2[t]) (List.getElem_mem ht) i
          refine ⟨j, hj, ?_⟩
          rw [hqa, List.getD_eq_getElem?_getD, List.getElem?_eq_getElem ht]; exact h) hm A.2.2.2.2.length i ((hkr i).1 hm).1 ((hkr i).1 hm).2 (by have := ((hkr i).1 hm).1; omega)
        exact ⟨j, hj, oneFair_mem.2 ⟨(hix j).1, by rw [(hix j).2]; exact ⟨h0, .inr hin⟩⟩⟩
      · exact ⟨i, Nat.le_refl _, oneFair_mem.2 ⟨(hix i).1, by rw [(hix i).2]; exact ⟨(hkr i).2 (by omega), .inl (by omega)⟩⟩⟩
end Go.Proofs.Ytadbkppgaekmpaa
