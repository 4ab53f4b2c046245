import Derived.Test.YtikigaeihdmcaaaGreatDoorPtReportLines13
/-
  ltl.Parse, walked: rows of parts.
-/
set_option linter.unusedVariables false
set_option linter.unusedSimpArgs false
namespace Go.Proofs.YtikigaeihdmcaaaGreatDoor
open Go.RowKit

def ll : Bool → Nat | true => 5 | false => 3
theorem l_mono (nms : List ByteArray) (N : Nat) : ∀ n,
    (∀ o left st f st', pFor nms N n o left st = .ok f st' → mT st' ≤ mT st) ∧ (∀ lv o st f st', pRow nms N n lv o st = .ok f st' → mT st' ≤ mT st) ∧
    (∀ lv o g st f st', pRowL nms N n lv o g st = .ok f st' → mT st' ≤ mT st) ∧ (∀ lv o st f st', pPart nms N n lv o st = .ok f st' → mT st' ≤ mT st) ∧
    (∀ o st f st', pWay nms N n o st = .ok f st' → mT st' ≤ mT st) ∧ (∀ o st f st', pSin nms N n o st = .ok f st' → mT st' ≤ mT st)
  | 0 => by refine ⟨?_, ?_, ?_, ?_, ?_, ?_⟩ <;> (intros; rename_i h; first | (unfold pFor at h; cases h) | (unfold pRow at h; cases h) | (unfold pRowL at h; cases h) | (unfold pPart at h; cases h) | (unfold pWay at h; cases h) | (unfold pSin at h; cases h))
  | n + 1 => by
    obtain ⟨i1, i2, i3, i4, i5, i6⟩ := l_mono nms N n
    have hn : ∀ st : Bys × Bys, mT (nxT st.2) ≤ mT st := fun st => by have := mT_nx st; have : st.2.length ≤ mT st := by (unfold mT; omega)
                                                                      omega
    refine ⟨fun o left st f st' h => ?_, fun lv o st f st' h => ?_, fun lv o g st f st' h => ?_, fun lv o st f st' h => ?_, fun o st f st' h => ?_, fun o st f st' h => ?_⟩
    · unfold pFor at h
      split at h
      · cases h
      · rename_i g s1 e
        have h1 := i2 _ _ _ _ _ e
        split at h
        · exact Nat.le_trans (i1 _ _ _ _ _ h) (Nat.le_trans (hn _) h1)
        · cases h; exact h1
    · unfold pRow at h
      split at h
      · cases h
      · rename_i g s1 e
        exact Nat.le_trans (i3 _ _ _ _ _ _ h) (i4 _ _ _ _ _ e)
    · unfold pRowL at h
      split at h
      · split at h
        · cases h
        · rename_i g s1 e
          exact Nat.le_trans (i3 _ _ _ _ _ _ h) (Nat.le_trans (i4 _ _ _ _ _ e) (hn _))
      · cases h; exact Nat.le_refl _
    · cases lv
      · unfold pPart at h; exact i5 _ _ _ _ h
      · unfold pPart at h; exact i2 _ _ _ _ _ h
    · unfold pWay at h
      split at h
      · cases h
      · rename_i g s1 e
        have h1 := i6 _ _ _ _ e
        split at h
        · split at h
          · cases h
          · rename_i g2 s2 e2
            cases h
            exact Nat.le_trans (i5 _ _ _ _ e2) (Nat.le_trans (hn _) h1)
        · cases h; exact h1
    · unfold pSin at h
      split at h
      · split at h
        · cases h
        split at h
        · cases h
        · rename_i g s1 e
          cases h
          exact Nat.le_trans (i6 _ _ _ _ e) (hn _)
      split at h
      · split at h
        · cases h
        split at h
        · cases h
        · rename_i g s1 e
          have h1 := Nat.le_trans (i1 _ _ _ _ _ e) (hn _)
          split at h
          · cases h; exact Nat.le_trans (hn _) h1
          · cases h
      split at h
      · cases h
      · exact word_mono h
/-- a function that reads a part -/
def PartL (rb : Nat) (s : Bys) (no : Option Addr) (nc : Nat) (nms : List ByteArray) (o : Nat) (sa : Nat → Addr) (fv : Value) (c : Nat) (rd : Nat → Bys × Bys → PR) (n : Nat) : Prop :=
  ∀ m, m ≤ n → ∀ (st : Bys × Bys) (w : World), Rdr 125 w rb s no nc nms o st → SenH w sa → 10 * mT st + c ≤ m → FnV Tryz.prog fv [] w fun v w' => PRl 125 rb s no nc nms o w.heap.size (rd m st) v w' ∧ w.grownBy w' (some rb)
set_option maxHeartbeats 1000000 in
theorem lrow_ok (lv : Bool) (n : Nat) (w0 : World) {rb : Nat} {s : Bys} {no : Option Addr} {nc : Nat} {nms : List ByteArray} {o : Nat} {st : Bys × Bys} (hr : Rdr 125 w0 rb s no nc nms o st) (hs : s.length ≤ 300) {sa : Nat → Addr} (hSn : SenH w0 sa) (hBn : 3 < rb ∧ ∀ i, i < 3 → (sa i).block < rb) {fv : Value}
    (hf : PartL rb s no nc nms o sa fv (ll lv) (fun m st => pPart nms s.length m lv o st) n) (hn : 10 * mT st + ll lv ≤ n) :
    Rt Tryz.prog 93 [.pointer (some ⟨rb, 0, none⟩), .int .i64 (knR lv), tV (sgR lv), fv].toArray w0 fun v w' => PRl 125 rb s no nc nms o w0.heap.size (pRow nms s.length (n + 1) lv o st) v w' ∧ w0.grownBy w' (some rb) := by
  have hrl := hr.lt
  refine Rt.enter4 Tryz.func93 Tryz.ntmps93 rfl rfl ?_
  (repeat (first | (apply CW.seq) | (apply CW.region)))
  refine WL.alloc rfl rfl (fun w1 hb8 e1 => ?_)
  have l8 := hb8.lt
  have hr1 := hr.ext e1
  (repeat (first | (apply WL.pure; rfl; rfl; rfl) | (apply WL.nil) | (apply EX.thenN) | (apply CW.seq) | (apply CW.region)))
  refine WL.callF (xs := []) (vs := []) rfl rfl rfl rfl (hf n (Nat.le_refl _) st w1 hr1 (hSn.kept (e1.grw none) (fun b e => by cases e) hBn) hn) ?_
  rintro _ w2 ⟨⟨x, e, t, st1, rfl, hx, hr2, hE2⟩, hg2⟩
  have hm2 : ∀ f st', pPart nms s.length n lv o st = .ok f st' → mT st' ≤ mT st := fun f st' h => (l_mono nms s.length n).2.2.2.1 _ _ _ _ _ h
  have hb8 := hb8.kept hg2 (fun e => by have := Option.some.inj e; omega)
  have hG := grown_tr (e1.grw (some rb)) hg2
  have z2 := hg2.size
  have hx : GX w0.heap.size [w0.heap.size] w2 x t := GX.of hx (Nat.le_of_lt l8) (fun r hr => by rw [List.mem_singleton.1 hr]; exact l8)
  have hE2 : ErL w2 w0.heap.size (pPart nms s.length n lv o st) e t st1 := hE2.low (Nat.le_of_lt l8)
  obtain ⟨uo, uc, rfl, hk⟩ := Rd.ltl hx
  (repeat (apply WL.pure; rfl; rfl; rfl))
  refine WL.alloc rfl rfl (fun w3 hb10 e3 => ?_)
  have hx := hx.add e3 (Nat.le_refl _)
  have hb8 := hb8.ext e3
  have hr3 := hr2.ext e3
  have hE3 := hE2.ext e3
  have hG := grown_tr hG (e3.grw (some rb))
  skip
  refine WL.st rfl rfl rfl hb10 rfl rfl (ones_of rfl) (fun w4 hb104 hg4 => ?_)
  have hx := hx.st hg4 (.inr (List.mem_cons_self ..))
  have hH := HF.of hb104 hx
  have hb8 := hb8.kept hg4 (fun e => by have := Option.some.inj e; omega)
  have hr4 := hr3.kept hg4 (fun b e => by cases e; omega)
  have hE4 := hE3.stT hg4 hb10 (by decide)
  have hG := grown_new hG hg4 (by omega)
  clear hb10 hb104 hg4 hx hr3 hr2 hr1 hE2 hE3 hk e3 hg2
  generalize hB10 : w2.heap.size = b10 at *
  have hI0 : (e = .nilIface ∧ pRow nms s.length (n + 1) lv o st = pRowL nms s.length n lv o t st1 ∧ 10 * mT st1 + 1 ≤ n) ∨ ∃ c a, pRow nms s.length (n + 1) lv o st = .er c a ∧ FlL w4 w0.heap.size c a e := by
    rcases hE4 with ⟨h1, h2⟩ | ⟨c, a, h1, h2⟩
    · left
      refine ⟨h1, by rw [pRow, h2], ?_⟩
      have := hm2 _ _ h2
      cases lv <;> simp only [ll] at hn <;> omega
    · right
      exact ⟨c, a, by rw [pRow, h1], h2⟩
  clear hE4 hm2
  generalize pRow nms s.length (n + 1) lv o st = R at *
  (repeat (first | (apply WL.pure; rfl; rfl; rfl) | (apply WL.nil) | (apply EX.thenN)))
  refine CW.cutI (S := Value × Ltl) (fun p => [(8, .pointer (some ⟨w0.heap.size, 0, none⟩)), (10, .pointer (some ⟨b10, 0, none⟩)), (11, p.1)])
    (fun p w => w0.grownBy w (some rb) ∧ Blk w w0.heap.size 28 [.int .i64 0, .int .i64 0, .slice none 0 0] ∧ HF 28 w b10 w0.heap.size [b10, w0.heap.size] p.2 ∧ ∃ st', Rdr 125 w rb s no nc nms o st' ∧ ErL w w0.heap.size R p.1 p.2 st') ?_ ?_
  · apply CW.block
    refine CW.loop (S := Nat × Ltl × (Bys × Bys) × Value) (fun p => [(0, .pointer (some ⟨rb, 0, none⟩)), (1, .int .i64 (knR lv)), (2, tV (sgR lv)), (3, fv), (8, .pointer (some ⟨w0.heap.size, 0, none⟩)), (10, .pointer (some ⟨b10, 0, none⟩)), (11, p.2.2.2)])
      (fun p w => w0.grownBy w (some rb) ∧ Blk w w0.heap.size 28 [.int .i64 0, .int .i64 0, .slice none 0 0] ∧ HF 28 w b10 w0.heap.size [b10, w0.heap.size] p.2.1 ∧ Rdr 125 w rb s no nc nms o p.2.2.1 ∧
        ((p.2.2.2 = .nilIface ∧ R = pRowL nms s.length p.1 lv o p.2.1 p.2.2.1 ∧ 10 * mT p.2.2.1 + 1 ≤ p.1 ∧ p.1 ≤ n) ∨ ∃ c a, R = .er c a ∧ FlL w w0.heap.size c a p.2.2.2))
      (fun p => if nilI p.2.2.2 = true then mT p.2.2.1 + 1 else 0) (n, t, st1, e) (by repeat (first | exact trivial | refine ⟨rfl, ?_⟩)) ⟨hG, hb8, hH, hr4, by rcases hI0 with ⟨h1, h2, h3⟩ | h; exact .inl ⟨h1, h2, h3, Nat.le_refl _⟩; exact .inr h⟩ ?_
    clear hG hb8 hH hr4 hI0 hr
    rintro ⟨m, t, st1, e⟩ w5 ⟨hG, hb8, hH, hr5, hI⟩
    dsimp only at hG hb8 hH hr5 hI ⊢
    have he : errI e = true := by
      rcases hI with ⟨rfl, _⟩ | ⟨c, a, _, h⟩
      · rfl
      · exact h.err.1
    (repeat (first | (apply WL.pure; rfl; rfl; rfl) | (apply CW.seq) | (apply CW.region)))
    refine WL.eqNil rfl rfl rfl he ?_
    rcases hI with ⟨rfl, hR, hm, hmn⟩ | ⟨c, a, hR, hF⟩
    · rw [show nilI Value.nilIface = true from rfl]
      (repeat (apply WL.pure; rfl; rfl; rfl))
      refine WL.call rfl rfl rfl (ltake_ok w5 hr5 hs (sgR lv)) ?_
      rintro _ w6 ⟨rfl, hr6, hg6⟩
      have l8' := hb8.lt
      have l10 := hH.lt
      have hrl5 := hr5.lt
      have hb8 := hb8.kept hg6 (fun e => by have := Option.some.inj e; omega)
      have hH := hH.st hg6 (.inl hrl) (by omega)
      have hG := grown_tr hG hg6
      obtain ⟨m, rfl⟩ : ∃ k, m = k + 1 := ⟨m - 1, by omega⟩
      rw [pRowL] at hR
      (repeat (first | (apply WL.pure; rfl; rfl; rfl) | (apply WL.nil) | (apply EX.thenN)))
      refine CW.cond rfl (fun h => ?_) (fun h => ?_)
      · have h : st1.1 = sgR lv := of_decide_eq_true h
        rw [if_pos h] at hR hr6
        have hmx := mT_nx1 (st := st1) (by rw [h]; exact sgR_ne lv)
        (repeat (first | (apply EX.thenN) | (apply CW.seq) | (apply CW.region) | (apply CW.block) | (apply CW.skip)))
        refine WL.alloc rfl rfl (fun w7 hb12 e7 => ?_)
        have hH := hH.add e7 (Nat.le_refl _)
        have hb8 := hb8.ext e7
        have hr7 := hr6.ext e7
        have hG := grown_tr hG (e7.grw (some rb))
        have l12 := hb12.lt
        have z6 := hg6.size
        generalize hB12 : w6.heap.size = b12 at *
        (repeat (first | (apply WL.pure; rfl; rfl; rfl) | (apply WL.nil) | (apply EX.thenN) | (apply CW.seq) | (apply CW.region)))
        refine WL.callF (xs := []) (vs := []) rfl rfl rfl rfl (hf m (by omega) _ w7 hr7 (hSn.kept hG (fun b e => by cases e; exact Nat.le_refl _) hBn) (by cases lv <;> simp only [ll] <;> omega)) ?_
        rintro _ w8 ⟨⟨x, e, t2, st2, rfl, hx, hr8, hE8⟩, hg8⟩
        have z7 := e7.size
        have z8 := hg8.size
        have hH := hH.st hg8 (.inl hrl) (by omega)
        have hb8 := hb8.kept hg8 (fun e => by have := Option.some.inj e; omega)
        have hb12 := hb12.kept hg8 (fun e => by have := Option.some.inj e; omega)
        have hG := grown_tr hG hg8
        have hx : GX w0.heap.size [b12, b10, w0.heap.size] w8 x t2 := GX.of hx (by omega) (fun r hr => by
          simp only [List.mem_cons, List.not_mem_nil, or_false] at hr
          rcases hr with rfl | rfl | rfl <;> omega)
        have hE8 : ErL w8 w0.heap.size (pPart nms s.length m lv o (nxT st1.2)) e t2 st2 := hE8.low (by omega)
        obtain ⟨uo, uc, rfl, hk⟩ := Rd.ltl hx
        (repeat (apply WL.pure; rfl; rfl; rfl))
        refine WL.st rfl rfl rfl hb12 rfl rfl (ones_of rfl) (fun w9 hb129 hg9 => ?_)
        have hx := hx.st hg9 (.inr (List.mem_cons_self ..))
        have hH := hH.st hg9 (.inr (List.mem_cons_self ..)) (by omega)
        have hb8 := hb8.kept hg9 (fun e => by have := Option.some.inj e; omega)
        have hr9 := hr8.kept hg9 (fun b e => by cases e; omega)
        have hE9 := hE8.stT hg9 hb12 (by decide)
        have hG := grown_new hG hg9 (by omega)
        obtain ⟨vo, vc, hb10, hy⟩ := hH.gx
        have z9 := hg9.size
        clear hb12 hg9 hr8 hE8 hk
        (repeat (first | (apply WL.pure; rfl; rfl; rfl) | (apply WL.nil) | (apply EX.thenN) | (apply CW.region) | (apply WL.ldA; rfl; rfl; rfl; assumption; rfl)))
        refine WL.call rfl rfl rfl (ltwo_ok w9 (F := GXs w0.heap.size [b12, b10, w0.heap.size] w9) (fun b hb => hb.2.1) (knR lv) hy hx) ?_
        rintro _ w10 ⟨hv, e10⟩
        have hv : GX w0.heap.size [b12, b10, w0.heap.size] w10 _ (.mk (knR lv) 0 [t, t2]) := GX.plus hv e10 (by omega) (fun r hr => by
          simp only [List.mem_cons, List.not_mem_nil, or_false] at hr
          rcases hr with rfl | rfl | rfl <;> omega)
        have hv := hv.wk
        obtain ⟨uo', uc', rfl, hk'⟩ := Rd.ltl hv
        have hb10 := hb10.ext e10
        have hr10 := hr9.ext e10
        have hE10 := hE9.ext e10
        have hb8 := hb8.ext e10
        have hG := grown_tr hG (e10.grw (some rb))
        skip
        refine WL.st rfl rfl rfl hb10 rfl rfl (ones_of rfl) (fun w11 hb1011 hg11 => ?_)
        have hv := hv.st hg11 (.inr (List.mem_cons_self ..))
        have hH := HF.of hb1011 hv
        have hb8 := hb8.kept hg11 (fun e => by have := Option.some.inj e; omega)
        have hr11 := hr10.kept hg11 (fun b e => by cases e; omega)
        have hE11 := hE10.stT hg11 hb10 (by decide)
        have hG := grown_new hG hg11 (by omega)
        have hmm : ∀ f st', pPart nms s.length m lv o (nxT st1.2) = .ok f st' → mT st' ≤ mT (nxT st1.2) := fun f st' h => (l_mono nms s.length m).2.2.2.1 _ _ _ _ _ h
        (repeat (first | (apply WL.nil) | (apply EX.inN)))
        refine EX.back (m, .mk (knR lv) 0 [t, t2], st2, e) (by repeat (first | exact trivial | refine ⟨rfl, ?_⟩)) ⟨hG, hb8, hH, hr11, ?_⟩ ?_
        · dsimp only
          rcases hE11 with ⟨h1, h2⟩ | ⟨c, a, h1, h2⟩
          · left
            rw [h2] at hR
            have := hmm _ _ h2
            exact ⟨h1, hR, by omega, by omega⟩
          · right
            rw [h1] at hR
            exact ⟨c, a, hR, h2⟩
        · dsimp only
          rw [show nilI Value.nilIface = true from rfl, if_pos rfl]
          rcases hE11 with ⟨h1, h2⟩ | ⟨c, a, h1, h2⟩
          · have := hmm _ _ h2
            split <;> omega
          · rw [h2.err.2]; simp
      · have h : ¬ st1.1 = sgR lv := of_decide_eq_false h
        rw [if_neg h] at hR hr6
        (repeat (first | (apply CW.exit) | (apply EX.thenX) | (apply EX.inX)))
        exact EX.cutI (.nilIface, t) (by repeat (first | exact trivial | refine ⟨rfl, ?_⟩)) ⟨hG, hb8, hH, st1, hr6, .inl ⟨rfl, hR⟩⟩
    · rw [hF.err.2]
      (repeat (first | (apply WL.pure; rfl; rfl; rfl) | (apply WL.nil) | (apply EX.thenN) | (apply WL.pass; rfl; rfl) | (apply CW.condF; rfl) | (apply CW.exit) | (apply EX.thenX) | (apply EX.inX)))
      exact EX.cutI (e, t) (by repeat (first | exact trivial | refine ⟨rfl, ?_⟩)) ⟨hG, hb8, hH, st1, hr5, .inr ⟨c, a, hR, hF⟩⟩
  clear hG hb8 hH hr4 hI0
  rintro ⟨e, t⟩ w5 ⟨hG, hb8, hH, st', hr5, hE⟩
  dsimp only at hH hE ⊢
  obtain ⟨vo, vc, hb10, hy⟩ := hH.gx
  have l10 := hb10.lt
  (repeat (first | (apply WL.pure; rfl; rfl; rfl) | (apply CW.seq) | (apply CW.region) | (apply WL.ldA; rfl; rfl; rfl; assumption; rfl)))
  refine WL.st rfl rfl rfl hb8 rfl rfl (ones_of rfl) (fun w6 hb86 hg6 => ?_)
  (repeat (first | (apply WL.pure; rfl; rfl; rfl) | (apply WL.nil) | (apply EX.thenN) | (apply CW.ret)))
  refine EX.retC2 rfl rfl rfl hb86 rfl ⟨⟨_, _, t, st', rfl, (hy.st hg6 (.inr (by simp))).gl, hr5.kept hg6 (fun b e => by cases e; omega), hE.stT hg6 hb8 (by decide)⟩, grown_new hG hg6 (Nat.le_refl _)⟩
end Go.Proofs.YtikigaeihdmcaaaGreatDoor

/-
  ltl.Parse, walked: within brackets.
-/
set_option linter.unusedVariables false
set_option linter.unusedSimpArgs false
namespace Go.Proofs.YtikigaeihdmcaaaGreatDoor
open Go.RowKit

theorem Rdr.openL' {w w' : World} {rb : Nat} {s : Bys} {no : Option Addr} {nc : Nat} {nms : List ByteArray} {o o' : Nat} {st : Bys × Bys} (h : Rdr 125 w rb s no nc nms o st) (hg : w.grownBy w' (some rb))
    (hb : Blk w' rb 125 [tV s, .slice no nms.length nc, tV st.1, .int .i64 (atT s.length st : Int), .int .i64 ((s.length - st.2.length : Nat) : Int), .int .i64 (o' : Int)]) : Rdr 125 w' rb s no nc nms o' st :=
  ⟨hb, h.nm.mono (fun b hb => hg.block b (by have := h.lt; omega) (by simp; omega)) fun _ h => h, h.drp, h.len⟩
theorem lwithin_ok (w0 : World) {rb : Nat} {s : Bys} {no : Option Addr} {nc : Nat} {nms : List ByteArray} {o : Nat} {st : Bys × Bys} (hr : Rdr 125 w0 rb s no nc nms o st) (hs : s.length ≤ 300) (ho : o ≤ 20) {sa : Nat → Addr} (hSn : SenH w0 sa) (hBn : 3 < rb ∧ ∀ i, i < 3 → (sa i).block < rb) {fv : Value} {r : PR}
    (hf : o < 20 → ∀ w, Rdr 125 w rb s no nc nms (o + 1) (nxT st.2) → w0.grownBy w (some rb) → FnV Tryz.prog fv [] w fun v w' => PRl 125 rb s no nc nms (o + 1) w.heap.size r v w' ∧ w.grownBy w' (some rb)) :
    Rt Tryz.prog 133 [.pointer (some ⟨rb, 0, none⟩), fv].toArray w0 fun v w' => PRl 125 rb s no nc nms o w0.heap.size (if o = 20 then .er 5 (atT s.length st) else r) v w' ∧ w0.grownBy w' (some rb) := by
  have hrl := hr.lt
  refine Rt.enter2 Tryz.func133 Tryz.ntmps133 rfl rfl ?_
  (repeat (first | (apply CW.seq) | (apply CW.region)))
  refine WL.alloc rfl rfl (fun w1 hb4 e1 => ?_)
  have l4 := hb4.lt
  have hr1 := hr.ext e1
  have hb1 := hr1.blk
  have hG := e1.grw (some rb)
  (repeat (first | (apply WL.pure; rfl; rfl; rfl) | (apply WL.nil) | (apply EX.thenN) | (apply CW.seq) | (apply CW.region) | (apply WL.fa; rfl; rfl; rfl) | (apply WL.nck; rfl; rfl; rfl) | (apply WL.ld; rfl; rfl; rfl; assumption; rfl)))
  refine CW.cond rfl (fun h => ?_) (fun h => ?_)
  · have h20 : o = 20 := by have : (o : Int) = 20 := by simpa using h
                            omega
    rw [if_pos h20]
    (repeat (apply CW.seq))
    have hD := Ext.drew w1
    have hrd := hr1.ext hD
    have hSd : SenH (drew w1) sa := hSn.kept ((e1.trans hD).grw none) (fun b e => by cases e) hBn
    have hb4d := hb4.ext hD
    have hGd := grown_tr hG (hD.grw _)
    refine CW.drawH (fun z : World => Blk z rb 125 [tV s, .slice no nms.length nc, tV st.1, .int .i64 (atT s.length st : Int), .int .i64 ((s.length - st.2.length : Nat) : Int), .int .i64 (o : Int)] ∧ z.cell? ⟨2, 0, none⟩ = some (.iface 205 (.pointer (some (sa 1))))) [(0, true), (1, true), (2, true), (3, true), (4, true), (5, true), (6, false), (7, false), (8, true)] mixed (by kernel_rfl) ⟨hrd.blk, hSd.g1⟩ ?_
    refine HL.build (parts := []) rfl rfl rfl rfl rfl ?_
    refine HL.ldG (fun z hz => hz.2) rfl rfl rfl rfl ?_
    (repeat (first | (apply HL.pure; rfl; rfl; rfl; rfl) | (refine HL.fa rfl rfl rfl rfl ?_) | (apply HL.nck; rfl; rfl; rfl; rfl)))
    refine HL.ldS (fun z hz => hz.1) rfl rfl rfl rfl rfl ?_
    refine HL.mut rfl (WL.call rfl rfl rfl (lfault_ok (drew w1) hSd (i := 1) (by omega) (atT s.length st)) ?_)
    rintro e w6 ⟨hF, e6⟩
    have hr6 := hrd.ext e6
    have hb46 := hb4d.ext e6
    have hG := grown_tr hGd (e6.grw _)
    refine WL.nil (EX.mut ⟨hr6.blk, (hSn.kept hG (fun b e => by cases e; exact Nat.le_refl _) hBn).g1⟩ ?_)
    refine HL.mut rfl (WL.st rfl rfl rfl hb46 rfl rfl (ones_of rfl) (fun w7 hb47 hg7 => ?_))
    have hr7 := hr6.kept hg7 (fun b e => by cases e; omega)
    have hG7 := grown_new hG hg7 (Nat.le_refl _)
    refine WL.nil (EX.mut ⟨hr7.blk, (hSn.kept hG7 (fun b e => by cases e; exact Nat.le_refl _) hBn).g1⟩ ?_)
    (repeat (first | (apply HL.pure; rfl; rfl; rfl; rfl) | (apply HL.nil)))
    (repeat (first | (apply EX.thenN) | (apply CW.ret) | (apply EX.thenR)))
    exact EX.retC2 rfl rfl rfl hb47 rfl ⟨⟨_, _, _, st, rfl, GL.zero 0 0, hr7, .inr ⟨_, _, rfl, (hF.low (Nat.le_of_lt l4)).stT hg7 hb46 (by decide)⟩⟩, hG7⟩
  have h20 : ¬ o = 20 := by have : ¬ (o : Int) = 20 := by simpa using h
                            omega
  rw [if_neg h20]
  clear h
  (repeat (first | (apply WL.add; rfl; rfl; rfl; rfl; omega; omega) | (apply WL.pure; rfl; rfl; rfl) | (apply EX.thenN) | (apply CW.seq) | (apply CW.region) | (apply WL.fa; rfl; rfl; rfl) | (apply WL.nck; rfl; rfl; rfl) | (apply WL.ld; rfl; rfl; rfl; assumption; rfl) | (apply CW.skip)))
  refine WL.st rfl rfl rfl hb1 rfl rfl (ones_of rfl) (fun w2 hb2 hg2 => ?_)
  have hr2 : Rdr 125 w2 rb s no nc nms (o + 1) st := hr1.openL' hg2 (by rw [show ((o + 1 : Nat) : Int) = (o : Int) + 1 by omega]; exact hb2)
  have hb4 := hb4.kept hg2 (fun e => by have := Option.some.inj e; omega)
  have hG := grown_tr hG hg2
  clear hb1 hb2 hg2 hr1
  (repeat (first | (apply WL.pure; rfl; rfl; rfl) | (apply WL.nil) | (apply EX.thenN) | (apply CW.seq) | (apply CW.region)))
  refine WL.call rfl rfl rfl (lnext_ok w2 hr2 hs) ?_
  rintro _ w3 ⟨hr3, hg3⟩
  have hb4 := hb4.kept hg3 (fun e => by have := Option.some.inj e; omega)
  have hG := grown_tr hG hg3
  have l43 := hb4.lt
  (repeat (first | (apply WL.pure; rfl; rfl; rfl) | (apply WL.nil) | (apply EX.thenN) | (apply CW.seq) | (apply CW.region)))
  refine WL.callF (xs := []) (vs := []) rfl rfl rfl rfl (hf (by omega) w3 hr3 hG) ?_
  rintro _ w4 ⟨⟨x, e, t, st1, rfl, hx, hr4, hE4⟩, hg4⟩
  have hb4 := hb4.kept hg4 (fun e => by have := Option.some.inj e; omega)
  have hG := grown_tr hG hg4
  have z4 := hg4.size
  have hx : GX w0.heap.size [w0.heap.size] w4 x t := GX.of hx (Nat.le_of_lt l43) (fun r hr => by rw [List.mem_singleton.1 hr]; exact l43)
  have hE4 := hE4.low (B' := w0.heap.size) (Nat.le_of_lt l43)
  obtain ⟨uo, uc, rfl, hk⟩ := Rd.ltl hx
  (repeat (apply WL.pure; rfl; rfl; rfl))
  refine WL.alloc rfl rfl (fun w5 hb6 e5 => ?_)
  have hx := hx.add e5 (Nat.le_refl _)
  have hb4 := hb4.ext e5
  have hr5 := hr4.ext e5
  have hE5 := hE4.ext e5
  have hG := grown_tr hG (e5.grw (some rb))
  skip
  refine WL.st rfl rfl rfl hb6 rfl rfl (ones_of rfl) (fun w6 hb66 hg6 => ?_)
  have hx := hx.st hg6 (.inr (List.mem_cons_self ..))
  have hb4 := hb4.kept hg6 (fun e => by have := Option.some.inj e; omega)
  have hr6 := hr5.kept hg6 (fun b e => by cases e; omega)
  have hE6 := hE5.stT hg6 hb6 (by decide)
  have hG := grown_new hG hg6 (by omega)
  have hb7 := hr6.blk
  have l6 := hb66.lt
  clear hb6 hr5 hE5 hr4 hE4 hr3 hr2 hg6 hk
  generalize hB6 : w4.heap.size = b6 at *
  (repeat (first | (apply WL.sub'; rfl; rfl; rfl; rfl; omega; omega) | (apply WL.pure; rfl; rfl; rfl) | (apply WL.nil) | (apply EX.thenN) | (apply CW.seq) | (apply CW.region) | (apply WL.fa; rfl; rfl; rfl) | (apply WL.nck; rfl; rfl; rfl) | (apply WL.ld; rfl; rfl; rfl; assumption; rfl)))
  refine WL.st rfl rfl rfl hb7 rfl rfl (ones_of rfl) (fun w7 hb77 hg7 => ?_)
  have hr7 : Rdr 125 w7 rb s no nc nms o st1 := hr6.openL' hg7 (by rw [show (o : Int) = ((o + 1 : Nat) : Int) - 1 by omega]; exact hb77)
  have hx := hx.st hg7 (.inl hrl)
  have hb4 := hb4.kept hg7 (fun e => by have := Option.some.inj e; omega)
  have hb67 := hb66.kept hg7 (fun e => by have := Option.some.inj e; omega)
  have hE7 := hE6.stT hg7 hb7 (by decide)
  have hG := grown_tr hG hg7
  clear hb7 hb77 hg7 hr6 hE6 hb66
  (repeat (first | (apply WL.pure; rfl; rfl; rfl) | (apply WL.nil) | (apply EX.thenN) | (apply CW.seq) | (apply CW.region) | (apply WL.ldA; rfl; rfl; rfl; assumption; rfl)))
  refine WL.st rfl rfl rfl hb4 rfl rfl (ones_of rfl) (fun w8 hb8 hg8 => ?_)
  (repeat (first | (apply WL.pure; rfl; rfl; rfl) | (apply WL.nil) | (apply EX.thenN) | (apply CW.ret)))
  exact EX.retC2 rfl rfl rfl hb8 rfl ⟨⟨_, _, t, st1, rfl, (hx.st hg8 (.inr (by simp))).gl, hr7.kept hg8 (fun b e => by cases e; omega), hE7.stT hg8 hb4 (by decide)⟩, grown_new hG hg8 (Nat.le_refl _)⟩
end Go.Proofs.YtikigaeihdmcaaaGreatDoor

/-
  ltl.Parse, walked: a word.
-/
set_option linter.unusedVariables false
set_option linter.unusedSimpArgs false
namespace Go.Proofs.YtikigaeihdmcaaaGreatDoor
open Go.RowKit

set_option maxHeartbeats 1000000 in
theorem lword_ok (w0 : World) {rb : Nat} {s : Bys} {no : Option Addr} {nc : Nat} {nms : List ByteArray} {o : Nat} {st : Bys × Bys} (hr : Rdr 125 w0 rb s no nc nms o st) (hs : s.length ≤ 300) {sa : Nat → Addr} (hSn : SenH w0 sa) (hBn : 3 < rb ∧ ∀ i, i < 3 → (sa i).block < rb) :
    Rt Tryz.prog 134 [.pointer (some ⟨rb, 0, none⟩)].toArray w0 fun v w' => PRl 125 rb s no nc nms o w0.heap.size (wordR nms s.length st) v w' ∧ w0.grownBy w' (some rb) := by
  have hrl := hr.lt
  refine Rt.enter1 Tryz.func134 Tryz.ntmps134 rfl rfl ?_
  (repeat (first | (apply CW.seq) | (apply CW.region)))
  refine WL.alloc rfl rfl (fun w1 hb2 e1 => ?_)
  (repeat (first | (apply WL.pure; rfl; rfl; rfl) | (apply WL.nil) | (apply EX.thenN) | (apply CW.seq) | (apply CW.region)))
  refine WL.build rfl rfl rfl rfl ?_
  refine WL.alloc rfl rfl (fun w2 hb4 e2 => ?_)
  have h24 := hb2.lt
  have hb2 := hb2.ext e2
  have hE2 := e1.trans e2
  have l4 := hb4.lt
  generalize hB4 : w1.heap.size = b4 at *
  skip
  refine WL.st rfl rfl rfl hb4 rfl rfl (ones_of rfl) (fun w3 hb43 hg3 => ?_)
  have hb2 := hb2.kept hg3 (fun e => by have := Option.some.inj e; omega)
  have hG := grown_new (hE2.grw (some rb)) hg3 (by omega)
  have hr3 := (hr.ext hE2).kept hg3 (fun b e => by cases e; omega)
  have hrb := hr3.blk
  clear hb4 hg3 e1 e2 hr
  have e1 : ∀ l : Bys, ((txA st.1).data.toList == l) = decide (st.1 = l) := fun l => by rw [txA_list, Bool.eq_iff_iff]; simp
  have tT : (ByteArray.mk #[116, 114, 117, 101]).data.toList = tTrue := rfl
  have tF : (ByteArray.mk #[102, 97, 108, 115, 101]).data.toList = tFalse := rfl
  have tS : (ByteArray.mk #[115, 105, 108, 101, 110, 116]).data.toList = tSil := rfl
  (repeat (first | (apply WL.pure; rfl; rfl; rfl) | (apply WL.nil) | (apply EX.thenN) | (apply CW.seq) | (apply CW.region) | (apply WL.fa; rfl; rfl; rfl) | (apply WL.nck; rfl; rfl; rfl) | (apply WL.ld; rfl; rfl; rfl; assumption; rfl) | (apply CW.block)))
  rw [e1, tT]
  refine CW.cond rfl (fun h => ?_) (fun h => ?_)
  · have h1 : st.1 = tTrue := of_decide_eq_true h
    (repeat (first | (apply CW.region) | (apply WL.fa; rfl; rfl; rfl)))
    refine WL.st rfl rfl rfl hb43 rfl rfl (ones_of rfl) (fun w4 hb44 hg4 => ?_)
    have hb2 := hb2.kept hg4 (fun e => by have := Option.some.inj e; omega)
    have hG := grown_new hG hg4 (by omega)
    have hr4 := hr3.kept hg4 (fun b e => by cases e; omega)
    (repeat (first | (apply WL.pure; rfl; rfl; rfl) | (apply WL.nil) | (apply EX.thenN) | (apply CW.seq) | (apply CW.region) | (apply EX.inN)))
    refine WL.call rfl rfl rfl (lnext_ok w4 hr4 hs) ?_
    rintro _ w5 ⟨hr5, hg5⟩
    have hb2 := hb2.kept hg5 (fun e => by have := Option.some.inj e; omega)
    have hb45 := hb44.kept hg5 (fun e => by have := Option.some.inj e; omega)
    have hG := grown_tr hG hg5
    (repeat (first | (apply WL.nil) | (apply EX.thenN) | (apply CW.seq) | (apply CW.region) | (apply WL.ldA; rfl; rfl; rfl; assumption; rfl)))
    refine WL.st rfl rfl rfl hb2 rfl rfl (ones_of rfl) (fun w6 hb26 hg6 => ?_)
    (repeat (first | (apply WL.pure; rfl; rfl; rfl) | (apply WL.nil) | (apply EX.thenN) | (apply CW.ret)))
    refine EX.retC2 rfl rfl rfl hb26 rfl ⟨?_, grown_new hG hg6 (Nat.le_refl _)⟩
    unfold wordR
    rw [if_pos h1]
    exact ⟨_, _, _, _, rfl, GL.zero 1 0, hr5.kept hg6 (fun b e => by cases e; omega), .inl ⟨rfl, rfl⟩⟩
  have h1 : ¬ st.1 = tTrue := of_decide_eq_false h
  clear h
  (repeat (first | (apply WL.pure; rfl; rfl; rfl) | (apply WL.nil) | (apply EX.thenN) | (apply CW.seq) | (apply CW.region)))
  rw [e1, tF]
  refine CW.cond rfl (fun h => ?_) (fun h => ?_)
  · have h2 : st.1 = tFalse := of_decide_eq_true h
    (repeat (first | (apply CW.region) | (apply WL.fa; rfl; rfl; rfl)))
    refine WL.st rfl rfl rfl hb43 rfl rfl (ones_of rfl) (fun w4 hb44 hg4 => ?_)
    have hb2 := hb2.kept hg4 (fun e => by have := Option.some.inj e; omega)
    have hG := grown_new hG hg4 (by omega)
    have hr4 := hr3.kept hg4 (fun b e => by cases e; omega)
    (repeat (first | (apply WL.pure; rfl; rfl; rfl) | (apply WL.nil) | (apply EX.thenN) | (apply CW.seq) | (apply CW.region) | (apply EX.inN)))
    refine WL.call rfl rfl rfl (lnext_ok w4 hr4 hs) ?_
    rintro _ w5 ⟨hr5, hg5⟩
    have hb2 := hb2.kept hg5 (fun e => by have := Option.some.inj e; omega)
    have hb45 := hb44.kept hg5 (fun e => by have := Option.some.inj e; omega)
    have hG := grown_tr hG hg5
    (repeat (first | (apply WL.nil) | (apply EX.thenN) | (apply CW.seq) | (apply CW.region) | (apply WL.ldA; rfl; rfl; rfl; assumption; rfl)))
    refine WL.st rfl rfl rfl hb2 rfl rfl (ones_of rfl) (fun w6 hb26 hg6 => ?_)
    (repeat (first | (apply WL.pure; rfl; rfl; rfl) | (apply WL.nil) | (apply EX.thenN) | (apply CW.ret)))
    refine EX.retC2 rfl rfl rfl hb26 rfl ⟨?_, grown_new hG hg6 (Nat.le_refl _)⟩
    unfold wordR
    rw [if_neg h1, if_pos h2]
    exact ⟨_, _, _, _, rfl, GL.zero 2 0, hr5.kept hg6 (fun b e => by cases e; omega), .inl ⟨rfl, rfl⟩⟩
  have h2 : ¬ st.1 = tFalse := of_decide_eq_false h
  clear h
  (repeat (first | (apply WL.pure; rfl; rfl; rfl) | (apply WL.nil) | (apply EX.thenN) | (apply CW.seq) | (apply CW.region)))
  rw [e1, tS]
  refine CW.cond rfl (fun h => ?_) (fun h => ?_)
  · have h3 : st.1 = tSil := of_decide_eq_true h
    (repeat (first | (apply CW.region) | (apply WL.fa; rfl; rfl; rfl)))
    refine WL.st rfl rfl rfl hb43 rfl rfl (ones_of rfl) (fun w4 hb44 hg4 => ?_)
    have hb2 := hb2.kept hg4 (fun e => by have := Option.some.inj e; omega)
    have hG := grown_new hG hg4 (by omega)
    have hr4 := hr3.kept hg4 (fun b e => by cases e; omega)
    (repeat (first | (apply WL.pure; rfl; rfl; rfl) | (apply WL.nil) | (apply EX.thenN) | (apply CW.seq) | (apply CW.region) | (apply EX.inN)))
    refine WL.call rfl rfl rfl (lnext_ok w4 hr4 hs) ?_
    rintro _ w5 ⟨hr5, hg5⟩
    have hb2 := hb2.kept hg5 (fun e => by have := Option.some.inj e; omega)
    have hb45 := hb44.kept hg5 (fun e => by have := Option.some.inj e; omega)
    have hG := grown_tr hG hg5
    (repeat (first | (apply WL.nil) | (apply EX.thenN) | (apply CW.seq) | (apply CW.region) | (apply WL.ldA; rfl; rfl; rfl; assumption; rfl)))
    refine WL.st rfl rfl rfl hb2 rfl rfl (ones_of rfl) (fun w6 hb26 hg6 => ?_)
    (repeat (first | (apply WL.pure; rfl; rfl; rfl) | (apply WL.nil) | (apply EX.thenN) | (apply CW.ret)))
    refine EX.retC2 rfl rfl rfl hb26 rfl ⟨?_, grown_new hG hg6 (Nat.le_refl _)⟩
    unfold wordR
    rw [if_neg h1, if_neg h2, if_pos h3]
    exact ⟨_, _, _, _, rfl, GL.zero 3 63, hr5.kept hg6 (fun b e => by cases e; omega), .inl ⟨rfl, rfl⟩⟩
  have h3 : ¬ st.1 = tSil := of_decide_eq_false h
  clear h e1 tT tF tS
  (repeat (apply CW.seq))
  have hD := Ext.drew w3
  have hrd := hr3.ext hD
  have hrbd := hrd.blk
  have hb2d := hb2.ext hD
  have hb4d := hb43.ext hD
  have hGd := grown_tr hG (hD.grw _)
  refine CW.drawH (fun z : World => Blk z rb 125 [tV s, .slice no nms.length nc, tV st.1, .int .i64 (atT s.length st : Int), .int .i64 ((s.length - st.2.length : Nat) : Int), .int .i64 (o : Int)]) [(0, true), (1, true), (2, true), (3, true), (4, true), (5, true), (6, true), (7, true), (8, false), (9, true), (10, false)] mixed (by kernel_rfl) hrbd ?_
  clear hr3 hrb hb2 hb43 hG
  (repeat (first | (apply HL.pure; rfl; rfl; rfl; rfl) | (refine HL.fa rfl rfl rfl rfl ?_) | (apply HL.nck; rfl; rfl; rfl; rfl)))
  refine HL.ldS (fun z hz => hz) rfl rfl rfl rfl rfl ?_
  (repeat (first | (apply HL.pure; rfl; rfl; rfl; rfl) | (refine HL.fa rfl rfl rfl rfl ?_) | (apply HL.nck; rfl; rfl; rfl; rfl)))
  refine HL.ldS (fun z hz => hz) rfl rfl rfl rfl rfl ?_
  refine HL.mut rfl (WL.call rfl rfl rfl (index_str (drew w3) (txA st.1) (hrd.nm.mono (fun _ _ => rfl) fun b hb => by have := hrd.lt; show b < _; omega)) ?_)
  rintro _ w4 ⟨rfl, rfl⟩
  rw [idxB_of, txA_list]
  refine WL.nil (EX.mut hrbd ?_)
  (repeat (refine HL.fa rfl rfl rfl rfl ?_))
  refine HL.mut rfl (WL.st rfl rfl rfl hb4d rfl rfl (ones_of rfl) (fun w4 hb44 hg4 => ?_))
  have hr4 := hrd.kept hg4 (fun b e => by cases e; omega)
  have hrb := hr4.blk
  refine WL.nil (EX.mut hrb ?_)
  have hb2 := hb2d.kept hg4 (fun e => by have := Option.some.inj e; omega)
  have hG := grown_new hGd hg4 (by omega)
  clear hb4d hb2d hGd hrbd hrd hg4 hD
  (repeat (first | (apply HL.nil) | (apply EX.thenN)))
  refine CW.cutE [(0, .pointer (some ⟨rb, 0, none⟩)), (2, .pointer (some ⟨w0.heap.size, 0, none⟩)), (4, .pointer (some ⟨b4, 0, none⟩)), (35, .bool (decide (idxB nms st.1 < 0 ∨ idxB nms st.1 ≥ 63 ∨ namedL st.1 = false)))] ?_ ?_
  · (repeat (first | (apply WL.pure; rfl; rfl; rfl) | (apply CW.region) | (apply WL.fa; rfl; rfl; rfl) | (apply WL.ld; rfl; rfl; rfl; assumption; rfl)))
    (refine WL.lookG rfl rfl (fun h => ?_) (fun h => ?_))
    · have h : idxB nms st.1 < 0 := by simpa using h
      (repeat (first | (apply WL.pure; rfl; rfl; rfl) | (apply WL.nil) | (apply WL.pass; rfl; rfl)))
      exact EX.cutE ⟨rfl, rfl, rfl, congrArg (fun b => some (Value.bool b)) (show true = _ from (decide_eq_true (Or.inl h)).symm), trivial⟩ (Ext.refl _)
    have h4 : ¬ idxB nms st.1 < 0 := by simpa using h
    clear h
    (repeat (first | (apply WL.pure; rfl; rfl; rfl) | (apply WL.fa; rfl; rfl; rfl) | (apply WL.ld; rfl; rfl; rfl; assumption; rfl)))
    (refine WL.lookG rfl rfl (fun h => ?_) (fun h => ?_))
    · have h : idxB nms st.1 ≥ 63 := by simpa using h
      (repeat (first | (apply WL.pure; rfl; rfl; rfl) | (apply WL.nil) | (apply WL.pass; rfl; rfl)))
      exact EX.cutE ⟨rfl, rfl, rfl, congrArg (fun b => some (Value.bool b)) (show true = _ from (decide_eq_true (Or.inr (Or.inl h))).symm), trivial⟩ (Ext.refl _)
    have h5 : ¬ idxB nms st.1 ≥ 63 := by simpa using h
    clear h
    (repeat (first | (apply WL.pure; rfl; rfl; rfl) | (apply WL.fa; rfl; rfl; rfl) | (apply WL.nck; rfl; rfl; rfl) | (apply WL.ld; rfl; rfl; rfl; assumption; rfl)))
    refine WL.call rfl rfl rfl (Named_ok w4 (txA st.1)) ?_
    rintro _ w5 ⟨rfl, e5⟩
    (repeat (first | (apply WL.pure; rfl; rfl; rfl) | (apply WL.nil)))
    refine EX.cutE ⟨rfl, rfl, rfl, ?_, trivial⟩ e5
    refine congrArg (fun b => some (Value.bool b)) ?_
    have : namedB (txA st.1) = namedL st.1 := by unfold namedB; rw [txA_list]
    rw [this, Bool.eq_iff_iff]
    simp [h4, h5]
  rintro w5 e5
  have hr5 := hr4.ext e5
  have hb45 := hb44.ext e5
  have hb2 := hb2.ext e5
  have hG := grown_tr hG (e5.grw _)
  clear hr4 hb44
  have hw : wordR nms s.length st = if idxB nms st.1 < 0 ∨ idxB nms st.1 ≥ 63 ∨ namedL st.1 = false then .er 4 (atT s.length st) else .ok (.mk 3 (idxB nms st.1) []) (nxT st.2) := by
    unfold wordR
    rw [if_neg h1, if_neg h2, if_neg h3]
  rw [hw]
  refine CW.cond rfl (fun h => ?_) (fun h => ?_)
  · rw [if_pos (of_decide_eq_true h)]
    (repeat (apply CW.seq))
    have l5 : w0.heap.size ≤ w5.heap.size := by have := hb45.lt; omega
    have hD := Ext.drew w5
    have hrd := hr5.ext hD
    have hGd := grown_tr hG (hD.grw _)
    have hSd : SenH (drew w5) sa := hSn.kept hGd (fun b e => by cases e; exact Nat.le_refl _) hBn
    have hbd := hb2.ext hD
    refine CW.drawH (fun z : World => Blk z rb 125 [tV s, .slice no nms.length nc, tV st.1, .int .i64 (atT s.length st : Int), .int .i64 ((s.length - st.2.length : Nat) : Int), .int .i64 (o : Int)] ∧ z.cell? ⟨3, 0, none⟩ = some (.iface 205 (.pointer (some (sa 2))))) [(0, true), (1, true), (2, true), (3, true), (4, true), (5, true), (6, false), (7, false), (8, true)] mixed (by kernel_rfl) ⟨hrd.blk, hSd.g2⟩ ?_
    refine HL.build (parts := []) rfl rfl rfl rfl rfl ?_
    refine HL.ldG (fun z hz => hz.2) rfl rfl rfl rfl ?_
    (repeat (first | (apply HL.pure; rfl; rfl; rfl; rfl) | (refine HL.fa rfl rfl rfl rfl ?_) | (apply HL.nck; rfl; rfl; rfl; rfl)))
    refine HL.ldS (fun z hz => hz.1) rfl rfl rfl rfl rfl ?_
    refine HL.mut rfl (WL.call rfl rfl rfl (lfault_ok (drew w5) hSd (i := 2) (by omega) (atT s.length st)) ?_)
    rintro e w6 ⟨hF, e6⟩
    have hr6 := hrd.ext e6
    have hb6 := hbd.ext e6
    have hG := grown_tr hGd (e6.grw _)
    refine WL.nil (EX.mut ⟨hr6.blk, (hSn.kept hG (fun b e => by cases e; exact Nat.le_refl _) hBn).g2⟩ ?_)
    refine HL.mut rfl (WL.st rfl rfl rfl hb6 rfl rfl (ones_of rfl) (fun w7 hb7 hg7 => ?_))
    have hr7 := hr6.kept hg7 (fun b e => by cases e; omega)
    have hG7 := grown_new hG hg7 (Nat.le_refl _)
    refine WL.nil (EX.mut ⟨hr7.blk, (hSn.kept hG7 (fun b e => by cases e; exact Nat.le_refl _) hBn).g2⟩ ?_)
    (repeat (first | (apply HL.pure; rfl; rfl; rfl; rfl) | (apply HL.nil)))
    (repeat (first | (apply EX.thenN) | (apply CW.ret) | (apply EX.thenR) | (apply EX.inR)))
    exact EX.retC2 rfl rfl rfl hb7 rfl ⟨⟨_, _, _, st, rfl, GL.zero 0 0, hr7, .inr ⟨_, _, rfl, (hF.low (l5)).stT hg7 hb6 (by decide)⟩⟩, hG7⟩
  · rw [if_neg (of_decide_eq_false h)]
    (repeat (first | (apply WL.pure; rfl; rfl; rfl) | (apply EX.thenN) | (apply CW.seq) | (apply CW.region) | (apply EX.inN) | (apply CW.skip)))
    refine WL.call rfl rfl rfl (lnext_ok w5 hr5 hs) ?_
    rintro _ w6 ⟨hr6, hg6⟩
    have hb2 := hb2.kept hg6 (fun e => by have := Option.some.inj e; omega)
    have hb46 := hb45.kept hg6 (fun e => by have := Option.some.inj e; omega)
    have hG := grown_tr hG hg6
    (repeat (first | (apply WL.nil) | (apply EX.thenN) | (apply CW.seq) | (apply CW.region) | (apply WL.ldA; rfl; rfl; rfl; assumption; rfl)))
    refine WL.st rfl rfl rfl hb2 rfl rfl (ones_of rfl) (fun w7 hb27 hg7 => ?_)
    (repeat (first | (apply WL.pure; rfl; rfl; rfl) | (apply WL.nil) | (apply EX.thenN) | (apply CW.ret)))
    refine EX.retC2 rfl rfl rfl hb27 rfl ⟨?_, grown_new hG hg7 (Nat.le_refl _)⟩
    exact ⟨_, _, _, _, rfl, GL.zero 3 _, hr6.kept hg7 (fun b e => by cases e; omega), .inl ⟨rfl, rfl⟩⟩
end Go.Proofs.YtikigaeihdmcaaaGreatDoor

/-
  ltl.Parse, walked: rows of ands.
-/
set_option linter.unusedVariables false
set_option linter.unusedSimpArgs false
namespace Go.Proofs.YtikigaeihdmcaaaGreatDoor
open Go.RowKit

/-- what single does, up to a fuel -/
def WayOK (sa : Nat → Addr) (rb : Nat) (s : Bys) (no : Option Addr) (nc : Nat) (nms : List ByteArray) (n : Nat) : Prop := ∀ m, m ≤ n → ∀ (o : Nat) (st : Bys × Bys) (w : World), Rdr 125 w rb s no nc nms o st → SenH w sa → o ≤ 20 → 10 * mT st + 2 ≤ m →
  Rt Tryz.prog 114 [.pointer (some ⟨rb, 0, none⟩)].toArray w fun v w' => PRl 125 rb s no nc nms o w.heap.size (pWay nms s.length m o st) v w' ∧ w.grownBy w' (some rb)
def ForL (sa : Nat → Addr) (rb : Nat) (s : Bys) (no : Option Addr) (nc : Nat) (nms : List ByteArray) (n : Nat) : Prop := ∀ m, m ≤ n → ∀ (o : Nat) (st : Bys × Bys) (w : World), Rdr 125 w rb s no nc nms o st → SenH w sa → o ≤ 20 → 10 * mT st + 8 ≤ m →
  Rt Tryz.prog 80 [.pointer (some ⟨rb, 0, none⟩)].toArray w fun v w' => PRl 125 rb s no nc nms o w.heap.size (pFor nms s.length m o [] st) v w' ∧ w.grownBy w' (some rb)
theorem part_way {rb : Nat} {s : Bys} {no : Option Addr} {nc : Nat} {nms : List ByteArray} {n o : Nat} {sa : Nat → Addr} (ho : o ≤ 20) (hS : WayOK sa rb s no nc nms n) : PartL rb s no nc nms o sa (.func (.func 114) [.pointer (some ⟨rb, 0, none⟩)].toArray [].toArray) (ll false) (fun m st => pPart nms s.length m false o st) (n + 1) := by
  intro m hm st w hr hsn hc
  simp only [ll] at hc
  obtain ⟨m, rfl⟩ : ∃ k, m = k + 1 := ⟨m - 1, by omega⟩
  refine FnV.mkM ?_
  have := hS m (by omega) o st w hr hsn ho (by omega)
  simpa [pPart] using this
theorem land_ok {rb : Nat} {s : Bys} {no : Option Addr} {nc : Nat} {nms : List ByteArray} {n o : Nat} {st : Bys × Bys} (w0 : World) (hr : Rdr 125 w0 rb s no nc nms o st) (hs : s.length ≤ 300) {sa : Nat → Addr} (hSn : SenH w0 sa) (hBn : 3 < rb ∧ ∀ i, i < 3 → (sa i).block < rb) (ho : o ≤ 20) (hS : WayOK sa rb s no nc nms n) (hn : 10 * mT st + 3 ≤ n + 1) :
    Rt Tryz.prog 94 [.pointer (some ⟨rb, 0, none⟩)].toArray w0 fun v w' => PRl 125 rb s no nc nms o w0.heap.size (pRow nms s.length (n + 2) false o st) v w' ∧ w0.grownBy w' (some rb) := by
  have hrl := hr.lt
  refine Rt.enter1 Tryz.func94 Tryz.ntmps94 rfl rfl ?_
  (repeat (first | (apply CW.seq) | (apply CW.region)))
  refine WL.alloc rfl rfl (fun w1 hb2 e1 => ?_)
  have l2 := hb2.lt
  have hr1 := hr.ext e1
  (repeat (first | (apply WL.pure; rfl; rfl; rfl) | (apply WL.nil) | (apply EX.thenN) | (apply CW.seq) | (apply CW.region) | (apply WL.makeFunc; rfl; rfl; rfl; rfl)))
  refine WL.call rfl rfl rfl (lrow_ok false (n + 1) w1 hr1 hs (hSn.kept (e1.grw none) (fun b e => by cases e) hBn) hBn (part_way ho hS) (by simp only [ll]; omega)) ?_
  rintro _ w2 ⟨⟨x, e, t, st1, rfl, hx, hr2, hE2⟩, hg2⟩
  have hb2 := hb2.kept hg2 (fun e => by have := Option.some.inj e; omega)
  have hG := grown_tr (e1.grw (some rb)) hg2
  have hx : GX w0.heap.size [w0.heap.size] w2 x t := GX.of hx (Nat.le_of_lt l2) (fun r hr => by rw [List.mem_singleton.1 hr]; exact l2)
  have hE2 := hE2.low (B' := w0.heap.size) (Nat.le_of_lt l2)
  obtain ⟨uo, uc, rfl, hk⟩ := Rd.ltl hx
  (repeat (apply WL.pure; rfl; rfl; rfl))
  refine WL.st rfl rfl rfl hb2 rfl rfl (ones_of rfl) (fun w3 hb3 hg3 => ?_)
  (repeat (first | (apply WL.pure; rfl; rfl; rfl) | (apply WL.nil) | (apply EX.thenN) | (apply CW.ret)))
  exact EX.retC2 rfl rfl rfl hb3 rfl ⟨⟨_, _, t, st1, rfl, (hx.st hg3 (.inr (by simp))).gl, hr2.kept hg3 (fun b e => by cases e; omega), hE2.stT hg3 hb2 (by decide)⟩, grown_new hG hg3 (Nat.le_refl _)⟩
theorem part_land {rb : Nat} {s : Bys} {no : Option Addr} {nc : Nat} {nms : List ByteArray} {n o : Nat} {sa : Nat → Addr} (hBn : 3 < rb ∧ ∀ i, i < 3 → (sa i).block < rb) (hs : s.length ≤ 300) (ho : o ≤ 20) (hS : WayOK sa rb s no nc nms n) : PartL rb s no nc nms o sa (.func (.func 94) [.pointer (some ⟨rb, 0, none⟩)].toArray [].toArray) (ll true) (fun m st => pPart nms s.length m true o st) (n + 3) := by
  intro m hm st w hr hsn hc
  simp only [ll] at hc
  obtain ⟨m, rfl⟩ : ∃ k, m = k + 3 := ⟨m - 3, by omega⟩
  refine FnV.mkM ?_
  have := land_ok (n := m) w hr hs hsn hBn ho (fun m' hm' => hS m' (by omega)) (by omega)
  simpa [pPart] using this
end Go.Proofs.YtikigaeihdmcaaaGreatDoor

/-
  ltl.Parse, walked: formulas.
-/
set_option linter.unusedVariables false
set_option linter.unusedSimpArgs false
namespace Go.Proofs.YtikigaeihdmcaaaGreatDoor
open Go.RowKit

set_option maxHeartbeats 2000000 in
theorem lformula_ok {rb : Nat} {s : Bys} {no : Option Addr} {nc : Nat} {nms : List ByteArray} {n o : Nat} {st : Bys × Bys} (w0 : World) (hr : Rdr 125 w0 rb s no nc nms o st) (hs : s.length ≤ 300) {sa : Nat → Addr} (hSn : SenH w0 sa) (hBn : 3 < rb ∧ ∀ i, i < 3 → (sa i).block < rb) (ho : o ≤ 20) (hS : WayOK sa rb s no nc nms n) (m0 : Nat) (hm0 : m0 ≤ n + 1) (hn : 10 * mT st + 8 ≤ m0) :
    Rt Tryz.prog 80 [.pointer (some ⟨rb, 0, none⟩)].toArray w0 fun v w' => PRl 125 rb s no nc nms o w0.heap.size (pFor nms s.length m0 o [] st) v w' ∧ w0.grownBy w' (some rb) := by
  have hrl := hr.lt
  have hst : mT st ≤ 300 := by have := hr.len; unfold mT; omega
  refine Rt.enter1 Tryz.func80 Tryz.ntmps80 rfl rfl ?_
  (repeat (first | (apply CW.seq) | (apply CW.region)))
  refine WL.alloc rfl rfl (fun w1 hb2 e1 => ?_)
  have l2 := hb2.lt
  have hr1 := hr.ext e1
  have hG := e1.grw (some rb)
  generalize hR : pFor nms s.length m0 o [] st = R
  generalize hB2 : w0.heap.size = b2 at *
  (repeat (first | (apply WL.pure; rfl; rfl; rfl) | (apply WL.nil) | (apply EX.thenN) | (apply CW.seq) | (apply CW.region) | (apply CW.block)))
  refine CW.loop (S := Nat × List Ltl × (Bys × Bys) × Value) (fun p => [(0, .pointer (some ⟨rb, 0, none⟩)), (2, .pointer (some ⟨b2, 0, none⟩)), (4, p.2.2.2)])
    (fun p w => w0.grownBy w (some rb) ∧ Blk w b2 28 [.int .i64 0, .int .i64 0, .slice none 0 0] ∧ Rdr 125 w rb s no nc nms o p.2.2.1 ∧ R = pFor nms s.length p.1 o p.2.1 p.2.2.1 ∧ 10 * mT p.2.2.1 + 8 ≤ p.1 ∧ p.1 ≤ m0 ∧ p.2.1.length + mT p.2.2.1 ≤ 300 ∧
      ∃ F : Nat → Prop, (∀ b, F b → b2 < b ∧ b < w.heap.size) ∧ Own w (b2 + 1) 28 F p.2.2.2 p.2.1)
    (fun p => mT p.2.2.1) (m0, [], st, .slice none 0 0) (by repeat (first | exact trivial | refine ⟨rfl, ?_⟩)) ⟨hG, hb2, hr1, hR.symm, hn, Nat.le_refl _, by simpa using hst, Non, fun _ h => h.elim, Own.nil⟩ ?_
  clear hb2 hr1 hG hr l2 e1 hR
  rintro ⟨m, left, st, lv⟩ w2 ⟨hG, hb2, hr2, hR, hm, hmm, hlen, F, hF, hO⟩
  dsimp only at hG hb2 hr2 hR hm hmm hlen hO ⊢
  have l2 := hb2.lt
  have hrb2 : rb < b2 := by omega
  have hsz2 : b2 ≤ w2.heap.size := by omega
  obtain ⟨k, rfl⟩ : ∃ k, m = k + 5 := ⟨m - 5, by omega⟩
  rw [pFor] at hR
  have hlo : ∀ g, lv.ownBlock = some g → b2 < g ∧ g < w2.heap.size := fun g hg => by have := hO.lt g hg; omega
  (repeat (first | (apply WL.pure; rfl; rfl; rfl) | (apply CW.seq) | (apply CW.region) | (apply WL.makeFunc; rfl; rfl; rfl; rfl) | (apply CW.block)))
  refine WL.call rfl rfl rfl (lrow_ok true (k + 3) w2 hr2 hs (hSn.kept hG (fun b e => by cases e; exact Nat.le_refl _) hBn) hBn (part_land hBn hs ho (fun j hj => hS j (by omega))) (by simp only [ll]; omega)) ?_
  rintro _ w3 ⟨⟨x, e, t, st1, rfl, hx, hr3, hE3⟩, hg3⟩
  have hmr : ∀ f st', pRow nms s.length (k + 4) true o st = .ok f st' → mT st' ≤ mT st := fun f st' h => (l_mono nms s.length (k + 4)).2.1 _ _ _ _ _ h
  have hE3 : ErL w3 b2 (pRow nms s.length (k + 4) true o st) e t st1 := hE3.low hsz2
  generalize pRow nms s.length (k + 4) true o st = r1 at *
  have hb2 := hb2.kept hg3 (fun e => by have := Option.some.inj e; omega)
  have hO := hO.kept hg3 (fun g hg e => by have := Option.some.inj e; have := hlo g hg; omega) (fun b hb => ⟨(hF b hb).2, fun e => by have := Option.some.inj e; have := hF b hb; omega⟩)
  have hG := grown_tr hG hg3
  have z3 := hg3.size
  have hx : Rd w3 (fun b => w2.heap.size ≤ b ∧ b < w3.heap.size) x t := hx
  obtain ⟨uo, uc, rfl, hk⟩ := Rd.ltl hx
  (repeat (apply WL.pure; rfl; rfl; rfl))
  refine WL.alloc rfl rfl (fun w4 hb5 e4 => ?_)
  have l5 := hb5.lt
  have hx := hx.up0 e4 (fun b hb => hb.2)
  have hb2 := hb2.ext e4
  have hr4 := hr3.ext e4
  have hE4 := hE3.ext e4
  have hO := hO.ext e4 (fun b hb => by have := hF b hb; omega)
  have hG := grown_tr hG (e4.grw (some rb))
  have h25 : w2.heap.size ≤ w3.heap.size := z3
  have z4 := e4.size
  clear hr3 hE3 hr2 hg3 hk
  generalize hB5 : w3.heap.size = b5 at *
  skip
  refine WL.st rfl rfl rfl hb5 rfl rfl (ones_of rfl) (fun w5 hb55 hg5 => ?_)
  have hx := hx.kept hg5 (fun b hb => ⟨by omega, fun e => by have := Option.some.inj e; omega⟩)
  have hb2 := hb2.kept hg5 (fun e => by have := Option.some.inj e; omega)
  have hr5 := hr4.kept hg5 (fun b e => by cases e; omega)
  have hE5 := hE4.stT hg5 hb5 (by decide)
  have hO := hO.kept hg5 (fun g hg e => by have := Option.some.inj e; have := hlo g hg; omega) (fun b hb => ⟨by have := hF b hb; omega, fun e => by have := Option.some.inj e; have := hF b hb; omega⟩)
  have hG := grown_new hG hg5 (by omega)
  have z5 := hg5.size
  have hx5 : GX b2 [b5, b2] w5 (ltlV t.k t.n uo t.kids.length uc) t := hx.wk (fun b hb => ⟨by omega, by omega, fun hm => by
    simp only [List.mem_cons, List.not_mem_nil, or_false] at hm
    rcases hm with rfl | rfl <;> omega⟩)
  have hH := HF.of hb55 hx5
  clear hb5 hg5 hr4 hE4
  have he := hE5.err
  (repeat (first | (apply WL.pure; rfl; rfl; rfl) | (apply WL.nil) | (apply EX.thenN) | (apply CW.seq) | (apply CW.region)))
  refine WL.neNil rfl rfl rfl he ?_
  rcases hE5 with ⟨rfl, rfl⟩ | ⟨c, a, rfl, hFl⟩
  rotate_left
  · rw [hFl.err.2]
    dsimp only at hR
    subst hR
    (repeat (first | (apply WL.pure; rfl; rfl; rfl) | (apply WL.nil) | (apply EX.thenN) | (apply CW.seq) | (apply CW.region) | (apply WL.ldA; rfl; rfl; rfl; assumption; rfl) | (apply CW.condT; rfl)))
    refine WL.st rfl rfl rfl hb2 rfl rfl (ones_of rfl) (fun w8 hb8 hg8 => ?_)
    (repeat (first | (apply WL.pure; rfl; rfl; rfl) | (apply WL.nil) | (apply EX.thenN) | (apply CW.ret) | (apply EX.thenR) | (apply EX.inR)))
    exact EX.retC2 rfl rfl rfl hb8 rfl ⟨⟨_, _, t, st1, rfl, (hx5.st hg8 (.inr (by simp))).gl, hr5.kept hg8 (fun b e => by cases e; omega), .inr ⟨_, _, rfl, hFl.stT hg8 hb2 (by decide)⟩⟩, grown_new hG hg8 (by omega)⟩
  rw [show (!nilI Value.nilIface) = false from rfl]
  dsimp only at hR
  have hmr := hmr _ _ rfl
  clear hH hx5
  (repeat (first | (apply WL.pure; rfl; rfl; rfl) | (apply WL.nil) | (apply EX.thenN) | (apply CW.seq) | (apply CW.region) | (apply CW.condF; rfl) | (apply CW.skip)))
  refine WL.call rfl rfl rfl (ltake_ok w5 hr5 hs [45, 62]) ?_
  rintro _ w6 ⟨rfl, hr6, hg6⟩
  have hx := hx.kept hg6 (fun b hb => ⟨by omega, fun e => by have := Option.some.inj e; omega⟩)
  have hb2 := hb2.kept hg6 (fun e => by have := Option.some.inj e; omega)
  have hb5 := hb55.kept hg6 (fun e => by have := Option.some.inj e; omega)
  have hO := hO.kept hg6 (fun g hg e => by have := Option.some.inj e; have := hlo g hg; omega) (fun b hb => ⟨by have := hF b hb; omega, fun e => by have := Option.some.inj e; have := hF b hb; omega⟩)
  have hG := grown_tr hG hg6
  have z6 := hg6.size
  clear hb55 hg6 hr5
  (repeat (first | (apply WL.pure; rfl; rfl; rfl) | (apply WL.nil) | (apply EX.thenN)))
  refine CW.cond rfl (fun h => ?_) (fun h => ?_)
  · have h : ¬ st1.1 = [45, 62] := by simpa using h
    rw [if_neg h] at hr6 hR
    subst hR
    obtain ⟨lo, lc, rfl⟩ := hO.val
    obtain ⟨lo', lc', he', hsl⟩ := hO.sl
    obtain ⟨rfl, _, rfl⟩ := Value.slice.inj he'
    have hFO : ∀ b, (F b ∨ (Value.slice lo left.length lc).ownBlock = some b) → b2 < b ∧ b < b5 := fun b hb => by
      rcases hb with hb | hb
      · have := hF b hb; omega
      · have := hlo b hb; omega
    have hH : HF 28 w6 b5 b2 [b5, b2] (arrows (left.drop left.length) t) := by
      rw [List.drop_length]
      exact HF.of hb5 (hx.wk (fun b hb => ⟨by omega, by omega, fun hm => by
        simp only [List.mem_cons, List.not_mem_nil, or_false] at hm
        rcases hm with rfl | rfl <;> omega⟩))
    clear hx hb5
    (repeat (first | (apply WL.sub'; rfl; rfl; rfl; rfl; omega; omega) | (apply WL.pure; rfl; rfl; rfl) | (apply WL.nil) | (apply EX.thenN) | (apply CW.seq) | (apply CW.region) | (apply WL.lenS; rfl; rfl; rfl) | (apply CW.block)))
    have hll : left.length ≤ 300 := by omega
    refine CW.loop (S := Nat) (fun j => [(0, .pointer (some ⟨rb, 0, none⟩)), (2, .pointer (some ⟨b2, 0, none⟩)), (4, .slice lo left.length lc), (5, .pointer (some ⟨b5, 0, none⟩)), (7, .int .i64 ((j : Int) - 1))])
      (fun j w => j ≤ left.length ∧ w0.grownBy w (some rb) ∧ Blk w b2 28 [.int .i64 0, .int .i64 0, .slice none 0 0] ∧ Rdr 125 w rb s no nc nms o st1 ∧ HF 28 w b5 b2 [b5, b2] (arrows (left.drop j) t) ∧
        Sl w (fun b => F b ∨ (Value.slice lo left.length lc).ownBlock = some b) lo lc left)
      (fun j => j) left.length (by repeat (first | exact trivial | refine ⟨rfl, ?_⟩)) ⟨Nat.le_refl _, hG, hb2, hr6, hH, hsl⟩ ?_
    clear hG hb2 hr6 hH hsl hO
    rintro j w7 ⟨hj, hG, hb2, hr7, hH, hsl⟩
    have l57 := hH.lt
    obtain ⟨vo, vc, hb5, hy⟩ := hH.gx
    (repeat (first | (apply WL.pure; rfl; rfl; rfl) | (apply WL.nil) | (apply EX.thenN) | (apply CW.seq) | (apply CW.region)))
    refine CW.cond rfl (fun h => ?_) (fun h => ?_)
    · have hj1 : 1 ≤ j := by have : (0 : Int) ≤ (j : Int) - 1 := by simpa using h
                             omega
      obtain ⟨i, rfl⟩ : ∃ i, j = i + 1 := ⟨j - 1, by omega⟩
      have hi : i < left.length := by omega
      have hD := Ext.drew w7
      have hb2 := hb2.ext hD
      have hb5d := hb5.ext hD
      have hr8 := hr7.ext hD
      have hyd := hy.ext hD
      have hsld := hsl.up0 hD (fun b hb => by have := hFO b hb; omega)
      have hG := grown_tr hG (hD.grw (some rb))
      have l57d : b5 < (drew w7).heap.size := hb5d.lt
      obtain ⟨kb, koff, rfl, hFk, es, hcl, hrd⟩ := hsld.el i hi
      have hkb := hFO kb hFk
      have hli : ∀ w, Ext (drew w7) w → Cells w kb (koff + i * sz Ltl) es ∧ rd w (fun b => F b ∨ (Value.slice (some ⟨kb, koff, none⟩) left.length lc).ownBlock = some b) es left[i] := fun w hw =>
        ⟨hcl.mono (hw.block kb (by omega)), Rep.mono hrd (fun b hb => hw.block b (by have := hFO b hb; omega)) fun _ h => h⟩
      clear hb5 hr7 hy hsl hH
      (repeat (first | (apply EX.thenN) | (apply CW.seq) | (apply CW.block) | (apply CW.skip)))
      refine CW.drawM 7 mixed (by kernel_rfl) ?_
      (repeat (refine ML.q rfl rfl rfl (fun γ' w' hw' => WL.pure rfl rfl rfl (WL.nil (EX.mm rfl (Ext.refl _) rfl))) ?_))
      refine ML.q rfl rfl rfl (fun γ w hw => WL.idx (α := Ltl) rfl rfl rfl rfl (by omega) (by omega) (WL.nil (EX.mm rfl (Ext.refl _) rfl))) ?_
      refine ML.q rfl rfl rfl (fun γ w hw => WL.load (α := Ltl) rfl rfl rfl (by rw [show ((((i + 1 : Nat) : Int) - 1).toNat) = i by omega]; exact (hli w hw).1) (hli w hw).2 (WL.nil (EX.mm rfl (Ext.refl _) rfl))) ?_
      refine ML.fc (fun v γ w => GX b2 [b5, b2] w v (.mk 4 0 [left[i]])) rfl rfl rfl (fun v γ γ' w w' h e _ => h.ext e) (fun γ w hw => WL.call rfl rfl rfl (lone_ok w (F := GXs b2 [b5, b2] w) (fun b hb => hb.2.1) 4 (show Rd w _ (vOf Ltl es) left[i] from ⟨es, rfl, Rep.mono (hli w hw).2 (fun _ _ => rfl) (fun b hb => ⟨by have := hFO b hb; omega, by have := hFO b hb; have := hw.size; omega, fun hm => by
        simp only [List.mem_cons, List.not_mem_nil, or_false] at hm
        have := hFO b hb
        rcases hm with rfl | rfl <;> omega⟩)⟩)) (fun v w' h => WL.nil (EX.mm rfl h.2 (GX.plus h.1 h.2 (by have := hw.size; omega) (fun r hr => by
        simp only [List.mem_cons, List.not_mem_nil, or_false] at hr
        have := hw.size
        rcases hr with rfl | rfl <;> omega))))) ?_
      (repeat (apply ML.q; rfl; rfl; rfl; (intro γ' w' hw'; apply WL.ldA; rfl; rfl; rfl; apply Blk.ext; assumption; exact hw'; rfl; exact WL.nil (EX.mm rfl (Ext.refl _) rfl))))
      refine ML.fc (fun v γ w => GX b2 [b5, b2] w v (.mk 6 0 [.mk 4 0 [left[i]], arrows (left.drop (i + 1)) t])) rfl rfl rfl (fun v γ γ' w w' h e _ => h.ext e) (fun γ w hw v33 g33 => WL.call rfl rfl rfl (ltwo_ok w (F := GXs b2 [b5, b2] w) (fun b hb => hb.2.1) 6 g33 (hyd.ext hw)) (fun v w' h => WL.nil (EX.mm rfl h.2 (GX.plus h.1 h.2 (by have := hw.size; omega) (fun r hr => by
        simp only [List.mem_cons, List.not_mem_nil, or_false] at hr
        have := hw.size
        rcases hr with rfl | rfl <;> omega))))) ?_
      refine ML.nil fun γ w8 hw8 v35 g35 v33 g33 => ?_
      change WL _ _ _ _ _ _ _
      obtain ⟨uo, uc, rfl, hku⟩ := Rd.ltl g35
      have hb5 := hb5d.ext hw8
      refine WL.st rfl rfl rfl hb5 rfl rfl (ones_of rfl) (fun w9 hb59 hg9 => WL.nil (EX.tailE ?_))
      have z8 := hw8.size
      have g35 := g35.st hg9 (.inr (List.mem_cons_self ..))
      (repeat (first | (apply WL.sub'; rfl; rfl; rfl; rfl; omega; omega) | (apply WL.pure; rfl; rfl; rfl) | (apply WL.nil) | (apply EX.thenN) | (apply CW.region) | (apply EX.inN)))
      rw [show (((i + 1 : Nat) : Int) - 1 - 1) = (i : Int) - 1 by omega]
      refine EX.back i (by repeat (first | exact trivial | refine ⟨rfl, ?_⟩)) ⟨by omega, grown_new (grown_tr hG (hw8.grw _)) hg9 (by omega), (hb2.ext hw8).kept hg9 (fun e => by have := Option.some.inj e; omega), (hr8.ext hw8).kept hg9 (fun b e => by cases e; omega), ?_, ?_⟩ (by omega)
      · rw [arrows_drop hi]
        exact HF.of hb59 g35
      · exact (hsld.up0 hw8 (fun b hb => by have := hFO b hb; omega)).mono (fun b hb => hg9.block b (by have := hFO b hb; omega) (fun e => by have := Option.some.inj e; have := hFO b hb; omega)) fun _ h => h
    · obtain rfl : j = 0 := by have : ¬ (0 : Int) ≤ (j : Int) - 1 := by simpa using h
                               omega
      rw [List.drop_zero] at hy hb5 hH
      (repeat (first | (apply EX.thenN) | (apply CW.seq) | (apply CW.region) | (apply WL.ldA; rfl; rfl; rfl; assumption; rfl) | (apply CW.exit) | (apply EX.thenX) | (apply EX.inX)))
      refine WL.st rfl rfl rfl hb2 rfl rfl (ones_of rfl) (fun w8 hb8 hg8 => ?_)
      (repeat (first | (apply WL.pure; rfl; rfl; rfl) | (apply WL.nil) | (apply EX.thenN) | (apply CW.ret) | (apply EX.thenR) | (apply EX.inR)))
      exact EX.retC2 rfl rfl rfl hb8 rfl ⟨⟨_, _, _, st1, rfl, (hy.st hg8 (.inr (by simp))).gl, hr7.kept hg8 (fun b e => by cases e; omega), .inl ⟨rfl, rfl⟩⟩, grown_new hG hg8 (by omega)⟩
  · have h : st1.1 = [45, 62] := by simpa using h
    rw [if_pos h] at hr6 hR
    have hm1 := mT_nx1 (st := st1) (by rw [h]; decide)
    have hO : Own w6 (b2 + 1) 28 (fun b => F b ∨ (w2.heap.size ≤ b ∧ b < b5)) lv left := hO.wk (fun b hb => .inl hb) (fun g hg hh => by
      rcases hh with hh | hh
      · exact (hO.lt g hg).2.2 hh
      · have := hlo g hg; omega)
    (repeat (first | (apply WL.pure; rfl; rfl; rfl) | (apply EX.thenN) | (apply CW.region) | (apply WL.ldA; rfl; rfl; rfl; assumption; rfl) | (apply CW.skip)))
    refine WL.app1 (α := Ltl) (F := fun b => F b ∨ (w2.heap.size ≤ b ∧ b < b5)) rfl rfl (fun _ => rfl) rfl rfl (fun _ => rfl) hO (hx.wk (fun b hb => .inr hb)) (by omega) (fun b hb => by
      rcases hb with hb | hb
      · have := hF b hb; omega
      · omega) (by decide) (by unfold maxLen; omega) (by omega) (fun v' w7 p hO7 hg7 hv7 => ?_)
    have z7 := hg7.size
    (repeat (first | (apply WL.pure; rfl; rfl; rfl) | (apply WL.nil) | (apply EX.inN)))
    refine EX.back (k + 4, left ++ [t], nxT st1.2, v') (by repeat (first | exact trivial | refine ⟨rfl, ?_⟩)) ⟨grown_row hG hg7 (fun g hg => by have := hlo g hg; omega), hb2.kept hg7 (fun e => by have := hlo b2 e.symm; omega), hr6.kept hg7 (fun g hg => by have := hlo g hg; omega), hR, ?_, ?_, ?_, _, ?_, hO7⟩ ?_
    · dsimp only; omega
    · dsimp only; omega
    · dsimp only; rw [List.length_append]; simp only [List.length_cons, List.length_nil]; omega
    · intro b hb
      rcases hb with hb | hb
      · have := hF b hb; omega
      · omega
    · dsimp only; omega
end Go.Proofs.YtikigaeihdmcaaaGreatDoor

/-
  ltl.Parse, walked: one part.
-/
set_option linter.unusedVariables false
set_option linter.unusedSimpArgs false
namespace Go.Proofs.YtikigaeihdmcaaaGreatDoor
open Go.RowKit

theorem lprefix_ok (w0 : World) (x : Bys) : Rt Tryz.prog 132 [tV x].toArray w0 fun v w' => v = .int .i64 (preK x) ∧ w0 = w' := by
  refine Rt.enter1 Tryz.func132 Tryz.ntmps132 rfl rfl ?_
  unfold preK
  (repeat (first | (apply WL.pure; rfl; rfl; rfl) | (apply WL.nil) | (apply EX.thenN) | (apply CW.seq) | (apply CW.region) | (apply CW.block)))
  rw [txA_eqd]
  refine CW.cond rfl (fun h => ?_) (fun h => ?_)
  · have h1 : x = [33] := of_decide_eq_true h
    subst h1
    (repeat (first | (apply WL.pure; rfl; rfl; rfl) | (apply WL.nil) | (apply EX.thenN) | (apply CW.seq) | (apply CW.region) | (apply CW.ret) | (apply EX.thenR) | (apply EX.inR)))
    exact EX.ret1 rfl rfl ⟨rfl, rfl⟩
  have n33 : ¬ x = [33] := of_decide_eq_false h
  rw [if_neg n33]
  clear h
  (repeat (first | (apply WL.pure; rfl; rfl; rfl) | (apply WL.nil) | (apply EX.thenN) | (apply CW.seq) | (apply CW.region)))
  rw [txA_eqd]
  refine CW.cond rfl (fun h => ?_) (fun h => ?_)
  · have h1 : x = [88] := of_decide_eq_true h
    subst h1
    (repeat (first | (apply WL.pure; rfl; rfl; rfl) | (apply WL.nil) | (apply EX.thenN) | (apply CW.seq) | (apply CW.region) | (apply CW.ret) | (apply EX.thenR) | (apply EX.inR)))
    exact EX.ret1 rfl rfl ⟨rfl, rfl⟩
  have n88 : ¬ x = [88] := of_decide_eq_false h
  rw [if_neg n88]
  clear h
  (repeat (first | (apply WL.pure; rfl; rfl; rfl) | (apply WL.nil) | (apply EX.thenN) | (apply CW.seq) | (apply CW.region)))
  rw [txA_eqd]
  refine CW.cond rfl (fun h => ?_) (fun h => ?_)
  · have h1 : x = [70] := of_decide_eq_true h
    subst h1
    (repeat (first | (apply WL.pure; rfl; rfl; rfl) | (apply WL.nil) | (apply EX.thenN) | (apply CW.seq) | (apply CW.region) | (apply CW.ret) | (apply EX.thenR) | (apply EX.inR)))
    exact EX.ret1 rfl rfl ⟨rfl, rfl⟩
  have n70 : ¬ x = [70] := of_decide_eq_false h
  rw [if_neg n70]
  clear h
  (repeat (first | (apply WL.pure; rfl; rfl; rfl) | (apply WL.nil) | (apply EX.thenN) | (apply CW.seq) | (apply CW.region)))
  rw [txA_eqd]
  refine CW.cond rfl (fun h => ?_) (fun h => ?_)
  · have h1 : x = [71] := of_decide_eq_true h
    subst h1
    (repeat (first | (apply WL.pure; rfl; rfl; rfl) | (apply WL.nil) | (apply EX.thenN) | (apply CW.seq) | (apply CW.region) | (apply CW.ret) | (apply EX.thenR) | (apply EX.inR)))
    exact EX.ret1 rfl rfl ⟨rfl, rfl⟩
  have n71 : ¬ x = [71] := of_decide_eq_false h
  rw [if_neg n71]
  clear h
  (repeat (first | (apply WL.pure; rfl; rfl; rfl) | (apply WL.nil) | (apply EX.thenN) | (apply CW.seq) | (apply CW.region) | (apply EX.inN) | (apply CW.ret) | (apply CW.skip)))
  exact EX.ret1 rfl rfl ⟨rfl, rfl⟩
def SinL (sa : Nat → Addr) (rb : Nat) (s : Bys) (no : Option Addr) (nc : Nat) (nms : List ByteArray) (n : Nat) : Prop := ∀ m, m ≤ n → ∀ (o : Nat) (st : Bys × Bys) (w : World), Rdr 125 w rb s no nc nms o st → SenH w sa → o ≤ 20 → 10 * mT st + 1 ≤ m →
  Rt Tryz.prog 122 [.pointer (some ⟨rb, 0, none⟩)].toArray w fun v w' => PRl 125 rb s no nc nms o w.heap.size (pSin nms s.length m o st) v w' ∧ w.grownBy w' (some rb)
set_option maxHeartbeats 2000000 in
theorem lsingle_ok {rb : Nat} {s : Bys} {no : Option Addr} {nc : Nat} {nms : List ByteArray} {n o : Nat} {st : Bys × Bys} (w0 : World) (hr : Rdr 125 w0 rb s no nc nms o st) (hs : s.length ≤ 300) {sa : Nat → Addr} (hSn : SenH w0 sa) (hBn : 3 < rb ∧ ∀ i, i < 3 → (sa i).block < rb) (ho : o ≤ 20) (hS : SinL sa rb s no nc nms n) (hF : ForL sa rb s no nc nms n) (hn : 10 * mT st + 1 ≤ n + 1) :
    Rt Tryz.prog 122 [.pointer (some ⟨rb, 0, none⟩)].toArray w0 fun v w' => PRl 125 rb s no nc nms o w0.heap.size (pSin nms s.length (n + 1) o st) v w' ∧ w0.grownBy w' (some rb) := by
  have hrl := hr.lt
  refine Rt.enter1 Tryz.func122 Tryz.ntmps122 rfl rfl ?_
  rw [pSin]
  (repeat (first | (apply CW.seq) | (apply CW.region)))
  refine WL.alloc rfl rfl (fun w2 hb2 e2 => ?_)
  have l2 := hb2.lt
  have hr2 := hr.ext e2
  have hrb := hr2.blk
  have hG := e2.grw (some rb)
  have hS2 : SenH w2 sa := hSn.kept hG (fun b e => by cases e; exact Nat.le_refl _) hBn
  have hXX : ∀ r ∈ [w0.heap.size], r < w2.heap.size := fun r hr => by rw [List.mem_singleton.1 hr]; exact l2
  clear hr
  (repeat (first | (apply WL.pure; rfl; rfl; rfl) | (apply WL.nil) | (apply EX.thenN) | (apply CW.seq) | (apply CW.region) | (apply WL.fa; rfl; rfl; rfl) | (apply WL.nck; rfl; rfl; rfl) | (apply WL.ld; rfl; rfl; rfl; assumption; rfl)))
  refine WL.call rfl rfl rfl (lprefix_ok w2 st.1) ?_
  rintro _ _ ⟨rfl, rfl⟩
  (repeat (first | (apply WL.pure; rfl; rfl; rfl) | (apply WL.nil) | (apply EX.thenN) | (apply CW.seq) | (apply CW.region)))
  refine CW.cond rfl (fun h => ?_) (fun h => ?_)
  · have h1 : 0 < preK st.1 := by have := of_decide_eq_true h; omega
    rw [if_pos h1]
    have hne : st.1 ≠ [] := fun e => by rw [e] at h1; exact absurd h1 (by decide)
    have hm1 := mT_nx1 hne
    (repeat (first | (apply WL.pure; rfl; rfl; rfl) | (apply CW.seq) | (apply CW.region) | (apply WL.makeFunc; rfl; rfl; rfl; rfl)))
    refine WL.call rfl rfl rfl (lwithin_ok w2 hr2 hs ho hS2 hBn (r := pSin nms s.length n (o + 1) (nxT st.2)) (fun ho' w hr hg => FnV.mkM (fs := [_]) (hS n (Nat.le_refl _) (o + 1) _ w hr (hS2.kept hg (fun b e => by cases e; exact Nat.le_refl _) hBn) (by omega) (by omega)))) ?_
    rintro _ w3 ⟨⟨x, e, t, st1, rfl, hx, hr3, hE3⟩, hg3⟩
    have hb2 := hb2.kept hg3 (fun e => by have := Option.some.inj e; omega)
    have hG := grown_tr hG hg3
    have hx : GX w0.heap.size [w0.heap.size] w3 x t := GX.of hx e2.size hXX
    have hE3 := hE3.low (B' := w0.heap.size) e2.size
    have z3 := hg3.size
    obtain ⟨uo, uc, rfl, hk⟩ := Rd.ltl hx
    (repeat (apply WL.pure; rfl; rfl; rfl))
    refine WL.alloc rfl rfl (fun w4 hb4 e4 => ?_)
    have hx := hx.add e4 (Nat.le_refl _)
    have hb2 := hb2.ext e4
    have hr4 := hr3.ext e4
    have hE4 := hE3.ext e4
    have hG := grown_tr hG (e4.grw (some rb))
    have h47 : w0.heap.size < w3.heap.size := by omega
    have l13 := hb4.lt
    generalize hB6 : w3.heap.size = b4 at *
    skip
    refine WL.st rfl rfl rfl hb4 rfl rfl (ones_of rfl) (fun w5 hb45 hg5 => ?_)
    have hx := hx.st hg5 (.inr (List.mem_cons_self ..))
    have hb2 := hb2.kept hg5 (fun e => by have := Option.some.inj e; omega)
    have hr5 := hr4.kept hg5 (fun b e => by cases e; omega)
    have hE5 := hE4.stT hg5 hb4 (by decide)
    have hG := grown_new hG hg5 (by omega)
    have z5 := hg5.size
    (repeat (first | (apply WL.pure; rfl; rfl; rfl) | (apply WL.nil) | (apply EX.thenN) | (apply CW.seq) | (apply CW.region) | (apply WL.ldA; rfl; rfl; rfl; assumption; rfl)))
    refine WL.call rfl rfl rfl (lone_ok w5 (F := GXs w0.heap.size [b4, w0.heap.size] w5) (fun b hb => hb.2.1) (preK st.1) hx) ?_
    rintro _ w11 ⟨hv, e11⟩
    have hv : GX w0.heap.size [b4, w0.heap.size] w11 _ (.mk (preK st.1) 0 [t]) := GX.plus hv e11 (by omega) (fun r hr => by
      simp only [List.mem_cons, List.not_mem_nil, or_false] at hr
      rcases hr with rfl | rfl <;> omega)
    obtain ⟨uo', uc', rfl, hk'⟩ := Rd.ltl hv
    have hb2 := hb2.ext e11
    have hr11 := hr5.ext e11
    have hE := hE5.ext e11
    have hG := grown_tr hG (e11.grw (some rb))
    (repeat (apply WL.pure; rfl; rfl; rfl))
    refine WL.st rfl rfl rfl hb2 rfl rfl (ones_of rfl) (fun w12 hb212 hg12 => ?_)
    (repeat (first | (apply WL.pure; rfl; rfl; rfl) | (apply WL.nil) | (apply EX.thenN) | (apply CW.ret) | (apply EX.thenR)))
    refine EX.retC2 rfl rfl rfl hb212 rfl ⟨⟨_, _, _, st1, rfl, (hv.st hg12 (.inr (by simp))).gl, hr11.kept hg12 (fun b e => by cases e; omega), ?_⟩, grown_new hG hg12 (Nat.le_refl _)⟩
    have hE := hE.stT hg12 hb2 (by decide)
    by_cases h20 : o = 20
    · rw [if_pos h20] at hE ⊢
      rcases hE with ⟨h1, h2⟩ | ⟨c, d, h1, h2⟩
      · cases h2
      · exact .inr ⟨c, d, h1, h2⟩
    · rw [if_neg h20] at hE ⊢
      rcases hE with ⟨h1, h2⟩ | ⟨c, d, h1, h2⟩
      · exact .inl ⟨h1, by rw [h2]⟩
      · exact .inr ⟨c, d, by rw [h1], h2⟩
  have n0 : ¬ 0 < preK st.1 := by have := of_decide_eq_false h; omega
  rw [if_neg n0]
  clear h
  (repeat (first | (apply WL.pure; rfl; rfl; rfl) | (apply WL.nil) | (apply EX.thenN) | (apply CW.seq) | (apply CW.region) | (apply WL.fa; rfl; rfl; rfl) | (apply WL.nck; rfl; rfl; rfl) | (apply WL.ld; rfl; rfl; rfl; assumption; rfl) | (apply CW.skip)))
  rw [txA_eqd]
  refine CW.cond rfl (fun h => ?_) (fun h => ?_)
  · have h1 : st.1 = [40] := of_decide_eq_true h
    rw [if_pos h1]
    have hm1 := mT_nx1 (st := st) (by rw [h1]; decide)
    (repeat (first | (apply WL.pure; rfl; rfl; rfl) | (apply CW.seq) | (apply CW.region) | (apply WL.makeFunc; rfl; rfl; rfl; rfl)))
    refine WL.call rfl rfl rfl (lwithin_ok w2 hr2 hs ho hS2 hBn (r := pFor nms s.length n (o + 1) [] (nxT st.2)) (fun ho' w hr hg => FnV.mkM (fs := [_]) (hF n (Nat.le_refl _) (o + 1) _ w hr (hS2.kept hg (fun b e => by cases e; exact Nat.le_refl _) hBn) (by omega) (by omega)))) ?_
    rintro _ w3 ⟨⟨x, e, t, st1, rfl, hx, hr3, hE3⟩, hg3⟩
    have hb2 := hb2.kept hg3 (fun e => by have := Option.some.inj e; omega)
    have hG := grown_tr hG hg3
    have hx : GX w0.heap.size [w0.heap.size] w3 x t := GX.of hx e2.size hXX
    have hE3 := hE3.low (B' := w0.heap.size) e2.size
    have z3 := hg3.size
    obtain ⟨uo, uc, rfl, hk⟩ := Rd.ltl hx
    (repeat (apply WL.pure; rfl; rfl; rfl))
    refine WL.alloc rfl rfl (fun w4 hb6 e4 => ?_)
    have hx := hx.add e4 (Nat.le_refl _)
    have hb2 := hb2.ext e4
    have hr4 := hr3.ext e4
    have hE4 := hE3.ext e4
    have hG := grown_tr hG (e4.grw (some rb))
    have h47 : w0.heap.size < w3.heap.size := by omega
    have l13 := hb6.lt
    generalize hB6 : w3.heap.size = b6 at *
    skip
    refine WL.st rfl rfl rfl hb6 rfl rfl (ones_of rfl) (fun w5 hb65 hg5 => ?_)
    have hx := hx.st hg5 (.inr (List.mem_cons_self ..))
    have hb2 := hb2.kept hg5 (fun e => by have := Option.some.inj e; omega)
    have hr5 := hr4.kept hg5 (fun b e => by cases e; omega)
    have hE5 := hE4.stT hg5 hb6 (by decide)
    have hG := grown_new hG hg5 (by omega)
    have hH := HF.of hb65 hx
    have l25 := hb2.lt
    have l65 := hb65.lt
    clear hr2 hrb hr3 hr4 hE3 hE4 hk hb6 hb65 hx
    have he := hE5.err
    (repeat (first | (apply WL.pure; rfl; rfl; rfl) | (apply WL.nil) | (apply EX.thenN)))
    refine CW.cutI (S := Value) (fun e => [(2, .pointer (some ⟨w0.heap.size, 0, none⟩)), (7, .pointer (some ⟨b6, 0, none⟩)), (8, e)])
      (fun e w => w0.grownBy w (some rb) ∧ Blk w w0.heap.size 28 [.int .i64 0, .int .i64 0, .slice none 0 0] ∧ HF 28 w b6 w0.heap.size [b6, w0.heap.size] t ∧
        ∃ st', Rdr 125 w rb s no nc nms o st' ∧ ErL w w0.heap.size (braC s.length (if o = 20 then .er 5 (atT s.length st) else pFor nms s.length n (o + 1) [] (nxT st.2))) e t st') ?_ ?_
    · generalize (if o = 20 then PR.er 5 (atT s.length st) else pFor nms s.length n (o + 1) [] (nxT st.2)) = r1 at *
      (repeat (first | (apply WL.pure; rfl; rfl; rfl) | (apply CW.seq) | (apply CW.region)))
      refine WL.eqNil rfl rfl rfl he ?_
      rcases hE5 with ⟨rfl, rfl⟩ | ⟨c, a, rfl, hF⟩
      · rw [show nilI Value.nilIface = true from rfl]
        (repeat (apply WL.pure; rfl; rfl; rfl))
        refine WL.call rfl rfl rfl (ltake_ok w5 hr5 hs [41]) ?_
        rintro _ w10 ⟨rfl, hr10, hg10⟩
        have hb2 := hb2.kept hg10 (fun e => by have := Option.some.inj e; omega)
        have hH := hH.st hg10 (.inl hrl) (by omega)
        have hG := grown_tr hG hg10
        have z10 := hg10.size
        dsimp only [braC]
        (repeat (first | (apply WL.pure; rfl; rfl; rfl) | (apply WL.nil) | (apply EX.thenN)))
        refine CW.cond rfl (fun h => ?_) (fun h => ?_)
        · have h : ¬ st1.1 = [41] := by simpa using h
          rw [if_neg h] at hr10 ⊢
          have hD := Ext.drew w10
          have hrd := hr10.ext hD
          have hGd := grown_tr hG (hD.grw _)
          have hSd : SenH (drew w10) sa := hSn.kept hGd (fun b e => by cases e; exact Nat.le_refl _) hBn
          skip
          refine CW.drawH (fun z : World => Blk z rb 125 [tV s, .slice no nms.length nc, tV st1.1, .int .i64 (atT s.length st1 : Int), .int .i64 ((s.length - st1.2.length : Nat) : Int), .int .i64 (o : Int)] ∧ z.cell? ⟨0, 0, none⟩ = some (.iface 205 (.pointer (some (sa 0))))) [(0, true), (1, true), (2, true), (3, true), (4, true), (5, false), (6, true)] mixed (by kernel_rfl) ⟨hrd.blk, hSd.g0⟩ ?_
          refine HL.ldG (fun z hz => hz.2) rfl rfl rfl rfl ?_
          (repeat (first | (apply HL.pure; rfl; rfl; rfl; rfl) | (refine HL.fa rfl rfl rfl rfl ?_) | (apply HL.nck; rfl; rfl; rfl; rfl)))
          refine HL.ldS (fun z hz => hz.1) rfl rfl rfl rfl rfl ?_
          refine HL.mut rfl (WL.call rfl rfl rfl (lfault_ok (drew w10) hSd (i := 0) (by omega) (atT s.length st1)) ?_)
          rintro e w6 ⟨hF, e6⟩
          have hr6 := hrd.ext e6
          have hG := grown_tr hGd (e6.grw _)
          refine WL.nil (EX.mut ⟨hr6.blk, (hSn.kept hG (fun b e => by cases e; exact Nat.le_refl _) hBn).g0⟩ ?_)
          (repeat (first | (apply HL.pure; rfl; rfl; rfl; rfl) | (apply HL.nil)))
          skip
          exact EX.cutI _ (by repeat (first | exact trivial | refine ⟨rfl, ?_⟩)) ⟨hG, (hb2.ext hD).ext e6, (hH.ext hD).ext e6, st1, hr6, .inr ⟨_, _, rfl, hF.low (by show w0.heap.size ≤ w10.heap.size; omega)⟩⟩
        · have h : st1.1 = [41] := by simpa using h
          rw [if_pos h] at hr10 ⊢
          (repeat (apply CW.skip))
          exact EX.cutI _ (by repeat (first | exact trivial | refine ⟨rfl, ?_⟩)) ⟨hG, hb2, hH, _, hr10, .inl ⟨rfl, rfl⟩⟩
      · rw [hF.err.2]
        (repeat (first | (apply WL.pure; rfl; rfl; rfl) | (apply WL.nil) | (apply EX.thenN) | (apply WL.pass; rfl; rfl) | (apply CW.condF; rfl) | (apply CW.skip)))
        exact EX.cutI _ (by repeat (first | exact trivial | refine ⟨rfl, ?_⟩)) ⟨hG, hb2, hH, st1, hr5, .inr ⟨c, a, rfl, hF⟩⟩
    clear hG hb2 hH hr5 he hE5
    rintro e w10 ⟨hG, hb2, hH, st', hr10, hE⟩
    obtain ⟨vo, vc, hb6, hy⟩ := hH.gx
    (repeat (first | (apply WL.pure; rfl; rfl; rfl) | (apply CW.seq) | (apply CW.region) | (apply WL.ldA; rfl; rfl; rfl; assumption; rfl)))
    refine WL.st rfl rfl rfl hb2 rfl rfl (ones_of rfl) (fun w12 hb212 hg12 => ?_)
    (repeat (first | (apply WL.pure; rfl; rfl; rfl) | (apply WL.nil) | (apply EX.thenN) | (apply CW.ret) | (apply EX.thenR)))
    refine EX.retC2 rfl rfl rfl hb212 rfl ⟨⟨_, _, _, st', rfl, (hy.st hg12 (.inr (by simp))).gl, hr10.kept hg12 (fun b e => by cases e; omega), ?_⟩, grown_new hG hg12 (Nat.le_refl _)⟩
    have hE := hE.stT hg12 hb2 (by decide)
    by_cases h20 : o = 20
    · rw [if_pos h20] at hE ⊢
      exact hE
    · rw [if_neg h20] at hE ⊢
      exact hE
  have n40 : ¬ st.1 = [40] := of_decide_eq_false h
  rw [if_neg n40]
  clear h
  (repeat (first | (apply WL.pure; rfl; rfl; rfl) | (apply WL.nil) | (apply EX.thenN) | (apply CW.skip) | (apply EX.inN)))
  apply CW.seq
  refine CW.cutE [(0, .pointer (some ⟨rb, 0, none⟩)), (2, .pointer (some ⟨w0.heap.size, 0, none⟩)), (67, .bool (decide (st.1 = [] ∨ lowB (st.1.headD 0) = false)))] ?_ ?_
  · (repeat (first | (apply WL.pure; rfl; rfl; rfl) | (apply CW.region) | (apply WL.fa; rfl; rfl; rfl) | (apply WL.nck; rfl; rfl; rfl) | (apply WL.ld; rfl; rfl; rfl; assumption; rfl)))
    rw [show ((txA st.1).data.toList == (ByteArray.mk #[]).data.toList) = decide (st.1 = []) from txA_eqd _ _]
    (refine WL.lookG rfl rfl (fun h => ?_) (fun h => ?_))
    · have h : st.1 = [] := of_decide_eq_true h
      (repeat (first | (apply WL.pure; rfl; rfl; rfl) | (apply WL.nil) | (apply WL.pass; rfl; rfl)))
      exact EX.cutE ⟨rfl, rfl, congrArg (fun b => some (Value.bool b)) (show true = _ from (decide_eq_true (Or.inl h)).symm), trivial⟩ (Ext.refl _)
    have h4 : ¬ st.1 = [] := of_decide_eq_false h
    have h5 : 0 < st.1.length := List.length_pos_iff.2 h4
    clear h
    (repeat (first | (apply WL.pure; rfl; rfl; rfl) | (apply WL.fa; rfl; rfl; rfl) | (apply WL.nck; rfl; rfl; rfl) | (apply WL.ld; rfl; rfl; rfl; assumption; rfl)))
    refine WL.byteL (i := 0) rfl rfl rfl rfl h5 ?_
    skip
    refine WL.call rfl rfl rfl (lletter_ok w2 _) ?_
    rintro _ w5 ⟨rfl, e5⟩
    (repeat (first | (apply WL.pure; rfl; rfl; rfl) | (apply WL.nil)))
    refine EX.cutE ⟨rfl, rfl, ?_, trivial⟩ e5
    refine congrArg (fun b => some (Value.bool b)) ?_
    rw [Bool.eq_iff_iff]
    rw [headD_0 h5]
    simp [h4]
  rintro w3 e3
  have hr3 := hr2.ext e3
  have hb2 := hb2.ext e3
  have hG := grown_tr hG (e3.grw _)
  clear hr2 hrb
  have l3 : w2.heap.size ≤ w3.heap.size := e3.size
  refine CW.cond rfl (fun h => ?_) (fun h => ?_)
  · rw [if_pos (of_decide_eq_true h)]
    (repeat (apply CW.seq))
    have l5 : w0.heap.size ≤ w3.heap.size := by omega
    have hD := Ext.drew w3
    have hrd := hr3.ext hD
    have hGd := grown_tr hG (hD.grw _)
    have hSd : SenH (drew w3) sa := hSn.kept hGd (fun b e => by cases e; exact Nat.le_refl _) hBn
    have hbd := hb2.ext hD
    refine CW.drawH (fun z : World => Blk z rb 125 [tV s, .slice no nms.length nc, tV st.1, .int .i64 (atT s.length st : Int), .int .i64 ((s.length - st.2.length : Nat) : Int), .int .i64 (o : Int)] ∧ z.cell? ⟨0, 0, none⟩ = some (.iface 205 (.pointer (some (sa 0))))) [(0, true), (1, true), (2, true), (3, true), (4, true), (5, true), (6, false), (7, false), (8, true)] mixed (by kernel_rfl) ⟨hrd.blk, hSd.g0⟩ ?_
    refine HL.build (parts := []) rfl rfl rfl rfl rfl ?_
    refine HL.ldG (fun z hz => hz.2) rfl rfl rfl rfl ?_
    (repeat (first | (apply HL.pure; rfl; rfl; rfl; rfl) | (refine HL.fa rfl rfl rfl rfl ?_) | (apply HL.nck; rfl; rfl; rfl; rfl)))
    refine HL.ldS (fun z hz => hz.1) rfl rfl rfl rfl rfl ?_
    refine HL.mut rfl (WL.call rfl rfl rfl (lfault_ok (drew w3) hSd (i := 0) (by omega) (atT s.length st)) ?_)
    rintro e w6 ⟨hF, e6⟩
    have hr6 := hrd.ext e6
    have hb6 := hbd.ext e6
    have hG := grown_tr hGd (e6.grw _)
    refine WL.nil (EX.mut ⟨hr6.blk, (hSn.kept hG (fun b e => by cases e; exact Nat.le_refl _) hBn).g0⟩ ?_)
    refine HL.mut rfl (WL.st rfl rfl rfl hb6 rfl rfl (ones_of rfl) (fun w7 hb7 hg7 => ?_))
    have hr7 := hr6.kept hg7 (fun b e => by cases e; omega)
    have hG7 := grown_new hG hg7 (Nat.le_refl _)
    refine WL.nil (EX.mut ⟨hr7.blk, (hSn.kept hG7 (fun b e => by cases e; exact Nat.le_refl _) hBn).g0⟩ ?_)
    (repeat (first | (apply HL.pure; rfl; rfl; rfl; rfl) | (apply HL.nil)))
    (repeat (first | (apply EX.thenN) | (apply CW.ret) | (apply EX.thenR)))
    exact EX.retC2 rfl rfl rfl hb7 rfl ⟨⟨_, _, _, st, rfl, GL.zero 0 0, hr7, .inr ⟨_, _, rfl, (hF.low (l5)).stT hg7 hb6 (by decide)⟩⟩, hG7⟩
  · rw [if_neg (of_decide_eq_false h)]
    (repeat (first | (apply WL.pure; rfl; rfl; rfl) | (apply EX.thenN) | (apply CW.seq) | (apply CW.region) | (apply CW.skip)))
    refine WL.call rfl rfl rfl (lword_ok w3 hr3 hs (hSn.kept hG (fun b e => by cases e; exact Nat.le_refl _) hBn) hBn) ?_
    rintro _ w4 ⟨⟨x, e, t, st1, rfl, hx, hr4, hE4⟩, hg4⟩
    have hb2 := hb2.kept hg4 (fun e => by have := Option.some.inj e; omega)
    have hG := grown_tr hG hg4
    have hx : GX w0.heap.size [w0.heap.size] w4 x t := GX.of hx (by omega) (fun r hr => Nat.lt_of_lt_of_le (hXX r hr) l3)
    have hE4 := hE4.low (B' := w0.heap.size) (by omega)
    obtain ⟨uo, uc, rfl, hk⟩ := Rd.ltl hx
    (repeat (apply WL.pure; rfl; rfl; rfl))
    refine WL.st rfl rfl rfl hb2 rfl rfl (ones_of rfl) (fun w5 hb25 hg5 => ?_)
    (repeat (first | (apply WL.pure; rfl; rfl; rfl) | (apply WL.nil) | (apply EX.thenN) | (apply CW.ret)))
    exact EX.retC2 rfl rfl rfl hb25 rfl ⟨⟨_, _, t, st1, rfl, (hx.st hg5 (.inr (by simp))).gl, hr4.kept hg5 (fun b e => by cases e; omega), hE4.stT hg5 hb2 (by decide)⟩, grown_new hG hg5 (Nat.le_refl _)⟩
end Go.Proofs.YtikigaeihdmcaaaGreatDoor

/-
  ltl.Parse, walked: sizes.
-/
set_option linter.unusedVariables false
set_option linter.unusedSimpArgs false
namespace Go.Proofs.YtikigaeihdmcaaaGreatDoor
open Go.RowKit

theorem szFs_gt : ∀ (l : List Ltl) (n : Int), n > 60 → szFs l n = n
  | [], n, _ => by unfold szFs; rfl
  | x :: r, n, h => by unfold szFs; rw [if_pos h]
mutual
theorem szF_le : ∀ (t : Ltl) (n : Int), n ≤ 60 → n ≤ szF t n ∧ szF t n ≤ 61
  | .mk k m kids, n, h => by
    unfold szF
    have := szFs_le kids (n + 1) (by omega)
    omega
theorem szFs_le : ∀ (l : List Ltl) (n : Int), n ≤ 61 → n ≤ szFs l n ∧ szFs l n ≤ 61
  | [], n, h => by unfold szFs; omega
  | x :: r, n, h => by
    unfold szFs
    split
    · omega
    · have h1 := szF_le x n (by omega)
      have h2 := szFs_le r (szF x n) (by omega)
      omega
end
theorem szFs_step {l : List Ltl} {i : Nat} {n : Int} (hi : i < l.length) (hn : ¬ n > 60) : szFs (l.drop i) n = szFs (l.drop (i + 1)) (szF l[i] n) := by
  rw [List.drop_eq_getElem_cons hi, szFs, if_neg hn]
theorem lsize_ok : ∀ (m : Nat) (t : Ltl), t.nodes ≤ m → ∀ (w : World) (F : Nat → Prop) (ao : Option Addr) (cap : Nat) (n : Int), Sl w F ao cap t.kids → (∀ b, F b → b < w.heap.size) → 0 ≤ n → n ≤ 60 →
    Rt Tryz.prog 123 [ltlV t.k t.n ao t.kids.length cap, .int .i64 n].toArray w fun v w' => v = .int .i64 (szF t n) ∧ Ext w w'
  | 0, t, hm, _, _, _, _, _, _, _, _, _ => by have := t.nodes_pos; omega
  | m + 1, .mk k nn kids, hm, w, F, ao, cap, n, hs, hF, h0, h60 => by
    simp only [mk_k, mk_n, mk_kids] at hs ⊢
    have hkl := hs.len63
    refine Rt.enter2 Tryz.func123 Tryz.ntmps123 rfl rfl ?_
    unfold szF
    (repeat (first | (apply CW.seq) | (apply CW.region)))
    refine WL.boxB rfl rfl rfl fun w1 hb2 e1 => ?_
    (repeat (first | (apply WL.add; rfl; rfl; rfl; rfl; omega; omega) | (apply WL.pure; rfl; rfl; rfl) | (apply WL.nil) | (apply EX.thenN) | (apply CW.seq) | (apply CW.region) | (apply WL.lenS; rfl; rfl; rfl) | (apply WL.fa; rfl; rfl; rfl) | (apply WL.ld; rfl; rfl; rfl; assumption; rfl) | (apply CW.block)))
    refine CW.loop (S := Nat × Int) (fun p => [(1, .int .i64 p.2), (10, .slice ao kids.length cap), (11, .int .i64 (kids.length : Int)), (12, .int .i64 (p.1 : Int))])
      (fun p w' => p.1 ≤ kids.length ∧ 0 ≤ p.2 ∧ p.2 ≤ 61 ∧ szFs (kids.drop p.1) p.2 = szFs kids (n + 1) ∧ Ext w w') (fun p => kids.length - p.1) (0, n + 1) (by repeat (first | exact trivial | refine ⟨rfl, ?_⟩)) ⟨Nat.zero_le _, by dsimp only; omega, by dsimp only; omega, rfl, e1⟩ ?_
    rintro ⟨i, q⟩ w3 ⟨hi, hq0, hq, he, e3⟩
    dsimp only at hi hq0 hq he ⊢
    (repeat (first | (apply WL.pure; rfl; rfl; rfl) | (apply WL.nil) | (apply EX.thenN) | (apply CW.seq) | (apply CW.region)))
    refine CW.cond rfl (fun h => ?_) (fun h => ?_)
    · have hi' : i < kids.length := by simpa using h
      have hs3 := hs.up0 e3 hF
      (repeat (first | (apply EX.thenN) | (apply CW.seq) | (apply CW.region) | (apply CW.block) | (apply CW.skip)))
      refine WL.elemN rfl rfl rfl rfl rfl hs3 hi' (fun _ => rfl) (fun u q2 hu => ?_)
      obtain ⟨uo, uc, rfl, hku⟩ := Rd.ltl hu
      refine WL.alloc rfl rfl (fun w4 hb6 e4 => ?_)
      skip
      refine WL.st rfl rfl rfl hb6 rfl rfl (ones_of rfl) (fun w5 hb65 hg5 => ?_)
      have e35 : Ext w3 w5 := e4.grown hg5 e4.size (fun g hg => by cases hg; exact Nat.le_refl _)
      have e5 := e3.trans e35
      (repeat (first | (apply WL.pure; rfl; rfl; rfl) | (apply WL.nil) | (apply EX.thenN) | (apply CW.seq) | (apply CW.region)))
      refine CW.cond rfl (fun h => ?_) (fun h => ?_)
      · have hq' : q > 60 := by simpa using h
        (repeat (first | (apply WL.pure; rfl; rfl; rfl) | (apply WL.nil) | (apply EX.thenN) | (apply CW.seq) | (apply CW.region) | (apply CW.exit) | (apply EX.thenX) | (apply EX.inX) | (apply EX.inXne; rfl) | (apply CW.ret)))
        refine EX.ret1 rfl rfl ⟨?_, e5⟩
        rw [← he, szFs_gt _ _ hq']
      · have hq' : ¬ q > 60 := by simpa using h
        have hnd : kids[i].nodes ≤ m := by have := Ltl.nodes_kid kids _ (List.getElem_mem hi'); simp only [Ltl.nodes] at hm; omega
        (repeat (first | (apply WL.pure; rfl; rfl; rfl) | (apply EX.thenN) | (apply CW.region) | (apply WL.ldA; rfl; rfl; rfl; assumption; rfl) | (apply CW.skip)))
        refine WL.call rfl rfl rfl (lsize_ok m kids[i] hnd w5 F uo uc q (hku.up0 e35 (fun b hb => Nat.lt_of_lt_of_le (hF b hb) e3.size)) (fun b hb => Nat.lt_of_lt_of_le (hF b hb) e5.size) hq0 (by omega)) ?_
        rintro _ w6 ⟨rfl, e6⟩
        have hle := szF_le kids[i] q (by omega)
        (repeat (first | (apply WL.add; rfl; rfl; rfl; rfl; omega; omega) | (apply WL.pure; rfl; rfl; rfl) | (apply WL.nil) | (apply EX.thenN) | (apply CW.region) | (apply EX.inN)))
        refine EX.back (i + 1, szF kids[i] q) (by repeat (first | exact trivial | refine ⟨rfl, ?_⟩)) ⟨by dsimp only; omega, by dsimp only; omega, by dsimp only; omega, by dsimp only; rw [← szFs_step hi' hq']; exact he, e5.trans e6⟩ (by dsimp only; omega)
    · have hi' : ¬ i < kids.length := by simpa using h
      (repeat (first | (apply WL.pure; rfl; rfl; rfl) | (apply WL.nil) | (apply EX.thenN) | (apply CW.seq) | (apply CW.region) | (apply CW.exit) | (apply EX.thenX) | (apply EX.inX) | (apply CW.ret)))
      refine EX.ret1 rfl rfl ⟨?_, e3⟩
      rw [← he, List.drop_eq_nil_of_le (by omega)]
      unfold szFs; rfl
end Go.Proofs.YtikigaeihdmcaaaGreatDoor

/-
  Kids of formulas: small facts.
-/
set_option linter.unusedVariables false
set_option linter.unusedSimpArgs false
namespace Go.Proofs.YtikigaeihdmcaaaGreatDoor
open Go.RowKit

theorem nodes_kid' {k n : Int} {kids : List Ltl} {m : Nat} (h : (Ltl.mk k n kids).nodes ≤ m + 1) {i : Nat} (hi : i < kids.length) : (kids[i]).nodes ≤ m := by
  have := Ltl.nodes_kid kids kids[i] (List.getElem_mem hi)
  simp only [Ltl.nodes] at h
  omega
end Go.Proofs.YtikigaeihdmcaaaGreatDoor

