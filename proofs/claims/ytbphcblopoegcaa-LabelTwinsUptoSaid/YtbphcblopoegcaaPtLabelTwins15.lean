import Derived.Test.YtbphcblopoegcaaRows
import Derived.OpenShut
import Derived.JoinedCond
import Derived.Test.YtbphcblopoegcaaPtLabelTwins14
/-
  Drawn regions with a chain of changes and an alloc that may come anywhere among them: one walk for all orders. Over any program.
-/
set_option linter.unusedVariables false
set_option linter.unusedSimpArgs false
namespace Go.Proofs.Ytbphcblopoegcaa
open Go.RowKit

section
variable {P : Program} {n : Nat} {σ : Sg} {w : World} {L : List Oper}
theorem WL.mono1 {Q Q' : Exit → Act → World → Prop} {o : Oper} (hQ : ∀ x a w, Q x a w → x = .normal) (hm : ∀ a w, Q .normal a w → Q' .normal a w) (h : WL P L Q [o] n σ w) : WL P L Q' [o] n σ w := by
  unfold WL at *
  intro a ha
  have h2 := h a ha
  simp only [wpList] at h2 ⊢
  split
  · rename_i hw
    rw [if_pos hw] at h2
    rcases h2 with h2 | ⟨_, hl⟩
    · exact .inl (Oper.wp_mono (fun a' w' h' => hm _ _ h') (wp_exits (fun e a w hne hf => absurd (hQ _ _ _ hf) hne) h2))
    · obtain ⟨_, _, hx⟩ := hl
      exact absurd (hQ _ _ _ hx) (by simp)
  · rename_i hw
    rw [if_neg hw] at h2
    exact hm _ _ h2
theorem fnd_app {σ τ : Sg} {t : Nat} : fnd (σ ++ τ) t = match fnd σ t with | some v => some v | none => fnd τ t := by
  induction σ with
  | nil => rfl
  | cons x r ih =>
    obtain ⟨k, v⟩ := x
    show fnd ((k, v) :: (r ++ τ)) t = match fnd ((k, v) :: r) t with | some v => some v | none => fnd τ t
    by_cases h : k = t
    · subst h; rw [fnd_cons_eq, fnd_cons_eq]
    · rw [fnd_cons_ne h, fnd_cons_ne h]; exact ih
theorem Fr.toEnd {a : Act} {d : Nat} {v : Value} (h : Fr n ((d, v) :: σ) a) (hd : fnd σ d = none) : Fr n (σ ++ [(d, v)]) a := by
  refine ⟨h.size, h.defers, fun t u hu => h.slot t u ?_⟩
  rw [fnd_app] at hu
  by_cases e : d = t
  · subst e
    rw [hd] at hu
    rw [fnd_cons_eq]
    simpa [fnd_cons_eq] using hu
  · rw [fnd_cons_ne e]
    cases hx : fnd σ t with
    | some x => rw [hx] at hu; exact hu
    | none => rw [hx] at hu; simp only [fnd_cons_ne e] at hu; cases hu
/-- behind a step of the chain: one more slot -/
def StepA (S : World → Prop) (I : Sg → World → Option Nat → Prop) (n : Nat) (τ : Sg) (ob : Option Nat) : Exit → Act → World → Prop :=
  fun x a w => x = .normal ∧ S w ∧ ∃ σ, Fr n (σ ++ τ) a ∧ I σ w ob
theorem EX.stepA {S : World → Prop} {I : Sg → World → Option Nat → Prop} {τ : Sg} {ob : Option Nat} (hS : S w) (hI : I σ w ob) : EX (StepA S I n τ ob) .normal n (σ ++ τ) w := by
  unfold EX
  exact fun a ha => ⟨rfl, hS, σ, ha, hI⟩
theorem EX.chainA {Q : Exit → Act → World → Prop} {S : World → Prop} {e de : Nat} {c : List Nat} {r : List (Nat × Bool)} {t ty : TypeId} {pos : String} {af : Array Edge} {zs : List Value} [hz : IsZC P t zs] (hoe : nthO L e = some ⟨some de, .alloc t, ty, pos, af, none⟩) (hn : Nat.ble (de + 1) n = true)
    (I : Nat → Sg → World → Option Nat → Prop) (hde : ∀ i σ w ob, I i σ w ob → fnd σ de = none)
    (hal : ∀ i σ w, I i σ w none → S w → ∀ w', Blk w' w.heap.size t zs → Ext w w' → S w' ∧ I i σ w' (some w.heap.size))
    (hst : ∀ i (hi : i < c.length) σ w ob τ, I i σ w ob → S w → ∃ o, nthO L c[i] = some o ∧ WL P L (StepA S (I (i + 1)) n τ ob) [o] n (σ ++ τ) w)
    (hend : ∀ σ w b, I c.length σ w (some b) → S w → HL P L S Q r n (σ ++ [(de, .pointer (some ⟨b, 0, none⟩))]) w)
    (hI0 : I 0 σ w none) (hS : S w) : EX (ChainQ P L S Q e c r) .normal n σ w := by
  have aft : ∀ d k σ w b, d + k = c.length → I k σ w (some b) → S w → HL P L S Q ((c.drop k).map (fun j => (j, false)) ++ r) n (σ ++ [(de, .pointer (some ⟨b, 0, none⟩))]) w := by
    intro d
    induction d with
    | zero =>
      intro k σ w b hk hI hS
      obtain rfl : k = c.length := by omega
      rw [List.drop_length]
      exact hend σ w b hI hS
    | succ d ih =>
      intro k σ w b hk hI hS
      have hkl : k < c.length := by omega
      rw [List.drop_eq_getElem_cons hkl]
      obtain ⟨o, ho, hw⟩ := hst k hkl σ w (some b) [(de, .pointer (some ⟨b, 0, none⟩))] hI hS
      refine HL.mut ho (WL.mono1 (fun x a w h => h.1) (fun a w h => ?_) hw)
      obtain ⟨_, hS', σ', hF, hI'⟩ := h
      have := ih (k + 1) σ' w b (by omega) hI' hS'
      unfold HL at this
      exact ⟨rfl, hS', this a hF⟩
  have alc : ∀ k σ w, k ≤ c.length → I k σ w none → S w → HL P L S Q ((e, false) :: ((c.drop k).map (fun j => (j, false)) ++ r)) n σ w := by
    intro k σ w hk hI hS
    refine HL.mut hoe (WL.alloc rfl hn (fun w' hb hE => WL.nil ?_))
    obtain ⟨hS', hI'⟩ := hal k σ w hI hS w' hb hE
    have h1 := aft (c.length - k) k σ w' _ (by omega) hI' hS'
    unfold HL at h1
    unfold EX
    exact fun a ha => ⟨rfl, hS', h1 a (ha.toEnd (hde _ _ _ _ hI))⟩
  have bef : ∀ d k σ w, d + k = c.length → I k σ w none → S w → EX (ChainQ P L S Q e (c.drop k) r) .normal n σ w := by
    intro d
    induction d with
    | zero =>
      intro k σ w hk hI hS
      obtain rfl : k = c.length := by omega
      have := alc c.length σ w (Nat.le_refl _) hI hS
      rw [List.drop_length] at this ⊢
      exact EX.chain0 hS this
    | succ d ih =>
      intro k σ w hk hI hS
      have hkl : k < c.length := by omega
      have ha := alc k σ w (by omega) hI hS
      rw [List.drop_eq_getElem_cons hkl] at ha ⊢
      obtain ⟨o, ho, hw⟩ := hst k hkl σ w none [] hI hS
      rw [List.append_nil] at hw
      refine EX.chain hS ho (WL.mono1 (fun x a w h => h.1) (fun a w h => ?_) hw) ha
      obtain ⟨_, hS', σ', hF, hI'⟩ := h
      rw [List.append_nil] at hF
      have := ih (k + 1) σ' w (by omega) hI' hS'
      unfold EX at this
      exact this a hF
  exact bef c.length 0 σ w (by omega) hI0 hS
end
end Go.Proofs.Ytbphcblopoegcaa
/-
  x >> s of a signed number. Over any program.
-/
set_option linter.unusedVariables false
set_option linter.unusedSimpArgs false
namespace Go.Proofs.Ytbphcblopoegcaa
open Go.RowKit

theorem run_shrZ (P : Program) (w : World) (a : Int) (s : Nat) (hs : s ≤ 62) (t : TypeId) : (binOp .shr t (.int .i64 a) (.int .i64 (s : Int))).run P w = .ok (.int .i64 (a / 2 ^ s)) w := by
  rw [binOp_shr, shift_shr_i64 (h₀ := by omega) (h₁ := by omega), Int.toNat_natCast]; rfl
section
variable {P : Program} {Q : Exit → Act → World → Prop} {n : Nat} {σ : Sg} {w : World} {L rest : List Oper} {d : Nat} {ty : TypeId} {pos : String} {af : Array Edge} {g : Option (Nat × Bool)} {t yt : TypeId} {x y : Operand}
theorem WL.shrZ {a : Int} {s : Nat} (hg : gd L σ ⟨some d, .binOp .shr t x y yt, ty, pos, af, g⟩ = some true) (hd : Nat.ble (d + 1) n = true) (hx : ev σ x = some (.int .i64 a)) (hy : ev σ y = some (.int .i64 (s : Int))) (hs : s ≤ 62)
    (h : WL P L Q rest n ((d, .int .i64 (a / 2 ^ s)) :: σ) w) : WL P L Q (⟨some d, .binOp .shr t x y yt, ty, pos, af, g⟩ :: rest) n σ w := by
  refine WL.run hg hd (fun a0 ha0 => ?_) h
  have := run_shrZ P w a s hs t
  simp [execOp, ha0.ev hx, ha0.ev hy, eqG (op := .shr) rfl, this]
end
end Go.Proofs.Ytbphcblopoegcaa
/-
  watchkeep.unrolled: a word written otherwise.
-/
set_option linter.unusedVariables false
set_option linter.unusedSimpArgs false
namespace Go.Proofs.Ytbphcblopoegcaa
open Go.RowKit

theorem rest_ok (w : World) (n m : Int) (hm : 0 < m) (hm2 : m < 4611686018427387904) : Rt Try.prog 69 [.int .i64 n, .int .i64 m].toArray w fun v w' => v = .int .i64 (n % m) ∧ w = w' := by
  refine Rt.enter2 Try.func69 Try.ntmps69 rfl rfl ?_
  have h1 := Int.tmod_add_mul_tdiv n m
  have h2 : n.tmod m < m := Int.tmod_lt_of_pos n hm
  have h3 : -m < n.tmod m := by
    have := Int.tmod_lt_of_pos (-n) hm
    rw [Int.neg_tmod] at this; omega
  have hpos : 0 ≤ n.tmod m → n.tmod m = n % m := fun h => by
    have e : n % m = (n.tmod m + m * n.tdiv m) % m := by rw [h1]
    rw [e, Int.add_mul_emod_self_left, Int.emod_eq_of_lt h h2]
  have hneg : n.tmod m < 0 → n.tmod m + m = n % m := fun h => by
    have e : n % m = ((n.tmod m + m) + m * (n.tdiv m - 1)) % m := by rw [Int.mul_sub]; congr 1; omega
    rw [e, Int.add_mul_emod_self_left, Int.emod_eq_of_lt (by omega) (by omega)]
  (repeat (first | (apply WL.pure; rfl; rfl; rfl) | (apply WL.nil) | (apply EX.thenN) | (apply CW.seq) | (apply CW.region)))
  refine WL.remT rfl rfl rfl rfl (by omega) ?_
  (repeat (first | (apply WL.pure; rfl; rfl; rfl) | (apply WL.nil) | (apply EX.thenN) | (apply CW.seq) | (apply CW.region)))
  refine CW.cond rfl (fun h => ?_) (fun h => ?_) <;> simp only [decide_eq_true_eq, decide_eq_false_iff_not] at h
  · (repeat (first | (apply WL.add; rfl; rfl; rfl; rfl; omega; omega) | (apply WL.pure; rfl; rfl; rfl) | (apply WL.nil) | (apply EX.thenN) | (apply CW.seq) | (apply CW.region) | (apply CW.ret)))
    exact EX.ret1 rfl rfl ⟨congrArg (Value.int .i64) (hneg h), rfl⟩
  · (repeat (first | (apply WL.pure; rfl; rfl; rfl) | (apply WL.nil) | (apply EX.thenN) | (apply CW.seq) | (apply CW.region) | (apply CW.ret) | (apply CW.skip)))
    exact EX.ret1 rfl rfl ⟨congrArg (Value.int .i64) (hpos (by omega)), rfl⟩
theorem clone_u64 (w0 : World) {F : Nat → Prop} {ao : Option Addr} {cap : Nat} {xs : List Nat} (hs : Sl w0 F ao cap xs) (hF : ∀ b, F b → b < w0.heap.size) (hb : xs.length * 8 ≤ 140737488355328) :
    Rt Try.prog 90 [.slice ao xs.length cap].toArray w0 fun v w' => Own w' w0.heap.size 33 Non v xs ∧ Ext w0 w' := by
  have hm := hs.len63
  refine Rt.enter1 Try.func90 Try.ntmps90 rfl rfl ?_
  (repeat (first | (apply WL.pure; rfl; rfl; rfl) | (apply WL.nil) | (apply EX.thenN) | (apply CW.seq) | (apply CW.region) | (apply WL.isNil; rfl; rfl; rfl)))
  refine CW.cond rfl (fun h => ?_) (fun h => ?_)
  · (repeat (first | (apply WL.pure; rfl; rfl; rfl) | (apply WL.nil) | (apply EX.thenN) | (apply CW.seq) | (apply CW.region) | (apply CW.ret) | (apply EX.thenR)))
    refine EX.ret1 rfl rfl ⟨?_, Ext.refl _⟩
    have h0 : ao = none := by simpa using h
    have : xs = [] := List.eq_nil_of_length_eq_zero (by have := hs.nil h0; have := hs.le; omega)
    subst this
    exact Own.nil
  · (repeat (first | (apply EX.thenN) | (apply CW.seq) | (apply CW.region) | (apply CW.skip)))
    refine WL.lit0 (α := Nat) rfl rfl (fun w1 ho hg => ?_)
    (repeat (apply WL.pure; rfl; rfl; rfl))
    have hE : Ext w0 w1 := (Below.refl _ _).grown hg (Nat.le_refl _) (fun k h => by cases h)
    refine WL.app (F := Non) rfl rfl rfl rfl ho (hs.up0 hE hF).srcN hE.size (fun _ h => h.elim) (by simp [maxLen]; omega) (by simpa using hb) (fun v w2 ho2 hg2 _ => ?_)
    (repeat (first | (apply WL.pure; rfl; rfl; rfl) | (apply WL.nil) | (apply EX.thenN) | (apply CW.ret)))
    refine EX.ret1 rfl rfl ⟨by simpa using ho2, hE.grown hg2 hE.size ?_⟩
    intro k hk
    exact (ho.lt k hk).1
/-- blocks that are new since w -/
def Fresh (w w' : World) : Nat → Prop := fun b => w.heap.size ≤ b ∧ b < w'.heap.size
end Go.Proofs.Ytbphcblopoegcaa
/-
  LabelTwins: walked.
-/
set_option linter.unusedVariables false
set_option linter.unusedSimpArgs false
namespace Go.Proofs.Ytbphcblopoegcaa
open Go.RowKit

/-- the beginning of the double: what a chain's state is -/
abbrev dblLit (a1 : Option Addr) (c1 ls : Nat) (a3 : Option Addr) (c3 ll : Nat) (p2 p4 : Value) (N dice : Int) : Sg := [(26, .slice a3 ll c3), (23, .slice a3 ll c3), (20, .slice a1 ls c1), (5, .int .i64 N), (4, p4), (2, p2), (1, .int .i64 dice)]
def dblOB (B : Nat) (w : World) (ob : Option Nat) : Prop := ∀ b, ob = some b → Blk w b 51 [.slice none 0 0, .slice none 0 0, .slice none 0 0, .slice none 0 0] ∧ B ≤ b
theorem dblOB.ext {B : Nat} {w w' : World} {ob : Option Nat} (h : dblOB B w ob) (hE : Ext w w') : dblOB B w' ob := fun b hb => ⟨(h b hb).1.ext hE, (h b hb).2⟩
theorem dblOB.kept {B : Nat} {w w' : World} {ob row : Option Nat} (h : dblOB B w ob) (hg : w.grownBy w' row) (hne : ∀ b, ob = some b → row ≠ some b) : dblOB B w' ob := fun b hb => ⟨(h b hb).1.kept hg (fun e => hne b hb e.symm), (h b hb).2⟩
def apB (v : Value) (ob : Option Nat) : Prop := ∀ b, ob = some b → v.ownBlock ≠ some b
theorem apB.none {v : Value} : apB v none := fun b h => by cases h
def dblI (lit : Sg) (B : Nat) (st : List Int) (lb : List Nat) (i : Nat) (σ : Sg) (w : World) (ob : Option Nat) : Prop :=
  match i with
  | 0 => σ = lit ∧ dblOB B w ob
  | 1 => ∃ sv, σ = (21, sv) :: lit ∧ Own w B 3 Non sv st ∧ apB sv ob ∧ dblOB B w ob
  | 2 => ∃ sv lv, σ = (24, lv) :: (21, sv) :: lit ∧ Own w B 3 Non sv st ∧ Own w B 33 Non lv lb ∧ (∀ g, lv.ownBlock = some g → sv.ownBlock ≠ some g) ∧ apB sv ob ∧ apB lv ob ∧ dblOB B w ob
  | 3 => ∃ sv lv l2, σ = (27, l2) :: (24, lv) :: (21, sv) :: lit ∧ Own w B 3 Non sv st ∧ Own w B 33 Non l2 (lb ++ lb) ∧ (∀ g, l2.ownBlock = some g → sv.ownBlock ≠ some g) ∧ apB sv ob ∧ apB l2 ob ∧ dblOB B w ob
  | _ => ∃ so sc lv lo lc, σ = (28, .agg [.slice so st.length sc, .slice none 0 0, .slice lo (lb ++ lb).length lc, .slice none 0 0].toArray) :: (27, .slice lo (lb ++ lb).length lc) :: (24, lv) :: (21, .slice so st.length sc) :: lit ∧ Own w B 3 Non (.slice so st.length sc) st ∧ Own w B 33 Non (.slice lo (lb ++ lb).length lc) (lb ++ lb) ∧ (∀ g, Value.ownBlock (.slice lo (lb ++ lb).length lc) = some g → Value.ownBlock (.slice so st.length sc) ≠ some g) ∧ apB (.slice so st.length sc) ob ∧ apB (.slice lo (lb ++ lb).length lc) ob ∧ dblOB B w ob
set_option maxHeartbeats 2000000 in
theorem doubled_ok (w0 : World) {a1 a2 a3 a4 : Option Addr} {c1 c2 c3 c4 : Nat} {st : List Int} {nx fr : Graph} {lb : List Nat} (h1 : Sl w0 (Old w0) a1 c1 st) (h2 : Sl w0 (Old w0) a2 c2 nx) (h3 : Sl w0 (Old w0) a3 c3 lb) (h4 : Sl w0 (Old w0) a4 c4 fr)
    (dice : Int) (hc : chkWd st nx lb.length fr = 0) (hn : nx.length ≤ 200) (hst : st.length ≤ 1099511627776) (hT : edges nx ≤ 1099511627776) (hF : edges fr ≤ 1099511627776) :
    Rt Try.prog 37 [worldV a1 c1 a2 c2 a3 c3 a4 c4 st.length nx.length lb.length fr.length, .int .i64 dice].toArray w0 fun v w' => ∃ x, v = x ∧ Rd w' (Old w') x (st, dNext nx dice, lb ++ lb, dFair nx.length fr) ∧ Ext w0 w' := by
  obtain ⟨hn600, hf80, hkn, hokst, hoknx, hokfr⟩ := chkWd_ok hc
  have hok : okG nx := fun r hr => (hoknx r hr).2
  refine Rt.enter2 Try.func37 Try.ntmps37 rfl rfl ?_
  (repeat (first | (apply CW.seq) | (apply CW.region)))
  refine WL.boxB rfl rfl rfl fun w1 hb2 e1 => ?_
  skip
  refine WL.alloc rfl rfl (fun w2 hb4 e2 => ?_)
  have hb2 := hb2.ext e2
  have hE := e1.trans e2
  have hl2 := hb2.lt
  have hl4 := hb4.lt
  have z1 := e1.size
  have z2 := e2.size
  clear e1 e2
  (repeat (first | (apply WL.pure; rfl; rfl; rfl) | (apply WL.nil) | (apply EX.thenN) | (apply CW.seq) | (apply CW.region) | (apply WL.lenS; rfl; rfl; rfl) | (apply WL.fa; rfl; rfl; rfl) | (apply WL.ld; rfl; rfl; rfl; assumption; rfl)))
  have hSE : ∀ z, (fun z : World => Ext w2 z) z → Ext w2 z := fun _ h => h
  refine CW.drawC (fun x => Ext w2 x) [(0, true), (1, true), (3, true), (4, true), (6, true), (7, true)] 10 [2, 5, 8, 9] [(11, false)] mixed (by kernel_rfl) (Ext.drew w2) ?_
  (repeat (first | (refine HL.fa rfl rfl rfl rfl ?_) | (refine HL.ld (by assumption) rfl rfl rfl rfl (by assumption) rfl ?_) | (apply HL.nil)))
  have hlE : ∀ w, Ext w2 w → ∀ b : Nat, b < w2.heap.size → b < w.heap.size := fun w h b hb => Nat.lt_of_lt_of_le hb h.size
  refine EX.sub (τ := dblLit a1 c1 st.length a3 c3 lb.length (.pointer (some ⟨w0.heap.size, 0, none⟩)) (.pointer (some ⟨w1.heap.size, 0, none⟩)) nx.length dice) (by repeat (first | exact trivial | refine ⟨rfl, ?_⟩)) ?_
  refine EX.chainA (e := 10) rfl rfl (dblI (dblLit a1 c1 st.length a3 c3 lb.length (.pointer (some ⟨w0.heap.size, 0, none⟩)) (.pointer (some ⟨w1.heap.size, 0, none⟩)) nx.length dice) w2.heap.size st lb) ?_ ?_ ?_ ?_ ⟨rfl, fun b h => by cases h⟩ (Ext.drew w2)
  · intro i σ w ob hI
    match i with
    | 0 => obtain ⟨rfl, _⟩ := hI; rfl
    | 1 => obtain ⟨_, rfl, _⟩ := hI; rfl
    | 2 => obtain ⟨_, _, rfl, _⟩ := hI; rfl
    | 3 => obtain ⟨_, _, _, rfl, _⟩ := hI; rfl
    | _ + 4 => obtain ⟨_, _, _, _, _, rfl, _⟩ := hI; rfl
  · intro i σ w hI hS w' hb hE'
    have hS : Ext w2 w := hS
    refine ⟨Ext.trans hS hE', ?_⟩
    have ob : dblOB w2.heap.size w' (some w.heap.size) := fun b h => by cases h; exact ⟨hb, hS.size⟩
    have ap : ∀ {α : Type} [Rep α] {e : TypeId} {v : Value} {xs : List α}, Own w w2.heap.size e Non v xs → apB v (some w.heap.size) := fun ho b h hg => by cases h; have := (ho.lt _ hg).2.1; omega
    match i with
    | 0 => obtain ⟨h, _⟩ := hI; exact ⟨h, ob⟩
    | 1 => obtain ⟨sv, h, ho, _⟩ := hI; exact ⟨sv, h, ho.extN hE', ap ho, ob⟩
    | 2 => obtain ⟨sv, lv, h, ho, hl, hd, _⟩ := hI; exact ⟨sv, lv, h, ho.extN hE', hl.extN hE', hd, ap ho, ap hl, ob⟩
    | 3 => obtain ⟨sv, lv, l2, h, ho, hl, hd, _⟩ := hI; exact ⟨sv, lv, l2, h, ho.extN hE', hl.extN hE', hd, ap ho, ap hl, ob⟩
    | _ + 4 => obtain ⟨x1, x2, x3, x4, x5, h, ho, hl, hd, _⟩ := hI; exact ⟨x1, x2, x3, x4, x5, h, ho.extN hE', hl.extN hE', hd, ap ho, ap hl, ob⟩
  · intro i hi σ w ob τ hI hS
    have hS : Ext w2 w := hS
    match i, hi with
    | 0, _ =>
      obtain ⟨rfl, hob⟩ := hI
      refine ⟨_, rfl, ?_⟩
      refine WL.call rfl rfl rfl (clone_int w (h1.up (hE.trans hS)) (by omega)) ?_
      rintro sv w' ⟨ho, e⟩
      exact WL.nil (EX.stepA (σ := (21, sv) :: _) (Ext.trans hS e) ⟨sv, rfl, ho.low hS.size, fun b h hg => by have := (ho.lt _ hg).1; have := (hob b h).1.lt; omega, hob.ext e⟩)
    | 1, _ =>
      obtain ⟨sv, rfl, ho, hap, hob⟩ := hI
      refine ⟨_, rfl, ?_⟩
      refine WL.call rfl rfl rfl (clone_u64 w (h3.up (hE.trans hS)) (fun _ h => h) (by omega)) ?_
      rintro lv w' ⟨hl, e⟩
      exact WL.nil (EX.stepA (σ := (24, lv) :: _) (Ext.trans hS e) ⟨sv, lv, rfl, ho.extN e, hl.low hS.size, fun g h1 h2 => by have := (hl.lt _ h1).1; have := (ho.lt _ h2).2.1; omega, hap, fun b h hg => by have := (hl.lt _ hg).1; have := (hob b h).1.lt; omega, hob.ext e⟩)
    | 2, _ =>
      obtain ⟨sv, lv, rfl, ho, hl, hd, hap, hap2, hob⟩ := hI
      refine ⟨_, rfl, ?_⟩
      refine WL.app (F := Non) rfl rfl rfl rfl hl (h3.up (hE.trans hS)).srcN hS.size (fun _ h => h.elim) (by unfold maxLen; omega) (by show _ * 8 ≤ _; omega) (fun l2 w' hl2 hg hnb => ?_)
      refine WL.nil (EX.stepA (σ := (27, l2) :: _) (Below.grown hS hg hS.size (fun g hg => (hl.lt g hg).1)) ⟨sv, lv, l2, rfl, ho.keptN hg (fun g h e => hd g e.symm h), hl2, fun g h1 h2 => ?_, hap, fun b h hg2 => ?_, hob.kept hg (fun b h => hap2 b h)⟩)
      · rcases hnb g h1 with h | h
        · exact hd g h h2
        · have := (ho.lt _ h2).2.1; omega
      · rcases hnb b hg2 with h' | h'
        · exact hap2 b h h'
        · have := (hob b h).1.lt; omega
    | 3, _ =>
      obtain ⟨sv, lv, l2, rfl, ho, hl, hd, hap, hap2, hob⟩ := hI
      obtain ⟨so, sc, rfl⟩ := ho.val
      obtain ⟨lo, lc, rfl⟩ := hl.val
      refine ⟨_, rfl, ?_⟩
      refine WL.build rfl rfl rfl rfl ?_
      exact WL.nil (EX.stepA (σ := (28, _) :: _) hS ⟨so, sc, lv, lo, lc, rfl, ho, hl, hd, hap, hap2, hob⟩)
    | i + 4, hi => exact absurd hi (by simp)
  intro σ w3 b6 hI hS
  have hS : Ext w2 w3 := hS
  obtain ⟨so, sc, lv, lo, lc, rfl, hso, hlo, hd, hap, hap2, hob⟩ := hI
  have hgt := (hob b6 rfl).2
  refine HL.mut rfl (WL.st rfl rfl rfl (hob b6 rfl).1 rfl rfl (ones_of rfl) (fun w4 hb6 hg4 => ?_))
  have hS4 : Ext w2 w4 := Below.grown hS hg4 hS.size (fun g hg => by cases hg; exact hgt)
  refine WL.nil (EX.mut hS4 ?_)
  have hso := hso.keptN hg4 (fun g hg e => hap b6 rfl (by rw [← e]; exact hg))
  have hlo := hlo.keptN hg4 (fun g hg e => hap2 b6 rfl (by rw [← e]; exact hg))
  have hl6 := hb6.lt
  have hsF : Sl w4 (Fz w4 (fun b => b = b6 ∨ b = w1.heap.size)) so sc st := by
    obtain ⟨a, b, e, h⟩ := hso.slF (F' := Fz w4 (fun b => b = b6 ∨ b = w1.heap.size)) (fun _ h => h.elim) (fun g hg => ⟨(hso.lt g hg).2.1, fun h => h.elim (fun h => hap b6 rfl (by rw [← h]; exact hg)) (fun h => by have := (hso.lt g hg).1; omega)⟩)
    obtain ⟨rfl, _, rfl⟩ := Value.slice.inj e
    exact h
  have hlF : Sl w4 (Fz w4 (fun b => b = b6 ∨ b = w1.heap.size)) lo lc (lb ++ lb) := by
    obtain ⟨a, b, e, h⟩ := hlo.slF (F' := Fz w4 (fun b => b = b6 ∨ b = w1.heap.size)) (fun _ h => h.elim) (fun g hg => ⟨(hlo.lt g hg).2.1, fun h => h.elim (fun h => hap2 b6 rfl (by rw [← h]; exact hg)) (fun h => by have := (hlo.lt g hg).1; omega)⟩)
    obtain ⟨rfl, _, rfl⟩ := Value.slice.inj e
    exact h
  have hE4 := hE.trans hS4
  have hb2 := hb2.ext hS4
  have hb4 := hb4.ext hS4
  have z4 := hS4.size
  clear hso hlo hd hap hap2 hob hg4 hS hS4 hSE
  apply HL.nil
  (repeat (first | (apply WL.mul; rfl; rfl; rfl; rfl; omega; omega) | (apply WL.pure; rfl; rfl; rfl) | (apply WL.nil) | (apply EX.thenN) | (apply CW.seq) | (apply CW.region) | (apply CW.block)))
  have hx2 : ((2 : Int) * (nx.length : Int)) = ((2 * nx.length : Nat) : Int) := by omega
  rw [hx2]
  have hbl : ∀ (i k : Nat), dbit dice ((i + k) % 60) = 0 ∨ dbit dice ((i + k) % 60) = 1 := fun i k => dbit01 dice _
  -- the ways on
  refine CW.loop (S := Nat × Value × List Raw) (fun s => [(1, .int .i64 dice), (2, .pointer (some ⟨w0.heap.size, 0, none⟩)), (4, .pointer (some ⟨w1.heap.size, 0, none⟩)), (5, .int .i64 nx.length), (6, .pointer (some ⟨b6, 0, none⟩)), (30, .int .i64 ((2 * nx.length : Nat) : Int)), (31, .int .i64 s.1)])
    (fun s w => s.1 ≤ 2 * nx.length ∧ Blk w b6 51 [.slice so st.length sc, s.2.1, .slice lo (lb ++ lb).length lc, .slice none 0 0] ∧ Own w w4.heap.size 22 Non s.2.1 s.2.2 ∧
      InnR w (fun b => (b = b6 ∨ b = w1.heap.size) ∨ s.2.1.ownBlock = some b) s.2.2 ((List.range s.1).map fun k => dRow nx.length dice (nx.getD (k % nx.length) []) k) ∧ Chg (fun b => b = b6) w4 w)
    (fun s => 2 * nx.length - s.1) (0, .slice none 0 0, []) (by repeat (first | exact trivial | refine ⟨rfl, ?_⟩)) ⟨Nat.zero_le _, hb6, Own.nil, InnR.nil, Chg.refl _ _⟩ ?_
  · clear hb6
    rintro ⟨k, nv, vs⟩ w5 ⟨hk, hb6, hnv, hin, hC5⟩
    dsimp only at hk hb6 hnv hin hC5 ⊢
    have z5 := hC5.size
    have hvl : vs.length = k := by rw [hin.len]; simp
    have hE5 : Ext w0 w5 := hC5.ext hE4 (fun b hb => by omega)
    have hb2 : Blk w5 w0.heap.size 51 [.slice a1 st.length c1, .slice a2 nx.length c2, .slice a3 lb.length c3, .slice a4 fr.length c4] := (hC5.block _ (by omega) (by omega)).trans hb2
    have hnl := fun g hg => hnv.lt g hg
    obtain ⟨no, nc, rfl⟩ := hnv.val
    (repeat (first | (apply WL.pure; rfl; rfl; rfl) | (apply WL.nil) | (apply EX.thenN) | (apply CW.seq) | (apply CW.region)))
    refine CW.cond rfl (fun h => ?_) (fun h => ?_)
    · have hk' : k < 2 * nx.length := by simp only [decide_eq_true_eq] at h; omega
      have hm := Nat.mod_lt k (show nx.length > 0 by omega)
      have hrow := okG_row hok (k % nx.length)
      have hdk : (List.range (k + 1)).map (fun k => dRow nx.length dice (nx.getD (k % nx.length) []) k) = (List.range k).map (fun k => dRow nx.length dice (nx.getD (k % nx.length) []) k) ++ [dRow nx.length dice (nx.getD (k % nx.length) []) k] := by
        rw [List.range_succ, List.map_append]; rfl
      have hrl := edges_row2 (g := nx) (j := k % nx.length)
      rw [wgetDG hm] at hdk hrow hrl
      clear h
      (repeat (first | (apply WL.pure; rfl; rfl; rfl) | (apply QL.pure; rfl; rfl; rfl) | (apply WL.nil) | (apply EX.thenN) | (apply CW.seq) | (apply CW.region) | (apply QL.fa; rfl; rfl; rfl) | (apply QL.ld; rfl; rfl; rfl; assumption; rfl) | (apply CW.block) | (apply CW.skip) | (apply CW.draw; exact mixed; kernel_rfl)))
      refine QL.rem rfl rfl rfl rfl (by omega) (by omega) ?_
      refine QL.elemN (i := k % nx.length) rfl rfl rfl rfl rfl (fun _ h => h) (h2.up hE5) hm (fun _ => rfl) (fun u q hu => ?_)
      obtain ⟨ro, rc, rfl, hr⟩ := hu.sl
      clear hu
      generalize nx[k % nx.length] = row at *
      (repeat (first | (apply QL.pure; rfl; rfl; rfl) | (apply QL.lenS; rfl; rfl; rfl)))
      refine QL.nil fun w6 e6 => ?_
      have hr := hr.up e6
      have hb6 := hb6.ext e6
      have hE6 := hE5.trans e6
      have z6 := e6.size
      (repeat (first | (apply EX.thenN) | (apply CW.block)))
      -- one row
      refine CW.loop (S := Nat × Value) (fun s => [(1, .int .i64 dice), (2, .pointer (some ⟨w0.heap.size, 0, none⟩)), (4, .pointer (some ⟨w1.heap.size, 0, none⟩)), (5, .int .i64 nx.length), (6, .pointer (some ⟨b6, 0, none⟩)), (7, .int .i64 k), (8, s.2), (30, .int .i64 ((2 * nx.length : Nat) : Int)), (31, .int .i64 k), (40, .slice ro row.length rc), (41, .int .i64 row.length), (42, .int .i64 s.1)])
        (fun s w => s.1 ≤ row.length ∧ Own w w6.heap.size 3 Non s.2 ((List.range s.1).map (dblAt nx.length dice row k)) ∧ Ext w6 w) (fun s => row.length - s.1) (0, .slice none 0 0) (by repeat (first | exact trivial | refine ⟨rfl, ?_⟩)) ⟨Nat.zero_le _, Own.nil, Ext.refl _⟩ ?_
      rintro ⟨i, rv⟩ w7 ⟨hi, hrv, e7⟩
      dsimp only at hi hrv e7 ⊢
      (repeat (first | (apply WL.pure; rfl; rfl; rfl) | (apply WL.nil) | (apply EX.thenN) | (apply CW.seq) | (apply CW.region)))
      refine CW.cond rfl (fun h => ?_) (fun h => ?_)
      · have hi' : i < row.length := by simp only [decide_eq_true_eq] at h; omega
        have hx0 := hrow _ (List.getElem_mem hi')
        have hnxt : (List.range (i + 1)).map (dblAt nx.length dice row k) = (List.range i).map (dblAt nx.length dice row k) ++ [row[i] + nx.length * dbit dice ((i + k) % 60)] := by
          rw [List.range_succ, List.map_append, List.map_singleton]
          unfold dblAt
          rw [wgetDI hi']
        have hd := hbl i k
        clear h
        (repeat (first | (apply WL.pure; rfl; rfl; rfl) | (apply EX.thenN) | (apply CW.seq) | (apply CW.region) | (apply CW.block) | (apply CW.skip)))
        refine WL.elemN (i := i) rfl rfl rfl rfl rfl (hr.up e7) hi' (fun _ => rfl) (fun u q hu => ?_)
        rw [hu.int]
        clear hu
        generalize row[i] = x at *
        (repeat (first | (apply WL.add; rfl; rfl; rfl; rfl; omega; omega) | (apply WL.pure; rfl; rfl; rfl) | (apply WL.nil) | (apply EX.thenN) | (apply CW.region)))
        refine WL.rem rfl rfl rfl rfl (by omega) (by decide) ?_
        refine WL.shrZ (s := (i + k) % 60) rfl rfl rfl rfl (by omega) ?_
        refine WL.pure rfl rfl (v := .int .i64 (dbit dice ((i + k) % 60))) rfl ?_
        generalize dbit dice ((i + k) % 60) = d at *
        have hnd : 0 ≤ (nx.length : Int) * d ∧ (nx.length : Int) * d ≤ nx.length := by rcases hd with h | h <;> rw [h] <;> omega
        refine WL.mul rfl rfl rfl rfl (by omega) (by omega) ?_
        generalize (nx.length : Int) * d = nd at *
        (repeat (apply WL.add; rfl; rfl; rfl; rfl; omega; omega))
        refine WL.app1 (α := Int) (F := Non) (bytes := 8) rfl rfl (fun _ => rfl) rfl rfl (fun _ => rfl) hrv (Rd.mkInt _ _ _) e7.size (fun _ h => h.elim) (by decide) (by unfold maxLen; simp; omega) (by simp; omega) (fun rv' w8 q ho8 hg8 hnb8 => ?_)
        rw [← hnxt] at ho8
        (repeat (first | (apply WL.add; rfl; rfl; rfl; rfl; omega; omega) | (apply WL.pure; rfl; rfl; rfl) | (apply WL.nil) | (apply EX.thenN) | (apply CW.region) | (apply EX.inN)))
        exact EX.back (i + 1, rv') (by repeat (first | exact trivial | refine ⟨rfl, ?_⟩)) ⟨hi', ho8, Below.grown e7 hg8 e7.size (fun g hg => (hrv.lt g hg).1)⟩ (by dsimp only; omega)
      have hie : i = row.length := by simp only [decide_eq_false_iff_not] at h; omega
      subst hie
      have hdr : (List.range row.length).map (dblAt nx.length dice row k) = dRow nx.length dice row k := rfl
      rw [hdr] at hrv
      have hb6 := hb6.ext e7
      have hnv7 := (hnv.extN e6).extN e7
      have z7 := e7.size
      have hlr := fun g hg => (hrv.lt g hg).1
      obtain ⟨vo, vc, rfl⟩ := hrv.val
      clear h
      (repeat (first | (apply WL.pure; rfl; rfl; rfl) | (apply EX.thenN) | (apply CW.region) | (apply WL.fa; rfl; rfl; rfl) | (apply WL.ld; rfl; rfl; rfl; assumption; rfl) | (apply CW.exit) | (apply EX.thenX) | (apply EX.inX)))
      refine WL.app1 (α := Raw) (F := Non) (bytes := 24) (yv := (⟨.slice vo (dRow nx.length dice row k).length vc⟩ : Raw)) rfl rfl (fun _ => rfl) rfl rfl (fun _ => rfl) hnv7 (Rd.mkRaw _ _ _ rfl) (by omega) (fun _ h => h.elim) (by decide) (by unfold maxLen; omega) (by omega) (fun nv' w8 q8 ho8 hg8 hnb8 => ?_)
      obtain ⟨no', nc', rfl⟩ := ho8.val
      have hb68 := hb6.kept hg8 (fun e => by have := (hnl b6 e.symm).1; omega)
      have z8 := hg8.size
      (repeat (apply WL.fa; rfl; rfl; rfl))
      refine WL.st rfl rfl rfl hb68 rfl rfl (ones_of rfl) (fun w9 hb69 hg9 => ?_)
      have hrF : Rd w7 (Fz w7 (fun b => (b = b6 ∨ b = w1.heap.size) ∨ Value.ownBlock (.slice no vs.length nc) = some b)) (.slice vo (dRow nx.length dice row k).length vc) (dRow nx.length dice row k) :=
        hrv.rd.mono (fun _ _ => rfl) (fun g hg => hg.elim (fun h => h.elim) (fun hg => ⟨(hrv.lt g hg).2.1, fun h => by
          have h1 := hlr g hg
          rcases h with (h | h) | h
          · omega
          · omega
          · have := (hnl g h).2.1; omega⟩))
      have hin7 := (hin.to (M' := fun b => (b = b6 ∨ b = w1.heap.size) ∨ Value.ownBlock (.slice no vs.length nc) = some b) (Chg.of_ext _ (e6.trans e7)) (fun _ h => .inl h)).push hrF
      have hC8 : Chg (fun b => b = b6 ∨ Value.ownBlock (.slice no vs.length nc) = some b) w7 w9 := ((Chg.of_grown hg8).wk (fun _ h => .inr h)).grown hg9 (fun g hg => by cases hg; exact .inl rfl)
      have hin9 := hin7.to (M' := fun b => (b = b6 ∨ b = w1.heap.size) ∨ Value.ownBlock (.slice no' (vs ++ [(⟨.slice vo (dRow nx.length dice row k).length vc⟩ : Raw)]).length nc') = some b) (hC8.wk (fun _ h => h.imp .inl id)) (fun g hg => hg.elim (fun h => .inl (.inl h)) (fun h => (hnb8 g h).imp .inr id))
      rw [← hdk] at hin9
      have hC9 : Chg (fun b => b = b6) w4 w9 := (hC5.trans (Chg.of_ext _ (e6.trans e7))).then hC8 (fun g hg => hg.elim .inl (fun h => .inr (hnl g h).1))
      (repeat (first | (apply WL.add; rfl; rfl; rfl; rfl; omega; omega) | (apply WL.pure; rfl; rfl; rfl) | (apply WL.nil) | (apply EX.thenN) | (apply CW.region) | (apply EX.inN)))
      exact EX.back (k + 1, _, vs ++ [_]) (by repeat (first | exact trivial | refine ⟨rfl, ?_⟩)) ⟨hk', hb69, ho8.keptN hg9 (fun g hg e => by
        have := Option.some.inj e
        rcases hnb8 g hg with h | h
        · have := (hnl g h).1; omega
        · omega), hin9, hC9⟩ (by dsimp only; omega)
    have hie : k = 2 * nx.length := by simp only [decide_eq_false_iff_not] at h; omega
    subst hie
    have hdn : (List.range (2 * nx.length)).map (fun k => dRow nx.length dice (nx.getD (k % nx.length) []) k) = dNext nx dice := rfl
    rw [hdn] at hin
    -- what is read from now on
    have hne : ∀ g, Value.ownBlock (.slice no vs.length nc) = some g → g ≠ b6 := fun g hg e => by have := (hnl g hg).1; omega
    obtain ⟨no2, nc2, en, hnF⟩ := hin.sl (F := Fz w5 (fun b => b = b6 ∨ b = w1.heap.size)) hnv (fun b hb => ⟨hb.1, fun h => hb.2 (.inl h)⟩) (fun g hg => ⟨(hnl g hg).2.1, fun h => h.elim (hne g hg) (fun h => by have := (hnl g hg).1; omega)⟩)
    obtain ⟨rfl, hvl2, rfl⟩ := Value.slice.inj en
    rw [hvl2] at hb6
    have hsF := hsF.fz (M' := fun b => b = b6 ∨ b = w1.heap.size) (hC5.wk (fun _ h => .inl h)) (fun b h => .inl h)
    have hlF := hlF.fz (M' := fun b => b = b6 ∨ b = w1.heap.size) (hC5.wk (fun _ h => .inl h)) (fun b h => .inl h)
    have hb4 : Blk w5 w1.heap.size 51 [.slice none 0 0, .slice none 0 0, .slice none 0 0, .slice none 0 0] := (hC5.block _ (by omega) (by omega)).trans hb4
    clear hin hnv hC5 hne hnl h en hvl hvl2 hdn hk
    (repeat (first | (apply WL.pure; rfl; rfl; rfl) | (apply WL.nil) | (apply EX.thenN) | (apply CW.seq) | (apply CW.region) | (apply WL.lenS; rfl; rfl; rfl) | (apply WL.fa; rfl; rfl; rfl) | (apply WL.ld; rfl; rfl; rfl; assumption; rfl) | (apply CW.block) | (apply CW.exit) | (apply EX.thenX) | (apply EX.inX)))
    -- the sets
    refine CW.loop (S := Nat × Value × List Raw) (fun s => [(4, .pointer (some ⟨w1.heap.size, 0, none⟩)), (5, .int .i64 nx.length), (6, .pointer (some ⟨b6, 0, none⟩)), (70, .slice a4 fr.length c4), (71, .int .i64 fr.length), (72, .int .i64 s.1)])
      (fun s w => s.1 ≤ fr.length ∧ Blk w b6 51 [.slice so st.length sc, .slice no (dNext nx dice).length nc, .slice lo (lb ++ lb).length lc, s.2.1] ∧ Own w w5.heap.size 22 Non s.2.1 s.2.2 ∧
        InnR w (fun b => (b = b6 ∨ b = w1.heap.size) ∨ s.2.1.ownBlock = some b) s.2.2 ((fr.take s.1).map fun F => F ++ F.map fun x => x + (nx.length : Int)) ∧ Chg (fun b => b = b6) w5 w)
      (fun s => fr.length - s.1) (0, .slice none 0 0, []) (by repeat (first | exact trivial | refine ⟨rfl, ?_⟩)) ⟨Nat.zero_le _, hb6, Own.nil, InnR.nil, Chg.refl _ _⟩ ?_
    clear hb6
    rintro ⟨j, fv, fs⟩ w6 ⟨hj, hb6, hfv, hin, hC6⟩
    dsimp only at hj hb6 hfv hin hC6 ⊢
    have z6 := hC6.size
    have hfl : fs.length = j := by rw [hin.len, List.length_map, List.length_take]; omega
    have hE6 : Ext w0 w6 := hC6.ext hE5 (fun b hb => by omega)
    have hfl2 := fun g hg => hfv.lt g hg
    obtain ⟨fo, fc, rfl⟩ := hfv.val
    (repeat (first | (apply WL.pure; rfl; rfl; rfl) | (apply WL.nil) | (apply EX.thenN) | (apply CW.seq) | (apply CW.region)))
    refine CW.cond rfl (fun h => ?_) (fun h => ?_)
    · have hj' : j < fr.length := by simp only [decide_eq_true_eq] at h; omega
      have hFk := hokfr _ (List.getElem_mem hj')
      have htk : (fr.take (j + 1)).map (fun F => F ++ F.map fun x => x + (nx.length : Int)) = (fr.take j).map (fun F => F ++ F.map fun x => x + (nx.length : Int)) ++ [fr[j] ++ fr[j].map fun x => x + (nx.length : Int)] := by
        rw [List.take_add_one, List.getElem?_eq_getElem hj', List.map_append]; rfl
      have hFl := edges_row2 (g := fr) (j := j)
      rw [wgetDG hj'] at hFl
      clear h
      (repeat (first | (apply EX.thenN) | (apply CW.seq) | (apply CW.region) | (apply CW.block) | (apply CW.skip)))
      refine WL.elemN (i := j) rfl rfl rfl rfl rfl (h4.up hE6) hj' (fun _ => rfl) (fun u q hu => ?_)
      obtain ⟨ro, rc, rfl, hr⟩ := hu.sl
      clear hu
      generalize fr[j] = F at *
      (repeat (first | (apply WL.pure; rfl; rfl; rfl) | (apply WL.nil) | (apply EX.thenN) | (apply CW.seq) | (apply CW.region)))
      refine WL.call rfl rfl rfl (clone_int w6 hr (by omega)) ?_
      rintro cv w7 ⟨hcv, e7⟩
      (repeat (first | (apply WL.pure; rfl; rfl; rfl) | (apply WL.nil) | (apply EX.thenN) | (apply CW.seq) | (apply CW.region) | (apply WL.lenS; rfl; rfl; rfl) | (apply CW.block)))
      refine CW.loop (S := Nat × Value) (fun s => [(4, .pointer (some ⟨w1.heap.size, 0, none⟩)), (5, .int .i64 nx.length), (6, .pointer (some ⟨b6, 0, none⟩)), (13, s.2), (70, .slice a4 fr.length c4), (71, .int .i64 fr.length), (72, .int .i64 j), (78, .slice ro F.length rc), (79, .int .i64 F.length), (80, .int .i64 s.1)])
        (fun s w => s.1 ≤ F.length ∧ Own w w6.heap.size 3 Non s.2 (F ++ (F.take s.1).map fun x => x + (nx.length : Int)) ∧ Ext w6 w) (fun s => F.length - s.1) (0, cv) (by repeat (first | exact trivial | refine ⟨rfl, ?_⟩)) ⟨Nat.zero_le _, by simpa using hcv, e7⟩ ?_
      clear hcv e7
      rintro ⟨i, rv⟩ w8 ⟨hi, hrv, e8⟩
      dsimp only at hi hrv e8 ⊢
      have z8 := e8.size
      (repeat (first | (apply WL.pure; rfl; rfl; rfl) | (apply WL.nil) | (apply EX.thenN) | (apply CW.seq) | (apply CW.region)))
      refine CW.cond rfl (fun h => ?_) (fun h => ?_)
      · have hi' : i < F.length := by simp only [decide_eq_true_eq] at h; omega
        have hx0 := hFk _ (List.getElem_mem hi')
        have hnxt : F ++ (F.take (i + 1)).map (fun x => x + (nx.length : Int)) = (F ++ (F.take i).map fun x => x + (nx.length : Int)) ++ [F[i] + (nx.length : Int)] := by
          rw [List.take_add_one, List.getElem?_eq_getElem hi', List.map_append, List.append_assoc]; rfl
        clear h
        (repeat (first | (apply EX.thenN) | (apply CW.seq) | (apply CW.region) | (apply CW.block) | (apply CW.skip)))
        refine WL.elemN (i := i) rfl rfl rfl rfl rfl (hr.up e8) hi' (fun _ => rfl) (fun u q hu => ?_)
        rw [hu.int]
        clear hu
        generalize F[i] = x at *
        (repeat (first | (apply WL.add; rfl; rfl; rfl; rfl; omega; omega) | (apply WL.pure; rfl; rfl; rfl) | (apply WL.nil) | (apply EX.thenN) | (apply CW.region)))
        refine WL.app1 (α := Int) (F := Non) (bytes := 8) rfl rfl (fun _ => rfl) rfl rfl (fun _ => rfl) hrv (Rd.mkInt _ _ _) (by omega) (fun _ h => h.elim) (by decide) (by unfold maxLen; simp; omega) (by simp; omega) (fun rv' w9 q ho9 hg9 hnb9 => ?_)
        rw [← hnxt] at ho9
        (repeat (first | (apply WL.add; rfl; rfl; rfl; rfl; omega; omega) | (apply WL.pure; rfl; rfl; rfl) | (apply WL.nil) | (apply EX.thenN) | (apply CW.region) | (apply EX.inN)))
        exact EX.back (i + 1, rv') (by repeat (first | exact trivial | refine ⟨rfl, ?_⟩)) ⟨hi', ho9, Below.grown e8 hg9 e8.size (fun g hg => (hrv.lt g hg).1)⟩ (by dsimp only; omega)
      have hie : i = F.length := by simp only [decide_eq_false_iff_not] at h; omega
      subst hie
      rw [List.take_length] at hrv
      generalize F ++ F.map (fun x => x + (nx.length : Int)) = G at *
      have hb6 := hb6.ext e8
      have hfv8 := hfv.extN e8
      have hlr := fun g hg => (hrv.lt g hg).1
      obtain ⟨vo, vc, rfl⟩ := hrv.val
      clear h
      (repeat (first | (apply WL.pure; rfl; rfl; rfl) | (apply EX.thenN) | (apply CW.region) | (apply WL.fa; rfl; rfl; rfl) | (apply WL.ld; rfl; rfl; rfl; assumption; rfl) | (apply CW.exit) | (apply EX.thenX) | (apply EX.inX)))
      refine WL.app1 (α := Raw) (F := Non) (bytes := 24) (yv := (⟨.slice vo G.length vc⟩ : Raw)) rfl rfl (fun _ => rfl) rfl rfl (fun _ => rfl) hfv8 (Rd.mkRaw _ _ _ rfl) (by omega) (fun _ h => h.elim) (by decide) (by unfold maxLen; omega) (by omega) (fun fv' w9 q9 ho9 hg9 hnb9 => ?_)
      obtain ⟨fo', fc', rfl⟩ := ho9.val
      have hb69 := hb6.kept hg9 (fun e => by have := (hfl2 b6 e.symm).1; omega)
      have z9 := hg9.size
      (repeat (apply WL.fa; rfl; rfl; rfl))
      refine WL.st rfl rfl rfl hb69 rfl rfl (ones_of rfl) (fun w10 hb610 hg10 => ?_)
      have hrF : Rd w8 (Fz w8 (fun b => (b = b6 ∨ b = w1.heap.size) ∨ Value.ownBlock (.slice fo fs.length fc) = some b)) (.slice vo G.length vc) G :=
        hrv.rd.mono (fun _ _ => rfl) (fun g hg => hg.elim (fun h => h.elim) (fun hg => ⟨(hrv.lt g hg).2.1, fun h => by
          have h1 := hlr g hg
          rcases h with (h | h) | h
          · omega
          · omega
          · have := (hfl2 g h).2.1; omega⟩))
      have hin8 := (hin.to (M' := fun b => (b = b6 ∨ b = w1.heap.size) ∨ Value.ownBlock (.slice fo fs.length fc) = some b) (Chg.of_ext _ e8) (fun _ h => .inl h)).push hrF
      have hC9 : Chg (fun b => b = b6 ∨ Value.ownBlock (.slice fo fs.length fc) = some b) w8 w10 := ((Chg.of_grown hg9).wk (fun _ h => .inr h)).grown hg10 (fun g hg => by cases hg; exact .inl rfl)
      have hin10 := hin8.to (M' := fun b => (b = b6 ∨ b = w1.heap.size) ∨ Value.ownBlock (.slice fo' (fs ++ [(⟨.slice vo G.length vc⟩ : Raw)]).length fc') = some b) (hC9.wk (fun _ h => h.imp .inl id)) (fun g hg => hg.elim (fun h => .inl (.inl h)) (fun h => (hnb9 g h).imp .inr id))
      rw [← htk] at hin10
      have hC10 : Chg (fun b => b = b6) w5 w10 := (hC6.trans (Chg.of_ext _ e8)).then hC9 (fun g hg => hg.elim .inl (fun h => .inr (hfl2 g h).1))
      (repeat (first | (apply WL.add; rfl; rfl; rfl; rfl; omega; omega) | (apply WL.pure; rfl; rfl; rfl) | (apply WL.nil) | (apply EX.thenN) | (apply CW.region) | (apply EX.inN)))
      exact EX.back (j + 1, _, fs ++ [_]) (by repeat (first | exact trivial | refine ⟨rfl, ?_⟩)) ⟨hj', hb610, ho9.keptN hg10 (fun g hg e => by
        have := Option.some.inj e
        rcases hnb9 g hg with h | h
        · have := (hfl2 g h).1; omega
        · omega), hin10, hC10⟩ (by dsimp only; omega)
    have hie : j = fr.length := by simp only [decide_eq_false_iff_not] at h; omega
    subst hie
    rw [List.take_length] at hin
    have hdn : fr.map (fun F => F ++ F.map fun x => x + (nx.length : Int)) = dFair nx.length fr := rfl
    rw [hdn] at hin
    have hne : ∀ g, Value.ownBlock (.slice fo fs.length fc) = some g → g ≠ b6 := fun g hg e => by have := (hfl2 g hg).1; omega
    obtain ⟨fo2, fc2, en, hfF⟩ := hin.sl (F := Fz w6 (fun b => b = b6 ∨ b = w1.heap.size)) hfv (fun b hb => ⟨hb.1, fun h => hb.2 (.inl h)⟩) (fun g hg => ⟨(hfl2 g hg).2.1, fun h => h.elim (hne g hg) (fun h => by have := (hfl2 g hg).1; omega)⟩)
    obtain ⟨rfl, hvl2, rfl⟩ := Value.slice.inj en
    rw [hvl2] at hb6
    have hsF := hsF.fz (M' := fun b => b = b6 ∨ b = w1.heap.size) (hC6.wk (fun _ h => .inl h)) (fun b h => .inl h)
    have hlF := hlF.fz (M' := fun b => b = b6 ∨ b = w1.heap.size) (hC6.wk (fun _ h => .inl h)) (fun b h => .inl h)
    have hnF := hnF.fz (M' := fun b => b = b6 ∨ b = w1.heap.size) (hC6.wk (fun _ h => .inl h)) (fun b h => .inl h)
    have hb4 : Blk w6 w1.heap.size 51 [.slice none 0 0, .slice none 0 0, .slice none 0 0, .slice none 0 0] := (hC6.block _ (by omega) (by omega)).trans hb4
    clear hin hfv hC6 hne hfl2 h en hfl hvl2 hdn hj
    (repeat (first | (apply EX.thenN) | (apply CW.seq) | (apply CW.region) | (apply WL.ldA; rfl; rfl; rfl; assumption; rfl) | (apply CW.exit) | (apply EX.thenX) | (apply EX.inX)))
    refine WL.st rfl rfl rfl hb4 rfl rfl (ones_of rfl) (fun w7 hb4 hg7 => ?_)
    have hE7 : Ext w0 w7 := hE6.grown hg7 hE6.size (fun g hg => by cases hg; omega)
    have up : ∀ {α : Type} [Rep α] {ao : Option Addr} {cap : Nat} {xs : List α}, Sl w6 (Fz w6 (fun b => b = b6 ∨ b = w1.heap.size)) ao cap xs → Sl w7 (Old w7) ao cap xs := fun h => h.mono (fun b hb => hg7.block b hb.1 (fun e => hb.2 (.inr (Option.some.inj e)))) (fun b hb => Nat.lt_of_lt_of_le hb.1 hg7.size)
    (repeat (first | (apply WL.nil) | (apply EX.thenN) | (apply CW.ret)))
    refine EX.retC rfl rfl hb4 rfl ⟨_, rfl, ?_, hE7⟩
    exact Rd.mkPr (c1 := [_]) (c2 := [_, _, _]) (rd_mkSl (up hsF)) (rd_mk (c1 := [_]) (c2 := [_, _]) (rd_mkSl (up hnF)) (rd_mk (c1 := [_]) (c2 := [_]) (rd_mkSl (up hlF)) (rd_mkSl (up hfF))))
set_option maxHeartbeats 2000000 in
theorem LabelTwins_ok (w0 : World) {f : Ltl} {vf : Value} {a1 a2 a3 a4 : Option Addr} {c1 c2 c3 c4 : Nat} {st : List Int} {nx fr : Graph} {lb : List Nat} (hf : CL w0 vf f) (h1 : Sl w0 (Old w0) a1 c1 st) (h2 : Sl w0 (Old w0) a2 c2 nx) (h3 : Sl w0 (Old w0) a3 c3 lb) (h4 : Sl w0 (Old w0) a4 c4 fr)
    (dice : Int) (hst : st.length ≤ 1048576) (hT : edges nx ≤ 1048576) (hF : edges fr ≤ 1048576) :
    Rt Try.prog 7 [worldV a1 c1 a2 c2 a3 c3 a4 c4 st.length nx.length lb.length fr.length, vf, .int .i64 dice].toArray w0 fun v w' => v = .bool true ∧ Ext w0 w' := by
  obtain ⟨fo, fc, rfl, hk⟩ := Rd.ltl hf
  have hm2 := h2.len63
  refine Rt.enter3 Try.func7 Try.ntmps7 rfl rfl ?_
  (repeat (first | (apply CW.seq) | (apply CW.region)))
  refine WL.boxB rfl rfl rfl fun w1 hb3 e1 => ?_
  refine WL.boxB rfl rfl rfl fun w2 hb4 e2 => ?_
  have hb3 := hb3.ext e2
  have hE2 := e1.trans e2
  clear e1 e2
  (repeat (first | (apply WL.pure; rfl; rfl; rfl) | (apply WL.nil) | (apply EX.thenN) | (apply CW.seq) | (apply CW.region)))
  refine WL.call rfl rfl rfl (known_ok w2) ?_
  rintro v w3 ⟨rfl, e3⟩
  have hb3 := hb3.ext e3
  have hb4 := hb4.ext e3
  have hE3 := hE2.trans e3
  clear e3 hE2
  (repeat (first | (apply WL.pure; rfl; rfl; rfl) | (apply WL.nil) | (apply EX.thenN) | (apply CW.seq) | (apply CW.region) | (apply WL.ldA; rfl; rfl; rfl; assumption; rfl) | (apply CW.condF; rfl) | (apply CW.skip)))
  refine WL.call rfl rfl rfl (labels_ok w3 (h1.up hE3) (h2.up hE3) (h3.up hE3) (h4.up hE3) (hk.up hE3) (by omega)) ?_
  rintro _ w4 ⟨x, rfl, hx, e4⟩
  have hb3 := hb3.ext e4
  have hb4 := hb4.ext e4
  have hE4 := hE3.trans e4
  clear e4 hE3
  by_cases n1 : labE st nx lb.length fr f = 0
  case neg =>
    rw [decide_eq_false n1]
    (repeat (first | (apply WL.pure; rfl; rfl; rfl) | (apply WL.nil) | (apply EX.thenN) | (apply CW.seq) | (apply CW.region) | (apply WL.pass; rfl; rfl) | (apply CW.condT; rfl) | (apply CW.ret) | (apply EX.thenR)))
    exact EX.ret1 rfl rfl ⟨rfl, hE4⟩
  rw [decide_eq_true n1]
  rw [if_pos n1] at hx
  obtain ⟨xo, xc, rfl, hxs⟩ := hx.asSl
  clear hx
  by_cases hn : nx.length ≤ 200
  case neg =>
    (repeat (first | (apply WL.pure; rfl; rfl; rfl) | (apply WL.nil) | (apply EX.thenN) | (apply CW.seq) | (apply CW.region) | (apply WL.lenS; rfl; rfl; rfl) | (apply WL.fa; rfl; rfl; rfl) | (apply WL.ld; rfl; rfl; rfl; assumption; rfl)))
    rw [decide_eq_true (show ((nx.length : Int) > 200) by omega)]
    (repeat (first | (apply WL.pure; rfl; rfl; rfl) | (apply WL.nil) | (apply EX.thenN) | (apply CW.seq) | (apply CW.region) | (apply CW.condT; rfl) | (apply CW.ret) | (apply EX.thenR)))
    exact EX.ret1 rfl rfl ⟨rfl, hE4⟩
  (repeat (first | (apply WL.pure; rfl; rfl; rfl) | (apply WL.nil) | (apply EX.thenN) | (apply CW.seq) | (apply CW.region) | (apply WL.lenS; rfl; rfl; rfl) | (apply WL.fa; rfl; rfl; rfl) | (apply WL.ld; rfl; rfl; rfl; assumption; rfl)))
  rw [decide_eq_false (show ¬ ((nx.length : Int) > 200) by omega)]
  obtain ⟨hc, hcf⟩ := labE_ok n1
  have hc2 := chk_doubled (dice := dice) hc hn
  have hT2 : edges (dNext nx dice) ≤ 8589934592 := by
    have h := dNext_edges (nx := nx) (dice := dice)
    have h3 : 2 * nx.length * edges nx ≤ 400 * 1048576 := Nat.mul_le_mul (by omega) hT
    omega
  have n2 : labE st (dNext nx dice) (lb ++ lb).length (dFair nx.length fr) f = 0 := by unfold labE; rw [hc2, if_neg (by decide)]; exact hcf
  have hhalf := twin_halves (dice := dice) (t := f) hc
  have hlb : (boolsN (dNext nx dice).length (ctlF (dNext nx dice) (lb ++ lb) (dFair nx.length fr) f)).length = 2 * nx.length := by rw [boolsN_len, dNext_len]
  (repeat (first | (apply EX.thenN) | (apply CW.seq) | (apply CW.condF; rfl) | (apply CW.skip)))
  have hSE : ∀ z, (fun z : World => Ext w4 z) z → Ext w4 z := fun _ h => h
  skip
  refine CW.drawH (fun x => Ext w4 x) [(0, true), (1, true), (3, true), (2, false), (4, false), (5, true), (6, true), (7, true), (8, true), (9, true)] mixed (by kernel_rfl) (Ext.drew w4) ?_
  (repeat (first | (apply HL.pure; rfl; rfl; rfl; rfl) | (refine HL.ldA (by assumption) rfl rfl rfl rfl (by assumption) rfl ?_)))
  have hd : Ext w0 (drew w4) := hE4.trans (Ext.drew w4)
  refine HL.mut rfl (WL.call rfl rfl rfl (doubled_ok (drew w4) (h1.up hd) (h2.up hd) (h3.up hd) (h4.up hd) dice hc hn (by omega) (by omega) (by omega)) ?_)
  rintro _ w5 ⟨x, rfl, hr, e5⟩
  have x5 : Ext w4 w5 := (Ext.drew w4).trans e5
  refine WL.nil (EX.mut x5 ?_)
  have hd := hE4.trans x5
  obtain ⟨b1, d1, b2, d2, b3, d3, b4, d4, rfl, g1, g2, g3, g4⟩ := hr.world
  dsimp only at g1 g2 g3 g4 ⊢
  skip
  refine HL.mut rfl (WL.call rfl rfl rfl (labels_ok w5 g1 g2 g3 g4 (hk.up hd) hT2) ?_)
  rintro _ w6 ⟨y, rfl, hy, e6⟩
  have x6 : Ext w4 w6 := x5.trans e6
  refine WL.nil (EX.mut x6 ?_)
  rw [if_pos n2] at hy
  rw [decide_eq_true n2]
  (repeat (first | (apply HL.pure; rfl; rfl; rfl; rfl) | (apply HL.nil)))
  have hE6 := hE4.trans x6
  have hb3 := hb3.ext x6
  have hxs := hxs.up x6
  clear x5 x6 e5 e6 hd hr g1 g2 g3 g4 hE4
  generalize boolsN (dNext nx dice).length (ctlF (dNext nx dice) (lb ++ lb) (dFair nx.length fr) f) = D at *
  (repeat (first | (apply WL.pure; rfl; rfl; rfl) | (apply WL.nil) | (apply EX.thenN) | (apply CW.seq) | (apply CW.region) | (apply WL.lenS; rfl; rfl; rfl) | (apply WL.fa; rfl; rfl; rfl) | (apply WL.ld; rfl; rfl; rfl; assumption; rfl)))
  refine WL.cutHiO (α := Bool) nx.length rfl rfl rfl rfl rfl hy (by omega) (fun v1 hv1 hg1 => ?_)
  rw [hhalf.1] at hv1
  obtain ⟨uo, uc, rfl, hus⟩ := hv1.asSl
  (repeat (apply WL.pure; rfl; rfl; rfl))
  refine WL.call rfl rfl rfl (equal_bool w6 hus hxs) ?_
  rintro _ w7 ⟨rfl, e7⟩
  rw [show (boolsN nx.length (ctlF nx lb fr f) == boolsN nx.length (ctlF nx lb fr f)) = true by simp]
  have hy := hy.extN e7
  have hxs := hxs.up e7
  (repeat (apply WL.pure; rfl; rfl; rfl))
  refine WL.cutLoO (α := Bool) nx.length rfl rfl rfl rfl rfl hy (by omega) (fun v2 hv2 hg2 => ?_)
  rw [hhalf.2] at hv2
  obtain ⟨vo, vc, rfl, hvs⟩ := hv2.asSl
  (repeat (apply WL.pure; rfl; rfl; rfl))
  refine WL.call rfl rfl rfl (equal_bool w7 hvs hxs) ?_
  rintro _ w8 ⟨rfl, e8⟩
  rw [show (boolsN nx.length (ctlF nx lb fr f) == boolsN nx.length (ctlF nx lb fr f)) = true by simp]
  (repeat (first | (apply WL.pure; rfl; rfl; rfl) | (apply WL.nil) | (apply EX.thenN) | (apply CW.ret)))
  exact EX.ret1 rfl rfl ⟨rfl, hE6.trans (e7.trans e8)⟩
end Go.Proofs.Ytbphcblopoegcaa
/-
  From the form's readings of the arguments to our own, and back: what a law's proof needs at its two ends.
-/
set_option linter.unusedVariables false
set_option linter.unusedSimpArgs false
namespace Go.Proofs.Ytbphcblopoegcaa
open Go.RowKit Go.ChangeShapes Go.WideShapes Go.ChangeAt

theorem bulk_one {H : Type} (d : DataW H) : 1 ≤ Rows.uptoBulk d := by
  cases d with
  | lit l => cases l <;> simp [Rows.uptoBulk]
  | nil => simp [Rows.uptoBulk]
  | ptr d => simp [Rows.uptoBulk]
  | slice elems spare => simp [Rows.uptoBulk]
  | agg parts => simp [Rows.uptoBulk]
  | iface t d => simp [Rows.uptoBulk]
  | map entries => simp [Rows.uptoBulk]
  | held h => simp [Rows.uptoBulk]
theorem bulk_app {H : Type} (l r : List (DataW H)) : Rows.uptoBulkAll (l ++ r) = Rows.uptoBulkAll l + Rows.uptoBulkAll r := by
  induction l with
  | nil => simp [Rows.uptoBulkAll]
  | cons x l ih => simp only [List.cons_append, Rows.uptoBulkAll, ih]; omega

/-- the bound, as the form hands it over -/
theorem bound {H : Type} {l : List (DataW H)} (hk : Rows.uptoSmall H l = true) : Rows.uptoBulkAll l ≤ 1048576 := by
  simpa [Rows.uptoSmall] using hk
/-- how many values a value of ours holds -/
class Bk (α : Type) where
  bk : α → Nat
abbrev bk {α : Type} [Bk α] : α → Nat := Bk.bk
instance iOpen1 : Bk Int := ⟨fun _ => 1⟩
instance iOpen2 : Bk Bool := ⟨fun _ => 1⟩
instance iOpen3 : Bk Nat := ⟨fun _ => 1⟩
instance iOpen4 : Bk ByteArray := ⟨fun s => s.size + 1⟩
def bkL {α : Type} [Bk α] : List α → Nat
  | [] => 0
  | x :: r => bk x + bkL r
instance iOpen8 {α : Type} [Bk α] : Bk (List α) := ⟨fun l => bkL l + 1⟩

/-- what the form reads at a type, we read, too -/
class Opn (P : Program) (t : TypeId) (α : Type) [Rep α] [Bk α] : Prop where
  op : ∀ {H : Type} {enc : TypeId × Value → H} {w : World} {fuel : Nat} {cs : List Value} {d : DataW H} {ps : List MemPlace}, DataW.trod enc P w 0 (fun _ => true) true fuel t cs = some (d, ps) → ∃ x : α, rd w (Old w) cs x ∧ bk x ≤ Rows.uptoBulk d

theorem Opn.int {P : Program} {t : TypeId} (h : P.underlying t = some (.int .i64)) : Opn P t Int where
  op := by
    intro H enc w fuel cs d ps hd
    cases fuel with
    | zero => simp [DataW.trod] at hd
    | succ fuel =>
      unfold DataW.trod at hd
      rw [h] at hd
      split at hd <;> try (simp at *; done)
      rename_i k k' n e1
      simp at e1
      split at hd
      · rename_i hk
        simp at hd
        obtain ⟨rfl, rfl⟩ := hd
        exact ⟨n, by rw [hk.1, ← e1]; rfl, bulk_one _⟩
      · cases hd
theorem Opn.bool {P : Program} {t : TypeId} (h : P.underlying t = some .bool) : Opn P t Bool where
  op := by
    intro H enc w fuel cs d ps hd
    cases fuel with
    | zero => simp [DataW.trod] at hd
    | succ fuel =>
      unfold DataW.trod at hd
      rw [h] at hd
      split at hd <;> try (simp at *; done)
      rename_i b e1
      simp at hd
      obtain ⟨rfl, rfl⟩ := hd
      exact ⟨b, rfl, bulk_one _⟩
theorem Opn.u64 {P : Program} {t : TypeId} (h : P.underlying t = some (.int .u64)) : Opn P t Nat where
  op := by
    intro H enc w fuel cs d ps hd
    cases fuel with
    | zero => simp [DataW.trod] at hd
    | succ fuel =>
      unfold DataW.trod at hd
      rw [h] at hd
      split at hd <;> try (simp at *; done)
      rename_i k k' n e1
      simp at e1
      split at hd
      · rename_i hk
        simp at hd
        obtain ⟨rfl, rfl⟩ := hd
        have hwf := hk.2
        rw [← e1] at hwf
        have hb : 0 ≤ n ∧ n ≤ 18446744073709551615 := by simpa [Lit.wf, IntKind.min, IntKind.max, IntKind.signed, IntKind.bits] using hwf
        refine ⟨n.toNat, ⟨?_, by omega⟩, bulk_one _⟩
        rw [hk.1, ← e1, Int.toNat_of_nonneg hb.1]
      · cases hd
theorem Opn.string {P : Program} {t : TypeId} (h : P.underlying t = some .string) : Opn P t ByteArray where
  op := by
    intro H enc w fuel cs d ps hd
    cases fuel with
    | zero => simp [DataW.trod] at hd
    | succ fuel =>
      unfold DataW.trod at hd
      rw [h] at hd
      split at hd <;> try (simp at *; done)
      rename_i s e1
      split at hd
      · rename_i hk
        simp at hd
        obtain ⟨rfl, rfl⟩ := hd
        refine ⟨s, ⟨rfl, hk⟩, ?_⟩
        show s.size + 1 ≤ _
        simp only [Rows.uptoBulk]
        have e : s.data.toList.length = s.size := by rw [Array.length_toList]; rfl
        omega
      · cases hd

theorem mapM_range {β : Type} (f : Nat → Option β) : ∀ (n : Nat) (es : List β), (List.range n).mapM f = some es → es.length = n ∧ ∀ i (h : i < es.length), f i = some es[i]
  | 0, es, h => by
    simp at h; subst h
    exact ⟨rfl, fun i hi => absurd hi (by simp)⟩
  | n + 1, es, h => by
    rw [List.range_succ, List.mapM_append] at h
    simp only [List.mapM_cons, List.mapM_nil, Option.bind_eq_bind, Option.pure_def] at h
    cases h1 : (List.range n).mapM f with
    | none => rw [h1] at h; cases h
    | some l =>
      rw [h1] at h
      cases h2 : f n with
      | none => rw [h2] at h; cases h
      | some y =>
        rw [h2] at h
        simp at h
        subst h
        obtain ⟨hl, hi⟩ := mapM_range f n l h1
        refine ⟨by simp [hl], fun i hlt => ?_⟩
        by_cases hi' : i < l.length
        · rw [List.getElem_append_left hi']; exact hi i hi'
        · have : i = n := by simp at hlt; omega
          subst this
          rw [List.getElem_append_right (by omega)]
          simpa [hl] using h2
theorem mapM_cells {w : World} {a : Addr} {n : Nat} {cs : List Value} (h : w.cells? 0 a n = some cs) : cs.length = n ∧ ∀ j (hj : j < cs.length), w.cell? (a.add j) = some cs[j] := by
  unfold World.cells? at h
  rw [if_pos (Nat.zero_le _)] at h
  exact mapM_range _ n cs h

theorem slice_op {P : Program} {t e : TypeId} {α : Type} [Rep α] [Bk α] [hs : IsS P t e] [ht : IsT P e α] {H : Type} {enc : TypeId × Value → H} {w : World} {fuel : Nat}
    (ho : ∀ {cs : List Value} {d : DataW H} {ps : List MemPlace}, DataW.trod enc P w 0 (fun _ => true) true fuel e cs = some (d, ps) → ∃ x : α, rd w (Old w) cs x ∧ bk x ≤ Rows.uptoBulk d)
    {cs : List Value} {d : DataW H} {ps : List MemPlace} (hd : DataW.trod enc P w 0 (fun _ => true) true (fuel + 1) t cs = some (d, ps)) : ∃ x : List α, rd w (Old w) cs x ∧ bk x ≤ Rows.uptoBulk d := by
  unfold DataW.trod at hd
  rw [hs.ok] at hd
  obtain ⟨i0, hi1, hi2⟩ := IsT.info (P := P) (t := e) (α := α)
  have hsz : P.cellsOf e = sz α := by simp [Program.cellsOf, hi1, hi2]
  have hp : 0 < sz α := Rep.pos
  split at hd <;> try (simp at *; done)
  · simp at hd
    obtain ⟨rfl, rfl⟩ := hd
    exact ⟨[], ⟨none, 0, rfl, by simp, by simp [maxLen], fun _ => rfl, fun i hi => absurd hi (by simp)⟩, bulk_one _⟩
  · rename_i e' a len cap e1
    cases e1
    simp only at hd
    split at hd
    · rename_i hc
      obtain ⟨_, hle, hmx⟩ := hc
      rw [hsz] at hd
      cases hm : (List.range len).mapM (fun i => (w.cells? 0 (a.add (i * sz α)) (sz α)).bind (DataW.trod enc P w 0 (fun _ => true) true fuel e)) with
      | none => rw [hm] at hd; cases hd
      | some elems =>
        rw [hm] at hd
        simp only [Option.bind_some, if_true] at hd
        obtain ⟨rest, _, hd2⟩ := Option.map_eq_some_iff.1 hd
        simp only [Prod.mk.injEq] at hd2
        obtain ⟨rfl, _⟩ := hd2
        obtain ⟨hlen, hget⟩ := mapM_range _ len elems hm
        -- one element at a time
        have one : ∀ i (h : i < elems.length), ∃ x : α, (∃ b off, some a = some ⟨b, off, none⟩ ∧ Old w b ∧ ∃ es, Cells w b (off + i * sz α) es ∧ rd w (Old w) es x) ∧ bk x ≤ Rows.uptoBulk (elems[i]).1 := by
          intro i hi
          have h1 := hget i hi
          cases hcs : w.cells? 0 (a.add (i * sz α)) (sz α) with
          | none => rw [hcs] at h1; cases h1
          | some es =>
            rw [hcs] at h1
            simp only [Option.bind_some] at h1
            obtain ⟨x, hr, hb⟩ := ho (d := (elems[i]).1) (ps := (elems[i]).2) h1
            obtain ⟨hl, hc⟩ := mapM_cells hcs
            have h0 := hc 0 (by omega)
            have hspot : a.spot = none := by
              cases hsp : a.spot with
              | none => rfl
              | some k =>
                -- the first element's first cell lies at the address itself
                have h2 := hget 0 (by omega)
                cases hcs0 : w.cells? 0 (a.add (0 * sz α)) (sz α) with
                | none => rw [hcs0] at h2; cases h2
                | some es0 =>
                  obtain ⟨hl0, hc0⟩ := mapM_cells hcs0
                  have h3 := hc0 0 (by omega)
                  have e3 : (a.add (0 * sz α)).add 0 = a := by simp [Addr.add]
                  rw [e3] at h3
                  unfold World.cell? at h3
                  split at h3
                  · simp [hsp] at h3
                  · cases h3
            obtain ⟨b, off, sp⟩ := a
            simp only at hspot
            subst hspot
            rw [WideShapes.add_plain] at hc h0
            have hblt : b < w.heap.size := World.block_lt_of_cell? w _ h0
            refine ⟨x, ⟨b, off, rfl, hblt, es, ?_, hr⟩, hb⟩
            intro j u hu
            obtain ⟨hj, rfl⟩ := List.getElem?_eq_some_iff.1 hu
            have := hc j hj
            rwa [WideShapes.add_plain] at this
        have all : ∀ k, k ≤ elems.length → ∃ xs : List α, xs.length = k ∧ (∀ i (h : i < xs.length), ∃ b off, some a = some ⟨b, off, none⟩ ∧ Old w b ∧ ∃ es, Cells w b (off + i * sz α) es ∧ rd w (Old w) es xs[i]) ∧ bkL xs ≤ Rows.uptoBulkAll ((elems.map (·.1)).take k) := by
          intro k
          induction k with
          | zero => intro _; exact ⟨[], rfl, fun i hi => absurd hi (by simp), by simp [bkL, Rows.uptoBulkAll]⟩
          | succ k ih =>
            intro hk
            obtain ⟨xs, h1, h2, h3⟩ := ih (by omega)
            obtain ⟨x, h4, h5⟩ := one k (by omega)
            refine ⟨xs ++ [x], by simp [h1], ?_, ?_⟩
            · intro i hi
              by_cases hlt : i < xs.length
              · rw [List.getElem_append_left hlt]; exact h2 i hlt
              · have : i = k := by simp at hi; omega
                subst this
                rw [List.getElem_append_right (by omega)]
                simpa [h1] using h4
            · have hb : ∀ (l : List α), bkL (l ++ [x]) = bkL l + bk x := by
                intro l; induction l with
                | nil => simp [bkL]
                | cons y l ih => simp only [List.cons_append, bkL, ih]; omega
              rw [hb, List.take_succ_eq_append_getElem (by simp; omega), bulk_app]
              simp only [List.getElem_map, Rows.uptoBulkAll]
              omega
        obtain ⟨xs, h1, h2, h3⟩ := all elems.length (Nat.le_refl _)
        have hx : xs.length = len := by omega
        refine ⟨xs, ⟨some a, cap, by rw [hx], ⟨by omega, hmx, (fun h => by cases h), h2⟩⟩, ?_⟩
        show bkL xs + 1 ≤ _
        rw [List.take_of_length_le (by simp)] at h3
        simp only [Rows.uptoBulk]
        omega
    · cases hd

theorem Opn.slice {P : Program} {t e : TypeId} {α : Type} [Rep α] [Bk α] [hs : IsS P t e] [ht : IsT P e α] [ho : Opn P e α] : Opn P t (List α) where
  op := by
    intro H enc w fuel cs d ps hd
    cases fuel with
    | zero => simp [DataW.trod] at hd
    | succ fuel => exact slice_op (e := e) (fun h => ho.op h) hd

theorem okWide_form {P : Program} {w : World} {r : Reach} {base : Nat} {t : TypeId} {v : Value} {d : TypeDesc} (hu : P.underlying t = some d) (h : Value.okWide P w r base t v) :
    (aggD d = false → v.oneCell' = true) ∧ (aggD d = true → ∃ cs, v = .agg cs) := by
  unfold Value.okWide at h
  rw [hu] at h
  constructor
  · intro hd
    cases v <;> first
      | rfl
      | (exfalso; cases d <;> simp [aggD] at hd <;> simp [Cell.okWide, Cell.ok, hu] at h)
  · intro hd
    cases d <;> simp [aggD] at hd <;> (obtain ⟨cs, rfl, _⟩ := h; exact ⟨cs, rfl⟩)
/-- an argument, opened -/
theorem Opn.arg {P : Program} {t : TypeId} {α : Type} [Rep α] [Bk α] [ht : IsT P t α] [ho : Opn P t α] {H : Type} {enc : TypeId × Value → H} {w : World} {v : Value} {d : DataW H} {ps : List MemPlace} {r : Reach} {base : Nat}
    (hv : Value.okWide P w r base t v) (h : DataW.Trod enc P w 0 (fun _ => true) true t v d ps) : ∃ x : α, Rd w (Old w) v x ∧ bk x ≤ Rows.uptoBulk d := by
  obtain ⟨i, dd, _, _, h3, h4⟩ := ht.ok
  obtain ⟨f1, f2⟩ := okWide_form h3 hv
  obtain ⟨fuel, hf⟩ := h
  obtain ⟨x, hr, hb⟩ := ho.op hf
  refine ⟨x, ⟨v.cells.toList, ?_, hr⟩, hb⟩
  unfold vOf
  split
  · rename_i he
    obtain ⟨cs, rfl⟩ := f2 (h4.trans he)
    simp [Value.cells]
  · rename_i he
    have := f1 (h4.trans he)
    cases v <;> first | rfl | (simp [Value.oneCell'] at this)

theorem trodAll_below {H : Type} {enc : TypeId × Value → H} {P : Program} (hl : laidOutB P = true) {W W' : World} (hb : Ext W W') : ∀ {ts : List TypeId} {vs : List Value} {ds : List (DataW H)} {ps : List MemPlace},
    (∀ t ∈ ts, P.readableRec t = true ∧ t < P.types.size) → DataW.TrodAll enc P W 0 (fun _ => true) true ts vs ds ps → (∀ x ∈ ps, x.block < W.heap.size) →
    DataW.TrodAll enc P W' 0 (fun b => decide (b < W.heap.size)) true ts vs ds ps
  | [], [], [], _, _, h, _ => h
  | t :: ts, v :: vs, d :: ds, ps, hr, h, hlt => by
    obtain ⟨p, q, h1, h2, rfl⟩ := h
    exact ⟨p, q, Below.trod hl (hr t (by simp)).1 (hr t (by simp)).2 h1 hb (fun x hx => hlt x (by simp [hx])),
      trodAll_below hl hb (fun t ht => hr t (by simp [ht])) h2 (fun x hx => hlt x (by simp [hx])), rfl⟩
  | [], [], _ :: _, _, _, h, _ => h.elim
  | [], _ :: _, [], _, _, h, _ => h.elim
  | [], _ :: _, _ :: _, _, _, h, _ => h.elim
  | _ :: _, [], [], _, _, h, _ => h.elim
  | _ :: _, [], _ :: _, _, _, h, _ => h.elim
  | _ :: _, _ :: _, [], _, _, h, _ => h.elim

/-- the law's end: it returned true, and only new memory was made -/
theorem law_post {H : Type} {enc : TypeId × Value → H} {P : Program} {fn : Func} {s : ChangeSpec} {W W' : World} {args : Array Value} {ds gs : List (DataW H)} {before : List MemPlace} {tb : TypeId}
    (hl : laidOutB P = true) (hW : DataW.Whole enc P fn.params.toList s.vars false W args.toList ds gs before) (hv : s.vars = []) (hr : ∀ t ∈ fn.params.toList, P.readableRec t = true ∧ t < P.types.size)
    (hsp : (s.fn H (ds ++ gs)).results = [.lit (.bool true)] ∧ (s.fn H (ds ++ gs)).args = ds ∧ (s.fn H (ds ++ gs)).vars = []) (hres : fn.resultTypes = #[tb]) (hb : P.underlying tb = some .bool) (hE : Ext W W') :
    s.post enc P fn false true false false W args (.bool true) W' := by
  have hlt := hW.lt
  have hW' := hW
  obtain ⟨p, q, hA, hV, rfl, _, _⟩ := hW
  rw [hv] at hV
  obtain ⟨e1, e2, e3⟩ := hsp
  refine ⟨ds, gs, p ++ q, [], p, [], hW', ?_, ?_, ?_, hE.frame _, fun h => by cases h⟩
  · rw [e1, hres]
    exact trodAll_mk1 (shut_bool hb true)
  · rw [e2]
    exact trodAll_below hl hE hr hA (fun x hx => hlt x (by simp [hx]))
  · rw [e3, hv]
    exact rfl
/- structs -/
instance iOpen9 {α β : Type} [Bk α] [Bk β] : Bk (α × β) := ⟨fun x => bk x.1 + bk x.2⟩
/-- a list of fields, from an offset on -/
class OpnFs (P : Program) (fs : List (TypeId × Nat)) (off : Nat) (α : Type) [Rep α] [Bk α] : Prop where
  op : ∀ {H : Type} {enc : TypeId × Value → H} {w : World} {fuel : Nat} {cs : List Value} {xs : List (DataW H × List MemPlace)}, off + sz α = cs.length →
    (fs.mapM fun f => DataW.trod enc P w 0 (fun _ => true) true fuel f.1 ((cs.drop f.2).take (P.cellsOf f.1))) = some xs → ∃ x : α, rd w (Old w) (cs.drop off) x ∧ bk x ≤ Rows.uptoBulkAll (xs.map (·.1))
theorem cellsOf_T {P : Program} {t : TypeId} {α : Type} [Rep α] [ht : IsT P t α] : P.cellsOf t = sz α := by
  obtain ⟨i, h1, h2⟩ := IsT.info (P := P) (t := t) (α := α)
  simp [Program.cellsOf, h1, h2]
instance OpnFs.one {P : Program} {t : TypeId} {off : Nat} {α : Type} [Rep α] [Bk α] [ht : IsT P t α] [ho : Opn P t α] : OpnFs P [(t, off)] off α where
  op := by
    intro H enc w fuel cs xs hl h
    simp only [List.mapM_cons, List.mapM_nil, Option.bind_eq_bind, Option.pure_def] at h
    cases h1 : DataW.trod enc P w 0 (fun _ => true) true fuel t ((cs.drop off).take (P.cellsOf t)) with
    | none => rw [h1] at h; cases h
    | some d =>
      rw [h1] at h; simp at h; subst h
      obtain ⟨d, ps⟩ := d
      obtain ⟨x, hr, hb⟩ := ho.op h1
      rw [cellsOf_T (α := α), List.take_of_length_le (by rw [List.length_drop]; omega)] at hr
      exact ⟨x, hr, by simpa [Rows.uptoBulkAll] using hb⟩
instance OpnFs.cons {P : Program} {t : TypeId} {off : Nat} {f : TypeId × Nat} {fs : List (TypeId × Nat)} {α β : Type} [Rep α] [Bk α] [Rep β] [Bk β] [ht : IsT P t α] [ho : Opn P t α] [hr : OpnFs P (f :: fs) (off + sz α) β] : OpnFs P ((t, off) :: f :: fs) off (α × β) where
  op := by
    intro H enc w fuel cs xs hl h
    rw [List.mapM_cons] at h
    simp only [Option.bind_eq_bind, Option.pure_def] at h
    have hl' : off + sz α + sz β = cs.length := by
      have : sz (α × β) = sz α + sz β := rfl
      omega
    cases h1 : DataW.trod enc P w 0 (fun _ => true) true fuel t ((cs.drop off).take (P.cellsOf t)) with
    | none => rw [h1] at h; cases h
    | some d =>
      rw [h1] at h
      simp only [Option.bind_some] at h
      obtain ⟨ys, h2, h3⟩ := Option.bind_eq_some_iff.1 h
      cases h3
      obtain ⟨d, ps⟩ := d
      obtain ⟨x, hx, hb⟩ := ho.op h1
      obtain ⟨y, hy, hc⟩ := hr.op hl' h2
      rw [cellsOf_T (α := α)] at hx
      refine ⟨(x, y), ⟨(cs.drop off).take (sz α), cs.drop (off + sz α), ?_, hx, hy⟩, ?_⟩
      · rw [← List.drop_drop, List.take_append_drop]
      · show bk x + bk y ≤ _
        simp only [List.map_cons, Rows.uptoBulkAll]
        omega
def stFact (P : Program) (t : TypeId) : Option (List (TypeId × Nat)) := match P.underlying t with
  | some (.struct fs) => some (fs.toList.map fun f => (f.type, f.offset))
  | _ => none
theorem Opn.struct {P : Program} {t : TypeId} {fs : List (TypeId × Nat)} {α : Type} [Rep α] [Bk α] [ht : IsT P t α] [hf : OpnFs P fs 0 α] (h : stFact P t = some fs) : Opn P t α where
  op := by
    intro H enc w fuel cs d ps hd
    unfold stFact at h
    split at h
    · rename_i gs hu
      cases h
      cases fuel with
      | zero => simp [DataW.trod] at hd
      | succ fuel =>
        unfold DataW.trod at hd
        rw [hu] at hd
        simp only at hd
        split at hd
        · rename_i hl
          obtain ⟨xs, h1, h2⟩ := Option.map_eq_some_iff.1 hd
          cases h2
          have := hf.op (enc := enc) (w := w) (fuel := fuel) (cs := cs) (xs := xs) (by rw [hl, cellsOf_T (α := α)]; omega) (by rw [List.mapM_map]; exact h1)
          obtain ⟨x, hr, hb⟩ := this
          exact ⟨x, by simpa using hr, by simp only [Rows.uptoBulk]; omega⟩
        · cases hd
    · cases h
instance iOpen5 : Opn Try.prog 3 Int := Opn.int Try.underlying3
instance iOpen6 : Opn Try.prog 22 (List Int) := Opn.slice
instance iOpen7 : Opn Try.prog 23 (List (List Int)) := Opn.slice
end Go.Proofs.Ytbphcblopoegcaa
/-
  The types of the arguments, as the form reads them.
-/
set_option linter.unusedVariables false
namespace Go.Proofs.Ytbphcblopoegcaa
open Go.RowKit

instance iOpn1 : Opn Try.prog 4 Bool := Opn.bool Try.underlying4
instance iOpn2 : Opn Try.prog 33 Nat := Opn.u64 Try.underlying33
instance iOpn3 : Opn Try.prog 9 ByteArray := Opn.string Try.underlying9
instance iOpn4 : Opn Try.prog 27 Int := Opn.int Try.underlying27
instance iOpn5 : Opn Try.prog 55 (List Bool) := Opn.slice
instance iOpn6 : Opn Try.prog 24 (List Nat) := Opn.slice
instance iOpn10 : Opn Try.prog 101 (ByteArray × Int) := Opn.struct (fs := [(9, 0), (3, 1)]) (by kernel_rfl)
instance iOpn11 : Opn Try.prog 104 (Int × Int) := Opn.struct (fs := [(3, 0), (3, 1)]) (by kernel_rfl)
instance iOpn12 : Opn Try.prog 95 (Int × Int × Int) := Opn.struct (fs := [(3, 0), (3, 1), (3, 2)]) (by kernel_rfl)
instance iOpn13 : Opn Try.prog 92 (Int × Int) := Opn.struct (fs := [(3, 0), (3, 1)]) (by kernel_rfl)
instance iOpn14 : Opn Try.prog 77 (List (ByteArray × Int)) := Opn.slice
instance iOpn15 : Opn Try.prog 78 (List (Int × Int)) := Opn.slice
instance iOpn16 : Opn Try.prog 87 (List (Int × Int × Int)) := Opn.slice
instance iOpn17 : Opn Try.prog 81 (List (Int × Int)) := Opn.slice
instance iOpn18 : Opn Try.prog 42 (List Nat × List Nat) := Opn.struct (fs := [(24, 0), (24, 1)]) (by kernel_rfl)
instance iOpn19 : Opn Try.prog 67 (List Int × List Int) := Opn.struct (fs := [(22, 0), (22, 1)]) (by kernel_rfl)
instance iOpn22 : Opn Try.prog 51 (List Int × List (List Int) × List Nat × List (List Int)) := Opn.struct (fs := [(22, 0), (23, 1), (24, 2), (23, 3)]) (by kernel_rfl)
instance iOpn23 : Opn Try.prog 26 (List Int × List (List Int) × List Nat × List Nat × List (List Int)) := Opn.struct (fs := [(22, 0), (23, 1), (24, 2), (24, 3), (23, 4)]) (by kernel_rfl)
instance iOpn24 : Opn Try.prog 80 (List (ByteArray × Int) × List (Int × Int)) := Opn.struct (fs := [(77, 0), (78, 1)]) (by kernel_rfl)
instance iOpn25 : Opn Try.prog 126 (Bool × List Int × List Int) := Opn.struct (fs := [(4, 0), (22, 1), (22, 2)]) (by kernel_rfl)
end Go.Proofs.Ytbphcblopoegcaa
/-
  Formulas as arguments.
-/
set_option linter.unusedVariables false
set_option linter.unusedSimpArgs false
namespace Go.Proofs.Ytbphcblopoegcaa
open Go.RowKit

instance iOpnLtl1 : Bk Ltl := ⟨Ltl.nodes⟩
theorem len3 {cs : List Value} (h : cs.length = 3) : ∃ c0 c1 c2, cs = [c0, c1, c2] := by
  match cs, h with
  | [a, b, c], _ => exact ⟨a, b, c, rfl⟩
theorem ltl_op {H : Type} {enc : TypeId × Value → H} {w : World} : ∀ (fuel : Nat) {cs : List Value} {d : DataW H} {ps : List MemPlace}, DataW.trod enc Try.prog w 0 (fun _ => true) true fuel 129 cs = some (d, ps) → ∃ x : Ltl, rd w (Old w) cs x ∧ bk x ≤ Rows.uptoBulk d := by
  intro fuel
  induction fuel using Nat.strongRecOn with
  | _ fuel ih =>
    intro cs d ps hd
    have hst : stFact Try.prog 129 = some [(3, 0), (3, 1), (127, 2)] := by kernel_rfl
    unfold stFact at hst
    split at hst
    · rename_i gs hu
      have hst := Option.some.inj hst
      cases fuel with
      | zero => simp [DataW.trod] at hd
      | succ fuel =>
        unfold DataW.trod at hd
        rw [hu] at hd
        simp only at hd
        split at hd
        · rename_i hl
          obtain ⟨xs, h1, h2⟩ := Option.map_eq_some_iff.1 hd
          cases h2
          have h3 : (List.map (fun f : Field => (f.type, f.offset)) gs.toList).mapM (fun f : TypeId × Nat => DataW.trod enc Try.prog w 0 (fun _ => true) true fuel f.1 ((cs.drop f.2).take (Try.prog.cellsOf f.1))) = some xs := by rw [List.mapM_map]; exact h1
          rw [hst] at h3
          rw [cellsOf_T (α := Ltl)] at hl
          have hl3 : cs.length = 3 := hl
          simp only [List.mapM_cons, List.mapM_nil, Option.bind_eq_bind, Option.pure_def] at h3
          obtain ⟨x1, e1, h3⟩ := Option.bind_eq_some_iff.1 h3
          obtain ⟨y1, h3, hy1⟩ := Option.bind_eq_some_iff.1 h3
          obtain ⟨x2, e2, h3⟩ := Option.bind_eq_some_iff.1 h3
          obtain ⟨y2, h3, hy2⟩ := Option.bind_eq_some_iff.1 h3
          obtain ⟨x3, e3, h3⟩ := Option.bind_eq_some_iff.1 h3
          simp at h3 hy2 hy1
          subst h3 hy2 hy1
          obtain ⟨d1, p1⟩ := x1
          obtain ⟨d2, p2⟩ := x2
          obtain ⟨d3, p3⟩ := x3
          rw [cellsOf_T (α := Int)] at e1 e2
          rw [cellsOf_T (α := List Ltl)] at e3
          obtain ⟨k, hk, bk1⟩ := Opn.op (P := Try.prog) (t := 3) (α := Int) e1
          obtain ⟨n, hn, bk2⟩ := Opn.op (P := Try.prog) (t := 3) (α := Int) e2
          cases fuel with
          | zero => simp [DataW.trod] at e3
          | succ fuel =>
            obtain ⟨kids, hkids, bk3⟩ := slice_op (α := Ltl) (e := 129) (fun h => ih fuel (by omega) h) e3
            obtain ⟨ao, cap, hc, hs⟩ := rd_sl hkids
            have hk' := rd_int hk
            have hn' := rd_int hn
            refine ⟨.mk k n kids, ?_, ?_⟩
            · clear hu hst h1 e1 e2 e3 ih bk1 bk2 bk3
              obtain ⟨c0, c1, c2, rfl⟩ := len3 hl3
              have a0 : [c0] = [.int .i64 k] := hk'
              have a1 : [c1] = [.int .i64 n] := hn'
              have a2 : [c2] = [.slice ao kids.length cap] := hc
              rw [List.cons.inj a0 |>.1, List.cons.inj a1 |>.1, List.cons.inj a2 |>.1]
              exact RdT.of hs
            · have hnl : ∀ l : List Ltl, bkL l = Ltl.nodesL l := by
                intro l
                induction l with
                | nil => rfl
                | cons x r ihl => simp only [bkL, Ltl.nodesL, ihl]; rfl
              have e3' : bk kids = bkL kids + 1 := rfl
              have e4 : bk (Ltl.mk k n kids) = 1 + Ltl.nodesL kids := by show Ltl.nodes _ = _; simp [Ltl.nodes]
              rw [e4, ← hnl]
              simp only [List.map_cons, List.map_nil, Rows.uptoBulk, Rows.uptoBulkAll]
              omega
        · cases hd
    · cases hst
instance iOpnLtl2 : Opn Try.prog 129 Ltl where
  op := fun h => ltl_op _ h
end Go.Proofs.Ytbphcblopoegcaa
/-
  Formulas of all ways as arguments.
-/
set_option linter.unusedVariables false
set_option linter.unusedSimpArgs false
namespace Go.Proofs.Ytbphcblopoegcaa
open Go.RowKit

theorem ctl_op {H : Type} {enc : TypeId × Value → H} {w : World} : ∀ (fuel : Nat) {cs : List Value} {d : DataW H} {ps : List MemPlace}, DataW.trod enc Try.prog w 0 (fun _ => true) true fuel 54 cs = some (d, ps) → ∃ x : Ltl, rd w (Old w) cs x ∧ bk x ≤ Rows.uptoBulk d := by
  intro fuel
  induction fuel using Nat.strongRecOn with
  | _ fuel ih =>
    intro cs d ps hd
    have hst : stFact Try.prog 54 = some [(3, 0), (3, 1), (52, 2)] := by kernel_rfl
    unfold stFact at hst
    split at hst
    · rename_i gs hu
      have hst := Option.some.inj hst
      cases fuel with
      | zero => simp [DataW.trod] at hd
      | succ fuel =>
        unfold DataW.trod at hd
        rw [hu] at hd
        simp only at hd
        split at hd
        · rename_i hl
          obtain ⟨xs, h1, h2⟩ := Option.map_eq_some_iff.1 hd
          cases h2
          have h3 : (List.map (fun f : Field => (f.type, f.offset)) gs.toList).mapM (fun f : TypeId × Nat => DataW.trod enc Try.prog w 0 (fun _ => true) true fuel f.1 ((cs.drop f.2).take (Try.prog.cellsOf f.1))) = some xs := by rw [List.mapM_map]; exact h1
          rw [hst] at h3
          rw [cellsOf_T (α := Ltl)] at hl
          have hl3 : cs.length = 3 := hl
          simp only [List.mapM_cons, List.mapM_nil, Option.bind_eq_bind, Option.pure_def] at h3
          obtain ⟨x1, e1, h3⟩ := Option.bind_eq_some_iff.1 h3
          obtain ⟨y1, h3, hy1⟩ := Option.bind_eq_some_iff.1 h3
          obtain ⟨x2, e2, h3⟩ := Option.bind_eq_some_iff.1 h3
          obtain ⟨y2, h3, hy2⟩ := Option.bind_eq_some_iff.1 h3
          obtain ⟨x3, e3, h3⟩ := Option.bind_eq_some_iff.1 h3
          simp at h3 hy2 hy1
          subst h3 hy2 hy1
          obtain ⟨d1, p1⟩ := x1
          obtain ⟨d2, p2⟩ := x2
          obtain ⟨d3, p3⟩ := x3
          rw [cellsOf_T (α := Int)] at e1 e2
          rw [cellsOf_T (α := List Ltl)] at e3
          obtain ⟨k, hk, bk1⟩ := Opn.op (P := Try.prog) (t := 3) (α := Int) e1
          obtain ⟨n, hn, bk2⟩ := Opn.op (P := Try.prog) (t := 3) (α := Int) e2
          cases fuel with
          | zero => simp [DataW.trod] at e3
          | succ fuel =>
            obtain ⟨kids, hkids, bk3⟩ := slice_op (α := Ltl) (e := 54) (fun h => ih fuel (by omega) h) e3
            obtain ⟨ao, cap, hc, hs⟩ := rd_sl hkids
            have hk' := rd_int hk
            have hn' := rd_int hn
            refine ⟨.mk k n kids, ?_, ?_⟩
            · clear hu hst h1 e1 e2 e3 ih bk1 bk2 bk3
              obtain ⟨c0, c1, c2, rfl⟩ := len3 hl3
              have a0 : [c0] = [.int .i64 k] := hk'
              have a1 : [c1] = [.int .i64 n] := hn'
              have a2 : [c2] = [.slice ao kids.length cap] := hc
              rw [List.cons.inj a0 |>.1, List.cons.inj a1 |>.1, List.cons.inj a2 |>.1]
              exact RdT.of hs
            · have hnl : ∀ l : List Ltl, bkL l = Ltl.nodesL l := by
                intro l
                induction l with
                | nil => rfl
                | cons x r ihl => simp only [bkL, Ltl.nodesL, ihl]; rfl
              have e3' : bk kids = bkL kids + 1 := rfl
              have e4 : bk (Ltl.mk k n kids) = 1 + Ltl.nodesL kids := by show Ltl.nodes _ = _; simp [Ltl.nodes]
              rw [e4, ← hnl]
              simp only [List.map_cons, List.map_nil, Rows.uptoBulk, Rows.uptoBulkAll]
              omega
        · cases hd
    · cases hst
instance iOpnCtl2 : Opn Try.prog 54 Ltl where
  op := fun h => ctl_op _ h
end Go.Proofs.Ytbphcblopoegcaa
/-
  Bulk of lists of numbers.
-/
namespace Go.Proofs.Ytbphcblopoegcaa
open Go.RowKit

theorem bulk_flat {α : Type} [Bk α] (h : ∀ x : α, bk x = 1) : ∀ l : List α, bkL l = l.length
  | [] => rfl
  | x :: r => by simp only [bkL, h, bulk_flat h r, List.length_cons]; omega
theorem bulk_l (l : List Int) : l.length + 1 = bk l := by show _ = bkL l + 1; rw [bulk_flat (fun _ => rfl)]
theorem bulk_b (l : List Bool) : l.length + 1 = bk l := by show _ = bkL l + 1; rw [bulk_flat (fun _ => rfl)]
theorem bulk_n (l : List Nat) : l.length + 1 = bk l := by show _ = bkL l + 1; rw [bulk_flat (fun _ => rfl)]
theorem bulk_g : ∀ g : List (List Int), edges g + g.length ≤ bkL g
  | [] => by simp [edges, bkL]
  | l :: g => by
    have h1 := bulk_g g
    have h3 : bk l = l.length + 1 := (bulk_l l).symm
    simp only [bkL, h3, edges, List.map_cons, List.sum_cons, List.length_cons] at h1 ⊢
    omega
theorem bulk_gg (g : List (List Int)) : edges g + g.length + 1 ≤ bk g := by
  have := bulk_g g
  show _ ≤ bkL g + 1
  omega
end Go.Proofs.Ytbphcblopoegcaa
