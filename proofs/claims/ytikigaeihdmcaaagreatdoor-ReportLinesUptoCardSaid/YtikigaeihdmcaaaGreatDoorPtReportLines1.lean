import Derived.WalkKit
import Derived.ProofKit
import Derived.Deep.Quiet
import Derived.Deep.LoopGhost
/-
  The engine of our walks: frames as short lists of slots, weakest preconditions over them, pure operations by evaluation. Over any program.
-/
set_option linter.unusedVariables false
set_option linter.unusedSimpArgs false
namespace Go.Proofs.YtikigaeihdmcaaaGreatDoor
open Go.RowKit

/- FRAMES -/
abbrev Sg := List (Nat × Value)

def fnd : Sg → Nat → Option Value
  | [], _ => none
  | (k, v) :: r, t => match Nat.beq k t with
    | true => some v
    | false => fnd r t

structure Fr (n : Nat) (σ : Sg) (a : Act) : Prop where
  size : a.tmps.size = n
  defers : a.defers = []
  slot : ∀ t v, fnd σ t = some v → a.tmps.getD t undef = v

def ev (σ : Sg) : Operand → Option Value
  | .tmp t => fnd σ t
  | .const v => some v
  | .global g => some (.pointer (some ⟨g, 0, none⟩))
  | .func f => some (.func (.func f) #[] #[])

theorem Fr.ev {n : Nat} {σ : Sg} {a : Act} (h : Fr n σ a) {x : Operand} {v : Value} (hx : ev σ x = some v) : a.eval x = v := by
  cases x with
  | tmp t => exact h.slot t v hx
  | const u => exact Option.some.inj hx
  | global g => exact Option.some.inj hx
  | func f => exact Option.some.inj hx

def putS (d : Option Nat) (v : Value) (σ : Sg) : Sg := match d with | some d => (d, v) :: σ | none => σ

theorem fnd_cons_eq {σ : Sg} {d : Nat} {v : Value} : fnd ((d, v) :: σ) d = some v := by
  show (match Nat.beq d d with | true => some v | false => fnd σ d) = _
  rw [Nat.beq_refl d]
theorem beq_ne {d t : Nat} (h : d ≠ t) : Nat.beq d t = false := by
  cases e : Nat.beq d t with
  | false => rfl
  | true => exact absurd (Nat.eq_of_beq_eq_true e) h
theorem fnd_cons_ne {σ : Sg} {d t : Nat} {v : Value} (h : d ≠ t) : fnd ((d, v) :: σ) t = fnd σ t := by
  show (match Nat.beq d t with | true => some v | false => fnd σ t) = _
  rw [beq_ne h]

def okD (n : Nat) : Option Nat → Bool | some d => Nat.ble (d + 1) n | none => true

theorem Fr.put {n : Nat} {σ : Sg} {a : Act} (h : Fr n σ a) {d : Option Nat} {v : Value} (hd : okD n d = true) : Fr n (putS d v σ) (a.put d v) := by
  cases d with
  | none => exact h
  | some d =>
    have hd' : d < n := Nat.le_of_ble_eq_true hd
    refine ⟨by simpa [Act.put] using h.size, by simpa [Act.put] using h.defers, ?_⟩
    intro t u hu
    by_cases e : d = t
    · subst e
      rw [putS, fnd_cons_eq] at hu
      cases hu
      simp [Act.put, Array.getD, h.size, hd']
    · rw [putS, fnd_cons_ne e] at hu
      have := h.slot t u hu
      simp only [Act.put, Array.getD_eq_getD_getElem?] at this ⊢
      rw [Array.getElem?_setIfInBounds_ne e]
      exact this

/-- one more binding of a slot that holds that value anyway -/
theorem Fr.set {n : Nat} {σ : Sg} {a : Act} (h : Fr n σ a) {s : Nat} {v : Value} (hs : fnd σ s = some v) : Fr n ((s, v) :: σ) a := by
  refine ⟨h.size, h.defers, fun t u hu => ?_⟩
  by_cases e : s = t
  · subst e; rw [fnd_cons_eq] at hu; cases hu; exact h.slot _ _ hs
  · rw [fnd_cons_ne e] at hu; exact h.slot _ _ hu

/-- every binding of τ is one of σ -/
def Sub : Sg → Sg → Prop
  | [], _ => True
  | p :: r, σ => fnd σ p.1 = some p.2 ∧ Sub r σ
theorem Sub.fnd {τ σ : Sg} (h : Sub τ σ) : ∀ t v, fnd τ t = some v → fnd σ t = some v := by
  induction τ with
  | nil => intro t v hv; cases hv
  | cons p r ih =>
    intro t v hv
    by_cases e : p.1 = t
    · subst e
      obtain ⟨d, u⟩ := p
      rw [fnd_cons_eq] at hv
      cases hv
      exact h.1
    · obtain ⟨d, u⟩ := p
      rw [fnd_cons_ne e] at hv
      exact ih h.2 t v hv
theorem Fr.sub {n : Nat} {σ τ : Sg} {a : Act} (h : Fr n σ a) (hs : Sub τ σ) : Fr n τ a := ⟨h.size, h.defers, fun t v hv => h.slot t v (hs.fnd t v hv)⟩

/- WEAKEST PRECONDITIONS -/
@[irreducible] def CW (P : Program) (c : Code) (Q : Exit → Act → World → Prop) (n : Nat) (σ : Sg) (w : World) : Prop := ∀ a, Fr n σ a → c.wp P Q a w
/-- an ending -/
@[irreducible] def EX (Q : Exit → Act → World → Prop) (e : Exit) (n : Nat) (σ : Sg) (w : World) : Prop := ∀ a, Fr n σ a → Q e a w
@[irreducible] def WL (P : Program) (ops : List Oper) (Q : Exit → Act → World → Prop) (l : List Oper) (n : Nat) (σ : Sg) (w : World) : Prop := ∀ a, Fr n σ a → wpList P ops.toArray Q l a w

section
variable {P : Program} {Q : Exit → Act → World → Prop} {n : Nat} {σ : Sg} {w : World}

theorem CW.seq {x y : Code} (h : CW P x (Exit.then (y.wp P Q) Q) n σ w) : CW P (.seq x y) Q n σ w := by
  unfold CW at *; exact fun a ha => wp_seq (h a ha)
theorem EX.thenN {y : Code} (h : CW P y Q n σ w) : EX (Exit.then (y.wp P Q) Q) .normal n σ w := by
  unfold EX CW at *; exact fun a ha => h a ha
theorem EX.thenX {id : Nat} {R : Act → World → Prop} (h : EX Q (.exit id) n σ w) : EX (Exit.then R Q) (.exit id) n σ w := by
  unfold EX at *; exact fun a ha => h a ha
theorem EX.thenR {R : Act → World → Prop} (h : EX Q .ret n σ w) : EX (Exit.then R Q) .ret n σ w := by
  unfold EX at *; exact fun a ha => h a ha
theorem EX.inN {id : Nat} (h : EX Q .normal n σ w) : EX (Exit.inBlock id Q) .normal n σ w := by
  unfold EX at *; exact fun a ha => h a ha
theorem EX.inR {id : Nat} (h : EX Q .ret n σ w) : EX (Exit.inBlock id Q) .ret n σ w := by
  unfold EX at *; exact fun a ha => h a ha
theorem EX.inX {id : Nat} (h : EX Q .normal n σ w) : EX (Exit.inBlock id Q) (.exit id) n σ w := by
  unfold EX at *; intro a ha; show (if id = id then _ else _); rw [if_pos rfl]; exact h a ha
theorem EX.inXne {id id' : Nat} (hne : Nat.beq id' id = false) (h : EX Q (.exit id') n σ w) : EX (Exit.inBlock id Q) (.exit id') n σ w := by
  unfold EX at *; intro a ha; show (if id' = id then _ else _)
  rw [if_neg (fun e => by subst e; rw [Nat.beq_refl id'] at hne; cases hne)]; exact h a ha
theorem CW.block {id : Nat} {c : Code} (h : CW P c (Exit.inBlock id Q) n σ w) : CW P (.block id c) Q n σ w := by
  unfold CW at *; exact fun a ha => wp_block (h a ha)
theorem CW.exit {id : Nat} (h : EX Q (.exit id) n σ w) : CW P (.exit id) Q n σ w := by
  unfold CW EX at *; exact fun a ha => wp_exit (h a ha)
theorem CW.ret (h : EX Q .ret n σ w) : CW P .ret Q n σ w := by
  unfold CW EX at *; exact fun a ha => wp_ret (h a ha)
theorem CW.skip (h : EX Q .normal n σ w) : CW P .skip Q n σ w := by
  unfold CW EX at *; exact fun a ha => wp_skip (h a ha)
theorem CW.cond {c : Operand} {x y : Code} {t : Bool} (hc : ev σ c = some (.bool t)) (ht : t = true → CW P x Q n σ w) (hf : t = false → CW P y Q n σ w) : CW P (.cond c x y) Q n σ w := by
  unfold CW at *
  exact fun a ha => wp_cond_split (ha.ev hc) (fun h => ht h a ha) (fun h => hf h a ha)
theorem CW.condT {c : Operand} {x y : Code} (hc : ev σ c = some (.bool true)) (ht : CW P x Q n σ w) : CW P (.cond c x y) Q n σ w :=
  CW.cond hc (fun _ => ht) (fun h => by cases h)
theorem CW.condF {c : Operand} {x y : Code} (hc : ev σ c = some (.bool false)) (hf : CW P y Q n σ w) : CW P (.cond c x y) Q n σ w :=
  CW.cond hc (fun h => by cases h) (fun _ => hf)
theorem CW.region {id : Nat} {l : List Oper} (h : WL P l Q l n σ w) : CW P (.region id l.toArray false) Q n σ w := by
  unfold CW WL at *; exact fun a ha => wp_region_lit (h a ha)
theorem CW.sub {c : Code} {τ : Sg} (hs : Sub τ σ) (h : CW P c Q n τ w) : CW P c Q n σ w := by
  unfold CW at *; exact fun a ha => h a (ha.sub hs)
theorem WL.nil {l : List Oper} (h : EX Q .normal n σ w) : WL P l Q [] n σ w := by
  unfold WL EX at *; exact fun a ha => wpList_nil (h a ha)
theorem WL.sub {l l' : List Oper} {τ : Sg} (hs : Sub τ σ) (h : WL P l Q l' n τ w) : WL P l Q l' n σ w := by
  unfold WL at *; exact fun a ha => h a (ha.sub hs)
theorem EX.sub {e : Exit} {τ : Sg} (hs : Sub τ σ) (h : EX Q e n τ w) : EX Q e n σ w := by
  unfold EX at *; exact fun a ha => h a (ha.sub hs)

/- LOOPS: a relation over a type of states; each state says its slots -/
def Back {S : Type} (n : Nat) (σs : S → Sg) (I : S → World → Prop) (μ : S → Nat) (s : S) : Act → World → Prop :=
  fun a w => ∃ s', Fr n (σs s') a ∧ I s' w ∧ μ s' < μ s
theorem CW.loop {S : Type} {c : Code} (σs : S → Sg) (I : S → World → Prop) (μ : S → Nat) (s0 : S) (hs : Sub (σs s0) σ) (h0 : I s0 w)
    (round : ∀ s w, I s w → CW P c (Exit.then (Back n σs I μ s) Q) n (σs s) w) : CW P (.loop c) Q n σ w := by
  unfold CW at *
  intro a ha
  refine wp_loop_ghost (fun m a w => ∃ s, μ s = m ∧ Fr n (σs s) a ∧ I s w) (μ s0) ⟨s0, rfl, ha.sub hs, h0⟩ ?_
  rintro m a w ⟨s, rfl, hF, hI⟩
  refine wp_mono (round s w hI a hF) ?_
  intro e a' w' hq
  cases e with
  | normal =>
    obtain ⟨s', hF', hI', hlt⟩ := hq
    exact ⟨μ s', hlt, s', rfl, hF', hI'⟩
  | exit id => exact hq
  | goto l => exact hq
  | ret => exact hq
  | panic ch => exact hq
  | outgrown => exact hq
theorem EX.back {S : Type} {σs : S → Sg} {I : S → World → Prop} {μ : S → Nat} {s : S} (s' : S) (hs : Sub (σs s') σ) (hI : I s' w) (hμ : μ s' < μ s) :
    EX (Exit.then (Back n σs I μ s) Q) .normal n σ w := by
  unfold EX; exact fun a ha => ⟨s', ha.sub hs, hI, hμ⟩

/- ENTERING A FUNCTION, AND LEAVING IT -/
/-- 'it returns v in w', and that is so' -/
def Rt (P : Program) (f : FuncId) (args : Array Value) (w : World) (R : Value → World → Prop) : Prop :=
  Calls P f args w fun e w' => ∃ v, e = .returned v ∧ R v w'
theorem Rt.mono {f : FuncId} {args : Array Value} {R R' : Value → World → Prop} (h : Rt P f args w R) (hr : ∀ v w', R v w' → R' v w') : Rt P f args w R' :=
  Calls.mono h fun e w' ⟨v, he, hv⟩ => ⟨v, he, hr v w' hv⟩

def argS : Nat → List Value → Sg
  | _, [] => []
  | k, v :: r => (k, v) :: argS (k + 1) r
theorem fnd_argS : ∀ (vs : List Value) (k t : Nat) (v : Value), fnd (argS k vs) t = some v → k ≤ t ∧ vs[t - k]? = some v := by
  intro vs
  induction vs with
  | nil => intro k t v h; cases h
  | cons u r ih =>
    intro k t v h
    by_cases e : k = t
    · subst e; rw [argS, fnd_cons_eq] at h; cases h; exact ⟨Nat.le_refl _, by simp⟩
    · rw [argS, fnd_cons_ne e] at h
      obtain ⟨h1, h2⟩ := ih (k + 1) t v h
      refine ⟨by omega, ?_⟩
      have : t - k = (t - (k + 1)) + 1 := by omega
      rw [this, List.getElem?_cons_succ]; exact h2
theorem Rt.enter {f : FuncId} {fn : Func} {c : Code} {vs : List Value} {R : Value → World → Prop} (hf : P.funcs[f]? = some fn) (hb : fn.body = some c) (hn : fn.ntmps = n)
    (hle : Nat.ble vs.length n = true) (h : CW P c (bodyPost P fn fun e w' => ∃ v, e = .returned v ∧ R v w') n (argS 0 vs) w) : Rt P f vs.toArray w R := by
  refine calls_of_wp hf hb ?_
  unfold CW at h
  have hl := Nat.le_of_ble_eq_true hle
  refine h _ ⟨by simp [hn]; omega, rfl, fun t v hv => ?_⟩
  obtain ⟨_, h2⟩ := fnd_argS vs 0 t v hv
  simp only [Nat.sub_zero] at h2
  have hlt := (List.getElem?_eq_some_iff.1 h2).1
  simp only [Array.getD_eq_getD_getElem?]
  rw [Array.getElem?_append_left (by simpa using hlt)]
  simp [h2]
theorem Rt.enter1 {f : FuncId} {fn : Func} {c : Code} {a0 : Value} {R : Value → World → Prop} (hf : P.funcs[f]? = some fn) (hn : fn.ntmps = n) (hb : fn.body = some c)
    (hle : Nat.ble 1 n = true) (h : CW P c (bodyPost P fn fun e w' => ∃ v, e = .returned v ∧ R v w') n [(0, a0)] w) : Rt P f [a0].toArray w R := Rt.enter hf hb hn hle h
theorem Rt.enter2 {f : FuncId} {fn : Func} {c : Code} {a0 a1 : Value} {R : Value → World → Prop} (hf : P.funcs[f]? = some fn) (hn : fn.ntmps = n) (hb : fn.body = some c)
    (hle : Nat.ble 2 n = true) (h : CW P c (bodyPost P fn fun e w' => ∃ v, e = .returned v ∧ R v w') n [(0, a0), (1, a1)] w) : Rt P f [a0, a1].toArray w R := Rt.enter hf hb hn hle h
theorem Rt.enter3 {f : FuncId} {fn : Func} {c : Code} {a0 a1 a2 : Value} {R : Value → World → Prop} (hf : P.funcs[f]? = some fn) (hn : fn.ntmps = n) (hb : fn.body = some c)
    (hle : Nat.ble 3 n = true) (h : CW P c (bodyPost P fn fun e w' => ∃ v, e = .returned v ∧ R v w') n [(0, a0), (1, a1), (2, a2)] w) : Rt P f [a0, a1, a2].toArray w R := Rt.enter hf hb hn hle h
theorem Rt.enter4 {f : FuncId} {fn : Func} {c : Code} {a0 a1 a2 a3 : Value} {R : Value → World → Prop} (hf : P.funcs[f]? = some fn) (hn : fn.ntmps = n) (hb : fn.body = some c)
    (hle : Nat.ble 4 n = true) (h : CW P c (bodyPost P fn fun e w' => ∃ v, e = .returned v ∧ R v w') n [(0, a0), (1, a1), (2, a2), (3, a3)] w) : Rt P f [a0, a1, a2, a3].toArray w R := Rt.enter hf hb hn hle h
theorem Rt.enter5 {f : FuncId} {fn : Func} {c : Code} {a0 a1 a2 a3 a4 : Value} {R : Value → World → Prop} (hf : P.funcs[f]? = some fn) (hn : fn.ntmps = n) (hb : fn.body = some c)
    (hle : Nat.ble 5 n = true) (h : CW P c (bodyPost P fn fun e w' => ∃ v, e = .returned v ∧ R v w') n [(0, a0), (1, a1), (2, a2), (3, a3), (4, a4)] w) : Rt P f [a0, a1, a2, a3, a4].toArray w R := Rt.enter hf hb hn hle h
theorem EX.ret1 {fn : Func} {t : Nat} {v : Value} {R : Value → World → Prop} (hr : fn.results = #[.tmp t]) (ht : fnd σ t = some v) (h : R v w) :
    EX (bodyPost P fn fun e w' => ∃ v, e = .returned v ∧ R v w') .ret n σ w := by
  unfold EX; intro a ha
  exact bodyPost_ret (results_tmp hr _ _ _) ha.defers ⟨v, by rw [ha.slot t v ht], h⟩
theorem EX.ret2 {fn : Func} {t u : Nat} {v x : Value} {R : Value → World → Prop} (hr : fn.results = #[.tmp t, .tmp u]) (ht : fnd σ t = some v) (hu : fnd σ u = some x) (h : R (.tuple ⟨[v, x]⟩) w) :
    EX (bodyPost P fn fun e w' => ∃ v, e = .returned v ∧ R v w') .ret n σ w := by
  unfold EX; intro a ha
  exact bodyPost_ret (results_tmp2 hr _ _ _) ha.defers ⟨_, by rw [ha.slot t v ht, ha.slot u x hu], h⟩
theorem EX.end0 {fn : Func} {R : Value → World → Prop} (hr : fn.results = #[]) (h : R (.tuple #[]) w) :
    EX (bodyPost P fn fun e w' => ∃ v, e = .returned v ∧ R v w') .normal n σ w := by
  unfold EX; intro a ha
  exact bodyPost_end (results_none hr _ _ _) ha.defers ⟨_, rfl, h⟩
theorem EX.ret0 {fn : Func} {R : Value → World → Prop} (hr : fn.results = #[]) (h : R (.tuple #[]) w) :
    EX (bodyPost P fn fun e w' => ∃ v, e = .returned v ∧ R v w') .ret n σ w := by
  unfold EX; intro a ha
  exact bodyPost_ret (results_none hr _ _ _) ha.defers ⟨_, rfl, h⟩
end

/- GUARDS -/
def gslot : List Oper → Nat → Option Nat
  | [], _ => none
  | o :: _, 0 => o.dst
  | _ :: r, j + 1 => gslot r j
theorem gslot_eq : ∀ (l : List Oper) (j : Nat), gslot l j = (l[j]?).bind (·.dst)
  | [], j => by simp [gslot]
  | o :: r, 0 => by simp [gslot]
  | o :: r, j + 1 => by simp [gslot, gslot_eq r j]
/-- is the guard met? none: it can't be told -/
def gd (ops : List Oper) (σ : Sg) (o : Oper) : Option Bool :=
  match o.guard with
  | none => some true
  | some (j, want) =>
    match gslot ops j with
    | none => none
    | some s => match fnd σ s with
      | some (.bool b) => some (match b, want with | true, true => true | false, false => true | _, _ => false)
      | some (.tuple _) => some false
      | _ => none
theorem gd_wanted {ops : List Oper} {σ : Sg} {o : Oper} {b : Bool} {n : Nat} {a : Act} (ha : Fr n σ a) (h : gd ops σ o = some b) : Region.wanted o (yielded ops.toArray a.tmps) = b := by
  unfold gd at h
  unfold Region.wanted
  split at h
  · rename_i hg; rw [hg]; exact (Option.some.inj h)
  · rename_i j want hg
    rw [hg]
    have hy : ∀ s v, gslot ops j = some s → fnd σ s = some v → yielded ops.toArray a.tmps j = (match v with | .bool b => some b | _ => none) := by
      intro s v hs hv
      have := ha.slot s v hv
      unfold yielded
      have e : ops.toArray[j]?.bind (·.dst) = some s := by rw [← hs, gslot_eq]; simp
      rw [e]
      simp only [Option.bind_some]
      simp only [Array.getD_eq_getD_getElem?] at this
      cases ht : a.tmps[s]? with
      | none =>
        rw [ht] at this
        simp only [Option.getD_none] at this
        subst this
        simp [undef]
      | some u =>
        rw [ht] at this
        simp only [Option.getD_some] at this
        subst this
        cases u <;> rfl
    split at h
    · cases h
    · rename_i s hs
      split at h
      · rename_i b' hb
        have := hy s _ hs hb
        simp only [this]
        cases b' <;> cases want <;> simp at h <;> simp [← h]
      · rename_i x hb
        have := hy s _ hs hb
        simp only [this]
        simp at h; subst h; simp
      · cases h

/- PURE OPERATIONS -/
def pbin (op : BinOp) (x y : Value) : Option Value :=
  match op, x, y with
  | .shl, .int k a, .int .i64 b => match decide (0 ≤ b) with | true => some (.int k (k.wrap (a * 2 ^ (min b.toNat k.bits)))) | false => none
  | .add, .int .i64 a, .int .i64 b => some (.int .i64 (IntKind.i64.wrap (a + b)))
  | .sub, .int .i64 a, .int .i64 b => some (.int .i64 (IntKind.i64.wrap (a - b)))
  | .mul, .int .i64 a, .int .i64 b => some (.int .i64 (IntKind.i64.wrap (a * b)))
  | .eql, .int .i64 a, .int .i64 b => some (.bool (a == b))
  | .neq, .int .i64 a, .int .i64 b => some (.bool (a != b))
  | .lss, .int .i64 a, .int .i64 b => some (.bool (decide (a < b)))
  | .leq, .int .i64 a, .int .i64 b => some (.bool (decide (a ≤ b)))
  | .gtr, .int .i64 a, .int .i64 b => some (.bool (decide (a > b)))
  | .geq, .int .i64 a, .int .i64 b => some (.bool (decide (a ≥ b)))
  | .eql, .int .u64 a, .int .u64 b => some (.bool (a == b))
  | .neq, .int .u64 a, .int .u64 b => some (.bool (a != b))
  | .and, .int .u64 a, .int .u64 b => some (.int .u64 (bits .and .u64 a b))
  | .or, .int .u64 a, .int .u64 b => some (.int .u64 (bits .or .u64 a b))
  | .and, .int .i64 a, .int .i64 b => some (.int .i64 (bits .and .i64 a b))
  | .or, .int .i64 a, .int .i64 b => some (.int .i64 (bits .or .i64 a b))
  | .eql, .string a, .string b => some (.bool (a.data.toList == b.data.toList))
  | .neq, .string a, .string b => some (.bool !(a.data.toList == b.data.toList))
  | .eql, .int .u8 a, .int .u8 b => some (.bool (a == b))
  | .neq, .int .u8 a, .int .u8 b => some (.bool (a != b))
  | .lss, .int .u8 a, .int .u8 b => some (.bool (decide (a < b)))
  | .leq, .int .u8 a, .int .u8 b => some (.bool (decide (a ≤ b)))
  | .gtr, .int .u8 a, .int .u8 b => some (.bool (decide (a > b)))
  | .geq, .int .u8 a, .int .u8 b => some (.bool (decide (a ≥ b)))
  | _, _, _ => none

def nthV : List Value → Nat → Option Value
  | [], _ => none
  | v :: _, 0 => some v
  | _ :: r, i + 1 => nthV r i
theorem nthV_eq : ∀ (l : List Value) (i : Nat), nthV l i = l[i]?
  | [], i => by simp [nthV]
  | v :: r, 0 => by simp [nthV]
  | v :: r, i + 1 => by simp [nthV, nthV_eq r i]
def evs (σ : Sg) : List Operand → Option (List Value)
  | [] => some []
  | x :: r => match ev σ x, evs σ r with
    | some v, some vs => some (v :: vs)
    | _, _ => none
theorem evs_eq {n : Nat} {σ : Sg} {a : Act} (ha : Fr n σ a) : ∀ (l : List Operand) (vs : List Value), evs σ l = some vs → l.map a.eval = vs
  | [], vs, h => by cases h; rfl
  | x :: r, vs, h => by
    simp only [evs] at h
    split at h
    · rename_i v us hv hu
      cases h
      simp [ha.ev hv, evs_eq ha r us hu]
    · cases h

def pureOp (σ : Sg) : Op → Option Value
  | .move x => ev σ x
  | .assign x => ev σ x
  | .pick c a b => match ev σ c with
    | some (.bool true) => ev σ a
    | some (.bool false) => ev σ b
    | _ => none
  | .binOp op _ x y _ => match ev σ x, ev σ y with
    | some u, some v => pbin op u v
    | _, _ => none
  | .unOp .not _ x => match ev σ x with
    | some (.bool b) => some (.bool !b)
    | _ => none
  | .extract x i => match ev σ x with
    | some (.tuple vs) => nthV vs.toList i
    | _ => none
  | _ => none

theorem pbin_run {P : Program} {w : World} {op : BinOp} {t yt : TypeId} {x y : Operand} {u v r : Value} (h : pbin op u v = some r) :
    ((do eqGuard op t x y u v; binOp op t u v : Sem Value)).run P w = .ok r w := by
  unfold pbin at h
  split at h <;> first
    | (cases h; done)
    | (rename_i k a b; split at h
       · rename_i hb; have hb' : ¬ b < 0 := by simpa using hb
         cases h; simp [eqGuard, binOp, Op.shift, hb']
       · cases h)
    | (cases h; simp [eqGuard, binOp, Op.intArith, Op.intCmp, intBits_and, intBits_or]; done)
    | (cases h; simp [eqGuard_at_string, binOp, Op.stringOp, ByteArray.toList_eq]; done)

theorem pureOp_run {P : Program} {w : World} {n : Nat} {σ : Sg} {a : Act} {o : Oper} {v : Value} (ha : Fr n σ a) (h : pureOp σ o.op = some v) :
    (execOp a.eval o).run P w = .ok (.value v) w := by
  unfold pureOp at h
  unfold execOp
  split at h
  · rename_i x hx; simp [hx, ha.ev h]
  · rename_i x hx; simp [hx, ha.ev h]
  · rename_i c x y hx
    split at h
    · rename_i hc; simp [hx, ha.ev hc, asBool, ha.ev h]
    · rename_i hc; simp [hx, ha.ev hc, asBool, ha.ev h]
    · cases h
  · rename_i op t x y yt hx
    split at h
    · rename_i u v' hu hv
      have hp := pbin_run (P := P) (w := w) (t := t) (yt := yt) (x := x) (y := y) h
      simp only [hx, ha.ev hu, ha.ev hv]
      rw [Sem.run_bind, hp]
      rfl
    · cases h
  · rename_i t x hx
    split at h
    · rename_i b hb; cases h; simp [hx, ha.ev hb, Op.unary]
    · cases h
  · rename_i x i hx
    split at h
    · rename_i vs hvs
      rw [nthV_eq] at h
      have h' : vs[i]? = some v := by simpa using h
      simp [hx, ha.ev hvs, Instr.extract, h']
    · cases h
  · cases h

section
variable {P : Program} {Q : Exit → Act → World → Prop} {n : Nat} {σ : Sg} {w : World} {L rest : List Oper} {d : Nat} {op : Op} {ty : TypeId} {pos : String} {af : Array Edge} {g : Option (Nat × Bool)}

/-- an operation whose run is known -/
theorem WL.run {v : Value} {w' : World} (hg : gd L σ ⟨some d, op, ty, pos, af, g⟩ = some true) (hd : Nat.ble (d + 1) n = true)
    (hr : ∀ a, Fr n σ a → (execOp a.eval ⟨some d, op, ty, pos, af, g⟩).run P w = .ok (.value v) w') (h : WL P L Q rest n ((d, v) :: σ) w') : WL P L Q (⟨some d, op, ty, pos, af, g⟩ :: rest) n σ w := by
  unfold WL at *
  intro a ha
  refine wpList_step fun K hK => ?_
  rw [gd_wanted ha hg, if_pos rfl]
  unfold Oper.wp
  rw [hr a ha]
  exact hK _ _ (h _ (ha.put (d := some d) hd))
theorem WL.runU {w' : World} (hg : gd L σ ⟨none, op, ty, pos, af, g⟩ = some true)
    (hr : ∀ a, Fr n σ a → (execOp a.eval ⟨none, op, ty, pos, af, g⟩).run P w = .ok .skip w') (h : WL P L Q rest n σ w') : WL P L Q (⟨none, op, ty, pos, af, g⟩ :: rest) n σ w := by
  unfold WL at *
  intro a ha
  refine wpList_step fun K hK => ?_
  rw [gd_wanted ha hg, if_pos rfl]
  unfold Oper.wp
  rw [hr a ha]
  exact hK _ _ (h _ ha)
theorem WL.pure {v : Value} (hg : gd L σ ⟨some d, op, ty, pos, af, g⟩ = some true) (hd : Nat.ble (d + 1) n = true)
    (hv : pureOp σ op = some v) (h : WL P L Q rest n ((d, v) :: σ) w) : WL P L Q (⟨some d, op, ty, pos, af, g⟩ :: rest) n σ w :=
  WL.run hg hd (fun a ha => pureOp_run ha hv) h
/-- an operation whose guard is not met -/
theorem WL.pass (hg : gd L σ ⟨some d, op, ty, pos, af, g⟩ = some false) (hd : Nat.ble (d + 1) n = true) (h : WL P L Q rest n ((d, undef) :: σ) w) : WL P L Q (⟨some d, op, ty, pos, af, g⟩ :: rest) n σ w := by
  unfold WL at *
  intro a ha
  refine wpList_step fun K hK => ?_
  rw [gd_wanted ha hg, if_neg (by simp)]
  exact hK _ _ (h _ (ha.put (d := some d) hd))
/-- a slot's bool is looked at -/
theorem WL.look {s : Nat} {b : Bool} (hs : fnd σ s = some (.bool b)) (ht : b = true → WL P L Q rest n ((s, .bool true) :: σ) w) (hf : b = false → WL P L Q rest n ((s, .bool false) :: σ) w) : WL P L Q rest n σ w := by
  unfold WL at *
  intro a ha
  cases b with
  | true => exact ht rfl a (ha.set hs)
  | false => exact hf rfl a (ha.set hs)

/-- the guard that the next operation waits for -/
theorem WL.lookG {dd : Option Nat} {j s : Nat} {want b : Bool} (hj : gslot L j = some s) (hs : fnd σ s = some (.bool b)) (ht : b = true → WL P L Q (⟨dd, op, ty, pos, af, some (j, want)⟩ :: rest) n ((s, .bool true) :: σ) w)
    (hf : b = false → WL P L Q (⟨dd, op, ty, pos, af, some (j, want)⟩ :: rest) n ((s, .bool false) :: σ) w) : WL P L Q (⟨dd, op, ty, pos, af, some (j, want)⟩ :: rest) n σ w := WL.look hs ht hf
/- SUMS THAT FIT -/
theorem wrap_in {a : Int} (h0 : -9223372036854775808 ≤ a) (h1 : a < 9223372036854775808) : IntKind.i64.wrap a = a := IntWalk.i64_in _ ⟨h0, by omega⟩
theorem WL.add {t yt : TypeId} {x y : Operand} {a b : Int} (hg : gd L σ ⟨some d, .binOp .add t x y yt, ty, pos, af, g⟩ = some true) (hd : Nat.ble (d + 1) n = true)
    (hx : ev σ x = some (.int .i64 a)) (hy : ev σ y = some (.int .i64 b)) (h0 : -9223372036854775808 ≤ a + b) (h1 : a + b < 9223372036854775808) (h : WL P L Q rest n ((d, .int .i64 (a + b)) :: σ) w) : WL P L Q (⟨some d, .binOp .add t x y yt, ty, pos, af, g⟩ :: rest) n σ w := by
  refine WL.pure hg hd (v := .int .i64 (a + b)) ?_ h
  simp only [pureOp, hx, hy, pbin]
  rw [wrap_in h0 h1]
theorem WL.sub' {t yt : TypeId} {x y : Operand} {a b : Int} (hg : gd L σ ⟨some d, .binOp .sub t x y yt, ty, pos, af, g⟩ = some true) (hd : Nat.ble (d + 1) n = true)
    (hx : ev σ x = some (.int .i64 a)) (hy : ev σ y = some (.int .i64 b)) (h0 : -9223372036854775808 ≤ a - b) (h1 : a - b < 9223372036854775808) (h : WL P L Q rest n ((d, .int .i64 (a - b)) :: σ) w) : WL P L Q (⟨some d, .binOp .sub t x y yt, ty, pos, af, g⟩ :: rest) n σ w := by
  refine WL.pure hg hd (v := .int .i64 (a - b)) ?_ h
  simp only [pureOp, hx, hy, pbin]
  rw [wrap_in h0 h1]
theorem WL.mul {t yt : TypeId} {x y : Operand} {a b : Int} (hg : gd L σ ⟨some d, .binOp .mul t x y yt, ty, pos, af, g⟩ = some true) (hd : Nat.ble (d + 1) n = true)
    (hx : ev σ x = some (.int .i64 a)) (hy : ev σ y = some (.int .i64 b)) (h0 : -9223372036854775808 ≤ a * b) (h1 : a * b < 9223372036854775808) (h : WL P L Q rest n ((d, .int .i64 (a * b)) :: σ) w) : WL P L Q (⟨some d, .binOp .mul t x y yt, ty, pos, af, g⟩ :: rest) n σ w := by
  refine WL.pure hg hd (v := .int .i64 (a * b)) ?_ h
  simp only [pureOp, hx, hy, pbin]
  rw [wrap_in h0 h1]
end

/- CALLS, AND FUNCTIONS AS VALUES -/
section
variable {P : Program} {Q : Exit → Act → World → Prop} {n : Nat} {σ : Sg} {w : World} {L rest : List Oper} {d : Nat} {op : Op} {ty : TypeId} {pos : String} {af : Array Edge} {g : Option (Nat × Bool)}
theorem WL.makeFunc {fn : Fn} {fs cs : List Operand} {fv cv : List Value} (hg : gd L σ ⟨some d, .makeFunc fn fs.toArray cs.toArray, ty, pos, af, g⟩ = some true) (hd : Nat.ble (d + 1) n = true)
    (hf : evs σ fs = some fv) (hc : evs σ cs = some cv) (h : WL P L Q rest n ((d, .func fn fv.toArray cv.toArray) :: σ) w) : WL P L Q (⟨some d, .makeFunc fn fs.toArray cs.toArray, ty, pos, af, g⟩ :: rest) n σ w := by
  refine WL.run hg hd (fun a ha => ?_) h
  have e1 := evs_eq ha fs fv hf
  have e2 := evs_eq ha cs cv hc
  simp [execOp, Instr.makeFunc, e1, e2]
/-- a function is there, with a body -/
class IsF (P : Program) (f : FuncId) : Prop where
  ok : ∃ fn, P.funcs[f]? = some fn ∧ fn.body.isSome = true ∧ (fn.name == "runtime.NumGoroutine") = false
theorem callFunc_run {f : FuncId} [hf : IsF P f] (args : Array Value) : (callFunc f args).run P w = .ok (.enter f args) w := by
  obtain ⟨fn, h1, h2, h3⟩ := hf.ok
  have h4 : fn.body ≠ none := by intro e; rw [e] at h2; cases h2
  have h5 : fn.name ≠ "runtime.NumGoroutine" := by simpa using h3
  simp [callFunc, h1, h4, h5]
theorem WL.callV {f : FuncId} {x : Operand} {xs : List Operand} {ts : Array TypeId} {vs fv cv : List Value} {R : Value → World → Prop}
    (hg : gd L σ ⟨some d, .call ⟨.value x, xs.toArray, ts⟩, ty, pos, af, g⟩ = some true) (hd : Nat.ble (d + 1) n = true) (hx : ev σ x = some (.func (.func f) fv.toArray cv.toArray)) (hv : evs σ xs = some vs) [hf : IsF P f]
    (hc : Rt P f (fv ++ vs ++ cv).toArray w R) (h : ∀ v w', R v w' → WL P L Q rest n ((d, v) :: σ) w') : WL P L Q (⟨some d, .call ⟨.value x, xs.toArray, ts⟩, ty, pos, af, g⟩ :: rest) n σ w := by
  unfold WL at *
  intro a ha
  refine wpList_step fun K hK => ?_
  rw [gd_wanted ha hg, if_pos rfl]
  have e1 := evs_eq ha xs vs hv
  have e2 := ha.ev hx
  have hr : (execOp a.eval ⟨some d, .call ⟨.value x, xs.toArray, ts⟩, ty, pos, af, g⟩).run P w = .ok (.enter f (fv ++ vs ++ cv).toArray) w := by
    have := callFunc_run (P := P) (f := f) (w := w) (fv ++ vs ++ cv).toArray
    simp [execOp, resolve, e2, Deferred.ofValue, invoke, e1]
    simpa using this
  unfold Oper.wp
  rw [hr]
  refine Calls.mono hc ?_
  rintro e w' ⟨v, rfl, hR⟩
  exact hK _ _ (h v w' hR _ (ha.put (d := some d) hd))
/-- a call by name -/
theorem WL.call {f : FuncId} {xs : List Operand} {ts : Array TypeId} {vs : List Value} {R : Value → World → Prop}
    (hg : gd L σ ⟨some d, .call ⟨.value (.func f), xs.toArray, ts⟩, ty, pos, af, g⟩ = some true) (hd : Nat.ble (d + 1) n = true) (hv : evs σ xs = some vs) [hf : IsF P f]
    (hc : Rt P f vs.toArray w R) (h : ∀ v w', R v w' → WL P L Q rest n ((d, v) :: σ) w') : WL P L Q (⟨some d, .call ⟨.value (.func f), xs.toArray, ts⟩, ty, pos, af, g⟩ :: rest) n σ w :=
  WL.callV hg hd (fv := []) (cv := []) rfl hv (by simpa using hc) h
end

end Go.Proofs.YtikigaeihdmcaaaGreatDoor

/-
  Memory for our walks: typed readings of cells, slices that are read, slices that a call owns. Over any program.
-/
set_option linter.unusedVariables false
set_option linter.unusedSimpArgs false
namespace Go.Proofs.YtikigaeihdmcaaaGreatDoor
open Go.RowKit

/- READINGS -/
/-- how a value of a Lean type lies in cells; F: blocks that the reading may meet -/
class Rep (α : Type) where
  sz : Nat
  pos : 0 < sz
  agg : Bool
  rd : World → (Nat → Prop) → List Value → α → Prop
  len : ∀ {w F cs x}, rd w F cs x → cs.length = sz
  one : ∀ {w F cs x}, rd w F cs x → ∀ v ∈ cs, v.oneCell' = true
  szAgg : agg = false → sz = 1
  mono : ∀ {w w' F F' cs x}, rd w F cs x → (∀ b, F b → w'.heap[b]? = w.heap[b]?) → (∀ b, F b → F' b) → rd w' F' cs x

abbrev sz (α : Type) [Rep α] : Nat := Rep.sz α
abbrev rd {α : Type} [Rep α] : World → (Nat → Prop) → List Value → α → Prop := Rep.rd

/-- the value that some cells make up -/
def vOf (α : Type) [Rep α] (cs : List Value) : Value := match Rep.agg α with
  | true => .agg cs.toArray
  | false => cs.headD undef
def Rd {α : Type} [Rep α] (w : World) (F : Nat → Prop) (v : Value) (x : α) : Prop := ∃ cs, v = vOf α cs ∧ rd w F cs x
theorem Rd.mono {α : Type} [Rep α] {w w' : World} {F F' : Nat → Prop} {v : Value} {x : α} (h : Rd w F v x) (hb : ∀ b, F b → w'.heap[b]? = w.heap[b]?) (hF : ∀ b, F b → F' b) : Rd w' F' v x := by
  obtain ⟨cs, e, hr⟩ := h
  exact ⟨cs, e, Rep.mono hr hb hF⟩
theorem vOf_cells {α : Type} [Rep α] {w : World} {F : Nat → Prop} {cs : List Value} {x : α} (h : rd w F cs x) : (vOf α cs).cells.toList = cs := by
  unfold vOf
  split
  · simp [Value.cells]
  · rename_i he
    have h1 := Rep.len h
    rw [Rep.szAgg he] at h1
    match cs, h1 with
    | [v], _ =>
      have := Rep.one h v (by simp)
      cases v <;> first | rfl | (simp [Value.oneCell'] at this)

instance iMem1 : Rep Int where
  sz := 1
  pos := by decide
  agg := false
  rd := fun _ _ cs x => cs = [.int .i64 x]
  len := by intro w F cs x h; subst h; rfl
  one := by intro w F cs x h v hv; subst h; simp at hv; subst hv; rfl
  szAgg := fun _ => rfl
  mono := fun h _ _ => h
instance iMem2 : Rep Bool where
  sz := 1
  pos := by decide
  agg := false
  rd := fun _ _ cs x => cs = [.bool x]
  len := by intro w F cs x h; subst h; rfl
  one := by intro w F cs x h v hv; subst h; simp at hv; subst hv; rfl
  szAgg := fun _ => rfl
  mono := fun h _ _ => h
/-- a letter: an uint64 -/
instance iMem3 : Rep Nat where
  sz := 1
  pos := by decide
  agg := false
  rd := fun _ _ cs x => cs = [.int .u64 (x : Int)] ∧ x < 18446744073709551616
  len := by intro w F cs x h; rw [h.1]; rfl
  one := by intro w F cs x h v hv; rw [h.1] at hv; simp at hv; subst hv; rfl
  szAgg := fun _ => rfl
  mono := fun h _ _ => h
instance iMem4 : Rep ByteArray where
  sz := 1
  pos := by decide
  agg := false
  rd := fun _ _ cs x => cs = [.string x] ∧ x.size ≤ maxLen
  len := by intro w F cs x h; rw [h.1]; rfl
  one := by intro w F cs x h v hv; rw [h.1] at hv; simp at hv; subst hv; rfl
  szAgg := fun _ => rfl
  mono := fun h _ _ => h

/-- cells in memory -/
def Cells (w : World) (b off : Nat) (cs : List Value) : Prop := ∀ j u, cs[j]? = some u → w.cell? ⟨b, off + j, none⟩ = some u
theorem Cells.mono {w w' : World} {b off : Nat} {cs : List Value} (h : Cells w b off cs) (hb : w'.heap[b]? = w.heap[b]?) : Cells w' b off cs :=
  fun j u hu => (World.cell?_of_block (w := w) (a := ⟨b, off + j, none⟩) hb).trans (h j u hu)

/-- a slice that is read -/
structure Sl {α : Type} [Rep α] (w : World) (F : Nat → Prop) (ao : Option Addr) (cap : Nat) (xs : List α) : Prop where
  le : xs.length ≤ cap
  mx : cap ≤ maxLen
  nil : ao = none → cap = 0
  el : ∀ i (h : i < xs.length), ∃ b off, ao = some ⟨b, off, none⟩ ∧ F b ∧ ∃ es, Cells w b (off + i * sz α) es ∧ rd w F es xs[i]
theorem Sl.mono {α : Type} [Rep α] {w w' : World} {F F' : Nat → Prop} {ao : Option Addr} {cap : Nat} {xs : List α} (h : Sl w F ao cap xs) (hb : ∀ b, F b → w'.heap[b]? = w.heap[b]?) (hF : ∀ b, F b → F' b) : Sl w' F' ao cap xs := by
  refine ⟨h.le, h.mx, h.nil, fun i hi => ?_⟩
  obtain ⟨b, off, e, hf, es, hc, hr⟩ := h.el i hi
  exact ⟨b, off, e, hF b hf, es, hc.mono (hb b hf), Rep.mono hr hb hF⟩
instance iMem5 {α : Type} [Rep α] : Rep (List α) where
  sz := 1
  pos := by decide
  agg := false
  rd := fun w F cs xs => ∃ ao cap, cs = [.slice ao xs.length cap] ∧ Sl w F ao cap xs
  len := by rintro w F cs x ⟨ao, cap, e, _⟩; subst e; rfl
  one := by rintro w F cs x ⟨ao, cap, e, _⟩ v hv; subst e; simp at hv; subst hv; rfl
  szAgg := fun _ => rfl
  mono := by rintro w w' F F' cs x ⟨ao, cap, e, h⟩ hb hF; exact ⟨ao, cap, e, h.mono hb hF⟩
theorem Rd.sl {α : Type} [Rep α] {w : World} {F : Nat → Prop} {v : Value} {xs : List α} (h : Rd w F v xs) : ∃ ao cap, v = .slice ao xs.length cap ∧ Sl w F ao cap xs := by
  obtain ⟨cs, e, ao, cap, rfl, hs⟩ := h
  exact ⟨ao, cap, e, hs⟩
theorem Sl.rd {α : Type} [Rep α] {w : World} {F : Nat → Prop} {ao : Option Addr} {cap : Nat} {xs : List α} (h : Sl w F ao cap xs) : Rd w F (.slice ao xs.length cap) xs := ⟨[.slice ao xs.length cap], rfl, ao, cap, rfl, h⟩
theorem Sl.len63 {α : Type} [Rep α] {w : World} {F : Nat → Prop} {ao : Option Addr} {cap : Nat} {xs : List α} (h : Sl w F ao cap xs) : xs.length ≤ 9223372036854775807 := by
  have := h.le; have := h.mx; unfold maxLen at this; omega
theorem Rd.int {w : World} {F : Nat → Prop} {v : Value} {x : Int} (h : Rd w F v x) : v = .int .i64 x := by obtain ⟨cs, e, rfl⟩ := h; exact e
theorem Rd.bool {w : World} {F : Nat → Prop} {v : Value} {x : Bool} (h : Rd w F v x) : v = .bool x := by obtain ⟨cs, e, rfl⟩ := h; exact e
theorem Rd.u64 {w : World} {F : Nat → Prop} {v : Value} {x : Nat} (h : Rd w F v x) : v = .int .u64 (x : Int) ∧ x < 18446744073709551616 := by obtain ⟨cs, e, rfl, h2⟩ := h; exact ⟨e, h2⟩
theorem Rd.str {w : World} {F : Nat → Prop} {v : Value} {x : ByteArray} (h : Rd w F v x) : v = .string x ∧ x.size ≤ maxLen := by obtain ⟨cs, e, rfl, h2⟩ := h; exact ⟨e, h2⟩
theorem Rd.mkInt (w : World) (F : Nat → Prop) (x : Int) : Rd w F (.int .i64 x) x := ⟨_, rfl, rfl⟩
theorem Rd.mkStr (w : World) (F : Nat → Prop) (x : ByteArray) (h : x.size ≤ maxLen) : Rd w F (.string x) x := ⟨_, rfl, rfl, h⟩

/-- what was there in w -/
def Old (w : World) : Nat → Prop := fun b => b < w.heap.size
abbrev Ext (w w' : World) : Prop := Below w.heap.size w w'
theorem Ext.refl (w : World) : Ext w w := Below.refl _ _
theorem Ext.trans {a b c : World} (h : Ext a b) (k : Ext b c) : Ext a c := Below.trans h (k.mono h.size)
section
variable {α : Type} [Rep α] {w w' w0 : World} {v : Value} {x : α} {ao : Option Addr} {cap : Nat} {xs : List α}
/-- an argument, read later on -/
theorem Sl.at (h : Sl w0 (Old w0) ao cap xs) (hB : Below w0.heap.size w0 w) : Sl w (Old w0) ao cap xs := h.mono (fun b hb => hB.block b hb) fun _ h => h
theorem Rd.at (h : Rd w0 (Old w0) v x) (hB : Below w0.heap.size w0 w) : Rd w (Old w0) v x := h.mono (fun b hb => hB.block b hb) fun _ h => h
theorem Sl.lift {F : Nat → Prop} (h : Sl w F ao cap xs) (hF : ∀ b, F b → b < w.heap.size) : Sl w (Old w) ao cap xs := h.mono (fun _ _ => rfl) hF
theorem Rd.lift {F : Nat → Prop} (h : Rd w F v x) (hF : ∀ b, F b → b < w.heap.size) : Rd w (Old w) v x := h.mono (fun _ _ => rfl) hF
theorem Sl.up (h : Sl w0 (Old w0) ao cap xs) (hB : Below w0.heap.size w0 w) : Sl w (Old w) ao cap xs := h.mono (fun b hb => hB.block b hb) fun b hb => Nat.lt_of_lt_of_le hb hB.size
theorem Rd.up (h : Rd w0 (Old w0) v x) (hB : Below w0.heap.size w0 w) : Rd w (Old w) v x := h.mono (fun b hb => hB.block b hb) fun b hb => Nat.lt_of_lt_of_le hb hB.size
/-- blocks that a reading truly meets are there -/
theorem Cells.lt {b off : Nat} {cs : List Value} (h : Cells w b off cs) (hn : 0 < cs.length) : b < w.heap.size :=
  World.block_lt_of_cell? w _ (h 0 cs[0] (by simp [hn]))
end

/- TYPES OF THE PROGRAM -/
/-- a type number, and the Lean type that its values read as -/
def aggD : TypeDesc → Bool | .struct _ => true | .array _ _ => true | _ => false
class IsT (P : Program) (t : TypeId) (α : Type) [Rep α] : Prop where
  ok : ∃ i d, P.info? t = some i ∧ i.size = sz α ∧ P.underlying t = some d ∧ aggD d = Rep.agg α
/-- a slice type and its elements' type -/
class IsS (P : Program) (t : TypeId) (e : outParam TypeId) : Prop where
  ok : P.underlying t = some (.slice e)
/-- a type's zero value, and its bytes -/
class IsZ (P : Program) (t : TypeId) {α : Type} [Rep α] (x : outParam α) (bytes : outParam Nat) : Prop where
  ok : ∃ i z, P.info? t = some i ∧ i.zero = some z ∧ i.bytes = bytes ∧ ∀ w F, rd w F z.cells.toList x

theorem IsT.of {P : Program} {t : TypeId} {α : Type} [Rep α] {d : TypeDesc} (h : (P.info? t).map (fun i => Nat.beq i.size (sz α)) = some true) (hu : P.underlying t = some d)
    (hd : aggD d = Rep.agg α) : IsT P t α := by
  obtain ⟨i, hi, he⟩ := Option.map_eq_some_iff.1 h
  exact ⟨i, d, hi, Nat.eq_of_beq_eq_true he, hu, hd⟩
theorem IsZ.of {P : Program} {t : TypeId} {α : Type} [Rep α] {x : α} {bytes : Nat} {z : Value} (h : (P.info? t).map (fun i => (i.zero, i.bytes)) = some (some z, bytes)) (hz : ∀ w F, rd w F z.cells.toList x) : IsZ P t x bytes := by
  obtain ⟨i, hi, he⟩ := Option.map_eq_some_iff.1 h
  simp only [Prod.mk.injEq] at he
  exact ⟨i, z, hi, he.1, he.2, hz⟩
theorem IsT.info {P : Program} {t : TypeId} {α : Type} [Rep α] [h : IsT P t α] : ∃ i, P.info? t = some i ∧ i.size = sz α := by
  obtain ⟨i, d, h1, h2, _⟩ := h.ok; exact ⟨i, h1, h2⟩
theorem run_sizeOf {P : Program} {t : TypeId} {α : Type} [Rep α] [IsT P t α] (w : World) : (sizeOf t).run P w = .ok (sz α) w := by
  obtain ⟨i, h1, h2⟩ := IsT.info (P := P) (t := t) (α := α)
  simp [sizeOf, typeInfo, h1, h2]
theorem run_isAgg {P : Program} {t : TypeId} {α : Type} [Rep α] [h : IsT P t α] (w : World) : (isAgg t).run P w = .ok (Rep.agg α) w := by
  obtain ⟨i, d, h1, h2, h3, h4⟩ := h.ok
  unfold isAgg
  rw [Sem.run_bind, run_underlying h3 w]
  rw [← h4]
  cases d <;> rfl
theorem run_loadAt {P : Program} {t : TypeId} {α : Type} [Rep α] [IsT P t α] {w : World} {F : Nat → Prop} {b off : Nat} {cs : List Value} {x : α} (hc : Cells w b off cs) (hr : rd w F cs x) :
    (loadVar t ⟨b, off, none⟩).run P w = .ok (vOf α cs) w := by
  have hl : cs.length = sz α := Rep.len hr
  unfold loadVar
  rw [Sem.run_bind, run_isAgg (α := α) w]
  simp only [Result.andThen_ok]
  unfold vOf
  cases he : Rep.agg α with
  | true =>
    simp only [if_true]
    rw [Sem.run_bind, run_sizeOf (α := α) w]
    simp only [Result.andThen_ok]
    rw [Sem.run_bind, ← hl, run_loadCells_list w ⟨b, off, none⟩ cs (fun j v hv => by rw [WideShapes.add_plain]; exact hc j v hv)]
    rfl
  | false =>
    rw [show sz α = 1 from Rep.szAgg he] at hl
    match cs, hl with
    | [v], _ =>
      have := hc 0 v rfl
      simp only [Nat.add_zero] at this
      simp [this]

section
variable {P : Program} {Q : Exit → Act → World → Prop} {n : Nat} {σ : Sg} {w : World} {L rest : List Oper} {d : Nat} {op : Op} {ty : TypeId} {pos : String} {af : Array Edge} {g : Option (Nat × Bool)}

/-- len(x), a slice -/
theorem WL.lenS {t e : TypeId} {x : Operand} {ao : Option Addr} {k cap : Nat} (hg : gd L σ ⟨some d, .call ⟨.builtin .len, #[x], #[t]⟩, ty, pos, af, g⟩ = some true) (hd : Nat.ble (d + 1) n = true)
    (hx : ev σ x = some (.slice ao k cap)) [hs : IsS P t e] (h : WL P L Q rest n ((d, .int .i64 (k : Int)) :: σ) w) : WL P L Q (⟨some d, .call ⟨.builtin .len, #[x], #[t]⟩, ty, pos, af, g⟩ :: rest) n σ w := by
  refine WL.run hg hd (fun a ha => ?_) h
  simp [execOp, resolve, invoke, builtin, ha.ev hx, Builtin.len_, run_underlying hs.ok, goInt]
/-- &x[i] -/
theorem WL.idx {α : Type} [Rep α] {t e : TypeId} {x ix : Operand} {b off : Nat} {k cap : Nat} {i : Int} {kd : IntKind} (hg : gd L σ ⟨some d, .indexAddr t x ix, ty, pos, af, g⟩ = some true) (hd : Nat.ble (d + 1) n = true)
    (hx : ev σ x = some (.slice (some ⟨b, off, none⟩) k cap)) (hi : ev σ ix = some (.int kd i)) [hs : IsS P t e] [ht : IsT P e α] (h0 : 0 ≤ i) (h1 : i < k)
    (h : WL P L Q rest n ((d, .pointer (some ⟨b, off + i.toNat * sz α, none⟩)) :: σ) w) : WL P L Q (⟨some d, .indexAddr t x ix, ty, pos, af, g⟩ :: rest) n σ w := by
  refine WL.run hg hd (fun a ha => ?_) h
  simp [execOp, ha.ev hx, ha.ev hi, Instr.indexAt, asIntOf, run_underlying hs.ok, h0, h1, run_sizeOf (α := α), WideShapes.add_plain]
/-- *p -/
theorem WL.load {α : Type} [Rep α] {t : TypeId} {x : Operand} {b off : Nat} {F : Nat → Prop} {cs : List Value} {y : α} (hg : gd L σ ⟨some d, .load t x, ty, pos, af, g⟩ = some true) (hd : Nat.ble (d + 1) n = true)
    (hx : ev σ x = some (.pointer (some ⟨b, off, none⟩))) [ht : IsT P t α] (hc : Cells w b off cs) (hr : rd w F cs y)
    (h : WL P L Q rest n ((d, vOf α cs) :: σ) w) : WL P L Q (⟨some d, .load t x, ty, pos, af, g⟩ :: rest) n σ w := by
  refine WL.run hg hd (fun a ha => ?_) h
  simp [execOp, ha.ev hx, Instr.loadAt, Instr.sureAddr, run_loadAt hc hr]
/-- x[i], read -/
theorem WL.elem {α : Type} [Rep α] {t e : TypeId} {x ix : Operand} {ao : Option Addr} {cap d' : Nat} {xs : List α} {F : Nat → Prop} {i : Int} {kd : IntKind} {ty' : TypeId} {pos' : String} {af' : Array Edge} {g' : Option (Nat × Bool)}
    (hg : gd L σ ⟨some d, .indexAddr t x ix, ty, pos, af, g⟩ = some true) (hd : Nat.ble (d + 1) n = true) (hd' : Nat.ble (d' + 1) n = true)
    (hx : ev σ x = some (.slice ao xs.length cap)) (hi : ev σ ix = some (.int kd i)) [hs : IsS P t e] [ht : IsT P e α] (hsl : Sl w F ao cap xs) (h0 : 0 ≤ i) (h1 : i < xs.length)
    (hg' : ∀ p, gd L ((d, .pointer p) :: σ) ⟨some d', .load e (.tmp d), ty', pos', af', g'⟩ = some true)
    (h : ∀ u p, Rd w F u (xs[i.toNat]'(by omega)) → WL P L Q rest n ((d', u) :: (d, .pointer p) :: σ) w) :
    WL P L Q (⟨some d, .indexAddr t x ix, ty, pos, af, g⟩ :: ⟨some d', .load e (.tmp d), ty', pos', af', g'⟩ :: rest) n σ w := by
  obtain ⟨b, off, rfl, hF, es, hc, hr⟩ := hsl.el i.toNat (by omega)
  refine WL.idx (α := α) hg hd hx hi h0 h1 ?_
  refine WL.load (α := α) (hg' _) hd' fnd_cons_eq hc hr ?_
  exact h _ _ ⟨es, rfl, hr⟩
/-- the same, the index a natural number -/
theorem WL.elemN {α : Type} [Rep α] {t e : TypeId} {x ix : Operand} {ao : Option Addr} {cap d' : Nat} {xs : List α} {F : Nat → Prop} {i : Nat} {kd : IntKind} {ty' : TypeId} {pos' : String} {af' : Array Edge} {g' : Option (Nat × Bool)}
    (hg : gd L σ ⟨some d, .indexAddr t x ix, ty, pos, af, g⟩ = some true) (hd : Nat.ble (d + 1) n = true) (hd' : Nat.ble (d' + 1) n = true)
    (hx : ev σ x = some (.slice ao xs.length cap)) (hi : ev σ ix = some (.int kd (i : Int))) [hs : IsS P t e] [ht : IsT P e α] (hsl : Sl w F ao cap xs) (h1 : i < xs.length)
    (hg' : ∀ p, gd L ((d, .pointer p) :: σ) ⟨some d', .load e (.tmp d), ty', pos', af', g'⟩ = some true)
    (h : ∀ u p, Rd w F u xs[i] → WL P L Q rest n ((d', u) :: (d, .pointer p) :: σ) w) :
    WL P L Q (⟨some d, .indexAddr t x ix, ty, pos, af, g⟩ :: ⟨some d', .load e (.tmp d), ty', pos', af', g'⟩ :: rest) n σ w :=
  WL.elem hg hd hd' hx hi hsl (by omega) (by omega) hg' (fun u p hu => h u p (by simpa using hu))
/-- .. of numbers -/
theorem WL.elemI {t e : TypeId} {x ix : Operand} {ao : Option Addr} {cap d' : Nat} {xs : List Int} {F : Nat → Prop} {i : Nat} {y : Int} {kd : IntKind} {ty' : TypeId} {pos' : String} {af' : Array Edge} {g' : Option (Nat × Bool)}
    (hg : gd L σ ⟨some d, .indexAddr t x ix, ty, pos, af, g⟩ = some true) (hd : Nat.ble (d + 1) n = true) (hd' : Nat.ble (d' + 1) n = true)
    (hx : ev σ x = some (.slice ao xs.length cap)) (hi : ev σ ix = some (.int kd (i : Int))) [hs : IsS P t e] [ht : IsT P e Int] (hsl : Sl w F ao cap xs) (h1 : i < xs.length) (hy : xs[i] = y)
    (hg' : ∀ p, gd L ((d, .pointer p) :: σ) ⟨some d', .load e (.tmp d), ty', pos', af', g'⟩ = some true)
    (h : ∀ p, WL P L Q rest n ((d', .int .i64 y) :: (d, .pointer p) :: σ) w) :
    WL P L Q (⟨some d, .indexAddr t x ix, ty, pos, af, g⟩ :: ⟨some d', .load e (.tmp d), ty', pos', af', g'⟩ :: rest) n σ w :=
  WL.elemN hg hd hd' hx hi hsl h1 hg' (fun u p hu => by rw [hu.int, hy]; exact h p)
/-- a new variable of the call's own -/
theorem WL.box {e : TypeId} {x : Operand} {v : Value} (hg : gd L σ ⟨some d, .box e x, ty, pos, af, g⟩ = some true) (hd : Nat.ble (d + 1) n = true)
    (hx : ev σ x = some v) (h : WL P L Q rest n ((d, .pointer (some ⟨w.heap.size, 0, none⟩)) :: σ) (w.alloc (.cells v.cells e))) : WL P L Q (⟨some d, .box e x, ty, pos, af, g⟩ :: rest) n σ w := by
  refine WL.run hg hd (fun a ha => ?_) h
  simp [execOp, ha.ev hx, Instr.box, newVar, newRow]
end
/- FUNCTIONS AS VALUES -/
/-- a call of a function's value -/
def FnV (P : Program) (fv : Value) (args : List Value) (w : World) (R : Value → World → Prop) : Prop :=
  ∃ f fs cs, fv = .func (.func f) (List.toArray fs) (List.toArray cs) ∧ IsF P f ∧ Rt P f (fs ++ args ++ cs).toArray w R
theorem FnV.mk {P : Program} {f : FuncId} {cs args : List Value} {w : World} {R : Value → World → Prop} [hf : IsF P f] (h : Rt P f (args ++ cs).toArray w R) : FnV P (.func (.func f) [].toArray cs.toArray) args w R :=
  ⟨f, [], cs, rfl, hf, h⟩
theorem FnV.mono {P : Program} {fv : Value} {args : List Value} {w : World} {R R' : Value → World → Prop} (h : FnV P fv args w R) (hr : ∀ v w', R v w' → R' v w') : FnV P fv args w R' := by
  obtain ⟨f, fs, cs, e, hf, h⟩ := h
  exact ⟨f, fs, cs, e, hf, h.mono hr⟩
theorem WL.callF {P : Program} {Q : Exit → Act → World → Prop} {n : Nat} {σ : Sg} {w : World} {L rest : List Oper} {d : Nat} {ty : TypeId} {pos : String} {af : Array Edge} {g : Option (Nat × Bool)}
    {x : Operand} {xs : List Operand} {ts : Array TypeId} {vs : List Value} {fv : Value} {R : Value → World → Prop}
    (hg : gd L σ ⟨some d, .call ⟨.value x, xs.toArray, ts⟩, ty, pos, af, g⟩ = some true) (hd : Nat.ble (d + 1) n = true) (hx : ev σ x = some fv) (hv : evs σ xs = some vs)
    (hc : FnV P fv vs w R) (h : ∀ v w', R v w' → WL P L Q rest n ((d, v) :: σ) w') : WL P L Q (⟨some d, .call ⟨.value x, xs.toArray, ts⟩, ty, pos, af, g⟩ :: rest) n σ w := by
  obtain ⟨f, fs, cs, rfl, hf, hc⟩ := hc
  exact WL.callV hg hd hx hv hc h
theorem Ext.alloc (w : World) (o : Obj) : Ext w (w.alloc o) := (Below.refl _ _).alloc (Nat.le_refl _) o
theorem Cells.alloc (w : World) (cs : Array Value) (e : TypeId) : Cells (w.alloc (.cells cs e)) w.heap.size 0 cs.toList := by
  intro j u hu
  rw [World.cell?_alloc_new]
  simpa using hu
/-- a reading in a boxed variable -/
theorem Cells.box {α : Type} [Rep α] {w w' : World} {F : Nat → Prop} {v : Value} {x : α} {e : TypeId} (h : Rd w F v x) : ∃ cs, v = vOf α cs ∧ Cells (w.alloc (.cells v.cells e)) w.heap.size 0 cs ∧ rd w F cs x := by
  obtain ⟨cs, rfl, hr⟩ := h
  refine ⟨cs, rfl, ?_, hr⟩
  have := Cells.alloc w (vOf α cs).cells e
  rwa [vOf_cells hr] at this
end Go.Proofs.YtikigaeihdmcaaaGreatDoor

