/-
  The engine of our walks: frames as short lists of slots, weakest preconditions over them, pure operations by evaluation. Over any program.
-/
import Derived.WalkKit
import Derived.ProofKit
import Derived.Deep.Quiet
import Derived.Deep.LoopGhost
set_option linter.unusedVariables false
set_option linter.unusedSimpArgs false
namespace Go.Proofs.Ythojdcbpglipeaa
open Go.RowKit

/- FRAMES -/
abbrev Sg := List (Nat × Value)

def fnd : Sg → Nat → Option Value
  | [], _ => none
  | (k, v) :: r, t => match Nat.beq k t with
    | true => some v
    | false => fnd r t

structure Fr (n : Nat) (σ : Sg) (a : Act) : Prop where
  size : a.tmps.size = n
  defers : a.defers = []
  slot : ∀ t v, fnd σ t = some v → a.tmps.getD t undef = v

def ev (σ : Sg) : Operand → Option Value
  | .tmp t => fnd σ t
  | .const v => some v
  | .global g => some (.pointer (some ⟨g, 0, none⟩))
  | .func f => some (.func (.func f) #[] #[])

theorem Fr.ev {n : Nat} {σ : Sg} {a : Act} (h : Fr n σ a) {x : Operand} {v : Value} (hx : ev σ x = some v) : a.eval x = v := by
  cases x with
  | tmp t => exact h.slot t v hx
  | const u => exact Option.some.inj hx
  | global g => exact Option.some.inj hx
  | func f => exact Option.some.inj hx

def putS (d : Option Nat) (v : Value) (σ : Sg) : Sg := match d with | some d => (d, v) :: σ | none => σ

theorem fnd_cons_eq {σ : Sg} {d : Nat} {v : Value} : fnd ((d, v) :: σ) d = some v := by
  show (match Nat.beq d d with | true => some v | false => fnd σ d) = _
  rw [Nat.beq_refl d]
theorem beq_ne {d t : Nat} (h : d ≠ t) : Nat.beq d t = false := by
  cases e : Nat.beq d t with
  | false => rfl
  | true => exact absurd (Nat.eq_of_beq_eq_true e) h
theorem fnd_cons_ne {σ : Sg} {d t : Nat} {v : Value} (h : d ≠ t) : fnd ((d, v) :: σ) t = fnd σ t := by
  show (match Nat.beq d t with | true => some v | false => fnd σ t) = _
  rw [beq_ne h]

def okD (n : Nat) : Option Nat → Bool | some d => Nat.ble (d + 1) n | none => true

theorem Fr.put {n : Nat} {σ : Sg} {a : Act} (h : Fr n σ a) {d : Option Nat} {v : Value} (hd : okD n d = true) : Fr n (putS d v σ) (a.put d v) := by
  cases d with
  | none => exact h
  | some d =>
    have hd' : d < n := Nat.le_of_ble_eq_true hd
    refine ⟨by simpa [Act.put] using h.size, by simpa [Act.put] using h.defers, ?_⟩
    intro t u hu
    by_cases e : d = t
    · subst e
      rw [putS, fnd_cons_eq] at hu
      cases hu
      simp [Act.put, Array.getD, h.size, hd']
    · rw [putS, fnd_cons_ne e] at hu
      have := h.slot t u hu
      simp only [Act.put, Array.getD_eq_getD_getElem?] at this ⊢
      rw [Array.getElem?_setIfInBounds_ne e]
      exact this

/-- one more binding of a slot that holds that value anyway -/
theorem Fr.set {n : Nat} {σ : Sg} {a : Act} (h : Fr n σ a) {s : Nat} {v : Value} (hs : fnd σ s = some v) : Fr n ((s, v) :: σ) a := by
  refine ⟨h.size, h.defers, fun t u hu => ?_⟩
  by_cases e : s = t
  · subst e; rw [fnd_cons_eq] at hu; cases hu; exact h.slot _ _ hs
  · rw [fnd_cons_ne e] at hu; exact h.slot _ _ hu

/-- every binding of τ is one of σ -/
def Sub : Sg → Sg → Prop
  | [], _ => True
  | p :: r, σ => fnd σ p.1 = some p.2 ∧ Sub r σ
theorem Sub.fnd {τ σ : Sg} (h : Sub τ σ) : ∀ t v, fnd τ t = some v → fnd σ t = some v := by
  induction τ with
  | nil => intro t v hv; cases hv
  | cons p r ih =>
    intro t v hv
    by_cases e : p.1 = t
    · subst e
      obtain ⟨d, u⟩ := p
      rw [fnd_cons_eq] at hv
      cases hv
      exact h.1
    · obtain ⟨d, u⟩ := p
      rw [fnd_cons_ne e] at hv
      exact ih h.2 t v hv
theorem Fr.sub {n : Nat} {σ τ : Sg} {a : Act} (h : Fr n σ a) (hs : Sub τ σ) : Fr n τ a := ⟨h.size, h.defers, fun t v hv => h.slot t v (hs.fnd t v hv)⟩

/- WEAKEST PRECONDITIONS -/
@[irreducible] def CW (P : Program) (c : Code) (Q : Exit → Act → World → Prop) (n : Nat) (σ : Sg) (w : World) : Prop := ∀ a, Fr n σ a → c.wp P Q a w
/-- an ending -/
@[irreducible] def EX (Q : Exit → Act → World → Prop) (e : Exit) (n : Nat) (σ : Sg) (w : World) : Prop := ∀ a, Fr n σ a → Q e a w
@[irreducible] def WL (P : Program) (ops : List Oper) (Q : Exit → Act → World → Prop) (l : List Oper) (n : Nat) (σ : Sg) (w : World) : Prop := ∀ a, Fr n σ a → wpList P ops.toArray Q l a w

section
variable {P : Program} {Q : Exit → Act → World → Prop} {n : Nat} {σ : Sg} {w : World}

theorem CW.seq {x y : Code} (h : CW P x (Exit.then (y.wp P Q) Q) n σ w) : CW P (.seq x y) Q n σ w := by
  unfold CW at *; exact fun a ha => wp_seq (h a ha)
theorem EX.thenN {y : Code} (h : CW P y Q n σ w) : EX (Exit.then (y.wp P Q) Q) .normal n σ w := by
  unfold EX CW at *; exact fun a ha => h a ha
theorem EX.thenX {id : Nat} {R : Act → World → Prop} (h : EX Q (.exit id) n σ w) : EX (Exit.then R Q) (.exit id) n σ w := by
  unfold EX at *; exact fun a ha => h a ha
theorem EX.thenR {R : Act → World → Prop} (h : EX Q .ret n σ w) : EX (Exit.then R Q) .ret n σ w := by
  unfold EX at *; exact fun a ha => h a ha
theorem EX.inN {id : Nat} (h : EX Q .normal n σ w) : EX (Exit.inBlock id Q) .normal n σ w := by
  unfold EX at *; exact fun a ha => h a ha
theorem EX.inR {id : Nat} (h : EX Q .ret n σ w) : EX (Exit.inBlock id Q) .ret n σ w := by
  unfold EX at *; exact fun a ha => h a ha
theorem EX.inX {id : Nat} (h : EX Q .normal n σ w) : EX (Exit.inBlock id Q) (.exit id) n σ w := by
  unfold EX at *; intro a ha; show (if id = id then _ else _); rw [if_pos rfl]; exact h a ha
theorem EX.inXne {id id' : Nat} (hne : Nat.beq id' id = false) (h : EX Q (.exit id') n σ w) : EX (Exit.inBlock id Q) (.exit id') n σ w := by
  unfold EX at *; intro a ha; show (if id' = id then _ else _)
  rw [if_neg (fun e => by subst e; rw [Nat.beq_refl id'] at hne; cases hne)]; exact h a ha
theorem CW.block {id : Nat} {c : Code} (h : CW P c (Exit.inBlock id Q) n σ w) : CW P (.block id c) Q n σ w := by
  unfold CW at *; exact fun a ha => wp_block (h a ha)
theorem CW.exit {id : Nat} (h : EX Q (.exit id) n σ w) : CW P (.exit id) Q n σ w := by
  unfold CW EX at *; exact fun a ha => wp_exit (h a ha)
theorem CW.ret (h : EX Q .ret n σ w) : CW P .ret Q n σ w := by
  unfold CW EX at *; exact fun a ha => wp_ret (h a ha)
theorem CW.skip (h : EX Q .normal n σ w) : CW P .skip Q n σ w := by
  unfold CW EX at *; exact fun a ha => wp_skip (h a ha)
theorem CW.cond {c : Operand} {x y : Code} {t : Bool} (hc : ev σ c = some (.bool t)) (ht : t = true → CW P x Q n σ w) (hf : t = false → CW P y Q n σ w) : CW P (.cond c x y) Q n σ w := by
  unfold CW at *
  exact fun a ha => wp_cond_split (ha.ev hc) (fun h => ht h a ha) (fun h => hf h a ha)
theorem CW.condT {c : Operand} {x y : Code} (hc : ev σ c = some (.bool true)) (ht : CW P x Q n σ w) : CW P (.cond c x y) Q n σ w :=
  CW.cond hc (fun _ => ht) (fun h => by cases h)
theorem CW.condF {c : Operand} {x y : Code} (hc : ev σ c = some (.bool false)) (hf : CW P y Q n σ w) : CW P (.cond c x y) Q n σ w :=
  CW.cond hc (fun h => by cases h) (fun _ => hf)
theorem CW.region {id : Nat} {l : List Oper} (h : WL P l Q l n σ w) : CW P (.region id l.toArray false) Q n σ w := by
  unfold CW WL at *; exact fun a ha => wp_region_lit (h a ha)
theorem CW.sub {c : Code} {τ : Sg} (hs : Sub τ σ) (h : CW P c Q n τ w) : CW P c Q n σ w := by
  unfold CW at *; exact fun a ha => h a (ha.sub hs)
theorem WL.nil {l : List Oper} (h : EX Q .normal n σ w) : WL P l Q [] n σ w := by
  unfold WL EX at *; exact fun a ha => wpList_nil (h a ha)
theorem WL.sub {l l' : List Oper} {τ : Sg} (hs : Sub τ σ) (h : WL P l Q l' n τ w) : WL P l Q l' n σ w := by
  unfold WL at *; exact fun a ha => h a (ha.sub hs)
theorem EX.sub {e : Exit} {τ : Sg} (hs : Sub τ σ) (h : EX Q e n τ w) : EX Q e n σ w := by
  unfold EX at *; exact fun a ha => h a (ha.sub hs)

/- LOOPS: a relation over a type of states; each state says its slots -/
def Back {S : Type} (n : Nat) (σs : S → Sg) (I : S → World → Prop) (μ : S → Nat) (s : S) : Act → World → Prop :=
  fun a w => ∃ s', Fr n (σs s') a ∧ I s' w ∧ μ s' < μ s
theorem CW.loop {S : Type} {c : Code} (σs : S → Sg) (I : S → World → Prop) (μ : S → Nat) (s0 : S) (hs : Sub (σs s0) σ) (h0 : I s0 w)
    (round : ∀ s w, I s w → CW P c (Exit.then (Back n σs I μ s) Q) n (σs s) w) : CW P (.loop c) Q n σ w := by
  unfold CW at *
  intro a ha
  refine wp_loop_ghost (fun m a w => ∃ s, μ s = m ∧ Fr n (σs s) a ∧ I s w) (μ s0) ⟨s0, rfl, ha.sub hs, h0⟩ ?_
  rintro m a w ⟨s, rfl, hF, hI⟩
  refine wp_mono (round s w hI a hF) ?_
  intro e a' w' hq
  cases e with
  | normal =>
    obtain ⟨s', hF', hI', hlt⟩ := hq
    exact ⟨μ s', hlt, s', rfl, hF', hI'⟩
  | exit id => exact hq
  | goto l => exact hq
  | ret => exact hq
  | panic ch => exact hq
  | outgrown => exact hq
theorem EX.back {S : Type} {σs : S → Sg} {I : S → World → Prop} {μ : S → Nat} {s : S} (s' : S) (hs : Sub (σs s') σ) (hI : I s' w) (hμ : μ s' < μ s) :
    EX (Exit.then (Back n σs I μ s) Q) .normal n σ w := by
  unfold EX; exact fun a ha => ⟨s', ha.sub hs, hI, hμ⟩

/- ENTERING A FUNCTION, AND LEAVING IT -/
/-- 'it returns v in w', and that is so' -/
def Rt (P : Program) (f : FuncId) (args : Array Value) (w : World) (R : Value → World → Prop) : Prop :=
  Calls P f args w fun e w' => ∃ v, e = .returned v ∧ R v w'
theorem Rt.mono {f : FuncId} {args : Array Value} {R R' : Value → World → Prop} (h : Rt P f args w R) (hr : ∀ v w', R v w' → R' v w') : Rt P f args w R' :=
  Calls.mono h fun e w' ⟨v, he, hv⟩ => ⟨v, he, hr v w' hv⟩

def argS : Nat → List Value → Sg
  | _, [] => []
  | k, v :: r => (k, v) :: argS (k + 1) r
theorem fnd_argS : ∀ (vs : List Value) (k t : Nat) (v : Value), fnd (argS k vs) t = some v → k ≤ t ∧ vs[t - k]? = some v := by
  intro vs
  induction vs with
  | nil => intro k t v h; cases h
  | cons u r ih =>
    intro k t v h
    by_cases e : k = t
    · subst e; rw [argS, fnd_cons_eq] at h; cases h; exact ⟨Nat.le_refl _, by simp⟩
    · rw [argS, fnd_cons_ne e] at h
      obtain ⟨h1, h2⟩ := ih (k + 1) t v h
      refine ⟨by omega, ?_⟩
      have : t - k = (t - (k + 1)) + 1 := by omega
      rw [this, List.getElem?_cons_succ]; exact h2
theorem Rt.enter {f : FuncId} {fn : Func} {c : Code} {vs : List Value} {R : Value → World → Prop} (hf : P.funcs[f]? = some fn) (hb : fn.body = some c) (hn : fn.ntmps = n)
    (hle : Nat.ble vs.length n = true) (h : CW P c (bodyPost P fn fun e w' => ∃ v, e = .returned v ∧ R v w') n (argS 0 vs) w) : Rt P f vs.toArray w R := by
  refine calls_of_wp hf hb ?_
  unfold CW at h
  have hl := Nat.le_of_ble_eq_true hle
  refine h _ ⟨by simp [hn]; omega, rfl, fun t v hv => ?_⟩
  obtain ⟨_, h2⟩ := fnd_argS vs 0 t v hv
  simp only [Nat.sub_zero] at h2
  have hlt := (List.getElem?_eq_some_iff.1 h2).1
  simp only [Array.getD_eq_getD_getElem?]
  rw [Array.getElem?_append_left (by simpa using hlt)]
  simp [h2]
theorem Rt.enter0 {f : FuncId} {fn : Func} {c : Code} {R : Value → World → Prop} (hf : P.funcs[f]? = some fn) (hn : fn.ntmps = n) (hb : fn.body = some c)
    (h : CW P c (bodyPost P fn fun e w' => ∃ v, e = .returned v ∧ R v w') n [] w) : Rt P f [].toArray w R := Rt.enter (vs := []) hf hb hn rfl h
theorem Rt.enter1 {f : FuncId} {fn : Func} {c : Code} {a0 : Value} {R : Value → World → Prop} (hf : P.funcs[f]? = some fn) (hn : fn.ntmps = n) (hb : fn.body = some c)
    (hle : Nat.ble 1 n = true) (h : CW P c (bodyPost P fn fun e w' => ∃ v, e = .returned v ∧ R v w') n [(0, a0)] w) : Rt P f [a0].toArray w R := Rt.enter hf hb hn hle h
theorem Rt.enter2 {f : FuncId} {fn : Func} {c : Code} {a0 a1 : Value} {R : Value → World → Prop} (hf : P.funcs[f]? = some fn) (hn : fn.ntmps = n) (hb : fn.body = some c)
    (hle : Nat.ble 2 n = true) (h : CW P c (bodyPost P fn fun e w' => ∃ v, e = .returned v ∧ R v w') n [(0, a0), (1, a1)] w) : Rt P f [a0, a1].toArray w R := Rt.enter hf hb hn hle h
theorem Rt.enter3 {f : FuncId} {fn : Func} {c : Code} {a0 a1 a2 : Value} {R : Value → World → Prop} (hf : P.funcs[f]? = some fn) (hn : fn.ntmps = n) (hb : fn.body = some c)
    (hle : Nat.ble 3 n = true) (h : CW P c (bodyPost P fn fun e w' => ∃ v, e = .returned v ∧ R v w') n [(0, a0), (1, a1), (2, a2)] w) : Rt P f [a0, a1, a2].toArray w R := Rt.enter hf hb hn hle h
theorem Rt.enter4 {f : FuncId} {fn : Func} {c : Code} {a0 a1 a2 a3 : Value} {R : Value → World → Prop} (hf : P.funcs[f]? = some fn) (hn : fn.ntmps = n) (hb : fn.body = some c)
    (hle : Nat.ble 4 n = true) (h : CW P c (bodyPost P fn fun e w' => ∃ v, e = .returned v ∧ R v w') n [(0, a0), (1, a1), (2, a2), (3, a3)] w) : Rt P f [a0, a1, a2, a3].toArray w R := Rt.enter hf hb hn hle h
theorem Rt.enter5 {f : FuncId} {fn : Func} {c : Code} {a0 a1 a2 a3 a4 : Value} {R : Value → World → Prop} (hf : P.funcs[f]? = some fn) (hn : fn.ntmps = n) (hb : fn.body = some c)
    (hle : Nat.ble 5 n = true) (h : CW P c (bodyPost P fn fun e w' => ∃ v, e = .returned v ∧ R v w') n [(0, a0), (1, a1), (2, a2), (3, a3), (4, a4)] w) : Rt P f [a0, a1, a2, a3, a4].toArray w R := Rt.enter hf hb hn hle h
theorem EX.ret1 {fn : Func} {t : Nat} {v : Value} {R : Value → World → Prop} (hr : fn.results = #[.tmp t]) (ht : fnd σ t = some v) (h : R v w) :
    EX (bodyPost P fn fun e w' => ∃ v, e = .returned v ∧ R v w') .ret n σ w := by
  unfold EX; intro a ha
  exact bodyPost_ret (results_tmp hr _ _ _) ha.defers ⟨v, by rw [ha.slot t v ht], h⟩
theorem EX.ret2 {fn : Func} {t u : Nat} {v x : Value} {R : Value → World → Prop} (hr : fn.results = #[.tmp t, .tmp u]) (ht : fnd σ t = some v) (hu : fnd σ u = some x) (h : R (.tuple ⟨[v, x]⟩) w) :
    EX (bodyPost P fn fun e w' => ∃ v, e = .returned v ∧ R v w') .ret n σ w := by
  unfold EX; intro a ha
  exact bodyPost_ret (results_tmp2 hr _ _ _) ha.defers ⟨_, by rw [ha.slot t v ht, ha.slot u x hu], h⟩
theorem EX.end0 {fn : Func} {R : Value → World → Prop} (hr : fn.results = #[]) (h : R (.tuple #[]) w) :
    EX (bodyPost P fn fun e w' => ∃ v, e = .returned v ∧ R v w') .normal n σ w := by
  unfold EX; intro a ha
  exact bodyPost_end (results_none hr _ _ _) ha.defers ⟨_, rfl, h⟩
theorem EX.ret0 {fn : Func} {R : Value → World → Prop} (hr : fn.results = #[]) (h : R (.tuple #[]) w) :
    EX (bodyPost P fn fun e w' => ∃ v, e = .returned v ∧ R v w') .ret n σ w := by
  unfold EX; intro a ha
  exact bodyPost_ret (results_none hr _ _ _) ha.defers ⟨_, rfl, h⟩
end

/- GUARDS -/
def gslot : List Oper → Nat → Option Nat
  | [], _ => none
  | o :: _, 0 => o.dst
  | _ :: r, j + 1 => gslot r j
theorem gslot_eq : ∀ (l : List Oper) (j : Nat), gslot l j = (l[j]?).bind (·.dst)
  | [], j => by simp [gslot]
  | o :: r, 0 => by simp [gslot]
  | o :: r, j + 1 => by simp [gslot, gslot_eq r j]
/-- is the guard met? none: it can't be told -/
def gd (ops : List Oper) (σ : Sg) (o : Oper) : Option Bool :=
  match o.guard with
  | none => some true
  | some (j, want) =>
    match gslot ops j with
    | none => none
    | some s => match fnd σ s with
      | some (.bool b) => some (match b, want with | true, true => true | false, false => true | _, _ => false)
      | some (.tuple _) => some false
      | _ => none
theorem gd_wanted {ops : List Oper} {σ : Sg} {o : Oper} {b : Bool} {n : Nat} {a : Act} (ha : Fr n σ a) (h : gd ops σ o = some b) : Region.wanted o (yielded ops.toArray a.tmps) = b := by
  unfold gd at h
  unfold Region.wanted
  split at h
  · rename_i hg; rw [hg]; exact (Option.some.inj h)
  · rename_i j want hg
    rw [hg]
    have hy : ∀ s v, gslot ops j = some s → fnd σ s = some v → yielded ops.toArray a.tmps j = (match v with | .bool b => some b | _ => none) := by
      intro s v hs hv
      have := ha.slot s v hv
      unfold yielded
      have e : ops.toArray[j]?.bind (·.dst) = some s := by rw [← hs, gslot_eq]; simp
      rw [e]
      simp only [Option.bind_some]
      simp only [Array.getD_eq_getD_getElem?] at this
      cases ht : a.tmps[s]? with
      | none =>
        rw [ht] at this
        simp only [Option.getD_none] at this
        subst this
        simp [undef]
      | some u =>
        rw [ht] at this
        simp only [Option.getD_some] at this
        subst this
        cases u <;> rfl
    split at h
    · cases h
    · rename_i s hs
      split at h
      · rename_i b' hb
        have := hy s _ hs hb
        simp only [this]
        cases b' <;> cases want <;> simp at h <;> simp [← h]
      · rename_i x hb
        have := hy s _ hs hb
        simp only [this]
        simp at h; subst h; simp
      · cases h

/- PURE OPERATIONS -/
def bitI (op : BinOp) (k : IntKind) (x y : Int) : Int := bits op k x y
def pbin (op : BinOp) (x y : Value) : Option Value :=
  match op, x, y with
  | .shl, .int k a, .int .i64 b => match decide (0 ≤ b) with | true => some (.int k (k.wrap (a * 2 ^ (min b.toNat k.bits)))) | false => none
  | .add, .int .i64 a, .int .i64 b => some (.int .i64 (IntKind.i64.wrap (a + b)))
  | .sub, .int .i64 a, .int .i64 b => some (.int .i64 (IntKind.i64.wrap (a - b)))
  | .mul, .int .i64 a, .int .i64 b => some (.int .i64 (IntKind.i64.wrap (a * b)))
  | .eql, .int .i64 a, .int .i64 b => some (.bool (a == b))
  | .neq, .int .i64 a, .int .i64 b => some (.bool (a != b))
  | .lss, .int .i64 a, .int .i64 b => some (.bool (decide (a < b)))
  | .leq, .int .i64 a, .int .i64 b => some (.bool (decide (a ≤ b)))
  | .gtr, .int .i64 a, .int .i64 b => some (.bool (decide (a > b)))
  | .geq, .int .i64 a, .int .i64 b => some (.bool (decide (a ≥ b)))
  | .eql, .int .u64 a, .int .u64 b => some (.bool (a == b))
  | .neq, .int .u64 a, .int .u64 b => some (.bool (a != b))
  | .and, .int .u64 a, .int .u64 b => some (.int .u64 (bits .and .u64 a b))
  | .or, .int .u64 a, .int .u64 b => some (.int .u64 (bits .or .u64 a b))
  | .and, .int .i64 a, .int .i64 b => some (.int .i64 (bits .and .i64 a b))
  | .or, .int .i64 a, .int .i64 b => some (.int .i64 (bits .or .i64 a b))
  | .eql, .string a, .string b => some (.bool (a.data.toList == b.data.toList))
  | .neq, .string a, .string b => some (.bool !(a.data.toList == b.data.toList))
  | .eql, .int .u8 a, .int .u8 b => some (.bool (a == b))
  | .neq, .int .u8 a, .int .u8 b => some (.bool (a != b))
  | .lss, .int .u8 a, .int .u8 b => some (.bool (decide (a < b)))
  | .leq, .int .u8 a, .int .u8 b => some (.bool (decide (a ≤ b)))
  | .gtr, .int .u8 a, .int .u8 b => some (.bool (decide (a > b)))
  | .geq, .int .u8 a, .int .u8 b => some (.bool (decide (a ≥ b)))
  | _, _, _ => none

def nthV : List Value → Nat → Option Value
  | [], _ => none
  | v :: _, 0 => some v
  | _ :: r, i + 1 => nthV r i
theorem nthV_eq : ∀ (l : List Value) (i : Nat), nthV l i = l[i]?
  | [], i => by simp [nthV]
  | v :: r, 0 => by simp [nthV]
  | v :: r, i + 1 => by simp [nthV, nthV_eq r i]
def evs (σ : Sg) : List Operand → Option (List Value)
  | [] => some []
  | x :: r => match ev σ x, evs σ r with
    | some v, some vs => some (v :: vs)
    | _, _ => none
theorem evs_eq {n : Nat} {σ : Sg} {a : Act} (ha : Fr n σ a) : ∀ (l : List Operand) (vs : List Value), evs σ l = some vs → l.map a.eval = vs
  | [], vs, h => by cases h; rfl
  | x :: r, vs, h => by
    simp only [evs] at h
    split at h
    · rename_i v us hv hu
      cases h
      simp [ha.ev hv, evs_eq ha r us hu]
    · cases h

def pureOp (σ : Sg) : Op → Option Value
  | .move x => ev σ x
  | .assign x => ev σ x
  | .pick c a b => match ev σ c with
    | some (.bool true) => ev σ a
    | some (.bool false) => ev σ b
    | _ => none
  | .binOp op _ x y _ => match ev σ x, ev σ y with
    | some u, some v => pbin op u v
    | _, _ => none
  | .unOp .not _ x => match ev σ x with
    | some (.bool b) => some (.bool !b)
    | _ => none
  | .extract x i => match ev σ x with
    | some (.tuple vs) => nthV vs.toList i
    | _ => none
  | _ => none

theorem pbin_run {P : Program} {w : World} {op : BinOp} {t yt : TypeId} {x y : Operand} {u v r : Value} (h : pbin op u v = some r) :
    ((do eqGuard op t x y u v; binOp op t u v : Sem Value)).run P w = .ok r w := by
  unfold pbin at h
  split at h <;> first
    | (cases h; done)
    | (rename_i k a b; split at h
       · rename_i hb; have hb' : ¬ b < 0 := by simpa using hb
         cases h; simp [eqGuard, binOp, Op.shift, hb']
       · cases h)
    | (cases h; simp [eqGuard, binOp, Op.intArith, Op.intCmp, intBits_and, intBits_or]; done)
    | (cases h; simp [eqGuard_at_string, binOp, Op.stringOp, ByteArray.toList_eq]; done)

theorem pureOp_run {P : Program} {w : World} {n : Nat} {σ : Sg} {a : Act} {o : Oper} {v : Value} (ha : Fr n σ a) (h : pureOp σ o.op = some v) :
    (execOp a.eval o).run P w = .ok (.value v) w := by
  unfold pureOp at h
  unfold execOp
  split at h
  · rename_i x hx; simp [hx, ha.ev h]
  · rename_i x hx; simp [hx, ha.ev h]
  · rename_i c x y hx
    split at h
    · rename_i hc; simp [hx, ha.ev hc, asBool, ha.ev h]
    · rename_i hc; simp [hx, ha.ev hc, asBool, ha.ev h]
    · cases h
  · rename_i op t x y yt hx
    split at h
    · rename_i u v' hu hv
      have hp := pbin_run (P := P) (w := w) (t := t) (yt := yt) (x := x) (y := y) h
      simp only [hx, ha.ev hu, ha.ev hv]
      rw [Sem.run_bind, hp]
      rfl
    · cases h
  · rename_i t x hx
    split at h
    · rename_i b hb; cases h; simp [hx, ha.ev hb, Op.unary]
    · cases h
  · rename_i x i hx
    split at h
    · rename_i vs hvs
      rw [nthV_eq] at h
      have h' : vs[i]? = some v := by simpa using h
      simp [hx, ha.ev hvs, Instr.extract, h']
    · cases h
  · cases h

section
variable {P : Program} {Q : Exit → Act → World → Prop} {n : Nat} {σ : Sg} {w : World} {L rest : List Oper} {d : Nat} {op : Op} {ty : TypeId} {pos : String} {af : Array Edge} {g : Option (Nat × Bool)}

/-- an operation whose run is known -/
theorem WL.run {v : Value} {w' : World} (hg : gd L σ ⟨some d, op, ty, pos, af, g⟩ = some true) (hd : Nat.ble (d + 1) n = true)
    (hr : ∀ a, Fr n σ a → (execOp a.eval ⟨some d, op, ty, pos, af, g⟩).run P w = .ok (.value v) w') (h : WL P L Q rest n ((d, v) :: σ) w') : WL P L Q (⟨some d, op, ty, pos, af, g⟩ :: rest) n σ w := by
  unfold WL at *
  intro a ha
  refine wpList_step fun K hK => ?_
  rw [gd_wanted ha hg, if_pos rfl]
  unfold Oper.wp
  rw [hr a ha]
  exact hK _ _ (h _ (ha.put (d := some d) hd))
theorem WL.runU {w' : World} (hg : gd L σ ⟨none, op, ty, pos, af, g⟩ = some true)
    (hr : ∀ a, Fr n σ a → (execOp a.eval ⟨none, op, ty, pos, af, g⟩).run P w = .ok .skip w') (h : WL P L Q rest n σ w') : WL P L Q (⟨none, op, ty, pos, af, g⟩ :: rest) n σ w := by
  unfold WL at *
  intro a ha
  refine wpList_step fun K hK => ?_
  rw [gd_wanted ha hg, if_pos rfl]
  unfold Oper.wp
  rw [hr a ha]
  exact hK _ _ (h _ ha)
theorem WL.pure {v : Value} (hg : gd L σ ⟨some d, op, ty, pos, af, g⟩ = some true) (hd : Nat.ble (d + 1) n = true)
    (hv : pureOp σ op = some v) (h : WL P L Q rest n ((d, v) :: σ) w) : WL P L Q (⟨some d, op, ty, pos, af, g⟩ :: rest) n σ w :=
  WL.run hg hd (fun a ha => pureOp_run ha hv) h
/-- an operation whose guard is not met -/
theorem WL.pass (hg : gd L σ ⟨some d, op, ty, pos, af, g⟩ = some false) (hd : Nat.ble (d + 1) n = true) (h : WL P L Q rest n ((d, undef) :: σ) w) : WL P L Q (⟨some d, op, ty, pos, af, g⟩ :: rest) n σ w := by
  unfold WL at *
  intro a ha
  refine wpList_step fun K hK => ?_
  rw [gd_wanted ha hg, if_neg (by simp)]
  exact hK _ _ (h _ (ha.put (d := some d) hd))
/-- a slot's bool is looked at -/
theorem WL.look {s : Nat} {b : Bool} (hs : fnd σ s = some (.bool b)) (ht : b = true → WL P L Q rest n ((s, .bool true) :: σ) w) (hf : b = false → WL P L Q rest n ((s, .bool false) :: σ) w) : WL P L Q rest n σ w := by
  unfold WL at *
  intro a ha
  cases b with
  | true => exact ht rfl a (ha.set hs)
  | false => exact hf rfl a (ha.set hs)

/-- the guard that the next operation waits for -/
theorem WL.lookG {dd : Option Nat} {j s : Nat} {want b : Bool} (hj : gslot L j = some s) (hs : fnd σ s = some (.bool b)) (ht : b = true → WL P L Q (⟨dd, op, ty, pos, af, some (j, want)⟩ :: rest) n ((s, .bool true) :: σ) w)
    (hf : b = false → WL P L Q (⟨dd, op, ty, pos, af, some (j, want)⟩ :: rest) n ((s, .bool false) :: σ) w) : WL P L Q (⟨dd, op, ty, pos, af, some (j, want)⟩ :: rest) n σ w := WL.look hs ht hf
theorem WL.lookP {s : Nat} {x y : Operand} {b : Bool} (hs : fnd σ s = some (.bool b)) (ht : b = true → WL P L Q (⟨some d, .pick (.tmp s) x y, ty, pos, af, g⟩ :: rest) n ((s, .bool true) :: σ) w)
    (hf : b = false → WL P L Q (⟨some d, .pick (.tmp s) x y, ty, pos, af, g⟩ :: rest) n ((s, .bool false) :: σ) w) : WL P L Q (⟨some d, .pick (.tmp s) x y, ty, pos, af, g⟩ :: rest) n σ w := WL.look hs ht hf

/- SUMS THAT FIT -/
theorem wrap_in {a : Int} (h0 : -9223372036854775808 ≤ a) (h1 : a < 9223372036854775808) : IntKind.i64.wrap a = a := IntWalk.i64_in _ ⟨h0, by omega⟩
theorem WL.add {t yt : TypeId} {x y : Operand} {a b : Int} (hg : gd L σ ⟨some d, .binOp .add t x y yt, ty, pos, af, g⟩ = some true) (hd : Nat.ble (d + 1) n = true)
    (hx : ev σ x = some (.int .i64 a)) (hy : ev σ y = some (.int .i64 b)) (h0 : -9223372036854775808 ≤ a + b) (h1 : a + b < 9223372036854775808) (h : WL P L Q rest n ((d, .int .i64 (a + b)) :: σ) w) : WL P L Q (⟨some d, .binOp .add t x y yt, ty, pos, af, g⟩ :: rest) n σ w := by
  refine WL.pure hg hd (v := .int .i64 (a + b)) ?_ h
  simp only [pureOp, hx, hy, pbin]
  rw [wrap_in h0 h1]
theorem WL.sub' {t yt : TypeId} {x y : Operand} {a b : Int} (hg : gd L σ ⟨some d, .binOp .sub t x y yt, ty, pos, af, g⟩ = some true) (hd : Nat.ble (d + 1) n = true)
    (hx : ev σ x = some (.int .i64 a)) (hy : ev σ y = some (.int .i64 b)) (h0 : -9223372036854775808 ≤ a - b) (h1 : a - b < 9223372036854775808) (h : WL P L Q rest n ((d, .int .i64 (a - b)) :: σ) w) : WL P L Q (⟨some d, .binOp .sub t x y yt, ty, pos, af, g⟩ :: rest) n σ w := by
  refine WL.pure hg hd (v := .int .i64 (a - b)) ?_ h
  simp only [pureOp, hx, hy, pbin]
  rw [wrap_in h0 h1]
theorem WL.mul {t yt : TypeId} {x y : Operand} {a b : Int} (hg : gd L σ ⟨some d, .binOp .mul t x y yt, ty, pos, af, g⟩ = some true) (hd : Nat.ble (d + 1) n = true)
    (hx : ev σ x = some (.int .i64 a)) (hy : ev σ y = some (.int .i64 b)) (h0 : -9223372036854775808 ≤ a * b) (h1 : a * b < 9223372036854775808) (h : WL P L Q rest n ((d, .int .i64 (a * b)) :: σ) w) : WL P L Q (⟨some d, .binOp .mul t x y yt, ty, pos, af, g⟩ :: rest) n σ w := by
  refine WL.pure hg hd (v := .int .i64 (a * b)) ?_ h
  simp only [pureOp, hx, hy, pbin]
  rw [wrap_in h0 h1]
end

/- CALLS, AND FUNCTIONS AS VALUES -/
section
variable {P : Program} {Q : Exit → Act → World → Prop} {n : Nat} {σ : Sg} {w : World} {L rest : List Oper} {d : Nat} {op : Op} {ty : TypeId} {pos : String} {af : Array Edge} {g : Option (Nat × Bool)}
theorem WL.makeFunc {fn : Fn} {fs cs : List Operand} {fv cv : List Value} (hg : gd L σ ⟨some d, .makeFunc fn fs.toArray cs.toArray, ty, pos, af, g⟩ = some true) (hd : Nat.ble (d + 1) n = true)
    (hf : evs σ fs = some fv) (hc : evs σ cs = some cv) (h : WL P L Q rest n ((d, .func fn fv.toArray cv.toArray) :: σ) w) : WL P L Q (⟨some d, .makeFunc fn fs.toArray cs.toArray, ty, pos, af, g⟩ :: rest) n σ w := by
  refine WL.run hg hd (fun a ha => ?_) h
  have e1 := evs_eq ha fs fv hf
  have e2 := evs_eq ha cs cv hc
  simp [execOp, Instr.makeFunc, e1, e2]
/-- a function is there, with a body -/
class IsF (P : Program) (f : FuncId) : Prop where
  ok : ∃ fn, P.funcs[f]? = some fn ∧ fn.body.isSome = true ∧ (fn.name == "runtime.NumGoroutine") = false
theorem callFunc_run {f : FuncId} [hf : IsF P f] (args : Array Value) : (callFunc f args).run P w = .ok (.enter f args) w := by
  obtain ⟨fn, h1, h2, h3⟩ := hf.ok
  have h4 : fn.body ≠ none := by intro e; rw [e] at h2; cases h2
  have h5 : fn.name ≠ "runtime.NumGoroutine" := by simpa using h3
  simp [callFunc, h1, h4, h5]
theorem WL.callV {f : FuncId} {x : Operand} {xs : List Operand} {ts : Array TypeId} {vs fv cv : List Value} {R : Value → World → Prop}
    (hg : gd L σ ⟨some d, .call ⟨.value x, xs.toArray, ts⟩, ty, pos, af, g⟩ = some true) (hd : Nat.ble (d + 1) n = true) (hx : ev σ x = some (.func (.func f) fv.toArray cv.toArray)) (hv : evs σ xs = some vs) [hf : IsF P f]
    (hc : Rt P f (fv ++ vs ++ cv).toArray w R) (h : ∀ v w', R v w' → WL P L Q rest n ((d, v) :: σ) w') : WL P L Q (⟨some d, .call ⟨.value x, xs.toArray, ts⟩, ty, pos, af, g⟩ :: rest) n σ w := by
  unfold WL at *
  intro a ha
  refine wpList_step fun K hK => ?_
  rw [gd_wanted ha hg, if_pos rfl]
  have e1 := evs_eq ha xs vs hv
  have e2 := ha.ev hx
  have hr : (execOp a.eval ⟨some d, .call ⟨.value x, xs.toArray, ts⟩, ty, pos, af, g⟩).run P w = .ok (.enter f (fv ++ vs ++ cv).toArray) w := by
    have := callFunc_run (P := P) (f := f) (w := w) (fv ++ vs ++ cv).toArray
    simp [execOp, resolve, e2, Deferred.ofValue, invoke, e1]
    simpa using this
  unfold Oper.wp
  rw [hr]
  refine Calls.mono hc ?_
  rintro e w' ⟨v, rfl, hR⟩
  exact hK _ _ (h v w' hR _ (ha.put (d := some d) hd))
/-- a call by name -/
theorem WL.call {f : FuncId} {xs : List Operand} {ts : Array TypeId} {vs : List Value} {R : Value → World → Prop}
    (hg : gd L σ ⟨some d, .call ⟨.value (.func f), xs.toArray, ts⟩, ty, pos, af, g⟩ = some true) (hd : Nat.ble (d + 1) n = true) (hv : evs σ xs = some vs) [hf : IsF P f]
    (hc : Rt P f vs.toArray w R) (h : ∀ v w', R v w' → WL P L Q rest n ((d, v) :: σ) w') : WL P L Q (⟨some d, .call ⟨.value (.func f), xs.toArray, ts⟩, ty, pos, af, g⟩ :: rest) n σ w :=
  WL.callV hg hd (fv := []) (cv := []) rfl hv (by simpa using hc) h
end

end Go.Proofs.Ythojdcbpglipeaa
