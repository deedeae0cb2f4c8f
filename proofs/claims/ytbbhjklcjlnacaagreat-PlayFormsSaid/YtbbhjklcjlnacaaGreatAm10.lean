/-
  Runs of code; what is left to show of one. No condition beyond what each theorem states.
-/
import Derived.Test.YtbbhjklcjlnacaaGreatAm9e
import Derived.Defers
/-! Runs of code; what is left to show of one. -/
namespace Go.AM
variable {P : Program}

/-- From here to the function's end. -/
def RunQ (P : Program) (k : List Item) (a : Act) (w : World) (Q : Exit → Act → World → Prop) : Prop :=
  ∀ (b : Frame) (cs : List Frame), ∃ e a' w', Q e a' w' ∧ Arrives P (lone (b.at a k) cs w) b [] cs e a' w'

theorem runq_step {k k' : List Item} {a : Act} {w : World} {Q : Exit → Act → World → Prop} (hs : ∀ (b : Frame) cs, step P (lone (b.at a k) cs w) = .next (lone (b.at a k') cs w)) (h : RunQ P k' a w Q) : RunQ P k a w Q :=
  fun b cs => let ⟨e, a', w', q, r⟩ := h b cs; ⟨e, a', w', q, .of_steps (.one (hs b cs)) r⟩

theorem runq_ops {ops : Array Oper} {l : List Nat} {k : List Item} {a : Act} {w : World} {Q : Exit → Act → World → Prop}
    (h : wpOps P ops (Exit.then (fun a' w' => RunQ P k a' w' Q) Q) l a w) : RunQ P (.inRegion ops l :: k) a w Q := by
  intro b cs
  obtain ⟨e, a', w', q, r⟩ := wp_ops l a w h b k cs
  cases e with
  | normal =>
    obtain ⟨e2, a2, w2, q2, r2⟩ := q b cs
    exact ⟨e2, a2, w2, q2, .of_steps r r2⟩
  | exit id => exact ⟨_, _, _, q, fun k' hk => by simp [exitTo] at hk⟩
  | goto l => exact ⟨_, _, _, q, fun k' hk => by simp [gotoIn] at hk⟩
  | ret => exact ⟨_, _, _, q, r⟩
  | panic ch => exact ⟨_, _, _, q, r⟩
  | outgrown => exact ⟨_, _, _, q, r⟩

theorem calls_of_runq {f : FuncId} {fn : Func} {c : Code} {args : Array Value} {w : World} {R : Ending → World → Prop} (hf : P.funcs[f]? = some fn) (hb : fn.body = some c)
    (h : RunQ P [.code c] { tmps := args ++ Array.replicate (fn.ntmps - args.size) undef, defers := [] } w (bodyPostD P fn R)) : Calls P f args w R := by
  intro cs
  let b : Frame := { (default : Frame) with fn := f, kind := .normal }
  have henter : Frame.enter P f args .normal = b.at { tmps := args ++ Array.replicate (fn.ntmps - args.size) undef, defers := [] } [.code c] := by
    simp [Frame.enter, Frame.at, hf, hb, b]
  obtain ⟨e, a', w', hq, harr⟩ := h b cs
  rw [← henter] at harr
  cases e with
  | normal =>
    obtain ⟨e', w'', fr', hR, hs, hfn, hl⟩ := leaves_steps a'.defers .returning w' { b.at a' [] with mode := .returning } cs rfl rfl rfl hf rfl hq
    exact ⟨e', w'', fr', hR, Comes.of_steps (Steps.trans harr (.one step_end)) hs, hfn, hl⟩
  | ret =>
    obtain ⟨todo, hs₀⟩ := harr
    obtain ⟨e', w'', fr', hR, hs, hfn, hl⟩ := leaves_steps a'.defers .returning w' { b.at a' todo with mode := .returning } cs rfl rfl rfl hf rfl hq
    exact ⟨e', w'', fr', hR, Comes.of_steps hs₀ hs, hfn, hl⟩
  | panic chain =>
    obtain ⟨todo, hs₀⟩ := harr
    obtain ⟨e', w'', fr', hR, hs, hfn, hl⟩ := leaves_steps a'.defers (.panicking chain) w' { b.at a' todo with mode := .panicking chain } cs rfl rfl rfl hf rfl hq
    exact ⟨e', w'', fr', hR, Comes.of_steps hs₀ hs, hfn, hl⟩
  | exit id => exact hq.elim
  | goto l => exact hq.elim
  | outgrown => exact ⟨.outgrown, w', b, hq, harr.resolve_left (by simp [b]), rfl, trivial⟩

theorem Leaves.mono {fn : Func} {tmps : Array Value} {R R' : Ending → World → Prop} (hR : ∀ e w, R e w → R' e w) : ∀ (ds : List Deferred) (u : FrameMode) (w : World), Leaves P fn tmps R ds u w → Leaves P fn tmps R' ds u w
  | [], .returning, w, ⟨v, h1, h2⟩ => ⟨v, h1, hR _ _ h2⟩
  | [], .panicking _, w, h => hR _ _ h
  | [], .run, _, h => h.elim
  | d :: ds, u, w, ⟨h1, fv, cap, f, args, h2, h3, h4⟩ => ⟨h1, fv, cap, f, args, h2, h3, h4.mono fun e u' w' he => by
      cases e with
      | returned v => exact Leaves.mono hR ds _ w' he
      | panicked c => exact Leaves.mono hR ds _ w' he
      | outgrown => exact hR _ _ he⟩

/-- How a call ends: it returns a value, or it panics with one. -/
inductive Res where
  | ret (v : AV)
  | pan (v : AV)

/-- What holds behind a function: its value (or what it panics with), the objects then, and how many numbers are given. The first k numbers are what they were. -/
def FinO (k : Nat) (K : Res → Hp → Nat → Prop) (X : Cx) (hf : PH) (mk : AV → Res) (x : Value) (w : World) : Prop :=
  ∃ v H X', X.im.sub X'.im ∧ k ≤ X'.n ∧ (∀ id, id < k → X'.σ id = X.σ id) ∧ Mem X' hf H w ∧ pureR X' v x ∧ K (mk v) H X'.n

theorem FinO.weaken {k : Nat} {K : Res → Hp → Nat → Prop} {X X' : Cx} {hf : PH} {mk : AV → Res} {x : Value} {w : World} (le : X.le X') (hk : k ≤ X.n) (h : FinO k K X' hf mk x w) : FinO k K X hf mk x w := by
  obtain ⟨v, H, Y, l, a, b, m, p, c⟩ := h
  exact ⟨v, H, Y, PH.sub_trans le.im l, a, fun id hid => (b id hid).trans (le.σ id (Nat.lt_of_lt_of_le hid hk)), m, p, c⟩

/-- A function, whether it defers, and the call that is deferred now. -/
structure Fd where
  fn : Func
  dm : Bool
  D : Option AV
instance : Coe Func Fd := ⟨fun fn => ⟨fn, false, none⟩⟩

def finR (k : Nat) (K : Res → Hp → Nat → Prop) (X : Cx) (hf : PH) (w0 : World) : Ending → World → Prop
  | .returned v, w => Ext w0 w ∧ FinO k K X hf .ret v w
  | .panicked chain, w => Ext w0 w ∧ ∃ v, chain = [{ v, recovered := false }] ∧ FinO k K X hf .pan v w
  | .outgrown, _ => False

/-- What holds at a function's end, seen from a state on the way. -/
def finQ (P : Program) (F : Fd) (k : Nat) (K : Res → Hp → Nat → Prop) (X : Cx) (hf : PH) (w0 : World) : Exit → Act → World → Prop
  | .normal, a, w | .ret, a, w => (F.dm = false → a.defers = []) ∧ Leaves P F.fn a.tmps (finR k K X hf w0) a.defers .returning w
  | .panic chain, a, w => (F.dm = false → a.defers = []) ∧ Leaves P F.fn a.tmps (finR k K X hf w0) a.defers (.panicking chain) w
  | _, _, _ => False

theorem finQ.body {P : Program} {F : Fd} {k : Nat} {K : Res → Hp → Nat → Prop} {X : Cx} {hf : PH} {w0 : World} : ∀ e a w, finQ P F k K X hf w0 e a w → bodyPostD P F.fn (finR k K X hf w0) e a w
  | .normal, a, w, h => h.2
  | .ret, a, w, h => h.2
  | .panic _, a, w, h => h.2
  | .exit id, _, _, h => h.elim
  | .goto l, _, _, h => h.elim
  | .outgrown, _, _, h => h.elim

theorem finR.weaken {k : Nat} {K : Res → Hp → Nat → Prop} {X X' : Cx} {hf : PH} {w0 w1 : World} (le : X.le X') (hk : k ≤ X.n) (x : Ext w0 w1) : ∀ e w, finR k K X' hf w1 e w → finR k K X hf w0 e w
  | .returned v, w, ⟨h2, h4⟩ => ⟨x.trans h2, h4.weaken le hk⟩
  | .panicked _, w, ⟨h2, v, h3, h4⟩ => ⟨x.trans h2, v, h3, h4.weaken le hk⟩
  | .outgrown, _, h => h.elim
theorem finQ.map {P : Program} {F : Fd} {k : Nat} {K : Res → Hp → Nat → Prop} {X X' : Cx} {hf : PH} {w0 w1 : World} (hR : ∀ e w, finR k K X' hf w1 e w → finR k K X hf w0 e w) : ∀ e a w, finQ P F k K X' hf w1 e a w → finQ P F k K X hf w0 e a w
  | .normal, a, w, h => ⟨h.1, Leaves.mono hR _ _ _ h.2⟩
  | .ret, a, w, h => ⟨h.1, Leaves.mono hR _ _ _ h.2⟩
  | .panic _, a, w, h => ⟨h.1, Leaves.mono hR _ _ _ h.2⟩
  | .exit id, _, _, h => h.elim
  | .goto l, _, _, h => h.elim
  | .outgrown, _, _, h => h.elim
theorem finQ.weaken {P : Program} {F : Fd} {k : Nat} {K : Res → Hp → Nat → Prop} {X X' : Cx} {hf : PH} {w0 w1 : World} (le : X.le X') (hk : k ≤ X.n) (x : Ext w0 w1) : ∀ e a w, finQ P F k K X' hf w1 e a w → finQ P F k K X hf w0 e a w :=
  finQ.map (finR.weaken le hk x)

theorem RunQ.mono {k : List Item} {a : Act} {w : World} {Q Q' : Exit → Act → World → Prop} (hq : ∀ e a w, Q e a w → Q' e a w) (h : RunQ P k a w Q) : RunQ P k a w Q' :=
  fun b cs => let ⟨e, a', w', q, r⟩ := h b cs; ⟨e, a', w', hq _ _ _ q, r⟩

/-- What is known in a state: slots, objects, how many numbers are given. -/
structure St where
  env : List (Nat × AV)
  H : Hp
  nx : Nat

/-- What a walk is about: the program, the function, how many slots it has, how many numbers are to stay, what is to hold behind it. -/
structure Go where
  P : Program
  fn : Fd
  n : Nat
  k : Nat
  K : Res → Hp → Nat → Prop

/-- What is deferred: nothing, or one call. -/
def DOK (D : Option AV) (X : Cx) (ds : List Deferred) : Prop := match D with
  | none => ds = []
  | some v => ∃ f first caps ys zs, v = .fn (.func f) first caps ∧ ds = [{ target := .fn (.func f) zs, args := ys }] ∧ pureL X first ys.toList ∧ pureL X caps zs.toList
theorem DOK.mono {D : Option AV} {X Y : Cx} {ds : List Deferred} (le : X.le Y) (h : DOK D X ds) : DOK D Y ds := by
  cases D with
  | none => exact h
  | some v => obtain ⟨f, first, caps, ys, zs, e1, e2, p, q⟩ := h; exact ⟨f, first, caps, ys, zs, e1, e2, pureL_mono le _ _ p, pureL_mono le _ _ q⟩
/-- The state stands for this frame and this world. -/
structure Sat (N : Nat) (D : Option AV) (S : St) (X : Cx) (hf : PH) (a : Act) (w : World) : Prop where
  n : X.n = S.nx
  mem : Mem X hf S.H w
  env : envR X S.env a.tmps
  size : a.tmps.size = N
  defers : DOK D X a.defers

def aeval (env : List (Nat × AV)) : Operand → AV
  | .tmp t => match alook env t with | some v => v | none => .top
  | .const v => ofVal v
  | .global _ => .top
  | .func f => .fn (.func f) [] []

theorem aeval_pure {S : St} {X : Cx} {hf : PH} {a : Act} {w : World} {N : Nat} {D : Option AV} (s : Sat N D S X hf a w) (x : Operand) : pureR X (aeval S.env x) (a.eval x) := by
  cases x with
  | tmp t =>
    simp only [aeval, Act.eval]
    cases h : alook S.env t with
    | none => exact trivial
    | some v =>
      obtain ⟨x, e, p⟩ := s.env t v h
      simp [Array.getD_eq_getD_getElem?, e]; exact p
  | const v => exact ofVal_pure X v
  | global g => exact trivial
  | func f => simp only [aeval, Act.eval, pureR]; exact ⟨#[], #[], rfl, rfl, rfl⟩

def eput (env : List (Nat × AV)) (d : Option Tmp) (v : AV) : List (Nat × AV) := match d with
  | some d => (d, v) :: env
  | none => env

theorem envR_put {X : Cx} {env : List (Nat × AV)} {a : Act} {d : Option Tmp} {v : AV} {x : Value} (h : envR X env a.tmps) (p : pureR X v x) (hd : ∀ t, d = some t → t < a.tmps.size) : envR X (eput env d v) (a.put d x).tmps := by
  cases d with
  | none => exact h
  | some t =>
    intro s u e
    simp only [eput, alook] at e
    simp only [Act.put]
    split at e
    · rename_i hs; subst hs; cases e
      exact ⟨x, by simp [Array.getElem?_setIfInBounds, hd s rfl], p⟩
    · rename_i hs
      obtain ⟨y, e1, e2⟩ := h s u e
      refine ⟨y, ?_, e2⟩
      rw [Array.getElem?_setIfInBounds_ne (Ne.symm hs)]; exact e1
end Go.AM
