/-
  Any order of a region's operations: a few of them are enough. No condition beyond what each theorem states.
-/
import Derived.Test.YtbbhjklcjlnacaaGreatAm10
import Derived.Orders
/-! Any order of a region's operations: a few of them are enough. -/
namespace Go.AM
variable {P : Program}

def cls (P : Program) : Op → Cls
  | .move _ | .assign _ | .pick .. | .unOp .. | .fieldAddr .. | .indexAddr .. | .slice .. | .nilCheck _ | .extract .. | .field .. | .index .. | .build .. | .makeInterface .. | .makeFunc .. => .P
  | .binOp _ t .. => match tsh P t with | .strct | .arr _ _ | .other => .E | _ => .P
  | .convert s t _ => match tsh P s, tsh P t with | .int _, .int _ => .P | _, _ => .E
  | .load .. => .R
  | .alloc _ | .box .. | .buildSlice .. | .makeSlice .. | .makeMap .. => .A
  | .call { callee := .builtin .len, argTypes, .. } => match argTypes[0]? with | some t => clsLen P t | none => .E
  | .call { callee := .builtin .min, .. } | .call { callee := .builtin .max, .. } => .P
  | _ => .E

/-- What is known of an operation where it stands, beside what it does: that it would do the same elsewhere. -/
def Hit (P : Program) (o : Oper) (a : Act) (w : World) : Prop := match cls P o.op with
  | .P => ∃ v, ∀ u, OW .P w u → (execOp a.eval o).run P u = .ok (.value v) u
  | .R => ∃ v, ∀ u, OW .R w u → (execOp a.eval o).run P u = .ok (.value v) u
  | .A => ∃ v w1, (execOp a.eval o).run P w = .ok (.value v) w1 ∧ Old w w1
  | .E => True

section
variable {ops : Array Oper} {Q : Exit → Act → World → Prop}

/-- one operation, with what is known of it -/
def wpOpH (P : Program) (ops : Array Oper) (Q : Exit → Act → World → Prop) (i : Nat) (K : Act → World → Prop) (a : Act) (w : World) : Prop :=
  match ops[i]? with
  | none => K a w
  | some o => if Region.wanted o (yielded ops a.tmps) then Hit P o a w ∧ o.wp P a w K Q else K (a.put o.dst undef) w

def wpOpsH (P : Program) (ops : Array Oper) (Q : Exit → Act → World → Prop) : List Nat → Act → World → Prop
  | [], a, w => Q .normal a w
  | i :: rest, a, w => wpOpH P ops Q i (wpOpsH P ops Q rest) a w

def wpAnyH (P : Program) (ops : Array Oper) (Q : Exit → Act → World → Prop) : Nat → Array Bool → Act → World → Prop
  | 0, listed, a, w => Region.ready .any ops listed = [] ∧ Q .normal a w
  | fuel + 1, listed, a, w => (Region.ready .any ops listed = [] → Q .normal a w) ∧ ∀ i ∈ Region.ready .any ops listed, wpOpH P ops Q i (wpAnyH P ops Q fuel (listed.setIfInBounds i true)) a w

theorem wpOpH_mono {i : Nat} {a : Act} {w : World} {K K' : Act → World → Prop} (h : ∀ a w, K a w → K' a w) (hh : wpOpH P ops Q i K a w) : wpOpH P ops Q i K' a w := by
  unfold wpOpH at *
  split
  · exact h _ _ (by simpa [*] using hh)
  · rename_i o ho
    simp only [ho] at hh
    split
    · rename_i hw; simp only [hw, if_true] at hh; exact ⟨hh.1, Oper.wp_mono h hh.2⟩
    · rename_i hw; simp only [hw] at hh; exact h _ _ hh

theorem wpOp_of_H {i : Nat} {a : Act} {w : World} {K : Act → World → Prop} (h : wpOpH P ops Q i K a w) : wpOp P ops Q i K a w := by
  unfold wpOpH at h; unfold wpOp
  split
  · simpa [*] using h
  · rename_i o ho
    simp only [ho] at h
    split
    · rename_i hw; simp only [hw, if_true] at h; exact .inl h.2
    · rename_i hw; simp only [hw] at h; exact h

theorem wpAny_of_H : ∀ (fuel : Nat) (listed : Array Bool) (a : Act) (w : World), wpAnyH P ops Q fuel listed a w → wpAny P .any ops Q fuel listed a w
  | 0, _, _, _, h => h
  | fuel + 1, listed, a, w, h => ⟨h.1, fun i hi => wpOp_mono (fun a w => wpAny_of_H fuel _ a w) (wpOp_of_H (h.2 i hi))⟩

/-- An operation that yields 'v' in each world of S (or is passed over). -/
def YieldsIn (P : Program) (ops : Array Oper) (S : World → Prop) (o : Oper) (v : Value) (a : Act) : Prop :=
  (Region.wanted o (yielded ops a.tmps) = true ∧ ∀ w, S w → (execOp a.eval o).run P w = .ok (.value v) w) ∨
  (Region.wanted o (yielded ops a.tmps) = false ∧ v = undef)

theorem YieldsIn.of_same {S : World → Prop} {o : Oper} {v : Value} {a a' : Act} (hy : YieldsIn P ops S o v a) (he : execOp a'.eval o = execOp a.eval o)
    (hw : Region.wanted o (yielded ops a'.tmps) = Region.wanted o (yielded ops a.tmps)) : YieldsIn P ops S o v a' := by
  unfold YieldsIn at *; rw [he, hw]; exact hy

/-- May j be carried out ahead of i, where the text has i first? -/
def swaps (P : Program) (i j : Op) : Bool := match cls P i with
  | .P => true
  | .R => match cls P j with | .E => false | _ => true
  | _ => false

/-- j ahead of i. -/
theorem wpOpH_put {S : World → Prop} {j : Nat} {oi oj : Oper} {v : Value} (hj : ops[j]? = some oj) (hap : oi.apart ops oj = true)
    (hsi : ∀ cs b, oi.op ≠ .select cs b) (hsj : ∀ cs b, oj.op ≠ .select cs b) (hS : (∀ w, S w) ∨ ((cls P oj.op ≠ .E) ∧ ∀ w w', S w → Old w w' → S w'))
    (hQ : cls P oj.op = .E → ∀ c a w, Q (.panic c) (a.put oi.dst v) w → Q (.panic c) a w) {K : Act → World → Prop} {a : Act} {w : World} (hw0 : S w)
    (hy : YieldsIn P ops S oi v a) (h : wpOpH P ops Q j K (a.put oi.dst v) w) :
    wpOpH P ops Q j (fun a' w' => S w' ∧ YieldsIn P ops S oi v a' ∧ K (a'.put oi.dst v) w') a w := by
  obtain ⟨h1, h2, h3⟩ := Oper.apart_spec hap
  have keep : ∀ (a : Act), YieldsIn P ops S oi v a → ∀ u, YieldsIn P ops S oi v (a.put oj.dst u) := fun a hy u =>
    hy.of_same (execOp_put oi hsi a oj.dst u h3) (wanted_put oi a oj.dst u h3)
  have keepD : ∀ d, YieldsIn P ops S oi v { a with defers := d :: a.defers } := fun d => hy.of_same rfl rfl
  unfold wpOpH at *
  simp only [hj] at *
  rw [wanted_put oj a oi.dst v h1] at h
  split
  · rename_i hw
    simp only [hw, if_true] at h
    obtain ⟨hh, h⟩ := h
    have hh' : Hit P oj a w := by unfold Hit at hh ⊢; rw [execOp_put oj hsj a oi.dst v h1] at hh; exact hh
    refine ⟨hh', ?_⟩
    unfold Oper.wp at *
    rw [execOp_put oj hsj a oi.dst v h1] at h
    have hSw : ∀ n w', (execOp a.eval oj).run P w = .ok n w' → S w' := by
      intro n w' e
      rcases hS with hS | ⟨hne, hS⟩
      · exact hS w'
      · refine hS w w' hw0 ?_
        unfold Hit at hh'
        cases hc : cls P oj.op with
        | P => simp only [hc] at hh'; obtain ⟨v, hv⟩ := hh'; rw [hv w trivial] at e; cases e; exact Old.refl w
        | R => simp only [hc] at hh'; obtain ⟨v, hv⟩ := hh'; rw [hv w (Old.refl w)] at e; cases e; exact Old.refl w
        | A => simp only [hc] at hh'; obtain ⟨v, w1, hv, ho⟩ := hh'; rw [hv] at e; cases e; exact ho
        | E => exact absurd hc hne
    have hSc : ∀ f args w', (execOp a.eval oj).run P w = .ok (.enter f args) w' → ∀ w'', S w'' := by
      intro f args w' e
      rcases hS with hS | ⟨hne, hS⟩
      · exact hS
      · exfalso
        unfold Hit at hh'
        cases hc : cls P oj.op with
        | P => simp only [hc] at hh'; obtain ⟨v, hv⟩ := hh'; rw [hv w trivial] at e; cases e
        | R => simp only [hc] at hh'; obtain ⟨v, hv⟩ := hh'; rw [hv w (Old.refl w)] at e; cases e
        | A => simp only [hc] at hh'; obtain ⟨v, w1, hv, ho⟩ := hh'; rw [hv] at e; cases e
        | E => exact absurd hc hne
    have hSr : ∀ f args w', (execOp a.eval oj).run P w = .ok (.row f args) w' → ∀ w'', S w'' := by
      intro f args w' e
      rcases hS with hS | ⟨hne, hS⟩
      · exact hS
      · exfalso
        unfold Hit at hh'
        cases hc : cls P oj.op with
        | P => simp only [hc] at hh'; obtain ⟨v, hv⟩ := hh'; rw [hv w trivial] at e; cases e
        | R => simp only [hc] at hh'; obtain ⟨v, hv⟩ := hh'; rw [hv w (Old.refl w)] at e; cases e
        | A => simp only [hc] at hh'; obtain ⟨v, w1, hv, ho⟩ := hh'; rw [hv] at e; cases e
        | E => exact absurd hc hne
    have hE : (∀ v w', (execOp a.eval oj).run P w ≠ .ok (.value v) w') → cls P oj.op = .E := by
      intro hne
      unfold Hit at hh'
      cases hc : cls P oj.op with
      | P => simp only [hc] at hh'; obtain ⟨v, hv⟩ := hh'; exact absurd (hv w trivial) (hne _ _)
      | R => simp only [hc] at hh'; obtain ⟨v, hv⟩ := hh'; exact absurd (hv w (Old.refl w)) (hne _ _)
      | A => simp only [hc] at hh'; obtain ⟨v, w1, hv, ho⟩ := hh'; exact absurd hv (hne _ _)
      | E => rfl
    generalize hr : (execOp a.eval oj).run P w = r at *
    cases r with
    | ok n w' =>
      cases n <;> simp only [Oper.upon] at h ⊢
      case value u => exact ⟨hSw _ _ rfl, keep a hy u, by rw [← Act.put_comm a v u h2]; exact h⟩
      case skip => exact ⟨hSw _ _ rfl, keep a hy _, by rw [← Act.put_comm a v undef h2]; exact h⟩
      case defer d =>
        refine ⟨hSw _ _ rfl, keep _ (keepD d) _, ?_⟩
        rw [← Act.put_comm _ v undef h2, ← Act.put_defers]
        exact h
      case enter f args =>
        refine Calls.mono h fun e w'' he => ?_
        cases e with
        | returned u => exact ⟨hSc _ _ _ rfl _, keep a hy u, by rw [← Act.put_comm a v u h2]; exact he⟩
        | panicked c => exact hQ (hE (by intro v w' e; cases e)) _ _ _ he
        | outgrown => exact he
      case row row args => exact Rows.mono h fun u w'' he => ⟨hSr _ _ _ rfl _, keep a hy u, by rw [← Act.put_comm a v u h2]; exact he⟩
    | halt x w' =>
      cases x <;> simp only [Oper.upon] at h ⊢
      case panic u => exact hQ (hE (by intro v w' e; cases e)) _ _ _ h
  · rename_i hw
    simp only [hw] at h
    exact ⟨hw0, keep a hy _, by rw [← Act.put_comm a v undef h2]; exact h⟩

/-- what an operation comes behind, one bit each: what it names, and what those come behind -/
def befs1 (m : Nat → Nat) : List Edge → Nat
  | [] => 0
  | e :: es => if Region.binds .any e then 2 ^ e.on ||| m e.on ||| befs1 m es else befs1 m es
def befs (ops : Array Oper) : Nat → List Nat
  | 0 => []
  | n + 1 => let b := befs ops n; b ++ [match ops[n]? with
    | some o => befs1 (fun i => b.getD i 0) o.after.toList
    | none => 0]
/-- does j come behind i? -/
def before (ms : List Nat) (j i : Nat) : Bool := (ms.getD j 0).testBit i

def Closed (ops : Array Oper) (listed : Array Bool) : Prop := ∀ k o, ops[k]? = some o → listed.getD k false = true → ∀ e ∈ o.after, Region.binds .any e = true → listed.getD e.on false = true

theorem befs_len (ops : Array Oper) : ∀ n, (befs ops n).length = n
  | 0 => rfl
  | n + 1 => by simp [befs, befs_len ops n]
theorem befs1_bit {m : Nat → Nat} {i : Nat} : ∀ (es : List Edge), (befs1 m es).testBit i = true → ∃ e ∈ es, Region.binds .any e = true ∧ (e.on = i ∨ (m e.on).testBit i = true)
  | [], h => by simp [befs1] at h
  | e :: es, h => by
    simp only [befs1] at h
    split at h
    · rename_i hb
      simp only [Nat.testBit_or, Bool.or_eq_true] at h
      rcases h with (h | h) | h
      · rw [Nat.testBit_two_pow] at h
        exact ⟨e, List.mem_cons_self, hb, Or.inl (by simpa using h)⟩
      · exact ⟨e, List.mem_cons_self, hb, Or.inr h⟩
      · obtain ⟨e', he, h'⟩ := befs1_bit es h; exact ⟨e', List.mem_cons_of_mem _ he, h'⟩
    · obtain ⟨e', he, h'⟩ := befs1_bit es h; exact ⟨e', List.mem_cons_of_mem _ he, h'⟩
theorem befs_bit (ops : Array Oper) : ∀ (n j i : Nat), before (befs ops n) j i = true → ∃ o, ops[j]? = some o ∧ ∃ e ∈ o.after, Region.binds .any e = true ∧ (e.on = i ∨ (e.on < j ∧ before (befs ops j) e.on i = true))
  | 0, j, i, h => by simp [before, befs] at h
  | n + 1, j, i, h => by
    unfold before befs at h
    dsimp only at h
    rw [List.getD_eq_getElem?_getD, List.getElem?_append] at h
    split at h
    · rename_i hl
      have : before (befs ops n) j i = true := by unfold before; rw [List.getD_eq_getElem?_getD]; exact h
      exact befs_bit ops n j i this
    · rename_i hl
      rw [befs_len] at h hl
      by_cases hj : j = n
      · subst hj
        cases ho : ops[j]? with
        | none => simp [ho] at h
        | some o =>
          simp [ho] at h
          obtain ⟨e, he, hb, h'⟩ := befs1_bit _ h
          refine ⟨o, rfl, e, by simpa using he, hb, h'.imp id fun h' => ?_⟩
          have hlt : e.on < j := by
            refine Nat.lt_of_not_le fun hle => ?_
            rw [List.getElem?_eq_none (by rw [befs_len]; exact hle)] at h'
            simp at h'
          exact ⟨hlt, by unfold before; rw [List.getD_eq_getElem?_getD]; exact h'⟩
      · have : j - n ≠ 0 := by omega
        cases hk : j - n with
        | zero => omega
        | succ m => simp [hk] at h

theorem before_listed {listed : Array Bool} (hc : Closed ops listed) (hsz : listed.size = ops.size) (i : Nat) : ∀ (n j : Nat) (o : Oper), ops[j]? = some o → (∀ e ∈ o.after, Region.binds .any e = true → listed.getD e.on false = true) → before (befs ops n) j i = true → listed.getD i false = true := by
  intro n j
  induction j using Nat.strongRecOn generalizing n with
  | _ j ih =>
    intro o ho hall h
    obtain ⟨o', ho', e, he, hb, h'⟩ := befs_bit ops n j i h
    rw [ho] at ho'; cases ho'
    have hl := hall e he hb
    rcases h' with rfl | ⟨hlt, hb2⟩
    · exact hl
    · cases hoe : ops[e.on]? with
      | none =>
        have : listed.size ≤ e.on := by rw [hsz]; simpa using Array.getElem?_eq_none_iff.1 hoe
        simp [Array.getD, Nat.not_lt.2 this] at hl
      | some oe => exact ih e.on hlt j oe hoe (fun e' he' hb' => hc e.on oe hoe hl e' he' hb') hb2

theorem closed_set {listed : Array Bool} {i : Nat} (hc : Closed ops listed) (hi : i ∈ Region.ready .any ops listed) : Closed ops (listed.setIfInBounds i true) := by
  obtain ⟨h0, oi, hoi, hall⟩ := mem_ready.1 hi
  intro k o hk hl e he hb
  by_cases hik : i = k
  · subst hik; rw [hoi] at hk; cases hk; exact getD_set_true (hall e he hb)
  · rw [getD_set_ne false hik] at hl; exact getD_set_true (hc k o hk hl e he hb)

/-- May i go first of all that are left? -/
def freeH (P : Program) (ops : Array Oper) (ms : List Nat) (listed : Array Bool) (i : Nat) : Bool :=
  match ops[i]? with
  | none => false
  | some oi => (match cls P oi.op with | .P => true | .R => true | _ => false) && (List.range ops.size).all fun j => j == i || listed.getD j true || before ms j i || match ops[j]? with
      | some oj => oi.apart ops oj && swaps P oi.op oj.op
      | none => true

theorem anyH_first {S : World → Prop} {i : Nat} {oi : Oper} {v : Value} (hi : ops[i]? = some oi) (hsel : ∀ (j : Nat) (o : Oper) cs b, ops[j]? = some o → o.op ≠ .select cs b)
    (hQ : ∀ (j : Nat) oj, ops[j]? = some oj → cls P oj.op = .E → ∀ c a w, Q (.panic c) (a.put oi.dst v) w → Q (.panic c) a w) (hcl : ∀ w w', S w → Old w w' → S w') (hS : (∀ w, S w) ∨ ∀ (j : Nat) (oj : Oper), ops[j]? = some oj → swaps P oi.op oj.op = true → cls P oj.op ≠ .E)
    (hhit : ∀ a w, S w → YieldsIn P ops S oi v a → Region.wanted oi (yielded ops a.tmps) = true → Hit P oi a w) :
    ∀ (fuel : Nat) (listed : Array Bool) (a : Act) (w : World), S w → Closed ops listed → listed.size = ops.size →
      (∀ j oj, ops[j]? = some oj → j ≠ i → listed.getD j true = false → before (befs ops ops.size) j i = false → oi.apart ops oj = true ∧ swaps P oi.op oj.op = true) →
      i ∈ Region.ready .any ops listed → YieldsIn P ops S oi v a →
      wpAnyH P ops Q fuel (listed.setIfInBounds i true) (a.put oi.dst v) w → wpAnyH P ops Q (fuel + 1) listed a w := by
  have self : ∀ (K : Act → World → Prop) a w, S w → YieldsIn P ops S oi v a → K (a.put oi.dst v) w → wpOpH P ops Q i K a w := by
    intro K a w hw hy hK
    unfold wpOpH
    simp only [hi]
    split
    · rename_i hwant
      refine ⟨hhit a w hw hy hwant, ?_⟩
      rcases hy with ⟨_, hv⟩ | ⟨hn, _⟩
      · simp only [Oper.wp, hv w hw, Oper.upon]; exact hK
      · rw [hn] at hwant; cases hwant
    · rename_i hwant
      rcases hy with ⟨hv, _⟩ | ⟨_, rfl⟩
      · exact absurd hv hwant
      · exact hK
  intro fuel
  induction fuel with
  | zero =>
    intro listed a w hw _ _ _ hr hy H
    refine ⟨fun h => (by rw [h] at hr; cases hr), fun j hj => ?_⟩
    by_cases hji : j = i
    · subst hji; exact self _ a w hw hy H
    · have := ready_mono hj hji
      rw [H.1] at this
      cases this
  | succ fuel ih =>
    intro listed a w hw hc hsz hfree hr hy H
    refine ⟨fun h => (by rw [h] at hr; cases hr), fun j hj => ?_⟩
    by_cases hji : j = i
    · subst hji; exact self _ a w hw hy H
    · have h1 := H.2 j (ready_mono hj hji)
      obtain ⟨hjun, oj, hoj, hall⟩ := mem_ready.1 hj
      have hnb : before (befs ops ops.size) j i = false := by
        cases hb : before (befs ops ops.size) j i with
        | false => rfl
        | true =>
          have h1 := before_listed hc hsz i _ j oj hoj hall hb
          have h0 := (mem_ready.1 hr).1
          have hlt : i < listed.size := by rw [hsz]; exact (Array.getElem?_eq_some_iff.1 hi).1
          simp [hlt] at h0 h1; rw [h0] at h1; cases h1
      obtain ⟨hap, hsw⟩ := hfree j oj hoj hji hjun hnb
      have hS' : (∀ w, S w) ∨ (cls P oj.op ≠ .E ∧ ∀ w w', S w → Old w w' → S w') := hS.imp id fun h => ⟨h j oj hoj hsw, hcl⟩
      have h2 := wpOpH_put hoj hap (fun cs b => hsel i oi cs b hi) (fun cs b => hsel j oj cs b hoj) hS' (hQ j oj hoj) hw hy h1
      refine wpOpH_mono (fun a' w' h3 => ih (listed.setIfInBounds j true) a' w' h3.1 (closed_set hc hj) (by simpa using hsz) ?_ (ready_mono hr (Ne.symm hji)) h3.2.1 ?_) h2
      · intro k ok hk hki hun hno
        refine hfree k ok hk hki ?_ hno
        by_cases hjk : j = k
        · subst hjk; exact hjun
        · rw [getD_set_ne true hjk] at hun; exact hun
      · rw [Array.setIfInBounds_comm _ _ hji]
        exact h3.2.2

/-- Orders that stand for all, as a tree. -/
inductive CT where
  | leaf | nil
  | one (i : Nat) (t : CT)
  | alt (s t : CT)
  deriving Inhabited

def wpCT (P : Program) (ops : Array Oper) (Q : Exit → Act → World → Prop) : CT → Act → World → Prop
  | .leaf, a, w => Q .normal a w
  | .nil, _, _ => True
  | .one i t, a, w => wpOpH P ops Q i (wpCT P ops Q t) a w
  | .alt s t, a, w => wpCT P ops Q s a w ∧ wpCT P ops Q t a w

def altOf (f : Nat → Option CT) : List Nat → Option CT
  | [] => some .nil
  | i :: is => match f i, altOf f is with
    | some s, some t => some (.alt (.one i s) t)
    | _, _ => none

/-- A few orders that stand for all. -/
def canonF (P : Program) (ops : Array Oper) (ms : List Nat) : Nat → Array Bool → Option CT
  | 0, listed => if Region.ready .any ops listed = [] then some .leaf else none
  | f + 1, listed => match Region.ready .any ops listed with
    | [] => some .leaf
    | r :: rs => match (r :: rs).find? (freeH P ops ms listed) with
      | some i => match canonF P ops ms f (listed.setIfInBounds i true) with
        | some t => some (.one i t)
        | none => none
      | none => altOf (fun i => canonF P ops ms f (listed.setIfInBounds i true)) (r :: rs)

theorem altOf_wp {f : Nat → Option CT} {a : Act} {w : World} : ∀ (is : List Nat) (t : CT), altOf f is = some t → wpCT P ops Q t a w → ∀ i ∈ is, ∃ s, f i = some s ∧ wpOpH P ops Q i (wpCT P ops Q s) a w
  | [], _, _, _, i, hi => by cases hi
  | j :: is, t, h, H, i, hi => by
    simp only [altOf] at h
    cases hj : f j with
    | none => simp [hj] at h
    | some s =>
      cases hr : altOf f is with
      | none => simp [hj, hr] at h
      | some t' =>
        simp [hj, hr] at h; subst h
        rcases List.mem_cons.1 hi with rfl | hi
        · exact ⟨s, hj, H.1⟩
        · exact altOf_wp is t' hr H.2 i hi

theorem canonF_sound (hsel : ∀ (j : Nat) (o : Oper) cs b, ops[j]? = some o → o.op ≠ .select cs b) (hQ : (∃ (j : Nat) (oj : Oper), ops[j]? = some oj ∧ cls P oj.op = .E) → ∀ (i : Nat) oi, ops[i]? = some oi → ∀ c (a : Act) v w, Q (.panic c) (a.put oi.dst v) w → Q (.panic c) a w) :
    ∀ (f : Nat) (listed : Array Bool) (t : CT) (a : Act) (w : World), canonF P ops (befs ops ops.size) f listed = some t → Closed ops listed → listed.size = ops.size → wpCT P ops Q t a w → wpAnyH P ops Q f listed a w
  | 0, listed, t, a, w, h, _, _, H => by
    simp only [canonF] at h
    split at h <;> simp at h
    rename_i hr; subst h
    exact ⟨hr, H⟩
  | f + 1, listed, t, a, w, h, hc, hsz, H => by
    simp only [canonF] at h
    split at h
    · rename_i hr; simp at h; subst h
      exact ⟨fun _ => H, by rw [hr]; simp⟩
    · rename_i r rs hrs
      split at h
      · rename_i i hi
        have hmem : i ∈ Region.ready .any ops listed := by rw [hrs]; exact List.mem_of_find?_eq_some hi
        have hfree := List.find?_some hi
        cases hcan : canonF P ops (befs ops ops.size) f (listed.setIfInBounds i true) with
        | none => simp [hcan] at h
        | some l =>
          simp [hcan] at h; subst h
          obtain ⟨h0, oi, hoi, hall⟩ := mem_ready.1 hmem
          simp only [freeH, hoi, Bool.and_eq_true, List.all_eq_true, List.mem_range] at hfree
          obtain ⟨hcls, hfree⟩ := hfree
          have hf : ∀ (j : Nat) (oj : Oper), ops[j]? = some oj → j ≠ i → listed.getD j true = false → before (befs ops ops.size) j i = false → oi.apart ops oj = true ∧ swaps P oi.op oj.op = true := by
            intro j oj hj hne hun hno
            have h1 := hfree j (Array.getElem?_eq_some_iff.1 hj).1
            simp only [hj, Bool.or_eq_true, beq_iff_eq, hne, false_or, hun, hno, Bool.false_eq_true, Bool.and_eq_true] at h1
            exact h1
          have h1 : wpOpH P ops Q i (wpCT P ops Q l) a w := H
          unfold wpOpH at h1
          simp only [hoi] at h1
          have key : ∀ (S : World → Prop) (v : Value), S w → (∀ w w', S w → Old w w' → S w') → ((∀ w, S w) ∨ ∀ (j : Nat) (oj : Oper), ops[j]? = some oj → swaps P oi.op oj.op = true → cls P oj.op ≠ .E) →
              (∀ a w, S w → YieldsIn P ops S oi v a → Region.wanted oi (yielded ops a.tmps) = true → Hit P oi a w) → YieldsIn P ops S oi v a → wpAnyH P ops Q (f + 1) listed a w := by
            intro S v hw hcl hS hhit hy
            refine anyH_first hoi hsel (fun j oj hj he c a w => hQ ⟨j, oj, hj, he⟩ i oi hoi c a _ w) hcl hS hhit f listed a w hw hc hsz hf hmem hy ?_
            refine canonF_sound hsel hQ f _ l _ w hcan (closed_set hc hmem) (by simpa using hsz) ?_
            rcases hy with ⟨hwant, hv⟩ | ⟨hwant, rfl⟩
            · simp only [hwant, if_true, Oper.wp, hv w hw, Oper.upon] at h1; exact h1.2
            · simp only [hwant] at h1; exact h1
          by_cases hwant : Region.wanted oi (yielded ops a.tmps) = true
          · simp only [hwant, if_true] at h1
            have hh := h1.1
            unfold Hit at hh
            cases hcl : cls P oi.op with
            | P =>
              simp only [hcl] at hh
              obtain ⟨v, hv⟩ := hh
              refine key (fun _ => True) v trivial (fun _ _ _ _ => trivial) (Or.inl fun _ => trivial) ?_ (Or.inl ⟨hwant, fun u _ => hv u trivial⟩)
              intro a' w' _ hy hw'
              unfold Hit; simp only [hcl]
              rcases hy with ⟨_, hv'⟩ | ⟨hn, _⟩
              · exact ⟨v, fun u _ => hv' u trivial⟩
              · rw [hn] at hw'; cases hw'
            | R =>
              simp only [hcl] at hh
              obtain ⟨v, hv⟩ := hh
              refine key (Old w) v (Old.refl w) (fun _ _ h k => h.trans k) (Or.inr ?_) ?_ (Or.inl ⟨hwant, fun u hu => hv u hu⟩)
              · intro j oj _ hsw he
                simp [swaps, hcl, he] at hsw
              · intro a' w' hw1 hy hw'
                unfold Hit; simp only [hcl]
                rcases hy with ⟨_, hv'⟩ | ⟨hn, _⟩
                · exact ⟨v, fun u hu => hv' u (hw1.trans hu)⟩
                · rw [hn] at hw'; cases hw'
            | A => simp [hcl] at hcls
            | E => simp [hcl] at hcls
          · have hwf : Region.wanted oi (yielded ops a.tmps) = false := by simpa using hwant
            cases hcl : cls P oi.op with
            | P =>
              refine key (fun _ => True) undef trivial (fun _ _ _ _ => trivial) (Or.inl fun _ => trivial) ?_ (Or.inr ⟨hwf, rfl⟩)
              intro a' w' _ hy hw'
              unfold Hit; simp only [hcl]
              rcases hy with ⟨_, hv'⟩ | ⟨hn, _⟩
              · exact ⟨undef, fun u _ => hv' u trivial⟩
              · rw [hn] at hw'; cases hw'
            | R =>
              refine key (Old w) undef (Old.refl w) (fun _ _ h k => h.trans k) (Or.inr ?_) ?_ (Or.inr ⟨hwf, rfl⟩)
              · intro j oj _ hsw he
                simp [swaps, hcl, he] at hsw
              · intro a' w' hw1 hy hw'
                unfold Hit; simp only [hcl]
                rcases hy with ⟨_, hv'⟩ | ⟨hn, _⟩
                · exact ⟨undef, fun u hu => hv' u (hw1.trans hu)⟩
                · rw [hn] at hw'; cases hw'
            | A => simp [hcl] at hcls
            | E => simp [hcl] at hcls
      · refine ⟨fun h0 => (by rw [hrs] at h0; cases h0), fun i hi => ?_⟩
        rw [hrs] at hi
        obtain ⟨l, e, hl⟩ := altOf_wp _ _ h H i hi
        exact wpOpH_mono (fun a' w' hall => canonF_sound hsel hQ f _ l a' w' e (closed_set hc (by rw [hrs]; exact hi)) (by simpa using hsz) hall) hl
end
end Go.AM
