/-
  Code stripped to what a walk looks at; walking it. No condition beyond what each theorem states.
-/
import Derived.Test.YtbbhjklcjlnacaaGreatAm11
/-! Code stripped to what a walk looks at; walking it. -/
namespace Go.AM

/-- An operation: where its value goes, what it is, and of which slot's Boolean it hangs. -/
structure SOp where
  dst : Option Nat
  op : Op
  gd : Option (Nat × Bool)
  deriving Inhabited
inductive ST where
  | leaf | nil
  | one (o : SOp) (t : ST)
  | alt (s t : ST)
  deriving Inhabited
inductive SC where
  | skip | ret
  | region (ds : List Nat) (t : ST)
  | seq (a b : SC)
  | cond (c : Operand) (a b : SC)
  | block (id : Nat) (a : SC)
  | loop (a : SC)
  | exit (id : Nat)
  deriving Inhabited
inductive SI where
  | code (c : SC)
  | inBlock (id : Nat)
  | inLoop (c : SC)

def stripO (ops : Array Oper) (n : Nat) (o : Oper) : Option SOp :=
  match (match o.dst with | some d => decide (d < n) | none => true), o.guard with
  | true, none => some ⟨o.dst, o.op, none⟩
  | true, some (j, b) => match (ops[j]?).bind (·.dst) with
    | some d => some ⟨o.dst, o.op, some (d, b)⟩
    | none => none
  | false, _ => none
def strip (ops : Array Oper) (n : Nat) : CT → Option ST
  | .leaf => some .leaf
  | .nil => some .nil
  | .one i t => match (ops[i]?).bind (stripO ops n), strip ops n t with
    | some o, some t => some (.one o t)
    | _, _ => none
  | .alt s t => match strip ops n s, strip ops n t with
    | some s, some t => some (.alt s t)
    | _, _ => none
def lineT : Nat → Nat → CT
  | _, 0 => .leaf
  | i, m + 1 => .one i (lineT (i + 1) m)
def treeOf (P : Program) (ops : Array Oper) (draw : Bool) : Option CT :=
  if draw = true then (if Region.noSelect ops = true then canonF P ops (befs ops ops.size) ops.size (Array.replicate ops.size false) else none) else some (lineT 0 ops.size)
/-- Where values go in a region of many orders in which something may panic. -/
def dsts (P : Program) (ops : Array Oper) (draw : Bool) : List Nat := if draw = true then (if ops.toList.all (fun o => decide (cls P o.op ≠ .E)) = true then [] else ops.toList.filterMap (·.dst)) else []
def comp (P : Program) (n : Nat) : Code → Option SC
  | .skip => some .skip
  | .label _ => some .skip
  | .ret => some .ret
  | .region _ ops draw => match treeOf P ops draw with
    | some t => match strip ops n t with
      | some t => some (.region (dsts P ops draw) t)
      | none => none
    | none => none
  | .seq a b => match comp P n a, comp P n b with
    | some a, some b => some (.seq a b)
    | _, _ => none
  | .cond c a b => match comp P n a, comp P n b with
    | some a, some b => some (.cond c a b)
    | _, _ => none
  | .block id a => match comp P n a with
    | some a => some (.block id a)
    | none => none
  | .loop a => match comp P n a with
    | some a => some (.loop a)
    | none => none
  | .exit id => some (.exit id)
  | _ => none

def CompI (P : Program) (n : Nat) : Item → SI → Prop
  | .code c, .code s => comp P n c = some s
  | .inBlock i, .inBlock j => i = j
  | .inLoop c, .inLoop s => comp P n c = some s
  | _, _ => False
def CompK (P : Program) (n : Nat) : List Item → List SI → Prop
  | [], [] => True
  | i :: k, s :: ks => CompI P n i s ∧ CompK P n k ks
  | _, _ => False

/-- Where a run stands: ahead of code, or amid a region's operations. -/
inductive Cfg where
  | code (ks : List SI) (S : St)
  | ops (t : ST) (ks : List SI) (S : St)
def Cfg.St : Cfg → AM.St
  | .code _ S => S
  | .ops _ _ S => S

/-- The tree is the operations' from here on; of the first one the guard may have been asked. -/
def Mt (ops : Array Oper) (n : Nat) (a : Act) (ti : CT) : ST → Prop
  | .one ⟨dst, op, none⟩ t0 => ∃ i ti' oo, ti = .one i ti' ∧ ops[i]? = some oo ∧ oo.dst = dst ∧ oo.op = op ∧ (∀ d, dst = some d → d < n) ∧ Region.wanted oo (yielded ops a.tmps) = true ∧ strip ops n ti' = some t0
  | t => strip ops n ti = some t

/-- From a state of this kind on, all goes well to the function's end. -/
def ARun (G : Go) (c : Cfg) : Prop :=
  G.P.follows .mixedOrders = true → G.k ≤ c.St.nx → ∀ X hf a w, Sat G.n G.fn.D c.St X hf a w →
    match c with
    | .code ks _ => ∀ k, CompK G.P G.n k ks → RunQ G.P k a w (finQ G.P G.fn G.k G.K X hf w)
    | .ops t ks _ => ∀ ops ti k, Mt ops G.n a ti t → CompK G.P G.n k ks →
        wpCT G.P ops (Exit.then (fun a' w' => RunQ G.P k a' w' (finQ G.P G.fn G.k G.K X hf w)) (finQ G.P G.fn G.k G.K X hf w)) ti a w

/-- The end of a function. -/
def AFin (G : Go) (S : St) : Prop :=
  G.P.follows .mixedOrders = true → G.k ≤ S.nx → ∀ X hf a w, Sat G.n G.fn.D S X hf a w → finQ G.P G.fn G.k G.K X hf w .ret a w
/-- .. by a panic. -/
def APan (G : Go) (v : AV) (S : St) : Prop :=
  G.P.follows .mixedOrders = true → G.k ≤ S.nx → ∀ X hf a w, Sat G.n G.fn.D S X hf a w → ∀ x, pureR X v x → finQ G.P G.fn G.k G.K X hf w (.panic [{ v := x, recovered := false }]) a w
/-- In a function that defers a region's values go nowhere where results are looked for. -/
def okR (fn : Func) (ds : List Nat) : Bool := fn.results.toList.all fun r => match r with
  | .tmp t => !ds.contains t
  | .cell t _ => !ds.contains t
def okD (F : Fd) (ds : List Nat) : Prop := F.dm = true → okR F.fn ds = true
def exR (F : Fd) (ds : List Nat) (p : Prop) : Prop := match F.dm, ds with
  | false, _ => p
  | _, [] => p
  | _, _ => okR F.fn ds = true ∧ p
def exPan (G : Go) (v : AV) (env : List (Nat × AV)) (H : Hp) (n : Nat) : Prop := match G.fn.dm, G.fn.D with
  | false, none => G.K (.pan v) H n
  | _, _ => APan G v ⟨env, H, n⟩

/-- a Boolean that is known, or a parting of ways -/
def pick2 (b : Bool) (x y : Prop) : Prop := match b with
  | true => x
  | false => y
theorem pick2_true (x y : Prop) : pick2 true x y = x := rfl
theorem pick2_false (x y : Prop) : pick2 false x y = y := rfl
theorem pick2_congr {b b' : Bool} {x y : Prop} (h : b = b') : pick2 b x y = pick2 b' x y := by rw [h]
theorem pick2_intro {b : Bool} {x y : Prop} (h : b = true → x) (h' : b = false → y) : pick2 b x y := by
  cases b
  · exact h' rfl
  · exact h rfl

def exAR (r : AR) (K : AV → Hp → Nat → Prop) : Prop := match r with
  | .ok v H n => K v H n
  | .anyb H n => ∀ b, K (.bool b) H n
  | .fail => False
theorem exAR_congr {r r' : AR} {K : AV → Hp → Nat → Prop} (h : r = r') : exAR r K = exAR r' K := by rw [h]
theorem exAR_ok (v : AV) (H : Hp) (n : Nat) (K : AV → Hp → Nat → Prop) : exAR (.ok v H n) K = K v H n := rfl
theorem exAR_anyb (H : Hp) (n : Nat) (K : AV → Hp → Nat → Prop) : exAR (.anyb H n) K = ∀ b, K (.bool b) H n := rfl
theorem exAR_ite (c : Prop) [Decidable c] (r : AR) (K : AV → Hp → Nat → Prop) : exAR (if c then r else .fail) K = (c ∧ exAR r K) := by
  by_cases h : c <;> simp [h, exAR]

/-- a slot that a guard asks -/
def exG (v : Option AV) (want : Bool) (run skip : Prop) : Prop := match v with
  | some (.bool b) => if want = true then pick2 b run skip else pick2 b skip run
  | some (.tup []) => skip
  | _ => False
theorem exG_congr {v v' : Option AV} {want : Bool} {x y : Prop} (h : v = v') : exG v want x y = exG v' want x y := by rw [h]
theorem exG_t (b : Bool) (x y : Prop) : exG (some (.bool b)) true x y = pick2 b x y := rfl
theorem exG_f (b : Bool) (x y : Prop) : exG (some (.bool b)) false x y = pick2 b y x := rfl
theorem exG_u (w : Bool) (x y : Prop) : exG (some (.tup [])) w x y = y := rfl
def exC (v : AV) (x y : Prop) : Prop := match v with
  | .bool b => pick2 b x y
  | _ => False
theorem exC_congr {v v' : AV} {x y : Prop} (h : v = v') : exC v x y = exC v' x y := by rw [h]
theorem exC_b (b : Bool) (x y : Prop) : exC (.bool b) x y = pick2 b x y := rfl

def isCall : Op → Bool
  | .call { callee := .value _, .. } => true
  | .call { callee := .invoke .., .. } => true
  | .panic _ | .range .. | .next .. | .entry _ | .mapEntry .. | .entryStore .. | .typeAssert .. | .defer _ => true
  | .call { callee := .builtin .append, .. } | .call { callee := .builtin .len, .. } | .call { callee := .builtin .min, .. } | .call { callee := .builtin .max, .. } => false
  | .call _ => true
  | _ => false

section
variable (P : Program)
def evp (env : List (Nat × AV)) : Option Operand → Option AV
  | none => none
  | some x => some (aeval env x)
/-- is it the literal nil? -/
def litNil : Operand → Bool
  | .const _ => true
  | _ => false
def aEq (op : BinOp) (x y : Operand) (a b : AV) (r : AR) : AR := match op, a, b with
  | .eql, .nilif, .nilif => if litNil x = true ∨ litNil y = true then r else .fail
  | .neq, .nilif, .nilif => if litNil x = true ∨ litNil y = true then r else .fail
  | _, _, _ => r
/-- the lesser of two, the greater of two -/
def aMM (mn : Bool) (H : Hp) (n : Nat) (x y : AV) : AR := match x, y, mn with
  | .int k a, .int _ b, true => .ok (.int k (if b < a then b else a)) H n
  | .int k a, .int _ b, false => .ok (.int k (if a < b then b else a)) H n
  | _, _, _ => .fail
/-- What an operation does that calls nobody. -/
def aop (op : Op) (env : List (Nat × AV)) (H : Hp) (n : Nat) : AR := match op with
  | .move x => .ok (aeval env x) H n
  | .assign x => .ok (aeval env x) H n
  | .pick c a b => match aeval env c with
    | .bool true => .ok (aeval env a) H n
    | .bool false => .ok (aeval env b) H n
    | _ => .fail
  | .alloc t => aAlloc P t H n
  | .box t x => aBox P t H n (aeval env x)
  | .build t ps => aBuild P t H n (ps.toList.map fun p => (p.1, aeval env p.2))
  | .buildSlice t len ps => aBuildSl P t len H n (ps.toList.map fun p => (p.1, aeval env p.2))
  | .load t a => aLoad P t H n (aeval env a)
  | .store t a x => aStore P t H n (aeval env a) (aeval env x)
  | .nilCheck x => match aeval env x with
    | .ptr id i off => .ok (.ptr id i off) H n
    | .rop cs off => .ok (.rop cs off) H n
    | .iface t v => .ok (.iface t v) H n
    | .fn (.func f) first caps => .ok (.fn (.func f) first caps) H n
    | _ => .fail
  | .binOp op t x y _ => aEq op x y (aeval env x) (aeval env y) (aBin P op t H n (aeval env x) (aeval env y))
  | .unOp op _ x => aUn op H n (aeval env x)
  | .convert s t x => match tsh P s, tsh P t with
    | .sl _, .str => aB2S P s t H n (aeval env x)
    | .sl _, _ => aFreeze P s t H n (aeval env x)
    | _, _ => aConv P s t H n (aeval env x)
  | .makeInterface t x => aIface P t H n (aeval env x)
  | .makeFunc f first caps => .ok (.fn f (first.toList.map (aeval env)) (caps.toList.map (aeval env))) H n
  | .makeMap t none => aMkMap P t H n
  | .makeMap t (some x) => match aeval env x with
    | .int _ _ => aMkMap P t H n
    | _ => .fail
  | .makeSlice t l c => aMkSl P t H n (aeval env l) (aeval env c)
  | .slice t x lo hi none => aSlice P t H n (aeval env x) (evp env lo) (evp env hi)
  | .fieldAddr t x f => aFld P t f H n (aeval env x)
  | .field t x f => aField P t f H n (aeval env x)
  | .indexAddr t x i => aIdx P t H n (aeval env x) (aeval env i)
  | .index t x i => aIndex P t H n (aeval env x) (aeval env i)
  | .extract x i => aExtract i H n (aeval env x)
  | .mapUpdate t m k v => aInsert P t H n (aeval env m) (aeval env k) (aeval env v)
  | .insert t m k v => aInsert P t H n (aeval env m) (aeval env k) (aeval env v)
  | .lookup t x i ok => aLookup P t ok H n (aeval env x) (aeval env i)
  | .call { callee := .builtin .len, args, argTypes } => match args.toList, argTypes.toList with
    | [x], [t] => aLen P t H n (aeval env x)
    | _, _ => .fail
  | .call { callee := .builtin .min, args, .. } => match args.toList with
    | [x, y] => aMM true H n (aeval env x) (aeval env y)
    | _ => .fail
  | .call { callee := .builtin .max, args, .. } => match args.toList with
    | [x, y] => aMM false H n (aeval env x) (aeval env y)
    | _ => .fail
  | .call { callee := .builtin .append, args, argTypes } => match args.toList, argTypes.toList with
    | [x, y], [t, t'] => aApp P t t' H n (aeval env x) (aeval env y)
    | _, _ => .fail
  | _ => .fail
end

def exitSI (id : Nat) : List SI → Option (List SI)
  | [] => none
  | .inBlock i :: ks => if i = id then some ks else exitSI id ks
  | _ :: ks => exitSI id ks

/-- A walk, so many steps. -/
def ex (G : Go) : Nat → Cfg → Prop
  | 0, c => ARun G c
  | m + 1, .ops .leaf ks S => ex G m (.code ks S)
  | _ + 1, .ops .nil _ _ => True
  | m + 1, .ops (.alt s t) ks S => ex G m (.ops s ks S) ∧ ex G m (.ops t ks S)
  | m + 1, .ops (.one ⟨dst, op, gd⟩ t) ks ⟨env, H, n⟩ => match gd with
    | some (d, want) => exG (alook env d) want (ex G m (.ops (.one ⟨dst, op, none⟩ t) ks ⟨env, H, n⟩)) (ex G m (.ops t ks ⟨eput env dst (.tup []), H, n⟩))
    | none => match isCall op with
      | true => ARun G (.ops (.one ⟨dst, op, none⟩ t) ks ⟨env, H, n⟩)
      | false => exAR (aop G.P op env H n) fun v H' n' => ex G m (.ops t ks ⟨eput env dst v, H', n'⟩)
  | _ + 1, .code [] S => AFin G S
  | m + 1, .code (.inBlock _ :: ks) S => ex G m (.code ks S)
  | _ + 1, .code (.inLoop c :: ks) S => ARun G (.code (.code c :: .inLoop c :: ks) S)
  | m + 1, .code (.code c :: ks) ⟨env, H, n⟩ => match c with
    | .skip => ex G m (.code ks ⟨env, H, n⟩)
    | .ret => AFin G ⟨env, H, n⟩
    | .region ds t => exR G.fn ds (ex G m (.ops t ks ⟨env, H, n⟩))
    | .seq a b => ex G m (.code (.code a :: .code b :: ks) ⟨env, H, n⟩)
    | .cond c a b => exC (aeval env c) (ex G m (.code (.code a :: ks) ⟨env, H, n⟩)) (ex G m (.code (.code b :: ks) ⟨env, H, n⟩))
    | .block id a => ex G m (.code (.code a :: .inBlock id :: ks) ⟨env, H, n⟩)
    | .loop a => ARun G (.code (.code a :: .inLoop a :: ks) ⟨env, H, n⟩)
    | .exit id => match exitSI id ks with
      | some ks' => ex G m (.code ks' ⟨env, H, n⟩)
      | none => False
end Go.AM
