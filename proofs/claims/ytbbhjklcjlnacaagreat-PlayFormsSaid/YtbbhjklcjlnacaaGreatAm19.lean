/-
  Running code outright, where all is known. No condition beyond what each theorem states.
-/
import Derived.Test.YtbbhjklcjlnacaaGreatAm20d
/-! Running code outright, where all is known. -/
namespace Go.AM

/-- a function, as a run needs it -/
structure Fi where
  sc : SC
  nt : Nat
  rs : List (Nat × Option TypeId)
  dm : Bool
  cl : Option (Nat × Nat × SC)
  lf : Bool

inductive RV (α : Type) where
  | ok (a : α)
  | pan (v : AV) (S : St) (D : Option AV)
  | bad (why : Nat) (at_ : Nat)
  deriving Inhabited

def aput (env : List (Nat × AV)) (d : Option Nat) (v : AV) : List (Nat × AV) := match d with
  | none => env
  | some d => match alook env d with
    | some _ => aset env d v
    | none => (d, v) :: env

mutual
def idsV : AV → List Nat → List Nat
  | .ptr id _ _, acc => id :: acc
  | .sl id _ _, acc => id :: acc
  | .mp id, acc => id :: acc
  | .rop cs _, acc => idsL cs acc
  | .imm es, acc => idsL es acc
  | .fn _ a b, acc => idsL a (idsL b acc)
  | .iface _ v, acc => idsV v acc
  | .agg cs, acc => idsL cs acc
  | .tup vs, acc => idsL vs acc
  | .ownp o, acc => idsO o acc
  | .ownsl o, acc => idsO o acc
  | .ownm o, acc => idsO o acc
  | _, acc => acc
def idsO : AO → List Nat → List Nat
  | .row _ es, acc => idsL es acc
  | .map _ vs, acc => idsL vs acc
  | .mapx _ _ _ vs, acc => idsL vs acc
  | .iter m _ _ _, acc => m :: acc
def idsL : List AV → List Nat → List Nat
  | [], acc => acc
  | v :: vs, acc => idsV v (idsL vs acc)
end
def eqK : Value → Value → Bool
  | .int j a, .int k b => j == k && a == b
  | .bool a, .bool b => a == b
  | .string a, .string b => decide (a = b)
  | _, _ => false
def eqKs : List Value → List Value → Bool
  | [], [] => true
  | a :: as, b :: bs => eqK a b && eqKs as bs
  | _, _ => false
def eqF : Fn → Fn → Bool
  | .func a, .func b => a == b
  | _, _ => false
mutual
def eqV : AV → AV → Bool
  | .bool a, .bool b => a == b
  | .int j a, .int k b => j == k && a == b
  | .str a, .str b => decide (a = b)
  | .nilp, .nilp => true
  | .nilsl, .nilsl => true
  | .nilm, .nilm => true
  | .nilfn, .nilfn => true
  | .nilif, .nilif => true
  | .ptr a b c, .ptr a' b' c' => a == a' && b == b' && c == c'
  | .sl a b c, .sl a' b' c' => a == a' && b == b' && c == c'
  | .mp a, .mp b => a == b
  | .rop a b, .rop a' b' => b == b' && eqL a a'
  | .imm a, .imm b => eqL a b
  | .fn f a b, .fn f' a' b' => eqF f f' && eqL a a' && eqL b b'
  | .iface t v, .iface t' v' => t == t' && eqV v v'
  | .agg a, .agg b => eqL a b
  | .tup a, .tup b => eqL a b
  | .ownp a, .ownp b => eqO a b
  | .ownsl a, .ownsl b => eqO a b
  | .ownm a, .ownm b => eqO a b
  | .top, .top => true
  | _, _ => false
def eqO : AO → AO → Bool
  | .row a b, .row a' b' => a == a' && eqL b b'
  | .map a b, .map a' b' => eqKs a a' && eqL b b'
  | .mapx a b c d, .mapx a' b' c' d' => a == a' && b == b' && eqKs c c' && eqL d d'
  | .iter a b c d, .iter a' b' c' d' => a == a' && b == b' && c == c' && d == d'
  | _, _ => false
def eqL : List AV → List AV → Bool
  | [], [] => true
  | a :: as, b :: bs => eqV a b && eqL as bs
  | _, _ => false
end
def eqE : List (Nat × AV) → List (Nat × AV) → Bool
  | [], [] => true
  | (i, a) :: as, (j, b) :: bs => i == j && eqV a b && eqE as bs
  | _, _ => false
def eqH : Hp → Hp → Bool
  | [], [] => true
  | (i, a) :: as, (j, b) :: bs => i == j && eqO a b && eqH as bs
  | _, _ => false
def eqS (S T : St) : Bool := eqE S.env T.env && eqH S.H T.H && S.nx == T.nx

theorem eqK_eq : ∀ a b, eqK a b = true → a = b := by
  intro a b h; cases a <;> cases b <;> simp_all [eqK]
theorem eqKs_eq : ∀ a b, eqKs a b = true → a = b
  | [], [], _ => rfl
  | a :: as, b :: bs, h => by simp only [eqKs, Bool.and_eq_true] at h; rw [eqK_eq a b h.1, eqKs_eq as bs h.2]
  | [], _ :: _, h => by cases h
  | _ :: _, [], h => by cases h
theorem eqF_eq : ∀ a b, eqF a b = true → a = b := by
  intro a b h; cases a <;> cases b <;> simp_all [eqF]
mutual
theorem eqV_eq : ∀ a b, eqV a b = true → a = b
  | .rop a b, v, h => by
    cases v <;> simp only [eqV, Bool.false_eq_true, Bool.and_eq_true, beq_iff_eq] at h
    rw [h.1, eqL_eq a _ h.2]
  | .imm a, v, h => by
    cases v <;> simp only [eqV, Bool.false_eq_true] at h
    rw [eqL_eq a _ h]
  | .fn f a b, v, h => by
    cases v <;> simp only [eqV, Bool.false_eq_true, Bool.and_eq_true] at h
    rw [eqF_eq f _ h.1.1, eqL_eq a _ h.1.2, eqL_eq b _ h.2]
  | .iface t w, v, h => by
    cases v <;> simp only [eqV, Bool.false_eq_true, Bool.and_eq_true, beq_iff_eq] at h
    rw [h.1, eqV_eq w _ h.2]
  | .agg a, v, h => by
    cases v <;> simp only [eqV, Bool.false_eq_true] at h
    rw [eqL_eq a _ h]
  | .tup a, v, h => by
    cases v <;> simp only [eqV, Bool.false_eq_true] at h
    rw [eqL_eq a _ h]
  | .ownp a, v, h => by
    cases v <;> simp only [eqV, Bool.false_eq_true] at h
    rw [eqO_eq a _ h]
  | .ownsl a, v, h => by
    cases v <;> simp only [eqV, Bool.false_eq_true] at h
    rw [eqO_eq a _ h]
  | .ownm a, v, h => by
    cases v <;> simp only [eqV, Bool.false_eq_true] at h
    rw [eqO_eq a _ h]
  | .bool a, v, h => by cases v <;> simp_all [eqV]
  | .int a b, v, h => by cases v <;> simp_all [eqV]
  | .str a, v, h => by cases v <;> simp_all [eqV]
  | .nilp, v, h => by cases v <;> simp_all [eqV]
  | .nilsl, v, h => by cases v <;> simp_all [eqV]
  | .nilm, v, h => by cases v <;> simp_all [eqV]
  | .nilfn, v, h => by cases v <;> simp_all [eqV]
  | .nilif, v, h => by cases v <;> simp_all [eqV]
  | .ptr a b c, v, h => by cases v <;> simp_all [eqV]
  | .sl a b c, v, h => by cases v <;> simp_all [eqV]
  | .mp a, v, h => by cases v <;> simp_all [eqV]
  | .top, v, h => by cases v <;> simp_all [eqV]
theorem eqO_eq : ∀ a b, eqO a b = true → a = b
  | .row a b, v, h => by
    cases v <;> simp only [eqO, Bool.false_eq_true, Bool.and_eq_true, beq_iff_eq] at h
    rw [h.1, eqL_eq b _ h.2]
  | .map a b, v, h => by
    cases v <;> simp only [eqO, Bool.false_eq_true, Bool.and_eq_true, beq_iff_eq] at h
    rw [eqKs_eq a _ h.1, eqL_eq b _ h.2]
  | .mapx a b c d, v, h => by
    cases v <;> simp only [eqO, Bool.false_eq_true, Bool.and_eq_true, beq_iff_eq] at h
    rw [h.1.1.1, h.1.1.2, eqKs_eq c _ h.1.2, eqL_eq d _ h.2]
  | .iter a b c d, v, h => by
    cases v <;> simp only [eqO, Bool.false_eq_true, Bool.and_eq_true, beq_iff_eq] at h
    rw [h.1.1.1, h.1.1.2, h.1.2, h.2]
theorem eqL_eq : ∀ a b, eqL a b = true → a = b
  | [], [], _ => rfl
  | a :: as, b :: bs, h => by simp only [eqL, Bool.and_eq_true] at h; rw [eqV_eq a b h.1, eqL_eq as bs h.2]
  | [], _ :: _, h => by cases h
  | _ :: _, [], h => by cases h
end
theorem eqE_eq : ∀ a b, eqE a b = true → a = b
  | [], [], _ => rfl
  | (i, a) :: as, (j, b) :: bs, h => by
    simp only [eqE, Bool.and_eq_true, beq_iff_eq] at h
    rw [h.1.1, eqV_eq a b h.1.2, eqE_eq as bs h.2]
  | [], _ :: _, h => by cases h
  | _ :: _, [], h => by cases h
theorem eqH_eq : ∀ a b, eqH a b = true → a = b
  | [], [], _ => rfl
  | (i, a) :: as, (j, b) :: bs, h => by
    simp only [eqH, Bool.and_eq_true, beq_iff_eq] at h
    rw [h.1.1, eqO_eq a b h.1.2, eqH_eq as bs h.2]
  | [], _ :: _, h => by cases h
  | _ :: _, [], h => by cases h
theorem eqS_eq (S T : St) (h : eqS S T = true) : S = T := by
  simp only [eqS, Bool.and_eq_true, beq_iff_eq] at h
  cases S; cases T
  simp only at h
  rw [eqE_eq _ _ h.1.1, eqH_eq _ _ h.1.2, h.2]

/-! The kernel reckons lazily: these hand on what is reckoned. -/
def fC {β : Type} (v : AV) (K : AV → β) : β := match v with
  | .bool true => K (.bool true)
  | .bool false => K (.bool false)
  | .int k (.ofNat m) => K (.int k (.ofNat m))
  | .int k (.negSucc m) => K (.int k (.negSucc m))
  | v => K v
def fCs {β : Type} : List AV → (List AV → β) → β
  | [], K => K []
  | v :: vs, K => fC v fun v => fCs vs fun vs => K (v :: vs)
def fIm {β : Type} : List AV → (List AV → β) → β
  | [], K => K []
  | .agg cs :: vs, K => fCs cs fun cs => fIm vs fun vs => K (.agg cs :: vs)
  | v :: vs, K => fC v fun v => fIm vs fun vs => K (v :: vs)
def fV {β : Type} (v : AV) (K : AV → β) : β := match v with
  | .imm es => fIm es fun es => K (.imm es)
  | .agg cs => fCs cs fun cs => K (.agg cs)
  | .tup cs => fCs cs fun cs => K (.tup cs)
  | v => fC v K
def fL {β : Type} : List AV → (List AV → β) → β
  | [], K => K []
  | v :: vs, K => fV v fun v => fL vs fun vs => K (v :: vs)
def fO {β : Type} : AO → (AO → β) → β
  | .row sz es, K => fL es fun es => K (.row sz es)
  | .map ks vs, K => fL vs fun vs => K (.map ks vs)
  | o, K => K o
def fH {β : Type} : Hp → (Hp → β) → β
  | [], K => K []
  | (i, o) :: H, K => fO o fun o => fH H fun H => K ((i, o) :: H)
def fHc {β : Type} (c : Bool) (H : Hp) (K : Hp → β) : β := match c with
  | true => fH H K
  | false => K H
def asetK {β : Type} : List (Nat × AV) → Nat → AV → (List (Nat × AV) → β) → β
  | [], _, _, K => K []
  | (k, v) :: r, s, u, K => if s = k then K ((k, u) :: r) else asetK r s u fun r => K ((k, v) :: r)
def aputK {β : Type} (env : List (Nat × AV)) (d : Option Nat) (v : AV) (K : List (Nat × AV) → β) : β := match d with
  | none => K env
  | some d => match alook env d with
    | some _ => asetK env d v K
    | none => K ((d, v) :: env)
theorem fC_eq {β : Type} (v : AV) (K : AV → β) : fC v K = K v := by
  unfold fC; split <;> rfl
theorem fCs_eq {β : Type} : ∀ (v : List AV) (K : List AV → β), fCs v K = K v
  | [], K => rfl
  | v :: vs, K => by simp only [fCs, fC_eq, fCs_eq vs]
theorem fIm_eq {β : Type} : ∀ (l : List AV) (K : List AV → β), fIm l K = K l
  | [], _ => rfl
  | v :: vs, K => by
    cases v with
    | agg cs => simp only [fIm, fCs_eq]; rw [fIm_eq vs]
    | _ => simp only [fIm, fC_eq]; rw [fIm_eq vs]
theorem fV_eq {β : Type} (v : AV) (K : AV → β) : fV v K = K v := by
  unfold fV; split <;> simp only [fIm_eq, fCs_eq, fC_eq]
theorem fL_eq {β : Type} : ∀ (v : List AV) (K : List AV → β), fL v K = K v
  | [], K => rfl
  | v :: vs, K => by simp only [fL, fV_eq v, fL_eq vs]
theorem fO_eq {β : Type} (o : AO) (K : AO → β) : fO o K = K o := by cases o <;> simp only [fO, fL_eq]
theorem fH_eq {β : Type} : ∀ (H : Hp) (K : Hp → β), fH H K = K H
  | [], K => rfl
  | (i, o) :: H, K => by simp only [fH, fO_eq, fH_eq H]
theorem fHc_eq {β : Type} (c : Bool) (H : Hp) (K : Hp → β) : fHc c H K = K H := by cases c <;> simp only [fHc, fH_eq]
theorem asetK_eq {β : Type} : ∀ (r : List (Nat × AV)) (s : Nat) (u : AV) (K : List (Nat × AV) → β), asetK r s u K = K (aset r s u)
  | [], _, _, _ => rfl
  | (k, v) :: r, s, u, K => by
    simp only [asetK, aset]
    split
    · rfl
    · rw [asetK_eq r s u]
theorem aputK_eq {β : Type} (env : List (Nat × AV)) (d : Option Nat) (v : AV) (K : List (Nat × AV) → β) : aputK env d v K = K (aput env d v) := by
  cases d with
  | none => rfl
  | some d => simp only [aputK, aput]; split <;> simp only [asetK_eq]
/-- the object of this number, reckoned -/
def fAt {β : Type} : Hp → Nat → (Hp → β) → β
  | [], _, K => K []
  | (k, o) :: H, id, K => match Nat.beq k id with
    | true => fO o fun o => K ((k, o) :: H)
    | false => fAt H id fun H => K ((k, o) :: H)
/-- the newest ones -/
def fNew {β : Type} : Nat → Hp → (Hp → β) → β
  | 0, H, K => K H
  | _ + 1, [], K => K []
  | m + 1, (k, o) :: H, K => fO o fun o => fNew m H fun H => K ((k, o) :: H)
def fTo {β : Type} (id : Option Nat) (H : Hp) (K : Hp → β) : β := match id with
  | some id => fAt H id K
  | none => K H
theorem fAt_eq {β : Type} : ∀ (H : Hp) (id : Nat) (K : Hp → β), fAt H id K = K H
  | [], _, _ => rfl
  | (k, o) :: H, id, K => by
    simp only [fAt]; split
    · rw [fO_eq]
    · rw [fAt_eq H]
theorem fNew_eq {β : Type} : ∀ (m : Nat) (H : Hp) (K : Hp → β), fNew m H K = K H
  | 0, _, _ => rfl
  | _ + 1, [], _ => rfl
  | m + 1, (k, o) :: H, K => by simp only [fNew, fO_eq, fNew_eq m H]
theorem fTo_eq {β : Type} (id : Option Nat) (H : Hp) (K : Hp → β) : fTo id H K = K H := by cases id <;> simp only [fTo, fAt_eq]
def idOf : AV → Option Nat
  | .ptr id _ _ => some id
  | .sl id _ _ => some id
  | .mp id => some id
  | _ => none
/-- which object an operation may turn -/
def chgId (env : List (Nat × AV)) : Op → Option Nat
  | .store _ a _ => idOf (aeval env a)
  | .load _ a => idOf (aeval env a)
  | .insert _ m _ _ => idOf (aeval env m)
  | .mapUpdate _ m _ _ => idOf (aeval env m)
  | .call ⟨.builtin .append, args, _⟩ => match args.toList with
    | x :: _ => idOf (aeval env x)
    | [] => none
  | _ => none
def fHn1 {β : Type} : Op → Nat → Nat → List (Nat × AV) → Hp → (Hp → β) → β
  | .store _ a _ => fun _ _ env H K => fTo (idOf (aeval env a)) H K
  | .load _ a => fun n n' env H K => match Nat.beq n n' with
    | true => K H
    | false => fNew 1 H fun H => fTo (idOf (aeval env a)) H K
  | .insert _ m _ _ => fun _ _ env H K => fTo (idOf (aeval env m)) H K
  | .mapUpdate _ m _ _ => fun _ _ env H K => fTo (idOf (aeval env m)) H K
  | .alloc _ => fun _ _ _ H K => fNew 1 H K
  | .box _ _ => fun _ _ _ H K => fNew 1 H K
  | .buildSlice .. => fun _ _ _ H K => fNew 1 H K
  | .makeSlice .. => fun _ _ _ H K => fNew 1 H K
  | .makeMap .. => fun _ _ _ H K => fNew 1 H K
  | .call c => fun n n' env H K => match Nat.beq n n' with
    | true => fTo (chgId env (.call c)) H K
    | false => fNew (n' - n) H fun H => fTo (chgId env (.call c)) H K
  | .convert .. => fun n _ _ H K => fTo (some n) H K
  | _ => fun _ _ _ H K => K H
def fHn {β : Type} (n n' : Nat) (env : List (Nat × AV)) (op : Op) (H : Hp) (K : Hp → β) : β := fHn1 op n n' env H K
theorem fHn_eq {β : Type} (n n' : Nat) (env : List (Nat × AV)) (op : Op) (H : Hp) (K : Hp → β) : fHn n n' env op H K = K H := by
  unfold fHn
  cases op <;> simp only [fHn1] <;> (try split) <;> simp only [fTo_eq, fNew_eq]

/-- the spine, reckoned -/
def fSp {α β : Type} : List α → (List α → β) → β
  | [], K => K []
  | a :: l, K => fSp l fun l => K (a :: l)
theorem fSp_eq {α β : Type} : ∀ (l : List α) (K : List α → β), fSp l K = K l
  | [], _ => rfl
  | a :: l, K => by simp only [fSp, fSp_eq l]
def fE {β : Type} : List (Nat × AV) → (List (Nat × AV) → β) → β
  | [], K => K []
  | (s, v) :: r, K => fV v fun v => fE r fun r => K ((s, v) :: r)
theorem fE_eq {β : Type} : ∀ (l : List (Nat × AV)) (K : List (Nat × AV) → β), fE l K = K l
  | [], _ => rfl
  | (s, v) :: l, K => by simp only [fE, fV_eq, fE_eq l]
def alookN {α : Type} : List (Nat × α) → Nat → Option α
  | [], _ => none
  | (k, v) :: r, s => match Nat.beq s k with
    | true => some v
    | false => alookN r s
theorem alookN_eq {α : Type} : ∀ (l : List (Nat × α)) (s : Nat), alookN l s = alook l s
  | [], _ => rfl
  | (k, v) :: r, s => by
    simp only [alookN, alook]
    split
    · rename_i h; have := Nat.eq_of_beq_eq_true h; simp [this]
    · rename_i h
      have : ¬ s = k := by intro e; subst e; simp at h
      rw [if_neg this, alookN_eq r s]
/-- slots, renumbered -/
def rnEnvK {β : Type} (L : Nat → Option Nat) (env : List (Nat × AV)) : Nat → List (Nat × AV) → (List (Nat × AV) → β) → β
  | 0, acc, K => K acc
  | s + 1, acc, K => match alookN env s with
    | some v => fV (rnV L v) fun v => rnEnvK L env s ((s, v) :: acc) K
    | none => rnEnvK L env s acc K
theorem rnEnvK_eq {β : Type} (L : Nat → Option Nat) (env : List (Nat × AV)) : ∀ (m : Nat) (acc : List (Nat × AV)) (K : List (Nat × AV) → β), rnEnvK L env m acc K = K (rnEnv L env (List.range m) ++ acc)
  | 0, acc, K => rfl
  | s + 1, acc, K => by
    have app : ∀ (l l' : List Nat), rnEnv L env (l ++ l') = rnEnv L env l ++ rnEnv L env l' := by
      intro l l'
      induction l with
      | nil => rfl
      | cons a l ih =>
        simp only [List.cons_append, rnEnv]
        split
        · simp [ih]
        · exact ih
    simp only [rnEnvK, alookN_eq]
    rw [List.range_succ, app]
    simp only [rnEnv]
    split
    · rename_i v e; simp only [fV_eq]; rw [rnEnvK_eq L env s, e]; simp
    · rename_i e; rw [rnEnvK_eq L env s, e]; simp
/-- the numbers that are led to -/
def memN : List Nat → Nat → Bool
  | [], _ => false
  | a :: l, i => match Nat.beq a i with
    | true => true
    | false => memN l i
def reachK {β : Type} (H : Hp) : Nat → List Nat → List Nat → (List Nat → β) → β
  | 0, _, seen, K => K seen
  | _ + 1, [], seen, K => K seen
  | m + 1, i :: todo, seen, K => match memN seen i with
    | true => reachK H m todo seen K
    | false => match alookN H i with
      | some o => reachK H m (idsO o todo) (i :: seen) K
      | none => reachK H m todo seen K
theorem reachK_eq {β : Type} (H : Hp) : ∀ (m : Nat) (todo seen : List Nat) (K : List Nat → β), ∃ L, reachK H m todo seen K = K L
  | 0, _, seen, K => ⟨seen, rfl⟩
  | _ + 1, [], seen, K => ⟨seen, rfl⟩
  | m + 1, i :: todo, seen, K => by
    simp only [reachK]
    split
    · exact reachK_eq H m todo seen K
    · split
      · exact reachK_eq H m _ _ K
      · exact reachK_eq H m todo seen K
def revK {α β : Type} : List α → List α → (List α → β) → β
  | [], acc, K => K acc
  | a :: l, acc, K => revK l (a :: acc) K
theorem revK_eq {α β : Type} : ∀ (l acc : List α) (K : List α → β), ∃ r, revK l acc K = K r
  | [], acc, _ => ⟨acc, rfl⟩
  | _ :: l, acc, K => revK_eq l _ K
/-- a state, numbered anew: the first k numbers stay -/
def canonK {β : Type} (k nt : Nat) (S : St) (bad : β) (K : St → β) : β :=
  reachK S.H 100000 ((List.range nt).foldr (fun s acc => match alookN S.env s with | some v => idsV v acc | none => acc) ((List.range k).foldr (fun i acc => match alookN S.H i with | some o => idsO o acc | none => acc) [])) (List.range k).reverse
    fun seen => revK seen [] fun L => match idK L k && niH (posOf L) S.H with
      | true => rnEnvK (posOf L) S.env nt [] fun env => fH (rnH (posOf L) 0 L S.H) fun H => K ⟨env, H, L.length⟩
      | false => bad
theorem canonK_eq {β : Type} (k nt : Nat) (S : St) (bad : β) (K : St → β) : canonK k nt S bad K = bad ∨ ∃ L : List Nat, idK L k = true ∧ niH (posOf L) S.H = true ∧ canonK k nt S bad K = K ⟨rnEnv (posOf L) S.env (List.range nt), rnH (posOf L) 0 L S.H, L.length⟩ := by
  unfold canonK
  generalize hLK : (fun seen : List Nat => _) = LK
  obtain ⟨L0, hL⟩ := reachK_eq S.H 100000 ((List.range nt).foldr (fun s acc => match alookN S.env s with | some v => idsV v acc | none => acc) ((List.range k).foldr (fun i acc => match alookN S.H i with | some o => idsO o acc | none => acc) [])) (List.range k).reverse LK
  rw [hL, ← hLK]
  dsimp only
  generalize hMK : (fun L : List Nat => _) = MK
  obtain ⟨L, hM⟩ := revK_eq L0 [] MK
  rw [hM, ← hMK]
  dsimp only
  split
  · rename_i h
    simp only [Bool.and_eq_true] at h
    right
    exact ⟨L, h.1, h.2, by rw [rnEnvK_eq, fH_eq]; simp⟩
  · exact Or.inl rfl

def joinE (T1 T2 : St) : RV (St × Option AV) := match eqS T1 T2 with
  | true => .ok (T1, none)
  | false => .bad 11 0
def join2 (k nt : Nat) (S2 : St) (T1 : St) : RV (St × Option AV) := canonK k nt S2 (.bad 10 0) (joinE T1)
/-- two orders that come to the same -/
def joinS (k nt : Nat) : Option AV → RV (St × Option AV) → RV (St × Option AV) → RV (St × Option AV)
  | none, .ok (S1, none), .ok (S2, none) => canonK k nt S1 (.bad 10 0) (join2 k nt S2)
  | _, .bad w a, _ => .bad w a
  | _, _, .bad w a => .bad w a
  | _, _, _ => .bad 13 0

def allLt : List Nat → Nat → Bool
  | [], _ => true
  | a :: l, n => match Nat.blt a n with
    | true => allLt l n
    | false => false
theorem allLt_eq : ∀ (l : List Nat) (n : Nat), allLt l n = true → (l.all fun i => decide (i < n)) = true
  | [], _, _ => rfl
  | a :: l, n, h => by
    simp only [allLt] at h
    split at h
    · rename_i e
      have e : a < n := by simpa [Nat.blt_eq] using e
      simp only [List.all_cons, Bool.and_eq_true, decide_eq_true_eq]
      exact ⟨e, allLt_eq l n h⟩
    · cases h

/-- of each slot what it holds now -/
def dedE {β : Type} : List (Nat × AV) → List Nat → (List (Nat × AV) → β) → β
  | [], _, K => K []
  | (s, v) :: r, seen, K => match memN seen s with
    | true => dedE r seen K
    | false => dedE r (s :: seen) fun r => K ((s, v) :: r)
theorem memN_iff : ∀ (l : List Nat) (i : Nat), memN l i = true ↔ i ∈ l
  | [], i => by simp [memN]
  | a :: l, i => by
    simp only [memN]
    split
    · rename_i h; have := Nat.eq_of_beq_eq_true h; simp [this]
    · rename_i h
      have h : ¬ a = i := by intro e; subst e; simp at h
      rw [memN_iff l i]; simp [Ne.symm h]
theorem dedE_eq {β : Type} : ∀ (env : List (Nat × AV)) (seen : List Nat) (K : List (Nat × AV) → β), ∃ r, dedE env seen K = K r ∧ ∀ s v, alook r s = some v → s ∉ seen ∧ alook env s = some v
  | [], seen, K => ⟨[], rfl, by simp [alook]⟩
  | (t, u) :: env, seen, K => by
    simp only [dedE]
    split
    · rename_i h
      obtain ⟨r, e, f⟩ := dedE_eq env seen K
      refine ⟨r, e, fun s v hs => ?_⟩
      obtain ⟨h1, h2⟩ := f s v hs
      refine ⟨h1, ?_⟩
      have : s ≠ t := by rintro rfl; exact h1 ((memN_iff _ _).1 h)
      simp [alook, this, h2]
    · rename_i h
      obtain ⟨r, e, f⟩ := dedE_eq env (t :: seen) fun r => K ((t, u) :: r)
      refine ⟨(t, u) :: r, e, fun s v hs => ?_⟩
      simp only [alook] at hs ⊢
      split at hs
      · rename_i e'; subst e'; cases hs
        refine ⟨fun hm => ?_, by simp⟩
        rw [(memN_iff _ _).2 hm] at h; cases h
      · rename_i e'
        obtain ⟨h1, h2⟩ := f s v hs
        rw [if_neg e']
        exact ⟨fun hm => h1 (List.mem_cons_of_mem _ hm), h2⟩

def okRv (rs : List (Nat × Option TypeId)) (ds : List Nat) : Bool := rs.all fun r => !ds.contains r.1

section
variable (P : Program) (tab : Nat → Option Fi) (cst : Nat → List AV → Hp → Option (AV × Hp × Nat))

/-- the results, read -/
def resV (env : List (Nat × AV)) : List (Nat × Option TypeId) → Hp → Nat → Option (List AV × Hp × Nat)
  | [], H, n => some ([], H, n)
  | (t, none) :: rs, H, n => match resV env rs H n with
    | some (vs, H, n) => some (lookd env t :: vs, H, n)
    | none => none
  | (t, some ty) :: rs, H, n => match lookd env t with
    | .ptr id i off => match aLoad P ty H n (.ptr id i off) with
      | .ok v H n => match resV env rs H n with
        | some (vs, H, n) => some (v :: vs, H, n)
        | none => none
      | _ => none
    | _ => none
def outV (env : List (Nat × AV)) (rs : List (Nat × Option TypeId)) (H : Hp) (n : Nat) : RV (AV × Hp × Nat) := match resV P env rs H n with
  | some (vs, H, n) => .ok (resT vs, H, n)
  | none => .bad 14 0

/-- two integers reckoned with -/
def gInt : BinOp → Program → TypeId → IntKind → Int → IntKind → Int → Hp → Nat → AR
  | .shl => fun P t k a k' b H n => aBin P .shl t H n (.int k a) (.int k' b)
  | .shr => fun P t k a k' b H n => aBin P .shr t H n (.int k a) (.int k' b)
  | .quo => fun P t k a k' b H n => aBin P .quo t H n (.int k a) (.int k' b)
  | .rem => fun P t k a k' b H n => aBin P .rem t H n (.int k a) (.int k' b)
  | .add => fun _ _ k a k' b H n => if k = k' then .ok (.int k (k.wrap (a + b))) H n else .fail
  | .sub => fun _ _ k a k' b H n => if k = k' then .ok (.int k (k.wrap (a - b))) H n else .fail
  | .mul => fun _ _ k a k' b H n => if k = k' then .ok (.int k (k.wrap (a * b))) H n else .fail
  | .eql => fun _ _ k a k' b H n => if k = k' then .ok (.bool (decide (a = b))) H n else .fail
  | .neq => fun _ _ k a k' b H n => if k = k' then .ok (.bool (decide (a ≠ b))) H n else .fail
  | .lss => fun _ _ k a k' b H n => if k = k' then .ok (.bool (decide (a < b))) H n else .fail
  | .leq => fun _ _ k a k' b H n => if k = k' then .ok (.bool (decide (a ≤ b))) H n else .fail
  | .gtr => fun _ _ k a k' b H n => if k = k' then .ok (.bool (decide (b < a))) H n else .fail
  | .geq => fun _ _ k a k' b H n => if k = k' then .ok (.bool (decide (b ≤ a))) H n else .fail
  | op => fun P t k a k' b H n => aBin P op t H n (.int k a) (.int k' b)
theorem gInt_eq (op : BinOp) (P : Program) (t : TypeId) (k : IntKind) (a : Int) (k' : IntKind) (b : Int) (H : Hp) (n : Nat) : gInt op P t k a k' b H n = aBin P op t H n (.int k a) (.int k' b) := by
  cases op <;> simp only [gInt, aBin, iBin, reduceCtorEq, false_or, or_false, false_and, if_false]
def gBin2 : AV → BinOp → TypeId → Operand → Operand → IntKind → Int → Program → Hp → Nat → AR
  | .int k' b => fun op t _ _ k a P H n => gInt op P t k a k' b H n
  | v => fun op t x y k a P H n => aEq op x y (.int k a) v (aBin P op t H n (.int k a) v)
def gBin : AV → AV → BinOp → TypeId → Operand → Operand → Program → Hp → Nat → AR
  | .int k a => fun vy op t x y P H n => gBin2 vy op t x y k a P H n
  | vx => fun vy op t x y P H n => aEq op x y vx vy (aBin P op t H n vx vy)
theorem gBin_eq (vx vy : AV) (op : BinOp) (t : TypeId) (x y : Operand) (P : Program) (H : Hp) (n : Nat) : gBin vx vy op t x y P H n = aEq op x y vx vy (aBin P op t H n vx vy) := by
  cases vx with
  | int k a =>
    cases vy with
    | int k' b =>
      simp only [gBin, gBin2, gInt_eq]
      cases op <;> rfl
    | _ => rfl
  | _ => rfl
/-- an operation, so that little is copied -/
def aopG : Op → Program → List (Nat × AV) → Hp → Nat → AR
  | .move x => fun _ env H n => .ok (aeval env x) H n
  | .assign x => fun _ env H n => .ok (aeval env x) H n
  | .load t a => fun P env H n => aLoad P t H n (aeval env a)
  | .store t a x => fun P env H n => aStore P t H n (aeval env a) (aeval env x)
  | .fieldAddr t x f => fun P env H n => aFld P t f H n (aeval env x)
  | .binOp op t x y _ => fun P env H n => gBin (aeval env x) (aeval env y) op t x y P H n
  | .extract x i => fun _ env H n => aExtract i H n (aeval env x)
  | .alloc t => fun P _ H n => aAlloc P t H n
  | op => fun P env H n => aop P op env H n
theorem aopG_eq (op : Op) (P : Program) (env : List (Nat × AV)) (H : Hp) (n : Nat) : aopG op P env H n = aop P op env H n := by
  cases op <;> first | rfl | simp only [aopG, aop, gBin_eq]
/-- an operation that calls nobody -/
def rElse (op : Op) (dst : Option Nat) (S : St) (D : Option AV) (K : St → Option AV → RV (St × Option AV)) : RV (St × Option AV) := match aopG op P S.env S.H S.nx with
  | .ok v H n => fV v fun v => fHn S.nx n S.env op H fun H => K ⟨eput S.env dst v, H, n⟩ D
  | .anyb _ _ => .bad 4 0
  | .fail => .bad 5 (dst.getD 0)
/-- behind a call -/
def rBack (dst : Option Nat) (S : St) (D : Option AV) (L : List Nat) (K : St → Option AV → RV (St × Option AV)) : RV (AV × Hp × Nat) → RV (St × Option AV)
  | .ok (v, H', n') => reachK H' 100000 (idsV v (List.range L.length)) [] fun keep => fV (rnV (upR L S.nx n') v) fun v => fH (rnHm (upR L S.nx n') keep H') fun A => fSp (A ++ remH (posOf L) L S.H) fun H => K ⟨eput S.env dst v, H, S.nx + n'⟩ D
  | .pan v S' _ => reachK S'.H 100000 (idsV v (List.range L.length)) [] fun keep => fV (rnV (upR L S.nx S'.nx) v) fun v => fH (rnHm (upR L S.nx S'.nx) keep S'.H) fun A => fSp (A ++ remH (posOf L) L S.H) fun H =>
    .pan v ⟨S.env, H, S.nx + S'.nx⟩ D
  | .bad w a => .bad w a
/-- behind a call that is walked into as it stands -/
def rIn (dst : Option Nat) (S : St) (D : Option AV) (K : St → Option AV → RV (St × Option AV)) : RV (AV × Hp × Nat) → RV (St × Option AV)
  | .ok (v, H', n') => K ⟨eput S.env dst v, H', n'⟩ D
  | .pan v S' _ => .pan v ⟨S.env, S'.H, S'.nx⟩ D
  | .bad w a => .bad w a
def isLeaf (f : Nat) : Bool := match tab f with
  | some fi => fi.lf
  | none => false
def rCall (f : Nat) (as : List AV) (dst : Option Nat) (S : St) (D : Option AV) (K : St → Option AV → RV (St × Option AV)) (F : Nat → List AV → Hp → Nat → RV (AV × Hp × Nat)) : RV (St × Option AV) := match cst f as S.H with
  | some (v, H, dn) => fSp H fun H => K ⟨eput S.env dst v, H, S.nx + dn⟩ D
  | none => match isLeaf tab f with
   | true => rIn dst S D K (F f as S.H S.nx)
   | false => reachK S.H 100000 (idsL as []) [] fun L => match allLt L S.nx with
    | true => fL (rnL (posOf L) as) fun as' => fH (rnHm (posOf L) L S.H) fun H1 => rBack dst S D L K (F f as' H1 L.length)
    | false => .bad 23 0
def rOp (dm : Bool) (op : Op) (dst : Option Nat) (S : St) (D : Option AV) (K : St → Option AV → RV (St × Option AV)) (F : Nat → List AV → Hp → Nat → RV (AV × Hp × Nat)) : RV (St × Option AV) := match op with
  | .call ⟨.value x, args, _⟩ => match aeval S.env x with
    | .fn (.func f) first caps => fL (first ++ args.toList.map (aeval S.env) ++ caps) fun as => rCall tab cst f as dst S D K F
    | _ => .bad 3 0
  | .defer ⟨.value x, args, _⟩ => match dm, D, aeval S.env x with
    | true, none, .fn (.func f) first caps => K ⟨eput S.env dst .top, S.H, S.nx⟩ (some (.fn (.func f) (first ++ args.toList.map (aeval S.env)) caps))
    | _, _, _ => .bad 15 0
  | .panic x => match aeval S.env x with
    | .iface ty v => .pan (.iface ty v) S D
    | _ => .bad 16 0
  | op => rElse P op dst S D K
def rOne (dm : Bool) (o : SOp) (S : St) (D : Option AV) (K : St → Option AV → RV (St × Option AV)) (F : Nat → List AV → Hp → Nat → RV (AV × Hp × Nat)) : RV (St × Option AV) := match o.gd with
  | none => rOp P tab cst dm o.op o.dst S D K F
  | some (d, want) => match alook S.env d with
    | some (.bool b) => match b, want with
      | true, true => rOp P tab cst dm o.op o.dst S D K F
      | false, false => rOp P tab cst dm o.op o.dst S D K F
      | _, _ => K ⟨eput S.env o.dst (.tup []), S.H, S.nx⟩ D
    | some (.tup []) => K ⟨eput S.env o.dst (.tup []), S.H, S.nx⟩ D
    | _ => .bad 6 d
def rAlt (nt k : Nat) (D : Option AV) (t : ST) (a : RV (St × Option AV)) (b : Unit → RV (St × Option AV)) : RV (St × Option AV) := match t with
  | .nil => a
  | _ => joinS k nt D a (b ())
/-- a function's end -/
def rEnd (rs : List (Nat × Option TypeId)) (dm : Bool) (S : St) (D : Option AV) (L : AV → AV → St → RV (AV × Hp × Nat)) : RV (AV × Hp × Nat) := match D with
  | none => outV P S.env rs S.H S.nx
  | some c => match dm with
    | true => L c .nilif S
    | false => .bad 21 0
def rReg (dm : Bool) (L : AV → AV → St → RV (AV × Hp × Nat)) (C : St → Option AV → RV (AV × Hp × Nat)) : RV (St × Option AV) → RV (AV × Hp × Nat)
  | .ok (S, D) => C S D
  | .pan v S D => match D with
    | none => .pan v S none
    | some c => match dm with
      | true => L c v S
      | false => .bad 21 0
  | .bad w a => .bad w a
/-- the deferred call is made: 'C' runs it -/
def rLeave (rs : List (Nat × Option TypeId)) (c rv : AV) (S : St) (C : Fi → SC → St → RV (AV × Hp × Nat)) : RV (AV × Hp × Nat) := match c with
  | .fn (.func f) first caps => match tab f with
    | some fi => match fi.cl with
      | some (r0, r1, scr) => if (first ++ caps).length ≤ fi.nt then (match C fi scr ⟨eput (eput (numA 0 (first ++ caps)) (some r0) rv) (some r1) rv, S.H, S.nx⟩ with
        | .ok (_, H, n) => outV P S.env rs H n
        | .pan _ _ _ => .bad 17 0
        | .bad w a => .bad w a) else .bad 18 0
      | none => .bad 19 f
    | none => .bad 9 f
  | _ => .bad 20 0
def rFun (f : Nat) (args : List AV) (C : Fi → RV (AV × Hp × Nat)) : RV (AV × Hp × Nat) := match tab f with
  | some fi => match Nat.ble args.length fi.nt with
    | true => (match C fi with
      | .bad w a => .bad w (match Nat.blt a 100000 with | true => f * 100000 + a | false => a)
      | r => r)
    | false => .bad 12 f
  | none => .bad 9 f

mutual
def rr (dm : Bool) (nt : Nat) (k : Nat) : Nat → ST → St → Option AV → RV (St × Option AV)
  | 0, _, _, _ => .bad 1 0
  | m + 1, t, S, D => match t with
    | .leaf => .ok (S, D)
    | .nil => .bad 2 0
    | .alt s t => rAlt nt k D t (rr dm nt k m s S D) (fun _ => rr dm nt k m t S D)
    | .one o t => rOne P tab cst dm o S D (fun S D => rr dm nt k m t S D) (fun f as H n => rf m f as H n)
  termination_by structural m => m
/-- a function's end: what is deferred is run; 'rv': what is panicked with, or nil -/
def rl (rs : List (Nat × Option TypeId)) : Nat → AV → AV → St → RV (AV × Hp × Nat)
  | 0, _, _, _ => .bad 1 0
  | m + 1, c, rv, S => rLeave P tab rs c rv S (fun fi scr S1 => rc fi.rs fi.nt S.nx false m [.code scr] S1 none)
  termination_by structural m => m
def rc (rs : List (Nat × Option TypeId)) (nt : Nat) (k : Nat) (dm : Bool) : Nat → List SI → St → Option AV → RV (AV × Hp × Nat)
  | 0, _, _, _ => .bad 1 0
  | m + 1, ks, S, D => match ks with
    | [] => rEnd P rs dm S D (fun c v S => rl rs m c v S)
    | .inBlock _ :: ks => rc rs nt k dm m ks S D
    | .inLoop c :: ks => dedE S.env [] fun env => rc rs nt k dm m (.code c :: .inLoop c :: ks) ⟨env, S.H, S.nx⟩ D
    | .code c :: ks => match c with
      | .skip => rc rs nt k dm m ks S D
      | .ret => rEnd P rs dm S D (fun c v S => rl rs m c v S)
      | .region ds t => match !dm || okRv rs ds with
        | true => rReg dm (fun c v S => rl rs m c v S) (fun S D => rc rs nt k dm m ks S D) (rr dm nt k m t S D)
        | false => .bad 22 0
      | .seq a b => rc rs nt k dm m (.code a :: .code b :: ks) S D
      | .cond c a b => match aeval S.env c with
        | .bool true => rc rs nt k dm m (.code a :: ks) S D
        | .bool false => rc rs nt k dm m (.code b :: ks) S D
        | _ => .bad 7 0
      | .block id a => rc rs nt k dm m (.code a :: .inBlock id :: ks) S D
      | .loop a => rc rs nt k dm m (.code a :: .inLoop a :: ks) S D
      | .exit id => match exitSI id ks with
        | some ks => rc rs nt k dm m ks S D
        | none => .bad 8 0
  termination_by structural m => m
def rf : Nat → Nat → List AV → Hp → Nat → RV (AV × Hp × Nat)
  | 0, _, _, _, _ => .bad 1 0
  | m + 1, f, args, H, n => rFun tab f args (fun fi => rc fi.rs fi.nt n fi.dm m [.code fi.sc] ⟨numA 0 args, H, n⟩ none)
  termination_by structural m => m
end
end
end Go.AM
