/-
  A walk, as a matter of rewriting. No condition beyond what each theorem states.
-/
import Derived.Test.YtbbhjklcjlnacaaGreatAm16
/-! A walk, as a matter of rewriting. -/
namespace Go.AM

/-- behind an operation -/
def exA (G : Go) (m : Nat) (r : AR) (dst : Option Nat) (t : ST) (ks : List SI) (env : List (Nat × AV)) : Prop := exAR r fun v H n => ex G m (.ops t ks ⟨eput env dst v, H, n⟩)
theorem exA_ok (G : Go) (m : Nat) (v : AV) (H : Hp) (n : Nat) (dst : Option Nat) (t : ST) (ks : List SI) (env : List (Nat × AV)) : exA G m (.ok v H n) dst t ks env = ex G m (.ops t ks ⟨eput env dst v, H, n⟩) := rfl
theorem exA_anyb (G : Go) (m : Nat) (H : Hp) (n : Nat) (dst : Option Nat) (t : ST) (ks : List SI) (env : List (Nat × AV)) : exA G m (.anyb H n) dst t ks env = ∀ b, ex G m (.ops t ks ⟨eput env dst (.bool b), H, n⟩) := rfl
theorem exA_fail (G : Go) (m : Nat) (dst : Option Nat) (t : ST) (ks : List SI) (env : List (Nat × AV)) : exA G m .fail dst t ks env = False := rfl
theorem exA_ite (G : Go) (m : Nat) (c : Prop) [Decidable c] (r : AR) (dst : Option Nat) (t : ST) (ks : List SI) (env : List (Nat × AV)) : exA G m (if c then r else .fail) dst t ks env = (c ∧ exA G m r dst t ks env) := exAR_ite c r _
theorem exA_ite' (G : Go) (m : Nat) (c : Prop) [Decidable c] (r : AR) (dst : Option Nat) (t : ST) (ks : List SI) (env : List (Nat × AV)) : exA G m (if c then .fail else r) dst t ks env = (¬ c ∧ exA G m r dst t ks env) := by
  by_cases h : c <;> simp [h, exA, exAR]
def exO (G : Go) (m : Nat) (b : Bool) (dst : Option Nat) (op : Op) (t : ST) (ks : List SI) (env : List (Nat × AV)) (H : Hp) (n : Nat) : Prop := match b with
  | true => ARun G (.ops (.one ⟨dst, op, none⟩ t) ks ⟨env, H, n⟩)
  | false => exA G m (aop G.P op env H n) dst t ks env
theorem exO_t (G : Go) (m : Nat) (dst : Option Nat) (op : Op) (t : ST) (ks : List SI) (env : List (Nat × AV)) (H : Hp) (n : Nat) : exO G m true dst op t ks env H n = ARun G (.ops (.one ⟨dst, op, none⟩ t) ks ⟨env, H, n⟩) := rfl
theorem exO_f (G : Go) (m : Nat) (dst : Option Nat) (op : Op) (t : ST) (ks : List SI) (env : List (Nat × AV)) (H : Hp) (n : Nat) : exO G m false dst op t ks env H n = exA G m (aop G.P op env H n) dst t ks env := rfl
/-- two ways on -/
def exP (G : Go) (m : Nat) (b : Bool) (x y : Cfg) : Prop := pick2 b (ex G m x) (ex G m y)
theorem exP_t (G : Go) (m : Nat) (x y : Cfg) : exP G m true x y = ex G m x := rfl
theorem exP_f (G : Go) (m : Nat) (x y : Cfg) : exP G m false x y = ex G m y := rfl
theorem exP_intro {G : Go} {m : Nat} {b : Bool} {x y : Cfg} (h : b = true → ex G m x) (h' : b = false → ex G m y) : exP G m b x y := pick2_intro h h'
def exS (G : Go) (m : Nat) (v : Option AV) (want : Bool) (x y : Cfg) : Prop := exG v want (ex G m x) (ex G m y)
theorem exS_t (G : Go) (m : Nat) (b : Bool) (x y : Cfg) : exS G m (some (.bool b)) true x y = exP G m b x y := rfl
theorem exS_f (G : Go) (m : Nat) (b : Bool) (x y : Cfg) : exS G m (some (.bool b)) false x y = exP G m b y x := rfl
theorem exS_u (G : Go) (m : Nat) (w : Bool) (x y : Cfg) : exS G m (some (.tup [])) w x y = ex G m y := rfl
def exB (G : Go) (m : Nat) (v : AV) (x y : Cfg) : Prop := exC v (ex G m x) (ex G m y)
theorem exB_b (G : Go) (m : Nat) (b : Bool) (x y : Cfg) : exB G m (.bool b) x y = exP G m b x y := rfl
/-- where an exit leads -/
def exX (G : Go) (m : Nat) (r : Option (List SI)) (S : St) : Prop := match r with
  | some ks => ex G m (.code ks S)
  | none => False
theorem exX_some (G : Go) (m : Nat) (ks : List SI) (S : St) : exX G m (some ks) S = ex G m (.code ks S) := rfl

theorem ex_leaf (G : Go) (m : Nat) (ks : List SI) (S : St) : ex G (m + 1) (.ops .leaf ks S) = ex G m (.code ks S) := by simp only [ex]
theorem ex_nil (G : Go) (m : Nat) (ks : List SI) (S : St) : ex G (m + 1) (.ops .nil ks S) = True := by simp only [ex]
theorem ex_alt (G : Go) (m : Nat) (s t : ST) (ks : List SI) (S : St) : ex G (m + 1) (.ops (.alt s t) ks S) = (ex G m (.ops s ks S) ∧ ex G m (.ops t ks S)) := by simp only [ex]
theorem ex_one (G : Go) (m : Nat) (dst : Option Nat) (op : Op) (t : ST) (ks : List SI) (env : List (Nat × AV)) (H : Hp) (n : Nat) : ex G (m + 1) (.ops (.one ⟨dst, op, none⟩ t) ks ⟨env, H, n⟩) =
    exO G m (isCall op) dst op t ks env H n := by
  simp only [ex]; cases isCall op <;> rfl
theorem ex_guard (G : Go) (m : Nat) (dst : Option Nat) (op : Op) (d : Nat) (want : Bool) (t : ST) (ks : List SI) (env : List (Nat × AV)) (H : Hp) (n : Nat) : ex G (m + 1) (.ops (.one ⟨dst, op, some (d, want)⟩ t) ks ⟨env, H, n⟩) =
    exS G m (alook env d) want (.ops (.one ⟨dst, op, none⟩ t) ks ⟨env, H, n⟩) (.ops t ks ⟨eput env dst (.tup []), H, n⟩) := by simp only [ex]; rfl
theorem ex_end (G : Go) (m : Nat) (S : St) : ex G (m + 1) (.code [] S) = AFin G S := by simp only [ex]
theorem ex_inBlock (G : Go) (m id : Nat) (ks : List SI) (S : St) : ex G (m + 1) (.code (.inBlock id :: ks) S) = ex G m (.code ks S) := by simp only [ex]
theorem ex_inLoop (G : Go) (m : Nat) (c : SC) (ks : List SI) (S : St) : ex G (m + 1) (.code (.inLoop c :: ks) S) = ARun G (.code (.code c :: .inLoop c :: ks) S) := by simp only [ex]
theorem ex_skip (G : Go) (m : Nat) (ks : List SI) (S : St) : ex G (m + 1) (.code (.code .skip :: ks) S) = ex G m (.code ks S) := by cases S; simp only [ex]
theorem ex_ret (G : Go) (m : Nat) (ks : List SI) (S : St) : ex G (m + 1) (.code (.code .ret :: ks) S) = AFin G S := by cases S; simp only [ex]
theorem exR_f (fn : Func) (D : Option AV) (ds : List Nat) (p : Prop) : exR ⟨fn, false, D⟩ ds p = p := rfl
theorem exR_t0 (fn : Func) (D : Option AV) (p : Prop) : exR ⟨fn, true, D⟩ [] p = p := rfl
theorem exR_t1 (fn : Func) (D : Option AV) (d : Nat) (ds : List Nat) (p : Prop) : exR ⟨fn, true, D⟩ (d :: ds) p = (okR fn (d :: ds) = true ∧ p) := rfl
theorem exPan_f (P : Program) (fn : Func) (n k : Nat) (K : Res → Hp → Nat → Prop) (v : AV) (env : List (Nat × AV)) (H : Hp) (m : Nat) : exPan ⟨P, ⟨fn, false, none⟩, n, k, K⟩ v env H m = K (.pan v) H m := rfl
theorem exPan_t (P : Program) (fn : Func) (D : Option AV) (n k : Nat) (K : Res → Hp → Nat → Prop) (v : AV) (env : List (Nat × AV)) (H : Hp) (m : Nat) : exPan ⟨P, ⟨fn, true, D⟩, n, k, K⟩ v env H m = APan ⟨P, ⟨fn, true, D⟩, n, k, K⟩ v ⟨env, H, m⟩ := by cases D <;> rfl
theorem ex_region (G : Go) (m : Nat) (ds : List Nat) (t : ST) (ks : List SI) (S : St) : ex G (m + 1) (.code (.code (.region ds t) :: ks) S) = exR G.fn ds (ex G m (.ops t ks S)) := by cases S; simp only [ex]
theorem ex_seq (G : Go) (m : Nat) (a b : SC) (ks : List SI) (S : St) : ex G (m + 1) (.code (.code (.seq a b) :: ks) S) = ex G m (.code (.code a :: .code b :: ks) S) := by cases S; simp only [ex]
theorem ex_cond (G : Go) (m : Nat) (c : Operand) (a b : SC) (ks : List SI) (env : List (Nat × AV)) (H : Hp) (n : Nat) : ex G (m + 1) (.code (.code (.cond c a b) :: ks) ⟨env, H, n⟩) =
    exB G m (aeval env c) (.code (.code a :: ks) ⟨env, H, n⟩) (.code (.code b :: ks) ⟨env, H, n⟩) := by simp only [ex]; rfl
theorem ex_block (G : Go) (m id : Nat) (a : SC) (ks : List SI) (S : St) : ex G (m + 1) (.code (.code (.block id a) :: ks) S) = ex G m (.code (.code a :: .inBlock id :: ks) S) := by cases S; simp only [ex]
theorem ex_loop (G : Go) (m : Nat) (a : SC) (ks : List SI) (S : St) : ex G (m + 1) (.code (.code (.loop a) :: ks) S) = ARun G (.code (.code a :: .inLoop a :: ks) S) := by cases S; simp only [ex]
theorem ex_exit (G : Go) (m id : Nat) (ks : List SI) (S : St) : ex G (m + 1) (.code (.code (.exit id) :: ks) S) = exX G m (exitSI id ks) S := by
  cases S; simp only [ex, exX]; cases exitSI id ks <;> rfl

theorem alook_cons (k : Nat) (v : AV) (r : List (Nat × AV)) (s : Nat) : alook ((k, v) :: r) s = if s = k then some v else alook r s := rfl
theorem alook_put (d : Nat) (v : AV) (env : List (Nat × AV)) (s : Nat) : alook (eput env (some d) v) s = if s = d then some v else alook env s := rfl
theorem alook_put0 (v : AV) (env : List (Nat × AV)) (s : Nat) : alook (eput env none v) s = alook env s := rfl

/-- how far a walk goes at one go -/
theorem ex_go (G : Go) (m : Nat) (c : Cfg) (h : ex G m c) : ARun G c := ex_sound G m c h

theorem spec_of' {P : Program} {f : FuncId} {fn : Func} {sc : SC} {n : Nat} {args : List AV} {roots : List AO} {R : Res → List (Option AO) → Prop}
    (hf : P.funcs[f]? = some fn) (hn : fn.ntmps = n) (hb : fn.body.bind (comp P n) = some sc) (hl : args.length ≤ n)
    {dm : Bool} (h : ARun ⟨P, ⟨fn, dm, none⟩, n, roots.length, closeK roots.length R⟩ (.code [.code sc] ⟨numA 0 args, numH 0 roots, roots.length⟩)) : Spec P f args roots R := by
  cases hc : fn.body with
  | none => rw [hc] at hb; cases hb
  | some c => rw [hc] at hb; exact spec_of hf hn hc hb hl h

attribute [go_sem ↓] ex_leaf ex_nil ex_alt ex_one ex_guard ex_end ex_inBlock ex_inLoop ex_skip ex_ret ex_region ex_seq ex_cond ex_block ex_loop ex_exit
attribute [go_sem] numA numH List.length_nil List.length_cons or_false false_or false_and and_false true_and and_true not_false_eq_true not_true_eq_false or_true true_or
  aresult lookd closeK takeV takeL openV openL firstK shV shL shO shOs shAll takeIds backH renV topOk topOkL List.map_cons List.map_nil List.all_cons List.all_nil
  shL_append shL_map
attribute [go_sem] exR_f exR_t0 exR_t1 exPan_f exPan_t exO_t exO_f exA_ok exA_anyb exA_fail exA_ite exA_ite' exS_t exS_f exS_u exB_b exX_some exP_t exP_f exitSI
  Bool.not_false Bool.not_true Nat.zero_add Nat.reduceAdd
  isCall aop aeval evp aEq litNil ofVal ofCell alook aset adel alook_put alook_put0
  aLoad aLoadRow aOpen aStore putElem setCells getCell setCell AV.cells AV.free AV.solid AV.fits AV.isCell aFld aIdx aSlice okHd aBound aLen iBin aNil aBin aUn aBox aAlloc aBuild aFill aElems aBuildSl aMkSl aMkMap aExtract aField aIndex aConv aFreeze aB2S bytesL aInsert aMM aLookup findI isKey AV.look aIface aSrc aApp
end Go.AM
