/-
  Results that lie in cells; calls that are put off. No condition beyond what each theorem states.
-/
import Derived.Test.YtbbhjklcjlnacaaGreatAm20
import Derived.Recover
import Derived.BigFrame
/-! Results that lie in cells; calls that are put off. -/
namespace Go.AM
variable {P : Program}

def toRV : Nat × Option TypeId → ResultVar
  | (t, none) => .tmp t
  | (t, some ty) => .cell t ty
/-- what results are read to be -/
def resA (P : Program) (env : List (Nat × AV)) : List (Nat × Option TypeId) → Hp → Nat → (List AV → Hp → Nat → Prop) → Prop
  | [], H, n, K => K [] H n
  | (t, none) :: rs, H, n, K => resA P env rs H n fun vs H n => K (lookd env t :: vs) H n
  | (t, some ty) :: rs, H, n, K => match lookd env t with
    | .ptr id i off => match aLoad P ty H n (.ptr id i off) with
      | .ok v H n => resA P env rs H n fun vs H n => K (v :: vs) H n
      | _ => False
    | _ => False
def resT : List AV → AV
  | [v] => v
  | vs => .tup vs

def ResRuns (P : Program) (tmps : Array Value) (w : World) : List ResultVar → List Value → Prop
  | [], zs => zs = []
  | r :: rs, zs => ∃ z zs', zs = z :: zs' ∧ (resG tmps r).run P w = .ok z w ∧ ResRuns P tmps w rs zs'

theorem run_results' {fn : Func} {tmps : Array Value} {w : World} {zs : List Value} (h : ResRuns P tmps w fn.results.toList zs) :
    (results fn tmps).run P w = .ok (if h : zs.toArray.size = 1 then zs.toArray[0] else .tuple zs.toArray) w := by
  have key : ∀ (rs : List ResultVar) (zs : List Value) (acc : Array Value), ResRuns P tmps w rs zs → (List.foldlM (fun (b : Array Value) (a : ResultVar) => (b.push <$> resG tmps a : Sem (Array Value))) acc rs).run P w = .ok (acc ++ zs.toArray) w := by
    intro rs
    induction rs with
    | nil => intro zs acc h; simp only [ResRuns] at h; subst h; rw [List.foldlM_nil]; simp
    | cons r rs ih =>
      intro zs acc h
      obtain ⟨z, zs', rfl, h1, h2⟩ := h
      rw [List.foldlM_cons, Sem.run_bind]
      have : (acc.push <$> resG tmps r : Sem (Array Value)).run P w = .ok (acc.push z) w := by
        show (resG tmps r >>= fun a => pure (acc.push a) : Sem (Array Value)).run P w = _
        rw [Sem.run_bind, h1]; rfl
      rw [this]
      show Sem.run P _ w = _
      rw [ih zs' _ h2]
      congr 1
      apply Array.ext'
      simp
  rw [results_eq, Array.mapM_eq_foldlM, ← Array.foldlM_toList, Sem.run_bind, key _ _ _ h, Array.empty_append]
  rfl

theorem resA_good {env : List (Nat × AV)} {tmps : Array Value} {hf : PH} {w : World} : ∀ (rs : List (Nat × Option TypeId)) (H : Hp) (X : Cx) (K : List AV → Hp → Nat → Prop), (∀ r, pureR X (lookd env r) (tmps.getD r undef)) → Mem X hf H w → resA P env rs H X.n K →
    ∃ vs zs H' X', X.le X' ∧ Mem X' hf H' w ∧ pureL X' vs zs ∧ K vs H' X'.n ∧ ResRuns P tmps w (rs.map toRV) zs
  | [], H, X, K, _, m, h => ⟨[], [], H, X, Cx.le_refl X, m, by simp [pureL], h, rfl⟩
  | (t, none) :: rs, H, X, K, look, m, h => by
    simp only [resA] at h
    obtain ⟨vs, zs, H', X', le, m', p, k, r⟩ := resA_good rs H X _ look m h
    refine ⟨_, (tmps.getD t undef) :: zs, H', X', le, m', ?_, k, ?_⟩
    · simp only [pureL]; exact ⟨_, _, rfl, pureR_mono le _ _ (look t), p⟩
    · simp only [List.map_cons, toRV, ResRuns]; exact ⟨_, _, rfl, rfl, r⟩
  | (t, some ty) :: rs, H, X, K, look, m, h => by
    simp only [resA] at h
    split at h
    · rename_i id i off e
      have lt := look t
      rw [e] at lt
      have g := aLoad_good (P := P) ty m lt
      cases ha : aLoad P ty H X.n (.ptr id i off) with
      | ok v H1 n1 =>
        rw [ha] at g h
        obtain ⟨x, X1, g1, g2, rfl, g4, g5⟩ := g
        obtain ⟨vs, zs, H', X', le, m', p, k, r⟩ := resA_good rs H1 X1 _ (fun r => pureR_mono g2 _ _ (look r)) g4 h
        refine ⟨_, x :: zs, H', X', g2.trans le, m', ?_, k, ?_⟩
        · simp only [pureL]; exact ⟨_, _, rfl, pureR_mono le _ _ g5, p⟩
        · simp only [List.map_cons, toRV, ResRuns]
          refine ⟨_, _, rfl, ?_, r⟩
          have g1 := g1 w (Old.refl w)
          simp only [pureR] at lt
          obtain ⟨_, ex⟩ := lt
          simp only [resG, ex, asAddr] at g1 ⊢
          exact g1
      | anyb H1 n1 => rw [ha] at h; exact h.elim
      | fail => rw [ha] at h; exact h.elim
    · exact h.elim

theorem look_of {X : Cx} {env : List (Nat × AV)} {tmps : Array Value} (h : envR X env tmps) : ∀ r, pureR X (lookd env r) (tmps.getD r undef) := by
  intro r; unfold lookd
  cases hl : alook env r with
  | none => exact trivial
  | some v => obtain ⟨x, e, p⟩ := h r v hl; simp [Array.getD_eq_getD_getElem?, e]; exact p

theorem resT_pure {X : Cx} {vs : List AV} {zs : List Value} (p : pureL X vs zs) : pureR X (resT vs) (if h : zs.toArray.size = 1 then zs.toArray[0] else .tuple zs.toArray) := by
  have hl := pureL_len _ _ p
  unfold resT
  split
  · rename_i v
    simp only [pureL] at p
    obtain ⟨z, zs', rfl, p1, rfl⟩ := p
    simpa using p1
  · rename_i hne
    have : ¬ zs.toArray.size = 1 := by
      intro h1
      simp at h1
      rw [h1] at hl
      match vs, hl, hne with
      | [r], _, hne => exact hne r rfl
    rw [dif_neg this]
    simp only [pureR]
    exact ⟨_, rfl, by simpa using p⟩

theorem fin_core {fn : Func} {k : Nat} {K : Res → Hp → Nat → Prop} {X0 X : Cx} {hf : PH} {H : Hp} {w w0 : World} {env : List (Nat × AV)} {tmps : Array Value} {rs : List (Nat × Option TypeId)} (hr : fn.results.toList = rs.map toRV)
    (im : X0.im.sub X.im) (hk : k ≤ X.n) (hσ : ∀ id, id < k → X.σ id = X0.σ id) (look : ∀ r, pureR X (lookd env r) (tmps.getD r undef)) (m : Mem X hf H w) (x : Ext w0 w) (h : resA P env rs H X.n fun vs H n => K (.ret (resT vs)) H n) :
    ∃ v, (results fn tmps).run P w = .ok v w ∧ finR k K X0 hf w0 (.returned v) w := by
  obtain ⟨vs, zs, H', X', le, m', p, c, r⟩ := resA_good rs H X _ look m h
  rw [← hr] at r
  exact ⟨_, run_results' r, x, _, H', X', PH.sub_trans im le.im, Nat.le_trans hk le.n, fun id hid => (le.σ id (Nat.lt_of_lt_of_le hid hk)).trans (hσ id hid), m', resT_pure p, c⟩

/-- What a function hands back, some of it out of cells. -/
theorem afinC {G : Go} {S : St} (rs : List (Nat × Option TypeId)) (hr : G.fn.fn.results.toList = rs.map toRV) (h : resA G.P S.env rs S.H S.nx fun vs H n => G.K (.ret (resT vs)) H n) (hD : G.fn.D = none := by rfl) : AFin G S := by
  intro _ hk X hf a w s
  obtain ⟨hn, m, env, sz, df⟩ := s
  rw [hD] at df
  have df : a.defers = [] := df
  show _ ∧ Leaves _ _ _ _ a.defers _ _
  rw [df]
  obtain ⟨v, h1, h2⟩ := fin_core (K := G.K) (k := G.k) (X0 := X) hr (PH.sub_refl _) (by rw [hn]; exact hk) (fun _ _ => rfl) (look_of env) m (Ext.refl w) (by rw [hn]; exact h)
  exact ⟨fun _ => rfl, v, h1, h2⟩

/-- The call is put off. -/
theorem arun_defer {P : Program} {fn : Func} {N k : Nat} {K : Res → Hp → Nat → Prop} {dst : Option Nat} {x : Operand} {cargs : Array Operand} {ats : Array TypeId} {t : ST} {ks : List SI} {env : List (Nat × AV)} {H : Hp} {n : Nat} {f : FuncId} {first caps : List AV}
    (hx : aeval env x = .fn (.func f) first caps) (h : ARun ⟨P, ⟨fn, true, some (.fn (.func f) (first ++ cargs.toList.map (aeval env)) caps)⟩, N, k, K⟩ (.ops t ks ⟨eput env dst .top, H, n⟩)) :
    ARun ⟨P, ⟨fn, true, none⟩, N, k, K⟩ (.ops (.one ⟨dst, .defer ⟨.value x, cargs, ats⟩, none⟩ t) ks ⟨env, H, n⟩) := by
  intro hm hk X hf a w s ops ti kk hs hck
  obtain ⟨i, ti', oo, rfl, hoi, e1, e2, hdN, hwant, hst⟩ := hs
  have s0 : Sat N none ⟨env, H, n⟩ X hf a w := s
  have hXn : X.n = n := s0.n
  have hdf : a.defers = [] := s0.defers
  have px := aeval_pure s0 x
  dsimp only at px
  rw [hx] at px
  simp only [pureR] at px
  obtain ⟨ys, zs, hfv, p1, p2⟩ := px
  have pa : pureL X (cargs.toList.map (aeval env)) (cargs.toList.map a.eval) := pureL_of s0 cargs.toList
  have hcl : cls P oo.op = .E := by rw [e2]; rfl
  show wpOpH P ops _ i _ a w
  unfold wpOpH
  simp only [hoi, hwant, if_true]
  refine ⟨by unfold Hit; simp only [hcl], ?_⟩
  have hrun : (execOp a.eval oo).run P w = .ok (.defer { target := .fn (.func f) zs, args := ys ++ cargs.map a.eval }) w := by
    unfold execOp; rw [e2]
    simp only [resolve, hfv, Deferred.ofValue]
    simp
  unfold Oper.wp
  rw [hrun]
  simp only [Oper.upon]
  rw [e1]
  refine h hm hk X hf _ w ⟨hXn, s0.mem, envR_put (a := { a with defers := _ :: a.defers }) s0.env trivial (fun t ht => by show t < a.tmps.size; rw [s0.size]; exact hdN t ht), ?_, ?_⟩ ops ti' kk (mt_of_strip hst) hck
  · rw [put_size]; exact s0.size
  · rw [put_defers']
    show DOK _ X (_ :: a.defers)
    rw [hdf]
    exact ⟨f, _, caps, _, zs, rfl, rfl, by simpa using pureL_append _ _ _ _ p1 pa, p2⟩
end Go.AM
