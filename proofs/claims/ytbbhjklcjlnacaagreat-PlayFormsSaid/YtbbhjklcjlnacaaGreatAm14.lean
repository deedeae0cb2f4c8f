/-
  A walk is sound. No condition beyond what each theorem states.
-/
import Derived.Test.YtbbhjklcjlnacaaGreatAm13
/-! A walk is sound. -/
namespace Go.AM

def resG (tmps : Array Value) : ResultVar → Sem Value
  | .tmp t => pure (tmps.getD t undef)
  | .cell a t => do loadVar t (← asAddr (tmps.getD a undef))
theorem results_eq (fn : Func) (tmps : Array Value) : results fn tmps = (do
    let vs ← fn.results.mapM (resG tmps)
    pure (if h : vs.size = 1 then vs[0] else .tuple vs)) := rfl
theorem results_congr {fn : Func} {t1 t2 : Array Value} (h : ∀ r ∈ fn.results.toList, resG t1 r = resG t2 r) : results fn t1 = results fn t2 := by
  have key : ∀ (rs : List ResultVar) (acc : Array Value), (∀ r ∈ rs, resG t1 r = resG t2 r) → List.foldlM (fun (b : Array Value) (a : ResultVar) => (b.push <$> resG t1 a : Sem (Array Value))) acc rs = List.foldlM (fun (b : Array Value) (a : ResultVar) => (b.push <$> resG t2 a : Sem (Array Value))) acc rs := by
    intro rs
    induction rs with
    | nil => intro acc _; rfl
    | cons r rs ih =>
      intro acc h
      rw [List.foldlM_cons, List.foldlM_cons, h r List.mem_cons_self]
      congr 1; funext acc'
      exact ih acc' fun r hr => h r (List.mem_cons_of_mem _ hr)
  rw [results_eq, results_eq, Array.mapM_eq_foldlM, Array.mapM_eq_foldlM, ← Array.foldlM_toList, ← Array.foldlM_toList, key _ _ h]

theorem Leaves.tmps {P : Program} {fn : Func} {t1 t2 : Array Value} {R : Ending → World → Prop} (h : results fn t1 = results fn t2) : ∀ (ds : List Deferred) (u : FrameMode) (w : World), Leaves P fn t1 R ds u w → Leaves P fn t2 R ds u w
  | [], .returning, w, ⟨v, h1, h2⟩ => ⟨v, by rw [← h]; exact h1, h2⟩
  | [], .panicking _, w, h => h
  | [], .run, _, h => h.elim
  | d :: ds, u, w, ⟨h1, fv, cap, f, args, h2, h3, h4⟩ => ⟨h1, fv, cap, f, args, h2, h3, h4.mono fun e u' w' he => by
      cases e with
      | returned v => exact Leaves.tmps h ds _ w' he
      | panicked c => exact Leaves.tmps h ds _ w' he
      | outgrown => exact he⟩

theorem results_put {fn : Func} {a : Act} {d : Option Tmp} {v : Value} {ds : List Nat} (h : okR fn ds = true) (hd : ∀ t, d = some t → t ∈ ds) : results fn (a.put d v).tmps = results fn a.tmps := by
  cases d with
  | none => rfl
  | some t =>
    refine results_congr fun r hr => ?_
    have h1 := List.all_eq_true.1 h r hr
    have h2 := hd t rfl
    have key : ∀ s, (!ds.contains s) = true → ((a.put (some t) v).tmps.getD s undef) = a.tmps.getD s undef := by
      intro s hs
      have hne : t ≠ s := by rintro rfl; simp [h2] at hs
      simp only [Act.put, Array.getD_eq_getD_getElem?]
      rw [Array.getElem?_setIfInBounds_ne hne]
    cases r with
    | tmp s => simp only [resG, key s h1]
    | cell s ty => simp only [resG, key s h1]

theorem finQ_panic {P : Program} {F : Fd} {k : Nat} {K : Res → Hp → Nat → Prop} {X : Cx} {hf : PH} {w0 : World} {ds : List Nat} (ho : okD F ds) (c : List PanicEntry) (a : Act) (d : Option Tmp) (hd : ∀ t, d = some t → t ∈ ds) (v : Value) (w : World) :
    finQ P F k K X hf w0 (.panic c) (a.put d v) w → finQ P F k K X hf w0 (.panic c) a w := by
  rintro ⟨h1, h2⟩
  have e : (a.put d v).defers = a.defers := by cases d <;> rfl
  rw [e] at h1 h2
  refine ⟨h1, ?_⟩
  cases hm : F.dm with
  | false => rw [h1 hm] at h2 ⊢; exact h2
  | true => exact Leaves.tmps (results_put (ho hm) hd) _ _ _ h2

theorem put_size (a : Act) (d : Option Tmp) (v : Value) : (a.put d v).tmps.size = a.tmps.size := by
  cases d <;> simp [Act.put]
theorem put_defers' (a : Act) (d : Option Tmp) (v : Value) : (a.put d v).defers = a.defers := by
  cases d <;> rfl

/-- The continuation of a region. -/
abbrev cont (G : Go) (k : List Item) (X : Cx) (hf : PH) (w : World) : Exit → Act → World → Prop :=
  Exit.then (fun a' w' => RunQ G.P k a' w' (finQ G.P G.fn G.k G.K X hf w)) (finQ G.P G.fn G.k G.K X hf w)

theorem RunQ.weaken {G : Go} {k : List Item} {X X' : Cx} {hf : PH} {w0 w1 : World} {a : Act} {w : World} (le : X.le X') (hk : G.k ≤ X.n) (x : Ext w0 w1)
    (h : RunQ G.P k a w (finQ G.P G.fn G.k G.K X' hf w1)) : RunQ G.P k a w (finQ G.P G.fn G.k G.K X hf w0) :=
  RunQ.mono (fun e a w => finQ.weaken le hk x e a w) h
theorem cont_weaken {G : Go} {k : List Item} {X X' : Cx} {hf : PH} {w0 w1 : World} (le : X.le X') (hk : G.k ≤ X.n) (x : Ext w0 w1) : ∀ e a w, cont G k X' hf w1 e a w → cont G k X hf w0 e a w := by
  intro e a w h
  cases e with
  | normal => exact RunQ.weaken le hk x h
  | exit id => exact finQ.weaken (P := G.P) (F := G.fn) (K := G.K) (hf := hf) le hk x (.exit id) a w h
  | goto id => exact finQ.weaken (P := G.P) (F := G.fn) (K := G.K) (hf := hf) le hk x (.goto id) a w h
  | ret => exact finQ.weaken (P := G.P) (F := G.fn) (K := G.K) (hf := hf) le hk x .ret a w h
  | panic c => exact finQ.weaken (P := G.P) (F := G.fn) (K := G.K) (hf := hf) le hk x (.panic c) a w h
  | outgrown => exact finQ.weaken (P := G.P) (F := G.fn) (K := G.K) (hf := hf) le hk x .outgrown a w h

theorem wpOpH_Q {P : Program} {ops : Array Oper} {Q Q' : Exit → Act → World → Prop} (hQ : ∀ e a w, Q e a w → Q' e a w) {i : Nat} {K K' : Act → World → Prop} (hK : ∀ a w, K a w → K' a w) {a : Act} {w : World}
    (h : wpOpH P ops Q i K a w) : wpOpH P ops Q' i K' a w := by
  unfold wpOpH at *
  split
  · exact hK _ _ (by simpa [*] using h)
  · rename_i o ho
    simp only [ho] at h
    split
    · rename_i hw; simp only [hw, if_true] at h
      refine ⟨h.1, ?_⟩
      have h2 := h.2
      unfold Oper.wp at *
      generalize (execOp a.eval o).run P w = r at *
      cases r with
      | ok n w' =>
        cases n <;> simp only [Oper.upon] at h2 ⊢ <;>
          first
            | exact hK _ _ h2
            | exact Calls.mono h2 (fun e w'' he => by cases e <;> first | exact hK _ _ he | exact hQ _ _ _ he | (obtain ⟨x, y, z⟩ := he; exact ⟨x, y, hQ _ _ _ z⟩))
            | exact Rows.mono h2 (fun _ _ he => hK _ _ he)
      | halt x w' => cases x <;> simp only [Oper.upon] at h2 ⊢ <;> first | exact hQ _ _ _ h2 | exact h2
    · rename_i hw; simp only [hw] at h; exact hK _ _ h
theorem wpCT_mono {P : Program} {ops : Array Oper} {Q Q' : Exit → Act → World → Prop} (hQ : ∀ e a w, Q e a w → Q' e a w) : ∀ (t : CT) (a : Act) (w : World), wpCT P ops Q t a w → wpCT P ops Q' t a w
  | .leaf, a, w, h => hQ _ _ _ h
  | .nil, _, _, _ => trivial
  | .one i t, a, w, h => wpOpH_Q hQ (fun a w => wpCT_mono hQ t a w) h
  | .alt s t, a, w, h => ⟨wpCT_mono hQ s a w h.1, wpCT_mono hQ t a w h.2⟩

theorem strip_one {ops : Array Oper} {n : Nat} {ti : CT} {o : SOp} {t : ST} (h : strip ops n ti = some (.one o t)) :
    ∃ i ti' oo, ti = .one i ti' ∧ ops[i]? = some oo ∧ stripO ops n oo = some o ∧ strip ops n ti' = some t := by
  cases ti with
  | leaf => simp [strip] at h
  | nil => simp [strip] at h
  | one i t' =>
    simp only [strip] at h
    split at h
    · rename_i o' t'' h1 h2
      cases h
      cases hoo : ops[i]? with
      | none => simp [hoo] at h1
      | some oo => simp [hoo] at h1; exact ⟨i, t', oo, rfl, hoo, h1, h2⟩
    · cases h
  | alt s t' => simp only [strip] at h; split at h <;> cases h
theorem strip_leaf {ops : Array Oper} {n : Nat} {ti : CT} (h : strip ops n ti = some .leaf) : ti = .leaf := by
  cases ti with
  | leaf => rfl
  | nil => simp [strip] at h
  | one i t' => simp only [strip] at h; split at h <;> cases h
  | alt s t' => simp only [strip] at h; split at h <;> cases h
theorem strip_nil {ops : Array Oper} {n : Nat} {ti : CT} (h : strip ops n ti = some .nil) : ti = .nil := by
  cases ti with
  | leaf => simp [strip] at h
  | nil => rfl
  | one i t' => simp only [strip] at h; split at h <;> cases h
  | alt s t' => simp only [strip] at h; split at h <;> cases h
theorem strip_alt {ops : Array Oper} {n : Nat} {ti : CT} {s t : ST} (h : strip ops n ti = some (.alt s t)) : ∃ s' t', ti = .alt s' t' ∧ strip ops n s' = some s ∧ strip ops n t' = some t := by
  cases ti with
  | leaf => simp [strip] at h
  | nil => simp [strip] at h
  | one i t' => simp only [strip] at h; split at h <;> cases h
  | alt s' t' =>
    simp only [strip] at h
    split at h
    · rename_i h1 h2; cases h; exact ⟨s', t', rfl, h1, h2⟩
    · cases h

theorem stripO_some {ops : Array Oper} {n : Nat} {oo : Oper} {o : SOp} (h : stripO ops n oo = some o) :
    o.dst = oo.dst ∧ o.op = oo.op ∧ (∀ d, oo.dst = some d → d < n) ∧ ((oo.guard = none ∧ o.gd = none) ∨ ∃ j b d, oo.guard = some (j, b) ∧ (ops[j]?).bind (·.dst) = some d ∧ o.gd = some (d, b)) := by
  unfold stripO at h
  split at h
  · rename_i h1 h2
    cases h
    refine ⟨rfl, rfl, ?_, Or.inl ⟨h2, rfl⟩⟩
    intro d hd; rw [hd] at h1; simpa using h1
  · rename_i j b h1 h2
    split at h
    · rename_i d hd
      cases h
      refine ⟨rfl, rfl, ?_, Or.inr ⟨j, b, d, h2, hd, rfl⟩⟩
      intro d' hd'; rw [hd'] at h1; simpa using h1
    · cases h
  · cases h

theorem Sat.next {N : Nat} {D : Option AV} {S : St} {X X' : Cx} {hf : PH} {a : Act} {w w' : World} (s : Sat N D S X hf a w) {dst : Option Nat} (hd : ∀ d, dst = some d → d < N) (le : X.le X') {v : AV} {H' : Hp} {n' : Nat} {x : Value} (hn : X'.n = n') (m : Mem X' hf H' w') (p : pureR X' v x) :
    Sat N D ⟨eput S.env dst v, H', n'⟩ X' hf (a.put dst x) w' :=
  ⟨hn, m, envR_put (envR_mono le s.env) p (fun t ht => by rw [s.size]; exact hd t ht), by rw [put_size]; exact s.size, by rw [put_defers']; exact s.defers.mono le⟩

theorem mt_of_strip {ops : Array Oper} {n : Nat} {a : Act} {ti : CT} {t : ST} (h : strip ops n ti = some t) : Mt ops n a ti t := by
  unfold Mt
  split
  · rename_i dst op t0
    obtain ⟨i, ti', oo, rfl, hoi, hso, hst⟩ := strip_one h
    obtain ⟨e1, e2, e3, e4⟩ := stripO_some hso
    refine ⟨i, ti', oo, rfl, hoi, e1.symm, e2.symm, fun d hd => e3 d (by rw [← e1]; exact hd), ?_, hst⟩
    rcases e4 with ⟨hg, _⟩ | ⟨_, _, _, _, _, hg⟩
    · simp [Region.wanted, hg]
    · cases hg
  · exact h

/-- A run amid a region's operations goes over one of them. -/
theorem arun_op {G : Go} {dst : Option Nat} {op : Op} {t : ST} {ks : List SI} {S : St}
    (h : exAR (aop G.P op S.env S.H S.nx) fun v H' n' => ARun G (.ops t ks ⟨eput S.env dst v, H', n'⟩)) :
    ARun G (.ops (.one ⟨dst, op, none⟩ t) ks S) := by
  intro hm hk X hf a w s ops ti k hs hck
  obtain ⟨i, ti', oo, rfl, hoi, e1, e2, hdN, hwant, hst⟩ := hs
  have s' : Sat G.n G.fn.D S X hf a w := s
  have hk' : G.k ≤ S.nx := hk
  have good : OpG G.P oo a X hf w (aop G.P op S.env S.H S.nx) := by
    have := aop_good (P := G.P) s' oo
    rw [e2, s'.n] at this; exact this
  show wpOpH G.P ops _ i _ a w
  unfold wpOpH
  simp only [hoi, hwant, if_true]
  have hkX : G.k ≤ X.n := by rw [s'.n]; exact hk
  have fin : ∀ (v : AV) (H' : Hp) (n' : Nat) (x : Value) (w' : World) (X' : Cx), ARun G (.ops t ks ⟨eput S.env dst v, H', n'⟩) → Ext w w' → X.le X' → X'.n = n' → Mem X' hf H' w' → pureR X' v x →
      wpCT G.P ops (cont G k X hf w) ti' (a.put oo.dst x) w' := by
    intro v H' n' x w' X' hr g3 g4 g5 g6 g7
    rw [e1]
    have hn' : G.k ≤ n' := by rw [← g5]; exact Nat.le_trans hkX g4.n
    exact wpCT_mono (cont_weaken g4 hkX g3) ti' _ w' (hr hm hn' X' hf (a.put dst x) w' (Sat.next s' hdN g4 g5 g6 g7) ops ti' k (mt_of_strip hst) hck)
  cases hr : aop G.P op S.env S.H S.nx with
  | ok v H' n' =>
    rw [hr] at good h
    obtain ⟨hit, x, w', X', g1, g3, g4, g5, g6, g7⟩ := good
    refine ⟨hit, ?_⟩
    have f := fin v H' n' x w' X' h g3 g4 g5 g6 g7
    rcases g1 with g1 | ⟨g1, rfl⟩
    · simp only [Oper.wp, g1, Oper.upon]; exact f
    · simp only [Oper.wp, g1, Oper.upon]; exact f
  | anyb H' n' =>
    rw [hr] at good h
    obtain ⟨hit, b, w', X', g1, g3, g4, g5, g6⟩ := good
    refine ⟨hit, ?_⟩
    simp only [Oper.wp, g1, Oper.upon]
    exact fin (.bool b) H' n' (.bool b) w' X' (h b) g3 g4 g5 g6 (by simp [pureR])
  | fail => rw [hr] at h; exact h.elim

theorem arun_guard {G : Go} {dst : Option Nat} {op : Op} {d : Nat} {want : Bool} {t : ST} {ks : List SI} {S : St}
    (h : exG (alook S.env d) want (ARun G (.ops (.one ⟨dst, op, none⟩ t) ks S)) (ARun G (.ops t ks ⟨eput S.env dst (.tup []), S.H, S.nx⟩))) :
    ARun G (.ops (.one ⟨dst, op, some (d, want)⟩ t) ks S) := by
  intro hm hk X hf a w s ops ti k hs hck
  have s' : Sat G.n G.fn.D S X hf a w := s
  obtain ⟨i, ti', oo, rfl, hoi, hso, hst⟩ := strip_one hs
  obtain ⟨e1, e2, e3, e4⟩ := stripO_some hso
  dsimp only at e1 e2 e4
  obtain ⟨j, b, d', hg, hj, hgd⟩ : ∃ j b d', oo.guard = some (j, b) ∧ (ops[j]?).bind (·.dst) = some d' ∧ some (d, want) = some (d', b) := by
    rcases e4 with ⟨_, h⟩ | h; cases h; exact h
  cases hgd
  have hdN : ∀ d, dst = some d → d < G.n := fun d hd => e3 d (by rw [← e1]; exact hd)
  have run : (Region.wanted oo (yielded ops a.tmps) = true) → ARun G (.ops (.one ⟨dst, op, none⟩ t) ks S) → wpCT G.P ops (cont G k X hf w) (.one i ti') a w := fun hwant hr =>
    hr hm hk X hf a w s ops (.one i ti') k ⟨i, ti', oo, rfl, hoi, e1.symm, e2.symm, hdN, hwant, hst⟩ hck
  have skip : (Region.wanted oo (yielded ops a.tmps) = false) → ARun G (.ops t ks ⟨eput S.env dst (.tup []), S.H, S.nx⟩) → wpCT G.P ops (cont G k X hf w) (.one i ti') a w := by
    intro hwant hr
    show wpOpH G.P ops _ i _ a w
    unfold wpOpH
    simp only [hoi, hwant]
    rw [← e1]
    exact hr hm hk X hf (a.put dst undef) w (Sat.next s' hdN (Cx.le_refl X) s'.n s'.mem (by simp [pureR, pureL, undef])) ops ti' k (mt_of_strip hst) hck
  cases hl : alook S.env d with
  | none => rw [hl] at h; exact h.elim
  | some v =>
    rw [hl] at h
    obtain ⟨x, hx, px⟩ := s'.env d v hl
    have hb : ∀ b, x = .bool b → yielded ops a.tmps j = some b := by intro b e; subst e; unfold yielded; rw [hj]; simp [hx]
    have ht : ∀ ys, x = .tuple ys → yielded ops a.tmps j = none := by intro b e; subst e; unfold yielded; rw [hj]; simp [hx]
    unfold exG at h
    split at h
    · rename_i v' b e
      cases e
      simp only [pureR] at px
      have hy := hb b px
      cases want <;> cases b
      · exact run (by simp [Region.wanted, hg, hy]) (by simpa [pick2] using h)
      · exact skip (by simp [Region.wanted, hg, hy]) (by simpa [pick2] using h)
      · exact skip (by simp [Region.wanted, hg, hy]) (by simpa [pick2] using h)
      · exact run (by simp [Region.wanted, hg, hy]) (by simpa [pick2] using h)
    · rename_i e
      cases e
      simp only [pureR, pureL] at px; obtain ⟨ys, e, _⟩ := px
      have hy := ht ys e
      exact skip (by simp [Region.wanted, hg, hy]) h
    · exact h.elim

theorem arun_leaf {G : Go} {ks : List SI} {S : St} (h : ARun G (.code ks S)) : ARun G (.ops .leaf ks S) := by
  intro hm hk X hf a w s ops ti k hs hck
  have := strip_leaf hs
  subst this
  exact h hm hk X hf a w s k hck
theorem arun_nil {G : Go} {ks : List SI} {S : St} : ARun G (.ops .nil ks S) := by
  intro hm hk X hf a w s ops ti k hs hck
  have := strip_nil hs
  subst this
  exact trivial
theorem arun_alt {G : Go} {x y : ST} {ks : List SI} {S : St} (h : ARun G (.ops x ks S)) (h' : ARun G (.ops y ks S)) : ARun G (.ops (.alt x y) ks S) := by
  intro hm hk X hf a w s ops ti k hs hck
  obtain ⟨s', t', rfl, h1, h2⟩ := strip_alt hs
  exact ⟨h hm hk X hf a w s ops s' k (mt_of_strip h1) hck, h' hm hk X hf a w s ops t' k (mt_of_strip h2) hck⟩

theorem compK_cons {P : Program} {n : Nat} {k : List Item} {s : SI} {ks : List SI} (h : CompK P n k (s :: ks)) : ∃ i k', k = i :: k' ∧ CompI P n i s ∧ CompK P n k' ks := by
  cases k with
  | nil => exact h.elim
  | cons i k' => exact ⟨i, k', rfl, h.1, h.2⟩
theorem compI_code {P : Program} {n : Nat} {i : Item} {c : SC} (h : CompI P n i (.code c)) : ∃ c', i = .code c' ∧ comp P n c' = some c := by
  cases i <;> first | exact h.elim | exact ⟨_, rfl, h⟩
theorem compI_block {P : Program} {n : Nat} {i : Item} {id : Nat} (h : CompI P n i (.inBlock id)) : i = .inBlock id := by
  cases i <;> first | exact h.elim | (cases h; rfl)
theorem compI_loop {P : Program} {n : Nat} {i : Item} {c : SC} (h : CompI P n i (.inLoop c)) : ∃ c', i = .inLoop c' ∧ comp P n c' = some c := by
  cases i <;> first | exact h.elim | exact ⟨_, rfl, h⟩

/-- a step of the code alone -/
theorem arun_steps {G : Go} {ks ks' : List SI} {S : St} (hs : ∀ k, CompK G.P G.n k ks → ∃ k', CompK G.P G.n k' ks' ∧ ∀ (b : Frame) cs (a : Act) (w : World), step G.P (lone (b.at a k) cs w) = .next (lone (b.at a k') cs w)) (h : ARun G (.code ks' S)) :
    ARun G (.code ks S) := by
  intro hm hk X hf a w s k hck
  obtain ⟨k', hck', st⟩ := hs k hck
  exact runq_step (fun b cs => st b cs a w) (h hm hk X hf a w s k' hck')

theorem arun_block {G : Go} {id : Nat} {ks : List SI} {S : St} (h : ARun G (.code ks S)) : ARun G (.code (.inBlock id :: ks) S) := by
  refine arun_steps (fun k hck => ?_) h
  obtain ⟨i, k', rfl, h1, h2⟩ := compK_cons hck
  have := compI_block h1; subst this
  exact ⟨k', h2, fun b cs a w => step_inBlock⟩
theorem arun_cskip {G : Go} {ks : List SI} {S : St} (h : ARun G (.code ks S)) : ARun G (.code (.code .skip :: ks) S) := by
  refine arun_steps (fun k hck => ?_) h
  obtain ⟨i, k', rfl, h1, h2⟩ := compK_cons hck
  obtain ⟨c', rfl, h3⟩ := compI_code h1
  refine ⟨k', h2, fun b cs a w => ?_⟩
  cases c' <;> simp only [comp] at h3
  case skip => exact step_skip
  case label l => exact step_label
  all_goals first | (cases h3; done) | (repeat' split at h3) <;> cases h3
theorem arun_cseq {G : Go} {x y : SC} {ks : List SI} {S : St} (h : ARun G (.code (.code x :: .code y :: ks) S)) : ARun G (.code (.code (.seq x y) :: ks) S) := by
  refine arun_steps (fun k hck => ?_) h
  obtain ⟨i, k', rfl, h1, h2⟩ := compK_cons hck
  obtain ⟨c', rfl, h3⟩ := compI_code h1
  cases c' <;> simp only [comp] at h3
  case seq p q =>
    split at h3
    · rename_i e1 e2
      cases h3
      exact ⟨.code p :: .code q :: k', ⟨e1, e2, h2⟩, fun b cs a w => step_seq⟩
    · cases h3
  all_goals first | (cases h3; done) | (repeat' split at h3) <;> cases h3
theorem arun_cblock {G : Go} {id : Nat} {x : SC} {ks : List SI} {S : St} (h : ARun G (.code (.code x :: .inBlock id :: ks) S)) : ARun G (.code (.code (.block id x) :: ks) S) := by
  refine arun_steps (fun k hck => ?_) h
  obtain ⟨i, k', rfl, h1, h2⟩ := compK_cons hck
  obtain ⟨c', rfl, h3⟩ := compI_code h1
  cases c' <;> simp only [comp] at h3
  case block id' p =>
    split at h3
    · rename_i e1
      cases h3
      exact ⟨.code p :: .inBlock _ :: k', ⟨e1, rfl, h2⟩, fun b cs a w => step_block⟩
    · cases h3
  all_goals first | (cases h3; done) | (repeat' split at h3) <;> cases h3
theorem arun_cloop {G : Go} {x : SC} {ks : List SI} {S : St} (h : ARun G (.code (.code x :: .inLoop x :: ks) S)) : ARun G (.code (.code (.loop x) :: ks) S) := by
  refine arun_steps (fun k hck => ?_) h
  obtain ⟨i, k', rfl, h1, h2⟩ := compK_cons hck
  obtain ⟨c', rfl, h3⟩ := compI_code h1
  cases c' <;> simp only [comp] at h3
  case loop p =>
    split at h3
    · rename_i e1
      cases h3
      exact ⟨.code p :: .inLoop p :: k', ⟨e1, e1, h2⟩, fun b cs a w => step_loop⟩
    · cases h3
  all_goals first | (cases h3; done) | (repeat' split at h3) <;> cases h3
/-- one round of a loop -/
theorem arun_round {G : Go} {x : SC} {ks : List SI} {S : St} (h : ARun G (.code (.code x :: .inLoop x :: ks) S)) : ARun G (.code (.inLoop x :: ks) S) := by
  refine arun_steps (fun k hck => ?_) h
  obtain ⟨i, k', rfl, h1, h2⟩ := compK_cons hck
  obtain ⟨c', rfl, h3⟩ := compI_loop h1
  exact ⟨.code c' :: .inLoop c' :: k', ⟨h3, h3, h2⟩, fun b cs a w => step_inLoop⟩
theorem exit_of {P : Program} {n : Nat} {id : Nat} : ∀ (ks ks' : List SI) (k : List Item), exitSI id ks = some ks' → CompK P n k ks → ∃ k', exitTo id k = some k' ∧ CompK P n k' ks'
  | [], _, _, h, _ => by simp [exitSI] at h
  | s :: ks, ks', k, h, hck => by
    obtain ⟨i, k', rfl, h1, h2⟩ := compK_cons hck
    cases s with
    | inBlock j =>
      have := compI_block h1; subst this
      simp only [exitSI] at h
      split at h
      · rename_i e; cases h; subst e; exact ⟨k', by simp [exitTo], h2⟩
      · rename_i e
        obtain ⟨k2, e1, e2⟩ := exit_of ks ks' k' h h2
        exact ⟨k2, by simp [exitTo, e, e1], e2⟩
    | code c =>
      obtain ⟨c', rfl, _⟩ := compI_code h1
      simp only [exitSI] at h
      obtain ⟨k2, e1, e2⟩ := exit_of ks ks' k' h h2
      exact ⟨k2, by simp [exitTo, e1], e2⟩
    | inLoop c =>
      obtain ⟨c', rfl, _⟩ := compI_loop h1
      simp only [exitSI] at h
      obtain ⟨k2, e1, e2⟩ := exit_of ks ks' k' h h2
      exact ⟨k2, by simp [exitTo, e1], e2⟩
theorem arun_exit {G : Go} {id : Nat} {ks ks' : List SI} {S : St} (he : exitSI id ks = some ks') (h : ARun G (.code ks' S)) : ARun G (.code (.code (.exit id) :: ks) S) := by
  refine arun_steps (fun k hck => ?_) h
  obtain ⟨i, k', rfl, h1, h2⟩ := compK_cons hck
  obtain ⟨c', rfl, h3⟩ := compI_code h1
  cases c' <;> simp only [comp] at h3
  case exit id' =>
    cases h3
    obtain ⟨k2, e1, e2⟩ := exit_of ks ks' k' he h2
    exact ⟨k2, e2, fun b cs a w => step_exit (by simp [exitTo, e1])⟩
  all_goals first | (cases h3; done) | (repeat' split at h3) <;> cases h3
theorem arun_cond {G : Go} {c : Operand} {x y : SC} {ks : List SI} {S : St} (h : exC (aeval S.env c) (ARun G (.code (.code x :: ks) S)) (ARun G (.code (.code y :: ks) S))) : ARun G (.code (.code (.cond c x y) :: ks) S) := by
  intro hm hk X hf a w s k hck
  have s' : Sat G.n G.fn.D S X hf a w := s
  have ev := aeval_pure s' c
  obtain ⟨i, k', rfl, h1, h2⟩ := compK_cons hck
  obtain ⟨c', rfl, h3⟩ := compI_code h1
  cases c' <;> simp only [comp] at h3
  case cond c2 p q =>
    split at h3
    · rename_i e1 e2
      cases h3
      unfold exC at h
      split at h
      · rename_i b e
        rw [e] at ev; simp only [pureR] at ev
        cases b
        · exact runq_step (fun b cs => step_cond ev) (h hm hk X hf a w s _ ⟨e2, h2⟩)
        · exact runq_step (fun b cs => step_cond ev) (h hm hk X hf a w s _ ⟨e1, h2⟩)
      · exact h.elim
    · cases h3
  all_goals first | (cases h3; done) | (repeat' split at h3) <;> cases h3
theorem arun_ret {G : Go} {ks : List SI} {S : St} (h : AFin G S) : ARun G (.code (.code .ret :: ks) S) := by
  intro hm hk X hf a w s k hck
  obtain ⟨i, k', rfl, h1, h2⟩ := compK_cons hck
  obtain ⟨c', rfl, h3⟩ := compI_code h1
  cases c' <;> simp only [comp] at h3
  case ret => exact fun b cs => ⟨.ret, a, w, h hm hk X hf a w s, _, .one step_ret⟩
  all_goals first | (cases h3; done) | (repeat' split at h3) <;> cases h3
theorem arun_end {G : Go} {S : St} (h : AFin G S) : ARun G (.code [] S) := by
  intro hm hk X hf a w s k hck
  cases k with
  | nil => exact fun b cs => ⟨.ret, a, w, h hm hk X hf a w s, [], .one step_end⟩
  | cons i k => exact hck.elim
theorem sat_drawn {N : Nat} {D : Option AV} {S : St} {X : Cx} {hf : PH} {a : Act} {w : World} (n : Nat) (s : Sat N D S X hf a w) : Sat N D S X hf a { w with drawn := n } := ⟨s.n, s.mem, s.env, s.size, s.defers⟩

theorem wpOps_of_H {P : Program} {ops : Array Oper} {Q : Exit → Act → World → Prop} : ∀ (m i : Nat) (a : Act) (w : World), wpCT P ops Q (lineT i m) a w → wpOps P ops Q (List.range' i m) a w
  | 0, i, a, w, h => by simpa [wpOps, lineT, wpCT] using h
  | m + 1, i, a, w, h => by
    rw [List.range'_succ, wpOps_cons]
    exact wpOp_mono (fun a w => wpOps_of_H m (i + 1) a w) (wpOp_of_H h)

theorem dsts_mem {P : Program} {ops : Array Oper} (h : ∃ (j : Nat) (oj : Oper), ops[j]? = some oj ∧ cls P oj.op = .E) {i : Nat} {oi : Oper} (hi : ops[i]? = some oi) : ∀ t, oi.dst = some t → t ∈ dsts P ops true := by
  intro t ht
  obtain ⟨j, oj, hj, he⟩ := h
  unfold dsts
  rw [if_pos rfl, if_neg]
  · rw [List.mem_filterMap]
    exact ⟨oi, by rw [Array.mem_toList_iff]; exact Array.mem_of_getElem? hi, ht⟩
  · intro hall
    have := List.all_eq_true.1 hall oj (by rw [Array.mem_toList_iff]; exact Array.mem_of_getElem? hj)
    simp [he] at this
theorem arun_region {G : Go} {ds : List Nat} {t : ST} {ks : List SI} {S : St} (hod : okD G.fn ds) (h : ARun G (.ops t ks S)) : ARun G (.code (.code (.region ds t) :: ks) S) := by
  intro hm hk X hf a w s k hck
  obtain ⟨i, k', rfl, h1, h2⟩ := compK_cons hck
  obtain ⟨c', rfl, h3⟩ := compI_code h1
  cases c' <;> simp only [comp] at h3
  case region id ops draw =>
    split at h3
    · rename_i ti hti
      split at h3
      · rename_i t' ht'
        cases h3
        cases draw with
        | false =>
          simp [treeOf] at hti; subst hti
          have := h hm hk X hf a w s ops _ k' (mt_of_strip ht') h2
          have h4 := runq_ops (wpOps_of_H ops.size 0 a w this)
          rw [← List.range_eq_range'] at h4
          exact runq_step (fun b cs => step_region) h4
        | true =>
          simp [treeOf] at hti
          obtain ⟨hns, hti⟩ := hti
          intro b cs
          have hx : Ext w { w with drawn := w.drawn + 1 } := ⟨rfl, rfl, rfl, Nat.le_refl _⟩
          have h5 := h hm hk X hf a { w with drawn := w.drawn + 1 } (sat_drawn _ s) ops ti k' (mt_of_strip ht') h2
          have h5 := wpCT_mono (cont_weaken (Cx.le_refl X) (by rw [s.n]; exact hk) hx) ti a _ h5
          have h6 := canonF_sound (Q := cont G k' X hf w) (fun j o cs b ho => Region.noSelect_spec hns j o cs b ho) (fun hE i oi hi c a v w => finQ_panic (P := G.P) (F := G.fn) hod c a oi.dst (dsts_mem hE hi) v w) ops.size (Array.replicate ops.size false) ti a _ hti (by
            intro k o hk hl; simp [Array.getD] at hl) (by simp) h5
          have h7 := wpAny_of_H _ _ _ _ h6
          have h8 := runq_ops (wpAny_sound ops.size (w.tape w.drawn (.order b.fn id)) _ a _ h7)
          obtain ⟨e, a', w', q, r⟩ := h8 b cs
          refine ⟨e, a', w', q, .of_steps (.one ?_) r⟩
          rw [step_region_draw]
          simp only [Region.schedule, hm, Bool.true_or, if_true]
          rfl
      · cases h3
    · cases h3
  all_goals first | (cases h3; done) | (repeat' split at h3) <;> cases h3

theorem exR_spec {F : Fd} {ds : List Nat} {p : Prop} (h : exR F ds p) : okD F ds ∧ p := by
  unfold exR at h
  split at h
  · rename_i hm; exact ⟨fun h' => (by rw [hm] at h'; cases h'), h⟩
  · refine ⟨fun _ => ?_, h⟩
    unfold okR
    rw [List.all_eq_true]
    intro r hr
    cases r <;> rfl
  · exact ⟨fun _ => h.1, h.2⟩
/-- A walk is sound. -/
theorem ex_sound (G : Go) : ∀ (m : Nat) (c : Cfg), ex G m c → ARun G c
  | 0, _, h => h
  | m + 1, .ops .leaf ks S, h => arun_leaf (ex_sound G m _ (by simpa only [ex] using h))
  | m + 1, .ops .nil ks S, h => arun_nil
  | m + 1, .ops (.alt s t) ks S, h => by
    simp only [ex] at h
    exact arun_alt (ex_sound G m _ h.1) (ex_sound G m _ h.2)
  | m + 1, .ops (.one ⟨dst, op, some (d, want)⟩ t) ks ⟨env, H, n⟩, h => by
    simp only [ex] at h
    refine arun_guard ?_
    unfold exG at h ⊢
    split at h
    · rename_i b e
      rw [e]
      cases want <;> cases b <;> simp only [pick2, if_true, if_false, Bool.false_eq_true] at h ⊢ <;> exact ex_sound G m _ h
    · rename_i e; rw [e]; exact ex_sound G m _ h
    · exact h.elim
  | m + 1, .ops (.one ⟨dst, op, none⟩ t) ks ⟨env, H, n⟩, h => by
    simp only [ex] at h
    split at h
    · exact h
    · refine arun_op ?_
      cases hr : aop G.P op env H n with
      | ok v H' n' => rw [hr] at h; exact ex_sound G m _ h
      | anyb H' n' => rw [hr] at h; exact fun b => ex_sound G m _ (h b)
      | fail => rw [hr] at h; exact h.elim
  | m + 1, .code [] S, h => arun_end (by simpa only [ex] using h)
  | m + 1, .code (.inBlock _ :: ks) S, h => arun_block (ex_sound G m _ (by simpa only [ex] using h))
  | m + 1, .code (.inLoop c :: ks) S, h => arun_round (by simpa only [ex] using h)
  | m + 1, .code (.code c :: ks) ⟨env, H, n⟩, h => by
    cases c with
    | skip => exact arun_cskip (ex_sound G m _ (by simpa only [ex] using h))
    | ret => exact arun_ret (by simpa only [ex] using h)
    | region ds t =>
      simp only [ex] at h
      exact arun_region (exR_spec h).1 (ex_sound G m _ (exR_spec h).2)
    | seq a b => exact arun_cseq (ex_sound G m _ (by simpa only [ex] using h))
    | cond c a b =>
      simp only [ex] at h
      refine arun_cond ?_
      unfold exC at h ⊢
      split at h
      · rename_i b' e
        dsimp only
        rw [e]
        cases b' <;> exact ex_sound G m _ h
      · exact h.elim
    | block id a => exact arun_cblock (ex_sound G m _ (by simpa only [ex] using h))
    | loop a => exact arun_cloop (by simpa only [ex] using h)
    | exit id =>
      simp only [ex] at h
      split at h
      · rename_i ks' e; exact arun_exit e (ex_sound G m _ h)
      · exact h.elim
end Go.AM
