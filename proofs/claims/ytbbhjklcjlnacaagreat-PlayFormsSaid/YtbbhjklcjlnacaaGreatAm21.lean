/-
  The runner is sound. No condition beyond what each theorem states.
-/
import Derived.Test.YtbbhjklcjlnacaaGreatAm19
/-! The runner is sound. -/
namespace Go.AM
variable {P : Program} {tab : Nat → Option Fi} {cst : Nat → List AV → Hp → Option (AV × Hp × Nat)}

/-- A function that leaves the numbered objects as they are. -/
def CalP (P : Program) (f : FuncId) (as : List AV) (H : Hp) (r : AV) (H' : Hp) (dn : Nat) : Prop :=
  P.follows .mixedOrders = true → ∀ X hf w (vals : Array Value), Mem X hf H w → pureL X as vals.toList → Calls P f vals w fun e w' => ∃ v X', e = .returned v ∧ Ext w w' ∧ X.le X' ∧ X'.n = X.n + dn ∧ Mem X' hf H' w' ∧ pureR X' r v

theorem arun_quiet {G : Go} {dst : Option Nat} {x : Operand} {cargs : Array Operand} {ats : Array TypeId} {t : ST} {ks : List SI} {env : List (Nat × AV)} {H : Hp} {n : Nat} {f : FuncId} {first caps : List AV} 
    {r : AV} {H' : Hp} {dn : Nat} (hx : aeval env x = .fn (.func f) first caps) (hcall : ∀ xs w, (callFunc f xs).run G.P w = .ok (.enter f xs) w)
    (hc : CalP G.P f (first ++ cargs.toList.map (aeval env) ++ caps) H r H' dn) (h : ARun G (.ops t ks ⟨eput env dst r, H', n + dn⟩)) :
    ARun G (.ops (.one ⟨dst, .call ⟨.value x, cargs, ats⟩, none⟩ t) ks ⟨env, H, n⟩) := by
  intro hm hk X hf0 a w s ops ti k hs hck
  obtain ⟨i, ti', oo, rfl, hoi, e1, e2, hdN, hwant, hst⟩ := hs
  have s0 : Sat G.n G.fn.D ⟨env, H, n⟩ X hf0 a w := s
  obtain ⟨hXn, m, henv, hsz, hdf⟩ := s
  have hXn : X.n = n := hXn
  have hk : G.k ≤ n := hk
  have hkX : G.k ≤ X.n := by rw [hXn]; exact hk
  have px := aeval_pure s0 x
  dsimp only at px
  rw [hx] at px
  simp only [pureR] at px
  obtain ⟨ys, zs, hfv, p1, p2⟩ := px
  have pa : pureL X (cargs.toList.map (aeval env)) (cargs.toList.map a.eval) := pureL_of s0 cargs.toList
  have pall : pureL X (first ++ cargs.toList.map (aeval env) ++ caps) (ys ++ cargs.map a.eval ++ zs).toList := by
    have := pureL_append _ _ _ _ (pureL_append _ _ _ _ p1 pa) p2
    simpa using this
  have hcl : cls G.P oo.op = .E := by rw [e2]; rfl
  show wpOpH G.P ops _ i _ a w
  unfold wpOpH
  simp only [hoi, hwant, if_true]
  refine ⟨by unfold Hit; simp only [hcl], ?_⟩
  have hrun : (execOp a.eval oo).run G.P w = .ok (.enter f (ys ++ cargs.map a.eval ++ zs)) w := by
    unfold execOp; rw [e2]
    simp only [resolve, hfv, Deferred.ofValue]
    simp [invoke, hcall]
  unfold Oper.wp
  rw [hrun]
  simp only [Oper.upon]
  refine Calls.mono (hc hm X hf0 w _ m pall) ?_
  rintro e w' ⟨v, X', rfl, xt, le, hn', m', p'⟩
  have res := h hm (by show G.k ≤ n + dn; omega) X' hf0 (a.put dst v) w' (Sat.next s0 hdN le (by rw [hn', hXn]) m' p') ops ti' k (mt_of_strip hst) hck
  rw [e1]
  exact wpCT_mono (cont_weaken le hkX xt) ti' _ w' res

/-- The table tells the functions. -/
def TabOk (P : Program) (tab : Nat → Option Fi) : Prop := ∀ f fi, tab f = some fi → ∃ fn, P.funcs[f]? = some fn ∧ fn.ntmps = fi.nt ∧ fn.body.bind (comp P fi.nt) = some fi.sc ∧ fn.results.toList = fi.rs.map toRV ∧
  (∀ r0 r1 scr, fi.cl = some (r0, r1, scr) → fn.body.bind (compD P fi.nt) = some (r0, r1, scr)) ∧ ∀ xs w, (callFunc f xs).run P w = .ok (.enter f xs) w
def CstOk (P : Program) (cst : Nat → List AV → Hp → Option (AV × Hp × Nat)) : Prop := ∀ f as H r H' dn, cst f as H = some (r, H', dn) → CalP P f as H r H' dn ∧ ∀ xs w, (callFunc f xs).run P w = .ok (.enter f xs) w

theorem resV_A : ∀ (env : List (Nat × AV)) (rs : List (Nat × Option TypeId)) (H : Hp) (n : Nat) (vs : List AV) (H' : Hp) (n' : Nat) (K : List AV → Hp → Nat → Prop), resV P env rs H n = some (vs, H', n') → K vs H' n' → resA P env rs H n K
  | env, [], H, n, vs, H', n', K, h, k => by simp only [resV] at h; cases h; exact k
  | env, (t, none) :: rs, H, n, vs, H', n', K, h, k => by
    simp only [resV] at h
    split at h
    · rename_i vs' H1 n1 e
      cases h
      simp only [resA]
      exact resV_A env rs H n vs' _ _ _ e k
    · cases h
  | env, (t, some ty) :: rs, H, n, vs, H', n', K, h, k => by
    simp only [resV] at h
    simp only [resA]
    split at h
    · rename_i id i off e
      rw [e]
      dsimp only
      split at h
      · rename_i v H1 n1 e1
        rw [e1]
        dsimp only
        split at h
        · rename_i vs' H2 n2 e2
          cases h
          exact resV_A env rs H1 n1 vs' _ _ _ e2 k
        · cases h
      · cases h
    · cases h
theorem outV_A {env : List (Nat × AV)} {rs : List (Nat × Option TypeId)} {H : Hp} {n : Nat} {v : AV} {H' : Hp} {n' : Nat} {K : Res → Hp → Nat → Prop} (h : outV P env rs H n = .ok (v, H', n')) (k : K (.ret v) H' n') :
    resA P env rs H n fun vs H n => K (.ret (resT vs)) H n := by
  simp only [outV] at h
  split at h
  · rename_i vs H1 n1 e
    cases h
    exact resV_A env rs H n vs _ _ _ e k
  · cases h

/-- what a run says -/
def SaysR (P : Program) (dm : Bool) (nt k : Nat) (t : ST) (S : St) (D : Option AV) (rs : List (Nat × Option TypeId)) : RV (St × Option AV) → Prop
  | .ok (S', D') => ∀ (fn : Func) (K : Res → Hp → Nat → Prop) (ks : List SI), fn.results.toList = rs.map toRV → ARun ⟨P, ⟨fn, dm, D'⟩, nt, k, K⟩ (.code ks S') → ARun ⟨P, ⟨fn, dm, D⟩, nt, k, K⟩ (.ops t ks S)
  | .pan v S' D' => ∀ (fn : Func) (K : Res → Hp → Nat → Prop) (ks : List SI), fn.results.toList = rs.map toRV → APan ⟨P, ⟨fn, dm, D'⟩, nt, k, K⟩ v S' → ARun ⟨P, ⟨fn, dm, D⟩, nt, k, K⟩ (.ops t ks S)
  | .bad _ _ => True
def SaysC (P : Program) (dm : Bool) (nt k : Nat) (ks : List SI) (S : St) (D : Option AV) (rs : List (Nat × Option TypeId)) : RV (AV × Hp × Nat) → Prop
  | .ok (v, H, n) => ∀ (fn : Func) (K : Res → Hp → Nat → Prop), fn.results.toList = rs.map toRV → K (.ret v) H n → ARun ⟨P, ⟨fn, dm, D⟩, nt, k, K⟩ (.code ks S)
  | .pan v S' _ => ∀ (fn : Func) (K : Res → Hp → Nat → Prop), fn.results.toList = rs.map toRV → K (.pan v) S'.H S'.nx → ARun ⟨P, ⟨fn, dm, D⟩, nt, k, K⟩ (.code ks S)
  | .bad _ _ => True
theorem saysR_pre {dm : Bool} {nt k : Nat} {t t' : ST} {S S' : St} {D D' : Option AV} {rs : List (Nat × Option TypeId)}
    (h : ∀ (fn : Func) (K : Res → Hp → Nat → Prop) (ks : List SI), ARun ⟨P, ⟨fn, dm, D'⟩, nt, k, K⟩ (.ops t' ks S') → ARun ⟨P, ⟨fn, dm, D⟩, nt, k, K⟩ (.ops t ks S)) :
    ∀ r, SaysR P dm nt k t' S' D' rs r → SaysR P dm nt k t S D rs r
  | .ok _, q => fun fn K ks hr a => h fn K ks (q fn K ks hr a)
  | .pan _ _ _, q => fun fn K ks hr a => h fn K ks (q fn K ks hr a)
  | .bad _ _, _ => trivial
theorem saysC_pre {dm : Bool} {nt k : Nat} {c c' : List SI} {S S' : St} {D D' : Option AV} {rs : List (Nat × Option TypeId)}
    (h : ∀ (fn : Func) (K : Res → Hp → Nat → Prop), fn.results.toList = rs.map toRV → ARun ⟨P, ⟨fn, dm, D'⟩, nt, k, K⟩ (.code c' S') → ARun ⟨P, ⟨fn, dm, D⟩, nt, k, K⟩ (.code c S)) :
    ∀ r, SaysC P dm nt k c' S' D' rs r → SaysC P dm nt k c S D rs r
  | .ok _, q => fun fn K hr a => h fn K hr (q fn K hr a)
  | .pan _ _ _, q => fun fn K hr a => h fn K hr (q fn K hr a)
  | .bad _ _, _ => trivial

def SaysF (P : Program) (tab : Nat → Option Fi) (f : Nat) (args : List AV) (H : Hp) (n : Nat) (Q : (Res → Hp → Nat → Prop) → Prop) : Prop :=
  ∃ fi fn, tab f = some fi ∧ P.funcs[f]? = some fn ∧ fn.ntmps = fi.nt ∧ fn.body.bind (comp P fi.nt) = some fi.sc ∧ (∀ xs w, (callFunc f xs).run P w = .ok (.enter f xs) w) ∧ args.length ≤ fi.nt ∧
    ∀ K : Res → Hp → Nat → Prop, Q K → ARun ⟨P, ⟨fn, fi.dm, none⟩, fi.nt, n, K⟩ (.code [.code fi.sc] ⟨numA 0 args, H, n⟩)
def SaysF' (P : Program) (tab : Nat → Option Fi) (f : Nat) (args : List AV) (H : Hp) (n : Nat) : RV (AV × Hp × Nat) → Prop
  | .ok (v, H', n') => SaysF P tab f args H n fun K => K (.ret v) H' n'
  | .pan v S' _ => SaysF P tab f args H n fun K => K (.pan v) S'.H S'.nx
  | .bad _ _ => True

theorem okR_of {fn : Func} {rs : List (Nat × Option TypeId)} {ds : List Nat} (hr : fn.results.toList = rs.map toRV) (h : okRv rs ds = true) : okR fn ds = true := by
  unfold okR
  rw [hr, List.all_map]
  unfold okRv at h
  rw [List.all_eq_true] at h ⊢
  intro r hx
  have := h r hx
  obtain ⟨t, o⟩ := r
  cases o <;> exact this

theorem says_bad {dm : Bool} {nt k : Nat} {t : ST} {S : St} {D : Option AV} {rs : List (Nat × Option TypeId)} {w a : Nat} : SaysR P dm nt k t S D rs (.bad w a) := trivial

theorem join_sound {dm : Bool} {nt k : Nat} {s t : ST} {S : St} {D : Option AV} {rs : List (Nat × Option TypeId)} {r1 r2 : RV (St × Option AV)}
    (i1 : SaysR P dm nt k s S D rs r1) (i2 : SaysR P dm nt k t S D rs r2) : SaysR P dm nt k (.alt s t) S D rs (joinS k nt D r1 r2) := by
  unfold joinS
  split
  · rename_i S1 S2
    rcases canonK_eq k nt S1 (.bad 10 0) (join2 k nt S2) with h | ⟨L, g1, g2, h⟩
    · rw [h]; exact trivial
    · rw [h]
      unfold join2
      rcases canonK_eq k nt S2 (.bad 10 0) (joinE ⟨rnEnv (posOf L) S1.env (List.range nt), rnH (posOf L) 0 L S1.H, L.length⟩) with h' | ⟨L', g1', g2', h'⟩
      · rw [h']; exact trivial
      · rw [h']
        unfold joinE
        split
        · rename_i heq
          have heq := eqS_eq _ _ heq
          refine fun fn K ks hr a => arun_alt (i1 fn K ks hr (arun_rn L (List.range nt) g1 g2 a)) (i2 fn K ks hr (arun_rn L' (List.range nt) g1' g2' ?_))
          rw [← heq]; exact a
        · exact trivial
  · exact trivial
  · exact trivial
  · exact trivial

/-- an operation, whatever comes behind it: 'K' and 'F' say what is said of them -/
theorem rOp_sound (hc : CstOk P cst) {dm : Bool} {nt k : Nat} {rs : List (Nat × Option TypeId)} {t : ST} {K : St → Option AV → RV (St × Option AV)} {F : Nat → List AV → Hp → Nat → RV (AV × Hp × Nat)}
    (hK : ∀ S D, SaysR P dm nt k t S D rs (K S D)) (hF : ∀ f as H n, SaysF' P tab f as H n (F f as H n)) (dst : Option Nat) (op : Op) (env : List (Nat × AV)) (H : Hp) (n : Nat) (D : Option AV) :
    SaysR P dm nt k (.one ⟨dst, op, none⟩ t) ⟨env, H, n⟩ D rs (rOp P tab cst dm op dst ⟨env, H, n⟩ D K F) := by
  unfold rOp
  split
  · rename_i x args ats
    dsimp only
    split
    · rename_i f first caps hx
      simp only [fL_eq]
      unfold rCall
      split
      · rename_i v H' dn hcs
        obtain ⟨h1, h2⟩ := hc _ _ _ _ _ _ hcs
        simp only [fSp_eq]
        exact saysR_pre (fun fn K ks a => arun_quiet hx h2 h1 a) _ (hK _ D)
      · split
        · have ihf := hF f (first ++ args.toList.map (aeval env) ++ caps) H n
          generalize F f (first ++ args.toList.map (aeval env) ++ caps) H n = r at *
          cases r with
          | ok r =>
            obtain ⟨v, H', n'⟩ := r
            obtain ⟨fi, fn', hfi, h1, h2, h3, h5, hl, hr⟩ := ihf
            exact saysR_pre (fun fn K ks a => arun_inline hx h1 h2 h3 h5 hl (hr _ a)) _ (hK _ D)
          | pan v S' D' =>
            obtain ⟨fi, fn', hfi, h1, h2, h3, h5, hl, hr⟩ := ihf
            exact fun fn K ks hrr a => arun_inline hx h1 h2 h3 h5 hl (hr _ a)
          | bad w a => exact trivial
        · generalize hLK : (fun L : List Nat => _) = LK
          obtain ⟨L, hL⟩ := reachK_eq H 100000 (idsL (first ++ args.toList.map (aeval env) ++ caps) []) [] LK
          rw [hL, ← hLK]
          dsimp only
          split
          · rename_i hlt
            have hlt := allLt_eq _ _ hlt
            simp only [fL_eq, fH_eq]
            have ihf := hF f (rnL (posOf L) (first ++ args.toList.map (aeval env) ++ caps)) (rnHm (posOf L) L H) L.length
            generalize F f (rnL (posOf L) (first ++ args.toList.map (aeval env) ++ caps)) (rnHm (posOf L) L H) L.length = r at *
            unfold rBack
            cases r with
            | ok r =>
              obtain ⟨v, H', n'⟩ := r
              obtain ⟨fi, fn', hfi, h1, h2, h3, h5, hl, hr⟩ := ihf
              rw [rnL_len] at hl
              dsimp only
              generalize hMK : (fun keep : List Nat => _) = MK
              obtain ⟨keep, hM⟩ := reachK_eq H' 100000 (idsV v (List.range L.length)) [] MK
              rw [hM, ← hMK]
              simp only [fV_eq, fH_eq, fSp_eq]
              exact saysR_pre (fun fn K ks a => arun_closed L hx h1 h2 h3 h5 hl hlt (hr _ ⟨keep, a⟩)) _ (hK _ D)
            | pan v S' D' =>
              obtain ⟨fi, fn', hfi, h1, h2, h3, h5, hl, hr⟩ := ihf
              rw [rnL_len] at hl
              dsimp only
              generalize hMK : (fun keep : List Nat => _) = MK
              obtain ⟨keep, hM⟩ := reachK_eq S'.H 100000 (idsV v (List.range L.length)) [] MK
              rw [hM, ← hMK]
              simp only [fV_eq, fH_eq, fSp_eq]
              exact fun fn K ks hrr a => arun_closed L hx h1 h2 h3 h5 hl hlt (hr _ ⟨keep, a⟩)
            | bad w a => exact trivial
          · exact trivial
    · exact trivial
  · rename_i x args ats
    dsimp only
    split
    · rename_i f first caps hx
      exact saysR_pre (fun fn K ks a => arun_defer hx a) _ (hK _ _)
    · exact trivial
  · rename_i x
    dsimp only
    split
    · rename_i ty v hx
      exact fun fn K ks hr a => arun_panic hx a
    · exact trivial
  · unfold rElse
    simp only [aopG_eq]
    split
    · rename_i v H' n' ha
      simp only [fV_eq, fHn_eq]
      refine saysR_pre (fun fn K ks a => arun_op ?_) _ (hK _ D)
      dsimp only at ha ⊢
      rw [ha]
      exact a
    · exact trivial
    · exact trivial

theorem rOne_sound (hc : CstOk P cst) {dm : Bool} {nt k : Nat} {rs : List (Nat × Option TypeId)} {t : ST} {K : St → Option AV → RV (St × Option AV)} {F : Nat → List AV → Hp → Nat → RV (AV × Hp × Nat)}
    (hK : ∀ S D, SaysR P dm nt k t S D rs (K S D)) (hF : ∀ f as H n, SaysF' P tab f as H n (F f as H n)) (o : SOp) (S : St) (D : Option AV) :
    SaysR P dm nt k (.one o t) S D rs (rOne P tab cst dm o S D K F) := by
  obtain ⟨dst, op, gd⟩ := o
  obtain ⟨env, H, n⟩ := S
  have run := rOp_sound hc hK hF dst op env H n D
  unfold rOne
  cases gd with
  | none => exact run
  | some g =>
    obtain ⟨d, want⟩ := g
    dsimp only
    have ih := hK ⟨eput env dst (.tup []), H, n⟩ D
    split
    · rename_i b e
      cases b <;> cases want <;> dsimp only
      · refine saysR_pre (fun fn K ks a => arun_guard ?_) _ run
        dsimp only; rw [e]; exact a
      · refine saysR_pre (fun fn K ks a => arun_guard ?_) _ ih
        dsimp only; rw [e]; exact a
      · refine saysR_pre (fun fn K ks a => arun_guard ?_) _ ih
        dsimp only; rw [e]; exact a
      · refine saysR_pre (fun fn K ks a => arun_guard ?_) _ run
        dsimp only; rw [e]; exact a
    · rename_i e
      refine saysR_pre (fun fn K ks a => arun_guard ?_) _ ih
      dsimp only; rw [e]; exact a
    · exact trivial

mutual
theorem rr_sound (ht : TabOk P tab) (hc : CstOk P cst) {dm : Bool} {nt k : Nat} (rs : List (Nat × Option TypeId)) : ∀ (m : Nat) (t : ST) (S : St) (D : Option AV), SaysR P dm nt k t S D rs (rr P tab cst dm nt k m t S D)
  | 0, t, S, D => by simp only [rr]; exact trivial
  | m + 1, t, S, D => by
    simp only [rr]
    cases t with
    | leaf => exact fun fn K ks hr r => arun_leaf r
    | nil => exact trivial
    | alt s t =>
      dsimp only
      have i1 := rr_sound ht hc (dm := dm) (nt := nt) (k := k) rs m s S D
      have i2 := rr_sound ht hc (dm := dm) (nt := nt) (k := k) rs m t S D
      unfold rAlt
      split
      · exact saysR_pre (t' := s) (S' := S) (D' := D) (fun fn K ks a => arun_alt a arun_nil) _ i1
      · exact join_sound i1 i2
    | one o t =>
      exact rOne_sound hc (fun S D => rr_sound ht hc rs m t S D) (fun f as H n => rf_sound ht hc m f as H n) o S D
  termination_by structural m => m
theorem rl_sound (ht : TabOk P tab) (hc : CstOk P cst) (rs : List (Nat × Option TypeId)) : ∀ (m : Nat) (c rv : AV) (S : St),
    (match rl P tab cst rs m c rv S with
      | .ok (v, H, n) => ∀ (fn : Func) (N k : Nat) (K : Res → Hp → Nat → Prop), fn.results.toList = rs.map toRV → K (.ret v) H n → (rv = .nilif → AFin ⟨P, ⟨fn, true, some c⟩, N, k, K⟩ S) ∧ APan ⟨P, ⟨fn, true, some c⟩, N, k, K⟩ rv S
      | .pan _ _ _ => False
      | .bad _ _ => True)
  | 0, c, rv, S => by simp only [rl]
  | m + 1, c, rv, S => by
    simp only [rl]
    have key : ∀ r, r = rLeave P tab rs c rv S (fun fi scr S1 => rc P tab cst fi.rs fi.nt S.nx false m [.code scr] S1 none) → (match r with
      | .ok (v, H, n) => ∀ (fn : Func) (N k : Nat) (K : Res → Hp → Nat → Prop), fn.results.toList = rs.map toRV → K (.ret v) H n → (rv = .nilif → AFin ⟨P, ⟨fn, true, some c⟩, N, k, K⟩ S) ∧ APan ⟨P, ⟨fn, true, some c⟩, N, k, K⟩ rv S
      | .pan _ _ _ => False
      | .bad _ _ => True) := by
     intro r hr0
     subst hr0
     unfold rLeave
     cases c with
     | fn g first caps =>
      cases g with
      | func f =>
       dsimp only
       cases hfi : tab f with
       | none => trivial
       | some fi =>
        dsimp only
        cases hcl : fi.cl with
        | none => trivial
        | some q =>
          obtain ⟨r0, r1, scr⟩ := q
          dsimp only
          by_cases hl : (first ++ caps).length ≤ fi.nt
          · rw [if_pos hl]
            obtain ⟨fn', h1, h2, h3, h4, h5, h6⟩ := ht f fi hfi
            have ih := rc_sound ht hc (dm := false) (nt := fi.nt) (k := S.nx) fi.rs m [.code scr] ⟨eput (eput (numA 0 (first ++ caps)) (some r0) rv) (some r1) rv, S.H, S.nx⟩ none
            generalize rc P tab cst fi.rs fi.nt S.nx false m [.code scr] ⟨eput (eput (numA 0 (first ++ caps)) (some r0) rv) (some r1) rv, S.H, S.nx⟩ none = r at *
            cases r with
            | ok r =>
              obtain ⟨v', H', n'⟩ := r
              dsimp only
              cases ho : outV P S.env rs H' n' with
              | ok r =>
                obtain ⟨v, H, n⟩ := r
                intro fn N k K hr hK
                have run := ih fn' (LeaveK P S.env rs K) h4 (outV_A ho hK)
                refine ⟨fun e => ?_, apan_defer h1 h2 (h5 r0 r1 scr hcl) h6 hl hr run⟩
                subst e
                exact afin_defer h1 h2 (h5 r0 r1 scr hcl) h6 hl hr run
              | pan v S' D' => unfold outV at ho; split at ho <;> cases ho
              | bad w a => trivial
            | pan v S' D' => trivial
            | bad w a => trivial
          · rw [if_neg hl]; trivial
      | _ => trivial
     | _ => trivial
    exact key _ rfl
  termination_by structural m => m
theorem rc_sound (ht : TabOk P tab) (hc : CstOk P cst) {dm : Bool} {nt k : Nat} (rs : List (Nat × Option TypeId)) : ∀ (m : Nat) (ks : List SI) (S : St) (D : Option AV), SaysC P dm nt k ks S D rs (rc P tab cst rs nt k dm m ks S D)
  | 0, ks, S, D => by simp only [rc]; exact trivial
  | m + 1, ks, S, D => by
    simp only [rc]
    -- the function's end
    have fin : ∀ ks, (∀ (G : Go), AFin G S → ARun G (.code ks S)) → SaysC P dm nt k ks S D rs (rEnd P rs dm S D fun c v S => rl P tab cst rs m c v S) := by
      intro ks ha
      unfold rEnd
      cases D with
      | none =>
        dsimp only
        cases ho : outV P S.env rs S.H S.nx with
        | ok r => obtain ⟨v, H, n⟩ := r; exact fun fn K hr hK => ha _ (afinC rs hr (outV_A ho hK))
        | pan v S' D' => unfold outV at ho; split at ho <;> cases ho
        | bad w a => exact trivial
      | some c =>
        cases dm with
        | false => exact trivial
        | true =>
          dsimp only
          have ih := rl_sound ht hc rs m c .nilif S
          generalize rl P tab cst rs m c .nilif S = r at *
          cases r with
          | ok r => obtain ⟨v, H, n⟩ := r; exact fun fn K hr hK => ha _ ((ih fn nt k K hr hK).1 rfl)
          | pan v S' D' => exact ih.elim
          | bad w a => exact trivial
    cases ks with
    | nil => exact fin [] (fun G a => arun_end a)
    | cons i ks =>
      cases i with
      | inBlock id => exact saysC_pre (fun fn K _ a => arun_block a) _ (rc_sound ht hc rs m ks S D)
      | inLoop c =>
        dsimp only
        obtain ⟨r, e, f⟩ := dedE_eq S.env [] fun env => rc P tab cst rs nt k dm m (.code c :: .inLoop c :: ks) ⟨env, S.H, S.nx⟩ D
        rw [e]
        refine saysC_pre (fun fn K _ a => arun_round ?_) _ (rc_sound ht hc rs m _ ⟨r, S.H, S.nx⟩ D)
        exact arun_env (fun s v hs => (f s v hs).2) a
      | code c =>
        cases c with
        | skip => exact saysC_pre (fun fn K _ a => arun_cskip a) _ (rc_sound ht hc rs m ks S D)
        | ret => exact fin _ (fun G a => arun_ret a)
        | region ds t =>
          dsimp only
          split
          · rename_i hok
            have okd : ∀ fn : Func, fn.results.toList = rs.map toRV → okD ⟨fn, dm, D⟩ ds := by
              intro fn hr hdm
              have hdm : dm = true := hdm
              subst hdm
              exact okR_of hr (by simpa using hok)
            have ih := rr_sound ht hc (dm := dm) (nt := nt) (k := k) rs m t S D
            generalize rr P tab cst dm nt k m t S D = r at *
            unfold rReg
            cases r with
            | ok r =>
              obtain ⟨S1, D1⟩ := r
              exact saysC_pre (fun fn K hr a => arun_region (okd fn hr) (ih fn K ks hr a)) _ (rc_sound ht hc rs m ks S1 D1)
            | pan v S1 D1 =>
              cases D1 with
              | none => exact fun fn K hr hK => arun_region (okd fn hr) (ih fn K ks hr (apan hK))
              | some c =>
                cases dm with
                | false => exact trivial
                | true =>
                  dsimp only
                  have ihl := rl_sound ht hc rs m c v S1
                  generalize rl P tab cst rs m c v S1 = r at *
                  cases r with
                  | ok r => obtain ⟨v', H, n⟩ := r; exact fun fn K hr hK => arun_region (okd fn hr) (ih fn K ks hr (ihl fn nt k K hr hK).2)
                  | pan v S' D' => exact ihl.elim
                  | bad w a => exact trivial
            | bad w a => exact trivial
          · exact trivial
        | seq a b => exact saysC_pre (fun fn K _ a => arun_cseq a) _ (rc_sound ht hc rs m _ S D)
        | cond c a b =>
          dsimp only
          split
          · rename_i e
            refine saysC_pre (fun fn K _ r => arun_cond ?_) _ (rc_sound ht hc rs m _ S D)
            rw [e]; exact r
          · rename_i e
            refine saysC_pre (fun fn K _ r => arun_cond ?_) _ (rc_sound ht hc rs m _ S D)
            rw [e]; exact r
          · exact trivial
        | block id a => exact saysC_pre (fun fn K _ a => arun_cblock a) _ (rc_sound ht hc rs m _ S D)
        | loop a => exact saysC_pre (fun fn K _ a => arun_cloop a) _ (rc_sound ht hc rs m _ S D)
        | exit id =>
          dsimp only
          split
          · rename_i ks' e; exact saysC_pre (fun fn K _ a => arun_exit e a) _ (rc_sound ht hc rs m _ S D)
          · exact trivial
  termination_by structural m => m
theorem rf_sound (ht : TabOk P tab) (hc : CstOk P cst) : ∀ (m : Nat) (f : Nat) (args : List AV) (H : Hp) (n : Nat), SaysF' P tab f args H n (rf P tab cst m f args H n)
  | 0, f, args, H, n => by simp only [rf]; exact trivial
  | m + 1, f, args, H, n => by
    simp only [rf]
    unfold rFun
    split
    · rename_i fi hfi
      split
      · rename_i hl
        have hl := Nat.le_of_ble_eq_true hl
        obtain ⟨fn, h1, h2, h3, h4, h5, h6⟩ := ht f fi hfi
        have ih := rc_sound ht hc (dm := fi.dm) (nt := fi.nt) (k := n) fi.rs m [.code fi.sc] ⟨numA 0 args, H, n⟩ none
        dsimp only
        generalize rc P tab cst fi.rs fi.nt n fi.dm m [.code fi.sc] ⟨numA 0 args, H, n⟩ none = r at *
        cases r with
        | ok r => obtain ⟨v, H', n'⟩ := r; exact ⟨fi, fn, hfi, h1, h2, h3, h6, hl, fun K hK => ih fn K h4 hK⟩
        | pan v S' D' => exact ⟨fi, fn, hfi, h1, h2, h3, h6, hl, fun K hK => ih fn K h4 hK⟩
        | bad w a => exact trivial
      · exact trivial
    · exact trivial
  termination_by structural m => m
end
end Go.AM
