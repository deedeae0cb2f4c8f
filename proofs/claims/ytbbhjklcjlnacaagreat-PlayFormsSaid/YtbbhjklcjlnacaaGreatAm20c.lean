/-
  A deferred call that asks for the panic. No condition beyond what each theorem states.
-/
import Derived.Test.YtbbhjklcjlnacaaGreatAm20b
/-! A deferred call that asks for the panic. -/
namespace Go.AM
variable {P : Program}

/-- a function that begins by asking for the panic -/
def closOf (n : Nat) : Code → Option (Nat × Nat × Code)
  | .seq (.region _ ops false) rest => match ops.toList with
    | [⟨some r0, .call ⟨.builtin .recover, as, _⟩, _, _, _, none⟩, ⟨some r1, .assign (.tmp t), _, _, _, none⟩] => if t = r0 ∧ r0 < n ∧ r1 < n ∧ as.size = 0 then some (r0, r1, rest) else none
    | _ => none
  | _ => none
def compD (P : Program) (n : Nat) (c : Code) : Option (Nat × Nat × SC) := match closOf n c with
  | some (r0, r1, rest) => match comp P n rest with
    | some sc => some (r0, r1, sc)
    | none => none
  | none => none

theorem closOf_some {n : Nat} {c : Code} {r0 r1 : Nat} {rest : Code} (h : closOf n c = some (r0, r1, rest)) :
    ∃ id ops o0 o1 ats ty0 pos0 af0 ty1 pos1 af1, c = .seq (.region id ops false) rest ∧ ops = #[o0, o1] ∧ o0 = ⟨some r0, .call ⟨.builtin .recover, #[], ats⟩, ty0, pos0, af0, none⟩ ∧ o1 = ⟨some r1, .assign (.tmp r0), ty1, pos1, af1, none⟩ ∧ r0 < n ∧ r1 < n := by
  unfold closOf at h
  split at h
  · rename_i id ops rest'
    split at h
    · rename_i r0' as ats ty0 pos0 af0 r1' t ty1 pos1 af1 e
      split at h
      · rename_i hc
        obtain ⟨rfl, h0, h1, has⟩ := hc
        cases h
        have e0 : as = #[] := Array.size_eq_zero_iff.1 has
        subst e0
        exact ⟨id, ops, _, _, ats, ty0, pos0, af0, ty1, pos1, af1, rfl, by rw [← Array.toList_inj]; simpa using e, rfl, rfl, h0, h1⟩
      · cases h
    · cases h
  · cases h

theorem callsD_clos {f : FuncId} {fnf : Func} {c rest : Code} {n r0 r1 : Nat} {args : Array Value} {u u' : FrameMode} {rv : Value} {w : World} {R : Ending → World → Prop}
    (hf : P.funcs[f]? = some fnf) (hb : fnf.body = some c) (hc : closOf n c = some (r0, r1, rest)) (hn : ({ tmps := args ++ Array.replicate (fnf.ntmps - args.size) undef, defers := [] } : Act).tmps.size = n)
    (hu : (u = .returning ∧ u' = .returning ∧ rv = .nilIface) ∨ (u = .panicking [{ v := rv, recovered := false }] ∧ u' = .panicking [{ v := rv, recovered := true }]))
    (h : RunQ P [.code rest] ((({ tmps := args ++ Array.replicate (fnf.ntmps - args.size) undef, defers := [] } : Act).put (some r0) rv).put (some r1) rv) w (bodyPost P fnf R)) :
    CallsD P f args u w fun e m w' => m = u' ∧ R e w' := by
  obtain ⟨id, ops, o0, o1, ats, ty0, pos0, af0, ty1, pos1, af1, rfl, rfl, rfl, rfl, h0, h1⟩ := closOf_some hc
  intro c₀ cs hcm
  let b : Frame := { (default : Frame) with fn := f, kind := .deferred }
  let a0 : Act := { tmps := args ++ Array.replicate (fnf.ntmps - args.size) undef, defers := [] }
  have henter : Frame.enter P f args .deferred = b.at a0 [.code (.seq (.region id #[⟨some r0, .call ⟨.builtin .recover, #[], ats⟩, ty0, pos0, af0, none⟩, ⟨some r1, .assign (.tmp r0), ty1, pos1, af1, none⟩] false) rest)] := by
    simp [Frame.enter, Frame.at, hf, hb, b, a0]
  -- the first region
  have hreg : ∃ e a' cs' w', (e = Exit.normal ∧ a' = (a0.put (some r0) rv).put (some r1) rv ∧ cs' = { c₀ with mode := u' } :: cs ∧ w' = w) ∧
      Arrives P (lone (b.at a0 (.inRegion #[⟨some r0, .call ⟨.builtin .recover, #[], ats⟩, ty0, pos0, af0, none⟩, ⟨some r1, .assign (.tmp r0), ty1, pos1, af1, none⟩] (List.range 2) :: [.code rest])) (c₀ :: cs) w) b [.code rest] cs' e a' w' := by
    refine wp_opsS (Q := fun e a' cs' w' => e = Exit.normal ∧ a' = (a0.put (some r0) rv).put (some r1) rv ∧ cs' = { c₀ with mode := u' } :: cs ∧ w' = w) _ a0 (c₀ :: cs) w ?_ b [.code rest] rfl rfl
    have hrec : ∀ (v : Value), ((a0.put (some r0) v).eval (.tmp r0)) = v := by
      intro v
      have hlt : r0 < a0.tmps.size := by rw [hn]; exact h0
      simp only [Act.eval, Act.put, Array.getD_eq_getD_getElem?]
      rw [Array.getElem?_setIfInBounds_self_of_lt hlt]; rfl
    rw [show List.range 2 = [0, 1] from rfl]
    rcases hu with ⟨e1, e2, rfl⟩ | ⟨e1, e2⟩
    · have hm : c₀.mode = .returning := hcm.trans e1
      have hsame : ({ c₀ with mode := u' } : Frame) = c₀ := by rw [e2, ← hm]
      simp [wpOpsS, Region.wanted, execOp, resolve, invoke, builtin, recoverD, hm, Oper.upon, hrec, hsame]
    · have hm : c₀.mode = .panicking [{ v := rv, recovered := false }] := hcm.trans e1
      simp [wpOpsS, Region.wanted, execOp, resolve, invoke, builtin, recoverD, hm, Oper.upon, hrec, e2]
  obtain ⟨e, a', cs', w', ⟨rfl, rfl, rfl, rfl⟩, har⟩ := hreg
  obtain ⟨e, a', w', hq, harr⟩ := h b ({ c₀ with mode := u' } :: cs)
  have harr := Arrives.of_steps (Steps.trans (.head step_seq (.one (step_region (id := id)))) har) harr
  rw [← henter] at harr
  cases e with
  | normal =>
    obtain ⟨hd, v, hr, hR⟩ := hq
    exact ⟨.returned v, u', w', _, ⟨rfl, hR⟩, Steps.trans harr (.one step_end), rfl, rfl, hd, fnf, hf, hr⟩
  | ret =>
    obtain ⟨hd, v, hr, hR⟩ := hq
    obtain ⟨todo, hs⟩ := harr
    exact ⟨.returned v, u', w', _, ⟨rfl, hR⟩, hs, rfl, rfl, hd, fnf, hf, hr⟩
  | panic chain =>
    obtain ⟨hd, hR⟩ := hq
    obtain ⟨todo, hs⟩ := harr
    exact ⟨.panicked chain, u', w', _, ⟨rfl, hR⟩, hs, rfl, rfl, hd, fnf, hf⟩
  | exit id => exact hq.elim
  | goto l => exact hq.elim
  | outgrown => exact ⟨.outgrown, u', w', b, ⟨rfl, hq⟩, harr.resolve_left (by simp [b]), rfl, trivial⟩

/-- what is left to show of a function that leaves by a deferred call -/
def LeaveK (P : Program) (env : List (Nat × AV)) (rs : List (Nat × Option TypeId)) (K : Res → Hp → Nat → Prop) : Res → Hp → Nat → Prop := fun r H n => match r with
  | .ret _ => resA P env rs H n fun vs H n => K (.ret (resT vs)) H n
  | .pan _ => False

theorem leave_core {P : Program} {fn : Func} {N k : Nat} {K : Res → Hp → Nat → Prop} {S : St} {f : FuncId} {first caps : List AV} {fnf : Func} {nt r0 r1 : Nat} {scr : SC} {rs : List (Nat × Option TypeId)} {rv : AV}
    (hf : P.funcs[f]? = some fnf) (hnt : fnf.ntmps = nt) (hb : fnf.body.bind (compD P nt) = some (r0, r1, scr)) (hcall : ∀ xs w, (callFunc f xs).run P w = .ok (.enter f xs) w) (hl : (first ++ caps).length ≤ nt)
    (hr : fn.results.toList = rs.map toRV)
    (h : ARun ⟨P, ⟨fnf, false, none⟩, nt, S.nx, LeaveK P S.env rs K⟩ (.code [.code scr] ⟨eput (eput (numA 0 (first ++ caps)) (some r0) rv) (some r1) rv, S.H, S.nx⟩))
    (hm : P.follows .mixedOrders = true) (hk : k ≤ S.nx) {X : Cx} {hf0 : PH} {a : Act} {w : World} (s : Sat N (some (.fn (.func f) first caps)) S X hf0 a w) {x : Value} (px : pureR X rv x) {u u' : FrameMode} (hu0 : u ≠ .run)
    (hu : (u = .returning ∧ u' = .returning ∧ x = .nilIface) ∨ (u = .panicking [{ v := x, recovered := false }] ∧ u' = .panicking [{ v := x, recovered := true }])) :
    Leaves P fn a.tmps (finR k K X hf0 w) a.defers u w := by
  obtain ⟨hXn, m, henv, hsz, hdf⟩ := s
  obtain ⟨f', first', caps', ys, zs, e1, e2, p1, p2⟩ := hdf
  cases e1
  rw [e2]
  obtain ⟨c, rest, hbc, hcl, hcc⟩ : ∃ c rest, fnf.body = some c ∧ closOf nt c = some (r0, r1, rest) ∧ comp P nt rest = some scr := by
    cases hc : fnf.body with
    | none => rw [hc] at hb; cases hb
    | some c =>
      rw [hc] at hb
      simp only [Option.bind_some, compD] at hb
      split at hb
      · rename_i q0 q1 rest e
        split at hb
        · rename_i sc e2; cases hb; exact ⟨c, rest, rfl, e, e2⟩
        · cases hb
      · cases hb
  have pall : pureL X (first ++ caps) (ys ++ zs).toList := by
    have := pureL_append _ _ _ _ p1 p2
    simpa using this
  have hlen := pureL_len _ _ pall
  have hxs : (ys ++ zs).size ≤ fnf.ntmps := by
    have : (ys ++ zs).size = (first ++ caps).length := by rw [← hlen]; simp
    omega
  have hsize : ({ tmps := (ys ++ zs) ++ Array.replicate (fnf.ntmps - (ys ++ zs).size) undef, defers := [] } : Act).tmps.size = nt := by
    simp only [Array.size_append, Array.size_replicate] at hxs ⊢; omega
  obtain ⟨_, _, _, _, _, _, _, _, _, _, _, _, _, _, _, h0, h1⟩ := closOf_some hcl
  have sc0 : Sat nt none ⟨numA 0 (first ++ caps), S.H, S.nx⟩ X hf0 { tmps := (ys ++ zs) ++ Array.replicate (fnf.ntmps - (ys ++ zs).size) undef, defers := [] } w := by
    refine ⟨hXn, m, ?_, hsize, rfl⟩
    intro s v e
    obtain ⟨_, x, e1, e2⟩ := pureL_get _ _ 0 s v pall e
    refine ⟨x, ?_, e2⟩
    have hlt := (List.getElem?_eq_some_iff.1 e1).1
    rw [Array.getElem?_append_left (by simpa using hlt)]
    rw [← Array.getElem?_toList]; simpa using e1
  have sc1 := Sat.next sc0 (dst := some r0) (fun d hd => by cases hd; exact h0) (Cx.le_refl X) hXn m px
  have sc2 := Sat.next sc1 (dst := some r1) (fun d hd => by cases hd; exact h1) (Cx.le_refl X) hXn m px
  have run := h hm (Nat.le_refl _) X hf0 _ w sc2 [.code rest] ⟨hcc, trivial⟩
  refine ⟨hu0, .func f, zs, f, ys ++ zs, rfl, ?_, ?_⟩
  · simp [invoke, hcall]
  refine CallsD.mono (callsD_clos (R := finR S.nx (LeaveK P S.env rs K) X hf0 w) hf hbc hcl hsize hu (RunQ.mono ?_ run)) ?_
  · intro e a' w' q
    cases e with
    | normal => obtain ⟨q1, q2⟩ := q; have q1 := q1 rfl; rw [q1] at q2; obtain ⟨v, q3, q4⟩ := q2; exact ⟨q1, v, q3, q4⟩
    | ret => obtain ⟨q1, q2⟩ := q; have q1 := q1 rfl; rw [q1] at q2; obtain ⟨v, q3, q4⟩ := q2; exact ⟨q1, v, q3, q4⟩
    | panic ch => obtain ⟨q1, q2⟩ := q; have q1 := q1 rfl; rw [q1] at q2; exact ⟨q1, q2⟩
    | exit id => exact q
    | goto l => exact q
    | outgrown => exact q.elim
  · rintro e m' w' ⟨rfl, q⟩
    cases e with
    | returned v =>
      obtain ⟨xt, v', H', X', im, hnx, hσ, mm, pp, hfin⟩ := q
      have hset : settle m' = .returning := by
        rcases hu with ⟨_, e, _⟩ | ⟨_, e⟩
        · rw [e]; rfl
        · rw [e]; rfl
      show Leaves P fn a.tmps _ [] (settle m') w'
      rw [hset]
      have le : X.le X' := ⟨im, by rw [hXn]; exact hnx, fun id hid => hσ id (by rw [← hXn]; exact hid)⟩
      exact fin_core (K := K) (k := k) (X0 := X) hr im (Nat.le_trans hk hnx) (fun id hid => hσ id (Nat.lt_of_lt_of_le hid hk)) (fun r => pureR_mono le _ _ (look_of henv r)) mm xt hfin
    | panicked ch => obtain ⟨_, _, _, _, _, _, _, _, _, _, _, hfin⟩ := q; exact hfin.elim
    | outgrown => exact q.elim

/-- A panic. -/
theorem arun_panic {G : Go} {dst : Option Nat} {x : Operand} {t : ST} {ks : List SI} {S : St} {ty : TypeId} {v : AV} (hx : aeval S.env x = .iface ty v) (h : APan G (.iface ty v) S) : ARun G (.ops (.one ⟨dst, .panic x, none⟩ t) ks S) := by
  intro hm hk X hf a w s ops ti k hs hck
  obtain ⟨i, ti', oo, rfl, hoi, e1, e2, hdN, hwant, hst⟩ := hs
  have s' : Sat G.n G.fn.D S X hf a w := s
  have px := aeval_pure s' x
  rw [hx] at px
  have px0 := px
  simp only [pureR] at px
  obtain ⟨y, hy, _⟩ := px
  show wpOpH G.P ops _ i _ a w
  unfold wpOpH
  simp only [hoi, hwant, if_true]
  have hcl : cls G.P oo.op = .E := by rw [e2]; rfl
  refine ⟨by unfold Hit; simp only [hcl], ?_⟩
  have hrun : (execOp a.eval oo).run G.P w = .halt (.panic (a.eval x)) w := by
    unfold execOp; rw [e2]
    simp [Instr.panic, hy, goPanic]
  unfold Oper.wp
  rw [hrun]
  exact h hm hk X hf a w s' _ px0

theorem afin_defer {P : Program} {fn : Func} {N k : Nat} {K : Res → Hp → Nat → Prop} {S : St} {f : FuncId} {first caps : List AV} {fnf : Func} {nt r0 r1 : Nat} {scr : SC} {rs : List (Nat × Option TypeId)}
    (hf : P.funcs[f]? = some fnf) (hnt : fnf.ntmps = nt) (hb : fnf.body.bind (compD P nt) = some (r0, r1, scr)) (hcall : ∀ xs w, (callFunc f xs).run P w = .ok (.enter f xs) w) (hl : (first ++ caps).length ≤ nt)
    (hr : fn.results.toList = rs.map toRV)
    (h : ARun ⟨P, ⟨fnf, false, none⟩, nt, S.nx, LeaveK P S.env rs K⟩ (.code [.code scr] ⟨eput (eput (numA 0 (first ++ caps)) (some r0) .nilif) (some r1) .nilif, S.H, S.nx⟩)) :
    AFin ⟨P, ⟨fn, true, some (.fn (.func f) first caps)⟩, N, k, K⟩ S :=
  fun hm hk _ _ _ _ s => ⟨fun hd => (by cases hd), leave_core hf hnt hb hcall hl hr h hm hk s rfl (by simp) (Or.inl ⟨rfl, rfl, rfl⟩)⟩
theorem apan_defer {P : Program} {fn : Func} {N k : Nat} {K : Res → Hp → Nat → Prop} {S : St} {f : FuncId} {first caps : List AV} {fnf : Func} {nt r0 r1 : Nat} {scr : SC} {rs : List (Nat × Option TypeId)} {rv : AV}
    (hf : P.funcs[f]? = some fnf) (hnt : fnf.ntmps = nt) (hb : fnf.body.bind (compD P nt) = some (r0, r1, scr)) (hcall : ∀ xs w, (callFunc f xs).run P w = .ok (.enter f xs) w) (hl : (first ++ caps).length ≤ nt)
    (hr : fn.results.toList = rs.map toRV)
    (h : ARun ⟨P, ⟨fnf, false, none⟩, nt, S.nx, LeaveK P S.env rs K⟩ (.code [.code scr] ⟨eput (eput (numA 0 (first ++ caps)) (some r0) rv) (some r1) rv, S.H, S.nx⟩)) :
    APan ⟨P, ⟨fn, true, some (.fn (.func f) first caps)⟩, N, k, K⟩ rv S :=
  fun hm hk _ _ _ _ s _ px => ⟨fun hd => (by cases hd), leave_core hf hnt hb hcall hl hr h hm hk s px (by simp) (Or.inr ⟨rfl, rfl⟩)⟩
end Go.AM
