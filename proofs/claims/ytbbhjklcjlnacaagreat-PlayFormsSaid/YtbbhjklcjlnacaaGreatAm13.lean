/-
  Each operation does what is said of it. No condition beyond what each theorem states.
-/
import Derived.Test.YtbbhjklcjlnacaaGreatAm12
/-! Each operation does what is said of it. -/
namespace Go.AM
variable {P : Program}

def OpG (P : Program) (o : Oper) (a : Act) (X : Cx) (hf : PH) (w : World) : AR → Prop
  | .ok v H' n' => Hit P o a w ∧ ∃ x w' X', ((execOp a.eval o).run P w = .ok (.value x) w' ∨ ((execOp a.eval o).run P w = .ok .skip w' ∧ x = undef)) ∧ Ext w w' ∧ X.le X' ∧ X'.n = n' ∧ Mem X' hf H' w' ∧ pureR X' v x
  | .anyb H' n' => Hit P o a w ∧ ∃ b w' X', (execOp a.eval o).run P w = .ok (.value (.bool b)) w' ∧ Ext w w' ∧ X.le X' ∧ X'.n = n' ∧ Mem X' hf H' w'
  | .fail => True

theorem run_v (s : Sem Value) (w : World) : (do pure (Next.value (← s)) : Sem Next).run P w = (s.run P w).andThen fun x w' => .ok (.value x) w' := by
  simp [Sem.run_bind]

theorem OpG.ofP {o : Oper} {a : Act} {X : Cx} {hf : PH} {w : World} {s : Sem Value} {r : AR} (he : execOp a.eval o = (do pure (Next.value (← s)))) (hc : cls P o.op = .P) (g : GoodO .P P s X hf w r) : OpG P o a X hf w r := by
  cases r with
  | ok v H n =>
    obtain ⟨x, X', h1, h2, h3, h4, h5⟩ := g
    refine ⟨?_, x, w, X', Or.inl ?_, Ext.refl w, h2, h3, h4, h5⟩
    · unfold Hit; simp only [hc]; exact ⟨x, fun u hu => by rw [he, run_v, h1 u hu]; rfl⟩
    · rw [he, run_v, h1 w trivial]; rfl
  | anyb H n =>
    obtain ⟨b, X', h1, h2, h3, h4⟩ := g
    refine ⟨?_, b, w, X', ?_, Ext.refl w, h2, h3, h4⟩
    · unfold Hit; simp only [hc]; exact ⟨.bool b, fun u hu => by rw [he, run_v, h1 u hu]; rfl⟩
    · rw [he, run_v, h1 w trivial]; rfl
  | fail => exact trivial
theorem OpG.ofR {o : Oper} {a : Act} {X : Cx} {hf : PH} {w : World} {s : Sem Value} {r : AR} (he : execOp a.eval o = (do pure (Next.value (← s)))) (hc : cls P o.op = .R) (g : GoodO .R P s X hf w r) : OpG P o a X hf w r := by
  cases r with
  | ok v H n =>
    obtain ⟨x, X', h1, h2, h3, h4, h5⟩ := g
    refine ⟨?_, x, w, X', Or.inl ?_, Ext.refl w, h2, h3, h4, h5⟩
    · unfold Hit; simp only [hc]; exact ⟨x, fun u hu => by rw [he, run_v, h1 u hu]; rfl⟩
    · rw [he, run_v, h1 w (Old.refl w)]; rfl
  | anyb H n =>
    obtain ⟨b, X', h1, h2, h3, h4⟩ := g
    refine ⟨?_, b, w, X', ?_, Ext.refl w, h2, h3, h4⟩
    · unfold Hit; simp only [hc]; exact ⟨.bool b, fun u hu => by rw [he, run_v, h1 u hu]; rfl⟩
    · rw [he, run_v, h1 w (Old.refl w)]; rfl
  | fail => exact trivial
theorem OpG.ofA {o : Oper} {a : Act} {X : Cx} {hf : PH} {w : World} {s : Sem Value} {v : AV} {H : Hp} {n : Nat} (he : execOp a.eval o = (do pure (Next.value (← s)))) (hc : cls P o.op = .A) (g : GoodA P s X hf w (.ok v H n)) : OpG P o a X hf w (.ok v H n) := by
  obtain ⟨x, w', X', h1, h2, h0, h3, h4, h5, h6⟩ := g
  refine ⟨?_, x, w', X', Or.inl ?_, h2, h3, h4, h5, h6⟩
  · unfold Hit; simp only [hc]; exact ⟨x, w', by rw [he, run_v, h1]; rfl, h0⟩
  · rw [he, run_v, h1]; rfl
theorem OpG.ofE {o : Oper} {a : Act} {X : Cx} {hf : PH} {w : World} {s : Sem Value} {r : AR} (he : execOp a.eval o = (do pure (Next.value (← s)))) (hc : cls P o.op = .E) (g : Good P s X hf w r) : OpG P o a X hf w r := by
  cases r with
  | ok v H n =>
    obtain ⟨x, w', X', h1, h2, h3, h4, h5, h6⟩ := g
    refine ⟨?_, x, w', X', Or.inl ?_, h2, h3, h4, h5, h6⟩
    · unfold Hit; simp only [hc]
    · rw [he, run_v, h1]; rfl
  | anyb H n =>
    obtain ⟨b, w', X', h1, h2, h3, h4, h5⟩ := g
    refine ⟨?_, b, w', X', ?_, h2, h3, h4, h5⟩
    · unfold Hit; simp only [hc]
    · rw [he, run_v, h1]; rfl
  | fail => exact trivial
theorem GoodO.good {c : Cls} {s : Sem Value} {X : Cx} {hf : PH} {w : World} {r : AR} (g : GoodO c P s X hf w r) : Good P s X hf w r := by
  have ow : OW c w w := by cases c <;> first | exact trivial | exact Old.refl w
  cases r with
  | ok v H n => obtain ⟨x, X', h1, h2, h3, h4, h5⟩ := g; exact ⟨x, w, X', h1 w ow, Ext.refl w, h2, h3, h4, h5⟩
  | anyb H n => obtain ⟨b, X', h1, h2, h3, h4⟩ := g; exact ⟨b, w, X', h1 w ow, Ext.refl w, h2, h3, h4⟩
  | fail => exact trivial
/-- an operation that only reckons, whatever it counts as -/
theorem OpG.ofPE {o : Oper} {a : Act} {X : Cx} {hf : PH} {w : World} {s : Sem Value} {r : AR} (he : execOp a.eval o = (do pure (Next.value (← s)))) (hc : cls P o.op = .P ∨ cls P o.op = .E) (g : GoodO .P P s X hf w r) : OpG P o a X hf w r :=
  hc.elim (fun h => OpG.ofP he h g) (fun h => OpG.ofE he h g.good)
theorem OpG.ofU {o : Oper} {a : Act} {X : Cx} {hf : PH} {w : World} {s : Sem Unit} {v : AV} {H : Hp} {n : Nat} (he : execOp a.eval o = (do s; pure Next.skip)) (hc : cls P o.op = .E) (hv : v = .top) (g : GoodU P s X hf w (.ok v H n)) : OpG P o a X hf w (.ok v H n) := by
  obtain ⟨w', X', h1, h2, h3, h4, h5⟩ := g
  refine ⟨?_, undef, w', X', Or.inr ⟨?_, rfl⟩, h2, h3, h4, h5, ?_⟩
  · unfold Hit; simp only [hc]
  · rw [he]; simp [Sem.run_bind, h1]
  · subst hv; exact trivial

theorem good_pure {X : Cx} {hf : PH} {H : Hp} {w : World} {v : AV} {x : Value} (m : Mem X hf H w) (p : pureR X v x) : GoodO .P P (pure x) X hf w (.ok v H X.n) :=
  good_val m (fun _ => rfl) p

theorem guard_run {op : BinOp} {t : TypeId} {x y : Operand} {a b : AV} {va vb : Value} {X : Cx} {H : Hp} {n : Nat} (ha : pureR X a va) (hb : pureR X b vb) (h : aEq op x y a b (aBin P op t H n a b) ≠ .fail) :
    aEq op x y a b (aBin P op t H n a b) = aBin P op t H n a b ∧ ∀ u, (eqGuard op t x y va vb).run P u = .ok () u := by
  by_cases he : op = .eql ∨ op = .neq
  · have key : ∀ neg, aNil H n neg (tsh P t) a b ≠ .fail → (a = .nilif → b = .nilif → litNil x = true ∨ litNil y = true) → ∀ u, (eqGuard op t x y va vb).run P u = .ok () u := by
      intro neg h' hn u
      have hm : (!(match op with | .eql => true | .neq => true | _ => false)) = false := by rcases he with rfl | rfl <;> rfl
      unfold aNil at h'
      split at h'
      all_goals first | (exact absurd rfl h') | skip
      all_goals simp only [pureR] at ha hb
      · subst ha hb; rcases he with rfl | rfl <;> simp [eqGuard]
      · obtain ⟨_, rfl⟩ := ha; subst hb; rcases he with rfl | rfl <;> simp [eqGuard]
      · obtain ⟨b', o, c, T, fz, ys, rfl, _⟩ := ha; subst hb; rcases he with rfl | rfl <;> simp [eqGuard]
      · obtain ⟨y', rfl, _⟩ := ha; subst hb; rcases he with rfl | rfl <;> simp [eqGuard]
      · subst ha hb
        have := hn rfl rfl
        have hlit : ∀ z : Operand, litNil z = true → (match z with | .const _ => true | _ => false) = true := by intro z hz; cases z <;> simp_all [litNil]
        rcases he with rfl | rfl <;> rcases this with hl | hl <;> (cases x <;> cases y <;> simp_all [eqGuard, litNil])
      · subst ha hb; rcases he with rfl | rfl <;> simp [eqGuard]
      · obtain ⟨a', cap, _, rfl, _⟩ := ha; subst hb; rcases he with rfl | rfl <;> simp [eqGuard]
      · obtain ⟨_, a', _, _, rfl, _⟩ := ha; subst hb; rcases he with rfl | rfl <;> simp [eqGuard]
    have hx : aEq op x y a b (aBin P op t H n a b) = aBin P op t H n a b ∧ (a = .nilif → b = .nilif → litNil x = true ∨ litNil y = true) := by
      unfold aEq at h ⊢
      split at h
      · split at h
        · rename_i hl; exact ⟨by simp [hl], fun _ _ => hl⟩
        · exact absurd rfl h
      · split at h
        · rename_i hl; exact ⟨by simp [hl], fun _ _ => hl⟩
        · exact absurd rfl h
      · rename_i h1 h2
        refine ⟨rfl, fun e1 e2 => ?_⟩
        subst e1 e2; rcases he with rfl | rfl
        · exact (h1 rfl rfl rfl).elim
        · exact (h2 rfl rfl rfl).elim
    refine ⟨hx.1, ?_⟩
    rw [hx.1] at h
    unfold aBin at h
    split at h
    · rcases he with h | h <;> cases h
    · rcases he with h | h <;> cases h
    · simp only [pureR] at ha hb; subst ha hb; intro u; rcases he with rfl | rfl <;> simp [eqGuard]
    · simp only [pureR] at ha hb; subst ha hb; intro u; simp [eqGuard]
    · simp only [pureR] at ha hb; subst ha hb; intro u; simp [eqGuard]
    · simp only [pureR] at ha hb; subst ha hb; intro u; simp [eqGuard]
    · simp only [pureR] at ha hb; subst ha hb; intro u; simp [eqGuard]
    · exact key false h hx.2
    · exact key true h hx.2
    · exact absurd rfl h
  · refine ⟨?_, fun u => ?_⟩
    · unfold aEq; split <;> first | rfl | (exact absurd (Or.inl rfl) he) | (exact absurd (Or.inr rfl) he)
    · clear h
      cases op <;> first
        | (exact absurd (Or.inl rfl) he)
        | (exact absurd (Or.inr rfl) he)
        | simp [eqGuard]

theorem aBinG_good {X : Cx} {hf : PH} {H : Hp} {w : World} (op : BinOp) (t : TypeId) (x y : Operand) {a b : AV} {va vb : Value} (m : Mem X hf H w) (ha : pureR X a va) (hb : pureR X b vb) :
    GoodO .P P (do eqGuard op t x y va vb; binOp op t va vb) X hf w (aEq op x y a b (aBin P op t H X.n a b)) := by
  by_cases h : aEq op x y a b (aBin P op t H X.n a b) = .fail
  · rw [h]; exact trivial
  · obtain ⟨e, g⟩ := guard_run (P := P) ha hb h
    rw [e]
    have := aBin_good (P := P) op t m ha hb
    have eq : ∀ u, (do eqGuard op t x y va vb; binOp op t va vb : Sem Value).run P u = (binOp op t va vb).run P u := by
      intro u; simp [Sem.run_bind, g u]
    unfold GoodO at this ⊢
    simp only [eq]; exact this

theorem parts_of {S : St} {X : Cx} {hf : PH} {a : Act} {w : World} {N : Nat} {D : Option AV} (s : Sat N D S X hf a w) : ∀ (ps : List (Nat × Operand)), Parts X (ps.map fun p => (p.1, aeval S.env p.2)) (ps.map fun p => (p.1, a.eval p.2))
  | [] => .nil
  | p :: ps => .cons p.1 _ _ (aeval_pure s p.2) (parts_of s ps)
theorem pureL_of {S : St} {X : Cx} {hf : PH} {a : Act} {w : World} {N : Nat} {D : Option AV} (s : Sat N D S X hf a w) : ∀ (ps : List Operand), pureL X (ps.map (aeval S.env)) (ps.map a.eval)
  | [] => by simp [pureL]
  | p :: ps => by simp only [List.map_cons, pureL]; exact ⟨_, _, rfl, aeval_pure s p, pureL_of s ps⟩

theorem getElem?_of_toList {α : Type} {xs : Array α} {l : List α} (h : xs.toList = l) (i : Nat) : xs[i]? = l[i]? := by rw [← h]; simp

/-- Each operation does what is said of it. -/
theorem aop_good {S : St} {X : Cx} {hf : PH} {a : Act} {w : World} {N : Nat} {D : Option AV} (s : Sat N D S X hf a w) (o : Oper) : OpG P o a X hf w (aop P o.op S.env S.H X.n) := by
  have m := s.mem
  have ev := aeval_pure s
  obtain ⟨dst, op, type, pos, after, guard⟩ := o
  cases op with
  | move x => exact OpG.ofP (s := pure (a.eval x)) (by simp [execOp]) rfl (good_pure m (ev x))
  | assign x => exact OpG.ofP (s := pure (a.eval x)) (by simp [execOp]) rfl (good_pure m (ev x))
  | pick c x y =>
    have h := ev c
    simp only [aop]
    split
    · rename_i e; rw [e] at h; simp only [pureR] at h
      exact OpG.ofP (s := pure (a.eval x)) (by simp [execOp, h, asBool]) rfl (good_pure m (ev x))
    · rename_i e; rw [e] at h; simp only [pureR] at h
      exact OpG.ofP (s := pure (a.eval y)) (by simp [execOp, h, asBool]) rfl (good_pure m (ev y))
    · exact trivial
  | alloc t =>
    have g := aAlloc_good (P := P) t m
    simp only [aop]
    cases h : aAlloc P t S.H X.n with
    | ok v H n => rw [h] at g; exact OpG.ofA rfl rfl g
    | anyb H n => simp [aAlloc, aBox] at h; split at h <;> cases h
    | fail => exact trivial
  | box t x =>
    have g := aBox_good (P := P) t m (ev x)
    simp only [aop]
    cases h : aBox P t S.H X.n (aeval S.env x) with
    | ok v H n => rw [h] at g; exact OpG.ofA rfl rfl g
    | anyb H n => exfalso; unfold aBox at h; split at h <;> cases h
    | fail => exact trivial
  | build t ps =>
    exact OpG.ofP rfl rfl (aBuild_good (P := P) t (ps.toList.map fun p => (p.1, aeval S.env p.2)) (ps.map fun p => (p.1, a.eval p.2)) m (by simpa using parts_of s ps.toList))
  | buildSlice t len ps =>
    have g := aBuildSl_good (P := P) t len (ps.toList.map fun p => (p.1, aeval S.env p.2)) (ps.map fun p => (p.1, a.eval p.2)) m (by simpa using parts_of s ps.toList)
    simp only [aop]
    cases h : aBuildSl P t len S.H X.n (ps.toList.map fun p => (p.1, aeval S.env p.2)) with
    | ok v H n => rw [h] at g; exact OpG.ofA rfl rfl g
    | anyb H n => exfalso; unfold aBuildSl at h; repeat' split at h
                  all_goals cases h
    | fail => exact trivial
  | load t x => exact OpG.ofR rfl rfl (aLoad_good (P := P) t m (ev x))
  | store t x y =>
    have g := aStore_good (P := P) t m (ev x) (ev y)
    simp only [aop]
    cases h : aStore P t S.H X.n (aeval S.env x) (aeval S.env y) with
    | ok v H n =>
      rw [h] at g
      refine OpG.ofU rfl rfl ?_ g
      unfold aStore at h
      repeat' split at h
      all_goals cases h
      all_goals rfl
    | anyb H n =>
      exfalso; unfold aStore at h
      repeat' split at h
      all_goals cases h
    | fail => exact trivial
  | mapUpdate t x k y =>
    have g := aInsert_good (P := P) t m (ev x) (ev k) (ev y)
    simp only [aop]
    cases h : aInsert P t S.H X.n (aeval S.env x) (aeval S.env k) (aeval S.env y) with
    | ok v H n =>
      rw [h] at g
      refine OpG.ofU rfl rfl ?_ g
      unfold aInsert at h
      repeat' split at h
      all_goals cases h
      all_goals rfl
    | anyb H n =>
      exfalso; unfold aInsert at h
      repeat' split at h
      all_goals cases h
    | fail => exact trivial
  | insert t x k y =>
    have g := aInsert_good (P := P) t m (ev x) (ev k) (ev y)
    simp only [aop]
    cases h : aInsert P t S.H X.n (aeval S.env x) (aeval S.env k) (aeval S.env y) with
    | ok v H n =>
      rw [h] at g
      refine OpG.ofU rfl rfl ?_ g
      unfold aInsert at h
      repeat' split at h
      all_goals cases h
      all_goals rfl
    | anyb H n =>
      exfalso; unfold aInsert at h
      repeat' split at h
      all_goals cases h
    | fail => exact trivial
  | nilCheck x =>
    have h := ev x
    simp only [aop]
    split
    · rename_i e; rw [e] at h
      refine OpG.ofP (s := pure (a.eval x)) ?_ rfl (good_pure m h)
      simp only [pureR] at h; obtain ⟨_, h⟩ := h; simp [execOp, h]
    · rename_i e; rw [e] at h
      refine OpG.ofP (s := pure (a.eval x)) ?_ rfl (good_pure m h)
      simp only [pureR] at h; obtain ⟨b, o, c, T, fz, ys, h, _⟩ := h; simp [execOp, h]
    · rename_i e; rw [e] at h
      refine OpG.ofP (s := pure (a.eval x)) ?_ rfl (good_pure m h)
      simp only [pureR] at h; obtain ⟨y, h, _⟩ := h; simp [execOp, h]
    · rename_i e; rw [e] at h
      refine OpG.ofP (s := pure (a.eval x)) ?_ rfl (good_pure m h)
      simp only [pureR] at h; obtain ⟨y, z, h, _⟩ := h; simp [execOp, h]
    · exact trivial
  | binOp op t x y yt =>
    refine OpG.ofPE rfl ?_ (aBinG_good (P := P) op t x y m (ev x) (ev y))
    simp only [cls]; split <;> simp
  | unOp op t x => exact OpG.ofP rfl rfl (aUn_good (P := P) op m (ev x))
  | convert t t' x =>
    simp only [aop]
    split
    · rename_i e hs ht
      exact OpG.ofE rfl (by simp only [cls, hs]) (aB2S_good (P := P) t t' m (ev x))
    · rename_i e hs _
      exact OpG.ofE rfl (by simp only [cls, hs]) (aFreeze_good (P := P) t t' m (ev x))
    · refine OpG.ofPE rfl ?_ (aConv_good (P := P) t t' m (ev x))
      simp only [cls]; split <;> simp
  | makeInterface t x => exact OpG.ofP rfl rfl (aIface_good (P := P) t m (ev x))
  | makeFunc f first caps =>
    refine OpG.ofP rfl rfl (s := Instr.makeFunc f (first.map a.eval) (caps.map a.eval)) (good_val m (fun _ => rfl) ?_)
    simp only [pureR]
    exact ⟨_, _, rfl, by simpa using pureL_of s first.toList, by simpa using pureL_of s caps.toList⟩
  | makeMap t r =>
    cases r with
    | none =>
      have g := aMkMap_good (P := P) t none (by simp) m
      simp only [aop]
      cases h : aMkMap P t S.H X.n with
      | ok v H n => rw [h] at g; exact OpG.ofA rfl rfl g
      | anyb H n => exfalso; unfold aMkMap at h; split at h <;> cases h
      | fail => exact trivial
    | some x =>
      have hx := ev x
      simp only [aop]
      split
      · rename_i k n e
        rw [e] at hx; simp only [pureR] at hx
        have g := aMkMap_good (P := P) t (some (a.eval x)) (by intro v hv; cases hv; exact ⟨_, _, hx⟩) m
        cases h : aMkMap P t S.H X.n with
        | ok v H n => rw [h] at g; exact OpG.ofA rfl rfl g
        | anyb H n => exfalso; unfold aMkMap at h; split at h <;> cases h
        | fail => exact trivial
      · exact trivial
  | makeSlice t l c =>
    have g := aMkSl_good (P := P) t m (ev l) (ev c)
    simp only [aop]
    cases h : aMkSl P t S.H X.n (aeval S.env l) (aeval S.env c) with
    | ok v H n => rw [h] at g; exact OpG.ofA rfl rfl g
    | anyb H n => exfalso; unfold aMkSl at h; repeat' split at h
                  all_goals cases h
    | fail => exact trivial
  | slice t x lo hi mx =>
    cases mx with
    | none =>
      refine OpG.ofP rfl rfl (aSlice_good (P := P) t m (ev x) ?_ ?_ ?_ ?_)
      · intro v hv; cases lo with
        | none => cases hv
        | some l => cases hv; exact ⟨_, rfl, ev l⟩
      · intro hv; cases lo with
        | none => rfl
        | some l => cases hv
      · intro v hv; cases hi with
        | none => cases hv
        | some l => cases hv; exact ⟨_, rfl, ev l⟩
      · intro hv; cases hi with
        | none => rfl
        | some l => cases hv
    | some _ => exact trivial
  | fieldAddr t x f => exact OpG.ofP rfl rfl (aFld_good (P := P) t f m (ev x))
  | field t x f => exact OpG.ofP rfl rfl (aField_good (P := P) t f m (ev x))
  | indexAddr t x i => exact OpG.ofP rfl rfl (aIdx_good (P := P) t m (ev x) (ev i))
  | index t x i => exact OpG.ofP rfl rfl (aIndex_good (P := P) t m (ev x) (ev i))
  | extract x i => exact OpG.ofP rfl rfl (aExtract_good (P := P) i m (ev x))
  | lookup t x i ok => exact OpG.ofE rfl rfl (aLookup_good (P := P) t ok m (ev x) (ev i))
  | call c =>
    obtain ⟨callee, args, argTypes⟩ := c
    cases callee with
    | value f => exact trivial
    | invoke r n => exact trivial
    | builtin b =>
      cases b
      case len =>
        simp only [aop]
        split
        · rename_i x t e1 e2
          have ha : args = #[x] := by rw [← Array.toList_inj]; simpa using e1
          have ht : argTypes = #[t] := by rw [← Array.toList_inj]; simpa using e2
          subst ha ht
          have g := aLen_good (P := P) t type m (ev x)
          have he : execOp a.eval ⟨dst, .call ⟨.builtin .len, #[x], #[t]⟩, type, pos, after, guard⟩ = (do pure (Next.value (← Builtin.len_ #[t] type #[a.eval x]))) := by
            simp [execOp, resolve, invoke, builtin]
          have hc : cls P (.call ⟨.builtin .len, #[x], #[t]⟩) = clsLen P t := rfl
          cases hcl : clsLen P t with
          | P => rw [hcl] at g; exact OpG.ofP he (hc.trans hcl) g
          | R => rw [hcl] at g; exact OpG.ofR he (hc.trans hcl) g
          | A => exfalso; unfold clsLen at hcl; split at hcl <;> cases hcl
          | E => exfalso; unfold clsLen at hcl; split at hcl <;> cases hcl
        · exact trivial
      case min =>
        simp only [aop]
        split
        · rename_i x y e1
          have ha : args = #[x, y] := by rw [← Array.toList_inj]; simpa using e1
          subst ha
          have hx := ev x
          have hy := ev y
          unfold aMM
          split
          · rename_i k a' k' b' e2 e3 _
            rw [e2] at hx; rw [e3] at hy
            simp only [pureR] at hx hy
            exact OpG.ofP (s := Builtin.min_ argTypes type #[a.eval x, a.eval y]) (by simp [execOp, resolve, invoke, builtin]) rfl (good_val m (fun u => by simp [Builtin.min_, hx, hy, Builtin.min2]) rfl)
          · rename_i hh; cases hh
          · exact trivial
        · exact trivial
      case max =>
        simp only [aop]
        split
        · rename_i x y e1
          have ha : args = #[x, y] := by rw [← Array.toList_inj]; simpa using e1
          subst ha
          have hx := ev x
          have hy := ev y
          unfold aMM
          split
          · rename_i hh; cases hh
          · rename_i k a' k' b' e2 e3 _
            rw [e2] at hx; rw [e3] at hy
            simp only [pureR] at hx hy
            exact OpG.ofP (s := Builtin.max_ argTypes type #[a.eval x, a.eval y]) (by simp [execOp, resolve, invoke, builtin]) rfl (good_val m (fun u => by simp [Builtin.max_, hx, hy, Builtin.max2]) rfl)
          · exact trivial
        · exact trivial
      case append =>
        simp only [aop]
        split
        · rename_i x y t t' e1 e2
          have ha : args = #[x, y] := by rw [← Array.toList_inj]; simpa using e1
          have ht : argTypes = #[t, t'] := by rw [← Array.toList_inj]; simpa using e2
          subst ha ht
          have g := aApp_good (P := P) t t' type m (ev x) (ev y)
          exact OpG.ofE (by simp [execOp, resolve, invoke, builtin]) rfl g
        · exact trivial
      all_goals exact trivial
  | _ => exact trivial
end Go.AM
