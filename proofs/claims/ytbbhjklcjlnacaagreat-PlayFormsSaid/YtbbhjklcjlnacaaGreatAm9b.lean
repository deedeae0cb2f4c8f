/-
  A literal's bytes: nobody writes them any more. No condition beyond what each theorem states.
-/
import Derived.Test.YtbbhjklcjlnacaaGreatAm9
/-! A literal's bytes: nobody writes them any more. -/
namespace Go.AM
variable {P : Program}

/-- 'convert' from a slice to the same type, as a []byte literal of a text is laid: the row is no one's to write from here on. -/
def aFreeze (P : Program) (s t : TypeId) (H : Hp) (n : Nat) (x : AV) : AR := match x, tsh P s with
  | .sl id 0 len, .sl e => match alook H id with
    | some (.row sz es) => if s = t ∧ tsh P e = .int .u8 ∧ 0 < len ∧ es.length = len ∧ (es.all AV.solid) = true then .ok (.imm es) (adel H id) n else .fail
    | _ => .fail
  | _, _ => .fail

theorem solid_notagg {v : AV} (h : v.solid = true) : ∀ cs, v ≠ .agg cs := by
  intro cs e; subst e; simp [AV.solid] at h

theorem repE_solid {X : Cx} {sz : Nat} : ∀ (es : List AV) (ys : List Value) (h : PH), (es.all AV.solid) = true → repE X sz es ys h → pureE X sz es ys ∧ h = PH.none
  | [], ys, h, _, r => by simp only [repE, HP.pure] at r; simp only [pureE]; exact r
  | v :: es, ys, h, s, r => by
    simp only [List.all_cons, Bool.and_eq_true] at s
    have hv := solid_notagg s.1
    have key : ∃ z zs', ys = z :: zs' ∧ sz = 1 ∧ z.oneCell' = true ∧ HP.star (rep X v z) (repE X sz es zs') h := by
      cases v <;> first | (exact absurd rfl (hv _)) | simpa only [repE, HP.ex] using r
    obtain ⟨z, zs, rfl, e1, e2, h1, h2, d, rfl, p, q⟩ := key
    obtain ⟨p1, rfl⟩ := (rep_free (solid_free s.1)).1 p
    obtain ⟨q1, rfl⟩ := repE_solid es zs h2 s.2 q
    refine ⟨?_, by rw [PH.join_none]⟩
    cases v <;> first | (exact absurd rfl (hv _)) | (simp only [pureE]; exact ⟨z, zs, rfl, e1, e2, p1, q1⟩)

theorem one_disj {b : Nat} {o o' : Obj} {k : PH} (h : (PH.one b o).disj k) : (PH.one b o').disj k := by
  intro c
  rcases h c with e | e
  · left; simp only [PH.one] at e ⊢; by_cases hb : c = b <;> simp_all
  · right; exact e
theorem disj_at {b : Nat} {o : Obj} {k : PH} (h : (PH.one b o).disj k) : k b = Option.none := by
  rcases h b with e | e
  · simp [PH.one] at e
  · exact e

theorem aFreeze_good {X : Cx} {hf : PH} {H : Hp} {w : World} (s t : TypeId) {a : AV} {x : Value} (m : Mem X hf H w) (ha : pureR X a x) : Good P (convert s t x) X hf w (aFreeze P s t H X.n a) := by
  unfold aFreeze
  split
  · rename_i id len e hs
    split
    · rename_i sz es hl
      split
      · rename_i hc
        obtain ⟨rfl, hu8, hpos, hlen, hsol⟩ := hc
        obtain ⟨h, st, d1, d2, iw, iwi, iwf, dif⟩ := m
        obtain ⟨h1, h2, d, rfl, l, ro, _, del⟩ := starH_focus H h st hl
        simp only [pureR] at ha
        obtain ⟨_, a0, q1, q2, rfl, q3⟩ := ha
        simp only [repO] at ro
        obtain ⟨e1, e2, ro⟩ := ro
        rcases ro with ⟨z0, _⟩ | ⟨cs, T, ys, oc, hsz, tk, h3, h4, d', rfl, hone, q⟩
        · omega
        · obtain ⟨pe, rfl⟩ := repE_solid es ys h4 hsol q
          have hone' : h3 = PH.one (X.σ id).blk (.cells cs T (0, 0)) := hone
          subst hone'
          rw [PH.join_none] at d d1 d2 iw
          have a1 := PH.disj_join.1 d1
          have a2 := PH.disj_join.1 d2
          have hp : w.heap[(X.σ id).blk]? = some (.cells cs T (0, 0)) := iw _ _ (by simp [PH.join, PH.one])
          have haddr : a0 = some ⟨(X.σ id).blk, 0, none⟩ := by have := q3 (by omega); simpa using this
          subst haddr
          let o' : Obj := .cells cs T (cs.size, cs.size + 1)
          let w' : World := w.freeze ⟨(X.σ id).blk, cs.size, none⟩ 1
          have u : Upd w w' (X.σ id).blk o' := by
            refine ⟨⟨rfl, rfl, rfl, by simp [w', World.freeze]⟩, ?_, fun c hc => ?_⟩
            · simp [w', o', World.freeze, Array.getElem?_modify, hp]
            · simp only [w', World.freeze]; simp [Array.getElem?_modify, Ne.symm hc]
          let X' : Cx := ⟨X.im.join (PH.one (X.σ id).blk o'), X.σ, X.n⟩
          have le : X.le X' := ⟨fun b o hb => by simp [X', PH.join, hb], Nat.le_refl _, fun _ _ => rfl⟩
          have imat : X'.im (X.σ id).blk = some o' := by simp [X', PH.join, disj_at a1.1, PH.one]
          refine ⟨.slice (some ⟨(X.σ id).blk, 0, none⟩) len ((X.σ id).cap - 0), w', X', ?_, u.toExt, le, rfl, ⟨h2, del X' le, ?_, a2.2, ?_, ?_, ?_, ?_⟩, ?_⟩
          · have hs8 := und_of_int hu8
            simp [convert, run_underlying (und_of_sl hs), run_underlying hs8, markStringish, shape, freeze, Sem.run, World.shape?, hp, w']
          · exact PH.disj_join_r.2 ⟨a1.2, (one_disj d).symm⟩
          · exact u.inW_other (PH.inW_right d iw) (disj_at d)
          · exact PH.inW_join ⟨u.inW_other iwi (disj_at a1.1), fun b o hb => by
              simp only [PH.one] at hb; split at hb
              · rename_i hbe; cases hb; rw [hbe]; exact u.here
              · cases hb⟩
          · exact u.inW_other iwf (disj_at a2.1)
          · exact PH.disj_join.2 ⟨dif, one_disj a2.1⟩
          · simp only [pureR]
            refine ⟨some ⟨(X.σ id).blk, 0, none⟩, (X.σ id).cap - 0, by omega, by rw [hlen], Or.inr ⟨(X.σ id).blk, 0, sz, cs, T, _, ys, rfl, imat, pureE_mono le _ _ _ pe, by simpa using tk⟩⟩
      · exact trivial
    · exact trivial
  · exact trivial
end Go.AM
