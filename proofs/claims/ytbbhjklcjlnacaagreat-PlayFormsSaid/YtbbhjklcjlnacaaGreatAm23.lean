/-
  Contracts of functions that leave the numbered objects as they are, and what comes of a run. No condition beyond what each theorem states.
-/
import Derived.Test.YtbbhjklcjlnacaaGreatAm22
/-! Contracts of functions that leave the numbered objects as they are, and what comes of a run. -/
namespace Go.AM
variable {P : Program} {tab : Nat → Option Fi} {cst : Nat → List AV → Hp → Option (AV × Hp × Nat)}

theorem starH_drop {X : Cx} : ∀ (A B : Hp) (h : PH), starH X (A ++ B) h → ∃ h1 h2 : PH, h1.disj h2 ∧ h = h1.join h2 ∧ starH X B h2
  | [], B, h, st => ⟨PH.none, h, PH.none_disj _, (PH.none_join _).symm, st⟩
  | (k, o) :: A, B, h, ⟨h1, h2, d, e, p, q⟩ => by
    obtain ⟨h3, h4, d', rfl, st⟩ := starH_drop A B h2 q
    have dd := PH.disj_join_r.1 d
    exact ⟨h1.join h3, h4, PH.disj_join.2 ⟨dd.2, d'⟩, by rw [e, PH.join_assoc], st⟩
theorem Mem.drop {X : Cx} {hf : PH} {A B : Hp} {w : World} (m : Mem X hf (A ++ B) w) : Mem X hf B w := by
  obtain ⟨h, st, d1, d2, iw, r⟩ := m
  obtain ⟨h1, h2, d, rfl, st'⟩ := starH_drop A B h st
  exact ⟨h2, st', (PH.disj_join.1 d1).2, (PH.disj_join.1 d2).2, PH.inW_right d iw, r⟩
theorem Mem.lt {X : Cx} {hf : PH} {H : Hp} {w : World} (m : Mem X hf H w) {id : Nat} {o : AO} (hl : alook H id = some o) : id < X.n := by
  obtain ⟨h, st, _⟩ := m
  obtain ⟨_, _, _, _, l, _⟩ := starH_focus H h st hl
  exact l

/-- What a walk over the whole function says, as a contract. -/
theorem cal_of_arun {f : FuncId} {fn : Func} {sc : SC} {nt : Nat} {dm : Bool} {xs : List AV} {H H' : Hp} {v : AV} {dn : Nat}
    (hf : P.funcs[f]? = some fn) (hn : fn.ntmps = nt) (hb : fn.body.bind (comp P nt) = some sc) (hl : xs.length ≤ nt)
    (h : ∀ n, (∀ id o, alook H id = some o → id < n) → ARun ⟨P, ⟨fn, dm, none⟩, nt, n, fun r H1 n1 => match r with
      | .ret u => n1 ≤ n + dn ∧ ∀ X hf w x, Mem X hf H1 w → X.n = n1 → pureR X u x → ∃ X', X.le X' ∧ X'.n = X.n ∧ Mem X' hf H' w ∧ pureR X' v x
      | .pan _ => False⟩ (.code [.code sc] ⟨numA 0 xs, H, n⟩)) : CalP P f xs H v H' dn := by
  intro hm X hf0 w vals m p
  obtain ⟨c, hbc, hcc⟩ : ∃ c, fn.body = some c ∧ comp P nt c = some sc := by
    cases hc : fn.body with
    | none => rw [hc] at hb; cases hb
    | some c => rw [hc] at hb; exact ⟨c, rfl, hb⟩
  have hlen := pureL_len _ _ p
  have hxs : vals.size = xs.length := by simpa using hlen
  have s : Sat nt none ⟨numA 0 xs, H, X.n⟩ X hf0 { tmps := vals ++ Array.replicate (fn.ntmps - vals.size) undef, defers := [] } w := by
    refine ⟨rfl, m, ?_, by simp; omega, rfl⟩
    intro s v e
    obtain ⟨_, x, e1, e2⟩ := pureL_get _ _ 0 s v p e
    refine ⟨x, ?_, e2⟩
    have hlt := (List.getElem?_eq_some_iff.1 e1).1
    rw [Array.getElem?_append_left (by simpa using hlt)]
    rw [← Array.getElem?_toList]; simpa using e1
  refine Calls.mono (calls_of_runq hf hbc (RunQ.mono finQ.body (h X.n (fun id o hl => m.lt hl) hm (Nat.le_refl _) X hf0 _ w s [.code c] ⟨hcc, trivial⟩))) ?_
  intro e w' q
  cases e with
  | returned x =>
    obtain ⟨xt, u, H1, X', im, hnx, hσ, m', p', hn1, k⟩ := q
    obtain ⟨X2, le, e1, m2, p2⟩ := k X' hf0 w' x m' rfl p'
    have le0 : X.le X' := ⟨im, hnx, hσ⟩
    have le3 : X2.le ⟨X2.im, X2.σ, X.n + dn⟩ := ⟨PH.sub_refl _, by rw [e1]; exact hn1, fun _ _ => rfl⟩
    obtain ⟨h0, st, r⟩ := m2
    exact ⟨x, ⟨X2.im, X2.σ, X.n + dn⟩, rfl, xt, (le0.trans le).trans le3, rfl, ⟨h0, starH_mono le3 _ _ st, r⟩, pureR_mono le3 _ _ p2⟩
  | panicked ch => obtain ⟨_, _, _, _, _, _, _, _, _, _, _, hk⟩ := q; exact hk.elim
  | outgrown => exact q.elim

/-- a run that is known, without objects -/
theorem run_base (ht : TabOk P tab) (hc : CstOk P cst) {m f : Nat} (h : isTrue (rf P tab cst m f [] [] 0) = true) (hm : P.follows .mixedOrders = true) (X : Cx) (hf : PH) (w : World) (d : X.im.disj hf) (iw : X.im.inW w) (fw : hf.inW w) :
    Calls P f #[] w fun e w' => e = .returned (.bool true) ∧ Ext w w' ∧ ∃ im : PH, X.im.sub im ∧ im.inW w' ∧ hf.inW w' ∧ im.disj hf := by
  have s := rf_sound ht hc m f [] [] 0
  generalize rf P tab cst m f [] [] 0 = r at *
  cases r with
  | pan v S D => cases h
  | bad a b => cases h
  | ok r =>
    obtain ⟨v, H, n⟩ := r
    have hv : v = .bool true := by
      cases v with
      | bool b => cases b
                  · cases h
                  · rfl
      | _ => cases h
    subst hv
    obtain ⟨fi, fn, _, h1, h2, h3, h4, h5, run⟩ := s
    obtain ⟨c, hbc, hcc⟩ : ∃ c, fn.body = some c ∧ comp P fi.nt c = some fi.sc := by
      cases hc : fn.body with
      | none => rw [hc] at h3; cases h3
      | some c => rw [hc] at h3; exact ⟨c, rfl, h3⟩
    let Y : Cx := ⟨X.im, X.σ, 0⟩
    have mY : Mem Y hf [] w := ⟨PH.none, rfl, PH.none_disj _, PH.none_disj _, (fun b o e => by cases e), iw, fw, d⟩
    have s : Sat fi.nt none ⟨numA 0 [], [], 0⟩ Y hf { tmps := #[] ++ Array.replicate (fn.ntmps - (#[] : Array Value).size) undef, defers := [] } w := by
      refine ⟨rfl, mY, (fun s v e => by cases e), by simp; omega, rfl⟩
    refine Calls.mono (calls_of_runq h1 hbc (RunQ.mono finQ.body (run (fun r _ _ => r = .ret (.bool true)) rfl hm (Nat.le_refl _) Y hf _ w s [.code c] ⟨hcc, trivial⟩))) ?_
    intro e w' q
    cases e with
    | returned x =>
      obtain ⟨xt, u, H1, X', im, hnx, hσ, ⟨h0, st, e1, e2, e3, e4, e5, e6⟩, p', hk⟩ := q
      cases hk
      simp only [pureR] at p'
      exact ⟨by rw [p'], xt, X'.im, im, e4, e5, e6⟩
    | panicked ch => obtain ⟨_, _, _, _, _, _, _, _, _, _, _, hk⟩ := q; cases hk
    | outgrown => exact q.elim
theorem run_true (ht : TabOk P tab) (hc : CstOk P cst) {m f : Nat} (h : isTrue (rf P tab cst m f [] [] 0) = true) (hm : P.follows .mixedOrders = true) (w : World) :
    Calls P f #[] w fun e w' => e = .returned (.bool true) ∧ Ext w w' ∧ ∀ (b : Nat) (o : Obj), w.heap[b]? = some o → w'.heap[b]? = some o := by
  refine (run_base ht hc h hm ⟨PH.none, fun _ => default, 0⟩ (fun b => w.heap[b]?) w (PH.none_disj _) (fun b o e => by cases e) (fun b o e => e)).mono ?_
  rintro e w' ⟨h1, h2, im, _, _, h3, _⟩
  exact ⟨h1, h2, h3⟩
theorem cal_of_run (ht : TabOk P tab) (hc : CstOk P cst) {m f : Nat} (h : isTrue (rf P tab cst m f [] [] 0) = true) (H : Hp) : CalP P f [] H (.bool true) H 0 := by
  intro hm X hf w vals ⟨h0, st, d1, d2, iw, iwi, iwf, dif⟩ p
  have hv : vals = #[] := by
    have := pureL_len _ _ p
    exact Array.eq_empty_of_size_eq_zero (by simpa using this)
  subst hv
  refine (run_base ht hc h hm X (hf.join h0) w (PH.disj_join_r.2 ⟨dif, d1.symm⟩) iwi (PH.inW_join ⟨iwf, iw⟩)).mono ?_
  rintro e w' ⟨rfl, h2, im, i1, i2, i3, i4⟩
  have a := PH.disj_join_r.1 i4
  have le : X.le ⟨im, X.σ, X.n⟩ := ⟨i1, Nat.le_refl _, fun _ _ => rfl⟩
  exact ⟨_, ⟨im, X.σ, X.n⟩, rfl, h2, le, rfl, ⟨h0, starH_mono le _ _ st, a.2.symm, d2, PH.inW_right d2.symm i3, i2, PH.inW_left i3, a.1⟩, rfl⟩

/-- An object that nobody writes any more. -/
theorem Mem.rop {X : Cx} {hf : PH} {H : Hp} {w : World} {id sz : Nat} {e : AV} {es : List AV} {x : Value} (m : Mem X hf ((id, .row sz (e :: es)) :: H) w) (p : pureR X (.ptr id 0 0) x) :
    ∃ X', X.le X' ∧ X'.n = X.n ∧ Mem X' hf H w ∧ pureR X' (.rop [] 0) x := by
  obtain ⟨h, ⟨h1, h2, d, rfl, ⟨l, r⟩, st⟩, d1, d2, iw, iwi, iwf, dif⟩ := m
  simp only [repO] at r
  obtain ⟨e1, e2, r⟩ := r
  rcases r with ⟨z, _⟩ | ⟨c, T, ys, oc, hsz, tk, h3, h4, d', rfl, hone, q⟩
  · simp at e2; omega
  · have hone : h3 = PH.one (X.σ id).blk (.cells c T (0, 0)) := hone
    have dd := PH.disj_join.1 d
    have dd1 := PH.disj_join.1 d1
    have dd2 := PH.disj_join.1 d2
    have a1 := PH.disj_join.1 dd1.1
    have a2 := PH.disj_join.1 dd2.1
    let X' : Cx := ⟨X.im.join h3, X.σ, X.n⟩
    have le : X.le X' := ⟨fun b o hb => by simp [X', PH.join, hb], Nat.le_refl _, fun _ _ => rfl⟩
    refine ⟨X', le, rfl, ⟨h2, starH_mono le _ _ st, PH.disj_join_r.2 ⟨dd1.2, dd.1.symm⟩, dd2.2, PH.inW_right d iw, PH.inW_join ⟨iwi, PH.inW_left (PH.inW_left iw)⟩, iwf, PH.disj_join.2 ⟨dif, a2.1⟩⟩, ?_⟩
    simp only [pureR] at p ⊢
    refine ⟨(X.σ id).blk, 0, c, T, (0, 0), [], by rw [p.2]; simp, ?_, by simp [pureCs], rfl⟩
    have : X.im (X.σ id).blk = Option.none := by
      rw [hone] at a1
      rcases a1.1 (X.σ id).blk with e | e
      · simp [PH.one] at e
      · exact e
    simp [X', PH.join, this, hone, PH.one]
attribute [go_sem] resA resT List.getElem?_cons_zero List.getElem?_cons_succ List.getElem?_nil List.set_cons_zero List.set_cons_succ List.nil_append List.append_nil List.cons_append List.take_zero List.drop_zero List.take_nil List.drop_nil
end Go.AM
