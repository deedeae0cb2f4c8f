/-
  A call walked on into the callee, with nothing but what is handed in. No condition beyond what each theorem states.
-/
import Derived.Test.YtbbhjklcjlnacaaGreatAm20c
/-! A call walked on into the callee, with nothing but what is handed in. -/
namespace Go.AM

/-- the objects of these numbers, under their new ones -/
def rnHm (ρ : Nat → Option Nat) : List Nat → Hp → Hp
  | [], _ => []
  | id :: l, H => match alook H id with
    | some o => match ρ id, niO ρ o with
      | some j, true => (j, rnO ρ o) :: rnHm ρ l (adel H id)
      | _, _ => rnHm ρ l H
    | none => rnHm ρ l H
/-- .. and the others -/
def remH (ρ : Nat → Option Nat) : List Nat → Hp → Hp
  | [], H => H
  | id :: l, H => match alook H id with
    | some o => match ρ id, niO ρ o with
      | some _, true => remH ρ l (adel H id)
      | _, _ => remH ρ l H
    | none => remH ρ l H

theorem rnHm_star {ρ : Nat → Option Nat} {X Y : Cx} (r : Rn ρ X Y) : ∀ (l : List Nat) (H : Hp) (h : PH), starH X H h →
    ∃ h1 h2, h1.disj h2 ∧ h = h1.join h2 ∧ starH Y (rnHm ρ l H) h1 ∧ starH X (remH ρ l H) h2
  | [], H, h, st => ⟨PH.none, h, PH.none_disj _, (PH.none_join _).symm, rfl, st⟩
  | id :: l, H, h, st => by
    simp only [rnHm, remH]
    cases hl : alook H id with
    | none => exact rnHm_star r l H h st
    | some o =>
      cases hr : ρ id with
      | none => exact rnHm_star r l H h st
      | some j =>
       cases hni : niO ρ o with
       | false => dsimp only; rw [hni]; exact rnHm_star r l H h st
       | true =>
        dsimp only; rw [hni]; dsimp only
        obtain ⟨h1, h2, d, rfl, lt, ro, st'⟩ := starH_take st hl
        obtain ⟨h3, h4, d', rfl, q, q'⟩ := rnHm_star r l (adel H id) h2 st'
        have dd := PH.disj_join_r.1 d
        have f0 := r.at_ _ _ hr
        refine ⟨h1.join h3, h4, PH.disj_join.2 ⟨dd.2, d'⟩, (PH.join_assoc _ _ _).symm, ⟨h1, h3, dd.1, rfl, ⟨f0.1, ?_⟩, q⟩, q'⟩
        rw [f0.2]; exact rn_repO r o _ _ hni ro

theorem starH_append {X : Cx} : ∀ (A B : Hp) (h1 h2 : PH), h1.disj h2 → starH X A h1 → starH X B h2 → starH X (A ++ B) (h1.join h2)
  | [], B, h1, h2, d, p, q => by
    have p : h1 = PH.none := p
    subst p; rw [PH.none_join]; exact q
  | (k, o) :: A, B, h1, h2, d, p, q => by
    obtain ⟨h3, h4, d', rfl, p1, p2⟩ := p
    have dd := PH.disj_join.1 d
    exact ⟨h3, h4.join h2, PH.disj_join_r.2 ⟨d', dd.1⟩, PH.join_assoc _ _ _, p1, starH_append A B h4 h2 dd.2 p2 q⟩

/-- back to the caller's numbers -/
def upR (L : List Nat) (n n' : Nat) (j : Nat) : Option Nat := match L[j]? with
  | some id => some id
  | none => if j < n' then some (n + j) else none

/-- behind a closed call -/
def afterC (G : Go) (L keep : List Nat) (H : Hp) (n : Nat) (v : AV) (H' : Hp) (n' : Nat) (K : AV → Hp → Nat → Prop) : Prop :=
  K (rnV (upR L n n') v) (rnHm (upR L n n') keep H' ++ remH (posOf L) L H) (n + n')

theorem arun_closed {G : Go} {dst : Option Nat} {x : Operand} {cargs : Array Operand} {ats : Array TypeId} {t : ST} {ks : List SI} {env : List (Nat × AV)} {H : Hp} {n : Nat} {f : FuncId} {first caps : List AV} {fn : Func} {sc : SC} {nt : Nat} (L : List Nat)
    (hx : aeval env x = .fn (.func f) first caps) (hf : G.P.funcs[f]? = some fn) (hn : fn.ntmps = nt) (hb : fn.body.bind (comp G.P nt) = some sc) (hcall : ∀ xs w, (callFunc f xs).run G.P w = .ok (.enter f xs) w)
    (hl : (first ++ cargs.toList.map (aeval env) ++ caps).length ≤ nt) (hL : (L.all fun i => decide (i < n)) = true)
    {dm : Bool} (h : ARun ⟨G.P, ⟨fn, dm, none⟩, nt, L.length, fun r H' n' => match r with
      | .ret v => ∃ keep, afterC G L keep H n v H' n' fun v H n => ARun G (.ops t ks ⟨eput env dst v, H, n⟩)
      | .pan v => ∃ keep, afterC G L keep H n v H' n' fun v H n => APan G v ⟨env, H, n⟩⟩ (.code [.code sc] ⟨numA 0 (rnL (posOf L) (first ++ cargs.toList.map (aeval env) ++ caps)), rnHm (posOf L) L H, L.length⟩)) :
    ARun G (.ops (.one ⟨dst, .call ⟨.value x, cargs, ats⟩, none⟩ t) ks ⟨env, H, n⟩) := by
  intro hm hk X hf0 a w s ops ti k hs hck
  obtain ⟨i, ti', oo, rfl, hoi, e1, e2, hdN, hwant, hst⟩ := hs
  have s0 : Sat G.n G.fn.D ⟨env, H, n⟩ X hf0 a w := s
  obtain ⟨hXn, ⟨h0, st, d1, d2, iw, iwi, iwf, dif⟩, henv, hsz, hdf⟩ := s
  have hXn : X.n = n := hXn
  have hk : G.k ≤ n := hk
  have hkX : G.k ≤ X.n := by rw [hXn]; exact hk
  obtain ⟨c, hbc, hcc⟩ : ∃ c, fn.body = some c ∧ comp G.P nt c = some sc := by
    cases hc : fn.body with
    | none => rw [hc] at hb; cases hb
    | some c => rw [hc] at hb; exact ⟨c, rfl, hb⟩
  have px := aeval_pure s0 x
  dsimp only at px
  rw [hx] at px
  simp only [pureR] at px
  obtain ⟨ys, zs, hfv, p1, p2⟩ := px
  have pa : pureL X (cargs.toList.map (aeval env)) (cargs.toList.map a.eval) := pureL_of s0 cargs.toList
  have pall : pureL X (first ++ cargs.toList.map (aeval env) ++ caps) (ys ++ cargs.map a.eval ++ zs).toList := by
    have := pureL_append _ _ _ _ (pureL_append _ _ _ _ p1 pa) p2
    simpa using this
  have hcl : cls G.P oo.op = .E := by rw [e2]; rfl
  -- what is handed in
  let Y : Cx := ⟨X.im, fun j => X.σ (L.getD j 0), L.length⟩
  have r1 : Rn (posOf L) X Y := ⟨PH.sub_refl _, fun id j e => by
    have hg := posOf_get L id j e
    exact ⟨(List.getElem?_eq_some_iff.1 hg).1, by simp [Y, List.getD_eq_getElem?_getD, hg]⟩⟩
  obtain ⟨hA, hB, dAB, rfl, stA, stB⟩ := rnHm_star r1 L H h0 st
  have dd1 := PH.disj_join.1 d1
  have dd2 := PH.disj_join.1 d2
  have iwA := PH.inW_left iw
  have iwB := PH.inW_right dAB iw
  have mY : Mem Y (hf0.join hB) (rnHm (posOf L) L H) w :=
    ⟨hA, stA, dd1.1, PH.disj_join_r.2 ⟨dd2.1, dAB⟩, iwA, iwi, PH.inW_join ⟨iwf, iwB⟩, PH.disj_join_r.2 ⟨dif, dd1.2.symm⟩⟩
  have pY := rn_pureL r1 _ _ pall
  show wpOpH G.P ops _ i _ a w
  unfold wpOpH
  simp only [hoi, hwant, if_true]
  refine ⟨by unfold Hit; simp only [hcl], ?_⟩
  have hrun : (execOp a.eval oo).run G.P w = .ok (.enter f (ys ++ cargs.map a.eval ++ zs)) w := by
    unfold execOp; rw [e2]
    simp only [resolve, hfv, Deferred.ofValue]
    simp [invoke, hcall]
  unfold Oper.wp
  rw [hrun]
  simp only [Oper.upon]
  have hlen := pureL_len _ _ pall
  have hlenY := pureL_len _ _ pY
  have hxs : (ys ++ cargs.map a.eval ++ zs).size ≤ fn.ntmps := by
    have : (ys ++ cargs.map a.eval ++ zs).size = (first ++ cargs.toList.map (aeval env) ++ caps).length := by rw [← hlen]; simp
    omega
  have sc0 : Sat nt none ⟨numA 0 (rnL (posOf L) (first ++ cargs.toList.map (aeval env) ++ caps)), rnHm (posOf L) L H, L.length⟩ Y (hf0.join hB) { tmps := (ys ++ cargs.map a.eval ++ zs) ++ Array.replicate (fn.ntmps - (ys ++ cargs.map a.eval ++ zs).size) undef, defers := [] } w := by
    refine ⟨rfl, mY, ?_, by simp only [Array.size_append, Array.size_replicate] at hxs ⊢; omega, rfl⟩
    intro s v e
    obtain ⟨_, x, e1, e2⟩ := pureL_get _ _ 0 s v pY e
    refine ⟨x, ?_, e2⟩
    have hlt := (List.getElem?_eq_some_iff.1 e1).1
    rw [Array.getElem?_append_left (by simpa using hlt)]
    rw [← Array.getElem?_toList]; simpa using e1
  refine Calls.mono (calls_of_runq hf hbc (RunQ.mono finQ.body (h hm (Nat.le_refl _) Y (hf0.join hB) _ w sc0 [.code c] ⟨hcc, trivial⟩))) ?_
  -- back
  have back : ∀ (v' : AV) (H' : Hp) (X' : Cx) (v : Value) (w' : World) (keep : List Nat) (K : AV → Hp → Nat → Prop), Y.im.sub X'.im → L.length ≤ X'.n → (∀ id, id < L.length → X'.σ id = Y.σ id) → Mem X' (hf0.join hB) H' w' → pureR X' v' v →
      afterC G L keep H n v' H' X'.n K → ∃ Z u Hn, X.le Z ∧ K u Hn Z.n ∧ Mem Z hf0 Hn w' ∧ pureR Z u v := by
    rintro v' H' X' v w' keep K im hnx hσ ⟨h', st', e1, e2, e3, e4, e5, e6⟩ pv hK
    let Z : Cx := ⟨X'.im, fun id => if id < n then X.σ id else X'.σ (id - n), n + X'.n⟩
    have leZ : X.le Z := ⟨im, by show X.n ≤ n + X'.n; omega, fun id hid => by rw [hXn] at hid; simp [Z, hid]⟩
    have r2 : Rn (upR L n X'.n) X' Z := ⟨PH.sub_refl _, fun j id e => by
      unfold upR at e
      split at e
      · rename_i id' hg
        cases e
        have hlt := (List.getElem?_eq_some_iff.1 hg).1
        have hid : id < n := by
          have := List.all_eq_true.1 hL id (List.mem_of_getElem? hg)
          simpa using this
        refine ⟨by show id < n + X'.n; omega, ?_⟩
        rw [hσ j hlt]
        simp [Z, Y, hid, List.getD_eq_getElem?_getD, hg]
      · split at e
        · cases e
          refine ⟨by show n + j < n + X'.n; omega, ?_⟩
          show (if n + j < n then X.σ (n + j) else X'.σ (n + j - n)) = X'.σ j
          rw [if_neg (by omega), Nat.add_sub_cancel_left]
        · cases e⟩
    obtain ⟨k1, k2, dk, rfl, q1, _⟩ := rnHm_star r2 keep H' h' st'
    have a1 := PH.disj_join.1 e1
    have a2 := PH.disj_join_r.1 e2
    have a3 := PH.disj_join.1 a2.1
    have a4 := PH.disj_join.1 a2.2
    have a5 := PH.disj_join_r.1 e6
    have hfB : hf0.disj hB := dd2.2.symm
    have stB' : starH Z (remH (posOf L) L H) hB := starH_mono leZ _ _ stB
    refine ⟨Z, _, _, leZ, hK, ⟨k1.join hB, starH_append _ _ _ _ a4.1 q1 stB', PH.disj_join.2 ⟨a1.1, a5.2.symm⟩, PH.disj_join.2 ⟨a3.1, dd2.2⟩, PH.inW_join ⟨PH.inW_left e3, PH.inW_right hfB e5⟩, e4, PH.inW_left e5, a5.1⟩, rn_pureR r2 _ _ pv⟩
  intro e w' q
  cases e with
  | returned v =>
    obtain ⟨xt, v', H', X', im, hnx, hσ, m', p', keep, run⟩ := q
    obtain ⟨Z, u, Hn, le, hK, mZ, pZ⟩ := back v' H' X' v w' keep _ im hnx hσ m' p' run
    have res := hK hm (Nat.le_trans hkX le.n) Z hf0 (a.put dst v) w' (Sat.next s0 hdN le rfl mZ pZ) ops ti' k (mt_of_strip hst) hck
    rw [e1]
    exact wpCT_mono (cont_weaken le hkX xt) ti' _ w' res
  | panicked ch =>
    obtain ⟨xt, v, rfl, v', H', X', im, hnx, hσ, m', p', keep, run⟩ := q
    obtain ⟨Z, u, Hn, le, hK, mZ, pZ⟩ := back v' H' X' v w' keep _ im hnx hσ m' p' run
    exact finQ.weaken le hkX xt _ a w' (hK hm (Nat.le_trans hkX le.n) Z hf0 a w' ⟨rfl, mZ, envR_mono le henv, hsz, hdf.mono le⟩ v pZ)
  | outgrown => exact q.elim
end Go.AM
