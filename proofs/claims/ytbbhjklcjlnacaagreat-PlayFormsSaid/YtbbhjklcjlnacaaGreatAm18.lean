/-
  Objects numbered anew; what nobody leads to is forgotten. No condition beyond what each theorem states.
-/
import Derived.Test.YtbbhjklcjlnacaaGreatAm17
/-! Objects numbered anew; what nobody leads to is forgotten. -/
namespace Go.AM

def posOf : List Nat → Nat → Option Nat
  | [], _ => none
  | a :: l, i => if i = a then some 0 else match posOf l i with
    | some j => some (j + 1)
    | none => none
theorem posOf_get : ∀ (l : List Nat) (i j : Nat), posOf l i = some j → l[j]? = some i
  | [], i, j, h => by simp [posOf] at h
  | a :: l, i, j, h => by
    simp only [posOf] at h
    split at h
    · rename_i e; cases h; simp [e]
    · split at h
      · rename_i j' e; cases h; simpa using posOf_get l i j' e
      · cases h

mutual
def rnV (L : Nat → Option Nat) : AV → AV
  | .ptr id i off => match L id with
    | some j => .ptr j i off
    | none => .top
  | .sl id off len => match L id with
    | some j => .sl j off len
    | none => .top
  | .mp id => match L id with
    | some j => .mp j
    | none => .top
  | .rop cs off => .rop (rnL L cs) off
  | .imm es => .imm (rnL L es)
  | .fn f a b => .fn f (rnL L a) (rnL L b)
  | .iface t v => .iface t (rnV L v)
  | .agg cs => .agg (rnL L cs)
  | .tup vs => .tup (rnL L vs)
  | .ownp o => .ownp (rnO L o)
  | .ownsl o => .ownsl (rnO L o)
  | .ownm o => .ownm (rnO L o)
  | v => v
def rnO (L : Nat → Option Nat) : AO → AO
  | .row sz es => .row sz (rnL L es)
  | .map ks vs => .map ks (rnL L vs)
  | .mapx c bs ks vs => .mapx c bs ks (rnL L vs)
  | .iter m a b c => match L m with
    | some j => .iter j a b c
    | none => .iter m a b c
def rnL (L : Nat → Option Nat) : List AV → List AV
  | [] => []
  | v :: vs => rnV L v :: rnL L vs
end

mutual
/-- each iterator's map stays -/
def niV (L : Nat → Option Nat) : AV → Bool
  | .rop cs _ => niL L cs
  | .imm es => niL L es
  | .fn _ a b => niL L a && niL L b
  | .iface _ v => niV L v
  | .agg cs => niL L cs
  | .tup vs => niL L vs
  | .ownp o => niO L o
  | .ownsl o => niO L o
  | .ownm o => niO L o
  | _ => true
def niO (L : Nat → Option Nat) : AO → Bool
  | .row _ es => niL L es
  | .map _ vs => niL L vs
  | .mapx _ _ _ vs => niL L vs
  | .iter m _ _ _ => (L m).isSome
def niL (L : Nat → Option Nat) : List AV → Bool
  | [] => true
  | v :: vs => niV L v && niL L vs
end

theorem rnL_len (L : Nat → Option Nat) : ∀ vs : List AV, (rnL L vs).length = vs.length
  | [] => rfl
  | v :: vs => by simp [rnL, rnL_len L vs]

/-- how the new numbers stand to the old ones -/
structure Rn (L : Nat → Option Nat) (X Y : Cx) : Prop where
  im : X.im.sub Y.im
  at_ : ∀ id j, L id = some j → j < Y.n ∧ Y.σ j = X.σ id

theorem rn_agg {L : Nat → Option Nat} {v : AV} (h : ∀ cs, v ≠ .agg cs) : ∀ cs, rnV L v ≠ .agg cs := by
  intro cs
  cases v <;> first
    | (exact absurd rfl (h _))
    | (simp only [rnV]; exact fun e => by cases e)
    | (simp only [rnV]; split <;> exact fun e => by cases e)

theorem pureE_one' {X : Cx} {sz : Nat} {v : AV} {vs : List AV} {ys : List Value} (h : ∀ cs, v ≠ .agg cs) : pureE X sz (v :: vs) ys ↔ ∃ z zs', ys = z :: zs' ∧ sz = 1 ∧ z.oneCell' = true ∧ pureR X v z ∧ pureE X sz vs zs' := by
  cases v <;> first | (exact absurd rfl (h _)) | simp only [pureE]
theorem repE_one' {X : Cx} {sz : Nat} {v : AV} {vs : List AV} {ys : List Value} {h' : PH} (h : ∀ cs, v ≠ .agg cs) : repE X sz (v :: vs) ys h' ↔ ∃ z zs', ys = z :: zs' ∧ sz = 1 ∧ z.oneCell' = true ∧ HP.star (rep X v z) (repE X sz vs zs') h' := by
  cases v <;> first | (exact absurd rfl (h _)) | simp only [repE, HP.ex]

mutual
theorem rn_pureR {L : Nat → Option Nat} {X Y : Cx} (r : Rn L X Y) : ∀ (v : AV) (x : Value), pureR X v x → pureR Y (rnV L v) x
  | .bool _, _, h => h | .int _ _, _, h => h | .str _, _, h => h | .nilp, _, h => h | .nilsl, _, h => h | .nilm, _, h => h | .nilfn, _, h => h | .nilif, _, h => h
  | .ptr id i off, x, h => by
    simp only [rnV]
    split
    · rename_i j e; obtain ⟨a, b⟩ := r.at_ _ _ e; simp only [pureR] at h ⊢; rw [b]; exact ⟨a, h.2⟩
    · exact trivial
  | .sl id off len, x, h => by
    simp only [rnV]
    split
    · rename_i j e; obtain ⟨a, b⟩ := r.at_ _ _ e; simp only [pureR] at h ⊢; rw [b]; exact ⟨a, h.2⟩
    · exact trivial
  | .mp id, x, h => by
    simp only [rnV]
    split
    · rename_i j e; obtain ⟨a, b⟩ := r.at_ _ _ e; simp only [pureR] at h ⊢; rw [b]; exact ⟨a, h.2⟩
    · exact trivial
  | .rop cs off, x, h => by
    simp only [rnV, pureR] at h ⊢
    obtain ⟨b, o, c, T, fz, ys, e, i, p, q⟩ := h
    exact ⟨b, o, c, T, fz, ys, e, r.im _ _ i, rn_pureCs r cs ys p, q⟩
  | .imm es, x, h => by
    simp only [rnV, pureR] at h ⊢
    obtain ⟨a, cap, l, e, q⟩ := h
    refine ⟨a, cap, by rw [rnL_len]; exact l, by rw [rnL_len]; exact e, q.imp (fun e => by rw [e]; rfl) ?_⟩
    rintro ⟨b, o, sz, c, T, fz, ys, e, i, p, q⟩
    exact ⟨b, o, sz, c, T, fz, ys, e, r.im _ _ i, rn_pureE r sz es ys p, q⟩
  | .fn f first caps, x, h => by
    simp only [rnV, pureR] at h ⊢
    obtain ⟨ys, zs, e, p, q⟩ := h
    exact ⟨ys, zs, e, rn_pureL r first _ p, rn_pureL r caps _ q⟩
  | .iface t v, x, h => by
    simp only [rnV, pureR] at h ⊢
    obtain ⟨y, e, p⟩ := h
    exact ⟨y, e, rn_pureR r v y p⟩
  | .agg cs, x, h => by
    simp only [rnV, pureR] at h ⊢
    obtain ⟨y, e, p⟩ := h
    exact ⟨y, e, rn_pureCs r cs _ p⟩
  | .tup vs, x, h => by
    simp only [rnV, pureR] at h ⊢
    obtain ⟨y, e, p⟩ := h
    exact ⟨y, e, rn_pureL r vs _ p⟩
  | .ownp _, _, h => h.elim | .ownsl _, _, h => h.elim | .ownm _, _, h => h.elim | .top, _, h => h
theorem rn_pureL {L : Nat → Option Nat} {X Y : Cx} (r : Rn L X Y) : ∀ (vs : List AV) (ys : List Value), pureL X vs ys → pureL Y (rnL L vs) ys
  | [], _, h => h
  | v :: vs, ys, h => by
    simp only [rnL, pureL] at h ⊢
    obtain ⟨z, zs, e, p, q⟩ := h
    exact ⟨z, zs, e, rn_pureR r v z p, rn_pureL r vs zs q⟩
theorem rn_pureCs {L : Nat → Option Nat} {X Y : Cx} (r : Rn L X Y) : ∀ (vs : List AV) (ys : List Value), pureCs X vs ys → pureCs Y (rnL L vs) ys
  | [], _, h => h
  | v :: vs, ys, h => by
    simp only [rnL, pureCs] at h ⊢
    obtain ⟨z, zs, e, o, p, q⟩ := h
    exact ⟨z, zs, e, o, rn_pureR r v z p, rn_pureCs r vs zs q⟩
theorem rn_pureE {L : Nat → Option Nat} {X Y : Cx} (r : Rn L X Y) (sz : Nat) : ∀ (vs : List AV) (ys : List Value), pureE X sz vs ys → pureE Y sz (rnL L vs) ys
  | [], _, h => by simpa only [rnL, pureE] using h
  | v :: vs, ys, h => by
    by_cases hv : ∃ cs, v = .agg cs
    · obtain ⟨cs, rfl⟩ := hv
      simp only [rnL, rnV, pureE] at h ⊢
      obtain ⟨z, zs, e, o, p, q⟩ := h
      exact ⟨z, zs, e, o, rn_pureCs r cs z p, rn_pureE r sz vs zs q⟩
    · have hv' : ∀ cs, v ≠ .agg cs := fun cs e => hv ⟨cs, e⟩
      simp only [rnL]
      rw [pureE_one' hv'] at h
      rw [pureE_one' (rn_agg hv')]
      obtain ⟨z, zs, e, o, o', p, q⟩ := h
      exact ⟨z, zs, e, o, o', rn_pureR r v z p, rn_pureE r sz vs zs q⟩
end

mutual
theorem rn_rep {L : Nat → Option Nat} {X Y : Cx} (r : Rn L X Y) : ∀ (v : AV) (x : Value) (h : PH), niV L v = true → rep X v x h → rep Y (rnV L v) x h
  | .ownp o, x, h, n, k => by
    simp only [rnV, rep, HP.ex] at k ⊢
    obtain ⟨pl, e, p⟩ := k
    exact ⟨pl, e, rn_repO r o pl h n p⟩
  | .ownsl o, x, h, n, k => by
    simp only [rnV, rep, HP.ex] at k ⊢
    obtain ⟨pl, m, a, q1, q2, q3, ⟨sz, es, e, q4⟩, p⟩ := k
    subst e
    exact ⟨pl, m, a, q1, q2, q3, ⟨sz, rnL L es, rfl, by rw [rnL_len]; exact q4⟩, rn_repO r _ pl h n p⟩
  | .ownm o, x, h, n, k => by
    simp only [rnV, rep, HP.ex] at k ⊢
    obtain ⟨pl, e, p⟩ := k
    exact ⟨pl, e, rn_repO r o pl h n p⟩
  | .agg cs, x, h, n, k => by
    simp only [rnV, rep, HP.ex] at k ⊢
    obtain ⟨ys, e, p⟩ := k
    exact ⟨ys, e, rn_repCs r cs _ h n p⟩
  | .tup vs, x, h, n, k => by
    simp only [rnV, rep, HP.ex] at k ⊢
    obtain ⟨ys, e, p⟩ := k
    exact ⟨ys, e, rn_repL r vs _ h n p⟩
  | .bool b, x, h, n, k => rn_free r (.bool b) x h rfl k
  | .int a b, x, h, n, k => rn_free r (.int a b) x h rfl k
  | .str b, x, h, n, k => rn_free r (.str b) x h rfl k
  | .nilp, x, h, n, k => rn_free r .nilp x h rfl k
  | .nilsl, x, h, n, k => rn_free r .nilsl x h rfl k
  | .nilm, x, h, n, k => rn_free r .nilm x h rfl k
  | .nilfn, x, h, n, k => rn_free r .nilfn x h rfl k
  | .nilif, x, h, n, k => rn_free r .nilif x h rfl k
  | .ptr a b c, x, h, n, k => rn_free r (.ptr a b c) x h rfl k
  | .rop a b, x, h, n, k => rn_free r (.rop a b) x h rfl k
  | .sl a b c, x, h, n, k => rn_free r (.sl a b c) x h rfl k
  | .imm a, x, h, n, k => rn_free r (.imm a) x h rfl k
  | .mp a, x, h, n, k => rn_free r (.mp a) x h rfl k
  | .fn a b c, x, h, n, k => rn_free r (.fn a b c) x h rfl k
  | .iface a b, x, h, n, k => rn_free r (.iface a b) x h rfl k
  | .top, x, h, n, k => rn_free r .top x h rfl k
theorem rn_free {L : Nat → Option Nat} {X Y : Cx} (r : Rn L X Y) (v : AV) (x : Value) (h : PH) (hv : v.free = true) (k : rep X v x h) : rep Y (rnV L v) x h := by
  obtain ⟨p, e⟩ := (rep_free hv).1 k
  have hv' : (rnV L v).free = true := by
    cases v <;> simp only [rnV] <;> first | exact hv | rfl | (split <;> rfl)
  exact (rep_free hv').2 ⟨rn_pureR r v x p, e⟩
theorem rn_repL {L : Nat → Option Nat} {X Y : Cx} (r : Rn L X Y) : ∀ (vs : List AV) (ys : List Value) (h : PH), niL L vs = true → repL X vs ys h → repL Y (rnL L vs) ys h
  | [], _, _, _, k => by simpa only [rnL, repL] using k
  | v :: vs, ys, h, n, k => by
    simp only [rnL, repL, HP.ex] at k ⊢
    simp only [niL, Bool.and_eq_true] at n
    obtain ⟨z, zs, e, h1, h2, d, e', p, q⟩ := k
    exact ⟨z, zs, e, h1, h2, d, e', rn_rep r v z h1 n.1 p, rn_repL r vs zs h2 n.2 q⟩
theorem rn_repCs {L : Nat → Option Nat} {X Y : Cx} (r : Rn L X Y) : ∀ (vs : List AV) (ys : List Value) (h : PH), niL L vs = true → repCs X vs ys h → repCs Y (rnL L vs) ys h
  | [], _, _, _, k => by simpa only [rnL, repCs] using k
  | v :: vs, ys, h, n, k => by
    simp only [rnL, repCs, HP.ex] at k ⊢
    simp only [niL, Bool.and_eq_true] at n
    obtain ⟨z, zs, e, o, h1, h2, d, e', p, q⟩ := k
    exact ⟨z, zs, e, o, h1, h2, d, e', rn_rep r v z h1 n.1 p, rn_repCs r vs zs h2 n.2 q⟩
theorem rn_repE {L : Nat → Option Nat} {X Y : Cx} (r : Rn L X Y) (sz : Nat) : ∀ (vs : List AV) (ys : List Value) (h : PH), niL L vs = true → repE X sz vs ys h → repE Y sz (rnL L vs) ys h
  | [], _, _, _, k => by simpa only [rnL, repE] using k
  | v :: vs, ys, h, n, k => by
    simp only [niL, Bool.and_eq_true] at n
    by_cases hv : ∃ cs, v = .agg cs
    · obtain ⟨cs, rfl⟩ := hv
      simp only [rnL, rnV, repE, HP.ex] at k ⊢
      obtain ⟨z, zs, e, o, h1, h2, d, e', p, q⟩ := k
      exact ⟨z, zs, e, o, h1, h2, d, e', rn_repCs r cs z h1 n.1 p, rn_repE r sz vs zs h2 n.2 q⟩
    · have hv' : ∀ cs, v ≠ .agg cs := fun cs e => hv ⟨cs, e⟩
      simp only [rnL]
      rw [repE_one' hv'] at k
      rw [repE_one' (rn_agg hv')]
      obtain ⟨z, zs, e, o, o', h1, h2, d, e', p, q⟩ := k
      exact ⟨z, zs, e, o, o', h1, h2, d, e', rn_rep r v z h1 n.1 p, rn_repE r sz vs zs h2 n.2 q⟩
theorem rn_repO {L : Nat → Option Nat} {X Y : Cx} (r : Rn L X Y) : ∀ (o : AO) (pl : Pl) (h : PH), niO L o = true → repO X o pl h → repO Y (rnO L o) pl h
  | .row sz es, pl, h, n, k => by
    simp only [rnO, repO] at k ⊢
    obtain ⟨a, b, k⟩ := k
    refine ⟨a, by rw [rnL_len]; exact b, k.imp id ?_⟩
    rintro ⟨c, T, ys, e1, e2, e3, h1, h2, d, e', p, q⟩
    exact ⟨c, T, ys, e1, e2, e3, h1, h2, d, e', p, rn_repE r sz es ys h2 n q⟩
  | .map ks vs, pl, h, n, k => by
    simp only [rnO, repO] at k ⊢
    obtain ⟨en, cl, ys, e1, e2, e3, e4, e5, h1, h2, d, e', p, q⟩ := k
    exact ⟨en, cl, ys, e1, e2, e3, e4, e5, h1, h2, d, e', p, rn_repL r vs ys h2 n q⟩
  | .mapx clock bs ks vs, pl, h, n, k => by
    simp only [rnO, repO] at k ⊢
    obtain ⟨en, e1, e2, e3, e4, e5, h1, h2, d, e', p, q⟩ := k
    exact ⟨en, e1, e2, e3, e4, e5, h1, h2, d, e', p, rn_repL r vs _ h2 n q⟩
  | .iter m a b c, pl, h, n, k => by
    simp only [niO] at n
    cases e : L m with
    | none => rw [e] at n; cases n
    | some j =>
      simp only [rnO, e]
      simp only [repO] at k ⊢
      obtain ⟨p, q⟩ := r.at_ _ _ e
      rw [q]; exact ⟨p, k.2⟩
end

/-- the objects of these old numbers, under their new ones -/
def rnH (L : Nat → Option Nat) : Nat → List Nat → Hp → Hp
  | _, [], _ => []
  | j, id :: l, H => match alook H id with
    | some o => (j, rnO L o) :: rnH L (j + 1) l (adel H id)
    | none => rnH L (j + 1) l H
def niH (L : Nat → Option Nat) : Hp → Bool
  | [] => true
  | (_, o) :: H => niO L o && niH L H

theorem niH_look {L : Nat → Option Nat} : ∀ (H : Hp) (id : Nat) (o : AO), niH L H = true → alook H id = some o → niO L o = true
  | [], _, _, _, e => by simp [alook] at e
  | (k, v) :: H, id, o, n, e => by
    simp only [niH, Bool.and_eq_true] at n
    simp only [alook] at e
    split at e
    · cases e; exact n.1
    · exact niH_look H id o n.2 e
theorem niH_del {L : Nat → Option Nat} : ∀ (H : Hp) (id : Nat), niH L H = true → niH L (adel H id) = true
  | [], _, _ => rfl
  | (k, v) :: H, id, n => by
    simp only [niH, Bool.and_eq_true] at n
    simp only [adel]
    split
    · exact n.2
    · simp only [niH, Bool.and_eq_true]; exact ⟨n.1, niH_del H id n.2⟩

theorem rnH_star {L : Nat → Option Nat} {X Y : Cx} (r : Rn L X Y) : ∀ (l : List Nat) (j : Nat) (H : Hp) (h : PH), niH L H = true → starH X H h → (∀ i id, l[i]? = some id → j + i < Y.n ∧ Y.σ (j + i) = X.σ id) →
    ∃ h1 h2, h1.disj h2 ∧ h = h1.join h2 ∧ starH Y (rnH L j l H) h1
  | [], j, H, h, n, st, f => ⟨PH.none, h, PH.none_disj _, (PH.none_join _).symm, rfl⟩
  | id :: l, j, H, h, n, st, f => by
    have f' : ∀ i id', l[i]? = some id' → j + 1 + i < Y.n ∧ Y.σ (j + 1 + i) = X.σ id' := fun i id' hi => by
      have := f (i + 1) id' (by simpa using hi)
      rw [show j + 1 + i = j + (i + 1) by omega]; exact this
    simp only [rnH]
    cases hl : alook H id with
    | none => exact rnH_star r l (j + 1) H h n st f'
    | some o =>
      obtain ⟨h1, h2, d, rfl, lt, ro, st'⟩ := starH_take st hl
      obtain ⟨h3, h4, d', rfl, q⟩ := rnH_star r l (j + 1) (adel H id) h2 (niH_del H id n) st' f'
      have dd := PH.disj_join_r.1 d
      have f0 := f 0 id rfl
      refine ⟨h1.join h3, h4, PH.disj_join.2 ⟨dd.2, d'⟩, (PH.join_assoc _ _ _).symm, h1, h3, dd.1, rfl, ⟨by simpa using f0.1, ?_⟩, q⟩
      have e := f0.2; simp at e; rw [e]; exact rn_repO r o _ _ (niH_look H id o n hl) ro

/-- slots that are kept, their values renumbered -/
def rnEnv (L : Nat → Option Nat) (env : List (Nat × AV)) : List Nat → List (Nat × AV)
  | [] => []
  | s :: ss => match alook env s with
    | some v => (s, rnV L v) :: rnEnv L env ss
    | none => rnEnv L env ss
theorem rnEnv_look {L : Nat → Option Nat} {env : List (Nat × AV)} : ∀ (ss : List Nat) (s : Nat) (v : AV), alook (rnEnv L env ss) s = some v → ∃ u, alook env s = some u ∧ v = rnV L u
  | [], s, v, h => by simp [rnEnv, alook] at h
  | t :: ss, s, v, h => by
    simp only [rnEnv] at h
    split at h
    · rename_i u e
      simp only [alook] at h
      split at h
      · rename_i e'; subst e'; cases h; exact ⟨u, e, rfl⟩
      · exact rnEnv_look ss s v h
    · exact rnEnv_look ss s v h

/-- the first k numbers stay -/
def idK (L : List Nat) : Nat → Bool
  | 0 => true
  | k + 1 => L[k]? == some k && idK L k
theorem idK_get {L : List Nat} : ∀ (k : Nat), idK L k = true → ∀ i, i < k → L[i]? = some i
  | 0, _, i, h => by omega
  | k + 1, e, i, h => by
    simp only [idK, Bool.and_eq_true, beq_iff_eq] at e
    by_cases hi : i = k
    · subst hi; exact e.1
    · exact idK_get k e.2 i (by omega)

theorem finQ.weaken2 {P : Program} {F : Fd} {k : Nat} {K : Res → Hp → Nat → Prop} {X Y : Cx} {hf : PH} {w0 : World} (im : X.im.sub Y.im) (hσ : ∀ id, id < k → Y.σ id = X.σ id) : ∀ e a w, finQ P F k K Y hf w0 e a w → finQ P F k K X hf w0 e a w := by
  have key : ∀ mk x w, FinO k K Y hf mk x w → FinO k K X hf mk x w := by
    rintro mk x w ⟨v, H, Z, l, a, b, m, p, c⟩
    exact ⟨v, H, Z, PH.sub_trans im l, a, fun id hid => (b id hid).trans (hσ id hid), m, p, c⟩
  refine finQ.map fun e w h => ?_
  cases e with
  | returned v => exact ⟨h.1, key _ _ _ h.2⟩
  | panicked c => obtain ⟨h2, v, h3, h4⟩ := h; exact ⟨h2, v, h3, key _ _ _ h4⟩
  | outgrown => exact h.elim

/-- A state, its objects numbered anew. -/
theorem arun_rn {G : Go} {ks : List SI} {env : List (Nat × AV)} {H : Hp} {n : Nat} (L ss : List Nat) (hk : idK L G.k = true) (hni : niH (posOf L) H = true)
    (h : ARun G (.code ks ⟨rnEnv (posOf L) env ss, rnH (posOf L) 0 L H, L.length⟩)) (hD : G.fn.D = none := by rfl) : ARun G (.code ks ⟨env, H, n⟩) := by
  intro hm hkn X hf a w s k hck
  obtain ⟨hn, ⟨h0, st, d1, d2, iw, iwi, iwf, dif⟩, henv, hsz, hdf⟩ := s
  have hdf' : ∀ Y : Cx, DOK G.fn.D Y a.defers := by intro Y; rw [hD] at hdf ⊢; exact hdf
  let Y : Cx := ⟨X.im, fun j => X.σ (L.getD j 0), L.length⟩
  have r : Rn (posOf L) X Y := ⟨PH.sub_refl _, fun id j e => by
    have hg := posOf_get L id j e
    exact ⟨(List.getElem?_eq_some_iff.1 hg).1, by simp [Y, List.getD_eq_getElem?_getD, hg]⟩⟩
  obtain ⟨h1, h2, d, rfl, st'⟩ := rnH_star r L 0 H h0 hni st (fun i id hi => by
    refine ⟨by simpa [Y] using (List.getElem?_eq_some_iff.1 hi).1, by simp [Y, List.getD_eq_getElem?_getD, hi]⟩)
  have m : Mem Y hf (rnH (posOf L) 0 L H) w := ⟨h1, st', (PH.disj_join.1 d1).1, (PH.disj_join.1 d2).1, PH.inW_left iw, iwi, iwf, dif⟩
  have env' : envR Y (rnEnv (posOf L) env ss) a.tmps := by
    intro s v e
    obtain ⟨u, e1, rfl⟩ := rnEnv_look ss s v e
    obtain ⟨x, e2, p⟩ := henv s u e1
    exact ⟨x, e2, rn_pureR r u x p⟩
  have hkL : G.k ≤ L.length := by
    cases hG : G.k with
    | zero => exact Nat.zero_le _
    | succ k => have := idK_get G.k hk k (by omega); exact (List.getElem?_eq_some_iff.1 this).1
  have run := h hm hkL Y hf a w ⟨rfl, m, env', hsz, hdf' Y⟩ k hck
  exact RunQ.mono (finQ.weaken2 (X := X) (Y := Y) (PH.sub_refl _) (fun id hid => by simp [Y, List.getD_eq_getElem?_getD, idK_get G.k hk id hid])) run
end Go.AM
