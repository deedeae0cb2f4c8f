/-
  What is promised of a function; a function's end; a call. No condition beyond what each theorem states.
-/
import Derived.Test.YtbbhjklcjlnacaaGreatAm15
/-! What is promised of a function; a function's end; a call. -/
namespace Go.AM

def numH : Nat → List AO → Hp
  | _, [] => []
  | i, o :: os => (i, o) :: numH (i + 1) os
def numA : Nat → List AV → List (Nat × AV)
  | _, [] => []
  | i, v :: vs => (i, v) :: numA (i + 1) vs

/-- the objects that were handed in, numbered from 'i' on; of each: what it is now, or that it is given away -/
def starR (Y : Cx) (σ : Nat → Pl) : Nat → List (Option AO) → HP
  | _, [] => HP.emp
  | i, some o :: os => HP.star (repO Y o (σ i)) (starR Y σ (i + 1) os)
  | i, none :: os => starR Y σ (i + 1) os

/-- What holds behind a function: of the value that it hands back (or panics with) and of the objects that were handed in. -/
def FinR (k : Nat) (X : Cx) (hf : PH) (R : Res → List (Option AO) → Prop) (mk : AV → Res) (v : Value) (w : World) : Prop :=
  ∃ im r os h, X.im.sub im ∧ R (mk r) os ∧ os.length = k ∧ HP.star (rep ⟨im, X.σ, 0⟩ r v) (starR ⟨im, X.σ, 0⟩ X.σ 0 os) h ∧ h.disj im ∧ h.disj hf ∧ h.inW w ∧ im.inW w ∧ hf.inW w ∧ im.disj hf

theorem starR_mono {Y Z : Cx} {σ σ' : Nat → Pl} (le : Y.le Z) : ∀ (os : List (Option AO)) (i : Nat) (h : PH), (∀ j, j < i + os.length → σ' j = σ j) → starR Y σ i os h → starR Z σ' i os h
  | [], _, _, _, r => r
  | some o :: os, i, h, hl, ⟨h1, h2, d, e, p, q⟩ => by
    simp only [List.length_cons] at hl
    exact ⟨h1, h2, d, e, by rw [hl i (by omega)]; exact repO_mono le _ _ _ p, starR_mono le os (i + 1) h2 (fun j hj => hl j (by omega)) q⟩
  | none :: os, i, h, hl, r => by
    simp only [List.length_cons] at hl
    exact starR_mono le os (i + 1) h (fun j hj => hl j (by omega)) r

/-- What a call of this function comes to. -/
def Spec (P : Program) (f : FuncId) (args : List AV) (roots : List AO) (R : Res → List (Option AO) → Prop) : Prop :=
  P.follows .mixedOrders = true → ∀ X hf (xs : Array Value) w, X.n = roots.length → Mem X hf (numH 0 roots) w → pureL X args xs.toList →
    Calls P f xs w fun e w' => Ext w w' ∧ match e with
      | .returned v => FinR roots.length X hf R .ret v w'
      | .panicked chain => ∃ v, chain = [{ v, recovered := false }] ∧ FinR roots.length X hf R .pan v w'
      | .outgrown => False

theorem pureL_len {X : Cx} : ∀ (vs : List AV) (ys : List Value), pureL X vs ys → ys.length = vs.length
  | [], ys, h => by simp only [pureL] at h; simp [h]
  | v :: vs, ys, h => by simp only [pureL] at h; obtain ⟨z, zs, rfl, _, q⟩ := h; simp [pureL_len vs zs q]
theorem pureL_get {X : Cx} : ∀ (vs : List AV) (ys : List Value) (i s : Nat) (v : AV), pureL X vs ys → alook (numA i vs) s = some v → i ≤ s ∧ ∃ x, ys[s - i]? = some x ∧ pureR X v x
  | [], ys, i, s, v, _, e => by simp [numA, alook] at e
  | u :: vs, ys, i, s, v, h, e => by
    simp only [pureL] at h
    obtain ⟨z, zs, rfl, p, q⟩ := h
    simp only [numA, alook] at e
    split at e
    · rename_i hs; subst hs; cases e
      exact ⟨Nat.le_refl _, z, by simp, p⟩
    · rename_i hs
      obtain ⟨l, x, e1, e2⟩ := pureL_get vs zs (i + 1) s v q e
      refine ⟨by omega, x, ?_, e2⟩
      rw [show s - i = (s - (i + 1)) + 1 by omega]; simpa using e1

/-! ### A function's end -/

def lookd (env : List (Nat × AV)) (r : Nat) : AV := match alook env r with
  | some v => v
  | none => .top
def aresult (env : List (Nat × AV)) : List Nat → AV
  | [r] => lookd env r
  | rs => .tup (rs.map (lookd env))
def shOs : List (Option AO) → Prop
  | [] => True
  | none :: os => shOs os
  | some o :: os => shO o ∧ shOs os
/-- what the first k objects are -/
def firstK (H : Hp) : Nat → Nat → List (Option AO)
  | _, 0 => []
  | i, m + 1 => alook H i :: firstK H (i + 1) m

theorem alook_adel {α : Type} : ∀ (H : List (Nat × α)) (i j : Nat), i ≠ j → alook (adel H i) j = alook H j
  | [], _, _, _ => rfl
  | (k, v) :: r, i, j, h => by
    simp only [adel]
    split
    · rename_i e; subst e; simp only [alook]; rw [if_neg (by omega)]
    · simp only [alook, alook_adel r i j h]

theorem firstK_adel (H : Hp) (i : Nat) : ∀ (m j : Nat), i < j → firstK (adel H i) j m = firstK H j m
  | 0, _, _ => rfl
  | m + 1, j, h => by simp only [firstK]; rw [alook_adel _ _ _ (by omega), firstK_adel H i m (j + 1) (by omega)]

theorem starR_of {X : Cx} {Y : Cx} (im : X.im.sub Y.im) : ∀ (m i : Nat) (H : Hp) (h : PH), starH X H h → shOs (firstK H i m) → ∃ h1 h2, h1.disj h2 ∧ h = h1.join h2 ∧ starR Y X.σ i (firstK H i m) h1
  | 0, i, H, h, _, _ => ⟨PH.none, h, PH.none_disj _, (PH.none_join _).symm, rfl⟩
  | m + 1, i, H, h, st, s => by
    simp only [firstK] at s ⊢
    cases hl : alook H i with
    | none =>
      rw [hl] at s
      exact starR_of im m (i + 1) H h st s
    | some o =>
      rw [hl] at s
      obtain ⟨h1, h2, d, rfl, l, r, st'⟩ := starH_take st hl
      obtain ⟨h3, h4, d', rfl, r'⟩ := starR_of im m (i + 1) (adel H i) h2 st' (by rw [firstK_adel _ _ _ _ (Nat.lt_succ_self _)]; exact s.2)
      rw [firstK_adel _ _ _ _ (Nat.lt_succ_self _)] at r'
      have dd := PH.disj_join_r.1 d
      exact ⟨h1.join h3, h4, PH.disj_join.2 ⟨dd.2, d'⟩, (PH.join_assoc _ _ _).symm, h1, h3, dd.1, rfl, sh_repO im _ _ _ s.1 r, r'⟩

theorem firstK_len (H : Hp) : ∀ (m i : Nat), (firstK H i m).length = m
  | 0, _ => rfl
  | m + 1, i => by simp [firstK, firstK_len H m]

theorem run_results {fn : Func} {rs : List Nat} (hr : fn.results.toList = rs.map .tmp) (P : Program) (tmps : Array Value) (w : World) :
    (results fn tmps).run P w = .ok (if h : (rs.map fun t => tmps.getD t undef).toArray.size = 1 then (rs.map fun t => tmps.getD t undef).toArray[0] else .tuple (rs.map fun t => tmps.getD t undef).toArray) w := by
  have e : fn.results = (rs.map ResultVar.tmp).toArray := by rw [← hr]
  have key : ∀ (rs : List Nat) (acc : Array Value), (List.foldlM (fun (b : Array Value) (a : ResultVar) => (b.push <$> resG tmps a : Sem (Array Value))) acc (rs.map ResultVar.tmp)).run P w = .ok (acc ++ (rs.map fun t => tmps.getD t undef).toArray) w := by
    intro rs
    induction rs with
    | nil => intro acc; rw [List.map_nil, List.foldlM_nil]; simp
    | cons r rs ih =>
      intro acc
      rw [List.map_cons, List.foldlM_cons, Sem.run_bind]
      have : (acc.push <$> resG tmps (.tmp r) : Sem (Array Value)).run P w = .ok (acc.push (tmps.getD r undef)) w := rfl
      rw [this]
      show Sem.run P _ w = _
      rw [ih]
      congr 1
      apply Array.ext'
      simp
  rw [results_eq, e, Array.mapM_eq_foldlM, ← Array.foldlM_toList, Sem.run_bind]
  have := key rs #[]
  rw [Array.empty_append] at this
  rw [show (List.map ResultVar.tmp rs).toArray.toList = List.map ResultVar.tmp rs from rfl]
  rw [this]
  rfl

/-- What a function hands back. -/
theorem afin {G : Go} {S : St} (rs : List Nat) (hr : G.fn.fn.results.toList = rs.map .tmp) (h : G.K (.ret (aresult S.env rs)) S.H S.nx) (hD : G.fn.D = none := by rfl) : AFin G S := by
  intro _ hk X hf a w s
  obtain ⟨hn, m, env, sz, df⟩ := s
  rw [hD] at df
  have df : a.defers = [] := df
  show _ ∧ Leaves _ _ _ _ a.defers _ _
  rw [df]
  refine ⟨fun _ => rfl, _, run_results hr G.P a.tmps w, Ext.refl w, ?_⟩
  have look : ∀ r, pureR X (lookd S.env r) (a.tmps.getD r undef) := by
    intro r; unfold lookd
    cases hl : alook S.env r with
    | none => exact trivial
    | some v => obtain ⟨x, e, p⟩ := env r v hl; simp [Array.getD_eq_getD_getElem?, e]; exact p
  have lookL : ∀ rs : List Nat, pureL X (rs.map (lookd S.env)) (rs.map fun t => a.tmps.getD t undef) := by
    intro rs; induction rs with
    | nil => simp [pureL]
    | cons r rs ih => simp only [List.map_cons, pureL]; exact ⟨_, _, rfl, look r, ih⟩
  have pv : pureR X (aresult S.env rs) (if h : (rs.map fun t => a.tmps.getD t undef).toArray.size = 1 then (rs.map fun t => a.tmps.getD t undef).toArray[0] else .tuple (rs.map fun t => a.tmps.getD t undef).toArray) := by
    unfold aresult
    split
    · rename_i r; simpa using look r
    · rename_i hne
      have : ¬ (rs.map fun t => a.tmps.getD t undef).toArray.size = 1 := by
        intro h1
        simp at h1
        match rs, h1, hne with
        | [r], _, hne => exact hne r rfl
      rw [dif_neg this]
      simp only [pureR]
      exact ⟨_, rfl, by simpa using lookL rs⟩
  exact ⟨_, _, X, PH.sub_refl _, by rw [hn]; exact hk, fun _ _ => rfl, m, pv, by rw [hn]; exact h⟩

/-- A panic, where nothing is deferred. -/
theorem apan {G : Go} {v : AV} {S : St} (h : G.K (.pan v) S.H S.nx) (hD : G.fn.D = none := by rfl) : APan G v S := by
  intro _ hk X hf a w s x px
  obtain ⟨hn, m, env, sz, df⟩ := s
  rw [hD] at df
  have df : a.defers = [] := df
  show _ ∧ Leaves _ _ _ _ a.defers _ _
  rw [df]
  exact ⟨fun _ => rfl, Ext.refl w, x, rfl, v, S.H, X, PH.sub_refl _, by rw [hn]; exact hk, fun _ _ => rfl, m, px, by rw [hn]; exact h⟩
theorem exPan_spec {G : Go} {v : AV} {env : List (Nat × AV)} {H : Hp} {n : Nat} (h : exPan G v env H n) : APan G v ⟨env, H, n⟩ := by
  unfold exPan at h
  split at h
  · rename_i hD; exact apan h hD
  · exact h

/-- What is promised, of a value that takes along its objects and of the first k objects. -/
def closeK (k : Nat) (R : Res → List (Option AO) → Prop) : Res → Hp → Nat → Prop := fun r H _ => match r with
  | .ret v => takeV v H fun v H => R (.ret v) (firstK H 0 k) ∧ shV v ∧ shOs (firstK H 0 k)
  | .pan v => takeV v H fun v H => R (.pan v) (firstK H 0 k) ∧ shV v ∧ shOs (firstK H 0 k)

theorem close_fin {k : Nat} {R : Res → List (Option AO) → Prop} {X : Cx} {hf : PH} {mk : AV → Res} {x : Value} {w : World} (hX : X.n = k) (hmk : ∀ v H n, closeK k R (mk v) H n = takeV v H fun v H => R (mk v) (firstK H 0 k) ∧ shV v ∧ shOs (firstK H 0 k))
    (h : FinO k (closeK k R) X hf mk x w) : FinR k X hf R mk x w := by
  obtain ⟨v, H, X', le, _, hσ, ⟨h0, st, d1, d2, iw, iwi, iwf⟩, p, c⟩ := h
  rw [hmk] at c
  obtain ⟨v', H', h1, h2, ⟨k1, k2, k3⟩, d, rfl, r, st'⟩ := takeV_good _ _ _ _ _ c st p
  obtain ⟨h3, h4, d', rfl, r'⟩ := starR_of (X := X') (Y := ⟨X'.im, X'.σ, 0⟩) (PH.sub_refl _) k 0 H' h2 st' k3
  have dd := PH.disj_join_r.1 d
  have e1 : h1.join (h3.join h4) = (h1.join h3).join h4 := (PH.join_assoc _ _ _).symm
  rw [e1] at d1 d2 iw
  have l0 : Cx.le ⟨X'.im, X'.σ, 0⟩ ⟨X'.im, X.σ, 0⟩ := ⟨PH.sub_refl _, Nat.le_refl _, fun id hid => absurd hid (Nat.not_lt_zero _)⟩
  refine ⟨X'.im, v', firstK H' 0 k, h1.join h3, le, k1, firstK_len _ _ _, ⟨h1, h3, dd.1, rfl, sh_rep (X := X') (Y := ⟨X'.im, X.σ, 0⟩) (PH.sub_refl _) _ _ _ k2 r, starR_mono l0 _ _ _ (fun j hj => ?_) r'⟩, (PH.disj_join.1 d1).1, (PH.disj_join.1 d2).1, PH.inW_left iw, iwi, iwf⟩
  rw [firstK_len] at hj
  exact (hσ j (by omega)).symm

/-- A walk over the whole body shows what is promised. -/
theorem spec_of {P : Program} {f : FuncId} {fn : Func} {c : Code} {sc : SC} {n : Nat} {args : List AV} {roots : List AO} {R : Res → List (Option AO) → Prop}
    (hf : P.funcs[f]? = some fn) (hn : fn.ntmps = n) (hb : fn.body = some c) (hc : comp P n c = some sc) (hl : args.length ≤ n)
    {dm : Bool} (h : ARun ⟨P, ⟨fn, dm, none⟩, n, roots.length, closeK roots.length R⟩ (.code [.code sc] ⟨numA 0 args, numH 0 roots, roots.length⟩)) : Spec P f args roots R := by
  intro hm X hfr xs w hX m p
  have hlen := pureL_len _ _ p
  have hxs : xs.size = args.length := by simpa using hlen
  have hsz : xs.size ≤ fn.ntmps := by omega
  have s : Sat n none ⟨numA 0 args, numH 0 roots, roots.length⟩ X hfr { tmps := xs ++ Array.replicate (fn.ntmps - xs.size) undef, defers := [] } w := by
    refine ⟨hX, m, ?_, by simp; omega, rfl⟩
    intro s v e
    obtain ⟨_, x, e1, e2⟩ := pureL_get _ _ 0 s v p e
    refine ⟨x, ?_, e2⟩
    have hlt := (List.getElem?_eq_some_iff.1 e1).1
    rw [Array.getElem?_append_left (by simpa using hlt)]
    simpa using e1
  refine Calls.mono (calls_of_runq hf hb (RunQ.mono finQ.body (h hm (Nat.le_refl _) X hfr _ w s [.code c] ⟨hc, trivial⟩))) ?_
  intro e w' q
  cases e with
  | returned v => obtain ⟨q2, q4⟩ := q; exact ⟨q2, close_fin hX (fun _ _ _ => rfl) q4⟩
  | panicked ch => obtain ⟨q2, v, q3, q4⟩ := q; exact ⟨q2, v, q3, close_fin hX (fun _ _ _ => rfl) q4⟩
  | outgrown => exact q.elim

/-! ### A call -/

/-- a reference, its number changed -/
def renV (ids : List Nat) : AV → AV
  | .ptr i j off => .ptr (ids.getD i 0) j off
  | .sl i off len => .sl (ids.getD i 0) off len
  | .mp i => .mp (ids.getD i 0)
  | v => v
/-- a reference to an object that is handed in, or a value that leads to none -/
def topOk (k : Nat) : AV → Prop
  | .ptr i _ _ => i < k
  | .sl i _ _ => i < k
  | .mp i => i < k
  | v => shV v
def topOkL (k : Nat) : List AV → Prop
  | [] => True
  | v :: vs => topOk k v ∧ topOkL k vs
/-- the objects of these numbers, taken out -/
def takeIds : List Nat → Hp → (List AO → Hp → Prop) → Prop
  | [], H, K => K [] H
  | i :: is, H, K => match alook H i with
    | some o => takeIds is (adel H i) fun os H => K (o :: os) H
    | none => False
/-- they are put back, as they are now -/
def backH : List Nat → List (Option AO) → Hp → Hp
  | i :: is, some o :: os, H => (i, o) :: backH is os H
  | _ :: is, none :: os, H => backH is os H
  | _, _, H => H

def starI (X : Cx) : List Nat → List AO → HP
  | [], [] => HP.emp
  | i :: is, o :: os => HP.star (fun h => i < X.n ∧ repO X o (X.σ i) h) (starI X is os)
  | _, _ => fun _ => False

theorem takeIds_good {X : Cx} : ∀ (ids : List Nat) (H : Hp) (K : List AO → Hp → Prop) (h : PH), takeIds ids H K → starH X H h → ∃ os H' h1 h2, K os H' ∧ h1.disj h2 ∧ h = h1.join h2 ∧ starI X ids os h1 ∧ starH X H' h2
  | [], H, K, h, k, st => ⟨[], H, PH.none, h, k, PH.none_disj _, (PH.none_join _).symm, rfl, st⟩
  | i :: is, H, K, h, k, st => by
    simp only [takeIds] at k
    split at k
    · rename_i o hl
      obtain ⟨h1, h2, d, rfl, l, r, st'⟩ := starH_take st hl
      obtain ⟨os, H', h3, h4, k', d', rfl, r', st2⟩ := takeIds_good is (adel H i) _ h2 k st'
      have dd := PH.disj_join_r.1 d
      exact ⟨_, H', h1.join h3, h4, k', PH.disj_join.2 ⟨dd.2, d'⟩, (PH.join_assoc _ _ _).symm, ⟨h1, h3, dd.1, rfl, ⟨l, r⟩, r'⟩, st2⟩
    · exact k.elim

theorem starI_num {X Y : Cx} (im : X.im.sub Y.im) : ∀ (ids : List Nat) (os : List AO) (h : PH) (i : Nat), starI X ids os h → (∀ o ∈ os, shO o) → (∀ j id, ids[j]? = some id → i + j < Y.n ∧ Y.σ (i + j) = X.σ id) → starH Y (numH i os) h ∧ os.length = ids.length ∧ ∀ id ∈ ids, id < X.n
  | [], [], h, i, r, _, _ => ⟨r, rfl, by simp⟩
  | id :: is, o :: os, h, i, ⟨h1, h2, d, e, ⟨l, r⟩, r'⟩, s, f => by
    have f0 := f 0 id rfl
    obtain ⟨q1, q2, q3⟩ := starI_num im is os h2 (i + 1) r' (fun o ho => s o (List.mem_cons_of_mem _ ho)) (fun j id' hj => by have := f (j + 1) id' (by simpa using hj); rw [show i + 1 + j = i + (j + 1) by omega]; exact this)
    refine ⟨⟨h1, h2, d, e, ⟨by simpa using f0.1, ?_⟩, q1⟩, by simp [q2], fun x hx => ?_⟩
    · have := f0.2; simp at this; rw [this]; exact sh_repO im _ _ _ (s o List.mem_cons_self) r
    · rcases List.mem_cons.1 hx with rfl | hx
      · exact l
      · exact q3 x hx
  | [], _ :: _, _, _, r, _, _ => r.elim
  | _ :: _, [], _, _, r, _, _ => r.elim

theorem starR_back {Z Y : Cx} {σ : Nat → Pl} (le : Z.le Y) : ∀ (ids : List Nat) (os : List (Option AO)) (H : Hp) (h1 h2 : PH) (i : Nat), os.length = ids.length → starR Z σ i os h1 → starH Y H h2 → h1.disj h2 →
    (∀ j id, ids[j]? = some id → id < Y.n ∧ σ (i + j) = Y.σ id) → starH Y (backH ids os H) (h1.join h2)
  | [], [], H, h1, h2, i, _, r, st, _, _ => by
    have : h1 = PH.none := r
    subst this; rw [PH.none_join]; exact st
  | id :: is, some o :: os, H, h1, h2, i, hl, ⟨h3, h4, d, e, r, r'⟩, st, dd, f => by
    subst e
    have d2 := PH.disj_join.1 dd
    have f0 := f 0 id rfl
    have ih := starR_back le is os H h4 h2 (i + 1) (by simpa using hl) r' st d2.2 (fun j id' hj => by have := f (j + 1) id' (by simpa using hj); rw [show i + 1 + j = i + (j + 1) by omega]; exact this)
    refine ⟨h3, h4.join h2, PH.disj_join_r.2 ⟨d, d2.1⟩, PH.join_assoc _ _ _, ⟨f0.1, ?_⟩, ih⟩
    have := f0.2; simp at this; rw [← this]; exact repO_mono le _ _ _ r
  | id :: is, none :: os, H, h1, h2, i, hl, r, st, dd, f =>
    starR_back le is os H h1 h2 (i + 1) (by simpa using hl) r st dd (fun j id' hj => by have := f (j + 1) id' (by simpa using hj); rw [show i + 1 + j = i + (j + 1) by omega]; exact this)
  | [], _ :: _, _, _, _, _, hl, _, _, _, _ => by simp at hl
  | _ :: _, [], _, _, _, _, hl, _, _, _, _ => by simp at hl

theorem ren_pure {X Y : Cx} {ids : List Nat} (im : X.im.sub Y.im) (f : ∀ j, j < ids.length → j < Y.n ∧ Y.σ j = X.σ (ids.getD j 0)) : ∀ (v : AV) (x : Value), topOk ids.length v → pureR X (renV ids v) x → pureR Y v x := by
  intro v x t p
  cases v with
  | ptr i j off =>
    simp only [topOk] at t
    simp only [renV, pureR] at p ⊢
    obtain ⟨e1, e2⟩ := f i t
    rw [e2]; exact ⟨e1, p.2⟩
  | sl i off len =>
    simp only [topOk] at t
    simp only [renV, pureR] at p ⊢
    obtain ⟨e1, e2⟩ := f i t
    rw [e2]; exact ⟨e1, p.2⟩
  | mp i =>
    simp only [topOk] at t
    simp only [renV, pureR] at p ⊢
    obtain ⟨e1, e2⟩ := f i t
    rw [e2]; exact ⟨e1, p.2⟩
  | _ => exact sh_pureR im _ _ t p
theorem ren_pureL {X Y : Cx} {ids : List Nat} (im : X.im.sub Y.im) (f : ∀ j, j < ids.length → j < Y.n ∧ Y.σ j = X.σ (ids.getD j 0)) : ∀ (vs : List AV) (ys : List Value), topOkL ids.length vs → pureL X (vs.map (renV ids)) ys → pureL Y vs ys
  | [], ys, _, p => p
  | v :: vs, ys, t, p => by
    simp only [List.map_cons, pureL] at p ⊢
    obtain ⟨z, zs, e, p1, p2⟩ := p
    exact ⟨z, zs, e, ren_pure im f v z t.1 p1, ren_pureL im f vs zs t.2 p2⟩

def shAll : List AO → Prop
  | [] => True
  | o :: os => shO o ∧ shAll os
theorem shAll_mem : ∀ (os : List AO), shAll os → ∀ o ∈ os, shO o
  | [], _, o, h => by cases h
  | o :: os, s, o', h => by
    rcases List.mem_cons.1 h with rfl | h
    · exact s.1
    · exact shAll_mem os s.2 o' h

/-- What is to hold behind a call. -/
def afterCall (G : Go) (dst : Option Nat) (t : ST) (ks : List SI) (env : List (Nat × AV)) (n : Nat) (ids : List Nat) (H : Hp) (R : Res → List (Option AO) → Prop) : Prop :=
  ∀ r os, R r os → os.length = ids.length → match r with
    | .ret v => openV v (backH ids os H) n fun v H n => ARun G (.ops t ks ⟨eput env dst v, H, n⟩)
    | .pan v => openV v (backH ids os H) n fun v H n => exPan G v env H n

theorem arun_call {G : Go} {dst : Option Nat} {f : FuncId} {cargs : Array Operand} {ats : Array TypeId} {t : ST} {ks : List SI} {env : List (Nat × AV)} {H : Hp} {n : Nat} {args : List AV} {roots : List AO} {R : Res → List (Option AO) → Prop} (ids : List Nat)
    (sp : Spec G.P f args roots R) (hcall : ∀ xs w, (callFunc f xs).run G.P w = .ok (.enter f xs) w) (hargs : cargs.toList.map (aeval env) = args.map (renV ids)) (hok : topOkL ids.length args)
    (h : takeIds ids H fun os H' => os = roots ∧ shAll roots ∧ afterCall G dst t ks env n ids H' R) :
    ARun G (.ops (.one ⟨dst, .call ⟨.value (.func f), cargs, ats⟩, none⟩ t) ks ⟨env, H, n⟩) := by
  intro hm hk X hf a w s ops ti k hs hck
  obtain ⟨i, ti', oo, rfl, hoi, e1, e2, hdN, hwant, hst⟩ := hs
  obtain ⟨hn, ⟨h0, st, d1, d2, iw, iwi, iwf, dif⟩, henv, hsz, hdf⟩ := s
  have s0 : Sat G.n G.fn.D ⟨env, H, n⟩ X hf a w := ⟨hn, ⟨h0, st, d1, d2, iw, iwi, iwf, dif⟩, henv, hsz, hdf⟩
  have hn : X.n = n := hn
  have hkX : G.k ≤ X.n := by rw [hn]; exact hk
  obtain ⟨os, H', h1, h2, ⟨rfl, hsh, hafter⟩, d, rfl, rI, st'⟩ := takeIds_good ids H _ h0 h st
  let Y : Cx := ⟨X.im, fun j => X.σ (ids.getD j 0), ids.length⟩
  obtain ⟨q1, q2, q3⟩ := starI_num (X := X) (Y := Y) (PH.sub_refl _) ids os h1 0 rI (shAll_mem _ hsh) (fun j id hj => by
    have hlt := (List.getElem?_eq_some_iff.1 hj).1
    refine ⟨by simpa [Y] using hlt, ?_⟩
    simp [Y, List.getD_eq_getElem?_getD, hj])
  have dd1 := PH.disj_join.1 d1
  have dd2 := PH.disj_join.1 d2
  have iw1 := PH.inW_left iw
  have iw2 := PH.inW_right d iw
  -- the callee's frame: what others have, and what is not handed in
  have m : Mem Y (hf.join h2) (numH 0 os) w :=
    ⟨h1, q1, dd1.1, PH.disj_join_r.2 ⟨dd2.1, d⟩, iw1, iwi, PH.inW_join ⟨iwf, iw2⟩, PH.disj_join_r.2 ⟨dif, dd1.2.symm⟩⟩
  have hpl : pureL X (cargs.toList.map (aeval env)) (cargs.toList.map a.eval) := pureL_of s0 cargs.toList
  rw [hargs] at hpl
  have hpY : pureL Y args (cargs.map a.eval).toList := by
    have := ren_pureL (X := X) (Y := Y) (PH.sub_refl _) (fun j hj => ⟨hj, rfl⟩) args _ hok hpl
    simpa using this
  have hc := sp hm Y (hf.join h2) (cargs.map a.eval) w q2.symm m hpY
  have hcl : cls G.P oo.op = .E := by rw [e2]; rfl
  show wpOpH G.P ops _ i _ a w
  unfold wpOpH
  simp only [hoi, hwant, if_true]
  refine ⟨by unfold Hit; simp only [hcl], ?_⟩
  have hrun : (execOp a.eval oo).run G.P w = .ok (.enter f (cargs.map a.eval)) w := by
    unfold execOp; rw [e2]
    simp [resolve, Act.eval, Deferred.ofValue, invoke, hcall]
  unfold Oper.wp
  rw [hrun]
  simp only [Oper.upon]
  refine Calls.mono hc ?_
  -- behind the call
  have back : ∀ (mk : AV → Res) (v : Value) (w' : World), Ext w w' → FinR os.length Y (hf.join h2) R mk v w' → ∃ im r ros hr hs, X.im.sub im ∧ R (mk r) ros ∧ ros.length = ids.length ∧ rep ⟨im, Y.σ, 0⟩ r v hr ∧ hr.disj hs ∧ hr.disj im ∧ hs.disj im ∧ hr.disj hf ∧ hs.disj hf ∧ hr.inW w' ∧ hs.inW w' ∧ im.inW w' ∧ hf.inW w' ∧ im.disj hf ∧ starH ⟨im, X.σ, X.n⟩ (backH ids ros H') hs := by
    intro mk v w' x hfin
    obtain ⟨im, r, ros, h3, f1, f2, f3, ⟨hr, hs, f4, rfl, f5, f6⟩, f7, f8, f9, f10, f11, f12⟩ := hfin
    have g7 := PH.disj_join.1 f7
    have g8 := PH.disj_join.1 f8
    have g8r := PH.disj_join_r.1 g8.1
    have g8s := PH.disj_join_r.1 g8.2
    have g12 := PH.disj_join_r.1 f12
    have dfh2 : hf.disj h2 := dd2.2.symm
    have f11a := PH.inW_left f11
    have f11b := PH.inW_right dfh2 f11
    have f9a := PH.inW_left f9
    have f9b := PH.inW_right f4 f9
    have lY : Cx.le X ⟨im, X.σ, X.n⟩ := ⟨f1, Nat.le_refl _, fun _ _ => rfl⟩
    have stY : starH ⟨im, X.σ, X.n⟩ H' h2 := starH_mono lY _ _ st'
    have hb := starR_back (Z := ⟨im, Y.σ, 0⟩) (Y := ⟨im, X.σ, X.n⟩) (σ := Y.σ) ⟨PH.sub_refl _, Nat.zero_le _, fun id hid => absurd hid (Nat.not_lt_zero _)⟩ ids ros H' hs h2 0 (by rw [f3, q2]) f6 stY g8s.2 (fun j id hj => by
      refine ⟨q3 id (List.mem_of_getElem? hj), ?_⟩
      simp [Y, List.getD_eq_getElem?_getD, hj])
    refine ⟨im, r, ros, hr, hs.join h2, f1, f2, by rw [f3, q2], f5, PH.disj_join_r.2 ⟨f4, g8r.2⟩, g7.1, PH.disj_join.2 ⟨g7.2, g12.2.symm⟩, g8r.1, PH.disj_join.2 ⟨g8s.1, dd2.2⟩, f9a, PH.inW_join ⟨f9b, f11b⟩, f10, f11a, g12.1, hb⟩
  intro e w' he
  cases e with
  | returned v =>
    obtain ⟨x, hfin⟩ := he
    obtain ⟨im, r, ros, hr, hs, c1, c2, c3, c4, c5, c6, c7, c8, c9, c10, c11, c12, c13, c14, c15⟩ := back .ret v w' x hfin
    have hh := hafter (.ret r) ros c2 c3
    dsimp only at hh
    let Z : Cx := ⟨im, X.σ, X.n⟩
    have lZ : Cx.le ⟨im, Y.σ, 0⟩ Z := ⟨PH.sub_refl _, Nat.zero_le _, fun id hid => absurd hid (Nat.not_lt_zero _)⟩
    have c4' : rep Z r v hr := rep_mono lZ _ _ _ c4
    obtain ⟨X', v', H'', l, e3, k', p, st2⟩ := openV_good (X := Z) r (backH ids ros H') _ v hr hs (by show openV _ _ X.n _; rw [hn]; exact hh) c15 c4' c5
    have le : X.le X' := ⟨by rw [e3]; exact c1, l.n, fun id hid => l.σ id hid⟩
    have m' : Mem X' hf H'' w' := ⟨_, st2, by rw [e3]; exact PH.disj_join.2 ⟨c6, c7⟩, PH.disj_join.2 ⟨c8, c9⟩, PH.inW_join ⟨c10, c11⟩, by rw [e3]; exact c12, c13, by rw [e3]; exact c14⟩
    have res := k' hm (Nat.le_trans hkX le.n) X' hf (a.put dst v) w' (Sat.next s0 hdN le rfl m' p) ops ti' k (mt_of_strip hst) hck
    rw [e1]
    exact wpCT_mono (cont_weaken le hkX x) ti' _ w' res
  | panicked chain =>
    obtain ⟨x, v, rfl, hfin⟩ := he
    obtain ⟨im, r, ros, hr, hs, c1, c2, c3, c4, c5, c6, c7, c8, c9, c10, c11, c12, c13, c14, c15⟩ := back .pan v w' x hfin
    have hh := hafter (.pan r) ros c2 c3
    dsimp only at hh
    let Z : Cx := ⟨im, X.σ, X.n⟩
    have lZ : Cx.le ⟨im, Y.σ, 0⟩ Z := ⟨PH.sub_refl _, Nat.zero_le _, fun id hid => absurd hid (Nat.not_lt_zero _)⟩
    have c4' : rep Z r v hr := rep_mono lZ _ _ _ c4
    obtain ⟨X', v', H'', l, e3, k', p, st2⟩ := openV_good (X := Z) r (backH ids ros H') _ v hr hs (by show openV _ _ X.n _; rw [hn]; exact hh) c15 c4' c5
    have le : X.le X' := ⟨by rw [e3]; exact c1, l.n, fun id hid => l.σ id hid⟩
    have m' : Mem X' hf H'' w' := ⟨_, st2, by rw [e3]; exact PH.disj_join.2 ⟨c6, c7⟩, PH.disj_join.2 ⟨c8, c9⟩, PH.inW_join ⟨c10, c11⟩, by rw [e3]; exact c12, c13, by rw [e3]; exact c14⟩
    exact finQ.weaken le hkX x _ a w' (exPan_spec k' hm (Nat.le_trans hkX le.n) X' hf a w' ⟨rfl, m', envR_mono le henv, hsz, hdf.mono le⟩ v p)
  | outgrown => exact he.2.elim
end Go.AM
