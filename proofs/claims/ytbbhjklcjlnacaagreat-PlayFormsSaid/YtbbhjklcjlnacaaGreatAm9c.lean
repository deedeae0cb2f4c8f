/-
  Maps with keys of one kind of integer. No condition beyond what each theorem states.
-/
import Derived.Test.YtbbhjklcjlnacaaGreatAm9b
/-! Maps with keys of one kind of integer. -/
namespace Go.AM
variable {P : Program}

def isKey (kk : IntKind) : Value → Bool
  | .int k _ => k == kk
  | _ => false
/-- where a key stands -/
def findI (n : Int) : List Value → Option Nat
  | [] => none
  | .int _ m :: ks => if m = n then some 0 else match findI n ks with
    | some j => some (j + 1)
    | none => none
  | _ :: ks => match findI n ks with
    | some j => some (j + 1)
    | none => none

theorem isKey_spec {kk : IntKind} {v : Value} (h : isKey kk v = true) : ∃ n, v = .int kk n := by
  cases v <;> simp [isKey] at h
  subst h; exact ⟨_, rfl⟩
theorem findI_some {kk : IntKind} {n : Int} : ∀ (ks : List Value) (j : Nat), (ks.all (isKey kk)) = true → findI n ks = some j → ks[j]? = some (.int kk n)
  | [], j, _, h => by simp [findI] at h
  | v :: ks, j, a, h => by
    simp only [List.all_cons, Bool.and_eq_true] at a
    obtain ⟨m, rfl⟩ := isKey_spec a.1
    simp only [findI] at h
    split at h
    · rename_i e; cases h; simp [e]
    · split at h
      · rename_i j' e; cases h; simpa using findI_some ks j' a.2 e
      · cases h
theorem findI_none {kk : IntKind} {n : Int} : ∀ (ks : List Value), (ks.all (isKey kk)) = true → findI n ks = none → ∀ v ∈ ks, v ≠ .int kk n
  | [], _, _, v, hv => by cases hv
  | u :: ks, a, h, v, hv => by
    simp only [List.all_cons, Bool.and_eq_true] at a
    obtain ⟨m, rfl⟩ := isKey_spec a.1
    simp only [findI] at h
    split at h
    · cases h
    · rename_i e
      split at h
      · cases h
      · rename_i e2
        rcases List.mem_cons.1 hv with rfl | hv
        · intro e3; cases e3; exact e rfl
        · exact findI_none ks a.2 e2 v hv

/-- the model's own search, where all keys are of the kind -/
theorem findNow_some {k0 kk : IntKind} {n : Int} : ∀ (es : List MapEntry) (i : Nat), (∀ e ∈ es, ∃ m, e.key = .int kk m) →
    (∃ j e, es[j]? = some e ∧ e.key = .int kk n ∧ Instr.findNow (.int k0) (.int kk n) es i = some (some (i + j, e.val))) ∨
    ((∀ e ∈ es, e.key ≠ .int kk n) ∧ Instr.findNow (.int k0) (.int kk n) es i = some none)
  | [], i, _ => Or.inr ⟨by simp, rfl⟩
  | e :: es, i, h => by
    obtain ⟨m, hm⟩ := h e List.mem_cons_self
    by_cases hn : n = m
    · subst hn
      exact Or.inl ⟨0, e, rfl, hm, by simp [Instr.findNow, hm, Instr.sameNow]⟩
    · have step : Instr.findNow (.int k0) (.int kk n) (e :: es) i = Instr.findNow (.int k0) (.int kk n) es (i + 1) := by
        have hb : (n == m) = false := by simpa using hn
        simp [Instr.findNow, hm, Instr.sameNow, hb]
      rcases findNow_some (k0 := k0) (n := n) es (i + 1) (fun e he => h e (List.mem_cons_of_mem _ he)) with ⟨j, e', h1, h2, h3⟩ | ⟨h1, h2⟩
      · exact Or.inl ⟨j + 1, e', by simpa using h1, h2, by rw [step, h3]; congr 3; omega⟩
      · refine Or.inr ⟨fun e' he => ?_, by rw [step, h2]⟩
        rcases List.mem_cons.1 he with rfl | he
        · rw [hm]; intro e3; cases e3; exact hn rfl
        · exact h1 e' he

theorem run_findKey {t : TypeId} {k0 kk : IntKind} {n : Int} (hu : P.underlying t = some (.int k0)) (es : List MapEntry) (h : ∀ e ∈ es, ∃ m, e.key = .int kk m) (w : World) :
    (∃ j e, es[j]? = some e ∧ e.key = .int kk n ∧ (Instr.findKey t (.int kk n) es).run P w = .ok (some (j, e.val)) w) ∨
    ((∀ e ∈ es, e.key ≠ .int kk n) ∧ (Instr.findKey t (.int kk n) es).run P w = .ok none w) := by
  rcases findNow_some (k0 := k0) (n := n) es 0 h with ⟨j, e, h1, h2, h3⟩ | ⟨h1, h2⟩
  · exact Or.inl ⟨j, e, h1, h2, by simp [Instr.findKey, run_underlying hu, h3]⟩
  · exact Or.inr ⟨h1, by simp [Instr.findKey, run_underlying hu, h2]⟩

theorem run_checkKey {t : TypeId} {k0 : IntKind} {b : Bool} {v : Value} (hu : P.underlying t = some (.int k0)) (w : World) : (Instr.checkKey b 10000 t v).run P w = .ok () w := by
  show (Instr.checkKey b (9999 + 1) t v).run P w = _
  generalize 9999 = m
  simp [Instr.checkKey, run_underlying hu]

def AV.look (v : AV) : Bool := match v with
  | .agg cs => cs.all AV.free
  | v => v.free
theorem repCs_free {X : Cx} : ∀ (cs : List AV) (ys : List Value) (h : PH), (cs.all AV.free) = true → repCs X cs ys h → pureCs X cs ys
  | [], ys, h, _, r => by simp only [repCs, HP.pure] at r; simp only [pureCs]; exact r.1
  | c :: cs, ys, h, a, r => by
    simp only [List.all_cons, Bool.and_eq_true] at a
    simp only [repCs, HP.ex] at r
    obtain ⟨z, zs, e, o, h1, h2, d, e', p, q⟩ := r
    simp only [pureCs]
    exact ⟨z, zs, e, o, ((rep_free a.1).1 p).1, repCs_free cs zs h2 a.2 q⟩
theorem rep_look {X : Cx} {v : AV} {z : Value} {h : PH} (hv : v.look = true) (r : rep X v z h) : pureR X v z := by
  cases v with
  | agg cs =>
    simp only [rep, HP.ex] at r
    obtain ⟨ys, e, r⟩ := r
    simp only [pureR]; exact ⟨ys, e, repCs_free cs _ h hv r⟩
  | ownp o => exact absurd hv (by simp [AV.look, AV.free])
  | ownsl o => exact absurd hv (by simp [AV.look, AV.free])
  | ownm o => exact absurd hv (by simp [AV.look, AV.free])
  | tup o => exact absurd hv (by simp [AV.look, AV.free])
  | _ => refine ((rep_free ?_).1 r).1; exact hv
theorem repL_get {X : Cx} : ∀ (vs : List AV) (ys : List Value) (h : PH) (j : Nat) (v : AV), repL X vs ys h → vs[j]? = some v → ∃ z h', ys[j]? = some z ∧ rep X v z h'
  | [], ys, h, j, v, _, e => by simp at e
  | u :: vs, ys, h, 0, v, r, e => by
    simp only [repL, HP.ex] at r
    obtain ⟨z, zs, rfl, h1, h2, d, e', p, q⟩ := r
    simp at e; subst e; exact ⟨z, h1, rfl, p⟩
  | u :: vs, ys, h, j + 1, v, r, e => by
    simp only [repL, HP.ex] at r
    obtain ⟨z, zs, rfl, h1, h2, d, e', p, q⟩ := r
    simp at e
    obtain ⟨z', h', e1, p'⟩ := repL_get vs zs h2 j v q e
    exact ⟨z', h', by simpa using e1, p'⟩

/-- the entries of a map and its keys and values -/
theorem entry_at {ks : List Value} {ys : List Value} {es : List MapEntry} (hl : ks.length = ys.length) (hp : (es.map fun e => (e.key, e.val)).Perm (ks.zip ys)) (hn : (es.map (·.key)).Nodup) :
    ks.Nodup ∧ (∀ e ∈ es, ∃ j : Nat, ks[j]? = some e.key ∧ ys[j]? = some e.val) ∧ (∀ k ∈ ks, ∃ e ∈ es, e.key = k) := by
  have hk : (es.map (·.key)).Perm ks := by
    have := hp.map Prod.fst
    rw [List.map_map, List.map_fst_zip (by omega)] at this
    exact this
  refine ⟨hk.nodup_iff.1 hn, fun e he => ?_, fun k hk' => ?_⟩
  · have : (e.key, e.val) ∈ ks.zip ys := hp.mem_iff.1 (List.mem_map.2 ⟨e, he, rfl⟩)
    obtain ⟨j, hj⟩ := List.getElem?_of_mem this
    rw [List.getElem?_zip_eq_some] at hj
    exact ⟨j, hj.1, hj.2⟩
  · have := hk.mem_iff.2 hk'
    obtain ⟨e, he, e2⟩ := List.mem_map.1 this
    exact ⟨e, he, e2⟩

def aLookup (P : Program) (t : TypeId) (ok : Bool) (H : Hp) (n : Nat) (x k : AV) : AR := match x, k, tsh P t with
  | .mp id, .int kk m, .mp kt et => match tsh P kt, alook H id with
    | .int _, some (.map ks vs) => if (ks.all (isKey kk)) = true ∧ ks.length = vs.length then (match findI m ks with
      | some j => match vs[j]? with
        | some v => if v.look = true then .ok (if ok = true then .tup [v, .bool true] else v) H n else .fail
        | none => .fail
      | none => if (tzero P et).fits (tsz P et) = true then .ok (if ok = true then .tup [tzero P et, .bool false] else tzero P et) H n else .fail) else .fail
    | _, _ => .fail
  | _, _, _ => .fail

theorem aLookup_good {X : Cx} {hf : PH} {H : Hp} {w : World} (t : TypeId) (ok : Bool) {a k : AV} {x y : Value} (m : Mem X hf H w) (ha : pureR X a x) (hk : pureR X k y) : Good P (Instr.lookup t x y ok) X hf w (aLookup P t ok H X.n a k) := by
  unfold aLookup
  split
  · rename_i id kk mm kt et hs
    simp only [pureR] at ha hk
    obtain ⟨hid, rfl⟩ := ha
    subst hk
    split
    · rename_i k0 ks vs hk0 hl
      split
      · rename_i hc
        obtain ⟨hkeys, hlen⟩ := hc
        have m0 := m
        obtain ⟨h, st, d1, d2, iw, iwi, iwf⟩ := m0
        obtain ⟨h1, h2, d, rfl, l, ro, put, _⟩ := starH_focus H h st hl
        simp only [repO] at ro
        obtain ⟨en, cl, ys, e1, e2, e3, e4, e5, h3, h4, d', rfl, p, q⟩ := ro
        have hp : w.heap[(X.σ id).blk]? = some (.map en cl) := iw _ _ (by simp only [HP.one] at p; simp [p, PH.join, PH.one])
        obtain ⟨nd, ent, cov⟩ := entry_at e4 e5 e1
        have ekeys : ∀ e ∈ en.toList, ∃ z, e.key = .int kk z := fun e he => by
          obtain ⟨j, hj, _⟩ := ent e he
          exact isKey_spec (List.all_eq_true.1 hkeys _ (List.mem_of_getElem? hj))
        have huk := und_of_int hk0
        have base : ∀ (r : Option (Nat × Value)), (Instr.findKey kt (.int kk mm) en.toList).run P w = .ok r w → (Instr.lookup t (.map (some (X.σ id).blk)) (.int kk mm) ok).run P w =
            (match r with | some (_, v) => .ok (if ok then .tuple #[v, .bool true] else v) w | none => ((zeroValue et).run P w).andThen fun z w => .ok (if ok then .tuple #[z, .bool false] else z) w) := by
          intro r hr
          cases r with
          | none => simp [Instr.lookup, run_underlying (und_of_mp hs), getObj, Sem.run, hp, run_checkKey huk, hr]
          | some r => simp [Instr.lookup, run_underlying (und_of_mp hs), getObj, Sem.run, hp, run_checkKey huk, hr]
        rcases run_findKey (P := P) (n := mm) huk en.toList ekeys w with ⟨j, e, h1', h2', h3'⟩ | ⟨h1', h2'⟩
        · have hrun := base _ h3'
          obtain ⟨j', hj1, hj2⟩ := ent e (List.mem_of_getElem? h1')
          rw [h2'] at hj1
          cases hf' : findI mm ks with
          | none => exact absurd rfl (findI_none ks hkeys hf' _ (List.mem_of_getElem? hj1))
          | some j2 =>
            have hj3 := findI_some ks j2 hkeys hf'
            have hj : j2 = j' := by
              exact (List.getElem?_inj (List.getElem?_eq_some_iff.1 hj3).1 nd).1 (hj3.trans hj1.symm)
            subst hj
            dsimp only
            cases hv : vs[j2]? with
            | none => exact trivial
            | some v =>
              dsimp only
              split
              · rename_i hlook
                obtain ⟨z, h', hz, r⟩ := repL_get vs ys _ j2 v q hv
                rw [hj2] at hz; cases hz
                have pv := rep_look hlook r
                refine ⟨_, w, X, hrun, Ext.refl w, Cx.le_refl X, rfl, m, ?_⟩
                cases ok
                · exact pv
                · simp only [if_true, pureR, pureL]
                  exact ⟨_, rfl, e.val, [.bool true], rfl, pv, .bool true, [], rfl, rfl, rfl⟩
              · exact trivial
        · have hrun := base _ h2'
          cases hf' : findI mm ks with
          | some j2 =>
            have hj3 := findI_some ks j2 hkeys hf'
            obtain ⟨e, he, e6⟩ := cov _ (List.mem_of_getElem? hj3)
            exact absurd e6 (h1' e he)
          | none =>
            dsimp only
            split
            · rename_i hz
              obtain ⟨z, rz, pz⟩ := run_zeroValue' (P := P) (t := et) rfl (fits_top hz) X
              rw [rz w] at hrun
              refine ⟨_, w, X, hrun, Ext.refl w, Cx.le_refl X, rfl, m, ?_⟩
              cases ok
              · exact pz
              · simp only [if_true, pureR, pureL]
                exact ⟨_, rfl, z, [.bool false], rfl, pz, .bool false, [], rfl, rfl, rfl⟩
            · exact trivial
      · exact trivial
    · exact trivial
  · exact trivial
end Go.AM
