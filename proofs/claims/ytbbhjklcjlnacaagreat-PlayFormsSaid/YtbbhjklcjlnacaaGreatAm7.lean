/-
  Operations that reckon, lead somewhere, or lay something new. No condition beyond what each theorem states.
-/
import Derived.Test.YtbbhjklcjlnacaaGreatAm6
/-! Operations that reckon, lead somewhere, or lay something new. -/
namespace Go.AM
variable {P : Program}

theorem good_val {c : Cls} {s : Sem Value} {X : Cx} {hf : PH} {H : Hp} {w : World} {v : AV} {x : Value} (m : Mem X hf H w) (r : ∀ u, s.run P u = .ok x u) (p : pureR X v x)  : GoodO c P s X hf w (.ok v H X.n) :=
  ⟨x, X, fun u _ => r u, Cx.le_refl X, rfl, m, p⟩

theorem und_of_sl {t e : TypeId} (h : tsh P t = .sl e) : P.underlying t = some (.slice e) := by
  unfold tsh at h; cases hu : P.underlying t with
  | none => simp [hu] at h
  | some d => cases d <;> simp [hu] at h; subst h; rfl
theorem und_of_arr {t e : TypeId} {n : Nat} (h : tsh P t = .arr n e) : P.underlying t = some (.array n e) := by
  unfold tsh at h; cases hu : P.underlying t with
  | none => simp [hu] at h
  | some d => cases d <;> simp [hu] at h; obtain ⟨rfl, rfl⟩ := h; rfl
theorem und_of_mp {t k e : TypeId} (h : tsh P t = .mp k e) : P.underlying t = some (.map k e) := by
  unfold tsh at h; cases hu : P.underlying t with
  | none => simp [hu] at h
  | some d => cases d <;> simp [hu] at h; obtain ⟨rfl, rfl⟩ := h; rfl
theorem und_of_int {t : TypeId} {k : IntKind} (h : tsh P t = .int k) : P.underlying t = some (.int k) := by
  unfold tsh at h; cases hu : P.underlying t with
  | none => simp [hu] at h
  | some d => cases d <;> simp [hu] at h; subst h; rfl
theorem und_of_str {t : TypeId} (h : tsh P t = .str) : P.underlying t = some .string := by
  unfold tsh at h; cases hu : P.underlying t with
  | none => simp [hu] at h
  | some d => cases d <;> simp [hu] at h; rfl
theorem und_of_strct {t : TypeId} (h : tsh P t = .strct) : ∃ fs, P.underlying t = some (.struct fs) := by
  unfold tsh at h; cases hu : P.underlying t with
  | none => simp [hu] at h
  | some d => cases d <;> simp [hu] at h; exact ⟨_, rfl⟩
theorem und_of_fo {t : TypeId} {f o k : Nat} (h : tfo P t f = some (o, k)) : ∃ fs fd, P.underlying t = some (.struct fs) ∧ fs[f]? = some fd ∧ fd.offset = o ∧ tsz P fd.type = k := by
  unfold tfo at h; cases hu : P.underlying t with
  | none => simp [hu] at h
  | some d =>
    cases d <;> simp [hu] at h
    rename_i fs
    cases hf : fs[f]? with
    | none => simp [hf] at h
    | some fd => simp [hf] at h; exact ⟨fs, fd, rfl, hf, h.1, h.2⟩

theorem row_sz {X : Cx} {hf : PH} {H : Hp} {w : World} (m : Mem X hf H w) {id sz : Nat} {es : List AV} (hl : alook H id = some (.row sz es)) : (X.σ id).sz = sz ∧ es.length ≤ (X.σ id).cap := by
  obtain ⟨h, st, _⟩ := m
  obtain ⟨h1, h2, d, rfl, l, ro, put, _⟩ := starH_focus H h st hl
  simp only [repO] at ro; exact ⟨ro.1, ro.2.1⟩

theorem aFld_good {X : Cx} {hf : PH} {H : Hp} {w : World} (t : TypeId) (f : Nat) {a : AV} {x : Value} (m : Mem X hf H w) (ha : pureR X a x) :
    GoodO .P P (Instr.fieldAt t x f) X hf w (aFld P t f H X.n a) := by
  have run : ∀ w b o o' k, tfo P t f = some (o', k + 1) → (Instr.fieldAt t (.pointer (some ⟨b, o, none⟩)) f).run P w = .ok (.pointer (some ⟨b, o + o', none⟩)) w := by
    intro w b o o' k h
    obtain ⟨fs, fd, hu, hfd, h1, h2⟩ := und_of_fo h
    simp [Instr.fieldAt, run_underlying hu, hfd, Instr.sureAddr, fieldPlace, run_sizeOf' (P := P) (t := fd.type) (by omega), h2, addr_add, h1]
  cases a with
  | ptr id i off =>
    simp only [pureR] at ha; obtain ⟨hid, rfl⟩ := ha
    simp only [aFld]
    split
    · rename_i o k h
      exact good_val m (fun w => run w _ _ _ _ h) (by simp only [pureR]; exact ⟨hid, by rw [Nat.add_assoc]⟩)
    · exact trivial
  | rop cs off =>
    simp only [pureR] at ha
    obtain ⟨b, o, c, T, fz, ys, rfl, him, p, tk⟩ := ha
    simp only [aFld]
    split
    · rename_i o' k h
      exact good_val m (fun w => run w _ _ _ _ h) (by simp only [pureR]; exact ⟨b, o, c, T, fz, ys, by rw [Nat.add_assoc], him, p, tk⟩)
    · exact trivial
  | _ => exact trivial

theorem pureE_len {X : Cx} {sz : Nat} : ∀ (es : List AV) (ys : List Value), pureE X sz es ys → ys.length = es.length * sz
  | [], ys, h => by simp only [pureE] at h; simp [h]
  | e :: es, ys, h => by
    cases e with
    | agg cs => simp only [pureE] at h; obtain ⟨z, zs, rfl, l, p, q⟩ := h; simp [pureE_len es zs q, l, Nat.add_mul]; omega
    | _ => simp only [pureE] at h; obtain ⟨z, zs, rfl, l, o, p, q⟩ := h; simp [pureE_len es zs q, l]

/-- an element of memory that nobody writes any more -/
theorem pureE_get {X : Cx} {sz : Nat} {e : AV} : ∀ (es : List AV) (ys : List Value) (i : Nat), pureE X sz es ys → es[i]? = some e → ∃ zs, (ys.drop (i * sz)).take zs.length = zs ∧ pureCs X e.cells zs
  | [], _, i, _, h => by simp at h
  | a :: es, ys, 0, p, h => by
    simp at h; subst h
    cases a with
    | agg cs => simp only [pureE] at p; obtain ⟨z, zs, rfl, l, p, q⟩ := p; exact ⟨z, by simp, p⟩
    | _ => simp only [pureE] at p; obtain ⟨z, zs, rfl, l, o, p, q⟩ := p; exact ⟨[z], by simp, by simp only [AV.cells, pureCs]; exact ⟨z, [], rfl, o, p, rfl⟩⟩
  | a :: es, ys, i + 1, p, h => by
    simp at h
    cases a with
    | agg cs =>
      simp only [pureE] at p; obtain ⟨z, zs, rfl, l, p, q⟩ := p
      obtain ⟨us, e1, e2⟩ := pureE_get es zs i q h
      refine ⟨us, ?_, e2⟩
      rw [show (i + 1) * sz = z.length + i * sz by rw [l, Nat.add_mul]; omega, ← List.drop_drop, List.drop_left]; exact e1
    | _ =>
      simp only [pureE] at p; obtain ⟨z, zs, rfl, l, o, p, q⟩ := p
      obtain ⟨us, e1, e2⟩ := pureE_get es zs i q h
      refine ⟨us, ?_, e2⟩
      subst l
      simpa using e1

theorem take_drop_part {ys us : List Value} {L : List Value} {o k : Nat} (h : (L.drop o).take ys.length = ys) (g : (ys.drop k).take us.length = us) : (L.drop (o + k)).take us.length = us := by
  rw [← List.drop_drop]
  have e1 : us.length ≤ ys.length - k := by
    have := congrArg List.length g; simp at this; omega
  rw [← h, List.drop_take, List.take_take, Nat.min_eq_left e1] at g
  exact g

theorem run_indexAt_sl {t e : TypeId} (hs : tsh P t = .sl e) (hz : 0 < tsz P e) (b o len cap : Nat) (k : IntKind) (i : Int) (h0 : 0 ≤ i) (h1 : i < len) (w : World) :
    (Instr.indexAt t (.slice (some ⟨b, o, none⟩) len cap) (.int k i)).run P w = .ok (.pointer (some ⟨b, o + i.toNat * tsz P e, none⟩)) w := by
  have hu := und_of_sl hs
  simp [Instr.indexAt, asIntOf, run_underlying hu, h0, h1, run_sizeOf' hz, addr_add]
theorem run_indexAt_arr {t e : TypeId} {n : Nat} (hs : tsh P t = .arr n e) (hz : 0 < tsz P e) (b o : Nat) (k : IntKind) (i : Int) (h0 : 0 ≤ i) (h1 : i < n) (w : World) :
    (Instr.indexAt t (.pointer (some ⟨b, o, none⟩)) (.int k i)).run P w = .ok (.pointer (some ⟨b, o + i.toNat * tsz P e, none⟩)) w := by
  have hu := und_of_arr hs
  simp [Instr.indexAt, asIntOf, run_underlying hu, h0, h1, run_sizeOf' hz, addr_add, Instr.sureAddr]

theorem pureE_cells {X : Cx} {sz : Nat} {e : AV} : ∀ (es : List AV) (ys : List Value) (i : Nat), pureE X sz es ys → es[i]? = some e → e.cells.length = sz
  | [], _, i, _, h => by simp at h
  | a :: es, ys, 0, p, h => by
    simp at h; subst h
    cases a with
    | agg cs => simp only [pureE] at p; obtain ⟨z, zs, rfl, l, p, q⟩ := p; have := pureCs_len _ _ p; simp [AV.cells]; omega
    | _ => simp only [pureE] at p; obtain ⟨z, zs, rfl, l, o, p, q⟩ := p; simp [AV.cells, l]
  | a :: es, ys, i + 1, p, h => by
    simp at h
    cases a with
    | agg cs => simp only [pureE] at p; obtain ⟨z, zs, rfl, l, p, q⟩ := p; exact pureE_cells es zs i q h
    | _ => simp only [pureE] at p; obtain ⟨z, zs, rfl, l, o, p, q⟩ := p; exact pureE_cells es zs i q h

theorem aIdx_good {X : Cx} {hf : PH} {H : Hp} {w : World} (t : TypeId) {a i : AV} {x y : Value} (m : Mem X hf H w) (ha : pureR X a x) (hi : pureR X i y) :
    GoodO .P P (Instr.indexAt t x y) X hf w (aIdx P t H X.n a i) := by
  unfold aIdx
  split
  · rename_i id off len kk k e hs
    simp only [pureR] at ha hi
    obtain ⟨hid, a0, q1, q2, rfl, q3⟩ := ha
    subst hi
    split
    · rename_i sz es hl
      split
      · rename_i hb
        obtain ⟨b0, b1, b2, b3⟩ := hb
        have hc : (X.σ id).cap - off ≠ 0 := by omega
        have r := (row_sz m hl).1
        rw [q3 hc]
        refine good_val m (fun w => run_indexAt_sl hs b1 _ _ _ _ _ _ b2 b3 w) ?_
        simp only [pureR]; refine ⟨hid, ?_⟩
        rw [r, b0, Nat.add_mul, Nat.add_zero]
      · exact trivial
    · exact trivial
  · rename_i es kk k e hs
    simp only [pureR] at ha hi
    obtain ⟨a0, cap, q1, rfl, q3⟩ := ha
    subst hi
    split
    · rename_i hb
      obtain ⟨b1, b2, b3⟩ := hb
      split
      · rename_i v hv
        split
        · rename_i hz
          rcases q3 with q3 | ⟨b, o, sz, c, T, fz, ys, rfl, him, p, tk⟩
          · subst q3; simp at hv
          · obtain ⟨zs, g1, g2⟩ := pureE_get es ys _ p hv
            have hsz := pureE_cells es ys _ p hv
            refine good_val m (fun w => run_indexAt_sl hs b1 _ _ _ _ _ _ b2 b3 w) ?_
            simp only [pureR]
            refine ⟨b, o + k.toNat * sz, c, T, fz, zs, by rw [← hsz, hz]; rfl, him, g2, ?_⟩
            exact take_drop_part tk g1
        · exact trivial
      · exact trivial
    · exact trivial
  · rename_i id j off kk k len e hs
    simp only [pureR] at ha hi
    obtain ⟨hid, rfl⟩ := ha
    subst hi
    split
    · rename_i hb
      obtain ⟨b1, b2, b3⟩ := hb
      refine good_val m (fun w => run_indexAt_arr hs b1 _ _ _ _ b2 b3 w) ?_
      simp only [pureR]; exact ⟨hid, by rw [Nat.add_assoc]⟩
    · exact trivial
  · rename_i cs off kk k len e hs
    simp only [pureR] at ha hi
    obtain ⟨b, o, c, T, fz, ys, rfl, him, p, tk⟩ := ha
    subst hi
    split
    · rename_i hb
      obtain ⟨b1, b2, b3⟩ := hb
      refine good_val m (fun w => run_indexAt_arr hs b1 _ _ _ _ b2 b3 w) ?_
      simp only [pureR]; exact ⟨b, o, c, T, fz, ys, by rw [Nat.add_assoc], him, p, tk⟩
    · exact trivial
  · exact trivial

theorem pureE_slice {X : Cx} {sz : Nat} : ∀ (es : List AV) (ys : List Value) (l : Nat), pureE X sz es ys → pureE X sz (es.drop l) (ys.drop (l * sz))
  | es, ys, 0, p => by simpa using p
  | [], ys, l + 1, p => by simp only [pureE] at p; subst p; simp [pureE]
  | e :: es, ys, l + 1, p => by
    cases e with
    | agg cs =>
      simp only [pureE] at p; obtain ⟨z, zs, rfl, hl, p, q⟩ := p
      rw [show (l + 1) * sz = z.length + l * sz by rw [hl, Nat.add_mul]; omega, List.drop_succ_cons, List.drop_length_add_append]
      exact pureE_slice es zs l q
    | _ =>
      simp only [pureE] at p; obtain ⟨z, zs, rfl, hl, o, p, q⟩ := p
      subst hl
      have := pureE_slice es zs l q
      simpa using this
theorem pureE_take {X : Cx} {sz : Nat} : ∀ (es : List AV) (ys : List Value) (l : Nat), pureE X sz es ys → pureE X sz (es.take l) (ys.take (l * sz))
  | es, ys, 0, p => by simp [pureE]
  | [], ys, l + 1, p => by simp only [pureE] at p; subst p; simp [pureE]
  | e :: es, ys, l + 1, p => by
    cases e with
    | agg cs =>
      simp only [pureE] at p; obtain ⟨z, zs, rfl, hl, p, q⟩ := p
      simp only [List.take_succ_cons, pureE]
      refine ⟨z, zs.take (l * sz), ?_, hl, p, pureE_take es zs l q⟩
      rw [show (l + 1) * sz = z.length + l * sz by rw [hl, Nat.add_mul]; omega, List.take_length_add_append]
    | _ =>
      simp only [pureE] at p; obtain ⟨z, zs, rfl, hl, o, p, q⟩ := p
      subst hl
      simp only [List.take_succ_cons, pureE]
      refine ⟨z, zs.take (l * 1), by simp, ?_, o, p, pureE_take es zs l q⟩
      first | trivial | rfl

theorem bound_forms {dflt : Nat} {lo : Option AV} {lo' : Option Value} {X : Cx} {l : Int} (hlo : ∀ v, lo = some v → ∃ x, lo' = some x ∧ pureR X v x) (hlo' : lo = none → lo' = none) (el : aBound dflt lo = some l) :
    (lo' = none ∧ l = dflt) ∨ ∃ k, lo' = some (.int k l) := by
  cases lo with
  | none => simp [aBound] at el; exact Or.inl ⟨hlo' rfl, el.symm⟩
  | some v =>
    cases v <;> simp [aBound] at el
    subst el
    obtain ⟨x, e1, p⟩ := hlo _ rfl
    simp only [pureR] at p; subst p
    exact Or.inr ⟨_, e1⟩

theorem run_sliceAt {t e : TypeId} (hs : tsh P t = .sl e) (hz : 0 < tsz P e) (a : Option Addr) (len cap : Nat) (lo' hi' : Option Value) {l h : Int} (el : (lo' = none ∧ l = (0 : Nat)) ∨ ∃ k, lo' = some (.int k l))
    (eh : (hi' = none ∧ h = len) ∨ ∃ k, hi' = some (.int k h)) (h0 : 0 ≤ l) (h1 : l ≤ h) (h2 : h ≤ cap) (w : World) :
    (Instr.sliceAt t (.slice a len cap) lo' hi' none).run P w = .ok (.slice (if cap = l.toNat then a else a.map (·.add (l.toNat * tsz P e))) (h.toNat - l.toNat) (cap - l.toNat)) w := by
  have hu := und_of_sl hs
  have c1 : 0 ≤ h ∧ h ≤ (cap : Int) := ⟨by omega, h2⟩
  have c2 : 0 ≤ l ∧ l ≤ (h.toNat : Int) := ⟨h0, by omega⟩
  rcases el with ⟨rfl, rfl⟩ | ⟨k, rfl⟩ <;> rcases eh with ⟨rfl, rfl⟩ | ⟨k', rfl⟩
  · simp [Instr.sliceAt, Instr.slice, Instr.sliceBounds, run_underlying hu, run_sizeOf' hz]
  · simp only [Instr.sliceAt, Instr.slice, Instr.sliceBounds, Instr.sliceBound, asIntOf, Sem.run_bind, Sem.run_pure, Result.andThen, run_underlying hu, run_sizeOf' hz, if_pos c1, Option.isSome_none, if_true, pure_bind]
    rfl
  · simp only [Int.toNat_natCast] at c2
    simp only [Instr.sliceAt, Instr.slice, Instr.sliceBounds, Instr.sliceBound, asIntOf, Sem.run_bind, Sem.run_pure, Result.andThen, run_underlying hu, run_sizeOf' hz, if_pos c2, Option.isSome_none, Int.toNat_natCast, pure_bind]
  · simp only [Instr.sliceAt, Instr.slice, Instr.sliceBounds, Instr.sliceBound, asIntOf, Sem.run_bind, Sem.run_pure, Result.andThen, run_underlying hu, run_sizeOf' hz, if_pos c1, if_pos c2, Option.isSome_none, if_true, pure_bind]

theorem aSlice_good {X : Cx} {hf : PH} {H : Hp} {w : World} (t : TypeId) {a : AV} {x : Value} {lo hi : Option AV} {lo' hi' : Option Value} (m : Mem X hf H w) (ha : pureR X a x)
    (hlo : ∀ v, lo = some v → ∃ x, lo' = some x ∧ pureR X v x) (hlo' : lo = none → lo' = none) (hhi : ∀ v, hi = some v → ∃ x, hi' = some x ∧ pureR X v x) (hhi' : hi = none → hi' = none) :
    GoodO .P P (Instr.sliceAt t x lo' hi' none) X hf w (aSlice P t H X.n a lo hi) := by
  unfold aSlice
  split
  · rename_i id off len e hs
    simp only [pureR] at ha
    obtain ⟨hid, a0, q1, q2, rfl, q3⟩ := ha
    split
    · rename_i sz es l h hl el eh
      split
      · rename_i hb
        obtain ⟨b0, b1, b2, b3, b4⟩ := hb
        have r := (row_sz m hl).1
        refine good_val m (fun w => run_sliceAt hs b1 a0 len _ lo' hi' (bound_forms hlo hlo' el) (bound_forms hhi hhi' eh) b2 b3 (by omega) w) ?_
        simp only [pureR]
        refine ⟨hid, (if (X.σ id).cap - off = l.toNat then a0 else a0.map (·.add (l.toNat * tsz P e))), by omega, by omega, ?_, ?_⟩
        · rw [Nat.sub_add_eq]
        · intro hc
          rw [if_neg (by omega), q3 (by omega)]
          simp [addr_add, Nat.add_mul, r, b0]
      · exact trivial
    · exact trivial
  · rename_i es e hs
    simp only [pureR] at ha
    obtain ⟨a0, cap, q1, rfl, q3⟩ := ha
    split
    · rename_i l h el eh
      split
      · rename_i hb
        obtain ⟨b1, b2, b3, b4, b5⟩ := hb
        refine good_val m (fun w => run_sliceAt hs b1 a0 _ _ lo' hi' (bound_forms hlo hlo' el) (bound_forms hhi hhi' eh) b2 b3 (by omega) w) ?_
        simp only [pureR]
        have hlen : ((es.take h.toNat).drop l.toNat).length = h.toNat - l.toNat := by simp; omega
        refine ⟨_, _, ?_, by rw [hlen], ?_⟩
        · rw [hlen]; omega
        · by_cases hnil : (es.take h.toNat).drop l.toNat = []
          · exact Or.inl hnil
          · right
            have hlt : l.toNat < h.toNat := by
              rcases Nat.lt_or_ge l.toNat h.toNat with h' | h'
              · exact h'
              · exact absurd (List.eq_nil_of_length_eq_zero (by rw [hlen]; omega)) hnil
            rcases q3 with q3 | ⟨b, o, sz, c, T, fz, ys, rfl, him, p, tk⟩
            · subst q3; simp at hnil
            · have hsz : sz = tsz P e := by
                have hex : es[0]? = some es[0] := List.getElem?_eq_getElem (by omega)
                have := pureE_cells es ys _ p hex
                have h2 := okHd_get es _ b5 hex
                omega
              rw [if_neg (by omega)]
              refine ⟨b, o + l.toNat * sz, sz, c, T, fz, (ys.take (h.toNat * sz)).drop (l.toNat * sz), ?_, him, pureE_slice _ _ _ (pureE_take _ _ _ p), ?_⟩
              · simp [addr_add, hsz]
              · have hyl := pureE_len _ _ p
                refine take_drop_part tk ?_
                rw [List.drop_take]
                simp only [List.length_take, List.length_drop]
                apply List.ext_getElem?
                intro j
                simp only [List.getElem?_take]
                split <;> split <;> first | rfl | (rename_i h1 h2; exfalso; omega) | (rename_i h1 h2; rw [List.getElem?_eq_none]; simp; omega)
      · exact trivial
    · exact trivial
  · rename_i e hs
    simp only [pureR] at ha; subst ha
    split
    · rename_i l h el eh
      split
      · rename_i hb
        obtain ⟨rfl, rfl, b1⟩ := hb
        refine good_val m (fun w => run_sliceAt hs b1 none 0 0 lo' hi' (bound_forms hlo hlo' el) (bound_forms hhi hhi' eh) (by omega) (by omega) (by omega) w) ?_
        simp [pureR]
      · exact trivial
    · exact trivial
  · exact trivial

theorem good_int {c : Cls} {s : Sem Value} {X : Cx} {hf : PH} {H : Hp} {w : World} {k : IntKind} {n : Int} (m : Mem X hf H w) (r : ∀ u, s.run P u = .ok (.int k n) u)  : GoodO c P s X hf w (.ok (.int k n) H X.n) :=
  good_val m r (by simp [pureR])
theorem good_bool {c : Cls} {s : Sem Value} {X : Cx} {hf : PH} {H : Hp} {w : World} {b : Bool} (m : Mem X hf H w) (r : ∀ u, s.run P u = .ok (.bool b) u)  : GoodO c P s X hf w (.ok (.bool b) H X.n) :=
  good_val m r (by simp [pureR])

/-- a slice's or a string's length is read off the value -/
def clsLen (P : Program) (t : TypeId) : Cls := match tsh P t with
  | .sl _ | .str => .P
  | _ => .R

theorem aLen_good {X : Cx} {hf : PH} {H : Hp} {w : World} (t T : TypeId) {a : AV} {x : Value} (m : Mem X hf H w) (ha : pureR X a x) :
    GoodO (clsLen P t) P (Builtin.len_ #[t] T #[x]) X hf w (aLen P t H X.n a) := by
  unfold aLen
  split
  · rename_i id off len e hs
    simp only [pureR] at ha; obtain ⟨hid, a0, q1, q2, rfl, q3⟩ := ha
    exact good_int m (fun w => by simp [Builtin.len_, goInt, run_underlying (und_of_sl hs)])
  · rename_i es e hs
    simp only [pureR] at ha; obtain ⟨a0, cap, q1, rfl, q3⟩ := ha
    exact good_int m (fun w => by simp [Builtin.len_, goInt, run_underlying (und_of_sl hs)])
  · rename_i e hs
    simp only [pureR] at ha; subst ha
    exact good_int m (fun w => by simp [Builtin.len_, goInt, run_underlying (und_of_sl hs)])
  · rename_i s hs
    simp only [pureR] at ha; subst ha
    exact good_int m (fun w => by simp [Builtin.len_, goInt, run_underlying (und_of_str hs)])
  · rename_i k e hs
    simp only [pureR] at ha; subst ha
    exact good_int m (fun w => by simp [Builtin.len_, goInt, run_underlying (und_of_mp hs)])
  · rename_i id k e hs
    simp only [pureR] at ha; obtain ⟨hid, rfl⟩ := ha
    split
    · rename_i ks vs hl
      have m0 := m
      obtain ⟨h, st, d1, d2, iw, iwi, iwf⟩ := m0
      obtain ⟨h1, h2, d, rfl, l, ro, put, _⟩ := starH_focus H h st hl
      simp only [repO] at ro
      obtain ⟨en, cl, ys, e1, e2, e3, e4, e5, h3, h4, d', rfl, p, q⟩ := ro
      have hp : w.heap[(X.σ id).blk]? = some (.map en cl) := iw _ _ (by simp only [HP.one] at p; simp [p, PH.join, PH.one])
      have hlen : en.size = ks.length := by
        have := e5.length_eq; simp at this; omega
      refine ⟨.int .i64 ks.length, X, fun u hu => ?_, Cx.le_refl X, rfl, m, by simp [pureR]⟩
      have hu : Old w u := by simp only [clsLen, hs, OW] at hu; exact hu
      have hp : u.heap[(X.σ id).blk]? = some (.map en cl) := by rw [hu.block _ (Array.getElem?_eq_some_iff.1 hp).1]; exact hp
      simp [Builtin.len_, run_underlying (und_of_mp hs), getObj, Sem.run, hp, hlen, goInt]
    · exact trivial
  · rename_i k e hs
    exact good_int m (fun w => by simp [Builtin.len_, goInt, run_underlying (und_of_arr hs)])
  · exact trivial

theorem und_of_bool {t : TypeId} (h : tsh P t = .bool) : P.underlying t = some .bool := by
  unfold tsh at h; cases hu : P.underlying t with
  | none => simp [hu] at h
  | some d => cases d <;> simp [hu] at h; rfl
theorem und_of_ptr {t : TypeId} (h : tsh P t = .ptr) : P.underlying t = some (.pointer (P.pointee t)) := by
  unfold tsh at h; unfold Program.pointee; cases hu : P.underlying t with
  | none => simp [hu] at h
  | some d => cases d <;> simp [hu] at h; rfl
theorem und_of_iface {t : TypeId} (h : tsh P t = .iface) : P.underlying t = some (.interface (P.methodsAt t)) := by
  unfold tsh at h; unfold Program.methodsAt; cases hu : P.underlying t with
  | none => simp [hu] at h
  | some d => cases d <;> simp [hu] at h; rfl

def nilOp (neg : Bool) : BinOp := if neg then .neq else .eql

theorem run_eq_nilsl {t e : TypeId} (h : P.underlying t = some (.slice e)) (neg : Bool) (a : Option Addr) (l c : Nat) (w : World) :
    (binOp (nilOp neg) t (.slice a l c) (.slice none 0 0)).run P w = .ok (.bool (if neg then !a.isNone else a.isNone)) w := by
  cases neg
  · show (binOp .eql t (.slice a l c) (.slice none 0 0)).run P w = _
    simp only [binOp]; simp [run_equal_slice_nil w t e a l c h]
  · show (binOp .neq t (.slice a l c) (.slice none 0 0)).run P w = _
    exact run_neq_slice_nil w t e a l c h

theorem aNil_good {X : Cx} {hf : PH} {H : Hp} {w : World} (neg : Bool) (t : TypeId) {a b : AV} {x y : Value} (m : Mem X hf H w) (ha : pureR X a x) (hb : pureR X b y) :
    GoodO .P P (binOp (nilOp neg) t x y) X hf w (aNil H X.n neg (tsh P t) a b) := by
  unfold aNil
  split
  · rename_i h
    simp only [pureR] at ha hb; subst ha hb
    have hu := und_of_ptr h
    cases neg
    · exact good_bool m (fun w => run_eql_pointer_nil w t none hu)
    · exact good_bool m (fun w => run_neq_pointer_nil w t none hu)
  · rename_i h
    simp only [pureR] at ha hb; obtain ⟨_, rfl⟩ := ha; subst hb
    have hu := und_of_ptr h
    cases neg
    · exact good_bool m (fun w => run_eql_pointer_nil w t _ hu)
    · exact good_bool m (fun w => run_neq_pointer_nil w t _ hu)
  · rename_i h
    simp only [pureR] at ha hb; obtain ⟨b, o, c, T, fz, ys, rfl, _⟩ := ha; subst hb
    have hu := und_of_ptr h
    cases neg
    · exact good_bool m (fun w => run_eql_pointer_nil w t _ hu)
    · exact good_bool m (fun w => run_neq_pointer_nil w t _ hu)
  · rename_i h
    simp only [pureR] at ha hb; obtain ⟨z, rfl, _⟩ := ha; subst hb
    have hu := und_of_iface h
    cases neg
    · exact good_bool m (fun w => run_eql_held_nil w t _ _ hu)
    · exact good_bool m (fun w => run_neq_held_nil w t _ _ hu)
  · rename_i h
    simp only [pureR] at ha hb; subst ha hb
    have hu := und_of_iface h
    have e := fun w => run_equal_nil_nil w t hu
    cases neg
    · exact good_bool m (fun w => by show (binOp .eql t _ _).run P w = _; simp only [binOp]; simp [e])
    · exact good_bool m (fun w => by show (binOp .neq t _ _).run P w = _; simp only [binOp]; simp [e])
  · rename_i h
    simp only [pureR] at ha hb; subst ha hb
    have r := fun w => run_eq_nilsl (und_of_sl h) neg none 0 0 w
    cases neg <;> exact good_bool m r
  · rename_i es h
    simp only [pureR] at ha hb; obtain ⟨a0, cap, q1, rfl, q3⟩ := ha; subst hb
    have r := fun w => run_eq_nilsl (und_of_sl h) neg a0 es.length cap w
    split
    · exact ⟨_, X, fun u _ => r u, Cx.le_refl X, rfl, m⟩
    · rename_i hne
      rcases q3 with q3 | ⟨b, o, sz, c, T, fz, ys, rfl, _⟩
      · exact absurd q3 hne
      · cases neg <;> exact good_bool m r
  · rename_i id off len h
    simp only [pureR] at ha hb; obtain ⟨_, a0, q1, q2, rfl, q3⟩ := ha; subst hb
    have r := fun w => run_eq_nilsl (und_of_sl h) neg a0 len ((X.σ id).cap - off) w
    split
    · exact ⟨_, X, fun u _ => r u, Cx.le_refl X, rfl, m⟩
    · rename_i hne
      rw [q3 (by omega)] at r ⊢
      cases neg <;> exact good_bool m r
  · exact trivial

theorem aBin_good {X : Cx} {hf : PH} {H : Hp} {w : World} (op : BinOp) (t : TypeId) {a b : AV} {x y : Value} (m : Mem X hf H w) (ha : pureR X a x) (hb : pureR X b y) :
    GoodO .P P (binOp op t x y) X hf w (aBin P op t H X.n a b) := by
  unfold aBin
  split
  · simp only [pureR] at ha hb; subst ha hb
    split
    · rename_i h
      exact good_int m (fun w => by simp [binOp, Op.shift, show ¬ (_ < (0:Int)) from Int.not_lt.2 h])
    · exact trivial
  · simp only [pureR] at ha hb; subst ha hb
    split
    · rename_i h
      exact good_int m (fun w => by simp [binOp, Op.shift, show ¬ (_ < (0:Int)) from Int.not_lt.2 h])
    · exact trivial
  · rename_i k a k' b h1 h2
    simp only [pureR] at ha hb; subst ha hb
    split
    · rename_i hk; subst hk
      split
      · exact trivial
      · rename_i hz
        cases op
        case add => exact good_int m (fun w => by simp [binOp, Op.intArith])
        case sub => exact good_int m (fun w => by simp [binOp, Op.intArith])
        case mul => exact good_int m (fun w => by simp [binOp, Op.intArith])
        case quo =>
          have hb0 : b ≠ 0 := fun e => hz ⟨by simp, e⟩
          exact good_int m (fun w => by simp only [binOp, ne_eq, not_true_eq_false, if_false, Op.intDiv, hb0]; rfl)
        case rem =>
          have hb0 : b ≠ 0 := fun e => hz ⟨by simp, e⟩
          exact good_int m (fun w => by simp only [binOp, ne_eq, not_true_eq_false, if_false, Op.intDiv, hb0]; rfl)
        case and => exact good_int m (fun w => by simp [binOp, Op.intBits])
        case or => exact good_int m (fun w => by simp [binOp, Op.intBits])
        case xor => exact good_int m (fun w => by simp [binOp, Op.intBits])
        case eql => exact good_bool m (fun w => by simp only [binOp, ne_eq, not_true_eq_false, if_false, Op.intCmp]; rfl)
        case neq => exact good_bool m (fun w => by simp only [binOp, ne_eq, not_true_eq_false, if_false, Op.intCmp, Sem.run_pure, bne, BEq.beq]; simp)
        case lss => exact good_bool m (fun w => by simp only [binOp, ne_eq, not_true_eq_false, if_false, Op.intCmp]; rfl)
        case leq => exact good_bool m (fun w => by simp only [binOp, ne_eq, not_true_eq_false, if_false, Op.intCmp]; rfl)
        case gtr => exact good_bool m (fun w => by simp only [binOp, ne_eq, not_true_eq_false, if_false, Op.intCmp]; rfl)
        case geq => exact good_bool m (fun w => by simp only [binOp, ne_eq, not_true_eq_false, if_false, Op.intCmp]; rfl)
        all_goals exact trivial
    · exact trivial
  · simp only [pureR] at ha hb; subst ha hb
    split
    · rename_i h; exact good_bool m (fun w => run_eql_bool w t _ _ (und_of_bool h))
    · exact trivial
  · simp only [pureR] at ha hb; subst ha hb
    split
    · rename_i h; exact good_bool m (fun w => run_neq_bool w t _ _ (und_of_bool h))
    · exact trivial
  · rename_i a b; simp only [pureR] at ha hb; subst ha hb
    refine good_bool m fun w => ?_
    simp only [binOp, Op.stringOp, Sem.run_pure]
    congr 2
    rw [Bool.eq_iff_iff]; simp [ByteArray.ext_iff, ByteArray.toList_eq]
  · rename_i a b; simp only [pureR] at ha hb; subst ha hb
    refine good_bool m fun w => ?_
    simp only [binOp, Op.stringOp, Sem.run_pure]
    congr 2
    rw [Bool.eq_iff_iff]; simp [ByteArray.ext_iff, ByteArray.toList_eq]
  · exact aNil_good false t m ha hb
  · exact aNil_good true t m ha hb
  · exact trivial

theorem aUn_good {X : Cx} {hf : PH} {H : Hp} {w : World} (op : UnOp) {a : AV} {x : Value} (m : Mem X hf H w) (ha : pureR X a x) : GoodO .P P (Op.unary op x) X hf w (aUn op H X.n a) := by
  unfold aUn
  split
  · simp only [pureR] at ha; subst ha
    split
    · rename_i h; subst h; exact good_bool m fun _ => rfl
    · exact trivial
  · simp only [pureR] at ha; subst ha
    split
    · exact good_int m (fun w => by simp [Op.unary, Op.intArith])
    · exact good_int m (fun w => by simp [Op.unary, Op.intBits])
    · exact trivial
  · exact trivial

end Go.AM
