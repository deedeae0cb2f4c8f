/-
  Operations that lay new objects; values built. No condition beyond what each theorem states.
-/
import Derived.Test.YtbbhjklcjlnacaaGreatAm7
/-! Operations that lay new objects; values built. -/
namespace Go.AM
variable {P : Program}

/-- One number more. -/
def Cx.add (X : Cx) (pl : Pl) : Cx := ⟨X.im, fun j => if j = X.n then pl else X.σ j, X.n + 1⟩
theorem Cx.le_add (X : Cx) (pl : Pl) : X.le (X.add pl) := ⟨PH.sub_refl _, Nat.le_succ _, fun j hj => by simp [Cx.add, Nat.ne_of_lt hj]⟩
theorem Cx.add_here (X : Cx) (pl : Pl) : (X.add pl).σ X.n = pl := by simp [Cx.add]

theorem repCs_of_pure {X : Cx} : ∀ (cs : List AV) (ys : List Value), pureCs X cs ys → repCs X cs ys PH.none
  | [], ys, h => by simp only [pureCs] at h; simp only [repCs, HP.pure]; exact ⟨h, trivial⟩
  | c :: cs, ys, h => by
    simp only [pureCs] at h
    obtain ⟨z, zs, e, o, p, q⟩ := h
    simp only [repCs, HP.ex]
    exact ⟨z, zs, e, o, PH.none, PH.none, PH.disj_none _, (PH.join_none _).symm, (rep_free (pure_free p o)).2 ⟨p, rfl⟩, repCs_of_pure cs zs q⟩
theorem repE_of_pure {X : Cx} {sz : Nat} : ∀ (es : List AV) (ys : List Value), pureE X sz es ys → repE X sz es ys PH.none
  | [], ys, h => by simp only [pureE] at h; simp only [repE, HP.pure]; exact ⟨h, trivial⟩
  | e :: es, ys, h => by
    cases e with
    | agg cs =>
      simp only [pureE] at h
      obtain ⟨z, zs, e, l, p, q⟩ := h
      simp only [repE, HP.ex]
      exact ⟨z, zs, e, l, PH.none, PH.none, PH.disj_none _, (PH.join_none _).symm, repCs_of_pure _ _ p, repE_of_pure es zs q⟩
    | tup vs =>
      simp only [pureE] at h
      obtain ⟨z, zs, e, l, o, p, q⟩ := h
      simp only [pureR] at p; obtain ⟨ys, rfl, _⟩ := p; simp [Value.oneCell'] at o
    | _ =>
      simp only [pureE] at h
      obtain ⟨z, zs, e, l, o, p, q⟩ := h
      simp only [repE, HP.ex]
      exact ⟨z, zs, e, l, o, PH.none, PH.none, PH.disj_none _, (PH.join_none _).symm, (rep_free (pure_free p o)).2 ⟨p, rfl⟩, repE_of_pure es zs q⟩
theorem pureE_one {X : Cx} {sz : Nat} : ∀ (es : List AV) (ys : List Value), pureE X sz es ys → ∀ u ∈ ys, u.oneCell' = true
  | [], ys, h => by simp only [pureE] at h; simp [h]
  | e :: es, ys, h => by
    cases e with
    | agg cs =>
      simp only [pureE] at h
      obtain ⟨z, zs, rfl, l, p, q⟩ := h
      intro u hu
      rcases List.mem_append.1 hu with hu | hu
      · exact pureCs_one _ p u hu
      · exact pureE_one es zs q u hu
    | _ =>
      simp only [pureE] at h
      obtain ⟨z, zs, rfl, l, o, p, q⟩ := h
      intro u hu
      rcases List.mem_cons.1 hu with rfl | hu
      · exact o
      · exact pureE_one es zs q u hu

/-- A new block with an object in it. -/
theorem mem_new {X : Cx} {hf : PH} {H : Hp} {w : World} {o : AO} {pl : Pl} {obj : Obj} (m : Mem X hf H w) (hb : pl.blk = w.heap.size) (r : repO (X.add pl) o pl (PH.one w.heap.size obj)) :
    Mem (X.add pl) hf ((X.n, o) :: H) { w with heap := w.heap.push obj } := by
  obtain ⟨h, st, d1, d2, iw, iwi, iwf⟩ := m
  have nw := New.push w obj
  have fresh : ∀ k : PH, k.inW w → (PH.one w.heap.size obj).disj k := by
    intro k hk b
    by_cases e : b = w.heap.size
    · right
      cases hkb : k b with
      | none => rfl
      | some o' => have := PH.inW_lt hk (b := b) (by rw [hkb]; simp); omega
    · left; simp [PH.one, e]
  refine ⟨(PH.one w.heap.size obj).join h, ⟨PH.one w.heap.size obj, h, fresh h iw, rfl, ⟨Nat.lt_succ_self _, ?_⟩, starH_mono (X.le_add pl) _ _ st⟩, PH.disj_join.2 ⟨fresh _ iwi, d1⟩, PH.disj_join.2 ⟨fresh _ iwf.1, d2⟩, PH.inW_join ⟨?_, nw.inW iw⟩, nw.inW iwi, nw.inW iwf.1, iwf.2⟩
  · rw [Cx.add_here]; exact r
  · intro b x e
    simp only [PH.one] at e
    split at e
    · rename_i hb'; subst hb'; cases e; exact nw.here
    · cases e

/-- A new row, its elements owning nothing. -/
theorem mem_new_row {X : Cx} {hf : PH} {H : Hp} {w : World} {sz : Nat} {es : List AV} {ys : List Value} (m : Mem X hf H w) (T : TypeId) (p : pureE X sz es ys) :
    Mem (X.add ⟨w.heap.size, sz, es.length⟩) hf ((X.n, .row sz es) :: H) { w with heap := w.heap.push (.cells ys.toArray T) } := by
  refine mem_new m rfl ?_
  simp only [repO]
  refine ⟨trivial, Nat.le_refl _, Or.inr ⟨ys.toArray, T, ys, by simpa using pureE_one _ _ p, by simpa using pureE_len _ _ p, by simp, _, PH.none, PH.disj_none _, (PH.join_none _).symm, rfl, ?_⟩⟩
  exact repE_of_pure _ _ (pureE_mono (X.le_add _) _ _ _ p)

theorem fits_pure {X : Cx} {v : AV} {x : Value} {sz : Nat} (hv : v.fits sz = true) (p : pureR X v x) : pureE X sz [v] x.cells.toList ∧ x.cells.size = sz := by
  cases v with
  | agg cs =>
    simp only [AV.fits, beq_iff_eq] at hv
    simp only [pureR] at p; obtain ⟨ys, rfl, q⟩ := p
    have := pureCs_len _ _ q
    have hl : ys.toList.length = sz := by omega
    refine ⟨?_, by simpa [Value.cells] using hl⟩
    simp only [pureE, Value.cells]
    exact ⟨ys.toList, [], by simp, hl, q, rfl⟩
  | _ =>
    simp only [AV.fits, AV.solid, Bool.and_eq_true, beq_iff_eq, Bool.false_eq_true, false_and] at hv
    try
      have o := solid_one (by rfl) p
      have hc : x.cells = #[x] := by cases x <;> simp_all [Value.oneCell', Value.cells]
      rw [hc]
      refine ⟨?_, by simp [hv.2]⟩
      simp only [pureE]
      refine ⟨x, [], rfl, hv.2, o, p, ?_⟩
      first | trivial | rfl

theorem run_newRow (T : TypeId) (cs : Array Value) (w : World) : (newRow T cs).run P w = .ok ⟨w.heap.size, 0, none⟩ { w with heap := w.heap.push (.cells cs T) } := by
  simp [newRow, newObj, Sem.run]

theorem aBox_good {X : Cx} {hf : PH} {H : Hp} {w : World} (t : TypeId) {v : AV} {x : Value} (m : Mem X hf H w) (p : pureR X v x) : GoodA P (Instr.box t x) X hf w (aBox P t H X.n v) := by
  unfold aBox
  split
  · rename_i hv
    obtain ⟨pe, hs⟩ := fits_pure hv p
    have m' := mem_new_row m t pe
    refine ⟨.pointer (some ⟨w.heap.size, 0, none⟩), _, _, ?_, (New.push w _).toExt, (New.push w _).old, X.le_add _, rfl, m', ?_⟩
    · simp [Instr.box, newVar, run_newRow]
    · simp only [pureR, Cx.add_here]; exact ⟨Nat.lt_succ_self _, by simp⟩
  · exact trivial

theorem ofCell_pure (X : Cx) (v : Value) : pureR X (ofCell v) v := by
  unfold ofCell
  split <;> simp [pureR]
theorem pureCs_ofCell (X : Cx) : ∀ (l : List Value), (∀ u ∈ l, u.oneCell' = true) → pureCs X (l.map ofCell) l
  | [], _ => by simp [pureCs]
  | a :: l, h => by
    simp only [List.map_cons, pureCs]
    exact ⟨a, l, rfl, h a List.mem_cons_self, ofCell_pure X a, pureCs_ofCell X l fun u hu => h u (List.mem_cons_of_mem _ hu)⟩
theorem ofVal_pure (X : Cx) (v : Value) : pureR X (ofVal v) v := by
  cases v with
  | agg cs =>
    simp only [ofVal]
    split
    · rename_i h
      simp only [pureR]
      exact ⟨cs, rfl, pureCs_ofCell X _ (by intro u hu; exact List.all_eq_true.1 h u hu)⟩
    · exact trivial
  | _ => unfold ofVal; exact ofCell_pure X _

theorem run_zeroValue' {t : TypeId} {v : AV} (h : tzero P t = v) (hv : v ≠ .top) (X : Cx) : ∃ z, (∀ w, (zeroValue t).run P w = .ok z w) ∧ pureR X v z := by
  unfold tzero at h
  cases hi : P.info? t with
  | none => simp [hi] at h; exact absurd h.symm hv
  | some i =>
    cases hz : i.zero with
    | none => simp [hi, hz] at h; exact absurd h.symm hv
    | some z =>
      simp [hi, hz] at h; subst h
      exact ⟨z, by simp [zeroValue, typeInfo, hi, hz], ofVal_pure X z⟩

theorem fits_top {v : AV} {sz : Nat} (h : v.fits sz = true) : v ≠ .top := by
  intro e; subst e; simp [AV.fits, AV.solid] at h

theorem aAlloc_good {X : Cx} {hf : PH} {H : Hp} {w : World} (t : TypeId) (m : Mem X hf H w) : GoodA P (Instr.alloc t true (.tuple #[])) X hf w (aAlloc P t H X.n) := by
  unfold aAlloc aBox
  split
  · rename_i hv
    obtain ⟨z, hz, p⟩ := run_zeroValue' (P := P) (t := t) rfl (fits_top hv) X
    obtain ⟨pe, hs⟩ := fits_pure hv p
    have m' := mem_new_row m t pe
    refine ⟨.pointer (some ⟨w.heap.size, 0, none⟩), _, _, ?_, (New.push w _).toExt, (New.push w _).old, X.le_add _, rfl, m', ?_⟩
    · simp [Instr.alloc, hz, newVar, run_newRow]
    · simp only [pureR, Cx.add_here]; exact ⟨Nat.lt_succ_self _, by simp⟩
  · exact trivial

theorem pureCs_append {X : Cx} : ∀ (a b : List AV) (ys zs : List Value), pureCs X a ys → pureCs X b zs → pureCs X (a ++ b) (ys ++ zs)
  | [], b, ys, zs, h, k => by simp only [pureCs] at h; subst h; simpa using k
  | c :: a, b, ys, zs, h, k => by
    simp only [pureCs] at h; obtain ⟨z, us, rfl, o, p, q⟩ := h
    simp only [List.cons_append, pureCs]
    exact ⟨z, us ++ zs, rfl, o, p, pureCs_append a b us zs q k⟩

theorem cells_pure {X : Cx} {v : AV} {x : Value} {sz : Nat} (hv : v.fits sz = true) (p : pureR X v x) : pureCs X v.cells x.cells.toList := by
  cases v with
  | agg cs => simp only [pureR] at p; obtain ⟨ys, rfl, q⟩ := p; exact q
  | _ =>
    simp only [AV.fits, AV.solid, Bool.and_eq_true, beq_iff_eq, Bool.false_eq_true, false_and] at hv
    try
      have o := solid_one (by rfl) p
      have hc : x.cells = #[x] := by cases x <;> simp_all [Value.oneCell', Value.cells]
      rw [hc]
      simp only [AV.cells, pureCs]
      exact ⟨x, [], rfl, o, p, rfl⟩

/-- parts, abstract and as they are -/
inductive Parts (X : Cx) : List (Nat × AV) → List (Nat × Value) → Prop
  | nil : Parts X [] []
  | cons (i : Nat) (v : AV) (x : Value) {l : List (Nat × AV)} {l' : List (Nat × Value)} : pureR X v x → Parts X l l' → Parts X ((i, v) :: l) ((i, x) :: l')

theorem foldl_set (vs : List Value) : ∀ (cells : Array Value) (off k : Nat), off + k + vs.length ≤ cells.size →
    ((vs.zipIdx k).foldl (fun cs (p : Value × Nat) => cs.setIfInBounds (off + p.2) p.1) cells).toList = cells.toList.take (off + k) ++ vs ++ cells.toList.drop (off + k + vs.length) := by
  induction vs with
  | nil => intro cells off k h; simp
  | cons v vs ih =>
    intro cells off k h
    simp only [List.length_cons] at h
    simp only [List.zipIdx_cons, List.foldl_cons]
    rw [ih _ off (k + 1) (by simp; omega)]
    rw [Array.toList_setIfInBounds]
    apply List.ext_getElem?
    intro j
    have hlen : cells.toList.length = cells.size := rfl
    simp only [List.append_assoc, List.getElem?_append, List.length_take, List.length_set, hlen, List.getElem?_take, List.getElem?_drop, List.length_cons, List.getElem?_set]
    rw [Nat.min_eq_left (by omega : off + (k + 1) ≤ cells.size), Nat.min_eq_left (by omega : off + k ≤ cells.size)]
    by_cases h1 : j < off + k
    · simp [h1, show j < off + (k + 1) by omega, show off + k ≠ j by omega]
    · by_cases h2 : j = off + k
      · subst h2; simp [show off + k < cells.size by omega]
      · have h3 : ¬ j < off + (k + 1) := by omega
        simp only [h1, h3, if_false]
        have e1 : j - (off + k) = (j - (off + (k + 1))) + 1 := by omega
        rw [e1]
        simp only [List.getElem?_cons_succ, Nat.add_lt_add_iff_right]
        by_cases h4 : j - (off + (k + 1)) < vs.length
        · simp [h4]
        · simp [h4, show off + k ≠ off + (k + 1) + vs.length + (j - (off + (k + 1)) - vs.length) by omega]
          congr 1; omega

theorem fill_run {X : Cx} (place place' : Nat → Option (Nat × Nat)) (hpl : ∀ i, place' i = place i) : ∀ (parts : List (Nat × AV)) (parts' : List (Nat × Value)) (cs : List AV) (ys : Array Value) (out : List AV), Parts X parts parts' → pureCs X cs ys.toList → aFill place cs parts = some out →
    ∃ zs : Array Value, Instr.fill place' ys parts' = some zs ∧ pureCs X out zs.toList
  | [], parts', cs, ys, out, hp, p, h => by
    cases hp; simp [aFill] at h; subst h; exact ⟨ys, rfl, p⟩
  | (i, v) :: parts, parts', cs, ys, out, hp, p, h => by
    cases hp with
    | cons _ _ x pv hp =>
      simp only [aFill] at h
      simp only [Instr.fill, hpl]
      cases hpi : place i with
      | none => simp [hpi] at h
      | some os =>
        obtain ⟨off, size⟩ := os
        simp only [hpi] at h
        split at h
        · rename_i hc
          obtain ⟨hv, hle⟩ := hc
          have hl := pureCs_len _ _ p
          have hsz := (fits_pure hv pv).2
          have cp := cells_pure hv pv
          dsimp only
          rw [if_neg (by simp at hl ⊢; omega)]
          refine fill_run place place' hpl parts _ _ _ out hp ?_ h
          have hfs := foldl_set x.cells.toList ys off 0 (by simp at hl ⊢; omega)
          have hz : x.cells.zipIdx.foldl (fun cs (p : Value × Nat) => cs.setIfInBounds (off + p.2) p.1) ys = (x.cells.toList.zipIdx 0).foldl (fun cs (p : Value × Nat) => cs.setIfInBounds (off + p.2) p.1) ys := by
            rw [← Array.foldl_toList]; simp
          show pureCs X _ (x.cells.zipIdx.foldl (fun cs (p : Value × Nat) => cs.setIfInBounds (off + p.2) p.1) ys).toList
          rw [hz, hfs]
          have hx : x.cells.toList.length = size := by simpa using hsz
          rw [Nat.add_zero, hx]
          exact pureCs_append _ _ _ _ (pureCs_append _ _ _ _ (pureCs_take _ _ _ p) cp) (pureCs_drop _ _ _ p)
        · simp at h

theorem mapM_places (fs : List Go.Field) (h : ∀ fd ∈ fs, 0 < tsz P fd.type) (w : World) : ∀ acc : Array (Nat × Nat),
    (List.foldlM (fun (bs : Array (Nat × Nat)) (f : Go.Field) => do let y ← (do pure (f.offset, ← sizeOf f.type) : Sem (Nat × Nat)); pure (bs.push y)) acc fs).run P w = .ok (acc ++ (fs.map fun fd => (fd.offset, tsz P fd.type)).toArray) w := by
  induction fs with
  | nil => intro acc; simp
  | cons f fs ih =>
    intro acc
    simp only [List.foldlM_cons, Sem.run_bind, run_sizeOf' (h f List.mem_cons_self), Sem.run_pure, Result.andThen]
    rw [ih fun fd hfd => h fd (List.mem_cons_of_mem _ hfd)]
    simp

theorem aBuild_good {X : Cx} {hf : PH} {H : Hp} {w : World} (t : TypeId) (parts : List (Nat × AV)) (parts' : Array (Nat × Value)) (m : Mem X hf H w) (hp : Parts X parts parts'.toList) :
    GoodO .P P (Instr.build t parts') X hf w (aBuild P t H X.n parts) := by
  unfold aBuild
  split
  · rename_i z hz hs
    obtain ⟨zv, rz, pz⟩ := run_zeroValue' hz (by simp) X
    simp only [pureR] at pz; obtain ⟨zs, rfl, pz⟩ := pz
    split
    · rename_i hfl
      split
      · rename_i cs hfill
        obtain ⟨fs, hu⟩ := und_of_strct hs
        have hfs : ∀ fd ∈ fs.toList, 0 < tsz P fd.type := by
          unfold tflds at hfl; rw [hu] at hfl
          intro fd hfd; have := List.all_eq_true.1 hfl fd hfd; simpa using this
        obtain ⟨out, e1, e2⟩ := fill_run (tfo P t) (fun i => ((fs.toList.map fun fd => (fd.offset, tsz P fd.type)).toArray)[i]?) (by intro i; unfold tfo; rw [hu]; cases h : fs[i]? <;> simp [h]) parts parts'.toList z zs cs hp pz hfill
        refine good_val m (x := .agg out) (fun w => ?_) (by simp only [pureR]; exact ⟨out, rfl, e2⟩)
        have hm : (fs.mapM (fun f => do pure (f.offset, ← sizeOf f.type) : Go.Field → Sem (Nat × Nat))).run P w = .ok ((fs.toList.map fun fd => (fd.offset, tsz P fd.type)).toArray) w := by
          rw [Array.mapM_eq_foldlM, ← Array.foldlM_toList]
          have := mapM_places (P := P) fs.toList hfs w #[]
          simpa using this
        simp only [Instr.build, Sem.run_bind, rz, Result.andThen, run_underlying hu, Value.cells, hm, e1, Sem.run_pure]
      · exact trivial
    · exact trivial
  · rename_i z len e hz hs
    obtain ⟨zv, rz, pz⟩ := run_zeroValue' hz (by simp) X
    simp only [pureR] at pz; obtain ⟨zs, rfl, pz⟩ := pz
    split
    · rename_i he
      split
      · rename_i cs hfill
        obtain ⟨out, e1, e2⟩ := fill_run _ (fun i => some (i * tsz P e, tsz P e)) (fun _ => rfl) parts parts'.toList z zs cs hp pz hfill
        refine good_val m (x := .agg out) (fun w => ?_) (by simp only [pureR]; exact ⟨out, rfl, e2⟩)
        simp only [Instr.build, Sem.run_bind, rz, Result.andThen, run_underlying (und_of_arr hs), Value.cells, run_sizeOf' he, e1, Sem.run_pure]
      · exact trivial
    · exact trivial
  · exact trivial

theorem aExtract_good {X : Cx} {hf : PH} {H : Hp} {w : World} (i : Nat) {a : AV} {x : Value} (m : Mem X hf H w) (ha : pureR X a x) : GoodO .P P (Instr.extract x i) X hf w (aExtract i H X.n a) := by
  unfold aExtract
  split
  · rename_i vs
    simp only [pureR] at ha; obtain ⟨ys, rfl, p⟩ := ha
    split
    · rename_i v hv
      have : ∀ (vs : List AV) (ys : List Value) (i : Nat), pureL X vs ys → vs[i]? = some v → ∃ z, ys[i]? = some z ∧ pureR X v z := by
        intro vs
        induction vs with
        | nil => intro ys i _ h; simp at h
        | cons u vs ih =>
          intro ys i p h
          simp only [pureL] at p; obtain ⟨z, zs, rfl, p, q⟩ := p
          cases i with
          | zero => simp at h; subst h; exact ⟨z, rfl, p⟩
          | succ i => simp at h; simpa using ih zs i q h
      obtain ⟨z, hz, pz⟩ := this vs _ i p hv
      refine good_val m (x := z) (fun w => ?_) pz
      have : ys[i]? = some z := by simpa using hz
      simp [Instr.extract, this]
    · exact trivial
  · exact trivial

theorem aConv_good {X : Cx} {hf : PH} {H : Hp} {w : World} (s t : TypeId) {a : AV} {x : Value} (m : Mem X hf H w) (ha : pureR X a x) : GoodO .P P (convert s t x) X hf w (aConv P s t H X.n a) := by
  unfold aConv
  split
  · rename_i k k' k'' n h1 h2
    simp only [pureR] at ha; subst ha
    exact good_int m (fun w => by simp [convert, run_underlying (und_of_int h1), run_underlying (und_of_int h2), Conv.intToInt])
  · exact trivial

theorem aIface_good {X : Cx} {hf : PH} {H : Hp} {w : World} (t : TypeId) {a : AV} {x : Value} (m : Mem X hf H w) (ha : pureR X a x) : GoodO .P P (Instr.makeInterface t x) X hf w (aIface P t H X.n a) := by
  unfold aIface
  split
  · rename_i k h
    exact good_val m (fun w => by simp [Instr.makeInterface, run_underlying (und_of_int h)]; rfl) (by simp only [pureR]; exact ⟨x, rfl, ha⟩)
  · rename_i h
    obtain ⟨fs, hu⟩ := und_of_strct h
    exact good_val m (fun w => by simp [Instr.makeInterface, run_underlying hu]; rfl) (by simp only [pureR]; exact ⟨x, rfl, ha⟩)
  · exact trivial

theorem aIndex_good {X : Cx} {hf : PH} {H : Hp} {w : World} (t : TypeId) {a i : AV} {x y : Value} (m : Mem X hf H w) (ha : pureR X a x) (hi : pureR X i y) : GoodO .P P (Instr.index t x y) X hf w (aIndex P t H X.n a i) := by
  unfold aIndex
  split
  · rename_i cs kk k len e hs
    simp only [pureR] at ha hi; obtain ⟨ys, rfl, p⟩ := ha; subst hi
    split
    · rename_i hb
      obtain ⟨b0, b1, b2, b3⟩ := hb
      split
      · rename_i v hv
        obtain ⟨z, hz, _, pz⟩ := pureCs_get _ _ _ p hv
        have hz' : ys[k.toNat]? = some z := by simpa using hz
        refine good_val m (x := z) (fun w => ?_) pz
        simp [Instr.index, asIntOf, run_underlying (und_of_arr hs), b0, b1, run_sizeOf' (P := P) (t := e) (by omega), b2, part, run_isAgg' b3, hz']
      · exact trivial
    · exact trivial
  · rename_i s kk k hs
    simp only [pureR] at ha hi; subst ha hi
    split
    · rename_i hb
      obtain ⟨b0, b1⟩ := hb
      refine good_int m fun w => ?_
      have hlt : k.toNat < s.size := by omega
      have h1 : (if 0 ≤ k then s[k.toNat]? else none) = some s[k.toNat] := by rw [if_pos b0]; exact getElem?_pos s k.toNat hlt
      simp only [Instr.index, asIntOf, Sem.run_bind, Sem.run_pure, Result.andThen, run_underlying (und_of_str hs), h1]
      congr 2
      have : s.data.toList.getD k.toNat 0 = s[k.toNat] := by
        rw [List.getD_eq_getElem?_getD, List.getElem?_eq_getElem (by simpa using hlt)]; simp; rfl
      rw [this]
    · exact trivial
  · exact trivial

theorem aElems_pure {X : Cx} {sz : Nat} : ∀ (parts : List (Nat × AV)) (parts' : List (Nat × Value)) (k : Nat) (es : List AV), Parts X parts parts' → aElems sz k parts = some es →
    es.length = parts.length ∧ ∀ (pre : List Value) (post : List Value), pre.length = k * sz → parts.length * sz ≤ post.length → ∃ ys, Instr.fill (fun i => some (i * sz, sz)) (pre ++ post).toArray parts' = some (pre ++ ys ++ post.drop (parts.length * sz)).toArray ∧ pureE X sz es ys
  | [], parts', k, es, hp, h => by
    cases hp; simp [aElems] at h; subst h
    exact ⟨rfl, fun pre post _ _ => ⟨[], by simp [Instr.fill], by simp [pureE]⟩⟩
  | (i, v) :: parts, parts', k, es, hp, h => by
    cases hp with
    | cons _ _ x pv hp =>
      simp only [aElems] at h
      split at h
      · rename_i hc
        obtain ⟨rfl, hv⟩ := hc
        cases hr : aElems sz (i + 1) parts with
        | none => simp [hr] at h
        | some es' =>
          simp [hr] at h; subst h
          obtain ⟨hl, ih⟩ := aElems_pure parts _ (i + 1) es' hp hr
          refine ⟨by simp [hl], fun pre post hpre hpost => ?_⟩
          obtain ⟨pe, hsz⟩ := fits_pure hv pv
          have hxl : x.cells.toList.length = sz := by simpa using hsz
          simp only [List.length_cons, Nat.add_mul] at hpost
          obtain ⟨ys, e1, e2⟩ := ih (pre ++ x.cells.toList) (post.drop sz) (by simp [hpre, hsz, Nat.add_mul]) (by simp; omega)
          refine ⟨x.cells.toList ++ ys, ?_, ?_⟩
          · simp only [Instr.fill]
            rw [if_neg (by simp [hsz]; omega)]
            have hfs := foldl_set x.cells.toList (pre ++ post).toArray (i * sz) 0 (by simp [hxl]; omega)
            have hz : x.cells.zipIdx.foldl (fun cs (p : Value × Nat) => cs.setIfInBounds (i * sz + p.2) p.1) (pre ++ post).toArray = ((pre ++ x.cells.toList) ++ post.drop sz).toArray := by
              have : x.cells.zipIdx.foldl (fun cs (p : Value × Nat) => cs.setIfInBounds (i * sz + p.2) p.1) (pre ++ post).toArray = (x.cells.toList.zipIdx 0).foldl (fun cs (p : Value × Nat) => cs.setIfInBounds (i * sz + p.2) p.1) (pre ++ post).toArray := by
                rw [← Array.foldl_toList]; simp
              rw [this]
              apply Array.toList_inj.1
              rw [hfs, Nat.add_zero, hxl, ← hpre]
              simp [List.drop_append]
            show Instr.fill _ (x.cells.zipIdx.foldl (fun cs (p : Value × Nat) => cs.setIfInBounds (i * sz + p.2) p.1) (pre ++ post).toArray) _ = _
            rw [hz, e1]
            simp [Nat.add_mul, Nat.add_comm sz]
          · cases v with
            | agg cs =>
              simp only [pureE] at pe ⊢
              obtain ⟨z, zs, e, l, p, q⟩ := pe
              exact ⟨x.cells.toList, ys, rfl, hxl, by subst q; simpa [e] using p, e2⟩
            | _ =>
              simp only [pureE] at pe ⊢
              obtain ⟨z, zs, e, l, o, p, q⟩ := pe
              subst q; rw [e]
              exact ⟨z, ys, rfl, l, o, p, e2⟩
      · simp at h

theorem map_range_zero (f : Nat → Value) : (Array.range 0).map f = #[] := by apply Array.toList_inj.1; simp

theorem parts_len {X : Cx} {a : List (Nat × AV)} {b : List (Nat × Value)} (h : Parts X a b) : b.length = a.length := by
  induction h with
  | nil => rfl
  | cons _ _ _ _ _ ih => simp [ih]

theorem aBuildSl_good {X : Cx} {hf : PH} {H : Hp} {w : World} (t : TypeId) (len : Nat) (parts : List (Nat × AV)) (parts' : Array (Nat × Value)) (m : Mem X hf H w) (hp : Parts X parts parts'.toList) :
    GoodA P (Instr.buildSlice t len parts') X hf w (aBuildSl P t len H X.n parts) := by
  unfold aBuildSl
  split
  · rename_i e hs
    split
    · rename_i hb
      obtain ⟨b0, b1, b2, b3⟩ := hb
      split
      · rename_i es hes
        obtain ⟨hl, hfill⟩ := aElems_pure parts parts'.toList 0 es hp hes
        obtain ⟨z, rz, _⟩ := run_zeroValue' (P := P) (t := e) rfl (fits_top b3) X
        -- whatever the zero cells are, all are filled
        have key : ∀ (pool : Array Value), pool.size = len * tsz P e → ∃ ys : List Value, Instr.fill (fun i => some (i * tsz P e, tsz P e)) pool parts'.toList = some ys.toArray ∧ pureE X (tsz P e) es ys := by
          intro pool hpool
          obtain ⟨ys, e1, e2⟩ := hfill [] pool.toList (by simp) (by simp [hpool, b0])
          refine ⟨ys, ?_, e2⟩
          simp only [List.nil_append] at e1
          rw [show pool.toList.toArray = pool from by simp] at e1
          rw [e1, List.drop_eq_nil_of_le (by simp [hpool, b0]), List.append_nil]
        have fin : ∀ ys : List Value, pureE X (tsz P e) es ys → (Instr.buildSlice t len parts').run P w = .ok (.slice (some ⟨w.heap.size, 0, none⟩) len len) { w with heap := w.heap.push (.cells ys.toArray e) } →
            GoodA P (Instr.buildSlice t len parts') X hf w (.ok (.sl X.n 0 len) ((X.n, .row (tsz P e) es) :: H) (X.n + 1)) := by
          intro ys py hr
          have m' := mem_new_row m e py
          refine ⟨_, _, _, hr, (New.push w _).toExt, (New.push w _).old, X.le_add _, rfl, m', ?_⟩
          simp only [pureR, Cx.add_here]
          exact ⟨Nat.lt_succ_self _, some ⟨w.heap.size, 0, none⟩, Nat.zero_le _, by omega, by rw [Nat.sub_zero, hl, b0], fun _ => by simp⟩
        by_cases h0 : len * tsz P e = 0
        · obtain ⟨ys, e1, e2⟩ := key #[] (by simp [h0])
          refine fin ys e2 ?_
          simp only [Instr.buildSlice, Sem.run_bind, run_underlying (und_of_sl hs), run_sizeOf' b1, Result.andThen]
          rw [if_neg (by omega), if_pos h0]
          simp only [Sem.run_bind, Result.andThen, Sem.run_pure, h0, map_range_zero, e1, run_newRow]
        · obtain ⟨ys, e1, e2⟩ := key ((Array.range (len * tsz P e)).map (z.cells[· % z.cells.size]!)) (by simp)
          refine fin ys e2 ?_
          simp only [Instr.buildSlice, Sem.run_bind, run_underlying (und_of_sl hs), run_sizeOf' b1, Result.andThen]
          rw [if_neg (by omega), if_neg h0]
          simp only [Sem.run_bind, rz, Result.andThen, Sem.run_pure, e1, run_newRow]
      · exact trivial
    · exact trivial
  · exact trivial

theorem replicate_pure {X : Cx} {sz : Nat} {v : AV} {x : Value} (hv : v.fits sz = true) (p : pureR X v x) : ∀ n : Nat, pureE X sz (List.replicate n v) (List.replicate n x.cells.toList).flatten
  | 0 => by simp [pureE]
  | n + 1 => by
    obtain ⟨pe, hs⟩ := fits_pure hv p
    have ih := replicate_pure hv p n
    have hxl : x.cells.toList.length = sz := by simpa using hs
    simp only [List.replicate_succ, List.flatten_cons]
    cases v with
    | agg cs =>
      simp only [pureE] at pe ⊢
      obtain ⟨z, zs, e, l, p, q⟩ := pe
      exact ⟨x.cells.toList, _, rfl, hxl, by subst q; simpa [e] using p, ih⟩
    | _ =>
      simp only [pureE] at pe ⊢
      obtain ⟨z, zs, e, l, o, p, q⟩ := pe
      subst q; rw [e]
      rw [e] at ih
      exact ⟨z, _, rfl, l, o, p, ih⟩

theorem range_mod (l : List Value) (hl : l ≠ []) : ∀ n : Nat, (List.range (n * l.length)).map (fun i => l.toArray[i % l.length]!) = (List.replicate n l).flatten := by
  intro n
  have hpos : 0 < l.length := by cases l <;> simp_all
  apply List.ext_getElem?
  intro i
  by_cases hi : i < n * l.length
  · rw [List.getElem?_map, List.getElem?_range hi]
    simp only [Option.map_some]
    have hq : ∀ (n i : Nat), i < n * l.length → (List.replicate n l).flatten[i]? = l[i % l.length]? := by
      intro n
      induction n with
      | zero => intro i h; simp at h
      | succ n ih =>
        intro i h
        simp only [List.replicate_succ, List.flatten_cons]
        by_cases h2 : i < l.length
        · rw [List.getElem?_append_left h2, Nat.mod_eq_of_lt h2]
        · have hge : l.length ≤ i := by omega
          rw [List.getElem?_append_right hge]
          have h3 : i - l.length < n * l.length := by rw [Nat.add_mul] at h; omega
          rcases Nat.eq_zero_or_pos n with rfl | hn
          · simp at h3
          · rw [ih _ h3, Nat.mod_eq_sub_mod hge]
    rw [hq n i hi]
    have hlt : i % l.length < l.length := Nat.mod_lt _ hpos
    rw [List.getElem?_eq_getElem hlt]
    simp [hlt]
  · have h1 : ((List.range (n * l.length)).map (fun i => l.toArray[i % l.length]!))[i]? = none := by rw [List.getElem?_eq_none]; simp; omega
    have h2 : ((List.replicate n l).flatten)[i]? = none := by rw [List.getElem?_eq_none]; simp; omega
    rw [h1, h2]

theorem aMkSl_good {X : Cx} {hf : PH} {H : Hp} {w : World} (t : TypeId) {l c : AV} {x y : Value} (m : Mem X hf H w) (hl : pureR X l x) (hc : pureR X c y) :
    GoodA P (Instr.makeSlice t x y) X hf w (aMkSl P t H X.n l c) := by
  unfold aMkSl
  split
  · rename_i e k1 l k2 c hs
    simp only [pureR] at hl hc; subst hl hc
    split
    · rename_i hb
      obtain ⟨rfl, b0, b1, b2, b3, b4⟩ := hb
      obtain ⟨z, rz, pz⟩ := run_zeroValue' (P := P) (t := e) rfl (fits_top b4) X
      obtain ⟨pe, hsz⟩ := fits_pure b4 pz
      have hsl : z.cells.toList.length = tsz P e := by simpa using hsz
      have hw : IntKind.i64.wrap l = l := by simp [IntKind.wrap, IntKind.bits, IntKind.signed]; omega
      have hinfo := info_of_tsz (P := P) (t := e) b3
      obtain ⟨i, hi, hisz⟩ := hinfo
      have hby : (typeInfo e).run P w = .ok i w := by simp [typeInfo, hi]
      have hbyt : i.bytes = tby P e := by simp [tby, hi]
      have pr := replicate_pure b4 pz l.toNat
      have m' := mem_new_row m e pr
      have hpool : l.toNat * tsz P e ≠ 0 → (Array.range (l.toNat * tsz P e)).map (fun i => z.cells[i % z.cells.size]!) = ((List.replicate l.toNat z.cells.toList).flatten).toArray := by
        intro _
        have hne : z.cells.toList ≠ [] := by intro h; rw [h] at hsl; simp at hsl; omega
        have := range_mod z.cells.toList hne l.toNat
        rw [hsl] at this
        apply Array.toList_inj.1
        rw [Array.toList_map, Array.toList_range, ← this]
        simp [hsz]
      have run : (Instr.makeSlice t (.int k1 l) (.int k2 l)).run P w = .ok (.slice (some ⟨w.heap.size, 0, none⟩) l.toNat l.toNat) { w with heap := w.heap.push (.cells ((List.replicate l.toNat z.cells.toList).flatten).toArray e) } := by
        have hbad : ¬ ((decide (IntKind.i64.wrap l < 0) || decide (↑i.bytes * IntKind.i64.wrap l > 2 ^ 48) || decide (IntKind.i64.wrap l < 0) || decide (IntKind.i64.wrap l > IntKind.i64.wrap l)) = true) := by
          rw [hw, hbyt]; simp; refine ⟨⟨b0, ?_⟩, b0⟩
          rw [Int.mul_comm]; omega
        simp only [Instr.makeSlice, Sem.run_bind, run_underlying (und_of_sl hs), Result.andThen, asInt, asIntOf, Sem.run_pure, hby]
        rw [if_neg (by simpa [Bool.or_eq_true] using hbad)]
        have hroom : ∀ n : Nat, n ≤ 140737488355328 → (askRoom n).run P w = .ok () w := by
          intro n hn; simp [askRoom, roomBytes, show ¬ (n > 2 ^ 47) by omega]
        have hr := hroom ((IntKind.i64.wrap l).toNat * i.bytes) (by rw [hw, hbyt]; have : ((l.toNat * tby P e : Nat) : Int) = l * tby P e := by push_cast; rw [Int.toNat_of_nonneg b0]
                                                                    omega)
        by_cases h0 : (IntKind.i64.wrap l).toNat * tsz P e = 0
        · rw [hw] at h0 hr
          have hl0 : l.toNat = 0 := by rcases Nat.mul_eq_zero.1 h0 with h | h <;> omega
          rw [hl0] at hr
          simp only [Sem.run_bind, hw, hl0, hr, Result.andThen, run_sizeOf' b3, Nat.zero_mul, if_true, Sem.run_pure, run_newRow, map_range_zero]
          rfl
        · simp only [Sem.run_bind, hr, Result.andThen, run_sizeOf' b3, Sem.run_pure, if_neg h0, rz, run_newRow]
          rw [hw] at h0 ⊢
          rw [hpool h0]
      refine ⟨_, _, _, run, (New.push w _).toExt, (New.push w _).old, X.le_add _, rfl, m', ?_⟩
      simp only [pureR, Cx.add_here, List.length_replicate]
      exact ⟨Nat.lt_succ_self _, some ⟨w.heap.size, 0, none⟩, Nat.zero_le _, by omega, by rw [Nat.sub_zero], fun _ => by simp⟩
    · exact trivial
  · exact trivial


theorem aField_good {X : Cx} {hf : PH} {H : Hp} {w : World} (t : TypeId) (f : Nat) {a : AV} {x : Value} (m : Mem X hf H w) (ha : pureR X a x) : GoodO .P P (Instr.field t x f) X hf w (aField P t f H X.n a) := by
  unfold aField
  split
  · rename_i cs
    simp only [pureR] at ha; obtain ⟨ys, rfl, hp⟩ := ha
    have hl := pureCs_len _ _ hp
    split
    · rename_i o off k h
      obtain ⟨fs, fd, hu, hfd, h1, h2⟩ := und_of_fo h
      have hta : tfa P t f = tagg P fd.type := by unfold tfa; rw [hu]; simp [hfd]
      split
      · rename_i hag
        split
        · rename_i hle
          refine good_val m (x := .agg (ys.extract off (off + (k + 1)))) (fun w => ?_) ?_
          · rw [hta] at hag
            simp [Instr.field, run_underlying hu, hfd, asAgg, part, run_isAgg' hag, run_sizeOf' (P := P) (t := fd.type) (by omega), h1, h2]
          · simp only [pureR]
            refine ⟨_, rfl, ?_⟩
            have := pureCs_take _ _ (k + 1) (pureCs_drop _ _ off hp)
            simpa [Array.toList_extract, List.extract_eq_take_drop] using this
        · exact trivial
      · rename_i hag
        split
        · rename_i v hv
          obtain ⟨z, hz, oz, pz⟩ := pureCs_get _ _ _ hp hv
          have hz' : ys[off]? = some z := by simpa using hz
          refine good_val m (x := z) (fun w => ?_) pz
          rw [hta] at hag
          simp [Instr.field, run_underlying hu, hfd, asAgg, part, run_isAgg' hag, h1, hz']
        · exact trivial
      · exact trivial
    · exact trivial
  · exact trivial

theorem aMkMap_good {X : Cx} {hf : PH} {H : Hp} {w : World} (t : TypeId) (r : Option Value) (hr : ∀ v, r = some v → ∃ k n, v = .int k n) (m : Mem X hf H w) : GoodA P (Instr.makeMap t r) X hf w (aMkMap P t H X.n) := by
  unfold aMkMap
  split
  · rename_i k e hs
    have m' := mem_new (pl := ⟨w.heap.size, 0, 0⟩) (o := .map [] []) (obj := .map #[] 0) m rfl (by
      simp only [repO]
      exact ⟨#[], 0, [], by simp, by simp, by simp, rfl, by simp, _, PH.none, PH.disj_none _, (PH.join_none _).symm, rfl, by simp [repL, HP.pure]⟩)
    refine ⟨.map (some w.heap.size), _, _, ?_, (New.push w _).toExt, (New.push w _).old, X.le_add _, rfl, m', ?_⟩
    · cases r with
      | none => simp [Instr.makeMap, newObj, Sem.run]
      | some v =>
        obtain ⟨kk, n, rfl⟩ := hr v rfl
        simp [Instr.makeMap, run_underlying (und_of_mp hs), asInt, asIntOf, newObj, Sem.run]
    · simp only [pureR]; rw [Cx.add_here]; exact ⟨Nat.lt_succ_self _, rfl⟩
  · exact trivial
end Go.AM
