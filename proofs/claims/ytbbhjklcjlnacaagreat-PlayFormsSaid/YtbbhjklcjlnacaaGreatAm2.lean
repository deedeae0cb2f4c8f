/-
  One cell of a row brought to the fore; one object of many. No condition beyond what each theorem states.
-/
import Derived.Test.YtbbhjklcjlnacaaGreatAm1
/-! One cell of a row brought to the fore; one object of many. -/
namespace Go.AM

/-- not an aggregate, not a tuple -/
def AV.isCell : AV → Bool
  | .agg _ => false
  | .tup _ => false
  | _ => true

/-- A cell of an element, turned. -/
def AV.setCell (v : AV) (off : Nat) (c : AV) : AV :=
  match v with
  | .agg cs => .agg (cs.set off c)
  | _ => c
def getCell (es : List AV) (i off : Nat) : Option AV := (es[i]?).bind fun e => e.cells[off]?
def setCell : List AV → Nat → Nat → AV → List AV
  | [], _, _, _ => []
  | e :: es, 0, off, c => e.setCell off c :: es
  | e :: es, i + 1, off, c => e :: setCell es i off c

theorem setCell_length (es : List AV) : ∀ (i off : Nat) (c : AV), (setCell es i off c).length = es.length := by
  induction es with
  | nil => intros; rfl
  | cons e es ih =>
    intro i off c
    cases i with
    | zero => rfl
    | succ i => simp [setCell, ih]

/-- the element branch of a row that is one cell -/
theorem repE_cell {X : Cx} {sz : Nat} {v : AV} (hv : v.isCell = true) (vs : List AV) (ys : List Value) (h : PH) :
    repE X sz (v :: vs) ys h ↔ ∃ z zs', ys = z :: zs' ∧ sz = 1 ∧ z.oneCell' = true ∧ HP.star (rep X v z) (repE X sz vs zs') h := by
  cases v <;> first | (simp [AV.isCell] at hv; done) | (simp only [repE, HP.ex])
  -- a tuple is no cell
theorem repE_agg {X : Cx} {sz : Nat} (cs : List AV) (vs : List AV) (ys : List Value) (h : PH) :
    repE X sz (.agg cs :: vs) ys h ↔ ∃ zs zs', ys = zs ++ zs' ∧ zs.length = sz ∧ HP.star (repCs X cs zs) (repE X sz vs zs') h := by
  simp only [repE, HP.ex]

theorem repCs_len {X : Cx} : ∀ (cs : List AV) (ys : List Value) (h : PH), repCs X cs ys h → ys.length = cs.length
  | [], ys, h, r => by simp only [repCs, HP.pure] at r; simp [r.1]
  | c :: cs, ys, h, r => by
    simp only [repCs, HP.ex] at r
    obtain ⟨z, zs, rfl, o, h1, h2, d, e, p, q⟩ := r
    simp [repCs_len cs zs h2 q]

theorem repE_len {X : Cx} {sz : Nat} : ∀ (es : List AV) (ys : List Value) (h : PH), repE X sz es ys h → ys.length = es.length * sz
  | [], ys, h, r => by simp only [repE, HP.pure] at r; simp [r.1]
  | e :: es, ys, h, r => by
    cases e with
    | agg cs =>
      obtain ⟨z, zs, rfl, o, h1, h2, d, e, p, q⟩ := (repE_agg _ _ _ _).1 r
      simp [repE_len es zs h2 q, o, Nat.add_mul]; omega
    | tup vs =>
      simp only [repE, HP.ex] at r
      obtain ⟨z, zs, rfl, o, o', h1, h2, d, e, p, q⟩ := r
      simp [repE_len es zs h2 q, o]
    | _ =>
      obtain ⟨z, zs, rfl, o, o', h1, h2, d, e, p, q⟩ := (repE_cell rfl _ _ _).1 r
      simp [repE_len es zs h2 q, o]

theorem repCs_focus {X : Cx} {c : AV} : ∀ (cs : List AV) (k : Nat) (ys : List Value) (h : PH), repCs X cs ys h → cs[k]? = some c →
    ∃ z h1 h2, ys[k]? = some z ∧ z.oneCell' = true ∧ h1.disj h2 ∧ h = h1.join h2 ∧ rep X c z h1 ∧
      ∀ Y c' z' h1', X.le Y → h1'.disj h2 → z'.oneCell' = true → rep Y c' z' h1' → repCs Y (cs.set k c') (ys.set k z') (h1'.join h2)
  | [], k, ys, h, _, e => by simp at e
  | a :: cs, 0, ys, h, r, e => by
    simp only [repCs, HP.ex] at r
    obtain ⟨z, zs, rfl, o, h1, h2, d, rfl, p, q⟩ := r
    simp at e; subst e
    refine ⟨z, h1, h2, rfl, o, d, rfl, p, fun Y c' z' h1' le d' o' p' => ?_⟩
    simp only [List.set_cons_zero, repCs, HP.ex]
    exact ⟨z', zs, rfl, o', h1', h2, d', rfl, p', repCs_mono le _ _ _ q⟩
  | a :: cs, k + 1, ys, h, r, e => by
    simp only [repCs, HP.ex] at r
    obtain ⟨z, zs, rfl, o, h1, h2, d, rfl, p, q⟩ := r
    simp at e
    obtain ⟨u, h3, h4, e1, e2, d', rfl, p', f⟩ := repCs_focus cs k zs h2 q e
    have dd := PH.disj_join_r.1 d
    refine ⟨u, h3, h1.join h4, by simpa using e1, e2, PH.disj_join_r.2 ⟨dd.1.symm, d'⟩, ?_, p', fun Y c' z' h3' le d'' o' p'' => ?_⟩
    · rw [← PH.join_assoc, PH.join_comm dd.1, PH.join_assoc]
    · have d3 := PH.disj_join_r.1 d''
      simp only [List.set_cons_succ, repCs, HP.ex]
      refine ⟨z, zs.set k z', rfl, o, h1, h3'.join h4, PH.disj_join_r.2 ⟨d3.1.symm, dd.2⟩, ?_, rep_mono le _ _ _ p, f Y c' z' h3' le d3.2 o' p''⟩
      rw [← PH.join_assoc, PH.join_comm d3.1, PH.join_assoc]

theorem repE_focus {X : Cx} {sz : Nat} {c : AV} {off : Nat} : ∀ (es : List AV) (i : Nat) (ys : List Value) (h : PH), repE X sz es ys h → getCell es i off = some c → (c.isCell = true) →
    ∃ z h1 h2, ys[i * sz + off]? = some z ∧ off < sz ∧ z.oneCell' = true ∧ h1.disj h2 ∧ h = h1.join h2 ∧ rep X c z h1 ∧
      ∀ Y c' z' h1', X.le Y → h1'.disj h2 → z'.oneCell' = true → c'.isCell = true → rep Y c' z' h1' → repE Y sz (setCell es i off c') (ys.set (i * sz + off) z') (h1'.join h2)
  | [], i, ys, h, _, e, _ => by simp [getCell] at e
  | a :: es, 0, ys, h, r, e, hc => by
    simp [getCell] at e
    cases a with
    | agg cs =>
      obtain ⟨zs, zs', rfl, l, h1, h2, d, rfl, p, q⟩ := (repE_agg _ _ _ _).1 r
      simp only [AV.cells] at e
      obtain ⟨u, h3, h4, e1, e2, d', rfl, p', f⟩ := repCs_focus cs off zs h1 p e
      have lt : off < zs.length := (List.getElem?_eq_some_iff.1 e1).1
      have dd := PH.disj_join.1 d
      refine ⟨u, h3, h4.join h2, by simpa [List.getElem?_append_left lt] using e1, l ▸ lt, e2, PH.disj_join_r.2 ⟨d', dd.1⟩, by rw [PH.join_assoc], p', fun Y c' z' h3' le d'' o' oc p'' => ?_⟩
      have d3 := PH.disj_join_r.1 d''
      simp only [setCell, AV.setCell]
      refine (repE_agg _ _ _ _).2 ⟨zs.set off z', zs', ?_, by simpa using l, h3'.join h4, h2, PH.disj_join.2 ⟨d3.2, dd.2⟩, by rw [PH.join_assoc], f Y c' z' h3' le d3.1 o' p'', repE_mono le _ _ _ _ q⟩
      simp [List.set_append_left _ _ lt]
    | tup vs => simp [AV.cells] at e; obtain ⟨_, rfl⟩ : off = 0 ∧ AV.tup vs = c := by
                  cases off with
                  | zero => simp at e; exact ⟨rfl, e⟩
                  | succ n => simp at e
                simp [AV.isCell] at hc
    | _ =>
      all_goals
        obtain ⟨z, zs', rfl, l, o, h1, h2, d, rfl, p, q⟩ := (repE_cell rfl _ _ _).1 r
        simp only [AV.cells] at e
        obtain ⟨rfl, rfl⟩ : off = 0 ∧ _ = c := by
          cases off with
          | zero => simp at e; exact ⟨rfl, e⟩
          | succ n => simp at e
        refine ⟨z, h1, h2, by simp, by omega, o, d, rfl, p, fun Y c' z' h3' le d'' o' oc p'' => ?_⟩
        simp only [setCell, AV.setCell]
        exact (repE_cell oc _ _ _).2 ⟨z', zs', by simp, l, o', h3', h2, d'', rfl, p'', repE_mono le _ _ _ _ q⟩
  | a :: es, i + 1, ys, h, r, e, hc => by
    have e' : getCell es i off = some c := by simpa [getCell] using e
    have key : ∀ (zs zs' : List Value) (R : Cx → HP) (h1 h2 : PH), zs.length = sz → h1.disj h2 → R X h1 → (∀ Y, X.le Y → R Y h1) → repE X sz es zs' h2 →
        (∀ Y (zs'' : List Value) h2', h1.disj h2' → X.le Y → R Y h1 → ∀ es', repE Y sz es' zs'' h2' → repE Y sz (a :: es') (zs ++ zs'') (h1.join h2')) →
        ∃ z k1 k2, (zs ++ zs')[(i + 1) * sz + off]? = some z ∧ off < sz ∧ z.oneCell' = true ∧ k1.disj k2 ∧ h1.join h2 = k1.join k2 ∧ rep X c z k1 ∧
          ∀ Y c' z' k1', X.le Y → k1'.disj k2 → z'.oneCell' = true → c'.isCell = true → rep Y c' z' k1' → repE Y sz (setCell (a :: es) (i + 1) off c') ((zs ++ zs').set ((i + 1) * sz + off) z') (k1'.join k2) := by
      intro zs zs' R h1 h2 l d hR hRm q mk
      obtain ⟨u, h3, h4, e1, lt, e2, d', rfl, p', f⟩ := repE_focus es i zs' h2 q e' hc
      have dd := PH.disj_join_r.1 d
      have ix : (i + 1) * sz + off = zs.length + (i * sz + off) := by rw [l, Nat.add_mul]; omega
      refine ⟨u, h3, h1.join h4, ?_, lt, e2, PH.disj_join_r.2 ⟨dd.1.symm, d'⟩, ?_, p', fun Y c' z' h3' le d'' o' oc p'' => ?_⟩
      · rw [ix, List.getElem?_append_right (by omega)]; simpa using e1
      · rw [← PH.join_assoc, PH.join_comm dd.1, PH.join_assoc]
      · have d3 := PH.disj_join_r.1 d''
        have := mk Y (zs'.set (i * sz + off) z') (h3'.join h4) (PH.disj_join_r.2 ⟨d3.1.symm, dd.2⟩) le (hRm Y le) _ (f Y c' z' h3' le d3.2 o' oc p'')
        rw [ix, List.set_append_right _ _ (by omega), Nat.add_sub_cancel_left]
        rw [← PH.join_assoc, PH.join_comm d3.1, PH.join_assoc]
        exact this
    cases a with
    | agg cs =>
      obtain ⟨zs, zs', rfl, l, h1, h2, d, rfl, p, q⟩ := (repE_agg _ _ _ _).1 r
      exact key zs zs' (fun Y => repCs Y cs zs) h1 h2 l d p (fun Y le => repCs_mono le _ _ _ p) q
        (fun Y zs'' h2' d' _ hr es' hq => (repE_agg _ _ _ _).2 ⟨zs, zs'', rfl, l, h1, h2', d', rfl, hr, hq⟩)
    | tup vs =>
      simp only [repE, HP.ex] at r
      obtain ⟨z, zs', rfl, l, o, h1, h2, d, rfl, p, q⟩ := r
      exact key [z] zs' (fun Y => rep Y (.tup vs) z) h1 h2 (by simp [l]) d p (fun Y le => rep_mono le _ _ _ p) q
        (fun Y zs'' h2' d' _ hr es' hq => by simp only [repE, HP.ex]; exact ⟨z, zs'', rfl, l, o, h1, h2', d', rfl, hr, hq⟩)
    | _ =>
      all_goals
        obtain ⟨z, zs', rfl, l, o, h1, h2, d, rfl, p, q⟩ := (repE_cell rfl _ _ _).1 r
        exact key [z] zs' (fun Y => rep Y _ z) h1 h2 (by simp [l]) d p (fun Y le => rep_mono le _ _ _ p) q
          (fun Y zs'' h2' d' _ hr es' hq => (repE_cell rfl _ _ _).2 ⟨z, zs'', rfl, l, o, h1, h2', d', rfl, hr, hq⟩)

end Go.AM
