/-
  The operations on memory do what is said of them. No condition beyond what each theorem states.
-/
import Derived.Test.YtbbhjklcjlnacaaGreatAm4
/-! The operations on memory do what is said of them. -/
namespace Go.AM
variable {P : Program}

theorem addr_add (b o n : Nat) : (⟨b, o, none⟩ : Addr).add n = ⟨b, o + n, none⟩ := by
  unfold Addr.add; split <;> simp_all

theorem run_isAgg' {t : TypeId} {b : Bool} (h : tagg P t = some b) (w : World) : (isAgg t).run P w = .ok b w := by
  unfold tagg at h
  cases hu : P.underlying t with
  | none => simp [hu] at h
  | some d =>
    cases d <;> simp [hu] at h <;> subst h <;> simp [isAgg, run_underlying hu]
theorem info_of_tsz {t : TypeId} (h : 0 < tsz P t) : ∃ i, P.info? t = some i ∧ i.size = tsz P t := by
  unfold tsz at h ⊢
  cases hi : P.info? t with
  | none => simp [hi] at h
  | some i => exact ⟨i, rfl, by simp⟩
theorem run_sizeOf' {t : TypeId} (h : 0 < tsz P t) (w : World) : (sizeOf t).run P w = .ok (tsz P t) w := by
  obtain ⟨i, hi, e⟩ := info_of_tsz h
  simp [sizeOf, typeInfo, hi, ← e]

/-- Blocks are never less, and those that are there stay. -/
structure Old (w w' : World) : Prop where
  size : w.heap.size ≤ w'.heap.size
  block : ∀ b, b < w.heap.size → w'.heap[b]? = w.heap[b]?
theorem Old.refl (w : World) : Old w w := ⟨Nat.le_refl _, fun _ _ => rfl⟩
theorem Old.trans {a b c : World} (h : Old a b) (k : Old b c) : Old a c := ⟨Nat.le_trans h.size k.size, fun i hi => (k.block i (Nat.lt_of_lt_of_le hi h.size)).trans (h.block i hi)⟩
theorem Old.cell {w u : World} (o : Old w u) {a : Addr} {v : Value} (h : w.cell? a = some v) : u.cell? a = some v := by
  unfold World.cell? at h ⊢
  cases hb : w.heap[a.block]? with
  | none => simp [hb] at h
  | some ob => rw [o.block _ (Array.getElem?_eq_some_iff.1 hb).1]; exact h
theorem New.old {w w' : World} {o : Obj} (n : New w w' o) : Old w w' := ⟨n.size, n.else_⟩

/-- What an operation that hands back a value comes to. -/
def Good (P : Program) (s : Sem Value) (X : Cx) (hf : PH) (w : World) : AR → Prop
  | .ok v H' n' => ∃ x w' X', s.run P w = .ok x w' ∧ Ext w w' ∧ X.le X' ∧ X'.n = n' ∧ Mem X' hf H' w' ∧ pureR X' v x
  | .anyb H' n' => ∃ b w' X', s.run P w = .ok (.bool b) w' ∧ Ext w w' ∧ X.le X' ∧ X'.n = n' ∧ Mem X' hf H' w'
  | .fail => True
/-- An operation that lays something new. -/
def GoodA (P : Program) (s : Sem Value) (X : Cx) (hf : PH) (w : World) : AR → Prop
  | .ok v H' n' => ∃ x w' X', s.run P w = .ok x w' ∧ Ext w w' ∧ Old w w' ∧ X.le X' ∧ X'.n = n' ∧ Mem X' hf H' w' ∧ pureR X' v x
  | _ => True
/-- .. and one that hands back none. -/
def GoodU (P : Program) (s : Sem Unit) (X : Cx) (hf : PH) (w : World) : AR → Prop
  | .ok _ H' n' => ∃ w' X', s.run P w = .ok () w' ∧ Ext w w' ∧ X.le X' ∧ X'.n = n' ∧ Mem X' hf H' w'
  | _ => True

/-- What an operation may be to others: it only reckons; it only reads; it only lays something new; anything. -/
inductive Cls where
  | P | R | A | E
  deriving DecidableEq
/-- the worlds in which it does the same -/
def OW : Cls → World → World → Prop
  | .P, _, _ => True
  | _, w, u => Old w u
/-- An operation that writes nothing: it hands back the same elsewhere. -/
def GoodO (c : Cls) (P : Program) (s : Sem Value) (X : Cx) (hf : PH) (w : World) : AR → Prop
  | .ok v H' n' => ∃ x X', (∀ u, OW c w u → s.run P u = .ok x u) ∧ X.le X' ∧ X'.n = n' ∧ Mem X' hf H' w ∧ pureR X' v x
  | .anyb H' n' => ∃ b X', (∀ u, OW c w u → s.run P u = .ok (.bool b) u) ∧ X.le X' ∧ X'.n = n' ∧ Mem X' hf H' w
  | .fail => True

theorem cell_of_heap {w : World} {b o : Nat} {c : Array Value} {T : TypeId} {fz : Nat × Nat} {z : Value} (h : w.heap[b]? = some (.cells c T fz)) (e : c.toList[o]? = some z) : w.cell? ⟨b, o, none⟩ = some z := by
  simp [World.cell?, h]; simpa using e

theorem pureCs_get {X : Cx} {c : AV} : ∀ (cs : List AV) (ys : List Value) (k : Nat), pureCs X cs ys → cs[k]? = some c → ∃ z, ys[k]? = some z ∧ z.oneCell' = true ∧ pureR X c z
  | [], _, k, _, e => by simp at e
  | a :: cs, ys, 0, h, e => by
    simp only [pureCs] at h; obtain ⟨z, zs, rfl, o, p, q⟩ := h
    simp at e; subst e; exact ⟨z, rfl, o, p⟩
  | a :: cs, ys, k + 1, h, e => by
    simp only [pureCs] at h; obtain ⟨z, zs, rfl, o, p, q⟩ := h
    simp at e; simpa using pureCs_get cs zs k q e
theorem pureCs_len {X : Cx} : ∀ (cs : List AV) (ys : List Value), pureCs X cs ys → ys.length = cs.length
  | [], ys, h => by simp only [pureCs] at h; simp [h]
  | c :: cs, ys, h => by
    simp only [pureCs] at h; obtain ⟨z, zs, rfl, o, p, q⟩ := h; simp [pureCs_len cs zs q]
theorem pureCs_drop {X : Cx} : ∀ (cs : List AV) (ys : List Value) (k : Nat), pureCs X cs ys → pureCs X (cs.drop k) (ys.drop k)
  | cs, ys, 0, h => by simpa using h
  | [], ys, k + 1, h => by simp only [pureCs] at h; simp [h, pureCs]
  | c :: cs, ys, k + 1, h => by
    simp only [pureCs] at h; obtain ⟨z, zs, rfl, o, p, q⟩ := h; simpa using pureCs_drop cs zs k q
theorem pureCs_take {X : Cx} : ∀ (cs : List AV) (ys : List Value) (k : Nat), pureCs X cs ys → pureCs X (cs.take k) (ys.take k)
  | cs, ys, 0, _ => by simp [pureCs]
  | [], ys, k + 1, h => by simp only [pureCs] at h; simp [h, pureCs]
  | c :: cs, ys, k + 1, h => by
    simp only [pureCs] at h; obtain ⟨z, zs, rfl, o, p, q⟩ := h
    simp only [List.take_succ_cons, pureCs]; exact ⟨z, zs.take k, rfl, o, p, pureCs_take cs zs k q⟩
theorem pureCs_one {X : Cx} {ys : List Value} (cs : List AV) (h : pureCs X cs ys) : ∀ u ∈ ys, u.oneCell' = true := by
  intro u hu
  obtain ⟨k, hk, e⟩ := List.getElem_of_mem hu
  have hl := pureCs_len cs ys h
  have : cs[k]? = some cs[k] := List.getElem?_eq_getElem (by omega)
  obtain ⟨z, e1, o, _⟩ := pureCs_get cs ys k h this
  rw [List.getElem?_eq_getElem hk] at e1
  simp at e1; rw [← e, e1]; exact o

/-- of a value without an object of its own, what it owns is nothing -/
theorem rep_free {X : Cx} {c : AV} (hc : c.free = true) {z : Value} {h : PH} : rep X c z h ↔ pureR X c z ∧ h = PH.none := by
  cases c <;> first | (simp [AV.free] at hc; done) | (simp only [rep, HP.pure])

theorem cells_free {e : AV} {off : Nat} {c : AV} (h : e.cells.all AV.free = true) (g : e.cells[off]? = some c) : c.free = true :=
  List.all_eq_true.1 h c (List.mem_of_getElem? g)
theorem free_isCell {c : AV} (h : c.free = true) : c.isCell = true := by cases c <;> simp_all [AV.free, AV.isCell]
theorem solid_free {c : AV} (h : c.solid = true) : c.free = true := by cases c <;> simp_all [AV.free, AV.solid]

/-- Any cell of a row, where it lies: its value reads as is said. -/
theorem mem_cell {X : Cx} {hf : PH} {H : Hp} {w : World} (m : Mem X hf H w) {id sz : Nat} {es : List AV} (hl : alook H id = some (.row sz es)) {i off : Nat} {c : AV} (g : getCell es i off = some c) (hc : c.free = true) :
    id < X.n ∧ (X.σ id).sz = sz ∧ ∃ z, w.cell? ⟨(X.σ id).blk, i * sz + off, none⟩ = some z ∧ z.oneCell' = true ∧ pureR X c z := by
  obtain ⟨h, st, d1, d2, iw, _, _⟩ := m
  obtain ⟨h1, h2, d, rfl, l, r, _, _⟩ := starH_focus H h st hl
  obtain ⟨e1, cs, T, z, k1, k2, oc, gz, _, dk2, _, dk1, rfl, p, _⟩ := row_focus r g (free_isCell hc)
  refine ⟨l, e1, z, ?_, oc z (List.mem_of_getElem? gz), ((rep_free hc).1 p).1⟩
  refine cell_of_heap (c := cs) (T := T) (fz := (0, 0)) (iw _ _ ?_) gz
  simp [PH.join, PH.one]

theorem getCell_of {es : List AV} {i off : Nat} {e c : AV} (h : es[i]? = some e) (g : e.cells[off]? = some c) : getCell es i off = some c := by simp [getCell, h, g]

theorem run_load_cell {a : Addr} {v : Value} {w : World} (h : w.cell? a = some v) : (load a).run P w = .ok v w := by simp [h]

/-- loading several cells -/
theorem run_loadCells_zs {w : World} (b o : Nat) (zs : List Value) (h : ∀ j z, zs[j]? = some z → w.cell? ⟨b, o + j, none⟩ = some z) : (loadCells ⟨b, o, none⟩ zs.length).run P w = .ok zs.toArray w := by
  refine run_loadCells_list w ⟨b, o, none⟩ zs fun j v e => ?_
  rw [addr_add]; exact h j v e

theorem mem_cells {X : Cx} {hf : PH} {H : Hp} {w : World} (m : Mem X hf H w) {id sz : Nat} {es : List AV} (hl : alook H id = some (.row sz es)) {i : Nat} {e : AV} (he : es[i]? = some e) (hfr : e.cells.all AV.free = true) :
    ∀ (k off : Nat), off + k ≤ e.cells.length → ∃ zs, zs.length = k ∧ pureCs X ((e.cells.drop off).take k) zs ∧ ∀ j z, zs[j]? = some z → w.cell? ⟨(X.σ id).blk, i * sz + off + j, none⟩ = some z
  | 0, off, _ => ⟨[], rfl, by simp [pureCs], by simp⟩
  | k + 1, off, hk => by
    have hlt : off < e.cells.length := by omega
    have g : e.cells[off]? = some e.cells[off] := List.getElem?_eq_getElem hlt
    obtain ⟨_, _, z, cz, oz, pz⟩ := mem_cell m hl (getCell_of he g) (cells_free hfr g)
    obtain ⟨zs, l, p, f⟩ := mem_cells m hl he hfr k (off + 1) (by omega)
    refine ⟨z :: zs, by simp [l], ?_, fun j u hj => ?_⟩
    · rw [List.drop_eq_getElem_cons hlt, List.take_succ_cons]
      simp only [pureCs]; exact ⟨z, zs, rfl, oz, pz, p⟩
    · cases j with
      | zero => simp at hj; subst hj; simpa using cz
      | succ j => simp at hj; have := f j u hj; rw [show i * sz + off + (j + 1) = i * sz + (off + 1) + j by omega]; exact this

/-- One cell read, what it owns numbered. -/
theorem aOpen_good {X : Cx} {hf : PH} {H : Hp} {w : World} {id sz : Nat} {es : List AV} {i off : Nat} {c : AV} (m : Mem X hf H w) (hl : alook H id = some (.row sz es)) (g : getCell es i off = some c) :
    GoodO .R P (load ⟨(X.σ id).blk, i * (X.σ id).sz + off, none⟩) X hf w (aOpen H X.n id sz es i off c) := by
  have opened : ∀ (o : AO) (r : AV) (mk : Pl → Value → Prop), r.isCell = true → c.isCell = true →
      (∀ z h, rep X c z h → ∃ pl, repO X o pl h ∧ mk pl z ∧ z.oneCell' = true) → (∀ Y pl z, X.n < Y.n → Y.σ X.n = pl → mk pl z → pureR Y r z) → (r.free = true) →
      GoodO .R P (load ⟨(X.σ id).blk, i * (X.σ id).sz + off, none⟩) X hf w (.ok r ((X.n, o) :: aset H id (.row sz (setCell es i off r))) (X.n + 1)) := by
    intro o r mk hr hc hrep hpure hfr
    obtain ⟨h, st, d1, d2, iw, iwi, iwf⟩ := m
    obtain ⟨h1, h2, d, rfl, l, ro, put, _⟩ := starH_focus H h st hl
    obtain ⟨e1, cs, T, z, k1, k2, oc, gz, ltz, dk2, dkk, dk1, rfl, p, f⟩ := row_focus ro g hc
    obtain ⟨pl, hO, hmk, hoc⟩ := hrep z k1 p
    let Y : Cx := ⟨X.im, fun j => if j = X.n then pl else X.σ j, X.n + 1⟩
    have le : X.le Y := ⟨PH.sub_refl _, Nat.le_succ _, fun j hj => by simp [Y, Nat.ne_of_lt hj]⟩
    have hYn : Y.σ X.n = pl := by simp [Y]
    have cell : w.cell? ⟨(X.σ id).blk, i * (X.σ id).sz + off, none⟩ = some z := by
      rw [e1]; refine cell_of_heap (c := cs) (T := T) (fz := (0, 0)) (iw _ _ ?_) gz
      simp [PH.join, PH.one]
    have dj := PH.disj_join.1 d
    have djj := PH.disj_join.1 dj.2
    have pz : pureR Y r z := hpure Y pl z (Nat.lt_succ_self _) hYn hmk
    have nr : rep Y r z PH.none := (rep_free hfr).2 ⟨pz, rfl⟩
    have same : cs.setIfInBounds (i * sz + off) z = cs := by
      apply Array.ext_getElem?
      intro j
      rw [Array.getElem?_setIfInBounds]
      split
      · rename_i e; subst e
        split
        · rw [← Array.getElem?_toList, gz]
        · rename_i hh; rw [← Array.getElem?_toList] at *; simp at hh; simp [Array.getElem?_eq_none hh]
      · rfl
    have f' := f Y r z PH.none le (PH.none_disj _) (PH.disj_none _) hoc hr nr
    rw [same, PH.none_join] at f'
    have P' := put Y (.row sz (setCell es i off r)) ((PH.one (X.σ id).blk (.cells cs T (0, 0))).join k2) le (PH.disj_join.2 ⟨dj.1, djj.2⟩) f'
    have Dk1 : k1.disj (((PH.one (X.σ id).blk (.cells cs T (0, 0))).join k2).join h2) :=
      PH.disj_join_r.2 ⟨PH.disj_join_r.2 ⟨dk1.symm, dkk⟩, djj.1⟩
    refine ⟨z, Y, fun u hu => run_load_cell (Old.cell hu cell), le, rfl, ⟨k1.join (((PH.one (X.σ id).blk (.cells cs T (0, 0))).join k2).join h2), ?_, ?_⟩, pz⟩
    · refine ⟨k1, _, Dk1, rfl, ⟨Nat.lt_succ_self _, ?_⟩, P'⟩
      rw [hYn]; exact repO_mono le _ _ _ hO
    · have eq : k1.join (((PH.one (X.σ id).blk (.cells cs T (0, 0))).join k2).join h2) = ((PH.one (X.σ id).blk (.cells cs T (0, 0))).join (k1.join k2)).join h2 := by
        rw [PH.join_assoc (PH.one _ _) k2 h2, ← PH.join_assoc k1, PH.join_comm dk1.symm, PH.join_assoc, PH.join_assoc, PH.join_assoc]
      rw [eq]; exact ⟨d1, d2, iw, iwi, iwf⟩
  have plain : c.free = true → GoodO .R P (load ⟨(X.σ id).blk, i * (X.σ id).sz + off, none⟩) X hf w (.ok c H X.n) := by
    intro hc
    obtain ⟨l, e1, z, cz, oz, pz⟩ := mem_cell m hl g hc
    rw [← e1] at cz
    exact ⟨z, X, fun u hu => run_load_cell (Old.cell hu cz), Cx.le_refl X, rfl, m, pz⟩
  cases c with
  | ownp o =>
    refine opened o (.ptr X.n 0 0) (fun pl z => z = .pointer (some ⟨pl.blk, 0, none⟩)) rfl rfl ?_ ?_ rfl
    · intro z h r; simp only [rep, HP.ex] at r; obtain ⟨pl, e, q⟩ := r; exact ⟨pl, q, e, by rw [e]; rfl⟩
    · intro Y pl z hn hs e; simp only [pureR]; rw [hs]; exact ⟨hn, by simpa using e⟩
  | ownsl o =>
    cases o with
    | row s l =>
      refine opened (.row s l) (.sl X.n 0 l.length) (fun pl z => ∃ a, l.length ≤ pl.cap ∧ z = .slice a l.length pl.cap ∧ (pl.cap ≠ 0 → a = some ⟨pl.blk, 0, none⟩)) rfl rfl ?_ ?_ rfl
      · intro z h r; simp only [rep, HP.ex] at r
        obtain ⟨pl, n, a, q1, q2, q3, ⟨sz', es', e, q4⟩, q⟩ := r
        cases e; subst q4
        exact ⟨pl, q, ⟨a, q1, q2, q3⟩, by rw [q2]; rfl⟩
      · rintro Y pl z hn hs ⟨a, q1, q2, q3⟩; simp only [pureR]; rw [hs]
        exact ⟨hn, a, Nat.zero_le _, by simpa using q1, by simpa using q2, by simpa using q3⟩
    | _ => exact trivial
  | ownm o =>
    refine opened o (.mp X.n) (fun pl z => z = .map (some pl.blk)) rfl rfl ?_ ?_ rfl
    · intro z h r; simp only [rep, HP.ex] at r; obtain ⟨pl, e, q⟩ := r; exact ⟨pl, q, e, by rw [e]; rfl⟩
    · intro Y pl z hn hs e; simp only [pureR]; rw [hs]; exact ⟨hn, e⟩
  | agg cs => exact trivial
  | tup vs => exact trivial
  | _ => exact plain rfl

theorem aLoad_good {X : Cx} {hf : PH} {H : Hp} {w : World} (t : TypeId) {a : AV} {x : Value} (m : Mem X hf H w) (ha : pureR X a x) :
    GoodO .R P (Instr.loadAt t x) X hf w (aLoad P t H X.n a) := by
  cases a with
  | ptr id i off =>
    simp only [aLoad]
    cases hl : alook H id with
    | none => exact trivial
    | some o =>
      cases o with
      | row sz es =>
        simp only [pureR] at ha
        obtain ⟨hid, rfl⟩ := ha
        simp only [aLoadRow]
        cases hag : tagg P t with
        | none => exact trivial
        | some ag =>
          cases he : es[i]? with
          | none => cases ag <;> exact trivial
          | some e =>
            cases ag with
            | true =>
              dsimp only
              split
              · rename_i hk
                obtain ⟨h1, h2, h3⟩ := hk
                obtain ⟨zs, l, p, f⟩ := mem_cells m hl he h3 (tsz P t) off h2
                have e1 : (X.σ id).sz = sz := (mem_cell m hl (getCell_of he (List.getElem?_eq_getElem (by omega : off < e.cells.length))) (cells_free h3 (List.getElem?_eq_getElem (by omega)))).2.1
                refine ⟨.agg zs.toArray, X, fun u hu => ?_, Cx.le_refl X, rfl, m, ?_⟩
                · simp only [Instr.loadAt, Instr.sureAddr, loadVar, Sem.run_bind, Sem.run_pure, Result.andThen, run_isAgg' hag, run_sizeOf' h1, if_true, e1]
                  rw [← l, run_loadCells_zs _ _ zs (fun j z hj => Old.cell hu (f j z hj))]
                · simp only [pureR]; exact ⟨zs.toArray, rfl, p⟩
              · exact trivial
            | false =>
              dsimp only
              cases hc : e.cells[off]? with
              | none => exact trivial
              | some c =>
                have := aOpen_good (P := P) m hl (getCell_of he hc)
                have eq : ∀ w, (Instr.loadAt t (.pointer (some ⟨(X.σ id).blk, i * (X.σ id).sz + off, none⟩))).run P w = (load ⟨(X.σ id).blk, i * (X.σ id).sz + off, none⟩).run P w := by
                  intro w
                  simp only [Instr.loadAt, Instr.sureAddr, loadVar, Sem.run_bind, Sem.run_pure, Result.andThen, run_isAgg' hag, Bool.false_eq_true, if_false]
                unfold GoodO at this ⊢
                simp only [eq]; exact this
      | _ => exact trivial
  | rop cs off =>
    simp only [aLoad]
    simp only [pureR] at ha
    obtain ⟨b, o, c, T, fz, ys, rfl, him, p, tk⟩ := ha
    obtain ⟨h, st, d1, d2, iw, iwi, iwf⟩ := m
    have hp := iwi _ _ him
    have cell : ∀ j z, ys[j]? = some z → w.cell? ⟨b, o + j, none⟩ = some z := by
      intro j z e
      refine cell_of_heap hp ?_
      have lt := (List.getElem?_eq_some_iff.1 e).1
      rw [← tk, List.getElem?_take_of_lt lt, List.getElem?_drop] at e
      exact e
    cases hag : tagg P t with
    | none => exact trivial
    | some ag =>
      cases ag with
      | true =>
        dsimp only
        split
        · rename_i hk
          have hyl := pureCs_len cs ys p
          refine ⟨.agg ((ys.drop off).take (tsz P t)).toArray, X, fun u hu => ?_, Cx.le_refl X, rfl, ⟨h, st, d1, d2, iw, iwi, iwf⟩, ?_⟩
          · simp only [Instr.loadAt, Instr.sureAddr, loadVar, Sem.run_bind, Sem.run_pure, Result.andThen, run_isAgg' hag, run_sizeOf' hk.1, if_true]
            have hl : ((ys.drop off).take (tsz P t)).length = tsz P t := by simp; omega
            conv => lhs; rw [← hl]
            rw [run_loadCells_zs _ _ _ (fun j z hj => ?_)]
            rw [List.getElem?_take_of_lt (by have := (List.getElem?_eq_some_iff.1 hj).1; omega), List.getElem?_drop] at hj
            have := cell _ _ hj
            rw [← Nat.add_assoc] at this; exact Old.cell hu this
          · simp only [pureR]; exact ⟨_, rfl, pureCs_take _ _ _ (pureCs_drop _ _ _ p)⟩
        · exact trivial
      | false =>
        dsimp only
        cases hc : cs[off]? with
        | none => exact trivial
        | some v =>
          obtain ⟨z, e1, oz, pz⟩ := pureCs_get cs ys off p hc
          refine ⟨z, X, fun u hu => ?_, Cx.le_refl X, rfl, ⟨h, st, d1, d2, iw, iwi, iwf⟩, pz⟩
          simp only [Instr.loadAt, Instr.sureAddr, loadVar, Sem.run_bind, Sem.run_pure, Result.andThen, run_isAgg' hag, Bool.false_eq_true, if_false]
          exact run_load_cell (Old.cell hu (cell _ _ e1))
  | _ => exact trivial

end Go.AM
