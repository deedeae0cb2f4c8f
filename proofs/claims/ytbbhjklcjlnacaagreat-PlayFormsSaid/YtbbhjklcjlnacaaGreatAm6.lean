/-
  Stores. No condition beyond what each theorem states.
-/
import Derived.Test.YtbbhjklcjlnacaaGreatAm5
/-! Stores. -/
namespace Go.AM
variable {P : Program}

theorem solid_one {X : Cx} {v : AV} {x : Value} (hv : v.solid = true) (h : pureR X v x) : x.oneCell' = true := by
  cases v <;> simp only [pureR] at h <;> first | (simp [AV.solid] at hv; done) | (subst h; rfl) | (obtain ⟨_, rfl⟩ := h; rfl) | (obtain ⟨_, _, _, _, rfl, _⟩ := h; rfl) | skip
  · obtain ⟨b, o, c, T, fz, ys, rfl, _⟩ := h; rfl
  · obtain ⟨a, cap, _, rfl, _⟩ := h; rfl
  · obtain ⟨ys, zs, rfl, _⟩ := h; rfl
  · obtain ⟨y, rfl, _⟩ := h; rfl
theorem pure_free {X : Cx} {v : AV} {x : Value} (h : pureR X v x) (o : x.oneCell' = true) : v.free = true := by
  cases v <;> simp only [pureR] at h <;> first | rfl | exact h.elim | skip
  · obtain ⟨ys, rfl, _⟩ := h; simp [Value.oneCell'] at o
  · obtain ⟨ys, rfl, _⟩ := h; simp [Value.oneCell'] at o

theorem setCell_upd {w : World} {b o : Nat} {c : Array Value} {T : TypeId} {z : Value} (h : w.heap[b]? = some (.cells c T (0, 0))) :
    Upd w (w.setCell ⟨b, o, none⟩ z) b (.cells (c.setIfInBounds o z) T (0, 0)) := by
  have hb : b < w.heap.size := (Array.getElem?_eq_some_iff.1 h).1
  refine ⟨⟨rfl, rfl, rfl, by simp [World.setCell]⟩, ?_, fun d hd => ?_⟩
  · simp only [World.setCell, Array.getElem?_modify]; simp [h]
  · simp only [World.setCell, Array.getElem?_modify]; rw [if_neg (by omega)]

/-- The memory behind a block's turn. -/
theorem mem_upd {im hf h0 : PH} {w w' : World} {b : Nat} {o o' : Obj} (u : Upd w w' b o')
    (d1 : ((PH.one b o).join h0).disj im) (d2 : ((PH.one b o).join h0).disj hf) (iw : ((PH.one b o).join h0).inW w) (iwi : im.inW w) (iwf : hf.inW w) :
    ((PH.one b o').join h0).disj im ∧ ((PH.one b o').join h0).disj hf ∧ ((PH.one b o').join h0).inW w' ∧ im.inW w' ∧ hf.inW w' := by
  have eq : (PH.one b o').join h0 = ((PH.one b o).join h0).upd b o' := by rw [← PH.upd_join, PH.one_upd]
  have nz : ((PH.one b o).join h0) b ≠ Option.none := by simp [PH.join, PH.one]
  rw [eq]
  refine ⟨PH.upd_disj d1 nz, PH.upd_disj d2 nz, u.inW iw, u.inW_other iwi ?_, u.inW_other iwf ?_⟩
  · rcases d1 b with e | e
    · exact absurd e nz
    · exact e
  · rcases d2 b with e | e
    · exact absurd e nz
    · exact e

/-- one cell stored -/
theorem store_cell {X : Cx} {hf : PH} {H : Hp} {w : World} {id sz : Nat} {es : List AV} {i off : Nat} {c v : AV} {x : Value} (m : Mem X hf H w) (hl : alook H id = some (.row sz es))
    (g : getCell es i off = some c) (hc : c.isCell = true) (hv : v.free = true) (pv : pureR X v x) (ox : x.oneCell' = true) :
    (X.σ id).sz = sz ∧ ∃ w', (store ⟨(X.σ id).blk, i * sz + off, none⟩ x).run P w = .ok () w' ∧ Ext w w' ∧ Mem X hf (aset H id (.row sz (setCell es i off v))) w' := by
  obtain ⟨h, st, d1, d2, iw, iwi, iwf⟩ := m
  obtain ⟨h1, h2, d, rfl, l, ro, put, _⟩ := starH_focus H h st hl
  obtain ⟨e1, cs, T, z, k1, k2, oc, gz, ltz, dk2, dkk, dk1, rfl, p, f⟩ := row_focus ro g hc
  refine ⟨e1, ?_⟩
  have hp : w.heap[(X.σ id).blk]? = some (.cells cs T (0, 0)) := iw _ _ (by simp [PH.join, PH.one])
  have cell : w.cell? ⟨(X.σ id).blk, i * sz + off, none⟩ = some z := cell_of_heap hp gz
  have fro : w.frozen? ⟨(X.σ id).blk, i * sz + off, none⟩ = false := by simp [World.frozen?, hp]
  refine ⟨w.setCell ⟨(X.σ id).blk, i * sz + off, none⟩ x, ?_, (setCell_upd hp).toExt, ?_⟩
  · rw [run_store P w _ _ _ ox]; simp [cell, fro]
  · have dj := PH.disj_join.1 d
    have djj := PH.disj_join.1 dj.2
    have nr : rep X v x PH.none := (rep_free hv).2 ⟨pv, rfl⟩
    have f' := f X v x PH.none (Cx.le_refl X) (PH.none_disj _) (PH.disj_none _) ox (free_isCell hv) nr
    rw [PH.none_join] at f'
    -- the old cell's own memory is let go
    have d1' : ((PH.one (X.σ id).blk (.cells cs T (0, 0))).join (k2.join h2)).disj X.im := by
      have := PH.disj_join.1 d1; have a := PH.disj_join.1 this.1; have b := PH.disj_join.1 a.2
      exact PH.disj_join.2 ⟨a.1, PH.disj_join.2 ⟨b.2, this.2⟩⟩
    have d2' : ((PH.one (X.σ id).blk (.cells cs T (0, 0))).join (k2.join h2)).disj hf := by
      have := PH.disj_join.1 d2; have a := PH.disj_join.1 this.1; have b := PH.disj_join.1 a.2
      exact PH.disj_join.2 ⟨a.1, PH.disj_join.2 ⟨b.2, this.2⟩⟩
    have iw' : ((PH.one (X.σ id).blk (.cells cs T (0, 0))).join (k2.join h2)).inW w := by
      have a := PH.inW_left iw; have b := PH.inW_right d iw
      have a1 := PH.inW_left a
      have a2 := PH.inW_right (PH.disj_join_r.2 ⟨dk1, dk2⟩) a
      have a3 := PH.inW_right dkk a2
      exact PH.inW_join ⟨a1, PH.inW_join ⟨a3, b⟩⟩
    have u := setCell_upd (o := i * sz + off) (z := x) hp
    obtain ⟨q1, q2, q3, q4, q5'⟩ := mem_upd u d1' d2' iw' iwi iwf.1
    have q5 := And.intro q5' iwf.2
    have dn : ((PH.one (X.σ id).blk (.cells (cs.setIfInBounds (i * sz + off) x) T (0, 0))).join k2).disj h2 := by
      refine PH.disj_join.2 ⟨fun b => ?_, djj.2⟩
      rcases dj.1 b with e | e
      · left; simp only [PH.one] at e ⊢; by_cases hb : b = (X.σ id).blk <;> simp_all
      · right; exact e
    refine ⟨_, put X _ _ (Cx.le_refl X) dn f', ?_⟩
    rw [PH.join_assoc]
    exact ⟨q1, q2, q3, q4, q5⟩

theorem alook_aset {α : Type} {H : List (Nat × α)} {id : Nat} {o o' : α} (h : alook H id = some o) : alook (aset H id o') id = some o' := by
  induction H with
  | nil => simp [alook] at h
  | cons p H ih =>
    obtain ⟨k, v⟩ := p
    by_cases hk : id = k
    · subst hk; simp [aset, alook]
    · simp [alook, hk] at h; simp [aset, alook, hk, ih h]
theorem aset_aset {α : Type} {H : List (Nat × α)} {id : Nat} {o o' : α} : aset (aset H id o) id o' = aset H id o' := by
  induction H with
  | nil => rfl
  | cons p H ih =>
    obtain ⟨k, v⟩ := p
    by_cases hk : id = k
    · subst hk; simp [aset]
    · simp [aset, hk, ih]
theorem aset_self {α : Type} {H : List (Nat × α)} {id : Nat} {o : α} (h : alook H id = some o) : aset H id o = H := by
  induction H with
  | nil => rfl
  | cons p H ih =>
    obtain ⟨k, v⟩ := p
    by_cases hk : id = k
    · subst hk; simp [alook] at h; simp [aset, h]
    · simp [alook, hk] at h; simp [aset, hk, ih h]

theorem setCell_agg {es : List AV} : ∀ {i off : Nat} {c : AV} {cs : List AV}, es[i]? = some (.agg cs) → (setCell es i off c)[i]? = some (.agg (cs.set off c)) := by
  induction es with
  | nil => intro i off c cs h; simp at h
  | cons e es ih =>
    intro i off c cs h
    cases i with
    | zero => simp at h; subst h; rfl
    | succ i => simp at h; simpa [setCell] using ih h

/-- several cells stored -/
theorem store_cells {X : Cx} {hf : PH} {id sz : Nat} {i : Nat} : ∀ (vs : List AV) (zs : List Value) (j off : Nat) (cs0 : List AV) (es : List AV) (H : Hp) (w : World), Mem X hf H w → alook H id = some (.row sz es) →
    es[i]? = some (.agg cs0) → off + j + vs.length ≤ cs0.length → (∀ (k : Nat) (c : AV), cs0[k]? = some c → c.isCell = true) → pureCs X vs zs → (X.σ id).sz = sz →
    ∃ w', (storeCells ⟨(X.σ id).blk, i * sz + off, none⟩ zs j).run P w = .ok () w' ∧ Ext w w' ∧ Mem X hf (aset H id (.row sz (setCells es i (off + j) vs))) w'
  | [], zs, j, off, cs0, es, H, w, m, hl, he, hle, hcs, p, hs => by
    simp only [pureCs] at p; subst p
    exact ⟨w, rfl, Ext.refl w, by simp only [setCells]; rw [aset_self hl]; exact m⟩
  | v :: vs, zs, j, off, cs0, es, H, w, m, hl, he, hle, hcs, p, hs => by
    simp only [pureCs] at p
    obtain ⟨z, zs', rfl, oz, pz, p'⟩ := p
    simp only [List.length_cons] at hle
    have hlt : off + j < cs0.length := by omega
    have hc : cs0[off + j]? = some cs0[off + j] := List.getElem?_eq_getElem hlt
    have g : getCell es i (off + j) = some cs0[off + j] := getCell_of he (by simp [AV.cells, hc])
    obtain ⟨_, w1, r1, x1, m1⟩ := store_cell (P := P) m hl g (hcs _ _ hc) (pure_free pz oz) pz oz
    have fr := pure_free pz oz
    obtain ⟨w2, r2, x2, m2⟩ := store_cells vs zs' (j + 1) off (cs0.set (off + j) v) _ _ w1 m1 (alook_aset hl) (setCell_agg he) (by simp; omega)
      (by intro k c hk
          by_cases e : k = off + j
          · subst e; rw [List.getElem?_set_self hlt] at hk; cases hk; exact free_isCell fr
          · rw [List.getElem?_set_ne (Ne.symm e)] at hk; exact hcs k c hk) p' hs
    refine ⟨w2, ?_, x1.trans x2, ?_⟩
    · simp only [storeCells, Sem.run_bind, addr_add]
      rw [show i * sz + off + j = i * sz + (off + j) by omega, r1]
      exact r2
    · rw [aset_aset] at m2; simpa only [setCells, Nat.add_assoc] using m2

theorem setCells_whole {es : List AV} : ∀ {i : Nat} {cs cs0 : List AV} (k : Nat) (pre : List AV), es[i]? = some (.agg (pre ++ cs0)) → pre.length = k → cs.length = cs0.length → setCells es i k cs = es.set i (.agg (pre ++ cs)) := by
  intro i cs
  induction cs generalizing es with
  | nil =>
    intro cs0 k pre h hk hl
    have : cs0 = [] := by cases cs0 <;> simp_all
    subst this
    simp only [setCells]
    apply List.ext_getElem?
    intro j
    by_cases e : i = j
    · subst e
      have hlt : i < es.length := (List.getElem?_eq_some_iff.1 h).1
      rw [List.getElem?_set_self hlt, h]
    · rw [List.getElem?_set_ne e]
  | cons c cs ih =>
    intro cs0 k pre h hk hl
    cases cs0 with
    | nil => simp at hl
    | cons c0 cs0 =>
      simp only [setCells]
      have hlt : i < es.length := (List.getElem?_eq_some_iff.1 h).1
      have h1 : (setCell es i k c)[i]? = some (.agg ((pre ++ [c]) ++ cs0)) := by
        rw [setCell_agg h, List.set_append_right _ _ (by omega)]; simp [hk]
      rw [ih (k + 1) (pre ++ [c]) h1 (by simp [hk]) (by simpa using hl)]
      have hset : ∀ (l : List AV) (n : Nat) (u : AV) , (setCell l n k c).set n u = l.set n u := by
        intro l
        induction l with
        | nil => intros; rfl
        | cons a l ih2 => intro n u; cases n with
          | zero => rfl
          | succ n => simp [setCell, ih2]
      rw [hset]; simp

theorem aStore_good {X : Cx} {hf : PH} {H : Hp} {w : World} (t : TypeId) {a v : AV} {x y : Value} (m : Mem X hf H w) (ha : pureR X a x) (hv : pureR X v y) :
    GoodU P (Instr.storeAt t x y) X hf w (aStore P t H X.n a v) := by
  cases a with
  | ptr id i off =>
    simp only [pureR] at ha
    obtain ⟨hid, rfl⟩ := ha
    simp only [aStore]
    cases hl : alook H id with
    | none => exact trivial
    | some o =>
      cases o with
      | row sz es =>
        dsimp only
        cases he : es[i]? with
        | none => cases v <;> exact trivial
        | some e =>
          have single : GoodU P (Instr.storeAt t (.pointer (some ⟨(X.σ id).blk, i * (X.σ id).sz + off, none⟩)) y) X hf w
              (if off < e.cells.length ∧ v.solid = true ∧ tsz P t = 1 ∧ (e.cells[off]?.getD .top).isCell = true then .ok .top (aset H id (.row sz (setCell es i off v))) X.n else .fail) := by
            split
            · rename_i hk
              obtain ⟨k1, k2, k3, k4⟩ := hk
              have hc : e.cells[off]? = some e.cells[off] := List.getElem?_eq_getElem k1
              rw [hc] at k4
              obtain ⟨e1, w', r, xt, m'⟩ := store_cell (P := P) m hl (getCell_of he hc) k4 (solid_free k2) hv (solid_one k2 hv)
              refine ⟨w', X, ?_, xt, Cx.le_refl X, rfl, m'⟩
              have hcs : y.cells = #[y] := by
                have := solid_one k2 hv
                cases y <;> simp_all [Value.oneCell', Value.cells]
              simp [Instr.storeAt, Instr.sureAddr, storeVar, run_sizeOf' (P := P) (t := t) (by omega), hcs, k3, e1, storeCells, addr_add, r, -run_load]
            · exact trivial
          cases v with
          | agg cs =>
            cases e with
            | agg ecs =>
              dsimp only
              split
              · rename_i hk
                obtain ⟨k0, k1, k2, k3⟩ := hk
                simp only [pureR] at hv
                obtain ⟨zs, rfl, p⟩ := hv
                have hzl := pureCs_len _ _ p
                have e1 : (X.σ id).sz = sz := by
                  obtain ⟨h, st, d1, d2, iw, iwi, iwf⟩ := m
                  obtain ⟨h1, h2, d, rfl, l, ro, put, _⟩ := starH_focus H h st hl
                  simp only [repO] at ro; exact ro.1
                have hpos : 0 < tsz P t := by omega
                have hsz : zs.size = tsz P t := by simp at hzl; omega
                obtain ⟨w', r, xt, m'⟩ := store_cells (P := P) cs zs.toList 0 off ecs es H w m hl he (by simpa using k1) (fun k c hk => List.all_eq_true.1 k3 c (List.mem_of_getElem? hk)) p e1
                refine ⟨w', X, ?_, xt, Cx.le_refl X, rfl, ?_⟩
                · simp [Instr.storeAt, Instr.sureAddr, storeVar, run_sizeOf' hpos, Value.cells, hsz, e1, r]
                · have : putElem es i off ecs.length cs = setCells es i (off + 0) cs := by
                    unfold putElem
                    split
                    · rename_i hh
                      obtain ⟨h0, hl'⟩ := hh
                      subst h0
                      exact (setCells_whole 0 [] he rfl hl').symm
                    · rw [Nat.add_zero]
                  rw [this]; exact m'
              · exact trivial
            | _ => exact trivial
          | _ => exact single
      | _ => exact trivial
  | _ => exact trivial

end Go.AM
