/-
  The state of a walk: slots that are known, objects that are known; how it stands for a world. No condition beyond what each theorem states.
-/
import Derived.Test.YtbbhjklcjlnacaaGreatAm2
/-! The state of a walk: slots that are known, objects that are known; how it stands for a world. -/
namespace Go.AM

def alook {α : Type} : List (Nat × α) → Nat → Option α
  | [], _ => none
  | (k, v) :: r, s => if s = k then some v else alook r s
def aset {α : Type} : List (Nat × α) → Nat → α → List (Nat × α)
  | [], _, _ => []
  | (k, v) :: r, s, u => if s = k then (k, u) :: r else (k, v) :: aset r s u
def adel {α : Type} : List (Nat × α) → Nat → List (Nat × α)
  | [], _ => []
  | (k, v) :: r, s => if s = k then r else (k, v) :: adel r s

/-- A block of a part of memory, turned. -/
def PH.upd (h : PH) (b : Nat) (o : Obj) : PH := fun c => if c = b then some o else h c

theorem PH.upd_disj {h k : PH} {b : Nat} {o : Obj} (d : h.disj k) (hb : h b ≠ Option.none) : (h.upd b o).disj k := by
  intro c
  rcases d c with e | e
  · by_cases hc : c = b
    · subst hc; exact absurd e hb
    · left; simp [PH.upd, hc, e]
  · right; exact e
theorem PH.upd_join {h k : PH} {b : Nat} {o : Obj} : (h.upd b o).join k = (h.join k).upd b o := by
  funext c; unfold PH.upd PH.join; by_cases hc : c = b <;> simp [hc]
theorem PH.one_upd {b : Nat} {o o' : Obj} : (PH.one b o).upd b o' = PH.one b o' := by
  funext c; unfold PH.upd PH.one; by_cases hc : c = b <;> simp [hc]

/-- All numbered objects, each by itself. -/
def starH (X : Cx) : List (Nat × AO) → HP
  | [] => HP.emp
  | (id, o) :: r => HP.star (fun h => id < X.n ∧ repO X o (X.σ id) h) (starH X r)

theorem starH_mono {X Y : Cx} (le : X.le Y) : ∀ (H : List (Nat × AO)) (h : PH), starH X H h → starH Y H h
  | [], _, r => r
  | (id, o) :: H, h, ⟨h1, h2, d, e, ⟨l, p⟩, q⟩ => by
    refine ⟨h1, h2, d, e, ⟨Nat.lt_of_lt_of_le l le.n, ?_⟩, starH_mono le H h2 q⟩
    rw [le.σ _ l]; exact repO_mono le _ _ _ p

/-- One object brought to the fore; another one may take its place. -/
theorem starH_focus {X : Cx} {id : Nat} {o : AO} : ∀ (H : List (Nat × AO)) (h : PH), starH X H h → alook H id = some o →
    ∃ h1 h2, h1.disj h2 ∧ h = h1.join h2 ∧ id < X.n ∧ repO X o (X.σ id) h1 ∧
      (∀ Y o' h1', X.le Y → h1'.disj h2 → repO Y o' (X.σ id) h1' → starH Y (aset H id o') (h1'.join h2)) ∧ (∀ Y, X.le Y → starH Y (adel H id) h2)
  | [], _, _, e => by simp [alook] at e
  | (k, v) :: H, h, ⟨h1, h2, d, e1, ⟨l, p⟩, q⟩, e => by
    subst e1
    by_cases hk : id = k
    · subst hk
      simp [alook] at e; subst e
      refine ⟨h1, h2, d, rfl, l, p, fun Y o' h1' le d' p' => ?_, fun Y le => ?_⟩
      · simp only [aset, if_true]
        exact ⟨h1', h2, d', rfl, ⟨Nat.lt_of_lt_of_le l le.n, by rw [le.σ _ l]; exact p'⟩, starH_mono le _ _ q⟩
      · simp only [adel, if_true]; exact starH_mono le _ _ q
    · simp [alook, hk] at e
      obtain ⟨h3, h4, d', rfl, l', p', f, g⟩ := starH_focus H h2 q e
      have dd := PH.disj_join_r.1 d
      refine ⟨h3, h1.join h4, PH.disj_join_r.2 ⟨dd.1.symm, d'⟩, ?_, l', p', fun Y o' h3' le d'' p'' => ?_, fun Y le => ?_⟩
      · rw [← PH.join_assoc, PH.join_comm dd.1, PH.join_assoc]
      · have d3 := PH.disj_join_r.1 d''
        simp only [aset, hk, if_false]
        refine ⟨h1, h3'.join h4, PH.disj_join_r.2 ⟨d3.1.symm, dd.2⟩, ?_, ⟨Nat.lt_of_lt_of_le l le.n, by rw [le.σ _ l]; exact repO_mono le _ _ _ p⟩, f Y o' h3' le d3.2 p''⟩
        rw [← PH.join_assoc, PH.join_comm d3.1, PH.join_assoc]
      · simp only [adel, hk, if_false]
        exact ⟨h1, h4, dd.2, rfl, ⟨Nat.lt_of_lt_of_le l le.n, by rw [le.σ _ l]; exact repO_mono le _ _ _ p⟩, g Y le⟩

/-- The slots that are known. -/
def envR (X : Cx) (env : List (Nat × AV)) (tmps : Array Value) : Prop :=
  ∀ s v, alook env s = some v → ∃ x, tmps[s]? = some x ∧ pureR X v x

theorem envR_mono {X Y : Cx} (le : X.le Y) {env : List (Nat × AV)} {tmps : Array Value} (h : envR X env tmps) : envR Y env tmps :=
  fun s v e => let ⟨x, a, b⟩ := h s v e; ⟨x, a, pureR_mono le _ _ b⟩

/-- What of a world stays, whatever is done. -/
structure Ext (w w' : World) : Prop where
  os : w'.os = w.os
  tape : w'.tape = w.tape
  output : w'.output = w.output
  size : w.heap.size ≤ w'.heap.size
theorem Ext.refl (w : World) : Ext w w := ⟨rfl, rfl, rfl, Nat.le_refl _⟩
theorem Ext.trans {a b c : World} (h : Ext a b) (k : Ext b c) : Ext a c := ⟨k.os.trans h.os, k.tape.trans h.tape, k.output.trans h.output, Nat.le_trans h.size k.size⟩

/-- The objects lie in the world, apart from memory that nobody writes and from what is others'. -/
def Mem (X : Cx) (hf : PH) (H : List (Nat × AO)) (w : World) : Prop :=
  ∃ h, starH X H h ∧ h.disj X.im ∧ h.disj hf ∧ h.inW w ∧ X.im.inW w ∧ hf.inW w ∧ X.im.disj hf

theorem PH.inW_lt {h : PH} {w : World} (k : h.inW w) {b : Nat} (e : h b ≠ Option.none) : b < w.heap.size := by
  cases hb : h b with
  | none => exact absurd hb e
  | some o =>
    have := k b o hb
    exact (Array.getElem?_eq_some_iff.1 this).1

/-- A world that is as another one but for one block. -/
structure Upd (w w' : World) (b : Nat) (o : Obj) : Prop extends Ext w w' where
  here : w'.heap[b]? = some o
  else_ : ∀ c, c ≠ b → w'.heap[c]? = w.heap[c]?

theorem Upd.inW {w w' : World} {b : Nat} {o : Obj} (u : Upd w w' b o) {h : PH} (k : h.inW w) : (h.upd b o).inW w' := by
  intro c x e
  by_cases hc : c = b
  · subst hc; simp [PH.upd] at e; subst e; exact u.here
  · simp [PH.upd, hc] at e; rw [u.else_ c hc]; exact k c x e
theorem Upd.inW_other {w w' : World} {b : Nat} {o : Obj} (u : Upd w w' b o) {h : PH} (k : h.inW w) (hb : h b = Option.none) : h.inW w' := by
  intro c x e
  by_cases hc : c = b
  · subst hc; rw [hb] at e; cases e
  · rw [u.else_ c hc]; exact k c x e

/-- A world with one block more. -/
structure New (w w' : World) (o : Obj) : Prop extends Ext w w' where
  here : w'.heap[w.heap.size]? = some o
  else_ : ∀ c, c < w.heap.size → w'.heap[c]? = w.heap[c]?
theorem New.inW {w w' : World} {o : Obj} (u : New w w' o) {h : PH} (k : h.inW w) : h.inW w' := by
  intro c x e
  rw [u.else_ c (PH.inW_lt k (by rw [e]; simp))]; exact k c x e
theorem New.push (w : World) (o : Obj) : New w { w with heap := w.heap.push o } o :=
  ⟨⟨rfl, rfl, rfl, by simp⟩, by simp, fun c hc => by simp [Array.getElem?_push, Nat.ne_of_lt hc]⟩

theorem Mem.mono_drawn {X : Cx} {hf : PH} {H : List (Nat × AO)} {w : World} (n : Nat) (m : Mem X hf H w) : Mem X hf H { w with drawn := n } := m

/-- Where a row's cell lies. -/
theorem row_focus {X : Cx} {sz : Nat} {es : List AV} {pl : Pl} {h : PH} {i off : Nat} {c : AV} (r : repO X (.row sz es) pl h) (e : getCell es i off = some c) (hc : c.isCell = true) :
    pl.sz = sz ∧ ∃ cs T z h1 h2, (∀ u ∈ cs.toList, u.oneCell' = true) ∧ cs.toList[i * sz + off]? = some z ∧ off < sz ∧ (PH.one pl.blk (.cells cs T (0, 0))).disj h2 ∧ h1.disj h2 ∧ (PH.one pl.blk (.cells cs T (0, 0))).disj h1 ∧
      h = (PH.one pl.blk (.cells cs T (0, 0))).join (h1.join h2) ∧ rep X c z h1 ∧
      ∀ Y c' z' h1', X.le Y → h1'.disj h2 → (PH.one pl.blk (.cells cs T (0, 0))).disj h1' → z'.oneCell' = true → c'.isCell = true → rep Y c' z' h1' →
        repO Y (.row sz (setCell es i off c')) pl ((PH.one pl.blk (.cells (cs.setIfInBounds (i * sz + off) z') T (0, 0))).join (h1'.join h2)) := by
  simp only [repO] at r
  obtain ⟨e1, l, r⟩ := r
  refine ⟨e1, ?_⟩
  rcases r with ⟨z0, _⟩ | ⟨cs, T, ys, oc, sz', tk, h0, h3, d, rfl, rfl, q⟩
  · have : es = [] := by cases es with
      | nil => rfl
      | cons _ _ => simp at l; omega
    subst this; simp [getCell] at e
  · obtain ⟨z, h1, h2, g1, g2, g3, d', rfl, p, f⟩ := repE_focus es i ys h3 q e hc
    have dd := PH.disj_join_r.1 d
    have hl : i * sz + off < ys.length := (List.getElem?_eq_some_iff.1 g1).1
    refine ⟨cs, T, z, h1, h2, oc, ?_, g2, dd.2, d', dd.1, rfl, p, fun Y c' z' h1' le d1 d2 o' oc' p' => ?_⟩
    · rw [← tk, List.getElem?_take_of_lt hl] at g1; exact g1
    · simp only [repO]
      refine ⟨e1, by rw [setCell_length]; exact l, Or.inr ⟨cs.setIfInBounds (i * sz + off) z', T, ys.set (i * sz + off) z', ?_, by simpa using sz', ?_, _, h1'.join h2, PH.disj_join_r.2 ⟨?_, ?_⟩, rfl, rfl, f Y c' z' h1' le d1 o' oc' p'⟩⟩
      · intro u hu
        rw [Array.toList_setIfInBounds] at hu
        rcases List.mem_or_eq_of_mem_set hu with hu | hu
        · exact oc u hu
        · subst hu; exact o'
      · rw [Array.toList_setIfInBounds, List.length_set, List.take_set, tk]
      · intro b; rcases d2 b with e | e
        · left; simp only [PH.one] at e ⊢; by_cases hb : b = pl.blk <;> simp_all
        · right; exact e
      · intro b; rcases dd.2 b with e | e
        · left; simp only [PH.one] at e ⊢; by_cases hb : b = pl.blk <;> simp_all
        · right; exact e

end Go.AM
