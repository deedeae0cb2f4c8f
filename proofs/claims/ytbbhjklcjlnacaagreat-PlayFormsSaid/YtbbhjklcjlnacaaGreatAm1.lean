/-
  Partial heaps, abstract values, and how they stand for what lies in memory. No condition beyond what each theorem states.
-/
import Derived.WalkKit
import Derived.WideLaws
import Derived.Laws.Cover3
/-! Partial heaps, abstract values, and how they stand for what lies in memory. -/
namespace Go.AM

/-- A part of memory: some of its blocks. -/
abbrev PH := Nat → Option Obj

def PH.none : PH := fun _ => Option.none
def PH.one (b : Nat) (o : Obj) : PH := fun c => if c = b then some o else Option.none
def PH.disj (h k : PH) : Prop := ∀ b, h b = Option.none ∨ k b = Option.none
def PH.join (h k : PH) : PH := fun b => (h b).or (k b)
def PH.sub (h k : PH) : Prop := ∀ b o, h b = some o → k b = some o
/-- The part lies in the world. -/
def PH.inW (h : PH) (w : World) : Prop := ∀ b o, h b = some o → w.heap[b]? = some o

theorem PH.disj.symm {h k : PH} (d : h.disj k) : k.disj h := fun b => (d b).symm
theorem PH.join_none (h : PH) : h.join PH.none = h := by funext b; simp [PH.join, PH.none]
theorem PH.none_join (h : PH) : PH.none.join h = h := by funext b; simp [PH.join, PH.none]
theorem PH.disj_none (h : PH) : h.disj PH.none := fun _ => Or.inr rfl
theorem PH.none_disj (h : PH) : PH.none.disj h := fun _ => Or.inl rfl
theorem PH.join_comm {h k : PH} (d : h.disj k) : h.join k = k.join h := by
  funext b; unfold PH.join
  rcases d b with e | e <;> simp [e]
theorem PH.join_assoc (h k l : PH) : (h.join k).join l = h.join (k.join l) := by
  funext b; unfold PH.join; cases h b <;> simp
theorem PH.disj_join {h k l : PH} : (h.join k).disj l ↔ h.disj l ∧ k.disj l := by
  constructor
  · intro d
    refine ⟨fun b => ?_, fun b => ?_⟩
    · rcases d b with e | e
      · left; unfold PH.join at e; cases hb : h b <;> simp [hb] at e ⊢
      · right; exact e
    · rcases d b with e | e
      · left; unfold PH.join at e; cases hb : h b <;> simp [hb] at e ⊢; exact e
      · right; exact e
  · rintro ⟨d1, d2⟩ b
    rcases d1 b with e | e
    · rcases d2 b with e' | e'
      · left; simp [PH.join, e, e']
      · right; exact e'
    · right; exact e
theorem PH.disj_join_r {h k l : PH} : l.disj (h.join k) ↔ l.disj h ∧ l.disj k := by
  constructor
  · intro d; have := PH.disj_join.1 d.symm; exact ⟨this.1.symm, this.2.symm⟩
  · rintro ⟨a, b⟩; exact (PH.disj_join.2 ⟨a.symm, b.symm⟩).symm
theorem PH.inW_join {h k : PH} {w : World} : (h.inW w ∧ k.inW w) → (h.join k).inW w := by
  rintro ⟨a, c⟩ b o e
  unfold PH.join at e
  cases hb : h b with
  | none => simp [hb] at e; exact c b o e
  | some o' => simp [hb] at e; subst e; exact a b _ hb
theorem PH.inW_left {h k : PH} {w : World} (H : (h.join k).inW w) : h.inW w := by
  intro b o e; exact H b o (by simp [PH.join, e])
theorem PH.inW_right {h k : PH} {w : World} (d : h.disj k) (H : (h.join k).inW w) : k.inW w := by
  intro b o e
  refine H b o ?_
  rcases d b with e' | e'
  · simp [PH.join, e', e]
  · rw [e'] at e; cases e
theorem PH.sub_refl (h : PH) : h.sub h := fun _ _ e => e
theorem PH.sub_trans {h k l : PH} (a : h.sub k) (b : k.sub l) : h.sub l := fun x o e => b x o (a x o e)

/-- What may be said of a part of memory. -/
abbrev HP := PH → Prop
def HP.emp : HP := fun h => h = PH.none
def HP.pure (p : Prop) : HP := fun h => p ∧ h = PH.none
def HP.one (b : Nat) (o : Obj) : HP := fun h => h = PH.one b o
def HP.star (p q : HP) : HP := fun h => ∃ h1 h2, h1.disj h2 ∧ h = h1.join h2 ∧ p h1 ∧ q h2
def HP.ex {α : Type} (p : α → HP) : HP := fun h => ∃ a, p a h

theorem HP.star_comm (p q : HP) : HP.star p q = HP.star q p := by
  funext h; apply propext
  constructor <;> rintro ⟨h1, h2, d, rfl, a, b⟩ <;> exact ⟨h2, h1, d.symm, PH.join_comm d, b, a⟩
theorem HP.star_assoc (p q r : HP) : HP.star (HP.star p q) r = HP.star p (HP.star q r) := by
  funext h; apply propext
  constructor
  · rintro ⟨h1, h2, d, rfl, ⟨h3, h4, d', rfl, a, b⟩, c⟩
    have := PH.disj_join.1 d
    exact ⟨h3, h4.join h2, PH.disj_join_r.2 ⟨d', this.1⟩, PH.join_assoc _ _ _, a, h4, h2, this.2, rfl, b, c⟩
  · rintro ⟨h1, h2, d, rfl, a, h3, h4, d', rfl, b, c⟩
    have := PH.disj_join_r.1 d
    exact ⟨h1.join h3, h4, PH.disj_join.2 ⟨this.2, d'⟩, (PH.join_assoc _ _ _).symm, ⟨h1, h3, this.1, rfl, a, b⟩, c⟩
theorem HP.star_emp (p : HP) : HP.star p HP.emp = p := by
  funext h; apply propext
  constructor
  · rintro ⟨h1, h2, d, rfl, a, rfl⟩; rw [PH.join_none]; exact a
  · intro a; exact ⟨h, PH.none, PH.disj_none _, (PH.join_none _).symm, a, rfl⟩
theorem HP.emp_star (p : HP) : HP.star HP.emp p = p := by rw [HP.star_comm, HP.star_emp]
theorem HP.star_left_comm (p q r : HP) : HP.star p (HP.star q r) = HP.star q (HP.star p r) := by
  rw [← HP.star_assoc, HP.star_comm p q, HP.star_assoc]
theorem HP.star_mono {p p' q q' : HP} (a : ∀ h, p h → p' h) (b : ∀ h, q h → q' h) : ∀ h, HP.star p q h → HP.star p' q' h :=
  fun _ ⟨h1, h2, d, e, x, y⟩ => ⟨h1, h2, d, e, a _ x, b _ y⟩

/-- Where an object lies: its block; of a row, how many cells an element has, and how many elements have room. -/
structure Pl where
  blk : Nat
  sz : Nat
  cap : Nat
  deriving Inhabited

mutual
/-- Abstract values. 'ptr', 'sl', 'mp' lead to objects by number; 'rop', 'imm' to memory that nobody writes any more; 'own..' to an object that nobody else leads to. -/
inductive AV where
  | bool (b : Bool) | int (k : IntKind) (n : Int) | str (s : ByteArray)
  | nilp | nilsl | nilm | nilfn | nilif
  | ptr (id i off : Nat) | rop (cs : List AV) (off : Nat)
  | sl (id off len : Nat) | imm (es : List AV)
  | mp (id : Nat)
  | fn (f : Fn) (first caps : List AV)
  | iface (t : TypeId) (v : AV)
  | agg (cs : List AV) | tup (vs : List AV)
  | ownp (o : AO) | ownsl (o : AO) | ownm (o : AO)
  | top
/-- Abstract objects: a row of elements; a map; a map whose entries' order and stamps are open to see; an iterator over one. -/
inductive AO where
  | row (sz : Nat) (es : List AV)
  | map (ks : List Value) (vs : List AV)
  | mapx (clock : Nat) (bs : List Nat) (ks : List Value) (vs : List AV)
  | iter (m since : Nat) (seen : List Nat) (stepped : Nat)
end

instance : Inhabited AV := ⟨.top⟩
instance : Inhabited AO := ⟨.row 0 []⟩

/-- The cells of an element. -/
def AV.cells : AV → List AV
  | .agg cs => cs
  | v => [v]

/-- What abstract values are read against: memory that nobody writes any more; where the numbered objects lie; how many numbers are given. -/
structure Cx where
  im : PH
  σ : Nat → Pl
  n : Nat

mutual
/-- What a value is, that owns nothing. -/
def pureR (X : Cx) : AV → Value → Prop
  | .bool b, x => x = .bool b
  | .int k n, x => x = .int k n
  | .str s, x => x = .string s
  | .nilp, x => x = .pointer none
  | .nilsl, x => x = .slice none 0 0
  | .nilm, x => x = .map none
  | .nilfn, x => x = .nilFunc
  | .nilif, x => x = .nilIface
  | .ptr id i off, x => id < X.n ∧ x = .pointer (some ⟨(X.σ id).blk, i * (X.σ id).sz + off, none⟩)
  | .rop cs off, x => ∃ b o c T fz ys, x = .pointer (some ⟨b, o + off, none⟩) ∧ X.im b = some (.cells c T fz) ∧ pureCs X cs ys ∧ (c.toList.drop o).take ys.length = ys
  | .sl id off len, x => id < X.n ∧ ∃ a, off ≤ (X.σ id).cap ∧ len ≤ (X.σ id).cap - off ∧ x = .slice a len ((X.σ id).cap - off) ∧ ((X.σ id).cap - off ≠ 0 → a = some ⟨(X.σ id).blk, off * (X.σ id).sz, none⟩)
  | .imm es, x => ∃ a cap, es.length ≤ cap ∧ x = .slice a es.length cap ∧ (es = [] ∨ ∃ b o sz c T fz ys, a = some ⟨b, o, none⟩ ∧ X.im b = some (.cells c T fz) ∧ pureE X sz es ys ∧ (c.toList.drop o).take ys.length = ys)
  | .mp id, x => id < X.n ∧ x = .map (some (X.σ id).blk)
  | .fn f first caps, x => ∃ ys zs, x = .func f ys zs ∧ pureL X first ys.toList ∧ pureL X caps zs.toList
  | .iface t v, x => ∃ y, x = .iface t y ∧ pureR X v y
  | .agg cs, x => ∃ ys, x = .agg ys ∧ pureCs X cs ys.toList
  | .tup vs, x => ∃ ys, x = .tuple ys ∧ pureL X vs ys.toList
  | .ownp _, _ => False
  | .ownsl _, _ => False
  | .ownm _, _ => False
  | .top, _ => True
/-- values, one by one -/
def pureL (X : Cx) : List AV → List Value → Prop
  | [], ys => ys = []
  | v :: vs, ys => ∃ z zs, ys = z :: zs ∧ pureR X v z ∧ pureL X vs zs
/-- values of one cell each -/
def pureCs (X : Cx) : List AV → List Value → Prop
  | [], ys => ys = []
  | v :: vs, ys => ∃ z zs, ys = z :: zs ∧ z.oneCell' = true ∧ pureR X v z ∧ pureCs X vs zs
/-- a row's cells, 'sz' each element -/
def pureE (X : Cx) (sz : Nat) : List AV → List Value → Prop
  | [], ys => ys = []
  | .agg cs :: vs, ys => ∃ zs zs', ys = zs ++ zs' ∧ zs.length = sz ∧ pureCs X cs zs ∧ pureE X sz vs zs'
  | v :: vs, ys => ∃ z zs', ys = z :: zs' ∧ sz = 1 ∧ z.oneCell' = true ∧ pureR X v z ∧ pureE X sz vs zs'
end

mutual
/-- What a value is, and what it owns. -/
def rep (X : Cx) : AV → Value → HP
  | .ownp o, x => HP.ex fun pl : Pl => fun h => x = .pointer (some ⟨pl.blk, 0, none⟩) ∧ repO X o pl h
  | .ownsl o, x => HP.ex fun pl : Pl => fun h => ∃ n a, n ≤ pl.cap ∧ x = .slice a n pl.cap ∧ (pl.cap ≠ 0 → a = some ⟨pl.blk, 0, none⟩) ∧ (∃ sz es, o = .row sz es ∧ es.length = n) ∧ repO X o pl h
  | .ownm o, x => HP.ex fun pl : Pl => fun h => x = .map (some pl.blk) ∧ repO X o pl h
  | .agg cs, x => HP.ex fun ys : Array Value => fun h => x = .agg ys ∧ repCs X cs ys.toList h
  | .tup vs, x => HP.ex fun ys : Array Value => fun h => x = .tuple ys ∧ repL X vs ys.toList h
  | v, x => HP.pure (pureR X v x)
def repL (X : Cx) : List AV → List Value → HP
  | [], ys => HP.pure (ys = [])
  | v :: vs, ys => HP.ex fun z : Value => HP.ex fun zs : List Value => fun h => ys = z :: zs ∧ HP.star (rep X v z) (repL X vs zs) h
def repCs (X : Cx) : List AV → List Value → HP
  | [], ys => HP.pure (ys = [])
  | v :: vs, ys => HP.ex fun z : Value => HP.ex fun zs : List Value => fun h => ys = z :: zs ∧ z.oneCell' = true ∧ HP.star (rep X v z) (repCs X vs zs) h
def repE (X : Cx) (sz : Nat) : List AV → List Value → HP
  | [], ys => HP.pure (ys = [])
  | .agg cs :: vs, ys => HP.ex fun zs : List Value => HP.ex fun zs' : List Value => fun h => ys = zs ++ zs' ∧ zs.length = sz ∧ HP.star (repCs X cs zs) (repE X sz vs zs') h
  | v :: vs, ys => HP.ex fun z : Value => HP.ex fun zs' : List Value => fun h => ys = z :: zs' ∧ sz = 1 ∧ z.oneCell' = true ∧ HP.star (rep X v z) (repE X sz vs zs') h
def repO (X : Cx) : AO → Pl → HP
  | .row sz es, pl => fun h => pl.sz = sz ∧ es.length ≤ pl.cap ∧
      ((pl.cap = 0 ∧ h = PH.none) ∨ (∃ c T ys, (∀ u ∈ c.toList, u.oneCell' = true) ∧ c.size = pl.cap * sz ∧ c.toList.take ys.length = ys ∧ HP.star (HP.one pl.blk (.cells c T (0, 0))) (repE X sz es ys) h))
  | .map ks vs, pl => fun h => ∃ entries clock ys, (entries.toList.map (·.key)).Nodup ∧ (∀ e ∈ entries.toList, e.born < clock) ∧ (entries.toList.map (·.born)).Nodup ∧ ks.length = ys.length ∧
      (entries.toList.map (fun e => (e.key, e.val))).Perm (ks.zip ys) ∧ HP.star (HP.one pl.blk (.map entries clock)) (repL X vs ys) h
  | .mapx clock bs ks vs, pl => fun h => ∃ entries, bs.Nodup ∧ ks.Nodup ∧ (∀ b ∈ bs, b < clock) ∧ entries.toList.map (·.key) = ks ∧ entries.toList.map (·.born) = bs ∧
      HP.star (HP.one pl.blk (.map entries clock)) (repL X vs (entries.toList.map (·.val))) h
  | .iter m since seen stepped, pl => fun h => m < X.n ∧ HP.one pl.blk (.mapIter (some (X.σ m).blk) since seen.toArray stepped) h
end

/-- More is known. -/
structure Cx.le (X Y : Cx) : Prop where
  im : X.im.sub Y.im
  n : X.n ≤ Y.n
  σ : ∀ id, id < X.n → Y.σ id = X.σ id

theorem Cx.le_refl (X : Cx) : X.le X := ⟨PH.sub_refl _, Nat.le_refl _, fun _ _ => rfl⟩
theorem Cx.le.trans {X Y Z : Cx} (a : X.le Y) (b : Y.le Z) : X.le Z :=
  ⟨PH.sub_trans a.im b.im, Nat.le_trans a.n b.n, fun id h => (b.σ id (Nat.lt_of_lt_of_le h a.n)).trans (a.σ id h)⟩

mutual
theorem pureR_mono {X Y : Cx} (le : X.le Y) : ∀ (v : AV) (x : Value), pureR X v x → pureR Y v x
  | .bool _, _, h => h | .int _ _, _, h => h | .str _, _, h => h | .nilp, _, h => h | .nilsl, _, h => h | .nilm, _, h => h | .nilfn, _, h => h | .nilif, _, h => h
  | .ptr id i off, x, h => by simp only [pureR] at h ⊢; rw [le.σ _ h.1]; exact ⟨Nat.lt_of_lt_of_le h.1 le.n, h.2⟩
  | .rop cs off, x, h => by
    simp only [pureR] at h ⊢
    obtain ⟨b, o, c, T, fz, ys, e, i, p, q⟩ := h
    exact ⟨b, o, c, T, fz, ys, e, le.im _ _ i, pureCs_mono le cs ys p, q⟩
  | .sl id off len, x, h => by simp only [pureR] at h ⊢; rw [le.σ _ h.1]; exact ⟨Nat.lt_of_lt_of_le h.1 le.n, h.2⟩
  | .imm es, x, h => by
    simp only [pureR] at h ⊢
    obtain ⟨a, cap, l, e, q⟩ := h
    refine ⟨a, cap, l, e, q.imp id ?_⟩
    rintro ⟨b, o, sz, c, T, fz, ys, e, i, p, q⟩
    exact ⟨b, o, sz, c, T, fz, ys, e, le.im _ _ i, pureE_mono le sz es ys p, q⟩
  | .mp id, x, h => by simp only [pureR] at h ⊢; rw [le.σ _ h.1]; exact ⟨Nat.lt_of_lt_of_le h.1 le.n, h.2⟩
  | .fn f first caps, x, h => by
    simp only [pureR] at h ⊢
    obtain ⟨ys, zs, e, p, q⟩ := h
    exact ⟨ys, zs, e, pureL_mono le first _ p, pureL_mono le caps _ q⟩
  | .iface t v, x, h => by
    simp only [pureR] at h ⊢
    obtain ⟨y, e, p⟩ := h
    exact ⟨y, e, pureR_mono le v y p⟩
  | .agg cs, x, h => by
    simp only [pureR] at h ⊢
    obtain ⟨y, e, p⟩ := h
    exact ⟨y, e, pureCs_mono le cs _ p⟩
  | .tup vs, x, h => by
    simp only [pureR] at h ⊢
    obtain ⟨y, e, p⟩ := h
    exact ⟨y, e, pureL_mono le vs _ p⟩
  | .ownp _, _, h => h | .ownsl _, _, h => h | .ownm _, _, h => h | .top, _, h => h
theorem pureL_mono {X Y : Cx} (le : X.le Y) : ∀ (vs : List AV) (ys : List Value), pureL X vs ys → pureL Y vs ys
  | [], _, h => h
  | v :: vs, ys, h => by
    simp only [pureL] at h ⊢
    obtain ⟨z, zs, e, p, q⟩ := h
    exact ⟨z, zs, e, pureR_mono le v z p, pureL_mono le vs zs q⟩
theorem pureCs_mono {X Y : Cx} (le : X.le Y) : ∀ (vs : List AV) (ys : List Value), pureCs X vs ys → pureCs Y vs ys
  | [], _, h => h
  | v :: vs, ys, h => by
    simp only [pureCs] at h ⊢
    obtain ⟨z, zs, e, o, p, q⟩ := h
    exact ⟨z, zs, e, o, pureR_mono le v z p, pureCs_mono le vs zs q⟩
theorem pureE_mono {X Y : Cx} (le : X.le Y) (sz : Nat) : ∀ (vs : List AV) (ys : List Value), pureE X sz vs ys → pureE Y sz vs ys
  | [], _, h => by simpa only [pureE] using h
  | v :: vs, ys, h => by
    cases v with
    | agg cs =>
      simp only [pureE] at h ⊢
      obtain ⟨z, zs, e, o, p, q⟩ := h
      exact ⟨z, zs, e, o, pureCs_mono le cs z p, pureE_mono le sz vs zs q⟩
    | _ =>
      simp only [pureE] at h ⊢
      obtain ⟨z, zs, e, o, o', p, q⟩ := h
      exact ⟨z, zs, e, o, o', pureR_mono le _ z p, pureE_mono le sz vs zs q⟩
end

mutual
theorem rep_mono {X Y : Cx} (le : X.le Y) : ∀ (v : AV) (x : Value) (h : PH), rep X v x h → rep Y v x h
  | .ownp o, x, h, r => by
    simp only [rep, HP.ex] at r ⊢
    obtain ⟨pl, e, p⟩ := r
    exact ⟨pl, e, repO_mono le o pl h p⟩
  | .ownsl o, x, h, r => by
    simp only [rep, HP.ex] at r ⊢
    obtain ⟨pl, n, a, q1, q2, q3, q4, p⟩ := r
    exact ⟨pl, n, a, q1, q2, q3, q4, repO_mono le o pl h p⟩
  | .ownm o, x, h, r => by
    simp only [rep, HP.ex] at r ⊢
    obtain ⟨pl, e, p⟩ := r
    exact ⟨pl, e, repO_mono le o pl h p⟩
  | .agg cs, x, h, r => by
    simp only [rep, HP.ex] at r ⊢
    obtain ⟨ys, e, p⟩ := r
    exact ⟨ys, e, repCs_mono le cs _ h p⟩
  | .tup vs, x, h, r => by
    simp only [rep, HP.ex] at r ⊢
    obtain ⟨ys, e, p⟩ := r
    exact ⟨ys, e, repL_mono le vs _ h p⟩
  | .bool _, x, h, r => by simp only [rep, HP.pure] at r ⊢; exact ⟨pureR_mono le _ _ r.1, r.2⟩
  | .int _ _, x, h, r => by simp only [rep, HP.pure] at r ⊢; exact ⟨pureR_mono le _ _ r.1, r.2⟩
  | .str _, x, h, r => by simp only [rep, HP.pure] at r ⊢; exact ⟨pureR_mono le _ _ r.1, r.2⟩
  | .nilp, x, h, r => by simp only [rep, HP.pure] at r ⊢; exact ⟨pureR_mono le _ _ r.1, r.2⟩
  | .nilsl, x, h, r => by simp only [rep, HP.pure] at r ⊢; exact ⟨pureR_mono le _ _ r.1, r.2⟩
  | .nilm, x, h, r => by simp only [rep, HP.pure] at r ⊢; exact ⟨pureR_mono le _ _ r.1, r.2⟩
  | .nilfn, x, h, r => by simp only [rep, HP.pure] at r ⊢; exact ⟨pureR_mono le _ _ r.1, r.2⟩
  | .nilif, x, h, r => by simp only [rep, HP.pure] at r ⊢; exact ⟨pureR_mono le _ _ r.1, r.2⟩
  | .ptr _ _ _, x, h, r => by simp only [rep, HP.pure] at r ⊢; exact ⟨pureR_mono le _ _ r.1, r.2⟩
  | .rop _ _, x, h, r => by simp only [rep, HP.pure] at r ⊢; exact ⟨pureR_mono le _ _ r.1, r.2⟩
  | .sl _ _ _, x, h, r => by simp only [rep, HP.pure] at r ⊢; exact ⟨pureR_mono le _ _ r.1, r.2⟩
  | .imm _, x, h, r => by simp only [rep, HP.pure] at r ⊢; exact ⟨pureR_mono le _ _ r.1, r.2⟩
  | .mp _, x, h, r => by simp only [rep, HP.pure] at r ⊢; exact ⟨pureR_mono le _ _ r.1, r.2⟩
  | .fn _ _ _, x, h, r => by simp only [rep, HP.pure] at r ⊢; exact ⟨pureR_mono le _ _ r.1, r.2⟩
  | .iface _ _, x, h, r => by simp only [rep, HP.pure] at r ⊢; exact ⟨pureR_mono le _ _ r.1, r.2⟩
  | .top, x, h, r => by simp only [rep, HP.pure] at r ⊢; exact ⟨pureR_mono le _ _ r.1, r.2⟩
theorem repL_mono {X Y : Cx} (le : X.le Y) : ∀ (vs : List AV) (ys : List Value) (h : PH), repL X vs ys h → repL Y vs ys h
  | [], _, _, r => by simpa only [repL] using r
  | v :: vs, ys, h, r => by
    simp only [repL, HP.ex] at r ⊢
    obtain ⟨z, zs, e, h1, h2, d, e', p, q⟩ := r
    exact ⟨z, zs, e, h1, h2, d, e', rep_mono le v z h1 p, repL_mono le vs zs h2 q⟩
theorem repCs_mono {X Y : Cx} (le : X.le Y) : ∀ (vs : List AV) (ys : List Value) (h : PH), repCs X vs ys h → repCs Y vs ys h
  | [], _, _, r => by simpa only [repCs] using r
  | v :: vs, ys, h, r => by
    simp only [repCs, HP.ex] at r ⊢
    obtain ⟨z, zs, e, o, h1, h2, d, e', p, q⟩ := r
    exact ⟨z, zs, e, o, h1, h2, d, e', rep_mono le v z h1 p, repCs_mono le vs zs h2 q⟩
theorem repE_mono {X Y : Cx} (le : X.le Y) (sz : Nat) : ∀ (vs : List AV) (ys : List Value) (h : PH), repE X sz vs ys h → repE Y sz vs ys h
  | [], _, _, r => by simpa only [repE] using r
  | v :: vs, ys, h, r => by
    cases v with
    | agg cs =>
      simp only [repE, HP.ex] at r ⊢
      obtain ⟨z, zs, e, o, h1, h2, d, e', p, q⟩ := r
      exact ⟨z, zs, e, o, h1, h2, d, e', repCs_mono le cs z h1 p, repE_mono le sz vs zs h2 q⟩
    | _ =>
      simp only [repE, HP.ex] at r ⊢
      obtain ⟨z, zs, e, o, o', h1, h2, d, e', p, q⟩ := r
      exact ⟨z, zs, e, o, o', h1, h2, d, e', rep_mono le _ z h1 p, repE_mono le sz vs zs h2 q⟩
theorem repO_mono {X Y : Cx} (le : X.le Y) : ∀ (o : AO) (pl : Pl) (h : PH), repO X o pl h → repO Y o pl h
  | .row sz es, pl, h, r => by
    simp only [repO] at r ⊢
    obtain ⟨a, b, r⟩ := r
    refine ⟨a, b, r.imp id ?_⟩
    rintro ⟨c, T, ys, e1, e2, e3, h1, h2, d, e', p, q⟩
    exact ⟨c, T, ys, e1, e2, e3, h1, h2, d, e', p, repE_mono le sz es ys h2 q⟩
  | .map ks vs, pl, h, r => by
    simp only [repO] at r ⊢
    obtain ⟨en, cl, ys, e1, e2, e3, e4, e5, h1, h2, d, e', p, q⟩ := r
    exact ⟨en, cl, ys, e1, e2, e3, e4, e5, h1, h2, d, e', p, repL_mono le vs ys h2 q⟩
  | .mapx clock bs ks vs, pl, h, r => by
    simp only [repO] at r ⊢
    obtain ⟨en, e1, e2, e3, e4, e5, h1, h2, d, e', p, q⟩ := r
    exact ⟨en, e1, e2, e3, e4, e5, h1, h2, d, e', p, repL_mono le vs _ h2 q⟩
  | .iter m since seen stepped, pl, h, r => by
    simp only [repO] at r ⊢
    obtain ⟨a, r⟩ := r
    rw [le.σ _ a]
    exact ⟨Nat.lt_of_lt_of_le a le.n, r⟩
end
end Go.AM
