/-
  Values that lead to no numbered object; what a function hands back; what a call comes to. No condition beyond what each theorem states.
-/
import Derived.Test.YtbbhjklcjlnacaaGreatAm14
/-! Values that lead to no numbered object; what a function hands back; what a call comes to. -/
namespace Go.AM

mutual
def shV : AV → Prop
  | .ptr _ _ _ => False
  | .sl _ _ _ => False
  | .mp _ => False
  | .rop cs _ => shL cs
  | .imm es => shL es
  | .fn _ first caps => shL first ∧ shL caps
  | .iface _ v => shV v
  | .agg cs => shL cs
  | .tup vs => shL vs
  | .ownp o => shO o
  | .ownsl o => shO o
  | .ownm o => shO o
  | _ => True
def shO : AO → Prop
  | .row _ es => shL es
  | .map _ vs => shL vs
  | .mapx _ _ _ vs => shL vs
  | .iter _ _ _ _ => False
def shL : List AV → Prop
  | [] => True
  | v :: vs => shV v ∧ shL vs
end

theorem shL_append (as bs : List AV) : shL (as ++ bs) ↔ shL as ∧ shL bs := by
  induction as with
  | nil => simp [shL]
  | cons a as ih => simp [shL, ih, and_assoc]
theorem shL_map {α : Type} (f : α → AV) (l : List α) : shL (l.map f) ↔ ∀ x ∈ l, shV (f x) := by
  induction l with
  | nil => simp [shL]
  | cons a as ih => simp [shL, ih]
theorem shL_all (l : List AV) : shL l ↔ ∀ x ∈ l, shV x := by simpa using shL_map id l
theorem shL_replicate (n : Nat) (v : AV) (h : shV v) : shL (List.replicate n v) := by
  rw [shL_all]; intro x hx; rw [(List.mem_replicate.1 hx).2]; exact h

mutual
theorem sh_pureR {X Y : Cx} (im : X.im.sub Y.im) : ∀ (v : AV) (x : Value), shV v → pureR X v x → pureR Y v x
  | .bool _, _, _, h => h | .int _ _, _, _, h => h | .str _, _, _, h => h | .nilp, _, _, h => h | .nilsl, _, _, h => h | .nilm, _, _, h => h | .nilfn, _, _, h => h | .nilif, _, _, h => h
  | .ptr _ _ _, _, s, _ => by simp only [shV] at s
  | .sl _ _ _, _, s, _ => by simp only [shV] at s
  | .mp _, _, s, _ => by simp only [shV] at s
  | .rop cs off, x, s, h => by
    simp only [pureR] at h ⊢
    simp only [shV] at s
    obtain ⟨b, o, c, T, fz, ys, e, i, p, q⟩ := h
    exact ⟨b, o, c, T, fz, ys, e, im _ _ i, sh_pureCs im cs ys s p, q⟩
  | .imm es, x, s, h => by
    simp only [pureR] at h ⊢
    simp only [shV] at s
    obtain ⟨a, cap, l, e, q⟩ := h
    refine ⟨a, cap, l, e, q.imp id ?_⟩
    rintro ⟨b, o, sz, c, T, fz, ys, e, i, p, q⟩
    exact ⟨b, o, sz, c, T, fz, ys, e, im _ _ i, sh_pureE im sz es ys s p, q⟩
  | .fn f first caps, x, s, h => by
    simp only [pureR] at h ⊢
    simp only [shV] at s
    obtain ⟨ys, zs, e, p, q⟩ := h
    exact ⟨ys, zs, e, sh_pureL im first _ s.1 p, sh_pureL im caps _ s.2 q⟩
  | .iface t v, x, s, h => by
    simp only [pureR] at h ⊢
    simp only [shV] at s
    obtain ⟨y, e, p⟩ := h
    exact ⟨y, e, sh_pureR im v y s p⟩
  | .agg cs, x, s, h => by
    simp only [pureR] at h ⊢
    simp only [shV] at s
    obtain ⟨y, e, p⟩ := h
    exact ⟨y, e, sh_pureCs im cs _ s p⟩
  | .tup vs, x, s, h => by
    simp only [pureR] at h ⊢
    simp only [shV] at s
    obtain ⟨y, e, p⟩ := h
    exact ⟨y, e, sh_pureL im vs _ s p⟩
  | .ownp _, _, _, h => h | .ownsl _, _, _, h => h | .ownm _, _, _, h => h | .top, _, _, h => h
theorem sh_pureL {X Y : Cx} (im : X.im.sub Y.im) : ∀ (vs : List AV) (ys : List Value), shL vs → pureL X vs ys → pureL Y vs ys
  | [], _, _, h => h
  | v :: vs, ys, s, h => by
    simp only [pureL] at h ⊢
    simp only [shL] at s
    obtain ⟨z, zs, e, p, q⟩ := h
    exact ⟨z, zs, e, sh_pureR im v z s.1 p, sh_pureL im vs zs s.2 q⟩
theorem sh_pureCs {X Y : Cx} (im : X.im.sub Y.im) : ∀ (vs : List AV) (ys : List Value), shL vs → pureCs X vs ys → pureCs Y vs ys
  | [], _, _, h => h
  | v :: vs, ys, s, h => by
    simp only [pureCs] at h ⊢
    simp only [shL] at s
    obtain ⟨z, zs, e, o, p, q⟩ := h
    exact ⟨z, zs, e, o, sh_pureR im v z s.1 p, sh_pureCs im vs zs s.2 q⟩
theorem sh_pureE {X Y : Cx} (im : X.im.sub Y.im) (sz : Nat) : ∀ (vs : List AV) (ys : List Value), shL vs → pureE X sz vs ys → pureE Y sz vs ys
  | [], _, _, h => by simpa only [pureE] using h
  | v :: vs, ys, s, h => by
    simp only [shL] at s
    cases v with
    | agg cs =>
      simp only [pureE] at h ⊢
      obtain ⟨z, zs, e, o, p, q⟩ := h
      exact ⟨z, zs, e, o, sh_pureCs im cs z (by simpa only [shV] using s.1) p, sh_pureE im sz vs zs s.2 q⟩
    | _ =>
      simp only [pureE] at h ⊢
      obtain ⟨z, zs, e, o, o', p, q⟩ := h
      exact ⟨z, zs, e, o, o', sh_pureR im _ z s.1 p, sh_pureE im sz vs zs s.2 q⟩
end

mutual
theorem sh_rep {X Y : Cx} (im : X.im.sub Y.im) : ∀ (v : AV) (x : Value) (h : PH), shV v → rep X v x h → rep Y v x h
  | .ownp o, x, h, s, r => by
    simp only [rep, HP.ex] at r ⊢
    simp only [shV] at s
    obtain ⟨pl, e, p⟩ := r
    exact ⟨pl, e, sh_repO im o pl h s p⟩
  | .ownsl o, x, h, s, r => by
    simp only [rep, HP.ex] at r ⊢
    simp only [shV] at s
    obtain ⟨pl, n, a, q1, q2, q3, q4, p⟩ := r
    exact ⟨pl, n, a, q1, q2, q3, q4, sh_repO im o pl h s p⟩
  | .ownm o, x, h, s, r => by
    simp only [rep, HP.ex] at r ⊢
    simp only [shV] at s
    obtain ⟨pl, e, p⟩ := r
    exact ⟨pl, e, sh_repO im o pl h s p⟩
  | .agg cs, x, h, s, r => by
    simp only [rep, HP.ex] at r ⊢
    simp only [shV] at s
    obtain ⟨ys, e, p⟩ := r
    exact ⟨ys, e, sh_repCs im cs _ h s p⟩
  | .tup vs, x, h, s, r => by
    simp only [rep, HP.ex] at r ⊢
    simp only [shV] at s
    obtain ⟨ys, e, p⟩ := r
    exact ⟨ys, e, sh_repL im vs _ h s p⟩
  | .bool _, x, h, s, r => by simp only [rep, HP.pure] at r ⊢; exact ⟨sh_pureR im _ _ s r.1, r.2⟩
  | .int _ _, x, h, s, r => by simp only [rep, HP.pure] at r ⊢; exact ⟨sh_pureR im _ _ s r.1, r.2⟩
  | .str _, x, h, s, r => by simp only [rep, HP.pure] at r ⊢; exact ⟨sh_pureR im _ _ s r.1, r.2⟩
  | .nilp, x, h, s, r => by simp only [rep, HP.pure] at r ⊢; exact ⟨sh_pureR im _ _ s r.1, r.2⟩
  | .nilsl, x, h, s, r => by simp only [rep, HP.pure] at r ⊢; exact ⟨sh_pureR im _ _ s r.1, r.2⟩
  | .nilm, x, h, s, r => by simp only [rep, HP.pure] at r ⊢; exact ⟨sh_pureR im _ _ s r.1, r.2⟩
  | .nilfn, x, h, s, r => by simp only [rep, HP.pure] at r ⊢; exact ⟨sh_pureR im _ _ s r.1, r.2⟩
  | .nilif, x, h, s, r => by simp only [rep, HP.pure] at r ⊢; exact ⟨sh_pureR im _ _ s r.1, r.2⟩
  | .ptr _ _ _, x, h, s, r => by simp only [rep, HP.pure] at r ⊢; exact ⟨sh_pureR im _ _ s r.1, r.2⟩
  | .rop _ _, x, h, s, r => by simp only [rep, HP.pure] at r ⊢; exact ⟨sh_pureR im _ _ s r.1, r.2⟩
  | .sl _ _ _, x, h, s, r => by simp only [rep, HP.pure] at r ⊢; exact ⟨sh_pureR im _ _ s r.1, r.2⟩
  | .imm _, x, h, s, r => by simp only [rep, HP.pure] at r ⊢; exact ⟨sh_pureR im _ _ s r.1, r.2⟩
  | .mp _, x, h, s, r => by simp only [rep, HP.pure] at r ⊢; exact ⟨sh_pureR im _ _ s r.1, r.2⟩
  | .fn _ _ _, x, h, s, r => by simp only [rep, HP.pure] at r ⊢; exact ⟨sh_pureR im _ _ s r.1, r.2⟩
  | .iface _ _, x, h, s, r => by simp only [rep, HP.pure] at r ⊢; exact ⟨sh_pureR im _ _ s r.1, r.2⟩
  | .top, x, h, s, r => by simp only [rep, HP.pure] at r ⊢; exact ⟨sh_pureR im _ _ s r.1, r.2⟩
theorem sh_repL {X Y : Cx} (im : X.im.sub Y.im) : ∀ (vs : List AV) (ys : List Value) (h : PH), shL vs → repL X vs ys h → repL Y vs ys h
  | [], _, _, _, r => by simpa only [repL] using r
  | v :: vs, ys, h, s, r => by
    simp only [repL, HP.ex] at r ⊢
    simp only [shL] at s
    obtain ⟨z, zs, e, h1, h2, d, e', p, q⟩ := r
    exact ⟨z, zs, e, h1, h2, d, e', sh_rep im v z h1 s.1 p, sh_repL im vs zs h2 s.2 q⟩
theorem sh_repCs {X Y : Cx} (im : X.im.sub Y.im) : ∀ (vs : List AV) (ys : List Value) (h : PH), shL vs → repCs X vs ys h → repCs Y vs ys h
  | [], _, _, _, r => by simpa only [repCs] using r
  | v :: vs, ys, h, s, r => by
    simp only [repCs, HP.ex] at r ⊢
    simp only [shL] at s
    obtain ⟨z, zs, e, o, h1, h2, d, e', p, q⟩ := r
    exact ⟨z, zs, e, o, h1, h2, d, e', sh_rep im v z h1 s.1 p, sh_repCs im vs zs h2 s.2 q⟩
theorem sh_repE {X Y : Cx} (im : X.im.sub Y.im) (sz : Nat) : ∀ (vs : List AV) (ys : List Value) (h : PH), shL vs → repE X sz vs ys h → repE Y sz vs ys h
  | [], _, _, _, r => by simpa only [repE] using r
  | v :: vs, ys, h, s, r => by
    simp only [shL] at s
    cases v with
    | agg cs =>
      simp only [repE, HP.ex] at r ⊢
      obtain ⟨z, zs, e, o, h1, h2, d, e', p, q⟩ := r
      exact ⟨z, zs, e, o, h1, h2, d, e', sh_repCs im cs z h1 (by simpa only [shV] using s.1) p, sh_repE im sz vs zs h2 s.2 q⟩
    | _ =>
      simp only [repE, HP.ex] at r ⊢
      obtain ⟨z, zs, e, o, o', h1, h2, d, e', p, q⟩ := r
      exact ⟨z, zs, e, o, o', h1, h2, d, e', sh_rep im _ z h1 s.1 p, sh_repE im sz vs zs h2 s.2 q⟩
theorem sh_repO {X Y : Cx} (im : X.im.sub Y.im) : ∀ (o : AO) (pl : Pl) (h : PH), shO o → repO X o pl h → repO Y o pl h
  | .row sz es, pl, h, s, r => by
    simp only [repO] at r ⊢
    simp only [shO] at s
    obtain ⟨a, b, r⟩ := r
    refine ⟨a, b, r.imp id ?_⟩
    rintro ⟨c, T, ys, e1, e2, e3, h1, h2, d, e', p, q⟩
    exact ⟨c, T, ys, e1, e2, e3, h1, h2, d, e', p, sh_repE im sz es ys h2 s q⟩
  | .map ks vs, pl, h, s, r => by
    simp only [repO] at r ⊢
    simp only [shO] at s
    obtain ⟨en, cl, ys, e1, e2, e3, e4, e5, h1, h2, d, e', p, q⟩ := r
    exact ⟨en, cl, ys, e1, e2, e3, e4, e5, h1, h2, d, e', p, sh_repL im vs ys h2 s q⟩
  | .mapx clock bs ks vs, pl, h, s, r => by
    simp only [repO] at r ⊢
    simp only [shO] at s
    obtain ⟨en, e1, e2, e3, e4, e5, h1, h2, d, e', p, q⟩ := r
    exact ⟨en, e1, e2, e3, e4, e5, h1, h2, d, e', p, sh_repL im vs _ h2 s q⟩
  | .iter m since seen stepped, pl, h, s, r => by simp only [shO] at s
end

/-! ### Giving objects away with the value that leads to them. -/

theorem starH_take {X : Cx} {id : Nat} {o : AO} {H : Hp} {h : PH} (st : starH X H h) (hl : alook H id = some o) :
    ∃ h1 h2, h1.disj h2 ∧ h = h1.join h2 ∧ id < X.n ∧ repO X o (X.σ id) h1 ∧ starH X (adel H id) h2 := by
  obtain ⟨h1, h2, d, e, l, r, _, del⟩ := starH_focus H h st hl
  exact ⟨h1, h2, d, e, l, r, del X (Cx.le_refl X)⟩

mutual
/-- A value takes along the objects that it leads to. -/
def takeV : AV → Hp → (AV → Hp → Prop) → Prop
  | .ptr id i off, H, K => match i, off, alook H id with
    | 0, 0, some o => K (.ownp o) (adel H id)
    | _, _, _ => False
  | .sl id off len, H, K => match off, alook H id with
    | 0, some (.row sz es) => es.length = len ∧ K (.ownsl (.row sz es)) (adel H id)
    | _, _ => False
  | .mp id, H, K => match alook H id with
    | some o => K (.ownm o) (adel H id)
    | none => False
  | .agg cs, H, K => takeL cs H fun cs H => K (.agg cs) H
  | .tup vs, H, K => takeL vs H fun vs H => K (.tup vs) H
  | v, H, K => K v H
def takeL : List AV → Hp → (List AV → Hp → Prop) → Prop
  | [], H, K => K [] H
  | v :: vs, H, K => takeV v H fun v H => takeL vs H fun vs H => K (v :: vs) H
end

theorem take_free {X : Cx} {v : AV} {x : Value} {H : Hp} {h : PH} {K : AV → Hp → Prop} (hv : v.free = true) (k : K v H) (st : starH X H h) (p : pureR X v x) :
    ∃ v' H' h1 h2, K v' H' ∧ h1.disj h2 ∧ h = h1.join h2 ∧ rep X v' x h1 ∧ starH X H' h2 :=
  ⟨v, H, PH.none, h, k, PH.none_disj _, (PH.none_join _).symm, (rep_free hv).2 ⟨p, rfl⟩, st⟩

mutual
theorem takeV_good {X : Cx} : ∀ (v : AV) (H : Hp) (K : AV → Hp → Prop) (x : Value) (h : PH), takeV v H K → starH X H h → pureR X v x →
    ∃ v' H' h1 h2, K v' H' ∧ h1.disj h2 ∧ h = h1.join h2 ∧ rep X v' x h1 ∧ starH X H' h2
  | .ptr id i off, H, K, x, h, k, st, p => by
    simp only [takeV] at k
    split at k
    · rename_i o hl
      obtain ⟨h1, h2, d, e, l, r, st'⟩ := starH_take st hl
      simp only [pureR] at p
      exact ⟨_, _, h1, h2, k, d, e, by simp only [rep, HP.ex]; exact ⟨_, by simpa using p.2, r⟩, st'⟩
    · exact k.elim
  | .sl id off len, H, K, x, h, k, st, p => by
    simp only [takeV] at k
    split at k
    · rename_i sz es hl
      obtain ⟨h1, h2, d, e, l, r, st'⟩ := starH_take st hl
      simp only [pureR] at p
      obtain ⟨_, a, q1, q2, q3, q4⟩ := p
      refine ⟨_, _, h1, h2, k.2, d, e, ?_, st'⟩
      simp only [rep, HP.ex]
      exact ⟨X.σ id, len, a, by simpa using q2, by simpa using q3, by simpa using q4, ⟨_, _, rfl, k.1⟩, r⟩
    · exact k.elim
  | .mp id, H, K, x, h, k, st, p => by
    simp only [takeV] at k
    split at k
    · rename_i o hl
      obtain ⟨h1, h2, d, e, l, r, st'⟩ := starH_take st hl
      simp only [pureR] at p
      exact ⟨_, _, h1, h2, k, d, e, by simp only [rep, HP.ex]; exact ⟨_, p.2, r⟩, st'⟩
    · exact k.elim
  | .agg cs, H, K, x, h, k, st, p => by
    simp only [takeV] at k
    simp only [pureR] at p
    obtain ⟨ys, rfl, p⟩ := p
    obtain ⟨cs', H', h1, h2, k', d, e, r, st'⟩ := takeCs_good cs H _ ys.toList h k st p
    exact ⟨_, H', h1, h2, k', d, e, by simp only [rep, HP.ex]; exact ⟨ys, rfl, r⟩, st'⟩
  | .tup vs, H, K, x, h, k, st, p => by
    simp only [takeV] at k
    simp only [pureR] at p
    obtain ⟨ys, rfl, p⟩ := p
    obtain ⟨cs', H', h1, h2, k', d, e, r, st'⟩ := takeL_good vs H _ ys.toList h k st p
    exact ⟨_, H', h1, h2, k', d, e, by simp only [rep, HP.ex]; exact ⟨ys, rfl, r⟩, st'⟩
  | .bool _, H, K, x, h, k, st, p => take_free rfl k st p
  | .int _ _, H, K, x, h, k, st, p => take_free rfl k st p
  | .str _, H, K, x, h, k, st, p => take_free rfl k st p
  | .nilp, H, K, x, h, k, st, p => take_free rfl k st p
  | .nilsl, H, K, x, h, k, st, p => take_free rfl k st p
  | .nilm, H, K, x, h, k, st, p => take_free rfl k st p
  | .nilfn, H, K, x, h, k, st, p => take_free rfl k st p
  | .nilif, H, K, x, h, k, st, p => take_free rfl k st p
  | .rop _ _, H, K, x, h, k, st, p => take_free rfl k st p
  | .imm _, H, K, x, h, k, st, p => take_free rfl k st p
  | .fn _ _ _, H, K, x, h, k, st, p => take_free rfl k st p
  | .iface _ _, H, K, x, h, k, st, p => take_free rfl k st p
  | .top, H, K, x, h, k, st, p => take_free rfl k st p
  | .ownp _, H, K, x, h, k, st, p => p.elim
  | .ownsl _, H, K, x, h, k, st, p => p.elim
  | .ownm _, H, K, x, h, k, st, p => p.elim
theorem takeL_good {X : Cx} : ∀ (vs : List AV) (H : Hp) (K : List AV → Hp → Prop) (ys : List Value) (h : PH), takeL vs H K → starH X H h → pureL X vs ys →
    ∃ vs' H' h1 h2, K vs' H' ∧ h1.disj h2 ∧ h = h1.join h2 ∧ repL X vs' ys h1 ∧ starH X H' h2
  | [], H, K, ys, h, k, st, p => by
    simp only [takeL] at k
    simp only [pureL] at p
    exact ⟨[], H, PH.none, h, k, PH.none_disj _, (PH.none_join _).symm, by simp only [repL, HP.pure]; exact ⟨p, trivial⟩, st⟩
  | v :: vs, H, K, ys, h, k, st, p => by
    simp only [takeL] at k
    simp only [pureL] at p
    obtain ⟨z, zs, rfl, p1, p2⟩ := p
    obtain ⟨v', H1, h1, h2, k1, d, rfl, r, st1⟩ := takeV_good v H _ z h k st p1
    obtain ⟨vs', H2, h3, h4, k2, d', rfl, r', st2⟩ := takeL_good vs H1 _ zs h2 k1 st1 p2
    have dd := PH.disj_join_r.1 d
    exact ⟨_, H2, h1.join h3, h4, k2, PH.disj_join.2 ⟨dd.2, d'⟩, (PH.join_assoc _ _ _).symm, by simp only [repL, HP.ex]; exact ⟨z, zs, rfl, h1, h3, dd.1, rfl, r, r'⟩, st2⟩
theorem takeCs_good {X : Cx} : ∀ (vs : List AV) (H : Hp) (K : List AV → Hp → Prop) (ys : List Value) (h : PH), takeL vs H K → starH X H h → pureCs X vs ys →
    ∃ vs' H' h1 h2, K vs' H' ∧ h1.disj h2 ∧ h = h1.join h2 ∧ repCs X vs' ys h1 ∧ starH X H' h2
  | [], H, K, ys, h, k, st, p => by
    simp only [takeL] at k
    simp only [pureCs] at p
    exact ⟨[], H, PH.none, h, k, PH.none_disj _, (PH.none_join _).symm, by simp only [repCs, HP.pure]; exact ⟨p, trivial⟩, st⟩
  | v :: vs, H, K, ys, h, k, st, p => by
    simp only [takeL] at k
    simp only [pureCs] at p
    obtain ⟨z, zs, rfl, o, p1, p2⟩ := p
    obtain ⟨v', H1, h1, h2, k1, d, rfl, r, st1⟩ := takeV_good v H _ z h k st p1
    obtain ⟨vs', H2, h3, h4, k2, d', rfl, r', st2⟩ := takeCs_good vs H1 _ zs h2 k1 st1 p2
    have dd := PH.disj_join_r.1 d
    exact ⟨_, H2, h1.join h3, h4, k2, PH.disj_join.2 ⟨dd.2, d'⟩, (PH.join_assoc _ _ _).symm, by simp only [repCs, HP.ex]; exact ⟨z, zs, rfl, o, h1, h3, dd.1, rfl, r, r'⟩, st2⟩
end

mutual
/-- A value's objects get numbers. -/
def openV : AV → Hp → Nat → (AV → Hp → Nat → Prop) → Prop
  | .ownp o, H, n, K => K (.ptr n 0 0) ((n, o) :: H) (n + 1)
  | .ownsl o, H, n, K => match o with
    | .row sz es => K (.sl n 0 es.length) ((n, .row sz es) :: H) (n + 1)
    | _ => False
  | .ownm o, H, n, K => K (.mp n) ((n, o) :: H) (n + 1)
  | .agg cs, H, n, K => openL cs H n fun cs H n => K (.agg cs) H n
  | .tup vs, H, n, K => openL vs H n fun vs H n => K (.tup vs) H n
  | v, H, n, K => K v H n
def openL : List AV → Hp → Nat → (List AV → Hp → Nat → Prop) → Prop
  | [], H, n, K => K [] H n
  | v :: vs, H, n, K => openV v H n fun v H n => openL vs H n fun vs H n => K (v :: vs) H n
end

theorem open_free {X : Cx} {v : AV} {x : Value} {H : Hp} {h1 h2 : PH} {K : AV → Hp → Nat → Prop} (hv : v.free = true) (k : K v H X.n) (st : starH X H h2) (r : rep X v x h1) (_d : h1.disj h2) :
    ∃ X' v' H', X.le X' ∧ X'.im = X.im ∧ K v' H' X'.n ∧ pureR X' v' x ∧ starH X' H' (h1.join h2) := by
  obtain ⟨p, rfl⟩ := (rep_free hv).1 r
  exact ⟨X, v, H, Cx.le_refl X, rfl, k, p, by rw [PH.none_join]; exact st⟩
theorem open_obj {X : Cx} {o : AO} {pl : Pl} {H : Hp} {h1 h2 : PH} (st : starH X H h2) (r : repO X o pl h1) (d : h1.disj h2) :
    X.le (X.add pl) ∧ (X.add pl).im = X.im ∧ (X.add pl).n = X.n + 1 ∧ (X.add pl).σ X.n = pl ∧ starH (X.add pl) ((X.n, o) :: H) (h1.join h2) :=
  ⟨X.le_add pl, rfl, rfl, X.add_here pl, h1, h2, d, rfl, ⟨Nat.lt_succ_self _, by rw [X.add_here]; exact repO_mono (X.le_add pl) _ _ _ r⟩, starH_mono (X.le_add pl) _ _ st⟩

mutual
theorem openV_good {X : Cx} : ∀ (v : AV) (H : Hp) (K : AV → Hp → Nat → Prop) (x : Value) (h1 h2 : PH), openV v H X.n K → starH X H h2 → rep X v x h1 → h1.disj h2 →
    ∃ X' v' H', X.le X' ∧ X'.im = X.im ∧ K v' H' X'.n ∧ pureR X' v' x ∧ starH X' H' (h1.join h2)
  | .ownp o, H, K, x, h1, h2, k, st, r, d => by
    simp only [openV] at k
    simp only [rep, HP.ex] at r
    obtain ⟨pl, rfl, r⟩ := r
    obtain ⟨l, e1, e2, e3, st'⟩ := open_obj st r d
    exact ⟨_, _, _, l, e1, by rw [e2]; exact k, by simp only [pureR]; rw [e3, e2]; exact ⟨Nat.lt_succ_self _, by simp⟩, st'⟩
  | .ownsl (.row sz es), H, K, x, h1, h2, k, st, r, d => by
    simp only [openV] at k
    simp only [rep, HP.ex] at r
    obtain ⟨pl, n, a, q1, q2, q3, ⟨sz', es', e, q4⟩, r⟩ := r
    cases e
    obtain ⟨l, e1, e2, e3, st'⟩ := open_obj st r d
    refine ⟨_, _, _, l, e1, by rw [e2]; exact k, ?_, st'⟩
    simp only [pureR]; rw [e3, e2]; exact ⟨Nat.lt_succ_self _, a, Nat.zero_le _, by rw [q4]; simpa using q1, by rw [q4]; simpa using q2, by simpa using q3⟩
  | .ownsl (.map _ _), H, K, x, h1, h2, k, st, r, d => by simp only [openV] at k
  | .ownsl (.mapx _ _ _ _), H, K, x, h1, h2, k, st, r, d => by simp only [openV] at k
  | .ownsl (.iter _ _ _ _), H, K, x, h1, h2, k, st, r, d => by simp only [openV] at k
  | .ownm o, H, K, x, h1, h2, k, st, r, d => by
    simp only [openV] at k
    simp only [rep, HP.ex] at r
    obtain ⟨pl, rfl, r⟩ := r
    obtain ⟨l, e1, e2, e3, st'⟩ := open_obj st r d
    exact ⟨_, _, _, l, e1, by rw [e2]; exact k, by simp only [pureR]; rw [e3, e2]; exact ⟨Nat.lt_succ_self _, rfl⟩, st'⟩
  | .agg cs, H, K, x, h1, h2, k, st, r, d => by
    simp only [openV] at k
    simp only [rep, HP.ex] at r
    obtain ⟨ys, rfl, r⟩ := r
    obtain ⟨X', cs', H', l, e, k', p, st'⟩ := openCs_good cs H _ ys.toList h1 h2 k st r d
    exact ⟨X', _, H', l, e, k', by simp only [pureR]; exact ⟨ys, rfl, p⟩, st'⟩
  | .tup vs, H, K, x, h1, h2, k, st, r, d => by
    simp only [openV] at k
    simp only [rep, HP.ex] at r
    obtain ⟨ys, rfl, r⟩ := r
    obtain ⟨X', cs', H', l, e, k', p, st'⟩ := openL_good vs H _ ys.toList h1 h2 k st r d
    exact ⟨X', _, H', l, e, k', by simp only [pureR]; exact ⟨ys, rfl, p⟩, st'⟩
  | .bool _, H, K, x, h1, h2, k, st, r, d => open_free rfl k st r d
  | .int _ _, H, K, x, h1, h2, k, st, r, d => open_free rfl k st r d
  | .str _, H, K, x, h1, h2, k, st, r, d => open_free rfl k st r d
  | .nilp, H, K, x, h1, h2, k, st, r, d => open_free rfl k st r d
  | .nilsl, H, K, x, h1, h2, k, st, r, d => open_free rfl k st r d
  | .nilm, H, K, x, h1, h2, k, st, r, d => open_free rfl k st r d
  | .nilfn, H, K, x, h1, h2, k, st, r, d => open_free rfl k st r d
  | .nilif, H, K, x, h1, h2, k, st, r, d => open_free rfl k st r d
  | .ptr _ _ _, H, K, x, h1, h2, k, st, r, d => open_free rfl k st r d
  | .rop _ _, H, K, x, h1, h2, k, st, r, d => open_free rfl k st r d
  | .sl _ _ _, H, K, x, h1, h2, k, st, r, d => open_free rfl k st r d
  | .imm _, H, K, x, h1, h2, k, st, r, d => open_free rfl k st r d
  | .mp _, H, K, x, h1, h2, k, st, r, d => open_free rfl k st r d
  | .fn _ _ _, H, K, x, h1, h2, k, st, r, d => open_free rfl k st r d
  | .iface _ _, H, K, x, h1, h2, k, st, r, d => open_free rfl k st r d
  | .top, H, K, x, h1, h2, k, st, r, d => open_free rfl k st r d
theorem openL_good {X : Cx} : ∀ (vs : List AV) (H : Hp) (K : List AV → Hp → Nat → Prop) (ys : List Value) (h1 h2 : PH), openL vs H X.n K → starH X H h2 → repL X vs ys h1 → h1.disj h2 →
    ∃ X' vs' H', X.le X' ∧ X'.im = X.im ∧ K vs' H' X'.n ∧ pureL X' vs' ys ∧ starH X' H' (h1.join h2)
  | [], H, K, ys, h1, h2, k, st, r, d => by
    simp only [openL] at k
    simp only [repL, HP.pure] at r
    obtain ⟨e, rfl⟩ := r
    exact ⟨X, [], H, Cx.le_refl X, rfl, k, by simp only [pureL]; exact e, by rw [PH.none_join]; exact st⟩
  | v :: vs, H, K, ys, h1, h2, k, st, r, d => by
    simp only [openL] at k
    simp only [repL, HP.ex] at r
    obtain ⟨z, zs, rfl, h3, h4, d', rfl, r1, r2⟩ := r
    have dd := PH.disj_join.1 d
    obtain ⟨X1, v', H1, l1, e1, k1, p1, st1⟩ := openV_good v H _ z h3 h2 k st r1 dd.1
    obtain ⟨X2, vs', H2, l2, e2, k2, p2, st2⟩ := openL_good (X := X1) vs H1 _ zs h4 (h3.join h2) k1 st1 (repL_mono l1 _ _ _ r2) (PH.disj_join_r.2 ⟨d'.symm, dd.2⟩)
    refine ⟨X2, _, H2, l1.trans l2, e2.trans e1, k2, by simp only [pureL]; exact ⟨z, zs, rfl, pureR_mono l2 _ _ p1, p2⟩, ?_⟩
    rw [PH.join_comm d', PH.join_assoc]; exact st2
theorem openCs_good {X : Cx} : ∀ (vs : List AV) (H : Hp) (K : List AV → Hp → Nat → Prop) (ys : List Value) (h1 h2 : PH), openL vs H X.n K → starH X H h2 → repCs X vs ys h1 → h1.disj h2 →
    ∃ X' vs' H', X.le X' ∧ X'.im = X.im ∧ K vs' H' X'.n ∧ pureCs X' vs' ys ∧ starH X' H' (h1.join h2)
  | [], H, K, ys, h1, h2, k, st, r, d => by
    simp only [openL] at k
    simp only [repCs, HP.pure] at r
    obtain ⟨e, rfl⟩ := r
    exact ⟨X, [], H, Cx.le_refl X, rfl, k, by simp only [pureCs]; exact e, by rw [PH.none_join]; exact st⟩
  | v :: vs, H, K, ys, h1, h2, k, st, r, d => by
    simp only [openL] at k
    simp only [repCs, HP.ex] at r
    obtain ⟨z, zs, rfl, o, h3, h4, d', rfl, r1, r2⟩ := r
    have dd := PH.disj_join.1 d
    obtain ⟨X1, v', H1, l1, e1, k1, p1, st1⟩ := openV_good v H _ z h3 h2 k st r1 dd.1
    obtain ⟨X2, vs', H2, l2, e2, k2, p2, st2⟩ := openCs_good (X := X1) vs H1 _ zs h4 (h3.join h2) k1 st1 (repCs_mono l1 _ _ _ r2) (PH.disj_join_r.2 ⟨d'.symm, dd.2⟩)
    refine ⟨X2, _, H2, l1.trans l2, e2.trans e1, k2, by simp only [pureCs]; exact ⟨z, zs, rfl, o, pureR_mono l2 _ _ p1, p2⟩, ?_⟩
    rw [PH.join_comm d', PH.join_assoc]; exact st2
end
end Go.AM
