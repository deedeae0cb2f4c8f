/-
  A new key in a map with keys of one kind of integer. No condition beyond what each theorem states.
-/
import Derived.Test.YtbbhjklcjlnacaaGreatAm9c
/-! A new key in a map with keys of one kind of integer. -/
namespace Go.AM
variable {P : Program}

def aInsert (P : Program) (t : TypeId) (H : Hp) (n : Nat) (x k v : AV) : AR := match x, k, tsh P t with
  | .mp id, .int kk m, .mp kt _ => match tsh P kt, alook H id with
    | .int _, some (.map ks vs) => if (ks.all (isKey kk)) = true ∧ ks.length = vs.length ∧ v.look = true then (match findI m ks with
      | some _ => .fail
      | none => .ok .top (aset H id (.map (ks ++ [.int kk m]) (vs ++ [v]))) n) else .fail
    | _, _ => .fail
  | _, _, _ => .fail

theorem free_repCs {X : Cx} : ∀ (cs : List AV) (ys : List Value), (cs.all AV.free) = true → pureCs X cs ys → repCs X cs ys PH.none
  | [], ys, _, r => by simp only [pureCs] at r; simp only [repCs, HP.pure]; exact ⟨r, trivial⟩
  | c :: cs, ys, a, r => by
    simp only [List.all_cons, Bool.and_eq_true] at a
    simp only [pureCs] at r
    obtain ⟨z, zs, e, o, p, q⟩ := r
    simp only [repCs, HP.ex]
    exact ⟨z, zs, e, o, PH.none, PH.none, PH.none_disj _, (PH.none_join _).symm, (rep_free a.1).2 ⟨p, rfl⟩, free_repCs cs zs a.2 q⟩
theorem look_rep {X : Cx} {v : AV} {z : Value} (hv : v.look = true) (r : pureR X v z) : rep X v z PH.none := by
  cases v with
  | agg cs =>
    simp only [pureR] at r
    obtain ⟨ys, e, r⟩ := r
    simp only [rep, HP.ex]; exact ⟨ys, e, free_repCs cs _ hv r⟩
  | ownp o => exact absurd hv (by simp [AV.look, AV.free])
  | ownsl o => exact absurd hv (by simp [AV.look, AV.free])
  | ownm o => exact absurd hv (by simp [AV.look, AV.free])
  | tup o => exact absurd hv (by simp [AV.look, AV.free])
  | _ => refine (rep_free ?_).2 ⟨r, rfl⟩; exact hv
theorem repL_snoc {X : Cx} {v : AV} {z : Value} (hv : v.look = true) (r : pureR X v z) : ∀ (vs : List AV) (ys : List Value) (h : PH), repL X vs ys h → repL X (vs ++ [v]) (ys ++ [z]) h
  | [], ys, h, q => by
    simp only [repL, HP.pure] at q
    obtain ⟨rfl, rfl⟩ := q
    simp only [List.nil_append, repL, HP.ex, HP.pure]
    exact ⟨z, [], rfl, PH.none, PH.none, PH.none_disj _, (PH.none_join _).symm, look_rep hv r, rfl, rfl⟩
  | u :: vs, ys, h, q => by
    simp only [repL, HP.ex] at q
    obtain ⟨y, ys', rfl, h1, h2, d, e, p, q⟩ := q
    simp only [List.cons_append, repL, HP.ex]
    exact ⟨y, ys' ++ [z], rfl, h1, h2, d, e, p, repL_snoc hv r vs ys' h2 q⟩

theorem aInsert_good {X : Cx} {hf : PH} {H : Hp} {w : World} (t : TypeId) {a k v : AV} {x y z : Value} (m : Mem X hf H w) (ha : pureR X a x) (hk : pureR X k y) (hv : pureR X v z) : GoodU P (Instr.mapUpdate t x y z) X hf w (aInsert P t H X.n a k v) := by
  unfold aInsert
  split
  · rename_i id kk mm kt et hs
    simp only [pureR] at ha hk
    obtain ⟨hid, rfl⟩ := ha
    subst hk
    split
    · rename_i k0 ks vs hk0 hl
      split
      · rename_i hc
        obtain ⟨hkeys, hlen, hlook⟩ := hc
        obtain ⟨h, st, d1, d2, iw, iwi, iwf⟩ := m
        obtain ⟨h1, h2, d, rfl, l, ro, put, _⟩ := starH_focus H h st hl
        simp only [repO] at ro
        obtain ⟨en, cl, ys, e1, e2, e3, e4, e5, h3, h4, d', rfl, p, q⟩ := ro
        have hone : h3 = PH.one (X.σ id).blk (.map en cl) := p
        subst hone
        have hp : w.heap[(X.σ id).blk]? = some (.map en cl) := iw _ _ (by simp [PH.join, PH.one])
        obtain ⟨nd, ent, cov⟩ := entry_at e4 e5 e1
        have ekeys : ∀ e ∈ en.toList, ∃ z, e.key = .int kk z := fun e he => by
          obtain ⟨j, hj, _⟩ := ent e he
          exact isKey_spec (List.all_eq_true.1 hkeys _ (List.mem_of_getElem? hj))
        have huk := und_of_int hk0
        split
        · exact trivial
        · rename_i hf'
          rcases run_findKey (P := P) (n := mm) huk en.toList ekeys w with ⟨j, e, h1', h2', h3'⟩ | ⟨h1', h2'⟩
          · obtain ⟨j', hj1, hj2⟩ := ent e (List.mem_of_getElem? h1')
            rw [h2'] at hj1
            exact absurd rfl (findI_none ks hkeys hf' _ (List.mem_of_getElem? hj1))
          · let en' : Array MapEntry := en.push { key := .int kk mm, val := z, born := cl }
            let o' : Obj := .map en' (cl + 1)
            let w' : World := { w with heap := w.heap.setIfInBounds (X.σ id).blk o' }
            have hb : (X.σ id).blk < w.heap.size := (Array.getElem?_eq_some_iff.1 hp).1
            have u : Upd w w' (X.σ id).blk o' := by
              refine ⟨⟨rfl, rfl, rfl, by simp [w']⟩, ?_, fun c hc => ?_⟩
              · simp [w', hb]
              · simp only [w']; rw [Array.getElem?_setIfInBounds_ne (Ne.symm hc)]
            have hrun : (Instr.mapUpdate t (.map (some (X.σ id).blk)) (.int kk mm) z).run P w = .ok () w' := by
              simp [Instr.mapUpdate, run_underlying (und_of_mp hs), getObj, setObj, Sem.run, hp, run_checkKey huk, h2', w', o', en']
            have dj := PH.disj_join.1 d
            rw [PH.join_assoc] at d1 d2 iw
            obtain ⟨q1, q2, q3, q4, q5⟩ := mem_upd u d1 d2 iw iwi iwf.1
            have ro' : repO X (.map (ks ++ [.int kk mm]) (vs ++ [v])) (X.σ id) ((PH.one (X.σ id).blk o').join h4) := by
              simp only [repO]
              refine ⟨en', cl + 1, ys ++ [z], ?_, ?_, ?_, by simp [e4], ?_, PH.one (X.σ id).blk o', h4, one_disj d', rfl, rfl, repL_snoc hlook hv vs ys h4 q⟩
              · simp only [en', Array.toList_push, List.map_append, List.map_cons, List.map_nil]
                rw [List.nodup_append]
                refine ⟨e1, by simp, ?_⟩
                intro a ha b hb
                simp only [List.mem_singleton] at hb
                subst hb
                obtain ⟨e, he, rfl⟩ := List.mem_map.1 ha
                exact h1' e he
              · intro e he
                simp only [en', Array.toList_push, List.mem_append, List.mem_singleton] at he
                rcases he with he | rfl
                · exact Nat.lt_succ_of_lt (e2 e he)
                · exact Nat.lt_succ_self _
              · simp only [en', Array.toList_push, List.map_append, List.map_cons, List.map_nil]
                rw [List.nodup_append]
                refine ⟨e3, by simp, ?_⟩
                intro a ha b hb
                simp only [List.mem_singleton] at hb
                subst hb
                obtain ⟨e, he, rfl⟩ := List.mem_map.1 ha
                exact Nat.ne_of_lt (e2 e he)
              · simp only [en', Array.toList_push, List.map_append, List.map_cons, List.map_nil]
                rw [List.zip_append e4]
                exact List.Perm.append_right _ e5
            have dn : ((PH.one (X.σ id).blk o').join h4).disj h2 := PH.disj_join.2 ⟨one_disj dj.1, dj.2⟩
            refine ⟨w', X, hrun, u.toExt, Cx.le_refl X, rfl, _, put X _ _ (Cx.le_refl X) dn ro', ?_⟩
            rw [PH.join_assoc]
            exact ⟨q1, q2, q3, q4, q5, iwf.2⟩
      · exact trivial
    · exact trivial
  · exact trivial
end Go.AM
