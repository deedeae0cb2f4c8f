/-
  append. No condition beyond what each theorem states.
-/
import Derived.Test.YtbbhjklcjlnacaaGreatAm8
/-! append. -/
namespace Go.AM
variable {P : Program}

theorem repE_append {X : Cx} {sz : Nat} : ∀ (es : List AV) (xs : List Value) (h : PH) (fs : List AV) (zs : List Value), repE X sz es xs h → pureE X sz fs zs → repE X sz (es ++ fs) (xs ++ zs) h
  | [], xs, h, fs, zs, r, p => by
    simp only [repE, HP.pure] at r; obtain ⟨rfl, rfl⟩ := r; simpa using repE_of_pure _ _ p
  | e :: es, xs, h, fs, zs, r, p => by
    cases e with
    | agg cs =>
      simp only [repE, HP.ex] at r
      obtain ⟨y, ys, rfl, l, h1, h2, d, e, p1, p2⟩ := r
      simp only [List.cons_append, repE, HP.ex]
      exact ⟨y, ys ++ zs, by simp, l, h1, h2, d, e, p1, repE_append es ys h2 fs zs p2 p⟩
    | _ =>
      simp only [repE, HP.ex] at r
      obtain ⟨y, ys, rfl, l, o, h1, h2, d, e, p1, p2⟩ := r
      simp only [List.cons_append, repE, HP.ex]
      exact ⟨y, ys ++ zs, by simp, l, o, h1, h2, d, e, p1, repE_append es ys h2 fs zs p2 p⟩

theorem pureCs_of_rep {X : Cx} : ∀ (cs : List AV) (ys : List Value) (h : PH), repCs X cs ys h → cs.all AV.free = true → pureCs X cs ys
  | [], ys, h, r, _ => by simp only [repCs, HP.pure] at r; simp only [pureCs]; exact r.1
  | c :: cs, ys, h, r, f => by
    simp only [List.all_cons, Bool.and_eq_true] at f
    simp only [repCs, HP.ex] at r
    obtain ⟨z, zs, rfl, o, h1, h2, d, e, p, q⟩ := r
    simp only [pureCs]
    exact ⟨z, zs, rfl, o, ((rep_free f.1).1 p).1, pureCs_of_rep cs zs h2 q f.2⟩

theorem pureE_of_rep {X : Cx} {sz : Nat} : ∀ (es : List AV) (ys : List Value) (h : PH) (o l : Nat), repE X sz es ys h → (((es.drop o).take l).all fun e => e.cells.all AV.free) = true →
    pureE X sz ((es.drop o).take l) ((ys.drop (o * sz)).take (l * sz))
  | [], ys, h, o, l, r, _ => by simp only [repE, HP.pure] at r; simp [r.1, pureE]
  | e :: es, ys, h, 0, 0, r, _ => by simp [pureE]
  | e :: es, ys, h, 0, l + 1, r, f => by
    simp only [List.drop_zero, List.take_succ_cons, List.all_cons, Bool.and_eq_true] at f
    have ih := fun (zs : List Value) (h2 : PH) (q : repE X sz es zs h2) => pureE_of_rep es zs h2 0 l q (by simpa using f.2)
    cases e with
    | agg cs =>
      simp only [repE, HP.ex] at r
      obtain ⟨z, zs, rfl, hl, h1, h2, d, e, p, q⟩ := r
      simp only [List.drop_zero, Nat.zero_mul, List.take_succ_cons, pureE]
      refine ⟨z, zs.take (l * sz), ?_, hl, pureCs_of_rep _ _ _ p f.1, by simpa using ih zs h2 q⟩
      rw [show (l + 1) * sz = z.length + l * sz by rw [hl, Nat.add_mul]; omega, List.take_length_add_append]
    | _ =>
      simp only [repE, HP.ex] at r
      obtain ⟨z, zs, rfl, hl, oc, h1, h2, d, e, p, q⟩ := r
      subst hl
      simp only [List.drop_zero, Nat.zero_mul, List.take_succ_cons, pureE]
      have fr := f.1
      simp only [AV.cells, List.all_cons, Bool.and_eq_true] at fr
      refine ⟨z, zs.take (l * 1), by simp, ?_, oc, ((rep_free fr.1).1 p).1, by simpa using ih zs h2 q⟩
      first | trivial | rfl
  | e :: es, ys, h, o + 1, l, r, f => by
    simp only [List.drop_succ_cons] at f ⊢
    cases e with
    | agg cs =>
      simp only [repE, HP.ex] at r
      obtain ⟨z, zs, rfl, hl, h1, h2, d, e, p, q⟩ := r
      rw [show (o + 1) * sz = z.length + o * sz by rw [hl, Nat.add_mul]; omega, List.drop_length_add_append]
      exact pureE_of_rep es zs h2 o l q f
    | _ =>
      simp only [repE, HP.ex] at r
      obtain ⟨z, zs, rfl, hl, oc, h1, h2, d, e, p, q⟩ := r
      subst hl
      have := pureE_of_rep es zs h2 o l q f
      simpa using this

/-- what is read off a slice, in this world and in all whose blocks are these -/
structure Src (P : Program) (w : World) (size : Nat) (x : Value) (news : List Value) (m : Nat) : Prop where
  len : ∀ w', (Builtin.lenOf x).run P w' = .ok m w'
  cells : ∀ w' : World, (∀ b, b < w.heap.size → w'.heap[b]? = w.heap[b]?) → (Builtin.firstCells size m x).run P w' = .ok news.toArray w'
  size : news.length = m * size

theorem src_some {w : World} {size b o m c : Nat} {news : List Value} (hl : news.length = m * size) (h : ∀ j u, news[j]? = some u → ∃ cs T fz, w.heap[b]? = some (.cells cs T fz) ∧ cs.toList[o + j]? = some u) :
    Src P w size (.slice (some ⟨b, o, none⟩) m c) news m := by
  refine ⟨fun w' => by simp [Builtin.lenOf], fun w' hw => ?_, hl⟩
  simp only [Builtin.firstCells]
  rw [← hl]
  refine run_loadCells_zs b o news fun j u hj => ?_
  obtain ⟨cs, T, fz, h1, h2⟩ := h j u hj
  refine cell_of_heap (c := cs) (T := T) (fz := fz) ?_ h2
  rw [hw b (Array.getElem?_eq_some_iff.1 h1).1]; exact h1

theorem src_empty {w : World} {size : Nat} {a : Option Addr} {c : Nat} : Src P w size (.slice a 0 c) [] 0 := by
  refine ⟨fun w' => by simp [Builtin.lenOf], fun w' _ => ?_, by simp⟩
  cases a <;> simp [Builtin.firstCells, loadCells, loadCellsFrom]

theorem aSrc_good {X : Cx} {hf : PH} {H : Hp} {w : World} {sz : Nat} {y : AV} {ys : List AV} {x : Value} (m : Mem X hf H w) (h : aSrc H sz y = some ys) (p : pureR X y x) :
    ∃ a c news, x = .slice a ys.length c ∧ pureE X sz ys news ∧ Src P w sz x news ys.length := by
  cases y <;> simp [aSrc] at h
  case nilsl => subst h; simp only [pureR] at p; subst p; exact ⟨none, 0, [], rfl, by simp [pureE], src_empty⟩
  case imm es =>
    obtain ⟨hz, rfl⟩ := h
    simp only [pureR] at p
    obtain ⟨a, cap, q1, rfl, q3⟩ := p
    rcases q3 with rfl | ⟨b, o, sz', c, T, fz, zs, rfl, him, pe, tk⟩
    · exact ⟨a, cap, [], rfl, by simp [pureE], src_empty⟩
    · cases hes : es with
      | nil => exact ⟨_, cap, [], rfl, by simp [pureE], src_empty⟩
      | cons e0 es' =>
        rw [← hes]
        have hsz : sz' = sz := by
          have h1 := pureE_cells es zs 0 pe (by rw [hes]; rfl)
          have h2 := okHd_get es e0 hz (by rw [hes]; rfl)
          omega
        subst hsz
        refine ⟨_, cap, zs, rfl, pe, src_some (by rw [pureE_len _ _ pe]) fun j u hj => ?_⟩
        obtain ⟨h, st, d1, d2, iw, iwi, iwf⟩ := m
        refine ⟨c, T, fz, iwi _ _ him, ?_⟩
        have lt := (List.getElem?_eq_some_iff.1 hj).1
        rw [← tk, List.getElem?_take_of_lt lt, List.getElem?_drop] at hj
        exact hj
  case sl id off len =>
    cases hl : alook H id with
    | none => simp [hl] at h
    | some o =>
      cases o <;> simp [hl] at h
      rename_i s es
      obtain ⟨⟨rfl, h2, h3⟩, rfl⟩ := h
      simp only [pureR] at p
      obtain ⟨hid, a, q1, q2, rfl, q3⟩ := p
      have hlen : ((es.drop off).take len).length = len := by simp; omega
      rw [hlen]
      have m0 := m
      obtain ⟨h, st, d1, d2, iw, iwi, iwf⟩ := m0
      obtain ⟨h1, h4, d, rfl, l, ro, put, _⟩ := starH_focus H h st hl
      simp only [repO] at ro
      obtain ⟨e1, e2, ro⟩ := ro
      by_cases hlen0 : len = 0
      · subst hlen0
        exact ⟨a, _, [], rfl, by simp [pureE], src_empty⟩
      · rcases ro with ⟨z0, _⟩ | ⟨cs, T, zs, oc, sz', tk, k1, k2, dk, rfl, rfl, q⟩
        · omega
        · have hall : (((es.drop off).take len).all fun e => e.cells.all AV.free) = true := by
            rw [List.all_eq_true]; intro e he; rw [List.all_eq_true]; exact h3 e he
          have pe := pureE_of_rep es zs k2 off len q hall
          have hzl := repE_len _ _ _ q
          rw [q3 (by omega)]
          refine ⟨_, _, (zs.drop (off * s)).take (len * s), rfl, pe, src_some ?_ fun j u hj => ?_⟩
          · rw [pureE_len _ _ pe, hlen]
          · refine ⟨cs, T, (0, 0), iw _ _ (by simp [PH.join, PH.one]), ?_⟩
            have lt := (List.getElem?_eq_some_iff.1 hj).1
            simp only [List.length_take, List.length_drop] at lt
            rw [List.getElem?_take_of_lt (by omega), List.getElem?_drop, ← tk, List.getElem?_take_of_lt (by omega)] at hj
            rw [e1]; exact hj

theorem run_app_room {t ty e : TypeId} {i : TypeInfo} {x : Value} {news : List Value} {m : Nat} (ht : P.underlying t = some (.slice e)) (hi : P.info? e = some i) {w : World} (g sLen sCap : Nat) (cur : Array Value) (T : TypeId) (hg : w.heap[g]? = some (.cells cur T (0, 0)))
    (hx : Src P w i.size x news m) (h1 : ∀ u ∈ news, u.oneCell' = true) (hroom : sLen + m ≤ sCap) (hfit : sLen * i.size + news.length ≤ cur.size) :
    (Builtin.append_ #[t, t] ty #[.slice (some ⟨g, 0, none⟩) sLen sCap, x]).run P w =
      .ok (.slice (some ⟨g, 0, none⟩) (sLen + m) sCap) (w.setRow g (cur.toList.take (sLen * i.size) ++ news ++ cur.toList.drop (sLen * i.size + news.length)).toArray) := by
  have hst := run_storeCells_at P g (sLen * i.size) T news 0 cur w hg (by simpa using hfit) h1
  simp only [Nat.add_zero] at hst
  simp [Builtin.append_, run_underlying ht, sizeOf, typeInfo, hi, hx.len, hroom, hx.cells w (fun _ _ => rfl), addr_add, hst]

theorem run_app_none {t ty e : TypeId} {i : TypeInfo} {x : Value} {news : List Value} (ht : P.underlying t = some (.slice e)) (hi : P.info? e = some i) {w : World} (a : Option Addr) (sLen sCap : Nat)
    (hx : Src P w i.size x news 0) (hroom : sLen ≤ sCap) :
    (Builtin.append_ #[t, t] ty #[.slice a sLen sCap, x]).run P w = .ok (.slice a sLen sCap) w := by
  have hn : news = [] := List.eq_nil_of_length_eq_zero (by simpa using hx.size)
  subst hn
  cases a <;> simp [Builtin.append_, run_underlying ht, sizeOf, typeInfo, hi, hx.len, hroom, hx.cells w (fun _ _ => rfl), storeCells]

theorem run_app_grow {t ty e : TypeId} {i : TypeInfo} {z : Value} {x : Value} {news olds : List Value} {m : Nat} (ht : P.underlying t = some (.slice e)) (hi : P.info? e = some i) (hz : i.zero = some z) {w : World} (a : Option Addr) (sLen sCap : Nat)
    (ho : ∀ w' : World, (∀ b, b < w.heap.size → w'.heap[b]? = w.heap[b]?) → (Builtin.firstCells i.size sLen (.slice a sLen sCap)).run P w' = .ok olds.toArray w')
    (hx : Src P w i.size x news m) (hg : sCap < sLen + m) (h63 : ((sLen + m : Nat) : Int) ≤ 9223372036854775807) (hfit : Builtin.nextslicecap (sLen + m) sCap * i.bytes ≤ 281474976710656) :
    ∃ cap, sLen + m ≤ cap ∧ (Builtin.append_ #[t, t] ty #[.slice a sLen sCap, x]).run P w =
      .ok (.slice (some ⟨w.heap.size, 0, none⟩) (sLen + m) cap) (w.drew.alloc (.cells ((olds ++ news).toArray ++ Builtin.zeroCells z.cells (cap - (sLen + m))) e)) := by
  refine ⟨grownCap w (sLen + m) sCap e, grownCap_ge _ _ _ _, ?_⟩
  have hn : ¬ (sLen + m ≤ sCap) := by omega
  have h63' : ¬ (9223372036854775807 < ((sLen : Int) + (m : Int))) := by omega
  have h48' : ¬ (281474976710656 < Builtin.nextslicecap (sLen + m) sCap * i.bytes) := by omega
  have hf := hx.cells w.drew (fun _ _ => rfl)
  have hfo := ho w.drew (fun _ _ => rfl)
  simp [Builtin.append_, run_underlying ht, sizeOf, typeInfo, zeroValue, hi, hz, hx.len, hn, h63', h48', Question.forced, grownCap, hf, hfo, newRow]
  try (congr 2; apply Array.ext'; simp [List.append_assoc])

theorem mem_del {X : Cx} {hf : PH} {H : Hp} {w : World} {id : Nat} {o : AO} (m : Mem X hf H w) (hl : alook H id = some o) : Mem X hf (adel H id) w := by
  obtain ⟨h, st, d1, d2, iw, iwi, iwf⟩ := m
  obtain ⟨h1, h2, d, rfl, l, ro, _, del⟩ := starH_focus H h st hl
  exact ⟨h2, del X (Cx.le_refl X), (PH.disj_join.1 d1).2, (PH.disj_join.1 d2).2, PH.inW_right d iw, iwi, iwf⟩

theorem fresh_block {w : World} {k : PH} (obj : Obj) (hk : k.inW w) : (PH.one w.heap.size obj).disj k := by
  intro b
  by_cases e : b = w.heap.size
  · right
    cases hkb : k b with
    | none => rfl
    | some o' => have := PH.inW_lt hk (b := b) (by rw [hkb]; simp); omega
  · left; simp [PH.one, e]

theorem one_inW_push {w : World} (obj : Obj) : (PH.one w.heap.size obj).inW { w with heap := w.heap.push obj } := by
  intro b x e
  simp only [PH.one] at e
  split at e
  · rename_i hb'; subst hb'; cases e; exact (New.push w obj).here
  · cases e

theorem setRow_upd {w : World} {g : Nat} {cur : Array Value} {T : TypeId} (cells : Array Value) (hg : w.heap[g]? = some (.cells cur T (0, 0))) : Upd w (w.setRow g cells) g (.cells cells T (0, 0)) :=
  ⟨⟨rfl, rfl, rfl, by simp⟩, setRow_heap w g cur _ T _ hg, fun c hc => setRow_other w g c _ hc⟩

theorem toList_setRow_part {cur : Array Value} {xs news : List Value} (h : cur.toList.take xs.length = xs) (hfit : xs.length + news.length ≤ cur.size) :
    (cur.toList.take xs.length ++ news ++ cur.toList.drop (xs.length + news.length)).take (xs ++ news).length = xs ++ news := by
  rw [h, List.take_left' (by simp)]

theorem aApp_good {X : Cx} {hf : PH} {H : Hp} {w : World} (t t' T : TypeId) {a b : AV} {x y : Value} (m : Mem X hf H w) (ha : pureR X a x) (hb : pureR X b y) :
    Good P (Builtin.append_ #[t, t'] T #[x, y]) X hf w (aApp P t t' H X.n a b) := by
  unfold aApp
  split
  · rename_i e hs
    split
    · rename_i hc
      obtain ⟨rfl, b1, b2⟩ := hc
      have hu := und_of_sl hs
      obtain ⟨i, hi, hisz⟩ := info_of_tsz b1
      have hby : i.bytes = tby P e := by simp [tby, hi]
      obtain ⟨z, rz, pz⟩ := run_zeroValue' (P := P) (t := e) rfl (fits_top b2) X
      have hzc := (fits_pure b2 pz).2
      have hiz : i.zero = some z := by
        simp only [zeroValue, typeInfo, hi] at rz
        cases h : i.zero with
        | none => simp [h, hi] at rz
        | some z' => simp [h, hi] at rz; rw [rz]
      split
      · rename_i ys hsrc
        obtain ⟨ya, yc, news, rfl, pys, src⟩ := aSrc_good (P := P) m hsrc hb
        rw [← hisz] at src
        have one := pureE_one _ _ pys
        have fresh : ∀ (es : List AV) (olds : List Value) (cap : Nat) (H' : Hp), pureE X (tsz P e) ys news → es.length + ys.length ≤ cap → olds.length = es.length * tsz P e →
            (∀ h1 : PH, repE X (tsz P e) es olds h1 → h1.disj (PH.one w.heap.size (.cells ((olds ++ news).toArray ++ Builtin.zeroCells z.cells (cap - (es.length + ys.length))) e)) →
              (∀ u ∈ olds, u.oneCell' = true) → repO (X.add ⟨w.heap.size, tsz P e, cap⟩) (.row (tsz P e) (es ++ ys)) ⟨w.heap.size, tsz P e, cap⟩ ((PH.one w.heap.size (.cells ((olds ++ news).toArray ++ Builtin.zeroCells z.cells (cap - (es.length + ys.length))) e)).join h1)) := by
          intro es olds cap H' pys hcap hol h1 r1 d1 one1
          simp only [repO]
          have hnl := pureE_len _ _ pys
          have zc : ∀ k, ∀ u ∈ (Builtin.zeroCells z.cells k).toList, u.oneCell' = true := by
            intro k u hu
            simp only [Builtin.zeroCells, Array.toList_map, Array.toList_range, List.mem_map] at hu
            obtain ⟨j, hj, rfl⟩ := hu
            have hzl := (fits_pure b2 pz)
            have ho := pureE_one _ _ hzl.1
            simp at hj
            have hpos : 0 < z.cells.size := by omega
            have hlt : j % z.cells.size < z.cells.size := Nat.mod_lt _ hpos
            rw [getElem!_pos z.cells _ hlt]
            exact ho _ (by simp)
          refine ⟨trivial, by simpa using hcap, Or.inr ⟨_, e, olds ++ news, ?_, ?_, ?_, _, h1, d1.symm, rfl, rfl, ?_⟩⟩
          · intro u hu
            simp only [Array.toList_append, List.mem_append] at hu
            rcases hu with (hu | hu) | hu
            · exact one1 u hu
            · exact one u hu
            · exact zc _ u hu
          · simp only [Array.size_append, List.size_toArray, List.length_append, size_zeroCells, hzc, hol, hnl, ← Nat.add_mul]
            congr 1; omega
          · simp only [Array.toList_append]
            exact List.take_left' rfl
          · exact repE_append _ _ _ _ _ (repE_mono (X.le_add _) _ _ _ _ r1) (pureE_mono (X.le_add _) _ _ _ pys)
        split
        · -- onto nil
          simp only [pureR] at ha; subst ha
          split
          · rename_i hb
            obtain ⟨c1, c2⟩ := hb
            by_cases h0 : ys.length = 0
            · have hys : ys = [] := List.eq_nil_of_length_eq_zero h0
              subst hys
              have hn : news = [] := by simp only [pureE] at pys; exact pys
              subst hn
              have r := run_app_none (P := P) (ty := T) hu hi (w := w) none 0 0 src (Nat.le_refl _)
              obtain ⟨h, st, d1, d2, iw, iwi, iwf⟩ := m
              refine ⟨_, w, X.add ⟨0, tsz P e, 0⟩, r, Ext.refl w, X.le_add _, rfl, ⟨h, ⟨PH.none, h, PH.none_disj _, (PH.none_join _).symm, ⟨Nat.lt_succ_self _, ?_⟩, starH_mono (X.le_add _) _ _ st⟩, d1, d2, iw, iwi, iwf⟩, ?_⟩
              · rw [Cx.add_here]; simp only [repO]; exact ⟨trivial, Nat.le_refl _, Or.inl ⟨trivial, trivial⟩⟩
              · simp only [pureR, Cx.add_here]; exact ⟨Nat.lt_succ_self _, none, by simp, by simp, rfl, by simp⟩
            · obtain ⟨cap, hcap, r⟩ := run_app_grow (P := P) (ty := T) (olds := []) hu hi hiz (w := w) none 0 0 (fun w' _ => by simp [Builtin.firstCells]) src (by omega) (by omega) (by rw [hby]; exact growslice_fits (by omega) (by rw [Nat.zero_add]; omega))
              simp only [Nat.zero_add] at hcap r
              have rO := fresh [] [] cap H pys (by simpa using hcap) (by simp) PH.none (by simp [repE, HP.pure]) (PH.none_disj _) (by simp)
              simp only [List.nil_append, List.length_nil, Nat.zero_add, PH.join_none] at rO r
              refine ⟨_, _, X.add ⟨w.heap.size, tsz P e, cap⟩, r, ⟨rfl, rfl, rfl, by simp⟩, X.le_add _, rfl, mem_new (m := m.mono_drawn (w.drawn + 1)) rfl rO, ?_⟩
              simp only [pureR, Cx.add_here]
              exact ⟨Nat.lt_succ_self _, some ⟨w.heap.size, 0, none⟩, Nat.zero_le _, by simpa using hcap, by rw [Nat.sub_zero], fun _ => by simp⟩
          · exact trivial
        · -- onto a row of one's own
          rename_i id len
          split
          · rename_i sz es hl
            split
            · rename_i hb
              obtain ⟨rfl, rfl, c1, c2⟩ := hb
              simp only [pureR] at ha
              obtain ⟨hid, a0, q1, q2, rfl, q3⟩ := ha
              rw [Nat.sub_zero] at q2 q3 ⊢
              have m0 := m
              obtain ⟨h, st, d1, d2, iw, iwi, iwf⟩ := m0
              obtain ⟨h1, h2, d, rfl, l, ro, _, del⟩ := starH_focus H h st hl
              simp only [repO] at ro
              obtain ⟨e1, e2, ro⟩ := ro
              have dj := d
              -- what is known of the cells that are there
              rcases ro with ⟨z0, hnone⟩ | ⟨cs, T', olds, oc, szc, tk, k1, k2, dk, hj, hk1, q⟩
              · -- no cell there
                subst hnone
                have hes : es = [] := List.eq_nil_of_length_eq_zero (by omega)
                subst hes
                simp only [List.length_nil, Nat.zero_add, List.nil_append] at c1 c2 ⊢
                by_cases h0 : ys.length = 0
                · have hys : ys = [] := List.eq_nil_of_length_eq_zero h0
                  subst hys
                  have hn : news = [] := by simp only [pureE] at pys; exact pys
                  subst hn
                  have r := run_app_none (P := P) (ty := T) hu hi (w := w) a0 0 (X.σ id).cap src (Nat.zero_le _)
                  obtain ⟨h', st', d1', d2', iw', _, _⟩ := mem_del m hl
                  refine ⟨_, w, X.add ⟨0, tsz P e, 0⟩, r, Ext.refl w, X.le_add _, rfl, ⟨h', ⟨PH.none, h', PH.none_disj _, (PH.none_join _).symm, ⟨Nat.lt_succ_self _, ?_⟩, starH_mono (X.le_add _) _ _ st'⟩, d1', d2', iw', iwi, iwf⟩, ?_⟩
                  · rw [Cx.add_here]; simp only [repO]; exact ⟨trivial, Nat.le_refl _, Or.inl ⟨trivial, trivial⟩⟩
                  · simp only [pureR, Cx.add_here]; exact ⟨Nat.lt_succ_self _, a0, by simp, by simp, by rw [z0]; rfl, by simp⟩
                · obtain ⟨cap, hcap, r⟩ := run_app_grow (P := P) (ty := T) (olds := []) hu hi hiz (w := w) a0 0 (X.σ id).cap (fun w' _ => by cases a0 <;> simp [Builtin.firstCells, loadCells, loadCellsFrom]) src (by omega) (by omega) (by rw [hby]; exact growslice_fits (by omega) (by rw [Nat.zero_add]; omega))
                  simp only [Nat.zero_add] at hcap r
                  have rO := fresh [] [] cap H pys (by simpa using hcap) (by simp) PH.none (by simp [repE, HP.pure]) (PH.none_disj _) (by simp)
                  simp only [List.nil_append, List.length_nil, Nat.zero_add, PH.join_none] at rO r
                  refine ⟨_, _, X.add ⟨w.heap.size, tsz P e, cap⟩, r, ⟨rfl, rfl, rfl, by simp⟩, X.le_add _, rfl, mem_new (m := (mem_del m hl).mono_drawn (w.drawn + 1)) rfl rO, ?_⟩
                  simp only [pureR, Cx.add_here]
                  exact ⟨Nat.lt_succ_self _, some ⟨w.heap.size, 0, none⟩, Nat.zero_le _, by simpa using hcap, by rw [Nat.sub_zero], fun _ => by simp⟩
              · subst hk1; subst hj
                have hol := repE_len _ _ _ q
                have hp : w.heap[(X.σ id).blk]? = some (.cells cs T' (0, 0)) := iw _ _ (by simp [PH.join, PH.one])
                have dd := PH.disj_join.1 d
                have one1 : ∀ u ∈ olds, u.oneCell' = true := fun u hu => oc u (by rw [← tk] at hu; exact List.mem_of_mem_take hu)
                have p1 := PH.disj_join.1 d1; have p2 := PH.disj_join.1 d2
                have p1' := PH.disj_join.1 p1.1; have p2' := PH.disj_join.1 p2.1
                have ik2 : k2.inW w := PH.inW_right dk (PH.inW_left iw)
                have ih2 : h2.inW w := PH.inW_right d iw
                by_cases hroom : es.length + ys.length ≤ (X.σ id).cap
                · by_cases hc0 : (X.σ id).cap = 0
                  · have hy0 : ys = [] := List.eq_nil_of_length_eq_zero (by omega)
                    subst hy0
                    have hn : news = [] := by simp only [pureE] at pys; exact pys
                    subst hn
                    have r := run_app_none (P := P) (ty := T) hu hi (w := w) a0 es.length (X.σ id).cap src (by omega)
                    simp only [List.append_nil, List.length_nil, Nat.add_zero]
                    refine ⟨_, w, X.add (X.σ id), r, Ext.refl w, X.le_add _, rfl, ⟨_, ⟨_, h2, d, rfl, ⟨Nat.lt_succ_self _, ?_⟩, starH_mono (X.le_add _) _ _ (del X (Cx.le_refl X))⟩, d1, d2, iw, iwi, iwf⟩, ?_⟩
                    · rw [Cx.add_here]; refine repO_mono (X.le_add _) _ _ _ ?_
                      simp only [repO]; exact ⟨e1, e2, Or.inr ⟨cs, T', olds, oc, szc, tk, _, k2, dk, rfl, rfl, q⟩⟩
                    · simp only [pureR, Cx.add_here]; exact ⟨Nat.lt_succ_self _, a0, by simp, by simpa using q2, rfl, by simpa using q3⟩
                  · rw [q3 hc0]
                    simp only [Nat.zero_mul]
                    have hnl := pureE_len _ _ pys
                    have r := run_app_room (P := P) (ty := T) hu hi (w := w) (X.σ id).blk es.length (X.σ id).cap cs T' hp src one hroom (by rw [hisz, hnl, szc, ← Nat.add_mul]; exact Nat.mul_le_mul_right _ hroom)
                    have u := setRow_upd (cs.toList.take (es.length * i.size) ++ news ++ cs.toList.drop (es.length * i.size + news.length)).toArray hp
                    have hhh : ((PH.one (X.σ id).blk (.cells cs T' (0, 0))).join (k2.join h2)) = ((PH.one (X.σ id).blk (.cells cs T' (0, 0))).join k2).join h2 := (PH.join_assoc _ _ _).symm
                    obtain ⟨m1, m2, m3, m4, m5⟩ := mem_upd u (by rw [hhh]; exact d1) (by rw [hhh]; exact d2) (by rw [hhh]; exact iw) iwi iwf.1
                    have m5 := And.intro m5 iwf.2
                    have dnew : ∀ k : PH, (PH.one (X.σ id).blk (.cells cs T' (0, 0))).disj k → ∀ o', (PH.one (X.σ id).blk o').disj k := by
                      intro k hk o' b
                      rcases hk b with e | e
                      · left; simp only [PH.one] at e ⊢; by_cases hb : b = (X.σ id).blk <;> simp_all
                      · right; exact e
                    refine ⟨_, _, X.add (X.σ id), r, u.toExt, X.le_add _, rfl, ⟨_, ⟨(PH.one (X.σ id).blk (.cells (cs.toList.take (es.length * i.size) ++ news ++ cs.toList.drop (es.length * i.size + news.length)).toArray T' (0, 0))).join k2, h2, PH.disj_join.2 ⟨dnew _ dd.1 _, dd.2⟩, rfl, ⟨Nat.lt_succ_self _, ?_⟩, starH_mono (X.le_add _) _ _ (del X (Cx.le_refl X))⟩, ?_⟩, ?_⟩
                    · rw [Cx.add_here]; simp only [repO]
                      refine ⟨e1, by simpa using hroom, Or.inr ⟨_, T', olds ++ news, ?_, ?_, ?_, _, k2, dnew _ dk _, rfl, rfl, repE_append _ _ _ _ _ (repE_mono (X.le_add _) _ _ _ _ q) (pureE_mono (X.le_add _) _ _ _ pys)⟩⟩
                      · intro u hu
                        simp only [List.mem_append] at hu
                        rcases hu with (hu | hu) | hu
                        · exact oc u (List.mem_of_mem_take hu)
                        · exact one u hu
                        · exact oc u (List.mem_of_mem_drop hu)
                      · have hle : es.length * i.size + news.length ≤ cs.size := by rw [hisz, hnl, szc, ← Nat.add_mul]; exact Nat.mul_le_mul_right _ hroom
                        simp only [List.size_toArray, List.length_append, List.length_take, List.length_drop, Array.length_toList]
                        rw [← szc]; omega
                      · rw [hisz, ← hol]
                        exact toList_setRow_part tk (by rw [hol, hnl, szc, ← Nat.add_mul]; exact Nat.mul_le_mul_right _ hroom)
                    · rw [PH.join_assoc]; exact ⟨m1, m2, m3, m4, m5⟩
                    · simp only [pureR, Cx.add_here]; exact ⟨Nat.lt_succ_self _, some ⟨(X.σ id).blk, 0, none⟩, by simp, by simpa using hroom, by rw [Nat.sub_zero], by simp⟩
                · have ho : ∀ w' : World, (∀ b, b < w.heap.size → w'.heap[b]? = w.heap[b]?) → (Builtin.firstCells i.size es.length (.slice a0 es.length (X.σ id).cap)).run P w' = .ok olds.toArray w' := by
                    intro w' hw
                    by_cases hc0 : (X.σ id).cap = 0
                    · have : olds = [] := List.eq_nil_of_length_eq_zero (by rw [hol, show es.length = 0 by omega, Nat.zero_mul])
                      subst this
                      have : es.length = 0 := by omega
                      rw [this]
                      cases a0 <;> simp [Builtin.firstCells, loadCells, loadCellsFrom]
                    · rw [q3 hc0]
                      simp only [Builtin.firstCells]
                      rw [hisz, ← hol, Nat.zero_mul]
                      refine run_loadCells_zs _ 0 olds fun j u hj => ?_
                      have lt := (List.getElem?_eq_some_iff.1 hj).1
                      refine cell_of_heap (c := cs) (T := T') (fz := (0, 0)) (by rw [hw _ (Array.getElem?_eq_some_iff.1 hp).1]; exact hp) ?_
                      rw [Nat.zero_add]; rw [← tk, List.getElem?_take_of_lt lt] at hj; exact hj
                  obtain ⟨cap, hcap, r⟩ := run_app_grow (P := P) (ty := T) (olds := olds) hu hi hiz (w := w) a0 es.length (X.σ id).cap ho src (by omega) (by omega) (by rw [hby]; exact growslice_fits (by omega) c1)
                  have fb : ∀ (o : Obj) (k : PH), k.inW w → (PH.one w.heap.size o).disj k := fun o k hk => fresh_block o hk
                  have rO := fresh es olds cap H pys hcap hol k2 q (fb _ _ ik2).symm one1
                  have nw := New.push w.drew (.cells ((olds ++ news).toArray ++ Builtin.zeroCells z.cells (cap - (es.length + ys.length))) e)
                  refine ⟨_, _, X.add ⟨w.heap.size, tsz P e, cap⟩, r, ⟨rfl, rfl, rfl, by simp⟩, X.le_add _, rfl, ⟨_, ⟨(PH.one w.heap.size (.cells ((olds ++ news).toArray ++ Builtin.zeroCells z.cells (cap - (es.length + ys.length))) e)).join k2, h2, PH.disj_join.2 ⟨fb _ _ ih2, dd.2⟩, rfl, ⟨Nat.lt_succ_self _, ?_⟩, starH_mono (X.le_add _) _ _ (del X (Cx.le_refl X))⟩, ?_, ?_, ?_, ?_, ?_⟩, ?_⟩
                  · rw [Cx.add_here]; exact rO
                  · exact PH.disj_join.2 ⟨PH.disj_join.2 ⟨fb _ _ iwi, p1'.2⟩, p1.2⟩
                  · exact PH.disj_join.2 ⟨PH.disj_join.2 ⟨fb _ _ iwf.1, p2'.2⟩, p2.2⟩
                  · exact PH.inW_join ⟨PH.inW_join ⟨one_inW_push (w := w.drew) _, nw.inW (w := w.drew) ik2⟩, nw.inW (w := w.drew) ih2⟩
                  · exact nw.inW (w := w.drew) iwi
                  · exact ⟨nw.inW (w := w.drew) iwf.1, iwf.2⟩
                  · simp only [pureR, Cx.add_here]
                    exact ⟨Nat.lt_succ_self _, some ⟨w.heap.size, 0, none⟩, Nat.zero_le _, by simpa using hcap, by rw [Nat.sub_zero], fun _ => by simp⟩
            · exact trivial
          · exact trivial
        · exact trivial
      · exact trivial
    · exact trivial
  · exact trivial

end Go.AM
