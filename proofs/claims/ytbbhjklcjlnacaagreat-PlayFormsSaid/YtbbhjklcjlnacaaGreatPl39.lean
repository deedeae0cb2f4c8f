/-
  The field's tables are laid. No condition beyond what each theorem states.
-/
import Derived.Test.YtbbhjklcjlnacaaGreatPlTy
import Derived.Test.YtbbhjklcjlnacaaGreatPlX
import Derived.Test.YtbbhjklcjlnacaaGreatAm23
/-! The field's tables are laid. -/
namespace Go.AM
open Go.Proofs
def fieldZ : List AV := List.replicate 510 (.int .u8 0) ++ List.replicate 256 (.int .i64 0)
@[go_sem] theorem tz135 : tzero Tryz.prog 135 = .agg fieldZ := by kernel_rfl
@[go_sem] theorem fieldZ_len : fieldZ.length = 766 := by kernel_rfl
theorem fieldZ_cells : (fieldZ.all AV.isCell) = true := by kernel_rfl
theorem wrap_small {a : Int} (h0 : 0 ≤ a) (h1 : a < 1000) : IntKind.i64.wrap a = a := by
  unfold IntKind.wrap
  simp [IntKind.signed, IntKind.bits]
  omega
theorem pow_next (x : Int) (h0 : 0 ≤ x) (h1 : x < 256) :
    (0 < (IntKind.i64.wrap (x * 2 ^ min (Int.toNat 1) IntKind.i64.bits)).fdiv (2 ^ min (Int.toNat 8) IntKind.i64.bits) →
      0 ≤ IntKind.i64.wrap ↑(BitVec.ofInt IntKind.i64.bits (IntKind.i64.wrap (x * 2 ^ min (Int.toNat 1) IntKind.i64.bits)) ^^^ BitVec.ofInt IntKind.i64.bits 285).toNat ∧
      IntKind.i64.wrap ↑(BitVec.ofInt IntKind.i64.bits (IntKind.i64.wrap (x * 2 ^ min (Int.toNat 1) IntKind.i64.bits)) ^^^ BitVec.ofInt IntKind.i64.bits 285).toNat < 256) ∧
    ((IntKind.i64.wrap (x * 2 ^ min (Int.toNat 1) IntKind.i64.bits)).fdiv (2 ^ min (Int.toNat 8) IntKind.i64.bits) ≤ 0 →
      0 ≤ IntKind.i64.wrap (x * 2 ^ min (Int.toNat 1) IntKind.i64.bits) ∧ IntKind.i64.wrap (x * 2 ^ min (Int.toNat 1) IntKind.i64.bits) < 256) := by
  have h : ∀ k : Fin 256, (0 < (IntKind.i64.wrap (((k.val : Nat) : Int) * 2 ^ min (Int.toNat 1) IntKind.i64.bits)).fdiv (2 ^ min (Int.toNat 8) IntKind.i64.bits) →
      0 ≤ IntKind.i64.wrap ↑(BitVec.ofInt IntKind.i64.bits (IntKind.i64.wrap (((k.val : Nat) : Int) * 2 ^ min (Int.toNat 1) IntKind.i64.bits)) ^^^ BitVec.ofInt IntKind.i64.bits 285).toNat ∧
      IntKind.i64.wrap ↑(BitVec.ofInt IntKind.i64.bits (IntKind.i64.wrap (((k.val : Nat) : Int) * 2 ^ min (Int.toNat 1) IntKind.i64.bits)) ^^^ BitVec.ofInt IntKind.i64.bits 285).toNat < 256) ∧
    ((IntKind.i64.wrap (((k.val : Nat) : Int) * 2 ^ min (Int.toNat 1) IntKind.i64.bits)).fdiv (2 ^ min (Int.toNat 8) IntKind.i64.bits) ≤ 0 →
      0 ≤ IntKind.i64.wrap (((k.val : Nat) : Int) * 2 ^ min (Int.toNat 1) IntKind.i64.bits) ∧ IntKind.i64.wrap (((k.val : Nat) : Int) * 2 ^ min (Int.toNat 1) IntKind.i64.bits) < 256) := by decide +kernel
  have := h ⟨x.toNat, by omega⟩
  rw [show ((x.toNat : Nat) : Int) = x by omega] at this
  exact this
theorem cell_at {cs : List AV} {i : Nat} (h : (cs.all AV.isCell) = true) (hi : i < cs.length) : (cs[i]?.getD .top).isCell = true := by
  rw [List.getElem?_eq_getElem hi]
  exact List.all_eq_true.1 h _ (List.getElem_mem hi)
theorem set_cells {cs : List AV} {i : Nat} {c : AV} (h : (cs.all AV.isCell) = true) (hc : c.isCell = true) : ((cs.set i c).all AV.isCell) = true := by
  rw [List.all_eq_true] at h ⊢
  intro x hx
  rcases List.mem_or_eq_of_mem_set hx with hx | rfl
  · exact h x hx
  · exact hc
theorem loopStart {G : Go} {KS : List SI} {H : Hp} {n : Nat} (h : ∀ (k : Nat) (E : List (Nat × AV)) (cs : List AV) (x m : Int), m + k = 255 → 0 ≤ m → 0 ≤ x → x < 256 → cs.length = 766 → (cs.all AV.isCell) = true → alook E 1 = some (.ptr n 0 0) → alook E 2 = some (.int .i64 x) → alook E 6 = some (.int .i64 m) →
    ARun G (.code KS ⟨E, (n, .row 766 [.agg cs]) :: H, n + 1⟩)) : ∀ (k : Nat) (E : List (Nat × AV)) (cs : List AV) (x m : Int), m + k = 255 → 0 ≤ m → 0 ≤ x → x < 256 → cs.length = 766 → (cs.all AV.isCell) = true → alook E 1 = some (.ptr n 0 0) → alook E 2 = some (.int .i64 x) → alook E 6 = some (.int .i64 m) →
    ARun G (.code KS ⟨E, (n, .row 766 [.agg cs]) :: H, n + 1⟩) := h
set_option maxRecDepth 100000 in
theorem cal39 (H : Hp) : CalP Tryz.prog 39 [] H (.rop [] 0) H 1 := by
  refine cal_of_arun (dm := false) Tryz.func39 Tryz.ntmps39 ok39 (Nat.le_of_ble_eq_true rfl) fun n hn => ex_go _ 200 _ ?_
  unfold sc39
  simp -implicitDefEqProofs only [go_sem, ↓reduceIte, Nat.reduceEqDiff, reduceCtorEq]
  refine ⟨by simp, ?_⟩
  refine loopStart ?_ 255 _ fieldZ 1 0 rfl (by omega) (by omega) (by omega) fieldZ_len fieldZ_cells rfl rfl rfl
  intro k
  induction k with
  | zero =>
    intro E cs x m hk h0 hx0 hx1 hlen hcells e1 e2 e6
    refine ex_go _ 300 _ ?_
    simp -implicitDefEqProofs only [go_sem, ↓reduceIte, Nat.reduceEqDiff, reduceCtorEq, e1, e2, e6]
    refine exP_intro (fun h => ?_) (fun _ => ?_)
    · exfalso; simp at h; omega
    simp -implicitDefEqProofs only [go_sem, ↓reduceIte, Nat.reduceEqDiff, reduceCtorEq, e1, e2, e6]
    refine afinC _ rc39 ?_
    simp -implicitDefEqProofs only [go_sem, ↓reduceIte, Nat.reduceEqDiff, reduceCtorEq, e1, e2, e6]
    exact ⟨Nat.le_refl _, fun X hf w x m hx p => Mem.rop m p⟩
  | succ k ih =>
    intro E cs x m hk h0 hx0 hx1 hlen hcells e1 e2 e6
    refine ex_go _ 300 _ ?_
    simp -implicitDefEqProofs only [go_sem, ↓reduceIte, Nat.reduceEqDiff, reduceCtorEq, e1, e2, e6]
    refine exP_intro (fun _ => ?_) (fun h => ?_)
    rotate_left
    · exfalso; simp at h; omega
    simp -implicitDefEqProofs only [go_sem, ↓reduceIte, Nat.reduceEqDiff, reduceCtorEq, e1, e2, e6]
    have hw : IntKind.i64.wrap (m + 255) = m + 255 := wrap_small (by omega) (by omega)
    have hw1 : IntKind.i64.wrap (m + 1) = m + 1 := wrap_small (by omega) (by omega)
    have hx := pow_next x hx0 hx1
    refine ⟨⟨by omega, h0, by omega⟩, ⟨by rw [hlen]; omega, cell_at hcells (by rw [hlen]; omega)⟩, ⟨by omega, by rw [hw]; omega, by rw [hw]; omega⟩, ⟨?_, ?_⟩, ⟨by omega, hx0, by omega⟩, ⟨?_, ?_⟩, by omega, by omega, ?_⟩
    · have hA : (IntKind.i64.wrap (m + 255)).toNat * 1 < (cs.set (m.toNat * 1) (.int .u8 (IntKind.u8.wrap x))).length := by rw [List.length_set, hlen, hw]; omega
      exact hA
    · have hB : ((cs.set (m.toNat * 1) (.int .u8 (IntKind.u8.wrap x)))[(IntKind.i64.wrap (m + 255)).toNat * 1]?.getD .top).isCell = true := cell_at (set_cells hcells rfl) (by rw [List.length_set, hlen, hw]; omega)
      exact hB
    · have hA : 510 + x.toNat * 1 < ((cs.set (m.toNat * 1) (.int .u8 (IntKind.u8.wrap x))).set ((IntKind.i64.wrap (m + 255)).toNat * 1) (.int .u8 (IntKind.u8.wrap x))).length := by rw [List.length_set, List.length_set, hlen]; omega
      exact hA
    · have hB : (((cs.set (m.toNat * 1) (.int .u8 (IntKind.u8.wrap x))).set ((IntKind.i64.wrap (m + 255)).toNat * 1) (.int .u8 (IntKind.u8.wrap x)))[510 + x.toNat * 1]?.getD .top).isCell = true := cell_at (set_cells (set_cells hcells rfl) rfl) (by rw [List.length_set, List.length_set, hlen]; omega)
      exact hB
    refine exP_intro (fun hc => ?_) (fun hc => ?_)
    · simp -implicitDefEqProofs only [go_sem, ↓reduceIte, Nat.reduceEqDiff, reduceCtorEq, e1, e2, e6]
      have hx' := hx.1 (of_decide_eq_true hc)
      exact ih _ (((cs.set _ _).set _ _).set _ _) _ _ (by rw [hw1]; omega) (by rw [hw1]; omega) hx'.1 hx'.2 (by simp only [List.length_set]; exact hlen) (set_cells (set_cells (set_cells hcells rfl) rfl) rfl) e1 rfl rfl
    · simp -implicitDefEqProofs only [go_sem, ↓reduceIte, Nat.reduceEqDiff, reduceCtorEq, e1, e2, e6]
      have hx' := hx.2 (Int.not_lt.1 (of_decide_eq_false hc))
      exact ih _ (((cs.set _ _).set _ _).set _ _) _ _ (by rw [hw1]; omega) (by rw [hw1]; omega) hx'.1 hx'.2 (by simp only [List.length_set]; exact hlen) (set_cells (set_cells (set_cells hcells rfl) rfl) rfl) e1 rfl rfl
end Go.AM
