/-
  One byte read. No condition beyond what each theorem states.
-/
import Derived.Test.YtbbhjklcjlnacaaGreatPlTy
import Derived.Test.YtbbhjklcjlnacaaGreatPlC0
import Derived.Test.YtbbhjklcjlnacaaGreatAm23
/-! One byte read. -/
namespace Go.AM
open Go.Proofs
theorem byte_or (b : Int) (h0 : 0 ≤ b) (h1 : b < 256) : IntKind.i64.wrap ↑(BitVec.ofInt 64 (IntKind.i64.wrap (0 * 2 ^ min (Int.toNat 8) 64)) ||| BitVec.ofInt 64 (IntKind.i64.wrap b)).toNat = b := by
  have h : ∀ k : Fin 256, IntKind.i64.wrap ↑(BitVec.ofInt 64 (IntKind.i64.wrap (0 * 2 ^ min (Int.toNat 8) 64)) ||| BitVec.ofInt 64 (IntKind.i64.wrap ((k.val : Nat) : Int))).toNat = ((k.val : Nat) : Int) := by decide +kernel
  have := h ⟨b.toNat, by omega⟩
  rw [show ((b.toNat : Nat) : Int) = b by omega] at this
  exact this
set_option maxRecDepth 100000 in
theorem cal20 (H : Hp) (id i2 off len : Nat) (es : List AV) (b : Int) (hb0 : 0 ≤ b) (hb1 : b < 256) (hl : alook H id = some (.row 1 [.agg [.sl i2 off (len + 1)]])) (hl2 : alook H i2 = some (.row 1 es)) (he : es[off]? = some (.int .u8 b)) (hi : ¬ i2 = id) :
    CalP Tryz.prog 20 [.ptr id 0 0, .int .i64 1] H (.int .i64 b) (aset H id (.row 1 [.agg [.sl i2 (off + 1) len]])) 9 := by
  refine cal_of_arun (dm := false) Tryz.func20 Tryz.ntmps20 ok20 (Nat.le_of_ble_eq_true rfl) fun n hn => ex_go _ 200 _ ?_
  have hid := hn id _ hl
  have hid2 := hn i2 _ hl2
  have hne : ¬ id = n := by omega
  have hne2 : ¬ i2 = n := by omega
  have hlen : off < es.length := (List.getElem?_eq_some_iff.1 he).1
  have htd : (es.drop off).take 1 = [.int .u8 b] := by
    rw [List.drop_eq_getElem_cons hlen]
    have : es[off] = .int .u8 b := by rw [List.getElem?_eq_getElem hlen] at he; simpa using he
    simp [this]
  unfold sc20
  simp -implicitDefEqProofs only [go_sem, ↓reduceIte, Nat.reduceEqDiff, reduceCtorEq]
  refine arun_inline rfl Tryz.func36 Tryz.ntmps36 ok36 Tryz.call36 (Nat.le_of_ble_eq_true rfl) (dm := false) (ex_go _ 200 _ ?_)
  unfold sc36
  simp -implicitDefEqProofs only [go_sem, ↓reduceIte, Nat.reduceEqDiff, reduceCtorEq, hl, hl2]
  refine exP_intro (fun h => ?_) (fun h => ?_)
  · exfalso; simp at h; omega
  simp -implicitDefEqProofs only [go_sem, ↓reduceIte, Nat.reduceEqDiff, reduceCtorEq, hl, hl2]
  refine ⟨⟨by omega, by omega, by omega, by omega⟩, ?_⟩
  refine arun_inline rfl Tryz.func63 Tryz.ntmps63 ok63 Tryz.call63 (Nat.le_of_ble_eq_true rfl) (dm := false) (ex_go _ 200 _ ?_)
  unfold sc63
  simp -implicitDefEqProofs only [go_sem, ↓reduceIte, Nat.reduceEqDiff, reduceCtorEq, hl, hl2, Int.toNat_natCast, Int.toNat_one, Nat.sub_zero, Nat.one_ne_zero]
  have hlen' : off + 1 ≤ es.length := hlen
  simp -implicitDefEqProofs only [go_sem, ↓reduceIte, Nat.reduceEqDiff, reduceCtorEq, hl, hl2, hne2, hne, Nat.add_zero, htd, hlen', Bool.and_self, Bool.true_and]
  refine ⟨by simp, by simp, by simp, ?_⟩
  refine afinC _ rc63 ?_
  simp -implicitDefEqProofs only [go_sem, ↓reduceIte, Nat.reduceEqDiff, reduceCtorEq]
  refine ex_go _ 200 _ ?_
  have hne3 : ¬ id = n + 1 := by omega
  have hne4 : ¬ i2 = n + 1 := by omega
  simp -implicitDefEqProofs only [go_sem, ↓reduceIte, Nat.reduceEqDiff, reduceCtorEq, hl, hl2, hne, hne2, hne3, hne4, Nat.add_zero]
  refine ⟨⟨by omega, by omega, by omega, by omega⟩, ⟨by omega, rfl⟩, ?_⟩
  refine afinC _ rc36 ?_
  simp -implicitDefEqProofs only [go_sem, ↓reduceIte, Nat.reduceEqDiff, reduceCtorEq]
  refine ex_go _ 200 _ ?_
  simp -implicitDefEqProofs only [go_sem, ↓reduceIte, Nat.reduceEqDiff, reduceCtorEq, hl, hl2, hne, hne2, hne3, hne4, Nat.add_zero]
  refine ex_go _ 200 _ ?_
  simp -implicitDefEqProofs only [go_sem, ↓reduceIte, Nat.reduceEqDiff, reduceCtorEq, hl, hl2, hne, hne2, hne3, hne4, Nat.add_zero]
  refine exP_intro (fun _ => ?_) (fun h => ?_)
  rotate_left
  · exfalso; revert h; decide
  simp -implicitDefEqProofs only [go_sem, ↓reduceIte, Nat.reduceEqDiff, reduceCtorEq, hl, hl2, hne, hne2, hne3, hne4, Nat.add_zero, Int.toNat_natCast, Int.toNat_zero, Int.toNat_one]
  refine ⟨by simp, by omega, ?_⟩
  refine ex_go _ 200 _ ?_
  simp -implicitDefEqProofs only [go_sem, ↓reduceIte, Nat.reduceEqDiff, reduceCtorEq, hl, hl2, hne, hne2, hne3, hne4, Nat.add_zero, Int.toNat_natCast, Int.toNat_zero, Int.toNat_one]
  refine exP_intro (fun h => ?_) (fun _ => ?_)
  · exfalso; revert h; decide
  simp -implicitDefEqProofs only [go_sem, ↓reduceIte, Nat.reduceEqDiff, reduceCtorEq, hl, hl2, hne, hne2, hne3, hne4, Nat.add_zero, Int.toNat_natCast, Int.toNat_zero, Int.toNat_one]
  refine afinC _ rc20 ?_
  simp -implicitDefEqProofs only [go_sem, ↓reduceIte, Nat.reduceEqDiff, reduceCtorEq]
  refine ⟨by omega, fun X hf w x m hx p => ⟨X, Cx.le_refl X, rfl, Mem.drop (A := [_]) m, ?_⟩⟩
  simp only [pureR] at p ⊢
  exact p.trans (congrArg (Value.int .i64) (byte_or b hb0 hb1))
end Go.AM
