/-
  Collect of an empty map's keys, as a contract. No condition beyond what each theorem states.
-/
import Derived.Test.YtbbhjklcjlnacaaGreatPl233
import Derived.Test.YtbbhjklcjlnacaaGreatAm23
/-! Collect of an empty map's keys, as a contract. -/
namespace Go.Proofs
open Go.RowKit
theorem calls231 (w : World) (a : Addr) (mb cl : Nat) (hc : w.cell? a = some (.map (some mb))) (hm : w.heap[mb]? = some (.map #[] cl)) :
    Calls Tryz.prog 231 #[.func (.func 233) #[] #[.pointer (some a)]] w fun e w' => e = .returned (.slice none 0 0) ∧ Below w.heap.size w w' := by
  go_enter Tryz.func231, Tryz.ntmps231
  go_wp2_with (go_at_call 259; refine (calls259 w a mb cl hc hm).mono ?_; rintro e w' ⟨rfl, hb⟩)
  go_ret
  exact ⟨rfl, hb⟩
end Go.Proofs
namespace Go.AM
open Go.Proofs
theorem cal231 (H : Hp) (id j : Nat) (h1 : alook H id = some (.row 1 [.mp j])) (h2 : alook H j = some (.map [] [])) : CalP Tryz.prog 231 [.fn (.func 233) [] [.ptr id 0 0]] H .nilsl H 0 := by
  intro hmo X hf w vals m p
  have m0 := m
  obtain ⟨lid, e1, z, cz, _, pz⟩ := mem_cell m h1 (i := 0) (off := 0) (c := .mp j) rfl rfl
  simp only [pureR] at pz
  obtain ⟨_, rfl⟩ := pz
  obtain ⟨h, st, d1, d2, iw, iwi, iwf⟩ := m
  obtain ⟨k1, k2, d, rfl, l, ro, _, _⟩ := starH_focus H h st h2
  simp only [repO] at ro
  obtain ⟨en, cl, ys, f1, f2, f3, f4, f5, k3, k4, d', rfl, pp, q⟩ := ro
  have hp : w.heap[(X.σ j).blk]? = some (.map en cl) := iw _ _ (by simp only [HP.one] at pp; simp [pp, PH.join, PH.one])
  have hen : en = #[] := by
    have : ([] : List Value).zip ys = [] := rfl
    rw [this] at f5
    have := f5.length_eq
    simp at this
    exact this
  subst hen
  have hv : vals = #[.func (.func 233) #[] #[.pointer (some ⟨(X.σ id).blk, 0, none⟩)]] := by
    simp only [pureL, pureR] at p
    obtain ⟨z, zs, hz, ⟨a, b, rfl, ha, z2, zs2, hz2, ⟨_, rfl⟩, rfl⟩, rfl⟩ := p
    rw [← Array.toList_inj, hz]
    have ha' : a = #[] := by rw [← Array.toList_inj]; simpa using ha
    have hb' : b = #[.pointer (some ⟨(X.σ id).blk, 0, none⟩)] := by rw [← Array.toList_inj]; simpa using hz2
    rw [ha', hb']
  subst hv
  simp only [Nat.zero_mul, Nat.add_zero] at cz
  refine (calls231 w ⟨(X.σ id).blk, 0, none⟩ (X.σ j).blk cl cz hp).mono ?_
  rintro e w' ⟨rfl, hb⟩
  have keep : ∀ k : PH, k.inW w → k.inW w' := fun k hk b o e => by
    have := hk b o e
    rw [hb.block b (Array.getElem?_eq_some_iff.1 this).1]; exact this
  obtain ⟨h, st, d1, d2, iw, iwi, iwf, dd⟩ := m0
  exact ⟨_, X, rfl, ⟨hb.os, hb.tape, hb.output, hb.size⟩, Cx.le_refl X, rfl, ⟨h, st, d1, d2, keep _ iw, keep _ iwi, keep _ iwf, dd⟩, rfl⟩
end Go.AM
