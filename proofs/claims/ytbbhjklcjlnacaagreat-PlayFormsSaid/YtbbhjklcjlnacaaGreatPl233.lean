/-
  The keys of an empty map. No condition beyond what each theorem states.
-/
import Derived.Test.YtbbhjklcjlnacaaGreatRows
import Derived.RangeFuncGives
import Derived.RangeFuncLeaves
import Derived.WalkKit
import Derived.OwnWalkIn
import Derived.TacticsInMore
import Derived.LoopNIn
import Derived.LoopIn
/-! The keys of an empty map. -/
namespace Go.Proofs
open Go.RowKit
theorem run_range_empty (W : World) (mb cl : Nat) (hm : W.heap[mb]? = some (.map #[] cl)) : (Instr.range 146 (.map (some mb))).run Tryz.prog W = .ok (.pointer (some ⟨W.heap.size, 0, none⟩)) (W.alloc (.mapIter (some mb) cl #[] cl)) := by
  simp [Instr.range, run_underlying Tryz.underlying146, getObj, Sem.run, hm]
theorem run_next_empty (W : World) (b mb cl : Nat) (ty : TypeId) (hi : W.heap[b]? = some (.mapIter (some mb) cl #[] cl)) (hm : W.heap[mb]? = some (.map #[] cl)) : (Instr.next (.pointer (some ⟨b, 0, none⟩)) false ty).run Tryz.prog W = .ok (.tuple #[.bool false]) W := by
  simp [Instr.next, getObj, choose, Sem.run, hi, hm, Question.forced]
theorem calls233 (W : World) (a : Addr) (mb cl : Nat) (y : Value) (hc : W.cell? a = some (.map (some mb))) (hm : W.heap[mb]? = some (.map #[] cl)) :
    Calls Tryz.prog 233 #[y, .pointer (some a)] W fun e W' => (∃ v, e = .returned v) ∧ Below W.heap.size W W' := by
  have hr := run_range_empty W mb cl hm
  have hlt : mb < W.heap.size := (Array.getElem?_eq_some_iff.1 hm).1
  have hn := run_next_empty (W.alloc (.mapIter (some mb) cl #[] cl)) W.heap.size mb cl 0 (World.alloc_heap_new W _) ((Below.heap_alloc _ _ mb hlt).trans hm)
  go_enter Tryz.func233, Tryz.ntmps233
  go_wp2
  refine wp_loop_once ?_
  go_wp2
  go_end0
  exact ⟨⟨_, rfl⟩, (Below.refl _ W).alloc (Nat.le_refl _) _⟩
theorem calls259 (w : World) (a : Addr) (mb cl : Nat) (hc : w.cell? a = some (.map (some mb))) (hm : w.heap[mb]? = some (.map #[] cl)) :
    Calls Tryz.prog 259 #[.slice none 0 0, .func (.func 233) #[] #[.pointer (some a)]] w fun e w' => e = .returned (.slice none 0 0) ∧ Below w.heap.size w w' := by
  refine (callsIn_wide (n := 3)).1 ?_
  refine callsIn_of_wp_marks Tryz.func259 rfl trivial ?_ rfl
  simp only [Tryz.ntmps259, List.size_toArray, List.length_cons, List.length_nil, Nat.reduceAdd, Nat.reduceSub, Array.replicate_succ, Array.replicate_zero, List.push_toArray, List.append_toArray, List.nil_append, List.cons_append]
  gi_wp2
  refine wpIn_rangeFunc ?_
  intro fn hfn
  obtain ⟨W0, hW0⟩ : ∃ W0, w.alloc (.cells #[.slice none 0 0] 32) = W0 := ⟨_, rfl⟩
  have hs0 : W0.heap.size = w.heap.size + 1 := by rw [← hW0]; simp
  have hv0 : W0.heap[w.heap.size]? = some (.cells #[.slice none 0 0] 32 (0, 0)) := by rw [← hW0]; exact World.alloc_heap_new w _
  have hb0 : Below w.heap.size w W0 := by rw [← hW0]; exact (Below.refl _ w).alloc (Nat.le_refl _) _
  rw [hW0]
  refine ⟨_, _, _, { target := .fn (.func 233) #[.pointer (some a)], args := #[.func (.yield (W0.heap.size + 1)) #[] #[]] }, _, 233, _, _, run_enterLoop_outer _ _ _ _ _, by simp [resolve, go_sem]; rfl, ?_, by simp [invoke, go_sem, Tryz.call233]; exact ⟨rfl, rfl⟩, fun _ => by omega, ?_⟩
  · intro f' _; trivial
  generalize hlr : ({ state := .ready, pending := none, fn := fn, tmps := _, params := _, assign := _, body := _, defers := W0.heap.size } : Loop) = lr
  have hst : lr.state ≠ .busy := by rw [← hlr]; intro h; cases h
  have hpe : lr.pending = none := by rw [← hlr]
  clear hlr
  obtain ⟨W1, hW1⟩ : ∃ W1, (W0.alloc (.deferred (some []))).alloc (.loop lr) = W1 := ⟨_, rfl⟩
  have hold : ∀ k, k < W0.heap.size → W1.heap[k]? = W0.heap[k]? := fun k hk => by
    rw [← hW1]; exact (Below.heap_alloc _ _ k (by simp; omega)).trans (Below.heap_alloc _ _ k hk)
  have hb1 : Below w.heap.size w W1 := by rw [← hW1]; exact (hb0.alloc hb0.size _).alloc (by have := hb0.size; simp; omega) _
  have hs1 : W1.heap.size = W0.heap.size + 2 := by rw [← hW1]; simp
  have hL1 : W1.heap[W0.heap.size + 1]? = some (.loop lr) := by rw [← hW1]; have := World.alloc_heap_new (W0.alloc (.deferred (some []))) (.loop lr); rwa [World.size_alloc] at this
  have hK1 : W1.heap[W0.heap.size]? = some (.deferred (some [])) := by rw [← hW1]; exact (Below.heap_alloc _ _ _ (by simp)).trans (World.alloc_heap_new W0 _)
  rw [hW1]
  have hlt : mb < w.heap.size := (Array.getElem?_eq_some_iff.1 hm).1
  have hla : a.block < w.heap.size := by
    unfold World.cell? at hc
    cases hb : w.heap[a.block]? with
    | none => simp [hb] at hc
    | some o => exact (Array.getElem?_eq_some_iff.1 hb).1
  refine ((callsIn_wide (n := 3 - 1)).2 (calls233 W1 a mb cl _ ((hb1.cell hla).trans hc) ((hb1.block mb hlt).trans hm))).mono ?_
  rintro e W2 ⟨⟨v, rfl⟩, hb2⟩
  have hL2 := (hb2.block _ (by omega)).trans hL1
  have hK2 := (hb2.block _ (by omega)).trans hK1
  have hv2 := ((hb2.block _ (by omega)).trans (hold w.heap.size (by omega))).trans hv0
  have hend := run_endLoop (P := Tryz.prog) hL2 hst
  obtain ⟨W3, hW3⟩ : ∃ W3, W2.putObj (W0.heap.size + 1) (.loop { lr with state := .exhausted }) = W3 := ⟨_, rfl⟩
  rw [hW3, hpe] at hend
  have hv3 : W3.heap[w.heap.size]? = some (.cells #[.slice none 0 0] 32 (0, 0)) := by rw [← hW3]; exact (World.putObj_heap_other (by omega)).trans hv2
  have hK3 : W3.heap[W0.heap.size]? = some (.deferred (some [])) := by rw [← hW3]; exact (World.putObj_heap_other (by omega)).trans hK2
  have hb02 : Below w.heap.size w W2 := hb1.trans (hb2.mono hb1.size)
  have hb3 : Below w.heap.size w W3 := ⟨by rw [← hW3]; exact hb02.os, by rw [← hW3]; exact hb02.tape, by rw [← hW3]; exact hb02.output, by rw [← hW3]; simpa using hb02.size, fun k hk => by rw [← hW3]; exact (World.putObj_heap_other (by omega)).trans (hb02.block k hk)⟩
  have hc3 : W3.cell? ⟨w.heap.size, 0, none⟩ = some (.slice none 0 0) := by simp [World.cell?, hv3]
  refine ⟨none, W3, hend, ?_⟩
  gi_wp2
  rw [← hs0]
  refine ⟨by simp, .inl ⟨_, _, rfl, run_takeDeferred hK3, ?_⟩⟩
  refine ⟨_, results_tmp rfl _ _ _, rfl, ?_⟩
  exact ⟨hb3.os, hb3.tape, hb3.output, by simpa using hb3.size, fun k hk => (World.putObj_heap_other (by omega)).trans (hb3.block k hk)⟩
end Go.Proofs
