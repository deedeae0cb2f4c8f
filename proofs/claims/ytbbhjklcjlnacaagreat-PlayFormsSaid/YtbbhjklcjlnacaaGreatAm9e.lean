/-
  A slice of bytes as a text. No condition beyond what each theorem states.
-/
import Derived.Test.YtbbhjklcjlnacaaGreatAm9d
import Derived.Laws.BytesString
/-! A slice of bytes as a text. -/
namespace Go.AM
variable {P : Program}

def bytesL : List AV → Option (List Int)
  | [] => some []
  | .int .u8 n :: es => match bytesL es with
    | some ns => some (n :: ns)
    | none => none
  | _ :: _ => none
def textOf (ns : List Int) : ByteArray := ns.foldl (fun r n => r.push (UInt8.ofNat n.toNat)) ByteArray.empty
def aB2S (P : Program) (s t : TypeId) (H : Hp) (n : Nat) (x : AV) : AR := match tsh P s, tsh P t with
  | .sl e, .str => match tsh P e, aSrc H 1 x with
    | .int .u8, some es => match bytesL es with
      | some ns => .ok (.str (textOf ns)) H n
      | none => .fail
    | _, _ => .fail
  | _, _ => .fail

theorem bytesL_pure {X : Cx} : ∀ (es : List AV) (ns : List Int) (zs : List Value), bytesL es = some ns → pureE X 1 es zs → zs = ns.map (Value.int .u8)
  | [], ns, zs, h, p => by simp only [bytesL] at h; cases h; simp only [pureE] at p; simp [p]
  | e :: es, ns, zs, h, p => by
    unfold bytesL at h
    split at h
    · rename_i h0; cases h0
    · rename_i n es' h0
      cases h0
      split at h
      · rename_i ns' h1
        cases h
        simp only [pureE] at p
        obtain ⟨z, zs', rfl, _, _, p1, p2⟩ := p
        simp only [pureR] at p1
        simp [p1, bytesL_pure es ns' zs' h1 p2]
      · cases h
    · cases h

theorem aB2S_good {X : Cx} {hf : PH} {H : Hp} {w : World} (s t : TypeId) {a : AV} {x : Value} (m : Mem X hf H w) (ha : pureR X a x) : Good P (convert s t x) X hf w (aB2S P s t H X.n a) := by
  unfold aB2S
  split
  · rename_i e hs ht
    split
    · rename_i es hu hsrc
      split
      · rename_i ns hb
        obtain ⟨a0, c, news, rfl, pe, src⟩ := aSrc_good (P := P) m hsrc ha
        have hn := bytesL_pure es ns news hb pe
        have hc := src.cells w (fun _ _ => rfl)
        refine ⟨.string (textOf ns), w, X, ?_, Ext.refl w, Cx.le_refl X, rfl, m, rfl⟩
        rw [run_convert_bytes_string w s t e a0 _ c (und_of_sl hs) (und_of_int hu) (und_of_str ht)]
        cases a0 with
        | none =>
          simp only [Builtin.firstCells, Sem.run_pure] at hc
          have : news = [] := by
            injection hc with h1 _
            have := congrArg Array.toList h1; simpa using this.symm
          rw [this] at hn
          have : ns = [] := by cases ns with
            | nil => rfl
            | cons _ _ => simp at hn
          subst this
          simp [Conv.bytesToString, textOf]
        | some p =>
          simp only [Builtin.firstCells, Nat.mul_one] at hc
          rw [hn] at hc
          exact run_bytesToString w p _ c ns hc
      · exact trivial
    · exact trivial
  · exact trivial
end Go.AM
