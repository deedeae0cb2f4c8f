/-
  What each operation does to abstract values and objects. No condition beyond what each theorem states.
-/
import Derived.Test.YtbbhjklcjlnacaaGreatAm3
/-! What each operation does to abstract values and objects. -/
namespace Go.AM

/-- A type's shape, as far as it matters. -/
inductive Sh where
  | sl (e : TypeId) | arr (n : Nat) (e : TypeId) | mp (k e : TypeId) | strct | int (k : IntKind) | str | bool | ptr | iface | other
  deriving DecidableEq

section
variable (P : Program)
def tsz (t : TypeId) : Nat := ((P.info? t).map (·.size)).getD 0
def tby (t : TypeId) : Nat := ((P.info? t).map (·.bytes)).getD 0
def tsh (t : TypeId) : Sh := match P.underlying t with
  | some (.slice e) => .sl e | some (.array n e) => .arr n e | some (.map k e) => .mp k e | some (.struct _) => .strct | some (.int k) => .int k | some .string => .str | some .bool => .bool | some (.pointer _) => .ptr | some (.interface _) => .iface | _ => .other
def tagg (t : TypeId) : Option Bool := match P.underlying t with
  | none => none | some (.struct _) => some true | some (.array _ _) => some true | some _ => some false
/-- where a field begins, and how many cells it has -/
def tfo (t : TypeId) (f : Nat) : Option (Nat × Nat) := match P.underlying t with
  | some (.struct fs) => match fs[f]? with
    | some fd => some (fd.offset, tsz P fd.type)
    | none => none
  | _ => none
/-- are all fields' sizes known? -/
def tflds (t : TypeId) : Bool := match P.underlying t with
  | some (.struct fs) => fs.toList.all fun fd => decide (0 < tsz P fd.type)
  | _ => false
/-- is a field an aggregate? -/
def tfa (t : TypeId) (f : Nat) : Option Bool := match P.underlying t with
  | some (.struct fs) => match fs[f]? with
    | some fd => tagg P fd.type
    | none => none
  | _ => none
end

/-- A value that is one cell, surely, and owns nothing. -/
def AV.solid : AV → Bool
  | .agg _ | .tup _ | .ownp _ | .ownsl _ | .ownm _ | .top => false
  | _ => true
/-- no object of its own -/
def AV.free : AV → Bool
  | .ownp _ | .ownsl _ | .ownm _ | .agg _ | .tup _ => false
  | _ => true

def ofCell : Value → AV
  | .bool b => .bool b | .int k n => .int k n | .string s => .str s
  | .pointer none => .nilp | .slice none 0 0 => .nilsl | .map none => .nilm | .nilFunc => .nilfn | .nilIface => .nilif
  | _ => .top
def ofVal : Value → AV
  | .agg cs => if cs.toList.all (·.oneCell') then .agg (cs.toList.map ofCell) else .top
  | v => ofCell v
def tzero (P : Program) (t : TypeId) : AV := match (P.info? t).bind (·.zero) with | some z => ofVal z | none => .top

abbrev Hp := List (Nat × AO)

/-- What comes of an operation. -/
inductive AR where
  | ok (v : AV) (H : Hp) (n : Nat)
  | anyb (H : Hp) (n : Nat)
  | fail

/-- An element's value is 'sz' cells, surely. -/
def AV.fits (v : AV) (sz : Nat) : Bool := match v with
  | .agg cs => cs.length == sz
  | v => v.solid && sz == 1

/-- Several cells of an element, one behind the other, turned. -/
def setCells : List AV → Nat → Nat → List AV → List AV
  | es, _, _, [] => es
  | es, i, off, c :: cs => setCells (setCell es i off c) i (off + 1) cs
/-- an element's cells put in the place of as many; 'k': how many the element has -/
def putElem (es : List AV) (i off k : Nat) (cs : List AV) : List AV := if off = 0 ∧ cs.length = k then es.set i (.agg cs) else setCells es i off cs

section ops
variable (P : Program)

/-- The cell that is read: what it owns is numbered. -/
def aOpen (H : Hp) (n id sz : Nat) (es : List AV) (i off : Nat) : AV → AR
  | .ownp o => .ok (.ptr n 0 0) ((n, o) :: aset H id (.row sz (setCell es i off (.ptr n 0 0)))) (n + 1)
  | .ownsl (.row s l) => .ok (.sl n 0 l.length) ((n, .row s l) :: aset H id (.row sz (setCell es i off (.sl n 0 l.length)))) (n + 1)
  | .ownm o => .ok (.mp n) ((n, o) :: aset H id (.row sz (setCell es i off (.mp n)))) (n + 1)
  | c => if c.free then .ok c H n else .fail

def aLoadRow (ag : Option Bool) (k : Nat) (H : Hp) (n id sz : Nat) (es : List AV) (i off : Nat) (e : Option AV) : AR := match ag, e with
  | some true, some e => if 0 < k ∧ off + k ≤ e.cells.length ∧ (e.cells.all AV.free) = true then .ok (.agg ((e.cells.drop off).take k)) H n else .fail
  | some false, some e => match e.cells[off]? with
      | some c => aOpen H n id sz es i off c
      | none => .fail
  | _, _ => .fail

def aLoad (t : TypeId) (H : Hp) (n : Nat) : AV → AR
  | .ptr id i off => match alook H id with
    | some (.row sz es) => aLoadRow (tagg P t) (tsz P t) H n id sz es i off es[i]?
    | _ => .fail
  | .rop cs off => match tagg P t with
    | some true => if 0 < tsz P t ∧ off + tsz P t ≤ cs.length then .ok (.agg ((cs.drop off).take (tsz P t))) H n else .fail
    | some false => match cs[off]? with
      | some c => .ok c H n
      | none => .fail
    | none => .fail
  | _ => .fail

def aStore (t : TypeId) (H : Hp) (n : Nat) (a v : AV) : AR := match a with
  | .ptr id i off => match alook H id with
    | some (.row sz es) => match v, es[i]? with
      | .agg cs, some (.agg ecs) => if 0 < cs.length ∧ off + cs.length ≤ ecs.length ∧ cs.length = tsz P t ∧ (ecs.all AV.isCell) = true then .ok .top (aset H id (.row sz (putElem es i off ecs.length cs))) n else .fail
      | .agg _, _ => .fail
      | v, some e => if off < e.cells.length ∧ v.solid = true ∧ tsz P t = 1 ∧ (e.cells[off]?.getD .top).isCell = true then .ok .top (aset H id (.row sz (setCell es i off v))) n else .fail
      | _, none => .fail
    | _ => .fail
  | _ => .fail

def aFld (t : TypeId) (f : Nat) (H : Hp) (n : Nat) : AV → AR
  | .ptr id i off => match tfo P t f with
    | some (o, _ + 1) => .ok (.ptr id i (off + o)) H n
    | _ => .fail
  | .rop cs off => match tfo P t f with
    | some (o, _ + 1) => .ok (.rop cs (off + o)) H n
    | _ => .fail
  | _ => .fail

def aIdx (t : TypeId) (H : Hp) (n : Nat) (x i : AV) : AR := match x, i, tsh P t with
  | .sl id off len, .int _ k, .sl e => match alook H id with
    | some (.row sz _) => if sz = tsz P e ∧ 0 < tsz P e ∧ 0 ≤ k ∧ k < len then .ok (.ptr id (off + k.toNat) 0) H n else .fail
    | _ => .fail
  | .imm es, .int _ k, .sl e => if 0 < tsz P e ∧ 0 ≤ k ∧ k < es.length then (match es[k.toNat]? with | some v => if v.cells.length = tsz P e then .ok (.rop v.cells 0) H n else .fail | none => .fail) else .fail
  | .ptr id j off, .int _ k, .arr len e => if 0 < tsz P e ∧ 0 ≤ k ∧ k < len then .ok (.ptr id j (off + k.toNat * tsz P e)) H n else .fail
  | .rop cs off, .int _ k, .arr len e => if 0 < tsz P e ∧ 0 ≤ k ∧ k < len then .ok (.rop cs (off + k.toNat * tsz P e)) H n else .fail
  | _, _, _ => .fail

/-- is the first element so many cells? -/
def okHd (sz : Nat) : List AV → Bool
  | [] => true
  | v :: _ => v.cells.length == sz
theorem okHd_get {sz : Nat} : ∀ (es : List AV) (v : AV), okHd sz es = true → es[0]? = some v → v.cells.length = sz
  | [], v, _, h => by simp at h
  | u :: es, v, h, h' => by simp at h'; subst h'; simpa [okHd] using h
/-- a bound of a slice expression -/
def aBound (dflt : Nat) : Option AV → Option Int
  | none => some dflt
  | some (.int _ k) => some k
  | _ => none

def aSlice (t : TypeId) (H : Hp) (n : Nat) (x : AV) (lo hi : Option AV) : AR := match x, tsh P t with
  | .sl id off len, .sl e => match alook H id, aBound 0 lo, aBound len hi with
    | some (.row sz _), some l, some h => if sz = tsz P e ∧ 0 < tsz P e ∧ 0 ≤ l ∧ l ≤ h ∧ h ≤ len then .ok (.sl id (off + l.toNat) (h.toNat - l.toNat)) H n else .fail
    | _, _, _ => .fail
  | .imm es, .sl e => match aBound 0 lo, aBound es.length hi with
    | some l, some h => if 0 < tsz P e ∧ 0 ≤ l ∧ l ≤ h ∧ h ≤ es.length ∧ okHd (tsz P e) es = true then .ok (.imm ((es.take h.toNat).drop l.toNat)) H n else .fail
    | _, _ => .fail
  | .nilsl, .sl e => match aBound 0 lo, aBound 0 hi with
    | some l, some h => if l = 0 ∧ h = 0 ∧ 0 < tsz P e then .ok .nilsl H n else .fail
    | _, _ => .fail
  | _, _ => .fail

def aLen (t : TypeId) (H : Hp) (n : Nat) (x : AV) : AR := match x, tsh P t with
  | .sl _ _ len, .sl _ => .ok (.int .i64 len) H n
  | .imm es, .sl _ => .ok (.int .i64 es.length) H n
  | .nilsl, .sl _ => .ok (.int .i64 0) H n
  | .str s, .str => .ok (.int .i64 s.size) H n
  | .nilm, .mp _ _ => .ok (.int .i64 0) H n
  | .mp id, .mp _ _ => match alook H id with
    | some (.map ks _) => .ok (.int .i64 ks.length) H n
    | _ => .fail
  | _, .arr k _ => .ok (.int .i64 k) H n
  | _, _ => .fail

def iBin (op : BinOp) (k : IntKind) (a b : Int) : Option AV := match op with
  | .add => some (.int k (k.wrap (a + b)))
  | .sub => some (.int k (k.wrap (a - b)))
  | .mul => some (.int k (k.wrap (a * b)))
  | .quo => some (.int k (k.wrap (a.tdiv b)))
  | .rem => some (.int k (a.tmod b))
  | .and => some (.int k (k.wrap (BitVec.ofInt k.bits a &&& BitVec.ofInt k.bits b).toNat))
  | .or => some (.int k (k.wrap (BitVec.ofInt k.bits a ||| BitVec.ofInt k.bits b).toNat))
  | .xor => some (.int k (k.wrap (BitVec.ofInt k.bits a ^^^ BitVec.ofInt k.bits b).toNat))
  | .eql => some (.bool (decide (a = b)))
  | .neq => some (.bool (decide (a ≠ b)))
  | .lss => some (.bool (decide (a < b)))
  | .leq => some (.bool (decide (a ≤ b)))
  | .gtr => some (.bool (decide (b < a)))
  | .geq => some (.bool (decide (b ≤ a)))
  | _ => none

/-- 'x == nil' -/
def aNil (H : Hp) (n : Nat) (neg : Bool) : Sh → AV → AV → AR
  | .ptr, .nilp, .nilp => .ok (.bool !neg) H n
  | .ptr, .ptr _ _ _, .nilp => .ok (.bool neg) H n
  | .ptr, .rop _ _, .nilp => .ok (.bool neg) H n
  | .iface, .iface _ _, .nilif => .ok (.bool neg) H n
  | .iface, .nilif, .nilif => .ok (.bool !neg) H n
  | .sl _, .nilsl, .nilsl => .ok (.bool !neg) H n
  | .sl _, .imm es, .nilsl => if es = [] then .anyb H n else .ok (.bool neg) H n
  | .sl _, .sl _ _ len, .nilsl => if len = 0 then .anyb H n else .ok (.bool neg) H n
  | _, _, _ => .fail

def aBin (op : BinOp) (t : TypeId) (H : Hp) (n : Nat) (x y : AV) : AR := match op, x, y with
  | .shl, .int k a, .int _ b => if 0 ≤ b then .ok (.int k (k.wrap (a * 2 ^ (min b.toNat k.bits)))) H n else .fail
  | .shr, .int k a, .int _ b => if 0 ≤ b then .ok (.int k (a.fdiv (2 ^ (min b.toNat k.bits)))) H n else .fail
  | op, .int k a, .int k' b => if k = k' then (if (op = .quo ∨ op = .rem) ∧ b = 0 then .fail else match iBin op k a b with | some v => .ok v H n | none => .fail) else .fail
  | .eql, .bool a, .bool b => if tsh P t = .bool then .ok (.bool (a == b)) H n else .fail
  | .neq, .bool a, .bool b => if tsh P t = .bool then .ok (.bool !(a == b)) H n else .fail
  | .eql, .str a, .str b => .ok (.bool (decide (a = b))) H n
  | .neq, .str a, .str b => .ok (.bool (decide (a ≠ b))) H n
  | .eql, x, y => aNil H n false (tsh P t) x y
  | .neq, x, y => aNil H n true (tsh P t) x y
  | _, _, _ => .fail

def aUn (op : UnOp) (H : Hp) (n : Nat) : AV → AR
  | .bool b => if op = .not then .ok (.bool !b) H n else .fail
  | .int k a => match op with
    | .neg => .ok (.int k (k.wrap (0 - a))) H n
    | .xor => .ok (.int k (k.wrap (BitVec.ofInt k.bits (if k.signed then -1 else k.max) ^^^ BitVec.ofInt k.bits a).toNat)) H n
    | _ => .fail
  | _ => .fail

def aBox (t : TypeId) (H : Hp) (n : Nat) (v : AV) : AR :=
  if v.fits (tsz P t) = true then .ok (.ptr n 0 0) ((n, .row (tsz P t) [v]) :: H) (n + 1) else .fail
def aAlloc (t : TypeId) (H : Hp) (n : Nat) : AR := aBox P t H n (tzero P t)

/-- parts laid into cells, as a struct's or an array's value is built -/
def aFill (place : Nat → Option (Nat × Nat)) (cs : List AV) : List (Nat × AV) → Option (List AV)
  | [] => some cs
  | (i, v) :: rest => match place i with
    | none => none
    | some (off, size) => if v.fits size = true ∧ off + size ≤ cs.length then aFill place (cs.take off ++ v.cells ++ cs.drop (off + size)) rest else none

def aBuild (t : TypeId) (H : Hp) (n : Nat) (parts : List (Nat × AV)) : AR := match tzero P t, tsh P t with
  | .agg z, .strct => if tflds P t = true then (match aFill (tfo P t) z parts with
    | some cs => .ok (.agg cs) H n
    | none => .fail) else .fail
  | .agg z, .arr _ e => if 0 < tsz P e then (match aFill (fun i => some (i * tsz P e, tsz P e)) z parts with
    | some cs => .ok (.agg cs) H n
    | none => .fail) else .fail
  | _, _ => .fail

/-- the elements of a slice's literal: all of them are there, in order -/
def aElems (sz : Nat) : Nat → List (Nat × AV) → Option (List AV)
  | _, [] => some []
  | k, (i, v) :: rest => if i = k ∧ v.fits sz = true then (aElems sz (k + 1) rest).map (v :: ·) else none

def aBuildSl (t : TypeId) (len : Nat) (H : Hp) (n : Nat) (parts : List (Nat × AV)) : AR := match tsh P t with
  | .sl e => if len = parts.length ∧ 0 < tsz P e ∧ len * tsz P e ≤ 16777216 ∧ (tzero P e).fits (tsz P e) = true then (match aElems (tsz P e) 0 parts with
    | some es => .ok (.sl n 0 len) ((n, .row (tsz P e) es) :: H) (n + 1)
    | none => .fail) else .fail
  | _ => .fail

def aMkSl (t : TypeId) (H : Hp) (n : Nat) (len cap : AV) : AR := match tsh P t, len, cap with
  | .sl e, .int _ l, .int _ c => if l = c ∧ 0 ≤ l ∧ l * tby P e ≤ 140737488355328 ∧ l < 9223372036854775808 ∧ 0 < tsz P e ∧ (tzero P e).fits (tsz P e) = true then
      .ok (.sl n 0 l.toNat) ((n, .row (tsz P e) (List.replicate l.toNat (tzero P e))) :: H) (n + 1) else .fail
  | _, _, _ => .fail

def aMkMap (t : TypeId) (H : Hp) (n : Nat) : AR := match tsh P t with
  | .mp _ _ => .ok (.mp n) ((n, .map [] []) :: H) (n + 1)
  | _ => .fail

def aExtract (i : Nat) (H : Hp) (n : Nat) : AV → AR
  | .tup vs => match vs[i]? with
    | some v => .ok v H n
    | none => .fail
  | _ => .fail

def aField (t : TypeId) (f : Nat) (H : Hp) (n : Nat) : AV → AR
  | .agg cs => match tfo P t f with
    | some (off, k + 1) => match tfa P t f with
      | some true => if off + (k + 1) ≤ cs.length then .ok (.agg ((cs.drop off).take (k + 1))) H n else .fail
      | some false => match cs[off]? with
        | some v => .ok v H n
        | none => .fail
      | none => .fail
    | _ => .fail
  | _ => .fail

def aIndex (t : TypeId) (H : Hp) (n : Nat) (x i : AV) : AR := match x, i, tsh P t with
  | .agg cs, .int _ k, .arr len e => if 0 ≤ k ∧ k < len ∧ tsz P e = 1 ∧ tagg P e = some false then (match cs[k.toNat]? with
    | some v => .ok v H n
    | none => .fail) else .fail
  | .str s, .int _ k, .str => if 0 ≤ k ∧ k < s.size then .ok (.int .u8 (s.data.toList.getD k.toNat 0).toNat) H n else .fail
  | _, _, _ => .fail

def aConv (src dst : TypeId) (H : Hp) (n : Nat) (x : AV) : AR := match tsh P src, tsh P dst, x with
  | .int _, .int k, .int _ a => .ok (.int k (k.wrap a)) H n
  | _, _, _ => .fail

def aIface (t : TypeId) (H : Hp) (n : Nat) (x : AV) : AR := match tsh P t with
  | .int _ => .ok (.iface t x) H n
  | .strct => .ok (.iface t x) H n
  | _ => .fail

/-- the elements that are read off a slice -/
def aSrc (H : Hp) (sz : Nat) : AV → Option (List AV)
  | .nilsl => some []
  | .imm es => if okHd sz es = true then some es else none
  | .sl id off len => match alook H id with
    | some (.row s es) => if s = sz ∧ off + len ≤ es.length ∧ (((es.drop off).take len).all fun e => e.cells.all AV.free) = true then some ((es.drop off).take len) else none
    | _ => none
  | _ => none

def aApp (t t' : TypeId) (H : Hp) (n : Nat) (x y : AV) : AR := match tsh P t with
  | .sl e => if t = t' ∧ 0 < tsz P e ∧ (tzero P e).fits (tsz P e) = true then (match aSrc H (tsz P e) y with
    | some ys => match x with
      | .nilsl => if ys.length * tby P e ≤ 140737488355328 ∧ ys.length ≤ 4611686018427387904 then .ok (.sl n 0 ys.length) ((n, .row (tsz P e) ys) :: H) (n + 1) else .fail
      | .sl id 0 len => match alook H id with
        | some (.row sz es) => if sz = tsz P e ∧ len = es.length ∧ (es.length + ys.length) * tby P e ≤ 140737488355328 ∧ es.length + ys.length ≤ 4611686018427387904 then
            .ok (.sl n 0 (es.length + ys.length)) ((n, .row sz (es ++ ys)) :: adel H id) (n + 1) else .fail
        | _ => .fail
      | _ => .fail
    | none => .fail) else .fail
  | _ => .fail

end ops
end Go.AM
