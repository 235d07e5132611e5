/- Plain facts on the 64-bit digest: a byte can be undone, adding and finishing are one to one; the bytes and the text of a number. No program is in sight here. -/
namespace Go.Proofs.Ytjpicnfkmfjnoaa.Dig

abbrev D := BitVec 64

def ofB (v : UInt8) : D := v.toBitVec.setWidth 64
def mul1 (x : D) : D := x + x <<< 28
def rot (x : D) : D := x <<< 20 ||| x >>> 44
def step (s : D) (v : UInt8) : D := rot (mul1 (s ^^^ ofB v))
def addL (s : D) (l : List UInt8) : D := l.foldl step s
def mul2 (x : D) : D := x + x <<< 36
def fold2 (x : D) : D := x ^^^ x >>> 28
def half (d : D) : D := fold2 (mul2 d)
def fin (s : D) (n : Int) : D := half (half (s ^^^ BitVec.ofInt 64 n))
def start : D := 0x6E6163656C6C6521#64
def ofL (l : List UInt8) : D := fin (addL start l) l.length
/-- Byte i of a number. -/
def byteAt (d : D) (i : Nat) : UInt8 := ⟨(d >>> (8 * i)).setWidth 8⟩
def bytes (d : D) : List UInt8 := (List.range 8).map (byteAt d)
def pair (a b : D) : D := ofL (bytes a ++ bytes b)

theorem addL_nil (s : D) : addL s [] = s := rfl
theorem addL_append (s : D) (l m : List UInt8) : addL s (l ++ m) = addL (addL s l) m := List.foldl_append ..
theorem addL_snoc (s : D) (l : List UInt8) (v : UInt8) : addL s (l ++ [v]) = step (addL s l) v := by rw [addL_append]; rfl
theorem addL_cons (s : D) (v : UInt8) (l : List UInt8) : addL s (v :: l) = addL (step s v) l := rfl
theorem bytes_length (d : D) : (bytes d).length = 8 := by simp [bytes]

theorem shl_mul (x : D) (n : Nat) : x <<< n = x * BitVec.twoPow 64 n := BitVec.shiftLeft_eq_mul_twoPow x n

theorem mul1_eq (x : D) : mul1 x = x * 0x10000001#64 := by
  unfold mul1
  rw [shl_mul]
  have : x * 0x10000001#64 = x * (1#64 + BitVec.twoPow 64 28) := by rfl
  rw [this, BitVec.mul_add, BitVec.mul_one]

/-- Undoing the multiplication. -/
def un1 (y : D) : D := y - y <<< 28 + y <<< 56

theorem un1_eq (y : D) : un1 y = y * 0x00FFFFFFF0000001#64 := by
  unfold un1
  rw [shl_mul, shl_mul, BitVec.sub_eq_add_neg]
  have e : y * 0x00FFFFFFF0000001#64 = y * (1#64 + -(BitVec.twoPow 64 28) + BitVec.twoPow 64 56) := by rfl
  rw [e, BitVec.mul_add, BitVec.mul_add, BitVec.mul_one, BitVec.mul_neg]

theorem mul1_un1 (y : D) : mul1 (un1 y) = y := by
  rw [mul1_eq, un1_eq, BitVec.mul_assoc]
  have : 0x00FFFFFFF0000001#64 * 0x10000001#64 = 1#64 := by decide
  rw [this, BitVec.mul_one]

theorem un1_mul1 (y : D) : un1 (mul1 y) = y := by
  rw [mul1_eq, un1_eq, BitVec.mul_assoc]
  have : 0x10000001#64 * 0x00FFFFFFF0000001#64 = 1#64 := by decide
  rw [this, BitVec.mul_one]

theorem mul1_inj {x y : D} (h : mul1 x = mul1 y) : x = y := by rw [← un1_mul1 x, h, un1_mul1]

theorem mul2_inj {x y : D} (h : mul2 x = mul2 y) : x = y := by
  have e : ∀ x, mul2 x = x * 0x1000000001#64 := by
    intro x
    unfold mul2
    rw [shl_mul]
    have : x * 0x1000000001#64 = x * (1#64 + BitVec.twoPow 64 36) := by rfl
    rw [this, BitVec.mul_add, BitVec.mul_one]
  rw [e, e] at h
  have h2 := congrArg (fun t => t * 0xFFFFFFF000000001#64) h
  simp only [BitVec.mul_assoc] at h2
  have : 0x1000000001#64 * 0xFFFFFFF000000001#64 = 1#64 := by decide
  rwa [this, BitVec.mul_one, BitVec.mul_one] at h2

/-- Rotating back. -/
def unrot (y : D) : D := y >>> 20 ||| y <<< 44

theorem rot_bit (x : D) (i : Nat) (hi : i < 64) : (rot x).getLsbD i = if i < 20 then x.getLsbD (44 + i) else x.getLsbD (i - 20) := by
  unfold rot
  rw [BitVec.getLsbD_or, BitVec.getLsbD_shiftLeft, BitVec.getLsbD_ushiftRight]
  by_cases h : i < 20
  · simp [h]
  · simp [h, hi, BitVec.getLsbD_of_ge x (44 + i) (by omega)]

theorem unrot_bit (x : D) (i : Nat) (hi : i < 64) : (unrot x).getLsbD i = if i < 44 then x.getLsbD (20 + i) else x.getLsbD (i - 44) := by
  unfold unrot
  rw [BitVec.getLsbD_or, BitVec.getLsbD_shiftLeft, BitVec.getLsbD_ushiftRight]
  by_cases h : i < 44
  · simp [h]
  · simp [h, hi, BitVec.getLsbD_of_ge x (20 + i) (by omega)]

theorem rot_unrot (y : D) : rot (unrot y) = y := by
  apply BitVec.eq_of_getLsbD_eq
  intro i hi
  rw [rot_bit _ i hi]
  by_cases h : i < 20
  · rw [if_pos h, unrot_bit _ _ (by omega), if_neg (by omega)]; congr 1; omega
  · rw [if_neg h, unrot_bit _ _ (by omega), if_pos (by omega)]; congr 1; omega

theorem unrot_rot (y : D) : unrot (rot y) = y := by
  apply BitVec.eq_of_getLsbD_eq
  intro i hi
  rw [unrot_bit _ i hi]
  by_cases h : i < 44
  · rw [if_pos h, rot_bit _ _ (by omega), if_neg (by omega)]; congr 1; omega
  · rw [if_neg h, rot_bit _ _ (by omega), if_pos (by omega)]; congr 1; omega

theorem rot_inj {x y : D} (h : rot x = rot y) : x = y := by rw [← unrot_rot x, h, unrot_rot]

theorem xor_right_inj {a b c : D} (h : a ^^^ c = b ^^^ c) : a = b := by
  have := congrArg (fun t => t ^^^ c) h
  simpa only [BitVec.xor_assoc, BitVec.xor_self, BitVec.xor_zero] using this

theorem xor_left_inj {a b c : D} (h : c ^^^ a = c ^^^ b) : a = b := by
  rw [BitVec.xor_comm c a, BitVec.xor_comm c b] at h; exact xor_right_inj h

theorem ofB_inj {a b : UInt8} (h : ofB a = ofB b) : a = b := by
  apply UInt8.toNat_inj.mp
  have := congrArg BitVec.toNat h
  simpa [ofB] using this

theorem step_inj {s t : D} {v : UInt8} (h : step s v = step t v) : s = t := xor_right_inj (mul1_inj (rot_inj h))
theorem step_byte_inj {s : D} {u v : UInt8} (h : step s u = step s v) : u = v := ofB_inj (xor_left_inj (mul1_inj (rot_inj h)))

theorem addL_inj (l : List UInt8) : ∀ {s t : D}, addL s l = addL t l → s = t := by
  induction l with
  | nil => intro s t h; exact h
  | cons v l ih => intro s t h; exact step_inj (ih h)

/-- The state before. -/
theorem step_undo (t : D) (v : UInt8) : step (un1 (unrot t) ^^^ ofB v) v = t := by
  unfold step
  rw [BitVec.xor_assoc, BitVec.xor_self, BitVec.xor_zero, mul1_un1, rot_unrot]

theorem fold2_inj {x y : D} (h : fold2 x = fold2 y) : x = y := by
  have hz : ∀ z : D, z = z >>> 28 → z = 0#64 := by
    intro z hz
    have h2 : z = z >>> 84 := by
      have a : z = z >>> 28 >>> 28 >>> 28 := by rw [← hz, ← hz, ← hz]
      rwa [← BitVec.shiftRight_add, ← BitVec.shiftRight_add] at a
    rw [h2]
    apply BitVec.eq_of_getLsbD_eq
    intro i hi
    rw [BitVec.getLsbD_ushiftRight, BitVec.getLsbD_of_ge z _ (by omega), BitVec.getLsbD_zero]
  have e : x ^^^ y = (x ^^^ y) >>> 28 := by
    unfold fold2 at h
    rw [BitVec.ushiftRight_xor_distrib]
    have h2 : (x ^^^ x >>> 28) ^^^ (y ^^^ x >>> 28) = (y ^^^ y >>> 28) ^^^ (y ^^^ x >>> 28) := by rw [h]
    have l1 : x ^^^ x >>> 28 ^^^ (y ^^^ x >>> 28) = x ^^^ y := by
      rw [BitVec.xor_comm y, BitVec.xor_assoc, ← BitVec.xor_assoc (x >>> 28), BitVec.xor_self, BitVec.zero_xor]
    have l2 : y ^^^ y >>> 28 ^^^ (y ^^^ x >>> 28) = x >>> 28 ^^^ y >>> 28 := by
      rw [BitVec.xor_comm y (y >>> 28), BitVec.xor_assoc, ← BitVec.xor_assoc y, BitVec.xor_self, BitVec.zero_xor, BitVec.xor_comm]
    rwa [l1, l2] at h2
  have e2 := hz _ e
  have e3 := congrArg (fun t => t ^^^ y) e2
  simpa only [BitVec.xor_assoc, BitVec.xor_self, BitVec.xor_zero, BitVec.zero_xor] using e3

theorem half_inj {x y : D} (h : half x = half y) : x = y := mul2_inj (fold2_inj h)
theorem fin_inj {s t : D} {n : Int} (h : fin s n = fin t n) : s = t := xor_right_inj (half_inj (half_inj h))

theorem addL_mid (s : D) (a b : List UInt8) (x y : UInt8) (h : addL s (a ++ x :: b) = addL s (a ++ y :: b)) : x = y := by
  rw [addL_append, addL_append, addL_cons, addL_cons] at h
  exact step_byte_inj (addL_inj _ h)

/-- One byte differs: the states differ. -/
theorem addL_set (s : D) (l : List UInt8) (i : Nat) (hi : i < l.length) (x : UInt8) : addL s (l.set i x) = addL s l ↔ x = l[i] := by
  constructor
  · intro h
    have e1 : l.set i x = l.take i ++ x :: l.drop (i + 1) := by rw [List.set_eq_take_append_cons_drop, if_pos hi]
    have e2 : l = l.take i ++ l[i] :: l.drop (i + 1) := by rw [List.getElem_cons_drop, List.take_append_drop]
    exact addL_mid s _ _ _ _ (by rw [← e1, h, ← e2])
  · intro h; rw [h, List.set_getElem_self]

theorem ofL_set (l : List UInt8) (i : Nat) (hi : i < l.length) (x : UInt8) : ofL (l.set i x) = ofL l ↔ x = l[i] := by
  unfold ofL
  rw [List.length_set]
  exact ⟨fun h => (addL_set start l i hi x).1 (fin_inj h), fun h => by rw [(addL_set start l i hi x).2 h]⟩

end Go.Proofs.Ytjpicnfkmfjnoaa.Dig
