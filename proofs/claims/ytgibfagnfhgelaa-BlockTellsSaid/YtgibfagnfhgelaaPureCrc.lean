/- Plain facts on the 32-bit cyclic redundancy check: it is linear and one to one in its register, and no burst of at most 32 bits leaves it as it was. No program is in sight here. -/
namespace Go.Proofs.Ytgibfagnfhgelaa.Crc

abbrev W := BitVec 32

def poly : W := 0xEDB88320#32

/-- One bit of the register. -/
def bit (r : W) : W := if r.getLsbD 0 then (r >>> 1) ^^^ poly else r >>> 1

/-- n bits of the register. -/
def bitN : Nat → W → W
  | 0, r => r
  | n + 1, r => bitN n (bit r)

theorem bit_zero : bit 0#32 = 0#32 := by decide

theorem xor_swap (a b c d : W) : (a ^^^ b) ^^^ (c ^^^ d) = (a ^^^ c) ^^^ (b ^^^ d) := by
  rw [BitVec.xor_assoc, BitVec.xor_assoc, ← BitVec.xor_assoc b c d, BitVec.xor_comm b c, BitVec.xor_assoc]

theorem bit_xor (a b : W) : bit (a ^^^ b) = bit a ^^^ bit b := by
  unfold bit
  rw [BitVec.getLsbD_xor, BitVec.ushiftRight_xor_distrib]
  cases ha : a.getLsbD 0 <;> cases hb : b.getLsbD 0 <;> simp
  · rw [BitVec.xor_assoc]
  · rw [BitVec.xor_assoc, BitVec.xor_assoc, BitVec.xor_comm poly (b >>> 1)]
  · rw [xor_swap, BitVec.xor_self, BitVec.xor_zero]

theorem bitN_zero (n : Nat) : bitN n 0#32 = 0#32 := by
  induction n with
  | zero => rfl
  | succ n ih => rw [bitN, bit_zero, ih]

theorem bitN_xor (n : Nat) : ∀ a b : W, bitN n (a ^^^ b) = bitN n a ^^^ bitN n b := by
  induction n with
  | zero => intro a b; rfl
  | succ n ih => intro a b; rw [bitN, bit_xor, ih]; rfl

theorem bitN_add (m n : Nat) : ∀ r : W, bitN (m + n) r = bitN n (bitN m r) := by
  induction m with
  | zero => intro r; rw [Nat.zero_add]; rfl
  | succ m ih => intro r; rw [Nat.succ_add]; show bitN (m + n) (bit r) = _; rw [ih]; rfl

theorem bit_eq_zero {a : W} (h : bit a = 0#32) : a = 0#32 := by
  unfold bit at h
  cases ha : a.getLsbD 0 with
  | true =>
    rw [ha, if_pos rfl] at h
    have h1 := congrArg (fun x : W => x.getLsbD 31) h
    simp [poly] at h1
  | false =>
    rw [ha, if_neg (by decide)] at h
    apply BitVec.eq_of_getLsbD_eq
    intro i hi
    rw [BitVec.getLsbD_zero]
    cases i with
    | zero => exact ha
    | succ i =>
      have h1 := congrArg (fun x : W => x.getLsbD i) h
      simpa [Nat.add_comm] using h1

theorem eq_of_xor_zero {a b : W} (h : a ^^^ b = 0#32) : a = b := by
  have : (a ^^^ b) ^^^ b = 0#32 ^^^ b := by rw [h]
  rw [BitVec.xor_assoc, BitVec.xor_self, BitVec.xor_zero, BitVec.zero_xor] at this
  exact this

theorem bit_inj {a b : W} (h : bit a = bit b) : a = b := by
  apply eq_of_xor_zero
  apply bit_eq_zero
  rw [bit_xor, h, BitVec.xor_self]

theorem bitN_inj (n : Nat) : ∀ {a b : W}, bitN n a = bitN n b → a = b := by
  induction n with
  | zero => intro a b h; exact h
  | succ n ih => intro a b h; exact bit_inj (ih h)

/-- Where the n low bits are zero, n bits of the register are a shift. -/
theorem bitN_shift (n : Nat) : ∀ (a : W), (∀ i, i < n → a.getLsbD i = false) → bitN n a = a >>> n := by
  induction n with
  | zero => intro a _; simp [bitN]
  | succ n ih =>
    intro a h
    have h0 : bit a = a >>> 1 := by unfold bit; rw [h 0 (Nat.succ_pos _)]; rfl
    rw [bitN, h0, ih]
    · rw [← BitVec.shiftRight_add, Nat.add_comm]
    · intro i hi
      rw [BitVec.getLsbD_ushiftRight]
      exact h _ (by omega)

/-- The table's way: eight bits at once. -/
theorem bitN8 (x : W) : bitN 8 x = (x >>> 8) ^^^ bitN 8 (x &&& 255#32) := by
  have hs : x = (x &&& 255#32) ^^^ (x &&& ~~~255#32) := by
    apply BitVec.eq_of_getLsbD_eq
    intro i hi
    simp only [BitVec.getLsbD_xor, BitVec.getLsbD_and, BitVec.getLsbD_not, hi, decide_true, Bool.true_and]
    cases x.getLsbD i <;> cases (255#32).getLsbD i <;> rfl
  have hl : ∀ i, i < 8 → (255#32).getLsbD i = true := by decide
  have hh : bitN 8 (x &&& ~~~255#32) = x >>> 8 := by
    rw [bitN_shift]
    · apply BitVec.eq_of_getLsbD_eq
      intro i hi
      simp only [BitVec.getLsbD_ushiftRight, BitVec.getLsbD_and, BitVec.getLsbD_not]
      by_cases h : 8 + i < 32
      · have : (255#32).getLsbD (8 + i) = false := by
          have : ∀ j, j < 24 → (255#32).getLsbD (8 + j) = false := by decide
          exact this i (by omega)
        have e1 : x.getLsbD (8 + i) = x.getLsbD (8 + i) := rfl
        rw [this]
        simp [h]
      · simp [h, BitVec.getLsbD_of_ge x (8 + i) (by omega)]
    · intro i hi
      simp only [BitVec.getLsbD_and, BitVec.getLsbD_not, hl i hi]
      simp
  conv => lhs; rw [hs]
  rw [bitN_xor, hh, BitVec.xor_comm]

/-- A byte as a register. -/
def ofByte (b : UInt8) : W := b.toBitVec.setWidth 32

/-- One byte. -/
def byte (r : W) (b : UInt8) : W := bitN 8 (r ^^^ ofByte b)

/-- The register after some bytes. -/
def reg (r : W) (l : List (UInt8)) : W := l.foldl byte r

theorem reg_nil (r : W) : reg r [] = r := rfl
theorem reg_cons (r : W) (b : UInt8) (l : List (UInt8)) : reg r (b :: l) = reg (byte r b) l := rfl
theorem reg_append (r : W) (l m : List (UInt8)) : reg r (l ++ m) = reg (reg r l) m := List.foldl_append ..
theorem reg_snoc (r : W) (l : List (UInt8)) (b : UInt8) : reg r (l ++ [b]) = byte (reg r l) b := by rw [reg_append]; rfl

theorem ofByte_xor (a b : UInt8) : ofByte (a ^^^ b) = ofByte a ^^^ ofByte b := by
  unfold ofByte; rw [UInt8.toBitVec_xor, BitVec.setWidth_xor]

theorem byte_xor (r s : W) (a b : UInt8) : byte (r ^^^ s) (a ^^^ b) = byte r a ^^^ byte s b := by
  unfold byte
  rw [ofByte_xor, xor_swap, bitN_xor]

/-- The bytewise exclusive or of two lists of one length. -/
def xorL : List (UInt8) → List (UInt8) → List (UInt8) := List.zipWith (· ^^^ ·)

theorem reg_xor (l : List (UInt8)) : ∀ (m : List (UInt8)) (r s : W), l.length = m.length → reg (r ^^^ s) (xorL l m) = reg r l ^^^ reg s m := by
  induction l with
  | nil => intro m r s h; cases m with
    | nil => rfl
    | cons _ _ => simp at h
  | cons a l ih => intro m r s h; cases m with
    | nil => simp at h
    | cons b m =>
      show reg (byte (r ^^^ s) (a ^^^ b)) (xorL l m) = _
      rw [byte_xor, ih m _ _ (by simpa using h)]; rfl

def zeros (n : Nat) : List (UInt8) := List.replicate n 0

theorem byte_zero (r : W) : byte r 0 = bitN 8 r := by
  unfold byte ofByte; simp

theorem reg_zeros (n : Nat) : ∀ r : W, reg r (zeros n) = bitN (8 * n) r := by
  induction n with
  | zero => intro r; rfl
  | succ n ih =>
    intro r
    show reg (byte r 0) (zeros n) = _
    rw [byte_zero, ih, Nat.mul_succ, Nat.add_comm, bitN_add]

theorem xorL_zeros (l : List (UInt8)) : xorL (zeros l.length) l = l := by
  induction l with
  | nil => rfl
  | cons a l ih => show (0 ^^^ a) :: xorL (zeros l.length) l = _; rw [ih, UInt8.zero_xor]

/-- The register after some bytes: what the register alone leads to, and what the bytes alone lead to. -/
theorem reg_split (r : W) (l : List (UInt8)) : reg r l = bitN (8 * l.length) r ^^^ reg 0#32 l := by
  have h := reg_xor (zeros l.length) l r 0#32 (by simp [zeros])
  rw [BitVec.xor_zero, xorL_zeros, reg_zeros] at h
  exact h

theorem reg_inj (l : List (UInt8)) {r s : W} (h : reg r l = reg s l) : r = s := by
  rw [reg_split r, reg_split s] at h
  have : bitN (8 * l.length) r = bitN (8 * l.length) s := by
    have h2 := congrArg (fun x => x ^^^ reg 0#32 l) h
    simpa [BitVec.xor_assoc] using h2
  exact bitN_inj _ this

theorem ofByte_inj {a b : UInt8} (h : ofByte a = ofByte b) : a = b := by
  apply UInt8.toNat_inj.mp
  have := congrArg BitVec.toNat h
  simpa [ofByte] using this

theorem byte_inj {r : W} {a b : UInt8} (h : byte r a = byte r b) : a = b := by
  have h1 : r ^^^ ofByte a = r ^^^ ofByte b := bitN_inj 8 h
  have h2 := congrArg (fun x => r ^^^ x) h1
  simp only [← BitVec.xor_assoc, BitVec.xor_self, BitVec.zero_xor] at h2
  exact ofByte_inj h2

/-! ### The sum -/

def sumFrom (s : W) (l : List (UInt8)) : W := ~~~ reg (~~~ s) l
def sum (l : List (UInt8)) : W := sumFrom 0#32 l

theorem not_inj {a b : W} (h : ~~~a = ~~~b) : a = b := by
  have := congrArg (fun x : W => ~~~x) h
  simpa using this

theorem sumFrom_inj (l : List (UInt8)) {s t : W} (h : sumFrom s l = sumFrom t l) : s = t := not_inj (reg_inj l (not_inj h))
theorem sumFrom_byte_inj (s : W) {a b : UInt8} (h : sumFrom s [a] = sumFrom s [b]) : a = b := byte_inj (not_inj h)
theorem sumFrom_append (s : W) (l m : List (UInt8)) : sumFrom s (l ++ m) = sumFrom (sumFrom s l) m := by
  unfold sumFrom; rw [reg_append, BitVec.not_not]
theorem sumFrom_nil (s : W) : sumFrom s [] = s := by unfold sumFrom; simp [reg_nil]

/-- The effect of n zero bytes. -/
def shiftBytes (n : Nat) (a : W) : W := bitN (8 * n) a

def combine (a b : W) (n : Nat) : W := shiftBytes n a ^^^ b

theorem not_eq_xor (a : W) : ~~~a = a ^^^ BitVec.allOnes 32 := (BitVec.xor_allOnes).symm

theorem sum_append (l m : List (UInt8)) (s : W) : sumFrom s (l ++ m) = combine (sumFrom s l) (sum m) m.length := by
  unfold combine sum
  rw [sumFrom_append]
  generalize sumFrom s l = a
  unfold sumFrom shiftBytes
  rw [reg_split (~~~a), reg_split (~~~0#32)]
  simp only [not_eq_xor, bitN_xor, BitVec.zero_xor]
  generalize bitN (8 * m.length) a = x
  generalize bitN (8 * m.length) (BitVec.allOnes 32) = y
  generalize reg 0#32 m = z
  generalize BitVec.allOnes 32 = o
  rw [← BitVec.xor_assoc x _ o, ← BitVec.xor_assoc x y z]

theorem shiftBytes_zero (n : Nat) : shiftBytes n 0#32 = 0#32 := bitN_zero _
theorem shiftBytes_xor (n : Nat) (a b : W) : shiftBytes n (a ^^^ b) = shiftBytes n a ^^^ shiftBytes n b := bitN_xor _ _ _
theorem shiftBytes_add (m n : Nat) (a : W) : shiftBytes (m + n) a = shiftBytes n (shiftBytes m a) := by
  unfold shiftBytes; rw [Nat.mul_add, bitN_add]

theorem combine_assoc (x y z : W) (m n : Nat) : combine x (combine y z n) (m + n) = combine (combine x y m) z n := by
  unfold combine
  rw [shiftBytes_xor, shiftBytes_add, BitVec.xor_assoc]

/-- The sum of three, bytewise. -/
theorem sum_xor3 (a b c : List (UInt8)) (hb : a.length = b.length) (hc : a.length = c.length) : sum (xorL (xorL a b) c) = (sum a ^^^ sum b) ^^^ sum c := by
  have hl : (xorL a b).length = a.length := by simp [xorL, hb]
  have e1 : reg (~~~0#32) (xorL (xorL a b) c) = reg 0#32 (xorL a b) ^^^ reg (~~~0#32) c := by
    have := reg_xor (xorL a b) c 0#32 (~~~0#32) (by rw [hl, hc])
    rwa [BitVec.zero_xor] at this
  have e2 : reg 0#32 (xorL a b) = reg (~~~0#32) a ^^^ reg (~~~0#32) b := by
    have := reg_xor a b (~~~0#32) (~~~0#32) hb
    rwa [BitVec.xor_self] at this
  unfold sum sumFrom
  rw [e1, e2]
  generalize reg (~~~0#32) a = x
  generalize reg (~~~0#32) b = y
  generalize reg (~~~0#32) c = z
  simp only [not_eq_xor]
  generalize BitVec.allOnes 32 = o
  rw [xor_swap x o y o, BitVec.xor_self, BitVec.xor_zero, BitVec.xor_assoc]

/-! ### Bursts -/

def b2w (b : Bool) : W := if b then 1#32 else 0#32

/-- The register after the first m bits of f, from 0. -/
def ser (f : Nat → Bool) : Nat → W
  | 0 => 0#32
  | m + 1 => bit (ser f m ^^^ b2w (f m))

/-- The j low bits of a word. -/
def low (p : W) : Nat → W
  | 0 => 0#32
  | j + 1 => low p j ^^^ (b2w (p.getLsbD j) <<< j)

theorem b2w_bit (b : Bool) (i : Nat) : (b2w b).getLsbD i = (b && decide (i = 0)) := by
  cases b with
  | false => simp [b2w]
  | true => simp only [b2w, if_true]; cases i <;> simp

theorem low_bit (p : W) (n : Nat) : ∀ i, n ≤ 32 → (low p n).getLsbD i = (decide (i < n) && p.getLsbD i) := by
  induction n with
  | zero => intro i _; simp [low]
  | succ n ih =>
    intro i hn
    rw [low, BitVec.getLsbD_xor, ih i (by omega), BitVec.getLsbD_shiftLeft, b2w_bit]
    by_cases h1 : i < n
    · have h2 : i < n + 1 := by omega
      simp [h1, h2]
    · by_cases h2 : i = n
      · subst h2
        have : i < 32 := by omega
        simp [this]
      · have h3 : ¬ i < n + 1 := by omega
        have h4 : ¬ i - n = 0 := by omega
        simp [h1, h3, h4]

theorem low_all (p : W) : low p 32 = p := by
  apply BitVec.eq_of_getLsbD_eq
  intro i hi
  rw [low_bit p 32 i (Nat.le_refl _)]
  simp [hi]

theorem bitN_succ (n : Nat) (r : W) : bitN (n + 1) r = bit (bitN n r) := by rw [bitN_add]; rfl

theorem bitN_one_shift (j : Nat) (hj : j < 32) (b : Bool) : bitN j (b2w b <<< j) = b2w b := by
  rw [bitN_shift]
  · apply BitVec.eq_of_getLsbD_eq
    intro i hi
    rw [BitVec.getLsbD_ushiftRight, BitVec.getLsbD_shiftLeft, b2w_bit, b2w_bit]
    by_cases h : i = 0
    · subst h; simp [hj]
    · simp [h]
  · intro i hi
    rw [BitVec.getLsbD_shiftLeft]
    simp [hi]

/-- A stretch of at most 32 bits. -/
theorem ser_stretch (f : Nat → Bool) (s : Nat) (p : W) (j : Nat) : j ≤ 32 → (∀ i, i < j → f (s + i) = p.getLsbD i) → ser f (s + j) = bitN j (ser f s ^^^ low p j) := by
  induction j with
  | zero => intro _ _; simp [low, bitN]
  | succ j ih =>
    intro hj hf
    show bit (ser f (s + j) ^^^ b2w (f (s + j))) = _
    rw [ih (by omega) (fun i hi => hf i (by omega)), hf j (by omega), bitN_succ, low, ← BitVec.xor_assoc, bitN_xor j (ser f s ^^^ low p j), bitN_one_shift j (by omega)]

theorem ser_zero (f : Nat → Bool) (m : Nat) (h : ∀ i, i < m → f i = false) : ser f m = 0#32 := by
  induction m with
  | zero => rfl
  | succ m ih => rw [ser, ih (fun i hi => h i (by omega)), h m (by omega)]; rfl

theorem ser_keeps (f : Nat → Bool) (s : Nat) (hs : ser f s ≠ 0#32) (n : Nat) : (∀ i, i < n → f (s + i) = false) → ser f (s + n) ≠ 0#32 := by
  induction n with
  | zero => intro _; exact hs
  | succ n ih =>
    intro h e
    have e' : bit (ser f (s + n) ^^^ b2w (f (s + n))) = 0#32 := e
    rw [h n (by omega)] at e'
    have := bit_eq_zero e'
    simp [b2w] at this
    exact ih (fun i hi => h i (by omega)) this

/-- The word of the bits of f from s on. -/
def wordN (f : Nat → Bool) (s : Nat) : Nat → W
  | 0 => 0#32
  | j + 1 => wordN f s j ^^^ (b2w (f (s + j)) <<< j)

theorem wordN_bit (f : Nat → Bool) (s n : Nat) : ∀ i, n ≤ 32 → (wordN f s n).getLsbD i = (decide (i < n) && f (s + i)) := by
  induction n with
  | zero => intro i _; simp [wordN]
  | succ n ih =>
    intro i hn
    rw [wordN, BitVec.getLsbD_xor, ih i (by omega), BitVec.getLsbD_shiftLeft, b2w_bit]
    by_cases h1 : i < n
    · have h2 : i < n + 1 := by omega
      simp [h1, h2]
    · by_cases h2 : i = n
      · subst h2
        have : i < 32 := by omega
        simp [this]
      · have h3 : ¬ i < n + 1 := by omega
        have h4 : ¬ i - n = 0 := by omega
        simp [h1, h3, h4]

def word (f : Nat → Bool) (s : Nat) : W := wordN f s 32

theorem word_bit (f : Nat → Bool) (s i : Nat) (h : i < 32) : (word f s).getLsbD i = f (s + i) := by
  rw [word, wordN_bit f s 32 i (Nat.le_refl _)]; simp [h]

theorem ser_ne_first (f : Nat → Bool) (M a : Nat) (ha : a < M) (h1 : f a = true) (h0 : ∀ i, i < a → f i = false) (h2 : ∀ i, a + 32 ≤ i → i < M → f i = false) : ser f M ≠ 0#32 := by
  have key : ∀ j, 1 ≤ j → j ≤ 32 → ser f (a + j) ≠ 0#32 := by
    intro j hj1 hj e
    rw [ser_stretch f a (word f a) j hj (fun i hi => (word_bit f a i (by omega)).symm), ser_zero f a h0, BitVec.zero_xor] at e
    have e2 : low (word f a) j = 0#32 := bitN_inj j (by rw [e, bitN_zero])
    have e3 := congrArg (fun x : W => x.getLsbD 0) e2
    have hw : (word f a).getLsbD 0 = true := by rw [word_bit f a 0 (by omega)]; exact h1
    simp only [low_bit _ _ 0 hj, BitVec.getLsbD_zero, hw, Bool.and_true, decide_eq_false_iff_not] at e3
    omega
  by_cases hM : M ≤ a + 32
  · have := key (M - a) (by omega) (by omega)
    rwa [show a + (M - a) = M by omega] at this
  · have := ser_keeps f (a + 32) (key 32 (by omega) (by omega)) (M - (a + 32)) (fun i hi => h2 _ (by omega) (by omega))
    rwa [show a + 32 + (M - (a + 32)) = M by omega] at this

theorem least (f : Nat → Bool) : ∀ n, f n = true → ∃ a, a ≤ n ∧ f a = true ∧ ∀ i, i < a → f i = false := by
  intro n
  induction n using Nat.strongRecOn with
  | ind n ih =>
    intro hn
    by_cases h : ∃ m, m < n ∧ f m = true
    · obtain ⟨m, hm, hf⟩ := h
      obtain ⟨a, h1, h2, h3⟩ := ih m hm hf
      exact ⟨a, by omega, h2, h3⟩
    · refine ⟨n, Nat.le_refl _, hn, fun i hi => ?_⟩
      cases hf : f i with
      | false => rfl
      | true => exact absurd ⟨i, hi, hf⟩ h

/-- Bits of which one at least is set, and which lie in a window of 32, do not leave the register 0. -/
theorem ser_ne (f : Nat → Bool) (M : Nat) (c : Int) (n : Nat) (hn : n < M) (h1 : f n = true) (h2 : ∀ i : Nat, i < M → f i = true → c ≤ i ∧ i < c + 32) : ser f M ≠ 0#32 := by
  obtain ⟨a, ha, hfa, hless⟩ := least f n h1
  refine ser_ne_first f M a (by omega) hfa hless (fun i h3 h4 => ?_)
  cases hf : f i with
  | false => rfl
  | true =>
    have := h2 i h4 hf
    have := h2 a (by omega) hfa
    omega

/-- Bit i of some bytes. -/
def bitAt (l : List UInt8) (i : Nat) : Bool := (l.getD (i / 8) 0).toBitVec.getLsbD (i % 8)

theorem low_byte (b : UInt8) : low (ofByte b) 8 = ofByte b := by
  apply BitVec.eq_of_getLsbD_eq
  intro i hi
  rw [low_bit _ 8 i (by omega)]
  by_cases h : i < 8
  · simp [h]
  · have : (ofByte b).getLsbD i = false := by
      unfold ofByte
      rw [BitVec.getLsbD_setWidth]
      simp [BitVec.getLsbD_of_ge b.toBitVec i (by omega)]
    simp [h, this]

theorem reg_ser_take (l : List UInt8) (k : Nat) : k ≤ l.length → reg 0#32 (l.take k) = ser (bitAt l) (8 * k) := by
  induction k with
  | zero => intro _; rfl
  | succ k ih =>
    intro hk
    rw [List.take_succ_eq_append_getElem (by omega), reg_snoc, ih (by omega), Nat.mul_succ]
    rw [ser_stretch (bitAt l) (8 * k) (ofByte l[k]) 8 (by omega), low_byte]
    · rfl
    · intro i hi
      have e1 : (8 * k + i) / 8 = k := by omega
      have e2 : (8 * k + i) % 8 = i := by omega
      have e3 : l.getD k 0 = l[k] := by rw [List.getD_eq_getElem?_getD, List.getElem?_eq_getElem (by omega)]; rfl
      unfold bitAt ofByte
      rw [e1, e2, e3, BitVec.getLsbD_setWidth]
      have : i < 32 := by omega
      simp [this]

theorem reg_ser (l : List UInt8) : reg 0#32 l = ser (bitAt l) (8 * l.length) := by
  have := reg_ser_take l l.length (Nat.le_refl _)
  rwa [List.take_length] at this

/-- Two sequences of one length that differ, all differences lying in a window of 32 bits, lead to different registers. -/
theorem reg_burst (r : W) (l m : List UInt8) (hl : l.length = m.length) (c : Int) (n : Nat) (hn : n < 8 * l.length) (h1 : bitAt l n ≠ bitAt m n)
    (h2 : ∀ i : Nat, i < 8 * l.length → bitAt l i ≠ bitAt m i → c ≤ i ∧ i < c + 32) : reg r l ≠ reg r m := by
  intro e
  have hx := reg_xor l m r r hl
  rw [e, BitVec.xor_self, BitVec.xor_self, reg_ser] at hx
  have hlen : (xorL l m).length = l.length := by simp [xorL, hl]
  rw [hlen] at hx
  have hb : ∀ i, i < 8 * l.length → bitAt (xorL l m) i = (bitAt l i ^^ bitAt m i) := by
    intro i hi
    have hi8 : i / 8 < l.length := by omega
    have hi8' : i / 8 < m.length := by omega
    have : (xorL l m).getD (i / 8) 0 = l.getD (i / 8) 0 ^^^ m.getD (i / 8) 0 := by
      simp [xorL, List.getElem?_zipWith, List.getElem?_eq_getElem hi8, List.getElem?_eq_getElem hi8']
    unfold bitAt
    rw [this, UInt8.toBitVec_xor, BitVec.getLsbD_xor]
  refine ser_ne (bitAt (xorL l m)) (8 * l.length) c n hn ?_ ?_ hx
  · rw [hb n hn]
    revert h1
    cases bitAt l n <;> cases bitAt m n <;> simp
  · intro i hi hf
    refine h2 i hi ?_
    rw [hb i hi] at hf
    revert hf
    cases bitAt l i <;> cases bitAt m i <;> simp

theorem sum_burst (l m : List UInt8) (hl : l.length = m.length) (c : Int) (n : Nat) (hn : n < 8 * l.length) (h1 : bitAt l n ≠ bitAt m n)
    (h2 : ∀ i : Nat, i < 8 * l.length → bitAt l i ≠ bitAt m i → c ≤ i ∧ i < c + 32) : sum l ≠ sum m :=
  fun e => reg_burst _ l m hl c n hn h1 h2 (not_inj e)

/-! ### The trailer -/

/-- The four bytes of a word, the least significant one first. -/
def trailer (s : W) : List UInt8 := [⟨s.setWidth 8⟩, ⟨(s >>> 8).setWidth 8⟩, ⟨(s >>> 16).setWidth 8⟩, ⟨(s >>> 24).setWidth 8⟩]

theorem reg_four (r : W) (s : W) : reg r (trailer s) = bitN 32 (r ^^^ s) := by
  have h8 : ∀ x y : W, bitN 8 (x ^^^ y) = (y >>> 8) ^^^ bitN 8 (x ^^^ (y &&& 255#32)) := by
    intro x y
    rw [bitN_xor, bitN8 y, bitN_xor, ← BitVec.xor_assoc, BitVec.xor_comm (bitN 8 x), BitVec.xor_assoc]
  have step : ∀ (x y : W), byte x ⟨y.setWidth 8⟩ = bitN 8 (x ^^^ (y &&& 255#32)) := by
    intro x y
    have : ofByte ⟨y.setWidth 8⟩ = y &&& 255#32 := by
      apply BitVec.eq_of_getLsbD_eq
      intro i hi
      have h255 : ∀ j : Nat, j < 32 → (255#32).getLsbD j = decide (j < 8) := by decide
      simp only [ofByte, BitVec.getLsbD_setWidth, BitVec.getLsbD_and, h255 i hi, hi, decide_true, Bool.true_and]
      cases y.getLsbD i <;> simp
    rw [byte, this]
  have e32 : ∀ x : W, bitN 32 x = bitN 8 (bitN 8 (bitN 8 (bitN 8 x))) := fun x => by
    rw [show 32 = 8 + (8 + (8 + 8)) from rfl, bitN_add, bitN_add, bitN_add]
  have sh : ∀ (y : W) (n : Nat), (y >>> n) >>> 8 = y >>> (n + 8) := fun y n => (BitVec.shiftRight_add ..).symm
  have z : s >>> 32 = 0#32 := by
    apply BitVec.eq_of_getLsbD_eq
    intro i hi
    rw [BitVec.getLsbD_ushiftRight, BitVec.getLsbD_of_ge s _ (by omega), BitVec.getLsbD_zero]
  have e1 : bitN 8 (r ^^^ s) = byte r ⟨s.setWidth 8⟩ ^^^ (s >>> 8) := by rw [h8, step, BitVec.xor_comm]
  have e2 : ∀ x : W, bitN 8 (x ^^^ (s >>> 8)) = byte x ⟨(s >>> 8).setWidth 8⟩ ^^^ (s >>> 16) := fun x => by rw [h8, step, BitVec.xor_comm, sh]
  have e3 : ∀ x : W, bitN 8 (x ^^^ (s >>> 16)) = byte x ⟨(s >>> 16).setWidth 8⟩ ^^^ (s >>> 24) := fun x => by rw [h8, step, BitVec.xor_comm, sh]
  have e4 : ∀ x : W, bitN 8 (x ^^^ (s >>> 24)) = byte x ⟨(s >>> 24).setWidth 8⟩ := fun x => by rw [h8, step, BitVec.xor_comm, sh, z, BitVec.xor_zero]
  rw [e32, e1, e2, e3, e4]
  rfl

theorem sum_four_inj {x y : W} (h : sum (trailer x) = sum (trailer y)) : x = y := by
  unfold sum sumFrom at h
  have h1 := not_inj h
  rw [reg_four, reg_four] at h1
  have h2 := congrArg (fun t => ~~~0#32 ^^^ t) (bitN_inj 32 h1)
  simpa only [← BitVec.xor_assoc, BitVec.xor_self, BitVec.zero_xor] using h2

/-- The sum of a sequence with its trailer is one and the same. -/
theorem reg_whole (l : List UInt8) (s : W) : reg (~~~0#32) (l ++ trailer s) = bitN 32 (~~~(sum l) ^^^ s) := by
  rw [reg_append, reg_four]
  unfold sum sumFrom
  rw [BitVec.not_not]

theorem sum_whole (l : List UInt8) : sum (l ++ trailer (sum l)) = ~~~ bitN 32 (BitVec.allOnes 32) := by
  show ~~~ reg (~~~0#32) (l ++ trailer (sum l)) = _
  rw [reg_whole]
  congr 2
  rw [not_eq_xor, BitVec.xor_assoc, BitVec.xor_comm (BitVec.allOnes 32), ← BitVec.xor_assoc, BitVec.xor_self, BitVec.zero_xor]

end Go.Proofs.Ytgibfagnfhgelaa.Crc
