/- Plain facts on software and its form. No program is in sight here. -/
import Derived.Test.YtapefonhgkjgnaaGreatLdB
namespace Go.Proofs.YtapefonhgkjgnaaGreat
namespace Ld
open Dig Sgn

/-- The number with these bytes, the least significant one first. -/
def nat : List UInt8 → Nat
  | [] => 0
  | b :: l => b.toNat + 256 * nat l
/-- The n bytes of a number. -/
def le (x : Nat) : Nat → List UInt8
  | 0 => []
  | n + 1 => UInt8.ofNat x :: le (x / 256) n
theorem le_len : ∀ (n x : Nat), (le x n).length = n
  | 0, _ => rfl
  | n + 1, x => by show (le (x / 256) n).length + 1 = n + 1; rw [le_len n]
theorem nat_le : ∀ (n x : Nat), nat (le x n) = x % 256 ^ n
  | 0, x => by show 0 = x % 1; omega
  | n + 1, x => by
    show (UInt8.ofNat x).toNat + 256 * nat (le (x / 256) n) = _
    have e : 256 ^ (n + 1) = 256 * 256 ^ n := by rw [Nat.pow_succ, Nat.mul_comm]
    rw [nat_le n, e, Nat.mod_mul, UInt8.toNat_ofNat']
theorem nat_lt : ∀ l : List UInt8, nat l < 256 ^ l.length
  | [] => by decide
  | b :: l => by
    have h := nat_lt l
    have hb := b.toNat_lt
    show b.toNat + 256 * nat l < 256 ^ (l.length + 1)
    rw [Nat.pow_succ]
    omega
theorem le_nat : ∀ l : List UInt8, le (nat l) l.length = l
  | [] => rfl
  | b :: l => by
    have hb := b.toNat_lt
    show UInt8.ofNat (b.toNat + 256 * nat l) :: le ((b.toNat + 256 * nat l) / 256) l.length = b :: l
    rw [show (b.toNat + 256 * nat l) / 256 = nat l by omega, le_nat l]
    congr 1
    apply UInt8.toNat_inj.mp
    rw [UInt8.toNat_ofNat']
    omega
theorem le_snoc : ∀ (n x : Nat), le x (n + 1) = le x n ++ [UInt8.ofNat (x / 256 ^ n)]
  | 0, x => by show [UInt8.ofNat x] = [UInt8.ofNat (x / 1)]; rw [Nat.div_one]
  | n + 1, x => by
    show UInt8.ofNat x :: le (x / 256) (n + 1) = (UInt8.ofNat x :: le (x / 256) n) ++ _
    rw [le_snoc n, List.cons_append, Nat.div_div_eq_div_mul, Nat.pow_succ, Nat.mul_comm (256 ^ n) 256]
theorem getD_tail (b : UInt8) (l : List UInt8) (o : Nat) : (b :: l).getD (o + 1) 0 = l.getD o 0 := by simp [List.getD_eq_getElem?_getD]
theorem wd_tail (b : UInt8) (l : List UInt8) : ∀ n o, wd (b :: l) (o + 1) n = wd l o n
  | 0, _ => rfl
  | n + 1, o => by show wd (b :: l) (o + 1 + 1) n <<< 8 ||| _ = wd l (o + 1) n <<< 8 ||| _; rw [wd_tail b l n (o + 1), getD_tail]
theorem wd_drop (l : List UInt8) : ∀ (k n o : Nat), wd (l.drop k) o n = wd l (k + o) n := by
  intro k n
  induction n with
  | zero => intro o; rfl
  | succ n ih => intro o; show wd (l.drop k) (o + 1) n <<< 8 ||| _ = wd l (k + o + 1) n <<< 8 ||| _; rw [ih (o + 1)]; simp only [List.getD_eq_getElem?_getD, List.getElem?_drop]; rfl
theorem ofB_toNat (b : UInt8) : (ofB b).toNat = b.toNat := by unfold ofB; rw [BitVec.toNat_setWidth]; have := b.toNat_lt; show b.toNat % _ = _; omega
theorem wd_nat : ∀ l : List UInt8, l.length ≤ 8 → (wd l 0 l.length).toNat = nat l
  | [], _ => rfl
  | b :: l, h => by
    have h1 : l.length ≤ 7 := by simp only [List.length_cons] at h; omega
    have ih := wd_nat l (by omega)
    have hn := nat_lt l
    have hp : 256 ^ l.length ≤ 256 ^ 7 := Nat.pow_le_pow_right (by decide) h1
    have hb := b.toNat_lt
    show (wd (b :: l) (0 + 1) l.length <<< 8 ||| ofB b).toNat = b.toNat + 256 * nat l
    rw [wd_tail, ← horner, BitVec.toNat_add, BitVec.toNat_mul, ih, ofB_toNat]
    show ((256 * nat l) % 2 ^ 64 + b.toNat) % 2 ^ 64 = _
    omega

/-- A piece of software. -/
structure Sw where
  name : List UInt8
  ver : Int
  img : List UInt8
  key : Int
  ch : Nat → D
  path : List D
/-- Only eighteen values count. -/
def cut18 (f : Nat → D) (j : Nat) : D := if j < 18 then f j else 0#64
theorem cut18_idem (f : Nat → D) : cut18 (cut18 f) = cut18 f := by funext j; unfold cut18; split <;> rfl
theorem cut18_lt (f : Nat → D) (j : Nat) (h : j < 18) : cut18 f j = f j := if_pos h
def Sw.vld (s : Sw) : Bool := decide (1 ≤ s.name.length) && (decide (s.name.length ≤ 24) && (decide (0 ≤ s.ver) && (decide (s.ver ≤ 1048576) && (decide (s.img.length ≤ 400) && vldG (s.path.length : Int) s.key))))
theorem vldG_iff (n : Nat) (q : Int) : vldG (n : Int) q = true ↔ n ≤ 6 ∧ 0 ≤ q ∧ q < 2 ^ n := by
  unfold vldG
  rw [decide_eq_true_iff, Int.toNat_natCast]
  constructor
  · rintro ⟨_, h, h0, h1⟩; exact ⟨by omega, h0, h1⟩
  · rintro ⟨h, h0, h1⟩; exact ⟨by omega, by omega, h0, h1⟩
theorem Sw.vld_iff (s : Sw) : s.vld = true ↔ (1 ≤ s.name.length ∧ s.name.length ≤ 24) ∧ (0 ≤ s.ver ∧ s.ver ≤ 1048576) ∧ s.img.length ≤ 400 ∧ s.path.length ≤ 6 ∧ 0 ≤ s.key ∧ s.key < 2 ^ s.path.length := by
  unfold Sw.vld
  simp only [Bool.and_eq_true, decide_eq_true_eq, vldG_iff]
  constructor
  · rintro ⟨a, b, c, d, e, f⟩; exact ⟨⟨a, b⟩, ⟨c, d⟩, e, f⟩
  · rintro ⟨⟨a, b⟩, ⟨c, d⟩, e, f⟩; exact ⟨a, b, c, d, e, f⟩
def cont (s : Sw) : List UInt8 := [UInt8.ofNat s.name.length] ++ s.name ++ le s.ver.toNat 4 ++ le s.img.length 2 ++ s.img
theorem cont_len (s : Sw) : (cont s).length = 7 + s.name.length + s.img.length := by
  unfold cont
  simp only [List.length_append, le_len, List.length_cons, List.length_nil]
  omega
def form (s : Sw) : List UInt8 := cont s ++ enc s.key.toNat s.ch s.path
theorem form_len (s : Sw) : (form s).length = 153 + s.name.length + s.img.length + 8 * s.path.length := by
  unfold form
  rw [List.length_append, cont_len, enc_length]
  omega

/-- One step of reading: n bytes, what is left, and whether too few were there. -/
def tk (n : Nat) (r : List UInt8 × Bool) : List UInt8 × (List UInt8 × Bool) := if r.1.length < n then (List.replicate n 0, (r.1, true)) else (r.1.take n, (r.1.drop n, r.2))
theorem tk_len (n : Nat) (r : List UInt8 × Bool) : (tk n r).1.length = n := by
  unfold tk
  split
  · simp
  · simp only [List.length_take]; omega
theorem tk_long (n : Nat) (r : List UInt8 × Bool) (h : (tk n r).2.2 = false) : r.2 = false ∧ r.1 = (tk n r).1 ++ (tk n r).2.1 := by
  unfold tk at h ⊢
  split at h
  · exact absurd h (by simp)
  · rename_i hn
    rw [if_neg hn]
    exact ⟨h, (List.take_append_drop n r.1).symm⟩
theorem tk_app (a b : List UInt8) (n : Nat) (f : Bool) (h : a.length = n) : tk n (a ++ b, f) = (a, (b, f)) := by
  unfold tk
  rw [if_neg (by simp only [List.length_append]; omega)]
  subst h
  simp
def r1 (d : List UInt8) := tk 1 (d, false)
def r2 (d : List UInt8) := tk ((r1 d).1.getD 0 0).toNat (r1 d).2
def r3 (d : List UInt8) := tk 4 (r2 d).2
def r4 (d : List UInt8) := tk 2 (r3 d).2
def r5 (d : List UInt8) := tk (nat (r4 d).1) (r4 d).2
def rest (d : List UInt8) : List UInt8 := (r5 d).2.1
def short (d : List UInt8) : Bool := (r5 d).2.2
/-- What a signature's bytes say. -/
def dKey (l : List UInt8) : Int := if decN l = true then ((l.getD 0 0).toNat : Int) else 0
def dCh (l : List UInt8) : Nat → D := if decN l = true then cut18 (fun i => wd l (2 + 8 * i) 8) else fun _ => 0#64
def dPath (l : List UInt8) : List D := if decN l = true then wds l (l.getD 1 0).toNat else []
def swOf (d : List UInt8) : Sw := ⟨(r2 d).1, (nat (r3 d).1 : Int), (r5 d).1, dKey (rest d), dCh (rest d), dPath (rest d)⟩
def okU (d : List UInt8) : Bool := !short d && (decN (rest d) && (swOf d).vld)
def unp (d : List UInt8) : Option Sw := if okU d = true then some (swOf d) else none

theorem getD_ext {a b : List UInt8} (hl : a.length = b.length) (h : ∀ i, i < a.length → a.getD i 0 = b.getD i 0) : a = b := by
  apply List.ext_getElem hl
  intro i h1 h2
  have := h i h1
  simpa [List.getD_eq_getElem?_getD, List.getElem?_eq_getElem h1, List.getElem?_eq_getElem h2] using this
theorem byteAt_wd (l : List UInt8) (o r : Nat) (hr : r < 8) : byteAt (wd l o 8) r = l.getD (o + r) 0 := by
  apply UInt8.eq_of_toBitVec_eq
  apply BitVec.eq_of_getLsbD_eq
  intro j hj
  show ((wd l o 8 >>> (8 * r)).setWidth 8).getLsbD j = _
  rw [BitVec.getLsbD_setWidth, decide_eq_true hj, Bool.true_and, BitVec.getLsbD_ushiftRight, wd_bit _ _ _ _ (by omega), decide_eq_true (by omega), Bool.true_and]
  rw [show (8 * r + j) / 8 = r by omega, show (8 * r + j) % 8 = j by omega]
theorem bytes_wd (l : List UInt8) (o : Nat) (h : o + 8 ≤ l.length) : Dig.bytes (wd l o 8) = (l.drop o).take 8 := by
  apply getD_ext
  · rw [bytes_length, List.length_take, List.length_drop]; omega
  · intro i hi
    rw [bytes_length] at hi
    rw [bytes_getD _ _ hi, byteAt_wd _ _ _ hi]
    simp only [List.getD_eq_getElem?_getD, List.getElem?_take, List.getElem?_drop, if_pos hi]
theorem decN_iff (l : List UInt8) : decN l = true ↔ 2 ≤ l.length ∧ vldG ((l.getD 1 0).toNat : Int) ((l.getD 0 0).toNat : Int) = true ∧ l.length = 146 + 8 * (l.getD 1 0).toNat := by
  unfold decN
  simp only [Bool.and_eq_true, decide_eq_true_eq]
  constructor
  · rintro ⟨⟨a, b⟩, c⟩; exact ⟨a, b, c⟩
  · rintro ⟨a, b, c⟩; exact ⟨⟨a, b⟩, c⟩
theorem ends_wd (l : List UInt8) (o : Nat) : ∀ n, o + 8 * n ≤ l.length → ends (fun i => wd l (o + 8 * i) 8) n = (l.drop o).take (8 * n)
  | 0, _ => by simp [ends]
  | n + 1, h => by
    show ends _ n ++ Dig.bytes (wd l (o + 8 * n) 8) = _
    rw [ends_wd l o n (by omega), bytes_wd _ _ (by omega), show 8 * (n + 1) = 8 * n + 8 by omega, List.take_add, List.drop_drop]
theorem ends_congrN {e f : Nat → D} (n : Nat) (h : ∀ i, i < n → e i = f i) : ends e n = ends f n := ends_congr n h
theorem wds_getD (l : List UInt8) (n j : Nat) (h : j < n) : (wds l n).getD j 0#64 = wd l (146 + 8 * j) 8 := by
  unfold wds
  rw [List.getD_eq_getElem?_getD, List.getElem?_map, List.getElem?_range h]; rfl
theorem enc_congr (k : Nat) {f g : Nat → D} (p : List D) (h : ∀ i, i < 18 → f i = g i) : enc k f p = enc k g p := by unfold enc; rw [ends_congr 18 h]
/-- The encoding of what is decoded. -/
theorem enc_dec (l : List UInt8) (h : decN l = true) : enc (dKey l).toNat (dCh l) (dPath l) = l := by
  obtain ⟨h2, hv, hl⟩ := (decN_iff l).1 h
  unfold dKey dCh dPath
  rw [if_pos h, if_pos h, if_pos h, Int.toNat_natCast, enc_congr _ _ (fun i hi => cut18_lt _ i hi)]
  unfold enc
  rw [wds_length, ends_wd l 2 18 (by omega), ends_congrN (l.getD 1 0).toNat (fun j hj => wds_getD l _ j hj), ends_wd l 146 _ (by omega)]
  obtain ⟨a, l, rfl⟩ : ∃ a m, l = a :: m := by cases l with | nil => simp at h2 | cons a m => exact ⟨a, m, rfl⟩
  obtain ⟨b, l, rfl⟩ : ∃ a m, l = a :: m := by cases l with | nil => simp at h2 | cons a m => exact ⟨a, m, rfl⟩
  simp only [List.getD_cons_zero, List.getD_cons_succ, UInt8.ofNat_toNat]
  show a :: b :: (((a :: b :: l).drop 2).take 144 ++ ((a :: b :: l).drop 146).take (8 * b.toNat)) = a :: b :: l
  congr 2
  rw [List.take_of_length_le (l := List.drop 146 (a :: b :: l)) (by simp only [List.getD_cons_succ, List.getD_cons_zero] at hl; rw [List.length_drop, hl]; omega)]
  exact List.take_append_drop 144 l

theorem one_getD : ∀ l : List UInt8, l.length = 1 → [l.getD 0 0] = l
  | [_], _ => rfl
theorem r1_len (d : List UInt8) : (r1 d).1.length = 1 := by unfold r1; exact tk_len 1 (d, false)
theorem r2_len (d : List UInt8) : (r2 d).1.length = ((r1 d).1.getD 0 0).toNat := by unfold r2; exact tk_len _ (r1 d).2
theorem r3_len (d : List UInt8) : (r3 d).1.length = 4 := by unfold r3; exact tk_len 4 (r2 d).2
theorem r4_len (d : List UInt8) : (r4 d).1.length = 2 := by unfold r4; exact tk_len 2 (r3 d).2
theorem r5_len (d : List UInt8) : (r5 d).1.length = nat (r4 d).1 := by unfold r5; exact tk_len _ (r4 d).2
theorem r1_long (d : List UInt8) (h : (r1 d).2.2 = false) : False = False ∧ d = (r1 d).1 ++ (r1 d).2.1 := by unfold r1 at h ⊢; exact ⟨rfl, (tk_long 1 (d, false) h).2⟩
theorem r2_long (d : List UInt8) (h : (r2 d).2.2 = false) : (r1 d).2.2 = false ∧ (r1 d).2.1 = (r2 d).1 ++ (r2 d).2.1 := by unfold r2 at h ⊢; exact tk_long _ (r1 d).2 h
theorem r3_long (d : List UInt8) (h : (r3 d).2.2 = false) : (r2 d).2.2 = false ∧ (r2 d).2.1 = (r3 d).1 ++ (r3 d).2.1 := by unfold r3 at h ⊢; exact tk_long 4 (r2 d).2 h
theorem r4_long (d : List UInt8) (h : (r4 d).2.2 = false) : (r3 d).2.2 = false ∧ (r3 d).2.1 = (r4 d).1 ++ (r4 d).2.1 := by unfold r4 at h ⊢; exact tk_long 2 (r3 d).2 h
theorem r5_long (d : List UInt8) (h : short d = false) : (r4 d).2.2 = false ∧ (r4 d).2.1 = (r5 d).1 ++ rest d := by unfold short at h; unfold rest; unfold r5 at h ⊢; exact tk_long _ (r4 d).2 h
theorem swOf_name (d : List UInt8) : (swOf d).name = (r2 d).1 := by simp only [swOf]
theorem swOf_ver (d : List UInt8) : (swOf d).ver = (nat (r3 d).1 : Int) := by simp only [swOf]
theorem swOf_img (d : List UInt8) : (swOf d).img = (r5 d).1 := by simp only [swOf]
theorem swOf_key (d : List UInt8) : (swOf d).key = dKey (rest d) := by simp only [swOf]
theorem swOf_ch (d : List UInt8) : (swOf d).ch = dCh (rest d) := by simp only [swOf]
theorem swOf_path (d : List UInt8) : (swOf d).path = dPath (rest d) := by simp only [swOf]
theorem unp_form {d : List UInt8} {s : Sw} (h : unp d = some s) : form s = d ∧ s.vld = true := by
  unfold unp at h
  split at h
  · rename_i ho
    obtain rfl := Option.some.inj h
    unfold okU at ho
    simp only [Bool.and_eq_true, Bool.not_eq_true'] at ho
    obtain ⟨hs, hd, hv⟩ := ho
    refine ⟨?_, hv⟩
    obtain ⟨s4, e5⟩ := r5_long d hs
    obtain ⟨s3, e4⟩ := r4_long d s4
    obtain ⟨s2, e3⟩ := r3_long d s3
    obtain ⟨s1, e2⟩ := r2_long d s2
    obtain ⟨_, e1⟩ := r1_long d s1
    have n1 : (r1 d).1.length = 1 := r1_len d
    have n2 : (r2 d).1.length = ((r1 d).1.getD 0 0).toNat := r2_len d
    have n3 : (r3 d).1.length = 4 := r3_len d
    have n4 : (r4 d).1.length = 2 := r4_len d
    have n5 : (r5 d).1.length = nat (r4 d).1 := r5_len d
    have hd1 : d = (r1 d).1 ++ ((r2 d).1 ++ ((r3 d).1 ++ ((r4 d).1 ++ ((r5 d).1 ++ rest d)))) := by
      rw [← e5, ← e4, ← e3, ← e2]; exact e1
    have hc : cont (swOf d) = (r1 d).1 ++ (r2 d).1 ++ (r3 d).1 ++ (r4 d).1 ++ (r5 d).1 := by
      unfold cont
      rw [swOf_name, swOf_ver, swOf_img, Int.toNat_natCast, n5, n2]
      have q3 : le (nat (r3 d).1) 4 = (r3 d).1 := by have := le_nat (r3 d).1; rwa [n3] at this
      have q4 : le (nat (r4 d).1) 2 = (r4 d).1 := by have := le_nat (r4 d).1; rwa [n4] at this
      rw [q3, q4, UInt8.ofNat_toNat, one_getD _ n1]
    have he : enc (swOf d).key.toNat (swOf d).ch (swOf d).path = rest d := by
      rw [swOf_key, swOf_ch, swOf_path]; exact enc_dec _ hd
    unfold form
    rw [hc, he]
    simp only [List.append_assoc]
    exact hd1.symm
  · exact absurd h (by simp)

/-- Software with nothing behind the eighteen values. -/
def Sw.N (s : Sw) : Prop := cut18 s.ch = s.ch
theorem two6 {n : Nat} (h : n ≤ 6) : (2 : Int) ^ n ≤ 64 := by
  have h1 : 2 ^ n ≤ 2 ^ 6 := Nat.pow_le_pow_right (by decide) h
  have h2 : ((2 ^ n : Nat) : Int) ≤ ((2 ^ 6 : Nat) : Int) := by exact_mod_cast h1
  simpa using h2
theorem form_unp (s : Sw) (hN : s.N) (hv : s.vld = true) : unp (form s) = some s := by
  obtain ⟨⟨a1, a2⟩, ⟨b1, b2⟩, c, p6, k0, k1⟩ := (Sw.vld_iff s).1 hv
  have kz := two6 p6
  have hf : form s = [UInt8.ofNat s.name.length] ++ (s.name ++ (le s.ver.toNat 4 ++ (le s.img.length 2 ++ (s.img ++ enc s.key.toNat s.ch s.path)))) := by
    unfold form cont; simp only [List.append_assoc]
  have e1 : r1 (form s) = ([UInt8.ofNat s.name.length], (s.name ++ (le s.ver.toNat 4 ++ (le s.img.length 2 ++ (s.img ++ enc s.key.toNat s.ch s.path))), false)) := by
    unfold r1; rw [hf]; exact tk_app _ _ _ _ rfl
  have e2 : r2 (form s) = (s.name, (le s.ver.toNat 4 ++ (le s.img.length 2 ++ (s.img ++ enc s.key.toNat s.ch s.path)), false)) := by
    unfold r2; rw [e1]; refine tk_app _ _ _ _ ?_
    show _ = (UInt8.ofNat s.name.length).toNat
    rw [UInt8.toNat_ofNat']; omega
  have e3 : r3 (form s) = (le s.ver.toNat 4, (le s.img.length 2 ++ (s.img ++ enc s.key.toNat s.ch s.path), false)) := by
    unfold r3; rw [e2]; exact tk_app _ _ _ _ (le_len _ _)
  have e4 : r4 (form s) = (le s.img.length 2, (s.img ++ enc s.key.toNat s.ch s.path, false)) := by
    unfold r4; rw [e3]; exact tk_app _ _ _ _ (le_len _ _)
  have e5 : r5 (form s) = (s.img, (enc s.key.toNat s.ch s.path, false)) := by
    unfold r5; rw [e4]; refine tk_app _ _ _ _ ?_
    show _ = nat (le s.img.length 2)
    rw [nat_le]; omega
  have er : rest (form s) = enc s.key.toNat s.ch s.path := by unfold rest; rw [e5]
  have es : short (form s) = false := by unfold short; rw [e5]
  have g0 : ((enc s.key.toNat s.ch s.path).getD 0 0).toNat = s.key.toNat := by rw [enc_0, UInt8.toNat_ofNat']; omega
  have g1 : ((enc s.key.toNat s.ch s.path).getD 1 0).toNat = s.path.length := by rw [enc_1, UInt8.toNat_ofNat']; omega
  have hd : decN (enc s.key.toNat s.ch s.path) = true := by
    refine (decN_iff _).2 ⟨by rw [enc_length]; omega, ?_, by rw [g1, enc_length]⟩
    rw [g0, g1]
    refine (vldG_iff _ _).2 ⟨p6, by omega, ?_⟩
    rw [Int.toNat_of_nonneg k0]; exact k1
  have hsw : swOf (form s) = s := by
    unfold swOf
    rw [e2, e3, e5, er]
    unfold dKey dCh dPath
    rw [if_pos hd, if_pos hd, if_pos hd, g0, g1, wds_enc]
    have hc : (cut18 fun i => wd (enc s.key.toNat s.ch s.path) (2 + 8 * i) 8) = s.ch := by
      have hN' : cut18 s.ch = s.ch := hN
      funext j
      unfold cut18
      split
      · rename_i hj; exact enc_chain _ _ _ _ hj
      · rename_i hj; rw [← hN']; exact (if_neg hj).symm
    rw [hc, nat_le, Int.toNat_of_nonneg k0]
    have hvr : ((s.ver.toNat % 256 ^ 4 : Nat) : Int) = s.ver := by omega
    rw [hvr]
  unfold unp
  have : okU (form s) = true := by
    unfold okU
    rw [es, er, hd, hsw, hv]; rfl
  rw [if_pos this, hsw]

theorem getD_app1 (a b : List UInt8) (i : Nat) (h : i < a.length) : (a ++ b).getD i 0 = a.getD i 0 := by
  rw [List.getD_eq_getElem?_getD, List.getElem?_append_left h, ← List.getD_eq_getElem?_getD]
theorem getD_app2 (a b : List UInt8) (i : Nat) : (a ++ b).getD (a.length + i) 0 = b.getD i 0 := by
  rw [List.getD_eq_getElem?_getD, List.getElem?_append_right (by omega), Nat.add_sub_cancel_left, ← List.getD_eq_getElem?_getD]
theorem form_max (s : Sw) (hv : s.vld = true) : 154 ≤ (form s).length ∧ (form s).length ≤ 625 := by
  have := form_len s
  obtain ⟨⟨a1, a2⟩, _, c, d, _⟩ := (Sw.vld_iff s).1 hv
  omega
/-- Whether software is signed for a root. -/
def genu (s : Sw) (root : D) (h : Int) : Bool := s.vld && (decide ((s.path.length : Int) = h) && (vfy (ofL (cont s)) s.key.toNat s.ch s.path == root))

end Ld
end Go.Proofs.YtapefonhgkjgnaaGreat
