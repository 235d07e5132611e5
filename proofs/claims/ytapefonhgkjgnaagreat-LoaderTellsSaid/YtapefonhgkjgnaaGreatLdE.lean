/- WALKS of the loader: little, value; append of a string; bytes.Clone. -/
import Derived.Lib.AppendStr
import Derived.Test.YtapefonhgkjgnaaGreatLdP
set_option maxRecDepth 20000
namespace Go.Proofs.YtapefonhgkjgnaaGreat
open Go.RowKit

theorem str_under : Tryz.prog.underlying 9 = some .string := by kernel_rfl
/-- append of a string to a row of the call's own. -/
theorem wpList_appStr {ops : Array Oper} {rest : List Oper} {o : Oper} {a : Act} {w : World} {Q : Exit → Act → World → Prop} (hg : o.guard = none) (s x : Operand) (ho : o.op = .call { callee := .builtin .append, args := #[s, x], argTypes := #[22, 9] })
    {B : Nat} {xa : Option Addr} {cap : Nat} {l : List UInt8} (hown : OwnsB B w xa cap l) (hs : a.eval s = .slice xa l.length cap)
    {m : List UInt8} (hx : a.eval x = .string ⟨m.toArray⟩) (hl : l.length + m.length ≤ 10000000) {lm : List UInt8} (hlm : l ++ m = lm) (hB : B ≤ w.heap.size)
    (h : ∀ x' cap' w', OwnsB B w' x' cap' lm → Below B w w' → Turns (RowOf xa) w w' → wpList Tryz.prog ops Q rest (a.put o.dst (.slice x' lm.length cap')) w') : wpList Tryz.prog ops Q (o :: rest) a w := by
  subst hlm
  obtain ⟨i0, hi, hz0, hz1, hz2⟩ := info_parts infoByte
  refine Lib.wpList_append_own_string w hg s x 22 9 ho B 5 i0 Tryz.underlying22 str_under hi hz0 hz1 hz2 _ _ _ hs hown ⟨m.toArray⟩ hx ?_ ?_ hB fun v' w' h1 h2 _ => ?_
  · show l.length + m.toArray.size ≤ maxLen
    rw [List.size_toArray]; unfold maxLen; omega
  · show l.length + m.toArray.size ≤ _
    rw [List.size_toArray]; omega
  · have hsz : (⟨m.toArray⟩ : ByteArray).size = m.length := by show m.toArray.size = _; rw [List.size_toArray]
    have hcs : Lib.strCells ⟨m.toArray⟩ = m.map encB := by unfold Lib.strCells; rfl
    rw [hsz, hcs] at h1
    obtain ⟨x', cap', rfl⟩ := owns_form h1
    have hlen : l.length + m.length = (l ++ m).length := by simp
    rw [hlen, ← List.map_append] at h1
    rw [hlen]
    refine h x' cap' w' h1 ((Below.refl _ _).grown h2 hB (fun k e => ?_)) (Turns.of_grownBy h2 (fun b e => ?_))
    · exact (OwnsB.low hown k (by unfold RowOf; cases xa <;> exact e)).1
    · unfold RowOf; cases xa <;> exact e

def OwnOf (l : List UInt8) (w : World) (e : Ending) (w' : World) : Prop := ∃ y cy, e = .returned (.slice y l.length cy) ∧ OwnsB w.heap.size w' y cy l ∧ Below w.heap.size w w'

set_option maxHeartbeats 400000 in
theorem value_any (x : Option Addr) (l : List UInt8) (c : Nat) (w : World) (hx : Bts w x l) (h8 : l.length ≤ 8) : Calls Tryz.prog 31 #[.slice x l.length c] w fun e w' => e = .returned (.int .u64 (num (Sgn.wd l 0 l.length))) ∧ w' = w := by
  obtain ⟨n, hn⟩ : ∃ n, l.length = n := ⟨_, rfl⟩
  have HN := Lib.hid hn
  rw [hn] at h8 ⊢
  clear hn
  go_enter Tryz.func31, Tryz.ntmps31
  go_wp2_with fail
  go_loopw [3, 8] (fun u3 u8 wr => ∃ k : Nat, k ≤ n ∧ u8 = .int .i64 (k : Int) ∧ u3 = .int .u64 (num (Sgn.wd l 0 k)) ∧ wr = w) (fun _ u8 _ => n - (intOf u8).toNat)
  case atStart => exact ⟨0, by omega, rfl, rfl, rfl⟩
  case round =>
    obtain ⟨k, hk, rfl, rfl, rfl⟩ := hrel
    by_cases hlt : k < n
    · have hki : decide ((k : Int) < (n : Int)) = true := by simp; omega
      obtain ⟨g, o, rfl, hc⟩ := hx.at (by have := HN.out; omega)
      have kc := hc k (by have := HN.out; omega)
      have hsn := Sgn.wd_snoc l 0 k
      rw [Nat.zero_add] at hsn
      obtain ⟨v, hv⟩ : ∃ v, l.getD k 0 = v := ⟨_, rfl⟩
      rw [hv] at kc hsn
      obtain ⟨z, hz⟩ : ∃ z, 8 * k = z := ⟨_, rfl⟩
      have hzI : 8 * (k : Int) = (z : Int) := by omega
      have hz64 : z < 64 := by omega
      rw [hz] at hsn
      have hsh := shl_byte v z
      have hwv : IntKind.u64.wrap (v.toNat : Int) = (v.toNat : Int) := by have := v.toNat_lt; rw [wrap64u]; omega
      obtain ⟨y, hy⟩ : ∃ y, Dig.ofB v <<< z = y := ⟨_, rfl⟩
      rw [hy] at hsh hsn
      obtain ⟨q, hq⟩ : ∃ q, Sgn.wd l 0 k = q := ⟨_, rfl⟩
      rw [hq] at hsn ⊢
      have HS := Lib.hid hsn
      clear hv hz hy hq hsn hx hc
      go_wp2_with fail
      exact ⟨⟨k + 1, by omega, by go_num, by rw [HS.out], trivial⟩, by simp [intOf]; omega⟩
    · obtain rfl : k = n := by omega
      go_wp2_with fail
      go_ret
      exact ⟨rfl, rfl⟩

def LiRel (v m : Nat) (W : World) (u5 ui : Value) (wr : World) : Prop :=
  ∃ i y cy, i ≤ m ∧ u5 = .slice y (Ld.le v i).length cy ∧ ui = .int .i64 (i : Int) ∧ OwnsB W.heap.size wr y cy (Ld.le v i) ∧ Below W.heap.size W wr
theorem u8_shr (v z : Nat) : IntKind.u8.wrap ((v : Int) / 2 ^ z) = ((UInt8.ofNat (v / 2 ^ z)).toNat : Int) := by
  rw [UInt8.toNat_ofNat']
  have h : ((v : Int) / 2 ^ z) = ((v / 2 ^ z : Nat) : Int) := by simp
  rw [h]
  generalize v / 2 ^ z = q
  simp [IntKind.wrap, IntKind.bits, IntKind.signed]
set_option maxHeartbeats 400000 in
theorem little_any (v n : Nat) (w : World) (hn : n ≤ 4) : Calls Tryz.prog 63 #[.int .u32 (v : Int), .int .i64 (n : Int)] w (OwnOf (Ld.le v n) w) := by
  go_enter Tryz.func63, Tryz.ntmps63
  go_wp2_with fail
  go_loopw [5, 8] (fun u5 u8 wr => LiRel v n w u5 u8 wr) (fun _ u8 _ => n - (intOf u8).toNat)
  case atStart => exact ⟨0, none, 0, by omega, rfl, rfl, OwnsB.nil _ _, Below.refl _ _⟩
  case round =>
    obtain ⟨i, y, cy, hi, rfl, rfl, hown, hB⟩ := hrel
    by_cases hlt : i < n
    · have hki : decide ((i : Int) < (n : Int)) = true := by simp; omega
      have hll := Ld.le_len i v
      have hE := Ld.le_snoc i v
      obtain ⟨l, hl⟩ : ∃ l, Ld.le v i = l := ⟨_, rfl⟩
      rw [hl] at hown hE hll ⊢
      obtain ⟨z, hz⟩ : ∃ z, 8 * i = z := ⟨_, rfl⟩
      have hzI : 8 * (i : Int) = (z : Int) := by omega
      have hz64 : z < 32 := by omega
      have hp : 256 ^ i = 2 ^ z := by rw [← hz, Nat.pow_mul]
      rw [hp] at hE
      have hsh := u8_shr v z
      obtain ⟨u, hu⟩ : ∃ u, UInt8.ofNat (v / 2 ^ z) = u := ⟨_, rfl⟩
      rw [hu] at hsh hE
      obtain ⟨lm, hlm⟩ : ∃ lm, l ++ [u] = lm := ⟨_, rfl⟩
      rw [hlm] at hE
      have HLL := Lib.hid (show l.length ≤ 4 by omega)
      have HM := Lib.hid hE
      have HE := Lib.hid hlm
      have HO := Lib.hid hown
      clear hl hz hp hu hE hlm hown hll
      go_wp2_with (at_builtin; refine wpList_app rfl _ _ rfl (B := w.heap.size) (l := l) (y := some ⟨wr.heap.size, 0, none⟩) (m := [u]) (HO.out.turn ((Turns.refl (fun _ => False) wr).alloc _) (fun _ _ h => h)) rfl rfl (bts_one wr u _ _) (fun h => by cases h) (by have := HLL.out; simp; omega) HE.out (by have := hB.size; simp; omega) ?_; intro x' cap' w1 h1 h2 _; refine Hid.out ?_)
      unfold Hid
      have hB1 := hB.trans (((Below.refl w.heap.size wr).alloc hB.size _).trans h2)
      have H1 := Lib.hid h1
      clear h1 h2 hB HO
      go_wp2_with fail
      exact ⟨⟨i + 1, x', cap', by omega, by rw [HM.out], by go_num, by rw [HM.out]; exact H1.out, hB1⟩, by simp [intOf]; omega⟩
    · obtain rfl : i = n := by omega
      go_wp2_with fail
      go_ret
      exact ⟨y, cy, rfl, hown, hB⟩

set_option maxHeartbeats 400000 in
theorem bclone_any (x : Option Addr) (l : List UInt8) (cap : Nat) (w : World) (hx : Bts w x l) (hl : l.length ≤ 100000) :
    Calls Tryz.prog 32 #[.slice x l.length cap] w (OwnOf l w) := by
  have q : ∀ (w : World) (a : Option Addr) (n c n' c' : Nat), (binOp .eql 22 (.slice a n c) (.slice none n' c')).run Tryz.prog w = .ok (.bool a.isNone) w := fun w a n c n' c' => Lib.run_eql_slice_nil w _ _ a n c n' c' Tryz.underlying22
  obtain ⟨i0, hi, hz0, hz1, hz2⟩ := info_parts infoByte
  cases x with
  | none =>
    have h0 : l = [] := by
      rcases hx with h | ⟨b, o, hx, _⟩
      · exact h
      · cases hx
    subst h0
    go_enter Tryz.func32, Tryz.ntmps32
    go_wp2
    go_ret
    exact ⟨_, _, rfl, World.ownsRow_nil _ _ _ _, Below.refl _ _⟩
  | some a =>
    have hn := news_of_bts (hx.later ((Below.refl _ w).alloc (Nat.le_refl _) (.cells #[] 5)))
    have hm := World.ownsRow_made (base := w.heap.size) (e := 5) (size := 1) w #[] 0 (Nat.le_refl _) (by unfold maxLen; omega) rfl
    have HN := Lib.hid hn
    clear hn
    go_enter Tryz.func32, Tryz.ntmps32
    go_wp2_with (at_builtin; refine wpList_append_own _ rfl _ _ 22 rfl w.heap.size 5 i0 (.int .u8 0) 1 1 Tryz.underlying22 hi hz0 hz1 hz2 rfl (by decide) _ _ _ rfl hm a l.length cap (l.map encB) rfl (by simp) HN.out ?c2 ?c3 ?c4 ?c5 ?_)
    case c2 => intro u hu; simp at hu; obtain ⟨b, _, rfl⟩ := hu; rfl
    case c3 => unfold maxLen; omega
    case c4 => omega
    case c5 => simp
    intro v' w1 hown hgrow _
    obtain ⟨x', cap', rfl⟩ := owns_form hown
    try simp only [Nat.zero_add, List.nil_append] at hown
    have hb : Below w.heap.size w w1 := ((Below.refl _ w).alloc (Nat.le_refl _) _).grown hgrow (by simp) (fun k e => by cases e; exact Nat.le_refl _)
    clear HN hm hgrow
    go_wp2
    go_ret
    exact ⟨x', cap', rfl, hown, hb⟩

end Go.Proofs.YtapefonhgkjgnaaGreat
