/- WALKS of the laws of the digest layer: DigestByte. -/
import Derived.Test.YtmlmgpliajffnaaDigH
namespace Go.Proofs.Ytmlmgpliajffnaa
open Go.RowKit

def YesOf (w : World) (e : Ending) (w' : World) : Prop := e = .returned (.bool true) ∧ Below w.heap.size w w'

theorem u8_eq0 (v : UInt8) : ((v.toNat : Int) == 0) = (v == 0) := by
  rw [Bool.eq_iff_iff]; simp [← UInt8.toNat_inj]
theorem u8_xor (a b : UInt8) : bits .xor .u8 (a.toNat : Int) (b.toNat : Int) = ((a ^^^ b).toNat : Int) := by
  show IntKind.u8.wrap ((BitVec.ofInt 8 (a.toNat : Int) ^^^ BitVec.ofInt 8 (b.toNat : Int)).toNat : Int) = _
  rw [show BitVec.ofInt 8 (a.toNat : Int) = a.toBitVec by apply BitVec.eq_of_toNat_eq; simp, show BitVec.ofInt 8 (b.toNat : Int) = b.toBitVec by apply BitVec.eq_of_toNat_eq; simp]
  exact u8_of_u8 (a ^^^ b)

set_option maxHeartbeats 1000000 in
theorem byte_law (x : Option Addr) (l : List UInt8) (c : Nat) (at_ : Int) (v : UInt8) (w : World) (hx : Bts w x l) (h0 : -9223372036854775808 ≤ at_) (h1 : at_ ≤ 9223372036854775807) (hl63 : l.length ≤ 9223372036854775807) :
    Calls Try.prog 3 #[.slice x l.length c, .int .i64 at_, .int .u8 (v.toNat : Int)] w (YesOf w) := by
  by_cases c0 : l.length = 0
  · have y0_0 : ((l.length : Int) == 0) = true := by rw [c0]; rfl
    go_enter Try.func3, Try.ntmps3
    go_wp2_with fail
    refine (awake_any _).mono ?_
    rintro e w' ⟨rfl, hb⟩
    go_wp2_with fail
    go_ret
    exact ⟨rfl, hb⟩
  · have y0_0 : ((l.length : Int) == 0) = false := by simp only [beq_eq_false_iff_ne, ne_eq]; omega
    by_cases c1 : 300 < (l.length : Int)
    · have y1_0 : decide (300 < (l.length : Int)) = true := decide_eq_true c1
      go_enter Try.func3, Try.ntmps3
      go_wp2_with fail
      refine (awake_any _).mono ?_
      rintro e w' ⟨rfl, hb⟩
      go_wp2_with fail
      go_ret
      exact ⟨rfl, hb⟩
    · have y1_0 : decide (300 < (l.length : Int)) = false := decide_eq_false c1
      by_cases c2 : at_ < 0
      · have y2_0 : decide (at_ < 0) = true := decide_eq_true c2
        go_enter Try.func3, Try.ntmps3
        go_wp2_with fail
        refine (awake_any _).mono ?_
        rintro e w' ⟨rfl, hb⟩
        go_wp2_with fail
        go_ret
        exact ⟨rfl, hb⟩
      · have y2_0 : decide (at_ < 0) = false := decide_eq_false c2
        by_cases c3 : (l.length : Int) ≤ at_
        · have y3_0 : decide ((l.length : Int) ≤ at_) = true := decide_eq_true c3
          go_enter Try.func3, Try.ntmps3
          go_wp2_with fail
          refine (awake_any _).mono ?_
          rintro e w' ⟨rfl, hb⟩
          go_wp2_with fail
          go_ret
          exact ⟨rfl, hb⟩
        · have y3_0 : decide ((l.length : Int) ≤ at_) = false := decide_eq_false c3
          have hl0 : 0 < l.length := by omega
          obtain ⟨i, rfl⟩ : ∃ i : Nat, at_ = (i : Int) := ⟨at_.toNat, by omega⟩
          have hi : i < l.length := by omega
          have hq : (Dig.ofL (l.set i (l.getD i 0 ^^^ v)) == Dig.ofL l) = (v == 0) := by
            have hlaw := Dig.ofL_set l i hi (l.getD i 0 ^^^ v)
            have hgi : l.getD i 0 = l[i] := by rw [List.getD_eq_getElem?_getD, List.getElem?_eq_getElem hi]; rfl
            rw [hgi] at hlaw ⊢
            rw [Bool.eq_iff_iff]
            simp only [beq_iff_eq]
            rw [hlaw]
            constructor
            · intro h
              have := congrArg (l[i] ^^^ ·) h
              simpa [← UInt8.xor_assoc] using this
            · intro h; rw [h]; simp
          obtain ⟨b, o, rfl, hc⟩ := hx.resolve_left (by intro e; subst e; simp at hl0)
          have hx : Bts w (some ⟨b, o, none⟩) l := .inr ⟨b, o, rfl, hc⟩
          have hll : l.length ≤ 300 := by omega
          obtain ⟨u, hu⟩ : ∃ u, l.getD i 0 = u := ⟨_, rfl⟩
          rw [hu] at hq
          obtain ⟨uv, huv⟩ : ∃ uv, u ^^^ v = uv := ⟨_, rfl⟩
          have hxv : bits .xor .u8 (u.toNat : Int) (v.toNat : Int) = (uv.toNat : Int) := by rw [u8_xor, huv]
          rw [huv] at hq
          have HQ := Lib.hid hq
          clear hq
          clear hc c0 c1 c2 c3
          go_enter Try.func3, Try.ntmps3
          go_wp2_with (at_builtin; refine wpList_app rfl _ _ rfl (l := []) (B := w.heap.size) (OwnsB.made _ _ (Nat.le_refl _)) rfl (m := l) rfl (hx.later (al (Below.refl _ w) _)) (fun h => by cases h) (by simp; omega) (lm := l) rfl (by simp) ?_; intro x' cap' w1 h2 h3 _; obtain ⟨g, rfl⟩ := h2.some_of hl0; have hg := h2.cell i hi; have hf := h2.free i; have hs := h2.set i uv; rw [hu] at hg; have HS := Lib.hid hs; have hlow := (h2.low g rfl).1; have hB1 := (al (Below.refl _ w) _).trans h3; clear hs h2 h3 hu huv)
          have hw2 : Bts ((w1.setCell ⟨g, i, none⟩ (.int .u8 (uv.toNat : Int)))) (some ⟨b, o, none⟩) l := hx.later (hB1.setCell hlow _)
          refine (of_any _ l c _ (by omega) hw2).mono ?_
          rintro e w2 ⟨rfl, hb2⟩
          have ho := HS.out.later hb2
          obtain ⟨lm, hlm⟩ : ∃ lm, l.set i uv = lm := ⟨_, rfl⟩
          rw [hlm] at ho
          have hll2 : lm.length = l.length := by rw [← hlm]; simp
          have HL := Lib.hid hll2
          clear hll2
          have hq := HQ.out
          rw [hlm] at hq
          have hb := ho.bts
          have hB2 := thru (hB1.setCell (p := ⟨g, i, none⟩) hlow (.int .u8 (uv.toNat : Int))) hb2
          clear hlm HS HQ hw2 hx hB1 hb2 ho
          go_wp2_with fail
          have co := of_any (some ⟨g, 0, none⟩) lm cap' w2 (by rw [HL.out]; omega) hb
          rw [HL.out] at co
          refine co.mono ?_
          clear co hb
          rintro e w3 ⟨rfl, hb3⟩
          have h0v := u8_eq0 v
          rw [Bool.beq_comm] at hq
          go_wp2_with fail
          refine (awake_any _).mono ?_
          rintro e w' ⟨rfl, hb⟩
          go_wp2_with fail
          go_ret
          exact ⟨rfl, thru (thru hB2 hb3) hb⟩

end Go.Proofs.Ytmlmgpliajffnaa
