/- WALKS of the frame layer: Valid, Size, Same, with those of the reference; equality and copies of bytes. -/
import Derived.Test.YtjnjjnkanbnliaaDoorKitB
namespace Go.Proofs.YtjnjjnkanbnliaaDoor
open Go.RowKit

def vldF (v n s : Int) (k : Nat) : Bool := decide (0 ≤ v ∧ v ≤ 15) && (decide (0 ≤ n ∧ n ≤ 1) && (decide (0 ≤ s ∧ s ≤ 255) && decide (1 ≤ (k : Int) ∧ (k : Int) ≤ 64)))
theorem within_any (n lo hi : Int) (w : World) : Calls Tryd.prog 41 #[.int .i64 n, .int .i64 lo, .int .i64 hi] w fun e w' => e = .returned (.bool (decide (lo ≤ n ∧ n ≤ hi))) ∧ w' = w := by
  by_cases h1 : lo ≤ n
  · by_cases h2 : n ≤ hi
    · have HD : Hid (decide (lo ≤ n ∧ n ≤ hi) = true) := decide_eq_true ⟨h1, h2⟩
      go_enter Tryd.func41, Tryd.ntmps41
      go_wp2_with fail
      go_ret
      first | exact ⟨rfl, rfl⟩ | (rw [HD.out]; exact ⟨rfl, rfl⟩)
    · have HD : Hid (decide (lo ≤ n ∧ n ≤ hi) = false) := decide_eq_false (fun h => h2 h.2)
      have d2 : decide (n ≤ hi) = false := decide_eq_false h2
      go_enter Tryd.func41, Tryd.ntmps41
      go_wp2_with fail
      go_ret
      first | exact ⟨rfl, rfl⟩ | (rw [HD.out]; exact ⟨rfl, rfl⟩)
  · have HD : Hid (decide (lo ≤ n ∧ n ≤ hi) = false) := decide_eq_false (fun h => h1 h.1)
    have d1 : decide (lo ≤ n) = false := decide_eq_false h1
    go_enter Tryd.func41, Tryd.ntmps41
    go_wp2_with fail
    go_ret
    first | exact ⟨rfl, rfl⟩ | (rw [HD.out]; exact ⟨rfl, rfl⟩)

set_option maxHeartbeats 800000 in
theorem valid_any (v n s : Int) (x : Option Addr) (k c : Nat) (w : World) : Calls Tryd.prog 28 #[.agg #[.int .i64 v, .int .i64 n, .int .i64 s, .slice x k c]] w fun e w' => e = .returned (.bool (vldF v n s k)) ∧ Below w.heap.size w w' := by
  obtain ⟨b0, h0⟩ : ∃ b, decide (0 ≤ v ∧ v ≤ 15) = b := ⟨_, rfl⟩
  obtain ⟨b1, h1⟩ : ∃ b, decide (0 ≤ n ∧ n ≤ 1) = b := ⟨_, rfl⟩
  obtain ⟨b2, h2⟩ : ∃ b, decide (0 ≤ s ∧ s ≤ 255) = b := ⟨_, rfl⟩
  obtain ⟨b3, h3⟩ : ∃ b, decide (1 ≤ (k : Int) ∧ (k : Int) ≤ 64) = b := ⟨_, rfl⟩
  have HV : Hid (vldF v n s k = (b0 && (b1 && (b2 && b3)))) := by show _ = _; unfold vldF; rw [h0, h1, h2, h3]
  have H0 := Lib.hid h0
  have H1 := Lib.hid h1
  have H2 := Lib.hid h2
  have H3 := Lib.hid h3
  clear h0 h1 h2 h3
  cases b0
  · go_enter Tryd.func28, Tryd.ntmps28
    go_wp2_with fail
    refine (within_any v 0 15 _).mono ?_
    rintro e w1 ⟨rfl, rfl⟩
    rw [H0.out]
    go_wp2_with fail
    go_ret
    rw [HV.out]
    exact ⟨rfl, al (Below.refl _ _) _⟩
  · cases b1
    · go_enter Tryd.func28, Tryd.ntmps28
      go_wp2_with fail
      refine (within_any v 0 15 _).mono ?_
      rintro e w1 ⟨rfl, rfl⟩
      rw [H0.out]
      go_wp2_with fail
      refine (within_any n 0 1 _).mono ?_
      rintro e w2 ⟨rfl, rfl⟩
      rw [H1.out]
      go_wp2_with fail
      go_ret
      rw [HV.out]
      exact ⟨rfl, al (Below.refl _ _) _⟩
    · cases b2
      · go_enter Tryd.func28, Tryd.ntmps28
        go_wp2_with fail
        refine (within_any v 0 15 _).mono ?_
        rintro e w1 ⟨rfl, rfl⟩
        rw [H0.out]
        go_wp2_with fail
        refine (within_any n 0 1 _).mono ?_
        rintro e w2 ⟨rfl, rfl⟩
        rw [H1.out]
        go_wp2_with fail
        refine (within_any s 0 255 _).mono ?_
        rintro e w3 ⟨rfl, rfl⟩
        rw [H2.out]
        go_wp2_with fail
        go_ret
        rw [HV.out]
        exact ⟨rfl, al (Below.refl _ _) _⟩
      · cases b3
        · go_enter Tryd.func28, Tryd.ntmps28
          go_wp2_with fail
          refine (within_any v 0 15 _).mono ?_
          rintro e w1 ⟨rfl, rfl⟩
          rw [H0.out]
          go_wp2_with fail
          refine (within_any n 0 1 _).mono ?_
          rintro e w2 ⟨rfl, rfl⟩
          rw [H1.out]
          go_wp2_with fail
          refine (within_any s 0 255 _).mono ?_
          rintro e w3 ⟨rfl, rfl⟩
          rw [H2.out]
          go_wp2_with fail
          refine (within_any (k : Int) 1 64 _).mono ?_
          rintro e w4 ⟨rfl, rfl⟩
          rw [H3.out]
          go_wp2_with fail
          go_ret
          rw [HV.out]
          exact ⟨rfl, al (Below.refl _ _) _⟩
        · go_enter Tryd.func28, Tryd.ntmps28
          go_wp2_with fail
          refine (within_any v 0 15 _).mono ?_
          rintro e w1 ⟨rfl, rfl⟩
          rw [H0.out]
          go_wp2_with fail
          refine (within_any n 0 1 _).mono ?_
          rintro e w2 ⟨rfl, rfl⟩
          rw [H1.out]
          go_wp2_with fail
          refine (within_any s 0 255 _).mono ?_
          rintro e w3 ⟨rfl, rfl⟩
          rw [H2.out]
          go_wp2_with fail
          refine (within_any (k : Int) 1 64 _).mono ?_
          rintro e w4 ⟨rfl, rfl⟩
          rw [H3.out]
          go_wp2_with fail
          go_ret
          rw [HV.out]
          exact ⟨rfl, al (Below.refl _ _) _⟩

set_option maxHeartbeats 1000000 in
theorem refvalid_any (v n s : Int) (x : Option Addr) (k c : Nat) (w : World) : Calls Tryd.prog 30 #[.agg #[.int .i64 v, .int .i64 n, .int .i64 s, .slice x k c]] w fun e w' => e = .returned (.bool (vldF v n s k)) ∧ Below w.heap.size w w' := by
  obtain ⟨b, hb⟩ : ∃ b, vldF v n s k = b := ⟨_, rfl⟩
  have HB := Lib.hid hb
  rw [hb]
  clear hb
  go_enter Tryd.func30, Tryd.ntmps30
  go_wp2_with fail
  all_goals (go_ret; refine ⟨?_, al (Below.refl _ _) _⟩; rw [← HB.out]; simp [vldF, *])
  all_goals omega

theorem size_any (n : Int) (w : World) : Calls Tryd.prog 15 #[.int .i64 n] w fun e w' => e = .returned (.int .i64 (wrap64 (n + 8))) ∧ w' = w := by
  go_enter Tryd.func15, Tryd.ntmps15
  go_wp2_with fail
  go_ret
  exact ⟨rfl, rfl⟩
theorem refsize_any (n : Int) (w : World) : Calls Tryd.prog 16 #[.int .i64 n] w fun e w' => e = .returned (.int .i64 (wrap64 (n + 8))) ∧ w' = w := by
  go_enter Tryd.func16, Tryd.ntmps16
  go_wp2_with fail
  go_ret
  exact ⟨rfl, rfl⟩

theorem bequal_any (x : Option Addr) (l : List UInt8) (c : Nat) (y : Option Addr) (m : List UInt8) (d : Nat) (w : World) (hx : Bts w x l) (hy : Bts w y m) :
    Calls Tryd.prog 31 #[.slice x l.length c, .slice y m.length d] w fun e w' => e = .returned (.bool (l == m)) ∧ w' = w := by
  have e0 := str_eq l m
  have cv0 := run_conv (P := Tryd.prog) (src := 22) (dst := 9) Tryd.underlying22 Tryd.underlying5 Tryd.underlying9 hx c
  have cv1 := run_conv (P := Tryd.prog) (src := 22) (dst := 9) Tryd.underlying22 Tryd.underlying5 Tryd.underlying9 hy d
  go_enter Tryd.func31, Tryd.ntmps31
  go_wp2_with fail
  go_ret
  exact ⟨rfl, rfl⟩

set_option maxHeartbeats 400000 in
theorem bclone_any (x : Option Addr) (l : List UInt8) (cap : Nat) (w : World) (hx : Bts w x l) (hn : x = none → cap = 0) (hl : l.length ≤ 100000) :
    Calls Tryd.prog 36 #[.slice x l.length cap] w (CloneOf l w) := by
  have q : ∀ (w : World) (a : Option Addr) (n c n' c' : Nat), (binOp .eql 22 (.slice a n c) (.slice none n' c')).run Tryd.prog w = .ok (.bool a.isNone) w := fun w a n c n' c' => Lib.run_eql_slice_nil w _ _ a n c n' c' Tryd.underlying22
  have hB := Below.refl w.heap.size w
  have L0 := Lib.hid (show [] ++ l = l from rfl)
  cases x with
  | none =>
    have h0 : l = [] := by
      rcases hx with h | ⟨b, o, hx, _⟩
      · exact h
      · cases hx
    subst h0
    go_enter Tryd.func36, Tryd.ntmps36
    go_wp2_with fail
    go_ret
    exact ⟨_, _, rfl, OwnsB.nil _ _, hB⟩
  | some a =>
    go_enter Tryd.func36, Tryd.ntmps36
    go_wp2_with (at_builtin; (refine wpList_app rfl _ _ rfl (l := []) (B := w.heap.size) (OwnsB.made' _ (w.heap.size) _ (Nat.le_refl _) rfl) rfl (m := l) rfl (hx.later (al hB _)) hn (by simp; omega) L0.out (by simp) ?_); intro x1 c1 w1 ho hb _; refine Hid.out ?_)
    unfold Hid
    replace hB := (al hB _).trans (hb.mono (by have := hB.size; first | omega | (simp <;> omega)))
    have O1 := Lib.hid ho
    clear ho hb hx L0 q
    go_wp2_with fail
    go_ret
    exact ⟨x1, c1, rfl, O1.out, hB⟩

def sameF (v n s : Int) (l : List UInt8) (v' n' s' : Int) (m : List UInt8) : Bool := (v == v') && ((n == n') && ((s == s') && (l == m)))

set_option maxHeartbeats 800000 in
theorem same17_any (v n s : Int) (x : Option Addr) (l : List UInt8) (c : Nat) (v' n' s' : Int) (y : Option Addr) (m : List UInt8) (d : Nat) (w : World) (hx : Bts w x l) (hy : Bts w y m) :
    Calls Tryd.prog 13 #[.agg #[.int .i64 v, .int .i64 n, .int .i64 s, .slice x l.length c], .agg #[.int .i64 v', .int .i64 n', .int .i64 s', .slice y m.length d]] w fun e w' => e = .returned (.bool (sameF v n s l v' n' s' m)) ∧ Below w.heap.size w w' := by
  by_cases h0 : v = v'
  · subst h0
    by_cases h1 : n = n'
    · subst h1
      by_cases h2 : s = s'
      · subst h2
        have HV : Hid (sameF v n s l v n s m = (l == m)) := by show _ = _; unfold sameF; simp
        go_enter Tryd.func13, Tryd.ntmps13
        go_wp2_with fail
        refine (bequal_any x l c y m d _ (hx.later (al (al (Below.refl _ w) _) _)) (hy.later (al (al (Below.refl _ w) _) _))).mono ?_
        rintro e w1 ⟨rfl, rfl⟩
        go_wp2_with fail
        go_ret
        rw [HV.out]
        exact ⟨rfl, al (al (Below.refl _ w) _) _⟩
      · have q2 : (s == s') = false := by simp only [beq_eq_false_iff_ne, ne_eq]; exact h2
        have HV : Hid (sameF v n s l v n s' m = false) := by show _ = _; unfold sameF; rw [q2]; simp
        go_enter Tryd.func13, Tryd.ntmps13
        go_wp2_with fail
        go_ret
        rw [HV.out]
        exact ⟨rfl, al (al (Below.refl _ w) _) _⟩
    · have q1 : (n == n') = false := by simp only [beq_eq_false_iff_ne, ne_eq]; exact h1
      have HV : Hid (sameF v n s l v n' s' m = false) := by show _ = _; unfold sameF; rw [q1]; simp
      go_enter Tryd.func13, Tryd.ntmps13
      go_wp2_with fail
      go_ret
      rw [HV.out]
      exact ⟨rfl, al (al (Below.refl _ w) _) _⟩
  · have q0 : (v == v') = false := by simp only [beq_eq_false_iff_ne, ne_eq]; exact h0
    have HV : Hid (sameF v n s l v' n' s' m = false) := by show _ = _; unfold sameF; rw [q0]; simp
    go_enter Tryd.func13, Tryd.ntmps13
    go_wp2_with fail
    go_ret
    rw [HV.out]
    exact ⟨rfl, al (al (Below.refl _ w) _) _⟩

def SfRel (va vb : Value) (l m : List UInt8) (w : World) (u5 : Value) (wr : World) : Prop :=
  ∃ k : Nat, k ≤ l.length ∧ u5 = .int .i64 (k : Int) ∧ l.take k = m.take k ∧ wr.cell? ⟨w.heap.size, 3, none⟩ = some va ∧ wr.cell? ⟨w.heap.size + 1, 3, none⟩ = some vb ∧ Below w.heap.size w wr
set_option maxHeartbeats 1000000 in
theorem refsame_any (v n s : Int) (x : Option Addr) (l : List UInt8) (c : Nat) (v' n' s' : Int) (y : Option Addr) (m : List UInt8) (d : Nat) (w : World) (hx : Bts w x l) (hy : Bts w y m) (hl : l.length ≤ 1000000) (hm : m.length ≤ 1000000) :
    Calls Tryd.prog 14 #[.agg #[.int .i64 v, .int .i64 n, .int .i64 s, .slice x l.length c], .agg #[.int .i64 v', .int .i64 n', .int .i64 s', .slice y m.length d]] w fun e w' => e = .returned (.bool (sameF v n s l v' n' s' m)) ∧ Below w.heap.size w w' := by
  by_cases h0 : v = v'
  · subst h0
    by_cases h1 : n = n'
    · subst h1
      by_cases h2 : s = s'
      · subst h2
        by_cases hlen : l.length = m.length
        · have hn : ((l.length : Int) != (m.length : Int)) = false := by simp; omega
          have HV : Hid (sameF v n s l v n s m = (l == m)) := by show _ = _; unfold sameF; simp
          have HL := Lib.hid hlen
          clear hlen
          go_enter Tryd.func14, Tryd.ntmps14
          go_wp2_with fail
          have hB0 := al (al (Below.refl _ w) (.cells #[.int .i64 v, .int .i64 n, .int .i64 s, .slice x l.length c] 24)) (.cells #[.int .i64 v, .int .i64 n, .int .i64 s, .slice y m.length d] 24)
          go_loopw [5] (fun u5 wr => SfRel (.slice x l.length c) (.slice y m.length d) l m w u5 wr) (fun u5 _ => l.length - (intOf u5).toNat)
          case atStart => exact ⟨0, by omega, rfl, rfl, by go_simp, by go_simp, hB0⟩
          case round =>
            clear hB0
            obtain ⟨k, hk, rfl, ht, f0, f1, hB⟩ := hrel
            have HT := Lib.hid ht
            clear ht
            by_cases hlt : k < l.length
            · have hkb : decide ((k : Int) < (l.length : Int)) = true := by simp; omega
              have hlm : k < m.length := by have := HL.out; omega
              obtain ⟨gx, ox, rfl, hcx⟩ := (hx.later hB).resolve_left (by intro e; subst e; simp at hlt)
              obtain ⟨gy, oy, rfl, hcy⟩ := (hy.later hB).resolve_left (by intro e; subst e; simp at hlm)
              have cx := hcx k hlt
              have cy := hcy k hlm
              unfold encB at cx cy
              clear hcx hcy
              obtain ⟨u, hu⟩ : ∃ u, l.getD k 0 = u := ⟨_, rfl⟩
              obtain ⟨z, hz⟩ : ∃ u, m.getD k 0 = u := ⟨_, rfl⟩
              rw [hu] at cx
              rw [hz] at cy
              by_cases he : u = z
              · have hq : ((u.toNat : Int) != (z.toNat : Int)) = false := by simp [he]
                have HK : Hid (l.take (k + 1) = m.take (k + 1)) := take_eq_succ l m k hlt hlm HT.out (by rw [hu, hz, he])
                clear he hu hz
                go_wp2_with fail
                go_quiet (fail)
                go_wp2_with fail
                exact ⟨⟨k + 1, by omega, by go_num, HK.out, f0, f1, belN hB _⟩, by simp [intOf]; omega⟩
              · have hq : ((u.toNat : Int) != (z.toNat : Int)) = true := by simp; intro h; exact he (UInt8.toNat_inj.1 (by omega))
                have HF : Hid ((l == m) = false) := by
                  show _ = _
                  simp only [beq_eq_false_iff_ne, ne_eq]
                  rintro rfl
                  exact he (hu.symm.trans hz)
                clear he hu hz
                go_wp2_with fail
                go_quiet (fail)
                go_wp2_with fail
                go_ret
                rw [HV.out, HF.out]
                exact ⟨rfl, belN hB _⟩
            · obtain rfl : k = l.length := by omega
              have HF : Hid ((l == m) = true) := by
                show _ = _
                have h := HT.out
                rw [List.take_length, HL.out, List.take_length] at h
                simp [h]
              go_wp2_with fail
              go_ret
              rw [HV.out, HF.out]
              exact ⟨rfl, hB⟩
        · have hn : ((l.length : Int) != (m.length : Int)) = true := by simp; omega
          have HV : Hid (sameF v n s l v n s m = false) := by
            show _ = _
            have : (l == m) = false := by
              simp only [beq_eq_false_iff_ne, ne_eq]
              rintro rfl
              exact hlen rfl
            unfold sameF; rw [this]; simp
          go_enter Tryd.func14, Tryd.ntmps14
          go_wp2_with fail
          go_ret
          rw [HV.out]
          exact ⟨rfl, al (al (Below.refl _ w) _) _⟩
      · have q2 : (s == s') = false := by simp only [beq_eq_false_iff_ne, ne_eq]; exact h2
        have qq2 : (s != s') = true := by simp only [bne_iff_ne, ne_eq]; exact h2
        have HV : Hid (sameF v n s l v n s' m = false) := by show _ = _; unfold sameF; rw [q2]; simp
        go_enter Tryd.func14, Tryd.ntmps14
        go_wp2_with fail
        go_ret
        rw [HV.out]
        exact ⟨rfl, al (al (Below.refl _ w) _) _⟩
    · have q1 : (n == n') = false := by simp only [beq_eq_false_iff_ne, ne_eq]; exact h1
      have qq1 : (n != n') = true := by simp only [bne_iff_ne, ne_eq]; exact h1
      have HV : Hid (sameF v n s l v n' s' m = false) := by show _ = _; unfold sameF; rw [q1]; simp
      go_enter Tryd.func14, Tryd.ntmps14
      go_wp2_with fail
      go_ret
      rw [HV.out]
      exact ⟨rfl, al (al (Below.refl _ w) _) _⟩
  · have q0 : (v == v') = false := by simp only [beq_eq_false_iff_ne, ne_eq]; exact h0
    have qq0 : (v != v') = true := by simp only [bne_iff_ne, ne_eq]; exact h0
    have HV : Hid (sameF v n s l v' n' s' m = false) := by show _ = _; unfold sameF; rw [q0]; simp
    go_enter Tryd.func14, Tryd.ntmps14
    go_wp2_with fail
    go_ret
    rw [HV.out]
    exact ⟨rfl, al (al (Below.refl _ w) _) _⟩

end Go.Proofs.YtjnjjnkanbnliaaDoor
