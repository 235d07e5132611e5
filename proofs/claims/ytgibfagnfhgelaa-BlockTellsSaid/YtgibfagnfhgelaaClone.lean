/- slices.Clone at bytes: a slice of the same bytes, in memory of the call's own. -/
import Derived.Test.YtgibfagnfhgelaaOwns
import Derived.Lib.Hide
namespace Go.Proofs.Ytgibfagnfhgelaa
open Go.RowKit

def CloneOf (l : List UInt8) (w : World) (e : Ending) (w' : World) : Prop := ∃ x cap, e = .returned (.slice x l.length cap) ∧ OwnsB w.heap.size w' x cap l ∧ Below w.heap.size w w'

set_option maxHeartbeats 400000 in
theorem clone_any (x : Option Addr) (l : List UInt8) (cap : Nat) (w : World) (hx : Bts w x l) (hl : l.length ≤ 100000) :
    Calls Try.prog 30 #[.slice x l.length cap] w (CloneOf l w) := by
  have q : ∀ (w : World) (a : Option Addr) (n c n' c' : Nat), (binOp .eql 25 (.slice a n c) (.slice none n' c')).run Try.prog w = .ok (.bool a.isNone) w := fun w a n c n' c' => Lib.run_eql_slice_nil w _ _ a n c n' c' Try.underlying25
  obtain ⟨i0, hi, hz0, hz1, hz2⟩ := info_parts infoByte
  cases x with
  | none =>
    have h0 : l = [] := by
      rcases hx with h | ⟨b, o, hx, _⟩
      · exact h
      · cases hx
    subst h0
    go_enter Try.func30, Try.ntmps30
    go_wp2
    go_ret
    exact ⟨_, _, rfl, World.ownsRow_nil _ _ _ _, Below.refl _ _⟩
  | some a =>
    have hn := news_of_bts (hx.later ((Below.refl _ w).alloc (Nat.le_refl _) (.cells #[] 5)))
    have hm := World.ownsRow_made (base := w.heap.size) (e := 5) (size := 1) w #[] 0 (Nat.le_refl _) (by unfold maxLen; omega) rfl
    have HN := Lib.hid hn
    clear hn
    go_enter Try.func30, Try.ntmps30
    go_wp2_with (at_builtin; refine wpList_append_own _ rfl _ _ 25 rfl w.heap.size 5 i0 (.int .u8 0) 1 1 Try.underlying25 hi hz0 hz1 hz2 rfl (by decide) _ _ _ rfl hm a l.length cap (l.map encB) rfl (by simp) HN.out ?c2 ?c3 ?c4 ?c5 ?_)
    case c2 => intro u hu; simp at hu; obtain ⟨b, _, rfl⟩ := hu; rfl
    case c3 => unfold maxLen; omega
    case c4 => omega
    case c5 => simp
    intro v' w1 hown hgrow _
    obtain ⟨x', cap', rfl⟩ := owns_form hown
    try simp only [Nat.zero_add, List.nil_append] at hown
    have hb : Below w.heap.size w w1 := ((Below.refl _ w).alloc (Nat.le_refl _) _).grown hgrow (by simp) (fun k e => by cases e; exact Nat.le_refl _)
    clear HN hm hgrow
    go_wp2
    go_ret
    exact ⟨x', cap', rfl, hown, hb⟩

end Go.Proofs.Ytgibfagnfhgelaa
