/- WALKS of the sampling layer: Read, and the statements' test for equal states. -/
import Derived.Test.YtmeaelahmajheaaWalksB
import Derived.BigQuiet
import Derived.Lib.Hide
namespace Go.Proofs.Ytmeaelahmajheaa
open Go.RowKit


set_option maxHeartbeats 1000000 in
theorem read_no (nm : ByteArray) (kind : Int) (out : Bool) (size depth refresh : Int) (x : Option Addr) (l : List UInt8) (cap : Nat) (at_ : Int) (has : Bool) (now : Int) (w : World) (hr : Smp.readyB kind size depth refresh l.length at_ has now = false) :
    Calls Try.prog 10 #[.agg #[.string nm, .int .u8 kind, .bool out, .int .i64 size, .int .i64 depth, .int .i64 refresh], .agg #[.slice x l.length cap, .int .i64 at_, .bool has], .int .i64 now] w fun e w' => e = .returned (.tuple #[.slice none 0 0, .bool false, .int .i64 2]) ∧ Below w.heap.size w w' := by
  have hB : Below w.heap.size w ((w.alloc (.cells #[.string nm, .int .u8 kind, .bool out, .int .i64 size, .int .i64 depth, .int .i64 refresh] 23)).alloc (.cells #[.slice x l.length cap, .int .i64 at_, .bool has] 26)) := ((Below.refl _ w).alloc (Nat.le_refl _) _).alloc (by simp) _
  go_enter Try.func10, Try.ntmps10
  go_wp2_with fail
  refine (age_no _ _ _ _ _ _ _ _ _ _ _ _ _ hr).mono ?_
  rintro e w1 ⟨rfl, hb⟩
  replace hB := hB.trans (hb.mono (by simp <;> omega))
  clear hb
  go_wp2_with fail
  refine bodyPost_ret (v := .tuple #[.slice none 0 0, .bool false, .int .i64 2]) (by simp [results, Try.results10, go_sem]) rfl ⟨rfl, hB⟩

set_option maxHeartbeats 1000000 in
theorem read_none (nm : ByteArray) (kind : Int) (out : Bool) (size depth refresh : Int) (x : Option Addr) (l : List UInt8) (cap : Nat) (at_ : Int) (now : Int) (w : World) (hr : Smp.readyB kind size depth refresh l.length at_ false now = true) :
    Calls Try.prog 10 #[.agg #[.string nm, .int .u8 kind, .bool out, .int .i64 size, .int .i64 depth, .int .i64 refresh], .agg #[.slice x l.length cap, .int .i64 at_, .bool false], .int .i64 now] w fun e w' => e = .returned (.tuple #[.slice none 0 0, .bool false, .int .i64 6]) ∧ Below w.heap.size w w' := by
  have hB : Below w.heap.size w ((w.alloc (.cells #[.string nm, .int .u8 kind, .bool out, .int .i64 size, .int .i64 depth, .int .i64 refresh] 23)).alloc (.cells #[.slice x l.length cap, .int .i64 at_, .bool false] 26)) := ((Below.refl _ w).alloc (Nat.le_refl _) _).alloc (by simp) _
  go_enter Try.func10, Try.ntmps10
  go_wp2_with fail
  refine (age_none _ _ _ _ _ _ _ _ _ _ _ _ _ hr rfl).mono ?_
  rintro e w1 ⟨rfl, hb⟩
  replace hB := hB.trans (hb.mono (by simp <;> omega))
  clear hb
  go_wp2_with fail
  refine bodyPost_ret (v := .tuple #[.slice none 0 0, .bool false, .int .i64 6]) (by simp [results, Try.results10, go_sem]) rfl ⟨rfl, hB⟩

def ReadOf (l : List UInt8) (fresh : Bool) (w : World) (e : Ending) (w' : World) : Prop :=
  ∃ x cap, e = .returned (.tuple #[.slice x l.length cap, .bool fresh, .int .i64 0]) ∧ OwnsB w.heap.size w' x cap l ∧ Below w.heap.size w w'


set_option maxHeartbeats 1000000 in
theorem read_ok (nm : ByteArray) (kind : Int) (out : Bool) (size depth refresh : Int) (x : Option Addr) (l : List UInt8) (cap : Nat) (at_ : Int) (now : Int) (w : World) (hx : Bts w x l) (hl : l.length ≤ 100000) (hr : Smp.readyB kind size depth refresh l.length at_ true now = true) :
    Calls Try.prog 10 #[.agg #[.string nm, .int .u8 kind, .bool out, .int .i64 size, .int .i64 depth, .int .i64 refresh], .agg #[.slice x l.length cap, .int .i64 at_, .bool true], .int .i64 now] w (ReadOf l (decide (now - at_ ≤ refresh)) w) := by
  have hB : Below w.heap.size w ((w.alloc (.cells #[.string nm, .int .u8 kind, .bool out, .int .i64 size, .int .i64 depth, .int .i64 refresh] 23)).alloc (.cells #[.slice x l.length cap, .int .i64 at_, .bool true] 26)) := ((Below.refl _ w).alloc (Nat.le_refl _) _).alloc (by simp) _
  go_enter Try.func10, Try.ntmps10
  go_wp2_with fail
  refine (age_yes _ _ _ _ _ _ _ _ _ _ _ _ _ hr rfl).mono ?_
  rintro e w1 ⟨rfl, hb⟩
  have g0 := later (a := ⟨w.heap.size, 0, none⟩) (v := .string nm) hb (by go_simp)
  have g1 := later (a := ⟨w.heap.size, 1, none⟩) (v := .int .u8 kind) hb (by go_simp)
  have g2 := later (a := ⟨w.heap.size, 2, none⟩) (v := .bool out) hb (by go_simp)
  have g3 := later (a := ⟨w.heap.size, 3, none⟩) (v := .int .i64 size) hb (by go_simp)
  have g4 := later (a := ⟨w.heap.size, 4, none⟩) (v := .int .i64 depth) hb (by go_simp)
  have g5 := later (a := ⟨w.heap.size, 5, none⟩) (v := .int .i64 refresh) hb (by go_simp)
  have g6 := later (a := ⟨w.heap.size + 1, 0, none⟩) (v := .slice x l.length cap) hb (by go_simp)
  have g7 := later (a := ⟨w.heap.size + 1, 1, none⟩) (v := .int .i64 at_) hb (by go_simp)
  have g8 := later (a := ⟨w.heap.size + 1, 2, none⟩) (v := .bool true) hb (by go_simp)
  replace hB := hB.trans (hb.mono (by simp <;> omega))
  replace hx := hx.later hB
  clear hb
  go_wp2_with fail
  have hfld : ∀ (w : World) (a b c : Value), (Instr.field 26 (.agg #[a, b, c]) 0).run Try.prog w = .ok a w := fun w a b c => by kernel_rfl
  refine wp_region_sched (fun W => W.cell? ⟨w.heap.size, 5, none⟩ = some (.int .i64 refresh) ∧ W.cell? ⟨w.heap.size + 1, 0, none⟩ = some (.slice x l.length cap) ∧ W.cell? ⟨w.heap.size + 1, 1, none⟩ = some (.int .i64 at_) ∧ W.cell? ⟨w.heap.size + 1, 2, none⟩ = some (.bool true) ∧ Bts W x l ∧ Below w.heap.size w W) (.one [0, 3, 4, 5, 6] 1 (.done [2, 7, 8, 9])) (by kernel_rfl) (by kernel_rfl) (fun _ _ _ _ _ h => h) ⟨g5, g6, g7, g8, hx, hB.drew⟩ ?_
  clear hB hx g0 g1 g2 g3 g4 g5 g6 g7 g8
  rintro W ⟨g5, g6, g7, g8, hx, hB⟩
  rw [wpSched]
  simp only [pick, List.map_cons, List.map_nil, Array.getD_eq_getD_getElem?, List.getElem?_toArray, List.getElem?_cons_succ, List.getElem?_cons_zero, Option.getD_some]
  have kg5 := plusW_cell g5
  have kg6 := plusW_cell g6
  have kg7 := plusW_cell g7
  have kg8 := plusW_cell g8
  repeat (first | go_big_quiet_step (fail) | quiet_step (fail))
  refine wpQuiet_nil ?_
  clear kg5 kg6 kg7 kg8
  refine heavy_want (by rfl) (fun K' hK' => ?_)
  go_simp
  refine (own_any _ _ _ _ _ _ hx hl).mono ?_
  rintro e w2 ⟨x1, cap1, rfl, ho, hb2⟩
  refine hK' _ _ hb2 ?_
  clear hK' K'
  clear g5 g6 g7 g8 hx
  have HB := Lib.hid (hB.trans (hb2.mono hB.size))
  have HO := Lib.hid (owns_weaken ho hB.size)
  clear hB hb2 ho
  try simp only [Act.put, List.setIfInBounds_toArray, List.set_cons_zero, List.set_cons_succ]
  rw [wpSched]
  simp only [pick, List.map_cons, List.map_nil, Array.getD_eq_getD_getElem?, List.getElem?_toArray, List.getElem?_cons_succ, List.getElem?_cons_zero, Option.getD_some]
  repeat (first | go_big_quiet_step (fail) | quiet_step (fail))
  refine wpQuiet_nil ?_
  go_wp2_with fail
  refine bodyPost_ret (v := .tuple #[.slice x1 l.length cap1, .bool (decide (now - at_ ≤ refresh)), .int .i64 0]) (by simp [results, Try.results10, go_sem]) rfl ⟨x1, cap1, rfl, HO.out, HB.out⟩


set_option maxHeartbeats 1000000 in
theorem same_1 (x₁ : Option Addr) (l₁ : List UInt8) (c₁ : Nat) (a₁ : Int) (h₁ : Bool) (x₂ : Option Addr) (l₂ : List UInt8) (c₂ : Nat) (a₂ : Int) (h₂ : Bool) (w : World) (hf : (a₁ == a₂) = false) :
    Calls Try.prog 16 #[.agg #[.slice x₁ l₁.length c₁, .int .i64 a₁, .bool h₁], .agg #[.slice x₂ l₂.length c₂, .int .i64 a₂, .bool h₂]] w fun e w' => e = .returned (.bool (false)) ∧ Below w.heap.size w w' := by
  have hB : Below w.heap.size w ((w.alloc (.cells #[.slice x₁ l₁.length c₁, .int .i64 a₁, .bool h₁] 26)).alloc (.cells #[.slice x₂ l₂.length c₂, .int .i64 a₂, .bool h₂] 26)) := ((Below.refl _ w).alloc (Nat.le_refl _) _).alloc (by simp) _
  go_enter Try.func16, Try.ntmps16
  go_wp2_with fail
  go_ret
  exact ⟨rfl, hB⟩


set_option maxHeartbeats 1000000 in
theorem same_2 (x₁ : Option Addr) (l₁ : List UInt8) (c₁ : Nat) (a₁ : Int) (h₁ : Bool) (x₂ : Option Addr) (l₂ : List UInt8) (c₂ : Nat) (h₂ : Bool) (w : World) (hf : (h₁ == h₂) = false) :
    Calls Try.prog 16 #[.agg #[.slice x₁ l₁.length c₁, .int .i64 a₁, .bool h₁], .agg #[.slice x₂ l₂.length c₂, .int .i64 a₁, .bool h₂]] w fun e w' => e = .returned (.bool (false)) ∧ Below w.heap.size w w' := by
  have hB : Below w.heap.size w ((w.alloc (.cells #[.slice x₁ l₁.length c₁, .int .i64 a₁, .bool h₁] 26)).alloc (.cells #[.slice x₂ l₂.length c₂, .int .i64 a₁, .bool h₂] 26)) := ((Below.refl _ w).alloc (Nat.le_refl _) _).alloc (by simp) _
  go_enter Try.func16, Try.ntmps16
  go_wp2_with fail
  go_ret
  exact ⟨rfl, hB⟩


set_option maxHeartbeats 1000000 in
theorem same_3 (x₁ : Option Addr) (l₁ : List UInt8) (c₁ : Nat) (a₁ : Int) (h₁ : Bool) (x₂ : Option Addr) (l₂ : List UInt8) (c₂ : Nat) (w : World) (hx : Bts w x₁ l₁) (hy : Bts w x₂ l₂) :
    Calls Try.prog 16 #[.agg #[.slice x₁ l₁.length c₁, .int .i64 a₁, .bool h₁], .agg #[.slice x₂ l₂.length c₂, .int .i64 a₁, .bool h₁]] w fun e w' => e = .returned (.bool (l₁ == l₂)) ∧ Below w.heap.size w w' := by
  have hB : Below w.heap.size w ((w.alloc (.cells #[.slice x₁ l₁.length c₁, .int .i64 a₁, .bool h₁] 26)).alloc (.cells #[.slice x₂ l₂.length c₂, .int .i64 a₁, .bool h₁] 26)) := ((Below.refl _ w).alloc (Nat.le_refl _) _).alloc (by simp) _
  have cv1 := run_conv (P := Try.prog) (src := 24) (dst := 9) Try.underlying24 Try.underlying5 Try.underlying9 (hx.later hB) c₁
  have cv2 := run_conv (P := Try.prog) (src := 24) (dst := 9) Try.underlying24 Try.underlying5 Try.underlying9 (hy.later hB) c₂
  clear hx hy
  go_enter Try.func16, Try.ntmps16
  go_wp2_with fail
  go_ret
  exact ⟨rfl, hB⟩


/-- The test of the statements for equal states. -/
def sameB (l₁ : List UInt8) (a₁ : Int) (h₁ : Bool) (l₂ : List UInt8) (a₂ : Int) (h₂ : Bool) : Bool := a₁ == a₂ && h₁ == h₂ && l₁ == l₂

theorem same_any (x₁ : Option Addr) (l₁ : List UInt8) (c₁ : Nat) (a₁ : Int) (h₁ : Bool) (x₂ : Option Addr) (l₂ : List UInt8) (c₂ : Nat) (a₂ : Int) (h₂ : Bool) (w : World) (hx : Bts w x₁ l₁) (hy : Bts w x₂ l₂) :
    Calls Try.prog 16 #[.agg #[.slice x₁ l₁.length c₁, .int .i64 a₁, .bool h₁], .agg #[.slice x₂ l₂.length c₂, .int .i64 a₂, .bool h₂]] w fun e w' => e = .returned (.bool (sameB l₁ a₁ h₁ l₂ a₂ h₂)) ∧ Below w.heap.size w w' := by
  by_cases ha : a₁ = a₂
  · subst ha
    by_cases hh : h₁ = h₂
    · subst hh
      rw [show sameB l₁ a₁ h₁ l₂ a₁ h₁ = (l₁ == l₂) by unfold sameB; simp]
      exact same_3 x₁ l₁ c₁ a₁ h₁ x₂ l₂ c₂ w hx hy
    · rw [show sameB l₁ a₁ h₁ l₂ a₁ h₂ = false by unfold sameB; simp [hh]]
      exact same_2 x₁ l₁ c₁ a₁ h₁ x₂ l₂ c₂ h₂ w (by simp [hh])
  · rw [show sameB l₁ a₁ h₁ l₂ a₂ h₂ = false by unfold sameB; simp [ha]]
    exact same_1 x₁ l₁ c₁ a₁ h₁ x₂ l₂ c₂ a₂ h₂ w (by simp [ha])


end Go.Proofs.Ytmeaelahmajheaa
