/- WALKS of the digest layer: values, Parse. -/
import Derived.Test.YtmlmgpliajffnaaDigD
import Derived.Test.YtmlmgpliajffnaaRange
import Derived.TacticsInMore
import Derived.OwnWalkIn
import Derived.LoopIn
import Derived.LoopNIn
import Derived.Shelf.RegionOpen
import Derived.BigQuiet
import Derived.Outline
namespace Go.Proofs.Ytmlmgpliajffnaa
open Go.RowKit
attribute [local go_sem] Oper.semAt_some

theorem values_any (s : ByteArray) (w : World) : Calls Try.prog 29 #[.string s] w fun e w' => e = .returned (.func (.func 33) #[] #[.pointer (some ⟨w.heap.size, 0, none⟩)]) ∧ w' = w.alloc (.cells #[.string s] 9) := by
  go_enter Try.func29, Try.ntmps29
  go_wp2_with fail
  go_ret
  exact ⟨rfl, rfl⟩

/-- The value of a digit's byte; 16 of any other. -/
def dval (c : UInt8) : Nat := ((List.range 16).find? fun j => hexU j == c).getD 16

def InRel (s : ByteArray) (k : Nat) (J : World → Prop) (bx B : Nat) (i : Value) (wr : World) : Prop :=
  ∃ (v : Nat), v ≤ 16 ∧ v ≤ dval (s.data.toList.getD k 0) ∧ i = .int .u64 (v : Int) ∧ J wr ∧ B < wr.heap.size ∧ (∀ j, j < 16 → wr.cell? ⟨B, j, none⟩ = some (.int .u8 ((hexU j).toNat : Int))) ∧ wr.cell? ⟨bx, 0, none⟩ = some (.string s)
theorem dval_le (c : UInt8) : dval c ≤ 16 := by
  unfold dval
  cases h : (List.range 16).find? fun j => hexU j == c with
  | none => simp
  | some j => have := List.mem_of_find?_eq_some h; simp at this; simp; omega
theorem dval_ne {c : UInt8} {v : Nat} (h : v < dval c) : ¬ hexU v = c := by
  intro e
  have h16 := Nat.lt_of_lt_of_le h (dval_le c)
  unfold dval at h
  cases hf : (List.range 16).find? fun j => hexU j == c with
  | none => have := List.find?_eq_none.1 hf v (by simp; omega); simp [e] at this
  | some j =>
    rw [hf] at h
    simp at h
    have := List.find?_range_eq_some.1 hf
    simpa [e] using this.2.2 v h
theorem dval_eq {c : UInt8} (h : dval c < 16) : hexU (dval c) = c := by
  unfold dval at h ⊢
  cases hf : (List.range 16).find? fun j => hexU j == c with
  | none => rw [hf] at h; simp at h
  | some j => have := List.find?_some hf; simpa using this
def ValFacts (s : ByteArray) (bx B : Nat) (wr : World) : Prop := B < wr.heap.size ∧ (∀ j, j < 16 → wr.cell? ⟨B, j, none⟩ = some (.int .u8 ((hexU j).toNat : Int))) ∧ wr.cell? ⟨bx, 0, none⟩ = some (.string s)
def ValRel (s : ByteArray) (J : Nat → List Nat → World → Prop) (bx B : Nat) (i : Value) (wr : World) : Prop :=
  ∃ (k : Nat) (S : List Nat), k ≤ s.size ∧ i = .int .i64 (k : Int) ∧ J k S wr ∧ B < wr.heap.size ∧ (∀ j, j < 16 → wr.cell? ⟨B, j, none⟩ = some (.int .u8 ((hexU j).toNat : Int))) ∧ wr.cell? ⟨bx, 0, none⟩ = some (.string s) ∧ ¬ B ∈ S

set_option maxHeartbeats 2000000 in
theorem values1_in (n : Nat) (hn : 1 ≤ n) (bx : Nat) (s : ByteArray) (w : World) (hx : w.cell? ⟨bx, 0, none⟩ = some (.string s)) (hs : s.size ≤ 1000) :
    Yields n Try.prog 33 #[.pointer (some ⟨bx, 0, none⟩)] (fun v : Nat => #[.int .u64 (v : Int)]) s.size (fun i => dval (s.data.toList.getD i 0)) True (fun b => b = bx) w := by
  intro l J Jx S0 W hW hl0 hl hJ hJx hS hst hY h0
  have hx1 := hW.cell (fun e => e) hx
  have hbl2 : ¬ bx = l := by have := World.block_lt_of_cell? _ _ hx; simp at this; omega
  refine callsIn_of_wp Try.func33 rfl trivial ?_ rfl
  simp only [Try.ntmps33, List.size_toArray, List.length_cons, List.length_nil, Nat.reduceAdd, Nat.reduceSub, Array.replicate_succ, Array.replicate_zero, List.push_toArray, List.append_toArray, List.nil_append, List.cons_append]
  gi_wp2_with (refine ⟨trivial, ?_⟩; gi_at_call 28; refine (callsIn_wide.2 (digits_any _)).mono ?_; rintro e w1 ⟨rfl, hb⟩; have hx2 := later hb hx1; have hbx : bx < w1.heap.size := World.block_lt_of_cell? _ _ hx2; unfold digV)
  have hc0 : ∀ j, j < 16 → (w1.alloc (.cells #[.int .u8 48, .int .u8 49, .int .u8 50, .int .u8 51, .int .u8 52, .int .u8 53, .int .u8 54, .int .u8 55, .int .u8 56, .int .u8 57, .int .u8 97, .int .u8 98, .int .u8 99, .int .u8 100, .int .u8 101, .int .u8 102] 50)).cell? ⟨w1.heap.size, j, none⟩ = some (.int .u8 ((hexU j).toNat : Int)) := fun k hk => by
    match k, hk with | 0, _ => (go_simp; rfl) | 1, _ => (go_simp; rfl) | 2, _ => (go_simp; rfl) | 3, _ => (go_simp; rfl) | 4, _ => (go_simp; rfl) | 5, _ => (go_simp; rfl) | 6, _ => (go_simp; rfl) | 7, _ => (go_simp; rfl) | 8, _ => (go_simp; rfl) | 9, _ => (go_simp; rfl) | 10, _ => (go_simp; rfl) | 11, _ => (go_simp; rfl) | 12, _ => (go_simp; rfl) | 13, _ => (go_simp; rfl) | 14, _ => (go_simp; rfl) | 15, _ => (go_simp; rfl) | k + 16, h => exact absurd h (by omega)
  gi_loopw [9] (fun u9 wr => ValRel s J bx w1.heap.size u9 wr) (fun u9 _ => s.size - (intOf u9).toNat)
  case atStart =>
    refine ⟨0, S0, Nat.zero_le _, rfl, hJ _ _ _ _ h0 ((Turns.of_below hb (Nat.le_refl _)).alloc _), by simp, hc0, by go_simp, fun e => ?_⟩
    have := (hS _ _ _ h0 _ e).1; have := hb.size; omega
  case round =>
    obtain ⟨k, S, hk, rfl, hj, hz, hc, hx, hns⟩ := hrel
    have hbs : ¬ bx ∈ S := fun e => (hS _ _ _ hj _ e).2 rfl
    clear hc0 hx1 hx2 h0
    by_cases hlt : k < s.size
    · gi_wp2_with fail
      obtain ⟨wo, rfl⟩ : ∃ wo : World, wo = wr := ⟨_, rfl⟩
      gi_loopw [5] (fun u5 wi => InRel s k (J k S) bx w1.heap.size u5 wi) (fun u5 _ => 17 - (intOf u5).toNat)
      case atStart => exact ⟨0, by omega, Nat.zero_le _, rfl, hj, hz, hc, hx⟩
      case round =>
        clear hj hz hc hx
        obtain ⟨v, hv16, hvd, rfl, hj, hz, hc, hx⟩ := hrel
        by_cases hex : v < dval (s.data.toList.getD k 0)
        · have hv : v < 16 := Nat.lt_of_lt_of_le hex (dval_le _)
          have hcv := hc v hv
          have hne := dval_ne hex
          have hd : decide ((v : Int) < 16) = true := by simp; omega
          have hb1 : (((hexU v).toNat : Int) != (s[k].toNat : Int)) = true := by
            have e : s.data.toList.getD k 0 = s[k] := by rw [List.getD_eq_getElem?_getD, List.getElem?_eq_getElem (by simpa using hlt)]; rfl
            rw [e] at hne
            simp only [bne_iff_ne, ne_eq]
            intro h; exact hne (UInt8.toNat_inj.1 (by omega))
          gi_wp2_with fail
          gi_quiet (fail)
          have hj2 := hJ _ _ _ _ hj ((Turns.refl _ wr).drewN nq)
          have HX : Hid (v + 1 ≤ dval (s.data.toList.getD k 0)) := hex
          clear hj hne hex
          gi_wp2_with fail
          go_roundw
          case rel => exact ⟨v + 1, by omega, HX.out, by go_num, hj2, hz, hc, hx⟩
          case measure => simp [intOf]; omega
        · have hv : dval (s.data.toList.getD k 0) = v := by omega
          have hY2 : ∀ W1, J k S W1 → _ := fun W1 => hY k S W1 hlt
          rw [hv] at hY2
          have hq : v < 16 → (((hexU v).toNat : Int) != (s[k].toNat : Int)) = false := fun h => by
            have e : s.data.toList.getD k 0 = s[k] := by rw [List.getD_eq_getElem?_getD, List.getElem?_eq_getElem (by simpa using hlt)]; rfl
            have := dval_eq (by rw [hv]; exact h)
            rw [hv, e] at this
            simp [this]
          clear hv hex hvd hY
          by_cases hv : v < 16
          · have hcv := hc v hv
            have hb1 := hq hv
            have hd : decide ((v : Int) < 16) = true := by simp; omega
            clear hq
            gi_wp2_with fail
            gi_quiet (fail)
            have hj2 := hJ _ _ _ _ hj ((Turns.refl _ wr).drewN nq)
            obtain ⟨fn, tmps, assign, body, hy, hR⟩ := hY2 _ hj2
            clear hj hY2
            gi_wp2_with fail
            refine hR.mono ?_
            rintro e W' ⟨S', hs1, ht, (⟨rfl, hj3⟩ | ⟨rfl, hj3⟩)⟩
            · gi_wp2_with fail
              go_roundw
              case rel =>
                have hw := fun (b : Nat) (h0 : ¬ b ∈ S) (h1 : ¬ b = l) => show ¬ (b ∈ S ∨ b = l) from fun h => h.elim h0 h1
                have hbl := hb.size
                have hnl : ¬ w1.heap.size = l := by omega
                refine ⟨k + 1, S', by omega, by go_num, hj3, Nat.lt_of_lt_of_le hz ht.size, fun j h => ht.cell (hw _ hns hnl) (hc j h), ht.cell (hw _ hbs hbl2) hx, fun e => ?_⟩
                rcases hs1 _ e with h | h
                · exact hns h
                · simp at h; omega
              case measure => simp [intOf]; omega
            · gi_wp2_with fail
              refine bodyPost_ret (results_none rfl _ _ _) rfl ?_
              exact ⟨⟨_, rfl⟩, .inr ⟨k, S', hlt, hj3⟩⟩
          · have hd : decide ((v : Int) < 16) = false := by simp; omega
            clear hq
            gi_wp2_with fail
            gi_quiet (fail)
            have hj2 := hJ _ _ _ _ hj ((Turns.refl _ wr).drewN nq)
            obtain ⟨fn, tmps, assign, body, hy, hR⟩ := hY2 _ hj2
            clear hj hY2
            gi_wp2_with fail
            refine hR.mono ?_
            rintro e W' ⟨S', hs1, ht, (⟨rfl, hj3⟩ | ⟨rfl, hj3⟩)⟩
            · gi_wp2_with fail
              go_roundw
              case rel =>
                have hw := fun (b : Nat) (h0 : ¬ b ∈ S) (h1 : ¬ b = l) => show ¬ (b ∈ S ∨ b = l) from fun h => h.elim h0 h1
                have hbl := hb.size
                have hnl : ¬ w1.heap.size = l := by omega
                refine ⟨k + 1, S', by omega, by go_num, hj3, Nat.lt_of_lt_of_le hz ht.size, fun j h => ht.cell (hw _ hns hnl) (hc j h), ht.cell (hw _ hbs hbl2) hx, fun e => ?_⟩
                rcases hs1 _ e with h | h
                · exact hns h
                · simp at h; omega
              case measure => simp [intOf]; omega
            · gi_wp2_with fail
              refine bodyPost_ret (results_none rfl _ _ _) rfl ?_
              exact ⟨⟨_, rfl⟩, .inr ⟨k, S', hlt, hj3⟩⟩
    · obtain rfl : k = s.size := by omega
      gi_wp2_with fail
      go_end0
      exact ⟨⟨_, rfl⟩, .inl ⟨_, hj⟩⟩

/-- The number of a text's digits, if all are digits. -/
def parseF : List Nat → D64 → Option D64
  | [], d => some d
  | v :: r, d => if v = 16 then none else parseF r (d <<< 4 ||| BitVec.ofNat 64 v)
def foldV (d : D64) (l : List Nat) : D64 := l.foldl (fun d v => d <<< 4 ||| BitVec.ofNat 64 v) d
theorem parseF_ok : ∀ (l : List Nat) (d : D64), (∀ v, v ∈ l → ¬ v = 16) → parseF l d = some (foldV d l)
  | [], _, _ => rfl
  | v :: r, d, h => by rw [parseF, if_neg (h v (by simp)), parseF_ok r _ (fun u hu => h u (by simp [hu]))]; rfl
theorem parseF_bad : ∀ (l : List Nat) (d : D64) (v : Nat), v ∈ l → v = 16 → parseF l d = none
  | u :: r, d, v, h, e => by
    rw [parseF]
    by_cases hu : u = 16
    · rw [if_pos hu]
    · rw [if_neg hu]
      exact parseF_bad r _ v ((List.mem_cons.1 h).resolve_left (fun e' => hu (e' ▸ e))) e
def vals (s : ByteArray) : List Nat := s.data.toList.map dval
def parseR (s : ByteArray) : Option D64 := if s.size = 16 then parseF (vals s) 0 else none

theorem num_nat (v : Nat) (h : v ≤ 16) : (#[.int .u64 (num (BitVec.ofNat 64 v))] : Array Value) = #[.int .u64 (v : Int)] := by
  unfold num; rw [BitVec.toNat_ofNat, Nat.mod_eq_of_lt (by omega)]

theorem num_ne16 {v : Nat} (h : v ≤ 16) (hb : ¬ v = 16) : (num (BitVec.ofNat 64 v) == 16) = false := by
  unfold num; rw [BitVec.toNat_ofNat, Nat.mod_eq_of_lt (by omega)]; simp; omega
theorem vals_getD {s : ByteArray} {k : Nat} (hk : k < s.size) : (vals s)[k]? = some (dval (s.data.toList.getD k 0)) := by
  unfold vals
  have h : k < s.data.toList.length := by simpa using hk
  rw [List.getElem?_map, List.getElem?_eq_getElem h, List.getD_eq_getElem?_getD, List.getElem?_eq_getElem h]; rfl
theorem vals_mem {s : ByteArray} {k : Nat} (hk : k < s.size) : dval (s.data.toList.getD k 0) ∈ vals s := List.mem_of_getElem? (vals_getD hk)
theorem vals_take {s : ByteArray} {k : Nat} (hk : k < s.size) : (vals s).take (k + 1) = (vals s).take k ++ [dval (s.data.toList.getD k 0)] := by
  rw [List.take_add_one, vals_getD hk]; rfl
theorem foldV_snoc (d : D64) (l : List Nat) (v : Nat) : foldV d (l ++ [v]) = (foldV d l) <<< 4 ||| BitVec.ofNat 64 v := by unfold foldV; rw [List.foldl_append]; rfl

def ParseOf (s : ByteArray) (w : World) (e : Ending) (w' : World) : Prop :=
  (∃ d, parseR s = some d ∧ e = .returned (.tuple #[.int .u64 (num d), .int .i64 0]) ∨ parseR s = none ∧ e = .returned (.tuple #[.int .u64 0, .int .i64 50])) ∧ Below w.heap.size w w'

def ParI (s : ByteArray) (w : World) (k : Nat) (S : List Nat) (W : World) : Prop :=
  S = [w.heap.size, w.heap.size + 1, w.heap.size + 1 + 1] ∧ (∀ v, v ∈ (vals s).take k → ¬ v = 16) ∧ Below w.heap.size w W ∧
  W.cell? ⟨w.heap.size, 0, none⟩ = some (.int .u64 0) ∧ W.cell? ⟨w.heap.size + 1, 0, none⟩ = some (.int .i64 0) ∧ W.cell? ⟨w.heap.size + 1 + 1, 0, none⟩ = some (.int .u64 (num (foldV 0#64 ((vals s).take k)))) ∧
  W.frozen? ⟨w.heap.size, 0, none⟩ = false ∧ W.frozen? ⟨w.heap.size + 1, 0, none⟩ = false ∧ W.frozen? ⟨w.heap.size + 1 + 1, 0, none⟩ = false
def ParX (s : ByteArray) (w : World) (c : Code) (_ : Nat) (_ : List Nat) (W : World) : Prop :=
  c = .ret ∧ (∃ v, v ∈ vals s ∧ v = 16) ∧ Below w.heap.size w W ∧ W.cell? ⟨w.heap.size, 0, none⟩ = some (.int .u64 0) ∧ W.cell? ⟨w.heap.size + 1, 0, none⟩ = some (.int .i64 50)

theorem ParI.turn {s : ByteArray} {w : World} {k : Nat} {S : List Nat} {A B : World} {T : Nat → Prop} (h : ParI s w k S A) (ht : Turns T A B) (hT : ∀ b, T b → w.heap.size + 3 ≤ b) : ParI s w k S B := by
  obtain ⟨hS, hg, hB, c0, c1, c2, f0, f1, f2⟩ := h
  have ne : ∀ b, b < w.heap.size + 3 → ¬ T b := fun b hb e => by have := hT b e; omega
  exact ⟨hS, hg, hB.trans (ht.below hB.size (fun i hi => ne i (by omega))), ht.cell (ne w.heap.size (by omega)) c0, ht.cell (ne (w.heap.size + 1) (by omega)) c1, ht.cell (ne (w.heap.size + 1 + 1) (by omega)) c2,
    ht.frozen (ne w.heap.size (by omega)) (World.block_lt_of_cell? _ _ c0) f0, ht.frozen (ne (w.heap.size + 1) (by omega)) (World.block_lt_of_cell? _ _ c1) f1, ht.frozen (ne (w.heap.size + 1 + 1) (by omega)) (World.block_lt_of_cell? _ _ c2) f2⟩
theorem ParX.turn {s : ByteArray} {w : World} {c : Code} {k : Nat} {S : List Nat} {A B : World} {T : Nat → Prop} (h : ParX s w c k S A) (ht : Turns T A B) (hT : ∀ b, T b → w.heap.size + 3 ≤ b) : ParX s w c k S B := by
  obtain ⟨hS, hg, hB, c0, c1⟩ := h
  have ne : ∀ b, b < w.heap.size + 3 → ¬ T b := fun b hb e => by have := hT b e; omega
  exact ⟨hS, hg, hB.trans (ht.below hB.size (fun i hi => ne i (by omega))), ht.cell (ne w.heap.size (by omega)) c0, ht.cell (ne (w.heap.size + 1) (by omega)) c1⟩

set_option maxHeartbeats 2000000 in
theorem parse_any (s : ByteArray) (w : World) (hs : s.size ≤ 1000) : Calls Try.prog 16 #[.string s] w (ParseOf s w) := by
  refine (callsIn_wide (n := 5)).1 ?_
  refine callsIn_of_wp_marks Try.func16 rfl trivial ?_ rfl
  simp only [Try.ntmps16, List.size_toArray, List.length_cons, List.length_nil, Nat.reduceAdd, Nat.reduceSub, Array.replicate_succ, Array.replicate_zero, List.push_toArray, List.append_toArray, List.nil_append, List.cons_append]
  by_cases h16 : s.size = 16
  · gi_wp2_with (refine ⟨trivial, ?_⟩; gi_at_call 29; refine (callsIn_wide.2 (values_any _ _)).mono ?_; rintro e w1 ⟨rfl, rfl⟩)
    have hc := later (w' := (((w.alloc (.cells #[.int .u64 0] 24)).alloc (.cells #[.int .i64 0] 37)).alloc (.cells #[.int .u64 0] 24)).alloc (.cells #[.string s] 9)) (Below.refl _ _) (a := ⟨w.heap.size + 1 + 1 + 1, 0, none⟩) (v := .string s) (by go_simp)
    have hlen : (vals s).length = s.size := by simp [vals]
    have hB0 := al (al (al (al (Below.refl _ w) (.cells #[.int .u64 0] 24)) (.cells #[.int .i64 0] 37)) (.cells #[.int .u64 0] 24)) (.cells #[.string s] 9)
    refine wpIn_range (α := D64) (encs := fun v => #[.int .u64 (num v)]) (len := s.size) (x := fun k => BitVec.ofNat 64 (dval (s.data.toList.getD k 0))) (stops := True) (T := fun b => b = w.heap.size + 1 + 1 + 1) (gf := 33) (lb := #[.pointer (some ⟨w.heap.size + 1 + 1 + 1, 0, none⟩)]) rfl (enters_of Try.func33 (by kernel_rfl) rfl) (fun b e => by subst e; simp)
      ((values1_in (5 - 1) (by omega) _ s _ hc hs).of fun k _ => by rw [num_nat _ (dval_le _)]) (fun _ => rfl) (ParI s w) (ParX s w) [w.heap.size, w.heap.size + 1, w.heap.size + 1 + 1] (fun b hb => by simp at hb ⊢; omega) ?hI ?hX (.inl trivial) ?h0
      (fun x => { tmps := #[.string s, undef, .pointer (some ⟨w.heap.size, 0, none⟩), .pointer (some ⟨w.heap.size + 1, 0, none⟩), .pointer (some ⟨w.heap.size + 1 + 1, 0, none⟩), .int .u64 (num x), .string s, .int .i64 16, .bool false, .string s, .func (.func 33) #[] #[.pointer (some ⟨w.heap.size + 1 + 1 + 1, 0, none⟩)], .int .u64 (num x), undef, undef, undef, undef, undef, undef, undef], defers := [] }) ?assign ?body ?done ?stop
    case hI =>
      intro k S A B h ht
      exact h.turn ht (by rintro b (rfl | rfl | rfl) <;> simp <;> omega)
    case hX =>
      intro c k S A B h ht
      exact h.turn ht (by rintro b (rfl | rfl | rfl) <;> simp <;> omega)
    case h0 => exact ⟨rfl, by simp, hB0, by go_simp, by go_simp, by go_simp; rfl, by go_simp, by go_simp, by go_simp⟩
    case assign =>
      intro x W K hK
      gi_wp2_with fail
      exact hK
    case body =>
      rintro k S W hk hz ⟨rfl, hg, hB, c0, c1, c2, f0, f1, f2⟩ hS
      obtain ⟨v, hv⟩ : ∃ v, dval (s.data.toList.getD k 0) = v := ⟨_, rfl⟩
      have hv16 : v ≤ 16 := by rw [← hv]; exact dval_le _
      rw [hv]
      have HV := Lib.hid hv
      clear hv hc hlen hB0
      by_cases hb : v = 16
      · subst hb
        have hq : (num (BitVec.ofNat 64 16) == 16) = true := by decide
        gi_wp2_with fail
        exact ⟨_, fun b hb => ⟨by have := hS b hb; simpa using this, .inl hb⟩, ((Turns.refl _ W).setCell (fun _ => by simp) _).setCell (fun _ => by simp) _, rfl, ⟨16, HV.out ▸ vals_mem hk, rfl⟩, (hB.setCell (p := ⟨w.heap.size, 0, none⟩) (by simp) _).setCell (p := ⟨w.heap.size + 1, 0, none⟩) (by simp) _, by go_simp, by go_simp⟩
      · have hq : (num (BitVec.ofNat 64 v) == 16) = false := num_ne16 hv16 hb
        gi_wp2_with fail
        refine ⟨_, fun b hb => ⟨by have := hS b hb; simpa using this, .inl hb⟩, (Turns.refl _ W).setCell (fun _ => by simp) _, rfl, ?_, hB.setCell (p := ⟨w.heap.size + 1 + 1, 0, none⟩) (by simp; omega) _, by go_simp, by go_simp, ?_, by go_simp, by go_simp, by go_simp⟩
        · rw [vals_take hk, HV.out]
          intro u hu
          rcases List.mem_append.1 hu with h | h
          · exact hg u h
          · simp at h; subst h; exact hb
        · rw [vals_take hk, HV.out, foldV_snoc]; go_simp
    case done =>
      rintro S W hz ⟨rfl, hg, hB, c0, c1, c2, f0, f1, f2⟩ hK
      rw [← hlen, List.take_length] at hg c2
      gi_wp2_with fail
      have d0 : ((W.setCell ⟨w.heap.size, 0, none⟩ (.int .u64 (num (foldV 0#64 (vals s))))).setCell ⟨w.heap.size + 1, 0, none⟩ (.int .i64 0)).cell? ⟨w.heap.size, 0, none⟩ = some (.int .u64 (num (foldV 0#64 (vals s)))) := by go_simp
      have d1 : ((W.setCell ⟨w.heap.size, 0, none⟩ (.int .u64 (num (foldV 0#64 (vals s))))).setCell ⟨w.heap.size + 1, 0, none⟩ (.int .i64 0)).cell? ⟨w.heap.size + 1, 0, none⟩ = some (.int .i64 0) := by go_simp
      obtain ⟨W2, hW2⟩ : ∃ W2, (W.setCell ⟨w.heap.size, 0, none⟩ (.int .u64 (num (foldV 0#64 (vals s))))).setCell ⟨w.heap.size + 1, 0, none⟩ (.int .i64 0) = W2 := ⟨_, rfl⟩
      have ht2 : Turns (fun b => b = w.heap.size ∨ b = w.heap.size + 1) W W2 := by rw [← hW2]; exact ((Turns.refl _ W).setCell (fun _ => .inl rfl) _).setCell (fun _ => .inr rfl) _
      rw [hW2] at d0 d1
      have hK2 := ht2.obj (by simp <;> omega) hK
      have hB2 := hB.trans (ht2.below hB.size (fun i hi e => by omega))
      have hs0 : w.heap.size < W2.heap.size := World.block_lt_of_cell? _ _ d0
      rw [hW2]
      refine ret_mark (.tuple #[.int .u64 (num (foldV 0#64 (vals s))), .int .i64 0]) hK2 (fun W3 ht3 => ?_)
      have e0 := ht3.cell (by simp <;> omega) d0
      have e1 := ht3.cell (by simp <;> omega) d1
      refine ⟨by simp [results, Try.f16, go_sem, e0, e1], ⟨_, .inl ⟨?_, rfl⟩⟩, hB2.trans (ht3.below (by omega) (fun i hi e => by simp at e; omega))⟩
      unfold parseR; rw [if_pos h16]; exact parseF_ok _ _ hg
    case stop =>
      rintro c k S W hk hz ⟨rfl, ⟨v, hv, hv16⟩, hB, c0, c1⟩ hK
      have hs0 : w.heap.size < W.heap.size := World.block_lt_of_cell? _ _ c0
      gi_wp2_with fail
      refine ret_mark (.tuple #[.int .u64 0, .int .i64 50]) hK (fun W3 ht3 => ?_)
      have e0 := ht3.cell (by simp <;> omega) c0
      have e1 := ht3.cell (by simp <;> omega) c1
      refine ⟨by simp [results, Try.f16, go_sem, e0, e1], ⟨0, .inr ⟨?_, rfl⟩⟩, hB.trans (ht3.below (by omega) (fun i hi e => by simp at e; omega))⟩
      unfold parseR; rw [if_pos h16]; exact parseF_bad _ _ _ hv hv16
  · have hq : (((s.size : Nat) : Int) != 16) = true := by simp; omega
    gi_wp2_with fail
    refine ret_plain (.tuple #[.int .u64 0, .int .i64 50]) (by simp [results, Try.f16, go_sem]) ⟨⟨0, .inr ⟨?_, rfl⟩⟩, al (al (Below.refl _ w) _) _⟩
    unfold parseR; rw [if_neg h16]

end Go.Proofs.Ytmlmgpliajffnaa
