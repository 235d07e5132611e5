/- LAW SignVerifies. -/
import Derived.Test.YtjpicnfkmfjnoaaSgnR
import Derived.Test.YtjpicnfkmfjnoaaSgnT
import Derived.Test.YtjpicnfkmfjnoaaSgnO
namespace Go.Proofs.Ytjpicnfkmfjnoaa
open Go.RowKit

set_option maxRecDepth 20000 in
set_option maxHeartbeats 4000000 in
theorem verifies_law (seed : D64) (h8 : UInt8) (x : Option Addr) (l : List D64) (c : Nat) (w : World) (hx : Wts w x l) (hlc : l.length ≤ c) (_hcm : c ≤ maxLen) (hxc : x = none → c = 0) : Calls Try.prog 9 #[.int .u64 (num seed), .int .u8 (h8.toNat : Int), .slice x l.length c] w (YesOf w) := by
  obtain ⟨n, hn⟩ : ∃ k, h8.toNat % 3 = k := ⟨_, rfl⟩
  have hq8 : h8.toNat < 256 := h8.toNat_lt
  have hn3 : n < 3 := by omega
  have hqk : (h8.toNat : Int) % 3 = (n : Int) := by omega
  have hqk2 : (h8.toNat : Int).tmod 3 = (n : Int) := by rw [Int.tmod_eq_emod_of_nonneg (by omega)]; exact hqk
  obtain ⟨qn, hqn⟩ : ∃ n, h8.toNat = n := ⟨_, rfl⟩
  rw [hqn] at hqk hqk2 hq8 ⊢
  clear hn hqn
  obtain ⟨P, hP⟩ : ∃ P, (n = 0 ∧ P = 1) ∨ (n = 1 ∧ P = 2) ∨ (n = 2 ∧ P = 4) := by
    have : n = 0 ∨ n = 1 ∨ n = 2 := by omega
    rcases this with rfl | rfl | rfl
    · exact ⟨1, .inl ⟨rfl, rfl⟩⟩
    · exact ⟨2, .inr (.inl ⟨rfl, rfl⟩)⟩
    · exact ⟨4, .inr (.inr ⟨rfl, rfl⟩)⟩
  have hP4 : 1 ≤ P ∧ P ≤ 4 := by omega
  have hpow : (2 : Int) ^ n = (P : Int) := by rcases hP with ⟨rfl, rfl⟩ | ⟨rfl, rfl⟩ | ⟨rfl, rfl⟩ <;> rfl
  have hpowN : 2 ^ n = P := by rcases hP with ⟨rfl, rfl⟩ | ⟨rfl, rfl⟩ | ⟨rfl, rfl⟩ <;> rfl
  have HPN := Lib.hid hpowN
  obtain ⟨m, hm⟩ : ∃ m, min l.length 5 = m := ⟨_, rfl⟩
  have hmin : ∀ (ts : Array TypeId) (t : TypeId) (W : World), (Builtin.min_ ts t #[.int .i64 (l.length : Int), .int .i64 5]).run Try.prog W = .ok (.int .i64 (m : Int)) W := fun ts t W => by
    rw [← hm]
    by_cases hc : l.length < 5
    · rw [Nat.min_eq_left (by omega)]
      simp [Builtin.min_, Builtin.min2]
      omega
    · rw [Nat.min_eq_right (by omega)]
      simp [Builtin.min_, Builtin.min2]
      omega
  have hm5 : m ≤ 5 := by omega
  have hml : m ≤ l.length := by omega
  have hmc : m ≤ c := by omega
  obtain ⟨r, hr⟩ : ∃ r, Sgn.node seed n 0 = r := ⟨_, rfl⟩
  have hro := root_ok seed n (by omega)
  have hne := new_ok seed n (by omega)
  rw [hr] at hro hne
  have HR := Lib.hid hr
  have HML := Lib.hid hml
  obtain ⟨ll, hll⟩ : ∃ k, l.length = k := ⟨_, rfl⟩
  rw [hll] at hmin hlc hml ⊢
  have HX0 := Lib.hid hx
  clear hm hr hpowN hll hx
  go_enter Try.func9, Try.ntmps9
  go_wp2_with fail
  refine (hro _).mono ?_
  rintro e W1 ⟨rfl, hB⟩
  go_wp2_with fail
  refine (hne _).mono ?_
  rintro e W2 ⟨sb, rfl, sg, hsb, hb⟩
  have hwsb : w.heap.size ≤ sb := Nat.le_trans hB.size hsb
  replace hB := thru hB hb
  clear hb hsb hro hne
  go_wp2_with fail
  refine (sroot_some sb (num r) _ sg.c2).mono ?_
  rintro e W3 ⟨rfl, hb⟩
  replace sg := sg.later hb
  replace hB := thru hB hb
  clear hb
  go_wp2_with fail
  obtain ⟨V0, hV0⟩ : ∃ V, W3 = V := ⟨_, rfl⟩
  subst hV0
  clear hmin hqk hqk2 hq8
  go_loopw [55] (fun u55 wr => ∃ k q : Nat, k ≤ m ∧ u55 = .int .i64 (k : Int) ∧ q = min k P ∧ Below w.heap.size w wr ∧ Sgr wr sb seed n r q) (fun u55 _ => m - (intOf u55).toNat)
  case atStart => exact ⟨0, 0, by omega, rfl, by omega, hB, sg⟩
  case round =>
    clear hB sg
    obtain ⟨k, q, hk, rfl, hq, hB, sg⟩ := hrel
    by_cases hlt : k < m
    · have hkm : decide (k < m) = true := decide_eq_true hlt
      have hx := HX0.out.later hB
      obtain ⟨bx, ox, rfl, kx⟩ := hx.cell k (by have := HML.out; omega)
      obtain ⟨dk, hdk⟩ : ∃ d, l.getD k 0#64 = d := ⟨_, rfl⟩
      rw [hdk] at kx
      clear hdk hx
      by_cases hkP : k < P
      · have hqk : q = k := by omega
        subst hqk
        have hZ : ∃ z, P - q = z := ⟨_, rfl⟩
        obtain ⟨z, hz⟩ := hZ
        have HZ := Lib.hid hz
        have hzI : (P : Int) - (q : Int) = (z : Int) := by omega
        have hzw : wrap64 ((P : Int) - (q : Int)) = (z : Int) := by rw [hzI]; exact IntWalk.wrap64_in _ (by omega)
        have hmax : ∀ (ts : Array TypeId) (t : TypeId) (W : World), (Builtin.max_ ts t #[.int .i64 (z : Int), .int .i64 0]).run Try.prog W = .ok (.int .i64 (z : Int)) W := fun ts t W => by
          simp [Builtin.max_, Builtin.max2]
          try omega
        have hge : decide (P ≤ q) = false := decide_eq_false (by omega)
        have HK := Lib.hid hkP
        clear hz hkP hq
        go_wp2_with fail
        refine wp_region_sched (fun W => True ∧ Below wr.heap.size wr W) (.one [0, 2, 3, 4, 5, 6] 1 (.done [7])) (by kernel_rfl) (by kernel_rfl) (fun _ _ _ _ _ h => h) ⟨trivial, (Below.refl _ _).drew⟩ ?_
        rintro V ⟨-, hWV⟩
        rw [wpSched]
        simp only [pick, List.map_cons, List.map_nil, Array.getD_eq_getD_getElem?, List.getElem?_toArray, List.getElem?_cons_succ, List.getElem?_cons_zero, Option.getD_some]
        repeat (first | go_big_quiet_step (fail) | quiet_step (fail))
        refine wpQuiet_nil ?_
        refine heavy_want (by rfl) (fun K' hK' => ?_)
        go_simp
        refine (left_made sb seed r n q P _ (sg.later hWV) hP (by omega)).mono ?_
        rintro e V1 ⟨rfl, hb⟩
        refine hK' _ _ hb ?_
        clear hK' K'
        replace hWV := thru hWV hb
        clear hb
        try simp only [Act.put, List.setIfInBounds_toArray, List.set_cons_zero, List.set_cons_succ]
        rw [wpSched]
        simp only [pick, List.map_cons, List.map_nil, Array.getD_eq_getD_getElem?, List.getElem?_toArray, List.getElem?_cons_succ, List.getElem?_cons_zero, Option.getD_some]
        rw [HZ.out]
        repeat (first | go_big_quiet_step (fail) | quiet_step (fail))
        refine wpQuiet_nil ?_
        go_wp2_with fail
        refine (ssign_ok sb seed r dk n q P _ (sg.later hWV) hP HK.out).mono ?_
        rintro e V2 ⟨xx, cx, rfl, ho, ht, sg2⟩
        obtain ⟨F, hF⟩ : ∃ f, (fun i => Sgn.val seed (u8z (q : Int)) (u8z ((q : Int) / 256)) i (Sgn.dig dk i)) = f := ⟨_, rfl⟩
        have HF := Lib.hid hF
        rw [hF]
        have hB2 : Below w.heap.size w V2 := (thru hB hWV).trans (ht.below (Nat.le_trans hB.size hWV.size) (fun i hi e => by have e' : i = sb := e; omega))
        have hq2 : q < 2 ^ n := by rw [HPN.out]; exact HK.out
        have hpl := Sgn.path_length seed n q
        obtain ⟨p, hp⟩ : ∃ p, Sgn.path seed n q = p := ⟨_, rfl⟩
        have HP := Lib.hid hp
        rw [hp] at ho hpl
        have gx := ho.wts
        have hqI : (q : Int) ≤ 3 := by have := HK.out; omega
        have HE : ∀ (W : World) (xa : Option Addr) (ca : Nat), Wts W xa p → Calls Try.prog 28 #[aggN 20 (sigV (q : Int) F xa n ca)] W fun e w' => ∃ y cy, e = .returned (.tuple #[.slice y (Sgn.enc q F p).length cy, .int .i64 0]) ∧ OwnsB W.heap.size w' y cy (Sgn.enc q F p) ∧ Below W.heap.size W w' := fun W xa ca h => by
          have := encode_ok q F p xa ca W h (by omega) (by rw [hpl]; exact hq2)
          rw [hpl] at this
          exact this
        have HD : ∀ (W : World) (xa : Option Addr) (ca : Nat), Bts W xa (Sgn.enc q F p) → Calls Try.prog 30 #[.slice xa (Sgn.enc q F p).length ca] W fun e w' => ∃ y cy g, e = .returned (.tuple #[aggN 20 (sigV (q : Int) g y n cy), .int .i64 0]) ∧ (∀ j, j < 18 → g j = F j) ∧ OwnsW W.heap.size w' y cy p ∧ Below W.heap.size W w' := fun W xa ca h => by
          have := dec_enc q F p (by omega) (by rw [hpl]; exact hq2) xa ca W h
          rw [hpl] at this
          exact this
        have HVF : ∀ (W : World), Wts W xx p → Calls Try.prog 23 #[.int .u64 (num r), .int .i64 (n : Int), .int .u64 (num dk), aggN 20 (sigV (q : Int) F xx n cx)] W fun e w' => e = .returned (.bool true) ∧ Below W.heap.size W w' := fun W h => by
          have := verify_yes r dk q F p xx cx W h (by omega) (by rw [hpl]; exact hq2)
          rw [hpl, ← HP.out, ← HF.out, vfy_sign seed n q dk hq2, HR.out, beq_self_eq_true, HF.out] at this
          exact this
        have HS : ∀ (W : World) (xa xb : Option Addr) (ca cb : Nat) (g : Nat → D64), (∀ j, j < 18 → g j = F j) → Wts W xa p → Wts W xb p → Calls Try.prog 20 #[aggN 20 (sigV (q : Int) g xa n ca), aggN 20 (sigV (q : Int) F xb n cb)] W (YesOf W) := fun W xa xb ca cb g hg h1 h2 => by
          have := same_yes (q : Int) g F hg xa xb p ca cb W h1 h2 (by omega)
          rw [hpl] at this
          exact this
        obtain ⟨len, hlen⟩ : ∃ k, (Sgn.enc q F p).length = k := ⟨_, rfl⟩
        rw [hlen] at HD HE
        have HE2 := Lib.hid HE
        have HD2 := Lib.hid HD
        have HVF2 := Lib.hid HVF
        have HS2 := Lib.hid HS
        clear hF hp ho ht hB hWV sg hpl HE HD HVF HS kx hlen
        go_wp2_with (refine wpList_allocTo 14 rfl rfl _ rfl sig_zero ?_; intro Xp0 a_b14 hb0 hz0; refine Hid.out ?_)
        unfold Hid
        try simp only [Act.put, List.setIfInBounds_toArray, List.set_cons_zero, List.set_cons_succ]
        obtain ⟨b14, e_b14⟩ : ∃ a, V2.heap.size = a := ⟨_, rfl⟩
        have s_b14 : V2.heap.size ≤ b14 := by omega
        have hb := hb0
        rw [e_b14] at a_b14 hz0 ⊢
        clear hb0
        have hz : b14 < Xp0.heap.size := by omega
        clear e_b14 hz0
        go_wp2_with (refine wpList_storeB rfl rfl _ (.tmp 14) _ rfl (b := b14) (q := 0) rfl (n := 20) (v := sigV (q : Int) F xx n cx) rfl a_b14 (fun j _ => sig_one _ _ _ _ _ j) sig_size ?_; intro Yp0 t1; refine Hid.out ?_)
        unfold Hid
        replace hb := t1.below _ _ (by omega) hb
        replace a_b14 := t1.blk
        rw [← t1.size] at hz
        clear t1
        replace gx := gx.later hb
        replace sg2 := sg2.later hb
        replace hB2 := thru hB2 hb
        clear hb hz

        go_wp2_with fail
        refine (sign_ok seed n q dk (by omega) hq2 _).mono ?_
        rintro e V3 ⟨xy, cy, rfl, ho, hb⟩
        rw [HF.out]
        rw [HP.out] at ho
        have gy := ho.wts
        clear ho
        replace hB2 := thru hB2 hb
        replace gx := gx.later hb
        replace sg2 := sg2.later hb
        replace a_b14 := a_b14.later hb
        clear hb
        go_wp2_with (refine wpList_allocTo 16 rfl rfl _ rfl sig_zero ?_; intro Xq0 a_b16 hb0 hz0; refine Hid.out ?_)
        unfold Hid
        try simp only [Act.put, List.setIfInBounds_toArray, List.set_cons_zero, List.set_cons_succ]
        obtain ⟨b16, e_b16⟩ : ∃ a, V3.heap.size = a := ⟨_, rfl⟩
        have s_b16 : V3.heap.size ≤ b16 := by omega
        have hb := hb0
        rw [e_b16] at a_b16 hz0 ⊢
        clear hb0
        have hz : b16 < Xq0.heap.size := by omega
        clear e_b16 hz0
        go_wp2_with (refine wpList_storeB rfl rfl _ (.tmp 16) _ rfl (b := b16) (q := 0) rfl (n := 20) (v := sigV (q : Int) F xy n cy) rfl a_b16 (fun j _ => sig_one _ _ _ _ _ j) sig_size ?_; intro Yq0 t1; refine Hid.out ?_)
        unfold Hid
        replace hb := t1.below _ _ (by omega) hb
        replace a_b16 := t1.blk
        rw [← t1.size] at hz
        clear t1
        replace gx := gx.later hb
        replace gy := gy.later hb
        replace sg2 := sg2.later hb
        replace a_b14 := a_b14.later hb
        replace hB2 := thru hB2 hb
        clear hb hz

        have l14 := run_loadS a_b14
        go_wp2_with (refine wpList_loadN rfl _ (.tmp 14) rfl (b := b14) (q := 0) rfl l14 ?_)
        refine (HE2.out _ xx cx gx).mono ?_
        rintro e V4 ⟨xe, ce, rfl, ho, hb⟩
        have ge := ho.bts
        clear ho l14
        replace hB2 := thru hB2 hb
        replace gx := gx.later hb
        replace gy := gy.later hb
        replace sg2 := sg2.later hb
        replace a_b14 := a_b14.later hb
        replace a_b16 := a_b16.later hb
        clear hb
        go_wp2_with fail
        refine (HD2.out _ xe ce ge).mono ?_
        rintro e V5 ⟨xz, cz, g, rfl, hg, ho, hb⟩
        have gz := ho.wts
        have HG := Lib.hid hg
        clear ho ge hg
        replace hB2 := thru hB2 hb
        replace gx := gx.later hb
        replace gy := gy.later hb
        replace sg2 := sg2.later hb
        replace a_b14 := a_b14.later hb
        replace a_b16 := a_b16.later hb
        clear hb
        go_wp2_with (refine wpList_allocTo 20 rfl rfl _ rfl sig_zero ?_; intro Xr0 a_b20 hb0 hz0; refine Hid.out ?_)
        unfold Hid
        try simp only [Act.put, List.setIfInBounds_toArray, List.set_cons_zero, List.set_cons_succ]
        obtain ⟨b20, e_b20⟩ : ∃ a, V5.heap.size = a := ⟨_, rfl⟩
        have s_b20 : V5.heap.size ≤ b20 := by omega
        have hb := hb0
        rw [e_b20] at a_b20 hz0 ⊢
        clear hb0
        have hz : b20 < Xr0.heap.size := by omega
        clear e_b20 hz0
        go_wp2_with (refine wpList_storeB rfl rfl _ (.tmp 20) _ rfl (b := b20) (q := 0) rfl (n := 20) (v := sigV (q : Int) g xz n cz) rfl a_b20 (fun j _ => sig_one _ _ _ _ _ j) sig_size ?_; intro Yr0 t1; refine Hid.out ?_)
        unfold Hid
        replace hb := t1.below _ _ (by omega) hb
        replace a_b20 := t1.blk
        rw [← t1.size] at hz
        clear t1
        replace gx := gx.later hb
        replace gy := gy.later hb
        replace gz := gz.later hb
        replace sg2 := sg2.later hb
        replace a_b14 := a_b14.later hb
        replace a_b16 := a_b16.later hb
        replace hB2 := thru hB2 hb
        clear hb hz

        have k14 : Yr0.cell? ⟨b14, 0, none⟩ = some (.int .i64 (q : Int)) := (a_b14.at 0 (by omega)).1
        have l14 := run_loadS a_b14
        have l16 := run_loadS a_b16
        go_wp2_with (first | (refine wpList_loadN_w rfl _ (.tmp 14) rfl (b := b14) (q := 0) rfl l14 ?_) | (refine wpList_loadN_w rfl _ (.tmp 16) rfl (b := b16) (q := 0) rfl l16 ?_))
        refine (HS2.out _ xx xy cx cy F (fun _ _ => rfl) gx gy).mono ?_
        rintro e V6 ⟨rfl, hb⟩
        clear l14 l16 k14
        replace hB2 := thru hB2 hb
        replace gx := gx.later hb
        replace gz := gz.later hb
        replace sg2 := sg2.later hb
        replace a_b14 := a_b14.later hb
        replace a_b20 := a_b20.later hb
        clear hb gy a_b16
        have l14 := run_loadS a_b14
        have l20 := run_loadS a_b20
        go_wp2_with (first | (refine wpList_loadN_w rfl _ (.tmp 14) rfl (b := b14) (q := 0) rfl l14 ?_) | (refine wpList_loadN_w rfl _ (.tmp 20) rfl (b := b20) (q := 0) rfl l20 ?_))
        refine (HS2.out _ xz xx cz cx g HG.out gz gx).mono ?_
        rintro e V7 ⟨rfl, hb⟩
        clear l14 l20
        replace hB2 := thru hB2 hb
        replace gx := gx.later hb
        replace sg2 := sg2.later hb
        replace a_b14 := a_b14.later hb
        clear hb gz a_b20
        have l14 := run_loadS a_b14
        go_wp2_with (refine wpList_loadN_w rfl _ (.tmp 14) rfl (b := b14) (q := 0) rfl l14 ?_)
        refine (HVF2.out _ gx).mono ?_
        rintro e V8 ⟨rfl, hb⟩
        clear l14
        replace hB2 := thru hB2 hb
        replace sg2 := sg2.later hb
        clear hb gx a_b14
        go_wp2_with fail
        exact ⟨⟨q + 1, q + 1, by omega, by go_num, by have := HK.out; omega, hB2, sg2⟩, by simp [intOf]; omega⟩
      · have hqP : q = P := by omega
        subst hqP
        have hmax : ∀ (ts : Array TypeId) (t : TypeId) (W : World), (Builtin.max_ ts t #[.int .i64 ((q : Int) - (k : Int)), .int .i64 0]).run Try.prog W = .ok (.int .i64 0) W := fun ts t W => by
          simp [Builtin.max_, Builtin.max2]
          try omega
        have hge : decide (q ≤ k) = true := decide_eq_true (by omega)
        have hk4 : k ≤ 4 := by omega
        have HK := Lib.hid hkP
        clear hkP hq
        go_wp2_with fail
        refine wp_region_sched (fun W => True ∧ Below wr.heap.size wr W) (.one [0, 2, 3, 4, 5, 6] 1 (.done [7])) (by kernel_rfl) (by kernel_rfl) (fun _ _ _ _ _ h => h) ⟨trivial, (Below.refl _ _).drew⟩ ?_
        rintro V ⟨-, hWV⟩
        rw [wpSched]
        simp only [pick, List.map_cons, List.map_nil, Array.getD_eq_getD_getElem?, List.getElem?_toArray, List.getElem?_cons_succ, List.getElem?_cons_zero, Option.getD_some]
        repeat (first | go_big_quiet_step (fail) | quiet_step (fail))
        refine wpQuiet_nil ?_
        refine heavy_want (by rfl) (fun K' hK' => ?_)
        go_simp
        refine (left_made sb seed r n q q _ (sg.later hWV) hP (Nat.le_refl _)).mono ?_
        rintro e V1 ⟨rfl, hb⟩
        refine hK' _ _ hb ?_
        clear hK' K'
        replace hWV := thru hWV hb
        clear hb
        try simp only [Act.put, List.setIfInBounds_toArray, List.set_cons_zero, List.set_cons_succ]
        rw [wpSched]
        simp only [pick, List.map_cons, List.map_nil, Array.getD_eq_getD_getElem?, List.getElem?_toArray, List.getElem?_cons_succ, List.getElem?_cons_zero, Option.getD_some]
        rw [Nat.sub_self]
        repeat (first | go_big_quiet_step (fail) | quiet_step (fail))
        refine wpQuiet_nil ?_
        go_wp2_with fail
        refine (ssign_none sb seed r dk n q _ (sg.later hWV) hP).mono ?_
        rintro e V2 ⟨rfl, hb⟩
        replace hWV := thru hWV hb
        clear hb kx
        go_wp2_with (refine wpList_allocTo 14 rfl rfl _ rfl sig_zero ?_; intro Xp0 a_b14 hb0 hz0; refine Hid.out ?_)
        unfold Hid
        try simp only [Act.put, List.setIfInBounds_toArray, List.set_cons_zero, List.set_cons_succ]
        obtain ⟨b14, e_b14⟩ : ∃ a, V2.heap.size = a := ⟨_, rfl⟩
        have s_b14 : V2.heap.size ≤ b14 := by omega
        have hb := hb0
        rw [e_b14] at a_b14 hz0 ⊢
        clear hb0
        have hz : b14 < Xp0.heap.size := by omega
        clear e_b14 hz0
        go_wp2_with (refine wpList_storeB rfl rfl _ (.tmp 14) _ rfl (b := b14) (q := 0) rfl (n := 20) (v := zeroS) rfl a_b14 (fun j _ => sig_one _ _ _ _ _ j) sig_size ?_; intro Yp0 t1; refine Hid.out ?_)
        unfold Hid
        replace hb := t1.below _ _ (by omega) hb
        replace a_b14 := t1.blk
        rw [← t1.size] at hz
        clear t1
        replace hWV := thru hWV hb
        clear hb hz

        have l14 := run_loadS a_b14
        clear a_b14
        go_wp2_with (refine wpList_loadN_w rfl _ (.tmp 14) rfl (b := b14) (q := 0) rfl l14 ?_)
        refine (same_zero _).mono ?_
        rintro e V3 ⟨rfl, hb⟩
        replace hWV := thru hWV hb
        clear hb l14
        go_wp2_with fail
        exact ⟨⟨k + 1, q, by omega, by go_num, by have := HK.out; omega, thru hB hWV, sg.later hWV⟩, by simp [intOf]; omega⟩
    · obtain rfl : k = m := by omega
      clear sg
      go_wp2_with fail
      refine (awake_any _).mono ?_
      rintro e W4 ⟨rfl, hb⟩
      go_wp2_with fail
      go_ret
      exact ⟨rfl, thru hB hb⟩

end Go.Proofs.Ytjpicnfkmfjnoaa
