/- WALKS of the loader's laws: signed software; Signed, Same, sizes. -/
import Derived.Test.YtapefonhgkjgnaaGreatLdQ
set_option maxRecDepth 20000
namespace Go.Proofs.YtapefonhgkjgnaaGreat
open Go.RowKit

theorem u8z_key (q : Nat) : u8z (q : Int) = Sgn.keyA q := u8z_nat q
theorem u8z_key2 (q : Nat) : u8z ((q : Int) / 256) = Sgn.keyB q := by
  unfold Sgn.keyB
  rw [← u8z_nat]
  rfl
theorem vfy_sign (seed : D64) (h q : Nat) (d : D64) (hq : q < 2 ^ h) : Sgn.vfy d q (fun i => Sgn.val seed (u8z (q : Int)) (u8z ((q : Int) / 256)) i (Sgn.dig d i)) (Sgn.path seed h q) = Sgn.node seed h 0 := by
  unfold Sgn.vfy
  rw [Sgn.path_length]
  have e : Sgn.pubE (fun i => Sgn.adv (UInt8.ofNat i) (Sgn.dig d i) (15 - Sgn.dig d i) (Sgn.val seed (u8z (q : Int)) (u8z ((q : Int) / 256)) i (Sgn.dig d i))) = Sgn.node seed 0 q := by
    show _ = Sgn.pub seed (Sgn.keyA q) (Sgn.keyB q)
    unfold Sgn.pub
    refine Sgn.pubE_congr fun i hi => ?_
    rw [← Sgn.val_add, u8z_key, u8z_key2]
    have := Sgn.dig_le d i
    rw [show Sgn.dig d i + (15 - Sgn.dig d i) = 15 by omega]
  rw [e]
  exact Sgn.up_root seed h q hq
theorem vfy_congr (d : D64) (q : Nat) {f g : Nat → D64} (p : List D64) (h : ∀ i, i < 18 → f i = g i) : Sgn.vfy d q f p = Sgn.vfy d q g p := by
  unfold Sgn.vfy
  rw [Sgn.pubE_congr fun i hi => by rw [h i hi]]
/-- Software without a signature. -/
def bare (nm : List UInt8) (v : Int) (im : List UInt8) : Ld.Sw := ⟨nm, v, im, 0, fun _ => 0#64, []⟩
/-- Software that is signed with key q of a tree of height h. -/
def sgnS (seed : D64) (h q : Nat) (nm : List UInt8) (v : Int) (im : List UInt8) : Ld.Sw :=
  ⟨nm, v, im, (q : Int), Ld.cut18 (fun i => Sgn.val seed (u8z (q : Int)) (u8z ((q : Int) / 256)) i (Sgn.dig (dgV (bare nm v im)) i)), Sgn.path seed h q⟩
theorem sgn_vld {seed : D64} {h q : Nat} (h6 : h ≤ 6) (hq : q < 2 ^ h) (nm : List UInt8) (v : Int) (im : List UInt8) : (sgnS seed h q nm v im).vld = (bare nm v im).vld := by
  have hqi : (q : Int) < 2 ^ h := by
    have : (q : Int) < ((2 ^ h : Nat) : Int) := by exact_mod_cast hq
    simpa using this
  rw [Bool.eq_iff_iff, Ld.Sw.vld_iff, Ld.Sw.vld_iff]
  unfold sgnS bare
  simp only [Sgn.path_length, List.length_nil]
  exact ⟨fun k => ⟨k.1, k.2.1, k.2.2.1, by omega, by omega, by decide⟩, fun k => ⟨k.1, k.2.1, k.2.2.1, h6, by omega, hqi⟩⟩
theorem sgn_N (seed : D64) (h q : Nat) (nm : List UInt8) (v : Int) (im : List UInt8) : (sgnS seed h q nm v im).N := Ld.cut18_idem _
theorem sgn_cont (seed : D64) (h q : Nat) (nm : List UInt8) (v : Int) (im : List UInt8) : Ld.cont (sgnS seed h q nm v im) = Ld.cont (bare nm v im) := rfl
theorem sgn_genu {seed : D64} {h q : Nat} (h6 : h ≤ 6) (hq : q < 2 ^ h) (nm : List UInt8) (v : Int) (im : List UInt8) (hv : (bare nm v im).vld = true) : Ld.genu (sgnS seed h q nm v im) (Sgn.node seed h 0) (h : Int) = true := by
  unfold Ld.genu
  rw [sgn_vld h6 hq, hv, sgn_cont, Bool.true_and]
  have e1 : ((sgnS seed h q nm v im).path.length : Int) = (h : Int) := by unfold sgnS; rw [Sgn.path_length]
  rw [decide_eq_true e1, Bool.true_and, beq_iff_eq]
  have e2 : dgV (bare nm v im) = Dig.ofL (Ld.cont (bare nm v im)) := if_pos hv
  have := vfy_sign seed h q (Dig.ofL (Ld.cont (bare nm v im))) hq
  rw [← this]
  show Sgn.vfy _ ((q : Int)).toNat _ _ = _
  rw [Int.toNat_natCast]
  refine vfy_congr _ _ _ fun i hi => ?_
  unfold sgnS
  dsimp only
  rw [Ld.cut18_lt _ _ hi, e2]

def SigOf (s : Ld.Sw) (v : Bool) (xi : Option Addr) (ci : Nat) (w : World) (e : Ending) (w' : World) : Prop := ∃ xp cp, e = .returned (.tuple #[aggN 23 (softV s ⟨xi, ci, xp, cp⟩), .bool v]) ∧ SwIn w' s ⟨xi, ci, xp, cp⟩ ∧ (∀ p, xp = some p → w.heap.size ≤ p.block) ∧ Below w.heap.size w w'
set_option maxHeartbeats 1000000 in
theorem signed_any (seed : D64) (h q : Nat) (nm : List UInt8) (v : Int) (im : List UInt8) (xi : Option Addr) (ci : Nat) (w : World) (h6 : h ≤ 6) (hq : q < 2 ^ h) (hx : Bts w xi im) (hxn : xi = none → ci = 0) :
    Calls Tryz.prog 23 #[.int .u64 (num seed), .int .i64 (h : Int), .int .i64 (q : Int), .string ⟨nm.toArray⟩, .int .i64 v, .slice xi im.length ci] w (SigOf (sgnS seed h q nm v im) (bare nm v im).vld xi ci w) := by
  have hi : SwIn w (bare nm v im) ⟨xi, ci, none, 0⟩ := ⟨hx, hxn, .inl rfl⟩
  have HX0 := Lib.hid hx
  have HD := fun W hW => digest_any (bare nm v im) ⟨xi, ci, none, 0⟩ W hW
  have HS := fun W => sign_ok seed h q (dgV (bare nm v im)) h6 hq W
  have hpl := Sgn.path_length seed h q
  have HC : Hid (dgC (bare nm v im) = if (bare nm v im).vld = true then 0 else 2) := rfl
  have HX : Hid (∀ xp cp, aggN 20 (sigV (q : Int) (fun i => Sgn.val seed (u8z (q : Int)) (u8z ((q : Int) / 256)) i (Sgn.dig (dgV (bare nm v im)) i)) xp h cp) = aggN 20 (sigV (q : Int) (sgnS seed h q nm v im).ch xp h cp)) := fun xp cp => aggN_congr fun j hj => by
    unfold sigV
    split
    · rfl
    · split
      · show _ = Value.int .u64 (num (Ld.cut18 _ _))
        rw [Ld.cut18_lt _ _ (by omega)]
      · rfl
  simp only [HX.out] at HS
  have HNM : Hid (sgnS seed h q nm v im = ⟨nm, v, im, (q : Int), (sgnS seed h q nm v im).ch, Sgn.path seed h q⟩) := rfl
  obtain ⟨ch, hch⟩ : ∃ f, (sgnS seed h q nm v im).ch = f := ⟨_, rfl⟩
  rw [hch] at HS HNM
  obtain ⟨pt, hpt⟩ : ∃ f, Sgn.path seed h q = f := ⟨_, rfl⟩
  rw [hpt] at HS HNM hpl
  obtain ⟨sg, hsg⟩ : ∃ f, sgnS seed h q nm v im = f := ⟨_, rfl⟩
  rw [hsg] at HNM ⊢
  obtain ⟨d, hd⟩ : ∃ f, dgV (bare nm v im) = f := ⟨_, rfl⟩
  rw [hd] at HD HS
  obtain ⟨cd, hcd⟩ : ∃ f, dgC (bare nm v im) = f := ⟨_, rfl⟩
  rw [hcd] at HD HC
  obtain ⟨vl, hvl⟩ : ∃ f, (bare nm v im).vld = f := ⟨_, rfl⟩
  rw [hvl] at HC ⊢
  clear hch hpt hsg hd hcd hvl HX
  go_enter Tryz.func23, Tryz.ntmps23
  go_wp2_with (refine wpList_allocTo 12 rfl rfl _ rfl soft_zero ?_; intro W12 g12 hb12 hz12; refine Hid.out ?_)
  unfold Hid
  try simp only [Act.put, List.setIfInBounds_toArray, List.set_cons_zero, List.set_cons_succ]
  replace hi := hi.later hb12
  have hB := hb12
  obtain ⟨b12, e12⟩ : ∃ b, w.heap.size = b := ⟨_, rfl⟩
  rw [e12] at g12 hz12 hB ⊢
  clear hb12
  have z12 : b12 < W12.heap.size := by omega
  clear hz12
  go_wp2_with (refine wpList_allocTo 14 rfl rfl _ rfl soft_zero ?_; intro Xt0 a_b14 hb0 hz0; refine Hid.out ?_)
  unfold Hid
  try simp only [Act.put, List.setIfInBounds_toArray, List.set_cons_zero, List.set_cons_succ]
  obtain ⟨b14, e_b14⟩ : ∃ a, W12.heap.size = a := ⟨_, rfl⟩
  have s_b14 : W12.heap.size ≤ b14 := by omega
  have hb := hb0
  rw [e_b14] at a_b14 hz0 ⊢
  clear hb0
  have hz : b14 < Xt0.heap.size := by omega
  clear e_b14 hz0
  go_wp2_with (refine wpList_storeB rfl rfl _ (.tmp 14) _ rfl (b := b14) (q := 0) rfl (n := 23) (v := softV (bare nm v im) ⟨xi, ci, none, 0⟩) rfl a_b14 (fun j _ => soft_one _ _ _) soft_size ?_; intro Yt0 t1; refine Hid.out ?_)
  unfold Hid
  replace hb := t1.below _ _ (by omega) hb
  replace a_b14 := t1.blk
  rw [← t1.size] at hz
  clear t1
  replace g12 := g12.later hb
  replace hi := hi.later hb
  replace hB := hB.trans (hb.mono (by omega))
  clear hb hz
  have z14 : b12 < b14 := by omega
  have y14 : b14 < Yt0.heap.size := World.block_lt_of_cell? _ _ (a_b14.at 0 (by omega)).1
  clear s_b14 z12
  go_wp2_with (refine wpList_loadN rfl _ _ rfl (b := b14) (q := 0) rfl (run_loadSw a_b14) ?_)
  refine (HD _ hi).mono ?_
  rintro e w1 ⟨rfl, hb⟩
  replace g12 := g12.later hb
  replace a_b14 := a_b14.later hb
  replace hi := hi.later hb
  replace hB := hB.trans (hb.mono (by omega))
  replace y14 := Nat.lt_of_lt_of_le y14 hb.size
  clear hb HD
  go_wp2_with fail
  refine (HS _).mono ?_
  rintro e w2 ⟨xp, cp, rfl, ow, hb⟩
  have hnew : ∀ p, xp = some p → w1.heap.size ≤ p.block := fun p e => by subst e; exact (ow.low p.block rfl).1
  have pb := ow.wts
  replace g12 := g12.later hb
  replace a_b14 := a_b14.later hb
  replace hi := hi.later hb
  replace hB := hB.trans (hb.mono (by omega))
  have hz := hb.size
  clear hb HS ow
  go_wp2_with (refine wpList_allocTo 17 rfl rfl _ rfl sig_zero ?_; intro Xv0 a_b17 hb0 hz0; refine Hid.out ?_)
  unfold Hid
  try simp only [Act.put, List.setIfInBounds_toArray, List.set_cons_zero, List.set_cons_succ]
  obtain ⟨b17, e_b17⟩ : ∃ a, w2.heap.size = a := ⟨_, rfl⟩
  have s_b17 : w2.heap.size ≤ b17 := by omega
  have hb := hb0
  rw [e_b17] at a_b17 hz0 ⊢
  clear hb0
  have hz : b17 < Xv0.heap.size := by omega
  clear e_b17 hz0
  go_wp2_with (refine wpList_storeB rfl rfl _ (.tmp 17) _ rfl (b := b17) (q := 0) rfl (n := 20) (v := sigV (q : Int) ch xp h cp) rfl a_b17 (fun j _ => sig_one _ _ _ _ _ j) sig_size ?_; intro Yv0 t1; refine Hid.out ?_)
  unfold Hid
  replace hb := t1.below _ _ (by omega) hb
  replace a_b17 := t1.blk
  rw [← t1.size] at hz
  clear t1
  replace g12 := g12.later hb
  replace a_b14 := a_b14.later hb
  replace hi := hi.later hb
  replace pb := pb.later hb
  replace hB := hB.trans (hb.mono (by omega))
  clear hb hz
  have z17 : b14 < b17 := by omega
  have NEW := Lib.hid (show ∀ p, xp = some p → b14 < p.block from fun p e => by have := hnew p e; omega)
  clear s_b17 hz hnew y14
  go_wp2_with (first | (refine wpList_loadN rfl _ (.tmp 17) rfl (b := b17) (q := 0) rfl (run_loadSg a_b17) ?_) | (refine wpList_storeB rfl rfl _ (.tmp 37) _ rfl (b := b14) (q := 3) rfl (n := 20) (v := sigV (q : Int) ch xp h cp) rfl a_b14.sig (fun j _ => sig_one _ _ _ _ _ j) sig_size ?_; intro X10 t10; refine Hid.out ?_))
  unfold Hid
  try simp only [Act.put, List.setIfInBounds_toArray, List.set_cons_zero, List.set_cons_succ]
  have g14 : Blk X10 b14 0 23 (softV sg ⟨xi, ci, xp, cp⟩) := by
    have := a_b14.setSig (p := pt) (x := xp) (c := cp) (key := (q : Int)) (ch := ch) (by rw [hpl]; exact t10)
    rw [HNM.out]
    exact this
  have tn := t10.turns (fun b => b = b14) _ (fun _ => rfl) (Turns.refl _ _)
  replace g12 := t10.other (.inl (by omega)) g12
  replace hB := t10.below _ _ (by omega) hB
  have hin : SwIn X10 sg ⟨xi, ci, xp, cp⟩ := by
    rw [HNM.out]
    exact ⟨HX0.out.later (by rw [e12]; exact hB), hi.2.1, pb.turn tn (fun p e k => by have := NEW.out p e; omega)⟩
  clear tn t10 a_b14 a_b17 hi pb hpl
  cases vl with
  | false =>
    obtain rfl : cd = 2 := by rw [HC.out]; rfl
    go_wp2_with (first | (refine wpList_loadN rfl _ (.tmp 14) rfl (b := b14) (q := 0) rfl (run_loadSw g14) ?_) | (refine wpList_storeB rfl rfl _ (.tmp 12) _ rfl (b := b12) (q := 0) rfl (n := 23) (v := softV sg ⟨xi, ci, xp, cp⟩) rfl g12 (fun j _ => soft_one _ _ _) soft_size ?_; intro Y1 u1; refine Hid.out ?_))
    unfold Hid
    try simp only [Act.put, List.setIfInBounds_toArray, List.set_cons_zero, List.set_cons_succ]
    have tn := u1.turns (fun b => b = b12) _ (fun _ => rfl) (Turns.refl _ _)
    replace hB := u1.below _ _ (Nat.le_refl _) hB
    have l1 := run_loadSw u1.blk
    have hpw := hin.2.2.turn tn (fun p e k => by have := NEW.out p e; omega)
    replace hin : SwIn Y1 sg ⟨xi, ci, xp, cp⟩ := by
      rw [HNM.out] at hpw ⊢
      exact ⟨HX0.out.later (by rw [e12]; exact hB), hin.2.1, hpw⟩
    clear tn u1 g14 g12
    go_wp2_with fail
    refine bodyPost_ret (v := .tuple #[aggN 23 (softV sg ⟨xi, ci, xp, cp⟩), .bool false]) ?_ rfl ⟨xp, cp, rfl, hin, fun p e => (by have := NEW.out p e; omega), by rw [e12]; exact hB⟩
    rw [results_cell_tmp rfl]
    simp [asAddr, Result.andThen]
    rw [l1]
  | true =>
    obtain rfl : cd = 0 := by rw [HC.out]; rfl
    go_wp2_with (first | (refine wpList_loadN rfl _ (.tmp 14) rfl (b := b14) (q := 0) rfl (run_loadSw g14) ?_) | (refine wpList_storeB rfl rfl _ (.tmp 12) _ rfl (b := b12) (q := 0) rfl (n := 23) (v := softV sg ⟨xi, ci, xp, cp⟩) rfl g12 (fun j _ => soft_one _ _ _) soft_size ?_; intro Y1 u1; refine Hid.out ?_))
    unfold Hid
    try simp only [Act.put, List.setIfInBounds_toArray, List.set_cons_zero, List.set_cons_succ]
    have tn := u1.turns (fun b => b = b12) _ (fun _ => rfl) (Turns.refl _ _)
    replace hB := u1.below _ _ (Nat.le_refl _) hB
    have l1 := run_loadSw u1.blk
    have hpw := hin.2.2.turn tn (fun p e k => by have := NEW.out p e; omega)
    replace hin : SwIn Y1 sg ⟨xi, ci, xp, cp⟩ := by
      rw [HNM.out] at hpw ⊢
      exact ⟨HX0.out.later (by rw [e12]; exact hB), hin.2.1, hpw⟩
    clear tn u1 g14 g12
    go_wp2_with fail
    refine bodyPost_ret (v := .tuple #[aggN 23 (softV sg ⟨xi, ci, xp, cp⟩), .bool true]) ?_ rfl ⟨xp, cp, rfl, hin, fun p e => (by have := NEW.out p e; omega), by rw [e12]; exact hB⟩
    rw [results_cell_tmp rfl]
    simp [asAddr, Result.andThen]
    rw [l1]

section
variable {w : World} {o : Oper} {a : Act} {Q : Exit → Act → World → Prop}
def encI (b : Int) : Value := .int .i64 b
theorem infoInt : (Tryz.prog.info? 3).map (fun i => (i.zero, i.size, i.bytes)) = some (some (.int .i64 0), 1, 8) := by kernel_rfl
def OwnsI (B : Nat) (w : World) (x : Option Addr) (cap : Nat) (l : List Int) : Prop := w.ownsRow B 3 1 (.slice x l.length cap) l.length (l.map encI)
theorem OwnsI.nil (B : Nat) (w : World) : OwnsI B w none 0 [] := World.ownsRow_nil _ _ _ _
theorem OwnsI.turn {B : Nat} {w w' : World} {x : Option Addr} {cap : Nat} {l : List Int} {T : Nat → Prop} (h : OwnsI B w x cap l) (ht : Turns T w w') (hT : ∀ b, RowOf x b → ¬ T b) : OwnsI B w' x cap l := by
  refine ⟨h.1, ?_⟩
  rcases h.2 with h0 | ⟨g, cap', cur, hv, hlo, hg, hr⟩
  · exact .inl h0
  · refine .inr ⟨g, cap', cur, hv, hlo, ?_, hr⟩
    simp only [Value.slice.injEq] at hv
    exact (ht.block g (Array.getElem?_eq_some_iff.1 hg).1 (hT g (by rw [hv.1]; rfl))).trans hg
theorem OwnsI.some_of {B : Nat} {w : World} {x : Option Addr} {cap : Nat} {l : List Int} (h : OwnsI B w x cap l) (h0 : 0 < l.length) : ∃ g, x = some ⟨g, 0, none⟩ := by
  rcases h.2 with ⟨_, hv⟩ | ⟨g, cap', cur, hv, _⟩
  · omega
  · simp only [Value.slice.injEq] at hv; exact ⟨g, hv.1⟩
theorem OwnsI.cell {B : Nat} {w : World} {g cap : Nat} {l : List Int} (h : OwnsI B w (some ⟨g, 0, none⟩) cap l) (i : Nat) (hi : i < l.length) : w.cell? ⟨g, i, none⟩ = some (.int .i64 (l.getD i 0)) := by
  rw [World.ownsRow.cellAt h i (by omega)]
  simp [List.getElem?_eq_getElem hi, encI]
theorem wp_appIX {K : Act → World → Prop} (s x : Operand) (ho : o.op = .call { callee := .builtin .append, args := #[s, x], argTypes := #[69, 69] })
    {B : Nat} {xa : Option Addr} {cap : Nat} {l : List Int} (hown : OwnsI B w xa cap l) (hs : a.eval s = .slice xa l.length cap)
    {ad : Addr} {u : Int} {c : Nat} (hx : a.eval x = .slice (some ad) 1 c) (hy : w.cell? (ad.add 0) = some (.int .i64 u)) (hl : l.length ≤ 100000) (hB : B ≤ w.heap.size)
    (h : ∀ x' cap' w', OwnsI B w' x' cap' (l ++ [u]) → Below B w w' → Turns (RowOf xa) w w' → (∀ b, RowOf x' b → RowOf xa b ∨ w.heap.size ≤ b) → K (a.put o.dst (.slice x' (l ++ [u]).length cap')) w') : o.wp Tryz.prog a w K Q := by
  obtain ⟨i0, hi, hz0, hz1, hz2⟩ := info_parts infoInt
  have hnews : ∀ j v, ([encI u] : List Value)[j]? = some v → w.cell? (ad.add j) = some v := fun j v hj => by
    match j, hj with
    | 0, hj => simp at hj; subst hj; exact hy
    | j + 1, hj => simp at hj
  have hmax : l.length + 1 ≤ maxLen := by unfold maxLen; omega
  have hlen : (l ++ [u]).length = l.length + 1 := by simp
  have grown : ∀ old, OwnsI B (w.drew.alloc (.cells ((l.map encI).toArray ++ [encI u].toArray ++ Builtin.zeroCells (Value.int .i64 0).cells (grownCap w (l.length + 1) old 3 - (l.length + 1))) 3)) (some ⟨w.heap.size, 0, none⟩) (grownCap w (l.length + 1) old 3) (l ++ [u]) := fun old => by
    have := owns_grown w B 3 (l.map encI) [encI u] l.length 1 old (.int .i64 0) rfl (by simp) rfl hB hmax
    unfold OwnsI
    rw [hlen, List.map_append]
    exact this
  have hbel : ∀ ob : Obj, Below B w (w.drew.alloc ob) := fun ob => ((Below.refl _ w).drew).alloc hB ob
  have htur : ∀ (T : Nat → Prop) (ob : Obj), Turns T w (w.drew.alloc ob) := fun T ob => ((Turns.refl T w).drew).alloc ob
  have hnew : ∀ b, RowOf (some ⟨w.heap.size, 0, none⟩) b → RowOf xa b ∨ w.heap.size ≤ b := fun b hb => by cases hb; exact .inr (Nat.le_refl _)
  rcases hown.2 with ⟨hv, h0⟩ | ⟨g, cap', cur, hv, hlo, hg, hnc, hcm, hcs, htk⟩
  · simp only [Value.slice.injEq] at hv
    obtain ⟨rfl, hl0, rfl⟩ := hv
    have hl : l = [] := List.eq_nil_of_length_eq_zero hl0
    subst hl
    have hrun := run_append_nil (P := Tryz.prog) w 69 o.type 3 i0 (.int .i64 0) Tryz.underlying69 hi hz0 ad 1 c [encI u] (by simp [hz1]) hnews (by omega) (by omega) (by rw [hz2]; omega)
    have hk := h _ _ _ (grown 0) (hbel _) (htur _ _) hnew
    simp only [List.map_nil, List.length_nil, Nat.zero_add, List.nil_append, Array.empty_append, List.length_cons] at hk hs
    unfold Oper.wp
    simp [execOp, ho, resolve, invoke, builtin, hs, hx, hrun, Result.andThen]
    first | exact hk | (simp at hk; exact hk)
  · simp only [Value.slice.injEq] at hv
    obtain ⟨rfl, _, rfl⟩ := hv
    by_cases hroom : l.length + 1 ≤ cap
    · have hrun := run_append_room (P := Tryz.prog) w 69 o.type 3 i0 Tryz.underlying69 hi g l.length cap cur hg ad 1 c [encI u] (by simp [hz1]) hnews (by intro v hv; simp at hv; subst hv; rfl) hroom (by rw [hz1]; simp; omega)
      have ho2 : OwnsI B (w.setRow g (cur.toList.take (l.length * i0.size) ++ [encI u] ++ cur.toList.drop (l.length * i0.size + [encI u].length)).toArray) (some ⟨g, 0, none⟩) cap (l ++ [u]) := by
        refine ⟨by simp, .inr ⟨g, cap, _, by rw [hlen], hlo, setRow_heap w g cur _ _ _ hg, by rw [hlen]; exact hroom, hcm, ?_, ?_⟩⟩
        · simp [hz1]; omega
        · rw [hz1, Nat.mul_one, hlen, Nat.mul_one, List.map_append]
          have e : List.take l.length cur.toList = l.map encI := by simpa using htk
          rw [e]
          have e2 : (List.map encI l ++ [encI u]).length = l.length + 1 := by simp
          show List.take (l.length + 1) (List.map encI l ++ [encI u] ++ _) = List.map encI l ++ [encI u]
          rw [← e2]
          exact List.take_left
      have hsr : Turns (RowOf (some ⟨g, 0, none⟩)) w (w.setRow g (cur.toList.take (l.length * i0.size) ++ [encI u] ++ cur.toList.drop (l.length * i0.size + [encI u].length)).toArray) := ⟨rfl, rfl, rfl, by simp, fun k _ hk => setRow_other w g k _ (fun e => hk (by subst e; rfl))⟩
      have hk := h _ _ _ ho2 (hsr.below hB (fun i hi hr => by have e : g = i := Option.some.inj hr; omega)) hsr (fun b hb => .inl hb)
      rw [hlen] at hk
      unfold Oper.wp
      simp [execOp, ho, resolve, invoke, builtin, hs, hx, hrun, Result.andThen]
      first | exact hk | (simp at hk; exact hk)
    · have hrun := run_append_grow (P := Tryz.prog) w 69 o.type 3 i0 (.int .i64 0) Tryz.underlying69 hi hz0 ⟨g, 0, none⟩ l.length cap (l.map encI) (by simp [hz1]) (fun j v hj => World.ownsRow.cells hown (g := g) rfl j v hj) ad 1 c [encI u] (by simp [hz1]) hnews (by omega) (by omega) (by rw [hz2]; exact growslice_fits (by omega) (by omega))
      have hk := h _ _ _ (grown cap) (hbel _) (htur _ _) hnew
      rw [hlen] at hk
      unfold Oper.wp
      simp [execOp, ho, resolve, invoke, builtin, hs, hx, hrun, Result.andThen]
      first | exact hk | (simp at hk; exact hk)
theorem wpList_appIX {ops : Array Oper} {rest : List Oper} (hg : o.guard = none) (s x : Operand) (ho : o.op = .call { callee := .builtin .append, args := #[s, x], argTypes := #[69, 69] })
    {B : Nat} {xa : Option Addr} {cap : Nat} {l : List Int} (hown : OwnsI B w xa cap l) (hs : a.eval s = .slice xa l.length cap)
    {ad : Addr} {u : Int} {c : Nat} (hx : a.eval x = .slice (some ad) 1 c) (hy : w.cell? (ad.add 0) = some (.int .i64 u)) (hl : l.length ≤ 100000) {lm : List Int} (hlm : l ++ [u] = lm) (hB : B ≤ w.heap.size)
    (h : ∀ x' cap' w', OwnsI B w' x' cap' lm → Below B w w' → Turns (RowOf xa) w w' → (∀ b, RowOf x' b → RowOf xa b ∨ w.heap.size ≤ b) → wpList Tryz.prog ops Q rest (a.put o.dst (.slice x' lm.length cap')) w') : wpList Tryz.prog ops Q (o :: rest) a w := by
  subst hlm
  exact wpList_plain hg fun _ hK => wp_appIX s x ho hown hs hx hy hl hB fun x' cap' w' h1 h2 h3 h4 => hK _ _ (h x' cap' w' h1 h2 h3 h4)

end
def SizOf (bs : List Int) (w : World) (e : Ending) (w' : World) : Prop := ∃ y cy, e = .returned (.slice y bs.length cy) ∧ OwnsI w.heap.size w' y cy bs ∧ Below w.heap.size w w'
def SzRel (os : List OpV) (W : World) (u3 u8 : Value) (wr : World) : Prop :=
  ∃ (i : Nat) (y : Option Addr) (cy : Nat), i ≤ os.length ∧ u8 = .int .i64 (i : Int) ∧ u3 = .slice y ((os.take i).map (·.blk)).length cy ∧ OwnsI W.heap.size wr y cy ((os.take i).map (·.blk)) ∧ Below W.heap.size W wr
set_option maxHeartbeats 1000000 in
theorem sizes_any (x : Option Addr) (os : List OpV) (c : Nat) (w : World) (ho : Ops w x os) (hm : os.length ≤ 1000) : Calls Tryz.prog 25 #[.slice x os.length c] w (SizOf (os.map (·.blk)) w) := by
  obtain ⟨n, hn⟩ : ∃ n, os.length = n := ⟨_, rfl⟩
  have HN := Lib.hid hn
  rw [hn] at hm ⊢
  clear hn
  go_enter Tryz.func25, Tryz.ntmps25
  go_wp2_with fail
  go_loopw [3, 8] (fun u3 u8 wr => SzRel os w u3 u8 wr) (fun _ u8 _ => n - (intOf u8).toNat)
  case atStart => exact ⟨0, none, 0, by omega, rfl, rfl, OwnsI.nil _ _, Below.refl _ _⟩
  case round =>
    obtain ⟨i, y, cy, hi, rfl, rfl, hown, hB⟩ := hrel
    rw [HN.out] at hi
    by_cases hlt : i < n
    · have hki : decide ((i : Int) < (n : Int)) = true := by simp; omega
      have hti : (os.take (i + 1)).map (·.blk) = (os.take i).map (·.blk) ++ [(os.getD i op0).blk] := by
        rw [List.take_succ_eq_append_getElem (by rw [HN.out]; exact hlt), List.map_append, List.getD_eq_getElem?_getD, List.getElem?_eq_getElem (by rw [HN.out]; exact hlt)]
        rfl
      have hwo := (ho.later hB).1
      have hll : ((os.take i).map (·.blk)).length ≤ 1000 := by rw [List.length_map, List.length_take]; omega
      obtain ⟨l, hl⟩ : ∃ l, (os.take i).map (·.blk) = l := ⟨_, rfl⟩
      rw [hl] at hown hti hll ⊢
      obtain ⟨g, q, rfl, hc⟩ : ∃ g q, x = some ⟨g, q, none⟩ ∧ ∀ i, i < os.length → wr.cell? ⟨g, q + i * 3, none⟩ = some (.int .i64 (os.getD i op0).blk) ∧ wr.cell? ⟨g, q + i * 3 + 1, none⟩ = some (.bool (os.getD i op0).er) ∧ wr.cell? ⟨g, q + i * 3 + 2, none⟩ = some (.slice (os.getD i op0).x (os.getD i op0).d.length (os.getD i op0).c) := by
        rcases hwo with h | ⟨g, q, h1, h2⟩
        · have := HN.out; rw [h] at this; simp at this; omega
        · exact ⟨g, q, h1, h2⟩
      obtain ⟨k0, k1, k2⟩ := hc i (by rw [HN.out]; exact hlt)
      obtain ⟨bk, hbk⟩ : ∃ b, (os.getD i op0).blk = b := ⟨_, rfl⟩
      obtain ⟨er, her⟩ : ∃ b, (os.getD i op0).er = b := ⟨_, rfl⟩
      obtain ⟨xd, hxd⟩ : ∃ b, (os.getD i op0).x = b := ⟨_, rfl⟩
      obtain ⟨nd, hnd⟩ : ∃ b, (os.getD i op0).d.length = b := ⟨_, rfl⟩
      obtain ⟨cd, hcd⟩ : ∃ b, (os.getD i op0).c = b := ⟨_, rfl⟩
      rw [hbk] at k0 hti
      rw [her] at k1
      rw [hxd, hnd, hcd] at k2
      have HT := Lib.hid hti
      have HO := Lib.hid hown
      have HL := Lib.hid hll
      clear hti hown hll hl hwo hc hbk her hxd hnd hcd
      go_wp2_with (at_builtin; refine wpList_appIX rfl _ _ rfl (B := w.heap.size) (l := l) (u := bk) (HO.out.turn (((Turns.refl (fun _ => False) wr).alloc _).alloc _) (fun _ _ h => h)) rfl rfl (by go_simp) (by have := HL.out; omega) HT.out.symm (by have := hB.size; simp; omega) ?_; intro x' cap' w1 h1 h2 _ _; refine Hid.out ?_)
      unfold Hid
      have hB1 := hB.trans ((((Below.refl w.heap.size wr).alloc hB.size _).alloc (by have := hB.size; simp; omega) _).trans h2)
      have H1 := Lib.hid h1
      clear h1 h2 hB HO k0 k1 k2
      go_wp2_with fail
      exact ⟨⟨i + 1, x', cap', by have := HN.out; omega, by go_num, (by rw [List.length_map, List.length_take]), H1.out, hB1⟩, by simp [intOf]; omega⟩
    · obtain rfl : i = n := by omega
      have ht : os.take i = os := List.take_of_length_le (by rw [HN.out]; exact Nat.le_refl _)
      rw [ht] at hown ⊢
      clear ht ho
      go_wp2_with fail
      go_ret
      exact ⟨y, cy, rfl, hown, hB⟩

set_option maxHeartbeats 1000000 in
theorem same_soft (s : Ld.Sw) (a1 a2 : SwA) (w : World) (h1 : SwIn w s a1) (h2 : SwIn w s a2) (hl : s.path.length ≤ 100) : Calls Tryz.prog 13 #[aggN 23 (softV s a1), aggN 23 (softV s a2)] w (YesOf w) := by
  have HS := fun (W : World) (k1 : SwIn W s a1) (k2 : SwIn W s a2) => same_yes s.key s.ch s.ch (fun _ _ => rfl) a1.xp a2.xp s.path a1.cp a2.cp W k1.2.2 k2.2.2 hl
  unfold YesOf at HS
  obtain ⟨q, hqe⟩ : ∃ q : ByteArray, (⟨s.name.toArray⟩ : ByteArray) = q := ⟨_, rfl⟩
  obtain ⟨qi, hqi⟩ : ∃ q : ByteArray, (⟨s.img.toArray⟩ : ByteArray) = q := ⟨_, rfl⟩
  have hqq : (q == q) = true := by rw [← hqe, str_eq]; exact beq_self_eq_true _
  have hqq2 : (qi == qi) = true := by rw [← hqi, str_eq]; exact beq_self_eq_true _
  go_enter Tryz.func13, Tryz.ntmps13
  go_wp2_with (refine wpList_boxN (n := 23) (v := softV s a1) rfl _ (.tmp 0) rfl rfl ?_; intro W2 g2 hb2 hz2; refine Hid.out ?_)
  unfold Hid
  try simp only [Act.put, List.setIfInBounds_toArray, List.set_cons_zero, List.set_cons_succ]
  clear hz2
  go_wp2_with (refine wpList_boxN (n := 23) (v := softV s a2) rfl _ (.tmp 1) rfl rfl ?_; intro W3 g3 hb3 hz3; refine Hid.out ?_)
  unfold Hid
  try simp only [Act.put, List.setIfInBounds_toArray, List.set_cons_zero, List.set_cons_succ]
  replace g2 := g2.later hb3
  replace h1 := (h1.later hb2).later hb3
  replace h2 := (h2.later hb2).later hb3
  have hB := thru hb2 hb3
  obtain ⟨b2, e2⟩ : ∃ b, w.heap.size = b := ⟨_, rfl⟩
  obtain ⟨b3, e3⟩ : ∃ b, W2.heap.size = b := ⟨_, rfl⟩
  rw [e2] at g2 hB ⊢
  rw [e3] at g3 ⊢
  clear hb2 hb3 hz3 e3
  have c0 := g2.name
  have c1 := g2.ver
  have c2 := g2.img
  have d0 := g3.name
  have d1 := g3.ver
  have d2 := g3.img
  have g23 := g2.sig
  have g33 := g3.sig
  have cv1 := run_conv (P := Tryz.prog) (src := 22) (dst := 9) Tryz.underlying22 Tryz.underlying5 str_under h1.1 a1.ci
  have cv2 := run_conv (P := Tryz.prog) (src := 22) (dst := 9) Tryz.underlying22 Tryz.underlying5 str_under h2.1 a2.ci
  rw [hqe] at c0 d0
  rw [hqi] at cv1 cv2
  obtain ⟨v, hv⟩ : ∃ v, s.ver = v := ⟨_, rfl⟩
  rw [hv] at c1 d1
  obtain ⟨n, hn⟩ : ∃ n, s.img.length = n := ⟨_, rfl⟩
  rw [hn] at c2 d2 cv1 cv2
  clear hqe hqi hv hn g2 g3
  go_wp2_with (first | (refine wpList_loadN_w rfl _ (.tmp 27) rfl (b := b2) (q := 3) rfl (run_loadSg g23) ?_) | (refine wpList_loadN_w rfl _ (.tmp 29) rfl (b := b3) (q := 3) rfl (run_loadSg g33) ?_))
  refine (HS _ h1 h2).mono ?_
  rintro e w1 ⟨rfl, hb⟩
  replace hB := hB.trans (hb.mono (by have := hB.size; omega))
  clear hb HS h1 h2 c0 c1 c2 d0 d1 d2 g23 g33 cv1 cv2
  go_wp2_with fail
  go_ret
  exact ⟨rfl, by rw [e2]; exact hB⟩
end Go.Proofs.YtapefonhgkjgnaaGreat
