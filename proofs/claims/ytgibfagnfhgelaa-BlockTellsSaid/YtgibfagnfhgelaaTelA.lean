/- BlockTells: a row of the reference's operations; New and Encode in one form; the reference's Run; the bytes of two stores of the call's own are written. -/
import Derived.Test.YtgibfagnfhgelaaRefBd
import Derived.Test.YtgibfagnfhgelaaOpsRow
import Derived.Test.YtgibfagnfhgelaaBlkC
import Derived.Test.YtgibfagnfhgelaaBlkD
import Derived.Test.YtgibfagnfhgelaaBlkI
import Derived.Test.YtgibfagnfhgelaaCrcSP
namespace Go.Proofs.Ytgibfagnfhgelaa
open Go.RowKit

set_option maxHeartbeats 2000000 in
theorem refRun_any (x : Option Addr) (rs : List Rw) (c : Nat) (y : Option Addr) (os : List OpV) (cy : Nat) (w : World) (hs : Rws w x rs) (ho : Ops w y os) (hm : os.length ≤ 1000) (hv : vldO (rs.map (·.l)) os = true) :
    Calls Try.prog 22 #[.slice x rs.length c, .slice y os.length cy] w (RwsOf (runL (rs.map (·.l)) os) w) := by
  have hB := Below.refl w.heap.size w
  by_cases hz0 : os.length = 0
  · have d0 : ((os.length : Int) == 0) = true := by rw [beq_iff_eq]; omega
    have d0n : (os.length == 0) = true := by rw [beq_iff_eq]; exact hz0
    have HRL : Hid (runL (rs.map (·.l)) os = rs.map (·.l)) := by
      show _ = _
      rw [List.eq_nil_of_length_eq_zero hz0]; rfl
    rw [HRL.out]
    clear hz0
    go_enter Try.func22, Try.ntmps22
    go_wp2_with fail
    go_ret
    exact ⟨x, c, rs, rfl, hs, rfl, hB⟩
  · obtain ⟨m, hmm⟩ : ∃ m, os.length = m + 1 := ⟨os.length - 1, by omega⟩
    have hm1 : (os.length : Int) - 1 = (m : Int) := by omega
    have d0 : ((os.length : Int) == 0) = false := by rw [beq_eq_false_iff_ne]; omega
    have d0n : (os.length == 0) = false := by rw [beq_eq_false_iff_ne]; omega
    have mB1 : (m : Int) < (os.length : Int) := by omega
    have mB2 : m < os.length := by omega
    have HCL := Lib.hid (cutL_last (rs.map (·.l)) os m hmm)
    obtain ⟨b0, o0, rfl, c0, c1, c2, -⟩ := ho.at m mB2
    have HCC : Hid (∀ W, Below w.heap.size w W → Calls Try.prog 24 #[.slice x rs.length c, .slice (some ⟨b0, o0, none⟩) os.length cy, .int .i64 (m : Int), .int .i64 (lenO (os.getD m op0).er : Int)] W (RwsOf (cutL (rs.map (·.l)) os m (lenO (os.getD m op0).er)) W)) := fun W hW => refCut_any x rs c _ os cy m _ W (hs.later hW) (ho.later hW) hm hv mB2 (Nat.le_refl _)
    rw [HCL.out] at HCC
    obtain ⟨⟨blk, er, xd, cd, d⟩, hon⟩ : ∃ o, os.getD m op0 = o := ⟨_, rfl⟩
    rw [hon] at c0 c1 c2 HCC
    dsimp only at c0 c1 c2 HCC
    have HST : Hid (∀ W, Calls Try.prog 23 #[.agg #[.int .i64 blk, .bool er, .slice xd d.length cd]] W fun e w' => e = .returned (.int .i64 (lenO er : Int)) ∧ Below W.heap.size W w') := fun W => refSteps_any ⟨blk, er, xd, cd, d⟩ W
    clear hmm hon hz0 HCL
    go_enter Try.func22, Try.ntmps22
    go_wp2_with fail
    refine (HST.out _).mono ?_
    rintro e w1 ⟨rfl, hb⟩
    have hB1 := thru hB hb
    clear hb
    go_wp2_with fail
    refine (HCC.out _ hB1).mono ?_
    rintro e w2 ⟨xo, co, rt, rfl, hrt, hml, hb⟩
    have HRT := Lib.hid hrt
    have HML := Lib.hid hml
    have hB2 := thru hB1 hb
    clear hb hrt hml
    go_wp2_with fail
    go_ret
    exact ⟨xo, co, rt, rfl, HRT.out, HML.out, hB2⟩

/-- An owned row of the reference's operations. -/
theorem infoOpR : (Try.prog.info? 32).map (fun i => (i.zero, i.size, i.bytes)) = some (some (.agg #[.int .i64 0, .bool false, .slice none 0 0]), 3, 40) := by kernel_rfl
def OwnsP (B : Nat) (w : World) (x : Option Addr) (cap : Nat) (os : List OpV) : Prop := w.ownsRow B 32 3 (.slice x os.length cap) os.length (os.flatMap encO)
theorem OwnsP.nil (B : Nat) (w : World) : OwnsP B w none 0 [] := World.ownsRow_nil _ _ _ _
theorem OwnsP.turn {B : Nat} {w w' : World} {x : Option Addr} {cap : Nat} {l : List OpV} {T : Nat → Prop} (h : OwnsP B w x cap l) (ht : Turns T w w') (hT : ∀ b, RowOf x b → ¬ T b) : OwnsP B w' x cap l := by
  refine ⟨h.1, ?_⟩
  rcases h.2 with h0 | ⟨g, cap', cur, hv, hlo, hg, hr⟩
  · exact .inl h0
  · refine .inr ⟨g, cap', cur, hv, hlo, ?_, hr⟩
    simp only [Value.slice.injEq] at hv
    exact (ht.block g (Array.getElem?_eq_some_iff.1 hg).1 (hT g (by rw [hv.1]; rfl))).trans hg
theorem OwnsP.later {B : Nat} {w w' : World} {x : Option Addr} {cap : Nat} {l : List OpV} (h : OwnsP B w x cap l) (hb : Below w.heap.size w w') : OwnsP B w' x cap l :=
  h.turn (Turns.of_below hb (Nat.le_refl _)) (fun _ _ h => h)
theorem OwnsP.le_cap {B : Nat} {w : World} {x : Option Addr} {cap : Nat} {l : List OpV} (h : OwnsP B w x cap l) : l.length ≤ cap ∧ cap ≤ 9223372036854775807 := by
  rcases h.2 with ⟨hv, h0⟩ | ⟨g, cap', cur, hv, _, _, h1, h2, _⟩
  · simp only [Value.slice.injEq] at hv
    omega
  · simp only [Value.slice.injEq] at hv
    unfold maxLen at h2
    omega
theorem OwnsP.ops {B : Nat} {w : World} {x : Option Addr} {cap : Nat} {os : List OpV} (h : OwnsP B w x cap os) (hk : ∀ q, q ∈ os → OpOk w q) : Ops w x os := by
  rcases h.2 with ⟨_, h0⟩ | ⟨g, cap', cur, hv, _, hg, _⟩
  · exact ⟨.inl (List.eq_nil_of_length_eq_zero h0), hk⟩
  · simp only [Value.slice.injEq] at hv
    obtain ⟨rfl, -⟩ := hv
    have hplain : ∀ j, (⟨g, 0, none⟩ : Addr).add j = ⟨g, 0 + j, none⟩ := fun j => by unfold Addr.add; split <;> simp_all
    refine CellsO.ops (fun i hi => ?_) hk
    have hf := flat_get os i hi
    refine ⟨?_, ?_, ?_⟩
    · rw [← hplain]; exact World.ownsRow.cells h (g := g) rfl _ _ hf.1
    · rw [Nat.add_assoc, ← hplain]; exact World.ownsRow.cells h (g := g) rfl _ _ hf.2.1
    · rw [Nat.add_assoc, ← hplain]; exact World.ownsRow.cells h (g := g) rfl _ _ hf.2.2
section
variable {w : World} {o : Oper} {a : Act} {Q : Exit → Act → World → Prop}
/-- append(list, nacelleref37.Op{..}) -/
theorem wpList_appP {ops : Array Oper} {rest : List Oper} (hg : o.guard = none) (s x : Operand) (ho : o.op = .call { callee := .builtin .append, args := #[s, x], argTypes := #[29, 29] })
    {B : Nat} {xa : Option Addr} {cap : Nat} {os : List OpV} (hown : OwnsP B w xa cap os) (hs : a.eval s = .slice xa os.length cap)
    {b c : Nat} {u : OpV} (hx : a.eval x = .slice (some ⟨b, 0, none⟩) 1 c) (k0 : w.cell? ⟨b, 0, none⟩ = some (.int .i64 u.blk)) (k1 : w.cell? ⟨b, 1, none⟩ = some (.bool u.er)) (k2 : w.cell? ⟨b, 2, none⟩ = some (.slice u.x u.d.length u.c)) (hl : os.length ≤ 100000) (hB : B ≤ w.heap.size) {m : Nat} (hm : os.length + 1 = m)
    (h : ∀ x' cap' w', OwnsP B w' x' cap' (os ++ [u]) → Below B w w' → wpList Try.prog ops Q rest (a.put o.dst (.slice x' m cap')) w') : wpList Try.prog ops Q (o :: rest) a w :=
  wpList_plain hg fun K hK => by
    subst hm
    obtain ⟨i0, hi, hz0, hz1, hz2⟩ := info_parts infoOpR
    refine wp_append_own_wide w s x 29 ho B 32 i0 _ 3 40 (by kernel_rfl) hi hz0 hz1 hz2 rfl (by decide) _ os.length (os.flatMap encO) hs hown ⟨b, 0, none⟩ 1 c (encO u) hx rfl (fun j v hj => ?_) (fun v hv => ?_) (by unfold maxLen; omega) (by omega) hB (fun v' w' h1 h2 _ => ?_)
    · have hj3 : j < 3 := by
        rcases Nat.lt_or_ge j 3 with h | h
        · exact h
        · rw [List.getElem?_eq_none (by exact h)] at hj; cases hj
      rcases (by omega : j = 0 ∨ j = 1 ∨ j = 2) with rfl | rfl | rfl
      · simp [encO] at hj; subst hj; simpa [Addr.add] using k0
      · simp [encO] at hj; subst hj; simpa [Addr.add] using k1
      · simp [encO] at hj; subst hj; simpa [Addr.add] using k2
    · simp only [encO, List.mem_cons, List.not_mem_nil, or_false] at hv
      rcases hv with rfl | rfl | rfl <;> rfl
    · obtain ⟨x', cap', rfl⟩ : ∃ x cap, v' = .slice x (os.length + 1) cap := by
        rcases h1.2 with ⟨rfl, h0⟩ | ⟨g, cap, cur, rfl, _⟩
        · omega
        · exact ⟨_, _, rfl⟩
      have hf : os.flatMap encO ++ encO u = (os ++ [u]).flatMap encO := by simp
      have hl2 : os.length + 1 = (os ++ [u]).length := by simp
      rw [hf] at h1
      refine hK _ _ (h x' cap' w' (by unfold OwnsP; rw [← hl2]; exact h1) ((Below.refl _ w).grown h2 hB (fun k e => ?_)))
      rcases hown.2 with ⟨hv, _⟩ | ⟨g, cap2, cur, hv, hlo, _⟩
      · simp only [Value.slice.injEq] at hv
        rw [hv.1] at e; cases e
      · simp only [Value.slice.injEq] at hv
        rw [hv.1] at e
        cases e; exact hlo
end
/-- New, in one form: okN says whether the number is valid. -/
def okN (i : Int) : Bool := decide (1 ≤ i) && decide (i ≤ 64)
def codeN (i : Int) : Int := if okN i = true then 0 else 2
def lenN (i : Int) : Nat := if okN i = true then i.toNat else 0
theorem okN_true (i : Int) (h : okN i = true) : 1 ≤ i ∧ i ≤ 64 := by
  unfold okN at h; simp only [Bool.and_eq_true, decide_eq_true_eq] at h; exact h
theorem new_all (i : Int) (w : World) : Calls Try.prog 11 #[.int .i64 i] w fun e w' => ∃ x c rs, e = .returned (.tuple #[.agg #[.slice x rs.length c], .int .i64 (codeN i)]) ∧ rs.length = lenN i ∧ (∀ r, r ∈ rs → r.l = erasedL) ∧ Rws w' x rs ∧ Below w.heap.size w w' := by
  by_cases h : okN i = true
  · obtain ⟨h1, h2⟩ := okN_true i h
    obtain ⟨n, rfl⟩ : ∃ n : Nat, i = (n : Int) := ⟨i.toNat, by omega⟩
    refine (new_yes n w (by omega)).mono ?_
    rintro e w' ⟨x, c, rs, rfl, hl, ho, hb⟩
    refine ⟨x, c, rs, by unfold codeN; rw [if_pos h], by unfold lenN; rw [if_pos h, Int.toNat_natCast, hl], fun r hr => ?_, ho.rws, hb⟩
    obtain ⟨g, rfl, -⟩ := ho.each r hr; rfl
  · refine (new_no i w ?_).mono ?_
    · have : ¬ (1 ≤ i ∧ i ≤ 64) := fun hh => h (by unfold okN; simp only [Bool.and_eq_true, decide_eq_true_eq]; exact hh)
      omega
    · rintro e w' ⟨rfl, hb⟩
      exact ⟨none, 0, [], by unfold codeN; rw [if_neg h]; rfl, by unfold lenN; rw [if_neg h]; rfl, fun r hr => by simp at hr, ⟨.inl rfl, fun r hr => by simp at hr⟩, hb⟩
/-- Encode, in one form. -/
def codeE (d : List UInt8) : Int := if d.length ≤ 48 then 0 else 3
def outE (d : List UInt8) : List UInt8 := if d.length ≤ 48 then encL d else []
theorem encode_all (x : Option Addr) (d : List UInt8) (c : Nat) (w : World) (hx : Bts w x d) (hn : x = none → c = 0) : Calls Try.prog 12 #[.slice x d.length c] w fun e w' => ∃ y cap, e = .returned (.tuple #[.slice y (outE d).length cap, .int .i64 (codeE d)]) ∧ Bts w' y (outE d) ∧ Below w.heap.size w w' := by
  by_cases h : d.length ≤ 48
  · refine (encode_yes x d c w hx hn h).mono ?_
    rintro e w' ⟨y, cap, rfl, ho, hb⟩
    exact ⟨y, cap, by unfold outE codeE; rw [if_pos h, if_pos h, encL_len d h], by unfold outE; rw [if_pos h]; exact ho.bts, hb⟩
  · refine (encode_no x d.length c w (by omega)).mono ?_
    rintro e w' ⟨rfl, rfl⟩
    exact ⟨none, 0, by unfold outE codeE; rw [if_neg h, if_neg h]; rfl, by unfold outE; rw [if_neg h]; exact .inl rfl, Below.refl _ _⟩

theorem enc_set (rs : List Rw) (q g c : Nat) (l : List UInt8) (hq : q < rs.length) (hr : rs.getD q rw0 = ⟨some ⟨g, 0, none⟩, c, l⟩) (i : Nat) (v : UInt8) : (rs.set q ⟨some ⟨g, 0, none⟩, c, l.set i v⟩).map encR = rs.map encR := by
  have hrq : rs[q] = ⟨some ⟨g, 0, none⟩, c, l⟩ := by
    rw [List.getD_eq_getElem?_getD, List.getElem?_eq_getElem hq] at hr; exact hr
  rw [List.map_set]
  apply List.ext_getElem (by simp)
  intro k h1 h2
  rw [List.getElem_set]
  by_cases e : q = k
  · subst e
    rw [if_pos rfl, List.getElem_map, hrq]
    unfold encR; simp
  · rw [if_neg e]
theorem getD_enc {rs rt : List Rw} (h : rs.map encR = rt.map encR) (q : Nat) (hq : q < rt.length) : encR (rs.getD q rw0) = encR (rt.getD q rw0) := by
  have hl : rs.length = rt.length := by have := congrArg List.length h; simpa using this
  have h1 := congrArg (fun l => l[q]?) h
  simp only [List.getElem?_map] at h1
  rw [List.getD_eq_getElem?_getD, List.getD_eq_getElem?_getD, List.getElem?_eq_getElem hq, List.getElem?_eq_getElem (by omega)]
  rw [List.getElem?_eq_getElem hq, List.getElem?_eq_getElem (by omega)] at h1
  simpa using h1
theorem mem_enc {rs rt : List Rw} (h : rs.map encR = rt.map encR) {r : Rw} (hr : r ∈ rs) : ∃ s, s ∈ rt ∧ s.x = r.x := by
  have h1 : encR r ∈ rt.map encR := by rw [← h]; exact List.mem_map_of_mem hr
  obtain ⟨s, hs, he⟩ := List.mem_map.1 h1
  unfold encR at he
  simp only [Value.slice.injEq] at he
  exact ⟨s, hs, he.1⟩
/-- Where the rows of two stores, and of a slice, lie. -/
structure TF (B5 B7 B8 G : Nat) (xa xx : Option Addr) (rx ry : List Rw) : Prop where
  le5 : B5 ≤ B7
  le7 : B7 ≤ B8
  le8 : B8 ≤ G
  a7 : ∀ b, RowOf xa b → b < B7
  x8 : ∀ b, RowOf xx b → b < B8
  r8 : ∀ r, r ∈ rx → ∀ b, RowOf r.x b → b < B8
  yG : ∀ r, r ∈ ry → ∀ b, RowOf r.x b → b < G
/-- What the loops over the two stores keep. -/
def TI (w5 : World) (B7 B8 G : Nat) (xa : Option Addr) (ca : Nat) (M : List UInt8) (xx : Option Addr) (cx : Nat) (rx : List Rw) (xy : Option Addr) (cyy : Nat) (ry : List Rw) (W : World) : Prop :=
  Below w5.heap.size w5 W ∧ OwnsB w5.heap.size W xa ca M ∧ (∃ r, r.map encR = rx.map encR ∧ OwnsS B7 W xx cx r) ∧ (∃ r, r.map encR = ry.map encR ∧ OwnsS B8 W xy cyy r) ∧ W.cell? ⟨G, 0, none⟩ = some (.slice xx rx.length cx) ∧ W.cell? ⟨G, 1, none⟩ = some (.slice xy ry.length cyy)
section
variable {w5 : World} {B7 B8 G : Nat} {xa : Option Addr} {ca : Nat} {M : List UInt8} {xx : Option Addr} {cx : Nat} {rx : List Rw} {xy : Option Addr} {cyy : Nat} {ry : List Rw} {W : World}
theorem TI.later {W' : World} (h : TI w5 B7 B8 G xa ca M xx cx rx xy cyy ry W) (hb : Below W.heap.size W W') : TI w5 B7 B8 G xa ca M xx cx rx xy cyy ry W' := by
  obtain ⟨h5, ha, ⟨r, hr, hx⟩, ⟨s, hs, hy⟩, c0, c1⟩ := h
  exact ⟨thru h5 hb, ha.later hb, ⟨r, hr, hx.later hb⟩, ⟨s, hs, hy.later hb⟩, Go.Proofs.Ytgibfagnfhgelaa.later hb c0, Go.Proofs.Ytgibfagnfhgelaa.later hb c1⟩
theorem own_row {B : Nat} {x : Option Addr} {cap : Nat} {r rt : List Rw} (he : r.map encR = rt.map encR) (ho : OwnsS B W x cap r) (q : Nat) (hq : q < rt.length) {xq : Option Addr} {nq cq : Nat} (hv : encR (rt.getD q rw0) = .slice xq nq cq) (i : Nat) (hi : i < nq) :
    ∃ (g : Nat) (l : List UInt8), xq = some ⟨g, 0, none⟩ ∧ q < r.length ∧ r.getD q rw0 = ⟨some ⟨g, 0, none⟩, cq, l⟩ ∧ l.length = nq ∧ OwnsB B W (some ⟨g, 0, none⟩) cq l := by
  have hl : r.length = rt.length := by have := congrArg List.length he; simpa using this
  have hqr : q < r.length := by omega
  have h1 := (getD_enc he q hq).trans hv
  obtain ⟨⟨x1, c1, l⟩, hr⟩ : ∃ u, r.getD q rw0 = u := ⟨_, rfl⟩
  have hm := getD_mem r q rw0 hqr
  rw [hr] at h1 hm
  unfold encR at h1
  simp only [Value.slice.injEq] at h1
  obtain ⟨rfl, rfl, rfl⟩ := h1
  have hoq := ho.each _ hm
  dsimp only at hoq hi
  obtain ⟨g, rfl⟩ := hoq.some_of (by omega)
  exact ⟨g, l, rfl, hqr, hr, rfl, hoq⟩
theorem TI.incX (h : TI w5 B7 B8 G xa ca M xx cx rx xy cyy ry W) (hf : TF w5.heap.size B7 B8 G xa xx rx ry) (q : Nat) (hq : q < rx.length) {xq : Option Addr} {nq cq : Nat} (hv : encR (rx.getD q rw0) = .slice xq nq cq) (i : Nat) (hi : i < nq) :
    ∃ (g : Nat) (v : UInt8), xq = some ⟨g, 0, none⟩ ∧ W.cell? ⟨g, i, none⟩ = some (.int .u8 (v.toNat : Int)) ∧ W.frozen? ⟨g, i, none⟩ = false ∧ ∀ u : UInt8, TI w5 B7 B8 G xa ca M xx cx rx xy cyy ry (W.setCell ⟨g, i, none⟩ (.int .u8 (u.toNat : Int))) := by
  obtain ⟨h5, ha, ⟨r, hr, hx⟩, ⟨s, hs, hy⟩, c0, c1⟩ := h
  obtain ⟨g, l, rfl, hqr, hrq, hln, hoq⟩ := own_row hr hx q hq hv i hi
  have hg7 := (hoq.low g rfl).1
  have hg8 : g < B8 := by
    have hm := getD_mem r q rw0 hqr
    rw [hrq] at hm
    obtain ⟨t, ht, hxt⟩ := mem_enc hr hm
    exact hf.r8 t ht g (by rw [hxt]; rfl)
  have := hf.le5
  have := hf.le8
  refine ⟨g, l.getD i 0, rfl, hoq.cell i (by omega), hoq.free i, fun u => ?_⟩
  have ht : Turns (fun b => b = g) W (W.setCell ⟨g, i, none⟩ (.int .u8 (u.toNat : Int))) := (Turns.refl (fun b => b = g) W).setCell (p := ⟨g, i, none⟩) (fun _ => rfl) _
  refine ⟨h5.setCell (p := ⟨g, i, none⟩) (by simp; omega) _, ha.turn ht (fun b hb e => by have := hf.a7 b hb; have e' : b = g := e; omega), ⟨_, (enc_set r q g cq l hqr hrq i u).trans hr, hx.setB q g cq l hqr hrq i u⟩, ⟨s, hs, hy.turnB ht (fun b hb _ e => by have e' : b = g := e; omega)⟩, ?_, ?_⟩
  · rw [World.cell?_setCell_other _ _ _ _ (fun e => by have := congrArg Addr.block e; simp at this; omega)]; exact c0
  · rw [World.cell?_setCell_other _ _ _ _ (fun e => by have := congrArg Addr.block e; simp at this; omega)]; exact c1
theorem TI.incY (h : TI w5 B7 B8 G xa ca M xx cx rx xy cyy ry W) (hf : TF w5.heap.size B7 B8 G xa xx rx ry) (q : Nat) (hq : q < ry.length) {xq : Option Addr} {nq cq : Nat} (hv : encR (ry.getD q rw0) = .slice xq nq cq) (i : Nat) (hi : i < nq) :
    ∃ (g : Nat) (v : UInt8), xq = some ⟨g, 0, none⟩ ∧ W.cell? ⟨g, i, none⟩ = some (.int .u8 (v.toNat : Int)) ∧ W.frozen? ⟨g, i, none⟩ = false ∧ ∀ u : UInt8, TI w5 B7 B8 G xa ca M xx cx rx xy cyy ry (W.setCell ⟨g, i, none⟩ (.int .u8 (u.toNat : Int))) := by
  obtain ⟨h5, ha, ⟨r, hr, hx⟩, ⟨s, hs, hy⟩, c0, c1⟩ := h
  obtain ⟨g, l, rfl, hqr, hrq, hln, hoq⟩ := own_row hs hy q hq hv i hi
  have hg8 := (hoq.low g rfl).1
  have hgG : g < G := by
    have hm := getD_mem s q rw0 hqr
    rw [hrq] at hm
    obtain ⟨t, ht, hxt⟩ := mem_enc hs hm
    exact hf.yG t ht g (by rw [hxt]; rfl)
  have := hf.le5
  have := hf.le7
  refine ⟨g, l.getD i 0, rfl, hoq.cell i (by omega), hoq.free i, fun u => ?_⟩
  have ht : Turns (fun b => b = g) W (W.setCell ⟨g, i, none⟩ (.int .u8 (u.toNat : Int))) := (Turns.refl (fun b => b = g) W).setCell (p := ⟨g, i, none⟩) (fun _ => rfl) _
  refine ⟨h5.setCell (p := ⟨g, i, none⟩) (by simp; omega) _, ha.turn ht (fun b hb e => by have := hf.a7 b hb; have e' : b = g := e; omega), ⟨r, hr, hx.turn ht (fun b hb e => by have := hf.x8 b hb; have e' : b = g := e; omega) (fun t hm b hb e => by
      obtain ⟨t', ht', hxt⟩ := mem_enc hr hm
      have := hf.r8 t' ht' b (by rw [hxt]; exact hb)
      have e' : b = g := e; omega)⟩, ⟨_, (enc_set s q g cq l hqr hrq i u).trans hs, hy.setB q g cq l hqr hrq i u⟩, ?_, ?_⟩
  · rw [World.cell?_setCell_other _ _ _ _ (fun e => by have := congrArg Addr.block e; simp at this; omega)]; exact c0
  · rw [World.cell?_setCell_other _ _ _ _ (fun e => by have := congrArg Addr.block e; simp at this; omega)]; exact c1
theorem TI.rowX (h : TI w5 B7 B8 G xa ca M xx cx rx xy cyy ry W) (q : Nat) (hq : q < rx.length) : ∃ g, xx = some ⟨g, 0, none⟩ ∧ W.cell? ⟨g, q, none⟩ = some (encR (rx.getD q rw0)) := by
  obtain ⟨-, -, ⟨r, hr, hx⟩, -⟩ := h
  have hl : r.length = rx.length := by have := congrArg List.length hr; simpa using this
  obtain ⟨g, rfl⟩ := hx.row.some_of (by omega)
  rcases hx.row.cellsR with h | ⟨b, o, e, hc⟩
  · rw [h] at hl; simp at hl; omega
  · cases e
    have := hc q (by omega)
    rw [Nat.zero_add, getD_enc hr q hq] at this
    exact ⟨g, rfl, this⟩
theorem TI.rowY (h : TI w5 B7 B8 G xa ca M xx cx rx xy cyy ry W) (q : Nat) (hq : q < ry.length) : ∃ g, xy = some ⟨g, 0, none⟩ ∧ W.cell? ⟨g, q, none⟩ = some (encR (ry.getD q rw0)) := by
  obtain ⟨-, -, -, ⟨r, hr, hx⟩, -⟩ := h
  have hl : r.length = ry.length := by have := congrArg List.length hr; simpa using this
  obtain ⟨g, rfl⟩ := hx.row.some_of (by omega)
  rcases hx.row.cellsR with h | ⟨b, o, e, hc⟩
  · rw [h] at hl; simp at hl; omega
  · cases e
    have := hc q (by omega)
    rw [Nat.zero_add, getD_enc hr q hq] at this
    exact ⟨g, rfl, this⟩
end
theorem u8_inc (v : UInt8) : IntKind.u8.wrap ((v.toNat : Int) + 1) = ((v + 1).toNat : Int) := by
  rw [wrap8u, UInt8.toNat_add]
  have : (1 : UInt8).toNat = 1 := rfl
  rw [this]
  omega

end Go.Proofs.Ytgibfagnfhgelaa
