/- Texts of the layers below, under one roof: BlkL, PureRd, PureRn, PureRuns, OpsRow. -/
import Derived.Shelf.Abstract
import Derived.BigQuiet
import Derived.Deep.DeepAppendWide
import Derived.Test.YtapefonhgkjgnaaGreatLdA
import Derived.Test.YtapefonhgkjgnaaGreatLdB
import Derived.Test.YtapefonhgkjgnaaGreatLdC
set_option maxRecDepth 20000
namespace Go.Proofs.YtapefonhgkjgnaaGreat

section
open Go.RowKit

attribute [local go_sem] Oper.semAt_some
def CutRel (ls : List (List UInt8)) (os : List OpV) (n k b10 : Nat) (xo : Option Addr) (co : Nat) (rs1 : List Rw) (w w3 : World) (j : Nat) (D : List Nat) (rs : List Rw) (wr : World) : Prop :=
  j ≤ n + 1 ∧ MarksIn D wr ∧ (∀ d, d ∈ D → w3.heap.size ≤ d) ∧ OwnsS (w.heap.size + 2) wr xo co rs ∧ rs.map (·.x) = rs1.map (·.x) ∧ rs.map (·.l) = (if j ≤ n then runL ls (os.take j) else cutL ls os n k) ∧
  wr.cell? ⟨b10, 0, none⟩ = some (.slice xo rs1.length co) ∧ wr.frozen? ⟨b10, 0, none⟩ = false ∧ wr.cell? ⟨w.heap.size + 1, 0, none⟩ = some (.slice none 0 0) ∧ wr.frozen? ⟨w.heap.size + 1, 0, none⟩ = false ∧ Below w.heap.size w wr ∧ w3.heap.size ≤ wr.heap.size
def BodyI (rs : List Rw) (q g cq : Nat) (l d : List UInt8) (lf N b13 : Nat) (xo : Option Addr) (co : Nat) (V : World) (t : Nat) (S : List Nat) (W : World) : Prop :=
  S = [b13, g] ∧ t ≤ lf ∧ W.cell? ⟨b13, 0, none⟩ = some (.int .i64 ((lf - t : Nat) : Int)) ∧ W.frozen? ⟨b13, 0, none⟩ = false ∧ OwnsS N W xo co (rs.set q ⟨some ⟨g, 0, none⟩, cq, doN d t l⟩) ∧ Turns (fun b => b = b13 ∨ b = g) V W
theorem ownsB_obj {B : Nat} {w : World} {x : Option Addr} {cap : Nat} {l : List UInt8} (h : OwnsB B w x cap l) {b : Nat} (hb : RowOf x b) : ∃ c t p, w.heap[b]? = some (.cells c t p) := by
  rcases h.2 with ⟨hv, _⟩ | ⟨g, cap', cur, hv, hlo, hg, _⟩
  · simp only [Value.slice.injEq] at hv
    rw [hv.1] at hb; cases hb
  · simp only [Value.slice.injEq] at hv
    rw [hv.1] at hb; cases hb
    exact ⟨_, _, _, hg⟩
theorem ownsR_obj {B : Nat} {w : World} {x : Option Addr} {cap : Nat} {l : List Rw} (h : OwnsR B w x cap l) {b : Nat} (hb : RowOf x b) : ∃ c t p, w.heap[b]? = some (.cells c t p) := by
  rcases h.2 with ⟨hv, _⟩ | ⟨g, cap', cur, hv, hlo, hg, _⟩
  · simp only [Value.slice.injEq] at hv
    rw [hv.1] at hb; cases hb
  · simp only [Value.slice.injEq] at hv
    rw [hv.1] at hb; cases hb
    exact ⟨_, _, _, hg⟩
theorem lenO_le (er : Bool) : lenO er ≤ 108 := by cases er <;> decide
theorem BodyI.turn {rs : List Rw} {q g cq : Nat} {l d : List UInt8} {lf N b13 : Nat} {xo : Option Addr} {co : Nat} {V : World} {t : Nat} {S : List Nat} {A B : World} {T : Nat → Prop} (h : BodyI rs q g cq l d lf N b13 xo co V t S A) (ht : Turns T A B) (hT : ∀ b, T b → V.heap.size ≤ b)
    (h13 : b13 < V.heap.size) (hg : g < V.heap.size) (hx : ∀ b, RowOf xo b → b < V.heap.size) (hr : ∀ r, r ∈ rs → ∀ b, RowOf r.x b → b < V.heap.size) : BodyI rs q g cq l d lf N b13 xo co V t S B := by
  obtain ⟨hS, hk, hc, hf, ho, hv⟩ := h
  have nt : ∀ b, b < V.heap.size → ¬ T b := fun b hb e => by have := hT b e; omega
  refine ⟨hS, hk, ht.cell (nt _ h13) hc, ht.frozen (p := ⟨b13, 0, none⟩) (nt _ h13) (World.block_lt_of_cell? _ _ hc) hf, ho.turn ht (fun b hb => nt b (hx b hb)) (fun r hm b hb => ?_), hv.trans' ht (fun i hi e => absurd e (nt i hi))⟩
  rcases List.mem_or_eq_of_mem_set hm with h1 | h1
  · exact nt b (hr r h1 b hb)
  · subst h1; cases hb; exact nt g hg

def CutInv (x : Option Addr) (rs0 : List Rw) (c b0 o0 : Nat) (os : List OpV) (cy n k b10 : Nat) (xo : Option Addr) (co : Nat) (rs1 : List Rw) (on : OpV) (w w3 : World) (a' : Act) (wr : World) : Prop :=
  ∃ (j : Nat) (D : List Nat) (rs : List Rw) (u11 u12 u13 u14 u51 u52 u53 u54 u55 u56 u57 u58 u59 u60 u61 u62 u63 u64 u65 u66 u67 u68 u69 u70 u71 u72 u73 u74 u75 u76 u77 u78 u79 u50 : Value), a' = ({ tmps := #[.agg #[.slice x rs0.length c], .slice (some ⟨b0, o0, none⟩) os.length cy, .int .i64 (n : Int), .int .i64 (k : Int), .pointer (some ⟨w.heap.size, 0, none⟩), undef, undef, undef, .pointer (some ⟨w.heap.size + 1, 0, none⟩), .int .i64 0, .pointer (some ⟨b10, 0, none⟩), u11, u12, u13, u14, .agg #[.slice x rs0.length c], .agg #[.slice xo rs1.length co], .agg #[.slice x rs0.length c], .slice (some ⟨b0, o0, none⟩) os.length cy, .bool true, .bool false, .bool false, .int .i64 (n : Int), .bool false, .bool false, .bool false, .int .i64 (n : Int), .slice (some ⟨b0, o0, none⟩) os.length cy, .int .i64 (os.length : Int), .bool false, .bool false, .bool false, .int .i64 (k : Int), .bool false, .bool false, .bool false, .int .i64 (k : Int), .slice (some ⟨b0, o0, none⟩) os.length cy, .int .i64 (n : Int), .pointer (some ⟨b0, o0 + n * 3, none⟩), .agg #[.int .i64 on.blk, .bool on.er, .slice on.x on.d.length on.c], .int .i64 (lenO on.er : Int), .bool false, .bool false, undef, .slice (some ⟨b0, o0, none⟩) os.length cy, .int .i64 (n : Int), .int .i64 ((n : Int) + 1), .slice (some ⟨b0, o0, none⟩) (n + 1) cy, .int .i64 ((n : Int) + 1), u50, u51, u52, u53, u54, u55, u56, u57, u58, u59, u60, u61, u62, u63, u64, u65, u66, u67, u68, u69, u70, u71, u72, u73, u74, u75, u76, u77, u78, u79, undef], defers := marksOf D } : Act) ∧ u50 = .int .i64 (j : Int) ∧ CutRel (rs0.map (·.l)) os n k b10 xo co rs1 w w3 j D rs wr
theorem CutInv.mk {x : Option Addr} {rs0 : List Rw} {c b0 o0 : Nat} {os : List OpV} {cy n k b10 : Nat} {xo : Option Addr} {co : Nat} {rs1 : List Rw} {on : OpV} {w w3 wr : World} (j : Nat) (D : List Nat) (rs : List Rw) (u11 u12 u13 u14 u51 u52 u53 u54 u55 u56 u57 u58 u59 u60 u61 u62 u63 u64 u65 u66 u67 u68 u69 u70 u71 u72 u73 u74 u75 u76 u77 u78 u79 u50 : Value) (h : u50 = .int .i64 (j : Int)) (hr : CutRel (rs0.map (·.l)) os n k b10 xo co rs1 w w3 j D rs wr) :
    CutInv x rs0 c b0 o0 os cy n k b10 xo co rs1 on w w3 { tmps := #[.agg #[.slice x rs0.length c], .slice (some ⟨b0, o0, none⟩) os.length cy, .int .i64 (n : Int), .int .i64 (k : Int), .pointer (some ⟨w.heap.size, 0, none⟩), undef, undef, undef, .pointer (some ⟨w.heap.size + 1, 0, none⟩), .int .i64 0, .pointer (some ⟨b10, 0, none⟩), u11, u12, u13, u14, .agg #[.slice x rs0.length c], .agg #[.slice xo rs1.length co], .agg #[.slice x rs0.length c], .slice (some ⟨b0, o0, none⟩) os.length cy, .bool true, .bool false, .bool false, .int .i64 (n : Int), .bool false, .bool false, .bool false, .int .i64 (n : Int), .slice (some ⟨b0, o0, none⟩) os.length cy, .int .i64 (os.length : Int), .bool false, .bool false, .bool false, .int .i64 (k : Int), .bool false, .bool false, .bool false, .int .i64 (k : Int), .slice (some ⟨b0, o0, none⟩) os.length cy, .int .i64 (n : Int), .pointer (some ⟨b0, o0 + n * 3, none⟩), .agg #[.int .i64 on.blk, .bool on.er, .slice on.x on.d.length on.c], .int .i64 (lenO on.er : Int), .bool false, .bool false, undef, .slice (some ⟨b0, o0, none⟩) os.length cy, .int .i64 (n : Int), .int .i64 ((n : Int) + 1), .slice (some ⟨b0, o0, none⟩) (n + 1) cy, .int .i64 ((n : Int) + 1), u50, u51, u52, u53, u54, u55, u56, u57, u58, u59, u60, u61, u62, u63, u64, u65, u66, u67, u68, u69, u70, u71, u72, u73, u74, u75, u76, u77, u78, u79, undef], defers := marksOf D } wr := ⟨j, D, rs, u11, u12, u13, u14, u51, u52, u53, u54, u55, u56, u57, u58, u59, u60, u61, u62, u63, u64, u65, u66, u67, u68, u69, u70, u71, u72, u73, u74, u75, u76, u77, u78, u79, u50, rfl, h, hr⟩

set_option maxRecDepth 100000 in
set_option maxHeartbeats 4000000 in
theorem cut_yes (x : Option Addr) (rs0 : List Rw) (c : Nat) (y : Option Addr) (os : List OpV) (cy : Nat) (n k : Nat) (w : World) (hs : Rws w x rs0) (ho : Ops w y os) (hyn : y = none → cy = 0) (hm : os.length ≤ 1000) (hcy : os.length ≤ cy ∧ cy ≤ 9223372036854775807)
    (hok : vldO (rs0.map (·.l)) os = true) (hn : n < os.length) (hk : k ≤ lenO (os.getD n op0).er) :
    Calls Tryz.prog 57 #[.agg #[.slice x rs0.length c], .slice y os.length cy, .int .i64 (n : Int), .int .i64 (k : Int)] w fun e w' => ∃ x c rs, e = .returned (.tuple #[.agg #[.slice x rs.length c], .int .i64 0]) ∧ OwnsS w.heap.size w' x c rs ∧ rs.map (·.l) = cutL (rs0.map (·.l)) os n k ∧ Below w.heap.size w w' := by
  have hB := Below.refl w.heap.size w
  obtain ⟨hv, hall⟩ := (vldO_iff _ _).1 hok
  obtain ⟨⟨h1, h64⟩, h54⟩ := (vldS_iff _).1 hv
  rw [List.length_map] at h1 h64 hall
  have hlen : ∀ r, r ∈ rs0 → r.l.length ≤ 100000 := fun r hr => by have := h54 r.l (List.mem_map_of_mem hr); omega
  have HLEN := Lib.hid hlen
  have d1 : decide ((n : Int) < 0) = false := decide_eq_false (by omega)
  have d2 : decide ((os.length : Int) ≤ (n : Int)) = false := decide_eq_false (by omega)
  have d2n : decide (os.length ≤ n) = false := decide_eq_false (by omega)
  have d3 : decide ((k : Int) < 0) = false := decide_eq_false (by omega)
  have d4 : decide ((lenO (os.getD n op0).er : Int) < (k : Int)) = false := decide_eq_false (by omega)
  have d4n : decide (lenO (os.getD n op0).er < k) = false := decide_eq_false (by omega)
  obtain ⟨b0, o0, rfl, c0, c1, c2, -⟩ := ho.at n hn
  obtain ⟨on, hon⟩ : ∃ o, os.getD n op0 = o := ⟨_, rfl⟩
  rw [hon] at d4 d4n c0 c1 c2
  have HON := Lib.hid hon
  have HALL := Lib.hid hall
  have HOK := Lib.hid hok
  have H54 := Lib.hid h54
  have hbn : b0 < w.heap.size := World.block_lt_of_cell? _ _ c0
  clear hlen hon hall hok h54 hv hyn
  refine (callsIn_wide (n := 5)).1 ?_
  refine callsIn_of_wp_marks Tryz.func57 rfl trivial ?_ rfl
  simp only [Tryz.ntmps57, List.size_toArray, List.length_cons, List.length_nil, Nat.reduceAdd, Nat.reduceSub, Array.replicate_succ, Array.replicate_zero, List.push_toArray, List.append_toArray, List.nil_append, List.cons_append]
  gi_wp2_with (refine ⟨trivial, ?_⟩; gi_at_call 56; refine (callsIn_wide.2 (own_any x rs0 c _ (hs.later (al (al hB _) _)) (by omega) HLEN.out)).mono ?_; rintro e w1 ⟨xo, co, rs1, rfl, hos, hml, hb⟩; refine Hid.out ?_)
  unfold Hid
  have hB1 := thru (al (al hB _) _) hb
  have g0 := later (a := ⟨w.heap.size, 0, none⟩) (v := .slice x rs0.length c) hb (by go_simp)
  have g1 := later (a := ⟨w.heap.size + 1, 0, none⟩) (v := .slice none 0 0) hb (by go_simp)
  have f1 := (Below.frozen hb (p := ⟨w.heap.size + 1, 0, none⟩) (by simp)).trans (show _ = false by go_simp)
  have hz1 : w.heap.size + 2 ≤ w1.heap.size := by have := hb.size; simp at this; omega
  have hz2 : w.heap.size + 1 < w1.heap.size := by omega
  have hz0 : w.heap.size < w1.heap.size := by omega
  rw [show ((w.alloc (.cells #[.slice x rs0.length c] 33)).alloc (.cells #[.slice none 0 0] 33)).heap.size = w.heap.size + 2 by simp] at hos
  have HOS := Lib.hid hos
  have HML := Lib.hid hml
  clear hb hos hml
  gi_wp2_with (refine ⟨trivial, ?_⟩; gi_at_call 55; refine (callsIn_wide.2 (validops_any x rs0 c (some ⟨b0, o0, none⟩) os cy _ (hs.later (al hB1 _)) (by omega) (ho.later (al hB1 _)) (by omega))).mono ?_; rintro e w2 ⟨rfl, hb⟩; refine Hid.out ?_)
  unfold Hid
  rw [HOK.out]
  have hB2 := thru (al hB1 _) hb
  have r1 := later_lt (a := ⟨w.heap.size + 1, 0, none⟩) (v := .slice none 0 0) hb (by simp <;> omega) (later (al (Below.refl _ _) _) g1)
  have q1 := (Below.frozen hb (p := ⟨w.heap.size + 1, 0, none⟩) (by simp <;> omega)).trans ((Below.frozen (al (Below.refl _ w1) _) (p := ⟨w.heap.size + 1, 0, none⟩) (by simp <;> omega)).trans f1)
  have ro := later (a := ⟨w1.heap.size, 0, none⟩) (v := .slice xo rs1.length co) hb (by go_simp)
  have qo := (Below.frozen hb (p := ⟨w1.heap.size, 0, none⟩) (by simp)).trans (show _ = false by go_simp)
  have HOS2 := Lib.hid ((HOS.out.turnB ((Turns.refl (fun _ => False) w1).alloc (.cells #[.slice xo rs1.length co] 33)) (fun _ _ _ h => h)).later hb)
  have hlo : ∀ b, RowOf xo b → b < w1.heap.size := fun b h => (HOS.out.row.low b h).2
  have hle : ∀ r, r ∈ rs1 → ∀ b, RowOf r.x b → b < w1.heap.size := fun r hr b h => ((HOS.out.each r hr).low b h).2
  have HLO := Lib.hid hlo
  have HLE := Lib.hid hle
  have hzw : w1.heap.size < w2.heap.size := World.block_lt_of_cell? _ _ ro
  obtain ⟨b10, hb10⟩ : ∃ b, w1.heap.size = b := ⟨_, rfl⟩
  have c0' := later hB2 c0
  have c1' := later hB2 c1
  have c2' := later hB2 c2
  rw [hb10] at ro qo HLO HLE hz0 hz2 hz1 hzw ⊢
  clear hb g0 g1 f1 HOS hlo hle c0 c1 c2 hB1 hB hb10
  gi_wp2_with (refine ⟨trivial, ?_⟩; gi_at_call 58; refine (callsIn_wide.2 (len_any on _)).mono ?_; rintro e w3 ⟨rfl, hb⟩; refine Hid.out ?_)
  unfold Hid
  have hB3 := thru hB2 hb
  replace r1 := later hb r1
  replace ro := later hb ro
  replace q1 := (Below.frozen hb (p := ⟨w.heap.size + 1, 0, none⟩) (by simp <;> omega)).trans q1
  replace qo := (Below.frozen hb (p := ⟨b10, 0, none⟩) (by simp <;> omega)).trans qo
  have HOS3 := Lib.hid (HOS2.out.later hb)
  have hzw3 : b10 < w3.heap.size := Nat.lt_of_lt_of_le hzw hb.size
  clear hb HOS2 c0' c1' c2' hB2 hzw
  have p1 : (0 : Int) ≤ (n : Int) + 1 := by omega
  have p2 : (n : Int) + 1 ≤ (cy : Int) := by omega
  gi_wp2_with fail
  refine wpIn_loop (CutInv x rs0 c b0 o0 os cy n k b10 xo co rs1 on w w3) (fun a' _ => n + 1 - (intOf (a'.tmps.getD 50 undef)).toNat) ?h0 ?round
  case h0 =>
    refine CutInv.mk 0 [] rs1 _ _ _ _ _ _ _ _ _ _ _ _ _ _ _ _ _ _ _ _ _ _ _ _ _ _ _ _ _ _ _ _ _ _ rfl ⟨by omega, MarksIn.nil _, fun d hd => by simp at hd, HOS3.out, rfl, ?_, ro, qo, r1, q1, hB3, Nat.le_refl _⟩
    rw [HML.out, if_pos (by omega)]
    rfl
  case round =>
    clear ro qo r1 q1
    rintro a' wr ⟨j, D, rs, u11, u12, u13, u14, u51, u52, u53, u54, u55, u56, u57, u58, u59, u60, u61, u62, u63, u64, u65, u66, u67, u68, u69, u70, u71, u72, u73, u74, u75, u76, u77, u78, u79, u50, rfl, rfl, hj, hmk, hmd, hos, hmx, hml, ro, qo, r1, q1, hB, hzr⟩
    have hlrs : rs.length = rs1.length := by simpa using congrArg List.length hmx
    have hl10 : rs1.length = rs0.length := lens_map HML.out
    by_cases hlt : j < n + 1
    · have p3 : (j : Int) < (n : Int) + 1 := by omega
      obtain ⟨b0', o0', hbo, k0, k1, k2, hokj⟩ := (ho.later hB).at j (by omega)
      obtain ⟨hqr, hdl, -⟩ := (badO_iff _ _).1 (HALL.out _ (getD_mem os j op0 (by omega)))
      obtain ⟨oj, hoj⟩ : ∃ o, os.getD j op0 = o := ⟨_, rfl⟩
      rw [hoj] at k0 k1 k2 hokj hqr hdl
      cases hbo
      obtain ⟨blk, er, xj, cj, dj⟩ := oj
      dsimp only at k0 k1 k2 hqr hdl
      obtain ⟨q, rfl⟩ : ∃ q : Nat, blk = (q : Int) := ⟨blk.toNat, by omega⟩
      have hql : q < rs.length := by omega
      rw [if_pos (by omega)] at hml
      have ha54 : All54 (rs.map (·.l)) := by rw [hml]; exact All54.runL H54.out _
      obtain ⟨⟨xq, cq, l⟩, hrq⟩ : ∃ r, rs.getD q rw0 = r := ⟨_, rfl⟩
      have hmem := getD_mem rs q rw0 hql
      rw [hrq] at hmem
      have hl54 : l.length = 54 := ha54 l (List.mem_map.2 ⟨_, hmem, rfl⟩)
      obtain ⟨g, rfl⟩ := (hos.each _ hmem).some_of (by rw [hl54]; omega)
      have hgr := ((hos.each _ hmem).low g rfl)
      have hg10 : g < b10 := by
        have hx : (some ⟨g, 0, none⟩ : Option Addr) ∈ rs1.map (·.x) := by rw [← hmx]; exact List.mem_map.2 ⟨_, hmem, rfl⟩
        obtain ⟨r, hr, hrx⟩ := List.mem_map.1 hx
        exact HLE.out r hr g (by rw [hrx]; rfl)
      have hgc := (hos.each _ hmem).cell 0 (by rw [hl54]; omega)
      have hgd : ∀ d, d ∈ D → d ≠ g := fun d hd e => by subst e; exact hmk.not_cells hd hgc
      obtain ⟨go, rfl⟩ := hos.row.some_of (by omega)
      have rowq : wr.cell? ⟨go, q, none⟩ = some (.slice (some ⟨g, 0, none⟩) 54 cq) := by
        rcases hos.rws.1 with h | ⟨b, o, hx, hc⟩
        · subst h; simp at hql
        · cases hx
          have := hc q hql
          rw [hrq, Nat.zero_add] at this
          rw [this]; unfold encR; rw [hl54]
      have HSET : Hid (rs.set q ⟨some ⟨g, 0, none⟩, cq, l⟩ = rs) := by
        show _ = _
        rw [← hrq, List.getD_eq_getElem?_getD, List.getElem?_eq_getElem hql]
        exact List.set_getElem_self ..
      have HLRS := Lib.hid hlrs
      have HL10 := Lib.hid hl10
      have HOJ := Lib.hid hoj
      have HRQ := Lib.hid hrq
      have HL54 := Lib.hid hl54
      have HML2 := Lib.hid hml
      have HMX := Lib.hid hmx
      have HGG := Lib.hid (hos.row.apart (hos.each _ hmem))
      have HG2 := Lib.hid hgr.1
      clear hoj hrq hl54 hml ha54 hmem hgc hmx hlrs hl10
      gi_wp2_with (refine ⟨trivial, ?_⟩; gi_at_call 58; refine (callsIn_wide.2 (len_any ⟨(q : Int), er, xj, cj, dj⟩ _)).mono ?_; rintro e wa ⟨rfl, hb⟩; refine Hid.out ?_)
      unfold Hid
      have hBa := thru (al hB _) hb
      have m0 := later (a := ⟨wr.heap.size, 0, none⟩) (v := .int .i64 (q : Int)) hb (by go_simp)
      have m1 := later (a := ⟨wr.heap.size, 1, none⟩) (v := .bool er) hb (by go_simp)
      have m2 := later (a := ⟨wr.heap.size, 2, none⟩) (v := .slice xj dj.length cj) hb (by go_simp)
      have hta : Turns (fun _ => False) wr wa := ((Turns.refl (fun _ => False) wr).alloc _).trans (Turns.of_below hb (Nat.le_refl _))
      have hz12 : wr.heap.size < wa.heap.size := World.block_lt_of_cell? _ _ m0
      obtain ⟨b12, hb12⟩ : ∃ b, wr.heap.size = b := ⟨_, rfl⟩
      rw [hb12] at m0 m1 m2 hz12 ⊢
      clear hb k0 k1 k2
      by_cases hjn : j = n
      · have hnj : n = j := hjn.symm
        subst hnj
        gi_wp2_with (refine ⟨trivial, ?_⟩; gi_at_call 90; refine (callsIn_wide.2 (steps_any ⟨(q : Int), er, xj, cj, dj⟩ _)).mono ?_; rintro e V ⟨bo, rfl, hbo, hwb⟩; have HBO := Lib.hid hbo; have HWB := Lib.hid hwb; clear hbo hwb; refine Hid.out ?_)
        unfold Hid
        have hbo := HBO.out
        have hwb := HWB.out
        obtain ⟨Z, hZ⟩ : ∃ Z, wa.alloc (.cells #[.int .i64 (k : Int)] 3) = Z := ⟨_, rfl⟩
        have z13 : Z.cell? ⟨wa.heap.size, 0, none⟩ = some (.int .i64 (k : Int)) := by rw [← hZ]; exact cell_new wa _ _ _ 0
        have zf13 : Z.frozen? ⟨wa.heap.size, 0, none⟩ = false := by rw [← hZ]; exact frozen_new wa _ _ 0
        have zsz : Z.heap.size = wa.heap.size + 1 := by rw [← hZ]; simp
        have zt : Turns (fun _ => False) wa Z := by rw [← hZ]; exact (Turns.refl _ _).alloc _
        rw [hZ] at hbo hwb
        obtain ⟨b13, hb13⟩ : ∃ b, wa.heap.size = b := ⟨_, rfl⟩
        rw [hb13] at z13 zf13 zsz ⊢
        have v1 : V.cell? ⟨bo, 1, none⟩ = some (.bool er) := by rw [hwb, hbo]; exact cell_new Z _ _ _ 1
        have v2 : V.cell? ⟨bo, 2, none⟩ = some (.slice xj dj.length cj) := by rw [hwb, hbo]; exact cell_new Z _ _ _ 2
        have vt : Turns (fun _ => False) Z V := by rw [hwb]; exact (Turns.refl _ _).alloc _
        have v13 := vt.cell (fun e => e) z13
        have vf13 := vt.frozen (p := ⟨b13, 0, none⟩) (fun e => e) (World.block_lt_of_cell? _ _ z13) zf13
        have vsz : V.heap.size = Z.heap.size + 1 := by rw [hwb]; simp
        have hwV : Turns (fun _ => False) wr V := (hta.trans zt).trans vt
        have m0V := vt.cell (fun e => e) (zt.cell (fun e => e) m0)
        have roV := hwV.cell (fun e => e) ro
        have rowV := hwV.cell (fun e => e) rowq
        have h13V : b13 < V.heap.size := by omega
        have hgV : g < V.heap.size := by have := hwV.size; omega
        have HOV := Lib.hid (hos.turn hwV (fun _ _ h => h) (fun _ _ _ _ h => h))
        have HXV := Lib.hid (And.intro (hokj.1.turn hwV (fun _ _ h => h)) hokj.2.1)
        have HLV : Hid (∀ b, RowOf (some ⟨go, 0, none⟩) b → b < V.heap.size) := fun b hb => by have := (hos.row.low b hb).2; have := hwV.size; omega
        have HRV : Hid (∀ r, r ∈ rs → ∀ b, RowOf r.x b → b < V.heap.size) := fun r hr b hb => by have := ((hos.each r hr).low b hb).2; have := hwV.size; omega
        have hbV : b12 < b13 := by omega
        have qB1 : (q : Int) < (rs1.length : Int) := by have := HLRS.out; omega
        have qB2 : q < rs1.length := by omega
        have hkE : k ≤ lenO er := by rw [HOJ.out] at hk; exact hk
        have hgg : go ≠ g := fun e => HGG.out go rfl (by rw [e]; rfl)
        have hgo12 : go < b12 := by have := (hos.row.low go rfl).2; omega
        have HL12 : Hid (∀ b, RowOf (some ⟨go, 0, none⟩) b → b < b12) := fun b hb => by have := (hos.row.low b hb).2; omega
        have HR12 : Hid (∀ r, r ∈ rs → ∀ b, RowOf r.x b → b < b12) := fun r hr b hb => by have := ((hos.each r hr).low b hb).2; omega
        have hmkV := hmk.turn hwV (fun _ _ h => h)
        have hN2 : w.heap.size + 2 ≤ g := HG2.out
        have FIN : Hid (∀ W, Turns (fun b => b = b13 ∨ b = g) V W → V.heap.size < W.heap.size → W.heap[V.heap.size]? = some (.deferred (some [])) → OwnsS (w.heap.size + 2) W (some ⟨go, 0, none⟩) co (rs.set q ⟨some ⟨g, 0, none⟩, cq, doN dj (k) l⟩) → CutRel (rs0.map (·.l)) os n k b10 (some ⟨go, 0, none⟩) co rs1 w w3 (n + 1) (V.heap.size :: D) (rs.set q ⟨some ⟨g, 0, none⟩, cq, doN dj (k) l⟩) W) := by
          intro W ht hz hD ho2
          have nb : ∀ b, b ≠ b13 → b ≠ g → ¬ (b = b13 ∨ b = g) := fun b h1 h2 h => h.elim h1 h2
          have hdl' : ∀ d, d ∈ D → d < b12 := fun d hd => by have := hmk.lt hd; omega
          refine ⟨by omega, (hmkV.turn ht (fun d hd => nb d (by have := hdl' d hd; omega) (hgd d hd))).cons hD (fun hd => by have := hdl' _ hd; omega), fun d hd => ?_, ho2, ?_, ?_, ht.cell (p := ⟨b10, 0, none⟩) (nb b10 (by omega) (by omega)) roV, ht.frozen (p := ⟨b10, 0, none⟩) (nb b10 (by omega) (by omega)) (World.block_lt_of_cell? _ _ roV) (hwV.frozen (p := ⟨b10, 0, none⟩) (fun e => e) (World.block_lt_of_cell? _ _ ro) qo), ht.cell (p := ⟨w.heap.size + 1, 0, none⟩) (nb (w.heap.size + 1) (by omega) (by omega)) (hwV.cell (fun e => e) r1), ht.frozen (p := ⟨w.heap.size + 1, 0, none⟩) (nb (w.heap.size + 1) (by omega) (by omega)) (World.block_lt_of_cell? _ _ (hwV.cell (fun e => e) r1)) (hwV.frozen (p := ⟨w.heap.size + 1, 0, none⟩) (fun e => e) (World.block_lt_of_cell? _ _ r1) q1), (hB.trans (hwV.below hB.size (fun _ _ h => h))).trans (ht.below (by have := hB.size; have := hwV.size; omega) (fun i hi => nb i (by have := hB.size; omega) (by omega))), by have := hwV.size; omega⟩
          · rcases List.mem_cons.1 hd with rfl | hd
            · have := hwV.size; omega
            · exact hmd d hd
          · rw [List.map_set, HMX.out.symm]
            rw [← HSET.out, List.map_set]
            rw [List.set_set]
          · rw [map_set_l, HML2.out]
            rw [if_neg (by omega)]; unfold cutL doOp; rw [HOJ.out, ← HML2.out, getD_map_l]; show _ = _; rw [show ((q : Int)).toNat = q from Int.toNat_natCast q, HRQ.out]
        clear HBO HWB hZ z13 zf13 zt hbo hwb vt vsz zsz m0 m1 m2
        gi_wp2_with fail
        refine wpIn_rangeB (α := Nat × UInt8) (encs := (fun s : Nat × UInt8 => #[.agg #[.int .i64 (s.1 : Int), .int .u8 (s.2.toNat : Int)]])) (len := lenO er) (x := stepA dj) (stops := True) (T := fun _ => False) (gf := 107) (lb := #[.pointer (some ⟨bo, 0, none⟩)]) rfl (enters_of Tryz.func107 (by kernel_rfl) rfl) (fun b e => e.elim)
          (steps_in (5 - 1) (by omega) bo er xj dj cj V v1 v2 HXV.out.1 HXV.out.2 hdl) (fun _ => rfl) (BodyI rs q g cq l dj (k) (w.heap.size + 2) b13 (some ⟨go, 0, none⟩) co V) (fun cc t S W => cc = .exit 2 ∧ ∃ t0, t = t0 + 1 ∧ t0 = k ∧ BodyI rs q g cq l dj (k) (w.heap.size + 2) b13 (some ⟨go, 0, none⟩) co V t0 S W) [b13, g] (fun b hb => ⟨by simp at hb; rcases hb with rfl | rfl <;> omega, fun e => e⟩)
          (fun t S A B h ht => h.turn ht (fun b hb => by rcases hb with h | h | h; exact h.elim; omega; omega) h13V hgV HLV.out HRV.out) (fun cc t S A B h ht => ⟨h.1, by obtain ⟨t0, e1, e2, h3⟩ := h.2; exact ⟨t0, e1, e2, h3.turn ht (fun b hb => by rcases hb with h | h | h; exact h.elim; omega; omega) h13V hgV HLV.out HRV.out⟩⟩) (.inl trivial)
          ⟨rfl, Nat.zero_le _, v13, vf13, by rw [show doN dj 0 l = l from rfl, HSET.out]; exact HOV.out, Turns.refl _ _⟩
          (fun s a' W => ∃ b14, V.heap.size + 1 < b14 ∧ W.cell? ⟨b14, 0, none⟩ = some (.int .i64 (s.1 : Int)) ∧ W.cell? ⟨b14, 1, none⟩ = some (.int .u8 (s.2.toNat : Int)) ∧ a' = ({ tmps := #[.agg #[.slice x rs0.length c], .slice (some ⟨b0, o0, none⟩) os.length cy, .int .i64 (n : Int), .int .i64 (k : Int), .pointer (some ⟨w.heap.size, 0, none⟩), undef, undef, undef, .pointer (some ⟨w.heap.size + 1, 0, none⟩), .int .i64 0, .pointer (some ⟨b10, 0, none⟩), .int .i64 (n : Int), .pointer (some ⟨b12, 0, none⟩), .pointer (some ⟨b13, 0, none⟩), .pointer (some ⟨b14, 0, none⟩), .agg #[.slice x rs0.length c], .agg #[.slice (some ⟨go, 0, none⟩) rs1.length co], .agg #[.slice x rs0.length c], .slice (some ⟨b0, o0, none⟩) os.length cy, .bool true, .bool false, .bool false, .int .i64 (n : Int), .bool false, .bool false, .bool false, .int .i64 (n : Int), .slice (some ⟨b0, o0, none⟩) os.length cy, .int .i64 (os.length : Int), .bool false, .bool false, .bool false, .int .i64 (k : Int), .bool false, .bool false, .bool false, .int .i64 (k : Int), .slice (some ⟨b0, o0, none⟩) os.length cy, .int .i64 (n : Int), .pointer (some ⟨b0, o0 + n * 3, none⟩), .agg #[.int .i64 on.blk, .bool on.er, .slice on.x on.d.length on.c], .int .i64 (lenO on.er : Int), .bool false, .bool false, undef, .slice (some ⟨b0, o0, none⟩) os.length cy, .int .i64 (n : Int), .int .i64 ((n : Int) + 1), .slice (some ⟨b0, o0, none⟩) (n + 1) cy, .int .i64 ((n : Int) + 1), .int .i64 (n : Int), .bool true, .int .i64 (n : Int), .pointer (some ⟨b0, o0 + n * 3, none⟩), .agg #[.int .i64 (q : Int), .bool er, .slice xj dj.length cj], .agg #[.int .i64 (q : Int), .bool er, .slice xj dj.length cj], .int .i64 (lenO er : Int), .int .i64 (n : Int), .int .i64 (n : Int), .bool true, .int .i64 (k : Int), .agg #[.int .i64 (q : Int), .bool er, .slice xj dj.length cj], .func (.func 107) #[] #[.pointer (some ⟨bo, 0, none⟩)], .agg #[.int .i64 (s.1 : Int), .int .u8 (s.2.toNat : Int)], u64, u65, u66, u67, u68, u69, u70, u71, u72, u73, u74, u75, u76, u77, u78, u79, undef], defers := [] } : Act))
          (by rintro s a' A B ⟨b14, h1, h2, h3, h4⟩ ht; exact ⟨b14, h1, ht.cell (by simp; omega) h2, ht.cell (by simp; omega) h3, h4⟩) ?assign ?body ?done ?stop
        case assign =>
          intro s W K hzW hK
          gi_wp2_with fail
          exact hK _ _ ((Turns.refl _ _).alloc _) ⟨W.heap.size, hzW, cell_new W _ _ _ 0, cell_new W _ _ _ 1, rfl⟩
        case body =>
          rintro t S a' W htl hzW ⟨rfl, hkl, hc13, hf13, hos2, htV⟩ ⟨b14, h14, e0, e1, rfl⟩ hSb
          by_cases hlt2 : t < k
          · obtain ⟨m, hm⟩ : ∃ m, (k) - t = m := ⟨_, rfl⟩
            obtain ⟨p, hp⟩ : ∃ p, m = p + 1 := ⟨m - 1, by omega⟩
            have hp2 : (k) - (t + 1) = p := by omega
            have hpb : p ≤ 200 := by have := lenO_le er; omega
            rw [hm] at hc13
            have z1 : ((m : Int) == 0) = false := by simp; omega
            have z2 : (m : Int) - 1 = (p : Int) := by omega
            obtain ⟨⟨ai, vi⟩, hst⟩ : ∃ s, stepA dj t = s := ⟨_, rfl⟩
            have hai : ai < 54 := by have := stepA_lt dj t (by have := lenO_le er; omega); rw [hst] at this; exact this
            have aB1 : (ai : Int) < 54 := by omega
            rw [hst] at e0 e1 ⊢
            dsimp only at e0 e1 ⊢
            have hq2 : q < (rs.set q ⟨some ⟨g, 0, none⟩, cq, doN dj t l⟩).length := by rw [List.length_set]; exact hql
            have hr2 : (rs.set q ⟨some ⟨g, 0, none⟩, cq, doN dj t l⟩).getD q rw0 = ⟨some ⟨g, 0, none⟩, cq, doN dj t l⟩ := by rw [getD_set _ _ _ _ _ hql, if_pos rfl]
            have hoB := hos2.each _ (getD_mem _ q rw0 hq2)
            rw [hr2] at hoB
            have xg := OwnsB.cell hoB ai (by rw [doN_len, HL54.out]; exact hai)
            have xf := OwnsB.free hoB ai
            have HDO : Hid (doN dj (t + 1) l = (doN dj t l).set ai vi) := by show _ = _; rw [doN, hst]
            have HP2 := Lib.hid hp2
            have HR2 := Lib.hid hr2
            have x10 := htV.cell (p := ⟨b10, 0, none⟩) (by simp; omega) roV
            have x12 := htV.cell (p := ⟨b12, 0, none⟩) (by simp; omega) m0V
            have xrow := htV.cell (p := ⟨go, q, none⟩) (by simp; omega) rowV
            have tW : Turns (fun b => b = b13) W (W.setCell ⟨b13, 0, none⟩ (.int .i64 (p : Int))) := (Turns.refl (fun b => b = b13) W).setCell (p := ⟨b13, 0, none⟩) (fun _ => rfl) _
            have hc2 : (W.setCell ⟨b13, 0, none⟩ (.int .i64 (p : Int))).cell? ⟨b13, 0, none⟩ = some (.int .i64 (p : Int)) := World.cell?_setCell_same' _ _ _ (by rw [hc13]; rfl)
            have hf2 : (W.setCell ⟨b13, 0, none⟩ (.int .i64 (p : Int))).frozen? ⟨b13, 0, none⟩ = false := by rw [World.frozen?_setCell]; exact hf13
            have HOS2 := Lib.hid hos2
            clear hst hm hp hp2 hr2 hoB hos2
            gi_wp2_with fail
            obtain ⟨W1, hW1⟩ : ∃ W1, W.setCell ⟨b13, 0, none⟩ (.int .i64 (p : Int)) = W1 := ⟨_, rfl⟩
            rw [hW1] at tW hc2 hf2 ⊢
            clear hW1
            have x10' := tW.cell (p := ⟨b10, 0, none⟩) (by simp; omega) x10
            have x12' := tW.cell (p := ⟨b12, 0, none⟩) (by simp; omega) x12
            have xrow' := tW.cell (p := ⟨go, q, none⟩) (by simp; omega) xrow
            have e0' := tW.cell (p := ⟨b14, 0, none⟩) (by simp; omega) e0
            have e1' := tW.cell (p := ⟨b14, 1, none⟩) (by simp; omega) e1
            have xg' := tW.cell (p := ⟨g, ai, none⟩) (by simp; omega) xg
            have xf' := tW.frozen (p := ⟨g, ai, none⟩) (by simp; omega) (World.block_lt_of_cell? _ _ xg) xf
            obtain ⟨old, hold⟩ : ∃ o, (doN dj t l).getD ai 0 = o := ⟨_, rfl⟩
            rw [hold] at xg'
            clear x10 x12 xrow e0 e1 xg xf hold hc13 hf13
            refine wpIn_tail 11 (fun X => X.cell? ⟨b10, 0, none⟩ = some (.slice (some ⟨go, 0, none⟩) rs1.length co) ∧ X.cell? ⟨b12, 0, none⟩ = some (.int .i64 (q : Int)) ∧ X.cell? ⟨go, q, none⟩ = some (.slice (some ⟨g, 0, none⟩) 54 cq) ∧ X.cell? ⟨b14, 0, none⟩ = some (.int .i64 (ai : Int)) ∧ X.cell? ⟨b14, 1, none⟩ = some (.int .u8 (vi.toNat : Int)) ∧ X.cell? ⟨g, ai, none⟩ = some (.int .u8 (old.toNat : Int)) ∧ X.frozen? ⟨g, ai, none⟩ = false ∧ Turns (fun _ => False) W1 X) (by kernel_rfl) (by kernel_rfl) (fun ⟨_, _, h⟩ => h) ⟨x10', x12', xrow', e0', e1', xg', xf', (Turns.refl _ _).drew⟩ ?_
            clear x10' x12' xrow' e0' e1' xg' xf'
            rintro X ⟨x10, x12, xrow, e0, e1, xg, xf, htX⟩
            simp only [List.take_succ_cons, List.take_zero, List.drop_succ_cons, List.drop_zero]
            repeat still_step
            refine wpStill_nil ?_
            go_wp2_with fail
            gi_wp2_with fail
            have tX : Turns (fun b => b = b13 ∨ b = g) W (X.setCell ⟨g, ai, none⟩ (.int .u8 (vi.toNat : Int))) := Turns.setCell (T := fun b => b = b13 ∨ b = g) (p := ⟨g, ai, none⟩) ((tW.mono (fun _ _ h => .inl h)).trans (htX.mono (fun _ _ h => h.elim))) (fun _ => .inr rfl) _
            have hsz : W.heap.size ≤ (X.setCell ⟨g, ai, none⟩ (.int .u8 (vi.toNat : Int))).heap.size := tX.size
            have ho1 := (HOS2.out.turn tW (fun b hb e => by have := HL12.out b hb; omega) (fun r hr b hb e => by
              rcases List.mem_or_eq_of_mem_set hr with h1 | h1
              · have := HR12.out r h1 b hb; omega
              · subst h1; have e2 : g = b := Option.some.inj hb; omega)).turn htX (fun _ _ h => h) (fun _ _ _ _ h => h)
            have ho2 := ho1.setB q g cq (doN dj t l) hq2 HR2.out ai vi
            rw [List.set_set, ← HDO.out] at ho2
            refine ⟨[b13, g], fun b hb => ⟨Nat.lt_of_lt_of_le (hSb b hb).1 hsz, .inl hb⟩, tX.mono (fun b _ hb => by simp; exact hb), rfl, hlt2, ?_, ?_, ho2, htV.trans tX⟩
            · rw [HP2.out, World.cell?_setCell_other _ _ _ _ (by simp <;> omega)]
              exact htX.cell (fun e => e) hc2
            · rw [World.frozen?_setCell]
              exact htX.frozen (p := ⟨b13, 0, none⟩) (fun e => e) (World.block_lt_of_cell? _ _ hc2) hf2
          · have ht0 : t = k := by omega
            have hc0 := hc13
            rw [show (k) - t = 0 by omega] at hc0
            gi_wp2_with fail
            exact ⟨[b13, g], fun b hb => ⟨(hSb b hb).1, .inl hb⟩, Turns.refl _ _, rfl, t, rfl, ht0, rfl, hkl, hc13, hf13, hos2, htV⟩
        case done =>
          rintro S W hzW ⟨rfl, hkl, hc13, hf13, hos2, htV⟩ hD
          have hLF : lenO er = k := by omega
          rw [hLF] at hos2
          have HF := Lib.hid (FIN.out W htV hzW hD hos2)
          clear hc13 hf13 hos2 v13 vf13 v1 v2 m0V roV rowV
          gi_wp2_with fail
          exact ⟨CutInv.mk (n + 1) (V.heap.size :: D) (rs.set q ⟨some ⟨g, 0, none⟩, cq, doN dj (k) l⟩) _ _ _ _ _ _ _ _ _ _ _ _ _ _ _ _ _ _ _ _ _ _ _ _ _ _ _ _ _ _ _ _ _ _ (by go_num) HF.out, by simp [intOf] <;> omega⟩
        case stop =>
          rintro cc t S W htl hzW ⟨rfl, t0, ht0, hLF, rfl, hkl, hc13, hf13, hos2, htV⟩ hD
          rw [hLF] at hos2
          have HF := Lib.hid (FIN.out W htV hzW hD hos2)
          clear hc13 hf13 hos2 v13 vf13 v1 v2 m0V roV rowV
          gi_wp2_with fail
          exact ⟨CutInv.mk (n + 1) (V.heap.size :: D) (rs.set q ⟨some ⟨g, 0, none⟩, cq, doN dj (k) l⟩) _ _ _ _ _ _ _ _ _ _ _ _ _ _ _ _ _ _ _ _ _ _ _ _ _ _ _ _ _ _ _ _ _ _ (by go_num) HF.out, by simp [intOf] <;> omega⟩
      · have y1 : decide ((j : Int) = (n : Int)) = false := by simp; omega
        have y2 : ((j : Int) == (n : Int)) = false := by simp; omega
        gi_wp2_with (refine ⟨trivial, ?_⟩; gi_at_call 90; refine (callsIn_wide.2 (steps_any ⟨(q : Int), er, xj, cj, dj⟩ _)).mono ?_; rintro e V ⟨bo, rfl, hbo, hwb⟩; have HBO := Lib.hid hbo; have HWB := Lib.hid hwb; clear hbo hwb; refine Hid.out ?_)
        unfold Hid
        have hbo := HBO.out
        have hwb := HWB.out
        obtain ⟨Z, hZ⟩ : ∃ Z, wa.alloc (.cells #[.int .i64 (lenO er : Int)] 3) = Z := ⟨_, rfl⟩
        have z13 : Z.cell? ⟨wa.heap.size, 0, none⟩ = some (.int .i64 (lenO er : Int)) := by rw [← hZ]; exact cell_new wa _ _ _ 0
        have zf13 : Z.frozen? ⟨wa.heap.size, 0, none⟩ = false := by rw [← hZ]; exact frozen_new wa _ _ 0
        have zsz : Z.heap.size = wa.heap.size + 1 := by rw [← hZ]; simp
        have zt : Turns (fun _ => False) wa Z := by rw [← hZ]; exact (Turns.refl _ _).alloc _
        rw [hZ] at hbo hwb
        obtain ⟨b13, hb13⟩ : ∃ b, wa.heap.size = b := ⟨_, rfl⟩
        rw [hb13] at z13 zf13 zsz ⊢
        have v1 : V.cell? ⟨bo, 1, none⟩ = some (.bool er) := by rw [hwb, hbo]; exact cell_new Z _ _ _ 1
        have v2 : V.cell? ⟨bo, 2, none⟩ = some (.slice xj dj.length cj) := by rw [hwb, hbo]; exact cell_new Z _ _ _ 2
        have vt : Turns (fun _ => False) Z V := by rw [hwb]; exact (Turns.refl _ _).alloc _
        have v13 := vt.cell (fun e => e) z13
        have vf13 := vt.frozen (p := ⟨b13, 0, none⟩) (fun e => e) (World.block_lt_of_cell? _ _ z13) zf13
        have vsz : V.heap.size = Z.heap.size + 1 := by rw [hwb]; simp
        have hwV : Turns (fun _ => False) wr V := (hta.trans zt).trans vt
        have m0V := vt.cell (fun e => e) (zt.cell (fun e => e) m0)
        have roV := hwV.cell (fun e => e) ro
        have rowV := hwV.cell (fun e => e) rowq
        have h13V : b13 < V.heap.size := by omega
        have hgV : g < V.heap.size := by have := hwV.size; omega
        have HOV := Lib.hid (hos.turn hwV (fun _ _ h => h) (fun _ _ _ _ h => h))
        have HXV := Lib.hid (And.intro (hokj.1.turn hwV (fun _ _ h => h)) hokj.2.1)
        have HLV : Hid (∀ b, RowOf (some ⟨go, 0, none⟩) b → b < V.heap.size) := fun b hb => by have := (hos.row.low b hb).2; have := hwV.size; omega
        have HRV : Hid (∀ r, r ∈ rs → ∀ b, RowOf r.x b → b < V.heap.size) := fun r hr b hb => by have := ((hos.each r hr).low b hb).2; have := hwV.size; omega
        have hbV : b12 < b13 := by omega
        have qB1 : (q : Int) < (rs1.length : Int) := by have := HLRS.out; omega
        have qB2 : q < rs1.length := by omega
        have hkE : True := trivial
        have hgg : go ≠ g := fun e => HGG.out go rfl (by rw [e]; rfl)
        have hgo12 : go < b12 := by have := (hos.row.low go rfl).2; omega
        have HL12 : Hid (∀ b, RowOf (some ⟨go, 0, none⟩) b → b < b12) := fun b hb => by have := (hos.row.low b hb).2; omega
        have HR12 : Hid (∀ r, r ∈ rs → ∀ b, RowOf r.x b → b < b12) := fun r hr b hb => by have := ((hos.each r hr).low b hb).2; omega
        have hmkV := hmk.turn hwV (fun _ _ h => h)
        have hN2 : w.heap.size + 2 ≤ g := HG2.out
        have FIN : Hid (∀ W, Turns (fun b => b = b13 ∨ b = g) V W → V.heap.size < W.heap.size → W.heap[V.heap.size]? = some (.deferred (some [])) → OwnsS (w.heap.size + 2) W (some ⟨go, 0, none⟩) co (rs.set q ⟨some ⟨g, 0, none⟩, cq, doN dj (lenO er) l⟩) → CutRel (rs0.map (·.l)) os n k b10 (some ⟨go, 0, none⟩) co rs1 w w3 (j + 1) (V.heap.size :: D) (rs.set q ⟨some ⟨g, 0, none⟩, cq, doN dj (lenO er) l⟩) W) := by
          intro W ht hz hD ho2
          have nb : ∀ b, b ≠ b13 → b ≠ g → ¬ (b = b13 ∨ b = g) := fun b h1 h2 h => h.elim h1 h2
          have hdl' : ∀ d, d ∈ D → d < b12 := fun d hd => by have := hmk.lt hd; omega
          refine ⟨by omega, (hmkV.turn ht (fun d hd => nb d (by have := hdl' d hd; omega) (hgd d hd))).cons hD (fun hd => by have := hdl' _ hd; omega), fun d hd => ?_, ho2, ?_, ?_, ht.cell (p := ⟨b10, 0, none⟩) (nb b10 (by omega) (by omega)) roV, ht.frozen (p := ⟨b10, 0, none⟩) (nb b10 (by omega) (by omega)) (World.block_lt_of_cell? _ _ roV) (hwV.frozen (p := ⟨b10, 0, none⟩) (fun e => e) (World.block_lt_of_cell? _ _ ro) qo), ht.cell (p := ⟨w.heap.size + 1, 0, none⟩) (nb (w.heap.size + 1) (by omega) (by omega)) (hwV.cell (fun e => e) r1), ht.frozen (p := ⟨w.heap.size + 1, 0, none⟩) (nb (w.heap.size + 1) (by omega) (by omega)) (World.block_lt_of_cell? _ _ (hwV.cell (fun e => e) r1)) (hwV.frozen (p := ⟨w.heap.size + 1, 0, none⟩) (fun e => e) (World.block_lt_of_cell? _ _ r1) q1), (hB.trans (hwV.below hB.size (fun _ _ h => h))).trans (ht.below (by have := hB.size; have := hwV.size; omega) (fun i hi => nb i (by have := hB.size; omega) (by omega))), by have := hwV.size; omega⟩
          · rcases List.mem_cons.1 hd with rfl | hd
            · have := hwV.size; omega
            · exact hmd d hd
          · rw [List.map_set, HMX.out.symm]
            rw [← HSET.out, List.map_set]
            rw [List.set_set]
          · rw [map_set_l, HML2.out]
            rw [if_pos (by omega), runL_take _ _ _ (by omega), HOJ.out]; unfold doOp; rw [← HML2.out, getD_map_l]; show _ = _; rw [show ((q : Int)).toNat = q from Int.toNat_natCast q, HRQ.out]
        clear HBO HWB hZ z13 zf13 zt hbo hwb vt vsz zsz m0 m1 m2
        gi_wp2_with fail
        refine wpIn_rangeB (α := Nat × UInt8) (encs := (fun s : Nat × UInt8 => #[.agg #[.int .i64 (s.1 : Int), .int .u8 (s.2.toNat : Int)]])) (len := lenO er) (x := stepA dj) (stops := True) (T := fun _ => False) (gf := 107) (lb := #[.pointer (some ⟨bo, 0, none⟩)]) rfl (enters_of Tryz.func107 (by kernel_rfl) rfl) (fun b e => e.elim)
          (steps_in (5 - 1) (by omega) bo er xj dj cj V v1 v2 HXV.out.1 HXV.out.2 hdl) (fun _ => rfl) (BodyI rs q g cq l dj (lenO er) (w.heap.size + 2) b13 (some ⟨go, 0, none⟩) co V) (fun cc t S W => cc = .exit 2 ∧ ∃ t0, t = t0 + 1 ∧ t0 = lenO er ∧ BodyI rs q g cq l dj (lenO er) (w.heap.size + 2) b13 (some ⟨go, 0, none⟩) co V t0 S W) [b13, g] (fun b hb => ⟨by simp at hb; rcases hb with rfl | rfl <;> omega, fun e => e⟩)
          (fun t S A B h ht => h.turn ht (fun b hb => by rcases hb with h | h | h; exact h.elim; omega; omega) h13V hgV HLV.out HRV.out) (fun cc t S A B h ht => ⟨h.1, by obtain ⟨t0, e1, e2, h3⟩ := h.2; exact ⟨t0, e1, e2, h3.turn ht (fun b hb => by rcases hb with h | h | h; exact h.elim; omega; omega) h13V hgV HLV.out HRV.out⟩⟩) (.inl trivial)
          ⟨rfl, Nat.zero_le _, v13, vf13, by rw [show doN dj 0 l = l from rfl, HSET.out]; exact HOV.out, Turns.refl _ _⟩
          (fun s a' W => ∃ b14, V.heap.size + 1 < b14 ∧ W.cell? ⟨b14, 0, none⟩ = some (.int .i64 (s.1 : Int)) ∧ W.cell? ⟨b14, 1, none⟩ = some (.int .u8 (s.2.toNat : Int)) ∧ a' = ({ tmps := #[.agg #[.slice x rs0.length c], .slice (some ⟨b0, o0, none⟩) os.length cy, .int .i64 (n : Int), .int .i64 (k : Int), .pointer (some ⟨w.heap.size, 0, none⟩), undef, undef, undef, .pointer (some ⟨w.heap.size + 1, 0, none⟩), .int .i64 0, .pointer (some ⟨b10, 0, none⟩), .int .i64 (j : Int), .pointer (some ⟨b12, 0, none⟩), .pointer (some ⟨b13, 0, none⟩), .pointer (some ⟨b14, 0, none⟩), .agg #[.slice x rs0.length c], .agg #[.slice (some ⟨go, 0, none⟩) rs1.length co], .agg #[.slice x rs0.length c], .slice (some ⟨b0, o0, none⟩) os.length cy, .bool true, .bool false, .bool false, .int .i64 (n : Int), .bool false, .bool false, .bool false, .int .i64 (n : Int), .slice (some ⟨b0, o0, none⟩) os.length cy, .int .i64 (os.length : Int), .bool false, .bool false, .bool false, .int .i64 (k : Int), .bool false, .bool false, .bool false, .int .i64 (k : Int), .slice (some ⟨b0, o0, none⟩) os.length cy, .int .i64 (n : Int), .pointer (some ⟨b0, o0 + n * 3, none⟩), .agg #[.int .i64 on.blk, .bool on.er, .slice on.x on.d.length on.c], .int .i64 (lenO on.er : Int), .bool false, .bool false, undef, .slice (some ⟨b0, o0, none⟩) os.length cy, .int .i64 (n : Int), .int .i64 ((n : Int) + 1), .slice (some ⟨b0, o0, none⟩) (n + 1) cy, .int .i64 ((n : Int) + 1), .int .i64 (j : Int), .bool true, .int .i64 (j : Int), .pointer (some ⟨b0, o0 + j * 3, none⟩), .agg #[.int .i64 (q : Int), .bool er, .slice xj dj.length cj], .agg #[.int .i64 (q : Int), .bool er, .slice xj dj.length cj], .int .i64 (lenO er : Int), .int .i64 (j : Int), .int .i64 (n : Int), .bool false, u60, .agg #[.int .i64 (q : Int), .bool er, .slice xj dj.length cj], .func (.func 107) #[] #[.pointer (some ⟨bo, 0, none⟩)], .agg #[.int .i64 (s.1 : Int), .int .u8 (s.2.toNat : Int)], u64, u65, u66, u67, u68, u69, u70, u71, u72, u73, u74, u75, u76, u77, u78, u79, undef], defers := [] } : Act))
          (by rintro s a' A B ⟨b14, h1, h2, h3, h4⟩ ht; exact ⟨b14, h1, ht.cell (by simp; omega) h2, ht.cell (by simp; omega) h3, h4⟩) ?assign ?body ?done ?stop
        case assign =>
          intro s W K hzW hK
          gi_wp2_with fail
          exact hK _ _ ((Turns.refl _ _).alloc _) ⟨W.heap.size, hzW, cell_new W _ _ _ 0, cell_new W _ _ _ 1, rfl⟩
        case body =>
          rintro t S a' W htl hzW ⟨rfl, hkl, hc13, hf13, hos2, htV⟩ ⟨b14, h14, e0, e1, rfl⟩ hSb
          by_cases hlt2 : t < lenO er
          · obtain ⟨m, hm⟩ : ∃ m, (lenO er) - t = m := ⟨_, rfl⟩
            obtain ⟨p, hp⟩ : ∃ p, m = p + 1 := ⟨m - 1, by omega⟩
            have hp2 : (lenO er) - (t + 1) = p := by omega
            have hpb : p ≤ 200 := by have := lenO_le er; omega
            rw [hm] at hc13
            have z1 : ((m : Int) == 0) = false := by simp; omega
            have z2 : (m : Int) - 1 = (p : Int) := by omega
            obtain ⟨⟨ai, vi⟩, hst⟩ : ∃ s, stepA dj t = s := ⟨_, rfl⟩
            have hai : ai < 54 := by have := stepA_lt dj t (by have := lenO_le er; omega); rw [hst] at this; exact this
            have aB1 : (ai : Int) < 54 := by omega
            rw [hst] at e0 e1 ⊢
            dsimp only at e0 e1 ⊢
            have hq2 : q < (rs.set q ⟨some ⟨g, 0, none⟩, cq, doN dj t l⟩).length := by rw [List.length_set]; exact hql
            have hr2 : (rs.set q ⟨some ⟨g, 0, none⟩, cq, doN dj t l⟩).getD q rw0 = ⟨some ⟨g, 0, none⟩, cq, doN dj t l⟩ := by rw [getD_set _ _ _ _ _ hql, if_pos rfl]
            have hoB := hos2.each _ (getD_mem _ q rw0 hq2)
            rw [hr2] at hoB
            have xg := OwnsB.cell hoB ai (by rw [doN_len, HL54.out]; exact hai)
            have xf := OwnsB.free hoB ai
            have HDO : Hid (doN dj (t + 1) l = (doN dj t l).set ai vi) := by show _ = _; rw [doN, hst]
            have HP2 := Lib.hid hp2
            have HR2 := Lib.hid hr2
            have x10 := htV.cell (p := ⟨b10, 0, none⟩) (by simp; omega) roV
            have x12 := htV.cell (p := ⟨b12, 0, none⟩) (by simp; omega) m0V
            have xrow := htV.cell (p := ⟨go, q, none⟩) (by simp; omega) rowV
            have tW : Turns (fun b => b = b13) W (W.setCell ⟨b13, 0, none⟩ (.int .i64 (p : Int))) := (Turns.refl (fun b => b = b13) W).setCell (p := ⟨b13, 0, none⟩) (fun _ => rfl) _
            have hc2 : (W.setCell ⟨b13, 0, none⟩ (.int .i64 (p : Int))).cell? ⟨b13, 0, none⟩ = some (.int .i64 (p : Int)) := World.cell?_setCell_same' _ _ _ (by rw [hc13]; rfl)
            have hf2 : (W.setCell ⟨b13, 0, none⟩ (.int .i64 (p : Int))).frozen? ⟨b13, 0, none⟩ = false := by rw [World.frozen?_setCell]; exact hf13
            have HOS2 := Lib.hid hos2
            clear hst hm hp hp2 hr2 hoB hos2
            gi_wp2_with fail
            obtain ⟨W1, hW1⟩ : ∃ W1, W.setCell ⟨b13, 0, none⟩ (.int .i64 (p : Int)) = W1 := ⟨_, rfl⟩
            rw [hW1] at tW hc2 hf2 ⊢
            clear hW1
            have x10' := tW.cell (p := ⟨b10, 0, none⟩) (by simp; omega) x10
            have x12' := tW.cell (p := ⟨b12, 0, none⟩) (by simp; omega) x12
            have xrow' := tW.cell (p := ⟨go, q, none⟩) (by simp; omega) xrow
            have e0' := tW.cell (p := ⟨b14, 0, none⟩) (by simp; omega) e0
            have e1' := tW.cell (p := ⟨b14, 1, none⟩) (by simp; omega) e1
            have xg' := tW.cell (p := ⟨g, ai, none⟩) (by simp; omega) xg
            have xf' := tW.frozen (p := ⟨g, ai, none⟩) (by simp; omega) (World.block_lt_of_cell? _ _ xg) xf
            obtain ⟨old, hold⟩ : ∃ o, (doN dj t l).getD ai 0 = o := ⟨_, rfl⟩
            rw [hold] at xg'
            clear x10 x12 xrow e0 e1 xg xf hold hc13 hf13
            refine wpIn_tail 11 (fun X => X.cell? ⟨b10, 0, none⟩ = some (.slice (some ⟨go, 0, none⟩) rs1.length co) ∧ X.cell? ⟨b12, 0, none⟩ = some (.int .i64 (q : Int)) ∧ X.cell? ⟨go, q, none⟩ = some (.slice (some ⟨g, 0, none⟩) 54 cq) ∧ X.cell? ⟨b14, 0, none⟩ = some (.int .i64 (ai : Int)) ∧ X.cell? ⟨b14, 1, none⟩ = some (.int .u8 (vi.toNat : Int)) ∧ X.cell? ⟨g, ai, none⟩ = some (.int .u8 (old.toNat : Int)) ∧ X.frozen? ⟨g, ai, none⟩ = false ∧ Turns (fun _ => False) W1 X) (by kernel_rfl) (by kernel_rfl) (fun ⟨_, _, h⟩ => h) ⟨x10', x12', xrow', e0', e1', xg', xf', (Turns.refl _ _).drew⟩ ?_
            clear x10' x12' xrow' e0' e1' xg' xf'
            rintro X ⟨x10, x12, xrow, e0, e1, xg, xf, htX⟩
            simp only [List.take_succ_cons, List.take_zero, List.drop_succ_cons, List.drop_zero]
            repeat still_step
            refine wpStill_nil ?_
            go_wp2_with fail
            gi_wp2_with fail
            have tX : Turns (fun b => b = b13 ∨ b = g) W (X.setCell ⟨g, ai, none⟩ (.int .u8 (vi.toNat : Int))) := Turns.setCell (T := fun b => b = b13 ∨ b = g) (p := ⟨g, ai, none⟩) ((tW.mono (fun _ _ h => .inl h)).trans (htX.mono (fun _ _ h => h.elim))) (fun _ => .inr rfl) _
            have hsz : W.heap.size ≤ (X.setCell ⟨g, ai, none⟩ (.int .u8 (vi.toNat : Int))).heap.size := tX.size
            have ho1 := (HOS2.out.turn tW (fun b hb e => by have := HL12.out b hb; omega) (fun r hr b hb e => by
              rcases List.mem_or_eq_of_mem_set hr with h1 | h1
              · have := HR12.out r h1 b hb; omega
              · subst h1; have e2 : g = b := Option.some.inj hb; omega)).turn htX (fun _ _ h => h) (fun _ _ _ _ h => h)
            have ho2 := ho1.setB q g cq (doN dj t l) hq2 HR2.out ai vi
            rw [List.set_set, ← HDO.out] at ho2
            refine ⟨[b13, g], fun b hb => ⟨Nat.lt_of_lt_of_le (hSb b hb).1 hsz, .inl hb⟩, tX.mono (fun b _ hb => by simp; exact hb), rfl, hlt2, ?_, ?_, ho2, htV.trans tX⟩
            · rw [HP2.out, World.cell?_setCell_other _ _ _ _ (by simp <;> omega)]
              exact htX.cell (fun e => e) hc2
            · rw [World.frozen?_setCell]
              exact htX.frozen (p := ⟨b13, 0, none⟩) (fun e => e) (World.block_lt_of_cell? _ _ hc2) hf2
          · have ht0 : t = lenO er := by omega
            have hc0 := hc13
            rw [show (lenO er) - t = 0 by omega] at hc0
            gi_wp2_with fail
            exact ⟨[b13, g], fun b hb => ⟨(hSb b hb).1, .inl hb⟩, Turns.refl _ _, rfl, t, rfl, ht0, rfl, hkl, hc13, hf13, hos2, htV⟩
        case done =>
          rintro S W hzW ⟨rfl, hkl, hc13, hf13, hos2, htV⟩ hD
          have hLF : lenO er = lenO er := by omega
          rw [hLF] at hos2
          have HF := Lib.hid (FIN.out W htV hzW hD hos2)
          clear hc13 hf13 hos2 v13 vf13 v1 v2 m0V roV rowV
          gi_wp2_with fail
          exact ⟨CutInv.mk (j + 1) (V.heap.size :: D) (rs.set q ⟨some ⟨g, 0, none⟩, cq, doN dj (lenO er) l⟩) _ _ _ _ _ _ _ _ _ _ _ _ _ _ _ _ _ _ _ _ _ _ _ _ _ _ _ _ _ _ _ _ _ _ (by go_num) HF.out, by simp [intOf] <;> omega⟩
        case stop =>
          rintro cc t S W htl hzW ⟨rfl, t0, ht0, hLF, rfl, hkl, hc13, hf13, hos2, htV⟩ hD
          rw [hLF] at hos2
          have HF := Lib.hid (FIN.out W htV hzW hD hos2)
          clear hc13 hf13 hos2 v13 vf13 v1 v2 m0V roV rowV
          gi_wp2_with fail
          exact ⟨CutInv.mk (j + 1) (V.heap.size :: D) (rs.set q ⟨some ⟨g, 0, none⟩, cq, doN dj (lenO er) l⟩) _ _ _ _ _ _ _ _ _ _ _ _ _ _ _ _ _ _ _ _ _ _ _ _ _ _ _ _ _ _ _ _ _ _ (by go_num) HF.out, by simp [intOf] <;> omega⟩
    · have p5 : ¬ (j : Int) < (n : Int) + 1 := by omega
      have p6 : decide ((j : Int) < (n : Int) + 1) = false := decide_eq_false p5
      rw [if_neg (by omega)] at hml
      have HML2 := Lib.hid hml
      have HLRS := Lib.hid hlrs
      have HOSn := Lib.hid hos
      clear hml hlrs hl10 hos hmx
      gi_wp2_with fail
      have er : (wr.setCell ⟨w.heap.size + 1, 0, none⟩ (.slice xo rs1.length co)).cell? ⟨w.heap.size + 1, 0, none⟩ = some (.slice xo rs1.length co) := World.cell?_setCell_same' _ _ _ (by rw [r1]; rfl)
      have ts : Turns (fun b => b = w.heap.size + 1) wr (wr.setCell ⟨w.heap.size + 1, 0, none⟩ (.slice xo rs1.length co)) := (Turns.refl (fun b => b = w.heap.size + 1) wr).setCell (p := ⟨w.heap.size + 1, 0, none⟩) (fun _ => rfl) _
      have hzW : w.heap.size + 1 < wr.heap.size := World.block_lt_of_cell? _ _ r1
      refine ret_marks (.tuple #[.agg #[.slice xo rs1.length co], .int .i64 0]) (hmk.turn ts (fun d hd e => by have := hmd d hd; have := hB3.size; omega)) (fun W' ht => ?_)
      have er2 := ht.cell (fun hd => (hmk.turn ts (fun d hd e => by have := hmd d hd; omega)).not_cells hd er) er
      have t2 : Turns (fun b => b = w.heap.size + 1 ∨ b ∈ D) wr W' := (ts.mono (fun _ _ h => .inl h)).trans (ht.mono (fun _ _ h => .inr h))
      refine ⟨by simp [results, Tryz.f57, go_sem, er2], xo, co, rs, by rw [HLRS.out], ?_, HML2.out, hB.trans (t2.below hB.size (fun i hi e => by rcases e with e | e; omega; have := hmd i e; omega))⟩
      refine (HOSn.out.turn t2 (fun b hb e => ?_) (fun r hr b hb e => ?_)).weaken (by omega)
      · have := HOSn.out.row.low b hb
        rcases e with e | e
        · omega
        · obtain ⟨_, _, _, hh⟩ := ownsR_obj HOSn.out.row hb; rw [hmk.2 b e] at hh; cases hh
      · have := (HOSn.out.each r hr).low b hb
        rcases e with e | e
        · omega
        · obtain ⟨_, _, _, hh⟩ := ownsB_obj (HOSn.out.each r hr) hb; rw [hmk.2 b e] at hh; cases hh
end

section
open Go.RowKit

/-- The arguments that Cut takes. -/
def cutOk (ls : List (List UInt8)) (os : List OpV) (n k : Int) : Bool := vldO ls os && (decide (0 ≤ n) && (decide (n < (os.length : Int)) && (decide (0 ≤ k) && decide (k ≤ (lenO (os.getD n.toNat op0).er : Int)))))
/-- A store of the call's own, and an error. -/
def ErrOf (ls : List (List UInt8)) (code : Int) (w : World) (e : Ending) (w' : World) : Prop := ∃ x c rs, e = .returned (.tuple #[.agg #[.slice x rs.length c], .int .i64 code]) ∧ OwnsS w.heap.size w' x c rs ∧ rs.map (·.l) = ls ∧ Below w.heap.size w w'
set_option maxRecDepth 20000 in
set_option maxHeartbeats 4000000 in
theorem cut_no (x : Option Addr) (rs0 : List Rw) (c : Nat) (y : Option Addr) (os : List OpV) (cy : Nat) (n k : Int) (w : World) (hs : Rws w x rs0) (hn0 : rs0.length ≤ 1000) (hl0 : ∀ r, r ∈ rs0 → r.l.length ≤ 100000) (ho : Ops w y os) (hm : os.length ≤ 1000)
    (hbad : cutOk (rs0.map (·.l)) os n k = false) :
    Calls Tryz.prog 57 #[.agg #[.slice x rs0.length c], .slice y os.length cy, .int .i64 n, .int .i64 k] w (ErrOf (rs0.map (·.l)) 2 w) := by
  have hB := Below.refl w.heap.size w
  by_cases hv : vldO (rs0.map (·.l)) os = false
  · have HV : Hid (vldO (rs0.map (·.l)) os = false) := hv
    go_enter Tryz.func57, Tryz.ntmps57
    go_wp2_with fail
    refine (own_any x rs0 c _ (hs.later (al (al hB _) _)) hn0 hl0).mono ?_
    rintro e w1 ⟨xo, co, rs1, rfl, hos, hml, hb⟩
    have hB1 := thru (al (al hB _) _) hb
    have g0 := later (a := ⟨w.heap.size, 0, none⟩) (v := .slice x rs0.length c) hb (by go_simp)
    have g1 := later (a := ⟨w.heap.size + 1, 0, none⟩) (v := .slice none 0 0) hb (by go_simp)
    have f1 := (Below.frozen hb (p := ⟨w.heap.size + 1, 0, none⟩) (by simp)).trans (show _ = false by go_simp)
    have hz1 : w.heap.size + 1 < w1.heap.size := by have := hb.size; simp at this; omega
    have hz0 : w.heap.size < w1.heap.size := by omega
    rw [show ((w.alloc (.cells #[.slice x rs0.length c] 33)).alloc (.cells #[.slice none 0 0] 33)).heap.size = w.heap.size + 2 by simp] at hos
    have HOS := Lib.hid hos
    have HML := Lib.hid hml
    clear hb hos hml
    go_wp2_with fail
    refine (validops_any x rs0 c y os cy _ (hs.later (al hB1 _)) hn0 (ho.later (al hB1 _)) (by omega)).mono ?_
    rintro e w2 ⟨rfl, hb⟩
    rw [HV.out]
    have hB2 := thru (al hB1 _) hb
    have r1 := later_lt (a := ⟨w.heap.size + 1, 0, none⟩) (v := .slice none 0 0) hb (by simp <;> omega) (later (al (Below.refl _ _) _) g1)
    have q1 := (Below.frozen hb (p := ⟨w.heap.size + 1, 0, none⟩) (by simp <;> omega)).trans ((Below.frozen (al (Below.refl _ w1) _) (p := ⟨w.heap.size + 1, 0, none⟩) (by simp <;> omega)).trans f1)
    have ro := later (a := ⟨w1.heap.size, 0, none⟩) (v := .slice xo rs1.length co) hb (by go_simp)
    have hw2 : Turns (fun _ => False) w1 w2 := ((Turns.refl (fun _ => False) w1).alloc _).trans (Turns.of_below hb (Nat.le_refl _))
    have hzw : w.heap.size + 1 < w2.heap.size := World.block_lt_of_cell? _ _ r1
    clear hb g0 g1 f1
    go_wp2_with fail
    have ts : Turns (fun b => b = w.heap.size + 1) w2 (w2.setCell ⟨w.heap.size + 1, 0, none⟩ (.slice xo rs1.length co)) := (Turns.refl (fun b => b = w.heap.size + 1) w2).setCell (p := ⟨w.heap.size + 1, 0, none⟩) (fun _ => rfl) _
    have er : (w2.setCell ⟨w.heap.size + 1, 0, none⟩ (.slice xo rs1.length co)).cell? ⟨w.heap.size + 1, 0, none⟩ = some (.slice xo rs1.length co) := World.cell?_setCell_same' _ _ _ (by rw [r1]; rfl)
    refine bodyPost_ret (v := .tuple #[.agg #[.slice xo rs1.length co], .int .i64 2]) (by simp [results, Tryz.results57, go_sem, er]) rfl ⟨xo, co, rs1, rfl, ?_, HML.out, hB2.setCell (p := ⟨w.heap.size + 1, 0, none⟩) (by simp <;> omega) _⟩
    exact ((HOS.out.turn hw2 (fun _ _ h => h) (fun _ _ _ _ h => h)).turnB ts (fun b hb _ e => by omega)).weaken (by omega)
  · by_cases h1 : n < 0
    · have HV : Hid (vldO (rs0.map (·.l)) os = true) := by show _ = _; simpa using hv
      have a1 : decide (n < 0) = true := decide_eq_true (by omega)
      go_enter Tryz.func57, Tryz.ntmps57
      go_wp2_with fail
      refine (own_any x rs0 c _ (hs.later (al (al hB _) _)) hn0 hl0).mono ?_
      rintro e w1 ⟨xo, co, rs1, rfl, hos, hml, hb⟩
      have hB1 := thru (al (al hB _) _) hb
      have g0 := later (a := ⟨w.heap.size, 0, none⟩) (v := .slice x rs0.length c) hb (by go_simp)
      have g1 := later (a := ⟨w.heap.size + 1, 0, none⟩) (v := .slice none 0 0) hb (by go_simp)
      have f1 := (Below.frozen hb (p := ⟨w.heap.size + 1, 0, none⟩) (by simp)).trans (show _ = false by go_simp)
      have hz1 : w.heap.size + 1 < w1.heap.size := by have := hb.size; simp at this; omega
      have hz0 : w.heap.size < w1.heap.size := by omega
      rw [show ((w.alloc (.cells #[.slice x rs0.length c] 33)).alloc (.cells #[.slice none 0 0] 33)).heap.size = w.heap.size + 2 by simp] at hos
      have HOS := Lib.hid hos
      have HML := Lib.hid hml
      clear hb hos hml
      go_wp2_with fail
      refine (validops_any x rs0 c y os cy _ (hs.later (al hB1 _)) hn0 (ho.later (al hB1 _)) (by omega)).mono ?_
      rintro e w2 ⟨rfl, hb⟩
      rw [HV.out]
      have hB2 := thru (al hB1 _) hb
      have r1 := later_lt (a := ⟨w.heap.size + 1, 0, none⟩) (v := .slice none 0 0) hb (by simp <;> omega) (later (al (Below.refl _ _) _) g1)
      have q1 := (Below.frozen hb (p := ⟨w.heap.size + 1, 0, none⟩) (by simp <;> omega)).trans ((Below.frozen (al (Below.refl _ w1) _) (p := ⟨w.heap.size + 1, 0, none⟩) (by simp <;> omega)).trans f1)
      have ro := later (a := ⟨w1.heap.size, 0, none⟩) (v := .slice xo rs1.length co) hb (by go_simp)
      have hw2 : Turns (fun _ => False) w1 w2 := ((Turns.refl (fun _ => False) w1).alloc _).trans (Turns.of_below hb (Nat.le_refl _))
      have hzw : w.heap.size + 1 < w2.heap.size := World.block_lt_of_cell? _ _ r1
      clear hb g0 g1 f1
      go_wp2_with fail
      have ts : Turns (fun b => b = w.heap.size + 1) w2 (w2.setCell ⟨w.heap.size + 1, 0, none⟩ (.slice xo rs1.length co)) := (Turns.refl (fun b => b = w.heap.size + 1) w2).setCell (p := ⟨w.heap.size + 1, 0, none⟩) (fun _ => rfl) _
      have er : (w2.setCell ⟨w.heap.size + 1, 0, none⟩ (.slice xo rs1.length co)).cell? ⟨w.heap.size + 1, 0, none⟩ = some (.slice xo rs1.length co) := World.cell?_setCell_same' _ _ _ (by rw [r1]; rfl)
      refine bodyPost_ret (v := .tuple #[.agg #[.slice xo rs1.length co], .int .i64 2]) (by simp [results, Tryz.results57, go_sem, er]) rfl ⟨xo, co, rs1, rfl, ?_, HML.out, hB2.setCell (p := ⟨w.heap.size + 1, 0, none⟩) (by simp <;> omega) _⟩
      exact ((HOS.out.turn hw2 (fun _ _ h => h) (fun _ _ _ _ h => h)).turnB ts (fun b hb _ e => by omega)).weaken (by omega)
    · by_cases h2 : (os.length : Int) ≤ n
      · have HV : Hid (vldO (rs0.map (·.l)) os = true) := by show _ = _; simpa using hv
        have a1 : decide (n < 0) = false := decide_eq_false (by omega)
        have a2 : decide ((os.length : Int) ≤ n) = true := decide_eq_true (by omega)
        go_enter Tryz.func57, Tryz.ntmps57
        go_wp2_with fail
        refine (own_any x rs0 c _ (hs.later (al (al hB _) _)) hn0 hl0).mono ?_
        rintro e w1 ⟨xo, co, rs1, rfl, hos, hml, hb⟩
        have hB1 := thru (al (al hB _) _) hb
        have g0 := later (a := ⟨w.heap.size, 0, none⟩) (v := .slice x rs0.length c) hb (by go_simp)
        have g1 := later (a := ⟨w.heap.size + 1, 0, none⟩) (v := .slice none 0 0) hb (by go_simp)
        have f1 := (Below.frozen hb (p := ⟨w.heap.size + 1, 0, none⟩) (by simp)).trans (show _ = false by go_simp)
        have hz1 : w.heap.size + 1 < w1.heap.size := by have := hb.size; simp at this; omega
        have hz0 : w.heap.size < w1.heap.size := by omega
        rw [show ((w.alloc (.cells #[.slice x rs0.length c] 33)).alloc (.cells #[.slice none 0 0] 33)).heap.size = w.heap.size + 2 by simp] at hos
        have HOS := Lib.hid hos
        have HML := Lib.hid hml
        clear hb hos hml
        go_wp2_with fail
        refine (validops_any x rs0 c y os cy _ (hs.later (al hB1 _)) hn0 (ho.later (al hB1 _)) (by omega)).mono ?_
        rintro e w2 ⟨rfl, hb⟩
        rw [HV.out]
        have hB2 := thru (al hB1 _) hb
        have r1 := later_lt (a := ⟨w.heap.size + 1, 0, none⟩) (v := .slice none 0 0) hb (by simp <;> omega) (later (al (Below.refl _ _) _) g1)
        have q1 := (Below.frozen hb (p := ⟨w.heap.size + 1, 0, none⟩) (by simp <;> omega)).trans ((Below.frozen (al (Below.refl _ w1) _) (p := ⟨w.heap.size + 1, 0, none⟩) (by simp <;> omega)).trans f1)
        have ro := later (a := ⟨w1.heap.size, 0, none⟩) (v := .slice xo rs1.length co) hb (by go_simp)
        have hw2 : Turns (fun _ => False) w1 w2 := ((Turns.refl (fun _ => False) w1).alloc _).trans (Turns.of_below hb (Nat.le_refl _))
        have hzw : w.heap.size + 1 < w2.heap.size := World.block_lt_of_cell? _ _ r1
        clear hb g0 g1 f1
        go_wp2_with fail
        have ts : Turns (fun b => b = w.heap.size + 1) w2 (w2.setCell ⟨w.heap.size + 1, 0, none⟩ (.slice xo rs1.length co)) := (Turns.refl (fun b => b = w.heap.size + 1) w2).setCell (p := ⟨w.heap.size + 1, 0, none⟩) (fun _ => rfl) _
        have er : (w2.setCell ⟨w.heap.size + 1, 0, none⟩ (.slice xo rs1.length co)).cell? ⟨w.heap.size + 1, 0, none⟩ = some (.slice xo rs1.length co) := World.cell?_setCell_same' _ _ _ (by rw [r1]; rfl)
        refine bodyPost_ret (v := .tuple #[.agg #[.slice xo rs1.length co], .int .i64 2]) (by simp [results, Tryz.results57, go_sem, er]) rfl ⟨xo, co, rs1, rfl, ?_, HML.out, hB2.setCell (p := ⟨w.heap.size + 1, 0, none⟩) (by simp <;> omega) _⟩
        exact ((HOS.out.turn hw2 (fun _ _ h => h) (fun _ _ _ _ h => h)).turnB ts (fun b hb _ e => by omega)).weaken (by omega)
      · by_cases h3 : k < 0
        · have HV : Hid (vldO (rs0.map (·.l)) os = true) := by show _ = _; simpa using hv
          have a1 : decide (n < 0) = false := decide_eq_false (by omega)
          have a2 : decide ((os.length : Int) ≤ n) = false := decide_eq_false (by omega)
          have a3 : decide (k < 0) = true := decide_eq_true (by omega)
          go_enter Tryz.func57, Tryz.ntmps57
          go_wp2_with fail
          refine (own_any x rs0 c _ (hs.later (al (al hB _) _)) hn0 hl0).mono ?_
          rintro e w1 ⟨xo, co, rs1, rfl, hos, hml, hb⟩
          have hB1 := thru (al (al hB _) _) hb
          have g0 := later (a := ⟨w.heap.size, 0, none⟩) (v := .slice x rs0.length c) hb (by go_simp)
          have g1 := later (a := ⟨w.heap.size + 1, 0, none⟩) (v := .slice none 0 0) hb (by go_simp)
          have f1 := (Below.frozen hb (p := ⟨w.heap.size + 1, 0, none⟩) (by simp)).trans (show _ = false by go_simp)
          have hz1 : w.heap.size + 1 < w1.heap.size := by have := hb.size; simp at this; omega
          have hz0 : w.heap.size < w1.heap.size := by omega
          rw [show ((w.alloc (.cells #[.slice x rs0.length c] 33)).alloc (.cells #[.slice none 0 0] 33)).heap.size = w.heap.size + 2 by simp] at hos
          have HOS := Lib.hid hos
          have HML := Lib.hid hml
          clear hb hos hml
          go_wp2_with fail
          refine (validops_any x rs0 c y os cy _ (hs.later (al hB1 _)) hn0 (ho.later (al hB1 _)) (by omega)).mono ?_
          rintro e w2 ⟨rfl, hb⟩
          rw [HV.out]
          have hB2 := thru (al hB1 _) hb
          have r1 := later_lt (a := ⟨w.heap.size + 1, 0, none⟩) (v := .slice none 0 0) hb (by simp <;> omega) (later (al (Below.refl _ _) _) g1)
          have q1 := (Below.frozen hb (p := ⟨w.heap.size + 1, 0, none⟩) (by simp <;> omega)).trans ((Below.frozen (al (Below.refl _ w1) _) (p := ⟨w.heap.size + 1, 0, none⟩) (by simp <;> omega)).trans f1)
          have ro := later (a := ⟨w1.heap.size, 0, none⟩) (v := .slice xo rs1.length co) hb (by go_simp)
          have hw2 : Turns (fun _ => False) w1 w2 := ((Turns.refl (fun _ => False) w1).alloc _).trans (Turns.of_below hb (Nat.le_refl _))
          have hzw : w.heap.size + 1 < w2.heap.size := World.block_lt_of_cell? _ _ r1
          clear hb g0 g1 f1
          go_wp2_with fail
          have ts : Turns (fun b => b = w.heap.size + 1) w2 (w2.setCell ⟨w.heap.size + 1, 0, none⟩ (.slice xo rs1.length co)) := (Turns.refl (fun b => b = w.heap.size + 1) w2).setCell (p := ⟨w.heap.size + 1, 0, none⟩) (fun _ => rfl) _
          have er : (w2.setCell ⟨w.heap.size + 1, 0, none⟩ (.slice xo rs1.length co)).cell? ⟨w.heap.size + 1, 0, none⟩ = some (.slice xo rs1.length co) := World.cell?_setCell_same' _ _ _ (by rw [r1]; rfl)
          refine bodyPost_ret (v := .tuple #[.agg #[.slice xo rs1.length co], .int .i64 2]) (by simp [results, Tryz.results57, go_sem, er]) rfl ⟨xo, co, rs1, rfl, ?_, HML.out, hB2.setCell (p := ⟨w.heap.size + 1, 0, none⟩) (by simp <;> omega) _⟩
          exact ((HOS.out.turn hw2 (fun _ _ h => h) (fun _ _ _ _ h => h)).turnB ts (fun b hb _ e => by omega)).weaken (by omega)
        · have hk2 : (lenO (os.getD n.toNat op0).er : Int) < k := by
            rcases (show (lenO (os.getD n.toNat op0).er : Int) < k ∨ k ≤ (lenO (os.getD n.toNat op0).er : Int) by omega) with h | h
            · exact h
            · unfold cutOk at hbad
              rw [show vldO (rs0.map (·.l)) os = true by simpa using hv, decide_eq_true (show 0 ≤ n by omega), decide_eq_true (show n < (os.length : Int) by omega), decide_eq_true (show 0 ≤ k by omega), decide_eq_true (show k ≤ (lenO (os.getD n.toNat op0).er : Int) from h)] at hbad
              exact Bool.noConfusion hbad
          have HV : Hid (vldO (rs0.map (·.l)) os = true) := by show _ = _; simpa using hv
          have a1 : decide (n < 0) = false := decide_eq_false (by omega)
          have a2 : decide ((os.length : Int) ≤ n) = false := decide_eq_false (by omega)
          have a3 : decide (k < 0) = false := decide_eq_false (by omega)
          obtain ⟨m, rfl⟩ : ∃ m : Nat, n = (m : Int) := ⟨n.toNat, by omega⟩
          rw [Int.toNat_natCast] at hk2
          have a2n : decide (os.length ≤ m) = false := decide_eq_false (by omega)
          have hm2 : (m : Int) < (os.length : Int) := by omega
          obtain ⟨b0, o0, rfl, c0, c1, c2, -⟩ := ho.at m (by omega)
          obtain ⟨on, hon⟩ : ∃ o, os.getD m op0 = o := ⟨_, rfl⟩
          rw [hon] at c0 c1 c2 hk2
          have a4 : decide ((lenO on.er : Int) < k) = true := decide_eq_true (by omega)
          clear hon
          go_enter Tryz.func57, Tryz.ntmps57
          go_wp2_with fail
          refine (own_any x rs0 c _ (hs.later (al (al hB _) _)) hn0 hl0).mono ?_
          rintro e w1 ⟨xo, co, rs1, rfl, hos, hml, hb⟩
          have hB1 := thru (al (al hB _) _) hb
          have g0 := later (a := ⟨w.heap.size, 0, none⟩) (v := .slice x rs0.length c) hb (by go_simp)
          have g1 := later (a := ⟨w.heap.size + 1, 0, none⟩) (v := .slice none 0 0) hb (by go_simp)
          have f1 := (Below.frozen hb (p := ⟨w.heap.size + 1, 0, none⟩) (by simp)).trans (show _ = false by go_simp)
          have hz1 : w.heap.size + 1 < w1.heap.size := by have := hb.size; simp at this; omega
          have hz0 : w.heap.size < w1.heap.size := by omega
          rw [show ((w.alloc (.cells #[.slice x rs0.length c] 33)).alloc (.cells #[.slice none 0 0] 33)).heap.size = w.heap.size + 2 by simp] at hos
          have HOS := Lib.hid hos
          have HML := Lib.hid hml
          clear hb hos hml
          go_wp2_with fail
          refine (validops_any x rs0 c (some ⟨b0, o0, none⟩) os cy _ (hs.later (al hB1 _)) hn0 (ho.later (al hB1 _)) (by omega)).mono ?_
          rintro e w2 ⟨rfl, hb⟩
          rw [HV.out]
          have hB2 := thru (al hB1 _) hb
          have r1 := later_lt (a := ⟨w.heap.size + 1, 0, none⟩) (v := .slice none 0 0) hb (by simp <;> omega) (later (al (Below.refl _ _) _) g1)
          have q1 := (Below.frozen hb (p := ⟨w.heap.size + 1, 0, none⟩) (by simp <;> omega)).trans ((Below.frozen (al (Below.refl _ w1) _) (p := ⟨w.heap.size + 1, 0, none⟩) (by simp <;> omega)).trans f1)
          have ro := later (a := ⟨w1.heap.size, 0, none⟩) (v := .slice xo rs1.length co) hb (by go_simp)
          have hw2 : Turns (fun _ => False) w1 w2 := ((Turns.refl (fun _ => False) w1).alloc _).trans (Turns.of_below hb (Nat.le_refl _))
          have hzw : w.heap.size + 1 < w2.heap.size := World.block_lt_of_cell? _ _ r1
          clear hb g0 g1 f1
          have c0' := later hB2 c0
          have c1' := later hB2 c1
          have c2' := later hB2 c2
          go_wp2_with fail
          refine (len_any on _).mono ?_
          rintro e w3 ⟨rfl, hb⟩
          have hB3 := thru hB2 hb
          replace r1 := later hb r1
          replace q1 := (Below.frozen hb (p := ⟨w.heap.size + 1, 0, none⟩) (by simp <;> omega)).trans q1
          replace ro := later hb ro
          have hw3 : Turns (fun _ => False) w1 w3 := hw2.trans (Turns.of_below hb (Nat.le_refl _))
          have hzw3 : w.heap.size + 1 < w3.heap.size := World.block_lt_of_cell? _ _ r1
          clear hb
          go_wp2_with fail
          have ts : Turns (fun b => b = w.heap.size + 1) w3 (w3.setCell ⟨w.heap.size + 1, 0, none⟩ (.slice xo rs1.length co)) := (Turns.refl (fun b => b = w.heap.size + 1) w3).setCell (p := ⟨w.heap.size + 1, 0, none⟩) (fun _ => rfl) _
          have er : (w3.setCell ⟨w.heap.size + 1, 0, none⟩ (.slice xo rs1.length co)).cell? ⟨w.heap.size + 1, 0, none⟩ = some (.slice xo rs1.length co) := World.cell?_setCell_same' _ _ _ (by rw [r1]; rfl)
          refine bodyPost_ret (v := .tuple #[.agg #[.slice xo rs1.length co], .int .i64 2]) (by simp [results, Tryz.results57, go_sem, er]) rfl ⟨xo, co, rs1, rfl, ?_, HML.out, hB3.setCell (p := ⟨w.heap.size + 1, 0, none⟩) (by simp <;> omega) _⟩
          exact ((HOS.out.turn hw3 (fun _ _ h => h) (fun _ _ _ _ h => h)).turnB ts (fun b hb _ e => by omega)).weaken (by omega)
end

section
open Go.RowKit

/-- Cut, at all arguments. -/
theorem cut_any (x : Option Addr) (rs0 : List Rw) (c : Nat) (y : Option Addr) (os : List OpV) (cy : Nat) (n k : Int) (w : World) (hs : Rws w x rs0) (hn0 : rs0.length ≤ 1000) (hl0 : ∀ r, r ∈ rs0 → r.l.length ≤ 100000) (ho : Ops w y os) (hyn : y = none → cy = 0) (hm : os.length ≤ 1000) (hcy : os.length ≤ cy ∧ cy ≤ 9223372036854775807) :
    Calls Tryz.prog 57 #[.agg #[.slice x rs0.length c], .slice y os.length cy, .int .i64 n, .int .i64 k] w (ErrOf (if cutOk (rs0.map (·.l)) os n k = true then cutL (rs0.map (·.l)) os n.toNat k.toNat else rs0.map (·.l)) (if cutOk (rs0.map (·.l)) os n k = true then 0 else 2) w) := by
  by_cases h : cutOk (rs0.map (·.l)) os n k = true
  · rw [if_pos h, if_pos h]
    unfold cutOk at h
    simp only [Bool.and_eq_true, decide_eq_true_eq] at h
    obtain ⟨hv, h1, h2, h3, h4⟩ := h
    obtain ⟨m, rfl⟩ : ∃ m : Nat, n = (m : Int) := ⟨n.toNat, by omega⟩
    obtain ⟨j, rfl⟩ : ∃ j : Nat, k = (j : Int) := ⟨k.toNat, by omega⟩
    rw [Int.toNat_natCast] at h4
    rw [Int.toNat_natCast, Int.toNat_natCast]
    exact cut_yes x rs0 c y os cy m j w hs ho hyn hm hcy hv (by omega) (by omega)
  · rw [if_neg h, if_neg h]
    exact cut_no x rs0 c y os cy n k w hs hn0 hl0 ho hm (by simpa using h)
theorem cutL_last (ls : List (List UInt8)) (os : List OpV) (m : Nat) (h : os.length = m + 1) : cutL ls os m (lenO (os.getD m op0).er) = runL ls os := by
  have := runL_take ls os m (by omega)
  rw [List.take_of_length_le (by omega)] at this
  rw [this]; rfl
theorem cutOk_last (ls : List (List UInt8)) (os : List OpV) (m : Nat) (h : os.length = m + 1) (hv : vldO ls os = true) : cutOk ls os (m : Int) (lenO (os.getD m op0).er : Int) = true := by
  unfold cutOk
  rw [hv, Int.toNat_natCast, decide_eq_true (show (0 : Int) ≤ (m : Int) by omega), decide_eq_true (show (m : Int) < (os.length : Int) by omega), decide_eq_true (show (0 : Int) ≤ (lenO (os.getD m op0).er : Int) by omega), decide_eq_true (show (lenO (os.getD m op0).er : Int) ≤ (lenO (os.getD m op0).er : Int) by omega)]
  rfl
set_option maxRecDepth 20000 in
set_option maxHeartbeats 4000000 in
theorem run_any (x : Option Addr) (rs0 : List Rw) (c : Nat) (y : Option Addr) (os : List OpV) (cy : Nat) (w : World) (hs : Rws w x rs0) (hn0 : rs0.length ≤ 1000) (hl0 : ∀ r, r ∈ rs0 → r.l.length ≤ 100000) (ho : Ops w y os) (hyn : y = none → cy = 0) (hm : os.length ≤ 1000) (hcy : os.length ≤ cy ∧ cy ≤ 9223372036854775807) :
    Calls Tryz.prog 24 #[.agg #[.slice x rs0.length c], .slice y os.length cy] w (ErrOf (if vldO (rs0.map (·.l)) os = true then runL (rs0.map (·.l)) os else rs0.map (·.l)) (if vldO (rs0.map (·.l)) os = true then 0 else 2) w) := by
  have hB := Below.refl w.heap.size w
  by_cases hv : vldO (rs0.map (·.l)) os = true
  · rw [if_pos hv, if_pos hv]
    have HV : Hid (vldO (rs0.map (·.l)) os = true) := hv
    clear hv
    by_cases hz0 : os.length = 0
    · have d0 : ((os.length : Int) == 0) = true := by rw [beq_iff_eq]; omega
      have d0n : (os.length == 0) = true := by rw [beq_iff_eq]; exact hz0
      have HRL : Hid (runL (rs0.map (·.l)) os = rs0.map (·.l)) := by
        show _ = _
        rw [List.eq_nil_of_length_eq_zero hz0]; rfl
      rw [HRL.out]
      clear hz0
      go_enter Tryz.func24, Tryz.ntmps24
      go_wp2_with fail
      refine (validops_any x rs0 c y os cy _ (hs.later (al (al hB _) _)) hn0 (ho.later (al (al hB _) _)) (by omega)).mono ?_
      rintro e w1 ⟨rfl, hb⟩
      rw [HV.out]
      have hB1 := thru (al (al hB _) _) hb
      have g0 := later (a := ⟨w.heap.size, 0, none⟩) (v := .slice x rs0.length c) hb (by go_simp)
      have g1 := later (a := ⟨w.heap.size + 1, 0, none⟩) (v := .slice none 0 0) hb (by go_simp)
      have f1 := (Below.frozen hb (p := ⟨w.heap.size + 1, 0, none⟩) (by simp)).trans (show _ = false by go_simp)
      have hz1 : w.heap.size + 1 < w1.heap.size := by have := hb.size; simp at this; omega
      clear hb
      go_wp2_with fail
      refine (own_any x rs0 c _ (hs.later hB1) hn0 hl0).mono ?_
      rintro e w2 ⟨xo, co, rs1, rfl, hos, hml, hb⟩
      have HOS := Lib.hid hos
      have HML := Lib.hid hml
      have hB2 := thru hB1 hb
      replace g1 := later hb g1
      replace f1 := (Below.frozen hb (p := ⟨w.heap.size + 1, 0, none⟩) (by simp <;> omega)).trans f1
      have hz2 : w.heap.size + 1 < w2.heap.size := World.block_lt_of_cell? _ _ g1
      clear hb hos hml g0
      go_wp2_with fail
      have ts : Turns (fun b => b = w.heap.size + 1) w2 (w2.setCell ⟨w.heap.size + 1, 0, none⟩ (.slice xo rs1.length co)) := (Turns.refl (fun b => b = w.heap.size + 1) w2).setCell (p := ⟨w.heap.size + 1, 0, none⟩) (fun _ => rfl) _
      have er : (w2.setCell ⟨w.heap.size + 1, 0, none⟩ (.slice xo rs1.length co)).cell? ⟨w.heap.size + 1, 0, none⟩ = some (.slice xo rs1.length co) := World.cell?_setCell_same' _ _ _ (by rw [g1]; rfl)
      refine bodyPost_ret (v := .tuple #[.agg #[.slice xo rs1.length co], .int .i64 0]) (by simp [results, Tryz.results24, go_sem, er]) rfl ⟨xo, co, rs1, rfl, ?_, HML.out, hB2.setCell (p := ⟨w.heap.size + 1, 0, none⟩) (by simp <;> omega) _⟩
      exact (HOS.out.turnB ts (fun b hb _ e => by omega)).weaken (by omega)
    · obtain ⟨m, hmm⟩ : ∃ m, os.length = m + 1 := ⟨os.length - 1, by omega⟩
      have hm1 : (os.length : Int) - 1 = (m : Int) := by omega
      have d0 : ((os.length : Int) == 0) = false := by rw [beq_eq_false_iff_ne]; omega
      have d0n : (os.length == 0) = false := by rw [beq_eq_false_iff_ne]; omega
      have mB1 : (m : Int) < (os.length : Int) := by omega
      have mB2 : m < os.length := by omega
      have HMM := Lib.hid hmm
      have HCL := Lib.hid (cutL_last (rs0.map (·.l)) os m hmm)
      have HCO := Lib.hid (cutOk_last (rs0.map (·.l)) os m hmm HV.out)
      obtain ⟨b0, o0, rfl, c0, c1, c2, -⟩ := ho.at m mB2
      have hb0 : b0 < w.heap.size := World.block_lt_of_cell? _ _ c0
      obtain ⟨on, hon⟩ : ∃ o, os.getD m op0 = o := ⟨_, rfl⟩
      rw [hon] at c0 c1 c2 HCL HCO
      clear hmm hon hz0
      go_enter Tryz.func24, Tryz.ntmps24
      go_wp2_with fail
      refine (validops_any x rs0 c (some ⟨b0, o0, none⟩) os cy _ (hs.later (al (al hB _) _)) hn0 (ho.later (al (al hB _) _)) (by omega)).mono ?_
      rintro e w1 ⟨rfl, hb⟩
      rw [HV.out]
      have hB1 := thru (al (al hB _) _) hb
      have g0 := later (a := ⟨w.heap.size, 0, none⟩) (v := .slice x rs0.length c) hb (by go_simp)
      have g1 := later (a := ⟨w.heap.size + 1, 0, none⟩) (v := .slice none 0 0) hb (by go_simp)
      have f1 := (Below.frozen hb (p := ⟨w.heap.size + 1, 0, none⟩) (by simp)).trans (show _ = false by go_simp)
      have hz1 : w.heap.size + 1 < w1.heap.size := by have := hb.size; simp at this; omega
      clear hb
      replace c0 := later hB1 c0
      replace c1 := later hB1 c1
      replace c2 := later hB1 c2
      have hos1 := ho.later hB1
      have hss1 := hs.later hB1
      go_wp2_with fail
      refine wp_region_schedB (B := w.heap.size + 1) (fun X => X.cell? ⟨w.heap.size, 0, none⟩ = some (.slice x rs0.length c) ∧ X.cell? ⟨w.heap.size + 1, 0, none⟩ = some (.slice none 0 0) ∧ X.frozen? ⟨w.heap.size + 1, 0, none⟩ = false ∧ Turns (fun _ => False) w1 X) (.one [0, 1, 2, 3, 4, 5, 6] 7 (.one [] 8 (.one [9, 10] 11 (.done [12])))) (by kernel_rfl) (by kernel_rfl) (fun _ _ _ _ _ h => h) ⟨g0, g1, f1, (Turns.refl _ _).drew⟩ ?_
      clear g0 g1 f1
      rintro X ⟨g0, g1, f1, tX⟩
      have hBX : Below w.heap.size w X := hB1.trans (tX.below hB1.size (fun _ _ h => h))
      have hzX := tX.size
      have c0 := tX.cell (fun e => e) c0
      have c1 := tX.cell (fun e => e) c1
      have c2 := tX.cell (fun e => e) c2
      rw [wpSchedB]
      simp only [pick, List.map_cons, List.map_nil, Array.getD_eq_getD_getElem?, List.getElem?_toArray, List.getElem?_cons_succ, List.getElem?_cons_zero, Option.getD_some]
      have kg := plusB_cell (B := w.heap.size + 1) g0 (by simp)
      have k0 := plusB_cell (B := w.heap.size + 1) c0 (by simp; omega)
      have k1 := plusB_cell (B := w.heap.size + 1) c1 (by simp; omega)
      have k2 := plusB_cell (B := w.heap.size + 1) c2 (by simp; omega)
      repeat (first | go_big_quiet_step (fail) | quiet_step (fail))
      refine wpQuiet_nil ?_
      clear kg k0 k1 k2 g0 c0 c1 c2
      refine heavyB_want (by rfl) (fun K' hK' => ?_)
      go_simp
      refine (len_any on _).mono ?_
      rintro e X1 ⟨rfl, hb⟩
      refine hK' _ _ (hb.mono (by omega)) ?_
      clear hK' K'
      have t1 : Turns (fun _ => False) w1 X1 := tX.trans (Turns.of_below hb (Nat.le_refl _))
      replace g1 := later hb g1
      replace f1 := (Below.frozen hb (p := ⟨w.heap.size + 1, 0, none⟩) (by simp <;> omega)).trans f1
      have hs1 := hb.size
      clear hb
      try simp only [Act.put, List.setIfInBounds_toArray, List.set_cons_zero, List.set_cons_succ]
      rw [wpSchedB]
      simp only [pick, List.map_nil, Array.getD_eq_getD_getElem?, List.getElem?_toArray, List.getElem?_cons_succ, List.getElem?_cons_zero, Option.getD_some]
      refine wpQuiet_nil ?_
      refine heavyB_want (by rfl) (fun K' hK' => ?_)
      go_simp
      have hB3 : Below w.heap.size w X1 := hB1.trans (t1.below hB1.size (fun _ _ h => h))
      refine (cut_any x rs0 c (some ⟨b0, o0, none⟩) os cy (m : Int) (lenO on.er : Int) X1 (hs.later hB3) hn0 hl0 (ho.later hB3) hyn hm hcy).mono ?_
      rw [HCO.out, if_pos rfl, if_pos rfl, Int.toNat_natCast, Int.toNat_natCast, HCL.out]
      rintro e X2 ⟨xo, co, rs1, rfl, hos, hml, hb⟩
      refine hK' _ _ (hb.mono (by omega)) ?_
      clear hK' K'
      have HOS := Lib.hid hos
      have HML := Lib.hid hml
      have hB4 := thru hB3 hb
      replace g1 := later hb g1
      replace f1 := (Below.frozen hb (p := ⟨w.heap.size + 1, 0, none⟩) (by simp <;> omega)).trans f1
      have hs2 := hb.size
      clear hb hos hml
      try simp only [Act.put, List.setIfInBounds_toArray, List.set_cons_zero, List.set_cons_succ]
      rw [wpSchedB]
      simp only [pick, List.map_cons, List.map_nil, Array.getD_eq_getD_getElem?, List.getElem?_toArray, List.getElem?_cons_succ, List.getElem?_cons_zero, Option.getD_some]
      repeat (first | go_big_quiet_step (fail) | quiet_step (fail))
      refine wpQuiet_nil ?_
      refine heavyB_want (by rfl) (fun K' hK' => ?_)
      go_simp
      refine hK' _ _ ((Below.refl _ _).setCell (p := ⟨w.heap.size + 1, 0, none⟩) (Nat.le_refl _) _) ?_
      clear hK' K'
      have ts : Turns (fun b => b = w.heap.size + 1) X2 (X2.setCell ⟨w.heap.size + 1, 0, none⟩ (.slice xo rs1.length co)) := (Turns.refl (fun b => b = w.heap.size + 1) X2).setCell (p := ⟨w.heap.size + 1, 0, none⟩) (fun _ => rfl) _
      have er : (X2.setCell ⟨w.heap.size + 1, 0, none⟩ (.slice xo rs1.length co)).cell? ⟨w.heap.size + 1, 0, none⟩ = some (.slice xo rs1.length co) := World.cell?_setCell_same' _ _ _ (by rw [g1]; rfl)
      try simp only [Act.put, List.setIfInBounds_toArray, List.set_cons_zero, List.set_cons_succ]
      rw [wpSchedB]
      simp only [pick, List.map_cons, List.map_nil, Array.getD_eq_getD_getElem?, List.getElem?_toArray, List.getElem?_cons_succ, List.getElem?_cons_zero, Option.getD_some]
      repeat (first | go_big_quiet_step (fail) | quiet_step (fail))
      refine wpQuiet_nil ?_
      go_wp2_with fail
      refine bodyPost_ret (v := .tuple #[.agg #[.slice xo rs1.length co], .int .i64 0]) (by simp [results, Tryz.results24, go_sem, er]) rfl ⟨xo, co, rs1, rfl, ?_, HML.out, hB4.setCell (p := ⟨w.heap.size + 1, 0, none⟩) (by simp <;> omega) _⟩
      exact (HOS.out.turnB ts (fun b hb _ e => by omega)).weaken (by omega)
  · rw [if_neg hv, if_neg hv]
    have HV : Hid (vldO (rs0.map (·.l)) os = false) := by show _ = _; simpa using hv
    clear hv
    go_enter Tryz.func24, Tryz.ntmps24
    go_wp2_with fail
    refine (validops_any x rs0 c y os cy _ (hs.later (al (al hB _) _)) hn0 (ho.later (al (al hB _) _)) (by omega)).mono ?_
    rintro e w1 ⟨rfl, hb⟩
    rw [HV.out]
    have hB1 := thru (al (al hB _) _) hb
    have g0 := later (a := ⟨w.heap.size, 0, none⟩) (v := .slice x rs0.length c) hb (by go_simp)
    have g1 := later (a := ⟨w.heap.size + 1, 0, none⟩) (v := .slice none 0 0) hb (by go_simp)
    have f1 := (Below.frozen hb (p := ⟨w.heap.size + 1, 0, none⟩) (by simp)).trans (show _ = false by go_simp)
    have hz1 : w.heap.size + 1 < w1.heap.size := by have := hb.size; simp at this; omega
    clear hb
    go_wp2_with fail
    refine (own_any x rs0 c _ (hs.later hB1) hn0 hl0).mono ?_
    rintro e w2 ⟨xo, co, rs1, rfl, hos, hml, hb⟩
    have HOS := Lib.hid hos
    have HML := Lib.hid hml
    have hB2 := thru hB1 hb
    replace g1 := later hb g1
    replace f1 := (Below.frozen hb (p := ⟨w.heap.size + 1, 0, none⟩) (by simp <;> omega)).trans f1
    have hz2 : w.heap.size + 1 < w2.heap.size := World.block_lt_of_cell? _ _ g1
    clear hb hos hml g0
    go_wp2_with fail
    have ts : Turns (fun b => b = w.heap.size + 1) w2 (w2.setCell ⟨w.heap.size + 1, 0, none⟩ (.slice xo rs1.length co)) := (Turns.refl (fun b => b = w.heap.size + 1) w2).setCell (p := ⟨w.heap.size + 1, 0, none⟩) (fun _ => rfl) _
    have er : (w2.setCell ⟨w.heap.size + 1, 0, none⟩ (.slice xo rs1.length co)).cell? ⟨w.heap.size + 1, 0, none⟩ = some (.slice xo rs1.length co) := World.cell?_setCell_same' _ _ _ (by rw [g1]; rfl)
    refine bodyPost_ret (v := .tuple #[.agg #[.slice xo rs1.length co], .int .i64 2]) (by simp [results, Tryz.results24, go_sem, er]) rfl ⟨xo, co, rs1, rfl, ?_, HML.out, hB2.setCell (p := ⟨w.heap.size + 1, 0, none⟩) (by simp <;> omega) _⟩
    exact (HOS.out.turnB ts (fun b hb _ e => by omega)).weaken (by omega)
end

section
open Go.RowKit

theorem encL_at0 (d : List UInt8) : (encL d).getD 0 0 = UInt8.ofNat d.length := by
  unfold encL base49
  rw [List.getD_eq_getElem?_getD]; simp
theorem encL_at53 (d : List UInt8) (h : d.length ≤ 48) : (encL d).getD 53 0 = 0 := by
  have hl : (base49 d ++ Crc.trailer (Crc.sum (base49 d))).length = 53 := by rw [List.length_append, base49_len d h, Crc.trailer_length]
  unfold encL
  rw [List.getD_eq_getElem?_getD, List.getElem?_append_right (by omega), hl]
  rfl
theorem encL_ne (d : List UInt8) (h : d.length ≤ 48) : encL d ≠ erasedL := fun e => by
  have h1 := encL_at53 d h
  rw [e, erasedL_at 53 (by omega)] at h1
  exact absurd h1 (by decide)
theorem readD_encL (d : List UInt8) (h : d.length ≤ 48) : readD (encL d) = d := by
  unfold readD
  rw [encL_at0, UInt8.toNat_ofNat', Nat.mod_eq_of_lt (by omega)]
  unfold encL base49
  rw [List.cons_append, List.cons_append, List.drop_succ_cons, List.drop_zero, List.append_assoc, List.append_assoc]
  exact List.take_left
theorem readE_encL (d : List UInt8) (h : d.length ≤ 48) : readE (encL d) = 0 := by
  unfold readE
  rw [if_neg (encL_ne d h), encL_at53 d h, if_neg (by simp), encL_at0, UInt8.toNat_ofNat', Nat.mod_eq_of_lt (by omega), if_neg (by omega), readD_encL d h, if_pos rfl]
theorem readE_erased : readE erasedL = 6 := by unfold readE; rw [if_pos rfl]
theorem rdC_in (ls : List (List UInt8)) (j : Nat) (hv : vldS ls = true) (hj : j < ls.length) : rdC ls (j : Int) = readE (ls.getD j []) := by
  unfold rdC; rw [if_pos ⟨hv, by omega, by omega⟩, Int.toNat_natCast]
theorem rdM_in (ls : List (List UInt8)) (j : Nat) : rdM ls (j : Int) = if rdC ls (j : Int) = 0 then readD (ls.getD j []) else [] := by
  unfold rdM; rw [Int.toNat_natCast]
end

section
open Go.RowKit

theorem getD_setL (ls : List (List UInt8)) (i j : Nat) (v : List UInt8) (hi : i < ls.length) : (ls.set i v).getD j [] = if i = j then v else ls.getD j [] := getD_set ls i j v [] hi
theorem vldS_doOp (ls : List (List UInt8)) (o : OpV) (k : Nat) (h : vldS ls = true) : vldS (doOp ls o k) = true := by
  rw [vldS_iff] at h ⊢
  exact ⟨by rw [doOp_len]; exact h.1, h.2.doOp o k⟩
end

section
open Go.RowKit

/-- An owned row of operations. -/
def encO (o : OpV) : List Value := [.int .i64 o.blk, .bool o.er, .slice o.x o.d.length o.c]
theorem infoOp : (Tryz.prog.info? 60).map (fun i => (i.zero, i.size, i.bytes)) = some (some (.agg #[.int .i64 0, .bool false, .slice none 0 0]), 3, 40) := by kernel_rfl
def OwnsO (B : Nat) (w : World) (x : Option Addr) (cap : Nat) (os : List OpV) : Prop := w.ownsRow B 60 3 (.slice x os.length cap) os.length (os.flatMap encO)
end

section
open Go.RowKit

/-- The block b holds these operations from place o on. -/
def CellsO (w : World) (b o : Nat) (os : List OpV) : Prop := ∀ i, i < os.length → w.cell? ⟨b, o + i * 3, none⟩ = some (.int .i64 (os.getD i op0).blk) ∧ w.cell? ⟨b, o + i * 3 + 1, none⟩ = some (.bool (os.getD i op0).er) ∧ w.cell? ⟨b, o + i * 3 + 2, none⟩ = some (.slice (os.getD i op0).x (os.getD i op0).d.length (os.getD i op0).c)
theorem CellsO.ops {w : World} {b o : Nat} {os : List OpV} (h : CellsO w b o os) (hk : ∀ q, q ∈ os → OpOk w q) : Ops w (some ⟨b, o, none⟩) os := ⟨.inr ⟨b, o, rfl, h⟩, hk⟩
theorem ops_cells {w : World} {b : Nat} : ∀ (os : List OpV) (o : Nat), CellsO w b o os → ∀ j u, (os.flatMap encO)[j]? = some u → w.cell? ⟨b, o + j, none⟩ = some u
  | [], _, _, j, u, hj => by simp at hj
  | a :: t, o, h, j, u, hj => by
    have h0 := h 0 (by simp)
    rw [List.flatMap_cons] at hj
    by_cases h3 : j < 3
    · rw [List.getElem?_append_left (by simpa [encO] using h3)] at hj
      rcases (by omega : j = 0 ∨ j = 1 ∨ j = 2) with rfl | rfl | rfl
      · simp [encO] at hj; subst hj; simpa using h0.1
      · simp [encO] at hj; subst hj; simpa using h0.2.1
      · simp [encO] at hj; subst hj; simpa using h0.2.2
    · have hl3 : (encO a).length = 3 := rfl
      rw [List.getElem?_append_right (by omega), hl3] at hj
      have := ops_cells t (o + 3) (fun i hi => by
        have := h (i + 1) (by simpa using hi)
        rw [show o + (i + 1) * 3 = o + 3 + i * 3 by omega] at this
        exact this) (j - 3) u hj
      rwa [show o + 3 + (j - 3) = o + j by omega] at this
theorem flat_get : ∀ (os : List OpV) (i : Nat), i < os.length → (os.flatMap encO)[i * 3]? = some (.int .i64 (os.getD i op0).blk) ∧ (os.flatMap encO)[i * 3 + 1]? = some (.bool (os.getD i op0).er) ∧ (os.flatMap encO)[i * 3 + 2]? = some (.slice (os.getD i op0).x (os.getD i op0).d.length (os.getD i op0).c)
  | [], i, h => by simp at h
  | a :: t, 0, _ => by rw [List.flatMap_cons]; exact ⟨rfl, rfl, rfl⟩
  | a :: t, i + 1, h => by
    have ih := flat_get t i (by simpa using h)
    have hl3 : (encO a).length = 3 := rfl
    rw [List.flatMap_cons]
    rw [List.getElem?_append_right (by omega), List.getElem?_append_right (by omega), List.getElem?_append_right (by omega), hl3, show (i + 1) * 3 - 3 = i * 3 by omega, show (i + 1) * 3 + 1 - 3 = i * 3 + 1 by omega, show (i + 1) * 3 + 2 - 3 = i * 3 + 2 by omega]
    exact ih
theorem flat_len (os : List OpV) : (os.flatMap encO).length = os.length * 3 := by
  induction os with
  | nil => rfl
  | cons a t ih => rw [List.flatMap_cons, List.length_append, ih]; show 3 + _ = _; rw [List.length_cons]; omega
theorem flat_one (os : List OpV) : ∀ u ∈ os.flatMap encO, u.oneCell' = true := by
  intro u hu
  obtain ⟨o, _, h⟩ := List.mem_flatMap.1 hu
  simp only [encO, List.mem_cons, List.not_mem_nil, or_false] at h
  rcases h with rfl | rfl | rfl <;> rfl
theorem OwnsO.cellsO {B : Nat} {w : World} {g cap : Nat} {os : List OpV} (h : OwnsO B w (some ⟨g, 0, none⟩) cap os) : CellsO w g 0 os := fun i hi => by
  have hf := flat_get os i hi
  have hplain : ∀ j, (⟨g, 0, none⟩ : Addr).add j = ⟨g, 0 + j, none⟩ := fun j => by unfold Addr.add; split <;> simp_all
  refine ⟨?_, ?_, ?_⟩
  · rw [← hplain]; exact World.ownsRow.cells h (g := g) rfl _ _ hf.1
  · rw [Nat.add_assoc, ← hplain]; exact World.ownsRow.cells h (g := g) rfl _ _ hf.2.1
  · rw [Nat.add_assoc, ← hplain]; exact World.ownsRow.cells h (g := g) rfl _ _ hf.2.2
theorem OwnsO.some_of {B : Nat} {w : World} {x : Option Addr} {cap : Nat} {l : List OpV} (h : OwnsO B w x cap l) (h0 : 0 < l.length) : ∃ g, x = some ⟨g, 0, none⟩ ∧ B ≤ g ∧ g < w.heap.size := by
  rcases h.2 with ⟨_, hv⟩ | ⟨g, cap', cur, hv, hB, hg, _⟩
  · omega
  · simp only [Value.slice.injEq] at hv; exact ⟨g, hv.1, hB, (Array.getElem?_eq_some_iff.1 hg).1⟩
theorem OwnsO.turn {B : Nat} {w w' : World} {x : Option Addr} {cap : Nat} {l : List OpV} {T : Nat → Prop} (h : OwnsO B w x cap l) (ht : Turns T w w') (hT : ∀ b, RowOf x b → ¬ T b) : OwnsO B w' x cap l := by
  refine ⟨h.1, ?_⟩
  rcases h.2 with h0 | ⟨g, cap', cur, hv, hlo, hg, hr⟩
  · exact .inl h0
  · refine .inr ⟨g, cap', cur, hv, hlo, ?_, hr⟩
    simp only [Value.slice.injEq] at hv
    exact (ht.block g (Array.getElem?_eq_some_iff.1 hg).1 (hT g (by rw [hv.1]; rfl))).trans hg
theorem OwnsO.le_cap {B : Nat} {w : World} {x : Option Addr} {cap : Nat} {l : List OpV} (h : OwnsO B w x cap l) : l.length ≤ cap ∧ cap ≤ 9223372036854775807 := by
  rcases h.2 with ⟨hv, h0⟩ | ⟨g, cap', cur, hv, _, _, h1, h2, _⟩
  · simp only [Value.slice.injEq] at hv
    omega
  · simp only [Value.slice.injEq] at hv
    unfold maxLen at h2
    omega
section
variable {w : World} {o : Oper} {a : Act} {Q : Exit → Act → World → Prop}
end
end

end Go.Proofs.YtapefonhgkjgnaaGreat
