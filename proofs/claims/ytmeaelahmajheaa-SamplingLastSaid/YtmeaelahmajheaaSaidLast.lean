/- THE STATEMENT SamplingLast. -/
import Derived.Test.YtmeaelahmajheaaRows
import Derived.Test.YtmeaelahmajheaaLift
import Derived.Test.YtmeaelahmajheaaWalksL
import Derived.WalkKit
import Derived.ProofKit
import Derived.OpenShut
import Derived.ShutString
import Derived.ChangeOld
import Derived.Below
namespace Go.Proofs.Ytmeaelahmajheaa.SamplingLastDone
open Go.ChangeShapes Go.WideShapes Go.ChangeAt Go.RowKit
open Go.ChangeMaps (open_string shut_string)

theorem own : ownKnob Try.prog.godebug = none := by kernel_rfl
theorem laidOut : laidOutB Try.prog = true := by kernel_rfl

set_option maxRecDepth 100000 in
theorem lifted (os : Os) (started : os.Started) (H : Type) (enc : TypeId × Value → H) :
    ReturnsInHanded {} Try.checked os 4 .any (Rows.samplingLastSpec.pre6 enc Try.prog Try.f4 Rows.samplingLastRow.domain false) (Rows.samplingLastSpec.post enc Try.prog Try.f4 false true false false) := by
  refine returnsInHanded_of_change (C := Try.checked) own started (by kernel_rfl) Try.func4
    (ChangeSpec.witness6 (enc := enc) (C := Try.checked) false ⟨#[], #[.agg #[.string ⟨#[]⟩, .int .u8 0, .bool false, .int .i64 0, .int .i64 0, .int .i64 0], .slice none 0 0], []⟩ 8 (by kernel_rfl) (by kernel_rfl) (by kernel_rfl) (by kernel_rfl)) ?_
  intro W base args ds gs before hval0 hW hcnd _
  have hval : ∀ (j : Nat) t v, Try.f4.params[j]? = some t → args[j]? = some v → Value.okWide Try.prog W .any base t v := hval0
  have hW' := hW
  obtain ⟨p, q, hA0, hV, rfl, hfz, hnd⟩ := hW
  have hA : DataW.TrodAll enc Try.prog W 0 (fun _ => true) true Try.f4.params.toList args.toList ds p := hA0
  rw [Try.params4] at hA hval
  obtain ⟨v0, vs0, d0, ds0, p0, q0, hargs, rfl, rfl, k0, r0⟩ := trodAll_cons hA
  obtain ⟨v1, vs1, d1, ds1, p1, q1, rfl, rfl, rfl, k1, r1⟩ := trodAll_cons r0
  obtain ⟨rfl, rfl, rfl⟩ := trodAll_nil r1
  obtain rfl : args = #[v0, v1] := by cases args; simp_all
  obtain ⟨rfl, rfl⟩ := trodVars_none hV
  have lt0 : ∀ x ∈ p0, x.block < W.heap.size := by obtain ⟨m, hm⟩ := k0; exact DataW.trod_lt m _ _ _ hm
  obtain ⟨u0_0, u0_1, u0_2, u0_3, u0_4, u0_5, _, _, _, _, _, _, _, rfl, t0_0, t0_1, t0_2, t0_3, t0_4, t0_5⟩ := agg6 Try.underlying23 (by kernel_rfl) (by kernel_rfl) (hval 0 _ v0 rfl rfl) k0
  obtain ⟨n0_0, rfl, w0_0⟩ := f_string (by kernel_rfl) t0_0
  obtain ⟨n0_1, rfl, w0_1⟩ := f_int (k := .u8) (by kernel_rfl) t0_1
  have b0_1 := of_wf_u8 w0_1
  obtain ⟨n0_2, rfl⟩ := f_bool (by kernel_rfl) t0_2
  obtain ⟨n0_3, rfl, w0_3⟩ := f_int (k := .i64) (by kernel_rfl) t0_3
  have b0_3 := of_wf_i64 w0_3
  obtain ⟨n0_4, rfl, w0_4⟩ := f_int (k := .i64) (by kernel_rfl) t0_4
  have b0_4 := of_wf_i64 w0_4
  obtain ⟨n0_5, rfl, w0_5⟩ := f_int (k := .i64) (by kernel_rfl) t0_5
  have b0_5 := of_wf_i64 w0_5
  have lt1 : ∀ x ∈ p1, x.block < W.heap.size := by obtain ⟨m, hm⟩ := k1; exact DataW.trod_lt m _ _ _ hm
  obtain ⟨x1, n1, c1, rfl, z1, m1, s1⟩ := v_structs (e := 45) (by kernel_rfl) Try.underlying45 (by kernel_rfl) (by kernel_rfl) (by decide) (hval 1 _ v1 rfl rfl) k1
  have a1 : Acts W x1 n1 := s1.imp id fun ⟨b, o, hx, hc⟩ => ⟨b, o, hx, fun j hj => by
    obtain ⟨u0, y0, m0, c0, t0⟩ := hc j hj 0 _ rfl
    obtain ⟨u1, y1, m1, c1, t1⟩ := hc j hj 1 _ rfl
    obtain ⟨k0, rfl, w0⟩ := f_int (k := .u16) (by kernel_rfl) t0
    have b0 := of_wf_u16 w0
    obtain ⟨x1, l1, cc1, rfl, y, _, _⟩ := f_bytes (e := 5) (by kernel_rfl) Try.underlying5 (by kernel_rfl) t1
    exact ⟨k0, x1, l1, cc1, b0.1, b0.2, c0, c1, y⟩⟩
  clear hA0 hval0
  refine (last_any n0_0 n0_1 n0_2 n0_3 n0_4 n0_5 x1 n1 c1 W z1 a1).mono fun e W' ⟨he, bel⟩ => ?_
  subst he
  exact ⟨_, rfl, _, _, _, [], _, [], hW', trodAll_mk1 (shut_bool (by kernel_rfl) _), (trodAll_cons_mk (Below.trod laidOut (by kernel_rfl) (of_decide_eq_true (by kernel_rfl)) k0 bel lt0) (trodAll_cons_mk (Below.trod laidOut (by kernel_rfl) (of_decide_eq_true (by kernel_rfl)) k1 bel lt1) trodAll_mk0)), rfl, bel.frame _, fun h => by cases h⟩

theorem over : Rows.samplingLastRow.holds Try.pinned (OpenSpec.ofChange Rows.samplingLastSpec) :=
  OpenClaim.holds_of_wide 4 Try.f4 rfl rfl rfl rfl rfl rfl rfl ⟨rfl, rfl, rfl, rfl, rfl⟩ rfl rfl rfl rfl rfl (by kernel_rfl) Try.func4 (by kernel_rfl)
    (of_decide_eq_true (by kernel_rfl)) (by unfold Func.isWrapper; first | (rw [if_pos (by decide +kernel)]; kernel_rfl) | (rw [if_neg (by decide +kernel)]; exact ⟨rfl, rfl⟩))
    (fun os started H enc _ => lifted os started H enc)

/-- THE STATEMENT -/
theorem proved : Rows.SamplingLastSaid := over

end Go.Proofs.Ytmeaelahmajheaa.SamplingLastDone
