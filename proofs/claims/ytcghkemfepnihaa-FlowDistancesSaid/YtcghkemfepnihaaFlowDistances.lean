/- FlowDistances returns true whatever n, edges and start it is handed: how many edges each node is away, as flow.Distances tells it, is what the reference tells, or both refuse with the same error. No condition beyond the row's own. -/
import Derived.Test.YtcghkemfepnihaaRows
import Derived.Test.YtcghkemfepnihaaLawDist
import Derived.Test.YtcghkemfepnihaaOpen
namespace Go.Proofs.Ytcghkemfepnihaa
open Go.ChangeShapes Go.WideShapes Go.ChangeAt Go.RowKit

theorem flowDistances_own : ownKnob Try.prog.godebug = none := by kernel_rfl
theorem flowDistances_laid : laidOutB Try.prog = true := by kernel_rfl
set_option maxRecDepth 100000 in
set_option maxHeartbeats 1000000 in
theorem flowDistances_lifted (os : Os) (started : os.Started) (H : Type) (enc : TypeId × Value → H) :
    ReturnsInHanded {} Try.checked os 6 .any (Rows.flowDistancesSpec.pre6 enc Try.prog Try.f6 Rows.flowDistancesRow.domain false) (Rows.flowDistancesSpec.post enc Try.prog Try.f6 false true false false) := by
  refine returnsInHanded_of_change_sized (C := Try.checked) flowDistances_own started (by kernel_rfl) Try.func6
    (ChangeSpec.witness6 (enc := enc) (C := Try.checked) false ⟨#[], #[.int .i64 0, .slice none 0 0, .int .i64 0], []⟩ 8 (by kernel_rfl) (by kernel_rfl) (by kernel_rfl) (by kernel_rfl)) ?_
  intro W base args ds gs before hval0 hW hcnd hsz0 _
  have hsz : (DataW.weightsEach Try.prog (Try.f6.params.toList ++ Rows.flowDistancesSpec.plain.varTypes Try.prog) (ds ++ gs)).all (· ≤ reachBytes) = true := hsz0
  have hval : ∀ (j : Nat) t v, Try.f6.params[j]? = some t → args[j]? = some v → Value.okWide Try.prog W .any base t v := hval0
  have hW' := hW
  obtain ⟨p, q, hA0, hV, rfl, hfz, hnd⟩ := hW
  have hA : DataW.TrodAll enc Try.prog W 0 (fun _ => true) true Try.f6.params.toList args.toList ds p := hA0
  rw [Try.params6] at hA hval hsz
  obtain ⟨v0, vs0, d0, ds0, p0, q0, hargs, rfl, rfl, h0, r0⟩ := trodAll_cons hA
  obtain ⟨v1, vs1, d1, ds1, p1, q1, rfl, rfl, rfl, h1, r1⟩ := trodAll_cons r0
  obtain ⟨v2, vs2, d2, ds2, p2, q2, rfl, rfl, rfl, h2, r2⟩ := trodAll_cons r1
  obtain ⟨rfl, rfl, rfl⟩ := trodAll_nil r2
  obtain rfl : args = #[v0, v1, v2] := by cases args; simp_all
  obtain ⟨rfl, rfl⟩ := trodVars_none hV
  obtain ⟨a0, rfl, rfl, rfl, w0⟩ := open_int Try.underlying3 (hval 0 3 v0 rfl rfl) h0
  obtain ⟨A1, len1, cap1, rfl⟩ := okWide_slice Try.underlying24 (hval 1 24 v1 rfl rfl)
  have k1 := h1
  have lt1 : ∀ x ∈ p1, x.block < W.heap.size := by obtain ⟨m, hm⟩ := k1; exact DataW.trod_lt m _ _ _ hm
  obtain ⟨x1, e1, rd1, wf1, nn1⟩ := open_pairs_rd Try.underlying24 Try.underlying47 Try.underlying3 (by kernel_rfl) (by kernel_rfl) h1
  have sz1 : len1 * 16 ≤ 140737488351232 := by
    rcases nn1 with h | ⟨el, sp, hd, hl⟩
    · omega
    · have hb : Try.prog.bytesOf 47 = 16 := by kernel_rfl
      have := sized_slice hsz (j := 1) (t := 24) (e := 47) rfl (by rw [hd]; rfl) Try.underlying24
      rw [hb, hl] at this
      have h2 : reachBytes = 140737488351232 := by decide
      rw [h2] at this
      omega
  subst e1
  obtain ⟨a2, rfl, rfl, rfl, w2⟩ := open_int Try.underlying3 (hval 2 3 v2 rfl rfl) h2
  clear hA0 hval0 hsz0
  refine (flowDistances_walk W a0 _ a2 x1 rd1).mono fun e W' ⟨he, bel⟩ => ?_
  subst he
  exact ⟨_, rfl, _, _, _, [], _, [], hW', trodAll_mk1 (shut_bool Try.underlying4 _), (trodAll_cons_mk (shut_int Try.underlying3 w0) (trodAll_cons_mk (Below.trod flowDistances_laid (by kernel_rfl) (of_decide_eq_true (by kernel_rfl)) k1 bel lt1) (trodAll_cons_mk (shut_int Try.underlying3 w2) trodAll_mk0))), rfl, bel.frame _, fun h => by cases h⟩

theorem flowDistances_over : Rows.flowDistancesRow.holds Try.pinned (OpenSpec.ofChange Rows.flowDistancesSpec) :=
  OpenClaim.holds_of_wide 6 Try.f6 rfl rfl rfl rfl rfl rfl rfl ⟨rfl, rfl, rfl, rfl, rfl⟩ rfl rfl rfl rfl rfl (by kernel_rfl) Try.func6 (by kernel_rfl)
    (of_decide_eq_true (by kernel_rfl)) (by unfold Func.isWrapper; first | (rw [if_pos (by decide +kernel)]; kernel_rfl) | (rw [if_neg (by decide +kernel)]; exact ⟨rfl, rfl⟩))
    (fun os started H enc _ => flowDistances_lifted os started H enc)

theorem flowDistances_holds : Rows.FlowDistancesSaid := flowDistances_over
end Go.Proofs.Ytcghkemfepnihaa
