/- FlowSets returns true whatever n, edges and seeds it is handed: what each node has, by seeds and edges, as flow.Sets tells it, is what the reference tells, or both refuse with the same error. No condition beyond the row's own. -/
import Derived.Test.YtcghkemfepnihaaRows
import Derived.Test.YtcghkemfepnihaaLawSets
import Derived.Test.YtcghkemfepnihaaOpen
namespace Go.Proofs.Ytcghkemfepnihaa
open Go.ChangeShapes Go.WideShapes Go.ChangeAt Go.RowKit

theorem flowSets_own : ownKnob Try.prog.godebug = none := by kernel_rfl
theorem flowSets_laid : laidOutB Try.prog = true := by kernel_rfl
set_option maxRecDepth 100000 in
set_option maxHeartbeats 1000000 in
theorem flowSets_lifted (os : Os) (started : os.Started) (H : Type) (enc : TypeId × Value → H) :
    ReturnsInHanded {} Try.checked os 7 .any (Rows.flowSetsSpec.pre6 enc Try.prog Try.f7 Rows.flowSetsRow.domain false) (Rows.flowSetsSpec.post enc Try.prog Try.f7 false true false false) := by
  refine returnsInHanded_of_change_sized (C := Try.checked) flowSets_own started (by kernel_rfl) Try.func7
    (ChangeSpec.witness6 (enc := enc) (C := Try.checked) false ⟨#[], #[.int .i64 0, .slice none 0 0, .slice none 0 0], []⟩ 8 (by kernel_rfl) (by kernel_rfl) (by kernel_rfl) (by kernel_rfl)) ?_
  intro W base args ds gs before hval0 hW hcnd hsz0 _
  have hsz : (DataW.weightsEach Try.prog (Try.f7.params.toList ++ Rows.flowSetsSpec.plain.varTypes Try.prog) (ds ++ gs)).all (· ≤ reachBytes) = true := hsz0
  have hval : ∀ (j : Nat) t v, Try.f7.params[j]? = some t → args[j]? = some v → Value.okWide Try.prog W .any base t v := hval0
  have hW' := hW
  obtain ⟨p, q, hA0, hV, rfl, hfz, hnd⟩ := hW
  have hA : DataW.TrodAll enc Try.prog W 0 (fun _ => true) true Try.f7.params.toList args.toList ds p := hA0
  rw [Try.params7] at hA hval hsz
  obtain ⟨v0, vs0, d0, ds0, p0, q0, hargs, rfl, rfl, h0, r0⟩ := trodAll_cons hA
  obtain ⟨v1, vs1, d1, ds1, p1, q1, rfl, rfl, rfl, h1, r1⟩ := trodAll_cons r0
  obtain ⟨v2, vs2, d2, ds2, p2, q2, rfl, rfl, rfl, h2, r2⟩ := trodAll_cons r1
  obtain ⟨rfl, rfl, rfl⟩ := trodAll_nil r2
  obtain rfl : args = #[v0, v1, v2] := by cases args; simp_all
  obtain ⟨rfl, rfl⟩ := trodVars_none hV
  obtain ⟨a0, rfl, rfl, rfl, w0⟩ := open_int Try.underlying3 (hval 0 3 v0 rfl rfl) h0
  obtain ⟨A1, len1, cap1, rfl⟩ := okWide_slice Try.underlying24 (hval 1 24 v1 rfl rfl)
  have k1 := h1
  have lt1 : ∀ x ∈ p1, x.block < W.heap.size := by obtain ⟨m, hm⟩ := k1; exact DataW.trod_lt m _ _ _ hm
  obtain ⟨x1, e1, rd1, wf1, nn1⟩ := open_pairs_rd Try.underlying24 Try.underlying47 Try.underlying3 (by kernel_rfl) (by kernel_rfl) h1
  have sz1 : len1 * 16 ≤ 140737488351232 := by
    rcases nn1 with h | ⟨el, sp, hd, hl⟩
    · omega
    · have hb : Try.prog.bytesOf 47 = 16 := by kernel_rfl
      have := sized_slice hsz (j := 1) (t := 24) (e := 47) rfl (by rw [hd]; rfl) Try.underlying24
      rw [hb, hl] at this
      have h2 : reachBytes = 140737488351232 := by decide
      rw [h2] at this
      omega
  subst e1
  obtain ⟨A2, len2, cap2, rfl⟩ := okWide_slice Try.underlying24 (hval 2 24 v2 rfl rfl)
  have k2 := h2
  have lt2 : ∀ x ∈ p2, x.block < W.heap.size := by obtain ⟨m, hm⟩ := k2; exact DataW.trod_lt m _ _ _ hm
  obtain ⟨x2, e2, rd2, wf2, nn2⟩ := open_pairs_rd Try.underlying24 Try.underlying47 Try.underlying3 (by kernel_rfl) (by kernel_rfl) h2
  have sz2 : len2 * 16 ≤ 140737488351232 := by
    rcases nn2 with h | ⟨el, sp, hd, hl⟩
    · omega
    · have hb : Try.prog.bytesOf 47 = 16 := by kernel_rfl
      have := sized_slice hsz (j := 2) (t := 24) (e := 47) rfl (by rw [hd]; rfl) Try.underlying24
      rw [hb, hl] at this
      have h2 : reachBytes = 140737488351232 := by decide
      rw [h2] at this
      omega
  subst e2
  clear hA0 hval0 hsz0
  refine (flowSets_walk W a0 _ _ x1 x2 rd1 rd2).mono fun e W' ⟨he, bel⟩ => ?_
  subst he
  exact ⟨_, rfl, _, _, _, [], _, [], hW', trodAll_mk1 (shut_bool Try.underlying4 _), (trodAll_cons_mk (shut_int Try.underlying3 w0) (trodAll_cons_mk (Below.trod flowSets_laid (by kernel_rfl) (of_decide_eq_true (by kernel_rfl)) k1 bel lt1) (trodAll_cons_mk (Below.trod flowSets_laid (by kernel_rfl) (of_decide_eq_true (by kernel_rfl)) k2 bel lt2) trodAll_mk0))), rfl, bel.frame _, fun h => by cases h⟩

theorem flowSets_over : Rows.flowSetsRow.holds Try.pinned (OpenSpec.ofChange Rows.flowSetsSpec) :=
  OpenClaim.holds_of_wide 7 Try.f7 rfl rfl rfl rfl rfl rfl rfl ⟨rfl, rfl, rfl, rfl, rfl⟩ rfl rfl rfl rfl rfl (by kernel_rfl) Try.func7 (by kernel_rfl)
    (of_decide_eq_true (by kernel_rfl)) (by unfold Func.isWrapper; first | (rw [if_pos (by decide +kernel)]; kernel_rfl) | (rw [if_neg (by decide +kernel)]; exact ⟨rfl, rfl⟩))
    (fun os started H enc _ => flowSets_lifted os started H enc)

theorem flowSets_holds : Rows.FlowSetsSaid := flowSets_over
end Go.Proofs.Ytcghkemfepnihaa
