/- FlowGrows returns true for all lists of pairs of bytes and of bytes: what is in Reach of some edges and starts is in Reach of more edges and more starts. No condition beyond the row's own. -/
import Derived.Test.YtcghkemfepnihaaRows
import Derived.Test.YtcghkemfepnihaaLawGrows
import Derived.Test.YtcghkemfepnihaaOpen
namespace Go.Proofs.Ytcghkemfepnihaa
open Go.ChangeShapes Go.WideShapes Go.ChangeAt Go.RowKit

theorem flowGrows_own : ownKnob Try.prog.godebug = none := by kernel_rfl
theorem flowGrows_laid : laidOutB Try.prog = true := by kernel_rfl
set_option maxRecDepth 100000 in
set_option maxHeartbeats 1000000 in
theorem flowGrows_lifted (os : Os) (started : os.Started) (H : Type) (enc : TypeId × Value → H) :
    ReturnsInHanded {} Try.checked os 3 .any (Rows.flowGrowsSpec.pre6 enc Try.prog Try.f3 Rows.flowGrowsRow.domain false) (Rows.flowGrowsSpec.post enc Try.prog Try.f3 false true false false) := by
  refine returnsInHanded_of_change_sized (C := Try.checked) flowGrows_own started (by kernel_rfl) Try.func3
    (ChangeSpec.witness6 (enc := enc) (C := Try.checked) false ⟨#[], #[.slice none 0 0, .slice none 0 0, .slice none 0 0], []⟩ 8 (by kernel_rfl) (by kernel_rfl) (by kernel_rfl) (by kernel_rfl)) ?_
  intro W base args ds gs before hval0 hW hcnd hsz0 _
  have hsz : (DataW.weightsEach Try.prog (Try.f3.params.toList ++ Rows.flowGrowsSpec.plain.varTypes Try.prog) (ds ++ gs)).all (· ≤ reachBytes) = true := hsz0
  have hval : ∀ (j : Nat) t v, Try.f3.params[j]? = some t → args[j]? = some v → Value.okWide Try.prog W .any base t v := hval0
  have hW' := hW
  obtain ⟨p, q, hA0, hV, rfl, hfz, hnd⟩ := hW
  have hA : DataW.TrodAll enc Try.prog W 0 (fun _ => true) true Try.f3.params.toList args.toList ds p := hA0
  rw [Try.params3] at hA hval hsz
  obtain ⟨v0, vs0, d0, ds0, p0, q0, hargs, rfl, rfl, h0, r0⟩ := trodAll_cons hA
  obtain ⟨v1, vs1, d1, ds1, p1, q1, rfl, rfl, rfl, h1, r1⟩ := trodAll_cons r0
  obtain ⟨v2, vs2, d2, ds2, p2, q2, rfl, rfl, rfl, h2, r2⟩ := trodAll_cons r1
  obtain ⟨rfl, rfl, rfl⟩ := trodAll_nil r2
  obtain rfl : args = #[v0, v1, v2] := by cases args; simp_all
  obtain ⟨rfl, rfl⟩ := trodVars_none hV
  obtain ⟨A0, len0, cap0, rfl⟩ := okWide_slice Try.underlying22 (hval 0 22 v0 rfl rfl)
  have k0 := h0
  have lt0 : ∀ x ∈ p0, x.block < W.heap.size := by obtain ⟨m, hm⟩ := k0; exact DataW.trod_lt m _ _ _ hm
  obtain ⟨x0, e0, rd0, wf0, nn0⟩ := open_pairs_rd Try.underlying22 Try.underlying46 Try.underlying5 (by kernel_rfl) (by kernel_rfl) h0
  have sz0 : len0 * 2 ≤ 140737488351232 := by
    rcases nn0 with h | ⟨el, sp, hd, hl⟩
    · omega
    · have hb : Try.prog.bytesOf 46 = 2 := by kernel_rfl
      have := sized_slice hsz (j := 0) (t := 22) (e := 46) rfl (by rw [hd]; rfl) Try.underlying22
      rw [hb, hl] at this
      have h2 : reachBytes = 140737488351232 := by decide
      rw [h2] at this
      omega
  subst e0
  have bd0 : ∀ p ∈ x0, (0 ≤ p.1 ∧ p.1 ≤ 255) ∧ (0 ≤ p.2 ∧ p.2 ≤ 255) := fun p hp => by simpa [Lit.wf, IntKind.min, IntKind.max, IntKind.signed, IntKind.bits] using wf0 p hp
  obtain ⟨A1, len1, cap1, rfl⟩ := okWide_slice Try.underlying22 (hval 1 22 v1 rfl rfl)
  have k1 := h1
  have lt1 : ∀ x ∈ p1, x.block < W.heap.size := by obtain ⟨m, hm⟩ := k1; exact DataW.trod_lt m _ _ _ hm
  obtain ⟨x1, e1, rd1, wf1, nn1⟩ := open_pairs_rd Try.underlying22 Try.underlying46 Try.underlying5 (by kernel_rfl) (by kernel_rfl) h1
  have sz1 : len1 * 2 ≤ 140737488351232 := by
    rcases nn1 with h | ⟨el, sp, hd, hl⟩
    · omega
    · have hb : Try.prog.bytesOf 46 = 2 := by kernel_rfl
      have := sized_slice hsz (j := 1) (t := 22) (e := 46) rfl (by rw [hd]; rfl) Try.underlying22
      rw [hb, hl] at this
      have h2 : reachBytes = 140737488351232 := by decide
      rw [h2] at this
      omega
  subst e1
  have bd1 : ∀ p ∈ x1, (0 ≤ p.1 ∧ p.1 ≤ 255) ∧ (0 ≤ p.2 ∧ p.2 ≤ 255) := fun p hp => by simpa [Lit.wf, IntKind.min, IntKind.max, IntKind.signed, IntKind.bits] using wf1 p hp
  obtain ⟨A2, len2, cap2, rfl⟩ := okWide_slice Try.underlying23 (hval 2 23 v2 rfl rfl)
  have k2 := h2
  have lt2 : ∀ x ∈ p2, x.block < W.heap.size := by obtain ⟨m, hm⟩ := k2; exact DataW.trod_lt m _ _ _ hm
  obtain ⟨x2, e2, rd2, wf2, nn2⟩ := open_ints_rd Try.underlying23 Try.underlying5 (by kernel_rfl) h2
  have sz2 : len2 * 1 ≤ 140737488351232 := by
    rcases nn2 with h | ⟨el, sp, hd, hl⟩
    · omega
    · have hb : Try.prog.bytesOf 5 = 1 := by kernel_rfl
      have := sized_slice hsz (j := 2) (t := 23) (e := 5) rfl (by rw [hd]; rfl) Try.underlying23
      rw [hb, hl] at this
      have h2 : reachBytes = 140737488351232 := by decide
      rw [h2] at this
      omega
  subst e2
  have bd2 : ∀ p ∈ x2, 0 ≤ p ∧ p ≤ 255 := fun p hp => by simpa [Lit.wf, IntKind.min, IntKind.max, IntKind.signed, IntKind.bits] using wf2 p hp
  clear hA0 hval0 hsz0
  refine (flowGrows_walk W _ _ _ x0 x1 x2 rd0 rd1 rd2 bd0 bd1 bd2).mono fun e W' ⟨he, bel⟩ => ?_
  subst he
  exact ⟨_, rfl, _, _, _, [], _, [], hW', trodAll_mk1 (shut_bool Try.underlying4 _), (trodAll_cons_mk (Below.trod flowGrows_laid (by kernel_rfl) (of_decide_eq_true (by kernel_rfl)) k0 bel lt0) (trodAll_cons_mk (Below.trod flowGrows_laid (by kernel_rfl) (of_decide_eq_true (by kernel_rfl)) k1 bel lt1) (trodAll_cons_mk (Below.trod flowGrows_laid (by kernel_rfl) (of_decide_eq_true (by kernel_rfl)) k2 bel lt2) trodAll_mk0))), rfl, bel.frame _, fun h => by cases h⟩

theorem flowGrows_over : Rows.flowGrowsRow.holds Try.pinned (OpenSpec.ofChange Rows.flowGrowsSpec) :=
  OpenClaim.holds_of_wide 3 Try.f3 rfl rfl rfl rfl rfl rfl rfl ⟨rfl, rfl, rfl, rfl, rfl⟩ rfl rfl rfl rfl rfl (by kernel_rfl) Try.func3 (by kernel_rfl)
    (of_decide_eq_true (by kernel_rfl)) (by unfold Func.isWrapper; first | (rw [if_pos (by decide +kernel)]; kernel_rfl) | (rw [if_neg (by decide +kernel)]; exact ⟨rfl, rfl⟩))
    (fun os started H enc _ => flowGrows_lifted os started H enc)

theorem flowGrows_holds : Rows.FlowGrowsSaid := flowGrows_over
end Go.Proofs.Ytcghkemfepnihaa
