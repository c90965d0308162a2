/- HeapTables returns true whatever l it is handed: a table has its keys in the order in which they came, each once. No condition beyond the row's own. -/
import Derived.Test.YtakpikoffbgjfaaRows
import Derived.Test.YtakpikoffbgjfaaLawTables
import Derived.Test.YtakpikoffbgjfaaOpen
namespace Go.Proofs.Ytakpikoffbgjfaa
open Go.ChangeShapes Go.WideShapes Go.ChangeAt Go.RowKit

theorem heapTables_own : ownKnob Try.prog.godebug = none := by kernel_rfl
theorem heapTables_laid : laidOutB Try.prog = true := by kernel_rfl
set_option maxRecDepth 100000 in
set_option maxHeartbeats 1000000 in
theorem heapTables_lifted (os : Os) (started : os.Started) (H : Type) (enc : TypeId × Value → H) :
    ReturnsInHanded {} Try.checked os 4 .any (Rows.heapTablesSpec.pre6 enc Try.prog Try.f4 Rows.heapTablesRow.domain false) (Rows.heapTablesSpec.post enc Try.prog Try.f4 false true false false) := by
  refine returnsInHanded_of_change_sized (C := Try.checked) heapTables_own started (by kernel_rfl) Try.func4
    (ChangeSpec.witness6 (enc := enc) (C := Try.checked) false ⟨#[], #[.slice none 0 0], []⟩ 8 (by kernel_rfl) (by kernel_rfl) (by kernel_rfl) (by kernel_rfl)) ?_
  intro W base args ds gs before hval0 hW hcnd hsz0 _
  have hsz : (DataW.weightsEach Try.prog (Try.f4.params.toList ++ Rows.heapTablesSpec.plain.varTypes Try.prog) (ds ++ gs)).all (· ≤ reachBytes) = true := hsz0
  have hval : ∀ (j : Nat) t v, Try.f4.params[j]? = some t → args[j]? = some v → Value.okWide Try.prog W .any base t v := hval0
  have hW' := hW
  obtain ⟨p, q, hA0, hV, rfl, hfz, hnd⟩ := hW
  have hA : DataW.TrodAll enc Try.prog W 0 (fun _ => true) true Try.f4.params.toList args.toList ds p := hA0
  rw [Try.params4] at hA hval hsz
  obtain ⟨v0, vs0, d0, ds0, p0, q0, hargs, rfl, rfl, h0, r0⟩ := trodAll_cons hA
  obtain ⟨rfl, rfl, rfl⟩ := trodAll_nil r0
  obtain rfl : args = #[v0] := by cases args; simp_all
  obtain ⟨rfl, rfl⟩ := trodVars_none hV
  obtain ⟨A0, len0, cap0, rfl⟩ := okWide_slice Try.underlying34 (hval 0 34 v0 rfl rfl)
  have k0 := h0
  have lt0 : ∀ x ∈ p0, x.block < W.heap.size := by obtain ⟨m, hm⟩ := k0; exact DataW.trod_lt m _ _ _ hm
  obtain ⟨x0, e0, rd0, wf0, nn0⟩ := open_ints_rd Try.underlying34 Try.underlying37 (by kernel_rfl) h0
  have sz0 : len0 * 1 ≤ 140737488351232 := by
    rcases nn0 with h | ⟨el, sp, hd, hl⟩
    · omega
    · have hb : Try.prog.bytesOf 37 = 1 := by kernel_rfl
      have := sized_slice hsz (j := 0) (t := 34) (e := 37) rfl (by rw [hd]; rfl) Try.underlying34
      rw [hb, hl] at this
      have h2 : reachBytes = 140737488351232 := by decide
      rw [h2] at this
      omega
  subst e0
  have bd0 : ∀ p ∈ x0, -128 ≤ p ∧ p ≤ 127 := fun p hp => by simpa [Lit.wf, IntKind.min, IntKind.max, IntKind.signed, IntKind.bits] using wf0 p hp
  clear hA0 hval0 hsz0
  refine (heapTables_walk W _ x0 rd0 bd0).mono fun e W' ⟨he, bel⟩ => ?_
  subst he
  exact ⟨_, rfl, _, _, _, [], _, [], hW', trodAll_mk1 (shut_bool Try.underlying4 _), (trodAll_cons_mk (Below.trod heapTables_laid (by kernel_rfl) (of_decide_eq_true (by kernel_rfl)) k0 bel lt0) trodAll_mk0), rfl, bel.frame _, fun h => by cases h⟩

theorem heapTables_over : Rows.heapTablesRow.holds Try.pinned (OpenSpec.ofChange Rows.heapTablesSpec) :=
  OpenClaim.holds_of_wide 4 Try.f4 rfl rfl rfl rfl rfl rfl rfl ⟨rfl, rfl, rfl, rfl, rfl⟩ rfl rfl rfl rfl rfl (by kernel_rfl) Try.func4 (by kernel_rfl)
    (of_decide_eq_true (by kernel_rfl)) (by unfold Func.isWrapper; first | (rw [if_pos (by decide +kernel)]; kernel_rfl) | (rw [if_neg (by decide +kernel)]; exact ⟨rfl, rfl⟩))
    (fun os started H enc _ => heapTables_lifted os started H enc)

theorem heapTables_holds : Rows.HeapTablesSaid := heapTables_over
end Go.Proofs.Ytakpikoffbgjfaa
