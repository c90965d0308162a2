/- TidyOrders returns true whatever program, number and list it is handed, and leaves them as they were: it puts a function's blocks in another order: the program's function is the document's. Beyond the row's own condition (the table read as the program's text lays it, tied to it in the card): none. -/
import Derived.Test.YtbebdcpakjfgdaaDoorRows
import Derived.Test.YtbebdcpakjfgdaaDoorTie
import Derived.Test.YtbebdcpakjfgdaaDoorCards
import Derived.Test.YtbebdcpakjfgdaaDoorGP
import Derived.Test.YtbebdcpakjfgdaaDoorGM
import Derived.ProofKit
import Derived.LaidMore
import Derived.OpenShut
import Derived.Stop.Joined
import Derived.SevenTiedAt
namespace Go.Proofs.YtbebdcpakjfgdaaDoor
open Go.ChangeShapes Go.WideShapes Go.ChangeAt Go.RowKit

theorem tidyOrders_own : ownKnob Tryd.prog.godebug = none := by kernel_rfl
theorem tidyOrders_laid : laidOutB Tryd.prog = true := by kernel_rfl
theorem getE_app {α : Type} {l r : List α} {i : Nat} {x : α} (h : l[i]? = some x) : (l ++ r)[i]? = some x := by
  rw [List.getElem?_append_left (List.getElem?_eq_some_iff.1 h).1]; exact h
theorem vars_of_laid {W : World} (h : laidMetH Tryd.prog Rows.tidyOrdersRow.laid W) : W.var? Tryd.prog "hallmark/kind.fields" = some (fldW.map Tx).toArray := by
  rw [MakeChecks.laidMetH_plain _ _ _ (by kernel_rfl)] at h
  obtain ⟨ps, h, _⟩ := h
  exact strs_of_laid (e := 9) h 0 (l := fldW) (by kernel_rfl) g_flds (by kernel_rfl) Tryd.underlying104 Tryd.underlying9 (by kernel_rfl) (by kernel_rfl)
set_option maxRecDepth 100000 in
theorem tidyOrders_met (os : Os) (args : Array Value) : laidMetH Tryd.prog Rows.tidyOrdersRow.laid ((World.doorLaid Tryd.prog 49 os).forCall (fun _ _ => 0) ⟨#[], args, []⟩).memory :=
  laidMetH_of_parts3 (fuel := 8) (laidMet_of_run' 8 (by kernel_rfl) (by kernel_rfl)) (by kernel_rfl) (by kernel_rfl)
set_option maxRecDepth 100000 in
set_option maxHeartbeats 1000000 in
theorem tidyOrders_lifted (os : Os) (started : os.Started) (H : Type) (enc : TypeId × Value → H) :
    ReturnsInHanded {} Tryd.checked os 4 .any (fun w args => (Rows.tidyOrdersSpec.pre enc Tryd.prog Tryd.f4 [] false w args ∧ laidMetH Tryd.prog Rows.tidyOrdersRow.laid w) ∧ sizedMet enc Tryd.prog Tryd.f4 (OpenSpec.ofChange Rows.tidyOrdersSpec) false w args)
      (Rows.tidyOrdersSpec.post enc Tryd.prog Tryd.f4 false true false false) := by
  refine returnsInHanded_of_change_and (C := Tryd.checked) (X := fun w _ => laidMetH Tryd.prog Rows.tidyOrdersRow.laid w) (fun _ _ _ hh h => h.of_heap hh) tidyOrders_own started (by kernel_rfl) Tryd.func4
    (ChangeSpec.witness_shaped (enc := enc) (C := Tryd.checked) (os := os) (X := fun w _ => laidMetH Tryd.prog Rows.tidyOrdersRow.laid w) false (World.doorLaid Tryd.prog 49 os) #[.agg #[.slice none 0 0, .slice none 0 0, .slice none 0 0], .int .u8 0, .slice none 0 0] 8 rfl (World.shaped_of_RefB (by kernel_rfl) (by kernel_rfl)) (by kernel_rfl) (by kernel_rfl) (by kernel_rfl) (tidyOrders_met os _)) ?_
  intro W base args ds gs before hval0 hW _ hsz0 hL _
  have hval : ∀ (j : Nat) t v, Tryd.f4.params[j]? = some t → args[j]? = some v → Value.okWide Tryd.prog W .any base t v := hval0
  have hsz : (DataW.weightsEach Tryd.prog (Tryd.f4.params.toList ++ Rows.tidyOrdersSpec.plain.varTypes Tryd.prog) (ds ++ gs)).all (· ≤ reachBytes) = true := hsz0
  have hW' := hW
  obtain ⟨p, q, hA0, hV, rfl, hfz, hnd⟩ := hW
  have hA : DataW.TrodAll enc Tryd.prog W 0 (fun _ => true) true Tryd.f4.params.toList args.toList ds p := hA0
  rw [Tryd.params4] at hA hval hsz
  obtain ⟨v0, vs0, d0, ds0, p0, q0, hargs, rfl, rfl, h0, r0⟩ := trodAll_cons hA
  obtain ⟨v1, vs1, d1, ds1, p1, q1, rfl, rfl, rfl, h1, r1⟩ := trodAll_cons r0
  obtain ⟨v2, vs2, d2, ds2, p2, q2, rfl, rfl, rfl, h2, r2⟩ := trodAll_cons r1
  obtain ⟨rfl, rfl, rfl⟩ := trodAll_nil r2
  obtain rfl : args = #[v0, v1, v2] := by cases args; simp_all
  obtain ⟨rfl, rfl⟩ := trodVars_none hV
  have F : ∀ (j : Nat) (t : TypeId) (d : DataW H), ([26, 5, 27] : List Nat)[j]? = some t → ([d0, d1, d2] : List (DataW H))[j]? = some d → Fit t d := fun j t d ht hd n hn => by
    simp only [List.all_eq_true, decide_eq_true_eq] at hsz
    exact hsz n (DataW.weights_mem_each (ts := ([26, 5, 27] : List Nat) ++ Rows.tidyOrdersSpec.plain.varTypes Tryd.prog) (getE_app ht) (by simpa using hd) n hn)
  have k0 := h0
  have lt0 : ∀ x ∈ p0, x.block < W.heap.size := by obtain ⟨m, hm⟩ := k0; exact DataW.trod_lt m _ _ _ hm
  obtain ⟨cs0, rfl, hcs0⟩ := okWide_struct Tryd.underlying26 (hval 0 26 v0 rfl rfl)
  obtain ⟨m0, hm0⟩ := h0
  obtain ⟨x0, R0, L0⟩ := opn_api_Prog hm0 (F 0 26 d0 rfl rfl)
  have e0 : (Value.agg cs0).cells.toList = cs0.toList := rfl
  rw [e0] at R0
  obtain ⟨n1, rfl, rfl, rfl, w1⟩ := open_int Tryd.underlying5 (hval 1 5 v1 rfl rfl) h1
  have k2 := h2
  have lt2 : ∀ x ∈ p2, x.block < W.heap.size := by obtain ⟨m, hm⟩ := k2; exact DataW.trod_lt m _ _ _ hm
  obtain ⟨A2, l2, c2, rfl⟩ := okWide_slice Tryd.underlying27 (hval 2 27 v2 rfl rfl)
  obtain ⟨m2, hm2⟩ := h2
  obtain ⟨xs, B2, cc, e2, R2, b2, _⟩ := opns_int hm2 (F 2 27 d2 rfl rfl)
  cases e2
  have hv := vars_of_laid hL
  have hn : 0 ≤ n1 ∧ n1 < 256 := by
    simp only [Lit.wf, Bool.and_eq_true, decide_eq_true_eq] at w1
    have h1 := w1.1
    have h2 := w1.2
    simp [IntKind.min, IntKind.max, IntKind.bits, IntKind.signed] at h1 h2
    omega
  have hpl : p_L16_TidyOrders x0 n1 xs = some true := orders_plain x0 n1 xs L0 hn.1 hn.2 (by rw [reach_eq] at b2; omega)
  clear hA0 hval0 hsz0
  refine ((p_L16_TidyOrders_ac hpl) W (Nw W) #[.agg cs0, .int .u8 n1, .slice A2 xs.length c2] (fun _ h => h) rfl (fun j c hj => ?_) (flds_read hv)).mono fun e W' ⟨u, c, N', Pr, he, hc, bel, _, _, _, hr⟩ => ?_
  · match j, hj with
    | 0, hj =>
      cases hj
      exact .ag cs0 (by have := R0.at_.1; simpa using this) fun j c hj => by
        obtain ⟨u, h1, h2, _⟩ := R0.at_.2 j c hj
        have : cs0.getD j undef = u := by
          have h3 : cs0[j]? = some u := by simpa using h1
          simp [h3]
        rw [this]
        exact h2
    | 1, hj => cases hj; exact .v _
    | 2, hj => cases hj; exact R2
    | j + 3, hj => simp at hj
  · subst he
    subst hc
    have hu : u = .bool true := by
      cases hr with
      | one h =>
        cases h with
        | one h =>
          cases h with
          | cell h => exact h.val
    subst hu
    exact ⟨_, rfl, _, _, _, [], _, [], hW', trodAll_mk1 (shut_bool Tryd.underlying4 _), (trodAll_cons_mk (Below.trod tidyOrders_laid (by kernel_rfl) (of_decide_eq_true (by kernel_rfl)) k0 bel lt0) (trodAll_cons_mk (shut_int Tryd.underlying5 w1) (trodAll_cons_mk (Below.trod tidyOrders_laid (by kernel_rfl) (of_decide_eq_true (by kernel_rfl)) k2 bel lt2) trodAll_mk0))), rfl, bel.frame _, fun h => by cases h⟩

theorem tidyOrders_holds : Rows.TidyOrdersSaid :=
  OpenClaim.holds_of_wide 4 Tryd.f4 rfl rfl rfl rfl rfl rfl rfl ⟨rfl, rfl, rfl, rfl, rfl⟩ rfl rfl rfl rfl rfl (by kernel_rfl) Tryd.func4 (by kernel_rfl)
    (of_decide_eq_true (by kernel_rfl)) (by unfold Func.isWrapper; first | (rw [if_pos (by decide +kernel)]; kernel_rfl) | (rw [if_neg (by decide +kernel)]; exact ⟨rfl, rfl⟩))
    (fun os started H enc _ => tidyOrders_lifted os started H enc)
theorem tidyOrders_card : Rows.TidyOrdersCardSaid :=
  Claim7.holds_tied_plain_at .later [] [.data] true (true, "e83308da06ab569eedb4c1dda09947cc7978bab881f8387b8b2da13ec90c4877") false
    tidyOrders_holds (fun _ h => by cases h) (by kernel_rfl) (fun _ h => by cases h) tidyOrders_row_tie rfl ⟨rfl, rfl⟩ (by kernel_rfl) rfl
    (fun f fn hf hfn => by
      obtain rfl : f = 4 := Option.some.inj ((show Tryd.prog.funcNamed "hallmark/hallmarklaw16.TidyOrders" = some 4 by kernel_rfl).symm.trans hf) |>.symm
      obtain rfl : fn = Tryd.f4 := (Option.some.inj (Tryd.func4.symm.trans hfn)).symm
      exact ⟨by kernel_rfl, fun j t ht => by
        rw [Tryd.params4] at ht
        have hm : t ∈ [26, 5, 27] := by simpa using Array.mem_of_getElem? ht
        have hall : ([26, 5, 27].all fun u => !Tryd.prog.wantsStandIn u) = true := by kernel_rfl
        exact (show Tryd.prog.wantsStandIn t = false by simpa using List.all_eq_true.1 hall t hm)⟩)
    (by kernel_rfl)
end Go.Proofs.YtbebdcpakjfgdaaDoor

