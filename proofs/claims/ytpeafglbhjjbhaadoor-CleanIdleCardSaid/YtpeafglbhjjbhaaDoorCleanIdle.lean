/- CleanIdle returns true whatever it is handed, and leaves that as it was: which steps nobody needs, and how many things of the heap go with them, is as the document says. Beyond the row's own condition (the table read as the program's text lays it, tied to it in the card): none. -/
import Derived.Test.YtpeafglbhjjbhaaDoorRows
import Derived.Test.YtpeafglbhjjbhaaDoorTie
import Derived.Test.YtpeafglbhjjbhaaDoorCards
import Derived.Test.YtpeafglbhjjbhaaDoorGP
import Derived.Test.YtpeafglbhjjbhaaDoorKN
import Derived.ProofKit
import Derived.LaidMore
import Derived.OpenShut
import Derived.Stop.Joined
import Derived.SevenTiedAt
namespace Go.Proofs.YtpeafglbhjjbhaaDoor
open Go.ChangeShapes Go.WideShapes Go.ChangeAt Go.RowKit

theorem cleanIdle_own : ownKnob Tryd.prog.godebug = none := by kernel_rfl
theorem cleanIdle_laid : laidOutB Tryd.prog = true := by kernel_rfl
theorem getE_app {α : Type} {l r : List α} {i : Nat} {x : α} (h : l[i]? = some x) : (l ++ r)[i]? = some x := by
  rw [List.getElem?_append_left (List.getElem?_eq_some_iff.1 h).1]; exact h
theorem vars_of_laid {W : World} (h : laidMetH Tryd.prog Rows.cleanIdleRow.laid W) : W.var? Tryd.prog "hallmark/kind.fields" = some (fldW.map Tx).toArray := by
  rw [MakeChecks.laidMetH_plain _ _ _ (by kernel_rfl)] at h
  obtain ⟨ps, h, _⟩ := h
  exact strs_of_laid (e := 9) h 0 (l := fldW) (by kernel_rfl) g_flds (by kernel_rfl) Tryd.underlying113 Tryd.underlying9 (by kernel_rfl) (by kernel_rfl)
set_option maxRecDepth 100000 in
theorem cleanIdle_met (os : Os) (args : Array Value) : laidMetH Tryd.prog Rows.cleanIdleRow.laid ((World.doorLaid Tryd.prog 49 os).forCall (fun _ _ => 0) ⟨#[], args, []⟩).memory :=
  laidMetH_of_parts3 (fuel := 8) (laidMet_of_run' 8 (by kernel_rfl) (by kernel_rfl)) (by kernel_rfl) (by kernel_rfl)
set_option maxRecDepth 100000 in
set_option maxHeartbeats 1000000 in
theorem cleanIdle_lifted (os : Os) (started : os.Started) (H : Type) (enc : TypeId × Value → H) :
    ReturnsInHanded {} Tryd.checked os 3 .any (fun w args => (Rows.cleanIdleSpec.pre enc Tryd.prog Tryd.f3 [] false w args ∧ laidMetH Tryd.prog Rows.cleanIdleRow.laid w) ∧ sizedMet enc Tryd.prog Tryd.f3 (OpenSpec.ofChange Rows.cleanIdleSpec) false w args)
      (Rows.cleanIdleSpec.post enc Tryd.prog Tryd.f3 false true false false) := by
  refine returnsInHanded_of_change_and (C := Tryd.checked) (X := fun w _ => laidMetH Tryd.prog Rows.cleanIdleRow.laid w) (fun _ _ _ hh h => h.of_heap hh) cleanIdle_own started (by kernel_rfl) Tryd.func3
    (ChangeSpec.witness_shaped (enc := enc) (C := Tryd.checked) (os := os) (X := fun w _ => laidMetH Tryd.prog Rows.cleanIdleRow.laid w) false (World.doorLaid Tryd.prog 49 os) #[.agg #[.slice none 0 0, .slice none 0 0, .slice none 0 0], .int .u8 0] 8 rfl (World.shaped_of_RefB (by kernel_rfl) (by kernel_rfl)) (by kernel_rfl) (by kernel_rfl) (by kernel_rfl) (cleanIdle_met os _)) ?_
  intro W base args ds gs before hval0 hW _ hsz0 hL _
  have hval : ∀ (j : Nat) t v, Tryd.f3.params[j]? = some t → args[j]? = some v → Value.okWide Tryd.prog W .any base t v := hval0
  have hsz : (DataW.weightsEach Tryd.prog (Tryd.f3.params.toList ++ Rows.cleanIdleSpec.plain.varTypes Tryd.prog) (ds ++ gs)).all (· ≤ reachBytes) = true := hsz0
  have hW' := hW
  obtain ⟨p, q, hA0, hV, rfl, hfz, hnd⟩ := hW
  have hA : DataW.TrodAll enc Tryd.prog W 0 (fun _ => true) true Tryd.f3.params.toList args.toList ds p := hA0
  rw [Tryd.params3] at hA hval hsz
  obtain ⟨v0, vs0, d0, ds0, p0, q0, hargs, rfl, rfl, h0, r0⟩ := trodAll_cons hA
  obtain ⟨v1, vs1, d1, ds1, p1, q1, rfl, rfl, rfl, h1, r1⟩ := trodAll_cons r0
  obtain ⟨rfl, rfl, rfl⟩ := trodAll_nil r1
  obtain rfl : args = #[v0, v1] := by cases args; simp_all
  obtain ⟨rfl, rfl⟩ := trodVars_none hV
  have F : ∀ (j : Nat) (t : TypeId) (d : DataW H), ([26, 5] : List Nat)[j]? = some t → ([d0, d1] : List (DataW H))[j]? = some d → Fit t d := fun j t d ht hd n hn => by
    simp only [List.all_eq_true, decide_eq_true_eq] at hsz
    exact hsz n (DataW.weights_mem_each (ts := ([26, 5] : List Nat) ++ Rows.cleanIdleSpec.plain.varTypes Tryd.prog) (getE_app ht) (by simpa using hd) n hn)
  have k0 := h0
  have lt0 : ∀ x ∈ p0, x.block < W.heap.size := by obtain ⟨m, hm⟩ := k0; exact DataW.trod_lt m _ _ _ hm
  obtain ⟨cs0, rfl, hcs0⟩ := okWide_struct Tryd.underlying26 (hval 0 26 v0 rfl rfl)
  obtain ⟨m0, hm0⟩ := h0
  obtain ⟨x0, R0, L0⟩ := opn_api_Prog hm0 (F 0 26 d0 rfl rfl)
  have e0 : (Value.agg cs0).cells.toList = cs0.toList := rfl
  rw [e0] at R0
  obtain ⟨n1, rfl, rfl, rfl, w1⟩ := open_int Tryd.underlying5 (hval 1 5 v1 rfl rfl) h1
  have hn1 : 0 ≤ n1 ∧ n1 < 256 := by
    simp only [Lit.wf, Bool.and_eq_true, decide_eq_true_eq] at w1
    have h1 := w1.1
    have h2 := w1.2
    simp [IntKind.min, IntKind.max, IntKind.bits, IntKind.signed] at h1 h2
    omega
  have hv := vars_of_laid hL
  have hpl : p_L17_CleanIdle x0 n1 = some true := idle_plain x0 n1 L0 hn1.1 hn1.2
  clear hA0 hval0 hsz0
  refine ((p_L17_CleanIdle_ac hpl) W (Nw W) #[.agg cs0, .int .u8 n1] (fun _ h => h) rfl (fun j c hj => ?_) (flds_read hv)).mono fun e W' ⟨u, c, N', Pr, he, hc, bel, _, _, _, hr⟩ => ?_
  · match j, hj with
    | 0, hj =>
      cases hj
      exact .ag cs0 (by have := R0.at_.1; simpa using this) fun j c hj => by
        obtain ⟨u, h1, h2, _⟩ := R0.at_.2 j c hj
        have : cs0.getD j undef = u := by
          have h3 : cs0[j]? = some u := by simpa using h1
          simp [h3]
        rw [this]
        exact h2
    | 1, hj => cases hj; exact .v _
    | j + 2, hj => simp at hj
  · subst he
    subst hc
    have hu : u = .bool true := by
      cases hr with
      | one h =>
        cases h with
        | one h =>
          cases h with
          | cell h => exact h.val
    subst hu
    exact ⟨_, rfl, _, _, _, [], _, [], hW', trodAll_mk1 (shut_bool Tryd.underlying4 _), (trodAll_cons_mk (Below.trod cleanIdle_laid (by kernel_rfl) (of_decide_eq_true (by kernel_rfl)) k0 bel lt0) (trodAll_cons_mk (shut_int Tryd.underlying5 w1) trodAll_mk0)), rfl, bel.frame _, fun h => by cases h⟩

theorem cleanIdle_holds : Rows.CleanIdleSaid :=
  OpenClaim.holds_of_wide 3 Tryd.f3 rfl rfl rfl rfl rfl rfl rfl ⟨rfl, rfl, rfl, rfl, rfl⟩ rfl rfl rfl rfl rfl (by kernel_rfl) Tryd.func3 (by kernel_rfl)
    (of_decide_eq_true (by kernel_rfl)) (by unfold Func.isWrapper; first | (rw [if_pos (by decide +kernel)]; kernel_rfl) | (rw [if_neg (by decide +kernel)]; exact ⟨rfl, rfl⟩))
    (fun os started H enc _ => cleanIdle_lifted os started H enc)
theorem cleanIdle_card : Rows.CleanIdleCardSaid :=
  Claim7.holds_tied_plain_at .later [] [.data] true (true, "35d5877d21653d49879e48ab4e95bbfb8679447a7d1c5e519a0c17dbc33b9f6b") false
    cleanIdle_holds (fun _ h => by cases h) (by kernel_rfl) (fun _ h => by cases h) cleanIdle_row_tie rfl ⟨rfl, rfl⟩ (by kernel_rfl) rfl
    (fun f fn hf hfn => by
      obtain rfl : f = 3 := Option.some.inj ((show Tryd.prog.funcNamed "hallmark/hallmarklaw17.CleanIdle" = some 3 by kernel_rfl).symm.trans hf) |>.symm
      obtain rfl : fn = Tryd.f3 := (Option.some.inj (Tryd.func3.symm.trans hfn)).symm
      exact ⟨by kernel_rfl, fun j t ht => by
        rw [Tryd.params3] at ht
        have hm : t ∈ [26, 5] := by simpa using Array.mem_of_getElem? ht
        have hall : ([26, 5].all fun u => !Tryd.prog.wantsStandIn u) = true := by kernel_rfl
        exact (show Tryd.prog.wantsStandIn t = false by simpa using List.all_eq_true.1 hall t hm)⟩)
    (by kernel_rfl)
end Go.Proofs.YtpeafglbhjjbhaaDoor

