/- Functions (printed by wip/auto/am.py). -/
import Derived.Test.YtpeafglbhjjbhaaDoorFB
import Derived.Test.YtpeafglbhjjbhaaDoorFD
import Derived.Test.YtpeafglbhjjbhaaDoorFE
import Derived.Test.YtpeafglbhjjbhaaDoorFF
import Derived.Test.YtpeafglbhjjbhaaDoorFH
import Derived.Test.YtpeafglbhjjbhaaDoorFI
import Derived.Test.YtpeafglbhjjbhaaDoorFJ
import Derived.Test.YtpeafglbhjjbhaaDoorFM
import Derived.Test.YtpeafglbhjjbhaaDoorFP
namespace Go.Proofs.YtpeafglbhjjbhaaDoor
open Go Go.RowKit

def p_R05_Small (a0 : Option MPrg) (a1 : Int) : Option Bool :=
(optC a0
(some true)
(fun p1 =>
(((loop (fun (s3005 : Int × Int) =>
(((bif decide (s3005.2 < ((p1.Sigs.length : Nat) : Int)) then
some (decide (s3005.1 ≤ a1))
else
some false)).bind fun (s3010 : Bool) =>
(bif s3010 then
((atI p1.Sigs s3005.2).bind fun x3014 =>
some (Xt.go (IntKind.i64.wrap (s3005.1 + ((x3014.Params.length : Nat) : Int)), IntKind.i64.wrap (s3005.2 + 1))))
else
some (Xt.out s3005.1)))) Fu (IntKind.i64.wrap (IntKind.i64.wrap (((p1.Sigs.length : Nat) : Int) + ((p1.Classes.length : Nat) : Int)) + ((p1.Funcs.length : Nat) : Int)), 0))).bind fun (s3 : Int) =>
(((loop (fun (s6019 : Int × Int) =>
(((bif decide (s6019.2 < ((p1.Classes.length : Nat) : Int)) then
some (decide (s6019.1 ≤ a1))
else
some false)).bind fun (s6024 : Bool) =>
(bif s6024 then
((atI p1.Classes s6019.2).bind fun x6028 =>
some (Xt.go (IntKind.i64.wrap (IntKind.i64.wrap (s6019.1 + ((x6028.Fields.length : Nat) : Int)) + ((x6028.Methods.length : Nat) : Int)), IntKind.i64.wrap (s6019.2 + 1))))
else
some (Xt.out s6019.1)))) Fu (s3, 0))).bind fun (s3017 : Int) =>
(((loop (fun (s9033 : Int × Int) =>
(((bif decide (s9033.2 < ((p1.Funcs.length : Nat) : Int)) then
some (decide (s9033.1 ≤ a1))
else
some false)).bind fun (s9038 : Bool) =>
(bif s9038 then
((((atI p1.Funcs s9033.2).bind fun x9045 =>
(loop (fun (s12047 : Int × Int) =>
(((bif decide (s12047.2 < ((x9045.Blocks.length : Nat) : Int)) then
some (decide (s12047.1 ≤ a1))
else
some false)).bind fun (s12052 : Bool) =>
(bif s12052 then
((((atI x9045.Blocks s12047.2).bind fun x12059 =>
(loop (fun (s15061 : Int × Int) =>
(((bif decide (s15061.2 < ((x12059.Ops.length : Nat) : Int)) then
some (decide (s15061.1 ≤ a1))
else
some false)).bind fun (s15066 : Bool) =>
(bif s15066 then
((atI x12059.Ops s15061.2).bind fun x15070 =>
some (Xt.go (IntKind.i64.wrap (IntKind.i64.wrap (s15061.1 + ((x15070.L.length : Nat) : Int)) + IntKind.i64.wrap (Int.tdiv ((x15070.S.size : Nat) : Int) 8)), IntKind.i64.wrap (s15061.2 + 1))))
else
some (Xt.out s15061.1)))) Fu (IntKind.i64.wrap (IntKind.i64.wrap (IntKind.i64.wrap (IntKind.i64.wrap (s12047.1 + ((x12059.Params.length : Nat) : Int)) + ((x12059.Ops.length : Nat) : Int)) + ((x12059.End.L.length : Nat) : Int)) + ((x12059.End.M.length : Nat) : Int)), 0)))).bind fun (s12057 : Int) =>
some (Xt.go (s12057, IntKind.i64.wrap (s12047.2 + 1))))
else
some (Xt.out s12047.1)))) Fu (IntKind.i64.wrap (s9033.1 + ((x9045.Blocks.length : Nat) : Int)), 0)))).bind fun (s9043 : Int) =>
some (Xt.go (s9043, IntKind.i64.wrap (s9033.2 + 1))))
else
some (Xt.out s9033.1)))) Fu (s3017, 0))).bind fun (s6031 : Int) =>
some (decide (s6031 ≤ a1)))))))

theorem p_R05_Small_ok {r : Bool} : rOk (.v (.bool r)) = true ∧ FrT (.v (.bool r)) := ⟨rfl, (.one (.cl (.v _)))⟩

set_option maxRecDepth 10000 in
set_option maxHeartbeats 4000000 in
theorem p_R05_Small_ac {a0 : Option MPrg} {a1 : Int} {r : Bool} (hF : p_R05_Small a0 a1 = some r) : AC Tryd.prog GT 4 [ptC MPrg.ct a0, .v (.int .i64 a1)] (fun c => c = .v (.bool r)) := by
  unfold p_R05_Small at hF
  refine AC.mk (nt := 197) Tryd.func4 A A A fun w N => ?_
  rcases a0 with _ | p1
  · replace hF := optN hF
    refine w_seq (w_region (by rfl) (dv1 (l_assign (.v _)) (dvE (q_seq (w_seq (w_seq (w_region (by rfl) (dv1 (l_move (.v _)) ?_))))))))
    refine dv1 (l_ptrNil (by kernel_rfl) A) (dvE (q_seq (w_true A (w_seq (w_region (by rfl) (dv1 (l_assign (.v _)) (dvE (q_seq ?_))))))))
    refine w_ret (q_reS ?_)
    cases hF
    refine q_end (.inr A) ?_
    exact ret_ok A (.cons (.tmp (.v _) (.v _)) .nil) (by decide) A
  · replace hF := optS hF
    refine w_seq (w_region (by rfl) (dv1 (l_assign (.v _)) (dvE (q_seq (w_seq (w_seq (w_region (by rfl) (dv1 (l_move (.ro _)) ?_))))))))
    refine dv1 (l_ptrRo (by kernel_rfl) A) (dvE (q_seq (w_false A (w_skip (q_seq (w_seq (w_draw [[], [0], [0, 1], [0, 1, 2], [0, 1, 2, 3], [], [5], [5, 6], [5, 6, 7], [5, 6, 7, 8], [0, 1, 2, 3, 4, 5, 6, 7, 8, 9], [], [11], [11, 12], [11, 12, 13], [11, 12, 13, 14], [0, 1, 2, 3, 4, 5, 6, 7, 8, 9, 10, 11, 12, 13, 14, 15], [0, 1, 2, 3, 4, 5, 6, 7, 8, 9, 10, 11, 12, 13, 14, 15, 16]] [0, 1, 2, 3, 4, 5, 6, 7, 8, 9, 10, 11, 12, 13, 14, 15, 16, 17] (by kernel_rfl) (by rfl) ⟨by decide, by rfl⟩ (by rfl) ?_)))))))
    refine de1 A (l_move (.ro _)) A (de1 A (l_nilRo A) A (de1 A (l_fieldRo fd26_0 A) A (de1 A (l_loadRo ty22 A A) A (de1 A (l_lenRo sl22 A A (List.length_map _)) A (de1 A (l_move (.ro _)) A (de1 A (l_nilRo A) A (de1 A (l_fieldRo fd26_1 A) A (de1 A (l_loadRo ty23 A A) A ?_))))))))
    refine de1 A (l_lenRo sl23 A A (List.length_map _)) A (de1 A (l_bin A A (b_add A)) A (de1 A (l_move (.ro _)) A (de1 A (l_nilRo A) A (de1 A (l_fieldRo fd26_2 A) A (de1 A (l_loadRo ty24 A A) A (de1 A (l_lenRo sl24 A A (List.length_map _)) A (de1 A (l_bin A A (b_add A)) A (de1 A (l_assign (.v _)) A ?_))))))))
    refine ddE (q_seq ?_)
    obtain ⟨s3, hF, hG4⟩ := bindE hF
    refine w_seqJ ⟨[(0, .ro (.rp (MPrg.ct p1) 0)), (1, .v (.int .i64 a1)), (5, .v (.int .i64 s3))], [], 1⟩ ?_ ?_
    · refine w_seq (w_region (by rfl) (dv1 (l_assign (.v _)) (dvE (q_seq (w_block (w_loopF hF (fun (s3005 : Int × Int) => ⟨[(0, .ro (.rp (MPrg.ct p1) 0)), (1, .v (.int .i64 a1)), (5, .v (.int .i64 s3005.1)), (6, .v (.int .i64 s3005.2))], [], 1⟩) (le_of [] A (.s (.s (.s (.s .nil A) A) A) A) .nil) ?_))))))
      intro s3005 y3006 hF hx3007
      refine w_seq ?_
      obtain ⟨s3010, hF, hG3011⟩ := bindE hF
      refine w_seqJ ⟨[(0, .ro (.rp (MPrg.ct p1) 0)), (1, .v (.int .i64 a1)), (5, .v (.int .i64 s3005.1)), (6, .v (.int .i64 s3005.2)), (42, .v (.bool s3010))], [], 1⟩ ?_ ?_
      · refine w_region (by rfl) (dv1 (l_move (.v _)) (dv1 (l_move (.ro _)) (dv1 (l_nilRo A) (dv1 (l_fieldRo fd26_0 A) (dv1 (l_loadRo ty22 A A) (dv1 (l_lenRo sl22 A A (List.length_map _)) (dv1 (l_bin A A b_lss) (dv1 (l_move (.v _)) ?_))))))))
        rcases condE hF with ⟨b3012, hF⟩ | ⟨b3012, hF⟩
        · refine dv1 (l_gT A A (gt A b3012) fun _ => l_move (.v _)) (dv1 (l_gT A A (gt A b3012) fun _ => l_move (.v _)) (dv1 (l_gT A A (gt A b3012) fun _ => l_bin A A b_leq) (dv1 (l_pickT (gt A b3012) (.v _)) (dvE ?_))))
          cases hF
          refine q_join ?_
          exact (le_of [] A (.s (.s (.s (.s (.s .nil A) A) A) A) A) .nil)
        · refine dv1 (l_gF A A (gt A b3012) A) (dv1 (l_gF A A (gt A b3012) A) (dv1 (l_gF A A (gt A b3012) A) (dv1 (l_pickF (gt A b3012) (.v _)) (dvE ?_))))
          cases hF
          refine q_join ?_
          exact (le_of [] A (.s (.s (.s (.s (.s .nil A) A) A) A) A) .nil)
      replace hF := hG3011
      rcases condE hF with ⟨b3013, hF⟩ | ⟨b3013, hF⟩
      · refine w_condT A b3013 ?_
        refine w_skip (q_seq (w_seq (w_block (w_region (by rfl) (dv1 (l_move (.v _)) (dv1 (l_move (.ro _)) (dv1 (l_nilRo A) (dv1 (l_fieldRo fd26_0 A) ?_))))))))
        refine dv1 (l_loadRo ty22 A A) (dv1 (l_move (.v _)) ?_)
        obtain ⟨x3014, h3015, hF⟩ := bindE hF
        refine dv1 (l_indexRo s3005.2.toNat sl22 A A (atI_z h3015) (map_at (atI_at h3015))) (dv1 (l_fieldRo fd40_0 A) (dv1 (l_loadRo ty29 A A) (dv1 (l_lenRo sl29 A A (List.length_map _)) (dv1 (l_bin A A (b_add A)) (dv1 (l_assign (.v _)) (dvE (q_in (q_seq ?_))))))))
        refine w_region (by rfl) (dv1 (l_move (.v _)) (dv1 (l_bin A A (b_add A)) (dv1 (l_assign (.v _)) (dvE ?_))))
        cases hF
        refine qL A ?_
        exact (le_of [] A (.s (.s (.s (.s .nil A) A) A) A) .nil)
      · refine w_condF A b3013 ?_
        refine w_exit ?_
        cases hF
        cases hx3007 _ rfl
        refine q_exS (q_exS (q_here (q_join ?_)))
        exact (le_of [] A (.s (.s (.s .nil A) A) A) .nil)
    replace hF := hG4
    obtain ⟨s3017, hF, hG3018⟩ := bindE hF
    refine w_seqJ ⟨[(0, .ro (.rp (MPrg.ct p1) 0)), (1, .v (.int .i64 a1)), (5, .v (.int .i64 s3017))], [], 1⟩ ?_ ?_
    · refine w_seq (w_region (by rfl) (dv1 (l_assign (.v _)) (dvE (q_seq (w_block (w_loopF hF (fun (s6019 : Int × Int) => ⟨[(0, .ro (.rp (MPrg.ct p1) 0)), (1, .v (.int .i64 a1)), (5, .v (.int .i64 s6019.1)), (7, .v (.int .i64 s6019.2))], [], 1⟩) (le_of [] A (.s (.s (.s (.s .nil A) A) A) A) .nil) ?_))))))
      intro s6019 y6020 hF hx6021
      refine w_seq ?_
      obtain ⟨s6024, hF, hG6025⟩ := bindE hF
      refine w_seqJ ⟨[(0, .ro (.rp (MPrg.ct p1) 0)), (1, .v (.int .i64 a1)), (5, .v (.int .i64 s6019.1)), (7, .v (.int .i64 s6019.2)), (67, .v (.bool s6024))], [], 1⟩ ?_ ?_
      · refine w_region (by rfl) (dv1 (l_move (.v _)) (dv1 (l_move (.ro _)) (dv1 (l_nilRo A) (dv1 (l_fieldRo fd26_1 A) (dv1 (l_loadRo ty23 A A) (dv1 (l_lenRo sl23 A A (List.length_map _)) (dv1 (l_bin A A b_lss) (dv1 (l_move (.v _)) ?_))))))))
        rcases condE hF with ⟨b6026, hF⟩ | ⟨b6026, hF⟩
        · refine dv1 (l_gT A A (gt A b6026) fun _ => l_move (.v _)) (dv1 (l_gT A A (gt A b6026) fun _ => l_move (.v _)) (dv1 (l_gT A A (gt A b6026) fun _ => l_bin A A b_leq) (dv1 (l_pickT (gt A b6026) (.v _)) (dvE ?_))))
          cases hF
          refine q_join ?_
          exact (le_of [] A (.s (.s (.s (.s (.s .nil A) A) A) A) A) .nil)
        · refine dv1 (l_gF A A (gt A b6026) A) (dv1 (l_gF A A (gt A b6026) A) (dv1 (l_gF A A (gt A b6026) A) (dv1 (l_pickF (gt A b6026) (.v _)) (dvE ?_))))
          cases hF
          refine q_join ?_
          exact (le_of [] A (.s (.s (.s (.s (.s .nil A) A) A) A) A) .nil)
      replace hF := hG6025
      rcases condE hF with ⟨b6027, hF⟩ | ⟨b6027, hF⟩
      · refine w_condT A b6027 ?_
        refine w_skip (q_seq (w_seq (w_block (w_draw [[], [], [1], [1, 2], [1, 2, 3], [], [1, 2, 3, 4, 5], [1, 2, 3, 4, 5, 6], [1, 2, 3, 4, 5, 6, 7], [1, 2, 3, 4, 5, 6, 7, 8], [0, 1, 2, 3, 4, 5, 6, 7, 8, 9], [], [11], [11, 12], [11, 12, 13], [], [11, 12, 13, 14, 15], [11, 12, 13, 14, 15, 16], [11, 12, 13, 14, 15, 16, 17], [11, 12, 13, 14, 15, 16, 17, 18], [0, 1, 2, 3, 4, 5, 6, 7, 8, 9, 10, 11, 12, 13, 14, 15, 16, 17, 18, 19], [0, 1, 2, 3, 4, 5, 6, 7, 8, 9, 10, 11, 12, 13, 14, 15, 16, 17, 18, 19, 20]] [0, 1, 2, 3, 4, 5, 6, 7, 8, 9, 10, 11, 12, 13, 14, 15, 16, 17, 18, 19, 20, 21] (by kernel_rfl) (by rfl) ⟨by decide, by rfl⟩ (by rfl) ?_))))
        refine de1 A (l_move (.v _)) A (de1 A (l_move (.ro _)) A (de1 A (l_nilRo A) A (de1 A (l_fieldRo fd26_1 A) A (de1 A (l_loadRo ty23 A A) A (de1 A (l_move (.v _)) A ?_)))))
        obtain ⟨x6028, h6029, hF⟩ := bindE hF
        refine de1 A (l_indexRo s6019.2.toNat sl23 A A (atI_z h6029) (map_at (atI_at h6029))) A (de1 A (l_fieldRo fd42_0 A) A (de1 A (l_loadRo ty29 A A) A (de1 A (l_lenRo sl29 A A (List.length_map _)) A (de1 A (l_bin A A (b_add A)) A (de1 A (l_move (.ro _)) A (de1 A (l_nilRo A) A (de1 A (l_fieldRo fd26_1 A) A (de1 A (l_loadRo ty23 A A) A ?_))))))))
        refine de1 A (l_move (.v _)) A (de1 A (l_indexRo s6019.2.toNat sl23 A A (atI_z h6029) (map_at (atI_at h6029))) A (de1 A (l_fieldRo fd42_1 A) A (de1 A (l_loadRo ty29 A A) A (de1 A (l_lenRo sl29 A A (List.length_map _)) A (de1 A (l_bin A A (b_add A)) A (de1 A (l_assign (.v _)) A (ddE (q_in ?_))))))))
        refine q_seq (w_region (by rfl) (dv1 (l_move (.v _)) (dv1 (l_bin A A (b_add A)) (dv1 (l_assign (.v _)) (dvE ?_)))))
        cases hF
        refine qL A ?_
        exact (le_of [] A (.s (.s (.s (.s .nil A) A) A) A) .nil)
      · refine w_condF A b6027 ?_
        refine w_exit ?_
        cases hF
        cases hx6021 _ rfl
        refine q_exS (q_exS (q_here (q_join ?_)))
        exact (le_of [] A (.s (.s (.s .nil A) A) A) .nil)
    replace hF := hG3018
    obtain ⟨s6031, hF, hG6032⟩ := bindE hF
    refine w_seqJ ⟨[(1, .v (.int .i64 a1)), (5, .v (.int .i64 s6031))], [], 1⟩ ?_ ?_
    · refine w_seq (w_region (by rfl) (dv1 (l_assign (.v _)) (dvE (q_seq (w_block (w_loopF hF (fun (s9033 : Int × Int) => ⟨[(0, .ro (.rp (MPrg.ct p1) 0)), (1, .v (.int .i64 a1)), (5, .v (.int .i64 s9033.1)), (8, .v (.int .i64 s9033.2))], [], 1⟩) (le_of [] A (.s (.s (.s (.s .nil A) A) A) A) .nil) ?_))))))
      intro s9033 y9034 hF hx9035
      refine w_seq ?_
      obtain ⟨s9038, hF, hG9039⟩ := bindE hF
      refine w_seqJ ⟨[(0, .ro (.rp (MPrg.ct p1) 0)), (1, .v (.int .i64 a1)), (5, .v (.int .i64 s9033.1)), (8, .v (.int .i64 s9033.2)), (102, .v (.bool s9038))], [], 1⟩ ?_ ?_
      · refine w_region (by rfl) (dv1 (l_move (.v _)) (dv1 (l_move (.ro _)) (dv1 (l_nilRo A) (dv1 (l_fieldRo fd26_2 A) (dv1 (l_loadRo ty24 A A) (dv1 (l_lenRo sl24 A A (List.length_map _)) (dv1 (l_bin A A b_lss) (dv1 (l_move (.v _)) ?_))))))))
        rcases condE hF with ⟨b9040, hF⟩ | ⟨b9040, hF⟩
        · refine dv1 (l_gT A A (gt A b9040) fun _ => l_move (.v _)) (dv1 (l_gT A A (gt A b9040) fun _ => l_move (.v _)) (dv1 (l_gT A A (gt A b9040) fun _ => l_bin A A b_leq) (dv1 (l_pickT (gt A b9040) (.v _)) (dvE ?_))))
          cases hF
          refine q_join ?_
          exact (le_of [] A (.s (.s (.s (.s (.s .nil A) A) A) A) A) .nil)
        · refine dv1 (l_gF A A (gt A b9040) A) (dv1 (l_gF A A (gt A b9040) A) (dv1 (l_gF A A (gt A b9040) A) (dv1 (l_pickF (gt A b9040) (.v _)) (dvE ?_))))
          cases hF
          refine q_join ?_
          exact (le_of [] A (.s (.s (.s (.s (.s .nil A) A) A) A) A) .nil)
      replace hF := hG9039
      rcases condE hF with ⟨b9041, hF⟩ | ⟨b9041, hF⟩
      · refine w_condT A b9041 ?_
        refine w_skip (q_seq ?_)
        obtain ⟨s9043, hF, hG9044⟩ := bindE hF
        refine w_seqJ ⟨[(0, .ro (.rp (MPrg.ct p1) 0)), (1, .v (.int .i64 a1)), (5, .v (.int .i64 s9043)), (8, .v (.int .i64 s9033.2))], [], 1⟩ ?_ ?_
        · refine w_block (w_seq (w_region (by rfl) (dv1 (l_move (.v _)) (dv1 (l_move (.ro _)) (dv1 (l_nilRo A) (dv1 (l_fieldRo fd26_2 A) (dv1 (l_loadRo ty24 A A) (dv1 (l_move (.v _)) ?_))))))))
          obtain ⟨x9045, h9046, hF⟩ := bindE hF
          refine dv1 (l_indexRo s9033.2.toNat sl24 A A (atI_z h9046) (map_at (atI_at h9046))) (dv1 (l_fieldRo fd33_1 A) (dv1 (l_loadRo ty31 A A) (dv1 (l_lenRo sl31 A A (List.length_map _)) (dv1 (l_bin A A (b_add A)) (dv1 (l_assign (.v _)) (dvE (q_seq (w_seq ?_))))))))
          refine w_region (by rfl) (dv1 (l_assign (.v _)) (dvE (q_seq (w_block (w_loopF hF (fun (s12047 : Int × Int) => ⟨[(0, .ro (.rp (MPrg.ct p1) 0)), (1, .v (.int .i64 a1)), (5, .v (.int .i64 s12047.1)), (8, .v (.int .i64 s9033.2)), (9, .v (.int .i64 s12047.2))], [], 1⟩) (le_of [] A (.s (.s (.s (.s (.s .nil A) A) A) A) A) .nil) ?_)))))
          intro s12047 y12048 hF hx12049
          refine w_seq ?_
          obtain ⟨s12052, hF, hG12053⟩ := bindE hF
          refine w_seqJ ⟨[(0, .ro (.rp (MPrg.ct p1) 0)), (1, .v (.int .i64 a1)), (5, .v (.int .i64 s12047.1)), (8, .v (.int .i64 s9033.2)), (9, .v (.int .i64 s12047.2)), (131, .v (.bool s12052))], [], 1⟩ ?_ ?_
          · refine w_region (by rfl) (dv1 (l_move (.v _)) (dv1 (l_move (.ro _)) (dv1 (l_nilRo A) (dv1 (l_fieldRo fd26_2 A) (dv1 (l_loadRo ty24 A A) (dv1 (l_move (.v _)) (dv1 (l_indexRo s9033.2.toNat sl24 A A (atI_z h9046) (map_at (atI_at h9046))) (dv1 (l_fieldRo fd33_1 A) ?_))))))))
            refine dv1 (l_loadRo ty31 A A) (dv1 (l_lenRo sl31 A A (List.length_map _)) (dv1 (l_bin A A b_lss) (dv1 (l_move (.v _)) ?_)))
            rcases condE hF with ⟨b12054, hF⟩ | ⟨b12054, hF⟩
            · refine dv1 (l_gT A A (gt A b12054) fun _ => l_move (.v _)) (dv1 (l_gT A A (gt A b12054) fun _ => l_move (.v _)) (dv1 (l_gT A A (gt A b12054) fun _ => l_bin A A b_leq) (dv1 (l_pickT (gt A b12054) (.v _)) (dvE ?_))))
              cases hF
              refine q_join ?_
              exact (le_of [] A (.s (.s (.s (.s (.s (.s .nil A) A) A) A) A) A) .nil)
            · refine dv1 (l_gF A A (gt A b12054) A) (dv1 (l_gF A A (gt A b12054) A) (dv1 (l_gF A A (gt A b12054) A) (dv1 (l_pickF (gt A b12054) (.v _)) (dvE ?_))))
              cases hF
              refine q_join ?_
              exact (le_of [] A (.s (.s (.s (.s (.s (.s .nil A) A) A) A) A) A) .nil)
          replace hF := hG12053
          rcases condE hF with ⟨b12055, hF⟩ | ⟨b12055, hF⟩
          · refine w_condT A b12055 ?_
            refine w_skip (q_seq ?_)
            obtain ⟨s12057, hF, hG12058⟩ := bindE hF
            refine w_seqJ ⟨[(0, .ro (.rp (MPrg.ct p1) 0)), (1, .v (.int .i64 a1)), (5, .v (.int .i64 s12057)), (8, .v (.int .i64 s9033.2)), (9, .v (.int .i64 s12047.2))], [], 1⟩ ?_ ?_
            · refine w_block (w_seq (w_region (by rfl) (dv1 (l_move (.ro _)) (dv1 (l_nilRo A) (dv1 (l_fieldRo fd26_2 A) (dv1 (l_loadRo ty24 A A) (dv1 (l_move (.v _)) (dv1 (l_indexRo s9033.2.toNat sl24 A A (atI_z h9046) (map_at (atI_at h9046))) ?_))))))))
              refine dv1 (l_fieldRo fd33_1 A) (dv1 (l_loadRo ty31 A A) (dv1 (l_move (.v _)) ?_))
              obtain ⟨x12059, h12060, hF⟩ := bindE hF
              refine dv1 (l_indexRo s12047.2.toNat sl31 A A (atI_z h12060) (map_at (atI_at h12060))) (dv1 (l_loadARo ty47 A A) (dvN (l_alloc zt47) (dvS (l_store ty47 A (.ag _) A A A (Nat.le_of_ble_eq_true A) A) (dvE (q_seq (w_seq (w_region (by rfl) (dv1 (l_move (.v _)) ?_))))))))
              refine dv1 (l_field fd47_0 A) (dv1 (l_load ty29 A A A A A) (dv1 (l_lenRo sl29 A A (List.length_map _)) (dv1 (l_bin A A (b_add A)) (dv1 (l_field fd47_1 A) (dv1 (l_load ty43 A A A A A) (dv1 (l_lenRo sl43 A A (List.length_map _)) (dv1 (l_bin A A (b_add A)) (dv1 (l_field fd47_2 A) ?_))))))))
              refine dv1 (l_field fd45_4 A) (dv1 (l_load ty29 A A A A A) (dv1 (l_lenRo sl29 A A (List.length_map _)) (dv1 (l_bin A A (b_add A)) (dv1 (l_field fd47_2 A) (dv1 (l_field fd45_5 A) (dv1 (l_load ty29 A A A A A) (dv1 (l_lenRo sl29 A A (List.length_map _)) (dv1 (l_bin A A (b_add A)) ?_))))))))
              refine dv1 (l_assign (.v _)) (dvE (q_seq (w_seq (w_region (by rfl) (dv1 (l_assign (.v _)) (dvE (q_seq (w_block ?_))))))))
              refine w_loopF hF (fun (s15061 : Int × Int) => ⟨[(0, .ro (.rp (MPrg.ct p1) 0)), (1, .v (.int .i64 a1)), (5, .v (.int .i64 s15061.1)), (8, .v (.int .i64 s9033.2)), (9, .v (.int .i64 s12047.2)), (10, .ad 0 8 0 0), (11, .v (.int .i64 s15061.2))], [(0, some ⟨47, 8, [[.ro (.sl 3 1 (x12059.Params.map iC)), .ro (.sl 49 8 (x12059.Ops.map MOp.ct)), .v (.int .i64 x12059.End.K), .v (.int .i64 x12059.End.A), .v (.int .i64 x12059.End.To), .v (.int .i64 x12059.End.Else), .ro (.sl 3 1 (x12059.End.L.map iC)), .ro (.sl 3 1 (x12059.End.M.map iC))]]⟩)], 1⟩) (le_of [(0, some 768)] A (.s (.s (.s (.s (.s (.s (.s .nil A) A) A) A) A) A) A) (.box A A (.s A) .nil)) ?_
              intro s15061 y15062 hF hx15063
              refine w_seq ?_
              obtain ⟨s15066, hF, hG15067⟩ := bindE hF
              refine w_seqJ ⟨[(0, .ro (.rp (MPrg.ct p1) 0)), (1, .v (.int .i64 a1)), (5, .v (.int .i64 s15061.1)), (8, .v (.int .i64 s9033.2)), (9, .v (.int .i64 s12047.2)), (10, .ad 0 8 0 0), (11, .v (.int .i64 s15061.2)), (173, .v (.bool s15066))], [(0, some ⟨47, 8, [[.ro (.sl 3 1 (x12059.Params.map iC)), .ro (.sl 49 8 (x12059.Ops.map MOp.ct)), .v (.int .i64 x12059.End.K), .v (.int .i64 x12059.End.A), .v (.int .i64 x12059.End.To), .v (.int .i64 x12059.End.Else), .ro (.sl 3 1 (x12059.End.L.map iC)), .ro (.sl 3 1 (x12059.End.M.map iC))]]⟩)], 1⟩ ?_ ?_
              · refine w_region (by rfl) (dv1 (l_move (.v _)) (dv1 (l_field fd47_1 A) (dv1 (l_load ty43 A A A A A) (dv1 (l_lenRo sl43 A A (List.length_map _)) (dv1 (l_bin A A b_lss) (dv1 (l_move (.v _)) ?_))))))
                rcases condE hF with ⟨b15068, hF⟩ | ⟨b15068, hF⟩
                · refine dv1 (l_gT A A (gt A b15068) fun _ => l_move (.v _)) (dv1 (l_gT A A (gt A b15068) fun _ => l_move (.v _)) (dv1 (l_gT A A (gt A b15068) fun _ => l_bin A A b_leq) (dv1 (l_pickT (gt A b15068) (.v _)) (dvE ?_))))
                  cases hF
                  refine q_join ?_
                  exact (le_of [(0, some 0)] A (.s (.s (.s (.s (.s (.s (.s (.s .nil A) A) A) A) A) A) A) A) (.box A A (.s A) .nil))
                · refine dv1 (l_gF A A (gt A b15068) A) (dv1 (l_gF A A (gt A b15068) A) (dv1 (l_gF A A (gt A b15068) A) (dv1 (l_pickF (gt A b15068) (.v _)) (dvE ?_))))
                  cases hF
                  refine q_join ?_
                  exact (le_of [(0, some 0)] A (.s (.s (.s (.s (.s (.s (.s (.s .nil A) A) A) A) A) A) A) A) (.box A A (.s A) .nil))
              replace hF := hG15067
              rcases condE hF with ⟨b15069, hF⟩ | ⟨b15069, hF⟩
              · refine w_condT A b15069 ?_
                refine w_skip (q_seq (w_seq (w_block (w_draw [[], [], [1], [], [1, 2, 3], [1, 2, 3, 4], [1, 2, 3, 4, 5], [1, 2, 3, 4, 5, 6], [0, 1, 2, 3, 4, 5, 6, 7], [], [9], [], [9, 10, 11], [9, 10, 11, 12], [9, 10, 11, 12, 13], [9, 10, 11, 12, 13, 14], [9, 10, 11, 12, 13, 14, 15], [0, 1, 2, 3, 4, 5, 6, 7, 8, 9, 10, 11, 12, 13, 14, 15, 16], [0, 1, 2, 3, 4, 5, 6, 7, 8, 9, 10, 11, 12, 13, 14, 15, 16, 17]] [0, 1, 2, 3, 4, 5, 6, 7, 8, 9, 10, 11, 12, 13, 14, 15, 16, 17, 18] (by kernel_rfl) (by rfl) ⟨by decide, by rfl⟩ (by rfl) ?_))))
                refine de1 A (l_move (.v _)) A (de1 A (l_field fd47_1 A) A (de1 A (l_load ty43 A A A A A) A (de1 A (l_move (.v _)) A ?_)))
                obtain ⟨x15070, h15071, hF⟩ := bindE hF
                refine de1 A (l_indexRo s15061.2.toNat sl43 A A (atI_z h15071) (map_at (atI_at h15071))) A (de1 A (l_fieldRo fd49_6 A) A (de1 A (l_loadRo ty29 A A) A (de1 A (l_lenRo sl29 A A (List.length_map _)) A (de1 A (l_bin A A (b_add A)) A (de1 A (l_field fd47_1 A) A (de1 A (l_load ty43 A A A A A) A (de1 A (l_move (.v _)) A (de1 A (l_indexRo s15061.2.toNat sl43 A A (atI_z h15071) (map_at (atI_at h15071))) A ?_))))))))
                refine de1 A (l_fieldRo fd49_5 A) A (de1 A (l_loadRo ty9 A A) A (de1 A (l_lenStr (by kernel_rfl) A A) A (de1 A (l_bin A A (b_quo (by decide) A)) A (de1 A (l_bin A A (b_add A)) A (de1 A (l_assign (.v _)) A (ddE (q_in (q_seq ?_))))))))
                refine w_region (by rfl) (dv1 (l_move (.v _)) (dv1 (l_bin A A (b_add A)) (dv1 (l_assign (.v _)) (dvE ?_))))
                cases hF
                refine qL A ?_
                exact (le_of [(0, some 0)] A (.s (.s (.s (.s (.s (.s (.s .nil A) A) A) A) A) A) A) (.box A A (.s A) .nil))
              · refine w_condF A b15069 ?_
                refine w_exit ?_
                cases hF
                cases hx15063 _ rfl
                refine q_exS (q_exS (q_here (q_in (q_join ?_))))
                exact (le_of [] A (.s (.s (.s (.s (.s .nil A) A) A) A) A) .nil)
            replace hF := hG12058
            refine w_region (by rfl) (dv1 (l_move (.v _)) (dv1 (l_bin A A (b_add A)) (dv1 (l_assign (.v _)) (dvE ?_))))
            cases hF
            refine qL A ?_
            exact (le_of [] A (.s (.s (.s (.s (.s .nil A) A) A) A) A) .nil)
          · refine w_condF A b12055 ?_
            refine w_exit ?_
            cases hF
            cases hx12049 _ rfl
            refine q_exS (q_exS (q_here (q_in (q_join ?_))))
            exact (le_of [] A (.s (.s (.s (.s .nil A) A) A) A) .nil)
        replace hF := hG9044
        refine w_region (by rfl) (dv1 (l_move (.v _)) (dv1 (l_bin A A (b_add A)) (dv1 (l_assign (.v _)) (dvE ?_))))
        cases hF
        refine qL A ?_
        exact (le_of [] A (.s (.s (.s (.s .nil A) A) A) A) .nil)
      · refine w_condF A b9041 ?_
        refine w_exit ?_
        cases hF
        cases hx9035 _ rfl
        refine q_exS (q_exS (q_here (q_join ?_)))
        exact (le_of [] A (.s (.s .nil A) A) .nil)
    replace hF := hG6032
    refine w_seq (w_region (by rfl) (dv1 (l_move (.v _)) (dv1 (l_move (.v _)) (dv1 (l_bin A A b_leq) (dv1 (l_assign (.v _)) (dvE (q_seq (w_ret ?_))))))))
    cases hF
    refine q_end (.inr A) ?_
    exact ret_ok A (.cons (.tmp (.v _) (.v _)) .nil) (by decide) A

def p_code_first (a0 : MFun) (a1 : Int) : Option Int :=
((((natI (if (0 : Int) < (if ((a0.Blocks.length : Nat) : Int) < a1 then ((a0.Blocks.length : Nat) : Int) else a1) then (if ((a0.Blocks.length : Nat) : Int) < a1 then ((a0.Blocks.length : Nat) : Int) else a1) else 0)).bind fun m4 =>
(ck (0 ≤ m4 ∧ m4 ≤ a0.Blocks.length)
((loop (fun (s3007 : Int × Nat) =>
(bif decide (s3007.2 < (takeN a0.Blocks 0 m4).length) then
(((takeN a0.Blocks 0 m4)[s3007.2]?).bind fun x3013 =>
some (Xt.go (IntKind.i64.wrap (s3007.1 + IntKind.i64.wrap (((x3013.Params.length : Nat) : Int) + ((x3013.Ops.length : Nat) : Int))), (s3007.2 + 1))))
else
some (Xt.out s3007.1))) Fu (0, 0)))))).bind fun (s2 : Int) =>
some s2)

theorem p_code_first_ok {r : Int} : rOk (.v (.int .i64 r)) = true ∧ FrT (.v (.int .i64 r)) := ⟨rfl, (.one (.cl (.v _)))⟩

set_option maxRecDepth 10000 in
set_option maxHeartbeats 4000000 in
theorem p_code_first_ac {a0 : MFun} {a1 : Int} {r : Int} (hF : p_code_first a0 a1 = some r) : AC Tryd.prog GT 26 [.ag (MFun.ct a0), .v (.int .i64 a1)] (fun c => c = .v (.int .i64 r)) := by
  unfold p_code_first at hF
  refine AC.mk (nt := 33) Tryd.func26 A A A fun w N => ?_
  refine w_seq (w_region (by rfl) (dvN (l_box (.ag _) A A) (dv1 (l_assign (.v _)) (dvE (q_seq (w_seq (w_region (by rfl) (dv1 (l_assign (.v _)) ?_))))))))
  refine dvE (q_seq ?_)
  obtain ⟨s2, hF, hG3⟩ := bindE hF
  refine w_seqJ ⟨[(5, .v (.int .i64 s2))], [], 1⟩ ?_ ?_
  · refine w_seq (w_region (by rfl) (dv1 (l_field fd33_1 A) (dv1 (l_load ty31 A A A A A) (dv1 (l_move (.v _)) (dv1 (l_field fd33_1 A) (dv1 (l_load ty31 A A A A A) (dv1 (l_lenRo sl31 A A (List.length_map _)) (dv1 (l_minI A A) ?_))))))))
    refine dv1 (l_maxI A A) ?_
    obtain ⟨m4, h5, hF⟩ := bindE hF
    obtain ⟨c6, hF⟩ := ckE hF
    refine dv1 (l_cutRo sl31 A (.inl ⟨A, A⟩) (cutHi A (natI_z h5)) c6.1 (by rw [List.length_map]; exact c6.2) (map_takeN _ _ _ _)) (dv1 (l_lenRo sl31 A A (List.length_map _)) (dv1 (l_move (.v _)) (dvE (q_seq (w_block (w_loopF hF (fun (s3007 : Int × Nat) => ⟨[(5, .v (.int .i64 s3007.1)), (16, .ro (.sl 47 8 ((takeN a0.Blocks 0 m4).map MBlk.ct))), (17, .v (.int .i64 (((takeN a0.Blocks 0 m4).length : Nat) : Int))), (18, .v (.int .i64 ((s3007.2 : Nat) : Int)))], [], 1⟩) (le_of [] A (.s (.s (.s (.s .nil A) A) A) A) .nil) ?_))))))
    intro s3007 y3008 hF hx3009
    refine w_seq (w_region (by rfl) (dv1 (l_bin A A b_lssN) (dvE (q_seq (w_seq ?_)))))
    rcases condE hF with ⟨b3011, hF⟩ | ⟨b3011, hF⟩
    · refine w_lenS 16 A fun l3012 => ?_
      refine w_condT A b3011 ?_
      refine w_skip (q_seq (w_seq (w_block (w_seq (w_region (by rfl) ?_)))))
      obtain ⟨x3013, h3014, hF⟩ := bindE hF
      refine dv1 (l_indexRo s3007.2 sl31 A A A (map_at h3014)) (dv1 (l_loadARo ty47 A A) (dvN (l_alloc zt47) (dvS (l_store ty47 A (.ag _) A A A (Nat.le_of_ble_eq_true A) A) (dvE (q_seq (w_region (by rfl) (dv1 (l_move (.v _)) (dv1 (l_field fd47_0 A) ?_))))))))
      refine dv1 (l_load ty29 A A A A A) (dv1 (l_lenRo sl29 A A (List.length_map _)) (dv1 (l_field fd47_1 A) (dv1 (l_load ty43 A A A A A) (dv1 (l_lenRo sl43 A A (List.length_map _)) (dv1 (l_bin A A (b_add A)) (dv1 (l_bin A A (b_add A)) (dv1 (l_assign (.v _)) (dvE ?_))))))))
      refine q_in (q_seq (w_region (by rfl) (dv1 (l_bin A A (b_incN (of_decide_eq_true b3011) l3012)) (dv1 (l_move (.v _)) (dvE ?_)))))
      cases hF
      refine qL A ?_
      exact (le_of [] A (.s (.s (.s (.s .nil A) A) A) A) .nil)
    · refine w_condF A b3011 ?_
      refine w_exit ?_
      cases hF
      cases hx3009 _ rfl
      refine q_exS (q_exS (q_here (q_join ?_)))
      exact (le_of [] A (.s .nil A) .nil)
  replace hF := hG3
  refine w_seq (w_region (by rfl) (dv1 (l_move (.v _)) (dv1 (l_assign (.v _)) (dvE (q_seq (w_ret ?_))))))
  cases hF
  refine q_end (.inr A) ?_
  exact ret_ok A (.cons (.tmp (.v _) (.v _)) .nil) (by decide) A

def p_code_Values (a0 : MFun) : Option Int :=
((p_code_first a0 ((a0.Blocks.length : Nat) : Int)).bind fun y1 =>
some y1)

theorem p_code_Values_ok {r : Int} : rOk (.v (.int .i64 r)) = true ∧ FrT (.v (.int .i64 r)) := ⟨rfl, (.one (.cl (.v _)))⟩

set_option maxRecDepth 10000 in
set_option maxHeartbeats 4000000 in
theorem p_code_Values_ac {a0 : MFun} {r : Int} (hF : p_code_Values a0 = some r) : AC Tryd.prog GT 20 [.ag (MFun.ct a0)] (fun c => c = .v (.int .i64 r)) := by
  unfold p_code_Values at hF
  refine AC.mk (nt := 8) Tryd.func20 A A A fun w N => ?_
  refine w_seq (w_region (by rfl) (dvN (l_box (.ag _) A A) (dv1 (l_assign (.v _)) (dvE (q_seq (w_seq (w_region (by rfl) (dv1 (l_loadA ty33 A A A A A) ?_))))))))
  refine dv1 (l_field fd33_1 A) (dv1 (l_load ty31 A A A A A) (dv1 (l_lenRo sl31 A A (List.length_map _)) ?_))
  obtain ⟨y1, h2, hF⟩ := bindE hF
  refine dvC (l_call (B := false) (FnI.mk' (by kernel_rfl)) (.cons (.ag _) (.ag (.cons (.v _) (.cons (.ro _) .nil))) (.cons (.v _) (.one (.v _)) .nil)) (p_code_first_ac h2) (okF p_code_first_ok)) ?_
  rintro _ rfl
  refine dv1 (l_assign (.v _)) (dvE (q_seq (w_ret ?_)))
  cases hF
  refine q_end (.inr A) ?_
  exact ret_ok A (.cons (.tmp (.v _) (.v _)) .nil) (by decide) A

def p_kind_fieldsOf (a0 : Int) : Option ByteArray :=
(((bif decide (a0 < 0) then
some true
else
some (decide ((26 : Int) ≤ a0)))).bind fun (s2 : Bool) =>
(bif s2 then
some ⟨#[]⟩
else
((atI fldT a0).bind fun x6 =>
some x6)))

theorem p_kind_fieldsOf_ok {r : ByteArray} : rOk (.v (.string r)) = true ∧ FrT (.v (.string r)) := ⟨rfl, (.one (.cl (.v _)))⟩

set_option maxRecDepth 10000 in
set_option maxHeartbeats 4000000 in
theorem p_kind_fieldsOf_ac {a0 : Int} {r : ByteArray} (hF : p_kind_fieldsOf a0 = some r) : AC Tryd.prog GT 68 [.v (.int .i64 a0)] (fun c => c = .v (.string r)) := by
  unfold p_kind_fieldsOf at hF
  refine AC.mk (nt := 12) Tryd.func68 A A A fun w N => ?_
  refine w_seq (w_region (by rfl) (dv1 (l_assign (.v _)) (dvE (q_seq (w_seq ?_)))))
  obtain ⟨s2, hF, hG3⟩ := bindE hF
  refine w_seqJ ⟨[(0, .v (.int .i64 a0)), (8, .v (.bool s2))], [], 1⟩ ?_ ?_
  · refine w_region (by rfl) (dv1 (l_move (.v _)) (dv1 (l_bin A A b_lss) (dv1 (l_move (.v _)) ?_)))
    rcases condE hF with ⟨b4, hF⟩ | ⟨b4, hF⟩
    · refine dv1 (l_gF A A (gt A b4) A) (dv1 (l_gF A A (gt A b4) A) (dv1 (l_pickT (gt A b4) (.v _)) (dvE ?_)))
      cases hF
      refine q_join ?_
      exact (le_of [] A (.s (.s .nil A) A) .nil)
    · refine dv1 (l_gT A A (gt A b4) fun _ => l_move (.v _)) (dv1 (l_gT A A (gt A b4) fun _ => l_bin A A b_geq) (dv1 (l_pickF (gt A b4) (.v _)) (dvE ?_)))
      cases hF
      refine q_join ?_
      exact (le_of [] A (.s (.s .nil A) A) .nil)
  replace hF := hG3
  rcases condE hF with ⟨b5, hF⟩ | ⟨b5, hF⟩
  · refine w_condT A b5 ?_
    refine w_seq (w_region (by rfl) (dv1 (l_assign (.v _)) (dvE (q_seq (w_ret (q_reS ?_))))))
    cases hF
    refine q_end (.inr A) ?_
    exact ret_ok A (.cons (.tmp (.v _) (.v _)) .nil) (by decide) A
  · refine w_condF A b5 ?_
    refine w_skip (q_seq (w_seq (w_region (by rfl) (dv1 (l_move (.v _)) ?_))))
    obtain ⟨x6, h7, hF⟩ := bindE hF
    refine dv1 (l_indexG a0.toNat ar113 gt_fldT A (atI_z h7) (lt_cg (lt_gt (atI_at h7)) A)) (dv1 (l_loadRo ty9 A (map_at (atI_at h7))) (dv1 (l_assign (.v _)) (dvE (q_seq (w_ret ?_)))))
    cases hF
    refine q_end (.inr A) ?_
    exact ret_ok A (.cons (.tmp (.v _) (.v _)) .nil) (by decide) A

def p_slices_Clone_int_int (a0 : List Int) : Option ((List Int)) :=
(nilC a0
(some [])
((ck (a0.length * 8 ≤ 140737488355328)
(some a0))))

theorem p_slices_Clone_int_int_ok {r : (List Int)} : rOk (.sl 3 1 (r.map iC)) = true ∧ FrT (.sl 3 1 (r.map iC)) := ⟨rfl, (.one (.cl (.sl _ _ (clm k_iC _))))⟩

set_option maxRecDepth 10000 in
set_option maxHeartbeats 4000000 in
theorem p_slices_Clone_int_int_ac {a0 : List Int} {r : (List Int)} (hF : p_slices_Clone_int_int a0 = some r) : AC Tryd.prog GT 60 [.sl 3 1 (a0.map iC)] (fun c => c = .sl 3 1 (r.map iC)) := by
  unfold p_slices_Clone_int_int at hF
  refine AC.mk (nt := 8) Tryd.func60 A A A fun w N => ?_
  refine w_seq (w_region (by rfl) (dv1 (l_assign (.v _)) (dvE (q_seq (w_seq (w_seq (w_region (by rfl) (dv1 (l_move (.ro _)) ?_))))))))
  refine dvB (l_nilRoS sl29 A) fun n1 hn2 => ?_
  refine dvE (q_seq ?_)
  rcases Bool.eq_false_or_eq_true n1 with b3 | b3
  · replace hF := (nilE hF).1 (nil_of (hn2 b3))
    refine w_condT A b3 ?_
    refine w_seq (w_region (by rfl) (dv1 (l_assign (.v _)) (dvE (q_seq (w_ret (q_reS ?_))))))
    cases hF
    refine q_end (.inr A) ?_
    exact ret_ok A (.cons (.tmp (.v _) (.nil _ _)) .nil) (by decide) A
  · replace hF := (nilE hF).2
    refine w_condF A b3 ?_
    refine w_skip (q_seq (w_seq (w_region (by rfl) (dvN (l_bs0 sl29 zt3 A (by decide)) (dv1 (l_move (.ro _)) ?_)))))
    obtain ⟨c4, hF⟩ := ckE hF
    refine dvN2 (l_appOR el29 A A A A A (ro_map (fun _ => A) _) A (by simpa using c4) (by decide)) ?_
    refine dv1 (l_assign (.rf _ _ _ _)) (dvE (q_seq (w_ret ?_)))
    cases hF
    refine q_end (.inr A) ?_
    exact ret_ok A (.cons (.tmp (.rf _ _ _ _) (.rf A A (clm k_iC _))) .nil) (by decide) A

def p_kind_plain (a0 : MOp) : Option MOp :=
((((p_kind_fieldsOf a0.K).bind fun y10 =>
(ck (y10.size ≤ 140737488355328)
((loop (fun (s3013 : Int × Int × Int × Int × ByteArray × (List Int) × Bool × Nat) =>
(bif decide (s3013.2.2.2.2.2.2.2 < (bytesL y10).length) then
(((((bytesL y10)[s3013.2.2.2.2.2.2.2]?).bind fun x3028 =>
(bif decide (x3028 = 78) then
some (s3013.1, s3013.2.1, s3013.2.2.1, a0.N, s3013.2.2.2.2.1, s3013.2.2.2.2.2.1, s3013.2.2.2.2.2.2.1)
else
(bif decide (x3028 = 83) then
some (s3013.1, s3013.2.1, s3013.2.2.1, s3013.2.2.2.1, a0.S, s3013.2.2.2.2.2.1, s3013.2.2.2.2.2.2.1)
else
(bif decide (x3028 = 65) then
some (a0.A, s3013.2.1, s3013.2.2.1, s3013.2.2.2.1, s3013.2.2.2.2.1, s3013.2.2.2.2.2.1, s3013.2.2.2.2.2.2.1)
else
(bif decide (x3028 = 66) then
some (s3013.1, a0.B, s3013.2.2.1, s3013.2.2.2.1, s3013.2.2.2.2.1, s3013.2.2.2.2.2.1, s3013.2.2.2.2.2.2.1)
else
(bif decide (x3028 = 67) then
some (s3013.1, s3013.2.1, a0.C, s3013.2.2.2.1, s3013.2.2.2.2.1, s3013.2.2.2.2.2.1, s3013.2.2.2.2.2.2.1)
else
(bif decide (x3028 = 76) then
((p_slices_Clone_int_int a0.L).bind fun y3036 =>
some (s3013.1, s3013.2.1, s3013.2.2.1, s3013.2.2.2.1, s3013.2.2.2.2.1, y3036, s3013.2.2.2.2.2.2.1))
else
(bif decide (x3028 = 75) then
some (s3013.1, s3013.2.1, s3013.2.2.1, s3013.2.2.2.1, s3013.2.2.2.2.1, s3013.2.2.2.2.2.1, a0.Stack)
else
some (s3013.1, s3013.2.1, s3013.2.2.1, s3013.2.2.2.1, s3013.2.2.2.2.1, s3013.2.2.2.2.2.1, s3013.2.2.2.2.2.2.1)))))))))).bind fun (s3026 : Int × Int × Int × Int × ByteArray × (List Int) × Bool) =>
some (Xt.go (s3026.1, s3026.2.1, s3026.2.2.1, s3026.2.2.2.1, s3026.2.2.2.2.1, s3026.2.2.2.2.2.1, s3026.2.2.2.2.2.2, (s3013.2.2.2.2.2.2.2 + 1))))
else
some (Xt.out (s3013.1, s3013.2.1, s3013.2.2.1, s3013.2.2.2.1, s3013.2.2.2.2.1, s3013.2.2.2.2.2.1, s3013.2.2.2.2.2.2.1)))) Fu (0, 0, 0, 0, ⟨#[]⟩, [], false, 0)))))).bind fun (s8 : Int × Int × Int × Int × ByteArray × (List Int) × Bool) =>
some (⟨a0.K, s8.1, s8.2.1, s8.2.2.1, s8.2.2.2.1, s8.2.2.2.2.1, s8.2.2.2.2.2.1, s8.2.2.2.2.2.2⟩ : MOp))

theorem p_kind_plain_ok {r : MOp} : rOk (.ag (MOp.ct r)) = true ∧ FrT (.ag (MOp.ct r)) := ⟨rfl, (.one (.ag (k_MOpct _)))⟩

set_option maxRecDepth 10000 in
set_option maxHeartbeats 4000000 in
theorem p_kind_plain_ac {a0 : MOp} {r : MOp} (hF : p_kind_plain a0 = some r) : AC Tryd.prog GT 57 [.ag (MOp.ct a0)] (fun c => c = .ag (MOp.ct r)) := by
  unfold p_kind_plain at hF
  refine AC.mk (nt := 57) Tryd.func57 A A A fun w N => ?_
  refine w_seq (w_region (by rfl) (dvN (l_box (.ag _) A A) (dvN (l_alloc zt49) (dvE (q_seq (w_seq (w_region (by rfl) (dv1 (l_field fd49_0 A) ?_))))))))
  refine dv1 (l_load ty3 A A A A A) (dv1 (l_build st49 zt49 (.cons (.v _) .nil) A A) (dvN (l_alloc zt49) (dvS (l_store ty49 A (.ag _) A A A (Nat.le_of_ble_eq_true A) A) (dvE (q_seq ?_)))))
  obtain ⟨s8, hF, hG9⟩ := bindE hF
  refine w_seqJ ⟨[(2, .ad 0 8 0 0), (3, .ad 1 8 0 0)], [(0, some ⟨49, 8, [[.v (.int .i64 0), .v (.int .i64 0), .v (.int .i64 0), .v (.int .i64 0), .v (.int .i64 0), .v (.string ⟨#[]⟩), .v (.slice none 0 0), .v (.bool false)]]⟩), (1, some ⟨49, 8, [[.v (.int .i64 a0.K), .v (.int .i64 s8.1), .v (.int .i64 s8.2.1), .v (.int .i64 s8.2.2.1), .v (.int .i64 s8.2.2.2.1), .v (.string s8.2.2.2.2.1), .rf 2 0 ((s8.2.2.2.2.2.1.map iC).length) 1, .v (.bool s8.2.2.2.2.2.2)]]⟩), (2, some ⟨3, 1, s8.2.2.2.2.2.1.map iC⟩)], 1⟩ ?_ ?_
  · refine w_seq (w_region (by rfl) (dv1 (l_field fd49_0 A) (dv1 (l_load ty3 A A A A A) ?_)))
    obtain ⟨y10, h11, hF⟩ := bindE hF
    refine dvC (l_call (B := false) (FnI.mk' (by kernel_rfl)) (.cons (.v _) (.one (.v _)) .nil) (p_kind_fieldsOf_ac h11) (okF p_kind_fieldsOf_ok)) ?_
    rintro _ rfl
    obtain ⟨c12, hF⟩ := ckE hF
    refine dv1 (l_convB (e := 5) ⟨by kernel_rfl, by kernel_rfl, by kernel_rfl⟩ A c12) (dv1 (l_lenRo sl102 A A (List.length_map _)) (dv1 (l_move (.v _)) (dvE (q_seq (w_block (w_loopF hF (fun (s3013 : Int × Int × Int × Int × ByteArray × (List Int) × Bool × Nat) => ⟨[(1, .ad 0 8 0 0), (2, .ad 1 8 0 0), (3, .ad 2 8 0 0), (12, .ro (.sl 5 1 ((bytesL y10).map uC))), (13, .v (.int .i64 (((bytesL y10).length : Nat) : Int))), (14, .v (.int .i64 ((s3013.2.2.2.2.2.2.2 : Nat) : Int)))], [(0, some ⟨49, 8, [[.v (.int .i64 a0.K), .v (.int .i64 a0.A), .v (.int .i64 a0.B), .v (.int .i64 a0.C), .v (.int .i64 a0.N), .v (.string a0.S), .ro (.sl 3 1 (a0.L.map iC)), .v (.bool a0.Stack)]]⟩), (1, some ⟨49, 8, [[.v (.int .i64 0), .v (.int .i64 0), .v (.int .i64 0), .v (.int .i64 0), .v (.int .i64 0), .v (.string ⟨#[]⟩), .v (.slice none 0 0), .v (.bool false)]]⟩), (2, some ⟨49, 8, [[.v (.int .i64 a0.K), .v (.int .i64 s3013.1), .v (.int .i64 s3013.2.1), .v (.int .i64 s3013.2.2.1), .v (.int .i64 s3013.2.2.2.1), .v (.string s3013.2.2.2.2.1), .rf 3 0 ((s3013.2.2.2.2.2.1.map iC).length) 1, .v (.bool s3013.2.2.2.2.2.2.1)]]⟩), (3, some ⟨3, 1, s3013.2.2.2.2.2.1.map iC⟩)], 1⟩) (le_of [(0, some 0), (1, some 64), (2, some 320), (3, none)] A (.s (.s (.s (.s (.s (.s .nil A) A) A) A) A) A) (.box A A (.s A) (.box A A (.s A) (.box A A (.cons (.v A) (.cons (.v A) (.cons (.v A) (.cons (.v A) (.cons (.v A) (.cons (.v A) (.cons (.nil ⟨by simp, A⟩) (.cons (.v A) .nil)))))))) (.new ⟨by simp, A⟩ .nil))))) ?_))))))
    intro s3013 y3014 hF hx3015
    refine w_seq (w_region (by rfl) (dv1 (l_bin A A b_lssN) (dvE (q_seq (w_seq ?_)))))
    rcases condE hF with ⟨b3017, hF⟩ | ⟨b3017, hF⟩
    · refine w_lenS 12 A fun l3018 => ?_
      refine w_condT A b3017 ?_
      refine w_skip (q_seq ?_)
      obtain ⟨s3026, hF, hG3027⟩ := bindE hF
      refine w_seqJ ⟨[(1, .ad 0 8 0 0), (2, .ad 1 8 0 0), (3, .ad 2 8 0 0), (12, .ro (.sl 5 1 ((bytesL y10).map uC))), (13, .v (.int .i64 (((bytesL y10).length : Nat) : Int))), (14, .v (.int .i64 ((s3013.2.2.2.2.2.2.2 : Nat) : Int)))], [(0, some ⟨49, 8, [[.v (.int .i64 a0.K), .v (.int .i64 a0.A), .v (.int .i64 a0.B), .v (.int .i64 a0.C), .v (.int .i64 a0.N), .v (.string a0.S), .ro (.sl 3 1 (a0.L.map iC)), .v (.bool a0.Stack)]]⟩), (1, some ⟨49, 8, [[.v (.int .i64 0), .v (.int .i64 0), .v (.int .i64 0), .v (.int .i64 0), .v (.int .i64 0), .v (.string ⟨#[]⟩), .v (.slice none 0 0), .v (.bool false)]]⟩), (2, some ⟨49, 8, [[.v (.int .i64 a0.K), .v (.int .i64 s3026.1), .v (.int .i64 s3026.2.1), .v (.int .i64 s3026.2.2.1), .v (.int .i64 s3026.2.2.2.1), .v (.string s3026.2.2.2.2.1), .rf 3 0 ((s3026.2.2.2.2.2.1.map iC).length) 1, .v (.bool s3026.2.2.2.2.2.2)]]⟩), (3, some ⟨3, 1, s3026.2.2.2.2.2.1.map iC⟩)], 1⟩ ?_ ?_
      · refine w_block (w_seq (w_region (by rfl) ?_))
        obtain ⟨x3028, h3029, hF⟩ := bindE hF
        refine dv1 (l_indexRo s3013.2.2.2.2.2.2.2 sl102 A A A (map_at h3029)) (dv1 (l_loadRo ty5 A A) (dv1 (l_assign (.v _)) (dvE (q_seq (w_seq (w_region (by rfl) (dv1 (l_move (.v _)) (dvE ?_))))))))
        refine q_seq (w_block (w_seq (w_region (by rfl) (dv1 (l_bin A A b_eql) (dv1 (l_assign (.v _)) (dvE (q_seq ?_)))))))
        rcases condE hF with ⟨b3030, hF⟩ | ⟨b3030, hF⟩
        · refine w_condT A b3030 ?_
          refine w_region (by rfl) (dv1 (l_field fd49_4 A) (dv1 (l_load ty2 A A A A A) (dv1 (l_field fd49_4 A) (dvS (l_store ty2 A (.v _) A A A (Nat.le_of_ble_eq_true A) A) (dvE ?_)))))
          cases hF
          refine q_in (q_in (q_join ?_))
          exact (le_of [(0, some 0), (1, some 1), (2, some 2), (3, some 3)] A (.s (.s (.s (.s (.s (.s .nil A) A) A) A) A) A) (.box A A (.s A) (.box A A (.s A) (.box A A (.s A) (.row A A A (clm k_iC _) .nil)))))
        · refine w_condF A b3030 ?_
          refine w_seq (w_region (by rfl) (dv1 (l_bin A A b_eql) (dv1 (l_assign (.v _)) (dvE (q_seq ?_)))))
          rcases condE hF with ⟨b3031, hF⟩ | ⟨b3031, hF⟩
          · refine w_condT A b3031 ?_
            refine w_region (by rfl) (dv1 (l_field fd49_5 A) (dv1 (l_load ty9 A A A A A) (dv1 (l_field fd49_5 A) (dvS (l_store ty9 A (.v _) A A A (Nat.le_of_ble_eq_true A) A) (dvE ?_)))))
            cases hF
            refine q_in (q_in (q_join ?_))
            exact (le_of [(0, some 0), (1, some 1), (2, some 2), (3, some 3)] A (.s (.s (.s (.s (.s (.s .nil A) A) A) A) A) A) (.box A A (.s A) (.box A A (.s A) (.box A A (.s A) (.row A A A (clm k_iC _) .nil)))))
          · refine w_condF A b3031 ?_
            refine w_seq (w_region (by rfl) (dv1 (l_bin A A b_eql) (dv1 (l_assign (.v _)) (dvE (q_seq ?_)))))
            rcases condE hF with ⟨b3032, hF⟩ | ⟨b3032, hF⟩
            · refine w_condT A b3032 ?_
              refine w_region (by rfl) (dv1 (l_field fd49_1 A) (dv1 (l_load ty3 A A A A A) (dv1 (l_field fd49_1 A) (dvS (l_store ty3 A (.v _) A A A (Nat.le_of_ble_eq_true A) A) (dvE ?_)))))
              cases hF
              refine q_in (q_in (q_join ?_))
              exact (le_of [(0, some 0), (1, some 1), (2, some 2), (3, some 3)] A (.s (.s (.s (.s (.s (.s .nil A) A) A) A) A) A) (.box A A (.s A) (.box A A (.s A) (.box A A (.s A) (.row A A A (clm k_iC _) .nil)))))
            · refine w_condF A b3032 ?_
              refine w_seq (w_region (by rfl) (dv1 (l_bin A A b_eql) (dv1 (l_assign (.v _)) (dvE (q_seq ?_)))))
              rcases condE hF with ⟨b3033, hF⟩ | ⟨b3033, hF⟩
              · refine w_condT A b3033 ?_
                refine w_region (by rfl) (dv1 (l_field fd49_2 A) (dv1 (l_load ty3 A A A A A) (dv1 (l_field fd49_2 A) (dvS (l_store ty3 A (.v _) A A A (Nat.le_of_ble_eq_true A) A) (dvE ?_)))))
                cases hF
                refine q_in (q_in (q_join ?_))
                exact (le_of [(0, some 0), (1, some 1), (2, some 2), (3, some 3)] A (.s (.s (.s (.s (.s (.s .nil A) A) A) A) A) A) (.box A A (.s A) (.box A A (.s A) (.box A A (.s A) (.row A A A (clm k_iC _) .nil)))))
              · refine w_condF A b3033 ?_
                refine w_seq (w_region (by rfl) (dv1 (l_bin A A b_eql) (dv1 (l_assign (.v _)) (dvE (q_seq ?_)))))
                rcases condE hF with ⟨b3034, hF⟩ | ⟨b3034, hF⟩
                · refine w_condT A b3034 ?_
                  refine w_region (by rfl) (dv1 (l_field fd49_3 A) (dv1 (l_load ty3 A A A A A) (dv1 (l_field fd49_3 A) (dvS (l_store ty3 A (.v _) A A A (Nat.le_of_ble_eq_true A) A) (dvE ?_)))))
                  cases hF
                  refine q_in (q_in (q_join ?_))
                  exact (le_of [(0, some 0), (1, some 1), (2, some 2), (3, some 3)] A (.s (.s (.s (.s (.s (.s .nil A) A) A) A) A) A) (.box A A (.s A) (.box A A (.s A) (.box A A (.s A) (.row A A A (clm k_iC _) .nil)))))
                · refine w_condF A b3034 ?_
                  refine w_seq (w_region (by rfl) (dv1 (l_bin A A b_eql) (dv1 (l_assign (.v _)) (dvE (q_seq ?_)))))
                  rcases condE hF with ⟨b3035, hF⟩ | ⟨b3035, hF⟩
                  · refine w_condT A b3035 ?_
                    refine w_region (by rfl) (dv1 (l_field fd49_6 A) (dv1 (l_load ty29 A A A A A) ?_))
                    obtain ⟨y3036, h3037, hF⟩ := bindE hF
                    refine dvC (l_call (B := false) (FnI.mk' (by kernel_rfl)) (.cons (.ro _) (.one (.ro _)) .nil) (p_slices_Clone_int_int_ac h3037) (okF p_slices_Clone_int_int_ok)) ?_
                    rintro _ rfl
                    refine dv1 (l_field fd49_6 A) (dvS (l_store ty29 A (.rf _ _ _ _) A A A (Nat.le_of_ble_eq_true A) A) (dvE ?_))
                    cases hF
                    refine q_in (q_in (q_join ?_))
                    exact (le_of [(0, some 0), (1, some 1), (2, some 2), (3, some 1280)] A (.s (.s (.s (.s (.s (.s .nil A) A) A) A) A) A) (.box A A (.s A) (.box A A (.s A) (.box A A (.s A) (.row A A A (clm k_iC _) .nil)))))
                  · refine w_condF A b3035 ?_
                    refine w_seq (w_region (by rfl) (dv1 (l_bin A A b_eql) (dv1 (l_assign (.v _)) (dvE (q_seq ?_)))))
                    rcases condE hF with ⟨b3038, hF⟩ | ⟨b3038, hF⟩
                    · refine w_condT A b3038 ?_
                      refine w_region (by rfl) (dv1 (l_field fd49_7 A) (dv1 (l_load ty4 A A A A A) (dv1 (l_field fd49_7 A) (dvS (l_store ty4 A (.v _) A A A (Nat.le_of_ble_eq_true A) A) (dvE ?_)))))
                      cases hF
                      refine q_in (q_in (q_join ?_))
                      exact (le_of [(0, some 0), (1, some 1), (2, some 2), (3, some 3)] A (.s (.s (.s (.s (.s (.s .nil A) A) A) A) A) A) (.box A A (.s A) (.box A A (.s A) (.box A A (.s A) (.row A A A (clm k_iC _) .nil)))))
                    · refine w_condF A b3038 ?_
                      refine w_skip ?_
                      cases hF
                      refine q_in (q_in (q_join ?_))
                      exact (le_of [(0, some 0), (1, some 1), (2, some 2), (3, some 3)] A (.s (.s (.s (.s (.s (.s .nil A) A) A) A) A) A) (.box A A (.s A) (.box A A (.s A) (.box A A (.s A) (.row A A A (clm k_iC _) .nil)))))
      replace hF := hG3027
      refine w_region (by rfl) (dv1 (l_bin A A (b_incN (of_decide_eq_true b3017) l3018)) (dv1 (l_move (.v _)) (dvE ?_)))
      cases hF
      refine qL A ?_
      exact (le_of [(0, some 0), (1, some 1), (2, some 2), (3, some 3)] A (.s (.s (.s (.s (.s (.s .nil A) A) A) A) A) A) (.box A A (.s A) (.box A A (.s A) (.box A A (.s A) (.row A A A (clm k_iC _) .nil)))))
    · refine w_condF A b3017 ?_
      refine w_exit ?_
      cases hF
      cases hx3015 _ rfl
      refine q_exS (q_exS (q_here (q_join ?_)))
      exact (le_of [(0, some 1), (1, some 2), (2, some 3)] A (.s (.s .nil A) A) (.box A A (.s A) (.box A A (.s A) (.row A A A (clm k_iC _) .nil))))
  replace hF := hG9
  refine w_seq (w_region (by rfl) (dv1 (l_loadA ty49 A A A A A) (dvS (l_store ty49 A (.ag _) A A A (Nat.le_of_ble_eq_true A) A) (dvE (q_seq (w_ret ?_))))))
  cases hF
  refine q_end (.inr A) ?_
  exact ret_ok A (.cons (.cellA ty49 A A A (.cons (.of (.v _)) (.cons (.of (.v _)) (.cons (.of (.v _)) (.cons (.of (.v _)) (.cons (.of (.v _)) (.cons (.of (.v _)) (.cons (.of (.rf A A (clm k_iC _))) (.cons (.of (.v _)) .nil))))))))) .nil) (by decide) A

def p_internal_stringslite_IndexByte (a0 : ByteArray) (a1 : Int) : Option Int :=
some (Lib.indexByte a0.data.toList a1.toNat.toUInt8)

theorem p_internal_stringslite_IndexByte_ok {r : Int} : rOk (.v (.int .i64 r)) = true ∧ FrT (.v (.int .i64 r)) := ⟨rfl, (.one (.cl (.v _)))⟩

set_option maxRecDepth 10000 in
set_option maxHeartbeats 4000000 in
theorem p_internal_stringslite_IndexByte_ac {a0 : ByteArray} {a1 : Int} {r : Int} (hF : p_internal_stringslite_IndexByte a0 a1 = some r) : AC Tryd.prog GT 76 [.v (.string a0), .v (.int .u8 a1)] (fun c => c = .v (.int .i64 r)) := by
  unfold p_internal_stringslite_IndexByte at hF
  refine AC.mk (nt := 8) Tryd.func76 A A A fun w N => ?_
  refine w_seq (w_region (by rfl) (dv1 (l_assign (.v _)) (dvE (q_seq (w_seq (w_region (by rfl) (dv1 (l_move (.v _)) (dv1 (l_move (.v _)) ?_))))))))
  refine dv1 (l_indexByte (XbI.mk' (by kernel_rfl) (by kernel_rfl) A) A A) (dv1 (l_assign (.v _)) (dvE (q_seq (w_ret ?_))))
  cases hF
  refine q_end (.inr A) ?_
  exact ret_ok A (.cons (.tmp (.v _) (.v _)) .nil) (by decide) A

def p_strings_IndexByte (a0 : ByteArray) (a1 : Int) : Option Int :=
((p_internal_stringslite_IndexByte a0 a1).bind fun y1 =>
some y1)

theorem p_strings_IndexByte_ok {r : Int} : rOk (.v (.int .i64 r)) = true ∧ FrT (.v (.int .i64 r)) := ⟨rfl, (.one (.cl (.v _)))⟩

set_option maxRecDepth 10000 in
set_option maxHeartbeats 4000000 in
theorem p_strings_IndexByte_ac {a0 : ByteArray} {a1 : Int} {r : Int} (hF : p_strings_IndexByte a0 a1 = some r) : AC Tryd.prog GT 70 [.v (.string a0), .v (.int .u8 a1)] (fun c => c = .v (.int .i64 r)) := by
  unfold p_strings_IndexByte at hF
  refine AC.mk (nt := 8) Tryd.func70 A A A fun w N => ?_
  refine w_seq (w_region (by rfl) (dv1 (l_assign (.v _)) (dvE (q_seq (w_seq (w_region (by rfl) (dv1 (l_move (.v _)) (dv1 (l_move (.v _)) ?_))))))))
  obtain ⟨y1, h2, hF⟩ := bindE hF
  refine dvC (l_call (B := false) (FnI.mk' (by kernel_rfl)) (.cons (.v _) (.one (.v _)) (.cons (.v _) (.one (.v _)) .nil)) (p_internal_stringslite_IndexByte_ac h2) (okF p_internal_stringslite_IndexByte_ok)) ?_
  rintro _ rfl
  refine dv1 (l_assign (.v _)) (dvE (q_seq (w_ret ?_)))
  cases hF
  refine q_end (.inr A) ?_
  exact ret_ok A (.cons (.tmp (.v _) (.v _)) .nil) (by decide) A

def p_kind_operands  : Option Unit :=
some ()

theorem p_kind_operands_ok {g o : Nat} {r : Unit} : rOk (.fn (.func 69) [] [.ro (.rp [.v (.pointer (some ⟨g, o, none⟩))] 0)]) = true ∧ True := ⟨rfl, trivial⟩

set_option maxRecDepth 10000 in
set_option maxHeartbeats 4000000 in
theorem p_kind_operands_ac {g o : Nat}  {r : Unit} (hF : p_kind_operands = some r) : AC Tryd.prog GT 58 [.v (.pointer (some ⟨g, o, none⟩))] (fun c => c = .fn (.func 69) [] [.ro (.rp [.v (.pointer (some ⟨g, o, none⟩))] 0)]) := by
  unfold p_kind_operands at hF
  refine AC.mk (nt := 4) Tryd.func58 A A A fun w N => ?_
  refine w_seq (w_region (by rfl) (dvN (l_box (.v _) A A) (dv1 (l_assign (.v _)) (dvE (q_seq (w_seq (w_region (by rfl) (dvG (le_freeze 0 [(1, .ro (.rp [.v (.pointer (some ⟨g, o, none⟩))] 0))] A (cl1 (.v _) cl0) (List.forall_mem_cons.2 ⟨⟨0, A, A⟩, (fun _ h => nomatch h)⟩)) ?_))))))))
  refine dv1 (l_fnE (f := 69) (.cons (.ro _) .nil)) (dv1 (l_assign (.fn _ _ _)) (dvE (q_seq (w_ret ?_))))
  cases hF
  refine q_end (.inr A) ?_
  exact ret_ok A (.cons (.tmp (.fn _ _ _) (.fn _ (capB_ok A))) .nil) (by decide) A

def p_kind_operands_1_i (K : Int) (n : Nat) {σ ρ : Type} (body : σ → Nat → Option (Xt σ ρ)) (s0 : σ) : Option (Xt σ ρ) :=
((p_kind_fieldsOf K).bind fun y1 =>
(((loop (fun (s3006 : Nat × σ) =>
(bif decide (s3006.1 < 3) then
(((([0, 1, 2][s3006.1]?).bind fun x3014 =>
(((⟨#[65, 66, 67]⟩ : ByteArray)[s3006.1]?).bind fun x3017 =>
((p_strings_IndexByte y1 ((x3017.toNat : Nat) : Int)).bind fun y3019 =>
(bif decide ((0 : Int) ≤ y3019) then
((body s3006.2 x3014).bind fun z3022 =>
(z3022.on (fun s3024 =>
some (Xt.go s3024))
(fun o3025 =>
some (Xt.out (Xt.out o3025)))))
else
some (Xt.go s3006.2)))))).bind fun s3012 => s3012.on (fun (s3026 : σ) =>
some (Xt.go ((s3006.1 + 1), s3026)))
(fun o3028 => some (Xt.out (Xt.out o3028))))
else
some (Xt.out (Xt.go s3006.2)))) Fu (0, s0))).bind fun s4 => s4.on (fun (s3029 : σ) =>
((loop (fun (s6031 : Nat × σ) =>
(bif decide (s6031.1 < n) then
(ck (s6031.1 < n)
(((body s6031.2 (s6031.1 + 3)).bind fun z6038 =>
(z6038.on (fun s6040 =>
some (Xt.go ((s6031.1 + 1), s6040)))
(fun o6041 =>
some (Xt.out (Xt.out o6041)))))))
else
some (Xt.out (Xt.go s6031.2)))) Fu (0, s3029)).bind fun o6034 => some o6034))
(fun o6042 => some o6042)))

set_option maxRecDepth 10000 in
set_option maxHeartbeats 4000000 in
theorem p_kind_operands_1_i_ic (K : Int) (n : Nat) (g o : Nat) (x : Option (Nat × Nat × Nat)) (hx : x = none → n = 0) (hn : n ≤ 9223372036854775807)  : IC Tryd.prog GT 69 [.rp [.v (.pointer (some ⟨g, o, none⟩))] 0] (fun (y : Nat) => plC (opPl g o x) y) (fun σ ρ body s0 => p_kind_operands_1_i K n body s0) [(⟨g, o, none⟩, .int .i64 K), (⟨g, o + 6, none⟩, hdr x n)] := by
  refine IC.mk (nt := 58) Tryd.func69 A A A A fun σ ρ body s0 z hF w N F l J Jx hJ hX hY hRd => ?_
  unfold p_kind_operands_1_i at hF
  refine w_seq (w_region (by rfl) (dv1 (l_loadRo ty90 A A) (dv1 (l_nilP A) (dv1 (l_fieldP fd49_0 A) (dv1 (l_loadFo ty3 A A hRd List.mem_cons_self) ?_)))))
  obtain ⟨y1, h2, hF⟩ := bindE hF
  refine dvC (l_call (B := false) (FnI.mk' (by kernel_rfl)) (.cons (.v _) (.one (.v _)) .nil) (p_kind_fieldsOf_ac h2) (okF p_kind_fieldsOf_ok)) ?_
  rintro _ rfl
  refine dv1 (l_assign (.v _)) (dvE (q_seq ?_))
  obtain ⟨s4, hF, hG5⟩ := bindE hF
  refine w_seqE s4 (fun (s3029 : σ) => ⟨[(0, .v (.func (.yield l) #[] #[])), (1, .ro (.rp [.v (.pointer (some ⟨g, o, none⟩))] 0)), (1000000, .fo (foJ hJ s3029))], [], 1⟩) ?_ (fun s3029 e3030 => ?_)
  · refine w_seq (w_draw [[], [0], [0, 1], [], [3], [3, 4], [], [6], [6, 7], [0, 1, 2, 3, 4, 5, 6, 7, 8], [0, 1, 2, 3, 4, 5, 6, 7, 8, 9], []] [0, 1, 2, 3, 4, 5, 6, 7, 8, 9, 10, 11] (by kernel_rfl) (by rfl) ⟨by decide, by rfl⟩ (by rfl) ?_)
    refine de1 A (l_loadRo ty90 A A) A (de1 A (l_nilP A) A (de1 A (l_fieldP fd49_1 A) A (de1 A (l_loadRo ty90 A A) A (de1 A (l_nilP A) A (de1 A (l_fieldP fd49_2 A) A (de1 A (l_loadRo ty90 A A) A (de1 A (l_nilP A) A (de1 A (l_fieldP fd49_3 A) A ?_))))))))
    refine deN A (l_bsn sl104 zt91 A (.cons (.v _) (.cons (.v _) (.cons (.v _) .nil))) A A A A (by decide) (by decide)) A (de1 A (l_len sl104 A A) A (de1 A (l_move (.v _)) A (ddE (q_seq (w_block (w_loopF hF (fun (s3006 : Nat × σ) => ⟨[(0, .v (.func (.yield l) #[] #[])), (1, .ro (.rp [.v (.pointer (some ⟨g, o, none⟩))] 0)), (3, .v (.string y1)), (21, .rf 0 0 (([0, 1, 2].map (plC (opPl g o x))).length) 1), (22, .v (.int .i64 3)), (23, .v (.int .i64 ((s3006.1 : Nat) : Int))), (1000000, .fo (foJ hJ s3006.2))], [(0, some ⟨91, 1, [0, 1, 2].map (plC (opPl g o x))⟩)], 1⟩) (le_of [(0, some 960)] A (.s (.s (.s (.s (.s (.s (.cons (.fo _) (.fo _) .nil) A) A) A) A) A) A) (.row A A A (clm k_plC _) .nil)) ?_))))))
    intro s3006 y3007 hF hx3008
    refine w_seq (w_region (by rfl) (dv1 (l_bin A A b_lssN) (dvE (q_seq (w_seq ?_)))))
    rcases condE hF with ⟨b3010, hF⟩ | ⟨b3010, hF⟩
    · refine w_condT A b3010 ?_
      refine w_skip (q_seq ?_)
      obtain ⟨s3012, hF, hG3013⟩ := bindE hF
      refine w_seqE s3012 (fun (s3026 : σ) => ⟨[(0, .v (.func (.yield l) #[] #[])), (1, .ro (.rp [.v (.pointer (some ⟨g, o, none⟩))] 0)), (3, .v (.string y1)), (21, .rf 0 0 (([0, 1, 2].map (plC (opPl g o x))).length) 1), (22, .v (.int .i64 3)), (23, .v (.int .i64 ((s3006.1 : Nat) : Int))), (1000000, .fo (foJ hJ s3026))], [(0, some ⟨91, 1, [0, 1, 2].map (plC (opPl g o x))⟩)], 1⟩) ?_ (fun s3026 e3027 => ?_)
      · refine w_block (w_seq (w_region (by rfl) (dv1 (l_move (.v _)) ?_)))
        obtain ⟨x3014, h3015, hF⟩ := bindE hF
        refine dv1 (l_index s3006.1 sl104 A A A (lt_at (plC (opPl g o x)) h3015)) (dv1 (l_load ty91 A A (map_at h3015) A A) (dv1 (l_assign (.v _)) (dv1 (l_assign (.v _)) (dvE (q_seq (w_seq (w_region (by rfl) (dv1 (l_move (.v _)) ?_))))))))
        refine dv1 (l_move (.v _)) ?_
        obtain ⟨x3017, h3018, hF⟩ := bindE hF
        refine dv1 (l_indexStr s3006.1 (by kernel_rfl) A A A h3018) ?_
        obtain ⟨y3019, h3020, hF⟩ := bindE hF
        refine dvC (l_call (B := false) (FnI.mk' (by kernel_rfl)) (.cons (.v _) (.one (.v _)) (.cons (.v _) (.one (.v _)) .nil)) (p_strings_IndexByte_ac h3020) (okF p_strings_IndexByte_ok)) ?_
        rintro _ rfl
        refine dv1 (l_bin A A b_geq) (dv1 (l_move (.v _)) ?_)
        rcases condE hF with ⟨b3021, hF⟩ | ⟨b3021, hF⟩
        · refine dv1 (l_gT A A (gt A b3021) fun _ => l_move (.v _)) (dv1 (l_gT A A (gt A b3021) fun _ => l_move (.v _)) ?_)
          obtain ⟨z3022, h3023, hF⟩ := bindE hF
          rcases z3022 with s3024 | o3025
          · replace hF := onGo hF
            refine dvY (l_gT A A (gt A b3021) fun _ => l_yield x3014 hY A (.cons (.v _) (.one (.v _)) .nil) A h3023) ?_
            refine dv1 (l_gT A A (gt A b3021) fun _ => l_not A) (dv1 (l_pickT (gt A b3021) (.v _)) (dvE (q_seq (w_false A (w_skip ?_)))))
            cases hF
            refine q_in (qL A ?_)
            exact (le_of [(0, some 0)] A (.s (.s (.s (.s (.s (.s (.cons (.fo _) (.fo _) .nil) A) A) A) A) A) A) (.row A A A (clm k_plC _) .nil))
          · replace hF := onOut hF
            refine dvY (l_gT A A (gt A b3021) fun _ => l_yield x3014 hY A (.cons (.v _) (.one (.v _)) .nil) A h3023) ?_
            refine dv1 (l_gT A A (gt A b3021) fun _ => l_not A) (dv1 (l_pickT (gt A b3021) (.v _)) (dvE (q_seq (w_true A (w_ret (q_reI (q_reS (q_reS ?_))))))))
            refine q_reI (q_reS ?_)
            cases hF
            have hF := onOut hG3013
            cases hF
            cases hx3008 _ rfl
            have hF := onOut hG5
            cases hF
            exact ⟨.inr A, A⟩
        · refine dv1 (l_gF A A (gt A b3021) A) (dv1 (l_gF A A (gt A b3021) A) (dv1 (l_gF A A (gt A b3021) A) (dv1 (l_gF A A (gt A b3021) A) (dv1 (l_pickF (gt A b3021) (.v _)) (dvE (q_seq (w_false A (w_skip ?_))))))))
          cases hF
          refine q_in (qL A ?_)
          exact (le_of [(0, some 0)] A (.s (.s (.s (.s (.s (.s (.cons (.fo _) (.fo _) .nil) A) A) A) A) A) A) (.row A A A (clm k_plC _) .nil))
      subst e3027
      replace hF := onGo hG3013
      refine w_region (by rfl) (dv1 (l_bin A A (b_incN (of_decide_eq_true b3010) (by decide))) (dv1 (l_move (.v _)) (dvE ?_)))
      cases hF
      refine qL A ?_
      exact (le_of [(0, some 0)] A (.s (.s (.s (.s (.s (.s (.cons (.fo _) (.fo _) .nil) A) A) A) A) A) A) (.row A A A (clm k_plC _) .nil))
    · refine w_condF A b3010 ?_
      refine w_exit ?_
      cases hF
      cases hx3008 _ rfl
      refine q_exS (q_exS (q_here (qL A ?_)))
      exact (le_of [] A (.s (.s (.cons (.fo _) (.fo _) .nil) A) A) .nil)
  subst e3030
  replace hF := onGo hG5
  refine w_seq (w_region (by rfl) (dv1 (l_loadRo ty90 A A) (dv1 (l_nilP A) (dv1 (l_fieldP fd49_6 A) (dv1 (l_loadFo ty29 A A hRd (List.mem_cons_of_mem _ List.mem_cons_self)) (dv1 (l_lenP sl29 A A hx) (dv1 (l_move (.v _)) (dvE ?_))))))))
  refine q_seq (w_block ?_)
  obtain ⟨o6034, hF, hG6035⟩ := bindE hF
  refine w_loopF hF (fun (s6031 : Nat × σ) => ⟨[(0, .v (.func (.yield l) #[] #[])), (1, .ro (.rp [.v (.pointer (some ⟨g, o, none⟩))] 0)), (44, .v (.int .i64 ((n : Nat) : Int))), (45, .v (.int .i64 ((s6031.1 : Nat) : Int))), (1000000, .fo (foJ hJ s6031.2))], [], 1⟩) (le_of [] A (.s (.s (.s (.s (.cons (.fo _) (.fo _) .nil) A) A) A) A) .nil) ?_
  intro s6031 y6032 hF hx6033
  refine w_seq (w_region (by rfl) (dv1 (l_bin A A b_lssN) (dvE (q_seq (w_seq ?_)))))
  rcases condE hF with ⟨b6036, hF⟩ | ⟨b6036, hF⟩
  · refine w_condT A b6036 ?_
    refine w_skip (q_seq (w_seq (w_block (w_seq (w_region (by rfl) (dv1 (l_move (.v _)) (dv1 (l_assign (.v _)) (dvE ?_))))))))
    refine q_seq (w_seq (w_region (by rfl) (dv1 (l_move (.v _)) (dv1 (l_loadRo ty90 A A) (dv1 (l_nilP A) (dv1 (l_fieldP fd49_6 A) (dv1 (l_loadFo ty29 A A hRd (List.mem_cons_of_mem _ List.mem_cons_self)) (dv1 (l_move (.v _)) ?_))))))))
    obtain ⟨c6037, hF⟩ := ckE hF
    refine dv1 (l_indexP (g := g) (off := o) s6031.1 sl29 A A A c6037 hx) ?_
    obtain ⟨z6038, h6039, hF⟩ := bindE hF
    rcases z6038 with s6040 | o6041
    · replace hF := onGo hF
      refine dvY (l_yield (s6031.1 + 3) hY A (.cons (.v _) (.one (.v _)) .nil) A h6039) ?_
      refine dv1 (l_not A) (dvE (q_seq (w_false A (w_skip (q_in (q_seq (w_region (by rfl) (dv1 (l_bin A A (b_incN (of_decide_eq_true b6036) hn)) ?_))))))))
      refine dv1 (l_move (.v _)) (dvE ?_)
      cases hF
      refine qL A ?_
      exact (le_of [] A (.s (.s (.s (.s (.cons (.fo _) (.fo _) .nil) A) A) A) A) .nil)
    · replace hF := onOut hF
      refine dvY (l_yield (s6031.1 + 3) hY A (.cons (.v _) (.one (.v _)) .nil) A h6039) ?_
      refine dv1 (l_not A) (dvE (q_seq (w_true A (w_ret (q_reI (q_reS (q_reS (q_reI ?_))))))))
      cases hF
      cases hx6033 _ rfl
      have hF := hG6035
      cases hF
      exact ⟨.inr A, A⟩
  · refine w_condF A b6036 ?_
    refine w_exit (q_exS (q_exS (q_here ?_)))
    cases hF
    cases hx6033 _ rfl
    have hF := hG6035
    cases hF
    exact ⟨.inl A, A⟩

def p_kind_uses (a0 : MOp) : Option ((List Int)) :=
((p_kind_plain a0).bind fun y1 =>
((((p_kind_operands_1_i y1.K y1.L.length (fun (s3007 : (List Int)) (y6 : Nat) =>
((placeC y6
((ck ((s3007.length + 1) * 8 ≤ 140737488355328)
(some (Xt.go (s3007 ++ [y1.A])))))
((ck ((s3007.length + 1) * 8 ≤ 140737488355328)
(some (Xt.go (s3007 ++ [y1.B])))))
((ck ((s3007.length + 1) * 8 ≤ 140737488355328)
(some (Xt.go (s3007 ++ [y1.C])))))
(fun i_ => (ck (i_ < y1.L.length)
(((y1.L[i_]?).bind fun x3013 =>
(ck ((s3007.length + 1) * 8 ≤ 140737488355328)
(some (Xt.go (s3007 ++ [x3013]))))))))) : Option (Xt ((List Int)) Unit))) []).bind fun z3008 => z3008.on (fun (s3007 : (List Int)) =>
some s3007) (fun _ => none))).bind fun (s4 : (List Int)) =>
some s4))

theorem p_kind_uses_ok {r : (List Int)} : rOk (.sl 3 1 (r.map iC)) = true ∧ FrT (.sl 3 1 (r.map iC)) := ⟨rfl, (.one (.cl (.sl _ _ (clm k_iC _))))⟩

set_option maxRecDepth 10000 in
set_option maxHeartbeats 4000000 in
theorem p_kind_uses_ac {a0 : MOp} {r : (List Int)} (hF : p_kind_uses a0 = some r) : AC Tryd.prog GT 45 [.ag (MOp.ct a0)] (fun c => c = .sl 3 1 (r.map iC)) := by
  unfold p_kind_uses at hF
  refine AC.mk (nt := 16) Tryd.func45 A A A fun w N => ?_
  refine w_seq (w_region (by rfl) (dvN (l_box (.ag _) A A) (dv1 (l_assign (.v _)) (dvE (q_seq (w_seq (w_region (by rfl) (dv1 (l_loadA ty49 A A A A A) ?_))))))))
  obtain ⟨y1, h2, hF⟩ := bindE hF
  refine dvC (l_call (B := false) (FnI.mk' (by kernel_rfl)) (.cons (.ag _) (.ag (.cons (.v _) (.cons (.v _) (.cons (.v _) (.cons (.v _) (.cons (.v _) (.cons (.v _) (.cons (.ro _) (.cons (.v _) .nil))))))))) .nil) (p_kind_plain_ac h2) (okF p_kind_plain_ok)) ?_
  rintro _ rfl
  refine dvS (l_store ty49 A (.ag _) A A A (Nat.le_of_ble_eq_true A) A) (dvE (q_seq (w_seq (w_region (by rfl) (dvN (l_alloc zt29) (dvE (q_seq (W.le (S' := ⟨[(1, .ad 0 8 0 0), (3, .ad 2 1 0 0)], [(0, some ⟨49, 8, [[.v (.int .i64 y1.K), .v (.int .i64 y1.A), .v (.int .i64 y1.B), .v (.int .i64 y1.C), .v (.int .i64 y1.N), .v (.string y1.S), .rf 1 0 y1.L.length 1, .v (.bool y1.Stack)]]⟩), (1, some ⟨3, 1, y1.L.map iC⟩), (2, some ⟨29, 1, [[.v (.slice none 0 0)]]⟩)], 1⟩) (le_of [(0, some 0), (1, some 198), (2, some 320)] A (.s (.s .nil A) A) (.box A A (.cons (.v A) (.cons (.v A) (.cons (.v A) (.cons (.v A) (.cons (.v A) (.cons (.v A) (.cons (.rf A (by simp)) (.cons (.v A) .nil)))))))) (.row A A A (clm k_iC _) (.box A A (.s A) .nil)))) ?_))))))))
  refine w_reveal 0 A fun g_ o_ c_ => ?_
  refine w_unpk 1 A fun x_ hx_ => ?_
  obtain ⟨s4, hF, hG5⟩ := bindE hF
  refine w_seqJ ⟨[(3, .ad 5 1 0 0)], [(0, some ⟨49, 8, [[.v (.int .i64 y1.K), .v (.int .i64 y1.A), .v (.int .i64 y1.B), .v (.int .i64 y1.C), .v (.int .i64 y1.N), .v (.string y1.S), .rf 1 0 y1.L.length 1, .v (.bool y1.Stack)]]⟩), (1, some ⟨3, 1, y1.L.map iC⟩), (5, some ⟨29, 1, [[.rf 6 0 ((s4.map iC).length) 1]]⟩), (6, some ⟨3, 1, s4.map iC⟩)], 1⟩ ?_ ?_
  · refine w_seq (w_region (by rfl) (dvG (le_ptr 1 (k := 0) (g := g_) (off := o_) (cap := c_) A (List.mem_cons_of_mem _ List.mem_cons_self) A) ?_))
    refine dvC (l_call (B := false) (FnI.mk' (by kernel_rfl)) (.cons (.v _) (.one (.v _)) .nil) (p_kind_operands_ac (r := ()) A) (okF (p_kind_operands_ok (r := ())))) ?_
    rintro _ rfl
    refine dvE (q_seq (w_block (w_lenK 1 A fun hn_ => ?_)))
    obtain ⟨z3008, hG3016, hF⟩ := bindE hF
    refine w_rangeFP [(1, x_), (0, some (g_, o_, c_))] [(⟨g_, o_, none⟩, .int .i64 y1.K), (⟨g_, o_ + 6, none⟩, hdr x_ y1.L.length)] (jmp := .ret) (t := [(3, .ad 5 1 0 0), (7, .fn (.func 69) [] [.ro (.rp [.v (.pointer (some ⟨g_, o_, none⟩))] 0)])]) (nx := 1) (p_kind_operands_1_i_ic y1.K y1.L.length g_ o_ x_ (fun h_ => by simpa using hx_ h_) hn_) hG3016 (fun (s3007 : (List Int)) => [(0, some ⟨49, 8, [[.v (.int .i64 y1.K), .v (.int .i64 y1.A), .v (.int .i64 y1.B), .v (.int .i64 y1.C), .v (.int .i64 y1.N), .v (.string y1.S), .rf 1 0 y1.L.length 1, .v (.bool y1.Stack)]]⟩), (1, some ⟨3, 1, y1.L.map iC⟩), (5, some ⟨29, 1, [[.rf 6 0 ((s3007.map iC).length) 1]]⟩), (6, some ⟨3, 1, s3007.map iC⟩)]) (fun (_ : Unit) => []) [0, 1, 5] (fun (s3007 : (List Int)) (y6 : Nat) => ⟨[(3, .ad 5 1 0 0), (4, .v (.pointer (some (opPl g_ o_ x_ y6))))], [(0, some ⟨49, 8, [[.v (.int .i64 y1.K), .v (.int .i64 y1.A), .v (.int .i64 y1.B), .v (.int .i64 y1.C), .v (.int .i64 y1.N), .v (.string y1.S), .rf 1 0 y1.L.length 1, .v (.bool y1.Stack)]]⟩), (1, some ⟨3, 1, y1.L.map iC⟩), (5, some ⟨29, 1, [[.rf 10 0 ((s3007.map iC).length) 1]]⟩), (10, some ⟨3, 1, s3007.map iC⟩)], 1⟩) A (FnI.mk' (by kernel_rfl)).run (le_of [(0, some 0), (1, some 1), (5, some 2), (6, none)] A (.s (.s .nil A) A) (.box A A (.s A) (.row A A A (clm k_iC _) (.box A A (.cons (.nil ⟨by simp, A⟩) .nil) (.new ⟨by simp, A⟩ .nil))))) A (fun _ => A) (by decide) A A A A A (fun _ _ => A) ?_ ?_ ?_ ?_ ?_
    · intro l w M N f_ s3007 y6 hf_
      refine w_region (by rfl) (dv1 (l_assign (.v _)) (dvE (⟨A, ?_⟩)))
      exact (le_of [(0, some 0), (1, some 1), (5, some 5), (10, some 6)] A (.s (.s .nil A) A) (.box A A (.s A) (.row A A A (clm k_iC _) (.box A A (.s A) (.row A A A (clm k_iC _) .nil)))))
    · intro l w M N f_ s3007 y6 z_ hf_ hF
      obtain rfl | rfl | rfl | ⟨i_, rfl⟩ := plC4 y6
      · replace hF := pl0 hF
        refine W.le (le_ad 4 (k := 0) (sz := 8) (i := 0) (o := 1) (g := g_) (off := o_) (cap := c_) A (pk_of hf_ (List.mem_cons_of_mem _ List.mem_cons_self) A) A) ?_
        refine w_block (w_draw [[], [], [1], [1, 2], [1, 2, 3], [0, 1, 2, 3, 4], [0, 1, 2, 3, 4, 5]] [0, 1, 2, 3, 4, 5, 6] (by kernel_rfl) (by rfl) ⟨by decide, by rfl⟩ (by rfl) ?_)
        refine de1 A (l_load ty29 A A A A A) A (de1 A (l_move (.ad _ _ _ _)) A (de1 A (l_nil A) A (de1 A (l_load ty3 A A A A A) A (deN A (l_bs1 sl29 zt3 A (.v _) A A A (by decide) (by decide)) A ?_))))
        obtain ⟨c3009, hF⟩ := ckE hF
        refine deN3 A (l_app1R el29 A A A A A A (by decide) (map_snoc iC _ y1.A) (List.length_map _) (by simpa using c3009) (by decide)) A ?_
        refine deS A (l_store ty29 A (.rf _ _ _ _) A A A (Nat.le_of_ble_eq_true A) A) A (ddE (q_in ?_))
        cases hF
        refine .inl ⟨A, _, A, ?_⟩
        exact (le_of [(0, some 0), (1, some 1), (5, some 5), (6, some 384)] A .nil (.box A A (.s A) (.row A A A (clm k_iC _) (.box A A (.cons (.rf A (by simp)) .nil) (.row A A A (clm k_iC _) .nil)))))
      · replace hF := pl1 hF
        refine W.le (le_ad 4 (k := 0) (sz := 8) (i := 0) (o := 2) (g := g_) (off := o_) (cap := c_) A (pk_of hf_ (List.mem_cons_of_mem _ List.mem_cons_self) A) A) ?_
        refine w_block (w_draw [[], [], [1], [1, 2], [1, 2, 3], [0, 1, 2, 3, 4], [0, 1, 2, 3, 4, 5]] [0, 1, 2, 3, 4, 5, 6] (by kernel_rfl) (by rfl) ⟨by decide, by rfl⟩ (by rfl) ?_)
        refine de1 A (l_load ty29 A A A A A) A (de1 A (l_move (.ad _ _ _ _)) A (de1 A (l_nil A) A (de1 A (l_load ty3 A A A A A) A (deN A (l_bs1 sl29 zt3 A (.v _) A A A (by decide) (by decide)) A ?_))))
        obtain ⟨c3010, hF⟩ := ckE hF
        refine deN3 A (l_app1R el29 A A A A A A (by decide) (map_snoc iC _ y1.B) (List.length_map _) (by simpa using c3010) (by decide)) A ?_
        refine deS A (l_store ty29 A (.rf _ _ _ _) A A A (Nat.le_of_ble_eq_true A) A) A (ddE (q_in ?_))
        cases hF
        refine .inl ⟨A, _, A, ?_⟩
        exact (le_of [(0, some 0), (1, some 1), (5, some 5), (6, some 384)] A .nil (.box A A (.s A) (.row A A A (clm k_iC _) (.box A A (.cons (.rf A (by simp)) .nil) (.row A A A (clm k_iC _) .nil)))))
      · replace hF := pl2 hF
        refine W.le (le_ad 4 (k := 0) (sz := 8) (i := 0) (o := 3) (g := g_) (off := o_) (cap := c_) A (pk_of hf_ (List.mem_cons_of_mem _ List.mem_cons_self) A) A) ?_
        refine w_block (w_draw [[], [], [1], [1, 2], [1, 2, 3], [0, 1, 2, 3, 4], [0, 1, 2, 3, 4, 5]] [0, 1, 2, 3, 4, 5, 6] (by kernel_rfl) (by rfl) ⟨by decide, by rfl⟩ (by rfl) ?_)
        refine de1 A (l_load ty29 A A A A A) A (de1 A (l_move (.ad _ _ _ _)) A (de1 A (l_nil A) A (de1 A (l_load ty3 A A A A A) A (deN A (l_bs1 sl29 zt3 A (.v _) A A A (by decide) (by decide)) A ?_))))
        obtain ⟨c3011, hF⟩ := ckE hF
        refine deN3 A (l_app1R el29 A A A A A A (by decide) (map_snoc iC _ y1.C) (List.length_map _) (by simpa using c3011) (by decide)) A ?_
        refine deS A (l_store ty29 A (.rf _ _ _ _) A A A (Nat.le_of_ble_eq_true A) A) A (ddE (q_in ?_))
        cases hF
        refine .inl ⟨A, _, A, ?_⟩
        exact (le_of [(0, some 0), (1, some 1), (5, some 5), (6, some 384)] A .nil (.box A A (.s A) (.row A A A (clm k_iC _) (.box A A (.cons (.rf A (by simp)) .nil) (.row A A A (clm k_iC _) .nil)))))
      · replace hF := pl3 hF
        obtain ⟨c3012, hF⟩ := ckE hF
        refine W.le (le_adL 4 (k := 1) A (pk_of hf_ (List.mem_cons_self) A) A (by simpa using c3012)) ?_
        refine w_block (w_draw [[], [], [1], [1, 2], [1, 2, 3], [0, 1, 2, 3, 4], [0, 1, 2, 3, 4, 5]] [0, 1, 2, 3, 4, 5, 6] (by kernel_rfl) (by rfl) ⟨by decide, by rfl⟩ (by rfl) ?_)
        refine de1 A (l_load ty29 A A A A A) A (de1 A (l_move (.ad _ _ _ _)) A (de1 A (l_nil A) A ?_))
        obtain ⟨x3013, h3014, hF⟩ := bindE hF
        refine de1 A (l_load ty3 A A (map_at h3014) A A) A (deN A (l_bs1 sl29 zt3 A (.v _) A A A (by decide) (by decide)) A ?_)
        obtain ⟨c3015, hF⟩ := ckE hF
        refine deN3 A (l_app1R el29 A A A A A A (by decide) (map_snoc iC _ x3013) (List.length_map _) (by simpa using c3015) (by decide)) A ?_
        refine deS A (l_store ty29 A (.rf _ _ _ _) A A A (Nat.le_of_ble_eq_true A) A) A (ddE (q_in ?_))
        cases hF
        refine .inl ⟨A, _, A, ?_⟩
        exact (le_of [(0, some 0), (1, some 1), (5, some 5), (6, some 384)] A .nil (.box A A (.s A) (.row A A A (clm k_iC _) (.box A A (.cons (.rf A (by simp)) .nil) (.row A A A (clm k_iC _) .nil)))))
    · intro bs_ s_ X_ U_ a_ w_ N_ FP_ hI_ hp_
      exact rd_op hI_ (hp_ _ (List.mem_cons_of_mem _ List.mem_cons_self)) A A A (hp_ _ List.mem_cons_self)
    · intro s3007 hs_
      subst hs_
      replace hF := onGo hF
      cases hF
      refine q_in (q_join ?_)
      exact (le_of [(0, some 0), (1, some 1), (5, some 5), (6, some 6)] A (.s .nil A) (.box A A (.s A) (.row A A A (clm k_iC _) (.box A A (.s A) (.row A A A (clm k_iC _) .nil)))))
    · intro o_ hs_
      subst hs_
      exact nomatch onOut hF
  replace hF := hG5
  refine w_seq (w_region (by rfl) (dv1 (l_load ty29 A A A A A) (dv1 (l_assign (.rf _ _ _ _)) (dvE (q_seq (w_ret ?_))))))
  cases hF
  refine q_end (.inr A) ?_
  exact ret_ok A (.cons (.tmp (.rf _ _ _ _) (.rf A A (clm k_iC _))) .nil) (by decide) A

def p_kind_Uses (a0 : MOp) : Option ((List Int)) :=
((p_kind_uses a0).bind fun y1 =>
some y1)

theorem p_kind_Uses_ok {r : (List Int)} : rOk (.sl 3 1 (r.map iC)) = true ∧ FrT (.sl 3 1 (r.map iC)) := ⟨rfl, (.one (.cl (.sl _ _ (clm k_iC _))))⟩

set_option maxRecDepth 10000 in
set_option maxHeartbeats 4000000 in
theorem p_kind_Uses_ac {a0 : MOp} {r : (List Int)} (hF : p_kind_Uses a0 = some r) : AC Tryd.prog GT 33 [.ag (MOp.ct a0)] (fun c => c = .sl 3 1 (r.map iC)) := by
  unfold p_kind_Uses at hF
  refine AC.mk (nt := 5) Tryd.func33 A A A fun w N => ?_
  refine w_seq (w_region (by rfl) (dvN (l_box (.ag _) A A) (dv1 (l_assign (.v _)) (dvE (q_seq (w_seq (w_region (by rfl) (dv1 (l_loadA ty49 A A A A A) ?_))))))))
  obtain ⟨y1, h2, hF⟩ := bindE hF
  refine dvC (l_call (B := false) (FnI.mk' (by kernel_rfl)) (.cons (.ag _) (.ag (.cons (.v _) (.cons (.v _) (.cons (.v _) (.cons (.v _) (.cons (.v _) (.cons (.v _) (.cons (.ro _) (.cons (.v _) .nil))))))))) .nil) (p_kind_uses_ac h2) (okF p_kind_uses_ok)) ?_
  rintro _ rfl
  refine dv1 (l_assign (.rf _ _ _ _)) (dvE (q_seq (w_ret ?_)))
  cases hF
  refine q_end (.inr A) ?_
  exact ret_ok A (.cons (.tmp (.rf _ _ _ _) (.rf A A (clm k_iC _))) .nil) (by decide) A

def p_cfg_targets (a0 : MEnd) : Option MEnd :=
some a0

theorem p_cfg_targets_ok {r : MEnd} : rOk (.fn (.func 71) [] [.ro (.rp (MEnd.ct r) 0)]) = true ∧ True := ⟨rfl, trivial⟩

set_option maxRecDepth 10000 in
set_option maxHeartbeats 4000000 in
theorem p_cfg_targets_ac {a0 : MEnd} {r : MEnd} (hF : p_cfg_targets a0 = some r) : AC Tryd.prog GT 63 [.ag (MEnd.ct a0)] (fun c => c = .fn (.func 71) [] [.ro (.rp (MEnd.ct r) 0)]) := by
  unfold p_cfg_targets at hF
  refine AC.mk (nt := 4) Tryd.func63 A A A fun w N => ?_
  refine w_seq (w_region (by rfl) (dvN (l_box (.ag _) A A) (dv1 (l_assign (.v _)) (dvE (q_seq (w_seq (w_region (by rfl) (dvG (le_freeze 0 [(1, .ro (.rp [.v (.int .i64 a0.K), .v (.int .i64 a0.A), .v (.int .i64 a0.To), .v (.int .i64 a0.Else), .ro (.sl 3 1 (a0.L.map iC)), .ro (.sl 3 1 (a0.M.map iC))] 0))] A (cl1 (.v _) (cl1 (.v _) (cl1 (.v _) (cl1 (.v _) (cl1 (.ro _ A) (cl1 (.ro _ A) (cl0 (b := true)))))))) (List.forall_mem_cons.2 ⟨⟨0, A, A⟩, (fun _ h => nomatch h)⟩)) ?_))))))))
  refine dvG (le_wk 1 (c' := .rp (MEnd.ct a0) 0) A (.rp (.cons (Wk.refl _) (.cons (Wk.refl _) (.cons (Wk.refl _) (.cons (Wk.refl _) (.cons (Wk.ro (Wk.refl _)) (.cons (Wk.ro (Wk.refl _)) .nil)))))))) ?_
  refine dv1 (l_fnE (f := 71) (.cons (.ro _) .nil)) (dv1 (l_assign (.fn _ _ _)) (dvE (q_seq (w_ret ?_))))
  cases hF
  refine q_end (.inr A) ?_
  exact ret_ok A (.cons (.tmp (.fn _ _ _) (.fn _ (capB_ok A))) .nil) (by decide) A

def p_cfg_targets_1_i (c0 : MEnd) {σ ρ : Type} (body : σ → MTarget → Option (Xt σ ρ)) (s0 : σ) : Option (Xt σ ρ) :=
(((bif decide (c0.K = 0) then
((body s0 (⟨c0.To, c0.L⟩ : MTarget)).bind fun z6 =>
(z6.on (fun s8 =>
some (Xt.go s8))
(fun o9 =>
some (Xt.out (Xt.out o9)))))
else
(bif decide (c0.K = 1) then
((body s0 (⟨c0.To, c0.L⟩ : MTarget)).bind fun z11 =>
(z11.on (fun s13 =>
some (Xt.go s13))
(fun o14 =>
some (Xt.out (Xt.out o14)))))
else
some (Xt.go s0)))).bind fun s2 => s2.on (fun (s15 : σ) =>
(bif decide (c0.K = 1) then
((body s15 (⟨c0.Else, c0.M⟩ : MTarget)).bind fun z18 =>
(z18.on (fun s20 =>
some (Xt.go s20))
(fun o21 =>
some (Xt.out o21))))
else
some (Xt.go s15)))
(fun o22 => some o22))

set_option maxRecDepth 10000 in
set_option maxHeartbeats 4000000 in
theorem p_cfg_targets_1_i_ic (c0 : MEnd) : IC Tryd.prog GT 71 [.rp (MEnd.ct c0) 0] (fun (y : MTarget) => [.ag (MTarget.ct y)]) (fun σ ρ body s0 => p_cfg_targets_1_i c0 body s0) := by
  refine IC.mk (nt := 31) Tryd.func71 A A A A fun σ ρ body s0 z hF w N F l J Jx hJ hX hY hRd => ?_
  unfold p_cfg_targets_1_i at hF
  obtain ⟨s2, hF, hG3⟩ := bindE hF
  refine w_seqE s2 (fun (s15 : σ) => ⟨[(0, .v (.func (.yield l) #[] #[])), (1, .ro (.rp (MEnd.ct c0) 0)), (1000000, .fo (foJ hJ s15))], [], 1⟩) ?_ (fun s15 e16 => ?_)
  · refine w_seq (w_region (by rfl) (dv1 (l_fieldRo fd45_0 A) (dv1 (l_loadRo ty3 A A) (dv1 (l_bin A A b_eql) (dv1 (l_move (.v _)) ?_)))))
    rcases condE hF with ⟨b5, hF⟩ | ⟨b5, hF⟩
    · refine dv1 (l_gF A A (gt A b5) A) (dv1 (l_gF A A (gt A b5) A) (dv1 (l_gF A A (gt A b5) A) (dv1 (l_pickT (gt A b5) (.v _)) (dv1 (l_move (.v _)) (dv1 (l_gT A A A fun _ => l_move (.v _)) (dv1 (l_gT A A A fun _ => l_fieldRo fd45_2 A) (dv1 (l_gT A A A fun _ => l_loadRo ty3 A A) (dv1 (l_gT A A A fun _ => l_fieldRo fd45_4 A) ?_))))))))
      refine dv1 (l_gT A A A fun _ => l_loadRo ty29 A A) (dv1 (l_gT A A A fun _ => l_build st68 zt68 (.cons (.v _) (.cons (.ro _) .nil)) A A) ?_)
      obtain ⟨z6, h7, hF⟩ := bindE hF
      rcases z6 with s8 | o9
      · replace hF := onGo hF
        refine dvY (l_gT A A A fun _ => l_yield (⟨c0.To, c0.L⟩ : MTarget) hY A (.cons (.ag _) (.ag (.cons (.v _) (.cons (.ro _) .nil))) .nil) A h7) ?_
        refine dv1 (l_gT A A A fun _ => l_not A) (dv1 (l_pickT A (.v _)) (dvE (q_seq (w_false A (w_skip ?_)))))
        cases hF
        refine qL A ?_
        exact (le_of [] A (.s (.s (.cons (.fo _) (.fo _) .nil) A) A) .nil)
      · replace hF := onOut hF
        refine dvY (l_gT A A A fun _ => l_yield (⟨c0.To, c0.L⟩ : MTarget) hY A (.cons (.ag _) (.ag (.cons (.v _) (.cons (.ro _) .nil))) .nil) A h7) ?_
        refine dv1 (l_gT A A A fun _ => l_not A) (dv1 (l_pickT A (.v _)) (dvE (q_seq (w_true A (w_ret (q_reS ?_))))))
        cases hF
        have hF := onOut hG3
        cases hF
        exact ⟨.inr A, A⟩
    · refine dv1 (l_gT A A (gt A b5) fun _ => l_fieldRo fd45_0 A) (dv1 (l_gT A A (gt A b5) fun _ => l_loadRo ty3 A A) (dv1 (l_gT A A (gt A b5) fun _ => l_bin A A b_eql) (dv1 (l_pickF (gt A b5) (.v _)) (dv1 (l_move (.v _)) ?_))))
      rcases condE hF with ⟨b10, hF⟩ | ⟨b10, hF⟩
      · refine dv1 (l_gT A A (gt A b10) fun _ => l_move (.v _)) (dv1 (l_gT A A (gt A b10) fun _ => l_fieldRo fd45_2 A) (dv1 (l_gT A A (gt A b10) fun _ => l_loadRo ty3 A A) (dv1 (l_gT A A (gt A b10) fun _ => l_fieldRo fd45_4 A) (dv1 (l_gT A A (gt A b10) fun _ => l_loadRo ty29 A A) (dv1 (l_gT A A (gt A b10) fun _ => l_build st68 zt68 (.cons (.v _) (.cons (.ro _) .nil)) A A) ?_)))))
        obtain ⟨z11, h12, hF⟩ := bindE hF
        rcases z11 with s13 | o14
        · replace hF := onGo hF
          refine dvY (l_gT A A (gt A b10) fun _ => l_yield (⟨c0.To, c0.L⟩ : MTarget) hY A (.cons (.ag _) (.ag (.cons (.v _) (.cons (.ro _) .nil))) .nil) A h12) ?_
          refine dv1 (l_gT A A (gt A b10) fun _ => l_not A) (dv1 (l_pickT (gt A b10) (.v _)) (dvE (q_seq (w_false A (w_skip ?_)))))
          cases hF
          refine qL A ?_
          exact (le_of [] A (.s (.s (.cons (.fo _) (.fo _) .nil) A) A) .nil)
        · replace hF := onOut hF
          refine dvY (l_gT A A (gt A b10) fun _ => l_yield (⟨c0.To, c0.L⟩ : MTarget) hY A (.cons (.ag _) (.ag (.cons (.v _) (.cons (.ro _) .nil))) .nil) A h12) ?_
          refine dv1 (l_gT A A (gt A b10) fun _ => l_not A) (dv1 (l_pickT (gt A b10) (.v _)) (dvE (q_seq (w_true A (w_ret (q_reS ?_))))))
          cases hF
          have hF := onOut hG3
          cases hF
          exact ⟨.inr A, A⟩
      · refine dv1 (l_gF A A (gt A b10) A) (dv1 (l_gF A A (gt A b10) A) (dv1 (l_gF A A (gt A b10) A) (dv1 (l_gF A A (gt A b10) A) (dv1 (l_gF A A (gt A b10) A) (dv1 (l_gF A A (gt A b10) A) (dv1 (l_gF A A (gt A b10) A) (dv1 (l_gF A A (gt A b10) A) (dv1 (l_pickF (gt A b10) (.v _)) ?_))))))))
        refine dvE (q_seq (w_false A (w_skip ?_)))
        cases hF
        refine qL A ?_
        exact (le_of [] A (.s (.s (.cons (.fo _) (.fo _) .nil) A) A) .nil)
  subst e16
  replace hF := onGo hG3
  refine w_seq (w_region (by rfl) (dv1 (l_fieldRo fd45_0 A) (dv1 (l_loadRo ty3 A A) (dv1 (l_bin A A b_eql) (dvE (q_seq ?_))))))
  rcases condE hF with ⟨b17, hF⟩ | ⟨b17, hF⟩
  · refine w_condT A b17 ?_
    refine w_region (by rfl) (dv1 (l_move (.v _)) (dv1 (l_fieldRo fd45_3 A) (dv1 (l_loadRo ty3 A A) (dv1 (l_fieldRo fd45_5 A) (dv1 (l_loadRo ty29 A A) (dv1 (l_build st68 zt68 (.cons (.v _) (.cons (.ro _) .nil)) A A) ?_))))))
    obtain ⟨z18, h19, hF⟩ := bindE hF
    rcases z18 with s20 | o21
    · replace hF := onGo hF
      refine dvY (l_yield (⟨c0.Else, c0.M⟩ : MTarget) hY A (.cons (.ag _) (.ag (.cons (.v _) (.cons (.ro _) .nil))) .nil) A h19) ?_
      refine dvE ?_
      cases hF
      exact ⟨.inl A, A⟩
    · replace hF := onOut hF
      refine dvY (l_yield (⟨c0.Else, c0.M⟩ : MTarget) hY A (.cons (.ag _) (.ag (.cons (.v _) (.cons (.ro _) .nil))) .nil) A h19) ?_
      refine dvE ?_
      cases hF
      exact ⟨.inl A, A⟩
  · refine w_condF A b17 ?_
    refine w_skip ?_
    cases hF
    exact ⟨.inl A, A⟩

def p_cfg_Targets (a0 : MEnd) : Option ((List MTarget)) :=
((((p_cfg_targets a0).bind fun y4 =>
((p_cfg_targets_1_i y4 (fun (s3007 : (List MTarget)) (y6 : MTarget) =>
(((p_slices_Clone_int_int y6.L).bind fun y3009 =>
(ck ((s3007.length + 1) * 32 ≤ 140737488355328)
(some (Xt.go (s3007 ++ [(⟨y6.To, y3009⟩ : MTarget)]))))) : Option (Xt ((List MTarget)) Unit))) []).bind fun z3008 => z3008.on (fun (s3007 : (List MTarget)) =>
some s3007) (fun _ => none)))).bind fun (s2 : (List MTarget)) =>
some s2)

theorem p_cfg_Targets_ok {r : (List MTarget)} : rOk (.sl 68 2 (r.map MTarget.ct)) = true ∧ FrT (.sl 68 2 (r.map MTarget.ct)) := ⟨rfl, (.one (.cl (.sl _ _ (clm k_MTargetct _))))⟩

set_option maxRecDepth 10000 in
set_option maxHeartbeats 4000000 in
theorem p_cfg_Targets_ac {a0 : MEnd} {r : (List MTarget)} (hF : p_cfg_Targets a0 = some r) : AC Tryd.prog GT 46 [.ag (MEnd.ct a0)] (fun c => c = .sl 68 2 (r.map MTarget.ct)) := by
  unfold p_cfg_Targets at hF
  refine AC.mk (nt := 17) Tryd.func46 A A A fun w N => ?_
  refine w_seq (w_region (by rfl) (dvN (l_box (.ag _) A A) (dv1 (l_assign (.v _)) (dvE (q_seq (w_seq (w_region (by rfl) (dvN (l_alloc zt65) ?_))))))))
  refine dvE (q_seq ?_)
  obtain ⟨s2, hF, hG3⟩ := bindE hF
  refine w_seqJ ⟨[(3, .ad 0 1 0 0)], [(0, some ⟨65, 1, [[.rf 1 0 ((s2.map MTarget.ct).length) 2]]⟩), (1, some ⟨68, 2, s2.map MTarget.ct⟩)], 1⟩ ?_ ?_
  · refine w_seq (w_region (by rfl) (dv1 (l_loadA ty45 A A A A A) ?_))
    obtain ⟨y4, h5, hF⟩ := bindE hF
    refine dvC (l_call (B := false) (FnI.mk' (by kernel_rfl)) (.cons (.ag _) (.ag (.cons (.v _) (.cons (.v _) (.cons (.v _) (.cons (.v _) (.cons (.ro _) (.cons (.ro _) .nil))))))) .nil) (p_cfg_targets_ac h5) (okF p_cfg_targets_ok)) ?_
    rintro _ rfl
    refine dvE (q_seq (w_block ?_))
    obtain ⟨z3008, hG3012, hF⟩ := bindE hF
    refine w_rangeF (jmp := .ret) (t := [(3, .ad 0 1 0 0), (6, .fn (.func 71) [] [.ro (.rp (MEnd.ct y4) 0)])]) (nx := 1) (p_cfg_targets_1_i_ic y4) hG3012 (fun (s3007 : (List MTarget)) => [(0, some ⟨65, 1, [[.rf 1 0 ((s3007.map MTarget.ct).length) 2]]⟩), (1, some ⟨68, 2, s3007.map MTarget.ct⟩)]) (fun (_ : Unit) => []) [0] (fun (s3007 : (List MTarget)) (y6 : MTarget) => ⟨[(3, .ad 0 1 0 0), (4, .ad 4 2 0 0)], [(0, some ⟨65, 1, [[.rf 3 0 ((s3007.map MTarget.ct).length) 2]]⟩), (3, some ⟨68, 2, s3007.map MTarget.ct⟩), (4, some ⟨68, 2, [[.v (.int .i64 y6.To), .ro (.sl 3 1 (y6.L.map iC))]]⟩)], 1⟩) A (FnI.mk' (by kernel_rfl)).run (le_of [(0, some 128), (1, none)] A (.s (.s .nil A) A) (.box A A (.cons (.nil ⟨by simp, A⟩) .nil) (.new ⟨by simp, A⟩ .nil))) A (fun _ => A) (by decide) A A A A (fun _ _ => A) ?_ ?_ ?_ ?_
    · intro l w M N g s3007 y6
      refine w_region (by rfl) (dvN (l_alloc zt68) (dvS (l_store ty68 A (.ag _) A A A (Nat.le_of_ble_eq_true A) A) (dvE (⟨A, ?_⟩))))
      exact (le_of [(0, some 0), (3, some 1), (4, some 64)] A (.s (.s .nil A) A) (.box A A (.s A) (.row A A A (clm k_MTargetct _) (.box A A (.s A) .nil))))
    · intro l w M N g s3007 y6 z_ hF
      refine w_block (w_seq (w_region (by rfl) (dv1 (l_field fd68_1 A) (dv1 (l_load ty29 A A A A A) ?_))))
      obtain ⟨y3009, h3010, hF⟩ := bindE hF
      refine dvC (l_call (B := false) (FnI.mk' (by kernel_rfl)) (.cons (.ro _) (.one (.ro _)) .nil) (p_slices_Clone_int_int_ac h3010) (okF p_slices_Clone_int_int_ok)) ?_
      rintro _ rfl
      refine dv1 (l_field fd68_1 A) (dvS (l_store ty29 A (.rf _ _ _ _) A A A (Nat.le_of_ble_eq_true A) A) (dvE (q_seq (w_region (by rfl) (dv1 (l_load ty65 A A A A A) (dv1 (l_loadA ty68 A A A A A) (dvN (l_bs1 sl65 zt68 A (.ag _) A A A (by decide) (by decide)) ?_)))))))
      obtain ⟨c3011, hF⟩ := ckE hF
      refine dvN3 (l_app1R el65 A A A A A A (by decide) A len_snoc (by simpa using c3011) (by decide)) ?_
      refine dvS (l_store ty65 A (.rf _ _ _ _) A A A (Nat.le_of_ble_eq_true A) A) (dvE (q_in ?_))
      cases hF
      refine .inl ⟨A, _, A, ?_⟩
      refine St.le.trans (le_closeR 576 s3007.length A (snoc_at MTarget.ct s3007 _) (.cons (.of (.v _)) (.cons (.of (.rf A A (clm k_iC _))) .nil)) (by decide) (by decide) A (snoc_cl MTarget.ct _ _ (⟨y6.To, y3009⟩ : MTarget))) ?_
      exact (le_of [(0, some 0), (1, some 576)] A .nil (.box A A (.cons (.rf A (by simp)) .nil) (.row A A A (clm k_MTargetct _) .nil)))
    · intro s3007 hs_
      subst hs_
      replace hF := onGo hF
      cases hF
      refine q_in (q_join ?_)
      exact (le_of [(0, some 0), (1, some 1)] A (.s .nil A) (.box A A (.s A) (.row A A A (clm k_MTargetct _) .nil)))
    · intro o_ hs_
      subst hs_
      exact nomatch onOut hF
  replace hF := hG3
  refine w_seq (w_region (by rfl) (dv1 (l_load ty65 A A A A A) (dv1 (l_assign (.rf _ _ _ _)) (dvE (q_seq (w_ret ?_))))))
  cases hF
  refine q_end (.inr A) ?_
  exact ret_ok A (.cons (.tmp (.rf _ _ _ _) (.rf A A (clm k_MTargetct _))) .nil) (by decide) A

def p_uses_ends (a0 : MFun) (a1 : MEnd) : Option ((List Int)) :=
(((((bif decide (a1.K = 1) then
some true
else
(bif decide (a1.K = 3) then
some true
else
(bif decide (a1.K = 2) then
some (!(decide (a0.Ret = (-1))))
else
some false)))).bind fun (s5 : Bool) =>
(bif s5 then
some [a1.A]
else
some []))).bind fun (s2 : (List Int)) =>
((((p_cfg_Targets a1).bind fun y14 =>
(loop (fun (s4016 : (List Int) × (List MTarget) × Int) =>
(bif decide (s4016.2.2 < ((y14.length : Nat) : Int)) then
((atI s4016.2.1 s4016.2.2).bind fun x4021 =>
(ck (((s4016.1 ++ x4021.L)).length * 8 ≤ 140737488355328)
(some (Xt.go ((s4016.1 ++ x4021.L), (s4016.2.1.set s4016.2.2.toNat x4021), IntKind.i64.wrap (s4016.2.2 + 1))))))
else
some (Xt.out s4016.1))) Fu (s2, y14, 0)))).bind fun (s12 : (List Int)) =>
some s12))

theorem p_uses_ends_ok {r : (List Int)} : rOk (.sl 3 1 (r.map iC)) = true ∧ FrT (.sl 3 1 (r.map iC)) := ⟨rfl, (.one (.cl (.sl _ _ (clm k_iC _))))⟩

set_option maxRecDepth 10000 in
set_option maxHeartbeats 4000000 in
theorem p_uses_ends_ac {a0 : MFun} {a1 : MEnd} {r : (List Int)} (hF : p_uses_ends a0 a1 = some r) : AC Tryd.prog GT 34 [.ag (MFun.ct a0), .ag (MEnd.ct a1)] (fun c => c = .sl 3 1 (r.map iC)) := by
  unfold p_uses_ends at hF
  refine AC.mk (nt := 44) Tryd.func34 A A A fun w N => ?_
  refine w_seq (w_region (by rfl) (dvN (l_box (.ag _) A A) (dvN (l_box (.ag _) A A) (dv1 (l_assign (.v _)) (dvE (q_seq (w_seq (w_region (by rfl) ?_))))))))
  refine dv1 (l_assign (.v _)) (dvE (q_seq ?_))
  obtain ⟨s2, hF, hG3⟩ := bindE hF
  refine w_seqJ ⟨[(3, .ad 0 6 0 0), (5, .rf 1 0 ((s2.map iC).length) 1)], [(0, some ⟨45, 6, [[.v (.int .i64 a1.K), .v (.int .i64 a1.A), .v (.int .i64 a1.To), .v (.int .i64 a1.Else), .ro (.sl 3 1 (a1.L.map iC)), .ro (.sl 3 1 (a1.M.map iC))]]⟩), (1, some ⟨3, 1, s2.map iC⟩)], 1⟩ ?_ ?_
  · obtain ⟨s5, hF, hG6⟩ := bindE hF
    refine w_seqJ ⟨[(3, .ad 0 6 0 0), (5, .v (.slice none 0 0)), (25, .v (.bool s5))], [(0, some ⟨45, 6, [[.v (.int .i64 a1.K), .v (.int .i64 a1.A), .v (.int .i64 a1.To), .v (.int .i64 a1.Else), .ro (.sl 3 1 (a1.L.map iC)), .ro (.sl 3 1 (a1.M.map iC))]]⟩)], 1⟩ ?_ ?_
    · refine w_region (by rfl) (dv1 (l_field fd45_0 A) (dv1 (l_load ty3 A A A A A) (dv1 (l_bin A A b_eql) (dv1 (l_move (.v _)) ?_))))
      rcases condE hF with ⟨b7, hF⟩ | ⟨b7, hF⟩
      · refine dv1 (l_gF A A (gt A b7) A) (dv1 (l_gF A A (gt A b7) A) (dv1 (l_gF A A (gt A b7) A) (dv1 (l_pickT (gt A b7) (.v _)) (dv1 (l_move (.v _)) (dv1 (l_gF A A A A) (dv1 (l_gF A A A A) (dv1 (l_gF A A A A) (dv1 (l_gF A A A A) ?_))))))))
        refine dv1 (l_gU A A A) (dv1 (l_gU A A A) (dv1 (l_gU A A A) (dv1 (l_gF A A A A) (dv1 (l_pickT A (.v _)) (dvE ?_)))))
        cases hF
        refine q_join ?_
        exact (le_of [(0, some 64)] A (.s (.s (.s .nil A) A) A) (.box A A (.s A) .nil))
      · refine dv1 (l_gT A A (gt A b7) fun _ => l_field fd45_0 A) (dv1 (l_gT A A (gt A b7) fun _ => l_load ty3 A A A A A) (dv1 (l_gT A A (gt A b7) fun _ => l_bin A A b_eql) (dv1 (l_pickF (gt A b7) (.v _)) (dv1 (l_move (.v _)) ?_))))
        rcases condE hF with ⟨b8, hF⟩ | ⟨b8, hF⟩
        · refine dv1 (l_gF A A (gt A b8) A) (dv1 (l_gF A A (gt A b8) A) (dv1 (l_gF A A (gt A b8) A) (dv1 (l_gF A A (gt A b8) A) (dv1 (l_gU A A A) (dv1 (l_gU A A A) (dv1 (l_gU A A A) (dv1 (l_gF A A (gt A b8) A) (dv1 (l_pickT (gt A b8) (.v _)) ?_))))))))
          refine dvE ?_
          cases hF
          refine q_join ?_
          exact (le_of [(0, some 64)] A (.s (.s (.s .nil A) A) A) (.box A A (.s A) .nil))
        · refine dv1 (l_gT A A (gt A b8) fun _ => l_field fd45_0 A) (dv1 (l_gT A A (gt A b8) fun _ => l_load ty3 A A A A A) (dv1 (l_gT A A (gt A b8) fun _ => l_bin A A b_eql) (dv1 (l_gT A A (gt A b8) fun _ => l_move (.v _)) ?_)))
          rcases condE hF with ⟨b9, hF⟩ | ⟨b9, hF⟩
          · refine dv1 (l_gT A A (gt A b9) fun _ => l_field fd33_0 A) (dv1 (l_gT A A (gt A b9) fun _ => l_load ty3 A A A A A) (dv1 (l_gT A A (gt A b9) fun _ => l_bin A A b_neq) (dv1 (l_gT A A (gt A b8) fun _ => l_pickT (gt A b9) (.v _)) (dv1 (l_pickF (gt A b8) (.v _)) (dvE ?_)))))
            cases hF
            refine q_join ?_
            exact (le_of [(0, some 64)] A (.s (.s (.s .nil A) A) A) (.box A A (.s A) .nil))
          · refine dv1 (l_gF A A (gt A b9) A) (dv1 (l_gF A A (gt A b9) A) (dv1 (l_gF A A (gt A b9) A) (dv1 (l_gT A A (gt A b8) fun _ => l_pickF (gt A b9) (.v _)) (dv1 (l_pickF (gt A b8) (.v _)) (dvE ?_)))))
            cases hF
            refine q_join ?_
            exact (le_of [(0, some 64)] A (.s (.s (.s .nil A) A) A) (.box A A (.s A) .nil))
    replace hF := hG6
    rcases condE hF with ⟨b10, hF⟩ | ⟨b10, hF⟩
    · refine w_condT A b10 ?_
      refine w_region (by rfl) (dv1 (l_move (.v _)) (dv1 (l_field fd45_1 A) (dv1 (l_load ty3 A A A A A) (dvN (l_bs1 sl29 zt3 A (.v _) A A A (by decide) (by decide)) (dvN2 (l_app1n el29 A A A A (by decide)) ?_)))))
      refine dv1 (l_assign (.rf _ _ _ _)) (dvE ?_)
      cases hF
      refine q_join ?_
      exact (le_of [(0, some 0), (1, some 320)] A (.s (.s .nil A) A) (.box A A (.s A) (.row A A A (clm k_iC _) .nil)))
    · refine w_condF A b10 ?_
      refine w_skip ?_
      cases hF
      refine q_join ?_
      exact (le_of [(0, some 0), (1, none)] A (.s (.cons (.v _) (.nil ⟨by simp, A⟩) .nil) A) (.box A A (.s A) (.new ⟨by simp, A⟩ .nil)))
  replace hF := hG3
  obtain ⟨s12, hF, hG13⟩ := bindE hF
  refine w_seqJ ⟨[(5, .rf 0 0 ((s12.map iC).length) 1)], [(0, some ⟨3, 1, s12.map iC⟩)], 1⟩ ?_ ?_
  · refine w_seq (w_region (by rfl) (dv1 (l_loadA ty45 A A A A A) ?_))
    obtain ⟨y14, h15, hF⟩ := bindE hF
    refine dvC (l_call (B := false) (FnI.mk' (by kernel_rfl)) (.cons (.ag _) (.ag (.cons (.v _) (.cons (.v _) (.cons (.v _) (.cons (.v _) (.cons (.ro _) (.cons (.ro _) .nil))))))) .nil) (p_cfg_Targets_ac h15) (okF p_cfg_Targets_ok)) ?_
    rintro _ rfl
    refine dv1 (l_lenR sl65 A A (List.length_map _)) (dv1 (l_move (.v _)) (dvE (q_seq (w_block (w_loopF hF (fun (s4016 : (List Int) × (List MTarget) × Int) => ⟨[(5, .rf 0 0 ((s4016.1.map iC).length) 1), (32, .rf 1 0 ((s4016.2.1.map MTarget.ct).length) 2), (33, .v (.int .i64 ((y14.length : Nat) : Int))), (34, .v (.int .i64 s4016.2.2))], [(0, some ⟨3, 1, s4016.1.map iC⟩), (1, some ⟨68, 2, s4016.2.1.map MTarget.ct⟩)], 1⟩) (le_of [(0, some 1), (1, some 128)] A (.s (.s (.s (.s .nil A) A) A) A) (.row A A A (clm k_iC _) (.row A A A (clm k_MTargetct _) .nil))) ?_)))))
    intro s4016 y4017 hF hx4018
    refine w_seq (w_region (by rfl) (dv1 (l_bin A A b_lss) (dvE (q_seq (w_seq ?_)))))
    rcases condE hF with ⟨b4020, hF⟩ | ⟨b4020, hF⟩
    · refine w_condT A b4020 ?_
      refine w_skip (q_seq (w_seq (w_block (w_seq (w_region (by rfl) ?_)))))
      obtain ⟨x4021, h4022, hF⟩ := bindE hF
      refine dv1 (l_index s4016.2.2.toNat sl65 A A (atI_z h4022) (lt_at MTarget.ct (atI_at h4022))) (dvG (le_open 1 s4016.2.2.toNat A (map_at (atI_at h4022)) A) ?_)
      refine dv1 (l_loadA ty68 A A (set_at (atI_at h4022)) A A) (dvN (l_alloc zt68) (dvS (l_store ty68 A (.ag _) A A A (Nat.le_of_ble_eq_true A) A) (dvE (q_seq (w_region (by rfl) (dv1 (l_move (.rf _ _ _ _)) (dv1 (l_field fd68_1 A) (dv1 (l_load ty29 A A A A A) ?_))))))))
      obtain ⟨c4023, hF⟩ := ckE hF
      refine dvN2 (l_appCR el29 A A A A A A A (cp_map (fun _ => A) _) (map_app iC _ _) (by simpa using c4023) (by decide)) ?_
      refine dv1 (l_assign (.rf _ _ _ _)) (dvE (q_in (q_seq (w_region (by rfl) (dv1 (l_bin A A (b_add A)) (dv1 (l_move (.v _)) (dvE ?_)))))))
      cases hF
      refine qL A ?_
      refine St.le.trans (le_closeR 1 s4016.2.2.toNat A (set_at (atI_at h4022)) (.cons (.of (.v _)) (.cons (.of (.rf A A (clm k_iC _))) .nil)) (by decide) (by decide) A (set_cl MTarget.ct _ _ _ x4021)) ?_
      exact (le_of [(0, some 640), (1, some 1)] A (.s (.cons (.rf _ _ _ _) (.rf A (by simp)) (.s (.s .nil A) A)) A) (.row A A A (clm k_iC _) (.row A A A (clm k_MTargetct _) .nil)))
    · refine w_condF A b4020 ?_
      refine w_exit ?_
      cases hF
      cases hx4018 _ rfl
      refine q_exS (q_exS (q_here (q_join ?_)))
      exact (le_of [(0, some 0)] A (.s .nil A) (.row A A A (clm k_iC _) .nil))
  replace hF := hG13
  refine w_seq (w_region (by rfl) (dv1 (l_move (.rf _ _ _ _)) (dv1 (l_assign (.rf _ _ _ _)) (dvE (q_seq (w_ret ?_))))))
  cases hF
  refine q_end (.inr A) ?_
  exact ret_ok A (.cons (.tmp (.rf _ _ _ _) (.rf A A (clm k_iC _))) .nil) (by decide) A

def p_uses_all (a0 : MFun) : Option MFun :=
some a0

theorem p_uses_all_ok {r : MFun} : rOk (.fn (.func 32) [] [.ro (.rp (MFun.ct r) 0)]) = true ∧ True := ⟨rfl, trivial⟩

set_option maxRecDepth 10000 in
set_option maxHeartbeats 4000000 in
theorem p_uses_all_ac {a0 : MFun} {r : MFun} (hF : p_uses_all a0 = some r) : AC Tryd.prog GT 24 [.ag (MFun.ct a0)] (fun c => c = .fn (.func 32) [] [.ro (.rp (MFun.ct r) 0)]) := by
  unfold p_uses_all at hF
  refine AC.mk (nt := 4) Tryd.func24 A A A fun w N => ?_
  refine w_seq (w_region (by rfl) (dvN (l_box (.ag _) A A) (dv1 (l_assign (.v _)) (dvE (q_seq (w_seq (w_region (by rfl) (dvG (le_freeze 0 [(1, .ro (.rp [.v (.int .i64 a0.Ret), .ro (.sl 47 8 (a0.Blocks.map MBlk.ct))] 0))] A (cl1 (.v _) (cl1 (.ro _ A) (cl0 (b := true)))) (List.forall_mem_cons.2 ⟨⟨0, A, A⟩, (fun _ h => nomatch h)⟩)) ?_))))))))
  refine dvG (le_wk 1 (c' := .rp (MFun.ct a0) 0) A (.rp (.cons (Wk.refl _) (.cons (Wk.ro (Wk.refl _)) .nil)))) ?_
  refine dv1 (l_fnE (f := 32) (.cons (.ro _) .nil)) (dv1 (l_assign (.fn _ _ _)) (dvE (q_seq (w_ret ?_))))
  cases hF
  refine q_end (.inr A) ?_
  exact ret_ok A (.cons (.tmp (.fn _ _ _) (.fn _ (capB_ok A))) .nil) (by decide) A

def p_uses_all_1_i (c0 : MFun) {σ ρ : Type} (body : σ → (MSite × Int) → Option (Xt σ ρ)) (s0 : σ) : Option (Xt σ ρ) :=
((loop (fun (s3001 : Nat × σ) =>
(bif decide (s3001.1 < c0.Blocks.length) then
((((c0.Blocks[s3001.1]?).bind fun x3011 =>
(((loop (fun (s6016 : Nat × σ) =>
(bif decide (s6016.1 < x3011.Ops.length) then
((((x3011.Ops[s6016.1]?).bind fun x6025 =>
((p_kind_Uses x6025).bind fun y6027 =>
(loop (fun (s9029 : Nat × σ) =>
(bif decide (s9029.1 < y6027.length) then
((y6027[s9029.1]?).bind fun x9035 =>
((body s9029.2 ((⟨0, ((s3001.1 : Nat) : Int), ((s6016.1 : Nat) : Int)⟩ : MSite), x9035)).bind fun z9037 =>
(z9037.on (fun s9039 =>
some (Xt.go ((s9029.1 + 1), s9039)))
(fun o9040 =>
some (Xt.out (Xt.out (Xt.out o9040)))))))
else
some (Xt.out (Xt.go s9029.2)))) Fu (0, s6016.2))))).bind fun s6023 => s6023.on (fun (s9041 : σ) =>
some (Xt.go ((s6016.1 + 1), s9041)))
(fun o9043 => some (Xt.out (Xt.out o9043))))
else
some (Xt.out (Xt.go s6016.2)))) Fu (0, s3001.2))).bind fun s3014 => s3014.on (fun (s9044 : σ) =>
((p_uses_ends c0 x3011.End).bind fun y9046 =>
(loop (fun (s12048 : Nat × σ) =>
(bif decide (s12048.1 < y9046.length) then
((y9046[s12048.1]?).bind fun x12054 =>
((body s12048.2 ((⟨0, ((s3001.1 : Nat) : Int), ((x3011.Ops.length : Nat) : Int)⟩ : MSite), x12054)).bind fun z12056 =>
(z12056.on (fun s12058 =>
some (Xt.go ((s12048.1 + 1), s12058)))
(fun o12059 =>
some (Xt.out (Xt.out (Xt.out o12059)))))))
else
some (Xt.out (Xt.go s12048.2)))) Fu (0, s9044))))
(fun o12060 => some (Xt.out o12060))))).bind fun s3009 => s3009.on (fun (s12061 : σ) =>
some (Xt.go ((s3001.1 + 1), s12061)))
(fun o12063 => some (Xt.out o12063)))
else
some (Xt.out (Xt.go s3001.2)))) Fu (0, s0)).bind fun o3004 => some o3004)

set_option maxRecDepth 10000 in
set_option maxHeartbeats 4000000 in
theorem p_uses_all_1_i_ic (c0 : MFun) : IC Tryd.prog GT 32 [.rp (MFun.ct c0) 0] (fun (y : MSite × Int) => [.ag (MSite.ct y.1), .v (.int .i64 y.2)]) (fun σ ρ body s0 => p_uses_all_1_i c0 body s0) := by
  refine IC.mk (nt := 63) Tryd.func32 A A A A fun σ ρ body s0 z hF w N F l J Jx hJ hX hY hRd => ?_
  unfold p_uses_all_1_i at hF
  refine w_seq (w_region (by rfl) (dv1 (l_fieldRo fd33_1 A) (dv1 (l_loadRo ty31 A A) (dv1 (l_lenRo sl31 A A (List.length_map _)) (dv1 (l_move (.v _)) (dvE (q_seq (w_block ?_))))))))
  obtain ⟨o3004, hF, hG3005⟩ := bindE hF
  refine w_loopF hF (fun (s3001 : Nat × σ) => ⟨[(0, .v (.func (.yield l) #[] #[])), (1, .ro (.rp (MFun.ct c0) 0)), (12, .ro (.sl 47 8 (c0.Blocks.map MBlk.ct))), (13, .v (.int .i64 ((c0.Blocks.length : Nat) : Int))), (14, .v (.int .i64 ((s3001.1 : Nat) : Int))), (1000000, .fo (foJ hJ s3001.2))], [], 1⟩) (le_of [] A (.s (.s (.s (.s (.s (.cons (.fo _) (.fo _) .nil) A) A) A) A) A) .nil) ?_
  intro s3001 y3002 hF hx3003
  refine w_seq (w_region (by rfl) (dv1 (l_bin A A b_lssN) (dvE (q_seq (w_seq ?_)))))
  rcases condE hF with ⟨b3006, hF⟩ | ⟨b3006, hF⟩
  · refine w_lenS 12 A fun l3007 => ?_
    refine w_condT A b3006 ?_
    refine w_skip (q_seq ?_)
    obtain ⟨s3009, hF, hG3010⟩ := bindE hF
    refine w_seqE s3009 (fun (s12061 : σ) => ⟨[(0, .v (.func (.yield l) #[] #[])), (1, .ro (.rp (MFun.ct c0) 0)), (12, .ro (.sl 47 8 (c0.Blocks.map MBlk.ct))), (13, .v (.int .i64 ((c0.Blocks.length : Nat) : Int))), (14, .v (.int .i64 ((s3001.1 : Nat) : Int))), (1000000, .fo (foJ hJ s12061))], [], 1⟩) ?_ (fun s12061 e12062 => ?_)
    · refine w_block (w_seq (w_region (by rfl) (dv1 (l_move (.v _)) ?_)))
      obtain ⟨x3011, h3012, hF⟩ := bindE hF
      refine dv1 (l_indexRo s3001.1 sl31 A A A (map_at h3012)) (dv1 (l_loadARo ty47 A A) (dvN (l_alloc zt47) (dv1 (l_assign (.v _)) (dvS (l_store ty47 A (.ag _) A A A (Nat.le_of_ble_eq_true A) A) (dvE (q_seq ?_))))))
      obtain ⟨s3014, hF, hG3015⟩ := bindE hF
      refine w_seqE s3014 (fun (s9044 : σ) => ⟨[(0, .v (.func (.yield l) #[] #[])), (1, .ro (.rp (MFun.ct c0) 0)), (3, .v (.int .i64 ((s3001.1 : Nat) : Int))), (4, .ad 0 8 0 0), (12, .ro (.sl 47 8 (c0.Blocks.map MBlk.ct))), (13, .v (.int .i64 ((c0.Blocks.length : Nat) : Int))), (14, .v (.int .i64 ((s3001.1 : Nat) : Int))), (1000000, .fo (foJ hJ s9044))], [(0, some ⟨47, 8, [[.ro (.sl 3 1 (x3011.Params.map iC)), .ro (.sl 49 8 (x3011.Ops.map MOp.ct)), .v (.int .i64 x3011.End.K), .v (.int .i64 x3011.End.A), .v (.int .i64 x3011.End.To), .v (.int .i64 x3011.End.Else), .ro (.sl 3 1 (x3011.End.L.map iC)), .ro (.sl 3 1 (x3011.End.M.map iC))]]⟩)], 1⟩) ?_ (fun s9044 e9045 => ?_)
      · refine w_seq (w_region (by rfl) (dv1 (l_field fd47_1 A) (dv1 (l_load ty43 A A A A A) (dv1 (l_lenRo sl43 A A (List.length_map _)) (dv1 (l_move (.v _)) (dvE (q_seq (w_block ?_))))))))
        refine w_loopF hF (fun (s6016 : Nat × σ) => ⟨[(0, .v (.func (.yield l) #[] #[])), (1, .ro (.rp (MFun.ct c0) 0)), (3, .v (.int .i64 ((s3001.1 : Nat) : Int))), (4, .ad 0 8 0 0), (12, .ro (.sl 47 8 (c0.Blocks.map MBlk.ct))), (13, .v (.int .i64 ((c0.Blocks.length : Nat) : Int))), (14, .v (.int .i64 ((s3001.1 : Nat) : Int))), (20, .ro (.sl 49 8 (x3011.Ops.map MOp.ct))), (21, .v (.int .i64 ((x3011.Ops.length : Nat) : Int))), (22, .v (.int .i64 ((s6016.1 : Nat) : Int))), (1000000, .fo (foJ hJ s6016.2))], [(0, some ⟨47, 8, [[.ro (.sl 3 1 (x3011.Params.map iC)), .ro (.sl 49 8 (x3011.Ops.map MOp.ct)), .v (.int .i64 x3011.End.K), .v (.int .i64 x3011.End.A), .v (.int .i64 x3011.End.To), .v (.int .i64 x3011.End.Else), .ro (.sl 3 1 (x3011.End.L.map iC)), .ro (.sl 3 1 (x3011.End.M.map iC))]]⟩)], 1⟩) (le_of [(0, some 320)] A (.s (.s (.s (.s (.s (.s (.s (.s (.s (.s (.cons (.fo _) (.fo _) .nil) A) A) A) A) A) A) A) A) A) A) (.box A A (.s A) .nil)) ?_
        intro s6016 y6017 hF hx6018
        refine w_seq (w_region (by rfl) (dv1 (l_bin A A b_lssN) (dvE (q_seq (w_seq ?_)))))
        rcases condE hF with ⟨b6020, hF⟩ | ⟨b6020, hF⟩
        · refine w_lenS 20 A fun l6021 => ?_
          refine w_condT A b6020 ?_
          refine w_skip (q_seq ?_)
          obtain ⟨s6023, hF, hG6024⟩ := bindE hF
          refine w_seqE s6023 (fun (s9041 : σ) => ⟨[(0, .v (.func (.yield l) #[] #[])), (1, .ro (.rp (MFun.ct c0) 0)), (3, .v (.int .i64 ((s3001.1 : Nat) : Int))), (4, .ad 0 8 0 0), (12, .ro (.sl 47 8 (c0.Blocks.map MBlk.ct))), (13, .v (.int .i64 ((c0.Blocks.length : Nat) : Int))), (14, .v (.int .i64 ((s3001.1 : Nat) : Int))), (20, .ro (.sl 49 8 (x3011.Ops.map MOp.ct))), (21, .v (.int .i64 ((x3011.Ops.length : Nat) : Int))), (22, .v (.int .i64 ((s6016.1 : Nat) : Int))), (1000000, .fo (foJ hJ s9041))], [(0, some ⟨47, 8, [[.ro (.sl 3 1 (x3011.Params.map iC)), .ro (.sl 49 8 (x3011.Ops.map MOp.ct)), .v (.int .i64 x3011.End.K), .v (.int .i64 x3011.End.A), .v (.int .i64 x3011.End.To), .v (.int .i64 x3011.End.Else), .ro (.sl 3 1 (x3011.End.L.map iC)), .ro (.sl 3 1 (x3011.End.M.map iC))]]⟩)], 1⟩) ?_ (fun s9041 e9042 => ?_)
          · refine w_block (w_seq (w_region (by rfl) (dv1 (l_move (.v _)) ?_)))
            obtain ⟨x6025, h6026, hF⟩ := bindE hF
            refine dv1 (l_indexRo s6016.1 sl43 A A A (map_at h6026)) (dv1 (l_loadARo ty49 A A) (dvN (l_alloc zt49) (dv1 (l_assign (.v _)) (dvS (l_store ty49 A (.ag _) A A A (Nat.le_of_ble_eq_true A) A) (dvE (q_seq (w_seq (w_region (by rfl) ?_))))))))
            refine dv1 (l_loadA ty49 A A A A A) ?_
            obtain ⟨y6027, h6028, hF⟩ := bindE hF
            refine dvC (l_call (B := false) (FnI.mk' (by kernel_rfl)) (.cons (.ag _) (.ag (.cons (.v _) (.cons (.v _) (.cons (.v _) (.cons (.v _) (.cons (.v _) (.cons (.v _) (.cons (.ro _) (.cons (.v _) .nil))))))))) .nil) (p_kind_Uses_ac h6028) (okF p_kind_Uses_ok)) ?_
            rintro _ rfl
            refine dv1 (l_lenR sl29 A A (List.length_map _)) (dv1 (l_move (.v _)) (dvE (q_seq (w_block (w_loopF hF (fun (s9029 : Nat × σ) => ⟨[(0, .v (.func (.yield l) #[] #[])), (1, .ro (.rp (MFun.ct c0) 0)), (3, .v (.int .i64 ((s3001.1 : Nat) : Int))), (4, .ad 0 8 0 0), (5, .v (.int .i64 ((s6016.1 : Nat) : Int))), (12, .ro (.sl 47 8 (c0.Blocks.map MBlk.ct))), (13, .v (.int .i64 ((c0.Blocks.length : Nat) : Int))), (14, .v (.int .i64 ((s3001.1 : Nat) : Int))), (20, .ro (.sl 49 8 (x3011.Ops.map MOp.ct))), (21, .v (.int .i64 ((x3011.Ops.length : Nat) : Int))), (22, .v (.int .i64 ((s6016.1 : Nat) : Int))), (28, .rf 1 0 ((y6027.map iC).length) 1), (29, .v (.int .i64 ((y6027.length : Nat) : Int))), (30, .v (.int .i64 ((s9029.1 : Nat) : Int))), (1000000, .fo (foJ hJ s9029.2))], [(0, some ⟨47, 8, [[.ro (.sl 3 1 (x3011.Params.map iC)), .ro (.sl 49 8 (x3011.Ops.map MOp.ct)), .v (.int .i64 x3011.End.K), .v (.int .i64 x3011.End.A), .v (.int .i64 x3011.End.To), .v (.int .i64 x3011.End.Else), .ro (.sl 3 1 (x3011.End.L.map iC)), .ro (.sl 3 1 (x3011.End.M.map iC))]]⟩), (1, some ⟨3, 1, y6027.map iC⟩)], 1⟩) (le_of [(0, some 0), (1, some 576)] A (.s (.s (.s (.s (.s (.s (.s (.s (.s (.s (.s (.s (.s (.s (.cons (.fo _) (.fo _) .nil) A) A) A) A) A) A) A) A) A) A) A) A) A) A) (.box A A (.s A) (.row A A A (clm k_iC _) .nil))) ?_)))))
            intro s9029 y9030 hF hx9031
            refine w_seq (w_region (by rfl) (dv1 (l_bin A A b_lssN) (dvE (q_seq (w_seq ?_)))))
            rcases condE hF with ⟨b9033, hF⟩ | ⟨b9033, hF⟩
            · refine w_lenK 1 A fun l9034 => ?_
              refine w_condT A b9033 ?_
              refine w_skip (q_seq (w_seq (w_block (w_seq (w_region (by rfl) ?_)))))
              obtain ⟨x9035, h9036, hF⟩ := bindE hF
              refine dv1 (l_index s9029.1 sl29 A A A (lt_at iC h9036)) (dv1 (l_load ty3 A A (map_at h9036) A A) (dv1 (l_assign (.v _)) (dvE (q_seq (w_seq (w_region (by rfl) (dv1 (l_move (.v _)) (dv1 (l_move (.v _)) ?_))))))))
              refine dv1 (l_move (.v _)) (dv1 (l_build st59 zt59 (.cons (.v _) (.cons (.v _) .nil)) A A) (dv1 (l_move (.v _)) ?_))
              obtain ⟨z9037, h9038, hF⟩ := bindE hF
              rcases z9037 with s9039 | o9040
              · replace hF := onGo hF
                refine dvY (l_yield ((⟨0, ((s3001.1 : Nat) : Int), ((s6016.1 : Nat) : Int)⟩ : MSite), x9035) hY A (.cons (.ag _) (.ag (.cons (.v _) (.cons (.v _) (.cons (.v _) .nil)))) (.cons (.v _) (.one (.v _)) .nil)) A h9038) ?_
                refine dv1 (l_not A) (dvE (q_seq (w_false A (w_skip (q_in (q_seq (w_region (by rfl) (dv1 (l_bin A A (b_incN (of_decide_eq_true b9033) l9034)) ?_))))))))
                refine dv1 (l_move (.v _)) (dvE ?_)
                cases hF
                refine qL A ?_
                exact (le_of [(0, some 0), (1, some 1)] A (.s (.s (.s (.s (.s (.s (.s (.s (.s (.s (.s (.s (.s (.s (.cons (.fo _) (.fo _) .nil) A) A) A) A) A) A) A) A) A) A) A) A) A) A) (.box A A (.s A) (.row A A A (clm k_iC _) .nil)))
              · replace hF := onOut hF
                refine dvY (l_yield ((⟨0, ((s3001.1 : Nat) : Int), ((s6016.1 : Nat) : Int)⟩ : MSite), x9035) hY A (.cons (.ag _) (.ag (.cons (.v _) (.cons (.v _) (.cons (.v _) .nil)))) (.cons (.v _) (.one (.v _)) .nil)) A h9038) ?_
                refine dv1 (l_not A) (dvE (q_seq (w_true A (w_ret (q_reI (q_reS (q_reS (q_reI ?_))))))))
                refine q_reI (q_reS (q_reS (q_reI (q_reS (q_reI (q_reS (q_reS (q_reI ?_))))))))
                cases hF
                cases hx9031 _ rfl
                have hF := onOut hG6024
                cases hF
                cases hx6018 _ rfl
                have hF := onOut hG3015
                cases hF
                have hF := onOut hG3010
                cases hF
                cases hx3003 _ rfl
                have hF := hG3005
                cases hF
                exact ⟨.inr A, A⟩
            · refine w_condF A b9033 ?_
              refine w_exit ?_
              cases hF
              cases hx9031 _ rfl
              refine q_exS (q_exS (q_here (q_in (qL A ?_))))
              exact (le_of [(0, some 0)] A (.s (.s (.s (.s (.s (.s (.s (.s (.s (.s (.cons (.fo _) (.fo _) .nil) A) A) A) A) A) A) A) A) A) A) (.box A A (.s A) .nil))
          subst e9042
          replace hF := onGo hG6024
          refine w_region (by rfl) (dv1 (l_bin A A (b_incN (of_decide_eq_true b6020) l6021)) (dv1 (l_move (.v _)) (dvE ?_)))
          cases hF
          refine qL A ?_
          exact (le_of [(0, some 0)] A (.s (.s (.s (.s (.s (.s (.s (.s (.s (.s (.cons (.fo _) (.fo _) .nil) A) A) A) A) A) A) A) A) A) A) (.box A A (.s A) .nil))
        · refine w_condF A b6020 ?_
          refine w_exit ?_
          cases hF
          cases hx6018 _ rfl
          refine q_exS (q_exS (q_here (qL A ?_)))
          exact (le_of [(0, some 0)] A (.s (.s (.s (.s (.s (.s (.s (.cons (.fo _) (.fo _) .nil) A) A) A) A) A) A) A) (.box A A (.s A) .nil))
      subst e9045
      replace hF := onGo hG3015
      refine w_seq (w_region (by rfl) (dv1 (l_loadARo ty33 A A) (dv1 (l_field fd47_2 A) (dv1 (l_loadA ty45 A A A A A) ?_))))
      obtain ⟨y9046, h9047, hF⟩ := bindE hF
      refine dvC (l_call (B := false) (FnI.mk' (by kernel_rfl)) (.cons (.ag _) (.ag (.cons (.v _) (.cons (.ro _) .nil))) (.cons (.ag _) (.ag (.cons (.v _) (.cons (.v _) (.cons (.v _) (.cons (.v _) (.cons (.ro _) (.cons (.ro _) .nil))))))) .nil)) (p_uses_ends_ac h9047) (okF p_uses_ends_ok)) ?_
      rintro _ rfl
      refine dv1 (l_lenR sl29 A A (List.length_map _)) (dv1 (l_move (.v _)) (dvE (q_seq (w_block (w_loopF hF (fun (s12048 : Nat × σ) => ⟨[(0, .v (.func (.yield l) #[] #[])), (1, .ro (.rp (MFun.ct c0) 0)), (3, .v (.int .i64 ((s3001.1 : Nat) : Int))), (4, .ad 0 8 0 0), (12, .ro (.sl 47 8 (c0.Blocks.map MBlk.ct))), (13, .v (.int .i64 ((c0.Blocks.length : Nat) : Int))), (14, .v (.int .i64 ((s3001.1 : Nat) : Int))), (46, .rf 1 0 ((y9046.map iC).length) 1), (47, .v (.int .i64 ((y9046.length : Nat) : Int))), (48, .v (.int .i64 ((s12048.1 : Nat) : Int))), (1000000, .fo (foJ hJ s12048.2))], [(0, some ⟨47, 8, [[.ro (.sl 3 1 (x3011.Params.map iC)), .ro (.sl 49 8 (x3011.Ops.map MOp.ct)), .v (.int .i64 x3011.End.K), .v (.int .i64 x3011.End.A), .v (.int .i64 x3011.End.To), .v (.int .i64 x3011.End.Else), .ro (.sl 3 1 (x3011.End.L.map iC)), .ro (.sl 3 1 (x3011.End.M.map iC))]]⟩), (1, some ⟨3, 1, y9046.map iC⟩)], 1⟩) (le_of [(0, some 0), (1, some 256)] A (.s (.s (.s (.s (.s (.s (.s (.s (.s (.s (.cons (.fo _) (.fo _) .nil) A) A) A) A) A) A) A) A) A) A) (.box A A (.s A) (.row A A A (clm k_iC _) .nil))) ?_)))))
      intro s12048 y12049 hF hx12050
      refine w_seq (w_region (by rfl) (dv1 (l_bin A A b_lssN) (dvE (q_seq (w_seq ?_)))))
      rcases condE hF with ⟨b12052, hF⟩ | ⟨b12052, hF⟩
      · refine w_lenK 1 A fun l12053 => ?_
        refine w_condT A b12052 ?_
        refine w_skip (q_seq (w_seq (w_block (w_seq (w_region (by rfl) ?_)))))
        obtain ⟨x12054, h12055, hF⟩ := bindE hF
        refine dv1 (l_index s12048.1 sl29 A A A (lt_at iC h12055)) (dv1 (l_load ty3 A A (map_at h12055) A A) (dv1 (l_assign (.v _)) (dvE (q_seq (w_seq (w_region (by rfl) (dv1 (l_move (.v _)) (dv1 (l_move (.v _)) ?_))))))))
        refine dv1 (l_field fd47_1 A) (dv1 (l_load ty43 A A A A A) (dv1 (l_lenRo sl43 A A (List.length_map _)) (dv1 (l_build st59 zt59 (.cons (.v _) (.cons (.v _) .nil)) A A) (dv1 (l_move (.v _)) ?_))))
        obtain ⟨z12056, h12057, hF⟩ := bindE hF
        rcases z12056 with s12058 | o12059
        · replace hF := onGo hF
          refine dvY (l_yield ((⟨0, ((s3001.1 : Nat) : Int), ((x3011.Ops.length : Nat) : Int)⟩ : MSite), x12054) hY A (.cons (.ag _) (.ag (.cons (.v _) (.cons (.v _) (.cons (.v _) .nil)))) (.cons (.v _) (.one (.v _)) .nil)) A h12057) ?_
          refine dv1 (l_not A) (dvE (q_seq (w_false A (w_skip (q_in (q_seq (w_region (by rfl) (dv1 (l_bin A A (b_incN (of_decide_eq_true b12052) l12053)) ?_))))))))
          refine dv1 (l_move (.v _)) (dvE ?_)
          cases hF
          refine qL A ?_
          exact (le_of [(0, some 0), (1, some 1)] A (.s (.s (.s (.s (.s (.s (.s (.s (.s (.s (.cons (.fo _) (.fo _) .nil) A) A) A) A) A) A) A) A) A) A) (.box A A (.s A) (.row A A A (clm k_iC _) .nil)))
        · replace hF := onOut hF
          refine dvY (l_yield ((⟨0, ((s3001.1 : Nat) : Int), ((x3011.Ops.length : Nat) : Int)⟩ : MSite), x12054) hY A (.cons (.ag _) (.ag (.cons (.v _) (.cons (.v _) (.cons (.v _) .nil)))) (.cons (.v _) (.one (.v _)) .nil)) A h12057) ?_
          refine dv1 (l_not A) (dvE (q_seq (w_true A (w_ret (q_reI (q_reS (q_reS (q_reI ?_))))))))
          refine q_reI (q_reS (q_reS (q_reI ?_)))
          cases hF
          cases hx12050 _ rfl
          have hF := onOut hG3010
          cases hF
          cases hx3003 _ rfl
          have hF := hG3005
          cases hF
          exact ⟨.inr A, A⟩
      · refine w_condF A b12052 ?_
        refine w_exit ?_
        cases hF
        cases hx12050 _ rfl
        refine q_exS (q_exS (q_here (q_in (qL A ?_))))
        exact (le_of [] A (.s (.s (.s (.s (.s (.cons (.fo _) (.fo _) .nil) A) A) A) A) A) .nil)
    subst e12062
    replace hF := onGo hG3010
    refine w_region (by rfl) (dv1 (l_bin A A (b_incN (of_decide_eq_true b3006) l3007)) (dv1 (l_move (.v _)) (dvE ?_)))
    cases hF
    refine qL A ?_
    exact (le_of [] A (.s (.s (.s (.s (.s (.cons (.fo _) (.fo _) .nil) A) A) A) A) A) .nil)
  · refine w_condF A b3006 ?_
    refine w_exit (q_exS (q_exS (q_here ?_)))
    cases hF
    cases hx3003 _ rfl
    have hF := hG3005
    cases hF
    exact ⟨.inl A, A⟩

def p_uses_Counts (a0 : MFun) : Option ((List Int)) :=
((p_code_Values a0).bind fun y1 =>
((natI y1).bind fun m3 =>
(ck (8 * m3 ≤ 140737488355328)
(((((p_uses_all a0).bind fun y9 =>
((p_uses_all_1_i y9 (fun (s3012 : (List Int)) (y11 : MSite × Int) =>
((((bif decide ((0 : Int) ≤ y11.2) then
some (decide (y11.2 < ((s3012.length : Nat) : Int)))
else
some false)).bind fun (s3015 : Bool) =>
(bif s3015 then
((atI s3012 y11.2).bind fun x3019 =>
some (Xt.go (s3012.set y11.2.toNat (IntKind.i64.wrap (x3019 + 1)))))
else
some (Xt.go s3012))) : Option (Xt ((List Int)) Unit))) (List.replicate m3 (0 : Int))).bind fun z3013 => z3013.on (fun (s3012 : (List Int)) =>
some s3012) (fun _ => none)))).bind fun (s7 : (List Int)) =>
some s7)))))

theorem p_uses_Counts_ok {r : (List Int)} : rOk (.sl 3 1 (r.map iC)) = true ∧ FrT (.sl 3 1 (r.map iC)) := ⟨rfl, (.one (.cl (.sl _ _ (clm k_iC _))))⟩

set_option maxRecDepth 10000 in
set_option maxHeartbeats 4000000 in
theorem p_uses_Counts_ac {a0 : MFun} {r : (List Int)} (hF : p_uses_Counts a0 = some r) : AC Tryd.prog GT 17 [.ag (MFun.ct a0)] (fun c => c = .sl 3 1 (r.map iC)) := by
  unfold p_uses_Counts at hF
  refine AC.mk (nt := 28) Tryd.func17 A A A fun w N => ?_
  refine w_seq (w_region (by rfl) (dvN (l_box (.ag _) A A) (dv1 (l_assign (.v _)) (dvE (q_seq (w_seq (w_region (by rfl) (dv1 (l_loadA ty33 A A A A A) ?_))))))))
  obtain ⟨y1, h2, hF⟩ := bindE hF
  refine dvC (l_call (B := false) (FnI.mk' (by kernel_rfl)) (.cons (.ag _) (.ag (.cons (.v _) (.cons (.ro _) .nil))) .nil) (p_code_Values_ac h2) (okF p_code_Values_ok)) ?_
  rintro _ rfl
  obtain ⟨m3, h4, hF⟩ := bindE hF
  obtain ⟨c5, hF⟩ := ckE hF
  refine dvN (l_makeR (iC (0 : Int)) m3 sl29 by3 zt3 A A A (natI_z h4) (natI_z h4) c5 (by decide) A (by intro j c z h1 h2 w N bs; rcases j with _ | j <;> simp at h1 h2 <;> (subst h1; subst h2; first | exact .v _ | exact .nil)) (rep_map iC _ _)) (dvN (l_alloc zt29) (dvS (l_store ty29 A (.rf _ _ _ _) A A A (Nat.le_of_ble_eq_true A) A) (dvE (q_seq ?_))))
  obtain ⟨s7, hF, hG8⟩ := bindE hF
  refine w_seqJ ⟨[(3, .ad 0 1 0 0)], [(0, some ⟨29, 1, [[.rf 1 0 ((s7.map iC).length) 1]]⟩), (1, some ⟨3, 1, s7.map iC⟩)], 1⟩ ?_ ?_
  · refine w_seq (w_region (by rfl) (dv1 (l_loadA ty33 A A A A A) ?_))
    obtain ⟨y9, h10, hF⟩ := bindE hF
    refine dvC (l_call (B := false) (FnI.mk' (by kernel_rfl)) (.cons (.ag _) (.ag (.cons (.v _) (.cons (.ro _) .nil))) .nil) (p_uses_all_ac h10) (okF p_uses_all_ok)) ?_
    rintro _ rfl
    refine dvE (q_seq (w_block ?_))
    obtain ⟨z3013, hG3021, hF⟩ := bindE hF
    refine w_rangeF (jmp := .ret) (t := [(3, .ad 0 1 0 0), (10, .fn (.func 32) [] [.ro (.rp (MFun.ct y9) 0)])]) (nx := 1) (p_uses_all_1_i_ic y9) hG3021 (fun (s3012 : (List Int)) => [(0, some ⟨29, 1, [[.rf 1 0 ((s3012.map iC).length) 1]]⟩), (1, some ⟨3, 1, s3012.map iC⟩)]) (fun (_ : Unit) => []) [0] (fun (s3012 : (List Int)) (y11 : MSite × Int) => ⟨[(3, .ad 0 1 0 0), (5, .v (.int .i64 y11.2))], [(0, some ⟨29, 1, [[.rf 3 0 ((s3012.map iC).length) 1]]⟩), (3, some ⟨3, 1, s3012.map iC⟩)], 1⟩) A (FnI.mk' (by kernel_rfl)).run (le_of [(0, some 320), (1, some 256)] A (.s (.s .nil A) A) (.box A A (.s A) (.row A A A (clm k_iC _) .nil))) A (fun _ => A) (by decide) A A A A (fun _ _ => A) ?_ ?_ ?_ ?_
    · intro l w M N g s3012 y11
      refine w_region (by rfl) (dv1 (l_assign (.v _)) (dvE (⟨A, ?_⟩)))
      exact (le_of [(0, some 0), (3, some 1)] A (.s (.s .nil A) A) (.box A A (.s A) (.row A A A (clm k_iC _) .nil)))
    · intro l w M N g s3012 y11 z_ hF
      refine w_block ?_
      obtain ⟨s3015, hF, hG3016⟩ := bindE hF
      refine w_seqJ ⟨[(3, .ad 0 1 0 0), (5, .v (.int .i64 y11.2)), (20, .v (.bool s3015))], [(0, some ⟨29, 1, [[.rf 3 0 ((s3012.map iC).length) 1]]⟩), (3, some ⟨3, 1, s3012.map iC⟩)], 1⟩ ?_ ?_
      · refine w_region (by rfl) (dv1 (l_move (.v _)) (dv1 (l_bin A A b_geq) (dv1 (l_move (.v _)) ?_)))
        rcases condE hF with ⟨b3017, hF⟩ | ⟨b3017, hF⟩
        · refine dv1 (l_gT A A (gt A b3017) fun _ => l_move (.v _)) (dv1 (l_gT A A (gt A b3017) fun _ => l_load ty29 A A A A A) (dv1 (l_gT A A (gt A b3017) fun _ => l_lenR sl29 A A (List.length_map _)) (dv1 (l_gT A A (gt A b3017) fun _ => l_bin A A b_lss) (dv1 (l_pickT (gt A b3017) (.v _)) (dvE ?_)))))
          cases hF
          refine q_join ?_
          exact (le_of [(0, some 0), (3, some 3)] A (.s (.s (.s .nil A) A) A) (.box A A (.s A) (.row A A A (clm k_iC _) .nil)))
        · refine dv1 (l_gF A A (gt A b3017) A) (dv1 (l_gF A A (gt A b3017) A) (dv1 (l_gF A A (gt A b3017) A) (dv1 (l_gF A A (gt A b3017) A) (dv1 (l_pickF (gt A b3017) (.v _)) (dvE ?_)))))
          cases hF
          refine q_join ?_
          exact (le_of [(0, some 0), (3, some 3)] A (.s (.s (.s .nil A) A) A) (.box A A (.s A) (.row A A A (clm k_iC _) .nil)))
      replace hF := hG3016
      rcases condE hF with ⟨b3018, hF⟩ | ⟨b3018, hF⟩
      · refine w_condT A b3018 ?_
        refine w_region (by rfl) (dv1 (l_load ty29 A A A A A) (dv1 (l_move (.v _)) ?_))
        obtain ⟨x3019, h3020, hF⟩ := bindE hF
        refine dv1 (l_index y11.2.toNat sl29 A A (atI_z h3020) (lt_at iC (atI_at h3020))) (dv1 (l_load ty3 A A (map_at (atI_at h3020)) A A) (dv1 (l_bin A A (b_add A)) (dv1 (l_index y11.2.toNat sl29 A A (atI_z h3020) (lt_at iC (atI_at h3020))) (dvS (l_storeR ty3 A (.v _) A (map_at (atI_at h3020)) A (Nat.le_of_ble_eq_true A) A (map_set' iC s3012 y11.2.toNat (IntKind.i64.wrap (x3019 + 1)))) (dvE (q_in ?_))))))
        cases hF
        refine .inl ⟨A, _, A, ?_⟩
        exact (le_of [(0, some 0), (1, some 3)] A .nil (.box A A (.cons (.rf A (by simp)) .nil) (.row A A A (clm k_iC _) .nil)))
      · refine w_condF A b3018 ?_
        refine w_skip (q_in ?_)
        cases hF
        refine .inl ⟨A, _, A, ?_⟩
        exact (le_of [(0, some 0), (1, some 3)] A .nil (.box A A (.s A) (.row A A A (clm k_iC _) .nil)))
    · intro s3012 hs_
      subst hs_
      replace hF := onGo hF
      cases hF
      refine q_in (q_join ?_)
      exact (le_of [(0, some 0), (1, some 1)] A (.s .nil A) (.box A A (.s A) (.row A A A (clm k_iC _) .nil)))
    · intro o_ hs_
      subst hs_
      exact nomatch onOut hF
  replace hF := hG8
  refine w_seq (w_region (by rfl) (dv1 (l_load ty29 A A A A A) (dv1 (l_assign (.rf _ _ _ _)) (dvE (q_seq (w_ret ?_))))))
  cases hF
  refine q_end (.inr A) ?_
  exact ret_ok A (.cons (.tmp (.rf _ _ _ _) (.rf A A (clm k_iC _))) .nil) (by decide) A

def p_kind_Flags (a0 : MOp) : Option Int :=
(((bif decide (a0.K = 3) then
(((bif decide (a0.N = 3) then
some true
else
some (decide (a0.N = 4)))).bind fun (s5 : Bool) =>
(bif s5 then
some (Xt.out 1)
else
some (Xt.go ())))
else
(((bif decide (a0.K = 5) then
some (decide (a0.K = 5))
else
some (decide (a0.K = 7)))).bind fun (s10 : Bool) =>
(bif s10 then
some (Xt.out 1)
else
(((bif decide (a0.K = 9) then
some (decide (a0.K = 9))
else
(bif decide (a0.K = 12) then
some (decide (a0.K = 12))
else
some (decide (a0.K = 17))))).bind fun (s15 : Bool) =>
(bif s15 then
some (Xt.out 8)
else
(bif decide (a0.K = 13) then
some (Xt.out 9)
else
(((bif decide (a0.K = 10) then
some (decide (a0.K = 10))
else
(bif decide (a0.K = 19) then
some (decide (a0.K = 19))
else
some (decide (a0.K = 20))))).bind fun (s22 : Bool) =>
(bif s22 then
some (Xt.out 2)
else
(((bif decide (a0.K = 15) then
some (decide (a0.K = 15))
else
some (decide (a0.K = 21)))).bind fun (s28 : Bool) =>
(bif s28 then
some (Xt.out 3)
else
(((bif decide (a0.K = 11) then
some (decide (a0.K = 11))
else
some (decide (a0.K = 18)))).bind fun (s33 : Bool) =>
(bif s33 then
some (Xt.out 4)
else
(bif decide (a0.K = 16) then
some (Xt.out 5)
else
(bif decide (a0.K = 23) then
some (Xt.out 16)
else
(bif decide (a0.K = 24) then
some (Xt.out 17)
else
(bif decide (a0.K = 25) then
some (Xt.out 32)
else
some (Xt.go ())))))))))))))))))).bind fun s1 => s1.on (fun (s41 : Unit) =>
some 0)
(fun o43 => some o43))

theorem p_kind_Flags_ok {r : Int} : rOk (.v (.int .i64 r)) = true ∧ FrT (.v (.int .i64 r)) := ⟨rfl, (.one (.cl (.v _)))⟩

set_option maxRecDepth 10000 in
set_option maxHeartbeats 4000000 in
theorem p_kind_Flags_ac {a0 : MOp} {r : Int} (hF : p_kind_Flags a0 = some r) : AC Tryd.prog GT 18 [.ag (MOp.ct a0)] (fun c => c = .v (.int .i64 r)) := by
  unfold p_kind_Flags at hF
  refine AC.mk (nt := 42) Tryd.func18 A A A fun w N => ?_
  refine w_seq (w_region (by rfl) (dvN (l_box (.ag _) A A) (dv1 (l_assign (.v _)) (dvE (q_seq ?_)))))
  obtain ⟨s1, hF, hG2⟩ := bindE hF
  refine w_seqE s1 (fun (s41 : Unit) => ⟨[], [], 1⟩) ?_ (fun s41 e42 => ?_)
  · refine w_seq (w_region (by rfl) (dv1 (l_field fd49_0 A) (dv1 (l_load ty3 A A A A A) (dvE (q_seq (w_block (w_seq (w_region (by rfl) ?_))))))))
    refine dv1 (l_bin A A b_eql) (dv1 (l_assign (.v _)) (dvE (q_seq ?_)))
    rcases condE hF with ⟨b3, hF⟩ | ⟨b3, hF⟩
    · refine w_condT A b3 ?_
      obtain ⟨s5, hF, hG6⟩ := bindE hF
      refine w_seqJ ⟨[(14, .v (.bool s5))], [], 1⟩ ?_ ?_
      · refine w_region (by rfl) (dv1 (l_field fd49_4 A) (dv1 (l_load ty2 A A A A A) (dv1 (l_bin A A b_eql) (dv1 (l_move (.v _)) ?_))))
        rcases condE hF with ⟨b7, hF⟩ | ⟨b7, hF⟩
        · refine dv1 (l_gF A A (gt A b7) A) (dv1 (l_gF A A (gt A b7) A) (dv1 (l_gF A A (gt A b7) A) (dv1 (l_pickT (gt A b7) (.v _)) (dvE ?_))))
          cases hF
          refine q_join ?_
          exact (le_of [] A (.s .nil A) .nil)
        · refine dv1 (l_gT A A (gt A b7) fun _ => l_field fd49_4 A) (dv1 (l_gT A A (gt A b7) fun _ => l_load ty2 A A A A A) (dv1 (l_gT A A (gt A b7) fun _ => l_bin A A b_eql) (dv1 (l_pickF (gt A b7) (.v _)) (dvE ?_))))
          cases hF
          refine q_join ?_
          exact (le_of [] A (.s .nil A) .nil)
      replace hF := hG6
      rcases condE hF with ⟨b8, hF⟩ | ⟨b8, hF⟩
      · refine w_condT A b8 ?_
        refine w_seq (w_region (by rfl) (dv1 (l_assign (.v _)) (dvE (q_seq (w_ret (q_reI (q_reS ?_)))))))
        cases hF
        have hF := onOut hG2
        cases hF
        refine q_end (.inr A) ?_
        exact ret_ok A (.cons (.tmp (.v _) (.v _)) .nil) (by decide) A
      · refine w_condF A b8 ?_
        refine w_skip ?_
        cases hF
        refine q_in (qL A ?_)
        exact (le_of [] A .nil .nil)
    · refine w_condF A b3 ?_
      obtain ⟨s10, hF, hG11⟩ := bindE hF
      refine w_seqJ ⟨[(4, .v (.int .i64 a0.K)), (15, .v (.bool s10))], [], 1⟩ ?_ ?_
      · refine w_seq (w_region (by rfl) (dv1 (l_bin A A b_eql) (dv1 (l_assign (.v _)) (dvE (q_seq ?_)))))
        rcases condE hF with ⟨b12, hF⟩ | ⟨b12, hF⟩
        · refine w_condT A b12 ?_
          refine w_skip ?_
          cases hF
          refine q_join ?_
          exact (le_of [] A (.s (.s .nil A) A) .nil)
        · refine w_condF A b12 ?_
          refine w_region (by rfl) (dv1 (l_bin A A b_eql) (dv1 (l_assign (.v _)) (dvE ?_)))
          cases hF
          refine q_join ?_
          exact (le_of [] A (.s (.s .nil A) A) .nil)
      replace hF := hG11
      rcases condE hF with ⟨b13, hF⟩ | ⟨b13, hF⟩
      · refine w_condT A b13 ?_
        refine w_seq (w_region (by rfl) (dv1 (l_assign (.v _)) (dvE (q_seq (w_ret (q_reI (q_reS ?_)))))))
        cases hF
        have hF := onOut hG2
        cases hF
        refine q_end (.inr A) ?_
        exact ret_ok A (.cons (.tmp (.v _) (.v _)) .nil) (by decide) A
      · refine w_condF A b13 ?_
        obtain ⟨s15, hF, hG16⟩ := bindE hF
        refine w_seqJ ⟨[(4, .v (.int .i64 a0.K)), (18, .v (.bool s15))], [], 1⟩ ?_ ?_
        · refine w_seq (w_region (by rfl) (dv1 (l_bin A A b_eql) (dv1 (l_assign (.v _)) (dvE (q_seq ?_)))))
          rcases condE hF with ⟨b17, hF⟩ | ⟨b17, hF⟩
          · refine w_condT A b17 ?_
            refine w_skip ?_
            cases hF
            refine q_join ?_
            exact (le_of [] A (.s (.s .nil A) A) .nil)
          · refine w_condF A b17 ?_
            refine w_seq (w_region (by rfl) (dv1 (l_bin A A b_eql) (dv1 (l_assign (.v _)) (dvE (q_seq ?_)))))
            rcases condE hF with ⟨b18, hF⟩ | ⟨b18, hF⟩
            · refine w_condT A b18 ?_
              refine w_skip ?_
              cases hF
              refine q_join ?_
              exact (le_of [] A (.s (.s .nil A) A) .nil)
            · refine w_condF A b18 ?_
              refine w_region (by rfl) (dv1 (l_bin A A b_eql) (dv1 (l_assign (.v _)) (dvE ?_)))
              cases hF
              refine q_join ?_
              exact (le_of [] A (.s (.s .nil A) A) .nil)
        replace hF := hG16
        rcases condE hF with ⟨b19, hF⟩ | ⟨b19, hF⟩
        · refine w_condT A b19 ?_
          refine w_seq (w_region (by rfl) (dv1 (l_assign (.v _)) (dvE (q_seq (w_ret (q_reI (q_reS ?_)))))))
          cases hF
          have hF := onOut hG2
          cases hF
          refine q_end (.inr A) ?_
          exact ret_ok A (.cons (.tmp (.v _) (.v _)) .nil) (by decide) A
        · refine w_condF A b19 ?_
          refine w_seq (w_region (by rfl) (dv1 (l_bin A A b_eql) (dv1 (l_assign (.v _)) (dvE (q_seq ?_)))))
          rcases condE hF with ⟨b20, hF⟩ | ⟨b20, hF⟩
          · refine w_condT A b20 ?_
            refine w_seq (w_region (by rfl) (dv1 (l_assign (.v _)) (dvE (q_seq (w_ret (q_reI (q_reS ?_)))))))
            cases hF
            have hF := onOut hG2
            cases hF
            refine q_end (.inr A) ?_
            exact ret_ok A (.cons (.tmp (.v _) (.v _)) .nil) (by decide) A
          · refine w_condF A b20 ?_
            obtain ⟨s22, hF, hG23⟩ := bindE hF
            refine w_seqJ ⟨[(4, .v (.int .i64 a0.K)), (24, .v (.bool s22))], [], 1⟩ ?_ ?_
            · refine w_seq (w_region (by rfl) (dv1 (l_bin A A b_eql) (dv1 (l_assign (.v _)) (dvE (q_seq ?_)))))
              rcases condE hF with ⟨b24, hF⟩ | ⟨b24, hF⟩
              · refine w_condT A b24 ?_
                refine w_skip ?_
                cases hF
                refine q_join ?_
                exact (le_of [] A (.s (.s .nil A) A) .nil)
              · refine w_condF A b24 ?_
                refine w_seq (w_region (by rfl) (dv1 (l_bin A A b_eql) (dv1 (l_assign (.v _)) (dvE (q_seq ?_)))))
                rcases condE hF with ⟨b25, hF⟩ | ⟨b25, hF⟩
                · refine w_condT A b25 ?_
                  refine w_skip ?_
                  cases hF
                  refine q_join ?_
                  exact (le_of [] A (.s (.s .nil A) A) .nil)
                · refine w_condF A b25 ?_
                  refine w_region (by rfl) (dv1 (l_bin A A b_eql) (dv1 (l_assign (.v _)) (dvE ?_)))
                  cases hF
                  refine q_join ?_
                  exact (le_of [] A (.s (.s .nil A) A) .nil)
            replace hF := hG23
            rcases condE hF with ⟨b26, hF⟩ | ⟨b26, hF⟩
            · refine w_condT A b26 ?_
              refine w_seq (w_region (by rfl) (dv1 (l_assign (.v _)) (dvE (q_seq (w_ret (q_reI (q_reS ?_)))))))
              cases hF
              have hF := onOut hG2
              cases hF
              refine q_end (.inr A) ?_
              exact ret_ok A (.cons (.tmp (.v _) (.v _)) .nil) (by decide) A
            · refine w_condF A b26 ?_
              obtain ⟨s28, hF, hG29⟩ := bindE hF
              refine w_seqJ ⟨[(4, .v (.int .i64 a0.K)), (28, .v (.bool s28))], [], 1⟩ ?_ ?_
              · refine w_seq (w_region (by rfl) (dv1 (l_bin A A b_eql) (dv1 (l_assign (.v _)) (dvE (q_seq ?_)))))
                rcases condE hF with ⟨b30, hF⟩ | ⟨b30, hF⟩
                · refine w_condT A b30 ?_
                  refine w_skip ?_
                  cases hF
                  refine q_join ?_
                  exact (le_of [] A (.s (.s .nil A) A) .nil)
                · refine w_condF A b30 ?_
                  refine w_region (by rfl) (dv1 (l_bin A A b_eql) (dv1 (l_assign (.v _)) (dvE ?_)))
                  cases hF
                  refine q_join ?_
                  exact (le_of [] A (.s (.s .nil A) A) .nil)
              replace hF := hG29
              rcases condE hF with ⟨b31, hF⟩ | ⟨b31, hF⟩
              · refine w_condT A b31 ?_
                refine w_seq (w_region (by rfl) (dv1 (l_assign (.v _)) (dvE (q_seq (w_ret (q_reI (q_reS ?_)))))))
                cases hF
                have hF := onOut hG2
                cases hF
                refine q_end (.inr A) ?_
                exact ret_ok A (.cons (.tmp (.v _) (.v _)) .nil) (by decide) A
              · refine w_condF A b31 ?_
                obtain ⟨s33, hF, hG34⟩ := bindE hF
                refine w_seqJ ⟨[(4, .v (.int .i64 a0.K)), (31, .v (.bool s33))], [], 1⟩ ?_ ?_
                · refine w_seq (w_region (by rfl) (dv1 (l_bin A A b_eql) (dv1 (l_assign (.v _)) (dvE (q_seq ?_)))))
                  rcases condE hF with ⟨b35, hF⟩ | ⟨b35, hF⟩
                  · refine w_condT A b35 ?_
                    refine w_skip ?_
                    cases hF
                    refine q_join ?_
                    exact (le_of [] A (.s (.s .nil A) A) .nil)
                  · refine w_condF A b35 ?_
                    refine w_region (by rfl) (dv1 (l_bin A A b_eql) (dv1 (l_assign (.v _)) (dvE ?_)))
                    cases hF
                    refine q_join ?_
                    exact (le_of [] A (.s (.s .nil A) A) .nil)
                replace hF := hG34
                rcases condE hF with ⟨b36, hF⟩ | ⟨b36, hF⟩
                · refine w_condT A b36 ?_
                  refine w_seq (w_region (by rfl) (dv1 (l_assign (.v _)) (dvE (q_seq (w_ret (q_reI (q_reS ?_)))))))
                  cases hF
                  have hF := onOut hG2
                  cases hF
                  refine q_end (.inr A) ?_
                  exact ret_ok A (.cons (.tmp (.v _) (.v _)) .nil) (by decide) A
                · refine w_condF A b36 ?_
                  refine w_seq (w_region (by rfl) (dv1 (l_bin A A b_eql) (dv1 (l_assign (.v _)) (dvE (q_seq ?_)))))
                  rcases condE hF with ⟨b37, hF⟩ | ⟨b37, hF⟩
                  · refine w_condT A b37 ?_
                    refine w_seq (w_region (by rfl) (dv1 (l_assign (.v _)) (dvE (q_seq (w_ret (q_reI (q_reS ?_)))))))
                    cases hF
                    have hF := onOut hG2
                    cases hF
                    refine q_end (.inr A) ?_
                    exact ret_ok A (.cons (.tmp (.v _) (.v _)) .nil) (by decide) A
                  · refine w_condF A b37 ?_
                    refine w_seq (w_region (by rfl) (dv1 (l_bin A A b_eql) (dv1 (l_assign (.v _)) (dvE (q_seq ?_)))))
                    rcases condE hF with ⟨b38, hF⟩ | ⟨b38, hF⟩
                    · refine w_condT A b38 ?_
                      refine w_seq (w_region (by rfl) (dv1 (l_assign (.v _)) (dvE (q_seq (w_ret (q_reI (q_reS ?_)))))))
                      cases hF
                      have hF := onOut hG2
                      cases hF
                      refine q_end (.inr A) ?_
                      exact ret_ok A (.cons (.tmp (.v _) (.v _)) .nil) (by decide) A
                    · refine w_condF A b38 ?_
                      refine w_seq (w_region (by rfl) (dv1 (l_bin A A b_eql) (dv1 (l_assign (.v _)) (dvE (q_seq ?_)))))
                      rcases condE hF with ⟨b39, hF⟩ | ⟨b39, hF⟩
                      · refine w_condT A b39 ?_
                        refine w_seq (w_region (by rfl) (dv1 (l_assign (.v _)) (dvE (q_seq (w_ret (q_reI (q_reS ?_)))))))
                        cases hF
                        have hF := onOut hG2
                        cases hF
                        refine q_end (.inr A) ?_
                        exact ret_ok A (.cons (.tmp (.v _) (.v _)) .nil) (by decide) A
                      · refine w_condF A b39 ?_
                        refine w_seq (w_region (by rfl) (dv1 (l_bin A A b_eql) (dv1 (l_assign (.v _)) (dvE (q_seq ?_)))))
                        rcases condE hF with ⟨b40, hF⟩ | ⟨b40, hF⟩
                        · refine w_condT A b40 ?_
                          refine w_seq (w_region (by rfl) (dv1 (l_assign (.v _)) (dvE (q_seq (w_ret (q_reI (q_reS ?_)))))))
                          cases hF
                          have hF := onOut hG2
                          cases hF
                          refine q_end (.inr A) ?_
                          exact ret_ok A (.cons (.tmp (.v _) (.v _)) .nil) (by decide) A
                        · refine w_condF A b40 ?_
                          refine w_skip ?_
                          cases hF
                          refine q_in (qL A ?_)
                          exact (le_of [] A .nil .nil)
  subst e42
  replace hF := onGo hG2
  refine w_seq (w_region (by rfl) (dv1 (l_assign (.v _)) (dvE (q_seq (w_ret ?_)))))
  cases hF
  refine q_end (.inr A) ?_
  exact ret_ok A (.cons (.tmp (.v _) (.v _)) .nil) (by decide) A

def p_clean_idle (a0 : MFun) : Option ((List Int)) :=
((p_uses_Counts a0).bind fun y1 =>
(((loop (fun (s3006 : (List Int) × Int × Nat) =>
(bif decide (s3006.2.2 < a0.Blocks.length) then
((((a0.Blocks[s3006.2.2]?).bind fun x3016 =>
(loop (fun (s6018 : (List Int) × Int × Nat) =>
(bif decide (s6018.2.2 < x3016.Ops.length) then
((x3016.Ops[s6018.2.2]?).bind fun x6024 =>
((((((p_kind_Flags x6024).bind fun y6032 =>
(bif decide (bAnd .i64 y6032 53 = 0) then
((atI y1 s6018.2.1).bind fun x6035 =>
some (decide (x6035 = 0)))
else
some false))).bind fun (s6030 : Bool) =>
(bif s6030 then
(ck ((s6018.1.length + 1) * 8 ≤ 140737488355328)
(some (s6018.1 ++ [s6018.2.1])))
else
some s6018.1))).bind fun (s6027 : (List Int)) =>
some (Xt.go (s6027, IntKind.i64.wrap (s6018.2.1 + 1), (s6018.2.2 + 1)))))
else
some (Xt.out (s6018.1, s6018.2.1)))) Fu (s3006.1, IntKind.i64.wrap (s3006.2.1 + ((x3016.Params.length : Nat) : Int)), 0)))).bind fun (s3014 : (List Int) × Int) =>
some (Xt.go (s3014.1, s3014.2, (s3006.2.2 + 1))))
else
some (Xt.out s3006.1))) Fu ([], 0, 0))).bind fun (s4 : (List Int)) =>
some s4))

theorem p_clean_idle_ok {r : (List Int)} : rOk (.sl 3 1 (r.map iC)) = true ∧ FrT (.sl 3 1 (r.map iC)) := ⟨rfl, (.one (.cl (.sl _ _ (clm k_iC _))))⟩

set_option maxRecDepth 10000 in
set_option maxHeartbeats 4000000 in
theorem p_clean_idle_ac {a0 : MFun} {r : (List Int)} (hF : p_clean_idle a0 = some r) : AC Tryd.prog GT 11 [.ag (MFun.ct a0)] (fun c => c = .sl 3 1 (r.map iC)) := by
  unfold p_clean_idle at hF
  refine AC.mk (nt := 51) Tryd.func11 A A A fun w N => ?_
  refine w_seq (w_region (by rfl) (dvN (l_box (.ag _) A A) (dv1 (l_assign (.v _)) (dvE (q_seq (w_seq (w_region (by rfl) (dv1 (l_assign (.v _)) ?_))))))))
  refine dvE (q_seq (w_seq (w_region (by rfl) (dv1 (l_loadA ty33 A A A A A) ?_))))
  obtain ⟨y1, h2, hF⟩ := bindE hF
  refine dvC (l_call (B := false) (FnI.mk' (by kernel_rfl)) (.cons (.ag _) (.ag (.cons (.v _) (.cons (.ro _) .nil))) .nil) (p_uses_Counts_ac h2) (okF p_uses_Counts_ok)) ?_
  rintro _ rfl
  refine dv1 (l_assign (.rf _ _ _ _)) (dvE (q_seq (w_seq (w_region (by rfl) (dv1 (l_assign (.v _)) (dvE (q_seq ?_)))))))
  obtain ⟨s4, hF, hG5⟩ := bindE hF
  refine w_seqJ ⟨[(3, .rf 0 0 ((s4.map iC).length) 1)], [(0, some ⟨3, 1, s4.map iC⟩)], 1⟩ ?_ ?_
  · refine w_seq (w_region (by rfl) (dv1 (l_field fd33_1 A) (dv1 (l_load ty31 A A A A A) (dv1 (l_lenRo sl31 A A (List.length_map _)) (dv1 (l_move (.v _)) (dvE (q_seq (w_block ?_))))))))
    refine w_loopF hF (fun (s3006 : (List Int) × Int × Nat) => ⟨[(3, .rf 0 0 ((s3006.1.map iC).length) 1), (4, .rf 1 0 ((y1.map iC).length) 1), (5, .v (.int .i64 s3006.2.1)), (13, .ro (.sl 47 8 (a0.Blocks.map MBlk.ct))), (14, .v (.int .i64 ((a0.Blocks.length : Nat) : Int))), (15, .v (.int .i64 ((s3006.2.2 : Nat) : Int)))], [(0, some ⟨3, 1, s3006.1.map iC⟩), (1, some ⟨3, 1, y1.map iC⟩)], 1⟩) (le_of [(0, none), (1, some 256)] A (.cons (.v _) (.nil ⟨by simp, A⟩) (.s (.s (.s (.s (.s .nil A) A) A) A) A)) (.new ⟨by simp, A⟩ (.row A A A (clm k_iC _) .nil))) ?_
    intro s3006 y3007 hF hx3008
    refine w_seq (w_region (by rfl) (dv1 (l_bin A A b_lssN) (dvE (q_seq (w_seq ?_)))))
    rcases condE hF with ⟨b3010, hF⟩ | ⟨b3010, hF⟩
    · refine w_lenS 13 A fun l3011 => ?_
      refine w_condT A b3010 ?_
      refine w_skip (q_seq ?_)
      obtain ⟨s3014, hF, hG3015⟩ := bindE hF
      refine w_seqJ ⟨[(3, .rf 0 0 ((s3014.1.map iC).length) 1), (4, .rf 1 0 ((y1.map iC).length) 1), (5, .v (.int .i64 s3014.2)), (13, .ro (.sl 47 8 (a0.Blocks.map MBlk.ct))), (14, .v (.int .i64 ((a0.Blocks.length : Nat) : Int))), (15, .v (.int .i64 ((s3006.2.2 : Nat) : Int)))], [(0, some ⟨3, 1, s3014.1.map iC⟩), (1, some ⟨3, 1, y1.map iC⟩)], 1⟩ ?_ ?_
      · refine w_block (w_seq (w_region (by rfl) ?_))
        obtain ⟨x3016, h3017, hF⟩ := bindE hF
        refine dv1 (l_indexRo s3006.2.2 sl31 A A A (map_at h3017)) (dv1 (l_loadARo ty47 A A) (dvN (l_alloc zt47) (dvS (l_store ty47 A (.ag _) A A A (Nat.le_of_ble_eq_true A) A) (dvE (q_seq (w_seq (w_region (by rfl) (dv1 (l_move (.v _)) ?_))))))))
        refine dv1 (l_field fd47_0 A) (dv1 (l_load ty29 A A A A A) (dv1 (l_lenRo sl29 A A (List.length_map _)) (dv1 (l_bin A A (b_add A)) (dv1 (l_assign (.v _)) (dvE (q_seq (w_seq (w_region (by rfl) ?_))))))))
        refine dv1 (l_field fd47_1 A) (dv1 (l_load ty43 A A A A A) (dv1 (l_lenRo sl43 A A (List.length_map _)) (dv1 (l_move (.v _)) (dvE (q_seq (w_block (w_loopF hF (fun (s6018 : (List Int) × Int × Nat) => ⟨[(3, .rf 0 0 ((s6018.1.map iC).length) 1), (4, .rf 1 0 ((y1.map iC).length) 1), (5, .v (.int .i64 s6018.2.1)), (13, .ro (.sl 47 8 (a0.Blocks.map MBlk.ct))), (14, .v (.int .i64 ((a0.Blocks.length : Nat) : Int))), (15, .v (.int .i64 ((s3006.2.2 : Nat) : Int))), (25, .ro (.sl 49 8 (x3016.Ops.map MOp.ct))), (26, .v (.int .i64 ((x3016.Ops.length : Nat) : Int))), (27, .v (.int .i64 ((s6018.2.2 : Nat) : Int)))], [(0, some ⟨3, 1, s6018.1.map iC⟩), (1, some ⟨3, 1, y1.map iC⟩)], 1⟩) (le_of [(0, some 0), (1, some 1)] A (.s (.s (.s (.s (.s (.s (.s (.s (.s .nil A) A) A) A) A) A) A) A) A) (.row A A A (clm k_iC _) (.row A A A (clm k_iC _) .nil))) ?_)))))))
        intro s6018 y6019 hF hx6020
        refine w_seq (w_region (by rfl) (dv1 (l_bin A A b_lssN) (dvE (q_seq (w_seq ?_)))))
        rcases condE hF with ⟨b6022, hF⟩ | ⟨b6022, hF⟩
        · refine w_lenS 25 A fun l6023 => ?_
          refine w_condT A b6022 ?_
          refine w_skip (q_seq (w_seq (w_block (w_seq (w_region (by rfl) ?_)))))
          obtain ⟨x6024, h6025, hF⟩ := bindE hF
          refine dv1 (l_indexRo s6018.2.2 sl43 A A A (map_at h6025)) (dv1 (l_loadARo ty49 A A) (dvN (l_alloc zt49) (dvS (l_store ty49 A (.ag _) A A A (Nat.le_of_ble_eq_true A) A) (dvE (q_seq ?_)))))
          obtain ⟨s6027, hF, hG6028⟩ := bindE hF
          refine w_seqJ ⟨[(3, .rf 0 0 ((s6027.map iC).length) 1), (4, .rf 1 0 ((y1.map iC).length) 1), (5, .v (.int .i64 s6018.2.1)), (13, .ro (.sl 47 8 (a0.Blocks.map MBlk.ct))), (14, .v (.int .i64 ((a0.Blocks.length : Nat) : Int))), (15, .v (.int .i64 ((s3006.2.2 : Nat) : Int))), (25, .ro (.sl 49 8 (x3016.Ops.map MOp.ct))), (26, .v (.int .i64 ((x3016.Ops.length : Nat) : Int))), (27, .v (.int .i64 ((s6018.2.2 : Nat) : Int)))], [(0, some ⟨3, 1, s6027.map iC⟩), (1, some ⟨3, 1, y1.map iC⟩)], 1⟩ ?_ ?_
          · obtain ⟨s6030, hF, hG6031⟩ := bindE hF
            refine w_seqJ ⟨[(3, .rf 0 0 ((s6018.1.map iC).length) 1), (4, .rf 1 0 ((y1.map iC).length) 1), (5, .v (.int .i64 s6018.2.1)), (13, .ro (.sl 47 8 (a0.Blocks.map MBlk.ct))), (14, .v (.int .i64 ((a0.Blocks.length : Nat) : Int))), (15, .v (.int .i64 ((s3006.2.2 : Nat) : Int))), (25, .ro (.sl 49 8 (x3016.Ops.map MOp.ct))), (26, .v (.int .i64 ((x3016.Ops.length : Nat) : Int))), (27, .v (.int .i64 ((s6018.2.2 : Nat) : Int))), (41, .v (.bool s6030))], [(0, some ⟨3, 1, s6018.1.map iC⟩), (1, some ⟨3, 1, y1.map iC⟩)], 1⟩ ?_ ?_
            · refine w_region (by rfl) (dv1 (l_loadA ty49 A A A A A) ?_)
              obtain ⟨y6032, h6033, hF⟩ := bindE hF
              refine dvC (l_call (B := false) (FnI.mk' (by kernel_rfl)) (.cons (.ag _) (.ag (.cons (.v _) (.cons (.v _) (.cons (.v _) (.cons (.v _) (.cons (.v _) (.cons (.v _) (.cons (.ro _) (.cons (.v _) .nil))))))))) .nil) (p_kind_Flags_ac h6033) (okF p_kind_Flags_ok)) ?_
              rintro _ rfl
              refine dv1 (l_bin A A (b_and A)) (dv1 (l_bin A A b_eql) (dv1 (l_move (.v _)) ?_))
              rcases condE hF with ⟨b6034, hF⟩ | ⟨b6034, hF⟩
              · refine dv1 (l_gT A A (gt A b6034) fun _ => l_move (.rf _ _ _ _)) (dv1 (l_gT A A (gt A b6034) fun _ => l_move (.v _)) ?_)
                obtain ⟨x6035, h6036, hF⟩ := bindE hF
                refine dv1 (l_gT A A (gt A b6034) fun _ => l_index s6018.2.1.toNat sl29 A A (atI_z h6036) (lt_at iC (atI_at h6036))) (dv1 (l_gT A A (gt A b6034) fun _ => l_load ty3 A A (map_at (atI_at h6036)) A A) (dv1 (l_gT A A (gt A b6034) fun _ => l_bin A A b_eql) (dv1 (l_pickT (gt A b6034) (.v _)) (dvE ?_))))
                cases hF
                refine q_join ?_
                exact (le_of [(0, some 0), (1, some 1)] A (.s (.s (.s (.s (.s (.s (.s (.s (.s (.s .nil A) A) A) A) A) A) A) A) A) A) (.row A A A (clm k_iC _) (.row A A A (clm k_iC _) .nil)))
              · refine dv1 (l_gF A A (gt A b6034) A) (dv1 (l_gF A A (gt A b6034) A) (dv1 (l_gF A A (gt A b6034) A) (dv1 (l_gF A A (gt A b6034) A) (dv1 (l_gF A A (gt A b6034) A) (dv1 (l_pickF (gt A b6034) (.v _)) (dvE ?_))))))
                cases hF
                refine q_join ?_
                exact (le_of [(0, some 0), (1, some 1)] A (.s (.s (.s (.s (.s (.s (.s (.s (.s (.s .nil A) A) A) A) A) A) A) A) A) A) (.row A A A (clm k_iC _) (.row A A A (clm k_iC _) .nil)))
            replace hF := hG6031
            rcases condE hF with ⟨b6037, hF⟩ | ⟨b6037, hF⟩
            · refine w_condT A b6037 ?_
              refine w_region (by rfl) (dv1 (l_move (.rf _ _ _ _)) (dv1 (l_move (.v _)) (dvN (l_bs1 sl29 zt3 A (.v _) A A A (by decide) (by decide)) ?_)))
              obtain ⟨c6038, hF⟩ := ckE hF
              refine dvN3 (l_app1R el29 A A A A A A (by decide) (map_snoc iC _ s6018.2.1) (List.length_map _) (by simpa using c6038) (by decide)) ?_
              refine dv1 (l_assign (.rf _ _ _ _)) (dvE ?_)
              cases hF
              refine q_join ?_
              exact (le_of [(0, some 256), (1, some 1)] A (.cons (.rf _ _ _ _) (.rf A (by simp)) (.s (.s (.s (.s (.s (.s (.s (.s .nil A) A) A) A) A) A) A) A)) (.row A A A (clm k_iC _) (.row A A A (clm k_iC _) .nil)))
            · refine w_condF A b6037 ?_
              refine w_skip ?_
              cases hF
              refine q_join ?_
              exact (le_of [(0, some 0), (1, some 1)] A (.s (.s (.s (.s (.s (.s (.s (.s (.s .nil A) A) A) A) A) A) A) A) A) (.row A A A (clm k_iC _) (.row A A A (clm k_iC _) .nil)))
          replace hF := hG6028
          refine w_region (by rfl) (dv1 (l_move (.v _)) (dv1 (l_bin A A (b_add A)) (dv1 (l_assign (.v _)) (dvE (q_in (q_seq (w_region (by rfl) (dv1 (l_bin A A (b_incN (of_decide_eq_true b6022) l6023)) ?_))))))))
          refine dv1 (l_move (.v _)) (dvE ?_)
          cases hF
          refine qL A ?_
          exact (le_of [(0, some 0), (1, some 1)] A (.s (.s (.s (.s (.s (.s (.s (.s (.s .nil A) A) A) A) A) A) A) A) A) (.row A A A (clm k_iC _) (.row A A A (clm k_iC _) .nil)))
        · refine w_condF A b6022 ?_
          refine w_exit ?_
          cases hF
          cases hx6020 _ rfl
          refine q_exS (q_exS (q_here (q_in (q_join ?_))))
          exact (le_of [(0, some 0), (1, some 1)] A (.s (.s (.s (.s (.s (.s .nil A) A) A) A) A) A) (.row A A A (clm k_iC _) (.row A A A (clm k_iC _) .nil)))
      replace hF := hG3015
      refine w_region (by rfl) (dv1 (l_bin A A (b_incN (of_decide_eq_true b3010) l3011)) (dv1 (l_move (.v _)) (dvE ?_)))
      cases hF
      refine qL A ?_
      exact (le_of [(0, some 0), (1, some 1)] A (.s (.s (.s (.s (.s (.s .nil A) A) A) A) A) A) (.row A A A (clm k_iC _) (.row A A A (clm k_iC _) .nil)))
    · refine w_condF A b3010 ?_
      refine w_exit ?_
      cases hF
      cases hx3008 _ rfl
      refine q_exS (q_exS (q_here (q_join ?_)))
      exact (le_of [(0, some 0)] A (.s .nil A) (.row A A A (clm k_iC _) .nil))
  replace hF := hG5
  refine w_seq (w_region (by rfl) (dv1 (l_move (.rf _ _ _ _)) (dv1 (l_assign (.rf _ _ _ _)) (dvE (q_seq (w_ret ?_))))))
  cases hF
  refine q_end (.inr A) ?_
  exact ret_ok A (.cons (.tmp (.rf _ _ _ _) (.rf A A (clm k_iC _))) .nil) (by decide) A

def p_clean_Idle (a0 : MFun) : Option ((List Int)) :=
((p_clean_idle a0).bind fun y1 =>
some y1)

theorem p_clean_Idle_ok {r : (List Int)} : rOk (.sl 3 1 (r.map iC)) = true ∧ FrT (.sl 3 1 (r.map iC)) := ⟨rfl, (.one (.cl (.sl _ _ (clm k_iC _))))⟩

set_option maxRecDepth 10000 in
set_option maxHeartbeats 4000000 in
theorem p_clean_Idle_ac {a0 : MFun} {r : (List Int)} (hF : p_clean_Idle a0 = some r) : AC Tryd.prog GT 5 [.ag (MFun.ct a0)] (fun c => c = .sl 3 1 (r.map iC)) := by
  unfold p_clean_Idle at hF
  refine AC.mk (nt := 5) Tryd.func5 A A A fun w N => ?_
  refine w_seq (w_region (by rfl) (dvN (l_box (.ag _) A A) (dv1 (l_assign (.v _)) (dvE (q_seq (w_seq (w_region (by rfl) (dv1 (l_loadA ty33 A A A A A) ?_))))))))
  obtain ⟨y1, h2, hF⟩ := bindE hF
  refine dvC (l_call (B := false) (FnI.mk' (by kernel_rfl)) (.cons (.ag _) (.ag (.cons (.v _) (.cons (.ro _) .nil))) .nil) (p_clean_idle_ac h2) (okF p_clean_idle_ok)) ?_
  rintro _ rfl
  refine dv1 (l_assign (.rf _ _ _ _)) (dvE (q_seq (w_ret ?_)))
  cases hF
  refine q_end (.inr A) ?_
  exact ret_ok A (.cons (.tmp (.rf _ _ _ _) (.rf A A (clm k_iC _))) .nil) (by decide) A

def p_code_ownEnd (a0 : MEnd) : Option MEnd :=
(((((bif decide (a0.K = 1) then
some true
else
(bif decide (a0.K = 2) then
some true
else
some (decide (a0.K = 3))))).bind fun (s5 : Bool) =>
(bif s5 then
some a0.A
else
some 0))).bind fun (s2 : Int) =>
(((((bif decide (a0.K = 0) then
some true
else
some (decide (a0.K = 1)))).bind fun (s15 : Bool) =>
(bif s15 then
((p_slices_Clone_int_int a0.L).bind fun y19 =>
some (a0.To, y19))
else
some (0, [])))).bind fun (s12 : Int × (List Int)) =>
(((bif decide (a0.K = 1) then
((p_slices_Clone_int_int a0.M).bind fun y26 =>
some (a0.Else, y26))
else
some (0, []))).bind fun (s23 : Int × (List Int)) =>
some (⟨a0.K, s2, s12.1, s23.1, s12.2, s23.2⟩ : MEnd))))

theorem p_code_ownEnd_ok {r : MEnd} : rOk (.ag (MEnd.ct r)) = true ∧ FrT (.ag (MEnd.ct r)) := ⟨rfl, (.one (.ag (k_MEndct _)))⟩

set_option maxRecDepth 10000 in
set_option maxHeartbeats 4000000 in
theorem p_code_ownEnd_ac {a0 : MEnd} {r : MEnd} (hF : p_code_ownEnd a0 = some r) : AC Tryd.prog GT 72 [.ag (MEnd.ct a0)] (fun c => c = .ag (MEnd.ct r)) := by
  unfold p_code_ownEnd at hF
  refine AC.mk (nt := 49) Tryd.func72 A A A fun w N => ?_
  refine w_seq (w_region (by rfl) (dvN (l_box (.ag _) A A) (dvN (l_alloc zt45) (dvE (q_seq (w_seq (w_region (by rfl) (dv1 (l_field fd45_0 A) ?_))))))))
  refine dv1 (l_load ty3 A A A A A) (dv1 (l_build st45 zt45 (.cons (.v _) .nil) A A) (dvN (l_alloc zt45) (dvS (l_store ty45 A (.ag _) A A A (Nat.le_of_ble_eq_true A) A) (dvE (q_seq ?_)))))
  obtain ⟨s2, hF, hG3⟩ := bindE hF
  refine w_seqJ ⟨[(1, .ad 0 6 0 0), (2, .ad 1 6 0 0), (3, .ad 2 6 0 0)], [(0, some ⟨45, 6, [[.v (.int .i64 a0.K), .v (.int .i64 a0.A), .v (.int .i64 a0.To), .v (.int .i64 a0.Else), .ro (.sl 3 1 (a0.L.map iC)), .ro (.sl 3 1 (a0.M.map iC))]]⟩), (1, some ⟨45, 6, [[.v (.int .i64 0), .v (.int .i64 0), .v (.int .i64 0), .v (.int .i64 0), .v (.slice none 0 0), .v (.slice none 0 0)]]⟩), (2, some ⟨45, 6, [[.v (.int .i64 a0.K), .v (.int .i64 s2), .v (.int .i64 0), .v (.int .i64 0), .v (.slice none 0 0), .v (.slice none 0 0)]]⟩)], 1⟩ ?_ ?_
  · obtain ⟨s5, hF, hG6⟩ := bindE hF
    refine w_seqJ ⟨[(1, .ad 0 6 0 0), (2, .ad 1 6 0 0), (3, .ad 2 6 0 0), (19, .v (.bool s5))], [(0, some ⟨45, 6, [[.v (.int .i64 a0.K), .v (.int .i64 a0.A), .v (.int .i64 a0.To), .v (.int .i64 a0.Else), .ro (.sl 3 1 (a0.L.map iC)), .ro (.sl 3 1 (a0.M.map iC))]]⟩), (1, some ⟨45, 6, [[.v (.int .i64 0), .v (.int .i64 0), .v (.int .i64 0), .v (.int .i64 0), .v (.slice none 0 0), .v (.slice none 0 0)]]⟩), (2, some ⟨45, 6, [[.v (.int .i64 a0.K), .v (.int .i64 0), .v (.int .i64 0), .v (.int .i64 0), .v (.slice none 0 0), .v (.slice none 0 0)]]⟩)], 1⟩ ?_ ?_
    · refine w_region (by rfl) (dv1 (l_field fd45_0 A) (dv1 (l_load ty3 A A A A A) (dv1 (l_bin A A b_eql) (dv1 (l_move (.v _)) ?_))))
      rcases condE hF with ⟨b7, hF⟩ | ⟨b7, hF⟩
      · refine dv1 (l_gF A A (gt A b7) A) (dv1 (l_gF A A (gt A b7) A) (dv1 (l_gF A A (gt A b7) A) (dv1 (l_pickT (gt A b7) (.v _)) (dv1 (l_move (.v _)) (dv1 (l_gF A A A A) (dv1 (l_gF A A A A) (dv1 (l_gF A A A A) (dv1 (l_pickT A (.v _)) ?_))))))))
        refine dvE ?_
        cases hF
        refine q_join ?_
        exact (le_of [(0, some 0), (1, some 64), (2, some 320)] A (.s (.s (.s (.s .nil A) A) A) A) (.box A A (.s A) (.box A A (.s A) (.box A A (.s A) .nil))))
      · refine dv1 (l_gT A A (gt A b7) fun _ => l_field fd45_0 A) (dv1 (l_gT A A (gt A b7) fun _ => l_load ty3 A A A A A) (dv1 (l_gT A A (gt A b7) fun _ => l_bin A A b_eql) (dv1 (l_pickF (gt A b7) (.v _)) (dv1 (l_move (.v _)) ?_))))
        rcases condE hF with ⟨b8, hF⟩ | ⟨b8, hF⟩
        · refine dv1 (l_gF A A (gt A b8) A) (dv1 (l_gF A A (gt A b8) A) (dv1 (l_gF A A (gt A b8) A) (dv1 (l_pickT (gt A b8) (.v _)) (dvE ?_))))
          cases hF
          refine q_join ?_
          exact (le_of [(0, some 0), (1, some 64), (2, some 320)] A (.s (.s (.s (.s .nil A) A) A) A) (.box A A (.s A) (.box A A (.s A) (.box A A (.s A) .nil))))
        · refine dv1 (l_gT A A (gt A b8) fun _ => l_field fd45_0 A) (dv1 (l_gT A A (gt A b8) fun _ => l_load ty3 A A A A A) (dv1 (l_gT A A (gt A b8) fun _ => l_bin A A b_eql) (dv1 (l_pickF (gt A b8) (.v _)) (dvE ?_))))
          cases hF
          refine q_join ?_
          exact (le_of [(0, some 0), (1, some 64), (2, some 320)] A (.s (.s (.s (.s .nil A) A) A) A) (.box A A (.s A) (.box A A (.s A) (.box A A (.s A) .nil))))
    replace hF := hG6
    rcases condE hF with ⟨b9, hF⟩ | ⟨b9, hF⟩
    · refine w_condT A b9 ?_
      refine w_region (by rfl) (dv1 (l_field fd45_1 A) (dv1 (l_load ty3 A A A A A) (dv1 (l_field fd45_1 A) (dvS (l_store ty3 A (.v _) A A A (Nat.le_of_ble_eq_true A) A) (dvE ?_)))))
      cases hF
      refine q_join ?_
      exact (le_of [(0, some 0), (1, some 1), (2, some 2)] A (.s (.s (.s .nil A) A) A) (.box A A (.s A) (.box A A (.s A) (.box A A (.s A) .nil))))
    · refine w_condF A b9 ?_
      refine w_skip ?_
      cases hF
      refine q_join ?_
      exact (le_of [(0, some 0), (1, some 1), (2, some 2)] A (.s (.s (.s .nil A) A) A) (.box A A (.s A) (.box A A (.s A) (.box A A (.s A) .nil))))
  replace hF := hG3
  obtain ⟨s12, hF, hG13⟩ := bindE hF
  refine w_seqJ ⟨[(1, .ad 0 6 0 0), (2, .ad 1 6 0 0), (3, .ad 2 6 0 0)], [(0, some ⟨45, 6, [[.v (.int .i64 a0.K), .v (.int .i64 a0.A), .v (.int .i64 a0.To), .v (.int .i64 a0.Else), .ro (.sl 3 1 (a0.L.map iC)), .ro (.sl 3 1 (a0.M.map iC))]]⟩), (1, some ⟨45, 6, [[.v (.int .i64 0), .v (.int .i64 0), .v (.int .i64 0), .v (.int .i64 0), .v (.slice none 0 0), .v (.slice none 0 0)]]⟩), (2, some ⟨45, 6, [[.v (.int .i64 a0.K), .v (.int .i64 s2), .v (.int .i64 s12.1), .v (.int .i64 0), .rf 3 0 ((s12.2.map iC).length) 1, .v (.slice none 0 0)]]⟩), (3, some ⟨3, 1, s12.2.map iC⟩)], 1⟩ ?_ ?_
  · obtain ⟨s15, hF, hG16⟩ := bindE hF
    refine w_seqJ ⟨[(1, .ad 0 6 0 0), (2, .ad 1 6 0 0), (3, .ad 2 6 0 0), (30, .v (.bool s15))], [(0, some ⟨45, 6, [[.v (.int .i64 a0.K), .v (.int .i64 a0.A), .v (.int .i64 a0.To), .v (.int .i64 a0.Else), .ro (.sl 3 1 (a0.L.map iC)), .ro (.sl 3 1 (a0.M.map iC))]]⟩), (1, some ⟨45, 6, [[.v (.int .i64 0), .v (.int .i64 0), .v (.int .i64 0), .v (.int .i64 0), .v (.slice none 0 0), .v (.slice none 0 0)]]⟩), (2, some ⟨45, 6, [[.v (.int .i64 a0.K), .v (.int .i64 s2), .v (.int .i64 0), .v (.int .i64 0), .v (.slice none 0 0), .v (.slice none 0 0)]]⟩)], 1⟩ ?_ ?_
    · refine w_region (by rfl) (dv1 (l_field fd45_0 A) (dv1 (l_load ty3 A A A A A) (dv1 (l_bin A A b_eql) (dv1 (l_move (.v _)) ?_))))
      rcases condE hF with ⟨b17, hF⟩ | ⟨b17, hF⟩
      · refine dv1 (l_gF A A (gt A b17) A) (dv1 (l_gF A A (gt A b17) A) (dv1 (l_gF A A (gt A b17) A) (dv1 (l_pickT (gt A b17) (.v _)) (dvE ?_))))
        cases hF
        refine q_join ?_
        exact (le_of [(0, some 0), (1, some 1), (2, some 2)] A (.s (.s (.s (.s .nil A) A) A) A) (.box A A (.s A) (.box A A (.s A) (.box A A (.s A) .nil))))
      · refine dv1 (l_gT A A (gt A b17) fun _ => l_field fd45_0 A) (dv1 (l_gT A A (gt A b17) fun _ => l_load ty3 A A A A A) (dv1 (l_gT A A (gt A b17) fun _ => l_bin A A b_eql) (dv1 (l_pickF (gt A b17) (.v _)) (dvE ?_))))
        cases hF
        refine q_join ?_
        exact (le_of [(0, some 0), (1, some 1), (2, some 2)] A (.s (.s (.s (.s .nil A) A) A) A) (.box A A (.s A) (.box A A (.s A) (.box A A (.s A) .nil))))
    replace hF := hG16
    rcases condE hF with ⟨b18, hF⟩ | ⟨b18, hF⟩
    · refine w_condT A b18 ?_
      refine w_draw [[], [0], [], [2], [2, 3], [0, 1], [0, 1, 2, 3, 4, 5], [0, 1, 2, 3, 4, 5, 6], [0, 1, 2, 3, 4, 5, 6, 7]] [0, 1, 2, 3, 5, 4, 6, 7, 8] (by kernel_rfl) (by rfl) ⟨by decide, by rfl⟩ (by rfl) ?_
      refine de1 A (l_field fd45_2 A) A (de1 A (l_load ty3 A A A A A) A (de1 A (l_field fd45_4 A) A (de1 A (l_load ty29 A A A A A) A (de1 A (l_field fd45_2 A) A ?_))))
      obtain ⟨y19, h20, hF⟩ := bindE hF
      refine deC1 A (l_call (B := false) (FnI.mk' (by kernel_rfl)) (.cons (.ro _) (.one (.ro _)) .nil) (p_slices_Clone_int_int_ac h20) (okF p_slices_Clone_int_int_ok)) A ?_
      refine deS A (l_store ty3 A (.v _) A A A (Nat.le_of_ble_eq_true A) A) A (de1 A (l_field fd45_4 A) A (deS A (l_store ty29 A (.rf _ _ _ _) A A A (Nat.le_of_ble_eq_true A) A) A (ddE ?_)))
      cases hF
      refine q_join ?_
      exact (le_of [(0, some 0), (1, some 1), (2, some 2), (3, some 384)] A (.s (.s (.s .nil A) A) A) (.box A A (.s A) (.box A A (.s A) (.box A A (.s A) (.row A A A (clm k_iC _) .nil)))))
    · refine w_condF A b18 ?_
      refine w_skip ?_
      cases hF
      refine q_join ?_
      exact (le_of [(0, some 0), (1, some 1), (2, some 2), (3, none)] A (.s (.s (.s .nil A) A) A) (.box A A (.s A) (.box A A (.s A) (.box A A (.cons (.v A) (.cons (.v A) (.cons (.v A) (.cons (.v A) (.cons (.nil ⟨by simp, A⟩) (.cons (.v A) .nil)))))) (.new ⟨by simp, A⟩ .nil)))))
  replace hF := hG13
  obtain ⟨s23, hF, hG24⟩ := bindE hF
  refine w_seqJ ⟨[(2, .ad 0 6 0 0), (3, .ad 1 6 0 0)], [(0, some ⟨45, 6, [[.v (.int .i64 0), .v (.int .i64 0), .v (.int .i64 0), .v (.int .i64 0), .v (.slice none 0 0), .v (.slice none 0 0)]]⟩), (1, some ⟨45, 6, [[.v (.int .i64 a0.K), .v (.int .i64 s2), .v (.int .i64 s12.1), .v (.int .i64 s23.1), .rf 2 0 ((s12.2.map iC).length) 1, .rf 3 0 ((s23.2.map iC).length) 1]]⟩), (2, some ⟨3, 1, s12.2.map iC⟩), (3, some ⟨3, 1, s23.2.map iC⟩)], 1⟩ ?_ ?_
  · refine w_seq (w_region (by rfl) (dv1 (l_field fd45_0 A) (dv1 (l_load ty3 A A A A A) (dv1 (l_bin A A b_eql) (dvE (q_seq ?_))))))
    rcases condE hF with ⟨b25, hF⟩ | ⟨b25, hF⟩
    · refine w_condT A b25 ?_
      refine w_draw [[], [0], [], [2], [2, 3], [0, 1], [0, 1, 2, 3, 4, 5], [0, 1, 2, 3, 4, 5, 6], [0, 1, 2, 3, 4, 5, 6, 7]] [0, 1, 2, 3, 5, 4, 6, 7, 8] (by kernel_rfl) (by rfl) ⟨by decide, by rfl⟩ (by rfl) ?_
      refine de1 A (l_field fd45_3 A) A (de1 A (l_load ty3 A A A A A) A (de1 A (l_field fd45_5 A) A (de1 A (l_load ty29 A A A A A) A (de1 A (l_field fd45_3 A) A ?_))))
      obtain ⟨y26, h27, hF⟩ := bindE hF
      refine deC1 A (l_call (B := false) (FnI.mk' (by kernel_rfl)) (.cons (.ro _) (.one (.ro _)) .nil) (p_slices_Clone_int_int_ac h27) (okF p_slices_Clone_int_int_ok)) A ?_
      refine deS A (l_store ty3 A (.v _) A A A (Nat.le_of_ble_eq_true A) A) A (de1 A (l_field fd45_5 A) A (deS A (l_store ty29 A (.rf _ _ _ _) A A A (Nat.le_of_ble_eq_true A) A) A (ddE ?_)))
      cases hF
      refine q_join ?_
      exact (le_of [(0, some 1), (1, some 2), (2, some 3), (3, some 576)] A (.s (.s .nil A) A) (.box A A (.s A) (.box A A (.s A) (.row A A A (clm k_iC _) (.row A A A (clm k_iC _) .nil)))))
    · refine w_condF A b25 ?_
      refine w_skip ?_
      cases hF
      refine q_join ?_
      exact (le_of [(0, some 1), (1, some 2), (2, some 3), (3, none)] A (.s (.s .nil A) A) (.box A A (.s A) (.box A A (.cons (.v A) (.cons (.v A) (.cons (.v A) (.cons (.v A) (.cons (.rf A A) (.cons (.nil ⟨by simp, A⟩) .nil)))))) (.row A A A (clm k_iC _) (.new ⟨by simp, A⟩ .nil)))))
  replace hF := hG24
  refine w_seq (w_region (by rfl) (dv1 (l_loadA ty45 A A A A A) (dvS (l_store ty45 A (.ag _) A A A (Nat.le_of_ble_eq_true A) A) (dvE (q_seq (w_ret ?_))))))
  cases hF
  refine q_end (.inr A) ?_
  exact ret_ok A (.cons (.cellA ty45 A A A (.cons (.of (.v _)) (.cons (.of (.v _)) (.cons (.of (.v _)) (.cons (.of (.v _)) (.cons (.of (.rf A A (clm k_iC _))) (.cons (.of (.rf A A (clm k_iC _))) .nil))))))) .nil) (by decide) A

def p_kind_Plain (a0 : MOp) : Option MOp :=
((p_kind_plain a0).bind fun y1 =>
some y1)

theorem p_kind_Plain_ok {r : MOp} : rOk (.ag (MOp.ct r)) = true ∧ FrT (.ag (MOp.ct r)) := ⟨rfl, (.one (.ag (k_MOpct _)))⟩

set_option maxRecDepth 10000 in
set_option maxHeartbeats 4000000 in
theorem p_kind_Plain_ac {a0 : MOp} {r : MOp} (hF : p_kind_Plain a0 = some r) : AC Tryd.prog GT 73 [.ag (MOp.ct a0)] (fun c => c = .ag (MOp.ct r)) := by
  unfold p_kind_Plain at hF
  refine AC.mk (nt := 5) Tryd.func73 A A A fun w N => ?_
  refine w_seq (w_region (by rfl) (dvN (l_box (.ag _) A A) (dvN (l_alloc zt49) (dvE (q_seq (w_seq (w_region (by rfl) (dv1 (l_loadA ty49 A A A A A) ?_))))))))
  obtain ⟨y1, h2, hF⟩ := bindE hF
  refine dvC (l_call (B := false) (FnI.mk' (by kernel_rfl)) (.cons (.ag _) (.ag (.cons (.v _) (.cons (.v _) (.cons (.v _) (.cons (.v _) (.cons (.v _) (.cons (.v _) (.cons (.ro _) (.cons (.v _) .nil))))))))) .nil) (p_kind_plain_ac h2) (okF p_kind_plain_ok)) ?_
  rintro _ rfl
  refine dvS (l_store ty49 A (.ag _) A A A (Nat.le_of_ble_eq_true A) A) (dvE (q_seq (w_ret ?_)))
  cases hF
  refine q_end (.inr A) ?_
  exact ret_ok A (.cons (.cellA ty49 A A A (.cons (.of (.v _)) (.cons (.of (.v _)) (.cons (.of (.v _)) (.cons (.of (.v _)) (.cons (.of (.v _)) (.cons (.of (.v _)) (.cons (.of (.rf A A (clm k_iC _))) (.cons (.of (.v _)) .nil))))))))) .nil) (by decide) A

def p_code_own (a0 : Option MPrg) : Option ((Option MPrg)) :=
(optC a0
(some none)
(fun p1 =>
(((loop (fun (s3005 : (List MSig) × Nat) =>
(bif decide (s3005.2 < p1.Sigs.length) then
((p1.Sigs[s3005.2]?).bind fun x3011 =>
((p_slices_Clone_int_int x3011.Params).bind fun y3013 =>
(ck ((s3005.1.length + 1) * 32 ≤ 140737488355328)
(some (Xt.go ((s3005.1 ++ [(⟨y3013, x3011.Ret⟩ : MSig)]), (s3005.2 + 1)))))))
else
some (Xt.out s3005.1))) Fu ([], 0))).bind fun (s3 : (List MSig)) =>
(((loop (fun (s6019 : (List MCls) × Nat) =>
(bif decide (s6019.2 < p1.Classes.length) then
((p1.Classes[s6019.2]?).bind fun x6025 =>
((p_slices_Clone_int_int x6025.Fields).bind fun y6027 =>
((p_slices_Clone_int_int x6025.Methods).bind fun y6029 =>
(ck ((s6019.1.length + 1) * 48 ≤ 140737488355328)
(some (Xt.go ((s6019.1 ++ [(⟨y6027, y6029⟩ : MCls)]), (s6019.2 + 1))))))))
else
some (Xt.out s6019.1))) Fu ([], 0))).bind fun (s3017 : (List MCls)) =>
(((loop (fun (s9035 : (List MFun) × Nat) =>
(bif decide (s9035.2 < p1.Funcs.length) then
((((p1.Funcs[s9035.2]?).bind fun x9044 =>
(((loop (fun (s12049 : (List MBlk) × Nat) =>
(bif decide (s12049.2 < x9044.Blocks.length) then
((((x9044.Blocks[s12049.2]?).bind fun x12058 =>
((p_slices_Clone_int_int x12058.Params).bind fun y12060 =>
((p_code_ownEnd x12058.End).bind fun y12062 =>
(((loop (fun (s15067 : (List MOp) × Nat) =>
(bif decide (s15067.2 < x12058.Ops.length) then
((x12058.Ops[s15067.2]?).bind fun x15073 =>
((p_kind_Plain x15073).bind fun y15075 =>
(ck ((s15067.1.length + 1) * 88 ≤ 140737488355328)
(some (Xt.go ((s15067.1 ++ [y15075]), (s15067.2 + 1)))))))
else
some (Xt.out s15067.1))) Fu ([], 0))).bind fun (s12065 : (List MOp)) =>
(ck ((s12049.1.length + 1) * 128 ≤ 140737488355328)
(some (s12049.1 ++ [(⟨y12060, s12065, y12062⟩ : MBlk)])))))))).bind fun (s12056 : (List MBlk)) =>
some (Xt.go (s12056, (s12049.2 + 1))))
else
some (Xt.out s12049.1))) Fu ([], 0))).bind fun (s9047 : (List MBlk)) =>
(ck ((s9035.1.length + 1) * 32 ≤ 140737488355328)
(some (s9035.1 ++ [(⟨x9044.Ret, s9047⟩ : MFun)])))))).bind fun (s9042 : (List MFun)) =>
some (Xt.go (s9042, (s9035.2 + 1))))
else
some (Xt.out s9035.1))) Fu ([], 0))).bind fun (s6033 : (List MFun)) =>
some (some (⟨s3, s3017, s6033⟩ : MPrg)))))))

theorem p_code_own_ok {r : (Option MPrg)} : rOk (opC 26 3 MPrg.ct r) = true ∧ FrT (opC 26 3 MPrg.ct r) := opok k_MPrgct r

set_option maxRecDepth 10000 in
set_option maxHeartbeats 4000000 in
theorem p_code_own_ac {a0 : Option MPrg} {r : (Option MPrg)} (hF : p_code_own a0 = some r) : AC Tryd.prog GT 64 [ptC MPrg.ct a0] (fun c => c = opC 26 3 MPrg.ct r) := by
  unfold p_code_own at hF
  refine AC.mk (nt := 131) Tryd.func64 A A A fun w N => ?_
  rcases a0 with _ | p1
  · replace hF := optN hF
    refine w_seq (w_region (by rfl) (dv1 (l_assign (.v _)) (dvE (q_seq (w_seq (w_seq (w_region (by rfl) (dv1 (l_move (.v _)) ?_))))))))
    refine dv1 (l_ptrNil (by kernel_rfl) A) (dvE (q_seq (w_true A (w_seq (w_region (by rfl) (dv1 (l_assign (.v _)) (dvE (q_seq ?_))))))))
    refine w_ret (q_reS ?_)
    cases hF
    refine q_end (.inr A) ?_
    exact ret_ok A (.cons (.tmp (.v _) (.v _)) .nil) (by decide) A
  · replace hF := optS hF
    refine w_seq (w_region (by rfl) (dv1 (l_assign (.v _)) (dvE (q_seq (w_seq (w_seq (w_region (by rfl) (dv1 (l_move (.ro _)) ?_))))))))
    refine dv1 (l_ptrRo (by kernel_rfl) A) (dvE (q_seq (w_false A (w_skip (q_seq (w_seq (w_region (by rfl) (dv1 (l_build st26 zt26 .nil A A) ?_))))))))
    refine dvN (l_box (.ag _) A A) (dv1 (l_assign (.ad _ _ _ _)) (dvE (q_seq ?_)))
    obtain ⟨s3, hF, hG4⟩ := bindE hF
    refine w_seqJ ⟨[(0, .ro (.rp (MPrg.ct p1) 0)), (3, .ad 0 3 0 0)], [(0, some ⟨26, 3, [[.rf 1 0 ((s3.map MSig.ct).length) 2, .v (.slice none 0 0), .v (.slice none 0 0)]]⟩), (1, some ⟨40, 2, s3.map MSig.ct⟩)], 1⟩ ?_ ?_
    · refine w_seq (w_region (by rfl) (dv1 (l_move (.ro _)) (dv1 (l_nilRo A) (dv1 (l_fieldRo fd26_0 A) (dv1 (l_loadRo ty22 A A) (dv1 (l_lenRo sl22 A A (List.length_map _)) (dv1 (l_move (.v _)) (dvE ?_))))))))
      refine q_seq (w_block (w_loopF hF (fun (s3005 : (List MSig) × Nat) => ⟨[(0, .ro (.rp (MPrg.ct p1) 0)), (3, .ad 0 3 0 0), (23, .ro (.sl 40 2 (p1.Sigs.map MSig.ct))), (24, .v (.int .i64 ((p1.Sigs.length : Nat) : Int))), (25, .v (.int .i64 ((s3005.2 : Nat) : Int)))], [(0, some ⟨26, 3, [[.rf 1 0 ((s3005.1.map MSig.ct).length) 2, .v (.slice none 0 0), .v (.slice none 0 0)]]⟩), (1, some ⟨40, 2, s3005.1.map MSig.ct⟩)], 1⟩) (le_of [(0, some 256), (1, none)] A (.s (.s (.s (.s (.s .nil A) A) A) A) A) (.box A A (.cons (.nil ⟨by simp, A⟩) (.cons (.v A) (.cons (.v A) .nil))) (.new ⟨by simp, A⟩ .nil))) ?_))
      intro s3005 y3006 hF hx3007
      refine w_seq (w_region (by rfl) (dv1 (l_bin A A b_lssN) (dvE (q_seq (w_seq ?_)))))
      rcases condE hF with ⟨b3009, hF⟩ | ⟨b3009, hF⟩
      · refine w_lenS 23 A fun l3010 => ?_
        refine w_condT A b3009 ?_
        refine w_skip (q_seq (w_seq (w_block (w_seq (w_region (by rfl) ?_)))))
        obtain ⟨x3011, h3012, hF⟩ := bindE hF
        refine dv1 (l_indexRo s3005.2 sl22 A A A (map_at h3012)) (dv1 (l_loadARo ty40 A A) (dvN (l_alloc zt40) (dvS (l_store ty40 A (.ag _) A A A (Nat.le_of_ble_eq_true A) A) (dvE (q_seq (w_draw [[], [], [1], [1, 2], [1, 2, 3], [], [5], [5, 6], [], [8], [5, 6, 7, 8, 9], [5, 6, 7, 8, 9, 10], [1, 2, 3, 4, 5, 6, 7, 8, 9, 10, 11], [0, 1, 2, 3, 4, 5, 6, 7, 8, 9, 10, 11, 12], [0, 1, 2, 3, 4, 5, 6, 7, 8, 9, 10, 11, 12, 13], [0, 1, 2, 3, 4, 5, 6, 7, 8, 9, 10, 11, 12, 13, 14]] [0, 1, 2, 3, 4, 5, 6, 8, 9, 7, 10, 11, 12, 13, 14, 15] (by kernel_rfl) (by rfl) ⟨by decide, by rfl⟩ (by rfl) ?_))))))
        refine de1 A (l_move (.ad _ _ _ _)) A (de1 A (l_move (.ad _ _ _ _)) A (de1 A (l_nil A) A (de1 A (l_field fd26_0 A) A (de1 A (l_load ty22 A A A A A) A (de1 A (l_field fd40_0 A) A (de1 A (l_load ty29 A A A A A) A (de1 A (l_field fd40_1 A) A (de1 A (l_load ty3 A A A A A) A ?_))))))))
        obtain ⟨y3013, h3014, hF⟩ := bindE hF
        refine deC1 A (l_call (B := false) (FnI.mk' (by kernel_rfl)) (.cons (.ro _) (.one (.ro _)) .nil) (p_slices_Clone_int_int_ac h3014) (okF p_slices_Clone_int_int_ok)) A ?_
        refine de1 A (l_build st40 zt40 (.cons (.rf _ _ _ _) (.cons (.v _) .nil)) A A) A (deN A (l_bs1 sl22 zt40 A (.ag _) A A A (by decide) (by decide)) A ?_)
        obtain ⟨c3015, hF⟩ := ckE hF
        refine deN3 A (l_app1R el22 A A A A A A (by decide) A len_snoc (by simpa using c3015) (by decide)) A ?_
        refine de1 A (l_nil A) A (de1 A (l_field fd26_0 A) A (deS A (l_store ty22 A (.rf _ _ _ _) A A A (Nat.le_of_ble_eq_true A) A) A (ddE (q_in (q_seq (w_region (by rfl) (dv1 (l_bin A A (b_incN (of_decide_eq_true b3009) l3010)) (dv1 (l_move (.v _)) ?_))))))))
        refine dvE ?_
        cases hF
        refine qL A ?_
        refine St.le.trans (le_closeR 1152 s3005.1.length A (snoc_at MSig.ct s3005.1 _) (.cons (.of (.rf A A (clm k_iC _))) (.cons (.of (.v _)) .nil)) (by decide) (by decide) A (snoc_cl MSig.ct _ _ (⟨y3013, x3011.Ret⟩ : MSig))) ?_
        exact (le_of [(0, some 0), (1, some 1152)] A (.s (.s (.s (.s (.s .nil A) A) A) A) A) (.box A A (.cons (.rf A (by simp)) (.cons (.v A) (.cons (.v A) .nil))) (.row A A A (clm k_MSigct _) .nil)))
      · refine w_condF A b3009 ?_
        refine w_exit ?_
        cases hF
        cases hx3007 _ rfl
        refine q_exS (q_exS (q_here (q_join ?_)))
        exact (le_of [(0, some 0), (1, some 1)] A (.s (.s .nil A) A) (.box A A (.s A) (.row A A A (clm k_MSigct _) .nil)))
    replace hF := hG4
    obtain ⟨s3017, hF, hG3018⟩ := bindE hF
    refine w_seqJ ⟨[(0, .ro (.rp (MPrg.ct p1) 0)), (3, .ad 0 3 0 0)], [(0, some ⟨26, 3, [[.rf 1 0 ((s3.map MSig.ct).length) 2, .rf 2 0 ((s3017.map MCls.ct).length) 2, .v (.slice none 0 0)]]⟩), (1, some ⟨40, 2, s3.map MSig.ct⟩), (2, some ⟨42, 2, s3017.map MCls.ct⟩)], 1⟩ ?_ ?_
    · refine w_seq (w_region (by rfl) (dv1 (l_move (.ro _)) (dv1 (l_nilRo A) (dv1 (l_fieldRo fd26_1 A) (dv1 (l_loadRo ty23 A A) (dv1 (l_lenRo sl23 A A (List.length_map _)) (dv1 (l_move (.v _)) (dvE ?_))))))))
      refine q_seq (w_block (w_loopF hF (fun (s6019 : (List MCls) × Nat) => ⟨[(0, .ro (.rp (MPrg.ct p1) 0)), (3, .ad 0 3 0 0), (48, .ro (.sl 42 2 (p1.Classes.map MCls.ct))), (49, .v (.int .i64 ((p1.Classes.length : Nat) : Int))), (50, .v (.int .i64 ((s6019.2 : Nat) : Int)))], [(0, some ⟨26, 3, [[.rf 1 0 ((s3.map MSig.ct).length) 2, .rf 2 0 ((s6019.1.map MCls.ct).length) 2, .v (.slice none 0 0)]]⟩), (1, some ⟨40, 2, s3.map MSig.ct⟩), (2, some ⟨42, 2, s6019.1.map MCls.ct⟩)], 1⟩) (le_of [(0, some 0), (1, some 1), (2, none)] A (.s (.s (.s (.s (.s .nil A) A) A) A) A) (.box A A (.cons (.rf A A) (.cons (.nil ⟨by simp, A⟩) (.cons (.v A) .nil))) (.row A A A (clm k_MSigct _) (.new ⟨by simp, A⟩ .nil)))) ?_))
      intro s6019 y6020 hF hx6021
      refine w_seq (w_region (by rfl) (dv1 (l_bin A A b_lssN) (dvE (q_seq (w_seq ?_)))))
      rcases condE hF with ⟨b6023, hF⟩ | ⟨b6023, hF⟩
      · refine w_lenS 48 A fun l6024 => ?_
        refine w_condT A b6023 ?_
        refine w_skip (q_seq (w_seq (w_block (w_seq (w_region (by rfl) ?_)))))
        obtain ⟨x6025, h6026, hF⟩ := bindE hF
        refine dv1 (l_indexRo s6019.2 sl23 A A A (map_at h6026)) (dv1 (l_loadARo ty42 A A) (dvN (l_alloc zt42) (dvS (l_store ty42 A (.ag _) A A A (Nat.le_of_ble_eq_true A) A) (dvE (q_seq (w_draw [[], [], [1], [1, 2], [1, 2, 3], [], [5], [5, 6], [], [8], [5, 6, 7, 8, 9], [5, 6, 7, 8, 9, 10], [5, 6, 7, 8, 9, 10, 11], [1, 2, 3, 4, 5, 6, 7, 8, 9, 10, 11, 12], [0, 1, 2, 3, 4, 5, 6, 7, 8, 9, 10, 11, 12, 13], [0, 1, 2, 3, 4, 5, 6, 7, 8, 9, 10, 11, 12, 13, 14], [0, 1, 2, 3, 4, 5, 6, 7, 8, 9, 10, 11, 12, 13, 14, 15]] [0, 1, 2, 3, 4, 5, 6, 8, 9, 7, 10, 11, 12, 13, 14, 15, 16] (by kernel_rfl) (by rfl) ⟨by decide, by rfl⟩ (by rfl) ?_))))))
        refine de1 A (l_move (.ad _ _ _ _)) A (de1 A (l_move (.ad _ _ _ _)) A (de1 A (l_nil A) A (de1 A (l_field fd26_1 A) A (de1 A (l_load ty23 A A A A A) A (de1 A (l_field fd42_0 A) A (de1 A (l_load ty29 A A A A A) A (de1 A (l_field fd42_1 A) A (de1 A (l_load ty29 A A A A A) A ?_))))))))
        obtain ⟨y6027, h6028, hF⟩ := bindE hF
        refine deC1 A (l_call (B := false) (FnI.mk' (by kernel_rfl)) (.cons (.ro _) (.one (.ro _)) .nil) (p_slices_Clone_int_int_ac h6028) (okF p_slices_Clone_int_int_ok)) A ?_
        obtain ⟨y6029, h6030, hF⟩ := bindE hF
        refine deC1 A (l_call (B := false) (FnI.mk' (by kernel_rfl)) (.cons (.ro _) (.one (.ro _)) .nil) (p_slices_Clone_int_int_ac h6030) (okF p_slices_Clone_int_int_ok)) A ?_
        refine de1 A (l_build st42 zt42 (.cons (.rf _ _ _ _) (.cons (.rf _ _ _ _) .nil)) A A) A (deN A (l_bs1 sl23 zt42 A (.ag _) A A A (by decide) (by decide)) A ?_)
        obtain ⟨c6031, hF⟩ := ckE hF
        refine deN3 A (l_app1R el23 A A A A A A (by decide) A len_snoc (by simpa using c6031) (by decide)) A ?_
        refine de1 A (l_nil A) A (de1 A (l_field fd26_1 A) A (deS A (l_store ty23 A (.rf _ _ _ _) A A A (Nat.le_of_ble_eq_true A) A) A (ddE (q_in (q_seq (w_region (by rfl) (dv1 (l_bin A A (b_incN (of_decide_eq_true b6023) l6024)) (dv1 (l_move (.v _)) ?_))))))))
        refine dvE ?_
        cases hF
        refine qL A ?_
        refine St.le.trans (le_closeR 1216 s6019.1.length A (snoc_at MCls.ct s6019.1 _) (.cons (.of (.rf A A (clm k_iC _))) (.cons (.of (.rf A A (clm k_iC _))) .nil)) (by decide) (by decide) A (snoc_cl MCls.ct _ _ (⟨y6027, y6029⟩ : MCls))) ?_
        exact (le_of [(0, some 0), (1, some 1), (2, some 1216)] A (.s (.s (.s (.s (.s .nil A) A) A) A) A) (.box A A (.cons (.rf A A) (.cons (.rf A (by simp)) (.cons (.v A) .nil))) (.row A A A (clm k_MSigct _) (.row A A A (clm k_MClsct _) .nil))))
      · refine w_condF A b6023 ?_
        refine w_exit ?_
        cases hF
        cases hx6021 _ rfl
        refine q_exS (q_exS (q_here (q_join ?_)))
        exact (le_of [(0, some 0), (1, some 1), (2, some 2)] A (.s (.s .nil A) A) (.box A A (.s A) (.row A A A (clm k_MSigct _) (.row A A A (clm k_MClsct _) .nil))))
    replace hF := hG3018
    obtain ⟨s6033, hF, hG6034⟩ := bindE hF
    refine w_seqJ ⟨[(3, .ad 0 3 0 0)], [(0, some ⟨26, 3, [[.rf 1 0 ((s3.map MSig.ct).length) 2, .rf 2 0 ((s3017.map MCls.ct).length) 2, .rf 3 0 ((s6033.map MFun.ct).length) 2]]⟩), (1, some ⟨40, 2, s3.map MSig.ct⟩), (2, some ⟨42, 2, s3017.map MCls.ct⟩), (3, some ⟨33, 2, s6033.map MFun.ct⟩)], 1⟩ ?_ ?_
    · refine w_seq (w_region (by rfl) (dv1 (l_move (.ro _)) (dv1 (l_nilRo A) (dv1 (l_fieldRo fd26_2 A) (dv1 (l_loadRo ty24 A A) (dv1 (l_lenRo sl24 A A (List.length_map _)) (dv1 (l_move (.v _)) (dvE ?_))))))))
      refine q_seq (w_block (w_loopF hF (fun (s9035 : (List MFun) × Nat) => ⟨[(3, .ad 0 3 0 0), (74, .ro (.sl 33 2 (p1.Funcs.map MFun.ct))), (75, .v (.int .i64 ((p1.Funcs.length : Nat) : Int))), (76, .v (.int .i64 ((s9035.2 : Nat) : Int)))], [(0, some ⟨26, 3, [[.rf 1 0 ((s3.map MSig.ct).length) 2, .rf 2 0 ((s3017.map MCls.ct).length) 2, .rf 3 0 ((s9035.1.map MFun.ct).length) 2]]⟩), (1, some ⟨40, 2, s3.map MSig.ct⟩), (2, some ⟨42, 2, s3017.map MCls.ct⟩), (3, some ⟨33, 2, s9035.1.map MFun.ct⟩)], 1⟩) (le_of [(0, some 0), (1, some 1), (2, some 2), (3, none)] A (.s (.s (.s (.s .nil A) A) A) A) (.box A A (.cons (.rf A A) (.cons (.rf A A) (.cons (.nil ⟨by simp, A⟩) .nil))) (.row A A A (clm k_MSigct _) (.row A A A (clm k_MClsct _) (.new ⟨by simp, A⟩ .nil))))) ?_))
      intro s9035 y9036 hF hx9037
      refine w_seq (w_region (by rfl) (dv1 (l_bin A A b_lssN) (dvE (q_seq (w_seq ?_)))))
      rcases condE hF with ⟨b9039, hF⟩ | ⟨b9039, hF⟩
      · refine w_lenS 74 A fun l9040 => ?_
        refine w_condT A b9039 ?_
        refine w_skip (q_seq ?_)
        obtain ⟨s9042, hF, hG9043⟩ := bindE hF
        refine w_seqJ ⟨[(3, .ad 0 3 0 0), (74, .ro (.sl 33 2 (p1.Funcs.map MFun.ct))), (75, .v (.int .i64 ((p1.Funcs.length : Nat) : Int))), (76, .v (.int .i64 ((s9035.2 : Nat) : Int)))], [(0, some ⟨26, 3, [[.rf 1 0 ((s3.map MSig.ct).length) 2, .rf 2 0 ((s3017.map MCls.ct).length) 2, .rf 3 0 ((s9042.map MFun.ct).length) 2]]⟩), (1, some ⟨40, 2, s3.map MSig.ct⟩), (2, some ⟨42, 2, s3017.map MCls.ct⟩), (3, some ⟨33, 2, s9042.map MFun.ct⟩)], 1⟩ ?_ ?_
        · refine w_block (w_seq (w_region (by rfl) ?_))
          obtain ⟨x9044, h9045, hF⟩ := bindE hF
          refine dv1 (l_indexRo s9035.2 sl24 A A A (map_at h9045)) (dv1 (l_loadARo ty33 A A) (dvN (l_alloc zt33) (dvS (l_store ty33 A (.ag _) A A A (Nat.le_of_ble_eq_true A) A) (dvE (q_seq (w_seq (w_region (by rfl) (dv1 (l_field fd33_0 A) ?_))))))))
          refine dv1 (l_load ty3 A A A A A) (dv1 (l_build st33 zt33 (.cons (.v _) .nil) A A) (dvN (l_alloc zt33) (dvS (l_store ty33 A (.ag _) A A A (Nat.le_of_ble_eq_true A) A) (dvE (q_seq ?_)))))
          obtain ⟨s9047, hF, hG9048⟩ := bindE hF
          refine w_seqJ ⟨[(3, .ad 0 3 0 0), (10, .ad 4 2 0 0), (74, .ro (.sl 33 2 (p1.Funcs.map MFun.ct))), (75, .v (.int .i64 ((p1.Funcs.length : Nat) : Int))), (76, .v (.int .i64 ((s9035.2 : Nat) : Int)))], [(0, some ⟨26, 3, [[.rf 1 0 ((s3.map MSig.ct).length) 2, .rf 2 0 ((s3017.map MCls.ct).length) 2, .rf 3 0 ((s9035.1.map MFun.ct).length) 2]]⟩), (1, some ⟨40, 2, s3.map MSig.ct⟩), (2, some ⟨42, 2, s3017.map MCls.ct⟩), (3, some ⟨33, 2, s9035.1.map MFun.ct⟩), (4, some ⟨33, 2, [[.v (.int .i64 x9044.Ret), .rf 5 0 ((s9047.map MBlk.ct).length) 8]]⟩), (5, some ⟨47, 8, s9047.map MBlk.ct⟩)], 1⟩ ?_ ?_
          · refine w_seq (w_region (by rfl) (dv1 (l_field fd33_1 A) (dv1 (l_load ty31 A A A A A) (dv1 (l_lenRo sl31 A A (List.length_map _)) (dv1 (l_move (.v _)) (dvE (q_seq (w_block ?_))))))))
            refine w_loopF hF (fun (s12049 : (List MBlk) × Nat) => ⟨[(3, .ad 0 3 0 0), (10, .ad 4 2 0 0), (74, .ro (.sl 33 2 (p1.Funcs.map MFun.ct))), (75, .v (.int .i64 ((p1.Funcs.length : Nat) : Int))), (76, .v (.int .i64 ((s9035.2 : Nat) : Int))), (84, .ro (.sl 47 8 (x9044.Blocks.map MBlk.ct))), (85, .v (.int .i64 ((x9044.Blocks.length : Nat) : Int))), (86, .v (.int .i64 ((s12049.2 : Nat) : Int)))], [(0, some ⟨26, 3, [[.rf 1 0 ((s3.map MSig.ct).length) 2, .rf 2 0 ((s3017.map MCls.ct).length) 2, .rf 3 0 ((s9035.1.map MFun.ct).length) 2]]⟩), (1, some ⟨40, 2, s3.map MSig.ct⟩), (2, some ⟨42, 2, s3017.map MCls.ct⟩), (3, some ⟨33, 2, s9035.1.map MFun.ct⟩), (4, some ⟨33, 2, [[.v (.int .i64 x9044.Ret), .rf 5 0 ((s12049.1.map MBlk.ct).length) 8]]⟩), (5, some ⟨47, 8, s12049.1.map MBlk.ct⟩)], 1⟩) (le_of [(0, some 0), (1, some 1), (2, some 2), (3, some 3), (4, some 576), (5, none)] A (.s (.s (.s (.s (.s (.s (.s (.s .nil A) A) A) A) A) A) A) A) (.box A A (.s A) (.row A A A (clm k_MSigct _) (.row A A A (clm k_MClsct _) (.row A A A (clm k_MFunct _) (.box A A (.cons (.v A) (.cons (.nil ⟨by simp, A⟩) .nil)) (.new ⟨by simp, A⟩ .nil))))))) ?_
            intro s12049 y12050 hF hx12051
            refine w_seq (w_region (by rfl) (dv1 (l_bin A A b_lssN) (dvE (q_seq (w_seq ?_)))))
            rcases condE hF with ⟨b12053, hF⟩ | ⟨b12053, hF⟩
            · refine w_lenS 84 A fun l12054 => ?_
              refine w_condT A b12053 ?_
              refine w_skip (q_seq ?_)
              obtain ⟨s12056, hF, hG12057⟩ := bindE hF
              refine w_seqJ ⟨[(3, .ad 0 3 0 0), (10, .ad 4 2 0 0), (74, .ro (.sl 33 2 (p1.Funcs.map MFun.ct))), (75, .v (.int .i64 ((p1.Funcs.length : Nat) : Int))), (76, .v (.int .i64 ((s9035.2 : Nat) : Int))), (84, .ro (.sl 47 8 (x9044.Blocks.map MBlk.ct))), (85, .v (.int .i64 ((x9044.Blocks.length : Nat) : Int))), (86, .v (.int .i64 ((s12049.2 : Nat) : Int)))], [(0, some ⟨26, 3, [[.rf 1 0 ((s3.map MSig.ct).length) 2, .rf 2 0 ((s3017.map MCls.ct).length) 2, .rf 3 0 ((s9035.1.map MFun.ct).length) 2]]⟩), (1, some ⟨40, 2, s3.map MSig.ct⟩), (2, some ⟨42, 2, s3017.map MCls.ct⟩), (3, some ⟨33, 2, s9035.1.map MFun.ct⟩), (4, some ⟨33, 2, [[.v (.int .i64 x9044.Ret), .rf 5 0 ((s12056.map MBlk.ct).length) 8]]⟩), (5, some ⟨47, 8, s12056.map MBlk.ct⟩)], 1⟩ ?_ ?_
              · refine w_block (w_seq (w_region (by rfl) ?_))
                obtain ⟨x12058, h12059, hF⟩ := bindE hF
                refine dv1 (l_indexRo s12049.2 sl31 A A A (map_at h12059)) (dv1 (l_loadARo ty47 A A) (dvN (l_alloc zt47) (dvS (l_store ty47 A (.ag _) A A A (Nat.le_of_ble_eq_true A) A) (dvE (q_seq (w_seq (w_draw [[], [0], [0, 1], [], [3], [0, 1, 2, 3, 4], [0, 1, 2, 3, 4, 5], [], [0, 1, 2, 3, 4, 5, 6, 7]] [0, 1, 3, 4, 7, 2, 5, 6, 8] (by kernel_rfl) (by rfl) ⟨by decide, by rfl⟩ (by rfl) ?_)))))))
                refine de1 A (l_field fd47_0 A) A (de1 A (l_load ty29 A A A A A) A (de1 A (l_field fd47_2 A) A (de1 A (l_loadA ty45 A A A A A) A (deN A (l_alloc zt47) A ?_))))
                obtain ⟨y12060, h12061, hF⟩ := bindE hF
                refine deC1 A (l_call (B := false) (FnI.mk' (by kernel_rfl)) (.cons (.ro _) (.one (.ro _)) .nil) (p_slices_Clone_int_int_ac h12061) (okF p_slices_Clone_int_int_ok)) A ?_
                obtain ⟨y12062, h12063, hF⟩ := bindE hF
                refine deC1 A (l_call (B := false) (FnI.mk' (by kernel_rfl)) (.cons (.ag _) (.ag (.cons (.v _) (.cons (.v _) (.cons (.v _) (.cons (.v _) (.cons (.ro _) (.cons (.ro _) .nil))))))) .nil) (p_code_ownEnd_ac h12063) (okF p_code_ownEnd_ok)) A ?_
                refine de1 A (l_build st47 zt47 (.cons (.rf _ _ _ _) (.cons (.ag _) .nil)) A A) A (deS A (l_store ty47 A (.ag _) A A A (Nat.le_of_ble_eq_true A) A) A (ddE (q_seq ?_)))
                obtain ⟨s12065, hF, hG12066⟩ := bindE hF
                refine w_seqJ ⟨[(3, .ad 0 3 0 0), (10, .ad 4 2 0 0), (13, .ad 6 8 0 0), (74, .ro (.sl 33 2 (p1.Funcs.map MFun.ct))), (75, .v (.int .i64 ((p1.Funcs.length : Nat) : Int))), (76, .v (.int .i64 ((s9035.2 : Nat) : Int))), (84, .ro (.sl 47 8 (x9044.Blocks.map MBlk.ct))), (85, .v (.int .i64 ((x9044.Blocks.length : Nat) : Int))), (86, .v (.int .i64 ((s12049.2 : Nat) : Int)))], [(0, some ⟨26, 3, [[.rf 1 0 ((s3.map MSig.ct).length) 2, .rf 2 0 ((s3017.map MCls.ct).length) 2, .rf 3 0 ((s9035.1.map MFun.ct).length) 2]]⟩), (1, some ⟨40, 2, s3.map MSig.ct⟩), (2, some ⟨42, 2, s3017.map MCls.ct⟩), (3, some ⟨33, 2, s9035.1.map MFun.ct⟩), (4, some ⟨33, 2, [[.v (.int .i64 x9044.Ret), .rf 5 0 ((s12049.1.map MBlk.ct).length) 8]]⟩), (5, some ⟨47, 8, s12049.1.map MBlk.ct⟩), (6, some ⟨47, 8, [[.rf 7 0 ((y12060.map iC).length) 1, .rf 8 0 ((s12065.map MOp.ct).length) 8, .v (.int .i64 y12062.K), .v (.int .i64 y12062.A), .v (.int .i64 y12062.To), .v (.int .i64 y12062.Else), .rf 9 0 ((y12062.L.map iC).length) 1, .rf 10 0 ((y12062.M.map iC).length) 1]]⟩), (7, some ⟨3, 1, y12060.map iC⟩), (8, some ⟨49, 8, s12065.map MOp.ct⟩), (9, some ⟨3, 1, y12062.L.map iC⟩), (10, some ⟨3, 1, y12062.M.map iC⟩)], 1⟩ ?_ ?_
                · refine w_seq (w_region (by rfl) (dv1 (l_field fd47_1 A) (dv1 (l_load ty43 A A A A A) (dv1 (l_lenRo sl43 A A (List.length_map _)) (dv1 (l_move (.v _)) (dvE (q_seq (w_block ?_))))))))
                  refine w_loopF hF (fun (s15067 : (List MOp) × Nat) => ⟨[(3, .ad 0 3 0 0), (10, .ad 4 2 0 0), (13, .ad 6 8 0 0), (74, .ro (.sl 33 2 (p1.Funcs.map MFun.ct))), (75, .v (.int .i64 ((p1.Funcs.length : Nat) : Int))), (76, .v (.int .i64 ((s9035.2 : Nat) : Int))), (84, .ro (.sl 47 8 (x9044.Blocks.map MBlk.ct))), (85, .v (.int .i64 ((x9044.Blocks.length : Nat) : Int))), (86, .v (.int .i64 ((s12049.2 : Nat) : Int))), (98, .ro (.sl 49 8 (x12058.Ops.map MOp.ct))), (99, .v (.int .i64 ((x12058.Ops.length : Nat) : Int))), (100, .v (.int .i64 ((s15067.2 : Nat) : Int)))], [(0, some ⟨26, 3, [[.rf 1 0 ((s3.map MSig.ct).length) 2, .rf 2 0 ((s3017.map MCls.ct).length) 2, .rf 3 0 ((s9035.1.map MFun.ct).length) 2]]⟩), (1, some ⟨40, 2, s3.map MSig.ct⟩), (2, some ⟨42, 2, s3017.map MCls.ct⟩), (3, some ⟨33, 2, s9035.1.map MFun.ct⟩), (4, some ⟨33, 2, [[.v (.int .i64 x9044.Ret), .rf 5 0 ((s12049.1.map MBlk.ct).length) 8]]⟩), (5, some ⟨47, 8, s12049.1.map MBlk.ct⟩), (6, some ⟨47, 8, [[.rf 7 0 ((y12060.map iC).length) 1, .rf 8 0 ((s15067.1.map MOp.ct).length) 8, .v (.int .i64 y12062.K), .v (.int .i64 y12062.A), .v (.int .i64 y12062.To), .v (.int .i64 y12062.Else), .rf 9 0 ((y12062.L.map iC).length) 1, .rf 10 0 ((y12062.M.map iC).length) 1]]⟩), (7, some ⟨3, 1, y12060.map iC⟩), (8, some ⟨49, 8, s15067.1.map MOp.ct⟩), (9, some ⟨3, 1, y12062.L.map iC⟩), (10, some ⟨3, 1, y12062.M.map iC⟩)], 1⟩) (le_of [(0, some 0), (1, some 1), (2, some 2), (3, some 3), (4, some 4), (5, some 5), (6, some 640), (7, some 704), (8, none), (9, some 772), (10, some 773)] A (.s (.s (.s (.s (.s (.s (.s (.s (.s (.s (.s (.s .nil A) A) A) A) A) A) A) A) A) A) A) A) (.box A A (.s A) (.row A A A (clm k_MSigct _) (.row A A A (clm k_MClsct _) (.row A A A (clm k_MFunct _) (.box A A (.s A) (.row A A A (clm k_MBlkct _) (.box A A (.cons (.rf A A) (.cons (.nil ⟨by simp, A⟩) (.cons (.v A) (.cons (.v A) (.cons (.v A) (.cons (.v A) (.cons (.rf A A) (.cons (.rf A A) .nil)))))))) (.row A A A (clm k_iC _) (.new ⟨by simp, A⟩ (.row A A A (clm k_iC _) (.row A A A (clm k_iC _) .nil)))))))))))) ?_
                  intro s15067 y15068 hF hx15069
                  refine w_seq (w_region (by rfl) (dv1 (l_bin A A b_lssN) (dvE (q_seq (w_seq ?_)))))
                  rcases condE hF with ⟨b15071, hF⟩ | ⟨b15071, hF⟩
                  · refine w_lenS 98 A fun l15072 => ?_
                    refine w_condT A b15071 ?_
                    refine w_skip (q_seq (w_seq (w_block (w_seq (w_region (by rfl) ?_)))))
                    obtain ⟨x15073, h15074, hF⟩ := bindE hF
                    refine dv1 (l_indexRo s15067.2 sl43 A A A (map_at h15074)) (dv1 (l_loadARo ty49 A A) (dvN (l_alloc zt49) (dvS (l_store ty49 A (.ag _) A A A (Nat.le_of_ble_eq_true A) A) (dvE (q_seq (w_draw [[], [0], [], [2], [2, 3], [0, 1, 2, 3, 4], [0, 1, 2, 3, 4, 5], [0, 1, 2, 3, 4, 5, 6]] [0, 1, 2, 3, 4, 5, 6, 7] (by kernel_rfl) (by rfl) ⟨by decide, by rfl⟩ (by rfl) ?_))))))
                    refine de1 A (l_field fd47_1 A) A (de1 A (l_load ty43 A A A A A) A (de1 A (l_loadA ty49 A A A A A) A ?_))
                    obtain ⟨y15075, h15076, hF⟩ := bindE hF
                    refine deC1 A (l_call (B := false) (FnI.mk' (by kernel_rfl)) (.cons (.ag _) (.ag (.cons (.v _) (.cons (.v _) (.cons (.v _) (.cons (.v _) (.cons (.v _) (.cons (.v _) (.cons (.ro _) (.cons (.v _) .nil))))))))) .nil) (p_kind_Plain_ac h15076) (okF p_kind_Plain_ok)) A ?_
                    refine deN A (l_bs1 sl43 zt49 A (.ag _) A A A (by decide) (by decide)) A ?_
                    obtain ⟨c15077, hF⟩ := ckE hF
                    refine deN3 A (l_app1R el43 A A A A A A (by decide) A len_snoc (by simpa using c15077) (by decide)) A ?_
                    refine de1 A (l_field fd47_1 A) A (deS A (l_store ty43 A (.rf _ _ _ _) A A A (Nat.le_of_ble_eq_true A) A) A (ddE (q_in (q_seq (w_region (by rfl) (dv1 (l_bin A A (b_incN (of_decide_eq_true b15071) l15072)) (dv1 (l_move (.v _)) (dvE ?_))))))))
                    cases hF
                    refine qL A ?_
                    refine St.le.trans (le_closeR 704 s15067.1.length A (snoc_at MOp.ct s15067.1 _) (.cons (.of (.v _)) (.cons (.of (.v _)) (.cons (.of (.v _)) (.cons (.of (.v _)) (.cons (.of (.v _)) (.cons (.of (.v _)) (.cons (.of (.rf A A (clm k_iC _))) (.cons (.of (.v _)) .nil)))))))) (by decide) (by decide) A (snoc_cl MOp.ct _ _ y15075)) ?_
                    exact (le_of [(0, some 0), (1, some 1), (2, some 2), (3, some 3), (4, some 4), (5, some 5), (6, some 6), (7, some 7), (8, some 704), (9, some 9), (10, some 10)] A (.s (.s (.s (.s (.s (.s (.s (.s (.s (.s (.s (.s .nil A) A) A) A) A) A) A) A) A) A) A) A) (.box A A (.s A) (.row A A A (clm k_MSigct _) (.row A A A (clm k_MClsct _) (.row A A A (clm k_MFunct _) (.box A A (.s A) (.row A A A (clm k_MBlkct _) (.box A A (.cons (.rf A A) (.cons (.rf A (by simp)) (.cons (.v A) (.cons (.v A) (.cons (.v A) (.cons (.v A) (.cons (.rf A A) (.cons (.rf A A) .nil)))))))) (.row A A A (clm k_iC _) (.row A A A (clm k_MOpct _) (.row A A A (clm k_iC _) (.row A A A (clm k_iC _) .nil))))))))))))
                  · refine w_condF A b15071 ?_
                    refine w_exit ?_
                    cases hF
                    cases hx15069 _ rfl
                    refine q_exS (q_exS (q_here (q_join ?_)))
                    exact (le_of [(0, some 0), (1, some 1), (2, some 2), (3, some 3), (4, some 4), (5, some 5), (6, some 6), (7, some 7), (8, some 8), (9, some 9), (10, some 10)] A (.s (.s (.s (.s (.s (.s (.s (.s (.s .nil A) A) A) A) A) A) A) A) A) (.box A A (.s A) (.row A A A (clm k_MSigct _) (.row A A A (clm k_MClsct _) (.row A A A (clm k_MFunct _) (.box A A (.s A) (.row A A A (clm k_MBlkct _) (.box A A (.s A) (.row A A A (clm k_iC _) (.row A A A (clm k_MOpct _) (.row A A A (clm k_iC _) (.row A A A (clm k_iC _) .nil))))))))))))
                replace hF := hG12066
                refine w_region (by rfl) (dv1 (l_field fd33_1 A) (dv1 (l_load ty31 A A A A A) (dv1 (l_loadA ty47 A A A A A) (dvN (l_bs1 sl31 zt47 A (.ag _) A A A (by decide) (by decide)) ?_))))
                obtain ⟨c15078, hF⟩ := ckE hF
                refine dvN3 (l_app1R el31 A A A A A A (by decide) A len_snoc (by simpa using c15078) (by decide)) ?_
                refine dv1 (l_field fd33_1 A) (dvS (l_store ty31 A (.rf _ _ _ _) A A A (Nat.le_of_ble_eq_true A) A) (dvE ?_))
                cases hF
                refine q_in (q_join ?_)
                refine St.le.trans (le_closeR 320 s12049.1.length A (snoc_at MBlk.ct s12049.1 _) (.cons (.of (.rf A A (clm k_iC _))) (.cons (.of (.rf A A (clm k_MOpct _))) (.cons (.of (.v _)) (.cons (.of (.v _)) (.cons (.of (.v _)) (.cons (.of (.v _)) (.cons (.of (.rf A A (clm k_iC _))) (.cons (.of (.rf A A (clm k_iC _))) .nil)))))))) (by decide) (by decide) A (snoc_cl MBlk.ct _ _ (⟨y12060, s12065, y12062⟩ : MBlk))) ?_
                exact (le_of [(0, some 0), (1, some 1), (2, some 2), (3, some 3), (4, some 4), (5, some 320)] A (.s (.s (.s (.s (.s (.s (.s (.s .nil A) A) A) A) A) A) A) A) (.box A A (.s A) (.row A A A (clm k_MSigct _) (.row A A A (clm k_MClsct _) (.row A A A (clm k_MFunct _) (.box A A (.cons (.v A) (.cons (.rf A (by simp)) .nil)) (.row A A A (clm k_MBlkct _) .nil)))))))
              replace hF := hG12057
              refine w_region (by rfl) (dv1 (l_bin A A (b_incN (of_decide_eq_true b12053) l12054)) (dv1 (l_move (.v _)) (dvE ?_)))
              cases hF
              refine qL A ?_
              exact (le_of [(0, some 0), (1, some 1), (2, some 2), (3, some 3), (4, some 4), (5, some 5)] A (.s (.s (.s (.s (.s (.s (.s (.s .nil A) A) A) A) A) A) A) A) (.box A A (.s A) (.row A A A (clm k_MSigct _) (.row A A A (clm k_MClsct _) (.row A A A (clm k_MFunct _) (.box A A (.s A) (.row A A A (clm k_MBlkct _) .nil)))))))
            · refine w_condF A b12053 ?_
              refine w_exit ?_
              cases hF
              cases hx12051 _ rfl
              refine q_exS (q_exS (q_here (q_join ?_)))
              exact (le_of [(0, some 0), (1, some 1), (2, some 2), (3, some 3), (4, some 4), (5, some 5)] A (.s (.s (.s (.s (.s .nil A) A) A) A) A) (.box A A (.s A) (.row A A A (clm k_MSigct _) (.row A A A (clm k_MClsct _) (.row A A A (clm k_MFunct _) (.box A A (.s A) (.row A A A (clm k_MBlkct _) .nil)))))))
          replace hF := hG9048
          refine w_draw [[], [], [1], [1, 2], [1, 2, 3], [], [5], [1, 2, 3, 4, 5, 6], [0, 1, 2, 3, 4, 5, 6, 7], [0, 1, 2, 3, 4, 5, 6, 7, 8], [0, 1, 2, 3, 4, 5, 6, 7, 8, 9]] [0, 1, 2, 3, 4, 5, 6, 7, 8, 9, 10] (by kernel_rfl) (by rfl) ⟨by decide, by rfl⟩ (by rfl) ?_
          refine de1 A (l_move (.ad _ _ _ _)) A (de1 A (l_move (.ad _ _ _ _)) A (de1 A (l_nil A) A (de1 A (l_field fd26_2 A) A (de1 A (l_load ty24 A A A A A) A (de1 A (l_loadA ty33 A A A A A) A (deN A (l_bs1 sl24 zt33 A (.ag _) A A A (by decide) (by decide)) A ?_))))))
          obtain ⟨c15079, hF⟩ := ckE hF
          refine deN3 A (l_app1R el24 A A A A A A (by decide) A len_snoc (by simpa using c15079) (by decide)) A ?_
          refine de1 A (l_nil A) A (de1 A (l_field fd26_2 A) A (deS A (l_store ty24 A (.rf _ _ _ _) A A A (Nat.le_of_ble_eq_true A) A) A (ddE ?_)))
          cases hF
          refine q_in (q_join ?_)
          refine St.le.trans (le_closeR 512 s9035.1.length A (snoc_at MFun.ct s9035.1 _) (.cons (.of (.v _)) (.cons (.of (.rf A A (clm k_MBlkct _))) .nil)) (by decide) (by decide) A (snoc_cl MFun.ct _ _ (⟨x9044.Ret, s9047⟩ : MFun))) ?_
          exact (le_of [(0, some 0), (1, some 1), (2, some 2), (3, some 512)] A (.s (.s (.s (.s .nil A) A) A) A) (.box A A (.cons (.rf A A) (.cons (.rf A A) (.cons (.rf A (by simp)) .nil))) (.row A A A (clm k_MSigct _) (.row A A A (clm k_MClsct _) (.row A A A (clm k_MFunct _) .nil)))))
        replace hF := hG9043
        refine w_region (by rfl) (dv1 (l_bin A A (b_incN (of_decide_eq_true b9039) l9040)) (dv1 (l_move (.v _)) (dvE ?_)))
        cases hF
        refine qL A ?_
        exact (le_of [(0, some 0), (1, some 1), (2, some 2), (3, some 3)] A (.s (.s (.s (.s .nil A) A) A) A) (.box A A (.s A) (.row A A A (clm k_MSigct _) (.row A A A (clm k_MClsct _) (.row A A A (clm k_MFunct _) .nil)))))
      · refine w_condF A b9039 ?_
        refine w_exit ?_
        cases hF
        cases hx9037 _ rfl
        refine q_exS (q_exS (q_here (q_join ?_)))
        exact (le_of [(0, some 0), (1, some 1), (2, some 2), (3, some 3)] A (.s .nil A) (.box A A (.s A) (.row A A A (clm k_MSigct _) (.row A A A (clm k_MClsct _) (.row A A A (clm k_MFunct _) .nil)))))
    replace hF := hG6034
    refine w_seq (w_region (by rfl) (dv1 (l_move (.ad _ _ _ _)) (dv1 (l_assign (.ad _ _ _ _)) (dvE (q_seq (W.le (le_close 0 0 A A (.cons (.of (.rf A A (clm k_MSigct _))) (.cons (.of (.rf A A (clm k_MClsct _))) (.cons (.of (.rf A A (clm k_MFunct _))) .nil))) (by decide) (by decide) A) ?_))))))
    refine w_ret ?_
    cases hF
    refine q_end (.inr A) ?_
    exact ret_ok A (.cons (.tmp (.ad _ _ _ _) (.ad A (cl1 (.sl _ _ (clm k_MSigct _)) (cl1 (.sl _ _ (clm k_MClsct _)) (cl1 (.sl _ _ (clm k_MFunct _)) (cl0 (b := true))))))) .nil) (by decide) A

def p_code_Copy (a0 : Option MPrg) : Option ((Option MPrg)) :=
(optC a0
(((p_code_own none).bind fun y2 =>
(optC y2
(some none)
(fun p4 =>
some (some p4)))))
(fun p1 =>
((p_code_own (some p1)).bind fun y5 =>
(optC y5
(some none)
(fun p7 =>
some (some p7))))))

theorem p_code_Copy_ok {r : (Option MPrg)} : rOk (opC 26 3 MPrg.ct r) = true ∧ FrT (opC 26 3 MPrg.ct r) := opok k_MPrgct r

set_option maxRecDepth 10000 in
set_option maxHeartbeats 4000000 in
theorem p_code_Copy_ac {a0 : Option MPrg} {r : (Option MPrg)} (hF : p_code_Copy a0 = some r) : AC Tryd.prog GT 47 [ptC MPrg.ct a0] (fun c => c = opC 26 3 MPrg.ct r) := by
  unfold p_code_Copy at hF
  refine AC.mk (nt := 5) Tryd.func47 A A A fun w N => ?_
  rcases a0 with _ | p1
  · replace hF := optN hF
    refine w_seq (w_region (by rfl) (dv1 (l_assign (.v _)) (dvE (q_seq (w_seq (w_region (by rfl) (dv1 (l_move (.v _)) ?_)))))))
    obtain ⟨y2, h3, hF⟩ := bindE hF
    rcases y2 with _ | p4
    · replace hF := optN hF
      refine dvC (l_call (B := false) (FnI.mk' (by kernel_rfl)) (.cons (.v _) (.one (.v _)) .nil) (p_code_own_ac h3) (okF p_code_own_ok)) ?_
      rintro _ rfl
      refine dv1 (l_assign (.v _)) (dvE (q_seq (w_ret ?_)))
      cases hF
      refine q_end (.inr A) ?_
      exact ret_ok A (.cons (.tmp (.v _) (.v _)) .nil) (by decide) A
    · replace hF := optS hF
      refine dvC (l_call (B := false) (FnI.mk' (by kernel_rfl)) (.cons (.v _) (.one (.v _)) .nil) (p_code_own_ac h3) (okF p_code_own_ok)) ?_
      rintro _ rfl
      refine dv1 (l_assign (.ad _ _ _ _)) (dvE (q_seq (w_ret ?_)))
      cases hF
      refine q_end (.inr A) ?_
      exact ret_ok A (.cons (.tmp (.ad _ _ _ _) (.ad A (cl1 (.sl _ _ (clm k_MSigct _)) (cl1 (.sl _ _ (clm k_MClsct _)) (cl1 (.sl _ _ (clm k_MFunct _)) (cl0 (b := true))))))) .nil) (by decide) A
  · replace hF := optS hF
    refine w_seq (w_region (by rfl) (dv1 (l_assign (.v _)) (dvE (q_seq (w_seq (w_region (by rfl) (dv1 (l_move (.ro _)) ?_)))))))
    obtain ⟨y5, h6, hF⟩ := bindE hF
    rcases y5 with _ | p7
    · replace hF := optN hF
      refine dvC (l_call (B := false) (FnI.mk' (by kernel_rfl)) (.cons (.ro _) (.one (.ro _)) .nil) (p_code_own_ac h6) (okF p_code_own_ok)) ?_
      rintro _ rfl
      refine dv1 (l_assign (.v _)) (dvE (q_seq (w_ret ?_)))
      cases hF
      refine q_end (.inr A) ?_
      exact ret_ok A (.cons (.tmp (.v _) (.v _)) .nil) (by decide) A
    · replace hF := optS hF
      refine dvC (l_call (B := false) (FnI.mk' (by kernel_rfl)) (.cons (.ro _) (.one (.ro _)) .nil) (p_code_own_ac h6) (okF p_code_own_ok)) ?_
      rintro _ rfl
      refine dv1 (l_assign (.ad _ _ _ _)) (dvE (q_seq (w_ret ?_)))
      cases hF
      refine q_end (.inr A) ?_
      exact ret_ok A (.cons (.tmp (.ad _ _ _ _) (.ad A (cl1 (.sl _ _ (clm k_MSigct _)) (cl1 (.sl _ _ (clm k_MClsct _)) (cl1 (.sl _ _ (clm k_MFunct _)) (cl0 (b := true))))))) .nil) (by decide) A

def p_tidy_own (a0 : MFun) : Option MFun :=
((p_code_Copy (some (⟨[], [], [a0]⟩ : MPrg))).bind fun y1 =>
(optC y1
(none)
(fun p3 =>
((p3.Funcs[0]?).bind fun x4 =>
some x4))))

theorem p_tidy_own_ok {r : MFun} : rOk (.ag (MFun.ct r)) = true ∧ FrT (.ag (MFun.ct r)) := ⟨rfl, (.one (.ag (k_MFunct _)))⟩

set_option maxRecDepth 10000 in
set_option maxHeartbeats 4000000 in
theorem p_tidy_own_ac {a0 : MFun} {r : MFun} (hF : p_tidy_own a0 = some r) : AC Tryd.prog GT 35 [.ag (MFun.ct a0)] (fun c => c = .ag (MFun.ct r)) := by
  unfold p_tidy_own at hF
  refine AC.mk (nt := 13) Tryd.func35 A A A fun w N => ?_
  refine w_seq (w_region (by rfl) (dvN (l_box (.ag _) A A) (dvN (l_alloc zt33) (dvE (q_seq (w_seq (w_region (by rfl) (dv1 (l_loadA ty33 A A A A A) ?_))))))))
  refine dvN (l_bs1 sl24 zt33 A (.ag _) A A A (by decide) (by decide)) (dv1 (l_build st26 zt26 (.cons (.rf _ _ _ _) .nil) A A) (dvN (l_box (.ag _) A A) (dvG (le_close 320 0 A A (.cons (.of (.v _)) (.cons (.of (.v _)) (.cons (.of (.rf A A (cr1 (cl1 (.v _) (cl1 (.ro _ A) (cl0 (b := true)))) cr0))) .nil))) (by decide) (by decide) A) ?_)))
  obtain ⟨y1, h2, hF⟩ := bindE hF
  rcases y1 with _ | p3
  · replace hF := optN hF
    refine dvC (l_call (B := true) (FnI.mk' (by kernel_rfl)) (.cons (.ad _ _ _ _) (.one (.ad A A A (cl1 (.v _) (cl1 (.v _) (cl1 (.sl _ _ (cr1 (cl1 (.v _) (cl1 (.ro _ A) (cl0 (b := true)))) cr0)) (cl0 (b := true))))))) .nil) (AC.rd (p_code_Copy_ac h2) (.cons (.rp (.cons (Wk.nil _ _) (.cons (Wk.nil _ _) (.cons (Wk.sl (.cons (.cons (Wk.refl _) (.cons (Wk.ro (Wk.refl _)) .nil)) .nil)) .nil)))) .nil)) (okT p_code_Copy_ok)) ?_
    rintro _ rfl
    exact nomatch hF
  · replace hF := optS hF
    refine dvC (l_call (B := true) (FnI.mk' (by kernel_rfl)) (.cons (.ad _ _ _ _) (.one (.ad A A A (cl1 (.v _) (cl1 (.v _) (cl1 (.sl _ _ (cr1 (cl1 (.v _) (cl1 (.ro _ A) (cl0 (b := true)))) cr0)) (cl0 (b := true))))))) .nil) (AC.rd (p_code_Copy_ac h2) (.cons (.rp (.cons (Wk.nil _ _) (.cons (Wk.nil _ _) (.cons (Wk.sl (.cons (.cons (Wk.refl _) (.cons (Wk.ro (Wk.refl _)) .nil)) .nil)) .nil)))) .nil)) (okT p_code_Copy_ok)) ?_
    rintro _ rfl
    refine dv1 (l_nil A) (dv1 (l_field fd26_2 A) (dvG (le_open 384 0 A A A) ?_))
    refine dv1 (l_load ty24 A A A A A) ?_
    obtain ⟨x4, h5, hF⟩ := bindE hF
    refine dv1 (l_index 0 sl24 A A A (lt_at MFun.ct h5)) (dvG (le_open 578 0 A (map_at h5) A) ?_)
    refine dv1 (l_loadA ty33 A A (set_at h5) A A) (dvS (l_store ty33 A (.ag _) A A A (Nat.le_of_ble_eq_true A) A) (dvE (q_seq (w_ret ?_))))
    cases hF
    refine q_end (.inr A) ?_
    exact ret_ok A (.cons (.cellA ty33 A A A (.cons (.of (.v _)) (.cons (.of (.rf A A (clm k_MBlkct _))) .nil))) .nil) (by decide) A

def p_slices_Index_int_int (a0 : List Int) (a1 : Int) : Option Int :=
(((loop (fun (s3003 : Nat) =>
(bif decide (s3003 < a0.length) then
((a0[s3003]?).bind fun x3009 =>
(bif decide (a1 = x3009) then
some (Xt.out (Xt.out ((s3003 : Nat) : Int)))
else
some (Xt.go (s3003 + 1))))
else
some (Xt.out (Xt.go ())))) Fu 0)).bind fun s1 => s1.on (fun (s3012 : Unit) =>
some (-1))
(fun o3014 => some o3014))

theorem p_slices_Index_int_int_ok {r : Int} : rOk (.v (.int .i64 r)) = true ∧ FrT (.v (.int .i64 r)) := ⟨rfl, (.one (.cl (.v _)))⟩

set_option maxRecDepth 10000 in
set_option maxHeartbeats 4000000 in
theorem p_slices_Index_int_int_ac {a0 : List Int} {a1 : Int} {r : Int} (hF : p_slices_Index_int_int a0 a1 = some r) : AC Tryd.prog GT 74 [.sl 3 1 (a0.map iC), .v (.int .i64 a1)] (fun c => c = .v (.int .i64 r)) := by
  unfold p_slices_Index_int_int at hF
  refine AC.mk (nt := 19) Tryd.func74 A A A fun w N => ?_
  refine w_seq (w_region (by rfl) (dv1 (l_assign (.v _)) (dvE (q_seq ?_))))
  obtain ⟨s1, hF, hG2⟩ := bindE hF
  refine w_seqE s1 (fun (s3012 : Unit) => ⟨[], [], 1⟩) ?_ (fun s3012 e3013 => ?_)
  · refine w_seq (w_region (by rfl) (dv1 (l_move (.ro _)) (dv1 (l_lenRo sl29 A A (List.length_map _)) (dv1 (l_move (.v _)) (dvE (q_seq (w_block (w_loopF hF (fun (s3003 : Nat) => ⟨[(0, .ro (.sl 3 1 (a0.map iC))), (1, .v (.int .i64 a1)), (7, .v (.int .i64 ((a0.length : Nat) : Int))), (8, .v (.int .i64 ((s3003 : Nat) : Int)))], [], 1⟩) (le_of [] A (.s (.s (.s (.s .nil A) A) A) A) .nil) ?_))))))))
    intro s3003 y3004 hF hx3005
    refine w_seq (w_region (by rfl) (dv1 (l_bin A A b_lssN) (dvE (q_seq (w_seq ?_)))))
    rcases condE hF with ⟨b3007, hF⟩ | ⟨b3007, hF⟩
    · refine w_lenS 0 A fun l3008 => ?_
      refine w_condT A b3007 ?_
      refine w_skip (q_seq (w_seq (w_block (w_seq (w_region (by rfl) (dv1 (l_move (.v _)) (dv1 (l_assign (.v _)) (dvE ?_))))))))
      refine q_seq (w_seq (w_region (by rfl) (dv1 (l_move (.v _)) (dv1 (l_move (.ro _)) (dv1 (l_move (.v _)) ?_)))))
      obtain ⟨x3009, h3010, hF⟩ := bindE hF
      refine dv1 (l_indexRo s3003 sl29 A A A (map_at h3010)) (dv1 (l_loadRo ty3 A A) (dv1 (l_bin A A b_eql) (dvE (q_seq ?_))))
      rcases condE hF with ⟨b3011, hF⟩ | ⟨b3011, hF⟩
      · refine w_condT A b3011 ?_
        refine w_seq (w_region (by rfl) (dv1 (l_move (.v _)) (dv1 (l_assign (.v _)) (dvE (q_seq (w_ret (q_reI (q_reS ?_))))))))
        refine q_reS (q_reI (q_reS ?_))
        cases hF
        cases hx3005 _ rfl
        have hF := onOut hG2
        cases hF
        refine q_end (.inr A) ?_
        exact ret_ok A (.cons (.tmp (.v _) (.v _)) .nil) (by decide) A
      · refine w_condF A b3011 ?_
        refine w_skip (q_in (q_seq (w_region (by rfl) (dv1 (l_bin A A (b_incN (of_decide_eq_true b3007) l3008)) (dv1 (l_move (.v _)) (dvE ?_))))))
        cases hF
        refine qL A ?_
        exact (le_of [] A (.s (.s (.s (.s .nil A) A) A) A) .nil)
    · refine w_condF A b3007 ?_
      refine w_exit ?_
      cases hF
      cases hx3005 _ rfl
      refine q_exS (q_exS (q_here (qL A ?_)))
      exact (le_of [] A .nil .nil)
  subst e3013
  replace hF := onGo hG2
  refine w_seq (w_region (by rfl) (dv1 (l_assign (.v _)) (dvE (q_seq (w_ret ?_)))))
  cases hF
  refine q_end (.inr A) ?_
  exact ret_ok A (.cons (.tmp (.v _) (.v _)) .nil) (by decide) A

def p_slices_Contains_int_int (a0 : List Int) (a1 : Int) : Option Bool :=
((p_slices_Index_int_int a0 a1).bind fun y1 =>
some (decide ((0 : Int) ≤ y1)))

theorem p_slices_Contains_int_int_ok {r : Bool} : rOk (.v (.bool r)) = true ∧ FrT (.v (.bool r)) := ⟨rfl, (.one (.cl (.v _)))⟩

set_option maxRecDepth 10000 in
set_option maxHeartbeats 4000000 in
theorem p_slices_Contains_int_int_ac {a0 : List Int} {a1 : Int} {r : Bool} (hF : p_slices_Contains_int_int a0 a1 = some r) : AC Tryd.prog GT 65 [.sl 3 1 (a0.map iC), .v (.int .i64 a1)] (fun c => c = .v (.bool r)) := by
  unfold p_slices_Contains_int_int at hF
  refine AC.mk (nt := 9) Tryd.func65 A A A fun w N => ?_
  refine w_seq (w_region (by rfl) (dv1 (l_assign (.v _)) (dvE (q_seq (w_seq (w_region (by rfl) (dv1 (l_move (.ro _)) (dv1 (l_move (.v _)) ?_))))))))
  obtain ⟨y1, h2, hF⟩ := bindE hF
  refine dvC (l_call (B := false) (FnI.mk' (by kernel_rfl)) (.cons (.ro _) (.one (.ro _)) (.cons (.v _) (.one (.v _)) .nil)) (p_slices_Index_int_int_ac h2) (okF p_slices_Index_int_int_ok)) ?_
  rintro _ rfl
  refine dv1 (l_bin A A b_geq) (dv1 (l_assign (.v _)) (dvE (q_seq (w_ret ?_))))
  cases hF
  refine q_end (.inr A) ?_
  exact ret_ok A (.cons (.tmp (.v _) (.v _)) .nil) (by decide) A

def p_cfg_next (a0 : MBlk) : Option ((List Int)) :=
((((p_cfg_targets a0.End).bind fun y4 =>
((p_cfg_targets_1_i y4 (fun (s3007 : (List Int)) (y6 : MTarget) =>
(((p_slices_Contains_int_int s3007 y6.To).bind fun y3009 =>
(bif y3009 then
some (Xt.go s3007)
else
(ck ((s3007.length + 1) * 8 ≤ 140737488355328)
(some (Xt.go (s3007 ++ [y6.To])))))) : Option (Xt ((List Int)) Unit))) []).bind fun z3008 => z3008.on (fun (s3007 : (List Int)) =>
some s3007) (fun _ => none)))).bind fun (s2 : (List Int)) =>
some s2)

theorem p_cfg_next_ok {r : (List Int)} : rOk (.sl 3 1 (r.map iC)) = true ∧ FrT (.sl 3 1 (r.map iC)) := ⟨rfl, (.one (.cl (.sl _ _ (clm k_iC _))))⟩

set_option maxRecDepth 10000 in
set_option maxHeartbeats 4000000 in
theorem p_cfg_next_ac {a0 : MBlk} {r : (List Int)} (hF : p_cfg_next a0 = some r) : AC Tryd.prog GT 48 [.ag (MBlk.ct a0)] (fun c => c = .sl 3 1 (r.map iC)) := by
  unfold p_cfg_next at hF
  refine AC.mk (nt := 20) Tryd.func48 A A A fun w N => ?_
  refine w_seq (w_region (by rfl) (dvN (l_box (.ag _) A A) (dv1 (l_assign (.v _)) (dvE (q_seq (w_seq (w_region (by rfl) (dvN (l_alloc zt29) ?_))))))))
  refine dvE (q_seq ?_)
  obtain ⟨s2, hF, hG3⟩ := bindE hF
  refine w_seqJ ⟨[(3, .ad 0 1 0 0)], [(0, some ⟨29, 1, [[.rf 1 0 ((s2.map iC).length) 1]]⟩), (1, some ⟨3, 1, s2.map iC⟩)], 1⟩ ?_ ?_
  · refine w_seq (w_region (by rfl) (dv1 (l_field fd47_2 A) (dv1 (l_loadA ty45 A A A A A) ?_)))
    obtain ⟨y4, h5, hF⟩ := bindE hF
    refine dvC (l_call (B := false) (FnI.mk' (by kernel_rfl)) (.cons (.ag _) (.ag (.cons (.v _) (.cons (.v _) (.cons (.v _) (.cons (.v _) (.cons (.ro _) (.cons (.ro _) .nil))))))) .nil) (p_cfg_targets_ac h5) (okF p_cfg_targets_ok)) ?_
    rintro _ rfl
    refine dvE (q_seq (w_block ?_))
    obtain ⟨z3008, hG3013, hF⟩ := bindE hF
    refine w_rangeF (jmp := .ret) (t := [(3, .ad 0 1 0 0), (7, .fn (.func 71) [] [.ro (.rp (MEnd.ct y4) 0)])]) (nx := 1) (p_cfg_targets_1_i_ic y4) hG3013 (fun (s3007 : (List Int)) => [(0, some ⟨29, 1, [[.rf 1 0 ((s3007.map iC).length) 1]]⟩), (1, some ⟨3, 1, s3007.map iC⟩)]) (fun (_ : Unit) => []) [0] (fun (s3007 : (List Int)) (y6 : MTarget) => ⟨[(3, .ad 0 1 0 0), (4, .ad 4 2 0 0)], [(0, some ⟨29, 1, [[.rf 3 0 ((s3007.map iC).length) 1]]⟩), (3, some ⟨3, 1, s3007.map iC⟩), (4, some ⟨68, 2, [[.v (.int .i64 y6.To), .ro (.sl 3 1 (y6.L.map iC))]]⟩)], 1⟩) A (FnI.mk' (by kernel_rfl)).run (le_of [(0, some 128), (1, none)] A (.s (.s .nil A) A) (.box A A (.cons (.nil ⟨by simp, A⟩) .nil) (.new ⟨by simp, A⟩ .nil))) A (fun _ => A) (by decide) A A A A (fun _ _ => A) ?_ ?_ ?_ ?_
    · intro l w M N g s3007 y6
      refine w_region (by rfl) (dvN (l_alloc zt68) (dvS (l_store ty68 A (.ag _) A A A (Nat.le_of_ble_eq_true A) A) (dvE (⟨A, ?_⟩))))
      exact (le_of [(0, some 0), (3, some 1), (4, some 64)] A (.s (.s .nil A) A) (.box A A (.s A) (.row A A A (clm k_iC _) (.box A A (.s A) .nil))))
    · intro l w M N g s3007 y6 z_ hF
      refine w_block (w_seq (w_region (by rfl) (dv1 (l_load ty29 A A A A A) (dv1 (l_field fd68_0 A) (dv1 (l_load ty3 A A A A A) ?_)))))
      obtain ⟨y3009, h3010, hF⟩ := bindE hF
      refine dvC (l_call (B := true) (FnI.mk' (by kernel_rfl)) (.cons (.rf _ _ _ _) (.one (.rf A A A (clm k_iC _))) (.cons (.v _) (.one (.v _)) .nil)) (p_slices_Contains_int_int_ac h3010) (okT p_slices_Contains_int_int_ok)) ?_
      rintro _ rfl
      refine dv1 (l_not A) (dvE (q_seq ?_))
      rcases condE hF with ⟨b3011, hF⟩ | ⟨b3011, hF⟩
      · refine w_condF A (nF b3011) ?_
        refine w_skip (q_in ?_)
        cases hF
        refine .inl ⟨A, _, A, ?_⟩
        exact (le_of [(0, some 0), (1, some 3)] A .nil (.box A A (.s A) (.row A A A (clm k_iC _) .nil)))
      · refine w_condT A (nT b3011) ?_
        refine w_region (by rfl) (dv1 (l_load ty29 A A A A A) (dv1 (l_field fd68_0 A) (dv1 (l_load ty3 A A A A A) (dvN (l_bs1 sl29 zt3 A (.v _) A A A (by decide) (by decide)) ?_))))
        obtain ⟨c3012, hF⟩ := ckE hF
        refine dvN3 (l_app1R el29 A A A A A A (by decide) (map_snoc iC _ y6.To) (List.length_map _) (by simpa using c3012) (by decide)) ?_
        refine dvS (l_store ty29 A (.rf _ _ _ _) A A A (Nat.le_of_ble_eq_true A) A) (dvE (q_in ?_))
        cases hF
        refine .inl ⟨A, _, A, ?_⟩
        exact (le_of [(0, some 0), (1, some 640)] A .nil (.box A A (.cons (.rf A (by simp)) .nil) (.row A A A (clm k_iC _) .nil)))
    · intro s3007 hs_
      subst hs_
      replace hF := onGo hF
      cases hF
      refine q_in (q_join ?_)
      exact (le_of [(0, some 0), (1, some 1)] A (.s .nil A) (.box A A (.s A) (.row A A A (clm k_iC _) .nil)))
    · intro o_ hs_
      subst hs_
      exact nomatch onOut hF
  replace hF := hG3
  refine w_seq (w_region (by rfl) (dv1 (l_load ty29 A A A A A) (dv1 (l_assign (.rf _ _ _ _)) (dvE (q_seq (w_ret ?_))))))
  cases hF
  refine q_end (.inr A) ?_
  exact ret_ok A (.cons (.tmp (.rf _ _ _ _) (.rf A A (clm k_iC _))) .nil) (by decide) A

def p_cfg_there (a0 : MFun) (a1 : Int) : Option Bool :=
(((bif decide ((0 : Int) ≤ a1) then
some (decide (a1 < ((a0.Blocks.length : Nat) : Int)))
else
some false)).bind fun (s2 : Bool) =>
some s2)

theorem p_cfg_there_ok {r : Bool} : rOk (.v (.bool r)) = true ∧ FrT (.v (.bool r)) := ⟨rfl, (.one (.cl (.v _)))⟩

set_option maxRecDepth 10000 in
set_option maxHeartbeats 4000000 in
theorem p_cfg_there_ac {a0 : MFun} {a1 : Int} {r : Bool} (hF : p_cfg_there a0 a1 = some r) : AC Tryd.prog GT 49 [.ag (MFun.ct a0), .v (.int .i64 a1)] (fun c => c = .v (.bool r)) := by
  unfold p_cfg_there at hF
  refine AC.mk (nt := 14) Tryd.func49 A A A fun w N => ?_
  refine w_seq (w_region (by rfl) (dvN (l_box (.ag _) A A) (dv1 (l_assign (.v _)) (dvE (q_seq ?_)))))
  obtain ⟨s2, hF, hG3⟩ := bindE hF
  refine w_seqJ ⟨[(4, .v (.bool s2))], [], 1⟩ ?_ ?_
  · refine w_region (by rfl) (dv1 (l_move (.v _)) (dv1 (l_bin A A b_geq) (dv1 (l_move (.v _)) ?_)))
    rcases condE hF with ⟨b4, hF⟩ | ⟨b4, hF⟩
    · refine dv1 (l_gT A A (gt A b4) fun _ => l_move (.v _)) (dv1 (l_gT A A (gt A b4) fun _ => l_field fd33_1 A) (dv1 (l_gT A A (gt A b4) fun _ => l_load ty31 A A A A A) (dv1 (l_gT A A (gt A b4) fun _ => l_lenRo sl31 A A (List.length_map _)) (dv1 (l_gT A A (gt A b4) fun _ => l_bin A A b_lss) (dv1 (l_pickT (gt A b4) (.v _)) (dv1 (l_assign (.v _)) (dvE ?_)))))))
      cases hF
      refine q_join ?_
      exact (le_of [] A (.s .nil A) .nil)
    · refine dv1 (l_gF A A (gt A b4) A) (dv1 (l_gF A A (gt A b4) A) (dv1 (l_gF A A (gt A b4) A) (dv1 (l_gF A A (gt A b4) A) (dv1 (l_gF A A (gt A b4) A) (dv1 (l_pickF (gt A b4) (.v _)) (dv1 (l_assign (.v _)) (dvE ?_)))))))
      cases hF
      refine q_join ?_
      exact (le_of [] A (.s .nil A) .nil)
  replace hF := hG3
  refine w_ret ?_
  cases hF
  refine q_end (.inr A) ?_
  exact ret_ok A (.cons (.tmp (.v _) (.v _)) .nil) (by decide) A

def p_cfg_Ahead (a0 : MFun) : Option ((List (List Int))) :=
(ck (24 * a0.Blocks.length ≤ 140737488355328)
((((loop (fun (s3005 : (List (List Int)) × Nat) =>
(bif decide (s3005.2 < a0.Blocks.length) then
((((a0.Blocks[s3005.2]?).bind fun x3014 =>
((p_cfg_next x3014).bind fun y3016 =>
(loop (fun (s6018 : (List (List Int)) × Nat) =>
(bif decide (s6018.2 < y3016.length) then
((((y3016[s6018.2]?).bind fun x6027 =>
((p_cfg_there a0 x6027).bind fun y6029 =>
(bif y6029 then
((atI s6018.1 x6027).bind fun x6032 =>
(ck ((x6032.length + 1) * 8 ≤ 140737488355328)
(some (s6018.1.set x6027.toNat (x6032 ++ [((s3005.2 : Nat) : Int)])))))
else
some s6018.1)))).bind fun (s6025 : (List (List Int))) =>
some (Xt.go (s6025, (s6018.2 + 1))))
else
some (Xt.out s6018.1))) Fu (s3005.1, 0))))).bind fun (s3012 : (List (List Int))) =>
some (Xt.go (s3012, (s3005.2 + 1))))
else
some (Xt.out s3005.1))) Fu ((List.replicate a0.Blocks.length ([] : List Int)), 0))).bind fun (s3 : (List (List Int))) =>
some s3)))

theorem p_cfg_Ahead_ok {r : (List (List Int))} : rOk (.sl 29 1 (r.map lC_iC)) = true ∧ FrT (.sl 29 1 (r.map lC_iC)) := ⟨rfl, (.one (.cl (.sl _ _ (clm k_lC_iC _))))⟩

set_option maxRecDepth 10000 in
set_option maxHeartbeats 4000000 in
theorem p_cfg_Ahead_ac {a0 : MFun} {r : (List (List Int))} (hF : p_cfg_Ahead a0 = some r) : AC Tryd.prog GT 36 [.ag (MFun.ct a0)] (fun c => c = .sl 29 1 (r.map lC_iC)) := by
  unfold p_cfg_Ahead at hF
  refine AC.mk (nt := 43) Tryd.func36 A A A fun w N => ?_
  refine w_seq (w_region (by rfl) (dvN (l_box (.ag _) A A) (dv1 (l_assign (.v _)) (dvE (q_seq (w_seq (w_region (by rfl) (dv1 (l_field fd33_1 A) ?_))))))))
  refine dv1 (l_load ty31 A A A A A) (dv1 (l_lenRo sl31 A A (List.length_map _)) ?_)
  obtain ⟨c1, hF⟩ := ckE hF
  refine dvN (l_makeR (lC_iC ([] : List Int)) a0.Blocks.length sl71 by29 zt29 A A A A A c1 (by decide) A (by intro j c z h1 h2 w N bs; rcases j with _ | j <;> simp at h1 h2 <;> (subst h1; subst h2; first | exact .v _ | exact .nil)) (rep_map lC_iC _ _)) (dv1 (l_assign (.rf _ _ _ _)) (dvE (q_seq ?_)))
  obtain ⟨s3, hF, hG4⟩ := bindE hF
  refine w_seqJ ⟨[(3, .rf 0 0 ((s3.map lC_iC).length) 1)], [(0, some ⟨29, 1, s3.map lC_iC⟩)], 1⟩ ?_ ?_
  · refine w_seq (w_region (by rfl) (dv1 (l_field fd33_1 A) (dv1 (l_load ty31 A A A A A) (dv1 (l_lenRo sl31 A A (List.length_map _)) (dv1 (l_move (.v _)) (dvE (q_seq (w_block ?_))))))))
    refine w_loopF hF (fun (s3005 : (List (List Int)) × Nat) => ⟨[(1, .ad 0 2 0 0), (3, .rf 1 0 ((s3005.1.map lC_iC).length) 1), (13, .ro (.sl 47 8 (a0.Blocks.map MBlk.ct))), (14, .v (.int .i64 ((a0.Blocks.length : Nat) : Int))), (15, .v (.int .i64 ((s3005.2 : Nat) : Int)))], [(0, some ⟨33, 2, [[.v (.int .i64 a0.Ret), .ro (.sl 47 8 (a0.Blocks.map MBlk.ct))]]⟩), (1, some ⟨29, 1, s3005.1.map lC_iC⟩)], 1⟩) (le_of [(0, some 0), (1, some 320)] A (.s (.s (.s (.s (.s .nil A) A) A) A) A) (.box A A (.s A) (.row A A A (clm k_lC_iC _) .nil))) ?_
    intro s3005 y3006 hF hx3007
    refine w_seq (w_region (by rfl) (dv1 (l_bin A A b_lssN) (dvE (q_seq (w_seq ?_)))))
    rcases condE hF with ⟨b3009, hF⟩ | ⟨b3009, hF⟩
    · refine w_lenS 13 A fun l3010 => ?_
      refine w_condT A b3009 ?_
      refine w_skip (q_seq ?_)
      obtain ⟨s3012, hF, hG3013⟩ := bindE hF
      refine w_seqJ ⟨[(1, .ad 0 2 0 0), (3, .rf 1 0 ((s3012.map lC_iC).length) 1), (13, .ro (.sl 47 8 (a0.Blocks.map MBlk.ct))), (14, .v (.int .i64 ((a0.Blocks.length : Nat) : Int))), (15, .v (.int .i64 ((s3005.2 : Nat) : Int)))], [(0, some ⟨33, 2, [[.v (.int .i64 a0.Ret), .ro (.sl 47 8 (a0.Blocks.map MBlk.ct))]]⟩), (1, some ⟨29, 1, s3012.map lC_iC⟩)], 1⟩ ?_ ?_
      · refine w_block (w_seq (w_region (by rfl) (dv1 (l_move (.v _)) ?_)))
        obtain ⟨x3014, h3015, hF⟩ := bindE hF
        refine dv1 (l_indexRo s3005.2 sl31 A A A (map_at h3015)) (dv1 (l_loadARo ty47 A A) (dvN (l_alloc zt47) (dv1 (l_assign (.v _)) (dvS (l_store ty47 A (.ag _) A A A (Nat.le_of_ble_eq_true A) A) (dvE (q_seq (w_seq (w_region (by rfl) ?_))))))))
        refine dv1 (l_loadA ty47 A A A A A) ?_
        obtain ⟨y3016, h3017, hF⟩ := bindE hF
        refine dvC (l_call (B := false) (FnI.mk' (by kernel_rfl)) (.cons (.ag _) (.ag (.cons (.ro _) (.cons (.ro _) (.cons (.v _) (.cons (.v _) (.cons (.v _) (.cons (.v _) (.cons (.ro _) (.cons (.ro _) .nil))))))))) .nil) (p_cfg_next_ac h3017) (okF p_cfg_next_ok)) ?_
        rintro _ rfl
        refine dv1 (l_lenR sl29 A A (List.length_map _)) (dv1 (l_move (.v _)) (dvE (q_seq (w_block (w_loopF hF (fun (s6018 : (List (List Int)) × Nat) => ⟨[(1, .ad 0 2 0 0), (3, .rf 1 0 ((s6018.1.map lC_iC).length) 1), (4, .v (.int .i64 ((s3005.2 : Nat) : Int))), (13, .ro (.sl 47 8 (a0.Blocks.map MBlk.ct))), (14, .v (.int .i64 ((a0.Blocks.length : Nat) : Int))), (15, .v (.int .i64 ((s3005.2 : Nat) : Int))), (21, .rf 2 0 ((y3016.map iC).length) 1), (22, .v (.int .i64 ((y3016.length : Nat) : Int))), (23, .v (.int .i64 ((s6018.2 : Nat) : Int)))], [(0, some ⟨33, 2, [[.v (.int .i64 a0.Ret), .ro (.sl 47 8 (a0.Blocks.map MBlk.ct))]]⟩), (1, some ⟨29, 1, s6018.1.map lC_iC⟩), (2, some ⟨3, 1, y3016.map iC⟩)], 1⟩) (le_of [(0, some 0), (1, some 1), (2, some 576)] A (.s (.s (.s (.s (.s (.s (.s (.s (.s .nil A) A) A) A) A) A) A) A) A) (.box A A (.s A) (.row A A A (clm k_lC_iC _) (.row A A A (clm k_iC _) .nil)))) ?_)))))
        intro s6018 y6019 hF hx6020
        refine w_seq (w_region (by rfl) (dv1 (l_bin A A b_lssN) (dvE (q_seq (w_seq ?_)))))
        rcases condE hF with ⟨b6022, hF⟩ | ⟨b6022, hF⟩
        · refine w_lenK 2 A fun l6023 => ?_
          refine w_condT A b6022 ?_
          refine w_skip (q_seq ?_)
          obtain ⟨s6025, hF, hG6026⟩ := bindE hF
          refine w_seqJ ⟨[(1, .ad 0 2 0 0), (3, .rf 1 0 ((s6025.map lC_iC).length) 1), (4, .v (.int .i64 ((s3005.2 : Nat) : Int))), (13, .ro (.sl 47 8 (a0.Blocks.map MBlk.ct))), (14, .v (.int .i64 ((a0.Blocks.length : Nat) : Int))), (15, .v (.int .i64 ((s3005.2 : Nat) : Int))), (21, .rf 2 0 ((y3016.map iC).length) 1), (22, .v (.int .i64 ((y3016.length : Nat) : Int))), (23, .v (.int .i64 ((s6018.2 : Nat) : Int)))], [(0, some ⟨33, 2, [[.v (.int .i64 a0.Ret), .ro (.sl 47 8 (a0.Blocks.map MBlk.ct))]]⟩), (1, some ⟨29, 1, s6025.map lC_iC⟩), (2, some ⟨3, 1, y3016.map iC⟩)], 1⟩ ?_ ?_
          · refine w_block (w_seq (w_region (by rfl) ?_))
            obtain ⟨x6027, h6028, hF⟩ := bindE hF
            refine dv1 (l_index s6018.2 sl29 A A A (lt_at iC h6028)) (dv1 (l_load ty3 A A (map_at h6028) A A) (dv1 (l_assign (.v _)) (dvE (q_seq (w_seq (w_region (by rfl) (dv1 (l_loadA ty33 A A A A A) (dv1 (l_move (.v _)) ?_))))))))
            obtain ⟨y6029, h6030, hF⟩ := bindE hF
            refine dvC (l_call (B := false) (FnI.mk' (by kernel_rfl)) (.cons (.ag _) (.ag (.cons (.v _) (.cons (.ro _) .nil))) (.cons (.v _) (.one (.v _)) .nil)) (p_cfg_there_ac h6030) (okF p_cfg_there_ok)) ?_
            rintro _ rfl
            refine dvE (q_seq ?_)
            rcases condE hF with ⟨b6031, hF⟩ | ⟨b6031, hF⟩
            · refine w_condT A b6031 ?_
              refine w_region (by rfl) (dv1 (l_move (.rf _ _ _ _)) (dv1 (l_move (.v _)) (dv1 (l_move (.rf _ _ _ _)) (dv1 (l_move (.v _)) ?_))))
              obtain ⟨x6032, h6033, hF⟩ := bindE hF
              refine dv1 (l_index x6027.toNat sl71 A A (atI_z h6033) (lt_at lC_iC (atI_at h6033))) (dvG (le_open 1 x6027.toNat A (map_at (atI_at h6033)) A) ?_)
              refine dv1 (l_load ty29 A A (set_at (atI_at h6033)) A A) (dv1 (l_move (.v _)) (dvN (l_bs1 sl29 zt3 A (.v _) A A A (by decide) (by decide)) ?_))
              obtain ⟨c6034, hF⟩ := ckE hF
              refine dvN3 (l_app1R el29 A A A A A A (by decide) (map_snoc iC _ ((s3005.2 : Nat) : Int)) (List.length_map _) (by simpa using c6034) (by decide)) ?_
              refine dv1 (l_index x6027.toNat sl71 A A (atI_z h6033) (lt_at lC_iC (atI_at h6033))) (dvS (l_storeR ty29 A (.rf _ _ _ _) A (set_at (atI_at h6033)) A (Nat.le_of_ble_eq_true A) A (List.set_set ..)) (dvE ?_))
              cases hF
              refine q_in (q_join ?_)
              refine St.le.trans (le_closeR 1 x6027.toNat A (set_at (atI_at h6033)) (.cons (.of (.rf A (by simp) (clm k_iC _))) .nil) (by decide) (by decide) A (set_cl lC_iC _ _ _ (x6032 ++ [((s3005.2 : Nat) : Int)]))) ?_
              exact (le_of [(0, some 0), (1, some 1), (2, some 2)] A (.s (.cons (.rf _ _ _ _) (.rf A (by simp)) (.s (.s (.s (.s (.s (.s (.s .nil A) A) A) A) A) A) A)) A) (.box A A (.s A) (.row A A A (clm k_lC_iC _) (.row A A A (clm k_iC _) .nil))))
            · refine w_condF A b6031 ?_
              refine w_skip ?_
              cases hF
              refine q_in (q_join ?_)
              exact (le_of [(0, some 0), (1, some 1), (2, some 2)] A (.s (.s (.s (.s (.s (.s (.s (.s (.s .nil A) A) A) A) A) A) A) A) A) (.box A A (.s A) (.row A A A (clm k_lC_iC _) (.row A A A (clm k_iC _) .nil))))
          replace hF := hG6026
          refine w_region (by rfl) (dv1 (l_bin A A (b_incN (of_decide_eq_true b6022) l6023)) (dv1 (l_move (.v _)) (dvE ?_)))
          cases hF
          refine qL A ?_
          exact (le_of [(0, some 0), (1, some 1), (2, some 2)] A (.s (.s (.s (.s (.s (.s (.s (.s (.s .nil A) A) A) A) A) A) A) A) A) (.box A A (.s A) (.row A A A (clm k_lC_iC _) (.row A A A (clm k_iC _) .nil))))
        · refine w_condF A b6022 ?_
          refine w_exit ?_
          cases hF
          cases hx6020 _ rfl
          refine q_exS (q_exS (q_here (q_in (q_join ?_))))
          exact (le_of [(0, some 0), (1, some 1)] A (.s (.s (.s (.s (.s .nil A) A) A) A) A) (.box A A (.s A) (.row A A A (clm k_lC_iC _) .nil)))
      replace hF := hG3013
      refine w_region (by rfl) (dv1 (l_bin A A (b_incN (of_decide_eq_true b3009) l3010)) (dv1 (l_move (.v _)) (dvE ?_)))
      cases hF
      refine qL A ?_
      exact (le_of [(0, some 0), (1, some 1)] A (.s (.s (.s (.s (.s .nil A) A) A) A) A) (.box A A (.s A) (.row A A A (clm k_lC_iC _) .nil)))
    · refine w_condF A b3009 ?_
      refine w_exit ?_
      cases hF
      cases hx3007 _ rfl
      refine q_exS (q_exS (q_here (q_join ?_)))
      exact (le_of [(0, some 1)] A (.s .nil A) (.row A A A (clm k_lC_iC _) .nil))
  replace hF := hG4
  refine w_seq (w_region (by rfl) (dv1 (l_move (.rf _ _ _ _)) (dv1 (l_assign (.rf _ _ _ _)) (dvE (q_seq (w_ret ?_))))))
  cases hF
  refine q_end (.inr A) ?_
  exact ret_ok A (.cons (.tmp (.rf _ _ _ _) (.rf A A (clm k_lC_iC _))) .nil) (by decide) A

def p_slices_Equal_int_int (a0 : List Int) (a1 : List Int) : Option Bool :=
(bif decide (((a0.length : Nat) : Int) = ((a1.length : Nat) : Int)) then
(((loop (fun (s3004 : Nat) =>
(bif decide (s3004 < a0.length) then
((a0[s3004]?).bind fun x3010 =>
((a1[s3004]?).bind fun x3012 =>
(bif decide (x3010 = x3012) then
some (Xt.go (s3004 + 1))
else
some (Xt.out (Xt.out false)))))
else
some (Xt.out (Xt.go ())))) Fu 0)).bind fun s2 => s2.on (fun (s3015 : Unit) =>
some true)
(fun o3017 => some o3017))
else
some false)

theorem p_slices_Equal_int_int_ok {r : Bool} : rOk (.v (.bool r)) = true ∧ FrT (.v (.bool r)) := ⟨rfl, (.one (.cl (.v _)))⟩

set_option maxRecDepth 10000 in
set_option maxHeartbeats 4000000 in
theorem p_slices_Equal_int_int_ac {a0 : List Int} {a1 : List Int} {r : Bool} (hF : p_slices_Equal_int_int a0 a1 = some r) : AC Tryd.prog GT 50 [.sl 3 1 (a0.map iC), .sl 3 1 (a1.map iC)] (fun c => c = .v (.bool r)) := by
  unfold p_slices_Equal_int_int at hF
  refine AC.mk (nt := 26) Tryd.func50 A A A fun w N => ?_
  refine w_seq (w_region (by rfl) (dv1 (l_assign (.v _)) (dvE (q_seq (w_seq (w_seq (w_region (by rfl) (dv1 (l_move (.ro _)) ?_))))))))
  refine dv1 (l_lenRo sl29 A A (List.length_map _)) (dv1 (l_move (.ro _)) (dv1 (l_lenRo sl29 A A (List.length_map _)) (dv1 (l_bin A A b_neq) (dvE (q_seq ?_)))))
  rcases condE hF with ⟨b1, hF⟩ | ⟨b1, hF⟩
  · refine w_condF A (nF b1) ?_
    refine w_skip (q_seq ?_)
    obtain ⟨s2, hF, hG3⟩ := bindE hF
    refine w_seqE s2 (fun (s3015 : Unit) => ⟨[], [], 1⟩) ?_ (fun s3015 e3016 => ?_)
    · refine w_seq (w_region (by rfl) (dv1 (l_move (.ro _)) (dv1 (l_lenRo sl29 A A (List.length_map _)) (dv1 (l_move (.v _)) (dvE (q_seq (w_block (w_loopF hF (fun (s3004 : Nat) => ⟨[(0, .ro (.sl 3 1 (a0.map iC))), (1, .ro (.sl 3 1 (a1.map iC))), (12, .v (.int .i64 ((a0.length : Nat) : Int))), (13, .v (.int .i64 ((s3004 : Nat) : Int)))], [], 1⟩) (le_of [] A (.s (.s (.s (.s .nil A) A) A) A) .nil) ?_))))))))
      intro s3004 y3005 hF hx3006
      refine w_seq (w_region (by rfl) (dv1 (l_bin A A b_lssN) (dvE (q_seq (w_seq ?_)))))
      rcases condE hF with ⟨b3008, hF⟩ | ⟨b3008, hF⟩
      · refine w_lenS 0 A fun l3009 => ?_
        refine w_condT A b3008 ?_
        refine w_skip (q_seq (w_seq (w_block (w_seq (w_region (by rfl) (dv1 (l_move (.v _)) (dv1 (l_assign (.v _)) (dvE ?_))))))))
        refine q_seq (w_seq (w_draw [[], [], [0, 1], [0, 1, 2], [], [], [4, 5], [4, 5, 6], [0, 1, 2, 3, 4, 5, 6, 7]] [0, 1, 2, 3, 4, 5, 6, 7, 8] (by kernel_rfl) (by rfl) ⟨by decide, by rfl⟩ (by rfl) ?_))
        refine de1 A (l_move (.ro _)) A (de1 A (l_move (.v _)) A ?_)
        obtain ⟨x3010, h3011, hF⟩ := bindE hF
        refine de1 A (l_indexRo s3004 sl29 A A A (map_at h3011)) A (de1 A (l_loadRo ty3 A A) A (de1 A (l_move (.ro _)) A (de1 A (l_move (.v _)) A ?_)))
        obtain ⟨x3012, h3013, hF⟩ := bindE hF
        refine de1 A (l_indexRo s3004 sl29 A A A (map_at h3013)) A (de1 A (l_loadRo ty3 A A) A (de1 A (l_bin A A b_neq) A (ddE (q_seq ?_))))
        rcases condE hF with ⟨b3014, hF⟩ | ⟨b3014, hF⟩
        · refine w_condF A (nF b3014) ?_
          refine w_skip (q_in (q_seq (w_region (by rfl) (dv1 (l_bin A A (b_incN (of_decide_eq_true b3008) l3009)) (dv1 (l_move (.v _)) (dvE ?_))))))
          cases hF
          refine qL A ?_
          exact (le_of [] A (.s (.s (.s (.s .nil A) A) A) A) .nil)
        · refine w_condT A (nT b3014) ?_
          refine w_seq (w_region (by rfl) (dv1 (l_assign (.v _)) (dvE (q_seq (w_ret (q_reI (q_reS (q_reS ?_))))))))
          refine q_reI (q_reS ?_)
          cases hF
          cases hx3006 _ rfl
          have hF := onOut hG3
          cases hF
          refine q_end (.inr A) ?_
          exact ret_ok A (.cons (.tmp (.v _) (.v _)) .nil) (by decide) A
      · refine w_condF A b3008 ?_
        refine w_exit ?_
        cases hF
        cases hx3006 _ rfl
        refine q_exS (q_exS (q_here (qL A ?_)))
        exact (le_of [] A .nil .nil)
    subst e3016
    replace hF := onGo hG3
    refine w_seq (w_region (by rfl) (dv1 (l_assign (.v _)) (dvE (q_seq (w_ret ?_)))))
    cases hF
    refine q_end (.inr A) ?_
    exact ret_ok A (.cons (.tmp (.v _) (.v _)) .nil) (by decide) A
  · refine w_condT A (nT b1) ?_
    refine w_seq (w_region (by rfl) (dv1 (l_assign (.v _)) (dvE (q_seq (w_ret (q_reS ?_))))))
    cases hF
    refine q_end (.inr A) ?_
    exact ret_ok A (.cons (.tmp (.v _) (.v _)) .nil) (by decide) A

def p_tidy_next (a0 : MFun) (a1 : Int) (a2 : List (List Int)) : Option (Int × Bool) :=
(((bif decide (a1 < 0) then
some true
else
some (decide (((a0.Blocks.length : Nat) : Int) ≤ a1)))).bind fun (s2 : Bool) =>
(bif s2 then
some (0, false)
else
((atI a0.Blocks a1).bind fun x6 =>
(((bif decide (x6.End.K = 0) then
(bif decide (x6.End.To ≤ 0) then
some true
else
(bif decide (((a0.Blocks.length : Nat) : Int) ≤ x6.End.To) then
some true
else
some (decide (x6.End.To = a1))))
else
some true)).bind fun (s9 : Bool) =>
(bif s9 then
some (0, false)
else
((((atI a2 x6.End.To).bind fun x18 =>
((p_slices_Equal_int_int x18 [a1]).bind fun y20 =>
(bif y20 then
((atI a0.Blocks x6.End.To).bind fun x23 =>
some (decide (((x6.End.L.length : Nat) : Int) = ((x23.Params.length : Nat) : Int))))
else
some false)))).bind fun (s16 : Bool) =>
some (x6.End.To, s16)))))))

theorem p_tidy_next_ok {r : Int × Bool} : rOk (.tu [.v (.int .i64 r.1), .v (.bool r.2)]) = true ∧ FrT (.tu [.v (.int .i64 r.1), .v (.bool r.2)]) := ⟨rfl, (.tu (by intro c hc; simp only [List.mem_cons, List.not_mem_nil, or_false] at hc; rcases hc with rfl | rfl <;> first | exact (.cl (.v _)) | exact (.cl (.v _))))⟩

set_option maxRecDepth 10000 in
set_option maxHeartbeats 4000000 in
theorem p_tidy_next_ac {a0 : MFun} {a1 : Int} {a2 : List (List Int)} {r : Int × Bool} (hF : p_tidy_next a0 a1 a2 = some r) : AC Tryd.prog GT 37 [.ag (MFun.ct a0), .v (.int .i64 a1), .sl 29 1 (a2.map lC_iC)] (fun c => c = .tu [.v (.int .i64 r.1), .v (.bool r.2)]) := by
  unfold p_tidy_next at hF
  refine AC.mk (nt := 70) Tryd.func37 A A A fun w N => ?_
  refine w_seq (w_region (by rfl) (dvN (l_box (.ag _) A A) (dv1 (l_assign (.v _)) (dv1 (l_assign (.v _)) (dvE (q_seq (w_seq ?_)))))))
  obtain ⟨s2, hF, hG3⟩ := bindE hF
  refine w_seqJ ⟨[(1, .v (.int .i64 a1)), (2, .ro (.sl 29 1 (a2.map lC_iC))), (3, .ad 0 2 0 0), (17, .v (.bool s2))], [(0, some ⟨33, 2, [[.v (.int .i64 a0.Ret), .ro (.sl 47 8 (a0.Blocks.map MBlk.ct))]]⟩)], 1⟩ ?_ ?_
  · refine w_region (by rfl) (dv1 (l_move (.v _)) (dv1 (l_bin A A b_lss) (dv1 (l_move (.v _)) ?_)))
    rcases condE hF with ⟨b4, hF⟩ | ⟨b4, hF⟩
    · refine dv1 (l_gF A A (gt A b4) A) (dv1 (l_gF A A (gt A b4) A) (dv1 (l_gF A A (gt A b4) A) (dv1 (l_gF A A (gt A b4) A) (dv1 (l_gF A A (gt A b4) A) (dv1 (l_pickT (gt A b4) (.v _)) (dvE ?_))))))
      cases hF
      refine q_join ?_
      exact (le_of [(0, some 0)] A (.s (.s (.s (.s .nil A) A) A) A) (.box A A (.s A) .nil))
    · refine dv1 (l_gT A A (gt A b4) fun _ => l_move (.v _)) (dv1 (l_gT A A (gt A b4) fun _ => l_field fd33_1 A) (dv1 (l_gT A A (gt A b4) fun _ => l_load ty31 A A A A A) (dv1 (l_gT A A (gt A b4) fun _ => l_lenRo sl31 A A (List.length_map _)) (dv1 (l_gT A A (gt A b4) fun _ => l_bin A A b_geq) (dv1 (l_pickF (gt A b4) (.v _)) (dvE ?_))))))
      cases hF
      refine q_join ?_
      exact (le_of [(0, some 0)] A (.s (.s (.s (.s .nil A) A) A) A) (.box A A (.s A) .nil))
  replace hF := hG3
  rcases condE hF with ⟨b5, hF⟩ | ⟨b5, hF⟩
  · refine w_condT A b5 ?_
    refine w_seq (w_region (by rfl) (dv1 (l_assign (.v _)) (dv1 (l_assign (.v _)) (dvE (q_seq (w_ret (q_reS ?_)))))))
    cases hF
    refine q_end (.inr A) ?_
    exact ret_ok A (.cons (.tmp (.v _) (.v _)) (.cons (.tmp (.v _) (.v _)) .nil)) (by decide) A
  · refine w_condF A b5 ?_
    refine w_skip (q_seq (w_seq (w_region (by rfl) (dv1 (l_field fd33_1 A) (dv1 (l_load ty31 A A A A A) (dv1 (l_move (.v _)) ?_))))))
    obtain ⟨x6, h7, hF⟩ := bindE hF
    refine dv1 (l_indexRo a1.toNat sl31 A A (atI_z h7) (map_at (atI_at h7))) (dv1 (l_fieldRo fd47_2 A) (dv1 (l_loadARo ty45 A A) (dvN (l_alloc zt45) (dvS (l_store ty45 A (.ag _) A A A (Nat.le_of_ble_eq_true A) A) (dvE (q_seq (w_seq ?_)))))))
    obtain ⟨s9, hF, hG10⟩ := bindE hF
    refine w_seqJ ⟨[(1, .v (.int .i64 a1)), (2, .ro (.sl 29 1 (a2.map lC_iC))), (3, .ad 0 2 0 0), (8, .ad 1 6 0 0), (45, .v (.bool s9))], [(0, some ⟨33, 2, [[.v (.int .i64 a0.Ret), .ro (.sl 47 8 (a0.Blocks.map MBlk.ct))]]⟩), (1, some ⟨45, 6, [[.v (.int .i64 x6.End.K), .v (.int .i64 x6.End.A), .v (.int .i64 x6.End.To), .v (.int .i64 x6.End.Else), .ro (.sl 3 1 (x6.End.L.map iC)), .ro (.sl 3 1 (x6.End.M.map iC))]]⟩)], 1⟩ ?_ ?_
    · refine w_region (by rfl) (dv1 (l_field fd45_0 A) (dv1 (l_load ty3 A A A A A) (dv1 (l_bin A A b_neq) (dv1 (l_move (.v _)) ?_))))
      rcases condE hF with ⟨b11, hF⟩ | ⟨b11, hF⟩
      · refine dv1 (l_gT A A (gt A (nF b11)) fun _ => l_field fd45_2 A) (dv1 (l_gT A A (gt A (nF b11)) fun _ => l_load ty3 A A A A A) (dv1 (l_gT A A (gt A (nF b11)) fun _ => l_bin A A b_leq) (dv1 (l_pickF (gt A (nF b11)) (.v _)) (dv1 (l_move (.v _)) ?_))))
        rcases condE hF with ⟨b12, hF⟩ | ⟨b12, hF⟩
        · refine dv1 (l_gF A A (gt A b12) A) (dv1 (l_gF A A (gt A b12) A) (dv1 (l_gF A A (gt A b12) A) (dv1 (l_gF A A (gt A b12) A) (dv1 (l_gF A A (gt A b12) A) (dv1 (l_gF A A (gt A b12) A) (dv1 (l_pickT (gt A b12) (.v _)) (dv1 (l_move (.v _)) (dv1 (l_gF A A A A) ?_))))))))
          refine dv1 (l_gF A A A A) (dv1 (l_gF A A A A) (dv1 (l_gF A A A A) (dv1 (l_pickT A (.v _)) (dvE ?_))))
          cases hF
          refine q_join ?_
          exact (le_of [(0, some 0), (1, some 448)] A (.s (.s (.s (.s (.s .nil A) A) A) A) A) (.box A A (.s A) (.box A A (.s A) .nil)))
        · refine dv1 (l_gT A A (gt A b12) fun _ => l_field fd45_2 A) (dv1 (l_gT A A (gt A b12) fun _ => l_load ty3 A A A A A) (dv1 (l_gT A A (gt A b12) fun _ => l_field fd33_1 A) (dv1 (l_gT A A (gt A b12) fun _ => l_load ty31 A A A A A) (dv1 (l_gT A A (gt A b12) fun _ => l_lenRo sl31 A A (List.length_map _)) (dv1 (l_gT A A (gt A b12) fun _ => l_bin A A b_geq) (dv1 (l_pickF (gt A b12) (.v _)) (dv1 (l_move (.v _)) ?_)))))))
          rcases condE hF with ⟨b13, hF⟩ | ⟨b13, hF⟩
          · refine dv1 (l_gF A A (gt A b13) A) (dv1 (l_gF A A (gt A b13) A) (dv1 (l_gF A A (gt A b13) A) (dv1 (l_gF A A (gt A b13) A) (dv1 (l_pickT (gt A b13) (.v _)) (dvE ?_)))))
            cases hF
            refine q_join ?_
            exact (le_of [(0, some 0), (1, some 448)] A (.s (.s (.s (.s (.s .nil A) A) A) A) A) (.box A A (.s A) (.box A A (.s A) .nil)))
          · refine dv1 (l_gT A A (gt A b13) fun _ => l_field fd45_2 A) (dv1 (l_gT A A (gt A b13) fun _ => l_load ty3 A A A A A) (dv1 (l_gT A A (gt A b13) fun _ => l_move (.v _)) (dv1 (l_gT A A (gt A b13) fun _ => l_bin A A b_eql) (dv1 (l_pickF (gt A b13) (.v _)) (dvE ?_)))))
            cases hF
            refine q_join ?_
            exact (le_of [(0, some 0), (1, some 448)] A (.s (.s (.s (.s (.s .nil A) A) A) A) A) (.box A A (.s A) (.box A A (.s A) .nil)))
      · refine dv1 (l_gF A A (gt A (nT b11)) A) (dv1 (l_gF A A (gt A (nT b11)) A) (dv1 (l_gF A A (gt A (nT b11)) A) (dv1 (l_pickT (gt A (nT b11)) (.v _)) (dv1 (l_move (.v _)) (dv1 (l_gF A A A A) (dv1 (l_gF A A A A) (dv1 (l_gF A A A A) (dv1 (l_gF A A A A) ?_))))))))
        refine dv1 (l_gF A A A A) (dv1 (l_gF A A A A) (dv1 (l_pickT A (.v _)) (dv1 (l_move (.v _)) (dv1 (l_gF A A A A) (dv1 (l_gF A A A A) (dv1 (l_gF A A A A) (dv1 (l_gF A A A A) (dv1 (l_pickT A (.v _)) ?_))))))))
        refine dvE ?_
        cases hF
        refine q_join ?_
        exact (le_of [(0, some 0), (1, some 448)] A (.s (.s (.s (.s (.s .nil A) A) A) A) A) (.box A A (.s A) (.box A A (.s A) .nil)))
    replace hF := hG10
    rcases condE hF with ⟨b14, hF⟩ | ⟨b14, hF⟩
    · refine w_condT A b14 ?_
      refine w_seq (w_region (by rfl) (dv1 (l_assign (.v _)) (dv1 (l_assign (.v _)) (dvE (q_seq (w_ret (q_reS ?_)))))))
      cases hF
      refine q_end (.inr A) ?_
      exact ret_ok A (.cons (.tmp (.v _) (.v _)) (.cons (.tmp (.v _) (.v _)) .nil)) (by decide) A
    · refine w_condF A b14 ?_
      refine w_skip (q_seq ?_)
      obtain ⟨s16, hF, hG17⟩ := bindE hF
      refine w_seqJ ⟨[(6, .v (.int .i64 x6.End.To)), (7, .v (.bool s16))], [], 1⟩ ?_ ?_
      · refine w_draw [[], [0], [], [], [3], [2, 3, 4], [2, 3, 4, 5], [], [7], [2, 3, 4, 5, 6, 7, 8], [2, 3, 4, 5, 6, 7, 8, 9], [2, 3, 4, 5, 6, 7, 8, 9, 10], [2, 3, 4, 5, 6, 7, 8, 9, 10, 11], [2, 3, 4, 5, 6, 7, 8, 9, 10, 11, 12], [2, 3, 4, 5, 6, 7, 8, 9, 10], [2, 3, 4, 5, 6, 7, 8, 9, 10, 14], [2, 3, 4, 5, 6, 7, 8, 9, 10], [2, 3, 4, 5, 6, 7, 8, 9, 10, 16], [2, 3, 4, 5, 6, 7, 8, 9, 10, 14, 15, 16, 17], [2, 3, 4, 5, 6, 7, 8, 9, 10, 14, 15, 16, 17, 18], [2, 3, 4, 5, 6, 7, 8, 9, 10, 14, 15, 16, 17, 18, 19], [2, 3, 4, 5, 6, 7, 8, 9, 10, 14, 15, 16, 17, 18, 19, 20], [2, 3, 4, 5, 6, 7, 8, 9, 10, 11, 12, 13, 14, 15, 16, 17, 18, 19, 20, 21], [2, 3, 4, 5, 6, 7, 8, 9, 10, 11, 12, 13, 14, 15, 16, 17, 18, 19, 20, 21, 22], [0, 1, 2, 3, 4, 5, 6, 7, 8, 9, 10], [0, 1, 2, 3, 4, 5, 6, 7, 8, 9, 10, 11, 12, 13, 14, 15, 16, 17, 18, 19, 20, 21, 22, 23, 24]] [0, 1, 2, 3, 4, 5, 6, 7, 8, 9, 10, 11, 12, 13, 14, 15, 16, 17, 18, 19, 20, 21, 22, 23, 24, 25] (by kernel_rfl) (by rfl) ⟨by decide, by rfl⟩ (by rfl) ?_
        refine de1 A (l_field fd45_2 A) A (de1 A (l_load ty3 A A A A A) A (de1 A (l_move (.ro _)) A (de1 A (l_field fd45_2 A) A (de1 A (l_load ty3 A A A A A) A ?_))))
        obtain ⟨x18, h19, hF⟩ := bindE hF
        refine de1 A (l_indexRo x6.End.To.toNat sl71 A A (atI_z h19) (map_at (atI_at h19))) A (de1 A (l_loadRo ty29 A A) A (de1 A (l_move (.v _)) A (deN A (l_bs1 sl29 zt3 A (.v _) A A A (by decide) (by decide)) A ?_)))
        obtain ⟨y20, h21, hF⟩ := bindE hF
        refine deC1 A (l_call (B := true) (FnI.mk' (by kernel_rfl)) (.cons (.ro _) (.one (.ro _)) (.cons (.rf _ _ _ _) (.one (.rf A A A (cll k_iC [a1]))) .nil)) (p_slices_Equal_int_int_ac h21) (okT p_slices_Equal_int_int_ok)) A ?_
        refine de1 A (l_move (.v _)) A ?_
        rcases condE hF with ⟨b22, hF⟩ | ⟨b22, hF⟩
        · refine de1 A (l_gT A A (gt A b22) fun _ => l_field fd45_4 A) A (de1 A (l_gT A A (gt A b22) fun _ => l_load ty29 A A A A A) A (de1 A (l_gT A A (gt A b22) fun _ => l_lenRo sl29 A A (List.length_map _)) A (de1 A (l_gT A A (gt A b22) fun _ => l_field fd33_1 A) A (de1 A (l_gT A A (gt A b22) fun _ => l_load ty31 A A A A A) A (de1 A (l_gT A A (gt A b22) fun _ => l_field fd45_2 A) A (de1 A (l_gT A A (gt A b22) fun _ => l_load ty3 A A A A A) A ?_))))))
          obtain ⟨x23, h24, hF⟩ := bindE hF
          refine de1 A (l_gT A A (gt A b22) fun _ => l_indexRo x6.End.To.toNat sl31 A A (atI_z h24) (map_at (atI_at h24))) A (de1 A (l_gT A A (gt A b22) fun _ => l_fieldRo fd47_0 A) A (de1 A (l_gT A A (gt A b22) fun _ => l_loadRo ty29 A A) A (de1 A (l_gT A A (gt A b22) fun _ => l_lenRo sl29 A A (List.length_map _)) A (de1 A (l_gT A A (gt A b22) fun _ => l_bin A A b_eql) A (de1 A (l_pickT (gt A b22) (.v _)) A (de1 A (l_assign (.v _)) A (de1 A (l_assign (.v _)) A (ddE ?_))))))))
          cases hF
          refine q_join ?_
          exact (le_of [] A (.s (.s .nil A) A) .nil)
        · refine de1 A (l_gF A A (gt A b22) A) A (de1 A (l_gF A A (gt A b22) A) A (de1 A (l_gF A A (gt A b22) A) A (de1 A (l_gF A A (gt A b22) A) A (de1 A (l_gF A A (gt A b22) A) A (de1 A (l_gF A A (gt A b22) A) A (de1 A (l_gF A A (gt A b22) A) A (de1 A (l_gF A A (gt A b22) A) A (de1 A (l_gF A A (gt A b22) A) A ?_))))))))
          refine de1 A (l_gF A A (gt A b22) A) A (de1 A (l_gF A A (gt A b22) A) A (de1 A (l_gF A A (gt A b22) A) A (de1 A (l_pickF (gt A b22) (.v _)) A (de1 A (l_assign (.v _)) A (de1 A (l_assign (.v _)) A (ddE ?_))))))
          cases hF
          refine q_join ?_
          exact (le_of [] A (.s (.s .nil A) A) .nil)
      replace hF := hG17
      refine w_ret ?_
      cases hF
      refine q_end (.inr A) ?_
      exact ret_ok A (.cons (.tmp (.v _) (.v _)) (.cons (.tmp (.v _) (.v _)) .nil)) (by decide) A

def p_code_First (a0 : MFun) (a1 : Int) : Option Int :=
((p_code_first a0 a1).bind fun y1 =>
some y1)

theorem p_code_First_ok {r : Int} : rOk (.v (.int .i64 r)) = true ∧ FrT (.v (.int .i64 r)) := ⟨rfl, (.one (.cl (.v _)))⟩

set_option maxRecDepth 10000 in
set_option maxHeartbeats 4000000 in
theorem p_code_First_ac {a0 : MFun} {a1 : Int} {r : Int} (hF : p_code_First a0 a1 = some r) : AC Tryd.prog GT 51 [.ag (MFun.ct a0), .v (.int .i64 a1)] (fun c => c = .v (.int .i64 r)) := by
  unfold p_code_First at hF
  refine AC.mk (nt := 8) Tryd.func51 A A A fun w N => ?_
  refine w_seq (w_region (by rfl) (dvN (l_box (.ag _) A A) (dv1 (l_assign (.v _)) (dvE (q_seq (w_seq (w_region (by rfl) (dv1 (l_loadA ty33 A A A A A) ?_))))))))
  refine dv1 (l_move (.v _)) ?_
  obtain ⟨y1, h2, hF⟩ := bindE hF
  refine dvC (l_call (B := false) (FnI.mk' (by kernel_rfl)) (.cons (.ag _) (.ag (.cons (.v _) (.cons (.ro _) .nil))) (.cons (.v _) (.one (.v _)) .nil)) (p_code_first_ac h2) (okF p_code_first_ok)) ?_
  rintro _ rfl
  refine dv1 (l_assign (.v _)) (dvE (q_seq (w_ret ?_)))
  cases hF
  refine q_end (.inr A) ?_
  exact ret_ok A (.cons (.tmp (.v _) (.v _)) .nil) (by decide) A

def p_kind_Renamed (a0 : MOp) (a1 : List Int) : Option MOp :=
((p_kind_plain a0).bind fun y1 =>
((((p_kind_operands_1_i y1.K y1.L.length (fun (s3010 : Int × Int × Int × (List Int)) (y9 : Nat) =>
((placeC y9
((((bif decide ((0 : Int) ≤ s3010.1) then
some (decide (s3010.1 < ((a1.length : Nat) : Int)))
else
some false)).bind fun (s3013 : Bool) =>
(bif s3013 then
((atI a1 s3010.1).bind fun x3017 =>
some (Xt.go (x3017, s3010.2.1, s3010.2.2.1, s3010.2.2.2)))
else
some (Xt.go (s3010.1, s3010.2.1, s3010.2.2.1, s3010.2.2.2)))))
((((bif decide ((0 : Int) ≤ s3010.2.1) then
some (decide (s3010.2.1 < ((a1.length : Nat) : Int)))
else
some false)).bind fun (s3020 : Bool) =>
(bif s3020 then
((atI a1 s3010.2.1).bind fun x3024 =>
some (Xt.go (s3010.1, x3024, s3010.2.2.1, s3010.2.2.2)))
else
some (Xt.go (s3010.1, s3010.2.1, s3010.2.2.1, s3010.2.2.2)))))
((((bif decide ((0 : Int) ≤ s3010.2.2.1) then
some (decide (s3010.2.2.1 < ((a1.length : Nat) : Int)))
else
some false)).bind fun (s3027 : Bool) =>
(bif s3027 then
((atI a1 s3010.2.2.1).bind fun x3031 =>
some (Xt.go (s3010.1, s3010.2.1, x3031, s3010.2.2.2)))
else
some (Xt.go (s3010.1, s3010.2.1, s3010.2.2.1, s3010.2.2.2)))))
(fun i_ => (ck (i_ < s3010.2.2.2.length)
(((((s3010.2.2.2[i_]?).bind fun x3037 =>
(bif decide ((0 : Int) ≤ x3037) then
some (decide (x3037 < ((a1.length : Nat) : Int)))
else
some false))).bind fun (s3035 : Bool) =>
(bif s3035 then
((s3010.2.2.2[i_]?).bind fun x3041 =>
((atI a1 x3041).bind fun x3043 =>
some (Xt.go (s3010.1, s3010.2.1, s3010.2.2.1, (s3010.2.2.2.set i_ x3043)))))
else
some (Xt.go (s3010.1, s3010.2.1, s3010.2.2.1, s3010.2.2.2)))))))) : Option (Xt (Int × Int × Int × (List Int)) Unit))) (y1.A, y1.B, y1.C, y1.L)).bind fun z3011 => z3011.on (fun (s3010 : Int × Int × Int × (List Int)) =>
some (s3010.1, s3010.2.1, s3010.2.2.1, s3010.2.2.2)) (fun _ => none))).bind fun (s7 : Int × Int × Int × (List Int)) =>
(ck (s7.2.2.2.length = y1.L.length)
(some (⟨y1.K, s7.1, s7.2.1, s7.2.2.1, y1.N, y1.S, s7.2.2.2, y1.Stack⟩ : MOp)))))

theorem p_kind_Renamed_ok {r : MOp} : rOk (.ag (MOp.ct r)) = true ∧ FrT (.ag (MOp.ct r)) := ⟨rfl, (.one (.ag (k_MOpct _)))⟩

set_option maxRecDepth 10000 in
set_option maxHeartbeats 4000000 in
theorem p_kind_Renamed_ac {a0 : MOp} {a1 : List Int} {r : MOp} (hF : p_kind_Renamed a0 a1 = some r) : AC Tryd.prog GT 41 [.ag (MOp.ct a0), .sl 3 1 (a1.map iC)] (fun c => c = .ag (MOp.ct r)) := by
  unfold p_kind_Renamed at hF
  refine AC.mk (nt := 31) Tryd.func41 A A A fun w N => ?_
  refine w_seq (w_region (by rfl) (dvN (l_box (.ag _) A A) (dvN (l_box (.ro _) A A) (dvN (l_alloc zt49) (dvE (q_seq (w_seq (w_region (by rfl) ?_))))))))
  refine dv1 (l_loadA ty49 A A A A A) ?_
  obtain ⟨y1, h2, hF⟩ := bindE hF
  refine dvC (l_call (B := false) (FnI.mk' (by kernel_rfl)) (.cons (.ag _) (.ag (.cons (.v _) (.cons (.v _) (.cons (.v _) (.cons (.v _) (.cons (.v _) (.cons (.v _) (.cons (.ro _) (.cons (.v _) .nil))))))))) .nil) (p_kind_plain_ac h2) (okF p_kind_plain_ok)) ?_
  rintro _ rfl
  refine dvS (l_store ty49 A (.ag _) A A A (Nat.le_of_ble_eq_true A) A) (dvE (q_seq (W.le (S' := ⟨[(2, .ad 0 8 0 0), (3, .ad 2 1 0 0), (4, .ad 3 8 0 0)], [(0, some ⟨49, 8, [[.v (.int .i64 y1.K), .v (.int .i64 y1.A), .v (.int .i64 y1.B), .v (.int .i64 y1.C), .v (.int .i64 y1.N), .v (.string y1.S), .rf 1 0 y1.L.length 1, .v (.bool y1.Stack)]]⟩), (1, some ⟨3, 1, y1.L.map iC⟩), (2, some ⟨29, 1, [[.ro (.sl 3 1 (a1.map iC))]]⟩), (3, some ⟨49, 8, [[.v (.int .i64 0), .v (.int .i64 0), .v (.int .i64 0), .v (.int .i64 0), .v (.int .i64 0), .v (.string ⟨#[]⟩), .v (.slice none 0 0), .v (.bool false)]]⟩)], 1⟩) (le_of [(0, some 0), (1, some 262), (2, some 64), (3, some 128)] A (.s (.s (.s .nil A) A) A) (.box A A (.cons (.v A) (.cons (.v A) (.cons (.v A) (.cons (.v A) (.cons (.v A) (.cons (.v A) (.cons (.rf A (by simp)) (.cons (.v A) .nil)))))))) (.row A A A (clm k_iC _) (.box A A (.s A) (.box A A (.s A) .nil))))) ?_)))
  refine w_reveal 0 A fun g_ o_ c_ => ?_
  refine w_unpk 1 A fun x_ hx_ => ?_
  obtain ⟨s7, hF, hG8⟩ := bindE hF
  refine w_seqJ ⟨[(2, .v (.pointer (some ⟨g_, o_, none⟩))), (4, .ad 6 8 0 0)], [(0, some ⟨49, 8, [[.v (.int .i64 y1.K), .v (.int .i64 s7.1), .v (.int .i64 s7.2.1), .v (.int .i64 s7.2.2.1), .v (.int .i64 y1.N), .v (.string y1.S), .rf 1 0 y1.L.length 1, .v (.bool y1.Stack)]]⟩), (1, some ⟨3, 1, s7.2.2.2.map iC⟩), (6, some ⟨49, 8, [[.v (.int .i64 0), .v (.int .i64 0), .v (.int .i64 0), .v (.int .i64 0), .v (.int .i64 0), .v (.string ⟨#[]⟩), .v (.slice none 0 0), .v (.bool false)]]⟩)], 1⟩ ?_ ?_
  · refine w_seq (w_region (by rfl) (dvG (le_ptr 2 (k := 0) (g := g_) (off := o_) (cap := c_) A (List.mem_cons_of_mem _ List.mem_cons_self) A) ?_))
    refine dvC (l_call (B := false) (FnI.mk' (by kernel_rfl)) (.cons (.v _) (.one (.v _)) .nil) (p_kind_operands_ac (r := ()) A) (okF (p_kind_operands_ok (r := ())))) ?_
    rintro _ rfl
    refine dvE (q_seq (w_block (w_lenK 1 A fun hn_ => ?_)))
    obtain ⟨z3011, hG3045, hF⟩ := bindE hF
    refine w_rangeFP [(1, x_), (0, some (g_, o_, c_))] [(⟨g_, o_, none⟩, .int .i64 y1.K), (⟨g_, o_ + 6, none⟩, hdr x_ y1.L.length)] (jmp := .ret) (t := [(2, .v (.pointer (some ⟨g_, o_, none⟩))), (3, .ad 6 1 0 0), (4, .ad 7 8 0 0), (8, .fn (.func 69) [] [.ro (.rp [.v (.pointer (some ⟨g_, o_, none⟩))] 0)])]) (nx := 1) (p_kind_operands_1_i_ic y1.K y1.L.length g_ o_ x_ (fun h_ => by simpa using hx_ h_) hn_) hG3045 (fun (s3010 : Int × Int × Int × (List Int)) => [(0, some ⟨49, 8, [[.v (.int .i64 y1.K), .v (.int .i64 s3010.1), .v (.int .i64 s3010.2.1), .v (.int .i64 s3010.2.2.1), .v (.int .i64 y1.N), .v (.string y1.S), .rf 1 0 y1.L.length 1, .v (.bool y1.Stack)]]⟩), (1, some ⟨3, 1, s3010.2.2.2.map iC⟩), (6, some ⟨29, 1, [[.ro (.sl 3 1 (a1.map iC))]]⟩), (7, some ⟨49, 8, [[.v (.int .i64 0), .v (.int .i64 0), .v (.int .i64 0), .v (.int .i64 0), .v (.int .i64 0), .v (.string ⟨#[]⟩), .v (.slice none 0 0), .v (.bool false)]]⟩)]) (fun (_ : Unit) => []) [0, 1, 6, 7] (fun (s3010 : Int × Int × Int × (List Int)) (y9 : Nat) => ⟨[(3, .ad 6 1 0 0), (5, .v (.pointer (some (opPl g_ o_ x_ y9))))], [(0, some ⟨49, 8, [[.v (.int .i64 y1.K), .v (.int .i64 s3010.1), .v (.int .i64 s3010.2.1), .v (.int .i64 s3010.2.2.1), .v (.int .i64 y1.N), .v (.string y1.S), .rf 1 0 y1.L.length 1, .v (.bool y1.Stack)]]⟩), (1, some ⟨3, 1, s3010.2.2.2.map iC⟩), (6, some ⟨29, 1, [[.ro (.sl 3 1 (a1.map iC))]]⟩), (7, some ⟨49, 8, [[.v (.int .i64 0), .v (.int .i64 0), .v (.int .i64 0), .v (.int .i64 0), .v (.int .i64 0), .v (.string ⟨#[]⟩), .v (.slice none 0 0), .v (.bool false)]]⟩)], 1⟩) A (FnI.mk' (by kernel_rfl)).run (le_of [(0, some 0), (1, some 1), (6, some 2), (7, some 3)] A (.s (.s (.s (.s .nil A) A) A) A) (.box A A (.s A) (.row A A A (clm k_iC _) (.box A A (.s A) (.box A A (.s A) .nil))))) A (fun _ => A) (by decide) A A A A A (fun _ _ => A) ?_ ?_ ?_ ?_ ?_
    · intro l w M N f_ s3010 y9 hf_
      refine w_region (by rfl) (dv1 (l_assign (.v _)) (dvE (⟨A, ?_⟩)))
      exact (le_of [(0, some 0), (1, some 1), (6, some 6), (7, some 7)] A (.s (.s .nil A) A) (.box A A (.s A) (.row A A A (clm k_iC _) (.box A A (.s A) (.box A A (.s A) .nil)))))
    · intro l w M N f_ s3010 y9 z_ hf_ hF
      obtain rfl | rfl | rfl | ⟨i_, rfl⟩ := plC4 y9
      · replace hF := pl0 hF
        refine W.le (le_ad 5 (k := 0) (sz := 8) (i := 0) (o := 1) (g := g_) (off := o_) (cap := c_) A (pk_of hf_ (List.mem_cons_of_mem _ List.mem_cons_self) A) A) ?_
        refine w_block ?_
        obtain ⟨s3013, hF, hG3014⟩ := bindE hF
        refine w_seqJ ⟨[(3, .ad 6 1 0 0), (5, .ad 0 8 0 1), (21, .v (.bool s3013))], [(0, some ⟨49, 8, [[.v (.int .i64 y1.K), .v (.int .i64 s3010.1), .v (.int .i64 s3010.2.1), .v (.int .i64 s3010.2.2.1), .v (.int .i64 y1.N), .v (.string y1.S), .rf 1 0 y1.L.length 1, .v (.bool y1.Stack)]]⟩), (1, some ⟨3, 1, s3010.2.2.2.map iC⟩), (6, some ⟨29, 1, [[.ro (.sl 3 1 (a1.map iC))]]⟩), (7, some ⟨49, 8, [[.v (.int .i64 0), .v (.int .i64 0), .v (.int .i64 0), .v (.int .i64 0), .v (.int .i64 0), .v (.string ⟨#[]⟩), .v (.slice none 0 0), .v (.bool false)]]⟩)], 1⟩ ?_ ?_
        · refine w_draw [[], [0], [0, 1], [0, 1, 2], [0, 1, 2, 3], [0, 1, 2, 3, 4], [0, 1, 2, 3, 4, 5], [0, 1, 2, 3, 4, 5, 6], [0, 1, 2, 3, 4], [0, 1, 2, 3, 4, 8], [0, 1, 2, 3, 4, 5, 6, 7, 8, 9], [0, 1, 2, 3, 4, 5, 6, 7, 8, 9, 10]] [0, 1, 2, 3, 4, 5, 6, 7, 8, 9, 10, 11] (by kernel_rfl) (by rfl) ⟨by decide, by rfl⟩ (by rfl) ?_
          refine de1 A (l_move (.ad _ _ _ _)) A (de1 A (l_nil A) A (de1 A (l_load ty3 A A A A A) A (de1 A (l_bin A A b_geq) A (de1 A (l_move (.v _)) A ?_))))
          rcases condE hF with ⟨b3015, hF⟩ | ⟨b3015, hF⟩
          · refine de1 A (l_gT A A (gt A b3015) fun _ => l_move (.ad _ _ _ _)) A (de1 A (l_gT A A (gt A b3015) fun _ => l_nil A) A (de1 A (l_gT A A (gt A b3015) fun _ => l_load ty3 A A A A A) A (de1 A (l_gT A A (gt A b3015) fun _ => l_load ty29 A A A A A) A (de1 A (l_gT A A (gt A b3015) fun _ => l_lenRo sl29 A A (List.length_map _)) A (de1 A (l_gT A A (gt A b3015) fun _ => l_bin A A b_lss) A (de1 A (l_pickT (gt A b3015) (.v _)) A (ddE ?_)))))))
            cases hF
            refine q_join ?_
            exact (le_of [(0, some 0), (1, some 1), (6, some 6), (7, some 7)] A (.s (.s (.s .nil A) A) A) (.box A A (.s A) (.row A A A (clm k_iC _) (.box A A (.s A) (.box A A (.s A) .nil)))))
          · refine de1 A (l_gF A A (gt A b3015) A) A (de1 A (l_gF A A (gt A b3015) A) A (de1 A (l_gF A A (gt A b3015) A) A (de1 A (l_gF A A (gt A b3015) A) A (de1 A (l_gF A A (gt A b3015) A) A (de1 A (l_gF A A (gt A b3015) A) A (de1 A (l_pickF (gt A b3015) (.v _)) A (ddE ?_)))))))
            cases hF
            refine q_join ?_
            exact (le_of [(0, some 0), (1, some 1), (6, some 6), (7, some 7)] A (.s (.s (.s .nil A) A) A) (.box A A (.s A) (.row A A A (clm k_iC _) (.box A A (.s A) (.box A A (.s A) .nil)))))
        replace hF := hG3014
        rcases condE hF with ⟨b3016, hF⟩ | ⟨b3016, hF⟩
        · refine w_condT A b3016 ?_
          refine w_draw [[], [], [], [2], [2, 3], [1, 2, 3, 4], [1, 2, 3, 4, 5], [0, 1, 2, 3, 4, 5, 6], [0, 1, 2, 3, 4, 5, 6, 7]] [0, 1, 2, 3, 4, 5, 6, 7, 8] (by kernel_rfl) (by rfl) ⟨by decide, by rfl⟩ (by rfl) ?_
          refine de1 A (l_move (.ad _ _ _ _)) A (de1 A (l_load ty29 A A A A A) A (de1 A (l_move (.ad _ _ _ _)) A (de1 A (l_nil A) A (de1 A (l_load ty3 A A A A A) A ?_))))
          obtain ⟨x3017, h3018, hF⟩ := bindE hF
          refine de1 A (l_indexRo s3010.1.toNat sl29 A A (atI_z h3018) (map_at (atI_at h3018))) A (de1 A (l_loadRo ty3 A A) A (de1 A (l_nil A) A (deS A (l_store ty3 A (.v _) A A A (Nat.le_of_ble_eq_true A) A) A (ddE (q_in ?_)))))
          cases hF
          refine .inl ⟨A, _, A, ?_⟩
          exact (le_of [(0, some 0), (1, some 1), (6, some 6), (7, some 7)] A .nil (.box A A (.s A) (.row A A A (clm k_iC _) (.box A A (.s A) (.box A A (.s A) .nil)))))
        · refine w_condF A b3016 ?_
          refine w_skip (q_in ?_)
          cases hF
          refine .inl ⟨A, _, A, ?_⟩
          exact (le_of [(0, some 0), (1, some 1), (6, some 6), (7, some 7)] A .nil (.box A A (.s A) (.row A A A (clm k_iC _) (.box A A (.s A) (.box A A (.s A) .nil)))))
      · replace hF := pl1 hF
        refine W.le (le_ad 5 (k := 0) (sz := 8) (i := 0) (o := 2) (g := g_) (off := o_) (cap := c_) A (pk_of hf_ (List.mem_cons_of_mem _ List.mem_cons_self) A) A) ?_
        refine w_block ?_
        obtain ⟨s3020, hF, hG3021⟩ := bindE hF
        refine w_seqJ ⟨[(3, .ad 6 1 0 0), (5, .ad 0 8 0 2), (21, .v (.bool s3020))], [(0, some ⟨49, 8, [[.v (.int .i64 y1.K), .v (.int .i64 s3010.1), .v (.int .i64 s3010.2.1), .v (.int .i64 s3010.2.2.1), .v (.int .i64 y1.N), .v (.string y1.S), .rf 1 0 y1.L.length 1, .v (.bool y1.Stack)]]⟩), (1, some ⟨3, 1, s3010.2.2.2.map iC⟩), (6, some ⟨29, 1, [[.ro (.sl 3 1 (a1.map iC))]]⟩), (7, some ⟨49, 8, [[.v (.int .i64 0), .v (.int .i64 0), .v (.int .i64 0), .v (.int .i64 0), .v (.int .i64 0), .v (.string ⟨#[]⟩), .v (.slice none 0 0), .v (.bool false)]]⟩)], 1⟩ ?_ ?_
        · refine w_draw [[], [0], [0, 1], [0, 1, 2], [0, 1, 2, 3], [0, 1, 2, 3, 4], [0, 1, 2, 3, 4, 5], [0, 1, 2, 3, 4, 5, 6], [0, 1, 2, 3, 4], [0, 1, 2, 3, 4, 8], [0, 1, 2, 3, 4, 5, 6, 7, 8, 9], [0, 1, 2, 3, 4, 5, 6, 7, 8, 9, 10]] [0, 1, 2, 3, 4, 5, 6, 7, 8, 9, 10, 11] (by kernel_rfl) (by rfl) ⟨by decide, by rfl⟩ (by rfl) ?_
          refine de1 A (l_move (.ad _ _ _ _)) A (de1 A (l_nil A) A (de1 A (l_load ty3 A A A A A) A (de1 A (l_bin A A b_geq) A (de1 A (l_move (.v _)) A ?_))))
          rcases condE hF with ⟨b3022, hF⟩ | ⟨b3022, hF⟩
          · refine de1 A (l_gT A A (gt A b3022) fun _ => l_move (.ad _ _ _ _)) A (de1 A (l_gT A A (gt A b3022) fun _ => l_nil A) A (de1 A (l_gT A A (gt A b3022) fun _ => l_load ty3 A A A A A) A (de1 A (l_gT A A (gt A b3022) fun _ => l_load ty29 A A A A A) A (de1 A (l_gT A A (gt A b3022) fun _ => l_lenRo sl29 A A (List.length_map _)) A (de1 A (l_gT A A (gt A b3022) fun _ => l_bin A A b_lss) A (de1 A (l_pickT (gt A b3022) (.v _)) A (ddE ?_)))))))
            cases hF
            refine q_join ?_
            exact (le_of [(0, some 0), (1, some 1), (6, some 6), (7, some 7)] A (.s (.s (.s .nil A) A) A) (.box A A (.s A) (.row A A A (clm k_iC _) (.box A A (.s A) (.box A A (.s A) .nil)))))
          · refine de1 A (l_gF A A (gt A b3022) A) A (de1 A (l_gF A A (gt A b3022) A) A (de1 A (l_gF A A (gt A b3022) A) A (de1 A (l_gF A A (gt A b3022) A) A (de1 A (l_gF A A (gt A b3022) A) A (de1 A (l_gF A A (gt A b3022) A) A (de1 A (l_pickF (gt A b3022) (.v _)) A (ddE ?_)))))))
            cases hF
            refine q_join ?_
            exact (le_of [(0, some 0), (1, some 1), (6, some 6), (7, some 7)] A (.s (.s (.s .nil A) A) A) (.box A A (.s A) (.row A A A (clm k_iC _) (.box A A (.s A) (.box A A (.s A) .nil)))))
        replace hF := hG3021
        rcases condE hF with ⟨b3023, hF⟩ | ⟨b3023, hF⟩
        · refine w_condT A b3023 ?_
          refine w_draw [[], [], [], [2], [2, 3], [1, 2, 3, 4], [1, 2, 3, 4, 5], [0, 1, 2, 3, 4, 5, 6], [0, 1, 2, 3, 4, 5, 6, 7]] [0, 1, 2, 3, 4, 5, 6, 7, 8] (by kernel_rfl) (by rfl) ⟨by decide, by rfl⟩ (by rfl) ?_
          refine de1 A (l_move (.ad _ _ _ _)) A (de1 A (l_load ty29 A A A A A) A (de1 A (l_move (.ad _ _ _ _)) A (de1 A (l_nil A) A (de1 A (l_load ty3 A A A A A) A ?_))))
          obtain ⟨x3024, h3025, hF⟩ := bindE hF
          refine de1 A (l_indexRo s3010.2.1.toNat sl29 A A (atI_z h3025) (map_at (atI_at h3025))) A (de1 A (l_loadRo ty3 A A) A (de1 A (l_nil A) A (deS A (l_store ty3 A (.v _) A A A (Nat.le_of_ble_eq_true A) A) A (ddE (q_in ?_)))))
          cases hF
          refine .inl ⟨A, _, A, ?_⟩
          exact (le_of [(0, some 0), (1, some 1), (6, some 6), (7, some 7)] A .nil (.box A A (.s A) (.row A A A (clm k_iC _) (.box A A (.s A) (.box A A (.s A) .nil)))))
        · refine w_condF A b3023 ?_
          refine w_skip (q_in ?_)
          cases hF
          refine .inl ⟨A, _, A, ?_⟩
          exact (le_of [(0, some 0), (1, some 1), (6, some 6), (7, some 7)] A .nil (.box A A (.s A) (.row A A A (clm k_iC _) (.box A A (.s A) (.box A A (.s A) .nil)))))
      · replace hF := pl2 hF
        refine W.le (le_ad 5 (k := 0) (sz := 8) (i := 0) (o := 3) (g := g_) (off := o_) (cap := c_) A (pk_of hf_ (List.mem_cons_of_mem _ List.mem_cons_self) A) A) ?_
        refine w_block ?_
        obtain ⟨s3027, hF, hG3028⟩ := bindE hF
        refine w_seqJ ⟨[(3, .ad 6 1 0 0), (5, .ad 0 8 0 3), (21, .v (.bool s3027))], [(0, some ⟨49, 8, [[.v (.int .i64 y1.K), .v (.int .i64 s3010.1), .v (.int .i64 s3010.2.1), .v (.int .i64 s3010.2.2.1), .v (.int .i64 y1.N), .v (.string y1.S), .rf 1 0 y1.L.length 1, .v (.bool y1.Stack)]]⟩), (1, some ⟨3, 1, s3010.2.2.2.map iC⟩), (6, some ⟨29, 1, [[.ro (.sl 3 1 (a1.map iC))]]⟩), (7, some ⟨49, 8, [[.v (.int .i64 0), .v (.int .i64 0), .v (.int .i64 0), .v (.int .i64 0), .v (.int .i64 0), .v (.string ⟨#[]⟩), .v (.slice none 0 0), .v (.bool false)]]⟩)], 1⟩ ?_ ?_
        · refine w_draw [[], [0], [0, 1], [0, 1, 2], [0, 1, 2, 3], [0, 1, 2, 3, 4], [0, 1, 2, 3, 4, 5], [0, 1, 2, 3, 4, 5, 6], [0, 1, 2, 3, 4], [0, 1, 2, 3, 4, 8], [0, 1, 2, 3, 4, 5, 6, 7, 8, 9], [0, 1, 2, 3, 4, 5, 6, 7, 8, 9, 10]] [0, 1, 2, 3, 4, 5, 6, 7, 8, 9, 10, 11] (by kernel_rfl) (by rfl) ⟨by decide, by rfl⟩ (by rfl) ?_
          refine de1 A (l_move (.ad _ _ _ _)) A (de1 A (l_nil A) A (de1 A (l_load ty3 A A A A A) A (de1 A (l_bin A A b_geq) A (de1 A (l_move (.v _)) A ?_))))
          rcases condE hF with ⟨b3029, hF⟩ | ⟨b3029, hF⟩
          · refine de1 A (l_gT A A (gt A b3029) fun _ => l_move (.ad _ _ _ _)) A (de1 A (l_gT A A (gt A b3029) fun _ => l_nil A) A (de1 A (l_gT A A (gt A b3029) fun _ => l_load ty3 A A A A A) A (de1 A (l_gT A A (gt A b3029) fun _ => l_load ty29 A A A A A) A (de1 A (l_gT A A (gt A b3029) fun _ => l_lenRo sl29 A A (List.length_map _)) A (de1 A (l_gT A A (gt A b3029) fun _ => l_bin A A b_lss) A (de1 A (l_pickT (gt A b3029) (.v _)) A (ddE ?_)))))))
            cases hF
            refine q_join ?_
            exact (le_of [(0, some 0), (1, some 1), (6, some 6), (7, some 7)] A (.s (.s (.s .nil A) A) A) (.box A A (.s A) (.row A A A (clm k_iC _) (.box A A (.s A) (.box A A (.s A) .nil)))))
          · refine de1 A (l_gF A A (gt A b3029) A) A (de1 A (l_gF A A (gt A b3029) A) A (de1 A (l_gF A A (gt A b3029) A) A (de1 A (l_gF A A (gt A b3029) A) A (de1 A (l_gF A A (gt A b3029) A) A (de1 A (l_gF A A (gt A b3029) A) A (de1 A (l_pickF (gt A b3029) (.v _)) A (ddE ?_)))))))
            cases hF
            refine q_join ?_
            exact (le_of [(0, some 0), (1, some 1), (6, some 6), (7, some 7)] A (.s (.s (.s .nil A) A) A) (.box A A (.s A) (.row A A A (clm k_iC _) (.box A A (.s A) (.box A A (.s A) .nil)))))
        replace hF := hG3028
        rcases condE hF with ⟨b3030, hF⟩ | ⟨b3030, hF⟩
        · refine w_condT A b3030 ?_
          refine w_draw [[], [], [], [2], [2, 3], [1, 2, 3, 4], [1, 2, 3, 4, 5], [0, 1, 2, 3, 4, 5, 6], [0, 1, 2, 3, 4, 5, 6, 7]] [0, 1, 2, 3, 4, 5, 6, 7, 8] (by kernel_rfl) (by rfl) ⟨by decide, by rfl⟩ (by rfl) ?_
          refine de1 A (l_move (.ad _ _ _ _)) A (de1 A (l_load ty29 A A A A A) A (de1 A (l_move (.ad _ _ _ _)) A (de1 A (l_nil A) A (de1 A (l_load ty3 A A A A A) A ?_))))
          obtain ⟨x3031, h3032, hF⟩ := bindE hF
          refine de1 A (l_indexRo s3010.2.2.1.toNat sl29 A A (atI_z h3032) (map_at (atI_at h3032))) A (de1 A (l_loadRo ty3 A A) A (de1 A (l_nil A) A (deS A (l_store ty3 A (.v _) A A A (Nat.le_of_ble_eq_true A) A) A (ddE (q_in ?_)))))
          cases hF
          refine .inl ⟨A, _, A, ?_⟩
          exact (le_of [(0, some 0), (1, some 1), (6, some 6), (7, some 7)] A .nil (.box A A (.s A) (.row A A A (clm k_iC _) (.box A A (.s A) (.box A A (.s A) .nil)))))
        · refine w_condF A b3030 ?_
          refine w_skip (q_in ?_)
          cases hF
          refine .inl ⟨A, _, A, ?_⟩
          exact (le_of [(0, some 0), (1, some 1), (6, some 6), (7, some 7)] A .nil (.box A A (.s A) (.row A A A (clm k_iC _) (.box A A (.s A) (.box A A (.s A) .nil)))))
      · replace hF := pl3 hF
        obtain ⟨c3033, hF⟩ := ckE hF
        refine W.le (le_adL 5 (k := 1) A (pk_of hf_ (List.mem_cons_self) A) A (by simpa using c3033)) ?_
        refine w_block ?_
        obtain ⟨s3035, hF, hG3036⟩ := bindE hF
        refine w_seqJ ⟨[(3, .ad 6 1 0 0), (5, .ad 1 1 i_ 0), (21, .v (.bool s3035))], [(0, some ⟨49, 8, [[.v (.int .i64 y1.K), .v (.int .i64 s3010.1), .v (.int .i64 s3010.2.1), .v (.int .i64 s3010.2.2.1), .v (.int .i64 y1.N), .v (.string y1.S), .rf 1 0 y1.L.length 1, .v (.bool y1.Stack)]]⟩), (1, some ⟨3, 1, s3010.2.2.2.map iC⟩), (6, some ⟨29, 1, [[.ro (.sl 3 1 (a1.map iC))]]⟩), (7, some ⟨49, 8, [[.v (.int .i64 0), .v (.int .i64 0), .v (.int .i64 0), .v (.int .i64 0), .v (.int .i64 0), .v (.string ⟨#[]⟩), .v (.slice none 0 0), .v (.bool false)]]⟩)], 1⟩ ?_ ?_
        · refine w_draw [[], [0], [0, 1], [0, 1, 2], [0, 1, 2, 3], [0, 1, 2, 3, 4], [0, 1, 2, 3, 4, 5], [0, 1, 2, 3, 4, 5, 6], [0, 1, 2, 3, 4], [0, 1, 2, 3, 4, 8], [0, 1, 2, 3, 4, 5, 6, 7, 8, 9], [0, 1, 2, 3, 4, 5, 6, 7, 8, 9, 10]] [0, 1, 2, 3, 4, 5, 6, 7, 8, 9, 10, 11] (by kernel_rfl) (by rfl) ⟨by decide, by rfl⟩ (by rfl) ?_
          refine de1 A (l_move (.ad _ _ _ _)) A (de1 A (l_nil A) A ?_)
          obtain ⟨x3037, h3038, hF⟩ := bindE hF
          refine de1 A (l_load ty3 A A (map_at h3038) A A) A (de1 A (l_bin A A b_geq) A (de1 A (l_move (.v _)) A ?_))
          rcases condE hF with ⟨b3039, hF⟩ | ⟨b3039, hF⟩
          · refine de1 A (l_gT A A (gt A b3039) fun _ => l_move (.ad _ _ _ _)) A (de1 A (l_gT A A (gt A b3039) fun _ => l_nil A) A (de1 A (l_gT A A (gt A b3039) fun _ => l_load ty3 A A (map_at h3038) A A) A (de1 A (l_gT A A (gt A b3039) fun _ => l_load ty29 A A A A A) A (de1 A (l_gT A A (gt A b3039) fun _ => l_lenRo sl29 A A (List.length_map _)) A (de1 A (l_gT A A (gt A b3039) fun _ => l_bin A A b_lss) A (de1 A (l_pickT (gt A b3039) (.v _)) A (ddE ?_)))))))
            cases hF
            refine q_join ?_
            exact (le_of [(0, some 0), (1, some 1), (6, some 6), (7, some 7)] A (.s (.s (.s .nil A) A) A) (.box A A (.s A) (.row A A A (clm k_iC _) (.box A A (.s A) (.box A A (.s A) .nil)))))
          · refine de1 A (l_gF A A (gt A b3039) A) A (de1 A (l_gF A A (gt A b3039) A) A (de1 A (l_gF A A (gt A b3039) A) A (de1 A (l_gF A A (gt A b3039) A) A (de1 A (l_gF A A (gt A b3039) A) A (de1 A (l_gF A A (gt A b3039) A) A (de1 A (l_pickF (gt A b3039) (.v _)) A (ddE ?_)))))))
            cases hF
            refine q_join ?_
            exact (le_of [(0, some 0), (1, some 1), (6, some 6), (7, some 7)] A (.s (.s (.s .nil A) A) A) (.box A A (.s A) (.row A A A (clm k_iC _) (.box A A (.s A) (.box A A (.s A) .nil)))))
        replace hF := hG3036
        rcases condE hF with ⟨b3040, hF⟩ | ⟨b3040, hF⟩
        · refine w_condT A b3040 ?_
          refine w_draw [[], [], [], [2], [2, 3], [1, 2, 3, 4], [1, 2, 3, 4, 5], [0, 1, 2, 3, 4, 5, 6], [0, 1, 2, 3, 4, 5, 6, 7]] [0, 1, 2, 3, 4, 5, 6, 7, 8] (by kernel_rfl) (by rfl) ⟨by decide, by rfl⟩ (by rfl) ?_
          refine de1 A (l_move (.ad _ _ _ _)) A (de1 A (l_load ty29 A A A A A) A (de1 A (l_move (.ad _ _ _ _)) A (de1 A (l_nil A) A ?_)))
          obtain ⟨x3041, h3042, hF⟩ := bindE hF
          refine de1 A (l_load ty3 A A (map_at h3042) A A) A ?_
          obtain ⟨x3043, h3044, hF⟩ := bindE hF
          refine de1 A (l_indexRo x3041.toNat sl29 A A (atI_z h3044) (map_at (atI_at h3044))) A (de1 A (l_loadRo ty3 A A) A (de1 A (l_nil A) A (deS A (l_storeR ty3 A (.v _) A (map_at h3042) A (Nat.le_of_ble_eq_true A) A (map_set' iC s3010.2.2.2 i_ x3043)) A (ddE (q_in ?_)))))
          cases hF
          refine .inl ⟨A, _, A, ?_⟩
          exact (le_of [(0, some 0), (1, some 1), (6, some 6), (7, some 7)] A .nil (.box A A (.s A) (.row A A A (clm k_iC _) (.box A A (.s A) (.box A A (.s A) .nil)))))
        · refine w_condF A b3040 ?_
          refine w_skip (q_in ?_)
          cases hF
          refine .inl ⟨A, _, A, ?_⟩
          exact (le_of [(0, some 0), (1, some 1), (6, some 6), (7, some 7)] A .nil (.box A A (.s A) (.row A A A (clm k_iC _) (.box A A (.s A) (.box A A (.s A) .nil)))))
    · intro bs_ s_ X_ U_ a_ w_ N_ FP_ hI_ hp_
      exact rd_op hI_ (hp_ _ (List.mem_cons_of_mem _ List.mem_cons_self)) A A A (hp_ _ List.mem_cons_self)
    · intro s3010 hs_
      subst hs_
      replace hF := onGo hF
      cases hF
      refine q_in (q_join ?_)
      exact (le_of [(0, some 0), (1, some 1), (6, some 7)] A (.s (.s .nil A) A) (.box A A (.s A) (.row A A A (clm k_iC _) (.box A A (.s A) .nil))))
    · intro o_ hs_
      subst hs_
      exact nomatch onOut hF
  replace hF := hG8
  refine w_seq (W.le (le_ad 2 (k := 0) (sz := 8) (i := 0) (o := 0) (g := g_) (off := o_) (cap := c_) A (List.mem_cons_of_mem _ List.mem_cons_self) A) ?_)
  obtain ⟨c3046, hF⟩ := ckE hF
  refine w_region (by rfl) (dv1 (l_loadA ty49 A A A A A) (dvS (l_store ty49 A (.ag _) A A A (Nat.le_of_ble_eq_true A) A) (dvE (q_seq (w_ret ?_)))))
  cases hF
  refine q_end (.inr A) ?_
  exact ret_ok A (.cons (.cellA ty49 A A A (.cons (.of (.v _)) (.cons (.of (.v _)) (.cons (.of (.v _)) (.cons (.of (.v _)) (.cons (.of (.v _)) (.cons (.of (.v _)) (.cons (.of (.rf A ((List.length_map _).trans c3046) (clm k_iC _))) (.cons (.of (.v _)) .nil))))))))) .nil) (by decide) A
end Go.Proofs.YtpeafglbhjjbhaaDoor

