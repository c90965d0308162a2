/- Functions (printed by wip/auto/am.py). -/
import Derived.Test.YtbebdcpakjfgdaaDoorFB
import Derived.Test.YtbebdcpakjfgdaaDoorFD
import Derived.Test.YtbebdcpakjfgdaaDoorFE
import Derived.Test.YtbebdcpakjfgdaaDoorFF
import Derived.Test.YtbebdcpakjfgdaaDoorFH
import Derived.Test.YtbebdcpakjfgdaaDoorFI
import Derived.Test.YtbebdcpakjfgdaaDoorFJ
import Derived.Test.YtbebdcpakjfgdaaDoorFM
import Derived.Test.YtbebdcpakjfgdaaDoorFN
namespace Go.Proofs.YtbebdcpakjfgdaaDoor
open Go Go.RowKit

def p_R05_Small (a0 : Option MPrg) (a1 : Int) : Option Bool :=
(optC a0
(some true)
(fun p1 =>
(((loop (fun (s3005 : Int × Int) =>
(((bif decide (s3005.2 < ((p1.Sigs.length : Nat) : Int)) then
some (decide (s3005.1 ≤ a1))
else
some false)).bind fun (s3010 : Bool) =>
(bif s3010 then
((atI p1.Sigs s3005.2).bind fun x3014 =>
some (Xt.go (IntKind.i64.wrap (s3005.1 + ((x3014.Params.length : Nat) : Int)), IntKind.i64.wrap (s3005.2 + 1))))
else
some (Xt.out s3005.1)))) Fu (IntKind.i64.wrap (IntKind.i64.wrap (((p1.Sigs.length : Nat) : Int) + ((p1.Classes.length : Nat) : Int)) + ((p1.Funcs.length : Nat) : Int)), 0))).bind fun (s3 : Int) =>
(((loop (fun (s6019 : Int × Int) =>
(((bif decide (s6019.2 < ((p1.Classes.length : Nat) : Int)) then
some (decide (s6019.1 ≤ a1))
else
some false)).bind fun (s6024 : Bool) =>
(bif s6024 then
((atI p1.Classes s6019.2).bind fun x6028 =>
some (Xt.go (IntKind.i64.wrap (IntKind.i64.wrap (s6019.1 + ((x6028.Fields.length : Nat) : Int)) + ((x6028.Methods.length : Nat) : Int)), IntKind.i64.wrap (s6019.2 + 1))))
else
some (Xt.out s6019.1)))) Fu (s3, 0))).bind fun (s3017 : Int) =>
(((loop (fun (s9033 : Int × Int) =>
(((bif decide (s9033.2 < ((p1.Funcs.length : Nat) : Int)) then
some (decide (s9033.1 ≤ a1))
else
some false)).bind fun (s9038 : Bool) =>
(bif s9038 then
((((atI p1.Funcs s9033.2).bind fun x9045 =>
(loop (fun (s12047 : Int × Int) =>
(((bif decide (s12047.2 < ((x9045.Blocks.length : Nat) : Int)) then
some (decide (s12047.1 ≤ a1))
else
some false)).bind fun (s12052 : Bool) =>
(bif s12052 then
((((atI x9045.Blocks s12047.2).bind fun x12059 =>
(loop (fun (s15061 : Int × Int) =>
(((bif decide (s15061.2 < ((x12059.Ops.length : Nat) : Int)) then
some (decide (s15061.1 ≤ a1))
else
some false)).bind fun (s15066 : Bool) =>
(bif s15066 then
((atI x12059.Ops s15061.2).bind fun x15070 =>
some (Xt.go (IntKind.i64.wrap (IntKind.i64.wrap (s15061.1 + ((x15070.L.length : Nat) : Int)) + IntKind.i64.wrap (Int.tdiv ((x15070.S.size : Nat) : Int) 8)), IntKind.i64.wrap (s15061.2 + 1))))
else
some (Xt.out s15061.1)))) Fu (IntKind.i64.wrap (IntKind.i64.wrap (IntKind.i64.wrap (IntKind.i64.wrap (s12047.1 + ((x12059.Params.length : Nat) : Int)) + ((x12059.Ops.length : Nat) : Int)) + ((x12059.End.L.length : Nat) : Int)) + ((x12059.End.M.length : Nat) : Int)), 0)))).bind fun (s12057 : Int) =>
some (Xt.go (s12057, IntKind.i64.wrap (s12047.2 + 1))))
else
some (Xt.out s12047.1)))) Fu (IntKind.i64.wrap (s9033.1 + ((x9045.Blocks.length : Nat) : Int)), 0)))).bind fun (s9043 : Int) =>
some (Xt.go (s9043, IntKind.i64.wrap (s9033.2 + 1))))
else
some (Xt.out s9033.1)))) Fu (s3017, 0))).bind fun (s6031 : Int) =>
some (decide (s6031 ≤ a1)))))))

theorem p_R05_Small_ok {r : Bool} : rOk (.v (.bool r)) = true ∧ FrT (.v (.bool r)) := ⟨rfl, (.one (.cl (.v _)))⟩

set_option maxRecDepth 10000 in
set_option maxHeartbeats 4000000 in
theorem p_R05_Small_ac {a0 : Option MPrg} {a1 : Int} {r : Bool} (hF : p_R05_Small a0 a1 = some r) : AC Tryd.prog GT 15 [ptC MPrg.ct a0, .v (.int .i64 a1)] (fun c => c = .v (.bool r)) := by
  unfold p_R05_Small at hF
  refine AC.mk (nt := 197) Tryd.func15 rfl rfl rfl fun w N => ?_
  rcases a0 with _ | p1
  · replace hF := optN hF
    refine w_seq (w_region (by rfl) (dv1 (l_assign (.v _)) (dvE (q_seq (w_seq (w_seq (w_region (by rfl) (dv1 (l_move (.v _)) ?_))))))))
    refine dv1 (l_ptrNil (by kernel_rfl) rfl) (dvE (q_seq (w_true rfl (w_seq (w_region (by rfl) (dv1 (l_assign (.v _)) (dvE (q_seq ?_))))))))
    refine w_ret (q_reS ?_)
    cases hF
    refine q_end (.inr rfl) ?_
    exact ret_ok rfl (.cons (.tmp (.v _) (.v _)) .nil) (by decide) rfl
  · replace hF := optS hF
    refine w_seq (w_region (by rfl) (dv1 (l_assign (.v _)) (dvE (q_seq (w_seq (w_seq (w_region (by rfl) (dv1 (l_move (.ro _)) ?_))))))))
    refine dv1 (l_ptrRo (by kernel_rfl) rfl) (dvE (q_seq (w_false rfl (w_skip (q_seq (w_seq (w_draw [[], [0], [0, 1], [0, 1, 2], [0, 1, 2, 3], [], [5], [5, 6], [5, 6, 7], [5, 6, 7, 8], [0, 1, 2, 3, 4, 5, 6, 7, 8, 9], [], [11], [11, 12], [11, 12, 13], [11, 12, 13, 14], [0, 1, 2, 3, 4, 5, 6, 7, 8, 9, 10, 11, 12, 13, 14, 15], [0, 1, 2, 3, 4, 5, 6, 7, 8, 9, 10, 11, 12, 13, 14, 15, 16]] [0, 1, 2, 3, 4, 5, 6, 7, 8, 9, 10, 11, 12, 13, 14, 15, 16, 17] (by kernel_rfl) (by rfl) ⟨by decide, by rfl⟩ (by rfl) ?_)))))))
    refine de1 rfl (l_move (.ro _)) rfl (de1 rfl (l_nilRo rfl) rfl (de1 rfl (l_fieldRo fd26_0 rfl) rfl (de1 rfl (l_loadRo ty22 rfl rfl) rfl (de1 rfl (l_lenRo sl22 rfl rfl (List.length_map _)) rfl (de1 rfl (l_move (.ro _)) rfl (de1 rfl (l_nilRo rfl) rfl (de1 rfl (l_fieldRo fd26_1 rfl) rfl (de1 rfl (l_loadRo ty23 rfl rfl) rfl ?_))))))))
    refine de1 rfl (l_lenRo sl23 rfl rfl (List.length_map _)) rfl (de1 rfl (l_bin rfl rfl (b_add rfl)) rfl (de1 rfl (l_move (.ro _)) rfl (de1 rfl (l_nilRo rfl) rfl (de1 rfl (l_fieldRo fd26_2 rfl) rfl (de1 rfl (l_loadRo ty24 rfl rfl) rfl (de1 rfl (l_lenRo sl24 rfl rfl (List.length_map _)) rfl (de1 rfl (l_bin rfl rfl (b_add rfl)) rfl (de1 rfl (l_assign (.v _)) rfl ?_))))))))
    refine ddE (q_seq ?_)
    obtain ⟨s3, hF, hG4⟩ := bindE hF
    refine w_seqJ ⟨[(0, .ro (.rp (MPrg.ct p1) 0)), (1, .v (.int .i64 a1)), (5, .v (.int .i64 s3)), (64, .un), (65, .un), (66, .un), (99, .un), (100, .un), (101, .un), (128, .un), (129, .un), (130, .un), (170, .un), (171, .un), (172, .un)], [], 1⟩ ?_ ?_
    · refine w_seq (w_region (by rfl) (dv1 (l_assign (.v _)) (dvE (q_seq (w_block (w_loopF hF (fun (s3005 : Int × Int) => ⟨[(0, .ro (.rp (MPrg.ct p1) 0)), (1, .v (.int .i64 a1)), (5, .v (.int .i64 s3005.1)), (6, .v (.int .i64 s3005.2)), (39, .un), (40, .un), (41, .un), (64, .un), (65, .un), (66, .un), (99, .un), (100, .un), (101, .un), (128, .un), (129, .un), (130, .un), (170, .un), (171, .un), (172, .un)], [], 1⟩) (le_of [] rfl (.s (.s (.s (.s (.cons .un (.un _) (.cons .un (.un _) (.cons .un (.un _) (.cons .un (.un _) (.cons .un (.un _) (.cons .un (.un _) (.cons .un (.un _) (.cons .un (.un _) (.cons .un (.un _) (.cons .un (.un _) (.cons .un (.un _) (.cons .un (.un _) (.cons .un (.un _) (.cons .un (.un _) (.cons .un (.un _) .nil))))))))))))))) rfl) rfl) rfl) rfl) .nil) ?_))))))
      intro s3005 y3006 hF hx3007
      refine w_seq ?_
      obtain ⟨s3010, hF, hG3011⟩ := bindE hF
      refine w_seqJ ⟨[(0, .ro (.rp (MPrg.ct p1) 0)), (1, .v (.int .i64 a1)), (5, .v (.int .i64 s3005.1)), (6, .v (.int .i64 s3005.2)), (39, .un), (40, .un), (41, .un), (42, .v (.bool s3010)), (64, .un), (65, .un), (66, .un), (99, .un), (100, .un), (101, .un), (128, .un), (129, .un), (130, .un), (170, .un), (171, .un), (172, .un)], [], 1⟩ ?_ ?_
      · refine w_region (by rfl) (dv1 (l_move (.v _)) (dv1 (l_move (.ro _)) (dv1 (l_nilRo rfl) (dv1 (l_fieldRo fd26_0 rfl) (dv1 (l_loadRo ty22 rfl rfl) (dv1 (l_lenRo sl22 rfl rfl (List.length_map _)) (dv1 (l_bin rfl rfl b_lss) (dv1 (l_move (.v _)) ?_))))))))
        rcases condE hF with ⟨b3012, hF⟩ | ⟨b3012, hF⟩
        · refine dv1 (l_gT rfl rfl (gt rfl b3012) fun _ => l_move (.v _)) (dv1 (l_gT rfl rfl (gt rfl b3012) fun _ => l_move (.v _)) (dv1 (l_gT rfl rfl (gt rfl b3012) fun _ => l_bin rfl rfl b_leq) (dv1 (l_pickT (gt rfl b3012) (.v _)) (dvE ?_))))
          cases hF
          refine q_join ?_
          exact (le_of [] rfl (.s (.s (.s (.s (.cons (.v _) (.un _) (.cons (.v _) (.un _) (.cons (.v _) (.un _) (.s (.cons .un (.un _) (.cons .un (.un _) (.cons .un (.un _) (.cons .un (.un _) (.cons .un (.un _) (.cons .un (.un _) (.cons .un (.un _) (.cons .un (.un _) (.cons .un (.un _) (.cons .un (.un _) (.cons .un (.un _) (.cons .un (.un _) .nil)))))))))))) rfl)))) rfl) rfl) rfl) rfl) .nil)
        · refine dv1 (l_gF rfl rfl (gt rfl b3012) rfl) (dv1 (l_gF rfl rfl (gt rfl b3012) rfl) (dv1 (l_gF rfl rfl (gt rfl b3012) rfl) (dv1 (l_pickF (gt rfl b3012) (.v _)) (dvE ?_))))
          cases hF
          refine q_join ?_
          exact (le_of [] rfl (.s (.s (.s (.s (.cons (.v _) (.un _) (.cons (.v _) (.un _) (.cons (.v _) (.un _) (.s (.cons .un (.un _) (.cons .un (.un _) (.cons .un (.un _) (.cons .un (.un _) (.cons .un (.un _) (.cons .un (.un _) (.cons .un (.un _) (.cons .un (.un _) (.cons .un (.un _) (.cons .un (.un _) (.cons .un (.un _) (.cons .un (.un _) .nil)))))))))))) rfl)))) rfl) rfl) rfl) rfl) .nil)
      replace hF := hG3011
      rcases condE hF with ⟨b3013, hF⟩ | ⟨b3013, hF⟩
      · refine w_condT rfl b3013 ?_
        refine w_skip (q_seq (w_seq (w_block (w_region (by rfl) (dv1 (l_move (.v _)) (dv1 (l_move (.ro _)) (dv1 (l_nilRo rfl) (dv1 (l_fieldRo fd26_0 rfl) ?_))))))))
        refine dv1 (l_loadRo ty22 rfl rfl) (dv1 (l_move (.v _)) ?_)
        obtain ⟨x3014, h3015, hF⟩ := bindE hF
        refine dv1 (l_indexRo s3005.2.toNat sl22 rfl rfl (atI_z h3015) (map_at (atI_at h3015))) (dv1 (l_fieldRo fd64_0 rfl) (dv1 (l_loadRo ty27 rfl rfl) (dv1 (l_lenRo sl27 rfl rfl (List.length_map _)) (dv1 (l_bin rfl rfl (b_add rfl)) (dv1 (l_assign (.v _)) (dvE (q_in (q_seq ?_))))))))
        refine w_region (by rfl) (dv1 (l_move (.v _)) (dv1 (l_bin rfl rfl (b_add rfl)) (dv1 (l_assign (.v _)) (dvE ?_))))
        cases hF
        refine qL rfl ?_
        exact (le_of [] rfl (.s (.s (.s (.s (.cons .un (.un _) (.cons .un (.un _) (.cons .un (.un _) (.cons .un (.un _) (.cons .un (.un _) (.cons .un (.un _) (.cons .un (.un _) (.cons .un (.un _) (.cons .un (.un _) (.cons .un (.un _) (.cons .un (.un _) (.cons .un (.un _) (.cons .un (.un _) (.cons .un (.un _) (.cons .un (.un _) .nil))))))))))))))) rfl) rfl) rfl) rfl) .nil)
      · refine w_condF rfl b3013 ?_
        refine w_exit ?_
        cases hF
        cases hx3007 _ rfl
        refine q_exS (q_exS (q_here (q_join ?_)))
        exact (le_of [] rfl (.s (.s (.s (.cons .un (.un _) (.cons .un (.un _) (.cons .un (.un _) (.cons .un (.un _) (.cons .un (.un _) (.cons .un (.un _) (.cons .un (.un _) (.cons .un (.un _) (.cons .un (.un _) (.cons .un (.un _) (.cons .un (.un _) (.cons .un (.un _) .nil)))))))))))) rfl) rfl) rfl) .nil)
    replace hF := hG4
    obtain ⟨s3017, hF, hG3018⟩ := bindE hF
    refine w_seqJ ⟨[(0, .ro (.rp (MPrg.ct p1) 0)), (1, .v (.int .i64 a1)), (5, .v (.int .i64 s3017)), (99, .un), (100, .un), (101, .un), (128, .un), (129, .un), (130, .un), (170, .un), (171, .un), (172, .un)], [], 1⟩ ?_ ?_
    · refine w_seq (w_region (by rfl) (dv1 (l_assign (.v _)) (dvE (q_seq (w_block (w_loopF hF (fun (s6019 : Int × Int) => ⟨[(0, .ro (.rp (MPrg.ct p1) 0)), (1, .v (.int .i64 a1)), (5, .v (.int .i64 s6019.1)), (7, .v (.int .i64 s6019.2)), (64, .un), (65, .un), (66, .un), (99, .un), (100, .un), (101, .un), (128, .un), (129, .un), (130, .un), (170, .un), (171, .un), (172, .un)], [], 1⟩) (le_of [] rfl (.s (.s (.s (.s (.cons .un (.un _) (.cons .un (.un _) (.cons .un (.un _) (.cons .un (.un _) (.cons .un (.un _) (.cons .un (.un _) (.cons .un (.un _) (.cons .un (.un _) (.cons .un (.un _) (.cons .un (.un _) (.cons .un (.un _) (.cons .un (.un _) .nil)))))))))))) rfl) rfl) rfl) rfl) .nil) ?_))))))
      intro s6019 y6020 hF hx6021
      refine w_seq ?_
      obtain ⟨s6024, hF, hG6025⟩ := bindE hF
      refine w_seqJ ⟨[(0, .ro (.rp (MPrg.ct p1) 0)), (1, .v (.int .i64 a1)), (5, .v (.int .i64 s6019.1)), (7, .v (.int .i64 s6019.2)), (64, .un), (65, .un), (66, .un), (67, .v (.bool s6024)), (99, .un), (100, .un), (101, .un), (128, .un), (129, .un), (130, .un), (170, .un), (171, .un), (172, .un)], [], 1⟩ ?_ ?_
      · refine w_region (by rfl) (dv1 (l_move (.v _)) (dv1 (l_move (.ro _)) (dv1 (l_nilRo rfl) (dv1 (l_fieldRo fd26_1 rfl) (dv1 (l_loadRo ty23 rfl rfl) (dv1 (l_lenRo sl23 rfl rfl (List.length_map _)) (dv1 (l_bin rfl rfl b_lss) (dv1 (l_move (.v _)) ?_))))))))
        rcases condE hF with ⟨b6026, hF⟩ | ⟨b6026, hF⟩
        · refine dv1 (l_gT rfl rfl (gt rfl b6026) fun _ => l_move (.v _)) (dv1 (l_gT rfl rfl (gt rfl b6026) fun _ => l_move (.v _)) (dv1 (l_gT rfl rfl (gt rfl b6026) fun _ => l_bin rfl rfl b_leq) (dv1 (l_pickT (gt rfl b6026) (.v _)) (dvE ?_))))
          cases hF
          refine q_join ?_
          exact (le_of [] rfl (.s (.s (.s (.s (.cons (.v _) (.un _) (.cons (.v _) (.un _) (.cons (.v _) (.un _) (.s (.cons .un (.un _) (.cons .un (.un _) (.cons .un (.un _) (.cons .un (.un _) (.cons .un (.un _) (.cons .un (.un _) (.cons .un (.un _) (.cons .un (.un _) (.cons .un (.un _) .nil))))))))) rfl)))) rfl) rfl) rfl) rfl) .nil)
        · refine dv1 (l_gF rfl rfl (gt rfl b6026) rfl) (dv1 (l_gF rfl rfl (gt rfl b6026) rfl) (dv1 (l_gF rfl rfl (gt rfl b6026) rfl) (dv1 (l_pickF (gt rfl b6026) (.v _)) (dvE ?_))))
          cases hF
          refine q_join ?_
          exact (le_of [] rfl (.s (.s (.s (.s (.cons (.v _) (.un _) (.cons (.v _) (.un _) (.cons (.v _) (.un _) (.s (.cons .un (.un _) (.cons .un (.un _) (.cons .un (.un _) (.cons .un (.un _) (.cons .un (.un _) (.cons .un (.un _) (.cons .un (.un _) (.cons .un (.un _) (.cons .un (.un _) .nil))))))))) rfl)))) rfl) rfl) rfl) rfl) .nil)
      replace hF := hG6025
      rcases condE hF with ⟨b6027, hF⟩ | ⟨b6027, hF⟩
      · refine w_condT rfl b6027 ?_
        refine w_skip (q_seq (w_seq (w_block (w_draw [[], [], [1], [1, 2], [1, 2, 3], [], [1, 2, 3, 4, 5], [1, 2, 3, 4, 5, 6], [1, 2, 3, 4, 5, 6, 7], [1, 2, 3, 4, 5, 6, 7, 8], [0, 1, 2, 3, 4, 5, 6, 7, 8, 9], [], [11], [11, 12], [11, 12, 13], [], [11, 12, 13, 14, 15], [11, 12, 13, 14, 15, 16], [11, 12, 13, 14, 15, 16, 17], [11, 12, 13, 14, 15, 16, 17, 18], [0, 1, 2, 3, 4, 5, 6, 7, 8, 9, 10, 11, 12, 13, 14, 15, 16, 17, 18, 19], [0, 1, 2, 3, 4, 5, 6, 7, 8, 9, 10, 11, 12, 13, 14, 15, 16, 17, 18, 19, 20]] [0, 1, 2, 3, 4, 5, 6, 7, 8, 9, 10, 11, 12, 13, 14, 15, 16, 17, 18, 19, 20, 21] (by kernel_rfl) (by rfl) ⟨by decide, by rfl⟩ (by rfl) ?_))))
        refine de1 rfl (l_move (.v _)) rfl (de1 rfl (l_move (.ro _)) rfl (de1 rfl (l_nilRo rfl) rfl (de1 rfl (l_fieldRo fd26_1 rfl) rfl (de1 rfl (l_loadRo ty23 rfl rfl) rfl (de1 rfl (l_move (.v _)) rfl ?_)))))
        obtain ⟨x6028, h6029, hF⟩ := bindE hF
        refine de1 rfl (l_indexRo s6019.2.toNat sl23 rfl rfl (atI_z h6029) (map_at (atI_at h6029))) rfl (de1 rfl (l_fieldRo fd66_0 rfl) rfl (de1 rfl (l_loadRo ty27 rfl rfl) rfl (de1 rfl (l_lenRo sl27 rfl rfl (List.length_map _)) rfl (de1 rfl (l_bin rfl rfl (b_add rfl)) rfl (de1 rfl (l_move (.ro _)) rfl (de1 rfl (l_nilRo rfl) rfl (de1 rfl (l_fieldRo fd26_1 rfl) rfl (de1 rfl (l_loadRo ty23 rfl rfl) rfl ?_))))))))
        refine de1 rfl (l_move (.v _)) rfl (de1 rfl (l_indexRo s6019.2.toNat sl23 rfl rfl (atI_z h6029) (map_at (atI_at h6029))) rfl (de1 rfl (l_fieldRo fd66_1 rfl) rfl (de1 rfl (l_loadRo ty27 rfl rfl) rfl (de1 rfl (l_lenRo sl27 rfl rfl (List.length_map _)) rfl (de1 rfl (l_bin rfl rfl (b_add rfl)) rfl (de1 rfl (l_assign (.v _)) rfl (ddE (q_in ?_))))))))
        refine q_seq (w_region (by rfl) (dv1 (l_move (.v _)) (dv1 (l_bin rfl rfl (b_add rfl)) (dv1 (l_assign (.v _)) (dvE ?_)))))
        cases hF
        refine qL rfl ?_
        exact (le_of [] rfl (.s (.s (.s (.s (.cons .un (.un _) (.cons .un (.un _) (.cons .un (.un _) (.cons .un (.un _) (.cons .un (.un _) (.cons .un (.un _) (.cons .un (.un _) (.cons .un (.un _) (.cons .un (.un _) (.cons .un (.un _) (.cons .un (.un _) (.cons .un (.un _) .nil)))))))))))) rfl) rfl) rfl) rfl) .nil)
      · refine w_condF rfl b6027 ?_
        refine w_exit ?_
        cases hF
        cases hx6021 _ rfl
        refine q_exS (q_exS (q_here (q_join ?_)))
        exact (le_of [] rfl (.s (.s (.s (.cons .un (.un _) (.cons .un (.un _) (.cons .un (.un _) (.cons .un (.un _) (.cons .un (.un _) (.cons .un (.un _) (.cons .un (.un _) (.cons .un (.un _) (.cons .un (.un _) .nil))))))))) rfl) rfl) rfl) .nil)
    replace hF := hG3018
    obtain ⟨s6031, hF, hG6032⟩ := bindE hF
    refine w_seqJ ⟨[(1, .v (.int .i64 a1)), (5, .v (.int .i64 s6031))], [], 1⟩ ?_ ?_
    · refine w_seq (w_region (by rfl) (dv1 (l_assign (.v _)) (dvE (q_seq (w_block (w_loopF hF (fun (s9033 : Int × Int) => ⟨[(0, .ro (.rp (MPrg.ct p1) 0)), (1, .v (.int .i64 a1)), (5, .v (.int .i64 s9033.1)), (8, .v (.int .i64 s9033.2)), (99, .un), (100, .un), (101, .un), (128, .un), (129, .un), (130, .un), (170, .un), (171, .un), (172, .un)], [], 1⟩) (le_of [] rfl (.s (.s (.s (.s (.cons .un (.un _) (.cons .un (.un _) (.cons .un (.un _) (.cons .un (.un _) (.cons .un (.un _) (.cons .un (.un _) (.cons .un (.un _) (.cons .un (.un _) (.cons .un (.un _) .nil))))))))) rfl) rfl) rfl) rfl) .nil) ?_))))))
      intro s9033 y9034 hF hx9035
      refine w_seq ?_
      obtain ⟨s9038, hF, hG9039⟩ := bindE hF
      refine w_seqJ ⟨[(0, .ro (.rp (MPrg.ct p1) 0)), (1, .v (.int .i64 a1)), (5, .v (.int .i64 s9033.1)), (8, .v (.int .i64 s9033.2)), (99, .un), (100, .un), (101, .un), (102, .v (.bool s9038)), (128, .un), (129, .un), (130, .un), (170, .un), (171, .un), (172, .un)], [], 1⟩ ?_ ?_
      · refine w_region (by rfl) (dv1 (l_move (.v _)) (dv1 (l_move (.ro _)) (dv1 (l_nilRo rfl) (dv1 (l_fieldRo fd26_2 rfl) (dv1 (l_loadRo ty24 rfl rfl) (dv1 (l_lenRo sl24 rfl rfl (List.length_map _)) (dv1 (l_bin rfl rfl b_lss) (dv1 (l_move (.v _)) ?_))))))))
        rcases condE hF with ⟨b9040, hF⟩ | ⟨b9040, hF⟩
        · refine dv1 (l_gT rfl rfl (gt rfl b9040) fun _ => l_move (.v _)) (dv1 (l_gT rfl rfl (gt rfl b9040) fun _ => l_move (.v _)) (dv1 (l_gT rfl rfl (gt rfl b9040) fun _ => l_bin rfl rfl b_leq) (dv1 (l_pickT (gt rfl b9040) (.v _)) (dvE ?_))))
          cases hF
          refine q_join ?_
          exact (le_of [] rfl (.s (.s (.s (.s (.cons (.v _) (.un _) (.cons (.v _) (.un _) (.cons (.v _) (.un _) (.s (.cons .un (.un _) (.cons .un (.un _) (.cons .un (.un _) (.cons .un (.un _) (.cons .un (.un _) (.cons .un (.un _) .nil)))))) rfl)))) rfl) rfl) rfl) rfl) .nil)
        · refine dv1 (l_gF rfl rfl (gt rfl b9040) rfl) (dv1 (l_gF rfl rfl (gt rfl b9040) rfl) (dv1 (l_gF rfl rfl (gt rfl b9040) rfl) (dv1 (l_pickF (gt rfl b9040) (.v _)) (dvE ?_))))
          cases hF
          refine q_join ?_
          exact (le_of [] rfl (.s (.s (.s (.s (.cons (.v _) (.un _) (.cons (.v _) (.un _) (.cons (.v _) (.un _) (.s (.cons .un (.un _) (.cons .un (.un _) (.cons .un (.un _) (.cons .un (.un _) (.cons .un (.un _) (.cons .un (.un _) .nil)))))) rfl)))) rfl) rfl) rfl) rfl) .nil)
      replace hF := hG9039
      rcases condE hF with ⟨b9041, hF⟩ | ⟨b9041, hF⟩
      · refine w_condT rfl b9041 ?_
        refine w_skip (q_seq ?_)
        obtain ⟨s9043, hF, hG9044⟩ := bindE hF
        refine w_seqJ ⟨[(0, .ro (.rp (MPrg.ct p1) 0)), (1, .v (.int .i64 a1)), (5, .v (.int .i64 s9043)), (8, .v (.int .i64 s9033.2)), (99, .un), (100, .un), (101, .un), (128, .un), (129, .un), (130, .un), (170, .un), (171, .un), (172, .un)], [], 1⟩ ?_ ?_
        · refine w_block (w_seq (w_region (by rfl) (dv1 (l_move (.v _)) (dv1 (l_move (.ro _)) (dv1 (l_nilRo rfl) (dv1 (l_fieldRo fd26_2 rfl) (dv1 (l_loadRo ty24 rfl rfl) (dv1 (l_move (.v _)) ?_))))))))
          obtain ⟨x9045, h9046, hF⟩ := bindE hF
          refine dv1 (l_indexRo s9033.2.toNat sl24 rfl rfl (atI_z h9046) (map_at (atI_at h9046))) (dv1 (l_fieldRo fd31_1 rfl) (dv1 (l_loadRo ty29 rfl rfl) (dv1 (l_lenRo sl29 rfl rfl (List.length_map _)) (dv1 (l_bin rfl rfl (b_add rfl)) (dv1 (l_assign (.v _)) (dvE (q_seq (w_seq ?_))))))))
          refine w_region (by rfl) (dv1 (l_assign (.v _)) (dvE (q_seq (w_block (w_loopF hF (fun (s12047 : Int × Int) => ⟨[(0, .ro (.rp (MPrg.ct p1) 0)), (1, .v (.int .i64 a1)), (5, .v (.int .i64 s12047.1)), (8, .v (.int .i64 s9033.2)), (9, .v (.int .i64 s12047.2)), (99, .un), (100, .un), (101, .un), (128, .un), (129, .un), (130, .un), (170, .un), (171, .un), (172, .un)], [], 1⟩) (le_of [] rfl (.s (.s (.s (.s (.s (.cons .un (.un _) (.cons .un (.un _) (.cons .un (.un _) (.cons .un (.un _) (.cons .un (.un _) (.cons .un (.un _) (.cons .un (.un _) (.cons .un (.un _) (.cons .un (.un _) .nil))))))))) rfl) rfl) rfl) rfl) rfl) .nil) ?_)))))
          intro s12047 y12048 hF hx12049
          refine w_seq ?_
          obtain ⟨s12052, hF, hG12053⟩ := bindE hF
          refine w_seqJ ⟨[(0, .ro (.rp (MPrg.ct p1) 0)), (1, .v (.int .i64 a1)), (5, .v (.int .i64 s12047.1)), (8, .v (.int .i64 s9033.2)), (9, .v (.int .i64 s12047.2)), (99, .un), (100, .un), (101, .un), (128, .un), (129, .un), (130, .un), (131, .v (.bool s12052)), (170, .un), (171, .un), (172, .un)], [], 1⟩ ?_ ?_
          · refine w_region (by rfl) (dv1 (l_move (.v _)) (dv1 (l_move (.ro _)) (dv1 (l_nilRo rfl) (dv1 (l_fieldRo fd26_2 rfl) (dv1 (l_loadRo ty24 rfl rfl) (dv1 (l_move (.v _)) (dv1 (l_indexRo s9033.2.toNat sl24 rfl rfl (atI_z h9046) (map_at (atI_at h9046))) (dv1 (l_fieldRo fd31_1 rfl) ?_))))))))
            refine dv1 (l_loadRo ty29 rfl rfl) (dv1 (l_lenRo sl29 rfl rfl (List.length_map _)) (dv1 (l_bin rfl rfl b_lss) (dv1 (l_move (.v _)) ?_)))
            rcases condE hF with ⟨b12054, hF⟩ | ⟨b12054, hF⟩
            · refine dv1 (l_gT rfl rfl (gt rfl b12054) fun _ => l_move (.v _)) (dv1 (l_gT rfl rfl (gt rfl b12054) fun _ => l_move (.v _)) (dv1 (l_gT rfl rfl (gt rfl b12054) fun _ => l_bin rfl rfl b_leq) (dv1 (l_pickT (gt rfl b12054) (.v _)) (dvE ?_))))
              cases hF
              refine q_join ?_
              exact (le_of [] rfl (.s (.s (.s (.s (.s (.cons .un (.un _) (.cons .un (.un _) (.cons .un (.un _) (.cons (.v _) (.un _) (.cons (.v _) (.un _) (.cons (.v _) (.un _) (.s (.cons .un (.un _) (.cons .un (.un _) (.cons .un (.un _) .nil))) rfl))))))) rfl) rfl) rfl) rfl) rfl) .nil)
            · refine dv1 (l_gF rfl rfl (gt rfl b12054) rfl) (dv1 (l_gF rfl rfl (gt rfl b12054) rfl) (dv1 (l_gF rfl rfl (gt rfl b12054) rfl) (dv1 (l_pickF (gt rfl b12054) (.v _)) (dvE ?_))))
              cases hF
              refine q_join ?_
              exact (le_of [] rfl (.s (.s (.s (.s (.s (.cons .un (.un _) (.cons .un (.un _) (.cons .un (.un _) (.cons (.v _) (.un _) (.cons (.v _) (.un _) (.cons (.v _) (.un _) (.s (.cons .un (.un _) (.cons .un (.un _) (.cons .un (.un _) .nil))) rfl))))))) rfl) rfl) rfl) rfl) rfl) .nil)
          replace hF := hG12053
          rcases condE hF with ⟨b12055, hF⟩ | ⟨b12055, hF⟩
          · refine w_condT rfl b12055 ?_
            refine w_skip (q_seq ?_)
            obtain ⟨s12057, hF, hG12058⟩ := bindE hF
            refine w_seqJ ⟨[(0, .ro (.rp (MPrg.ct p1) 0)), (1, .v (.int .i64 a1)), (5, .v (.int .i64 s12057)), (8, .v (.int .i64 s9033.2)), (9, .v (.int .i64 s12047.2)), (99, .un), (100, .un), (101, .un), (128, .un), (129, .un), (130, .un), (170, .un), (171, .un), (172, .un)], [], 1⟩ ?_ ?_
            · refine w_block (w_seq (w_region (by rfl) (dv1 (l_move (.ro _)) (dv1 (l_nilRo rfl) (dv1 (l_fieldRo fd26_2 rfl) (dv1 (l_loadRo ty24 rfl rfl) (dv1 (l_move (.v _)) (dv1 (l_indexRo s9033.2.toNat sl24 rfl rfl (atI_z h9046) (map_at (atI_at h9046))) ?_))))))))
              refine dv1 (l_fieldRo fd31_1 rfl) (dv1 (l_loadRo ty29 rfl rfl) (dv1 (l_move (.v _)) ?_))
              obtain ⟨x12059, h12060, hF⟩ := bindE hF
              refine dv1 (l_indexRo s12047.2.toNat sl29 rfl rfl (atI_z h12060) (map_at (atI_at h12060))) (dv1 (l_loadARo ty47 rfl rfl) (dvN (l_alloc zt47) (dvS (l_store ty47 rfl (.ag _) rfl rfl rfl (Nat.le_of_ble_eq_true rfl) rfl) (dvE (q_seq (w_seq (w_region (by rfl) (dv1 (l_move (.v _)) ?_))))))))
              refine dv1 (l_field fd47_0 rfl) (dv1 (l_load ty27 rfl rfl rfl rfl rfl) (dv1 (l_lenRo sl27 rfl rfl (List.length_map _)) (dv1 (l_bin rfl rfl (b_add rfl)) (dv1 (l_field fd47_1 rfl) (dv1 (l_load ty45 rfl rfl rfl rfl rfl) (dv1 (l_lenRo sl45 rfl rfl (List.length_map _)) (dv1 (l_bin rfl rfl (b_add rfl)) (dv1 (l_field fd47_2 rfl) ?_))))))))
              refine dv1 (l_field fd44_4 rfl) (dv1 (l_load ty27 rfl rfl rfl rfl rfl) (dv1 (l_lenRo sl27 rfl rfl (List.length_map _)) (dv1 (l_bin rfl rfl (b_add rfl)) (dv1 (l_field fd47_2 rfl) (dv1 (l_field fd44_5 rfl) (dv1 (l_load ty27 rfl rfl rfl rfl rfl) (dv1 (l_lenRo sl27 rfl rfl (List.length_map _)) (dv1 (l_bin rfl rfl (b_add rfl)) ?_))))))))
              refine dv1 (l_assign (.v _)) (dvE (q_seq (w_seq (w_region (by rfl) (dv1 (l_assign (.v _)) (dvE (q_seq (w_block ?_))))))))
              refine w_loopF hF (fun (s15061 : Int × Int) => ⟨[(0, .ro (.rp (MPrg.ct p1) 0)), (1, .v (.int .i64 a1)), (5, .v (.int .i64 s15061.1)), (8, .v (.int .i64 s9033.2)), (9, .v (.int .i64 s12047.2)), (10, .ad 0 8 0 0), (11, .v (.int .i64 s15061.2)), (99, .un), (100, .un), (101, .un), (128, .un), (129, .un), (130, .un), (170, .un), (171, .un), (172, .un)], [(0, some ⟨47, 8, [[.ro (.sl 3 1 (x12059.Params.map iC)), .ro (.sl 49 8 (x12059.Ops.map MOp.ct)), .v (.int .i64 x12059.End.K), .v (.int .i64 x12059.End.A), .v (.int .i64 x12059.End.To), .v (.int .i64 x12059.End.Else), .ro (.sl 3 1 (x12059.End.L.map iC)), .ro (.sl 3 1 (x12059.End.M.map iC))]]⟩)], 1⟩) (le_of [(0, some 768)] rfl (.s (.s (.s (.s (.s (.s (.s (.cons .un (.un _) (.cons .un (.un _) (.cons .un (.un _) (.cons .un (.un _) (.cons .un (.un _) (.cons .un (.un _) (.cons .un (.un _) (.cons .un (.un _) (.cons .un (.un _) .nil))))))))) rfl) rfl) rfl) rfl) rfl) rfl) rfl) (.box rfl rfl (.s rfl) .nil)) ?_
              intro s15061 y15062 hF hx15063
              refine w_seq ?_
              obtain ⟨s15066, hF, hG15067⟩ := bindE hF
              refine w_seqJ ⟨[(0, .ro (.rp (MPrg.ct p1) 0)), (1, .v (.int .i64 a1)), (5, .v (.int .i64 s15061.1)), (8, .v (.int .i64 s9033.2)), (9, .v (.int .i64 s12047.2)), (10, .ad 0 8 0 0), (11, .v (.int .i64 s15061.2)), (99, .un), (100, .un), (101, .un), (128, .un), (129, .un), (130, .un), (170, .un), (171, .un), (172, .un), (173, .v (.bool s15066))], [(0, some ⟨47, 8, [[.ro (.sl 3 1 (x12059.Params.map iC)), .ro (.sl 49 8 (x12059.Ops.map MOp.ct)), .v (.int .i64 x12059.End.K), .v (.int .i64 x12059.End.A), .v (.int .i64 x12059.End.To), .v (.int .i64 x12059.End.Else), .ro (.sl 3 1 (x12059.End.L.map iC)), .ro (.sl 3 1 (x12059.End.M.map iC))]]⟩)], 1⟩ ?_ ?_
              · refine w_region (by rfl) (dv1 (l_move (.v _)) (dv1 (l_field fd47_1 rfl) (dv1 (l_load ty45 rfl rfl rfl rfl rfl) (dv1 (l_lenRo sl45 rfl rfl (List.length_map _)) (dv1 (l_bin rfl rfl b_lss) (dv1 (l_move (.v _)) ?_))))))
                rcases condE hF with ⟨b15068, hF⟩ | ⟨b15068, hF⟩
                · refine dv1 (l_gT rfl rfl (gt rfl b15068) fun _ => l_move (.v _)) (dv1 (l_gT rfl rfl (gt rfl b15068) fun _ => l_move (.v _)) (dv1 (l_gT rfl rfl (gt rfl b15068) fun _ => l_bin rfl rfl b_leq) (dv1 (l_pickT (gt rfl b15068) (.v _)) (dvE ?_))))
                  cases hF
                  refine q_join ?_
                  exact (le_of [(0, some 0)] rfl (.s (.s (.s (.s (.s (.s (.s (.cons .un (.un _) (.cons .un (.un _) (.cons .un (.un _) (.cons .un (.un _) (.cons .un (.un _) (.cons .un (.un _) (.cons (.v _) (.un _) (.cons (.v _) (.un _) (.cons (.v _) (.un _) (.s .nil rfl)))))))))) rfl) rfl) rfl) rfl) rfl) rfl) rfl) (.box rfl rfl (.s rfl) .nil))
                · refine dv1 (l_gF rfl rfl (gt rfl b15068) rfl) (dv1 (l_gF rfl rfl (gt rfl b15068) rfl) (dv1 (l_gF rfl rfl (gt rfl b15068) rfl) (dv1 (l_pickF (gt rfl b15068) (.v _)) (dvE ?_))))
                  cases hF
                  refine q_join ?_
                  exact (le_of [(0, some 0)] rfl (.s (.s (.s (.s (.s (.s (.s (.cons .un (.un _) (.cons .un (.un _) (.cons .un (.un _) (.cons .un (.un _) (.cons .un (.un _) (.cons .un (.un _) (.cons (.v _) (.un _) (.cons (.v _) (.un _) (.cons (.v _) (.un _) (.s .nil rfl)))))))))) rfl) rfl) rfl) rfl) rfl) rfl) rfl) (.box rfl rfl (.s rfl) .nil))
              replace hF := hG15067
              rcases condE hF with ⟨b15069, hF⟩ | ⟨b15069, hF⟩
              · refine w_condT rfl b15069 ?_
                refine w_skip (q_seq (w_seq (w_block (w_draw [[], [], [1], [], [1, 2, 3], [1, 2, 3, 4], [1, 2, 3, 4, 5], [1, 2, 3, 4, 5, 6], [0, 1, 2, 3, 4, 5, 6, 7], [], [9], [], [9, 10, 11], [9, 10, 11, 12], [9, 10, 11, 12, 13], [9, 10, 11, 12, 13, 14], [9, 10, 11, 12, 13, 14, 15], [0, 1, 2, 3, 4, 5, 6, 7, 8, 9, 10, 11, 12, 13, 14, 15, 16], [0, 1, 2, 3, 4, 5, 6, 7, 8, 9, 10, 11, 12, 13, 14, 15, 16, 17]] [0, 1, 2, 3, 4, 5, 6, 7, 8, 9, 10, 11, 12, 13, 14, 15, 16, 17, 18] (by kernel_rfl) (by rfl) ⟨by decide, by rfl⟩ (by rfl) ?_))))
                refine de1 rfl (l_move (.v _)) rfl (de1 rfl (l_field fd47_1 rfl) rfl (de1 rfl (l_load ty45 rfl rfl rfl rfl rfl) rfl (de1 rfl (l_move (.v _)) rfl ?_)))
                obtain ⟨x15070, h15071, hF⟩ := bindE hF
                refine de1 rfl (l_indexRo s15061.2.toNat sl45 rfl rfl (atI_z h15071) (map_at (atI_at h15071))) rfl (de1 rfl (l_fieldRo fd49_6 rfl) rfl (de1 rfl (l_loadRo ty27 rfl rfl) rfl (de1 rfl (l_lenRo sl27 rfl rfl (List.length_map _)) rfl (de1 rfl (l_bin rfl rfl (b_add rfl)) rfl (de1 rfl (l_field fd47_1 rfl) rfl (de1 rfl (l_load ty45 rfl rfl rfl rfl rfl) rfl (de1 rfl (l_move (.v _)) rfl (de1 rfl (l_indexRo s15061.2.toNat sl45 rfl rfl (atI_z h15071) (map_at (atI_at h15071))) rfl ?_))))))))
                refine de1 rfl (l_fieldRo fd49_5 rfl) rfl (de1 rfl (l_loadRo ty9 rfl rfl) rfl (de1 rfl (l_lenStr (by kernel_rfl) rfl rfl) rfl (de1 rfl (l_bin rfl rfl (b_quo (by decide) rfl)) rfl (de1 rfl (l_bin rfl rfl (b_add rfl)) rfl (de1 rfl (l_assign (.v _)) rfl (ddE (q_in (q_seq ?_))))))))
                refine w_region (by rfl) (dv1 (l_move (.v _)) (dv1 (l_bin rfl rfl (b_add rfl)) (dv1 (l_assign (.v _)) (dvE ?_))))
                cases hF
                refine qL rfl ?_
                exact (le_of [(0, some 0)] rfl (.s (.s (.s (.s (.s (.s (.s (.cons .un (.un _) (.cons .un (.un _) (.cons .un (.un _) (.cons .un (.un _) (.cons .un (.un _) (.cons .un (.un _) (.cons .un (.un _) (.cons .un (.un _) (.cons .un (.un _) .nil))))))))) rfl) rfl) rfl) rfl) rfl) rfl) rfl) (.box rfl rfl (.s rfl) .nil))
              · refine w_condF rfl b15069 ?_
                refine w_exit ?_
                cases hF
                cases hx15063 _ rfl
                refine q_exS (q_exS (q_here (q_in (q_join ?_))))
                exact (le_of [] rfl (.s (.s (.s (.s (.s (.cons .un (.un _) (.cons .un (.un _) (.cons .un (.un _) (.cons .un (.un _) (.cons .un (.un _) (.cons .un (.un _) (.cons .un (.un _) (.cons .un (.un _) (.cons .un (.un _) .nil))))))))) rfl) rfl) rfl) rfl) rfl) .nil)
            replace hF := hG12058
            refine w_region (by rfl) (dv1 (l_move (.v _)) (dv1 (l_bin rfl rfl (b_add rfl)) (dv1 (l_assign (.v _)) (dvE ?_))))
            cases hF
            refine qL rfl ?_
            exact (le_of [] rfl (.s (.s (.s (.s (.s (.cons .un (.un _) (.cons .un (.un _) (.cons .un (.un _) (.cons .un (.un _) (.cons .un (.un _) (.cons .un (.un _) (.cons .un (.un _) (.cons .un (.un _) (.cons .un (.un _) .nil))))))))) rfl) rfl) rfl) rfl) rfl) .nil)
          · refine w_condF rfl b12055 ?_
            refine w_exit ?_
            cases hF
            cases hx12049 _ rfl
            refine q_exS (q_exS (q_here (q_in (q_join ?_))))
            exact (le_of [] rfl (.s (.s (.s (.s (.cons .un (.un _) (.cons .un (.un _) (.cons .un (.un _) (.cons .un (.un _) (.cons .un (.un _) (.cons .un (.un _) (.cons .un (.un _) (.cons .un (.un _) (.cons .un (.un _) .nil))))))))) rfl) rfl) rfl) rfl) .nil)
        replace hF := hG9044
        refine w_region (by rfl) (dv1 (l_move (.v _)) (dv1 (l_bin rfl rfl (b_add rfl)) (dv1 (l_assign (.v _)) (dvE ?_))))
        cases hF
        refine qL rfl ?_
        exact (le_of [] rfl (.s (.s (.s (.s (.cons .un (.un _) (.cons .un (.un _) (.cons .un (.un _) (.cons .un (.un _) (.cons .un (.un _) (.cons .un (.un _) (.cons .un (.un _) (.cons .un (.un _) (.cons .un (.un _) .nil))))))))) rfl) rfl) rfl) rfl) .nil)
      · refine w_condF rfl b9041 ?_
        refine w_exit ?_
        cases hF
        cases hx9035 _ rfl
        refine q_exS (q_exS (q_here (q_join ?_)))
        exact (le_of [] rfl (.s (.s .nil rfl) rfl) .nil)
    replace hF := hG6032
    refine w_seq (w_region (by rfl) (dv1 (l_move (.v _)) (dv1 (l_move (.v _)) (dv1 (l_bin rfl rfl b_leq) (dv1 (l_assign (.v _)) (dvE (q_seq (w_ret ?_))))))))
    cases hF
    refine q_end (.inr rfl) ?_
    exact ret_ok rfl (.cons (.tmp (.v _) (.v _)) .nil) (by decide) rfl

def p_L16_fun (a0 : Option MPrg) (a1 : Int) : Option (MFun × Bool) :=
(optC a0
(some ((⟨0, []⟩ : MFun), false))
(fun p1 =>
(((bif decide (((p1.Funcs.length : Nat) : Int) = 0) then
some true
else
((p_R05_Small (some p1) 400).bind fun y6 =>
some (!y6)))).bind fun (s3 : Bool) =>
(bif s3 then
some ((⟨0, []⟩ : MFun), false)
else
(ck (¬ ((p1.Funcs.length : Nat) : Int) = 0)
(((atI p1.Funcs (Int.tmod (IntKind.i64.wrap a1) ((p1.Funcs.length : Nat) : Int))).bind fun x10 =>
some (x10, true))))))))

theorem p_L16_fun_ok {r : MFun × Bool} : rOk (.tu [.ag [.v (.int .i64 r.1.Ret), .ro (.sl 47 8 (r.1.Blocks.map MBlk.ct))], .v (.bool r.2)]) = true ∧ True := ⟨rfl, trivial⟩

set_option maxRecDepth 10000 in
set_option maxHeartbeats 4000000 in
theorem p_L16_fun_ac {a0 : Option MPrg} {a1 : Int} {r : MFun × Bool} (hF : p_L16_fun a0 a1 = some r) : AC Tryd.prog GT 6 [ptC MPrg.ct a0, .v (.int .u8 a1)] (fun c => c = .tu [.ag [.v (.int .i64 r.1.Ret), .ro (.sl 47 8 (r.1.Blocks.map MBlk.ct))], .v (.bool r.2)]) := by
  unfold p_L16_fun at hF
  refine AC.mk (nt := 36) Tryd.func6 rfl rfl rfl fun w N => ?_
  rcases a0 with _ | p1
  · replace hF := optN hF
    refine w_seq (w_region (by rfl) (dvN (l_alloc zt31) (dv1 (l_assign (.v _)) (dvE (q_seq (w_seq (w_seq (w_region (by rfl) ?_))))))))
    refine dv1 (l_move (.v _)) (dv1 (l_ptrNil (by kernel_rfl) rfl) (dv1 (l_move (.v _)) (dv1 (l_gF rfl rfl rfl rfl) (dv1 (l_gF rfl rfl rfl rfl) (dv1 (l_gF rfl rfl rfl rfl) (dv1 (l_gF rfl rfl rfl rfl) (dv1 (l_gF rfl rfl rfl rfl) (dv1 (l_gF rfl rfl rfl rfl) ?_))))))))
    refine dv1 (l_pickT rfl (.v _)) (dv1 (l_move (.v _)) (dv1 (l_gF rfl rfl rfl rfl) (dv1 (l_gF rfl rfl rfl rfl) (dv1 (l_gF rfl rfl rfl rfl) (dv1 (l_pickT rfl (.v _)) (dvE (q_seq (w_true rfl ?_))))))))
    refine w_seq (w_region (by rfl) (dv1 (l_build st31 zt31 .nil rfl rfl) (dvS (l_store ty31 rfl (.ag _) rfl rfl rfl (Nat.le_of_ble_eq_true rfl) rfl) (dv1 (l_assign (.v _)) (dvE (q_seq (w_ret (q_reS ?_))))))))
    cases hF
    refine q_end (.inr rfl) ?_
    exact ret_ok rfl (.cons (.cellA ty31 rfl rfl rfl (.cons (.of (.v _)) (.cons (.of (.nilRo _ _)) .nil))) (.cons (.tmp (.v _) (.v _)) .nil)) (by decide) rfl
  · replace hF := optS hF
    refine w_seq (w_region (by rfl) (dvN (l_alloc zt31) (dv1 (l_assign (.v _)) (dvE (q_seq (w_seq ?_))))))
    obtain ⟨s3, hF, hG4⟩ := bindE hF
    refine w_seqJ ⟨[(0, .ro (.rp (MPrg.ct p1) 0)), (1, .v (.int .u8 a1)), (4, .ad 0 2 0 0), (20, .v (.bool s3))], [(0, some ⟨31, 2, [[.v (.int .i64 0), .v (.slice none 0 0)]]⟩)], 1⟩ ?_ ?_
    · refine w_region (by rfl) (dv1 (l_move (.ro _)) (dv1 (l_ptrRo (by kernel_rfl) rfl) (dv1 (l_move (.v _)) (dv1 (l_gT rfl rfl rfl fun _ => l_move (.ro _)) (dv1 (l_gT rfl rfl rfl fun _ => l_nilRo rfl) (dv1 (l_gT rfl rfl rfl fun _ => l_fieldRo fd26_2 rfl) (dv1 (l_gT rfl rfl rfl fun _ => l_loadRo ty24 rfl rfl) (dv1 (l_gT rfl rfl rfl fun _ => l_lenRo sl24 rfl rfl (List.length_map _)) ?_))))))))
      refine dv1 (l_gT rfl rfl rfl fun _ => l_bin rfl rfl b_eql) (dv1 (l_pickF rfl (.v _)) (dv1 (l_move (.v _)) ?_))
      rcases condE hF with ⟨b5, hF⟩ | ⟨b5, hF⟩
      · refine dv1 (l_gF rfl rfl (gt rfl b5) rfl) (dv1 (l_gF rfl rfl (gt rfl b5) rfl) (dv1 (l_gF rfl rfl (gt rfl b5) rfl) (dv1 (l_pickT (gt rfl b5) (.v _)) (dvE ?_))))
        cases hF
        refine q_join ?_
        exact (le_of [(0, some 0)] rfl (.s (.s (.s (.s .nil rfl) rfl) rfl) rfl) (.box rfl rfl (.s rfl) .nil))
      · refine dv1 (l_gT rfl rfl (gt rfl b5) fun _ => l_move (.ro _)) ?_
        obtain ⟨y6, h7, hF⟩ := bindE hF
        refine dvC (l_gTC rfl rfl (gt rfl b5) fun _ => (l_call (B := false) (FnI.mk' (by kernel_rfl)) (.cons (.ro _) (.one (.ro _)) (.cons (.v _) (.one (.v _)) .nil)) (p_R05_Small_ac h7) (okF p_R05_Small_ok))) ?_
        rintro _ rfl
        refine dv1 (l_gT rfl rfl (gt rfl b5) fun _ => l_not rfl) (dv1 (l_pickF (gt rfl b5) (.v _)) (dvE ?_))
        cases hF
        refine q_join ?_
        exact (le_of [(0, some 0)] rfl (.s (.s (.s (.s .nil rfl) rfl) rfl) rfl) (.box rfl rfl (.s rfl) .nil))
    replace hF := hG4
    rcases condE hF with ⟨b8, hF⟩ | ⟨b8, hF⟩
    · refine w_condT rfl b8 ?_
      refine w_seq (w_region (by rfl) (dv1 (l_build st31 zt31 .nil rfl rfl) (dvS (l_store ty31 rfl (.ag _) rfl rfl rfl (Nat.le_of_ble_eq_true rfl) rfl) (dv1 (l_assign (.v _)) (dvE (q_seq (w_ret (q_reS ?_))))))))
      cases hF
      refine q_end (.inr rfl) ?_
      exact ret_ok rfl (.cons (.cellA ty31 rfl rfl rfl (.cons (.of (.v _)) (.cons (.of (.nilRo _ _)) .nil))) (.cons (.tmp (.v _) (.v _)) .nil)) (by decide) rfl
    · refine w_condF rfl b8 ?_
      refine w_skip (q_seq (w_seq (w_draw [[], [0], [0, 1], [0, 1, 2], [], [4], [], [6], [6, 7], [6, 7, 8], [6, 7, 8, 9], [4, 5, 6, 7, 8, 9, 10], [0, 1, 2, 3, 4, 5, 6, 7, 8, 9, 10, 11], [0, 1, 2, 3, 4, 5, 6, 7, 8, 9, 10, 11, 12], [0, 1, 2, 3, 4, 5, 6, 7, 8, 9, 10, 11, 12, 13], [0, 1, 2, 3, 4, 5, 6, 7, 8, 9, 10, 11, 12, 13, 14]] [0, 1, 2, 3, 4, 5, 6, 7, 8, 9, 10, 11, 12, 13, 14, 15] (by kernel_rfl) (by rfl) ⟨by decide, by rfl⟩ (by rfl) ?_)))
      refine de1 rfl (l_move (.ro _)) rfl (de1 rfl (l_nilRo rfl) rfl (de1 rfl (l_fieldRo fd26_2 rfl) rfl (de1 rfl (l_loadRo ty24 rfl rfl) rfl (de1 rfl (l_move (.v _)) rfl (de1 rfl (l_conv (k2 := .i64) (by kernel_rfl) (by kernel_rfl) rfl rfl) rfl (de1 rfl (l_move (.ro _)) rfl (de1 rfl (l_nilRo rfl) rfl (de1 rfl (l_fieldRo fd26_2 rfl) rfl ?_))))))))
      refine de1 rfl (l_loadRo ty24 rfl rfl) rfl (de1 rfl (l_lenRo sl24 rfl rfl (List.length_map _)) rfl ?_)
      obtain ⟨c9, hF⟩ := ckE hF
      refine de1 rfl (l_bin rfl rfl (b_rem c9 rfl)) rfl ?_
      obtain ⟨x10, h11, hF⟩ := bindE hF
      refine de1 rfl (l_indexRo ((Int.tmod (IntKind.i64.wrap a1) ((p1.Funcs.length : Nat) : Int)).toNat) sl24 rfl rfl (atI_z h11) (map_at (atI_at h11))) rfl (de1 rfl (l_loadARo ty31 rfl rfl) rfl (deS rfl (l_store ty31 rfl (.ag _) rfl rfl rfl (Nat.le_of_ble_eq_true rfl) rfl) rfl (de1 rfl (l_assign (.v _)) rfl (ddE (q_seq (w_ret ?_))))))
      cases hF
      refine q_end (.inr rfl) ?_
      exact ret_ok rfl (.cons (.cellA ty31 rfl rfl rfl (.cons (.of (.v _)) (.cons (.of (.ro _)) .nil))) (.cons (.tmp (.v _) (.v _)) .nil)) (by decide) rfl

def p_slices_Clone_int_int (a0 : List Int) : Option ((List Int)) :=
(nilC a0
(some [])
((ck (a0.length * 8 ≤ 140737488355328)
(some a0))))

theorem p_slices_Clone_int_int_ok {r : (List Int)} : rOk (.sl 3 1 (r.map iC)) = true ∧ FrT (.sl 3 1 (r.map iC)) := ⟨rfl, (.one (.cl (.sl _ _ (clm k_iC _))))⟩

set_option maxRecDepth 10000 in
set_option maxHeartbeats 4000000 in
theorem p_slices_Clone_int_int_ac {a0 : List Int} {r : (List Int)} (hF : p_slices_Clone_int_int a0 = some r) : AC Tryd.prog GT 51 [.sl 3 1 (a0.map iC)] (fun c => c = .sl 3 1 (r.map iC)) := by
  unfold p_slices_Clone_int_int at hF
  refine AC.mk (nt := 8) Tryd.func51 rfl rfl rfl fun w N => ?_
  refine w_seq (w_region (by rfl) (dv1 (l_assign (.v _)) (dvE (q_seq (w_seq (w_seq (w_region (by rfl) (dv1 (l_move (.ro _)) ?_))))))))
  refine dvB (l_nilRoS sl27 rfl) fun n1 hn2 => ?_
  refine dvE (q_seq ?_)
  rcases Bool.eq_false_or_eq_true n1 with b3 | b3
  · replace hF := (nilE hF).1 (nil_of (hn2 b3))
    refine w_condT rfl b3 ?_
    refine w_seq (w_region (by rfl) (dv1 (l_assign (.v _)) (dvE (q_seq (w_ret (q_reS ?_))))))
    cases hF
    refine q_end (.inr rfl) ?_
    exact ret_ok rfl (.cons (.tmp (.v _) (.nil _ _)) .nil) (by decide) rfl
  · replace hF := (nilE hF).2
    refine w_condF rfl b3 ?_
    refine w_skip (q_seq (w_seq (w_region (by rfl) (dvN (l_bs0 sl27 zt3 rfl (by decide)) (dv1 (l_move (.ro _)) ?_)))))
    obtain ⟨c4, hF⟩ := ckE hF
    refine dvN2 (l_appOR el27 rfl rfl rfl rfl rfl (ro_map (fun _ => rfl) _) rfl (by simpa using c4) (by decide)) ?_
    refine dv1 (l_assign (.rf _ _ _ _)) (dvE (q_seq (w_ret ?_)))
    cases hF
    refine q_end (.inr rfl) ?_
    exact ret_ok rfl (.cons (.tmp (.rf _ _ _ _) (.rf rfl rfl (clm k_iC _))) .nil) (by decide) rfl

def p_code_ownEnd (a0 : MEnd) : Option MEnd :=
(((((bif decide (a0.K = 1) then
some true
else
(bif decide (a0.K = 2) then
some true
else
some (decide (a0.K = 3))))).bind fun (s5 : Bool) =>
(bif s5 then
some a0.A
else
some 0))).bind fun (s2 : Int) =>
(((((bif decide (a0.K = 0) then
some true
else
some (decide (a0.K = 1)))).bind fun (s15 : Bool) =>
(bif s15 then
((p_slices_Clone_int_int a0.L).bind fun y19 =>
some (a0.To, y19))
else
some (0, [])))).bind fun (s12 : Int × (List Int)) =>
(((bif decide (a0.K = 1) then
((p_slices_Clone_int_int a0.M).bind fun y26 =>
some (a0.Else, y26))
else
some (0, []))).bind fun (s23 : Int × (List Int)) =>
some (⟨a0.K, s2, s12.1, s23.1, s12.2, s23.2⟩ : MEnd))))

theorem p_code_ownEnd_ok {r : MEnd} : rOk (.ag (MEnd.ct r)) = true ∧ FrT (.ag (MEnd.ct r)) := ⟨rfl, (.one (.ag (k_MEndct _)))⟩

set_option maxRecDepth 10000 in
set_option maxHeartbeats 4000000 in
theorem p_code_ownEnd_ac {a0 : MEnd} {r : MEnd} (hF : p_code_ownEnd a0 = some r) : AC Tryd.prog GT 70 [.ag (MEnd.ct a0)] (fun c => c = .ag (MEnd.ct r)) := by
  unfold p_code_ownEnd at hF
  refine AC.mk (nt := 49) Tryd.func70 rfl rfl rfl fun w N => ?_
  refine w_seq (w_region (by rfl) (dvN (l_box (.ag _) rfl rfl) (dvN (l_alloc zt44) (dvE (q_seq (w_seq (w_region (by rfl) (dv1 (l_field fd44_0 rfl) ?_))))))))
  refine dv1 (l_load ty3 rfl rfl rfl rfl rfl) (dv1 (l_build st44 zt44 (.cons (.v _) .nil) rfl rfl) (dvN (l_alloc zt44) (dvS (l_store ty44 rfl (.ag _) rfl rfl rfl (Nat.le_of_ble_eq_true rfl) rfl) (dvE (q_seq ?_)))))
  obtain ⟨s2, hF, hG3⟩ := bindE hF
  refine w_seqJ ⟨[(1, .ad 0 6 0 0), (2, .ad 1 6 0 0), (3, .ad 2 6 0 0), (27, .un), (28, .un), (29, .un)], [(0, some ⟨44, 6, [[.v (.int .i64 a0.K), .v (.int .i64 a0.A), .v (.int .i64 a0.To), .v (.int .i64 a0.Else), .ro (.sl 3 1 (a0.L.map iC)), .ro (.sl 3 1 (a0.M.map iC))]]⟩), (1, some ⟨44, 6, [[.v (.int .i64 0), .v (.int .i64 0), .v (.int .i64 0), .v (.int .i64 0), .v (.slice none 0 0), .v (.slice none 0 0)]]⟩), (2, some ⟨44, 6, [[.v (.int .i64 a0.K), .v (.int .i64 s2), .v (.int .i64 0), .v (.int .i64 0), .v (.slice none 0 0), .v (.slice none 0 0)]]⟩)], 1⟩ ?_ ?_
  · obtain ⟨s5, hF, hG6⟩ := bindE hF
    refine w_seqJ ⟨[(1, .ad 0 6 0 0), (2, .ad 1 6 0 0), (3, .ad 2 6 0 0), (19, .v (.bool s5)), (27, .un), (28, .un), (29, .un)], [(0, some ⟨44, 6, [[.v (.int .i64 a0.K), .v (.int .i64 a0.A), .v (.int .i64 a0.To), .v (.int .i64 a0.Else), .ro (.sl 3 1 (a0.L.map iC)), .ro (.sl 3 1 (a0.M.map iC))]]⟩), (1, some ⟨44, 6, [[.v (.int .i64 0), .v (.int .i64 0), .v (.int .i64 0), .v (.int .i64 0), .v (.slice none 0 0), .v (.slice none 0 0)]]⟩), (2, some ⟨44, 6, [[.v (.int .i64 a0.K), .v (.int .i64 0), .v (.int .i64 0), .v (.int .i64 0), .v (.slice none 0 0), .v (.slice none 0 0)]]⟩)], 1⟩ ?_ ?_
    · refine w_region (by rfl) (dv1 (l_field fd44_0 rfl) (dv1 (l_load ty3 rfl rfl rfl rfl rfl) (dv1 (l_bin rfl rfl b_eql) (dv1 (l_move (.v _)) ?_))))
      rcases condE hF with ⟨b7, hF⟩ | ⟨b7, hF⟩
      · refine dv1 (l_gF rfl rfl (gt rfl b7) rfl) (dv1 (l_gF rfl rfl (gt rfl b7) rfl) (dv1 (l_gF rfl rfl (gt rfl b7) rfl) (dv1 (l_pickT (gt rfl b7) (.v _)) (dv1 (l_move (.v _)) (dv1 (l_gF rfl rfl rfl rfl) (dv1 (l_gF rfl rfl rfl rfl) (dv1 (l_gF rfl rfl rfl rfl) (dv1 (l_pickT rfl (.v _)) ?_))))))))
        refine dvE ?_
        cases hF
        refine q_join ?_
        exact (le_of [(0, some 0), (1, some 64), (2, some 320)] rfl (.s (.s (.s (.s (.cons .un (.un _) (.cons .un (.un _) (.cons .un (.un _) .nil))) rfl) rfl) rfl) rfl) (.box rfl rfl (.s rfl) (.box rfl rfl (.s rfl) (.box rfl rfl (.s rfl) .nil))))
      · refine dv1 (l_gT rfl rfl (gt rfl b7) fun _ => l_field fd44_0 rfl) (dv1 (l_gT rfl rfl (gt rfl b7) fun _ => l_load ty3 rfl rfl rfl rfl rfl) (dv1 (l_gT rfl rfl (gt rfl b7) fun _ => l_bin rfl rfl b_eql) (dv1 (l_pickF (gt rfl b7) (.v _)) (dv1 (l_move (.v _)) ?_))))
        rcases condE hF with ⟨b8, hF⟩ | ⟨b8, hF⟩
        · refine dv1 (l_gF rfl rfl (gt rfl b8) rfl) (dv1 (l_gF rfl rfl (gt rfl b8) rfl) (dv1 (l_gF rfl rfl (gt rfl b8) rfl) (dv1 (l_pickT (gt rfl b8) (.v _)) (dvE ?_))))
          cases hF
          refine q_join ?_
          exact (le_of [(0, some 0), (1, some 64), (2, some 320)] rfl (.s (.s (.s (.s (.cons .un (.un _) (.cons .un (.un _) (.cons .un (.un _) .nil))) rfl) rfl) rfl) rfl) (.box rfl rfl (.s rfl) (.box rfl rfl (.s rfl) (.box rfl rfl (.s rfl) .nil))))
        · refine dv1 (l_gT rfl rfl (gt rfl b8) fun _ => l_field fd44_0 rfl) (dv1 (l_gT rfl rfl (gt rfl b8) fun _ => l_load ty3 rfl rfl rfl rfl rfl) (dv1 (l_gT rfl rfl (gt rfl b8) fun _ => l_bin rfl rfl b_eql) (dv1 (l_pickF (gt rfl b8) (.v _)) (dvE ?_))))
          cases hF
          refine q_join ?_
          exact (le_of [(0, some 0), (1, some 64), (2, some 320)] rfl (.s (.s (.s (.s (.cons .un (.un _) (.cons .un (.un _) (.cons .un (.un _) .nil))) rfl) rfl) rfl) rfl) (.box rfl rfl (.s rfl) (.box rfl rfl (.s rfl) (.box rfl rfl (.s rfl) .nil))))
    replace hF := hG6
    rcases condE hF with ⟨b9, hF⟩ | ⟨b9, hF⟩
    · refine w_condT rfl b9 ?_
      refine w_region (by rfl) (dv1 (l_field fd44_1 rfl) (dv1 (l_load ty3 rfl rfl rfl rfl rfl) (dv1 (l_field fd44_1 rfl) (dvS (l_store ty3 rfl (.v _) rfl rfl rfl (Nat.le_of_ble_eq_true rfl) rfl) (dvE ?_)))))
      cases hF
      refine q_join ?_
      exact (le_of [(0, some 0), (1, some 1), (2, some 2)] rfl (.s (.s (.s (.cons .un (.un _) (.cons .un (.un _) (.cons .un (.un _) .nil))) rfl) rfl) rfl) (.box rfl rfl (.s rfl) (.box rfl rfl (.s rfl) (.box rfl rfl (.s rfl) .nil))))
    · refine w_condF rfl b9 ?_
      refine w_skip ?_
      cases hF
      refine q_join ?_
      exact (le_of [(0, some 0), (1, some 1), (2, some 2)] rfl (.s (.s (.s (.cons .un (.un _) (.cons .un (.un _) (.cons .un (.un _) .nil))) rfl) rfl) rfl) (.box rfl rfl (.s rfl) (.box rfl rfl (.s rfl) (.box rfl rfl (.s rfl) .nil))))
  replace hF := hG3
  obtain ⟨s12, hF, hG13⟩ := bindE hF
  refine w_seqJ ⟨[(1, .ad 0 6 0 0), (2, .ad 1 6 0 0), (3, .ad 2 6 0 0)], [(0, some ⟨44, 6, [[.v (.int .i64 a0.K), .v (.int .i64 a0.A), .v (.int .i64 a0.To), .v (.int .i64 a0.Else), .ro (.sl 3 1 (a0.L.map iC)), .ro (.sl 3 1 (a0.M.map iC))]]⟩), (1, some ⟨44, 6, [[.v (.int .i64 0), .v (.int .i64 0), .v (.int .i64 0), .v (.int .i64 0), .v (.slice none 0 0), .v (.slice none 0 0)]]⟩), (2, some ⟨44, 6, [[.v (.int .i64 a0.K), .v (.int .i64 s2), .v (.int .i64 s12.1), .v (.int .i64 0), .rf 3 0 ((s12.2.map iC).length) 1, .v (.slice none 0 0)]]⟩), (3, some ⟨3, 1, s12.2.map iC⟩)], 1⟩ ?_ ?_
  · obtain ⟨s15, hF, hG16⟩ := bindE hF
    refine w_seqJ ⟨[(1, .ad 0 6 0 0), (2, .ad 1 6 0 0), (3, .ad 2 6 0 0), (30, .v (.bool s15))], [(0, some ⟨44, 6, [[.v (.int .i64 a0.K), .v (.int .i64 a0.A), .v (.int .i64 a0.To), .v (.int .i64 a0.Else), .ro (.sl 3 1 (a0.L.map iC)), .ro (.sl 3 1 (a0.M.map iC))]]⟩), (1, some ⟨44, 6, [[.v (.int .i64 0), .v (.int .i64 0), .v (.int .i64 0), .v (.int .i64 0), .v (.slice none 0 0), .v (.slice none 0 0)]]⟩), (2, some ⟨44, 6, [[.v (.int .i64 a0.K), .v (.int .i64 s2), .v (.int .i64 0), .v (.int .i64 0), .v (.slice none 0 0), .v (.slice none 0 0)]]⟩)], 1⟩ ?_ ?_
    · refine w_region (by rfl) (dv1 (l_field fd44_0 rfl) (dv1 (l_load ty3 rfl rfl rfl rfl rfl) (dv1 (l_bin rfl rfl b_eql) (dv1 (l_move (.v _)) ?_))))
      rcases condE hF with ⟨b17, hF⟩ | ⟨b17, hF⟩
      · refine dv1 (l_gF rfl rfl (gt rfl b17) rfl) (dv1 (l_gF rfl rfl (gt rfl b17) rfl) (dv1 (l_gF rfl rfl (gt rfl b17) rfl) (dv1 (l_pickT (gt rfl b17) (.v _)) (dvE ?_))))
        cases hF
        refine q_join ?_
        exact (le_of [(0, some 0), (1, some 1), (2, some 2)] rfl (.s (.s (.s (.s .nil rfl) rfl) rfl) rfl) (.box rfl rfl (.s rfl) (.box rfl rfl (.s rfl) (.box rfl rfl (.s rfl) .nil))))
      · refine dv1 (l_gT rfl rfl (gt rfl b17) fun _ => l_field fd44_0 rfl) (dv1 (l_gT rfl rfl (gt rfl b17) fun _ => l_load ty3 rfl rfl rfl rfl rfl) (dv1 (l_gT rfl rfl (gt rfl b17) fun _ => l_bin rfl rfl b_eql) (dv1 (l_pickF (gt rfl b17) (.v _)) (dvE ?_))))
        cases hF
        refine q_join ?_
        exact (le_of [(0, some 0), (1, some 1), (2, some 2)] rfl (.s (.s (.s (.s .nil rfl) rfl) rfl) rfl) (.box rfl rfl (.s rfl) (.box rfl rfl (.s rfl) (.box rfl rfl (.s rfl) .nil))))
    replace hF := hG16
    rcases condE hF with ⟨b18, hF⟩ | ⟨b18, hF⟩
    · refine w_condT rfl b18 ?_
      refine w_draw [[], [0], [], [2], [2, 3], [0, 1], [0, 1, 2, 3, 4, 5], [0, 1, 2, 3, 4, 5, 6], [0, 1, 2, 3, 4, 5, 6, 7]] [0, 1, 2, 3, 5, 4, 6, 7, 8] (by kernel_rfl) (by rfl) ⟨by decide, by rfl⟩ (by rfl) ?_
      refine de1 rfl (l_field fd44_2 rfl) rfl (de1 rfl (l_load ty3 rfl rfl rfl rfl rfl) rfl (de1 rfl (l_field fd44_4 rfl) rfl (de1 rfl (l_load ty27 rfl rfl rfl rfl rfl) rfl (de1 rfl (l_field fd44_2 rfl) rfl ?_))))
      obtain ⟨y19, h20, hF⟩ := bindE hF
      refine deC1 rfl (l_call (B := false) (FnI.mk' (by kernel_rfl)) (.cons (.ro _) (.one (.ro _)) .nil) (p_slices_Clone_int_int_ac h20) (okF p_slices_Clone_int_int_ok)) rfl ?_
      refine deS rfl (l_store ty3 rfl (.v _) rfl rfl rfl (Nat.le_of_ble_eq_true rfl) rfl) rfl (de1 rfl (l_field fd44_4 rfl) rfl (deS rfl (l_store ty27 rfl (.rf _ _ _ _) rfl rfl rfl (Nat.le_of_ble_eq_true rfl) rfl) rfl (ddE ?_)))
      cases hF
      refine q_join ?_
      exact (le_of [(0, some 0), (1, some 1), (2, some 2), (3, some 384)] rfl (.s (.s (.s .nil rfl) rfl) rfl) (.box rfl rfl (.s rfl) (.box rfl rfl (.s rfl) (.box rfl rfl (.s rfl) (.row rfl rfl rfl (clm k_iC _) .nil)))))
    · refine w_condF rfl b18 ?_
      refine w_skip ?_
      cases hF
      refine q_join ?_
      exact (le_of [(0, some 0), (1, some 1), (2, some 2), (3, none)] rfl (.s (.s (.s .nil rfl) rfl) rfl) (.box rfl rfl (.s rfl) (.box rfl rfl (.s rfl) (.box rfl rfl (.cons (.v rfl) (.cons (.v rfl) (.cons (.v rfl) (.cons (.v rfl) (.cons (.nil ⟨by simp, rfl⟩) (.cons (.v rfl) .nil)))))) (.new ⟨by simp, rfl⟩ .nil)))))
  replace hF := hG13
  obtain ⟨s23, hF, hG24⟩ := bindE hF
  refine w_seqJ ⟨[(2, .ad 0 6 0 0), (3, .ad 1 6 0 0)], [(0, some ⟨44, 6, [[.v (.int .i64 0), .v (.int .i64 0), .v (.int .i64 0), .v (.int .i64 0), .v (.slice none 0 0), .v (.slice none 0 0)]]⟩), (1, some ⟨44, 6, [[.v (.int .i64 a0.K), .v (.int .i64 s2), .v (.int .i64 s12.1), .v (.int .i64 s23.1), .rf 2 0 ((s12.2.map iC).length) 1, .rf 3 0 ((s23.2.map iC).length) 1]]⟩), (2, some ⟨3, 1, s12.2.map iC⟩), (3, some ⟨3, 1, s23.2.map iC⟩)], 1⟩ ?_ ?_
  · refine w_seq (w_region (by rfl) (dv1 (l_field fd44_0 rfl) (dv1 (l_load ty3 rfl rfl rfl rfl rfl) (dv1 (l_bin rfl rfl b_eql) (dvE (q_seq ?_))))))
    rcases condE hF with ⟨b25, hF⟩ | ⟨b25, hF⟩
    · refine w_condT rfl b25 ?_
      refine w_draw [[], [0], [], [2], [2, 3], [0, 1], [0, 1, 2, 3, 4, 5], [0, 1, 2, 3, 4, 5, 6], [0, 1, 2, 3, 4, 5, 6, 7]] [0, 1, 2, 3, 5, 4, 6, 7, 8] (by kernel_rfl) (by rfl) ⟨by decide, by rfl⟩ (by rfl) ?_
      refine de1 rfl (l_field fd44_3 rfl) rfl (de1 rfl (l_load ty3 rfl rfl rfl rfl rfl) rfl (de1 rfl (l_field fd44_5 rfl) rfl (de1 rfl (l_load ty27 rfl rfl rfl rfl rfl) rfl (de1 rfl (l_field fd44_3 rfl) rfl ?_))))
      obtain ⟨y26, h27, hF⟩ := bindE hF
      refine deC1 rfl (l_call (B := false) (FnI.mk' (by kernel_rfl)) (.cons (.ro _) (.one (.ro _)) .nil) (p_slices_Clone_int_int_ac h27) (okF p_slices_Clone_int_int_ok)) rfl ?_
      refine deS rfl (l_store ty3 rfl (.v _) rfl rfl rfl (Nat.le_of_ble_eq_true rfl) rfl) rfl (de1 rfl (l_field fd44_5 rfl) rfl (deS rfl (l_store ty27 rfl (.rf _ _ _ _) rfl rfl rfl (Nat.le_of_ble_eq_true rfl) rfl) rfl (ddE ?_)))
      cases hF
      refine q_join ?_
      exact (le_of [(0, some 1), (1, some 2), (2, some 3), (3, some 576)] rfl (.s (.s .nil rfl) rfl) (.box rfl rfl (.s rfl) (.box rfl rfl (.s rfl) (.row rfl rfl rfl (clm k_iC _) (.row rfl rfl rfl (clm k_iC _) .nil)))))
    · refine w_condF rfl b25 ?_
      refine w_skip ?_
      cases hF
      refine q_join ?_
      exact (le_of [(0, some 1), (1, some 2), (2, some 3), (3, none)] rfl (.s (.s .nil rfl) rfl) (.box rfl rfl (.s rfl) (.box rfl rfl (.cons (.v rfl) (.cons (.v rfl) (.cons (.v rfl) (.cons (.v rfl) (.cons (.rf rfl rfl) (.cons (.nil ⟨by simp, rfl⟩) .nil)))))) (.row rfl rfl rfl (clm k_iC _) (.new ⟨by simp, rfl⟩ .nil)))))
  replace hF := hG24
  refine w_seq (w_region (by rfl) (dv1 (l_loadA ty44 rfl rfl rfl rfl rfl) (dvS (l_store ty44 rfl (.ag _) rfl rfl rfl (Nat.le_of_ble_eq_true rfl) rfl) (dvE (q_seq (w_ret ?_))))))
  cases hF
  refine q_end (.inr rfl) ?_
  exact ret_ok rfl (.cons (.cellA ty44 rfl rfl rfl (.cons (.of (.v _)) (.cons (.of (.v _)) (.cons (.of (.v _)) (.cons (.of (.v _)) (.cons (.of (.rf rfl rfl (clm k_iC _))) (.cons (.of (.rf rfl rfl (clm k_iC _))) .nil))))))) .nil) (by decide) rfl

def p_kind_fieldsOf (a0 : Int) : Option ByteArray :=
(((bif decide (a0 < 0) then
some true
else
some (decide ((26 : Int) ≤ a0)))).bind fun (s2 : Bool) =>
(bif s2 then
some ⟨#[]⟩
else
((atI fldT a0).bind fun x6 =>
some x6)))

theorem p_kind_fieldsOf_ok {r : ByteArray} : rOk (.v (.string r)) = true ∧ FrT (.v (.string r)) := ⟨rfl, (.one (.cl (.v _)))⟩

set_option maxRecDepth 10000 in
set_option maxHeartbeats 4000000 in
theorem p_kind_fieldsOf_ac {a0 : Int} {r : ByteArray} (hF : p_kind_fieldsOf a0 = some r) : AC Tryd.prog GT 63 [.v (.int .i64 a0)] (fun c => c = .v (.string r)) := by
  unfold p_kind_fieldsOf at hF
  refine AC.mk (nt := 12) Tryd.func63 rfl rfl rfl fun w N => ?_
  refine w_seq (w_region (by rfl) (dv1 (l_assign (.v _)) (dvE (q_seq (w_seq ?_)))))
  obtain ⟨s2, hF, hG3⟩ := bindE hF
  refine w_seqJ ⟨[(0, .v (.int .i64 a0)), (8, .v (.bool s2))], [], 1⟩ ?_ ?_
  · refine w_region (by rfl) (dv1 (l_move (.v _)) (dv1 (l_bin rfl rfl b_lss) (dv1 (l_move (.v _)) ?_)))
    rcases condE hF with ⟨b4, hF⟩ | ⟨b4, hF⟩
    · refine dv1 (l_gF rfl rfl (gt rfl b4) rfl) (dv1 (l_gF rfl rfl (gt rfl b4) rfl) (dv1 (l_pickT (gt rfl b4) (.v _)) (dvE ?_)))
      cases hF
      refine q_join ?_
      exact (le_of [] rfl (.s (.s .nil rfl) rfl) .nil)
    · refine dv1 (l_gT rfl rfl (gt rfl b4) fun _ => l_move (.v _)) (dv1 (l_gT rfl rfl (gt rfl b4) fun _ => l_bin rfl rfl b_geq) (dv1 (l_pickF (gt rfl b4) (.v _)) (dvE ?_)))
      cases hF
      refine q_join ?_
      exact (le_of [] rfl (.s (.s .nil rfl) rfl) .nil)
  replace hF := hG3
  rcases condE hF with ⟨b5, hF⟩ | ⟨b5, hF⟩
  · refine w_condT rfl b5 ?_
    refine w_seq (w_region (by rfl) (dv1 (l_assign (.v _)) (dvE (q_seq (w_ret (q_reS ?_))))))
    cases hF
    refine q_end (.inr rfl) ?_
    exact ret_ok rfl (.cons (.tmp (.v _) (.v _)) .nil) (by decide) rfl
  · refine w_condF rfl b5 ?_
    refine w_skip (q_seq (w_seq (w_region (by rfl) (dv1 (l_move (.v _)) ?_))))
    obtain ⟨x6, h7, hF⟩ := bindE hF
    refine dv1 (l_indexG a0.toNat ar104 gt_fldT rfl (atI_z h7) (lt_cg (lt_gt (atI_at h7)) rfl)) (dv1 (l_loadRo ty9 rfl (map_at (atI_at h7))) (dv1 (l_assign (.v _)) (dvE (q_seq (w_ret ?_)))))
    cases hF
    refine q_end (.inr rfl) ?_
    exact ret_ok rfl (.cons (.tmp (.v _) (.v _)) .nil) (by decide) rfl

def p_kind_plain (a0 : MOp) : Option MOp :=
((((p_kind_fieldsOf a0.K).bind fun y10 =>
(ck (y10.size ≤ 140737488355328)
((loop (fun (s3013 : Int × Int × Int × Int × ByteArray × (List Int) × Bool × Nat) =>
(bif decide (s3013.2.2.2.2.2.2.2 < (bytesL y10).length) then
(((((bytesL y10)[s3013.2.2.2.2.2.2.2]?).bind fun x3028 =>
(bif decide (x3028 = 78) then
some (s3013.1, s3013.2.1, s3013.2.2.1, a0.N, s3013.2.2.2.2.1, s3013.2.2.2.2.2.1, s3013.2.2.2.2.2.2.1)
else
(bif decide (x3028 = 83) then
some (s3013.1, s3013.2.1, s3013.2.2.1, s3013.2.2.2.1, a0.S, s3013.2.2.2.2.2.1, s3013.2.2.2.2.2.2.1)
else
(bif decide (x3028 = 65) then
some (a0.A, s3013.2.1, s3013.2.2.1, s3013.2.2.2.1, s3013.2.2.2.2.1, s3013.2.2.2.2.2.1, s3013.2.2.2.2.2.2.1)
else
(bif decide (x3028 = 66) then
some (s3013.1, a0.B, s3013.2.2.1, s3013.2.2.2.1, s3013.2.2.2.2.1, s3013.2.2.2.2.2.1, s3013.2.2.2.2.2.2.1)
else
(bif decide (x3028 = 67) then
some (s3013.1, s3013.2.1, a0.C, s3013.2.2.2.1, s3013.2.2.2.2.1, s3013.2.2.2.2.2.1, s3013.2.2.2.2.2.2.1)
else
(bif decide (x3028 = 76) then
((p_slices_Clone_int_int a0.L).bind fun y3036 =>
some (s3013.1, s3013.2.1, s3013.2.2.1, s3013.2.2.2.1, s3013.2.2.2.2.1, y3036, s3013.2.2.2.2.2.2.1))
else
(bif decide (x3028 = 75) then
some (s3013.1, s3013.2.1, s3013.2.2.1, s3013.2.2.2.1, s3013.2.2.2.2.1, s3013.2.2.2.2.2.1, a0.Stack)
else
some (s3013.1, s3013.2.1, s3013.2.2.1, s3013.2.2.2.1, s3013.2.2.2.2.1, s3013.2.2.2.2.2.1, s3013.2.2.2.2.2.2.1)))))))))).bind fun (s3026 : Int × Int × Int × Int × ByteArray × (List Int) × Bool) =>
some (Xt.go (s3026.1, s3026.2.1, s3026.2.2.1, s3026.2.2.2.1, s3026.2.2.2.2.1, s3026.2.2.2.2.2.1, s3026.2.2.2.2.2.2, (s3013.2.2.2.2.2.2.2 + 1))))
else
some (Xt.out (s3013.1, s3013.2.1, s3013.2.2.1, s3013.2.2.2.1, s3013.2.2.2.2.1, s3013.2.2.2.2.2.1, s3013.2.2.2.2.2.2.1)))) Fu (0, 0, 0, 0, ⟨#[]⟩, [], false, 0)))))).bind fun (s8 : Int × Int × Int × Int × ByteArray × (List Int) × Bool) =>
some (⟨a0.K, s8.1, s8.2.1, s8.2.2.1, s8.2.2.2.1, s8.2.2.2.2.1, s8.2.2.2.2.2.1, s8.2.2.2.2.2.2⟩ : MOp))

theorem p_kind_plain_ok {r : MOp} : rOk (.ag (MOp.ct r)) = true ∧ FrT (.ag (MOp.ct r)) := ⟨rfl, (.one (.ag (k_MOpct _)))⟩

set_option maxRecDepth 10000 in
set_option maxHeartbeats 4000000 in
theorem p_kind_plain_ac {a0 : MOp} {r : MOp} (hF : p_kind_plain a0 = some r) : AC Tryd.prog GT 48 [.ag (MOp.ct a0)] (fun c => c = .ag (MOp.ct r)) := by
  unfold p_kind_plain at hF
  refine AC.mk (nt := 57) Tryd.func48 rfl rfl rfl fun w N => ?_
  refine w_seq (w_region (by rfl) (dvN (l_box (.ag _) rfl rfl) (dvN (l_alloc zt49) (dvE (q_seq (w_seq (w_region (by rfl) (dv1 (l_field fd49_0 rfl) ?_))))))))
  refine dv1 (l_load ty3 rfl rfl rfl rfl rfl) (dv1 (l_build st49 zt49 (.cons (.v _) .nil) rfl rfl) (dvN (l_alloc zt49) (dvS (l_store ty49 rfl (.ag _) rfl rfl rfl (Nat.le_of_ble_eq_true rfl) rfl) (dvE (q_seq ?_)))))
  obtain ⟨s8, hF, hG9⟩ := bindE hF
  refine w_seqJ ⟨[(2, .ad 0 8 0 0), (3, .ad 1 8 0 0)], [(0, some ⟨49, 8, [[.v (.int .i64 0), .v (.int .i64 0), .v (.int .i64 0), .v (.int .i64 0), .v (.int .i64 0), .v (.string ⟨#[]⟩), .v (.slice none 0 0), .v (.bool false)]]⟩), (1, some ⟨49, 8, [[.v (.int .i64 a0.K), .v (.int .i64 s8.1), .v (.int .i64 s8.2.1), .v (.int .i64 s8.2.2.1), .v (.int .i64 s8.2.2.2.1), .v (.string s8.2.2.2.2.1), .rf 2 0 ((s8.2.2.2.2.2.1.map iC).length) 1, .v (.bool s8.2.2.2.2.2.2)]]⟩), (2, some ⟨3, 1, s8.2.2.2.2.2.1.map iC⟩)], 1⟩ ?_ ?_
  · refine w_seq (w_region (by rfl) (dv1 (l_field fd49_0 rfl) (dv1 (l_load ty3 rfl rfl rfl rfl rfl) ?_)))
    obtain ⟨y10, h11, hF⟩ := bindE hF
    refine dvC (l_call (B := false) (FnI.mk' (by kernel_rfl)) (.cons (.v _) (.one (.v _)) .nil) (p_kind_fieldsOf_ac h11) (okF p_kind_fieldsOf_ok)) ?_
    rintro _ rfl
    obtain ⟨c12, hF⟩ := ckE hF
    refine dv1 (l_convB (e := 5) ⟨by kernel_rfl, by kernel_rfl, by kernel_rfl⟩ rfl c12) (dv1 (l_lenRo sl90 rfl rfl (List.length_map _)) (dv1 (l_move (.v _)) (dvE (q_seq (w_block (w_loopF hF (fun (s3013 : Int × Int × Int × Int × ByteArray × (List Int) × Bool × Nat) => ⟨[(1, .ad 0 8 0 0), (2, .ad 1 8 0 0), (3, .ad 2 8 0 0), (12, .ro (.sl 5 1 ((bytesL y10).map uC))), (13, .v (.int .i64 (((bytesL y10).length : Nat) : Int))), (14, .v (.int .i64 ((s3013.2.2.2.2.2.2.2 : Nat) : Int)))], [(0, some ⟨49, 8, [[.v (.int .i64 a0.K), .v (.int .i64 a0.A), .v (.int .i64 a0.B), .v (.int .i64 a0.C), .v (.int .i64 a0.N), .v (.string a0.S), .ro (.sl 3 1 (a0.L.map iC)), .v (.bool a0.Stack)]]⟩), (1, some ⟨49, 8, [[.v (.int .i64 0), .v (.int .i64 0), .v (.int .i64 0), .v (.int .i64 0), .v (.int .i64 0), .v (.string ⟨#[]⟩), .v (.slice none 0 0), .v (.bool false)]]⟩), (2, some ⟨49, 8, [[.v (.int .i64 a0.K), .v (.int .i64 s3013.1), .v (.int .i64 s3013.2.1), .v (.int .i64 s3013.2.2.1), .v (.int .i64 s3013.2.2.2.1), .v (.string s3013.2.2.2.2.1), .rf 3 0 ((s3013.2.2.2.2.2.1.map iC).length) 1, .v (.bool s3013.2.2.2.2.2.2.1)]]⟩), (3, some ⟨3, 1, s3013.2.2.2.2.2.1.map iC⟩)], 1⟩) (le_of [(0, some 0), (1, some 64), (2, some 320), (3, none)] rfl (.s (.s (.s (.s (.s (.s .nil rfl) rfl) rfl) rfl) rfl) rfl) (.box rfl rfl (.s rfl) (.box rfl rfl (.s rfl) (.box rfl rfl (.cons (.v rfl) (.cons (.v rfl) (.cons (.v rfl) (.cons (.v rfl) (.cons (.v rfl) (.cons (.v rfl) (.cons (.nil ⟨by simp, rfl⟩) (.cons (.v rfl) .nil)))))))) (.new ⟨by simp, rfl⟩ .nil))))) ?_))))))
    intro s3013 y3014 hF hx3015
    refine w_seq (w_region (by rfl) (dv1 (l_bin rfl rfl b_lssN) (dvE (q_seq (w_seq ?_)))))
    rcases condE hF with ⟨b3017, hF⟩ | ⟨b3017, hF⟩
    · refine w_lenS 12 rfl fun l3018 => ?_
      refine w_condT rfl b3017 ?_
      refine w_skip (q_seq ?_)
      obtain ⟨s3026, hF, hG3027⟩ := bindE hF
      refine w_seqJ ⟨[(1, .ad 0 8 0 0), (2, .ad 1 8 0 0), (3, .ad 2 8 0 0), (12, .ro (.sl 5 1 ((bytesL y10).map uC))), (13, .v (.int .i64 (((bytesL y10).length : Nat) : Int))), (14, .v (.int .i64 ((s3013.2.2.2.2.2.2.2 : Nat) : Int)))], [(0, some ⟨49, 8, [[.v (.int .i64 a0.K), .v (.int .i64 a0.A), .v (.int .i64 a0.B), .v (.int .i64 a0.C), .v (.int .i64 a0.N), .v (.string a0.S), .ro (.sl 3 1 (a0.L.map iC)), .v (.bool a0.Stack)]]⟩), (1, some ⟨49, 8, [[.v (.int .i64 0), .v (.int .i64 0), .v (.int .i64 0), .v (.int .i64 0), .v (.int .i64 0), .v (.string ⟨#[]⟩), .v (.slice none 0 0), .v (.bool false)]]⟩), (2, some ⟨49, 8, [[.v (.int .i64 a0.K), .v (.int .i64 s3026.1), .v (.int .i64 s3026.2.1), .v (.int .i64 s3026.2.2.1), .v (.int .i64 s3026.2.2.2.1), .v (.string s3026.2.2.2.2.1), .rf 3 0 ((s3026.2.2.2.2.2.1.map iC).length) 1, .v (.bool s3026.2.2.2.2.2.2)]]⟩), (3, some ⟨3, 1, s3026.2.2.2.2.2.1.map iC⟩)], 1⟩ ?_ ?_
      · refine w_block (w_seq (w_region (by rfl) ?_))
        obtain ⟨x3028, h3029, hF⟩ := bindE hF
        refine dv1 (l_indexRo s3013.2.2.2.2.2.2.2 sl90 rfl rfl rfl (map_at h3029)) (dv1 (l_loadRo ty5 rfl rfl) (dv1 (l_assign (.v _)) (dvE (q_seq (w_seq (w_region (by rfl) (dv1 (l_move (.v _)) (dvE ?_))))))))
        refine q_seq (w_block (w_seq (w_region (by rfl) (dv1 (l_bin rfl rfl b_eql) (dv1 (l_assign (.v _)) (dvE (q_seq ?_)))))))
        rcases condE hF with ⟨b3030, hF⟩ | ⟨b3030, hF⟩
        · refine w_condT rfl b3030 ?_
          refine w_region (by rfl) (dv1 (l_field fd49_4 rfl) (dv1 (l_load ty2 rfl rfl rfl rfl rfl) (dv1 (l_field fd49_4 rfl) (dvS (l_store ty2 rfl (.v _) rfl rfl rfl (Nat.le_of_ble_eq_true rfl) rfl) (dvE ?_)))))
          cases hF
          refine q_in (q_in (q_join ?_))
          exact (le_of [(0, some 0), (1, some 1), (2, some 2), (3, some 3)] rfl (.s (.s (.s (.s (.s (.s .nil rfl) rfl) rfl) rfl) rfl) rfl) (.box rfl rfl (.s rfl) (.box rfl rfl (.s rfl) (.box rfl rfl (.s rfl) (.row rfl rfl rfl (clm k_iC _) .nil)))))
        · refine w_condF rfl b3030 ?_
          refine w_seq (w_region (by rfl) (dv1 (l_bin rfl rfl b_eql) (dv1 (l_assign (.v _)) (dvE (q_seq ?_)))))
          rcases condE hF with ⟨b3031, hF⟩ | ⟨b3031, hF⟩
          · refine w_condT rfl b3031 ?_
            refine w_region (by rfl) (dv1 (l_field fd49_5 rfl) (dv1 (l_load ty9 rfl rfl rfl rfl rfl) (dv1 (l_field fd49_5 rfl) (dvS (l_store ty9 rfl (.v _) rfl rfl rfl (Nat.le_of_ble_eq_true rfl) rfl) (dvE ?_)))))
            cases hF
            refine q_in (q_in (q_join ?_))
            exact (le_of [(0, some 0), (1, some 1), (2, some 2), (3, some 3)] rfl (.s (.s (.s (.s (.s (.s .nil rfl) rfl) rfl) rfl) rfl) rfl) (.box rfl rfl (.s rfl) (.box rfl rfl (.s rfl) (.box rfl rfl (.s rfl) (.row rfl rfl rfl (clm k_iC _) .nil)))))
          · refine w_condF rfl b3031 ?_
            refine w_seq (w_region (by rfl) (dv1 (l_bin rfl rfl b_eql) (dv1 (l_assign (.v _)) (dvE (q_seq ?_)))))
            rcases condE hF with ⟨b3032, hF⟩ | ⟨b3032, hF⟩
            · refine w_condT rfl b3032 ?_
              refine w_region (by rfl) (dv1 (l_field fd49_1 rfl) (dv1 (l_load ty3 rfl rfl rfl rfl rfl) (dv1 (l_field fd49_1 rfl) (dvS (l_store ty3 rfl (.v _) rfl rfl rfl (Nat.le_of_ble_eq_true rfl) rfl) (dvE ?_)))))
              cases hF
              refine q_in (q_in (q_join ?_))
              exact (le_of [(0, some 0), (1, some 1), (2, some 2), (3, some 3)] rfl (.s (.s (.s (.s (.s (.s .nil rfl) rfl) rfl) rfl) rfl) rfl) (.box rfl rfl (.s rfl) (.box rfl rfl (.s rfl) (.box rfl rfl (.s rfl) (.row rfl rfl rfl (clm k_iC _) .nil)))))
            · refine w_condF rfl b3032 ?_
              refine w_seq (w_region (by rfl) (dv1 (l_bin rfl rfl b_eql) (dv1 (l_assign (.v _)) (dvE (q_seq ?_)))))
              rcases condE hF with ⟨b3033, hF⟩ | ⟨b3033, hF⟩
              · refine w_condT rfl b3033 ?_
                refine w_region (by rfl) (dv1 (l_field fd49_2 rfl) (dv1 (l_load ty3 rfl rfl rfl rfl rfl) (dv1 (l_field fd49_2 rfl) (dvS (l_store ty3 rfl (.v _) rfl rfl rfl (Nat.le_of_ble_eq_true rfl) rfl) (dvE ?_)))))
                cases hF
                refine q_in (q_in (q_join ?_))
                exact (le_of [(0, some 0), (1, some 1), (2, some 2), (3, some 3)] rfl (.s (.s (.s (.s (.s (.s .nil rfl) rfl) rfl) rfl) rfl) rfl) (.box rfl rfl (.s rfl) (.box rfl rfl (.s rfl) (.box rfl rfl (.s rfl) (.row rfl rfl rfl (clm k_iC _) .nil)))))
              · refine w_condF rfl b3033 ?_
                refine w_seq (w_region (by rfl) (dv1 (l_bin rfl rfl b_eql) (dv1 (l_assign (.v _)) (dvE (q_seq ?_)))))
                rcases condE hF with ⟨b3034, hF⟩ | ⟨b3034, hF⟩
                · refine w_condT rfl b3034 ?_
                  refine w_region (by rfl) (dv1 (l_field fd49_3 rfl) (dv1 (l_load ty3 rfl rfl rfl rfl rfl) (dv1 (l_field fd49_3 rfl) (dvS (l_store ty3 rfl (.v _) rfl rfl rfl (Nat.le_of_ble_eq_true rfl) rfl) (dvE ?_)))))
                  cases hF
                  refine q_in (q_in (q_join ?_))
                  exact (le_of [(0, some 0), (1, some 1), (2, some 2), (3, some 3)] rfl (.s (.s (.s (.s (.s (.s .nil rfl) rfl) rfl) rfl) rfl) rfl) (.box rfl rfl (.s rfl) (.box rfl rfl (.s rfl) (.box rfl rfl (.s rfl) (.row rfl rfl rfl (clm k_iC _) .nil)))))
                · refine w_condF rfl b3034 ?_
                  refine w_seq (w_region (by rfl) (dv1 (l_bin rfl rfl b_eql) (dv1 (l_assign (.v _)) (dvE (q_seq ?_)))))
                  rcases condE hF with ⟨b3035, hF⟩ | ⟨b3035, hF⟩
                  · refine w_condT rfl b3035 ?_
                    refine w_region (by rfl) (dv1 (l_field fd49_6 rfl) (dv1 (l_load ty27 rfl rfl rfl rfl rfl) ?_))
                    obtain ⟨y3036, h3037, hF⟩ := bindE hF
                    refine dvC (l_call (B := false) (FnI.mk' (by kernel_rfl)) (.cons (.ro _) (.one (.ro _)) .nil) (p_slices_Clone_int_int_ac h3037) (okF p_slices_Clone_int_int_ok)) ?_
                    rintro _ rfl
                    refine dv1 (l_field fd49_6 rfl) (dvS (l_store ty27 rfl (.rf _ _ _ _) rfl rfl rfl (Nat.le_of_ble_eq_true rfl) rfl) (dvE ?_))
                    cases hF
                    refine q_in (q_in (q_join ?_))
                    exact (le_of [(0, some 0), (1, some 1), (2, some 2), (3, some 1280)] rfl (.s (.s (.s (.s (.s (.s .nil rfl) rfl) rfl) rfl) rfl) rfl) (.box rfl rfl (.s rfl) (.box rfl rfl (.s rfl) (.box rfl rfl (.s rfl) (.row rfl rfl rfl (clm k_iC _) .nil)))))
                  · refine w_condF rfl b3035 ?_
                    refine w_seq (w_region (by rfl) (dv1 (l_bin rfl rfl b_eql) (dv1 (l_assign (.v _)) (dvE (q_seq ?_)))))
                    rcases condE hF with ⟨b3038, hF⟩ | ⟨b3038, hF⟩
                    · refine w_condT rfl b3038 ?_
                      refine w_region (by rfl) (dv1 (l_field fd49_7 rfl) (dv1 (l_load ty4 rfl rfl rfl rfl rfl) (dv1 (l_field fd49_7 rfl) (dvS (l_store ty4 rfl (.v _) rfl rfl rfl (Nat.le_of_ble_eq_true rfl) rfl) (dvE ?_)))))
                      cases hF
                      refine q_in (q_in (q_join ?_))
                      exact (le_of [(0, some 0), (1, some 1), (2, some 2), (3, some 3)] rfl (.s (.s (.s (.s (.s (.s .nil rfl) rfl) rfl) rfl) rfl) rfl) (.box rfl rfl (.s rfl) (.box rfl rfl (.s rfl) (.box rfl rfl (.s rfl) (.row rfl rfl rfl (clm k_iC _) .nil)))))
                    · refine w_condF rfl b3038 ?_
                      refine w_skip ?_
                      cases hF
                      refine q_in (q_in (q_join ?_))
                      exact (le_of [(0, some 0), (1, some 1), (2, some 2), (3, some 3)] rfl (.s (.s (.s (.s (.s (.s .nil rfl) rfl) rfl) rfl) rfl) rfl) (.box rfl rfl (.s rfl) (.box rfl rfl (.s rfl) (.box rfl rfl (.s rfl) (.row rfl rfl rfl (clm k_iC _) .nil)))))
      replace hF := hG3027
      refine w_region (by rfl) (dv1 (l_bin rfl rfl (b_incN (of_decide_eq_true b3017) l3018)) (dv1 (l_move (.v _)) (dvE ?_)))
      cases hF
      refine qL rfl ?_
      exact (le_of [(0, some 0), (1, some 1), (2, some 2), (3, some 3)] rfl (.s (.s (.s (.s (.s (.s .nil rfl) rfl) rfl) rfl) rfl) rfl) (.box rfl rfl (.s rfl) (.box rfl rfl (.s rfl) (.box rfl rfl (.s rfl) (.row rfl rfl rfl (clm k_iC _) .nil)))))
    · refine w_condF rfl b3017 ?_
      refine w_exit ?_
      cases hF
      cases hx3015 _ rfl
      refine q_exS (q_exS (q_here (q_join ?_)))
      exact (le_of [(0, some 1), (1, some 2), (2, some 3)] rfl (.s (.s .nil rfl) rfl) (.box rfl rfl (.s rfl) (.box rfl rfl (.s rfl) (.row rfl rfl rfl (clm k_iC _) .nil))))
  replace hF := hG9
  refine w_seq (w_region (by rfl) (dv1 (l_loadA ty49 rfl rfl rfl rfl rfl) (dvS (l_store ty49 rfl (.ag _) rfl rfl rfl (Nat.le_of_ble_eq_true rfl) rfl) (dvE (q_seq (w_ret ?_))))))
  cases hF
  refine q_end (.inr rfl) ?_
  exact ret_ok rfl (.cons (.cellA ty49 rfl rfl rfl (.cons (.of (.v _)) (.cons (.of (.v _)) (.cons (.of (.v _)) (.cons (.of (.v _)) (.cons (.of (.v _)) (.cons (.of (.v _)) (.cons (.of (.rf rfl rfl (clm k_iC _))) (.cons (.of (.v _)) .nil))))))))) .nil) (by decide) rfl

def p_kind_Plain (a0 : MOp) : Option MOp :=
((p_kind_plain a0).bind fun y1 =>
some y1)

theorem p_kind_Plain_ok {r : MOp} : rOk (.ag (MOp.ct r)) = true ∧ FrT (.ag (MOp.ct r)) := ⟨rfl, (.one (.ag (k_MOpct _)))⟩

set_option maxRecDepth 10000 in
set_option maxHeartbeats 4000000 in
theorem p_kind_Plain_ac {a0 : MOp} {r : MOp} (hF : p_kind_Plain a0 = some r) : AC Tryd.prog GT 71 [.ag (MOp.ct a0)] (fun c => c = .ag (MOp.ct r)) := by
  unfold p_kind_Plain at hF
  refine AC.mk (nt := 5) Tryd.func71 rfl rfl rfl fun w N => ?_
  refine w_seq (w_region (by rfl) (dvN (l_box (.ag _) rfl rfl) (dvN (l_alloc zt49) (dvE (q_seq (w_seq (w_region (by rfl) (dv1 (l_loadA ty49 rfl rfl rfl rfl rfl) ?_))))))))
  obtain ⟨y1, h2, hF⟩ := bindE hF
  refine dvC (l_call (B := false) (FnI.mk' (by kernel_rfl)) (.cons (.ag _) (.ag (.cons (.v _) (.cons (.v _) (.cons (.v _) (.cons (.v _) (.cons (.v _) (.cons (.v _) (.cons (.ro _) (.cons (.v _) .nil))))))))) .nil) (p_kind_plain_ac h2) (okF p_kind_plain_ok)) ?_
  rintro _ rfl
  refine dvS (l_store ty49 rfl (.ag _) rfl rfl rfl (Nat.le_of_ble_eq_true rfl) rfl) (dvE (q_seq (w_ret ?_)))
  cases hF
  refine q_end (.inr rfl) ?_
  exact ret_ok rfl (.cons (.cellA ty49 rfl rfl rfl (.cons (.of (.v _)) (.cons (.of (.v _)) (.cons (.of (.v _)) (.cons (.of (.v _)) (.cons (.of (.v _)) (.cons (.of (.v _)) (.cons (.of (.rf rfl rfl (clm k_iC _))) (.cons (.of (.v _)) .nil))))))))) .nil) (by decide) rfl

def p_code_own (a0 : Option MPrg) : Option ((Option MPrg)) :=
(optC a0
(some none)
(fun p1 =>
(((loop (fun (s3005 : (List MSig) × Nat) =>
(bif decide (s3005.2 < p1.Sigs.length) then
((p1.Sigs[s3005.2]?).bind fun x3011 =>
((p_slices_Clone_int_int x3011.Params).bind fun y3013 =>
(ck ((s3005.1.length + 1) * 32 ≤ 140737488355328)
(some (Xt.go ((s3005.1 ++ [(⟨y3013, x3011.Ret⟩ : MSig)]), (s3005.2 + 1)))))))
else
some (Xt.out s3005.1))) Fu ([], 0))).bind fun (s3 : (List MSig)) =>
(((loop (fun (s6019 : (List MCls) × Nat) =>
(bif decide (s6019.2 < p1.Classes.length) then
((p1.Classes[s6019.2]?).bind fun x6025 =>
((p_slices_Clone_int_int x6025.Fields).bind fun y6027 =>
((p_slices_Clone_int_int x6025.Methods).bind fun y6029 =>
(ck ((s6019.1.length + 1) * 48 ≤ 140737488355328)
(some (Xt.go ((s6019.1 ++ [(⟨y6027, y6029⟩ : MCls)]), (s6019.2 + 1))))))))
else
some (Xt.out s6019.1))) Fu ([], 0))).bind fun (s3017 : (List MCls)) =>
(((loop (fun (s9035 : (List MFun) × Nat) =>
(bif decide (s9035.2 < p1.Funcs.length) then
((((p1.Funcs[s9035.2]?).bind fun x9044 =>
(((loop (fun (s12049 : (List MBlk) × Nat) =>
(bif decide (s12049.2 < x9044.Blocks.length) then
((((x9044.Blocks[s12049.2]?).bind fun x12058 =>
((p_slices_Clone_int_int x12058.Params).bind fun y12060 =>
((p_code_ownEnd x12058.End).bind fun y12062 =>
(((loop (fun (s15067 : (List MOp) × Nat) =>
(bif decide (s15067.2 < x12058.Ops.length) then
((x12058.Ops[s15067.2]?).bind fun x15073 =>
((p_kind_Plain x15073).bind fun y15075 =>
(ck ((s15067.1.length + 1) * 88 ≤ 140737488355328)
(some (Xt.go ((s15067.1 ++ [y15075]), (s15067.2 + 1)))))))
else
some (Xt.out s15067.1))) Fu ([], 0))).bind fun (s12065 : (List MOp)) =>
(ck ((s12049.1.length + 1) * 128 ≤ 140737488355328)
(some (s12049.1 ++ [(⟨y12060, s12065, y12062⟩ : MBlk)])))))))).bind fun (s12056 : (List MBlk)) =>
some (Xt.go (s12056, (s12049.2 + 1))))
else
some (Xt.out s12049.1))) Fu ([], 0))).bind fun (s9047 : (List MBlk)) =>
(ck ((s9035.1.length + 1) * 32 ≤ 140737488355328)
(some (s9035.1 ++ [(⟨x9044.Ret, s9047⟩ : MFun)])))))).bind fun (s9042 : (List MFun)) =>
some (Xt.go (s9042, (s9035.2 + 1))))
else
some (Xt.out s9035.1))) Fu ([], 0))).bind fun (s6033 : (List MFun)) =>
some (some (⟨s3, s3017, s6033⟩ : MPrg)))))))

theorem p_code_own_ok {r : (Option MPrg)} : rOk (opC 26 3 MPrg.ct r) = true ∧ FrT (opC 26 3 MPrg.ct r) := opok k_MPrgct r

set_option maxRecDepth 10000 in
set_option maxHeartbeats 4000000 in
theorem p_code_own_ac {a0 : Option MPrg} {r : (Option MPrg)} (hF : p_code_own a0 = some r) : AC Tryd.prog GT 62 [ptC MPrg.ct a0] (fun c => c = opC 26 3 MPrg.ct r) := by
  unfold p_code_own at hF
  refine AC.mk (nt := 131) Tryd.func62 rfl rfl rfl fun w N => ?_
  rcases a0 with _ | p1
  · replace hF := optN hF
    refine w_seq (w_region (by rfl) (dv1 (l_assign (.v _)) (dvE (q_seq (w_seq (w_seq (w_region (by rfl) (dv1 (l_move (.v _)) ?_))))))))
    refine dv1 (l_ptrNil (by kernel_rfl) rfl) (dvE (q_seq (w_true rfl (w_seq (w_region (by rfl) (dv1 (l_assign (.v _)) (dvE (q_seq ?_))))))))
    refine w_ret (q_reS ?_)
    cases hF
    refine q_end (.inr rfl) ?_
    exact ret_ok rfl (.cons (.tmp (.v _) (.v _)) .nil) (by decide) rfl
  · replace hF := optS hF
    refine w_seq (w_region (by rfl) (dv1 (l_assign (.v _)) (dvE (q_seq (w_seq (w_seq (w_region (by rfl) (dv1 (l_move (.ro _)) ?_))))))))
    refine dv1 (l_ptrRo (by kernel_rfl) rfl) (dvE (q_seq (w_false rfl (w_skip (q_seq (w_seq (w_region (by rfl) (dv1 (l_build st26 zt26 .nil rfl rfl) ?_))))))))
    refine dvN (l_box (.ag _) rfl rfl) (dv1 (l_assign (.ad _ _ _ _)) (dvE (q_seq ?_)))
    obtain ⟨s3, hF, hG4⟩ := bindE hF
    refine w_seqJ ⟨[(0, .ro (.rp (MPrg.ct p1) 0)), (3, .ad 0 3 0 0)], [(0, some ⟨26, 3, [[.rf 1 0 ((s3.map MSig.ct).length) 2, .v (.slice none 0 0), .v (.slice none 0 0)]]⟩), (1, some ⟨64, 2, s3.map MSig.ct⟩)], 1⟩ ?_ ?_
    · refine w_seq (w_region (by rfl) (dv1 (l_move (.ro _)) (dv1 (l_nilRo rfl) (dv1 (l_fieldRo fd26_0 rfl) (dv1 (l_loadRo ty22 rfl rfl) (dv1 (l_lenRo sl22 rfl rfl (List.length_map _)) (dv1 (l_move (.v _)) (dvE ?_))))))))
      refine q_seq (w_block (w_loopF hF (fun (s3005 : (List MSig) × Nat) => ⟨[(0, .ro (.rp (MPrg.ct p1) 0)), (3, .ad 0 3 0 0), (23, .ro (.sl 64 2 (p1.Sigs.map MSig.ct))), (24, .v (.int .i64 ((p1.Sigs.length : Nat) : Int))), (25, .v (.int .i64 ((s3005.2 : Nat) : Int)))], [(0, some ⟨26, 3, [[.rf 1 0 ((s3005.1.map MSig.ct).length) 2, .v (.slice none 0 0), .v (.slice none 0 0)]]⟩), (1, some ⟨64, 2, s3005.1.map MSig.ct⟩)], 1⟩) (le_of [(0, some 256), (1, none)] rfl (.s (.s (.s (.s (.s .nil rfl) rfl) rfl) rfl) rfl) (.box rfl rfl (.cons (.nil ⟨by simp, rfl⟩) (.cons (.v rfl) (.cons (.v rfl) .nil))) (.new ⟨by simp, rfl⟩ .nil))) ?_))
      intro s3005 y3006 hF hx3007
      refine w_seq (w_region (by rfl) (dv1 (l_bin rfl rfl b_lssN) (dvE (q_seq (w_seq ?_)))))
      rcases condE hF with ⟨b3009, hF⟩ | ⟨b3009, hF⟩
      · refine w_lenS 23 rfl fun l3010 => ?_
        refine w_condT rfl b3009 ?_
        refine w_skip (q_seq (w_seq (w_block (w_seq (w_region (by rfl) ?_)))))
        obtain ⟨x3011, h3012, hF⟩ := bindE hF
        refine dv1 (l_indexRo s3005.2 sl22 rfl rfl rfl (map_at h3012)) (dv1 (l_loadARo ty64 rfl rfl) (dvN (l_alloc zt64) (dvS (l_store ty64 rfl (.ag _) rfl rfl rfl (Nat.le_of_ble_eq_true rfl) rfl) (dvE (q_seq (w_draw [[], [], [1], [1, 2], [1, 2, 3], [], [5], [5, 6], [], [8], [5, 6, 7, 8, 9], [5, 6, 7, 8, 9, 10], [1, 2, 3, 4, 5, 6, 7, 8, 9, 10, 11], [0, 1, 2, 3, 4, 5, 6, 7, 8, 9, 10, 11, 12], [0, 1, 2, 3, 4, 5, 6, 7, 8, 9, 10, 11, 12, 13], [0, 1, 2, 3, 4, 5, 6, 7, 8, 9, 10, 11, 12, 13, 14]] [0, 1, 2, 3, 4, 5, 6, 8, 9, 7, 10, 11, 12, 13, 14, 15] (by kernel_rfl) (by rfl) ⟨by decide, by rfl⟩ (by rfl) ?_))))))
        refine de1 rfl (l_move (.ad _ _ _ _)) rfl (de1 rfl (l_move (.ad _ _ _ _)) rfl (de1 rfl (l_nil rfl) rfl (de1 rfl (l_field fd26_0 rfl) rfl (de1 rfl (l_load ty22 rfl rfl rfl rfl rfl) rfl (de1 rfl (l_field fd64_0 rfl) rfl (de1 rfl (l_load ty27 rfl rfl rfl rfl rfl) rfl (de1 rfl (l_field fd64_1 rfl) rfl (de1 rfl (l_load ty3 rfl rfl rfl rfl rfl) rfl ?_))))))))
        obtain ⟨y3013, h3014, hF⟩ := bindE hF
        refine deC1 rfl (l_call (B := false) (FnI.mk' (by kernel_rfl)) (.cons (.ro _) (.one (.ro _)) .nil) (p_slices_Clone_int_int_ac h3014) (okF p_slices_Clone_int_int_ok)) rfl ?_
        refine de1 rfl (l_build st64 zt64 (.cons (.rf _ _ _ _) (.cons (.v _) .nil)) rfl rfl) rfl (deN rfl (l_bs1 sl22 zt64 rfl (.ag _) rfl rfl rfl (by decide) (by decide)) rfl ?_)
        obtain ⟨c3015, hF⟩ := ckE hF
        refine deN3 rfl (l_app1R el22 rfl rfl rfl rfl rfl rfl (by decide) rfl len_snoc (by simpa using c3015) (by decide)) rfl ?_
        refine de1 rfl (l_nil rfl) rfl (de1 rfl (l_field fd26_0 rfl) rfl (deS rfl (l_store ty22 rfl (.rf _ _ _ _) rfl rfl rfl (Nat.le_of_ble_eq_true rfl) rfl) rfl (ddE (q_in (q_seq (w_region (by rfl) (dv1 (l_bin rfl rfl (b_incN (of_decide_eq_true b3009) l3010)) (dv1 (l_move (.v _)) ?_))))))))
        refine dvE ?_
        cases hF
        refine qL rfl ?_
        refine St.le.trans (le_closeR 1152 s3005.1.length rfl (snoc_at MSig.ct s3005.1 _) (.cons (.of (.rf rfl rfl (clm k_iC _))) (.cons (.of (.v _)) .nil)) (by decide) (by decide) rfl (snoc_cl MSig.ct _ _ (⟨y3013, x3011.Ret⟩ : MSig))) ?_
        exact (le_of [(0, some 0), (1, some 1152)] rfl (.s (.s (.s (.s (.s .nil rfl) rfl) rfl) rfl) rfl) (.box rfl rfl (.cons (.rf rfl (by simp)) (.cons (.v rfl) (.cons (.v rfl) .nil))) (.row rfl rfl rfl (clm k_MSigct _) .nil)))
      · refine w_condF rfl b3009 ?_
        refine w_exit ?_
        cases hF
        cases hx3007 _ rfl
        refine q_exS (q_exS (q_here (q_join ?_)))
        exact (le_of [(0, some 0), (1, some 1)] rfl (.s (.s .nil rfl) rfl) (.box rfl rfl (.s rfl) (.row rfl rfl rfl (clm k_MSigct _) .nil)))
    replace hF := hG4
    obtain ⟨s3017, hF, hG3018⟩ := bindE hF
    refine w_seqJ ⟨[(0, .ro (.rp (MPrg.ct p1) 0)), (3, .ad 0 3 0 0)], [(0, some ⟨26, 3, [[.rf 1 0 ((s3.map MSig.ct).length) 2, .rf 2 0 ((s3017.map MCls.ct).length) 2, .v (.slice none 0 0)]]⟩), (1, some ⟨64, 2, s3.map MSig.ct⟩), (2, some ⟨66, 2, s3017.map MCls.ct⟩)], 1⟩ ?_ ?_
    · refine w_seq (w_region (by rfl) (dv1 (l_move (.ro _)) (dv1 (l_nilRo rfl) (dv1 (l_fieldRo fd26_1 rfl) (dv1 (l_loadRo ty23 rfl rfl) (dv1 (l_lenRo sl23 rfl rfl (List.length_map _)) (dv1 (l_move (.v _)) (dvE ?_))))))))
      refine q_seq (w_block (w_loopF hF (fun (s6019 : (List MCls) × Nat) => ⟨[(0, .ro (.rp (MPrg.ct p1) 0)), (3, .ad 0 3 0 0), (48, .ro (.sl 66 2 (p1.Classes.map MCls.ct))), (49, .v (.int .i64 ((p1.Classes.length : Nat) : Int))), (50, .v (.int .i64 ((s6019.2 : Nat) : Int)))], [(0, some ⟨26, 3, [[.rf 1 0 ((s3.map MSig.ct).length) 2, .rf 2 0 ((s6019.1.map MCls.ct).length) 2, .v (.slice none 0 0)]]⟩), (1, some ⟨64, 2, s3.map MSig.ct⟩), (2, some ⟨66, 2, s6019.1.map MCls.ct⟩)], 1⟩) (le_of [(0, some 0), (1, some 1), (2, none)] rfl (.s (.s (.s (.s (.s .nil rfl) rfl) rfl) rfl) rfl) (.box rfl rfl (.cons (.rf rfl rfl) (.cons (.nil ⟨by simp, rfl⟩) (.cons (.v rfl) .nil))) (.row rfl rfl rfl (clm k_MSigct _) (.new ⟨by simp, rfl⟩ .nil)))) ?_))
      intro s6019 y6020 hF hx6021
      refine w_seq (w_region (by rfl) (dv1 (l_bin rfl rfl b_lssN) (dvE (q_seq (w_seq ?_)))))
      rcases condE hF with ⟨b6023, hF⟩ | ⟨b6023, hF⟩
      · refine w_lenS 48 rfl fun l6024 => ?_
        refine w_condT rfl b6023 ?_
        refine w_skip (q_seq (w_seq (w_block (w_seq (w_region (by rfl) ?_)))))
        obtain ⟨x6025, h6026, hF⟩ := bindE hF
        refine dv1 (l_indexRo s6019.2 sl23 rfl rfl rfl (map_at h6026)) (dv1 (l_loadARo ty66 rfl rfl) (dvN (l_alloc zt66) (dvS (l_store ty66 rfl (.ag _) rfl rfl rfl (Nat.le_of_ble_eq_true rfl) rfl) (dvE (q_seq (w_draw [[], [], [1], [1, 2], [1, 2, 3], [], [5], [5, 6], [], [8], [5, 6, 7, 8, 9], [5, 6, 7, 8, 9, 10], [5, 6, 7, 8, 9, 10, 11], [1, 2, 3, 4, 5, 6, 7, 8, 9, 10, 11, 12], [0, 1, 2, 3, 4, 5, 6, 7, 8, 9, 10, 11, 12, 13], [0, 1, 2, 3, 4, 5, 6, 7, 8, 9, 10, 11, 12, 13, 14], [0, 1, 2, 3, 4, 5, 6, 7, 8, 9, 10, 11, 12, 13, 14, 15]] [0, 1, 2, 3, 4, 5, 6, 8, 9, 7, 10, 11, 12, 13, 14, 15, 16] (by kernel_rfl) (by rfl) ⟨by decide, by rfl⟩ (by rfl) ?_))))))
        refine de1 rfl (l_move (.ad _ _ _ _)) rfl (de1 rfl (l_move (.ad _ _ _ _)) rfl (de1 rfl (l_nil rfl) rfl (de1 rfl (l_field fd26_1 rfl) rfl (de1 rfl (l_load ty23 rfl rfl rfl rfl rfl) rfl (de1 rfl (l_field fd66_0 rfl) rfl (de1 rfl (l_load ty27 rfl rfl rfl rfl rfl) rfl (de1 rfl (l_field fd66_1 rfl) rfl (de1 rfl (l_load ty27 rfl rfl rfl rfl rfl) rfl ?_))))))))
        obtain ⟨y6027, h6028, hF⟩ := bindE hF
        refine deC1 rfl (l_call (B := false) (FnI.mk' (by kernel_rfl)) (.cons (.ro _) (.one (.ro _)) .nil) (p_slices_Clone_int_int_ac h6028) (okF p_slices_Clone_int_int_ok)) rfl ?_
        obtain ⟨y6029, h6030, hF⟩ := bindE hF
        refine deC1 rfl (l_call (B := false) (FnI.mk' (by kernel_rfl)) (.cons (.ro _) (.one (.ro _)) .nil) (p_slices_Clone_int_int_ac h6030) (okF p_slices_Clone_int_int_ok)) rfl ?_
        refine de1 rfl (l_build st66 zt66 (.cons (.rf _ _ _ _) (.cons (.rf _ _ _ _) .nil)) rfl rfl) rfl (deN rfl (l_bs1 sl23 zt66 rfl (.ag _) rfl rfl rfl (by decide) (by decide)) rfl ?_)
        obtain ⟨c6031, hF⟩ := ckE hF
        refine deN3 rfl (l_app1R el23 rfl rfl rfl rfl rfl rfl (by decide) rfl len_snoc (by simpa using c6031) (by decide)) rfl ?_
        refine de1 rfl (l_nil rfl) rfl (de1 rfl (l_field fd26_1 rfl) rfl (deS rfl (l_store ty23 rfl (.rf _ _ _ _) rfl rfl rfl (Nat.le_of_ble_eq_true rfl) rfl) rfl (ddE (q_in (q_seq (w_region (by rfl) (dv1 (l_bin rfl rfl (b_incN (of_decide_eq_true b6023) l6024)) (dv1 (l_move (.v _)) ?_))))))))
        refine dvE ?_
        cases hF
        refine qL rfl ?_
        refine St.le.trans (le_closeR 1216 s6019.1.length rfl (snoc_at MCls.ct s6019.1 _) (.cons (.of (.rf rfl rfl (clm k_iC _))) (.cons (.of (.rf rfl rfl (clm k_iC _))) .nil)) (by decide) (by decide) rfl (snoc_cl MCls.ct _ _ (⟨y6027, y6029⟩ : MCls))) ?_
        exact (le_of [(0, some 0), (1, some 1), (2, some 1216)] rfl (.s (.s (.s (.s (.s .nil rfl) rfl) rfl) rfl) rfl) (.box rfl rfl (.cons (.rf rfl rfl) (.cons (.rf rfl (by simp)) (.cons (.v rfl) .nil))) (.row rfl rfl rfl (clm k_MSigct _) (.row rfl rfl rfl (clm k_MClsct _) .nil))))
      · refine w_condF rfl b6023 ?_
        refine w_exit ?_
        cases hF
        cases hx6021 _ rfl
        refine q_exS (q_exS (q_here (q_join ?_)))
        exact (le_of [(0, some 0), (1, some 1), (2, some 2)] rfl (.s (.s .nil rfl) rfl) (.box rfl rfl (.s rfl) (.row rfl rfl rfl (clm k_MSigct _) (.row rfl rfl rfl (clm k_MClsct _) .nil))))
    replace hF := hG3018
    obtain ⟨s6033, hF, hG6034⟩ := bindE hF
    refine w_seqJ ⟨[(3, .ad 0 3 0 0)], [(0, some ⟨26, 3, [[.rf 1 0 ((s3.map MSig.ct).length) 2, .rf 2 0 ((s3017.map MCls.ct).length) 2, .rf 3 0 ((s6033.map MFun.ct).length) 2]]⟩), (1, some ⟨64, 2, s3.map MSig.ct⟩), (2, some ⟨66, 2, s3017.map MCls.ct⟩), (3, some ⟨31, 2, s6033.map MFun.ct⟩)], 1⟩ ?_ ?_
    · refine w_seq (w_region (by rfl) (dv1 (l_move (.ro _)) (dv1 (l_nilRo rfl) (dv1 (l_fieldRo fd26_2 rfl) (dv1 (l_loadRo ty24 rfl rfl) (dv1 (l_lenRo sl24 rfl rfl (List.length_map _)) (dv1 (l_move (.v _)) (dvE ?_))))))))
      refine q_seq (w_block (w_loopF hF (fun (s9035 : (List MFun) × Nat) => ⟨[(3, .ad 0 3 0 0), (74, .ro (.sl 31 2 (p1.Funcs.map MFun.ct))), (75, .v (.int .i64 ((p1.Funcs.length : Nat) : Int))), (76, .v (.int .i64 ((s9035.2 : Nat) : Int)))], [(0, some ⟨26, 3, [[.rf 1 0 ((s3.map MSig.ct).length) 2, .rf 2 0 ((s3017.map MCls.ct).length) 2, .rf 3 0 ((s9035.1.map MFun.ct).length) 2]]⟩), (1, some ⟨64, 2, s3.map MSig.ct⟩), (2, some ⟨66, 2, s3017.map MCls.ct⟩), (3, some ⟨31, 2, s9035.1.map MFun.ct⟩)], 1⟩) (le_of [(0, some 0), (1, some 1), (2, some 2), (3, none)] rfl (.s (.s (.s (.s .nil rfl) rfl) rfl) rfl) (.box rfl rfl (.cons (.rf rfl rfl) (.cons (.rf rfl rfl) (.cons (.nil ⟨by simp, rfl⟩) .nil))) (.row rfl rfl rfl (clm k_MSigct _) (.row rfl rfl rfl (clm k_MClsct _) (.new ⟨by simp, rfl⟩ .nil))))) ?_))
      intro s9035 y9036 hF hx9037
      refine w_seq (w_region (by rfl) (dv1 (l_bin rfl rfl b_lssN) (dvE (q_seq (w_seq ?_)))))
      rcases condE hF with ⟨b9039, hF⟩ | ⟨b9039, hF⟩
      · refine w_lenS 74 rfl fun l9040 => ?_
        refine w_condT rfl b9039 ?_
        refine w_skip (q_seq ?_)
        obtain ⟨s9042, hF, hG9043⟩ := bindE hF
        refine w_seqJ ⟨[(3, .ad 0 3 0 0), (74, .ro (.sl 31 2 (p1.Funcs.map MFun.ct))), (75, .v (.int .i64 ((p1.Funcs.length : Nat) : Int))), (76, .v (.int .i64 ((s9035.2 : Nat) : Int)))], [(0, some ⟨26, 3, [[.rf 1 0 ((s3.map MSig.ct).length) 2, .rf 2 0 ((s3017.map MCls.ct).length) 2, .rf 3 0 ((s9042.map MFun.ct).length) 2]]⟩), (1, some ⟨64, 2, s3.map MSig.ct⟩), (2, some ⟨66, 2, s3017.map MCls.ct⟩), (3, some ⟨31, 2, s9042.map MFun.ct⟩)], 1⟩ ?_ ?_
        · refine w_block (w_seq (w_region (by rfl) ?_))
          obtain ⟨x9044, h9045, hF⟩ := bindE hF
          refine dv1 (l_indexRo s9035.2 sl24 rfl rfl rfl (map_at h9045)) (dv1 (l_loadARo ty31 rfl rfl) (dvN (l_alloc zt31) (dvS (l_store ty31 rfl (.ag _) rfl rfl rfl (Nat.le_of_ble_eq_true rfl) rfl) (dvE (q_seq (w_seq (w_region (by rfl) (dv1 (l_field fd31_0 rfl) ?_))))))))
          refine dv1 (l_load ty3 rfl rfl rfl rfl rfl) (dv1 (l_build st31 zt31 (.cons (.v _) .nil) rfl rfl) (dvN (l_alloc zt31) (dvS (l_store ty31 rfl (.ag _) rfl rfl rfl (Nat.le_of_ble_eq_true rfl) rfl) (dvE (q_seq ?_)))))
          obtain ⟨s9047, hF, hG9048⟩ := bindE hF
          refine w_seqJ ⟨[(3, .ad 0 3 0 0), (10, .ad 4 2 0 0), (74, .ro (.sl 31 2 (p1.Funcs.map MFun.ct))), (75, .v (.int .i64 ((p1.Funcs.length : Nat) : Int))), (76, .v (.int .i64 ((s9035.2 : Nat) : Int)))], [(0, some ⟨26, 3, [[.rf 1 0 ((s3.map MSig.ct).length) 2, .rf 2 0 ((s3017.map MCls.ct).length) 2, .rf 3 0 ((s9035.1.map MFun.ct).length) 2]]⟩), (1, some ⟨64, 2, s3.map MSig.ct⟩), (2, some ⟨66, 2, s3017.map MCls.ct⟩), (3, some ⟨31, 2, s9035.1.map MFun.ct⟩), (4, some ⟨31, 2, [[.v (.int .i64 x9044.Ret), .rf 5 0 ((s9047.map MBlk.ct).length) 8]]⟩), (5, some ⟨47, 8, s9047.map MBlk.ct⟩)], 1⟩ ?_ ?_
          · refine w_seq (w_region (by rfl) (dv1 (l_field fd31_1 rfl) (dv1 (l_load ty29 rfl rfl rfl rfl rfl) (dv1 (l_lenRo sl29 rfl rfl (List.length_map _)) (dv1 (l_move (.v _)) (dvE (q_seq (w_block ?_))))))))
            refine w_loopF hF (fun (s12049 : (List MBlk) × Nat) => ⟨[(3, .ad 0 3 0 0), (10, .ad 4 2 0 0), (74, .ro (.sl 31 2 (p1.Funcs.map MFun.ct))), (75, .v (.int .i64 ((p1.Funcs.length : Nat) : Int))), (76, .v (.int .i64 ((s9035.2 : Nat) : Int))), (84, .ro (.sl 47 8 (x9044.Blocks.map MBlk.ct))), (85, .v (.int .i64 ((x9044.Blocks.length : Nat) : Int))), (86, .v (.int .i64 ((s12049.2 : Nat) : Int)))], [(0, some ⟨26, 3, [[.rf 1 0 ((s3.map MSig.ct).length) 2, .rf 2 0 ((s3017.map MCls.ct).length) 2, .rf 3 0 ((s9035.1.map MFun.ct).length) 2]]⟩), (1, some ⟨64, 2, s3.map MSig.ct⟩), (2, some ⟨66, 2, s3017.map MCls.ct⟩), (3, some ⟨31, 2, s9035.1.map MFun.ct⟩), (4, some ⟨31, 2, [[.v (.int .i64 x9044.Ret), .rf 5 0 ((s12049.1.map MBlk.ct).length) 8]]⟩), (5, some ⟨47, 8, s12049.1.map MBlk.ct⟩)], 1⟩) (le_of [(0, some 0), (1, some 1), (2, some 2), (3, some 3), (4, some 576), (5, none)] rfl (.s (.s (.s (.s (.s (.s (.s (.s .nil rfl) rfl) rfl) rfl) rfl) rfl) rfl) rfl) (.box rfl rfl (.s rfl) (.row rfl rfl rfl (clm k_MSigct _) (.row rfl rfl rfl (clm k_MClsct _) (.row rfl rfl rfl (clm k_MFunct _) (.box rfl rfl (.cons (.v rfl) (.cons (.nil ⟨by simp, rfl⟩) .nil)) (.new ⟨by simp, rfl⟩ .nil))))))) ?_
            intro s12049 y12050 hF hx12051
            refine w_seq (w_region (by rfl) (dv1 (l_bin rfl rfl b_lssN) (dvE (q_seq (w_seq ?_)))))
            rcases condE hF with ⟨b12053, hF⟩ | ⟨b12053, hF⟩
            · refine w_lenS 84 rfl fun l12054 => ?_
              refine w_condT rfl b12053 ?_
              refine w_skip (q_seq ?_)
              obtain ⟨s12056, hF, hG12057⟩ := bindE hF
              refine w_seqJ ⟨[(3, .ad 0 3 0 0), (10, .ad 4 2 0 0), (74, .ro (.sl 31 2 (p1.Funcs.map MFun.ct))), (75, .v (.int .i64 ((p1.Funcs.length : Nat) : Int))), (76, .v (.int .i64 ((s9035.2 : Nat) : Int))), (84, .ro (.sl 47 8 (x9044.Blocks.map MBlk.ct))), (85, .v (.int .i64 ((x9044.Blocks.length : Nat) : Int))), (86, .v (.int .i64 ((s12049.2 : Nat) : Int)))], [(0, some ⟨26, 3, [[.rf 1 0 ((s3.map MSig.ct).length) 2, .rf 2 0 ((s3017.map MCls.ct).length) 2, .rf 3 0 ((s9035.1.map MFun.ct).length) 2]]⟩), (1, some ⟨64, 2, s3.map MSig.ct⟩), (2, some ⟨66, 2, s3017.map MCls.ct⟩), (3, some ⟨31, 2, s9035.1.map MFun.ct⟩), (4, some ⟨31, 2, [[.v (.int .i64 x9044.Ret), .rf 5 0 ((s12056.map MBlk.ct).length) 8]]⟩), (5, some ⟨47, 8, s12056.map MBlk.ct⟩)], 1⟩ ?_ ?_
              · refine w_block (w_seq (w_region (by rfl) ?_))
                obtain ⟨x12058, h12059, hF⟩ := bindE hF
                refine dv1 (l_indexRo s12049.2 sl29 rfl rfl rfl (map_at h12059)) (dv1 (l_loadARo ty47 rfl rfl) (dvN (l_alloc zt47) (dvS (l_store ty47 rfl (.ag _) rfl rfl rfl (Nat.le_of_ble_eq_true rfl) rfl) (dvE (q_seq (w_seq (w_draw [[], [0], [0, 1], [], [3], [0, 1, 2, 3, 4], [0, 1, 2, 3, 4, 5], [], [0, 1, 2, 3, 4, 5, 6, 7]] [0, 1, 3, 4, 7, 2, 5, 6, 8] (by kernel_rfl) (by rfl) ⟨by decide, by rfl⟩ (by rfl) ?_)))))))
                refine de1 rfl (l_field fd47_0 rfl) rfl (de1 rfl (l_load ty27 rfl rfl rfl rfl rfl) rfl (de1 rfl (l_field fd47_2 rfl) rfl (de1 rfl (l_loadA ty44 rfl rfl rfl rfl rfl) rfl (deN rfl (l_alloc zt47) rfl ?_))))
                obtain ⟨y12060, h12061, hF⟩ := bindE hF
                refine deC1 rfl (l_call (B := false) (FnI.mk' (by kernel_rfl)) (.cons (.ro _) (.one (.ro _)) .nil) (p_slices_Clone_int_int_ac h12061) (okF p_slices_Clone_int_int_ok)) rfl ?_
                obtain ⟨y12062, h12063, hF⟩ := bindE hF
                refine deC1 rfl (l_call (B := false) (FnI.mk' (by kernel_rfl)) (.cons (.ag _) (.ag (.cons (.v _) (.cons (.v _) (.cons (.v _) (.cons (.v _) (.cons (.ro _) (.cons (.ro _) .nil))))))) .nil) (p_code_ownEnd_ac h12063) (okF p_code_ownEnd_ok)) rfl ?_
                refine de1 rfl (l_build st47 zt47 (.cons (.rf _ _ _ _) (.cons (.ag _) .nil)) rfl rfl) rfl (deS rfl (l_store ty47 rfl (.ag _) rfl rfl rfl (Nat.le_of_ble_eq_true rfl) rfl) rfl (ddE (q_seq ?_)))
                obtain ⟨s12065, hF, hG12066⟩ := bindE hF
                refine w_seqJ ⟨[(3, .ad 0 3 0 0), (10, .ad 4 2 0 0), (13, .ad 6 8 0 0), (74, .ro (.sl 31 2 (p1.Funcs.map MFun.ct))), (75, .v (.int .i64 ((p1.Funcs.length : Nat) : Int))), (76, .v (.int .i64 ((s9035.2 : Nat) : Int))), (84, .ro (.sl 47 8 (x9044.Blocks.map MBlk.ct))), (85, .v (.int .i64 ((x9044.Blocks.length : Nat) : Int))), (86, .v (.int .i64 ((s12049.2 : Nat) : Int)))], [(0, some ⟨26, 3, [[.rf 1 0 ((s3.map MSig.ct).length) 2, .rf 2 0 ((s3017.map MCls.ct).length) 2, .rf 3 0 ((s9035.1.map MFun.ct).length) 2]]⟩), (1, some ⟨64, 2, s3.map MSig.ct⟩), (2, some ⟨66, 2, s3017.map MCls.ct⟩), (3, some ⟨31, 2, s9035.1.map MFun.ct⟩), (4, some ⟨31, 2, [[.v (.int .i64 x9044.Ret), .rf 5 0 ((s12049.1.map MBlk.ct).length) 8]]⟩), (5, some ⟨47, 8, s12049.1.map MBlk.ct⟩), (6, some ⟨47, 8, [[.rf 7 0 ((y12060.map iC).length) 1, .rf 8 0 ((s12065.map MOp.ct).length) 8, .v (.int .i64 y12062.K), .v (.int .i64 y12062.A), .v (.int .i64 y12062.To), .v (.int .i64 y12062.Else), .rf 9 0 ((y12062.L.map iC).length) 1, .rf 10 0 ((y12062.M.map iC).length) 1]]⟩), (7, some ⟨3, 1, y12060.map iC⟩), (8, some ⟨49, 8, s12065.map MOp.ct⟩), (9, some ⟨3, 1, y12062.L.map iC⟩), (10, some ⟨3, 1, y12062.M.map iC⟩)], 1⟩ ?_ ?_
                · refine w_seq (w_region (by rfl) (dv1 (l_field fd47_1 rfl) (dv1 (l_load ty45 rfl rfl rfl rfl rfl) (dv1 (l_lenRo sl45 rfl rfl (List.length_map _)) (dv1 (l_move (.v _)) (dvE (q_seq (w_block ?_))))))))
                  refine w_loopF hF (fun (s15067 : (List MOp) × Nat) => ⟨[(3, .ad 0 3 0 0), (10, .ad 4 2 0 0), (13, .ad 6 8 0 0), (74, .ro (.sl 31 2 (p1.Funcs.map MFun.ct))), (75, .v (.int .i64 ((p1.Funcs.length : Nat) : Int))), (76, .v (.int .i64 ((s9035.2 : Nat) : Int))), (84, .ro (.sl 47 8 (x9044.Blocks.map MBlk.ct))), (85, .v (.int .i64 ((x9044.Blocks.length : Nat) : Int))), (86, .v (.int .i64 ((s12049.2 : Nat) : Int))), (98, .ro (.sl 49 8 (x12058.Ops.map MOp.ct))), (99, .v (.int .i64 ((x12058.Ops.length : Nat) : Int))), (100, .v (.int .i64 ((s15067.2 : Nat) : Int)))], [(0, some ⟨26, 3, [[.rf 1 0 ((s3.map MSig.ct).length) 2, .rf 2 0 ((s3017.map MCls.ct).length) 2, .rf 3 0 ((s9035.1.map MFun.ct).length) 2]]⟩), (1, some ⟨64, 2, s3.map MSig.ct⟩), (2, some ⟨66, 2, s3017.map MCls.ct⟩), (3, some ⟨31, 2, s9035.1.map MFun.ct⟩), (4, some ⟨31, 2, [[.v (.int .i64 x9044.Ret), .rf 5 0 ((s12049.1.map MBlk.ct).length) 8]]⟩), (5, some ⟨47, 8, s12049.1.map MBlk.ct⟩), (6, some ⟨47, 8, [[.rf 7 0 ((y12060.map iC).length) 1, .rf 8 0 ((s15067.1.map MOp.ct).length) 8, .v (.int .i64 y12062.K), .v (.int .i64 y12062.A), .v (.int .i64 y12062.To), .v (.int .i64 y12062.Else), .rf 9 0 ((y12062.L.map iC).length) 1, .rf 10 0 ((y12062.M.map iC).length) 1]]⟩), (7, some ⟨3, 1, y12060.map iC⟩), (8, some ⟨49, 8, s15067.1.map MOp.ct⟩), (9, some ⟨3, 1, y12062.L.map iC⟩), (10, some ⟨3, 1, y12062.M.map iC⟩)], 1⟩) (le_of [(0, some 0), (1, some 1), (2, some 2), (3, some 3), (4, some 4), (5, some 5), (6, some 640), (7, some 704), (8, none), (9, some 772), (10, some 773)] rfl (.s (.s (.s (.s (.s (.s (.s (.s (.s (.s (.s (.s .nil rfl) rfl) rfl) rfl) rfl) rfl) rfl) rfl) rfl) rfl) rfl) rfl) (.box rfl rfl (.s rfl) (.row rfl rfl rfl (clm k_MSigct _) (.row rfl rfl rfl (clm k_MClsct _) (.row rfl rfl rfl (clm k_MFunct _) (.box rfl rfl (.s rfl) (.row rfl rfl rfl (clm k_MBlkct _) (.box rfl rfl (.cons (.rf rfl rfl) (.cons (.nil ⟨by simp, rfl⟩) (.cons (.v rfl) (.cons (.v rfl) (.cons (.v rfl) (.cons (.v rfl) (.cons (.rf rfl rfl) (.cons (.rf rfl rfl) .nil)))))))) (.row rfl rfl rfl (clm k_iC _) (.new ⟨by simp, rfl⟩ (.row rfl rfl rfl (clm k_iC _) (.row rfl rfl rfl (clm k_iC _) .nil)))))))))))) ?_
                  intro s15067 y15068 hF hx15069
                  refine w_seq (w_region (by rfl) (dv1 (l_bin rfl rfl b_lssN) (dvE (q_seq (w_seq ?_)))))
                  rcases condE hF with ⟨b15071, hF⟩ | ⟨b15071, hF⟩
                  · refine w_lenS 98 rfl fun l15072 => ?_
                    refine w_condT rfl b15071 ?_
                    refine w_skip (q_seq (w_seq (w_block (w_seq (w_region (by rfl) ?_)))))
                    obtain ⟨x15073, h15074, hF⟩ := bindE hF
                    refine dv1 (l_indexRo s15067.2 sl45 rfl rfl rfl (map_at h15074)) (dv1 (l_loadARo ty49 rfl rfl) (dvN (l_alloc zt49) (dvS (l_store ty49 rfl (.ag _) rfl rfl rfl (Nat.le_of_ble_eq_true rfl) rfl) (dvE (q_seq (w_draw [[], [0], [], [2], [2, 3], [0, 1, 2, 3, 4], [0, 1, 2, 3, 4, 5], [0, 1, 2, 3, 4, 5, 6]] [0, 1, 2, 3, 4, 5, 6, 7] (by kernel_rfl) (by rfl) ⟨by decide, by rfl⟩ (by rfl) ?_))))))
                    refine de1 rfl (l_field fd47_1 rfl) rfl (de1 rfl (l_load ty45 rfl rfl rfl rfl rfl) rfl (de1 rfl (l_loadA ty49 rfl rfl rfl rfl rfl) rfl ?_))
                    obtain ⟨y15075, h15076, hF⟩ := bindE hF
                    refine deC1 rfl (l_call (B := false) (FnI.mk' (by kernel_rfl)) (.cons (.ag _) (.ag (.cons (.v _) (.cons (.v _) (.cons (.v _) (.cons (.v _) (.cons (.v _) (.cons (.v _) (.cons (.ro _) (.cons (.v _) .nil))))))))) .nil) (p_kind_Plain_ac h15076) (okF p_kind_Plain_ok)) rfl ?_
                    refine deN rfl (l_bs1 sl45 zt49 rfl (.ag _) rfl rfl rfl (by decide) (by decide)) rfl ?_
                    obtain ⟨c15077, hF⟩ := ckE hF
                    refine deN3 rfl (l_app1R el45 rfl rfl rfl rfl rfl rfl (by decide) rfl len_snoc (by simpa using c15077) (by decide)) rfl ?_
                    refine de1 rfl (l_field fd47_1 rfl) rfl (deS rfl (l_store ty45 rfl (.rf _ _ _ _) rfl rfl rfl (Nat.le_of_ble_eq_true rfl) rfl) rfl (ddE (q_in (q_seq (w_region (by rfl) (dv1 (l_bin rfl rfl (b_incN (of_decide_eq_true b15071) l15072)) (dv1 (l_move (.v _)) (dvE ?_))))))))
                    cases hF
                    refine qL rfl ?_
                    refine St.le.trans (le_closeR 704 s15067.1.length rfl (snoc_at MOp.ct s15067.1 _) (.cons (.of (.v _)) (.cons (.of (.v _)) (.cons (.of (.v _)) (.cons (.of (.v _)) (.cons (.of (.v _)) (.cons (.of (.v _)) (.cons (.of (.rf rfl rfl (clm k_iC _))) (.cons (.of (.v _)) .nil)))))))) (by decide) (by decide) rfl (snoc_cl MOp.ct _ _ y15075)) ?_
                    exact (le_of [(0, some 0), (1, some 1), (2, some 2), (3, some 3), (4, some 4), (5, some 5), (6, some 6), (7, some 7), (8, some 704), (9, some 9), (10, some 10)] rfl (.s (.s (.s (.s (.s (.s (.s (.s (.s (.s (.s (.s .nil rfl) rfl) rfl) rfl) rfl) rfl) rfl) rfl) rfl) rfl) rfl) rfl) (.box rfl rfl (.s rfl) (.row rfl rfl rfl (clm k_MSigct _) (.row rfl rfl rfl (clm k_MClsct _) (.row rfl rfl rfl (clm k_MFunct _) (.box rfl rfl (.s rfl) (.row rfl rfl rfl (clm k_MBlkct _) (.box rfl rfl (.cons (.rf rfl rfl) (.cons (.rf rfl (by simp)) (.cons (.v rfl) (.cons (.v rfl) (.cons (.v rfl) (.cons (.v rfl) (.cons (.rf rfl rfl) (.cons (.rf rfl rfl) .nil)))))))) (.row rfl rfl rfl (clm k_iC _) (.row rfl rfl rfl (clm k_MOpct _) (.row rfl rfl rfl (clm k_iC _) (.row rfl rfl rfl (clm k_iC _) .nil))))))))))))
                  · refine w_condF rfl b15071 ?_
                    refine w_exit ?_
                    cases hF
                    cases hx15069 _ rfl
                    refine q_exS (q_exS (q_here (q_join ?_)))
                    exact (le_of [(0, some 0), (1, some 1), (2, some 2), (3, some 3), (4, some 4), (5, some 5), (6, some 6), (7, some 7), (8, some 8), (9, some 9), (10, some 10)] rfl (.s (.s (.s (.s (.s (.s (.s (.s (.s .nil rfl) rfl) rfl) rfl) rfl) rfl) rfl) rfl) rfl) (.box rfl rfl (.s rfl) (.row rfl rfl rfl (clm k_MSigct _) (.row rfl rfl rfl (clm k_MClsct _) (.row rfl rfl rfl (clm k_MFunct _) (.box rfl rfl (.s rfl) (.row rfl rfl rfl (clm k_MBlkct _) (.box rfl rfl (.s rfl) (.row rfl rfl rfl (clm k_iC _) (.row rfl rfl rfl (clm k_MOpct _) (.row rfl rfl rfl (clm k_iC _) (.row rfl rfl rfl (clm k_iC _) .nil))))))))))))
                replace hF := hG12066
                refine w_region (by rfl) (dv1 (l_field fd31_1 rfl) (dv1 (l_load ty29 rfl rfl rfl rfl rfl) (dv1 (l_loadA ty47 rfl rfl rfl rfl rfl) (dvN (l_bs1 sl29 zt47 rfl (.ag _) rfl rfl rfl (by decide) (by decide)) ?_))))
                obtain ⟨c15078, hF⟩ := ckE hF
                refine dvN3 (l_app1R el29 rfl rfl rfl rfl rfl rfl (by decide) rfl len_snoc (by simpa using c15078) (by decide)) ?_
                refine dv1 (l_field fd31_1 rfl) (dvS (l_store ty29 rfl (.rf _ _ _ _) rfl rfl rfl (Nat.le_of_ble_eq_true rfl) rfl) (dvE ?_))
                cases hF
                refine q_in (q_join ?_)
                refine St.le.trans (le_closeR 320 s12049.1.length rfl (snoc_at MBlk.ct s12049.1 _) (.cons (.of (.rf rfl rfl (clm k_iC _))) (.cons (.of (.rf rfl rfl (clm k_MOpct _))) (.cons (.of (.v _)) (.cons (.of (.v _)) (.cons (.of (.v _)) (.cons (.of (.v _)) (.cons (.of (.rf rfl rfl (clm k_iC _))) (.cons (.of (.rf rfl rfl (clm k_iC _))) .nil)))))))) (by decide) (by decide) rfl (snoc_cl MBlk.ct _ _ (⟨y12060, s12065, y12062⟩ : MBlk))) ?_
                exact (le_of [(0, some 0), (1, some 1), (2, some 2), (3, some 3), (4, some 4), (5, some 320)] rfl (.s (.s (.s (.s (.s (.s (.s (.s .nil rfl) rfl) rfl) rfl) rfl) rfl) rfl) rfl) (.box rfl rfl (.s rfl) (.row rfl rfl rfl (clm k_MSigct _) (.row rfl rfl rfl (clm k_MClsct _) (.row rfl rfl rfl (clm k_MFunct _) (.box rfl rfl (.cons (.v rfl) (.cons (.rf rfl (by simp)) .nil)) (.row rfl rfl rfl (clm k_MBlkct _) .nil)))))))
              replace hF := hG12057
              refine w_region (by rfl) (dv1 (l_bin rfl rfl (b_incN (of_decide_eq_true b12053) l12054)) (dv1 (l_move (.v _)) (dvE ?_)))
              cases hF
              refine qL rfl ?_
              exact (le_of [(0, some 0), (1, some 1), (2, some 2), (3, some 3), (4, some 4), (5, some 5)] rfl (.s (.s (.s (.s (.s (.s (.s (.s .nil rfl) rfl) rfl) rfl) rfl) rfl) rfl) rfl) (.box rfl rfl (.s rfl) (.row rfl rfl rfl (clm k_MSigct _) (.row rfl rfl rfl (clm k_MClsct _) (.row rfl rfl rfl (clm k_MFunct _) (.box rfl rfl (.s rfl) (.row rfl rfl rfl (clm k_MBlkct _) .nil)))))))
            · refine w_condF rfl b12053 ?_
              refine w_exit ?_
              cases hF
              cases hx12051 _ rfl
              refine q_exS (q_exS (q_here (q_join ?_)))
              exact (le_of [(0, some 0), (1, some 1), (2, some 2), (3, some 3), (4, some 4), (5, some 5)] rfl (.s (.s (.s (.s (.s .nil rfl) rfl) rfl) rfl) rfl) (.box rfl rfl (.s rfl) (.row rfl rfl rfl (clm k_MSigct _) (.row rfl rfl rfl (clm k_MClsct _) (.row rfl rfl rfl (clm k_MFunct _) (.box rfl rfl (.s rfl) (.row rfl rfl rfl (clm k_MBlkct _) .nil)))))))
          replace hF := hG9048
          refine w_draw [[], [], [1], [1, 2], [1, 2, 3], [], [5], [1, 2, 3, 4, 5, 6], [0, 1, 2, 3, 4, 5, 6, 7], [0, 1, 2, 3, 4, 5, 6, 7, 8], [0, 1, 2, 3, 4, 5, 6, 7, 8, 9]] [0, 1, 2, 3, 4, 5, 6, 7, 8, 9, 10] (by kernel_rfl) (by rfl) ⟨by decide, by rfl⟩ (by rfl) ?_
          refine de1 rfl (l_move (.ad _ _ _ _)) rfl (de1 rfl (l_move (.ad _ _ _ _)) rfl (de1 rfl (l_nil rfl) rfl (de1 rfl (l_field fd26_2 rfl) rfl (de1 rfl (l_load ty24 rfl rfl rfl rfl rfl) rfl (de1 rfl (l_loadA ty31 rfl rfl rfl rfl rfl) rfl (deN rfl (l_bs1 sl24 zt31 rfl (.ag _) rfl rfl rfl (by decide) (by decide)) rfl ?_))))))
          obtain ⟨c15079, hF⟩ := ckE hF
          refine deN3 rfl (l_app1R el24 rfl rfl rfl rfl rfl rfl (by decide) rfl len_snoc (by simpa using c15079) (by decide)) rfl ?_
          refine de1 rfl (l_nil rfl) rfl (de1 rfl (l_field fd26_2 rfl) rfl (deS rfl (l_store ty24 rfl (.rf _ _ _ _) rfl rfl rfl (Nat.le_of_ble_eq_true rfl) rfl) rfl (ddE ?_)))
          cases hF
          refine q_in (q_join ?_)
          refine St.le.trans (le_closeR 512 s9035.1.length rfl (snoc_at MFun.ct s9035.1 _) (.cons (.of (.v _)) (.cons (.of (.rf rfl rfl (clm k_MBlkct _))) .nil)) (by decide) (by decide) rfl (snoc_cl MFun.ct _ _ (⟨x9044.Ret, s9047⟩ : MFun))) ?_
          exact (le_of [(0, some 0), (1, some 1), (2, some 2), (3, some 512)] rfl (.s (.s (.s (.s .nil rfl) rfl) rfl) rfl) (.box rfl rfl (.cons (.rf rfl rfl) (.cons (.rf rfl rfl) (.cons (.rf rfl (by simp)) .nil))) (.row rfl rfl rfl (clm k_MSigct _) (.row rfl rfl rfl (clm k_MClsct _) (.row rfl rfl rfl (clm k_MFunct _) .nil)))))
        replace hF := hG9043
        refine w_region (by rfl) (dv1 (l_bin rfl rfl (b_incN (of_decide_eq_true b9039) l9040)) (dv1 (l_move (.v _)) (dvE ?_)))
        cases hF
        refine qL rfl ?_
        exact (le_of [(0, some 0), (1, some 1), (2, some 2), (3, some 3)] rfl (.s (.s (.s (.s .nil rfl) rfl) rfl) rfl) (.box rfl rfl (.s rfl) (.row rfl rfl rfl (clm k_MSigct _) (.row rfl rfl rfl (clm k_MClsct _) (.row rfl rfl rfl (clm k_MFunct _) .nil)))))
      · refine w_condF rfl b9039 ?_
        refine w_exit ?_
        cases hF
        cases hx9037 _ rfl
        refine q_exS (q_exS (q_here (q_join ?_)))
        exact (le_of [(0, some 0), (1, some 1), (2, some 2), (3, some 3)] rfl (.s .nil rfl) (.box rfl rfl (.s rfl) (.row rfl rfl rfl (clm k_MSigct _) (.row rfl rfl rfl (clm k_MClsct _) (.row rfl rfl rfl (clm k_MFunct _) .nil)))))
    replace hF := hG6034
    refine w_seq (w_region (by rfl) (dv1 (l_move (.ad _ _ _ _)) (dv1 (l_assign (.ad _ _ _ _)) (dvE (q_seq (W.le (le_close 0 0 rfl rfl (.cons (.of (.rf rfl rfl (clm k_MSigct _))) (.cons (.of (.rf rfl rfl (clm k_MClsct _))) (.cons (.of (.rf rfl rfl (clm k_MFunct _))) .nil))) (by decide) (by decide) rfl) ?_))))))
    refine w_ret ?_
    cases hF
    refine q_end (.inr rfl) ?_
    exact ret_ok rfl (.cons (.tmp (.ad _ _ _ _) (.ad rfl (cl1 (.sl _ _ (clm k_MSigct _)) (cl1 (.sl _ _ (clm k_MClsct _)) (cl1 (.sl _ _ (clm k_MFunct _)) (cl0 (b := true))))))) .nil) (by decide) rfl

def p_code_Copy (a0 : Option MPrg) : Option ((Option MPrg)) :=
(optC a0
(((p_code_own none).bind fun y2 =>
(optC y2
(some none)
(fun p4 =>
some (some p4)))))
(fun p1 =>
((p_code_own (some p1)).bind fun y5 =>
(optC y5
(some none)
(fun p7 =>
some (some p7))))))

theorem p_code_Copy_ok {r : (Option MPrg)} : rOk (opC 26 3 MPrg.ct r) = true ∧ FrT (opC 26 3 MPrg.ct r) := opok k_MPrgct r

set_option maxRecDepth 10000 in
set_option maxHeartbeats 4000000 in
theorem p_code_Copy_ac {a0 : Option MPrg} {r : (Option MPrg)} (hF : p_code_Copy a0 = some r) : AC Tryd.prog GT 47 [ptC MPrg.ct a0] (fun c => c = opC 26 3 MPrg.ct r) := by
  unfold p_code_Copy at hF
  refine AC.mk (nt := 5) Tryd.func47 rfl rfl rfl fun w N => ?_
  rcases a0 with _ | p1
  · replace hF := optN hF
    refine w_seq (w_region (by rfl) (dv1 (l_assign (.v _)) (dvE (q_seq (w_seq (w_region (by rfl) (dv1 (l_move (.v _)) ?_)))))))
    obtain ⟨y2, h3, hF⟩ := bindE hF
    rcases y2 with _ | p4
    · replace hF := optN hF
      refine dvC (l_call (B := false) (FnI.mk' (by kernel_rfl)) (.cons (.v _) (.one (.v _)) .nil) (p_code_own_ac h3) (okF p_code_own_ok)) ?_
      rintro _ rfl
      refine dv1 (l_assign (.v _)) (dvE (q_seq (w_ret ?_)))
      cases hF
      refine q_end (.inr rfl) ?_
      exact ret_ok rfl (.cons (.tmp (.v _) (.v _)) .nil) (by decide) rfl
    · replace hF := optS hF
      refine dvC (l_call (B := false) (FnI.mk' (by kernel_rfl)) (.cons (.v _) (.one (.v _)) .nil) (p_code_own_ac h3) (okF p_code_own_ok)) ?_
      rintro _ rfl
      refine dv1 (l_assign (.ad _ _ _ _)) (dvE (q_seq (w_ret ?_)))
      cases hF
      refine q_end (.inr rfl) ?_
      exact ret_ok rfl (.cons (.tmp (.ad _ _ _ _) (.ad rfl (cl1 (.sl _ _ (clm k_MSigct _)) (cl1 (.sl _ _ (clm k_MClsct _)) (cl1 (.sl _ _ (clm k_MFunct _)) (cl0 (b := true))))))) .nil) (by decide) rfl
  · replace hF := optS hF
    refine w_seq (w_region (by rfl) (dv1 (l_assign (.v _)) (dvE (q_seq (w_seq (w_region (by rfl) (dv1 (l_move (.ro _)) ?_)))))))
    obtain ⟨y5, h6, hF⟩ := bindE hF
    rcases y5 with _ | p7
    · replace hF := optN hF
      refine dvC (l_call (B := false) (FnI.mk' (by kernel_rfl)) (.cons (.ro _) (.one (.ro _)) .nil) (p_code_own_ac h6) (okF p_code_own_ok)) ?_
      rintro _ rfl
      refine dv1 (l_assign (.v _)) (dvE (q_seq (w_ret ?_)))
      cases hF
      refine q_end (.inr rfl) ?_
      exact ret_ok rfl (.cons (.tmp (.v _) (.v _)) .nil) (by decide) rfl
    · replace hF := optS hF
      refine dvC (l_call (B := false) (FnI.mk' (by kernel_rfl)) (.cons (.ro _) (.one (.ro _)) .nil) (p_code_own_ac h6) (okF p_code_own_ok)) ?_
      rintro _ rfl
      refine dv1 (l_assign (.ad _ _ _ _)) (dvE (q_seq (w_ret ?_)))
      cases hF
      refine q_end (.inr rfl) ?_
      exact ret_ok rfl (.cons (.tmp (.ad _ _ _ _) (.ad rfl (cl1 (.sl _ _ (clm k_MSigct _)) (cl1 (.sl _ _ (clm k_MClsct _)) (cl1 (.sl _ _ (clm k_MFunct _)) (cl0 (b := true))))))) .nil) (by decide) rfl

def p_tidy_own (a0 : MFun) : Option MFun :=
((p_code_Copy (some (⟨[], [], [a0]⟩ : MPrg))).bind fun y1 =>
(optC y1
(none)
(fun p3 =>
((p3.Funcs[0]?).bind fun x4 =>
some x4))))

theorem p_tidy_own_ok {r : MFun} : rOk (.ag (MFun.ct r)) = true ∧ FrT (.ag (MFun.ct r)) := ⟨rfl, (.one (.ag (k_MFunct _)))⟩

set_option maxRecDepth 10000 in
set_option maxHeartbeats 4000000 in
theorem p_tidy_own_ac {a0 : MFun} {r : MFun} (hF : p_tidy_own a0 = some r) : AC Tryd.prog GT 34 [.ag (MFun.ct a0)] (fun c => c = .ag (MFun.ct r)) := by
  unfold p_tidy_own at hF
  refine AC.mk (nt := 13) Tryd.func34 rfl rfl rfl fun w N => ?_
  refine w_seq (w_region (by rfl) (dvN (l_box (.ag _) rfl rfl) (dvN (l_alloc zt31) (dvE (q_seq (w_seq (w_region (by rfl) (dv1 (l_loadA ty31 rfl rfl rfl rfl rfl) ?_))))))))
  refine dvN (l_bs1 sl24 zt31 rfl (.ag _) rfl rfl rfl (by decide) (by decide)) (dv1 (l_build st26 zt26 (.cons (.rf _ _ _ _) .nil) rfl rfl) (dvN (l_box (.ag _) rfl rfl) (dvG (le_close 320 0 rfl rfl (.cons (.of (.v _)) (.cons (.of (.v _)) (.cons (.of (.rf rfl rfl (cr1 (cl1 (.v _) (cl1 (.ro _ rfl) (cl0 (b := true)))) cr0))) .nil))) (by decide) (by decide) rfl) ?_)))
  obtain ⟨y1, h2, hF⟩ := bindE hF
  rcases y1 with _ | p3
  · replace hF := optN hF
    refine dvC (l_call (B := true) (FnI.mk' (by kernel_rfl)) (.cons (.ad _ _ _ _) (.one (.ad rfl rfl rfl (cl1 (.v _) (cl1 (.v _) (cl1 (.sl _ _ (cr1 (cl1 (.v _) (cl1 (.ro _ rfl) (cl0 (b := true)))) cr0)) (cl0 (b := true))))))) .nil) (AC.rd (p_code_Copy_ac h2) (.cons (.rp (.cons (Wk.nil _ _) (.cons (Wk.nil _ _) (.cons (Wk.sl (.cons (.cons (Wk.refl _) (.cons (Wk.ro (Wk.refl _)) .nil)) .nil)) .nil)))) .nil)) (okT p_code_Copy_ok)) ?_
    rintro _ rfl
    exact nomatch hF
  · replace hF := optS hF
    refine dvC (l_call (B := true) (FnI.mk' (by kernel_rfl)) (.cons (.ad _ _ _ _) (.one (.ad rfl rfl rfl (cl1 (.v _) (cl1 (.v _) (cl1 (.sl _ _ (cr1 (cl1 (.v _) (cl1 (.ro _ rfl) (cl0 (b := true)))) cr0)) (cl0 (b := true))))))) .nil) (AC.rd (p_code_Copy_ac h2) (.cons (.rp (.cons (Wk.nil _ _) (.cons (Wk.nil _ _) (.cons (Wk.sl (.cons (.cons (Wk.refl _) (.cons (Wk.ro (Wk.refl _)) .nil)) .nil)) .nil)))) .nil)) (okT p_code_Copy_ok)) ?_
    rintro _ rfl
    refine dv1 (l_nil rfl) (dv1 (l_field fd26_2 rfl) (dvG (le_open 384 0 rfl rfl rfl) ?_))
    refine dv1 (l_load ty24 rfl rfl rfl rfl rfl) ?_
    obtain ⟨x4, h5, hF⟩ := bindE hF
    refine dv1 (l_index 0 sl24 rfl rfl rfl (lt_at MFun.ct h5)) (dvG (le_open 578 0 rfl (map_at h5) rfl) ?_)
    refine dv1 (l_loadA ty31 rfl rfl (set_at h5) rfl rfl) (dvS (l_store ty31 rfl (.ag _) rfl rfl rfl (Nat.le_of_ble_eq_true rfl) rfl) (dvE (q_seq (w_ret ?_))))
    cases hF
    refine q_end (.inr rfl) ?_
    exact ret_ok rfl (.cons (.cellA ty31 rfl rfl rfl (.cons (.of (.v _)) (.cons (.of (.rf rfl rfl (clm k_MBlkct _))) .nil))) .nil) (by decide) rfl

def p_cfg_targets (a0 : MEnd) : Option MEnd :=
some a0

theorem p_cfg_targets_ok {r : MEnd} : rOk (.fn (.func 73) [] [.ro (.rp (MEnd.ct r) 0)]) = true ∧ True := ⟨rfl, trivial⟩

set_option maxRecDepth 10000 in
set_option maxHeartbeats 4000000 in
theorem p_cfg_targets_ac {a0 : MEnd} {r : MEnd} (hF : p_cfg_targets a0 = some r) : AC Tryd.prog GT 66 [.ag (MEnd.ct a0)] (fun c => c = .fn (.func 73) [] [.ro (.rp (MEnd.ct r) 0)]) := by
  unfold p_cfg_targets at hF
  refine AC.mk (nt := 4) Tryd.func66 rfl rfl rfl fun w N => ?_
  refine w_seq (w_region (by rfl) (dvN (l_box (.ag _) rfl rfl) (dv1 (l_assign (.v _)) (dvE (q_seq (w_seq (w_region (by rfl) (dvG (le_freeze 0 [(1, .ro (.rp [.v (.int .i64 a0.K), .v (.int .i64 a0.A), .v (.int .i64 a0.To), .v (.int .i64 a0.Else), .ro (.sl 3 1 (a0.L.map iC)), .ro (.sl 3 1 (a0.M.map iC))] 0))] rfl (cl1 (.v _) (cl1 (.v _) (cl1 (.v _) (cl1 (.v _) (cl1 (.ro _ rfl) (cl1 (.ro _ rfl) (cl0 (b := true)))))))) (List.forall_mem_cons.2 ⟨⟨0, rfl, rfl⟩, (fun _ h => nomatch h)⟩)) ?_))))))))
  refine dvG (le_wk 1 (c' := .rp (MEnd.ct a0) 0) rfl (.rp (.cons (Wk.refl _) (.cons (Wk.refl _) (.cons (Wk.refl _) (.cons (Wk.refl _) (.cons (Wk.ro (Wk.refl _)) (.cons (Wk.ro (Wk.refl _)) .nil)))))))) ?_
  refine dv1 (l_fnE (f := 73) (.cons (.ro _) .nil)) (dv1 (l_assign (.fn _ _ _)) (dvE (q_seq (w_ret ?_))))
  cases hF
  refine q_end (.inr rfl) ?_
  exact ret_ok rfl (.cons (.tmp (.fn _ _ _) (.fn _ (capB_ok rfl))) .nil) (by decide) rfl

def p_slices_Index_int_int (a0 : List Int) (a1 : Int) : Option Int :=
(((loop (fun (s3003 : Nat) =>
(bif decide (s3003 < a0.length) then
((a0[s3003]?).bind fun x3009 =>
(bif decide (a1 = x3009) then
some (Xt.out (Xt.out ((s3003 : Nat) : Int)))
else
some (Xt.go (s3003 + 1))))
else
some (Xt.out (Xt.go ())))) Fu 0)).bind fun s1 => s1.on (fun (s3012 : Unit) =>
some (-1))
(fun o3014 => some o3014))

theorem p_slices_Index_int_int_ok {r : Int} : rOk (.v (.int .i64 r)) = true ∧ FrT (.v (.int .i64 r)) := ⟨rfl, (.one (.cl (.v _)))⟩

set_option maxRecDepth 10000 in
set_option maxHeartbeats 4000000 in
theorem p_slices_Index_int_int_ac {a0 : List Int} {a1 : Int} {r : Int} (hF : p_slices_Index_int_int a0 a1 = some r) : AC Tryd.prog GT 74 [.sl 3 1 (a0.map iC), .v (.int .i64 a1)] (fun c => c = .v (.int .i64 r)) := by
  unfold p_slices_Index_int_int at hF
  refine AC.mk (nt := 19) Tryd.func74 rfl rfl rfl fun w N => ?_
  refine w_seq (w_region (by rfl) (dv1 (l_assign (.v _)) (dvE (q_seq ?_))))
  obtain ⟨s1, hF, hG2⟩ := bindE hF
  refine w_seqE s1 (fun (s3012 : Unit) => ⟨[], [], 1⟩) ?_ (fun s3012 e3013 => ?_)
  · refine w_seq (w_region (by rfl) (dv1 (l_move (.ro _)) (dv1 (l_lenRo sl27 rfl rfl (List.length_map _)) (dv1 (l_move (.v _)) (dvE (q_seq (w_block (w_loopF hF (fun (s3003 : Nat) => ⟨[(0, .ro (.sl 3 1 (a0.map iC))), (1, .v (.int .i64 a1)), (7, .v (.int .i64 ((a0.length : Nat) : Int))), (8, .v (.int .i64 ((s3003 : Nat) : Int)))], [], 1⟩) (le_of [] rfl (.s (.s (.s (.s .nil rfl) rfl) rfl) rfl) .nil) ?_))))))))
    intro s3003 y3004 hF hx3005
    refine w_seq (w_region (by rfl) (dv1 (l_bin rfl rfl b_lssN) (dvE (q_seq (w_seq ?_)))))
    rcases condE hF with ⟨b3007, hF⟩ | ⟨b3007, hF⟩
    · refine w_lenS 0 rfl fun l3008 => ?_
      refine w_condT rfl b3007 ?_
      refine w_skip (q_seq (w_seq (w_block (w_seq (w_region (by rfl) (dv1 (l_move (.v _)) (dv1 (l_assign (.v _)) (dvE ?_))))))))
      refine q_seq (w_seq (w_region (by rfl) (dv1 (l_move (.v _)) (dv1 (l_move (.ro _)) (dv1 (l_move (.v _)) ?_)))))
      obtain ⟨x3009, h3010, hF⟩ := bindE hF
      refine dv1 (l_indexRo s3003 sl27 rfl rfl rfl (map_at h3010)) (dv1 (l_loadRo ty3 rfl rfl) (dv1 (l_bin rfl rfl b_eql) (dvE (q_seq ?_))))
      rcases condE hF with ⟨b3011, hF⟩ | ⟨b3011, hF⟩
      · refine w_condT rfl b3011 ?_
        refine w_seq (w_region (by rfl) (dv1 (l_move (.v _)) (dv1 (l_assign (.v _)) (dvE (q_seq (w_ret (q_reI (q_reS ?_))))))))
        refine q_reS (q_reI (q_reS ?_))
        cases hF
        cases hx3005 _ rfl
        have hF := onOut hG2
        cases hF
        refine q_end (.inr rfl) ?_
        exact ret_ok rfl (.cons (.tmp (.v _) (.v _)) .nil) (by decide) rfl
      · refine w_condF rfl b3011 ?_
        refine w_skip (q_in (q_seq (w_region (by rfl) (dv1 (l_bin rfl rfl (b_incN (of_decide_eq_true b3007) l3008)) (dv1 (l_move (.v _)) (dvE ?_))))))
        cases hF
        refine qL rfl ?_
        exact (le_of [] rfl (.s (.s (.s (.s .nil rfl) rfl) rfl) rfl) .nil)
    · refine w_condF rfl b3007 ?_
      refine w_exit ?_
      cases hF
      cases hx3005 _ rfl
      refine q_exS (q_exS (q_here (qL rfl ?_)))
      exact (le_of [] rfl .nil .nil)
  subst e3013
  replace hF := onGo hG2
  refine w_seq (w_region (by rfl) (dv1 (l_assign (.v _)) (dvE (q_seq (w_ret ?_)))))
  cases hF
  refine q_end (.inr rfl) ?_
  exact ret_ok rfl (.cons (.tmp (.v _) (.v _)) .nil) (by decide) rfl

def p_slices_Contains_int_int (a0 : List Int) (a1 : Int) : Option Bool :=
((p_slices_Index_int_int a0 a1).bind fun y1 =>
some (decide ((0 : Int) ≤ y1)))

theorem p_slices_Contains_int_int_ok {r : Bool} : rOk (.v (.bool r)) = true ∧ FrT (.v (.bool r)) := ⟨rfl, (.one (.cl (.v _)))⟩

set_option maxRecDepth 10000 in
set_option maxHeartbeats 4000000 in
theorem p_slices_Contains_int_int_ac {a0 : List Int} {a1 : Int} {r : Bool} (hF : p_slices_Contains_int_int a0 a1 = some r) : AC Tryd.prog GT 67 [.sl 3 1 (a0.map iC), .v (.int .i64 a1)] (fun c => c = .v (.bool r)) := by
  unfold p_slices_Contains_int_int at hF
  refine AC.mk (nt := 9) Tryd.func67 rfl rfl rfl fun w N => ?_
  refine w_seq (w_region (by rfl) (dv1 (l_assign (.v _)) (dvE (q_seq (w_seq (w_region (by rfl) (dv1 (l_move (.ro _)) (dv1 (l_move (.v _)) ?_))))))))
  obtain ⟨y1, h2, hF⟩ := bindE hF
  refine dvC (l_call (B := false) (FnI.mk' (by kernel_rfl)) (.cons (.ro _) (.one (.ro _)) (.cons (.v _) (.one (.v _)) .nil)) (p_slices_Index_int_int_ac h2) (okF p_slices_Index_int_int_ok)) ?_
  rintro _ rfl
  refine dv1 (l_bin rfl rfl b_geq) (dv1 (l_assign (.v _)) (dvE (q_seq (w_ret ?_))))
  cases hF
  refine q_end (.inr rfl) ?_
  exact ret_ok rfl (.cons (.tmp (.v _) (.v _)) .nil) (by decide) rfl

def p_cfg_targets_1_i (c0 : MEnd) {σ ρ : Type} (body : σ → MTarget → Option (Xt σ ρ)) (s0 : σ) : Option (Xt σ ρ) :=
(((bif decide (c0.K = 0) then
((body s0 (⟨c0.To, c0.L⟩ : MTarget)).bind fun z6 =>
(z6.on (fun s8 =>
some (Xt.go s8))
(fun o9 =>
some (Xt.out (Xt.out o9)))))
else
(bif decide (c0.K = 1) then
((body s0 (⟨c0.To, c0.L⟩ : MTarget)).bind fun z11 =>
(z11.on (fun s13 =>
some (Xt.go s13))
(fun o14 =>
some (Xt.out (Xt.out o14)))))
else
some (Xt.go s0)))).bind fun s2 => s2.on (fun (s15 : σ) =>
(bif decide (c0.K = 1) then
((body s15 (⟨c0.Else, c0.M⟩ : MTarget)).bind fun z18 =>
(z18.on (fun s20 =>
some (Xt.go s20))
(fun o21 =>
some (Xt.out o21))))
else
some (Xt.go s15)))
(fun o22 => some o22))

set_option maxRecDepth 10000 in
set_option maxHeartbeats 4000000 in
theorem p_cfg_targets_1_i_ic (c0 : MEnd) : IC Tryd.prog GT 73 [.rp (MEnd.ct c0) 0] (fun (y : MTarget) => [.ag (MTarget.ct y)]) (fun σ ρ body s0 => p_cfg_targets_1_i c0 body s0) := by
  refine IC.mk (nt := 31) Tryd.func73 rfl rfl rfl rfl fun σ ρ body s0 z hF w N F l J Jx hJ hX hY hRd => ?_
  unfold p_cfg_targets_1_i at hF
  obtain ⟨s2, hF, hG3⟩ := bindE hF
  refine w_seqE s2 (fun (s15 : σ) => ⟨[(0, .v (.func (.yield l) #[] #[])), (1, .ro (.rp (MEnd.ct c0) 0)), (1000000, .fo (foJ hJ s15))], [], 1⟩) ?_ (fun s15 e16 => ?_)
  · refine w_seq (w_region (by rfl) (dv1 (l_fieldRo fd44_0 rfl) (dv1 (l_loadRo ty3 rfl rfl) (dv1 (l_bin rfl rfl b_eql) (dv1 (l_move (.v _)) ?_)))))
    rcases condE hF with ⟨b5, hF⟩ | ⟨b5, hF⟩
    · refine dv1 (l_gF rfl rfl (gt rfl b5) rfl) (dv1 (l_gF rfl rfl (gt rfl b5) rfl) (dv1 (l_gF rfl rfl (gt rfl b5) rfl) (dv1 (l_pickT (gt rfl b5) (.v _)) (dv1 (l_move (.v _)) (dv1 (l_gT rfl rfl rfl fun _ => l_move (.v _)) (dv1 (l_gT rfl rfl rfl fun _ => l_fieldRo fd44_2 rfl) (dv1 (l_gT rfl rfl rfl fun _ => l_loadRo ty3 rfl rfl) (dv1 (l_gT rfl rfl rfl fun _ => l_fieldRo fd44_4 rfl) ?_))))))))
      refine dv1 (l_gT rfl rfl rfl fun _ => l_loadRo ty27 rfl rfl) (dv1 (l_gT rfl rfl rfl fun _ => l_build st98 zt98 (.cons (.v _) (.cons (.ro _) .nil)) rfl rfl) ?_)
      obtain ⟨z6, h7, hF⟩ := bindE hF
      rcases z6 with s8 | o9
      · replace hF := onGo hF
        refine dvY (l_gT rfl rfl rfl fun _ => l_yield (⟨c0.To, c0.L⟩ : MTarget) hY rfl (.cons (.ag _) (.ag (.cons (.v _) (.cons (.ro _) .nil))) .nil) rfl h7) ?_
        refine dv1 (l_gT rfl rfl rfl fun _ => l_not rfl) (dv1 (l_pickT rfl (.v _)) (dvE (q_seq (w_false rfl (w_skip ?_)))))
        cases hF
        refine qL rfl ?_
        exact (le_of [] rfl (.s (.s (.cons (.fo _) (.fo _) .nil) rfl) rfl) .nil)
      · replace hF := onOut hF
        refine dvY (l_gT rfl rfl rfl fun _ => l_yield (⟨c0.To, c0.L⟩ : MTarget) hY rfl (.cons (.ag _) (.ag (.cons (.v _) (.cons (.ro _) .nil))) .nil) rfl h7) ?_
        refine dv1 (l_gT rfl rfl rfl fun _ => l_not rfl) (dv1 (l_pickT rfl (.v _)) (dvE (q_seq (w_true rfl (w_ret (q_reS ?_))))))
        cases hF
        have hF := onOut hG3
        cases hF
        exact ⟨.inr rfl, rfl⟩
    · refine dv1 (l_gT rfl rfl (gt rfl b5) fun _ => l_fieldRo fd44_0 rfl) (dv1 (l_gT rfl rfl (gt rfl b5) fun _ => l_loadRo ty3 rfl rfl) (dv1 (l_gT rfl rfl (gt rfl b5) fun _ => l_bin rfl rfl b_eql) (dv1 (l_pickF (gt rfl b5) (.v _)) (dv1 (l_move (.v _)) ?_))))
      rcases condE hF with ⟨b10, hF⟩ | ⟨b10, hF⟩
      · refine dv1 (l_gT rfl rfl (gt rfl b10) fun _ => l_move (.v _)) (dv1 (l_gT rfl rfl (gt rfl b10) fun _ => l_fieldRo fd44_2 rfl) (dv1 (l_gT rfl rfl (gt rfl b10) fun _ => l_loadRo ty3 rfl rfl) (dv1 (l_gT rfl rfl (gt rfl b10) fun _ => l_fieldRo fd44_4 rfl) (dv1 (l_gT rfl rfl (gt rfl b10) fun _ => l_loadRo ty27 rfl rfl) (dv1 (l_gT rfl rfl (gt rfl b10) fun _ => l_build st98 zt98 (.cons (.v _) (.cons (.ro _) .nil)) rfl rfl) ?_)))))
        obtain ⟨z11, h12, hF⟩ := bindE hF
        rcases z11 with s13 | o14
        · replace hF := onGo hF
          refine dvY (l_gT rfl rfl (gt rfl b10) fun _ => l_yield (⟨c0.To, c0.L⟩ : MTarget) hY rfl (.cons (.ag _) (.ag (.cons (.v _) (.cons (.ro _) .nil))) .nil) rfl h12) ?_
          refine dv1 (l_gT rfl rfl (gt rfl b10) fun _ => l_not rfl) (dv1 (l_pickT (gt rfl b10) (.v _)) (dvE (q_seq (w_false rfl (w_skip ?_)))))
          cases hF
          refine qL rfl ?_
          exact (le_of [] rfl (.s (.s (.cons (.fo _) (.fo _) .nil) rfl) rfl) .nil)
        · replace hF := onOut hF
          refine dvY (l_gT rfl rfl (gt rfl b10) fun _ => l_yield (⟨c0.To, c0.L⟩ : MTarget) hY rfl (.cons (.ag _) (.ag (.cons (.v _) (.cons (.ro _) .nil))) .nil) rfl h12) ?_
          refine dv1 (l_gT rfl rfl (gt rfl b10) fun _ => l_not rfl) (dv1 (l_pickT (gt rfl b10) (.v _)) (dvE (q_seq (w_true rfl (w_ret (q_reS ?_))))))
          cases hF
          have hF := onOut hG3
          cases hF
          exact ⟨.inr rfl, rfl⟩
      · refine dv1 (l_gF rfl rfl (gt rfl b10) rfl) (dv1 (l_gF rfl rfl (gt rfl b10) rfl) (dv1 (l_gF rfl rfl (gt rfl b10) rfl) (dv1 (l_gF rfl rfl (gt rfl b10) rfl) (dv1 (l_gF rfl rfl (gt rfl b10) rfl) (dv1 (l_gF rfl rfl (gt rfl b10) rfl) (dv1 (l_gF rfl rfl (gt rfl b10) rfl) (dv1 (l_gF rfl rfl (gt rfl b10) rfl) (dv1 (l_pickF (gt rfl b10) (.v _)) ?_))))))))
        refine dvE (q_seq (w_false rfl (w_skip ?_)))
        cases hF
        refine qL rfl ?_
        exact (le_of [] rfl (.s (.s (.cons (.fo _) (.fo _) .nil) rfl) rfl) .nil)
  subst e16
  replace hF := onGo hG3
  refine w_seq (w_region (by rfl) (dv1 (l_fieldRo fd44_0 rfl) (dv1 (l_loadRo ty3 rfl rfl) (dv1 (l_bin rfl rfl b_eql) (dvE (q_seq ?_))))))
  rcases condE hF with ⟨b17, hF⟩ | ⟨b17, hF⟩
  · refine w_condT rfl b17 ?_
    refine w_region (by rfl) (dv1 (l_move (.v _)) (dv1 (l_fieldRo fd44_3 rfl) (dv1 (l_loadRo ty3 rfl rfl) (dv1 (l_fieldRo fd44_5 rfl) (dv1 (l_loadRo ty27 rfl rfl) (dv1 (l_build st98 zt98 (.cons (.v _) (.cons (.ro _) .nil)) rfl rfl) ?_))))))
    obtain ⟨z18, h19, hF⟩ := bindE hF
    rcases z18 with s20 | o21
    · replace hF := onGo hF
      refine dvY (l_yield (⟨c0.Else, c0.M⟩ : MTarget) hY rfl (.cons (.ag _) (.ag (.cons (.v _) (.cons (.ro _) .nil))) .nil) rfl h19) ?_
      refine dvE ?_
      cases hF
      exact ⟨.inl rfl, rfl⟩
    · replace hF := onOut hF
      refine dvY (l_yield (⟨c0.Else, c0.M⟩ : MTarget) hY rfl (.cons (.ag _) (.ag (.cons (.v _) (.cons (.ro _) .nil))) .nil) rfl h19) ?_
      refine dvE ?_
      cases hF
      exact ⟨.inl rfl, rfl⟩
  · refine w_condF rfl b17 ?_
    refine w_skip ?_
    cases hF
    exact ⟨.inl rfl, rfl⟩

def p_cfg_next (a0 : MBlk) : Option ((List Int)) :=
((((p_cfg_targets a0.End).bind fun y4 =>
((p_cfg_targets_1_i y4 (fun (s3007 : (List Int)) (y6 : MTarget) =>
(((p_slices_Contains_int_int s3007 y6.To).bind fun y3009 =>
(bif y3009 then
some (Xt.go s3007)
else
(ck ((s3007.length + 1) * 8 ≤ 140737488355328)
(some (Xt.go (s3007 ++ [y6.To])))))) : Option (Xt ((List Int)) Unit))) []).bind fun z3008 => z3008.on (fun (s3007 : (List Int)) =>
some s3007) (fun _ => none)))).bind fun (s2 : (List Int)) =>
some s2)

theorem p_cfg_next_ok {r : (List Int)} : rOk (.sl 3 1 (r.map iC)) = true ∧ FrT (.sl 3 1 (r.map iC)) := ⟨rfl, (.one (.cl (.sl _ _ (clm k_iC _))))⟩

set_option maxRecDepth 10000 in
set_option maxHeartbeats 4000000 in
theorem p_cfg_next_ac {a0 : MBlk} {r : (List Int)} (hF : p_cfg_next a0 = some r) : AC Tryd.prog GT 55 [.ag (MBlk.ct a0)] (fun c => c = .sl 3 1 (r.map iC)) := by
  unfold p_cfg_next at hF
  refine AC.mk (nt := 20) Tryd.func55 rfl rfl rfl fun w N => ?_
  refine w_seq (w_region (by rfl) (dvN (l_box (.ag _) rfl rfl) (dv1 (l_assign (.v _)) (dvE (q_seq (w_seq (w_region (by rfl) (dvN (l_alloc zt27) ?_))))))))
  refine dvE (q_seq ?_)
  obtain ⟨s2, hF, hG3⟩ := bindE hF
  refine w_seqJ ⟨[(3, .ad 0 1 0 0)], [(0, some ⟨27, 1, [[.rf 1 0 ((s2.map iC).length) 1]]⟩), (1, some ⟨3, 1, s2.map iC⟩)], 1⟩ ?_ ?_
  · refine w_seq (w_region (by rfl) (dv1 (l_field fd47_2 rfl) (dv1 (l_loadA ty44 rfl rfl rfl rfl rfl) ?_)))
    obtain ⟨y4, h5, hF⟩ := bindE hF
    refine dvC (l_call (B := false) (FnI.mk' (by kernel_rfl)) (.cons (.ag _) (.ag (.cons (.v _) (.cons (.v _) (.cons (.v _) (.cons (.v _) (.cons (.ro _) (.cons (.ro _) .nil))))))) .nil) (p_cfg_targets_ac h5) (okF p_cfg_targets_ok)) ?_
    rintro _ rfl
    refine dvE (q_seq (w_block ?_))
    obtain ⟨z3008, hG3013, hF⟩ := bindE hF
    refine w_rangeF (jmp := .ret) (t := [(3, .ad 0 1 0 0), (7, .fn (.func 73) [] [.ro (.rp (MEnd.ct y4) 0)])]) (nx := 1) (p_cfg_targets_1_i_ic y4) hG3013 (fun (s3007 : (List Int)) => [(0, some ⟨27, 1, [[.rf 1 0 ((s3007.map iC).length) 1]]⟩), (1, some ⟨3, 1, s3007.map iC⟩)]) (fun (_ : Unit) => []) [0] (fun (s3007 : (List Int)) (y6 : MTarget) => ⟨[(3, .ad 0 1 0 0), (4, .ad 4 2 0 0)], [(0, some ⟨27, 1, [[.rf 3 0 ((s3007.map iC).length) 1]]⟩), (3, some ⟨3, 1, s3007.map iC⟩), (4, some ⟨98, 2, [[.v (.int .i64 y6.To), .ro (.sl 3 1 (y6.L.map iC))]]⟩)], 1⟩) rfl (FnI.mk' (by kernel_rfl)).run (le_of [(0, some 128), (1, none)] rfl (.s (.s .nil rfl) rfl) (.box rfl rfl (.cons (.nil ⟨by simp, rfl⟩) .nil) (.new ⟨by simp, rfl⟩ .nil))) rfl (fun _ => rfl) (by decide) rfl rfl rfl rfl (fun _ _ => rfl) ?_ ?_ ?_ ?_
    · intro l w M N g s3007 y6
      refine w_region (by rfl) (dvN (l_alloc zt98) (dvS (l_store ty98 rfl (.ag _) rfl rfl rfl (Nat.le_of_ble_eq_true rfl) rfl) (dvE (⟨rfl, ?_⟩))))
      exact (le_of [(0, some 0), (3, some 1), (4, some 64)] rfl (.s (.s .nil rfl) rfl) (.box rfl rfl (.s rfl) (.row rfl rfl rfl (clm k_iC _) (.box rfl rfl (.s rfl) .nil))))
    · intro l w M N g s3007 y6 z_ hF
      refine w_block (w_seq (w_region (by rfl) (dv1 (l_load ty27 rfl rfl rfl rfl rfl) (dv1 (l_field fd98_0 rfl) (dv1 (l_load ty3 rfl rfl rfl rfl rfl) ?_)))))
      obtain ⟨y3009, h3010, hF⟩ := bindE hF
      refine dvC (l_call (B := true) (FnI.mk' (by kernel_rfl)) (.cons (.rf _ _ _ _) (.one (.rf rfl rfl rfl (clm k_iC _))) (.cons (.v _) (.one (.v _)) .nil)) (p_slices_Contains_int_int_ac h3010) (okT p_slices_Contains_int_int_ok)) ?_
      rintro _ rfl
      refine dv1 (l_not rfl) (dvE (q_seq ?_))
      rcases condE hF with ⟨b3011, hF⟩ | ⟨b3011, hF⟩
      · refine w_condF rfl (nF b3011) ?_
        refine w_skip (q_in ?_)
        cases hF
        refine .inl ⟨rfl, _, rfl, ?_⟩
        exact (le_of [(0, some 0), (1, some 3)] rfl .nil (.box rfl rfl (.s rfl) (.row rfl rfl rfl (clm k_iC _) .nil)))
      · refine w_condT rfl (nT b3011) ?_
        refine w_region (by rfl) (dv1 (l_load ty27 rfl rfl rfl rfl rfl) (dv1 (l_field fd98_0 rfl) (dv1 (l_load ty3 rfl rfl rfl rfl rfl) (dvN (l_bs1 sl27 zt3 rfl (.v _) rfl rfl rfl (by decide) (by decide)) ?_))))
        obtain ⟨c3012, hF⟩ := ckE hF
        refine dvN3 (l_app1R el27 rfl rfl rfl rfl rfl rfl (by decide) (map_snoc iC _ y6.To) (List.length_map _) (by simpa using c3012) (by decide)) ?_
        refine dvS (l_store ty27 rfl (.rf _ _ _ _) rfl rfl rfl (Nat.le_of_ble_eq_true rfl) rfl) (dvE (q_in ?_))
        cases hF
        refine .inl ⟨rfl, _, rfl, ?_⟩
        exact (le_of [(0, some 0), (1, some 640)] rfl .nil (.box rfl rfl (.cons (.rf rfl (by simp)) .nil) (.row rfl rfl rfl (clm k_iC _) .nil)))
    · intro s3007 hs_
      subst hs_
      replace hF := onGo hF
      cases hF
      refine q_in (q_join ?_)
      exact (le_of [(0, some 0), (1, some 1)] rfl (.s .nil rfl) (.box rfl rfl (.s rfl) (.row rfl rfl rfl (clm k_iC _) .nil)))
    · intro o_ hs_
      subst hs_
      exact nomatch onOut hF
  replace hF := hG3
  refine w_seq (w_region (by rfl) (dv1 (l_load ty27 rfl rfl rfl rfl rfl) (dv1 (l_assign (.rf _ _ _ _)) (dvE (q_seq (w_ret ?_))))))
  cases hF
  refine q_end (.inr rfl) ?_
  exact ret_ok rfl (.cons (.tmp (.rf _ _ _ _) (.rf rfl rfl (clm k_iC _))) .nil) (by decide) rfl

def p_cfg_there (a0 : MFun) (a1 : Int) : Option Bool :=
(((bif decide ((0 : Int) ≤ a1) then
some (decide (a1 < ((a0.Blocks.length : Nat) : Int)))
else
some false)).bind fun (s2 : Bool) =>
some s2)

theorem p_cfg_there_ok {r : Bool} : rOk (.v (.bool r)) = true ∧ FrT (.v (.bool r)) := ⟨rfl, (.one (.cl (.v _)))⟩

set_option maxRecDepth 10000 in
set_option maxHeartbeats 4000000 in
theorem p_cfg_there_ac {a0 : MFun} {a1 : Int} {r : Bool} (hF : p_cfg_there a0 a1 = some r) : AC Tryd.prog GT 56 [.ag (MFun.ct a0), .v (.int .i64 a1)] (fun c => c = .v (.bool r)) := by
  unfold p_cfg_there at hF
  refine AC.mk (nt := 14) Tryd.func56 rfl rfl rfl fun w N => ?_
  refine w_seq (w_region (by rfl) (dvN (l_box (.ag _) rfl rfl) (dv1 (l_assign (.v _)) (dvE (q_seq ?_)))))
  obtain ⟨s2, hF, hG3⟩ := bindE hF
  refine w_seqJ ⟨[(4, .v (.bool s2))], [], 1⟩ ?_ ?_
  · refine w_region (by rfl) (dv1 (l_move (.v _)) (dv1 (l_bin rfl rfl b_geq) (dv1 (l_move (.v _)) ?_)))
    rcases condE hF with ⟨b4, hF⟩ | ⟨b4, hF⟩
    · refine dv1 (l_gT rfl rfl (gt rfl b4) fun _ => l_move (.v _)) (dv1 (l_gT rfl rfl (gt rfl b4) fun _ => l_field fd31_1 rfl) (dv1 (l_gT rfl rfl (gt rfl b4) fun _ => l_load ty29 rfl rfl rfl rfl rfl) (dv1 (l_gT rfl rfl (gt rfl b4) fun _ => l_lenRo sl29 rfl rfl (List.length_map _)) (dv1 (l_gT rfl rfl (gt rfl b4) fun _ => l_bin rfl rfl b_lss) (dv1 (l_pickT (gt rfl b4) (.v _)) (dv1 (l_assign (.v _)) (dvE ?_)))))))
      cases hF
      refine q_join ?_
      exact (le_of [] rfl (.s .nil rfl) .nil)
    · refine dv1 (l_gF rfl rfl (gt rfl b4) rfl) (dv1 (l_gF rfl rfl (gt rfl b4) rfl) (dv1 (l_gF rfl rfl (gt rfl b4) rfl) (dv1 (l_gF rfl rfl (gt rfl b4) rfl) (dv1 (l_gF rfl rfl (gt rfl b4) rfl) (dv1 (l_pickF (gt rfl b4) (.v _)) (dv1 (l_assign (.v _)) (dvE ?_)))))))
      cases hF
      refine q_join ?_
      exact (le_of [] rfl (.s .nil rfl) .nil)
  replace hF := hG3
  refine w_ret ?_
  cases hF
  refine q_end (.inr rfl) ?_
  exact ret_ok rfl (.cons (.tmp (.v _) (.v _)) .nil) (by decide) rfl

def p_cfg_Ahead (a0 : MFun) : Option ((List (List Int))) :=
(ck (24 * a0.Blocks.length ≤ 140737488355328)
((((loop (fun (s3005 : (List (List Int)) × Nat) =>
(bif decide (s3005.2 < a0.Blocks.length) then
((((a0.Blocks[s3005.2]?).bind fun x3014 =>
((p_cfg_next x3014).bind fun y3016 =>
(loop (fun (s6018 : (List (List Int)) × Nat) =>
(bif decide (s6018.2 < y3016.length) then
((((y3016[s6018.2]?).bind fun x6027 =>
((p_cfg_there a0 x6027).bind fun y6029 =>
(bif y6029 then
((atI s6018.1 x6027).bind fun x6032 =>
(ck ((x6032.length + 1) * 8 ≤ 140737488355328)
(some (s6018.1.set x6027.toNat (x6032 ++ [((s3005.2 : Nat) : Int)])))))
else
some s6018.1)))).bind fun (s6025 : (List (List Int))) =>
some (Xt.go (s6025, (s6018.2 + 1))))
else
some (Xt.out s6018.1))) Fu (s3005.1, 0))))).bind fun (s3012 : (List (List Int))) =>
some (Xt.go (s3012, (s3005.2 + 1))))
else
some (Xt.out s3005.1))) Fu ((List.replicate a0.Blocks.length ([] : List Int)), 0))).bind fun (s3 : (List (List Int))) =>
some s3)))

theorem p_cfg_Ahead_ok {r : (List (List Int))} : rOk (.sl 27 1 (r.map lC_iC)) = true ∧ FrT (.sl 27 1 (r.map lC_iC)) := ⟨rfl, (.one (.cl (.sl _ _ (clm k_lC_iC _))))⟩

set_option maxRecDepth 10000 in
set_option maxHeartbeats 4000000 in
theorem p_cfg_Ahead_ac {a0 : MFun} {r : (List (List Int))} (hF : p_cfg_Ahead a0 = some r) : AC Tryd.prog GT 43 [.ag (MFun.ct a0)] (fun c => c = .sl 27 1 (r.map lC_iC)) := by
  unfold p_cfg_Ahead at hF
  refine AC.mk (nt := 43) Tryd.func43 rfl rfl rfl fun w N => ?_
  refine w_seq (w_region (by rfl) (dvN (l_box (.ag _) rfl rfl) (dv1 (l_assign (.v _)) (dvE (q_seq (w_seq (w_region (by rfl) (dv1 (l_field fd31_1 rfl) ?_))))))))
  refine dv1 (l_load ty29 rfl rfl rfl rfl rfl) (dv1 (l_lenRo sl29 rfl rfl (List.length_map _)) ?_)
  obtain ⟨c1, hF⟩ := ckE hF
  refine dvN (l_makeR (lC_iC ([] : List Int)) a0.Blocks.length sl73 by27 zt27 rfl rfl rfl rfl rfl c1 (by decide) rfl (by intro j c z h1 h2 w N bs; rcases j with _ | j <;> simp at h1 h2 <;> (subst h1; subst h2; first | exact .v _ | exact .nil)) (rep_map lC_iC _ _)) (dv1 (l_assign (.rf _ _ _ _)) (dvE (q_seq ?_)))
  obtain ⟨s3, hF, hG4⟩ := bindE hF
  refine w_seqJ ⟨[(3, .rf 0 0 ((s3.map lC_iC).length) 1)], [(0, some ⟨27, 1, s3.map lC_iC⟩)], 1⟩ ?_ ?_
  · refine w_seq (w_region (by rfl) (dv1 (l_field fd31_1 rfl) (dv1 (l_load ty29 rfl rfl rfl rfl rfl) (dv1 (l_lenRo sl29 rfl rfl (List.length_map _)) (dv1 (l_move (.v _)) (dvE (q_seq (w_block ?_))))))))
    refine w_loopF hF (fun (s3005 : (List (List Int)) × Nat) => ⟨[(1, .ad 0 2 0 0), (3, .rf 1 0 ((s3005.1.map lC_iC).length) 1), (13, .ro (.sl 47 8 (a0.Blocks.map MBlk.ct))), (14, .v (.int .i64 ((a0.Blocks.length : Nat) : Int))), (15, .v (.int .i64 ((s3005.2 : Nat) : Int)))], [(0, some ⟨31, 2, [[.v (.int .i64 a0.Ret), .ro (.sl 47 8 (a0.Blocks.map MBlk.ct))]]⟩), (1, some ⟨27, 1, s3005.1.map lC_iC⟩)], 1⟩) (le_of [(0, some 0), (1, some 320)] rfl (.s (.s (.s (.s (.s .nil rfl) rfl) rfl) rfl) rfl) (.box rfl rfl (.s rfl) (.row rfl rfl rfl (clm k_lC_iC _) .nil))) ?_
    intro s3005 y3006 hF hx3007
    refine w_seq (w_region (by rfl) (dv1 (l_bin rfl rfl b_lssN) (dvE (q_seq (w_seq ?_)))))
    rcases condE hF with ⟨b3009, hF⟩ | ⟨b3009, hF⟩
    · refine w_lenS 13 rfl fun l3010 => ?_
      refine w_condT rfl b3009 ?_
      refine w_skip (q_seq ?_)
      obtain ⟨s3012, hF, hG3013⟩ := bindE hF
      refine w_seqJ ⟨[(1, .ad 0 2 0 0), (3, .rf 1 0 ((s3012.map lC_iC).length) 1), (13, .ro (.sl 47 8 (a0.Blocks.map MBlk.ct))), (14, .v (.int .i64 ((a0.Blocks.length : Nat) : Int))), (15, .v (.int .i64 ((s3005.2 : Nat) : Int)))], [(0, some ⟨31, 2, [[.v (.int .i64 a0.Ret), .ro (.sl 47 8 (a0.Blocks.map MBlk.ct))]]⟩), (1, some ⟨27, 1, s3012.map lC_iC⟩)], 1⟩ ?_ ?_
      · refine w_block (w_seq (w_region (by rfl) (dv1 (l_move (.v _)) ?_)))
        obtain ⟨x3014, h3015, hF⟩ := bindE hF
        refine dv1 (l_indexRo s3005.2 sl29 rfl rfl rfl (map_at h3015)) (dv1 (l_loadARo ty47 rfl rfl) (dvN (l_alloc zt47) (dv1 (l_assign (.v _)) (dvS (l_store ty47 rfl (.ag _) rfl rfl rfl (Nat.le_of_ble_eq_true rfl) rfl) (dvE (q_seq (w_seq (w_region (by rfl) ?_))))))))
        refine dv1 (l_loadA ty47 rfl rfl rfl rfl rfl) ?_
        obtain ⟨y3016, h3017, hF⟩ := bindE hF
        refine dvC (l_call (B := false) (FnI.mk' (by kernel_rfl)) (.cons (.ag _) (.ag (.cons (.ro _) (.cons (.ro _) (.cons (.v _) (.cons (.v _) (.cons (.v _) (.cons (.v _) (.cons (.ro _) (.cons (.ro _) .nil))))))))) .nil) (p_cfg_next_ac h3017) (okF p_cfg_next_ok)) ?_
        rintro _ rfl
        refine dv1 (l_lenR sl27 rfl rfl (List.length_map _)) (dv1 (l_move (.v _)) (dvE (q_seq (w_block (w_loopF hF (fun (s6018 : (List (List Int)) × Nat) => ⟨[(1, .ad 0 2 0 0), (3, .rf 1 0 ((s6018.1.map lC_iC).length) 1), (4, .v (.int .i64 ((s3005.2 : Nat) : Int))), (13, .ro (.sl 47 8 (a0.Blocks.map MBlk.ct))), (14, .v (.int .i64 ((a0.Blocks.length : Nat) : Int))), (15, .v (.int .i64 ((s3005.2 : Nat) : Int))), (21, .rf 2 0 ((y3016.map iC).length) 1), (22, .v (.int .i64 ((y3016.length : Nat) : Int))), (23, .v (.int .i64 ((s6018.2 : Nat) : Int)))], [(0, some ⟨31, 2, [[.v (.int .i64 a0.Ret), .ro (.sl 47 8 (a0.Blocks.map MBlk.ct))]]⟩), (1, some ⟨27, 1, s6018.1.map lC_iC⟩), (2, some ⟨3, 1, y3016.map iC⟩)], 1⟩) (le_of [(0, some 0), (1, some 1), (2, some 576)] rfl (.s (.s (.s (.s (.s (.s (.s (.s (.s .nil rfl) rfl) rfl) rfl) rfl) rfl) rfl) rfl) rfl) (.box rfl rfl (.s rfl) (.row rfl rfl rfl (clm k_lC_iC _) (.row rfl rfl rfl (clm k_iC _) .nil)))) ?_)))))
        intro s6018 y6019 hF hx6020
        refine w_seq (w_region (by rfl) (dv1 (l_bin rfl rfl b_lssN) (dvE (q_seq (w_seq ?_)))))
        rcases condE hF with ⟨b6022, hF⟩ | ⟨b6022, hF⟩
        · refine w_lenK 2 rfl fun l6023 => ?_
          refine w_condT rfl b6022 ?_
          refine w_skip (q_seq ?_)
          obtain ⟨s6025, hF, hG6026⟩ := bindE hF
          refine w_seqJ ⟨[(1, .ad 0 2 0 0), (3, .rf 1 0 ((s6025.map lC_iC).length) 1), (4, .v (.int .i64 ((s3005.2 : Nat) : Int))), (13, .ro (.sl 47 8 (a0.Blocks.map MBlk.ct))), (14, .v (.int .i64 ((a0.Blocks.length : Nat) : Int))), (15, .v (.int .i64 ((s3005.2 : Nat) : Int))), (21, .rf 2 0 ((y3016.map iC).length) 1), (22, .v (.int .i64 ((y3016.length : Nat) : Int))), (23, .v (.int .i64 ((s6018.2 : Nat) : Int)))], [(0, some ⟨31, 2, [[.v (.int .i64 a0.Ret), .ro (.sl 47 8 (a0.Blocks.map MBlk.ct))]]⟩), (1, some ⟨27, 1, s6025.map lC_iC⟩), (2, some ⟨3, 1, y3016.map iC⟩)], 1⟩ ?_ ?_
          · refine w_block (w_seq (w_region (by rfl) ?_))
            obtain ⟨x6027, h6028, hF⟩ := bindE hF
            refine dv1 (l_index s6018.2 sl27 rfl rfl rfl (lt_at iC h6028)) (dv1 (l_load ty3 rfl rfl (map_at h6028) rfl rfl) (dv1 (l_assign (.v _)) (dvE (q_seq (w_seq (w_region (by rfl) (dv1 (l_loadA ty31 rfl rfl rfl rfl rfl) (dv1 (l_move (.v _)) ?_))))))))
            obtain ⟨y6029, h6030, hF⟩ := bindE hF
            refine dvC (l_call (B := false) (FnI.mk' (by kernel_rfl)) (.cons (.ag _) (.ag (.cons (.v _) (.cons (.ro _) .nil))) (.cons (.v _) (.one (.v _)) .nil)) (p_cfg_there_ac h6030) (okF p_cfg_there_ok)) ?_
            rintro _ rfl
            refine dvE (q_seq ?_)
            rcases condE hF with ⟨b6031, hF⟩ | ⟨b6031, hF⟩
            · refine w_condT rfl b6031 ?_
              refine w_region (by rfl) (dv1 (l_move (.rf _ _ _ _)) (dv1 (l_move (.v _)) (dv1 (l_move (.rf _ _ _ _)) (dv1 (l_move (.v _)) ?_))))
              obtain ⟨x6032, h6033, hF⟩ := bindE hF
              refine dv1 (l_index x6027.toNat sl73 rfl rfl (atI_z h6033) (lt_at lC_iC (atI_at h6033))) (dvG (le_open 1 x6027.toNat rfl (map_at (atI_at h6033)) rfl) ?_)
              refine dv1 (l_load ty27 rfl rfl (set_at (atI_at h6033)) rfl rfl) (dv1 (l_move (.v _)) (dvN (l_bs1 sl27 zt3 rfl (.v _) rfl rfl rfl (by decide) (by decide)) ?_))
              obtain ⟨c6034, hF⟩ := ckE hF
              refine dvN3 (l_app1R el27 rfl rfl rfl rfl rfl rfl (by decide) (map_snoc iC _ ((s3005.2 : Nat) : Int)) (List.length_map _) (by simpa using c6034) (by decide)) ?_
              refine dv1 (l_index x6027.toNat sl73 rfl rfl (atI_z h6033) (lt_at lC_iC (atI_at h6033))) (dvS (l_storeR ty27 rfl (.rf _ _ _ _) rfl (set_at (atI_at h6033)) rfl (Nat.le_of_ble_eq_true rfl) rfl (List.set_set ..)) (dvE ?_))
              cases hF
              refine q_in (q_join ?_)
              refine St.le.trans (le_closeR 1 x6027.toNat rfl (set_at (atI_at h6033)) (.cons (.of (.rf rfl (by simp) (clm k_iC _))) .nil) (by decide) (by decide) rfl (set_cl lC_iC _ _ _ (x6032 ++ [((s3005.2 : Nat) : Int)]))) ?_
              exact (le_of [(0, some 0), (1, some 1), (2, some 2)] rfl (.s (.cons (.rf _ _ _ _) (.rf rfl (by simp)) (.s (.s (.s (.s (.s (.s (.s .nil rfl) rfl) rfl) rfl) rfl) rfl) rfl)) rfl) (.box rfl rfl (.s rfl) (.row rfl rfl rfl (clm k_lC_iC _) (.row rfl rfl rfl (clm k_iC _) .nil))))
            · refine w_condF rfl b6031 ?_
              refine w_skip ?_
              cases hF
              refine q_in (q_join ?_)
              exact (le_of [(0, some 0), (1, some 1), (2, some 2)] rfl (.s (.s (.s (.s (.s (.s (.s (.s (.s .nil rfl) rfl) rfl) rfl) rfl) rfl) rfl) rfl) rfl) (.box rfl rfl (.s rfl) (.row rfl rfl rfl (clm k_lC_iC _) (.row rfl rfl rfl (clm k_iC _) .nil))))
          replace hF := hG6026
          refine w_region (by rfl) (dv1 (l_bin rfl rfl (b_incN (of_decide_eq_true b6022) l6023)) (dv1 (l_move (.v _)) (dvE ?_)))
          cases hF
          refine qL rfl ?_
          exact (le_of [(0, some 0), (1, some 1), (2, some 2)] rfl (.s (.s (.s (.s (.s (.s (.s (.s (.s .nil rfl) rfl) rfl) rfl) rfl) rfl) rfl) rfl) rfl) (.box rfl rfl (.s rfl) (.row rfl rfl rfl (clm k_lC_iC _) (.row rfl rfl rfl (clm k_iC _) .nil))))
        · refine w_condF rfl b6022 ?_
          refine w_exit ?_
          cases hF
          cases hx6020 _ rfl
          refine q_exS (q_exS (q_here (q_in (q_join ?_))))
          exact (le_of [(0, some 0), (1, some 1)] rfl (.s (.s (.s (.s (.s .nil rfl) rfl) rfl) rfl) rfl) (.box rfl rfl (.s rfl) (.row rfl rfl rfl (clm k_lC_iC _) .nil)))
      replace hF := hG3013
      refine w_region (by rfl) (dv1 (l_bin rfl rfl (b_incN (of_decide_eq_true b3009) l3010)) (dv1 (l_move (.v _)) (dvE ?_)))
      cases hF
      refine qL rfl ?_
      exact (le_of [(0, some 0), (1, some 1)] rfl (.s (.s (.s (.s (.s .nil rfl) rfl) rfl) rfl) rfl) (.box rfl rfl (.s rfl) (.row rfl rfl rfl (clm k_lC_iC _) .nil)))
    · refine w_condF rfl b3009 ?_
      refine w_exit ?_
      cases hF
      cases hx3007 _ rfl
      refine q_exS (q_exS (q_here (q_join ?_)))
      exact (le_of [(0, some 1)] rfl (.s .nil rfl) (.row rfl rfl rfl (clm k_lC_iC _) .nil))
  replace hF := hG4
  refine w_seq (w_region (by rfl) (dv1 (l_move (.rf _ _ _ _)) (dv1 (l_assign (.rf _ _ _ _)) (dvE (q_seq (w_ret ?_))))))
  cases hF
  refine q_end (.inr rfl) ?_
  exact ret_ok rfl (.cons (.tmp (.rf _ _ _ _) (.rf rfl rfl (clm k_lC_iC _))) .nil) (by decide) rfl

def p_slices_Equal_int_int (a0 : List Int) (a1 : List Int) : Option Bool :=
(bif decide (((a0.length : Nat) : Int) = ((a1.length : Nat) : Int)) then
(((loop (fun (s3004 : Nat) =>
(bif decide (s3004 < a0.length) then
((a0[s3004]?).bind fun x3010 =>
((a1[s3004]?).bind fun x3012 =>
(bif decide (x3010 = x3012) then
some (Xt.go (s3004 + 1))
else
some (Xt.out (Xt.out false)))))
else
some (Xt.out (Xt.go ())))) Fu 0)).bind fun s2 => s2.on (fun (s3015 : Unit) =>
some true)
(fun o3017 => some o3017))
else
some false)

theorem p_slices_Equal_int_int_ok {r : Bool} : rOk (.v (.bool r)) = true ∧ FrT (.v (.bool r)) := ⟨rfl, (.one (.cl (.v _)))⟩

set_option maxRecDepth 10000 in
set_option maxHeartbeats 4000000 in
theorem p_slices_Equal_int_int_ac {a0 : List Int} {a1 : List Int} {r : Bool} (hF : p_slices_Equal_int_int a0 a1 = some r) : AC Tryd.prog GT 57 [.sl 3 1 (a0.map iC), .sl 3 1 (a1.map iC)] (fun c => c = .v (.bool r)) := by
  unfold p_slices_Equal_int_int at hF
  refine AC.mk (nt := 26) Tryd.func57 rfl rfl rfl fun w N => ?_
  refine w_seq (w_region (by rfl) (dv1 (l_assign (.v _)) (dvE (q_seq (w_seq (w_seq (w_region (by rfl) (dv1 (l_move (.ro _)) ?_))))))))
  refine dv1 (l_lenRo sl27 rfl rfl (List.length_map _)) (dv1 (l_move (.ro _)) (dv1 (l_lenRo sl27 rfl rfl (List.length_map _)) (dv1 (l_bin rfl rfl b_neq) (dvE (q_seq ?_)))))
  rcases condE hF with ⟨b1, hF⟩ | ⟨b1, hF⟩
  · refine w_condF rfl (nF b1) ?_
    refine w_skip (q_seq ?_)
    obtain ⟨s2, hF, hG3⟩ := bindE hF
    refine w_seqE s2 (fun (s3015 : Unit) => ⟨[], [], 1⟩) ?_ (fun s3015 e3016 => ?_)
    · refine w_seq (w_region (by rfl) (dv1 (l_move (.ro _)) (dv1 (l_lenRo sl27 rfl rfl (List.length_map _)) (dv1 (l_move (.v _)) (dvE (q_seq (w_block (w_loopF hF (fun (s3004 : Nat) => ⟨[(0, .ro (.sl 3 1 (a0.map iC))), (1, .ro (.sl 3 1 (a1.map iC))), (12, .v (.int .i64 ((a0.length : Nat) : Int))), (13, .v (.int .i64 ((s3004 : Nat) : Int)))], [], 1⟩) (le_of [] rfl (.s (.s (.s (.s .nil rfl) rfl) rfl) rfl) .nil) ?_))))))))
      intro s3004 y3005 hF hx3006
      refine w_seq (w_region (by rfl) (dv1 (l_bin rfl rfl b_lssN) (dvE (q_seq (w_seq ?_)))))
      rcases condE hF with ⟨b3008, hF⟩ | ⟨b3008, hF⟩
      · refine w_lenS 0 rfl fun l3009 => ?_
        refine w_condT rfl b3008 ?_
        refine w_skip (q_seq (w_seq (w_block (w_seq (w_region (by rfl) (dv1 (l_move (.v _)) (dv1 (l_assign (.v _)) (dvE ?_))))))))
        refine q_seq (w_seq (w_draw [[], [], [0, 1], [0, 1, 2], [], [], [4, 5], [4, 5, 6], [0, 1, 2, 3, 4, 5, 6, 7]] [0, 1, 2, 3, 4, 5, 6, 7, 8] (by kernel_rfl) (by rfl) ⟨by decide, by rfl⟩ (by rfl) ?_))
        refine de1 rfl (l_move (.ro _)) rfl (de1 rfl (l_move (.v _)) rfl ?_)
        obtain ⟨x3010, h3011, hF⟩ := bindE hF
        refine de1 rfl (l_indexRo s3004 sl27 rfl rfl rfl (map_at h3011)) rfl (de1 rfl (l_loadRo ty3 rfl rfl) rfl (de1 rfl (l_move (.ro _)) rfl (de1 rfl (l_move (.v _)) rfl ?_)))
        obtain ⟨x3012, h3013, hF⟩ := bindE hF
        refine de1 rfl (l_indexRo s3004 sl27 rfl rfl rfl (map_at h3013)) rfl (de1 rfl (l_loadRo ty3 rfl rfl) rfl (de1 rfl (l_bin rfl rfl b_neq) rfl (ddE (q_seq ?_))))
        rcases condE hF with ⟨b3014, hF⟩ | ⟨b3014, hF⟩
        · refine w_condF rfl (nF b3014) ?_
          refine w_skip (q_in (q_seq (w_region (by rfl) (dv1 (l_bin rfl rfl (b_incN (of_decide_eq_true b3008) l3009)) (dv1 (l_move (.v _)) (dvE ?_))))))
          cases hF
          refine qL rfl ?_
          exact (le_of [] rfl (.s (.s (.s (.s .nil rfl) rfl) rfl) rfl) .nil)
        · refine w_condT rfl (nT b3014) ?_
          refine w_seq (w_region (by rfl) (dv1 (l_assign (.v _)) (dvE (q_seq (w_ret (q_reI (q_reS (q_reS ?_))))))))
          refine q_reI (q_reS ?_)
          cases hF
          cases hx3006 _ rfl
          have hF := onOut hG3
          cases hF
          refine q_end (.inr rfl) ?_
          exact ret_ok rfl (.cons (.tmp (.v _) (.v _)) .nil) (by decide) rfl
      · refine w_condF rfl b3008 ?_
        refine w_exit ?_
        cases hF
        cases hx3006 _ rfl
        refine q_exS (q_exS (q_here (qL rfl ?_)))
        exact (le_of [] rfl .nil .nil)
    subst e3016
    replace hF := onGo hG3
    refine w_seq (w_region (by rfl) (dv1 (l_assign (.v _)) (dvE (q_seq (w_ret ?_)))))
    cases hF
    refine q_end (.inr rfl) ?_
    exact ret_ok rfl (.cons (.tmp (.v _) (.v _)) .nil) (by decide) rfl
  · refine w_condT rfl (nT b1) ?_
    refine w_seq (w_region (by rfl) (dv1 (l_assign (.v _)) (dvE (q_seq (w_ret (q_reS ?_))))))
    cases hF
    refine q_end (.inr rfl) ?_
    exact ret_ok rfl (.cons (.tmp (.v _) (.v _)) .nil) (by decide) rfl

def p_tidy_next (a0 : MFun) (a1 : Int) (a2 : List (List Int)) : Option (Int × Bool) :=
(((bif decide (a1 < 0) then
some true
else
some (decide (((a0.Blocks.length : Nat) : Int) ≤ a1)))).bind fun (s2 : Bool) =>
(bif s2 then
some (0, false)
else
((atI a0.Blocks a1).bind fun x6 =>
(((bif decide (x6.End.K = 0) then
(bif decide (x6.End.To ≤ 0) then
some true
else
(bif decide (((a0.Blocks.length : Nat) : Int) ≤ x6.End.To) then
some true
else
some (decide (x6.End.To = a1))))
else
some true)).bind fun (s9 : Bool) =>
(bif s9 then
some (0, false)
else
((((atI a2 x6.End.To).bind fun x18 =>
((p_slices_Equal_int_int x18 [a1]).bind fun y20 =>
(bif y20 then
((atI a0.Blocks x6.End.To).bind fun x23 =>
some (decide (((x6.End.L.length : Nat) : Int) = ((x23.Params.length : Nat) : Int))))
else
some false)))).bind fun (s16 : Bool) =>
some (x6.End.To, s16)))))))

theorem p_tidy_next_ok {r : Int × Bool} : rOk (.tu [.v (.int .i64 r.1), .v (.bool r.2)]) = true ∧ FrT (.tu [.v (.int .i64 r.1), .v (.bool r.2)]) := ⟨rfl, (.tu (by intro c hc; simp only [List.mem_cons, List.not_mem_nil, or_false] at hc; rcases hc with rfl | rfl <;> first | exact (.cl (.v _)) | exact (.cl (.v _))))⟩

set_option maxRecDepth 10000 in
set_option maxHeartbeats 4000000 in
theorem p_tidy_next_ac {a0 : MFun} {a1 : Int} {a2 : List (List Int)} {r : Int × Bool} (hF : p_tidy_next a0 a1 a2 = some r) : AC Tryd.prog GT 44 [.ag (MFun.ct a0), .v (.int .i64 a1), .sl 27 1 (a2.map lC_iC)] (fun c => c = .tu [.v (.int .i64 r.1), .v (.bool r.2)]) := by
  unfold p_tidy_next at hF
  refine AC.mk (nt := 70) Tryd.func44 rfl rfl rfl fun w N => ?_
  refine w_seq (w_region (by rfl) (dvN (l_box (.ag _) rfl rfl) (dv1 (l_assign (.v _)) (dv1 (l_assign (.v _)) (dvE (q_seq (w_seq ?_)))))))
  obtain ⟨s2, hF, hG3⟩ := bindE hF
  refine w_seqJ ⟨[(1, .v (.int .i64 a1)), (2, .ro (.sl 27 1 (a2.map lC_iC))), (3, .ad 0 2 0 0), (17, .v (.bool s2)), (28, .un), (29, .un), (30, .un), (33, .un), (34, .un), (35, .un), (36, .un), (37, .un), (38, .un), (41, .un), (42, .un), (43, .un), (44, .un), (57, .un), (58, .un), (59, .un), (60, .un), (61, .un), (62, .un), (63, .un), (64, .un), (65, .un), (66, .un), (67, .un), (68, .un)], [(0, some ⟨31, 2, [[.v (.int .i64 a0.Ret), .ro (.sl 47 8 (a0.Blocks.map MBlk.ct))]]⟩)], 1⟩ ?_ ?_
  · refine w_region (by rfl) (dv1 (l_move (.v _)) (dv1 (l_bin rfl rfl b_lss) (dv1 (l_move (.v _)) ?_)))
    rcases condE hF with ⟨b4, hF⟩ | ⟨b4, hF⟩
    · refine dv1 (l_gF rfl rfl (gt rfl b4) rfl) (dv1 (l_gF rfl rfl (gt rfl b4) rfl) (dv1 (l_gF rfl rfl (gt rfl b4) rfl) (dv1 (l_gF rfl rfl (gt rfl b4) rfl) (dv1 (l_gF rfl rfl (gt rfl b4) rfl) (dv1 (l_pickT (gt rfl b4) (.v _)) (dvE ?_))))))
      cases hF
      refine q_join ?_
      exact (le_of [(0, some 0)] rfl (.s (.s (.s (.s (.cons .un (.un _) (.cons .un (.un _) (.cons .un (.un _) (.cons .un (.un _) (.cons .un (.un _) (.cons .un (.un _) (.cons .un (.un _) (.cons .un (.un _) (.cons .un (.un _) (.cons .un (.un _) (.cons .un (.un _) (.cons .un (.un _) (.cons .un (.un _) (.cons .un (.un _) (.cons .un (.un _) (.cons .un (.un _) (.cons .un (.un _) (.cons .un (.un _) (.cons .un (.un _) (.cons .un (.un _) (.cons .un (.un _) (.cons .un (.un _) (.cons .un (.un _) (.cons .un (.un _) (.cons .un (.un _) .nil))))))))))))))))))))))))) rfl) rfl) rfl) rfl) (.box rfl rfl (.s rfl) .nil))
    · refine dv1 (l_gT rfl rfl (gt rfl b4) fun _ => l_move (.v _)) (dv1 (l_gT rfl rfl (gt rfl b4) fun _ => l_field fd31_1 rfl) (dv1 (l_gT rfl rfl (gt rfl b4) fun _ => l_load ty29 rfl rfl rfl rfl rfl) (dv1 (l_gT rfl rfl (gt rfl b4) fun _ => l_lenRo sl29 rfl rfl (List.length_map _)) (dv1 (l_gT rfl rfl (gt rfl b4) fun _ => l_bin rfl rfl b_geq) (dv1 (l_pickF (gt rfl b4) (.v _)) (dvE ?_))))))
      cases hF
      refine q_join ?_
      exact (le_of [(0, some 0)] rfl (.s (.s (.s (.s (.cons .un (.un _) (.cons .un (.un _) (.cons .un (.un _) (.cons .un (.un _) (.cons .un (.un _) (.cons .un (.un _) (.cons .un (.un _) (.cons .un (.un _) (.cons .un (.un _) (.cons .un (.un _) (.cons .un (.un _) (.cons .un (.un _) (.cons .un (.un _) (.cons .un (.un _) (.cons .un (.un _) (.cons .un (.un _) (.cons .un (.un _) (.cons .un (.un _) (.cons .un (.un _) (.cons .un (.un _) (.cons .un (.un _) (.cons .un (.un _) (.cons .un (.un _) (.cons .un (.un _) (.cons .un (.un _) .nil))))))))))))))))))))))))) rfl) rfl) rfl) rfl) (.box rfl rfl (.s rfl) .nil))
  replace hF := hG3
  rcases condE hF with ⟨b5, hF⟩ | ⟨b5, hF⟩
  · refine w_condT rfl b5 ?_
    refine w_seq (w_region (by rfl) (dv1 (l_assign (.v _)) (dv1 (l_assign (.v _)) (dvE (q_seq (w_ret (q_reS ?_)))))))
    cases hF
    refine q_end (.inr rfl) ?_
    exact ret_ok rfl (.cons (.tmp (.v _) (.v _)) (.cons (.tmp (.v _) (.v _)) .nil)) (by decide) rfl
  · refine w_condF rfl b5 ?_
    refine w_skip (q_seq (w_seq (w_region (by rfl) (dv1 (l_field fd31_1 rfl) (dv1 (l_load ty29 rfl rfl rfl rfl rfl) (dv1 (l_move (.v _)) ?_))))))
    obtain ⟨x6, h7, hF⟩ := bindE hF
    refine dv1 (l_indexRo a1.toNat sl29 rfl rfl (atI_z h7) (map_at (atI_at h7))) (dv1 (l_fieldRo fd47_2 rfl) (dv1 (l_loadARo ty44 rfl rfl) (dvN (l_alloc zt44) (dvS (l_store ty44 rfl (.ag _) rfl rfl rfl (Nat.le_of_ble_eq_true rfl) rfl) (dvE (q_seq (w_seq ?_)))))))
    obtain ⟨s9, hF, hG10⟩ := bindE hF
    refine w_seqJ ⟨[(1, .v (.int .i64 a1)), (2, .ro (.sl 27 1 (a2.map lC_iC))), (3, .ad 0 2 0 0), (8, .ad 1 6 0 0), (45, .v (.bool s9)), (57, .un), (58, .un), (59, .un), (60, .un), (61, .un), (62, .un), (63, .un), (64, .un), (65, .un), (66, .un), (67, .un), (68, .un)], [(0, some ⟨31, 2, [[.v (.int .i64 a0.Ret), .ro (.sl 47 8 (a0.Blocks.map MBlk.ct))]]⟩), (1, some ⟨44, 6, [[.v (.int .i64 x6.End.K), .v (.int .i64 x6.End.A), .v (.int .i64 x6.End.To), .v (.int .i64 x6.End.Else), .ro (.sl 3 1 (x6.End.L.map iC)), .ro (.sl 3 1 (x6.End.M.map iC))]]⟩)], 1⟩ ?_ ?_
    · refine w_region (by rfl) (dv1 (l_field fd44_0 rfl) (dv1 (l_load ty3 rfl rfl rfl rfl rfl) (dv1 (l_bin rfl rfl b_neq) (dv1 (l_move (.v _)) ?_))))
      rcases condE hF with ⟨b11, hF⟩ | ⟨b11, hF⟩
      · refine dv1 (l_gT rfl rfl (gt rfl (nF b11)) fun _ => l_field fd44_2 rfl) (dv1 (l_gT rfl rfl (gt rfl (nF b11)) fun _ => l_load ty3 rfl rfl rfl rfl rfl) (dv1 (l_gT rfl rfl (gt rfl (nF b11)) fun _ => l_bin rfl rfl b_leq) (dv1 (l_pickF (gt rfl (nF b11)) (.v _)) (dv1 (l_move (.v _)) ?_))))
        rcases condE hF with ⟨b12, hF⟩ | ⟨b12, hF⟩
        · refine dv1 (l_gF rfl rfl (gt rfl b12) rfl) (dv1 (l_gF rfl rfl (gt rfl b12) rfl) (dv1 (l_gF rfl rfl (gt rfl b12) rfl) (dv1 (l_gF rfl rfl (gt rfl b12) rfl) (dv1 (l_gF rfl rfl (gt rfl b12) rfl) (dv1 (l_gF rfl rfl (gt rfl b12) rfl) (dv1 (l_pickT (gt rfl b12) (.v _)) (dv1 (l_move (.v _)) (dv1 (l_gF rfl rfl rfl rfl) ?_))))))))
          refine dv1 (l_gF rfl rfl rfl rfl) (dv1 (l_gF rfl rfl rfl rfl) (dv1 (l_gF rfl rfl rfl rfl) (dv1 (l_pickT rfl (.v _)) (dvE ?_))))
          cases hF
          refine q_join ?_
          exact (le_of [(0, some 0), (1, some 448)] rfl (.s (.s (.s (.s (.s (.cons .un (.un _) (.cons .un (.un _) (.cons .un (.un _) (.cons .un (.un _) (.cons .un (.un _) (.cons .un (.un _) (.cons .un (.un _) (.cons .un (.un _) (.cons .un (.un _) (.cons .un (.un _) (.cons .un (.un _) (.cons .un (.un _) .nil)))))))))))) rfl) rfl) rfl) rfl) rfl) (.box rfl rfl (.s rfl) (.box rfl rfl (.s rfl) .nil)))
        · refine dv1 (l_gT rfl rfl (gt rfl b12) fun _ => l_field fd44_2 rfl) (dv1 (l_gT rfl rfl (gt rfl b12) fun _ => l_load ty3 rfl rfl rfl rfl rfl) (dv1 (l_gT rfl rfl (gt rfl b12) fun _ => l_field fd31_1 rfl) (dv1 (l_gT rfl rfl (gt rfl b12) fun _ => l_load ty29 rfl rfl rfl rfl rfl) (dv1 (l_gT rfl rfl (gt rfl b12) fun _ => l_lenRo sl29 rfl rfl (List.length_map _)) (dv1 (l_gT rfl rfl (gt rfl b12) fun _ => l_bin rfl rfl b_geq) (dv1 (l_pickF (gt rfl b12) (.v _)) (dv1 (l_move (.v _)) ?_)))))))
          rcases condE hF with ⟨b13, hF⟩ | ⟨b13, hF⟩
          · refine dv1 (l_gF rfl rfl (gt rfl b13) rfl) (dv1 (l_gF rfl rfl (gt rfl b13) rfl) (dv1 (l_gF rfl rfl (gt rfl b13) rfl) (dv1 (l_gF rfl rfl (gt rfl b13) rfl) (dv1 (l_pickT (gt rfl b13) (.v _)) (dvE ?_)))))
            cases hF
            refine q_join ?_
            exact (le_of [(0, some 0), (1, some 448)] rfl (.s (.s (.s (.s (.s (.cons .un (.un _) (.cons .un (.un _) (.cons .un (.un _) (.cons .un (.un _) (.cons .un (.un _) (.cons .un (.un _) (.cons .un (.un _) (.cons .un (.un _) (.cons .un (.un _) (.cons .un (.un _) (.cons .un (.un _) (.cons .un (.un _) .nil)))))))))))) rfl) rfl) rfl) rfl) rfl) (.box rfl rfl (.s rfl) (.box rfl rfl (.s rfl) .nil)))
          · refine dv1 (l_gT rfl rfl (gt rfl b13) fun _ => l_field fd44_2 rfl) (dv1 (l_gT rfl rfl (gt rfl b13) fun _ => l_load ty3 rfl rfl rfl rfl rfl) (dv1 (l_gT rfl rfl (gt rfl b13) fun _ => l_move (.v _)) (dv1 (l_gT rfl rfl (gt rfl b13) fun _ => l_bin rfl rfl b_eql) (dv1 (l_pickF (gt rfl b13) (.v _)) (dvE ?_)))))
            cases hF
            refine q_join ?_
            exact (le_of [(0, some 0), (1, some 448)] rfl (.s (.s (.s (.s (.s (.cons .un (.un _) (.cons .un (.un _) (.cons .un (.un _) (.cons .un (.un _) (.cons .un (.un _) (.cons .un (.un _) (.cons .un (.un _) (.cons .un (.un _) (.cons .un (.un _) (.cons .un (.un _) (.cons .un (.un _) (.cons .un (.un _) .nil)))))))))))) rfl) rfl) rfl) rfl) rfl) (.box rfl rfl (.s rfl) (.box rfl rfl (.s rfl) .nil)))
      · refine dv1 (l_gF rfl rfl (gt rfl (nT b11)) rfl) (dv1 (l_gF rfl rfl (gt rfl (nT b11)) rfl) (dv1 (l_gF rfl rfl (gt rfl (nT b11)) rfl) (dv1 (l_pickT (gt rfl (nT b11)) (.v _)) (dv1 (l_move (.v _)) (dv1 (l_gF rfl rfl rfl rfl) (dv1 (l_gF rfl rfl rfl rfl) (dv1 (l_gF rfl rfl rfl rfl) (dv1 (l_gF rfl rfl rfl rfl) ?_))))))))
        refine dv1 (l_gF rfl rfl rfl rfl) (dv1 (l_gF rfl rfl rfl rfl) (dv1 (l_pickT rfl (.v _)) (dv1 (l_move (.v _)) (dv1 (l_gF rfl rfl rfl rfl) (dv1 (l_gF rfl rfl rfl rfl) (dv1 (l_gF rfl rfl rfl rfl) (dv1 (l_gF rfl rfl rfl rfl) (dv1 (l_pickT rfl (.v _)) ?_))))))))
        refine dvE ?_
        cases hF
        refine q_join ?_
        exact (le_of [(0, some 0), (1, some 448)] rfl (.s (.s (.s (.s (.s (.cons .un (.un _) (.cons .un (.un _) (.cons .un (.un _) (.cons .un (.un _) (.cons .un (.un _) (.cons .un (.un _) (.cons .un (.un _) (.cons .un (.un _) (.cons .un (.un _) (.cons .un (.un _) (.cons .un (.un _) (.cons .un (.un _) .nil)))))))))))) rfl) rfl) rfl) rfl) rfl) (.box rfl rfl (.s rfl) (.box rfl rfl (.s rfl) .nil)))
    replace hF := hG10
    rcases condE hF with ⟨b14, hF⟩ | ⟨b14, hF⟩
    · refine w_condT rfl b14 ?_
      refine w_seq (w_region (by rfl) (dv1 (l_assign (.v _)) (dv1 (l_assign (.v _)) (dvE (q_seq (w_ret (q_reS ?_)))))))
      cases hF
      refine q_end (.inr rfl) ?_
      exact ret_ok rfl (.cons (.tmp (.v _) (.v _)) (.cons (.tmp (.v _) (.v _)) .nil)) (by decide) rfl
    · refine w_condF rfl b14 ?_
      refine w_skip (q_seq ?_)
      obtain ⟨s16, hF, hG17⟩ := bindE hF
      refine w_seqJ ⟨[(6, .v (.int .i64 x6.End.To)), (7, .v (.bool s16))], [], 1⟩ ?_ ?_
      · refine w_draw [[], [0], [], [], [3], [2, 3, 4], [2, 3, 4, 5], [], [7], [2, 3, 4, 5, 6, 7, 8], [2, 3, 4, 5, 6, 7, 8, 9], [2, 3, 4, 5, 6, 7, 8, 9, 10], [2, 3, 4, 5, 6, 7, 8, 9, 10, 11], [2, 3, 4, 5, 6, 7, 8, 9, 10, 11, 12], [2, 3, 4, 5, 6, 7, 8, 9, 10], [2, 3, 4, 5, 6, 7, 8, 9, 10, 14], [2, 3, 4, 5, 6, 7, 8, 9, 10], [2, 3, 4, 5, 6, 7, 8, 9, 10, 16], [2, 3, 4, 5, 6, 7, 8, 9, 10, 14, 15, 16, 17], [2, 3, 4, 5, 6, 7, 8, 9, 10, 14, 15, 16, 17, 18], [2, 3, 4, 5, 6, 7, 8, 9, 10, 14, 15, 16, 17, 18, 19], [2, 3, 4, 5, 6, 7, 8, 9, 10, 14, 15, 16, 17, 18, 19, 20], [2, 3, 4, 5, 6, 7, 8, 9, 10, 11, 12, 13, 14, 15, 16, 17, 18, 19, 20, 21], [2, 3, 4, 5, 6, 7, 8, 9, 10, 11, 12, 13, 14, 15, 16, 17, 18, 19, 20, 21, 22], [0, 1, 2, 3, 4, 5, 6, 7, 8, 9, 10], [0, 1, 2, 3, 4, 5, 6, 7, 8, 9, 10, 11, 12, 13, 14, 15, 16, 17, 18, 19, 20, 21, 22, 23, 24]] [0, 1, 2, 3, 4, 5, 6, 7, 8, 9, 10, 11, 12, 13, 14, 15, 16, 17, 18, 19, 20, 21, 22, 23, 24, 25] (by kernel_rfl) (by rfl) ⟨by decide, by rfl⟩ (by rfl) ?_
        refine de1 rfl (l_field fd44_2 rfl) rfl (de1 rfl (l_load ty3 rfl rfl rfl rfl rfl) rfl (de1 rfl (l_move (.ro _)) rfl (de1 rfl (l_field fd44_2 rfl) rfl (de1 rfl (l_load ty3 rfl rfl rfl rfl rfl) rfl ?_))))
        obtain ⟨x18, h19, hF⟩ := bindE hF
        refine de1 rfl (l_indexRo x6.End.To.toNat sl73 rfl rfl (atI_z h19) (map_at (atI_at h19))) rfl (de1 rfl (l_loadRo ty27 rfl rfl) rfl (de1 rfl (l_move (.v _)) rfl (deN rfl (l_bs1 sl27 zt3 rfl (.v _) rfl rfl rfl (by decide) (by decide)) rfl ?_)))
        obtain ⟨y20, h21, hF⟩ := bindE hF
        refine deC1 rfl (l_call (B := true) (FnI.mk' (by kernel_rfl)) (.cons (.ro _) (.one (.ro _)) (.cons (.rf _ _ _ _) (.one (.rf rfl rfl rfl (cll k_iC [a1]))) .nil)) (p_slices_Equal_int_int_ac h21) (okT p_slices_Equal_int_int_ok)) rfl ?_
        refine de1 rfl (l_move (.v _)) rfl ?_
        rcases condE hF with ⟨b22, hF⟩ | ⟨b22, hF⟩
        · refine de1 rfl (l_gT rfl rfl (gt rfl b22) fun _ => l_field fd44_4 rfl) rfl (de1 rfl (l_gT rfl rfl (gt rfl b22) fun _ => l_load ty27 rfl rfl rfl rfl rfl) rfl (de1 rfl (l_gT rfl rfl (gt rfl b22) fun _ => l_lenRo sl27 rfl rfl (List.length_map _)) rfl (de1 rfl (l_gT rfl rfl (gt rfl b22) fun _ => l_field fd31_1 rfl) rfl (de1 rfl (l_gT rfl rfl (gt rfl b22) fun _ => l_load ty29 rfl rfl rfl rfl rfl) rfl (de1 rfl (l_gT rfl rfl (gt rfl b22) fun _ => l_field fd44_2 rfl) rfl (de1 rfl (l_gT rfl rfl (gt rfl b22) fun _ => l_load ty3 rfl rfl rfl rfl rfl) rfl ?_))))))
          obtain ⟨x23, h24, hF⟩ := bindE hF
          refine de1 rfl (l_gT rfl rfl (gt rfl b22) fun _ => l_indexRo x6.End.To.toNat sl29 rfl rfl (atI_z h24) (map_at (atI_at h24))) rfl (de1 rfl (l_gT rfl rfl (gt rfl b22) fun _ => l_fieldRo fd47_0 rfl) rfl (de1 rfl (l_gT rfl rfl (gt rfl b22) fun _ => l_loadRo ty27 rfl rfl) rfl (de1 rfl (l_gT rfl rfl (gt rfl b22) fun _ => l_lenRo sl27 rfl rfl (List.length_map _)) rfl (de1 rfl (l_gT rfl rfl (gt rfl b22) fun _ => l_bin rfl rfl b_eql) rfl (de1 rfl (l_pickT (gt rfl b22) (.v _)) rfl (de1 rfl (l_assign (.v _)) rfl (de1 rfl (l_assign (.v _)) rfl (ddE ?_))))))))
          cases hF
          refine q_join ?_
          exact (le_of [] rfl (.s (.s .nil rfl) rfl) .nil)
        · refine de1 rfl (l_gF rfl rfl (gt rfl b22) rfl) rfl (de1 rfl (l_gF rfl rfl (gt rfl b22) rfl) rfl (de1 rfl (l_gF rfl rfl (gt rfl b22) rfl) rfl (de1 rfl (l_gF rfl rfl (gt rfl b22) rfl) rfl (de1 rfl (l_gF rfl rfl (gt rfl b22) rfl) rfl (de1 rfl (l_gF rfl rfl (gt rfl b22) rfl) rfl (de1 rfl (l_gF rfl rfl (gt rfl b22) rfl) rfl (de1 rfl (l_gF rfl rfl (gt rfl b22) rfl) rfl (de1 rfl (l_gF rfl rfl (gt rfl b22) rfl) rfl ?_))))))))
          refine de1 rfl (l_gF rfl rfl (gt rfl b22) rfl) rfl (de1 rfl (l_gF rfl rfl (gt rfl b22) rfl) rfl (de1 rfl (l_gF rfl rfl (gt rfl b22) rfl) rfl (de1 rfl (l_pickF (gt rfl b22) (.v _)) rfl (de1 rfl (l_assign (.v _)) rfl (de1 rfl (l_assign (.v _)) rfl (ddE ?_))))))
          cases hF
          refine q_join ?_
          exact (le_of [] rfl (.s (.s .nil rfl) rfl) .nil)
      replace hF := hG17
      refine w_ret ?_
      cases hF
      refine q_end (.inr rfl) ?_
      exact ret_ok rfl (.cons (.tmp (.v _) (.v _)) (.cons (.tmp (.v _) (.v _)) .nil)) (by decide) rfl

def p_code_first (a0 : MFun) (a1 : Int) : Option Int :=
((((natI (if (0 : Int) < (if ((a0.Blocks.length : Nat) : Int) < a1 then ((a0.Blocks.length : Nat) : Int) else a1) then (if ((a0.Blocks.length : Nat) : Int) < a1 then ((a0.Blocks.length : Nat) : Int) else a1) else 0)).bind fun m4 =>
(ck (0 ≤ m4 ∧ m4 ≤ a0.Blocks.length)
((loop (fun (s3007 : Int × Nat) =>
(bif decide (s3007.2 < (takeN a0.Blocks 0 m4).length) then
(((takeN a0.Blocks 0 m4)[s3007.2]?).bind fun x3013 =>
some (Xt.go (IntKind.i64.wrap (s3007.1 + IntKind.i64.wrap (((x3013.Params.length : Nat) : Int) + ((x3013.Ops.length : Nat) : Int))), (s3007.2 + 1))))
else
some (Xt.out s3007.1))) Fu (0, 0)))))).bind fun (s2 : Int) =>
some s2)

theorem p_code_first_ok {r : Int} : rOk (.v (.int .i64 r)) = true ∧ FrT (.v (.int .i64 r)) := ⟨rfl, (.one (.cl (.v _)))⟩

set_option maxRecDepth 10000 in
set_option maxHeartbeats 4000000 in
theorem p_code_first_ac {a0 : MFun} {a1 : Int} {r : Int} (hF : p_code_first a0 a1 = some r) : AC Tryd.prog GT 54 [.ag (MFun.ct a0), .v (.int .i64 a1)] (fun c => c = .v (.int .i64 r)) := by
  unfold p_code_first at hF
  refine AC.mk (nt := 33) Tryd.func54 rfl rfl rfl fun w N => ?_
  refine w_seq (w_region (by rfl) (dvN (l_box (.ag _) rfl rfl) (dv1 (l_assign (.v _)) (dvE (q_seq (w_seq (w_region (by rfl) (dv1 (l_assign (.v _)) ?_))))))))
  refine dvE (q_seq ?_)
  obtain ⟨s2, hF, hG3⟩ := bindE hF
  refine w_seqJ ⟨[(5, .v (.int .i64 s2))], [], 1⟩ ?_ ?_
  · refine w_seq (w_region (by rfl) (dv1 (l_field fd31_1 rfl) (dv1 (l_load ty29 rfl rfl rfl rfl rfl) (dv1 (l_move (.v _)) (dv1 (l_field fd31_1 rfl) (dv1 (l_load ty29 rfl rfl rfl rfl rfl) (dv1 (l_lenRo sl29 rfl rfl (List.length_map _)) (dv1 (l_minI rfl rfl) ?_))))))))
    refine dv1 (l_maxI rfl rfl) ?_
    obtain ⟨m4, h5, hF⟩ := bindE hF
    obtain ⟨c6, hF⟩ := ckE hF
    refine dv1 (l_cutRo sl29 rfl (.inl ⟨rfl, rfl⟩) (cutHi rfl (natI_z h5)) c6.1 (by rw [List.length_map]; exact c6.2) (map_takeN _ _ _ _)) (dv1 (l_lenRo sl29 rfl rfl (List.length_map _)) (dv1 (l_move (.v _)) (dvE (q_seq (w_block (w_loopF hF (fun (s3007 : Int × Nat) => ⟨[(5, .v (.int .i64 s3007.1)), (16, .ro (.sl 47 8 ((takeN a0.Blocks 0 m4).map MBlk.ct))), (17, .v (.int .i64 (((takeN a0.Blocks 0 m4).length : Nat) : Int))), (18, .v (.int .i64 ((s3007.2 : Nat) : Int)))], [], 1⟩) (le_of [] rfl (.s (.s (.s (.s .nil rfl) rfl) rfl) rfl) .nil) ?_))))))
    intro s3007 y3008 hF hx3009
    refine w_seq (w_region (by rfl) (dv1 (l_bin rfl rfl b_lssN) (dvE (q_seq (w_seq ?_)))))
    rcases condE hF with ⟨b3011, hF⟩ | ⟨b3011, hF⟩
    · refine w_lenS 16 rfl fun l3012 => ?_
      refine w_condT rfl b3011 ?_
      refine w_skip (q_seq (w_seq (w_block (w_seq (w_region (by rfl) ?_)))))
      obtain ⟨x3013, h3014, hF⟩ := bindE hF
      refine dv1 (l_indexRo s3007.2 sl29 rfl rfl rfl (map_at h3014)) (dv1 (l_loadARo ty47 rfl rfl) (dvN (l_alloc zt47) (dvS (l_store ty47 rfl (.ag _) rfl rfl rfl (Nat.le_of_ble_eq_true rfl) rfl) (dvE (q_seq (w_region (by rfl) (dv1 (l_move (.v _)) (dv1 (l_field fd47_0 rfl) ?_))))))))
      refine dv1 (l_load ty27 rfl rfl rfl rfl rfl) (dv1 (l_lenRo sl27 rfl rfl (List.length_map _)) (dv1 (l_field fd47_1 rfl) (dv1 (l_load ty45 rfl rfl rfl rfl rfl) (dv1 (l_lenRo sl45 rfl rfl (List.length_map _)) (dv1 (l_bin rfl rfl (b_add rfl)) (dv1 (l_bin rfl rfl (b_add rfl)) (dv1 (l_assign (.v _)) (dvE ?_))))))))
      refine q_in (q_seq (w_region (by rfl) (dv1 (l_bin rfl rfl (b_incN (of_decide_eq_true b3011) l3012)) (dv1 (l_move (.v _)) (dvE ?_)))))
      cases hF
      refine qL rfl ?_
      exact (le_of [] rfl (.s (.s (.s (.s .nil rfl) rfl) rfl) rfl) .nil)
    · refine w_condF rfl b3011 ?_
      refine w_exit ?_
      cases hF
      cases hx3009 _ rfl
      refine q_exS (q_exS (q_here (q_join ?_)))
      exact (le_of [] rfl (.s .nil rfl) .nil)
  replace hF := hG3
  refine w_seq (w_region (by rfl) (dv1 (l_move (.v _)) (dv1 (l_assign (.v _)) (dvE (q_seq (w_ret ?_))))))
  cases hF
  refine q_end (.inr rfl) ?_
  exact ret_ok rfl (.cons (.tmp (.v _) (.v _)) .nil) (by decide) rfl

def p_code_Values (a0 : MFun) : Option Int :=
((p_code_first a0 ((a0.Blocks.length : Nat) : Int)).bind fun y1 =>
some y1)

theorem p_code_Values_ok {r : Int} : rOk (.v (.int .i64 r)) = true ∧ FrT (.v (.int .i64 r)) := ⟨rfl, (.one (.cl (.v _)))⟩

set_option maxRecDepth 10000 in
set_option maxHeartbeats 4000000 in
theorem p_code_Values_ac {a0 : MFun} {r : Int} (hF : p_code_Values a0 = some r) : AC Tryd.prog GT 40 [.ag (MFun.ct a0)] (fun c => c = .v (.int .i64 r)) := by
  unfold p_code_Values at hF
  refine AC.mk (nt := 8) Tryd.func40 rfl rfl rfl fun w N => ?_
  refine w_seq (w_region (by rfl) (dvN (l_box (.ag _) rfl rfl) (dv1 (l_assign (.v _)) (dvE (q_seq (w_seq (w_region (by rfl) (dv1 (l_loadA ty31 rfl rfl rfl rfl rfl) ?_))))))))
  refine dv1 (l_field fd31_1 rfl) (dv1 (l_load ty29 rfl rfl rfl rfl rfl) (dv1 (l_lenRo sl29 rfl rfl (List.length_map _)) ?_))
  obtain ⟨y1, h2, hF⟩ := bindE hF
  refine dvC (l_call (B := false) (FnI.mk' (by kernel_rfl)) (.cons (.ag _) (.ag (.cons (.v _) (.cons (.ro _) .nil))) (.cons (.v _) (.one (.v _)) .nil)) (p_code_first_ac h2) (okF p_code_first_ok)) ?_
  rintro _ rfl
  refine dv1 (l_assign (.v _)) (dvE (q_seq (w_ret ?_)))
  cases hF
  refine q_end (.inr rfl) ?_
  exact ret_ok rfl (.cons (.tmp (.v _) (.v _)) .nil) (by decide) rfl

def p_code_First (a0 : MFun) (a1 : Int) : Option Int :=
((p_code_first a0 a1).bind fun y1 =>
some y1)

theorem p_code_First_ok {r : Int} : rOk (.v (.int .i64 r)) = true ∧ FrT (.v (.int .i64 r)) := ⟨rfl, (.one (.cl (.v _)))⟩

set_option maxRecDepth 10000 in
set_option maxHeartbeats 4000000 in
theorem p_code_First_ac {a0 : MFun} {a1 : Int} {r : Int} (hF : p_code_First a0 a1 = some r) : AC Tryd.prog GT 41 [.ag (MFun.ct a0), .v (.int .i64 a1)] (fun c => c = .v (.int .i64 r)) := by
  unfold p_code_First at hF
  refine AC.mk (nt := 8) Tryd.func41 rfl rfl rfl fun w N => ?_
  refine w_seq (w_region (by rfl) (dvN (l_box (.ag _) rfl rfl) (dv1 (l_assign (.v _)) (dvE (q_seq (w_seq (w_region (by rfl) (dv1 (l_loadA ty31 rfl rfl rfl rfl rfl) ?_))))))))
  refine dv1 (l_move (.v _)) ?_
  obtain ⟨y1, h2, hF⟩ := bindE hF
  refine dvC (l_call (B := false) (FnI.mk' (by kernel_rfl)) (.cons (.ag _) (.ag (.cons (.v _) (.cons (.ro _) .nil))) (.cons (.v _) (.one (.v _)) .nil)) (p_code_first_ac h2) (okF p_code_first_ok)) ?_
  rintro _ rfl
  refine dv1 (l_assign (.v _)) (dvE (q_seq (w_ret ?_)))
  cases hF
  refine q_end (.inr rfl) ?_
  exact ret_ok rfl (.cons (.tmp (.v _) (.v _)) .nil) (by decide) rfl

def p_internal_stringslite_IndexByte (a0 : ByteArray) (a1 : Int) : Option Int :=
some (Lib.indexByte a0.data.toList a1.toNat.toUInt8)

theorem p_internal_stringslite_IndexByte_ok {r : Int} : rOk (.v (.int .i64 r)) = true ∧ FrT (.v (.int .i64 r)) := ⟨rfl, (.one (.cl (.v _)))⟩

set_option maxRecDepth 10000 in
set_option maxHeartbeats 4000000 in
theorem p_internal_stringslite_IndexByte_ac {a0 : ByteArray} {a1 : Int} {r : Int} (hF : p_internal_stringslite_IndexByte a0 a1 = some r) : AC Tryd.prog GT 72 [.v (.string a0), .v (.int .u8 a1)] (fun c => c = .v (.int .i64 r)) := by
  unfold p_internal_stringslite_IndexByte at hF
  refine AC.mk (nt := 8) Tryd.func72 rfl rfl rfl fun w N => ?_
  refine w_seq (w_region (by rfl) (dv1 (l_assign (.v _)) (dvE (q_seq (w_seq (w_region (by rfl) (dv1 (l_move (.v _)) (dv1 (l_move (.v _)) ?_))))))))
  refine dv1 (l_indexByte (XbI.mk' (by kernel_rfl) (by kernel_rfl) rfl) rfl rfl) (dv1 (l_assign (.v _)) (dvE (q_seq (w_ret ?_))))
  cases hF
  refine q_end (.inr rfl) ?_
  exact ret_ok rfl (.cons (.tmp (.v _) (.v _)) .nil) (by decide) rfl

def p_strings_IndexByte (a0 : ByteArray) (a1 : Int) : Option Int :=
((p_internal_stringslite_IndexByte a0 a1).bind fun y1 =>
some y1)

theorem p_strings_IndexByte_ok {r : Int} : rOk (.v (.int .i64 r)) = true ∧ FrT (.v (.int .i64 r)) := ⟨rfl, (.one (.cl (.v _)))⟩

set_option maxRecDepth 10000 in
set_option maxHeartbeats 4000000 in
theorem p_strings_IndexByte_ac {a0 : ByteArray} {a1 : Int} {r : Int} (hF : p_strings_IndexByte a0 a1 = some r) : AC Tryd.prog GT 65 [.v (.string a0), .v (.int .u8 a1)] (fun c => c = .v (.int .i64 r)) := by
  unfold p_strings_IndexByte at hF
  refine AC.mk (nt := 8) Tryd.func65 rfl rfl rfl fun w N => ?_
  refine w_seq (w_region (by rfl) (dv1 (l_assign (.v _)) (dvE (q_seq (w_seq (w_region (by rfl) (dv1 (l_move (.v _)) (dv1 (l_move (.v _)) ?_))))))))
  obtain ⟨y1, h2, hF⟩ := bindE hF
  refine dvC (l_call (B := false) (FnI.mk' (by kernel_rfl)) (.cons (.v _) (.one (.v _)) (.cons (.v _) (.one (.v _)) .nil)) (p_internal_stringslite_IndexByte_ac h2) (okF p_internal_stringslite_IndexByte_ok)) ?_
  rintro _ rfl
  refine dv1 (l_assign (.v _)) (dvE (q_seq (w_ret ?_)))
  cases hF
  refine q_end (.inr rfl) ?_
  exact ret_ok rfl (.cons (.tmp (.v _) (.v _)) .nil) (by decide) rfl

def p_kind_operands  : Option Unit :=
some ()

theorem p_kind_operands_ok {g o : Nat} {r : Unit} : rOk (.fn (.func 64) [] [.ro (.rp [.v (.pointer (some ⟨g, o, none⟩))] 0)]) = true ∧ True := ⟨rfl, trivial⟩

set_option maxRecDepth 10000 in
set_option maxHeartbeats 4000000 in
theorem p_kind_operands_ac {g o : Nat}  {r : Unit} (hF : p_kind_operands = some r) : AC Tryd.prog GT 49 [.v (.pointer (some ⟨g, o, none⟩))] (fun c => c = .fn (.func 64) [] [.ro (.rp [.v (.pointer (some ⟨g, o, none⟩))] 0)]) := by
  unfold p_kind_operands at hF
  refine AC.mk (nt := 4) Tryd.func49 rfl rfl rfl fun w N => ?_
  refine w_seq (w_region (by rfl) (dvN (l_box (.v _) rfl rfl) (dv1 (l_assign (.v _)) (dvE (q_seq (w_seq (w_region (by rfl) (dvG (le_freeze 0 [(1, .ro (.rp [.v (.pointer (some ⟨g, o, none⟩))] 0))] rfl (cl1 (.v _) cl0) (List.forall_mem_cons.2 ⟨⟨0, rfl, rfl⟩, (fun _ h => nomatch h)⟩)) ?_))))))))
  refine dv1 (l_fnE (f := 64) (.cons (.ro _) .nil)) (dv1 (l_assign (.fn _ _ _)) (dvE (q_seq (w_ret ?_))))
  cases hF
  refine q_end (.inr rfl) ?_
  exact ret_ok rfl (.cons (.tmp (.fn _ _ _) (.fn _ (capB_ok rfl))) .nil) (by decide) rfl

def p_kind_operands_1_i (K : Int) (n : Nat) {σ ρ : Type} (body : σ → Nat → Option (Xt σ ρ)) (s0 : σ) : Option (Xt σ ρ) :=
((p_kind_fieldsOf K).bind fun y1 =>
(((loop (fun (s3006 : Nat × σ) =>
(bif decide (s3006.1 < 3) then
(((([0, 1, 2][s3006.1]?).bind fun x3014 =>
(((⟨#[65, 66, 67]⟩ : ByteArray)[s3006.1]?).bind fun x3017 =>
((p_strings_IndexByte y1 ((x3017.toNat : Nat) : Int)).bind fun y3019 =>
(bif decide ((0 : Int) ≤ y3019) then
((body s3006.2 x3014).bind fun z3022 =>
(z3022.on (fun s3024 =>
some (Xt.go s3024))
(fun o3025 =>
some (Xt.out (Xt.out o3025)))))
else
some (Xt.go s3006.2)))))).bind fun s3012 => s3012.on (fun (s3026 : σ) =>
some (Xt.go ((s3006.1 + 1), s3026)))
(fun o3028 => some (Xt.out (Xt.out o3028))))
else
some (Xt.out (Xt.go s3006.2)))) Fu (0, s0))).bind fun s4 => s4.on (fun (s3029 : σ) =>
((loop (fun (s6031 : Nat × σ) =>
(bif decide (s6031.1 < n) then
(ck (s6031.1 < n)
(((body s6031.2 (s6031.1 + 3)).bind fun z6038 =>
(z6038.on (fun s6040 =>
some (Xt.go ((s6031.1 + 1), s6040)))
(fun o6041 =>
some (Xt.out (Xt.out o6041)))))))
else
some (Xt.out (Xt.go s6031.2)))) Fu (0, s3029)).bind fun o6034 => some o6034))
(fun o6042 => some o6042)))

set_option maxRecDepth 10000 in
set_option maxHeartbeats 4000000 in
theorem p_kind_operands_1_i_ic (K : Int) (n : Nat) (g o : Nat) (x : Option (Nat × Nat × Nat)) (hx : x = none → n = 0) (hn : n ≤ 9223372036854775807)  : IC Tryd.prog GT 64 [.rp [.v (.pointer (some ⟨g, o, none⟩))] 0] (fun (y : Nat) => plC (opPl g o x) y) (fun σ ρ body s0 => p_kind_operands_1_i K n body s0) [(⟨g, o, none⟩, .int .i64 K), (⟨g, o + 6, none⟩, hdr x n)] := by
  refine IC.mk (nt := 58) Tryd.func64 rfl rfl rfl rfl fun σ ρ body s0 z hF w N F l J Jx hJ hX hY hRd => ?_
  unfold p_kind_operands_1_i at hF
  refine w_seq (w_region (by rfl) (dv1 (l_loadRo ty82 rfl rfl) (dv1 (l_nilP rfl) (dv1 (l_fieldP fd49_0 rfl) (dv1 (l_loadFo ty3 rfl rfl hRd List.mem_cons_self) ?_)))))
  obtain ⟨y1, h2, hF⟩ := bindE hF
  refine dvC (l_call (B := false) (FnI.mk' (by kernel_rfl)) (.cons (.v _) (.one (.v _)) .nil) (p_kind_fieldsOf_ac h2) (okF p_kind_fieldsOf_ok)) ?_
  rintro _ rfl
  refine dv1 (l_assign (.v _)) (dvE (q_seq ?_))
  obtain ⟨s4, hF, hG5⟩ := bindE hF
  refine w_seqE s4 (fun (s3029 : σ) => ⟨[(0, .v (.func (.yield l) #[] #[])), (1, .ro (.rp [.v (.pointer (some ⟨g, o, none⟩))] 0)), (1000000, .fo (foJ hJ s3029))], [], 1⟩) ?_ (fun s3029 e3030 => ?_)
  · refine w_seq (w_draw [[], [0], [0, 1], [], [3], [3, 4], [], [6], [6, 7], [0, 1, 2, 3, 4, 5, 6, 7, 8], [0, 1, 2, 3, 4, 5, 6, 7, 8, 9], []] [0, 1, 2, 3, 4, 5, 6, 7, 8, 9, 10, 11] (by kernel_rfl) (by rfl) ⟨by decide, by rfl⟩ (by rfl) ?_)
    refine de1 rfl (l_loadRo ty82 rfl rfl) rfl (de1 rfl (l_nilP rfl) rfl (de1 rfl (l_fieldP fd49_1 rfl) rfl (de1 rfl (l_loadRo ty82 rfl rfl) rfl (de1 rfl (l_nilP rfl) rfl (de1 rfl (l_fieldP fd49_2 rfl) rfl (de1 rfl (l_loadRo ty82 rfl rfl) rfl (de1 rfl (l_nilP rfl) rfl (de1 rfl (l_fieldP fd49_3 rfl) rfl ?_))))))))
    refine deN rfl (l_bsn sl92 zt83 rfl (.cons (.v _) (.cons (.v _) (.cons (.v _) .nil))) rfl rfl rfl rfl (by decide) (by decide)) rfl (de1 rfl (l_len sl92 rfl rfl) rfl (de1 rfl (l_move (.v _)) rfl (ddE (q_seq (w_block (w_loopF hF (fun (s3006 : Nat × σ) => ⟨[(0, .v (.func (.yield l) #[] #[])), (1, .ro (.rp [.v (.pointer (some ⟨g, o, none⟩))] 0)), (3, .v (.string y1)), (21, .rf 0 0 (([0, 1, 2].map (plC (opPl g o x))).length) 1), (22, .v (.int .i64 3)), (23, .v (.int .i64 ((s3006.1 : Nat) : Int))), (34, .un), (35, .un), (36, .un), (37, .un), (1000000, .fo (foJ hJ s3006.2))], [(0, some ⟨83, 1, [0, 1, 2].map (plC (opPl g o x))⟩)], 1⟩) (le_of [(0, some 960)] rfl (.s (.s (.s (.s (.s (.s (.cons .un (.un _) (.cons .un (.un _) (.cons .un (.un _) (.cons .un (.un _) (.cons (.fo _) (.fo _) .nil))))) rfl) rfl) rfl) rfl) rfl) rfl) (.row rfl rfl rfl (clm k_plC _) .nil)) ?_))))))
    intro s3006 y3007 hF hx3008
    refine w_seq (w_region (by rfl) (dv1 (l_bin rfl rfl b_lssN) (dvE (q_seq (w_seq ?_)))))
    rcases condE hF with ⟨b3010, hF⟩ | ⟨b3010, hF⟩
    · refine w_condT rfl b3010 ?_
      refine w_skip (q_seq ?_)
      obtain ⟨s3012, hF, hG3013⟩ := bindE hF
      refine w_seqE s3012 (fun (s3026 : σ) => ⟨[(0, .v (.func (.yield l) #[] #[])), (1, .ro (.rp [.v (.pointer (some ⟨g, o, none⟩))] 0)), (3, .v (.string y1)), (21, .rf 0 0 (([0, 1, 2].map (plC (opPl g o x))).length) 1), (22, .v (.int .i64 3)), (23, .v (.int .i64 ((s3006.1 : Nat) : Int))), (34, .un), (35, .un), (36, .un), (37, .un), (1000000, .fo (foJ hJ s3026))], [(0, some ⟨83, 1, [0, 1, 2].map (plC (opPl g o x))⟩)], 1⟩) ?_ (fun s3026 e3027 => ?_)
      · refine w_block (w_seq (w_region (by rfl) (dv1 (l_move (.v _)) ?_)))
        obtain ⟨x3014, h3015, hF⟩ := bindE hF
        refine dv1 (l_index s3006.1 sl92 rfl rfl rfl (lt_at (plC (opPl g o x)) h3015)) (dv1 (l_load ty83 rfl rfl (map_at h3015) rfl rfl) (dv1 (l_assign (.v _)) (dv1 (l_assign (.v _)) (dvE (q_seq (w_seq (w_region (by rfl) (dv1 (l_move (.v _)) ?_))))))))
        refine dv1 (l_move (.v _)) ?_
        obtain ⟨x3017, h3018, hF⟩ := bindE hF
        refine dv1 (l_indexStr s3006.1 (by kernel_rfl) rfl rfl rfl h3018) ?_
        obtain ⟨y3019, h3020, hF⟩ := bindE hF
        refine dvC (l_call (B := false) (FnI.mk' (by kernel_rfl)) (.cons (.v _) (.one (.v _)) (.cons (.v _) (.one (.v _)) .nil)) (p_strings_IndexByte_ac h3020) (okF p_strings_IndexByte_ok)) ?_
        rintro _ rfl
        refine dv1 (l_bin rfl rfl b_geq) (dv1 (l_move (.v _)) ?_)
        rcases condE hF with ⟨b3021, hF⟩ | ⟨b3021, hF⟩
        · refine dv1 (l_gT rfl rfl (gt rfl b3021) fun _ => l_move (.v _)) (dv1 (l_gT rfl rfl (gt rfl b3021) fun _ => l_move (.v _)) ?_)
          obtain ⟨z3022, h3023, hF⟩ := bindE hF
          rcases z3022 with s3024 | o3025
          · replace hF := onGo hF
            refine dvY (l_gT rfl rfl (gt rfl b3021) fun _ => l_yield x3014 hY rfl (.cons (.v _) (.one (.v _)) .nil) rfl h3023) ?_
            refine dv1 (l_gT rfl rfl (gt rfl b3021) fun _ => l_not rfl) (dv1 (l_pickT (gt rfl b3021) (.v _)) (dvE (q_seq (w_false rfl (w_skip ?_)))))
            cases hF
            refine q_in (qL rfl ?_)
            exact (le_of [(0, some 0)] rfl (.s (.s (.s (.s (.s (.s (.cons (.v _) (.un _) (.cons (.v _) (.un _) (.cons (.v _) (.un _) (.cons (.v _) (.un _) (.cons (.fo _) (.fo _) .nil))))) rfl) rfl) rfl) rfl) rfl) rfl) (.row rfl rfl rfl (clm k_plC _) .nil))
          · replace hF := onOut hF
            refine dvY (l_gT rfl rfl (gt rfl b3021) fun _ => l_yield x3014 hY rfl (.cons (.v _) (.one (.v _)) .nil) rfl h3023) ?_
            refine dv1 (l_gT rfl rfl (gt rfl b3021) fun _ => l_not rfl) (dv1 (l_pickT (gt rfl b3021) (.v _)) (dvE (q_seq (w_true rfl (w_ret (q_reI (q_reS (q_reS ?_))))))))
            refine q_reI (q_reS ?_)
            cases hF
            have hF := onOut hG3013
            cases hF
            cases hx3008 _ rfl
            have hF := onOut hG5
            cases hF
            exact ⟨.inr rfl, rfl⟩
        · refine dv1 (l_gF rfl rfl (gt rfl b3021) rfl) (dv1 (l_gF rfl rfl (gt rfl b3021) rfl) (dv1 (l_gF rfl rfl (gt rfl b3021) rfl) (dv1 (l_gF rfl rfl (gt rfl b3021) rfl) (dv1 (l_pickF (gt rfl b3021) (.v _)) (dvE (q_seq (w_false rfl (w_skip ?_))))))))
          cases hF
          refine q_in (qL rfl ?_)
          exact (le_of [(0, some 0)] rfl (.s (.s (.s (.s (.s (.s (.cons (.v _) (.un _) (.cons (.v _) (.un _) (.cons (.v _) (.un _) (.cons (.v _) (.un _) (.cons (.fo _) (.fo _) .nil))))) rfl) rfl) rfl) rfl) rfl) rfl) (.row rfl rfl rfl (clm k_plC _) .nil))
      subst e3027
      replace hF := onGo hG3013
      refine w_region (by rfl) (dv1 (l_bin rfl rfl (b_incN (of_decide_eq_true b3010) (by decide))) (dv1 (l_move (.v _)) (dvE ?_)))
      cases hF
      refine qL rfl ?_
      exact (le_of [(0, some 0)] rfl (.s (.s (.s (.s (.s (.s (.cons .un (.un _) (.cons .un (.un _) (.cons .un (.un _) (.cons .un (.un _) (.cons (.fo _) (.fo _) .nil))))) rfl) rfl) rfl) rfl) rfl) rfl) (.row rfl rfl rfl (clm k_plC _) .nil))
    · refine w_condF rfl b3010 ?_
      refine w_exit ?_
      cases hF
      cases hx3008 _ rfl
      refine q_exS (q_exS (q_here (qL rfl ?_)))
      exact (le_of [] rfl (.s (.s (.cons (.fo _) (.fo _) .nil) rfl) rfl) .nil)
  subst e3030
  replace hF := onGo hG5
  refine w_seq (w_region (by rfl) (dv1 (l_loadRo ty82 rfl rfl) (dv1 (l_nilP rfl) (dv1 (l_fieldP fd49_6 rfl) (dv1 (l_loadFo ty27 rfl rfl hRd (List.mem_cons_of_mem _ List.mem_cons_self)) (dv1 (l_lenP sl27 rfl rfl hx) (dv1 (l_move (.v _)) (dvE ?_))))))))
  refine q_seq (w_block ?_)
  obtain ⟨o6034, hF, hG6035⟩ := bindE hF
  refine w_loopF hF (fun (s6031 : Nat × σ) => ⟨[(0, .v (.func (.yield l) #[] #[])), (1, .ro (.rp [.v (.pointer (some ⟨g, o, none⟩))] 0)), (44, .v (.int .i64 ((n : Nat) : Int))), (45, .v (.int .i64 ((s6031.1 : Nat) : Int))), (1000000, .fo (foJ hJ s6031.2))], [], 1⟩) (le_of [] rfl (.s (.s (.s (.s (.cons (.fo _) (.fo _) .nil) rfl) rfl) rfl) rfl) .nil) ?_
  intro s6031 y6032 hF hx6033
  refine w_seq (w_region (by rfl) (dv1 (l_bin rfl rfl b_lssN) (dvE (q_seq (w_seq ?_)))))
  rcases condE hF with ⟨b6036, hF⟩ | ⟨b6036, hF⟩
  · refine w_condT rfl b6036 ?_
    refine w_skip (q_seq (w_seq (w_block (w_seq (w_region (by rfl) (dv1 (l_move (.v _)) (dv1 (l_assign (.v _)) (dvE ?_))))))))
    refine q_seq (w_seq (w_region (by rfl) (dv1 (l_move (.v _)) (dv1 (l_loadRo ty82 rfl rfl) (dv1 (l_nilP rfl) (dv1 (l_fieldP fd49_6 rfl) (dv1 (l_loadFo ty27 rfl rfl hRd (List.mem_cons_of_mem _ List.mem_cons_self)) (dv1 (l_move (.v _)) ?_))))))))
    obtain ⟨c6037, hF⟩ := ckE hF
    refine dv1 (l_indexP (g := g) (off := o) s6031.1 sl27 rfl rfl rfl c6037 hx) ?_
    obtain ⟨z6038, h6039, hF⟩ := bindE hF
    rcases z6038 with s6040 | o6041
    · replace hF := onGo hF
      refine dvY (l_yield (s6031.1 + 3) hY rfl (.cons (.v _) (.one (.v _)) .nil) rfl h6039) ?_
      refine dv1 (l_not rfl) (dvE (q_seq (w_false rfl (w_skip (q_in (q_seq (w_region (by rfl) (dv1 (l_bin rfl rfl (b_incN (of_decide_eq_true b6036) hn)) ?_))))))))
      refine dv1 (l_move (.v _)) (dvE ?_)
      cases hF
      refine qL rfl ?_
      exact (le_of [] rfl (.s (.s (.s (.s (.cons (.fo _) (.fo _) .nil) rfl) rfl) rfl) rfl) .nil)
    · replace hF := onOut hF
      refine dvY (l_yield (s6031.1 + 3) hY rfl (.cons (.v _) (.one (.v _)) .nil) rfl h6039) ?_
      refine dv1 (l_not rfl) (dvE (q_seq (w_true rfl (w_ret (q_reI (q_reS (q_reS (q_reI ?_))))))))
      cases hF
      cases hx6033 _ rfl
      have hF := hG6035
      cases hF
      exact ⟨.inr rfl, rfl⟩
  · refine w_condF rfl b6036 ?_
    refine w_exit (q_exS (q_exS (q_here ?_)))
    cases hF
    cases hx6033 _ rfl
    have hF := hG6035
    cases hF
    exact ⟨.inl rfl, rfl⟩

def p_kind_Renamed (a0 : MOp) (a1 : List Int) : Option MOp :=
((p_kind_plain a0).bind fun y1 =>
((((p_kind_operands_1_i y1.K y1.L.length (fun (s3010 : Int × Int × Int × (List Int)) (y9 : Nat) =>
((placeC y9
((((bif decide ((0 : Int) ≤ s3010.1) then
some (decide (s3010.1 < ((a1.length : Nat) : Int)))
else
some false)).bind fun (s3013 : Bool) =>
(bif s3013 then
((atI a1 s3010.1).bind fun x3017 =>
some (Xt.go (x3017, s3010.2.1, s3010.2.2.1, s3010.2.2.2)))
else
some (Xt.go (s3010.1, s3010.2.1, s3010.2.2.1, s3010.2.2.2)))))
((((bif decide ((0 : Int) ≤ s3010.2.1) then
some (decide (s3010.2.1 < ((a1.length : Nat) : Int)))
else
some false)).bind fun (s3020 : Bool) =>
(bif s3020 then
((atI a1 s3010.2.1).bind fun x3024 =>
some (Xt.go (s3010.1, x3024, s3010.2.2.1, s3010.2.2.2)))
else
some (Xt.go (s3010.1, s3010.2.1, s3010.2.2.1, s3010.2.2.2)))))
((((bif decide ((0 : Int) ≤ s3010.2.2.1) then
some (decide (s3010.2.2.1 < ((a1.length : Nat) : Int)))
else
some false)).bind fun (s3027 : Bool) =>
(bif s3027 then
((atI a1 s3010.2.2.1).bind fun x3031 =>
some (Xt.go (s3010.1, s3010.2.1, x3031, s3010.2.2.2)))
else
some (Xt.go (s3010.1, s3010.2.1, s3010.2.2.1, s3010.2.2.2)))))
(fun i_ => (ck (i_ < s3010.2.2.2.length)
(((((s3010.2.2.2[i_]?).bind fun x3037 =>
(bif decide ((0 : Int) ≤ x3037) then
some (decide (x3037 < ((a1.length : Nat) : Int)))
else
some false))).bind fun (s3035 : Bool) =>
(bif s3035 then
((s3010.2.2.2[i_]?).bind fun x3041 =>
((atI a1 x3041).bind fun x3043 =>
some (Xt.go (s3010.1, s3010.2.1, s3010.2.2.1, (s3010.2.2.2.set i_ x3043)))))
else
some (Xt.go (s3010.1, s3010.2.1, s3010.2.2.1, s3010.2.2.2)))))))) : Option (Xt (Int × Int × Int × (List Int)) Unit))) (y1.A, y1.B, y1.C, y1.L)).bind fun z3011 => z3011.on (fun (s3010 : Int × Int × Int × (List Int)) =>
some (s3010.1, s3010.2.1, s3010.2.2.1, s3010.2.2.2)) (fun _ => none))).bind fun (s7 : Int × Int × Int × (List Int)) =>
(ck (s7.2.2.2.length = y1.L.length)
(some (⟨y1.K, s7.1, s7.2.1, s7.2.2.1, y1.N, y1.S, s7.2.2.2, y1.Stack⟩ : MOp)))))

theorem p_kind_Renamed_ok {r : MOp} : rOk (.ag (MOp.ct r)) = true ∧ FrT (.ag (MOp.ct r)) := ⟨rfl, (.one (.ag (k_MOpct _)))⟩

set_option maxRecDepth 10000 in
set_option maxHeartbeats 4000000 in
theorem p_kind_Renamed_ac {a0 : MOp} {a1 : List Int} {r : MOp} (hF : p_kind_Renamed a0 a1 = some r) : AC Tryd.prog GT 35 [.ag (MOp.ct a0), .sl 3 1 (a1.map iC)] (fun c => c = .ag (MOp.ct r)) := by
  unfold p_kind_Renamed at hF
  refine AC.mk (nt := 31) Tryd.func35 rfl rfl rfl fun w N => ?_
  refine w_seq (w_region (by rfl) (dvN (l_box (.ag _) rfl rfl) (dvN (l_box (.ro _) rfl rfl) (dvN (l_alloc zt49) (dvE (q_seq (w_seq (w_region (by rfl) ?_))))))))
  refine dv1 (l_loadA ty49 rfl rfl rfl rfl rfl) ?_
  obtain ⟨y1, h2, hF⟩ := bindE hF
  refine dvC (l_call (B := false) (FnI.mk' (by kernel_rfl)) (.cons (.ag _) (.ag (.cons (.v _) (.cons (.v _) (.cons (.v _) (.cons (.v _) (.cons (.v _) (.cons (.v _) (.cons (.ro _) (.cons (.v _) .nil))))))))) .nil) (p_kind_plain_ac h2) (okF p_kind_plain_ok)) ?_
  rintro _ rfl
  refine dvS (l_store ty49 rfl (.ag _) rfl rfl rfl (Nat.le_of_ble_eq_true rfl) rfl) (dvE (q_seq (W.le (S' := ⟨[(2, .ad 0 8 0 0), (3, .ad 2 1 0 0), (4, .ad 3 8 0 0), (15, .un), (16, .un), (17, .un), (18, .un), (19, .un), (20, .un)], [(0, some ⟨49, 8, [[.v (.int .i64 y1.K), .v (.int .i64 y1.A), .v (.int .i64 y1.B), .v (.int .i64 y1.C), .v (.int .i64 y1.N), .v (.string y1.S), .rf 1 0 y1.L.length 1, .v (.bool y1.Stack)]]⟩), (1, some ⟨3, 1, y1.L.map iC⟩), (2, some ⟨27, 1, [[.ro (.sl 3 1 (a1.map iC))]]⟩), (3, some ⟨49, 8, [[.v (.int .i64 0), .v (.int .i64 0), .v (.int .i64 0), .v (.int .i64 0), .v (.int .i64 0), .v (.string ⟨#[]⟩), .v (.slice none 0 0), .v (.bool false)]]⟩)], 1⟩) (le_of [(0, some 0), (1, some 262), (2, some 64), (3, some 128)] rfl (.s (.s (.s (.cons .un (.un _) (.cons .un (.un _) (.cons .un (.un _) (.cons .un (.un _) (.cons .un (.un _) (.cons .un (.un _) .nil)))))) rfl) rfl) rfl) (.box rfl rfl (.cons (.v rfl) (.cons (.v rfl) (.cons (.v rfl) (.cons (.v rfl) (.cons (.v rfl) (.cons (.v rfl) (.cons (.rf rfl (by simp)) (.cons (.v rfl) .nil)))))))) (.row rfl rfl rfl (clm k_iC _) (.box rfl rfl (.s rfl) (.box rfl rfl (.s rfl) .nil))))) ?_)))
  refine w_reveal 0 rfl fun g_ o_ c_ => ?_
  refine w_unpk 1 rfl fun x_ hx_ => ?_
  obtain ⟨s7, hF, hG8⟩ := bindE hF
  refine w_seqJ ⟨[(2, .v (.pointer (some ⟨g_, o_, none⟩))), (4, .ad 6 8 0 0)], [(0, some ⟨49, 8, [[.v (.int .i64 y1.K), .v (.int .i64 s7.1), .v (.int .i64 s7.2.1), .v (.int .i64 s7.2.2.1), .v (.int .i64 y1.N), .v (.string y1.S), .rf 1 0 y1.L.length 1, .v (.bool y1.Stack)]]⟩), (1, some ⟨3, 1, s7.2.2.2.map iC⟩), (6, some ⟨49, 8, [[.v (.int .i64 0), .v (.int .i64 0), .v (.int .i64 0), .v (.int .i64 0), .v (.int .i64 0), .v (.string ⟨#[]⟩), .v (.slice none 0 0), .v (.bool false)]]⟩)], 1⟩ ?_ ?_
  · refine w_seq (w_region (by rfl) (dvG (le_ptr 2 (k := 0) (g := g_) (off := o_) (cap := c_) rfl (List.mem_cons_of_mem _ List.mem_cons_self) rfl) ?_))
    refine dvC (l_call (B := false) (FnI.mk' (by kernel_rfl)) (.cons (.v _) (.one (.v _)) .nil) (p_kind_operands_ac (r := ()) rfl) (okF (p_kind_operands_ok (r := ())))) ?_
    rintro _ rfl
    refine dvE (q_seq (w_block (w_lenK 1 rfl fun hn_ => ?_)))
    obtain ⟨z3011, hG3045, hF⟩ := bindE hF
    refine w_rangeFP [(1, x_), (0, some (g_, o_, c_))] [(⟨g_, o_, none⟩, .int .i64 y1.K), (⟨g_, o_ + 6, none⟩, hdr x_ y1.L.length)] (jmp := .ret) (t := [(2, .v (.pointer (some ⟨g_, o_, none⟩))), (3, .ad 6 1 0 0), (4, .ad 7 8 0 0), (8, .fn (.func 64) [] [.ro (.rp [.v (.pointer (some ⟨g_, o_, none⟩))] 0)]), (15, .un), (16, .un), (17, .un), (18, .un), (19, .un), (20, .un)]) (nx := 1) (p_kind_operands_1_i_ic y1.K y1.L.length g_ o_ x_ (fun h_ => by simpa using hx_ h_) hn_) hG3045 (fun (s3010 : Int × Int × Int × (List Int)) => [(0, some ⟨49, 8, [[.v (.int .i64 y1.K), .v (.int .i64 s3010.1), .v (.int .i64 s3010.2.1), .v (.int .i64 s3010.2.2.1), .v (.int .i64 y1.N), .v (.string y1.S), .rf 1 0 y1.L.length 1, .v (.bool y1.Stack)]]⟩), (1, some ⟨3, 1, s3010.2.2.2.map iC⟩), (6, some ⟨27, 1, [[.ro (.sl 3 1 (a1.map iC))]]⟩), (7, some ⟨49, 8, [[.v (.int .i64 0), .v (.int .i64 0), .v (.int .i64 0), .v (.int .i64 0), .v (.int .i64 0), .v (.string ⟨#[]⟩), .v (.slice none 0 0), .v (.bool false)]]⟩)]) (fun (_ : Unit) => []) [0, 1, 6, 7] (fun (s3010 : Int × Int × Int × (List Int)) (y9 : Nat) => ⟨[(3, .ad 6 1 0 0), (5, .v (.pointer (some (opPl g_ o_ x_ y9)))), (15, .un), (16, .un), (17, .un), (18, .un), (19, .un), (20, .un)], [(0, some ⟨49, 8, [[.v (.int .i64 y1.K), .v (.int .i64 s3010.1), .v (.int .i64 s3010.2.1), .v (.int .i64 s3010.2.2.1), .v (.int .i64 y1.N), .v (.string y1.S), .rf 1 0 y1.L.length 1, .v (.bool y1.Stack)]]⟩), (1, some ⟨3, 1, s3010.2.2.2.map iC⟩), (6, some ⟨27, 1, [[.ro (.sl 3 1 (a1.map iC))]]⟩), (7, some ⟨49, 8, [[.v (.int .i64 0), .v (.int .i64 0), .v (.int .i64 0), .v (.int .i64 0), .v (.int .i64 0), .v (.string ⟨#[]⟩), .v (.slice none 0 0), .v (.bool false)]]⟩)], 1⟩) rfl (FnI.mk' (by kernel_rfl)).run (le_of [(0, some 0), (1, some 1), (6, some 2), (7, some 3)] rfl (.s (.s (.s (.s (.cons .un (.un _) (.cons .un (.un _) (.cons .un (.un _) (.cons .un (.un _) (.cons .un (.un _) (.cons .un (.un _) .nil)))))) rfl) rfl) rfl) rfl) (.box rfl rfl (.s rfl) (.row rfl rfl rfl (clm k_iC _) (.box rfl rfl (.s rfl) (.box rfl rfl (.s rfl) .nil))))) rfl (fun _ => rfl) (by decide) rfl rfl rfl rfl rfl (fun _ _ => rfl) ?_ ?_ ?_ ?_ ?_
    · intro l w M N f_ s3010 y9 hf_
      refine w_region (by rfl) (dv1 (l_assign (.v _)) (dvE (⟨rfl, ?_⟩)))
      exact (le_of [(0, some 0), (1, some 1), (6, some 6), (7, some 7)] rfl (.s (.s (.cons .un (.un _) (.cons .un (.un _) (.cons .un (.un _) (.cons .un (.un _) (.cons .un (.un _) (.cons .un (.un _) .nil)))))) rfl) rfl) (.box rfl rfl (.s rfl) (.row rfl rfl rfl (clm k_iC _) (.box rfl rfl (.s rfl) (.box rfl rfl (.s rfl) .nil)))))
    · intro l w M N f_ s3010 y9 z_ hf_ hF
      obtain rfl | rfl | rfl | ⟨i_, rfl⟩ := plC4 y9
      · replace hF := pl0 hF
        refine W.le (le_ad 5 (k := 0) (sz := 8) (i := 0) (o := 1) (g := g_) (off := o_) (cap := c_) rfl (pk_of hf_ (List.mem_cons_of_mem _ List.mem_cons_self) rfl) rfl) ?_
        refine w_block ?_
        obtain ⟨s3013, hF, hG3014⟩ := bindE hF
        refine w_seqJ ⟨[(3, .ad 6 1 0 0), (5, .ad 0 8 0 1), (21, .v (.bool s3013))], [(0, some ⟨49, 8, [[.v (.int .i64 y1.K), .v (.int .i64 s3010.1), .v (.int .i64 s3010.2.1), .v (.int .i64 s3010.2.2.1), .v (.int .i64 y1.N), .v (.string y1.S), .rf 1 0 y1.L.length 1, .v (.bool y1.Stack)]]⟩), (1, some ⟨3, 1, s3010.2.2.2.map iC⟩), (6, some ⟨27, 1, [[.ro (.sl 3 1 (a1.map iC))]]⟩), (7, some ⟨49, 8, [[.v (.int .i64 0), .v (.int .i64 0), .v (.int .i64 0), .v (.int .i64 0), .v (.int .i64 0), .v (.string ⟨#[]⟩), .v (.slice none 0 0), .v (.bool false)]]⟩)], 1⟩ ?_ ?_
        · refine w_draw [[], [0], [0, 1], [0, 1, 2], [0, 1, 2, 3], [0, 1, 2, 3, 4], [0, 1, 2, 3, 4, 5], [0, 1, 2, 3, 4, 5, 6], [0, 1, 2, 3, 4], [0, 1, 2, 3, 4, 8], [0, 1, 2, 3, 4, 5, 6, 7, 8, 9], [0, 1, 2, 3, 4, 5, 6, 7, 8, 9, 10]] [0, 1, 2, 3, 4, 5, 6, 7, 8, 9, 10, 11] (by kernel_rfl) (by rfl) ⟨by decide, by rfl⟩ (by rfl) ?_
          refine de1 rfl (l_move (.ad _ _ _ _)) rfl (de1 rfl (l_nil rfl) rfl (de1 rfl (l_load ty3 rfl rfl rfl rfl rfl) rfl (de1 rfl (l_bin rfl rfl b_geq) rfl (de1 rfl (l_move (.v _)) rfl ?_))))
          rcases condE hF with ⟨b3015, hF⟩ | ⟨b3015, hF⟩
          · refine de1 rfl (l_gT rfl rfl (gt rfl b3015) fun _ => l_move (.ad _ _ _ _)) rfl (de1 rfl (l_gT rfl rfl (gt rfl b3015) fun _ => l_nil rfl) rfl (de1 rfl (l_gT rfl rfl (gt rfl b3015) fun _ => l_load ty3 rfl rfl rfl rfl rfl) rfl (de1 rfl (l_gT rfl rfl (gt rfl b3015) fun _ => l_load ty27 rfl rfl rfl rfl rfl) rfl (de1 rfl (l_gT rfl rfl (gt rfl b3015) fun _ => l_lenRo sl27 rfl rfl (List.length_map _)) rfl (de1 rfl (l_gT rfl rfl (gt rfl b3015) fun _ => l_bin rfl rfl b_lss) rfl (de1 rfl (l_pickT (gt rfl b3015) (.v _)) rfl (ddE ?_)))))))
            cases hF
            refine q_join ?_
            exact (le_of [(0, some 0), (1, some 1), (6, some 6), (7, some 7)] rfl (.s (.s (.s .nil rfl) rfl) rfl) (.box rfl rfl (.s rfl) (.row rfl rfl rfl (clm k_iC _) (.box rfl rfl (.s rfl) (.box rfl rfl (.s rfl) .nil)))))
          · refine de1 rfl (l_gF rfl rfl (gt rfl b3015) rfl) rfl (de1 rfl (l_gF rfl rfl (gt rfl b3015) rfl) rfl (de1 rfl (l_gF rfl rfl (gt rfl b3015) rfl) rfl (de1 rfl (l_gF rfl rfl (gt rfl b3015) rfl) rfl (de1 rfl (l_gF rfl rfl (gt rfl b3015) rfl) rfl (de1 rfl (l_gF rfl rfl (gt rfl b3015) rfl) rfl (de1 rfl (l_pickF (gt rfl b3015) (.v _)) rfl (ddE ?_)))))))
            cases hF
            refine q_join ?_
            exact (le_of [(0, some 0), (1, some 1), (6, some 6), (7, some 7)] rfl (.s (.s (.s .nil rfl) rfl) rfl) (.box rfl rfl (.s rfl) (.row rfl rfl rfl (clm k_iC _) (.box rfl rfl (.s rfl) (.box rfl rfl (.s rfl) .nil)))))
        replace hF := hG3014
        rcases condE hF with ⟨b3016, hF⟩ | ⟨b3016, hF⟩
        · refine w_condT rfl b3016 ?_
          refine w_draw [[], [], [], [2], [2, 3], [1, 2, 3, 4], [1, 2, 3, 4, 5], [0, 1, 2, 3, 4, 5, 6], [0, 1, 2, 3, 4, 5, 6, 7]] [0, 1, 2, 3, 4, 5, 6, 7, 8] (by kernel_rfl) (by rfl) ⟨by decide, by rfl⟩ (by rfl) ?_
          refine de1 rfl (l_move (.ad _ _ _ _)) rfl (de1 rfl (l_load ty27 rfl rfl rfl rfl rfl) rfl (de1 rfl (l_move (.ad _ _ _ _)) rfl (de1 rfl (l_nil rfl) rfl (de1 rfl (l_load ty3 rfl rfl rfl rfl rfl) rfl ?_))))
          obtain ⟨x3017, h3018, hF⟩ := bindE hF
          refine de1 rfl (l_indexRo s3010.1.toNat sl27 rfl rfl (atI_z h3018) (map_at (atI_at h3018))) rfl (de1 rfl (l_loadRo ty3 rfl rfl) rfl (de1 rfl (l_nil rfl) rfl (deS rfl (l_store ty3 rfl (.v _) rfl rfl rfl (Nat.le_of_ble_eq_true rfl) rfl) rfl (ddE (q_in ?_)))))
          cases hF
          refine .inl ⟨rfl, _, rfl, ?_⟩
          exact (le_of [(0, some 0), (1, some 1), (6, some 6), (7, some 7)] rfl .nil (.box rfl rfl (.s rfl) (.row rfl rfl rfl (clm k_iC _) (.box rfl rfl (.s rfl) (.box rfl rfl (.s rfl) .nil)))))
        · refine w_condF rfl b3016 ?_
          refine w_skip (q_in ?_)
          cases hF
          refine .inl ⟨rfl, _, rfl, ?_⟩
          exact (le_of [(0, some 0), (1, some 1), (6, some 6), (7, some 7)] rfl .nil (.box rfl rfl (.s rfl) (.row rfl rfl rfl (clm k_iC _) (.box rfl rfl (.s rfl) (.box rfl rfl (.s rfl) .nil)))))
      · replace hF := pl1 hF
        refine W.le (le_ad 5 (k := 0) (sz := 8) (i := 0) (o := 2) (g := g_) (off := o_) (cap := c_) rfl (pk_of hf_ (List.mem_cons_of_mem _ List.mem_cons_self) rfl) rfl) ?_
        refine w_block ?_
        obtain ⟨s3020, hF, hG3021⟩ := bindE hF
        refine w_seqJ ⟨[(3, .ad 6 1 0 0), (5, .ad 0 8 0 2), (21, .v (.bool s3020))], [(0, some ⟨49, 8, [[.v (.int .i64 y1.K), .v (.int .i64 s3010.1), .v (.int .i64 s3010.2.1), .v (.int .i64 s3010.2.2.1), .v (.int .i64 y1.N), .v (.string y1.S), .rf 1 0 y1.L.length 1, .v (.bool y1.Stack)]]⟩), (1, some ⟨3, 1, s3010.2.2.2.map iC⟩), (6, some ⟨27, 1, [[.ro (.sl 3 1 (a1.map iC))]]⟩), (7, some ⟨49, 8, [[.v (.int .i64 0), .v (.int .i64 0), .v (.int .i64 0), .v (.int .i64 0), .v (.int .i64 0), .v (.string ⟨#[]⟩), .v (.slice none 0 0), .v (.bool false)]]⟩)], 1⟩ ?_ ?_
        · refine w_draw [[], [0], [0, 1], [0, 1, 2], [0, 1, 2, 3], [0, 1, 2, 3, 4], [0, 1, 2, 3, 4, 5], [0, 1, 2, 3, 4, 5, 6], [0, 1, 2, 3, 4], [0, 1, 2, 3, 4, 8], [0, 1, 2, 3, 4, 5, 6, 7, 8, 9], [0, 1, 2, 3, 4, 5, 6, 7, 8, 9, 10]] [0, 1, 2, 3, 4, 5, 6, 7, 8, 9, 10, 11] (by kernel_rfl) (by rfl) ⟨by decide, by rfl⟩ (by rfl) ?_
          refine de1 rfl (l_move (.ad _ _ _ _)) rfl (de1 rfl (l_nil rfl) rfl (de1 rfl (l_load ty3 rfl rfl rfl rfl rfl) rfl (de1 rfl (l_bin rfl rfl b_geq) rfl (de1 rfl (l_move (.v _)) rfl ?_))))
          rcases condE hF with ⟨b3022, hF⟩ | ⟨b3022, hF⟩
          · refine de1 rfl (l_gT rfl rfl (gt rfl b3022) fun _ => l_move (.ad _ _ _ _)) rfl (de1 rfl (l_gT rfl rfl (gt rfl b3022) fun _ => l_nil rfl) rfl (de1 rfl (l_gT rfl rfl (gt rfl b3022) fun _ => l_load ty3 rfl rfl rfl rfl rfl) rfl (de1 rfl (l_gT rfl rfl (gt rfl b3022) fun _ => l_load ty27 rfl rfl rfl rfl rfl) rfl (de1 rfl (l_gT rfl rfl (gt rfl b3022) fun _ => l_lenRo sl27 rfl rfl (List.length_map _)) rfl (de1 rfl (l_gT rfl rfl (gt rfl b3022) fun _ => l_bin rfl rfl b_lss) rfl (de1 rfl (l_pickT (gt rfl b3022) (.v _)) rfl (ddE ?_)))))))
            cases hF
            refine q_join ?_
            exact (le_of [(0, some 0), (1, some 1), (6, some 6), (7, some 7)] rfl (.s (.s (.s .nil rfl) rfl) rfl) (.box rfl rfl (.s rfl) (.row rfl rfl rfl (clm k_iC _) (.box rfl rfl (.s rfl) (.box rfl rfl (.s rfl) .nil)))))
          · refine de1 rfl (l_gF rfl rfl (gt rfl b3022) rfl) rfl (de1 rfl (l_gF rfl rfl (gt rfl b3022) rfl) rfl (de1 rfl (l_gF rfl rfl (gt rfl b3022) rfl) rfl (de1 rfl (l_gF rfl rfl (gt rfl b3022) rfl) rfl (de1 rfl (l_gF rfl rfl (gt rfl b3022) rfl) rfl (de1 rfl (l_gF rfl rfl (gt rfl b3022) rfl) rfl (de1 rfl (l_pickF (gt rfl b3022) (.v _)) rfl (ddE ?_)))))))
            cases hF
            refine q_join ?_
            exact (le_of [(0, some 0), (1, some 1), (6, some 6), (7, some 7)] rfl (.s (.s (.s .nil rfl) rfl) rfl) (.box rfl rfl (.s rfl) (.row rfl rfl rfl (clm k_iC _) (.box rfl rfl (.s rfl) (.box rfl rfl (.s rfl) .nil)))))
        replace hF := hG3021
        rcases condE hF with ⟨b3023, hF⟩ | ⟨b3023, hF⟩
        · refine w_condT rfl b3023 ?_
          refine w_draw [[], [], [], [2], [2, 3], [1, 2, 3, 4], [1, 2, 3, 4, 5], [0, 1, 2, 3, 4, 5, 6], [0, 1, 2, 3, 4, 5, 6, 7]] [0, 1, 2, 3, 4, 5, 6, 7, 8] (by kernel_rfl) (by rfl) ⟨by decide, by rfl⟩ (by rfl) ?_
          refine de1 rfl (l_move (.ad _ _ _ _)) rfl (de1 rfl (l_load ty27 rfl rfl rfl rfl rfl) rfl (de1 rfl (l_move (.ad _ _ _ _)) rfl (de1 rfl (l_nil rfl) rfl (de1 rfl (l_load ty3 rfl rfl rfl rfl rfl) rfl ?_))))
          obtain ⟨x3024, h3025, hF⟩ := bindE hF
          refine de1 rfl (l_indexRo s3010.2.1.toNat sl27 rfl rfl (atI_z h3025) (map_at (atI_at h3025))) rfl (de1 rfl (l_loadRo ty3 rfl rfl) rfl (de1 rfl (l_nil rfl) rfl (deS rfl (l_store ty3 rfl (.v _) rfl rfl rfl (Nat.le_of_ble_eq_true rfl) rfl) rfl (ddE (q_in ?_)))))
          cases hF
          refine .inl ⟨rfl, _, rfl, ?_⟩
          exact (le_of [(0, some 0), (1, some 1), (6, some 6), (7, some 7)] rfl .nil (.box rfl rfl (.s rfl) (.row rfl rfl rfl (clm k_iC _) (.box rfl rfl (.s rfl) (.box rfl rfl (.s rfl) .nil)))))
        · refine w_condF rfl b3023 ?_
          refine w_skip (q_in ?_)
          cases hF
          refine .inl ⟨rfl, _, rfl, ?_⟩
          exact (le_of [(0, some 0), (1, some 1), (6, some 6), (7, some 7)] rfl .nil (.box rfl rfl (.s rfl) (.row rfl rfl rfl (clm k_iC _) (.box rfl rfl (.s rfl) (.box rfl rfl (.s rfl) .nil)))))
      · replace hF := pl2 hF
        refine W.le (le_ad 5 (k := 0) (sz := 8) (i := 0) (o := 3) (g := g_) (off := o_) (cap := c_) rfl (pk_of hf_ (List.mem_cons_of_mem _ List.mem_cons_self) rfl) rfl) ?_
        refine w_block ?_
        obtain ⟨s3027, hF, hG3028⟩ := bindE hF
        refine w_seqJ ⟨[(3, .ad 6 1 0 0), (5, .ad 0 8 0 3), (21, .v (.bool s3027))], [(0, some ⟨49, 8, [[.v (.int .i64 y1.K), .v (.int .i64 s3010.1), .v (.int .i64 s3010.2.1), .v (.int .i64 s3010.2.2.1), .v (.int .i64 y1.N), .v (.string y1.S), .rf 1 0 y1.L.length 1, .v (.bool y1.Stack)]]⟩), (1, some ⟨3, 1, s3010.2.2.2.map iC⟩), (6, some ⟨27, 1, [[.ro (.sl 3 1 (a1.map iC))]]⟩), (7, some ⟨49, 8, [[.v (.int .i64 0), .v (.int .i64 0), .v (.int .i64 0), .v (.int .i64 0), .v (.int .i64 0), .v (.string ⟨#[]⟩), .v (.slice none 0 0), .v (.bool false)]]⟩)], 1⟩ ?_ ?_
        · refine w_draw [[], [0], [0, 1], [0, 1, 2], [0, 1, 2, 3], [0, 1, 2, 3, 4], [0, 1, 2, 3, 4, 5], [0, 1, 2, 3, 4, 5, 6], [0, 1, 2, 3, 4], [0, 1, 2, 3, 4, 8], [0, 1, 2, 3, 4, 5, 6, 7, 8, 9], [0, 1, 2, 3, 4, 5, 6, 7, 8, 9, 10]] [0, 1, 2, 3, 4, 5, 6, 7, 8, 9, 10, 11] (by kernel_rfl) (by rfl) ⟨by decide, by rfl⟩ (by rfl) ?_
          refine de1 rfl (l_move (.ad _ _ _ _)) rfl (de1 rfl (l_nil rfl) rfl (de1 rfl (l_load ty3 rfl rfl rfl rfl rfl) rfl (de1 rfl (l_bin rfl rfl b_geq) rfl (de1 rfl (l_move (.v _)) rfl ?_))))
          rcases condE hF with ⟨b3029, hF⟩ | ⟨b3029, hF⟩
          · refine de1 rfl (l_gT rfl rfl (gt rfl b3029) fun _ => l_move (.ad _ _ _ _)) rfl (de1 rfl (l_gT rfl rfl (gt rfl b3029) fun _ => l_nil rfl) rfl (de1 rfl (l_gT rfl rfl (gt rfl b3029) fun _ => l_load ty3 rfl rfl rfl rfl rfl) rfl (de1 rfl (l_gT rfl rfl (gt rfl b3029) fun _ => l_load ty27 rfl rfl rfl rfl rfl) rfl (de1 rfl (l_gT rfl rfl (gt rfl b3029) fun _ => l_lenRo sl27 rfl rfl (List.length_map _)) rfl (de1 rfl (l_gT rfl rfl (gt rfl b3029) fun _ => l_bin rfl rfl b_lss) rfl (de1 rfl (l_pickT (gt rfl b3029) (.v _)) rfl (ddE ?_)))))))
            cases hF
            refine q_join ?_
            exact (le_of [(0, some 0), (1, some 1), (6, some 6), (7, some 7)] rfl (.s (.s (.s .nil rfl) rfl) rfl) (.box rfl rfl (.s rfl) (.row rfl rfl rfl (clm k_iC _) (.box rfl rfl (.s rfl) (.box rfl rfl (.s rfl) .nil)))))
          · refine de1 rfl (l_gF rfl rfl (gt rfl b3029) rfl) rfl (de1 rfl (l_gF rfl rfl (gt rfl b3029) rfl) rfl (de1 rfl (l_gF rfl rfl (gt rfl b3029) rfl) rfl (de1 rfl (l_gF rfl rfl (gt rfl b3029) rfl) rfl (de1 rfl (l_gF rfl rfl (gt rfl b3029) rfl) rfl (de1 rfl (l_gF rfl rfl (gt rfl b3029) rfl) rfl (de1 rfl (l_pickF (gt rfl b3029) (.v _)) rfl (ddE ?_)))))))
            cases hF
            refine q_join ?_
            exact (le_of [(0, some 0), (1, some 1), (6, some 6), (7, some 7)] rfl (.s (.s (.s .nil rfl) rfl) rfl) (.box rfl rfl (.s rfl) (.row rfl rfl rfl (clm k_iC _) (.box rfl rfl (.s rfl) (.box rfl rfl (.s rfl) .nil)))))
        replace hF := hG3028
        rcases condE hF with ⟨b3030, hF⟩ | ⟨b3030, hF⟩
        · refine w_condT rfl b3030 ?_
          refine w_draw [[], [], [], [2], [2, 3], [1, 2, 3, 4], [1, 2, 3, 4, 5], [0, 1, 2, 3, 4, 5, 6], [0, 1, 2, 3, 4, 5, 6, 7]] [0, 1, 2, 3, 4, 5, 6, 7, 8] (by kernel_rfl) (by rfl) ⟨by decide, by rfl⟩ (by rfl) ?_
          refine de1 rfl (l_move (.ad _ _ _ _)) rfl (de1 rfl (l_load ty27 rfl rfl rfl rfl rfl) rfl (de1 rfl (l_move (.ad _ _ _ _)) rfl (de1 rfl (l_nil rfl) rfl (de1 rfl (l_load ty3 rfl rfl rfl rfl rfl) rfl ?_))))
          obtain ⟨x3031, h3032, hF⟩ := bindE hF
          refine de1 rfl (l_indexRo s3010.2.2.1.toNat sl27 rfl rfl (atI_z h3032) (map_at (atI_at h3032))) rfl (de1 rfl (l_loadRo ty3 rfl rfl) rfl (de1 rfl (l_nil rfl) rfl (deS rfl (l_store ty3 rfl (.v _) rfl rfl rfl (Nat.le_of_ble_eq_true rfl) rfl) rfl (ddE (q_in ?_)))))
          cases hF
          refine .inl ⟨rfl, _, rfl, ?_⟩
          exact (le_of [(0, some 0), (1, some 1), (6, some 6), (7, some 7)] rfl .nil (.box rfl rfl (.s rfl) (.row rfl rfl rfl (clm k_iC _) (.box rfl rfl (.s rfl) (.box rfl rfl (.s rfl) .nil)))))
        · refine w_condF rfl b3030 ?_
          refine w_skip (q_in ?_)
          cases hF
          refine .inl ⟨rfl, _, rfl, ?_⟩
          exact (le_of [(0, some 0), (1, some 1), (6, some 6), (7, some 7)] rfl .nil (.box rfl rfl (.s rfl) (.row rfl rfl rfl (clm k_iC _) (.box rfl rfl (.s rfl) (.box rfl rfl (.s rfl) .nil)))))
      · replace hF := pl3 hF
        obtain ⟨c3033, hF⟩ := ckE hF
        refine W.le (le_adL 5 (k := 1) rfl (pk_of hf_ (List.mem_cons_self) rfl) rfl (by simpa using c3033)) ?_
        refine w_block ?_
        obtain ⟨s3035, hF, hG3036⟩ := bindE hF
        refine w_seqJ ⟨[(3, .ad 6 1 0 0), (5, .ad 1 1 i_ 0), (21, .v (.bool s3035))], [(0, some ⟨49, 8, [[.v (.int .i64 y1.K), .v (.int .i64 s3010.1), .v (.int .i64 s3010.2.1), .v (.int .i64 s3010.2.2.1), .v (.int .i64 y1.N), .v (.string y1.S), .rf 1 0 y1.L.length 1, .v (.bool y1.Stack)]]⟩), (1, some ⟨3, 1, s3010.2.2.2.map iC⟩), (6, some ⟨27, 1, [[.ro (.sl 3 1 (a1.map iC))]]⟩), (7, some ⟨49, 8, [[.v (.int .i64 0), .v (.int .i64 0), .v (.int .i64 0), .v (.int .i64 0), .v (.int .i64 0), .v (.string ⟨#[]⟩), .v (.slice none 0 0), .v (.bool false)]]⟩)], 1⟩ ?_ ?_
        · refine w_draw [[], [0], [0, 1], [0, 1, 2], [0, 1, 2, 3], [0, 1, 2, 3, 4], [0, 1, 2, 3, 4, 5], [0, 1, 2, 3, 4, 5, 6], [0, 1, 2, 3, 4], [0, 1, 2, 3, 4, 8], [0, 1, 2, 3, 4, 5, 6, 7, 8, 9], [0, 1, 2, 3, 4, 5, 6, 7, 8, 9, 10]] [0, 1, 2, 3, 4, 5, 6, 7, 8, 9, 10, 11] (by kernel_rfl) (by rfl) ⟨by decide, by rfl⟩ (by rfl) ?_
          refine de1 rfl (l_move (.ad _ _ _ _)) rfl (de1 rfl (l_nil rfl) rfl ?_)
          obtain ⟨x3037, h3038, hF⟩ := bindE hF
          refine de1 rfl (l_load ty3 rfl rfl (map_at h3038) rfl rfl) rfl (de1 rfl (l_bin rfl rfl b_geq) rfl (de1 rfl (l_move (.v _)) rfl ?_))
          rcases condE hF with ⟨b3039, hF⟩ | ⟨b3039, hF⟩
          · refine de1 rfl (l_gT rfl rfl (gt rfl b3039) fun _ => l_move (.ad _ _ _ _)) rfl (de1 rfl (l_gT rfl rfl (gt rfl b3039) fun _ => l_nil rfl) rfl (de1 rfl (l_gT rfl rfl (gt rfl b3039) fun _ => l_load ty3 rfl rfl (map_at h3038) rfl rfl) rfl (de1 rfl (l_gT rfl rfl (gt rfl b3039) fun _ => l_load ty27 rfl rfl rfl rfl rfl) rfl (de1 rfl (l_gT rfl rfl (gt rfl b3039) fun _ => l_lenRo sl27 rfl rfl (List.length_map _)) rfl (de1 rfl (l_gT rfl rfl (gt rfl b3039) fun _ => l_bin rfl rfl b_lss) rfl (de1 rfl (l_pickT (gt rfl b3039) (.v _)) rfl (ddE ?_)))))))
            cases hF
            refine q_join ?_
            exact (le_of [(0, some 0), (1, some 1), (6, some 6), (7, some 7)] rfl (.s (.s (.s .nil rfl) rfl) rfl) (.box rfl rfl (.s rfl) (.row rfl rfl rfl (clm k_iC _) (.box rfl rfl (.s rfl) (.box rfl rfl (.s rfl) .nil)))))
          · refine de1 rfl (l_gF rfl rfl (gt rfl b3039) rfl) rfl (de1 rfl (l_gF rfl rfl (gt rfl b3039) rfl) rfl (de1 rfl (l_gF rfl rfl (gt rfl b3039) rfl) rfl (de1 rfl (l_gF rfl rfl (gt rfl b3039) rfl) rfl (de1 rfl (l_gF rfl rfl (gt rfl b3039) rfl) rfl (de1 rfl (l_gF rfl rfl (gt rfl b3039) rfl) rfl (de1 rfl (l_pickF (gt rfl b3039) (.v _)) rfl (ddE ?_)))))))
            cases hF
            refine q_join ?_
            exact (le_of [(0, some 0), (1, some 1), (6, some 6), (7, some 7)] rfl (.s (.s (.s .nil rfl) rfl) rfl) (.box rfl rfl (.s rfl) (.row rfl rfl rfl (clm k_iC _) (.box rfl rfl (.s rfl) (.box rfl rfl (.s rfl) .nil)))))
        replace hF := hG3036
        rcases condE hF with ⟨b3040, hF⟩ | ⟨b3040, hF⟩
        · refine w_condT rfl b3040 ?_
          refine w_draw [[], [], [], [2], [2, 3], [1, 2, 3, 4], [1, 2, 3, 4, 5], [0, 1, 2, 3, 4, 5, 6], [0, 1, 2, 3, 4, 5, 6, 7]] [0, 1, 2, 3, 4, 5, 6, 7, 8] (by kernel_rfl) (by rfl) ⟨by decide, by rfl⟩ (by rfl) ?_
          refine de1 rfl (l_move (.ad _ _ _ _)) rfl (de1 rfl (l_load ty27 rfl rfl rfl rfl rfl) rfl (de1 rfl (l_move (.ad _ _ _ _)) rfl (de1 rfl (l_nil rfl) rfl ?_)))
          obtain ⟨x3041, h3042, hF⟩ := bindE hF
          refine de1 rfl (l_load ty3 rfl rfl (map_at h3042) rfl rfl) rfl ?_
          obtain ⟨x3043, h3044, hF⟩ := bindE hF
          refine de1 rfl (l_indexRo x3041.toNat sl27 rfl rfl (atI_z h3044) (map_at (atI_at h3044))) rfl (de1 rfl (l_loadRo ty3 rfl rfl) rfl (de1 rfl (l_nil rfl) rfl (deS rfl (l_storeR ty3 rfl (.v _) rfl (map_at h3042) rfl (Nat.le_of_ble_eq_true rfl) rfl (map_set' iC s3010.2.2.2 i_ x3043)) rfl (ddE (q_in ?_)))))
          cases hF
          refine .inl ⟨rfl, _, rfl, ?_⟩
          exact (le_of [(0, some 0), (1, some 1), (6, some 6), (7, some 7)] rfl .nil (.box rfl rfl (.s rfl) (.row rfl rfl rfl (clm k_iC _) (.box rfl rfl (.s rfl) (.box rfl rfl (.s rfl) .nil)))))
        · refine w_condF rfl b3040 ?_
          refine w_skip (q_in ?_)
          cases hF
          refine .inl ⟨rfl, _, rfl, ?_⟩
          exact (le_of [(0, some 0), (1, some 1), (6, some 6), (7, some 7)] rfl .nil (.box rfl rfl (.s rfl) (.row rfl rfl rfl (clm k_iC _) (.box rfl rfl (.s rfl) (.box rfl rfl (.s rfl) .nil)))))
    · intro bs_ s_ X_ U_ a_ w_ N_ FP_ hI_ hp_
      exact rd_op hI_ (hp_ _ (List.mem_cons_of_mem _ List.mem_cons_self)) rfl rfl rfl (hp_ _ List.mem_cons_self)
    · intro s3010 hs_
      subst hs_
      replace hF := onGo hF
      cases hF
      refine q_in (q_join ?_)
      exact (le_of [(0, some 0), (1, some 1), (6, some 7)] rfl (.s (.s .nil rfl) rfl) (.box rfl rfl (.s rfl) (.row rfl rfl rfl (clm k_iC _) (.box rfl rfl (.s rfl) .nil))))
    · intro o_ hs_
      subst hs_
      exact nomatch onOut hF
  replace hF := hG8
  refine w_seq (W.le (le_ad 2 (k := 0) (sz := 8) (i := 0) (o := 0) (g := g_) (off := o_) (cap := c_) rfl (List.mem_cons_of_mem _ List.mem_cons_self) rfl) ?_)
  obtain ⟨c3046, hF⟩ := ckE hF
  refine w_region (by rfl) (dv1 (l_loadA ty49 rfl rfl rfl rfl rfl) (dvS (l_store ty49 rfl (.ag _) rfl rfl rfl (Nat.le_of_ble_eq_true rfl) rfl) (dvE (q_seq (w_ret ?_)))))
  cases hF
  refine q_end (.inr rfl) ?_
  exact ret_ok rfl (.cons (.cellA ty49 rfl rfl rfl (.cons (.of (.v _)) (.cons (.of (.v _)) (.cons (.of (.v _)) (.cons (.of (.v _)) (.cons (.of (.v _)) (.cons (.of (.v _)) (.cons (.of (.rf rfl ((List.length_map _).trans c3046) (clm k_iC _))) (.cons (.of (.v _)) .nil))))))))) .nil) (by decide) rfl

def p_tidy_named (a0 : List Int) : Option (((List Int))) :=
some a0

theorem p_tidy_named_ok {r : ((List Int))} : rOk (.fn (.func 52) [] [.ro (.rp (lC_iC r) 0)]) = true ∧ True := ⟨rfl, trivial⟩

set_option maxRecDepth 10000 in
set_option maxHeartbeats 4000000 in
theorem p_tidy_named_ac {a0 : List Int} {r : ((List Int))} (hF : p_tidy_named a0 = some r) : AC Tryd.prog GT 37 [.sl 3 1 (a0.map iC)] (fun c => c = .fn (.func 52) [] [.ro (.rp (lC_iC r) 0)]) := by
  unfold p_tidy_named at hF
  refine AC.mk (nt := 4) Tryd.func37 rfl rfl rfl fun w N => ?_
  refine w_seq (w_region (by rfl) (dvN (l_box (.ro _) rfl rfl) (dv1 (l_assign (.v _)) (dvE (q_seq (w_seq (w_region (by rfl) (dvG (le_freeze 0 [(1, .ro (.rp [.ro (.sl 3 1 (a0.map iC))] 0))] rfl (cl1 (.ro _ rfl) (cl0 (b := true))) (List.forall_mem_cons.2 ⟨⟨0, rfl, rfl⟩, (fun _ h => nomatch h)⟩)) ?_))))))))
  refine dvG (le_wk 1 (c' := .rp (lC_iC a0) 0) rfl (.rp (.cons (Wk.ro (Wk.refl _)) .nil))) ?_
  refine dv1 (l_fnE (f := 52) (.cons (.ro _) .nil)) (dv1 (l_assign (.fn _ _ _)) (dvE (q_seq (w_ret ?_))))
  cases hF
  refine q_end (.inr rfl) ?_
  exact ret_ok rfl (.cons (.tmp (.fn _ _ _) (.fn _ (capB_ok rfl))) .nil) (by decide) rfl

def p_tidy_itself (a0 : Int) : Option Int :=
some a0

theorem p_tidy_itself_ok {r : Int} : rOk (.v (.int .i64 r)) = true ∧ FrT (.v (.int .i64 r)) := ⟨rfl, (.one (.cl (.v _)))⟩

set_option maxRecDepth 10000 in
set_option maxHeartbeats 4000000 in
theorem p_tidy_itself_ac {a0 : Int} {r : Int} (hF : p_tidy_itself a0 = some r) : AC Tryd.prog GT 21 [.v (.int .i64 a0)] (fun c => c = .v (.int .i64 r)) := by
  unfold p_tidy_itself at hF
  refine AC.mk (nt := 4) Tryd.func21 rfl rfl rfl fun w N => ?_
  refine w_seq (w_region (by rfl) (dv1 (l_assign (.v _)) (dvE (q_seq (w_seq (w_region (by rfl) (dv1 (l_move (.v _)) (dv1 (l_assign (.v _)) ?_))))))))
  refine dvE (q_seq (w_ret ?_))
  cases hF
  refine q_end (.inr rfl) ?_
  exact ret_ok rfl (.cons (.tmp (.v _) (.v _)) .nil) (by decide) rfl

def p_tidy_span (a0 : MFun) (a1 : Int) : Option ((List Int)) :=
((((p_code_First a0 a1).bind fun y4 =>
(loop (fun (s3006 : (List Int) × Int) =>
((p_code_First a0 (IntKind.i64.wrap (a1 + 1))).bind fun y3010 =>
(bif decide (s3006.2 < y3010) then
(ck ((s3006.1.length + 1) * 8 ≤ 140737488355328)
(some (Xt.go ((s3006.1 ++ [s3006.2]), IntKind.i64.wrap (s3006.2 + 1)))))
else
some (Xt.out s3006.1)))) Fu ([], y4)))).bind fun (s2 : (List Int)) =>
some s2)

theorem p_tidy_span_ok {r : (List Int)} : rOk (.sl 3 1 (r.map iC)) = true ∧ FrT (.sl 3 1 (r.map iC)) := ⟨rfl, (.one (.cl (.sl _ _ (clm k_iC _))))⟩

set_option maxRecDepth 10000 in
set_option maxHeartbeats 4000000 in
theorem p_tidy_span_ac {a0 : MFun} {a1 : Int} {r : (List Int)} (hF : p_tidy_span a0 a1 = some r) : AC Tryd.prog GT 58 [.ag (MFun.ct a0), .v (.int .i64 a1)] (fun c => c = .sl 3 1 (r.map iC)) := by
  unfold p_tidy_span at hF
  refine AC.mk (nt := 23) Tryd.func58 rfl rfl rfl fun w N => ?_
  refine w_seq (w_region (by rfl) (dvN (l_box (.ag _) rfl rfl) (dv1 (l_assign (.v _)) (dvE (q_seq (w_seq (w_region (by rfl) (dv1 (l_assign (.v _)) ?_))))))))
  refine dvE (q_seq ?_)
  obtain ⟨s2, hF, hG3⟩ := bindE hF
  refine w_seqJ ⟨[(5, .rf 0 0 ((s2.map iC).length) 1)], [(0, some ⟨3, 1, s2.map iC⟩)], 1⟩ ?_ ?_
  · refine w_seq (w_region (by rfl) (dv1 (l_loadA ty31 rfl rfl rfl rfl rfl) (dv1 (l_move (.v _)) ?_)))
    obtain ⟨y4, h5, hF⟩ := bindE hF
    refine dvC (l_call (B := false) (FnI.mk' (by kernel_rfl)) (.cons (.ag _) (.ag (.cons (.v _) (.cons (.ro _) .nil))) (.cons (.v _) (.one (.v _)) .nil)) (p_code_First_ac h5) (okF p_code_First_ok)) ?_
    rintro _ rfl
    refine dv1 (l_assign (.v _)) (dvE (q_seq (w_block (w_loopF hF (fun (s3006 : (List Int) × Int) => ⟨[(1, .v (.int .i64 a1)), (2, .ad 0 2 0 0), (5, .rf 1 0 ((s3006.1.map iC).length) 1), (6, .v (.int .i64 s3006.2))], [(0, some ⟨31, 2, [[.v (.int .i64 a0.Ret), .ro (.sl 47 8 (a0.Blocks.map MBlk.ct))]]⟩), (1, some ⟨3, 1, s3006.1.map iC⟩)], 1⟩) (le_of [(0, some 0), (1, none)] rfl (.s (.s (.cons (.v _) (.nil ⟨by simp, rfl⟩) (.s .nil rfl)) rfl) rfl) (.box rfl rfl (.s rfl) (.new ⟨by simp, rfl⟩ .nil))) ?_))))
    intro s3006 y3007 hF hx3008
    refine w_seq (w_seq (w_region (by rfl) (dv1 (l_move (.v _)) (dv1 (l_loadA ty31 rfl rfl rfl rfl rfl) (dv1 (l_move (.v _)) (dv1 (l_bin rfl rfl (b_add rfl)) ?_))))))
    obtain ⟨y3010, h3011, hF⟩ := bindE hF
    refine dvC (l_call (B := false) (FnI.mk' (by kernel_rfl)) (.cons (.ag _) (.ag (.cons (.v _) (.cons (.ro _) .nil))) (.cons (.v _) (.one (.v _)) .nil)) (p_code_First_ac h3011) (okF p_code_First_ok)) ?_
    rintro _ rfl
    refine dv1 (l_bin rfl rfl b_lss) (dvE (q_seq ?_))
    rcases condE hF with ⟨b3012, hF⟩ | ⟨b3012, hF⟩
    · refine w_condT rfl b3012 ?_
      refine w_skip (q_seq (w_seq (w_block (w_region (by rfl) (dv1 (l_move (.rf _ _ _ _)) (dv1 (l_move (.v _)) (dvN (l_bs1 sl27 zt3 rfl (.v _) rfl rfl rfl (by decide) (by decide)) ?_)))))))
      obtain ⟨c3013, hF⟩ := ckE hF
      refine dvN3 (l_app1R el27 rfl rfl rfl rfl rfl rfl (by decide) (map_snoc iC _ s3006.2) (List.length_map _) (by simpa using c3013) (by decide)) ?_
      refine dv1 (l_assign (.rf _ _ _ _)) (dvE (q_in (q_seq (w_region (by rfl) (dv1 (l_move (.v _)) (dv1 (l_bin rfl rfl (b_add rfl)) (dv1 (l_assign (.v _)) (dvE ?_))))))))
      cases hF
      refine qL rfl ?_
      exact (le_of [(0, some 0), (1, some 640)] rfl (.s (.s (.cons (.rf _ _ _ _) (.rf rfl (by simp)) (.s .nil rfl)) rfl) rfl) (.box rfl rfl (.s rfl) (.row rfl rfl rfl (clm k_iC _) .nil)))
    · refine w_condF rfl b3012 ?_
      refine w_exit ?_
      cases hF
      cases hx3008 _ rfl
      refine q_exS (q_exS (q_here (q_join ?_)))
      exact (le_of [(0, some 1)] rfl (.s .nil rfl) (.row rfl rfl rfl (clm k_iC _) .nil))
  replace hF := hG3
  refine w_seq (w_region (by rfl) (dv1 (l_move (.rf _ _ _ _)) (dv1 (l_assign (.rf _ _ _ _)) (dvE (q_seq (w_ret ?_))))))
  cases hF
  refine q_end (.inr rfl) ?_
  exact ret_ok rfl (.cons (.tmp (.rf _ _ _ _) (.rf rfl rfl (clm k_iC _))) .nil) (by decide) rfl

def p_tidy_named_1 (a0 : Int) (c0 : List Int) : Option Int :=
(((bif decide ((0 : Int) ≤ a0) then
some (decide (a0 < ((c0.length : Nat) : Int)))
else
some false)).bind fun (s18100 : Bool) =>
(bif s18100 then
((atI c0 a0).bind fun x18104 =>
some x18104)
else
some a0))

theorem p_tidy_named_1_ok {r : Int} : rOk (.v (.int .i64 r)) = true ∧ FrT (.v (.int .i64 r)) := ⟨rfl, (.one (.cl (.v _)))⟩

set_option maxRecDepth 10000 in
set_option maxHeartbeats 4000000 in
theorem p_tidy_named_1_ac {a0 : Int} {c0 : List Int} {r : Int} (hF : p_tidy_named_1 a0 c0 = some r) : AC Tryd.prog GT 52 [.v (.int .i64 a0), .rp (lC_iC c0) 0] (fun c => c = .v (.int .i64 r)) := by
  unfold p_tidy_named_1 at hF
  refine AC.mk (nt := 17) Tryd.func52 rfl rfl rfl fun w N => ?_
  refine w_seq (w_region (by rfl) (dv1 (l_assign (.v _)) (dvE (q_seq (w_seq ?_)))))
  obtain ⟨s18100, hF, hG18101⟩ := bindE hF
  refine w_seqJ ⟨[(0, .v (.int .i64 a0)), (1, .ro (.rp (lC_iC c0) 0)), (11, .v (.bool s18100))], [], 1⟩ ?_ ?_
  · refine w_region (by rfl) (dv1 (l_move (.v _)) (dv1 (l_bin rfl rfl b_geq) (dv1 (l_move (.v _)) ?_)))
    rcases condE hF with ⟨b18102, hF⟩ | ⟨b18102, hF⟩
    · refine dv1 (l_gT rfl rfl (gt rfl b18102) fun _ => l_move (.v _)) (dv1 (l_gT rfl rfl (gt rfl b18102) fun _ => l_loadRo ty27 rfl rfl) (dv1 (l_gT rfl rfl (gt rfl b18102) fun _ => l_lenRo sl27 rfl rfl (List.length_map _)) (dv1 (l_gT rfl rfl (gt rfl b18102) fun _ => l_bin rfl rfl b_lss) (dv1 (l_pickT (gt rfl b18102) (.v _)) (dvE ?_)))))
      cases hF
      refine q_join ?_
      exact (le_of [] rfl (.s (.s (.s .nil rfl) rfl) rfl) .nil)
    · refine dv1 (l_gF rfl rfl (gt rfl b18102) rfl) (dv1 (l_gF rfl rfl (gt rfl b18102) rfl) (dv1 (l_gF rfl rfl (gt rfl b18102) rfl) (dv1 (l_gF rfl rfl (gt rfl b18102) rfl) (dv1 (l_pickF (gt rfl b18102) (.v _)) (dvE ?_)))))
      cases hF
      refine q_join ?_
      exact (le_of [] rfl (.s (.s (.s .nil rfl) rfl) rfl) .nil)
  replace hF := hG18101
  rcases condE hF with ⟨b18103, hF⟩ | ⟨b18103, hF⟩
  · refine w_condT rfl b18103 ?_
    refine w_seq (w_region (by rfl) (dv1 (l_loadRo ty27 rfl rfl) (dv1 (l_move (.v _)) ?_)))
    obtain ⟨x18104, h18105, hF⟩ := bindE hF
    refine dv1 (l_indexRo a0.toNat sl27 rfl rfl (atI_z h18105) (map_at (atI_at h18105))) (dv1 (l_loadRo ty3 rfl rfl) (dv1 (l_assign (.v _)) (dvE (q_seq (w_ret (q_reS ?_))))))
    cases hF
    refine q_end (.inr rfl) ?_
    exact ret_ok rfl (.cons (.tmp (.v _) (.v _)) .nil) (by decide) rfl
  · refine w_condF rfl b18103 ?_
    refine w_skip (q_seq (w_seq (w_region (by rfl) (dv1 (l_move (.v _)) (dv1 (l_assign (.v _)) (dvE (q_seq (w_ret ?_))))))))
    cases hF
    refine q_end (.inr rfl) ?_
    exact ret_ok rfl (.cons (.tmp (.v _) (.v _)) .nil) (by decide) rfl

def p_tidy_end_1 (a0 : List Int) (c0_0 : List Int) : Option ((List Int)) :=
((p_slices_Clone_int_int a0).bind fun y18111 =>
(((loop (fun (s22116 : (List Int) × Int) =>
(bif decide (s22116.2 < ((y18111.length : Nat) : Int)) then
((atI s22116.1 s22116.2).bind fun x22121 =>
((p_tidy_named_1 x22121 c0_0).bind fun y22123 =>
some (Xt.go ((s22116.1.set s22116.2.toNat y22123), IntKind.i64.wrap (s22116.2 + 1)))))
else
some (Xt.out s22116.1))) Fu (y18111, 0))).bind fun (s18114 : (List Int)) =>
some s18114))

theorem p_tidy_end_1_ok {r : (List Int)} : rOk (.sl 3 1 (r.map iC)) = true ∧ FrT (.sl 3 1 (r.map iC)) := ⟨rfl, (.one (.cl (.sl _ _ (clm k_iC _))))⟩

set_option maxRecDepth 10000 in
set_option maxHeartbeats 4000000 in
theorem p_tidy_end_1_ac {a0 : List Int} {c0_0 : List Int} {r : (List Int)} (hF : p_tidy_end_1 a0 c0_0 = some r) : AC Tryd.prog GT 50 [.sl 3 1 (a0.map iC), .rp [.fn (.func 52) [] [.rp (lC_iC c0_0) 0]] 0] (fun c => c = .sl 3 1 (r.map iC)) := by
  unfold p_tidy_end_1 at hF
  refine AC.mk (nt := 23) Tryd.func50 rfl rfl rfl fun w N => ?_
  refine w_seq (w_region (by rfl) (dv1 (l_assign (.v _)) (dvE (q_seq (w_seq (w_region (by rfl) (dv1 (l_move (.ro _)) ?_)))))))
  obtain ⟨y18111, h18112, hF⟩ := bindE hF
  refine dvC (l_call (B := false) (FnI.mk' (by kernel_rfl)) (.cons (.ro _) (.one (.ro _)) .nil) (p_slices_Clone_int_int_ac h18112) (okF p_slices_Clone_int_int_ok)) ?_
  rintro _ rfl
  refine dv1 (l_assign (.rf _ _ _ _)) (dvE (q_seq ?_))
  obtain ⟨s18114, hF, hG18115⟩ := bindE hF
  refine w_seqJ ⟨[(0, .rf 0 0 ((s18114.map iC).length) 1)], [(0, some ⟨3, 1, s18114.map iC⟩)], 1⟩ ?_ ?_
  · refine w_seq (w_region (by rfl) (dv1 (l_move (.rf _ _ _ _)) (dv1 (l_lenR sl27 rfl rfl (List.length_map _)) (dv1 (l_move (.v _)) (dvE (q_seq (w_block (w_loopF hF (fun (s22116 : (List Int) × Int) => ⟨[(0, .rf 0 0 ((s22116.1.map iC).length) 1), (1, .ro (.rp [.fn (.func 52) [] [.rp (lC_iC c0_0) 0]] 0)), (8, .v (.int .i64 ((y18111.length : Nat) : Int))), (9, .v (.int .i64 s22116.2))], [(0, some ⟨3, 1, s22116.1.map iC⟩)], 1⟩) (le_of [(0, some 128)] rfl (.s (.s (.s (.s .nil rfl) rfl) rfl) rfl) (.row rfl rfl rfl (clm k_iC _) .nil)) ?_))))))))
    intro s22116 y22117 hF hx22118
    refine w_seq (w_region (by rfl) (dv1 (l_bin rfl rfl b_lss) (dvE (q_seq (w_seq ?_)))))
    rcases condE hF with ⟨b22120, hF⟩ | ⟨b22120, hF⟩
    · refine w_condT rfl b22120 ?_
      refine w_skip (q_seq (w_seq (w_block (w_seq (w_region (by rfl) (dv1 (l_move (.v _)) (dv1 (l_assign (.v _)) (dvE ?_))))))))
      refine q_seq (w_draw [[], [], [], [], [], [3, 4], [3, 4, 5], [2, 3, 4, 5, 6], [0, 1, 2, 3, 4, 5, 6, 7], [0, 1, 2, 3, 4, 5, 6, 7, 8]] [0, 1, 2, 3, 4, 5, 6, 7, 8, 9] (by kernel_rfl) (by rfl) ⟨by decide, by rfl⟩ (by rfl) ?_)
      refine de1 rfl (l_move (.rf _ _ _ _)) rfl (de1 rfl (l_move (.v _)) rfl (de1 rfl (l_loadRo ty55 rfl rfl) rfl (de1 rfl (l_move (.rf _ _ _ _)) rfl (de1 rfl (l_move (.v _)) rfl ?_))))
      obtain ⟨x22121, h22122, hF⟩ := bindE hF
      refine de1 rfl (l_index s22116.2.toNat sl27 rfl rfl (atI_z h22122) (lt_at iC (atI_at h22122))) rfl (de1 rfl (l_load ty3 rfl rfl (map_at (atI_at h22122)) rfl rfl) rfl ?_)
      obtain ⟨y22123, h22124, hF⟩ := bindE hF
      refine deC1 rfl (l_callV (B := false) (caps := [.rp (lC_iC c0_0) 0]) (FnI.mk' (by kernel_rfl)) (.ro _) (.ro _ _) (.cons (.v _) (.one (.v _)) .nil) (p_tidy_named_1_ac h22124) (okF p_tidy_named_1_ok)) rfl ?_
      refine de1 rfl (l_index s22116.2.toNat sl27 rfl rfl (atI_z h22122) (lt_at iC (atI_at h22122))) rfl (deS rfl (l_storeR ty3 rfl (.v _) rfl (map_at (atI_at h22122)) rfl (Nat.le_of_ble_eq_true rfl) rfl (map_set' iC s22116.1 s22116.2.toNat y22123)) rfl (ddE (q_in (q_seq (w_region (by rfl) (dv1 (l_bin rfl rfl (b_add rfl)) (dv1 (l_move (.v _)) (dvE ?_))))))))
      cases hF
      refine qL rfl ?_
      exact (le_of [(0, some 0)] rfl (.cons (.rf _ _ _ _) (.rf rfl (by simp)) (.s (.s (.s .nil rfl) rfl) rfl)) (.row rfl rfl rfl (clm k_iC _) .nil))
    · refine w_condF rfl b22120 ?_
      refine w_exit ?_
      cases hF
      cases hx22118 _ rfl
      refine q_exS (q_exS (q_here (q_join ?_)))
      exact (le_of [(0, some 0)] rfl (.s .nil rfl) (.row rfl rfl rfl (clm k_iC _) .nil))
  replace hF := hG18115
  refine w_seq (w_region (by rfl) (dv1 (l_move (.rf _ _ _ _)) (dv1 (l_assign (.rf _ _ _ _)) (dvE (q_seq (w_ret ?_))))))
  cases hF
  refine q_end (.inr rfl) ?_
  exact ret_ok rfl (.cons (.tmp (.rf _ _ _ _) (.rf rfl rfl (clm k_iC _))) .nil) (by decide) rfl

def p_tidy_end_t1 (a0_0 : Int) (a1_0 : Int) (a1_1 : Int) (a1_2 : Int) (a1_3 : Int) (a1_4 : List Int) (a1_5 : List Int) (a2_0 : List Int) : Option MEnd :=
(((((bif decide (a1_0 = 1) then
some true
else
(bif decide (a1_0 = 3) then
some true
else
(bif decide (a1_0 = 2) then
some (!(decide (a0_0 = (-1))))
else
some false)))).bind fun (s5 : Bool) =>
(bif s5 then
((p_tidy_named_1 a1_1 a2_0).bind fun y11 =>
some y11)
else
some a1_1))).bind fun (s2 : Int) =>
(((((bif decide (a1_0 = 0) then
some true
else
some (decide (a1_0 = 1)))).bind fun (s18 : Bool) =>
(bif s18 then
((p_tidy_itself a1_2).bind fun y22 =>
((p_tidy_end_1 a1_4 a2_0).bind fun y24 =>
some (y22, y24)))
else
some (a1_2, a1_4)))).bind fun (s15 : Int × (List Int)) =>
(((bif decide (a1_0 = 1) then
((p_tidy_itself a1_3).bind fun y31 =>
((p_tidy_end_1 a1_5 a2_0).bind fun y33 =>
some (y31, y33)))
else
some (a1_3, a1_5))).bind fun (s28 : Int × (List Int)) =>
some (⟨a1_0, s2, s15.1, s28.1, s15.2, s28.2⟩ : MEnd))))

theorem p_tidy_end_t1_sok {r : MEnd} : rOk (.ag (MEnd.ct r)) = true ∧ True := ⟨rfl, trivial⟩

set_option maxRecDepth 10000 in
set_option maxHeartbeats 4000000 in
theorem p_tidy_end_t1_sc {a0_0 : Int} {a1_0 : Int} {a1_1 : Int} {a1_2 : Int} {a1_3 : Int} {a1_4 : List Int} {a1_5 : List Int} {a2_0 : List Int} {n_0 : Nat} {r : MEnd} (hF : p_tidy_end_t1 a0_0 a1_0 a1_1 a1_2 a1_3 a1_4 a1_5 a2_0 = some r) : SC Tryd.prog GT 36 [.ag [.v (.int .i64 a0_0), .rf 0 0 n_0 8], .ag [.v (.int .i64 a1_0), .v (.int .i64 a1_1), .v (.int .i64 a1_2), .v (.int .i64 a1_3), .rf 1 0 ((a1_4.map iC).length) 1, .rf 2 0 ((a1_5.map iC).length) 1], .fn (.func 52) [] [.ro (.rp (lC_iC a2_0) 0)], .v (.func (.func 21) #[] #[])] [(1, some ⟨3, 1, a1_4.map iC⟩), (2, some ⟨3, 1, a1_5.map iC⟩)] (fun c gb => c = .ag (MEnd.ct r) ∧ gb = []) := by
  unfold p_tidy_end_t1 at hF
  refine SC.mk (nt := 66) [] Tryd.func36 rfl rfl rfl rfl fun w M N g => ?_
  refine w_seq (w_region (by rfl) (dvN (l_box (.ag _) rfl rfl) (dvN (l_box (.ag _) rfl rfl) (dvN (l_box (.fn _ _ _) rfl rfl) (dvN (l_alloc zt44) (dvE (q_seq ?_)))))))
  obtain ⟨s2, hF, hG3⟩ := bindE hF
  refine w_seqJ ⟨[(3, .v (.func (.func 21) #[] #[])), (5, .ad 3 6 0 0), (6, .ad 6 1 0 0), (8, .ad 7 6 0 0), (38, .un), (39, .un), (40, .un)], [(3, some ⟨44, 6, [[.v (.int .i64 a1_0), .v (.int .i64 s2), .v (.int .i64 a1_2), .v (.int .i64 a1_3), .rf 4 0 ((a1_4.map iC).length) 1, .rf 5 0 ((a1_5.map iC).length) 1]]⟩), (4, some ⟨3, 1, a1_4.map iC⟩), (5, some ⟨3, 1, a1_5.map iC⟩), (6, some ⟨55, 1, [[.fn (.func 52) [] [.ro (.rp (lC_iC a2_0) 0)]]]⟩), (7, some ⟨44, 6, [[.v (.int .i64 0), .v (.int .i64 0), .v (.int .i64 0), .v (.int .i64 0), .v (.slice none 0 0), .v (.slice none 0 0)]]⟩)], 1⟩ ?_ ?_
  · obtain ⟨s5, hF, hG6⟩ := bindE hF
    refine w_seqJ ⟨[(3, .v (.func (.func 21) #[] #[])), (5, .ad 3 6 0 0), (6, .ad 6 1 0 0), (8, .ad 7 6 0 0), (27, .v (.bool s5)), (38, .un), (39, .un), (40, .un)], [(3, some ⟨44, 6, [[.v (.int .i64 a1_0), .v (.int .i64 a1_1), .v (.int .i64 a1_2), .v (.int .i64 a1_3), .rf 4 0 ((a1_4.map iC).length) 1, .rf 5 0 ((a1_5.map iC).length) 1]]⟩), (4, some ⟨3, 1, a1_4.map iC⟩), (5, some ⟨3, 1, a1_5.map iC⟩), (6, some ⟨55, 1, [[.fn (.func 52) [] [.ro (.rp (lC_iC a2_0) 0)]]]⟩), (7, some ⟨44, 6, [[.v (.int .i64 0), .v (.int .i64 0), .v (.int .i64 0), .v (.int .i64 0), .v (.slice none 0 0), .v (.slice none 0 0)]]⟩)], 1⟩ ?_ ?_
    · refine w_region (by rfl) (dv1 (l_field fd44_0 rfl) (dv1 (l_load ty3 rfl rfl rfl rfl rfl) (dv1 (l_bin rfl rfl b_eql) (dv1 (l_move (.v _)) ?_))))
      rcases condE hF with ⟨b7, hF⟩ | ⟨b7, hF⟩
      · refine dv1 (l_gF rfl rfl (gt rfl b7) rfl) (dv1 (l_gF rfl rfl (gt rfl b7) rfl) (dv1 (l_gF rfl rfl (gt rfl b7) rfl) (dv1 (l_pickT (gt rfl b7) (.v _)) (dv1 (l_move (.v _)) (dv1 (l_gF rfl rfl rfl rfl) (dv1 (l_gF rfl rfl rfl rfl) (dv1 (l_gF rfl rfl rfl rfl) (dv1 (l_gF rfl rfl rfl rfl) ?_))))))))
        refine dv1 (l_gU rfl rfl rfl) (dv1 (l_gU rfl rfl rfl) (dv1 (l_gU rfl rfl rfl) (dv1 (l_gF rfl rfl rfl rfl) (dv1 (l_pickT rfl (.v _)) (dvE ?_)))))
        cases hF
        refine q_join ?_
        exact (le_of [(3, some 128), (4, some 1), (5, some 2), (6, some 192), (7, some 256), (0, some 0)] rfl (.s (.s (.s (.s (.s (.cons .un (.un _) (.cons .un (.un _) (.cons .un (.un _) .nil))) rfl) rfl) rfl) rfl) rfl) (.box rfl rfl (.s rfl) (.row rfl rfl rfl (clm k_iC _) (.row rfl rfl rfl (clm k_iC _) (.box rfl rfl (.s rfl) (.box rfl rfl (.s rfl) .nil))))))
      · refine dv1 (l_gT rfl rfl (gt rfl b7) fun _ => l_field fd44_0 rfl) (dv1 (l_gT rfl rfl (gt rfl b7) fun _ => l_load ty3 rfl rfl rfl rfl rfl) (dv1 (l_gT rfl rfl (gt rfl b7) fun _ => l_bin rfl rfl b_eql) (dv1 (l_pickF (gt rfl b7) (.v _)) (dv1 (l_move (.v _)) ?_))))
        rcases condE hF with ⟨b8, hF⟩ | ⟨b8, hF⟩
        · refine dv1 (l_gF rfl rfl (gt rfl b8) rfl) (dv1 (l_gF rfl rfl (gt rfl b8) rfl) (dv1 (l_gF rfl rfl (gt rfl b8) rfl) (dv1 (l_gF rfl rfl (gt rfl b8) rfl) (dv1 (l_gU rfl rfl rfl) (dv1 (l_gU rfl rfl rfl) (dv1 (l_gU rfl rfl rfl) (dv1 (l_gF rfl rfl (gt rfl b8) rfl) (dv1 (l_pickT (gt rfl b8) (.v _)) ?_))))))))
          refine dvE ?_
          cases hF
          refine q_join ?_
          exact (le_of [(3, some 128), (4, some 1), (5, some 2), (6, some 192), (7, some 256), (0, some 0)] rfl (.s (.s (.s (.s (.s (.cons .un (.un _) (.cons .un (.un _) (.cons .un (.un _) .nil))) rfl) rfl) rfl) rfl) rfl) (.box rfl rfl (.s rfl) (.row rfl rfl rfl (clm k_iC _) (.row rfl rfl rfl (clm k_iC _) (.box rfl rfl (.s rfl) (.box rfl rfl (.s rfl) .nil))))))
        · refine dv1 (l_gT rfl rfl (gt rfl b8) fun _ => l_field fd44_0 rfl) (dv1 (l_gT rfl rfl (gt rfl b8) fun _ => l_load ty3 rfl rfl rfl rfl rfl) (dv1 (l_gT rfl rfl (gt rfl b8) fun _ => l_bin rfl rfl b_eql) (dv1 (l_gT rfl rfl (gt rfl b8) fun _ => l_move (.v _)) ?_)))
          rcases condE hF with ⟨b9, hF⟩ | ⟨b9, hF⟩
          · refine dv1 (l_gT rfl rfl (gt rfl b9) fun _ => l_field fd31_0 rfl) (dv1 (l_gT rfl rfl (gt rfl b9) fun _ => l_load ty3 rfl rfl rfl rfl rfl) (dv1 (l_gT rfl rfl (gt rfl b9) fun _ => l_bin rfl rfl b_neq) (dv1 (l_gT rfl rfl (gt rfl b8) fun _ => l_pickT (gt rfl b9) (.v _)) (dv1 (l_pickF (gt rfl b8) (.v _)) (dvE ?_)))))
            cases hF
            refine q_join ?_
            exact (le_of [(3, some 128), (4, some 1), (5, some 2), (6, some 192), (7, some 256), (0, some 0)] rfl (.s (.s (.s (.s (.s (.cons .un (.un _) (.cons .un (.un _) (.cons .un (.un _) .nil))) rfl) rfl) rfl) rfl) rfl) (.box rfl rfl (.s rfl) (.row rfl rfl rfl (clm k_iC _) (.row rfl rfl rfl (clm k_iC _) (.box rfl rfl (.s rfl) (.box rfl rfl (.s rfl) .nil))))))
          · refine dv1 (l_gF rfl rfl (gt rfl b9) rfl) (dv1 (l_gF rfl rfl (gt rfl b9) rfl) (dv1 (l_gF rfl rfl (gt rfl b9) rfl) (dv1 (l_gT rfl rfl (gt rfl b8) fun _ => l_pickF (gt rfl b9) (.v _)) (dv1 (l_pickF (gt rfl b8) (.v _)) (dvE ?_)))))
            cases hF
            refine q_join ?_
            exact (le_of [(3, some 128), (4, some 1), (5, some 2), (6, some 192), (7, some 256), (0, some 0)] rfl (.s (.s (.s (.s (.s (.cons .un (.un _) (.cons .un (.un _) (.cons .un (.un _) .nil))) rfl) rfl) rfl) rfl) rfl) (.box rfl rfl (.s rfl) (.row rfl rfl rfl (clm k_iC _) (.row rfl rfl rfl (clm k_iC _) (.box rfl rfl (.s rfl) (.box rfl rfl (.s rfl) .nil))))))
    replace hF := hG6
    rcases condE hF with ⟨b10, hF⟩ | ⟨b10, hF⟩
    · refine w_condT rfl b10 ?_
      refine w_region (by rfl) (dv1 (l_load ty55 rfl rfl rfl rfl rfl) (dv1 (l_field fd44_1 rfl) (dv1 (l_load ty3 rfl rfl rfl rfl rfl) ?_)))
      obtain ⟨y11, h12, hF⟩ := bindE hF
      refine dvC (l_callV (B := false) (caps := [.rp (lC_iC a2_0) 0]) (FnI.mk' (by kernel_rfl)) (.fn _ _ _) (.fn _ rfl) (.cons (.v _) (.one (.v _)) .nil) (p_tidy_named_1_ac h12) (okF p_tidy_named_1_ok)) ?_
      rintro _ rfl
      refine dv1 (l_field fd44_1 rfl) (dvS (l_store ty3 rfl (.v _) rfl rfl rfl (Nat.le_of_ble_eq_true rfl) rfl) (dvE ?_))
      cases hF
      refine q_join ?_
      exact (le_of [(3, some 3), (4, some 4), (5, some 5), (6, some 6), (7, some 7), (0, some 0)] rfl (.s (.s (.s (.s (.cons .un (.un _) (.cons .un (.un _) (.cons .un (.un _) .nil))) rfl) rfl) rfl) rfl) (.box rfl rfl (.s rfl) (.row rfl rfl rfl (clm k_iC _) (.row rfl rfl rfl (clm k_iC _) (.box rfl rfl (.s rfl) (.box rfl rfl (.s rfl) .nil))))))
    · refine w_condF rfl b10 ?_
      refine w_skip ?_
      cases hF
      refine q_join ?_
      exact (le_of [(3, some 3), (4, some 4), (5, some 5), (6, some 6), (7, some 7), (0, some 0)] rfl (.s (.s (.s (.s (.cons .un (.un _) (.cons .un (.un _) (.cons .un (.un _) .nil))) rfl) rfl) rfl) rfl) (.box rfl rfl (.s rfl) (.row rfl rfl rfl (clm k_iC _) (.row rfl rfl rfl (clm k_iC _) (.box rfl rfl (.s rfl) (.box rfl rfl (.s rfl) .nil))))))
  replace hF := hG3
  refine w_seq (w_region (by rfl) (dvG (le_freeze 6 [(6, .ro (.rp [.fn (.func 52) [] [.ro (.rp (lC_iC a2_0) 0)]] 0))] rfl (cl1 (.fn _ (capB_ok rfl)) cl0) (List.forall_mem_cons.2 ⟨⟨0, rfl, rfl⟩, (fun _ h => nomatch h)⟩)) ?_))
  refine dvG (le_wk 6 (c' := .rp [.fn (.func 52) [] [.rp (lC_iC a2_0) 0]] 0) rfl (.rp (.cons (Wk.fn _ (.cons (Wk.ro (Wk.refl _)) .nil)) .nil))) ?_
  refine dv1 (l_fnE (f := 50) (.cons (.ro _) .nil)) (dv1 (l_assign (.fn _ _ _)) (dvE (q_seq ?_)))
  obtain ⟨s15, hF, hG16⟩ := bindE hF
  refine w_seqJ ⟨[(3, .v (.func (.func 21) #[] #[])), (5, .ad 3 6 0 0), (8, .ad 6 6 0 0), (9, .fn (.func 50) [] [.ro (.rp [.fn (.func 52) [] [.rp (lC_iC a2_0) 0]] 0)])], [(3, some ⟨44, 6, [[.v (.int .i64 a1_0), .v (.int .i64 s2), .v (.int .i64 s15.1), .v (.int .i64 a1_3), .rf 4 0 ((s15.2.map iC).length) 1, .rf 5 0 ((a1_5.map iC).length) 1]]⟩), (4, some ⟨3, 1, s15.2.map iC⟩), (5, some ⟨3, 1, a1_5.map iC⟩), (6, some ⟨44, 6, [[.v (.int .i64 0), .v (.int .i64 0), .v (.int .i64 0), .v (.int .i64 0), .v (.slice none 0 0), .v (.slice none 0 0)]]⟩)], 1⟩ ?_ ?_
  · obtain ⟨s18, hF, hG19⟩ := bindE hF
    refine w_seqJ ⟨[(3, .v (.func (.func 21) #[] #[])), (5, .ad 3 6 0 0), (8, .ad 6 6 0 0), (9, .fn (.func 50) [] [.ro (.rp [.fn (.func 52) [] [.rp (lC_iC a2_0) 0]] 0)]), (41, .v (.bool s18))], [(3, some ⟨44, 6, [[.v (.int .i64 a1_0), .v (.int .i64 s2), .v (.int .i64 a1_2), .v (.int .i64 a1_3), .rf 4 0 ((a1_4.map iC).length) 1, .rf 5 0 ((a1_5.map iC).length) 1]]⟩), (4, some ⟨3, 1, a1_4.map iC⟩), (5, some ⟨3, 1, a1_5.map iC⟩), (6, some ⟨44, 6, [[.v (.int .i64 0), .v (.int .i64 0), .v (.int .i64 0), .v (.int .i64 0), .v (.slice none 0 0), .v (.slice none 0 0)]]⟩)], 1⟩ ?_ ?_
    · refine w_region (by rfl) (dv1 (l_field fd44_0 rfl) (dv1 (l_load ty3 rfl rfl rfl rfl rfl) (dv1 (l_bin rfl rfl b_eql) (dv1 (l_move (.v _)) ?_))))
      rcases condE hF with ⟨b20, hF⟩ | ⟨b20, hF⟩
      · refine dv1 (l_gF rfl rfl (gt rfl b20) rfl) (dv1 (l_gF rfl rfl (gt rfl b20) rfl) (dv1 (l_gF rfl rfl (gt rfl b20) rfl) (dv1 (l_pickT (gt rfl b20) (.v _)) (dvE ?_))))
        cases hF
        refine q_join ?_
        exact (le_of [(3, some 3), (4, some 4), (5, some 5), (6, some 7), (0, some 0)] rfl (.s (.s (.s (.s (.s .nil rfl) rfl) rfl) rfl) rfl) (.box rfl rfl (.s rfl) (.row rfl rfl rfl (clm k_iC _) (.row rfl rfl rfl (clm k_iC _) (.box rfl rfl (.s rfl) .nil)))))
      · refine dv1 (l_gT rfl rfl (gt rfl b20) fun _ => l_field fd44_0 rfl) (dv1 (l_gT rfl rfl (gt rfl b20) fun _ => l_load ty3 rfl rfl rfl rfl rfl) (dv1 (l_gT rfl rfl (gt rfl b20) fun _ => l_bin rfl rfl b_eql) (dv1 (l_pickF (gt rfl b20) (.v _)) (dvE ?_))))
        cases hF
        refine q_join ?_
        exact (le_of [(3, some 3), (4, some 4), (5, some 5), (6, some 7), (0, some 0)] rfl (.s (.s (.s (.s (.s .nil rfl) rfl) rfl) rfl) rfl) (.box rfl rfl (.s rfl) (.row rfl rfl rfl (clm k_iC _) (.row rfl rfl rfl (clm k_iC _) (.box rfl rfl (.s rfl) .nil)))))
    replace hF := hG19
    rcases condE hF with ⟨b21, hF⟩ | ⟨b21, hF⟩
    · refine w_condT rfl b21 ?_
      refine w_draw [[], [], [1], [0, 1, 2], [], [], [5], [0, 1, 2, 3, 4, 5, 6], [0, 1, 2, 3, 5, 6], [0, 1, 2, 3, 4, 5, 6, 7, 8], [0, 1, 2, 3, 4, 5, 6, 7, 8, 9], [0, 1, 2, 3, 4, 5, 6, 7, 8, 9, 10]] [0, 1, 2, 4, 5, 6, 3, 8, 7, 9, 10, 11] (by kernel_rfl) (by rfl) ⟨by decide, by rfl⟩ (by rfl) ?_
      refine de1 rfl (l_move (.v _)) rfl (de1 rfl (l_field fd44_2 rfl) rfl (de1 rfl (l_load ty3 rfl rfl rfl rfl rfl) rfl (de1 rfl (l_move (.fn _ _ _)) rfl (de1 rfl (l_field fd44_4 rfl) rfl (de1 rfl (l_load ty27 rfl rfl rfl rfl rfl) rfl ?_)))))
      obtain ⟨y22, h23, hF⟩ := bindE hF
      refine deC1 rfl (l_callV (B := false) (caps := []) (FnI.mk' (by kernel_rfl)) (.v _) (.c0 _) (.cons (.v _) (.one (.v _)) .nil) (p_tidy_itself_ac h23) (okF p_tidy_itself_ok)) rfl ?_
      refine de1 rfl (l_field fd44_2 rfl) rfl ?_
      obtain ⟨y24, h25, hF⟩ := bindE hF
      refine deC1 rfl (l_callV (B := true) (caps := [.rp [.fn (.func 52) [] [.rp (lC_iC a2_0) 0]] 0]) (FnI.mk' (by kernel_rfl)) (.fn _ _ _) (.fn _ rfl) (.cons (.rf _ _ _ _) (.one (.rf rfl rfl rfl (clm k_iC _))) .nil) (p_tidy_end_1_ac h25) (okT p_tidy_end_1_ok)) rfl ?_
      refine deS rfl (l_store ty3 rfl (.v _) rfl rfl rfl (Nat.le_of_ble_eq_true rfl) rfl) rfl (de1 rfl (l_field fd44_4 rfl) rfl (deS rfl (l_store ty27 rfl (.rf _ _ _ _) rfl rfl rfl (Nat.le_of_ble_eq_true rfl) rfl) rfl (ddE ?_)))
      cases hF
      refine q_join ?_
      exact (le_of [(3, some 3), (4, some 576), (5, some 5), (6, some 6), (0, some 0)] rfl (.s (.s (.s (.s .nil rfl) rfl) rfl) rfl) (.box rfl rfl (.s rfl) (.row rfl rfl rfl (clm k_iC _) (.row rfl rfl rfl (clm k_iC _) (.box rfl rfl (.s rfl) .nil)))))
    · refine w_condF rfl b21 ?_
      refine w_skip ?_
      cases hF
      refine q_join ?_
      exact (le_of [(3, some 3), (4, some 4), (5, some 5), (6, some 6), (0, some 0)] rfl (.s (.s (.s (.s .nil rfl) rfl) rfl) rfl) (.box rfl rfl (.s rfl) (.row rfl rfl rfl (clm k_iC _) (.row rfl rfl rfl (clm k_iC _) (.box rfl rfl (.s rfl) .nil)))))
  replace hF := hG16
  obtain ⟨s28, hF, hG29⟩ := bindE hF
  refine w_seqJ ⟨[(5, .ad 3 6 0 0), (8, .ad 6 6 0 0)], [(3, some ⟨44, 6, [[.v (.int .i64 a1_0), .v (.int .i64 s2), .v (.int .i64 s15.1), .v (.int .i64 s28.1), .rf 4 0 ((s15.2.map iC).length) 1, .rf 5 0 ((s28.2.map iC).length) 1]]⟩), (4, some ⟨3, 1, s15.2.map iC⟩), (5, some ⟨3, 1, s28.2.map iC⟩), (6, some ⟨44, 6, [[.v (.int .i64 0), .v (.int .i64 0), .v (.int .i64 0), .v (.int .i64 0), .v (.slice none 0 0), .v (.slice none 0 0)]]⟩)], 1⟩ ?_ ?_
  · refine w_seq (w_region (by rfl) (dv1 (l_field fd44_0 rfl) (dv1 (l_load ty3 rfl rfl rfl rfl rfl) (dv1 (l_bin rfl rfl b_eql) (dvE (q_seq ?_))))))
    rcases condE hF with ⟨b30, hF⟩ | ⟨b30, hF⟩
    · refine w_condT rfl b30 ?_
      refine w_draw [[], [], [1], [0, 1, 2], [], [], [5], [0, 1, 2, 3, 4, 5, 6], [0, 1, 2, 3, 5, 6], [0, 1, 2, 3, 4, 5, 6, 7, 8], [0, 1, 2, 3, 4, 5, 6, 7, 8, 9], [0, 1, 2, 3, 4, 5, 6, 7, 8, 9, 10]] [0, 1, 2, 4, 5, 6, 3, 8, 7, 9, 10, 11] (by kernel_rfl) (by rfl) ⟨by decide, by rfl⟩ (by rfl) ?_
      refine de1 rfl (l_move (.v _)) rfl (de1 rfl (l_field fd44_3 rfl) rfl (de1 rfl (l_load ty3 rfl rfl rfl rfl rfl) rfl (de1 rfl (l_move (.fn _ _ _)) rfl (de1 rfl (l_field fd44_5 rfl) rfl (de1 rfl (l_load ty27 rfl rfl rfl rfl rfl) rfl ?_)))))
      obtain ⟨y31, h32, hF⟩ := bindE hF
      refine deC1 rfl (l_callV (B := false) (caps := []) (FnI.mk' (by kernel_rfl)) (.v _) (.c0 _) (.cons (.v _) (.one (.v _)) .nil) (p_tidy_itself_ac h32) (okF p_tidy_itself_ok)) rfl ?_
      refine de1 rfl (l_field fd44_3 rfl) rfl ?_
      obtain ⟨y33, h34, hF⟩ := bindE hF
      refine deC1 rfl (l_callV (B := true) (caps := [.rp [.fn (.func 52) [] [.rp (lC_iC a2_0) 0]] 0]) (FnI.mk' (by kernel_rfl)) (.fn _ _ _) (.fn _ rfl) (.cons (.rf _ _ _ _) (.one (.rf rfl rfl rfl (clm k_iC _))) .nil) (p_tidy_end_1_ac h34) (okT p_tidy_end_1_ok)) rfl ?_
      refine deS rfl (l_store ty3 rfl (.v _) rfl rfl rfl (Nat.le_of_ble_eq_true rfl) rfl) rfl (de1 rfl (l_field fd44_5 rfl) rfl (deS rfl (l_store ty27 rfl (.rf _ _ _ _) rfl rfl rfl (Nat.le_of_ble_eq_true rfl) rfl) rfl (ddE ?_)))
      cases hF
      refine q_join ?_
      exact (le_of [(3, some 3), (4, some 4), (5, some 768), (6, some 6), (0, some 0)] rfl (.s (.s .nil rfl) rfl) (.box rfl rfl (.s rfl) (.row rfl rfl rfl (clm k_iC _) (.row rfl rfl rfl (clm k_iC _) (.box rfl rfl (.s rfl) .nil)))))
    · refine w_condF rfl b30 ?_
      refine w_skip ?_
      cases hF
      refine q_join ?_
      exact (le_of [(3, some 3), (4, some 4), (5, some 5), (6, some 6), (0, some 0)] rfl (.s (.s .nil rfl) rfl) (.box rfl rfl (.s rfl) (.row rfl rfl rfl (clm k_iC _) (.row rfl rfl rfl (clm k_iC _) (.box rfl rfl (.s rfl) .nil)))))
  replace hF := hG29
  refine w_seq (w_region (by rfl) (dv1 (l_loadA ty44 rfl rfl rfl rfl rfl) (dvS (l_store ty44 rfl (.ag _) rfl rfl rfl (Nat.le_of_ble_eq_true rfl) rfl) (dvE (q_seq (w_ret ?_))))))
  cases hF
  refine q_endS (.inr rfl) ?_
  exact ⟨_, _, ret_okK rfl (.cons (.cellA ty44 rfl rfl rfl (.cons (.of (.v _)) (.cons (.of (.v _)) (.cons (.of (.v _)) (.cons (.of (.v _)) (.cons (.of (.rf rfl rfl (clm k_iC _))) (.cons (.of (.rf rfl rfl (clm k_iC _))) .nil))))))) .nil) (by decide) ⟨rfl, rfl⟩, gb0⟩

def p_tidy_renamed_s1 (a0 : MFun) (a1 : List Int) : Option MFun :=
((p_tidy_own a0).bind fun y14066 =>
(((loop (fun (s18071 : (List MBlk) × Int) =>
(bif decide (s18071.2 < ((y14066.Blocks.length : Nat) : Int)) then
((((atI s18071.1 s18071.2).bind fun x18079 =>
(((loop (fun (s21084 : (List MBlk) × Int) =>
(bif decide (s21084.2 < ((x18079.Ops.length : Nat) : Int)) then
((s21084.1[s18071.2.toNat]?).bind fun x21089 =>
((x21089.Ops[s21084.2.toNat]?).bind fun x21091 =>
((atI x21089.Ops s21084.2).bind fun x21093 =>
((p_kind_Renamed x21091 a1).bind fun y21095 =>
some (Xt.go ((s21084.1.set s18071.2.toNat (⟨x21089.Params, (x21089.Ops.set s21084.2.toNat y21095), x21089.End⟩ : MBlk)), IntKind.i64.wrap (s21084.2 + 1)))))))
else
some (Xt.out s21084.1))) Fu ((s18071.1.set s18071.2.toNat x18079), 0))).bind fun (s18082 : (List MBlk)) =>
((s18082[s18071.2.toNat]?).bind fun x21097 =>
((p_tidy_named a1).bind fun y21099 =>
((p_tidy_end_t1 y14066.Ret x21097.End.K x21097.End.A x21097.End.To x21097.End.Else x21097.End.L x21097.End.M y21099).bind fun y21101 =>
some (s18082.set s18071.2.toNat (⟨x21097.Params, x21097.Ops, y21101⟩ : MBlk)))))))).bind fun (s18077 : (List MBlk)) =>
some (Xt.go (s18077, IntKind.i64.wrap (s18071.2 + 1))))
else
some (Xt.out s18071.1))) Fu (y14066.Blocks, 0))).bind fun (s14069 : (List MBlk)) =>
some (⟨y14066.Ret, s14069⟩ : MFun)))

theorem p_tidy_renamed_s1_ok {r : MFun} : rOk (.ag (MFun.ct r)) = true ∧ FrT (.ag (MFun.ct r)) := ⟨rfl, (.one (.ag (k_MFunct _)))⟩

set_option maxRecDepth 10000 in
set_option maxHeartbeats 4000000 in
theorem p_tidy_renamed_s1_ac {a0 : MFun} {a1 : List Int} {r : MFun} (hF : p_tidy_renamed_s1 a0 a1 = some r) : AC Tryd.prog GT 20 [.ag (MFun.ct a0), .sl 3 1 (a1.map iC), .v (.func (.func 21) #[] #[])] (fun c => c = .ag (MFun.ct r)) := by
  unfold p_tidy_renamed_s1 at hF
  refine AC.mk (nt := 60) Tryd.func20 rfl rfl rfl fun w N => ?_
  refine w_seq (w_region (by rfl) (dvN (l_box (.ag _) rfl rfl) (dvN (l_alloc zt31) (dvE (q_seq (w_seq (w_region (by rfl) (dv1 (l_loadA ty31 rfl rfl rfl rfl rfl) ?_))))))))
  obtain ⟨y14066, h14067, hF⟩ := bindE hF
  refine dvC (l_call (B := false) (FnI.mk' (by kernel_rfl)) (.cons (.ag _) (.ag (.cons (.v _) (.cons (.ro _) .nil))) .nil) (p_tidy_own_ac h14067) (okF p_tidy_own_ok)) ?_
  rintro _ rfl
  refine dvS (l_store ty31 rfl (.ag _) rfl rfl rfl (Nat.le_of_ble_eq_true rfl) rfl) (dvE (q_seq ?_))
  obtain ⟨s14069, hF, hG14070⟩ := bindE hF
  refine w_seqJ ⟨[(3, .ad 0 2 0 0), (6, .ad 2 2 0 0)], [(0, some ⟨31, 2, [[.v (.int .i64 y14066.Ret), .rf 1 0 ((s14069.map MBlk.ct).length) 8]]⟩), (1, some ⟨47, 8, s14069.map MBlk.ct⟩), (2, some ⟨31, 2, [[.v (.int .i64 0), .v (.slice none 0 0)]]⟩)], 1⟩ ?_ ?_
  · refine w_seq (w_region (by rfl) (dv1 (l_field fd31_1 rfl) (dv1 (l_load ty29 rfl rfl rfl rfl rfl) (dv1 (l_lenR sl29 rfl rfl (List.length_map _)) (dv1 (l_move (.v _)) (dvE (q_seq (w_block ?_))))))))
    refine w_loopF hF (fun (s18071 : (List MBlk) × Int) => ⟨[(1, .ro (.sl 3 1 (a1.map iC))), (2, .v (.func (.func 21) #[] #[])), (3, .ad 0 2 0 0), (6, .ad 2 2 0 0), (14, .v (.int .i64 ((y14066.Blocks.length : Nat) : Int))), (15, .v (.int .i64 s18071.2))], [(0, some ⟨31, 2, [[.v (.int .i64 y14066.Ret), .rf 1 0 ((s18071.1.map MBlk.ct).length) 8]]⟩), (1, some ⟨47, 8, s18071.1.map MBlk.ct⟩), (2, some ⟨31, 2, [[.v (.int .i64 0), .v (.slice none 0 0)]]⟩)], 1⟩) (le_of [(0, some 0), (1, some 193), (2, some 64)] rfl (.s (.s (.s (.s (.s (.s .nil rfl) rfl) rfl) rfl) rfl) rfl) (.box rfl rfl (.s rfl) (.row rfl rfl rfl (clm k_MBlkct _) (.box rfl rfl (.s rfl) .nil)))) ?_
    intro s18071 y18072 hF hx18073
    refine w_seq (w_region (by rfl) (dv1 (l_bin rfl rfl b_lss) (dvE (q_seq (w_seq ?_)))))
    rcases condE hF with ⟨b18075, hF⟩ | ⟨b18075, hF⟩
    · refine w_condT rfl b18075 ?_
      refine w_skip (q_seq ?_)
      obtain ⟨s18077, hF, hG18078⟩ := bindE hF
      refine w_seqJ ⟨[(1, .ro (.sl 3 1 (a1.map iC))), (2, .v (.func (.func 21) #[] #[])), (3, .ad 0 2 0 0), (6, .ad 2 2 0 0), (14, .v (.int .i64 ((y14066.Blocks.length : Nat) : Int))), (15, .v (.int .i64 s18071.2))], [(0, some ⟨31, 2, [[.v (.int .i64 y14066.Ret), .rf 1 0 ((s18077.map MBlk.ct).length) 8]]⟩), (1, some ⟨47, 8, s18077.map MBlk.ct⟩), (2, some ⟨31, 2, [[.v (.int .i64 0), .v (.slice none 0 0)]]⟩)], 1⟩ ?_ ?_
      · refine w_block (w_seq (w_region (by rfl) (dv1 (l_move (.v _)) (dv1 (l_assign (.v _)) (dvE (q_seq (w_seq (w_region (by rfl) ?_))))))))
        refine dv1 (l_field fd31_1 rfl) (dv1 (l_load ty29 rfl rfl rfl rfl rfl) (dv1 (l_move (.v _)) ?_))
        obtain ⟨x18079, h18080, hF⟩ := bindE hF
        refine dv1 (l_index s18071.2.toNat sl29 rfl rfl (atI_z h18080) (lt_at MBlk.ct (atI_at h18080))) (dv1 (l_assign (.ad _ _ _ _)) (dvE (q_seq ?_)))
        obtain ⟨s18082, hF, hG18083⟩ := bindE hF
        refine w_seqJ ⟨[(1, .ro (.sl 3 1 (a1.map iC))), (2, .v (.func (.func 21) #[] #[])), (3, .ad 0 2 0 0), (6, .ad 2 2 0 0), (8, .ad 1 8 s18071.2.toNat 0), (14, .v (.int .i64 ((y14066.Blocks.length : Nat) : Int))), (15, .v (.int .i64 s18071.2))], [(0, some ⟨31, 2, [[.v (.int .i64 y14066.Ret), .rf 1 0 ((s18082.map MBlk.ct).length) 8]]⟩), (1, some ⟨47, 8, s18082.map MBlk.ct⟩), (2, some ⟨31, 2, [[.v (.int .i64 0), .v (.slice none 0 0)]]⟩)], 1⟩ ?_ ?_
        · refine w_seq (w_region (by rfl) (dv1 (l_move (.ad _ _ _ _)) (dv1 (l_nil rfl) (dv1 (l_field fd47_1 rfl) (dvG (le_open 1 s18071.2.toNat rfl (map_at (atI_at h18080)) rfl) ?_)))))
          refine dv1 (l_load ty45 rfl rfl (set_at (atI_at h18080)) rfl rfl) (dv1 (l_lenR sl45 rfl rfl (List.length_map _)) (dv1 (l_move (.v _)) (dvE (q_seq (w_block (W.le (le_closeR 1 s18071.2.toNat rfl (set_at (atI_at h18080)) (.cons (.of (.rf rfl rfl (clm k_iC _))) (.cons (.of (.rf rfl rfl (clm k_MOpct _))) (.cons (.of (.v _)) (.cons (.of (.v _)) (.cons (.of (.v _)) (.cons (.of (.v _)) (.cons (.of (.rf rfl rfl (clm k_iC _))) (.cons (.of (.rf rfl rfl (clm k_iC _))) .nil)))))))) (by decide) (by decide) rfl (set_cl MBlk.ct _ _ _ x18079)) ?_))))))
          refine w_loopF hF (fun (s21084 : (List MBlk) × Int) => ⟨[(1, .ro (.sl 3 1 (a1.map iC))), (2, .v (.func (.func 21) #[] #[])), (3, .ad 0 2 0 0), (6, .ad 2 2 0 0), (8, .ad 1 8 s18071.2.toNat 0), (14, .v (.int .i64 ((y14066.Blocks.length : Nat) : Int))), (15, .v (.int .i64 s18071.2)), (26, .v (.int .i64 ((x18079.Ops.length : Nat) : Int))), (27, .v (.int .i64 s21084.2))], [(0, some ⟨31, 2, [[.v (.int .i64 y14066.Ret), .rf 1 0 ((s21084.1.map MBlk.ct).length) 8]]⟩), (1, some ⟨47, 8, s21084.1.map MBlk.ct⟩), (2, some ⟨31, 2, [[.v (.int .i64 0), .v (.slice none 0 0)]]⟩)], 1⟩) (le_of [(0, some 0), (1, some 1), (2, some 2)] rfl (.s (.s (.s (.s (.s (.s (.s (.s (.s .nil rfl) rfl) rfl) rfl) rfl) rfl) rfl) rfl) rfl) (.box rfl rfl (.cons (.v rfl) (.cons (.rf rfl (by simp)) .nil)) (.row rfl rfl rfl (clm k_MBlkct _) (.box rfl rfl (.s rfl) .nil)))) ?_
          intro s21084 y21085 hF hx21086
          refine w_seq (w_region (by rfl) (dv1 (l_bin rfl rfl b_lss) (dvE (q_seq (w_seq ?_)))))
          rcases condE hF with ⟨b21088, hF⟩ | ⟨b21088, hF⟩
          · refine w_condT rfl b21088 ?_
            refine w_skip (q_seq (w_seq (w_block (w_seq (w_region (by rfl) (dv1 (l_move (.v _)) (dv1 (l_assign (.v _)) (dvE ?_))))))))
            refine q_seq ?_
            obtain ⟨x21089, h21090, hF⟩ := bindE hF
            refine W.le (le_open 1 s18071.2.toNat rfl (map_at h21090) rfl) ?_
            obtain ⟨x21091, h21092, hF⟩ := bindE hF
            refine W.le (le_open 257 s21084.2.toNat rfl (map_at h21092) rfl) ?_
            refine w_draw [[], [0], [0, 1], [0, 1, 2], [], [], [5], [5, 6], [5, 6, 7], [], [5, 6, 7, 8, 9], [5, 6, 7, 8, 9, 10], [], [5, 6, 7, 8, 9, 10, 11, 12], [0, 1, 2, 3, 4, 5, 6, 7, 8, 9, 10, 11, 12, 13], [0, 1, 2, 3, 4, 5, 6, 7, 8, 9, 10, 11, 12, 13, 14]] [0, 1, 2, 3, 4, 5, 6, 7, 8, 9, 10, 11, 12, 13, 14, 15] (by kernel_rfl) (by rfl) ⟨by decide, by rfl⟩ (by rfl) ?_
            refine de1 rfl (l_move (.ad _ _ _ _)) rfl (de1 rfl (l_nil rfl) rfl (de1 rfl (l_field fd47_1 rfl) rfl (de1 rfl (l_load ty45 rfl rfl (set_at h21090) rfl rfl) rfl (de1 rfl (l_move (.v _)) rfl (de1 rfl (l_move (.ad _ _ _ _)) rfl (de1 rfl (l_nil rfl) rfl (de1 rfl (l_field fd47_1 rfl) rfl (de1 rfl (l_load ty45 rfl rfl (set_at h21090) rfl rfl) rfl ?_))))))))
            refine de1 rfl (l_move (.v _)) rfl ?_
            obtain ⟨x21093, h21094, hF⟩ := bindE hF
            refine de1 rfl (l_index s21084.2.toNat sl45 rfl rfl (atI_z h21094) (lt_at MOp.ct (atI_at h21094))) rfl (de1 rfl (l_loadA ty49 rfl rfl (set_at h21092) rfl rfl) rfl (de1 rfl (l_move (.ro _)) rfl ?_))
            obtain ⟨y21095, h21096, hF⟩ := bindE hF
            refine deC1 rfl (l_call (B := true) (FnI.mk' (by kernel_rfl)) (.cons (.ag _) (.ag (.cons (.v _) (.cons (.v _) (.cons (.v _) (.cons (.v _) (.cons (.v _) (.cons (.v _) (.cons (.rf rfl rfl rfl (clm k_iC _)) (.cons (.v _) .nil))))))))) (.cons (.ro _) (.one (.ro _)) .nil)) (p_kind_Renamed_ac h21096) (okT p_kind_Renamed_ok)) rfl ?_
            refine de1 rfl (l_index s21084.2.toNat sl45 rfl rfl (atI_z h21094) (lt_at MOp.ct (atI_at h21094))) rfl (deS rfl (l_storeR ty49 rfl (.ag _) rfl (set_at h21092) rfl (Nat.le_of_ble_eq_true rfl) rfl (List.set_set ..)) rfl (ddE (q_in (q_seq (w_region (by rfl) (dv1 (l_bin rfl rfl (b_add rfl)) (dv1 (l_move (.v _)) (dvE ?_))))))))
            cases hF
            refine qL rfl ?_
            refine St.le.trans (le_closeR 257 s21084.2.toNat rfl (set_at h21092) (.cons (.of (.v _)) (.cons (.of (.v _)) (.cons (.of (.v _)) (.cons (.of (.v _)) (.cons (.of (.v _)) (.cons (.of (.v _)) (.cons (.of (.rf rfl rfl (clm k_iC _))) (.cons (.of (.v _)) .nil)))))))) (by decide) (by decide) rfl (set_cl MOp.ct _ _ _ y21095)) ?_
            refine St.le.trans (le_closeR 1 s18071.2.toNat rfl (set_at h21090) (.cons (.of (.rf rfl rfl (clm k_iC _))) (.cons (.of (.rf rfl (by simp) (clm k_MOpct _))) (.cons (.of (.v _)) (.cons (.of (.v _)) (.cons (.of (.v _)) (.cons (.of (.v _)) (.cons (.of (.rf rfl rfl (clm k_iC _))) (.cons (.of (.rf rfl rfl (clm k_iC _))) .nil)))))))) (by decide) (by decide) rfl (set_cl MBlk.ct _ _ _ (⟨x21089.Params, (x21089.Ops.set s21084.2.toNat y21095), x21089.End⟩ : MBlk))) ?_
            exact (le_of [(0, some 0), (1, some 1), (2, some 2)] rfl (.s (.s (.s (.s (.s (.s (.s (.s (.s .nil rfl) rfl) rfl) rfl) rfl) rfl) rfl) rfl) rfl) (.box rfl rfl (.cons (.v rfl) (.cons (.rf rfl (by simp)) .nil)) (.row rfl rfl rfl (clm k_MBlkct _) (.box rfl rfl (.s rfl) .nil))))
          · refine w_condF rfl b21088 ?_
            refine w_exit ?_
            cases hF
            cases hx21086 _ rfl
            refine q_exS (q_exS (q_here (q_join ?_)))
            exact (le_of [(0, some 0), (1, some 1), (2, some 2)] rfl (.s (.s (.s (.s (.s (.s (.s .nil rfl) rfl) rfl) rfl) rfl) rfl) rfl) (.box rfl rfl (.s rfl) (.row rfl rfl rfl (clm k_MBlkct _) (.box rfl rfl (.s rfl) .nil))))
        replace hF := hG18083
        obtain ⟨x21097, h21098, hF⟩ := bindE hF
        refine W.le (le_open 1 s18071.2.toNat rfl (map_at h21098) rfl) ?_
        refine w_draw [[], [], [], [2], [2, 3], [2, 3, 4], [], [6], [], [1, 2, 3, 4, 5, 6, 7, 8], [0, 1, 2, 3, 4, 5, 6, 7, 8, 9], [0, 1, 2, 3, 4, 5, 6, 7, 8, 9, 10], [0, 1, 2, 3, 4, 5, 6, 7, 8, 9, 10, 11]] [0, 1, 2, 3, 4, 5, 6, 8, 7, 9, 10, 11, 12] (by kernel_rfl) (by rfl) ⟨by decide, by rfl⟩ (by rfl) ?_
        refine de1 rfl (l_move (.ad _ _ _ _)) rfl (de1 rfl (l_loadA ty31 rfl rfl rfl rfl rfl) rfl (de1 rfl (l_move (.ad _ _ _ _)) rfl (de1 rfl (l_nil rfl) rfl (de1 rfl (l_field fd47_2 rfl) rfl (de1 rfl (l_loadA ty44 rfl rfl (set_at h21098) rfl rfl) rfl (de1 rfl (l_move (.ro _)) rfl (de1 rfl (l_move (.v _)) rfl ?_)))))))
        obtain ⟨y21099, h21100, hF⟩ := bindE hF
        refine deC1 rfl (l_call (B := false) (FnI.mk' (by kernel_rfl)) (.cons (.ro _) (.one (.ro _)) .nil) (p_tidy_named_ac h21100) (okF p_tidy_named_ok)) rfl ?_
        obtain ⟨y21101, h21102, hF⟩ := bindE hF
        refine deK rfl (l_callS [(1, some 70), (2, some 71)] [(0, some 1), (1, some 70), (2, some 71)] (by rfl) (by rfl) (by rfl) (by rfl) (by rfl) (FnI.mk' (by kernel_rfl)) (.ag (.ag _) (.cons (.v rfl) (.cons (.rf rfl rfl) .nil)) (.ag (.ag _) (.cons (.v rfl) (.cons (.v rfl) (.cons (.v rfl) (.cons (.v rfl) (.cons (.rf rfl rfl) (.cons (.rf rfl rfl) .nil)))))) (.cons (.fn _ _ _) (.fn rfl (capB_ok rfl)) (.cons (.v _) (.v rfl) .nil)))) (.row rfl rfl rfl (clm k_iC _) (.row rfl rfl rfl (clm k_iC _) .nil)) (p_tidy_end_t1_sc h21102) (okS (p_tidy_end_t1_sok (r := y21101)))) rfl ?_
        refine de1 rfl (l_nil rfl) rfl (de1 rfl (l_field fd47_2 rfl) rfl (deS rfl (l_storeR ty44 rfl (.ag _) rfl (set_at h21098) rfl (Nat.le_of_ble_eq_true rfl) rfl (List.set_set ..)) rfl (ddE ?_)))
        cases hF
        refine q_in (q_join ?_)
        refine St.le.trans (le_closeR 1 s18071.2.toNat rfl (set_at h21098) (.cons (.of (.rf rfl rfl (clm k_iC _))) (.cons (.of (.rf rfl rfl (clm k_MOpct _))) (.cons (.of (.v _)) (.cons (.of (.v _)) (.cons (.of (.v _)) (.cons (.of (.v _)) (.cons (.of (.rf rfl rfl (clm k_iC _))) (.cons (.of (.rf rfl rfl (clm k_iC _))) .nil)))))))) (by decide) (by decide) rfl (set_cl MBlk.ct _ _ _ (⟨x21097.Params, x21097.Ops, y21101⟩ : MBlk))) ?_
        exact (le_of [(0, some 0), (1, some 1), (2, some 2)] rfl (.s (.s (.s (.s (.s (.s .nil rfl) rfl) rfl) rfl) rfl) rfl) (.box rfl rfl (.cons (.v rfl) (.cons (.rf rfl (by simp)) .nil)) (.row rfl rfl rfl (clm k_MBlkct _) (.box rfl rfl (.s rfl) .nil))))
      replace hF := hG18078
      refine w_region (by rfl) (dv1 (l_bin rfl rfl (b_add rfl)) (dv1 (l_move (.v _)) (dvE ?_)))
      cases hF
      refine qL rfl ?_
      exact (le_of [(0, some 0), (1, some 1), (2, some 2)] rfl (.s (.s (.s (.s (.s (.s .nil rfl) rfl) rfl) rfl) rfl) rfl) (.box rfl rfl (.s rfl) (.row rfl rfl rfl (clm k_MBlkct _) (.box rfl rfl (.s rfl) .nil))))
    · refine w_condF rfl b18075 ?_
      refine w_exit ?_
      cases hF
      cases hx18073 _ rfl
      refine q_exS (q_exS (q_here (q_join ?_)))
      exact (le_of [(0, some 0), (1, some 1), (2, some 2)] rfl (.s (.s .nil rfl) rfl) (.box rfl rfl (.s rfl) (.row rfl rfl rfl (clm k_MBlkct _) (.box rfl rfl (.s rfl) .nil))))
  replace hF := hG14070
  refine w_seq (w_region (by rfl) (dv1 (l_loadA ty31 rfl rfl rfl rfl rfl) (dvS (l_store ty31 rfl (.ag _) rfl rfl rfl (Nat.le_of_ble_eq_true rfl) rfl) (dvE (q_seq (w_ret ?_))))))
  cases hF
  refine q_end (.inr rfl) ?_
  exact ret_ok rfl (.cons (.cellA ty31 rfl rfl rfl (.cons (.of (.v _)) (.cons (.of (.rf rfl rfl (clm k_MBlkct _))) .nil))) .nil) (by decide) rfl

def p_tidy_merged_1 (a0 : Int) (c0 : Int) : Option Int :=
(bif decide (a0 = c0) then
some (-1)
else
(bif decide (c0 < a0) then
some (IntKind.i64.wrap (a0 - 1))
else
some a0))

theorem p_tidy_merged_1_ok {r : Int} : rOk (.v (.int .i64 r)) = true ∧ FrT (.v (.int .i64 r)) := ⟨rfl, (.one (.cl (.v _)))⟩

set_option maxRecDepth 10000 in
set_option maxHeartbeats 4000000 in
theorem p_tidy_merged_1_ac {a0 : Int} {c0 : Int} {r : Int} (hF : p_tidy_merged_1 a0 c0 = some r) : AC Tryd.prog GT 59 [.v (.int .i64 a0), .rp (iC c0) 0] (fun c => c = .v (.int .i64 r)) := by
  unfold p_tidy_merged_1 at hF
  refine AC.mk (nt := 15) Tryd.func59 rfl rfl rfl fun w N => ?_
  refine w_seq (w_region (by rfl) (dv1 (l_assign (.v _)) (dvE (q_seq (w_seq (w_block (w_seq (w_region (by rfl) ?_))))))))
  refine dv1 (l_move (.v _)) (dv1 (l_loadRo ty3 rfl rfl) (dv1 (l_bin rfl rfl b_eql) (dv1 (l_assign (.v _)) (dvE (q_seq ?_)))))
  rcases condE hF with ⟨b28155, hF⟩ | ⟨b28155, hF⟩
  · refine w_condT rfl b28155 ?_
    refine w_seq (w_region (by rfl) (dv1 (l_assign (.v _)) (dvE (q_seq (w_ret (q_reI (q_reS ?_)))))))
    cases hF
    refine q_end (.inr rfl) ?_
    exact ret_ok rfl (.cons (.tmp (.v _) (.v _)) .nil) (by decide) rfl
  · refine w_condF rfl b28155 ?_
    refine w_seq (w_region (by rfl) (dv1 (l_move (.v _)) (dv1 (l_loadRo ty3 rfl rfl) (dv1 (l_bin rfl rfl b_gtr) (dv1 (l_assign (.v _)) (dvE (q_seq ?_)))))))
    rcases condE hF with ⟨b28156, hF⟩ | ⟨b28156, hF⟩
    · refine w_condT rfl b28156 ?_
      refine w_seq (w_region (by rfl) (dv1 (l_move (.v _)) (dv1 (l_bin rfl rfl (b_sub rfl)) (dv1 (l_assign (.v _)) (dvE (q_seq (w_ret (q_reI ?_))))))))
      refine q_reS ?_
      cases hF
      refine q_end (.inr rfl) ?_
      exact ret_ok rfl (.cons (.tmp (.v _) (.v _)) .nil) (by decide) rfl
    · refine w_condF rfl b28156 ?_
      refine w_skip (q_in (q_seq (w_seq (w_region (by rfl) (dv1 (l_move (.v _)) (dv1 (l_assign (.v _)) (dvE (q_seq ?_))))))))
      refine w_ret ?_
      cases hF
      refine q_end (.inr rfl) ?_
      exact ret_ok rfl (.cons (.tmp (.v _) (.v _)) .nil) (by decide) rfl
end Go.Proofs.YtbebdcpakjfgdaaDoor

