/- Functions (printed by wip/auto/am.py). -/
import Derived.Test.YtbebdcpakjfgdaaDoorFC1
namespace Go.Proofs.YtbebdcpakjfgdaaDoor
open Go Go.RowKit

def p_R05_Own (a0 : Option MPrg) : Option ((Option MPrg)) :=
(optC a0
(some none)
(fun p1 =>
(((loop (fun (s3005 : (List MSig) × Nat) =>
(bif decide (s3005.2 < p1.Sigs.length) then
((p1.Sigs[s3005.2]?).bind fun x3011 =>
(ck (x3011.Params.length * 8 ≤ 140737488355328)
((ck ((s3005.1.length + 1) * 32 ≤ 140737488355328)
(some (Xt.go ((s3005.1 ++ [x3011]), (s3005.2 + 1))))))))
else
some (Xt.out s3005.1))) Fu ([], 0))).bind fun (s3 : (List MSig)) =>
(((loop (fun (s6018 : (List MCls) × Nat) =>
(bif decide (s6018.2 < p1.Classes.length) then
((p1.Classes[s6018.2]?).bind fun x6024 =>
(ck (x6024.Fields.length * 8 ≤ 140737488355328)
((ck (x6024.Methods.length * 8 ≤ 140737488355328)
((ck ((s6018.1.length + 1) * 48 ≤ 140737488355328)
(some (Xt.go ((s6018.1 ++ [x6024]), (s6018.2 + 1))))))))))
else
some (Xt.out s6018.1))) Fu ([], 0))).bind fun (s3016 : (List MCls)) =>
(((loop (fun (s9032 : (List MFun) × Nat) =>
(bif decide (s9032.2 < p1.Funcs.length) then
((((p1.Funcs[s9032.2]?).bind fun x9041 =>
(((loop (fun (s12046 : (List MBlk) × Nat) =>
(bif decide (s12046.2 < x9041.Blocks.length) then
((((x9041.Blocks[s12046.2]?).bind fun x12055 =>
(ck (x12055.Params.length * 8 ≤ 140737488355328)
(((p_R05_End x12055.End).bind fun y12058 =>
(((loop (fun (s15063 : (List MOp) × Nat) =>
(bif decide (s15063.2 < x12055.Ops.length) then
((x12055.Ops[s15063.2]?).bind fun x15069 =>
((p_R04_Plain x15069).bind fun y15071 =>
(ck ((s15063.1.length + 1) * 88 ≤ 140737488355328)
(some (Xt.go ((s15063.1 ++ [y15071]), (s15063.2 + 1)))))))
else
some (Xt.out s15063.1))) Fu ([], 0))).bind fun (s12061 : (List MOp)) =>
(ck ((s12046.1.length + 1) * 128 ≤ 140737488355328)
(some (s12046.1 ++ [(⟨x12055.Params, s12061, y12058⟩ : MBlk)]))))))))).bind fun (s12053 : (List MBlk)) =>
some (Xt.go (s12053, (s12046.2 + 1))))
else
some (Xt.out s12046.1))) Fu ([], 0))).bind fun (s9044 : (List MBlk)) =>
(ck ((s9032.1.length + 1) * 32 ≤ 140737488355328)
(some (s9032.1 ++ [(⟨x9041.Ret, s9044⟩ : MFun)])))))).bind fun (s9039 : (List MFun)) =>
some (Xt.go (s9039, (s9032.2 + 1))))
else
some (Xt.out s9032.1))) Fu ([], 0))).bind fun (s6030 : (List MFun)) =>
some (some (⟨s3, s3016, s6030⟩ : MPrg)))))))

theorem p_R05_Own_ok {r : (Option MPrg)} : rOk (opC 26 3 MPrg.ct r) = true ∧ FrT (opC 26 3 MPrg.ct r) := opok k_MPrgct r

set_option maxRecDepth 10000 in
set_option maxHeartbeats 4000000 in
theorem p_R05_Own_ac {a0 : Option MPrg} {r : (Option MPrg)} (hF : p_R05_Own a0 = some r) : AC Tryd.prog GT 38 [ptC MPrg.ct a0] (fun c => c = opC 26 3 MPrg.ct r) := by
  unfold p_R05_Own at hF
  refine AC.mk (nt := 173) Tryd.func38 rfl rfl rfl fun w N => ?_
  rcases a0 with _ | p1
  · replace hF := optN hF
    refine w_seq (w_region (by rfl) (dv1 (l_assign (.v _)) (dvE (q_seq (w_seq (w_seq (w_region (by rfl) (dv1 (l_move (.v _)) ?_))))))))
    refine dv1 (l_ptrNil (by kernel_rfl) rfl) (dvE (q_seq (w_true rfl (w_seq (w_region (by rfl) (dv1 (l_assign (.v _)) (dvE (q_seq ?_))))))))
    refine w_ret (q_reS ?_)
    cases hF
    refine q_end (.inr rfl) ?_
    exact ret_ok rfl (.cons (.tmp (.v _) (.v _)) .nil) (by decide) rfl
  · replace hF := optS hF
    refine w_seq (w_region (by rfl) (dv1 (l_assign (.v _)) (dvE (q_seq (w_seq (w_seq (w_region (by rfl) (dv1 (l_move (.ro _)) ?_))))))))
    refine dv1 (l_ptrRo (by kernel_rfl) rfl) (dvE (q_seq (w_false rfl (w_skip (q_seq (w_seq (w_region (by rfl) (dv1 (l_build st26 zt26 .nil rfl rfl) ?_))))))))
    refine dvN (l_box (.ag _) rfl rfl) (dv1 (l_assign (.ad _ _ _ _)) (dvE (q_seq ?_)))
    obtain ⟨s3, hF, hG4⟩ := bindE hF
    refine w_seqJ ⟨[(0, .ro (.rp (MPrg.ct p1) 0)), (3, .ad 0 3 0 0)], [(0, some ⟨26, 3, [[.rf 1 0 ((s3.map MSig.ct).length) 2, .v (.slice none 0 0), .v (.slice none 0 0)]]⟩), (1, some ⟨64, 2, s3.map MSig.ct⟩)], 1⟩ ?_ ?_
    · refine w_seq (w_region (by rfl) (dv1 (l_assign (.v _)) (dvE (q_seq (w_block (w_loopF hF (fun (s3005 : (List MSig) × Nat) => ⟨[(0, .ro (.rp (MPrg.ct p1) 0)), (3, .ad 0 3 0 0), (4, .v (.int .i64 ((s3005.2 : Nat) : Int)))], [(0, some ⟨26, 3, [[.rf 1 0 ((s3005.1.map MSig.ct).length) 2, .v (.slice none 0 0), .v (.slice none 0 0)]]⟩), (1, some ⟨64, 2, s3005.1.map MSig.ct⟩)], 1⟩) (le_of [(0, some 256), (1, none)] rfl (.s (.s (.s .nil rfl) rfl) rfl) (.box rfl rfl (.cons (.nil ⟨by simp, rfl⟩) (.cons (.v rfl) (.cons (.v rfl) .nil))) (.new ⟨by simp, rfl⟩ .nil))) ?_))))))
      intro s3005 y3006 hF hx3007
      refine w_seq (w_seq (w_region (by rfl) (dv1 (l_move (.v _)) (dv1 (l_move (.ro _)) (dv1 (l_nilRo rfl) (dv1 (l_fieldRo fd26_0 rfl) (dv1 (l_loadRo ty22 rfl rfl) (dv1 (l_lenRo sl22 rfl rfl (List.length_map _)) ?_))))))))
      refine dv1 (l_bin rfl rfl b_lssN) (dvE (q_seq ?_))
      rcases condE hF with ⟨b3009, hF⟩ | ⟨b3009, hF⟩
      · refine w_lenS 21 rfl fun l3010 => ?_
        refine w_condT rfl b3009 ?_
        refine w_skip (q_seq (w_seq (w_block (w_draw [[], [], [1], [1, 2], [1, 2, 3], [], [], [6], [6, 7], [6, 7, 8], [], [6, 7, 8, 9, 10], [6, 7, 8, 9, 10, 11], [6, 7, 8, 9, 10, 11, 12], [5, 6, 7, 8, 9, 10, 11, 12, 13], [], [15], [15, 16], [15, 16, 17], [], [15, 16, 17, 18, 19], [15, 16, 17, 18, 19, 20], [15, 16, 17, 18, 19, 20, 21], [5, 6, 7, 8, 9, 10, 11, 12, 13, 14, 15, 16, 17, 18, 19, 20, 21, 22], [5, 6, 7, 8, 9, 10, 11, 12, 13, 14, 15, 16, 17, 18, 19, 20, 21, 22, 23], [1, 2, 3, 4, 5, 6, 7, 8, 9, 10, 11, 12, 13, 14, 15, 16, 17, 18, 19, 20, 21, 22, 23, 24], [0, 1, 2, 3, 4, 5, 6, 7, 8, 9, 10, 11, 12, 13, 14, 15, 16, 17, 18, 19, 20, 21, 22, 23, 24, 25], [0, 1, 2, 3, 4, 5, 6, 7, 8, 9, 10, 11, 12, 13, 14, 15, 16, 17, 18, 19, 20, 21, 22, 23, 24, 25, 26], [0, 1, 2, 3, 4, 5, 6, 7, 8, 9, 10, 11, 12, 13, 14, 15, 16, 17, 18, 19, 20, 21, 22, 23, 24, 25, 26, 27]] [0, 1, 2, 3, 4, 5, 6, 7, 8, 9, 10, 11, 12, 13, 14, 15, 16, 17, 18, 19, 20, 21, 22, 23, 24, 25, 26, 27, 28] (by kernel_rfl) (by rfl) ⟨by decide, by rfl⟩ (by rfl) ?_))))
        refine de1 rfl (l_move (.ad _ _ _ _)) rfl (de1 rfl (l_move (.ad _ _ _ _)) rfl (de1 rfl (l_nil rfl) rfl (de1 rfl (l_field fd26_0 rfl) rfl (de1 rfl (l_load ty22 rfl rfl rfl rfl rfl) rfl (deN rfl (l_bs0 sl27 zt3 rfl (by decide)) rfl (de1 rfl (l_move (.ro _)) rfl (de1 rfl (l_nilRo rfl) rfl (de1 rfl (l_fieldRo fd26_0 rfl) rfl ?_))))))))
        refine de1 rfl (l_loadRo ty22 rfl rfl) rfl (de1 rfl (l_move (.v _)) rfl ?_)
        obtain ⟨x3011, h3012, hF⟩ := bindE hF
        refine de1 rfl (l_indexRo s3005.2 sl22 rfl rfl rfl (map_at h3012)) rfl (de1 rfl (l_fieldRo fd64_0 rfl) rfl (de1 rfl (l_loadRo ty27 rfl rfl) rfl ?_))
        obtain ⟨c3013, hF⟩ := ckE hF
        refine deN2 rfl (l_appOR el27 rfl rfl rfl rfl rfl (ro_map (fun _ => rfl) _) rfl (by simpa using c3013) (by decide)) rfl ?_
        refine de1 rfl (l_move (.ro _)) rfl (de1 rfl (l_nilRo rfl) rfl (de1 rfl (l_fieldRo fd26_0 rfl) rfl (de1 rfl (l_loadRo ty22 rfl rfl) rfl (de1 rfl (l_move (.v _)) rfl (de1 rfl (l_indexRo s3005.2 sl22 rfl rfl rfl (map_at h3012)) rfl (de1 rfl (l_fieldRo fd64_1 rfl) rfl (de1 rfl (l_loadRo ty3 rfl rfl) rfl (de1 rfl (l_build st64 zt64 (.cons (.rf _ _ _ _) (.cons (.v _) .nil)) rfl rfl) rfl ?_))))))))
        refine deN rfl (l_bs1 sl22 zt64 rfl (.ag _) rfl rfl rfl (by decide) (by decide)) rfl ?_
        obtain ⟨c3014, hF⟩ := ckE hF
        refine deN3 rfl (l_app1R el22 rfl rfl rfl rfl rfl rfl (by decide) rfl len_snoc (by simpa using c3014) (by decide)) rfl ?_
        refine de1 rfl (l_nil rfl) rfl (de1 rfl (l_field fd26_0 rfl) rfl (deS rfl (l_store ty22 rfl (.rf _ _ _ _) rfl rfl rfl (Nat.le_of_ble_eq_true rfl) rfl) rfl (ddE (q_in (q_seq (w_region (by rfl) (dv1 (l_move (.v _)) (dv1 (l_bin rfl rfl (b_incN (of_decide_eq_true b3009) l3010)) ?_))))))))
        refine dv1 (l_assign (.v _)) (dvE ?_)
        cases hF
        refine qL rfl ?_
        refine St.le.trans (le_closeR 2112 s3005.1.length rfl (snoc_at MSig.ct s3005.1 _) (.cons (.of (.rf rfl rfl (clm k_iC _))) (.cons (.of (.v _)) .nil)) (by decide) (by decide) rfl (snoc_cl MSig.ct _ _ x3011)) ?_
        exact (le_of [(0, some 0), (1, some 2112)] rfl (.s (.s (.s .nil rfl) rfl) rfl) (.box rfl rfl (.cons (.rf rfl (by simp)) (.cons (.v rfl) (.cons (.v rfl) .nil))) (.row rfl rfl rfl (clm k_MSigct _) .nil)))
      · refine w_condF rfl b3009 ?_
        refine w_exit ?_
        cases hF
        cases hx3007 _ rfl
        refine q_exS (q_exS (q_here (q_join ?_)))
        exact (le_of [(0, some 0), (1, some 1)] rfl (.s (.s .nil rfl) rfl) (.box rfl rfl (.s rfl) (.row rfl rfl rfl (clm k_MSigct _) .nil)))
    replace hF := hG4
    obtain ⟨s3016, hF, hG3017⟩ := bindE hF
    refine w_seqJ ⟨[(0, .ro (.rp (MPrg.ct p1) 0)), (3, .ad 0 3 0 0)], [(0, some ⟨26, 3, [[.rf 1 0 ((s3.map MSig.ct).length) 2, .rf 2 0 ((s3016.map MCls.ct).length) 2, .v (.slice none 0 0)]]⟩), (1, some ⟨64, 2, s3.map MSig.ct⟩), (2, some ⟨66, 2, s3016.map MCls.ct⟩)], 1⟩ ?_ ?_
    · refine w_seq (w_region (by rfl) (dv1 (l_assign (.v _)) (dvE (q_seq (w_block (w_loopF hF (fun (s6018 : (List MCls) × Nat) => ⟨[(0, .ro (.rp (MPrg.ct p1) 0)), (3, .ad 0 3 0 0), (5, .v (.int .i64 ((s6018.2 : Nat) : Int)))], [(0, some ⟨26, 3, [[.rf 1 0 ((s3.map MSig.ct).length) 2, .rf 2 0 ((s6018.1.map MCls.ct).length) 2, .v (.slice none 0 0)]]⟩), (1, some ⟨64, 2, s3.map MSig.ct⟩), (2, some ⟨66, 2, s6018.1.map MCls.ct⟩)], 1⟩) (le_of [(0, some 0), (1, some 1), (2, none)] rfl (.s (.s (.s .nil rfl) rfl) rfl) (.box rfl rfl (.cons (.rf rfl rfl) (.cons (.nil ⟨by simp, rfl⟩) (.cons (.v rfl) .nil))) (.row rfl rfl rfl (clm k_MSigct _) (.new ⟨by simp, rfl⟩ .nil)))) ?_))))))
      intro s6018 y6019 hF hx6020
      refine w_seq (w_seq (w_region (by rfl) (dv1 (l_move (.v _)) (dv1 (l_move (.ro _)) (dv1 (l_nilRo rfl) (dv1 (l_fieldRo fd26_1 rfl) (dv1 (l_loadRo ty23 rfl rfl) (dv1 (l_lenRo sl23 rfl rfl (List.length_map _)) ?_))))))))
      refine dv1 (l_bin rfl rfl b_lssN) (dvE (q_seq ?_))
      rcases condE hF with ⟨b6022, hF⟩ | ⟨b6022, hF⟩
      · refine w_lenS 58 rfl fun l6023 => ?_
        refine w_condT rfl b6022 ?_
        refine w_skip (q_seq (w_seq (w_block (w_seq (w_region (by rfl) (dv1 (l_move (.ro _)) (dv1 (l_nilRo rfl) (dv1 (l_fieldRo fd26_1 rfl) ?_))))))))
        refine dv1 (l_loadRo ty23 rfl rfl) (dv1 (l_move (.v _)) ?_)
        obtain ⟨x6024, h6025, hF⟩ := bindE hF
        refine dv1 (l_indexRo s6018.2 sl23 rfl rfl rfl (map_at h6025)) (dv1 (l_loadARo ty66 rfl rfl) (dvN (l_alloc zt66) (dvS (l_store ty66 rfl (.ag _) rfl rfl rfl (Nat.le_of_ble_eq_true rfl) rfl) (dvE (q_seq (w_draw [[], [], [1], [1, 2], [1, 2, 3], [], [], [6], [5, 6, 7], [], [], [10], [5, 6, 7, 8, 9, 10, 11], [5, 6, 7, 8, 9, 10, 11, 12], [5, 6, 7, 8, 9, 10, 11, 12, 13], [1, 2, 3, 4, 5, 6, 7, 8, 9, 10, 11, 12, 13, 14], [0, 1, 2, 3, 4, 5, 6, 7, 8, 9, 10, 11, 12, 13, 14, 15], [0, 1, 2, 3, 4, 5, 6, 7, 8, 9, 10, 11, 12, 13, 14, 15, 16], [0, 1, 2, 3, 4, 5, 6, 7, 8, 9, 10, 11, 12, 13, 14, 15, 16, 17]] [0, 1, 2, 3, 4, 5, 6, 7, 8, 9, 10, 11, 12, 13, 14, 15, 16, 17, 18] (by kernel_rfl) (by rfl) ⟨by decide, by rfl⟩ (by rfl) ?_))))))
        refine de1 rfl (l_move (.ad _ _ _ _)) rfl (de1 rfl (l_move (.ad _ _ _ _)) rfl (de1 rfl (l_nil rfl) rfl (de1 rfl (l_field fd26_1 rfl) rfl (de1 rfl (l_load ty23 rfl rfl rfl rfl rfl) rfl (deN rfl (l_bs0 sl27 zt3 rfl (by decide)) rfl (de1 rfl (l_field fd66_0 rfl) rfl (de1 rfl (l_load ty27 rfl rfl rfl rfl rfl) rfl ?_)))))))
        obtain ⟨c6026, hF⟩ := ckE hF
        refine deN2 rfl (l_appOR el27 rfl rfl rfl rfl rfl (ro_map (fun _ => rfl) _) rfl (by simpa using c6026) (by decide)) rfl ?_
        refine deN rfl (l_bs0 sl27 zt3 rfl (by decide)) rfl (de1 rfl (l_field fd66_1 rfl) rfl (de1 rfl (l_load ty27 rfl rfl rfl rfl rfl) rfl ?_))
        obtain ⟨c6027, hF⟩ := ckE hF
        refine deN2 rfl (l_appOR el27 rfl rfl rfl rfl rfl (ro_map (fun _ => rfl) _) rfl (by simpa using c6027) (by decide)) rfl ?_
        refine de1 rfl (l_build st66 zt66 (.cons (.rf _ _ _ _) (.cons (.rf _ _ _ _) .nil)) rfl rfl) rfl (deN rfl (l_bs1 sl23 zt66 rfl (.ag _) rfl rfl rfl (by decide) (by decide)) rfl ?_)
        obtain ⟨c6028, hF⟩ := ckE hF
        refine deN3 rfl (l_app1R el23 rfl rfl rfl rfl rfl rfl (by decide) rfl len_snoc (by simpa using c6028) (by decide)) rfl ?_
        refine de1 rfl (l_nil rfl) rfl (de1 rfl (l_field fd26_1 rfl) rfl (deS rfl (l_store ty23 rfl (.rf _ _ _ _) rfl rfl rfl (Nat.le_of_ble_eq_true rfl) rfl) rfl (ddE (q_in (q_seq (w_region (by rfl) (dv1 (l_move (.v _)) (dv1 (l_bin rfl rfl (b_incN (of_decide_eq_true b6022) l6023)) ?_))))))))
        refine dv1 (l_assign (.v _)) (dvE ?_)
        cases hF
        refine qL rfl ?_
        refine St.le.trans (le_closeR 2048 s6018.1.length rfl (snoc_at MCls.ct s6018.1 _) (.cons (.of (.rf rfl rfl (clm k_iC _))) (.cons (.of (.rf rfl rfl (clm k_iC _))) .nil)) (by decide) (by decide) rfl (snoc_cl MCls.ct _ _ x6024)) ?_
        exact (le_of [(0, some 0), (1, some 1), (2, some 2048)] rfl (.s (.s (.s .nil rfl) rfl) rfl) (.box rfl rfl (.cons (.rf rfl rfl) (.cons (.rf rfl (by simp)) (.cons (.v rfl) .nil))) (.row rfl rfl rfl (clm k_MSigct _) (.row rfl rfl rfl (clm k_MClsct _) .nil))))
      · refine w_condF rfl b6022 ?_
        refine w_exit ?_
        cases hF
        cases hx6020 _ rfl
        refine q_exS (q_exS (q_here (q_join ?_)))
        exact (le_of [(0, some 0), (1, some 1), (2, some 2)] rfl (.s (.s .nil rfl) rfl) (.box rfl rfl (.s rfl) (.row rfl rfl rfl (clm k_MSigct _) (.row rfl rfl rfl (clm k_MClsct _) .nil))))
    replace hF := hG3017
    obtain ⟨s6030, hF, hG6031⟩ := bindE hF
    refine w_seqJ ⟨[(3, .ad 0 3 0 0)], [(0, some ⟨26, 3, [[.rf 1 0 ((s3.map MSig.ct).length) 2, .rf 2 0 ((s3016.map MCls.ct).length) 2, .rf 3 0 ((s6030.map MFun.ct).length) 2]]⟩), (1, some ⟨64, 2, s3.map MSig.ct⟩), (2, some ⟨66, 2, s3016.map MCls.ct⟩), (3, some ⟨31, 2, s6030.map MFun.ct⟩)], 1⟩ ?_ ?_
    · refine w_seq (w_region (by rfl) (dv1 (l_assign (.v _)) (dvE (q_seq (w_block (w_loopF hF (fun (s9032 : (List MFun) × Nat) => ⟨[(0, .ro (.rp (MPrg.ct p1) 0)), (3, .ad 0 3 0 0), (7, .v (.int .i64 ((s9032.2 : Nat) : Int)))], [(0, some ⟨26, 3, [[.rf 1 0 ((s3.map MSig.ct).length) 2, .rf 2 0 ((s3016.map MCls.ct).length) 2, .rf 3 0 ((s9032.1.map MFun.ct).length) 2]]⟩), (1, some ⟨64, 2, s3.map MSig.ct⟩), (2, some ⟨66, 2, s3016.map MCls.ct⟩), (3, some ⟨31, 2, s9032.1.map MFun.ct⟩)], 1⟩) (le_of [(0, some 0), (1, some 1), (2, some 2), (3, none)] rfl (.s (.s (.s .nil rfl) rfl) rfl) (.box rfl rfl (.cons (.rf rfl rfl) (.cons (.rf rfl rfl) (.cons (.nil ⟨by simp, rfl⟩) .nil))) (.row rfl rfl rfl (clm k_MSigct _) (.row rfl rfl rfl (clm k_MClsct _) (.new ⟨by simp, rfl⟩ .nil))))) ?_))))))
      intro s9032 y9033 hF hx9034
      refine w_seq (w_seq (w_region (by rfl) (dv1 (l_move (.v _)) (dv1 (l_move (.ro _)) (dv1 (l_nilRo rfl) (dv1 (l_fieldRo fd26_2 rfl) (dv1 (l_loadRo ty24 rfl rfl) (dv1 (l_lenRo sl24 rfl rfl (List.length_map _)) ?_))))))))
      refine dv1 (l_bin rfl rfl b_lssN) (dvE (q_seq ?_))
      rcases condE hF with ⟨b9036, hF⟩ | ⟨b9036, hF⟩
      · refine w_lenS 92 rfl fun l9037 => ?_
        refine w_condT rfl b9036 ?_
        refine w_skip (q_seq ?_)
        obtain ⟨s9039, hF, hG9040⟩ := bindE hF
        refine w_seqJ ⟨[(0, .ro (.rp (MPrg.ct p1) 0)), (3, .ad 0 3 0 0), (7, .v (.int .i64 ((s9032.2 : Nat) : Int)))], [(0, some ⟨26, 3, [[.rf 1 0 ((s3.map MSig.ct).length) 2, .rf 2 0 ((s3016.map MCls.ct).length) 2, .rf 3 0 ((s9039.map MFun.ct).length) 2]]⟩), (1, some ⟨64, 2, s3.map MSig.ct⟩), (2, some ⟨66, 2, s3016.map MCls.ct⟩), (3, some ⟨31, 2, s9039.map MFun.ct⟩)], 1⟩ ?_ ?_
        · refine w_block (w_seq (w_region (by rfl) (dv1 (l_move (.ro _)) (dv1 (l_nilRo rfl) (dv1 (l_fieldRo fd26_2 rfl) (dv1 (l_loadRo ty24 rfl rfl) (dv1 (l_move (.v _)) ?_)))))))
          obtain ⟨x9041, h9042, hF⟩ := bindE hF
          refine dv1 (l_indexRo s9032.2 sl24 rfl rfl rfl (map_at h9042)) (dv1 (l_fieldRo fd31_0 rfl) (dv1 (l_loadRo ty3 rfl rfl) (dv1 (l_build st31 zt31 (.cons (.v _) .nil) rfl rfl) (dvN (l_alloc zt31) (dvS (l_store ty31 rfl (.ag _) rfl rfl rfl (Nat.le_of_ble_eq_true rfl) rfl) (dvE (q_seq ?_)))))))
          obtain ⟨s9044, hF, hG9045⟩ := bindE hF
          refine w_seqJ ⟨[(0, .ro (.rp (MPrg.ct p1) 0)), (3, .ad 0 3 0 0), (7, .v (.int .i64 ((s9032.2 : Nat) : Int))), (8, .ad 4 2 0 0)], [(0, some ⟨26, 3, [[.rf 1 0 ((s3.map MSig.ct).length) 2, .rf 2 0 ((s3016.map MCls.ct).length) 2, .rf 3 0 ((s9032.1.map MFun.ct).length) 2]]⟩), (1, some ⟨64, 2, s3.map MSig.ct⟩), (2, some ⟨66, 2, s3016.map MCls.ct⟩), (3, some ⟨31, 2, s9032.1.map MFun.ct⟩), (4, some ⟨31, 2, [[.v (.int .i64 x9041.Ret), .rf 5 0 ((s9044.map MBlk.ct).length) 8]]⟩), (5, some ⟨47, 8, s9044.map MBlk.ct⟩)], 1⟩ ?_ ?_
          · refine w_seq (w_region (by rfl) (dv1 (l_assign (.v _)) (dvE (q_seq (w_block (w_loopF hF (fun (s12046 : (List MBlk) × Nat) => ⟨[(0, .ro (.rp (MPrg.ct p1) 0)), (3, .ad 0 3 0 0), (7, .v (.int .i64 ((s9032.2 : Nat) : Int))), (8, .ad 4 2 0 0), (9, .v (.int .i64 ((s12046.2 : Nat) : Int)))], [(0, some ⟨26, 3, [[.rf 1 0 ((s3.map MSig.ct).length) 2, .rf 2 0 ((s3016.map MCls.ct).length) 2, .rf 3 0 ((s9032.1.map MFun.ct).length) 2]]⟩), (1, some ⟨64, 2, s3.map MSig.ct⟩), (2, some ⟨66, 2, s3016.map MCls.ct⟩), (3, some ⟨31, 2, s9032.1.map MFun.ct⟩), (4, some ⟨31, 2, [[.v (.int .i64 x9041.Ret), .rf 5 0 ((s12046.1.map MBlk.ct).length) 8]]⟩), (5, some ⟨47, 8, s12046.1.map MBlk.ct⟩)], 1⟩) (le_of [(0, some 0), (1, some 1), (2, some 2), (3, some 3), (4, some 1088), (5, none)] rfl (.s (.s (.s (.s (.s .nil rfl) rfl) rfl) rfl) rfl) (.box rfl rfl (.s rfl) (.row rfl rfl rfl (clm k_MSigct _) (.row rfl rfl rfl (clm k_MClsct _) (.row rfl rfl rfl (clm k_MFunct _) (.box rfl rfl (.cons (.v rfl) (.cons (.nil ⟨by simp, rfl⟩) .nil)) (.new ⟨by simp, rfl⟩ .nil))))))) ?_))))))
            intro s12046 y12047 hF hx12048
            refine w_seq (w_seq (w_region (by rfl) (dv1 (l_move (.v _)) (dv1 (l_move (.ro _)) (dv1 (l_nilRo rfl) (dv1 (l_fieldRo fd26_2 rfl) (dv1 (l_loadRo ty24 rfl rfl) (dv1 (l_move (.v _)) ?_))))))))
            refine dv1 (l_indexRo s9032.2 sl24 rfl rfl rfl (map_at h9042)) (dv1 (l_fieldRo fd31_1 rfl) (dv1 (l_loadRo ty29 rfl rfl) (dv1 (l_lenRo sl29 rfl rfl (List.length_map _)) (dv1 (l_bin rfl rfl b_lssN) (dvE (q_seq ?_))))))
            rcases condE hF with ⟨b12050, hF⟩ | ⟨b12050, hF⟩
            · refine w_lenS 114 rfl fun l12051 => ?_
              refine w_condT rfl b12050 ?_
              refine w_skip (q_seq ?_)
              obtain ⟨s12053, hF, hG12054⟩ := bindE hF
              refine w_seqJ ⟨[(0, .ro (.rp (MPrg.ct p1) 0)), (3, .ad 0 3 0 0), (7, .v (.int .i64 ((s9032.2 : Nat) : Int))), (8, .ad 4 2 0 0), (9, .v (.int .i64 ((s12046.2 : Nat) : Int)))], [(0, some ⟨26, 3, [[.rf 1 0 ((s3.map MSig.ct).length) 2, .rf 2 0 ((s3016.map MCls.ct).length) 2, .rf 3 0 ((s9032.1.map MFun.ct).length) 2]]⟩), (1, some ⟨64, 2, s3.map MSig.ct⟩), (2, some ⟨66, 2, s3016.map MCls.ct⟩), (3, some ⟨31, 2, s9032.1.map MFun.ct⟩), (4, some ⟨31, 2, [[.v (.int .i64 x9041.Ret), .rf 5 0 ((s12053.map MBlk.ct).length) 8]]⟩), (5, some ⟨47, 8, s12053.map MBlk.ct⟩)], 1⟩ ?_ ?_
              · refine w_block (w_seq (w_region (by rfl) (dv1 (l_move (.ro _)) (dv1 (l_nilRo rfl) (dv1 (l_fieldRo fd26_2 rfl) (dv1 (l_loadRo ty24 rfl rfl) (dv1 (l_move (.v _)) (dv1 (l_indexRo s9032.2 sl24 rfl rfl rfl (map_at h9042)) ?_))))))))
                refine dv1 (l_fieldRo fd31_1 rfl) (dv1 (l_loadRo ty29 rfl rfl) (dv1 (l_move (.v _)) ?_))
                obtain ⟨x12055, h12056, hF⟩ := bindE hF
                refine dv1 (l_indexRo s12046.2 sl29 rfl rfl rfl (map_at h12056)) (dv1 (l_loadARo ty47 rfl rfl) (dvN (l_alloc zt47) (dvS (l_store ty47 rfl (.ag _) rfl rfl rfl (Nat.le_of_ble_eq_true rfl) rfl) (dvE (q_seq (w_seq (w_draw [[], [], [1], [0, 1, 2], [], [4], [0, 1, 2, 3, 4, 5], [0, 1, 2, 3, 4, 5, 6], [], [0, 1, 2, 3, 4, 5, 6, 7, 8]] [0, 1, 2, 3, 4, 5, 8, 6, 7, 9] (by kernel_rfl) (by rfl) ⟨by decide, by rfl⟩ (by rfl) ?_)))))))
                refine deN rfl (l_bs0 sl27 zt3 rfl (by decide)) rfl (de1 rfl (l_field fd47_0 rfl) rfl (de1 rfl (l_load ty27 rfl rfl rfl rfl rfl) rfl ?_))
                obtain ⟨c12057, hF⟩ := ckE hF
                refine deN2 rfl (l_appOR el27 rfl rfl rfl rfl rfl (ro_map (fun _ => rfl) _) rfl (by simpa using c12057) (by decide)) rfl ?_
                refine de1 rfl (l_field fd47_2 rfl) rfl (de1 rfl (l_loadA ty44 rfl rfl rfl rfl rfl) rfl (deN rfl (l_alloc zt47) rfl ?_))
                obtain ⟨y12058, h12059, hF⟩ := bindE hF
                refine deC1 rfl (l_call (B := false) (FnI.mk' (by kernel_rfl)) (.cons (.ag _) (.ag (.cons (.v _) (.cons (.v _) (.cons (.v _) (.cons (.v _) (.cons (.ro _) (.cons (.ro _) .nil))))))) .nil) (p_R05_End_ac h12059) (okF p_R05_End_ok)) rfl ?_
                refine de1 rfl (l_build st47 zt47 (.cons (.rf _ _ _ _) (.cons (.ag _) .nil)) rfl rfl) rfl (deS rfl (l_store ty47 rfl (.ag _) rfl rfl rfl (Nat.le_of_ble_eq_true rfl) rfl) rfl (ddE (q_seq ?_)))
                obtain ⟨s12061, hF, hG12062⟩ := bindE hF
                refine w_seqJ ⟨[(0, .ro (.rp (MPrg.ct p1) 0)), (3, .ad 0 3 0 0), (7, .v (.int .i64 ((s9032.2 : Nat) : Int))), (8, .ad 4 2 0 0), (9, .v (.int .i64 ((s12046.2 : Nat) : Int))), (11, .ad 6 8 0 0)], [(0, some ⟨26, 3, [[.rf 1 0 ((s3.map MSig.ct).length) 2, .rf 2 0 ((s3016.map MCls.ct).length) 2, .rf 3 0 ((s9032.1.map MFun.ct).length) 2]]⟩), (1, some ⟨64, 2, s3.map MSig.ct⟩), (2, some ⟨66, 2, s3016.map MCls.ct⟩), (3, some ⟨31, 2, s9032.1.map MFun.ct⟩), (4, some ⟨31, 2, [[.v (.int .i64 x9041.Ret), .rf 5 0 ((s12046.1.map MBlk.ct).length) 8]]⟩), (5, some ⟨47, 8, s12046.1.map MBlk.ct⟩), (6, some ⟨47, 8, [[.rf 7 0 ((x12055.Params.map iC).length) 1, .rf 8 0 ((s12061.map MOp.ct).length) 8, .v (.int .i64 y12058.K), .v (.int .i64 y12058.A), .v (.int .i64 y12058.To), .v (.int .i64 y12058.Else), .rf 9 0 ((y12058.L.map iC).length) 1, .rf 10 0 ((y12058.M.map iC).length) 1]]⟩), (7, some ⟨3, 1, x12055.Params.map iC⟩), (8, some ⟨49, 8, s12061.map MOp.ct⟩), (9, some ⟨3, 1, y12058.L.map iC⟩), (10, some ⟨3, 1, y12058.M.map iC⟩)], 1⟩ ?_ ?_
                · refine w_seq (w_region (by rfl) (dv1 (l_assign (.v _)) (dvE (q_seq (w_block (w_loopF hF (fun (s15063 : (List MOp) × Nat) => ⟨[(0, .ro (.rp (MPrg.ct p1) 0)), (3, .ad 0 3 0 0), (7, .v (.int .i64 ((s9032.2 : Nat) : Int))), (8, .ad 4 2 0 0), (9, .v (.int .i64 ((s12046.2 : Nat) : Int))), (10, .ad 6 8 0 0), (11, .ad 7 8 0 0), (12, .v (.int .i64 ((s15063.2 : Nat) : Int)))], [(0, some ⟨26, 3, [[.rf 1 0 ((s3.map MSig.ct).length) 2, .rf 2 0 ((s3016.map MCls.ct).length) 2, .rf 3 0 ((s9032.1.map MFun.ct).length) 2]]⟩), (1, some ⟨64, 2, s3.map MSig.ct⟩), (2, some ⟨66, 2, s3016.map MCls.ct⟩), (3, some ⟨31, 2, s9032.1.map MFun.ct⟩), (4, some ⟨31, 2, [[.v (.int .i64 x9041.Ret), .rf 5 0 ((s12046.1.map MBlk.ct).length) 8]]⟩), (5, some ⟨47, 8, s12046.1.map MBlk.ct⟩), (6, some ⟨47, 8, [[.ro (.sl 3 1 (x12055.Params.map iC)), .ro (.sl 49 8 (x12055.Ops.map MOp.ct)), .v (.int .i64 x12055.End.K), .v (.int .i64 x12055.End.A), .v (.int .i64 x12055.End.To), .v (.int .i64 x12055.End.Else), .ro (.sl 3 1 (x12055.End.L.map iC)), .ro (.sl 3 1 (x12055.End.M.map iC))]]⟩), (7, some ⟨47, 8, [[.rf 8 0 ((x12055.Params.map iC).length) 1, .rf 9 0 ((s15063.1.map MOp.ct).length) 8, .v (.int .i64 y12058.K), .v (.int .i64 y12058.A), .v (.int .i64 y12058.To), .v (.int .i64 y12058.Else), .rf 10 0 ((y12058.L.map iC).length) 1, .rf 11 0 ((y12058.M.map iC).length) 1]]⟩), (8, some ⟨3, 1, x12055.Params.map iC⟩), (9, some ⟨49, 8, s15063.1.map MOp.ct⟩), (10, some ⟨3, 1, y12058.L.map iC⟩), (11, some ⟨3, 1, y12058.M.map iC⟩)], 1⟩) (le_of [(0, some 0), (1, some 1), (2, some 2), (3, some 3), (4, some 4), (5, some 5), (6, some 1472), (7, some 1984), (8, some 1792), (9, none), (10, some 2052), (11, some 2053)] rfl (.s (.s (.s (.s (.s (.s (.s (.s .nil rfl) rfl) rfl) rfl) rfl) rfl) rfl) rfl) (.box rfl rfl (.s rfl) (.row rfl rfl rfl (clm k_MSigct _) (.row rfl rfl rfl (clm k_MClsct _) (.row rfl rfl rfl (clm k_MFunct _) (.box rfl rfl (.s rfl) (.row rfl rfl rfl (clm k_MBlkct _) (.box rfl rfl (.s rfl) (.box rfl rfl (.cons (.rf rfl rfl) (.cons (.nil ⟨by simp, rfl⟩) (.cons (.v rfl) (.cons (.v rfl) (.cons (.v rfl) (.cons (.v rfl) (.cons (.rf rfl rfl) (.cons (.rf rfl rfl) .nil)))))))) (.row rfl rfl rfl (clm k_iC _) (.new ⟨by simp, rfl⟩ (.row rfl rfl rfl (clm k_iC _) (.row rfl rfl rfl (clm k_iC _) .nil))))))))))))) ?_))))))
                  intro s15063 y15064 hF hx15065
                  refine w_seq (w_seq (w_region (by rfl) (dv1 (l_move (.v _)) (dv1 (l_field fd47_1 rfl) (dv1 (l_load ty45 rfl rfl rfl rfl rfl) (dv1 (l_lenRo sl45 rfl rfl (List.length_map _)) (dv1 (l_bin rfl rfl b_lssN) (dvE ?_))))))))
                  refine q_seq ?_
                  rcases condE hF with ⟨b15067, hF⟩ | ⟨b15067, hF⟩
                  · refine w_lenS 140 rfl fun l15068 => ?_
                    refine w_condT rfl b15067 ?_
                    refine w_skip (q_seq (w_seq (w_block (w_draw [[], [0], [], [2], [], [2, 3, 4], [2, 3, 4, 5], [2, 3, 4, 5, 6], [2, 3, 4, 5, 6, 7], [0, 1, 2, 3, 4, 5, 6, 7, 8], [0, 1, 2, 3, 4, 5, 6, 7, 8, 9], [0, 1, 2, 3, 4, 5, 6, 7, 8, 9, 10]] [0, 1, 2, 3, 4, 5, 6, 7, 8, 9, 10, 11] (by kernel_rfl) (by rfl) ⟨by decide, by rfl⟩ (by rfl) ?_))))
                    refine de1 rfl (l_field fd47_1 rfl) rfl (de1 rfl (l_load ty45 rfl rfl rfl rfl rfl) rfl (de1 rfl (l_field fd47_1 rfl) rfl (de1 rfl (l_load ty45 rfl rfl rfl rfl rfl) rfl (de1 rfl (l_move (.v _)) rfl ?_))))
                    obtain ⟨x15069, h15070, hF⟩ := bindE hF
                    refine de1 rfl (l_indexRo s15063.2 sl45 rfl rfl rfl (map_at h15070)) rfl (de1 rfl (l_loadARo ty49 rfl rfl) rfl ?_)
                    obtain ⟨y15071, h15072, hF⟩ := bindE hF
                    refine deC1 rfl (l_call (B := false) (FnI.mk' (by kernel_rfl)) (.cons (.ag _) (.ag (.cons (.v _) (.cons (.v _) (.cons (.v _) (.cons (.v _) (.cons (.v _) (.cons (.v _) (.cons (.ro _) (.cons (.v _) .nil))))))))) .nil) (p_R04_Plain_ac h15072) (okF p_R04_Plain_ok)) rfl ?_
                    refine deN rfl (l_bs1 sl45 zt49 rfl (.ag _) rfl rfl rfl (by decide) (by decide)) rfl ?_
                    obtain ⟨c15073, hF⟩ := ckE hF
                    refine deN3 rfl (l_app1R el45 rfl rfl rfl rfl rfl rfl (by decide) rfl len_snoc (by simpa using c15073) (by decide)) rfl ?_
                    refine de1 rfl (l_field fd47_1 rfl) rfl (deS rfl (l_store ty45 rfl (.rf _ _ _ _) rfl rfl rfl (Nat.le_of_ble_eq_true rfl) rfl) rfl (ddE (q_in (q_seq (w_region (by rfl) (dv1 (l_move (.v _)) (dv1 (l_bin rfl rfl (b_incN (of_decide_eq_true b15067) l15068)) (dv1 (l_assign (.v _)) ?_))))))))
                    refine dvE ?_
                    cases hF
                    refine qL rfl ?_
                    refine St.le.trans (le_closeR 960 s15063.1.length rfl (snoc_at MOp.ct s15063.1 _) (.cons (.of (.v _)) (.cons (.of (.v _)) (.cons (.of (.v _)) (.cons (.of (.v _)) (.cons (.of (.v _)) (.cons (.of (.v _)) (.cons (.of (.rf rfl rfl (clm k_iC _))) (.cons (.of (.v _)) .nil)))))))) (by decide) (by decide) rfl (snoc_cl MOp.ct _ _ y15071)) ?_
                    exact (le_of [(0, some 0), (1, some 1), (2, some 2), (3, some 3), (4, some 4), (5, some 5), (6, some 6), (7, some 7), (8, some 8), (9, some 960), (10, some 10), (11, some 11)] rfl (.s (.s (.s (.s (.s (.s (.s (.s .nil rfl) rfl) rfl) rfl) rfl) rfl) rfl) rfl) (.box rfl rfl (.s rfl) (.row rfl rfl rfl (clm k_MSigct _) (.row rfl rfl rfl (clm k_MClsct _) (.row rfl rfl rfl (clm k_MFunct _) (.box rfl rfl (.s rfl) (.row rfl rfl rfl (clm k_MBlkct _) (.box rfl rfl (.s rfl) (.box rfl rfl (.cons (.rf rfl rfl) (.cons (.rf rfl (by simp)) (.cons (.v rfl) (.cons (.v rfl) (.cons (.v rfl) (.cons (.v rfl) (.cons (.rf rfl rfl) (.cons (.rf rfl rfl) .nil)))))))) (.row rfl rfl rfl (clm k_iC _) (.row rfl rfl rfl (clm k_MOpct _) (.row rfl rfl rfl (clm k_iC _) (.row rfl rfl rfl (clm k_iC _) .nil)))))))))))))
                  · refine w_condF rfl b15067 ?_
                    refine w_exit ?_
                    cases hF
                    cases hx15065 _ rfl
                    refine q_exS (q_exS (q_here (q_join ?_)))
                    exact (le_of [(0, some 0), (1, some 1), (2, some 2), (3, some 3), (4, some 4), (5, some 5), (6, some 7), (7, some 8), (8, some 9), (9, some 10), (10, some 11)] rfl (.s (.s (.s (.s (.s (.s .nil rfl) rfl) rfl) rfl) rfl) rfl) (.box rfl rfl (.s rfl) (.row rfl rfl rfl (clm k_MSigct _) (.row rfl rfl rfl (clm k_MClsct _) (.row rfl rfl rfl (clm k_MFunct _) (.box rfl rfl (.s rfl) (.row rfl rfl rfl (clm k_MBlkct _) (.box rfl rfl (.s rfl) (.row rfl rfl rfl (clm k_iC _) (.row rfl rfl rfl (clm k_MOpct _) (.row rfl rfl rfl (clm k_iC _) (.row rfl rfl rfl (clm k_iC _) .nil))))))))))))
                replace hF := hG12062
                refine w_region (by rfl) (dv1 (l_field fd31_1 rfl) (dv1 (l_load ty29 rfl rfl rfl rfl rfl) (dv1 (l_loadA ty47 rfl rfl rfl rfl rfl) (dvN (l_bs1 sl29 zt47 rfl (.ag _) rfl rfl rfl (by decide) (by decide)) ?_))))
                obtain ⟨c15074, hF⟩ := ckE hF
                refine dvN3 (l_app1R el29 rfl rfl rfl rfl rfl rfl (by decide) rfl len_snoc (by simpa using c15074) (by decide)) ?_
                refine dv1 (l_field fd31_1 rfl) (dvS (l_store ty29 rfl (.rf _ _ _ _) rfl rfl rfl (Nat.le_of_ble_eq_true rfl) rfl) (dvE ?_))
                cases hF
                refine q_in (q_join ?_)
                refine St.le.trans (le_closeR 320 s12046.1.length rfl (snoc_at MBlk.ct s12046.1 _) (.cons (.of (.rf rfl rfl (clm k_iC _))) (.cons (.of (.rf rfl rfl (clm k_MOpct _))) (.cons (.of (.v _)) (.cons (.of (.v _)) (.cons (.of (.v _)) (.cons (.of (.v _)) (.cons (.of (.rf rfl rfl (clm k_iC _))) (.cons (.of (.rf rfl rfl (clm k_iC _))) .nil)))))))) (by decide) (by decide) rfl (snoc_cl MBlk.ct _ _ (⟨x12055.Params, s12061, y12058⟩ : MBlk))) ?_
                exact (le_of [(0, some 0), (1, some 1), (2, some 2), (3, some 3), (4, some 4), (5, some 320)] rfl (.s (.s (.s (.s (.s .nil rfl) rfl) rfl) rfl) rfl) (.box rfl rfl (.s rfl) (.row rfl rfl rfl (clm k_MSigct _) (.row rfl rfl rfl (clm k_MClsct _) (.row rfl rfl rfl (clm k_MFunct _) (.box rfl rfl (.cons (.v rfl) (.cons (.rf rfl (by simp)) .nil)) (.row rfl rfl rfl (clm k_MBlkct _) .nil)))))))
              replace hF := hG12054
              refine w_region (by rfl) (dv1 (l_move (.v _)) (dv1 (l_bin rfl rfl (b_incN (of_decide_eq_true b12050) l12051)) (dv1 (l_assign (.v _)) (dvE ?_))))
              cases hF
              refine qL rfl ?_
              exact (le_of [(0, some 0), (1, some 1), (2, some 2), (3, some 3), (4, some 4), (5, some 5)] rfl (.s (.s (.s (.s (.s .nil rfl) rfl) rfl) rfl) rfl) (.box rfl rfl (.s rfl) (.row rfl rfl rfl (clm k_MSigct _) (.row rfl rfl rfl (clm k_MClsct _) (.row rfl rfl rfl (clm k_MFunct _) (.box rfl rfl (.s rfl) (.row rfl rfl rfl (clm k_MBlkct _) .nil)))))))
            · refine w_condF rfl b12050 ?_
              refine w_exit ?_
              cases hF
              cases hx12048 _ rfl
              refine q_exS (q_exS (q_here (q_join ?_)))
              exact (le_of [(0, some 0), (1, some 1), (2, some 2), (3, some 3), (4, some 4), (5, some 5)] rfl (.s (.s (.s (.s .nil rfl) rfl) rfl) rfl) (.box rfl rfl (.s rfl) (.row rfl rfl rfl (clm k_MSigct _) (.row rfl rfl rfl (clm k_MClsct _) (.row rfl rfl rfl (clm k_MFunct _) (.box rfl rfl (.s rfl) (.row rfl rfl rfl (clm k_MBlkct _) .nil)))))))
          replace hF := hG9045
          refine w_draw [[], [], [1], [1, 2], [1, 2, 3], [], [5], [1, 2, 3, 4, 5, 6], [0, 1, 2, 3, 4, 5, 6, 7], [0, 1, 2, 3, 4, 5, 6, 7, 8], [0, 1, 2, 3, 4, 5, 6, 7, 8, 9]] [0, 1, 2, 3, 4, 5, 6, 7, 8, 9, 10] (by kernel_rfl) (by rfl) ⟨by decide, by rfl⟩ (by rfl) ?_
          refine de1 rfl (l_move (.ad _ _ _ _)) rfl (de1 rfl (l_move (.ad _ _ _ _)) rfl (de1 rfl (l_nil rfl) rfl (de1 rfl (l_field fd26_2 rfl) rfl (de1 rfl (l_load ty24 rfl rfl rfl rfl rfl) rfl (de1 rfl (l_loadA ty31 rfl rfl rfl rfl rfl) rfl (deN rfl (l_bs1 sl24 zt31 rfl (.ag _) rfl rfl rfl (by decide) (by decide)) rfl ?_))))))
          obtain ⟨c15075, hF⟩ := ckE hF
          refine deN3 rfl (l_app1R el24 rfl rfl rfl rfl rfl rfl (by decide) rfl len_snoc (by simpa using c15075) (by decide)) rfl ?_
          refine de1 rfl (l_nil rfl) rfl (de1 rfl (l_field fd26_2 rfl) rfl (deS rfl (l_store ty24 rfl (.rf _ _ _ _) rfl rfl rfl (Nat.le_of_ble_eq_true rfl) rfl) rfl (ddE ?_)))
          cases hF
          refine q_in (q_join ?_)
          refine St.le.trans (le_closeR 512 s9032.1.length rfl (snoc_at MFun.ct s9032.1 _) (.cons (.of (.v _)) (.cons (.of (.rf rfl rfl (clm k_MBlkct _))) .nil)) (by decide) (by decide) rfl (snoc_cl MFun.ct _ _ (⟨x9041.Ret, s9044⟩ : MFun))) ?_
          exact (le_of [(0, some 0), (1, some 1), (2, some 2), (3, some 512)] rfl (.s (.s (.s .nil rfl) rfl) rfl) (.box rfl rfl (.cons (.rf rfl rfl) (.cons (.rf rfl rfl) (.cons (.rf rfl (by simp)) .nil))) (.row rfl rfl rfl (clm k_MSigct _) (.row rfl rfl rfl (clm k_MClsct _) (.row rfl rfl rfl (clm k_MFunct _) .nil)))))
        replace hF := hG9040
        refine w_region (by rfl) (dv1 (l_move (.v _)) (dv1 (l_bin rfl rfl (b_incN (of_decide_eq_true b9036) l9037)) (dv1 (l_assign (.v _)) (dvE ?_))))
        cases hF
        refine qL rfl ?_
        exact (le_of [(0, some 0), (1, some 1), (2, some 2), (3, some 3)] rfl (.s (.s (.s .nil rfl) rfl) rfl) (.box rfl rfl (.s rfl) (.row rfl rfl rfl (clm k_MSigct _) (.row rfl rfl rfl (clm k_MClsct _) (.row rfl rfl rfl (clm k_MFunct _) .nil)))))
      · refine w_condF rfl b9036 ?_
        refine w_exit ?_
        cases hF
        cases hx9034 _ rfl
        refine q_exS (q_exS (q_here (q_join ?_)))
        exact (le_of [(0, some 0), (1, some 1), (2, some 2), (3, some 3)] rfl (.s .nil rfl) (.box rfl rfl (.s rfl) (.row rfl rfl rfl (clm k_MSigct _) (.row rfl rfl rfl (clm k_MClsct _) (.row rfl rfl rfl (clm k_MFunct _) .nil)))))
    replace hF := hG6031
    refine w_seq (w_region (by rfl) (dv1 (l_move (.ad _ _ _ _)) (dv1 (l_assign (.ad _ _ _ _)) (dvE (q_seq (W.le (le_close 0 0 rfl rfl (.cons (.of (.rf rfl rfl (clm k_MSigct _))) (.cons (.of (.rf rfl rfl (clm k_MClsct _))) (.cons (.of (.rf rfl rfl (clm k_MFunct _))) .nil))) (by decide) (by decide) rfl) ?_))))))
    refine w_ret ?_
    cases hF
    refine q_end (.inr rfl) ?_
    exact ret_ok rfl (.cons (.tmp (.ad _ _ _ _) (.ad rfl (cl1 (.sl _ _ (clm k_MSigct _)) (cl1 (.sl _ _ (clm k_MClsct _)) (cl1 (.sl _ _ (clm k_MFunct _)) (cl0 (b := true))))))) .nil) (by decide) rfl

def p_R16_Own (a0 : MFun) : Option MFun :=
((p_R05_Own (some (⟨[], [], [a0]⟩ : MPrg))).bind fun y1 =>
(optC y1
(none)
(fun p3 =>
((p3.Funcs[0]?).bind fun x4 =>
some x4))))

theorem p_R16_Own_ok {r : MFun} : rOk (.ag (MFun.ct r)) = true ∧ FrT (.ag (MFun.ct r)) := ⟨rfl, (.one (.ag (k_MFunct _)))⟩

set_option maxRecDepth 10000 in
set_option maxHeartbeats 4000000 in
theorem p_R16_Own_ac {a0 : MFun} {r : MFun} (hF : p_R16_Own a0 = some r) : AC Tryd.prog GT 22 [.ag (MFun.ct a0)] (fun c => c = .ag (MFun.ct r)) := by
  unfold p_R16_Own at hF
  refine AC.mk (nt := 13) Tryd.func22 rfl rfl rfl fun w N => ?_
  refine w_seq (w_region (by rfl) (dvN (l_box (.ag _) rfl rfl) (dvN (l_alloc zt31) (dvE (q_seq (w_seq (w_region (by rfl) (dv1 (l_loadA ty31 rfl rfl rfl rfl rfl) ?_))))))))
  refine dvN (l_bs1 sl24 zt31 rfl (.ag _) rfl rfl rfl (by decide) (by decide)) (dv1 (l_build st26 zt26 (.cons (.rf _ _ _ _) .nil) rfl rfl) (dvN (l_box (.ag _) rfl rfl) (dvG (le_close 320 0 rfl rfl (.cons (.of (.v _)) (.cons (.of (.v _)) (.cons (.of (.rf rfl rfl (cr1 (cl1 (.v _) (cl1 (.ro _ rfl) (cl0 (b := true)))) cr0))) .nil))) (by decide) (by decide) rfl) ?_)))
  obtain ⟨y1, h2, hF⟩ := bindE hF
  rcases y1 with _ | p3
  · replace hF := optN hF
    refine dvC (l_call (B := true) (FnI.mk' (by kernel_rfl)) (.cons (.ad _ _ _ _) (.one (.ad rfl rfl rfl (cl1 (.v _) (cl1 (.v _) (cl1 (.sl _ _ (cr1 (cl1 (.v _) (cl1 (.ro _ rfl) (cl0 (b := true)))) cr0)) (cl0 (b := true))))))) .nil) (AC.rd (p_R05_Own_ac h2) (.cons (.rp (.cons (Wk.nil _ _) (.cons (Wk.nil _ _) (.cons (Wk.sl (.cons (.cons (Wk.refl _) (.cons (Wk.ro (Wk.refl _)) .nil)) .nil)) .nil)))) .nil)) (okT p_R05_Own_ok)) ?_
    rintro _ rfl
    exact nomatch hF
  · replace hF := optS hF
    refine dvC (l_call (B := true) (FnI.mk' (by kernel_rfl)) (.cons (.ad _ _ _ _) (.one (.ad rfl rfl rfl (cl1 (.v _) (cl1 (.v _) (cl1 (.sl _ _ (cr1 (cl1 (.v _) (cl1 (.ro _ rfl) (cl0 (b := true)))) cr0)) (cl0 (b := true))))))) .nil) (AC.rd (p_R05_Own_ac h2) (.cons (.rp (.cons (Wk.nil _ _) (.cons (Wk.nil _ _) (.cons (Wk.sl (.cons (.cons (Wk.refl _) (.cons (Wk.ro (Wk.refl _)) .nil)) .nil)) .nil)))) .nil)) (okT p_R05_Own_ok)) ?_
    rintro _ rfl
    refine dv1 (l_nil rfl) (dv1 (l_field fd26_2 rfl) (dvG (le_open 384 0 rfl rfl rfl) ?_))
    refine dv1 (l_load ty24 rfl rfl rfl rfl rfl) ?_
    obtain ⟨x4, h5, hF⟩ := bindE hF
    refine dv1 (l_index 0 sl24 rfl rfl rfl (lt_at MFun.ct h5)) (dvG (le_open 578 0 rfl (map_at h5) rfl) ?_)
    refine dv1 (l_loadA ty31 rfl rfl (set_at h5) rfl rfl) (dvS (l_store ty31 rfl (.ag _) rfl rfl rfl (Nat.le_of_ble_eq_true rfl) rfl) (dvE (q_seq (w_ret ?_))))
    cases hF
    refine q_end (.inr rfl) ?_
    exact ret_ok rfl (.cons (.cellA ty31 rfl rfl rfl (.cons (.of (.v _)) (.cons (.of (.rf rfl rfl (clm k_MBlkct _))) .nil))) .nil) (by decide) rfl

def p_R04_To (a0 : Int) (a1 : List Int) : Option Int :=
(((bif decide ((0 : Int) ≤ a0) then
some (decide (a0 < ((a1.length : Nat) : Int)))
else
some false)).bind fun (s2 : Bool) =>
(bif s2 then
((atI a1 a0).bind fun x6 =>
some x6)
else
some a0))

theorem p_R04_To_ok {r : Int} : rOk (.v (.int .i64 r)) = true ∧ FrT (.v (.int .i64 r)) := ⟨rfl, (.one (.cl (.v _)))⟩

set_option maxRecDepth 10000 in
set_option maxHeartbeats 4000000 in
theorem p_R04_To_ac {a0 : Int} {a1 : List Int} {r : Int} (hF : p_R04_To a0 a1 = some r) : AC Tryd.prog GT 24 [.v (.int .i64 a0), .sl 3 1 (a1.map iC)] (fun c => c = .v (.int .i64 r)) := by
  unfold p_R04_To at hF
  refine AC.mk (nt := 18) Tryd.func24 rfl rfl rfl fun w N => ?_
  refine w_seq (w_region (by rfl) (dv1 (l_assign (.v _)) (dvE (q_seq (w_seq ?_)))))
  obtain ⟨s2, hF, hG3⟩ := bindE hF
  refine w_seqJ ⟨[(0, .v (.int .i64 a0)), (1, .ro (.sl 3 1 (a1.map iC))), (12, .v (.bool s2))], [], 1⟩ ?_ ?_
  · refine w_region (by rfl) (dv1 (l_move (.v _)) (dv1 (l_bin rfl rfl b_geq) (dv1 (l_move (.v _)) ?_)))
    rcases condE hF with ⟨b4, hF⟩ | ⟨b4, hF⟩
    · refine dv1 (l_gT rfl rfl (gt rfl b4) fun _ => l_move (.v _)) (dv1 (l_gT rfl rfl (gt rfl b4) fun _ => l_move (.ro _)) (dv1 (l_gT rfl rfl (gt rfl b4) fun _ => l_lenRo sl27 rfl rfl (List.length_map _)) (dv1 (l_gT rfl rfl (gt rfl b4) fun _ => l_bin rfl rfl b_lss) (dv1 (l_pickT (gt rfl b4) (.v _)) (dvE ?_)))))
      cases hF
      refine q_join ?_
      exact (le_of [] rfl (.s (.s (.s .nil rfl) rfl) rfl) .nil)
    · refine dv1 (l_gF rfl rfl (gt rfl b4) rfl) (dv1 (l_gF rfl rfl (gt rfl b4) rfl) (dv1 (l_gF rfl rfl (gt rfl b4) rfl) (dv1 (l_gF rfl rfl (gt rfl b4) rfl) (dv1 (l_pickF (gt rfl b4) (.v _)) (dvE ?_)))))
      cases hF
      refine q_join ?_
      exact (le_of [] rfl (.s (.s (.s .nil rfl) rfl) rfl) .nil)
  replace hF := hG3
  rcases condE hF with ⟨b5, hF⟩ | ⟨b5, hF⟩
  · refine w_condT rfl b5 ?_
    refine w_seq (w_region (by rfl) (dv1 (l_move (.ro _)) (dv1 (l_move (.v _)) ?_)))
    obtain ⟨x6, h7, hF⟩ := bindE hF
    refine dv1 (l_indexRo a0.toNat sl27 rfl rfl (atI_z h7) (map_at (atI_at h7))) (dv1 (l_loadRo ty3 rfl rfl) (dv1 (l_assign (.v _)) (dvE (q_seq (w_ret (q_reS ?_))))))
    cases hF
    refine q_end (.inr rfl) ?_
    exact ret_ok rfl (.cons (.tmp (.v _) (.v _)) .nil) (by decide) rfl
  · refine w_condF rfl b5 ?_
    refine w_skip (q_seq (w_seq (w_region (by rfl) (dv1 (l_move (.v _)) (dv1 (l_assign (.v _)) (dvE (q_seq (w_ret ?_))))))))
    cases hF
    refine q_end (.inr rfl) ?_
    exact ret_ok rfl (.cons (.tmp (.v _) (.v _)) .nil) (by decide) rfl

def p_R04_All (a0 : List Int) (a1 : List Int) : Option ((List Int)) :=
(((loop (fun (s3004 : (List Int) × Nat) =>
(bif decide (s3004.2 < a0.length) then
((a0[s3004.2]?).bind fun x3010 =>
((p_R04_To x3010 a1).bind fun y3012 =>
(ck ((s3004.1.length + 1) * 8 ≤ 140737488355328)
(some (Xt.go ((s3004.1 ++ [y3012]), (s3004.2 + 1)))))))
else
some (Xt.out s3004.1))) Fu (([] : List Int), 0))).bind fun (s2 : (List Int)) =>
some s2)

theorem p_R04_All_ok {r : (List Int)} : rOk (.sl 3 1 (r.map iC)) = true ∧ FrT (.sl 3 1 (r.map iC)) := ⟨rfl, (.one (.cl (.sl _ _ (clm k_iC _))))⟩

set_option maxRecDepth 10000 in
set_option maxHeartbeats 4000000 in
theorem p_R04_All_ac {a0 : List Int} {a1 : List Int} {r : (List Int)} (hF : p_R04_All a0 a1 = some r) : AC Tryd.prog GT 26 [.sl 3 1 (a0.map iC), .sl 3 1 (a1.map iC)] (fun c => c = .sl 3 1 (r.map iC)) := by
  unfold p_R04_All at hF
  refine AC.mk (nt := 24) Tryd.func26 rfl rfl rfl fun w N => ?_
  refine w_seq (w_region (by rfl) (dv1 (l_assign (.v _)) (dvE (q_seq (w_seq (w_region (by rfl) (dvN (l_bs0 sl27 zt3 rfl (by decide)) (dv1 (l_assign (.rf _ _ _ _)) ?_))))))))
  refine dvE (q_seq ?_)
  obtain ⟨s2, hF, hG3⟩ := bindE hF
  refine w_seqJ ⟨[(5, .rf 0 0 ((s2.map iC).length) 1)], [(0, some ⟨3, 1, s2.map iC⟩)], 1⟩ ?_ ?_
  · refine w_seq (w_region (by rfl) (dv1 (l_assign (.v _)) (dvE (q_seq (w_block (w_loopF hF (fun (s3004 : (List Int) × Nat) => ⟨[(0, .ro (.sl 3 1 (a0.map iC))), (1, .ro (.sl 3 1 (a1.map iC))), (5, .rf 0 0 ((s3004.1.map iC).length) 1), (6, .v (.int .i64 ((s3004.2 : Nat) : Int)))], [(0, some ⟨3, 1, s3004.1.map iC⟩)], 1⟩) (le_of [(0, some 64)] rfl (.s (.s (.s (.s .nil rfl) rfl) rfl) rfl) (.row rfl rfl rfl (clm k_iC _) .nil)) ?_))))))
    intro s3004 y3005 hF hx3006
    refine w_seq (w_seq (w_region (by rfl) (dv1 (l_move (.v _)) (dv1 (l_move (.ro _)) (dv1 (l_lenRo sl27 rfl rfl (List.length_map _)) (dv1 (l_bin rfl rfl b_lssN) (dvE (q_seq ?_))))))))
    rcases condE hF with ⟨b3008, hF⟩ | ⟨b3008, hF⟩
    · refine w_lenS 0 rfl fun l3009 => ?_
      refine w_condT rfl b3008 ?_
      refine w_skip (q_seq (w_seq (w_block (w_region (by rfl) (dv1 (l_move (.rf _ _ _ _)) (dv1 (l_move (.ro _)) (dv1 (l_move (.v _)) ?_)))))))
      obtain ⟨x3010, h3011, hF⟩ := bindE hF
      refine dv1 (l_indexRo s3004.2 sl27 rfl rfl rfl (map_at h3011)) (dv1 (l_loadRo ty3 rfl rfl) (dv1 (l_move (.ro _)) ?_))
      obtain ⟨y3012, h3013, hF⟩ := bindE hF
      refine dvC (l_call (B := false) (FnI.mk' (by kernel_rfl)) (.cons (.v _) (.one (.v _)) (.cons (.ro _) (.one (.ro _)) .nil)) (p_R04_To_ac h3013) (okF p_R04_To_ok)) ?_
      rintro _ rfl
      refine dvN (l_bs1 sl27 zt3 rfl (.v _) rfl rfl rfl (by decide) (by decide)) ?_
      obtain ⟨c3014, hF⟩ := ckE hF
      refine dvN3 (l_app1R el27 rfl rfl rfl rfl rfl rfl (by decide) (map_snoc iC _ y3012) (List.length_map _) (by simpa using c3014) (by decide)) ?_
      refine dv1 (l_assign (.rf _ _ _ _)) (dvE (q_in (q_seq (w_region (by rfl) (dv1 (l_move (.v _)) (dv1 (l_bin rfl rfl (b_incN (of_decide_eq_true b3008) l3009)) (dv1 (l_assign (.v _)) (dvE ?_))))))))
      cases hF
      refine qL rfl ?_
      exact (le_of [(0, some 832)] rfl (.s (.s (.cons (.rf _ _ _ _) (.rf rfl (by simp)) (.s .nil rfl)) rfl) rfl) (.row rfl rfl rfl (clm k_iC _) .nil))
    · refine w_condF rfl b3008 ?_
      refine w_exit ?_
      cases hF
      cases hx3006 _ rfl
      refine q_exS (q_exS (q_here (q_join ?_)))
      exact (le_of [(0, some 0)] rfl (.s .nil rfl) (.row rfl rfl rfl (clm k_iC _) .nil))
  replace hF := hG3
  refine w_seq (w_region (by rfl) (dv1 (l_move (.rf _ _ _ _)) (dv1 (l_assign (.rf _ _ _ _)) (dvE (q_seq (w_ret ?_))))))
  cases hF
  refine q_end (.inr rfl) ?_
  exact ret_ok rfl (.cons (.tmp (.rf _ _ _ _) (.rf rfl rfl (clm k_iC _))) .nil) (by decide) rfl

def p_R04_Renamed (a0 : MOp) (a1 : List Int) : Option MOp :=
((p_R04_Plain a0).bind fun y1 =>
((((p_R04_Has y1.K 65).bind fun y6 =>
(bif y6 then
((p_R04_To y1.A a1).bind fun y9 =>
some y9)
else
some y1.A))).bind fun (s4 : Int) =>
((((p_R04_Has y1.K 66).bind fun y14 =>
(bif y14 then
((p_R04_To y1.B a1).bind fun y17 =>
some y17)
else
some y1.B))).bind fun (s12 : Int) =>
((((p_R04_Has y1.K 67).bind fun y22 =>
(bif y22 then
((p_R04_To y1.C a1).bind fun y25 =>
some y25)
else
some y1.C))).bind fun (s20 : Int) =>
((((p_R04_Has y1.K 76).bind fun y30 =>
(bif y30 then
((p_R04_All y1.L a1).bind fun y33 =>
some y33)
else
some y1.L))).bind fun (s28 : (List Int)) =>
some (⟨y1.K, s4, s12, s20, y1.N, y1.S, s28, y1.Stack⟩ : MOp))))))

theorem p_R04_Renamed_ok {r : MOp} : rOk (.ag (MOp.ct r)) = true ∧ FrT (.ag (MOp.ct r)) := ⟨rfl, (.one (.ag (k_MOpct _)))⟩

set_option maxRecDepth 10000 in
set_option maxHeartbeats 4000000 in
theorem p_R04_Renamed_ac {a0 : MOp} {a1 : List Int} {r : MOp} (hF : p_R04_Renamed a0 a1 = some r) : AC Tryd.prog GT 23 [.ag (MOp.ct a0), .sl 3 1 (a1.map iC)] (fun c => c = .ag (MOp.ct r)) := by
  unfold p_R04_Renamed at hF
  refine AC.mk (nt := 40) Tryd.func23 rfl rfl rfl fun w N => ?_
  refine w_seq (w_region (by rfl) (dvN (l_box (.ag _) rfl rfl) (dvN (l_alloc zt49) (dvE (q_seq (w_seq (w_region (by rfl) (dv1 (l_loadA ty49 rfl rfl rfl rfl rfl) ?_))))))))
  obtain ⟨y1, h2, hF⟩ := bindE hF
  refine dvC (l_call (B := false) (FnI.mk' (by kernel_rfl)) (.cons (.ag _) (.ag (.cons (.v _) (.cons (.v _) (.cons (.v _) (.cons (.v _) (.cons (.v _) (.cons (.v _) (.cons (.ro _) (.cons (.v _) .nil))))))))) .nil) (p_R04_Plain_ac h2) (okF p_R04_Plain_ok)) ?_
  rintro _ rfl
  refine dvS (l_store ty49 rfl (.ag _) rfl rfl rfl (Nat.le_of_ble_eq_true rfl) rfl) (dvE (q_seq ?_))
  obtain ⟨s4, hF, hG5⟩ := bindE hF
  refine w_seqJ ⟨[(1, .ro (.sl 3 1 (a1.map iC))), (2, .ad 0 8 0 0), (4, .ad 2 8 0 0)], [(0, some ⟨49, 8, [[.v (.int .i64 y1.K), .v (.int .i64 s4), .v (.int .i64 y1.B), .v (.int .i64 y1.C), .v (.int .i64 y1.N), .v (.string y1.S), .rf 1 0 ((y1.L.map iC).length) 1, .v (.bool y1.Stack)]]⟩), (1, some ⟨3, 1, y1.L.map iC⟩), (2, some ⟨49, 8, [[.v (.int .i64 0), .v (.int .i64 0), .v (.int .i64 0), .v (.int .i64 0), .v (.int .i64 0), .v (.string ⟨#[]⟩), .v (.slice none 0 0), .v (.bool false)]]⟩)], 1⟩ ?_ ?_
  · refine w_seq (w_region (by rfl) (dv1 (l_field fd49_0 rfl) (dv1 (l_load ty3 rfl rfl rfl rfl rfl) ?_)))
    obtain ⟨y6, h7, hF⟩ := bindE hF
    refine dvC (l_call (B := false) (FnI.mk' (by kernel_rfl)) (.cons (.v _) (.one (.v _)) (.cons (.v _) (.one (.v _)) .nil)) (p_R04_Has_ac h7) (okF p_R04_Has_ok)) ?_
    rintro _ rfl
    refine dvE (q_seq ?_)
    rcases condE hF with ⟨b8, hF⟩ | ⟨b8, hF⟩
    · refine w_condT rfl b8 ?_
      refine w_region (by rfl) (dv1 (l_field fd49_1 rfl) (dv1 (l_load ty3 rfl rfl rfl rfl rfl) (dv1 (l_move (.ro _)) ?_)))
      obtain ⟨y9, h10, hF⟩ := bindE hF
      refine dvC (l_call (B := false) (FnI.mk' (by kernel_rfl)) (.cons (.v _) (.one (.v _)) (.cons (.ro _) (.one (.ro _)) .nil)) (p_R04_To_ac h10) (okF p_R04_To_ok)) ?_
      rintro _ rfl
      refine dv1 (l_field fd49_1 rfl) (dvS (l_store ty3 rfl (.v _) rfl rfl rfl (Nat.le_of_ble_eq_true rfl) rfl) (dvE ?_))
      cases hF
      refine q_join ?_
      exact (le_of [(0, some 0), (1, some 198), (2, some 64)] rfl (.s (.s (.s .nil rfl) rfl) rfl) (.box rfl rfl (.s rfl) (.row rfl rfl rfl (clm k_iC _) (.box rfl rfl (.s rfl) .nil))))
    · refine w_condF rfl b8 ?_
      refine w_skip ?_
      cases hF
      refine q_join ?_
      exact (le_of [(0, some 0), (1, some 198), (2, some 64)] rfl (.s (.s (.s .nil rfl) rfl) rfl) (.box rfl rfl (.s rfl) (.row rfl rfl rfl (clm k_iC _) (.box rfl rfl (.s rfl) .nil))))
  replace hF := hG5
  obtain ⟨s12, hF, hG13⟩ := bindE hF
  refine w_seqJ ⟨[(1, .ro (.sl 3 1 (a1.map iC))), (2, .ad 0 8 0 0), (4, .ad 2 8 0 0)], [(0, some ⟨49, 8, [[.v (.int .i64 y1.K), .v (.int .i64 s4), .v (.int .i64 s12), .v (.int .i64 y1.C), .v (.int .i64 y1.N), .v (.string y1.S), .rf 1 0 ((y1.L.map iC).length) 1, .v (.bool y1.Stack)]]⟩), (1, some ⟨3, 1, y1.L.map iC⟩), (2, some ⟨49, 8, [[.v (.int .i64 0), .v (.int .i64 0), .v (.int .i64 0), .v (.int .i64 0), .v (.int .i64 0), .v (.string ⟨#[]⟩), .v (.slice none 0 0), .v (.bool false)]]⟩)], 1⟩ ?_ ?_
  · refine w_seq (w_region (by rfl) (dv1 (l_field fd49_0 rfl) (dv1 (l_load ty3 rfl rfl rfl rfl rfl) ?_)))
    obtain ⟨y14, h15, hF⟩ := bindE hF
    refine dvC (l_call (B := false) (FnI.mk' (by kernel_rfl)) (.cons (.v _) (.one (.v _)) (.cons (.v _) (.one (.v _)) .nil)) (p_R04_Has_ac h15) (okF p_R04_Has_ok)) ?_
    rintro _ rfl
    refine dvE (q_seq ?_)
    rcases condE hF with ⟨b16, hF⟩ | ⟨b16, hF⟩
    · refine w_condT rfl b16 ?_
      refine w_region (by rfl) (dv1 (l_field fd49_2 rfl) (dv1 (l_load ty3 rfl rfl rfl rfl rfl) (dv1 (l_move (.ro _)) ?_)))
      obtain ⟨y17, h18, hF⟩ := bindE hF
      refine dvC (l_call (B := false) (FnI.mk' (by kernel_rfl)) (.cons (.v _) (.one (.v _)) (.cons (.ro _) (.one (.ro _)) .nil)) (p_R04_To_ac h18) (okF p_R04_To_ok)) ?_
      rintro _ rfl
      refine dv1 (l_field fd49_2 rfl) (dvS (l_store ty3 rfl (.v _) rfl rfl rfl (Nat.le_of_ble_eq_true rfl) rfl) (dvE ?_))
      cases hF
      refine q_join ?_
      exact (le_of [(0, some 0), (1, some 1), (2, some 2)] rfl (.s (.s (.s .nil rfl) rfl) rfl) (.box rfl rfl (.s rfl) (.row rfl rfl rfl (clm k_iC _) (.box rfl rfl (.s rfl) .nil))))
    · refine w_condF rfl b16 ?_
      refine w_skip ?_
      cases hF
      refine q_join ?_
      exact (le_of [(0, some 0), (1, some 1), (2, some 2)] rfl (.s (.s (.s .nil rfl) rfl) rfl) (.box rfl rfl (.s rfl) (.row rfl rfl rfl (clm k_iC _) (.box rfl rfl (.s rfl) .nil))))
  replace hF := hG13
  obtain ⟨s20, hF, hG21⟩ := bindE hF
  refine w_seqJ ⟨[(1, .ro (.sl 3 1 (a1.map iC))), (2, .ad 0 8 0 0), (4, .ad 2 8 0 0)], [(0, some ⟨49, 8, [[.v (.int .i64 y1.K), .v (.int .i64 s4), .v (.int .i64 s12), .v (.int .i64 s20), .v (.int .i64 y1.N), .v (.string y1.S), .rf 1 0 ((y1.L.map iC).length) 1, .v (.bool y1.Stack)]]⟩), (1, some ⟨3, 1, y1.L.map iC⟩), (2, some ⟨49, 8, [[.v (.int .i64 0), .v (.int .i64 0), .v (.int .i64 0), .v (.int .i64 0), .v (.int .i64 0), .v (.string ⟨#[]⟩), .v (.slice none 0 0), .v (.bool false)]]⟩)], 1⟩ ?_ ?_
  · refine w_seq (w_region (by rfl) (dv1 (l_field fd49_0 rfl) (dv1 (l_load ty3 rfl rfl rfl rfl rfl) ?_)))
    obtain ⟨y22, h23, hF⟩ := bindE hF
    refine dvC (l_call (B := false) (FnI.mk' (by kernel_rfl)) (.cons (.v _) (.one (.v _)) (.cons (.v _) (.one (.v _)) .nil)) (p_R04_Has_ac h23) (okF p_R04_Has_ok)) ?_
    rintro _ rfl
    refine dvE (q_seq ?_)
    rcases condE hF with ⟨b24, hF⟩ | ⟨b24, hF⟩
    · refine w_condT rfl b24 ?_
      refine w_region (by rfl) (dv1 (l_field fd49_3 rfl) (dv1 (l_load ty3 rfl rfl rfl rfl rfl) (dv1 (l_move (.ro _)) ?_)))
      obtain ⟨y25, h26, hF⟩ := bindE hF
      refine dvC (l_call (B := false) (FnI.mk' (by kernel_rfl)) (.cons (.v _) (.one (.v _)) (.cons (.ro _) (.one (.ro _)) .nil)) (p_R04_To_ac h26) (okF p_R04_To_ok)) ?_
      rintro _ rfl
      refine dv1 (l_field fd49_3 rfl) (dvS (l_store ty3 rfl (.v _) rfl rfl rfl (Nat.le_of_ble_eq_true rfl) rfl) (dvE ?_))
      cases hF
      refine q_join ?_
      exact (le_of [(0, some 0), (1, some 1), (2, some 2)] rfl (.s (.s (.s .nil rfl) rfl) rfl) (.box rfl rfl (.s rfl) (.row rfl rfl rfl (clm k_iC _) (.box rfl rfl (.s rfl) .nil))))
    · refine w_condF rfl b24 ?_
      refine w_skip ?_
      cases hF
      refine q_join ?_
      exact (le_of [(0, some 0), (1, some 1), (2, some 2)] rfl (.s (.s (.s .nil rfl) rfl) rfl) (.box rfl rfl (.s rfl) (.row rfl rfl rfl (clm k_iC _) (.box rfl rfl (.s rfl) .nil))))
  replace hF := hG21
  obtain ⟨s28, hF, hG29⟩ := bindE hF
  refine w_seqJ ⟨[(2, .ad 0 8 0 0), (4, .ad 2 8 0 0)], [(0, some ⟨49, 8, [[.v (.int .i64 y1.K), .v (.int .i64 s4), .v (.int .i64 s12), .v (.int .i64 s20), .v (.int .i64 y1.N), .v (.string y1.S), .rf 1 0 ((s28.map iC).length) 1, .v (.bool y1.Stack)]]⟩), (1, some ⟨3, 1, s28.map iC⟩), (2, some ⟨49, 8, [[.v (.int .i64 0), .v (.int .i64 0), .v (.int .i64 0), .v (.int .i64 0), .v (.int .i64 0), .v (.string ⟨#[]⟩), .v (.slice none 0 0), .v (.bool false)]]⟩)], 1⟩ ?_ ?_
  · refine w_seq (w_region (by rfl) (dv1 (l_field fd49_0 rfl) (dv1 (l_load ty3 rfl rfl rfl rfl rfl) ?_)))
    obtain ⟨y30, h31, hF⟩ := bindE hF
    refine dvC (l_call (B := false) (FnI.mk' (by kernel_rfl)) (.cons (.v _) (.one (.v _)) (.cons (.v _) (.one (.v _)) .nil)) (p_R04_Has_ac h31) (okF p_R04_Has_ok)) ?_
    rintro _ rfl
    refine dvE (q_seq ?_)
    rcases condE hF with ⟨b32, hF⟩ | ⟨b32, hF⟩
    · refine w_condT rfl b32 ?_
      refine w_region (by rfl) (dv1 (l_field fd49_6 rfl) (dv1 (l_load ty27 rfl rfl rfl rfl rfl) (dv1 (l_move (.ro _)) ?_)))
      obtain ⟨y33, h34, hF⟩ := bindE hF
      refine dvC (l_call (B := true) (FnI.mk' (by kernel_rfl)) (.cons (.rf _ _ _ _) (.one (.rf rfl rfl rfl (clm k_iC _))) (.cons (.ro _) (.one (.ro _)) .nil)) (p_R04_All_ac h34) (okT p_R04_All_ok)) ?_
      rintro _ rfl
      refine dv1 (l_field fd49_6 rfl) (dvS (l_store ty27 rfl (.rf _ _ _ _) rfl rfl rfl (Nat.le_of_ble_eq_true rfl) rfl) (dvE ?_))
      cases hF
      refine q_join ?_
      exact (le_of [(0, some 0), (1, some 448), (2, some 2)] rfl (.s (.s .nil rfl) rfl) (.box rfl rfl (.s rfl) (.row rfl rfl rfl (clm k_iC _) (.box rfl rfl (.s rfl) .nil))))
    · refine w_condF rfl b32 ?_
      refine w_skip ?_
      cases hF
      refine q_join ?_
      exact (le_of [(0, some 0), (1, some 1), (2, some 2)] rfl (.s (.s .nil rfl) rfl) (.box rfl rfl (.s rfl) (.row rfl rfl rfl (clm k_iC _) (.box rfl rfl (.s rfl) .nil))))
  replace hF := hG29
  refine w_seq (w_region (by rfl) (dv1 (l_loadA ty49 rfl rfl rfl rfl rfl) (dvS (l_store ty49 rfl (.ag _) rfl rfl rfl (Nat.le_of_ble_eq_true rfl) rfl) (dvE (q_seq (w_ret ?_))))))
  cases hF
  refine q_end (.inr rfl) ?_
  exact ret_ok rfl (.cons (.cellA ty49 rfl rfl rfl (.cons (.of (.v _)) (.cons (.of (.v _)) (.cons (.of (.v _)) (.cons (.of (.v _)) (.cons (.of (.v _)) (.cons (.of (.v _)) (.cons (.of (.rf rfl rfl (clm k_iC _))) (.cons (.of (.v _)) .nil))))))))) .nil) (by decide) rfl

def p_R04_Ints (a0 : List Int) (a1 : List Int) : Option Bool :=
(bif decide (((a0.length : Nat) : Int) = ((a1.length : Nat) : Int)) then
(((loop (fun (s3004 : Nat) =>
(bif decide (s3004 < a0.length) then
((a0[s3004]?).bind fun x3010 =>
((a1[s3004]?).bind fun x3012 =>
(bif decide (x3010 = x3012) then
some (Xt.go (s3004 + 1))
else
some (Xt.out (Xt.out false)))))
else
some (Xt.out (Xt.go ())))) Fu 0)).bind fun s2 => s2.on (fun (s3015 : Unit) =>
some true)
(fun o3017 => some o3017))
else
some false)

theorem p_R04_Ints_ok {r : Bool} : rOk (.v (.bool r)) = true ∧ FrT (.v (.bool r)) := ⟨rfl, (.one (.cl (.v _)))⟩

set_option maxRecDepth 10000 in
set_option maxHeartbeats 4000000 in
theorem p_R04_Ints_ac {a0 : List Int} {a1 : List Int} {r : Bool} (hF : p_R04_Ints a0 a1 = some r) : AC Tryd.prog GT 17 [.sl 3 1 (a0.map iC), .sl 3 1 (a1.map iC)] (fun c => c = .v (.bool r)) := by
  unfold p_R04_Ints at hF
  refine AC.mk (nt := 26) Tryd.func17 rfl rfl rfl fun w N => ?_
  refine w_seq (w_region (by rfl) (dv1 (l_assign (.v _)) (dvE (q_seq (w_seq (w_seq (w_region (by rfl) (dv1 (l_move (.ro _)) ?_))))))))
  refine dv1 (l_lenRo sl27 rfl rfl (List.length_map _)) (dv1 (l_move (.ro _)) (dv1 (l_lenRo sl27 rfl rfl (List.length_map _)) (dv1 (l_bin rfl rfl b_neq) (dvE (q_seq ?_)))))
  rcases condE hF with ⟨b1, hF⟩ | ⟨b1, hF⟩
  · refine w_condF rfl (nF b1) ?_
    refine w_skip (q_seq ?_)
    obtain ⟨s2, hF, hG3⟩ := bindE hF
    refine w_seqE s2 (fun (s3015 : Unit) => ⟨[], [], 1⟩) ?_ (fun s3015 e3016 => ?_)
    · refine w_seq (w_region (by rfl) (dv1 (l_assign (.v _)) (dvE (q_seq (w_block (w_loopF hF (fun (s3004 : Nat) => ⟨[(0, .ro (.sl 3 1 (a0.map iC))), (1, .ro (.sl 3 1 (a1.map iC))), (5, .v (.int .i64 ((s3004 : Nat) : Int)))], [], 1⟩) (le_of [] rfl (.s (.s (.s .nil rfl) rfl) rfl) .nil) ?_))))))
      intro s3004 y3005 hF hx3006
      refine w_seq (w_seq (w_region (by rfl) (dv1 (l_move (.v _)) (dv1 (l_move (.ro _)) (dv1 (l_lenRo sl27 rfl rfl (List.length_map _)) (dv1 (l_bin rfl rfl b_lssN) (dvE (q_seq ?_))))))))
      rcases condE hF with ⟨b3008, hF⟩ | ⟨b3008, hF⟩
      · refine w_lenS 0 rfl fun l3009 => ?_
        refine w_condT rfl b3008 ?_
        refine w_skip (q_seq (w_seq (w_block (w_seq (w_draw [[], [], [0, 1], [0, 1, 2], [], [], [4, 5], [4, 5, 6], [0, 1, 2, 3, 4, 5, 6, 7]] [0, 1, 2, 3, 4, 5, 6, 7, 8] (by kernel_rfl) (by rfl) ⟨by decide, by rfl⟩ (by rfl) ?_)))))
        refine de1 rfl (l_move (.ro _)) rfl (de1 rfl (l_move (.v _)) rfl ?_)
        obtain ⟨x3010, h3011, hF⟩ := bindE hF
        refine de1 rfl (l_indexRo s3004 sl27 rfl rfl rfl (map_at h3011)) rfl (de1 rfl (l_loadRo ty3 rfl rfl) rfl (de1 rfl (l_move (.ro _)) rfl (de1 rfl (l_move (.v _)) rfl ?_)))
        obtain ⟨x3012, h3013, hF⟩ := bindE hF
        refine de1 rfl (l_indexRo s3004 sl27 rfl rfl rfl (map_at h3013)) rfl (de1 rfl (l_loadRo ty3 rfl rfl) rfl (de1 rfl (l_bin rfl rfl b_neq) rfl (ddE (q_seq ?_))))
        rcases condE hF with ⟨b3014, hF⟩ | ⟨b3014, hF⟩
        · refine w_condF rfl (nF b3014) ?_
          refine w_skip (q_in (q_seq (w_region (by rfl) (dv1 (l_move (.v _)) (dv1 (l_bin rfl rfl (b_incN (of_decide_eq_true b3008) l3009)) (dv1 (l_assign (.v _)) (dvE ?_)))))))
          cases hF
          refine qL rfl ?_
          exact (le_of [] rfl (.s (.s (.s .nil rfl) rfl) rfl) .nil)
        · refine w_condT rfl (nT b3014) ?_
          refine w_seq (w_region (by rfl) (dv1 (l_assign (.v _)) (dvE (q_seq (w_ret (q_reI (q_reS (q_reS ?_))))))))
          refine q_reI (q_reS ?_)
          cases hF
          cases hx3006 _ rfl
          have hF := onOut hG3
          cases hF
          refine q_end (.inr rfl) ?_
          exact ret_ok rfl (.cons (.tmp (.v _) (.v _)) .nil) (by decide) rfl
      · refine w_condF rfl b3008 ?_
        refine w_exit ?_
        cases hF
        cases hx3006 _ rfl
        refine q_exS (q_exS (q_here (qL rfl ?_)))
        exact (le_of [] rfl .nil .nil)
    subst e3016
    replace hF := onGo hG3
    refine w_seq (w_region (by rfl) (dv1 (l_assign (.v _)) (dvE (q_seq (w_ret ?_)))))
    cases hF
    refine q_end (.inr rfl) ?_
    exact ret_ok rfl (.cons (.tmp (.v _) (.v _)) .nil) (by decide) rfl
  · refine w_condT rfl (nT b1) ?_
    refine w_seq (w_region (by rfl) (dv1 (l_assign (.v _)) (dvE (q_seq (w_ret (q_reS ?_))))))
    cases hF
    refine q_end (.inr rfl) ?_
    exact ret_ok rfl (.cons (.tmp (.v _) (.v _)) .nil) (by decide) rfl

def p_R05_sameEnd (a0 : MEnd) (a1 : MEnd) : Option Bool :=
((p_R05_End a0).bind fun y1 =>
((p_R05_End a1).bind fun y3 =>
(((bif decide (y1.K = y3.K) then
(bif decide (y1.A = y3.A) then
(bif decide (y1.To = y3.To) then
(bif decide (y1.Else = y3.Else) then
((p_R04_Ints y1.L y3.L).bind fun y12 =>
(bif y12 then
((p_R04_Ints y1.M y3.M).bind fun y15 =>
some y15)
else
some false))
else
some false)
else
some false)
else
some false)
else
some false)).bind fun (s6 : Bool) =>
some s6)))

theorem p_R05_sameEnd_ok {r : Bool} : rOk (.v (.bool r)) = true ∧ FrT (.v (.bool r)) := ⟨rfl, (.one (.cl (.v _)))⟩

set_option maxRecDepth 10000 in
set_option maxHeartbeats 4000000 in
theorem p_R05_sameEnd_ac {a0 : MEnd} {a1 : MEnd} {r : Bool} (hF : p_R05_sameEnd a0 a1 = some r) : AC Tryd.prog GT 18 [.ag (MEnd.ct a0), .ag (MEnd.ct a1)] (fun c => c = .v (.bool r)) := by
  unfold p_R05_sameEnd at hF
  refine AC.mk (nt := 49) Tryd.func18 rfl rfl rfl fun w N => ?_
  refine w_seq (w_region (by rfl) (dvN (l_box (.ag _) rfl rfl) (dvN (l_box (.ag _) rfl rfl) (dv1 (l_assign (.v _)) (dvE (q_seq (w_seq (w_draw [[], [0], [], [0, 1, 2], [0, 1, 2, 3], [0, 1, 2, 3, 4]] [0, 2, 1, 3, 4, 5] (by kernel_rfl) (by rfl) ⟨by decide, by rfl⟩ (by rfl) ?_))))))))
  refine de1 rfl (l_loadA ty44 rfl rfl rfl rfl rfl) rfl (de1 rfl (l_loadA ty44 rfl rfl rfl rfl rfl) rfl ?_)
  obtain ⟨y1, h2, hF⟩ := bindE hF
  refine deC1 rfl (l_call (B := false) (FnI.mk' (by kernel_rfl)) (.cons (.ag _) (.ag (.cons (.v _) (.cons (.v _) (.cons (.v _) (.cons (.v _) (.cons (.ro _) (.cons (.ro _) .nil))))))) .nil) (p_R05_End_ac h2) (okF p_R05_End_ok)) rfl ?_
  obtain ⟨y3, h4, hF⟩ := bindE hF
  refine deC1 rfl (l_call (B := false) (FnI.mk' (by kernel_rfl)) (.cons (.ag _) (.ag (.cons (.v _) (.cons (.v _) (.cons (.v _) (.cons (.v _) (.cons (.ro _) (.cons (.ro _) .nil))))))) .nil) (p_R05_End_ac h4) (okF p_R05_End_ok)) rfl ?_
  refine deS rfl (l_store ty44 rfl (.ag _) rfl rfl rfl (Nat.le_of_ble_eq_true rfl) rfl) rfl (deS rfl (l_store ty44 rfl (.ag _) rfl rfl rfl (Nat.le_of_ble_eq_true rfl) rfl) rfl (ddE (q_seq ?_)))
  obtain ⟨s6, hF, hG7⟩ := bindE hF
  refine w_seqJ ⟨[(4, .v (.bool s6))], [], 1⟩ ?_ ?_
  · refine w_region (by rfl) (dv1 (l_field fd44_0 rfl) (dv1 (l_load ty3 rfl rfl rfl rfl rfl) (dv1 (l_field fd44_0 rfl) (dv1 (l_load ty3 rfl rfl rfl rfl rfl) (dv1 (l_bin rfl rfl b_eql) (dv1 (l_move (.v _)) ?_))))))
    rcases condE hF with ⟨b8, hF⟩ | ⟨b8, hF⟩
    · refine dv1 (l_gT rfl rfl (gt rfl b8) fun _ => l_field fd44_1 rfl) (dv1 (l_gT rfl rfl (gt rfl b8) fun _ => l_load ty3 rfl rfl rfl rfl rfl) (dv1 (l_gT rfl rfl (gt rfl b8) fun _ => l_field fd44_1 rfl) (dv1 (l_gT rfl rfl (gt rfl b8) fun _ => l_load ty3 rfl rfl rfl rfl rfl) (dv1 (l_gT rfl rfl (gt rfl b8) fun _ => l_bin rfl rfl b_eql) (dv1 (l_pickT (gt rfl b8) (.v _)) (dv1 (l_move (.v _)) ?_))))))
      rcases condE hF with ⟨b9, hF⟩ | ⟨b9, hF⟩
      · refine dv1 (l_gT rfl rfl (gt rfl b9) fun _ => l_field fd44_2 rfl) (dv1 (l_gT rfl rfl (gt rfl b9) fun _ => l_load ty3 rfl rfl rfl rfl rfl) (dv1 (l_gT rfl rfl (gt rfl b9) fun _ => l_field fd44_2 rfl) (dv1 (l_gT rfl rfl (gt rfl b9) fun _ => l_load ty3 rfl rfl rfl rfl rfl) (dv1 (l_gT rfl rfl (gt rfl b9) fun _ => l_bin rfl rfl b_eql) (dv1 (l_pickT (gt rfl b9) (.v _)) (dv1 (l_move (.v _)) ?_))))))
        rcases condE hF with ⟨b10, hF⟩ | ⟨b10, hF⟩
        · refine dv1 (l_gT rfl rfl (gt rfl b10) fun _ => l_field fd44_3 rfl) (dv1 (l_gT rfl rfl (gt rfl b10) fun _ => l_load ty3 rfl rfl rfl rfl rfl) (dv1 (l_gT rfl rfl (gt rfl b10) fun _ => l_field fd44_3 rfl) (dv1 (l_gT rfl rfl (gt rfl b10) fun _ => l_load ty3 rfl rfl rfl rfl rfl) (dv1 (l_gT rfl rfl (gt rfl b10) fun _ => l_bin rfl rfl b_eql) (dv1 (l_pickT (gt rfl b10) (.v _)) (dv1 (l_move (.v _)) ?_))))))
          rcases condE hF with ⟨b11, hF⟩ | ⟨b11, hF⟩
          · refine dv1 (l_gT rfl rfl (gt rfl b11) fun _ => l_field fd44_4 rfl) (dv1 (l_gT rfl rfl (gt rfl b11) fun _ => l_load ty27 rfl rfl rfl rfl rfl) (dv1 (l_gT rfl rfl (gt rfl b11) fun _ => l_field fd44_4 rfl) (dv1 (l_gT rfl rfl (gt rfl b11) fun _ => l_load ty27 rfl rfl rfl rfl rfl) ?_)))
            obtain ⟨y12, h13, hF⟩ := bindE hF
            refine dvC (l_gTC rfl rfl (gt rfl b11) fun _ => (l_call (B := true) (FnI.mk' (by kernel_rfl)) (.cons (.rf _ _ _ _) (.one (.rf rfl rfl rfl (clm k_iC _))) (.cons (.rf _ _ _ _) (.one (.rf rfl rfl rfl (clm k_iC _))) .nil)) (p_R04_Ints_ac h13) (okT p_R04_Ints_ok))) ?_
            rintro _ rfl
            refine dv1 (l_pickT (gt rfl b11) (.v _)) (dv1 (l_move (.v _)) ?_)
            rcases condE hF with ⟨b14, hF⟩ | ⟨b14, hF⟩
            · refine dv1 (l_gT rfl rfl (gt rfl b14) fun _ => l_field fd44_5 rfl) (dv1 (l_gT rfl rfl (gt rfl b14) fun _ => l_load ty27 rfl rfl rfl rfl rfl) (dv1 (l_gT rfl rfl (gt rfl b14) fun _ => l_field fd44_5 rfl) (dv1 (l_gT rfl rfl (gt rfl b14) fun _ => l_load ty27 rfl rfl rfl rfl rfl) ?_)))
              obtain ⟨y15, h16, hF⟩ := bindE hF
              refine dvC (l_gTC rfl rfl (gt rfl b14) fun _ => (l_call (B := true) (FnI.mk' (by kernel_rfl)) (.cons (.rf _ _ _ _) (.one (.rf rfl rfl rfl (clm k_iC _))) (.cons (.rf _ _ _ _) (.one (.rf rfl rfl rfl (clm k_iC _))) .nil)) (p_R04_Ints_ac h16) (okT p_R04_Ints_ok))) ?_
              rintro _ rfl
              refine dv1 (l_pickT (gt rfl b14) (.v _)) (dv1 (l_assign (.v _)) (dvE ?_))
              cases hF
              refine q_join ?_
              exact (le_of [] rfl (.s .nil rfl) .nil)
            · refine dv1 (l_gF rfl rfl (gt rfl b14) rfl) (dv1 (l_gF rfl rfl (gt rfl b14) rfl) (dv1 (l_gF rfl rfl (gt rfl b14) rfl) (dv1 (l_gF rfl rfl (gt rfl b14) rfl) (dv1 (l_gF rfl rfl (gt rfl b14) rfl) (dv1 (l_pickF (gt rfl b14) (.v _)) (dv1 (l_assign (.v _)) (dvE ?_)))))))
              cases hF
              refine q_join ?_
              exact (le_of [] rfl (.s .nil rfl) .nil)
          · refine dv1 (l_gF rfl rfl (gt rfl b11) rfl) (dv1 (l_gF rfl rfl (gt rfl b11) rfl) (dv1 (l_gF rfl rfl (gt rfl b11) rfl) (dv1 (l_gF rfl rfl (gt rfl b11) rfl) (dv1 (l_gF rfl rfl (gt rfl b11) rfl) (dv1 (l_pickF (gt rfl b11) (.v _)) (dv1 (l_move (.v _)) (dv1 (l_gF rfl rfl rfl rfl) (dv1 (l_gF rfl rfl rfl rfl) ?_))))))))
            refine dv1 (l_gF rfl rfl rfl rfl) (dv1 (l_gF rfl rfl rfl rfl) (dv1 (l_gF rfl rfl rfl rfl) (dv1 (l_pickF rfl (.v _)) (dv1 (l_assign (.v _)) (dvE ?_)))))
            cases hF
            refine q_join ?_
            exact (le_of [] rfl (.s .nil rfl) .nil)
        · refine dv1 (l_gF rfl rfl (gt rfl b10) rfl) (dv1 (l_gF rfl rfl (gt rfl b10) rfl) (dv1 (l_gF rfl rfl (gt rfl b10) rfl) (dv1 (l_gF rfl rfl (gt rfl b10) rfl) (dv1 (l_gF rfl rfl (gt rfl b10) rfl) (dv1 (l_pickF (gt rfl b10) (.v _)) (dv1 (l_move (.v _)) (dv1 (l_gF rfl rfl rfl rfl) (dv1 (l_gF rfl rfl rfl rfl) ?_))))))))
          refine dv1 (l_gF rfl rfl rfl rfl) (dv1 (l_gF rfl rfl rfl rfl) (dv1 (l_gF rfl rfl rfl rfl) (dv1 (l_pickF rfl (.v _)) (dv1 (l_move (.v _)) (dv1 (l_gF rfl rfl rfl rfl) (dv1 (l_gF rfl rfl rfl rfl) (dv1 (l_gF rfl rfl rfl rfl) (dv1 (l_gF rfl rfl rfl rfl) ?_))))))))
          refine dv1 (l_gF rfl rfl rfl rfl) (dv1 (l_pickF rfl (.v _)) (dv1 (l_assign (.v _)) (dvE ?_)))
          cases hF
          refine q_join ?_
          exact (le_of [] rfl (.s .nil rfl) .nil)
      · refine dv1 (l_gF rfl rfl (gt rfl b9) rfl) (dv1 (l_gF rfl rfl (gt rfl b9) rfl) (dv1 (l_gF rfl rfl (gt rfl b9) rfl) (dv1 (l_gF rfl rfl (gt rfl b9) rfl) (dv1 (l_gF rfl rfl (gt rfl b9) rfl) (dv1 (l_pickF (gt rfl b9) (.v _)) (dv1 (l_move (.v _)) (dv1 (l_gF rfl rfl rfl rfl) (dv1 (l_gF rfl rfl rfl rfl) ?_))))))))
        refine dv1 (l_gF rfl rfl rfl rfl) (dv1 (l_gF rfl rfl rfl rfl) (dv1 (l_gF rfl rfl rfl rfl) (dv1 (l_pickF rfl (.v _)) (dv1 (l_move (.v _)) (dv1 (l_gF rfl rfl rfl rfl) (dv1 (l_gF rfl rfl rfl rfl) (dv1 (l_gF rfl rfl rfl rfl) (dv1 (l_gF rfl rfl rfl rfl) ?_))))))))
        refine dv1 (l_gF rfl rfl rfl rfl) (dv1 (l_pickF rfl (.v _)) (dv1 (l_move (.v _)) (dv1 (l_gF rfl rfl rfl rfl) (dv1 (l_gF rfl rfl rfl rfl) (dv1 (l_gF rfl rfl rfl rfl) (dv1 (l_gF rfl rfl rfl rfl) (dv1 (l_gF rfl rfl rfl rfl) (dv1 (l_pickF rfl (.v _)) ?_))))))))
        refine dv1 (l_assign (.v _)) (dvE ?_)
        cases hF
        refine q_join ?_
        exact (le_of [] rfl (.s .nil rfl) .nil)
    · refine dv1 (l_gF rfl rfl (gt rfl b8) rfl) (dv1 (l_gF rfl rfl (gt rfl b8) rfl) (dv1 (l_gF rfl rfl (gt rfl b8) rfl) (dv1 (l_gF rfl rfl (gt rfl b8) rfl) (dv1 (l_gF rfl rfl (gt rfl b8) rfl) (dv1 (l_pickF (gt rfl b8) (.v _)) (dv1 (l_move (.v _)) (dv1 (l_gF rfl rfl rfl rfl) (dv1 (l_gF rfl rfl rfl rfl) ?_))))))))
      refine dv1 (l_gF rfl rfl rfl rfl) (dv1 (l_gF rfl rfl rfl rfl) (dv1 (l_gF rfl rfl rfl rfl) (dv1 (l_pickF rfl (.v _)) (dv1 (l_move (.v _)) (dv1 (l_gF rfl rfl rfl rfl) (dv1 (l_gF rfl rfl rfl rfl) (dv1 (l_gF rfl rfl rfl rfl) (dv1 (l_gF rfl rfl rfl rfl) ?_))))))))
      refine dv1 (l_gF rfl rfl rfl rfl) (dv1 (l_pickF rfl (.v _)) (dv1 (l_move (.v _)) (dv1 (l_gF rfl rfl rfl rfl) (dv1 (l_gF rfl rfl rfl rfl) (dv1 (l_gF rfl rfl rfl rfl) (dv1 (l_gF rfl rfl rfl rfl) (dv1 (l_gF rfl rfl rfl rfl) (dv1 (l_pickF rfl (.v _)) ?_))))))))
      refine dv1 (l_move (.v _)) (dv1 (l_gF rfl rfl rfl rfl) (dv1 (l_gF rfl rfl rfl rfl) (dv1 (l_gF rfl rfl rfl rfl) (dv1 (l_gF rfl rfl rfl rfl) (dv1 (l_gF rfl rfl rfl rfl) (dv1 (l_pickF rfl (.v _)) (dv1 (l_assign (.v _)) (dvE ?_))))))))
      cases hF
      refine q_join ?_
      exact (le_of [] rfl (.s .nil rfl) .nil)
  replace hF := hG7
  refine w_ret ?_
  cases hF
  refine q_end (.inr rfl) ?_
  exact ret_ok rfl (.cons (.tmp (.v _) (.v _)) .nil) (by decide) rfl

def p_R04_Same (a0 : MOp) (a1 : MOp) : Option Bool :=
((p_R04_Plain a0).bind fun y1 =>
((p_R04_Plain a1).bind fun y3 =>
(((bif decide (y1.K = y3.K) then
(bif decide (y1.A = y3.A) then
(bif decide (y1.B = y3.B) then
(bif decide (y1.C = y3.C) then
(bif decide (y1.N = y3.N) then
(bif decide (y1.S = y3.S) then
(bif y1.Stack == y3.Stack then
((p_R04_Ints y1.L y3.L).bind fun y15 =>
some y15)
else
some false)
else
some false)
else
some false)
else
some false)
else
some false)
else
some false)
else
some false)).bind fun (s6 : Bool) =>
some s6)))

theorem p_R04_Same_ok {r : Bool} : rOk (.v (.bool r)) = true ∧ FrT (.v (.bool r)) := ⟨rfl, (.one (.cl (.v _)))⟩

set_option maxRecDepth 10000 in
set_option maxHeartbeats 4000000 in
theorem p_R04_Same_ac {a0 : MOp} {a1 : MOp} {r : Bool} (hF : p_R04_Same a0 a1 = some r) : AC Tryd.prog GT 19 [.ag (MOp.ct a0), .ag (MOp.ct a1)] (fun c => c = .v (.bool r)) := by
  unfold p_R04_Same at hF
  refine AC.mk (nt := 63) Tryd.func19 rfl rfl rfl fun w N => ?_
  refine w_seq (w_region (by rfl) (dvN (l_box (.ag _) rfl rfl) (dvN (l_box (.ag _) rfl rfl) (dv1 (l_assign (.v _)) (dvE (q_seq (w_seq (w_draw [[], [0], [], [0, 1, 2], [0, 1, 2, 3], [0, 1, 2, 3, 4]] [0, 2, 1, 3, 4, 5] (by kernel_rfl) (by rfl) ⟨by decide, by rfl⟩ (by rfl) ?_))))))))
  refine de1 rfl (l_loadA ty49 rfl rfl rfl rfl rfl) rfl (de1 rfl (l_loadA ty49 rfl rfl rfl rfl rfl) rfl ?_)
  obtain ⟨y1, h2, hF⟩ := bindE hF
  refine deC1 rfl (l_call (B := false) (FnI.mk' (by kernel_rfl)) (.cons (.ag _) (.ag (.cons (.v _) (.cons (.v _) (.cons (.v _) (.cons (.v _) (.cons (.v _) (.cons (.v _) (.cons (.ro _) (.cons (.v _) .nil))))))))) .nil) (p_R04_Plain_ac h2) (okF p_R04_Plain_ok)) rfl ?_
  obtain ⟨y3, h4, hF⟩ := bindE hF
  refine deC1 rfl (l_call (B := false) (FnI.mk' (by kernel_rfl)) (.cons (.ag _) (.ag (.cons (.v _) (.cons (.v _) (.cons (.v _) (.cons (.v _) (.cons (.v _) (.cons (.v _) (.cons (.ro _) (.cons (.v _) .nil))))))))) .nil) (p_R04_Plain_ac h4) (okF p_R04_Plain_ok)) rfl ?_
  refine deS rfl (l_store ty49 rfl (.ag _) rfl rfl rfl (Nat.le_of_ble_eq_true rfl) rfl) rfl (deS rfl (l_store ty49 rfl (.ag _) rfl rfl rfl (Nat.le_of_ble_eq_true rfl) rfl) rfl (ddE (q_seq ?_)))
  obtain ⟨s6, hF, hG7⟩ := bindE hF
  refine w_seqJ ⟨[(4, .v (.bool s6))], [], 1⟩ ?_ ?_
  · refine w_region (by rfl) (dv1 (l_field fd49_0 rfl) (dv1 (l_load ty3 rfl rfl rfl rfl rfl) (dv1 (l_field fd49_0 rfl) (dv1 (l_load ty3 rfl rfl rfl rfl rfl) (dv1 (l_bin rfl rfl b_eql) (dv1 (l_move (.v _)) ?_))))))
    rcases condE hF with ⟨b8, hF⟩ | ⟨b8, hF⟩
    · refine dv1 (l_gT rfl rfl (gt rfl b8) fun _ => l_field fd49_1 rfl) (dv1 (l_gT rfl rfl (gt rfl b8) fun _ => l_load ty3 rfl rfl rfl rfl rfl) (dv1 (l_gT rfl rfl (gt rfl b8) fun _ => l_field fd49_1 rfl) (dv1 (l_gT rfl rfl (gt rfl b8) fun _ => l_load ty3 rfl rfl rfl rfl rfl) (dv1 (l_gT rfl rfl (gt rfl b8) fun _ => l_bin rfl rfl b_eql) (dv1 (l_pickT (gt rfl b8) (.v _)) (dv1 (l_move (.v _)) ?_))))))
      rcases condE hF with ⟨b9, hF⟩ | ⟨b9, hF⟩
      · refine dv1 (l_gT rfl rfl (gt rfl b9) fun _ => l_field fd49_2 rfl) (dv1 (l_gT rfl rfl (gt rfl b9) fun _ => l_load ty3 rfl rfl rfl rfl rfl) (dv1 (l_gT rfl rfl (gt rfl b9) fun _ => l_field fd49_2 rfl) (dv1 (l_gT rfl rfl (gt rfl b9) fun _ => l_load ty3 rfl rfl rfl rfl rfl) (dv1 (l_gT rfl rfl (gt rfl b9) fun _ => l_bin rfl rfl b_eql) (dv1 (l_pickT (gt rfl b9) (.v _)) (dv1 (l_move (.v _)) ?_))))))
        rcases condE hF with ⟨b10, hF⟩ | ⟨b10, hF⟩
        · refine dv1 (l_gT rfl rfl (gt rfl b10) fun _ => l_field fd49_3 rfl) (dv1 (l_gT rfl rfl (gt rfl b10) fun _ => l_load ty3 rfl rfl rfl rfl rfl) (dv1 (l_gT rfl rfl (gt rfl b10) fun _ => l_field fd49_3 rfl) (dv1 (l_gT rfl rfl (gt rfl b10) fun _ => l_load ty3 rfl rfl rfl rfl rfl) (dv1 (l_gT rfl rfl (gt rfl b10) fun _ => l_bin rfl rfl b_eql) (dv1 (l_pickT (gt rfl b10) (.v _)) (dv1 (l_move (.v _)) ?_))))))
          rcases condE hF with ⟨b11, hF⟩ | ⟨b11, hF⟩
          · refine dv1 (l_gT rfl rfl (gt rfl b11) fun _ => l_field fd49_4 rfl) (dv1 (l_gT rfl rfl (gt rfl b11) fun _ => l_load ty2 rfl rfl rfl rfl rfl) (dv1 (l_gT rfl rfl (gt rfl b11) fun _ => l_field fd49_4 rfl) (dv1 (l_gT rfl rfl (gt rfl b11) fun _ => l_load ty2 rfl rfl rfl rfl rfl) (dv1 (l_gT rfl rfl (gt rfl b11) fun _ => l_bin rfl rfl b_eql) (dv1 (l_pickT (gt rfl b11) (.v _)) (dv1 (l_move (.v _)) ?_))))))
            rcases condE hF with ⟨b12, hF⟩ | ⟨b12, hF⟩
            · refine dv1 (l_gT rfl rfl (gt rfl b12) fun _ => l_field fd49_5 rfl) (dv1 (l_gT rfl rfl (gt rfl b12) fun _ => l_load ty9 rfl rfl rfl rfl rfl) (dv1 (l_gT rfl rfl (gt rfl b12) fun _ => l_field fd49_5 rfl) (dv1 (l_gT rfl rfl (gt rfl b12) fun _ => l_load ty9 rfl rfl rfl rfl rfl) (dv1 (l_gT rfl rfl (gt rfl b12) fun _ => l_eqS rfl rfl rfl) (dv1 (l_pickT (gt rfl b12) (.v _)) (dv1 (l_move (.v _)) ?_))))))
              rcases condE hF with ⟨b13, hF⟩ | ⟨b13, hF⟩
              · refine dv1 (l_gT rfl rfl (gt rfl b13) fun _ => l_field fd49_7 rfl) (dv1 (l_gT rfl rfl (gt rfl b13) fun _ => l_load ty4 rfl rfl rfl rfl rfl) (dv1 (l_gT rfl rfl (gt rfl b13) fun _ => l_field fd49_7 rfl) (dv1 (l_gT rfl rfl (gt rfl b13) fun _ => l_load ty4 rfl rfl rfl rfl rfl) (dv1 (l_gT rfl rfl (gt rfl b13) fun _ => l_eqB (by kernel_rfl) rfl rfl rfl) (dv1 (l_pickT (gt rfl b13) (.v _)) (dv1 (l_move (.v _)) ?_))))))
                rcases condE hF with ⟨b14, hF⟩ | ⟨b14, hF⟩
                · refine dv1 (l_gT rfl rfl (gt rfl b14) fun _ => l_field fd49_6 rfl) (dv1 (l_gT rfl rfl (gt rfl b14) fun _ => l_load ty27 rfl rfl rfl rfl rfl) (dv1 (l_gT rfl rfl (gt rfl b14) fun _ => l_field fd49_6 rfl) (dv1 (l_gT rfl rfl (gt rfl b14) fun _ => l_load ty27 rfl rfl rfl rfl rfl) ?_)))
                  obtain ⟨y15, h16, hF⟩ := bindE hF
                  refine dvC (l_gTC rfl rfl (gt rfl b14) fun _ => (l_call (B := true) (FnI.mk' (by kernel_rfl)) (.cons (.rf _ _ _ _) (.one (.rf rfl rfl rfl (clm k_iC _))) (.cons (.rf _ _ _ _) (.one (.rf rfl rfl rfl (clm k_iC _))) .nil)) (p_R04_Ints_ac h16) (okT p_R04_Ints_ok))) ?_
                  rintro _ rfl
                  refine dv1 (l_pickT (gt rfl b14) (.v _)) (dv1 (l_assign (.v _)) (dvE ?_))
                  cases hF
                  refine q_join ?_
                  exact (le_of [] rfl (.s .nil rfl) .nil)
                · refine dv1 (l_gF rfl rfl (gt rfl b14) rfl) (dv1 (l_gF rfl rfl (gt rfl b14) rfl) (dv1 (l_gF rfl rfl (gt rfl b14) rfl) (dv1 (l_gF rfl rfl (gt rfl b14) rfl) (dv1 (l_gF rfl rfl (gt rfl b14) rfl) (dv1 (l_pickF (gt rfl b14) (.v _)) (dv1 (l_assign (.v _)) (dvE ?_)))))))
                  cases hF
                  refine q_join ?_
                  exact (le_of [] rfl (.s .nil rfl) .nil)
              · refine dv1 (l_gF rfl rfl (gt rfl b13) rfl) (dv1 (l_gF rfl rfl (gt rfl b13) rfl) (dv1 (l_gF rfl rfl (gt rfl b13) rfl) (dv1 (l_gF rfl rfl (gt rfl b13) rfl) (dv1 (l_gF rfl rfl (gt rfl b13) rfl) (dv1 (l_pickF (gt rfl b13) (.v _)) (dv1 (l_move (.v _)) (dv1 (l_gF rfl rfl rfl rfl) (dv1 (l_gF rfl rfl rfl rfl) ?_))))))))
                refine dv1 (l_gF rfl rfl rfl rfl) (dv1 (l_gF rfl rfl rfl rfl) (dv1 (l_gF rfl rfl rfl rfl) (dv1 (l_pickF rfl (.v _)) (dv1 (l_assign (.v _)) (dvE ?_)))))
                cases hF
                refine q_join ?_
                exact (le_of [] rfl (.s .nil rfl) .nil)
            · refine dv1 (l_gF rfl rfl (gt rfl b12) rfl) (dv1 (l_gF rfl rfl (gt rfl b12) rfl) (dv1 (l_gF rfl rfl (gt rfl b12) rfl) (dv1 (l_gF rfl rfl (gt rfl b12) rfl) (dv1 (l_gF rfl rfl (gt rfl b12) rfl) (dv1 (l_pickF (gt rfl b12) (.v _)) (dv1 (l_move (.v _)) (dv1 (l_gF rfl rfl rfl rfl) (dv1 (l_gF rfl rfl rfl rfl) ?_))))))))
              refine dv1 (l_gF rfl rfl rfl rfl) (dv1 (l_gF rfl rfl rfl rfl) (dv1 (l_gF rfl rfl rfl rfl) (dv1 (l_pickF rfl (.v _)) (dv1 (l_move (.v _)) (dv1 (l_gF rfl rfl rfl rfl) (dv1 (l_gF rfl rfl rfl rfl) (dv1 (l_gF rfl rfl rfl rfl) (dv1 (l_gF rfl rfl rfl rfl) ?_))))))))
              refine dv1 (l_gF rfl rfl rfl rfl) (dv1 (l_pickF rfl (.v _)) (dv1 (l_assign (.v _)) (dvE ?_)))
              cases hF
              refine q_join ?_
              exact (le_of [] rfl (.s .nil rfl) .nil)
          · refine dv1 (l_gF rfl rfl (gt rfl b11) rfl) (dv1 (l_gF rfl rfl (gt rfl b11) rfl) (dv1 (l_gF rfl rfl (gt rfl b11) rfl) (dv1 (l_gF rfl rfl (gt rfl b11) rfl) (dv1 (l_gF rfl rfl (gt rfl b11) rfl) (dv1 (l_pickF (gt rfl b11) (.v _)) (dv1 (l_move (.v _)) (dv1 (l_gF rfl rfl rfl rfl) (dv1 (l_gF rfl rfl rfl rfl) ?_))))))))
            refine dv1 (l_gF rfl rfl rfl rfl) (dv1 (l_gF rfl rfl rfl rfl) (dv1 (l_gF rfl rfl rfl rfl) (dv1 (l_pickF rfl (.v _)) (dv1 (l_move (.v _)) (dv1 (l_gF rfl rfl rfl rfl) (dv1 (l_gF rfl rfl rfl rfl) (dv1 (l_gF rfl rfl rfl rfl) (dv1 (l_gF rfl rfl rfl rfl) ?_))))))))
            refine dv1 (l_gF rfl rfl rfl rfl) (dv1 (l_pickF rfl (.v _)) (dv1 (l_move (.v _)) (dv1 (l_gF rfl rfl rfl rfl) (dv1 (l_gF rfl rfl rfl rfl) (dv1 (l_gF rfl rfl rfl rfl) (dv1 (l_gF rfl rfl rfl rfl) (dv1 (l_gF rfl rfl rfl rfl) (dv1 (l_pickF rfl (.v _)) ?_))))))))
            refine dv1 (l_assign (.v _)) (dvE ?_)
            cases hF
            refine q_join ?_
            exact (le_of [] rfl (.s .nil rfl) .nil)
        · refine dv1 (l_gF rfl rfl (gt rfl b10) rfl) (dv1 (l_gF rfl rfl (gt rfl b10) rfl) (dv1 (l_gF rfl rfl (gt rfl b10) rfl) (dv1 (l_gF rfl rfl (gt rfl b10) rfl) (dv1 (l_gF rfl rfl (gt rfl b10) rfl) (dv1 (l_pickF (gt rfl b10) (.v _)) (dv1 (l_move (.v _)) (dv1 (l_gF rfl rfl rfl rfl) (dv1 (l_gF rfl rfl rfl rfl) ?_))))))))
          refine dv1 (l_gF rfl rfl rfl rfl) (dv1 (l_gF rfl rfl rfl rfl) (dv1 (l_gF rfl rfl rfl rfl) (dv1 (l_pickF rfl (.v _)) (dv1 (l_move (.v _)) (dv1 (l_gF rfl rfl rfl rfl) (dv1 (l_gF rfl rfl rfl rfl) (dv1 (l_gF rfl rfl rfl rfl) (dv1 (l_gF rfl rfl rfl rfl) ?_))))))))
          refine dv1 (l_gF rfl rfl rfl rfl) (dv1 (l_pickF rfl (.v _)) (dv1 (l_move (.v _)) (dv1 (l_gF rfl rfl rfl rfl) (dv1 (l_gF rfl rfl rfl rfl) (dv1 (l_gF rfl rfl rfl rfl) (dv1 (l_gF rfl rfl rfl rfl) (dv1 (l_gF rfl rfl rfl rfl) (dv1 (l_pickF rfl (.v _)) ?_))))))))
          refine dv1 (l_move (.v _)) (dv1 (l_gF rfl rfl rfl rfl) (dv1 (l_gF rfl rfl rfl rfl) (dv1 (l_gF rfl rfl rfl rfl) (dv1 (l_gF rfl rfl rfl rfl) (dv1 (l_gF rfl rfl rfl rfl) (dv1 (l_pickF rfl (.v _)) (dv1 (l_assign (.v _)) (dvE ?_))))))))
          cases hF
          refine q_join ?_
          exact (le_of [] rfl (.s .nil rfl) .nil)
      · refine dv1 (l_gF rfl rfl (gt rfl b9) rfl) (dv1 (l_gF rfl rfl (gt rfl b9) rfl) (dv1 (l_gF rfl rfl (gt rfl b9) rfl) (dv1 (l_gF rfl rfl (gt rfl b9) rfl) (dv1 (l_gF rfl rfl (gt rfl b9) rfl) (dv1 (l_pickF (gt rfl b9) (.v _)) (dv1 (l_move (.v _)) (dv1 (l_gF rfl rfl rfl rfl) (dv1 (l_gF rfl rfl rfl rfl) ?_))))))))
        refine dv1 (l_gF rfl rfl rfl rfl) (dv1 (l_gF rfl rfl rfl rfl) (dv1 (l_gF rfl rfl rfl rfl) (dv1 (l_pickF rfl (.v _)) (dv1 (l_move (.v _)) (dv1 (l_gF rfl rfl rfl rfl) (dv1 (l_gF rfl rfl rfl rfl) (dv1 (l_gF rfl rfl rfl rfl) (dv1 (l_gF rfl rfl rfl rfl) ?_))))))))
        refine dv1 (l_gF rfl rfl rfl rfl) (dv1 (l_pickF rfl (.v _)) (dv1 (l_move (.v _)) (dv1 (l_gF rfl rfl rfl rfl) (dv1 (l_gF rfl rfl rfl rfl) (dv1 (l_gF rfl rfl rfl rfl) (dv1 (l_gF rfl rfl rfl rfl) (dv1 (l_gF rfl rfl rfl rfl) (dv1 (l_pickF rfl (.v _)) ?_))))))))
        refine dv1 (l_move (.v _)) (dv1 (l_gF rfl rfl rfl rfl) (dv1 (l_gF rfl rfl rfl rfl) (dv1 (l_gF rfl rfl rfl rfl) (dv1 (l_gF rfl rfl rfl rfl) (dv1 (l_gF rfl rfl rfl rfl) (dv1 (l_pickF rfl (.v _)) (dv1 (l_move (.v _)) (dv1 (l_gF rfl rfl rfl rfl) ?_))))))))
        refine dv1 (l_gF rfl rfl rfl rfl) (dv1 (l_gF rfl rfl rfl rfl) (dv1 (l_gF rfl rfl rfl rfl) (dv1 (l_gF rfl rfl rfl rfl) (dv1 (l_pickF rfl (.v _)) (dv1 (l_assign (.v _)) (dvE ?_))))))
        cases hF
        refine q_join ?_
        exact (le_of [] rfl (.s .nil rfl) .nil)
    · refine dv1 (l_gF rfl rfl (gt rfl b8) rfl) (dv1 (l_gF rfl rfl (gt rfl b8) rfl) (dv1 (l_gF rfl rfl (gt rfl b8) rfl) (dv1 (l_gF rfl rfl (gt rfl b8) rfl) (dv1 (l_gF rfl rfl (gt rfl b8) rfl) (dv1 (l_pickF (gt rfl b8) (.v _)) (dv1 (l_move (.v _)) (dv1 (l_gF rfl rfl rfl rfl) (dv1 (l_gF rfl rfl rfl rfl) ?_))))))))
      refine dv1 (l_gF rfl rfl rfl rfl) (dv1 (l_gF rfl rfl rfl rfl) (dv1 (l_gF rfl rfl rfl rfl) (dv1 (l_pickF rfl (.v _)) (dv1 (l_move (.v _)) (dv1 (l_gF rfl rfl rfl rfl) (dv1 (l_gF rfl rfl rfl rfl) (dv1 (l_gF rfl rfl rfl rfl) (dv1 (l_gF rfl rfl rfl rfl) ?_))))))))
      refine dv1 (l_gF rfl rfl rfl rfl) (dv1 (l_pickF rfl (.v _)) (dv1 (l_move (.v _)) (dv1 (l_gF rfl rfl rfl rfl) (dv1 (l_gF rfl rfl rfl rfl) (dv1 (l_gF rfl rfl rfl rfl) (dv1 (l_gF rfl rfl rfl rfl) (dv1 (l_gF rfl rfl rfl rfl) (dv1 (l_pickF rfl (.v _)) ?_))))))))
      refine dv1 (l_move (.v _)) (dv1 (l_gF rfl rfl rfl rfl) (dv1 (l_gF rfl rfl rfl rfl) (dv1 (l_gF rfl rfl rfl rfl) (dv1 (l_gF rfl rfl rfl rfl) (dv1 (l_gF rfl rfl rfl rfl) (dv1 (l_pickF rfl (.v _)) (dv1 (l_move (.v _)) (dv1 (l_gF rfl rfl rfl rfl) ?_))))))))
      refine dv1 (l_gF rfl rfl rfl rfl) (dv1 (l_gF rfl rfl rfl rfl) (dv1 (l_gF rfl rfl rfl rfl) (dv1 (l_gF rfl rfl rfl rfl) (dv1 (l_pickF rfl (.v _)) (dv1 (l_move (.v _)) (dv1 (l_gF rfl rfl rfl rfl) (dv1 (l_gF rfl rfl rfl rfl) (dv1 (l_gF rfl rfl rfl rfl) ?_))))))))
      refine dv1 (l_gF rfl rfl rfl rfl) (dv1 (l_gF rfl rfl rfl rfl) (dv1 (l_pickF rfl (.v _)) (dv1 (l_assign (.v _)) (dvE ?_))))
      cases hF
      refine q_join ?_
      exact (le_of [] rfl (.s .nil rfl) .nil)
  replace hF := hG7
  refine w_ret ?_
  cases hF
  refine q_end (.inr rfl) ?_
  exact ret_ok rfl (.cons (.tmp (.v _) (.v _)) .nil) (by decide) rfl

def p_R05_SameFunc (a0 : MFun) (a1 : MFun) : Option Bool :=
(((bif decide (a0.Ret = a1.Ret) then
some (!(decide (((a0.Blocks.length : Nat) : Int) = ((a1.Blocks.length : Nat) : Int))))
else
some true)).bind fun (s2 : Bool) =>
(bif s2 then
some false
else
(((loop (fun (s3008 : Nat) =>
(bif decide (s3008 < a0.Blocks.length) then
((((a0.Blocks[s3008]?).bind fun x3016 =>
((a1.Blocks[s3008]?).bind fun x3018 =>
((((p_R04_Ints x3016.Params x3018.Params).bind fun y3023 =>
(bif y3023 then
(bif decide (((x3016.Ops.length : Nat) : Int) = ((x3018.Ops.length : Nat) : Int)) then
((p_R05_sameEnd x3016.End x3018.End).bind fun y3027 =>
some (!y3027))
else
some true)
else
some true))).bind fun (s3021 : Bool) =>
(bif s3021 then
some (Xt.out false)
else
(loop (fun (s6030 : Nat) =>
(bif decide (s6030 < x3016.Ops.length) then
((x3016.Ops[s6030]?).bind fun x6036 =>
((x3018.Ops[s6030]?).bind fun x6038 =>
((p_R04_Same x6036 x6038).bind fun y6040 =>
(bif y6040 then
some (Xt.go (s6030 + 1))
else
some (Xt.out (Xt.out false))))))
else
some (Xt.out (Xt.go ())))) Fu 0)))))).bind fun s3014 => s3014.on (fun (s6043 : Unit) =>
some (Xt.go (s3008 + 1)))
(fun o6045 => some (Xt.out (Xt.out o6045))))
else
some (Xt.out (Xt.go ())))) Fu 0)).bind fun s6 => s6.on (fun (s6046 : Unit) =>
some true)
(fun o6048 => some o6048))))

theorem p_R05_SameFunc_ok {r : Bool} : rOk (.v (.bool r)) = true ∧ FrT (.v (.bool r)) := ⟨rfl, (.one (.cl (.v _)))⟩

set_option maxRecDepth 10000 in
set_option maxHeartbeats 4000000 in
theorem p_R05_SameFunc_ac {a0 : MFun} {a1 : MFun} {r : Bool} (hF : p_R05_SameFunc a0 a1 = some r) : AC Tryd.prog GT 8 [.ag (MFun.ct a0), .ag (MFun.ct a1)] (fun c => c = .v (.bool r)) := by
  unfold p_R05_SameFunc at hF
  refine AC.mk (nt := 82) Tryd.func8 rfl rfl rfl fun w N => ?_
  refine w_seq (w_region (by rfl) (dvN (l_box (.ag _) rfl rfl) (dvN (l_box (.ag _) rfl rfl) (dv1 (l_assign (.v _)) (dvE (q_seq (w_seq ?_)))))))
  obtain ⟨s2, hF, hG3⟩ := bindE hF
  refine w_seqJ ⟨[(2, .ad 0 2 0 0), (3, .ad 1 2 0 0), (22, .v (.bool s2)), (47, .un), (48, .un), (49, .un), (50, .un), (51, .un), (52, .un), (53, .un), (56, .un), (57, .un), (58, .un), (59, .un), (60, .un), (61, .un)], [(0, some ⟨31, 2, [[.v (.int .i64 a0.Ret), .ro (.sl 47 8 (a0.Blocks.map MBlk.ct))]]⟩), (1, some ⟨31, 2, [[.v (.int .i64 a1.Ret), .ro (.sl 47 8 (a1.Blocks.map MBlk.ct))]]⟩)], 1⟩ ?_ ?_
  · refine w_region (by rfl) (dv1 (l_field fd31_0 rfl) (dv1 (l_load ty3 rfl rfl rfl rfl rfl) (dv1 (l_field fd31_0 rfl) (dv1 (l_load ty3 rfl rfl rfl rfl rfl) (dv1 (l_bin rfl rfl b_neq) (dv1 (l_move (.v _)) ?_))))))
    rcases condE hF with ⟨b4, hF⟩ | ⟨b4, hF⟩
    · refine dv1 (l_gT rfl rfl (gt rfl (nF b4)) fun _ => l_field fd31_1 rfl) (dv1 (l_gT rfl rfl (gt rfl (nF b4)) fun _ => l_load ty29 rfl rfl rfl rfl rfl) (dv1 (l_gT rfl rfl (gt rfl (nF b4)) fun _ => l_lenRo sl29 rfl rfl (List.length_map _)) (dv1 (l_gT rfl rfl (gt rfl (nF b4)) fun _ => l_field fd31_1 rfl) (dv1 (l_gT rfl rfl (gt rfl (nF b4)) fun _ => l_load ty29 rfl rfl rfl rfl rfl) (dv1 (l_gT rfl rfl (gt rfl (nF b4)) fun _ => l_lenRo sl29 rfl rfl (List.length_map _)) (dv1 (l_gT rfl rfl (gt rfl (nF b4)) fun _ => l_bin rfl rfl b_neq) (dv1 (l_pickF (gt rfl (nF b4)) (.v _)) (dvE ?_))))))))
      cases hF
      refine q_join ?_
      exact (le_of [(0, some 0), (1, some 64)] rfl (.s (.s (.s (.cons .un (.un _) (.cons .un (.un _) (.cons .un (.un _) (.cons .un (.un _) (.cons .un (.un _) (.cons .un (.un _) (.cons .un (.un _) (.cons .un (.un _) (.cons .un (.un _) (.cons .un (.un _) (.cons .un (.un _) (.cons .un (.un _) (.cons .un (.un _) .nil))))))))))))) rfl) rfl) rfl) (.box rfl rfl (.s rfl) (.box rfl rfl (.s rfl) .nil)))
    · refine dv1 (l_gF rfl rfl (gt rfl (nT b4)) rfl) (dv1 (l_gF rfl rfl (gt rfl (nT b4)) rfl) (dv1 (l_gF rfl rfl (gt rfl (nT b4)) rfl) (dv1 (l_gF rfl rfl (gt rfl (nT b4)) rfl) (dv1 (l_gF rfl rfl (gt rfl (nT b4)) rfl) (dv1 (l_gF rfl rfl (gt rfl (nT b4)) rfl) (dv1 (l_gF rfl rfl (gt rfl (nT b4)) rfl) (dv1 (l_pickT (gt rfl (nT b4)) (.v _)) (dvE ?_))))))))
      cases hF
      refine q_join ?_
      exact (le_of [(0, some 0), (1, some 64)] rfl (.s (.s (.s (.cons .un (.un _) (.cons .un (.un _) (.cons .un (.un _) (.cons .un (.un _) (.cons .un (.un _) (.cons .un (.un _) (.cons .un (.un _) (.cons .un (.un _) (.cons .un (.un _) (.cons .un (.un _) (.cons .un (.un _) (.cons .un (.un _) (.cons .un (.un _) .nil))))))))))))) rfl) rfl) rfl) (.box rfl rfl (.s rfl) (.box rfl rfl (.s rfl) .nil)))
  replace hF := hG3
  rcases condE hF with ⟨b5, hF⟩ | ⟨b5, hF⟩
  · refine w_condT rfl b5 ?_
    refine w_seq (w_region (by rfl) (dv1 (l_assign (.v _)) (dvE (q_seq (w_ret (q_reS ?_))))))
    cases hF
    refine q_end (.inr rfl) ?_
    exact ret_ok rfl (.cons (.tmp (.v _) (.v _)) .nil) (by decide) rfl
  · refine w_condF rfl b5 ?_
    refine w_skip (q_seq ?_)
    obtain ⟨s6, hF, hG7⟩ := bindE hF
    refine w_seqE s6 (fun (s6046 : Unit) => ⟨[], [], 1⟩) ?_ (fun s6046 e6047 => ?_)
    · refine w_seq (w_region (by rfl) (dv1 (l_assign (.v _)) (dvE (q_seq (w_block (w_loopF hF (fun (s3008 : Nat) => ⟨[(2, .ad 0 2 0 0), (3, .ad 1 2 0 0), (5, .v (.int .i64 ((s3008 : Nat) : Int))), (47, .un), (48, .un), (49, .un), (50, .un), (51, .un), (52, .un), (53, .un), (56, .un), (57, .un), (58, .un), (59, .un), (60, .un), (61, .un)], [(0, some ⟨31, 2, [[.v (.int .i64 a0.Ret), .ro (.sl 47 8 (a0.Blocks.map MBlk.ct))]]⟩), (1, some ⟨31, 2, [[.v (.int .i64 a1.Ret), .ro (.sl 47 8 (a1.Blocks.map MBlk.ct))]]⟩)], 1⟩) (le_of [(0, some 0), (1, some 1)] rfl (.s (.s (.s (.cons .un (.un _) (.cons .un (.un _) (.cons .un (.un _) (.cons .un (.un _) (.cons .un (.un _) (.cons .un (.un _) (.cons .un (.un _) (.cons .un (.un _) (.cons .un (.un _) (.cons .un (.un _) (.cons .un (.un _) (.cons .un (.un _) (.cons .un (.un _) .nil))))))))))))) rfl) rfl) rfl) (.box rfl rfl (.s rfl) (.box rfl rfl (.s rfl) .nil))) ?_))))))
      intro s3008 y3009 hF hx3010
      refine w_seq (w_seq (w_region (by rfl) (dv1 (l_move (.v _)) (dv1 (l_field fd31_1 rfl) (dv1 (l_load ty29 rfl rfl rfl rfl rfl) (dv1 (l_lenRo sl29 rfl rfl (List.length_map _)) (dv1 (l_bin rfl rfl b_lssN) (dvE ?_))))))))
      refine q_seq ?_
      rcases condE hF with ⟨b3012, hF⟩ | ⟨b3012, hF⟩
      · refine w_lenS 25 rfl fun l3013 => ?_
        refine w_condT rfl b3012 ?_
        refine w_skip (q_seq ?_)
        obtain ⟨s3014, hF, hG3015⟩ := bindE hF
        refine w_seqE s3014 (fun (s6043 : Unit) => ⟨[(2, .ad 0 2 0 0), (3, .ad 1 2 0 0), (5, .v (.int .i64 ((s3008 : Nat) : Int))), (47, .un), (48, .un), (49, .un), (50, .un), (51, .un), (52, .un), (53, .un), (56, .un), (57, .un), (58, .un), (59, .un), (60, .un), (61, .un)], [(0, some ⟨31, 2, [[.v (.int .i64 a0.Ret), .ro (.sl 47 8 (a0.Blocks.map MBlk.ct))]]⟩), (1, some ⟨31, 2, [[.v (.int .i64 a1.Ret), .ro (.sl 47 8 (a1.Blocks.map MBlk.ct))]]⟩)], 1⟩) ?_ (fun s6043 e6044 => ?_)
        · refine w_block (w_seq (w_draw [[], [0], [], [0, 1, 2], [0, 1, 2, 3], [], [5], [], [5, 6, 7], [5, 6, 7, 8], [], [], [0, 1, 2, 3, 4, 10, 11], [0, 1, 2, 3, 4, 5, 6, 7, 8, 9, 10, 11, 12]] [0, 1, 2, 3, 4, 5, 6, 7, 8, 9, 10, 11, 12, 13] (by kernel_rfl) (by rfl) ⟨by decide, by rfl⟩ (by rfl) ?_))
          refine de1 rfl (l_field fd31_1 rfl) rfl (de1 rfl (l_load ty29 rfl rfl rfl rfl rfl) rfl (de1 rfl (l_move (.v _)) rfl ?_))
          obtain ⟨x3016, h3017, hF⟩ := bindE hF
          refine de1 rfl (l_indexRo s3008 sl29 rfl rfl rfl (map_at h3017)) rfl (de1 rfl (l_loadARo ty47 rfl rfl) rfl (de1 rfl (l_field fd31_1 rfl) rfl (de1 rfl (l_load ty29 rfl rfl rfl rfl rfl) rfl (de1 rfl (l_move (.v _)) rfl ?_))))
          obtain ⟨x3018, h3019, hF⟩ := bindE hF
          refine de1 rfl (l_indexRo s3008 sl29 rfl rfl rfl (map_at h3019)) rfl (de1 rfl (l_loadARo ty47 rfl rfl) rfl (deN rfl (l_alloc zt47) rfl (deN rfl (l_alloc zt47) rfl (deS rfl (l_store ty47 rfl (.ag _) rfl rfl rfl (Nat.le_of_ble_eq_true rfl) rfl) rfl (deS rfl (l_store ty47 rfl (.ag _) rfl rfl rfl (Nat.le_of_ble_eq_true rfl) rfl) rfl (ddE (q_seq (w_seq ?_))))))))
          obtain ⟨s3021, hF, hG3022⟩ := bindE hF
          refine w_seqJ ⟨[(2, .ad 0 2 0 0), (3, .ad 1 2 0 0), (5, .v (.int .i64 ((s3008 : Nat) : Int))), (6, .ad 2 8 0 0), (7, .ad 3 8 0 0), (47, .un), (48, .un), (49, .un), (50, .un), (51, .un), (52, .un), (53, .un), (56, .un), (57, .un), (58, .un), (59, .un), (60, .un), (61, .un), (62, .v (.bool s3021))], [(0, some ⟨31, 2, [[.v (.int .i64 a0.Ret), .ro (.sl 47 8 (a0.Blocks.map MBlk.ct))]]⟩), (1, some ⟨31, 2, [[.v (.int .i64 a1.Ret), .ro (.sl 47 8 (a1.Blocks.map MBlk.ct))]]⟩), (2, some ⟨47, 8, [[.ro (.sl 3 1 (x3016.Params.map iC)), .ro (.sl 49 8 (x3016.Ops.map MOp.ct)), .v (.int .i64 x3016.End.K), .v (.int .i64 x3016.End.A), .v (.int .i64 x3016.End.To), .v (.int .i64 x3016.End.Else), .ro (.sl 3 1 (x3016.End.L.map iC)), .ro (.sl 3 1 (x3016.End.M.map iC))]]⟩), (3, some ⟨47, 8, [[.ro (.sl 3 1 (x3018.Params.map iC)), .ro (.sl 49 8 (x3018.Ops.map MOp.ct)), .v (.int .i64 x3018.End.K), .v (.int .i64 x3018.End.A), .v (.int .i64 x3018.End.To), .v (.int .i64 x3018.End.Else), .ro (.sl 3 1 (x3018.End.L.map iC)), .ro (.sl 3 1 (x3018.End.M.map iC))]]⟩)], 1⟩ ?_ ?_
          · refine w_region (by rfl) (dv1 (l_field fd47_0 rfl) (dv1 (l_load ty27 rfl rfl rfl rfl rfl) (dv1 (l_field fd47_0 rfl) (dv1 (l_load ty27 rfl rfl rfl rfl rfl) ?_))))
            obtain ⟨y3023, h3024, hF⟩ := bindE hF
            refine dvC (l_call (B := false) (FnI.mk' (by kernel_rfl)) (.cons (.ro _) (.one (.ro _)) (.cons (.ro _) (.one (.ro _)) .nil)) (p_R04_Ints_ac h3024) (okF p_R04_Ints_ok)) ?_
            rintro _ rfl
            refine dv1 (l_not rfl) (dv1 (l_move (.v _)) ?_)
            rcases condE hF with ⟨b3025, hF⟩ | ⟨b3025, hF⟩
            · refine dv1 (l_gT rfl rfl (gt rfl (nF b3025)) fun _ => l_field fd47_1 rfl) (dv1 (l_gT rfl rfl (gt rfl (nF b3025)) fun _ => l_load ty45 rfl rfl rfl rfl rfl) (dv1 (l_gT rfl rfl (gt rfl (nF b3025)) fun _ => l_lenRo sl45 rfl rfl (List.length_map _)) (dv1 (l_gT rfl rfl (gt rfl (nF b3025)) fun _ => l_field fd47_1 rfl) (dv1 (l_gT rfl rfl (gt rfl (nF b3025)) fun _ => l_load ty45 rfl rfl rfl rfl rfl) (dv1 (l_gT rfl rfl (gt rfl (nF b3025)) fun _ => l_lenRo sl45 rfl rfl (List.length_map _)) (dv1 (l_gT rfl rfl (gt rfl (nF b3025)) fun _ => l_bin rfl rfl b_neq) (dv1 (l_pickF (gt rfl (nF b3025)) (.v _)) (dv1 (l_move (.v _)) ?_))))))))
              rcases condE hF with ⟨b3026, hF⟩ | ⟨b3026, hF⟩
              · refine dv1 (l_gT rfl rfl (gt rfl (nF b3026)) fun _ => l_field fd47_2 rfl) (dv1 (l_gT rfl rfl (gt rfl (nF b3026)) fun _ => l_loadA ty44 rfl rfl rfl rfl rfl) (dv1 (l_gT rfl rfl (gt rfl (nF b3026)) fun _ => l_field fd47_2 rfl) (dv1 (l_gT rfl rfl (gt rfl (nF b3026)) fun _ => l_loadA ty44 rfl rfl rfl rfl rfl) ?_)))
                obtain ⟨y3027, h3028, hF⟩ := bindE hF
                refine dvC (l_gTC rfl rfl (gt rfl (nF b3026)) fun _ => (l_call (B := false) (FnI.mk' (by kernel_rfl)) (.cons (.ag _) (.ag (.cons (.v _) (.cons (.v _) (.cons (.v _) (.cons (.v _) (.cons (.ro _) (.cons (.ro _) .nil))))))) (.cons (.ag _) (.ag (.cons (.v _) (.cons (.v _) (.cons (.v _) (.cons (.v _) (.cons (.ro _) (.cons (.ro _) .nil))))))) .nil)) (p_R05_sameEnd_ac h3028) (okF p_R05_sameEnd_ok))) ?_
                rintro _ rfl
                refine dv1 (l_gT rfl rfl (gt rfl (nF b3026)) fun _ => l_not rfl) (dv1 (l_pickF (gt rfl (nF b3026)) (.v _)) (dvE ?_))
                cases hF
                refine q_join ?_
                exact (le_of [(0, some 0), (1, some 1), (2, some 1024), (3, some 1088)] rfl (.s (.s (.s (.s (.s (.cons (.ad _ _ _ _) (.un _) (.cons (.ro _) (.un _) (.cons (.v _) (.un _) (.cons (.ad _ _ _ _) (.un _) (.cons (.ro _) (.un _) (.cons (.v _) (.un _) (.cons (.v _) (.un _) (.cons (.ad _ _ _ _) (.un _) (.cons (.ag _) (.un _) (.cons (.ad _ _ _ _) (.un _) (.cons (.ag _) (.un _) (.cons (.v _) (.un _) (.cons (.v _) (.un _) (.s .nil rfl)))))))))))))) rfl) rfl) rfl) rfl) rfl) (.box rfl rfl (.s rfl) (.box rfl rfl (.s rfl) (.box rfl rfl (.s rfl) (.box rfl rfl (.s rfl) .nil)))))
              · refine dv1 (l_gF rfl rfl (gt rfl (nT b3026)) rfl) (dv1 (l_gF rfl rfl (gt rfl (nT b3026)) rfl) (dv1 (l_gF rfl rfl (gt rfl (nT b3026)) rfl) (dv1 (l_gF rfl rfl (gt rfl (nT b3026)) rfl) (dv1 (l_gF rfl rfl (gt rfl (nT b3026)) rfl) (dv1 (l_gF rfl rfl (gt rfl (nT b3026)) rfl) (dv1 (l_pickT (gt rfl (nT b3026)) (.v _)) (dvE ?_)))))))
                cases hF
                refine q_join ?_
                exact (le_of [(0, some 0), (1, some 1), (2, some 1024), (3, some 1088)] rfl (.s (.s (.s (.s (.s (.cons (.ad _ _ _ _) (.un _) (.cons (.ro _) (.un _) (.cons (.v _) (.un _) (.cons (.ad _ _ _ _) (.un _) (.cons (.ro _) (.un _) (.cons (.v _) (.un _) (.cons (.v _) (.un _) (.cons (.v _) (.un _) (.cons (.v _) (.un _) (.cons (.v _) (.un _) (.cons (.v _) (.un _) (.cons (.v _) (.un _) (.cons (.v _) (.un _) (.s .nil rfl)))))))))))))) rfl) rfl) rfl) rfl) rfl) (.box rfl rfl (.s rfl) (.box rfl rfl (.s rfl) (.box rfl rfl (.s rfl) (.box rfl rfl (.s rfl) .nil)))))
            · refine dv1 (l_gF rfl rfl (gt rfl (nT b3025)) rfl) (dv1 (l_gF rfl rfl (gt rfl (nT b3025)) rfl) (dv1 (l_gF rfl rfl (gt rfl (nT b3025)) rfl) (dv1 (l_gF rfl rfl (gt rfl (nT b3025)) rfl) (dv1 (l_gF rfl rfl (gt rfl (nT b3025)) rfl) (dv1 (l_gF rfl rfl (gt rfl (nT b3025)) rfl) (dv1 (l_gF rfl rfl (gt rfl (nT b3025)) rfl) (dv1 (l_pickT (gt rfl (nT b3025)) (.v _)) (dv1 (l_move (.v _)) ?_))))))))
              refine dv1 (l_gF rfl rfl rfl rfl) (dv1 (l_gF rfl rfl rfl rfl) (dv1 (l_gF rfl rfl rfl rfl) (dv1 (l_gF rfl rfl rfl rfl) (dv1 (l_gF rfl rfl rfl rfl) (dv1 (l_gF rfl rfl rfl rfl) (dv1 (l_pickT rfl (.v _)) (dvE ?_)))))))
              cases hF
              refine q_join ?_
              exact (le_of [(0, some 0), (1, some 1), (2, some 1024), (3, some 1088)] rfl (.s (.s (.s (.s (.s (.cons (.v _) (.un _) (.cons (.v _) (.un _) (.cons (.v _) (.un _) (.cons (.v _) (.un _) (.cons (.v _) (.un _) (.cons (.v _) (.un _) (.cons (.v _) (.un _) (.cons (.v _) (.un _) (.cons (.v _) (.un _) (.cons (.v _) (.un _) (.cons (.v _) (.un _) (.cons (.v _) (.un _) (.cons (.v _) (.un _) (.s .nil rfl)))))))))))))) rfl) rfl) rfl) rfl) rfl) (.box rfl rfl (.s rfl) (.box rfl rfl (.s rfl) (.box rfl rfl (.s rfl) (.box rfl rfl (.s rfl) .nil)))))
          replace hF := hG3022
          rcases condE hF with ⟨b3029, hF⟩ | ⟨b3029, hF⟩
          · refine w_condT rfl b3029 ?_
            refine w_seq (w_region (by rfl) (dv1 (l_assign (.v _)) (dvE (q_seq (w_ret (q_reS (q_reI (q_reS ?_))))))))
            refine q_reS (q_reI (q_reS ?_))
            cases hF
            have hF := onOut hG3015
            cases hF
            cases hx3010 _ rfl
            have hF := onOut hG7
            cases hF
            refine q_end (.inr rfl) ?_
            exact ret_ok rfl (.cons (.tmp (.v _) (.v _)) .nil) (by decide) rfl
          · refine w_condF rfl b3029 ?_
            refine w_skip (q_seq (w_seq (w_region (by rfl) (dv1 (l_assign (.v _)) (dvE (q_seq (w_block (w_loopF hF (fun (s6030 : Nat) => ⟨[(2, .ad 0 2 0 0), (3, .ad 1 2 0 0), (5, .v (.int .i64 ((s3008 : Nat) : Int))), (6, .ad 2 8 0 0), (7, .ad 3 8 0 0), (8, .v (.int .i64 ((s6030 : Nat) : Int))), (47, .un), (48, .un), (49, .un), (50, .un), (51, .un), (52, .un), (53, .un), (56, .un), (57, .un), (58, .un), (59, .un), (60, .un), (61, .un)], [(0, some ⟨31, 2, [[.v (.int .i64 a0.Ret), .ro (.sl 47 8 (a0.Blocks.map MBlk.ct))]]⟩), (1, some ⟨31, 2, [[.v (.int .i64 a1.Ret), .ro (.sl 47 8 (a1.Blocks.map MBlk.ct))]]⟩), (2, some ⟨47, 8, [[.ro (.sl 3 1 (x3016.Params.map iC)), .ro (.sl 49 8 (x3016.Ops.map MOp.ct)), .v (.int .i64 x3016.End.K), .v (.int .i64 x3016.End.A), .v (.int .i64 x3016.End.To), .v (.int .i64 x3016.End.Else), .ro (.sl 3 1 (x3016.End.L.map iC)), .ro (.sl 3 1 (x3016.End.M.map iC))]]⟩), (3, some ⟨47, 8, [[.ro (.sl 3 1 (x3018.Params.map iC)), .ro (.sl 49 8 (x3018.Ops.map MOp.ct)), .v (.int .i64 x3018.End.K), .v (.int .i64 x3018.End.A), .v (.int .i64 x3018.End.To), .v (.int .i64 x3018.End.Else), .ro (.sl 3 1 (x3018.End.L.map iC)), .ro (.sl 3 1 (x3018.End.M.map iC))]]⟩)], 1⟩) (le_of [(0, some 0), (1, some 1), (2, some 2), (3, some 3)] rfl (.s (.s (.s (.s (.s (.s (.cons .un (.un _) (.cons .un (.un _) (.cons .un (.un _) (.cons .un (.un _) (.cons .un (.un _) (.cons .un (.un _) (.cons .un (.un _) (.cons .un (.un _) (.cons .un (.un _) (.cons .un (.un _) (.cons .un (.un _) (.cons .un (.un _) (.cons .un (.un _) .nil))))))))))))) rfl) rfl) rfl) rfl) rfl) rfl) (.box rfl rfl (.s rfl) (.box rfl rfl (.s rfl) (.box rfl rfl (.s rfl) (.box rfl rfl (.s rfl) .nil))))) ?_))))))))
            intro s6030 y6031 hF hx6032
            refine w_seq (w_seq (w_region (by rfl) (dv1 (l_move (.v _)) (dv1 (l_field fd47_1 rfl) (dv1 (l_load ty45 rfl rfl rfl rfl rfl) (dv1 (l_lenRo sl45 rfl rfl (List.length_map _)) (dv1 (l_bin rfl rfl b_lssN) (dvE ?_))))))))
            refine q_seq ?_
            rcases condE hF with ⟨b6034, hF⟩ | ⟨b6034, hF⟩
            · refine w_lenS 65 rfl fun l6035 => ?_
              refine w_condT rfl b6034 ?_
              refine w_skip (q_seq (w_seq (w_block (w_seq (w_draw [[], [0], [], [0, 1, 2], [0, 1, 2, 3], [], [5], [], [5, 6, 7], [5, 6, 7, 8], [0, 1, 2, 3, 4, 5, 6, 7, 8, 9], [0, 1, 2, 3, 4, 5, 6, 7, 8, 9, 10]] [0, 1, 2, 3, 4, 5, 6, 7, 8, 9, 10, 11] (by kernel_rfl) (by rfl) ⟨by decide, by rfl⟩ (by rfl) ?_)))))
              refine de1 rfl (l_field fd47_1 rfl) rfl (de1 rfl (l_load ty45 rfl rfl rfl rfl rfl) rfl (de1 rfl (l_move (.v _)) rfl ?_))
              obtain ⟨x6036, h6037, hF⟩ := bindE hF
              refine de1 rfl (l_indexRo s6030 sl45 rfl rfl rfl (map_at h6037)) rfl (de1 rfl (l_loadARo ty49 rfl rfl) rfl (de1 rfl (l_field fd47_1 rfl) rfl (de1 rfl (l_load ty45 rfl rfl rfl rfl rfl) rfl (de1 rfl (l_move (.v _)) rfl ?_))))
              obtain ⟨x6038, h6039, hF⟩ := bindE hF
              refine de1 rfl (l_indexRo s6030 sl45 rfl rfl rfl (map_at h6039)) rfl (de1 rfl (l_loadARo ty49 rfl rfl) rfl ?_)
              obtain ⟨y6040, h6041, hF⟩ := bindE hF
              refine deC1 rfl (l_call (B := false) (FnI.mk' (by kernel_rfl)) (.cons (.ag _) (.ag (.cons (.v _) (.cons (.v _) (.cons (.v _) (.cons (.v _) (.cons (.v _) (.cons (.v _) (.cons (.ro _) (.cons (.v _) .nil))))))))) (.cons (.ag _) (.ag (.cons (.v _) (.cons (.v _) (.cons (.v _) (.cons (.v _) (.cons (.v _) (.cons (.v _) (.cons (.ro _) (.cons (.v _) .nil))))))))) .nil)) (p_R04_Same_ac h6041) (okF p_R04_Same_ok)) rfl ?_
              refine de1 rfl (l_not rfl) rfl (ddE (q_seq ?_))
              rcases condE hF with ⟨b6042, hF⟩ | ⟨b6042, hF⟩
              · refine w_condF rfl (nF b6042) ?_
                refine w_skip (q_in (q_seq (w_region (by rfl) (dv1 (l_move (.v _)) (dv1 (l_bin rfl rfl (b_incN (of_decide_eq_true b6034) l6035)) (dv1 (l_assign (.v _)) (dvE ?_)))))))
                cases hF
                refine qL rfl ?_
                exact (le_of [(0, some 0), (1, some 1), (2, some 2), (3, some 3)] rfl (.s (.s (.s (.s (.s (.s (.cons .un (.un _) (.cons .un (.un _) (.cons .un (.un _) (.cons .un (.un _) (.cons .un (.un _) (.cons .un (.un _) (.cons .un (.un _) (.cons .un (.un _) (.cons .un (.un _) (.cons .un (.un _) (.cons .un (.un _) (.cons .un (.un _) (.cons .un (.un _) .nil))))))))))))) rfl) rfl) rfl) rfl) rfl) rfl) (.box rfl rfl (.s rfl) (.box rfl rfl (.s rfl) (.box rfl rfl (.s rfl) (.box rfl rfl (.s rfl) .nil)))))
              · refine w_condT rfl (nT b6042) ?_
                refine w_seq (w_region (by rfl) (dv1 (l_assign (.v _)) (dvE (q_seq (w_ret (q_reI (q_reS (q_reS ?_))))))))
                refine q_reI (q_reI (q_reS (q_reS (q_reI (q_reS ?_)))))
                cases hF
                cases hx6032 _ rfl
                have hF := onOut hG3015
                cases hF
                cases hx3010 _ rfl
                have hF := onOut hG7
                cases hF
                refine q_end (.inr rfl) ?_
                exact ret_ok rfl (.cons (.tmp (.v _) (.v _)) .nil) (by decide) rfl
            · refine w_condF rfl b6034 ?_
              refine w_exit ?_
              cases hF
              cases hx6032 _ rfl
              refine q_exS (q_exS (q_here (q_in (qL rfl ?_))))
              exact (le_of [(0, some 0), (1, some 1)] rfl (.s (.s (.s (.cons .un (.un _) (.cons .un (.un _) (.cons .un (.un _) (.cons .un (.un _) (.cons .un (.un _) (.cons .un (.un _) (.cons .un (.un _) (.cons .un (.un _) (.cons .un (.un _) (.cons .un (.un _) (.cons .un (.un _) (.cons .un (.un _) (.cons .un (.un _) .nil))))))))))))) rfl) rfl) rfl) (.box rfl rfl (.s rfl) (.box rfl rfl (.s rfl) .nil)))
        subst e6044
        replace hF := onGo hG3015
        refine w_region (by rfl) (dv1 (l_move (.v _)) (dv1 (l_bin rfl rfl (b_incN (of_decide_eq_true b3012) l3013)) (dv1 (l_assign (.v _)) (dvE ?_))))
        cases hF
        refine qL rfl ?_
        exact (le_of [(0, some 0), (1, some 1)] rfl (.s (.s (.s (.cons .un (.un _) (.cons .un (.un _) (.cons .un (.un _) (.cons .un (.un _) (.cons .un (.un _) (.cons .un (.un _) (.cons .un (.un _) (.cons .un (.un _) (.cons .un (.un _) (.cons .un (.un _) (.cons .un (.un _) (.cons .un (.un _) (.cons .un (.un _) .nil))))))))))))) rfl) rfl) rfl) (.box rfl rfl (.s rfl) (.box rfl rfl (.s rfl) .nil)))
      · refine w_condF rfl b3012 ?_
        refine w_exit ?_
        cases hF
        cases hx3010 _ rfl
        refine q_exS (q_exS (q_here (qL rfl ?_)))
        exact (le_of [] rfl .nil .nil)
    subst e6047
    replace hF := onGo hG7
    refine w_seq (w_region (by rfl) (dv1 (l_assign (.v _)) (dvE (q_seq (w_ret ?_)))))
    cases hF
    refine q_end (.inr rfl) ?_
    exact ret_ok rfl (.cons (.tmp (.v _) (.v _)) .nil) (by decide) rfl

def p_R16_Name_s1 (a0 : Int) : Option Int :=
some a0

theorem p_R16_Name_s1_ok {r : Int} : rOk (.v (.int .i64 r)) = true ∧ FrT (.v (.int .i64 r)) := ⟨rfl, (.one (.cl (.v _)))⟩

set_option maxRecDepth 10000 in
set_option maxHeartbeats 4000000 in
theorem p_R16_Name_s1_ac {a0 : Int} {r : Int} (hF : p_R16_Name_s1 a0 = some r) : AC Tryd.prog GT 25 [.v (.int .i64 a0), .v (.slice none 0 0)] (fun c => c = .v (.int .i64 r)) := by
  unfold p_R16_Name_s1 at hF
  refine AC.mk (nt := 20) Tryd.func25 rfl rfl rfl fun w N => ?_
  refine w_seq (w_region (by rfl) (dv1 (l_assign (.v _)) (dvE (q_seq (w_seq (w_seq (w_region (by rfl) (dv1 (l_move (.v _)) ?_))))))))
  refine dv1 (l_nilV sl27 rfl) (dvE (q_seq (w_true rfl (w_seq (w_region (by rfl) (dv1 (l_move (.v _)) (dv1 (l_assign (.v _)) (dvE ?_))))))))
  refine q_seq (w_ret (q_reS ?_))
  cases hF
  refine q_end (.inr rfl) ?_
  exact ret_ok rfl (.cons (.tmp (.v _) (.v _)) .nil) (by decide) rfl

def p_R16_Rename_s1 (a0 : MFun) (a1 : List Int) : Option MFun :=
((p_R16_Own a0).bind fun y7 =>
(((loop (fun (s3012 : (List MBlk) × Nat) =>
(bif decide (s3012.2 < s3012.1.length) then
((((s3012.1[s3012.2]?).bind fun x3021 =>
(((loop (fun (s6026 : (List MOp) × Nat) =>
(bif decide (s6026.2 < s6026.1.length) then
((s6026.1[s6026.2]?).bind fun x6032 =>
((p_R04_Renamed x6032 a1).bind fun y6034 =>
some (Xt.go ((s6026.1.set s6026.2 y6034), (s6026.2 + 1)))))
else
some (Xt.out s6026.1))) Fu (x3021.Ops, 0))).bind fun (s3024 : (List MOp)) =>
(((((bif decide (x3021.End.K = 1) then
some true
else
(bif decide (x3021.End.K = 3) then
some true
else
(bif decide (x3021.End.K = 2) then
some (!(decide (y7.Ret = (-1))))
else
some false)))).bind fun (s6040 : Bool) =>
(bif s6040 then
((p_R04_To x3021.End.A a1).bind fun y6046 =>
some y6046)
else
some x3021.End.A))).bind fun (s6037 : Int) =>
(((((bif decide (x3021.End.K = 0) then
some true
else
some (decide (x3021.End.K = 1)))).bind fun (s6053 : Bool) =>
(bif s6053 then
((p_R16_Name_s1 x3021.End.To).bind fun y6057 =>
((p_R04_All x3021.End.L a1).bind fun y6059 =>
some (y6057, y6059)))
else
some (x3021.End.To, x3021.End.L)))).bind fun (s6050 : Int × (List Int)) =>
(((bif decide (x3021.End.K = 1) then
((p_R16_Name_s1 x3021.End.Else).bind fun y6066 =>
((p_R04_All x3021.End.M a1).bind fun y6068 =>
some (y6066, y6068)))
else
some (x3021.End.Else, x3021.End.M))).bind fun (s6063 : Int × (List Int)) =>
some (s3012.1.set s3012.2 (⟨x3021.Params, s3024, (⟨x3021.End.K, s6037, s6050.1, s6063.1, s6050.2, s6063.2⟩ : MEnd)⟩ : MBlk)))))))).bind fun (s3019 : (List MBlk)) =>
some (Xt.go (s3019, (s3012.2 + 1))))
else
some (Xt.out s3012.1))) Fu (y7.Blocks, 0))).bind fun (s10 : (List MBlk)) =>
some (⟨y7.Ret, s10⟩ : MFun)))

theorem p_R16_Rename_s1_ok {r : MFun} : rOk (.ag (MFun.ct r)) = true ∧ FrT (.ag (MFun.ct r)) := ⟨rfl, (.one (.ag (k_MFunct _)))⟩

set_option maxRecDepth 10000 in
set_option maxHeartbeats 4000000 in
theorem p_R16_Rename_s1_ac {a0 : MFun} {a1 : List Int} {r : MFun} (hF : p_R16_Rename_s1 a0 a1 = some r) : AC Tryd.prog GT 10 [.ag (MFun.ct a0), .sl 3 1 (a1.map iC), .v (.slice none 0 0)] (fun c => c = .ag (MFun.ct r)) := by
  unfold p_R16_Rename_s1 at hF
  refine AC.mk (nt := 110) Tryd.func10 rfl rfl rfl fun w N => ?_
  refine w_seq (w_region (by rfl) (dvN (l_box (.ag _) rfl rfl) (dvN (l_alloc zt31) (dvE (q_seq (w_seq (w_region (by rfl) (dv1 (l_loadA ty31 rfl rfl rfl rfl rfl) ?_))))))))
  obtain ⟨y7, h8, hF⟩ := bindE hF
  refine dvC (l_call (B := false) (FnI.mk' (by kernel_rfl)) (.cons (.ag _) (.ag (.cons (.v _) (.cons (.ro _) .nil))) .nil) (p_R16_Own_ac h8) (okF p_R16_Own_ok)) ?_
  rintro _ rfl
  refine dvS (l_store ty31 rfl (.ag _) rfl rfl rfl (Nat.le_of_ble_eq_true rfl) rfl) (dvE (q_seq ?_))
  obtain ⟨s10, hF, hG11⟩ := bindE hF
  refine w_seqJ ⟨[(3, .ad 0 2 0 0), (6, .ad 2 2 0 0)], [(0, some ⟨31, 2, [[.v (.int .i64 y7.Ret), .rf 1 0 ((s10.map MBlk.ct).length) 8]]⟩), (1, some ⟨47, 8, s10.map MBlk.ct⟩), (2, some ⟨31, 2, [[.v (.int .i64 0), .v (.slice none 0 0)]]⟩)], 1⟩ ?_ ?_
  · refine w_seq (w_region (by rfl) (dv1 (l_assign (.v _)) (dvE (q_seq (w_block (w_loopF hF (fun (s3012 : (List MBlk) × Nat) => ⟨[(1, .ro (.sl 3 1 (a1.map iC))), (2, .v (.slice none 0 0)), (3, .ad 0 2 0 0), (6, .ad 2 2 0 0), (7, .v (.int .i64 ((s3012.2 : Nat) : Int))), (53, .un), (54, .un), (55, .un), (58, .un), (59, .un), (60, .un), (61, .un), (62, .un), (63, .un), (64, .un), (65, .un), (76, .un), (77, .un), (78, .un)], [(0, some ⟨31, 2, [[.v (.int .i64 y7.Ret), .rf 1 0 ((s3012.1.map MBlk.ct).length) 8]]⟩), (1, some ⟨47, 8, s3012.1.map MBlk.ct⟩), (2, some ⟨31, 2, [[.v (.int .i64 0), .v (.slice none 0 0)]]⟩)], 1⟩) (le_of [(0, some 0), (1, some 193), (2, some 64)] rfl (.s (.s (.s (.s (.s (.cons .un (.un _) (.cons .un (.un _) (.cons .un (.un _) (.cons .un (.un _) (.cons .un (.un _) (.cons .un (.un _) (.cons .un (.un _) (.cons .un (.un _) (.cons .un (.un _) (.cons .un (.un _) (.cons .un (.un _) (.cons .un (.un _) (.cons .un (.un _) (.cons .un (.un _) .nil)))))))))))))) rfl) rfl) rfl) rfl) rfl) (.box rfl rfl (.s rfl) (.row rfl rfl rfl (clm k_MBlkct _) (.box rfl rfl (.s rfl) .nil)))) ?_))))))
    intro s3012 y3013 hF hx3014
    refine w_seq (w_seq (w_region (by rfl) (dv1 (l_move (.v _)) (dv1 (l_field fd31_1 rfl) (dv1 (l_load ty29 rfl rfl rfl rfl rfl) (dv1 (l_lenR sl29 rfl rfl (List.length_map _)) (dv1 (l_bin rfl rfl b_lssN) (dvE ?_))))))))
    refine q_seq ?_
    rcases condE hF with ⟨b3016, hF⟩ | ⟨b3016, hF⟩
    · refine w_lenK 1 rfl fun l3017 => ?_
      refine w_condT rfl b3016 ?_
      refine w_skip (q_seq ?_)
      obtain ⟨s3019, hF, hG3020⟩ := bindE hF
      refine w_seqJ ⟨[(1, .ro (.sl 3 1 (a1.map iC))), (2, .v (.slice none 0 0)), (3, .ad 0 2 0 0), (6, .ad 2 2 0 0), (7, .v (.int .i64 ((s3012.2 : Nat) : Int))), (53, .un), (54, .un), (55, .un), (58, .un), (59, .un), (60, .un), (61, .un), (62, .un), (63, .un), (64, .un), (65, .un), (76, .un), (77, .un), (78, .un)], [(0, some ⟨31, 2, [[.v (.int .i64 y7.Ret), .rf 1 0 ((s3019.map MBlk.ct).length) 8]]⟩), (1, some ⟨47, 8, s3019.map MBlk.ct⟩), (2, some ⟨31, 2, [[.v (.int .i64 0), .v (.slice none 0 0)]]⟩)], 1⟩ ?_ ?_
      · refine w_block (w_seq (w_region (by rfl) (dv1 (l_field fd31_1 rfl) (dv1 (l_load ty29 rfl rfl rfl rfl rfl) (dv1 (l_move (.v _)) ?_)))))
        obtain ⟨x3021, h3022, hF⟩ := bindE hF
        refine dv1 (l_index s3012.2 sl29 rfl rfl rfl (lt_at MBlk.ct h3022)) (dvG (le_open 1 s3012.2 rfl (map_at h3022) rfl) ?_)
        refine dv1 (l_loadA ty47 rfl rfl (set_at h3022) rfl rfl) (dvN (l_alloc zt47) (dvS (l_store ty47 rfl (.ag _) rfl rfl rfl (Nat.le_of_ble_eq_true rfl) rfl) (dvE (q_seq ?_))))
        obtain ⟨s3024, hF, hG3025⟩ := bindE hF
        refine w_seqJ ⟨[(1, .ro (.sl 3 1 (a1.map iC))), (2, .v (.slice none 0 0)), (3, .ad 0 2 0 0), (6, .ad 2 2 0 0), (7, .v (.int .i64 ((s3012.2 : Nat) : Int))), (8, .ad 3 8 0 0), (53, .un), (54, .un), (55, .un), (58, .un), (59, .un), (60, .un), (61, .un), (62, .un), (63, .un), (64, .un), (65, .un), (76, .un), (77, .un), (78, .un)], [(0, some ⟨31, 2, [[.v (.int .i64 y7.Ret), .rf 1 0 ((s3012.1.map MBlk.ct).length) 8]]⟩), (1, some ⟨47, 8, (s3012.1.map MBlk.ct).set s3012.2 [.rf 4 0 ((x3021.Params.map iC).length) 1, .rf 5 0 ((s3024.map MOp.ct).length) 8, .v (.int .i64 x3021.End.K), .v (.int .i64 x3021.End.A), .v (.int .i64 x3021.End.To), .v (.int .i64 x3021.End.Else), .rf 6 0 ((x3021.End.L.map iC).length) 1, .rf 7 0 ((x3021.End.M.map iC).length) 1]⟩), (2, some ⟨31, 2, [[.v (.int .i64 0), .v (.slice none 0 0)]]⟩), (3, some ⟨47, 8, [[.rf 4 0 ((x3021.Params.map iC).length) 1, .rf 5 0 ((s3024.map MOp.ct).length) 8, .v (.int .i64 x3021.End.K), .v (.int .i64 x3021.End.A), .v (.int .i64 x3021.End.To), .v (.int .i64 x3021.End.Else), .rf 6 0 ((x3021.End.L.map iC).length) 1, .rf 7 0 ((x3021.End.M.map iC).length) 1]]⟩), (4, some ⟨3, 1, x3021.Params.map iC⟩), (5, some ⟨49, 8, s3024.map MOp.ct⟩), (6, some ⟨3, 1, x3021.End.L.map iC⟩), (7, some ⟨3, 1, x3021.End.M.map iC⟩)], 1⟩ ?_ ?_
        · refine w_seq (w_region (by rfl) (dv1 (l_assign (.v _)) (dvE (q_seq (w_block (w_loopF hF (fun (s6026 : (List MOp) × Nat) => ⟨[(1, .ro (.sl 3 1 (a1.map iC))), (2, .v (.slice none 0 0)), (3, .ad 0 2 0 0), (6, .ad 2 2 0 0), (7, .v (.int .i64 ((s3012.2 : Nat) : Int))), (8, .ad 3 8 0 0), (9, .v (.int .i64 ((s6026.2 : Nat) : Int))), (53, .un), (54, .un), (55, .un), (58, .un), (59, .un), (60, .un), (61, .un), (62, .un), (63, .un), (64, .un), (65, .un), (76, .un), (77, .un), (78, .un)], [(0, some ⟨31, 2, [[.v (.int .i64 y7.Ret), .rf 1 0 ((s3012.1.map MBlk.ct).length) 8]]⟩), (1, some ⟨47, 8, (s3012.1.map MBlk.ct).set s3012.2 [.rf 4 0 ((x3021.Params.map iC).length) 1, .rf 5 0 ((s6026.1.map MOp.ct).length) 8, .v (.int .i64 x3021.End.K), .v (.int .i64 x3021.End.A), .v (.int .i64 x3021.End.To), .v (.int .i64 x3021.End.Else), .rf 6 0 ((x3021.End.L.map iC).length) 1, .rf 7 0 ((x3021.End.M.map iC).length) 1]⟩), (2, some ⟨31, 2, [[.v (.int .i64 0), .v (.slice none 0 0)]]⟩), (3, some ⟨47, 8, [[.rf 4 0 ((x3021.Params.map iC).length) 1, .rf 5 0 ((s6026.1.map MOp.ct).length) 8, .v (.int .i64 x3021.End.K), .v (.int .i64 x3021.End.A), .v (.int .i64 x3021.End.To), .v (.int .i64 x3021.End.Else), .rf 6 0 ((x3021.End.L.map iC).length) 1, .rf 7 0 ((x3021.End.M.map iC).length) 1]]⟩), (4, some ⟨3, 1, x3021.Params.map iC⟩), (5, some ⟨49, 8, s6026.1.map MOp.ct⟩), (6, some ⟨3, 1, x3021.End.L.map iC⟩), (7, some ⟨3, 1, x3021.End.M.map iC⟩)], 1⟩) (le_of [(0, some 0), (1, some 1), (2, some 2), (3, some 768), (4, some 640), (5, some 641), (6, some 646), (7, some 647)] rfl (.s (.s (.s (.s (.s (.s (.s (.cons .un (.un _) (.cons .un (.un _) (.cons .un (.un _) (.cons .un (.un _) (.cons .un (.un _) (.cons .un (.un _) (.cons .un (.un _) (.cons .un (.un _) (.cons .un (.un _) (.cons .un (.un _) (.cons .un (.un _) (.cons .un (.un _) (.cons .un (.un _) (.cons .un (.un _) .nil)))))))))))))) rfl) rfl) rfl) rfl) rfl) rfl) rfl) (.box rfl rfl (.s rfl) (.opn rfl rfl (clm k_MBlkct _) (.s rfl) (.box rfl rfl (.s rfl) (.box rfl rfl (.s rfl) (.row rfl rfl rfl (clm k_iC _) (.row rfl rfl rfl (clm k_MOpct _) (.row rfl rfl rfl (clm k_iC _) (.row rfl rfl rfl (clm k_iC _) .nil))))))))) ?_))))))
          intro s6026 y6027 hF hx6028
          refine w_seq (w_seq (w_region (by rfl) (dv1 (l_move (.v _)) (dv1 (l_field fd47_1 rfl) (dv1 (l_load ty45 rfl rfl rfl rfl rfl) (dv1 (l_lenR sl45 rfl rfl (List.length_map _)) (dv1 (l_bin rfl rfl b_lssN) (dvE ?_))))))))
          refine q_seq ?_
          rcases condE hF with ⟨b6030, hF⟩ | ⟨b6030, hF⟩
          · refine w_lenK 5 rfl fun l6031 => ?_
            refine w_condT rfl b6030 ?_
            refine w_skip (q_seq (w_seq (w_block ?_)))
            obtain ⟨x6032, h6033, hF⟩ := bindE hF
            refine W.le (le_open 5 s6026.2 rfl (map_at h6033) rfl) ?_
            refine w_draw [[], [0], [], [0, 1, 2], [0, 1, 2, 3], [0, 1, 2, 3, 4], [], [], [7], [], [7, 8, 9], [7, 8, 9, 10], [], [7, 8, 9, 10, 11, 12], [0, 1, 2, 3, 4, 5, 6, 7, 8, 9, 10, 11, 12, 13], [0, 1, 2, 3, 4, 5, 6, 7, 8, 9, 10, 11, 12, 13, 14]] [0, 1, 2, 3, 4, 5, 6, 7, 8, 9, 10, 11, 12, 13, 14, 15] (by kernel_rfl) (by rfl) ⟨by decide, by rfl⟩ (by rfl) ?_
            refine de1 rfl (l_field fd31_1 rfl) rfl (de1 rfl (l_load ty29 rfl rfl rfl rfl rfl) rfl (de1 rfl (l_move (.v _)) rfl (de1 rfl (l_index s3012.2 sl29 rfl rfl rfl (lt_at MBlk.ct h3022)) rfl (de1 rfl (l_field fd47_1 rfl) rfl (de1 rfl (l_load ty45 rfl rfl (set_at h3022) rfl rfl) rfl (de1 rfl (l_move (.v _)) rfl (de1 rfl (l_field fd47_1 rfl) rfl (de1 rfl (l_load ty45 rfl rfl rfl rfl rfl) rfl ?_))))))))
            refine de1 rfl (l_move (.v _)) rfl (de1 rfl (l_index s6026.2 sl45 rfl rfl rfl (lt_at MOp.ct h6033)) rfl (de1 rfl (l_loadA ty49 rfl rfl (set_at h6033) rfl rfl) rfl (de1 rfl (l_move (.ro _)) rfl ?_)))
            obtain ⟨y6034, h6035, hF⟩ := bindE hF
            refine deC1 rfl (l_call (B := true) (FnI.mk' (by kernel_rfl)) (.cons (.ag _) (.ag (.cons (.v _) (.cons (.v _) (.cons (.v _) (.cons (.v _) (.cons (.v _) (.cons (.v _) (.cons (.rf rfl rfl rfl (clm k_iC _)) (.cons (.v _) .nil))))))))) (.cons (.ro _) (.one (.ro _)) .nil)) (p_R04_Renamed_ac h6035) (okT p_R04_Renamed_ok)) rfl ?_
            refine de1 rfl (l_index s6026.2 sl45 rfl rfl rfl (lt_at MOp.ct h6033)) rfl (deS rfl (l_storeR ty49 rfl (.ag _) rfl (set_at h6033) rfl (Nat.le_of_ble_eq_true rfl) rfl (List.set_set ..)) rfl (ddE (q_in (q_seq (w_region (by rfl) (dv1 (l_move (.v _)) (dv1 (l_bin rfl rfl (b_incN (of_decide_eq_true b6030) l6031)) (dv1 (l_assign (.v _)) ?_))))))))
            refine dvE ?_
            cases hF
            refine qL rfl ?_
            refine St.le.trans (le_closeR 5 s6026.2 rfl (set_at h6033) (.cons (.of (.v _)) (.cons (.of (.v _)) (.cons (.of (.v _)) (.cons (.of (.v _)) (.cons (.of (.v _)) (.cons (.of (.v _)) (.cons (.of (.rf rfl rfl (clm k_iC _))) (.cons (.of (.v _)) .nil)))))))) (by decide) (by decide) rfl (set_cl MOp.ct _ _ _ y6034)) ?_
            exact (le_of [(0, some 0), (1, some 1), (2, some 2), (3, some 3), (4, some 4), (5, some 5), (6, some 6), (7, some 7)] rfl (.s (.s (.s (.s (.s (.s (.s (.cons .un (.un _) (.cons .un (.un _) (.cons .un (.un _) (.cons .un (.un _) (.cons .un (.un _) (.cons .un (.un _) (.cons .un (.un _) (.cons .un (.un _) (.cons .un (.un _) (.cons .un (.un _) (.cons .un (.un _) (.cons .un (.un _) (.cons .un (.un _) (.cons .un (.un _) .nil)))))))))))))) rfl) rfl) rfl) rfl) rfl) rfl) rfl) (.box rfl rfl (.s rfl) (.opn rfl rfl (clm k_MBlkct _) (.cons (.rf rfl rfl) (.cons (.rf rfl (by simp)) (.cons (.v rfl) (.cons (.v rfl) (.cons (.v rfl) (.cons (.v rfl) (.cons (.rf rfl rfl) (.cons (.rf rfl rfl) .nil)))))))) (.box rfl rfl (.s rfl) (.box rfl rfl (.cons (.rf rfl rfl) (.cons (.rf rfl (by simp)) (.cons (.v rfl) (.cons (.v rfl) (.cons (.v rfl) (.cons (.v rfl) (.cons (.rf rfl rfl) (.cons (.rf rfl rfl) .nil)))))))) (.row rfl rfl rfl (clm k_iC _) (.row rfl rfl rfl (clm k_MOpct _) (.row rfl rfl rfl (clm k_iC _) (.row rfl rfl rfl (clm k_iC _) .nil)))))))))
          · refine w_condF rfl b6030 ?_
            refine w_exit ?_
            cases hF
            cases hx6028 _ rfl
            refine q_exS (q_exS (q_here (q_join ?_)))
            exact (le_of [(0, some 0), (1, some 1), (2, some 2), (3, some 3), (4, some 4), (5, some 5), (6, some 6), (7, some 7)] rfl (.s (.s (.s (.s (.s (.s (.cons .un (.un _) (.cons .un (.un _) (.cons .un (.un _) (.cons .un (.un _) (.cons .un (.un _) (.cons .un (.un _) (.cons .un (.un _) (.cons .un (.un _) (.cons .un (.un _) (.cons .un (.un _) (.cons .un (.un _) (.cons .un (.un _) (.cons .un (.un _) (.cons .un (.un _) .nil)))))))))))))) rfl) rfl) rfl) rfl) rfl) rfl) (.box rfl rfl (.s rfl) (.opn rfl rfl (clm k_MBlkct _) (.s rfl) (.box rfl rfl (.s rfl) (.box rfl rfl (.s rfl) (.row rfl rfl rfl (clm k_iC _) (.row rfl rfl rfl (clm k_MOpct _) (.row rfl rfl rfl (clm k_iC _) (.row rfl rfl rfl (clm k_iC _) .nil)))))))))
        replace hF := hG3025
        refine w_seq (w_region (by rfl) (dv1 (l_field fd47_2 rfl) (dv1 (l_loadA ty44 rfl rfl rfl rfl rfl) (dvN (l_alloc zt44) (dvS (l_store ty44 rfl (.ag _) rfl rfl rfl (Nat.le_of_ble_eq_true rfl) rfl) (dvE (q_seq ?_)))))))
        obtain ⟨s6037, hF, hG6038⟩ := bindE hF
        refine w_seqJ ⟨[(1, .ro (.sl 3 1 (a1.map iC))), (2, .v (.slice none 0 0)), (3, .ad 0 2 0 0), (6, .ad 2 2 0 0), (7, .v (.int .i64 ((s3012.2 : Nat) : Int))), (10, .ad 3 6 0 0), (53, .un), (54, .un), (55, .un), (58, .un), (59, .un), (60, .un), (61, .un), (62, .un), (63, .un), (64, .un), (65, .un), (76, .un), (77, .un), (78, .un)], [(0, some ⟨31, 2, [[.v (.int .i64 y7.Ret), .rf 1 0 ((s3012.1.map MBlk.ct).length) 8]]⟩), (1, some ⟨47, 8, (s3012.1.map MBlk.ct).set s3012.2 [.rf 6 0 ((x3021.Params.map iC).length) 1, .rf 7 0 ((s3024.map MOp.ct).length) 8, .v (.int .i64 x3021.End.K), .v (.int .i64 x3021.End.A), .v (.int .i64 x3021.End.To), .v (.int .i64 x3021.End.Else), .rf 4 0 ((x3021.End.L.map iC).length) 1, .rf 5 0 ((x3021.End.M.map iC).length) 1]⟩), (2, some ⟨31, 2, [[.v (.int .i64 0), .v (.slice none 0 0)]]⟩), (3, some ⟨44, 6, [[.v (.int .i64 x3021.End.K), .v (.int .i64 s6037), .v (.int .i64 x3021.End.To), .v (.int .i64 x3021.End.Else), .rf 4 0 ((x3021.End.L.map iC).length) 1, .rf 5 0 ((x3021.End.M.map iC).length) 1]]⟩), (4, some ⟨3, 1, x3021.End.L.map iC⟩), (5, some ⟨3, 1, x3021.End.M.map iC⟩), (6, some ⟨3, 1, x3021.Params.map iC⟩), (7, some ⟨49, 8, s3024.map MOp.ct⟩)], 1⟩ ?_ ?_
        · obtain ⟨s6040, hF, hG6041⟩ := bindE hF
          refine w_seqJ ⟨[(1, .ro (.sl 3 1 (a1.map iC))), (2, .v (.slice none 0 0)), (3, .ad 0 2 0 0), (6, .ad 2 2 0 0), (7, .v (.int .i64 ((s3012.2 : Nat) : Int))), (10, .ad 3 6 0 0), (53, .un), (54, .un), (55, .un), (58, .un), (59, .un), (60, .un), (61, .un), (62, .un), (63, .un), (64, .un), (65, .un), (66, .v (.bool s6040)), (76, .un), (77, .un), (78, .un)], [(0, some ⟨31, 2, [[.v (.int .i64 y7.Ret), .rf 1 0 ((s3012.1.map MBlk.ct).length) 8]]⟩), (1, some ⟨47, 8, (s3012.1.map MBlk.ct).set s3012.2 [.rf 6 0 ((x3021.Params.map iC).length) 1, .rf 7 0 ((s3024.map MOp.ct).length) 8, .v (.int .i64 x3021.End.K), .v (.int .i64 x3021.End.A), .v (.int .i64 x3021.End.To), .v (.int .i64 x3021.End.Else), .rf 4 0 ((x3021.End.L.map iC).length) 1, .rf 5 0 ((x3021.End.M.map iC).length) 1]⟩), (2, some ⟨31, 2, [[.v (.int .i64 0), .v (.slice none 0 0)]]⟩), (3, some ⟨44, 6, [[.v (.int .i64 x3021.End.K), .v (.int .i64 x3021.End.A), .v (.int .i64 x3021.End.To), .v (.int .i64 x3021.End.Else), .rf 4 0 ((x3021.End.L.map iC).length) 1, .rf 5 0 ((x3021.End.M.map iC).length) 1]]⟩), (4, some ⟨3, 1, x3021.End.L.map iC⟩), (5, some ⟨3, 1, x3021.End.M.map iC⟩), (6, some ⟨3, 1, x3021.Params.map iC⟩), (7, some ⟨49, 8, s3024.map MOp.ct⟩)], 1⟩ ?_ ?_
          · refine w_region (by rfl) (dv1 (l_field fd44_0 rfl) (dv1 (l_load ty3 rfl rfl rfl rfl rfl) (dv1 (l_bin rfl rfl b_eql) (dv1 (l_move (.v _)) ?_))))
            rcases condE hF with ⟨b6042, hF⟩ | ⟨b6042, hF⟩
            · refine dv1 (l_gF rfl rfl (gt rfl b6042) rfl) (dv1 (l_gF rfl rfl (gt rfl b6042) rfl) (dv1 (l_gF rfl rfl (gt rfl b6042) rfl) (dv1 (l_pickT (gt rfl b6042) (.v _)) (dv1 (l_move (.v _)) (dv1 (l_gF rfl rfl rfl rfl) (dv1 (l_gF rfl rfl rfl rfl) (dv1 (l_gF rfl rfl rfl rfl) (dv1 (l_gF rfl rfl rfl rfl) ?_))))))))
              refine dv1 (l_gU rfl rfl rfl) (dv1 (l_gU rfl rfl rfl) (dv1 (l_gU rfl rfl rfl) (dv1 (l_gF rfl rfl rfl rfl) (dv1 (l_pickT rfl (.v _)) (dvE ?_)))))
              cases hF
              refine q_join ?_
              exact (le_of [(0, some 0), (1, some 1), (2, some 2), (3, some 192), (4, some 6), (5, some 7), (6, some 4), (7, some 5)] rfl (.s (.s (.s (.s (.s (.s (.cons (.v _) (.un _) (.cons (.v _) (.un _) (.cons (.v _) (.un _) (.cons (.v _) (.un _) (.cons (.v _) (.un _) (.cons (.v _) (.un _) (.cons (.v _) (.un _) (.cons (.v _) (.un _) (.cons (.v _) (.un _) (.cons (.v _) (.un _) (.cons (.v _) (.un _) (.s (.cons .un (.un _) (.cons .un (.un _) (.cons .un (.un _) .nil))) rfl)))))))))))) rfl) rfl) rfl) rfl) rfl) rfl) (.box rfl rfl (.s rfl) (.opn rfl rfl (clm k_MBlkct _) (.s rfl) (.box rfl rfl (.s rfl) (.box rfl rfl (.s rfl) (.row rfl rfl rfl (clm k_iC _) (.row rfl rfl rfl (clm k_iC _) (.row rfl rfl rfl (clm k_iC _) (.row rfl rfl rfl (clm k_MOpct _) .nil)))))))))
            · refine dv1 (l_gT rfl rfl (gt rfl b6042) fun _ => l_field fd44_0 rfl) (dv1 (l_gT rfl rfl (gt rfl b6042) fun _ => l_load ty3 rfl rfl rfl rfl rfl) (dv1 (l_gT rfl rfl (gt rfl b6042) fun _ => l_bin rfl rfl b_eql) (dv1 (l_pickF (gt rfl b6042) (.v _)) (dv1 (l_move (.v _)) ?_))))
              rcases condE hF with ⟨b6043, hF⟩ | ⟨b6043, hF⟩
              · refine dv1 (l_gF rfl rfl (gt rfl b6043) rfl) (dv1 (l_gF rfl rfl (gt rfl b6043) rfl) (dv1 (l_gF rfl rfl (gt rfl b6043) rfl) (dv1 (l_gF rfl rfl (gt rfl b6043) rfl) (dv1 (l_gU rfl rfl rfl) (dv1 (l_gU rfl rfl rfl) (dv1 (l_gU rfl rfl rfl) (dv1 (l_gF rfl rfl (gt rfl b6043) rfl) (dv1 (l_pickT (gt rfl b6043) (.v _)) ?_))))))))
                refine dvE ?_
                cases hF
                refine q_join ?_
                exact (le_of [(0, some 0), (1, some 1), (2, some 2), (3, some 192), (4, some 6), (5, some 7), (6, some 4), (7, some 5)] rfl (.s (.s (.s (.s (.s (.s (.cons (.ad _ _ _ _) (.un _) (.cons (.v _) (.un _) (.cons (.v _) (.un _) (.cons (.v _) (.un _) (.cons (.v _) (.un _) (.cons (.v _) (.un _) (.cons (.v _) (.un _) (.cons (.v _) (.un _) (.cons (.v _) (.un _) (.cons (.v _) (.un _) (.cons (.v _) (.un _) (.s (.cons .un (.un _) (.cons .un (.un _) (.cons .un (.un _) .nil))) rfl)))))))))))) rfl) rfl) rfl) rfl) rfl) rfl) (.box rfl rfl (.s rfl) (.opn rfl rfl (clm k_MBlkct _) (.s rfl) (.box rfl rfl (.s rfl) (.box rfl rfl (.s rfl) (.row rfl rfl rfl (clm k_iC _) (.row rfl rfl rfl (clm k_iC _) (.row rfl rfl rfl (clm k_iC _) (.row rfl rfl rfl (clm k_MOpct _) .nil)))))))))
              · refine dv1 (l_gT rfl rfl (gt rfl b6043) fun _ => l_field fd44_0 rfl) (dv1 (l_gT rfl rfl (gt rfl b6043) fun _ => l_load ty3 rfl rfl rfl rfl rfl) (dv1 (l_gT rfl rfl (gt rfl b6043) fun _ => l_bin rfl rfl b_eql) (dv1 (l_gT rfl rfl (gt rfl b6043) fun _ => l_move (.v _)) ?_)))
                rcases condE hF with ⟨b6044, hF⟩ | ⟨b6044, hF⟩
                · refine dv1 (l_gT rfl rfl (gt rfl b6044) fun _ => l_field fd31_0 rfl) (dv1 (l_gT rfl rfl (gt rfl b6044) fun _ => l_load ty3 rfl rfl rfl rfl rfl) (dv1 (l_gT rfl rfl (gt rfl b6044) fun _ => l_bin rfl rfl b_neq) (dv1 (l_gT rfl rfl (gt rfl b6043) fun _ => l_pickT (gt rfl b6044) (.v _)) (dv1 (l_pickF (gt rfl b6043) (.v _)) (dvE ?_)))))
                  cases hF
                  refine q_join ?_
                  exact (le_of [(0, some 0), (1, some 1), (2, some 2), (3, some 192), (4, some 6), (5, some 7), (6, some 4), (7, some 5)] rfl (.s (.s (.s (.s (.s (.s (.cons (.ad _ _ _ _) (.un _) (.cons (.v _) (.un _) (.cons (.v _) (.un _) (.cons (.ad _ _ _ _) (.un _) (.cons (.v _) (.un _) (.cons (.v _) (.un _) (.cons (.v _) (.un _) (.cons (.ad _ _ _ _) (.un _) (.cons (.v _) (.un _) (.cons (.v _) (.un _) (.cons (.v _) (.un _) (.s (.cons .un (.un _) (.cons .un (.un _) (.cons .un (.un _) .nil))) rfl)))))))))))) rfl) rfl) rfl) rfl) rfl) rfl) (.box rfl rfl (.s rfl) (.opn rfl rfl (clm k_MBlkct _) (.s rfl) (.box rfl rfl (.s rfl) (.box rfl rfl (.s rfl) (.row rfl rfl rfl (clm k_iC _) (.row rfl rfl rfl (clm k_iC _) (.row rfl rfl rfl (clm k_iC _) (.row rfl rfl rfl (clm k_MOpct _) .nil)))))))))
                · refine dv1 (l_gF rfl rfl (gt rfl b6044) rfl) (dv1 (l_gF rfl rfl (gt rfl b6044) rfl) (dv1 (l_gF rfl rfl (gt rfl b6044) rfl) (dv1 (l_gT rfl rfl (gt rfl b6043) fun _ => l_pickF (gt rfl b6044) (.v _)) (dv1 (l_pickF (gt rfl b6043) (.v _)) (dvE ?_)))))
                  cases hF
                  refine q_join ?_
                  exact (le_of [(0, some 0), (1, some 1), (2, some 2), (3, some 192), (4, some 6), (5, some 7), (6, some 4), (7, some 5)] rfl (.s (.s (.s (.s (.s (.s (.cons (.ad _ _ _ _) (.un _) (.cons (.v _) (.un _) (.cons (.v _) (.un _) (.cons (.ad _ _ _ _) (.un _) (.cons (.v _) (.un _) (.cons (.v _) (.un _) (.cons (.v _) (.un _) (.cons (.v _) (.un _) (.cons (.v _) (.un _) (.cons (.v _) (.un _) (.cons (.v _) (.un _) (.s (.cons .un (.un _) (.cons .un (.un _) (.cons .un (.un _) .nil))) rfl)))))))))))) rfl) rfl) rfl) rfl) rfl) rfl) (.box rfl rfl (.s rfl) (.opn rfl rfl (clm k_MBlkct _) (.s rfl) (.box rfl rfl (.s rfl) (.box rfl rfl (.s rfl) (.row rfl rfl rfl (clm k_iC _) (.row rfl rfl rfl (clm k_iC _) (.row rfl rfl rfl (clm k_iC _) (.row rfl rfl rfl (clm k_MOpct _) .nil)))))))))
          replace hF := hG6041
          rcases condE hF with ⟨b6045, hF⟩ | ⟨b6045, hF⟩
          · refine w_condT rfl b6045 ?_
            refine w_region (by rfl) (dv1 (l_field fd44_1 rfl) (dv1 (l_load ty3 rfl rfl rfl rfl rfl) (dv1 (l_move (.ro _)) ?_)))
            obtain ⟨y6046, h6047, hF⟩ := bindE hF
            refine dvC (l_call (B := false) (FnI.mk' (by kernel_rfl)) (.cons (.v _) (.one (.v _)) (.cons (.ro _) (.one (.ro _)) .nil)) (p_R04_To_ac h6047) (okF p_R04_To_ok)) ?_
            rintro _ rfl
            refine dv1 (l_field fd44_1 rfl) (dvS (l_store ty3 rfl (.v _) rfl rfl rfl (Nat.le_of_ble_eq_true rfl) rfl) (dvE ?_))
            cases hF
            refine q_join ?_
            exact (le_of [(0, some 0), (1, some 1), (2, some 2), (3, some 3), (4, some 4), (5, some 5), (6, some 6), (7, some 7)] rfl (.s (.s (.s (.s (.s (.s (.cons .un (.un _) (.cons .un (.un _) (.cons .un (.un _) (.cons .un (.un _) (.cons .un (.un _) (.cons .un (.un _) (.cons .un (.un _) (.cons .un (.un _) (.cons .un (.un _) (.cons .un (.un _) (.cons .un (.un _) (.cons .un (.un _) (.cons .un (.un _) (.cons .un (.un _) .nil)))))))))))))) rfl) rfl) rfl) rfl) rfl) rfl) (.box rfl rfl (.s rfl) (.opn rfl rfl (clm k_MBlkct _) (.s rfl) (.box rfl rfl (.s rfl) (.box rfl rfl (.s rfl) (.row rfl rfl rfl (clm k_iC _) (.row rfl rfl rfl (clm k_iC _) (.row rfl rfl rfl (clm k_iC _) (.row rfl rfl rfl (clm k_MOpct _) .nil)))))))))
          · refine w_condF rfl b6045 ?_
            refine w_skip ?_
            cases hF
            refine q_join ?_
            exact (le_of [(0, some 0), (1, some 1), (2, some 2), (3, some 3), (4, some 4), (5, some 5), (6, some 6), (7, some 7)] rfl (.s (.s (.s (.s (.s (.s (.cons .un (.un _) (.cons .un (.un _) (.cons .un (.un _) (.cons .un (.un _) (.cons .un (.un _) (.cons .un (.un _) (.cons .un (.un _) (.cons .un (.un _) (.cons .un (.un _) (.cons .un (.un _) (.cons .un (.un _) (.cons .un (.un _) (.cons .un (.un _) (.cons .un (.un _) .nil)))))))))))))) rfl) rfl) rfl) rfl) rfl) rfl) (.box rfl rfl (.s rfl) (.opn rfl rfl (clm k_MBlkct _) (.s rfl) (.box rfl rfl (.s rfl) (.box rfl rfl (.s rfl) (.row rfl rfl rfl (clm k_iC _) (.row rfl rfl rfl (clm k_iC _) (.row rfl rfl rfl (clm k_iC _) (.row rfl rfl rfl (clm k_MOpct _) .nil)))))))))
        replace hF := hG6038
        obtain ⟨s6050, hF, hG6051⟩ := bindE hF
        refine w_seqJ ⟨[(1, .ro (.sl 3 1 (a1.map iC))), (2, .v (.slice none 0 0)), (3, .ad 0 2 0 0), (6, .ad 2 2 0 0), (7, .v (.int .i64 ((s3012.2 : Nat) : Int))), (10, .ad 3 6 0 0), (53, .un), (54, .un), (55, .un), (58, .un), (59, .un), (60, .un), (61, .un), (62, .un), (63, .un), (64, .un), (65, .un), (76, .un), (77, .un), (78, .un)], [(0, some ⟨31, 2, [[.v (.int .i64 y7.Ret), .rf 1 0 ((s3012.1.map MBlk.ct).length) 8]]⟩), (1, some ⟨47, 8, (s3012.1.map MBlk.ct).set s3012.2 [.rf 6 0 ((x3021.Params.map iC).length) 1, .rf 7 0 ((s3024.map MOp.ct).length) 8, .v (.int .i64 x3021.End.K), .v (.int .i64 x3021.End.A), .v (.int .i64 x3021.End.To), .v (.int .i64 x3021.End.Else), .un, .rf 5 0 ((x3021.End.M.map iC).length) 1]⟩), (2, some ⟨31, 2, [[.v (.int .i64 0), .v (.slice none 0 0)]]⟩), (3, some ⟨44, 6, [[.v (.int .i64 x3021.End.K), .v (.int .i64 s6037), .v (.int .i64 s6050.1), .v (.int .i64 x3021.End.Else), .rf 4 0 ((s6050.2.map iC).length) 1, .rf 5 0 ((x3021.End.M.map iC).length) 1]]⟩), (4, some ⟨3, 1, s6050.2.map iC⟩), (5, some ⟨3, 1, x3021.End.M.map iC⟩), (6, some ⟨3, 1, x3021.Params.map iC⟩), (7, some ⟨49, 8, s3024.map MOp.ct⟩)], 1⟩ ?_ ?_
        · obtain ⟨s6053, hF, hG6054⟩ := bindE hF
          refine w_seqJ ⟨[(1, .ro (.sl 3 1 (a1.map iC))), (2, .v (.slice none 0 0)), (3, .ad 0 2 0 0), (6, .ad 2 2 0 0), (7, .v (.int .i64 ((s3012.2 : Nat) : Int))), (10, .ad 3 6 0 0), (53, .un), (54, .un), (55, .un), (58, .un), (59, .un), (60, .un), (61, .un), (62, .un), (63, .un), (64, .un), (65, .un), (76, .un), (77, .un), (78, .un), (79, .v (.bool s6053))], [(0, some ⟨31, 2, [[.v (.int .i64 y7.Ret), .rf 1 0 ((s3012.1.map MBlk.ct).length) 8]]⟩), (1, some ⟨47, 8, (s3012.1.map MBlk.ct).set s3012.2 [.rf 6 0 ((x3021.Params.map iC).length) 1, .rf 7 0 ((s3024.map MOp.ct).length) 8, .v (.int .i64 x3021.End.K), .v (.int .i64 x3021.End.A), .v (.int .i64 x3021.End.To), .v (.int .i64 x3021.End.Else), .rf 4 0 ((x3021.End.L.map iC).length) 1, .rf 5 0 ((x3021.End.M.map iC).length) 1]⟩), (2, some ⟨31, 2, [[.v (.int .i64 0), .v (.slice none 0 0)]]⟩), (3, some ⟨44, 6, [[.v (.int .i64 x3021.End.K), .v (.int .i64 s6037), .v (.int .i64 x3021.End.To), .v (.int .i64 x3021.End.Else), .rf 4 0 ((x3021.End.L.map iC).length) 1, .rf 5 0 ((x3021.End.M.map iC).length) 1]]⟩), (4, some ⟨3, 1, x3021.End.L.map iC⟩), (5, some ⟨3, 1, x3021.End.M.map iC⟩), (6, some ⟨3, 1, x3021.Params.map iC⟩), (7, some ⟨49, 8, s3024.map MOp.ct⟩)], 1⟩ ?_ ?_
          · refine w_region (by rfl) (dv1 (l_field fd44_0 rfl) (dv1 (l_load ty3 rfl rfl rfl rfl rfl) (dv1 (l_bin rfl rfl b_eql) (dv1 (l_move (.v _)) ?_))))
            rcases condE hF with ⟨b6055, hF⟩ | ⟨b6055, hF⟩
            · refine dv1 (l_gF rfl rfl (gt rfl b6055) rfl) (dv1 (l_gF rfl rfl (gt rfl b6055) rfl) (dv1 (l_gF rfl rfl (gt rfl b6055) rfl) (dv1 (l_pickT (gt rfl b6055) (.v _)) (dvE ?_))))
              cases hF
              refine q_join ?_
              exact (le_of [(0, some 0), (1, some 1), (2, some 2), (3, some 3), (4, some 4), (5, some 5), (6, some 6), (7, some 7)] rfl (.s (.s (.s (.s (.s (.s (.cons .un (.un _) (.cons .un (.un _) (.cons .un (.un _) (.cons .un (.un _) (.cons .un (.un _) (.cons .un (.un _) (.cons .un (.un _) (.cons .un (.un _) (.cons .un (.un _) (.cons .un (.un _) (.cons .un (.un _) (.cons (.v _) (.un _) (.cons (.v _) (.un _) (.cons (.v _) (.un _) (.s .nil rfl))))))))))))))) rfl) rfl) rfl) rfl) rfl) rfl) (.box rfl rfl (.s rfl) (.opn rfl rfl (clm k_MBlkct _) (.s rfl) (.box rfl rfl (.s rfl) (.box rfl rfl (.s rfl) (.row rfl rfl rfl (clm k_iC _) (.row rfl rfl rfl (clm k_iC _) (.row rfl rfl rfl (clm k_iC _) (.row rfl rfl rfl (clm k_MOpct _) .nil)))))))))
            · refine dv1 (l_gT rfl rfl (gt rfl b6055) fun _ => l_field fd44_0 rfl) (dv1 (l_gT rfl rfl (gt rfl b6055) fun _ => l_load ty3 rfl rfl rfl rfl rfl) (dv1 (l_gT rfl rfl (gt rfl b6055) fun _ => l_bin rfl rfl b_eql) (dv1 (l_pickF (gt rfl b6055) (.v _)) (dvE ?_))))
              cases hF
              refine q_join ?_
              exact (le_of [(0, some 0), (1, some 1), (2, some 2), (3, some 3), (4, some 4), (5, some 5), (6, some 6), (7, some 7)] rfl (.s (.s (.s (.s (.s (.s (.cons .un (.un _) (.cons .un (.un _) (.cons .un (.un _) (.cons .un (.un _) (.cons .un (.un _) (.cons .un (.un _) (.cons .un (.un _) (.cons .un (.un _) (.cons .un (.un _) (.cons .un (.un _) (.cons .un (.un _) (.cons (.ad _ _ _ _) (.un _) (.cons (.v _) (.un _) (.cons (.v _) (.un _) (.s .nil rfl))))))))))))))) rfl) rfl) rfl) rfl) rfl) rfl) (.box rfl rfl (.s rfl) (.opn rfl rfl (clm k_MBlkct _) (.s rfl) (.box rfl rfl (.s rfl) (.box rfl rfl (.s rfl) (.row rfl rfl rfl (clm k_iC _) (.row rfl rfl rfl (clm k_iC _) (.row rfl rfl rfl (clm k_iC _) (.row rfl rfl rfl (clm k_MOpct _) .nil)))))))))
          replace hF := hG6054
          rcases condE hF with ⟨b6056, hF⟩ | ⟨b6056, hF⟩
          · refine w_condT rfl b6056 ?_
            refine w_draw [[], [0], [], [0, 1, 2], [], [4], [], [0, 1, 2, 3, 4, 5, 6], [0, 1, 2, 3, 4, 5], [0, 1, 2, 3, 4, 5, 6, 7, 8], [0, 1, 2, 3, 4, 5, 6, 7, 8, 9], [0, 1, 2, 3, 4, 5, 6, 7, 8, 9, 10]] [0, 1, 2, 4, 5, 6, 3, 8, 7, 9, 10, 11] (by kernel_rfl) (by rfl) ⟨by decide, by rfl⟩ (by rfl) ?_
            refine de1 rfl (l_field fd44_2 rfl) rfl (de1 rfl (l_load ty3 rfl rfl rfl rfl rfl) rfl (de1 rfl (l_move (.v _)) rfl (de1 rfl (l_field fd44_4 rfl) rfl (de1 rfl (l_load ty27 rfl rfl rfl rfl rfl) rfl (de1 rfl (l_move (.ro _)) rfl ?_)))))
            obtain ⟨y6057, h6058, hF⟩ := bindE hF
            refine deC1 rfl (l_call (B := false) (FnI.mk' (by kernel_rfl)) (.cons (.v _) (.one (.v _)) (.cons (.v _) (.one (.v _)) .nil)) (p_R16_Name_s1_ac h6058) (okF p_R16_Name_s1_ok)) rfl ?_
            refine de1 rfl (l_field fd44_2 rfl) rfl ?_
            obtain ⟨y6059, h6060, hF⟩ := bindE hF
            refine deC1 rfl (l_call (B := true) (FnI.mk' (by kernel_rfl)) (.cons (.rf _ _ _ _) (.one (.rf rfl rfl rfl (clm k_iC _))) (.cons (.ro _) (.one (.ro _)) .nil)) (p_R04_All_ac h6060) (okT p_R04_All_ok)) rfl ?_
            refine deS rfl (l_store ty3 rfl (.v _) rfl rfl rfl (Nat.le_of_ble_eq_true rfl) rfl) rfl (de1 rfl (l_field fd44_4 rfl) rfl (deS rfl (l_store ty27 rfl (.rf _ _ _ _) rfl rfl rfl (Nat.le_of_ble_eq_true rfl) rfl) rfl (ddE ?_)))
            cases hF
            refine q_join ?_
            exact (le_of [(0, some 0), (1, some 1), (2, some 2), (3, some 3), (4, some 576), (5, some 5), (6, some 6), (7, some 7)] rfl (.s (.s (.s (.s (.s (.s (.cons .un (.un _) (.cons .un (.un _) (.cons .un (.un _) (.cons .un (.un _) (.cons .un (.un _) (.cons .un (.un _) (.cons .un (.un _) (.cons .un (.un _) (.cons .un (.un _) (.cons .un (.un _) (.cons .un (.un _) (.cons .un (.un _) (.cons .un (.un _) (.cons .un (.un _) .nil)))))))))))))) rfl) rfl) rfl) rfl) rfl) rfl) (.box rfl rfl (.s rfl) (.opn rfl rfl (clm k_MBlkct _) (.cons (.rf rfl rfl) (.cons (.rf rfl rfl) (.cons (.v rfl) (.cons (.v rfl) (.cons (.v rfl) (.cons (.v rfl) (.cons (.un _) (.cons (.rf rfl rfl) .nil)))))))) (.box rfl rfl (.s rfl) (.box rfl rfl (.s rfl) (.row rfl rfl rfl (clm k_iC _) (.row rfl rfl rfl (clm k_iC _) (.row rfl rfl rfl (clm k_iC _) (.row rfl rfl rfl (clm k_MOpct _) .nil)))))))))
          · refine w_condF rfl b6056 ?_
            refine w_skip ?_
            cases hF
            refine q_join ?_
            exact (le_of [(0, some 0), (1, some 1), (2, some 2), (3, some 3), (4, some 4), (5, some 5), (6, some 6), (7, some 7)] rfl (.s (.s (.s (.s (.s (.s (.cons .un (.un _) (.cons .un (.un _) (.cons .un (.un _) (.cons .un (.un _) (.cons .un (.un _) (.cons .un (.un _) (.cons .un (.un _) (.cons .un (.un _) (.cons .un (.un _) (.cons .un (.un _) (.cons .un (.un _) (.cons .un (.un _) (.cons .un (.un _) (.cons .un (.un _) .nil)))))))))))))) rfl) rfl) rfl) rfl) rfl) rfl) (.box rfl rfl (.s rfl) (.opn rfl rfl (clm k_MBlkct _) (.cons (.rf rfl rfl) (.cons (.rf rfl rfl) (.cons (.v rfl) (.cons (.v rfl) (.cons (.v rfl) (.cons (.v rfl) (.cons (.un _) (.cons (.rf rfl rfl) .nil)))))))) (.box rfl rfl (.s rfl) (.box rfl rfl (.s rfl) (.row rfl rfl rfl (clm k_iC _) (.row rfl rfl rfl (clm k_iC _) (.row rfl rfl rfl (clm k_iC _) (.row rfl rfl rfl (clm k_MOpct _) .nil)))))))))
        replace hF := hG6051
        obtain ⟨s6063, hF, hG6064⟩ := bindE hF
        refine w_seqJ ⟨[(1, .ro (.sl 3 1 (a1.map iC))), (2, .v (.slice none 0 0)), (3, .ad 0 2 0 0), (6, .ad 2 2 0 0), (7, .v (.int .i64 ((s3012.2 : Nat) : Int))), (10, .ad 3 6 0 0), (53, .un), (54, .un), (55, .un), (58, .un), (59, .un), (60, .un), (61, .un), (62, .un), (63, .un), (64, .un), (65, .un), (76, .un), (77, .un), (78, .un)], [(0, some ⟨31, 2, [[.v (.int .i64 y7.Ret), .rf 1 0 ((s3012.1.map MBlk.ct).length) 8]]⟩), (1, some ⟨47, 8, (s3012.1.map MBlk.ct).set s3012.2 [.rf 6 0 ((x3021.Params.map iC).length) 1, .rf 7 0 ((s3024.map MOp.ct).length) 8, .v (.int .i64 x3021.End.K), .v (.int .i64 x3021.End.A), .v (.int .i64 x3021.End.To), .v (.int .i64 x3021.End.Else), .un, .un]⟩), (2, some ⟨31, 2, [[.v (.int .i64 0), .v (.slice none 0 0)]]⟩), (3, some ⟨44, 6, [[.v (.int .i64 x3021.End.K), .v (.int .i64 s6037), .v (.int .i64 s6050.1), .v (.int .i64 s6063.1), .rf 4 0 ((s6050.2.map iC).length) 1, .rf 5 0 ((s6063.2.map iC).length) 1]]⟩), (4, some ⟨3, 1, s6050.2.map iC⟩), (5, some ⟨3, 1, s6063.2.map iC⟩), (6, some ⟨3, 1, x3021.Params.map iC⟩), (7, some ⟨49, 8, s3024.map MOp.ct⟩)], 1⟩ ?_ ?_
        · refine w_seq (w_region (by rfl) (dv1 (l_field fd44_0 rfl) (dv1 (l_load ty3 rfl rfl rfl rfl rfl) (dv1 (l_bin rfl rfl b_eql) (dvE (q_seq ?_))))))
          rcases condE hF with ⟨b6065, hF⟩ | ⟨b6065, hF⟩
          · refine w_condT rfl b6065 ?_
            refine w_draw [[], [0], [], [0, 1, 2], [], [4], [], [0, 1, 2, 3, 4, 5, 6], [0, 1, 2, 3, 4, 5], [0, 1, 2, 3, 4, 5, 6, 7, 8], [0, 1, 2, 3, 4, 5, 6, 7, 8, 9], [0, 1, 2, 3, 4, 5, 6, 7, 8, 9, 10]] [0, 1, 2, 4, 5, 6, 3, 8, 7, 9, 10, 11] (by kernel_rfl) (by rfl) ⟨by decide, by rfl⟩ (by rfl) ?_
            refine de1 rfl (l_field fd44_3 rfl) rfl (de1 rfl (l_load ty3 rfl rfl rfl rfl rfl) rfl (de1 rfl (l_move (.v _)) rfl (de1 rfl (l_field fd44_5 rfl) rfl (de1 rfl (l_load ty27 rfl rfl rfl rfl rfl) rfl (de1 rfl (l_move (.ro _)) rfl ?_)))))
            obtain ⟨y6066, h6067, hF⟩ := bindE hF
            refine deC1 rfl (l_call (B := false) (FnI.mk' (by kernel_rfl)) (.cons (.v _) (.one (.v _)) (.cons (.v _) (.one (.v _)) .nil)) (p_R16_Name_s1_ac h6067) (okF p_R16_Name_s1_ok)) rfl ?_
            refine de1 rfl (l_field fd44_3 rfl) rfl ?_
            obtain ⟨y6068, h6069, hF⟩ := bindE hF
            refine deC1 rfl (l_call (B := true) (FnI.mk' (by kernel_rfl)) (.cons (.rf _ _ _ _) (.one (.rf rfl rfl rfl (clm k_iC _))) (.cons (.ro _) (.one (.ro _)) .nil)) (p_R04_All_ac h6069) (okT p_R04_All_ok)) rfl ?_
            refine deS rfl (l_store ty3 rfl (.v _) rfl rfl rfl (Nat.le_of_ble_eq_true rfl) rfl) rfl (de1 rfl (l_field fd44_5 rfl) rfl (deS rfl (l_store ty27 rfl (.rf _ _ _ _) rfl rfl rfl (Nat.le_of_ble_eq_true rfl) rfl) rfl (ddE ?_)))
            cases hF
            refine q_join ?_
            exact (le_of [(0, some 0), (1, some 1), (2, some 2), (3, some 3), (4, some 4), (5, some 768), (6, some 6), (7, some 7)] rfl (.s (.s (.s (.s (.s (.s (.cons .un (.un _) (.cons .un (.un _) (.cons .un (.un _) (.cons .un (.un _) (.cons .un (.un _) (.cons .un (.un _) (.cons .un (.un _) (.cons .un (.un _) (.cons .un (.un _) (.cons .un (.un _) (.cons .un (.un _) (.cons .un (.un _) (.cons .un (.un _) (.cons .un (.un _) .nil)))))))))))))) rfl) rfl) rfl) rfl) rfl) rfl) (.box rfl rfl (.s rfl) (.opn rfl rfl (clm k_MBlkct _) (.cons (.rf rfl rfl) (.cons (.rf rfl rfl) (.cons (.v rfl) (.cons (.v rfl) (.cons (.v rfl) (.cons (.v rfl) (.cons (.un _) (.cons (.un _) .nil)))))))) (.box rfl rfl (.s rfl) (.box rfl rfl (.s rfl) (.row rfl rfl rfl (clm k_iC _) (.row rfl rfl rfl (clm k_iC _) (.row rfl rfl rfl (clm k_iC _) (.row rfl rfl rfl (clm k_MOpct _) .nil)))))))))
          · refine w_condF rfl b6065 ?_
            refine w_skip ?_
            cases hF
            refine q_join ?_
            exact (le_of [(0, some 0), (1, some 1), (2, some 2), (3, some 3), (4, some 4), (5, some 5), (6, some 6), (7, some 7)] rfl (.s (.s (.s (.s (.s (.s (.cons .un (.un _) (.cons .un (.un _) (.cons .un (.un _) (.cons .un (.un _) (.cons .un (.un _) (.cons .un (.un _) (.cons .un (.un _) (.cons .un (.un _) (.cons .un (.un _) (.cons .un (.un _) (.cons .un (.un _) (.cons .un (.un _) (.cons .un (.un _) (.cons .un (.un _) .nil)))))))))))))) rfl) rfl) rfl) rfl) rfl) rfl) (.box rfl rfl (.s rfl) (.opn rfl rfl (clm k_MBlkct _) (.cons (.rf rfl rfl) (.cons (.rf rfl rfl) (.cons (.v rfl) (.cons (.v rfl) (.cons (.v rfl) (.cons (.v rfl) (.cons (.un _) (.cons (.un _) .nil)))))))) (.box rfl rfl (.s rfl) (.box rfl rfl (.s rfl) (.row rfl rfl rfl (clm k_iC _) (.row rfl rfl rfl (clm k_iC _) (.row rfl rfl rfl (clm k_iC _) (.row rfl rfl rfl (clm k_MOpct _) .nil)))))))))
        replace hF := hG6064
        refine w_region (by rfl) (dv1 (l_field fd31_1 rfl) (dv1 (l_load ty29 rfl rfl rfl rfl rfl) (dv1 (l_move (.v _)) (dv1 (l_loadA ty44 rfl rfl rfl rfl rfl) (dv1 (l_index s3012.2 sl29 rfl rfl rfl (lt_at MBlk.ct h3022)) (dv1 (l_field fd47_2 rfl) (dvS (l_storeR ty44 rfl (.ag _) rfl (set_at h3022) rfl (Nat.le_of_ble_eq_true rfl) rfl (List.set_set ..)) (dvE ?_))))))))
        cases hF
        refine q_in (q_join ?_)
        refine St.le.trans (le_closeR 1 s3012.2 rfl (set_at h3022) (.cons (.of (.rf rfl rfl (clm k_iC _))) (.cons (.of (.rf rfl rfl (clm k_MOpct _))) (.cons (.of (.v _)) (.cons (.of (.v _)) (.cons (.of (.v _)) (.cons (.of (.v _)) (.cons (.of (.rf rfl rfl (clm k_iC _))) (.cons (.of (.rf rfl rfl (clm k_iC _))) .nil)))))))) (by decide) (by decide) rfl (set_cl MBlk.ct _ _ _ (⟨x3021.Params, s3024, (⟨x3021.End.K, s6037, s6050.1, s6063.1, s6050.2, s6063.2⟩ : MEnd)⟩ : MBlk))) ?_
        exact (le_of [(0, some 0), (1, some 1), (2, some 2)] rfl (.s (.s (.s (.s (.s (.cons .un (.un _) (.cons .un (.un _) (.cons .un (.un _) (.cons .un (.un _) (.cons .un (.un _) (.cons .un (.un _) (.cons .un (.un _) (.cons .un (.un _) (.cons .un (.un _) (.cons .un (.un _) (.cons .un (.un _) (.cons .un (.un _) (.cons .un (.un _) (.cons .un (.un _) .nil)))))))))))))) rfl) rfl) rfl) rfl) rfl) (.box rfl rfl (.cons (.v rfl) (.cons (.rf rfl (by simp)) .nil)) (.row rfl rfl rfl (clm k_MBlkct _) (.box rfl rfl (.s rfl) .nil))))
      replace hF := hG3020
      refine w_region (by rfl) (dv1 (l_move (.v _)) (dv1 (l_bin rfl rfl (b_incN (of_decide_eq_true b3016) l3017)) (dv1 (l_assign (.v _)) (dvE ?_))))
      cases hF
      refine qL rfl ?_
      exact (le_of [(0, some 0), (1, some 1), (2, some 2)] rfl (.s (.s (.s (.s (.s (.cons .un (.un _) (.cons .un (.un _) (.cons .un (.un _) (.cons .un (.un _) (.cons .un (.un _) (.cons .un (.un _) (.cons .un (.un _) (.cons .un (.un _) (.cons .un (.un _) (.cons .un (.un _) (.cons .un (.un _) (.cons .un (.un _) (.cons .un (.un _) (.cons .un (.un _) .nil)))))))))))))) rfl) rfl) rfl) rfl) rfl) (.box rfl rfl (.s rfl) (.row rfl rfl rfl (clm k_MBlkct _) (.box rfl rfl (.s rfl) .nil))))
    · refine w_condF rfl b3016 ?_
      refine w_exit ?_
      cases hF
      cases hx3014 _ rfl
      refine q_exS (q_exS (q_here (q_join ?_)))
      exact (le_of [(0, some 0), (1, some 1), (2, some 2)] rfl (.s (.s .nil rfl) rfl) (.box rfl rfl (.s rfl) (.row rfl rfl rfl (clm k_MBlkct _) (.box rfl rfl (.s rfl) .nil))))
  replace hF := hG11
  refine w_seq (w_region (by rfl) (dv1 (l_loadA ty31 rfl rfl rfl rfl rfl) (dvS (l_store ty31 rfl (.ag _) rfl rfl rfl (Nat.le_of_ble_eq_true rfl) rfl) (dvE (q_seq (w_ret ?_))))))
  cases hF
  refine q_end (.inr rfl) ?_
  exact ret_ok rfl (.cons (.cellA ty31 rfl rfl rfl (.cons (.of (.v _)) (.cons (.of (.rf rfl rfl (clm k_MBlkct _))) .nil))) .nil) (by decide) rfl

def p_R05_First (a0 : MFun) (a1 : Int) : Option Int :=
(((loop (fun (s3004 : Int × Int) =>
(((bif decide (s3004.2 < a1) then
some (decide (s3004.2 < ((a0.Blocks.length : Nat) : Int)))
else
some false)).bind fun (s3009 : Bool) =>
(bif s3009 then
((atI a0.Blocks s3004.2).bind fun x3013 =>
some (Xt.go (IntKind.i64.wrap (IntKind.i64.wrap (s3004.1 + ((x3013.Params.length : Nat) : Int)) + ((x3013.Ops.length : Nat) : Int)), IntKind.i64.wrap (s3004.2 + 1))))
else
some (Xt.out s3004.1)))) Fu (0, 0))).bind fun (s2 : Int) =>
some s2)

theorem p_R05_First_ok {r : Int} : rOk (.v (.int .i64 r)) = true ∧ FrT (.v (.int .i64 r)) := ⟨rfl, (.one (.cl (.v _)))⟩

set_option maxRecDepth 10000 in
set_option maxHeartbeats 4000000 in
theorem p_R05_First_ac {a0 : MFun} {a1 : Int} {r : Int} (hF : p_R05_First a0 a1 = some r) : AC Tryd.prog GT 29 [.ag (MFun.ct a0), .v (.int .i64 a1)] (fun c => c = .v (.int .i64 r)) := by
  unfold p_R05_First at hF
  refine AC.mk (nt := 37) Tryd.func29 rfl rfl rfl fun w N => ?_
  refine w_seq (w_region (by rfl) (dvN (l_box (.ag _) rfl rfl) (dv1 (l_assign (.v _)) (dvE (q_seq (w_seq (w_region (by rfl) (dv1 (l_assign (.v _)) ?_))))))))
  refine dvE (q_seq ?_)
  obtain ⟨s2, hF, hG3⟩ := bindE hF
  refine w_seqJ ⟨[(5, .v (.int .i64 s2))], [], 1⟩ ?_ ?_
  · refine w_seq (w_region (by rfl) (dv1 (l_assign (.v _)) (dvE (q_seq (w_block (w_loopF hF (fun (s3004 : Int × Int) => ⟨[(1, .v (.int .i64 a1)), (2, .ad 0 2 0 0), (5, .v (.int .i64 s3004.1)), (6, .v (.int .i64 s3004.2)), (11, .un), (12, .un), (13, .un), (14, .un), (15, .un)], [(0, some ⟨31, 2, [[.v (.int .i64 a0.Ret), .ro (.sl 47 8 (a0.Blocks.map MBlk.ct))]]⟩)], 1⟩) (le_of [(0, some 0)] rfl (.s (.s (.s (.s (.cons .un (.un _) (.cons .un (.un _) (.cons .un (.un _) (.cons .un (.un _) (.cons .un (.un _) .nil))))) rfl) rfl) rfl) rfl) (.box rfl rfl (.s rfl) .nil)) ?_))))))
    intro s3004 y3005 hF hx3006
    refine w_seq ?_
    obtain ⟨s3009, hF, hG3010⟩ := bindE hF
    refine w_seqJ ⟨[(1, .v (.int .i64 a1)), (2, .ad 0 2 0 0), (5, .v (.int .i64 s3004.1)), (6, .v (.int .i64 s3004.2)), (11, .un), (12, .un), (13, .un), (14, .un), (15, .un), (16, .v (.bool s3009))], [(0, some ⟨31, 2, [[.v (.int .i64 a0.Ret), .ro (.sl 47 8 (a0.Blocks.map MBlk.ct))]]⟩)], 1⟩ ?_ ?_
    · refine w_region (by rfl) (dv1 (l_move (.v _)) (dv1 (l_move (.v _)) (dv1 (l_bin rfl rfl b_lss) (dv1 (l_move (.v _)) ?_))))
      rcases condE hF with ⟨b3011, hF⟩ | ⟨b3011, hF⟩
      · refine dv1 (l_gT rfl rfl (gt rfl b3011) fun _ => l_move (.v _)) (dv1 (l_gT rfl rfl (gt rfl b3011) fun _ => l_field fd31_1 rfl) (dv1 (l_gT rfl rfl (gt rfl b3011) fun _ => l_load ty29 rfl rfl rfl rfl rfl) (dv1 (l_gT rfl rfl (gt rfl b3011) fun _ => l_lenRo sl29 rfl rfl (List.length_map _)) (dv1 (l_gT rfl rfl (gt rfl b3011) fun _ => l_bin rfl rfl b_lss) (dv1 (l_pickT (gt rfl b3011) (.v _)) (dvE ?_))))))
        cases hF
        refine q_join ?_
        exact (le_of [(0, some 0)] rfl (.s (.s (.s (.s (.cons (.v _) (.un _) (.cons (.ad _ _ _ _) (.un _) (.cons (.ro _) (.un _) (.cons (.v _) (.un _) (.cons (.v _) (.un _) (.s .nil rfl)))))) rfl) rfl) rfl) rfl) (.box rfl rfl (.s rfl) .nil))
      · refine dv1 (l_gF rfl rfl (gt rfl b3011) rfl) (dv1 (l_gF rfl rfl (gt rfl b3011) rfl) (dv1 (l_gF rfl rfl (gt rfl b3011) rfl) (dv1 (l_gF rfl rfl (gt rfl b3011) rfl) (dv1 (l_gF rfl rfl (gt rfl b3011) rfl) (dv1 (l_pickF (gt rfl b3011) (.v _)) (dvE ?_))))))
        cases hF
        refine q_join ?_
        exact (le_of [(0, some 0)] rfl (.s (.s (.s (.s (.cons (.v _) (.un _) (.cons (.v _) (.un _) (.cons (.v _) (.un _) (.cons (.v _) (.un _) (.cons (.v _) (.un _) (.s .nil rfl)))))) rfl) rfl) rfl) rfl) (.box rfl rfl (.s rfl) .nil))
    replace hF := hG3010
    rcases condE hF with ⟨b3012, hF⟩ | ⟨b3012, hF⟩
    · refine w_condT rfl b3012 ?_
      refine w_skip (q_seq (w_seq (w_block (w_draw [[], [], [1], [], [1, 2, 3], [1, 2, 3, 4], [1, 2, 3, 4, 5], [1, 2, 3, 4, 5, 6], [0, 1, 2, 3, 4, 5, 6, 7], [], [9], [], [9, 10, 11], [9, 10, 11, 12], [9, 10, 11, 12, 13], [9, 10, 11, 12, 13, 14], [0, 1, 2, 3, 4, 5, 6, 7, 8, 9, 10, 11, 12, 13, 14, 15], [0, 1, 2, 3, 4, 5, 6, 7, 8, 9, 10, 11, 12, 13, 14, 15, 16]] [0, 1, 2, 3, 4, 5, 6, 7, 8, 9, 10, 11, 12, 13, 14, 15, 16, 17] (by kernel_rfl) (by rfl) ⟨by decide, by rfl⟩ (by rfl) ?_))))
      refine de1 rfl (l_move (.v _)) rfl (de1 rfl (l_field fd31_1 rfl) rfl (de1 rfl (l_load ty29 rfl rfl rfl rfl rfl) rfl (de1 rfl (l_move (.v _)) rfl ?_)))
      obtain ⟨x3013, h3014, hF⟩ := bindE hF
      refine de1 rfl (l_indexRo s3004.2.toNat sl29 rfl rfl (atI_z h3014) (map_at (atI_at h3014))) rfl (de1 rfl (l_fieldRo fd47_0 rfl) rfl (de1 rfl (l_loadRo ty27 rfl rfl) rfl (de1 rfl (l_lenRo sl27 rfl rfl (List.length_map _)) rfl (de1 rfl (l_bin rfl rfl (b_add rfl)) rfl (de1 rfl (l_field fd31_1 rfl) rfl (de1 rfl (l_load ty29 rfl rfl rfl rfl rfl) rfl (de1 rfl (l_move (.v _)) rfl (de1 rfl (l_indexRo s3004.2.toNat sl29 rfl rfl (atI_z h3014) (map_at (atI_at h3014))) rfl ?_))))))))
      refine de1 rfl (l_fieldRo fd47_1 rfl) rfl (de1 rfl (l_loadRo ty45 rfl rfl) rfl (de1 rfl (l_lenRo sl45 rfl rfl (List.length_map _)) rfl (de1 rfl (l_bin rfl rfl (b_add rfl)) rfl (de1 rfl (l_assign (.v _)) rfl (ddE (q_in (q_seq (w_region (by rfl) ?_))))))))
      refine dv1 (l_move (.v _)) (dv1 (l_bin rfl rfl (b_add rfl)) (dv1 (l_assign (.v _)) (dvE ?_)))
      cases hF
      refine qL rfl ?_
      exact (le_of [(0, some 0)] rfl (.s (.s (.s (.s (.cons .un (.un _) (.cons .un (.un _) (.cons .un (.un _) (.cons .un (.un _) (.cons .un (.un _) .nil))))) rfl) rfl) rfl) rfl) (.box rfl rfl (.s rfl) .nil))
    · refine w_condF rfl b3012 ?_
      refine w_exit ?_
      cases hF
      cases hx3006 _ rfl
      refine q_exS (q_exS (q_here (q_join ?_)))
      exact (le_of [] rfl (.s .nil rfl) .nil)
  replace hF := hG3
  refine w_seq (w_region (by rfl) (dv1 (l_move (.v _)) (dv1 (l_assign (.v _)) (dvE (q_seq (w_ret ?_))))))
  cases hF
  refine q_end (.inr rfl) ?_
  exact ret_ok rfl (.cons (.tmp (.v _) (.v _)) .nil) (by decide) rfl

def p_tidy_Kept_1 (a0 : Int) (c0 : List Bool) : Option Bool :=
(((bif decide (a0 < ((c0.length : Nat) : Int)) then
((atI c0 a0).bind fun x11 =>
some (!x11))
else
some false)).bind fun (s8 : Bool) =>
some s8)

theorem p_tidy_Kept_1_ok {r : Bool} : rOk (.v (.bool r)) = true ∧ FrT (.v (.bool r)) := ⟨rfl, (.one (.cl (.v _)))⟩

set_option maxRecDepth 10000 in
set_option maxHeartbeats 4000000 in
theorem p_tidy_Kept_1_ac {a0 : Int} {c0 : List Bool} {r : Bool} (hF : p_tidy_Kept_1 a0 c0 = some r) : AC Tryd.prog GT 30 [.v (.int .i64 a0), .rp (lC_bC c0) 0] (fun c => c = .v (.bool r)) := by
  unfold p_tidy_Kept_1 at hF
  refine AC.mk (nt := 15) Tryd.func30 rfl rfl rfl fun w N => ?_
  refine w_seq (w_region (by rfl) (dv1 (l_assign (.v _)) (dvE (q_seq ?_))))
  obtain ⟨s8, hF, hG9⟩ := bindE hF
  refine w_seqJ ⟨[(3, .v (.bool s8))], [], 1⟩ ?_ ?_
  · refine w_region (by rfl) (dv1 (l_move (.v _)) (dv1 (l_loadRo ty39 rfl rfl) (dv1 (l_lenRo sl39 rfl rfl (List.length_map _)) (dv1 (l_bin rfl rfl b_lss) (dv1 (l_move (.v _)) ?_)))))
    rcases condE hF with ⟨b10, hF⟩ | ⟨b10, hF⟩
    · refine dv1 (l_gT rfl rfl (gt rfl b10) fun _ => l_loadRo ty39 rfl rfl) (dv1 (l_gT rfl rfl (gt rfl b10) fun _ => l_move (.v _)) ?_)
      obtain ⟨x11, h12, hF⟩ := bindE hF
      refine dv1 (l_gT rfl rfl (gt rfl b10) fun _ => l_indexRo a0.toNat sl39 rfl rfl (atI_z h12) (map_at (atI_at h12))) (dv1 (l_gT rfl rfl (gt rfl b10) fun _ => l_loadRo ty4 rfl rfl) (dv1 (l_gT rfl rfl (gt rfl b10) fun _ => l_not rfl) (dv1 (l_pickT (gt rfl b10) (.v _)) (dv1 (l_assign (.v _)) (dvE ?_)))))
      cases hF
      refine q_join ?_
      exact (le_of [] rfl (.s .nil rfl) .nil)
    · refine dv1 (l_gF rfl rfl (gt rfl b10) rfl) (dv1 (l_gF rfl rfl (gt rfl b10) rfl) (dv1 (l_gF rfl rfl (gt rfl b10) rfl) (dv1 (l_gF rfl rfl (gt rfl b10) rfl) (dv1 (l_gF rfl rfl (gt rfl b10) rfl) (dv1 (l_pickF (gt rfl b10) (.v _)) (dv1 (l_assign (.v _)) (dvE ?_)))))))
      cases hF
      refine q_join ?_
      exact (le_of [] rfl (.s .nil rfl) .nil)
  replace hF := hG9
  refine w_ret ?_
  cases hF
  refine q_end (.inr rfl) ?_
  exact ret_ok rfl (.cons (.tmp (.v _) (.v _)) .nil) (by decide) rfl
end Go.Proofs.YtbebdcpakjfgdaaDoor

