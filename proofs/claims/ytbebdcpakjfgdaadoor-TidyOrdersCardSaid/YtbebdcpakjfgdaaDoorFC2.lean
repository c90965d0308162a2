/- Functions (printed by wip/auto/am.py). -/
import Derived.Test.YtbebdcpakjfgdaaDoorFC1
namespace Go.Proofs.YtbebdcpakjfgdaaDoor
open Go Go.RowKit

def p_R05_Own (a0 : Option MPrg) : Option ((Option MPrg)) :=
(optC a0
(some none)
(fun p1 =>
(((loop (fun (s3005 : (List MSig) × Nat) =>
(bif decide (s3005.2 < p1.Sigs.length) then
((p1.Sigs[s3005.2]?).bind fun x3011 =>
(ck (x3011.Params.length * 8 ≤ 140737488355328)
((ck ((s3005.1.length + 1) * 32 ≤ 140737488355328)
(some (Xt.go ((s3005.1 ++ [x3011]), (s3005.2 + 1))))))))
else
some (Xt.out s3005.1))) Fu ([], 0))).bind fun (s3 : (List MSig)) =>
(((loop (fun (s6018 : (List MCls) × Nat) =>
(bif decide (s6018.2 < p1.Classes.length) then
((p1.Classes[s6018.2]?).bind fun x6024 =>
(ck (x6024.Fields.length * 8 ≤ 140737488355328)
((ck (x6024.Methods.length * 8 ≤ 140737488355328)
((ck ((s6018.1.length + 1) * 48 ≤ 140737488355328)
(some (Xt.go ((s6018.1 ++ [x6024]), (s6018.2 + 1))))))))))
else
some (Xt.out s6018.1))) Fu ([], 0))).bind fun (s3016 : (List MCls)) =>
(((loop (fun (s9032 : (List MFun) × Nat) =>
(bif decide (s9032.2 < p1.Funcs.length) then
((((p1.Funcs[s9032.2]?).bind fun x9041 =>
(((loop (fun (s12046 : (List MBlk) × Nat) =>
(bif decide (s12046.2 < x9041.Blocks.length) then
((((x9041.Blocks[s12046.2]?).bind fun x12055 =>
(ck (x12055.Params.length * 8 ≤ 140737488355328)
(((p_R05_End x12055.End).bind fun y12058 =>
(((loop (fun (s15063 : (List MOp) × Nat) =>
(bif decide (s15063.2 < x12055.Ops.length) then
((x12055.Ops[s15063.2]?).bind fun x15069 =>
((p_R04_Plain x15069).bind fun y15071 =>
(ck ((s15063.1.length + 1) * 88 ≤ 140737488355328)
(some (Xt.go ((s15063.1 ++ [y15071]), (s15063.2 + 1)))))))
else
some (Xt.out s15063.1))) Fu ([], 0))).bind fun (s12061 : (List MOp)) =>
(ck ((s12046.1.length + 1) * 128 ≤ 140737488355328)
(some (s12046.1 ++ [(⟨x12055.Params, s12061, y12058⟩ : MBlk)]))))))))).bind fun (s12053 : (List MBlk)) =>
some (Xt.go (s12053, (s12046.2 + 1))))
else
some (Xt.out s12046.1))) Fu ([], 0))).bind fun (s9044 : (List MBlk)) =>
(ck ((s9032.1.length + 1) * 32 ≤ 140737488355328)
(some (s9032.1 ++ [(⟨x9041.Ret, s9044⟩ : MFun)])))))).bind fun (s9039 : (List MFun)) =>
some (Xt.go (s9039, (s9032.2 + 1))))
else
some (Xt.out s9032.1))) Fu ([], 0))).bind fun (s6030 : (List MFun)) =>
some (some (⟨s3, s3016, s6030⟩ : MPrg)))))))

theorem p_R05_Own_ok {r : (Option MPrg)} : rOk (opC 26 3 MPrg.ct r) = true ∧ FrT (opC 26 3 MPrg.ct r) := opok k_MPrgct r

set_option maxRecDepth 10000 in
set_option maxHeartbeats 4000000 in
theorem p_R05_Own_ac {a0 : Option MPrg} {r : (Option MPrg)} (hF : p_R05_Own a0 = some r) : AC Tryd.prog GT 38 [ptC MPrg.ct a0] (fun c => c = opC 26 3 MPrg.ct r) := by
  unfold p_R05_Own at hF
  refine AC.mk (nt := 173) Tryd.func38 rfl rfl rfl fun w N => ?_
  rcases a0 with _ | p1
  · replace hF := optN hF
    refine w_seq (w_region (by rfl) (dv1 (l_assign (.v _)) (dvE (q_seq (w_seq (w_seq (w_region (by rfl) (dv1 (l_move (.v _)) ?_))))))))
    refine dv1 (l_ptrNil (by kernel_rfl) rfl) (dvE (q_seq (w_true rfl (w_seq (w_region (by rfl) (dv1 (l_assign (.v _)) (dvE (q_seq ?_))))))))
    refine w_ret (q_reS ?_)
    cases hF
    refine q_end (.inr rfl) ?_
    exact ret_ok rfl (.cons (.tmp (.v _) (.v _)) .nil) (by decide) rfl
  · replace hF := optS hF
    refine w_seq (w_region (by rfl) (dv1 (l_assign (.v _)) (dvE (q_seq (w_seq (w_seq (w_region (by rfl) (dv1 (l_move (.ro _)) ?_))))))))
    refine dv1 (l_ptrRo (by kernel_rfl) rfl) (dvE (q_seq (w_false rfl (w_skip (q_seq (w_seq (w_region (by rfl) (dv1 (l_build st26 zt26 .nil rfl rfl) ?_))))))))
    refine dvN (l_box (.ag _) rfl rfl) (dv1 (l_assign (.ad _ _ _ _)) (dvE (q_seq ?_)))
    obtain ⟨s3, hF, hG4⟩ := bindE hF
    refine w_seqJ ⟨[(0, .ro (.rp (MPrg.ct p1) 0)), (3, .ad 0 3 0 0)], [(0, some ⟨26, 3, [[.rf 1 0 ((s3.map MSig.ct).length) 2, .v (.slice none 0 0), .v (.slice none 0 0)]]⟩), (1, some ⟨64, 2, s3.map MSig.ct⟩)], 1⟩ ?_ ?_
    · refine w_seq (w_region (by rfl) (dv1 (l_assign (.v _)) (dvE (q_seq (w_block (w_loopF hF (fun (s3005 : (List MSig) × Nat) => ⟨[(0, .ro (.rp (MPrg.ct p1) 0)), (3, .ad 0 3 0 0), (4, .v (.int .i64 ((s3005.2 : Nat) : Int)))], [(0, some ⟨26, 3, [[.rf 1 0 ((s3005.1.map MSig.ct).length) 2, .v (.slice none 0 0), .v (.slice none 0 0)]]⟩), (1, some ⟨64, 2, s3005.1.map MSig.ct⟩)], 1⟩) (le_of [(0, some 256), (1, none)] rfl (.s (.s (.s .nil rfl) rfl) rfl) (.box rfl rfl (.cons (.nil ⟨by simp, rfl⟩) (.cons (.v rfl) (.cons (.v rfl) .nil))) (.new ⟨by simp, rfl⟩ .nil))) ?_))))))
      intro s3005 y3006 hF hx3007
      refine w_seq (w_seq (w_region (by rfl) (dv1 (l_move (.v _)) (dv1 (l_move (.ro _)) (dv1 (l_nilRo rfl) (dv1 (l_fieldRo fd26_0 rfl) (dv1 (l_loadRo ty22 rfl rfl) (dv1 (l_lenRo sl22 rfl rfl (List.length_map _)) ?_))))))))
      refine dv1 (l_bin rfl rfl b_lssN) (dvE (q_seq ?_))
      rcases condE hF with ⟨b3009, hF⟩ | ⟨b3009, hF⟩
      · refine w_lenS 21 rfl fun l3010 => ?_
        refine w_condT rfl b3009 ?_
        refine w_skip (q_seq (w_seq (w_block (w_draw [[], [], [1], [1, 2], [1, 2, 3], [], [], [6], [6, 7], [6, 7, 8], [], [6, 7, 8, 9, 10], [6, 7, 8, 9, 10, 11], [6, 7, 8, 9, 10, 11, 12], [5, 6, 7, 8, 9, 10, 11, 12, 13], [], [15], [15, 16], [15, 16, 17], [], [15, 16, 17, 18, 19], [15, 16, 17, 18, 19, 20], [15, 16, 17, 18, 19, 20, 21], [5, 6, 7, 8, 9, 10, 11, 12, 13, 14, 15, 16, 17, 18, 19, 20, 21, 22], [5, 6, 7, 8, 9, 10, 11, 12, 13, 14, 15, 16, 17, 18, 19, 20, 21, 22, 23], [1, 2, 3, 4, 5, 6, 7, 8, 9, 10, 11, 12, 13, 14, 15, 16, 17, 18, 19, 20, 21, 22, 23, 24], [0, 1, 2, 3, 4, 5, 6, 7, 8, 9, 10, 11, 12, 13, 14, 15, 16, 17, 18, 19, 20, 21, 22, 23, 24, 25], [0, 1, 2, 3, 4, 5, 6, 7, 8, 9, 10, 11, 12, 13, 14, 15, 16, 17, 18, 19, 20, 21, 22, 23, 24, 25, 26], [0, 1, 2, 3, 4, 5, 6, 7, 8, 9, 10, 11, 12, 13, 14, 15, 16, 17, 18, 19, 20, 21, 22, 23, 24, 25, 26, 27]] [0, 1, 2, 3, 4, 5, 6, 7, 8, 9, 10, 11, 12, 13, 14, 15, 16, 17, 18, 19, 20, 21, 22, 23, 24, 25, 26, 27, 28] (by kernel_rfl) (by rfl) ⟨by decide, by rfl⟩ (by rfl) ?_))))
        refine de1 rfl (l_move (.ad _ _ _ _)) rfl (de1 rfl (l_move (.ad _ _ _ _)) rfl (de1 rfl (l_nil rfl) rfl (de1 rfl (l_field fd26_0 rfl) rfl (de1 rfl (l_load ty22 rfl rfl rfl rfl rfl) rfl (deN rfl (l_bs0 sl27 zt3 rfl (by decide)) rfl (de1 rfl (l_move (.ro _)) rfl (de1 rfl (l_nilRo rfl) rfl (de1 rfl (l_fieldRo fd26_0 rfl) rfl ?_))))))))
        refine de1 rfl (l_loadRo ty22 rfl rfl) rfl (de1 rfl (l_move (.v _)) rfl ?_)
        obtain ⟨x3011, h3012, hF⟩ := bindE hF
        refine de1 rfl (l_indexRo s3005.2 sl22 rfl rfl rfl (map_at h3012)) rfl (de1 rfl (l_fieldRo fd64_0 rfl) rfl (de1 rfl (l_loadRo ty27 rfl rfl) rfl ?_))
        obtain ⟨c3013, hF⟩ := ckE hF
        refine deN2 rfl (l_appOR el27 rfl rfl rfl rfl rfl (ro_map (fun _ => rfl) _) rfl (by simpa using c3013) (by decide)) rfl ?_
        refine de1 rfl (l_move (.ro _)) rfl (de1 rfl (l_nilRo rfl) rfl (de1 rfl (l_fieldRo fd26_0 rfl) rfl (de1 rfl (l_loadRo ty22 rfl rfl) rfl (de1 rfl (l_move (.v _)) rfl (de1 rfl (l_indexRo s3005.2 sl22 rfl rfl rfl (map_at h3012)) rfl (de1 rfl (l_fieldRo fd64_1 rfl) rfl (de1 rfl (l_loadRo ty3 rfl rfl) rfl (de1 rfl (l_build st64 zt64 (.cons (.rf _ _ _ _) (.cons (.v _) .nil)) rfl rfl) rfl ?_))))))))
        refine deN rfl (l_bs1 sl22 zt64 rfl (.ag _) rfl rfl rfl (by decide) (by decide)) rfl ?_
        obtain ⟨c3014, hF⟩ := ckE hF
        refine deN3 rfl (l_app1R el22 rfl rfl rfl rfl rfl rfl (by decide) rfl len_snoc (by simpa using c3014) (by decide)) rfl ?_
        refine de1 rfl (l_nil rfl) rfl (de1 rfl (l_field fd26_0 rfl) rfl (deS rfl (l_store ty22 rfl (.rf _ _ _ _) rfl rfl rfl (Nat.le_of_ble_eq_true rfl) rfl) rfl (ddE (q_in (q_seq (w_region (by rfl) (dv1 (l_move (.v _)) (dv1 (l_bin rfl rfl (b_incN (of_decide_eq_true b3009) l3010)) ?_))))))))
        refine dv1 (l_assign (.v _)) (dvE ?_)
        cases hF
        refine qL rfl ?_
        refine St.le.trans (le_closeR 2112 s3005.1.length rfl (snoc_at MSig.ct s3005.1 _) (.cons (.of (.rf rfl rfl (clm k_iC _))) (.cons (.of (.v _)) .nil)) (by decide) (by decide) rfl (snoc_cl MSig.ct _ _ x3011)) ?_
        exact (le_of [(0, some 0), (1, some 2112)] rfl (.s (.s (.s .nil rfl) rfl) rfl) (.box rfl rfl (.cons (.rf rfl (by simp)) (.cons (.v rfl) (.cons (.v rfl) .nil))) (.row rfl rfl rfl (clm k_MSigct _) .nil)))
      · refine w_condF rfl b3009 ?_
        refine w_exit ?_
        cases hF
        cases hx3007 _ rfl
        refine q_exS (q_exS (q_here (q_join ?_)))
        exact (le_of [(0, some 0), (1, some 1)] rfl (.s (.s .nil rfl) rfl) (.box rfl rfl (.s rfl) (.row rfl rfl rfl (clm k_MSigct _) .nil)))
    replace hF := hG4
    obtain ⟨s3016, hF, hG3017⟩ := bindE hF
    refine w_seqJ ⟨[(0, .ro (.rp (MPrg.ct p1) 0)), (3, .ad 0 3 0 0)], [(0, some ⟨26, 3, [[.rf 1 0 ((s3.map MSig.ct).length) 2, .rf 2 0 ((s3016.map MCls.ct).length) 2, .v (.slice none 0 0)]]⟩), (1, some ⟨64, 2, s3.map MSig.ct⟩), (2, some ⟨66, 2, s3016.map MCls.ct⟩)], 1⟩ ?_ ?_
    · refine w_seq (w_region (by rfl) (dv1 (l_assign (.v _)) (dvE (q_seq (w_block (w_loopF hF (fun (s6018 : (List MCls) × Nat) => ⟨[(0, .ro (.rp (MPrg.ct p1) 0)), (3, .ad 0 3 0 0), (5, .v (.int .i64 ((s6018.2 : Nat) : Int)))], [(0, some ⟨26, 3, [[.rf 1 0 ((s3.map MSig.ct).length) 2, .rf 2 0 ((s6018.1.map MCls.ct).length) 2, .v (.slice none 0 0)]]⟩), (1, some ⟨64, 2, s3.map MSig.ct⟩), (2, some ⟨66, 2, s6018.1.map MCls.ct⟩)], 1⟩) (le_of [(0, some 0), (1, some 1), (2, none)] rfl (.s (.s (.s .nil rfl) rfl) rfl) (.box rfl rfl (.cons (.rf rfl rfl) (.cons (.nil ⟨by simp, rfl⟩) (.cons (.v rfl) .nil))) (.row rfl rfl rfl (clm k_MSigct _) (.new ⟨by simp, rfl⟩ .nil)))) ?_))))))
      intro s6018 y6019 hF hx6020
      refine w_seq (w_seq (w_region (by rfl) (dv1 (l_move (.v _)) (dv1 (l_move (.ro _)) (dv1 (l_nilRo rfl) (dv1 (l_fieldRo fd26_1 rfl) (dv1 (l_loadRo ty23 rfl rfl) (dv1 (l_lenRo sl23 rfl rfl (List.length_map _)) ?_))))))))
      refine dv1 (l_bin rfl rfl b_lssN) (dvE (q_seq ?_))
      rcases condE hF with ⟨b6022, hF⟩ | ⟨b6022, hF⟩
      · refine w_lenS 58 rfl fun l6023 => ?_
        refine w_condT rfl b6022 ?_
        refine w_skip (q_seq (w_seq (w_block (w_seq (w_region (by rfl) (dv1 (l_move (.ro _)) (dv1 (l_nilRo rfl) (dv1 (l_fieldRo fd26_1 rfl) ?_))))))))
        refine dv1 (l_loadRo ty23 rfl rfl) (dv1 (l_move (.v _)) ?_)
        obtain ⟨x6024, h6025, hF⟩ := bindE hF
        refine dv1 (l_indexRo s6018.2 sl23 rfl rfl rfl (map_at h6025)) (dv1 (l_loadARo ty66 rfl rfl) (dvN (l_alloc zt66) (dvS (l_store ty66 rfl (.ag _) rfl rfl rfl (Nat.le_of_ble_eq_true rfl) rfl) (dvE (q_seq (w_draw [[], [], [1], [1, 2], [1, 2, 3], [], [], [6], [5, 6, 7], [], [], [10], [5, 6, 7, 8, 9, 10, 11], [5, 6, 7, 8, 9, 10, 11, 12], [5, 6, 7, 8, 9, 10, 11, 12, 13], [1, 2, 3, 4, 5, 6, 7, 8, 9, 10, 11, 12, 13, 14], [0, 1, 2, 3, 4, 5, 6, 7, 8, 9, 10, 11, 12, 13, 14, 15], [0, 1, 2, 3, 4, 5, 6, 7, 8, 9, 10, 11, 12, 13, 14, 15, 16], [0, 1, 2, 3, 4, 5, 6, 7, 8, 9, 10, 11, 12, 13, 14, 15, 16, 17]] [0, 1, 2, 3, 4, 5, 6, 7, 8, 9, 10, 11, 12, 13, 14, 15, 16, 17, 18] (by kernel_rfl) (by rfl) ⟨by decide, by rfl⟩ (by rfl) ?_))))))
        refine de1 rfl (l_move (.ad _ _ _ _)) rfl (de1 rfl (l_move (.ad _ _ _ _)) rfl (de1 rfl (l_nil rfl) rfl (de1 rfl (l_field fd26_1 rfl) rfl (de1 rfl (l_load ty23 rfl rfl rfl rfl rfl) rfl (deN rfl (l_bs0 sl27 zt3 rfl (by decide)) rfl (de1 rfl (l_field fd66_0 rfl) rfl (de1 rfl (l_load ty27 rfl rfl rfl rfl rfl) rfl ?_)))))))
        obtain ⟨c6026, hF⟩ := ckE hF
        refine deN2 rfl (l_appOR el27 rfl rfl rfl rfl rfl (ro_map (fun _ => rfl) _) rfl (by simpa using c6026) (by decide)) rfl ?_
        refine deN rfl (l_bs0 sl27 zt3 rfl (by decide)) rfl (de1 rfl (l_field fd66_1 rfl) rfl (de1 rfl (l_load ty27 rfl rfl rfl rfl rfl) rfl ?_))
        obtain ⟨c6027, hF⟩ := ckE hF
        refine deN2 rfl (l_appOR el27 rfl rfl rfl rfl rfl (ro_map (fun _ => rfl) _) rfl (by simpa using c6027) (by decide)) rfl ?_
        refine de1 rfl (l_build st66 zt66 (.cons (.rf _ _ _ _) (.cons (.rf _ _ _ _) .nil)) rfl rfl) rfl (deN rfl (l_bs1 sl23 zt66 rfl (.ag _) rfl rfl rfl (by decide) (by decide)) rfl ?_)
        obtain ⟨c6028, hF⟩ := ckE hF
        refine deN3 rfl (l_app1R el23 rfl rfl rfl rfl rfl rfl (by decide) rfl len_snoc (by simpa using c6028) (by decide)) rfl ?_
        refine de1 rfl (l_nil rfl) rfl (de1 rfl (l_field fd26_1 rfl) rfl (deS rfl (l_store ty23 rfl (.rf _ _ _ _) rfl rfl rfl (Nat.le_of_ble_eq_true rfl) rfl) rfl (ddE (q_in (q_seq (w_region (by rfl) (dv1 (l_move (.v _)) (dv1 (l_bin rfl rfl (b_incN (of_decide_eq_true b6022) l6023)) ?_))))))))
        refine dv1 (l_assign (.v _)) (dvE ?_)
        cases hF
        refine qL rfl ?_
        refine St.le.trans (le_closeR 2048 s6018.1.length rfl (snoc_at MCls.ct s6018.1 _) (.cons (.of (.rf rfl rfl (clm k_iC _))) (.cons (.of (.rf rfl rfl (clm k_iC _))) .nil)) (by decide) (by decide) rfl (snoc_cl MCls.ct _ _ x6024)) ?_
        exact (le_of [(0, some 0), (1, some 1), (2, some 2048)] rfl (.s (.s (.s .nil rfl) rfl) rfl) (.box rfl rfl (.cons (.rf rfl rfl) (.cons (.rf rfl (by simp)) (.cons (.v rfl) .nil))) (.row rfl rfl rfl (clm k_MSigct _) (.row rfl rfl rfl (clm k_MClsct _) .nil))))
      · refine w_condF rfl b6022 ?_
        refine w_exit ?_
        cases hF
        cases hx6020 _ rfl
        refine q_exS (q_exS (q_here (q_join ?_)))
        exact (le_of [(0, some 0), (1, some 1), (2, some 2)] rfl (.s (.s .nil rfl) rfl) (.box rfl rfl (.s rfl) (.row rfl rfl rfl (clm k_MSigct _) (.row rfl rfl rfl (clm k_MClsct _) .nil))))
    replace hF := hG3017
    obtain ⟨s6030, hF, hG6031⟩ := bindE hF
    refine w_seqJ ⟨[(3, .ad 0 3 0 0)], [(0, some ⟨26, 3, [[.rf 1 0 ((s3.map MSig.ct).length) 2, .rf 2 0 ((s3016.map MCls.ct).length) 2, .rf 3 0 ((s6030.map MFun.ct).length) 2]]⟩), (1, some ⟨64, 2, s3.map MSig.ct⟩), (2, some ⟨66, 2, s3016.map MCls.ct⟩), (3, some ⟨31, 2, s6030.map MFun.ct⟩)], 1⟩ ?_ ?_
    · refine w_seq (w_region (by rfl) (dv1 (l_assign (.v _)) (dvE (q_seq (w_block (w_loopF hF (fun (s9032 : (List MFun) × Nat) => ⟨[(0, .ro (.rp (MPrg.ct p1) 0)), (3, .ad 0 3 0 0), (7, .v (.int .i64 ((s9032.2 : Nat) : Int)))], [(0, some ⟨26, 3, [[.rf 1 0 ((s3.map MSig.ct).length) 2, .rf 2 0 ((s3016.map MCls.ct).length) 2, .rf 3 0 ((s9032.1.map MFun.ct).length) 2]]⟩), (1, some ⟨64, 2, s3.map MSig.ct⟩), (2, some ⟨66, 2, s3016.map MCls.ct⟩), (3, some ⟨31, 2, s9032.1.map MFun.ct⟩)], 1⟩) (le_of [(0, some 0), (1, some 1), (2, some 2), (3, none)] rfl (.s (.s (.s .nil rfl) rfl) rfl) (.box rfl rfl (.cons (.rf rfl rfl) (.cons (.rf rfl rfl) (.cons (.nil ⟨by simp, rfl⟩) .nil))) (.row rfl rfl rfl (clm k_MSigct _) (.row rfl rfl rfl (clm k_MClsct _) (.new ⟨by simp, rfl⟩ .nil))))) ?_))))))
      intro s9032 y9033 hF hx9034
      refine w_seq (w_seq (w_region (by rfl) (dv1 (l_move (.v _)) (dv1 (l_move (.ro _)) (dv1 (l_nilRo rfl) (dv1 (l_fieldRo fd26_2 rfl) (dv1 (l_loadRo ty24 rfl rfl) (dv1 (l_lenRo sl24 rfl rfl (List.length_map _)) ?_))))))))
      refine dv1 (l_bin rfl rfl b_lssN) (dvE (q_seq ?_))
      rcases condE hF with ⟨b9036, hF⟩ | ⟨b9036, hF⟩
      · refine w_lenS 92 rfl fun l9037 => ?_
        refine w_condT rfl b9036 ?_
        refine w_skip (q_seq ?_)
        obtain ⟨s9039, hF, hG9040⟩ := bindE hF
        refine w_seqJ ⟨[(0, .ro (.rp (MPrg.ct p1) 0)), (3, .ad 0 3 0 0), (7, .v (.int .i64 ((s9032.2 : Nat) : Int)))], [(0, some ⟨26, 3, [[.rf 1 0 ((s3.map MSig.ct).length) 2, .rf 2 0 ((s3016.map MCls.ct).length) 2, .rf 3 0 ((s9039.map MFun.ct).length) 2]]⟩), (1, some ⟨64, 2, s3.map MSig.ct⟩), (2, some ⟨66, 2, s3016.map MCls.ct⟩), (3, some ⟨31, 2, s9039.map MFun.ct⟩)], 1⟩ ?_ ?_
        · refine w_block (w_seq (w_region (by rfl) (dv1 (l_move (.ro _)) (dv1 (l_nilRo rfl) (dv1 (l_fieldRo fd26_2 rfl) (dv1 (l_loadRo ty24 rfl rfl) (dv1 (l_move (.v _)) ?_)))))))
          obtain ⟨x9041, h9042, hF⟩ := bindE hF
          refine dv1 (l_indexRo s9032.2 sl24 rfl rfl rfl (map_at h9042)) (dv1 (l_fieldRo fd31_0 rfl) (dv1 (l_loadRo ty3 rfl rfl) (dv1 (l_build st31 zt31 (.cons (.v _) .nil) rfl rfl) (dvN (l_alloc zt31) (dvS (l_store ty31 rfl (.ag _) rfl rfl rfl (Nat.le_of_ble_eq_true rfl) rfl) (dvE (q_seq ?_)))))))
          obtain ⟨s9044, hF, hG9045⟩ := bindE hF
          refine w_seqJ ⟨[(0, .ro (.rp (MPrg.ct p1) 0)), (3, .ad 0 3 0 0), (7, .v (.int .i64 ((s9032.2 : Nat) : Int))), (8, .ad 4 2 0 0)], [(0, some ⟨26, 3, [[.rf 1 0 ((s3.map MSig.ct).length) 2, .rf 2 0 ((s3016.map MCls.ct).length) 2, .rf 3 0 ((s9032.1.map MFun.ct).length) 2]]⟩), (1, some ⟨64, 2, s3.map MSig.ct⟩), (2, some ⟨66, 2, s3016.map MCls.ct⟩), (3, some ⟨31, 2, s9032.1.map MFun.ct⟩), (4, some ⟨31, 2, [[.v (.int .i64 x9041.Ret), .rf 5 0 ((s9044.map MBlk.ct).length) 8]]⟩), (5, some ⟨47, 8, s9044.map MBlk.ct⟩)], 1⟩ ?_ ?_
          · refine w_seq (w_region (by rfl) (dv1 (l_assign (.v _)) (dvE (q_seq (w_block (w_loopF hF (fun (s12046 : (List MBlk) × Nat) => ⟨[(0, .ro (.rp (MPrg.ct p1) 0)), (3, .ad 0 3 0 0), (7, .v (.int .i64 ((s9032.2 : Nat) : Int))), (8, .ad 4 2 0 0), (9, .v (.int .i64 ((s12046.2 : Nat) : Int)))], [(0, some ⟨26, 3, [[.rf 1 0 ((s3.map MSig.ct).length) 2, .rf 2 0 ((s3016.map MCls.ct).length) 2, .rf 3 0 ((s9032.1.map MFun.ct).length) 2]]⟩), (1, some ⟨64, 2, s3.map MSig.ct⟩), (2, some ⟨66, 2, s3016.map MCls.ct⟩), (3, some ⟨31, 2, s9032.1.map MFun.ct⟩), (4, some ⟨31, 2, [[.v (.int .i64 x9041.Ret), .rf 5 0 ((s12046.1.map MBlk.ct).length) 8]]⟩), (5, some ⟨47, 8, s12046.1.map MBlk.ct⟩)], 1⟩) (le_of [(0, some 0), (1, some 1), (2, some 2), (3, some 3), (4, some 1088), (5, none)] rfl (.s (.s (.s (.s (.s .nil rfl) rfl) rfl) rfl) rfl) (.box rfl rfl (.s rfl) (.row rfl rfl rfl (clm k_MSigct _) (.row rfl rfl rfl (clm k_MClsct _) (.row rfl rfl rfl (clm k_MFunct _) (.box rfl rfl (.cons (.v rfl) (.cons (.nil ⟨by simp, rfl⟩) .nil)) (.new ⟨by simp, rfl⟩ .nil))))))) ?_))))))
            intro s12046 y12047 hF hx12048
            refine w_seq (w_seq (w_region (by rfl) (dv1 (l_move (.v _)) (dv1 (l_move (.ro _)) (dv1 (l_nilRo rfl) (dv1 (l_fieldRo fd26_2 rfl) (dv1 (l_loadRo ty24 rfl rfl) (dv1 (l_move (.v _)) ?_))))))))
            refine dv1 (l_indexRo s9032.2 sl24 rfl rfl rfl (map_at h9042)) (dv1 (l_fieldRo fd31_1 rfl) (dv1 (l_loadRo ty29 rfl rfl) (dv1 (l_lenRo sl29 rfl rfl (List.length_map _)) (dv1 (l_bin rfl rfl b_lssN) (dvE (q_seq ?_))))))
            rcases condE hF with ⟨b12050, hF⟩ | ⟨b12050, hF⟩
            · refine w_lenS 114 rfl fun l12051 => ?_
              refine w_condT rfl b12050 ?_
              refine w_skip (q_seq ?_)
              obtain ⟨s12053, hF, hG12054⟩ := bindE hF
              refine w_seqJ ⟨[(0, .ro (.rp (MPrg.ct p1) 0)), (3, .ad 0 3 0 0), (7, .v (.int .i64 ((s9032.2 : Nat) : Int))), (8, .ad 4 2 0 0), (9, .v (.int .i64 ((s12046.2 : Nat) : Int)))], [(0, some ⟨26, 3, [[.rf 1 0 ((s3.map MSig.ct).length) 2, .rf 2 0 ((s3016.map MCls.ct).length) 2, .rf 3 0 ((s9032.1.map MFun.ct).length) 2]]⟩), (1, some ⟨64, 2, s3.map MSig.ct⟩), (2, some ⟨66, 2, s3016.map MCls.ct⟩), (3, some ⟨31, 2, s9032.1.map MFun.ct⟩), (4, some ⟨31, 2, [[.v (.int .i64 x9041.Ret), .rf 5 0 ((s12053.map MBlk.ct).length) 8]]⟩), (5, some ⟨47, 8, s12053.map MBlk.ct⟩)], 1⟩ ?_ ?_
              · refine w_block (w_seq (w_region (by rfl) (dv1 (l_move (.ro _)) (dv1 (l_nilRo rfl) (dv1 (l_fieldRo fd26_2 rfl) (dv1 (l_loadRo ty24 rfl rfl) (dv1 (l_move (.v _)) (dv1 (l_indexRo s9032.2 sl24 rfl rfl rfl (map_at h9042)) ?_))))))))
                refine dv1 (l_fieldRo fd31_1 rfl) (dv1 (l_loadRo ty29 rfl rfl) (dv1 (l_move (.v _)) ?_))
                obtain ⟨x12055, h12056, hF⟩ := bindE hF
                refine dv1 (l_indexRo s12046.2 sl29 rfl rfl rfl (map_at h12056)) (dv1 (l_loadARo ty47 rfl rfl) (dvN (l_alloc zt47) (dvS (l_store ty47 rfl (.ag _) rfl rfl rfl (Nat.le_of_ble_eq_true rfl) rfl) (dvE (q_seq (w_seq (w_draw [[], [], [1], [0, 1, 2], [], [4], [0, 1, 2, 3, 4, 5], [0, 1, 2, 3, 4, 5, 6], [], [0, 1, 2, 3, 4, 5, 6, 7, 8]] [0, 1, 2, 3, 4, 5, 8, 6, 7, 9] (by kernel_rfl) (by rfl) ⟨by decide, by rfl⟩ (by rfl) ?_)))))))
                refine deN rfl (l_bs0 sl27 zt3 rfl (by decide)) rfl (de1 rfl (l_field fd47_0 rfl) rfl (de1 rfl (l_load ty27 rfl rfl rfl rfl rfl) rfl ?_))
                obtain ⟨c12057, hF⟩ := ckE hF
                refine deN2 rfl (l_appOR el27 rfl rfl rfl rfl rfl (ro_map (fun _ => rfl) _) rfl (by simpa using c12057) (by decide)) rfl ?_
                refine de1 rfl (l_field fd47_2 rfl) rfl (de1 rfl (l_loadA ty44 rfl rfl rfl rfl rfl) rfl (deN rfl (l_alloc zt47) rfl ?_))
                obtain ⟨y12058, h12059, hF⟩ := bindE hF
                refine deC1 rfl (l_call (B := false) (FnI.mk' (by kernel_rfl)) (.cons (.ag _) (.ag (.cons (.v _) (.cons (.v _) (.cons (.v _) (.cons (.v _) (.cons (.ro _) (.cons (.ro _) .nil))))))) .nil) (p_R05_End_ac h12059) (okF p_R05_End_ok)) rfl ?_
                refine de1 rfl (l_build st47 zt47 (.cons (.rf _ _ _ _) (.cons (.ag _) .nil)) rfl rfl) rfl (deS rfl (l_store ty47 rfl (.ag _) rfl rfl rfl (Nat.le_of_ble_eq_true rfl) rfl) rfl (ddE (q_seq ?_)))
                obtain ⟨s12061, hF, hG12062⟩ := bindE hF
                refine w_seqJ ⟨[(0, .ro (.rp (MPrg.ct p1) 0)), (3, .ad 0 3 0 0), (7, .v (.int .i64 ((s9032.2 : Nat) : Int))), (8, .ad 4 2 0 0), (9, .v (.int .i64 ((s12046.2 : Nat) : Int))), (11, .ad 6 8 0 0)], [(0, some ⟨26, 3, [[.rf 1 0 ((s3.map MSig.ct).length) 2, .rf 2 0 ((s3016.map MCls.ct).length) 2, .rf 3 0 ((s9032.1.map MFun.ct).length) 2]]⟩), (1, some ⟨64, 2, s3.map MSig.ct⟩), (2, some ⟨66, 2, s3016.map MCls.ct⟩), (3, some ⟨31, 2, s9032.1.map MFun.ct⟩), (4, some ⟨31, 2, [[.v (.int .i64 x9041.Ret), .rf 5 0 ((s12046.1.map MBlk.ct).length) 8]]⟩), (5, some ⟨47, 8, s12046.1.map MBlk.ct⟩), (6, some ⟨47, 8, [[.rf 7 0 ((x12055.Params.map iC).length) 1, .rf 8 0 ((s12061.map MOp.ct).length) 8, .v (.int .i64 y12058.K), .v (.int .i64 y12058.A), .v (.int .i64 y12058.To), .v (.int .i64 y12058.Else), .rf 9 0 ((y12058.L.map iC).length) 1, .rf 10 0 ((y12058.M.map iC).length) 1]]⟩), (7, some ⟨3, 1, x12055.Params.map iC⟩), (8, some ⟨49, 8, s12061.map MOp.ct⟩), (9, some ⟨3, 1, y12058.L.map iC⟩), (10, some ⟨3, 1, y12058.M.map iC⟩)], 1⟩ ?_ ?_
                · refine w_seq (w_region (by rfl) (dv1 (l_assign (.v _)) (dvE (q_seq (w_block (w_loopF hF (fun (s15063 : (List MOp) × Nat) => ⟨[(0, .ro (.rp (MPrg.ct p1) 0)), (3, .ad 0 3 0 0), (7, .v (.int .i64 ((s9032.2 : Nat) : Int))), (8, .ad 4 2 0 0), (9, .v (.int .i64 ((s12046.2 : Nat) : Int))), (10, .ad 6 8 0 0), (11, .ad 7 8 0 0), (12, .v (.int .i64 ((s15063.2 : Nat) : Int)))], [(0, some ⟨26, 3, [[.rf 1 0 ((s3.map MSig.ct).length) 2, .rf 2 0 ((s3016.map MCls.ct).length) 2, .rf 3 0 ((s9032.1.map MFun.ct).length) 2]]⟩), (1, some ⟨64, 2, s3.map MSig.ct⟩), (2, some ⟨66, 2, s3016.map MCls.ct⟩), (3, some ⟨31, 2, s9032.1.map MFun.ct⟩), (4, some ⟨31, 2, [[.v (.int .i64 x9041.Ret), .rf 5 0 ((s12046.1.map MBlk.ct).length) 8]]⟩), (5, some ⟨47, 8, s12046.1.map MBlk.ct⟩), (6, some ⟨47, 8, [[.ro (.sl 3 1 (x12055.Params.map iC)), .ro (.sl 49 8 (x12055.Ops.map MOp.ct)), .v (.int .i64 x12055.End.K), .v (.int .i64 x12055.End.A), .v (.int .i64 x12055.End.To), .v (.int .i64 x12055.End.Else), .ro (.sl 3 1 (x12055.End.L.map iC)), .ro (.sl 3 1 (x12055.End.M.map iC))]]⟩), (7, some ⟨47, 8, [[.rf 8 0 ((x12055.Params.map iC).length) 1, .rf 9 0 ((s15063.1.map MOp.ct).length) 8, .v (.int .i64 y12058.K), .v (.int .i64 y12058.A), .v (.int .i64 y12058.To), .v (.int .i64 y12058.Else), .rf 10 0 ((y12058.L.map iC).length) 1, .rf 11 0 ((y12058.M.map iC).length) 1]]⟩), (8, some ⟨3, 1, x12055.Params.map iC⟩), (9, some ⟨49, 8, s15063.1.map MOp.ct⟩), (10, some ⟨3, 1, y12058.L.map iC⟩), (11, some ⟨3, 1, y12058.M.map iC⟩)], 1⟩) (le_of [(0, some 0), (1, some 1), (2, some 2), (3, some 3), (4, some 4), (5, some 5), (6, some 1472), (7, some 1984), (8, some 1792), (9, none), (10, some 2052), (11, some 2053)] rfl (.s (.s (.s (.s (.s (.s (.s (.s .nil rfl) rfl) rfl) rfl) rfl) rfl) rfl) rfl) (.box rfl rfl (.s rfl) (.row rfl rfl rfl (clm k_MSigct _) (.row rfl rfl rfl (clm k_MClsct _) (.row rfl rfl rfl (clm k_MFunct _) (.box rfl rfl (.s rfl) (.row rfl rfl rfl (clm k_MBlkct _) (.box rfl rfl (.s rfl) (.box rfl rfl (.cons (.rf rfl rfl) (.cons (.nil ⟨by simp, rfl⟩) (.cons (.v rfl) (.cons (.v rfl) (.cons (.v rfl) (.cons (.v rfl) (.cons (.rf rfl rfl) (.cons (.rf rfl rfl) .nil)))))))) (.row rfl rfl rfl (clm k_iC _) (.new ⟨by simp, rfl⟩ (.row rfl rfl rfl (clm k_iC _) (.row rfl rfl rfl (clm k_iC _) .nil))))))))))))) ?_))))))
                  intro s15063 y15064 hF hx15065
                  refine w_seq (w_seq (w_region (by rfl) (dv1 (l_move (.v _)) (dv1 (l_field fd47_1 rfl) (dv1 (l_load ty45 rfl rfl rfl rfl rfl) (dv1 (l_lenRo sl45 rfl rfl (List.length_map _)) (dv1 (l_bin rfl rfl b_lssN) (dvE ?_))))))))
                  refine q_seq ?_
                  rcases condE hF with ⟨b15067, hF⟩ | ⟨b15067, hF⟩
                  · refine w_lenS 140 rfl fun l15068 => ?_
                    refine w_condT rfl b15067 ?_
                    refine w_skip (q_seq (w_seq (w_block (w_draw [[], [0], [], [2], [], [2, 3, 4], [2, 3, 4, 5], [2, 3, 4, 5, 6], [2, 3, 4, 5, 6, 7], [0, 1, 2, 3, 4, 5, 6, 7, 8], [0, 1, 2, 3, 4, 5, 6, 7, 8, 9], [0, 1, 2, 3, 4, 5, 6, 7, 8, 9, 10]] [0, 1, 2, 3, 4, 5, 6, 7, 8, 9, 10, 11] (by kernel_rfl) (by rfl) ⟨by decide, by rfl⟩ (by rfl) ?_))))
                    refine de1 rfl (l_field fd47_1 rfl) rfl (de1 rfl (l_load ty45 rfl rfl rfl rfl rfl) rfl (de1 rfl (l_field fd47_1 rfl) rfl (de1 rfl (l_load ty45 rfl rfl rfl rfl rfl) rfl (de1 rfl (l_move (.v _)) rfl ?_))))
                    obtain ⟨x15069, h15070, hF⟩ := bindE hF
                    refine de1 rfl (l_indexRo s15063.2 sl45 rfl rfl rfl (map_at h15070)) rfl (de1 rfl (l_loadARo ty49 rfl rfl) rfl ?_)
                    obtain ⟨y15071, h15072, hF⟩ := bindE hF
                    refine deC1 rfl (l_call (B := false) (FnI.mk' (by kernel_rfl)) (.cons (.ag _) (.ag (.cons (.v _) (.cons (.v _) (.cons (.v _) (.cons (.v _) (.cons (.v _) (.cons (.v _) (.cons (.ro _) (.cons (.v _) .nil))))))))) .nil) (p_R04_Plain_ac h15072) (okF p_R04_Plain_ok)) rfl ?_
                    refine deN rfl (l_bs1 sl45 zt49 rfl (.ag _) rfl rfl rfl (by decide) (by decide)) rfl ?_
                    obtain ⟨c15073, hF⟩ := ckE hF
                    refine deN3 rfl (l_app1R el45 rfl rfl rfl rfl rfl rfl (by decide) rfl len_snoc (by simpa using c15073) (by decide)) rfl ?_
                    refine de1 rfl (l_field fd47_1 rfl) rfl (deS rfl (l_store ty45 rfl (.rf _ _ _ _) rfl rfl rfl (Nat.le_of_ble_eq_true rfl) rfl) rfl (ddE (q_in (q_seq (w_region (by rfl) (dv1 (l_move (.v _)) (dv1 (l_bin rfl rfl (b_incN (of_decide_eq_true b15067) l15068)) (dv1 (l_assign (.v _)) ?_))))))))
                    refine dvE ?_
                    cases hF
                    refine qL rfl ?_
                    refine St.le.trans (le_closeR 960 s15063.1.length rfl (snoc_at MOp.ct s15063.1 _) (.cons (.of (.v _)) (.cons (.of (.v _)) (.cons (.of (.v _)) (.cons (.of (.v _)) (.cons (.of (.v _)) (.cons (.of (.v _)) (.cons (.of (.rf rfl rfl (clm k_iC _))) (.cons (.of (.v _)) .nil)))))))) (by decide) (by decide) rfl (snoc_cl MOp.ct _ _ y15071)) ?_
                    exact (le_of [(0, some 0), (1, some 1), (2, some 2), (3, some 3), (4, some 4), (5, some 5), (6, some 6), (7, some 7), (8, some 8), (9, some 960), (10, some 10), (11, some 11)] rfl (.s (.s (.s (.s (.s (.s (.s (.s .nil rfl) rfl) rfl) rfl) rfl) rfl) rfl) rfl) (.box rfl rfl (.s rfl) (.row rfl rfl rfl (clm k_MSigct _) (.row rfl rfl rfl (clm k_MClsct _) (.row rfl rfl rfl (clm k_MFunct _) (.box rfl rfl (.s rfl) (.row rfl rfl rfl (clm k_MBlkct _) (.box rfl rfl (.s rfl) (.box rfl rfl (.cons (.rf rfl rfl) (.cons (.rf rfl (by simp)) (.cons (.v rfl) (.cons (.v rfl) (.cons (.v rfl) (.cons (.v rfl) (.cons (.rf rfl rfl) (.cons (.rf rfl rfl) .nil)))))))) (.row rfl rfl rfl (clm k_iC _) (.row rfl rfl rfl (clm k_MOpct _) (.row rfl rfl rfl (clm k_iC _) (.row rfl rfl rfl (clm k_iC _) .nil)))))))))))))
                  · refine w_condF rfl b15067 ?_
                    refine w_exit ?_
                    cases hF
                    cases hx15065 _ rfl
                    refine q_exS (q_exS (q_here (q_join ?_)))
                    exact (le_of [(0, some 0), (1, some 1), (2, some 2), (3, some 3), (4, some 4), (5, some 5), (6, some 7), (7, some 8), (8, some 9), (9, some 10), (10, some 11)] rfl (.s (.s (.s (.s (.s (.s .nil rfl) rfl) rfl) rfl) rfl) rfl) (.box rfl rfl (.s rfl) (.row rfl rfl rfl (clm k_MSigct _) (.row rfl rfl rfl (clm k_MClsct _) (.row rfl rfl rfl (clm k_MFunct _) (.box rfl rfl (.s rfl) (.row rfl rfl rfl (clm k_MBlkct _) (.box rfl rfl (.s rfl) (.row rfl rfl rfl (clm k_iC _) (.row rfl rfl rfl (clm k_MOpct _) (.row rfl rfl rfl (clm k_iC _) (.row rfl rfl rfl (clm k_iC _) .nil))))))))))))
                replace hF := hG12062
                refine w_region (by rfl) (dv1 (l_field fd31_1 rfl) (dv1 (l_load ty29 rfl rfl rfl rfl rfl) (dv1 (l_loadA ty47 rfl rfl rfl rfl rfl) (dvN (l_bs1 sl29 zt47 rfl (.ag _) rfl rfl rfl (by decide) (by decide)) ?_))))
                obtain ⟨c15074, hF⟩ := ckE hF
                refine dvN3 (l_app1R el29 rfl rfl rfl rfl rfl rfl (by decide) rfl len_snoc (by simpa using c15074) (by decide)) ?_
                refine dv1 (l_field fd31_1 rfl) (dvS (l_store ty29 rfl (.rf _ _ _ _) rfl rfl rfl (Nat.le_of_ble_eq_true rfl) rfl) (dvE ?_))
                cases hF
                refine q_in (q_join ?_)
                refine St.le.trans (le_closeR 320 s12046.1.length rfl (snoc_at MBlk.ct s12046.1 _) (.cons (.of (.rf rfl rfl (clm k_iC _))) (.cons (.of (.rf rfl rfl (clm k_MOpct _))) (.cons (.of (.v _)) (.cons (.of (.v _)) (.cons (.of (.v _)) (.cons (.of (.v _)) (.cons (.of (.rf rfl rfl (clm k_iC _))) (.cons (.of (.rf rfl rfl (clm k_iC _))) .nil)))))))) (by decide) (by decide) rfl (snoc_cl MBlk.ct _ _ (⟨x12055.Params, s12061, y12058⟩ : MBlk))) ?_
                exact (le_of [(0, some 0), (1, some 1), (2, some 2), (3, some 3), (4, some 4), (5, some 320)] rfl (.s (.s (.s (.s (.s .nil rfl) rfl) rfl) rfl) rfl) (.box rfl rfl (.s rfl) (.row rfl rfl rfl (clm k_MSigct _) (.row rfl rfl rfl (clm k_MClsct _) (.row rfl rfl rfl (clm k_MFunct _) (.box rfl rfl (.cons (.v rfl) (.cons (.rf rfl (by simp)) .nil)) (.row rfl rfl rfl (clm k_MBlkct _) .nil)))))))
              replace hF := hG12054
              refine w_region (by rfl) (dv1 (l_move (.v _)) (dv1 (l_bin rfl rfl (b_incN (of_decide_eq_true b12050) l12051)) (dv1 (l_assign (.v _)) (dvE ?_))))
              cases hF
              refine qL rfl ?_
              exact (le_of [(0, some 0), (1, some 1), (2, some 2), (3, some 3), (4, some 4), (5, some 5)] rfl (.s (.s (.s (.s (.s .nil rfl) rfl) rfl) rfl) rfl) (.box rfl rfl (.s rfl) (.row rfl rfl rfl (clm k_MSigct _) (.row rfl rfl rfl (clm k_MClsct _) (.row rfl rfl rfl (clm k_MFunct _) (.box rfl rfl (.s rfl) (.row rfl rfl rfl (clm k_MBlkct _) .nil)))))))
            · refine w_condF rfl b12050 ?_
              refine w_exit ?_
              cases hF
              cases hx12048 _ rfl
              refine q_exS (q_exS (q_here (q_join ?_)))
              exact (le_of [(0, some 0), (1, some 1), (2, some 2), (3, some 3), (4, some 4), (5, some 5)] rfl (.s (.s (.s (.s .nil rfl) rfl) rfl) rfl) (.box rfl rfl (.s rfl) (.row rfl rfl rfl (clm k_MSigct _) (.row rfl rfl rfl (clm k_MClsct _) (.row rfl rfl rfl (clm k_MFunct _) (.box rfl rfl (.s rfl) (.row rfl rfl rfl (clm k_MBlkct _) .nil)))))))
          replace hF := hG9045
          refine w_draw [[], [], [1], [1, 2], [1, 2, 3], [], [5], [1, 2, 3, 4, 5, 6], [0, 1, 2, 3, 4, 5, 6, 7], [0, 1, 2, 3, 4, 5, 6, 7, 8], [0, 1, 2, 3, 4, 5, 6, 7, 8, 9]] [0, 1, 2, 3, 4, 5, 6, 7, 8, 9, 10] (by kernel_rfl) (by rfl) ⟨by decide, by rfl⟩ (by rfl) ?_
          refine de1 rfl (l_move (.ad _ _ _ _)) rfl (de1 rfl (l_move (.ad _ _ _ _)) rfl (de1 rfl (l_nil rfl) rfl (de1 rfl (l_field fd26_2 rfl) rfl (de1 rfl (l_load ty24 rfl rfl rfl rfl rfl) rfl (de1 rfl (l_loadA ty31 rfl rfl rfl rfl rfl) rfl (deN rfl (l_bs1 sl24 zt31 rfl (.ag _) rfl rfl rfl (by decide) (by decide)) rfl ?_))))))
          obtain ⟨c15075, hF⟩ := ckE hF
          refine deN3 rfl (l_app1R el24 rfl rfl rfl rfl rfl rfl (by decide) rfl len_snoc (by simpa using c15075) (by decide)) rfl ?_
          refine de1 rfl (l_nil rfl) rfl (de1 rfl (l_field fd26_2 rfl) rfl (deS rfl (l_store ty24 rfl (.rf _ _ _ _) rfl rfl rfl (Nat.le_of_ble_eq_true rfl) rfl) rfl (ddE ?_)))
          cases hF
          refine q_in (q_join ?_)
          refine St.le.trans (le_closeR 512 s9032.1.length rfl (snoc_at MFun.ct s9032.1 _) (.cons (.of (.v _)) (.cons (.of (.rf rfl rfl (clm k_MBlkct _))) .nil)) (by decide) (by decide) rfl (snoc_cl MFun.ct _ _ (⟨x9041.Ret, s9044⟩ : MFun))) ?_
          exact (le_of [(0, some 0), (1, some 1), (2, some 2), (3, some 512)] rfl (.s (.s (.s .nil rfl) rfl) rfl) (.box rfl rfl (.cons (.rf rfl rfl) (.cons (.rf rfl rfl) (.cons (.rf rfl (by simp)) .nil))) (.row rfl rfl rfl (clm k_MSigct _) (.row rfl rfl rfl (clm k_MClsct _) (.row rfl rfl rfl (clm k_MFunct _) .nil)))))
        replace hF := hG9040
        refine w_region (by rfl) (dv1 (l_move (.v _)) (dv1 (l_bin rfl rfl (b_incN (of_decide_eq_true b9036) l9037)) (dv1 (l_assign (.v _)) (dvE ?_))))
        cases hF
        refine qL rfl ?_
        exact (le_of [(0, some 0), (1, some 1), (2, some 2), (3, some 3)] rfl (.s (.s (.s .nil rfl) rfl) rfl) (.box rfl rfl (.s rfl) (.row rfl rfl rfl (clm k_MSigct _) (.row rfl rfl rfl (clm k_MClsct _) (.row rfl rfl rfl (clm k_MFunct _) .nil)))))
      · refine w_condF rfl b9036 ?_
        refine w_exit ?_
        cases hF
        cases hx9034 _ rfl
        refine q_exS (q_exS (q_here (q_join ?_)))
        exact (le_of [(0, some 0), (1, some 1), (2, some 2), (3, some 3)] rfl (.s .nil rfl) (.box rfl rfl (.s rfl) (.row rfl rfl rfl (clm k_MSigct _) (.row rfl rfl rfl (clm k_MClsct _) (.row rfl rfl rfl (clm k_MFunct _) .nil)))))
    replace hF := hG6031
    refine w_seq (w_region (by rfl) (dv1 (l_move (.ad _ _ _ _)) (dv1 (l_assign (.ad _ _ _ _)) (dvE (q_seq (W.le (le_close 0 0 rfl rfl (.cons (.of (.rf rfl rfl (clm k_MSigct _))) (.cons (.of (.rf rfl rfl (clm k_MClsct _))) (.cons (.of (.rf rfl rfl (clm k_MFunct _))) .nil))) (by decide) (by decide) rfl) ?_))))))
    refine w_ret ?_
    cases hF
    refine q_end (.inr rfl) ?_
    exact ret_ok rfl (.cons (.tmp (.ad _ _ _ _) (.ad rfl (cl1 (.sl _ _ (clm k_MSigct _)) (cl1 (.sl _ _ (clm k_MClsct _)) (cl1 (.sl _ _ (clm k_MFunct _)) (cl0 (b := true))))))) .nil) (by decide) rfl

def p_R16_Own (a0 : MFun) : Option MFun :=
((p_R05_Own (some (⟨[], [], [a0]⟩ : MPrg))).bind fun y1 =>
(optC y1
(none)
(fun p3 =>
((p3.Funcs[0]?).bind fun x4 =>
some x4))))

theorem p_R16_Own_ok {r : MFun} : rOk (.ag (MFun.ct r)) = true ∧ FrT (.ag (MFun.ct r)) := ⟨rfl, (.one (.ag (k_MFunct _)))⟩

set_option maxRecDepth 10000 in
set_option maxHeartbeats 4000000 in
theorem p_R16_Own_ac {a0 : MFun} {r : MFun} (hF : p_R16_Own a0 = some r) : AC Tryd.prog GT 22 [.ag (MFun.ct a0)] (fun c => c = .ag (MFun.ct r)) := by
  unfold p_R16_Own at hF
  refine AC.mk (nt := 13) Tryd.func22 rfl rfl rfl fun w N => ?_
  refine w_seq (w_region (by rfl) (dvN (l_box (.ag _) rfl rfl) (dvN (l_alloc zt31) (dvE (q_seq (w_seq (w_region (by rfl) (dv1 (l_loadA ty31 rfl rfl rfl rfl rfl) ?_))))))))
  refine dvN (l_bs1 sl24 zt31 rfl (.ag _) rfl rfl rfl (by decide) (by decide)) (dv1 (l_build st26 zt26 (.cons (.rf _ _ _ _) .nil) rfl rfl) (dvN (l_box (.ag _) rfl rfl) (dvG (le_close 320 0 rfl rfl (.cons (.of (.v _)) (.cons (.of (.v _)) (.cons (.of (.rf rfl rfl (cr1 (cl1 (.v _) (cl1 (.ro _ rfl) (cl0 (b := true)))) cr0))) .nil))) (by decide) (by decide) rfl) ?_)))
  obtain ⟨y1, h2, hF⟩ := bindE hF
  rcases y1 with _ | p3
  · replace hF := optN hF
    refine dvC (l_call (B := true) (FnI.mk' (by kernel_rfl)) (.cons (.ad _ _ _ _) (.one (.ad rfl rfl rfl (cl1 (.v _) (cl1 (.v _) (cl1 (.sl _ _ (cr1 (cl1 (.v _) (cl1 (.ro _ rfl) (cl0 (b := true)))) cr0)) (cl0 (b := true))))))) .nil) (AC.rd (p_R05_Own_ac h2) (.cons (.rp (.cons (Wk.nil _ _) (.cons (Wk.nil _ _) (.cons (Wk.sl (.cons (.cons (Wk.refl _) (.cons (Wk.ro (Wk.refl _)) .nil)) .nil)) .nil)))) .nil)) (okT p_R05_Own_ok)) ?_
    rintro _ rfl
    exact nomatch hF
  · replace hF := optS hF
    refine dvC (l_call (B := true) (FnI.mk' (by kernel_rfl)) (.cons (.ad _ _ _ _) (.one (.ad rfl rfl rfl (cl1 (.v _) (cl1 (.v _) (cl1 (.sl _ _ (cr1 (cl1 (.v _) (cl1 (.ro _ rfl) (cl0 (b := true)))) cr0)) (cl0 (b := true))))))) .nil) (AC.rd (p_R05_Own_ac h2) (.cons (.rp (.cons (Wk.nil _ _) (.cons (Wk.nil _ _) (.cons (Wk.sl (.cons (.cons (Wk.refl _) (.cons (Wk.ro (Wk.refl _)) .nil)) .nil)) .nil)))) .nil)) (okT p_R05_Own_ok)) ?_
    rintro _ rfl
    refine dv1 (l_nil rfl) (dv1 (l_field fd26_2 rfl) (dvG (le_open 384 0 rfl rfl rfl) ?_))
    refine dv1 (l_load ty24 rfl rfl rfl rfl rfl) ?_
    obtain ⟨x4, h5, hF⟩ := bindE hF
    refine dv1 (l_index 0 sl24 rfl rfl rfl (lt_at MFun.ct h5)) (dvG (le_open 578 0 rfl (map_at h5) rfl) ?_)
    refine dv1 (l_loadA ty31 rfl rfl (set_at h5) rfl rfl) (dvS (l_store ty31 rfl (.ag _) rfl rfl rfl (Nat.le_of_ble_eq_true rfl) rfl) (dvE (q_seq (w_ret ?_))))
    cases hF
    refine q_end (.inr rfl) ?_
    exact ret_ok rfl (.cons (.cellA ty31 rfl rfl rfl (.cons (.of (.v _)) (.cons (.of (.rf rfl rfl (clm k_MBlkct _))) .nil))) .nil) (by decide) rfl

def p_R04_To (a0 : Int) (a1 : List Int) : Option Int :=
(((bif decide ((0 : Int) ≤ a0) then
some (decide (a0 < ((a1.length : Nat) : Int)))
else
some false)).bind fun (s2 : Bool) =>
(bif s2 then
((atI a1 a0).bind fun x6 =>
some x6)
else
some a0))

theorem p_R04_To_ok {r : Int} : rOk (.v (.int .i64 r)) = true ∧ FrT (.v (.int .i64 r)) := ⟨rfl, (.one (.cl (.v _)))⟩

set_option maxRecDepth 10000 in
set_option maxHeartbeats 4000000 in
theorem p_R04_To_ac {a0 : Int} {a1 : List Int} {r : Int} (hF : p_R04_To a0 a1 = some r) : AC Tryd.prog GT 24 [.v (.int .i64 a0), .sl 3 1 (a1.map iC)] (fun c => c = .v (.int .i64 r)) := by
  unfold p_R04_To at hF
  refine AC.mk (nt := 18) Tryd.func24 rfl rfl rfl fun w N => ?_
  refine w_seq (w_region (by rfl) (dv1 (l_assign (.v _)) (dvE (q_seq (w_seq ?_)))))
  obtain ⟨s2, hF, hG3⟩ := bindE hF
  refine w_seqJ ⟨[(0, .v (.int .i64 a0)), (1, .ro (.sl 3 1 (a1.map iC))), (12, .v (.bool s2))], [], 1⟩ ?_ ?_
  · refine w_region (by rfl) (dv1 (l_move (.v _)) (dv1 (l_bin rfl rfl b_geq) (dv1 (l_move (.v _)) ?_)))
    rcases condE hF with ⟨b4, hF⟩ | ⟨b4, hF⟩
    · refine dv1 (l_gT rfl rfl (gt rfl b4) fun _ => l_move (.v _)) (dv1 (l_gT rfl rfl (gt rfl b4) fun _ => l_move (.ro _)) (dv1 (l_gT rfl rfl (gt rfl b4) fun _ => l_lenRo sl27 rfl rfl (List.length_map _)) (dv1 (l_gT rfl rfl (gt rfl b4) fun _ => l_bin rfl rfl b_lss) (dv1 (l_pickT (gt rfl b4) (.v _)) (dvE ?_)))))
      cases hF
      refine q_join ?_
      exact (le_of [] rfl (.s (.s (.s .nil rfl) rfl) rfl) .nil)
    · refine dv1 (l_gF rfl rfl (gt rfl b4) rfl) (dv1 (l_gF rfl rfl (gt rfl b4) rfl) (dv1 (l_gF rfl rfl (gt rfl b4) rfl) (dv1 (l_gF rfl rfl (gt rfl b4) rfl) (dv1 (l_pickF (gt rfl b4) (.v _)) (dvE ?_)))))
      cases hF
      refine q_join ?_
      exact (le_of [] rfl (.s (.s (.s .nil rfl) rfl) rfl) .nil)
  replace hF := hG3
  rcases condE hF with ⟨b5, hF⟩ | ⟨b5, hF⟩
  · refine w_condT rfl b5 ?_
    refine w_seq (w_region (by rfl) (dv1 (l_move (.ro _)) (dv1 (l_move (.v _)) ?_)))
    obtain ⟨x6, h7, hF⟩ := bindE hF
    refine dv1 (l_indexRo a0.toNat sl27 rfl rfl (atI_z h7) (map_at (atI_at h7))) (dv1 (l_loadRo ty3 rfl rfl) (dv1 (l_assign (.v _)) (dvE (q_seq (w_ret (q_reS ?_))))))
    cases hF
    refine q_end (.inr rfl) ?_
    exact ret_ok rfl (.cons (.tmp (.v _) (.v _)) .nil) (by decide) rfl
  · refine w_condF rfl b5 ?_
    refine w_skip (q_seq (w_seq (w_region (by rfl) (dv1 (l_move (.v _)) (dv1 (l_assign (.v _)) (dvE (q_seq (w_ret ?_))))))))
    cases hF
    refine q_end (.inr rfl) ?_
    exact ret_ok rfl (.cons (.tmp (.v _) (.v _)) .nil) (by decide) rfl

def p_R04_All (a0 : List Int) (a1 : List Int) : Option ((List Int)) :=
(((loop (fun (s3004 : (List Int) × Nat) =>
(bif decide (s3004.2 < a0.length) then
((a0[s3004.2]?).bind fun x3010 =>
((p_R04_To x3010 a1).bind fun y3012 =>
(ck ((s3004.1.length + 1) * 8 ≤ 140737488355328)
(some (Xt.go ((s3004.1 ++ [y3012]), (s3004.2 + 1)))))))
else
some (Xt.out s3004.1))) Fu (([] : List Int), 0))).bind fun (s2 : (List Int)) =>
some s2)

theorem p_R04_All_ok {r : (List Int)} : rOk (.sl 3 1 (r.map iC)) = true ∧ FrT (.sl 3 1 (r.map iC)) := ⟨rfl, (.one (.cl (.sl _ _ (clm k_iC _))))⟩

set_option maxRecDepth 10000 in
set_option maxHeartbeats 4000000 in
theorem p_R04_All_ac {a0 : List Int} {a1 : List Int} {r : (List Int)} (hF : p_R04_All a0 a1 = some r) : AC Tryd.prog GT 26 [.sl 3 1 (a0.map iC), .sl 3 1 (a1.map iC)] (fun c => c = .sl 3 1 (r.map iC)) := by
  unfold p_R04_All at hF
  refine AC.mk (nt := 24) Tryd.func26 rfl rfl rfl fun w N => ?_
  refine w_seq (w_region (by rfl) (dv1 (l_assign (.v _)) (dvE (q_seq (w_seq (w_region (by rfl) (dvN (l_bs0 sl27 zt3 rfl (by decide)) (dv1 (l_assign (.rf _ _ _ _)) ?_))))))))
  refine dvE (q_seq ?_)
  obtain ⟨s2, hF, hG3⟩ := bindE hF
  refine w_seqJ ⟨[(5, .rf 0 0 ((s2.map iC).length) 1)], [(0, some ⟨3, 1, s2.map iC⟩)], 1⟩ ?_ ?_
  · refine w_seq (w_region (by rfl) (dv1 (l_assign (.v _)) (dvE (q_seq (w_block (w_loopF hF (fun (s3004 : (List Int) × Nat) => ⟨[(0, .ro (.sl 3 1 (a0.map iC))), (1, .ro (.sl 3 1 (a1.map iC))), (5, .rf 0 0 ((s3004.1.map iC).length) 1), (6, .v (.int .i64 ((s3004.2 : Nat) : Int)))], [(0, some ⟨3, 1, s3004.1.map iC⟩)], 1⟩) (le_of [(0, some 64)] rfl (.s (.s (.s (.s .nil rfl) rfl) rfl) rfl) (.row rfl rfl rfl (clm k_iC _) .nil)) ?_))))))
    intro s3004 y3005 hF hx3006
    refine w_seq (w_seq (w_region (by rfl) (dv1 (l_move (.v _)) (dv1 (l_move (.ro _)) (dv1 (l_lenRo sl27 rfl rfl (List.length_map _)) (dv1 (l_bin rfl rfl b_lssN) (dvE (q_seq ?_))))))))
    rcases condE hF with ⟨b3008, hF⟩ | ⟨b3008, hF⟩
    · refine w_lenS 0 rfl fun l3009 => ?_
      refine w_condT rfl b3008 ?_
      refine w_skip (q_seq (w_seq (w_block (w_region (by rfl) (dv1 (l_move (.rf _ _ _ _)) (dv1 (l_move (.ro _)) (dv1 (l_move (.v _)) ?_)))))))
      obtain ⟨x3010, h3011, hF⟩ := bindE hF
      refine dv1 (l_indexRo s3004.2 sl27 rfl rfl rfl (map_at h3011)) (dv1 (l_loadRo ty3 rfl rfl) (dv1 (l_move (.ro _)) ?_))
      obtain ⟨y3012, h3013, hF⟩ := bindE hF
      refine dvC (l_call (B := false) (FnI.mk' (by kernel_rfl)) (.cons (.v _) (.one (.v _)) (.cons (.ro _) (.one (.ro _)) .nil)) (p_R04_To_ac h3013) (okF p_R04_To_ok)) ?_
      rintro _ rfl
      refine dvN (l_bs1 sl27 zt3 rfl (.v _) rfl rfl rfl (by decide) (by decide)) ?_
      obtain ⟨c3014, hF⟩ := ckE hF
      refine dvN3 (l_app1R el27 rfl rfl rfl rfl rfl rfl (by decide) (map_snoc iC _ y3012) (List.length_map _) (by simpa using c3014) (by decide)) ?_
      refine dv1 (l_assign (.rf _ _ _ _)) (dvE (q_in (q_seq (w_region (by rfl) (dv1 (l_move (.v _)) (dv1 (l_bin rfl rfl (b_incN (of_decide_eq_true b3008) l3009)) (dv1 (l_assign (.v _)) (dvE ?_))))))))
      cases hF
      refine qL rfl ?_
      exact (le_of [(0, some 832)] rfl (.s (.s (.cons (.rf _ _ _ _) (.rf rfl (by simp)) (.s .nil rfl)) rfl) rfl) (.row rfl rfl rfl (clm k_iC _) .nil))
    · refine w_condF rfl b3008 ?_
      refine w_exit ?_
      cases hF
      cases hx3006 _ rfl
      refine q_exS (q_exS (q_here (q_join ?_)))
      exact (le_of [(0, some 0)] rfl (.s .nil rfl) (.row rfl rfl rfl (clm k_iC _) .nil))
  replace hF := hG3
  refine w_seq (w_region (by rfl) (dv1 (l_move (.rf _ _ _ _)) (dv1 (l_assign (.rf _ _ _ _)) (dvE (q_seq (w_ret ?_))))))
  cases hF
  refine q_end (.inr rfl) ?_
  exact ret_ok rfl (.cons (.tmp (.rf _ _ _ _) (.rf rfl rfl (clm k_iC _))) .nil) (by decide) rfl

def p_R04_Renamed (a0 : MOp) (a1 : List Int) : Option MOp :=
((p_R04_Plain a0).bind fun y1 =>
((((p_R04_Has y1.K 65).bind fun y6 =>
(bif y6 then
((p_R04_To y1.A a1).bind fun y9 =>
some y9)
else
some y1.A))).bind fun (s4 : Int) =>
((((p_R04_Has y1.K 66).bind fun y14 =>
(bif y14 then
((p_R04_To y1.B a1).bind fun y17 =>
some y17)
else
some y1.B))).bind fun (s12 : Int) =>
((((p_R04_Has y1.K 67).bind fun y22 =>
(bif y22 then
((p_R04_To y1.C a1).bind fun y25 =>
some y25)
else
some y1.C))).bind fun (s20 : Int) =>
((((p_R04_Has y1.K 76).bind fun y30 =>
(bif y30 then
((p_R04_All y1.L a1).bind fun y33 =>
some y33)
else
some y1.L))).bind fun (s28 : (List Int)) =>
some (⟨y1.K, s4, s12, s20, y1.N, y1.S, s28, y1.Stack⟩ : MOp))))))

theorem p_R04_Renamed_ok {r : MOp} : rOk (.ag (MOp.ct r)) = true ∧ FrT (.ag (MOp.ct r)) := ⟨rfl, (.one (.ag (k_MOpct _)))⟩

set_option maxRecDepth 10000 in
set_option maxHeartbeats 4000000 in
theorem p_R04_Renamed_ac {a0 : MOp} {a1 : List Int} {r : MOp} (hF : p_R04_Renamed a0 a1 = some r) : AC Tryd.prog GT 23 [.ag (MOp.ct a0), .sl 3 1 (a1.map iC)] (fun c => c = .ag (MOp.ct r)) := by
  unfold p_R04_Renamed at hF
  refine AC.mk (nt := 40) Tryd.func23 rfl rfl rfl fun w N => ?_
  refine w_seq (w_region (by rfl) (dvN (l_box (.ag _) rfl rfl) (dvN (l_alloc zt49) (dvE (q_seq (w_seq (w_region (by rfl) (dv1 (l_loadA ty49 rfl rfl rfl rfl rfl) ?_))))))))
  obtain ⟨y1, h2, hF⟩ := bindE hF
  refine dvC (l_call (B := false) (FnI.mk' (by kernel_rfl)) (.cons (.ag _) (.ag (.cons (.v _) (.cons (.v _) (.cons (.v _) (.cons (.v _) (.cons (.v _) (.cons (.v _) (.cons (.ro _) (.cons (.v _) .nil))))))))) .nil) (p_R04_Plain_ac h2) (okF p_R04_Plain_ok)) ?_
  rintro _ rfl
  refine dvS (l_store ty49 rfl (.ag _) rfl rfl rfl (Nat.le_of_ble_eq_true rfl) rfl) (dvE (q_seq ?_))
  obtain ⟨s4, hF, hG5⟩ := bindE hF
  refine w_seqJ ⟨[(1, .ro (.sl 3 1 (a1.map iC))), (2, .ad 0 8 0 0), (4, .ad 2 8 0 0)], [(0, some ⟨49, 8, [[.v (.int .i64 y1.K), .v (.int .i64 s4), .v (.int .i64 y1.B), .v (.int .i64 y1.C), .v (.int .i64 y1.N), .v (.string y1.S), .rf 1 0 ((y1.L.map iC).length) 1, .v (.bool y1.Stack)]]⟩), (1, some ⟨3, 1, y1.L.map iC⟩), (2, some ⟨49, 8, [[.v (.int .i64 0), .v (.int .i64 0), .v (.int .i64 0), .v (.int .i64 0), .v (.int .i64 0), .v (.string ⟨#[]⟩), .v (.slice none 0 0), .v (.bool false)]]⟩)], 1⟩ ?_ ?_
  · refine w_seq (w_region (by rfl) (dv1 (l_field fd49_0 rfl) (dv1 (l_load ty3 rfl rfl rfl rfl rfl) ?_)))
    obtain ⟨y6, h7, hF⟩ := bindE hF
    refine dvC (l_call (B := false) (FnI.mk' (by kernel_rfl)) (.cons (.v _) (.one (.v _)) (.cons (.v _) (.one (.v _)) .nil)) (p_R04_Has_ac h7) (okF p_R04_Has_ok)) ?_
    rintro _ rfl
    refine dvE (q_seq ?_)
    rcases condE hF with ⟨b8, hF⟩ | ⟨b8, hF⟩
    · refine w_condT rfl b8 ?_
      refine w_region (by rfl) (dv1 (l_field fd49_1 rfl) (dv1 (l_load ty3 rfl rfl rfl rfl rfl) (dv1 (l_move (.ro _)) ?_)))
      obtain ⟨y9, h10, hF⟩ := bindE hF
      refine dvC (l_call (B := false) (FnI.mk' (by kernel_rfl)) (.cons (.v _) (.one (.v _)) (.cons (.ro _) (.one (.ro _)) .nil)) (p_R04_To_ac h10) (okF p_R04_To_ok)) ?_
      rintro _ rfl
      refine dv1 (l_field fd49_1 rfl) (dvS (l_store ty3 rfl (.v _) rfl rfl rfl (Nat.le_of_ble_eq_true rfl) rfl) (dvE ?_))
      cases hF
      refine q_join ?_
      exact (le_of [(0, some 0), (1, some 198), (2, some 64)] rfl (.s (.s (.s .nil rfl) rfl) rfl) (.box rfl rfl (.s rfl) (.row rfl rfl rfl (clm k_iC _) (.box rfl rfl (.s rfl) .nil))))
    · refine w_condF rfl b8 ?_
      refine w_skip ?_
      cases hF
      refine q_join ?_
      exact (le_of [(0, some 0), (1, some 198), (2, some 64)] rfl (.s (.s (.s .nil rfl) rfl) rfl) (.box rfl rfl (.s rfl) (.row rfl rfl rfl (clm k_iC _) (.box rfl rfl (.s rfl) .nil))))
  replace hF := hG5
  obtain ⟨s12, hF, hG13⟩ := bindE hF
  refine w_seqJ ⟨[(1, .ro (.sl 3 1 (a1.map iC))), (2, .ad 0 8 0 0), (4, .ad 2 8 0 0)], [(0, some ⟨49, 8, [[.v (.int .i64 y1.K), .v (.int .i64 s4), .v (.int .i64 s12), .v (.int .i64 y1.C), .v (.int .i64 y1.N), .v (.string y1.S), .rf 1 0 ((y1.L.map iC).length) 1, .v (.bool y1.Stack)]]⟩), (1, some ⟨3, 1, y1.L.map iC⟩), (2, some ⟨49, 8, [[.v (.int .i64 0), .v (.int .i64 0), .v (.int .i64 0), .v (.int .i64 0), .v (.int .i64 0), .v (.string ⟨#[]⟩), .v (.slice none 0 0), .v (.bool false)]]⟩)], 1⟩ ?_ ?_
  · refine w_seq (w_region (by rfl) (dv1 (l_field fd49_0 rfl) (dv1 (l_load ty3 rfl rfl rfl rfl rfl) ?_)))
    obtain ⟨y14, h15, hF⟩ := bindE hF
    refine dvC (l_call (B := false) (FnI.mk' (by kernel_rfl)) (.cons (.v _) (.one (.v _)) (.cons (.v _) (.one (.v _)) .nil)) (p_R04_Has_ac h15) (okF p_R04_Has_ok)) ?_
    rintro _ rfl
    refine dvE (q_seq ?_)
    rcases condE hF with ⟨b16, hF⟩ | ⟨b16, hF⟩
    · refine w_condT rfl b16 ?_
      refine w_region (by rfl) (dv1 (l_field fd49_2 rfl) (dv1 (l_load ty3 rfl rfl rfl rfl rfl) (dv1 (l_move (.ro _)) ?_)))
      obtain ⟨y17, h18, hF⟩ := bindE hF
      refine dvC (l_call (B := false) (FnI.mk' (by kernel_rfl)) (.cons (.v _) (.one (.v _)) (.cons (.ro _) (.one (.ro _)) .nil)) (p_R04_To_ac h18) (okF p_R04_To_ok)) ?_
      rintro _ rfl
      refine dv1 (l_field fd49_2 rfl) (dvS (l_store ty3 rfl (.v _) rfl rfl rfl (Nat.le_of_ble_eq_true rfl) rfl) (dvE ?_))
      cases hF
      refine q_join ?_
      exact (le_of [(0, some 0), (1, some 1), (2, some 2)] rfl (.s (.s (.s .nil rfl) rfl) rfl) (.box rfl rfl (.s rfl) (.row rfl rfl rfl (clm k_iC _) (.box rfl rfl (.s rfl) .nil))))
    · refine w_condF rfl b16 ?_
      refine w_skip ?_
      cases hF
      refine q_join ?_
      exact (le_of [(0, some 0), (1, some 1), (2, some 2)] rfl (.s (.s (.s .nil rfl) rfl) rfl) (.box rfl rfl (.s rfl) (.row rfl rfl rfl (clm k_iC _) (.box rfl rfl (.s rfl) .nil))))
  replace hF := hG13
  obtain ⟨s20, hF, hG21⟩ := bindE hF
  refine w_seqJ ⟨[(1, .ro (.sl 3 1 (a1.map iC))), (2, .ad 0 8 0 0), (4, .ad 2 8 0 0)], [(0, some ⟨49, 8, [[.v (.int .i64 y1.K), .v (.int .i64 s4), .v (.int .i64 s12), .v (.int .i64 s20), .v (.int .i64 y1.N), .v (.string y1.S), .rf 1 0 ((y1.L.map iC).length) 1, .v (.bool y1.Stack)]]⟩), (1, some ⟨3, 1, y1.L.map iC⟩), (2, some ⟨49, 8, [[.v (.int .i64 0), .v (.int .i64 0), .v (.int .i64 0), .v (.int .i64 0), .v (.int .i64 0), .v (.string ⟨#[]⟩), .v (.slice none 0 0), .v (.bool false)]]⟩)], 1⟩ ?_ ?_
  · refine w_seq (w_region (by rfl) (dv1 (l_field fd49_0 rfl) (dv1 (l_load ty3 rfl rfl rfl rfl rfl) ?_)))
    obtain ⟨y22, h23, hF⟩ := bindE hF
    refine dvC (l_call (B := false) (FnI.mk' (by kernel_rfl)) (.cons (.v _) (.one (.v _)) (.cons (.v _) (.one (.v _)) .nil)) (p_R04_Has_ac h23) (okF p_R04_Has_ok)) ?_
    rintro _ rfl
    refine dvE (q_seq ?_)
    rcases condE hF with ⟨b24, hF⟩ | ⟨b24, hF⟩
    · refine w_condT rfl b24 ?_
      refine w_region (by rfl) (dv1 (l_field fd49_3 rfl) (dv1 (l_load ty3 rfl rfl rfl rfl rfl) (dv1 (l_move (.ro _)) ?_)))
      obtain ⟨y25, h26, hF⟩ := bindE hF
      refine dvC (l_call (B := false) (FnI.mk' (by kernel_rfl)) (.cons (.v _) (.one (.v _)) (.cons (.ro _) (.one (.ro _)) .nil)) (p_R04_To_ac h26) (okF p_R04_To_ok)) ?_
      rintro _ rfl
      refine dv1 (l_field fd49_3 rfl) (dvS (l_store ty3 rfl (.v _) rfl rfl rfl (Nat.le_of_ble_eq_true rfl) rfl) (dvE ?_))
      cases hF
      refine q_join ?_
      exact (le_of [(0, some 0), (1, some 1), (2, some 2)] rfl (.s (.s (.s .nil rfl) rfl) rfl) (.box rfl rfl (.s rfl) (.row rfl rfl rfl (clm k_iC _) (.box rfl rfl (.s rfl) .nil))))
    · refine w_condF rfl b24 ?_
      refine w_skip ?_
      cases hF
      refine q_join ?_
      exact (le_of [(0, some 0), (1, some 1), (2, some 2)] rfl (.s (.s (.s .nil rfl) rfl) rfl) (.box rfl rfl (.s rfl) (.row rfl rfl rfl (clm k_iC _) (.box rfl rfl (.s rfl) .nil))))
  replace hF := hG21
  obtain ⟨s28, hF, hG29⟩ := bindE hF
  refine w_seqJ ⟨[(2, .ad 0 8 0 0), (4, .ad 2 8 0 0)], [(0, some ⟨49, 8, [[.v (.int .i64 y1.K), .v (.int .i64 s4), .v (.int .i64 s12), .v (.int .i64 s20), .v (.int .i64 y1.N), .v (.string y1.S), .rf 1 0 ((s28.map iC).length) 1, .v (.bool y1.Stack)]]⟩), (1, some ⟨3, 1, s28.map iC⟩), (2, some ⟨49, 8, [[.v (.int .i64 0), .v (.int .i64 0), .v (.int .i64 0), .v (.int .i64 0), .v (.int .i64 0), .v (.string ⟨#[]⟩), .v (.slice none 0 0), .v (.bool false)]]⟩)], 1⟩ ?_ ?_
  · refine w_seq (w_region (by rfl) (dv1 (l_field fd49_0 rfl) (dv1 (l_load ty3 rfl rfl rfl rfl rfl) ?_)))
    obtain ⟨y30, h31, hF⟩ := bindE hF
    refine dvC (l_call (B := false) (FnI.mk' (by kernel_rfl)) (.cons (.v _) (.one (.v _)) (.cons (.v _) (.one (.v _)) .nil)) (p_R04_Has_ac h31) (okF p_R04_Has_ok)) ?_
    rintro _ rfl
    refine dvE (q_seq ?_)
    rcases condE hF with ⟨b32, hF⟩ | ⟨b32, hF⟩
    · refine w_condT rfl b32 ?_
      refine w_region (by rfl) (dv1 (l_field fd49_6 rfl) (dv1 (l_load ty27 rfl rfl rfl rfl rfl) (dv1 (l_move (.ro _)) ?_)))
      obtain ⟨y33, h34, hF⟩ := bindE hF
      refine dvC (l_call (B := true) (FnI.mk' (by kernel_rfl)) (.cons (.rf _ _ _ _) (.one (.rf rfl rfl rfl (clm k_iC _))) (.cons (.ro _) (.one (.ro _)) .nil)) (p_R04_All_ac h34) (okT p_R04_All_ok)) ?_
      rintro _ rfl
      refine dv1 (l_field fd49_6 rfl) (dvS (l_store ty27 rfl (.rf _ _ _ _) rfl rfl rfl (Nat.le_of_ble_eq_true rfl) rfl) (dvE ?_))
      cases hF
      refine q_join ?_
      exact (le_of [(0, some 0), (1, some 448), (2, some 2)] rfl (.s (.s .nil rfl) rfl) (.box rfl rfl (.s rfl) (.row rfl rfl rfl (clm k_iC _) (.box rfl rfl (.s rfl) .nil))))
    · refine w_condF rfl b32 ?_
      refine w_skip ?_
      cases hF
      refine q_join ?_
      exact (le_of [(0, some 0), (1, some 1), (2, some 2)] rfl (.s (.s .nil rfl) rfl) (.box rfl rfl (.s rfl) (.row rfl rfl rfl (clm k_iC _) (.box rfl rfl (.s rfl) .nil))))
  replace hF := hG29
  refine w_seq (w_region (by rfl) (dv1 (l_loadA ty49 rfl rfl rfl rfl rfl) (dvS (l_store ty49 rfl (.ag _) rfl rfl rfl (Nat.le_of_ble_eq_true rfl) rfl) (dvE (q_seq (w_ret ?_))))))
  cases hF
  refine q_end (.inr rfl) ?_
  exact ret_ok rfl (.cons (.cellA ty49 rfl rfl rfl (.cons (.of (.v _)) (.cons (.of (.v _)) (.cons (.of (.v _)) (.cons (.of (.v _)) (.cons (.of (.v _)) (.cons (.of (.v _)) (.cons (.of (.rf rfl rfl (clm k_iC _))) (.cons (.of (.v _)) .nil))))))))) .nil) (by decide) rfl

def p_R16_Name (a0 : Int) (a1 : List Int) : Option Int :=
(nilC a1
(some a0)
((((bif decide (a0 < 0) then
some true
else
some (decide (((a1.length : Nat) : Int) ≤ a0)))).bind fun (s5 : Bool) =>
(bif s5 then
some (-1)
else
((atI a1 a0).bind fun x9 =>
some x9)))))

theorem p_R16_Name_ok {r : Int} : rOk (.v (.int .i64 r)) = true ∧ FrT (.v (.int .i64 r)) := ⟨rfl, (.one (.cl (.v _)))⟩

set_option maxRecDepth 10000 in
set_option maxHeartbeats 4000000 in
theorem p_R16_Name_ac {a0 : Int} {a1 : List Int} {r : Int} (hF : p_R16_Name a0 a1 = some r) : AC Tryd.prog GT 25 [.v (.int .i64 a0), .sl 3 1 (a1.map iC)] (fun c => c = .v (.int .i64 r)) := by
  unfold p_R16_Name at hF
  refine AC.mk (nt := 20) Tryd.func25 rfl rfl rfl fun w N => ?_
  refine w_seq (w_region (by rfl) (dv1 (l_assign (.v _)) (dvE (q_seq (w_seq (w_seq (w_region (by rfl) (dv1 (l_move (.ro _)) ?_))))))))
  refine dvB (l_nilRoS sl27 rfl) fun n1 hn2 => ?_
  refine dvE (q_seq ?_)
  rcases Bool.eq_false_or_eq_true n1 with b3 | b3
  · replace hF := (nilE hF).1 (nil_of (hn2 b3))
    refine w_condT rfl b3 ?_
    refine w_seq (w_region (by rfl) (dv1 (l_move (.v _)) (dv1 (l_assign (.v _)) (dvE (q_seq (w_ret (q_reS ?_)))))))
    cases hF
    refine q_end (.inr rfl) ?_
    exact ret_ok rfl (.cons (.tmp (.v _) (.v _)) .nil) (by decide) rfl
  · replace hF := (nilE hF).2
    refine w_condF rfl b3 ?_
    refine w_skip (q_seq (w_seq ?_))
    obtain ⟨s5, hF, hG6⟩ := bindE hF
    refine w_seqJ ⟨[(0, .v (.int .i64 a0)), (1, .ro (.sl 3 1 (a1.map iC))), (15, .v (.bool s5))], [], 1⟩ ?_ ?_
    · refine w_region (by rfl) (dv1 (l_move (.v _)) (dv1 (l_bin rfl rfl b_lss) (dv1 (l_move (.v _)) ?_)))
      rcases condE hF with ⟨b7, hF⟩ | ⟨b7, hF⟩
      · refine dv1 (l_gF rfl rfl (gt rfl b7) rfl) (dv1 (l_gF rfl rfl (gt rfl b7) rfl) (dv1 (l_gF rfl rfl (gt rfl b7) rfl) (dv1 (l_gF rfl rfl (gt rfl b7) rfl) (dv1 (l_pickT (gt rfl b7) (.v _)) (dvE ?_)))))
        cases hF
        refine q_join ?_
        exact (le_of [] rfl (.s (.s (.s .nil rfl) rfl) rfl) .nil)
      · refine dv1 (l_gT rfl rfl (gt rfl b7) fun _ => l_move (.v _)) (dv1 (l_gT rfl rfl (gt rfl b7) fun _ => l_move (.ro _)) (dv1 (l_gT rfl rfl (gt rfl b7) fun _ => l_lenRo sl27 rfl rfl (List.length_map _)) (dv1 (l_gT rfl rfl (gt rfl b7) fun _ => l_bin rfl rfl b_geq) (dv1 (l_pickF (gt rfl b7) (.v _)) (dvE ?_)))))
        cases hF
        refine q_join ?_
        exact (le_of [] rfl (.s (.s (.s .nil rfl) rfl) rfl) .nil)
    replace hF := hG6
    rcases condE hF with ⟨b8, hF⟩ | ⟨b8, hF⟩
    · refine w_condT rfl b8 ?_
      refine w_seq (w_region (by rfl) (dv1 (l_assign (.v _)) (dvE (q_seq (w_ret (q_reS ?_))))))
      cases hF
      refine q_end (.inr rfl) ?_
      exact ret_ok rfl (.cons (.tmp (.v _) (.v _)) .nil) (by decide) rfl
    · refine w_condF rfl b8 ?_
      refine w_skip (q_seq (w_seq (w_region (by rfl) (dv1 (l_move (.ro _)) (dv1 (l_move (.v _)) ?_)))))
      obtain ⟨x9, h10, hF⟩ := bindE hF
      refine dv1 (l_indexRo a0.toNat sl27 rfl rfl (atI_z h10) (map_at (atI_at h10))) (dv1 (l_loadRo ty3 rfl rfl) (dv1 (l_assign (.v _)) (dvE (q_seq (w_ret ?_)))))
      cases hF
      refine q_end (.inr rfl) ?_
      exact ret_ok rfl (.cons (.tmp (.v _) (.v _)) .nil) (by decide) rfl

def p_R16_Rename (a0 : MFun) (a1 : List Int) (a2 : List Int) : Option MFun :=
((p_R16_Own a0).bind fun y1 =>
(((loop (fun (s3006 : (List MBlk) × Nat) =>
(bif decide (s3006.2 < s3006.1.length) then
((((s3006.1[s3006.2]?).bind fun x3015 =>
(((loop (fun (s6020 : (List MOp) × Nat) =>
(bif decide (s6020.2 < s6020.1.length) then
((s6020.1[s6020.2]?).bind fun x6026 =>
((p_R04_Renamed x6026 a1).bind fun y6028 =>
some (Xt.go ((s6020.1.set s6020.2 y6028), (s6020.2 + 1)))))
else
some (Xt.out s6020.1))) Fu (x3015.Ops, 0))).bind fun (s3018 : (List MOp)) =>
(((((bif decide (x3015.End.K = 1) then
some true
else
(bif decide (x3015.End.K = 3) then
some true
else
(bif decide (x3015.End.K = 2) then
some (!(decide (y1.Ret = (-1))))
else
some false)))).bind fun (s6034 : Bool) =>
(bif s6034 then
((p_R04_To x3015.End.A a1).bind fun y6040 =>
some y6040)
else
some x3015.End.A))).bind fun (s6031 : Int) =>
(((((bif decide (x3015.End.K = 0) then
some true
else
some (decide (x3015.End.K = 1)))).bind fun (s6047 : Bool) =>
(bif s6047 then
((p_R16_Name x3015.End.To a2).bind fun y6051 =>
((p_R04_All x3015.End.L a1).bind fun y6053 =>
some (y6051, y6053)))
else
some (x3015.End.To, x3015.End.L)))).bind fun (s6044 : Int × (List Int)) =>
(((bif decide (x3015.End.K = 1) then
((p_R16_Name x3015.End.Else a2).bind fun y6060 =>
((p_R04_All x3015.End.M a1).bind fun y6062 =>
some (y6060, y6062)))
else
some (x3015.End.Else, x3015.End.M))).bind fun (s6057 : Int × (List Int)) =>
some (s3006.1.set s3006.2 (⟨x3015.Params, s3018, (⟨x3015.End.K, s6031, s6044.1, s6057.1, s6044.2, s6057.2⟩ : MEnd)⟩ : MBlk)))))))).bind fun (s3013 : (List MBlk)) =>
some (Xt.go (s3013, (s3006.2 + 1))))
else
some (Xt.out s3006.1))) Fu (y1.Blocks, 0))).bind fun (s4 : (List MBlk)) =>
some (⟨y1.Ret, s4⟩ : MFun)))

theorem p_R16_Rename_ok {r : MFun} : rOk (.ag (MFun.ct r)) = true ∧ FrT (.ag (MFun.ct r)) := ⟨rfl, (.one (.ag (k_MFunct _)))⟩

set_option maxRecDepth 10000 in
set_option maxHeartbeats 4000000 in
theorem p_R16_Rename_ac {a0 : MFun} {a1 : List Int} {a2 : List Int} {r : MFun} (hF : p_R16_Rename a0 a1 a2 = some r) : AC Tryd.prog GT 10 [.ag (MFun.ct a0), .sl 3 1 (a1.map iC), .sl 3 1 (a2.map iC)] (fun c => c = .ag (MFun.ct r)) := by
  unfold p_R16_Rename at hF
  refine AC.mk (nt := 110) Tryd.func10 rfl rfl rfl fun w N => ?_
  refine w_seq (w_region (by rfl) (dvN (l_box (.ag _) rfl rfl) (dvN (l_alloc zt31) (dvE (q_seq (w_seq (w_region (by rfl) (dv1 (l_loadA ty31 rfl rfl rfl rfl rfl) ?_))))))))
  obtain ⟨y1, h2, hF⟩ := bindE hF
  refine dvC (l_call (B := false) (FnI.mk' (by kernel_rfl)) (.cons (.ag _) (.ag (.cons (.v _) (.cons (.ro _) .nil))) .nil) (p_R16_Own_ac h2) (okF p_R16_Own_ok)) ?_
  rintro _ rfl
  refine dvS (l_store ty31 rfl (.ag _) rfl rfl rfl (Nat.le_of_ble_eq_true rfl) rfl) (dvE (q_seq ?_))
  obtain ⟨s4, hF, hG5⟩ := bindE hF
  refine w_seqJ ⟨[(3, .ad 0 2 0 0), (6, .ad 2 2 0 0)], [(0, some ⟨31, 2, [[.v (.int .i64 y1.Ret), .rf 1 0 ((s4.map MBlk.ct).length) 8]]⟩), (1, some ⟨47, 8, s4.map MBlk.ct⟩), (2, some ⟨31, 2, [[.v (.int .i64 0), .v (.slice none 0 0)]]⟩)], 1⟩ ?_ ?_
  · refine w_seq (w_region (by rfl) (dv1 (l_assign (.v _)) (dvE (q_seq (w_block (w_loopF hF (fun (s3006 : (List MBlk) × Nat) => ⟨[(1, .ro (.sl 3 1 (a1.map iC))), (2, .ro (.sl 3 1 (a2.map iC))), (3, .ad 0 2 0 0), (6, .ad 2 2 0 0), (7, .v (.int .i64 ((s3006.2 : Nat) : Int))), (53, .un), (54, .un), (55, .un), (58, .un), (59, .un), (60, .un), (61, .un), (62, .un), (63, .un), (64, .un), (65, .un), (76, .un), (77, .un), (78, .un)], [(0, some ⟨31, 2, [[.v (.int .i64 y1.Ret), .rf 1 0 ((s3006.1.map MBlk.ct).length) 8]]⟩), (1, some ⟨47, 8, s3006.1.map MBlk.ct⟩), (2, some ⟨31, 2, [[.v (.int .i64 0), .v (.slice none 0 0)]]⟩)], 1⟩) (le_of [(0, some 0), (1, some 193), (2, some 64)] rfl (.s (.s (.s (.s (.s (.cons .un (.un _) (.cons .un (.un _) (.cons .un (.un _) (.cons .un (.un _) (.cons .un (.un _) (.cons .un (.un _) (.cons .un (.un _) (.cons .un (.un _) (.cons .un (.un _) (.cons .un (.un _) (.cons .un (.un _) (.cons .un (.un _) (.cons .un (.un _) (.cons .un (.un _) .nil)))))))))))))) rfl) rfl) rfl) rfl) rfl) (.box rfl rfl (.s rfl) (.row rfl rfl rfl (clm k_MBlkct _) (.box rfl rfl (.s rfl) .nil)))) ?_))))))
    intro s3006 y3007 hF hx3008
    refine w_seq (w_seq (w_region (by rfl) (dv1 (l_move (.v _)) (dv1 (l_field fd31_1 rfl) (dv1 (l_load ty29 rfl rfl rfl rfl rfl) (dv1 (l_lenR sl29 rfl rfl (List.length_map _)) (dv1 (l_bin rfl rfl b_lssN) (dvE ?_))))))))
    refine q_seq ?_
    rcases condE hF with ⟨b3010, hF⟩ | ⟨b3010, hF⟩
    · refine w_lenK 1 rfl fun l3011 => ?_
      refine w_condT rfl b3010 ?_
      refine w_skip (q_seq ?_)
      obtain ⟨s3013, hF, hG3014⟩ := bindE hF
      refine w_seqJ ⟨[(1, .ro (.sl 3 1 (a1.map iC))), (2, .ro (.sl 3 1 (a2.map iC))), (3, .ad 0 2 0 0), (6, .ad 2 2 0 0), (7, .v (.int .i64 ((s3006.2 : Nat) : Int))), (53, .un), (54, .un), (55, .un), (58, .un), (59, .un), (60, .un), (61, .un), (62, .un), (63, .un), (64, .un), (65, .un), (76, .un), (77, .un), (78, .un)], [(0, some ⟨31, 2, [[.v (.int .i64 y1.Ret), .rf 1 0 ((s3013.map MBlk.ct).length) 8]]⟩), (1, some ⟨47, 8, s3013.map MBlk.ct⟩), (2, some ⟨31, 2, [[.v (.int .i64 0), .v (.slice none 0 0)]]⟩)], 1⟩ ?_ ?_
      · refine w_block (w_seq (w_region (by rfl) (dv1 (l_field fd31_1 rfl) (dv1 (l_load ty29 rfl rfl rfl rfl rfl) (dv1 (l_move (.v _)) ?_)))))
        obtain ⟨x3015, h3016, hF⟩ := bindE hF
        refine dv1 (l_index s3006.2 sl29 rfl rfl rfl (lt_at MBlk.ct h3016)) (dvG (le_open 1 s3006.2 rfl (map_at h3016) rfl) ?_)
        refine dv1 (l_loadA ty47 rfl rfl (set_at h3016) rfl rfl) (dvN (l_alloc zt47) (dvS (l_store ty47 rfl (.ag _) rfl rfl rfl (Nat.le_of_ble_eq_true rfl) rfl) (dvE (q_seq ?_))))
        obtain ⟨s3018, hF, hG3019⟩ := bindE hF
        refine w_seqJ ⟨[(1, .ro (.sl 3 1 (a1.map iC))), (2, .ro (.sl 3 1 (a2.map iC))), (3, .ad 0 2 0 0), (6, .ad 2 2 0 0), (7, .v (.int .i64 ((s3006.2 : Nat) : Int))), (8, .ad 3 8 0 0), (53, .un), (54, .un), (55, .un), (58, .un), (59, .un), (60, .un), (61, .un), (62, .un), (63, .un), (64, .un), (65, .un), (76, .un), (77, .un), (78, .un)], [(0, some ⟨31, 2, [[.v (.int .i64 y1.Ret), .rf 1 0 ((s3006.1.map MBlk.ct).length) 8]]⟩), (1, some ⟨47, 8, (s3006.1.map MBlk.ct).set s3006.2 [.rf 4 0 ((x3015.Params.map iC).length) 1, .rf 5 0 ((s3018.map MOp.ct).length) 8, .v (.int .i64 x3015.End.K), .v (.int .i64 x3015.End.A), .v (.int .i64 x3015.End.To), .v (.int .i64 x3015.End.Else), .rf 6 0 ((x3015.End.L.map iC).length) 1, .rf 7 0 ((x3015.End.M.map iC).length) 1]⟩), (2, some ⟨31, 2, [[.v (.int .i64 0), .v (.slice none 0 0)]]⟩), (3, some ⟨47, 8, [[.rf 4 0 ((x3015.Params.map iC).length) 1, .rf 5 0 ((s3018.map MOp.ct).length) 8, .v (.int .i64 x3015.End.K), .v (.int .i64 x3015.End.A), .v (.int .i64 x3015.End.To), .v (.int .i64 x3015.End.Else), .rf 6 0 ((x3015.End.L.map iC).length) 1, .rf 7 0 ((x3015.End.M.map iC).length) 1]]⟩), (4, some ⟨3, 1, x3015.Params.map iC⟩), (5, some ⟨49, 8, s3018.map MOp.ct⟩), (6, some ⟨3, 1, x3015.End.L.map iC⟩), (7, some ⟨3, 1, x3015.End.M.map iC⟩)], 1⟩ ?_ ?_
        · refine w_seq (w_region (by rfl) (dv1 (l_assign (.v _)) (dvE (q_seq (w_block (w_loopF hF (fun (s6020 : (List MOp) × Nat) => ⟨[(1, .ro (.sl 3 1 (a1.map iC))), (2, .ro (.sl 3 1 (a2.map iC))), (3, .ad 0 2 0 0), (6, .ad 2 2 0 0), (7, .v (.int .i64 ((s3006.2 : Nat) : Int))), (8, .ad 3 8 0 0), (9, .v (.int .i64 ((s6020.2 : Nat) : Int))), (53, .un), (54, .un), (55, .un), (58, .un), (59, .un), (60, .un), (61, .un), (62, .un), (63, .un), (64, .un), (65, .un), (76, .un), (77, .un), (78, .un)], [(0, some ⟨31, 2, [[.v (.int .i64 y1.Ret), .rf 1 0 ((s3006.1.map MBlk.ct).length) 8]]⟩), (1, some ⟨47, 8, (s3006.1.map MBlk.ct).set s3006.2 [.rf 4 0 ((x3015.Params.map iC).length) 1, .rf 5 0 ((s6020.1.map MOp.ct).length) 8, .v (.int .i64 x3015.End.K), .v (.int .i64 x3015.End.A), .v (.int .i64 x3015.End.To), .v (.int .i64 x3015.End.Else), .rf 6 0 ((x3015.End.L.map iC).length) 1, .rf 7 0 ((x3015.End.M.map iC).length) 1]⟩), (2, some ⟨31, 2, [[.v (.int .i64 0), .v (.slice none 0 0)]]⟩), (3, some ⟨47, 8, [[.rf 4 0 ((x3015.Params.map iC).length) 1, .rf 5 0 ((s6020.1.map MOp.ct).length) 8, .v (.int .i64 x3015.End.K), .v (.int .i64 x3015.End.A), .v (.int .i64 x3015.End.To), .v (.int .i64 x3015.End.Else), .rf 6 0 ((x3015.End.L.map iC).length) 1, .rf 7 0 ((x3015.End.M.map iC).length) 1]]⟩), (4, some ⟨3, 1, x3015.Params.map iC⟩), (5, some ⟨49, 8, s6020.1.map MOp.ct⟩), (6, some ⟨3, 1, x3015.End.L.map iC⟩), (7, some ⟨3, 1, x3015.End.M.map iC⟩)], 1⟩) (le_of [(0, some 0), (1, some 1), (2, some 2), (3, some 768), (4, some 640), (5, some 641), (6, some 646), (7, some 647)] rfl (.s (.s (.s (.s (.s (.s (.s (.cons .un (.un _) (.cons .un (.un _) (.cons .un (.un _) (.cons .un (.un _) (.cons .un (.un _) (.cons .un (.un _) (.cons .un (.un _) (.cons .un (.un _) (.cons .un (.un _) (.cons .un (.un _) (.cons .un (.un _) (.cons .un (.un _) (.cons .un (.un _) (.cons .un (.un _) .nil)))))))))))))) rfl) rfl) rfl) rfl) rfl) rfl) rfl) (.box rfl rfl (.s rfl) (.opn rfl rfl (clm k_MBlkct _) (.s rfl) (.box rfl rfl (.s rfl) (.box rfl rfl (.s rfl) (.row rfl rfl rfl (clm k_iC _) (.row rfl rfl rfl (clm k_MOpct _) (.row rfl rfl rfl (clm k_iC _) (.row rfl rfl rfl (clm k_iC _) .nil))))))))) ?_))))))
          intro s6020 y6021 hF hx6022
          refine w_seq (w_seq (w_region (by rfl) (dv1 (l_move (.v _)) (dv1 (l_field fd47_1 rfl) (dv1 (l_load ty45 rfl rfl rfl rfl rfl) (dv1 (l_lenR sl45 rfl rfl (List.length_map _)) (dv1 (l_bin rfl rfl b_lssN) (dvE ?_))))))))
          refine q_seq ?_
          rcases condE hF with ⟨b6024, hF⟩ | ⟨b6024, hF⟩
          · refine w_lenK 5 rfl fun l6025 => ?_
            refine w_condT rfl b6024 ?_
            refine w_skip (q_seq (w_seq (w_block ?_)))
            obtain ⟨x6026, h6027, hF⟩ := bindE hF
            refine W.le (le_open 5 s6020.2 rfl (map_at h6027) rfl) ?_
            refine w_draw [[], [0], [], [0, 1, 2], [0, 1, 2, 3], [0, 1, 2, 3, 4], [], [], [7], [], [7, 8, 9], [7, 8, 9, 10], [], [7, 8, 9, 10, 11, 12], [0, 1, 2, 3, 4, 5, 6, 7, 8, 9, 10, 11, 12, 13], [0, 1, 2, 3, 4, 5, 6, 7, 8, 9, 10, 11, 12, 13, 14]] [0, 1, 2, 3, 4, 5, 6, 7, 8, 9, 10, 11, 12, 13, 14, 15] (by kernel_rfl) (by rfl) ⟨by decide, by rfl⟩ (by rfl) ?_
            refine de1 rfl (l_field fd31_1 rfl) rfl (de1 rfl (l_load ty29 rfl rfl rfl rfl rfl) rfl (de1 rfl (l_move (.v _)) rfl (de1 rfl (l_index s3006.2 sl29 rfl rfl rfl (lt_at MBlk.ct h3016)) rfl (de1 rfl (l_field fd47_1 rfl) rfl (de1 rfl (l_load ty45 rfl rfl (set_at h3016) rfl rfl) rfl (de1 rfl (l_move (.v _)) rfl (de1 rfl (l_field fd47_1 rfl) rfl (de1 rfl (l_load ty45 rfl rfl rfl rfl rfl) rfl ?_))))))))
            refine de1 rfl (l_move (.v _)) rfl (de1 rfl (l_index s6020.2 sl45 rfl rfl rfl (lt_at MOp.ct h6027)) rfl (de1 rfl (l_loadA ty49 rfl rfl (set_at h6027) rfl rfl) rfl (de1 rfl (l_move (.ro _)) rfl ?_)))
            obtain ⟨y6028, h6029, hF⟩ := bindE hF
            refine deC1 rfl (l_call (B := true) (FnI.mk' (by kernel_rfl)) (.cons (.ag _) (.ag (.cons (.v _) (.cons (.v _) (.cons (.v _) (.cons (.v _) (.cons (.v _) (.cons (.v _) (.cons (.rf rfl rfl rfl (clm k_iC _)) (.cons (.v _) .nil))))))))) (.cons (.ro _) (.one (.ro _)) .nil)) (p_R04_Renamed_ac h6029) (okT p_R04_Renamed_ok)) rfl ?_
            refine de1 rfl (l_index s6020.2 sl45 rfl rfl rfl (lt_at MOp.ct h6027)) rfl (deS rfl (l_storeR ty49 rfl (.ag _) rfl (set_at h6027) rfl (Nat.le_of_ble_eq_true rfl) rfl (List.set_set ..)) rfl (ddE (q_in (q_seq (w_region (by rfl) (dv1 (l_move (.v _)) (dv1 (l_bin rfl rfl (b_incN (of_decide_eq_true b6024) l6025)) (dv1 (l_assign (.v _)) ?_))))))))
            refine dvE ?_
            cases hF
            refine qL rfl ?_
            refine St.le.trans (le_closeR 5 s6020.2 rfl (set_at h6027) (.cons (.of (.v _)) (.cons (.of (.v _)) (.cons (.of (.v _)) (.cons (.of (.v _)) (.cons (.of (.v _)) (.cons (.of (.v _)) (.cons (.of (.rf rfl rfl (clm k_iC _))) (.cons (.of (.v _)) .nil)))))))) (by decide) (by decide) rfl (set_cl MOp.ct _ _ _ y6028)) ?_
            exact (le_of [(0, some 0), (1, some 1), (2, some 2), (3, some 3), (4, some 4), (5, some 5), (6, some 6), (7, some 7)] rfl (.s (.s (.s (.s (.s (.s (.s (.cons .un (.un _) (.cons .un (.un _) (.cons .un (.un _) (.cons .un (.un _) (.cons .un (.un _) (.cons .un (.un _) (.cons .un (.un _) (.cons .un (.un _) (.cons .un (.un _) (.cons .un (.un _) (.cons .un (.un _) (.cons .un (.un _) (.cons .un (.un _) (.cons .un (.un _) .nil)))))))))))))) rfl) rfl) rfl) rfl) rfl) rfl) rfl) (.box rfl rfl (.s rfl) (.opn rfl rfl (clm k_MBlkct _) (.cons (.rf rfl rfl) (.cons (.rf rfl (by simp)) (.cons (.v rfl) (.cons (.v rfl) (.cons (.v rfl) (.cons (.v rfl) (.cons (.rf rfl rfl) (.cons (.rf rfl rfl) .nil)))))))) (.box rfl rfl (.s rfl) (.box rfl rfl (.cons (.rf rfl rfl) (.cons (.rf rfl (by simp)) (.cons (.v rfl) (.cons (.v rfl) (.cons (.v rfl) (.cons (.v rfl) (.cons (.rf rfl rfl) (.cons (.rf rfl rfl) .nil)))))))) (.row rfl rfl rfl (clm k_iC _) (.row rfl rfl rfl (clm k_MOpct _) (.row rfl rfl rfl (clm k_iC _) (.row rfl rfl rfl (clm k_iC _) .nil)))))))))
          · refine w_condF rfl b6024 ?_
            refine w_exit ?_
            cases hF
            cases hx6022 _ rfl
            refine q_exS (q_exS (q_here (q_join ?_)))
            exact (le_of [(0, some 0), (1, some 1), (2, some 2), (3, some 3), (4, some 4), (5, some 5), (6, some 6), (7, some 7)] rfl (.s (.s (.s (.s (.s (.s (.cons .un (.un _) (.cons .un (.un _) (.cons .un (.un _) (.cons .un (.un _) (.cons .un (.un _) (.cons .un (.un _) (.cons .un (.un _) (.cons .un (.un _) (.cons .un (.un _) (.cons .un (.un _) (.cons .un (.un _) (.cons .un (.un _) (.cons .un (.un _) (.cons .un (.un _) .nil)))))))))))))) rfl) rfl) rfl) rfl) rfl) rfl) (.box rfl rfl (.s rfl) (.opn rfl rfl (clm k_MBlkct _) (.s rfl) (.box rfl rfl (.s rfl) (.box rfl rfl (.s rfl) (.row rfl rfl rfl (clm k_iC _) (.row rfl rfl rfl (clm k_MOpct _) (.row rfl rfl rfl (clm k_iC _) (.row rfl rfl rfl (clm k_iC _) .nil)))))))))
        replace hF := hG3019
        refine w_seq (w_region (by rfl) (dv1 (l_field fd47_2 rfl) (dv1 (l_loadA ty44 rfl rfl rfl rfl rfl) (dvN (l_alloc zt44) (dvS (l_store ty44 rfl (.ag _) rfl rfl rfl (Nat.le_of_ble_eq_true rfl) rfl) (dvE (q_seq ?_)))))))
        obtain ⟨s6031, hF, hG6032⟩ := bindE hF
        refine w_seqJ ⟨[(1, .ro (.sl 3 1 (a1.map iC))), (2, .ro (.sl 3 1 (a2.map iC))), (3, .ad 0 2 0 0), (6, .ad 2 2 0 0), (7, .v (.int .i64 ((s3006.2 : Nat) : Int))), (10, .ad 3 6 0 0), (53, .un), (54, .un), (55, .un), (58, .un), (59, .un), (60, .un), (61, .un), (62, .un), (63, .un), (64, .un), (65, .un), (76, .un), (77, .un), (78, .un)], [(0, some ⟨31, 2, [[.v (.int .i64 y1.Ret), .rf 1 0 ((s3006.1.map MBlk.ct).length) 8]]⟩), (1, some ⟨47, 8, (s3006.1.map MBlk.ct).set s3006.2 [.rf 6 0 ((x3015.Params.map iC).length) 1, .rf 7 0 ((s3018.map MOp.ct).length) 8, .v (.int .i64 x3015.End.K), .v (.int .i64 x3015.End.A), .v (.int .i64 x3015.End.To), .v (.int .i64 x3015.End.Else), .rf 4 0 ((x3015.End.L.map iC).length) 1, .rf 5 0 ((x3015.End.M.map iC).length) 1]⟩), (2, some ⟨31, 2, [[.v (.int .i64 0), .v (.slice none 0 0)]]⟩), (3, some ⟨44, 6, [[.v (.int .i64 x3015.End.K), .v (.int .i64 s6031), .v (.int .i64 x3015.End.To), .v (.int .i64 x3015.End.Else), .rf 4 0 ((x3015.End.L.map iC).length) 1, .rf 5 0 ((x3015.End.M.map iC).length) 1]]⟩), (4, some ⟨3, 1, x3015.End.L.map iC⟩), (5, some ⟨3, 1, x3015.End.M.map iC⟩), (6, some ⟨3, 1, x3015.Params.map iC⟩), (7, some ⟨49, 8, s3018.map MOp.ct⟩)], 1⟩ ?_ ?_
        · obtain ⟨s6034, hF, hG6035⟩ := bindE hF
          refine w_seqJ ⟨[(1, .ro (.sl 3 1 (a1.map iC))), (2, .ro (.sl 3 1 (a2.map iC))), (3, .ad 0 2 0 0), (6, .ad 2 2 0 0), (7, .v (.int .i64 ((s3006.2 : Nat) : Int))), (10, .ad 3 6 0 0), (53, .un), (54, .un), (55, .un), (58, .un), (59, .un), (60, .un), (61, .un), (62, .un), (63, .un), (64, .un), (65, .un), (66, .v (.bool s6034)), (76, .un), (77, .un), (78, .un)], [(0, some ⟨31, 2, [[.v (.int .i64 y1.Ret), .rf 1 0 ((s3006.1.map MBlk.ct).length) 8]]⟩), (1, some ⟨47, 8, (s3006.1.map MBlk.ct).set s3006.2 [.rf 6 0 ((x3015.Params.map iC).length) 1, .rf 7 0 ((s3018.map MOp.ct).length) 8, .v (.int .i64 x3015.End.K), .v (.int .i64 x3015.End.A), .v (.int .i64 x3015.End.To), .v (.int .i64 x3015.End.Else), .rf 4 0 ((x3015.End.L.map iC).length) 1, .rf 5 0 ((x3015.End.M.map iC).length) 1]⟩), (2, some ⟨31, 2, [[.v (.int .i64 0), .v (.slice none 0 0)]]⟩), (3, some ⟨44, 6, [[.v (.int .i64 x3015.End.K), .v (.int .i64 x3015.End.A), .v (.int .i64 x3015.End.To), .v (.int .i64 x3015.End.Else), .rf 4 0 ((x3015.End.L.map iC).length) 1, .rf 5 0 ((x3015.End.M.map iC).length) 1]]⟩), (4, some ⟨3, 1, x3015.End.L.map iC⟩), (5, some ⟨3, 1, x3015.End.M.map iC⟩), (6, some ⟨3, 1, x3015.Params.map iC⟩), (7, some ⟨49, 8, s3018.map MOp.ct⟩)], 1⟩ ?_ ?_
          · refine w_region (by rfl) (dv1 (l_field fd44_0 rfl) (dv1 (l_load ty3 rfl rfl rfl rfl rfl) (dv1 (l_bin rfl rfl b_eql) (dv1 (l_move (.v _)) ?_))))
            rcases condE hF with ⟨b6036, hF⟩ | ⟨b6036, hF⟩
            · refine dv1 (l_gF rfl rfl (gt rfl b6036) rfl) (dv1 (l_gF rfl rfl (gt rfl b6036) rfl) (dv1 (l_gF rfl rfl (gt rfl b6036) rfl) (dv1 (l_pickT (gt rfl b6036) (.v _)) (dv1 (l_move (.v _)) (dv1 (l_gF rfl rfl rfl rfl) (dv1 (l_gF rfl rfl rfl rfl) (dv1 (l_gF rfl rfl rfl rfl) (dv1 (l_gF rfl rfl rfl rfl) ?_))))))))
              refine dv1 (l_gU rfl rfl rfl) (dv1 (l_gU rfl rfl rfl) (dv1 (l_gU rfl rfl rfl) (dv1 (l_gF rfl rfl rfl rfl) (dv1 (l_pickT rfl (.v _)) (dvE ?_)))))
              cases hF
              refine q_join ?_
              exact (le_of [(0, some 0), (1, some 1), (2, some 2), (3, some 192), (4, some 6), (5, some 7), (6, some 4), (7, some 5)] rfl (.s (.s (.s (.s (.s (.s (.cons (.v _) (.un _) (.cons (.v _) (.un _) (.cons (.v _) (.un _) (.cons (.v _) (.un _) (.cons (.v _) (.un _) (.cons (.v _) (.un _) (.cons (.v _) (.un _) (.cons (.v _) (.un _) (.cons (.v _) (.un _) (.cons (.v _) (.un _) (.cons (.v _) (.un _) (.s (.cons .un (.un _) (.cons .un (.un _) (.cons .un (.un _) .nil))) rfl)))))))))))) rfl) rfl) rfl) rfl) rfl) rfl) (.box rfl rfl (.s rfl) (.opn rfl rfl (clm k_MBlkct _) (.s rfl) (.box rfl rfl (.s rfl) (.box rfl rfl (.s rfl) (.row rfl rfl rfl (clm k_iC _) (.row rfl rfl rfl (clm k_iC _) (.row rfl rfl rfl (clm k_iC _) (.row rfl rfl rfl (clm k_MOpct _) .nil)))))))))
            · refine dv1 (l_gT rfl rfl (gt rfl b6036) fun _ => l_field fd44_0 rfl) (dv1 (l_gT rfl rfl (gt rfl b6036) fun _ => l_load ty3 rfl rfl rfl rfl rfl) (dv1 (l_gT rfl rfl (gt rfl b6036) fun _ => l_bin rfl rfl b_eql) (dv1 (l_pickF (gt rfl b6036) (.v _)) (dv1 (l_move (.v _)) ?_))))
              rcases condE hF with ⟨b6037, hF⟩ | ⟨b6037, hF⟩
              · refine dv1 (l_gF rfl rfl (gt rfl b6037) rfl) (dv1 (l_gF rfl rfl (gt rfl b6037) rfl) (dv1 (l_gF rfl rfl (gt rfl b6037) rfl) (dv1 (l_gF rfl rfl (gt rfl b6037) rfl) (dv1 (l_gU rfl rfl rfl) (dv1 (l_gU rfl rfl rfl) (dv1 (l_gU rfl rfl rfl) (dv1 (l_gF rfl rfl (gt rfl b6037) rfl) (dv1 (l_pickT (gt rfl b6037) (.v _)) ?_))))))))
                refine dvE ?_
                cases hF
                refine q_join ?_
                exact (le_of [(0, some 0), (1, some 1), (2, some 2), (3, some 192), (4, some 6), (5, some 7), (6, some 4), (7, some 5)] rfl (.s (.s (.s (.s (.s (.s (.cons (.ad _ _ _ _) (.un _) (.cons (.v _) (.un _) (.cons (.v _) (.un _) (.cons (.v _) (.un _) (.cons (.v _) (.un _) (.cons (.v _) (.un _) (.cons (.v _) (.un _) (.cons (.v _) (.un _) (.cons (.v _) (.un _) (.cons (.v _) (.un _) (.cons (.v _) (.un _) (.s (.cons .un (.un _) (.cons .un (.un _) (.cons .un (.un _) .nil))) rfl)))))))))))) rfl) rfl) rfl) rfl) rfl) rfl) (.box rfl rfl (.s rfl) (.opn rfl rfl (clm k_MBlkct _) (.s rfl) (.box rfl rfl (.s rfl) (.box rfl rfl (.s rfl) (.row rfl rfl rfl (clm k_iC _) (.row rfl rfl rfl (clm k_iC _) (.row rfl rfl rfl (clm k_iC _) (.row rfl rfl rfl (clm k_MOpct _) .nil)))))))))
              · refine dv1 (l_gT rfl rfl (gt rfl b6037) fun _ => l_field fd44_0 rfl) (dv1 (l_gT rfl rfl (gt rfl b6037) fun _ => l_load ty3 rfl rfl rfl rfl rfl) (dv1 (l_gT rfl rfl (gt rfl b6037) fun _ => l_bin rfl rfl b_eql) (dv1 (l_gT rfl rfl (gt rfl b6037) fun _ => l_move (.v _)) ?_)))
                rcases condE hF with ⟨b6038, hF⟩ | ⟨b6038, hF⟩
                · refine dv1 (l_gT rfl rfl (gt rfl b6038) fun _ => l_field fd31_0 rfl) (dv1 (l_gT rfl rfl (gt rfl b6038) fun _ => l_load ty3 rfl rfl rfl rfl rfl) (dv1 (l_gT rfl rfl (gt rfl b6038) fun _ => l_bin rfl rfl b_neq) (dv1 (l_gT rfl rfl (gt rfl b6037) fun _ => l_pickT (gt rfl b6038) (.v _)) (dv1 (l_pickF (gt rfl b6037) (.v _)) (dvE ?_)))))
                  cases hF
                  refine q_join ?_
                  exact (le_of [(0, some 0), (1, some 1), (2, some 2), (3, some 192), (4, some 6), (5, some 7), (6, some 4), (7, some 5)] rfl (.s (.s (.s (.s (.s (.s (.cons (.ad _ _ _ _) (.un _) (.cons (.v _) (.un _) (.cons (.v _) (.un _) (.cons (.ad _ _ _ _) (.un _) (.cons (.v _) (.un _) (.cons (.v _) (.un _) (.cons (.v _) (.un _) (.cons (.ad _ _ _ _) (.un _) (.cons (.v _) (.un _) (.cons (.v _) (.un _) (.cons (.v _) (.un _) (.s (.cons .un (.un _) (.cons .un (.un _) (.cons .un (.un _) .nil))) rfl)))))))))))) rfl) rfl) rfl) rfl) rfl) rfl) (.box rfl rfl (.s rfl) (.opn rfl rfl (clm k_MBlkct _) (.s rfl) (.box rfl rfl (.s rfl) (.box rfl rfl (.s rfl) (.row rfl rfl rfl (clm k_iC _) (.row rfl rfl rfl (clm k_iC _) (.row rfl rfl rfl (clm k_iC _) (.row rfl rfl rfl (clm k_MOpct _) .nil)))))))))
                · refine dv1 (l_gF rfl rfl (gt rfl b6038) rfl) (dv1 (l_gF rfl rfl (gt rfl b6038) rfl) (dv1 (l_gF rfl rfl (gt rfl b6038) rfl) (dv1 (l_gT rfl rfl (gt rfl b6037) fun _ => l_pickF (gt rfl b6038) (.v _)) (dv1 (l_pickF (gt rfl b6037) (.v _)) (dvE ?_)))))
                  cases hF
                  refine q_join ?_
                  exact (le_of [(0, some 0), (1, some 1), (2, some 2), (3, some 192), (4, some 6), (5, some 7), (6, some 4), (7, some 5)] rfl (.s (.s (.s (.s (.s (.s (.cons (.ad _ _ _ _) (.un _) (.cons (.v _) (.un _) (.cons (.v _) (.un _) (.cons (.ad _ _ _ _) (.un _) (.cons (.v _) (.un _) (.cons (.v _) (.un _) (.cons (.v _) (.un _) (.cons (.v _) (.un _) (.cons (.v _) (.un _) (.cons (.v _) (.un _) (.cons (.v _) (.un _) (.s (.cons .un (.un _) (.cons .un (.un _) (.cons .un (.un _) .nil))) rfl)))))))))))) rfl) rfl) rfl) rfl) rfl) rfl) (.box rfl rfl (.s rfl) (.opn rfl rfl (clm k_MBlkct _) (.s rfl) (.box rfl rfl (.s rfl) (.box rfl rfl (.s rfl) (.row rfl rfl rfl (clm k_iC _) (.row rfl rfl rfl (clm k_iC _) (.row rfl rfl rfl (clm k_iC _) (.row rfl rfl rfl (clm k_MOpct _) .nil)))))))))
          replace hF := hG6035
          rcases condE hF with ⟨b6039, hF⟩ | ⟨b6039, hF⟩
          · refine w_condT rfl b6039 ?_
            refine w_region (by rfl) (dv1 (l_field fd44_1 rfl) (dv1 (l_load ty3 rfl rfl rfl rfl rfl) (dv1 (l_move (.ro _)) ?_)))
            obtain ⟨y6040, h6041, hF⟩ := bindE hF
            refine dvC (l_call (B := false) (FnI.mk' (by kernel_rfl)) (.cons (.v _) (.one (.v _)) (.cons (.ro _) (.one (.ro _)) .nil)) (p_R04_To_ac h6041) (okF p_R04_To_ok)) ?_
            rintro _ rfl
            refine dv1 (l_field fd44_1 rfl) (dvS (l_store ty3 rfl (.v _) rfl rfl rfl (Nat.le_of_ble_eq_true rfl) rfl) (dvE ?_))
            cases hF
            refine q_join ?_
            exact (le_of [(0, some 0), (1, some 1), (2, some 2), (3, some 3), (4, some 4), (5, some 5), (6, some 6), (7, some 7)] rfl (.s (.s (.s (.s (.s (.s (.cons .un (.un _) (.cons .un (.un _) (.cons .un (.un _) (.cons .un (.un _) (.cons .un (.un _) (.cons .un (.un _) (.cons .un (.un _) (.cons .un (.un _) (.cons .un (.un _) (.cons .un (.un _) (.cons .un (.un _) (.cons .un (.un _) (.cons .un (.un _) (.cons .un (.un _) .nil)))))))))))))) rfl) rfl) rfl) rfl) rfl) rfl) (.box rfl rfl (.s rfl) (.opn rfl rfl (clm k_MBlkct _) (.s rfl) (.box rfl rfl (.s rfl) (.box rfl rfl (.s rfl) (.row rfl rfl rfl (clm k_iC _) (.row rfl rfl rfl (clm k_iC _) (.row rfl rfl rfl (clm k_iC _) (.row rfl rfl rfl (clm k_MOpct _) .nil)))))))))
          · refine w_condF rfl b6039 ?_
            refine w_skip ?_
            cases hF
            refine q_join ?_
            exact (le_of [(0, some 0), (1, some 1), (2, some 2), (3, some 3), (4, some 4), (5, some 5), (6, some 6), (7, some 7)] rfl (.s (.s (.s (.s (.s (.s (.cons .un (.un _) (.cons .un (.un _) (.cons .un (.un _) (.cons .un (.un _) (.cons .un (.un _) (.cons .un (.un _) (.cons .un (.un _) (.cons .un (.un _) (.cons .un (.un _) (.cons .un (.un _) (.cons .un (.un _) (.cons .un (.un _) (.cons .un (.un _) (.cons .un (.un _) .nil)))))))))))))) rfl) rfl) rfl) rfl) rfl) rfl) (.box rfl rfl (.s rfl) (.opn rfl rfl (clm k_MBlkct _) (.s rfl) (.box rfl rfl (.s rfl) (.box rfl rfl (.s rfl) (.row rfl rfl rfl (clm k_iC _) (.row rfl rfl rfl (clm k_iC _) (.row rfl rfl rfl (clm k_iC _) (.row rfl rfl rfl (clm k_MOpct _) .nil)))))))))
        replace hF := hG6032
        obtain ⟨s6044, hF, hG6045⟩ := bindE hF
        refine w_seqJ ⟨[(1, .ro (.sl 3 1 (a1.map iC))), (2, .ro (.sl 3 1 (a2.map iC))), (3, .ad 0 2 0 0), (6, .ad 2 2 0 0), (7, .v (.int .i64 ((s3006.2 : Nat) : Int))), (10, .ad 3 6 0 0), (53, .un), (54, .un), (55, .un), (58, .un), (59, .un), (60, .un), (61, .un), (62, .un), (63, .un), (64, .un), (65, .un), (76, .un), (77, .un), (78, .un)], [(0, some ⟨31, 2, [[.v (.int .i64 y1.Ret), .rf 1 0 ((s3006.1.map MBlk.ct).length) 8]]⟩), (1, some ⟨47, 8, (s3006.1.map MBlk.ct).set s3006.2 [.rf 6 0 ((x3015.Params.map iC).length) 1, .rf 7 0 ((s3018.map MOp.ct).length) 8, .v (.int .i64 x3015.End.K), .v (.int .i64 x3015.End.A), .v (.int .i64 x3015.End.To), .v (.int .i64 x3015.End.Else), .un, .rf 5 0 ((x3015.End.M.map iC).length) 1]⟩), (2, some ⟨31, 2, [[.v (.int .i64 0), .v (.slice none 0 0)]]⟩), (3, some ⟨44, 6, [[.v (.int .i64 x3015.End.K), .v (.int .i64 s6031), .v (.int .i64 s6044.1), .v (.int .i64 x3015.End.Else), .rf 4 0 ((s6044.2.map iC).length) 1, .rf 5 0 ((x3015.End.M.map iC).length) 1]]⟩), (4, some ⟨3, 1, s6044.2.map iC⟩), (5, some ⟨3, 1, x3015.End.M.map iC⟩), (6, some ⟨3, 1, x3015.Params.map iC⟩), (7, some ⟨49, 8, s3018.map MOp.ct⟩)], 1⟩ ?_ ?_
        · obtain ⟨s6047, hF, hG6048⟩ := bindE hF
          refine w_seqJ ⟨[(1, .ro (.sl 3 1 (a1.map iC))), (2, .ro (.sl 3 1 (a2.map iC))), (3, .ad 0 2 0 0), (6, .ad 2 2 0 0), (7, .v (.int .i64 ((s3006.2 : Nat) : Int))), (10, .ad 3 6 0 0), (53, .un), (54, .un), (55, .un), (58, .un), (59, .un), (60, .un), (61, .un), (62, .un), (63, .un), (64, .un), (65, .un), (76, .un), (77, .un), (78, .un), (79, .v (.bool s6047))], [(0, some ⟨31, 2, [[.v (.int .i64 y1.Ret), .rf 1 0 ((s3006.1.map MBlk.ct).length) 8]]⟩), (1, some ⟨47, 8, (s3006.1.map MBlk.ct).set s3006.2 [.rf 6 0 ((x3015.Params.map iC).length) 1, .rf 7 0 ((s3018.map MOp.ct).length) 8, .v (.int .i64 x3015.End.K), .v (.int .i64 x3015.End.A), .v (.int .i64 x3015.End.To), .v (.int .i64 x3015.End.Else), .rf 4 0 ((x3015.End.L.map iC).length) 1, .rf 5 0 ((x3015.End.M.map iC).length) 1]⟩), (2, some ⟨31, 2, [[.v (.int .i64 0), .v (.slice none 0 0)]]⟩), (3, some ⟨44, 6, [[.v (.int .i64 x3015.End.K), .v (.int .i64 s6031), .v (.int .i64 x3015.End.To), .v (.int .i64 x3015.End.Else), .rf 4 0 ((x3015.End.L.map iC).length) 1, .rf 5 0 ((x3015.End.M.map iC).length) 1]]⟩), (4, some ⟨3, 1, x3015.End.L.map iC⟩), (5, some ⟨3, 1, x3015.End.M.map iC⟩), (6, some ⟨3, 1, x3015.Params.map iC⟩), (7, some ⟨49, 8, s3018.map MOp.ct⟩)], 1⟩ ?_ ?_
          · refine w_region (by rfl) (dv1 (l_field fd44_0 rfl) (dv1 (l_load ty3 rfl rfl rfl rfl rfl) (dv1 (l_bin rfl rfl b_eql) (dv1 (l_move (.v _)) ?_))))
            rcases condE hF with ⟨b6049, hF⟩ | ⟨b6049, hF⟩
            · refine dv1 (l_gF rfl rfl (gt rfl b6049) rfl) (dv1 (l_gF rfl rfl (gt rfl b6049) rfl) (dv1 (l_gF rfl rfl (gt rfl b6049) rfl) (dv1 (l_pickT (gt rfl b6049) (.v _)) (dvE ?_))))
              cases hF
              refine q_join ?_
              exact (le_of [(0, some 0), (1, some 1), (2, some 2), (3, some 3), (4, some 4), (5, some 5), (6, some 6), (7, some 7)] rfl (.s (.s (.s (.s (.s (.s (.cons .un (.un _) (.cons .un (.un _) (.cons .un (.un _) (.cons .un (.un _) (.cons .un (.un _) (.cons .un (.un _) (.cons .un (.un _) (.cons .un (.un _) (.cons .un (.un _) (.cons .un (.un _) (.cons .un (.un _) (.cons (.v _) (.un _) (.cons (.v _) (.un _) (.cons (.v _) (.un _) (.s .nil rfl))))))))))))))) rfl) rfl) rfl) rfl) rfl) rfl) (.box rfl rfl (.s rfl) (.opn rfl rfl (clm k_MBlkct _) (.s rfl) (.box rfl rfl (.s rfl) (.box rfl rfl (.s rfl) (.row rfl rfl rfl (clm k_iC _) (.row rfl rfl rfl (clm k_iC _) (.row rfl rfl rfl (clm k_iC _) (.row rfl rfl rfl (clm k_MOpct _) .nil)))))))))
            · refine dv1 (l_gT rfl rfl (gt rfl b6049) fun _ => l_field fd44_0 rfl) (dv1 (l_gT rfl rfl (gt rfl b6049) fun _ => l_load ty3 rfl rfl rfl rfl rfl) (dv1 (l_gT rfl rfl (gt rfl b6049) fun _ => l_bin rfl rfl b_eql) (dv1 (l_pickF (gt rfl b6049) (.v _)) (dvE ?_))))
              cases hF
              refine q_join ?_
              exact (le_of [(0, some 0), (1, some 1), (2, some 2), (3, some 3), (4, some 4), (5, some 5), (6, some 6), (7, some 7)] rfl (.s (.s (.s (.s (.s (.s (.cons .un (.un _) (.cons .un (.un _) (.cons .un (.un _) (.cons .un (.un _) (.cons .un (.un _) (.cons .un (.un _) (.cons .un (.un _) (.cons .un (.un _) (.cons .un (.un _) (.cons .un (.un _) (.cons .un (.un _) (.cons (.ad _ _ _ _) (.un _) (.cons (.v _) (.un _) (.cons (.v _) (.un _) (.s .nil rfl))))))))))))))) rfl) rfl) rfl) rfl) rfl) rfl) (.box rfl rfl (.s rfl) (.opn rfl rfl (clm k_MBlkct _) (.s rfl) (.box rfl rfl (.s rfl) (.box rfl rfl (.s rfl) (.row rfl rfl rfl (clm k_iC _) (.row rfl rfl rfl (clm k_iC _) (.row rfl rfl rfl (clm k_iC _) (.row rfl rfl rfl (clm k_MOpct _) .nil)))))))))
          replace hF := hG6048
          rcases condE hF with ⟨b6050, hF⟩ | ⟨b6050, hF⟩
          · refine w_condT rfl b6050 ?_
            refine w_draw [[], [0], [], [0, 1, 2], [], [4], [], [0, 1, 2, 3, 4, 5, 6], [0, 1, 2, 3, 4, 5], [0, 1, 2, 3, 4, 5, 6, 7, 8], [0, 1, 2, 3, 4, 5, 6, 7, 8, 9], [0, 1, 2, 3, 4, 5, 6, 7, 8, 9, 10]] [0, 1, 2, 4, 5, 6, 3, 8, 7, 9, 10, 11] (by kernel_rfl) (by rfl) ⟨by decide, by rfl⟩ (by rfl) ?_
            refine de1 rfl (l_field fd44_2 rfl) rfl (de1 rfl (l_load ty3 rfl rfl rfl rfl rfl) rfl (de1 rfl (l_move (.ro _)) rfl (de1 rfl (l_field fd44_4 rfl) rfl (de1 rfl (l_load ty27 rfl rfl rfl rfl rfl) rfl (de1 rfl (l_move (.ro _)) rfl ?_)))))
            obtain ⟨y6051, h6052, hF⟩ := bindE hF
            refine deC1 rfl (l_call (B := false) (FnI.mk' (by kernel_rfl)) (.cons (.v _) (.one (.v _)) (.cons (.ro _) (.one (.ro _)) .nil)) (p_R16_Name_ac h6052) (okF p_R16_Name_ok)) rfl ?_
            refine de1 rfl (l_field fd44_2 rfl) rfl ?_
            obtain ⟨y6053, h6054, hF⟩ := bindE hF
            refine deC1 rfl (l_call (B := true) (FnI.mk' (by kernel_rfl)) (.cons (.rf _ _ _ _) (.one (.rf rfl rfl rfl (clm k_iC _))) (.cons (.ro _) (.one (.ro _)) .nil)) (p_R04_All_ac h6054) (okT p_R04_All_ok)) rfl ?_
            refine deS rfl (l_store ty3 rfl (.v _) rfl rfl rfl (Nat.le_of_ble_eq_true rfl) rfl) rfl (de1 rfl (l_field fd44_4 rfl) rfl (deS rfl (l_store ty27 rfl (.rf _ _ _ _) rfl rfl rfl (Nat.le_of_ble_eq_true rfl) rfl) rfl (ddE ?_)))
            cases hF
            refine q_join ?_
            exact (le_of [(0, some 0), (1, some 1), (2, some 2), (3, some 3), (4, some 576), (5, some 5), (6, some 6), (7, some 7)] rfl (.s (.s (.s (.s (.s (.s (.cons .un (.un _) (.cons .un (.un _) (.cons .un (.un _) (.cons .un (.un _) (.cons .un (.un _) (.cons .un (.un _) (.cons .un (.un _) (.cons .un (.un _) (.cons .un (.un _) (.cons .un (.un _) (.cons .un (.un _) (.cons .un (.un _) (.cons .un (.un _) (.cons .un (.un _) .nil)))))))))))))) rfl) rfl) rfl) rfl) rfl) rfl) (.box rfl rfl (.s rfl) (.opn rfl rfl (clm k_MBlkct _) (.cons (.rf rfl rfl) (.cons (.rf rfl rfl) (.cons (.v rfl) (.cons (.v rfl) (.cons (.v rfl) (.cons (.v rfl) (.cons (.un _) (.cons (.rf rfl rfl) .nil)))))))) (.box rfl rfl (.s rfl) (.box rfl rfl (.s rfl) (.row rfl rfl rfl (clm k_iC _) (.row rfl rfl rfl (clm k_iC _) (.row rfl rfl rfl (clm k_iC _) (.row rfl rfl rfl (clm k_MOpct _) .nil)))))))))
          · refine w_condF rfl b6050 ?_
            refine w_skip ?_
            cases hF
            refine q_join ?_
            exact (le_of [(0, some 0), (1, some 1), (2, some 2), (3, some 3), (4, some 4), (5, some 5), (6, some 6), (7, some 7)] rfl (.s (.s (.s (.s (.s (.s (.cons .un (.un _) (.cons .un (.un _) (.cons .un (.un _) (.cons .un (.un _) (.cons .un (.un _) (.cons .un (.un _) (.cons .un (.un _) (.cons .un (.un _) (.cons .un (.un _) (.cons .un (.un _) (.cons .un (.un _) (.cons .un (.un _) (.cons .un (.un _) (.cons .un (.un _) .nil)))))))))))))) rfl) rfl) rfl) rfl) rfl) rfl) (.box rfl rfl (.s rfl) (.opn rfl rfl (clm k_MBlkct _) (.cons (.rf rfl rfl) (.cons (.rf rfl rfl) (.cons (.v rfl) (.cons (.v rfl) (.cons (.v rfl) (.cons (.v rfl) (.cons (.un _) (.cons (.rf rfl rfl) .nil)))))))) (.box rfl rfl (.s rfl) (.box rfl rfl (.s rfl) (.row rfl rfl rfl (clm k_iC _) (.row rfl rfl rfl (clm k_iC _) (.row rfl rfl rfl (clm k_iC _) (.row rfl rfl rfl (clm k_MOpct _) .nil)))))))))
        replace hF := hG6045
        obtain ⟨s6057, hF, hG6058⟩ := bindE hF
        refine w_seqJ ⟨[(1, .ro (.sl 3 1 (a1.map iC))), (2, .ro (.sl 3 1 (a2.map iC))), (3, .ad 0 2 0 0), (6, .ad 2 2 0 0), (7, .v (.int .i64 ((s3006.2 : Nat) : Int))), (10, .ad 3 6 0 0), (53, .un), (54, .un), (55, .un), (58, .un), (59, .un), (60, .un), (61, .un), (62, .un), (63, .un), (64, .un), (65, .un), (76, .un), (77, .un), (78, .un)], [(0, some ⟨31, 2, [[.v (.int .i64 y1.Ret), .rf 1 0 ((s3006.1.map MBlk.ct).length) 8]]⟩), (1, some ⟨47, 8, (s3006.1.map MBlk.ct).set s3006.2 [.rf 6 0 ((x3015.Params.map iC).length) 1, .rf 7 0 ((s3018.map MOp.ct).length) 8, .v (.int .i64 x3015.End.K), .v (.int .i64 x3015.End.A), .v (.int .i64 x3015.End.To), .v (.int .i64 x3015.End.Else), .un, .un]⟩), (2, some ⟨31, 2, [[.v (.int .i64 0), .v (.slice none 0 0)]]⟩), (3, some ⟨44, 6, [[.v (.int .i64 x3015.End.K), .v (.int .i64 s6031), .v (.int .i64 s6044.1), .v (.int .i64 s6057.1), .rf 4 0 ((s6044.2.map iC).length) 1, .rf 5 0 ((s6057.2.map iC).length) 1]]⟩), (4, some ⟨3, 1, s6044.2.map iC⟩), (5, some ⟨3, 1, s6057.2.map iC⟩), (6, some ⟨3, 1, x3015.Params.map iC⟩), (7, some ⟨49, 8, s3018.map MOp.ct⟩)], 1⟩ ?_ ?_
        · refine w_seq (w_region (by rfl) (dv1 (l_field fd44_0 rfl) (dv1 (l_load ty3 rfl rfl rfl rfl rfl) (dv1 (l_bin rfl rfl b_eql) (dvE (q_seq ?_))))))
          rcases condE hF with ⟨b6059, hF⟩ | ⟨b6059, hF⟩
          · refine w_condT rfl b6059 ?_
            refine w_draw [[], [0], [], [0, 1, 2], [], [4], [], [0, 1, 2, 3, 4, 5, 6], [0, 1, 2, 3, 4, 5], [0, 1, 2, 3, 4, 5, 6, 7, 8], [0, 1, 2, 3, 4, 5, 6, 7, 8, 9], [0, 1, 2, 3, 4, 5, 6, 7, 8, 9, 10]] [0, 1, 2, 4, 5, 6, 3, 8, 7, 9, 10, 11] (by kernel_rfl) (by rfl) ⟨by decide, by rfl⟩ (by rfl) ?_
            refine de1 rfl (l_field fd44_3 rfl) rfl (de1 rfl (l_load ty3 rfl rfl rfl rfl rfl) rfl (de1 rfl (l_move (.ro _)) rfl (de1 rfl (l_field fd44_5 rfl) rfl (de1 rfl (l_load ty27 rfl rfl rfl rfl rfl) rfl (de1 rfl (l_move (.ro _)) rfl ?_)))))
            obtain ⟨y6060, h6061, hF⟩ := bindE hF
            refine deC1 rfl (l_call (B := false) (FnI.mk' (by kernel_rfl)) (.cons (.v _) (.one (.v _)) (.cons (.ro _) (.one (.ro _)) .nil)) (p_R16_Name_ac h6061) (okF p_R16_Name_ok)) rfl ?_
            refine de1 rfl (l_field fd44_3 rfl) rfl ?_
            obtain ⟨y6062, h6063, hF⟩ := bindE hF
            refine deC1 rfl (l_call (B := true) (FnI.mk' (by kernel_rfl)) (.cons (.rf _ _ _ _) (.one (.rf rfl rfl rfl (clm k_iC _))) (.cons (.ro _) (.one (.ro _)) .nil)) (p_R04_All_ac h6063) (okT p_R04_All_ok)) rfl ?_
            refine deS rfl (l_store ty3 rfl (.v _) rfl rfl rfl (Nat.le_of_ble_eq_true rfl) rfl) rfl (de1 rfl (l_field fd44_5 rfl) rfl (deS rfl (l_store ty27 rfl (.rf _ _ _ _) rfl rfl rfl (Nat.le_of_ble_eq_true rfl) rfl) rfl (ddE ?_)))
            cases hF
            refine q_join ?_
            exact (le_of [(0, some 0), (1, some 1), (2, some 2), (3, some 3), (4, some 4), (5, some 768), (6, some 6), (7, some 7)] rfl (.s (.s (.s (.s (.s (.s (.cons .un (.un _) (.cons .un (.un _) (.cons .un (.un _) (.cons .un (.un _) (.cons .un (.un _) (.cons .un (.un _) (.cons .un (.un _) (.cons .un (.un _) (.cons .un (.un _) (.cons .un (.un _) (.cons .un (.un _) (.cons .un (.un _) (.cons .un (.un _) (.cons .un (.un _) .nil)))))))))))))) rfl) rfl) rfl) rfl) rfl) rfl) (.box rfl rfl (.s rfl) (.opn rfl rfl (clm k_MBlkct _) (.cons (.rf rfl rfl) (.cons (.rf rfl rfl) (.cons (.v rfl) (.cons (.v rfl) (.cons (.v rfl) (.cons (.v rfl) (.cons (.un _) (.cons (.un _) .nil)))))))) (.box rfl rfl (.s rfl) (.box rfl rfl (.s rfl) (.row rfl rfl rfl (clm k_iC _) (.row rfl rfl rfl (clm k_iC _) (.row rfl rfl rfl (clm k_iC _) (.row rfl rfl rfl (clm k_MOpct _) .nil)))))))))
          · refine w_condF rfl b6059 ?_
            refine w_skip ?_
            cases hF
            refine q_join ?_
            exact (le_of [(0, some 0), (1, some 1), (2, some 2), (3, some 3), (4, some 4), (5, some 5), (6, some 6), (7, some 7)] rfl (.s (.s (.s (.s (.s (.s (.cons .un (.un _) (.cons .un (.un _) (.cons .un (.un _) (.cons .un (.un _) (.cons .un (.un _) (.cons .un (.un _) (.cons .un (.un _) (.cons .un (.un _) (.cons .un (.un _) (.cons .un (.un _) (.cons .un (.un _) (.cons .un (.un _) (.cons .un (.un _) (.cons .un (.un _) .nil)))))))))))))) rfl) rfl) rfl) rfl) rfl) rfl) (.box rfl rfl (.s rfl) (.opn rfl rfl (clm k_MBlkct _) (.cons (.rf rfl rfl) (.cons (.rf rfl rfl) (.cons (.v rfl) (.cons (.v rfl) (.cons (.v rfl) (.cons (.v rfl) (.cons (.un _) (.cons (.un _) .nil)))))))) (.box rfl rfl (.s rfl) (.box rfl rfl (.s rfl) (.row rfl rfl rfl (clm k_iC _) (.row rfl rfl rfl (clm k_iC _) (.row rfl rfl rfl (clm k_iC _) (.row rfl rfl rfl (clm k_MOpct _) .nil)))))))))
        replace hF := hG6058
        refine w_region (by rfl) (dv1 (l_field fd31_1 rfl) (dv1 (l_load ty29 rfl rfl rfl rfl rfl) (dv1 (l_move (.v _)) (dv1 (l_loadA ty44 rfl rfl rfl rfl rfl) (dv1 (l_index s3006.2 sl29 rfl rfl rfl (lt_at MBlk.ct h3016)) (dv1 (l_field fd47_2 rfl) (dvS (l_storeR ty44 rfl (.ag _) rfl (set_at h3016) rfl (Nat.le_of_ble_eq_true rfl) rfl (List.set_set ..)) (dvE ?_))))))))
        cases hF
        refine q_in (q_join ?_)
        refine St.le.trans (le_closeR 1 s3006.2 rfl (set_at h3016) (.cons (.of (.rf rfl rfl (clm k_iC _))) (.cons (.of (.rf rfl rfl (clm k_MOpct _))) (.cons (.of (.v _)) (.cons (.of (.v _)) (.cons (.of (.v _)) (.cons (.of (.v _)) (.cons (.of (.rf rfl rfl (clm k_iC _))) (.cons (.of (.rf rfl rfl (clm k_iC _))) .nil)))))))) (by decide) (by decide) rfl (set_cl MBlk.ct _ _ _ (⟨x3015.Params, s3018, (⟨x3015.End.K, s6031, s6044.1, s6057.1, s6044.2, s6057.2⟩ : MEnd)⟩ : MBlk))) ?_
        exact (le_of [(0, some 0), (1, some 1), (2, some 2)] rfl (.s (.s (.s (.s (.s (.cons .un (.un _) (.cons .un (.un _) (.cons .un (.un _) (.cons .un (.un _) (.cons .un (.un _) (.cons .un (.un _) (.cons .un (.un _) (.cons .un (.un _) (.cons .un (.un _) (.cons .un (.un _) (.cons .un (.un _) (.cons .un (.un _) (.cons .un (.un _) (.cons .un (.un _) .nil)))))))))))))) rfl) rfl) rfl) rfl) rfl) (.box rfl rfl (.cons (.v rfl) (.cons (.rf rfl (by simp)) .nil)) (.row rfl rfl rfl (clm k_MBlkct _) (.box rfl rfl (.s rfl) .nil))))
      replace hF := hG3014
      refine w_region (by rfl) (dv1 (l_move (.v _)) (dv1 (l_bin rfl rfl (b_incN (of_decide_eq_true b3010) l3011)) (dv1 (l_assign (.v _)) (dvE ?_))))
      cases hF
      refine qL rfl ?_
      exact (le_of [(0, some 0), (1, some 1), (2, some 2)] rfl (.s (.s (.s (.s (.s (.cons .un (.un _) (.cons .un (.un _) (.cons .un (.un _) (.cons .un (.un _) (.cons .un (.un _) (.cons .un (.un _) (.cons .un (.un _) (.cons .un (.un _) (.cons .un (.un _) (.cons .un (.un _) (.cons .un (.un _) (.cons .un (.un _) (.cons .un (.un _) (.cons .un (.un _) .nil)))))))))))))) rfl) rfl) rfl) rfl) rfl) (.box rfl rfl (.s rfl) (.row rfl rfl rfl (clm k_MBlkct _) (.box rfl rfl (.s rfl) .nil))))
    · refine w_condF rfl b3010 ?_
      refine w_exit ?_
      cases hF
      cases hx3008 _ rfl
      refine q_exS (q_exS (q_here (q_join ?_)))
      exact (le_of [(0, some 0), (1, some 1), (2, some 2)] rfl (.s (.s .nil rfl) rfl) (.box rfl rfl (.s rfl) (.row rfl rfl rfl (clm k_MBlkct _) (.box rfl rfl (.s rfl) .nil))))
  replace hF := hG5
  refine w_seq (w_region (by rfl) (dv1 (l_loadA ty31 rfl rfl rfl rfl rfl) (dvS (l_store ty31 rfl (.ag _) rfl rfl rfl (Nat.le_of_ble_eq_true rfl) rfl) (dvE (q_seq (w_ret ?_))))))
  cases hF
  refine q_end (.inr rfl) ?_
  exact ret_ok rfl (.cons (.cellA ty31 rfl rfl rfl (.cons (.of (.v _)) (.cons (.of (.rf rfl rfl (clm k_MBlkct _))) .nil))) .nil) (by decide) rfl

def p_R04_Ints (a0 : List Int) (a1 : List Int) : Option Bool :=
(bif decide (((a0.length : Nat) : Int) = ((a1.length : Nat) : Int)) then
(((loop (fun (s3004 : Nat) =>
(bif decide (s3004 < a0.length) then
((a0[s3004]?).bind fun x3010 =>
((a1[s3004]?).bind fun x3012 =>
(bif decide (x3010 = x3012) then
some (Xt.go (s3004 + 1))
else
some (Xt.out (Xt.out false)))))
else
some (Xt.out (Xt.go ())))) Fu 0)).bind fun s2 => s2.on (fun (s3015 : Unit) =>
some true)
(fun o3017 => some o3017))
else
some false)

theorem p_R04_Ints_ok {r : Bool} : rOk (.v (.bool r)) = true ∧ FrT (.v (.bool r)) := ⟨rfl, (.one (.cl (.v _)))⟩

set_option maxRecDepth 10000 in
set_option maxHeartbeats 4000000 in
theorem p_R04_Ints_ac {a0 : List Int} {a1 : List Int} {r : Bool} (hF : p_R04_Ints a0 a1 = some r) : AC Tryd.prog GT 17 [.sl 3 1 (a0.map iC), .sl 3 1 (a1.map iC)] (fun c => c = .v (.bool r)) := by
  unfold p_R04_Ints at hF
  refine AC.mk (nt := 26) Tryd.func17 rfl rfl rfl fun w N => ?_
  refine w_seq (w_region (by rfl) (dv1 (l_assign (.v _)) (dvE (q_seq (w_seq (w_seq (w_region (by rfl) (dv1 (l_move (.ro _)) ?_))))))))
  refine dv1 (l_lenRo sl27 rfl rfl (List.length_map _)) (dv1 (l_move (.ro _)) (dv1 (l_lenRo sl27 rfl rfl (List.length_map _)) (dv1 (l_bin rfl rfl b_neq) (dvE (q_seq ?_)))))
  rcases condE hF with ⟨b1, hF⟩ | ⟨b1, hF⟩
  · refine w_condF rfl (nF b1) ?_
    refine w_skip (q_seq ?_)
    obtain ⟨s2, hF, hG3⟩ := bindE hF
    refine w_seqE s2 (fun (s3015 : Unit) => ⟨[], [], 1⟩) ?_ (fun s3015 e3016 => ?_)
    · refine w_seq (w_region (by rfl) (dv1 (l_assign (.v _)) (dvE (q_seq (w_block (w_loopF hF (fun (s3004 : Nat) => ⟨[(0, .ro (.sl 3 1 (a0.map iC))), (1, .ro (.sl 3 1 (a1.map iC))), (5, .v (.int .i64 ((s3004 : Nat) : Int)))], [], 1⟩) (le_of [] rfl (.s (.s (.s .nil rfl) rfl) rfl) .nil) ?_))))))
      intro s3004 y3005 hF hx3006
      refine w_seq (w_seq (w_region (by rfl) (dv1 (l_move (.v _)) (dv1 (l_move (.ro _)) (dv1 (l_lenRo sl27 rfl rfl (List.length_map _)) (dv1 (l_bin rfl rfl b_lssN) (dvE (q_seq ?_))))))))
      rcases condE hF with ⟨b3008, hF⟩ | ⟨b3008, hF⟩
      · refine w_lenS 0 rfl fun l3009 => ?_
        refine w_condT rfl b3008 ?_
        refine w_skip (q_seq (w_seq (w_block (w_seq (w_draw [[], [], [0, 1], [0, 1, 2], [], [], [4, 5], [4, 5, 6], [0, 1, 2, 3, 4, 5, 6, 7]] [0, 1, 2, 3, 4, 5, 6, 7, 8] (by kernel_rfl) (by rfl) ⟨by decide, by rfl⟩ (by rfl) ?_)))))
        refine de1 rfl (l_move (.ro _)) rfl (de1 rfl (l_move (.v _)) rfl ?_)
        obtain ⟨x3010, h3011, hF⟩ := bindE hF
        refine de1 rfl (l_indexRo s3004 sl27 rfl rfl rfl (map_at h3011)) rfl (de1 rfl (l_loadRo ty3 rfl rfl) rfl (de1 rfl (l_move (.ro _)) rfl (de1 rfl (l_move (.v _)) rfl ?_)))
        obtain ⟨x3012, h3013, hF⟩ := bindE hF
        refine de1 rfl (l_indexRo s3004 sl27 rfl rfl rfl (map_at h3013)) rfl (de1 rfl (l_loadRo ty3 rfl rfl) rfl (de1 rfl (l_bin rfl rfl b_neq) rfl (ddE (q_seq ?_))))
        rcases condE hF with ⟨b3014, hF⟩ | ⟨b3014, hF⟩
        · refine w_condF rfl (nF b3014) ?_
          refine w_skip (q_in (q_seq (w_region (by rfl) (dv1 (l_move (.v _)) (dv1 (l_bin rfl rfl (b_incN (of_decide_eq_true b3008) l3009)) (dv1 (l_assign (.v _)) (dvE ?_)))))))
          cases hF
          refine qL rfl ?_
          exact (le_of [] rfl (.s (.s (.s .nil rfl) rfl) rfl) .nil)
        · refine w_condT rfl (nT b3014) ?_
          refine w_seq (w_region (by rfl) (dv1 (l_assign (.v _)) (dvE (q_seq (w_ret (q_reI (q_reS (q_reS ?_))))))))
          refine q_reI (q_reS ?_)
          cases hF
          cases hx3006 _ rfl
          have hF := onOut hG3
          cases hF
          refine q_end (.inr rfl) ?_
          exact ret_ok rfl (.cons (.tmp (.v _) (.v _)) .nil) (by decide) rfl
      · refine w_condF rfl b3008 ?_
        refine w_exit ?_
        cases hF
        cases hx3006 _ rfl
        refine q_exS (q_exS (q_here (qL rfl ?_)))
        exact (le_of [] rfl .nil .nil)
    subst e3016
    replace hF := onGo hG3
    refine w_seq (w_region (by rfl) (dv1 (l_assign (.v _)) (dvE (q_seq (w_ret ?_)))))
    cases hF
    refine q_end (.inr rfl) ?_
    exact ret_ok rfl (.cons (.tmp (.v _) (.v _)) .nil) (by decide) rfl
  · refine w_condT rfl (nT b1) ?_
    refine w_seq (w_region (by rfl) (dv1 (l_assign (.v _)) (dvE (q_seq (w_ret (q_reS ?_))))))
    cases hF
    refine q_end (.inr rfl) ?_
    exact ret_ok rfl (.cons (.tmp (.v _) (.v _)) .nil) (by decide) rfl

def p_R05_sameEnd (a0 : MEnd) (a1 : MEnd) : Option Bool :=
((p_R05_End a0).bind fun y1 =>
((p_R05_End a1).bind fun y3 =>
(((bif decide (y1.K = y3.K) then
(bif decide (y1.A = y3.A) then
(bif decide (y1.To = y3.To) then
(bif decide (y1.Else = y3.Else) then
((p_R04_Ints y1.L y3.L).bind fun y12 =>
(bif y12 then
((p_R04_Ints y1.M y3.M).bind fun y15 =>
some y15)
else
some false))
else
some false)
else
some false)
else
some false)
else
some false)).bind fun (s6 : Bool) =>
some s6)))

theorem p_R05_sameEnd_ok {r : Bool} : rOk (.v (.bool r)) = true ∧ FrT (.v (.bool r)) := ⟨rfl, (.one (.cl (.v _)))⟩

set_option maxRecDepth 10000 in
set_option maxHeartbeats 4000000 in
theorem p_R05_sameEnd_ac {a0 : MEnd} {a1 : MEnd} {r : Bool} (hF : p_R05_sameEnd a0 a1 = some r) : AC Tryd.prog GT 18 [.ag (MEnd.ct a0), .ag (MEnd.ct a1)] (fun c => c = .v (.bool r)) := by
  unfold p_R05_sameEnd at hF
  refine AC.mk (nt := 49) Tryd.func18 rfl rfl rfl fun w N => ?_
  refine w_seq (w_region (by rfl) (dvN (l_box (.ag _) rfl rfl) (dvN (l_box (.ag _) rfl rfl) (dv1 (l_assign (.v _)) (dvE (q_seq (w_seq (w_draw [[], [0], [], [0, 1, 2], [0, 1, 2, 3], [0, 1, 2, 3, 4]] [0, 2, 1, 3, 4, 5] (by kernel_rfl) (by rfl) ⟨by decide, by rfl⟩ (by rfl) ?_))))))))
  refine de1 rfl (l_loadA ty44 rfl rfl rfl rfl rfl) rfl (de1 rfl (l_loadA ty44 rfl rfl rfl rfl rfl) rfl ?_)
  obtain ⟨y1, h2, hF⟩ := bindE hF
  refine deC1 rfl (l_call (B := false) (FnI.mk' (by kernel_rfl)) (.cons (.ag _) (.ag (.cons (.v _) (.cons (.v _) (.cons (.v _) (.cons (.v _) (.cons (.ro _) (.cons (.ro _) .nil))))))) .nil) (p_R05_End_ac h2) (okF p_R05_End_ok)) rfl ?_
  obtain ⟨y3, h4, hF⟩ := bindE hF
  refine deC1 rfl (l_call (B := false) (FnI.mk' (by kernel_rfl)) (.cons (.ag _) (.ag (.cons (.v _) (.cons (.v _) (.cons (.v _) (.cons (.v _) (.cons (.ro _) (.cons (.ro _) .nil))))))) .nil) (p_R05_End_ac h4) (okF p_R05_End_ok)) rfl ?_
  refine deS rfl (l_store ty44 rfl (.ag _) rfl rfl rfl (Nat.le_of_ble_eq_true rfl) rfl) rfl (deS rfl (l_store ty44 rfl (.ag _) rfl rfl rfl (Nat.le_of_ble_eq_true rfl) rfl) rfl (ddE (q_seq ?_)))
  obtain ⟨s6, hF, hG7⟩ := bindE hF
  refine w_seqJ ⟨[(4, .v (.bool s6))], [], 1⟩ ?_ ?_
  · refine w_region (by rfl) (dv1 (l_field fd44_0 rfl) (dv1 (l_load ty3 rfl rfl rfl rfl rfl) (dv1 (l_field fd44_0 rfl) (dv1 (l_load ty3 rfl rfl rfl rfl rfl) (dv1 (l_bin rfl rfl b_eql) (dv1 (l_move (.v _)) ?_))))))
    rcases condE hF with ⟨b8, hF⟩ | ⟨b8, hF⟩
    · refine dv1 (l_gT rfl rfl (gt rfl b8) fun _ => l_field fd44_1 rfl) (dv1 (l_gT rfl rfl (gt rfl b8) fun _ => l_load ty3 rfl rfl rfl rfl rfl) (dv1 (l_gT rfl rfl (gt rfl b8) fun _ => l_field fd44_1 rfl) (dv1 (l_gT rfl rfl (gt rfl b8) fun _ => l_load ty3 rfl rfl rfl rfl rfl) (dv1 (l_gT rfl rfl (gt rfl b8) fun _ => l_bin rfl rfl b_eql) (dv1 (l_pickT (gt rfl b8) (.v _)) (dv1 (l_move (.v _)) ?_))))))
      rcases condE hF with ⟨b9, hF⟩ | ⟨b9, hF⟩
      · refine dv1 (l_gT rfl rfl (gt rfl b9) fun _ => l_field fd44_2 rfl) (dv1 (l_gT rfl rfl (gt rfl b9) fun _ => l_load ty3 rfl rfl rfl rfl rfl) (dv1 (l_gT rfl rfl (gt rfl b9) fun _ => l_field fd44_2 rfl) (dv1 (l_gT rfl rfl (gt rfl b9) fun _ => l_load ty3 rfl rfl rfl rfl rfl) (dv1 (l_gT rfl rfl (gt rfl b9) fun _ => l_bin rfl rfl b_eql) (dv1 (l_pickT (gt rfl b9) (.v _)) (dv1 (l_move (.v _)) ?_))))))
        rcases condE hF with ⟨b10, hF⟩ | ⟨b10, hF⟩
        · refine dv1 (l_gT rfl rfl (gt rfl b10) fun _ => l_field fd44_3 rfl) (dv1 (l_gT rfl rfl (gt rfl b10) fun _ => l_load ty3 rfl rfl rfl rfl rfl) (dv1 (l_gT rfl rfl (gt rfl b10) fun _ => l_field fd44_3 rfl) (dv1 (l_gT rfl rfl (gt rfl b10) fun _ => l_load ty3 rfl rfl rfl rfl rfl) (dv1 (l_gT rfl rfl (gt rfl b10) fun _ => l_bin rfl rfl b_eql) (dv1 (l_pickT (gt rfl b10) (.v _)) (dv1 (l_move (.v _)) ?_))))))
          rcases condE hF with ⟨b11, hF⟩ | ⟨b11, hF⟩
          · refine dv1 (l_gT rfl rfl (gt rfl b11) fun _ => l_field fd44_4 rfl) (dv1 (l_gT rfl rfl (gt rfl b11) fun _ => l_load ty27 rfl rfl rfl rfl rfl) (dv1 (l_gT rfl rfl (gt rfl b11) fun _ => l_field fd44_4 rfl) (dv1 (l_gT rfl rfl (gt rfl b11) fun _ => l_load ty27 rfl rfl rfl rfl rfl) ?_)))
            obtain ⟨y12, h13, hF⟩ := bindE hF
            refine dvC (l_gTC rfl rfl (gt rfl b11) fun _ => (l_call (B := true) (FnI.mk' (by kernel_rfl)) (.cons (.rf _ _ _ _) (.one (.rf rfl rfl rfl (clm k_iC _))) (.cons (.rf _ _ _ _) (.one (.rf rfl rfl rfl (clm k_iC _))) .nil)) (p_R04_Ints_ac h13) (okT p_R04_Ints_ok))) ?_
            rintro _ rfl
            refine dv1 (l_pickT (gt rfl b11) (.v _)) (dv1 (l_move (.v _)) ?_)
            rcases condE hF with ⟨b14, hF⟩ | ⟨b14, hF⟩
            · refine dv1 (l_gT rfl rfl (gt rfl b14) fun _ => l_field fd44_5 rfl) (dv1 (l_gT rfl rfl (gt rfl b14) fun _ => l_load ty27 rfl rfl rfl rfl rfl) (dv1 (l_gT rfl rfl (gt rfl b14) fun _ => l_field fd44_5 rfl) (dv1 (l_gT rfl rfl (gt rfl b14) fun _ => l_load ty27 rfl rfl rfl rfl rfl) ?_)))
              obtain ⟨y15, h16, hF⟩ := bindE hF
              refine dvC (l_gTC rfl rfl (gt rfl b14) fun _ => (l_call (B := true) (FnI.mk' (by kernel_rfl)) (.cons (.rf _ _ _ _) (.one (.rf rfl rfl rfl (clm k_iC _))) (.cons (.rf _ _ _ _) (.one (.rf rfl rfl rfl (clm k_iC _))) .nil)) (p_R04_Ints_ac h16) (okT p_R04_Ints_ok))) ?_
              rintro _ rfl
              refine dv1 (l_pickT (gt rfl b14) (.v _)) (dv1 (l_assign (.v _)) (dvE ?_))
              cases hF
              refine q_join ?_
              exact (le_of [] rfl (.s .nil rfl) .nil)
            · refine dv1 (l_gF rfl rfl (gt rfl b14) rfl) (dv1 (l_gF rfl rfl (gt rfl b14) rfl) (dv1 (l_gF rfl rfl (gt rfl b14) rfl) (dv1 (l_gF rfl rfl (gt rfl b14) rfl) (dv1 (l_gF rfl rfl (gt rfl b14) rfl) (dv1 (l_pickF (gt rfl b14) (.v _)) (dv1 (l_assign (.v _)) (dvE ?_)))))))
              cases hF
              refine q_join ?_
              exact (le_of [] rfl (.s .nil rfl) .nil)
          · refine dv1 (l_gF rfl rfl (gt rfl b11) rfl) (dv1 (l_gF rfl rfl (gt rfl b11) rfl) (dv1 (l_gF rfl rfl (gt rfl b11) rfl) (dv1 (l_gF rfl rfl (gt rfl b11) rfl) (dv1 (l_gF rfl rfl (gt rfl b11) rfl) (dv1 (l_pickF (gt rfl b11) (.v _)) (dv1 (l_move (.v _)) (dv1 (l_gF rfl rfl rfl rfl) (dv1 (l_gF rfl rfl rfl rfl) ?_))))))))
            refine dv1 (l_gF rfl rfl rfl rfl) (dv1 (l_gF rfl rfl rfl rfl) (dv1 (l_gF rfl rfl rfl rfl) (dv1 (l_pickF rfl (.v _)) (dv1 (l_assign (.v _)) (dvE ?_)))))
            cases hF
            refine q_join ?_
            exact (le_of [] rfl (.s .nil rfl) .nil)
        · refine dv1 (l_gF rfl rfl (gt rfl b10) rfl) (dv1 (l_gF rfl rfl (gt rfl b10) rfl) (dv1 (l_gF rfl rfl (gt rfl b10) rfl) (dv1 (l_gF rfl rfl (gt rfl b10) rfl) (dv1 (l_gF rfl rfl (gt rfl b10) rfl) (dv1 (l_pickF (gt rfl b10) (.v _)) (dv1 (l_move (.v _)) (dv1 (l_gF rfl rfl rfl rfl) (dv1 (l_gF rfl rfl rfl rfl) ?_))))))))
          refine dv1 (l_gF rfl rfl rfl rfl) (dv1 (l_gF rfl rfl rfl rfl) (dv1 (l_gF rfl rfl rfl rfl) (dv1 (l_pickF rfl (.v _)) (dv1 (l_move (.v _)) (dv1 (l_gF rfl rfl rfl rfl) (dv1 (l_gF rfl rfl rfl rfl) (dv1 (l_gF rfl rfl rfl rfl) (dv1 (l_gF rfl rfl rfl rfl) ?_))))))))
          refine dv1 (l_gF rfl rfl rfl rfl) (dv1 (l_pickF rfl (.v _)) (dv1 (l_assign (.v _)) (dvE ?_)))
          cases hF
          refine q_join ?_
          exact (le_of [] rfl (.s .nil rfl) .nil)
      · refine dv1 (l_gF rfl rfl (gt rfl b9) rfl) (dv1 (l_gF rfl rfl (gt rfl b9) rfl) (dv1 (l_gF rfl rfl (gt rfl b9) rfl) (dv1 (l_gF rfl rfl (gt rfl b9) rfl) (dv1 (l_gF rfl rfl (gt rfl b9) rfl) (dv1 (l_pickF (gt rfl b9) (.v _)) (dv1 (l_move (.v _)) (dv1 (l_gF rfl rfl rfl rfl) (dv1 (l_gF rfl rfl rfl rfl) ?_))))))))
        refine dv1 (l_gF rfl rfl rfl rfl) (dv1 (l_gF rfl rfl rfl rfl) (dv1 (l_gF rfl rfl rfl rfl) (dv1 (l_pickF rfl (.v _)) (dv1 (l_move (.v _)) (dv1 (l_gF rfl rfl rfl rfl) (dv1 (l_gF rfl rfl rfl rfl) (dv1 (l_gF rfl rfl rfl rfl) (dv1 (l_gF rfl rfl rfl rfl) ?_))))))))
        refine dv1 (l_gF rfl rfl rfl rfl) (dv1 (l_pickF rfl (.v _)) (dv1 (l_move (.v _)) (dv1 (l_gF rfl rfl rfl rfl) (dv1 (l_gF rfl rfl rfl rfl) (dv1 (l_gF rfl rfl rfl rfl) (dv1 (l_gF rfl rfl rfl rfl) (dv1 (l_gF rfl rfl rfl rfl) (dv1 (l_pickF rfl (.v _)) ?_))))))))
        refine dv1 (l_assign (.v _)) (dvE ?_)
        cases hF
        refine q_join ?_
        exact (le_of [] rfl (.s .nil rfl) .nil)
    · refine dv1 (l_gF rfl rfl (gt rfl b8) rfl) (dv1 (l_gF rfl rfl (gt rfl b8) rfl) (dv1 (l_gF rfl rfl (gt rfl b8) rfl) (dv1 (l_gF rfl rfl (gt rfl b8) rfl) (dv1 (l_gF rfl rfl (gt rfl b8) rfl) (dv1 (l_pickF (gt rfl b8) (.v _)) (dv1 (l_move (.v _)) (dv1 (l_gF rfl rfl rfl rfl) (dv1 (l_gF rfl rfl rfl rfl) ?_))))))))
      refine dv1 (l_gF rfl rfl rfl rfl) (dv1 (l_gF rfl rfl rfl rfl) (dv1 (l_gF rfl rfl rfl rfl) (dv1 (l_pickF rfl (.v _)) (dv1 (l_move (.v _)) (dv1 (l_gF rfl rfl rfl rfl) (dv1 (l_gF rfl rfl rfl rfl) (dv1 (l_gF rfl rfl rfl rfl) (dv1 (l_gF rfl rfl rfl rfl) ?_))))))))
      refine dv1 (l_gF rfl rfl rfl rfl) (dv1 (l_pickF rfl (.v _)) (dv1 (l_move (.v _)) (dv1 (l_gF rfl rfl rfl rfl) (dv1 (l_gF rfl rfl rfl rfl) (dv1 (l_gF rfl rfl rfl rfl) (dv1 (l_gF rfl rfl rfl rfl) (dv1 (l_gF rfl rfl rfl rfl) (dv1 (l_pickF rfl (.v _)) ?_))))))))
      refine dv1 (l_move (.v _)) (dv1 (l_gF rfl rfl rfl rfl) (dv1 (l_gF rfl rfl rfl rfl) (dv1 (l_gF rfl rfl rfl rfl) (dv1 (l_gF rfl rfl rfl rfl) (dv1 (l_gF rfl rfl rfl rfl) (dv1 (l_pickF rfl (.v _)) (dv1 (l_assign (.v _)) (dvE ?_))))))))
      cases hF
      refine q_join ?_
      exact (le_of [] rfl (.s .nil rfl) .nil)
  replace hF := hG7
  refine w_ret ?_
  cases hF
  refine q_end (.inr rfl) ?_
  exact ret_ok rfl (.cons (.tmp (.v _) (.v _)) .nil) (by decide) rfl

def p_R04_Same (a0 : MOp) (a1 : MOp) : Option Bool :=
((p_R04_Plain a0).bind fun y1 =>
((p_R04_Plain a1).bind fun y3 =>
(((bif decide (y1.K = y3.K) then
(bif decide (y1.A = y3.A) then
(bif decide (y1.B = y3.B) then
(bif decide (y1.C = y3.C) then
(bif decide (y1.N = y3.N) then
(bif decide (y1.S = y3.S) then
(bif y1.Stack == y3.Stack then
((p_R04_Ints y1.L y3.L).bind fun y15 =>
some y15)
else
some false)
else
some false)
else
some false)
else
some false)
else
some false)
else
some false)
else
some false)).bind fun (s6 : Bool) =>
some s6)))

theorem p_R04_Same_ok {r : Bool} : rOk (.v (.bool r)) = true ∧ FrT (.v (.bool r)) := ⟨rfl, (.one (.cl (.v _)))⟩

set_option maxRecDepth 10000 in
set_option maxHeartbeats 4000000 in
theorem p_R04_Same_ac {a0 : MOp} {a1 : MOp} {r : Bool} (hF : p_R04_Same a0 a1 = some r) : AC Tryd.prog GT 19 [.ag (MOp.ct a0), .ag (MOp.ct a1)] (fun c => c = .v (.bool r)) := by
  unfold p_R04_Same at hF
  refine AC.mk (nt := 63) Tryd.func19 rfl rfl rfl fun w N => ?_
  refine w_seq (w_region (by rfl) (dvN (l_box (.ag _) rfl rfl) (dvN (l_box (.ag _) rfl rfl) (dv1 (l_assign (.v _)) (dvE (q_seq (w_seq (w_draw [[], [0], [], [0, 1, 2], [0, 1, 2, 3], [0, 1, 2, 3, 4]] [0, 2, 1, 3, 4, 5] (by kernel_rfl) (by rfl) ⟨by decide, by rfl⟩ (by rfl) ?_))))))))
  refine de1 rfl (l_loadA ty49 rfl rfl rfl rfl rfl) rfl (de1 rfl (l_loadA ty49 rfl rfl rfl rfl rfl) rfl ?_)
  obtain ⟨y1, h2, hF⟩ := bindE hF
  refine deC1 rfl (l_call (B := false) (FnI.mk' (by kernel_rfl)) (.cons (.ag _) (.ag (.cons (.v _) (.cons (.v _) (.cons (.v _) (.cons (.v _) (.cons (.v _) (.cons (.v _) (.cons (.ro _) (.cons (.v _) .nil))))))))) .nil) (p_R04_Plain_ac h2) (okF p_R04_Plain_ok)) rfl ?_
  obtain ⟨y3, h4, hF⟩ := bindE hF
  refine deC1 rfl (l_call (B := false) (FnI.mk' (by kernel_rfl)) (.cons (.ag _) (.ag (.cons (.v _) (.cons (.v _) (.cons (.v _) (.cons (.v _) (.cons (.v _) (.cons (.v _) (.cons (.ro _) (.cons (.v _) .nil))))))))) .nil) (p_R04_Plain_ac h4) (okF p_R04_Plain_ok)) rfl ?_
  refine deS rfl (l_store ty49 rfl (.ag _) rfl rfl rfl (Nat.le_of_ble_eq_true rfl) rfl) rfl (deS rfl (l_store ty49 rfl (.ag _) rfl rfl rfl (Nat.le_of_ble_eq_true rfl) rfl) rfl (ddE (q_seq ?_)))
  obtain ⟨s6, hF, hG7⟩ := bindE hF
  refine w_seqJ ⟨[(4, .v (.bool s6))], [], 1⟩ ?_ ?_
  · refine w_region (by rfl) (dv1 (l_field fd49_0 rfl) (dv1 (l_load ty3 rfl rfl rfl rfl rfl) (dv1 (l_field fd49_0 rfl) (dv1 (l_load ty3 rfl rfl rfl rfl rfl) (dv1 (l_bin rfl rfl b_eql) (dv1 (l_move (.v _)) ?_))))))
    rcases condE hF with ⟨b8, hF⟩ | ⟨b8, hF⟩
    · refine dv1 (l_gT rfl rfl (gt rfl b8) fun _ => l_field fd49_1 rfl) (dv1 (l_gT rfl rfl (gt rfl b8) fun _ => l_load ty3 rfl rfl rfl rfl rfl) (dv1 (l_gT rfl rfl (gt rfl b8) fun _ => l_field fd49_1 rfl) (dv1 (l_gT rfl rfl (gt rfl b8) fun _ => l_load ty3 rfl rfl rfl rfl rfl) (dv1 (l_gT rfl rfl (gt rfl b8) fun _ => l_bin rfl rfl b_eql) (dv1 (l_pickT (gt rfl b8) (.v _)) (dv1 (l_move (.v _)) ?_))))))
      rcases condE hF with ⟨b9, hF⟩ | ⟨b9, hF⟩
      · refine dv1 (l_gT rfl rfl (gt rfl b9) fun _ => l_field fd49_2 rfl) (dv1 (l_gT rfl rfl (gt rfl b9) fun _ => l_load ty3 rfl rfl rfl rfl rfl) (dv1 (l_gT rfl rfl (gt rfl b9) fun _ => l_field fd49_2 rfl) (dv1 (l_gT rfl rfl (gt rfl b9) fun _ => l_load ty3 rfl rfl rfl rfl rfl) (dv1 (l_gT rfl rfl (gt rfl b9) fun _ => l_bin rfl rfl b_eql) (dv1 (l_pickT (gt rfl b9) (.v _)) (dv1 (l_move (.v _)) ?_))))))
        rcases condE hF with ⟨b10, hF⟩ | ⟨b10, hF⟩
        · refine dv1 (l_gT rfl rfl (gt rfl b10) fun _ => l_field fd49_3 rfl) (dv1 (l_gT rfl rfl (gt rfl b10) fun _ => l_load ty3 rfl rfl rfl rfl rfl) (dv1 (l_gT rfl rfl (gt rfl b10) fun _ => l_field fd49_3 rfl) (dv1 (l_gT rfl rfl (gt rfl b10) fun _ => l_load ty3 rfl rfl rfl rfl rfl) (dv1 (l_gT rfl rfl (gt rfl b10) fun _ => l_bin rfl rfl b_eql) (dv1 (l_pickT (gt rfl b10) (.v _)) (dv1 (l_move (.v _)) ?_))))))
          rcases condE hF with ⟨b11, hF⟩ | ⟨b11, hF⟩
          · refine dv1 (l_gT rfl rfl (gt rfl b11) fun _ => l_field fd49_4 rfl) (dv1 (l_gT rfl rfl (gt rfl b11) fun _ => l_load ty2 rfl rfl rfl rfl rfl) (dv1 (l_gT rfl rfl (gt rfl b11) fun _ => l_field fd49_4 rfl) (dv1 (l_gT rfl rfl (gt rfl b11) fun _ => l_load ty2 rfl rfl rfl rfl rfl) (dv1 (l_gT rfl rfl (gt rfl b11) fun _ => l_bin rfl rfl b_eql) (dv1 (l_pickT (gt rfl b11) (.v _)) (dv1 (l_move (.v _)) ?_))))))
            rcases condE hF with ⟨b12, hF⟩ | ⟨b12, hF⟩
            · refine dv1 (l_gT rfl rfl (gt rfl b12) fun _ => l_field fd49_5 rfl) (dv1 (l_gT rfl rfl (gt rfl b12) fun _ => l_load ty9 rfl rfl rfl rfl rfl) (dv1 (l_gT rfl rfl (gt rfl b12) fun _ => l_field fd49_5 rfl) (dv1 (l_gT rfl rfl (gt rfl b12) fun _ => l_load ty9 rfl rfl rfl rfl rfl) (dv1 (l_gT rfl rfl (gt rfl b12) fun _ => l_eqS rfl rfl rfl) (dv1 (l_pickT (gt rfl b12) (.v _)) (dv1 (l_move (.v _)) ?_))))))
              rcases condE hF with ⟨b13, hF⟩ | ⟨b13, hF⟩
              · refine dv1 (l_gT rfl rfl (gt rfl b13) fun _ => l_field fd49_7 rfl) (dv1 (l_gT rfl rfl (gt rfl b13) fun _ => l_load ty4 rfl rfl rfl rfl rfl) (dv1 (l_gT rfl rfl (gt rfl b13) fun _ => l_field fd49_7 rfl) (dv1 (l_gT rfl rfl (gt rfl b13) fun _ => l_load ty4 rfl rfl rfl rfl rfl) (dv1 (l_gT rfl rfl (gt rfl b13) fun _ => l_eqB (by kernel_rfl) rfl rfl rfl) (dv1 (l_pickT (gt rfl b13) (.v _)) (dv1 (l_move (.v _)) ?_))))))
                rcases condE hF with ⟨b14, hF⟩ | ⟨b14, hF⟩
                · refine dv1 (l_gT rfl rfl (gt rfl b14) fun _ => l_field fd49_6 rfl) (dv1 (l_gT rfl rfl (gt rfl b14) fun _ => l_load ty27 rfl rfl rfl rfl rfl) (dv1 (l_gT rfl rfl (gt rfl b14) fun _ => l_field fd49_6 rfl) (dv1 (l_gT rfl rfl (gt rfl b14) fun _ => l_load ty27 rfl rfl rfl rfl rfl) ?_)))
                  obtain ⟨y15, h16, hF⟩ := bindE hF
                  refine dvC (l_gTC rfl rfl (gt rfl b14) fun _ => (l_call (B := true) (FnI.mk' (by kernel_rfl)) (.cons (.rf _ _ _ _) (.one (.rf rfl rfl rfl (clm k_iC _))) (.cons (.rf _ _ _ _) (.one (.rf rfl rfl rfl (clm k_iC _))) .nil)) (p_R04_Ints_ac h16) (okT p_R04_Ints_ok))) ?_
                  rintro _ rfl
                  refine dv1 (l_pickT (gt rfl b14) (.v _)) (dv1 (l_assign (.v _)) (dvE ?_))
                  cases hF
                  refine q_join ?_
                  exact (le_of [] rfl (.s .nil rfl) .nil)
                · refine dv1 (l_gF rfl rfl (gt rfl b14) rfl) (dv1 (l_gF rfl rfl (gt rfl b14) rfl) (dv1 (l_gF rfl rfl (gt rfl b14) rfl) (dv1 (l_gF rfl rfl (gt rfl b14) rfl) (dv1 (l_gF rfl rfl (gt rfl b14) rfl) (dv1 (l_pickF (gt rfl b14) (.v _)) (dv1 (l_assign (.v _)) (dvE ?_)))))))
                  cases hF
                  refine q_join ?_
                  exact (le_of [] rfl (.s .nil rfl) .nil)
              · refine dv1 (l_gF rfl rfl (gt rfl b13) rfl) (dv1 (l_gF rfl rfl (gt rfl b13) rfl) (dv1 (l_gF rfl rfl (gt rfl b13) rfl) (dv1 (l_gF rfl rfl (gt rfl b13) rfl) (dv1 (l_gF rfl rfl (gt rfl b13) rfl) (dv1 (l_pickF (gt rfl b13) (.v _)) (dv1 (l_move (.v _)) (dv1 (l_gF rfl rfl rfl rfl) (dv1 (l_gF rfl rfl rfl rfl) ?_))))))))
                refine dv1 (l_gF rfl rfl rfl rfl) (dv1 (l_gF rfl rfl rfl rfl) (dv1 (l_gF rfl rfl rfl rfl) (dv1 (l_pickF rfl (.v _)) (dv1 (l_assign (.v _)) (dvE ?_)))))
                cases hF
                refine q_join ?_
                exact (le_of [] rfl (.s .nil rfl) .nil)
            · refine dv1 (l_gF rfl rfl (gt rfl b12) rfl) (dv1 (l_gF rfl rfl (gt rfl b12) rfl) (dv1 (l_gF rfl rfl (gt rfl b12) rfl) (dv1 (l_gF rfl rfl (gt rfl b12) rfl) (dv1 (l_gF rfl rfl (gt rfl b12) rfl) (dv1 (l_pickF (gt rfl b12) (.v _)) (dv1 (l_move (.v _)) (dv1 (l_gF rfl rfl rfl rfl) (dv1 (l_gF rfl rfl rfl rfl) ?_))))))))
              refine dv1 (l_gF rfl rfl rfl rfl) (dv1 (l_gF rfl rfl rfl rfl) (dv1 (l_gF rfl rfl rfl rfl) (dv1 (l_pickF rfl (.v _)) (dv1 (l_move (.v _)) (dv1 (l_gF rfl rfl rfl rfl) (dv1 (l_gF rfl rfl rfl rfl) (dv1 (l_gF rfl rfl rfl rfl) (dv1 (l_gF rfl rfl rfl rfl) ?_))))))))
              refine dv1 (l_gF rfl rfl rfl rfl) (dv1 (l_pickF rfl (.v _)) (dv1 (l_assign (.v _)) (dvE ?_)))
              cases hF
              refine q_join ?_
              exact (le_of [] rfl (.s .nil rfl) .nil)
          · refine dv1 (l_gF rfl rfl (gt rfl b11) rfl) (dv1 (l_gF rfl rfl (gt rfl b11) rfl) (dv1 (l_gF rfl rfl (gt rfl b11) rfl) (dv1 (l_gF rfl rfl (gt rfl b11) rfl) (dv1 (l_gF rfl rfl (gt rfl b11) rfl) (dv1 (l_pickF (gt rfl b11) (.v _)) (dv1 (l_move (.v _)) (dv1 (l_gF rfl rfl rfl rfl) (dv1 (l_gF rfl rfl rfl rfl) ?_))))))))
            refine dv1 (l_gF rfl rfl rfl rfl) (dv1 (l_gF rfl rfl rfl rfl) (dv1 (l_gF rfl rfl rfl rfl) (dv1 (l_pickF rfl (.v _)) (dv1 (l_move (.v _)) (dv1 (l_gF rfl rfl rfl rfl) (dv1 (l_gF rfl rfl rfl rfl) (dv1 (l_gF rfl rfl rfl rfl) (dv1 (l_gF rfl rfl rfl rfl) ?_))))))))
            refine dv1 (l_gF rfl rfl rfl rfl) (dv1 (l_pickF rfl (.v _)) (dv1 (l_move (.v _)) (dv1 (l_gF rfl rfl rfl rfl) (dv1 (l_gF rfl rfl rfl rfl) (dv1 (l_gF rfl rfl rfl rfl) (dv1 (l_gF rfl rfl rfl rfl) (dv1 (l_gF rfl rfl rfl rfl) (dv1 (l_pickF rfl (.v _)) ?_))))))))
            refine dv1 (l_assign (.v _)) (dvE ?_)
            cases hF
            refine q_join ?_
            exact (le_of [] rfl (.s .nil rfl) .nil)
        · refine dv1 (l_gF rfl rfl (gt rfl b10) rfl) (dv1 (l_gF rfl rfl (gt rfl b10) rfl) (dv1 (l_gF rfl rfl (gt rfl b10) rfl) (dv1 (l_gF rfl rfl (gt rfl b10) rfl) (dv1 (l_gF rfl rfl (gt rfl b10) rfl) (dv1 (l_pickF (gt rfl b10) (.v _)) (dv1 (l_move (.v _)) (dv1 (l_gF rfl rfl rfl rfl) (dv1 (l_gF rfl rfl rfl rfl) ?_))))))))
          refine dv1 (l_gF rfl rfl rfl rfl) (dv1 (l_gF rfl rfl rfl rfl) (dv1 (l_gF rfl rfl rfl rfl) (dv1 (l_pickF rfl (.v _)) (dv1 (l_move (.v _)) (dv1 (l_gF rfl rfl rfl rfl) (dv1 (l_gF rfl rfl rfl rfl) (dv1 (l_gF rfl rfl rfl rfl) (dv1 (l_gF rfl rfl rfl rfl) ?_))))))))
          refine dv1 (l_gF rfl rfl rfl rfl) (dv1 (l_pickF rfl (.v _)) (dv1 (l_move (.v _)) (dv1 (l_gF rfl rfl rfl rfl) (dv1 (l_gF rfl rfl rfl rfl) (dv1 (l_gF rfl rfl rfl rfl) (dv1 (l_gF rfl rfl rfl rfl) (dv1 (l_gF rfl rfl rfl rfl) (dv1 (l_pickF rfl (.v _)) ?_))))))))
          refine dv1 (l_move (.v _)) (dv1 (l_gF rfl rfl rfl rfl) (dv1 (l_gF rfl rfl rfl rfl) (dv1 (l_gF rfl rfl rfl rfl) (dv1 (l_gF rfl rfl rfl rfl) (dv1 (l_gF rfl rfl rfl rfl) (dv1 (l_pickF rfl (.v _)) (dv1 (l_assign (.v _)) (dvE ?_))))))))
          cases hF
          refine q_join ?_
          exact (le_of [] rfl (.s .nil rfl) .nil)
      · refine dv1 (l_gF rfl rfl (gt rfl b9) rfl) (dv1 (l_gF rfl rfl (gt rfl b9) rfl) (dv1 (l_gF rfl rfl (gt rfl b9) rfl) (dv1 (l_gF rfl rfl (gt rfl b9) rfl) (dv1 (l_gF rfl rfl (gt rfl b9) rfl) (dv1 (l_pickF (gt rfl b9) (.v _)) (dv1 (l_move (.v _)) (dv1 (l_gF rfl rfl rfl rfl) (dv1 (l_gF rfl rfl rfl rfl) ?_))))))))
        refine dv1 (l_gF rfl rfl rfl rfl) (dv1 (l_gF rfl rfl rfl rfl) (dv1 (l_gF rfl rfl rfl rfl) (dv1 (l_pickF rfl (.v _)) (dv1 (l_move (.v _)) (dv1 (l_gF rfl rfl rfl rfl) (dv1 (l_gF rfl rfl rfl rfl) (dv1 (l_gF rfl rfl rfl rfl) (dv1 (l_gF rfl rfl rfl rfl) ?_))))))))
        refine dv1 (l_gF rfl rfl rfl rfl) (dv1 (l_pickF rfl (.v _)) (dv1 (l_move (.v _)) (dv1 (l_gF rfl rfl rfl rfl) (dv1 (l_gF rfl rfl rfl rfl) (dv1 (l_gF rfl rfl rfl rfl) (dv1 (l_gF rfl rfl rfl rfl) (dv1 (l_gF rfl rfl rfl rfl) (dv1 (l_pickF rfl (.v _)) ?_))))))))
        refine dv1 (l_move (.v _)) (dv1 (l_gF rfl rfl rfl rfl) (dv1 (l_gF rfl rfl rfl rfl) (dv1 (l_gF rfl rfl rfl rfl) (dv1 (l_gF rfl rfl rfl rfl) (dv1 (l_gF rfl rfl rfl rfl) (dv1 (l_pickF rfl (.v _)) (dv1 (l_move (.v _)) (dv1 (l_gF rfl rfl rfl rfl) ?_))))))))
        refine dv1 (l_gF rfl rfl rfl rfl) (dv1 (l_gF rfl rfl rfl rfl) (dv1 (l_gF rfl rfl rfl rfl) (dv1 (l_gF rfl rfl rfl rfl) (dv1 (l_pickF rfl (.v _)) (dv1 (l_assign (.v _)) (dvE ?_))))))
        cases hF
        refine q_join ?_
        exact (le_of [] rfl (.s .nil rfl) .nil)
    · refine dv1 (l_gF rfl rfl (gt rfl b8) rfl) (dv1 (l_gF rfl rfl (gt rfl b8) rfl) (dv1 (l_gF rfl rfl (gt rfl b8) rfl) (dv1 (l_gF rfl rfl (gt rfl b8) rfl) (dv1 (l_gF rfl rfl (gt rfl b8) rfl) (dv1 (l_pickF (gt rfl b8) (.v _)) (dv1 (l_move (.v _)) (dv1 (l_gF rfl rfl rfl rfl) (dv1 (l_gF rfl rfl rfl rfl) ?_))))))))
      refine dv1 (l_gF rfl rfl rfl rfl) (dv1 (l_gF rfl rfl rfl rfl) (dv1 (l_gF rfl rfl rfl rfl) (dv1 (l_pickF rfl (.v _)) (dv1 (l_move (.v _)) (dv1 (l_gF rfl rfl rfl rfl) (dv1 (l_gF rfl rfl rfl rfl) (dv1 (l_gF rfl rfl rfl rfl) (dv1 (l_gF rfl rfl rfl rfl) ?_))))))))
      refine dv1 (l_gF rfl rfl rfl rfl) (dv1 (l_pickF rfl (.v _)) (dv1 (l_move (.v _)) (dv1 (l_gF rfl rfl rfl rfl) (dv1 (l_gF rfl rfl rfl rfl) (dv1 (l_gF rfl rfl rfl rfl) (dv1 (l_gF rfl rfl rfl rfl) (dv1 (l_gF rfl rfl rfl rfl) (dv1 (l_pickF rfl (.v _)) ?_))))))))
      refine dv1 (l_move (.v _)) (dv1 (l_gF rfl rfl rfl rfl) (dv1 (l_gF rfl rfl rfl rfl) (dv1 (l_gF rfl rfl rfl rfl) (dv1 (l_gF rfl rfl rfl rfl) (dv1 (l_gF rfl rfl rfl rfl) (dv1 (l_pickF rfl (.v _)) (dv1 (l_move (.v _)) (dv1 (l_gF rfl rfl rfl rfl) ?_))))))))
      refine dv1 (l_gF rfl rfl rfl rfl) (dv1 (l_gF rfl rfl rfl rfl) (dv1 (l_gF rfl rfl rfl rfl) (dv1 (l_gF rfl rfl rfl rfl) (dv1 (l_pickF rfl (.v _)) (dv1 (l_move (.v _)) (dv1 (l_gF rfl rfl rfl rfl) (dv1 (l_gF rfl rfl rfl rfl) (dv1 (l_gF rfl rfl rfl rfl) ?_))))))))
      refine dv1 (l_gF rfl rfl rfl rfl) (dv1 (l_gF rfl rfl rfl rfl) (dv1 (l_pickF rfl (.v _)) (dv1 (l_assign (.v _)) (dvE ?_))))
      cases hF
      refine q_join ?_
      exact (le_of [] rfl (.s .nil rfl) .nil)
  replace hF := hG7
  refine w_ret ?_
  cases hF
  refine q_end (.inr rfl) ?_
  exact ret_ok rfl (.cons (.tmp (.v _) (.v _)) .nil) (by decide) rfl

def p_R05_SameFunc (a0 : MFun) (a1 : MFun) : Option Bool :=
(((bif decide (a0.Ret = a1.Ret) then
some (!(decide (((a0.Blocks.length : Nat) : Int) = ((a1.Blocks.length : Nat) : Int))))
else
some true)).bind fun (s2 : Bool) =>
(bif s2 then
some false
else
(((loop (fun (s3008 : Nat) =>
(bif decide (s3008 < a0.Blocks.length) then
((((a0.Blocks[s3008]?).bind fun x3016 =>
((a1.Blocks[s3008]?).bind fun x3018 =>
((((p_R04_Ints x3016.Params x3018.Params).bind fun y3023 =>
(bif y3023 then
(bif decide (((x3016.Ops.length : Nat) : Int) = ((x3018.Ops.length : Nat) : Int)) then
((p_R05_sameEnd x3016.End x3018.End).bind fun y3027 =>
some (!y3027))
else
some true)
else
some true))).bind fun (s3021 : Bool) =>
(bif s3021 then
some (Xt.out false)
else
(loop (fun (s6030 : Nat) =>
(bif decide (s6030 < x3016.Ops.length) then
((x3016.Ops[s6030]?).bind fun x6036 =>
((x3018.Ops[s6030]?).bind fun x6038 =>
((p_R04_Same x6036 x6038).bind fun y6040 =>
(bif y6040 then
some (Xt.go (s6030 + 1))
else
some (Xt.out (Xt.out false))))))
else
some (Xt.out (Xt.go ())))) Fu 0)))))).bind fun s3014 => s3014.on (fun (s6043 : Unit) =>
some (Xt.go (s3008 + 1)))
(fun o6045 => some (Xt.out (Xt.out o6045))))
else
some (Xt.out (Xt.go ())))) Fu 0)).bind fun s6 => s6.on (fun (s6046 : Unit) =>
some true)
(fun o6048 => some o6048))))

theorem p_R05_SameFunc_ok {r : Bool} : rOk (.v (.bool r)) = true ∧ FrT (.v (.bool r)) := ⟨rfl, (.one (.cl (.v _)))⟩

set_option maxRecDepth 10000 in
set_option maxHeartbeats 4000000 in
theorem p_R05_SameFunc_ac {a0 : MFun} {a1 : MFun} {r : Bool} (hF : p_R05_SameFunc a0 a1 = some r) : AC Tryd.prog GT 8 [.ag (MFun.ct a0), .ag (MFun.ct a1)] (fun c => c = .v (.bool r)) := by
  unfold p_R05_SameFunc at hF
  refine AC.mk (nt := 82) Tryd.func8 rfl rfl rfl fun w N => ?_
  refine w_seq (w_region (by rfl) (dvN (l_box (.ag _) rfl rfl) (dvN (l_box (.ag _) rfl rfl) (dv1 (l_assign (.v _)) (dvE (q_seq (w_seq ?_)))))))
  obtain ⟨s2, hF, hG3⟩ := bindE hF
  refine w_seqJ ⟨[(2, .ad 0 2 0 0), (3, .ad 1 2 0 0), (22, .v (.bool s2)), (47, .un), (48, .un), (49, .un), (50, .un), (51, .un), (52, .un), (53, .un), (56, .un), (57, .un), (58, .un), (59, .un), (60, .un), (61, .un)], [(0, some ⟨31, 2, [[.v (.int .i64 a0.Ret), .ro (.sl 47 8 (a0.Blocks.map MBlk.ct))]]⟩), (1, some ⟨31, 2, [[.v (.int .i64 a1.Ret), .ro (.sl 47 8 (a1.Blocks.map MBlk.ct))]]⟩)], 1⟩ ?_ ?_
  · refine w_region (by rfl) (dv1 (l_field fd31_0 rfl) (dv1 (l_load ty3 rfl rfl rfl rfl rfl) (dv1 (l_field fd31_0 rfl) (dv1 (l_load ty3 rfl rfl rfl rfl rfl) (dv1 (l_bin rfl rfl b_neq) (dv1 (l_move (.v _)) ?_))))))
    rcases condE hF with ⟨b4, hF⟩ | ⟨b4, hF⟩
    · refine dv1 (l_gT rfl rfl (gt rfl (nF b4)) fun _ => l_field fd31_1 rfl) (dv1 (l_gT rfl rfl (gt rfl (nF b4)) fun _ => l_load ty29 rfl rfl rfl rfl rfl) (dv1 (l_gT rfl rfl (gt rfl (nF b4)) fun _ => l_lenRo sl29 rfl rfl (List.length_map _)) (dv1 (l_gT rfl rfl (gt rfl (nF b4)) fun _ => l_field fd31_1 rfl) (dv1 (l_gT rfl rfl (gt rfl (nF b4)) fun _ => l_load ty29 rfl rfl rfl rfl rfl) (dv1 (l_gT rfl rfl (gt rfl (nF b4)) fun _ => l_lenRo sl29 rfl rfl (List.length_map _)) (dv1 (l_gT rfl rfl (gt rfl (nF b4)) fun _ => l_bin rfl rfl b_neq) (dv1 (l_pickF (gt rfl (nF b4)) (.v _)) (dvE ?_))))))))
      cases hF
      refine q_join ?_
      exact (le_of [(0, some 0), (1, some 64)] rfl (.s (.s (.s (.cons .un (.un _) (.cons .un (.un _) (.cons .un (.un _) (.cons .un (.un _) (.cons .un (.un _) (.cons .un (.un _) (.cons .un (.un _) (.cons .un (.un _) (.cons .un (.un _) (.cons .un (.un _) (.cons .un (.un _) (.cons .un (.un _) (.cons .un (.un _) .nil))))))))))))) rfl) rfl) rfl) (.box rfl rfl (.s rfl) (.box rfl rfl (.s rfl) .nil)))
    · refine dv1 (l_gF rfl rfl (gt rfl (nT b4)) rfl) (dv1 (l_gF rfl rfl (gt rfl (nT b4)) rfl) (dv1 (l_gF rfl rfl (gt rfl (nT b4)) rfl) (dv1 (l_gF rfl rfl (gt rfl (nT b4)) rfl) (dv1 (l_gF rfl rfl (gt rfl (nT b4)) rfl) (dv1 (l_gF rfl rfl (gt rfl (nT b4)) rfl) (dv1 (l_gF rfl rfl (gt rfl (nT b4)) rfl) (dv1 (l_pickT (gt rfl (nT b4)) (.v _)) (dvE ?_))))))))
      cases hF
      refine q_join ?_
      exact (le_of [(0, some 0), (1, some 64)] rfl (.s (.s (.s (.cons .un (.un _) (.cons .un (.un _) (.cons .un (.un _) (.cons .un (.un _) (.cons .un (.un _) (.cons .un (.un _) (.cons .un (.un _) (.cons .un (.un _) (.cons .un (.un _) (.cons .un (.un _) (.cons .un (.un _) (.cons .un (.un _) (.cons .un (.un _) .nil))))))))))))) rfl) rfl) rfl) (.box rfl rfl (.s rfl) (.box rfl rfl (.s rfl) .nil)))
  replace hF := hG3
  rcases condE hF with ⟨b5, hF⟩ | ⟨b5, hF⟩
  · refine w_condT rfl b5 ?_
    refine w_seq (w_region (by rfl) (dv1 (l_assign (.v _)) (dvE (q_seq (w_ret (q_reS ?_))))))
    cases hF
    refine q_end (.inr rfl) ?_
    exact ret_ok rfl (.cons (.tmp (.v _) (.v _)) .nil) (by decide) rfl
  · refine w_condF rfl b5 ?_
    refine w_skip (q_seq ?_)
    obtain ⟨s6, hF, hG7⟩ := bindE hF
    refine w_seqE s6 (fun (s6046 : Unit) => ⟨[], [], 1⟩) ?_ (fun s6046 e6047 => ?_)
    · refine w_seq (w_region (by rfl) (dv1 (l_assign (.v _)) (dvE (q_seq (w_block (w_loopF hF (fun (s3008 : Nat) => ⟨[(2, .ad 0 2 0 0), (3, .ad 1 2 0 0), (5, .v (.int .i64 ((s3008 : Nat) : Int))), (47, .un), (48, .un), (49, .un), (50, .un), (51, .un), (52, .un), (53, .un), (56, .un), (57, .un), (58, .un), (59, .un), (60, .un), (61, .un)], [(0, some ⟨31, 2, [[.v (.int .i64 a0.Ret), .ro (.sl 47 8 (a0.Blocks.map MBlk.ct))]]⟩), (1, some ⟨31, 2, [[.v (.int .i64 a1.Ret), .ro (.sl 47 8 (a1.Blocks.map MBlk.ct))]]⟩)], 1⟩) (le_of [(0, some 0), (1, some 1)] rfl (.s (.s (.s (.cons .un (.un _) (.cons .un (.un _) (.cons .un (.un _) (.cons .un (.un _) (.cons .un (.un _) (.cons .un (.un _) (.cons .un (.un _) (.cons .un (.un _) (.cons .un (.un _) (.cons .un (.un _) (.cons .un (.un _) (.cons .un (.un _) (.cons .un (.un _) .nil))))))))))))) rfl) rfl) rfl) (.box rfl rfl (.s rfl) (.box rfl rfl (.s rfl) .nil))) ?_))))))
      intro s3008 y3009 hF hx3010
      refine w_seq (w_seq (w_region (by rfl) (dv1 (l_move (.v _)) (dv1 (l_field fd31_1 rfl) (dv1 (l_load ty29 rfl rfl rfl rfl rfl) (dv1 (l_lenRo sl29 rfl rfl (List.length_map _)) (dv1 (l_bin rfl rfl b_lssN) (dvE ?_))))))))
      refine q_seq ?_
      rcases condE hF with ⟨b3012, hF⟩ | ⟨b3012, hF⟩
      · refine w_lenS 25 rfl fun l3013 => ?_
        refine w_condT rfl b3012 ?_
        refine w_skip (q_seq ?_)
        obtain ⟨s3014, hF, hG3015⟩ := bindE hF
        refine w_seqE s3014 (fun (s6043 : Unit) => ⟨[(2, .ad 0 2 0 0), (3, .ad 1 2 0 0), (5, .v (.int .i64 ((s3008 : Nat) : Int))), (47, .un), (48, .un), (49, .un), (50, .un), (51, .un), (52, .un), (53, .un), (56, .un), (57, .un), (58, .un), (59, .un), (60, .un), (61, .un)], [(0, some ⟨31, 2, [[.v (.int .i64 a0.Ret), .ro (.sl 47 8 (a0.Blocks.map MBlk.ct))]]⟩), (1, some ⟨31, 2, [[.v (.int .i64 a1.Ret), .ro (.sl 47 8 (a1.Blocks.map MBlk.ct))]]⟩)], 1⟩) ?_ (fun s6043 e6044 => ?_)
        · refine w_block (w_seq (w_draw [[], [0], [], [0, 1, 2], [0, 1, 2, 3], [], [5], [], [5, 6, 7], [5, 6, 7, 8], [], [], [0, 1, 2, 3, 4, 10, 11], [0, 1, 2, 3, 4, 5, 6, 7, 8, 9, 10, 11, 12]] [0, 1, 2, 3, 4, 5, 6, 7, 8, 9, 10, 11, 12, 13] (by kernel_rfl) (by rfl) ⟨by decide, by rfl⟩ (by rfl) ?_))
          refine de1 rfl (l_field fd31_1 rfl) rfl (de1 rfl (l_load ty29 rfl rfl rfl rfl rfl) rfl (de1 rfl (l_move (.v _)) rfl ?_))
          obtain ⟨x3016, h3017, hF⟩ := bindE hF
          refine de1 rfl (l_indexRo s3008 sl29 rfl rfl rfl (map_at h3017)) rfl (de1 rfl (l_loadARo ty47 rfl rfl) rfl (de1 rfl (l_field fd31_1 rfl) rfl (de1 rfl (l_load ty29 rfl rfl rfl rfl rfl) rfl (de1 rfl (l_move (.v _)) rfl ?_))))
          obtain ⟨x3018, h3019, hF⟩ := bindE hF
          refine de1 rfl (l_indexRo s3008 sl29 rfl rfl rfl (map_at h3019)) rfl (de1 rfl (l_loadARo ty47 rfl rfl) rfl (deN rfl (l_alloc zt47) rfl (deN rfl (l_alloc zt47) rfl (deS rfl (l_store ty47 rfl (.ag _) rfl rfl rfl (Nat.le_of_ble_eq_true rfl) rfl) rfl (deS rfl (l_store ty47 rfl (.ag _) rfl rfl rfl (Nat.le_of_ble_eq_true rfl) rfl) rfl (ddE (q_seq (w_seq ?_))))))))
          obtain ⟨s3021, hF, hG3022⟩ := bindE hF
          refine w_seqJ ⟨[(2, .ad 0 2 0 0), (3, .ad 1 2 0 0), (5, .v (.int .i64 ((s3008 : Nat) : Int))), (6, .ad 2 8 0 0), (7, .ad 3 8 0 0), (47, .un), (48, .un), (49, .un), (50, .un), (51, .un), (52, .un), (53, .un), (56, .un), (57, .un), (58, .un), (59, .un), (60, .un), (61, .un), (62, .v (.bool s3021))], [(0, some ⟨31, 2, [[.v (.int .i64 a0.Ret), .ro (.sl 47 8 (a0.Blocks.map MBlk.ct))]]⟩), (1, some ⟨31, 2, [[.v (.int .i64 a1.Ret), .ro (.sl 47 8 (a1.Blocks.map MBlk.ct))]]⟩), (2, some ⟨47, 8, [[.ro (.sl 3 1 (x3016.Params.map iC)), .ro (.sl 49 8 (x3016.Ops.map MOp.ct)), .v (.int .i64 x3016.End.K), .v (.int .i64 x3016.End.A), .v (.int .i64 x3016.End.To), .v (.int .i64 x3016.End.Else), .ro (.sl 3 1 (x3016.End.L.map iC)), .ro (.sl 3 1 (x3016.End.M.map iC))]]⟩), (3, some ⟨47, 8, [[.ro (.sl 3 1 (x3018.Params.map iC)), .ro (.sl 49 8 (x3018.Ops.map MOp.ct)), .v (.int .i64 x3018.End.K), .v (.int .i64 x3018.End.A), .v (.int .i64 x3018.End.To), .v (.int .i64 x3018.End.Else), .ro (.sl 3 1 (x3018.End.L.map iC)), .ro (.sl 3 1 (x3018.End.M.map iC))]]⟩)], 1⟩ ?_ ?_
          · refine w_region (by rfl) (dv1 (l_field fd47_0 rfl) (dv1 (l_load ty27 rfl rfl rfl rfl rfl) (dv1 (l_field fd47_0 rfl) (dv1 (l_load ty27 rfl rfl rfl rfl rfl) ?_))))
            obtain ⟨y3023, h3024, hF⟩ := bindE hF
            refine dvC (l_call (B := false) (FnI.mk' (by kernel_rfl)) (.cons (.ro _) (.one (.ro _)) (.cons (.ro _) (.one (.ro _)) .nil)) (p_R04_Ints_ac h3024) (okF p_R04_Ints_ok)) ?_
            rintro _ rfl
            refine dv1 (l_not rfl) (dv1 (l_move (.v _)) ?_)
            rcases condE hF with ⟨b3025, hF⟩ | ⟨b3025, hF⟩
            · refine dv1 (l_gT rfl rfl (gt rfl (nF b3025)) fun _ => l_field fd47_1 rfl) (dv1 (l_gT rfl rfl (gt rfl (nF b3025)) fun _ => l_load ty45 rfl rfl rfl rfl rfl) (dv1 (l_gT rfl rfl (gt rfl (nF b3025)) fun _ => l_lenRo sl45 rfl rfl (List.length_map _)) (dv1 (l_gT rfl rfl (gt rfl (nF b3025)) fun _ => l_field fd47_1 rfl) (dv1 (l_gT rfl rfl (gt rfl (nF b3025)) fun _ => l_load ty45 rfl rfl rfl rfl rfl) (dv1 (l_gT rfl rfl (gt rfl (nF b3025)) fun _ => l_lenRo sl45 rfl rfl (List.length_map _)) (dv1 (l_gT rfl rfl (gt rfl (nF b3025)) fun _ => l_bin rfl rfl b_neq) (dv1 (l_pickF (gt rfl (nF b3025)) (.v _)) (dv1 (l_move (.v _)) ?_))))))))
              rcases condE hF with ⟨b3026, hF⟩ | ⟨b3026, hF⟩
              · refine dv1 (l_gT rfl rfl (gt rfl (nF b3026)) fun _ => l_field fd47_2 rfl) (dv1 (l_gT rfl rfl (gt rfl (nF b3026)) fun _ => l_loadA ty44 rfl rfl rfl rfl rfl) (dv1 (l_gT rfl rfl (gt rfl (nF b3026)) fun _ => l_field fd47_2 rfl) (dv1 (l_gT rfl rfl (gt rfl (nF b3026)) fun _ => l_loadA ty44 rfl rfl rfl rfl rfl) ?_)))
                obtain ⟨y3027, h3028, hF⟩ := bindE hF
                refine dvC (l_gTC rfl rfl (gt rfl (nF b3026)) fun _ => (l_call (B := false) (FnI.mk' (by kernel_rfl)) (.cons (.ag _) (.ag (.cons (.v _) (.cons (.v _) (.cons (.v _) (.cons (.v _) (.cons (.ro _) (.cons (.ro _) .nil))))))) (.cons (.ag _) (.ag (.cons (.v _) (.cons (.v _) (.cons (.v _) (.cons (.v _) (.cons (.ro _) (.cons (.ro _) .nil))))))) .nil)) (p_R05_sameEnd_ac h3028) (okF p_R05_sameEnd_ok))) ?_
                rintro _ rfl
                refine dv1 (l_gT rfl rfl (gt rfl (nF b3026)) fun _ => l_not rfl) (dv1 (l_pickF (gt rfl (nF b3026)) (.v _)) (dvE ?_))
                cases hF
                refine q_join ?_
                exact (le_of [(0, some 0), (1, some 1), (2, some 1024), (3, some 1088)] rfl (.s (.s (.s (.s (.s (.cons (.ad _ _ _ _) (.un _) (.cons (.ro _) (.un _) (.cons (.v _) (.un _) (.cons (.ad _ _ _ _) (.un _) (.cons (.ro _) (.un _) (.cons (.v _) (.un _) (.cons (.v _) (.un _) (.cons (.ad _ _ _ _) (.un _) (.cons (.ag _) (.un _) (.cons (.ad _ _ _ _) (.un _) (.cons (.ag _) (.un _) (.cons (.v _) (.un _) (.cons (.v _) (.un _) (.s .nil rfl)))))))))))))) rfl) rfl) rfl) rfl) rfl) (.box rfl rfl (.s rfl) (.box rfl rfl (.s rfl) (.box rfl rfl (.s rfl) (.box rfl rfl (.s rfl) .nil)))))
              · refine dv1 (l_gF rfl rfl (gt rfl (nT b3026)) rfl) (dv1 (l_gF rfl rfl (gt rfl (nT b3026)) rfl) (dv1 (l_gF rfl rfl (gt rfl (nT b3026)) rfl) (dv1 (l_gF rfl rfl (gt rfl (nT b3026)) rfl) (dv1 (l_gF rfl rfl (gt rfl (nT b3026)) rfl) (dv1 (l_gF rfl rfl (gt rfl (nT b3026)) rfl) (dv1 (l_pickT (gt rfl (nT b3026)) (.v _)) (dvE ?_)))))))
                cases hF
                refine q_join ?_
                exact (le_of [(0, some 0), (1, some 1), (2, some 1024), (3, some 1088)] rfl (.s (.s (.s (.s (.s (.cons (.ad _ _ _ _) (.un _) (.cons (.ro _) (.un _) (.cons (.v _) (.un _) (.cons (.ad _ _ _ _) (.un _) (.cons (.ro _) (.un _) (.cons (.v _) (.un _) (.cons (.v _) (.un _) (.cons (.v _) (.un _) (.cons (.v _) (.un _) (.cons (.v _) (.un _) (.cons (.v _) (.un _) (.cons (.v _) (.un _) (.cons (.v _) (.un _) (.s .nil rfl)))))))))))))) rfl) rfl) rfl) rfl) rfl) (.box rfl rfl (.s rfl) (.box rfl rfl (.s rfl) (.box rfl rfl (.s rfl) (.box rfl rfl (.s rfl) .nil)))))
            · refine dv1 (l_gF rfl rfl (gt rfl (nT b3025)) rfl) (dv1 (l_gF rfl rfl (gt rfl (nT b3025)) rfl) (dv1 (l_gF rfl rfl (gt rfl (nT b3025)) rfl) (dv1 (l_gF rfl rfl (gt rfl (nT b3025)) rfl) (dv1 (l_gF rfl rfl (gt rfl (nT b3025)) rfl) (dv1 (l_gF rfl rfl (gt rfl (nT b3025)) rfl) (dv1 (l_gF rfl rfl (gt rfl (nT b3025)) rfl) (dv1 (l_pickT (gt rfl (nT b3025)) (.v _)) (dv1 (l_move (.v _)) ?_))))))))
              refine dv1 (l_gF rfl rfl rfl rfl) (dv1 (l_gF rfl rfl rfl rfl) (dv1 (l_gF rfl rfl rfl rfl) (dv1 (l_gF rfl rfl rfl rfl) (dv1 (l_gF rfl rfl rfl rfl) (dv1 (l_gF rfl rfl rfl rfl) (dv1 (l_pickT rfl (.v _)) (dvE ?_)))))))
              cases hF
              refine q_join ?_
              exact (le_of [(0, some 0), (1, some 1), (2, some 1024), (3, some 1088)] rfl (.s (.s (.s (.s (.s (.cons (.v _) (.un _) (.cons (.v _) (.un _) (.cons (.v _) (.un _) (.cons (.v _) (.un _) (.cons (.v _) (.un _) (.cons (.v _) (.un _) (.cons (.v _) (.un _) (.cons (.v _) (.un _) (.cons (.v _) (.un _) (.cons (.v _) (.un _) (.cons (.v _) (.un _) (.cons (.v _) (.un _) (.cons (.v _) (.un _) (.s .nil rfl)))))))))))))) rfl) rfl) rfl) rfl) rfl) (.box rfl rfl (.s rfl) (.box rfl rfl (.s rfl) (.box rfl rfl (.s rfl) (.box rfl rfl (.s rfl) .nil)))))
          replace hF := hG3022
          rcases condE hF with ⟨b3029, hF⟩ | ⟨b3029, hF⟩
          · refine w_condT rfl b3029 ?_
            refine w_seq (w_region (by rfl) (dv1 (l_assign (.v _)) (dvE (q_seq (w_ret (q_reS (q_reI (q_reS ?_))))))))
            refine q_reS (q_reI (q_reS ?_))
            cases hF
            have hF := onOut hG3015
            cases hF
            cases hx3010 _ rfl
            have hF := onOut hG7
            cases hF
            refine q_end (.inr rfl) ?_
            exact ret_ok rfl (.cons (.tmp (.v _) (.v _)) .nil) (by decide) rfl
          · refine w_condF rfl b3029 ?_
            refine w_skip (q_seq (w_seq (w_region (by rfl) (dv1 (l_assign (.v _)) (dvE (q_seq (w_block (w_loopF hF (fun (s6030 : Nat) => ⟨[(2, .ad 0 2 0 0), (3, .ad 1 2 0 0), (5, .v (.int .i64 ((s3008 : Nat) : Int))), (6, .ad 2 8 0 0), (7, .ad 3 8 0 0), (8, .v (.int .i64 ((s6030 : Nat) : Int))), (47, .un), (48, .un), (49, .un), (50, .un), (51, .un), (52, .un), (53, .un), (56, .un), (57, .un), (58, .un), (59, .un), (60, .un), (61, .un)], [(0, some ⟨31, 2, [[.v (.int .i64 a0.Ret), .ro (.sl 47 8 (a0.Blocks.map MBlk.ct))]]⟩), (1, some ⟨31, 2, [[.v (.int .i64 a1.Ret), .ro (.sl 47 8 (a1.Blocks.map MBlk.ct))]]⟩), (2, some ⟨47, 8, [[.ro (.sl 3 1 (x3016.Params.map iC)), .ro (.sl 49 8 (x3016.Ops.map MOp.ct)), .v (.int .i64 x3016.End.K), .v (.int .i64 x3016.End.A), .v (.int .i64 x3016.End.To), .v (.int .i64 x3016.End.Else), .ro (.sl 3 1 (x3016.End.L.map iC)), .ro (.sl 3 1 (x3016.End.M.map iC))]]⟩), (3, some ⟨47, 8, [[.ro (.sl 3 1 (x3018.Params.map iC)), .ro (.sl 49 8 (x3018.Ops.map MOp.ct)), .v (.int .i64 x3018.End.K), .v (.int .i64 x3018.End.A), .v (.int .i64 x3018.End.To), .v (.int .i64 x3018.End.Else), .ro (.sl 3 1 (x3018.End.L.map iC)), .ro (.sl 3 1 (x3018.End.M.map iC))]]⟩)], 1⟩) (le_of [(0, some 0), (1, some 1), (2, some 2), (3, some 3)] rfl (.s (.s (.s (.s (.s (.s (.cons .un (.un _) (.cons .un (.un _) (.cons .un (.un _) (.cons .un (.un _) (.cons .un (.un _) (.cons .un (.un _) (.cons .un (.un _) (.cons .un (.un _) (.cons .un (.un _) (.cons .un (.un _) (.cons .un (.un _) (.cons .un (.un _) (.cons .un (.un _) .nil))))))))))))) rfl) rfl) rfl) rfl) rfl) rfl) (.box rfl rfl (.s rfl) (.box rfl rfl (.s rfl) (.box rfl rfl (.s rfl) (.box rfl rfl (.s rfl) .nil))))) ?_))))))))
            intro s6030 y6031 hF hx6032
            refine w_seq (w_seq (w_region (by rfl) (dv1 (l_move (.v _)) (dv1 (l_field fd47_1 rfl) (dv1 (l_load ty45 rfl rfl rfl rfl rfl) (dv1 (l_lenRo sl45 rfl rfl (List.length_map _)) (dv1 (l_bin rfl rfl b_lssN) (dvE ?_))))))))
            refine q_seq ?_
            rcases condE hF with ⟨b6034, hF⟩ | ⟨b6034, hF⟩
            · refine w_lenS 65 rfl fun l6035 => ?_
              refine w_condT rfl b6034 ?_
              refine w_skip (q_seq (w_seq (w_block (w_seq (w_draw [[], [0], [], [0, 1, 2], [0, 1, 2, 3], [], [5], [], [5, 6, 7], [5, 6, 7, 8], [0, 1, 2, 3, 4, 5, 6, 7, 8, 9], [0, 1, 2, 3, 4, 5, 6, 7, 8, 9, 10]] [0, 1, 2, 3, 4, 5, 6, 7, 8, 9, 10, 11] (by kernel_rfl) (by rfl) ⟨by decide, by rfl⟩ (by rfl) ?_)))))
              refine de1 rfl (l_field fd47_1 rfl) rfl (de1 rfl (l_load ty45 rfl rfl rfl rfl rfl) rfl (de1 rfl (l_move (.v _)) rfl ?_))
              obtain ⟨x6036, h6037, hF⟩ := bindE hF
              refine de1 rfl (l_indexRo s6030 sl45 rfl rfl rfl (map_at h6037)) rfl (de1 rfl (l_loadARo ty49 rfl rfl) rfl (de1 rfl (l_field fd47_1 rfl) rfl (de1 rfl (l_load ty45 rfl rfl rfl rfl rfl) rfl (de1 rfl (l_move (.v _)) rfl ?_))))
              obtain ⟨x6038, h6039, hF⟩ := bindE hF
              refine de1 rfl (l_indexRo s6030 sl45 rfl rfl rfl (map_at h6039)) rfl (de1 rfl (l_loadARo ty49 rfl rfl) rfl ?_)
              obtain ⟨y6040, h6041, hF⟩ := bindE hF
              refine deC1 rfl (l_call (B := false) (FnI.mk' (by kernel_rfl)) (.cons (.ag _) (.ag (.cons (.v _) (.cons (.v _) (.cons (.v _) (.cons (.v _) (.cons (.v _) (.cons (.v _) (.cons (.ro _) (.cons (.v _) .nil))))))))) (.cons (.ag _) (.ag (.cons (.v _) (.cons (.v _) (.cons (.v _) (.cons (.v _) (.cons (.v _) (.cons (.v _) (.cons (.ro _) (.cons (.v _) .nil))))))))) .nil)) (p_R04_Same_ac h6041) (okF p_R04_Same_ok)) rfl ?_
              refine de1 rfl (l_not rfl) rfl (ddE (q_seq ?_))
              rcases condE hF with ⟨b6042, hF⟩ | ⟨b6042, hF⟩
              · refine w_condF rfl (nF b6042) ?_
                refine w_skip (q_in (q_seq (w_region (by rfl) (dv1 (l_move (.v _)) (dv1 (l_bin rfl rfl (b_incN (of_decide_eq_true b6034) l6035)) (dv1 (l_assign (.v _)) (dvE ?_)))))))
                cases hF
                refine qL rfl ?_
                exact (le_of [(0, some 0), (1, some 1), (2, some 2), (3, some 3)] rfl (.s (.s (.s (.s (.s (.s (.cons .un (.un _) (.cons .un (.un _) (.cons .un (.un _) (.cons .un (.un _) (.cons .un (.un _) (.cons .un (.un _) (.cons .un (.un _) (.cons .un (.un _) (.cons .un (.un _) (.cons .un (.un _) (.cons .un (.un _) (.cons .un (.un _) (.cons .un (.un _) .nil))))))))))))) rfl) rfl) rfl) rfl) rfl) rfl) (.box rfl rfl (.s rfl) (.box rfl rfl (.s rfl) (.box rfl rfl (.s rfl) (.box rfl rfl (.s rfl) .nil)))))
              · refine w_condT rfl (nT b6042) ?_
                refine w_seq (w_region (by rfl) (dv1 (l_assign (.v _)) (dvE (q_seq (w_ret (q_reI (q_reS (q_reS ?_))))))))
                refine q_reI (q_reI (q_reS (q_reS (q_reI (q_reS ?_)))))
                cases hF
                cases hx6032 _ rfl
                have hF := onOut hG3015
                cases hF
                cases hx3010 _ rfl
                have hF := onOut hG7
                cases hF
                refine q_end (.inr rfl) ?_
                exact ret_ok rfl (.cons (.tmp (.v _) (.v _)) .nil) (by decide) rfl
            · refine w_condF rfl b6034 ?_
              refine w_exit ?_
              cases hF
              cases hx6032 _ rfl
              refine q_exS (q_exS (q_here (q_in (qL rfl ?_))))
              exact (le_of [(0, some 0), (1, some 1)] rfl (.s (.s (.s (.cons .un (.un _) (.cons .un (.un _) (.cons .un (.un _) (.cons .un (.un _) (.cons .un (.un _) (.cons .un (.un _) (.cons .un (.un _) (.cons .un (.un _) (.cons .un (.un _) (.cons .un (.un _) (.cons .un (.un _) (.cons .un (.un _) (.cons .un (.un _) .nil))))))))))))) rfl) rfl) rfl) (.box rfl rfl (.s rfl) (.box rfl rfl (.s rfl) .nil)))
        subst e6044
        replace hF := onGo hG3015
        refine w_region (by rfl) (dv1 (l_move (.v _)) (dv1 (l_bin rfl rfl (b_incN (of_decide_eq_true b3012) l3013)) (dv1 (l_assign (.v _)) (dvE ?_))))
        cases hF
        refine qL rfl ?_
        exact (le_of [(0, some 0), (1, some 1)] rfl (.s (.s (.s (.cons .un (.un _) (.cons .un (.un _) (.cons .un (.un _) (.cons .un (.un _) (.cons .un (.un _) (.cons .un (.un _) (.cons .un (.un _) (.cons .un (.un _) (.cons .un (.un _) (.cons .un (.un _) (.cons .un (.un _) (.cons .un (.un _) (.cons .un (.un _) .nil))))))))))))) rfl) rfl) rfl) (.box rfl rfl (.s rfl) (.box rfl rfl (.s rfl) .nil)))
      · refine w_condF rfl b3012 ?_
        refine w_exit ?_
        cases hF
        cases hx3010 _ rfl
        refine q_exS (q_exS (q_here (qL rfl ?_)))
        exact (le_of [] rfl .nil .nil)
    subst e6047
    replace hF := onGo hG7
    refine w_seq (w_region (by rfl) (dv1 (l_assign (.v _)) (dvE (q_seq (w_ret ?_)))))
    cases hF
    refine q_end (.inr rfl) ?_
    exact ret_ok rfl (.cons (.tmp (.v _) (.v _)) .nil) (by decide) rfl

def p_R05_First (a0 : MFun) (a1 : Int) : Option Int :=
(((loop (fun (s3004 : Int × Int) =>
(((bif decide (s3004.2 < a1) then
some (decide (s3004.2 < ((a0.Blocks.length : Nat) : Int)))
else
some false)).bind fun (s3009 : Bool) =>
(bif s3009 then
((atI a0.Blocks s3004.2).bind fun x3013 =>
some (Xt.go (IntKind.i64.wrap (IntKind.i64.wrap (s3004.1 + ((x3013.Params.length : Nat) : Int)) + ((x3013.Ops.length : Nat) : Int)), IntKind.i64.wrap (s3004.2 + 1))))
else
some (Xt.out s3004.1)))) Fu (0, 0))).bind fun (s2 : Int) =>
some s2)

theorem p_R05_First_ok {r : Int} : rOk (.v (.int .i64 r)) = true ∧ FrT (.v (.int .i64 r)) := ⟨rfl, (.one (.cl (.v _)))⟩

set_option maxRecDepth 10000 in
set_option maxHeartbeats 4000000 in
theorem p_R05_First_ac {a0 : MFun} {a1 : Int} {r : Int} (hF : p_R05_First a0 a1 = some r) : AC Tryd.prog GT 29 [.ag (MFun.ct a0), .v (.int .i64 a1)] (fun c => c = .v (.int .i64 r)) := by
  unfold p_R05_First at hF
  refine AC.mk (nt := 37) Tryd.func29 rfl rfl rfl fun w N => ?_
  refine w_seq (w_region (by rfl) (dvN (l_box (.ag _) rfl rfl) (dv1 (l_assign (.v _)) (dvE (q_seq (w_seq (w_region (by rfl) (dv1 (l_assign (.v _)) ?_))))))))
  refine dvE (q_seq ?_)
  obtain ⟨s2, hF, hG3⟩ := bindE hF
  refine w_seqJ ⟨[(5, .v (.int .i64 s2))], [], 1⟩ ?_ ?_
  · refine w_seq (w_region (by rfl) (dv1 (l_assign (.v _)) (dvE (q_seq (w_block (w_loopF hF (fun (s3004 : Int × Int) => ⟨[(1, .v (.int .i64 a1)), (2, .ad 0 2 0 0), (5, .v (.int .i64 s3004.1)), (6, .v (.int .i64 s3004.2)), (11, .un), (12, .un), (13, .un), (14, .un), (15, .un)], [(0, some ⟨31, 2, [[.v (.int .i64 a0.Ret), .ro (.sl 47 8 (a0.Blocks.map MBlk.ct))]]⟩)], 1⟩) (le_of [(0, some 0)] rfl (.s (.s (.s (.s (.cons .un (.un _) (.cons .un (.un _) (.cons .un (.un _) (.cons .un (.un _) (.cons .un (.un _) .nil))))) rfl) rfl) rfl) rfl) (.box rfl rfl (.s rfl) .nil)) ?_))))))
    intro s3004 y3005 hF hx3006
    refine w_seq ?_
    obtain ⟨s3009, hF, hG3010⟩ := bindE hF
    refine w_seqJ ⟨[(1, .v (.int .i64 a1)), (2, .ad 0 2 0 0), (5, .v (.int .i64 s3004.1)), (6, .v (.int .i64 s3004.2)), (11, .un), (12, .un), (13, .un), (14, .un), (15, .un), (16, .v (.bool s3009))], [(0, some ⟨31, 2, [[.v (.int .i64 a0.Ret), .ro (.sl 47 8 (a0.Blocks.map MBlk.ct))]]⟩)], 1⟩ ?_ ?_
    · refine w_region (by rfl) (dv1 (l_move (.v _)) (dv1 (l_move (.v _)) (dv1 (l_bin rfl rfl b_lss) (dv1 (l_move (.v _)) ?_))))
      rcases condE hF with ⟨b3011, hF⟩ | ⟨b3011, hF⟩
      · refine dv1 (l_gT rfl rfl (gt rfl b3011) fun _ => l_move (.v _)) (dv1 (l_gT rfl rfl (gt rfl b3011) fun _ => l_field fd31_1 rfl) (dv1 (l_gT rfl rfl (gt rfl b3011) fun _ => l_load ty29 rfl rfl rfl rfl rfl) (dv1 (l_gT rfl rfl (gt rfl b3011) fun _ => l_lenRo sl29 rfl rfl (List.length_map _)) (dv1 (l_gT rfl rfl (gt rfl b3011) fun _ => l_bin rfl rfl b_lss) (dv1 (l_pickT (gt rfl b3011) (.v _)) (dvE ?_))))))
        cases hF
        refine q_join ?_
        exact (le_of [(0, some 0)] rfl (.s (.s (.s (.s (.cons (.v _) (.un _) (.cons (.ad _ _ _ _) (.un _) (.cons (.ro _) (.un _) (.cons (.v _) (.un _) (.cons (.v _) (.un _) (.s .nil rfl)))))) rfl) rfl) rfl) rfl) (.box rfl rfl (.s rfl) .nil))
      · refine dv1 (l_gF rfl rfl (gt rfl b3011) rfl) (dv1 (l_gF rfl rfl (gt rfl b3011) rfl) (dv1 (l_gF rfl rfl (gt rfl b3011) rfl) (dv1 (l_gF rfl rfl (gt rfl b3011) rfl) (dv1 (l_gF rfl rfl (gt rfl b3011) rfl) (dv1 (l_pickF (gt rfl b3011) (.v _)) (dvE ?_))))))
        cases hF
        refine q_join ?_
        exact (le_of [(0, some 0)] rfl (.s (.s (.s (.s (.cons (.v _) (.un _) (.cons (.v _) (.un _) (.cons (.v _) (.un _) (.cons (.v _) (.un _) (.cons (.v _) (.un _) (.s .nil rfl)))))) rfl) rfl) rfl) rfl) (.box rfl rfl (.s rfl) .nil))
    replace hF := hG3010
    rcases condE hF with ⟨b3012, hF⟩ | ⟨b3012, hF⟩
    · refine w_condT rfl b3012 ?_
      refine w_skip (q_seq (w_seq (w_block (w_draw [[], [], [1], [], [1, 2, 3], [1, 2, 3, 4], [1, 2, 3, 4, 5], [1, 2, 3, 4, 5, 6], [0, 1, 2, 3, 4, 5, 6, 7], [], [9], [], [9, 10, 11], [9, 10, 11, 12], [9, 10, 11, 12, 13], [9, 10, 11, 12, 13, 14], [0, 1, 2, 3, 4, 5, 6, 7, 8, 9, 10, 11, 12, 13, 14, 15], [0, 1, 2, 3, 4, 5, 6, 7, 8, 9, 10, 11, 12, 13, 14, 15, 16]] [0, 1, 2, 3, 4, 5, 6, 7, 8, 9, 10, 11, 12, 13, 14, 15, 16, 17] (by kernel_rfl) (by rfl) ⟨by decide, by rfl⟩ (by rfl) ?_))))
      refine de1 rfl (l_move (.v _)) rfl (de1 rfl (l_field fd31_1 rfl) rfl (de1 rfl (l_load ty29 rfl rfl rfl rfl rfl) rfl (de1 rfl (l_move (.v _)) rfl ?_)))
      obtain ⟨x3013, h3014, hF⟩ := bindE hF
      refine de1 rfl (l_indexRo s3004.2.toNat sl29 rfl rfl (atI_z h3014) (map_at (atI_at h3014))) rfl (de1 rfl (l_fieldRo fd47_0 rfl) rfl (de1 rfl (l_loadRo ty27 rfl rfl) rfl (de1 rfl (l_lenRo sl27 rfl rfl (List.length_map _)) rfl (de1 rfl (l_bin rfl rfl (b_add rfl)) rfl (de1 rfl (l_field fd31_1 rfl) rfl (de1 rfl (l_load ty29 rfl rfl rfl rfl rfl) rfl (de1 rfl (l_move (.v _)) rfl (de1 rfl (l_indexRo s3004.2.toNat sl29 rfl rfl (atI_z h3014) (map_at (atI_at h3014))) rfl ?_))))))))
      refine de1 rfl (l_fieldRo fd47_1 rfl) rfl (de1 rfl (l_loadRo ty45 rfl rfl) rfl (de1 rfl (l_lenRo sl45 rfl rfl (List.length_map _)) rfl (de1 rfl (l_bin rfl rfl (b_add rfl)) rfl (de1 rfl (l_assign (.v _)) rfl (ddE (q_in (q_seq (w_region (by rfl) ?_))))))))
      refine dv1 (l_move (.v _)) (dv1 (l_bin rfl rfl (b_add rfl)) (dv1 (l_assign (.v _)) (dvE ?_)))
      cases hF
      refine qL rfl ?_
      exact (le_of [(0, some 0)] rfl (.s (.s (.s (.s (.cons .un (.un _) (.cons .un (.un _) (.cons .un (.un _) (.cons .un (.un _) (.cons .un (.un _) .nil))))) rfl) rfl) rfl) rfl) (.box rfl rfl (.s rfl) .nil))
    · refine w_condF rfl b3012 ?_
      refine w_exit ?_
      cases hF
      cases hx3006 _ rfl
      refine q_exS (q_exS (q_here (q_join ?_)))
      exact (le_of [] rfl (.s .nil rfl) .nil)
  replace hF := hG3
  refine w_seq (w_region (by rfl) (dv1 (l_move (.v _)) (dv1 (l_assign (.v _)) (dvE (q_seq (w_ret ?_))))))
  cases hF
  refine q_end (.inr rfl) ?_
  exact ret_ok rfl (.cons (.tmp (.v _) (.v _)) .nil) (by decide) rfl

def p_R05_Values (a0 : MFun) : Option Int :=
((p_R05_First a0 ((a0.Blocks.length : Nat) : Int)).bind fun y1 =>
some y1)

theorem p_R05_Values_ok {r : Int} : rOk (.v (.int .i64 r)) = true ∧ FrT (.v (.int .i64 r)) := ⟨rfl, (.one (.cl (.v _)))⟩

set_option maxRecDepth 10000 in
set_option maxHeartbeats 4000000 in
theorem p_R05_Values_ac {a0 : MFun} {r : Int} (hF : p_R05_Values a0 = some r) : AC Tryd.prog GT 28 [.ag (MFun.ct a0)] (fun c => c = .v (.int .i64 r)) := by
  unfold p_R05_Values at hF
  refine AC.mk (nt := 8) Tryd.func28 rfl rfl rfl fun w N => ?_
  refine w_seq (w_region (by rfl) (dvN (l_box (.ag _) rfl rfl) (dv1 (l_assign (.v _)) (dvE (q_seq (w_seq (w_region (by rfl) (dv1 (l_loadA ty31 rfl rfl rfl rfl rfl) ?_))))))))
  refine dv1 (l_field fd31_1 rfl) (dv1 (l_load ty29 rfl rfl rfl rfl rfl) (dv1 (l_lenRo sl29 rfl rfl (List.length_map _)) ?_))
  obtain ⟨y1, h2, hF⟩ := bindE hF
  refine dvC (l_call (B := false) (FnI.mk' (by kernel_rfl)) (.cons (.ag _) (.ag (.cons (.v _) (.cons (.ro _) .nil))) (.cons (.v _) (.one (.v _)) .nil)) (p_R05_First_ac h2) (okF p_R05_First_ok)) ?_
  rintro _ rfl
  refine dv1 (l_assign (.v _)) (dvE (q_seq (w_ret ?_)))
  cases hF
  refine q_end (.inr rfl) ?_
  exact ret_ok rfl (.cons (.tmp (.v _) (.v _)) .nil) (by decide) rfl

def p_R16_Blocks (a0 : MFun) (a1 : List Int) : Option MFun :=
((p_R05_Values a0).bind fun y12088 =>
((natI y12088).bind fun m12090 =>
(ck (8 * m12090 ≤ 140737488355328)
((((loop (fun (s15096 : (List Int) × Nat) =>
(bif decide (s15096.2 < s15096.1.length) then
((s15096.1[s15096.2]?).bind fun x15102 =>
some (Xt.go ((s15096.1.set s15096.2 (-1)), (s15096.2 + 1))))
else
some (Xt.out s15096.1))) Fu ((List.replicate m12090 (0 : Int)), 0))).bind fun (s12094 : (List Int)) =>
(ck (8 * a0.Blocks.length ≤ 140737488355328)
((((loop (fun (s18108 : (List Int) × Nat) =>
(bif decide (s18108.2 < s18108.1.length) then
((s18108.1[s18108.2]?).bind fun x18114 =>
some (Xt.go ((s18108.1.set s18108.2 (-1)), (s18108.2 + 1))))
else
some (Xt.out s18108.1))) Fu ((List.replicate a0.Blocks.length (0 : Int)), 0))).bind fun (s15106 : (List Int)) =>
(((loop (fun (s21121 : (List Int) × (List Int) × Int × (List Int) × Nat) =>
(bif decide (s21121.2.2.2.2 < a1.length) then
((((a1[s21121.2.2.2.2]?).bind fun x21133 =>
(((bif decide (x21133 < 0) then
some true
else
(bif decide (((a0.Blocks.length : Nat) : Int) ≤ x21133) then
some true
else
((atI s21121.2.2.2.1 x21133).bind fun x21140 =>
some (decide ((0 : Int) ≤ x21140)))))).bind fun (s21136 : Bool) =>
(bif s21136 then
some (s21121.1, s21121.2.1, s21121.2.2.1, s21121.2.2.2.1)
else
((atI s21121.2.2.2.1 x21133).bind fun x21143 =>
(ck ((s21121.1.length + 1) * 8 ≤ 140737488355328)
(((p_R05_First a0 x21133).bind fun y21146 =>
(loop (fun (s24148 : (List Int) × Int × Int) =>
((p_R05_First a0 (IntKind.i64.wrap (x21133 + 1))).bind fun y24152 =>
(bif decide (s24148.2.2 < y24152) then
((atI s24148.1 s24148.2.2).bind fun x24155 =>
some (Xt.go ((s24148.1.set s24148.2.2.toNat s24148.2.1), IntKind.i64.wrap (s24148.2.1 + 1), IntKind.i64.wrap (s24148.2.2 + 1))))
else
some (Xt.out ((s21121.1 ++ [x21133]), s24148.1, s24148.2.1, (s21121.2.2.2.1.set x21133.toNat ((s21121.1.length : Nat) : Int))))))) Fu (s21121.2.1, s21121.2.2.1, y21146)))))))))).bind fun (s21131 : (List Int) × (List Int) × Int × (List Int)) =>
some (Xt.go (s21131.1, s21131.2.1, s21131.2.2.1, s21131.2.2.2, (s21121.2.2.2.2 + 1))))
else
some (Xt.out (s21121.1, s21121.2.1, s21121.2.2.2.1)))) Fu (([] : List Int), s12094, 0, s15106, 0))).bind fun (s18119 : (List Int) × (List Int) × (List Int)) =>
((p_R16_Rename a0 s18119.2.1 s18119.2.2).bind fun y24157 =>
(((loop (fun (s27162 : (List MBlk) × Nat) =>
(bif decide (s27162.2 < s18119.1.length) then
((s18119.1[s27162.2]?).bind fun x27168 =>
((atI y24157.Blocks x27168).bind fun x27170 =>
(ck ((s27162.1.length + 1) * 128 ≤ 140737488355328)
(some (Xt.go ((s27162.1 ++ [x27170]), (s27162.2 + 1)))))))
else
some (Xt.out s27162.1))) Fu ([], 0))).bind fun (s24160 : (List MBlk)) =>
some (⟨a0.Ret, s24160⟩ : MFun))))))))))))

theorem p_R16_Blocks_ok {r : MFun} : rOk (.ag [.v (.int .i64 r.Ret), .ro (.sl 47 8 (r.Blocks.map MBlk.ct))]) = true ∧ True := ⟨rfl, trivial⟩

set_option maxRecDepth 10000 in
set_option maxHeartbeats 4000000 in
theorem p_R16_Blocks_ac {a0 : MFun} {a1 : List Int} {r : MFun} (hF : p_R16_Blocks a0 a1 = some r) : AC Tryd.prog GT 12 [.ag (MFun.ct a0), .sl 3 1 (a1.map iC)] (fun c => c = .ag [.v (.int .i64 r.Ret), .ro (.sl 47 8 (r.Blocks.map MBlk.ct))]) := by
  unfold p_R16_Blocks at hF
  refine AC.mk (nt := 122) Tryd.func12 rfl rfl rfl fun w N => ?_
  refine w_seq (w_region (by rfl) (dvN (l_box (.ag _) rfl rfl) (dvN (l_alloc zt31) (dvE (q_seq (w_seq (w_draw [[], [], [1], [1, 2], [0, 1, 2], [0, 1, 2, 3, 4], [0, 1, 2, 3, 4, 5]] [0, 1, 2, 3, 4, 5, 6] (by kernel_rfl) (by rfl) ⟨by decide, by rfl⟩ (by rfl) ?_)))))))
  refine deN rfl (l_bs0 sl27 zt3 rfl (by decide)) rfl (de1 rfl (l_loadA ty31 rfl rfl rfl rfl rfl) rfl ?_)
  obtain ⟨y12088, h12089, hF⟩ := bindE hF
  refine deC1 rfl (l_call (B := false) (FnI.mk' (by kernel_rfl)) (.cons (.ag _) (.ag (.cons (.v _) (.cons (.ro _) .nil))) .nil) (p_R05_Values_ac h12089) (okF p_R05_Values_ok)) rfl ?_
  obtain ⟨m12090, h12091, hF⟩ := bindE hF
  obtain ⟨c12092, hF⟩ := ckE hF
  refine deN rfl (l_makeR (iC (0 : Int)) m12090 sl27 by3 zt3 rfl rfl rfl (natI_z h12091) (natI_z h12091) c12092 (by decide) rfl (by intro j c z h1 h2 w N bs; rcases j with _ | j <;> simp at h1 h2 <;> (subst h1; subst h2; first | exact .v _ | exact .nil)) (rep_map iC _ _)) rfl (de1 rfl (l_assign (.rf _ _ _ _)) rfl (de1 rfl (l_assign (.rf _ _ _ _)) rfl (de1 rfl (l_assign (.v _)) rfl (ddE (q_seq ?_)))))
  obtain ⟨s12094, hF, hG12095⟩ := bindE hF
  refine w_seqJ ⟨[(1, .ro (.sl 3 1 (a1.map iC))), (2, .ad 0 2 0 0), (4, .ad 1 2 0 0), (5, .rf 2 0 ((([] : List Int).map iC).length) 1), (6, .rf 3 0 ((s12094.map iC).length) 1), (7, .v (.int .i64 0)), (56, .un), (57, .un), (58, .un), (59, .un), (60, .un), (63, .un), (64, .un), (65, .un), (66, .un), (67, .un)], [(0, some ⟨31, 2, [[.v (.int .i64 a0.Ret), .ro (.sl 47 8 (a0.Blocks.map MBlk.ct))]]⟩), (1, some ⟨31, 2, [[.v (.int .i64 0), .v (.slice none 0 0)]]⟩), (2, some ⟨3, 1, ([] : List Int).map iC⟩), (3, some ⟨3, 1, s12094.map iC⟩)], 1⟩ ?_ ?_
  · refine w_seq (w_region (by rfl) (dv1 (l_assign (.v _)) (dvE (q_seq (w_block (w_loopF hF (fun (s15096 : (List Int) × Nat) => ⟨[(1, .ro (.sl 3 1 (a1.map iC))), (2, .ad 0 2 0 0), (4, .ad 1 2 0 0), (5, .rf 2 0 ((([] : List Int).map iC).length) 1), (6, .rf 3 0 ((s15096.1.map iC).length) 1), (7, .v (.int .i64 0)), (8, .v (.int .i64 ((s15096.2 : Nat) : Int))), (56, .un), (57, .un), (58, .un), (59, .un), (60, .un), (63, .un), (64, .un), (65, .un), (66, .un), (67, .un)], [(0, some ⟨31, 2, [[.v (.int .i64 a0.Ret), .ro (.sl 47 8 (a0.Blocks.map MBlk.ct))]]⟩), (1, some ⟨31, 2, [[.v (.int .i64 0), .v (.slice none 0 0)]]⟩), (2, some ⟨3, 1, ([] : List Int).map iC⟩), (3, some ⟨3, 1, s15096.1.map iC⟩)], 1⟩) (le_of [(0, some 0), (1, some 64), (2, some 128), (3, some 320)] rfl (.s (.s (.s (.s (.s (.s (.s (.cons .un (.un _) (.cons .un (.un _) (.cons .un (.un _) (.cons .un (.un _) (.cons .un (.un _) (.cons .un (.un _) (.cons .un (.un _) (.cons .un (.un _) (.cons .un (.un _) (.cons .un (.un _) .nil)))))))))) rfl) rfl) rfl) rfl) rfl) rfl) rfl) (.box rfl rfl (.s rfl) (.box rfl rfl (.s rfl) (.row rfl rfl rfl (clm k_iC _) (.row rfl rfl rfl (clm k_iC _) .nil))))) ?_))))))
    intro s15096 y15097 hF hx15098
    refine w_seq (w_seq (w_region (by rfl) (dv1 (l_move (.v _)) (dv1 (l_move (.rf _ _ _ _)) (dv1 (l_lenR sl27 rfl rfl (List.length_map _)) (dv1 (l_bin rfl rfl b_lssN) (dvE (q_seq ?_))))))))
    rcases condE hF with ⟨b15100, hF⟩ | ⟨b15100, hF⟩
    · refine w_lenK 3 rfl fun l15101 => ?_
      refine w_condT rfl b15100 ?_
      refine w_skip (q_seq (w_seq (w_block (w_region (by rfl) (dv1 (l_move (.rf _ _ _ _)) (dv1 (l_move (.v _)) ?_))))))
      obtain ⟨x15102, h15103, hF⟩ := bindE hF
      refine dv1 (l_index s15096.2 sl27 rfl rfl rfl (lt_at iC h15103)) (dvS (l_storeR ty3 rfl (.v _) rfl (map_at h15103) rfl (Nat.le_of_ble_eq_true rfl) rfl (map_set' iC s15096.1 s15096.2 (-1))) (dvE (q_in (q_seq (w_region (by rfl) (dv1 (l_move (.v _)) (dv1 (l_bin rfl rfl (b_incN (of_decide_eq_true b15100) l15101)) (dv1 (l_assign (.v _)) ?_))))))))
      refine dvE ?_
      cases hF
      refine qL rfl ?_
      exact (le_of [(0, some 0), (1, some 1), (2, some 2), (3, some 3)] rfl (.s (.s (.s (.s (.cons (.rf _ _ _ _) (.rf rfl (by simp)) (.s (.s (.cons .un (.un _) (.cons .un (.un _) (.cons .un (.un _) (.cons .un (.un _) (.cons .un (.un _) (.cons .un (.un _) (.cons .un (.un _) (.cons .un (.un _) (.cons .un (.un _) (.cons .un (.un _) .nil)))))))))) rfl) rfl)) rfl) rfl) rfl) rfl) (.box rfl rfl (.s rfl) (.box rfl rfl (.s rfl) (.row rfl rfl rfl (clm k_iC _) (.row rfl rfl rfl (clm k_iC _) .nil)))))
    · refine w_condF rfl b15100 ?_
      refine w_exit ?_
      cases hF
      cases hx15098 _ rfl
      refine q_exS (q_exS (q_here (q_join ?_)))
      exact (le_of [(0, some 0), (1, some 1), (2, some 2), (3, some 3)] rfl (.s (.s (.s (.s (.s (.s (.cons .un (.un _) (.cons .un (.un _) (.cons .un (.un _) (.cons .un (.un _) (.cons .un (.un _) (.cons .un (.un _) (.cons .un (.un _) (.cons .un (.un _) (.cons .un (.un _) (.cons .un (.un _) .nil)))))))))) rfl) rfl) rfl) rfl) rfl) rfl) (.box rfl rfl (.s rfl) (.box rfl rfl (.s rfl) (.row rfl rfl rfl (clm k_iC _) (.row rfl rfl rfl (clm k_iC _) .nil)))))
  replace hF := hG12095
  refine w_seq (w_region (by rfl) (dv1 (l_field fd31_1 rfl) (dv1 (l_load ty29 rfl rfl rfl rfl rfl) (dv1 (l_lenRo sl29 rfl rfl (List.length_map _)) ?_))))
  obtain ⟨c15104, hF⟩ := ckE hF
  refine dvN (l_makeR (iC (0 : Int)) a0.Blocks.length sl27 by3 zt3 rfl rfl rfl rfl rfl c15104 (by decide) rfl (by intro j c z h1 h2 w N bs; rcases j with _ | j <;> simp at h1 h2 <;> (subst h1; subst h2; first | exact .v _ | exact .nil)) (rep_map iC _ _)) (dv1 (l_assign (.rf _ _ _ _)) (dvE (q_seq ?_)))
  obtain ⟨s15106, hF, hG15107⟩ := bindE hF
  refine w_seqJ ⟨[(1, .ro (.sl 3 1 (a1.map iC))), (2, .ad 0 2 0 0), (4, .ad 1 2 0 0), (5, .rf 2 0 ((([] : List Int).map iC).length) 1), (6, .rf 3 0 ((s12094.map iC).length) 1), (7, .v (.int .i64 0)), (9, .rf 4 0 ((s15106.map iC).length) 1), (56, .un), (57, .un), (58, .un), (59, .un), (60, .un), (63, .un), (64, .un), (65, .un), (66, .un), (67, .un)], [(0, some ⟨31, 2, [[.v (.int .i64 a0.Ret), .ro (.sl 47 8 (a0.Blocks.map MBlk.ct))]]⟩), (1, some ⟨31, 2, [[.v (.int .i64 0), .v (.slice none 0 0)]]⟩), (2, some ⟨3, 1, ([] : List Int).map iC⟩), (3, some ⟨3, 1, s12094.map iC⟩), (4, some ⟨3, 1, s15106.map iC⟩)], 1⟩ ?_ ?_
  · refine w_seq (w_region (by rfl) (dv1 (l_assign (.v _)) (dvE (q_seq (w_block (w_loopF hF (fun (s18108 : (List Int) × Nat) => ⟨[(1, .ro (.sl 3 1 (a1.map iC))), (2, .ad 0 2 0 0), (4, .ad 1 2 0 0), (5, .rf 2 0 ((([] : List Int).map iC).length) 1), (6, .rf 3 0 ((s12094.map iC).length) 1), (7, .v (.int .i64 0)), (9, .rf 4 0 ((s18108.1.map iC).length) 1), (10, .v (.int .i64 ((s18108.2 : Nat) : Int))), (56, .un), (57, .un), (58, .un), (59, .un), (60, .un), (63, .un), (64, .un), (65, .un), (66, .un), (67, .un)], [(0, some ⟨31, 2, [[.v (.int .i64 a0.Ret), .ro (.sl 47 8 (a0.Blocks.map MBlk.ct))]]⟩), (1, some ⟨31, 2, [[.v (.int .i64 0), .v (.slice none 0 0)]]⟩), (2, some ⟨3, 1, ([] : List Int).map iC⟩), (3, some ⟨3, 1, s12094.map iC⟩), (4, some ⟨3, 1, s18108.1.map iC⟩)], 1⟩) (le_of [(0, some 0), (1, some 1), (2, some 2), (3, some 3), (4, some 256)] rfl (.s (.s (.s (.s (.s (.s (.s (.s (.cons .un (.un _) (.cons .un (.un _) (.cons .un (.un _) (.cons .un (.un _) (.cons .un (.un _) (.cons .un (.un _) (.cons .un (.un _) (.cons .un (.un _) (.cons .un (.un _) (.cons .un (.un _) .nil)))))))))) rfl) rfl) rfl) rfl) rfl) rfl) rfl) rfl) (.box rfl rfl (.s rfl) (.box rfl rfl (.s rfl) (.row rfl rfl rfl (clm k_iC _) (.row rfl rfl rfl (clm k_iC _) (.row rfl rfl rfl (clm k_iC _) .nil)))))) ?_))))))
    intro s18108 y18109 hF hx18110
    refine w_seq (w_seq (w_region (by rfl) (dv1 (l_move (.v _)) (dv1 (l_move (.rf _ _ _ _)) (dv1 (l_lenR sl27 rfl rfl (List.length_map _)) (dv1 (l_bin rfl rfl b_lssN) (dvE (q_seq ?_))))))))
    rcases condE hF with ⟨b18112, hF⟩ | ⟨b18112, hF⟩
    · refine w_lenK 4 rfl fun l18113 => ?_
      refine w_condT rfl b18112 ?_
      refine w_skip (q_seq (w_seq (w_block (w_region (by rfl) (dv1 (l_move (.rf _ _ _ _)) (dv1 (l_move (.v _)) ?_))))))
      obtain ⟨x18114, h18115, hF⟩ := bindE hF
      refine dv1 (l_index s18108.2 sl27 rfl rfl rfl (lt_at iC h18115)) (dvS (l_storeR ty3 rfl (.v _) rfl (map_at h18115) rfl (Nat.le_of_ble_eq_true rfl) rfl (map_set' iC s18108.1 s18108.2 (-1))) (dvE (q_in (q_seq (w_region (by rfl) (dv1 (l_move (.v _)) (dv1 (l_bin rfl rfl (b_incN (of_decide_eq_true b18112) l18113)) (dv1 (l_assign (.v _)) ?_))))))))
      refine dvE ?_
      cases hF
      refine qL rfl ?_
      exact (le_of [(0, some 0), (1, some 1), (2, some 2), (3, some 3), (4, some 4)] rfl (.s (.s (.s (.s (.s (.s (.cons (.rf _ _ _ _) (.rf rfl (by simp)) (.s (.cons .un (.un _) (.cons .un (.un _) (.cons .un (.un _) (.cons .un (.un _) (.cons .un (.un _) (.cons .un (.un _) (.cons .un (.un _) (.cons .un (.un _) (.cons .un (.un _) (.cons .un (.un _) .nil)))))))))) rfl)) rfl) rfl) rfl) rfl) rfl) rfl) (.box rfl rfl (.s rfl) (.box rfl rfl (.s rfl) (.row rfl rfl rfl (clm k_iC _) (.row rfl rfl rfl (clm k_iC _) (.row rfl rfl rfl (clm k_iC _) .nil))))))
    · refine w_condF rfl b18112 ?_
      refine w_exit ?_
      cases hF
      cases hx18110 _ rfl
      refine q_exS (q_exS (q_here (q_join ?_)))
      exact (le_of [(0, some 0), (1, some 1), (2, some 2), (3, some 3), (4, some 4)] rfl (.s (.s (.s (.s (.s (.s (.s (.cons .un (.un _) (.cons .un (.un _) (.cons .un (.un _) (.cons .un (.un _) (.cons .un (.un _) (.cons .un (.un _) (.cons .un (.un _) (.cons .un (.un _) (.cons .un (.un _) (.cons .un (.un _) .nil)))))))))) rfl) rfl) rfl) rfl) rfl) rfl) rfl) (.box rfl rfl (.s rfl) (.box rfl rfl (.s rfl) (.row rfl rfl rfl (clm k_iC _) (.row rfl rfl rfl (clm k_iC _) (.row rfl rfl rfl (clm k_iC _) .nil))))))
  replace hF := hG15107
  obtain ⟨s18119, hF, hG18120⟩ := bindE hF
  refine w_seqJ ⟨[(2, .ad 0 2 0 0), (4, .ad 1 2 0 0), (5, .rf 2 0 ((s18119.1.map iC).length) 1), (6, .rf 3 0 ((s18119.2.1.map iC).length) 1), (9, .rf 4 0 ((s18119.2.2.map iC).length) 1)], [(0, some ⟨31, 2, [[.v (.int .i64 a0.Ret), .ro (.sl 47 8 (a0.Blocks.map MBlk.ct))]]⟩), (1, some ⟨31, 2, [[.v (.int .i64 0), .v (.slice none 0 0)]]⟩), (2, some ⟨3, 1, s18119.1.map iC⟩), (3, some ⟨3, 1, s18119.2.1.map iC⟩), (4, some ⟨3, 1, s18119.2.2.map iC⟩)], 1⟩ ?_ ?_
  · refine w_seq (w_region (by rfl) (dv1 (l_assign (.v _)) (dvE (q_seq (w_block (w_loopF hF (fun (s21121 : (List Int) × (List Int) × Int × (List Int) × Nat) => ⟨[(1, .ro (.sl 3 1 (a1.map iC))), (2, .ad 0 2 0 0), (4, .ad 1 2 0 0), (5, .rf 2 0 ((s21121.1.map iC).length) 1), (6, .rf 3 0 ((s21121.2.1.map iC).length) 1), (7, .v (.int .i64 s21121.2.2.1)), (9, .rf 4 0 ((s21121.2.2.2.1.map iC).length) 1), (11, .v (.int .i64 ((s21121.2.2.2.2 : Nat) : Int))), (56, .un), (57, .un), (58, .un), (59, .un), (60, .un), (63, .un), (64, .un), (65, .un), (66, .un), (67, .un)], [(0, some ⟨31, 2, [[.v (.int .i64 a0.Ret), .ro (.sl 47 8 (a0.Blocks.map MBlk.ct))]]⟩), (1, some ⟨31, 2, [[.v (.int .i64 0), .v (.slice none 0 0)]]⟩), (2, some ⟨3, 1, s21121.1.map iC⟩), (3, some ⟨3, 1, s21121.2.1.map iC⟩), (4, some ⟨3, 1, s21121.2.2.2.1.map iC⟩)], 1⟩) (le_of [(0, some 0), (1, some 1), (2, some 2), (3, some 3), (4, some 4)] rfl (.s (.s (.s (.s (.s (.s (.s (.s (.cons .un (.un _) (.cons .un (.un _) (.cons .un (.un _) (.cons .un (.un _) (.cons .un (.un _) (.cons .un (.un _) (.cons .un (.un _) (.cons .un (.un _) (.cons .un (.un _) (.cons .un (.un _) .nil)))))))))) rfl) rfl) rfl) rfl) rfl) rfl) rfl) rfl) (.box rfl rfl (.s rfl) (.box rfl rfl (.s rfl) (.row rfl rfl rfl (clm k_iC _) (.row rfl rfl rfl (clm k_iC _) (.row rfl rfl rfl (clm k_iC _) .nil)))))) ?_))))))
    intro s21121 y21122 hF hx21123
    refine w_seq (w_seq (w_region (by rfl) (dv1 (l_move (.v _)) (dv1 (l_move (.ro _)) (dv1 (l_lenRo sl27 rfl rfl (List.length_map _)) (dv1 (l_bin rfl rfl b_lssN) (dvE (q_seq ?_))))))))
    rcases condE hF with ⟨b21125, hF⟩ | ⟨b21125, hF⟩
    · refine w_lenS 1 rfl fun l21126 => ?_
      refine w_condT rfl b21125 ?_
      refine w_skip (q_seq ?_)
      obtain ⟨s21131, hF, hG21132⟩ := bindE hF
      refine w_seqJ ⟨[(1, .ro (.sl 3 1 (a1.map iC))), (2, .ad 0 2 0 0), (4, .ad 1 2 0 0), (5, .rf 2 0 ((s21131.1.map iC).length) 1), (6, .rf 3 0 ((s21131.2.1.map iC).length) 1), (7, .v (.int .i64 s21131.2.2.1)), (9, .rf 4 0 ((s21131.2.2.2.map iC).length) 1), (11, .v (.int .i64 ((s21121.2.2.2.2 : Nat) : Int))), (56, .un), (57, .un), (58, .un), (59, .un), (60, .un), (63, .un), (64, .un), (65, .un), (66, .un), (67, .un)], [(0, some ⟨31, 2, [[.v (.int .i64 a0.Ret), .ro (.sl 47 8 (a0.Blocks.map MBlk.ct))]]⟩), (1, some ⟨31, 2, [[.v (.int .i64 0), .v (.slice none 0 0)]]⟩), (2, some ⟨3, 1, s21131.1.map iC⟩), (3, some ⟨3, 1, s21131.2.1.map iC⟩), (4, some ⟨3, 1, s21131.2.2.2.map iC⟩)], 1⟩ ?_ ?_
      · refine w_block (w_seq (w_region (by rfl) (dv1 (l_move (.ro _)) (dv1 (l_move (.v _)) ?_))))
        obtain ⟨x21133, h21134, hF⟩ := bindE hF
        refine dv1 (l_indexRo s21121.2.2.2.2 sl27 rfl rfl rfl (map_at h21134)) (dv1 (l_loadRo ty3 rfl rfl) (dv1 (l_assign (.v _)) (dvE (q_seq (w_seq ?_)))))
        obtain ⟨s21136, hF, hG21137⟩ := bindE hF
        refine w_seqJ ⟨[(1, .ro (.sl 3 1 (a1.map iC))), (2, .ad 0 2 0 0), (4, .ad 1 2 0 0), (5, .rf 2 0 ((s21121.1.map iC).length) 1), (6, .rf 3 0 ((s21121.2.1.map iC).length) 1), (7, .v (.int .i64 s21121.2.2.1)), (9, .rf 4 0 ((s21121.2.2.2.1.map iC).length) 1), (11, .v (.int .i64 ((s21121.2.2.2.2 : Nat) : Int))), (12, .v (.int .i64 x21133)), (56, .un), (57, .un), (58, .un), (59, .un), (60, .un), (63, .un), (64, .un), (65, .un), (66, .un), (67, .un), (68, .v (.bool s21136))], [(0, some ⟨31, 2, [[.v (.int .i64 a0.Ret), .ro (.sl 47 8 (a0.Blocks.map MBlk.ct))]]⟩), (1, some ⟨31, 2, [[.v (.int .i64 0), .v (.slice none 0 0)]]⟩), (2, some ⟨3, 1, s21121.1.map iC⟩), (3, some ⟨3, 1, s21121.2.1.map iC⟩), (4, some ⟨3, 1, s21121.2.2.2.1.map iC⟩)], 1⟩ ?_ ?_
        · refine w_region (by rfl) (dv1 (l_move (.v _)) (dv1 (l_bin rfl rfl b_lss) (dv1 (l_move (.v _)) ?_)))
          rcases condE hF with ⟨b21138, hF⟩ | ⟨b21138, hF⟩
          · refine dv1 (l_gF rfl rfl (gt rfl b21138) rfl) (dv1 (l_gF rfl rfl (gt rfl b21138) rfl) (dv1 (l_gF rfl rfl (gt rfl b21138) rfl) (dv1 (l_gF rfl rfl (gt rfl b21138) rfl) (dv1 (l_gF rfl rfl (gt rfl b21138) rfl) (dv1 (l_pickT (gt rfl b21138) (.v _)) (dv1 (l_move (.v _)) (dv1 (l_gF rfl rfl rfl rfl) (dv1 (l_gF rfl rfl rfl rfl) ?_))))))))
            refine dv1 (l_gF rfl rfl rfl rfl) (dv1 (l_gF rfl rfl rfl rfl) (dv1 (l_gF rfl rfl rfl rfl) (dv1 (l_pickT rfl (.v _)) (dvE ?_))))
            cases hF
            refine q_join ?_
            exact (le_of [(0, some 0), (1, some 1), (2, some 2), (3, some 3), (4, some 4)] rfl (.s (.s (.s (.s (.s (.s (.s (.s (.s (.cons (.v _) (.un _) (.cons (.v _) (.un _) (.cons (.v _) (.un _) (.cons (.v _) (.un _) (.cons (.v _) (.un _) (.cons (.v _) (.un _) (.cons (.v _) (.un _) (.cons (.v _) (.un _) (.cons (.v _) (.un _) (.cons (.v _) (.un _) (.s .nil rfl))))))))))) rfl) rfl) rfl) rfl) rfl) rfl) rfl) rfl) rfl) (.box rfl rfl (.s rfl) (.box rfl rfl (.s rfl) (.row rfl rfl rfl (clm k_iC _) (.row rfl rfl rfl (clm k_iC _) (.row rfl rfl rfl (clm k_iC _) .nil))))))
          · refine dv1 (l_gT rfl rfl (gt rfl b21138) fun _ => l_move (.v _)) (dv1 (l_gT rfl rfl (gt rfl b21138) fun _ => l_field fd31_1 rfl) (dv1 (l_gT rfl rfl (gt rfl b21138) fun _ => l_load ty29 rfl rfl rfl rfl rfl) (dv1 (l_gT rfl rfl (gt rfl b21138) fun _ => l_lenRo sl29 rfl rfl (List.length_map _)) (dv1 (l_gT rfl rfl (gt rfl b21138) fun _ => l_bin rfl rfl b_geq) (dv1 (l_pickF (gt rfl b21138) (.v _)) (dv1 (l_move (.v _)) ?_))))))
            rcases condE hF with ⟨b21139, hF⟩ | ⟨b21139, hF⟩
            · refine dv1 (l_gF rfl rfl (gt rfl b21139) rfl) (dv1 (l_gF rfl rfl (gt rfl b21139) rfl) (dv1 (l_gF rfl rfl (gt rfl b21139) rfl) (dv1 (l_gF rfl rfl (gt rfl b21139) rfl) (dv1 (l_gF rfl rfl (gt rfl b21139) rfl) (dv1 (l_pickT (gt rfl b21139) (.v _)) (dvE ?_))))))
              cases hF
              refine q_join ?_
              exact (le_of [(0, some 0), (1, some 1), (2, some 2), (3, some 3), (4, some 4)] rfl (.s (.s (.s (.s (.s (.s (.s (.s (.s (.cons (.v _) (.un _) (.cons (.ad _ _ _ _) (.un _) (.cons (.ro _) (.un _) (.cons (.v _) (.un _) (.cons (.v _) (.un _) (.cons (.v _) (.un _) (.cons (.v _) (.un _) (.cons (.v _) (.un _) (.cons (.v _) (.un _) (.cons (.v _) (.un _) (.s .nil rfl))))))))))) rfl) rfl) rfl) rfl) rfl) rfl) rfl) rfl) rfl) (.box rfl rfl (.s rfl) (.box rfl rfl (.s rfl) (.row rfl rfl rfl (clm k_iC _) (.row rfl rfl rfl (clm k_iC _) (.row rfl rfl rfl (clm k_iC _) .nil))))))
            · refine dv1 (l_gT rfl rfl (gt rfl b21139) fun _ => l_move (.rf _ _ _ _)) (dv1 (l_gT rfl rfl (gt rfl b21139) fun _ => l_move (.v _)) ?_)
              obtain ⟨x21140, h21141, hF⟩ := bindE hF
              refine dv1 (l_gT rfl rfl (gt rfl b21139) fun _ => l_index x21133.toNat sl27 rfl rfl (atI_z h21141) (lt_at iC (atI_at h21141))) (dv1 (l_gT rfl rfl (gt rfl b21139) fun _ => l_load ty3 rfl rfl (map_at (atI_at h21141)) rfl rfl) (dv1 (l_gT rfl rfl (gt rfl b21139) fun _ => l_bin rfl rfl b_geq) (dv1 (l_pickF (gt rfl b21139) (.v _)) (dvE ?_))))
              cases hF
              refine q_join ?_
              exact (le_of [(0, some 0), (1, some 1), (2, some 2), (3, some 3), (4, some 4)] rfl (.s (.s (.s (.s (.s (.s (.s (.s (.s (.cons (.v _) (.un _) (.cons (.ad _ _ _ _) (.un _) (.cons (.ro _) (.un _) (.cons (.v _) (.un _) (.cons (.v _) (.un _) (.cons (.rf _ _ _ _) (.un _) (.cons (.v _) (.un _) (.cons (.ad _ _ _ _) (.un _) (.cons (.v _) (.un _) (.cons (.v _) (.un _) (.s .nil rfl))))))))))) rfl) rfl) rfl) rfl) rfl) rfl) rfl) rfl) rfl) (.box rfl rfl (.s rfl) (.box rfl rfl (.s rfl) (.row rfl rfl rfl (clm k_iC _) (.row rfl rfl rfl (clm k_iC _) (.row rfl rfl rfl (clm k_iC _) .nil))))))
        replace hF := hG21137
        rcases condE hF with ⟨b21142, hF⟩ | ⟨b21142, hF⟩
        · refine w_condT rfl b21142 ?_
          refine w_exit ?_
          cases hF
          refine q_exS (q_here (q_join ?_))
          exact (le_of [(0, some 0), (1, some 1), (2, some 2), (3, some 3), (4, some 4)] rfl (.s (.s (.s (.s (.s (.s (.s (.s (.cons .un (.un _) (.cons .un (.un _) (.cons .un (.un _) (.cons .un (.un _) (.cons .un (.un _) (.cons .un (.un _) (.cons .un (.un _) (.cons .un (.un _) (.cons .un (.un _) (.cons .un (.un _) .nil)))))))))) rfl) rfl) rfl) rfl) rfl) rfl) rfl) rfl) (.box rfl rfl (.s rfl) (.box rfl rfl (.s rfl) (.row rfl rfl rfl (clm k_iC _) (.row rfl rfl rfl (clm k_iC _) (.row rfl rfl rfl (clm k_iC _) .nil))))))
        · refine w_condF rfl b21142 ?_
          refine w_skip (q_seq (w_seq (w_region (by rfl) (dv1 (l_move (.rf _ _ _ _)) (dv1 (l_move (.v _)) (dv1 (l_move (.rf _ _ _ _)) (dv1 (l_lenR sl27 rfl rfl (List.length_map _)) ?_)))))))
          obtain ⟨x21143, h21144, hF⟩ := bindE hF
          refine dv1 (l_index x21133.toNat sl27 rfl rfl (atI_z h21144) (lt_at iC (atI_at h21144))) (dvS (l_storeR ty3 rfl (.v _) rfl (map_at (atI_at h21144)) rfl (Nat.le_of_ble_eq_true rfl) rfl (map_set' iC s21121.2.2.2.1 x21133.toNat ((s21121.1.length : Nat) : Int))) (dvE (q_seq (w_seq (w_region (by rfl) (dv1 (l_move (.rf _ _ _ _)) (dv1 (l_move (.v _)) (dvN (l_bs1 sl27 zt3 rfl (.v _) rfl rfl rfl (by decide) (by decide)) ?_))))))))
          obtain ⟨c21145, hF⟩ := ckE hF
          refine dvN3 (l_app1R el27 rfl rfl rfl rfl rfl rfl (by decide) (map_snoc iC _ x21133) (List.length_map _) (by simpa using c21145) (by decide)) ?_
          refine dv1 (l_assign (.rf _ _ _ _)) (dvE (q_seq (w_seq (w_region (by rfl) (dv1 (l_loadA ty31 rfl rfl rfl rfl rfl) (dv1 (l_move (.v _)) ?_))))))
          obtain ⟨y21146, h21147, hF⟩ := bindE hF
          refine dvC (l_call (B := false) (FnI.mk' (by kernel_rfl)) (.cons (.ag _) (.ag (.cons (.v _) (.cons (.ro _) .nil))) (.cons (.v _) (.one (.v _)) .nil)) (p_R05_First_ac h21147) (okF p_R05_First_ok)) ?_
          rintro _ rfl
          refine dv1 (l_assign (.v _)) (dvE (q_seq (w_block (w_loopF hF (fun (s24148 : (List Int) × Int × Int) => ⟨[(1, .ro (.sl 3 1 (a1.map iC))), (2, .ad 0 2 0 0), (4, .ad 1 2 0 0), (5, .rf 2 0 (((s21121.1 ++ [x21133]).map iC).length) 1), (6, .rf 3 0 ((s24148.1.map iC).length) 1), (7, .v (.int .i64 s24148.2.1)), (9, .rf 4 0 (((s21121.2.2.2.1.set x21133.toNat ((s21121.1.length : Nat) : Int)).map iC).length) 1), (11, .v (.int .i64 ((s21121.2.2.2.2 : Nat) : Int))), (12, .v (.int .i64 x21133)), (13, .v (.int .i64 s24148.2.2)), (56, .un), (57, .un), (58, .un), (59, .un), (60, .un), (63, .un), (64, .un), (65, .un), (66, .un), (67, .un)], [(0, some ⟨31, 2, [[.v (.int .i64 a0.Ret), .ro (.sl 47 8 (a0.Blocks.map MBlk.ct))]]⟩), (1, some ⟨31, 2, [[.v (.int .i64 0), .v (.slice none 0 0)]]⟩), (2, some ⟨3, 1, (s21121.1 ++ [x21133]).map iC⟩), (3, some ⟨3, 1, s24148.1.map iC⟩), (4, some ⟨3, 1, (s21121.2.2.2.1.set x21133.toNat ((s21121.1.length : Nat) : Int)).map iC⟩)], 1⟩) (le_of [(0, some 0), (1, some 1), (2, some 640), (3, some 3), (4, some 4)] rfl (.s (.s (.s (.cons (.rf _ _ _ _) (.rf rfl (by simp)) (.s (.s (.cons (.rf _ _ _ _) (.rf rfl (by simp)) (.s (.s (.s (.cons .un (.un _) (.cons .un (.un _) (.cons .un (.un _) (.cons .un (.un _) (.cons .un (.un _) (.cons .un (.un _) (.cons .un (.un _) (.cons .un (.un _) (.cons .un (.un _) (.cons .un (.un _) .nil)))))))))) rfl) rfl) rfl)) rfl) rfl)) rfl) rfl) rfl) (.box rfl rfl (.s rfl) (.box rfl rfl (.s rfl) (.row rfl rfl rfl (clm k_iC _) (.row rfl rfl rfl (clm k_iC _) (.row rfl rfl rfl (clm k_iC _) .nil)))))) ?_))))
          intro s24148 y24149 hF hx24150
          refine w_seq (w_seq (w_region (by rfl) (dv1 (l_move (.v _)) (dv1 (l_loadA ty31 rfl rfl rfl rfl rfl) (dv1 (l_move (.v _)) (dv1 (l_bin rfl rfl (b_add rfl)) ?_))))))
          obtain ⟨y24152, h24153, hF⟩ := bindE hF
          refine dvC (l_call (B := false) (FnI.mk' (by kernel_rfl)) (.cons (.ag _) (.ag (.cons (.v _) (.cons (.ro _) .nil))) (.cons (.v _) (.one (.v _)) .nil)) (p_R05_First_ac h24153) (okF p_R05_First_ok)) ?_
          rintro _ rfl
          refine dv1 (l_bin rfl rfl b_lss) (dvE (q_seq ?_))
          rcases condE hF with ⟨b24154, hF⟩ | ⟨b24154, hF⟩
          · refine w_condT rfl b24154 ?_
            refine w_skip (q_seq (w_seq (w_block (w_region (by rfl) (dv1 (l_move (.rf _ _ _ _)) (dv1 (l_move (.v _)) (dv1 (l_move (.v _)) (dv1 (l_move (.v _)) ?_))))))))
            refine dv1 (l_bin rfl rfl (b_add rfl)) ?_
            obtain ⟨x24155, h24156, hF⟩ := bindE hF
            refine dv1 (l_index s24148.2.2.toNat sl27 rfl rfl (atI_z h24156) (lt_at iC (atI_at h24156))) (dvS (l_storeR ty3 rfl (.v _) rfl (map_at (atI_at h24156)) rfl (Nat.le_of_ble_eq_true rfl) rfl (map_set' iC s24148.1 s24148.2.2.toNat s24148.2.1)) (dv1 (l_assign (.v _)) (dvE (q_in (q_seq (w_region (by rfl) (dv1 (l_move (.v _)) (dv1 (l_bin rfl rfl (b_add rfl)) ?_))))))))
            refine dv1 (l_assign (.v _)) (dvE ?_)
            cases hF
            refine qL rfl ?_
            exact (le_of [(0, some 0), (1, some 1), (2, some 2), (3, some 3), (4, some 4)] rfl (.s (.s (.s (.s (.cons (.rf _ _ _ _) (.rf rfl (by simp)) (.s (.s (.s (.s (.s (.cons .un (.un _) (.cons .un (.un _) (.cons .un (.un _) (.cons .un (.un _) (.cons .un (.un _) (.cons .un (.un _) (.cons .un (.un _) (.cons .un (.un _) (.cons .un (.un _) (.cons .un (.un _) .nil)))))))))) rfl) rfl) rfl) rfl) rfl)) rfl) rfl) rfl) rfl) (.box rfl rfl (.s rfl) (.box rfl rfl (.s rfl) (.row rfl rfl rfl (clm k_iC _) (.row rfl rfl rfl (clm k_iC _) (.row rfl rfl rfl (clm k_iC _) .nil))))))
          · refine w_condF rfl b24154 ?_
            refine w_exit ?_
            cases hF
            cases hx24150 _ rfl
            refine q_exS (q_exS (q_here (q_in (q_join ?_))))
            exact (le_of [(0, some 0), (1, some 1), (2, some 2), (3, some 3), (4, some 4)] rfl (.s (.s (.s (.s (.s (.s (.s (.s (.cons .un (.un _) (.cons .un (.un _) (.cons .un (.un _) (.cons .un (.un _) (.cons .un (.un _) (.cons .un (.un _) (.cons .un (.un _) (.cons .un (.un _) (.cons .un (.un _) (.cons .un (.un _) .nil)))))))))) rfl) rfl) rfl) rfl) rfl) rfl) rfl) rfl) (.box rfl rfl (.s rfl) (.box rfl rfl (.s rfl) (.row rfl rfl rfl (clm k_iC _) (.row rfl rfl rfl (clm k_iC _) (.row rfl rfl rfl (clm k_iC _) .nil))))))
      replace hF := hG21132
      refine w_region (by rfl) (dv1 (l_move (.v _)) (dv1 (l_bin rfl rfl (b_incN (of_decide_eq_true b21125) l21126)) (dv1 (l_assign (.v _)) (dvE ?_))))
      cases hF
      refine qL rfl ?_
      exact (le_of [(0, some 0), (1, some 1), (2, some 2), (3, some 3), (4, some 4)] rfl (.s (.s (.s (.s (.s (.s (.s (.s (.cons .un (.un _) (.cons .un (.un _) (.cons .un (.un _) (.cons .un (.un _) (.cons .un (.un _) (.cons .un (.un _) (.cons .un (.un _) (.cons .un (.un _) (.cons .un (.un _) (.cons .un (.un _) .nil)))))))))) rfl) rfl) rfl) rfl) rfl) rfl) rfl) rfl) (.box rfl rfl (.s rfl) (.box rfl rfl (.s rfl) (.row rfl rfl rfl (clm k_iC _) (.row rfl rfl rfl (clm k_iC _) (.row rfl rfl rfl (clm k_iC _) .nil))))))
    · refine w_condF rfl b21125 ?_
      refine w_exit ?_
      cases hF
      cases hx21123 _ rfl
      refine q_exS (q_exS (q_here (q_join ?_)))
      exact (le_of [(0, some 0), (1, some 1), (2, some 2), (3, some 3), (4, some 4)] rfl (.s (.s (.s (.s (.s .nil rfl) rfl) rfl) rfl) rfl) (.box rfl rfl (.s rfl) (.box rfl rfl (.s rfl) (.row rfl rfl rfl (clm k_iC _) (.row rfl rfl rfl (clm k_iC _) (.row rfl rfl rfl (clm k_iC _) .nil))))))
  replace hF := hG18120
  refine w_seq (w_draw [[], [], [], [0, 1, 2], [], [4], [4, 5], [], [], [0, 1, 2, 3, 7, 8], [0, 1, 2, 3, 4, 5, 6, 7, 8, 9]] [0, 1, 2, 4, 5, 6, 7, 8, 3, 9, 10] (by kernel_rfl) (by rfl) ⟨by decide, by rfl⟩ (by rfl) ?_)
  refine de1 rfl (l_loadA ty31 rfl rfl rfl rfl rfl) rfl (de1 rfl (l_move (.rf _ _ _ _)) rfl (de1 rfl (l_move (.rf _ _ _ _)) rfl (de1 rfl (l_field fd31_0 rfl) rfl (de1 rfl (l_load ty3 rfl rfl rfl rfl rfl) rfl (de1 rfl (l_build st31 zt31 (.cons (.v _) .nil) rfl rfl) rfl (deN rfl (l_alloc zt31) rfl (deN rfl (l_alloc zt31) rfl ?_)))))))
  obtain ⟨y24157, h24158, hF⟩ := bindE hF
  refine deC1 rfl (l_call (B := true) (FnI.mk' (by kernel_rfl)) (.cons (.ag _) (.ag (.cons (.v _) (.cons (.ro _) .nil))) (.cons (.rf _ _ _ _) (.one (.rf rfl rfl rfl (clm k_iC _))) (.cons (.rf _ _ _ _) (.one (.rf rfl rfl rfl (clm k_iC _))) .nil))) (p_R16_Rename_ac h24158) (okT p_R16_Rename_ok)) rfl ?_
  refine deS rfl (l_store ty31 rfl (.ag _) rfl rfl rfl (Nat.le_of_ble_eq_true rfl) rfl) rfl (deS rfl (l_store ty31 rfl (.ag _) rfl rfl rfl (Nat.le_of_ble_eq_true rfl) rfl) rfl (ddE (q_seq ?_)))
  obtain ⟨s24160, hF, hG24161⟩ := bindE hF
  refine w_seqJ ⟨[(4, .ad 0 2 0 0), (15, .ad 1 2 0 0)], [(0, some ⟨31, 2, [[.v (.int .i64 0), .v (.slice none 0 0)]]⟩), (1, some ⟨31, 2, [[.v (.int .i64 a0.Ret), .rf 2 0 ((s24160.map MBlk.ct).length) 8]]⟩), (2, some ⟨47, 8, s24160.map MBlk.ctr⟩)], 1⟩ ?_ ?_
  · refine w_seq (w_region (by rfl) (dv1 (l_assign (.v _)) (dvE (q_seq (w_block (W.le (le_share 577 (els := y24157.Blocks.map MBlk.ct) rfl (RoE.map rl_MBlkct _)) ?_))))))
    refine w_loopF hF (fun (s27162 : (List MBlk) × Nat) => ⟨[(4, .ad 0 2 0 0), (5, .rf 1 0 ((s18119.1.map iC).length) 1), (14, .ad 2 2 0 0), (15, .ad 4 2 0 0), (16, .v (.int .i64 ((s27162.2 : Nat) : Int)))], [(0, some ⟨31, 2, [[.v (.int .i64 0), .v (.slice none 0 0)]]⟩), (1, some ⟨3, 1, s18119.1.map iC⟩), (2, some ⟨31, 2, [[.v (.int .i64 y24157.Ret), .rf 3 0 ((y24157.Blocks.map MBlk.ct).length) 8]]⟩), (3, some ⟨47, 8, y24157.Blocks.map MBlk.ctr⟩), (4, some ⟨31, 2, [[.v (.int .i64 a0.Ret), .rf 5 0 ((s27162.1.map MBlk.ct).length) 8]]⟩), (5, some ⟨47, 8, s27162.1.map MBlk.ctr⟩)], 1⟩) (le_of [(0, some 1), (1, some 2), (2, some 448), (3, some 577), (4, some 512), (5, none)] rfl (.s (.s (.s (.s (.s .nil rfl) rfl) rfl) rfl) rfl) (.box rfl rfl (.s rfl) (.row rfl rfl rfl (clm k_iC _) (.box rfl rfl (.s rfl) (.row rfl rfl rfl (clm kr_MBlkct _) (.box rfl rfl (.cons (.v rfl) (.cons (.nil ⟨by simp, rfl⟩) .nil)) (.new ⟨by simp, rfl⟩ .nil))))))) ?_
    intro s27162 y27163 hF hx27164
    refine w_seq (w_seq (w_region (by rfl) (dv1 (l_move (.v _)) (dv1 (l_move (.rf _ _ _ _)) (dv1 (l_lenR sl27 rfl rfl (List.length_map _)) (dv1 (l_bin rfl rfl b_lssN) (dvE (q_seq ?_))))))))
    rcases condE hF with ⟨b27166, hF⟩ | ⟨b27166, hF⟩
    · refine w_lenK 1 rfl fun l27167 => ?_
      refine w_condT rfl b27166 ?_
      refine w_skip (q_seq (w_seq (w_block (w_draw [[], [0], [], [2], [], [], [4, 5], [4, 5, 6], [2, 3, 4, 5, 6, 7], [2, 3, 4, 5, 6, 7, 8], [2, 3, 4, 5, 6, 7, 8, 9], [0, 1, 2, 3, 4, 5, 6, 7, 8, 9, 10], [0, 1, 2, 3, 4, 5, 6, 7, 8, 9, 10, 11], [0, 1, 2, 3, 4, 5, 6, 7, 8, 9, 10, 11, 12]] [0, 1, 2, 3, 4, 5, 6, 7, 8, 9, 10, 11, 12, 13] (by kernel_rfl) (by rfl) ⟨by decide, by rfl⟩ (by rfl) ?_))))
      refine de1 rfl (l_field fd31_1 rfl) rfl (de1 rfl (l_load ty29 rfl rfl rfl rfl rfl) rfl (de1 rfl (l_field fd31_1 rfl) rfl (de1 rfl (l_load ty29 rfl rfl rfl rfl rfl) rfl (de1 rfl (l_move (.rf _ _ _ _)) rfl (de1 rfl (l_move (.v _)) rfl ?_)))))
      obtain ⟨x27168, h27169, hF⟩ := bindE hF
      refine de1 rfl (l_index s27162.2 sl27 rfl rfl rfl (lt_at iC h27169)) rfl (de1 rfl (l_load ty3 rfl rfl (map_at h27169) rfl rfl) rfl ?_)
      obtain ⟨x27170, h27171, hF⟩ := bindE hF
      refine de1 rfl (l_index x27168.toNat sl29 rfl rfl (atI_z h27171) (lt_at MBlk.ct (atI_at h27171))) rfl (de1 rfl (l_loadA ty47 rfl rfl (map_at (atI_at h27171)) rfl rfl) rfl (deN rfl (l_bs1 sl29 zt47 rfl (.ag _) rfl rfl rfl (by decide) (by decide)) rfl ?_))
      obtain ⟨c27172, hF⟩ := ckE hF
      refine deN3 rfl (l_app1R el29 rfl rfl rfl ((List.length_map _).trans (List.length_map _).symm) rfl rfl (by decide) (map_snoc MBlk.ctr _ x27170) (List.length_map _) (by simpa using c27172) (by decide)) rfl ?_
      refine de1 rfl (l_field fd31_1 rfl) rfl (deS rfl (l_store ty29 rfl (.rf _ _ _ _) rfl rfl rfl (Nat.le_of_ble_eq_true rfl) rfl) rfl (ddE (q_in (q_seq (w_region (by rfl) (dv1 (l_move (.v _)) (dv1 (l_bin rfl rfl (b_incN (of_decide_eq_true b27166) l27167)) (dv1 (l_assign (.v _)) ?_))))))))
      refine dvE ?_
      cases hF
      refine qL rfl ?_
      exact (le_of [(0, some 0), (1, some 1), (2, some 2), (3, some 3), (4, some 4), (5, some 1024)] rfl (.s (.s (.s (.s (.s .nil rfl) rfl) rfl) rfl) rfl) (.box rfl rfl (.s rfl) (.row rfl rfl rfl (clm k_iC _) (.box rfl rfl (.s rfl) (.row rfl rfl rfl (clm kr_MBlkct _) (.box rfl rfl (.cons (.v rfl) (.cons (.rf rfl (by simp)) .nil)) (.row rfl rfl rfl (clm kr_MBlkct _) .nil)))))))
    · refine w_condF rfl b27166 ?_
      refine w_exit ?_
      cases hF
      cases hx27164 _ rfl
      refine q_exS (q_exS (q_here (q_join ?_)))
      exact (le_of [(0, some 0), (1, some 4), (2, some 5)] rfl (.s (.s .nil rfl) rfl) (.box rfl rfl (.s rfl) (.box rfl rfl (.s rfl) (.row rfl rfl rfl (clm kr_MBlkct _) .nil))))
  replace hF := hG24161
  refine w_seq (w_region (by rfl) (dv1 (l_loadA ty31 rfl rfl rfl rfl rfl) (dvS (l_store ty31 rfl (.ag _) rfl rfl rfl (Nat.le_of_ble_eq_true rfl) rfl) (dvE (q_seq (W.le (le_freezeR 2 (Wk.sl (WkE.map wr_MBlkct _)) [(121, .ag [.v (.int .i64 a0.Ret), .ro (.sl 47 8 (s24160.map MBlk.ct))])] [(0, some ⟨31, 2, [[.v (.int .i64 a0.Ret), .ro (.sl 47 8 (s24160.map MBlk.ct))]]⟩), (1, some ⟨31, 2, [[.v (.int .i64 a0.Ret), .ro (.sl 47 8 (s24160.map MBlk.ct))]]⟩)] rfl (clm kr_MBlkct _) (.ag rfl (.same (.ro (((List.length_map _).trans (List.length_map _).symm)).symm .nil)) .nil) (.at_ (i := 0) rfl (by decide) rfl (.same (.ro (((List.length_map _).trans (List.length_map _).symm)).symm .nil)) rfl (.at_ (i := 0) rfl (by decide) rfl (.same (.ro (((List.length_map _).trans (List.length_map _).symm)).symm .nil)) rfl .nil))) ?_))))))
  refine w_ret ?_
  cases hF
  refine q_end (.inr rfl) ?_
  exact ret_ok rfl (.cons (.cellA ty31 rfl rfl rfl (.cons (.of (.v _)) (.cons (.of (.ro _)) .nil))) .nil) (by decide) rfl

def p_tidy_Blocks_t1 (a0_0 : Int) (a0_1 : List MBlk) (a1 : List Int) : Option (MFun × (List Int)) :=
((p_tidy_blocks_t1 a0_0 a0_1 a1).bind fun y1 =>
(ck (y1.2.length = a1.length)
(some (y1.1, y1.2))))

theorem p_tidy_Blocks_t1_sok {r : MFun × (List Int)} : rOk (.ag [.v (.int .i64 r.1.Ret), .ro (.sl 47 8 (r.1.Blocks.map MBlk.ct))]) = true ∧ True := ⟨rfl, trivial⟩

set_option maxRecDepth 10000 in
set_option maxHeartbeats 4000000 in
theorem p_tidy_Blocks_t1_sc {a0_0 : Int} {a0_1 : List MBlk} {a1 : List Int} {r : MFun × (List Int)} (hF : p_tidy_Blocks_t1 a0_0 a0_1 a1 = some r) : SC Tryd.prog GT 11 [.ag [.v (.int .i64 a0_0), .ro (.sl 47 8 (a0_1.map MBlk.ct))], .rf 0 0 ((a1.map iC).length) 1] [(0, some ⟨3, 1, a1.map iC⟩)] (fun c gb => c = .ag [.v (.int .i64 r.1.Ret), .ro (.sl 47 8 (r.1.Blocks.map MBlk.ct))] ∧ gb = [(0, some ⟨3, 1, r.2.map iC⟩)]) := by
  unfold p_tidy_Blocks_t1 at hF
  refine SC.mk (nt := 8) [0] Tryd.func11 rfl rfl rfl rfl fun w M N g => ?_
  refine w_seq (w_region (by rfl) (dvN (l_box (.ag _) rfl rfl) (dvN (l_alloc zt31) (dvE (q_seq (w_seq (w_region (by rfl) (dv1 (l_loadA ty31 rfl rfl rfl rfl rfl) ?_))))))))
  refine dv1 (l_move (.rf _ _ _ _)) ?_
  obtain ⟨y1, h2, hF⟩ := bindE hF
  obtain ⟨c3, hF⟩ := ckE hF
  refine dvK (l_callS [(0, some 0)] [(0, some 0)] (by rfl) (by rfl) (by rfl) (by rfl) (by rfl) (FnI.mk' (by kernel_rfl)) (.ag (.ag _) (.cons (.v rfl) (.cons (.ro rfl) .nil)) (.cons (.rf _ _ _ _) (.rf rfl rfl) .nil)) (.row rfl rfl rfl (clm k_iC _) .nil) (p_tidy_blocks_t1_sc h2) (okS (p_tidy_blocks_t1_sok (r := y1)))) ?_
  rintro _ _ ⟨rfl, rfl⟩
  refine dvS (l_store ty31 rfl (.ag _) rfl rfl rfl (Nat.le_of_ble_eq_true rfl) rfl) (dvE (q_seq (w_ret ?_)))
  cases hF
  refine q_endS (.inr rfl) ?_
  exact ⟨_, _, ret_okK rfl (.cons (.cellA ty31 rfl rfl rfl (.cons (.of (.v _)) (.cons (.of (.ro _)) .nil))) .nil) (by decide) ⟨rfl, rfl⟩, (gbC rfl (clm k_iC _) (by decide) (by decide) gb0)⟩

def p_L16_TidyOrders (a0 : MPrg) (a1 : Int) (a2 : List Int) : Option Bool :=
((p_L16_fun (some a0) a1).bind fun y1 =>
(bif y1.2 then
(((ck (a2.length * 8 ≤ 140737488355328)
(((p_tidy_Blocks_t1 y1.1.Ret y1.1.Blocks a2).bind fun y8 =>
(ck (y8.2.length = a2.length)
(((p_R16_Blocks y1.1 a2).bind fun y11 =>
((p_R05_SameFunc y8.1 y11).bind fun y13 =>
(bif y13 then
((p_L16_lives).bind fun y16 =>
some y16)
else
some false))))))))).bind fun (s5 : Bool) =>
some s5)
else
((p_L16_lives).bind fun y18 =>
some y18)))

set_option maxRecDepth 10000 in
set_option maxHeartbeats 4000000 in
theorem p_L16_TidyOrders_ac {a0 : MPrg} {a1 : Int} {a2 : List Int} {r : Bool} (hF : p_L16_TidyOrders a0 a1 a2 = some r) : AC Tryd.prog GT 4 [.ag (MPrg.ct a0), .v (.int .u8 a1), .sl 3 1 (a2.map iC)] (fun c => c = .v (.bool r)) := by
  unfold p_L16_TidyOrders at hF
  refine AC.mk (nt := 31) Tryd.func4 rfl rfl rfl fun w N => ?_
  refine w_seq (w_region (by rfl) (dvN (l_box (.ag _) rfl rfl) (dv1 (l_assign (.v _)) (dvE (q_seq (w_seq (w_region (by rfl) (dv1 (l_assign (.ad _ _ _ _)) ?_))))))))
  refine dvE (q_seq (w_seq (w_region (by rfl) (dv1 (l_move (.ad _ _ _ _)) (dv1 (l_move (.v _)) (dvG (le_freeze 0 [(3, .ro (.rp [.ro (.sl 64 2 (a0.Sigs.map MSig.ct)), .ro (.sl 66 2 (a0.Classes.map MCls.ct)), .ro (.sl 31 2 (a0.Funcs.map MFun.ct))] 0)), (7, .ro (.rp [.ro (.sl 64 2 (a0.Sigs.map MSig.ct)), .ro (.sl 66 2 (a0.Classes.map MCls.ct)), .ro (.sl 31 2 (a0.Funcs.map MFun.ct))] 0)), (11, .ro (.rp [.ro (.sl 64 2 (a0.Sigs.map MSig.ct)), .ro (.sl 66 2 (a0.Classes.map MCls.ct)), .ro (.sl 31 2 (a0.Funcs.map MFun.ct))] 0))] rfl (cl1 (.ro _ rfl) (cl1 (.ro _ rfl) (cl1 (.ro _ rfl) (cl0 (b := true))))) (List.forall_mem_cons.2 ⟨⟨0, rfl, rfl⟩, (List.forall_mem_cons.2 ⟨⟨0, rfl, rfl⟩, (List.forall_mem_cons.2 ⟨⟨0, rfl, rfl⟩, (fun _ h => nomatch h)⟩)⟩)⟩)) ?_))))))
  refine dvG (le_wk 3 (c' := .rp (MPrg.ct a0) 0) rfl (.rp (.cons (Wk.ro (Wk.refl _)) (.cons (Wk.ro (Wk.refl _)) (.cons (Wk.ro (Wk.refl _)) .nil))))) ?_
  refine dvG (le_wk 7 (c' := .rp (MPrg.ct a0) 0) rfl (.rp (.cons (Wk.ro (Wk.refl _)) (.cons (Wk.ro (Wk.refl _)) (.cons (Wk.ro (Wk.refl _)) .nil))))) ?_
  refine dvG (le_wk 11 (c' := .rp (MPrg.ct a0) 0) rfl (.rp (.cons (Wk.ro (Wk.refl _)) (.cons (Wk.ro (Wk.refl _)) (.cons (Wk.ro (Wk.refl _)) .nil))))) ?_
  obtain ⟨y1, h2, hF⟩ := bindE hF
  refine dvC (l_call (B := false) (FnI.mk' (by kernel_rfl)) (.cons (.ro _) (.one (.ro _)) (.cons (.v _) (.one (.v _)) .nil)) (p_L16_fun_ac h2) (okF p_L16_fun_ok)) ?_
  rintro _ rfl
  refine dv1 (l_move (.tu _)) (dv1 (l_extract rfl rfl) (dv1 (l_extract rfl rfl) (dvN (l_alloc zt31) (dvS (l_store ty31 rfl (.ag _) rfl rfl rfl (Nat.le_of_ble_eq_true rfl) rfl) (dv1 (l_assign (.v _)) (dvE (q_seq (w_seq ?_))))))))
  refine w_seq (w_region (by rfl) (dv1 (l_move (.v _)) (dv1 (l_not rfl) (dvE (q_seq ?_)))))
  rcases condE hF with ⟨b3, hF⟩ | ⟨b3, hF⟩
  · refine w_condF rfl (nF b3) ?_
    refine w_skip (q_seq ?_)
    obtain ⟨s5, hF, hG6⟩ := bindE hF
    refine w_seqJ ⟨[(6, .v (.bool s5))], [], 1⟩ ?_ ?_
    · refine w_draw [[], [], [], [1, 2], [0, 1, 2, 3], [], [], [0, 1, 2, 3, 4, 5, 6], [0, 1, 2, 3, 4, 5, 6, 7], [0, 1, 2, 3, 4, 5, 6, 7, 8], [0, 1, 2, 3, 4, 5, 6, 7, 8, 9], [0, 1, 2, 3, 4, 5, 6, 7, 8, 9, 10], [0, 1, 2, 3, 4, 5, 6, 7, 8, 9, 10, 11]] [0, 1, 2, 3, 5, 6, 4, 7, 8, 9, 10, 11, 12] (by kernel_rfl) (by rfl) ⟨by decide, by rfl⟩ (by rfl) ?_
      refine de1 rfl (l_loadA ty31 rfl rfl rfl rfl rfl) rfl (deN rfl (l_bs0 sl27 zt3 rfl (by decide)) rfl (de1 rfl (l_move (.ro _)) rfl ?_))
      obtain ⟨c7, hF⟩ := ckE hF
      refine deN2 rfl (l_appOR el27 rfl rfl rfl rfl rfl (ro_map (fun _ => rfl) _) rfl (by simpa using c7) (by decide)) rfl ?_
      refine de1 rfl (l_loadA ty31 rfl rfl rfl rfl rfl) rfl (de1 rfl (l_move (.ro _)) rfl ?_)
      obtain ⟨y8, h9, hF⟩ := bindE hF
      obtain ⟨c10, hF⟩ := ckE hF
      refine deK rfl (l_callS [(0, some 1088)] [(0, some 1088)] (by rfl) (by rfl) (by rfl) (by rfl) (by rfl) (FnI.mk' (by kernel_rfl)) (.ag (.ag _) (.cons (.v rfl) (.cons (.ro rfl) .nil)) (.cons (.rf _ _ _ _) (.rf rfl rfl) .nil)) (.row rfl rfl rfl (clm k_iC _) .nil) (p_tidy_Blocks_t1_sc h9) (okS (p_tidy_Blocks_t1_sok (r := y8)))) rfl ?_
      obtain ⟨y11, h12, hF⟩ := bindE hF
      refine deC1 rfl (l_call (B := false) (FnI.mk' (by kernel_rfl)) (.cons (.ag _) (.ag (.cons (.v _) (.cons (.ro _) .nil))) (.cons (.ro _) (.one (.ro _)) .nil)) (p_R16_Blocks_ac h12) (okF p_R16_Blocks_ok)) rfl ?_
      obtain ⟨y13, h14, hF⟩ := bindE hF
      refine deC1 rfl (l_call (B := false) (FnI.mk' (by kernel_rfl)) (.cons (.ag _) (.ag (.cons (.v _) (.cons (.ro _) .nil))) (.cons (.ag _) (.ag (.cons (.v _) (.cons (.ro _) .nil))) .nil)) (p_R05_SameFunc_ac h14) (okF p_R05_SameFunc_ok)) rfl ?_
      refine de1 rfl (l_move (.v _)) rfl ?_
      rcases condE hF with ⟨b15, hF⟩ | ⟨b15, hF⟩
      · obtain ⟨y16, h17, hF⟩ := bindE hF
        refine deC1 rfl (l_gTC rfl rfl (gt rfl b15) fun _ => (l_call (B := false) (FnI.mk' (by kernel_rfl)) .nil (p_L16_lives_ac h17) (okF p_L16_lives_ok))) rfl ?_
        refine de1 rfl (l_pickT (gt rfl b15) (.v _)) rfl (de1 rfl (l_assign (.v _)) rfl (ddE ?_))
        cases hF
        refine q_join ?_
        exact (le_of [] rfl (.s .nil rfl) .nil)
      · refine de1 rfl (l_gF rfl rfl (gt rfl b15) rfl) rfl (de1 rfl (l_pickF (gt rfl b15) (.v _)) rfl (de1 rfl (l_assign (.v _)) rfl (ddE ?_)))
        cases hF
        refine q_join ?_
        exact (le_of [] rfl (.s .nil rfl) .nil)
    replace hF := hG6
    refine w_ret ?_
    cases hF
    refine q_end (.inr rfl) ?_
    exact ret_ok rfl (.cons (.tmp (.v _) (.v _)) .nil) (by decide) rfl
  · refine w_condT rfl (nT b3) ?_
    refine w_seq (w_region (by rfl) ?_)
    obtain ⟨y18, h19, hF⟩ := bindE hF
    refine dvC (l_call (B := false) (FnI.mk' (by kernel_rfl)) .nil (p_L16_lives_ac h19) (okF p_L16_lives_ok)) ?_
    rintro _ rfl
    refine dv1 (l_assign (.v _)) (dvE (q_seq (w_ret (q_reS ?_))))
    cases hF
    refine q_end (.inr rfl) ?_
    exact ret_ok rfl (.cons (.tmp (.v _) (.v _)) .nil) (by decide) rfl

end Go.Proofs.YtbebdcpakjfgdaaDoor

