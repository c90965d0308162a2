/- Functions (printed by wip/auto/am.py). -/
import Derived.Test.YtbebdcpakjfgdaaDoorFC2
namespace Go.Proofs.YtbebdcpakjfgdaaDoor
open Go Go.RowKit

def p_R16_Kept (a0 : MFun) (a1 : List Bool) : Option MFun :=
(((loop (fun (s9050 : (List Int) × Int × Nat) =>
(bif decide (s9050.2.2 < a0.Blocks.length) then
(((loop (fun (s12060 : (List Int) × Int × Int) =>
((a0.Blocks[s9050.2.2]?).bind fun x12064 =>
(bif decide (s12060.2.2 < IntKind.i64.wrap (((x12064.Params.length : Nat) : Int) + ((x12064.Ops.length : Nat) : Int))) then
(((((bif decide (((x12064.Params.length : Nat) : Int) ≤ s12060.2.2) then
(bif decide (s12060.1.length < a1.length) then
((a1[s12060.1.length]?).bind fun x12076 =>
some (!x12076))
else
some false)
else
some false)).bind fun (s12072 : Bool) =>
(bif s12072 then
(ck ((s12060.1.length + 1) * 8 ≤ 140737488355328)
(some ((s12060.1 ++ [(-1)]), s12060.2.1)))
else
(ck ((s12060.1.length + 1) * 8 ≤ 140737488355328)
(some ((s12060.1 ++ [s12060.2.1]), IntKind.i64.wrap (s12060.2.1 + 1))))))).bind fun (s12069 : (List Int) × Int) =>
some (Xt.go (s12069.1, s12069.2, IntKind.i64.wrap (s12060.2.2 + 1))))
else
some (Xt.out (s12060.1, s12060.2.1))))) Fu (s9050.1, s9050.2.1, 0))).bind fun (s9058 : (List Int) × Int) =>
some (Xt.go (s9058.1, s9058.2, (s9050.2.2 + 1))))
else
some (Xt.out s9050.1))) Fu (([] : List Int), 0, 0))).bind fun (s6048 : (List Int)) =>
((p_R16_Rename_s1 a0 s6048).bind fun y12081 =>
(((loop (fun (s15086 : (List MBlk) × Nat) =>
(bif decide (s15086.2 < s15086.1.length) then
((((a0.Blocks[s15086.2]?).bind fun x15095 =>
((p_R05_First a0 ((s15086.2 : Nat) : Int)).bind fun y15097 =>
(((loop (fun (s18102 : (List MOp) × Nat) =>
((s15086.1[s15086.2]?).bind fun x18106 =>
(bif decide (s18102.2 < x18106.Ops.length) then
((((atI s6048 (IntKind.i64.wrap (IntKind.i64.wrap (y15097 + ((x15095.Params.length : Nat) : Int)) + ((s18102.2 : Nat) : Int)))).bind fun x18113 =>
(bif decide ((0 : Int) ≤ x18113) then
((x18106.Ops[s18102.2]?).bind fun x18116 =>
(ck ((s18102.1.length + 1) * 88 ≤ 140737488355328)
(some (s18102.1 ++ [x18116]))))
else
some s18102.1))).bind fun (s18111 : (List MOp)) =>
some (Xt.go (s18111, (s18102.2 + 1))))
else
some (Xt.out s18102.1)))) Fu (([] : List MOp), 0))).bind fun (s15100 : (List MOp)) =>
((s15086.1[s15086.2]?).bind fun x18119 =>
some (s15086.1.set s15086.2 (⟨x18119.Params, s15100, x18119.End⟩ : MBlk))))))).bind fun (s15093 : (List MBlk)) =>
some (Xt.go (s15093, (s15086.2 + 1))))
else
some (Xt.out s15086.1))) Fu (y12081.Blocks, 0))).bind fun (s12084 : (List MBlk)) =>
some (⟨y12081.Ret, s12084⟩ : MFun))))

theorem p_R16_Kept_ok {r : MFun} : rOk (.ag [.v (.int .i64 r.Ret), .ro (.sl 47 8 (r.Blocks.map MBlk.ct))]) = true ∧ True := ⟨rfl, trivial⟩

set_option maxRecDepth 10000 in
set_option maxHeartbeats 4000000 in
theorem p_R16_Kept_ac {a0 : MFun} {a1 : List Bool} {r : MFun} (hF : p_R16_Kept a0 a1 = some r) : AC Tryd.prog GT 14 [.ag (MFun.ct a0), .sl 4 1 (a1.map bC)] (fun c => c = .ag [.v (.int .i64 r.Ret), .ro (.sl 47 8 (r.Blocks.map MBlk.ct))]) := by
  unfold p_R16_Kept at hF
  refine AC.mk (nt := 134) Tryd.func14 rfl rfl rfl fun w N => ?_
  refine w_seq (w_region (by rfl) (dvN (l_box (.ag _) rfl rfl) (dvN (l_alloc zt31) (dvE (q_seq (w_seq (w_region (by rfl) (dvN (l_bs0 sl27 zt3 rfl (by decide)) ?_))))))))
  refine dv1 (l_assign (.rf _ _ _ _)) (dv1 (l_assign (.v _)) (dvE (q_seq ?_)))
  obtain ⟨s6048, hF, hG6049⟩ := bindE hF
  refine w_seqJ ⟨[(2, .ad 0 2 0 0), (4, .ad 1 2 0 0), (5, .rf 2 0 ((s6048.map iC).length) 1)], [(0, some ⟨31, 2, [[.v (.int .i64 a0.Ret), .ro (.sl 47 8 (a0.Blocks.map MBlk.ct))]]⟩), (1, some ⟨31, 2, [[.v (.int .i64 0), .v (.slice none 0 0)]]⟩), (2, some ⟨3, 1, s6048.map iC⟩)], 1⟩ ?_ ?_
  · refine w_seq (w_region (by rfl) (dv1 (l_assign (.v _)) (dvE (q_seq (w_block (w_loopF hF (fun (s9050 : (List Int) × Int × Nat) => ⟨[(1, .ro (.sl 4 1 (a1.map bC))), (2, .ad 0 2 0 0), (4, .ad 1 2 0 0), (5, .rf 2 0 ((s9050.1.map iC).length) 1), (6, .v (.int .i64 s9050.2.1)), (7, .v (.int .i64 ((s9050.2.2 : Nat) : Int))), (54, .un), (55, .un), (56, .un), (57, .un), (60, .un), (61, .un), (62, .un), (63, .un), (64, .un)], [(0, some ⟨31, 2, [[.v (.int .i64 a0.Ret), .ro (.sl 47 8 (a0.Blocks.map MBlk.ct))]]⟩), (1, some ⟨31, 2, [[.v (.int .i64 0), .v (.slice none 0 0)]]⟩), (2, some ⟨3, 1, s9050.1.map iC⟩)], 1⟩) (le_of [(0, some 0), (1, some 64), (2, some 128)] rfl (.s (.s (.s (.s (.s (.s (.cons .un (.un _) (.cons .un (.un _) (.cons .un (.un _) (.cons .un (.un _) (.cons .un (.un _) (.cons .un (.un _) (.cons .un (.un _) (.cons .un (.un _) (.cons .un (.un _) .nil))))))))) rfl) rfl) rfl) rfl) rfl) rfl) (.box rfl rfl (.s rfl) (.box rfl rfl (.s rfl) (.row rfl rfl rfl (clm k_iC _) .nil)))) ?_))))))
    intro s9050 y9051 hF hx9052
    refine w_seq (w_seq (w_region (by rfl) (dv1 (l_move (.v _)) (dv1 (l_field fd31_1 rfl) (dv1 (l_load ty29 rfl rfl rfl rfl rfl) (dv1 (l_lenRo sl29 rfl rfl (List.length_map _)) (dv1 (l_bin rfl rfl b_lssN) (dvE ?_))))))))
    refine q_seq ?_
    rcases condE hF with ⟨b9054, hF⟩ | ⟨b9054, hF⟩
    · refine w_lenS 18 rfl fun l9055 => ?_
      refine w_condT rfl b9054 ?_
      refine w_skip (q_seq ?_)
      obtain ⟨s9058, hF, hG9059⟩ := bindE hF
      refine w_seqJ ⟨[(1, .ro (.sl 4 1 (a1.map bC))), (2, .ad 0 2 0 0), (4, .ad 1 2 0 0), (5, .rf 2 0 ((s9058.1.map iC).length) 1), (6, .v (.int .i64 s9058.2)), (7, .v (.int .i64 ((s9050.2.2 : Nat) : Int))), (54, .un), (55, .un), (56, .un), (57, .un), (60, .un), (61, .un), (62, .un), (63, .un), (64, .un)], [(0, some ⟨31, 2, [[.v (.int .i64 a0.Ret), .ro (.sl 47 8 (a0.Blocks.map MBlk.ct))]]⟩), (1, some ⟨31, 2, [[.v (.int .i64 0), .v (.slice none 0 0)]]⟩), (2, some ⟨3, 1, s9058.1.map iC⟩)], 1⟩ ?_ ?_
      · refine w_block (w_seq (w_region (by rfl) (dv1 (l_assign (.v _)) (dvE (q_seq (w_block (w_loopF hF (fun (s12060 : (List Int) × Int × Int) => ⟨[(1, .ro (.sl 4 1 (a1.map bC))), (2, .ad 0 2 0 0), (4, .ad 1 2 0 0), (5, .rf 2 0 ((s12060.1.map iC).length) 1), (6, .v (.int .i64 s12060.2.1)), (7, .v (.int .i64 ((s9050.2.2 : Nat) : Int))), (8, .v (.int .i64 s12060.2.2)), (54, .un), (55, .un), (56, .un), (57, .un), (60, .un), (61, .un), (62, .un), (63, .un), (64, .un)], [(0, some ⟨31, 2, [[.v (.int .i64 a0.Ret), .ro (.sl 47 8 (a0.Blocks.map MBlk.ct))]]⟩), (1, some ⟨31, 2, [[.v (.int .i64 0), .v (.slice none 0 0)]]⟩), (2, some ⟨3, 1, s12060.1.map iC⟩)], 1⟩) (le_of [(0, some 0), (1, some 1), (2, some 2)] rfl (.s (.s (.s (.s (.s (.s (.s (.cons .un (.un _) (.cons .un (.un _) (.cons .un (.un _) (.cons .un (.un _) (.cons .un (.un _) (.cons .un (.un _) (.cons .un (.un _) (.cons .un (.un _) (.cons .un (.un _) .nil))))))))) rfl) rfl) rfl) rfl) rfl) rfl) rfl) (.box rfl rfl (.s rfl) (.box rfl rfl (.s rfl) (.row rfl rfl rfl (clm k_iC _) .nil)))) ?_)))))))
        intro s12060 y12061 hF hx12062
        refine w_seq (w_seq (w_draw [[], [], [1], [], [1, 2, 3], [1, 2, 3, 4], [1, 2, 3, 4, 5], [1, 2, 3, 4, 5, 6], [], [8], [], [8, 9, 10], [8, 9, 10, 11], [8, 9, 10, 11, 12], [8, 9, 10, 11, 12, 13], [1, 2, 3, 4, 5, 6, 7, 8, 9, 10, 11, 12, 13, 14], [0, 1, 2, 3, 4, 5, 6, 7, 8, 9, 10, 11, 12, 13, 14, 15]] [0, 1, 2, 3, 4, 5, 6, 7, 8, 9, 10, 11, 12, 13, 14, 15, 16] (by kernel_rfl) (by rfl) ⟨by decide, by rfl⟩ (by rfl) ?_))
        refine de1 rfl (l_move (.v _)) rfl (de1 rfl (l_field fd31_1 rfl) rfl (de1 rfl (l_load ty29 rfl rfl rfl rfl rfl) rfl (de1 rfl (l_move (.v _)) rfl ?_)))
        obtain ⟨x12064, h12065, hF⟩ := bindE hF
        refine de1 rfl (l_indexRo s9050.2.2 sl29 rfl rfl rfl (map_at h12065)) rfl (de1 rfl (l_fieldRo fd47_0 rfl) rfl (de1 rfl (l_loadRo ty27 rfl rfl) rfl (de1 rfl (l_lenRo sl27 rfl rfl (List.length_map _)) rfl (de1 rfl (l_field fd31_1 rfl) rfl (de1 rfl (l_load ty29 rfl rfl rfl rfl rfl) rfl (de1 rfl (l_move (.v _)) rfl (de1 rfl (l_indexRo s9050.2.2 sl29 rfl rfl rfl (map_at h12065)) rfl (de1 rfl (l_fieldRo fd47_1 rfl) rfl ?_))))))))
        refine de1 rfl (l_loadRo ty45 rfl rfl) rfl (de1 rfl (l_lenRo sl45 rfl rfl (List.length_map _)) rfl (de1 rfl (l_bin rfl rfl (b_add rfl)) rfl (de1 rfl (l_bin rfl rfl b_lss) rfl (ddE (q_seq ?_)))))
        rcases condE hF with ⟨b12066, hF⟩ | ⟨b12066, hF⟩
        · refine w_condT rfl b12066 ?_
          refine w_skip (q_seq ?_)
          obtain ⟨s12069, hF, hG12070⟩ := bindE hF
          refine w_seqJ ⟨[(1, .ro (.sl 4 1 (a1.map bC))), (2, .ad 0 2 0 0), (4, .ad 1 2 0 0), (5, .rf 2 0 ((s12069.1.map iC).length) 1), (6, .v (.int .i64 s12069.2)), (7, .v (.int .i64 ((s9050.2.2 : Nat) : Int))), (8, .v (.int .i64 s12060.2.2)), (54, .un), (55, .un), (56, .un), (57, .un), (60, .un), (61, .un), (62, .un), (63, .un), (64, .un)], [(0, some ⟨31, 2, [[.v (.int .i64 a0.Ret), .ro (.sl 47 8 (a0.Blocks.map MBlk.ct))]]⟩), (1, some ⟨31, 2, [[.v (.int .i64 0), .v (.slice none 0 0)]]⟩), (2, some ⟨3, 1, s12069.1.map iC⟩)], 1⟩ ?_ ?_
          · refine w_block (w_seq (w_region (by rfl) (dv1 (l_move (.rf _ _ _ _)) (dv1 (l_lenR sl27 rfl rfl (List.length_map _)) (dv1 (l_assign (.v _)) (dvE (q_seq ?_)))))))
            obtain ⟨s12072, hF, hG12073⟩ := bindE hF
            refine w_seqJ ⟨[(1, .ro (.sl 4 1 (a1.map bC))), (2, .ad 0 2 0 0), (4, .ad 1 2 0 0), (5, .rf 2 0 ((s12060.1.map iC).length) 1), (6, .v (.int .i64 s12060.2.1)), (7, .v (.int .i64 ((s9050.2.2 : Nat) : Int))), (8, .v (.int .i64 s12060.2.2)), (54, .un), (55, .un), (56, .un), (57, .un), (60, .un), (61, .un), (62, .un), (63, .un), (64, .un), (65, .v (.bool s12072))], [(0, some ⟨31, 2, [[.v (.int .i64 a0.Ret), .ro (.sl 47 8 (a0.Blocks.map MBlk.ct))]]⟩), (1, some ⟨31, 2, [[.v (.int .i64 0), .v (.slice none 0 0)]]⟩), (2, some ⟨3, 1, s12060.1.map iC⟩)], 1⟩ ?_ ?_
            · refine w_region (by rfl) (dv1 (l_move (.v _)) (dv1 (l_field fd31_1 rfl) (dv1 (l_load ty29 rfl rfl rfl rfl rfl) (dv1 (l_move (.v _)) (dv1 (l_indexRo s9050.2.2 sl29 rfl rfl rfl (map_at h12065)) (dv1 (l_fieldRo fd47_0 rfl) (dv1 (l_loadRo ty27 rfl rfl) (dv1 (l_lenRo sl27 rfl rfl (List.length_map _)) ?_))))))))
              refine dv1 (l_bin rfl rfl b_geq) (dv1 (l_move (.v _)) ?_)
              rcases condE hF with ⟨b12074, hF⟩ | ⟨b12074, hF⟩
              · refine dv1 (l_gT rfl rfl (gt rfl b12074) fun _ => l_move (.v _)) (dv1 (l_gT rfl rfl (gt rfl b12074) fun _ => l_move (.ro _)) (dv1 (l_gT rfl rfl (gt rfl b12074) fun _ => l_lenRo sl39 rfl rfl (List.length_map _)) (dv1 (l_gT rfl rfl (gt rfl b12074) fun _ => l_bin rfl rfl b_lssN) (dv1 (l_pickT (gt rfl b12074) (.v _)) (dv1 (l_move (.v _)) ?_)))))
                rcases condE hF with ⟨b12075, hF⟩ | ⟨b12075, hF⟩
                · refine dv1 (l_gT rfl rfl (gt rfl b12075) fun _ => l_move (.ro _)) (dv1 (l_gT rfl rfl (gt rfl b12075) fun _ => l_move (.v _)) ?_)
                  obtain ⟨x12076, h12077, hF⟩ := bindE hF
                  refine dv1 (l_gT rfl rfl (gt rfl b12075) fun _ => l_indexRo s12060.1.length sl39 rfl rfl rfl (map_at h12077)) (dv1 (l_gT rfl rfl (gt rfl b12075) fun _ => l_loadRo ty4 rfl rfl) (dv1 (l_gT rfl rfl (gt rfl b12075) fun _ => l_not rfl) (dv1 (l_pickT (gt rfl b12075) (.v _)) (dvE ?_))))
                  cases hF
                  refine q_join ?_
                  exact (le_of [(0, some 0), (1, some 1), (2, some 2)] rfl (.s (.s (.s (.s (.s (.s (.s (.cons (.v _) (.un _) (.cons (.ro _) (.un _) (.cons (.v _) (.un _) (.cons (.v _) (.un _) (.cons (.ro _) (.un _) (.cons (.v _) (.un _) (.cons (.ro _) (.un _) (.cons (.v _) (.un _) (.cons (.v _) (.un _) (.s .nil rfl)))))))))) rfl) rfl) rfl) rfl) rfl) rfl) rfl) (.box rfl rfl (.s rfl) (.box rfl rfl (.s rfl) (.row rfl rfl rfl (clm k_iC _) .nil))))
                · refine dv1 (l_gF rfl rfl (gt rfl b12075) rfl) (dv1 (l_gF rfl rfl (gt rfl b12075) rfl) (dv1 (l_gF rfl rfl (gt rfl b12075) rfl) (dv1 (l_gF rfl rfl (gt rfl b12075) rfl) (dv1 (l_gF rfl rfl (gt rfl b12075) rfl) (dv1 (l_pickF (gt rfl b12075) (.v _)) (dvE ?_))))))
                  cases hF
                  refine q_join ?_
                  exact (le_of [(0, some 0), (1, some 1), (2, some 2)] rfl (.s (.s (.s (.s (.s (.s (.s (.cons (.v _) (.un _) (.cons (.ro _) (.un _) (.cons (.v _) (.un _) (.cons (.v _) (.un _) (.cons (.v _) (.un _) (.cons (.v _) (.un _) (.cons (.v _) (.un _) (.cons (.v _) (.un _) (.cons (.v _) (.un _) (.s .nil rfl)))))))))) rfl) rfl) rfl) rfl) rfl) rfl) rfl) (.box rfl rfl (.s rfl) (.box rfl rfl (.s rfl) (.row rfl rfl rfl (clm k_iC _) .nil))))
              · refine dv1 (l_gF rfl rfl (gt rfl b12074) rfl) (dv1 (l_gF rfl rfl (gt rfl b12074) rfl) (dv1 (l_gF rfl rfl (gt rfl b12074) rfl) (dv1 (l_gF rfl rfl (gt rfl b12074) rfl) (dv1 (l_pickF (gt rfl b12074) (.v _)) (dv1 (l_move (.v _)) (dv1 (l_gF rfl rfl rfl rfl) (dv1 (l_gF rfl rfl rfl rfl) (dv1 (l_gF rfl rfl rfl rfl) ?_))))))))
                refine dv1 (l_gF rfl rfl rfl rfl) (dv1 (l_gF rfl rfl rfl rfl) (dv1 (l_pickF rfl (.v _)) (dvE ?_)))
                cases hF
                refine q_join ?_
                exact (le_of [(0, some 0), (1, some 1), (2, some 2)] rfl (.s (.s (.s (.s (.s (.s (.s (.cons (.v _) (.un _) (.cons (.v _) (.un _) (.cons (.v _) (.un _) (.cons (.v _) (.un _) (.cons (.v _) (.un _) (.cons (.v _) (.un _) (.cons (.v _) (.un _) (.cons (.v _) (.un _) (.cons (.v _) (.un _) (.s .nil rfl)))))))))) rfl) rfl) rfl) rfl) rfl) rfl) rfl) (.box rfl rfl (.s rfl) (.box rfl rfl (.s rfl) (.row rfl rfl rfl (clm k_iC _) .nil))))
            replace hF := hG12073
            rcases condE hF with ⟨b12078, hF⟩ | ⟨b12078, hF⟩
            · refine w_condT rfl b12078 ?_
              refine w_region (by rfl) (dv1 (l_move (.rf _ _ _ _)) (dvN (l_bs1 sl27 zt3 rfl (.v _) rfl rfl rfl (by decide) (by decide)) ?_))
              obtain ⟨c12079, hF⟩ := ckE hF
              refine dvN3 (l_app1R el27 rfl rfl rfl rfl rfl rfl (by decide) (map_snoc iC _ (-1)) (List.length_map _) (by simpa using c12079) (by decide)) ?_
              refine dv1 (l_assign (.rf _ _ _ _)) (dvE ?_)
              cases hF
              refine q_in (q_join ?_)
              exact (le_of [(0, some 0), (1, some 1), (2, some 192)] rfl (.s (.s (.s (.cons (.rf _ _ _ _) (.rf rfl (by simp)) (.s (.s (.s (.cons .un (.un _) (.cons .un (.un _) (.cons .un (.un _) (.cons .un (.un _) (.cons .un (.un _) (.cons .un (.un _) (.cons .un (.un _) (.cons .un (.un _) (.cons .un (.un _) .nil))))))))) rfl) rfl) rfl)) rfl) rfl) rfl) (.box rfl rfl (.s rfl) (.box rfl rfl (.s rfl) (.row rfl rfl rfl (clm k_iC _) .nil))))
            · refine w_condF rfl b12078 ?_
              refine w_region (by rfl) (dv1 (l_move (.rf _ _ _ _)) (dv1 (l_move (.v _)) (dvN (l_bs1 sl27 zt3 rfl (.v _) rfl rfl rfl (by decide) (by decide)) ?_)))
              obtain ⟨c12080, hF⟩ := ckE hF
              refine dvN3 (l_app1R el27 rfl rfl rfl rfl rfl rfl (by decide) (map_snoc iC _ s12060.2.1) (List.length_map _) (by simpa using c12080) (by decide)) ?_
              refine dv1 (l_move (.v _)) (dv1 (l_bin rfl rfl (b_add rfl)) (dv1 (l_assign (.rf _ _ _ _)) (dv1 (l_assign (.v _)) (dvE ?_))))
              cases hF
              refine q_in (q_join ?_)
              exact (le_of [(0, some 0), (1, some 1), (2, some 256)] rfl (.s (.s (.s (.cons (.rf _ _ _ _) (.rf rfl (by simp)) (.s (.s (.s (.cons .un (.un _) (.cons .un (.un _) (.cons .un (.un _) (.cons .un (.un _) (.cons .un (.un _) (.cons .un (.un _) (.cons .un (.un _) (.cons .un (.un _) (.cons .un (.un _) .nil))))))))) rfl) rfl) rfl)) rfl) rfl) rfl) (.box rfl rfl (.s rfl) (.box rfl rfl (.s rfl) (.row rfl rfl rfl (clm k_iC _) .nil))))
          replace hF := hG12070
          refine w_region (by rfl) (dv1 (l_move (.v _)) (dv1 (l_bin rfl rfl (b_add rfl)) (dv1 (l_assign (.v _)) (dvE ?_))))
          cases hF
          refine qL rfl ?_
          exact (le_of [(0, some 0), (1, some 1), (2, some 2)] rfl (.s (.s (.s (.s (.s (.s (.s (.cons .un (.un _) (.cons .un (.un _) (.cons .un (.un _) (.cons .un (.un _) (.cons .un (.un _) (.cons .un (.un _) (.cons .un (.un _) (.cons .un (.un _) (.cons .un (.un _) .nil))))))))) rfl) rfl) rfl) rfl) rfl) rfl) rfl) (.box rfl rfl (.s rfl) (.box rfl rfl (.s rfl) (.row rfl rfl rfl (clm k_iC _) .nil))))
        · refine w_condF rfl b12066 ?_
          refine w_exit ?_
          cases hF
          cases hx12062 _ rfl
          refine q_exS (q_exS (q_here (q_in (q_join ?_))))
          exact (le_of [(0, some 0), (1, some 1), (2, some 2)] rfl (.s (.s (.s (.s (.s (.s (.cons .un (.un _) (.cons .un (.un _) (.cons .un (.un _) (.cons .un (.un _) (.cons .un (.un _) (.cons .un (.un _) (.cons .un (.un _) (.cons .un (.un _) (.cons .un (.un _) .nil))))))))) rfl) rfl) rfl) rfl) rfl) rfl) (.box rfl rfl (.s rfl) (.box rfl rfl (.s rfl) (.row rfl rfl rfl (clm k_iC _) .nil))))
      replace hF := hG9059
      refine w_region (by rfl) (dv1 (l_move (.v _)) (dv1 (l_bin rfl rfl (b_incN (of_decide_eq_true b9054) l9055)) (dv1 (l_assign (.v _)) (dvE ?_))))
      cases hF
      refine qL rfl ?_
      exact (le_of [(0, some 0), (1, some 1), (2, some 2)] rfl (.s (.s (.s (.s (.s (.s (.cons .un (.un _) (.cons .un (.un _) (.cons .un (.un _) (.cons .un (.un _) (.cons .un (.un _) (.cons .un (.un _) (.cons .un (.un _) (.cons .un (.un _) (.cons .un (.un _) .nil))))))))) rfl) rfl) rfl) rfl) rfl) rfl) (.box rfl rfl (.s rfl) (.box rfl rfl (.s rfl) (.row rfl rfl rfl (clm k_iC _) .nil))))
    · refine w_condF rfl b9054 ?_
      refine w_exit ?_
      cases hF
      cases hx9052 _ rfl
      refine q_exS (q_exS (q_here (q_join ?_)))
      exact (le_of [(0, some 0), (1, some 1), (2, some 2)] rfl (.s (.s (.s .nil rfl) rfl) rfl) (.box rfl rfl (.s rfl) (.box rfl rfl (.s rfl) (.row rfl rfl rfl (clm k_iC _) .nil))))
  replace hF := hG6049
  refine w_seq (w_region (by rfl) (dv1 (l_loadA ty31 rfl rfl rfl rfl rfl) (dv1 (l_move (.rf _ _ _ _)) ?_)))
  obtain ⟨y12081, h12082, hF⟩ := bindE hF
  refine dvC (l_call (B := true) (FnI.mk' (by kernel_rfl)) (.cons (.ag _) (.ag (.cons (.v _) (.cons (.ro _) .nil))) (.cons (.rf _ _ _ _) (.one (.rf rfl rfl rfl (clm k_iC _))) (.cons (.v _) (.one (.v _)) .nil))) (p_R16_Rename_s1_ac h12082) (okT p_R16_Rename_s1_ok)) ?_
  rintro _ rfl
  refine dvN (l_alloc zt31) (dvS (l_store ty31 rfl (.ag _) rfl rfl rfl (Nat.le_of_ble_eq_true rfl) rfl) (dvE (q_seq ?_)))
  obtain ⟨s12084, hF, hG12085⟩ := bindE hF
  refine w_seqJ ⟨[(4, .ad 0 2 0 0), (10, .ad 1 2 0 0)], [(0, some ⟨31, 2, [[.v (.int .i64 0), .v (.slice none 0 0)]]⟩), (1, some ⟨31, 2, [[.v (.int .i64 y12081.Ret), .rf 2 0 ((s12084.map MBlk.ct).length) 8]]⟩), (2, some ⟨47, 8, s12084.map MBlk.ctr⟩)], 1⟩ ?_ ?_
  · refine w_seq (w_region (by rfl) (dv1 (l_assign (.v _)) (dvE (q_seq (w_block (W.le (le_share 193 (els := y12081.Blocks.map MBlk.ct) rfl (RoE.map rl_MBlkct _)) ?_))))))
    refine w_loopF hF (fun (s15086 : (List MBlk) × Nat) => ⟨[(2, .ad 0 2 0 0), (4, .ad 1 2 0 0), (5, .rf 2 0 ((s6048.map iC).length) 1), (10, .ad 3 2 0 0), (11, .v (.int .i64 ((s15086.2 : Nat) : Int)))], [(0, some ⟨31, 2, [[.v (.int .i64 a0.Ret), .ro (.sl 47 8 (a0.Blocks.map MBlk.ct))]]⟩), (1, some ⟨31, 2, [[.v (.int .i64 0), .v (.slice none 0 0)]]⟩), (2, some ⟨3, 1, s6048.map iC⟩), (3, some ⟨31, 2, [[.v (.int .i64 y12081.Ret), .rf 4 0 ((s15086.1.map MBlk.ct).length) 8]]⟩), (4, some ⟨47, 8, s15086.1.map MBlk.ctr⟩)], 1⟩) (le_of [(0, some 0), (1, some 1), (2, some 2), (3, some 256), (4, some 193)] rfl (.s (.s (.s (.s (.s .nil rfl) rfl) rfl) rfl) rfl) (.box rfl rfl (.s rfl) (.box rfl rfl (.s rfl) (.row rfl rfl rfl (clm k_iC _) (.box rfl rfl (.s rfl) (.row rfl rfl rfl (clm kr_MBlkct _) .nil)))))) ?_
    intro s15086 y15087 hF hx15088
    refine w_seq (w_seq (w_region (by rfl) (dv1 (l_move (.v _)) (dv1 (l_field fd31_1 rfl) (dv1 (l_load ty29 rfl rfl rfl rfl rfl) (dv1 (l_lenR sl29 rfl rfl (List.length_map _)) (dv1 (l_bin rfl rfl b_lssN) (dvE ?_))))))))
    refine q_seq ?_
    rcases condE hF with ⟨b15090, hF⟩ | ⟨b15090, hF⟩
    · refine w_lenK 4 rfl fun l15091 => ?_
      refine w_condT rfl b15090 ?_
      refine w_skip (q_seq ?_)
      obtain ⟨s15093, hF, hG15094⟩ := bindE hF
      refine w_seqJ ⟨[(2, .ad 0 2 0 0), (4, .ad 1 2 0 0), (5, .rf 2 0 ((s6048.map iC).length) 1), (10, .ad 3 2 0 0), (11, .v (.int .i64 ((s15086.2 : Nat) : Int)))], [(0, some ⟨31, 2, [[.v (.int .i64 a0.Ret), .ro (.sl 47 8 (a0.Blocks.map MBlk.ct))]]⟩), (1, some ⟨31, 2, [[.v (.int .i64 0), .v (.slice none 0 0)]]⟩), (2, some ⟨3, 1, s6048.map iC⟩), (3, some ⟨31, 2, [[.v (.int .i64 y12081.Ret), .rf 4 0 ((s15093.map MBlk.ct).length) 8]]⟩), (4, some ⟨47, 8, s15093.map MBlk.ctr⟩)], 1⟩ ?_ ?_
      · refine w_block (w_seq (w_draw [[], [], [], [1, 2], [], [4], [], [4, 5, 6], [4, 5, 6, 7], [4, 5, 6, 7, 8], [4, 5, 6, 7, 8, 9], [1, 2, 3, 4, 5, 6, 7, 8, 9, 10], [0, 1, 2, 3], [0, 1, 2, 3, 4, 5, 6, 7, 8, 9, 10, 11, 12]] [0, 1, 2, 4, 5, 6, 7, 8, 9, 10, 3, 11, 12, 13] (by kernel_rfl) (by rfl) ⟨by decide, by rfl⟩ (by rfl) ?_))
        refine deN rfl (l_bs0 sl45 zt49 rfl (by decide)) rfl (de1 rfl (l_loadA ty31 rfl rfl rfl rfl rfl) rfl (de1 rfl (l_move (.v _)) rfl (de1 rfl (l_field fd31_1 rfl) rfl (de1 rfl (l_load ty29 rfl rfl rfl rfl rfl) rfl (de1 rfl (l_move (.v _)) rfl ?_)))))
        obtain ⟨x15095, h15096, hF⟩ := bindE hF
        refine de1 rfl (l_indexRo s15086.2 sl29 rfl rfl rfl (map_at h15096)) rfl (de1 rfl (l_fieldRo fd47_0 rfl) rfl (de1 rfl (l_loadRo ty27 rfl rfl) rfl (de1 rfl (l_lenRo sl27 rfl rfl (List.length_map _)) rfl ?_)))
        obtain ⟨y15097, h15098, hF⟩ := bindE hF
        refine deC1 rfl (l_call (B := false) (FnI.mk' (by kernel_rfl)) (.cons (.ag _) (.ag (.cons (.v _) (.cons (.ro _) .nil))) (.cons (.v _) (.one (.v _)) .nil)) (p_R05_First_ac h15098) (okF p_R05_First_ok)) rfl ?_
        refine de1 rfl (l_bin rfl rfl (b_add rfl)) rfl (de1 rfl (l_assign (.rf _ _ _ _)) rfl (de1 rfl (l_assign (.v _)) rfl (ddE (q_seq ?_))))
        obtain ⟨s15100, hF, hG15101⟩ := bindE hF
        refine w_seqJ ⟨[(2, .ad 0 2 0 0), (4, .ad 1 2 0 0), (5, .rf 2 0 ((s6048.map iC).length) 1), (10, .ad 3 2 0 0), (11, .v (.int .i64 ((s15086.2 : Nat) : Int))), (12, .rf 5 0 ((s15100.map MOp.ct).length) 8)], [(0, some ⟨31, 2, [[.v (.int .i64 a0.Ret), .ro (.sl 47 8 (a0.Blocks.map MBlk.ct))]]⟩), (1, some ⟨31, 2, [[.v (.int .i64 0), .v (.slice none 0 0)]]⟩), (2, some ⟨3, 1, s6048.map iC⟩), (3, some ⟨31, 2, [[.v (.int .i64 y12081.Ret), .rf 4 0 ((s15086.1.map MBlk.ct).length) 8]]⟩), (4, some ⟨47, 8, s15086.1.map MBlk.ctr⟩), (5, some ⟨49, 8, s15100.map MOp.ctr⟩)], 1⟩ ?_ ?_
        · refine w_seq (w_region (by rfl) (dv1 (l_assign (.v _)) (dvE (q_seq (w_block (W.le (le_share 384 (els := ([] : List MOp).map MOp.ct) rfl (RoE.map rl_MOpct _)) ?_))))))
          refine w_loopF hF (fun (s18102 : (List MOp) × Nat) => ⟨[(2, .ad 0 2 0 0), (4, .ad 1 2 0 0), (5, .rf 2 0 ((s6048.map iC).length) 1), (10, .ad 3 2 0 0), (11, .v (.int .i64 ((s15086.2 : Nat) : Int))), (12, .rf 5 0 ((s18102.1.map MOp.ct).length) 8), (13, .v (.int .i64 (IntKind.i64.wrap (y15097 + ((x15095.Params.length : Nat) : Int))))), (14, .v (.int .i64 ((s18102.2 : Nat) : Int)))], [(0, some ⟨31, 2, [[.v (.int .i64 a0.Ret), .ro (.sl 47 8 (a0.Blocks.map MBlk.ct))]]⟩), (1, some ⟨31, 2, [[.v (.int .i64 0), .v (.slice none 0 0)]]⟩), (2, some ⟨3, 1, s6048.map iC⟩), (3, some ⟨31, 2, [[.v (.int .i64 y12081.Ret), .rf 4 0 ((s15086.1.map MBlk.ct).length) 8]]⟩), (4, some ⟨47, 8, s15086.1.map MBlk.ctr⟩), (5, some ⟨49, 8, s18102.1.map MOp.ctr⟩)], 1⟩) (le_of [(0, some 0), (1, some 1), (2, some 2), (3, some 3), (4, some 4), (5, some 384)] rfl (.s (.s (.s (.s (.s (.s (.s (.s .nil rfl) rfl) rfl) rfl) rfl) rfl) rfl) rfl) (.box rfl rfl (.s rfl) (.box rfl rfl (.s rfl) (.row rfl rfl rfl (clm k_iC _) (.box rfl rfl (.s rfl) (.row rfl rfl rfl (clm kr_MBlkct _) (.row rfl rfl rfl (clm kr_MOpct _) .nil))))))) ?_
          intro s18102 y18103 hF hx18104
          refine w_seq (w_seq (w_region (by rfl) (dv1 (l_move (.v _)) (dv1 (l_field fd31_1 rfl) (dv1 (l_load ty29 rfl rfl rfl rfl rfl) (dv1 (l_move (.v _)) ?_))))))
          obtain ⟨x18106, h18107, hF⟩ := bindE hF
          refine dv1 (l_index s15086.2 sl29 rfl rfl rfl (lt_at MBlk.ct h18107)) (dv1 (l_field fd47_1 rfl) (dv1 (l_load ty45 rfl rfl (map_at h18107) rfl rfl) (dv1 (l_lenRo sl45 rfl rfl (List.length_map _)) (dv1 (l_bin rfl rfl b_lssN) (dvE (q_seq ?_))))))
          rcases condE hF with ⟨b18108, hF⟩ | ⟨b18108, hF⟩
          · refine w_lenS 103 rfl fun l18109 => ?_
            refine w_condT rfl b18108 ?_
            refine w_skip (q_seq ?_)
            obtain ⟨s18111, hF, hG18112⟩ := bindE hF
            refine w_seqJ ⟨[(2, .ad 0 2 0 0), (4, .ad 1 2 0 0), (5, .rf 2 0 ((s6048.map iC).length) 1), (10, .ad 3 2 0 0), (11, .v (.int .i64 ((s15086.2 : Nat) : Int))), (12, .rf 5 0 ((s18111.map MOp.ct).length) 8), (13, .v (.int .i64 (IntKind.i64.wrap (y15097 + ((x15095.Params.length : Nat) : Int))))), (14, .v (.int .i64 ((s18102.2 : Nat) : Int)))], [(0, some ⟨31, 2, [[.v (.int .i64 a0.Ret), .ro (.sl 47 8 (a0.Blocks.map MBlk.ct))]]⟩), (1, some ⟨31, 2, [[.v (.int .i64 0), .v (.slice none 0 0)]]⟩), (2, some ⟨3, 1, s6048.map iC⟩), (3, some ⟨31, 2, [[.v (.int .i64 y12081.Ret), .rf 4 0 ((s15086.1.map MBlk.ct).length) 8]]⟩), (4, some ⟨47, 8, s15086.1.map MBlk.ctr⟩), (5, some ⟨49, 8, s18111.map MOp.ctr⟩)], 1⟩ ?_ ?_
            · refine w_block (w_seq (w_region (by rfl) (dv1 (l_move (.rf _ _ _ _)) (dv1 (l_move (.v _)) (dv1 (l_move (.v _)) (dv1 (l_bin rfl rfl (b_add rfl)) ?_))))))
              obtain ⟨x18113, h18114, hF⟩ := bindE hF
              refine dv1 (l_index ((IntKind.i64.wrap (IntKind.i64.wrap (y15097 + ((x15095.Params.length : Nat) : Int)) + ((s18102.2 : Nat) : Int))).toNat) sl27 rfl rfl (atI_z h18114) (lt_at iC (atI_at h18114))) (dv1 (l_load ty3 rfl rfl (map_at (atI_at h18114)) rfl rfl) (dv1 (l_bin rfl rfl b_geq) (dvE (q_seq ?_))))
              rcases condE hF with ⟨b18115, hF⟩ | ⟨b18115, hF⟩
              · refine w_condT rfl b18115 ?_
                refine w_region (by rfl) (dv1 (l_move (.rf _ _ _ _)) (dv1 (l_field fd31_1 rfl) (dv1 (l_load ty29 rfl rfl rfl rfl rfl) (dv1 (l_move (.v _)) (dv1 (l_index s15086.2 sl29 rfl rfl rfl (lt_at MBlk.ct h18107)) (dv1 (l_field fd47_1 rfl) (dv1 (l_load ty45 rfl rfl (map_at h18107) rfl rfl) (dv1 (l_move (.v _)) ?_))))))))
                obtain ⟨x18116, h18117, hF⟩ := bindE hF
                refine dv1 (l_indexRo s18102.2 sl45 rfl rfl rfl (map_at h18117)) (dv1 (l_loadARo ty49 rfl rfl) (dvN (l_bs1 sl45 zt49 rfl (.ag _) rfl rfl rfl (by decide) (by decide)) ?_))
                obtain ⟨c18118, hF⟩ := ckE hF
                refine dvN3 (l_app1R el45 rfl rfl rfl ((List.length_map _).trans (List.length_map _).symm) rfl rfl (by decide) (map_snoc MOp.ctr _ x18116) (List.length_map _) (by simpa using c18118) (by decide)) ?_
                refine dv1 (l_assign (.rf _ _ _ _)) (dvE ?_)
                cases hF
                refine q_in (q_join ?_)
                exact (le_of [(0, some 0), (1, some 1), (2, some 2), (3, some 3), (4, some 4), (5, some 1792)] rfl (.s (.s (.s (.s (.s (.cons (.rf _ _ _ _) (.rf rfl (by simp)) (.s (.s .nil rfl) rfl)) rfl) rfl) rfl) rfl) rfl) (.box rfl rfl (.s rfl) (.box rfl rfl (.s rfl) (.row rfl rfl rfl (clm k_iC _) (.box rfl rfl (.s rfl) (.row rfl rfl rfl (clm kr_MBlkct _) (.row rfl rfl rfl (clm kr_MOpct _) .nil)))))))
              · refine w_condF rfl b18115 ?_
                refine w_skip ?_
                cases hF
                refine q_in (q_join ?_)
                exact (le_of [(0, some 0), (1, some 1), (2, some 2), (3, some 3), (4, some 4), (5, some 5)] rfl (.s (.s (.s (.s (.s (.s (.s (.s .nil rfl) rfl) rfl) rfl) rfl) rfl) rfl) rfl) (.box rfl rfl (.s rfl) (.box rfl rfl (.s rfl) (.row rfl rfl rfl (clm k_iC _) (.box rfl rfl (.s rfl) (.row rfl rfl rfl (clm kr_MBlkct _) (.row rfl rfl rfl (clm kr_MOpct _) .nil)))))))
            replace hF := hG18112
            refine w_region (by rfl) (dv1 (l_move (.v _)) (dv1 (l_bin rfl rfl (b_incN (of_decide_eq_true b18108) l18109)) (dv1 (l_assign (.v _)) (dvE ?_))))
            cases hF
            refine qL rfl ?_
            exact (le_of [(0, some 0), (1, some 1), (2, some 2), (3, some 3), (4, some 4), (5, some 5)] rfl (.s (.s (.s (.s (.s (.s (.s (.s .nil rfl) rfl) rfl) rfl) rfl) rfl) rfl) rfl) (.box rfl rfl (.s rfl) (.box rfl rfl (.s rfl) (.row rfl rfl rfl (clm k_iC _) (.box rfl rfl (.s rfl) (.row rfl rfl rfl (clm kr_MBlkct _) (.row rfl rfl rfl (clm kr_MOpct _) .nil)))))))
          · refine w_condF rfl b18108 ?_
            refine w_exit ?_
            cases hF
            cases hx18104 _ rfl
            refine q_exS (q_exS (q_here (q_join ?_)))
            exact (le_of [(0, some 0), (1, some 1), (2, some 2), (3, some 3), (4, some 4), (5, some 5)] rfl (.s (.s (.s (.s (.s (.s .nil rfl) rfl) rfl) rfl) rfl) rfl) (.box rfl rfl (.s rfl) (.box rfl rfl (.s rfl) (.row rfl rfl rfl (clm k_iC _) (.box rfl rfl (.s rfl) (.row rfl rfl rfl (clm kr_MBlkct _) (.row rfl rfl rfl (clm kr_MOpct _) .nil)))))))
        replace hF := hG15101
        refine w_region (by rfl) (dv1 (l_field fd31_1 rfl) (dv1 (l_load ty29 rfl rfl rfl rfl rfl) (dv1 (l_move (.v _)) (dv1 (l_move (.rf _ _ _ _)) ?_))))
        obtain ⟨x18119, h18120, hF⟩ := bindE hF
        refine dv1 (l_index s15086.2 sl29 rfl rfl rfl (lt_at MBlk.ct h18120)) (dv1 (l_field fd47_1 rfl) (dvS (l_store ty45 rfl (.rf _ _ _ _) rfl (map_at h18120) rfl (Nat.le_of_ble_eq_true rfl) rfl) (dvE ?_)))
        cases hF
        refine q_in (q_join ?_)
        refine St.le.trans (le_freezeR 5 (Wk.sl (WkE.map wr_MOpct _)) [(12, .ro (.sl 49 8 (s15100.map MOp.ct))), (130, .ro (.sl 49 8 (s15100.map MOp.ct)))] [(4, some ⟨47, 8, (s15086.1.map MBlk.ctr).set s15086.2 [.ro (.sl 3 1 (x18119.Params.map iC)), .ro (.sl 49 8 (s15100.map MOp.ct)), .v (.int .i64 x18119.End.K), .v (.int .i64 x18119.End.A), .v (.int .i64 x18119.End.To), .v (.int .i64 x18119.End.Else), .ro (.sl 3 1 (x18119.End.L.map iC)), .ro (.sl 3 1 (x18119.End.M.map iC))]⟩)] rfl (clm kr_MOpct _) (.rf rfl (((List.length_map _).trans (List.length_map _).symm)).symm (.rf rfl (((List.length_map _).trans (List.length_map _).symm)).symm .nil)) (.at_ (i := s15086.2) rfl (by decide) (set_at h18120) (.same (.ro (((List.length_map _).trans (List.length_map _).symm)).symm (.same (.same (.same (.same (.same (.same .nil)))))))) (List.set_set ..) .nil)) ?_
        refine St.le.trans (le_closeR 4 s15086.2 rfl (set_at h18120) (.cons (.of (.ro _)) (.cons (.of (.ro _)) (.cons (.of (.v _)) (.cons (.of (.v _)) (.cons (.of (.v _)) (.cons (.of (.v _)) (.cons (.of (.ro _)) (.cons (.of (.ro _)) .nil)))))))) (by decide) (by decide) rfl (set_cl MBlk.ctr _ _ _ (⟨x18119.Params, s15100, x18119.End⟩ : MBlk))) ?_
        exact (le_of [(0, some 0), (1, some 1), (2, some 2), (3, some 3), (4, some 4)] rfl (.s (.s (.s (.s (.s .nil rfl) rfl) rfl) rfl) rfl) (.box rfl rfl (.s rfl) (.box rfl rfl (.s rfl) (.row rfl rfl rfl (clm k_iC _) (.box rfl rfl (.cons (.v rfl) (.cons (.rf rfl (by simp)) .nil)) (.row rfl rfl rfl (clm kr_MBlkct _) .nil))))))
      replace hF := hG15094
      refine w_region (by rfl) (dv1 (l_move (.v _)) (dv1 (l_bin rfl rfl (b_incN (of_decide_eq_true b15090) l15091)) (dv1 (l_assign (.v _)) (dvE ?_))))
      cases hF
      refine qL rfl ?_
      exact (le_of [(0, some 0), (1, some 1), (2, some 2), (3, some 3), (4, some 4)] rfl (.s (.s (.s (.s (.s .nil rfl) rfl) rfl) rfl) rfl) (.box rfl rfl (.s rfl) (.box rfl rfl (.s rfl) (.row rfl rfl rfl (clm k_iC _) (.box rfl rfl (.s rfl) (.row rfl rfl rfl (clm kr_MBlkct _) .nil))))))
    · refine w_condF rfl b15090 ?_
      refine w_exit ?_
      cases hF
      cases hx15088 _ rfl
      refine q_exS (q_exS (q_here (q_join ?_)))
      exact (le_of [(0, some 1), (1, some 3), (2, some 4)] rfl (.s (.s .nil rfl) rfl) (.box rfl rfl (.s rfl) (.box rfl rfl (.s rfl) (.row rfl rfl rfl (clm kr_MBlkct _) .nil))))
  replace hF := hG12085
  refine w_seq (w_region (by rfl) (dv1 (l_loadA ty31 rfl rfl rfl rfl rfl) (dvS (l_store ty31 rfl (.ag _) rfl rfl rfl (Nat.le_of_ble_eq_true rfl) rfl) (dvE (q_seq (W.le (le_freezeR 2 (Wk.sl (WkE.map wr_MBlkct _)) [(133, .ag [.v (.int .i64 y12081.Ret), .ro (.sl 47 8 (s12084.map MBlk.ct))])] [(0, some ⟨31, 2, [[.v (.int .i64 y12081.Ret), .ro (.sl 47 8 (s12084.map MBlk.ct))]]⟩), (1, some ⟨31, 2, [[.v (.int .i64 y12081.Ret), .ro (.sl 47 8 (s12084.map MBlk.ct))]]⟩)] rfl (clm kr_MBlkct _) (.ag rfl (.same (.ro (((List.length_map _).trans (List.length_map _).symm)).symm .nil)) .nil) (.at_ (i := 0) rfl (by decide) rfl (.same (.ro (((List.length_map _).trans (List.length_map _).symm)).symm .nil)) rfl (.at_ (i := 0) rfl (by decide) rfl (.same (.ro (((List.length_map _).trans (List.length_map _).symm)).symm .nil)) rfl .nil))) ?_))))))
  refine w_ret ?_
  cases hF
  refine q_end (.inr rfl) ?_
  exact ret_ok rfl (.cons (.cellA ty31 rfl rfl rfl (.cons (.of (.v _)) (.cons (.of (.ro _)) .nil))) .nil) (by decide) rfl

def p_tidy_Kept_t1 (a0_0 : Int) (a0_1 : List MBlk) (a1 : List Bool) : Option MFun :=
(((loop (fun (s3004 : (List Int) × Int × Nat) =>
(bif decide (s3004.2.2 < a0_1.length) then
((((a0_1[s3004.2.2]?).bind fun x3014 =>
(loop (fun (s6016 : (List Int) × Int × Int) =>
(bif decide (s6016.2.2 < IntKind.i64.wrap (((x3014.Params.length : Nat) : Int) + ((x3014.Ops.length : Nat) : Int))) then
(((((bif decide (((x3014.Params.length : Nat) : Int) ≤ s6016.2.2) then
((p_tidy_Kept_1 ((s6016.1.length : Nat) : Int) a1).bind fun y6029 =>
some y6029)
else
some false)).bind fun (s6026 : Bool) =>
(bif s6026 then
(ck ((s6016.1.length + 1) * 8 ≤ 140737488355328)
(some ((s6016.1 ++ [(-1)]), s6016.2.1)))
else
(ck ((s6016.1.length + 1) * 8 ≤ 140737488355328)
(some ((s6016.1 ++ [s6016.2.1]), IntKind.i64.wrap (s6016.2.1 + 1))))))).bind fun (s6023 : (List Int) × Int) =>
some (Xt.go (s6023.1, s6023.2, IntKind.i64.wrap (s6016.2.2 + 1))))
else
some (Xt.out (s6016.1, s6016.2.1)))) Fu (s3004.1, s3004.2.1, 0)))).bind fun (s3012 : (List Int) × Int) =>
some (Xt.go (s3012.1, s3012.2, (s3004.2.2 + 1))))
else
some (Xt.out s3004.1))) Fu ([], 0, 0))).bind fun (s2 : (List Int)) =>
((p_tidy_renamed_s1 (⟨a0_0, a0_1⟩ : MFun) s2).bind fun y6034 =>
(((loop (fun (s10039 : (List MBlk) × Int × Int) =>
(bif decide (s10039.2.2 < ((y6034.Blocks.length : Nat) : Int)) then
((((atI s10039.1 s10039.2.2).bind fun x10048 =>
(loop (fun (s13050 : Int × Nat × (List MOp)) =>
(bif decide (s13050.2.1 < x10048.Ops.length) then
((x10048.Ops[s13050.2.1]?).bind fun x13056 =>
((((p_tidy_Kept_1 s13050.1 a1).bind fun y13061 =>
(bif y13061 then
some s13050.2.2
else
(ck ((s13050.2.2.length + 1) * 88 ≤ 140737488355328)
(some (s13050.2.2 ++ [x13056])))))).bind fun (s13059 : (List MOp)) =>
some (Xt.go (IntKind.i64.wrap (s13050.1 + 1), (s13050.2.1 + 1), s13059))))
else
some (Xt.out ((s10039.1.set s10039.2.2.toNat (⟨x10048.Params, s13050.2.2, x10048.End⟩ : MBlk)), s13050.1)))) Fu (IntKind.i64.wrap (s10039.2.1 + ((x10048.Params.length : Nat) : Int)), 0, [])))).bind fun (s10046 : (List MBlk) × Int) =>
some (Xt.go (s10046.1, s10046.2, IntKind.i64.wrap (s10039.2.2 + 1))))
else
some (Xt.out s10039.1))) Fu (y6034.Blocks, 0, 0))).bind fun (s6037 : (List MBlk)) =>
some (⟨y6034.Ret, s6037⟩ : MFun))))

theorem p_tidy_Kept_t1_sok {r : MFun} : rOk (.ag [.v (.int .i64 r.Ret), .ro (.sl 47 8 (r.Blocks.map MBlk.ct))]) = true ∧ True := ⟨rfl, trivial⟩

set_option maxRecDepth 10000 in
set_option maxHeartbeats 4000000 in
theorem p_tidy_Kept_t1_sc {a0_0 : Int} {a0_1 : List MBlk} {a1 : List Bool} {r : MFun} (hF : p_tidy_Kept_t1 a0_0 a0_1 a1 = some r) : SC Tryd.prog GT 13 [.ag [.v (.int .i64 a0_0), .ro (.sl 47 8 (a0_1.map MBlk.ct))], .rf 0 0 ((a1.map bC).length) 1] [(0, some ⟨4, 1, a1.map bC⟩)] (fun c gb => c = .ag [.v (.int .i64 r.Ret), .ro (.sl 47 8 (r.Blocks.map MBlk.ct))] ∧ gb = []) := by
  unfold p_tidy_Kept_t1 at hF
  refine SC.mk (nt := 110) [] Tryd.func13 rfl rfl rfl rfl fun w M N g => ?_
  refine w_seq (w_region (by rfl) (dvN (l_box (.ag _) rfl rfl) (dvN (l_box (.rf _ _ _ _) rfl rfl) (dvN (l_alloc zt31) (dvE (q_seq (w_seq (w_region (by rfl) ?_))))))))
  refine dv1 (l_assign (.v _)) (dvE (q_seq (w_seq (w_region (by rfl) (dvG (le_close 128 0 rfl rfl (.cons (.of (.rf rfl rfl (clm k_bC _))) .nil) (by decide) (by decide) rfl) ?_)))))
  refine dvG (le_freeze 128 [(3, .ro (.rp [.sl 4 1 (a1.map bC)] 0))] rfl (cl1 (.sl _ _ (clm k_bC _)) (cl0 (b := true))) (List.forall_mem_cons.2 ⟨⟨0, rfl, rfl⟩, (fun _ h => nomatch h)⟩)) ?_
  refine dv1 (l_fnE (f := 30) (.cons (.ro _) .nil)) (dv1 (l_assign (.fn _ _ _)) (dvE (q_seq (w_seq (w_region (by rfl) (dv1 (l_assign (.v _)) (dvE (q_seq ?_))))))))
  obtain ⟨s2, hF, hG3⟩ := bindE hF
  refine w_seqJ ⟨[(2, .ad 1 2 0 0), (4, .ad 2 2 0 0), (5, .rf 3 0 ((s2.map iC).length) 1), (6, .fn (.func 30) [] [.ro (.rp (lC_bC a1) 0)])], [(1, some ⟨31, 2, [[.v (.int .i64 a0_0), .ro (.sl 47 8 (a0_1.map MBlk.ct))]]⟩), (2, some ⟨31, 2, [[.v (.int .i64 0), .v (.slice none 0 0)]]⟩), (3, some ⟨3, 1, s2.map iC⟩)], 1⟩ ?_ ?_
  · refine w_seq (w_region (by rfl) (dv1 (l_field fd31_1 rfl) (dv1 (l_load ty29 rfl rfl rfl rfl rfl) (dv1 (l_lenRo sl29 rfl rfl (List.length_map _)) (dv1 (l_move (.v _)) (dvE (q_seq (w_block ?_))))))))
    refine w_loopF hF (fun (s3004 : (List Int) × Int × Nat) => ⟨[(2, .ad 1 2 0 0), (4, .ad 2 2 0 0), (5, .rf 3 0 ((s3004.1.map iC).length) 1), (6, .fn (.func 30) [] [.ro (.rp (lC_bC a1) 0)]), (7, .v (.int .i64 s3004.2.1)), (20, .ro (.sl 47 8 (a0_1.map MBlk.ct))), (21, .v (.int .i64 ((a0_1.length : Nat) : Int))), (22, .v (.int .i64 ((s3004.2.2 : Nat) : Int))), (42, .un), (43, .un), (44, .un), (45, .un)], [(1, some ⟨31, 2, [[.v (.int .i64 a0_0), .ro (.sl 47 8 (a0_1.map MBlk.ct))]]⟩), (2, some ⟨31, 2, [[.v (.int .i64 0), .v (.slice none 0 0)]]⟩), (3, some ⟨3, 1, s3004.1.map iC⟩)], 1⟩) (le_of [(1, some 64), (2, some 192), (3, none)] rfl (.s (.s (.cons (.v _) (.nil ⟨by simp, rfl⟩) (.s (.s (.s (.s (.s (.cons .un (.un _) (.cons .un (.un _) (.cons .un (.un _) (.cons .un (.un _) .nil)))) rfl) rfl) rfl) rfl) rfl)) rfl) rfl) (.box rfl rfl (.s rfl) (.box rfl rfl (.s rfl) (.new ⟨by simp, rfl⟩ .nil)))) ?_
    intro s3004 y3005 hF hx3006
    refine w_seq (w_region (by rfl) (dv1 (l_bin rfl rfl b_lssN) (dvE (q_seq (w_seq ?_)))))
    rcases condE hF with ⟨b3008, hF⟩ | ⟨b3008, hF⟩
    · refine w_lenS 20 rfl fun l3009 => ?_
      refine w_condT rfl b3008 ?_
      refine w_skip (q_seq ?_)
      obtain ⟨s3012, hF, hG3013⟩ := bindE hF
      refine w_seqJ ⟨[(2, .ad 1 2 0 0), (4, .ad 2 2 0 0), (5, .rf 3 0 ((s3012.1.map iC).length) 1), (6, .fn (.func 30) [] [.ro (.rp (lC_bC a1) 0)]), (7, .v (.int .i64 s3012.2)), (20, .ro (.sl 47 8 (a0_1.map MBlk.ct))), (21, .v (.int .i64 ((a0_1.length : Nat) : Int))), (22, .v (.int .i64 ((s3004.2.2 : Nat) : Int))), (42, .un), (43, .un), (44, .un), (45, .un)], [(1, some ⟨31, 2, [[.v (.int .i64 a0_0), .ro (.sl 47 8 (a0_1.map MBlk.ct))]]⟩), (2, some ⟨31, 2, [[.v (.int .i64 0), .v (.slice none 0 0)]]⟩), (3, some ⟨3, 1, s3012.1.map iC⟩)], 1⟩ ?_ ?_
      · refine w_block (w_seq (w_region (by rfl) ?_))
        obtain ⟨x3014, h3015, hF⟩ := bindE hF
        refine dv1 (l_indexRo s3004.2.2 sl29 rfl rfl rfl (map_at h3015)) (dv1 (l_loadARo ty47 rfl rfl) (dvN (l_alloc zt47) (dvS (l_store ty47 rfl (.ag _) rfl rfl rfl (Nat.le_of_ble_eq_true rfl) rfl) (dvE (q_seq (w_seq (w_region (by rfl) (dv1 (l_field fd47_0 rfl) ?_))))))))
        refine dv1 (l_load ty27 rfl rfl rfl rfl rfl) (dv1 (l_lenRo sl27 rfl rfl (List.length_map _)) (dv1 (l_field fd47_1 rfl) (dv1 (l_load ty45 rfl rfl rfl rfl rfl) (dv1 (l_lenRo sl45 rfl rfl (List.length_map _)) (dv1 (l_bin rfl rfl (b_add rfl)) (dv1 (l_move (.v _)) (dvE (q_seq ?_))))))))
        refine w_block (w_loopF hF (fun (s6016 : (List Int) × Int × Int) => ⟨[(2, .ad 1 2 0 0), (4, .ad 2 2 0 0), (5, .rf 3 0 ((s6016.1.map iC).length) 1), (6, .fn (.func 30) [] [.ro (.rp (lC_bC a1) 0)]), (7, .v (.int .i64 s6016.2.1)), (9, .ad 4 8 0 0), (20, .ro (.sl 47 8 (a0_1.map MBlk.ct))), (21, .v (.int .i64 ((a0_1.length : Nat) : Int))), (22, .v (.int .i64 ((s3004.2.2 : Nat) : Int))), (32, .v (.int .i64 (IntKind.i64.wrap (((x3014.Params.length : Nat) : Int) + ((x3014.Ops.length : Nat) : Int))))), (33, .v (.int .i64 s6016.2.2)), (42, .un), (43, .un), (44, .un), (45, .un)], [(1, some ⟨31, 2, [[.v (.int .i64 a0_0), .ro (.sl 47 8 (a0_1.map MBlk.ct))]]⟩), (2, some ⟨31, 2, [[.v (.int .i64 0), .v (.slice none 0 0)]]⟩), (3, some ⟨3, 1, s6016.1.map iC⟩), (4, some ⟨47, 8, [[.ro (.sl 3 1 (x3014.Params.map iC)), .ro (.sl 49 8 (x3014.Ops.map MOp.ct)), .v (.int .i64 x3014.End.K), .v (.int .i64 x3014.End.A), .v (.int .i64 x3014.End.To), .v (.int .i64 x3014.End.Else), .ro (.sl 3 1 (x3014.End.L.map iC)), .ro (.sl 3 1 (x3014.End.M.map iC))]]⟩)], 1⟩) (le_of [(1, some 1), (2, some 2), (3, some 3), (4, some 256)] rfl (.s (.s (.s (.s (.s (.s (.s (.s (.s (.s (.s (.cons .un (.un _) (.cons .un (.un _) (.cons .un (.un _) (.cons .un (.un _) .nil)))) rfl) rfl) rfl) rfl) rfl) rfl) rfl) rfl) rfl) rfl) rfl) (.box rfl rfl (.s rfl) (.box rfl rfl (.s rfl) (.row rfl rfl rfl (clm k_iC _) (.box rfl rfl (.s rfl) .nil))))) ?_)
        intro s6016 y6017 hF hx6018
        refine w_seq (w_region (by rfl) (dv1 (l_bin rfl rfl b_lss) (dvE (q_seq (w_seq ?_)))))
        rcases condE hF with ⟨b6020, hF⟩ | ⟨b6020, hF⟩
        · refine w_condT rfl b6020 ?_
          refine w_skip (q_seq ?_)
          obtain ⟨s6023, hF, hG6024⟩ := bindE hF
          refine w_seqJ ⟨[(2, .ad 1 2 0 0), (4, .ad 2 2 0 0), (5, .rf 3 0 ((s6023.1.map iC).length) 1), (6, .fn (.func 30) [] [.ro (.rp (lC_bC a1) 0)]), (7, .v (.int .i64 s6023.2)), (9, .ad 4 8 0 0), (20, .ro (.sl 47 8 (a0_1.map MBlk.ct))), (21, .v (.int .i64 ((a0_1.length : Nat) : Int))), (22, .v (.int .i64 ((s3004.2.2 : Nat) : Int))), (32, .v (.int .i64 (IntKind.i64.wrap (((x3014.Params.length : Nat) : Int) + ((x3014.Ops.length : Nat) : Int))))), (33, .v (.int .i64 s6016.2.2)), (42, .un), (43, .un), (44, .un), (45, .un)], [(1, some ⟨31, 2, [[.v (.int .i64 a0_0), .ro (.sl 47 8 (a0_1.map MBlk.ct))]]⟩), (2, some ⟨31, 2, [[.v (.int .i64 0), .v (.slice none 0 0)]]⟩), (3, some ⟨3, 1, s6023.1.map iC⟩), (4, some ⟨47, 8, [[.ro (.sl 3 1 (x3014.Params.map iC)), .ro (.sl 49 8 (x3014.Ops.map MOp.ct)), .v (.int .i64 x3014.End.K), .v (.int .i64 x3014.End.A), .v (.int .i64 x3014.End.To), .v (.int .i64 x3014.End.Else), .ro (.sl 3 1 (x3014.End.L.map iC)), .ro (.sl 3 1 (x3014.End.M.map iC))]]⟩)], 1⟩ ?_ ?_
          · refine w_block (w_seq (w_region (by rfl) (dv1 (l_move (.v _)) (dv1 (l_assign (.v _)) (dvE (q_seq (w_seq ?_)))))))
            obtain ⟨s6026, hF, hG6027⟩ := bindE hF
            refine w_seqJ ⟨[(2, .ad 1 2 0 0), (4, .ad 2 2 0 0), (5, .rf 3 0 ((s6016.1.map iC).length) 1), (6, .fn (.func 30) [] [.ro (.rp (lC_bC a1) 0)]), (7, .v (.int .i64 s6016.2.1)), (9, .ad 4 8 0 0), (20, .ro (.sl 47 8 (a0_1.map MBlk.ct))), (21, .v (.int .i64 ((a0_1.length : Nat) : Int))), (22, .v (.int .i64 ((s3004.2.2 : Nat) : Int))), (32, .v (.int .i64 (IntKind.i64.wrap (((x3014.Params.length : Nat) : Int) + ((x3014.Ops.length : Nat) : Int))))), (33, .v (.int .i64 s6016.2.2)), (42, .un), (43, .un), (44, .un), (45, .un), (46, .v (.bool s6026))], [(1, some ⟨31, 2, [[.v (.int .i64 a0_0), .ro (.sl 47 8 (a0_1.map MBlk.ct))]]⟩), (2, some ⟨31, 2, [[.v (.int .i64 0), .v (.slice none 0 0)]]⟩), (3, some ⟨3, 1, s6016.1.map iC⟩), (4, some ⟨47, 8, [[.ro (.sl 3 1 (x3014.Params.map iC)), .ro (.sl 49 8 (x3014.Ops.map MOp.ct)), .v (.int .i64 x3014.End.K), .v (.int .i64 x3014.End.A), .v (.int .i64 x3014.End.To), .v (.int .i64 x3014.End.Else), .ro (.sl 3 1 (x3014.End.L.map iC)), .ro (.sl 3 1 (x3014.End.M.map iC))]]⟩)], 1⟩ ?_ ?_
            · refine w_region (by rfl) (dv1 (l_move (.v _)) (dv1 (l_field fd47_0 rfl) (dv1 (l_load ty27 rfl rfl rfl rfl rfl) (dv1 (l_lenRo sl27 rfl rfl (List.length_map _)) (dv1 (l_bin rfl rfl b_geq) (dv1 (l_move (.v _)) ?_))))))
              rcases condE hF with ⟨b6028, hF⟩ | ⟨b6028, hF⟩
              · refine dv1 (l_gT rfl rfl (gt rfl b6028) fun _ => l_move (.fn _ _ _)) (dv1 (l_gT rfl rfl (gt rfl b6028) fun _ => l_move (.rf _ _ _ _)) (dv1 (l_gT rfl rfl (gt rfl b6028) fun _ => l_lenR sl27 rfl rfl (List.length_map _)) ?_))
                obtain ⟨y6029, h6030, hF⟩ := bindE hF
                refine dvC (l_gTC rfl rfl (gt rfl b6028) fun _ => (l_callV (B := false) (caps := [.rp (lC_bC a1) 0]) (FnI.mk' (by kernel_rfl)) (.fn _ _ _) (.fn _ rfl) (.cons (.v _) (.one (.v _)) .nil) (p_tidy_Kept_1_ac h6030) (okF p_tidy_Kept_1_ok))) ?_
                rintro _ rfl
                refine dv1 (l_pickT (gt rfl b6028) (.v _)) (dvE ?_)
                cases hF
                refine q_join ?_
                exact (le_of [(1, some 1), (2, some 2), (3, some 3), (4, some 4)] rfl (.s (.s (.s (.s (.s (.s (.s (.s (.s (.s (.s (.cons (.fn _ _ _) (.un _) (.cons (.rf _ _ _ _) (.un _) (.cons (.v _) (.un _) (.cons (.v _) (.un _) (.s .nil rfl))))) rfl) rfl) rfl) rfl) rfl) rfl) rfl) rfl) rfl) rfl) rfl) (.box rfl rfl (.s rfl) (.box rfl rfl (.s rfl) (.row rfl rfl rfl (clm k_iC _) (.box rfl rfl (.s rfl) .nil)))))
              · refine dv1 (l_gF rfl rfl (gt rfl b6028) rfl) (dv1 (l_gF rfl rfl (gt rfl b6028) rfl) (dv1 (l_gF rfl rfl (gt rfl b6028) rfl) (dv1 (l_gF rfl rfl (gt rfl b6028) rfl) (dv1 (l_pickF (gt rfl b6028) (.v _)) (dvE ?_)))))
                cases hF
                refine q_join ?_
                exact (le_of [(1, some 1), (2, some 2), (3, some 3), (4, some 4)] rfl (.s (.s (.s (.s (.s (.s (.s (.s (.s (.s (.s (.cons (.v _) (.un _) (.cons (.v _) (.un _) (.cons (.v _) (.un _) (.cons (.v _) (.un _) (.s .nil rfl))))) rfl) rfl) rfl) rfl) rfl) rfl) rfl) rfl) rfl) rfl) rfl) (.box rfl rfl (.s rfl) (.box rfl rfl (.s rfl) (.row rfl rfl rfl (clm k_iC _) (.box rfl rfl (.s rfl) .nil)))))
            replace hF := hG6027
            rcases condE hF with ⟨b6031, hF⟩ | ⟨b6031, hF⟩
            · refine w_condT rfl b6031 ?_
              refine w_seq (w_region (by rfl) (dv1 (l_move (.rf _ _ _ _)) (dvN (l_bs1 sl27 zt3 rfl (.v _) rfl rfl rfl (by decide) (by decide)) ?_)))
              obtain ⟨c6032, hF⟩ := ckE hF
              refine dvN3 (l_app1R el27 rfl rfl rfl rfl rfl rfl (by decide) (map_snoc iC _ (-1)) (List.length_map _) (by simpa using c6032) (by decide)) ?_
              refine dv1 (l_assign (.rf _ _ _ _)) (dvE (q_seq (w_exit ?_)))
              cases hF
              refine q_exS (q_here (q_join ?_))
              exact (le_of [(1, some 1), (2, some 2), (3, some 192), (4, some 4)] rfl (.s (.s (.cons (.rf _ _ _ _) (.rf rfl (by simp)) (.s (.s (.s (.s (.s (.s (.s (.s (.cons .un (.un _) (.cons .un (.un _) (.cons .un (.un _) (.cons .un (.un _) .nil)))) rfl) rfl) rfl) rfl) rfl) rfl) rfl) rfl)) rfl) rfl) (.box rfl rfl (.s rfl) (.box rfl rfl (.s rfl) (.row rfl rfl rfl (clm k_iC _) (.box rfl rfl (.s rfl) .nil)))))
            · refine w_condF rfl b6031 ?_
              refine w_skip (q_seq (w_seq (w_region (by rfl) (dv1 (l_move (.rf _ _ _ _)) (dv1 (l_move (.v _)) (dvN (l_bs1 sl27 zt3 rfl (.v _) rfl rfl rfl (by decide) (by decide)) ?_))))))
              obtain ⟨c6033, hF⟩ := ckE hF
              refine dvN3 (l_app1R el27 rfl rfl rfl rfl rfl rfl (by decide) (map_snoc iC _ s6016.2.1) (List.length_map _) (by simpa using c6033) (by decide)) ?_
              refine dv1 (l_assign (.rf _ _ _ _)) (dvE (q_seq (w_region (by rfl) (dv1 (l_move (.v _)) (dv1 (l_bin rfl rfl (b_add rfl)) (dv1 (l_assign (.v _)) (dvE ?_)))))))
              cases hF
              refine q_in (q_join ?_)
              exact (le_of [(1, some 1), (2, some 2), (3, some 256), (4, some 4)] rfl (.s (.s (.cons (.rf _ _ _ _) (.rf rfl (by simp)) (.s (.s (.s (.s (.s (.s (.s (.s (.cons .un (.un _) (.cons .un (.un _) (.cons .un (.un _) (.cons .un (.un _) .nil)))) rfl) rfl) rfl) rfl) rfl) rfl) rfl) rfl)) rfl) rfl) (.box rfl rfl (.s rfl) (.box rfl rfl (.s rfl) (.row rfl rfl rfl (clm k_iC _) (.box rfl rfl (.s rfl) .nil)))))
          replace hF := hG6024
          refine w_region (by rfl) (dv1 (l_bin rfl rfl (b_add rfl)) (dv1 (l_move (.v _)) (dvE ?_)))
          cases hF
          refine qL rfl ?_
          exact (le_of [(1, some 1), (2, some 2), (3, some 3), (4, some 4)] rfl (.s (.s (.s (.s (.s (.s (.s (.s (.s (.s (.s (.cons .un (.un _) (.cons .un (.un _) (.cons .un (.un _) (.cons .un (.un _) .nil)))) rfl) rfl) rfl) rfl) rfl) rfl) rfl) rfl) rfl) rfl) rfl) (.box rfl rfl (.s rfl) (.box rfl rfl (.s rfl) (.row rfl rfl rfl (clm k_iC _) (.box rfl rfl (.s rfl) .nil)))))
        · refine w_condF rfl b6020 ?_
          refine w_exit ?_
          cases hF
          cases hx6018 _ rfl
          refine q_exS (q_exS (q_here (q_in (q_join ?_))))
          exact (le_of [(1, some 1), (2, some 2), (3, some 3)] rfl (.s (.s (.s (.s (.s (.s (.s (.s (.cons .un (.un _) (.cons .un (.un _) (.cons .un (.un _) (.cons .un (.un _) .nil)))) rfl) rfl) rfl) rfl) rfl) rfl) rfl) rfl) (.box rfl rfl (.s rfl) (.box rfl rfl (.s rfl) (.row rfl rfl rfl (clm k_iC _) .nil))))
      replace hF := hG3013
      refine w_region (by rfl) (dv1 (l_bin rfl rfl (b_incN (of_decide_eq_true b3008) l3009)) (dv1 (l_move (.v _)) (dvE ?_)))
      cases hF
      refine qL rfl ?_
      exact (le_of [(1, some 1), (2, some 2), (3, some 3)] rfl (.s (.s (.s (.s (.s (.s (.s (.s (.cons .un (.un _) (.cons .un (.un _) (.cons .un (.un _) (.cons .un (.un _) .nil)))) rfl) rfl) rfl) rfl) rfl) rfl) rfl) rfl) (.box rfl rfl (.s rfl) (.box rfl rfl (.s rfl) (.row rfl rfl rfl (clm k_iC _) .nil))))
    · refine w_condF rfl b3008 ?_
      refine w_exit ?_
      cases hF
      cases hx3006 _ rfl
      refine q_exS (q_exS (q_here (q_join ?_)))
      exact (le_of [(1, some 1), (2, some 2), (3, some 3)] rfl (.s (.s (.s (.s .nil rfl) rfl) rfl) rfl) (.box rfl rfl (.s rfl) (.box rfl rfl (.s rfl) (.row rfl rfl rfl (clm k_iC _) .nil))))
  replace hF := hG3
  refine w_seq (w_region (by rfl) (dv1 (l_loadA ty31 rfl rfl rfl rfl rfl) (dv1 (l_move (.rf _ _ _ _)) ?_)))
  obtain ⟨y6034, h6035, hF⟩ := bindE hF
  refine dvC (l_call (B := true) (FnI.mk' (by kernel_rfl)) (.cons (.ag _) (.ag (.cons (.v _) (.cons (.ro _) .nil))) (.cons (.rf _ _ _ _) (.one (.rf rfl rfl rfl (clm k_iC _))) (.cons (.v _) (.one (.v _)) .nil))) (p_tidy_renamed_s1_ac h6035) (okT p_tidy_renamed_s1_ok)) ?_
  rintro _ rfl
  refine dvN (l_alloc zt31) (dvS (l_store ty31 rfl (.ag _) rfl rfl rfl (Nat.le_of_ble_eq_true rfl) rfl) (dvE (q_seq (w_seq (w_region (by rfl) (dv1 (l_assign (.v _)) (dvE (q_seq ?_))))))))
  obtain ⟨s6037, hF, hG6038⟩ := bindE hF
  refine w_seqJ ⟨[(4, .ad 1 2 0 0), (11, .ad 2 2 0 0)], [(1, some ⟨31, 2, [[.v (.int .i64 0), .v (.slice none 0 0)]]⟩), (2, some ⟨31, 2, [[.v (.int .i64 y6034.Ret), .rf 3 0 ((s6037.map MBlk.ct).length) 8]]⟩), (3, some ⟨47, 8, s6037.map MBlk.ctr⟩)], 1⟩ ?_ ?_
  · refine w_seq (w_region (by rfl) (dv1 (l_field fd31_1 rfl) (dv1 (l_load ty29 rfl rfl rfl rfl rfl) (dv1 (l_lenR sl29 rfl rfl (List.length_map _)) (dv1 (l_move (.v _)) (dvE (q_seq (w_block ?_))))))))
    refine W.le (le_share 193 (els := y6034.Blocks.map MBlk.ct) rfl (RoE.map rl_MBlkct _)) ?_
    refine w_loopF hF (fun (s10039 : (List MBlk) × Int × Int) => ⟨[(4, .ad 1 2 0 0), (6, .fn (.func 30) [] [.ro (.rp (lC_bC a1) 0)]), (11, .ad 2 2 0 0), (12, .v (.int .i64 s10039.2.1)), (63, .v (.int .i64 ((y6034.Blocks.length : Nat) : Int))), (64, .v (.int .i64 s10039.2.2))], [(1, some ⟨31, 2, [[.v (.int .i64 0), .v (.slice none 0 0)]]⟩), (2, some ⟨31, 2, [[.v (.int .i64 y6034.Ret), .rf 3 0 ((s10039.1.map MBlk.ct).length) 8]]⟩), (3, some ⟨47, 8, s10039.1.map MBlk.ctr⟩)], 1⟩) (le_of [(1, some 2), (2, some 256), (3, some 193)] rfl (.s (.s (.s (.s (.s (.s .nil rfl) rfl) rfl) rfl) rfl) rfl) (.box rfl rfl (.s rfl) (.box rfl rfl (.s rfl) (.row rfl rfl rfl (clm kr_MBlkct _) .nil)))) ?_
    intro s10039 y10040 hF hx10041
    refine w_seq (w_region (by rfl) (dv1 (l_bin rfl rfl b_lss) (dvE (q_seq (w_seq ?_)))))
    rcases condE hF with ⟨b10043, hF⟩ | ⟨b10043, hF⟩
    · refine w_condT rfl b10043 ?_
      refine w_skip (q_seq ?_)
      obtain ⟨s10046, hF, hG10047⟩ := bindE hF
      refine w_seqJ ⟨[(4, .ad 1 2 0 0), (6, .fn (.func 30) [] [.ro (.rp (lC_bC a1) 0)]), (11, .ad 2 2 0 0), (12, .v (.int .i64 s10046.2)), (63, .v (.int .i64 ((y6034.Blocks.length : Nat) : Int))), (64, .v (.int .i64 s10039.2.2))], [(1, some ⟨31, 2, [[.v (.int .i64 0), .v (.slice none 0 0)]]⟩), (2, some ⟨31, 2, [[.v (.int .i64 y6034.Ret), .rf 3 0 ((s10046.1.map MBlk.ct).length) 8]]⟩), (3, some ⟨47, 8, s10046.1.map MBlk.ctr⟩)], 1⟩ ?_ ?_
      · refine w_block (w_seq (w_region (by rfl) (dv1 (l_move (.v _)) (dv1 (l_assign (.v _)) (dvE (q_seq (w_seq (w_region (by rfl) ?_))))))))
        refine dv1 (l_field fd31_1 rfl) (dv1 (l_load ty29 rfl rfl rfl rfl rfl) (dv1 (l_move (.v _)) ?_))
        obtain ⟨x10048, h10049, hF⟩ := bindE hF
        refine dv1 (l_index s10039.2.2.toNat sl29 rfl rfl (atI_z h10049) (lt_at MBlk.ct (atI_at h10049))) (dv1 (l_assign (.ad _ _ _ _)) (dvE (q_seq (w_seq (w_region (by rfl) (dv1 (l_move (.v _)) (dv1 (l_move (.ad _ _ _ _)) (dv1 (l_nil rfl) ?_))))))))
        refine dv1 (l_field fd47_0 rfl) (dv1 (l_load ty27 rfl rfl (map_at (atI_at h10049)) rfl rfl) (dv1 (l_lenRo sl27 rfl rfl (List.length_map _)) (dv1 (l_bin rfl rfl (b_add rfl)) (dv1 (l_assign (.v _)) (dvE (q_seq (w_seq (w_region (by rfl) ?_))))))))
        refine dv1 (l_move (.ad _ _ _ _)) (dv1 (l_nil rfl) (dv1 (l_field fd47_1 rfl) (dv1 (l_load ty45 rfl rfl (map_at (atI_at h10049)) rfl rfl) (dv1 (l_assign (.ro _)) (dvE (q_seq (w_seq (w_region (by rfl) ?_))))))))
        refine dv1 (l_move (.ad _ _ _ _)) (dv1 (l_nil rfl) (dv1 (l_field fd47_1 rfl) (dvS (l_store ty45 rfl (.v _) rfl (map_at (atI_at h10049)) rfl (Nat.le_of_ble_eq_true rfl) rfl) (dvE (q_seq (w_seq (w_region (by rfl) (dv1 (l_move (.ro _)) ?_))))))))
        refine dv1 (l_lenRo sl45 rfl rfl (List.length_map _)) (dv1 (l_move (.v _)) (dvE (q_seq (w_block (w_loopF hF (fun (s13050 : Int × Nat × (List MOp)) => ⟨[(4, .ad 1 2 0 0), (6, .fn (.func 30) [] [.ro (.rp (lC_bC a1) 0)]), (11, .ad 2 2 0 0), (12, .v (.int .i64 s13050.1)), (14, .ad 3 8 s10039.2.2.toNat 0), (63, .v (.int .i64 ((y6034.Blocks.length : Nat) : Int))), (64, .v (.int .i64 s10039.2.2)), (85, .ro (.sl 49 8 (x10048.Ops.map MOp.ct))), (86, .v (.int .i64 ((x10048.Ops.length : Nat) : Int))), (87, .v (.int .i64 ((s13050.2.1 : Nat) : Int)))], [(1, some ⟨31, 2, [[.v (.int .i64 0), .v (.slice none 0 0)]]⟩), (2, some ⟨31, 2, [[.v (.int .i64 y6034.Ret), .rf 3 0 ((s10039.1.map MBlk.ct).length) 8]]⟩), (3, some ⟨47, 8, (s10039.1.map MBlk.ctr).set s10039.2.2.toNat [.ro (.sl 3 1 (x10048.Params.map iC)), .rf 4 0 ((s13050.2.2.map MOp.ct).length) 8, .v (.int .i64 x10048.End.K), .v (.int .i64 x10048.End.A), .v (.int .i64 x10048.End.To), .v (.int .i64 x10048.End.Else), .ro (.sl 3 1 (x10048.End.L.map iC)), .ro (.sl 3 1 (x10048.End.M.map iC))]⟩), (4, some ⟨49, 8, s13050.2.2.map MOp.ctr⟩)], 1⟩) (le_of [(1, some 1), (2, some 2), (3, some 3), (4, none)] rfl (.s (.s (.s (.s (.s (.s (.s (.s (.s (.s .nil rfl) rfl) rfl) rfl) rfl) rfl) rfl) rfl) rfl) rfl) (.box rfl rfl (.s rfl) (.box rfl rfl (.s rfl) (.opn rfl rfl (clm kr_MBlkct _) (.cons (.ro rfl) (.cons (.nil ⟨by simp, rfl⟩) (.cons (.v rfl) (.cons (.v rfl) (.cons (.v rfl) (.cons (.v rfl) (.cons (.ro rfl) (.cons (.ro rfl) .nil)))))))) (.new ⟨by simp, rfl⟩ .nil))))) ?_)))))
        intro s13050 y13051 hF hx13052
        refine w_seq (w_region (by rfl) (dv1 (l_bin rfl rfl b_lssN) (dvE (q_seq (w_seq ?_)))))
        rcases condE hF with ⟨b13054, hF⟩ | ⟨b13054, hF⟩
        · refine w_lenS 85 rfl fun l13055 => ?_
          refine w_condT rfl b13054 ?_
          refine w_skip (q_seq (w_seq (w_block (w_seq (w_region (by rfl) ?_)))))
          obtain ⟨x13056, h13057, hF⟩ := bindE hF
          refine dv1 (l_indexRo s13050.2.1 sl45 rfl rfl rfl (map_at h13057)) (dv1 (l_loadARo ty49 rfl rfl) (dvN (l_alloc zt49) (dvS (l_store ty49 rfl (.ag _) rfl rfl rfl (Nat.le_of_ble_eq_true rfl) rfl) (dvE (q_seq ?_)))))
          obtain ⟨s13059, hF, hG13060⟩ := bindE hF
          refine w_seqJ ⟨[(4, .ad 1 2 0 0), (6, .fn (.func 30) [] [.ro (.rp (lC_bC a1) 0)]), (11, .ad 2 2 0 0), (12, .v (.int .i64 s13050.1)), (14, .ad 3 8 s10039.2.2.toNat 0), (63, .v (.int .i64 ((y6034.Blocks.length : Nat) : Int))), (64, .v (.int .i64 s10039.2.2)), (85, .ro (.sl 49 8 (x10048.Ops.map MOp.ct))), (86, .v (.int .i64 ((x10048.Ops.length : Nat) : Int))), (87, .v (.int .i64 ((s13050.2.1 : Nat) : Int)))], [(1, some ⟨31, 2, [[.v (.int .i64 0), .v (.slice none 0 0)]]⟩), (2, some ⟨31, 2, [[.v (.int .i64 y6034.Ret), .rf 3 0 ((s10039.1.map MBlk.ct).length) 8]]⟩), (3, some ⟨47, 8, (s10039.1.map MBlk.ctr).set s10039.2.2.toNat [.ro (.sl 3 1 (x10048.Params.map iC)), .rf 4 0 ((s13059.map MOp.ct).length) 8, .v (.int .i64 x10048.End.K), .v (.int .i64 x10048.End.A), .v (.int .i64 x10048.End.To), .v (.int .i64 x10048.End.Else), .ro (.sl 3 1 (x10048.End.L.map iC)), .ro (.sl 3 1 (x10048.End.M.map iC))]⟩), (4, some ⟨49, 8, s13059.map MOp.ctr⟩)], 1⟩ ?_ ?_
          · refine w_seq (w_region (by rfl) (dv1 (l_move (.fn _ _ _)) (dv1 (l_move (.v _)) ?_)))
            obtain ⟨y13061, h13062, hF⟩ := bindE hF
            refine dvC (l_callV (B := false) (caps := [.rp (lC_bC a1) 0]) (FnI.mk' (by kernel_rfl)) (.fn _ _ _) (.fn _ rfl) (.cons (.v _) (.one (.v _)) .nil) (p_tidy_Kept_1_ac h13062) (okF p_tidy_Kept_1_ok)) ?_
            rintro _ rfl
            refine dv1 (l_not rfl) (dvE (q_seq ?_))
            rcases condE hF with ⟨b13063, hF⟩ | ⟨b13063, hF⟩
            · refine w_condF rfl (nF b13063) ?_
              refine w_skip ?_
              cases hF
              refine q_join ?_
              exact (le_of [(1, some 1), (2, some 2), (3, some 3), (4, some 4)] rfl (.s (.s (.s (.s (.s (.s (.s (.s (.s (.s .nil rfl) rfl) rfl) rfl) rfl) rfl) rfl) rfl) rfl) rfl) (.box rfl rfl (.s rfl) (.box rfl rfl (.s rfl) (.opn rfl rfl (clm kr_MBlkct _) (.s rfl) (.row rfl rfl rfl (clm kr_MOpct _) .nil)))))
            · refine w_condT rfl (nT b13063) ?_
              refine w_draw [[], [], [1], [1, 2], [1, 2, 3], [], [5], [1, 2, 3, 4, 5, 6], [0, 1, 2, 3, 4, 5, 6, 7], [0, 1, 2, 3, 4, 5, 6, 7, 8], [0, 1, 2, 3, 4, 5, 6, 7, 8, 9]] [0, 1, 2, 3, 4, 5, 6, 7, 8, 9, 10] (by kernel_rfl) (by rfl) ⟨by decide, by rfl⟩ (by rfl) ?_
              refine de1 rfl (l_move (.ad _ _ _ _)) rfl (de1 rfl (l_move (.ad _ _ _ _)) rfl (de1 rfl (l_nil rfl) rfl (de1 rfl (l_field fd47_1 rfl) rfl (de1 rfl (l_load ty45 rfl rfl (set_at (atI_at h10049)) rfl rfl) rfl (de1 rfl (l_loadA ty49 rfl rfl rfl rfl rfl) rfl (deN rfl (l_bs1 sl45 zt49 rfl (.ag _) rfl rfl rfl (by decide) (by decide)) rfl ?_))))))
              obtain ⟨c13064, hF⟩ := ckE hF
              refine deN3 rfl (l_app1R el45 rfl rfl rfl ((List.length_map _).trans (List.length_map _).symm) rfl rfl (by decide) (map_snoc MOp.ctr _ x13056) (List.length_map _) (by simpa using c13064) (by decide)) rfl ?_
              refine de1 rfl (l_nil rfl) rfl (de1 rfl (l_field fd47_1 rfl) rfl (deS rfl (l_storeR ty45 rfl (.rf _ _ _ _) rfl (set_at (atI_at h10049)) rfl (Nat.le_of_ble_eq_true rfl) rfl (List.set_set ..)) rfl (ddE ?_)))
              cases hF
              refine q_join ?_
              exact (le_of [(1, some 1), (2, some 2), (3, some 3), (4, some 1088)] rfl (.s (.s (.s (.s (.s (.s (.s (.s (.s (.s .nil rfl) rfl) rfl) rfl) rfl) rfl) rfl) rfl) rfl) rfl) (.box rfl rfl (.s rfl) (.box rfl rfl (.s rfl) (.opn rfl rfl (clm kr_MBlkct _) (.cons (.ro rfl) (.cons (.rf rfl (by simp)) (.cons (.v rfl) (.cons (.v rfl) (.cons (.v rfl) (.cons (.v rfl) (.cons (.ro rfl) (.cons (.ro rfl) .nil)))))))) (.row rfl rfl rfl (clm kr_MOpct _) .nil)))))
          replace hF := hG13060
          refine w_region (by rfl) (dv1 (l_move (.v _)) (dv1 (l_bin rfl rfl (b_add rfl)) (dv1 (l_assign (.v _)) (dvE (q_in (q_seq (w_region (by rfl) (dv1 (l_bin rfl rfl (b_incN (of_decide_eq_true b13054) l13055)) ?_))))))))
          refine dv1 (l_move (.v _)) (dvE ?_)
          cases hF
          refine qL rfl ?_
          exact (le_of [(1, some 1), (2, some 2), (3, some 3), (4, some 4)] rfl (.s (.s (.s (.s (.s (.s (.s (.s (.s (.s .nil rfl) rfl) rfl) rfl) rfl) rfl) rfl) rfl) rfl) rfl) (.box rfl rfl (.s rfl) (.box rfl rfl (.s rfl) (.opn rfl rfl (clm kr_MBlkct _) (.s rfl) (.row rfl rfl rfl (clm kr_MOpct _) .nil)))))
        · refine w_condF rfl b13054 ?_
          refine w_exit ?_
          cases hF
          cases hx13052 _ rfl
          refine q_exS (q_exS (q_here (q_in (q_join ?_))))
          refine St.le.trans (le_freezeR 4 (Wk.sl (WkE.map wr_MOpct _)) [] [(3, some ⟨47, 8, (s10039.1.map MBlk.ctr).set s10039.2.2.toNat [.ro (.sl 3 1 (x10048.Params.map iC)), .ro (.sl 49 8 (s13050.2.2.map MOp.ct)), .v (.int .i64 x10048.End.K), .v (.int .i64 x10048.End.A), .v (.int .i64 x10048.End.To), .v (.int .i64 x10048.End.Else), .ro (.sl 3 1 (x10048.End.L.map iC)), .ro (.sl 3 1 (x10048.End.M.map iC))]⟩)] rfl (clm kr_MOpct _) .nil (.at_ (i := s10039.2.2.toNat) rfl (by decide) (set_at (atI_at h10049)) (.same (.ro (((List.length_map _).trans (List.length_map _).symm)).symm (.same (.same (.same (.same (.same (.same .nil)))))))) (List.set_set ..) .nil)) ?_
          refine St.le.trans (le_closeR 3 s10039.2.2.toNat rfl (set_at (atI_at h10049)) (.cons (.of (.ro _)) (.cons (.of (.ro _)) (.cons (.of (.v _)) (.cons (.of (.v _)) (.cons (.of (.v _)) (.cons (.of (.v _)) (.cons (.of (.ro _)) (.cons (.of (.ro _)) .nil)))))))) (by decide) (by decide) rfl (set_cl MBlk.ctr _ _ _ (⟨x10048.Params, s13050.2.2, x10048.End⟩ : MBlk))) ?_
          exact (le_of [(1, some 1), (2, some 2), (3, some 3)] rfl (.s (.s (.s (.s (.s (.s .nil rfl) rfl) rfl) rfl) rfl) rfl) (.box rfl rfl (.s rfl) (.box rfl rfl (.cons (.v rfl) (.cons (.rf rfl (by simp)) .nil)) (.row rfl rfl rfl (clm kr_MBlkct _) .nil))))
      replace hF := hG10047
      refine w_region (by rfl) (dv1 (l_bin rfl rfl (b_add rfl)) (dv1 (l_move (.v _)) (dvE ?_)))
      cases hF
      refine qL rfl ?_
      exact (le_of [(1, some 1), (2, some 2), (3, some 3)] rfl (.s (.s (.s (.s (.s (.s .nil rfl) rfl) rfl) rfl) rfl) rfl) (.box rfl rfl (.s rfl) (.box rfl rfl (.s rfl) (.row rfl rfl rfl (clm kr_MBlkct _) .nil))))
    · refine w_condF rfl b10043 ?_
      refine w_exit ?_
      cases hF
      cases hx10041 _ rfl
      refine q_exS (q_exS (q_here (q_join ?_)))
      exact (le_of [(1, some 1), (2, some 2), (3, some 3)] rfl (.s (.s .nil rfl) rfl) (.box rfl rfl (.s rfl) (.box rfl rfl (.s rfl) (.row rfl rfl rfl (clm kr_MBlkct _) .nil))))
  replace hF := hG6038
  refine w_seq (w_region (by rfl) (dv1 (l_loadA ty31 rfl rfl rfl rfl rfl) (dvS (l_store ty31 rfl (.ag _) rfl rfl rfl (Nat.le_of_ble_eq_true rfl) rfl) (dvE (q_seq (W.le (le_freezeR 3 (Wk.sl (WkE.map wr_MBlkct _)) [(109, .ag [.v (.int .i64 y6034.Ret), .ro (.sl 47 8 (s6037.map MBlk.ct))])] [(1, some ⟨31, 2, [[.v (.int .i64 y6034.Ret), .ro (.sl 47 8 (s6037.map MBlk.ct))]]⟩), (2, some ⟨31, 2, [[.v (.int .i64 y6034.Ret), .ro (.sl 47 8 (s6037.map MBlk.ct))]]⟩)] rfl (clm kr_MBlkct _) (.ag rfl (.same (.ro (((List.length_map _).trans (List.length_map _).symm)).symm .nil)) .nil) (.at_ (i := 0) rfl (by decide) rfl (.same (.ro (((List.length_map _).trans (List.length_map _).symm)).symm .nil)) rfl (.at_ (i := 0) rfl (by decide) rfl (.same (.ro (((List.length_map _).trans (List.length_map _).symm)).symm .nil)) rfl .nil))) ?_))))))
  refine w_ret ?_
  cases hF
  refine q_endS (.inr rfl) ?_
  exact ⟨_, _, ret_okK rfl (.cons (.cellA ty31 rfl rfl rfl (.cons (.of (.v _)) (.cons (.of (.ro _)) .nil))) .nil) (by decide) ⟨rfl, rfl⟩, gb0⟩

def p_L16_TidyKeeps (a0 : MPrg) (a1 : Int) (a2 : List Bool) : Option Bool :=
((p_L16_fun (some a0) a1).bind fun y1 =>
(bif y1.2 then
(((ck (a2.length * 1 ≤ 140737488355328)
(((p_tidy_Kept_t1 y1.1.Ret y1.1.Blocks a2).bind fun y8 =>
((p_R16_Kept y1.1 a2).bind fun y10 =>
((p_R05_SameFunc y8 y10).bind fun y12 =>
(bif y12 then
((p_L16_lives).bind fun y15 =>
some y15)
else
some false))))))).bind fun (s5 : Bool) =>
some s5)
else
((p_L16_lives).bind fun y17 =>
some y17)))

set_option maxRecDepth 10000 in
set_option maxHeartbeats 4000000 in
theorem p_L16_TidyKeeps_ac {a0 : MPrg} {a1 : Int} {a2 : List Bool} {r : Bool} (hF : p_L16_TidyKeeps a0 a1 a2 = some r) : AC Tryd.prog GT 5 [.ag (MPrg.ct a0), .v (.int .u8 a1), .sl 4 1 (a2.map bC)] (fun c => c = .v (.bool r)) := by
  unfold p_L16_TidyKeeps at hF
  refine AC.mk (nt := 31) Tryd.func5 rfl rfl rfl fun w N => ?_
  refine w_seq (w_region (by rfl) (dvN (l_box (.ag _) rfl rfl) (dv1 (l_assign (.v _)) (dvE (q_seq (w_seq (w_region (by rfl) (dv1 (l_assign (.ad _ _ _ _)) ?_))))))))
  refine dvE (q_seq (w_seq (w_region (by rfl) (dv1 (l_move (.ad _ _ _ _)) (dv1 (l_move (.v _)) (dvG (le_freeze 0 [(3, .ro (.rp [.ro (.sl 64 2 (a0.Sigs.map MSig.ct)), .ro (.sl 66 2 (a0.Classes.map MCls.ct)), .ro (.sl 31 2 (a0.Funcs.map MFun.ct))] 0)), (7, .ro (.rp [.ro (.sl 64 2 (a0.Sigs.map MSig.ct)), .ro (.sl 66 2 (a0.Classes.map MCls.ct)), .ro (.sl 31 2 (a0.Funcs.map MFun.ct))] 0)), (11, .ro (.rp [.ro (.sl 64 2 (a0.Sigs.map MSig.ct)), .ro (.sl 66 2 (a0.Classes.map MCls.ct)), .ro (.sl 31 2 (a0.Funcs.map MFun.ct))] 0))] rfl (cl1 (.ro _ rfl) (cl1 (.ro _ rfl) (cl1 (.ro _ rfl) (cl0 (b := true))))) (List.forall_mem_cons.2 ⟨⟨0, rfl, rfl⟩, (List.forall_mem_cons.2 ⟨⟨0, rfl, rfl⟩, (List.forall_mem_cons.2 ⟨⟨0, rfl, rfl⟩, (fun _ h => nomatch h)⟩)⟩)⟩)) ?_))))))
  refine dvG (le_wk 3 (c' := .rp (MPrg.ct a0) 0) rfl (.rp (.cons (Wk.ro (Wk.refl _)) (.cons (Wk.ro (Wk.refl _)) (.cons (Wk.ro (Wk.refl _)) .nil))))) ?_
  refine dvG (le_wk 7 (c' := .rp (MPrg.ct a0) 0) rfl (.rp (.cons (Wk.ro (Wk.refl _)) (.cons (Wk.ro (Wk.refl _)) (.cons (Wk.ro (Wk.refl _)) .nil))))) ?_
  refine dvG (le_wk 11 (c' := .rp (MPrg.ct a0) 0) rfl (.rp (.cons (Wk.ro (Wk.refl _)) (.cons (Wk.ro (Wk.refl _)) (.cons (Wk.ro (Wk.refl _)) .nil))))) ?_
  obtain ⟨y1, h2, hF⟩ := bindE hF
  refine dvC (l_call (B := false) (FnI.mk' (by kernel_rfl)) (.cons (.ro _) (.one (.ro _)) (.cons (.v _) (.one (.v _)) .nil)) (p_L16_fun_ac h2) (okF p_L16_fun_ok)) ?_
  rintro _ rfl
  refine dv1 (l_move (.tu _)) (dv1 (l_extract rfl rfl) (dv1 (l_extract rfl rfl) (dvN (l_alloc zt31) (dvS (l_store ty31 rfl (.ag _) rfl rfl rfl (Nat.le_of_ble_eq_true rfl) rfl) (dv1 (l_assign (.v _)) (dvE (q_seq (w_seq ?_))))))))
  refine w_seq (w_region (by rfl) (dv1 (l_move (.v _)) (dv1 (l_not rfl) (dvE (q_seq ?_)))))
  rcases condE hF with ⟨b3, hF⟩ | ⟨b3, hF⟩
  · refine w_condF rfl (nF b3) ?_
    refine w_skip (q_seq ?_)
    obtain ⟨s5, hF, hG6⟩ := bindE hF
    refine w_seqJ ⟨[(6, .v (.bool s5))], [], 1⟩ ?_ ?_
    · refine w_draw [[], [], [], [1, 2], [0, 1, 2, 3], [], [], [0, 1, 2, 3, 4, 5, 6], [0, 1, 2, 3, 4, 5, 6, 7], [0, 1, 2, 3, 4, 5, 6, 7, 8], [0, 1, 2, 3, 4, 5, 6, 7, 8, 9], [0, 1, 2, 3, 4, 5, 6, 7, 8, 9, 10], [0, 1, 2, 3, 4, 5, 6, 7, 8, 9, 10, 11]] [0, 1, 2, 3, 5, 6, 4, 7, 8, 9, 10, 11, 12] (by kernel_rfl) (by rfl) ⟨by decide, by rfl⟩ (by rfl) ?_
      refine de1 rfl (l_loadA ty31 rfl rfl rfl rfl rfl) rfl (deN rfl (l_bs0 sl39 zt4 rfl (by decide)) rfl (de1 rfl (l_move (.ro _)) rfl ?_))
      obtain ⟨c7, hF⟩ := ckE hF
      refine deN2 rfl (l_appOR el39 rfl rfl rfl rfl rfl (ro_map (fun _ => rfl) _) rfl (by simpa using c7) (by decide)) rfl ?_
      refine de1 rfl (l_loadA ty31 rfl rfl rfl rfl rfl) rfl (de1 rfl (l_move (.ro _)) rfl ?_)
      obtain ⟨y8, h9, hF⟩ := bindE hF
      refine deK rfl (l_callS [(0, some 1088)] [(0, some 1088)] (by rfl) (by rfl) (by rfl) (by rfl) (by rfl) (FnI.mk' (by kernel_rfl)) (.ag (.ag _) (.cons (.v rfl) (.cons (.ro rfl) .nil)) (.cons (.rf _ _ _ _) (.rf rfl rfl) .nil)) (.row rfl rfl rfl (clm k_bC _) .nil) (p_tidy_Kept_t1_sc h9) (okS (p_tidy_Kept_t1_sok (r := y8)))) rfl ?_
      obtain ⟨y10, h11, hF⟩ := bindE hF
      refine deC1 rfl (l_call (B := false) (FnI.mk' (by kernel_rfl)) (.cons (.ag _) (.ag (.cons (.v _) (.cons (.ro _) .nil))) (.cons (.ro _) (.one (.ro _)) .nil)) (p_R16_Kept_ac h11) (okF p_R16_Kept_ok)) rfl ?_
      obtain ⟨y12, h13, hF⟩ := bindE hF
      refine deC1 rfl (l_call (B := false) (FnI.mk' (by kernel_rfl)) (.cons (.ag _) (.ag (.cons (.v _) (.cons (.ro _) .nil))) (.cons (.ag _) (.ag (.cons (.v _) (.cons (.ro _) .nil))) .nil)) (p_R05_SameFunc_ac h13) (okF p_R05_SameFunc_ok)) rfl ?_
      refine de1 rfl (l_move (.v _)) rfl ?_
      rcases condE hF with ⟨b14, hF⟩ | ⟨b14, hF⟩
      · obtain ⟨y15, h16, hF⟩ := bindE hF
        refine deC1 rfl (l_gTC rfl rfl (gt rfl b14) fun _ => (l_call (B := false) (FnI.mk' (by kernel_rfl)) .nil (p_L16_lives_ac h16) (okF p_L16_lives_ok))) rfl ?_
        refine de1 rfl (l_pickT (gt rfl b14) (.v _)) rfl (de1 rfl (l_assign (.v _)) rfl (ddE ?_))
        cases hF
        refine q_join ?_
        exact (le_of [] rfl (.s .nil rfl) .nil)
      · refine de1 rfl (l_gF rfl rfl (gt rfl b14) rfl) rfl (de1 rfl (l_pickF (gt rfl b14) (.v _)) rfl (de1 rfl (l_assign (.v _)) rfl (ddE ?_)))
        cases hF
        refine q_join ?_
        exact (le_of [] rfl (.s .nil rfl) .nil)
    replace hF := hG6
    refine w_ret ?_
    cases hF
    refine q_end (.inr rfl) ?_
    exact ret_ok rfl (.cons (.tmp (.v _) (.v _)) .nil) (by decide) rfl
  · refine w_condT rfl (nT b3) ?_
    refine w_seq (w_region (by rfl) ?_)
    obtain ⟨y17, h18, hF⟩ := bindE hF
    refine dvC (l_call (B := false) (FnI.mk' (by kernel_rfl)) .nil (p_L16_lives_ac h18) (okF p_L16_lives_ok)) ?_
    rintro _ rfl
    refine dv1 (l_assign (.v _)) (dvE (q_seq (w_ret (q_reS ?_))))
    cases hF
    refine q_end (.inr rfl) ?_
    exact ret_ok rfl (.cons (.tmp (.v _) (.v _)) .nil) (by decide) rfl
end Go.Proofs.YtbebdcpakjfgdaaDoor

