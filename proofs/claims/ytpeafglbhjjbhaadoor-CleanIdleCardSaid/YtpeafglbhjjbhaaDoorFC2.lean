/- Functions (printed by wip/auto/am.py). -/
import Derived.Test.YtpeafglbhjjbhaaDoorFC1
namespace Go.Proofs.YtpeafglbhjjbhaaDoor
open Go Go.RowKit

def p_clean_fun (a0 : MFun) : Option MFun :=
((loop (fun (s3001 : Int × (List MBlk)) =>
((p_tidy_Func (⟨s3001.1, s3001.2⟩ : MFun)).bind fun y3006 =>
((p_clean_idle y3006).bind fun y3008 =>
(bif decide (((y3008.length : Nat) : Int) = 0) then
some (Xt.out y3006)
else
((p_code_Values y3006).bind fun y3011 =>
((natI y3011).bind fun m3013 =>
(ck (1 * m3013 ≤ 140737488355328)
((((loop (fun (s7019 : (List Bool) × Int) =>
(bif decide (s7019.2 < (((List.replicate m3013 false).length : Nat) : Int)) then
((atI s7019.1 s7019.2).bind fun x7024 =>
some (Xt.go ((s7019.1.set s7019.2.toNat true), IntKind.i64.wrap (s7019.2 + 1))))
else
some (Xt.out s7019.1))) Fu ((List.replicate m3013 false), 0))).bind fun (s3017 : (List Bool)) =>
(((loop (fun (s10029 : (List Bool) × Nat) =>
(bif decide (s10029.2 < y3008.length) then
((y3008[s10029.2]?).bind fun x10035 =>
((atI s10029.1 x10035).bind fun x10037 =>
some (Xt.go ((s10029.1.set x10035.toNat false), (s10029.2 + 1)))))
else
some (Xt.out s10029.1))) Fu (s3017, 0))).bind fun (s7027 : (List Bool)) =>
((p_tidy_Kept_t1 y3006.Ret y3006.Blocks s7027).bind fun y10039 =>
some (Xt.go (y10039.Ret, y10039.Blocks))))))))))))) Fu (a0.Ret, a0.Blocks)).bind fun o3004 => some o3004)

theorem p_clean_fun_ok {r : MFun} : rOk (.ag [.v (.int .i64 r.Ret), .ro (.sl 47 8 (r.Blocks.map MBlk.ct))]) = true ∧ True := ⟨rfl, trivial⟩

set_option maxRecDepth 10000 in
set_option maxHeartbeats 4000000 in
theorem p_clean_fun_ac {a0 : MFun} {r : MFun} (hF : p_clean_fun a0 = some r) : AC Tryd.prog GT 12 [.ag (MFun.ct a0)] (fun c => c = .ag [.v (.int .i64 r.Ret), .ro (.sl 47 8 (r.Blocks.map MBlk.ct))]) := by
  unfold p_clean_fun at hF
  refine AC.mk (nt := 41) Tryd.func12 A A A fun w N => ?_
  refine w_seq (w_region (by rfl) (dvN (l_box (.ag _) A A) (dvN (l_alloc zt33) (dvE (q_seq (w_block ?_))))))
  obtain ⟨o3004, hF, hG3005⟩ := bindE hF
  refine w_loopF hF (fun (s3001 : Int × (List MBlk)) => ⟨[(1, .ad 0 2 0 0), (2, .ad 1 2 0 0)], [(0, some ⟨33, 2, [[.v (.int .i64 s3001.1), .ro (.sl 47 8 (s3001.2.map MBlk.ct))]]⟩), (1, some ⟨33, 2, [[.v (.int .i64 0), .v (.slice none 0 0)]]⟩)], 1⟩) (le_of [(0, some 0), (1, some 64)] A (.s (.s .nil A) A) (.box A A (.s A) (.box A A (.s A) .nil))) ?_
  intro s3001 y3002 hF hx3003
  refine w_block (w_seq (w_region (by rfl) (dv1 (l_loadA ty33 A A A A A) ?_)))
  obtain ⟨y3006, h3007, hF⟩ := bindE hF
  refine dvC (l_call (B := false) (FnI.mk' (by kernel_rfl)) (.cons (.ag _) (.ag (.cons (.v _) (.cons (.ro _) .nil))) .nil) (p_tidy_Func_ac h3007) (okF p_tidy_Func_ok)) ?_
  rintro _ rfl
  refine dvS (l_store ty33 A (.ag _) A A A (Nat.le_of_ble_eq_true A) A) (dvE (q_seq (w_seq (w_region (by rfl) (dv1 (l_loadA ty33 A A A A A) ?_)))))
  obtain ⟨y3008, h3009, hF⟩ := bindE hF
  refine dvC (l_call (B := false) (FnI.mk' (by kernel_rfl)) (.cons (.ag _) (.ag (.cons (.v _) (.cons (.ro _) .nil))) .nil) (p_clean_idle_ac h3009) (okF p_clean_idle_ok)) ?_
  rintro _ rfl
  refine dv1 (l_assign (.rf _ _ _ _)) (dvE (q_seq (w_seq (w_seq (w_region (by rfl) (dv1 (l_move (.rf _ _ _ _)) (dv1 (l_lenR sl29 A A (List.length_map _)) (dv1 (l_bin A A b_eql) ?_))))))))
  refine dvE (q_seq ?_)
  rcases condE hF with ⟨b3010, hF⟩ | ⟨b3010, hF⟩
  · refine w_condT A b3010 ?_
    refine w_seq (w_region (by rfl) (dv1 (l_loadA ty33 A A A A A) (dvS (l_store ty33 A (.ag _) A A A (Nat.le_of_ble_eq_true A) A) (dvE (q_seq (w_ret (q_reS (q_reI ?_))))))))
    refine q_reS (q_reI ?_)
    cases hF
    cases hx3003 _ rfl
    have hF := hG3005
    cases hF
    refine q_end (.inr A) ?_
    exact ret_ok A (.cons (.cellA ty33 A A A (.cons (.of (.v _)) (.cons (.of (.ro _)) .nil))) .nil) (by decide) A
  · refine w_condF A b3010 ?_
    refine w_skip (q_seq (w_seq (w_region (by rfl) (dv1 (l_loadA ty33 A A A A A) ?_))))
    obtain ⟨y3011, h3012, hF⟩ := bindE hF
    refine dvC (l_call (B := false) (FnI.mk' (by kernel_rfl)) (.cons (.ag _) (.ag (.cons (.v _) (.cons (.ro _) .nil))) .nil) (p_code_Values_ac h3012) (okF p_code_Values_ok)) ?_
    rintro _ rfl
    obtain ⟨m3013, h3014, hF⟩ := bindE hF
    obtain ⟨c3015, hF⟩ := ckE hF
    refine dvN (l_makeR (bC false) m3013 sl52 by4 zt4 A A A (natI_z h3014) (natI_z h3014) c3015 (by decide) A (by intro j c z h1 h2 w N bs; rcases j with _ | j <;> simp at h1 h2 <;> (subst h1; subst h2; first | exact .v _ | exact .nil)) (rep_map bC _ _)) (dv1 (l_assign (.rf _ _ _ _)) (dvE (q_seq ?_)))
    obtain ⟨s3017, hF, hG3018⟩ := bindE hF
    refine w_seqJ ⟨[(1, .ad 0 2 0 0), (2, .ad 1 2 0 0), (3, .rf 2 0 ((y3008.map iC).length) 1), (4, .rf 3 0 ((s3017.map bC).length) 1)], [(0, some ⟨33, 2, [[.v (.int .i64 y3006.Ret), .ro (.sl 47 8 (y3006.Blocks.map MBlk.ct))]]⟩), (1, some ⟨33, 2, [[.v (.int .i64 0), .v (.slice none 0 0)]]⟩), (2, some ⟨3, 1, y3008.map iC⟩), (3, some ⟨4, 1, s3017.map bC⟩)], 1⟩ ?_ ?_
    · refine w_seq (w_region (by rfl) (dv1 (l_move (.rf _ _ _ _)) (dv1 (l_lenR sl52 A A (List.length_map _)) (dv1 (l_move (.v _)) (dvE (q_seq (w_block (w_loopF hF (fun (s7019 : (List Bool) × Int) => ⟨[(1, .ad 0 2 0 0), (2, .ad 1 2 0 0), (3, .rf 2 0 ((y3008.map iC).length) 1), (4, .rf 3 0 ((s7019.1.map bC).length) 1), (20, .v (.int .i64 (((List.replicate m3013 false).length : Nat) : Int))), (21, .v (.int .i64 s7019.2))], [(0, some ⟨33, 2, [[.v (.int .i64 y3006.Ret), .ro (.sl 47 8 (y3006.Blocks.map MBlk.ct))]]⟩), (1, some ⟨33, 2, [[.v (.int .i64 0), .v (.slice none 0 0)]]⟩), (2, some ⟨3, 1, y3008.map iC⟩), (3, some ⟨4, 1, s7019.1.map bC⟩)], 1⟩) (le_of [(0, some 0), (1, some 1), (2, some 320), (3, some 768)] A (.s (.s (.s (.s (.s (.s .nil A) A) A) A) A) A) (.box A A (.s A) (.box A A (.s A) (.row A A A (clm k_iC _) (.row A A A (clm k_bC _) .nil))))) ?_))))))))
      intro s7019 y7020 hF hx7021
      refine w_seq (w_region (by rfl) (dv1 (l_bin A A b_lss) (dvE (q_seq (w_seq ?_)))))
      rcases condE hF with ⟨b7023, hF⟩ | ⟨b7023, hF⟩
      · refine w_condT A b7023 ?_
        refine w_skip (q_seq (w_seq (w_block (w_seq (w_region (by rfl) (dv1 (l_move (.v _)) (dv1 (l_assign (.v _)) (dvE ?_))))))))
        refine q_seq (w_region (by rfl) (dv1 (l_move (.rf _ _ _ _)) (dv1 (l_move (.v _)) ?_)))
        obtain ⟨x7024, h7025, hF⟩ := bindE hF
        refine dv1 (l_index s7019.2.toNat sl52 A A (atI_z h7025) (lt_at bC (atI_at h7025))) (dvS (l_storeR ty4 A (.v _) A (map_at (atI_at h7025)) A (Nat.le_of_ble_eq_true A) A (map_set' bC s7019.1 s7019.2.toNat true)) (dvE (q_in (q_seq (w_region (by rfl) (dv1 (l_bin A A (b_add A)) (dv1 (l_move (.v _)) (dvE ?_))))))))
        cases hF
        refine qL A ?_
        exact (le_of [(0, some 0), (1, some 1), (2, some 2), (3, some 3)] A (.s (.s (.s (.cons (.rf _ _ _ _) (.rf A (by simp)) (.s (.s .nil A) A)) A) A) A) (.box A A (.s A) (.box A A (.s A) (.row A A A (clm k_iC _) (.row A A A (clm k_bC _) .nil)))))
      · refine w_condF A b7023 ?_
        refine w_exit ?_
        cases hF
        cases hx7021 _ rfl
        refine q_exS (q_exS (q_here (q_join ?_)))
        exact (le_of [(0, some 0), (1, some 1), (2, some 2), (3, some 3)] A (.s (.s (.s (.s .nil A) A) A) A) (.box A A (.s A) (.box A A (.s A) (.row A A A (clm k_iC _) (.row A A A (clm k_bC _) .nil)))))
    replace hF := hG3018
    obtain ⟨s7027, hF, hG7028⟩ := bindE hF
    refine w_seqJ ⟨[(1, .ad 0 2 0 0), (2, .ad 1 2 0 0), (4, .rf 2 0 ((s7027.map bC).length) 1)], [(0, some ⟨33, 2, [[.v (.int .i64 y3006.Ret), .ro (.sl 47 8 (y3006.Blocks.map MBlk.ct))]]⟩), (1, some ⟨33, 2, [[.v (.int .i64 0), .v (.slice none 0 0)]]⟩), (2, some ⟨4, 1, s7027.map bC⟩)], 1⟩ ?_ ?_
    · refine w_seq (w_region (by rfl) (dv1 (l_move (.rf _ _ _ _)) (dv1 (l_lenR sl29 A A (List.length_map _)) (dv1 (l_move (.v _)) (dvE (q_seq (w_block (w_loopF hF (fun (s10029 : (List Bool) × Nat) => ⟨[(1, .ad 0 2 0 0), (2, .ad 1 2 0 0), (4, .rf 2 0 ((s10029.1.map bC).length) 1), (28, .rf 3 0 ((y3008.map iC).length) 1), (29, .v (.int .i64 ((y3008.length : Nat) : Int))), (30, .v (.int .i64 ((s10029.2 : Nat) : Int)))], [(0, some ⟨33, 2, [[.v (.int .i64 y3006.Ret), .ro (.sl 47 8 (y3006.Blocks.map MBlk.ct))]]⟩), (1, some ⟨33, 2, [[.v (.int .i64 0), .v (.slice none 0 0)]]⟩), (2, some ⟨4, 1, s10029.1.map bC⟩), (3, some ⟨3, 1, y3008.map iC⟩)], 1⟩) (le_of [(0, some 0), (1, some 1), (2, some 3), (3, some 2)] A (.s (.s (.s (.s (.s (.s .nil A) A) A) A) A) A) (.box A A (.s A) (.box A A (.s A) (.row A A A (clm k_bC _) (.row A A A (clm k_iC _) .nil))))) ?_))))))))
      intro s10029 y10030 hF hx10031
      refine w_seq (w_region (by rfl) (dv1 (l_bin A A b_lssN) (dvE (q_seq (w_seq ?_)))))
      rcases condE hF with ⟨b10033, hF⟩ | ⟨b10033, hF⟩
      · refine w_lenK 3 A fun l10034 => ?_
        refine w_condT A b10033 ?_
        refine w_skip (q_seq (w_seq (w_block (w_seq (w_region (by rfl) ?_)))))
        obtain ⟨x10035, h10036, hF⟩ := bindE hF
        refine dv1 (l_index s10029.2 sl29 A A A (lt_at iC h10036)) (dv1 (l_load ty3 A A (map_at h10036) A A) (dv1 (l_assign (.v _)) (dvE (q_seq (w_region (by rfl) (dv1 (l_move (.rf _ _ _ _)) (dv1 (l_move (.v _)) ?_)))))))
        obtain ⟨x10037, h10038, hF⟩ := bindE hF
        refine dv1 (l_index x10035.toNat sl52 A A (atI_z h10038) (lt_at bC (atI_at h10038))) (dvS (l_storeR ty4 A (.v _) A (map_at (atI_at h10038)) A (Nat.le_of_ble_eq_true A) A (map_set' bC s10029.1 x10035.toNat false)) (dvE (q_in (q_seq (w_region (by rfl) (dv1 (l_bin A A (b_incN (of_decide_eq_true b10033) l10034)) (dv1 (l_move (.v _)) (dvE ?_))))))))
        cases hF
        refine qL A ?_
        exact (le_of [(0, some 0), (1, some 1), (2, some 2), (3, some 3)] A (.s (.s (.cons (.rf _ _ _ _) (.rf A (by simp)) (.s (.s (.s .nil A) A) A)) A) A) (.box A A (.s A) (.box A A (.s A) (.row A A A (clm k_bC _) (.row A A A (clm k_iC _) .nil)))))
      · refine w_condF A b10033 ?_
        refine w_exit ?_
        cases hF
        cases hx10031 _ rfl
        refine q_exS (q_exS (q_here (q_join ?_)))
        exact (le_of [(0, some 0), (1, some 1), (2, some 2)] A (.s (.s (.s .nil A) A) A) (.box A A (.s A) (.box A A (.s A) (.row A A A (clm k_bC _) .nil))))
    replace hF := hG7028
    refine w_region (by rfl) (dv1 (l_loadA ty33 A A A A A) (dv1 (l_move (.rf _ _ _ _)) ?_))
    obtain ⟨y10039, h10040, hF⟩ := bindE hF
    refine dvK (l_callS [(0, some 2)] [(0, some 2)] (by rfl) (by rfl) (by rfl) (by rfl) (by rfl) (FnI.mk' (by kernel_rfl)) (.ag (.ag _) (.cons (.v A) (.cons (.ro A) .nil)) (.cons (.rf _ _ _ _) (.rf A A) .nil)) (.row A A A (clm k_bC _) .nil) (p_tidy_Kept_t1_sc h10040) (okS (p_tidy_Kept_t1_sok (r := y10039)))) ?_
    rintro _ _ ⟨rfl, rfl⟩
    refine dvS (l_store ty33 A (.ag _) A A A (Nat.le_of_ble_eq_true A) A) (dvE ?_)
    cases hF
    refine q_in (qL A ?_)
    exact (le_of [(0, some 0), (1, some 1)] A (.s (.s .nil A) A) (.box A A (.s A) (.box A A (.s A) .nil)))

def p_clean_Func (a0 : MFun) : Option MFun :=
((p_clean_fun a0).bind fun y1 =>
some y1)

theorem p_clean_Func_ok {r : MFun} : rOk (.ag [.v (.int .i64 r.Ret), .ro (.sl 47 8 (r.Blocks.map MBlk.ct))]) = true ∧ True := ⟨rfl, trivial⟩

set_option maxRecDepth 10000 in
set_option maxHeartbeats 4000000 in
theorem p_clean_Func_ac {a0 : MFun} {r : MFun} (hF : p_clean_Func a0 = some r) : AC Tryd.prog GT 6 [.ag (MFun.ct a0)] (fun c => c = .ag [.v (.int .i64 r.Ret), .ro (.sl 47 8 (r.Blocks.map MBlk.ct))]) := by
  unfold p_clean_Func at hF
  refine AC.mk (nt := 5) Tryd.func6 A A A fun w N => ?_
  refine w_seq (w_region (by rfl) (dvN (l_box (.ag _) A A) (dvN (l_alloc zt33) (dvE (q_seq (w_seq (w_region (by rfl) (dv1 (l_loadA ty33 A A A A A) ?_))))))))
  obtain ⟨y1, h2, hF⟩ := bindE hF
  refine dvC (l_call (B := false) (FnI.mk' (by kernel_rfl)) (.cons (.ag _) (.ag (.cons (.v _) (.cons (.ro _) .nil))) .nil) (p_clean_fun_ac h2) (okF p_clean_fun_ok)) ?_
  rintro _ rfl
  refine dvS (l_store ty33 A (.ag _) A A A (Nat.le_of_ble_eq_true A) A) (dvE (q_seq (w_ret ?_)))
  cases hF
  refine q_end (.inr A) ?_
  exact ret_ok A (.cons (.cellA ty33 A A A (.cons (.of (.v _)) (.cons (.of (.ro _)) .nil))) .nil) (by decide) A

def p_R05_First (a0 : MFun) (a1 : Int) : Option Int :=
(((loop (fun (s3004 : Int × Int) =>
(((bif decide (s3004.2 < a1) then
some (decide (s3004.2 < ((a0.Blocks.length : Nat) : Int)))
else
some false)).bind fun (s3009 : Bool) =>
(bif s3009 then
((atI a0.Blocks s3004.2).bind fun x3013 =>
some (Xt.go (IntKind.i64.wrap (IntKind.i64.wrap (s3004.1 + ((x3013.Params.length : Nat) : Int)) + ((x3013.Ops.length : Nat) : Int)), IntKind.i64.wrap (s3004.2 + 1))))
else
some (Xt.out s3004.1)))) Fu (0, 0))).bind fun (s2 : Int) =>
some s2)

theorem p_R05_First_ok {r : Int} : rOk (.v (.int .i64 r)) = true ∧ FrT (.v (.int .i64 r)) := ⟨rfl, (.one (.cl (.v _)))⟩

set_option maxRecDepth 10000 in
set_option maxHeartbeats 4000000 in
theorem p_R05_First_ac {a0 : MFun} {a1 : Int} {r : Int} (hF : p_R05_First a0 a1 = some r) : AC Tryd.prog GT 13 [.ag (MFun.ct a0), .v (.int .i64 a1)] (fun c => c = .v (.int .i64 r)) := by
  unfold p_R05_First at hF
  refine AC.mk (nt := 37) Tryd.func13 A A A fun w N => ?_
  refine w_seq (w_region (by rfl) (dvN (l_box (.ag _) A A) (dv1 (l_assign (.v _)) (dvE (q_seq (w_seq (w_region (by rfl) (dv1 (l_assign (.v _)) ?_))))))))
  refine dvE (q_seq ?_)
  obtain ⟨s2, hF, hG3⟩ := bindE hF
  refine w_seqJ ⟨[(5, .v (.int .i64 s2))], [], 1⟩ ?_ ?_
  · refine w_seq (w_region (by rfl) (dv1 (l_assign (.v _)) (dvE (q_seq (w_block (w_loopF hF (fun (s3004 : Int × Int) => ⟨[(1, .v (.int .i64 a1)), (2, .ad 0 2 0 0), (5, .v (.int .i64 s3004.1)), (6, .v (.int .i64 s3004.2))], [(0, some ⟨33, 2, [[.v (.int .i64 a0.Ret), .ro (.sl 47 8 (a0.Blocks.map MBlk.ct))]]⟩)], 1⟩) (le_of [(0, some 0)] A (.s (.s (.s (.s .nil A) A) A) A) (.box A A (.s A) .nil)) ?_))))))
    intro s3004 y3005 hF hx3006
    refine w_seq ?_
    obtain ⟨s3009, hF, hG3010⟩ := bindE hF
    refine w_seqJ ⟨[(1, .v (.int .i64 a1)), (2, .ad 0 2 0 0), (5, .v (.int .i64 s3004.1)), (6, .v (.int .i64 s3004.2)), (16, .v (.bool s3009))], [(0, some ⟨33, 2, [[.v (.int .i64 a0.Ret), .ro (.sl 47 8 (a0.Blocks.map MBlk.ct))]]⟩)], 1⟩ ?_ ?_
    · refine w_region (by rfl) (dv1 (l_move (.v _)) (dv1 (l_move (.v _)) (dv1 (l_bin A A b_lss) (dv1 (l_move (.v _)) ?_))))
      rcases condE hF with ⟨b3011, hF⟩ | ⟨b3011, hF⟩
      · refine dv1 (l_gT A A (gt A b3011) fun _ => l_move (.v _)) (dv1 (l_gT A A (gt A b3011) fun _ => l_field fd33_1 A) (dv1 (l_gT A A (gt A b3011) fun _ => l_load ty31 A A A A A) (dv1 (l_gT A A (gt A b3011) fun _ => l_lenRo sl31 A A (List.length_map _)) (dv1 (l_gT A A (gt A b3011) fun _ => l_bin A A b_lss) (dv1 (l_pickT (gt A b3011) (.v _)) (dvE ?_))))))
        cases hF
        refine q_join ?_
        exact (le_of [(0, some 0)] A (.s (.s (.s (.s (.s .nil A) A) A) A) A) (.box A A (.s A) .nil))
      · refine dv1 (l_gF A A (gt A b3011) A) (dv1 (l_gF A A (gt A b3011) A) (dv1 (l_gF A A (gt A b3011) A) (dv1 (l_gF A A (gt A b3011) A) (dv1 (l_gF A A (gt A b3011) A) (dv1 (l_pickF (gt A b3011) (.v _)) (dvE ?_))))))
        cases hF
        refine q_join ?_
        exact (le_of [(0, some 0)] A (.s (.s (.s (.s (.s .nil A) A) A) A) A) (.box A A (.s A) .nil))
    replace hF := hG3010
    rcases condE hF with ⟨b3012, hF⟩ | ⟨b3012, hF⟩
    · refine w_condT A b3012 ?_
      refine w_skip (q_seq (w_seq (w_block (w_draw [[], [], [1], [], [1, 2, 3], [1, 2, 3, 4], [1, 2, 3, 4, 5], [1, 2, 3, 4, 5, 6], [0, 1, 2, 3, 4, 5, 6, 7], [], [9], [], [9, 10, 11], [9, 10, 11, 12], [9, 10, 11, 12, 13], [9, 10, 11, 12, 13, 14], [0, 1, 2, 3, 4, 5, 6, 7, 8, 9, 10, 11, 12, 13, 14, 15], [0, 1, 2, 3, 4, 5, 6, 7, 8, 9, 10, 11, 12, 13, 14, 15, 16]] [0, 1, 2, 3, 4, 5, 6, 7, 8, 9, 10, 11, 12, 13, 14, 15, 16, 17] (by kernel_rfl) (by rfl) ⟨by decide, by rfl⟩ (by rfl) ?_))))
      refine de1 A (l_move (.v _)) A (de1 A (l_field fd33_1 A) A (de1 A (l_load ty31 A A A A A) A (de1 A (l_move (.v _)) A ?_)))
      obtain ⟨x3013, h3014, hF⟩ := bindE hF
      refine de1 A (l_indexRo s3004.2.toNat sl31 A A (atI_z h3014) (map_at (atI_at h3014))) A (de1 A (l_fieldRo fd47_0 A) A (de1 A (l_loadRo ty29 A A) A (de1 A (l_lenRo sl29 A A (List.length_map _)) A (de1 A (l_bin A A (b_add A)) A (de1 A (l_field fd33_1 A) A (de1 A (l_load ty31 A A A A A) A (de1 A (l_move (.v _)) A (de1 A (l_indexRo s3004.2.toNat sl31 A A (atI_z h3014) (map_at (atI_at h3014))) A ?_))))))))
      refine de1 A (l_fieldRo fd47_1 A) A (de1 A (l_loadRo ty43 A A) A (de1 A (l_lenRo sl43 A A (List.length_map _)) A (de1 A (l_bin A A (b_add A)) A (de1 A (l_assign (.v _)) A (ddE (q_in (q_seq (w_region (by rfl) ?_))))))))
      refine dv1 (l_move (.v _)) (dv1 (l_bin A A (b_add A)) (dv1 (l_assign (.v _)) (dvE ?_)))
      cases hF
      refine qL A ?_
      exact (le_of [(0, some 0)] A (.s (.s (.s (.s .nil A) A) A) A) (.box A A (.s A) .nil))
    · refine w_condF A b3012 ?_
      refine w_exit ?_
      cases hF
      cases hx3006 _ rfl
      refine q_exS (q_exS (q_here (q_join ?_)))
      exact (le_of [] A (.s .nil A) .nil)
  replace hF := hG3
  refine w_seq (w_region (by rfl) (dv1 (l_move (.v _)) (dv1 (l_assign (.v _)) (dvE (q_seq (w_ret ?_))))))
  cases hF
  refine q_end (.inr A) ?_
  exact ret_ok A (.cons (.tmp (.v _) (.v _)) .nil) (by decide) A

def p_R04_Flags (a0 : MOp) : Option Int :=
(((((bif decide (a0.K = 5) then
some (decide (a0.K = 5))
else
(bif decide (a0.K = 7) then
some (decide (a0.K = 7))
else
(bif decide (a0.K = 13) then
some (decide (a0.K = 13))
else
(bif decide (a0.K = 15) then
some (decide (a0.K = 15))
else
(bif decide (a0.K = 16) then
some (decide (a0.K = 16))
else
(bif decide (a0.K = 21) then
some (decide (a0.K = 21))
else
some (decide (a0.K = 24))))))))).bind fun (s5 : Bool) =>
(bif s5 then
some (IntKind.i64.wrap (0 + 1))
else
(bif decide (a0.K = 3) then
(((bif decide (a0.N = 3) then
some true
else
some (decide (a0.N = 4)))).bind fun (s16 : Bool) =>
(bif s16 then
some (IntKind.i64.wrap (0 + 1))
else
some 0))
else
some 0)))).bind fun (s2 : Int) =>
(((((bif decide (a0.K = 10) then
some (decide (a0.K = 10))
else
(bif decide (a0.K = 15) then
some (decide (a0.K = 15))
else
(bif decide (a0.K = 19) then
some (decide (a0.K = 19))
else
(bif decide (a0.K = 20) then
some (decide (a0.K = 20))
else
some (decide (a0.K = 21))))))).bind fun (s24 : Bool) =>
(bif s24 then
some (IntKind.i64.wrap (s2 + 2))
else
(((bif decide (a0.K = 11) then
some (decide (a0.K = 11))
else
(bif decide (a0.K = 16) then
some (decide (a0.K = 16))
else
some (decide (a0.K = 18))))).bind fun (s32 : Bool) =>
(bif s32 then
some (IntKind.i64.wrap (s2 + 4))
else
(((bif decide (a0.K = 9) then
some (decide (a0.K = 9))
else
(bif decide (a0.K = 12) then
some (decide (a0.K = 12))
else
(bif decide (a0.K = 13) then
some (decide (a0.K = 13))
else
some (decide (a0.K = 17)))))).bind fun (s38 : Bool) =>
(bif s38 then
some (IntKind.i64.wrap (s2 + 8))
else
(((bif decide (a0.K = 23) then
some (decide (a0.K = 23))
else
some (decide (a0.K = 24)))).bind fun (s45 : Bool) =>
(bif s45 then
some (IntKind.i64.wrap (s2 + 16))
else
(bif decide (a0.K = 25) then
some (IntKind.i64.wrap (s2 + 32))
else
some s2)))))))))).bind fun (s21 : Int) =>
some s21))

theorem p_R04_Flags_ok {r : Int} : rOk (.v (.int .i64 r)) = true ∧ FrT (.v (.int .i64 r)) := ⟨rfl, (.one (.cl (.v _)))⟩

set_option maxRecDepth 10000 in
set_option maxHeartbeats 4000000 in
theorem p_R04_Flags_ac {a0 : MOp} {r : Int} (hF : p_R04_Flags a0 = some r) : AC Tryd.prog GT 22 [.ag (MOp.ct a0)] (fun c => c = .v (.int .i64 r)) := by
  unfold p_R04_Flags at hF
  refine AC.mk (nt := 61) Tryd.func22 A A A fun w N => ?_
  refine w_seq (w_region (by rfl) (dvN (l_box (.ag _) A A) (dv1 (l_assign (.v _)) (dvE (q_seq (w_seq (w_region (by rfl) (dv1 (l_assign (.v _)) ?_))))))))
  refine dvE (q_seq ?_)
  obtain ⟨s2, hF, hG3⟩ := bindE hF
  refine w_seqJ ⟨[(1, .ad 0 8 0 0), (3, .v (.int .i64 s2))], [(0, some ⟨49, 8, [[.v (.int .i64 a0.K), .v (.int .i64 a0.A), .v (.int .i64 a0.B), .v (.int .i64 a0.C), .v (.int .i64 a0.N), .v (.string a0.S), .ro (.sl 3 1 (a0.L.map iC)), .v (.bool a0.Stack)]]⟩)], 1⟩ ?_ ?_
  · refine w_seq (w_region (by rfl) (dv1 (l_field fd49_0 A) (dv1 (l_load ty3 A A A A A) (dvE (q_seq (w_block ?_))))))
    obtain ⟨s5, hF, hG6⟩ := bindE hF
    refine w_seqJ ⟨[(1, .ad 0 8 0 0), (3, .v (.int .i64 0)), (5, .v (.int .i64 a0.K)), (6, .v (.bool s5))], [(0, some ⟨49, 8, [[.v (.int .i64 a0.K), .v (.int .i64 a0.A), .v (.int .i64 a0.B), .v (.int .i64 a0.C), .v (.int .i64 a0.N), .v (.string a0.S), .ro (.sl 3 1 (a0.L.map iC)), .v (.bool a0.Stack)]]⟩)], 1⟩ ?_ ?_
    · refine w_seq (w_region (by rfl) (dv1 (l_bin A A b_eql) (dv1 (l_assign (.v _)) (dvE (q_seq ?_)))))
      rcases condE hF with ⟨b7, hF⟩ | ⟨b7, hF⟩
      · refine w_condT A b7 ?_
        refine w_skip ?_
        cases hF
        refine q_join ?_
        exact (le_of [(0, some 0)] A (.s (.s (.s (.s .nil A) A) A) A) (.box A A (.s A) .nil))
      · refine w_condF A b7 ?_
        refine w_seq (w_region (by rfl) (dv1 (l_bin A A b_eql) (dv1 (l_assign (.v _)) (dvE (q_seq ?_)))))
        rcases condE hF with ⟨b8, hF⟩ | ⟨b8, hF⟩
        · refine w_condT A b8 ?_
          refine w_skip ?_
          cases hF
          refine q_join ?_
          exact (le_of [(0, some 0)] A (.s (.s (.s (.s .nil A) A) A) A) (.box A A (.s A) .nil))
        · refine w_condF A b8 ?_
          refine w_seq (w_region (by rfl) (dv1 (l_bin A A b_eql) (dv1 (l_assign (.v _)) (dvE (q_seq ?_)))))
          rcases condE hF with ⟨b9, hF⟩ | ⟨b9, hF⟩
          · refine w_condT A b9 ?_
            refine w_skip ?_
            cases hF
            refine q_join ?_
            exact (le_of [(0, some 0)] A (.s (.s (.s (.s .nil A) A) A) A) (.box A A (.s A) .nil))
          · refine w_condF A b9 ?_
            refine w_seq (w_region (by rfl) (dv1 (l_bin A A b_eql) (dv1 (l_assign (.v _)) (dvE (q_seq ?_)))))
            rcases condE hF with ⟨b10, hF⟩ | ⟨b10, hF⟩
            · refine w_condT A b10 ?_
              refine w_skip ?_
              cases hF
              refine q_join ?_
              exact (le_of [(0, some 0)] A (.s (.s (.s (.s .nil A) A) A) A) (.box A A (.s A) .nil))
            · refine w_condF A b10 ?_
              refine w_seq (w_region (by rfl) (dv1 (l_bin A A b_eql) (dv1 (l_assign (.v _)) (dvE (q_seq ?_)))))
              rcases condE hF with ⟨b11, hF⟩ | ⟨b11, hF⟩
              · refine w_condT A b11 ?_
                refine w_skip ?_
                cases hF
                refine q_join ?_
                exact (le_of [(0, some 0)] A (.s (.s (.s (.s .nil A) A) A) A) (.box A A (.s A) .nil))
              · refine w_condF A b11 ?_
                refine w_seq (w_region (by rfl) (dv1 (l_bin A A b_eql) (dv1 (l_assign (.v _)) (dvE (q_seq ?_)))))
                rcases condE hF with ⟨b12, hF⟩ | ⟨b12, hF⟩
                · refine w_condT A b12 ?_
                  refine w_skip ?_
                  cases hF
                  refine q_join ?_
                  exact (le_of [(0, some 0)] A (.s (.s (.s (.s .nil A) A) A) A) (.box A A (.s A) .nil))
                · refine w_condF A b12 ?_
                  refine w_region (by rfl) (dv1 (l_bin A A b_eql) (dv1 (l_assign (.v _)) (dvE ?_)))
                  cases hF
                  refine q_join ?_
                  exact (le_of [(0, some 0)] A (.s (.s (.s (.s .nil A) A) A) A) (.box A A (.s A) .nil))
    replace hF := hG6
    rcases condE hF with ⟨b13, hF⟩ | ⟨b13, hF⟩
    · refine w_condT A b13 ?_
      refine w_region (by rfl) (dv1 (l_move (.v _)) (dv1 (l_bin A A (b_add A)) (dv1 (l_assign (.v _)) (dvE ?_))))
      cases hF
      refine q_in (q_join ?_)
      exact (le_of [(0, some 0)] A (.s (.s .nil A) A) (.box A A (.s A) .nil))
    · refine w_condF A b13 ?_
      refine w_seq (w_region (by rfl) (dv1 (l_bin A A b_eql) (dv1 (l_assign (.v _)) (dvE (q_seq ?_)))))
      rcases condE hF with ⟨b14, hF⟩ | ⟨b14, hF⟩
      · refine w_condT A b14 ?_
        obtain ⟨s16, hF, hG17⟩ := bindE hF
        refine w_seqJ ⟨[(1, .ad 0 8 0 0), (3, .v (.int .i64 0)), (25, .v (.bool s16))], [(0, some ⟨49, 8, [[.v (.int .i64 a0.K), .v (.int .i64 a0.A), .v (.int .i64 a0.B), .v (.int .i64 a0.C), .v (.int .i64 a0.N), .v (.string a0.S), .ro (.sl 3 1 (a0.L.map iC)), .v (.bool a0.Stack)]]⟩)], 1⟩ ?_ ?_
        · refine w_region (by rfl) (dv1 (l_field fd49_4 A) (dv1 (l_load ty2 A A A A A) (dv1 (l_bin A A b_eql) (dv1 (l_move (.v _)) ?_))))
          rcases condE hF with ⟨b18, hF⟩ | ⟨b18, hF⟩
          · refine dv1 (l_gF A A (gt A b18) A) (dv1 (l_gF A A (gt A b18) A) (dv1 (l_gF A A (gt A b18) A) (dv1 (l_pickT (gt A b18) (.v _)) (dvE ?_))))
            cases hF
            refine q_join ?_
            exact (le_of [(0, some 0)] A (.s (.s (.s .nil A) A) A) (.box A A (.s A) .nil))
          · refine dv1 (l_gT A A (gt A b18) fun _ => l_field fd49_4 A) (dv1 (l_gT A A (gt A b18) fun _ => l_load ty2 A A A A A) (dv1 (l_gT A A (gt A b18) fun _ => l_bin A A b_eql) (dv1 (l_pickF (gt A b18) (.v _)) (dvE ?_))))
            cases hF
            refine q_join ?_
            exact (le_of [(0, some 0)] A (.s (.s (.s .nil A) A) A) (.box A A (.s A) .nil))
        replace hF := hG17
        rcases condE hF with ⟨b19, hF⟩ | ⟨b19, hF⟩
        · refine w_condT A b19 ?_
          refine w_region (by rfl) (dv1 (l_move (.v _)) (dv1 (l_bin A A (b_add A)) (dv1 (l_assign (.v _)) (dvE ?_))))
          cases hF
          refine q_in (q_join ?_)
          exact (le_of [(0, some 0)] A (.s (.s .nil A) A) (.box A A (.s A) .nil))
        · refine w_condF A b19 ?_
          refine w_skip ?_
          cases hF
          refine q_in (q_join ?_)
          exact (le_of [(0, some 0)] A (.s (.s .nil A) A) (.box A A (.s A) .nil))
      · refine w_condF A b14 ?_
        refine w_skip ?_
        cases hF
        refine q_in (q_join ?_)
        exact (le_of [(0, some 0)] A (.s (.s .nil A) A) (.box A A (.s A) .nil))
  replace hF := hG3
  obtain ⟨s21, hF, hG22⟩ := bindE hF
  refine w_seqJ ⟨[(3, .v (.int .i64 s21))], [], 1⟩ ?_ ?_
  · refine w_seq (w_region (by rfl) (dv1 (l_field fd49_0 A) (dv1 (l_load ty3 A A A A A) (dvE (q_seq (w_block ?_))))))
    obtain ⟨s24, hF, hG25⟩ := bindE hF
    refine w_seqJ ⟨[(3, .v (.int .i64 s2)), (29, .v (.int .i64 a0.K)), (30, .v (.bool s24))], [], 1⟩ ?_ ?_
    · refine w_seq (w_region (by rfl) (dv1 (l_bin A A b_eql) (dv1 (l_assign (.v _)) (dvE (q_seq ?_)))))
      rcases condE hF with ⟨b26, hF⟩ | ⟨b26, hF⟩
      · refine w_condT A b26 ?_
        refine w_skip ?_
        cases hF
        refine q_join ?_
        exact (le_of [] A (.s (.s (.s .nil A) A) A) .nil)
      · refine w_condF A b26 ?_
        refine w_seq (w_region (by rfl) (dv1 (l_bin A A b_eql) (dv1 (l_assign (.v _)) (dvE (q_seq ?_)))))
        rcases condE hF with ⟨b27, hF⟩ | ⟨b27, hF⟩
        · refine w_condT A b27 ?_
          refine w_skip ?_
          cases hF
          refine q_join ?_
          exact (le_of [] A (.s (.s (.s .nil A) A) A) .nil)
        · refine w_condF A b27 ?_
          refine w_seq (w_region (by rfl) (dv1 (l_bin A A b_eql) (dv1 (l_assign (.v _)) (dvE (q_seq ?_)))))
          rcases condE hF with ⟨b28, hF⟩ | ⟨b28, hF⟩
          · refine w_condT A b28 ?_
            refine w_skip ?_
            cases hF
            refine q_join ?_
            exact (le_of [] A (.s (.s (.s .nil A) A) A) .nil)
          · refine w_condF A b28 ?_
            refine w_seq (w_region (by rfl) (dv1 (l_bin A A b_eql) (dv1 (l_assign (.v _)) (dvE (q_seq ?_)))))
            rcases condE hF with ⟨b29, hF⟩ | ⟨b29, hF⟩
            · refine w_condT A b29 ?_
              refine w_skip ?_
              cases hF
              refine q_join ?_
              exact (le_of [] A (.s (.s (.s .nil A) A) A) .nil)
            · refine w_condF A b29 ?_
              refine w_region (by rfl) (dv1 (l_bin A A b_eql) (dv1 (l_assign (.v _)) (dvE ?_)))
              cases hF
              refine q_join ?_
              exact (le_of [] A (.s (.s (.s .nil A) A) A) .nil)
    replace hF := hG25
    rcases condE hF with ⟨b30, hF⟩ | ⟨b30, hF⟩
    · refine w_condT A b30 ?_
      refine w_region (by rfl) (dv1 (l_move (.v _)) (dv1 (l_bin A A (b_add A)) (dv1 (l_assign (.v _)) (dvE ?_))))
      cases hF
      refine q_in (q_join ?_)
      exact (le_of [] A (.s .nil A) .nil)
    · refine w_condF A b30 ?_
      obtain ⟨s32, hF, hG33⟩ := bindE hF
      refine w_seqJ ⟨[(3, .v (.int .i64 s2)), (29, .v (.int .i64 a0.K)), (38, .v (.bool s32))], [], 1⟩ ?_ ?_
      · refine w_seq (w_region (by rfl) (dv1 (l_bin A A b_eql) (dv1 (l_assign (.v _)) (dvE (q_seq ?_)))))
        rcases condE hF with ⟨b34, hF⟩ | ⟨b34, hF⟩
        · refine w_condT A b34 ?_
          refine w_skip ?_
          cases hF
          refine q_join ?_
          exact (le_of [] A (.s (.s (.s .nil A) A) A) .nil)
        · refine w_condF A b34 ?_
          refine w_seq (w_region (by rfl) (dv1 (l_bin A A b_eql) (dv1 (l_assign (.v _)) (dvE (q_seq ?_)))))
          rcases condE hF with ⟨b35, hF⟩ | ⟨b35, hF⟩
          · refine w_condT A b35 ?_
            refine w_skip ?_
            cases hF
            refine q_join ?_
            exact (le_of [] A (.s (.s (.s .nil A) A) A) .nil)
          · refine w_condF A b35 ?_
            refine w_region (by rfl) (dv1 (l_bin A A b_eql) (dv1 (l_assign (.v _)) (dvE ?_)))
            cases hF
            refine q_join ?_
            exact (le_of [] A (.s (.s (.s .nil A) A) A) .nil)
      replace hF := hG33
      rcases condE hF with ⟨b36, hF⟩ | ⟨b36, hF⟩
      · refine w_condT A b36 ?_
        refine w_region (by rfl) (dv1 (l_move (.v _)) (dv1 (l_bin A A (b_add A)) (dv1 (l_assign (.v _)) (dvE ?_))))
        cases hF
        refine q_in (q_join ?_)
        exact (le_of [] A (.s .nil A) .nil)
      · refine w_condF A b36 ?_
        obtain ⟨s38, hF, hG39⟩ := bindE hF
        refine w_seqJ ⟨[(3, .v (.int .i64 s2)), (29, .v (.int .i64 a0.K)), (44, .v (.bool s38))], [], 1⟩ ?_ ?_
        · refine w_seq (w_region (by rfl) (dv1 (l_bin A A b_eql) (dv1 (l_assign (.v _)) (dvE (q_seq ?_)))))
          rcases condE hF with ⟨b40, hF⟩ | ⟨b40, hF⟩
          · refine w_condT A b40 ?_
            refine w_skip ?_
            cases hF
            refine q_join ?_
            exact (le_of [] A (.s (.s (.s .nil A) A) A) .nil)
          · refine w_condF A b40 ?_
            refine w_seq (w_region (by rfl) (dv1 (l_bin A A b_eql) (dv1 (l_assign (.v _)) (dvE (q_seq ?_)))))
            rcases condE hF with ⟨b41, hF⟩ | ⟨b41, hF⟩
            · refine w_condT A b41 ?_
              refine w_skip ?_
              cases hF
              refine q_join ?_
              exact (le_of [] A (.s (.s (.s .nil A) A) A) .nil)
            · refine w_condF A b41 ?_
              refine w_seq (w_region (by rfl) (dv1 (l_bin A A b_eql) (dv1 (l_assign (.v _)) (dvE (q_seq ?_)))))
              rcases condE hF with ⟨b42, hF⟩ | ⟨b42, hF⟩
              · refine w_condT A b42 ?_
                refine w_skip ?_
                cases hF
                refine q_join ?_
                exact (le_of [] A (.s (.s (.s .nil A) A) A) .nil)
              · refine w_condF A b42 ?_
                refine w_region (by rfl) (dv1 (l_bin A A b_eql) (dv1 (l_assign (.v _)) (dvE ?_)))
                cases hF
                refine q_join ?_
                exact (le_of [] A (.s (.s (.s .nil A) A) A) .nil)
        replace hF := hG39
        rcases condE hF with ⟨b43, hF⟩ | ⟨b43, hF⟩
        · refine w_condT A b43 ?_
          refine w_region (by rfl) (dv1 (l_move (.v _)) (dv1 (l_bin A A (b_add A)) (dv1 (l_assign (.v _)) (dvE ?_))))
          cases hF
          refine q_in (q_join ?_)
          exact (le_of [] A (.s .nil A) .nil)
        · refine w_condF A b43 ?_
          obtain ⟨s45, hF, hG46⟩ := bindE hF
          refine w_seqJ ⟨[(3, .v (.int .i64 s2)), (29, .v (.int .i64 a0.K)), (51, .v (.bool s45))], [], 1⟩ ?_ ?_
          · refine w_seq (w_region (by rfl) (dv1 (l_bin A A b_eql) (dv1 (l_assign (.v _)) (dvE (q_seq ?_)))))
            rcases condE hF with ⟨b47, hF⟩ | ⟨b47, hF⟩
            · refine w_condT A b47 ?_
              refine w_skip ?_
              cases hF
              refine q_join ?_
              exact (le_of [] A (.s (.s (.s .nil A) A) A) .nil)
            · refine w_condF A b47 ?_
              refine w_region (by rfl) (dv1 (l_bin A A b_eql) (dv1 (l_assign (.v _)) (dvE ?_)))
              cases hF
              refine q_join ?_
              exact (le_of [] A (.s (.s (.s .nil A) A) A) .nil)
          replace hF := hG46
          rcases condE hF with ⟨b48, hF⟩ | ⟨b48, hF⟩
          · refine w_condT A b48 ?_
            refine w_region (by rfl) (dv1 (l_move (.v _)) (dv1 (l_bin A A (b_add A)) (dv1 (l_assign (.v _)) (dvE ?_))))
            cases hF
            refine q_in (q_join ?_)
            exact (le_of [] A (.s .nil A) .nil)
          · refine w_condF A b48 ?_
            refine w_seq (w_region (by rfl) (dv1 (l_bin A A b_eql) (dv1 (l_assign (.v _)) (dvE (q_seq ?_)))))
            rcases condE hF with ⟨b49, hF⟩ | ⟨b49, hF⟩
            · refine w_condT A b49 ?_
              refine w_region (by rfl) (dv1 (l_move (.v _)) (dv1 (l_bin A A (b_add A)) (dv1 (l_assign (.v _)) (dvE ?_))))
              cases hF
              refine q_in (q_join ?_)
              exact (le_of [] A (.s .nil A) .nil)
            · refine w_condF A b49 ?_
              refine w_skip ?_
              cases hF
              refine q_in (q_join ?_)
              exact (le_of [] A (.s .nil A) .nil)
  replace hF := hG22
  refine w_seq (w_region (by rfl) (dv1 (l_move (.v _)) (dv1 (l_assign (.v _)) (dvE (q_seq (w_ret ?_))))))
  cases hF
  refine q_end (.inr A) ?_
  exact ret_ok A (.cons (.tmp (.v _) (.v _)) .nil) (by decide) A

def p_R17_Seen (a0 : MOp) : Option Bool :=
((p_R04_Flags a0).bind fun y1 =>
(((bif decide (Int.tmod y1 2 = 1) then
some true
else
(bif decide (Int.tmod (IntKind.i64.wrap (Int.tdiv y1 4)) 2 = 1) then
some true
else
(bif decide (Int.tmod (IntKind.i64.wrap (Int.tdiv y1 16)) 2 = 1) then
some true
else
some (decide (Int.tmod (IntKind.i64.wrap (Int.tdiv y1 32)) 2 = 1)))))).bind fun (s4 : Bool) =>
some s4))

theorem p_R17_Seen_ok {r : Bool} : rOk (.v (.bool r)) = true ∧ FrT (.v (.bool r)) := ⟨rfl, (.one (.cl (.v _)))⟩

set_option maxRecDepth 10000 in
set_option maxHeartbeats 4000000 in
theorem p_R17_Seen_ac {a0 : MOp} {r : Bool} (hF : p_R17_Seen a0 = some r) : AC Tryd.prog GT 14 [.ag (MOp.ct a0)] (fun c => c = .v (.bool r)) := by
  unfold p_R17_Seen at hF
  refine AC.mk (nt := 27) Tryd.func14 A A A fun w N => ?_
  refine w_seq (w_region (by rfl) (dvN (l_box (.ag _) A A) (dv1 (l_assign (.v _)) (dvE (q_seq (w_seq (w_region (by rfl) (dv1 (l_loadA ty49 A A A A A) ?_))))))))
  obtain ⟨y1, h2, hF⟩ := bindE hF
  refine dvC (l_call (B := false) (FnI.mk' (by kernel_rfl)) (.cons (.ag _) (.ag (.cons (.v _) (.cons (.v _) (.cons (.v _) (.cons (.v _) (.cons (.v _) (.cons (.v _) (.cons (.ro _) (.cons (.v _) .nil))))))))) .nil) (p_R04_Flags_ac h2) (okF p_R04_Flags_ok)) ?_
  rintro _ rfl
  refine dv1 (l_assign (.v _)) (dvE (q_seq ?_))
  obtain ⟨s4, hF, hG5⟩ := bindE hF
  refine w_seqJ ⟨[(2, .v (.bool s4))], [], 1⟩ ?_ ?_
  · refine w_region (by rfl) (dv1 (l_move (.v _)) (dv1 (l_bin A A (b_rem (by decide) A)) (dv1 (l_bin A A b_eql) (dv1 (l_move (.v _)) ?_))))
    rcases condE hF with ⟨b6, hF⟩ | ⟨b6, hF⟩
    · refine dv1 (l_gF A A (gt A b6) A) (dv1 (l_gF A A (gt A b6) A) (dv1 (l_gF A A (gt A b6) A) (dv1 (l_gF A A (gt A b6) A) (dv1 (l_pickT (gt A b6) (.v _)) (dv1 (l_move (.v _)) (dv1 (l_gF A A A A) (dv1 (l_gF A A A A) (dv1 (l_gF A A A A) ?_))))))))
      refine dv1 (l_gF A A A A) (dv1 (l_pickT A (.v _)) (dv1 (l_move (.v _)) (dv1 (l_gF A A A A) (dv1 (l_gF A A A A) (dv1 (l_gF A A A A) (dv1 (l_gF A A A A) (dv1 (l_pickT A (.v _)) (dv1 (l_assign (.v _)) ?_))))))))
      refine dvE ?_
      cases hF
      refine q_join ?_
      exact (le_of [] A (.s .nil A) .nil)
    · refine dv1 (l_gT A A (gt A b6) fun _ => l_move (.v _)) (dv1 (l_gT A A (gt A b6) fun _ => l_bin A A (b_quo (by decide) A)) (dv1 (l_gT A A (gt A b6) fun _ => l_bin A A (b_rem (by decide) A)) (dv1 (l_gT A A (gt A b6) fun _ => l_bin A A b_eql) (dv1 (l_pickF (gt A b6) (.v _)) (dv1 (l_move (.v _)) ?_)))))
      rcases condE hF with ⟨b7, hF⟩ | ⟨b7, hF⟩
      · refine dv1 (l_gF A A (gt A b7) A) (dv1 (l_gF A A (gt A b7) A) (dv1 (l_gF A A (gt A b7) A) (dv1 (l_gF A A (gt A b7) A) (dv1 (l_pickT (gt A b7) (.v _)) (dv1 (l_move (.v _)) (dv1 (l_gF A A A A) (dv1 (l_gF A A A A) (dv1 (l_gF A A A A) ?_))))))))
        refine dv1 (l_gF A A A A) (dv1 (l_pickT A (.v _)) (dv1 (l_assign (.v _)) (dvE ?_)))
        cases hF
        refine q_join ?_
        exact (le_of [] A (.s .nil A) .nil)
      · refine dv1 (l_gT A A (gt A b7) fun _ => l_move (.v _)) (dv1 (l_gT A A (gt A b7) fun _ => l_bin A A (b_quo (by decide) A)) (dv1 (l_gT A A (gt A b7) fun _ => l_bin A A (b_rem (by decide) A)) (dv1 (l_gT A A (gt A b7) fun _ => l_bin A A b_eql) (dv1 (l_pickF (gt A b7) (.v _)) (dv1 (l_move (.v _)) ?_)))))
        rcases condE hF with ⟨b8, hF⟩ | ⟨b8, hF⟩
        · refine dv1 (l_gF A A (gt A b8) A) (dv1 (l_gF A A (gt A b8) A) (dv1 (l_gF A A (gt A b8) A) (dv1 (l_gF A A (gt A b8) A) (dv1 (l_pickT (gt A b8) (.v _)) (dv1 (l_assign (.v _)) (dvE ?_))))))
          cases hF
          refine q_join ?_
          exact (le_of [] A (.s .nil A) .nil)
        · refine dv1 (l_gT A A (gt A b8) fun _ => l_move (.v _)) (dv1 (l_gT A A (gt A b8) fun _ => l_bin A A (b_quo (by decide) A)) (dv1 (l_gT A A (gt A b8) fun _ => l_bin A A (b_rem (by decide) A)) (dv1 (l_gT A A (gt A b8) fun _ => l_bin A A b_eql) (dv1 (l_pickF (gt A b8) (.v _)) (dv1 (l_assign (.v _)) (dvE ?_))))))
          cases hF
          refine q_join ?_
          exact (le_of [] A (.s .nil A) .nil)
  replace hF := hG5
  refine w_ret ?_
  cases hF
  refine q_end (.inr A) ?_
  exact ret_ok A (.cons (.tmp (.v _) (.v _)) .nil) (by decide) A

def p_R04_Fields (a0 : Int) : Option ByteArray :=
(((bif decide (a0 = 0) then
some (decide (a0 = 0))
else
some (decide (a0 = 1)))).bind fun (s2 : Bool) =>
(bif s2 then
some ⟨#[78]⟩
else
(bif decide (a0 = 2) then
some ⟨#[83]⟩
else
(((bif decide (a0 = 3) then
some (decide (a0 = 3))
else
some (decide (a0 = 11)))).bind fun (s8 : Bool) =>
(bif s8 then
some ⟨#[78, 65, 66]⟩
else
(((bif decide (a0 = 4) then
some (decide (a0 = 4))
else
(bif decide (a0 = 6) then
some (decide (a0 = 6))
else
(bif decide (a0 = 13) then
some (decide (a0 = 13))
else
(bif decide (a0 = 14) then
some (decide (a0 = 14))
else
(bif decide (a0 = 20) then
some (decide (a0 = 20))
else
(bif decide (a0 = 22) then
some (decide (a0 = 22))
else
some (decide (a0 = 25))))))))).bind fun (s13 : Bool) =>
(bif s13 then
some ⟨#[65]⟩
else
(((bif decide (a0 = 5) then
some (decide (a0 = 5))
else
(bif decide (a0 = 7) then
some (decide (a0 = 7))
else
(bif decide (a0 = 8) then
some (decide (a0 = 8))
else
(bif decide (a0 = 15) then
some (decide (a0 = 15))
else
(bif decide (a0 = 19) then
some (decide (a0 = 19))
else
some (decide (a0 = 21)))))))).bind fun (s23 : Bool) =>
(bif s23 then
some ⟨#[65, 66]⟩
else
(bif decide (a0 = 9) then
some ⟨#[78, 76, 75]⟩
else
(bif decide (a0 = 10) then
some ⟨#[78, 65]⟩
else
(bif decide (a0 = 12) then
some ⟨#[78, 75]⟩
else
(((bif decide (a0 = 16) then
some (decide (a0 = 16))
else
some (decide (a0 = 18)))).bind fun (s35 : Bool) =>
(bif s35 then
some ⟨#[65, 66, 67]⟩
else
(bif decide (a0 = 17) then
some ⟨#[75]⟩
else
(bif decide (a0 = 23) then
some ⟨#[78, 76]⟩
else
(bif decide (a0 = 24) then
some ⟨#[78, 65, 76]⟩
else
some ⟨#[]⟩)))))))))))))))))

theorem p_R04_Fields_ok {r : ByteArray} : rOk (.v (.string r)) = true ∧ FrT (.v (.string r)) := ⟨rfl, (.one (.cl (.v _)))⟩

set_option maxRecDepth 10000 in
set_option maxHeartbeats 4000000 in
theorem p_R04_Fields_ac {a0 : Int} {r : ByteArray} (hF : p_R04_Fields a0 = some r) : AC Tryd.prog GT 62 [.v (.int .i64 a0)] (fun c => c = .v (.string r)) := by
  unfold p_R04_Fields at hF
  refine AC.mk (nt := 42) Tryd.func62 A A A fun w N => ?_
  refine w_seq (w_region (by rfl) (dv1 (l_assign (.v _)) (dvE (q_seq (w_seq (w_seq (w_region (by rfl) (dv1 (l_move (.v _)) ?_))))))))
  refine dvE (q_seq (w_block ?_))
  obtain ⟨s2, hF, hG3⟩ := bindE hF
  refine w_seqJ ⟨[(3, .v (.int .i64 a0)), (4, .v (.bool s2))], [], 1⟩ ?_ ?_
  · refine w_seq (w_region (by rfl) (dv1 (l_bin A A b_eql) (dv1 (l_assign (.v _)) (dvE (q_seq ?_)))))
    rcases condE hF with ⟨b4, hF⟩ | ⟨b4, hF⟩
    · refine w_condT A b4 ?_
      refine w_skip ?_
      cases hF
      refine q_join ?_
      exact (le_of [] A (.s (.s .nil A) A) .nil)
    · refine w_condF A b4 ?_
      refine w_region (by rfl) (dv1 (l_bin A A b_eql) (dv1 (l_assign (.v _)) (dvE ?_)))
      cases hF
      refine q_join ?_
      exact (le_of [] A (.s (.s .nil A) A) .nil)
  replace hF := hG3
  rcases condE hF with ⟨b5, hF⟩ | ⟨b5, hF⟩
  · refine w_condT A b5 ?_
    refine w_seq (w_region (by rfl) (dv1 (l_assign (.v _)) (dvE (q_seq (w_ret (q_reI (q_reS ?_)))))))
    cases hF
    refine q_end (.inr A) ?_
    exact ret_ok A (.cons (.tmp (.v _) (.v _)) .nil) (by decide) A
  · refine w_condF A b5 ?_
    refine w_seq (w_region (by rfl) (dv1 (l_bin A A b_eql) (dv1 (l_assign (.v _)) (dvE (q_seq ?_)))))
    rcases condE hF with ⟨b6, hF⟩ | ⟨b6, hF⟩
    · refine w_condT A b6 ?_
      refine w_seq (w_region (by rfl) (dv1 (l_assign (.v _)) (dvE (q_seq (w_ret (q_reI (q_reS ?_)))))))
      cases hF
      refine q_end (.inr A) ?_
      exact ret_ok A (.cons (.tmp (.v _) (.v _)) .nil) (by decide) A
    · refine w_condF A b6 ?_
      obtain ⟨s8, hF, hG9⟩ := bindE hF
      refine w_seqJ ⟨[(3, .v (.int .i64 a0)), (9, .v (.bool s8))], [], 1⟩ ?_ ?_
      · refine w_seq (w_region (by rfl) (dv1 (l_bin A A b_eql) (dv1 (l_assign (.v _)) (dvE (q_seq ?_)))))
        rcases condE hF with ⟨b10, hF⟩ | ⟨b10, hF⟩
        · refine w_condT A b10 ?_
          refine w_skip ?_
          cases hF
          refine q_join ?_
          exact (le_of [] A (.s (.s .nil A) A) .nil)
        · refine w_condF A b10 ?_
          refine w_region (by rfl) (dv1 (l_bin A A b_eql) (dv1 (l_assign (.v _)) (dvE ?_)))
          cases hF
          refine q_join ?_
          exact (le_of [] A (.s (.s .nil A) A) .nil)
      replace hF := hG9
      rcases condE hF with ⟨b11, hF⟩ | ⟨b11, hF⟩
      · refine w_condT A b11 ?_
        refine w_seq (w_region (by rfl) (dv1 (l_assign (.v _)) (dvE (q_seq (w_ret (q_reI (q_reS ?_)))))))
        cases hF
        refine q_end (.inr A) ?_
        exact ret_ok A (.cons (.tmp (.v _) (.v _)) .nil) (by decide) A
      · refine w_condF A b11 ?_
        obtain ⟨s13, hF, hG14⟩ := bindE hF
        refine w_seqJ ⟨[(3, .v (.int .i64 a0)), (12, .v (.bool s13))], [], 1⟩ ?_ ?_
        · refine w_seq (w_region (by rfl) (dv1 (l_bin A A b_eql) (dv1 (l_assign (.v _)) (dvE (q_seq ?_)))))
          rcases condE hF with ⟨b15, hF⟩ | ⟨b15, hF⟩
          · refine w_condT A b15 ?_
            refine w_skip ?_
            cases hF
            refine q_join ?_
            exact (le_of [] A (.s (.s .nil A) A) .nil)
          · refine w_condF A b15 ?_
            refine w_seq (w_region (by rfl) (dv1 (l_bin A A b_eql) (dv1 (l_assign (.v _)) (dvE (q_seq ?_)))))
            rcases condE hF with ⟨b16, hF⟩ | ⟨b16, hF⟩
            · refine w_condT A b16 ?_
              refine w_skip ?_
              cases hF
              refine q_join ?_
              exact (le_of [] A (.s (.s .nil A) A) .nil)
            · refine w_condF A b16 ?_
              refine w_seq (w_region (by rfl) (dv1 (l_bin A A b_eql) (dv1 (l_assign (.v _)) (dvE (q_seq ?_)))))
              rcases condE hF with ⟨b17, hF⟩ | ⟨b17, hF⟩
              · refine w_condT A b17 ?_
                refine w_skip ?_
                cases hF
                refine q_join ?_
                exact (le_of [] A (.s (.s .nil A) A) .nil)
              · refine w_condF A b17 ?_
                refine w_seq (w_region (by rfl) (dv1 (l_bin A A b_eql) (dv1 (l_assign (.v _)) (dvE (q_seq ?_)))))
                rcases condE hF with ⟨b18, hF⟩ | ⟨b18, hF⟩
                · refine w_condT A b18 ?_
                  refine w_skip ?_
                  cases hF
                  refine q_join ?_
                  exact (le_of [] A (.s (.s .nil A) A) .nil)
                · refine w_condF A b18 ?_
                  refine w_seq (w_region (by rfl) (dv1 (l_bin A A b_eql) (dv1 (l_assign (.v _)) (dvE (q_seq ?_)))))
                  rcases condE hF with ⟨b19, hF⟩ | ⟨b19, hF⟩
                  · refine w_condT A b19 ?_
                    refine w_skip ?_
                    cases hF
                    refine q_join ?_
                    exact (le_of [] A (.s (.s .nil A) A) .nil)
                  · refine w_condF A b19 ?_
                    refine w_seq (w_region (by rfl) (dv1 (l_bin A A b_eql) (dv1 (l_assign (.v _)) (dvE (q_seq ?_)))))
                    rcases condE hF with ⟨b20, hF⟩ | ⟨b20, hF⟩
                    · refine w_condT A b20 ?_
                      refine w_skip ?_
                      cases hF
                      refine q_join ?_
                      exact (le_of [] A (.s (.s .nil A) A) .nil)
                    · refine w_condF A b20 ?_
                      refine w_region (by rfl) (dv1 (l_bin A A b_eql) (dv1 (l_assign (.v _)) (dvE ?_)))
                      cases hF
                      refine q_join ?_
                      exact (le_of [] A (.s (.s .nil A) A) .nil)
        replace hF := hG14
        rcases condE hF with ⟨b21, hF⟩ | ⟨b21, hF⟩
        · refine w_condT A b21 ?_
          refine w_seq (w_region (by rfl) (dv1 (l_assign (.v _)) (dvE (q_seq (w_ret (q_reI (q_reS ?_)))))))
          cases hF
          refine q_end (.inr A) ?_
          exact ret_ok A (.cons (.tmp (.v _) (.v _)) .nil) (by decide) A
        · refine w_condF A b21 ?_
          obtain ⟨s23, hF, hG24⟩ := bindE hF
          refine w_seqJ ⟨[(3, .v (.int .i64 a0)), (20, .v (.bool s23))], [], 1⟩ ?_ ?_
          · refine w_seq (w_region (by rfl) (dv1 (l_bin A A b_eql) (dv1 (l_assign (.v _)) (dvE (q_seq ?_)))))
            rcases condE hF with ⟨b25, hF⟩ | ⟨b25, hF⟩
            · refine w_condT A b25 ?_
              refine w_skip ?_
              cases hF
              refine q_join ?_
              exact (le_of [] A (.s (.s .nil A) A) .nil)
            · refine w_condF A b25 ?_
              refine w_seq (w_region (by rfl) (dv1 (l_bin A A b_eql) (dv1 (l_assign (.v _)) (dvE (q_seq ?_)))))
              rcases condE hF with ⟨b26, hF⟩ | ⟨b26, hF⟩
              · refine w_condT A b26 ?_
                refine w_skip ?_
                cases hF
                refine q_join ?_
                exact (le_of [] A (.s (.s .nil A) A) .nil)
              · refine w_condF A b26 ?_
                refine w_seq (w_region (by rfl) (dv1 (l_bin A A b_eql) (dv1 (l_assign (.v _)) (dvE (q_seq ?_)))))
                rcases condE hF with ⟨b27, hF⟩ | ⟨b27, hF⟩
                · refine w_condT A b27 ?_
                  refine w_skip ?_
                  cases hF
                  refine q_join ?_
                  exact (le_of [] A (.s (.s .nil A) A) .nil)
                · refine w_condF A b27 ?_
                  refine w_seq (w_region (by rfl) (dv1 (l_bin A A b_eql) (dv1 (l_assign (.v _)) (dvE (q_seq ?_)))))
                  rcases condE hF with ⟨b28, hF⟩ | ⟨b28, hF⟩
                  · refine w_condT A b28 ?_
                    refine w_skip ?_
                    cases hF
                    refine q_join ?_
                    exact (le_of [] A (.s (.s .nil A) A) .nil)
                  · refine w_condF A b28 ?_
                    refine w_seq (w_region (by rfl) (dv1 (l_bin A A b_eql) (dv1 (l_assign (.v _)) (dvE (q_seq ?_)))))
                    rcases condE hF with ⟨b29, hF⟩ | ⟨b29, hF⟩
                    · refine w_condT A b29 ?_
                      refine w_skip ?_
                      cases hF
                      refine q_join ?_
                      exact (le_of [] A (.s (.s .nil A) A) .nil)
                    · refine w_condF A b29 ?_
                      refine w_region (by rfl) (dv1 (l_bin A A b_eql) (dv1 (l_assign (.v _)) (dvE ?_)))
                      cases hF
                      refine q_join ?_
                      exact (le_of [] A (.s (.s .nil A) A) .nil)
          replace hF := hG24
          rcases condE hF with ⟨b30, hF⟩ | ⟨b30, hF⟩
          · refine w_condT A b30 ?_
            refine w_seq (w_region (by rfl) (dv1 (l_assign (.v _)) (dvE (q_seq (w_ret (q_reI (q_reS ?_)))))))
            cases hF
            refine q_end (.inr A) ?_
            exact ret_ok A (.cons (.tmp (.v _) (.v _)) .nil) (by decide) A
          · refine w_condF A b30 ?_
            refine w_seq (w_region (by rfl) (dv1 (l_bin A A b_eql) (dv1 (l_assign (.v _)) (dvE (q_seq ?_)))))
            rcases condE hF with ⟨b31, hF⟩ | ⟨b31, hF⟩
            · refine w_condT A b31 ?_
              refine w_seq (w_region (by rfl) (dv1 (l_assign (.v _)) (dvE (q_seq (w_ret (q_reI (q_reS ?_)))))))
              cases hF
              refine q_end (.inr A) ?_
              exact ret_ok A (.cons (.tmp (.v _) (.v _)) .nil) (by decide) A
            · refine w_condF A b31 ?_
              refine w_seq (w_region (by rfl) (dv1 (l_bin A A b_eql) (dv1 (l_assign (.v _)) (dvE (q_seq ?_)))))
              rcases condE hF with ⟨b32, hF⟩ | ⟨b32, hF⟩
              · refine w_condT A b32 ?_
                refine w_seq (w_region (by rfl) (dv1 (l_assign (.v _)) (dvE (q_seq (w_ret (q_reI (q_reS ?_)))))))
                cases hF
                refine q_end (.inr A) ?_
                exact ret_ok A (.cons (.tmp (.v _) (.v _)) .nil) (by decide) A
              · refine w_condF A b32 ?_
                refine w_seq (w_region (by rfl) (dv1 (l_bin A A b_eql) (dv1 (l_assign (.v _)) (dvE (q_seq ?_)))))
                rcases condE hF with ⟨b33, hF⟩ | ⟨b33, hF⟩
                · refine w_condT A b33 ?_
                  refine w_seq (w_region (by rfl) (dv1 (l_assign (.v _)) (dvE (q_seq (w_ret (q_reI (q_reS ?_)))))))
                  cases hF
                  refine q_end (.inr A) ?_
                  exact ret_ok A (.cons (.tmp (.v _) (.v _)) .nil) (by decide) A
                · refine w_condF A b33 ?_
                  obtain ⟨s35, hF, hG36⟩ := bindE hF
                  refine w_seqJ ⟨[(3, .v (.int .i64 a0)), (33, .v (.bool s35))], [], 1⟩ ?_ ?_
                  · refine w_seq (w_region (by rfl) (dv1 (l_bin A A b_eql) (dv1 (l_assign (.v _)) (dvE (q_seq ?_)))))
                    rcases condE hF with ⟨b37, hF⟩ | ⟨b37, hF⟩
                    · refine w_condT A b37 ?_
                      refine w_skip ?_
                      cases hF
                      refine q_join ?_
                      exact (le_of [] A (.s (.s .nil A) A) .nil)
                    · refine w_condF A b37 ?_
                      refine w_region (by rfl) (dv1 (l_bin A A b_eql) (dv1 (l_assign (.v _)) (dvE ?_)))
                      cases hF
                      refine q_join ?_
                      exact (le_of [] A (.s (.s .nil A) A) .nil)
                  replace hF := hG36
                  rcases condE hF with ⟨b38, hF⟩ | ⟨b38, hF⟩
                  · refine w_condT A b38 ?_
                    refine w_seq (w_region (by rfl) (dv1 (l_assign (.v _)) (dvE (q_seq (w_ret (q_reI (q_reS ?_)))))))
                    cases hF
                    refine q_end (.inr A) ?_
                    exact ret_ok A (.cons (.tmp (.v _) (.v _)) .nil) (by decide) A
                  · refine w_condF A b38 ?_
                    refine w_seq (w_region (by rfl) (dv1 (l_bin A A b_eql) (dv1 (l_assign (.v _)) (dvE (q_seq ?_)))))
                    rcases condE hF with ⟨b39, hF⟩ | ⟨b39, hF⟩
                    · refine w_condT A b39 ?_
                      refine w_seq (w_region (by rfl) (dv1 (l_assign (.v _)) (dvE (q_seq (w_ret (q_reI (q_reS ?_)))))))
                      cases hF
                      refine q_end (.inr A) ?_
                      exact ret_ok A (.cons (.tmp (.v _) (.v _)) .nil) (by decide) A
                    · refine w_condF A b39 ?_
                      refine w_seq (w_region (by rfl) (dv1 (l_bin A A b_eql) (dv1 (l_assign (.v _)) (dvE (q_seq ?_)))))
                      rcases condE hF with ⟨b40, hF⟩ | ⟨b40, hF⟩
                      · refine w_condT A b40 ?_
                        refine w_seq (w_region (by rfl) (dv1 (l_assign (.v _)) (dvE (q_seq (w_ret (q_reI (q_reS ?_)))))))
                        cases hF
                        refine q_end (.inr A) ?_
                        exact ret_ok A (.cons (.tmp (.v _) (.v _)) .nil) (by decide) A
                      · refine w_condF A b40 ?_
                        refine w_seq (w_region (by rfl) (dv1 (l_bin A A b_eql) (dv1 (l_assign (.v _)) (dvE (q_seq ?_)))))
                        rcases condE hF with ⟨b41, hF⟩ | ⟨b41, hF⟩
                        · refine w_condT A b41 ?_
                          refine w_seq (w_region (by rfl) (dv1 (l_assign (.v _)) (dvE (q_seq (w_ret (q_reI (q_reS ?_)))))))
                          cases hF
                          refine q_end (.inr A) ?_
                          exact ret_ok A (.cons (.tmp (.v _) (.v _)) .nil) (by decide) A
                        · refine w_condF A b41 ?_
                          refine w_skip (q_in (q_seq (w_seq (w_region (by rfl) (dv1 (l_assign (.v _)) (dvE (q_seq (w_ret ?_))))))))
                          cases hF
                          refine q_end (.inr A) ?_
                          exact ret_ok A (.cons (.tmp (.v _) (.v _)) .nil) (by decide) A

def p_R04_Has (a0 : Int) (a1 : Int) : Option Bool :=
((p_R04_Fields a0).bind fun y1 =>
(((loop (fun (s3005 : Int) =>
(bif decide (s3005 < ((y1.size : Nat) : Int)) then
((strI y1 s3005).bind fun x3010 =>
(bif decide (((x3010.toNat : Nat) : Int) = a1) then
some (Xt.out (Xt.out true))
else
some (Xt.go (IntKind.i64.wrap (s3005 + 1)))))
else
some (Xt.out (Xt.go ())))) Fu 0)).bind fun s3 => s3.on (fun (s3013 : Unit) =>
some false)
(fun o3015 => some o3015)))

theorem p_R04_Has_ok {r : Bool} : rOk (.v (.bool r)) = true ∧ FrT (.v (.bool r)) := ⟨rfl, (.one (.cl (.v _)))⟩

set_option maxRecDepth 10000 in
set_option maxHeartbeats 4000000 in
theorem p_R04_Has_ac {a0 : Int} {a1 : Int} {r : Bool} (hF : p_R04_Has a0 a1 = some r) : AC Tryd.prog GT 44 [.v (.int .i64 a0), .v (.int .u8 a1)] (fun c => c = .v (.bool r)) := by
  unfold p_R04_Has at hF
  refine AC.mk (nt := 20) Tryd.func44 A A A fun w N => ?_
  refine w_seq (w_region (by rfl) (dv1 (l_assign (.v _)) (dvE (q_seq (w_seq (w_region (by rfl) (dv1 (l_move (.v _)) ?_)))))))
  obtain ⟨y1, h2, hF⟩ := bindE hF
  refine dvC (l_call (B := false) (FnI.mk' (by kernel_rfl)) (.cons (.v _) (.one (.v _)) .nil) (p_R04_Fields_ac h2) (okF p_R04_Fields_ok)) ?_
  rintro _ rfl
  refine dv1 (l_assign (.v _)) (dvE (q_seq ?_))
  obtain ⟨s3, hF, hG4⟩ := bindE hF
  refine w_seqE s3 (fun (s3013 : Unit) => ⟨[], [], 1⟩) ?_ (fun s3013 e3014 => ?_)
  · refine w_seq (w_region (by rfl) (dv1 (l_assign (.v _)) (dvE (q_seq (w_block (w_loopF hF (fun (s3005 : Int) => ⟨[(1, .v (.int .u8 a1)), (5, .v (.string y1)), (6, .v (.int .i64 s3005))], [], 1⟩) (le_of [] A (.s (.s (.s .nil A) A) A) .nil) ?_))))))
    intro s3005 y3006 hF hx3007
    refine w_seq (w_seq (w_region (by rfl) (dv1 (l_move (.v _)) (dv1 (l_move (.v _)) (dv1 (l_lenStr (by kernel_rfl) A A) (dv1 (l_bin A A b_lss) (dvE (q_seq ?_))))))))
    rcases condE hF with ⟨b3009, hF⟩ | ⟨b3009, hF⟩
    · refine w_condT A b3009 ?_
      refine w_skip (q_seq (w_seq (w_block (w_seq (w_region (by rfl) (dv1 (l_move (.v _)) (dv1 (l_move (.v _)) ?_)))))))
      obtain ⟨x3010, h3011, hF⟩ := bindE hF
      refine dv1 (l_indexStr s3005.toNat (by kernel_rfl) A A (strI_z h3011) (strI_at h3011)) (dv1 (l_move (.v _)) (dv1 (l_bin A A b_eql) (dvE (q_seq ?_))))
      rcases condE hF with ⟨b3012, hF⟩ | ⟨b3012, hF⟩
      · refine w_condT A b3012 ?_
        refine w_seq (w_region (by rfl) (dv1 (l_assign (.v _)) (dvE (q_seq (w_ret (q_reI (q_reS (q_reS ?_))))))))
        refine q_reI (q_reS ?_)
        cases hF
        cases hx3007 _ rfl
        have hF := onOut hG4
        cases hF
        refine q_end (.inr A) ?_
        exact ret_ok A (.cons (.tmp (.v _) (.v _)) .nil) (by decide) A
      · refine w_condF A b3012 ?_
        refine w_skip (q_in (q_seq (w_region (by rfl) (dv1 (l_move (.v _)) (dv1 (l_bin A A (b_add A)) (dv1 (l_assign (.v _)) (dvE ?_)))))))
        cases hF
        refine qL A ?_
        exact (le_of [] A (.s (.s (.s .nil A) A) A) .nil)
    · refine w_condF A b3009 ?_
      refine w_exit ?_
      cases hF
      cases hx3007 _ rfl
      refine q_exS (q_exS (q_here (qL A ?_)))
      exact (le_of [] A .nil .nil)
  subst e3014
  replace hF := onGo hG4
  refine w_seq (w_region (by rfl) (dv1 (l_assign (.v _)) (dvE (q_seq (w_ret ?_)))))
  cases hF
  refine q_end (.inr A) ?_
  exact ret_ok A (.cons (.tmp (.v _) (.v _)) .nil) (by decide) A

def p_R04_Uses (a0 : MOp) : Option ((List Int)) :=
((((p_R04_Has a0.K 65).bind fun y4 =>
(bif y4 then
(ck ((([] : List Int).length + 1) * 8 ≤ 140737488355328)
(some (([] : List Int) ++ [a0.A])))
else
some ([] : List Int)))).bind fun (s2 : (List Int)) =>
((((p_R04_Has a0.K 66).bind fun y11 =>
(bif y11 then
(ck ((s2.length + 1) * 8 ≤ 140737488355328)
(some (s2 ++ [a0.B])))
else
some s2))).bind fun (s9 : (List Int)) =>
((((p_R04_Has a0.K 67).bind fun y18 =>
(bif y18 then
(ck ((s9.length + 1) * 8 ≤ 140737488355328)
(some (s9 ++ [a0.C])))
else
some s9))).bind fun (s16 : (List Int)) =>
((((p_R04_Has a0.K 76).bind fun y25 =>
(bif y25 then
(ck (((s16 ++ a0.L)).length * 8 ≤ 140737488355328)
(some (s16 ++ a0.L)))
else
some s16))).bind fun (s23 : (List Int)) =>
some s23))))

theorem p_R04_Uses_ok {r : (List Int)} : rOk (.sl 3 1 (r.map iC)) = true ∧ FrT (.sl 3 1 (r.map iC)) := ⟨rfl, (.one (.cl (.sl _ _ (clm k_iC _))))⟩

set_option maxRecDepth 10000 in
set_option maxHeartbeats 4000000 in
theorem p_R04_Uses_ac {a0 : MOp} {r : (List Int)} (hF : p_R04_Uses a0 = some r) : AC Tryd.prog GT 30 [.ag (MOp.ct a0)] (fun c => c = .sl 3 1 (r.map iC)) := by
  unfold p_R04_Uses at hF
  refine AC.mk (nt := 37) Tryd.func30 A A A fun w N => ?_
  refine w_seq (w_region (by rfl) (dvN (l_box (.ag _) A A) (dv1 (l_assign (.v _)) (dvE (q_seq (w_seq (w_region (by rfl) (dvN (l_bs0 sl29 zt3 A (by decide)) ?_))))))))
  refine dv1 (l_assign (.rf _ _ _ _)) (dvE (q_seq ?_))
  obtain ⟨s2, hF, hG3⟩ := bindE hF
  refine w_seqJ ⟨[(1, .ad 0 8 0 0), (3, .rf 1 0 ((s2.map iC).length) 1)], [(0, some ⟨49, 8, [[.v (.int .i64 a0.K), .v (.int .i64 a0.A), .v (.int .i64 a0.B), .v (.int .i64 a0.C), .v (.int .i64 a0.N), .v (.string a0.S), .ro (.sl 3 1 (a0.L.map iC)), .v (.bool a0.Stack)]]⟩), (1, some ⟨3, 1, s2.map iC⟩)], 1⟩ ?_ ?_
  · refine w_seq (w_region (by rfl) (dv1 (l_field fd49_0 A) (dv1 (l_load ty3 A A A A A) ?_)))
    obtain ⟨y4, h5, hF⟩ := bindE hF
    refine dvC (l_call (B := false) (FnI.mk' (by kernel_rfl)) (.cons (.v _) (.one (.v _)) (.cons (.v _) (.one (.v _)) .nil)) (p_R04_Has_ac h5) (okF p_R04_Has_ok)) ?_
    rintro _ rfl
    refine dvE (q_seq ?_)
    rcases condE hF with ⟨b6, hF⟩ | ⟨b6, hF⟩
    · refine w_condT A b6 ?_
      refine w_region (by rfl) (dv1 (l_move (.rf _ _ _ _)) (dv1 (l_field fd49_1 A) (dv1 (l_load ty3 A A A A A) (dvN (l_bs1 sl29 zt3 A (.v _) A A A (by decide) (by decide)) ?_))))
      obtain ⟨c7, hF⟩ := ckE hF
      refine dvN3 (l_app1R el29 A A A A A A (by decide) (map_snoc iC ([] : List Int) a0.A) (List.length_map _) (by simp) (by decide)) ?_
      refine dv1 (l_assign (.rf _ _ _ _)) (dvE ?_)
      cases hF
      refine q_join ?_
      exact (le_of [(0, some 0), (1, some 704)] A (.s (.cons (.rf _ _ _ _) (.rf A (by simp)) .nil) A) (.box A A (.s A) (.row A A A (clm k_iC _) .nil)))
    · refine w_condF A b6 ?_
      refine w_skip ?_
      cases hF
      refine q_join ?_
      exact (le_of [(0, some 0), (1, some 128)] A (.s (.s .nil A) A) (.box A A (.s A) (.row A A A (clm k_iC _) .nil)))
  replace hF := hG3
  obtain ⟨s9, hF, hG10⟩ := bindE hF
  refine w_seqJ ⟨[(1, .ad 0 8 0 0), (3, .rf 1 0 ((s9.map iC).length) 1)], [(0, some ⟨49, 8, [[.v (.int .i64 a0.K), .v (.int .i64 a0.A), .v (.int .i64 a0.B), .v (.int .i64 a0.C), .v (.int .i64 a0.N), .v (.string a0.S), .ro (.sl 3 1 (a0.L.map iC)), .v (.bool a0.Stack)]]⟩), (1, some ⟨3, 1, s9.map iC⟩)], 1⟩ ?_ ?_
  · refine w_seq (w_region (by rfl) (dv1 (l_field fd49_0 A) (dv1 (l_load ty3 A A A A A) ?_)))
    obtain ⟨y11, h12, hF⟩ := bindE hF
    refine dvC (l_call (B := false) (FnI.mk' (by kernel_rfl)) (.cons (.v _) (.one (.v _)) (.cons (.v _) (.one (.v _)) .nil)) (p_R04_Has_ac h12) (okF p_R04_Has_ok)) ?_
    rintro _ rfl
    refine dvE (q_seq ?_)
    rcases condE hF with ⟨b13, hF⟩ | ⟨b13, hF⟩
    · refine w_condT A b13 ?_
      refine w_region (by rfl) (dv1 (l_move (.rf _ _ _ _)) (dv1 (l_field fd49_2 A) (dv1 (l_load ty3 A A A A A) (dvN (l_bs1 sl29 zt3 A (.v _) A A A (by decide) (by decide)) ?_))))
      obtain ⟨c14, hF⟩ := ckE hF
      refine dvN3 (l_app1R el29 A A A A A A (by decide) (map_snoc iC _ a0.B) (List.length_map _) (by simpa using c14) (by decide)) ?_
      refine dv1 (l_assign (.rf _ _ _ _)) (dvE ?_)
      cases hF
      refine q_join ?_
      exact (le_of [(0, some 0), (1, some 512)] A (.s (.cons (.rf _ _ _ _) (.rf A (by simp)) .nil) A) (.box A A (.s A) (.row A A A (clm k_iC _) .nil)))
    · refine w_condF A b13 ?_
      refine w_skip ?_
      cases hF
      refine q_join ?_
      exact (le_of [(0, some 0), (1, some 1)] A (.s (.s .nil A) A) (.box A A (.s A) (.row A A A (clm k_iC _) .nil)))
  replace hF := hG10
  obtain ⟨s16, hF, hG17⟩ := bindE hF
  refine w_seqJ ⟨[(1, .ad 0 8 0 0), (3, .rf 1 0 ((s16.map iC).length) 1)], [(0, some ⟨49, 8, [[.v (.int .i64 a0.K), .v (.int .i64 a0.A), .v (.int .i64 a0.B), .v (.int .i64 a0.C), .v (.int .i64 a0.N), .v (.string a0.S), .ro (.sl 3 1 (a0.L.map iC)), .v (.bool a0.Stack)]]⟩), (1, some ⟨3, 1, s16.map iC⟩)], 1⟩ ?_ ?_
  · refine w_seq (w_region (by rfl) (dv1 (l_field fd49_0 A) (dv1 (l_load ty3 A A A A A) ?_)))
    obtain ⟨y18, h19, hF⟩ := bindE hF
    refine dvC (l_call (B := false) (FnI.mk' (by kernel_rfl)) (.cons (.v _) (.one (.v _)) (.cons (.v _) (.one (.v _)) .nil)) (p_R04_Has_ac h19) (okF p_R04_Has_ok)) ?_
    rintro _ rfl
    refine dvE (q_seq ?_)
    rcases condE hF with ⟨b20, hF⟩ | ⟨b20, hF⟩
    · refine w_condT A b20 ?_
      refine w_region (by rfl) (dv1 (l_move (.rf _ _ _ _)) (dv1 (l_field fd49_3 A) (dv1 (l_load ty3 A A A A A) (dvN (l_bs1 sl29 zt3 A (.v _) A A A (by decide) (by decide)) ?_))))
      obtain ⟨c21, hF⟩ := ckE hF
      refine dvN3 (l_app1R el29 A A A A A A (by decide) (map_snoc iC _ a0.C) (List.length_map _) (by simpa using c21) (by decide)) ?_
      refine dv1 (l_assign (.rf _ _ _ _)) (dvE ?_)
      cases hF
      refine q_join ?_
      exact (le_of [(0, some 0), (1, some 512)] A (.s (.cons (.rf _ _ _ _) (.rf A (by simp)) .nil) A) (.box A A (.s A) (.row A A A (clm k_iC _) .nil)))
    · refine w_condF A b20 ?_
      refine w_skip ?_
      cases hF
      refine q_join ?_
      exact (le_of [(0, some 0), (1, some 1)] A (.s (.s .nil A) A) (.box A A (.s A) (.row A A A (clm k_iC _) .nil)))
  replace hF := hG17
  obtain ⟨s23, hF, hG24⟩ := bindE hF
  refine w_seqJ ⟨[(3, .rf 0 0 ((s23.map iC).length) 1)], [(0, some ⟨3, 1, s23.map iC⟩)], 1⟩ ?_ ?_
  · refine w_seq (w_region (by rfl) (dv1 (l_field fd49_0 A) (dv1 (l_load ty3 A A A A A) ?_)))
    obtain ⟨y25, h26, hF⟩ := bindE hF
    refine dvC (l_call (B := false) (FnI.mk' (by kernel_rfl)) (.cons (.v _) (.one (.v _)) (.cons (.v _) (.one (.v _)) .nil)) (p_R04_Has_ac h26) (okF p_R04_Has_ok)) ?_
    rintro _ rfl
    refine dvE (q_seq ?_)
    rcases condE hF with ⟨b27, hF⟩ | ⟨b27, hF⟩
    · refine w_condT A b27 ?_
      refine w_region (by rfl) (dv1 (l_move (.rf _ _ _ _)) (dv1 (l_field fd49_6 A) (dv1 (l_load ty29 A A A A A) ?_)))
      obtain ⟨c28, hF⟩ := ckE hF
      refine dvN2 (l_appOR el29 A A A A A (ro_map (fun _ => A) _) (map_app iC _ _) (by simpa using c28) (by decide)) ?_
      refine dv1 (l_assign (.rf _ _ _ _)) (dvE ?_)
      cases hF
      refine q_join ?_
      exact (le_of [(0, some 448)] A (.s .nil A) (.row A A A (clm k_iC _) .nil))
    · refine w_condF A b27 ?_
      refine w_skip ?_
      cases hF
      refine q_join ?_
      exact (le_of [(0, some 1)] A (.s .nil A) (.row A A A (clm k_iC _) .nil))
  replace hF := hG24
  refine w_seq (w_region (by rfl) (dv1 (l_move (.rf _ _ _ _)) (dv1 (l_assign (.rf _ _ _ _)) (dvE (q_seq (w_ret ?_))))))
  cases hF
  refine q_end (.inr A) ?_
  exact ret_ok A (.cons (.tmp (.rf _ _ _ _) (.rf A A (clm k_iC _))) .nil) (by decide) A

def p_R07_Targets (a0 : MEnd) : Option ((List MTarget)) :=
(((((bif decide (a0.K = 0) then
some true
else
some (decide (a0.K = 1)))).bind fun (s5 : Bool) =>
(bif s5 then
(ck ((([] : List MTarget).length + 1) * 32 ≤ 140737488355328)
(some (([] : List MTarget) ++ [(⟨a0.To, a0.L⟩ : MTarget)])))
else
some ([] : List MTarget)))).bind fun (s2 : (List MTarget)) =>
(((bif decide (a0.K = 1) then
(ck ((s2.length + 1) * 32 ≤ 140737488355328)
(some (s2 ++ [(⟨a0.Else, a0.M⟩ : MTarget)])))
else
some s2)).bind fun (s11 : (List MTarget)) =>
some s11))

theorem p_R07_Targets_ok {r : (List MTarget)} : rOk (.ro (.sl 68 2 (r.map MTarget.ct))) = true ∧ True := ⟨rfl, trivial⟩

set_option maxRecDepth 10000 in
set_option maxHeartbeats 4000000 in
theorem p_R07_Targets_ac {a0 : MEnd} {r : (List MTarget)} (hF : p_R07_Targets a0 = some r) : AC Tryd.prog GT 31 [.ag (MEnd.ct a0)] (fun c => c = .ro (.sl 68 2 (r.map MTarget.ct))) := by
  unfold p_R07_Targets at hF
  refine AC.mk (nt := 33) Tryd.func31 A A A fun w N => ?_
  refine w_seq (w_region (by rfl) (dvN (l_box (.ag _) A A) (dv1 (l_assign (.v _)) (dvE (q_seq (w_seq (w_region (by rfl) (dvN (l_bs0 sl65 zt68 A (by decide)) ?_))))))))
  refine dv1 (l_assign (.rf _ _ _ _)) (dvE (q_seq ?_))
  obtain ⟨s2, hF, hG3⟩ := bindE hF
  refine w_seqJ ⟨[(1, .ad 0 6 0 0), (3, .rf 1 0 ((s2.map MTarget.ct).length) 2)], [(0, some ⟨45, 6, [[.v (.int .i64 a0.K), .v (.int .i64 a0.A), .v (.int .i64 a0.To), .v (.int .i64 a0.Else), .ro (.sl 3 1 (a0.L.map iC)), .ro (.sl 3 1 (a0.M.map iC))]]⟩), (1, some ⟨68, 2, s2.map MTarget.ctr⟩)], 1⟩ ?_ ?_
  · obtain ⟨s5, hF, hG6⟩ := bindE hF
    refine w_seqJ ⟨[(1, .ad 0 6 0 0), (3, .rf 1 0 ((([] : List MTarget).map MTarget.ct).length) 2), (12, .v (.bool s5))], [(0, some ⟨45, 6, [[.v (.int .i64 a0.K), .v (.int .i64 a0.A), .v (.int .i64 a0.To), .v (.int .i64 a0.Else), .ro (.sl 3 1 (a0.L.map iC)), .ro (.sl 3 1 (a0.M.map iC))]]⟩), (1, some ⟨68, 2, ([] : List MTarget).map MTarget.ct⟩)], 1⟩ ?_ ?_
    · refine w_region (by rfl) (dv1 (l_field fd45_0 A) (dv1 (l_load ty3 A A A A A) (dv1 (l_bin A A b_eql) (dv1 (l_move (.v _)) ?_))))
      rcases condE hF with ⟨b7, hF⟩ | ⟨b7, hF⟩
      · refine dv1 (l_gF A A (gt A b7) A) (dv1 (l_gF A A (gt A b7) A) (dv1 (l_gF A A (gt A b7) A) (dv1 (l_pickT (gt A b7) (.v _)) (dvE ?_))))
        cases hF
        refine q_join ?_
        exact (le_of [(0, some 0), (1, some 128)] A (.s (.s (.s .nil A) A) A) (.box A A (.s A) (.row A A A (clm k_MTargetct _) .nil)))
      · refine dv1 (l_gT A A (gt A b7) fun _ => l_field fd45_0 A) (dv1 (l_gT A A (gt A b7) fun _ => l_load ty3 A A A A A) (dv1 (l_gT A A (gt A b7) fun _ => l_bin A A b_eql) (dv1 (l_pickF (gt A b7) (.v _)) (dvE ?_))))
        cases hF
        refine q_join ?_
        exact (le_of [(0, some 0), (1, some 128)] A (.s (.s (.s .nil A) A) A) (.box A A (.s A) (.row A A A (clm k_MTargetct _) .nil)))
    replace hF := hG6
    rcases condE hF with ⟨b8, hF⟩ | ⟨b8, hF⟩
    · refine w_condT A b8 ?_
      refine w_region (by rfl) (dv1 (l_move (.rf _ _ _ _)) (dv1 (l_field fd45_2 A) (dv1 (l_load ty3 A A A A A) (dv1 (l_field fd45_4 A) (dv1 (l_load ty29 A A A A A) (dv1 (l_build st68 zt68 (.cons (.v _) (.cons (.ro _) .nil)) A A) (dvN (l_bs1 sl65 zt68 A (.ag _) A A A (by decide) (by decide)) (dvG (le_share 1 (els := ([] : List MTarget).map MTarget.ct) A (RoE.map rl_MTargetct _)) ?_))))))))
      obtain ⟨c9, hF⟩ := ckE hF
      refine dvN3 (l_app1R el65 A A A ((List.length_map _).trans (List.length_map _).symm) A A (by decide) (map_snoc MTarget.ctr ([] : List MTarget) (⟨a0.To, a0.L⟩ : MTarget)) (List.length_map _) (by simp) (by decide)) ?_
      refine dv1 (l_assign (.rf _ _ _ _)) (dvE ?_)
      cases hF
      refine q_join ?_
      exact (le_of [(0, some 0), (1, some 512)] A (.s (.cons (.rf _ _ _ _) (.rf A (by simp)) .nil) A) (.box A A (.s A) (.row A A A (clm kr_MTargetct _) .nil)))
    · refine w_condF A b8 ?_
      refine w_skip ?_
      cases hF
      refine q_join ?_
      refine St.le.trans (le_share 1 (els := ([] : List MTarget).map MTarget.ct) A (RoE.map rl_MTargetct _)) ?_
      exact (le_of [(0, some 0), (1, some 1)] A (.s (.s .nil A) A) (.box A A (.s A) (.row A A A (clm kr_MTargetct _) .nil)))
  replace hF := hG3
  obtain ⟨s11, hF, hG12⟩ := bindE hF
  refine w_seqJ ⟨[(3, .rf 0 0 ((s11.map MTarget.ct).length) 2)], [(0, some ⟨68, 2, s11.map MTarget.ctr⟩)], 1⟩ ?_ ?_
  · refine w_seq (w_region (by rfl) (dv1 (l_field fd45_0 A) (dv1 (l_load ty3 A A A A A) (dv1 (l_bin A A b_eql) (dvE (q_seq ?_))))))
    rcases condE hF with ⟨b13, hF⟩ | ⟨b13, hF⟩
    · refine w_condT A b13 ?_
      refine w_region (by rfl) (dv1 (l_move (.rf _ _ _ _)) (dv1 (l_field fd45_3 A) (dv1 (l_load ty3 A A A A A) (dv1 (l_field fd45_5 A) (dv1 (l_load ty29 A A A A A) (dv1 (l_build st68 zt68 (.cons (.v _) (.cons (.ro _) .nil)) A A) (dvN (l_bs1 sl65 zt68 A (.ag _) A A A (by decide) (by decide)) ?_)))))))
      obtain ⟨c14, hF⟩ := ckE hF
      refine dvN3 (l_app1R el65 A A A ((List.length_map _).trans (List.length_map _).symm) A A (by decide) (map_snoc MTarget.ctr _ (⟨a0.Else, a0.M⟩ : MTarget)) (List.length_map _) (by simpa using c14) (by decide)) ?_
      refine dv1 (l_assign (.rf _ _ _ _)) (dvE ?_)
      cases hF
      refine q_join ?_
      exact (le_of [(0, some 704)] A (.cons (.rf _ _ _ _) (.rf A (by simp)) .nil) (.row A A A (clm kr_MTargetct _) .nil))
    · refine w_condF A b13 ?_
      refine w_skip ?_
      cases hF
      refine q_join ?_
      exact (le_of [(0, some 1)] A (.s .nil A) (.row A A A (clm kr_MTargetct _) .nil))
  replace hF := hG12
  refine w_seq (w_region (by rfl) (dv1 (l_move (.rf _ _ _ _)) (dv1 (l_assign (.rf _ _ _ _)) (dvE (q_seq (W.le (le_freezeR 0 (Wk.sl (WkE.map wr_MTargetct _)) [(3, .ro (.sl 68 2 (s11.map MTarget.ct))), (32, .ro (.sl 68 2 (s11.map MTarget.ct))), (2, .ro (.sl 68 2 (s11.map MTarget.ct)))] [] A (clm kr_MTargetct _) (.rf A (((List.length_map _).trans (List.length_map _).symm)).symm (.rf A (((List.length_map _).trans (List.length_map _).symm)).symm (.rf A (((List.length_map _).trans (List.length_map _).symm)).symm .nil))) .nil) ?_))))))
  refine w_ret ?_
  cases hF
  refine q_end (.inr A) ?_
  exact ret_ok A (.cons (.tmp (.ro _) (.ro _)) .nil) (by decide) A

def p_R13_At (a0 : MFun) (a1 : Int) (a2 : Int) : Option ((List Int)) :=
((atI a0.Blocks a1).bind fun x1 =>
(bif decide (a2 < ((x1.Ops.length : Nat) : Int)) then
((atI x1.Ops a2).bind fun x4 =>
((p_R04_Uses x4).bind fun y6 =>
some y6))
else
(((((bif decide (x1.End.K = 1) then
some true
else
(bif decide (x1.End.K = 3) then
some true
else
(bif decide (x1.End.K = 2) then
some (!(decide (a0.Ret = (-1))))
else
some false)))).bind fun (s12 : Bool) =>
(bif s12 then
(ck ((([] : List Int).length + 1) * 8 ≤ 140737488355328)
(some (([] : List Int) ++ [x1.End.A])))
else
some ([] : List Int)))).bind fun (s9 : (List Int)) =>
((p_R07_Targets x1.End).bind fun y19 =>
(((loop (fun (s3024 : (List Int) × Nat) =>
(bif decide (s3024.2 < y19.length) then
((y19[s3024.2]?).bind fun x3030 =>
(ck (((s3024.1 ++ x3030.L)).length * 8 ≤ 140737488355328)
(some (Xt.go ((s3024.1 ++ x3030.L), (s3024.2 + 1))))))
else
some (Xt.out s3024.1))) Fu (s9, 0))).bind fun (s22 : (List Int)) =>
some s22)))))

theorem p_R13_At_ok {r : (List Int)} : rOk (.sl 3 1 (r.map iC)) = true ∧ FrT (.sl 3 1 (r.map iC)) := ⟨rfl, (.one (.cl (.sl _ _ (clm k_iC _))))⟩

set_option maxRecDepth 10000 in
set_option maxHeartbeats 4000000 in
theorem p_R13_At_ac {a0 : MFun} {a1 : Int} {a2 : Int} {r : (List Int)} (hF : p_R13_At a0 a1 a2 = some r) : AC Tryd.prog GT 23 [.ag (MFun.ct a0), .v (.int .i64 a1), .v (.int .i64 a2)] (fun c => c = .sl 3 1 (r.map iC)) := by
  unfold p_R13_At at hF
  refine AC.mk (nt := 70) Tryd.func23 A A A fun w N => ?_
  refine w_seq (w_region (by rfl) (dvN (l_box (.ag _) A A) (dv1 (l_assign (.v _)) (dvE (q_seq (w_seq (w_region (by rfl) (dv1 (l_field fd33_1 A) ?_))))))))
  refine dv1 (l_load ty31 A A A A A) (dv1 (l_move (.v _)) ?_)
  obtain ⟨x1, h2, hF⟩ := bindE hF
  refine dv1 (l_indexRo a1.toNat sl31 A A (atI_z h2) (map_at (atI_at h2))) (dv1 (l_loadARo ty47 A A) (dvN (l_alloc zt47) (dvS (l_store ty47 A (.ag _) A A A (Nat.le_of_ble_eq_true A) A) (dvE (q_seq (w_seq (w_seq (w_region (by rfl) ?_))))))))
  refine dv1 (l_move (.v _)) (dv1 (l_field fd47_1 A) (dv1 (l_load ty43 A A A A A) (dv1 (l_lenRo sl43 A A (List.length_map _)) (dv1 (l_bin A A b_lss) (dvE (q_seq ?_))))))
  rcases condE hF with ⟨b3, hF⟩ | ⟨b3, hF⟩
  · refine w_condT A b3 ?_
    refine w_seq (w_region (by rfl) (dv1 (l_field fd47_1 A) (dv1 (l_load ty43 A A A A A) (dv1 (l_move (.v _)) ?_))))
    obtain ⟨x4, h5, hF⟩ := bindE hF
    refine dv1 (l_indexRo a2.toNat sl43 A A (atI_z h5) (map_at (atI_at h5))) (dv1 (l_loadARo ty49 A A) ?_)
    obtain ⟨y6, h7, hF⟩ := bindE hF
    refine dvC (l_call (B := false) (FnI.mk' (by kernel_rfl)) (.cons (.ag _) (.ag (.cons (.v _) (.cons (.v _) (.cons (.v _) (.cons (.v _) (.cons (.v _) (.cons (.v _) (.cons (.ro _) (.cons (.v _) .nil))))))))) .nil) (p_R04_Uses_ac h7) (okF p_R04_Uses_ok)) ?_
    rintro _ rfl
    refine dv1 (l_assign (.rf _ _ _ _)) (dvE (q_seq (w_ret (q_reS ?_))))
    cases hF
    refine q_end (.inr A) ?_
    exact ret_ok A (.cons (.tmp (.rf _ _ _ _) (.rf A A (clm k_iC _))) .nil) (by decide) A
  · refine w_condF A b3 ?_
    refine w_skip (q_seq (w_seq (w_draw [[], [], [1], [], [0, 3], [0, 1, 2, 3, 4]] [0, 1, 2, 3, 4, 5] (by kernel_rfl) (by rfl) ⟨by decide, by rfl⟩ (by rfl) ?_)))
    refine deN A (l_bs0 sl29 zt3 A (by decide)) A (de1 A (l_field fd47_2 A) A (de1 A (l_loadA ty45 A A A A A) A (deN A (l_alloc zt45) A (de1 A (l_assign (.rf _ _ _ _)) A (deS A (l_store ty45 A (.ag _) A A A (Nat.le_of_ble_eq_true A) A) A (ddE (q_seq ?_)))))))
    obtain ⟨s9, hF, hG10⟩ := bindE hF
    refine w_seqJ ⟨[(8, .rf 0 0 ((s9.map iC).length) 1), (9, .ad 1 6 0 0)], [(0, some ⟨3, 1, s9.map iC⟩), (1, some ⟨45, 6, [[.v (.int .i64 x1.End.K), .v (.int .i64 x1.End.A), .v (.int .i64 x1.End.To), .v (.int .i64 x1.End.Else), .ro (.sl 3 1 (x1.End.L.map iC)), .ro (.sl 3 1 (x1.End.M.map iC))]]⟩)], 1⟩ ?_ ?_
    · obtain ⟨s12, hF, hG13⟩ := bindE hF
      refine w_seqJ ⟨[(8, .rf 0 0 ((([] : List Int).map iC).length) 1), (9, .ad 1 6 0 0), (48, .v (.bool s12))], [(0, some ⟨3, 1, ([] : List Int).map iC⟩), (1, some ⟨45, 6, [[.v (.int .i64 x1.End.K), .v (.int .i64 x1.End.A), .v (.int .i64 x1.End.To), .v (.int .i64 x1.End.Else), .ro (.sl 3 1 (x1.End.L.map iC)), .ro (.sl 3 1 (x1.End.M.map iC))]]⟩)], 1⟩ ?_ ?_
      · refine w_region (by rfl) (dv1 (l_field fd45_0 A) (dv1 (l_load ty3 A A A A A) (dv1 (l_bin A A b_eql) (dv1 (l_move (.v _)) ?_))))
        rcases condE hF with ⟨b14, hF⟩ | ⟨b14, hF⟩
        · refine dv1 (l_gF A A (gt A b14) A) (dv1 (l_gF A A (gt A b14) A) (dv1 (l_gF A A (gt A b14) A) (dv1 (l_pickT (gt A b14) (.v _)) (dv1 (l_move (.v _)) (dv1 (l_gF A A A A) (dv1 (l_gF A A A A) (dv1 (l_gF A A A A) (dv1 (l_gF A A A A) ?_))))))))
          refine dv1 (l_gU A A A) (dv1 (l_gU A A A) (dv1 (l_gU A A A) (dv1 (l_gF A A A A) (dv1 (l_pickT A (.v _)) (dvE ?_)))))
          cases hF
          refine q_join ?_
          exact (le_of [(0, some 896), (1, some 1088)] A (.s (.s (.s .nil A) A) A) (.row A A A (clm k_iC _) (.box A A (.s A) .nil)))
        · refine dv1 (l_gT A A (gt A b14) fun _ => l_field fd45_0 A) (dv1 (l_gT A A (gt A b14) fun _ => l_load ty3 A A A A A) (dv1 (l_gT A A (gt A b14) fun _ => l_bin A A b_eql) (dv1 (l_pickF (gt A b14) (.v _)) (dv1 (l_move (.v _)) ?_))))
          rcases condE hF with ⟨b15, hF⟩ | ⟨b15, hF⟩
          · refine dv1 (l_gF A A (gt A b15) A) (dv1 (l_gF A A (gt A b15) A) (dv1 (l_gF A A (gt A b15) A) (dv1 (l_gF A A (gt A b15) A) (dv1 (l_gU A A A) (dv1 (l_gU A A A) (dv1 (l_gU A A A) (dv1 (l_gF A A (gt A b15) A) (dv1 (l_pickT (gt A b15) (.v _)) ?_))))))))
            refine dvE ?_
            cases hF
            refine q_join ?_
            exact (le_of [(0, some 896), (1, some 1088)] A (.s (.s (.s .nil A) A) A) (.row A A A (clm k_iC _) (.box A A (.s A) .nil)))
          · refine dv1 (l_gT A A (gt A b15) fun _ => l_field fd45_0 A) (dv1 (l_gT A A (gt A b15) fun _ => l_load ty3 A A A A A) (dv1 (l_gT A A (gt A b15) fun _ => l_bin A A b_eql) (dv1 (l_gT A A (gt A b15) fun _ => l_move (.v _)) ?_)))
            rcases condE hF with ⟨b16, hF⟩ | ⟨b16, hF⟩
            · refine dv1 (l_gT A A (gt A b16) fun _ => l_field fd33_0 A) (dv1 (l_gT A A (gt A b16) fun _ => l_load ty3 A A A A A) (dv1 (l_gT A A (gt A b16) fun _ => l_bin A A b_neq) (dv1 (l_gT A A (gt A b15) fun _ => l_pickT (gt A b16) (.v _)) (dv1 (l_pickF (gt A b15) (.v _)) (dvE ?_)))))
              cases hF
              refine q_join ?_
              exact (le_of [(0, some 896), (1, some 1088)] A (.s (.s (.s .nil A) A) A) (.row A A A (clm k_iC _) (.box A A (.s A) .nil)))
            · refine dv1 (l_gF A A (gt A b16) A) (dv1 (l_gF A A (gt A b16) A) (dv1 (l_gF A A (gt A b16) A) (dv1 (l_gT A A (gt A b15) fun _ => l_pickF (gt A b16) (.v _)) (dv1 (l_pickF (gt A b15) (.v _)) (dvE ?_)))))
              cases hF
              refine q_join ?_
              exact (le_of [(0, some 896), (1, some 1088)] A (.s (.s (.s .nil A) A) A) (.row A A A (clm k_iC _) (.box A A (.s A) .nil)))
      replace hF := hG13
      rcases condE hF with ⟨b17, hF⟩ | ⟨b17, hF⟩
      · refine w_condT A b17 ?_
        refine w_region (by rfl) (dv1 (l_move (.rf _ _ _ _)) (dv1 (l_field fd45_1 A) (dv1 (l_load ty3 A A A A A) (dvN (l_bs1 sl29 zt3 A (.v _) A A A (by decide) (by decide)) ?_))))
        obtain ⟨c18, hF⟩ := ckE hF
        refine dvN3 (l_app1R el29 A A A A A A (by decide) (map_snoc iC ([] : List Int) x1.End.A) (List.length_map _) (by simp) (by decide)) ?_
        refine dv1 (l_assign (.rf _ _ _ _)) (dvE ?_)
        cases hF
        refine q_join ?_
        exact (le_of [(0, some 320), (1, some 1)] A (.cons (.rf _ _ _ _) (.rf A (by simp)) (.s .nil A)) (.row A A A (clm k_iC _) (.box A A (.s A) .nil)))
      · refine w_condF A b17 ?_
        refine w_skip ?_
        cases hF
        refine q_join ?_
        exact (le_of [(0, some 0), (1, some 1)] A (.s (.s .nil A) A) (.row A A A (clm k_iC _) (.box A A (.s A) .nil)))
    replace hF := hG10
    refine w_seq (w_region (by rfl) (dv1 (l_loadA ty45 A A A A A) ?_))
    obtain ⟨y19, h20, hF⟩ := bindE hF
    refine dvC (l_call (B := false) (FnI.mk' (by kernel_rfl)) (.cons (.ag _) (.ag (.cons (.v _) (.cons (.v _) (.cons (.v _) (.cons (.v _) (.cons (.ro _) (.cons (.ro _) .nil))))))) .nil) (p_R07_Targets_ac h20) (okF p_R07_Targets_ok)) ?_
    rintro _ rfl
    refine dv1 (l_assign (.ro _)) (dvE (q_seq ?_))
    obtain ⟨s22, hF, hG23⟩ := bindE hF
    refine w_seqJ ⟨[(8, .rf 0 0 ((s22.map iC).length) 1)], [(0, some ⟨3, 1, s22.map iC⟩)], 1⟩ ?_ ?_
    · refine w_seq (w_region (by rfl) (dv1 (l_assign (.v _)) (dvE (q_seq (w_block (w_loopF hF (fun (s3024 : (List Int) × Nat) => ⟨[(8, .rf 0 0 ((s3024.1.map iC).length) 1), (10, .ro (.sl 68 2 (y19.map MTarget.ct))), (11, .v (.int .i64 ((s3024.2 : Nat) : Int)))], [(0, some ⟨3, 1, s3024.1.map iC⟩)], 1⟩) (le_of [(0, some 0)] A (.s (.s (.s .nil A) A) A) (.row A A A (clm k_iC _) .nil)) ?_))))))
      intro s3024 y3025 hF hx3026
      refine w_seq (w_seq (w_region (by rfl) (dv1 (l_move (.v _)) (dv1 (l_move (.ro _)) (dv1 (l_lenRo sl65 A A (List.length_map _)) (dv1 (l_bin A A b_lssN) (dvE (q_seq ?_))))))))
      rcases condE hF with ⟨b3028, hF⟩ | ⟨b3028, hF⟩
      · refine w_lenS 10 A fun l3029 => ?_
        refine w_condT A b3028 ?_
        refine w_skip (q_seq (w_seq (w_block (w_region (by rfl) (dv1 (l_move (.rf _ _ _ _)) (dv1 (l_move (.ro _)) (dv1 (l_move (.v _)) ?_)))))))
        obtain ⟨x3030, h3031, hF⟩ := bindE hF
        refine dv1 (l_indexRo s3024.2 sl65 A A A (map_at h3031)) (dv1 (l_fieldRo fd68_1 A) (dv1 (l_loadRo ty29 A A) ?_))
        obtain ⟨c3032, hF⟩ := ckE hF
        refine dvN2 (l_appOR el29 A A A A A (ro_map (fun _ => A) _) (map_app iC _ _) (by simpa using c3032) (by decide)) ?_
        refine dv1 (l_assign (.rf _ _ _ _)) (dvE (q_in (q_seq (w_region (by rfl) (dv1 (l_move (.v _)) (dv1 (l_bin A A (b_incN (of_decide_eq_true b3028) l3029)) (dv1 (l_assign (.v _)) (dvE ?_))))))))
        cases hF
        refine qL A ?_
        exact (le_of [(0, some 704)] A (.s (.s (.s .nil A) A) A) (.row A A A (clm k_iC _) .nil))
      · refine w_condF A b3028 ?_
        refine w_exit ?_
        cases hF
        cases hx3026 _ rfl
        refine q_exS (q_exS (q_here (q_join ?_)))
        exact (le_of [(0, some 0)] A (.s .nil A) (.row A A A (clm k_iC _) .nil))
    replace hF := hG23
    refine w_seq (w_region (by rfl) (dv1 (l_move (.rf _ _ _ _)) (dv1 (l_assign (.rf _ _ _ _)) (dvE (q_seq (w_ret ?_))))))
    cases hF
    refine q_end (.inr A) ?_
    exact ret_ok A (.cons (.tmp (.rf _ _ _ _) (.rf A A (clm k_iC _))) .nil) (by decide) A

def p_R13_Count (a0 : MFun) (a1 : Int) : Option Int :=
(((loop (fun (s3004 : Int × Nat) =>
(bif decide (s3004.2 < a0.Blocks.length) then
(((loop (fun (s6013 : Int × Int) =>
((a0.Blocks[s3004.2]?).bind fun x6017 =>
(bif decide (s6013.2 ≤ ((x6017.Ops.length : Nat) : Int)) then
((((p_R13_At a0 ((s3004.2 : Nat) : Int) s6013.2).bind fun y6023 =>
(loop (fun (s9025 : Int × Nat) =>
(bif decide (s9025.2 < y6023.length) then
((((y6023[s9025.2]?).bind fun x9034 =>
(bif decide (x9034 = a1) then
some (IntKind.i64.wrap (s9025.1 + 1))
else
some s9025.1))).bind fun (s9032 : Int) =>
some (Xt.go (s9032, (s9025.2 + 1))))
else
some (Xt.out s9025.1))) Fu (s6013.1, 0)))).bind fun (s6021 : Int) =>
some (Xt.go (s6021, IntKind.i64.wrap (s6013.2 + 1))))
else
some (Xt.out s6013.1)))) Fu (s3004.1, 0))).bind fun (s3011 : Int) =>
some (Xt.go (s3011, (s3004.2 + 1))))
else
some (Xt.out s3004.1))) Fu (0, 0))).bind fun (s2 : Int) =>
some s2)

theorem p_R13_Count_ok {r : Int} : rOk (.v (.int .i64 r)) = true ∧ FrT (.v (.int .i64 r)) := ⟨rfl, (.one (.cl (.v _)))⟩

set_option maxRecDepth 10000 in
set_option maxHeartbeats 4000000 in
theorem p_R13_Count_ac {a0 : MFun} {a1 : Int} {r : Int} (hF : p_R13_Count a0 a1 = some r) : AC Tryd.prog GT 15 [.ag (MFun.ct a0), .v (.int .i64 a1)] (fun c => c = .v (.int .i64 r)) := by
  unfold p_R13_Count at hF
  refine AC.mk (nt := 47) Tryd.func15 A A A fun w N => ?_
  refine w_seq (w_region (by rfl) (dvN (l_box (.ag _) A A) (dv1 (l_assign (.v _)) (dvE (q_seq (w_seq (w_region (by rfl) (dv1 (l_assign (.v _)) ?_))))))))
  refine dvE (q_seq ?_)
  obtain ⟨s2, hF, hG3⟩ := bindE hF
  refine w_seqJ ⟨[(5, .v (.int .i64 s2))], [], 1⟩ ?_ ?_
  · refine w_seq (w_region (by rfl) (dv1 (l_assign (.v _)) (dvE (q_seq (w_block (w_loopF hF (fun (s3004 : Int × Nat) => ⟨[(1, .v (.int .i64 a1)), (2, .ad 0 2 0 0), (5, .v (.int .i64 s3004.1)), (6, .v (.int .i64 ((s3004.2 : Nat) : Int)))], [(0, some ⟨33, 2, [[.v (.int .i64 a0.Ret), .ro (.sl 47 8 (a0.Blocks.map MBlk.ct))]]⟩)], 1⟩) (le_of [(0, some 0)] A (.s (.s (.s (.s .nil A) A) A) A) (.box A A (.s A) .nil)) ?_))))))
    intro s3004 y3005 hF hx3006
    refine w_seq (w_seq (w_region (by rfl) (dv1 (l_move (.v _)) (dv1 (l_field fd33_1 A) (dv1 (l_load ty31 A A A A A) (dv1 (l_lenRo sl31 A A (List.length_map _)) (dv1 (l_bin A A b_lssN) (dvE ?_))))))))
    refine q_seq ?_
    rcases condE hF with ⟨b3008, hF⟩ | ⟨b3008, hF⟩
    · refine w_lenS 12 A fun l3009 => ?_
      refine w_condT A b3008 ?_
      refine w_skip (q_seq ?_)
      obtain ⟨s3011, hF, hG3012⟩ := bindE hF
      refine w_seqJ ⟨[(1, .v (.int .i64 a1)), (2, .ad 0 2 0 0), (5, .v (.int .i64 s3011)), (6, .v (.int .i64 ((s3004.2 : Nat) : Int)))], [(0, some ⟨33, 2, [[.v (.int .i64 a0.Ret), .ro (.sl 47 8 (a0.Blocks.map MBlk.ct))]]⟩)], 1⟩ ?_ ?_
      · refine w_block (w_seq (w_region (by rfl) (dv1 (l_assign (.v _)) (dvE (q_seq (w_block (w_loopF hF (fun (s6013 : Int × Int) => ⟨[(1, .v (.int .i64 a1)), (2, .ad 0 2 0 0), (5, .v (.int .i64 s6013.1)), (6, .v (.int .i64 ((s3004.2 : Nat) : Int))), (7, .v (.int .i64 s6013.2))], [(0, some ⟨33, 2, [[.v (.int .i64 a0.Ret), .ro (.sl 47 8 (a0.Blocks.map MBlk.ct))]]⟩)], 1⟩) (le_of [(0, some 0)] A (.s (.s (.s (.s (.s .nil A) A) A) A) A) (.box A A (.s A) .nil)) ?_)))))))
        intro s6013 y6014 hF hx6015
        refine w_seq (w_seq (w_region (by rfl) (dv1 (l_move (.v _)) (dv1 (l_field fd33_1 A) (dv1 (l_load ty31 A A A A A) (dv1 (l_move (.v _)) ?_))))))
        obtain ⟨x6017, h6018, hF⟩ := bindE hF
        refine dv1 (l_indexRo s3004.2 sl31 A A A (map_at h6018)) (dv1 (l_fieldRo fd47_1 A) (dv1 (l_loadRo ty43 A A) (dv1 (l_lenRo sl43 A A (List.length_map _)) (dv1 (l_bin A A b_leq) (dvE (q_seq ?_))))))
        rcases condE hF with ⟨b6019, hF⟩ | ⟨b6019, hF⟩
        · refine w_condT A b6019 ?_
          refine w_skip (q_seq ?_)
          obtain ⟨s6021, hF, hG6022⟩ := bindE hF
          refine w_seqJ ⟨[(1, .v (.int .i64 a1)), (2, .ad 0 2 0 0), (5, .v (.int .i64 s6021)), (6, .v (.int .i64 ((s3004.2 : Nat) : Int))), (7, .v (.int .i64 s6013.2))], [(0, some ⟨33, 2, [[.v (.int .i64 a0.Ret), .ro (.sl 47 8 (a0.Blocks.map MBlk.ct))]]⟩)], 1⟩ ?_ ?_
          · refine w_block (w_seq (w_region (by rfl) (dv1 (l_loadA ty33 A A A A A) (dv1 (l_move (.v _)) (dv1 (l_move (.v _)) ?_)))))
            obtain ⟨y6023, h6024, hF⟩ := bindE hF
            refine dvC (l_call (B := false) (FnI.mk' (by kernel_rfl)) (.cons (.ag _) (.ag (.cons (.v _) (.cons (.ro _) .nil))) (.cons (.v _) (.one (.v _)) (.cons (.v _) (.one (.v _)) .nil))) (p_R13_At_ac h6024) (okF p_R13_At_ok)) ?_
            rintro _ rfl
            refine dv1 (l_assign (.rf _ _ _ _)) (dvE (q_seq (w_seq (w_region (by rfl) (dv1 (l_assign (.v _)) (dvE (q_seq (w_block ?_))))))))
            refine w_loopF hF (fun (s9025 : Int × Nat) => ⟨[(1, .v (.int .i64 a1)), (2, .ad 0 2 0 0), (5, .v (.int .i64 s9025.1)), (6, .v (.int .i64 ((s3004.2 : Nat) : Int))), (7, .v (.int .i64 s6013.2)), (8, .rf 1 0 ((y6023.map iC).length) 1), (9, .v (.int .i64 ((s9025.2 : Nat) : Int)))], [(0, some ⟨33, 2, [[.v (.int .i64 a0.Ret), .ro (.sl 47 8 (a0.Blocks.map MBlk.ct))]]⟩), (1, some ⟨3, 1, y6023.map iC⟩)], 1⟩) (le_of [(0, some 0), (1, some 832)] A (.s (.s (.s (.s (.s (.s (.s .nil A) A) A) A) A) A) A) (.box A A (.s A) (.row A A A (clm k_iC _) .nil))) ?_
            intro s9025 y9026 hF hx9027
            refine w_seq (w_seq (w_region (by rfl) (dv1 (l_move (.v _)) (dv1 (l_move (.rf _ _ _ _)) (dv1 (l_lenR sl29 A A (List.length_map _)) (dv1 (l_bin A A b_lssN) (dvE (q_seq ?_))))))))
            rcases condE hF with ⟨b9029, hF⟩ | ⟨b9029, hF⟩
            · refine w_lenK 1 A fun l9030 => ?_
              refine w_condT A b9029 ?_
              refine w_skip (q_seq ?_)
              obtain ⟨s9032, hF, hG9033⟩ := bindE hF
              refine w_seqJ ⟨[(1, .v (.int .i64 a1)), (2, .ad 0 2 0 0), (5, .v (.int .i64 s9032)), (6, .v (.int .i64 ((s3004.2 : Nat) : Int))), (7, .v (.int .i64 s6013.2)), (8, .rf 1 0 ((y6023.map iC).length) 1), (9, .v (.int .i64 ((s9025.2 : Nat) : Int)))], [(0, some ⟨33, 2, [[.v (.int .i64 a0.Ret), .ro (.sl 47 8 (a0.Blocks.map MBlk.ct))]]⟩), (1, some ⟨3, 1, y6023.map iC⟩)], 1⟩ ?_ ?_
              · refine w_block (w_seq (w_region (by rfl) (dv1 (l_move (.rf _ _ _ _)) (dv1 (l_move (.v _)) ?_))))
                obtain ⟨x9034, h9035, hF⟩ := bindE hF
                refine dv1 (l_index s9025.2 sl29 A A A (lt_at iC h9035)) (dv1 (l_load ty3 A A (map_at h9035) A A) (dv1 (l_move (.v _)) (dv1 (l_bin A A b_eql) (dvE (q_seq ?_)))))
                rcases condE hF with ⟨b9036, hF⟩ | ⟨b9036, hF⟩
                · refine w_condT A b9036 ?_
                  refine w_region (by rfl) (dv1 (l_move (.v _)) (dv1 (l_bin A A (b_add A)) (dv1 (l_assign (.v _)) (dvE ?_))))
                  cases hF
                  refine q_in (q_join ?_)
                  exact (le_of [(0, some 0), (1, some 1)] A (.s (.s (.s (.s (.s (.s (.s .nil A) A) A) A) A) A) A) (.box A A (.s A) (.row A A A (clm k_iC _) .nil)))
                · refine w_condF A b9036 ?_
                  refine w_skip ?_
                  cases hF
                  refine q_in (q_join ?_)
                  exact (le_of [(0, some 0), (1, some 1)] A (.s (.s (.s (.s (.s (.s (.s .nil A) A) A) A) A) A) A) (.box A A (.s A) (.row A A A (clm k_iC _) .nil)))
              replace hF := hG9033
              refine w_region (by rfl) (dv1 (l_move (.v _)) (dv1 (l_bin A A (b_incN (of_decide_eq_true b9029) l9030)) (dv1 (l_assign (.v _)) (dvE ?_))))
              cases hF
              refine qL A ?_
              exact (le_of [(0, some 0), (1, some 1)] A (.s (.s (.s (.s (.s (.s (.s .nil A) A) A) A) A) A) A) (.box A A (.s A) (.row A A A (clm k_iC _) .nil)))
            · refine w_condF A b9029 ?_
              refine w_exit ?_
              cases hF
              cases hx9027 _ rfl
              refine q_exS (q_exS (q_here (q_in (q_join ?_))))
              exact (le_of [(0, some 0)] A (.s (.s (.s (.s (.s .nil A) A) A) A) A) (.box A A (.s A) .nil))
          replace hF := hG6022
          refine w_region (by rfl) (dv1 (l_move (.v _)) (dv1 (l_bin A A (b_add A)) (dv1 (l_assign (.v _)) (dvE ?_))))
          cases hF
          refine qL A ?_
          exact (le_of [(0, some 0)] A (.s (.s (.s (.s (.s .nil A) A) A) A) A) (.box A A (.s A) .nil))
        · refine w_condF A b6019 ?_
          refine w_exit ?_
          cases hF
          cases hx6015 _ rfl
          refine q_exS (q_exS (q_here (q_in (q_join ?_))))
          exact (le_of [(0, some 0)] A (.s (.s (.s (.s .nil A) A) A) A) (.box A A (.s A) .nil))
      replace hF := hG3012
      refine w_region (by rfl) (dv1 (l_move (.v _)) (dv1 (l_bin A A (b_incN (of_decide_eq_true b3008) l3009)) (dv1 (l_assign (.v _)) (dvE ?_))))
      cases hF
      refine qL A ?_
      exact (le_of [(0, some 0)] A (.s (.s (.s (.s .nil A) A) A) A) (.box A A (.s A) .nil))
    · refine w_condF A b3008 ?_
      refine w_exit ?_
      cases hF
      cases hx3006 _ rfl
      refine q_exS (q_exS (q_here (q_join ?_)))
      exact (le_of [] A (.s .nil A) .nil)
  replace hF := hG3
  refine w_seq (w_region (by rfl) (dv1 (l_move (.v _)) (dv1 (l_assign (.v _)) (dvE (q_seq (w_ret ?_))))))
  cases hF
  refine q_end (.inr A) ?_
  exact ret_ok A (.cons (.tmp (.v _) (.v _)) .nil) (by decide) A

def p_R17_Idle (a0 : MFun) : Option ((List Int)) :=
(((loop (fun (s3004 : (List Int) × Nat) =>
(bif decide (s3004.2 < a0.Blocks.length) then
((((a0.Blocks[s3004.2]?).bind fun x3013 =>
((p_R05_First a0 ((s3004.2 : Nat) : Int)).bind fun y3015 =>
(loop (fun (s6017 : (List Int) × Nat) =>
(bif decide (s6017.2 < x3013.Ops.length) then
((((((x3013.Ops[s6017.2]?).bind fun x6029 =>
((p_R17_Seen x6029).bind fun y6031 =>
(bif y6031 then
some false
else
((p_R13_Count a0 (IntKind.i64.wrap (IntKind.i64.wrap (y3015 + ((x3013.Params.length : Nat) : Int)) + ((s6017.2 : Nat) : Int)))).bind fun y6034 =>
some (decide (y6034 = 0))))))).bind fun (s6027 : Bool) =>
(bif s6027 then
(ck ((s6017.1.length + 1) * 8 ≤ 140737488355328)
(some (s6017.1 ++ [IntKind.i64.wrap (IntKind.i64.wrap (y3015 + ((x3013.Params.length : Nat) : Int)) + ((s6017.2 : Nat) : Int))])))
else
some s6017.1))).bind fun (s6024 : (List Int)) =>
some (Xt.go (s6024, (s6017.2 + 1))))
else
some (Xt.out s6017.1))) Fu (s3004.1, 0))))).bind fun (s3011 : (List Int)) =>
some (Xt.go (s3011, (s3004.2 + 1))))
else
some (Xt.out s3004.1))) Fu (([] : List Int), 0))).bind fun (s2 : (List Int)) =>
some s2)

theorem p_R17_Idle_ok {r : (List Int)} : rOk (.sl 3 1 (r.map iC)) = true ∧ FrT (.sl 3 1 (r.map iC)) := ⟨rfl, (.one (.cl (.sl _ _ (clm k_iC _))))⟩

set_option maxRecDepth 10000 in
set_option maxHeartbeats 4000000 in
theorem p_R17_Idle_ac {a0 : MFun} {r : (List Int)} (hF : p_R17_Idle a0 = some r) : AC Tryd.prog GT 8 [.ag (MFun.ct a0)] (fun c => c = .sl 3 1 (r.map iC)) := by
  unfold p_R17_Idle at hF
  refine AC.mk (nt := 63) Tryd.func8 A A A fun w N => ?_
  refine w_seq (w_region (by rfl) (dvN (l_box (.ag _) A A) (dv1 (l_assign (.v _)) (dvE (q_seq (w_seq (w_region (by rfl) (dvN (l_bs0 sl29 zt3 A (by decide)) ?_))))))))
  refine dv1 (l_assign (.rf _ _ _ _)) (dvE (q_seq ?_))
  obtain ⟨s2, hF, hG3⟩ := bindE hF
  refine w_seqJ ⟨[(3, .rf 0 0 ((s2.map iC).length) 1)], [(0, some ⟨3, 1, s2.map iC⟩)], 1⟩ ?_ ?_
  · refine w_seq (w_region (by rfl) (dv1 (l_assign (.v _)) (dvE (q_seq (w_block (w_loopF hF (fun (s3004 : (List Int) × Nat) => ⟨[(1, .ad 0 2 0 0), (3, .rf 1 0 ((s3004.1.map iC).length) 1), (4, .v (.int .i64 ((s3004.2 : Nat) : Int)))], [(0, some ⟨33, 2, [[.v (.int .i64 a0.Ret), .ro (.sl 47 8 (a0.Blocks.map MBlk.ct))]]⟩), (1, some ⟨3, 1, s3004.1.map iC⟩)], 1⟩) (le_of [(0, some 0), (1, some 128)] A (.s (.s (.s .nil A) A) A) (.box A A (.s A) (.row A A A (clm k_iC _) .nil))) ?_))))))
    intro s3004 y3005 hF hx3006
    refine w_seq (w_seq (w_region (by rfl) (dv1 (l_move (.v _)) (dv1 (l_field fd33_1 A) (dv1 (l_load ty31 A A A A A) (dv1 (l_lenRo sl31 A A (List.length_map _)) (dv1 (l_bin A A b_lssN) (dvE ?_))))))))
    refine q_seq ?_
    rcases condE hF with ⟨b3008, hF⟩ | ⟨b3008, hF⟩
    · refine w_lenS 10 A fun l3009 => ?_
      refine w_condT A b3008 ?_
      refine w_skip (q_seq ?_)
      obtain ⟨s3011, hF, hG3012⟩ := bindE hF
      refine w_seqJ ⟨[(1, .ad 0 2 0 0), (3, .rf 1 0 ((s3011.map iC).length) 1), (4, .v (.int .i64 ((s3004.2 : Nat) : Int)))], [(0, some ⟨33, 2, [[.v (.int .i64 a0.Ret), .ro (.sl 47 8 (a0.Blocks.map MBlk.ct))]]⟩), (1, some ⟨3, 1, s3011.map iC⟩)], 1⟩ ?_ ?_
      · refine w_block (w_seq (w_draw [[], [], [0, 1], [], [3], [], [3, 4, 5], [3, 4, 5, 6], [3, 4, 5, 6, 7], [3, 4, 5, 6, 7, 8], [0, 1, 2, 3, 4, 5, 6, 7, 8, 9], [0, 1, 2, 3, 4, 5, 6, 7, 8, 9, 10]] [0, 1, 3, 4, 5, 6, 7, 8, 9, 2, 10, 11] (by kernel_rfl) (by rfl) ⟨by decide, by rfl⟩ (by rfl) ?_))
        refine de1 A (l_loadA ty33 A A A A A) A (de1 A (l_move (.v _)) A (de1 A (l_field fd33_1 A) A (de1 A (l_load ty31 A A A A A) A (de1 A (l_move (.v _)) A ?_))))
        obtain ⟨x3013, h3014, hF⟩ := bindE hF
        refine de1 A (l_indexRo s3004.2 sl31 A A A (map_at h3014)) A (de1 A (l_fieldRo fd47_0 A) A (de1 A (l_loadRo ty29 A A) A (de1 A (l_lenRo sl29 A A (List.length_map _)) A ?_)))
        obtain ⟨y3015, h3016, hF⟩ := bindE hF
        refine deC1 A (l_call (B := false) (FnI.mk' (by kernel_rfl)) (.cons (.ag _) (.ag (.cons (.v _) (.cons (.ro _) .nil))) (.cons (.v _) (.one (.v _)) .nil)) (p_R05_First_ac h3016) (okF p_R05_First_ok)) A ?_
        refine de1 A (l_bin A A (b_add A)) A (de1 A (l_assign (.v _)) A (ddE (q_seq (w_seq (w_region (by rfl) (dv1 (l_assign (.v _)) (dvE (q_seq ?_))))))))
        refine w_block (w_loopF hF (fun (s6017 : (List Int) × Nat) => ⟨[(1, .ad 0 2 0 0), (3, .rf 1 0 ((s6017.1.map iC).length) 1), (4, .v (.int .i64 ((s3004.2 : Nat) : Int))), (5, .v (.int .i64 (IntKind.i64.wrap (y3015 + ((x3013.Params.length : Nat) : Int))))), (6, .v (.int .i64 ((s6017.2 : Nat) : Int)))], [(0, some ⟨33, 2, [[.v (.int .i64 a0.Ret), .ro (.sl 47 8 (a0.Blocks.map MBlk.ct))]]⟩), (1, some ⟨3, 1, s6017.1.map iC⟩)], 1⟩) (le_of [(0, some 0), (1, some 1)] A (.s (.s (.s (.s (.s .nil A) A) A) A) A) (.box A A (.s A) (.row A A A (clm k_iC _) .nil))) ?_)
        intro s6017 y6018 hF hx6019
        refine w_seq (w_seq (w_region (by rfl) (dv1 (l_move (.v _)) (dv1 (l_field fd33_1 A) (dv1 (l_load ty31 A A A A A) (dv1 (l_move (.v _)) (dv1 (l_indexRo s3004.2 sl31 A A A (map_at h3014)) (dv1 (l_fieldRo fd47_1 A) ?_))))))))
        refine dv1 (l_loadRo ty43 A A) (dv1 (l_lenRo sl43 A A (List.length_map _)) (dv1 (l_bin A A b_lssN) (dvE (q_seq ?_))))
        rcases condE hF with ⟨b6021, hF⟩ | ⟨b6021, hF⟩
        · refine w_lenS 32 A fun l6022 => ?_
          refine w_condT A b6021 ?_
          refine w_skip (q_seq ?_)
          obtain ⟨s6024, hF, hG6025⟩ := bindE hF
          refine w_seqJ ⟨[(1, .ad 0 2 0 0), (3, .rf 1 0 ((s6024.map iC).length) 1), (4, .v (.int .i64 ((s3004.2 : Nat) : Int))), (5, .v (.int .i64 (IntKind.i64.wrap (y3015 + ((x3013.Params.length : Nat) : Int))))), (6, .v (.int .i64 ((s6017.2 : Nat) : Int)))], [(0, some ⟨33, 2, [[.v (.int .i64 a0.Ret), .ro (.sl 47 8 (a0.Blocks.map MBlk.ct))]]⟩), (1, some ⟨3, 1, s6024.map iC⟩)], 1⟩ ?_ ?_
          · refine w_block ?_
            obtain ⟨s6027, hF, hG6028⟩ := bindE hF
            refine w_seqJ ⟨[(1, .ad 0 2 0 0), (3, .rf 1 0 ((s6017.1.map iC).length) 1), (4, .v (.int .i64 ((s3004.2 : Nat) : Int))), (5, .v (.int .i64 (IntKind.i64.wrap (y3015 + ((x3013.Params.length : Nat) : Int))))), (6, .v (.int .i64 ((s6017.2 : Nat) : Int))), (55, .v (.bool s6027))], [(0, some ⟨33, 2, [[.v (.int .i64 a0.Ret), .ro (.sl 47 8 (a0.Blocks.map MBlk.ct))]]⟩), (1, some ⟨3, 1, s6017.1.map iC⟩)], 1⟩ ?_ ?_
            · refine w_region (by rfl) (dv1 (l_field fd33_1 A) (dv1 (l_load ty31 A A A A A) (dv1 (l_move (.v _)) (dv1 (l_indexRo s3004.2 sl31 A A A (map_at h3014)) (dv1 (l_fieldRo fd47_1 A) (dv1 (l_loadRo ty43 A A) (dv1 (l_move (.v _)) ?_)))))))
              obtain ⟨x6029, h6030, hF⟩ := bindE hF
              refine dv1 (l_indexRo s6017.2 sl43 A A A (map_at h6030)) (dv1 (l_loadARo ty49 A A) ?_)
              obtain ⟨y6031, h6032, hF⟩ := bindE hF
              refine dvC (l_call (B := false) (FnI.mk' (by kernel_rfl)) (.cons (.ag _) (.ag (.cons (.v _) (.cons (.v _) (.cons (.v _) (.cons (.v _) (.cons (.v _) (.cons (.v _) (.cons (.ro _) (.cons (.v _) .nil))))))))) .nil) (p_R17_Seen_ac h6032) (okF p_R17_Seen_ok)) ?_
              rintro _ rfl
              refine dv1 (l_not A) (dv1 (l_move (.v _)) ?_)
              rcases condE hF with ⟨b6033, hF⟩ | ⟨b6033, hF⟩
              · refine dv1 (l_gF A A (gt A (nF b6033)) A) (dv1 (l_gF A A (gt A (nF b6033)) A) (dv1 (l_gF A A (gt A (nF b6033)) A) (dv1 (l_gF A A (gt A (nF b6033)) A) (dv1 (l_gF A A (gt A (nF b6033)) A) (dv1 (l_gF A A (gt A (nF b6033)) A) (dv1 (l_pickF (gt A (nF b6033)) (.v _)) (dvE ?_)))))))
                cases hF
                refine q_join ?_
                exact (le_of [(0, some 0), (1, some 1)] A (.s (.s (.s (.s (.s (.s .nil A) A) A) A) A) A) (.box A A (.s A) (.row A A A (clm k_iC _) .nil)))
              · refine dv1 (l_gT A A (gt A (nT b6033)) fun _ => l_loadA ty33 A A A A A) (dv1 (l_gT A A (gt A (nT b6033)) fun _ => l_move (.v _)) (dv1 (l_gT A A (gt A (nT b6033)) fun _ => l_move (.v _)) (dv1 (l_gT A A (gt A (nT b6033)) fun _ => l_bin A A (b_add A)) ?_)))
                obtain ⟨y6034, h6035, hF⟩ := bindE hF
                refine dvC (l_gTC A A (gt A (nT b6033)) fun _ => (l_call (B := false) (FnI.mk' (by kernel_rfl)) (.cons (.ag _) (.ag (.cons (.v _) (.cons (.ro _) .nil))) (.cons (.v _) (.one (.v _)) .nil)) (p_R13_Count_ac h6035) (okF p_R13_Count_ok))) ?_
                rintro _ rfl
                refine dv1 (l_gT A A (gt A (nT b6033)) fun _ => l_bin A A b_eql) (dv1 (l_pickT (gt A (nT b6033)) (.v _)) (dvE ?_))
                cases hF
                refine q_join ?_
                exact (le_of [(0, some 0), (1, some 1)] A (.s (.s (.s (.s (.s (.s .nil A) A) A) A) A) A) (.box A A (.s A) (.row A A A (clm k_iC _) .nil)))
            replace hF := hG6028
            rcases condE hF with ⟨b6036, hF⟩ | ⟨b6036, hF⟩
            · refine w_condT A b6036 ?_
              refine w_region (by rfl) (dv1 (l_move (.rf _ _ _ _)) (dv1 (l_move (.v _)) (dv1 (l_move (.v _)) (dv1 (l_bin A A (b_add A)) (dvN (l_bs1 sl29 zt3 A (.v _) A A A (by decide) (by decide)) ?_)))))
              obtain ⟨c6037, hF⟩ := ckE hF
              refine dvN3 (l_app1R el29 A A A A A A (by decide) (map_snoc iC _ (IntKind.i64.wrap (IntKind.i64.wrap (y3015 + ((x3013.Params.length : Nat) : Int)) + ((s6017.2 : Nat) : Int)))) (List.length_map _) (by simpa using c6037) (by decide)) ?_
              refine dv1 (l_assign (.rf _ _ _ _)) (dvE ?_)
              cases hF
              refine q_in (q_join ?_)
              exact (le_of [(0, some 0), (1, some 384)] A (.s (.cons (.rf _ _ _ _) (.rf A (by simp)) (.s (.s (.s .nil A) A) A)) A) (.box A A (.s A) (.row A A A (clm k_iC _) .nil)))
            · refine w_condF A b6036 ?_
              refine w_skip ?_
              cases hF
              refine q_in (q_join ?_)
              exact (le_of [(0, some 0), (1, some 1)] A (.s (.s (.s (.s (.s .nil A) A) A) A) A) (.box A A (.s A) (.row A A A (clm k_iC _) .nil)))
          replace hF := hG6025
          refine w_region (by rfl) (dv1 (l_move (.v _)) (dv1 (l_bin A A (b_incN (of_decide_eq_true b6021) l6022)) (dv1 (l_assign (.v _)) (dvE ?_))))
          cases hF
          refine qL A ?_
          exact (le_of [(0, some 0), (1, some 1)] A (.s (.s (.s (.s (.s .nil A) A) A) A) A) (.box A A (.s A) (.row A A A (clm k_iC _) .nil)))
        · refine w_condF A b6021 ?_
          refine w_exit ?_
          cases hF
          cases hx6019 _ rfl
          refine q_exS (q_exS (q_here (q_in (q_join ?_))))
          exact (le_of [(0, some 0), (1, some 1)] A (.s (.s (.s .nil A) A) A) (.box A A (.s A) (.row A A A (clm k_iC _) .nil)))
      replace hF := hG3012
      refine w_region (by rfl) (dv1 (l_move (.v _)) (dv1 (l_bin A A (b_incN (of_decide_eq_true b3008) l3009)) (dv1 (l_assign (.v _)) (dvE ?_))))
      cases hF
      refine qL A ?_
      exact (le_of [(0, some 0), (1, some 1)] A (.s (.s (.s .nil A) A) A) (.box A A (.s A) (.row A A A (clm k_iC _) .nil)))
    · refine w_condF A b3008 ?_
      refine w_exit ?_
      cases hF
      cases hx3006 _ rfl
      refine q_exS (q_exS (q_here (q_join ?_)))
      exact (le_of [(0, some 1)] A (.s .nil A) (.row A A A (clm k_iC _) .nil))
  replace hF := hG3
  refine w_seq (w_region (by rfl) (dv1 (l_move (.rf _ _ _ _)) (dv1 (l_assign (.rf _ _ _ _)) (dvE (q_seq (w_ret ?_))))))
  cases hF
  refine q_end (.inr A) ?_
  exact ret_ok A (.cons (.tmp (.rf _ _ _ _) (.rf A A (clm k_iC _))) .nil) (by decide) A

def p_R04_Ints (a0 : List Int) (a1 : List Int) : Option Bool :=
(bif decide (((a0.length : Nat) : Int) = ((a1.length : Nat) : Int)) then
(((loop (fun (s3004 : Nat) =>
(bif decide (s3004 < a0.length) then
((a0[s3004]?).bind fun x3010 =>
((a1[s3004]?).bind fun x3012 =>
(bif decide (x3010 = x3012) then
some (Xt.go (s3004 + 1))
else
some (Xt.out (Xt.out false)))))
else
some (Xt.out (Xt.go ())))) Fu 0)).bind fun s2 => s2.on (fun (s3015 : Unit) =>
some true)
(fun o3017 => some o3017))
else
some false)

theorem p_R04_Ints_ok {r : Bool} : rOk (.v (.bool r)) = true ∧ FrT (.v (.bool r)) := ⟨rfl, (.one (.cl (.v _)))⟩

set_option maxRecDepth 10000 in
set_option maxHeartbeats 4000000 in
theorem p_R04_Ints_ac {a0 : List Int} {a1 : List Int} {r : Bool} (hF : p_R04_Ints a0 a1 = some r) : AC Tryd.prog GT 7 [.sl 3 1 (a0.map iC), .sl 3 1 (a1.map iC)] (fun c => c = .v (.bool r)) := by
  unfold p_R04_Ints at hF
  refine AC.mk (nt := 26) Tryd.func7 A A A fun w N => ?_
  refine w_seq (w_region (by rfl) (dv1 (l_assign (.v _)) (dvE (q_seq (w_seq (w_seq (w_region (by rfl) (dv1 (l_move (.ro _)) ?_))))))))
  refine dv1 (l_lenRo sl29 A A (List.length_map _)) (dv1 (l_move (.ro _)) (dv1 (l_lenRo sl29 A A (List.length_map _)) (dv1 (l_bin A A b_neq) (dvE (q_seq ?_)))))
  rcases condE hF with ⟨b1, hF⟩ | ⟨b1, hF⟩
  · refine w_condF A (nF b1) ?_
    refine w_skip (q_seq ?_)
    obtain ⟨s2, hF, hG3⟩ := bindE hF
    refine w_seqE s2 (fun (s3015 : Unit) => ⟨[], [], 1⟩) ?_ (fun s3015 e3016 => ?_)
    · refine w_seq (w_region (by rfl) (dv1 (l_assign (.v _)) (dvE (q_seq (w_block (w_loopF hF (fun (s3004 : Nat) => ⟨[(0, .ro (.sl 3 1 (a0.map iC))), (1, .ro (.sl 3 1 (a1.map iC))), (5, .v (.int .i64 ((s3004 : Nat) : Int)))], [], 1⟩) (le_of [] A (.s (.s (.s .nil A) A) A) .nil) ?_))))))
      intro s3004 y3005 hF hx3006
      refine w_seq (w_seq (w_region (by rfl) (dv1 (l_move (.v _)) (dv1 (l_move (.ro _)) (dv1 (l_lenRo sl29 A A (List.length_map _)) (dv1 (l_bin A A b_lssN) (dvE (q_seq ?_))))))))
      rcases condE hF with ⟨b3008, hF⟩ | ⟨b3008, hF⟩
      · refine w_lenS 0 A fun l3009 => ?_
        refine w_condT A b3008 ?_
        refine w_skip (q_seq (w_seq (w_block (w_seq (w_draw [[], [], [0, 1], [0, 1, 2], [], [], [4, 5], [4, 5, 6], [0, 1, 2, 3, 4, 5, 6, 7]] [0, 1, 2, 3, 4, 5, 6, 7, 8] (by kernel_rfl) (by rfl) ⟨by decide, by rfl⟩ (by rfl) ?_)))))
        refine de1 A (l_move (.ro _)) A (de1 A (l_move (.v _)) A ?_)
        obtain ⟨x3010, h3011, hF⟩ := bindE hF
        refine de1 A (l_indexRo s3004 sl29 A A A (map_at h3011)) A (de1 A (l_loadRo ty3 A A) A (de1 A (l_move (.ro _)) A (de1 A (l_move (.v _)) A ?_)))
        obtain ⟨x3012, h3013, hF⟩ := bindE hF
        refine de1 A (l_indexRo s3004 sl29 A A A (map_at h3013)) A (de1 A (l_loadRo ty3 A A) A (de1 A (l_bin A A b_neq) A (ddE (q_seq ?_))))
        rcases condE hF with ⟨b3014, hF⟩ | ⟨b3014, hF⟩
        · refine w_condF A (nF b3014) ?_
          refine w_skip (q_in (q_seq (w_region (by rfl) (dv1 (l_move (.v _)) (dv1 (l_bin A A (b_incN (of_decide_eq_true b3008) l3009)) (dv1 (l_assign (.v _)) (dvE ?_)))))))
          cases hF
          refine qL A ?_
          exact (le_of [] A (.s (.s (.s .nil A) A) A) .nil)
        · refine w_condT A (nT b3014) ?_
          refine w_seq (w_region (by rfl) (dv1 (l_assign (.v _)) (dvE (q_seq (w_ret (q_reI (q_reS (q_reS ?_))))))))
          refine q_reI (q_reS ?_)
          cases hF
          cases hx3006 _ rfl
          have hF := onOut hG3
          cases hF
          refine q_end (.inr A) ?_
          exact ret_ok A (.cons (.tmp (.v _) (.v _)) .nil) (by decide) A
      · refine w_condF A b3008 ?_
        refine w_exit ?_
        cases hF
        cases hx3006 _ rfl
        refine q_exS (q_exS (q_here (qL A ?_)))
        exact (le_of [] A .nil .nil)
    subst e3016
    replace hF := onGo hG3
    refine w_seq (w_region (by rfl) (dv1 (l_assign (.v _)) (dvE (q_seq (w_ret ?_)))))
    cases hF
    refine q_end (.inr A) ?_
    exact ret_ok A (.cons (.tmp (.v _) (.v _)) .nil) (by decide) A
  · refine w_condT A (nT b1) ?_
    refine w_seq (w_region (by rfl) (dv1 (l_assign (.v _)) (dvE (q_seq (w_ret (q_reS ?_))))))
    cases hF
    refine q_end (.inr A) ?_
    exact ret_ok A (.cons (.tmp (.v _) (.v _)) .nil) (by decide) A

def p_clean_made (a0 : MFun) : Option Int :=
(((loop (fun (s3004 : Int × Nat) =>
(bif decide (s3004.2 < a0.Blocks.length) then
((((a0.Blocks[s3004.2]?).bind fun x3013 =>
(loop (fun (s6015 : Int × Nat) =>
(bif decide (s6015.2 < x3013.Ops.length) then
((((x3013.Ops[s6015.2]?).bind fun x6024 =>
(((bif decide (x6024.K = 9) then
some (!x6024.Stack)
else
(bif decide (x6024.K = 12) then
some (!x6024.Stack)
else
(bif decide (x6024.K = 17) then
some (!x6024.Stack)
else
some false)))).bind fun (s6027 : Bool) =>
(bif s6027 then
some (IntKind.i64.wrap (s6015.1 + 1))
else
some s6015.1)))).bind fun (s6022 : Int) =>
some (Xt.go (s6022, (s6015.2 + 1))))
else
some (Xt.out s6015.1))) Fu (s3004.1, 0)))).bind fun (s3011 : Int) =>
some (Xt.go (s3011, (s3004.2 + 1))))
else
some (Xt.out s3004.1))) Fu (0, 0))).bind fun (s2 : Int) =>
some s2)

theorem p_clean_made_ok {r : Int} : rOk (.v (.int .i64 r)) = true ∧ FrT (.v (.int .i64 r)) := ⟨rfl, (.one (.cl (.v _)))⟩

set_option maxRecDepth 10000 in
set_option maxHeartbeats 4000000 in
theorem p_clean_made_ac {a0 : MFun} {r : Int} (hF : p_clean_made a0 = some r) : AC Tryd.prog GT 16 [.ag (MFun.ct a0)] (fun c => c = .v (.int .i64 r)) := by
  unfold p_clean_made at hF
  refine AC.mk (nt := 45) Tryd.func16 A A A fun w N => ?_
  refine w_seq (w_region (by rfl) (dvN (l_box (.ag _) A A) (dv1 (l_assign (.v _)) (dvE (q_seq (w_seq (w_region (by rfl) (dv1 (l_assign (.v _)) ?_))))))))
  refine dvE (q_seq ?_)
  obtain ⟨s2, hF, hG3⟩ := bindE hF
  refine w_seqJ ⟨[(3, .v (.int .i64 s2))], [], 1⟩ ?_ ?_
  · refine w_seq (w_region (by rfl) (dv1 (l_field fd33_1 A) (dv1 (l_load ty31 A A A A A) (dv1 (l_lenRo sl31 A A (List.length_map _)) (dv1 (l_move (.v _)) (dvE (q_seq (w_block ?_))))))))
    refine w_loopF hF (fun (s3004 : Int × Nat) => ⟨[(3, .v (.int .i64 s3004.1)), (9, .ro (.sl 47 8 (a0.Blocks.map MBlk.ct))), (10, .v (.int .i64 ((a0.Blocks.length : Nat) : Int))), (11, .v (.int .i64 ((s3004.2 : Nat) : Int)))], [], 1⟩) (le_of [] A (.s (.s (.s (.s .nil A) A) A) A) .nil) ?_
    intro s3004 y3005 hF hx3006
    refine w_seq (w_region (by rfl) (dv1 (l_bin A A b_lssN) (dvE (q_seq (w_seq ?_)))))
    rcases condE hF with ⟨b3008, hF⟩ | ⟨b3008, hF⟩
    · refine w_lenS 9 A fun l3009 => ?_
      refine w_condT A b3008 ?_
      refine w_skip (q_seq ?_)
      obtain ⟨s3011, hF, hG3012⟩ := bindE hF
      refine w_seqJ ⟨[(3, .v (.int .i64 s3011)), (9, .ro (.sl 47 8 (a0.Blocks.map MBlk.ct))), (10, .v (.int .i64 ((a0.Blocks.length : Nat) : Int))), (11, .v (.int .i64 ((s3004.2 : Nat) : Int)))], [], 1⟩ ?_ ?_
      · refine w_block (w_seq (w_region (by rfl) ?_))
        obtain ⟨x3013, h3014, hF⟩ := bindE hF
        refine dv1 (l_indexRo s3004.2 sl31 A A A (map_at h3014)) (dv1 (l_loadARo ty47 A A) (dvN (l_alloc zt47) (dvS (l_store ty47 A (.ag _) A A A (Nat.le_of_ble_eq_true A) A) (dvE (q_seq (w_seq (w_region (by rfl) (dv1 (l_field fd47_1 A) ?_))))))))
        refine dv1 (l_load ty43 A A A A A) (dv1 (l_lenRo sl43 A A (List.length_map _)) (dv1 (l_move (.v _)) (dvE (q_seq (w_block (w_loopF hF (fun (s6015 : Int × Nat) => ⟨[(3, .v (.int .i64 s6015.1)), (9, .ro (.sl 47 8 (a0.Blocks.map MBlk.ct))), (10, .v (.int .i64 ((a0.Blocks.length : Nat) : Int))), (11, .v (.int .i64 ((s3004.2 : Nat) : Int))), (16, .ro (.sl 49 8 (x3013.Ops.map MOp.ct))), (17, .v (.int .i64 ((x3013.Ops.length : Nat) : Int))), (18, .v (.int .i64 ((s6015.2 : Nat) : Int)))], [], 1⟩) (le_of [] A (.s (.s (.s (.s (.s (.s (.s .nil A) A) A) A) A) A) A) .nil) ?_))))))
        intro s6015 y6016 hF hx6017
        refine w_seq (w_region (by rfl) (dv1 (l_bin A A b_lssN) (dvE (q_seq (w_seq ?_)))))
        rcases condE hF with ⟨b6019, hF⟩ | ⟨b6019, hF⟩
        · refine w_lenS 16 A fun l6020 => ?_
          refine w_condT A b6019 ?_
          refine w_skip (q_seq ?_)
          obtain ⟨s6022, hF, hG6023⟩ := bindE hF
          refine w_seqJ ⟨[(3, .v (.int .i64 s6022)), (9, .ro (.sl 47 8 (a0.Blocks.map MBlk.ct))), (10, .v (.int .i64 ((a0.Blocks.length : Nat) : Int))), (11, .v (.int .i64 ((s3004.2 : Nat) : Int))), (16, .ro (.sl 49 8 (x3013.Ops.map MOp.ct))), (17, .v (.int .i64 ((x3013.Ops.length : Nat) : Int))), (18, .v (.int .i64 ((s6015.2 : Nat) : Int)))], [], 1⟩ ?_ ?_
          · refine w_block (w_seq (w_region (by rfl) ?_))
            obtain ⟨x6024, h6025, hF⟩ := bindE hF
            refine dv1 (l_indexRo s6015.2 sl43 A A A (map_at h6025)) (dv1 (l_loadARo ty49 A A) (dvN (l_alloc zt49) (dvS (l_store ty49 A (.ag _) A A A (Nat.le_of_ble_eq_true A) A) (dvE (q_seq ?_)))))
            obtain ⟨s6027, hF, hG6028⟩ := bindE hF
            refine w_seqJ ⟨[(3, .v (.int .i64 s6015.1)), (9, .ro (.sl 47 8 (a0.Blocks.map MBlk.ct))), (10, .v (.int .i64 ((a0.Blocks.length : Nat) : Int))), (11, .v (.int .i64 ((s3004.2 : Nat) : Int))), (16, .ro (.sl 49 8 (x3013.Ops.map MOp.ct))), (17, .v (.int .i64 ((x3013.Ops.length : Nat) : Int))), (18, .v (.int .i64 ((s6015.2 : Nat) : Int))), (39, .v (.bool s6027))], [], 1⟩ ?_ ?_
            · refine w_region (by rfl) (dv1 (l_field fd49_0 A) (dv1 (l_load ty3 A A A A A) (dv1 (l_bin A A b_eql) (dv1 (l_move (.v _)) ?_))))
              rcases condE hF with ⟨b6029, hF⟩ | ⟨b6029, hF⟩
              · refine dv1 (l_gF A A (gt A b6029) A) (dv1 (l_gF A A (gt A b6029) A) (dv1 (l_gF A A (gt A b6029) A) (dv1 (l_pickT (gt A b6029) (.v _)) (dv1 (l_move (.v _)) (dv1 (l_gF A A A A) (dv1 (l_gF A A A A) (dv1 (l_gF A A A A) (dv1 (l_pickT A (.v _)) ?_))))))))
                refine dv1 (l_move (.v _)) (dv1 (l_gT A A A fun _ => l_field fd49_7 A) (dv1 (l_gT A A A fun _ => l_load ty4 A A A A A) (dv1 (l_gT A A A fun _ => l_not A) (dv1 (l_pickT A (.v _)) (dvE ?_)))))
                cases hF
                refine q_join ?_
                exact (le_of [] A (.s (.s (.s (.s (.s (.s (.s (.s .nil A) A) A) A) A) A) A) A) .nil)
              · refine dv1 (l_gT A A (gt A b6029) fun _ => l_field fd49_0 A) (dv1 (l_gT A A (gt A b6029) fun _ => l_load ty3 A A A A A) (dv1 (l_gT A A (gt A b6029) fun _ => l_bin A A b_eql) (dv1 (l_pickF (gt A b6029) (.v _)) (dv1 (l_move (.v _)) ?_))))
                rcases condE hF with ⟨b6030, hF⟩ | ⟨b6030, hF⟩
                · refine dv1 (l_gF A A (gt A b6030) A) (dv1 (l_gF A A (gt A b6030) A) (dv1 (l_gF A A (gt A b6030) A) (dv1 (l_pickT (gt A b6030) (.v _)) (dv1 (l_move (.v _)) (dv1 (l_gT A A A fun _ => l_field fd49_7 A) (dv1 (l_gT A A A fun _ => l_load ty4 A A A A A) (dv1 (l_gT A A A fun _ => l_not A) (dv1 (l_pickT A (.v _)) ?_))))))))
                  refine dvE ?_
                  cases hF
                  refine q_join ?_
                  exact (le_of [] A (.s (.s (.s (.s (.s (.s (.s (.s .nil A) A) A) A) A) A) A) A) .nil)
                · refine dv1 (l_gT A A (gt A b6030) fun _ => l_field fd49_0 A) (dv1 (l_gT A A (gt A b6030) fun _ => l_load ty3 A A A A A) (dv1 (l_gT A A (gt A b6030) fun _ => l_bin A A b_eql) (dv1 (l_pickF (gt A b6030) (.v _)) (dv1 (l_move (.v _)) ?_))))
                  rcases condE hF with ⟨b6031, hF⟩ | ⟨b6031, hF⟩
                  · refine dv1 (l_gT A A (gt A b6031) fun _ => l_field fd49_7 A) (dv1 (l_gT A A (gt A b6031) fun _ => l_load ty4 A A A A A) (dv1 (l_gT A A (gt A b6031) fun _ => l_not A) (dv1 (l_pickT (gt A b6031) (.v _)) (dvE ?_))))
                    cases hF
                    refine q_join ?_
                    exact (le_of [] A (.s (.s (.s (.s (.s (.s (.s (.s .nil A) A) A) A) A) A) A) A) .nil)
                  · refine dv1 (l_gF A A (gt A b6031) A) (dv1 (l_gF A A (gt A b6031) A) (dv1 (l_gF A A (gt A b6031) A) (dv1 (l_pickF (gt A b6031) (.v _)) (dvE ?_))))
                    cases hF
                    refine q_join ?_
                    exact (le_of [] A (.s (.s (.s (.s (.s (.s (.s (.s .nil A) A) A) A) A) A) A) A) .nil)
            replace hF := hG6028
            rcases condE hF with ⟨b6032, hF⟩ | ⟨b6032, hF⟩
            · refine w_condT A b6032 ?_
              refine w_region (by rfl) (dv1 (l_move (.v _)) (dv1 (l_bin A A (b_add A)) (dv1 (l_assign (.v _)) (dvE ?_))))
              cases hF
              refine q_in (q_join ?_)
              exact (le_of [] A (.s (.s (.s (.s (.s (.s (.s .nil A) A) A) A) A) A) A) .nil)
            · refine w_condF A b6032 ?_
              refine w_skip ?_
              cases hF
              refine q_in (q_join ?_)
              exact (le_of [] A (.s (.s (.s (.s (.s (.s (.s .nil A) A) A) A) A) A) A) .nil)
          replace hF := hG6023
          refine w_region (by rfl) (dv1 (l_bin A A (b_incN (of_decide_eq_true b6019) l6020)) (dv1 (l_move (.v _)) (dvE ?_)))
          cases hF
          refine qL A ?_
          exact (le_of [] A (.s (.s (.s (.s (.s (.s (.s .nil A) A) A) A) A) A) A) .nil)
        · refine w_condF A b6019 ?_
          refine w_exit ?_
          cases hF
          cases hx6017 _ rfl
          refine q_exS (q_exS (q_here (q_in (q_join ?_))))
          exact (le_of [] A (.s (.s (.s (.s .nil A) A) A) A) .nil)
      replace hF := hG3012
      refine w_region (by rfl) (dv1 (l_bin A A (b_incN (of_decide_eq_true b3008) l3009)) (dv1 (l_move (.v _)) (dvE ?_)))
      cases hF
      refine qL A ?_
      exact (le_of [] A (.s (.s (.s (.s .nil A) A) A) A) .nil)
    · refine w_condF A b3008 ?_
      refine w_exit ?_
      cases hF
      cases hx3006 _ rfl
      refine q_exS (q_exS (q_here (q_join ?_)))
      exact (le_of [] A (.s .nil A) .nil)
  replace hF := hG3
  refine w_seq (w_region (by rfl) (dv1 (l_move (.v _)) (dv1 (l_assign (.v _)) (dvE (q_seq (w_ret ?_))))))
  cases hF
  refine q_end (.inr A) ?_
  exact ret_ok A (.cons (.tmp (.v _) (.v _)) .nil) (by decide) A

def p_clean_Dead (a0 : MFun) : Option Int :=
((p_clean_made a0).bind fun y1 =>
((p_clean_fun a0).bind fun y3 =>
((p_clean_made y3).bind fun y5 =>
some (IntKind.i64.wrap (y1 - y5)))))

theorem p_clean_Dead_ok {r : Int} : rOk (.v (.int .i64 r)) = true ∧ FrT (.v (.int .i64 r)) := ⟨rfl, (.one (.cl (.v _)))⟩

set_option maxRecDepth 10000 in
set_option maxHeartbeats 4000000 in
theorem p_clean_Dead_ac {a0 : MFun} {r : Int} (hF : p_clean_Dead a0 = some r) : AC Tryd.prog GT 9 [.ag (MFun.ct a0)] (fun c => c = .v (.int .i64 r)) := by
  unfold p_clean_Dead at hF
  refine AC.mk (nt := 9) Tryd.func9 A A A fun w N => ?_
  refine w_seq (w_region (by rfl) (dvN (l_box (.ag _) A A) (dv1 (l_assign (.v _)) (dvE (q_seq (w_seq (w_draw [[], [0], [], [0, 1, 2], [0, 1, 2, 3], [0, 1, 2, 3, 4], [0, 1, 2, 3, 4, 5]] [0, 2, 1, 3, 4, 5, 6] (by kernel_rfl) (by rfl) ⟨by decide, by rfl⟩ (by rfl) ?_)))))))
  refine de1 A (l_loadA ty33 A A A A A) A (de1 A (l_loadA ty33 A A A A A) A ?_)
  obtain ⟨y1, h2, hF⟩ := bindE hF
  refine deC1 A (l_call (B := false) (FnI.mk' (by kernel_rfl)) (.cons (.ag _) (.ag (.cons (.v _) (.cons (.ro _) .nil))) .nil) (p_clean_made_ac h2) (okF p_clean_made_ok)) A ?_
  obtain ⟨y3, h4, hF⟩ := bindE hF
  refine deC1 A (l_call (B := false) (FnI.mk' (by kernel_rfl)) (.cons (.ag _) (.ag (.cons (.v _) (.cons (.ro _) .nil))) .nil) (p_clean_fun_ac h4) (okF p_clean_fun_ok)) A ?_
  obtain ⟨y5, h6, hF⟩ := bindE hF
  refine deC1 A (l_call (B := false) (FnI.mk' (by kernel_rfl)) (.cons (.ag _) (.ag (.cons (.v _) (.cons (.ro _) .nil))) .nil) (p_clean_made_ac h6) (okF p_clean_made_ok)) A ?_
  refine de1 A (l_bin A A (b_sub A)) A (de1 A (l_assign (.v _)) A (ddE (q_seq (w_ret ?_))))
  cases hF
  refine q_end (.inr A) ?_
  exact ret_ok A (.cons (.tmp (.v _) (.v _)) .nil) (by decide) A

def p_R17_Steps (a0 : MFun) (a1 : Int) : Option Int :=
(((loop (fun (s3004 : Int × Nat) =>
(bif decide (s3004.2 < a0.Blocks.length) then
(((loop (fun (s6013 : Int × Nat) =>
((a0.Blocks[s3004.2]?).bind fun x6017 =>
(bif decide (s6013.2 < x6017.Ops.length) then
((((x6017.Ops[s6013.2]?).bind fun x6024 =>
(((bif decide (a1 = 0) then
((p_R17_Seen x6024).bind fun y6030 =>
(bif y6030 then
some true
else
(bif decide (a1 = 1) then
(bif x6024.Stack then
some false
else
(bif decide (x6024.K = 9) then
some true
else
(bif decide (x6024.K = 12) then
some true
else
some (decide (x6024.K = 17)))))
else
some false)))
else
(bif decide (a1 = 1) then
(bif x6024.Stack then
some false
else
(bif decide (x6024.K = 9) then
some true
else
(bif decide (x6024.K = 12) then
some true
else
some (decide (x6024.K = 17)))))
else
some false))).bind fun (s6027 : Bool) =>
(bif s6027 then
some (IntKind.i64.wrap (s6013.1 + 1))
else
some s6013.1)))).bind fun (s6022 : Int) =>
some (Xt.go (s6022, (s6013.2 + 1))))
else
some (Xt.out s6013.1)))) Fu (s3004.1, 0))).bind fun (s3011 : Int) =>
some (Xt.go (s3011, (s3004.2 + 1))))
else
some (Xt.out s3004.1))) Fu (0, 0))).bind fun (s2 : Int) =>
some s2)

theorem p_R17_Steps_ok {r : Int} : rOk (.v (.int .i64 r)) = true ∧ FrT (.v (.int .i64 r)) := ⟨rfl, (.one (.cl (.v _)))⟩

set_option maxRecDepth 10000 in
set_option maxHeartbeats 4000000 in
theorem p_R17_Steps_ac {a0 : MFun} {a1 : Int} {r : Int} (hF : p_R17_Steps a0 a1 = some r) : AC Tryd.prog GT 10 [.ag (MFun.ct a0), .v (.int .i64 a1)] (fun c => c = .v (.int .i64 r)) := by
  unfold p_R17_Steps at hF
  refine AC.mk (nt := 69) Tryd.func10 A A A fun w N => ?_
  refine w_seq (w_region (by rfl) (dvN (l_box (.ag _) A A) (dv1 (l_assign (.v _)) (dvE (q_seq (w_seq (w_region (by rfl) (dv1 (l_assign (.v _)) ?_))))))))
  refine dvE (q_seq ?_)
  obtain ⟨s2, hF, hG3⟩ := bindE hF
  refine w_seqJ ⟨[(5, .v (.int .i64 s2))], [], 1⟩ ?_ ?_
  · refine w_seq (w_region (by rfl) (dv1 (l_assign (.v _)) (dvE (q_seq (w_block (w_loopF hF (fun (s3004 : Int × Nat) => ⟨[(1, .v (.int .i64 a1)), (2, .ad 0 2 0 0), (5, .v (.int .i64 s3004.1)), (6, .v (.int .i64 ((s3004.2 : Nat) : Int)))], [(0, some ⟨33, 2, [[.v (.int .i64 a0.Ret), .ro (.sl 47 8 (a0.Blocks.map MBlk.ct))]]⟩)], 1⟩) (le_of [(0, some 0)] A (.s (.s (.s (.s .nil A) A) A) A) (.box A A (.s A) .nil)) ?_))))))
    intro s3004 y3005 hF hx3006
    refine w_seq (w_seq (w_region (by rfl) (dv1 (l_move (.v _)) (dv1 (l_field fd33_1 A) (dv1 (l_load ty31 A A A A A) (dv1 (l_lenRo sl31 A A (List.length_map _)) (dv1 (l_bin A A b_lssN) (dvE ?_))))))))
    refine q_seq ?_
    rcases condE hF with ⟨b3008, hF⟩ | ⟨b3008, hF⟩
    · refine w_lenS 11 A fun l3009 => ?_
      refine w_condT A b3008 ?_
      refine w_skip (q_seq ?_)
      obtain ⟨s3011, hF, hG3012⟩ := bindE hF
      refine w_seqJ ⟨[(1, .v (.int .i64 a1)), (2, .ad 0 2 0 0), (5, .v (.int .i64 s3011)), (6, .v (.int .i64 ((s3004.2 : Nat) : Int)))], [(0, some ⟨33, 2, [[.v (.int .i64 a0.Ret), .ro (.sl 47 8 (a0.Blocks.map MBlk.ct))]]⟩)], 1⟩ ?_ ?_
      · refine w_block (w_seq (w_region (by rfl) (dv1 (l_assign (.v _)) (dvE (q_seq (w_block (w_loopF hF (fun (s6013 : Int × Nat) => ⟨[(1, .v (.int .i64 a1)), (2, .ad 0 2 0 0), (5, .v (.int .i64 s6013.1)), (6, .v (.int .i64 ((s3004.2 : Nat) : Int))), (7, .v (.int .i64 ((s6013.2 : Nat) : Int)))], [(0, some ⟨33, 2, [[.v (.int .i64 a0.Ret), .ro (.sl 47 8 (a0.Blocks.map MBlk.ct))]]⟩)], 1⟩) (le_of [(0, some 0)] A (.s (.s (.s (.s (.s .nil A) A) A) A) A) (.box A A (.s A) .nil)) ?_)))))))
        intro s6013 y6014 hF hx6015
        refine w_seq (w_seq (w_region (by rfl) (dv1 (l_move (.v _)) (dv1 (l_field fd33_1 A) (dv1 (l_load ty31 A A A A A) (dv1 (l_move (.v _)) ?_))))))
        obtain ⟨x6017, h6018, hF⟩ := bindE hF
        refine dv1 (l_indexRo s3004.2 sl31 A A A (map_at h6018)) (dv1 (l_fieldRo fd47_1 A) (dv1 (l_loadRo ty43 A A) (dv1 (l_lenRo sl43 A A (List.length_map _)) (dv1 (l_bin A A b_lssN) (dvE (q_seq ?_))))))
        rcases condE hF with ⟨b6019, hF⟩ | ⟨b6019, hF⟩
        · refine w_lenS 22 A fun l6020 => ?_
          refine w_condT A b6019 ?_
          refine w_skip (q_seq ?_)
          obtain ⟨s6022, hF, hG6023⟩ := bindE hF
          refine w_seqJ ⟨[(1, .v (.int .i64 a1)), (2, .ad 0 2 0 0), (5, .v (.int .i64 s6022)), (6, .v (.int .i64 ((s3004.2 : Nat) : Int))), (7, .v (.int .i64 ((s6013.2 : Nat) : Int)))], [(0, some ⟨33, 2, [[.v (.int .i64 a0.Ret), .ro (.sl 47 8 (a0.Blocks.map MBlk.ct))]]⟩)], 1⟩ ?_ ?_
          · refine w_block (w_seq (w_region (by rfl) (dv1 (l_field fd33_1 A) (dv1 (l_load ty31 A A A A A) (dv1 (l_move (.v _)) (dv1 (l_indexRo s3004.2 sl31 A A A (map_at h6018)) (dv1 (l_fieldRo fd47_1 A) (dv1 (l_loadRo ty43 A A) ?_))))))))
            refine dv1 (l_move (.v _)) ?_
            obtain ⟨x6024, h6025, hF⟩ := bindE hF
            refine dv1 (l_indexRo s6013.2 sl43 A A A (map_at h6025)) (dv1 (l_loadARo ty49 A A) (dvN (l_alloc zt49) (dvS (l_store ty49 A (.ag _) A A A (Nat.le_of_ble_eq_true A) A) (dvE (q_seq ?_)))))
            obtain ⟨s6027, hF, hG6028⟩ := bindE hF
            refine w_seqJ ⟨[(1, .v (.int .i64 a1)), (2, .ad 0 2 0 0), (5, .v (.int .i64 s6013.1)), (6, .v (.int .i64 ((s3004.2 : Nat) : Int))), (7, .v (.int .i64 ((s6013.2 : Nat) : Int))), (65, .v (.bool s6027))], [(0, some ⟨33, 2, [[.v (.int .i64 a0.Ret), .ro (.sl 47 8 (a0.Blocks.map MBlk.ct))]]⟩)], 1⟩ ?_ ?_
            · refine w_region (by rfl) (dv1 (l_move (.v _)) (dv1 (l_bin A A b_eql) (dv1 (l_move (.v _)) ?_)))
              rcases condE hF with ⟨b6029, hF⟩ | ⟨b6029, hF⟩
              · refine dv1 (l_gT A A (gt A b6029) fun _ => l_loadA ty49 A A A A A) ?_
                obtain ⟨y6030, h6031, hF⟩ := bindE hF
                refine dvC (l_gTC A A (gt A b6029) fun _ => (l_call (B := false) (FnI.mk' (by kernel_rfl)) (.cons (.ag _) (.ag (.cons (.v _) (.cons (.v _) (.cons (.v _) (.cons (.v _) (.cons (.v _) (.cons (.v _) (.cons (.ro _) (.cons (.v _) .nil))))))))) .nil) (p_R17_Seen_ac h6031) (okF p_R17_Seen_ok))) ?_
                rintro _ rfl
                refine dv1 (l_pickT (gt A b6029) (.v _)) (dv1 (l_move (.v _)) ?_)
                rcases condE hF with ⟨b6032, hF⟩ | ⟨b6032, hF⟩
                · refine dv1 (l_gF A A (gt A b6032) A) (dv1 (l_gF A A (gt A b6032) A) (dv1 (l_gF A A (gt A b6032) A) (dv1 (l_gU A A A) (dv1 (l_gU A A A) (dv1 (l_gU A A A) (dv1 (l_gF A A (gt A b6032) A) (dv1 (l_gF A A (gt A b6032) A) (dv1 (l_gU A A A) ?_))))))))
                  refine dv1 (l_gU A A A) (dv1 (l_gU A A A) (dv1 (l_gU A A A) (dv1 (l_gU A A A) (dv1 (l_gU A A A) (dv1 (l_gU A A A) (dv1 (l_gU A A A) (dv1 (l_gU A A A) (dv1 (l_gU A A A) ?_))))))))
                  refine dv1 (l_gU A A A) (dv1 (l_gU A A A) (dv1 (l_gU A A A) (dv1 (l_gF A A (gt A b6032) A) (dv1 (l_pickT (gt A b6032) (.v _)) (dvE ?_)))))
                  cases hF
                  refine q_join ?_
                  exact (le_of [(0, some 0)] A (.s (.s (.s (.s (.s (.s .nil A) A) A) A) A) A) (.box A A (.s A) .nil))
                · refine dv1 (l_gT A A (gt A b6032) fun _ => l_move (.v _)) (dv1 (l_gT A A (gt A b6032) fun _ => l_bin A A b_eql) (dv1 (l_gT A A (gt A b6032) fun _ => l_move (.v _)) ?_))
                  rcases condE hF with ⟨b6033, hF⟩ | ⟨b6033, hF⟩
                  · refine dv1 (l_gT A A (gt A b6033) fun _ => l_field fd49_7 A) (dv1 (l_gT A A (gt A b6033) fun _ => l_load ty4 A A A A A) (dv1 (l_gT A A (gt A b6033) fun _ => l_not A) (dv1 (l_gT A A (gt A b6032) fun _ => l_pickT (gt A b6033) (.v _)) (dv1 (l_gT A A (gt A b6032) fun _ => l_move (.v _)) ?_))))
                    rcases condE hF with ⟨b6034, hF⟩ | ⟨b6034, hF⟩
                    · refine dv1 (l_gF A A (gt A (nF b6034)) A) (dv1 (l_gF A A (gt A (nF b6034)) A) (dv1 (l_gF A A (gt A (nF b6034)) A) (dv1 (l_gF A A (gt A (nF b6034)) A) (dv1 (l_gU A A A) (dv1 (l_gU A A A) (dv1 (l_gU A A A) (dv1 (l_gF A A (gt A (nF b6034)) A) (dv1 (l_gF A A (gt A (nF b6034)) A) ?_))))))))
                      refine dv1 (l_gU A A A) (dv1 (l_gU A A A) (dv1 (l_gU A A A) (dv1 (l_gF A A (gt A (nF b6034)) A) (dv1 (l_gT A A (gt A b6032) fun _ => l_pickF (gt A (nF b6034)) (.v _)) (dv1 (l_pickF (gt A b6032) (.v _)) (dvE ?_))))))
                      cases hF
                      refine q_join ?_
                      exact (le_of [(0, some 0)] A (.s (.s (.s (.s (.s (.s .nil A) A) A) A) A) A) (.box A A (.s A) .nil))
                    · refine dv1 (l_gT A A (gt A (nT b6034)) fun _ => l_field fd49_0 A) (dv1 (l_gT A A (gt A (nT b6034)) fun _ => l_load ty3 A A A A A) (dv1 (l_gT A A (gt A (nT b6034)) fun _ => l_bin A A b_eql) (dv1 (l_gT A A (gt A (nT b6034)) fun _ => l_move (.v _)) ?_)))
                      rcases condE hF with ⟨b6035, hF⟩ | ⟨b6035, hF⟩
                      · refine dv1 (l_gF A A (gt A b6035) A) (dv1 (l_gF A A (gt A b6035) A) (dv1 (l_gF A A (gt A b6035) A) (dv1 (l_gT A A (gt A (nT b6034)) fun _ => l_pickT (gt A b6035) (.v _)) (dv1 (l_gT A A (gt A (nT b6034)) fun _ => l_move (.v _)) (dv1 (l_gF A A A A) (dv1 (l_gF A A A A) (dv1 (l_gF A A A A) (dv1 (l_gT A A (gt A (nT b6034)) fun _ => l_pickT A (.v _)) ?_))))))))
                        refine dv1 (l_gT A A (gt A b6032) fun _ => l_pickT (gt A (nT b6034)) (.v _)) (dv1 (l_pickF (gt A b6032) (.v _)) (dvE ?_))
                        cases hF
                        refine q_join ?_
                        exact (le_of [(0, some 0)] A (.s (.s (.s (.s (.s (.s .nil A) A) A) A) A) A) (.box A A (.s A) .nil))
                      · refine dv1 (l_gT A A (gt A b6035) fun _ => l_field fd49_0 A) (dv1 (l_gT A A (gt A b6035) fun _ => l_load ty3 A A A A A) (dv1 (l_gT A A (gt A b6035) fun _ => l_bin A A b_eql) (dv1 (l_gT A A (gt A (nT b6034)) fun _ => l_pickF (gt A b6035) (.v _)) (dv1 (l_gT A A (gt A (nT b6034)) fun _ => l_move (.v _)) ?_))))
                        rcases condE hF with ⟨b6036, hF⟩ | ⟨b6036, hF⟩
                        · refine dv1 (l_gF A A (gt A b6036) A) (dv1 (l_gF A A (gt A b6036) A) (dv1 (l_gF A A (gt A b6036) A) (dv1 (l_gT A A (gt A (nT b6034)) fun _ => l_pickT (gt A b6036) (.v _)) (dv1 (l_gT A A (gt A b6032) fun _ => l_pickT (gt A (nT b6034)) (.v _)) (dv1 (l_pickF (gt A b6032) (.v _)) (dvE ?_))))))
                          cases hF
                          refine q_join ?_
                          exact (le_of [(0, some 0)] A (.s (.s (.s (.s (.s (.s .nil A) A) A) A) A) A) (.box A A (.s A) .nil))
                        · refine dv1 (l_gT A A (gt A b6036) fun _ => l_field fd49_0 A) (dv1 (l_gT A A (gt A b6036) fun _ => l_load ty3 A A A A A) (dv1 (l_gT A A (gt A b6036) fun _ => l_bin A A b_eql) (dv1 (l_gT A A (gt A (nT b6034)) fun _ => l_pickF (gt A b6036) (.v _)) (dv1 (l_gT A A (gt A b6032) fun _ => l_pickT (gt A (nT b6034)) (.v _)) (dv1 (l_pickF (gt A b6032) (.v _)) (dvE ?_))))))
                          cases hF
                          refine q_join ?_
                          exact (le_of [(0, some 0)] A (.s (.s (.s (.s (.s (.s .nil A) A) A) A) A) A) (.box A A (.s A) .nil))
                  · refine dv1 (l_gF A A (gt A b6033) A) (dv1 (l_gF A A (gt A b6033) A) (dv1 (l_gF A A (gt A b6033) A) (dv1 (l_gT A A (gt A b6032) fun _ => l_pickF (gt A b6033) (.v _)) (dv1 (l_gT A A (gt A b6032) fun _ => l_move (.v _)) (dv1 (l_gF A A A A) (dv1 (l_gF A A A A) (dv1 (l_gF A A A A) (dv1 (l_gF A A A A) ?_))))))))
                    refine dv1 (l_gU A A A) (dv1 (l_gU A A A) (dv1 (l_gU A A A) (dv1 (l_gF A A A A) (dv1 (l_gF A A A A) (dv1 (l_gU A A A) (dv1 (l_gU A A A) (dv1 (l_gU A A A) (dv1 (l_gF A A A A) ?_))))))))
                    refine dv1 (l_gT A A (gt A b6032) fun _ => l_pickF A (.v _)) (dv1 (l_pickF (gt A b6032) (.v _)) (dvE ?_))
                    cases hF
                    refine q_join ?_
                    exact (le_of [(0, some 0)] A (.s (.s (.s (.s (.s (.s .nil A) A) A) A) A) A) (.box A A (.s A) .nil))
              · refine dv1 (l_gF A A (gt A b6029) A) (dv1 (l_gF A A (gt A b6029) A) (dv1 (l_pickF (gt A b6029) (.v _)) (dv1 (l_move (.v _)) (dv1 (l_gT A A A fun _ => l_move (.v _)) (dv1 (l_gT A A A fun _ => l_bin A A b_eql) (dv1 (l_gT A A A fun _ => l_move (.v _)) ?_))))))
                rcases condE hF with ⟨b6037, hF⟩ | ⟨b6037, hF⟩
                · refine dv1 (l_gT A A (gt A b6037) fun _ => l_field fd49_7 A) (dv1 (l_gT A A (gt A b6037) fun _ => l_load ty4 A A A A A) (dv1 (l_gT A A (gt A b6037) fun _ => l_not A) (dv1 (l_gT A A A fun _ => l_pickT (gt A b6037) (.v _)) (dv1 (l_gT A A A fun _ => l_move (.v _)) ?_))))
                  rcases condE hF with ⟨b6038, hF⟩ | ⟨b6038, hF⟩
                  · refine dv1 (l_gF A A (gt A (nF b6038)) A) (dv1 (l_gF A A (gt A (nF b6038)) A) (dv1 (l_gF A A (gt A (nF b6038)) A) (dv1 (l_gF A A (gt A (nF b6038)) A) (dv1 (l_gU A A A) (dv1 (l_gU A A A) (dv1 (l_gU A A A) (dv1 (l_gF A A (gt A (nF b6038)) A) (dv1 (l_gF A A (gt A (nF b6038)) A) ?_))))))))
                    refine dv1 (l_gU A A A) (dv1 (l_gU A A A) (dv1 (l_gU A A A) (dv1 (l_gF A A (gt A (nF b6038)) A) (dv1 (l_gT A A A fun _ => l_pickF (gt A (nF b6038)) (.v _)) (dv1 (l_pickF A (.v _)) (dvE ?_))))))
                    cases hF
                    refine q_join ?_
                    exact (le_of [(0, some 0)] A (.s (.s (.s (.s (.s (.s .nil A) A) A) A) A) A) (.box A A (.s A) .nil))
                  · refine dv1 (l_gT A A (gt A (nT b6038)) fun _ => l_field fd49_0 A) (dv1 (l_gT A A (gt A (nT b6038)) fun _ => l_load ty3 A A A A A) (dv1 (l_gT A A (gt A (nT b6038)) fun _ => l_bin A A b_eql) (dv1 (l_gT A A (gt A (nT b6038)) fun _ => l_move (.v _)) ?_)))
                    rcases condE hF with ⟨b6039, hF⟩ | ⟨b6039, hF⟩
                    · refine dv1 (l_gF A A (gt A b6039) A) (dv1 (l_gF A A (gt A b6039) A) (dv1 (l_gF A A (gt A b6039) A) (dv1 (l_gT A A (gt A (nT b6038)) fun _ => l_pickT (gt A b6039) (.v _)) (dv1 (l_gT A A (gt A (nT b6038)) fun _ => l_move (.v _)) (dv1 (l_gF A A A A) (dv1 (l_gF A A A A) (dv1 (l_gF A A A A) (dv1 (l_gT A A (gt A (nT b6038)) fun _ => l_pickT A (.v _)) ?_))))))))
                      refine dv1 (l_gT A A A fun _ => l_pickT (gt A (nT b6038)) (.v _)) (dv1 (l_pickF A (.v _)) (dvE ?_))
                      cases hF
                      refine q_join ?_
                      exact (le_of [(0, some 0)] A (.s (.s (.s (.s (.s (.s .nil A) A) A) A) A) A) (.box A A (.s A) .nil))
                    · refine dv1 (l_gT A A (gt A b6039) fun _ => l_field fd49_0 A) (dv1 (l_gT A A (gt A b6039) fun _ => l_load ty3 A A A A A) (dv1 (l_gT A A (gt A b6039) fun _ => l_bin A A b_eql) (dv1 (l_gT A A (gt A (nT b6038)) fun _ => l_pickF (gt A b6039) (.v _)) (dv1 (l_gT A A (gt A (nT b6038)) fun _ => l_move (.v _)) ?_))))
                      rcases condE hF with ⟨b6040, hF⟩ | ⟨b6040, hF⟩
                      · refine dv1 (l_gF A A (gt A b6040) A) (dv1 (l_gF A A (gt A b6040) A) (dv1 (l_gF A A (gt A b6040) A) (dv1 (l_gT A A (gt A (nT b6038)) fun _ => l_pickT (gt A b6040) (.v _)) (dv1 (l_gT A A A fun _ => l_pickT (gt A (nT b6038)) (.v _)) (dv1 (l_pickF A (.v _)) (dvE ?_))))))
                        cases hF
                        refine q_join ?_
                        exact (le_of [(0, some 0)] A (.s (.s (.s (.s (.s (.s .nil A) A) A) A) A) A) (.box A A (.s A) .nil))
                      · refine dv1 (l_gT A A (gt A b6040) fun _ => l_field fd49_0 A) (dv1 (l_gT A A (gt A b6040) fun _ => l_load ty3 A A A A A) (dv1 (l_gT A A (gt A b6040) fun _ => l_bin A A b_eql) (dv1 (l_gT A A (gt A (nT b6038)) fun _ => l_pickF (gt A b6040) (.v _)) (dv1 (l_gT A A A fun _ => l_pickT (gt A (nT b6038)) (.v _)) (dv1 (l_pickF A (.v _)) (dvE ?_))))))
                        cases hF
                        refine q_join ?_
                        exact (le_of [(0, some 0)] A (.s (.s (.s (.s (.s (.s .nil A) A) A) A) A) A) (.box A A (.s A) .nil))
                · refine dv1 (l_gF A A (gt A b6037) A) (dv1 (l_gF A A (gt A b6037) A) (dv1 (l_gF A A (gt A b6037) A) (dv1 (l_gT A A A fun _ => l_pickF (gt A b6037) (.v _)) (dv1 (l_gT A A A fun _ => l_move (.v _)) (dv1 (l_gF A A A A) (dv1 (l_gF A A A A) (dv1 (l_gF A A A A) (dv1 (l_gF A A A A) ?_))))))))
                  refine dv1 (l_gU A A A) (dv1 (l_gU A A A) (dv1 (l_gU A A A) (dv1 (l_gF A A A A) (dv1 (l_gF A A A A) (dv1 (l_gU A A A) (dv1 (l_gU A A A) (dv1 (l_gU A A A) (dv1 (l_gF A A A A) ?_))))))))
                  refine dv1 (l_gT A A A fun _ => l_pickF A (.v _)) (dv1 (l_pickF A (.v _)) (dvE ?_))
                  cases hF
                  refine q_join ?_
                  exact (le_of [(0, some 0)] A (.s (.s (.s (.s (.s (.s .nil A) A) A) A) A) A) (.box A A (.s A) .nil))
            replace hF := hG6028
            rcases condE hF with ⟨b6041, hF⟩ | ⟨b6041, hF⟩
            · refine w_condT A b6041 ?_
              refine w_region (by rfl) (dv1 (l_move (.v _)) (dv1 (l_bin A A (b_add A)) (dv1 (l_assign (.v _)) (dvE ?_))))
              cases hF
              refine q_in (q_join ?_)
              exact (le_of [(0, some 0)] A (.s (.s (.s (.s (.s .nil A) A) A) A) A) (.box A A (.s A) .nil))
            · refine w_condF A b6041 ?_
              refine w_skip ?_
              cases hF
              refine q_in (q_join ?_)
              exact (le_of [(0, some 0)] A (.s (.s (.s (.s (.s .nil A) A) A) A) A) (.box A A (.s A) .nil))
          replace hF := hG6023
          refine w_region (by rfl) (dv1 (l_move (.v _)) (dv1 (l_bin A A (b_incN (of_decide_eq_true b6019) l6020)) (dv1 (l_assign (.v _)) (dvE ?_))))
          cases hF
          refine qL A ?_
          exact (le_of [(0, some 0)] A (.s (.s (.s (.s (.s .nil A) A) A) A) A) (.box A A (.s A) .nil))
        · refine w_condF A b6019 ?_
          refine w_exit ?_
          cases hF
          cases hx6015 _ rfl
          refine q_exS (q_exS (q_here (q_in (q_join ?_))))
          exact (le_of [(0, some 0)] A (.s (.s (.s (.s .nil A) A) A) A) (.box A A (.s A) .nil))
      replace hF := hG3012
      refine w_region (by rfl) (dv1 (l_move (.v _)) (dv1 (l_bin A A (b_incN (of_decide_eq_true b3008) l3009)) (dv1 (l_assign (.v _)) (dvE ?_))))
      cases hF
      refine qL A ?_
      exact (le_of [(0, some 0)] A (.s (.s (.s (.s .nil A) A) A) A) (.box A A (.s A) .nil))
    · refine w_condF A b3008 ?_
      refine w_exit ?_
      cases hF
      cases hx3006 _ rfl
      refine q_exS (q_exS (q_here (q_join ?_)))
      exact (le_of [] A (.s .nil A) .nil)
  replace hF := hG3
  refine w_seq (w_region (by rfl) (dv1 (l_move (.v _)) (dv1 (l_assign (.v _)) (dvE (q_seq (w_ret ?_))))))
  cases hF
  refine q_end (.inr A) ?_
  exact ret_ok A (.cons (.tmp (.v _) (.v _)) .nil) (by decide) A

def p_L17_CleanIdle (a0 : MPrg) (a1 : Int) : Option Bool :=
(((bif decide (((a0.Funcs.length : Nat) : Int) = 0) then
some true
else
((p_R05_Small (some a0) 400).bind fun y5 =>
some (!y5)))).bind fun (s2 : Bool) =>
(bif s2 then
((p_clean_Idle (⟨0, []⟩ : MFun)).bind fun y8 =>
some (decide (((y8.length : Nat) : Int) = 0)))
else
(ck (¬ ((a0.Funcs.length : Nat) : Int) = 0)
(((atI a0.Funcs (Int.tmod (IntKind.i64.wrap a1) ((a0.Funcs.length : Nat) : Int))).bind fun x11 =>
((p_clean_Func x11).bind fun y13 =>
((((p_clean_Idle x11).bind fun y18 =>
((p_R17_Idle x11).bind fun y20 =>
((p_R04_Ints y18 y20).bind fun y22 =>
(bif y22 then
((p_clean_Dead x11).bind fun y25 =>
((p_R17_Steps x11 1).bind fun y27 =>
((p_R17_Steps y13 1).bind fun y29 =>
(bif decide (y25 = IntKind.i64.wrap (y27 - y29)) then
((p_clean_Dead x11).bind fun y32 =>
some (decide ((0 : Int) ≤ y32)))
else
some false))))
else
some false))))).bind fun (s16 : Bool) =>
some s16)))))))

set_option maxRecDepth 10000 in
set_option maxHeartbeats 4000000 in
theorem p_L17_CleanIdle_ac {a0 : MPrg} {a1 : Int} {r : Bool} (hF : p_L17_CleanIdle a0 a1 = some r) : AC Tryd.prog GT 3 [.ag (MPrg.ct a0), .v (.int .u8 a1)] (fun c => c = .v (.bool r)) := by
  unfold p_L17_CleanIdle at hF
  refine AC.mk (nt := 63) Tryd.func3 A A A fun w N => ?_
  refine w_seq (w_region (by rfl) (dvN (l_box (.ag _) A A) (dv1 (l_assign (.v _)) (dvE (q_seq (w_seq (w_region (by rfl) (dv1 (l_assign (.ad _ _ _ _)) ?_))))))))
  refine dvE (q_seq (w_seq ?_))
  obtain ⟨s2, hF, hG3⟩ := bindE hF
  refine w_seqJ ⟨[(1, .v (.int .u8 a1)), (5, .ad 0 3 0 0), (22, .v (.bool s2))], [(0, some ⟨26, 3, [[.ro (.sl 40 2 (a0.Sigs.map MSig.ct)), .ro (.sl 42 2 (a0.Classes.map MCls.ct)), .ro (.sl 33 2 (a0.Funcs.map MFun.ct))]]⟩)], 1⟩ ?_ ?_
  · refine w_region (by rfl) (dv1 (l_move (.ad _ _ _ _)) (dv1 (l_ptrAd (by kernel_rfl) A) (dv1 (l_move (.v _)) (dv1 (l_gT A A A fun _ => l_move (.ad _ _ _ _)) (dv1 (l_gT A A A fun _ => l_nil A) (dv1 (l_gT A A A fun _ => l_field fd26_2 A) (dv1 (l_gT A A A fun _ => l_load ty24 A A A A A) (dv1 (l_gT A A A fun _ => l_lenRo sl24 A A (List.length_map _)) ?_))))))))
    refine dv1 (l_gT A A A fun _ => l_bin A A b_eql) (dv1 (l_pickF A (.v _)) (dv1 (l_move (.v _)) ?_))
    rcases condE hF with ⟨b4, hF⟩ | ⟨b4, hF⟩
    · refine dv1 (l_gF A A (gt A b4) A) (dv1 (l_gF A A (gt A b4) A) (dv1 (l_gF A A (gt A b4) A) (dv1 (l_pickT (gt A b4) (.v _)) (dvE ?_))))
      cases hF
      refine q_join ?_
      exact (le_of [(0, some 0)] A (.s (.s (.s .nil A) A) A) (.box A A (.s A) .nil))
    · refine dv1 (l_gT A A (gt A b4) fun _ => l_move (.ad _ _ _ _)) ?_
      obtain ⟨y5, h6, hF⟩ := bindE hF
      refine dvC (l_gTC A A (gt A b4) fun _ => (l_call (B := true) (FnI.mk' (by kernel_rfl)) (.cons (.ad _ _ _ _) (.one (.ad A A A (cl1 (.ro _ A) (cl1 (.ro _ A) (cl1 (.ro _ A) (cl0 (b := true))))))) (.cons (.v _) (.one (.v _)) .nil)) (AC.rd (p_R05_Small_ac h6) (.cons (.rp (.cons (Wk.ro (Wk.refl _)) (.cons (Wk.ro (Wk.refl _)) (.cons (Wk.ro (Wk.refl _)) .nil)))) (.cons (Wk.refl _) .nil))) (okT p_R05_Small_ok))) ?_
      rintro _ rfl
      refine dv1 (l_gT A A (gt A b4) fun _ => l_not A) (dv1 (l_pickF (gt A b4) (.v _)) (dvE ?_))
      cases hF
      refine q_join ?_
      exact (le_of [(0, some 0)] A (.s (.s (.s .nil A) A) A) (.box A A (.s A) .nil))
  replace hF := hG3
  rcases condE hF with ⟨b7, hF⟩ | ⟨b7, hF⟩
  · refine w_condT A b7 ?_
    refine w_seq (w_region (by rfl) (dv1 (l_build st33 zt33 .nil A A) ?_))
    obtain ⟨y8, h9, hF⟩ := bindE hF
    refine dvC (l_call (B := false) (FnI.mk' (by kernel_rfl)) (.cons (.ag _) (.ag (.cons (.v _) (.cons (.v _) .nil))) .nil) (AC.rd (p_clean_Idle_ac h9) (.cons (Wk.ag (.cons (Wk.refl _) (.cons (Wk.nil _ _) .nil))) .nil)) (okF p_clean_Idle_ok)) ?_
    rintro _ rfl
    refine dv1 (l_lenR sl29 A A (List.length_map _)) (dv1 (l_bin A A b_eql) (dv1 (l_assign (.v _)) (dvE (q_seq (w_ret (q_reS ?_))))))
    cases hF
    refine q_end (.inr A) ?_
    exact ret_ok A (.cons (.tmp (.v _) (.v _)) .nil) (by decide) A
  · refine w_condF A b7 ?_
    refine w_skip (q_seq (w_seq (w_draw [[], [0], [0, 1], [0, 1, 2], [], [4], [], [6], [6, 7], [6, 7, 8], [6, 7, 8, 9], [4, 5, 6, 7, 8, 9, 10], [0, 1, 2, 3, 4, 5, 6, 7, 8, 9, 10, 11], [0, 1, 2, 3, 4, 5, 6, 7, 8, 9, 10, 11, 12], [], [0, 1, 2, 3, 4, 5, 6, 7, 8, 9, 10, 11, 12, 13, 14]] [0, 1, 2, 3, 4, 5, 6, 7, 8, 9, 10, 11, 12, 13, 14, 15] (by kernel_rfl) (by rfl) ⟨by decide, by rfl⟩ (by rfl) ?_)))
    refine de1 A (l_move (.ad _ _ _ _)) A (de1 A (l_nil A) A (de1 A (l_field fd26_2 A) A (de1 A (l_load ty24 A A A A A) A (de1 A (l_move (.v _)) A (de1 A (l_conv (k2 := .i64) (by kernel_rfl) (by kernel_rfl) A A) A (de1 A (l_move (.ad _ _ _ _)) A (de1 A (l_nil A) A (de1 A (l_field fd26_2 A) A ?_))))))))
    refine de1 A (l_load ty24 A A A A A) A (de1 A (l_lenRo sl24 A A (List.length_map _)) A ?_)
    obtain ⟨c10, hF⟩ := ckE hF
    refine de1 A (l_bin A A (b_rem c10 A)) A ?_
    obtain ⟨x11, h12, hF⟩ := bindE hF
    refine de1 A (l_indexRo ((Int.tmod (IntKind.i64.wrap a1) ((a0.Funcs.length : Nat) : Int)).toNat) sl24 A A (atI_z h12) (map_at (atI_at h12))) A (de1 A (l_loadARo ty33 A A) A (deN A (l_alloc zt33) A (deS A (l_store ty33 A (.ag _) A A A (Nat.le_of_ble_eq_true A) A) A (ddE (q_seq (w_seq (w_region (by rfl) (dv1 (l_loadA ty33 A A A A A) ?_))))))))
    obtain ⟨y13, h14, hF⟩ := bindE hF
    refine dvC (l_call (B := false) (FnI.mk' (by kernel_rfl)) (.cons (.ag _) (.ag (.cons (.v _) (.cons (.ro _) .nil))) .nil) (p_clean_Func_ac h14) (okF p_clean_Func_ok)) ?_
    rintro _ rfl
    refine dvN (l_alloc zt33) (dvS (l_store ty33 A (.ag _) A A A (Nat.le_of_ble_eq_true A) A) (dvE (q_seq ?_)))
    obtain ⟨s16, hF, hG17⟩ := bindE hF
    refine w_seqJ ⟨[(4, .v (.bool s16))], [], 1⟩ ?_ ?_
    · refine w_draw [[], [0], [], [0, 1, 2], [0, 1, 2, 3], [0, 1, 2, 3, 4], [0, 1, 2, 3, 4, 5], [0, 1, 2, 3, 4, 5, 6], [0, 1, 2, 3, 4, 5], [0, 1, 2, 3, 4, 5, 6, 7, 8], [0, 1, 2, 3, 4, 5], [0, 1, 2, 3, 4, 5, 6, 7, 8, 9, 10], [0, 1, 2, 3, 4, 5, 6, 7, 8, 9, 10, 11], [0, 1, 2, 3, 4, 5, 6, 7, 8, 9, 10, 11, 12], [0, 1, 2, 3, 4, 5, 6, 7, 8, 9, 10, 11, 12, 13], [0, 1, 2, 3, 4, 5, 6, 7, 8, 9, 10, 11, 12, 13, 14], [0, 1, 2, 3, 4, 5, 6, 7, 8, 9, 10, 11, 12, 13, 14, 15], [0, 1, 2, 3, 4, 5, 6, 7, 8, 9, 10, 11, 12, 13, 14, 15, 16], [0, 1, 2, 3, 4, 5, 6, 7, 8, 9, 10, 11, 12, 13, 14, 15, 16, 17], [0, 1, 2, 3, 4, 5, 6, 7, 8, 9, 10, 11, 12, 13, 14, 15, 16, 17, 18], [0, 1, 2, 3, 4, 5, 6, 7, 8, 9, 10, 11, 12, 13, 14, 15, 16, 17, 18, 19]] [0, 2, 1, 3, 4, 5, 6, 8, 10, 7, 9, 11, 12, 13, 14, 15, 16, 17, 18, 19, 20] (by kernel_rfl) (by rfl) ⟨by decide, by rfl⟩ (by rfl) ?_
      refine de1 A (l_loadA ty33 A A A A A) A (de1 A (l_loadA ty33 A A A A A) A ?_)
      obtain ⟨y18, h19, hF⟩ := bindE hF
      refine deC1 A (l_call (B := false) (FnI.mk' (by kernel_rfl)) (.cons (.ag _) (.ag (.cons (.v _) (.cons (.ro _) .nil))) .nil) (p_clean_Idle_ac h19) (okF p_clean_Idle_ok)) A ?_
      obtain ⟨y20, h21, hF⟩ := bindE hF
      refine deC1 A (l_call (B := false) (FnI.mk' (by kernel_rfl)) (.cons (.ag _) (.ag (.cons (.v _) (.cons (.ro _) .nil))) .nil) (p_R17_Idle_ac h21) (okF p_R17_Idle_ok)) A ?_
      obtain ⟨y22, h23, hF⟩ := bindE hF
      refine deC1 A (l_call (B := true) (FnI.mk' (by kernel_rfl)) (.cons (.rf _ _ _ _) (.one (.rf A A A (clm k_iC _))) (.cons (.rf _ _ _ _) (.one (.rf A A A (clm k_iC _))) .nil)) (p_R04_Ints_ac h23) (okT p_R04_Ints_ok)) A ?_
      refine de1 A (l_move (.v _)) A ?_
      rcases condE hF with ⟨b24, hF⟩ | ⟨b24, hF⟩
      · refine de1 A (l_gT A A (gt A b24) fun _ => l_loadA ty33 A A A A A) A (de1 A (l_gT A A (gt A b24) fun _ => l_loadA ty33 A A A A A) A (de1 A (l_gT A A (gt A b24) fun _ => l_loadA ty33 A A A A A) A ?_))
        obtain ⟨y25, h26, hF⟩ := bindE hF
        refine deC1 A (l_gTC A A (gt A b24) fun _ => (l_call (B := false) (FnI.mk' (by kernel_rfl)) (.cons (.ag _) (.ag (.cons (.v _) (.cons (.ro _) .nil))) .nil) (p_clean_Dead_ac h26) (okF p_clean_Dead_ok))) A ?_
        obtain ⟨y27, h28, hF⟩ := bindE hF
        refine deC1 A (l_gTC A A (gt A b24) fun _ => (l_call (B := false) (FnI.mk' (by kernel_rfl)) (.cons (.ag _) (.ag (.cons (.v _) (.cons (.ro _) .nil))) (.cons (.v _) (.one (.v _)) .nil)) (p_R17_Steps_ac h28) (okF p_R17_Steps_ok))) A ?_
        obtain ⟨y29, h30, hF⟩ := bindE hF
        refine deC1 A (l_gTC A A (gt A b24) fun _ => (l_call (B := false) (FnI.mk' (by kernel_rfl)) (.cons (.ag _) (.ag (.cons (.v _) (.cons (.ro _) .nil))) (.cons (.v _) (.one (.v _)) .nil)) (p_R17_Steps_ac h30) (okF p_R17_Steps_ok))) A ?_
        refine de1 A (l_gT A A (gt A b24) fun _ => l_bin A A (b_sub A)) A (de1 A (l_gT A A (gt A b24) fun _ => l_bin A A b_eql) A (de1 A (l_pickT (gt A b24) (.v _)) A (de1 A (l_move (.v _)) A ?_)))
        rcases condE hF with ⟨b31, hF⟩ | ⟨b31, hF⟩
        · refine de1 A (l_gT A A (gt A b31) fun _ => l_loadA ty33 A A A A A) A ?_
          obtain ⟨y32, h33, hF⟩ := bindE hF
          refine deC1 A (l_gTC A A (gt A b31) fun _ => (l_call (B := false) (FnI.mk' (by kernel_rfl)) (.cons (.ag _) (.ag (.cons (.v _) (.cons (.ro _) .nil))) .nil) (p_clean_Dead_ac h33) (okF p_clean_Dead_ok))) A ?_
          refine de1 A (l_gT A A (gt A b31) fun _ => l_bin A A b_geq) A (de1 A (l_pickT (gt A b31) (.v _)) A (de1 A (l_assign (.v _)) A (ddE ?_)))
          cases hF
          refine q_join ?_
          exact (le_of [] A (.s .nil A) .nil)
        · refine de1 A (l_gF A A (gt A b31) A) A (de1 A (l_gF A A (gt A b31) A) A (de1 A (l_gF A A (gt A b31) A) A (de1 A (l_pickF (gt A b31) (.v _)) A (de1 A (l_assign (.v _)) A (ddE ?_)))))
          cases hF
          refine q_join ?_
          exact (le_of [] A (.s .nil A) .nil)
      · refine de1 A (l_gF A A (gt A b24) A) A (de1 A (l_gF A A (gt A b24) A) A (de1 A (l_gF A A (gt A b24) A) A (de1 A (l_gF A A (gt A b24) A) A (de1 A (l_gF A A (gt A b24) A) A (de1 A (l_gF A A (gt A b24) A) A (de1 A (l_gF A A (gt A b24) A) A (de1 A (l_gF A A (gt A b24) A) A (de1 A (l_pickF (gt A b24) (.v _)) A ?_))))))))
        refine de1 A (l_move (.v _)) A (de1 A (l_gF A A A A) A (de1 A (l_gF A A A A) A (de1 A (l_gF A A A A) A (de1 A (l_pickF A (.v _)) A (de1 A (l_assign (.v _)) A (ddE ?_))))))
        cases hF
        refine q_join ?_
        exact (le_of [] A (.s .nil A) .nil)
    replace hF := hG17
    refine w_ret ?_
    cases hF
    refine q_end (.inr A) ?_
    exact ret_ok A (.cons (.tmp (.v _) (.v _)) .nil) (by decide) A
end Go.Proofs.YtpeafglbhjjbhaaDoor

