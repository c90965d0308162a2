/- Functions (printed by wip/auto/am.py). -/
import Derived.Test.YtpeafglbhjjbhaaDoorFC0
namespace Go.Proofs.YtpeafglbhjjbhaaDoor
open Go Go.RowKit

def p_tidy_named (a0 : List Int) : Option (((List Int))) :=
some a0

theorem p_tidy_named_ok {r : ((List Int))} : rOk (.fn (.func 61) [] [.ro (.rp (lC_iC r) 0)]) = true ∧ True := ⟨rfl, trivial⟩

set_option maxRecDepth 10000 in
set_option maxHeartbeats 4000000 in
theorem p_tidy_named_ac {a0 : List Int} {r : ((List Int))} (hF : p_tidy_named a0 = some r) : AC Tryd.prog GT 43 [.sl 3 1 (a0.map iC)] (fun c => c = .fn (.func 61) [] [.ro (.rp (lC_iC r) 0)]) := by
  unfold p_tidy_named at hF
  refine AC.mk (nt := 4) Tryd.func43 A A A fun w N => ?_
  refine w_seq (w_region (by rfl) (dvN (l_box (.ro _) A A) (dv1 (l_assign (.v _)) (dvE (q_seq (w_seq (w_region (by rfl) (dvG (le_freeze 0 [(1, .ro (.rp [.ro (.sl 3 1 (a0.map iC))] 0))] A (cl1 (.ro _ A) (cl0 (b := true))) (List.forall_mem_cons.2 ⟨⟨0, A, A⟩, (fun _ h => nomatch h)⟩)) ?_))))))))
  refine dvG (le_wk 1 (c' := .rp (lC_iC a0) 0) A (.rp (.cons (Wk.ro (Wk.refl _)) .nil))) ?_
  refine dv1 (l_fnE (f := 61) (.cons (.ro _) .nil)) (dv1 (l_assign (.fn _ _ _)) (dvE (q_seq (w_ret ?_))))
  cases hF
  refine q_end (.inr A) ?_
  exact ret_ok A (.cons (.tmp (.fn _ _ _) (.fn _ (capB_ok A))) .nil) (by decide) A

def p_tidy_itself (a0 : Int) : Option Int :=
some a0

theorem p_tidy_itself_ok {r : Int} : rOk (.v (.int .i64 r)) = true ∧ FrT (.v (.int .i64 r)) := ⟨rfl, (.one (.cl (.v _)))⟩

set_option maxRecDepth 10000 in
set_option maxHeartbeats 4000000 in
theorem p_tidy_itself_ac {a0 : Int} {r : Int} (hF : p_tidy_itself a0 = some r) : AC Tryd.prog GT 29 [.v (.int .i64 a0)] (fun c => c = .v (.int .i64 r)) := by
  unfold p_tidy_itself at hF
  refine AC.mk (nt := 4) Tryd.func29 A A A fun w N => ?_
  refine w_seq (w_region (by rfl) (dv1 (l_assign (.v _)) (dvE (q_seq (w_seq (w_region (by rfl) (dv1 (l_move (.v _)) (dv1 (l_assign (.v _)) ?_))))))))
  refine dvE (q_seq (w_ret ?_))
  cases hF
  refine q_end (.inr A) ?_
  exact ret_ok A (.cons (.tmp (.v _) (.v _)) .nil) (by decide) A

def p_tidy_span (a0 : MFun) (a1 : Int) : Option ((List Int)) :=
((((p_code_First a0 a1).bind fun y4 =>
(loop (fun (s3006 : (List Int) × Int) =>
((p_code_First a0 (IntKind.i64.wrap (a1 + 1))).bind fun y3010 =>
(bif decide (s3006.2 < y3010) then
(ck ((s3006.1.length + 1) * 8 ≤ 140737488355328)
(some (Xt.go ((s3006.1 ++ [s3006.2]), IntKind.i64.wrap (s3006.2 + 1)))))
else
some (Xt.out s3006.1)))) Fu ([], y4)))).bind fun (s2 : (List Int)) =>
some s2)

theorem p_tidy_span_ok {r : (List Int)} : rOk (.sl 3 1 (r.map iC)) = true ∧ FrT (.sl 3 1 (r.map iC)) := ⟨rfl, (.one (.cl (.sl _ _ (clm k_iC _))))⟩

set_option maxRecDepth 10000 in
set_option maxHeartbeats 4000000 in
theorem p_tidy_span_ac {a0 : MFun} {a1 : Int} {r : (List Int)} (hF : p_tidy_span a0 a1 = some r) : AC Tryd.prog GT 52 [.ag (MFun.ct a0), .v (.int .i64 a1)] (fun c => c = .sl 3 1 (r.map iC)) := by
  unfold p_tidy_span at hF
  refine AC.mk (nt := 23) Tryd.func52 A A A fun w N => ?_
  refine w_seq (w_region (by rfl) (dvN (l_box (.ag _) A A) (dv1 (l_assign (.v _)) (dvE (q_seq (w_seq (w_region (by rfl) (dv1 (l_assign (.v _)) ?_))))))))
  refine dvE (q_seq ?_)
  obtain ⟨s2, hF, hG3⟩ := bindE hF
  refine w_seqJ ⟨[(5, .rf 0 0 ((s2.map iC).length) 1)], [(0, some ⟨3, 1, s2.map iC⟩)], 1⟩ ?_ ?_
  · refine w_seq (w_region (by rfl) (dv1 (l_loadA ty33 A A A A A) (dv1 (l_move (.v _)) ?_)))
    obtain ⟨y4, h5, hF⟩ := bindE hF
    refine dvC (l_call (B := false) (FnI.mk' (by kernel_rfl)) (.cons (.ag _) (.ag (.cons (.v _) (.cons (.ro _) .nil))) (.cons (.v _) (.one (.v _)) .nil)) (p_code_First_ac h5) (okF p_code_First_ok)) ?_
    rintro _ rfl
    refine dv1 (l_assign (.v _)) (dvE (q_seq (w_block (w_loopF hF (fun (s3006 : (List Int) × Int) => ⟨[(1, .v (.int .i64 a1)), (2, .ad 0 2 0 0), (5, .rf 1 0 ((s3006.1.map iC).length) 1), (6, .v (.int .i64 s3006.2))], [(0, some ⟨33, 2, [[.v (.int .i64 a0.Ret), .ro (.sl 47 8 (a0.Blocks.map MBlk.ct))]]⟩), (1, some ⟨3, 1, s3006.1.map iC⟩)], 1⟩) (le_of [(0, some 0), (1, none)] A (.s (.s (.cons (.v _) (.nil ⟨by simp, A⟩) (.s .nil A)) A) A) (.box A A (.s A) (.new ⟨by simp, A⟩ .nil))) ?_))))
    intro s3006 y3007 hF hx3008
    refine w_seq (w_seq (w_region (by rfl) (dv1 (l_move (.v _)) (dv1 (l_loadA ty33 A A A A A) (dv1 (l_move (.v _)) (dv1 (l_bin A A (b_add A)) ?_))))))
    obtain ⟨y3010, h3011, hF⟩ := bindE hF
    refine dvC (l_call (B := false) (FnI.mk' (by kernel_rfl)) (.cons (.ag _) (.ag (.cons (.v _) (.cons (.ro _) .nil))) (.cons (.v _) (.one (.v _)) .nil)) (p_code_First_ac h3011) (okF p_code_First_ok)) ?_
    rintro _ rfl
    refine dv1 (l_bin A A b_lss) (dvE (q_seq ?_))
    rcases condE hF with ⟨b3012, hF⟩ | ⟨b3012, hF⟩
    · refine w_condT A b3012 ?_
      refine w_skip (q_seq (w_seq (w_block (w_region (by rfl) (dv1 (l_move (.rf _ _ _ _)) (dv1 (l_move (.v _)) (dvN (l_bs1 sl29 zt3 A (.v _) A A A (by decide) (by decide)) ?_)))))))
      obtain ⟨c3013, hF⟩ := ckE hF
      refine dvN3 (l_app1R el29 A A A A A A (by decide) (map_snoc iC _ s3006.2) (List.length_map _) (by simpa using c3013) (by decide)) ?_
      refine dv1 (l_assign (.rf _ _ _ _)) (dvE (q_in (q_seq (w_region (by rfl) (dv1 (l_move (.v _)) (dv1 (l_bin A A (b_add A)) (dv1 (l_assign (.v _)) (dvE ?_))))))))
      cases hF
      refine qL A ?_
      exact (le_of [(0, some 0), (1, some 640)] A (.s (.s (.cons (.rf _ _ _ _) (.rf A (by simp)) (.s .nil A)) A) A) (.box A A (.s A) (.row A A A (clm k_iC _) .nil)))
    · refine w_condF A b3012 ?_
      refine w_exit ?_
      cases hF
      cases hx3008 _ rfl
      refine q_exS (q_exS (q_here (q_join ?_)))
      exact (le_of [(0, some 1)] A (.s .nil A) (.row A A A (clm k_iC _) .nil))
  replace hF := hG3
  refine w_seq (w_region (by rfl) (dv1 (l_move (.rf _ _ _ _)) (dv1 (l_assign (.rf _ _ _ _)) (dvE (q_seq (w_ret ?_))))))
  cases hF
  refine q_end (.inr A) ?_
  exact ret_ok A (.cons (.tmp (.rf _ _ _ _) (.rf A A (clm k_iC _))) .nil) (by decide) A

def p_tidy_named_1 (a0 : Int) (c0 : List Int) : Option Int :=
(((bif decide ((0 : Int) ≤ a0) then
some (decide (a0 < ((c0.length : Nat) : Int)))
else
some false)).bind fun (s18100 : Bool) =>
(bif s18100 then
((atI c0 a0).bind fun x18104 =>
some x18104)
else
some a0))

theorem p_tidy_named_1_ok {r : Int} : rOk (.v (.int .i64 r)) = true ∧ FrT (.v (.int .i64 r)) := ⟨rfl, (.one (.cl (.v _)))⟩

set_option maxRecDepth 10000 in
set_option maxHeartbeats 4000000 in
theorem p_tidy_named_1_ac {a0 : Int} {c0 : List Int} {r : Int} (hF : p_tidy_named_1 a0 c0 = some r) : AC Tryd.prog GT 61 [.v (.int .i64 a0), .rp (lC_iC c0) 0] (fun c => c = .v (.int .i64 r)) := by
  unfold p_tidy_named_1 at hF
  refine AC.mk (nt := 17) Tryd.func61 A A A fun w N => ?_
  refine w_seq (w_region (by rfl) (dv1 (l_assign (.v _)) (dvE (q_seq (w_seq ?_)))))
  obtain ⟨s18100, hF, hG18101⟩ := bindE hF
  refine w_seqJ ⟨[(0, .v (.int .i64 a0)), (1, .ro (.rp (lC_iC c0) 0)), (11, .v (.bool s18100))], [], 1⟩ ?_ ?_
  · refine w_region (by rfl) (dv1 (l_move (.v _)) (dv1 (l_bin A A b_geq) (dv1 (l_move (.v _)) ?_)))
    rcases condE hF with ⟨b18102, hF⟩ | ⟨b18102, hF⟩
    · refine dv1 (l_gT A A (gt A b18102) fun _ => l_move (.v _)) (dv1 (l_gT A A (gt A b18102) fun _ => l_loadRo ty29 A A) (dv1 (l_gT A A (gt A b18102) fun _ => l_lenRo sl29 A A (List.length_map _)) (dv1 (l_gT A A (gt A b18102) fun _ => l_bin A A b_lss) (dv1 (l_pickT (gt A b18102) (.v _)) (dvE ?_)))))
      cases hF
      refine q_join ?_
      exact (le_of [] A (.s (.s (.s .nil A) A) A) .nil)
    · refine dv1 (l_gF A A (gt A b18102) A) (dv1 (l_gF A A (gt A b18102) A) (dv1 (l_gF A A (gt A b18102) A) (dv1 (l_gF A A (gt A b18102) A) (dv1 (l_pickF (gt A b18102) (.v _)) (dvE ?_)))))
      cases hF
      refine q_join ?_
      exact (le_of [] A (.s (.s (.s .nil A) A) A) .nil)
  replace hF := hG18101
  rcases condE hF with ⟨b18103, hF⟩ | ⟨b18103, hF⟩
  · refine w_condT A b18103 ?_
    refine w_seq (w_region (by rfl) (dv1 (l_loadRo ty29 A A) (dv1 (l_move (.v _)) ?_)))
    obtain ⟨x18104, h18105, hF⟩ := bindE hF
    refine dv1 (l_indexRo a0.toNat sl29 A A (atI_z h18105) (map_at (atI_at h18105))) (dv1 (l_loadRo ty3 A A) (dv1 (l_assign (.v _)) (dvE (q_seq (w_ret (q_reS ?_))))))
    cases hF
    refine q_end (.inr A) ?_
    exact ret_ok A (.cons (.tmp (.v _) (.v _)) .nil) (by decide) A
  · refine w_condF A b18103 ?_
    refine w_skip (q_seq (w_seq (w_region (by rfl) (dv1 (l_move (.v _)) (dv1 (l_assign (.v _)) (dvE (q_seq (w_ret ?_))))))))
    cases hF
    refine q_end (.inr A) ?_
    exact ret_ok A (.cons (.tmp (.v _) (.v _)) .nil) (by decide) A

def p_tidy_end_1 (a0 : List Int) (c0_0 : List Int) : Option ((List Int)) :=
((p_slices_Clone_int_int a0).bind fun y18111 =>
(((loop (fun (s22116 : (List Int) × Int) =>
(bif decide (s22116.2 < ((y18111.length : Nat) : Int)) then
((atI s22116.1 s22116.2).bind fun x22121 =>
((p_tidy_named_1 x22121 c0_0).bind fun y22123 =>
some (Xt.go ((s22116.1.set s22116.2.toNat y22123), IntKind.i64.wrap (s22116.2 + 1)))))
else
some (Xt.out s22116.1))) Fu (y18111, 0))).bind fun (s18114 : (List Int)) =>
some s18114))

theorem p_tidy_end_1_ok {r : (List Int)} : rOk (.sl 3 1 (r.map iC)) = true ∧ FrT (.sl 3 1 (r.map iC)) := ⟨rfl, (.one (.cl (.sl _ _ (clm k_iC _))))⟩

set_option maxRecDepth 10000 in
set_option maxHeartbeats 4000000 in
theorem p_tidy_end_1_ac {a0 : List Int} {c0_0 : List Int} {r : (List Int)} (hF : p_tidy_end_1 a0 c0_0 = some r) : AC Tryd.prog GT 59 [.sl 3 1 (a0.map iC), .rp [.fn (.func 61) [] [.rp (lC_iC c0_0) 0]] 0] (fun c => c = .sl 3 1 (r.map iC)) := by
  unfold p_tidy_end_1 at hF
  refine AC.mk (nt := 23) Tryd.func59 A A A fun w N => ?_
  refine w_seq (w_region (by rfl) (dv1 (l_assign (.v _)) (dvE (q_seq (w_seq (w_region (by rfl) (dv1 (l_move (.ro _)) ?_)))))))
  obtain ⟨y18111, h18112, hF⟩ := bindE hF
  refine dvC (l_call (B := false) (FnI.mk' (by kernel_rfl)) (.cons (.ro _) (.one (.ro _)) .nil) (p_slices_Clone_int_int_ac h18112) (okF p_slices_Clone_int_int_ok)) ?_
  rintro _ rfl
  refine dv1 (l_assign (.rf _ _ _ _)) (dvE (q_seq ?_))
  obtain ⟨s18114, hF, hG18115⟩ := bindE hF
  refine w_seqJ ⟨[(0, .rf 0 0 ((s18114.map iC).length) 1)], [(0, some ⟨3, 1, s18114.map iC⟩)], 1⟩ ?_ ?_
  · refine w_seq (w_region (by rfl) (dv1 (l_move (.rf _ _ _ _)) (dv1 (l_lenR sl29 A A (List.length_map _)) (dv1 (l_move (.v _)) (dvE (q_seq (w_block (w_loopF hF (fun (s22116 : (List Int) × Int) => ⟨[(0, .rf 0 0 ((s22116.1.map iC).length) 1), (1, .ro (.rp [.fn (.func 61) [] [.rp (lC_iC c0_0) 0]] 0)), (8, .v (.int .i64 ((y18111.length : Nat) : Int))), (9, .v (.int .i64 s22116.2))], [(0, some ⟨3, 1, s22116.1.map iC⟩)], 1⟩) (le_of [(0, some 128)] A (.s (.s (.s (.s .nil A) A) A) A) (.row A A A (clm k_iC _) .nil)) ?_))))))))
    intro s22116 y22117 hF hx22118
    refine w_seq (w_region (by rfl) (dv1 (l_bin A A b_lss) (dvE (q_seq (w_seq ?_)))))
    rcases condE hF with ⟨b22120, hF⟩ | ⟨b22120, hF⟩
    · refine w_condT A b22120 ?_
      refine w_skip (q_seq (w_seq (w_block (w_seq (w_region (by rfl) (dv1 (l_move (.v _)) (dv1 (l_assign (.v _)) (dvE ?_))))))))
      refine q_seq (w_draw [[], [], [], [], [], [3, 4], [3, 4, 5], [2, 3, 4, 5, 6], [0, 1, 2, 3, 4, 5, 6, 7], [0, 1, 2, 3, 4, 5, 6, 7, 8]] [0, 1, 2, 3, 4, 5, 6, 7, 8, 9] (by kernel_rfl) (by rfl) ⟨by decide, by rfl⟩ (by rfl) ?_)
      refine de1 A (l_move (.rf _ _ _ _)) A (de1 A (l_move (.v _)) A (de1 A (l_loadRo ty62 A A) A (de1 A (l_move (.rf _ _ _ _)) A (de1 A (l_move (.v _)) A ?_))))
      obtain ⟨x22121, h22122, hF⟩ := bindE hF
      refine de1 A (l_index s22116.2.toNat sl29 A A (atI_z h22122) (lt_at iC (atI_at h22122))) A (de1 A (l_load ty3 A A (map_at (atI_at h22122)) A A) A ?_)
      obtain ⟨y22123, h22124, hF⟩ := bindE hF
      refine deC1 A (l_callV (B := false) (caps := [.rp (lC_iC c0_0) 0]) (FnI.mk' (by kernel_rfl)) (.ro _) (.ro _ _) (.cons (.v _) (.one (.v _)) .nil) (p_tidy_named_1_ac h22124) (okF p_tidy_named_1_ok)) A ?_
      refine de1 A (l_index s22116.2.toNat sl29 A A (atI_z h22122) (lt_at iC (atI_at h22122))) A (deS A (l_storeR ty3 A (.v _) A (map_at (atI_at h22122)) A (Nat.le_of_ble_eq_true A) A (map_set' iC s22116.1 s22116.2.toNat y22123)) A (ddE (q_in (q_seq (w_region (by rfl) (dv1 (l_bin A A (b_add A)) (dv1 (l_move (.v _)) (dvE ?_))))))))
      cases hF
      refine qL A ?_
      exact (le_of [(0, some 0)] A (.cons (.rf _ _ _ _) (.rf A (by simp)) (.s (.s (.s .nil A) A) A)) (.row A A A (clm k_iC _) .nil))
    · refine w_condF A b22120 ?_
      refine w_exit ?_
      cases hF
      cases hx22118 _ rfl
      refine q_exS (q_exS (q_here (q_join ?_)))
      exact (le_of [(0, some 0)] A (.s .nil A) (.row A A A (clm k_iC _) .nil))
  replace hF := hG18115
  refine w_seq (w_region (by rfl) (dv1 (l_move (.rf _ _ _ _)) (dv1 (l_assign (.rf _ _ _ _)) (dvE (q_seq (w_ret ?_))))))
  cases hF
  refine q_end (.inr A) ?_
  exact ret_ok A (.cons (.tmp (.rf _ _ _ _) (.rf A A (clm k_iC _))) .nil) (by decide) A

def p_tidy_end_t1 (a0_0 : Int) (a1_0 : Int) (a1_1 : Int) (a1_2 : Int) (a1_3 : Int) (a1_4 : List Int) (a1_5 : List Int) (a2_0 : List Int) : Option MEnd :=
(((((bif decide (a1_0 = 1) then
some true
else
(bif decide (a1_0 = 3) then
some true
else
(bif decide (a1_0 = 2) then
some (!(decide (a0_0 = (-1))))
else
some false)))).bind fun (s5 : Bool) =>
(bif s5 then
((p_tidy_named_1 a1_1 a2_0).bind fun y11 =>
some y11)
else
some a1_1))).bind fun (s2 : Int) =>
(((((bif decide (a1_0 = 0) then
some true
else
some (decide (a1_0 = 1)))).bind fun (s18 : Bool) =>
(bif s18 then
((p_tidy_itself a1_2).bind fun y22 =>
((p_tidy_end_1 a1_4 a2_0).bind fun y24 =>
some (y22, y24)))
else
some (a1_2, a1_4)))).bind fun (s15 : Int × (List Int)) =>
(((bif decide (a1_0 = 1) then
((p_tidy_itself a1_3).bind fun y31 =>
((p_tidy_end_1 a1_5 a2_0).bind fun y33 =>
some (y31, y33)))
else
some (a1_3, a1_5))).bind fun (s28 : Int × (List Int)) =>
some (⟨a1_0, s2, s15.1, s28.1, s15.2, s28.2⟩ : MEnd))))

theorem p_tidy_end_t1_sok {r : MEnd} : rOk (.ag (MEnd.ct r)) = true ∧ True := ⟨rfl, trivial⟩

set_option maxRecDepth 10000 in
set_option maxHeartbeats 4000000 in
theorem p_tidy_end_t1_sc {a0_0 : Int} {a1_0 : Int} {a1_1 : Int} {a1_2 : Int} {a1_3 : Int} {a1_4 : List Int} {a1_5 : List Int} {a2_0 : List Int} {n_0 : Nat} {r : MEnd} (hF : p_tidy_end_t1 a0_0 a1_0 a1_1 a1_2 a1_3 a1_4 a1_5 a2_0 = some r) : SC Tryd.prog GT 42 [.ag [.v (.int .i64 a0_0), .rf 0 0 n_0 8], .ag [.v (.int .i64 a1_0), .v (.int .i64 a1_1), .v (.int .i64 a1_2), .v (.int .i64 a1_3), .rf 1 0 ((a1_4.map iC).length) 1, .rf 2 0 ((a1_5.map iC).length) 1], .fn (.func 61) [] [.ro (.rp (lC_iC a2_0) 0)], .v (.func (.func 29) #[] #[])] [(1, some ⟨3, 1, a1_4.map iC⟩), (2, some ⟨3, 1, a1_5.map iC⟩)] (fun c gb => c = .ag (MEnd.ct r) ∧ gb = []) := by
  unfold p_tidy_end_t1 at hF
  refine SC.mk (nt := 66) [] Tryd.func42 A A A A fun w M N g => ?_
  refine w_seq (w_region (by rfl) (dvN (l_box (.ag _) A A) (dvN (l_box (.ag _) A A) (dvN (l_box (.fn _ _ _) A A) (dvN (l_alloc zt45) (dvE (q_seq ?_)))))))
  obtain ⟨s2, hF, hG3⟩ := bindE hF
  refine w_seqJ ⟨[(3, .v (.func (.func 29) #[] #[])), (5, .ad 3 6 0 0), (6, .ad 6 1 0 0), (8, .ad 7 6 0 0)], [(3, some ⟨45, 6, [[.v (.int .i64 a1_0), .v (.int .i64 s2), .v (.int .i64 a1_2), .v (.int .i64 a1_3), .rf 4 0 ((a1_4.map iC).length) 1, .rf 5 0 ((a1_5.map iC).length) 1]]⟩), (4, some ⟨3, 1, a1_4.map iC⟩), (5, some ⟨3, 1, a1_5.map iC⟩), (6, some ⟨62, 1, [[.fn (.func 61) [] [.ro (.rp (lC_iC a2_0) 0)]]]⟩), (7, some ⟨45, 6, [[.v (.int .i64 0), .v (.int .i64 0), .v (.int .i64 0), .v (.int .i64 0), .v (.slice none 0 0), .v (.slice none 0 0)]]⟩)], 1⟩ ?_ ?_
  · obtain ⟨s5, hF, hG6⟩ := bindE hF
    refine w_seqJ ⟨[(3, .v (.func (.func 29) #[] #[])), (5, .ad 3 6 0 0), (6, .ad 6 1 0 0), (8, .ad 7 6 0 0), (27, .v (.bool s5))], [(3, some ⟨45, 6, [[.v (.int .i64 a1_0), .v (.int .i64 a1_1), .v (.int .i64 a1_2), .v (.int .i64 a1_3), .rf 4 0 ((a1_4.map iC).length) 1, .rf 5 0 ((a1_5.map iC).length) 1]]⟩), (4, some ⟨3, 1, a1_4.map iC⟩), (5, some ⟨3, 1, a1_5.map iC⟩), (6, some ⟨62, 1, [[.fn (.func 61) [] [.ro (.rp (lC_iC a2_0) 0)]]]⟩), (7, some ⟨45, 6, [[.v (.int .i64 0), .v (.int .i64 0), .v (.int .i64 0), .v (.int .i64 0), .v (.slice none 0 0), .v (.slice none 0 0)]]⟩)], 1⟩ ?_ ?_
    · refine w_region (by rfl) (dv1 (l_field fd45_0 A) (dv1 (l_load ty3 A A A A A) (dv1 (l_bin A A b_eql) (dv1 (l_move (.v _)) ?_))))
      rcases condE hF with ⟨b7, hF⟩ | ⟨b7, hF⟩
      · refine dv1 (l_gF A A (gt A b7) A) (dv1 (l_gF A A (gt A b7) A) (dv1 (l_gF A A (gt A b7) A) (dv1 (l_pickT (gt A b7) (.v _)) (dv1 (l_move (.v _)) (dv1 (l_gF A A A A) (dv1 (l_gF A A A A) (dv1 (l_gF A A A A) (dv1 (l_gF A A A A) ?_))))))))
        refine dv1 (l_gU A A A) (dv1 (l_gU A A A) (dv1 (l_gU A A A) (dv1 (l_gF A A A A) (dv1 (l_pickT A (.v _)) (dvE ?_)))))
        cases hF
        refine q_join ?_
        exact (le_of [(3, some 128), (4, some 1), (5, some 2), (6, some 192), (7, some 256), (0, some 0)] A (.s (.s (.s (.s (.s .nil A) A) A) A) A) (.box A A (.s A) (.row A A A (clm k_iC _) (.row A A A (clm k_iC _) (.box A A (.s A) (.box A A (.s A) .nil))))))
      · refine dv1 (l_gT A A (gt A b7) fun _ => l_field fd45_0 A) (dv1 (l_gT A A (gt A b7) fun _ => l_load ty3 A A A A A) (dv1 (l_gT A A (gt A b7) fun _ => l_bin A A b_eql) (dv1 (l_pickF (gt A b7) (.v _)) (dv1 (l_move (.v _)) ?_))))
        rcases condE hF with ⟨b8, hF⟩ | ⟨b8, hF⟩
        · refine dv1 (l_gF A A (gt A b8) A) (dv1 (l_gF A A (gt A b8) A) (dv1 (l_gF A A (gt A b8) A) (dv1 (l_gF A A (gt A b8) A) (dv1 (l_gU A A A) (dv1 (l_gU A A A) (dv1 (l_gU A A A) (dv1 (l_gF A A (gt A b8) A) (dv1 (l_pickT (gt A b8) (.v _)) ?_))))))))
          refine dvE ?_
          cases hF
          refine q_join ?_
          exact (le_of [(3, some 128), (4, some 1), (5, some 2), (6, some 192), (7, some 256), (0, some 0)] A (.s (.s (.s (.s (.s .nil A) A) A) A) A) (.box A A (.s A) (.row A A A (clm k_iC _) (.row A A A (clm k_iC _) (.box A A (.s A) (.box A A (.s A) .nil))))))
        · refine dv1 (l_gT A A (gt A b8) fun _ => l_field fd45_0 A) (dv1 (l_gT A A (gt A b8) fun _ => l_load ty3 A A A A A) (dv1 (l_gT A A (gt A b8) fun _ => l_bin A A b_eql) (dv1 (l_gT A A (gt A b8) fun _ => l_move (.v _)) ?_)))
          rcases condE hF with ⟨b9, hF⟩ | ⟨b9, hF⟩
          · refine dv1 (l_gT A A (gt A b9) fun _ => l_field fd33_0 A) (dv1 (l_gT A A (gt A b9) fun _ => l_load ty3 A A A A A) (dv1 (l_gT A A (gt A b9) fun _ => l_bin A A b_neq) (dv1 (l_gT A A (gt A b8) fun _ => l_pickT (gt A b9) (.v _)) (dv1 (l_pickF (gt A b8) (.v _)) (dvE ?_)))))
            cases hF
            refine q_join ?_
            exact (le_of [(3, some 128), (4, some 1), (5, some 2), (6, some 192), (7, some 256), (0, some 0)] A (.s (.s (.s (.s (.s .nil A) A) A) A) A) (.box A A (.s A) (.row A A A (clm k_iC _) (.row A A A (clm k_iC _) (.box A A (.s A) (.box A A (.s A) .nil))))))
          · refine dv1 (l_gF A A (gt A b9) A) (dv1 (l_gF A A (gt A b9) A) (dv1 (l_gF A A (gt A b9) A) (dv1 (l_gT A A (gt A b8) fun _ => l_pickF (gt A b9) (.v _)) (dv1 (l_pickF (gt A b8) (.v _)) (dvE ?_)))))
            cases hF
            refine q_join ?_
            exact (le_of [(3, some 128), (4, some 1), (5, some 2), (6, some 192), (7, some 256), (0, some 0)] A (.s (.s (.s (.s (.s .nil A) A) A) A) A) (.box A A (.s A) (.row A A A (clm k_iC _) (.row A A A (clm k_iC _) (.box A A (.s A) (.box A A (.s A) .nil))))))
    replace hF := hG6
    rcases condE hF with ⟨b10, hF⟩ | ⟨b10, hF⟩
    · refine w_condT A b10 ?_
      refine w_region (by rfl) (dv1 (l_load ty62 A A A A A) (dv1 (l_field fd45_1 A) (dv1 (l_load ty3 A A A A A) ?_)))
      obtain ⟨y11, h12, hF⟩ := bindE hF
      refine dvC (l_callV (B := false) (caps := [.rp (lC_iC a2_0) 0]) (FnI.mk' (by kernel_rfl)) (.fn _ _ _) (.fn _ A) (.cons (.v _) (.one (.v _)) .nil) (p_tidy_named_1_ac h12) (okF p_tidy_named_1_ok)) ?_
      rintro _ rfl
      refine dv1 (l_field fd45_1 A) (dvS (l_store ty3 A (.v _) A A A (Nat.le_of_ble_eq_true A) A) (dvE ?_))
      cases hF
      refine q_join ?_
      exact (le_of [(3, some 3), (4, some 4), (5, some 5), (6, some 6), (7, some 7), (0, some 0)] A (.s (.s (.s (.s .nil A) A) A) A) (.box A A (.s A) (.row A A A (clm k_iC _) (.row A A A (clm k_iC _) (.box A A (.s A) (.box A A (.s A) .nil))))))
    · refine w_condF A b10 ?_
      refine w_skip ?_
      cases hF
      refine q_join ?_
      exact (le_of [(3, some 3), (4, some 4), (5, some 5), (6, some 6), (7, some 7), (0, some 0)] A (.s (.s (.s (.s .nil A) A) A) A) (.box A A (.s A) (.row A A A (clm k_iC _) (.row A A A (clm k_iC _) (.box A A (.s A) (.box A A (.s A) .nil))))))
  replace hF := hG3
  refine w_seq (w_region (by rfl) (dvG (le_freeze 6 [(6, .ro (.rp [.fn (.func 61) [] [.ro (.rp (lC_iC a2_0) 0)]] 0))] A (cl1 (.fn _ (capB_ok A)) cl0) (List.forall_mem_cons.2 ⟨⟨0, A, A⟩, (fun _ h => nomatch h)⟩)) ?_))
  refine dvG (le_wk 6 (c' := .rp [.fn (.func 61) [] [.rp (lC_iC a2_0) 0]] 0) A (.rp (.cons (Wk.fn _ (.cons (Wk.ro (Wk.refl _)) .nil)) .nil))) ?_
  refine dv1 (l_fnE (f := 59) (.cons (.ro _) .nil)) (dv1 (l_assign (.fn _ _ _)) (dvE (q_seq ?_)))
  obtain ⟨s15, hF, hG16⟩ := bindE hF
  refine w_seqJ ⟨[(3, .v (.func (.func 29) #[] #[])), (5, .ad 3 6 0 0), (8, .ad 6 6 0 0), (9, .fn (.func 59) [] [.ro (.rp [.fn (.func 61) [] [.rp (lC_iC a2_0) 0]] 0)])], [(3, some ⟨45, 6, [[.v (.int .i64 a1_0), .v (.int .i64 s2), .v (.int .i64 s15.1), .v (.int .i64 a1_3), .rf 4 0 ((s15.2.map iC).length) 1, .rf 5 0 ((a1_5.map iC).length) 1]]⟩), (4, some ⟨3, 1, s15.2.map iC⟩), (5, some ⟨3, 1, a1_5.map iC⟩), (6, some ⟨45, 6, [[.v (.int .i64 0), .v (.int .i64 0), .v (.int .i64 0), .v (.int .i64 0), .v (.slice none 0 0), .v (.slice none 0 0)]]⟩)], 1⟩ ?_ ?_
  · obtain ⟨s18, hF, hG19⟩ := bindE hF
    refine w_seqJ ⟨[(3, .v (.func (.func 29) #[] #[])), (5, .ad 3 6 0 0), (8, .ad 6 6 0 0), (9, .fn (.func 59) [] [.ro (.rp [.fn (.func 61) [] [.rp (lC_iC a2_0) 0]] 0)]), (41, .v (.bool s18))], [(3, some ⟨45, 6, [[.v (.int .i64 a1_0), .v (.int .i64 s2), .v (.int .i64 a1_2), .v (.int .i64 a1_3), .rf 4 0 ((a1_4.map iC).length) 1, .rf 5 0 ((a1_5.map iC).length) 1]]⟩), (4, some ⟨3, 1, a1_4.map iC⟩), (5, some ⟨3, 1, a1_5.map iC⟩), (6, some ⟨45, 6, [[.v (.int .i64 0), .v (.int .i64 0), .v (.int .i64 0), .v (.int .i64 0), .v (.slice none 0 0), .v (.slice none 0 0)]]⟩)], 1⟩ ?_ ?_
    · refine w_region (by rfl) (dv1 (l_field fd45_0 A) (dv1 (l_load ty3 A A A A A) (dv1 (l_bin A A b_eql) (dv1 (l_move (.v _)) ?_))))
      rcases condE hF with ⟨b20, hF⟩ | ⟨b20, hF⟩
      · refine dv1 (l_gF A A (gt A b20) A) (dv1 (l_gF A A (gt A b20) A) (dv1 (l_gF A A (gt A b20) A) (dv1 (l_pickT (gt A b20) (.v _)) (dvE ?_))))
        cases hF
        refine q_join ?_
        exact (le_of [(3, some 3), (4, some 4), (5, some 5), (6, some 7), (0, some 0)] A (.s (.s (.s (.s (.s .nil A) A) A) A) A) (.box A A (.s A) (.row A A A (clm k_iC _) (.row A A A (clm k_iC _) (.box A A (.s A) .nil)))))
      · refine dv1 (l_gT A A (gt A b20) fun _ => l_field fd45_0 A) (dv1 (l_gT A A (gt A b20) fun _ => l_load ty3 A A A A A) (dv1 (l_gT A A (gt A b20) fun _ => l_bin A A b_eql) (dv1 (l_pickF (gt A b20) (.v _)) (dvE ?_))))
        cases hF
        refine q_join ?_
        exact (le_of [(3, some 3), (4, some 4), (5, some 5), (6, some 7), (0, some 0)] A (.s (.s (.s (.s (.s .nil A) A) A) A) A) (.box A A (.s A) (.row A A A (clm k_iC _) (.row A A A (clm k_iC _) (.box A A (.s A) .nil)))))
    replace hF := hG19
    rcases condE hF with ⟨b21, hF⟩ | ⟨b21, hF⟩
    · refine w_condT A b21 ?_
      refine w_draw [[], [], [1], [0, 1, 2], [], [], [5], [0, 1, 2, 3, 4, 5, 6], [0, 1, 2, 3, 5, 6], [0, 1, 2, 3, 4, 5, 6, 7, 8], [0, 1, 2, 3, 4, 5, 6, 7, 8, 9], [0, 1, 2, 3, 4, 5, 6, 7, 8, 9, 10]] [0, 1, 2, 4, 5, 6, 3, 8, 7, 9, 10, 11] (by kernel_rfl) (by rfl) ⟨by decide, by rfl⟩ (by rfl) ?_
      refine de1 A (l_move (.v _)) A (de1 A (l_field fd45_2 A) A (de1 A (l_load ty3 A A A A A) A (de1 A (l_move (.fn _ _ _)) A (de1 A (l_field fd45_4 A) A (de1 A (l_load ty29 A A A A A) A ?_)))))
      obtain ⟨y22, h23, hF⟩ := bindE hF
      refine deC1 A (l_callV (B := false) (caps := []) (FnI.mk' (by kernel_rfl)) (.v _) (.c0 _) (.cons (.v _) (.one (.v _)) .nil) (p_tidy_itself_ac h23) (okF p_tidy_itself_ok)) A ?_
      refine de1 A (l_field fd45_2 A) A ?_
      obtain ⟨y24, h25, hF⟩ := bindE hF
      refine deC1 A (l_callV (B := true) (caps := [.rp [.fn (.func 61) [] [.rp (lC_iC a2_0) 0]] 0]) (FnI.mk' (by kernel_rfl)) (.fn _ _ _) (.fn _ A) (.cons (.rf _ _ _ _) (.one (.rf A A A (clm k_iC _))) .nil) (p_tidy_end_1_ac h25) (okT p_tidy_end_1_ok)) A ?_
      refine deS A (l_store ty3 A (.v _) A A A (Nat.le_of_ble_eq_true A) A) A (de1 A (l_field fd45_4 A) A (deS A (l_store ty29 A (.rf _ _ _ _) A A A (Nat.le_of_ble_eq_true A) A) A (ddE ?_)))
      cases hF
      refine q_join ?_
      exact (le_of [(3, some 3), (4, some 576), (5, some 5), (6, some 6), (0, some 0)] A (.s (.s (.s (.s .nil A) A) A) A) (.box A A (.s A) (.row A A A (clm k_iC _) (.row A A A (clm k_iC _) (.box A A (.s A) .nil)))))
    · refine w_condF A b21 ?_
      refine w_skip ?_
      cases hF
      refine q_join ?_
      exact (le_of [(3, some 3), (4, some 4), (5, some 5), (6, some 6), (0, some 0)] A (.s (.s (.s (.s .nil A) A) A) A) (.box A A (.s A) (.row A A A (clm k_iC _) (.row A A A (clm k_iC _) (.box A A (.s A) .nil)))))
  replace hF := hG16
  obtain ⟨s28, hF, hG29⟩ := bindE hF
  refine w_seqJ ⟨[(5, .ad 3 6 0 0), (8, .ad 6 6 0 0)], [(3, some ⟨45, 6, [[.v (.int .i64 a1_0), .v (.int .i64 s2), .v (.int .i64 s15.1), .v (.int .i64 s28.1), .rf 4 0 ((s15.2.map iC).length) 1, .rf 5 0 ((s28.2.map iC).length) 1]]⟩), (4, some ⟨3, 1, s15.2.map iC⟩), (5, some ⟨3, 1, s28.2.map iC⟩), (6, some ⟨45, 6, [[.v (.int .i64 0), .v (.int .i64 0), .v (.int .i64 0), .v (.int .i64 0), .v (.slice none 0 0), .v (.slice none 0 0)]]⟩)], 1⟩ ?_ ?_
  · refine w_seq (w_region (by rfl) (dv1 (l_field fd45_0 A) (dv1 (l_load ty3 A A A A A) (dv1 (l_bin A A b_eql) (dvE (q_seq ?_))))))
    rcases condE hF with ⟨b30, hF⟩ | ⟨b30, hF⟩
    · refine w_condT A b30 ?_
      refine w_draw [[], [], [1], [0, 1, 2], [], [], [5], [0, 1, 2, 3, 4, 5, 6], [0, 1, 2, 3, 5, 6], [0, 1, 2, 3, 4, 5, 6, 7, 8], [0, 1, 2, 3, 4, 5, 6, 7, 8, 9], [0, 1, 2, 3, 4, 5, 6, 7, 8, 9, 10]] [0, 1, 2, 4, 5, 6, 3, 8, 7, 9, 10, 11] (by kernel_rfl) (by rfl) ⟨by decide, by rfl⟩ (by rfl) ?_
      refine de1 A (l_move (.v _)) A (de1 A (l_field fd45_3 A) A (de1 A (l_load ty3 A A A A A) A (de1 A (l_move (.fn _ _ _)) A (de1 A (l_field fd45_5 A) A (de1 A (l_load ty29 A A A A A) A ?_)))))
      obtain ⟨y31, h32, hF⟩ := bindE hF
      refine deC1 A (l_callV (B := false) (caps := []) (FnI.mk' (by kernel_rfl)) (.v _) (.c0 _) (.cons (.v _) (.one (.v _)) .nil) (p_tidy_itself_ac h32) (okF p_tidy_itself_ok)) A ?_
      refine de1 A (l_field fd45_3 A) A ?_
      obtain ⟨y33, h34, hF⟩ := bindE hF
      refine deC1 A (l_callV (B := true) (caps := [.rp [.fn (.func 61) [] [.rp (lC_iC a2_0) 0]] 0]) (FnI.mk' (by kernel_rfl)) (.fn _ _ _) (.fn _ A) (.cons (.rf _ _ _ _) (.one (.rf A A A (clm k_iC _))) .nil) (p_tidy_end_1_ac h34) (okT p_tidy_end_1_ok)) A ?_
      refine deS A (l_store ty3 A (.v _) A A A (Nat.le_of_ble_eq_true A) A) A (de1 A (l_field fd45_5 A) A (deS A (l_store ty29 A (.rf _ _ _ _) A A A (Nat.le_of_ble_eq_true A) A) A (ddE ?_)))
      cases hF
      refine q_join ?_
      exact (le_of [(3, some 3), (4, some 4), (5, some 768), (6, some 6), (0, some 0)] A (.s (.s .nil A) A) (.box A A (.s A) (.row A A A (clm k_iC _) (.row A A A (clm k_iC _) (.box A A (.s A) .nil)))))
    · refine w_condF A b30 ?_
      refine w_skip ?_
      cases hF
      refine q_join ?_
      exact (le_of [(3, some 3), (4, some 4), (5, some 5), (6, some 6), (0, some 0)] A (.s (.s .nil A) A) (.box A A (.s A) (.row A A A (clm k_iC _) (.row A A A (clm k_iC _) (.box A A (.s A) .nil)))))
  replace hF := hG29
  refine w_seq (w_region (by rfl) (dv1 (l_loadA ty45 A A A A A) (dvS (l_store ty45 A (.ag _) A A A (Nat.le_of_ble_eq_true A) A) (dvE (q_seq (w_ret ?_))))))
  cases hF
  refine q_endS (.inr A) ?_
  exact ⟨_, _, ret_okK A (.cons (.cellA ty45 A A A (.cons (.of (.v _)) (.cons (.of (.v _)) (.cons (.of (.v _)) (.cons (.of (.v _)) (.cons (.of (.rf A A (clm k_iC _))) (.cons (.of (.rf A A (clm k_iC _))) .nil))))))) .nil) (by decide) ⟨A, A⟩, gb0⟩

def p_tidy_renamed_s1 (a0 : MFun) (a1 : List Int) : Option MFun :=
((p_tidy_own a0).bind fun y14066 =>
(((loop (fun (s18071 : (List MBlk) × Int) =>
(bif decide (s18071.2 < ((y14066.Blocks.length : Nat) : Int)) then
((((atI s18071.1 s18071.2).bind fun x18079 =>
(((loop (fun (s21084 : (List MBlk) × Int) =>
(bif decide (s21084.2 < ((x18079.Ops.length : Nat) : Int)) then
((s21084.1[s18071.2.toNat]?).bind fun x21089 =>
((x21089.Ops[s21084.2.toNat]?).bind fun x21091 =>
((atI x21089.Ops s21084.2).bind fun x21093 =>
((p_kind_Renamed x21091 a1).bind fun y21095 =>
some (Xt.go ((s21084.1.set s18071.2.toNat (⟨x21089.Params, (x21089.Ops.set s21084.2.toNat y21095), x21089.End⟩ : MBlk)), IntKind.i64.wrap (s21084.2 + 1)))))))
else
some (Xt.out s21084.1))) Fu ((s18071.1.set s18071.2.toNat x18079), 0))).bind fun (s18082 : (List MBlk)) =>
((s18082[s18071.2.toNat]?).bind fun x21097 =>
((p_tidy_named a1).bind fun y21099 =>
((p_tidy_end_t1 y14066.Ret x21097.End.K x21097.End.A x21097.End.To x21097.End.Else x21097.End.L x21097.End.M y21099).bind fun y21101 =>
some (s18082.set s18071.2.toNat (⟨x21097.Params, x21097.Ops, y21101⟩ : MBlk)))))))).bind fun (s18077 : (List MBlk)) =>
some (Xt.go (s18077, IntKind.i64.wrap (s18071.2 + 1))))
else
some (Xt.out s18071.1))) Fu (y14066.Blocks, 0))).bind fun (s14069 : (List MBlk)) =>
some (⟨y14066.Ret, s14069⟩ : MFun)))

theorem p_tidy_renamed_s1_ok {r : MFun} : rOk (.ag (MFun.ct r)) = true ∧ FrT (.ag (MFun.ct r)) := ⟨rfl, (.one (.ag (k_MFunct _)))⟩

set_option maxRecDepth 10000 in
set_option maxHeartbeats 4000000 in
theorem p_tidy_renamed_s1_ac {a0 : MFun} {a1 : List Int} {r : MFun} (hF : p_tidy_renamed_s1 a0 a1 = some r) : AC Tryd.prog GT 28 [.ag (MFun.ct a0), .sl 3 1 (a1.map iC), .v (.func (.func 29) #[] #[])] (fun c => c = .ag (MFun.ct r)) := by
  unfold p_tidy_renamed_s1 at hF
  refine AC.mk (nt := 60) Tryd.func28 A A A fun w N => ?_
  refine w_seq (w_region (by rfl) (dvN (l_box (.ag _) A A) (dvN (l_alloc zt33) (dvE (q_seq (w_seq (w_region (by rfl) (dv1 (l_loadA ty33 A A A A A) ?_))))))))
  obtain ⟨y14066, h14067, hF⟩ := bindE hF
  refine dvC (l_call (B := false) (FnI.mk' (by kernel_rfl)) (.cons (.ag _) (.ag (.cons (.v _) (.cons (.ro _) .nil))) .nil) (p_tidy_own_ac h14067) (okF p_tidy_own_ok)) ?_
  rintro _ rfl
  refine dvS (l_store ty33 A (.ag _) A A A (Nat.le_of_ble_eq_true A) A) (dvE (q_seq ?_))
  obtain ⟨s14069, hF, hG14070⟩ := bindE hF
  refine w_seqJ ⟨[(3, .ad 0 2 0 0), (6, .ad 2 2 0 0)], [(0, some ⟨33, 2, [[.v (.int .i64 y14066.Ret), .rf 1 0 ((s14069.map MBlk.ct).length) 8]]⟩), (1, some ⟨47, 8, s14069.map MBlk.ct⟩), (2, some ⟨33, 2, [[.v (.int .i64 0), .v (.slice none 0 0)]]⟩)], 1⟩ ?_ ?_
  · refine w_seq (w_region (by rfl) (dv1 (l_field fd33_1 A) (dv1 (l_load ty31 A A A A A) (dv1 (l_lenR sl31 A A (List.length_map _)) (dv1 (l_move (.v _)) (dvE (q_seq (w_block ?_))))))))
    refine w_loopF hF (fun (s18071 : (List MBlk) × Int) => ⟨[(1, .ro (.sl 3 1 (a1.map iC))), (2, .v (.func (.func 29) #[] #[])), (3, .ad 0 2 0 0), (6, .ad 2 2 0 0), (14, .v (.int .i64 ((y14066.Blocks.length : Nat) : Int))), (15, .v (.int .i64 s18071.2))], [(0, some ⟨33, 2, [[.v (.int .i64 y14066.Ret), .rf 1 0 ((s18071.1.map MBlk.ct).length) 8]]⟩), (1, some ⟨47, 8, s18071.1.map MBlk.ct⟩), (2, some ⟨33, 2, [[.v (.int .i64 0), .v (.slice none 0 0)]]⟩)], 1⟩) (le_of [(0, some 0), (1, some 193), (2, some 64)] A (.s (.s (.s (.s (.s (.s .nil A) A) A) A) A) A) (.box A A (.s A) (.row A A A (clm k_MBlkct _) (.box A A (.s A) .nil)))) ?_
    intro s18071 y18072 hF hx18073
    refine w_seq (w_region (by rfl) (dv1 (l_bin A A b_lss) (dvE (q_seq (w_seq ?_)))))
    rcases condE hF with ⟨b18075, hF⟩ | ⟨b18075, hF⟩
    · refine w_condT A b18075 ?_
      refine w_skip (q_seq ?_)
      obtain ⟨s18077, hF, hG18078⟩ := bindE hF
      refine w_seqJ ⟨[(1, .ro (.sl 3 1 (a1.map iC))), (2, .v (.func (.func 29) #[] #[])), (3, .ad 0 2 0 0), (6, .ad 2 2 0 0), (14, .v (.int .i64 ((y14066.Blocks.length : Nat) : Int))), (15, .v (.int .i64 s18071.2))], [(0, some ⟨33, 2, [[.v (.int .i64 y14066.Ret), .rf 1 0 ((s18077.map MBlk.ct).length) 8]]⟩), (1, some ⟨47, 8, s18077.map MBlk.ct⟩), (2, some ⟨33, 2, [[.v (.int .i64 0), .v (.slice none 0 0)]]⟩)], 1⟩ ?_ ?_
      · refine w_block (w_seq (w_region (by rfl) (dv1 (l_move (.v _)) (dv1 (l_assign (.v _)) (dvE (q_seq (w_seq (w_region (by rfl) ?_))))))))
        refine dv1 (l_field fd33_1 A) (dv1 (l_load ty31 A A A A A) (dv1 (l_move (.v _)) ?_))
        obtain ⟨x18079, h18080, hF⟩ := bindE hF
        refine dv1 (l_index s18071.2.toNat sl31 A A (atI_z h18080) (lt_at MBlk.ct (atI_at h18080))) (dv1 (l_assign (.ad _ _ _ _)) (dvE (q_seq ?_)))
        obtain ⟨s18082, hF, hG18083⟩ := bindE hF
        refine w_seqJ ⟨[(1, .ro (.sl 3 1 (a1.map iC))), (2, .v (.func (.func 29) #[] #[])), (3, .ad 0 2 0 0), (6, .ad 2 2 0 0), (8, .ad 1 8 s18071.2.toNat 0), (14, .v (.int .i64 ((y14066.Blocks.length : Nat) : Int))), (15, .v (.int .i64 s18071.2))], [(0, some ⟨33, 2, [[.v (.int .i64 y14066.Ret), .rf 1 0 ((s18082.map MBlk.ct).length) 8]]⟩), (1, some ⟨47, 8, s18082.map MBlk.ct⟩), (2, some ⟨33, 2, [[.v (.int .i64 0), .v (.slice none 0 0)]]⟩)], 1⟩ ?_ ?_
        · refine w_seq (w_region (by rfl) (dv1 (l_move (.ad _ _ _ _)) (dv1 (l_nil A) (dv1 (l_field fd47_1 A) (dvG (le_open 1 s18071.2.toNat A (map_at (atI_at h18080)) A) ?_)))))
          refine dv1 (l_load ty43 A A (set_at (atI_at h18080)) A A) (dv1 (l_lenR sl43 A A (List.length_map _)) (dv1 (l_move (.v _)) (dvE (q_seq (w_block (W.le (le_closeR 1 s18071.2.toNat A (set_at (atI_at h18080)) (.cons (.of (.rf A A (clm k_iC _))) (.cons (.of (.rf A A (clm k_MOpct _))) (.cons (.of (.v _)) (.cons (.of (.v _)) (.cons (.of (.v _)) (.cons (.of (.v _)) (.cons (.of (.rf A A (clm k_iC _))) (.cons (.of (.rf A A (clm k_iC _))) .nil)))))))) (by decide) (by decide) A (set_cl MBlk.ct _ _ _ x18079)) ?_))))))
          refine w_loopF hF (fun (s21084 : (List MBlk) × Int) => ⟨[(1, .ro (.sl 3 1 (a1.map iC))), (2, .v (.func (.func 29) #[] #[])), (3, .ad 0 2 0 0), (6, .ad 2 2 0 0), (8, .ad 1 8 s18071.2.toNat 0), (14, .v (.int .i64 ((y14066.Blocks.length : Nat) : Int))), (15, .v (.int .i64 s18071.2)), (26, .v (.int .i64 ((x18079.Ops.length : Nat) : Int))), (27, .v (.int .i64 s21084.2))], [(0, some ⟨33, 2, [[.v (.int .i64 y14066.Ret), .rf 1 0 ((s21084.1.map MBlk.ct).length) 8]]⟩), (1, some ⟨47, 8, s21084.1.map MBlk.ct⟩), (2, some ⟨33, 2, [[.v (.int .i64 0), .v (.slice none 0 0)]]⟩)], 1⟩) (le_of [(0, some 0), (1, some 1), (2, some 2)] A (.s (.s (.s (.s (.s (.s (.s (.s (.s .nil A) A) A) A) A) A) A) A) A) (.box A A (.cons (.v A) (.cons (.rf A (by simp)) .nil)) (.row A A A (clm k_MBlkct _) (.box A A (.s A) .nil)))) ?_
          intro s21084 y21085 hF hx21086
          refine w_seq (w_region (by rfl) (dv1 (l_bin A A b_lss) (dvE (q_seq (w_seq ?_)))))
          rcases condE hF with ⟨b21088, hF⟩ | ⟨b21088, hF⟩
          · refine w_condT A b21088 ?_
            refine w_skip (q_seq (w_seq (w_block (w_seq (w_region (by rfl) (dv1 (l_move (.v _)) (dv1 (l_assign (.v _)) (dvE ?_))))))))
            refine q_seq ?_
            obtain ⟨x21089, h21090, hF⟩ := bindE hF
            refine W.le (le_open 1 s18071.2.toNat A (map_at h21090) A) ?_
            obtain ⟨x21091, h21092, hF⟩ := bindE hF
            refine W.le (le_open 257 s21084.2.toNat A (map_at h21092) A) ?_
            refine w_draw [[], [0], [0, 1], [0, 1, 2], [], [], [5], [5, 6], [5, 6, 7], [], [5, 6, 7, 8, 9], [5, 6, 7, 8, 9, 10], [], [5, 6, 7, 8, 9, 10, 11, 12], [0, 1, 2, 3, 4, 5, 6, 7, 8, 9, 10, 11, 12, 13], [0, 1, 2, 3, 4, 5, 6, 7, 8, 9, 10, 11, 12, 13, 14]] [0, 1, 2, 3, 4, 5, 6, 7, 8, 9, 10, 11, 12, 13, 14, 15] (by kernel_rfl) (by rfl) ⟨by decide, by rfl⟩ (by rfl) ?_
            refine de1 A (l_move (.ad _ _ _ _)) A (de1 A (l_nil A) A (de1 A (l_field fd47_1 A) A (de1 A (l_load ty43 A A (set_at h21090) A A) A (de1 A (l_move (.v _)) A (de1 A (l_move (.ad _ _ _ _)) A (de1 A (l_nil A) A (de1 A (l_field fd47_1 A) A (de1 A (l_load ty43 A A (set_at h21090) A A) A ?_))))))))
            refine de1 A (l_move (.v _)) A ?_
            obtain ⟨x21093, h21094, hF⟩ := bindE hF
            refine de1 A (l_index s21084.2.toNat sl43 A A (atI_z h21094) (lt_at MOp.ct (atI_at h21094))) A (de1 A (l_loadA ty49 A A (set_at h21092) A A) A (de1 A (l_move (.ro _)) A ?_))
            obtain ⟨y21095, h21096, hF⟩ := bindE hF
            refine deC1 A (l_call (B := true) (FnI.mk' (by kernel_rfl)) (.cons (.ag _) (.ag (.cons (.v _) (.cons (.v _) (.cons (.v _) (.cons (.v _) (.cons (.v _) (.cons (.v _) (.cons (.rf A A A (clm k_iC _)) (.cons (.v _) .nil))))))))) (.cons (.ro _) (.one (.ro _)) .nil)) (p_kind_Renamed_ac h21096) (okT p_kind_Renamed_ok)) A ?_
            refine de1 A (l_index s21084.2.toNat sl43 A A (atI_z h21094) (lt_at MOp.ct (atI_at h21094))) A (deS A (l_storeR ty49 A (.ag _) A (set_at h21092) A (Nat.le_of_ble_eq_true A) A (List.set_set ..)) A (ddE (q_in (q_seq (w_region (by rfl) (dv1 (l_bin A A (b_add A)) (dv1 (l_move (.v _)) (dvE ?_))))))))
            cases hF
            refine qL A ?_
            refine St.le.trans (le_closeR 257 s21084.2.toNat A (set_at h21092) (.cons (.of (.v _)) (.cons (.of (.v _)) (.cons (.of (.v _)) (.cons (.of (.v _)) (.cons (.of (.v _)) (.cons (.of (.v _)) (.cons (.of (.rf A A (clm k_iC _))) (.cons (.of (.v _)) .nil)))))))) (by decide) (by decide) A (set_cl MOp.ct _ _ _ y21095)) ?_
            refine St.le.trans (le_closeR 1 s18071.2.toNat A (set_at h21090) (.cons (.of (.rf A A (clm k_iC _))) (.cons (.of (.rf A (by simp) (clm k_MOpct _))) (.cons (.of (.v _)) (.cons (.of (.v _)) (.cons (.of (.v _)) (.cons (.of (.v _)) (.cons (.of (.rf A A (clm k_iC _))) (.cons (.of (.rf A A (clm k_iC _))) .nil)))))))) (by decide) (by decide) A (set_cl MBlk.ct _ _ _ (⟨x21089.Params, (x21089.Ops.set s21084.2.toNat y21095), x21089.End⟩ : MBlk))) ?_
            exact (le_of [(0, some 0), (1, some 1), (2, some 2)] A (.s (.s (.s (.s (.s (.s (.s (.s (.s .nil A) A) A) A) A) A) A) A) A) (.box A A (.cons (.v A) (.cons (.rf A (by simp)) .nil)) (.row A A A (clm k_MBlkct _) (.box A A (.s A) .nil))))
          · refine w_condF A b21088 ?_
            refine w_exit ?_
            cases hF
            cases hx21086 _ rfl
            refine q_exS (q_exS (q_here (q_join ?_)))
            exact (le_of [(0, some 0), (1, some 1), (2, some 2)] A (.s (.s (.s (.s (.s (.s (.s .nil A) A) A) A) A) A) A) (.box A A (.s A) (.row A A A (clm k_MBlkct _) (.box A A (.s A) .nil))))
        replace hF := hG18083
        obtain ⟨x21097, h21098, hF⟩ := bindE hF
        refine W.le (le_open 1 s18071.2.toNat A (map_at h21098) A) ?_
        refine w_draw [[], [], [], [2], [2, 3], [2, 3, 4], [], [6], [], [1, 2, 3, 4, 5, 6, 7, 8], [0, 1, 2, 3, 4, 5, 6, 7, 8, 9], [0, 1, 2, 3, 4, 5, 6, 7, 8, 9, 10], [0, 1, 2, 3, 4, 5, 6, 7, 8, 9, 10, 11]] [0, 1, 2, 3, 4, 5, 6, 8, 7, 9, 10, 11, 12] (by kernel_rfl) (by rfl) ⟨by decide, by rfl⟩ (by rfl) ?_
        refine de1 A (l_move (.ad _ _ _ _)) A (de1 A (l_loadA ty33 A A A A A) A (de1 A (l_move (.ad _ _ _ _)) A (de1 A (l_nil A) A (de1 A (l_field fd47_2 A) A (de1 A (l_loadA ty45 A A (set_at h21098) A A) A (de1 A (l_move (.ro _)) A (de1 A (l_move (.v _)) A ?_)))))))
        obtain ⟨y21099, h21100, hF⟩ := bindE hF
        refine deC1 A (l_call (B := false) (FnI.mk' (by kernel_rfl)) (.cons (.ro _) (.one (.ro _)) .nil) (p_tidy_named_ac h21100) (okF p_tidy_named_ok)) A ?_
        obtain ⟨y21101, h21102, hF⟩ := bindE hF
        refine deK A (l_callS [(1, some 70), (2, some 71)] [(0, some 1), (1, some 70), (2, some 71)] (by rfl) (by rfl) (by rfl) (by rfl) (by rfl) (FnI.mk' (by kernel_rfl)) (.ag (.ag _) (.cons (.v A) (.cons (.rf A A) .nil)) (.ag (.ag _) (.cons (.v A) (.cons (.v A) (.cons (.v A) (.cons (.v A) (.cons (.rf A A) (.cons (.rf A A) .nil)))))) (.cons (.fn _ _ _) (.fn A (capB_ok A)) (.cons (.v _) (.v A) .nil)))) (.row A A A (clm k_iC _) (.row A A A (clm k_iC _) .nil)) (p_tidy_end_t1_sc h21102) (okS (p_tidy_end_t1_sok (r := y21101)))) A ?_
        refine de1 A (l_nil A) A (de1 A (l_field fd47_2 A) A (deS A (l_storeR ty45 A (.ag _) A (set_at h21098) A (Nat.le_of_ble_eq_true A) A (List.set_set ..)) A (ddE ?_)))
        cases hF
        refine q_in (q_join ?_)
        refine St.le.trans (le_closeR 1 s18071.2.toNat A (set_at h21098) (.cons (.of (.rf A A (clm k_iC _))) (.cons (.of (.rf A A (clm k_MOpct _))) (.cons (.of (.v _)) (.cons (.of (.v _)) (.cons (.of (.v _)) (.cons (.of (.v _)) (.cons (.of (.rf A A (clm k_iC _))) (.cons (.of (.rf A A (clm k_iC _))) .nil)))))))) (by decide) (by decide) A (set_cl MBlk.ct _ _ _ (⟨x21097.Params, x21097.Ops, y21101⟩ : MBlk))) ?_
        exact (le_of [(0, some 0), (1, some 1), (2, some 2)] A (.s (.s (.s (.s (.s (.s .nil A) A) A) A) A) A) (.box A A (.cons (.v A) (.cons (.rf A (by simp)) .nil)) (.row A A A (clm k_MBlkct _) (.box A A (.s A) .nil))))
      replace hF := hG18078
      refine w_region (by rfl) (dv1 (l_bin A A (b_add A)) (dv1 (l_move (.v _)) (dvE ?_)))
      cases hF
      refine qL A ?_
      exact (le_of [(0, some 0), (1, some 1), (2, some 2)] A (.s (.s (.s (.s (.s (.s .nil A) A) A) A) A) A) (.box A A (.s A) (.row A A A (clm k_MBlkct _) (.box A A (.s A) .nil))))
    · refine w_condF A b18075 ?_
      refine w_exit ?_
      cases hF
      cases hx18073 _ rfl
      refine q_exS (q_exS (q_here (q_join ?_)))
      exact (le_of [(0, some 0), (1, some 1), (2, some 2)] A (.s (.s .nil A) A) (.box A A (.s A) (.row A A A (clm k_MBlkct _) (.box A A (.s A) .nil))))
  replace hF := hG14070
  refine w_seq (w_region (by rfl) (dv1 (l_loadA ty33 A A A A A) (dvS (l_store ty33 A (.ag _) A A A (Nat.le_of_ble_eq_true A) A) (dvE (q_seq (w_ret ?_))))))
  cases hF
  refine q_end (.inr A) ?_
  exact ret_ok A (.cons (.cellA ty33 A A A (.cons (.of (.v _)) (.cons (.of (.rf A A (clm k_MBlkct _))) .nil))) .nil) (by decide) A

def p_tidy_merged_1 (a0 : Int) (c0 : Int) : Option Int :=
(bif decide (a0 = c0) then
some (-1)
else
(bif decide (c0 < a0) then
some (IntKind.i64.wrap (a0 - 1))
else
some a0))

theorem p_tidy_merged_1_ok {r : Int} : rOk (.v (.int .i64 r)) = true ∧ FrT (.v (.int .i64 r)) := ⟨rfl, (.one (.cl (.v _)))⟩

set_option maxRecDepth 10000 in
set_option maxHeartbeats 4000000 in
theorem p_tidy_merged_1_ac {a0 : Int} {c0 : Int} {r : Int} (hF : p_tidy_merged_1 a0 c0 = some r) : AC Tryd.prog GT 53 [.v (.int .i64 a0), .rp (iC c0) 0] (fun c => c = .v (.int .i64 r)) := by
  unfold p_tidy_merged_1 at hF
  refine AC.mk (nt := 15) Tryd.func53 A A A fun w N => ?_
  refine w_seq (w_region (by rfl) (dv1 (l_assign (.v _)) (dvE (q_seq (w_seq (w_block (w_seq (w_region (by rfl) ?_))))))))
  refine dv1 (l_move (.v _)) (dv1 (l_loadRo ty3 A A) (dv1 (l_bin A A b_eql) (dv1 (l_assign (.v _)) (dvE (q_seq ?_)))))
  rcases condE hF with ⟨b28155, hF⟩ | ⟨b28155, hF⟩
  · refine w_condT A b28155 ?_
    refine w_seq (w_region (by rfl) (dv1 (l_assign (.v _)) (dvE (q_seq (w_ret (q_reI (q_reS ?_)))))))
    cases hF
    refine q_end (.inr A) ?_
    exact ret_ok A (.cons (.tmp (.v _) (.v _)) .nil) (by decide) A
  · refine w_condF A b28155 ?_
    refine w_seq (w_region (by rfl) (dv1 (l_move (.v _)) (dv1 (l_loadRo ty3 A A) (dv1 (l_bin A A b_gtr) (dv1 (l_assign (.v _)) (dvE (q_seq ?_)))))))
    rcases condE hF with ⟨b28156, hF⟩ | ⟨b28156, hF⟩
    · refine w_condT A b28156 ?_
      refine w_seq (w_region (by rfl) (dv1 (l_move (.v _)) (dv1 (l_bin A A (b_sub A)) (dv1 (l_assign (.v _)) (dvE (q_seq (w_ret (q_reI ?_))))))))
      refine q_reS ?_
      cases hF
      refine q_end (.inr A) ?_
      exact ret_ok A (.cons (.tmp (.v _) (.v _)) .nil) (by decide) A
    · refine w_condF A b28156 ?_
      refine w_skip (q_in (q_seq (w_seq (w_region (by rfl) (dv1 (l_move (.v _)) (dv1 (l_assign (.v _)) (dvE (q_seq ?_))))))))
      refine w_ret ?_
      cases hF
      refine q_end (.inr A) ?_
      exact ret_ok A (.cons (.tmp (.v _) (.v _)) .nil) (by decide) A

def p_tidy_end_t2 (a0_0 : Int) (a1_0 : Int) (a1_1 : Int) (a1_2 : Int) (a1_3 : Int) (a1_4 : List Int) (a1_5 : List Int) (a2_0 : List Int) (a3_0 : Int) : Option MEnd :=
(((((bif decide (a1_0 = 1) then
some true
else
(bif decide (a1_0 = 3) then
some true
else
(bif decide (a1_0 = 2) then
some (!(decide (a0_0 = (-1))))
else
some false)))).bind fun (s5 : Bool) =>
(bif s5 then
((p_tidy_named_1 a1_1 a2_0).bind fun y11 =>
some y11)
else
some a1_1))).bind fun (s2 : Int) =>
(((((bif decide (a1_0 = 0) then
some true
else
some (decide (a1_0 = 1)))).bind fun (s18 : Bool) =>
(bif s18 then
((p_tidy_merged_1 a1_2 a3_0).bind fun y22 =>
((p_tidy_end_1 a1_4 a2_0).bind fun y24 =>
some (y22, y24)))
else
some (a1_2, a1_4)))).bind fun (s15 : Int × (List Int)) =>
(((bif decide (a1_0 = 1) then
((p_tidy_merged_1 a1_3 a3_0).bind fun y31 =>
((p_tidy_end_1 a1_5 a2_0).bind fun y33 =>
some (y31, y33)))
else
some (a1_3, a1_5))).bind fun (s28 : Int × (List Int)) =>
some (⟨a1_0, s2, s15.1, s28.1, s15.2, s28.2⟩ : MEnd))))

theorem p_tidy_end_t2_sok {r : MEnd} : rOk (.ag (MEnd.ct r)) = true ∧ True := ⟨rfl, trivial⟩

set_option maxRecDepth 10000 in
set_option maxHeartbeats 4000000 in
theorem p_tidy_end_t2_sc {a0_0 : Int} {a1_0 : Int} {a1_1 : Int} {a1_2 : Int} {a1_3 : Int} {a1_4 : List Int} {a1_5 : List Int} {a2_0 : List Int} {a3_0 : Int} {n_0 : Nat} {r : MEnd} (hF : p_tidy_end_t2 a0_0 a1_0 a1_1 a1_2 a1_3 a1_4 a1_5 a2_0 a3_0 = some r) : SC Tryd.prog GT 42 [.ag [.v (.int .i64 a0_0), .rf 0 0 n_0 8], .ag [.v (.int .i64 a1_0), .v (.int .i64 a1_1), .v (.int .i64 a1_2), .v (.int .i64 a1_3), .rf 1 0 ((a1_4.map iC).length) 1, .rf 2 0 ((a1_5.map iC).length) 1], .fn (.func 61) [] [.ro (.rp (lC_iC a2_0) 0)], .fn (.func 53) [] [.ro (.rp (iC a3_0) 0)]] [(1, some ⟨3, 1, a1_4.map iC⟩), (2, some ⟨3, 1, a1_5.map iC⟩)] (fun c gb => c = .ag (MEnd.ct r) ∧ gb = []) := by
  unfold p_tidy_end_t2 at hF
  refine SC.mk (nt := 66) [] Tryd.func42 A A A A fun w M N g => ?_
  refine w_seq (w_region (by rfl) (dvN (l_box (.ag _) A A) (dvN (l_box (.ag _) A A) (dvN (l_box (.fn _ _ _) A A) (dvN (l_alloc zt45) (dvE (q_seq ?_)))))))
  obtain ⟨s2, hF, hG3⟩ := bindE hF
  refine w_seqJ ⟨[(3, .fn (.func 53) [] [.ro (.rp (iC a3_0) 0)]), (5, .ad 3 6 0 0), (6, .ad 6 1 0 0), (8, .ad 7 6 0 0)], [(3, some ⟨45, 6, [[.v (.int .i64 a1_0), .v (.int .i64 s2), .v (.int .i64 a1_2), .v (.int .i64 a1_3), .rf 4 0 ((a1_4.map iC).length) 1, .rf 5 0 ((a1_5.map iC).length) 1]]⟩), (4, some ⟨3, 1, a1_4.map iC⟩), (5, some ⟨3, 1, a1_5.map iC⟩), (6, some ⟨62, 1, [[.fn (.func 61) [] [.ro (.rp (lC_iC a2_0) 0)]]]⟩), (7, some ⟨45, 6, [[.v (.int .i64 0), .v (.int .i64 0), .v (.int .i64 0), .v (.int .i64 0), .v (.slice none 0 0), .v (.slice none 0 0)]]⟩)], 1⟩ ?_ ?_
  · obtain ⟨s5, hF, hG6⟩ := bindE hF
    refine w_seqJ ⟨[(3, .fn (.func 53) [] [.ro (.rp (iC a3_0) 0)]), (5, .ad 3 6 0 0), (6, .ad 6 1 0 0), (8, .ad 7 6 0 0), (27, .v (.bool s5))], [(3, some ⟨45, 6, [[.v (.int .i64 a1_0), .v (.int .i64 a1_1), .v (.int .i64 a1_2), .v (.int .i64 a1_3), .rf 4 0 ((a1_4.map iC).length) 1, .rf 5 0 ((a1_5.map iC).length) 1]]⟩), (4, some ⟨3, 1, a1_4.map iC⟩), (5, some ⟨3, 1, a1_5.map iC⟩), (6, some ⟨62, 1, [[.fn (.func 61) [] [.ro (.rp (lC_iC a2_0) 0)]]]⟩), (7, some ⟨45, 6, [[.v (.int .i64 0), .v (.int .i64 0), .v (.int .i64 0), .v (.int .i64 0), .v (.slice none 0 0), .v (.slice none 0 0)]]⟩)], 1⟩ ?_ ?_
    · refine w_region (by rfl) (dv1 (l_field fd45_0 A) (dv1 (l_load ty3 A A A A A) (dv1 (l_bin A A b_eql) (dv1 (l_move (.v _)) ?_))))
      rcases condE hF with ⟨b7, hF⟩ | ⟨b7, hF⟩
      · refine dv1 (l_gF A A (gt A b7) A) (dv1 (l_gF A A (gt A b7) A) (dv1 (l_gF A A (gt A b7) A) (dv1 (l_pickT (gt A b7) (.v _)) (dv1 (l_move (.v _)) (dv1 (l_gF A A A A) (dv1 (l_gF A A A A) (dv1 (l_gF A A A A) (dv1 (l_gF A A A A) ?_))))))))
        refine dv1 (l_gU A A A) (dv1 (l_gU A A A) (dv1 (l_gU A A A) (dv1 (l_gF A A A A) (dv1 (l_pickT A (.v _)) (dvE ?_)))))
        cases hF
        refine q_join ?_
        exact (le_of [(3, some 128), (4, some 1), (5, some 2), (6, some 192), (7, some 256), (0, some 0)] A (.s (.s (.s (.s (.s .nil A) A) A) A) A) (.box A A (.s A) (.row A A A (clm k_iC _) (.row A A A (clm k_iC _) (.box A A (.s A) (.box A A (.s A) .nil))))))
      · refine dv1 (l_gT A A (gt A b7) fun _ => l_field fd45_0 A) (dv1 (l_gT A A (gt A b7) fun _ => l_load ty3 A A A A A) (dv1 (l_gT A A (gt A b7) fun _ => l_bin A A b_eql) (dv1 (l_pickF (gt A b7) (.v _)) (dv1 (l_move (.v _)) ?_))))
        rcases condE hF with ⟨b8, hF⟩ | ⟨b8, hF⟩
        · refine dv1 (l_gF A A (gt A b8) A) (dv1 (l_gF A A (gt A b8) A) (dv1 (l_gF A A (gt A b8) A) (dv1 (l_gF A A (gt A b8) A) (dv1 (l_gU A A A) (dv1 (l_gU A A A) (dv1 (l_gU A A A) (dv1 (l_gF A A (gt A b8) A) (dv1 (l_pickT (gt A b8) (.v _)) ?_))))))))
          refine dvE ?_
          cases hF
          refine q_join ?_
          exact (le_of [(3, some 128), (4, some 1), (5, some 2), (6, some 192), (7, some 256), (0, some 0)] A (.s (.s (.s (.s (.s .nil A) A) A) A) A) (.box A A (.s A) (.row A A A (clm k_iC _) (.row A A A (clm k_iC _) (.box A A (.s A) (.box A A (.s A) .nil))))))
        · refine dv1 (l_gT A A (gt A b8) fun _ => l_field fd45_0 A) (dv1 (l_gT A A (gt A b8) fun _ => l_load ty3 A A A A A) (dv1 (l_gT A A (gt A b8) fun _ => l_bin A A b_eql) (dv1 (l_gT A A (gt A b8) fun _ => l_move (.v _)) ?_)))
          rcases condE hF with ⟨b9, hF⟩ | ⟨b9, hF⟩
          · refine dv1 (l_gT A A (gt A b9) fun _ => l_field fd33_0 A) (dv1 (l_gT A A (gt A b9) fun _ => l_load ty3 A A A A A) (dv1 (l_gT A A (gt A b9) fun _ => l_bin A A b_neq) (dv1 (l_gT A A (gt A b8) fun _ => l_pickT (gt A b9) (.v _)) (dv1 (l_pickF (gt A b8) (.v _)) (dvE ?_)))))
            cases hF
            refine q_join ?_
            exact (le_of [(3, some 128), (4, some 1), (5, some 2), (6, some 192), (7, some 256), (0, some 0)] A (.s (.s (.s (.s (.s .nil A) A) A) A) A) (.box A A (.s A) (.row A A A (clm k_iC _) (.row A A A (clm k_iC _) (.box A A (.s A) (.box A A (.s A) .nil))))))
          · refine dv1 (l_gF A A (gt A b9) A) (dv1 (l_gF A A (gt A b9) A) (dv1 (l_gF A A (gt A b9) A) (dv1 (l_gT A A (gt A b8) fun _ => l_pickF (gt A b9) (.v _)) (dv1 (l_pickF (gt A b8) (.v _)) (dvE ?_)))))
            cases hF
            refine q_join ?_
            exact (le_of [(3, some 128), (4, some 1), (5, some 2), (6, some 192), (7, some 256), (0, some 0)] A (.s (.s (.s (.s (.s .nil A) A) A) A) A) (.box A A (.s A) (.row A A A (clm k_iC _) (.row A A A (clm k_iC _) (.box A A (.s A) (.box A A (.s A) .nil))))))
    replace hF := hG6
    rcases condE hF with ⟨b10, hF⟩ | ⟨b10, hF⟩
    · refine w_condT A b10 ?_
      refine w_region (by rfl) (dv1 (l_load ty62 A A A A A) (dv1 (l_field fd45_1 A) (dv1 (l_load ty3 A A A A A) ?_)))
      obtain ⟨y11, h12, hF⟩ := bindE hF
      refine dvC (l_callV (B := false) (caps := [.rp (lC_iC a2_0) 0]) (FnI.mk' (by kernel_rfl)) (.fn _ _ _) (.fn _ A) (.cons (.v _) (.one (.v _)) .nil) (p_tidy_named_1_ac h12) (okF p_tidy_named_1_ok)) ?_
      rintro _ rfl
      refine dv1 (l_field fd45_1 A) (dvS (l_store ty3 A (.v _) A A A (Nat.le_of_ble_eq_true A) A) (dvE ?_))
      cases hF
      refine q_join ?_
      exact (le_of [(3, some 3), (4, some 4), (5, some 5), (6, some 6), (7, some 7), (0, some 0)] A (.s (.s (.s (.s .nil A) A) A) A) (.box A A (.s A) (.row A A A (clm k_iC _) (.row A A A (clm k_iC _) (.box A A (.s A) (.box A A (.s A) .nil))))))
    · refine w_condF A b10 ?_
      refine w_skip ?_
      cases hF
      refine q_join ?_
      exact (le_of [(3, some 3), (4, some 4), (5, some 5), (6, some 6), (7, some 7), (0, some 0)] A (.s (.s (.s (.s .nil A) A) A) A) (.box A A (.s A) (.row A A A (clm k_iC _) (.row A A A (clm k_iC _) (.box A A (.s A) (.box A A (.s A) .nil))))))
  replace hF := hG3
  refine w_seq (w_region (by rfl) (dvG (le_freeze 6 [(6, .ro (.rp [.fn (.func 61) [] [.ro (.rp (lC_iC a2_0) 0)]] 0))] A (cl1 (.fn _ (capB_ok A)) cl0) (List.forall_mem_cons.2 ⟨⟨0, A, A⟩, (fun _ h => nomatch h)⟩)) ?_))
  refine dvG (le_wk 6 (c' := .rp [.fn (.func 61) [] [.rp (lC_iC a2_0) 0]] 0) A (.rp (.cons (Wk.fn _ (.cons (Wk.ro (Wk.refl _)) .nil)) .nil))) ?_
  refine dv1 (l_fnE (f := 59) (.cons (.ro _) .nil)) (dv1 (l_assign (.fn _ _ _)) (dvE (q_seq ?_)))
  obtain ⟨s15, hF, hG16⟩ := bindE hF
  refine w_seqJ ⟨[(3, .fn (.func 53) [] [.ro (.rp (iC a3_0) 0)]), (5, .ad 3 6 0 0), (8, .ad 6 6 0 0), (9, .fn (.func 59) [] [.ro (.rp [.fn (.func 61) [] [.rp (lC_iC a2_0) 0]] 0)])], [(3, some ⟨45, 6, [[.v (.int .i64 a1_0), .v (.int .i64 s2), .v (.int .i64 s15.1), .v (.int .i64 a1_3), .rf 4 0 ((s15.2.map iC).length) 1, .rf 5 0 ((a1_5.map iC).length) 1]]⟩), (4, some ⟨3, 1, s15.2.map iC⟩), (5, some ⟨3, 1, a1_5.map iC⟩), (6, some ⟨45, 6, [[.v (.int .i64 0), .v (.int .i64 0), .v (.int .i64 0), .v (.int .i64 0), .v (.slice none 0 0), .v (.slice none 0 0)]]⟩)], 1⟩ ?_ ?_
  · obtain ⟨s18, hF, hG19⟩ := bindE hF
    refine w_seqJ ⟨[(3, .fn (.func 53) [] [.ro (.rp (iC a3_0) 0)]), (5, .ad 3 6 0 0), (8, .ad 6 6 0 0), (9, .fn (.func 59) [] [.ro (.rp [.fn (.func 61) [] [.rp (lC_iC a2_0) 0]] 0)]), (41, .v (.bool s18))], [(3, some ⟨45, 6, [[.v (.int .i64 a1_0), .v (.int .i64 s2), .v (.int .i64 a1_2), .v (.int .i64 a1_3), .rf 4 0 ((a1_4.map iC).length) 1, .rf 5 0 ((a1_5.map iC).length) 1]]⟩), (4, some ⟨3, 1, a1_4.map iC⟩), (5, some ⟨3, 1, a1_5.map iC⟩), (6, some ⟨45, 6, [[.v (.int .i64 0), .v (.int .i64 0), .v (.int .i64 0), .v (.int .i64 0), .v (.slice none 0 0), .v (.slice none 0 0)]]⟩)], 1⟩ ?_ ?_
    · refine w_region (by rfl) (dv1 (l_field fd45_0 A) (dv1 (l_load ty3 A A A A A) (dv1 (l_bin A A b_eql) (dv1 (l_move (.v _)) ?_))))
      rcases condE hF with ⟨b20, hF⟩ | ⟨b20, hF⟩
      · refine dv1 (l_gF A A (gt A b20) A) (dv1 (l_gF A A (gt A b20) A) (dv1 (l_gF A A (gt A b20) A) (dv1 (l_pickT (gt A b20) (.v _)) (dvE ?_))))
        cases hF
        refine q_join ?_
        exact (le_of [(3, some 3), (4, some 4), (5, some 5), (6, some 7), (0, some 0)] A (.s (.s (.s (.s (.s .nil A) A) A) A) A) (.box A A (.s A) (.row A A A (clm k_iC _) (.row A A A (clm k_iC _) (.box A A (.s A) .nil)))))
      · refine dv1 (l_gT A A (gt A b20) fun _ => l_field fd45_0 A) (dv1 (l_gT A A (gt A b20) fun _ => l_load ty3 A A A A A) (dv1 (l_gT A A (gt A b20) fun _ => l_bin A A b_eql) (dv1 (l_pickF (gt A b20) (.v _)) (dvE ?_))))
        cases hF
        refine q_join ?_
        exact (le_of [(3, some 3), (4, some 4), (5, some 5), (6, some 7), (0, some 0)] A (.s (.s (.s (.s (.s .nil A) A) A) A) A) (.box A A (.s A) (.row A A A (clm k_iC _) (.row A A A (clm k_iC _) (.box A A (.s A) .nil)))))
    replace hF := hG19
    rcases condE hF with ⟨b21, hF⟩ | ⟨b21, hF⟩
    · refine w_condT A b21 ?_
      refine w_draw [[], [], [1], [0, 1, 2], [], [], [5], [0, 1, 2, 3, 4, 5, 6], [0, 1, 2, 3, 5, 6], [0, 1, 2, 3, 4, 5, 6, 7, 8], [0, 1, 2, 3, 4, 5, 6, 7, 8, 9], [0, 1, 2, 3, 4, 5, 6, 7, 8, 9, 10]] [0, 1, 2, 4, 5, 6, 3, 8, 7, 9, 10, 11] (by kernel_rfl) (by rfl) ⟨by decide, by rfl⟩ (by rfl) ?_
      refine de1 A (l_move (.fn _ _ _)) A (de1 A (l_field fd45_2 A) A (de1 A (l_load ty3 A A A A A) A (de1 A (l_move (.fn _ _ _)) A (de1 A (l_field fd45_4 A) A (de1 A (l_load ty29 A A A A A) A ?_)))))
      obtain ⟨y22, h23, hF⟩ := bindE hF
      refine deC1 A (l_callV (B := false) (caps := [.rp (iC a3_0) 0]) (FnI.mk' (by kernel_rfl)) (.fn _ _ _) (.fn _ A) (.cons (.v _) (.one (.v _)) .nil) (p_tidy_merged_1_ac h23) (okF p_tidy_merged_1_ok)) A ?_
      refine de1 A (l_field fd45_2 A) A ?_
      obtain ⟨y24, h25, hF⟩ := bindE hF
      refine deC1 A (l_callV (B := true) (caps := [.rp [.fn (.func 61) [] [.rp (lC_iC a2_0) 0]] 0]) (FnI.mk' (by kernel_rfl)) (.fn _ _ _) (.fn _ A) (.cons (.rf _ _ _ _) (.one (.rf A A A (clm k_iC _))) .nil) (p_tidy_end_1_ac h25) (okT p_tidy_end_1_ok)) A ?_
      refine deS A (l_store ty3 A (.v _) A A A (Nat.le_of_ble_eq_true A) A) A (de1 A (l_field fd45_4 A) A (deS A (l_store ty29 A (.rf _ _ _ _) A A A (Nat.le_of_ble_eq_true A) A) A (ddE ?_)))
      cases hF
      refine q_join ?_
      exact (le_of [(3, some 3), (4, some 576), (5, some 5), (6, some 6), (0, some 0)] A (.s (.s (.s (.s .nil A) A) A) A) (.box A A (.s A) (.row A A A (clm k_iC _) (.row A A A (clm k_iC _) (.box A A (.s A) .nil)))))
    · refine w_condF A b21 ?_
      refine w_skip ?_
      cases hF
      refine q_join ?_
      exact (le_of [(3, some 3), (4, some 4), (5, some 5), (6, some 6), (0, some 0)] A (.s (.s (.s (.s .nil A) A) A) A) (.box A A (.s A) (.row A A A (clm k_iC _) (.row A A A (clm k_iC _) (.box A A (.s A) .nil)))))
  replace hF := hG16
  obtain ⟨s28, hF, hG29⟩ := bindE hF
  refine w_seqJ ⟨[(5, .ad 3 6 0 0), (8, .ad 6 6 0 0)], [(3, some ⟨45, 6, [[.v (.int .i64 a1_0), .v (.int .i64 s2), .v (.int .i64 s15.1), .v (.int .i64 s28.1), .rf 4 0 ((s15.2.map iC).length) 1, .rf 5 0 ((s28.2.map iC).length) 1]]⟩), (4, some ⟨3, 1, s15.2.map iC⟩), (5, some ⟨3, 1, s28.2.map iC⟩), (6, some ⟨45, 6, [[.v (.int .i64 0), .v (.int .i64 0), .v (.int .i64 0), .v (.int .i64 0), .v (.slice none 0 0), .v (.slice none 0 0)]]⟩)], 1⟩ ?_ ?_
  · refine w_seq (w_region (by rfl) (dv1 (l_field fd45_0 A) (dv1 (l_load ty3 A A A A A) (dv1 (l_bin A A b_eql) (dvE (q_seq ?_))))))
    rcases condE hF with ⟨b30, hF⟩ | ⟨b30, hF⟩
    · refine w_condT A b30 ?_
      refine w_draw [[], [], [1], [0, 1, 2], [], [], [5], [0, 1, 2, 3, 4, 5, 6], [0, 1, 2, 3, 5, 6], [0, 1, 2, 3, 4, 5, 6, 7, 8], [0, 1, 2, 3, 4, 5, 6, 7, 8, 9], [0, 1, 2, 3, 4, 5, 6, 7, 8, 9, 10]] [0, 1, 2, 4, 5, 6, 3, 8, 7, 9, 10, 11] (by kernel_rfl) (by rfl) ⟨by decide, by rfl⟩ (by rfl) ?_
      refine de1 A (l_move (.fn _ _ _)) A (de1 A (l_field fd45_3 A) A (de1 A (l_load ty3 A A A A A) A (de1 A (l_move (.fn _ _ _)) A (de1 A (l_field fd45_5 A) A (de1 A (l_load ty29 A A A A A) A ?_)))))
      obtain ⟨y31, h32, hF⟩ := bindE hF
      refine deC1 A (l_callV (B := false) (caps := [.rp (iC a3_0) 0]) (FnI.mk' (by kernel_rfl)) (.fn _ _ _) (.fn _ A) (.cons (.v _) (.one (.v _)) .nil) (p_tidy_merged_1_ac h32) (okF p_tidy_merged_1_ok)) A ?_
      refine de1 A (l_field fd45_3 A) A ?_
      obtain ⟨y33, h34, hF⟩ := bindE hF
      refine deC1 A (l_callV (B := true) (caps := [.rp [.fn (.func 61) [] [.rp (lC_iC a2_0) 0]] 0]) (FnI.mk' (by kernel_rfl)) (.fn _ _ _) (.fn _ A) (.cons (.rf _ _ _ _) (.one (.rf A A A (clm k_iC _))) .nil) (p_tidy_end_1_ac h34) (okT p_tidy_end_1_ok)) A ?_
      refine deS A (l_store ty3 A (.v _) A A A (Nat.le_of_ble_eq_true A) A) A (de1 A (l_field fd45_5 A) A (deS A (l_store ty29 A (.rf _ _ _ _) A A A (Nat.le_of_ble_eq_true A) A) A (ddE ?_)))
      cases hF
      refine q_join ?_
      exact (le_of [(3, some 3), (4, some 4), (5, some 768), (6, some 6), (0, some 0)] A (.s (.s .nil A) A) (.box A A (.s A) (.row A A A (clm k_iC _) (.row A A A (clm k_iC _) (.box A A (.s A) .nil)))))
    · refine w_condF A b30 ?_
      refine w_skip ?_
      cases hF
      refine q_join ?_
      exact (le_of [(3, some 3), (4, some 4), (5, some 5), (6, some 6), (0, some 0)] A (.s (.s .nil A) A) (.box A A (.s A) (.row A A A (clm k_iC _) (.row A A A (clm k_iC _) (.box A A (.s A) .nil)))))
  replace hF := hG29
  refine w_seq (w_region (by rfl) (dv1 (l_loadA ty45 A A A A A) (dvS (l_store ty45 A (.ag _) A A A (Nat.le_of_ble_eq_true A) A) (dvE (q_seq (w_ret ?_))))))
  cases hF
  refine q_endS (.inr A) ?_
  exact ⟨_, _, ret_okK A (.cons (.cellA ty45 A A A (.cons (.of (.v _)) (.cons (.of (.v _)) (.cons (.of (.v _)) (.cons (.of (.v _)) (.cons (.of (.rf A A (clm k_iC _))) (.cons (.of (.rf A A (clm k_iC _))) .nil))))))) .nil) (by decide) ⟨A, A⟩, gb0⟩

def p_tidy_renamed_s2 (a0 : MFun) (a1 : List Int) (a2_0 : Int) : Option MFun :=
((p_tidy_own a0).bind fun y24112 =>
(((loop (fun (s28117 : (List MBlk) × Int) =>
(bif decide (s28117.2 < ((y24112.Blocks.length : Nat) : Int)) then
((((atI s28117.1 s28117.2).bind fun x28125 =>
(((loop (fun (s31130 : (List MBlk) × Int) =>
(bif decide (s31130.2 < ((x28125.Ops.length : Nat) : Int)) then
((s31130.1[s28117.2.toNat]?).bind fun x31135 =>
((x31135.Ops[s31130.2.toNat]?).bind fun x31137 =>
((atI x31135.Ops s31130.2).bind fun x31139 =>
((p_kind_Renamed x31137 a1).bind fun y31141 =>
some (Xt.go ((s31130.1.set s28117.2.toNat (⟨x31135.Params, (x31135.Ops.set s31130.2.toNat y31141), x31135.End⟩ : MBlk)), IntKind.i64.wrap (s31130.2 + 1)))))))
else
some (Xt.out s31130.1))) Fu ((s28117.1.set s28117.2.toNat x28125), 0))).bind fun (s28128 : (List MBlk)) =>
((s28128[s28117.2.toNat]?).bind fun x31143 =>
((p_tidy_named a1).bind fun y31145 =>
((p_tidy_end_t2 y24112.Ret x31143.End.K x31143.End.A x31143.End.To x31143.End.Else x31143.End.L x31143.End.M y31145 a2_0).bind fun y31147 =>
some (s28128.set s28117.2.toNat (⟨x31143.Params, x31143.Ops, y31147⟩ : MBlk)))))))).bind fun (s28123 : (List MBlk)) =>
some (Xt.go (s28123, IntKind.i64.wrap (s28117.2 + 1))))
else
some (Xt.out s28117.1))) Fu (y24112.Blocks, 0))).bind fun (s24115 : (List MBlk)) =>
some (⟨y24112.Ret, s24115⟩ : MFun)))

theorem p_tidy_renamed_s2_ok {r : MFun} : rOk (.ag (MFun.ct r)) = true ∧ FrT (.ag (MFun.ct r)) := ⟨rfl, (.one (.ag (k_MFunct _)))⟩

set_option maxRecDepth 10000 in
set_option maxHeartbeats 4000000 in
theorem p_tidy_renamed_s2_ac {a0 : MFun} {a1 : List Int} {a2_0 : Int} {r : MFun} (hF : p_tidy_renamed_s2 a0 a1 a2_0 = some r) : AC Tryd.prog GT 28 [.ag (MFun.ct a0), .sl 3 1 (a1.map iC), .fn (.func 53) [] [.rp (iC a2_0) 0]] (fun c => c = .ag (MFun.ct r)) := by
  unfold p_tidy_renamed_s2 at hF
  refine AC.mk (nt := 60) Tryd.func28 A A A fun w N => ?_
  refine w_seq (w_region (by rfl) (dvN (l_box (.ag _) A A) (dvN (l_alloc zt33) (dvE (q_seq (w_seq (w_region (by rfl) (dv1 (l_loadA ty33 A A A A A) ?_))))))))
  obtain ⟨y24112, h24113, hF⟩ := bindE hF
  refine dvC (l_call (B := false) (FnI.mk' (by kernel_rfl)) (.cons (.ag _) (.ag (.cons (.v _) (.cons (.ro _) .nil))) .nil) (p_tidy_own_ac h24113) (okF p_tidy_own_ok)) ?_
  rintro _ rfl
  refine dvS (l_store ty33 A (.ag _) A A A (Nat.le_of_ble_eq_true A) A) (dvE (q_seq ?_))
  obtain ⟨s24115, hF, hG24116⟩ := bindE hF
  refine w_seqJ ⟨[(3, .ad 0 2 0 0), (6, .ad 2 2 0 0)], [(0, some ⟨33, 2, [[.v (.int .i64 y24112.Ret), .rf 1 0 ((s24115.map MBlk.ct).length) 8]]⟩), (1, some ⟨47, 8, s24115.map MBlk.ct⟩), (2, some ⟨33, 2, [[.v (.int .i64 0), .v (.slice none 0 0)]]⟩)], 1⟩ ?_ ?_
  · refine w_seq (w_region (by rfl) (dv1 (l_field fd33_1 A) (dv1 (l_load ty31 A A A A A) (dv1 (l_lenR sl31 A A (List.length_map _)) (dv1 (l_move (.v _)) (dvE (q_seq (w_block ?_))))))))
    refine w_loopF hF (fun (s28117 : (List MBlk) × Int) => ⟨[(1, .ro (.sl 3 1 (a1.map iC))), (2, .fn (.func 53) [] [.ro (.rp (iC a2_0) 0)]), (3, .ad 0 2 0 0), (6, .ad 2 2 0 0), (14, .v (.int .i64 ((y24112.Blocks.length : Nat) : Int))), (15, .v (.int .i64 s28117.2))], [(0, some ⟨33, 2, [[.v (.int .i64 y24112.Ret), .rf 1 0 ((s28117.1.map MBlk.ct).length) 8]]⟩), (1, some ⟨47, 8, s28117.1.map MBlk.ct⟩), (2, some ⟨33, 2, [[.v (.int .i64 0), .v (.slice none 0 0)]]⟩)], 1⟩) (le_of [(0, some 0), (1, some 193), (2, some 64)] A (.s (.s (.s (.s (.s (.s .nil A) A) A) A) A) A) (.box A A (.s A) (.row A A A (clm k_MBlkct _) (.box A A (.s A) .nil)))) ?_
    intro s28117 y28118 hF hx28119
    refine w_seq (w_region (by rfl) (dv1 (l_bin A A b_lss) (dvE (q_seq (w_seq ?_)))))
    rcases condE hF with ⟨b28121, hF⟩ | ⟨b28121, hF⟩
    · refine w_condT A b28121 ?_
      refine w_skip (q_seq ?_)
      obtain ⟨s28123, hF, hG28124⟩ := bindE hF
      refine w_seqJ ⟨[(1, .ro (.sl 3 1 (a1.map iC))), (2, .fn (.func 53) [] [.ro (.rp (iC a2_0) 0)]), (3, .ad 0 2 0 0), (6, .ad 2 2 0 0), (14, .v (.int .i64 ((y24112.Blocks.length : Nat) : Int))), (15, .v (.int .i64 s28117.2))], [(0, some ⟨33, 2, [[.v (.int .i64 y24112.Ret), .rf 1 0 ((s28123.map MBlk.ct).length) 8]]⟩), (1, some ⟨47, 8, s28123.map MBlk.ct⟩), (2, some ⟨33, 2, [[.v (.int .i64 0), .v (.slice none 0 0)]]⟩)], 1⟩ ?_ ?_
      · refine w_block (w_seq (w_region (by rfl) (dv1 (l_move (.v _)) (dv1 (l_assign (.v _)) (dvE (q_seq (w_seq (w_region (by rfl) ?_))))))))
        refine dv1 (l_field fd33_1 A) (dv1 (l_load ty31 A A A A A) (dv1 (l_move (.v _)) ?_))
        obtain ⟨x28125, h28126, hF⟩ := bindE hF
        refine dv1 (l_index s28117.2.toNat sl31 A A (atI_z h28126) (lt_at MBlk.ct (atI_at h28126))) (dv1 (l_assign (.ad _ _ _ _)) (dvE (q_seq ?_)))
        obtain ⟨s28128, hF, hG28129⟩ := bindE hF
        refine w_seqJ ⟨[(1, .ro (.sl 3 1 (a1.map iC))), (2, .fn (.func 53) [] [.ro (.rp (iC a2_0) 0)]), (3, .ad 0 2 0 0), (6, .ad 2 2 0 0), (8, .ad 1 8 s28117.2.toNat 0), (14, .v (.int .i64 ((y24112.Blocks.length : Nat) : Int))), (15, .v (.int .i64 s28117.2))], [(0, some ⟨33, 2, [[.v (.int .i64 y24112.Ret), .rf 1 0 ((s28128.map MBlk.ct).length) 8]]⟩), (1, some ⟨47, 8, s28128.map MBlk.ct⟩), (2, some ⟨33, 2, [[.v (.int .i64 0), .v (.slice none 0 0)]]⟩)], 1⟩ ?_ ?_
        · refine w_seq (w_region (by rfl) (dv1 (l_move (.ad _ _ _ _)) (dv1 (l_nil A) (dv1 (l_field fd47_1 A) (dvG (le_open 1 s28117.2.toNat A (map_at (atI_at h28126)) A) ?_)))))
          refine dv1 (l_load ty43 A A (set_at (atI_at h28126)) A A) (dv1 (l_lenR sl43 A A (List.length_map _)) (dv1 (l_move (.v _)) (dvE (q_seq (w_block (W.le (le_closeR 1 s28117.2.toNat A (set_at (atI_at h28126)) (.cons (.of (.rf A A (clm k_iC _))) (.cons (.of (.rf A A (clm k_MOpct _))) (.cons (.of (.v _)) (.cons (.of (.v _)) (.cons (.of (.v _)) (.cons (.of (.v _)) (.cons (.of (.rf A A (clm k_iC _))) (.cons (.of (.rf A A (clm k_iC _))) .nil)))))))) (by decide) (by decide) A (set_cl MBlk.ct _ _ _ x28125)) ?_))))))
          refine w_loopF hF (fun (s31130 : (List MBlk) × Int) => ⟨[(1, .ro (.sl 3 1 (a1.map iC))), (2, .fn (.func 53) [] [.ro (.rp (iC a2_0) 0)]), (3, .ad 0 2 0 0), (6, .ad 2 2 0 0), (8, .ad 1 8 s28117.2.toNat 0), (14, .v (.int .i64 ((y24112.Blocks.length : Nat) : Int))), (15, .v (.int .i64 s28117.2)), (26, .v (.int .i64 ((x28125.Ops.length : Nat) : Int))), (27, .v (.int .i64 s31130.2))], [(0, some ⟨33, 2, [[.v (.int .i64 y24112.Ret), .rf 1 0 ((s31130.1.map MBlk.ct).length) 8]]⟩), (1, some ⟨47, 8, s31130.1.map MBlk.ct⟩), (2, some ⟨33, 2, [[.v (.int .i64 0), .v (.slice none 0 0)]]⟩)], 1⟩) (le_of [(0, some 0), (1, some 1), (2, some 2)] A (.s (.s (.s (.s (.s (.s (.s (.s (.s .nil A) A) A) A) A) A) A) A) A) (.box A A (.cons (.v A) (.cons (.rf A (by simp)) .nil)) (.row A A A (clm k_MBlkct _) (.box A A (.s A) .nil)))) ?_
          intro s31130 y31131 hF hx31132
          refine w_seq (w_region (by rfl) (dv1 (l_bin A A b_lss) (dvE (q_seq (w_seq ?_)))))
          rcases condE hF with ⟨b31134, hF⟩ | ⟨b31134, hF⟩
          · refine w_condT A b31134 ?_
            refine w_skip (q_seq (w_seq (w_block (w_seq (w_region (by rfl) (dv1 (l_move (.v _)) (dv1 (l_assign (.v _)) (dvE ?_))))))))
            refine q_seq ?_
            obtain ⟨x31135, h31136, hF⟩ := bindE hF
            refine W.le (le_open 1 s28117.2.toNat A (map_at h31136) A) ?_
            obtain ⟨x31137, h31138, hF⟩ := bindE hF
            refine W.le (le_open 257 s31130.2.toNat A (map_at h31138) A) ?_
            refine w_draw [[], [0], [0, 1], [0, 1, 2], [], [], [5], [5, 6], [5, 6, 7], [], [5, 6, 7, 8, 9], [5, 6, 7, 8, 9, 10], [], [5, 6, 7, 8, 9, 10, 11, 12], [0, 1, 2, 3, 4, 5, 6, 7, 8, 9, 10, 11, 12, 13], [0, 1, 2, 3, 4, 5, 6, 7, 8, 9, 10, 11, 12, 13, 14]] [0, 1, 2, 3, 4, 5, 6, 7, 8, 9, 10, 11, 12, 13, 14, 15] (by kernel_rfl) (by rfl) ⟨by decide, by rfl⟩ (by rfl) ?_
            refine de1 A (l_move (.ad _ _ _ _)) A (de1 A (l_nil A) A (de1 A (l_field fd47_1 A) A (de1 A (l_load ty43 A A (set_at h31136) A A) A (de1 A (l_move (.v _)) A (de1 A (l_move (.ad _ _ _ _)) A (de1 A (l_nil A) A (de1 A (l_field fd47_1 A) A (de1 A (l_load ty43 A A (set_at h31136) A A) A ?_))))))))
            refine de1 A (l_move (.v _)) A ?_
            obtain ⟨x31139, h31140, hF⟩ := bindE hF
            refine de1 A (l_index s31130.2.toNat sl43 A A (atI_z h31140) (lt_at MOp.ct (atI_at h31140))) A (de1 A (l_loadA ty49 A A (set_at h31138) A A) A (de1 A (l_move (.ro _)) A ?_))
            obtain ⟨y31141, h31142, hF⟩ := bindE hF
            refine deC1 A (l_call (B := true) (FnI.mk' (by kernel_rfl)) (.cons (.ag _) (.ag (.cons (.v _) (.cons (.v _) (.cons (.v _) (.cons (.v _) (.cons (.v _) (.cons (.v _) (.cons (.rf A A A (clm k_iC _)) (.cons (.v _) .nil))))))))) (.cons (.ro _) (.one (.ro _)) .nil)) (p_kind_Renamed_ac h31142) (okT p_kind_Renamed_ok)) A ?_
            refine de1 A (l_index s31130.2.toNat sl43 A A (atI_z h31140) (lt_at MOp.ct (atI_at h31140))) A (deS A (l_storeR ty49 A (.ag _) A (set_at h31138) A (Nat.le_of_ble_eq_true A) A (List.set_set ..)) A (ddE (q_in (q_seq (w_region (by rfl) (dv1 (l_bin A A (b_add A)) (dv1 (l_move (.v _)) (dvE ?_))))))))
            cases hF
            refine qL A ?_
            refine St.le.trans (le_closeR 257 s31130.2.toNat A (set_at h31138) (.cons (.of (.v _)) (.cons (.of (.v _)) (.cons (.of (.v _)) (.cons (.of (.v _)) (.cons (.of (.v _)) (.cons (.of (.v _)) (.cons (.of (.rf A A (clm k_iC _))) (.cons (.of (.v _)) .nil)))))))) (by decide) (by decide) A (set_cl MOp.ct _ _ _ y31141)) ?_
            refine St.le.trans (le_closeR 1 s28117.2.toNat A (set_at h31136) (.cons (.of (.rf A A (clm k_iC _))) (.cons (.of (.rf A (by simp) (clm k_MOpct _))) (.cons (.of (.v _)) (.cons (.of (.v _)) (.cons (.of (.v _)) (.cons (.of (.v _)) (.cons (.of (.rf A A (clm k_iC _))) (.cons (.of (.rf A A (clm k_iC _))) .nil)))))))) (by decide) (by decide) A (set_cl MBlk.ct _ _ _ (⟨x31135.Params, (x31135.Ops.set s31130.2.toNat y31141), x31135.End⟩ : MBlk))) ?_
            exact (le_of [(0, some 0), (1, some 1), (2, some 2)] A (.s (.s (.s (.s (.s (.s (.s (.s (.s .nil A) A) A) A) A) A) A) A) A) (.box A A (.cons (.v A) (.cons (.rf A (by simp)) .nil)) (.row A A A (clm k_MBlkct _) (.box A A (.s A) .nil))))
          · refine w_condF A b31134 ?_
            refine w_exit ?_
            cases hF
            cases hx31132 _ rfl
            refine q_exS (q_exS (q_here (q_join ?_)))
            exact (le_of [(0, some 0), (1, some 1), (2, some 2)] A (.s (.s (.s (.s (.s (.s (.s .nil A) A) A) A) A) A) A) (.box A A (.s A) (.row A A A (clm k_MBlkct _) (.box A A (.s A) .nil))))
        replace hF := hG28129
        obtain ⟨x31143, h31144, hF⟩ := bindE hF
        refine W.le (le_open 1 s28117.2.toNat A (map_at h31144) A) ?_
        refine w_draw [[], [], [], [2], [2, 3], [2, 3, 4], [], [6], [], [1, 2, 3, 4, 5, 6, 7, 8], [0, 1, 2, 3, 4, 5, 6, 7, 8, 9], [0, 1, 2, 3, 4, 5, 6, 7, 8, 9, 10], [0, 1, 2, 3, 4, 5, 6, 7, 8, 9, 10, 11]] [0, 1, 2, 3, 4, 5, 6, 8, 7, 9, 10, 11, 12] (by kernel_rfl) (by rfl) ⟨by decide, by rfl⟩ (by rfl) ?_
        refine de1 A (l_move (.ad _ _ _ _)) A (de1 A (l_loadA ty33 A A A A A) A (de1 A (l_move (.ad _ _ _ _)) A (de1 A (l_nil A) A (de1 A (l_field fd47_2 A) A (de1 A (l_loadA ty45 A A (set_at h31144) A A) A (de1 A (l_move (.ro _)) A (de1 A (l_move (.fn _ _ _)) A ?_)))))))
        obtain ⟨y31145, h31146, hF⟩ := bindE hF
        refine deC1 A (l_call (B := false) (FnI.mk' (by kernel_rfl)) (.cons (.ro _) (.one (.ro _)) .nil) (p_tidy_named_ac h31146) (okF p_tidy_named_ok)) A ?_
        obtain ⟨y31147, h31148, hF⟩ := bindE hF
        refine deK A (l_callS [(1, some 70), (2, some 71)] [(0, some 1), (1, some 70), (2, some 71)] (by rfl) (by rfl) (by rfl) (by rfl) (by rfl) (FnI.mk' (by kernel_rfl)) (.ag (.ag _) (.cons (.v A) (.cons (.rf A A) .nil)) (.ag (.ag _) (.cons (.v A) (.cons (.v A) (.cons (.v A) (.cons (.v A) (.cons (.rf A A) (.cons (.rf A A) .nil)))))) (.cons (.fn _ _ _) (.fn A (capB_ok A)) (.cons (.fn _ _ _) (.fn A (capB_ok A)) .nil)))) (.row A A A (clm k_iC _) (.row A A A (clm k_iC _) .nil)) (p_tidy_end_t2_sc h31148) (okS (p_tidy_end_t2_sok (r := y31147)))) A ?_
        refine de1 A (l_nil A) A (de1 A (l_field fd47_2 A) A (deS A (l_storeR ty45 A (.ag _) A (set_at h31144) A (Nat.le_of_ble_eq_true A) A (List.set_set ..)) A (ddE ?_)))
        cases hF
        refine q_in (q_join ?_)
        refine St.le.trans (le_closeR 1 s28117.2.toNat A (set_at h31144) (.cons (.of (.rf A A (clm k_iC _))) (.cons (.of (.rf A A (clm k_MOpct _))) (.cons (.of (.v _)) (.cons (.of (.v _)) (.cons (.of (.v _)) (.cons (.of (.v _)) (.cons (.of (.rf A A (clm k_iC _))) (.cons (.of (.rf A A (clm k_iC _))) .nil)))))))) (by decide) (by decide) A (set_cl MBlk.ct _ _ _ (⟨x31143.Params, x31143.Ops, y31147⟩ : MBlk))) ?_
        exact (le_of [(0, some 0), (1, some 1), (2, some 2)] A (.s (.s (.s (.s (.s (.s .nil A) A) A) A) A) A) (.box A A (.cons (.v A) (.cons (.rf A (by simp)) .nil)) (.row A A A (clm k_MBlkct _) (.box A A (.s A) .nil))))
      replace hF := hG28124
      refine w_region (by rfl) (dv1 (l_bin A A (b_add A)) (dv1 (l_move (.v _)) (dvE ?_)))
      cases hF
      refine qL A ?_
      exact (le_of [(0, some 0), (1, some 1), (2, some 2)] A (.s (.s (.s (.s (.s (.s .nil A) A) A) A) A) A) (.box A A (.s A) (.row A A A (clm k_MBlkct _) (.box A A (.s A) .nil))))
    · refine w_condF A b28121 ?_
      refine w_exit ?_
      cases hF
      cases hx28119 _ rfl
      refine q_exS (q_exS (q_here (q_join ?_)))
      exact (le_of [(0, some 0), (1, some 1), (2, some 2)] A (.s (.s .nil A) A) (.box A A (.s A) (.row A A A (clm k_MBlkct _) (.box A A (.s A) .nil))))
  replace hF := hG24116
  refine w_seq (w_region (by rfl) (dv1 (l_loadA ty33 A A A A A) (dvS (l_store ty33 A (.ag _) A A A (Nat.le_of_ble_eq_true A) A) (dvE (q_seq (w_ret ?_))))))
  cases hF
  refine q_end (.inr A) ?_
  exact ret_ok A (.cons (.cellA ty33 A A A (.cons (.of (.v _)) (.cons (.of (.rf A A (clm k_MBlkct _))) .nil))) .nil) (by decide) A

def p_slices_Delete_api_Block_api_Block_t1 (a0 : List MBlk) (a1 : Int) (a2 : Int) : Option ((List MBlk)) :=
((natI a1).bind fun m1 =>
((natI a2).bind fun m3 =>
(ck (m1 < m3 ∧ m3 ≤ a0.length)
((bif decide (a1 = a2) then
some a0
else
some (a0.take m1 ++ a0.drop m3))))))

theorem p_slices_Delete_api_Block_api_Block_t1_sok {r : (List MBlk)} : rOk (.ro (.sl 47 8 (r.map MBlk.ct))) = true ∧ True := ⟨rfl, trivial⟩

set_option maxRecDepth 10000 in
set_option maxHeartbeats 4000000 in
theorem p_slices_Delete_api_Block_api_Block_t1_sc {a0 : List MBlk} {a1 : Int} {a2 : Int} {r : (List MBlk)} (hF : p_slices_Delete_api_Block_api_Block_t1 a0 a1 a2 = some r) : SC Tryd.prog GT 54 [.rf 0 0 ((a0.map MBlk.ct).length) 8, .v (.int .i64 a1), .v (.int .i64 a2)] [(0, some ⟨47, 8, a0.map MBlk.ctr⟩)] (fun c gb => c = .ro (.sl 47 8 (r.map MBlk.ct)) ∧ gb = []) := by
  unfold p_slices_Delete_api_Block_api_Block_t1 at hF
  refine SC.mk (nt := 33) [] Tryd.func54 A A A A fun w M N g => ?_
  refine w_seq (w_region (by rfl) (dv1 (l_assign (.v _)) (dvE (q_seq (w_seq (w_region (by rfl) (dv1 (l_move (.rf _ _ _ _)) (dv1 (l_move (.v _)) ?_))))))))
  refine dv1 (l_move (.v _)) (dv1 (l_move (.rf _ _ _ _)) (dv1 (l_lenR sl31 A A (List.length_map _)) ?_))
  obtain ⟨m1, h2, hF⟩ := bindE hF
  obtain ⟨m3, h4, hF⟩ := bindE hF
  obtain ⟨c5, hF⟩ := ckE hF
  refine dv1 (l_cut3 sl31 A A A A (natI_z h2) (natI_z h4) (by simp) (Nat.le_of_lt c5.1) (by simpa using c5.2)) (dvE (q_seq (w_seq (w_seq (w_region (by rfl) (dv1 (l_move (.v _)) (dv1 (l_move (.v _)) (dv1 (l_bin A A b_eql) ?_))))))))
  refine dvE (q_seq ?_)
  rcases condE hF with ⟨b6, hF⟩ | ⟨b6, hF⟩
  · refine w_condT A b6 ?_
    refine w_seq (w_region (by rfl) (dv1 (l_move (.rf _ _ _ _)) (dv1 (l_assign (.rf _ _ _ _)) (dvE (q_seq (W.le (le_freezeR 0 (Wk.sl (WkE.map wr_MBlkct _)) [(0, .ro (.sl 47 8 (a0.map MBlk.ct))), (6, .ro (.sl 47 8 (a0.map MBlk.ct))), (8, .ro (.sl 47 8 (a0.map MBlk.ct))), (11, .ro (.sl 47 8 (a0.map MBlk.ct))), (17, .ro (.sl 47 8 (a0.map MBlk.ct)))] [] A (clm kr_MBlkct _) (.rf A (((List.length_map _).trans (List.length_map _).symm)).symm (.rf A (((List.length_map _).trans (List.length_map _).symm)).symm (.rf A (((List.length_map _).trans (List.length_map _).symm)).symm (.rf A (((List.length_map _).trans (List.length_map _).symm)).symm (.rf A (((List.length_map _).trans (List.length_map _).symm)).symm .nil))))) .nil) ?_))))))
    refine w_ret (q_reS ?_)
    cases hF
    refine q_endS (.inr A) ?_
    exact ⟨_, _, ret_okK A (.cons (.tmp (.ro _) (.ro _)) .nil) (by decide) ⟨A, A⟩, gb0⟩
  · refine w_condF A b6 ?_
    refine w_skip (q_seq (w_seq (w_region (by rfl) (dv1 (l_move (.rf _ _ _ _)) (dv1 (l_lenR sl31 A A (List.length_map _)) (dv1 (l_assign (.v _)) (dvE (q_seq ?_))))))))
    refine w_seq (w_draw [[], [], [0, 1], [], [], [3, 4], [0, 1, 2, 3, 4, 5], [0, 1, 2, 3, 4, 5, 6]] [0, 1, 2, 3, 4, 5, 6, 7] (by kernel_rfl) (by rfl) ⟨by decide, by rfl⟩ (by rfl) ?_)
    refine de1 A (l_move (.rf _ _ _ _)) A (de1 A (l_move (.v _)) A (de1 A (l_cutH sl31 A A (natI_z h2) (by simp; omega)) A (de1 A (l_move (.rf _ _ _ _)) A (de1 A (l_move (.v _)) A (de1 A (l_cutL sl31 A A (natI_z h4) (by simp; omega)) A (deN A (l_appIn el31 A A A A (by omega) (by simp; omega) (cp_map (fun _ => A) _) (del_map MBlk.ctr _ _ _) (by simp; omega)) A (de1 A (l_assign (.rf _ _ _ _)) A (ddE ?_))))))))
    refine q_seq (w_seq (w_region (by rfl) (dv1 (l_move (.rf _ _ _ _)) (dv1 (l_move (.rf _ _ _ _)) (dv1 (l_len sl31 A A) (dv1 (l_move (.v _)) (dv1 (l_cutX (tw := 8) sl31 A A A A A A (by simp; omega) (by simp)) (dv0 (l_clear el31 zt47 A A A (by simp; omega)) ?_))))))))
    refine dvE (q_seq (w_seq (w_region (by rfl) (dv1 (l_move (.rf _ _ _ _)) (dv1 (l_assign (.rf _ _ _ _)) (dvE (q_seq (W.le (le_freezeR 0 (Wk.sl (WkE.map wr_MBlkct _)) [(0, .ro (.sl 47 8 ((a0.take m1 ++ a0.drop m3).map MBlk.ct))), (6, .ro (.sl 47 8 ((a0.take m1 ++ a0.drop m3).map MBlk.ct))), (26, .ro (.sl 47 8 ((a0.take m1 ++ a0.drop m3).map MBlk.ct))), (27, .ro (.sl 47 8 ((a0.take m1 ++ a0.drop m3).map MBlk.ct))), (28, .ro (.sl 47 8 ((a0.take m1 ++ a0.drop m3).map MBlk.ct))), (32, .ro (.sl 47 8 ((a0.take m1 ++ a0.drop m3).map MBlk.ct)))] [] A (clm kr_MBlkct _) (.rf A (by simp; omega) (.rf A (by simp; omega) (.rf A (by simp; omega) (.rf A (by simp; omega) (.rf A (by simp; omega) (.rf A (by simp; omega) .nil)))))) .nil) ?_))))))))
    refine w_ret ?_
    cases hF
    refine q_endS (.inr A) ?_
    exact ⟨_, _, ret_okK A (.cons (.tmp (.ro _) (.ro _)) .nil) (by decide) ⟨A, A⟩, gb0⟩

def p_tidy_merged (a0 : MFun) (a1 : Int) (a2 : Int) : Option MFun :=
((p_code_Values a0).bind fun y24128 =>
((natI y24128).bind fun m24130 =>
(ck (8 * m24130 ≤ 140737488355328)
((((loop (fun (s28136 : (List Int) × Int) =>
(bif decide (s28136.2 < (((List.replicate m24130 (0 : Int)).length : Nat) : Int)) then
((atI s28136.1 s28136.2).bind fun x28141 =>
some (Xt.go ((s28136.1.set s28136.2.toNat s28136.2), IntKind.i64.wrap (s28136.2 + 1))))
else
some (Xt.out s28136.1))) Fu ((List.replicate m24130 (0 : Int)), 0))).bind fun (s24134 : (List Int)) =>
((atI a0.Blocks a2).bind fun x28143 =>
((((atI a0.Blocks a1).bind fun x28148 =>
(loop (fun (s31150 : (List Int) × Nat) =>
(bif decide (s31150.2 < x28148.End.L.length) then
((x28148.End.L[s31150.2]?).bind fun x31156 =>
((p_code_First a0 a2).bind fun y31158 =>
((atI s31150.1 (IntKind.i64.wrap (y31158 + ((s31150.2 : Nat) : Int)))).bind fun x31160 =>
some (Xt.go ((s31150.1.set ((IntKind.i64.wrap (y31158 + ((s31150.2 : Nat) : Int))).toNat) x31156), (s31150.2 + 1))))))
else
some (Xt.out s31150.1))) Fu (s24134, 0)))).bind fun (s28146 : (List Int)) =>
(((loop (fun (s34165 : (List Int) × Bool) =>
(bif s34165.2 then
((loop (fun (s38170 : (List Int) × Bool × Int) =>
(bif decide (s38170.2.2 < ((s34165.1.length : Nat) : Int)) then
((((atI s38170.1 s38170.2.2).bind fun x38180 =>
(((bif decide ((0 : Int) ≤ x38180) then
(bif decide (x38180 < ((s38170.1.length : Nat) : Int)) then
((atI s38170.1 x38180).bind fun x38187 =>
(bif decide (x38187 = x38180) then
some false
else
some (!(decide (x38180 = s38170.2.2)))))
else
some false)
else
some false)).bind fun (s38183 : Bool) =>
(bif s38183 then
((atI s38170.1 x38180).bind fun x38191 =>
some ((s38170.1.set s38170.2.2.toNat x38191), true))
else
some (s38170.1, s38170.2.1))))).bind fun (s38178 : (List Int) × Bool) =>
some (Xt.go (s38178.1, s38178.2, IntKind.i64.wrap (s38170.2.2 + 1))))
else
some (Xt.out (s38170.1, s38170.2.1)))) Fu (s34165.1, false, 0)).bind fun o38173 => some (Xt.go o38173))
else
some (Xt.out s34165.1))) Fu (s28146, true))).bind fun (s31163 : (List Int)) =>
((p_tidy_renamed_s1 a0 s31163).bind fun y38193 =>
(((loop (fun (s41198 : (List Int) × Nat) =>
(bif decide (s41198.2 < y38193.Blocks.length) then
(((bif decide (((s41198.2 : Nat) : Int) = a2) then
some s41198.1
else
((p_tidy_span y38193 ((s41198.2 : Nat) : Int)).bind fun y41208 =>
(ck (((s41198.1 ++ y41208)).length * 8 ≤ 140737488355328)
((bif decide (((s41198.2 : Nat) : Int) = a1) then
((p_tidy_span y38193 a2).bind fun y41212 =>
(ck (x28143.Params.length ≤ y41212.length ∧ y41212.length ≤ y41212.length)
((ck ((((s41198.1 ++ y41208) ++ (takeN y41212 x28143.Params.length y41212.length))).length * 8 ≤ 140737488355328)
(some ((s41198.1 ++ y41208) ++ (takeN y41212 x28143.Params.length y41212.length)))))))
else
some (s41198.1 ++ y41208))))))).bind fun (s41205 : (List Int)) =>
some (Xt.go (s41205, (s41198.2 + 1))))
else
some (Xt.out s41198.1))) Fu ([], 0))).bind fun (s38196 : (List Int)) =>
(((loop (fun (s45219 : (List Int) × Int) =>
(bif decide (s45219.2 < ((s31163.length : Nat) : Int)) then
((atI s45219.1 s45219.2).bind fun x45224 =>
some (Xt.go ((s45219.1.set s45219.2.toNat (-1)), IntKind.i64.wrap (s45219.2 + 1))))
else
some (Xt.out s45219.1))) Fu (s31163, 0))).bind fun (s41217 : (List Int)) =>
(((loop (fun (s48229 : (List Int) × Nat) =>
(bif decide (s48229.2 < s38196.length) then
((s38196[s48229.2]?).bind fun x48235 =>
((atI s48229.1 x48235).bind fun x48237 =>
some (Xt.go ((s48229.1.set x48235.toNat ((s48229.2 : Nat) : Int)), (s48229.2 + 1)))))
else
some (Xt.out s48229.1))) Fu (s41217, 0))).bind fun (s45227 : (List Int)) =>
((p_tidy_renamed_s2 y38193 s45227 a2).bind fun y48239 =>
((atI y48239.Blocks a1).bind fun x48241 =>
((atI y48239.Blocks a2).bind fun x48243 =>
(ck (¬ a1.toNat = a2.toNat)
((ck (((x48241.Ops ++ x48243.Ops)).length * 88 ≤ 140737488355328)
((ck (¬ a1.toNat = a2.toNat)
(((p_slices_Delete_api_Block_api_Block_t1 (y48239.Blocks.set a1.toNat (⟨x48241.Params, (x48241.Ops ++ x48243.Ops), x48243.End⟩ : MBlk)) a2 (IntKind.i64.wrap (a2 + 1))).bind fun y48248 =>
some (⟨y48239.Ret, y48248⟩ : MFun)))))))))))))))))))))))

theorem p_tidy_merged_ok {r : MFun} : rOk (.ag [.v (.int .i64 r.Ret), .ro (.sl 47 8 (r.Blocks.map MBlk.ct))]) = true ∧ True := ⟨rfl, trivial⟩

set_option maxRecDepth 10000 in
set_option maxHeartbeats 4000000 in
theorem p_tidy_merged_ac {a0 : MFun} {a1 : Int} {a2 : Int} {r : MFun} (hF : p_tidy_merged a0 a1 a2 = some r) : AC Tryd.prog GT 38 [.ag (MFun.ct a0), .v (.int .i64 a1), .v (.int .i64 a2)] (fun c => c = .ag [.v (.int .i64 r.Ret), .ro (.sl 47 8 (r.Blocks.map MBlk.ct))]) := by
  unfold p_tidy_merged at hF
  refine AC.mk (nt := 188) Tryd.func38 A A A fun w N => ?_
  refine w_seq (w_region (by rfl) (dvN (l_box (.ag _) A A) (dvN (l_box (.v _) A A) (dvN (l_alloc zt33) (dvE (q_seq (w_seq (w_region (by rfl) ?_))))))))
  refine dv1 (l_loadA ty33 A A A A A) ?_
  obtain ⟨y24128, h24129, hF⟩ := bindE hF
  refine dvC (l_call (B := false) (FnI.mk' (by kernel_rfl)) (.cons (.ag _) (.ag (.cons (.v _) (.cons (.ro _) .nil))) .nil) (p_code_Values_ac h24129) (okF p_code_Values_ok)) ?_
  rintro _ rfl
  obtain ⟨m24130, h24131, hF⟩ := bindE hF
  obtain ⟨c24132, hF⟩ := ckE hF
  refine dvN (l_makeR (iC (0 : Int)) m24130 sl29 by3 zt3 A A A (natI_z h24131) (natI_z h24131) c24132 (by decide) A (by intro j c z h1 h2 w N bs; rcases j with _ | j <;> simp at h1 h2 <;> (subst h1; subst h2; first | exact .v _ | exact .nil)) (rep_map iC _ _)) (dv1 (l_assign (.rf _ _ _ _)) (dvE (q_seq ?_)))
  obtain ⟨s24134, hF, hG24135⟩ := bindE hF
  refine w_seqJ ⟨[(1, .v (.int .i64 a1)), (3, .ad 0 2 0 0), (5, .ad 1 1 0 0), (6, .ad 2 2 0 0), (7, .rf 3 0 ((s24134.map iC).length) 1)], [(0, some ⟨33, 2, [[.v (.int .i64 a0.Ret), .ro (.sl 47 8 (a0.Blocks.map MBlk.ct))]]⟩), (1, some ⟨3, 1, [[.v (.int .i64 a2)]]⟩), (2, some ⟨33, 2, [[.v (.int .i64 0), .v (.slice none 0 0)]]⟩), (3, some ⟨3, 1, s24134.map iC⟩)], 1⟩ ?_ ?_
  · refine w_seq (w_region (by rfl) (dv1 (l_move (.rf _ _ _ _)) (dv1 (l_lenR sl29 A A (List.length_map _)) (dv1 (l_move (.v _)) (dvE (q_seq (w_block (w_loopF hF (fun (s28136 : (List Int) × Int) => ⟨[(1, .v (.int .i64 a1)), (3, .ad 0 2 0 0), (5, .ad 1 1 0 0), (6, .ad 2 2 0 0), (7, .rf 3 0 ((s28136.1.map iC).length) 1), (25, .v (.int .i64 (((List.replicate m24130 (0 : Int)).length : Nat) : Int))), (26, .v (.int .i64 s28136.2))], [(0, some ⟨33, 2, [[.v (.int .i64 a0.Ret), .ro (.sl 47 8 (a0.Blocks.map MBlk.ct))]]⟩), (1, some ⟨3, 1, [[.v (.int .i64 a2)]]⟩), (2, some ⟨33, 2, [[.v (.int .i64 0), .v (.slice none 0 0)]]⟩), (3, some ⟨3, 1, s28136.1.map iC⟩)], 1⟩) (le_of [(0, some 0), (1, some 64), (2, some 128), (3, some 320)] A (.s (.s (.s (.s (.s (.s (.s .nil A) A) A) A) A) A) A) (.box A A (.s A) (.box A A (.s A) (.box A A (.s A) (.row A A A (clm k_iC _) .nil))))) ?_))))))))
    intro s28136 y28137 hF hx28138
    refine w_seq (w_region (by rfl) (dv1 (l_bin A A b_lss) (dvE (q_seq (w_seq ?_)))))
    rcases condE hF with ⟨b28140, hF⟩ | ⟨b28140, hF⟩
    · refine w_condT A b28140 ?_
      refine w_skip (q_seq (w_seq (w_block (w_seq (w_region (by rfl) (dv1 (l_move (.v _)) (dv1 (l_assign (.v _)) (dvE ?_))))))))
      refine q_seq (w_region (by rfl) (dv1 (l_move (.rf _ _ _ _)) (dv1 (l_move (.v _)) (dv1 (l_move (.v _)) ?_))))
      obtain ⟨x28141, h28142, hF⟩ := bindE hF
      refine dv1 (l_index s28136.2.toNat sl29 A A (atI_z h28142) (lt_at iC (atI_at h28142))) (dvS (l_storeR ty3 A (.v _) A (map_at (atI_at h28142)) A (Nat.le_of_ble_eq_true A) A (map_set' iC s28136.1 s28136.2.toNat s28136.2)) (dvE (q_in (q_seq (w_region (by rfl) (dv1 (l_bin A A (b_add A)) (dv1 (l_move (.v _)) (dvE ?_))))))))
      cases hF
      refine qL A ?_
      exact (le_of [(0, some 0), (1, some 1), (2, some 2), (3, some 3)] A (.s (.s (.s (.s (.cons (.rf _ _ _ _) (.rf A (by simp)) (.s (.s .nil A) A)) A) A) A) A) (.box A A (.s A) (.box A A (.s A) (.box A A (.s A) (.row A A A (clm k_iC _) .nil)))))
    · refine w_condF A b28140 ?_
      refine w_exit ?_
      cases hF
      cases hx28138 _ rfl
      refine q_exS (q_exS (q_here (q_join ?_)))
      exact (le_of [(0, some 0), (1, some 1), (2, some 2), (3, some 3)] A (.s (.s (.s (.s (.s .nil A) A) A) A) A) (.box A A (.s A) (.box A A (.s A) (.box A A (.s A) (.row A A A (clm k_iC _) .nil)))))
  replace hF := hG24135
  refine w_seq (w_region (by rfl) (dv1 (l_field fd33_1 A) (dv1 (l_load ty31 A A A A A) (dv1 (l_load ty3 A A A A A) ?_))))
  obtain ⟨x28143, h28144, hF⟩ := bindE hF
  refine dv1 (l_indexRo a2.toNat sl31 A A (atI_z h28144) (map_at (atI_at h28144))) (dv1 (l_fieldRo fd47_0 A) (dv1 (l_loadRo ty29 A A) (dv1 (l_assign (.ro _)) (dvE (q_seq ?_)))))
  obtain ⟨s28146, hF, hG28147⟩ := bindE hF
  refine w_seqJ ⟨[(1, .v (.int .i64 a1)), (3, .ad 0 2 0 0), (5, .ad 1 1 0 0), (6, .ad 2 2 0 0), (7, .rf 3 0 ((s28146.map iC).length) 1), (9, .ro (.sl 3 1 (x28143.Params.map iC)))], [(0, some ⟨33, 2, [[.v (.int .i64 a0.Ret), .ro (.sl 47 8 (a0.Blocks.map MBlk.ct))]]⟩), (1, some ⟨3, 1, [[.v (.int .i64 a2)]]⟩), (2, some ⟨33, 2, [[.v (.int .i64 0), .v (.slice none 0 0)]]⟩), (3, some ⟨3, 1, s28146.map iC⟩)], 1⟩ ?_ ?_
  · refine w_seq (w_region (by rfl) (dv1 (l_field fd33_1 A) (dv1 (l_load ty31 A A A A A) (dv1 (l_move (.v _)) ?_))))
    obtain ⟨x28148, h28149, hF⟩ := bindE hF
    refine dv1 (l_indexRo a1.toNat sl31 A A (atI_z h28149) (map_at (atI_at h28149))) (dv1 (l_fieldRo fd47_2 A) (dv1 (l_fieldRo fd45_4 A) (dv1 (l_loadRo ty29 A A) (dv1 (l_lenRo sl29 A A (List.length_map _)) (dv1 (l_move (.v _)) (dvE (q_seq (w_block ?_))))))))
    refine w_loopF hF (fun (s31150 : (List Int) × Nat) => ⟨[(1, .v (.int .i64 a1)), (3, .ad 0 2 0 0), (5, .ad 1 1 0 0), (6, .ad 2 2 0 0), (7, .rf 3 0 ((s31150.1.map iC).length) 1), (9, .ro (.sl 3 1 (x28143.Params.map iC))), (46, .ro (.sl 3 1 (x28148.End.L.map iC))), (47, .v (.int .i64 ((x28148.End.L.length : Nat) : Int))), (48, .v (.int .i64 ((s31150.2 : Nat) : Int)))], [(0, some ⟨33, 2, [[.v (.int .i64 a0.Ret), .ro (.sl 47 8 (a0.Blocks.map MBlk.ct))]]⟩), (1, some ⟨3, 1, [[.v (.int .i64 a2)]]⟩), (2, some ⟨33, 2, [[.v (.int .i64 0), .v (.slice none 0 0)]]⟩), (3, some ⟨3, 1, s31150.1.map iC⟩)], 1⟩) (le_of [(0, some 0), (1, some 1), (2, some 2), (3, some 3)] A (.s (.s (.s (.s (.s (.s (.s (.s (.s .nil A) A) A) A) A) A) A) A) A) (.box A A (.s A) (.box A A (.s A) (.box A A (.s A) (.row A A A (clm k_iC _) .nil))))) ?_
    intro s31150 y31151 hF hx31152
    refine w_seq (w_region (by rfl) (dv1 (l_bin A A b_lssN) (dvE (q_seq (w_seq ?_)))))
    rcases condE hF with ⟨b31154, hF⟩ | ⟨b31154, hF⟩
    · refine w_lenS 46 A fun l31155 => ?_
      refine w_condT A b31154 ?_
      refine w_skip (q_seq (w_seq (w_block (w_seq (w_region (by rfl) (dv1 (l_move (.v _)) ?_))))))
      obtain ⟨x31156, h31157, hF⟩ := bindE hF
      refine dv1 (l_indexRo s31150.2 sl29 A A A (map_at h31157)) (dv1 (l_loadRo ty3 A A) (dv1 (l_assign (.v _)) (dv1 (l_assign (.v _)) (dvE (q_seq (w_region (by rfl) (dv1 (l_move (.rf _ _ _ _)) (dv1 (l_loadA ty33 A A A A A) ?_))))))))
      refine dv1 (l_load ty3 A A A A A) ?_
      obtain ⟨y31158, h31159, hF⟩ := bindE hF
      refine dvC (l_call (B := false) (FnI.mk' (by kernel_rfl)) (.cons (.ag _) (.ag (.cons (.v _) (.cons (.ro _) .nil))) (.cons (.v _) (.one (.v _)) .nil)) (p_code_First_ac h31159) (okF p_code_First_ok)) ?_
      rintro _ rfl
      refine dv1 (l_move (.v _)) (dv1 (l_bin A A (b_add A)) (dv1 (l_move (.v _)) ?_))
      obtain ⟨x31160, h31161, hF⟩ := bindE hF
      refine dv1 (l_index ((IntKind.i64.wrap (y31158 + ((s31150.2 : Nat) : Int))).toNat) sl29 A A (atI_z h31161) (lt_at iC (atI_at h31161))) (dvS (l_storeR ty3 A (.v _) A (map_at (atI_at h31161)) A (Nat.le_of_ble_eq_true A) A (map_set' iC s31150.1 ((IntKind.i64.wrap (y31158 + ((s31150.2 : Nat) : Int))).toNat) x31156)) (dvE (q_in (q_seq (w_region (by rfl) (dv1 (l_bin A A (b_incN (of_decide_eq_true b31154) l31155)) (dv1 (l_move (.v _)) (dvE ?_))))))))
      cases hF
      refine qL A ?_
      exact (le_of [(0, some 0), (1, some 1), (2, some 2), (3, some 3)] A (.s (.s (.s (.s (.cons (.rf _ _ _ _) (.rf A (by simp)) (.s (.s (.s (.s .nil A) A) A) A)) A) A) A) A) (.box A A (.s A) (.box A A (.s A) (.box A A (.s A) (.row A A A (clm k_iC _) .nil)))))
    · refine w_condF A b31154 ?_
      refine w_exit ?_
      cases hF
      cases hx31152 _ rfl
      refine q_exS (q_exS (q_here (q_join ?_)))
      exact (le_of [(0, some 0), (1, some 1), (2, some 2), (3, some 3)] A (.s (.s (.s (.s (.s (.s .nil A) A) A) A) A) A) (.box A A (.s A) (.box A A (.s A) (.box A A (.s A) (.row A A A (clm k_iC _) .nil)))))
  replace hF := hG28147
  obtain ⟨s31163, hF, hG31164⟩ := bindE hF
  refine w_seqJ ⟨[(1, .v (.int .i64 a1)), (3, .ad 0 2 0 0), (5, .ad 1 1 0 0), (6, .ad 2 2 0 0), (7, .rf 3 0 ((s31163.map iC).length) 1), (9, .ro (.sl 3 1 (x28143.Params.map iC)))], [(0, some ⟨33, 2, [[.v (.int .i64 a0.Ret), .ro (.sl 47 8 (a0.Blocks.map MBlk.ct))]]⟩), (1, some ⟨3, 1, [[.v (.int .i64 a2)]]⟩), (2, some ⟨33, 2, [[.v (.int .i64 0), .v (.slice none 0 0)]]⟩), (3, some ⟨3, 1, s31163.map iC⟩)], 1⟩ ?_ ?_
  · refine w_seq (w_region (by rfl) (dv1 (l_assign (.v _)) (dvE (q_seq (w_block (w_loopF hF (fun (s34165 : (List Int) × Bool) => ⟨[(1, .v (.int .i64 a1)), (3, .ad 0 2 0 0), (5, .ad 1 1 0 0), (6, .ad 2 2 0 0), (7, .rf 3 0 ((s34165.1.map iC).length) 1), (9, .ro (.sl 3 1 (x28143.Params.map iC))), (12, .v (.bool s34165.2))], [(0, some ⟨33, 2, [[.v (.int .i64 a0.Ret), .ro (.sl 47 8 (a0.Blocks.map MBlk.ct))]]⟩), (1, some ⟨3, 1, [[.v (.int .i64 a2)]]⟩), (2, some ⟨33, 2, [[.v (.int .i64 0), .v (.slice none 0 0)]]⟩), (3, some ⟨3, 1, s34165.1.map iC⟩)], 1⟩) (le_of [(0, some 0), (1, some 1), (2, some 2), (3, some 3)] A (.s (.s (.s (.s (.s (.s (.s .nil A) A) A) A) A) A) A) (.box A A (.s A) (.box A A (.s A) (.box A A (.s A) (.row A A A (clm k_iC _) .nil))))) ?_))))))
    intro s34165 y34166 hF hx34167
    refine w_seq (w_seq (w_region (by rfl) (dv1 (l_move (.v _)) (dvE (q_seq ?_)))))
    rcases condE hF with ⟨b34169, hF⟩ | ⟨b34169, hF⟩
    · refine w_condT A b34169 ?_
      refine w_skip (q_seq (w_block (w_seq (w_region (by rfl) (dv1 (l_assign (.v _)) (dvE (q_seq (w_seq ?_))))))))
      refine w_region (by rfl) (dv1 (l_move (.rf _ _ _ _)) (dv1 (l_lenR sl29 A A (List.length_map _)) (dv1 (l_move (.v _)) (dvE (q_seq (w_block ?_))))))
      obtain ⟨o38173, hF, hG38174⟩ := bindE hF
      refine w_loopF hF (fun (s38170 : (List Int) × Bool × Int) => ⟨[(1, .v (.int .i64 a1)), (3, .ad 0 2 0 0), (5, .ad 1 1 0 0), (6, .ad 2 2 0 0), (7, .rf 3 0 ((s38170.1.map iC).length) 1), (9, .ro (.sl 3 1 (x28143.Params.map iC))), (12, .v (.bool s38170.2.1)), (63, .rf 3 0 ((s38170.1.map iC).length) 1), (64, .v (.int .i64 ((s34165.1.length : Nat) : Int))), (65, .v (.int .i64 s38170.2.2))], [(0, some ⟨33, 2, [[.v (.int .i64 a0.Ret), .ro (.sl 47 8 (a0.Blocks.map MBlk.ct))]]⟩), (1, some ⟨3, 1, [[.v (.int .i64 a2)]]⟩), (2, some ⟨33, 2, [[.v (.int .i64 0), .v (.slice none 0 0)]]⟩), (3, some ⟨3, 1, s38170.1.map iC⟩)], 1⟩) (le_of [(0, some 0), (1, some 1), (2, some 2), (3, some 3)] A (.s (.s (.s (.s (.s (.s (.s (.s (.s (.s .nil A) A) A) A) A) A) A) A) A) A) (.box A A (.s A) (.box A A (.s A) (.box A A (.s A) (.row A A A (clm k_iC _) .nil))))) ?_
      intro s38170 y38171 hF hx38172
      refine w_seq (w_region (by rfl) (dv1 (l_bin A A b_lss) (dvE (q_seq (w_seq ?_)))))
      rcases condE hF with ⟨b38175, hF⟩ | ⟨b38175, hF⟩
      · refine w_condT A b38175 ?_
        refine w_skip (q_seq ?_)
        obtain ⟨s38178, hF, hG38179⟩ := bindE hF
        refine w_seqJ ⟨[(1, .v (.int .i64 a1)), (3, .ad 0 2 0 0), (5, .ad 1 1 0 0), (6, .ad 2 2 0 0), (7, .rf 3 0 ((s38178.1.map iC).length) 1), (9, .ro (.sl 3 1 (x28143.Params.map iC))), (12, .v (.bool s38178.2)), (63, .rf 3 0 ((s38178.1.map iC).length) 1), (64, .v (.int .i64 ((s34165.1.length : Nat) : Int))), (65, .v (.int .i64 s38170.2.2))], [(0, some ⟨33, 2, [[.v (.int .i64 a0.Ret), .ro (.sl 47 8 (a0.Blocks.map MBlk.ct))]]⟩), (1, some ⟨3, 1, [[.v (.int .i64 a2)]]⟩), (2, some ⟨33, 2, [[.v (.int .i64 0), .v (.slice none 0 0)]]⟩), (3, some ⟨3, 1, s38178.1.map iC⟩)], 1⟩ ?_ ?_
        · refine w_block (w_seq (w_region (by rfl) (dv1 (l_move (.v _)) ?_)))
          obtain ⟨x38180, h38181, hF⟩ := bindE hF
          refine dv1 (l_index s38170.2.2.toNat sl29 A A (atI_z h38181) (lt_at iC (atI_at h38181))) (dv1 (l_load ty3 A A (map_at (atI_at h38181)) A A) (dv1 (l_assign (.v _)) (dv1 (l_assign (.v _)) (dvE (q_seq ?_)))))
          obtain ⟨s38183, hF, hG38184⟩ := bindE hF
          refine w_seqJ ⟨[(1, .v (.int .i64 a1)), (3, .ad 0 2 0 0), (5, .ad 1 1 0 0), (6, .ad 2 2 0 0), (7, .rf 3 0 ((s38170.1.map iC).length) 1), (9, .ro (.sl 3 1 (x28143.Params.map iC))), (12, .v (.bool s38170.2.1)), (13, .v (.int .i64 s38170.2.2)), (14, .v (.int .i64 x38180)), (63, .rf 3 0 ((s38170.1.map iC).length) 1), (64, .v (.int .i64 ((s34165.1.length : Nat) : Int))), (65, .v (.int .i64 s38170.2.2)), (90, .v (.bool s38183))], [(0, some ⟨33, 2, [[.v (.int .i64 a0.Ret), .ro (.sl 47 8 (a0.Blocks.map MBlk.ct))]]⟩), (1, some ⟨3, 1, [[.v (.int .i64 a2)]]⟩), (2, some ⟨33, 2, [[.v (.int .i64 0), .v (.slice none 0 0)]]⟩), (3, some ⟨3, 1, s38170.1.map iC⟩)], 1⟩ ?_ ?_
          · refine w_region (by rfl) (dv1 (l_move (.v _)) (dv1 (l_bin A A b_geq) (dv1 (l_move (.v _)) ?_)))
            rcases condE hF with ⟨b38185, hF⟩ | ⟨b38185, hF⟩
            · refine dv1 (l_gT A A (gt A b38185) fun _ => l_move (.v _)) (dv1 (l_gT A A (gt A b38185) fun _ => l_move (.rf _ _ _ _)) (dv1 (l_gT A A (gt A b38185) fun _ => l_lenR sl29 A A (List.length_map _)) (dv1 (l_gT A A (gt A b38185) fun _ => l_bin A A b_lss) (dv1 (l_pickT (gt A b38185) (.v _)) (dv1 (l_move (.v _)) ?_)))))
              rcases condE hF with ⟨b38186, hF⟩ | ⟨b38186, hF⟩
              · refine dv1 (l_gT A A (gt A b38186) fun _ => l_move (.rf _ _ _ _)) (dv1 (l_gT A A (gt A b38186) fun _ => l_move (.v _)) ?_)
                obtain ⟨x38187, h38188, hF⟩ := bindE hF
                refine dv1 (l_gT A A (gt A b38186) fun _ => l_index x38180.toNat sl29 A A (atI_z h38188) (lt_at iC (atI_at h38188))) (dv1 (l_gT A A (gt A b38186) fun _ => l_load ty3 A A (map_at (atI_at h38188)) A A) (dv1 (l_gT A A (gt A b38186) fun _ => l_move (.v _)) (dv1 (l_gT A A (gt A b38186) fun _ => l_bin A A b_neq) (dv1 (l_pickT (gt A b38186) (.v _)) (dv1 (l_move (.v _)) ?_)))))
                rcases condE hF with ⟨b38189, hF⟩ | ⟨b38189, hF⟩
                · refine dv1 (l_gF A A (gt A (nF b38189)) A) (dv1 (l_gF A A (gt A (nF b38189)) A) (dv1 (l_gF A A (gt A (nF b38189)) A) (dv1 (l_pickF (gt A (nF b38189)) (.v _)) (dvE ?_))))
                  cases hF
                  refine q_join ?_
                  exact (le_of [(0, some 0), (1, some 1), (2, some 2), (3, some 3)] A (.s (.s (.s (.s (.s (.s (.s (.s (.s (.s (.s (.s (.s .nil A) A) A) A) A) A) A) A) A) A) A) A) A) (.box A A (.s A) (.box A A (.s A) (.box A A (.s A) (.row A A A (clm k_iC _) .nil)))))
                · refine dv1 (l_gT A A (gt A (nT b38189)) fun _ => l_move (.v _)) (dv1 (l_gT A A (gt A (nT b38189)) fun _ => l_move (.v _)) (dv1 (l_gT A A (gt A (nT b38189)) fun _ => l_bin A A b_neq) (dv1 (l_pickT (gt A (nT b38189)) (.v _)) (dvE ?_))))
                  cases hF
                  refine q_join ?_
                  exact (le_of [(0, some 0), (1, some 1), (2, some 2), (3, some 3)] A (.s (.s (.s (.s (.s (.s (.s (.s (.s (.s (.s (.s (.s .nil A) A) A) A) A) A) A) A) A) A) A) A) A) (.box A A (.s A) (.box A A (.s A) (.box A A (.s A) (.row A A A (clm k_iC _) .nil)))))
              · refine dv1 (l_gF A A (gt A b38186) A) (dv1 (l_gF A A (gt A b38186) A) (dv1 (l_gF A A (gt A b38186) A) (dv1 (l_gF A A (gt A b38186) A) (dv1 (l_gF A A (gt A b38186) A) (dv1 (l_gF A A (gt A b38186) A) (dv1 (l_pickF (gt A b38186) (.v _)) (dv1 (l_move (.v _)) (dv1 (l_gF A A A A) ?_))))))))
                refine dv1 (l_gF A A A A) (dv1 (l_gF A A A A) (dv1 (l_pickF A (.v _)) (dvE ?_)))
                cases hF
                refine q_join ?_
                exact (le_of [(0, some 0), (1, some 1), (2, some 2), (3, some 3)] A (.s (.s (.s (.s (.s (.s (.s (.s (.s (.s (.s (.s (.s .nil A) A) A) A) A) A) A) A) A) A) A) A) A) (.box A A (.s A) (.box A A (.s A) (.box A A (.s A) (.row A A A (clm k_iC _) .nil)))))
            · refine dv1 (l_gF A A (gt A b38185) A) (dv1 (l_gF A A (gt A b38185) A) (dv1 (l_gF A A (gt A b38185) A) (dv1 (l_gF A A (gt A b38185) A) (dv1 (l_pickF (gt A b38185) (.v _)) (dv1 (l_move (.v _)) (dv1 (l_gF A A A A) (dv1 (l_gF A A A A) (dv1 (l_gF A A A A) ?_))))))))
              refine dv1 (l_gF A A A A) (dv1 (l_gF A A A A) (dv1 (l_gF A A A A) (dv1 (l_pickF A (.v _)) (dv1 (l_move (.v _)) (dv1 (l_gF A A A A) (dv1 (l_gF A A A A) (dv1 (l_gF A A A A) (dv1 (l_pickF A (.v _)) ?_))))))))
              refine dvE ?_
              cases hF
              refine q_join ?_
              exact (le_of [(0, some 0), (1, some 1), (2, some 2), (3, some 3)] A (.s (.s (.s (.s (.s (.s (.s (.s (.s (.s (.s (.s (.s .nil A) A) A) A) A) A) A) A) A) A) A) A) A) (.box A A (.s A) (.box A A (.s A) (.box A A (.s A) (.row A A A (clm k_iC _) .nil)))))
          replace hF := hG38184
          rcases condE hF with ⟨b38190, hF⟩ | ⟨b38190, hF⟩
          · refine w_condT A b38190 ?_
            refine w_region (by rfl) (dv1 (l_move (.rf _ _ _ _)) (dv1 (l_move (.v _)) (dv1 (l_move (.rf _ _ _ _)) (dv1 (l_move (.v _)) ?_))))
            obtain ⟨x38191, h38192, hF⟩ := bindE hF
            refine dv1 (l_index x38180.toNat sl29 A A (atI_z h38192) (lt_at iC (atI_at h38192))) (dv1 (l_load ty3 A A (map_at (atI_at h38192)) A A) (dv1 (l_index s38170.2.2.toNat sl29 A A (atI_z h38181) (lt_at iC (atI_at h38181))) (dvS (l_storeR ty3 A (.v _) A (map_at (atI_at h38181)) A (Nat.le_of_ble_eq_true A) A (map_set' iC s38170.1 s38170.2.2.toNat x38191)) (dv1 (l_assign (.v _)) (dvE ?_)))))
            cases hF
            refine q_in (q_join ?_)
            exact (le_of [(0, some 0), (1, some 1), (2, some 2), (3, some 3)] A (.s (.s (.s (.s (.cons (.rf _ _ _ _) (.rf A (by simp)) (.s (.s (.cons (.rf _ _ _ _) (.rf A (by simp)) (.s (.s .nil A) A)) A) A)) A) A) A) A) (.box A A (.s A) (.box A A (.s A) (.box A A (.s A) (.row A A A (clm k_iC _) .nil)))))
          · refine w_condF A b38190 ?_
            refine w_skip ?_
            cases hF
            refine q_in (q_join ?_)
            exact (le_of [(0, some 0), (1, some 1), (2, some 2), (3, some 3)] A (.s (.s (.s (.s (.s (.s (.s (.s (.s (.s .nil A) A) A) A) A) A) A) A) A) A) (.box A A (.s A) (.box A A (.s A) (.box A A (.s A) (.row A A A (clm k_iC _) .nil)))))
        replace hF := hG38179
        refine w_region (by rfl) (dv1 (l_bin A A (b_add A)) (dv1 (l_move (.v _)) (dvE ?_)))
        cases hF
        refine qL A ?_
        exact (le_of [(0, some 0), (1, some 1), (2, some 2), (3, some 3)] A (.s (.s (.s (.s (.s (.s (.s (.s (.s (.s .nil A) A) A) A) A) A) A) A) A) A) (.box A A (.s A) (.box A A (.s A) (.box A A (.s A) (.row A A A (clm k_iC _) .nil)))))
      · refine w_condF A b38175 ?_
        refine w_exit ?_
        cases hF
        cases hx38172 _ rfl
        have hF := hG38174
        cases hF
        refine q_exS (q_exS (q_here (q_in (qL A ?_))))
        exact (le_of [(0, some 0), (1, some 1), (2, some 2), (3, some 3)] A (.s (.s (.s (.s (.s (.s (.s .nil A) A) A) A) A) A) A) (.box A A (.s A) (.box A A (.s A) (.box A A (.s A) (.row A A A (clm k_iC _) .nil)))))
    · refine w_condF A b34169 ?_
      refine w_exit ?_
      cases hF
      cases hx34167 _ rfl
      refine q_exS (q_exS (q_here (q_join ?_)))
      exact (le_of [(0, some 0), (1, some 1), (2, some 2), (3, some 3)] A (.s (.s (.s (.s (.s (.s .nil A) A) A) A) A) A) (.box A A (.s A) (.box A A (.s A) (.box A A (.s A) (.row A A A (clm k_iC _) .nil)))))
  replace hF := hG31164
  refine w_seq (w_region (by rfl) (dv1 (l_loadA ty33 A A A A A) (dv1 (l_move (.rf _ _ _ _)) ?_)))
  obtain ⟨y38193, h38194, hF⟩ := bindE hF
  refine dvC (l_call (B := true) (FnI.mk' (by kernel_rfl)) (.cons (.ag _) (.ag (.cons (.v _) (.cons (.ro _) .nil))) (.cons (.rf _ _ _ _) (.one (.rf A A A (clm k_iC _))) (.cons (.v _) (.one (.v _)) .nil))) (p_tidy_renamed_s1_ac h38194) (okT p_tidy_renamed_s1_ok)) ?_
  rintro _ rfl
  refine dvS (l_store ty33 A (.ag _) A A A (Nat.le_of_ble_eq_true A) A) (dvE (q_seq (w_seq (w_region (by rfl) (dv1 (l_assign (.v _)) (dvE (q_seq ?_)))))))
  obtain ⟨s38196, hF, hG38197⟩ := bindE hF
  refine w_seqJ ⟨[(1, .v (.int .i64 a1)), (3, .ad 0 2 0 0), (5, .ad 2 1 0 0), (6, .ad 3 2 0 0), (7, .rf 4 0 ((s31163.map iC).length) 1), (15, .rf 5 0 ((s38196.map iC).length) 1)], [(0, some ⟨33, 2, [[.v (.int .i64 y38193.Ret), .rf 1 0 ((y38193.Blocks.map MBlk.ct).length) 8]]⟩), (1, some ⟨47, 8, y38193.Blocks.map MBlk.ct⟩), (2, some ⟨3, 1, [[.v (.int .i64 a2)]]⟩), (3, some ⟨33, 2, [[.v (.int .i64 0), .v (.slice none 0 0)]]⟩), (4, some ⟨3, 1, s31163.map iC⟩), (5, some ⟨3, 1, s38196.map iC⟩)], 1⟩ ?_ ?_
  · refine w_seq (w_region (by rfl) (dv1 (l_field fd33_1 A) (dv1 (l_load ty31 A A A A A) (dv1 (l_lenR sl31 A A (List.length_map _)) (dv1 (l_move (.v _)) (dvE (q_seq (w_block ?_))))))))
    refine w_loopF hF (fun (s41198 : (List Int) × Nat) => ⟨[(1, .v (.int .i64 a1)), (3, .ad 0 2 0 0), (5, .ad 2 1 0 0), (6, .ad 3 2 0 0), (7, .rf 4 0 ((s31163.map iC).length) 1), (9, .ro (.sl 3 1 (x28143.Params.map iC))), (15, .rf 5 0 ((s41198.1.map iC).length) 1), (104, .v (.int .i64 ((y38193.Blocks.length : Nat) : Int))), (105, .v (.int .i64 ((s41198.2 : Nat) : Int)))], [(0, some ⟨33, 2, [[.v (.int .i64 y38193.Ret), .rf 1 0 ((y38193.Blocks.map MBlk.ct).length) 8]]⟩), (1, some ⟨47, 8, y38193.Blocks.map MBlk.ct⟩), (2, some ⟨3, 1, [[.v (.int .i64 a2)]]⟩), (3, some ⟨33, 2, [[.v (.int .i64 0), .v (.slice none 0 0)]]⟩), (4, some ⟨3, 1, s31163.map iC⟩), (5, some ⟨3, 1, s41198.1.map iC⟩)], 1⟩) (le_of [(0, some 0), (1, some 193), (2, some 1), (3, some 2), (4, some 3), (5, none)] A (.s (.s (.s (.s (.s (.s (.cons (.v _) (.nil ⟨by simp, A⟩) (.s (.s .nil A) A)) A) A) A) A) A) A) (.box A A (.s A) (.row A A A (clm k_MBlkct _) (.box A A (.s A) (.box A A (.s A) (.row A A A (clm k_iC _) (.new ⟨by simp, A⟩ .nil))))))) ?_
    intro s41198 y41199 hF hx41200
    refine w_seq (w_region (by rfl) (dv1 (l_bin A A b_lssN) (dvE (q_seq (w_seq ?_)))))
    rcases condE hF with ⟨b41202, hF⟩ | ⟨b41202, hF⟩
    · refine w_lenK 1 A fun l41203 => ?_
      refine w_condT A b41202 ?_
      refine w_skip (q_seq ?_)
      obtain ⟨s41205, hF, hG41206⟩ := bindE hF
      refine w_seqJ ⟨[(1, .v (.int .i64 a1)), (3, .ad 0 2 0 0), (5, .ad 2 1 0 0), (6, .ad 3 2 0 0), (7, .rf 4 0 ((s31163.map iC).length) 1), (9, .ro (.sl 3 1 (x28143.Params.map iC))), (15, .rf 5 0 ((s41205.map iC).length) 1), (104, .v (.int .i64 ((y38193.Blocks.length : Nat) : Int))), (105, .v (.int .i64 ((s41198.2 : Nat) : Int)))], [(0, some ⟨33, 2, [[.v (.int .i64 y38193.Ret), .rf 1 0 ((y38193.Blocks.map MBlk.ct).length) 8]]⟩), (1, some ⟨47, 8, y38193.Blocks.map MBlk.ct⟩), (2, some ⟨3, 1, [[.v (.int .i64 a2)]]⟩), (3, some ⟨33, 2, [[.v (.int .i64 0), .v (.slice none 0 0)]]⟩), (4, some ⟨3, 1, s31163.map iC⟩), (5, some ⟨3, 1, s41205.map iC⟩)], 1⟩ ?_ ?_
      · refine w_block (w_seq (w_region (by rfl) (dv1 (l_move (.v _)) (dv1 (l_assign (.v _)) (dvE (q_seq (w_seq (w_seq ?_))))))))
        refine w_region (by rfl) (dv1 (l_move (.v _)) (dv1 (l_load ty3 A A A A A) (dv1 (l_bin A A b_eql) (dvE (q_seq ?_)))))
        rcases condE hF with ⟨b41207, hF⟩ | ⟨b41207, hF⟩
        · refine w_condT A b41207 ?_
          refine w_exit ?_
          cases hF
          refine q_exS (q_here (q_join ?_))
          exact (le_of [(0, some 0), (1, some 1), (2, some 2), (3, some 3), (4, some 4), (5, some 5)] A (.s (.s (.s (.s (.s (.s (.s (.s (.s .nil A) A) A) A) A) A) A) A) A) (.box A A (.s A) (.row A A A (clm k_MBlkct _) (.box A A (.s A) (.box A A (.s A) (.row A A A (clm k_iC _) (.row A A A (clm k_iC _) .nil)))))))
        · refine w_condF A b41207 ?_
          refine w_skip (q_seq (w_seq (w_region (by rfl) (dv1 (l_move (.rf _ _ _ _)) (dv1 (l_loadA ty33 A A A A A) (dv1 (l_move (.v _)) ?_))))))
          obtain ⟨y41208, h41209, hF⟩ := bindE hF
          refine dvC (l_call (B := true) (FnI.mk' (by kernel_rfl)) (.cons (.ag _) (.ag (.cons (.v _) (.cons (.rf A A A (clm k_MBlkct _)) .nil))) (.cons (.v _) (.one (.v _)) .nil)) (p_tidy_span_ac h41209) (okT p_tidy_span_ok)) ?_
          rintro _ rfl
          obtain ⟨c41210, hF⟩ := ckE hF
          refine dvN2 (l_appCR el29 A A A A A A A (cp_map (fun _ => A) _) (map_app iC _ _) (by simpa using c41210) (by decide)) ?_
          refine dv1 (l_assign (.rf _ _ _ _)) (dvE (q_seq (w_seq (w_region (by rfl) (dv1 (l_move (.v _)) (dv1 (l_move (.v _)) (dv1 (l_bin A A b_eql) (dvE ?_))))))))
          refine q_seq ?_
          rcases condE hF with ⟨b41211, hF⟩ | ⟨b41211, hF⟩
          · refine w_condT A b41211 ?_
            refine w_region (by rfl) (dv1 (l_move (.rf _ _ _ _)) (dv1 (l_loadA ty33 A A A A A) (dv1 (l_load ty3 A A A A A) ?_)))
            obtain ⟨y41212, h41213, hF⟩ := bindE hF
            refine dvC (l_call (B := true) (FnI.mk' (by kernel_rfl)) (.cons (.ag _) (.ag (.cons (.v _) (.cons (.rf A A A (clm k_MBlkct _)) .nil))) (.cons (.v _) (.one (.v _)) .nil)) (p_tidy_span_ac h41213) (okT p_tidy_span_ok)) ?_
            rintro _ rfl
            refine dv1 (l_move (.ro _)) (dv1 (l_lenRo sl29 A A (List.length_map _)) (dvG (le_freezeR 1216 (Wk.refl (.sl 3 1 (y41212.map iC))) [(122, .ro (.sl 3 1 (y41212.map iC)))] [] A (clm k_iC _) (.rf A A .nil) .nil) ?_))
            obtain ⟨c41214, hF⟩ := ckE hF
            refine dv1 (l_cutRo sl29 A (cutLo (lo := none) A A) (.inl ⟨A, (List.length_map _).symm⟩) c41214.1 (by rw [List.length_map]; exact c41214.2) (map_takeN _ _ _ _)) ?_
            obtain ⟨c41215, hF⟩ := ckE hF
            refine dvN2 (l_appOR el29 A A A A A (ro_map (fun _ => A) _) (map_app iC _ _) (by simpa using c41215) (by decide)) ?_
            refine dv1 (l_assign (.rf _ _ _ _)) (dvE ?_)
            cases hF
            refine q_in (q_join ?_)
            exact (le_of [(0, some 0), (1, some 1), (2, some 2), (3, some 3), (4, some 4), (5, some 1472)] A (.s (.s (.s (.s (.s (.s (.s (.s (.s .nil A) A) A) A) A) A) A) A) A) (.box A A (.s A) (.row A A A (clm k_MBlkct _) (.box A A (.s A) (.box A A (.s A) (.row A A A (clm k_iC _) (.row A A A (clm k_iC _) .nil)))))))
          · refine w_condF A b41211 ?_
            refine w_skip ?_
            cases hF
            refine q_in (q_join ?_)
            exact (le_of [(0, some 0), (1, some 1), (2, some 2), (3, some 3), (4, some 4), (5, some 704)] A (.s (.s (.s (.s (.s (.s (.s (.s (.s .nil A) A) A) A) A) A) A) A) A) (.box A A (.s A) (.row A A A (clm k_MBlkct _) (.box A A (.s A) (.box A A (.s A) (.row A A A (clm k_iC _) (.row A A A (clm k_iC _) .nil)))))))
      replace hF := hG41206
      refine w_region (by rfl) (dv1 (l_bin A A (b_incN (of_decide_eq_true b41202) l41203)) (dv1 (l_move (.v _)) (dvE ?_)))
      cases hF
      refine qL A ?_
      exact (le_of [(0, some 0), (1, some 1), (2, some 2), (3, some 3), (4, some 4), (5, some 5)] A (.s (.s (.s (.s (.s (.s (.s (.s (.s .nil A) A) A) A) A) A) A) A) A) (.box A A (.s A) (.row A A A (clm k_MBlkct _) (.box A A (.s A) (.box A A (.s A) (.row A A A (clm k_iC _) (.row A A A (clm k_iC _) .nil)))))))
    · refine w_condF A b41202 ?_
      refine w_exit ?_
      cases hF
      cases hx41200 _ rfl
      refine q_exS (q_exS (q_here (q_join ?_)))
      exact (le_of [(0, some 0), (1, some 1), (2, some 2), (3, some 3), (4, some 4), (5, some 5)] A (.s (.s (.s (.s (.s (.s .nil A) A) A) A) A) A) (.box A A (.s A) (.row A A A (clm k_MBlkct _) (.box A A (.s A) (.box A A (.s A) (.row A A A (clm k_iC _) (.row A A A (clm k_iC _) .nil)))))))
  replace hF := hG38197
  obtain ⟨s41217, hF, hG41218⟩ := bindE hF
  refine w_seqJ ⟨[(1, .v (.int .i64 a1)), (3, .ad 0 2 0 0), (5, .ad 2 1 0 0), (6, .ad 3 2 0 0), (7, .rf 4 0 ((s41217.map iC).length) 1), (15, .rf 5 0 ((s38196.map iC).length) 1)], [(0, some ⟨33, 2, [[.v (.int .i64 y38193.Ret), .rf 1 0 ((y38193.Blocks.map MBlk.ct).length) 8]]⟩), (1, some ⟨47, 8, y38193.Blocks.map MBlk.ct⟩), (2, some ⟨3, 1, [[.v (.int .i64 a2)]]⟩), (3, some ⟨33, 2, [[.v (.int .i64 0), .v (.slice none 0 0)]]⟩), (4, some ⟨3, 1, s41217.map iC⟩), (5, some ⟨3, 1, s38196.map iC⟩)], 1⟩ ?_ ?_
  · refine w_seq (w_region (by rfl) (dv1 (l_move (.rf _ _ _ _)) (dv1 (l_lenR sl29 A A (List.length_map _)) (dv1 (l_move (.v _)) (dvE (q_seq (w_block (w_loopF hF (fun (s45219 : (List Int) × Int) => ⟨[(1, .v (.int .i64 a1)), (3, .ad 0 2 0 0), (5, .ad 2 1 0 0), (6, .ad 3 2 0 0), (7, .rf 4 0 ((s45219.1.map iC).length) 1), (15, .rf 5 0 ((s38196.map iC).length) 1), (129, .v (.int .i64 ((s31163.length : Nat) : Int))), (130, .v (.int .i64 s45219.2))], [(0, some ⟨33, 2, [[.v (.int .i64 y38193.Ret), .rf 1 0 ((y38193.Blocks.map MBlk.ct).length) 8]]⟩), (1, some ⟨47, 8, y38193.Blocks.map MBlk.ct⟩), (2, some ⟨3, 1, [[.v (.int .i64 a2)]]⟩), (3, some ⟨33, 2, [[.v (.int .i64 0), .v (.slice none 0 0)]]⟩), (4, some ⟨3, 1, s45219.1.map iC⟩), (5, some ⟨3, 1, s38196.map iC⟩)], 1⟩) (le_of [(0, some 0), (1, some 1), (2, some 2), (3, some 3), (4, some 4), (5, some 5)] A (.s (.s (.s (.s (.s (.s (.s (.s .nil A) A) A) A) A) A) A) A) (.box A A (.s A) (.row A A A (clm k_MBlkct _) (.box A A (.s A) (.box A A (.s A) (.row A A A (clm k_iC _) (.row A A A (clm k_iC _) .nil))))))) ?_))))))))
    intro s45219 y45220 hF hx45221
    refine w_seq (w_region (by rfl) (dv1 (l_bin A A b_lss) (dvE (q_seq (w_seq ?_)))))
    rcases condE hF with ⟨b45223, hF⟩ | ⟨b45223, hF⟩
    · refine w_condT A b45223 ?_
      refine w_skip (q_seq (w_seq (w_block (w_seq (w_region (by rfl) (dv1 (l_move (.v _)) (dv1 (l_assign (.v _)) (dvE ?_))))))))
      refine q_seq (w_region (by rfl) (dv1 (l_move (.rf _ _ _ _)) (dv1 (l_move (.v _)) ?_)))
      obtain ⟨x45224, h45225, hF⟩ := bindE hF
      refine dv1 (l_index s45219.2.toNat sl29 A A (atI_z h45225) (lt_at iC (atI_at h45225))) (dvS (l_storeR ty3 A (.v _) A (map_at (atI_at h45225)) A (Nat.le_of_ble_eq_true A) A (map_set' iC s45219.1 s45219.2.toNat (-1))) (dvE (q_in (q_seq (w_region (by rfl) (dv1 (l_bin A A (b_add A)) (dv1 (l_move (.v _)) (dvE ?_))))))))
      cases hF
      refine qL A ?_
      exact (le_of [(0, some 0), (1, some 1), (2, some 2), (3, some 3), (4, some 4), (5, some 5)] A (.s (.s (.s (.s (.cons (.rf _ _ _ _) (.rf A (by simp)) (.s (.s (.s .nil A) A) A)) A) A) A) A) (.box A A (.s A) (.row A A A (clm k_MBlkct _) (.box A A (.s A) (.box A A (.s A) (.row A A A (clm k_iC _) (.row A A A (clm k_iC _) .nil)))))))
    · refine w_condF A b45223 ?_
      refine w_exit ?_
      cases hF
      cases hx45221 _ rfl
      refine q_exS (q_exS (q_here (q_join ?_)))
      exact (le_of [(0, some 0), (1, some 1), (2, some 2), (3, some 3), (4, some 4), (5, some 5)] A (.s (.s (.s (.s (.s (.s .nil A) A) A) A) A) A) (.box A A (.s A) (.row A A A (clm k_MBlkct _) (.box A A (.s A) (.box A A (.s A) (.row A A A (clm k_iC _) (.row A A A (clm k_iC _) .nil)))))))
  replace hF := hG41218
  obtain ⟨s45227, hF, hG45228⟩ := bindE hF
  refine w_seqJ ⟨[(1, .v (.int .i64 a1)), (3, .ad 0 2 0 0), (5, .ad 2 1 0 0), (6, .ad 3 2 0 0), (7, .rf 4 0 ((s45227.map iC).length) 1)], [(0, some ⟨33, 2, [[.v (.int .i64 y38193.Ret), .rf 1 0 ((y38193.Blocks.map MBlk.ct).length) 8]]⟩), (1, some ⟨47, 8, y38193.Blocks.map MBlk.ct⟩), (2, some ⟨3, 1, [[.v (.int .i64 a2)]]⟩), (3, some ⟨33, 2, [[.v (.int .i64 0), .v (.slice none 0 0)]]⟩), (4, some ⟨3, 1, s45227.map iC⟩)], 1⟩ ?_ ?_
  · refine w_seq (w_region (by rfl) (dv1 (l_move (.rf _ _ _ _)) (dv1 (l_lenR sl29 A A (List.length_map _)) (dv1 (l_move (.v _)) (dvE (q_seq (w_block (w_loopF hF (fun (s48229 : (List Int) × Nat) => ⟨[(1, .v (.int .i64 a1)), (3, .ad 0 2 0 0), (5, .ad 2 1 0 0), (6, .ad 3 2 0 0), (7, .rf 4 0 ((s48229.1.map iC).length) 1), (137, .rf 5 0 ((s38196.map iC).length) 1), (138, .v (.int .i64 ((s38196.length : Nat) : Int))), (139, .v (.int .i64 ((s48229.2 : Nat) : Int)))], [(0, some ⟨33, 2, [[.v (.int .i64 y38193.Ret), .rf 1 0 ((y38193.Blocks.map MBlk.ct).length) 8]]⟩), (1, some ⟨47, 8, y38193.Blocks.map MBlk.ct⟩), (2, some ⟨3, 1, [[.v (.int .i64 a2)]]⟩), (3, some ⟨33, 2, [[.v (.int .i64 0), .v (.slice none 0 0)]]⟩), (4, some ⟨3, 1, s48229.1.map iC⟩), (5, some ⟨3, 1, s38196.map iC⟩)], 1⟩) (le_of [(0, some 0), (1, some 1), (2, some 2), (3, some 3), (4, some 4), (5, some 5)] A (.s (.s (.s (.s (.s (.s (.s (.s .nil A) A) A) A) A) A) A) A) (.box A A (.s A) (.row A A A (clm k_MBlkct _) (.box A A (.s A) (.box A A (.s A) (.row A A A (clm k_iC _) (.row A A A (clm k_iC _) .nil))))))) ?_))))))))
    intro s48229 y48230 hF hx48231
    refine w_seq (w_region (by rfl) (dv1 (l_bin A A b_lssN) (dvE (q_seq (w_seq ?_)))))
    rcases condE hF with ⟨b48233, hF⟩ | ⟨b48233, hF⟩
    · refine w_lenK 5 A fun l48234 => ?_
      refine w_condT A b48233 ?_
      refine w_skip (q_seq (w_seq (w_block (w_seq (w_region (by rfl) (dv1 (l_move (.v _)) ?_))))))
      obtain ⟨x48235, h48236, hF⟩ := bindE hF
      refine dv1 (l_index s48229.2 sl29 A A A (lt_at iC h48236)) (dv1 (l_load ty3 A A (map_at h48236) A A) (dv1 (l_assign (.v _)) (dv1 (l_assign (.v _)) (dvE (q_seq (w_region (by rfl) (dv1 (l_move (.rf _ _ _ _)) (dv1 (l_move (.v _)) ?_))))))))
      refine dv1 (l_move (.v _)) ?_
      obtain ⟨x48237, h48238, hF⟩ := bindE hF
      refine dv1 (l_index x48235.toNat sl29 A A (atI_z h48238) (lt_at iC (atI_at h48238))) (dvS (l_storeR ty3 A (.v _) A (map_at (atI_at h48238)) A (Nat.le_of_ble_eq_true A) A (map_set' iC s48229.1 x48235.toNat ((s48229.2 : Nat) : Int))) (dvE (q_in (q_seq (w_region (by rfl) (dv1 (l_bin A A (b_incN (of_decide_eq_true b48233) l48234)) (dv1 (l_move (.v _)) (dvE ?_))))))))
      cases hF
      refine qL A ?_
      exact (le_of [(0, some 0), (1, some 1), (2, some 2), (3, some 3), (4, some 4), (5, some 5)] A (.s (.s (.s (.s (.cons (.rf _ _ _ _) (.rf A (by simp)) (.s (.s (.s .nil A) A) A)) A) A) A) A) (.box A A (.s A) (.row A A A (clm k_MBlkct _) (.box A A (.s A) (.box A A (.s A) (.row A A A (clm k_iC _) (.row A A A (clm k_iC _) .nil)))))))
    · refine w_condF A b48233 ?_
      refine w_exit ?_
      cases hF
      cases hx48231 _ rfl
      refine q_exS (q_exS (q_here (q_join ?_)))
      exact (le_of [(0, some 0), (1, some 1), (2, some 2), (3, some 3), (4, some 4)] A (.s (.s (.s (.s (.s .nil A) A) A) A) A) (.box A A (.s A) (.row A A A (clm k_MBlkct _) (.box A A (.s A) (.box A A (.s A) (.row A A A (clm k_iC _) .nil))))))
  replace hF := hG45228
  refine w_seq (w_region (by rfl) (dv1 (l_loadA ty33 A A A A A) (dv1 (l_move (.rf _ _ _ _)) (dvG (le_freeze 2 [(5, .ro (.rp [.v (.int .i64 a2)] 0))] A (cl1 (.v _) (cl0 (b := true))) (List.forall_mem_cons.2 ⟨⟨0, A, A⟩, (fun _ h => nomatch h)⟩)) ?_))))
  refine dv1 (l_fnE (f := 53) (.cons (.ro _) .nil)) ?_
  obtain ⟨y48239, h48240, hF⟩ := bindE hF
  refine dvC (l_call (B := true) (FnI.mk' (by kernel_rfl)) (.cons (.ag _) (.ag (.cons (.v _) (.cons (.rf A A A (clm k_MBlkct _)) .nil))) (.cons (.rf _ _ _ _) (.one (.rf A A A (clm k_iC _))) (.cons (.fn _ _ _) (.fn (.cons (.ro _) .nil)) .nil))) (p_tidy_renamed_s2_ac h48240) (okT p_tidy_renamed_s2_ok)) ?_
  rintro _ rfl
  refine dvS (l_store ty33 A (.ag _) A A A (Nat.le_of_ble_eq_true A) A) (dvE (q_seq (w_seq (w_region (by rfl) (dv1 (l_field fd33_1 A) (dv1 (l_load ty31 A A A A A) (dv1 (l_move (.v _)) ?_)))))))
  obtain ⟨x48241, h48242, hF⟩ := bindE hF
  refine dv1 (l_index a1.toNat sl31 A A (atI_z h48242) (lt_at MBlk.ct (atI_at h48242))) (dv1 (l_assign (.ad _ _ _ _)) (dvE (q_seq (w_seq (W.le (le_open 257 a1.toNat A (map_at (atI_at h48242)) A) ?_)))))
  refine W.le (le_share 257 (els := (y48239.Blocks.map MBlk.ct).set a1.toNat [.rf 704 0 ((x48241.Params.map iC).length) 1, .rf 705 0 ((x48241.Ops.map MOp.ct).length) 8, .v (.int .i64 x48241.End.K), .v (.int .i64 x48241.End.A), .v (.int .i64 x48241.End.To), .v (.int .i64 x48241.End.Else), .rf 710 0 ((x48241.End.L.map iC).length) 1, .rf 711 0 ((x48241.End.M.map iC).length) 1]) A (RoE.set (RoE.map rl_MBlkct _) a1.toNat (.same A (.same A (.same A (.same A (.same A (.same A (.same A (.same A .nil)))))))))) ?_
  refine W.le (le_share 705 (els := x48241.Ops.map MOp.ct) A (RoE.map rl_MOpct _)) ?_
  refine w_draw [[], [], [], [2], [2, 3], [2, 3, 4], [], [6], [], [6, 7, 8], [6, 7, 8, 9], [6, 7, 8, 9, 10], [2, 3, 4, 5, 6, 7, 8, 9, 10, 11], [], [13], [], [13, 14, 15], [13, 14, 15, 16], [13, 14, 15, 16, 17], [0, 2, 3, 4, 5, 6, 7, 8, 9, 10, 11, 12, 13, 14, 15, 16, 17, 18], [0, 2, 3, 4, 5, 6, 7, 8, 9, 10, 11, 12, 13, 14, 15, 16, 17, 18, 19], [0, 2, 3, 4, 5, 6, 7, 8, 9, 10, 11, 12, 13, 14, 15, 16, 17, 18, 19, 20], [0, 1, 2, 3, 4, 5, 6, 7, 8, 9, 10, 11, 12, 13, 14, 15, 16, 17, 18, 19, 20, 21], [0, 1, 2, 3, 4, 5, 6, 7, 8, 9, 10, 11, 12, 13, 14, 15, 16, 17, 18, 19, 20, 21, 22], [0, 1, 2, 3, 4, 5, 6, 7, 8, 9, 10, 11, 12, 13, 14, 15, 16, 17, 18, 19, 20, 21, 22, 23]] [0, 1, 2, 3, 4, 5, 6, 7, 8, 9, 10, 11, 12, 13, 14, 15, 16, 17, 18, 19, 20, 21, 22, 23, 24] (by kernel_rfl) (by rfl) ⟨by decide, by rfl⟩ (by rfl) ?_
  refine de1 A (l_move (.ad _ _ _ _)) A (de1 A (l_move (.ad _ _ _ _)) A (de1 A (l_move (.ad _ _ _ _)) A (de1 A (l_nil A) A (de1 A (l_field fd47_1 A) A (de1 A (l_load ty43 A A (set_at (atI_at h48242)) A A) A (de1 A (l_field fd33_1 A) A (de1 A (l_load ty31 A A A A A) A (de1 A (l_loadRo ty3 A A) A ?_))))))))
  obtain ⟨x48243, h48244, hF⟩ := bindE hF
  refine de1 A (l_index a2.toNat sl31 A A (atI_z h48244) (lt_at MBlk.ct (atI_at h48244))) A (de1 A (l_field fd47_1 A) A ?_)
  obtain ⟨c48245, hF⟩ := ckE hF
  refine de1 A (l_load ty43 A A (set_oth (atI_at h48244) c48245) A A) A ?_
  obtain ⟨c48246, hF⟩ := ckE hF
  refine deN2 A (l_appOR el43 A A A ((List.length_map _).trans (List.length_map _).symm) A (roE_map (g := MOp.ctr) (fun _ => A) _) (map_app MOp.ctr _ _) (by simpa using c48246) (by decide)) A ?_
  refine de1 A (l_field fd33_1 A) A (de1 A (l_load ty31 A A A A A) A (de1 A (l_loadRo ty3 A A) A (de1 A (l_index a2.toNat sl31 A A (atI_z h48244) (lt_at MBlk.ct (atI_at h48244))) A (de1 A (l_field fd47_2 A) A ?_))))
  obtain ⟨c48247, hF⟩ := ckE hF
  refine de1 A (l_loadA ty45 A A (set_oth (atI_at h48244) c48247) A A) A (de1 A (l_nil A) A (de1 A (l_field fd47_1 A) A (deS A (l_storeR ty43 A (.rf _ _ _ _) A (set_at (atI_at h48242)) A (Nat.le_of_ble_eq_true A) A (List.set_set ..)) A (de1 A (l_nil A) A (de1 A (l_field fd47_2 A) A (deS A (l_storeR ty45 A (.ag _) A (set_at (atI_at h48242)) A (Nat.le_of_ble_eq_true A) A (List.set_set ..)) A (ddE (q_seq ?_))))))))
  refine w_seq (w_region (by rfl) (dv1 (l_field fd33_1 A) (dv1 (l_load ty31 A A A A A) (dv1 (l_loadRo ty3 A A) (dv1 (l_loadRo ty3 A A) (dv1 (l_bin A A (b_add A)) (dvG (le_freezeR 704 (Wk.refl (.sl 3 1 (x48241.Params.map iC))) [] [(257, some ⟨47, 8, (y48239.Blocks.map MBlk.ctr).set a1.toNat [.ro (.sl 3 1 (x48241.Params.map iC)), .rf 1536 0 (((x48241.Ops ++ x48243.Ops).map MOp.ctr).length) 8, .v (.int .i64 x48243.End.K), .v (.int .i64 x48243.End.A), .v (.int .i64 x48243.End.To), .v (.int .i64 x48243.End.Else), .ro (.sl 3 1 (x48243.End.L.map iC)), .ro (.sl 3 1 (x48243.End.M.map iC))]⟩)] A (clm k_iC _) .nil (.at_ (i := a1.toNat) A (by decide) (set_at (atI_at h48242)) (.ro A (.same (.same (.same (.same (.same (.same (.same .nil)))))))) (List.set_set ..) .nil)) ?_)))))))
  refine dvG (le_freezeR 1536 (Wk.sl (WkE.map wr_MOpct _)) [(169, .ro (.sl 49 8 ((x48241.Ops ++ x48243.Ops).map MOp.ct)))] [(257, some ⟨47, 8, (y48239.Blocks.map MBlk.ctr).set a1.toNat [.ro (.sl 3 1 (x48241.Params.map iC)), .ro (.sl 49 8 ((x48241.Ops ++ x48243.Ops).map MOp.ct)), .v (.int .i64 x48243.End.K), .v (.int .i64 x48243.End.A), .v (.int .i64 x48243.End.To), .v (.int .i64 x48243.End.Else), .ro (.sl 3 1 (x48243.End.L.map iC)), .ro (.sl 3 1 (x48243.End.M.map iC))]⟩)] A (clm kr_MOpct _) (.rf A A .nil) (.at_ (i := a1.toNat) A (by decide) (set_at (atI_at h48242)) (.same (.ro A (.same (.same (.same (.same (.same (.same .nil)))))))) (List.set_set ..) .nil)) ?_
  refine dvG (le_closeR 257 a1.toNat A (set_at (atI_at h48242)) (.cons (.of (.ro _)) (.cons (.of (.ro _)) (.cons (.of (.v _)) (.cons (.of (.v _)) (.cons (.of (.v _)) (.cons (.of (.v _)) (.cons (.of (.ro _)) (.cons (.of (.ro _)) .nil)))))))) (by decide) (by decide) A (set_cl MBlk.ctr _ _ _ (⟨x48241.Params, (x48241.Ops ++ x48243.Ops), x48243.End⟩ : MBlk))) ?_
  obtain ⟨y48248, h48249, hF⟩ := bindE hF
  refine dvK (l_callS [(0, some 257)] [(0, some 257)] (by rfl) (by rfl) (by rfl) (by rfl) (by rfl) (FnI.mk' (by kernel_rfl)) (.cons (.rf _ _ _ _) (.rf A (by simp)) (.cons (.v _) (.v A) (.cons (.v _) (.v A) .nil))) (.row A A A (clm kr_MBlkct _) .nil) (p_slices_Delete_api_Block_api_Block_t1_sc h48249) (okS (p_slices_Delete_api_Block_api_Block_t1_sok (r := y48248)))) ?_
  rintro _ _ ⟨rfl, rfl⟩
  refine dv1 (l_field fd33_1 A) (dvS (l_store ty31 A (.ro _) A A A (Nat.le_of_ble_eq_true A) A) (dvE (q_seq (w_seq (w_region (by rfl) (dv1 (l_loadA ty33 A A A A A) (dvS (l_store ty33 A (.ag _) A A A (Nat.le_of_ble_eq_true A) A) (dvE ?_))))))))
  refine q_seq (w_ret ?_)
  cases hF
  refine q_end (.inr A) ?_
  exact ret_ok A (.cons (.cellA ty33 A A A (.cons (.of (.v _)) (.cons (.of (.ro _)) .nil))) .nil) (by decide) A

def p_cfg_left (a0 : MFun) : Option MFun :=
some a0

theorem p_cfg_left_ok {r : MFun} : rOk (.fn (.func 75) [] [.ro (.rp (MFun.ct r) 0)]) = true ∧ True := ⟨rfl, trivial⟩

set_option maxRecDepth 10000 in
set_option maxHeartbeats 4000000 in
theorem p_cfg_left_ac {a0 : MFun} {r : MFun} (hF : p_cfg_left a0 = some r) : AC Tryd.prog GT 66 [.ag (MFun.ct a0)] (fun c => c = .fn (.func 75) [] [.ro (.rp (MFun.ct r) 0)]) := by
  unfold p_cfg_left at hF
  refine AC.mk (nt := 4) Tryd.func66 A A A fun w N => ?_
  refine w_seq (w_region (by rfl) (dvN (l_box (.ag _) A A) (dv1 (l_assign (.v _)) (dvE (q_seq (w_seq (w_region (by rfl) (dvG (le_freeze 0 [(1, .ro (.rp [.v (.int .i64 a0.Ret), .ro (.sl 47 8 (a0.Blocks.map MBlk.ct))] 0))] A (cl1 (.v _) (cl1 (.ro _ A) (cl0 (b := true)))) (List.forall_mem_cons.2 ⟨⟨0, A, A⟩, (fun _ h => nomatch h)⟩)) ?_))))))))
  refine dvG (le_wk 1 (c' := .rp (MFun.ct a0) 0) A (.rp (.cons (Wk.refl _) (.cons (Wk.ro (Wk.refl _)) .nil)))) ?_
  refine dv1 (l_fnE (f := 75) (.cons (.ro _) .nil)) (dv1 (l_assign (.fn _ _ _)) (dvE (q_seq (w_ret ?_))))
  cases hF
  refine q_end (.inr A) ?_
  exact ret_ok A (.cons (.tmp (.fn _ _ _) (.fn _ (capB_ok A))) .nil) (by decide) A

def p_cfg_left_1_i (c0 : MFun) {σ ρ : Type} (body : σ → Int → Option (Xt σ ρ)) (s0 : σ) : Option (Xt σ ρ) :=
(bif decide (((c0.Blocks.length : Nat) : Int) = 0) then
some (Xt.go s0)
else
(ck (1 * c0.Blocks.length ≤ 140737488355328)
((((List.replicate c0.Blocks.length false)[0]?).bind fun x3 =>
((loop (fun (s3005 : (List Bool) × (List Mcfg_place) × σ) =>
(bif decide ((0 : Int) < ((s3005.2.1.length : Nat) : Int)) then
((atI s3005.2.1 (IntKind.i64.wrap (((s3005.2.1.length : Nat) : Int) - 1))).bind fun x3011 =>
((atI c0.Blocks x3011.block).bind fun x3013 =>
((p_cfg_next x3013).bind fun y3015 =>
(((loop (fun (s6020 : (List Mcfg_place)) =>
((s6020[(IntKind.i64.wrap (((s3005.2.1.length : Nat) : Int) - 1)).toNat]?).bind fun x6024 =>
(bif decide (x6024.at_ < ((y3015.length : Nat) : Int)) then
((atI y3015 x6024.at_).bind fun x6027 =>
((((p_cfg_there c0 x6027).bind fun y6032 =>
(bif y6032 then
((atI s3005.1 x6027).bind fun x6035 =>
some (!x6035))
else
some false))).bind fun (s6030 : Bool) =>
(bif s6030 then
((atI s3005.1 x6027).bind fun x6038 =>
(ck (((s6020.set ((IntKind.i64.wrap (((s3005.2.1.length : Nat) : Int) - 1)).toNat) (⟨x6024.block, IntKind.i64.wrap (x6024.at_ + 1)⟩ : Mcfg_place)).length + 1) * 16 ≤ 140737488355328)
(some (Xt.out (Xt.out ((s3005.1.set x6027.toNat true), ((s6020.set ((IntKind.i64.wrap (((s3005.2.1.length : Nat) : Int) - 1)).toNat) (⟨x6024.block, IntKind.i64.wrap (x6024.at_ + 1)⟩ : Mcfg_place)) ++ [(⟨x6027, 0⟩ : Mcfg_place)]), s3005.2.2))))))
else
some (Xt.go (s6020.set ((IntKind.i64.wrap (((s3005.2.1.length : Nat) : Int) - 1)).toNat) (⟨x6024.block, IntKind.i64.wrap (x6024.at_ + 1)⟩ : Mcfg_place))))))
else
some (Xt.out (Xt.go s6020))))) Fu s3005.2.1)).bind fun s3018 => s3018.on (fun (s6041 : (List Mcfg_place)) =>
((s6041[(IntKind.i64.wrap (((s3005.2.1.length : Nat) : Int) - 1)).toNat]?).bind fun x6043 =>
((body s3005.2.2 x6043.block).bind fun z6045 =>
(z6045.on (fun s6047 =>
((natI (IntKind.i64.wrap (((s6041.length : Nat) : Int) - 1))).bind fun m6048 =>
(ck (m6048 ≤ s6041.length)
(some (Xt.go (s3005.1, (s6041.take m6048), s6047))))))
(fun o6051 =>
some (Xt.out (Xt.out o6051)))))))
(fun o6052 => some (Xt.go o6052))))))
else
some (Xt.out (Xt.go s3005.2.2)))) Fu (((List.replicate c0.Blocks.length false).set 0 true), [(⟨0, 0⟩ : Mcfg_place)], s0)).bind fun o3008 => some o3008)))))

set_option maxRecDepth 10000 in
set_option maxHeartbeats 4000000 in
theorem p_cfg_left_1_i_ic (c0 : MFun) : IC Tryd.prog GT 75 [.rp (MFun.ct c0) 0] (fun (y : Int) => [.v (.int .i64 y)]) (fun σ ρ body s0 => p_cfg_left_1_i c0 body s0) := by
  refine IC.mk (nt := 88) Tryd.func75 A A A A fun σ ρ body s0 z hF w N F l J Jx hJ hX hY hRd => ?_
  unfold p_cfg_left_1_i at hF
  refine w_scope (w_seq (w_seq (w_region (by rfl) (dv1 (l_fieldRo fd33_1 A) (dv1 (l_loadRo ty31 A A) (dv1 (l_lenRo sl31 A A (List.length_map _)) (dv1 (l_bin A A b_eql) (dvE ?_))))))))
  refine q_seq ?_
  rcases condE hF with ⟨b1, hF⟩ | ⟨b1, hF⟩
  · refine w_condT A b1 ?_
    refine w_ret (q_reS (q_rSc ?_))
    cases hF
    exact ⟨.inr A, A⟩
  · refine w_condF A b1 ?_
    refine w_skip (q_seq (w_seq (w_region (by rfl) (dv1 (l_fieldRo fd33_1 A) (dv1 (l_loadRo ty31 A A) (dv1 (l_lenRo sl31 A A (List.length_map _)) ?_))))))
    obtain ⟨c2, hF⟩ := ckE hF
    refine dvN (l_makeR (bC false) c0.Blocks.length sl52 by4 zt4 A A A A A c2 (by decide) A (by intro j c z h1 h2 w N bs; rcases j with _ | j <;> simp at h1 h2 <;> (subst h1; subst h2; first | exact .v _ | exact .nil)) (rep_map bC _ _)) (dv1 (l_assign (.rf _ _ _ _)) (dvE (q_seq (w_seq (w_region (by rfl) (dv1 (l_build st110 zt110 .nil A A) (dvN (l_bs1 sl111 zt110 A (.ag _) A A A (by decide) (by decide)) (dv1 (l_assign (.rf _ _ _ _)) ?_))))))))
    refine dvE (q_seq (w_seq (w_region (by rfl) (dv1 (l_move (.rf _ _ _ _)) ?_))))
    obtain ⟨x3, h4, hF⟩ := bindE hF
    refine dv1 (l_index 0 sl52 A A A (lt_at bC h4)) (dvS (l_storeR ty4 A (.v _) A (map_at h4) A (Nat.le_of_ble_eq_true A) A (map_set' bC (List.replicate c0.Blocks.length false) 0 true)) (dvE (q_seq (w_seq (w_label (q_seq (w_block ?_)))))))
    obtain ⟨o3008, hF, hG3009⟩ := bindE hF
    refine w_loopF hF (fun (s3005 : (List Bool) × (List Mcfg_place) × σ) => ⟨[(0, .v (.func (.yield l) #[] #[])), (1, .ro (.rp (MFun.ct c0) 0)), (3, .rf 0 0 ((s3005.1.map bC).length) 1), (4, .rf 1 0 ((s3005.2.1.map Mcfg_place.ct).length) 2), (1000000, .fo (foJ hJ s3005.2.2))], [(0, some ⟨4, 1, s3005.1.map bC⟩), (1, some ⟨110, 2, s3005.2.1.map Mcfg_place.ct⟩)], 1⟩) (le_of [(0, some 448), (1, some 640)] A (.s (.s (.cons (.rf _ _ _ _) (.rf A (by simp)) (.s (.cons (.fo _) (.fo _) .nil) A)) A) A) (.row A A A (clm k_bC _) (.row A A A (clm k_Mcfg_placect _) .nil))) ?_
    intro s3005 y3006 hF hx3007
    refine w_seq (w_seq (w_region (by rfl) (dv1 (l_move (.rf _ _ _ _)) (dv1 (l_lenR sl111 A A (List.length_map _)) (dv1 (l_bin A A b_gtr) (dvE (q_seq ?_)))))))
    rcases condE hF with ⟨b3010, hF⟩ | ⟨b3010, hF⟩
    · refine w_condT A b3010 ?_
      refine w_skip (q_seq (w_block (w_seq (w_region (by rfl) (dv1 (l_move (.rf _ _ _ _)) (dv1 (l_move (.rf _ _ _ _)) (dv1 (l_lenR sl111 A A (List.length_map _)) (dv1 (l_bin A A (b_sub A)) ?_))))))))
      obtain ⟨x3011, h3012, hF⟩ := bindE hF
      refine dv1 (l_index ((IntKind.i64.wrap (((s3005.2.1.length : Nat) : Int) - 1)).toNat) sl111 A A (atI_z h3012) (lt_at Mcfg_place.ct (atI_at h3012))) (dv1 (l_assign (.ad _ _ _ _)) (dvE (q_seq (w_seq (w_draw [[], [0], [], [2], [2, 3], [2, 3, 4], [0, 1, 2, 3, 4, 5], [0, 1, 2, 3, 4, 5, 6], [0, 1, 2, 3, 4, 5, 6, 7], [0, 1, 2, 3, 4, 5, 6, 7, 8]] [0, 1, 2, 3, 4, 5, 6, 7, 8, 9] (by kernel_rfl) (by rfl) ⟨by decide, by rfl⟩ (by rfl) ?_)))))
      refine de1 A (l_fieldRo fd33_1 A) A (de1 A (l_loadRo ty31 A A) A (de1 A (l_move (.ad _ _ _ _)) A (de1 A (l_nil A) A (de1 A (l_field fd110_0 A) A (de1 A (l_load ty3 A A (map_at (atI_at h3012)) A A) A ?_)))))
      obtain ⟨x3013, h3014, hF⟩ := bindE hF
      refine de1 A (l_indexRo x3011.block.toNat sl31 A A (atI_z h3014) (map_at (atI_at h3014))) A (de1 A (l_loadARo ty47 A A) A ?_)
      obtain ⟨y3015, h3016, hF⟩ := bindE hF
      refine deC1 A (l_call (B := false) (FnI.mk' (by kernel_rfl)) (.cons (.ag _) (.ag (.cons (.ro _) (.cons (.ro _) (.cons (.v _) (.cons (.v _) (.cons (.v _) (.cons (.v _) (.cons (.ro _) (.cons (.ro _) .nil))))))))) .nil) (p_cfg_next_ac h3016) (okF p_cfg_next_ok)) A ?_
      refine de1 A (l_assign (.rf _ _ _ _)) A (ddE (q_seq ?_))
      obtain ⟨s3018, hF, hG3019⟩ := bindE hF
      refine w_seqE s3018 (fun (s6041 : (List Mcfg_place)) => ⟨[(0, .v (.func (.yield l) #[] #[])), (1, .ro (.rp (MFun.ct c0) 0)), (3, .rf 0 0 ((s3005.1.map bC).length) 1), (4, .rf 1 0 ((s6041.map Mcfg_place.ct).length) 2), (5, .ad 1 2 ((IntKind.i64.wrap (((s3005.2.1.length : Nat) : Int) - 1)).toNat) 0), (1000000, .fo (foJ hJ s3005.2.2))], [(0, some ⟨4, 1, s3005.1.map bC⟩), (1, some ⟨110, 2, s6041.map Mcfg_place.ct⟩)], 1⟩) ?_ (fun s6041 e6042 => ?_)
      · refine w_block (w_loopF hF (fun (s6020 : (List Mcfg_place)) => ⟨[(0, .v (.func (.yield l) #[] #[])), (1, .ro (.rp (MFun.ct c0) 0)), (3, .rf 0 0 ((s3005.1.map bC).length) 1), (4, .rf 1 0 ((s6020.map Mcfg_place.ct).length) 2), (5, .ad 1 2 ((IntKind.i64.wrap (((s3005.2.1.length : Nat) : Int) - 1)).toNat) 0), (6, .rf 2 0 ((y3015.map iC).length) 1), (1000000, .fo (foJ hJ s3005.2.2))], [(0, some ⟨4, 1, s3005.1.map bC⟩), (1, some ⟨110, 2, s6020.map Mcfg_place.ct⟩), (2, some ⟨3, 1, y3015.map iC⟩)], 1⟩) (le_of [(0, some 0), (1, some 1), (2, some 1152)] A (.s (.s (.s (.s (.s (.s (.cons (.fo _) (.fo _) .nil) A) A) A) A) A) A) (.row A A A (clm k_bC _) (.row A A A (clm k_Mcfg_placect _) (.row A A A (clm k_iC _) .nil)))) ?_)
        intro s6020 y6021 hF hx6022
        refine w_seq (w_seq (w_region (by rfl) (dv1 (l_move (.ad _ _ _ _)) (dv1 (l_nil A) (dv1 (l_field fd110_1 A) ?_)))))
        obtain ⟨x6024, h6025, hF⟩ := bindE hF
        refine dv1 (l_load ty3 A A (map_at h6025) A A) (dv1 (l_move (.rf _ _ _ _)) (dv1 (l_lenR sl29 A A (List.length_map _)) (dv1 (l_bin A A b_lss) (dvE (q_seq ?_)))))
        rcases condE hF with ⟨b6026, hF⟩ | ⟨b6026, hF⟩
        · refine w_condT A b6026 ?_
          refine w_skip (q_seq (w_block (w_seq (w_region (by rfl) (dv1 (l_move (.rf _ _ _ _)) (dv1 (l_move (.ad _ _ _ _)) (dv1 (l_nil A) (dv1 (l_field fd110_1 A) ?_))))))))
          refine dv1 (l_load ty3 A A (map_at h6025) A A) ?_
          obtain ⟨x6027, h6028, hF⟩ := bindE hF
          refine dv1 (l_index x6024.at_.toNat sl29 A A (atI_z h6028) (lt_at iC (atI_at h6028))) (dv1 (l_load ty3 A A (map_at (atI_at h6028)) A A) (dv1 (l_assign (.v _)) (dvE (q_seq (w_seq (w_region (by rfl) (dv1 (l_move (.ad _ _ _ _)) (dv1 (l_nil A) ?_))))))))
          refine dv1 (l_field fd110_1 A) (dv1 (l_load ty3 A A (map_at h6025) A A) (dv1 (l_bin A A (b_add A)) (dv1 (l_nil A) (dv1 (l_field fd110_1 A) (dvS (l_storeR ty3 A (.v _) A (map_at h6025) A (Nat.le_of_ble_eq_true A) A (map_set' Mcfg_place.ct s6020 ((IntKind.i64.wrap (((s3005.2.1.length : Nat) : Int) - 1)).toNat) (⟨x6024.block, IntKind.i64.wrap (x6024.at_ + 1)⟩ : Mcfg_place))) (dvE (q_seq ?_)))))))
          obtain ⟨s6030, hF, hG6031⟩ := bindE hF
          refine w_seqJ ⟨[(0, .v (.func (.yield l) #[] #[])), (1, .ro (.rp (MFun.ct c0) 0)), (3, .rf 0 0 ((s3005.1.map bC).length) 1), (4, .rf 1 0 (((s6020.set ((IntKind.i64.wrap (((s3005.2.1.length : Nat) : Int) - 1)).toNat) (⟨x6024.block, IntKind.i64.wrap (x6024.at_ + 1)⟩ : Mcfg_place)).map Mcfg_place.ct).length) 2), (5, .ad 1 2 ((IntKind.i64.wrap (((s3005.2.1.length : Nat) : Int) - 1)).toNat) 0), (6, .rf 2 0 ((y3015.map iC).length) 1), (7, .v (.int .i64 x6027)), (67, .v (.bool s6030)), (1000000, .fo (foJ hJ s3005.2.2))], [(0, some ⟨4, 1, s3005.1.map bC⟩), (1, some ⟨110, 2, (s6020.set ((IntKind.i64.wrap (((s3005.2.1.length : Nat) : Int) - 1)).toNat) (⟨x6024.block, IntKind.i64.wrap (x6024.at_ + 1)⟩ : Mcfg_place)).map Mcfg_place.ct⟩), (2, some ⟨3, 1, y3015.map iC⟩)], 1⟩ ?_ ?_
          · refine w_region (by rfl) (dv1 (l_loadARo ty33 A A) (dv1 (l_move (.v _)) ?_))
            obtain ⟨y6032, h6033, hF⟩ := bindE hF
            refine dvC (l_call (B := false) (FnI.mk' (by kernel_rfl)) (.cons (.ag _) (.ag (.cons (.v _) (.cons (.ro _) .nil))) (.cons (.v _) (.one (.v _)) .nil)) (p_cfg_there_ac h6033) (okF p_cfg_there_ok)) ?_
            rintro _ rfl
            refine dv1 (l_move (.v _)) ?_
            rcases condE hF with ⟨b6034, hF⟩ | ⟨b6034, hF⟩
            · refine dv1 (l_gT A A (gt A b6034) fun _ => l_move (.rf _ _ _ _)) (dv1 (l_gT A A (gt A b6034) fun _ => l_move (.v _)) ?_)
              obtain ⟨x6035, h6036, hF⟩ := bindE hF
              refine dv1 (l_gT A A (gt A b6034) fun _ => l_index x6027.toNat sl52 A A (atI_z h6036) (lt_at bC (atI_at h6036))) (dv1 (l_gT A A (gt A b6034) fun _ => l_load ty4 A A (map_at (atI_at h6036)) A A) (dv1 (l_gT A A (gt A b6034) fun _ => l_not A) (dv1 (l_pickT (gt A b6034) (.v _)) (dvE ?_))))
              cases hF
              refine q_join ?_
              exact (le_of [(0, some 0), (1, some 1), (2, some 2)] A (.s (.s (.s (.cons (.rf _ _ _ _) (.rf A (by simp)) (.s (.s (.s (.s (.cons (.fo _) (.fo _) .nil) A) A) A) A)) A) A) A) (.row A A A (clm k_bC _) (.row A A A (clm k_Mcfg_placect _) (.row A A A (clm k_iC _) .nil))))
            · refine dv1 (l_gF A A (gt A b6034) A) (dv1 (l_gF A A (gt A b6034) A) (dv1 (l_gF A A (gt A b6034) A) (dv1 (l_gF A A (gt A b6034) A) (dv1 (l_gF A A (gt A b6034) A) (dv1 (l_pickF (gt A b6034) (.v _)) (dvE ?_))))))
              cases hF
              refine q_join ?_
              exact (le_of [(0, some 0), (1, some 1), (2, some 2)] A (.s (.s (.s (.cons (.rf _ _ _ _) (.rf A (by simp)) (.s (.s (.s (.s (.cons (.fo _) (.fo _) .nil) A) A) A) A)) A) A) A) (.row A A A (clm k_bC _) (.row A A A (clm k_Mcfg_placect _) (.row A A A (clm k_iC _) .nil))))
          replace hF := hG6031
          rcases condE hF with ⟨b6037, hF⟩ | ⟨b6037, hF⟩
          · refine w_condT A b6037 ?_
            refine w_seq (w_region (by rfl) (dv1 (l_move (.rf _ _ _ _)) (dv1 (l_move (.v _)) ?_)))
            obtain ⟨x6038, h6039, hF⟩ := bindE hF
            refine dv1 (l_index x6027.toNat sl52 A A (atI_z h6039) (lt_at bC (atI_at h6039))) (dvS (l_storeR ty4 A (.v _) A (map_at (atI_at h6039)) A (Nat.le_of_ble_eq_true A) A (map_set' bC s3005.1 x6027.toNat true)) (dvE (q_seq (w_seq (w_region (by rfl) (dv1 (l_move (.rf _ _ _ _)) (dv1 (l_move (.v _)) (dv1 (l_build st110 zt110 (.cons (.v _) .nil) A A) ?_))))))))
            refine dvN (l_bs1 sl111 zt110 A (.ag _) A A A (by decide) (by decide)) ?_
            obtain ⟨c6040, hF⟩ := ckE hF
            refine dvN3 (l_app1R el111 A A A A A A (by decide) (map_snoc Mcfg_place.ct _ (⟨x6027, 0⟩ : Mcfg_place)) (List.length_map _) (by simpa using c6040) (by decide)) ?_
            refine dv1 (l_assign (.rf _ _ _ _)) (dvE (q_seq (w_exit ?_)))
            cases hF
            cases hx6022 _ rfl
            have hF := onOut hG3019
            cases hF
            refine q_far A (q_exS (q_far A (q_exS (q_here (qL A ?_)))))
            exact (le_of [(0, some 0), (1, some 576)] A (.s (.s (.cons (.rf _ _ _ _) (.rf A (by simp)) (.cons (.rf _ _ _ _) (.rf A (by simp)) (.cons (.fo _) (.fo _) .nil))) A) A) (.row A A A (clm k_bC _) (.row A A A (clm k_Mcfg_placect _) .nil)))
          · refine w_condF A b6037 ?_
            refine w_skip ?_
            cases hF
            refine q_in (qL A ?_)
            exact (le_of [(0, some 0), (1, some 1), (2, some 2)] A (.s (.s (.s (.s (.s (.s (.cons (.fo _) (.fo _) .nil) A) A) A) A) A) A) (.row A A A (clm k_bC _) (.row A A A (clm k_Mcfg_placect _) (.row A A A (clm k_iC _) .nil))))
        · refine w_condF A b6026 ?_
          refine w_exit ?_
          cases hF
          cases hx6022 _ rfl
          refine q_exS (q_exS (q_here (qL A ?_)))
          exact (le_of [(0, some 0), (1, some 1)] A (.s (.s (.s (.s (.s (.cons (.fo _) (.fo _) .nil) A) A) A) A) A) (.row A A A (clm k_bC _) (.row A A A (clm k_Mcfg_placect _) .nil)))
      subst e6042
      replace hF := onGo hG3019
      refine w_seq (w_seq (w_region (by rfl) (dv1 (l_move (.v _)) (dv1 (l_move (.ad _ _ _ _)) (dv1 (l_nil A) (dv1 (l_field fd110_0 A) ?_))))))
      obtain ⟨x6043, h6044, hF⟩ := bindE hF
      refine dv1 (l_load ty3 A A (map_at h6044) A A) ?_
      obtain ⟨z6045, h6046, hF⟩ := bindE hF
      rcases z6045 with s6047 | o6051
      · replace hF := onGo hF
        refine dvY (l_yield x6043.block hY A (.cons (.v _) (.one (.v _)) .nil) A h6046) ?_
        refine dv1 (l_not A) (dvE (q_seq (w_false A (w_skip (q_seq (w_region (by rfl) (dv1 (l_move (.rf _ _ _ _)) (dv1 (l_move (.rf _ _ _ _)) ?_))))))))
        refine dv1 (l_lenR sl111 A A (List.length_map _)) (dv1 (l_bin A A (b_sub A)) ?_)
        obtain ⟨m6048, h6049, hF⟩ := bindE hF
        obtain ⟨c6050, hF⟩ := ckE hF
        refine dv1 (l_cutH sl111 A A (natI_z h6049) (by rw [List.length_map]; exact c6050)) (dvG (le_trunc 1 m6048 A (List.map_take.symm : _ = (s6041.take m6048).map Mcfg_place.ct)) ?_)
        refine dv1 (l_assign (.rf _ _ _ _)) (dvE ?_)
        cases hF
        refine q_in (qL A ?_)
        exact (le_of [(0, some 0), (1, some 1)] A (.s (.s (.s (.cons (.rf _ _ _ _) (.rf A (by rw [List.length_map, List.length_take]; exact (Nat.min_eq_left c6050).symm)) (.cons (.fo _) (.fo _) .nil)) A) A) A) (.row A A A (clm k_bC _) (.row A A A (clm k_Mcfg_placect _) .nil)))
      · replace hF := onOut hF
        refine dvY (l_yield x6043.block hY A (.cons (.v _) (.one (.v _)) .nil) A h6046) ?_
        refine dv1 (l_not A) (dvE (q_seq (w_true A (w_ret (q_reS (q_reI (q_reS (q_reI ?_))))))))
        refine q_rSc ?_
        cases hF
        cases hx3007 _ rfl
        have hF := hG3009
        cases hF
        exact ⟨.inr A, A⟩
    · refine w_condF A b3010 ?_
      refine w_exit (q_exS (q_exS (q_here (q_nSc ?_))))
      cases hF
      cases hx3007 _ rfl
      have hF := hG3009
      cases hF
      exact ⟨.inl A, A⟩

def p_slices_Reverse_int_int_t1 (a0 : List Int) : Option ((List Int)) :=
((loop (fun (s3001 : (List Int) × Int × Int) =>
(bif decide (s3001.2.1 < s3001.2.2) then
((atI s3001.1 s3001.2.2).bind fun x3007 =>
((atI s3001.1 s3001.2.1).bind fun x3009 =>
((atI (s3001.1.set s3001.2.1.toNat x3007) s3001.2.2).bind fun x3011 =>
some (Xt.go (((s3001.1.set s3001.2.1.toNat x3007).set s3001.2.2.toNat x3009), IntKind.i64.wrap (s3001.2.1 + 1), IntKind.i64.wrap (s3001.2.2 - 1))))))
else
some (Xt.out s3001.1))) Fu (a0, 0, IntKind.i64.wrap (((a0.length : Nat) : Int) - 1))).bind fun o3004 => some o3004)

theorem p_slices_Reverse_int_int_t1_sok {r : (List Int)} : rOk (.tu []) = true ∧ True := ⟨rfl, trivial⟩

set_option maxRecDepth 10000 in
set_option maxHeartbeats 4000000 in
theorem p_slices_Reverse_int_int_t1_sc {a0 : List Int} {r : (List Int)} (hF : p_slices_Reverse_int_int_t1 a0 = some r) : SC Tryd.prog GT 67 [.rf 0 0 ((a0.map iC).length) 1] [(0, some ⟨3, 1, a0.map iC⟩)] (fun c gb => c = .tu [] ∧ gb = [(0, some ⟨3, 1, r.map iC⟩)]) := by
  unfold p_slices_Reverse_int_int_t1 at hF
  refine SC.mk (nt := 28) [0] Tryd.func67 A A A A fun w M N g => ?_
  refine w_seq (w_region (by rfl) (dv1 (l_move (.rf _ _ _ _)) (dv1 (l_lenR sl29 A A (List.length_map _)) (dv1 (l_bin A A (b_sub A)) (dv1 (l_assign (.v _)) (dv1 (l_assign (.v _)) (dvE (q_seq ?_))))))))
  refine w_block ?_
  obtain ⟨o3004, hF, hG3005⟩ := bindE hF
  refine w_loopF hF (fun (s3001 : (List Int) × Int × Int) => ⟨[(0, .rf 0 0 ((s3001.1.map iC).length) 1), (2, .v (.int .i64 s3001.2.1)), (3, .v (.int .i64 s3001.2.2))], [(0, some ⟨3, 1, s3001.1.map iC⟩)], 1⟩) (le_of [(0, some 0)] A (.s (.s (.s .nil A) A) A) (.row A A A (clm k_iC _) .nil)) ?_
  intro s3001 y3002 hF hx3003
  refine w_seq (w_seq (w_region (by rfl) (dv1 (l_move (.v _)) (dv1 (l_move (.v _)) (dv1 (l_bin A A b_lss) (dvE (q_seq ?_)))))))
  rcases condE hF with ⟨b3006, hF⟩ | ⟨b3006, hF⟩
  · refine w_condT A b3006 ?_
    refine w_skip (q_seq (w_seq (w_block (w_draw [[], [], [], [], [], [], [4, 5], [4, 5, 6], [], [], [8, 9], [8, 9, 10], [0, 1, 4, 5, 6, 7, 8, 9, 10, 11], [0, 1, 4, 5, 6, 7, 8, 9, 10, 11, 12], [0, 1, 2, 3, 4, 5, 6, 7, 8, 9, 10, 11, 12, 13], [0, 1, 2, 3, 4, 5, 6, 7, 8, 9, 10, 11, 12, 13, 14]] [0, 1, 2, 3, 4, 5, 6, 7, 8, 9, 10, 11, 12, 13, 14, 15] (by kernel_rfl) (by rfl) ⟨by decide, by rfl⟩ (by rfl) ?_))))
    refine de1 A (l_move (.rf _ _ _ _)) A (de1 A (l_move (.v _)) A (de1 A (l_move (.rf _ _ _ _)) A (de1 A (l_move (.v _)) A (de1 A (l_move (.rf _ _ _ _)) A (de1 A (l_move (.v _)) A ?_)))))
    obtain ⟨x3007, h3008, hF⟩ := bindE hF
    refine de1 A (l_index s3001.2.2.toNat sl29 A A (atI_z h3008) (lt_at iC (atI_at h3008))) A (de1 A (l_load ty3 A A (map_at (atI_at h3008)) A A) A (de1 A (l_move (.rf _ _ _ _)) A (de1 A (l_move (.v _)) A ?_)))
    obtain ⟨x3009, h3010, hF⟩ := bindE hF
    refine de1 A (l_index s3001.2.1.toNat sl29 A A (atI_z h3010) (lt_at iC (atI_at h3010))) A (de1 A (l_load ty3 A A (map_at (atI_at h3010)) A A) A (de1 A (l_index s3001.2.1.toNat sl29 A A (atI_z h3010) (lt_at iC (atI_at h3010))) A (deS A (l_storeR ty3 A (.v _) A (map_at (atI_at h3010)) A (Nat.le_of_ble_eq_true A) A (map_set' iC s3001.1 s3001.2.1.toNat x3007)) A ?_)))
    obtain ⟨x3011, h3012, hF⟩ := bindE hF
    refine de1 A (l_index s3001.2.2.toNat sl29 A A (atI_z h3012) (lt_cg (lt_at iC (atI_at h3012)) (by simp))) A (deS A (l_storeR ty3 A (.v _) A (map_at (atI_at h3012)) A (Nat.le_of_ble_eq_true A) A (map_set' iC (s3001.1.set s3001.2.1.toNat x3007) s3001.2.2.toNat x3009)) A (ddE (q_in (q_seq (w_region (by rfl) (dv1 (l_move (.v _)) (dv1 (l_bin A A (b_add A)) (dv1 (l_move (.v _)) ?_))))))))
    refine dv1 (l_bin A A (b_sub A)) (dv1 (l_assign (.v _)) (dv1 (l_assign (.v _)) (dvE ?_)))
    cases hF
    refine qL A ?_
    exact (le_of [(0, some 0)] A (.cons (.rf _ _ _ _) (.rf A (by simp)) (.s (.s .nil A) A)) (.row A A A (clm k_iC _) .nil))
  · refine w_condF A b3006 ?_
    refine w_exit (q_exS (q_exS (q_here ?_)))
    cases hF
    cases hx3003 _ rfl
    have hF := hG3005
    cases hF
    refine q_endS (.inl A) ?_
    exact ⟨_, _, ret_okK A .nil (by decide) ⟨A, A⟩, (gbC A (clm k_iC _) (by decide) (by decide) gb0)⟩

def p_cfg_order (a0 : MFun) : Option ((List Int)) :=
((((p_cfg_left a0).bind fun y4 =>
((p_cfg_left_1_i y4 (fun (s3007 : (List Int)) (y6 : Int) =>
((ck ((s3007.length + 1) * 8 ≤ 140737488355328)
(some (Xt.go (s3007 ++ [y6])))) : Option (Xt ((List Int)) Unit))) []).bind fun z3008 => z3008.on (fun (s3007 : (List Int)) =>
some s3007) (fun _ => none)))).bind fun (s2 : (List Int)) =>
((p_slices_Reverse_int_int_t1 s2).bind fun y3011 =>
(ck (y3011.length = s2.length)
(some y3011))))

theorem p_cfg_order_ok {r : (List Int)} : rOk (.sl 3 1 (r.map iC)) = true ∧ FrT (.sl 3 1 (r.map iC)) := ⟨rfl, (.one (.cl (.sl _ _ (clm k_iC _))))⟩

set_option maxRecDepth 10000 in
set_option maxHeartbeats 4000000 in
theorem p_cfg_order_ac {a0 : MFun} {r : (List Int)} (hF : p_cfg_order a0 = some r) : AC Tryd.prog GT 56 [.ag (MFun.ct a0)] (fun c => c = .sl 3 1 (r.map iC)) := by
  unfold p_cfg_order at hF
  refine AC.mk (nt := 15) Tryd.func56 A A A fun w N => ?_
  refine w_seq (w_region (by rfl) (dvN (l_box (.ag _) A A) (dv1 (l_assign (.v _)) (dvE (q_seq (w_seq (w_region (by rfl) (dvN (l_alloc zt29) ?_))))))))
  refine dvE (q_seq ?_)
  obtain ⟨s2, hF, hG3⟩ := bindE hF
  refine w_seqJ ⟨[(3, .ad 0 1 0 0)], [(0, some ⟨29, 1, [[.rf 1 0 ((s2.map iC).length) 1]]⟩), (1, some ⟨3, 1, s2.map iC⟩)], 1⟩ ?_ ?_
  · refine w_seq (w_region (by rfl) (dv1 (l_loadA ty33 A A A A A) ?_))
    obtain ⟨y4, h5, hF⟩ := bindE hF
    refine dvC (l_call (B := false) (FnI.mk' (by kernel_rfl)) (.cons (.ag _) (.ag (.cons (.v _) (.cons (.ro _) .nil))) .nil) (p_cfg_left_ac h5) (okF p_cfg_left_ok)) ?_
    rintro _ rfl
    refine dvE (q_seq (w_block ?_))
    obtain ⟨z3008, hG3010, hF⟩ := bindE hF
    refine w_rangeF (jmp := .ret) (t := [(3, .ad 0 1 0 0), (6, .fn (.func 75) [] [.ro (.rp (MFun.ct y4) 0)])]) (nx := 1) (p_cfg_left_1_i_ic y4) hG3010 (fun (s3007 : (List Int)) => [(0, some ⟨29, 1, [[.rf 1 0 ((s3007.map iC).length) 1]]⟩), (1, some ⟨3, 1, s3007.map iC⟩)]) (fun (_ : Unit) => []) [0] (fun (s3007 : (List Int)) (y6 : Int) => ⟨[(3, .ad 0 1 0 0), (4, .v (.int .i64 y6))], [(0, some ⟨29, 1, [[.rf 3 0 ((s3007.map iC).length) 1]]⟩), (3, some ⟨3, 1, s3007.map iC⟩)], 1⟩) A (FnI.mk' (by kernel_rfl)).run (le_of [(0, some 128), (1, none)] A (.s (.s .nil A) A) (.box A A (.cons (.nil ⟨by simp, A⟩) .nil) (.new ⟨by simp, A⟩ .nil))) A (fun _ => A) (by decide) A A A A (fun _ _ => A) ?_ ?_ ?_ ?_
    · intro l w M N g s3007 y6
      refine w_region (by rfl) (dv1 (l_assign (.v _)) (dvE (⟨A, ?_⟩)))
      exact (le_of [(0, some 0), (3, some 1)] A (.s (.s .nil A) A) (.box A A (.s A) (.row A A A (clm k_iC _) .nil)))
    · intro l w M N g s3007 y6 z_ hF
      refine w_block (w_region (by rfl) (dv1 (l_load ty29 A A A A A) (dv1 (l_move (.v _)) (dvN (l_bs1 sl29 zt3 A (.v _) A A A (by decide) (by decide)) ?_))))
      obtain ⟨c3009, hF⟩ := ckE hF
      refine dvN3 (l_app1R el29 A A A A A A (by decide) (map_snoc iC _ y6) (List.length_map _) (by simpa using c3009) (by decide)) ?_
      refine dvS (l_store ty29 A (.rf _ _ _ _) A A A (Nat.le_of_ble_eq_true A) A) (dvE (q_in ?_))
      cases hF
      refine .inl ⟨A, _, A, ?_⟩
      exact (le_of [(0, some 0), (1, some 256)] A .nil (.box A A (.cons (.rf A (by simp)) .nil) (.row A A A (clm k_iC _) .nil)))
    · intro s3007 hs_
      subst hs_
      replace hF := onGo hF
      cases hF
      refine q_in (q_join ?_)
      exact (le_of [(0, some 0), (1, some 1)] A (.s .nil A) (.box A A (.s A) (.row A A A (clm k_iC _) .nil)))
    · intro o_ hs_
      subst hs_
      exact nomatch onOut hF
  replace hF := hG3
  refine w_seq (w_region (by rfl) (dv1 (l_load ty29 A A A A A) ?_))
  obtain ⟨y3011, h3012, hF⟩ := bindE hF
  obtain ⟨c3013, hF⟩ := ckE hF
  refine dvK (l_callS [(0, some 1)] [(0, some 1)] (by rfl) (by rfl) (by rfl) (by rfl) (by rfl) (FnI.mk' (by kernel_rfl)) (.cons (.rf _ _ _ _) (.rf A A) .nil) (.row A A A (clm k_iC _) .nil) (p_slices_Reverse_int_int_t1_sc h3012) (okS (p_slices_Reverse_int_int_t1_sok (r := y3011)))) ?_
  rintro _ _ ⟨rfl, rfl⟩
  refine dvE (q_seq (w_seq (w_region (by rfl) (dv1 (l_load ty29 A A A A A) (dv1 (l_assign (.rf _ _ _ _)) (dvE (q_seq (w_ret ?_))))))))
  cases hF
  refine q_end (.inr A) ?_
  exact ret_ok A (.cons (.tmp (.rf _ _ _ _) (.rf A ((List.length_map _).trans (c3013.trans (List.length_map _).symm)) (clm k_iC _))) .nil) (by decide) A

def p_cfg_Order (a0 : MFun) : Option ((List Int)) :=
((p_cfg_order a0).bind fun y1 =>
some y1)

theorem p_cfg_Order_ok {r : (List Int)} : rOk (.sl 3 1 (r.map iC)) = true ∧ FrT (.sl 3 1 (r.map iC)) := ⟨rfl, (.one (.cl (.sl _ _ (clm k_iC _))))⟩

set_option maxRecDepth 10000 in
set_option maxHeartbeats 4000000 in
theorem p_cfg_Order_ac {a0 : MFun} {r : (List Int)} (hF : p_cfg_Order a0 = some r) : AC Tryd.prog GT 40 [.ag (MFun.ct a0)] (fun c => c = .sl 3 1 (r.map iC)) := by
  unfold p_cfg_Order at hF
  refine AC.mk (nt := 5) Tryd.func40 A A A fun w N => ?_
  refine w_seq (w_region (by rfl) (dvN (l_box (.ag _) A A) (dv1 (l_assign (.v _)) (dvE (q_seq (w_seq (w_region (by rfl) (dv1 (l_loadA ty33 A A A A A) ?_))))))))
  obtain ⟨y1, h2, hF⟩ := bindE hF
  refine dvC (l_call (B := false) (FnI.mk' (by kernel_rfl)) (.cons (.ag _) (.ag (.cons (.v _) (.cons (.ro _) .nil))) .nil) (p_cfg_order_ac h2) (okF p_cfg_order_ok)) ?_
  rintro _ rfl
  refine dv1 (l_assign (.rf _ _ _ _)) (dvE (q_seq (w_ret ?_)))
  cases hF
  refine q_end (.inr A) ?_
  exact ret_ok A (.cons (.tmp (.rf _ _ _ _) (.rf A A (clm k_iC _))) .nil) (by decide) A

def p_tidy_blocks_1 (a0 : Int) (c0 : List Int) : Option Int :=
(((bif decide (a0 < 0) then
some true
else
some (decide (((c0.length : Nat) : Int) ≤ a0)))).bind fun (s18112 : Bool) =>
(bif s18112 then
some (-1)
else
((atI c0 a0).bind fun x18116 =>
some x18116)))

theorem p_tidy_blocks_1_ok {r : Int} : rOk (.v (.int .i64 r)) = true ∧ FrT (.v (.int .i64 r)) := ⟨rfl, (.one (.cl (.v _)))⟩

set_option maxRecDepth 10000 in
set_option maxHeartbeats 4000000 in
theorem p_tidy_blocks_1_ac {a0 : Int} {c0 : List Int} {r : Int} (hF : p_tidy_blocks_1 a0 c0 = some r) : AC Tryd.prog GT 55 [.v (.int .i64 a0), .rp (lC_iC c0) 0] (fun c => c = .v (.int .i64 r)) := by
  unfold p_tidy_blocks_1 at hF
  refine AC.mk (nt := 16) Tryd.func55 A A A fun w N => ?_
  refine w_seq (w_region (by rfl) (dv1 (l_assign (.v _)) (dvE (q_seq (w_seq ?_)))))
  obtain ⟨s18112, hF, hG18113⟩ := bindE hF
  refine w_seqJ ⟨[(0, .v (.int .i64 a0)), (1, .ro (.rp (lC_iC c0) 0)), (11, .v (.bool s18112))], [], 1⟩ ?_ ?_
  · refine w_region (by rfl) (dv1 (l_move (.v _)) (dv1 (l_bin A A b_lss) (dv1 (l_move (.v _)) ?_)))
    rcases condE hF with ⟨b18114, hF⟩ | ⟨b18114, hF⟩
    · refine dv1 (l_gF A A (gt A b18114) A) (dv1 (l_gF A A (gt A b18114) A) (dv1 (l_gF A A (gt A b18114) A) (dv1 (l_gF A A (gt A b18114) A) (dv1 (l_pickT (gt A b18114) (.v _)) (dvE ?_)))))
      cases hF
      refine q_join ?_
      exact (le_of [] A (.s (.s (.s .nil A) A) A) .nil)
    · refine dv1 (l_gT A A (gt A b18114) fun _ => l_move (.v _)) (dv1 (l_gT A A (gt A b18114) fun _ => l_loadRo ty29 A A) (dv1 (l_gT A A (gt A b18114) fun _ => l_lenRo sl29 A A (List.length_map _)) (dv1 (l_gT A A (gt A b18114) fun _ => l_bin A A b_geq) (dv1 (l_pickF (gt A b18114) (.v _)) (dvE ?_)))))
      cases hF
      refine q_join ?_
      exact (le_of [] A (.s (.s (.s .nil A) A) A) .nil)
  replace hF := hG18113
  rcases condE hF with ⟨b18115, hF⟩ | ⟨b18115, hF⟩
  · refine w_condT A b18115 ?_
    refine w_seq (w_region (by rfl) (dv1 (l_assign (.v _)) (dvE (q_seq (w_ret (q_reS ?_))))))
    cases hF
    refine q_end (.inr A) ?_
    exact ret_ok A (.cons (.tmp (.v _) (.v _)) .nil) (by decide) A
  · refine w_condF A b18115 ?_
    refine w_skip (q_seq (w_seq (w_region (by rfl) (dv1 (l_loadRo ty29 A A) (dv1 (l_move (.v _)) ?_)))))
    obtain ⟨x18116, h18117, hF⟩ := bindE hF
    refine dv1 (l_indexRo a0.toNat sl29 A A (atI_z h18117) (map_at (atI_at h18117))) (dv1 (l_loadRo ty3 A A) (dv1 (l_assign (.v _)) (dvE (q_seq (w_ret ?_)))))
    cases hF
    refine q_end (.inr A) ?_
    exact ret_ok A (.cons (.tmp (.v _) (.v _)) .nil) (by decide) A

def p_tidy_end_t3 (a0_0 : Int) (a1_0 : Int) (a1_1 : Int) (a1_2 : Int) (a1_3 : Int) (a1_4 : List Int) (a1_5 : List Int) (a2_0 : List Int) (a3_0 : List Int) : Option MEnd :=
(((((bif decide (a1_0 = 1) then
some true
else
(bif decide (a1_0 = 3) then
some true
else
(bif decide (a1_0 = 2) then
some (!(decide (a0_0 = (-1))))
else
some false)))).bind fun (s5 : Bool) =>
(bif s5 then
((p_tidy_named_1 a1_1 a2_0).bind fun y11 =>
some y11)
else
some a1_1))).bind fun (s2 : Int) =>
(((((bif decide (a1_0 = 0) then
some true
else
some (decide (a1_0 = 1)))).bind fun (s18 : Bool) =>
(bif s18 then
((p_tidy_blocks_1 a1_2 a3_0).bind fun y22 =>
((p_tidy_end_1 a1_4 a2_0).bind fun y24 =>
some (y22, y24)))
else
some (a1_2, a1_4)))).bind fun (s15 : Int × (List Int)) =>
(((bif decide (a1_0 = 1) then
((p_tidy_blocks_1 a1_3 a3_0).bind fun y31 =>
((p_tidy_end_1 a1_5 a2_0).bind fun y33 =>
some (y31, y33)))
else
some (a1_3, a1_5))).bind fun (s28 : Int × (List Int)) =>
some (⟨a1_0, s2, s15.1, s28.1, s15.2, s28.2⟩ : MEnd))))

theorem p_tidy_end_t3_sok {r : MEnd} : rOk (.ag (MEnd.ct r)) = true ∧ True := ⟨rfl, trivial⟩

set_option maxRecDepth 10000 in
set_option maxHeartbeats 4000000 in
theorem p_tidy_end_t3_sc {a0_0 : Int} {a1_0 : Int} {a1_1 : Int} {a1_2 : Int} {a1_3 : Int} {a1_4 : List Int} {a1_5 : List Int} {a2_0 : List Int} {a3_0 : List Int} {n_0 : Nat} {r : MEnd} (hF : p_tidy_end_t3 a0_0 a1_0 a1_1 a1_2 a1_3 a1_4 a1_5 a2_0 a3_0 = some r) : SC Tryd.prog GT 42 [.ag [.v (.int .i64 a0_0), .rf 0 0 n_0 8], .ag [.v (.int .i64 a1_0), .v (.int .i64 a1_1), .v (.int .i64 a1_2), .v (.int .i64 a1_3), .rf 1 0 ((a1_4.map iC).length) 1, .rf 2 0 ((a1_5.map iC).length) 1], .fn (.func 61) [] [.ro (.rp (lC_iC a2_0) 0)], .fn (.func 55) [] [.ro (.rp (lC_iC a3_0) 0)]] [(1, some ⟨3, 1, a1_4.map iC⟩), (2, some ⟨3, 1, a1_5.map iC⟩)] (fun c gb => c = .ag (MEnd.ct r) ∧ gb = []) := by
  unfold p_tidy_end_t3 at hF
  refine SC.mk (nt := 66) [] Tryd.func42 A A A A fun w M N g => ?_
  refine w_seq (w_region (by rfl) (dvN (l_box (.ag _) A A) (dvN (l_box (.ag _) A A) (dvN (l_box (.fn _ _ _) A A) (dvN (l_alloc zt45) (dvE (q_seq ?_)))))))
  obtain ⟨s2, hF, hG3⟩ := bindE hF
  refine w_seqJ ⟨[(3, .fn (.func 55) [] [.ro (.rp (lC_iC a3_0) 0)]), (5, .ad 3 6 0 0), (6, .ad 6 1 0 0), (8, .ad 7 6 0 0)], [(3, some ⟨45, 6, [[.v (.int .i64 a1_0), .v (.int .i64 s2), .v (.int .i64 a1_2), .v (.int .i64 a1_3), .rf 4 0 ((a1_4.map iC).length) 1, .rf 5 0 ((a1_5.map iC).length) 1]]⟩), (4, some ⟨3, 1, a1_4.map iC⟩), (5, some ⟨3, 1, a1_5.map iC⟩), (6, some ⟨62, 1, [[.fn (.func 61) [] [.ro (.rp (lC_iC a2_0) 0)]]]⟩), (7, some ⟨45, 6, [[.v (.int .i64 0), .v (.int .i64 0), .v (.int .i64 0), .v (.int .i64 0), .v (.slice none 0 0), .v (.slice none 0 0)]]⟩)], 1⟩ ?_ ?_
  · obtain ⟨s5, hF, hG6⟩ := bindE hF
    refine w_seqJ ⟨[(3, .fn (.func 55) [] [.ro (.rp (lC_iC a3_0) 0)]), (5, .ad 3 6 0 0), (6, .ad 6 1 0 0), (8, .ad 7 6 0 0), (27, .v (.bool s5))], [(3, some ⟨45, 6, [[.v (.int .i64 a1_0), .v (.int .i64 a1_1), .v (.int .i64 a1_2), .v (.int .i64 a1_3), .rf 4 0 ((a1_4.map iC).length) 1, .rf 5 0 ((a1_5.map iC).length) 1]]⟩), (4, some ⟨3, 1, a1_4.map iC⟩), (5, some ⟨3, 1, a1_5.map iC⟩), (6, some ⟨62, 1, [[.fn (.func 61) [] [.ro (.rp (lC_iC a2_0) 0)]]]⟩), (7, some ⟨45, 6, [[.v (.int .i64 0), .v (.int .i64 0), .v (.int .i64 0), .v (.int .i64 0), .v (.slice none 0 0), .v (.slice none 0 0)]]⟩)], 1⟩ ?_ ?_
    · refine w_region (by rfl) (dv1 (l_field fd45_0 A) (dv1 (l_load ty3 A A A A A) (dv1 (l_bin A A b_eql) (dv1 (l_move (.v _)) ?_))))
      rcases condE hF with ⟨b7, hF⟩ | ⟨b7, hF⟩
      · refine dv1 (l_gF A A (gt A b7) A) (dv1 (l_gF A A (gt A b7) A) (dv1 (l_gF A A (gt A b7) A) (dv1 (l_pickT (gt A b7) (.v _)) (dv1 (l_move (.v _)) (dv1 (l_gF A A A A) (dv1 (l_gF A A A A) (dv1 (l_gF A A A A) (dv1 (l_gF A A A A) ?_))))))))
        refine dv1 (l_gU A A A) (dv1 (l_gU A A A) (dv1 (l_gU A A A) (dv1 (l_gF A A A A) (dv1 (l_pickT A (.v _)) (dvE ?_)))))
        cases hF
        refine q_join ?_
        exact (le_of [(3, some 128), (4, some 1), (5, some 2), (6, some 192), (7, some 256), (0, some 0)] A (.s (.s (.s (.s (.s .nil A) A) A) A) A) (.box A A (.s A) (.row A A A (clm k_iC _) (.row A A A (clm k_iC _) (.box A A (.s A) (.box A A (.s A) .nil))))))
      · refine dv1 (l_gT A A (gt A b7) fun _ => l_field fd45_0 A) (dv1 (l_gT A A (gt A b7) fun _ => l_load ty3 A A A A A) (dv1 (l_gT A A (gt A b7) fun _ => l_bin A A b_eql) (dv1 (l_pickF (gt A b7) (.v _)) (dv1 (l_move (.v _)) ?_))))
        rcases condE hF with ⟨b8, hF⟩ | ⟨b8, hF⟩
        · refine dv1 (l_gF A A (gt A b8) A) (dv1 (l_gF A A (gt A b8) A) (dv1 (l_gF A A (gt A b8) A) (dv1 (l_gF A A (gt A b8) A) (dv1 (l_gU A A A) (dv1 (l_gU A A A) (dv1 (l_gU A A A) (dv1 (l_gF A A (gt A b8) A) (dv1 (l_pickT (gt A b8) (.v _)) ?_))))))))
          refine dvE ?_
          cases hF
          refine q_join ?_
          exact (le_of [(3, some 128), (4, some 1), (5, some 2), (6, some 192), (7, some 256), (0, some 0)] A (.s (.s (.s (.s (.s .nil A) A) A) A) A) (.box A A (.s A) (.row A A A (clm k_iC _) (.row A A A (clm k_iC _) (.box A A (.s A) (.box A A (.s A) .nil))))))
        · refine dv1 (l_gT A A (gt A b8) fun _ => l_field fd45_0 A) (dv1 (l_gT A A (gt A b8) fun _ => l_load ty3 A A A A A) (dv1 (l_gT A A (gt A b8) fun _ => l_bin A A b_eql) (dv1 (l_gT A A (gt A b8) fun _ => l_move (.v _)) ?_)))
          rcases condE hF with ⟨b9, hF⟩ | ⟨b9, hF⟩
          · refine dv1 (l_gT A A (gt A b9) fun _ => l_field fd33_0 A) (dv1 (l_gT A A (gt A b9) fun _ => l_load ty3 A A A A A) (dv1 (l_gT A A (gt A b9) fun _ => l_bin A A b_neq) (dv1 (l_gT A A (gt A b8) fun _ => l_pickT (gt A b9) (.v _)) (dv1 (l_pickF (gt A b8) (.v _)) (dvE ?_)))))
            cases hF
            refine q_join ?_
            exact (le_of [(3, some 128), (4, some 1), (5, some 2), (6, some 192), (7, some 256), (0, some 0)] A (.s (.s (.s (.s (.s .nil A) A) A) A) A) (.box A A (.s A) (.row A A A (clm k_iC _) (.row A A A (clm k_iC _) (.box A A (.s A) (.box A A (.s A) .nil))))))
          · refine dv1 (l_gF A A (gt A b9) A) (dv1 (l_gF A A (gt A b9) A) (dv1 (l_gF A A (gt A b9) A) (dv1 (l_gT A A (gt A b8) fun _ => l_pickF (gt A b9) (.v _)) (dv1 (l_pickF (gt A b8) (.v _)) (dvE ?_)))))
            cases hF
            refine q_join ?_
            exact (le_of [(3, some 128), (4, some 1), (5, some 2), (6, some 192), (7, some 256), (0, some 0)] A (.s (.s (.s (.s (.s .nil A) A) A) A) A) (.box A A (.s A) (.row A A A (clm k_iC _) (.row A A A (clm k_iC _) (.box A A (.s A) (.box A A (.s A) .nil))))))
    replace hF := hG6
    rcases condE hF with ⟨b10, hF⟩ | ⟨b10, hF⟩
    · refine w_condT A b10 ?_
      refine w_region (by rfl) (dv1 (l_load ty62 A A A A A) (dv1 (l_field fd45_1 A) (dv1 (l_load ty3 A A A A A) ?_)))
      obtain ⟨y11, h12, hF⟩ := bindE hF
      refine dvC (l_callV (B := false) (caps := [.rp (lC_iC a2_0) 0]) (FnI.mk' (by kernel_rfl)) (.fn _ _ _) (.fn _ A) (.cons (.v _) (.one (.v _)) .nil) (p_tidy_named_1_ac h12) (okF p_tidy_named_1_ok)) ?_
      rintro _ rfl
      refine dv1 (l_field fd45_1 A) (dvS (l_store ty3 A (.v _) A A A (Nat.le_of_ble_eq_true A) A) (dvE ?_))
      cases hF
      refine q_join ?_
      exact (le_of [(3, some 3), (4, some 4), (5, some 5), (6, some 6), (7, some 7), (0, some 0)] A (.s (.s (.s (.s .nil A) A) A) A) (.box A A (.s A) (.row A A A (clm k_iC _) (.row A A A (clm k_iC _) (.box A A (.s A) (.box A A (.s A) .nil))))))
    · refine w_condF A b10 ?_
      refine w_skip ?_
      cases hF
      refine q_join ?_
      exact (le_of [(3, some 3), (4, some 4), (5, some 5), (6, some 6), (7, some 7), (0, some 0)] A (.s (.s (.s (.s .nil A) A) A) A) (.box A A (.s A) (.row A A A (clm k_iC _) (.row A A A (clm k_iC _) (.box A A (.s A) (.box A A (.s A) .nil))))))
  replace hF := hG3
  refine w_seq (w_region (by rfl) (dvG (le_freeze 6 [(6, .ro (.rp [.fn (.func 61) [] [.ro (.rp (lC_iC a2_0) 0)]] 0))] A (cl1 (.fn _ (capB_ok A)) cl0) (List.forall_mem_cons.2 ⟨⟨0, A, A⟩, (fun _ h => nomatch h)⟩)) ?_))
  refine dvG (le_wk 6 (c' := .rp [.fn (.func 61) [] [.rp (lC_iC a2_0) 0]] 0) A (.rp (.cons (Wk.fn _ (.cons (Wk.ro (Wk.refl _)) .nil)) .nil))) ?_
  refine dv1 (l_fnE (f := 59) (.cons (.ro _) .nil)) (dv1 (l_assign (.fn _ _ _)) (dvE (q_seq ?_)))
  obtain ⟨s15, hF, hG16⟩ := bindE hF
  refine w_seqJ ⟨[(3, .fn (.func 55) [] [.ro (.rp (lC_iC a3_0) 0)]), (5, .ad 3 6 0 0), (8, .ad 6 6 0 0), (9, .fn (.func 59) [] [.ro (.rp [.fn (.func 61) [] [.rp (lC_iC a2_0) 0]] 0)])], [(3, some ⟨45, 6, [[.v (.int .i64 a1_0), .v (.int .i64 s2), .v (.int .i64 s15.1), .v (.int .i64 a1_3), .rf 4 0 ((s15.2.map iC).length) 1, .rf 5 0 ((a1_5.map iC).length) 1]]⟩), (4, some ⟨3, 1, s15.2.map iC⟩), (5, some ⟨3, 1, a1_5.map iC⟩), (6, some ⟨45, 6, [[.v (.int .i64 0), .v (.int .i64 0), .v (.int .i64 0), .v (.int .i64 0), .v (.slice none 0 0), .v (.slice none 0 0)]]⟩)], 1⟩ ?_ ?_
  · obtain ⟨s18, hF, hG19⟩ := bindE hF
    refine w_seqJ ⟨[(3, .fn (.func 55) [] [.ro (.rp (lC_iC a3_0) 0)]), (5, .ad 3 6 0 0), (8, .ad 6 6 0 0), (9, .fn (.func 59) [] [.ro (.rp [.fn (.func 61) [] [.rp (lC_iC a2_0) 0]] 0)]), (41, .v (.bool s18))], [(3, some ⟨45, 6, [[.v (.int .i64 a1_0), .v (.int .i64 s2), .v (.int .i64 a1_2), .v (.int .i64 a1_3), .rf 4 0 ((a1_4.map iC).length) 1, .rf 5 0 ((a1_5.map iC).length) 1]]⟩), (4, some ⟨3, 1, a1_4.map iC⟩), (5, some ⟨3, 1, a1_5.map iC⟩), (6, some ⟨45, 6, [[.v (.int .i64 0), .v (.int .i64 0), .v (.int .i64 0), .v (.int .i64 0), .v (.slice none 0 0), .v (.slice none 0 0)]]⟩)], 1⟩ ?_ ?_
    · refine w_region (by rfl) (dv1 (l_field fd45_0 A) (dv1 (l_load ty3 A A A A A) (dv1 (l_bin A A b_eql) (dv1 (l_move (.v _)) ?_))))
      rcases condE hF with ⟨b20, hF⟩ | ⟨b20, hF⟩
      · refine dv1 (l_gF A A (gt A b20) A) (dv1 (l_gF A A (gt A b20) A) (dv1 (l_gF A A (gt A b20) A) (dv1 (l_pickT (gt A b20) (.v _)) (dvE ?_))))
        cases hF
        refine q_join ?_
        exact (le_of [(3, some 3), (4, some 4), (5, some 5), (6, some 7), (0, some 0)] A (.s (.s (.s (.s (.s .nil A) A) A) A) A) (.box A A (.s A) (.row A A A (clm k_iC _) (.row A A A (clm k_iC _) (.box A A (.s A) .nil)))))
      · refine dv1 (l_gT A A (gt A b20) fun _ => l_field fd45_0 A) (dv1 (l_gT A A (gt A b20) fun _ => l_load ty3 A A A A A) (dv1 (l_gT A A (gt A b20) fun _ => l_bin A A b_eql) (dv1 (l_pickF (gt A b20) (.v _)) (dvE ?_))))
        cases hF
        refine q_join ?_
        exact (le_of [(3, some 3), (4, some 4), (5, some 5), (6, some 7), (0, some 0)] A (.s (.s (.s (.s (.s .nil A) A) A) A) A) (.box A A (.s A) (.row A A A (clm k_iC _) (.row A A A (clm k_iC _) (.box A A (.s A) .nil)))))
    replace hF := hG19
    rcases condE hF with ⟨b21, hF⟩ | ⟨b21, hF⟩
    · refine w_condT A b21 ?_
      refine w_draw [[], [], [1], [0, 1, 2], [], [], [5], [0, 1, 2, 3, 4, 5, 6], [0, 1, 2, 3, 5, 6], [0, 1, 2, 3, 4, 5, 6, 7, 8], [0, 1, 2, 3, 4, 5, 6, 7, 8, 9], [0, 1, 2, 3, 4, 5, 6, 7, 8, 9, 10]] [0, 1, 2, 4, 5, 6, 3, 8, 7, 9, 10, 11] (by kernel_rfl) (by rfl) ⟨by decide, by rfl⟩ (by rfl) ?_
      refine de1 A (l_move (.fn _ _ _)) A (de1 A (l_field fd45_2 A) A (de1 A (l_load ty3 A A A A A) A (de1 A (l_move (.fn _ _ _)) A (de1 A (l_field fd45_4 A) A (de1 A (l_load ty29 A A A A A) A ?_)))))
      obtain ⟨y22, h23, hF⟩ := bindE hF
      refine deC1 A (l_callV (B := false) (caps := [.rp (lC_iC a3_0) 0]) (FnI.mk' (by kernel_rfl)) (.fn _ _ _) (.fn _ A) (.cons (.v _) (.one (.v _)) .nil) (p_tidy_blocks_1_ac h23) (okF p_tidy_blocks_1_ok)) A ?_
      refine de1 A (l_field fd45_2 A) A ?_
      obtain ⟨y24, h25, hF⟩ := bindE hF
      refine deC1 A (l_callV (B := true) (caps := [.rp [.fn (.func 61) [] [.rp (lC_iC a2_0) 0]] 0]) (FnI.mk' (by kernel_rfl)) (.fn _ _ _) (.fn _ A) (.cons (.rf _ _ _ _) (.one (.rf A A A (clm k_iC _))) .nil) (p_tidy_end_1_ac h25) (okT p_tidy_end_1_ok)) A ?_
      refine deS A (l_store ty3 A (.v _) A A A (Nat.le_of_ble_eq_true A) A) A (de1 A (l_field fd45_4 A) A (deS A (l_store ty29 A (.rf _ _ _ _) A A A (Nat.le_of_ble_eq_true A) A) A (ddE ?_)))
      cases hF
      refine q_join ?_
      exact (le_of [(3, some 3), (4, some 576), (5, some 5), (6, some 6), (0, some 0)] A (.s (.s (.s (.s .nil A) A) A) A) (.box A A (.s A) (.row A A A (clm k_iC _) (.row A A A (clm k_iC _) (.box A A (.s A) .nil)))))
    · refine w_condF A b21 ?_
      refine w_skip ?_
      cases hF
      refine q_join ?_
      exact (le_of [(3, some 3), (4, some 4), (5, some 5), (6, some 6), (0, some 0)] A (.s (.s (.s (.s .nil A) A) A) A) (.box A A (.s A) (.row A A A (clm k_iC _) (.row A A A (clm k_iC _) (.box A A (.s A) .nil)))))
  replace hF := hG16
  obtain ⟨s28, hF, hG29⟩ := bindE hF
  refine w_seqJ ⟨[(5, .ad 3 6 0 0), (8, .ad 6 6 0 0)], [(3, some ⟨45, 6, [[.v (.int .i64 a1_0), .v (.int .i64 s2), .v (.int .i64 s15.1), .v (.int .i64 s28.1), .rf 4 0 ((s15.2.map iC).length) 1, .rf 5 0 ((s28.2.map iC).length) 1]]⟩), (4, some ⟨3, 1, s15.2.map iC⟩), (5, some ⟨3, 1, s28.2.map iC⟩), (6, some ⟨45, 6, [[.v (.int .i64 0), .v (.int .i64 0), .v (.int .i64 0), .v (.int .i64 0), .v (.slice none 0 0), .v (.slice none 0 0)]]⟩)], 1⟩ ?_ ?_
  · refine w_seq (w_region (by rfl) (dv1 (l_field fd45_0 A) (dv1 (l_load ty3 A A A A A) (dv1 (l_bin A A b_eql) (dvE (q_seq ?_))))))
    rcases condE hF with ⟨b30, hF⟩ | ⟨b30, hF⟩
    · refine w_condT A b30 ?_
      refine w_draw [[], [], [1], [0, 1, 2], [], [], [5], [0, 1, 2, 3, 4, 5, 6], [0, 1, 2, 3, 5, 6], [0, 1, 2, 3, 4, 5, 6, 7, 8], [0, 1, 2, 3, 4, 5, 6, 7, 8, 9], [0, 1, 2, 3, 4, 5, 6, 7, 8, 9, 10]] [0, 1, 2, 4, 5, 6, 3, 8, 7, 9, 10, 11] (by kernel_rfl) (by rfl) ⟨by decide, by rfl⟩ (by rfl) ?_
      refine de1 A (l_move (.fn _ _ _)) A (de1 A (l_field fd45_3 A) A (de1 A (l_load ty3 A A A A A) A (de1 A (l_move (.fn _ _ _)) A (de1 A (l_field fd45_5 A) A (de1 A (l_load ty29 A A A A A) A ?_)))))
      obtain ⟨y31, h32, hF⟩ := bindE hF
      refine deC1 A (l_callV (B := false) (caps := [.rp (lC_iC a3_0) 0]) (FnI.mk' (by kernel_rfl)) (.fn _ _ _) (.fn _ A) (.cons (.v _) (.one (.v _)) .nil) (p_tidy_blocks_1_ac h32) (okF p_tidy_blocks_1_ok)) A ?_
      refine de1 A (l_field fd45_3 A) A ?_
      obtain ⟨y33, h34, hF⟩ := bindE hF
      refine deC1 A (l_callV (B := true) (caps := [.rp [.fn (.func 61) [] [.rp (lC_iC a2_0) 0]] 0]) (FnI.mk' (by kernel_rfl)) (.fn _ _ _) (.fn _ A) (.cons (.rf _ _ _ _) (.one (.rf A A A (clm k_iC _))) .nil) (p_tidy_end_1_ac h34) (okT p_tidy_end_1_ok)) A ?_
      refine deS A (l_store ty3 A (.v _) A A A (Nat.le_of_ble_eq_true A) A) A (de1 A (l_field fd45_5 A) A (deS A (l_store ty29 A (.rf _ _ _ _) A A A (Nat.le_of_ble_eq_true A) A) A (ddE ?_)))
      cases hF
      refine q_join ?_
      exact (le_of [(3, some 3), (4, some 4), (5, some 768), (6, some 6), (0, some 0)] A (.s (.s .nil A) A) (.box A A (.s A) (.row A A A (clm k_iC _) (.row A A A (clm k_iC _) (.box A A (.s A) .nil)))))
    · refine w_condF A b30 ?_
      refine w_skip ?_
      cases hF
      refine q_join ?_
      exact (le_of [(3, some 3), (4, some 4), (5, some 5), (6, some 6), (0, some 0)] A (.s (.s .nil A) A) (.box A A (.s A) (.row A A A (clm k_iC _) (.row A A A (clm k_iC _) (.box A A (.s A) .nil)))))
  replace hF := hG29
  refine w_seq (w_region (by rfl) (dv1 (l_loadA ty45 A A A A A) (dvS (l_store ty45 A (.ag _) A A A (Nat.le_of_ble_eq_true A) A) (dvE (q_seq (w_ret ?_))))))
  cases hF
  refine q_endS (.inr A) ?_
  exact ⟨_, _, ret_okK A (.cons (.cellA ty45 A A A (.cons (.of (.v _)) (.cons (.of (.v _)) (.cons (.of (.v _)) (.cons (.of (.v _)) (.cons (.of (.rf A A (clm k_iC _))) (.cons (.of (.rf A A (clm k_iC _))) .nil))))))) .nil) (by decide) ⟨A, A⟩, gb0⟩

def p_tidy_renamed_s3 (a0 : MFun) (a1 : List Int) (a2_0 : List Int) : Option MFun :=
((p_tidy_own a0).bind fun y14068 =>
(((loop (fun (s18073 : (List MBlk) × Int) =>
(bif decide (s18073.2 < ((y14068.Blocks.length : Nat) : Int)) then
((((atI s18073.1 s18073.2).bind fun x18081 =>
(((loop (fun (s21086 : (List MBlk) × Int) =>
(bif decide (s21086.2 < ((x18081.Ops.length : Nat) : Int)) then
((s21086.1[s18073.2.toNat]?).bind fun x21091 =>
((x21091.Ops[s21086.2.toNat]?).bind fun x21093 =>
((atI x21091.Ops s21086.2).bind fun x21095 =>
((p_kind_Renamed x21093 a1).bind fun y21097 =>
some (Xt.go ((s21086.1.set s18073.2.toNat (⟨x21091.Params, (x21091.Ops.set s21086.2.toNat y21097), x21091.End⟩ : MBlk)), IntKind.i64.wrap (s21086.2 + 1)))))))
else
some (Xt.out s21086.1))) Fu ((s18073.1.set s18073.2.toNat x18081), 0))).bind fun (s18084 : (List MBlk)) =>
((s18084[s18073.2.toNat]?).bind fun x21099 =>
((p_tidy_named a1).bind fun y21101 =>
((p_tidy_end_t3 y14068.Ret x21099.End.K x21099.End.A x21099.End.To x21099.End.Else x21099.End.L x21099.End.M y21101 a2_0).bind fun y21103 =>
some (s18084.set s18073.2.toNat (⟨x21099.Params, x21099.Ops, y21103⟩ : MBlk)))))))).bind fun (s18079 : (List MBlk)) =>
some (Xt.go (s18079, IntKind.i64.wrap (s18073.2 + 1))))
else
some (Xt.out s18073.1))) Fu (y14068.Blocks, 0))).bind fun (s14071 : (List MBlk)) =>
some (⟨y14068.Ret, s14071⟩ : MFun)))

theorem p_tidy_renamed_s3_ok {r : MFun} : rOk (.ag (MFun.ct r)) = true ∧ FrT (.ag (MFun.ct r)) := ⟨rfl, (.one (.ag (k_MFunct _)))⟩

set_option maxRecDepth 10000 in
set_option maxHeartbeats 4000000 in
theorem p_tidy_renamed_s3_ac {a0 : MFun} {a1 : List Int} {a2_0 : List Int} {r : MFun} (hF : p_tidy_renamed_s3 a0 a1 a2_0 = some r) : AC Tryd.prog GT 28 [.ag (MFun.ct a0), .sl 3 1 (a1.map iC), .fn (.func 55) [] [.rp (lC_iC a2_0) 0]] (fun c => c = .ag (MFun.ct r)) := by
  unfold p_tidy_renamed_s3 at hF
  refine AC.mk (nt := 60) Tryd.func28 A A A fun w N => ?_
  refine w_seq (w_region (by rfl) (dvN (l_box (.ag _) A A) (dvN (l_alloc zt33) (dvE (q_seq (w_seq (w_region (by rfl) (dv1 (l_loadA ty33 A A A A A) ?_))))))))
  obtain ⟨y14068, h14069, hF⟩ := bindE hF
  refine dvC (l_call (B := false) (FnI.mk' (by kernel_rfl)) (.cons (.ag _) (.ag (.cons (.v _) (.cons (.ro _) .nil))) .nil) (p_tidy_own_ac h14069) (okF p_tidy_own_ok)) ?_
  rintro _ rfl
  refine dvS (l_store ty33 A (.ag _) A A A (Nat.le_of_ble_eq_true A) A) (dvE (q_seq ?_))
  obtain ⟨s14071, hF, hG14072⟩ := bindE hF
  refine w_seqJ ⟨[(3, .ad 0 2 0 0), (6, .ad 2 2 0 0)], [(0, some ⟨33, 2, [[.v (.int .i64 y14068.Ret), .rf 1 0 ((s14071.map MBlk.ct).length) 8]]⟩), (1, some ⟨47, 8, s14071.map MBlk.ct⟩), (2, some ⟨33, 2, [[.v (.int .i64 0), .v (.slice none 0 0)]]⟩)], 1⟩ ?_ ?_
  · refine w_seq (w_region (by rfl) (dv1 (l_field fd33_1 A) (dv1 (l_load ty31 A A A A A) (dv1 (l_lenR sl31 A A (List.length_map _)) (dv1 (l_move (.v _)) (dvE (q_seq (w_block ?_))))))))
    refine w_loopF hF (fun (s18073 : (List MBlk) × Int) => ⟨[(1, .ro (.sl 3 1 (a1.map iC))), (2, .fn (.func 55) [] [.ro (.rp (lC_iC a2_0) 0)]), (3, .ad 0 2 0 0), (6, .ad 2 2 0 0), (14, .v (.int .i64 ((y14068.Blocks.length : Nat) : Int))), (15, .v (.int .i64 s18073.2))], [(0, some ⟨33, 2, [[.v (.int .i64 y14068.Ret), .rf 1 0 ((s18073.1.map MBlk.ct).length) 8]]⟩), (1, some ⟨47, 8, s18073.1.map MBlk.ct⟩), (2, some ⟨33, 2, [[.v (.int .i64 0), .v (.slice none 0 0)]]⟩)], 1⟩) (le_of [(0, some 0), (1, some 193), (2, some 64)] A (.s (.s (.s (.s (.s (.s .nil A) A) A) A) A) A) (.box A A (.s A) (.row A A A (clm k_MBlkct _) (.box A A (.s A) .nil)))) ?_
    intro s18073 y18074 hF hx18075
    refine w_seq (w_region (by rfl) (dv1 (l_bin A A b_lss) (dvE (q_seq (w_seq ?_)))))
    rcases condE hF with ⟨b18077, hF⟩ | ⟨b18077, hF⟩
    · refine w_condT A b18077 ?_
      refine w_skip (q_seq ?_)
      obtain ⟨s18079, hF, hG18080⟩ := bindE hF
      refine w_seqJ ⟨[(1, .ro (.sl 3 1 (a1.map iC))), (2, .fn (.func 55) [] [.ro (.rp (lC_iC a2_0) 0)]), (3, .ad 0 2 0 0), (6, .ad 2 2 0 0), (14, .v (.int .i64 ((y14068.Blocks.length : Nat) : Int))), (15, .v (.int .i64 s18073.2))], [(0, some ⟨33, 2, [[.v (.int .i64 y14068.Ret), .rf 1 0 ((s18079.map MBlk.ct).length) 8]]⟩), (1, some ⟨47, 8, s18079.map MBlk.ct⟩), (2, some ⟨33, 2, [[.v (.int .i64 0), .v (.slice none 0 0)]]⟩)], 1⟩ ?_ ?_
      · refine w_block (w_seq (w_region (by rfl) (dv1 (l_move (.v _)) (dv1 (l_assign (.v _)) (dvE (q_seq (w_seq (w_region (by rfl) ?_))))))))
        refine dv1 (l_field fd33_1 A) (dv1 (l_load ty31 A A A A A) (dv1 (l_move (.v _)) ?_))
        obtain ⟨x18081, h18082, hF⟩ := bindE hF
        refine dv1 (l_index s18073.2.toNat sl31 A A (atI_z h18082) (lt_at MBlk.ct (atI_at h18082))) (dv1 (l_assign (.ad _ _ _ _)) (dvE (q_seq ?_)))
        obtain ⟨s18084, hF, hG18085⟩ := bindE hF
        refine w_seqJ ⟨[(1, .ro (.sl 3 1 (a1.map iC))), (2, .fn (.func 55) [] [.ro (.rp (lC_iC a2_0) 0)]), (3, .ad 0 2 0 0), (6, .ad 2 2 0 0), (8, .ad 1 8 s18073.2.toNat 0), (14, .v (.int .i64 ((y14068.Blocks.length : Nat) : Int))), (15, .v (.int .i64 s18073.2))], [(0, some ⟨33, 2, [[.v (.int .i64 y14068.Ret), .rf 1 0 ((s18084.map MBlk.ct).length) 8]]⟩), (1, some ⟨47, 8, s18084.map MBlk.ct⟩), (2, some ⟨33, 2, [[.v (.int .i64 0), .v (.slice none 0 0)]]⟩)], 1⟩ ?_ ?_
        · refine w_seq (w_region (by rfl) (dv1 (l_move (.ad _ _ _ _)) (dv1 (l_nil A) (dv1 (l_field fd47_1 A) (dvG (le_open 1 s18073.2.toNat A (map_at (atI_at h18082)) A) ?_)))))
          refine dv1 (l_load ty43 A A (set_at (atI_at h18082)) A A) (dv1 (l_lenR sl43 A A (List.length_map _)) (dv1 (l_move (.v _)) (dvE (q_seq (w_block (W.le (le_closeR 1 s18073.2.toNat A (set_at (atI_at h18082)) (.cons (.of (.rf A A (clm k_iC _))) (.cons (.of (.rf A A (clm k_MOpct _))) (.cons (.of (.v _)) (.cons (.of (.v _)) (.cons (.of (.v _)) (.cons (.of (.v _)) (.cons (.of (.rf A A (clm k_iC _))) (.cons (.of (.rf A A (clm k_iC _))) .nil)))))))) (by decide) (by decide) A (set_cl MBlk.ct _ _ _ x18081)) ?_))))))
          refine w_loopF hF (fun (s21086 : (List MBlk) × Int) => ⟨[(1, .ro (.sl 3 1 (a1.map iC))), (2, .fn (.func 55) [] [.ro (.rp (lC_iC a2_0) 0)]), (3, .ad 0 2 0 0), (6, .ad 2 2 0 0), (8, .ad 1 8 s18073.2.toNat 0), (14, .v (.int .i64 ((y14068.Blocks.length : Nat) : Int))), (15, .v (.int .i64 s18073.2)), (26, .v (.int .i64 ((x18081.Ops.length : Nat) : Int))), (27, .v (.int .i64 s21086.2))], [(0, some ⟨33, 2, [[.v (.int .i64 y14068.Ret), .rf 1 0 ((s21086.1.map MBlk.ct).length) 8]]⟩), (1, some ⟨47, 8, s21086.1.map MBlk.ct⟩), (2, some ⟨33, 2, [[.v (.int .i64 0), .v (.slice none 0 0)]]⟩)], 1⟩) (le_of [(0, some 0), (1, some 1), (2, some 2)] A (.s (.s (.s (.s (.s (.s (.s (.s (.s .nil A) A) A) A) A) A) A) A) A) (.box A A (.cons (.v A) (.cons (.rf A (by simp)) .nil)) (.row A A A (clm k_MBlkct _) (.box A A (.s A) .nil)))) ?_
          intro s21086 y21087 hF hx21088
          refine w_seq (w_region (by rfl) (dv1 (l_bin A A b_lss) (dvE (q_seq (w_seq ?_)))))
          rcases condE hF with ⟨b21090, hF⟩ | ⟨b21090, hF⟩
          · refine w_condT A b21090 ?_
            refine w_skip (q_seq (w_seq (w_block (w_seq (w_region (by rfl) (dv1 (l_move (.v _)) (dv1 (l_assign (.v _)) (dvE ?_))))))))
            refine q_seq ?_
            obtain ⟨x21091, h21092, hF⟩ := bindE hF
            refine W.le (le_open 1 s18073.2.toNat A (map_at h21092) A) ?_
            obtain ⟨x21093, h21094, hF⟩ := bindE hF
            refine W.le (le_open 257 s21086.2.toNat A (map_at h21094) A) ?_
            refine w_draw [[], [0], [0, 1], [0, 1, 2], [], [], [5], [5, 6], [5, 6, 7], [], [5, 6, 7, 8, 9], [5, 6, 7, 8, 9, 10], [], [5, 6, 7, 8, 9, 10, 11, 12], [0, 1, 2, 3, 4, 5, 6, 7, 8, 9, 10, 11, 12, 13], [0, 1, 2, 3, 4, 5, 6, 7, 8, 9, 10, 11, 12, 13, 14]] [0, 1, 2, 3, 4, 5, 6, 7, 8, 9, 10, 11, 12, 13, 14, 15] (by kernel_rfl) (by rfl) ⟨by decide, by rfl⟩ (by rfl) ?_
            refine de1 A (l_move (.ad _ _ _ _)) A (de1 A (l_nil A) A (de1 A (l_field fd47_1 A) A (de1 A (l_load ty43 A A (set_at h21092) A A) A (de1 A (l_move (.v _)) A (de1 A (l_move (.ad _ _ _ _)) A (de1 A (l_nil A) A (de1 A (l_field fd47_1 A) A (de1 A (l_load ty43 A A (set_at h21092) A A) A ?_))))))))
            refine de1 A (l_move (.v _)) A ?_
            obtain ⟨x21095, h21096, hF⟩ := bindE hF
            refine de1 A (l_index s21086.2.toNat sl43 A A (atI_z h21096) (lt_at MOp.ct (atI_at h21096))) A (de1 A (l_loadA ty49 A A (set_at h21094) A A) A (de1 A (l_move (.ro _)) A ?_))
            obtain ⟨y21097, h21098, hF⟩ := bindE hF
            refine deC1 A (l_call (B := true) (FnI.mk' (by kernel_rfl)) (.cons (.ag _) (.ag (.cons (.v _) (.cons (.v _) (.cons (.v _) (.cons (.v _) (.cons (.v _) (.cons (.v _) (.cons (.rf A A A (clm k_iC _)) (.cons (.v _) .nil))))))))) (.cons (.ro _) (.one (.ro _)) .nil)) (p_kind_Renamed_ac h21098) (okT p_kind_Renamed_ok)) A ?_
            refine de1 A (l_index s21086.2.toNat sl43 A A (atI_z h21096) (lt_at MOp.ct (atI_at h21096))) A (deS A (l_storeR ty49 A (.ag _) A (set_at h21094) A (Nat.le_of_ble_eq_true A) A (List.set_set ..)) A (ddE (q_in (q_seq (w_region (by rfl) (dv1 (l_bin A A (b_add A)) (dv1 (l_move (.v _)) (dvE ?_))))))))
            cases hF
            refine qL A ?_
            refine St.le.trans (le_closeR 257 s21086.2.toNat A (set_at h21094) (.cons (.of (.v _)) (.cons (.of (.v _)) (.cons (.of (.v _)) (.cons (.of (.v _)) (.cons (.of (.v _)) (.cons (.of (.v _)) (.cons (.of (.rf A A (clm k_iC _))) (.cons (.of (.v _)) .nil)))))))) (by decide) (by decide) A (set_cl MOp.ct _ _ _ y21097)) ?_
            refine St.le.trans (le_closeR 1 s18073.2.toNat A (set_at h21092) (.cons (.of (.rf A A (clm k_iC _))) (.cons (.of (.rf A (by simp) (clm k_MOpct _))) (.cons (.of (.v _)) (.cons (.of (.v _)) (.cons (.of (.v _)) (.cons (.of (.v _)) (.cons (.of (.rf A A (clm k_iC _))) (.cons (.of (.rf A A (clm k_iC _))) .nil)))))))) (by decide) (by decide) A (set_cl MBlk.ct _ _ _ (⟨x21091.Params, (x21091.Ops.set s21086.2.toNat y21097), x21091.End⟩ : MBlk))) ?_
            exact (le_of [(0, some 0), (1, some 1), (2, some 2)] A (.s (.s (.s (.s (.s (.s (.s (.s (.s .nil A) A) A) A) A) A) A) A) A) (.box A A (.cons (.v A) (.cons (.rf A (by simp)) .nil)) (.row A A A (clm k_MBlkct _) (.box A A (.s A) .nil))))
          · refine w_condF A b21090 ?_
            refine w_exit ?_
            cases hF
            cases hx21088 _ rfl
            refine q_exS (q_exS (q_here (q_join ?_)))
            exact (le_of [(0, some 0), (1, some 1), (2, some 2)] A (.s (.s (.s (.s (.s (.s (.s .nil A) A) A) A) A) A) A) (.box A A (.s A) (.row A A A (clm k_MBlkct _) (.box A A (.s A) .nil))))
        replace hF := hG18085
        obtain ⟨x21099, h21100, hF⟩ := bindE hF
        refine W.le (le_open 1 s18073.2.toNat A (map_at h21100) A) ?_
        refine w_draw [[], [], [], [2], [2, 3], [2, 3, 4], [], [6], [], [1, 2, 3, 4, 5, 6, 7, 8], [0, 1, 2, 3, 4, 5, 6, 7, 8, 9], [0, 1, 2, 3, 4, 5, 6, 7, 8, 9, 10], [0, 1, 2, 3, 4, 5, 6, 7, 8, 9, 10, 11]] [0, 1, 2, 3, 4, 5, 6, 8, 7, 9, 10, 11, 12] (by kernel_rfl) (by rfl) ⟨by decide, by rfl⟩ (by rfl) ?_
        refine de1 A (l_move (.ad _ _ _ _)) A (de1 A (l_loadA ty33 A A A A A) A (de1 A (l_move (.ad _ _ _ _)) A (de1 A (l_nil A) A (de1 A (l_field fd47_2 A) A (de1 A (l_loadA ty45 A A (set_at h21100) A A) A (de1 A (l_move (.ro _)) A (de1 A (l_move (.fn _ _ _)) A ?_)))))))
        obtain ⟨y21101, h21102, hF⟩ := bindE hF
        refine deC1 A (l_call (B := false) (FnI.mk' (by kernel_rfl)) (.cons (.ro _) (.one (.ro _)) .nil) (p_tidy_named_ac h21102) (okF p_tidy_named_ok)) A ?_
        obtain ⟨y21103, h21104, hF⟩ := bindE hF
        refine deK A (l_callS [(1, some 70), (2, some 71)] [(0, some 1), (1, some 70), (2, some 71)] (by rfl) (by rfl) (by rfl) (by rfl) (by rfl) (FnI.mk' (by kernel_rfl)) (.ag (.ag _) (.cons (.v A) (.cons (.rf A A) .nil)) (.ag (.ag _) (.cons (.v A) (.cons (.v A) (.cons (.v A) (.cons (.v A) (.cons (.rf A A) (.cons (.rf A A) .nil)))))) (.cons (.fn _ _ _) (.fn A (capB_ok A)) (.cons (.fn _ _ _) (.fn A (capB_ok A)) .nil)))) (.row A A A (clm k_iC _) (.row A A A (clm k_iC _) .nil)) (p_tidy_end_t3_sc h21104) (okS (p_tidy_end_t3_sok (r := y21103)))) A ?_
        refine de1 A (l_nil A) A (de1 A (l_field fd47_2 A) A (deS A (l_storeR ty45 A (.ag _) A (set_at h21100) A (Nat.le_of_ble_eq_true A) A (List.set_set ..)) A (ddE ?_)))
        cases hF
        refine q_in (q_join ?_)
        refine St.le.trans (le_closeR 1 s18073.2.toNat A (set_at h21100) (.cons (.of (.rf A A (clm k_iC _))) (.cons (.of (.rf A A (clm k_MOpct _))) (.cons (.of (.v _)) (.cons (.of (.v _)) (.cons (.of (.v _)) (.cons (.of (.v _)) (.cons (.of (.rf A A (clm k_iC _))) (.cons (.of (.rf A A (clm k_iC _))) .nil)))))))) (by decide) (by decide) A (set_cl MBlk.ct _ _ _ (⟨x21099.Params, x21099.Ops, y21103⟩ : MBlk))) ?_
        exact (le_of [(0, some 0), (1, some 1), (2, some 2)] A (.s (.s (.s (.s (.s (.s .nil A) A) A) A) A) A) (.box A A (.cons (.v A) (.cons (.rf A (by simp)) .nil)) (.row A A A (clm k_MBlkct _) (.box A A (.s A) .nil))))
      replace hF := hG18080
      refine w_region (by rfl) (dv1 (l_bin A A (b_add A)) (dv1 (l_move (.v _)) (dvE ?_)))
      cases hF
      refine qL A ?_
      exact (le_of [(0, some 0), (1, some 1), (2, some 2)] A (.s (.s (.s (.s (.s (.s .nil A) A) A) A) A) A) (.box A A (.s A) (.row A A A (clm k_MBlkct _) (.box A A (.s A) .nil))))
    · refine w_condF A b18077 ?_
      refine w_exit ?_
      cases hF
      cases hx18075 _ rfl
      refine q_exS (q_exS (q_here (q_join ?_)))
      exact (le_of [(0, some 0), (1, some 1), (2, some 2)] A (.s (.s .nil A) A) (.box A A (.s A) (.row A A A (clm k_MBlkct _) (.box A A (.s A) .nil))))
  replace hF := hG14072
  refine w_seq (w_region (by rfl) (dv1 (l_loadA ty33 A A A A A) (dvS (l_store ty33 A (.ag _) A A A (Nat.le_of_ble_eq_true A) A) (dvE (q_seq (w_ret ?_))))))
  cases hF
  refine q_end (.inr A) ?_
  exact ret_ok A (.cons (.cellA ty33 A A A (.cons (.of (.v _)) (.cons (.of (.rf A A (clm k_MBlkct _))) .nil))) .nil) (by decide) A

def p_tidy_blocks_t1 (a0_0 : Int) (a0_1 : List MBlk) (a1 : List Int) : Option (MFun × (List Int)) :=
(ck (8 * a0_1.length ≤ 140737488355328)
(((p_code_Values (⟨a0_0, a0_1⟩ : MFun)).bind fun y2 =>
((natI y2).bind fun m4 =>
(ck (8 * m4 ≤ 140737488355328)
((((loop (fun (s4010 : (List Int) × Int) =>
(bif decide (s4010.2 < (((List.replicate m4 (0 : Int)).length : Nat) : Int)) then
((atI s4010.1 s4010.2).bind fun x4015 =>
some (Xt.go ((s4010.1.set s4010.2.toNat (-1)), IntKind.i64.wrap (s4010.2 + 1))))
else
some (Xt.out s4010.1))) Fu ((List.replicate m4 (0 : Int)), 0))).bind fun (s8 : (List Int)) =>
(((loop (fun (s8020 : (List Int) × Int) =>
(bif decide (s8020.2 < (((List.replicate a0_1.length (0 : Int)).length : Nat) : Int)) then
((atI s8020.1 s8020.2).bind fun x8025 =>
some (Xt.go ((s8020.1.set s8020.2.toNat (-1)), IntKind.i64.wrap (s8020.2 + 1))))
else
some (Xt.out s8020.1))) Fu ((List.replicate a0_1.length (0 : Int)), 0))).bind fun (s4018 : (List Int)) =>
(((loop (fun (s11032 : (List Int) × (List Int) × (List Int) × Int × Nat) =>
(bif decide (s11032.2.2.2.2 < a1.length) then
((((a1[s11032.2.2.2.2]?).bind fun x11044 =>
(((bif decide (x11044 < 0) then
some true
else
(bif decide (((s11032.2.1.length : Nat) : Int) ≤ x11044) then
some true
else
((atI s11032.2.1 x11044).bind fun x11051 =>
some (decide ((0 : Int) ≤ x11051)))))).bind fun (s11047 : Bool) =>
(bif s11047 then
some (s11032.1, s11032.2.1, s11032.2.2.1, s11032.2.2.2.1)
else
((atI s11032.2.1 x11044).bind fun x11054 =>
(ck ((s11032.2.2.1.length + 1) * 8 ≤ 140737488355328)
(((p_code_First (⟨a0_0, a0_1⟩ : MFun) x11044).bind fun y11057 =>
(loop (fun (s14059 : (List Int) × Int × Int) =>
((p_code_First (⟨a0_0, a0_1⟩ : MFun) (IntKind.i64.wrap (x11044 + 1))).bind fun y14063 =>
(bif decide (s14059.2.2 < y14063) then
((atI s14059.1 s14059.2.2).bind fun x14066 =>
some (Xt.go ((s14059.1.set s14059.2.2.toNat s14059.2.1), IntKind.i64.wrap (s14059.2.1 + 1), IntKind.i64.wrap (s14059.2.2 + 1))))
else
some (Xt.out (s14059.1, (s11032.2.1.set x11044.toNat ((s11032.2.2.1.length : Nat) : Int)), (s11032.2.2.1 ++ [x11044]), s14059.2.1))))) Fu (s11032.1, s11032.2.2.2.1, y11057)))))))))).bind fun (s11042 : (List Int) × (List Int) × (List Int) × Int) =>
some (Xt.go (s11042.1, s11042.2.1, s11042.2.2.1, s11042.2.2.2, (s11032.2.2.2.2 + 1))))
else
some (Xt.out (s11032.1, s11032.2.1, s11032.2.2.1)))) Fu (s8, s4018, [], 0, 0))).bind fun (s8030 : (List Int) × (List Int) × (List Int)) =>
((p_tidy_renamed_s3 (⟨a0_0, a0_1⟩ : MFun) s8030.1 s8030.2.1).bind fun y14068 =>
(((loop (fun (s17073 : (List MBlk) × Nat) =>
(bif decide (s17073.2 < s8030.2.2.length) then
((s8030.2.2[s17073.2]?).bind fun x17079 =>
((atI y14068.Blocks x17079).bind fun x17081 =>
(ck ((s17073.1.length + 1) * 128 ≤ 140737488355328)
(some (Xt.go ((s17073.1 ++ [x17081]), (s17073.2 + 1)))))))
else
some (Xt.out s17073.1))) Fu ([], 0))).bind fun (s14071 : (List MBlk)) =>
some ((⟨a0_0, s14071⟩ : MFun), a1))))))))))))

theorem p_tidy_blocks_t1_sok {r : MFun × (List Int)} : rOk (.ag [.v (.int .i64 r.1.Ret), .ro (.sl 47 8 (r.1.Blocks.map MBlk.ct))]) = true ∧ True := ⟨rfl, trivial⟩

set_option maxRecDepth 10000 in
set_option maxHeartbeats 4000000 in
theorem p_tidy_blocks_t1_sc {a0_0 : Int} {a0_1 : List MBlk} {a1 : List Int} {r : MFun × (List Int)} (hF : p_tidy_blocks_t1 a0_0 a0_1 a1 = some r) : SC Tryd.prog GT 39 [.ag [.v (.int .i64 a0_0), .ro (.sl 47 8 (a0_1.map MBlk.ct))], .rf 0 0 ((a1.map iC).length) 1] [(0, some ⟨3, 1, a1.map iC⟩)] (fun c gb => c = .ag [.v (.int .i64 r.1.Ret), .ro (.sl 47 8 (r.1.Blocks.map MBlk.ct))] ∧ gb = [(0, some ⟨3, 1, r.2.map iC⟩)]) := by
  unfold p_tidy_blocks_t1 at hF
  refine SC.mk (nt := 118) [0] Tryd.func39 A A A A fun w M N g => ?_
  refine w_seq (w_region (by rfl) (dvN (l_box (.ag _) A A) (dvN (l_alloc zt33) (dvE (q_seq (w_seq (w_draw [[], [0], [0, 1], [], [3], [3, 4], [3, 4, 5], [], [0, 1, 2, 7], [0, 1, 2, 3, 4, 5, 6, 7, 8]] [0, 3, 4, 5, 6, 7, 1, 2, 8, 9] (by kernel_rfl) (by rfl) ⟨by decide, by rfl⟩ (by rfl) ?_)))))))
  refine de1 A (l_loadA ty33 A A A A A) A (de1 A (l_field fd33_1 A) A (de1 A (l_load ty31 A A A A A) A (de1 A (l_lenRo sl31 A A (List.length_map _)) A ?_)))
  obtain ⟨c1, hF⟩ := ckE hF
  refine deN A (l_makeR (iC (0 : Int)) a0_1.length sl29 by3 zt3 A A A A A c1 (by decide) A (by intro j c z h1 h2 w N bs; rcases j with _ | j <;> simp at h1 h2 <;> (subst h1; subst h2; first | exact .v _ | exact .nil)) (rep_map iC _ _)) A (deN A (l_alloc zt29) A ?_)
  obtain ⟨y2, h3, hF⟩ := bindE hF
  refine deC1 A (l_call (B := false) (FnI.mk' (by kernel_rfl)) (.cons (.ag _) (.ag (.cons (.v _) (.cons (.ro _) .nil))) .nil) (p_code_Values_ac h3) (okF p_code_Values_ok)) A ?_
  obtain ⟨m4, h5, hF⟩ := bindE hF
  obtain ⟨c6, hF⟩ := ckE hF
  refine deN A (l_makeR (iC (0 : Int)) m4 sl29 by3 zt3 A A A (natI_z h5) (natI_z h5) c6 (by decide) A (by intro j c z h1 h2 w N bs; rcases j with _ | j <;> simp at h1 h2 <;> (subst h1; subst h2; first | exact .v _ | exact .nil)) (rep_map iC _ _)) A (de1 A (l_assign (.rf _ _ _ _)) A (deS A (l_store ty29 A (.rf _ _ _ _) A A A (Nat.le_of_ble_eq_true A) A) A (ddE (q_seq ?_))))
  obtain ⟨s8, hF, hG9⟩ := bindE hF
  refine w_seqJ ⟨[(1, .rf 0 0 ((a1.map iC).length) 1), (2, .ad 2 2 0 0), (4, .ad 3 2 0 0), (5, .rf 4 0 ((s8.map iC).length) 1), (6, .ad 5 1 0 0)], [(0, some ⟨3, 1, a1.map iC⟩), (2, some ⟨33, 2, [[.v (.int .i64 a0_0), .ro (.sl 47 8 (a0_1.map MBlk.ct))]]⟩), (3, some ⟨33, 2, [[.v (.int .i64 0), .v (.slice none 0 0)]]⟩), (4, some ⟨3, 1, s8.map iC⟩), (5, some ⟨29, 1, [[.rf 6 0 (((List.replicate a0_1.length (0 : Int)).map iC).length) 1]]⟩), (6, some ⟨3, 1, (List.replicate a0_1.length (0 : Int)).map iC⟩)], 1⟩ ?_ ?_
  · refine w_seq (w_region (by rfl) (dv1 (l_move (.rf _ _ _ _)) (dv1 (l_lenR sl29 A A (List.length_map _)) (dv1 (l_move (.v _)) (dvE (q_seq (w_block (w_loopF hF (fun (s4010 : (List Int) × Int) => ⟨[(1, .rf 0 0 ((a1.map iC).length) 1), (2, .ad 2 2 0 0), (4, .ad 3 2 0 0), (5, .rf 4 0 ((s4010.1.map iC).length) 1), (6, .ad 5 1 0 0), (27, .v (.int .i64 (((List.replicate m4 (0 : Int)).length : Nat) : Int))), (28, .v (.int .i64 s4010.2))], [(0, some ⟨3, 1, a1.map iC⟩), (2, some ⟨33, 2, [[.v (.int .i64 a0_0), .ro (.sl 47 8 (a0_1.map MBlk.ct))]]⟩), (3, some ⟨33, 2, [[.v (.int .i64 0), .v (.slice none 0 0)]]⟩), (4, some ⟨3, 1, s4010.1.map iC⟩), (5, some ⟨29, 1, [[.rf 6 0 (((List.replicate a0_1.length (0 : Int)).map iC).length) 1]]⟩), (6, some ⟨3, 1, (List.replicate a0_1.length (0 : Int)).map iC⟩)], 1⟩) (le_of [(0, some 0), (2, some 64), (3, some 128), (4, some 640), (5, some 512), (6, some 448)] A (.s (.s (.s (.s (.s (.s (.s .nil A) A) A) A) A) A) A) (.row A A A (clm k_iC _) (.box A A (.s A) (.box A A (.s A) (.row A A A (clm k_iC _) (.box A A (.s A) (.row A A A (clm k_iC _) .nil))))))) ?_))))))))
    intro s4010 y4011 hF hx4012
    refine w_seq (w_region (by rfl) (dv1 (l_bin A A b_lss) (dvE (q_seq (w_seq ?_)))))
    rcases condE hF with ⟨b4014, hF⟩ | ⟨b4014, hF⟩
    · refine w_condT A b4014 ?_
      refine w_skip (q_seq (w_seq (w_block (w_seq (w_region (by rfl) (dv1 (l_move (.v _)) (dv1 (l_assign (.v _)) (dvE ?_))))))))
      refine q_seq (w_region (by rfl) (dv1 (l_move (.rf _ _ _ _)) (dv1 (l_move (.v _)) ?_)))
      obtain ⟨x4015, h4016, hF⟩ := bindE hF
      refine dv1 (l_index s4010.2.toNat sl29 A A (atI_z h4016) (lt_at iC (atI_at h4016))) (dvS (l_storeR ty3 A (.v _) A (map_at (atI_at h4016)) A (Nat.le_of_ble_eq_true A) A (map_set' iC s4010.1 s4010.2.toNat (-1))) (dvE (q_in (q_seq (w_region (by rfl) (dv1 (l_bin A A (b_add A)) (dv1 (l_move (.v _)) (dvE ?_))))))))
      cases hF
      refine qL A ?_
      exact (le_of [(0, some 0), (2, some 2), (3, some 3), (4, some 4), (5, some 5), (6, some 6)] A (.s (.s (.s (.cons (.rf _ _ _ _) (.rf A (by simp)) (.s (.s (.s .nil A) A) A)) A) A) A) (.row A A A (clm k_iC _) (.box A A (.s A) (.box A A (.s A) (.row A A A (clm k_iC _) (.box A A (.s A) (.row A A A (clm k_iC _) .nil)))))))
    · refine w_condF A b4014 ?_
      refine w_exit ?_
      cases hF
      cases hx4012 _ rfl
      refine q_exS (q_exS (q_here (q_join ?_)))
      exact (le_of [(0, some 0), (2, some 2), (3, some 3), (4, some 4), (5, some 5), (6, some 6)] A (.s (.s (.s (.s (.s .nil A) A) A) A) A) (.row A A A (clm k_iC _) (.box A A (.s A) (.box A A (.s A) (.row A A A (clm k_iC _) (.box A A (.s A) (.row A A A (clm k_iC _) .nil)))))))
  replace hF := hG9
  obtain ⟨s4018, hF, hG4019⟩ := bindE hF
  refine w_seqJ ⟨[(1, .rf 0 0 ((a1.map iC).length) 1), (2, .ad 2 2 0 0), (4, .ad 3 2 0 0), (5, .rf 4 0 ((s8.map iC).length) 1), (6, .ad 5 1 0 0)], [(0, some ⟨3, 1, a1.map iC⟩), (2, some ⟨33, 2, [[.v (.int .i64 a0_0), .ro (.sl 47 8 (a0_1.map MBlk.ct))]]⟩), (3, some ⟨33, 2, [[.v (.int .i64 0), .v (.slice none 0 0)]]⟩), (4, some ⟨3, 1, s8.map iC⟩), (5, some ⟨29, 1, [[.rf 6 0 ((s4018.map iC).length) 1]]⟩), (6, some ⟨3, 1, s4018.map iC⟩)], 1⟩ ?_ ?_
  · refine w_seq (w_region (by rfl) (dv1 (l_load ty29 A A A A A) (dv1 (l_lenR sl29 A A (List.length_map _)) (dv1 (l_move (.v _)) (dvE (q_seq (w_block (w_loopF hF (fun (s8020 : (List Int) × Int) => ⟨[(1, .rf 0 0 ((a1.map iC).length) 1), (2, .ad 2 2 0 0), (4, .ad 3 2 0 0), (5, .rf 4 0 ((s8.map iC).length) 1), (6, .ad 5 1 0 0), (36, .v (.int .i64 (((List.replicate a0_1.length (0 : Int)).length : Nat) : Int))), (37, .v (.int .i64 s8020.2))], [(0, some ⟨3, 1, a1.map iC⟩), (2, some ⟨33, 2, [[.v (.int .i64 a0_0), .ro (.sl 47 8 (a0_1.map MBlk.ct))]]⟩), (3, some ⟨33, 2, [[.v (.int .i64 0), .v (.slice none 0 0)]]⟩), (4, some ⟨3, 1, s8.map iC⟩), (5, some ⟨29, 1, [[.rf 6 0 ((s8020.1.map iC).length) 1]]⟩), (6, some ⟨3, 1, s8020.1.map iC⟩)], 1⟩) (le_of [(0, some 0), (2, some 2), (3, some 3), (4, some 4), (5, some 5), (6, some 6)] A (.s (.s (.s (.s (.s (.s (.s .nil A) A) A) A) A) A) A) (.row A A A (clm k_iC _) (.box A A (.s A) (.box A A (.s A) (.row A A A (clm k_iC _) (.box A A (.s A) (.row A A A (clm k_iC _) .nil))))))) ?_))))))))
    intro s8020 y8021 hF hx8022
    refine w_seq (w_region (by rfl) (dv1 (l_bin A A b_lss) (dvE (q_seq (w_seq ?_)))))
    rcases condE hF with ⟨b8024, hF⟩ | ⟨b8024, hF⟩
    · refine w_condT A b8024 ?_
      refine w_skip (q_seq (w_seq (w_block (w_seq (w_region (by rfl) (dv1 (l_move (.v _)) (dv1 (l_assign (.v _)) (dvE ?_))))))))
      refine q_seq (w_region (by rfl) (dv1 (l_load ty29 A A A A A) (dv1 (l_move (.v _)) ?_)))
      obtain ⟨x8025, h8026, hF⟩ := bindE hF
      refine dv1 (l_index s8020.2.toNat sl29 A A (atI_z h8026) (lt_at iC (atI_at h8026))) (dvS (l_storeR ty3 A (.v _) A (map_at (atI_at h8026)) A (Nat.le_of_ble_eq_true A) A (map_set' iC s8020.1 s8020.2.toNat (-1))) (dvE (q_in (q_seq (w_region (by rfl) (dv1 (l_bin A A (b_add A)) (dv1 (l_move (.v _)) (dvE ?_))))))))
      cases hF
      refine qL A ?_
      exact (le_of [(0, some 0), (2, some 2), (3, some 3), (4, some 4), (5, some 5), (6, some 6)] A (.s (.s (.s (.s (.s (.s (.s .nil A) A) A) A) A) A) A) (.row A A A (clm k_iC _) (.box A A (.s A) (.box A A (.s A) (.row A A A (clm k_iC _) (.box A A (.cons (.rf A (by simp)) .nil) (.row A A A (clm k_iC _) .nil)))))))
    · refine w_condF A b8024 ?_
      refine w_exit ?_
      cases hF
      cases hx8022 _ rfl
      refine q_exS (q_exS (q_here (q_join ?_)))
      exact (le_of [(0, some 0), (2, some 2), (3, some 3), (4, some 4), (5, some 5), (6, some 6)] A (.s (.s (.s (.s (.s .nil A) A) A) A) A) (.row A A A (clm k_iC _) (.box A A (.s A) (.box A A (.s A) (.row A A A (clm k_iC _) (.box A A (.s A) (.row A A A (clm k_iC _) .nil)))))))
  replace hF := hG4019
  refine w_seq (w_region (by rfl) (dv1 (l_assign (.v _)) (dvE (q_seq (w_seq (w_region (by rfl) (dv1 (l_assign (.v _)) (dvE ?_))))))))
  refine q_seq ?_
  obtain ⟨s8030, hF, hG8031⟩ := bindE hF
  refine w_seqJ ⟨[(2, .ad 2 2 0 0), (4, .ad 3 2 0 0), (5, .rf 4 0 ((s8030.1.map iC).length) 1), (6, .ad 5 1 0 0), (9, .rf 7 0 ((s8030.2.2.map iC).length) 1)], [(0, some ⟨3, 1, a1.map iC⟩), (2, some ⟨33, 2, [[.v (.int .i64 a0_0), .ro (.sl 47 8 (a0_1.map MBlk.ct))]]⟩), (3, some ⟨33, 2, [[.v (.int .i64 0), .v (.slice none 0 0)]]⟩), (4, some ⟨3, 1, s8030.1.map iC⟩), (5, some ⟨29, 1, [[.rf 6 0 ((s8030.2.1.map iC).length) 1]]⟩), (6, some ⟨3, 1, s8030.2.1.map iC⟩), (7, some ⟨3, 1, s8030.2.2.map iC⟩)], 1⟩ ?_ ?_
  · refine w_seq (w_region (by rfl) (dv1 (l_move (.rf _ _ _ _)) (dv1 (l_lenR sl29 A A (List.length_map _)) (dv1 (l_move (.v _)) (dvE (q_seq (w_block (w_loopF hF (fun (s11032 : (List Int) × (List Int) × (List Int) × Int × Nat) => ⟨[(2, .ad 2 2 0 0), (4, .ad 3 2 0 0), (5, .rf 4 0 ((s11032.1.map iC).length) 1), (6, .ad 5 1 0 0), (9, .rf 7 0 ((s11032.2.2.1.map iC).length) 1), (10, .v (.int .i64 s11032.2.2.2.1)), (44, .rf 0 0 ((a1.map iC).length) 1), (45, .v (.int .i64 ((a1.length : Nat) : Int))), (46, .v (.int .i64 ((s11032.2.2.2.2 : Nat) : Int)))], [(0, some ⟨3, 1, a1.map iC⟩), (2, some ⟨33, 2, [[.v (.int .i64 a0_0), .ro (.sl 47 8 (a0_1.map MBlk.ct))]]⟩), (3, some ⟨33, 2, [[.v (.int .i64 0), .v (.slice none 0 0)]]⟩), (4, some ⟨3, 1, s11032.1.map iC⟩), (5, some ⟨29, 1, [[.rf 6 0 ((s11032.2.1.map iC).length) 1]]⟩), (6, some ⟨3, 1, s11032.2.1.map iC⟩), (7, some ⟨3, 1, s11032.2.2.1.map iC⟩)], 1⟩) (le_of [(0, some 0), (2, some 2), (3, some 3), (4, some 4), (5, some 5), (6, some 6), (7, none)] A (.s (.s (.s (.s (.cons (.v _) (.nil ⟨by simp, A⟩) (.s (.s (.s (.s .nil A) A) A) A)) A) A) A) A) (.row A A A (clm k_iC _) (.box A A (.s A) (.box A A (.s A) (.row A A A (clm k_iC _) (.box A A (.s A) (.row A A A (clm k_iC _) (.new ⟨by simp, A⟩ .nil)))))))) ?_))))))))
    intro s11032 y11033 hF hx11034
    refine w_seq (w_region (by rfl) (dv1 (l_bin A A b_lssN) (dvE (q_seq (w_seq ?_)))))
    rcases condE hF with ⟨b11036, hF⟩ | ⟨b11036, hF⟩
    · refine w_lenK 0 A fun l11037 => ?_
      refine w_condT A b11036 ?_
      refine w_skip (q_seq ?_)
      obtain ⟨s11042, hF, hG11043⟩ := bindE hF
      refine w_seqJ ⟨[(2, .ad 2 2 0 0), (4, .ad 3 2 0 0), (5, .rf 4 0 ((s11042.1.map iC).length) 1), (6, .ad 5 1 0 0), (9, .rf 7 0 ((s11042.2.2.1.map iC).length) 1), (10, .v (.int .i64 s11042.2.2.2)), (44, .rf 0 0 ((a1.map iC).length) 1), (45, .v (.int .i64 ((a1.length : Nat) : Int))), (46, .v (.int .i64 ((s11032.2.2.2.2 : Nat) : Int)))], [(0, some ⟨3, 1, a1.map iC⟩), (2, some ⟨33, 2, [[.v (.int .i64 a0_0), .ro (.sl 47 8 (a0_1.map MBlk.ct))]]⟩), (3, some ⟨33, 2, [[.v (.int .i64 0), .v (.slice none 0 0)]]⟩), (4, some ⟨3, 1, s11042.1.map iC⟩), (5, some ⟨29, 1, [[.rf 6 0 ((s11042.2.1.map iC).length) 1]]⟩), (6, some ⟨3, 1, s11042.2.1.map iC⟩), (7, some ⟨3, 1, s11042.2.2.1.map iC⟩)], 1⟩ ?_ ?_
      · refine w_block (w_seq (w_region (by rfl) ?_))
        obtain ⟨x11044, h11045, hF⟩ := bindE hF
        refine dv1 (l_index s11032.2.2.2.2 sl29 A A A (lt_at iC h11045)) (dv1 (l_load ty3 A A (map_at h11045) A A) (dv1 (l_assign (.v _)) (dvE (q_seq (w_seq ?_)))))
        obtain ⟨s11047, hF, hG11048⟩ := bindE hF
        refine w_seqJ ⟨[(2, .ad 2 2 0 0), (4, .ad 3 2 0 0), (5, .rf 4 0 ((s11032.1.map iC).length) 1), (6, .ad 5 1 0 0), (9, .rf 7 0 ((s11032.2.2.1.map iC).length) 1), (10, .v (.int .i64 s11032.2.2.2.1)), (12, .v (.int .i64 x11044)), (44, .rf 0 0 ((a1.map iC).length) 1), (45, .v (.int .i64 ((a1.length : Nat) : Int))), (46, .v (.int .i64 ((s11032.2.2.2.2 : Nat) : Int))), (64, .v (.bool s11047))], [(0, some ⟨3, 1, a1.map iC⟩), (2, some ⟨33, 2, [[.v (.int .i64 a0_0), .ro (.sl 47 8 (a0_1.map MBlk.ct))]]⟩), (3, some ⟨33, 2, [[.v (.int .i64 0), .v (.slice none 0 0)]]⟩), (4, some ⟨3, 1, s11032.1.map iC⟩), (5, some ⟨29, 1, [[.rf 6 0 ((s11032.2.1.map iC).length) 1]]⟩), (6, some ⟨3, 1, s11032.2.1.map iC⟩), (7, some ⟨3, 1, s11032.2.2.1.map iC⟩)], 1⟩ ?_ ?_
        · refine w_region (by rfl) (dv1 (l_move (.v _)) (dv1 (l_bin A A b_lss) (dv1 (l_move (.v _)) ?_)))
          rcases condE hF with ⟨b11049, hF⟩ | ⟨b11049, hF⟩
          · refine dv1 (l_gF A A (gt A b11049) A) (dv1 (l_gF A A (gt A b11049) A) (dv1 (l_gF A A (gt A b11049) A) (dv1 (l_gF A A (gt A b11049) A) (dv1 (l_pickT (gt A b11049) (.v _)) (dv1 (l_move (.v _)) (dv1 (l_gF A A A A) (dv1 (l_gF A A A A) (dv1 (l_gF A A A A) ?_))))))))
            refine dv1 (l_gF A A A A) (dv1 (l_gF A A A A) (dv1 (l_pickT A (.v _)) (dvE ?_)))
            cases hF
            refine q_join ?_
            exact (le_of [(0, some 0), (2, some 2), (3, some 3), (4, some 4), (5, some 5), (6, some 6), (7, some 7)] A (.s (.s (.s (.s (.s (.s (.s (.s (.s (.s (.s .nil A) A) A) A) A) A) A) A) A) A) A) (.row A A A (clm k_iC _) (.box A A (.s A) (.box A A (.s A) (.row A A A (clm k_iC _) (.box A A (.s A) (.row A A A (clm k_iC _) (.row A A A (clm k_iC _) .nil))))))))
          · refine dv1 (l_gT A A (gt A b11049) fun _ => l_move (.v _)) (dv1 (l_gT A A (gt A b11049) fun _ => l_load ty29 A A A A A) (dv1 (l_gT A A (gt A b11049) fun _ => l_lenR sl29 A A (List.length_map _)) (dv1 (l_gT A A (gt A b11049) fun _ => l_bin A A b_geq) (dv1 (l_pickF (gt A b11049) (.v _)) (dv1 (l_move (.v _)) ?_)))))
            rcases condE hF with ⟨b11050, hF⟩ | ⟨b11050, hF⟩
            · refine dv1 (l_gF A A (gt A b11050) A) (dv1 (l_gF A A (gt A b11050) A) (dv1 (l_gF A A (gt A b11050) A) (dv1 (l_gF A A (gt A b11050) A) (dv1 (l_gF A A (gt A b11050) A) (dv1 (l_pickT (gt A b11050) (.v _)) (dvE ?_))))))
              cases hF
              refine q_join ?_
              exact (le_of [(0, some 0), (2, some 2), (3, some 3), (4, some 4), (5, some 5), (6, some 6), (7, some 7)] A (.s (.s (.s (.s (.s (.s (.s (.s (.s (.s (.s .nil A) A) A) A) A) A) A) A) A) A) A) (.row A A A (clm k_iC _) (.box A A (.s A) (.box A A (.s A) (.row A A A (clm k_iC _) (.box A A (.s A) (.row A A A (clm k_iC _) (.row A A A (clm k_iC _) .nil))))))))
            · refine dv1 (l_gT A A (gt A b11050) fun _ => l_load ty29 A A A A A) (dv1 (l_gT A A (gt A b11050) fun _ => l_move (.v _)) ?_)
              obtain ⟨x11051, h11052, hF⟩ := bindE hF
              refine dv1 (l_gT A A (gt A b11050) fun _ => l_index x11044.toNat sl29 A A (atI_z h11052) (lt_at iC (atI_at h11052))) (dv1 (l_gT A A (gt A b11050) fun _ => l_load ty3 A A (map_at (atI_at h11052)) A A) (dv1 (l_gT A A (gt A b11050) fun _ => l_bin A A b_geq) (dv1 (l_pickF (gt A b11050) (.v _)) (dvE ?_))))
              cases hF
              refine q_join ?_
              exact (le_of [(0, some 0), (2, some 2), (3, some 3), (4, some 4), (5, some 5), (6, some 6), (7, some 7)] A (.s (.s (.s (.s (.s (.s (.s (.s (.s (.s (.s .nil A) A) A) A) A) A) A) A) A) A) A) (.row A A A (clm k_iC _) (.box A A (.s A) (.box A A (.s A) (.row A A A (clm k_iC _) (.box A A (.s A) (.row A A A (clm k_iC _) (.row A A A (clm k_iC _) .nil))))))))
        replace hF := hG11048
        rcases condE hF with ⟨b11053, hF⟩ | ⟨b11053, hF⟩
        · refine w_condT A b11053 ?_
          refine w_exit ?_
          cases hF
          refine q_exS (q_here (q_join ?_))
          exact (le_of [(0, some 0), (2, some 2), (3, some 3), (4, some 4), (5, some 5), (6, some 6), (7, some 7)] A (.s (.s (.s (.s (.s (.s (.s (.s (.s .nil A) A) A) A) A) A) A) A) A) (.row A A A (clm k_iC _) (.box A A (.s A) (.box A A (.s A) (.row A A A (clm k_iC _) (.box A A (.s A) (.row A A A (clm k_iC _) (.row A A A (clm k_iC _) .nil))))))))
        · refine w_condF A b11053 ?_
          refine w_skip (q_seq (w_seq (w_region (by rfl) (dv1 (l_load ty29 A A A A A) (dv1 (l_move (.v _)) (dv1 (l_move (.rf _ _ _ _)) (dv1 (l_lenR sl29 A A (List.length_map _)) ?_)))))))
          obtain ⟨x11054, h11055, hF⟩ := bindE hF
          refine dv1 (l_index x11044.toNat sl29 A A (atI_z h11055) (lt_at iC (atI_at h11055))) (dvS (l_storeR ty3 A (.v _) A (map_at (atI_at h11055)) A (Nat.le_of_ble_eq_true A) A (map_set' iC s11032.2.1 x11044.toNat ((s11032.2.2.1.length : Nat) : Int))) (dvE (q_seq (w_seq (w_region (by rfl) (dv1 (l_move (.rf _ _ _ _)) (dv1 (l_move (.v _)) (dvN (l_bs1 sl29 zt3 A (.v _) A A A (by decide) (by decide)) ?_))))))))
          obtain ⟨c11056, hF⟩ := ckE hF
          refine dvN3 (l_app1R el29 A A A A A A (by decide) (map_snoc iC _ x11044) (List.length_map _) (by simpa using c11056) (by decide)) ?_
          refine dv1 (l_assign (.rf _ _ _ _)) (dvE (q_seq (w_seq (w_region (by rfl) (dv1 (l_loadA ty33 A A A A A) (dv1 (l_move (.v _)) ?_))))))
          obtain ⟨y11057, h11058, hF⟩ := bindE hF
          refine dvC (l_call (B := false) (FnI.mk' (by kernel_rfl)) (.cons (.ag _) (.ag (.cons (.v _) (.cons (.ro _) .nil))) (.cons (.v _) (.one (.v _)) .nil)) (p_code_First_ac h11058) (okF p_code_First_ok)) ?_
          rintro _ rfl
          refine dv1 (l_assign (.v _)) (dvE (q_seq (w_block (w_loopF hF (fun (s14059 : (List Int) × Int × Int) => ⟨[(2, .ad 2 2 0 0), (4, .ad 3 2 0 0), (5, .rf 4 0 ((s14059.1.map iC).length) 1), (6, .ad 5 1 0 0), (9, .rf 7 0 (((s11032.2.2.1 ++ [x11044]).map iC).length) 1), (10, .v (.int .i64 s14059.2.1)), (12, .v (.int .i64 x11044)), (13, .v (.int .i64 s14059.2.2)), (44, .rf 0 0 ((a1.map iC).length) 1), (45, .v (.int .i64 ((a1.length : Nat) : Int))), (46, .v (.int .i64 ((s11032.2.2.2.2 : Nat) : Int)))], [(0, some ⟨3, 1, a1.map iC⟩), (2, some ⟨33, 2, [[.v (.int .i64 a0_0), .ro (.sl 47 8 (a0_1.map MBlk.ct))]]⟩), (3, some ⟨33, 2, [[.v (.int .i64 0), .v (.slice none 0 0)]]⟩), (4, some ⟨3, 1, s14059.1.map iC⟩), (5, some ⟨29, 1, [[.rf 6 0 (((s11032.2.1.set x11044.toNat ((s11032.2.2.1.length : Nat) : Int)).map iC).length) 1]]⟩), (6, some ⟨3, 1, (s11032.2.1.set x11044.toNat ((s11032.2.2.1.length : Nat) : Int)).map iC⟩), (7, some ⟨3, 1, (s11032.2.2.1 ++ [x11044]).map iC⟩)], 1⟩) (le_of [(0, some 0), (2, some 2), (3, some 3), (4, some 4), (5, some 5), (6, some 6), (7, some 640)] A (.s (.s (.s (.s (.cons (.rf _ _ _ _) (.rf A (by simp)) (.s (.s (.s (.s (.s (.s .nil A) A) A) A) A) A)) A) A) A) A) (.row A A A (clm k_iC _) (.box A A (.s A) (.box A A (.s A) (.row A A A (clm k_iC _) (.box A A (.cons (.rf A (by simp)) .nil) (.row A A A (clm k_iC _) (.row A A A (clm k_iC _) .nil)))))))) ?_))))
          intro s14059 y14060 hF hx14061
          refine w_seq (w_seq (w_region (by rfl) (dv1 (l_move (.v _)) (dv1 (l_loadA ty33 A A A A A) (dv1 (l_move (.v _)) (dv1 (l_bin A A (b_add A)) ?_))))))
          obtain ⟨y14063, h14064, hF⟩ := bindE hF
          refine dvC (l_call (B := false) (FnI.mk' (by kernel_rfl)) (.cons (.ag _) (.ag (.cons (.v _) (.cons (.ro _) .nil))) (.cons (.v _) (.one (.v _)) .nil)) (p_code_First_ac h14064) (okF p_code_First_ok)) ?_
          rintro _ rfl
          refine dv1 (l_bin A A b_lss) (dvE (q_seq ?_))
          rcases condE hF with ⟨b14065, hF⟩ | ⟨b14065, hF⟩
          · refine w_condT A b14065 ?_
            refine w_skip (q_seq (w_seq (w_block (w_seq (w_region (by rfl) (dv1 (l_move (.rf _ _ _ _)) (dv1 (l_move (.v _)) (dv1 (l_move (.v _)) ?_))))))))
            obtain ⟨x14066, h14067, hF⟩ := bindE hF
            refine dv1 (l_index s14059.2.2.toNat sl29 A A (atI_z h14067) (lt_at iC (atI_at h14067))) (dvS (l_storeR ty3 A (.v _) A (map_at (atI_at h14067)) A (Nat.le_of_ble_eq_true A) A (map_set' iC s14059.1 s14059.2.2.toNat s14059.2.1)) (dvE (q_seq (w_region (by rfl) (dv1 (l_move (.v _)) (dv1 (l_bin A A (b_add A)) (dv1 (l_assign (.v _)) (dvE ?_))))))))
            refine q_in (q_seq (w_region (by rfl) (dv1 (l_move (.v _)) (dv1 (l_bin A A (b_add A)) (dv1 (l_assign (.v _)) (dvE ?_))))))
            cases hF
            refine qL A ?_
            exact (le_of [(0, some 0), (2, some 2), (3, some 3), (4, some 4), (5, some 5), (6, some 6), (7, some 7)] A (.s (.s (.cons (.rf _ _ _ _) (.rf A (by simp)) (.s (.s (.s (.s (.s (.s (.s (.s .nil A) A) A) A) A) A) A) A)) A) A) (.row A A A (clm k_iC _) (.box A A (.s A) (.box A A (.s A) (.row A A A (clm k_iC _) (.box A A (.s A) (.row A A A (clm k_iC _) (.row A A A (clm k_iC _) .nil))))))))
          · refine w_condF A b14065 ?_
            refine w_exit ?_
            cases hF
            cases hx14061 _ rfl
            refine q_exS (q_exS (q_here (q_in (q_join ?_))))
            exact (le_of [(0, some 0), (2, some 2), (3, some 3), (4, some 4), (5, some 5), (6, some 6), (7, some 7)] A (.s (.s (.s (.s (.s (.s (.s (.s (.s .nil A) A) A) A) A) A) A) A) A) (.row A A A (clm k_iC _) (.box A A (.s A) (.box A A (.s A) (.row A A A (clm k_iC _) (.box A A (.s A) (.row A A A (clm k_iC _) (.row A A A (clm k_iC _) .nil))))))))
      replace hF := hG11043
      refine w_region (by rfl) (dv1 (l_bin A A (b_incN (of_decide_eq_true b11036) l11037)) (dv1 (l_move (.v _)) (dvE ?_)))
      cases hF
      refine qL A ?_
      exact (le_of [(0, some 0), (2, some 2), (3, some 3), (4, some 4), (5, some 5), (6, some 6), (7, some 7)] A (.s (.s (.s (.s (.s (.s (.s (.s (.s .nil A) A) A) A) A) A) A) A) A) (.row A A A (clm k_iC _) (.box A A (.s A) (.box A A (.s A) (.row A A A (clm k_iC _) (.box A A (.s A) (.row A A A (clm k_iC _) (.row A A A (clm k_iC _) .nil))))))))
    · refine w_condF A b11036 ?_
      refine w_exit ?_
      cases hF
      cases hx11034 _ rfl
      refine q_exS (q_exS (q_here (q_join ?_)))
      exact (le_of [(0, some 0), (2, some 2), (3, some 3), (4, some 4), (5, some 5), (6, some 6), (7, some 7)] A (.s (.s (.s (.s (.s .nil A) A) A) A) A) (.row A A A (clm k_iC _) (.box A A (.s A) (.box A A (.s A) (.row A A A (clm k_iC _) (.box A A (.s A) (.row A A A (clm k_iC _) (.row A A A (clm k_iC _) .nil))))))))
  replace hF := hG8031
  refine w_seq (w_region (by rfl) (dvG (le_close 5 0 A A (.cons (.of (.rf A A (clm k_iC _))) .nil) (by decide) (by decide) A) ?_))
  refine dvG (le_freeze 5 [(6, .ro (.rp [.sl 3 1 (s8030.2.1.map iC)] 0))] A (cl1 (.sl _ _ (clm k_iC _)) (cl0 (b := true))) (List.forall_mem_cons.2 ⟨⟨0, A, A⟩, (fun _ h => nomatch h)⟩)) ?_
  refine dv1 (l_fnE (f := 55) (.cons (.ro _) .nil)) (dv1 (l_assign (.fn _ _ _)) (dvE (q_seq (w_seq (w_region (by rfl) (dv1 (l_loadA ty33 A A A A A) (dv1 (l_move (.rf _ _ _ _)) (dv1 (l_move (.fn _ _ _)) ?_))))))))
  obtain ⟨y14068, h14069, hF⟩ := bindE hF
  refine dvC (l_call (B := true) (FnI.mk' (by kernel_rfl)) (.cons (.ag _) (.ag (.cons (.v _) (.cons (.ro _) .nil))) (.cons (.rf _ _ _ _) (.one (.rf A A A (clm k_iC _))) (.cons (.fn _ _ _) (.fn (.cons (.ro _) .nil)) .nil))) (p_tidy_renamed_s3_ac h14069) (okT p_tidy_renamed_s3_ok)) ?_
  rintro _ rfl
  refine dvN (l_alloc zt33) (dvS (l_store ty33 A (.ag _) A A A (Nat.le_of_ble_eq_true A) A) (dvE (q_seq (w_seq (w_region (by rfl) (dv1 (l_field fd33_0 A) (dv1 (l_load ty3 A A A A A) (dv1 (l_build st33 zt33 (.cons (.v _) .nil) A A) ?_))))))))
  refine dvN (l_alloc zt33) (dvS (l_store ty33 A (.ag _) A A A (Nat.le_of_ble_eq_true A) A) (dvE (q_seq ?_)))
  obtain ⟨s14071, hF, hG14072⟩ := bindE hF
  refine w_seqJ ⟨[(4, .ad 2 2 0 0), (16, .ad 3 2 0 0)], [(0, some ⟨3, 1, a1.map iC⟩), (2, some ⟨33, 2, [[.v (.int .i64 0), .v (.slice none 0 0)]]⟩), (3, some ⟨33, 2, [[.v (.int .i64 a0_0), .rf 4 0 ((s14071.map MBlk.ct).length) 8]]⟩), (4, some ⟨47, 8, s14071.map MBlk.ctr⟩)], 1⟩ ?_ ?_
  · refine w_seq (w_region (by rfl) (dv1 (l_move (.rf _ _ _ _)) (dv1 (l_lenR sl29 A A (List.length_map _)) (dv1 (l_move (.v _)) (dvE (q_seq (w_block (W.le (le_share 385 (els := y14068.Blocks.map MBlk.ct) A (RoE.map rl_MBlkct _)) ?_))))))))
    refine w_loopF hF (fun (s17073 : (List MBlk) × Nat) => ⟨[(4, .ad 2 2 0 0), (15, .ad 3 2 0 0), (16, .ad 5 2 0 0), (100, .rf 7 0 ((s8030.2.2.map iC).length) 1), (101, .v (.int .i64 ((s8030.2.2.length : Nat) : Int))), (102, .v (.int .i64 ((s17073.2 : Nat) : Int)))], [(0, some ⟨3, 1, a1.map iC⟩), (2, some ⟨33, 2, [[.v (.int .i64 0), .v (.slice none 0 0)]]⟩), (3, some ⟨33, 2, [[.v (.int .i64 y14068.Ret), .rf 4 0 ((y14068.Blocks.map MBlk.ct).length) 8]]⟩), (4, some ⟨47, 8, y14068.Blocks.map MBlk.ctr⟩), (5, some ⟨33, 2, [[.v (.int .i64 a0_0), .rf 6 0 ((s17073.1.map MBlk.ct).length) 8]]⟩), (6, some ⟨47, 8, s17073.1.map MBlk.ctr⟩), (7, some ⟨3, 1, s8030.2.2.map iC⟩)], 1⟩) (le_of [(0, some 0), (2, some 3), (3, some 448), (4, some 385), (5, some 768), (6, none), (7, some 7)] A (.s (.s (.s (.s (.s (.s .nil A) A) A) A) A) A) (.row A A A (clm k_iC _) (.box A A (.s A) (.box A A (.s A) (.row A A A (clm kr_MBlkct _) (.box A A (.cons (.v A) (.cons (.nil ⟨by simp, A⟩) .nil)) (.new ⟨by simp, A⟩ (.row A A A (clm k_iC _) .nil)))))))) ?_
    intro s17073 y17074 hF hx17075
    refine w_seq (w_region (by rfl) (dv1 (l_bin A A b_lssN) (dvE (q_seq (w_seq ?_)))))
    rcases condE hF with ⟨b17077, hF⟩ | ⟨b17077, hF⟩
    · refine w_lenK 7 A fun l17078 => ?_
      refine w_condT A b17077 ?_
      refine w_skip (q_seq (w_seq (w_block (w_seq (w_region (by rfl) ?_)))))
      obtain ⟨x17079, h17080, hF⟩ := bindE hF
      refine dv1 (l_index s17073.2 sl29 A A A (lt_at iC h17080)) (dv1 (l_load ty3 A A (map_at h17080) A A) (dv1 (l_assign (.v _)) (dvE (q_seq (w_draw [[], [0], [], [2], [], [2, 3, 4], [2, 3, 4, 5], [2, 3, 4, 5, 6], [0, 1, 2, 3, 4, 5, 6, 7], [0, 1, 2, 3, 4, 5, 6, 7, 8], [0, 1, 2, 3, 4, 5, 6, 7, 8, 9]] [0, 1, 2, 3, 4, 5, 6, 7, 8, 9, 10] (by kernel_rfl) (by rfl) ⟨by decide, by rfl⟩ (by rfl) ?_)))))
      refine de1 A (l_field fd33_1 A) A (de1 A (l_load ty31 A A A A A) A (de1 A (l_field fd33_1 A) A (de1 A (l_load ty31 A A A A A) A (de1 A (l_move (.v _)) A ?_))))
      obtain ⟨x17081, h17082, hF⟩ := bindE hF
      refine de1 A (l_index x17079.toNat sl31 A A (atI_z h17082) (lt_at MBlk.ct (atI_at h17082))) A (de1 A (l_loadA ty47 A A (map_at (atI_at h17082)) A A) A (deN A (l_bs1 sl31 zt47 A (.ag _) A A A (by decide) (by decide)) A ?_))
      obtain ⟨c17083, hF⟩ := ckE hF
      refine deN3 A (l_app1R el31 A A A ((List.length_map _).trans (List.length_map _).symm) A A (by decide) (map_snoc MBlk.ctr _ x17081) (List.length_map _) (by simpa using c17083) (by decide)) A ?_
      refine de1 A (l_field fd33_1 A) A (deS A (l_store ty31 A (.rf _ _ _ _) A A A (Nat.le_of_ble_eq_true A) A) A (ddE (q_in (q_seq (w_region (by rfl) (dv1 (l_bin A A (b_incN (of_decide_eq_true b17077) l17078)) (dv1 (l_move (.v _)) (dvE ?_))))))))
      cases hF
      refine qL A ?_
      exact (le_of [(0, some 0), (2, some 2), (3, some 3), (4, some 4), (5, some 5), (6, some 832), (7, some 7)] A (.s (.s (.s (.s (.s (.s .nil A) A) A) A) A) A) (.row A A A (clm k_iC _) (.box A A (.s A) (.box A A (.s A) (.row A A A (clm kr_MBlkct _) (.box A A (.cons (.v A) (.cons (.rf A (by simp)) .nil)) (.row A A A (clm kr_MBlkct _) (.row A A A (clm k_iC _) .nil))))))))
    · refine w_condF A b17077 ?_
      refine w_exit ?_
      cases hF
      cases hx17075 _ rfl
      refine q_exS (q_exS (q_here (q_join ?_)))
      exact (le_of [(0, some 0), (2, some 2), (3, some 5), (4, some 6)] A (.s (.s .nil A) A) (.row A A A (clm k_iC _) (.box A A (.s A) (.box A A (.s A) (.row A A A (clm kr_MBlkct _) .nil)))))
  replace hF := hG14072
  refine w_seq (w_region (by rfl) (dv1 (l_loadA ty33 A A A A A) (dvS (l_store ty33 A (.ag _) A A A (Nat.le_of_ble_eq_true A) A) (dvE (q_seq (W.le (le_freezeR 4 (Wk.sl (WkE.map wr_MBlkct _)) [(117, .ag [.v (.int .i64 a0_0), .ro (.sl 47 8 (s14071.map MBlk.ct))])] [(2, some ⟨33, 2, [[.v (.int .i64 a0_0), .ro (.sl 47 8 (s14071.map MBlk.ct))]]⟩), (3, some ⟨33, 2, [[.v (.int .i64 a0_0), .ro (.sl 47 8 (s14071.map MBlk.ct))]]⟩)] A (clm kr_MBlkct _) (.ag A (.same (.ro (((List.length_map _).trans (List.length_map _).symm)).symm .nil)) .nil) (.at_ (i := 0) A (by decide) A (.same (.ro (((List.length_map _).trans (List.length_map _).symm)).symm .nil)) A (.at_ (i := 0) A (by decide) A (.same (.ro (((List.length_map _).trans (List.length_map _).symm)).symm .nil)) A .nil))) ?_))))))
  refine w_ret ?_
  cases hF
  refine q_endS (.inr A) ?_
  exact ⟨_, _, ret_okK A (.cons (.cellA ty33 A A A (.cons (.of (.v _)) (.cons (.of (.ro _)) .nil))) .nil) (by decide) ⟨A, A⟩, (gbC A (clm k_iC _) (by decide) (by decide) gb0)⟩

def p_tidy_fun (a0 : MFun) : Option MFun :=
((p_tidy_own a0).bind fun y10 =>
((loop (fun (s3012 : Int × (List MBlk)) =>
((p_cfg_Ahead (⟨s3012.1, s3012.2⟩ : MFun)).bind fun y3017 =>
(((loop (fun (s6021 : Int) =>
(bif decide (s6021 < ((s3012.2.length : Nat) : Int)) then
((p_tidy_next (⟨s3012.1, s3012.2⟩ : MFun) s6021 y3017).bind fun y6026 =>
(bif y6026.2 then
((p_tidy_merged (⟨s3012.1, s3012.2⟩ : MFun) s6021 y6026.1).bind fun y6029 =>
some (Xt.out (Xt.out (y6029.Ret, y6029.Blocks))))
else
some (Xt.go (IntKind.i64.wrap (s6021 + 1)))))
else
some (Xt.out (Xt.go ())))) Fu 0)).bind fun s3019 => s3019.on (fun (s6031 : Unit) =>
((p_cfg_Order (⟨s3012.1, s3012.2⟩ : MFun)).bind fun y6033 =>
((p_tidy_blocks_t1 s3012.1 s3012.2 y6033).bind fun y6035 =>
(ck (y6035.2.length = y6033.length)
(some (Xt.out y6035.1))))))
(fun o6038 => some (Xt.go o6038))))) Fu (y10.Ret, y10.Blocks)).bind fun o3015 => some o3015))

theorem p_tidy_fun_ok {r : MFun} : rOk (.ag [.v (.int .i64 r.Ret), .ro (.sl 47 8 (r.Blocks.map MBlk.ct))]) = true ∧ True := ⟨rfl, trivial⟩

set_option maxRecDepth 10000 in
set_option maxHeartbeats 4000000 in
theorem p_tidy_fun_ac {a0 : MFun} {r : MFun} (hF : p_tidy_fun a0 = some r) : AC Tryd.prog GT 25 [.ag (MFun.ct a0)] (fun c => c = .ag [.v (.int .i64 r.Ret), .ro (.sl 47 8 (r.Blocks.map MBlk.ct))]) := by
  unfold p_tidy_fun at hF
  refine AC.mk (nt := 34) Tryd.func25 A A A fun w N => ?_
  refine w_seq (w_region (by rfl) (dvN (l_box (.ag _) A A) (dvN (l_alloc zt33) (dvE (q_seq (w_scope (w_seq (w_region (by rfl) ?_))))))))
  refine dv1 (l_loadA ty33 A A A A A) ?_
  obtain ⟨y10, h11, hF⟩ := bindE hF
  refine dvC (l_call (B := false) (FnI.mk' (by kernel_rfl)) (.cons (.ag _) (.ag (.cons (.v _) (.cons (.ro _) .nil))) .nil) (p_tidy_own_ac h11) (okF p_tidy_own_ok)) ?_
  rintro _ rfl
  refine dvS (l_store ty33 A (.ag _) A A A (Nat.le_of_ble_eq_true A) A) (dvE (q_seq (w_seq (w_label (q_seq (w_block (W.le (le_freezeR 193 (Wk.refl (.sl 47 8 (y10.Blocks.map MBlk.ct))) [(8, .ag [.v (.int .i64 y10.Ret), .ro (.sl 47 8 (y10.Blocks.map MBlk.ct))])] [(0, some ⟨33, 2, [[.v (.int .i64 y10.Ret), .ro (.sl 47 8 (y10.Blocks.map MBlk.ct))]]⟩)] A (clm k_MBlkct _) (.ag A (.same (.ro A .nil)) .nil) (.at_ (i := 0) A (by decide) A (.same (.ro A .nil)) A .nil)) ?_)))))))
  obtain ⟨o3015, hF, hG3016⟩ := bindE hF
  refine w_loopF hF (fun (s3012 : Int × (List MBlk)) => ⟨[(1, .ad 0 2 0 0), (2, .ad 1 2 0 0)], [(0, some ⟨33, 2, [[.v (.int .i64 s3012.1), .ro (.sl 47 8 (s3012.2.map MBlk.ct))]]⟩), (1, some ⟨33, 2, [[.v (.int .i64 0), .v (.slice none 0 0)]]⟩)], 1⟩) (le_of [(0, some 0), (1, some 64)] A (.s (.s .nil A) A) (.box A A (.s A) (.box A A (.s A) .nil))) ?_
  intro s3012 y3013 hF hx3014
  refine w_block (w_seq (w_region (by rfl) (dv1 (l_loadA ty33 A A A A A) ?_)))
  obtain ⟨y3017, h3018, hF⟩ := bindE hF
  refine dvC (l_call (B := false) (FnI.mk' (by kernel_rfl)) (.cons (.ag _) (.ag (.cons (.v _) (.cons (.ro _) .nil))) .nil) (p_cfg_Ahead_ac h3018) (okF p_cfg_Ahead_ok)) ?_
  rintro _ rfl
  refine dv1 (l_assign (.rf _ _ _ _)) (dvE (q_seq ?_))
  obtain ⟨s3019, hF, hG3020⟩ := bindE hF
  refine w_seqE s3019 (fun (s6031 : Unit) => ⟨[(1, .ad 0 2 0 0), (2, .ad 1 2 0 0)], [(0, some ⟨33, 2, [[.v (.int .i64 s3012.1), .ro (.sl 47 8 (s3012.2.map MBlk.ct))]]⟩), (1, some ⟨33, 2, [[.v (.int .i64 0), .v (.slice none 0 0)]]⟩)], 1⟩) ?_ (fun s6031 e6032 => ?_)
  · refine w_seq (w_region (by rfl) (dv1 (l_field fd33_1 A) (dv1 (l_load ty31 A A A A A) (dv1 (l_lenRo sl31 A A (List.length_map _)) (dv1 (l_move (.v _)) (dvE (q_seq (w_block ?_))))))))
    refine w_loopF hF (fun (s6021 : Int) => ⟨[(1, .ad 0 2 0 0), (2, .ad 1 2 0 0), (3, .rf 2 0 ((y3017.map lC_iC).length) 1), (13, .v (.int .i64 ((s3012.2.length : Nat) : Int))), (14, .v (.int .i64 s6021))], [(0, some ⟨33, 2, [[.v (.int .i64 s3012.1), .ro (.sl 47 8 (s3012.2.map MBlk.ct))]]⟩), (1, some ⟨33, 2, [[.v (.int .i64 0), .v (.slice none 0 0)]]⟩), (2, some ⟨29, 1, y3017.map lC_iC⟩)], 1⟩) (le_of [(0, some 0), (1, some 1), (2, some 128)] A (.s (.s (.s (.s (.s .nil A) A) A) A) A) (.box A A (.s A) (.box A A (.s A) (.row A A A (clm k_lC_iC _) .nil)))) ?_
    intro s6021 y6022 hF hx6023
    refine w_seq (w_region (by rfl) (dv1 (l_bin A A b_lss) (dvE (q_seq (w_seq ?_)))))
    rcases condE hF with ⟨b6025, hF⟩ | ⟨b6025, hF⟩
    · refine w_condT A b6025 ?_
      refine w_skip (q_seq (w_seq (w_block (w_seq (w_region (by rfl) (dv1 (l_move (.v _)) (dv1 (l_assign (.v _)) (dvE ?_))))))))
      refine q_seq (w_seq (w_region (by rfl) (dv1 (l_loadA ty33 A A A A A) (dv1 (l_move (.v _)) (dv1 (l_move (.rf _ _ _ _)) ?_)))))
      obtain ⟨y6026, h6027, hF⟩ := bindE hF
      refine dvC (l_call (B := true) (FnI.mk' (by kernel_rfl)) (.cons (.ag _) (.ag (.cons (.v _) (.cons (.ro _) .nil))) (.cons (.v _) (.one (.v _)) (.cons (.rf _ _ _ _) (.one (.rf A A A (clm k_lC_iC _))) .nil))) (p_tidy_next_ac h6027) (okT p_tidy_next_ok)) ?_
      rintro _ rfl
      refine dv1 (l_move (.tu _)) (dv1 (l_extract A A) (dv1 (l_extract A A) (dv1 (l_assign (.v _)) (dv1 (l_assign (.v _)) (dvE (q_seq (w_seq (w_region (by rfl) ?_))))))))
      refine dv1 (l_move (.v _)) (dvE (q_seq ?_))
      rcases condE hF with ⟨b6028, hF⟩ | ⟨b6028, hF⟩
      · refine w_condT A b6028 ?_
        refine w_seq (w_region (by rfl) (dv1 (l_loadA ty33 A A A A A) (dv1 (l_move (.v _)) (dv1 (l_move (.v _)) ?_))))
        obtain ⟨y6029, h6030, hF⟩ := bindE hF
        refine dvC (l_call (B := false) (FnI.mk' (by kernel_rfl)) (.cons (.ag _) (.ag (.cons (.v _) (.cons (.ro _) .nil))) (.cons (.v _) (.one (.v _)) (.cons (.v _) (.one (.v _)) .nil))) (p_tidy_merged_ac h6030) (okF p_tidy_merged_ok)) ?_
        rintro _ rfl
        refine dvS (l_store ty33 A (.ag _) A A A (Nat.le_of_ble_eq_true A) A) (dvE (q_seq (w_exit ?_)))
        cases hF
        cases hx6023 _ rfl
        have hF := onOut hG3020
        cases hF
        refine q_far A (q_exS (q_exS (q_far A (q_exS (q_here (qL A ?_))))))
        exact (le_of [(0, some 0), (1, some 1)] A (.s (.s .nil A) A) (.box A A (.s A) (.box A A (.s A) .nil)))
      · refine w_condF A b6028 ?_
        refine w_skip (q_in (q_seq (w_region (by rfl) (dv1 (l_bin A A (b_add A)) (dv1 (l_move (.v _)) (dvE ?_))))))
        cases hF
        refine qL A ?_
        exact (le_of [(0, some 0), (1, some 1), (2, some 2)] A (.s (.s (.s (.s (.s .nil A) A) A) A) A) (.box A A (.s A) (.box A A (.s A) (.row A A A (clm k_lC_iC _) .nil))))
    · refine w_condF A b6025 ?_
      refine w_exit ?_
      cases hF
      cases hx6023 _ rfl
      refine q_exS (q_exS (q_here (qL A ?_)))
      exact (le_of [(0, some 0), (1, some 1)] A (.s (.s .nil A) A) (.box A A (.s A) (.box A A (.s A) .nil)))
  subst e6032
  replace hF := onGo hG3020
  refine w_seq (w_draw [[], [], [1], [0, 1, 2], [0, 1, 2, 3]] [0, 1, 2, 3, 4] (by kernel_rfl) (by rfl) ⟨by decide, by rfl⟩ (by rfl) ?_)
  refine de1 A (l_loadA ty33 A A A A A) A (de1 A (l_loadA ty33 A A A A A) A ?_)
  obtain ⟨y6033, h6034, hF⟩ := bindE hF
  refine deC1 A (l_call (B := false) (FnI.mk' (by kernel_rfl)) (.cons (.ag _) (.ag (.cons (.v _) (.cons (.ro _) .nil))) .nil) (p_cfg_Order_ac h6034) (okF p_cfg_Order_ok)) A ?_
  obtain ⟨y6035, h6036, hF⟩ := bindE hF
  obtain ⟨c6037, hF⟩ := ckE hF
  refine deK A (l_callS [(0, some 192)] [(0, some 192)] (by rfl) (by rfl) (by rfl) (by rfl) (by rfl) (FnI.mk' (by kernel_rfl)) (.ag (.ag _) (.cons (.v A) (.cons (.ro A) .nil)) (.cons (.rf _ _ _ _) (.rf A A) .nil)) (.row A A A (clm k_iC _) .nil) (p_tidy_blocks_t1_sc h6036) (okS (p_tidy_blocks_t1_sok (r := y6035)))) A ?_
  refine deS A (l_store ty33 A (.ag _) A A A (Nat.le_of_ble_eq_true A) A) A (ddE (q_seq (w_ret (q_reI (q_reS (q_reI (q_rSc ?_)))))))
  cases hF
  cases hx3014 _ rfl
  have hF := hG3016
  cases hF
  refine q_end (.inr A) ?_
  exact ret_ok A (.cons (.cellA ty33 A A A (.cons (.of (.v _)) (.cons (.of (.ro _)) .nil))) .nil) (by decide) A

def p_tidy_Func (a0 : MFun) : Option MFun :=
((p_tidy_fun a0).bind fun y1 =>
some y1)

theorem p_tidy_Func_ok {r : MFun} : rOk (.ag [.v (.int .i64 r.Ret), .ro (.sl 47 8 (r.Blocks.map MBlk.ct))]) = true ∧ True := ⟨rfl, trivial⟩

set_option maxRecDepth 10000 in
set_option maxHeartbeats 4000000 in
theorem p_tidy_Func_ac {a0 : MFun} {r : MFun} (hF : p_tidy_Func a0 = some r) : AC Tryd.prog GT 19 [.ag (MFun.ct a0)] (fun c => c = .ag [.v (.int .i64 r.Ret), .ro (.sl 47 8 (r.Blocks.map MBlk.ct))]) := by
  unfold p_tidy_Func at hF
  refine AC.mk (nt := 5) Tryd.func19 A A A fun w N => ?_
  refine w_seq (w_region (by rfl) (dvN (l_box (.ag _) A A) (dvN (l_alloc zt33) (dvE (q_seq (w_seq (w_region (by rfl) (dv1 (l_loadA ty33 A A A A A) ?_))))))))
  obtain ⟨y1, h2, hF⟩ := bindE hF
  refine dvC (l_call (B := false) (FnI.mk' (by kernel_rfl)) (.cons (.ag _) (.ag (.cons (.v _) (.cons (.ro _) .nil))) .nil) (p_tidy_fun_ac h2) (okF p_tidy_fun_ok)) ?_
  rintro _ rfl
  refine dvS (l_store ty33 A (.ag _) A A A (Nat.le_of_ble_eq_true A) A) (dvE (q_seq (w_ret ?_)))
  cases hF
  refine q_end (.inr A) ?_
  exact ret_ok A (.cons (.cellA ty33 A A A (.cons (.of (.v _)) (.cons (.of (.ro _)) .nil))) .nil) (by decide) A

def p_tidy_Kept_1 (a0 : Int) (c0 : List Bool) : Option Bool :=
(((bif decide (a0 < ((c0.length : Nat) : Int)) then
((atI c0 a0).bind fun x11 =>
some (!x11))
else
some false)).bind fun (s8 : Bool) =>
some s8)

theorem p_tidy_Kept_1_ok {r : Bool} : rOk (.v (.bool r)) = true ∧ FrT (.v (.bool r)) := ⟨rfl, (.one (.cl (.v _)))⟩

set_option maxRecDepth 10000 in
set_option maxHeartbeats 4000000 in
theorem p_tidy_Kept_1_ac {a0 : Int} {c0 : List Bool} {r : Bool} (hF : p_tidy_Kept_1 a0 c0 = some r) : AC Tryd.prog GT 27 [.v (.int .i64 a0), .rp (lC_bC c0) 0] (fun c => c = .v (.bool r)) := by
  unfold p_tidy_Kept_1 at hF
  refine AC.mk (nt := 15) Tryd.func27 A A A fun w N => ?_
  refine w_seq (w_region (by rfl) (dv1 (l_assign (.v _)) (dvE (q_seq ?_))))
  obtain ⟨s8, hF, hG9⟩ := bindE hF
  refine w_seqJ ⟨[(3, .v (.bool s8))], [], 1⟩ ?_ ?_
  · refine w_region (by rfl) (dv1 (l_move (.v _)) (dv1 (l_loadRo ty52 A A) (dv1 (l_lenRo sl52 A A (List.length_map _)) (dv1 (l_bin A A b_lss) (dv1 (l_move (.v _)) ?_)))))
    rcases condE hF with ⟨b10, hF⟩ | ⟨b10, hF⟩
    · refine dv1 (l_gT A A (gt A b10) fun _ => l_loadRo ty52 A A) (dv1 (l_gT A A (gt A b10) fun _ => l_move (.v _)) ?_)
      obtain ⟨x11, h12, hF⟩ := bindE hF
      refine dv1 (l_gT A A (gt A b10) fun _ => l_indexRo a0.toNat sl52 A A (atI_z h12) (map_at (atI_at h12))) (dv1 (l_gT A A (gt A b10) fun _ => l_loadRo ty4 A A) (dv1 (l_gT A A (gt A b10) fun _ => l_not A) (dv1 (l_pickT (gt A b10) (.v _)) (dv1 (l_assign (.v _)) (dvE ?_)))))
      cases hF
      refine q_join ?_
      exact (le_of [] A (.s .nil A) .nil)
    · refine dv1 (l_gF A A (gt A b10) A) (dv1 (l_gF A A (gt A b10) A) (dv1 (l_gF A A (gt A b10) A) (dv1 (l_gF A A (gt A b10) A) (dv1 (l_gF A A (gt A b10) A) (dv1 (l_pickF (gt A b10) (.v _)) (dv1 (l_assign (.v _)) (dvE ?_)))))))
      cases hF
      refine q_join ?_
      exact (le_of [] A (.s .nil A) .nil)
  replace hF := hG9
  refine w_ret ?_
  cases hF
  refine q_end (.inr A) ?_
  exact ret_ok A (.cons (.tmp (.v _) (.v _)) .nil) (by decide) A

def p_tidy_Kept_t1 (a0_0 : Int) (a0_1 : List MBlk) (a1 : List Bool) : Option MFun :=
(((loop (fun (s3004 : (List Int) × Int × Nat) =>
(bif decide (s3004.2.2 < a0_1.length) then
((((a0_1[s3004.2.2]?).bind fun x3014 =>
(loop (fun (s6016 : (List Int) × Int × Int) =>
(bif decide (s6016.2.2 < IntKind.i64.wrap (((x3014.Params.length : Nat) : Int) + ((x3014.Ops.length : Nat) : Int))) then
(((((bif decide (((x3014.Params.length : Nat) : Int) ≤ s6016.2.2) then
((p_tidy_Kept_1 ((s6016.1.length : Nat) : Int) a1).bind fun y6029 =>
some y6029)
else
some false)).bind fun (s6026 : Bool) =>
(bif s6026 then
(ck ((s6016.1.length + 1) * 8 ≤ 140737488355328)
(some ((s6016.1 ++ [(-1)]), s6016.2.1)))
else
(ck ((s6016.1.length + 1) * 8 ≤ 140737488355328)
(some ((s6016.1 ++ [s6016.2.1]), IntKind.i64.wrap (s6016.2.1 + 1))))))).bind fun (s6023 : (List Int) × Int) =>
some (Xt.go (s6023.1, s6023.2, IntKind.i64.wrap (s6016.2.2 + 1))))
else
some (Xt.out (s6016.1, s6016.2.1)))) Fu (s3004.1, s3004.2.1, 0)))).bind fun (s3012 : (List Int) × Int) =>
some (Xt.go (s3012.1, s3012.2, (s3004.2.2 + 1))))
else
some (Xt.out s3004.1))) Fu ([], 0, 0))).bind fun (s2 : (List Int)) =>
((p_tidy_renamed_s1 (⟨a0_0, a0_1⟩ : MFun) s2).bind fun y6034 =>
(((loop (fun (s10039 : (List MBlk) × Int × Int) =>
(bif decide (s10039.2.2 < ((y6034.Blocks.length : Nat) : Int)) then
((((atI s10039.1 s10039.2.2).bind fun x10048 =>
(loop (fun (s13050 : Int × Nat × (List MOp)) =>
(bif decide (s13050.2.1 < x10048.Ops.length) then
((x10048.Ops[s13050.2.1]?).bind fun x13056 =>
((((p_tidy_Kept_1 s13050.1 a1).bind fun y13061 =>
(bif y13061 then
some s13050.2.2
else
(ck ((s13050.2.2.length + 1) * 88 ≤ 140737488355328)
(some (s13050.2.2 ++ [x13056])))))).bind fun (s13059 : (List MOp)) =>
some (Xt.go (IntKind.i64.wrap (s13050.1 + 1), (s13050.2.1 + 1), s13059))))
else
some (Xt.out ((s10039.1.set s10039.2.2.toNat (⟨x10048.Params, s13050.2.2, x10048.End⟩ : MBlk)), s13050.1)))) Fu (IntKind.i64.wrap (s10039.2.1 + ((x10048.Params.length : Nat) : Int)), 0, [])))).bind fun (s10046 : (List MBlk) × Int) =>
some (Xt.go (s10046.1, s10046.2, IntKind.i64.wrap (s10039.2.2 + 1))))
else
some (Xt.out s10039.1))) Fu (y6034.Blocks, 0, 0))).bind fun (s6037 : (List MBlk)) =>
some (⟨y6034.Ret, s6037⟩ : MFun))))

theorem p_tidy_Kept_t1_sok {r : MFun} : rOk (.ag [.v (.int .i64 r.Ret), .ro (.sl 47 8 (r.Blocks.map MBlk.ct))]) = true ∧ True := ⟨rfl, trivial⟩

set_option maxRecDepth 10000 in
set_option maxHeartbeats 4000000 in
theorem p_tidy_Kept_t1_sc {a0_0 : Int} {a0_1 : List MBlk} {a1 : List Bool} {r : MFun} (hF : p_tidy_Kept_t1 a0_0 a0_1 a1 = some r) : SC Tryd.prog GT 21 [.ag [.v (.int .i64 a0_0), .ro (.sl 47 8 (a0_1.map MBlk.ct))], .rf 0 0 ((a1.map bC).length) 1] [(0, some ⟨4, 1, a1.map bC⟩)] (fun c gb => c = .ag [.v (.int .i64 r.Ret), .ro (.sl 47 8 (r.Blocks.map MBlk.ct))] ∧ gb = []) := by
  unfold p_tidy_Kept_t1 at hF
  refine SC.mk (nt := 110) [] Tryd.func21 A A A A fun w M N g => ?_
  refine w_seq (w_region (by rfl) (dvN (l_box (.ag _) A A) (dvN (l_box (.rf _ _ _ _) A A) (dvN (l_alloc zt33) (dvE (q_seq (w_seq (w_region (by rfl) ?_))))))))
  refine dv1 (l_assign (.v _)) (dvE (q_seq (w_seq (w_region (by rfl) (dvG (le_close 128 0 A A (.cons (.of (.rf A A (clm k_bC _))) .nil) (by decide) (by decide) A) ?_)))))
  refine dvG (le_freeze 128 [(3, .ro (.rp [.sl 4 1 (a1.map bC)] 0))] A (cl1 (.sl _ _ (clm k_bC _)) (cl0 (b := true))) (List.forall_mem_cons.2 ⟨⟨0, A, A⟩, (fun _ h => nomatch h)⟩)) ?_
  refine dv1 (l_fnE (f := 27) (.cons (.ro _) .nil)) (dv1 (l_assign (.fn _ _ _)) (dvE (q_seq (w_seq (w_region (by rfl) (dv1 (l_assign (.v _)) (dvE (q_seq ?_))))))))
  obtain ⟨s2, hF, hG3⟩ := bindE hF
  refine w_seqJ ⟨[(2, .ad 1 2 0 0), (4, .ad 2 2 0 0), (5, .rf 3 0 ((s2.map iC).length) 1), (6, .fn (.func 27) [] [.ro (.rp (lC_bC a1) 0)])], [(1, some ⟨33, 2, [[.v (.int .i64 a0_0), .ro (.sl 47 8 (a0_1.map MBlk.ct))]]⟩), (2, some ⟨33, 2, [[.v (.int .i64 0), .v (.slice none 0 0)]]⟩), (3, some ⟨3, 1, s2.map iC⟩)], 1⟩ ?_ ?_
  · refine w_seq (w_region (by rfl) (dv1 (l_field fd33_1 A) (dv1 (l_load ty31 A A A A A) (dv1 (l_lenRo sl31 A A (List.length_map _)) (dv1 (l_move (.v _)) (dvE (q_seq (w_block ?_))))))))
    refine w_loopF hF (fun (s3004 : (List Int) × Int × Nat) => ⟨[(2, .ad 1 2 0 0), (4, .ad 2 2 0 0), (5, .rf 3 0 ((s3004.1.map iC).length) 1), (6, .fn (.func 27) [] [.ro (.rp (lC_bC a1) 0)]), (7, .v (.int .i64 s3004.2.1)), (20, .ro (.sl 47 8 (a0_1.map MBlk.ct))), (21, .v (.int .i64 ((a0_1.length : Nat) : Int))), (22, .v (.int .i64 ((s3004.2.2 : Nat) : Int)))], [(1, some ⟨33, 2, [[.v (.int .i64 a0_0), .ro (.sl 47 8 (a0_1.map MBlk.ct))]]⟩), (2, some ⟨33, 2, [[.v (.int .i64 0), .v (.slice none 0 0)]]⟩), (3, some ⟨3, 1, s3004.1.map iC⟩)], 1⟩) (le_of [(1, some 64), (2, some 192), (3, none)] A (.s (.s (.cons (.v _) (.nil ⟨by simp, A⟩) (.s (.s (.s (.s (.s .nil A) A) A) A) A)) A) A) (.box A A (.s A) (.box A A (.s A) (.new ⟨by simp, A⟩ .nil)))) ?_
    intro s3004 y3005 hF hx3006
    refine w_seq (w_region (by rfl) (dv1 (l_bin A A b_lssN) (dvE (q_seq (w_seq ?_)))))
    rcases condE hF with ⟨b3008, hF⟩ | ⟨b3008, hF⟩
    · refine w_lenS 20 A fun l3009 => ?_
      refine w_condT A b3008 ?_
      refine w_skip (q_seq ?_)
      obtain ⟨s3012, hF, hG3013⟩ := bindE hF
      refine w_seqJ ⟨[(2, .ad 1 2 0 0), (4, .ad 2 2 0 0), (5, .rf 3 0 ((s3012.1.map iC).length) 1), (6, .fn (.func 27) [] [.ro (.rp (lC_bC a1) 0)]), (7, .v (.int .i64 s3012.2)), (20, .ro (.sl 47 8 (a0_1.map MBlk.ct))), (21, .v (.int .i64 ((a0_1.length : Nat) : Int))), (22, .v (.int .i64 ((s3004.2.2 : Nat) : Int)))], [(1, some ⟨33, 2, [[.v (.int .i64 a0_0), .ro (.sl 47 8 (a0_1.map MBlk.ct))]]⟩), (2, some ⟨33, 2, [[.v (.int .i64 0), .v (.slice none 0 0)]]⟩), (3, some ⟨3, 1, s3012.1.map iC⟩)], 1⟩ ?_ ?_
      · refine w_block (w_seq (w_region (by rfl) ?_))
        obtain ⟨x3014, h3015, hF⟩ := bindE hF
        refine dv1 (l_indexRo s3004.2.2 sl31 A A A (map_at h3015)) (dv1 (l_loadARo ty47 A A) (dvN (l_alloc zt47) (dvS (l_store ty47 A (.ag _) A A A (Nat.le_of_ble_eq_true A) A) (dvE (q_seq (w_seq (w_region (by rfl) (dv1 (l_field fd47_0 A) ?_))))))))
        refine dv1 (l_load ty29 A A A A A) (dv1 (l_lenRo sl29 A A (List.length_map _)) (dv1 (l_field fd47_1 A) (dv1 (l_load ty43 A A A A A) (dv1 (l_lenRo sl43 A A (List.length_map _)) (dv1 (l_bin A A (b_add A)) (dv1 (l_move (.v _)) (dvE (q_seq ?_))))))))
        refine w_block (w_loopF hF (fun (s6016 : (List Int) × Int × Int) => ⟨[(2, .ad 1 2 0 0), (4, .ad 2 2 0 0), (5, .rf 3 0 ((s6016.1.map iC).length) 1), (6, .fn (.func 27) [] [.ro (.rp (lC_bC a1) 0)]), (7, .v (.int .i64 s6016.2.1)), (9, .ad 4 8 0 0), (20, .ro (.sl 47 8 (a0_1.map MBlk.ct))), (21, .v (.int .i64 ((a0_1.length : Nat) : Int))), (22, .v (.int .i64 ((s3004.2.2 : Nat) : Int))), (32, .v (.int .i64 (IntKind.i64.wrap (((x3014.Params.length : Nat) : Int) + ((x3014.Ops.length : Nat) : Int))))), (33, .v (.int .i64 s6016.2.2))], [(1, some ⟨33, 2, [[.v (.int .i64 a0_0), .ro (.sl 47 8 (a0_1.map MBlk.ct))]]⟩), (2, some ⟨33, 2, [[.v (.int .i64 0), .v (.slice none 0 0)]]⟩), (3, some ⟨3, 1, s6016.1.map iC⟩), (4, some ⟨47, 8, [[.ro (.sl 3 1 (x3014.Params.map iC)), .ro (.sl 49 8 (x3014.Ops.map MOp.ct)), .v (.int .i64 x3014.End.K), .v (.int .i64 x3014.End.A), .v (.int .i64 x3014.End.To), .v (.int .i64 x3014.End.Else), .ro (.sl 3 1 (x3014.End.L.map iC)), .ro (.sl 3 1 (x3014.End.M.map iC))]]⟩)], 1⟩) (le_of [(1, some 1), (2, some 2), (3, some 3), (4, some 256)] A (.s (.s (.s (.s (.s (.s (.s (.s (.s (.s (.s .nil A) A) A) A) A) A) A) A) A) A) A) (.box A A (.s A) (.box A A (.s A) (.row A A A (clm k_iC _) (.box A A (.s A) .nil))))) ?_)
        intro s6016 y6017 hF hx6018
        refine w_seq (w_region (by rfl) (dv1 (l_bin A A b_lss) (dvE (q_seq (w_seq ?_)))))
        rcases condE hF with ⟨b6020, hF⟩ | ⟨b6020, hF⟩
        · refine w_condT A b6020 ?_
          refine w_skip (q_seq ?_)
          obtain ⟨s6023, hF, hG6024⟩ := bindE hF
          refine w_seqJ ⟨[(2, .ad 1 2 0 0), (4, .ad 2 2 0 0), (5, .rf 3 0 ((s6023.1.map iC).length) 1), (6, .fn (.func 27) [] [.ro (.rp (lC_bC a1) 0)]), (7, .v (.int .i64 s6023.2)), (9, .ad 4 8 0 0), (20, .ro (.sl 47 8 (a0_1.map MBlk.ct))), (21, .v (.int .i64 ((a0_1.length : Nat) : Int))), (22, .v (.int .i64 ((s3004.2.2 : Nat) : Int))), (32, .v (.int .i64 (IntKind.i64.wrap (((x3014.Params.length : Nat) : Int) + ((x3014.Ops.length : Nat) : Int))))), (33, .v (.int .i64 s6016.2.2))], [(1, some ⟨33, 2, [[.v (.int .i64 a0_0), .ro (.sl 47 8 (a0_1.map MBlk.ct))]]⟩), (2, some ⟨33, 2, [[.v (.int .i64 0), .v (.slice none 0 0)]]⟩), (3, some ⟨3, 1, s6023.1.map iC⟩), (4, some ⟨47, 8, [[.ro (.sl 3 1 (x3014.Params.map iC)), .ro (.sl 49 8 (x3014.Ops.map MOp.ct)), .v (.int .i64 x3014.End.K), .v (.int .i64 x3014.End.A), .v (.int .i64 x3014.End.To), .v (.int .i64 x3014.End.Else), .ro (.sl 3 1 (x3014.End.L.map iC)), .ro (.sl 3 1 (x3014.End.M.map iC))]]⟩)], 1⟩ ?_ ?_
          · refine w_block (w_seq (w_region (by rfl) (dv1 (l_move (.v _)) (dv1 (l_assign (.v _)) (dvE (q_seq (w_seq ?_)))))))
            obtain ⟨s6026, hF, hG6027⟩ := bindE hF
            refine w_seqJ ⟨[(2, .ad 1 2 0 0), (4, .ad 2 2 0 0), (5, .rf 3 0 ((s6016.1.map iC).length) 1), (6, .fn (.func 27) [] [.ro (.rp (lC_bC a1) 0)]), (7, .v (.int .i64 s6016.2.1)), (9, .ad 4 8 0 0), (20, .ro (.sl 47 8 (a0_1.map MBlk.ct))), (21, .v (.int .i64 ((a0_1.length : Nat) : Int))), (22, .v (.int .i64 ((s3004.2.2 : Nat) : Int))), (32, .v (.int .i64 (IntKind.i64.wrap (((x3014.Params.length : Nat) : Int) + ((x3014.Ops.length : Nat) : Int))))), (33, .v (.int .i64 s6016.2.2)), (46, .v (.bool s6026))], [(1, some ⟨33, 2, [[.v (.int .i64 a0_0), .ro (.sl 47 8 (a0_1.map MBlk.ct))]]⟩), (2, some ⟨33, 2, [[.v (.int .i64 0), .v (.slice none 0 0)]]⟩), (3, some ⟨3, 1, s6016.1.map iC⟩), (4, some ⟨47, 8, [[.ro (.sl 3 1 (x3014.Params.map iC)), .ro (.sl 49 8 (x3014.Ops.map MOp.ct)), .v (.int .i64 x3014.End.K), .v (.int .i64 x3014.End.A), .v (.int .i64 x3014.End.To), .v (.int .i64 x3014.End.Else), .ro (.sl 3 1 (x3014.End.L.map iC)), .ro (.sl 3 1 (x3014.End.M.map iC))]]⟩)], 1⟩ ?_ ?_
            · refine w_region (by rfl) (dv1 (l_move (.v _)) (dv1 (l_field fd47_0 A) (dv1 (l_load ty29 A A A A A) (dv1 (l_lenRo sl29 A A (List.length_map _)) (dv1 (l_bin A A b_geq) (dv1 (l_move (.v _)) ?_))))))
              rcases condE hF with ⟨b6028, hF⟩ | ⟨b6028, hF⟩
              · refine dv1 (l_gT A A (gt A b6028) fun _ => l_move (.fn _ _ _)) (dv1 (l_gT A A (gt A b6028) fun _ => l_move (.rf _ _ _ _)) (dv1 (l_gT A A (gt A b6028) fun _ => l_lenR sl29 A A (List.length_map _)) ?_))
                obtain ⟨y6029, h6030, hF⟩ := bindE hF
                refine dvC (l_gTC A A (gt A b6028) fun _ => (l_callV (B := false) (caps := [.rp (lC_bC a1) 0]) (FnI.mk' (by kernel_rfl)) (.fn _ _ _) (.fn _ A) (.cons (.v _) (.one (.v _)) .nil) (p_tidy_Kept_1_ac h6030) (okF p_tidy_Kept_1_ok))) ?_
                rintro _ rfl
                refine dv1 (l_pickT (gt A b6028) (.v _)) (dvE ?_)
                cases hF
                refine q_join ?_
                exact (le_of [(1, some 1), (2, some 2), (3, some 3), (4, some 4)] A (.s (.s (.s (.s (.s (.s (.s (.s (.s (.s (.s (.s .nil A) A) A) A) A) A) A) A) A) A) A) A) (.box A A (.s A) (.box A A (.s A) (.row A A A (clm k_iC _) (.box A A (.s A) .nil)))))
              · refine dv1 (l_gF A A (gt A b6028) A) (dv1 (l_gF A A (gt A b6028) A) (dv1 (l_gF A A (gt A b6028) A) (dv1 (l_gF A A (gt A b6028) A) (dv1 (l_pickF (gt A b6028) (.v _)) (dvE ?_)))))
                cases hF
                refine q_join ?_
                exact (le_of [(1, some 1), (2, some 2), (3, some 3), (4, some 4)] A (.s (.s (.s (.s (.s (.s (.s (.s (.s (.s (.s (.s .nil A) A) A) A) A) A) A) A) A) A) A) A) (.box A A (.s A) (.box A A (.s A) (.row A A A (clm k_iC _) (.box A A (.s A) .nil)))))
            replace hF := hG6027
            rcases condE hF with ⟨b6031, hF⟩ | ⟨b6031, hF⟩
            · refine w_condT A b6031 ?_
              refine w_seq (w_region (by rfl) (dv1 (l_move (.rf _ _ _ _)) (dvN (l_bs1 sl29 zt3 A (.v _) A A A (by decide) (by decide)) ?_)))
              obtain ⟨c6032, hF⟩ := ckE hF
              refine dvN3 (l_app1R el29 A A A A A A (by decide) (map_snoc iC _ (-1)) (List.length_map _) (by simpa using c6032) (by decide)) ?_
              refine dv1 (l_assign (.rf _ _ _ _)) (dvE (q_seq (w_exit ?_)))
              cases hF
              refine q_exS (q_here (q_join ?_))
              exact (le_of [(1, some 1), (2, some 2), (3, some 192), (4, some 4)] A (.s (.s (.cons (.rf _ _ _ _) (.rf A (by simp)) (.s (.s (.s (.s (.s (.s (.s (.s .nil A) A) A) A) A) A) A) A)) A) A) (.box A A (.s A) (.box A A (.s A) (.row A A A (clm k_iC _) (.box A A (.s A) .nil)))))
            · refine w_condF A b6031 ?_
              refine w_skip (q_seq (w_seq (w_region (by rfl) (dv1 (l_move (.rf _ _ _ _)) (dv1 (l_move (.v _)) (dvN (l_bs1 sl29 zt3 A (.v _) A A A (by decide) (by decide)) ?_))))))
              obtain ⟨c6033, hF⟩ := ckE hF
              refine dvN3 (l_app1R el29 A A A A A A (by decide) (map_snoc iC _ s6016.2.1) (List.length_map _) (by simpa using c6033) (by decide)) ?_
              refine dv1 (l_assign (.rf _ _ _ _)) (dvE (q_seq (w_region (by rfl) (dv1 (l_move (.v _)) (dv1 (l_bin A A (b_add A)) (dv1 (l_assign (.v _)) (dvE ?_)))))))
              cases hF
              refine q_in (q_join ?_)
              exact (le_of [(1, some 1), (2, some 2), (3, some 256), (4, some 4)] A (.s (.s (.cons (.rf _ _ _ _) (.rf A (by simp)) (.s (.s (.s (.s (.s (.s (.s (.s .nil A) A) A) A) A) A) A) A)) A) A) (.box A A (.s A) (.box A A (.s A) (.row A A A (clm k_iC _) (.box A A (.s A) .nil)))))
          replace hF := hG6024
          refine w_region (by rfl) (dv1 (l_bin A A (b_add A)) (dv1 (l_move (.v _)) (dvE ?_)))
          cases hF
          refine qL A ?_
          exact (le_of [(1, some 1), (2, some 2), (3, some 3), (4, some 4)] A (.s (.s (.s (.s (.s (.s (.s (.s (.s (.s (.s .nil A) A) A) A) A) A) A) A) A) A) A) (.box A A (.s A) (.box A A (.s A) (.row A A A (clm k_iC _) (.box A A (.s A) .nil)))))
        · refine w_condF A b6020 ?_
          refine w_exit ?_
          cases hF
          cases hx6018 _ rfl
          refine q_exS (q_exS (q_here (q_in (q_join ?_))))
          exact (le_of [(1, some 1), (2, some 2), (3, some 3)] A (.s (.s (.s (.s (.s (.s (.s (.s .nil A) A) A) A) A) A) A) A) (.box A A (.s A) (.box A A (.s A) (.row A A A (clm k_iC _) .nil))))
      replace hF := hG3013
      refine w_region (by rfl) (dv1 (l_bin A A (b_incN (of_decide_eq_true b3008) l3009)) (dv1 (l_move (.v _)) (dvE ?_)))
      cases hF
      refine qL A ?_
      exact (le_of [(1, some 1), (2, some 2), (3, some 3)] A (.s (.s (.s (.s (.s (.s (.s (.s .nil A) A) A) A) A) A) A) A) (.box A A (.s A) (.box A A (.s A) (.row A A A (clm k_iC _) .nil))))
    · refine w_condF A b3008 ?_
      refine w_exit ?_
      cases hF
      cases hx3006 _ rfl
      refine q_exS (q_exS (q_here (q_join ?_)))
      exact (le_of [(1, some 1), (2, some 2), (3, some 3)] A (.s (.s (.s (.s .nil A) A) A) A) (.box A A (.s A) (.box A A (.s A) (.row A A A (clm k_iC _) .nil))))
  replace hF := hG3
  refine w_seq (w_region (by rfl) (dv1 (l_loadA ty33 A A A A A) (dv1 (l_move (.rf _ _ _ _)) ?_)))
  obtain ⟨y6034, h6035, hF⟩ := bindE hF
  refine dvC (l_call (B := true) (FnI.mk' (by kernel_rfl)) (.cons (.ag _) (.ag (.cons (.v _) (.cons (.ro _) .nil))) (.cons (.rf _ _ _ _) (.one (.rf A A A (clm k_iC _))) (.cons (.v _) (.one (.v _)) .nil))) (p_tidy_renamed_s1_ac h6035) (okT p_tidy_renamed_s1_ok)) ?_
  rintro _ rfl
  refine dvN (l_alloc zt33) (dvS (l_store ty33 A (.ag _) A A A (Nat.le_of_ble_eq_true A) A) (dvE (q_seq (w_seq (w_region (by rfl) (dv1 (l_assign (.v _)) (dvE (q_seq ?_))))))))
  obtain ⟨s6037, hF, hG6038⟩ := bindE hF
  refine w_seqJ ⟨[(4, .ad 1 2 0 0), (11, .ad 2 2 0 0)], [(1, some ⟨33, 2, [[.v (.int .i64 0), .v (.slice none 0 0)]]⟩), (2, some ⟨33, 2, [[.v (.int .i64 y6034.Ret), .rf 3 0 ((s6037.map MBlk.ct).length) 8]]⟩), (3, some ⟨47, 8, s6037.map MBlk.ctr⟩)], 1⟩ ?_ ?_
  · refine w_seq (w_region (by rfl) (dv1 (l_field fd33_1 A) (dv1 (l_load ty31 A A A A A) (dv1 (l_lenR sl31 A A (List.length_map _)) (dv1 (l_move (.v _)) (dvE (q_seq (w_block ?_))))))))
    refine W.le (le_share 193 (els := y6034.Blocks.map MBlk.ct) A (RoE.map rl_MBlkct _)) ?_
    refine w_loopF hF (fun (s10039 : (List MBlk) × Int × Int) => ⟨[(4, .ad 1 2 0 0), (6, .fn (.func 27) [] [.ro (.rp (lC_bC a1) 0)]), (11, .ad 2 2 0 0), (12, .v (.int .i64 s10039.2.1)), (63, .v (.int .i64 ((y6034.Blocks.length : Nat) : Int))), (64, .v (.int .i64 s10039.2.2))], [(1, some ⟨33, 2, [[.v (.int .i64 0), .v (.slice none 0 0)]]⟩), (2, some ⟨33, 2, [[.v (.int .i64 y6034.Ret), .rf 3 0 ((s10039.1.map MBlk.ct).length) 8]]⟩), (3, some ⟨47, 8, s10039.1.map MBlk.ctr⟩)], 1⟩) (le_of [(1, some 2), (2, some 256), (3, some 193)] A (.s (.s (.s (.s (.s (.s .nil A) A) A) A) A) A) (.box A A (.s A) (.box A A (.s A) (.row A A A (clm kr_MBlkct _) .nil)))) ?_
    intro s10039 y10040 hF hx10041
    refine w_seq (w_region (by rfl) (dv1 (l_bin A A b_lss) (dvE (q_seq (w_seq ?_)))))
    rcases condE hF with ⟨b10043, hF⟩ | ⟨b10043, hF⟩
    · refine w_condT A b10043 ?_
      refine w_skip (q_seq ?_)
      obtain ⟨s10046, hF, hG10047⟩ := bindE hF
      refine w_seqJ ⟨[(4, .ad 1 2 0 0), (6, .fn (.func 27) [] [.ro (.rp (lC_bC a1) 0)]), (11, .ad 2 2 0 0), (12, .v (.int .i64 s10046.2)), (63, .v (.int .i64 ((y6034.Blocks.length : Nat) : Int))), (64, .v (.int .i64 s10039.2.2))], [(1, some ⟨33, 2, [[.v (.int .i64 0), .v (.slice none 0 0)]]⟩), (2, some ⟨33, 2, [[.v (.int .i64 y6034.Ret), .rf 3 0 ((s10046.1.map MBlk.ct).length) 8]]⟩), (3, some ⟨47, 8, s10046.1.map MBlk.ctr⟩)], 1⟩ ?_ ?_
      · refine w_block (w_seq (w_region (by rfl) (dv1 (l_move (.v _)) (dv1 (l_assign (.v _)) (dvE (q_seq (w_seq (w_region (by rfl) ?_))))))))
        refine dv1 (l_field fd33_1 A) (dv1 (l_load ty31 A A A A A) (dv1 (l_move (.v _)) ?_))
        obtain ⟨x10048, h10049, hF⟩ := bindE hF
        refine dv1 (l_index s10039.2.2.toNat sl31 A A (atI_z h10049) (lt_at MBlk.ct (atI_at h10049))) (dv1 (l_assign (.ad _ _ _ _)) (dvE (q_seq (w_seq (w_region (by rfl) (dv1 (l_move (.v _)) (dv1 (l_move (.ad _ _ _ _)) (dv1 (l_nil A) ?_))))))))
        refine dv1 (l_field fd47_0 A) (dv1 (l_load ty29 A A (map_at (atI_at h10049)) A A) (dv1 (l_lenRo sl29 A A (List.length_map _)) (dv1 (l_bin A A (b_add A)) (dv1 (l_assign (.v _)) (dvE (q_seq (w_seq (w_region (by rfl) ?_))))))))
        refine dv1 (l_move (.ad _ _ _ _)) (dv1 (l_nil A) (dv1 (l_field fd47_1 A) (dv1 (l_load ty43 A A (map_at (atI_at h10049)) A A) (dv1 (l_assign (.ro _)) (dvE (q_seq (w_seq (w_region (by rfl) ?_))))))))
        refine dv1 (l_move (.ad _ _ _ _)) (dv1 (l_nil A) (dv1 (l_field fd47_1 A) (dvS (l_store ty43 A (.v _) A (map_at (atI_at h10049)) A (Nat.le_of_ble_eq_true A) A) (dvE (q_seq (w_seq (w_region (by rfl) (dv1 (l_move (.ro _)) ?_))))))))
        refine dv1 (l_lenRo sl43 A A (List.length_map _)) (dv1 (l_move (.v _)) (dvE (q_seq (w_block (w_loopF hF (fun (s13050 : Int × Nat × (List MOp)) => ⟨[(4, .ad 1 2 0 0), (6, .fn (.func 27) [] [.ro (.rp (lC_bC a1) 0)]), (11, .ad 2 2 0 0), (12, .v (.int .i64 s13050.1)), (14, .ad 3 8 s10039.2.2.toNat 0), (63, .v (.int .i64 ((y6034.Blocks.length : Nat) : Int))), (64, .v (.int .i64 s10039.2.2)), (85, .ro (.sl 49 8 (x10048.Ops.map MOp.ct))), (86, .v (.int .i64 ((x10048.Ops.length : Nat) : Int))), (87, .v (.int .i64 ((s13050.2.1 : Nat) : Int)))], [(1, some ⟨33, 2, [[.v (.int .i64 0), .v (.slice none 0 0)]]⟩), (2, some ⟨33, 2, [[.v (.int .i64 y6034.Ret), .rf 3 0 ((s10039.1.map MBlk.ct).length) 8]]⟩), (3, some ⟨47, 8, (s10039.1.map MBlk.ctr).set s10039.2.2.toNat [.ro (.sl 3 1 (x10048.Params.map iC)), .rf 4 0 ((s13050.2.2.map MOp.ct).length) 8, .v (.int .i64 x10048.End.K), .v (.int .i64 x10048.End.A), .v (.int .i64 x10048.End.To), .v (.int .i64 x10048.End.Else), .ro (.sl 3 1 (x10048.End.L.map iC)), .ro (.sl 3 1 (x10048.End.M.map iC))]⟩), (4, some ⟨49, 8, s13050.2.2.map MOp.ctr⟩)], 1⟩) (le_of [(1, some 1), (2, some 2), (3, some 3), (4, none)] A (.s (.s (.s (.s (.s (.s (.s (.s (.s (.s .nil A) A) A) A) A) A) A) A) A) A) (.box A A (.s A) (.box A A (.s A) (.opn A A (clm kr_MBlkct _) (.cons (.ro A) (.cons (.nil ⟨by simp, A⟩) (.cons (.v A) (.cons (.v A) (.cons (.v A) (.cons (.v A) (.cons (.ro A) (.cons (.ro A) .nil)))))))) (.new ⟨by simp, A⟩ .nil))))) ?_)))))
        intro s13050 y13051 hF hx13052
        refine w_seq (w_region (by rfl) (dv1 (l_bin A A b_lssN) (dvE (q_seq (w_seq ?_)))))
        rcases condE hF with ⟨b13054, hF⟩ | ⟨b13054, hF⟩
        · refine w_lenS 85 A fun l13055 => ?_
          refine w_condT A b13054 ?_
          refine w_skip (q_seq (w_seq (w_block (w_seq (w_region (by rfl) ?_)))))
          obtain ⟨x13056, h13057, hF⟩ := bindE hF
          refine dv1 (l_indexRo s13050.2.1 sl43 A A A (map_at h13057)) (dv1 (l_loadARo ty49 A A) (dvN (l_alloc zt49) (dvS (l_store ty49 A (.ag _) A A A (Nat.le_of_ble_eq_true A) A) (dvE (q_seq ?_)))))
          obtain ⟨s13059, hF, hG13060⟩ := bindE hF
          refine w_seqJ ⟨[(4, .ad 1 2 0 0), (6, .fn (.func 27) [] [.ro (.rp (lC_bC a1) 0)]), (11, .ad 2 2 0 0), (12, .v (.int .i64 s13050.1)), (14, .ad 3 8 s10039.2.2.toNat 0), (63, .v (.int .i64 ((y6034.Blocks.length : Nat) : Int))), (64, .v (.int .i64 s10039.2.2)), (85, .ro (.sl 49 8 (x10048.Ops.map MOp.ct))), (86, .v (.int .i64 ((x10048.Ops.length : Nat) : Int))), (87, .v (.int .i64 ((s13050.2.1 : Nat) : Int)))], [(1, some ⟨33, 2, [[.v (.int .i64 0), .v (.slice none 0 0)]]⟩), (2, some ⟨33, 2, [[.v (.int .i64 y6034.Ret), .rf 3 0 ((s10039.1.map MBlk.ct).length) 8]]⟩), (3, some ⟨47, 8, (s10039.1.map MBlk.ctr).set s10039.2.2.toNat [.ro (.sl 3 1 (x10048.Params.map iC)), .rf 4 0 ((s13059.map MOp.ct).length) 8, .v (.int .i64 x10048.End.K), .v (.int .i64 x10048.End.A), .v (.int .i64 x10048.End.To), .v (.int .i64 x10048.End.Else), .ro (.sl 3 1 (x10048.End.L.map iC)), .ro (.sl 3 1 (x10048.End.M.map iC))]⟩), (4, some ⟨49, 8, s13059.map MOp.ctr⟩)], 1⟩ ?_ ?_
          · refine w_seq (w_region (by rfl) (dv1 (l_move (.fn _ _ _)) (dv1 (l_move (.v _)) ?_)))
            obtain ⟨y13061, h13062, hF⟩ := bindE hF
            refine dvC (l_callV (B := false) (caps := [.rp (lC_bC a1) 0]) (FnI.mk' (by kernel_rfl)) (.fn _ _ _) (.fn _ A) (.cons (.v _) (.one (.v _)) .nil) (p_tidy_Kept_1_ac h13062) (okF p_tidy_Kept_1_ok)) ?_
            rintro _ rfl
            refine dv1 (l_not A) (dvE (q_seq ?_))
            rcases condE hF with ⟨b13063, hF⟩ | ⟨b13063, hF⟩
            · refine w_condF A (nF b13063) ?_
              refine w_skip ?_
              cases hF
              refine q_join ?_
              exact (le_of [(1, some 1), (2, some 2), (3, some 3), (4, some 4)] A (.s (.s (.s (.s (.s (.s (.s (.s (.s (.s .nil A) A) A) A) A) A) A) A) A) A) (.box A A (.s A) (.box A A (.s A) (.opn A A (clm kr_MBlkct _) (.s A) (.row A A A (clm kr_MOpct _) .nil)))))
            · refine w_condT A (nT b13063) ?_
              refine w_draw [[], [], [1], [1, 2], [1, 2, 3], [], [5], [1, 2, 3, 4, 5, 6], [0, 1, 2, 3, 4, 5, 6, 7], [0, 1, 2, 3, 4, 5, 6, 7, 8], [0, 1, 2, 3, 4, 5, 6, 7, 8, 9]] [0, 1, 2, 3, 4, 5, 6, 7, 8, 9, 10] (by kernel_rfl) (by rfl) ⟨by decide, by rfl⟩ (by rfl) ?_
              refine de1 A (l_move (.ad _ _ _ _)) A (de1 A (l_move (.ad _ _ _ _)) A (de1 A (l_nil A) A (de1 A (l_field fd47_1 A) A (de1 A (l_load ty43 A A (set_at (atI_at h10049)) A A) A (de1 A (l_loadA ty49 A A A A A) A (deN A (l_bs1 sl43 zt49 A (.ag _) A A A (by decide) (by decide)) A ?_))))))
              obtain ⟨c13064, hF⟩ := ckE hF
              refine deN3 A (l_app1R el43 A A A ((List.length_map _).trans (List.length_map _).symm) A A (by decide) (map_snoc MOp.ctr _ x13056) (List.length_map _) (by simpa using c13064) (by decide)) A ?_
              refine de1 A (l_nil A) A (de1 A (l_field fd47_1 A) A (deS A (l_storeR ty43 A (.rf _ _ _ _) A (set_at (atI_at h10049)) A (Nat.le_of_ble_eq_true A) A (List.set_set ..)) A (ddE ?_)))
              cases hF
              refine q_join ?_
              exact (le_of [(1, some 1), (2, some 2), (3, some 3), (4, some 1088)] A (.s (.s (.s (.s (.s (.s (.s (.s (.s (.s .nil A) A) A) A) A) A) A) A) A) A) (.box A A (.s A) (.box A A (.s A) (.opn A A (clm kr_MBlkct _) (.cons (.ro A) (.cons (.rf A (by simp)) (.cons (.v A) (.cons (.v A) (.cons (.v A) (.cons (.v A) (.cons (.ro A) (.cons (.ro A) .nil)))))))) (.row A A A (clm kr_MOpct _) .nil)))))
          replace hF := hG13060
          refine w_region (by rfl) (dv1 (l_move (.v _)) (dv1 (l_bin A A (b_add A)) (dv1 (l_assign (.v _)) (dvE (q_in (q_seq (w_region (by rfl) (dv1 (l_bin A A (b_incN (of_decide_eq_true b13054) l13055)) ?_))))))))
          refine dv1 (l_move (.v _)) (dvE ?_)
          cases hF
          refine qL A ?_
          exact (le_of [(1, some 1), (2, some 2), (3, some 3), (4, some 4)] A (.s (.s (.s (.s (.s (.s (.s (.s (.s (.s .nil A) A) A) A) A) A) A) A) A) A) (.box A A (.s A) (.box A A (.s A) (.opn A A (clm kr_MBlkct _) (.s A) (.row A A A (clm kr_MOpct _) .nil)))))
        · refine w_condF A b13054 ?_
          refine w_exit ?_
          cases hF
          cases hx13052 _ rfl
          refine q_exS (q_exS (q_here (q_in (q_join ?_))))
          refine St.le.trans (le_freezeR 4 (Wk.sl (WkE.map wr_MOpct _)) [] [(3, some ⟨47, 8, (s10039.1.map MBlk.ctr).set s10039.2.2.toNat [.ro (.sl 3 1 (x10048.Params.map iC)), .ro (.sl 49 8 (s13050.2.2.map MOp.ct)), .v (.int .i64 x10048.End.K), .v (.int .i64 x10048.End.A), .v (.int .i64 x10048.End.To), .v (.int .i64 x10048.End.Else), .ro (.sl 3 1 (x10048.End.L.map iC)), .ro (.sl 3 1 (x10048.End.M.map iC))]⟩)] A (clm kr_MOpct _) .nil (.at_ (i := s10039.2.2.toNat) A (by decide) (set_at (atI_at h10049)) (.same (.ro (((List.length_map _).trans (List.length_map _).symm)).symm (.same (.same (.same (.same (.same (.same .nil)))))))) (List.set_set ..) .nil)) ?_
          refine St.le.trans (le_closeR 3 s10039.2.2.toNat A (set_at (atI_at h10049)) (.cons (.of (.ro _)) (.cons (.of (.ro _)) (.cons (.of (.v _)) (.cons (.of (.v _)) (.cons (.of (.v _)) (.cons (.of (.v _)) (.cons (.of (.ro _)) (.cons (.of (.ro _)) .nil)))))))) (by decide) (by decide) A (set_cl MBlk.ctr _ _ _ (⟨x10048.Params, s13050.2.2, x10048.End⟩ : MBlk))) ?_
          exact (le_of [(1, some 1), (2, some 2), (3, some 3)] A (.s (.s (.s (.s (.s (.s .nil A) A) A) A) A) A) (.box A A (.s A) (.box A A (.cons (.v A) (.cons (.rf A (by simp)) .nil)) (.row A A A (clm kr_MBlkct _) .nil))))
      replace hF := hG10047
      refine w_region (by rfl) (dv1 (l_bin A A (b_add A)) (dv1 (l_move (.v _)) (dvE ?_)))
      cases hF
      refine qL A ?_
      exact (le_of [(1, some 1), (2, some 2), (3, some 3)] A (.s (.s (.s (.s (.s (.s .nil A) A) A) A) A) A) (.box A A (.s A) (.box A A (.s A) (.row A A A (clm kr_MBlkct _) .nil))))
    · refine w_condF A b10043 ?_
      refine w_exit ?_
      cases hF
      cases hx10041 _ rfl
      refine q_exS (q_exS (q_here (q_join ?_)))
      exact (le_of [(1, some 1), (2, some 2), (3, some 3)] A (.s (.s .nil A) A) (.box A A (.s A) (.box A A (.s A) (.row A A A (clm kr_MBlkct _) .nil))))
  replace hF := hG6038
  refine w_seq (w_region (by rfl) (dv1 (l_loadA ty33 A A A A A) (dvS (l_store ty33 A (.ag _) A A A (Nat.le_of_ble_eq_true A) A) (dvE (q_seq (W.le (le_freezeR 3 (Wk.sl (WkE.map wr_MBlkct _)) [(109, .ag [.v (.int .i64 y6034.Ret), .ro (.sl 47 8 (s6037.map MBlk.ct))])] [(1, some ⟨33, 2, [[.v (.int .i64 y6034.Ret), .ro (.sl 47 8 (s6037.map MBlk.ct))]]⟩), (2, some ⟨33, 2, [[.v (.int .i64 y6034.Ret), .ro (.sl 47 8 (s6037.map MBlk.ct))]]⟩)] A (clm kr_MBlkct _) (.ag A (.same (.ro (((List.length_map _).trans (List.length_map _).symm)).symm .nil)) .nil) (.at_ (i := 0) A (by decide) A (.same (.ro (((List.length_map _).trans (List.length_map _).symm)).symm .nil)) A (.at_ (i := 0) A (by decide) A (.same (.ro (((List.length_map _).trans (List.length_map _).symm)).symm .nil)) A .nil))) ?_))))))
  refine w_ret ?_
  cases hF
  refine q_endS (.inr A) ?_
  exact ⟨_, _, ret_okK A (.cons (.cellA ty33 A A A (.cons (.of (.v _)) (.cons (.of (.ro _)) .nil))) .nil) (by decide) ⟨A, A⟩, gb0⟩
end Go.Proofs.YtpeafglbhjjbhaaDoor

