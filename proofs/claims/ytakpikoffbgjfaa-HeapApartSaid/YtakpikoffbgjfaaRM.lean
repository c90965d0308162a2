import Derived.Test.YtakpikoffbgjfaaRL
namespace Go.Proofs.Ytakpikoffbgjfaa
open Go.RowKit Go.Maps

/-- An append at a step of a region that draws its order, whatever is appended. -/
theorem step_append_rd {P : Program} {w : World} {ops : Array Oper} {o : Oper} {a : Act} {K : Act → World → Prop} {Q : Exit → Act → World → Prop} {G : Prop} (hgd : o.guard = none) (s x : Operand) (t : TypeId)
    (ho : o.op = .call { callee := .builtin .append, args := #[s, x], argTypes := #[t, t] })
    {e sz by_ : Nat} (E : ElemT P t e sz by_) {base : Nat} {v : Value} {n : Nat} {xs : List Value} (hs : a.eval s = v) (hown : w.ownsRow base e sz v n xs)
    {u : Value} {m : Nat} {news : List Value} (hx : a.eval x = u) (hr : Rd w u m news) (hl : news.length = m * sz) (h1 : ∀ c ∈ news, c.oneCell' = true)
    (hb : (n + m) * by_ ≤ 140737488355328) (hn : n + m ≤ maxLen) (hbase : base ≤ w.heap.size)
    (h : ∀ v' w', Ap base e sz w w' v v' (n + m) (xs ++ news) → K (a.put o.dst v') w') : if Region.wanted o (yielded ops a.tmps) = true then Oper.wp P o a w K Q else G := by
  obtain ⟨ht, ⟨i, z, hi, hz, hsz, hby, hzs⟩, hpos⟩ := E
  have hw : Region.wanted o (yielded ops a.tmps) = true := by simp [Region.wanted, hgd]
  rw [if_pos hw]
  obtain ⟨A, cap, rfl, hm, hc⟩ := hr.out
  rcases A with _ | ad
  · have hl0 : news = [] := by
      rcases Nat.eq_zero_or_pos news.length with h0 | h0
      · exact List.eq_nil_of_length_eq_zero h0
      · obtain ⟨b, off, hb, _⟩ := hc h0; cases hb
    subst hl0
    have hm0 : m = 0 := by
      rcases Nat.eq_zero_or_pos m with h0 | h0
      · exact h0
      · have := Nat.mul_pos h0 hpos
        simp at hl
        omega
    subst hm0
    have hrun : ∀ c, (Builtin.append_ #[t, t] o.type #[v, .slice none 0 c]).run P w = .ok v w := by
      intro c
      have hd := run_append_owned_none (P := P) (w := w) base t o.type e i sz ht hi v n xs hown
      rcases hown.2 with ⟨rfl, rfl⟩ | ⟨g, cp, cur, rfl, hbg, hg, hnc, hcm, hcs, htk⟩
      · simp [Builtin.append_, run_underlying ht, sizeOf, typeInfo, hi, Builtin.lenOf, Builtin.firstCells]
      · simp [Builtin.append_, run_underlying ht, sizeOf, typeInfo, hi, Builtin.lenOf, Builtin.firstCells, hnc, storeCells] at hd ⊢
    unfold Oper.wp
    simp [execOp, ho, resolve, invoke, builtin, hs, hx, hrun, Result.andThen]
    refine h v w ⟨?_, ⟨rfl, rfl, rfl, Nat.le_refl _, fun _ _ _ => rfl⟩, .inl rfl⟩
    simpa using hown
  · have hnews : ∀ j u, news[j]? = some u → w.cell? (ad.add j) = some u := fun j u hu => by
      have h0 : 0 < news.length := Nat.lt_of_le_of_lt (Nat.zero_le _) (List.getElem?_eq_some_iff.1 hu).1
      obtain ⟨b, off, e1, hlt, hcell⟩ := hc h0
      cases e1
      rw [add_plain']; exact hcell j u hu
    obtain ⟨v', w', hr, h2, h3, h4, h5⟩ := run_append_own_at (P := P) w base t o.type e i z sz by_ ht hi hz hsz hby hzs hpos v n xs hown ad m cap news hl hnews h1 hn hb hbase
    unfold Oper.wp execOp
    simp only [ho, resolve, invoke, builtin, Sem.run_bind, Sem.run_pure, Result.andThen_ok, List.map_toArray, List.map_cons, List.map_nil, hs, hx, hr]
    exact h v' w' ⟨h2, h3, h5⟩
def leaveM (M : HM) : HM := if 2 ≤ M.frames.length then { M with frames := M.frames.dropLast } else M
def objL (a : AC) : List VV := List.replicate (Int.tmod a.n 9).toNat a.v
def doesF (a : AC) (M : HM) (R : RM) : Bool × HM × RM :=
  if a.kind = 0 then (((M.frames.length : Int) + 1 == R.frames + 1), enterM M, enterR R)
  else if a.kind = 1 then (decide (2 ≤ M.frames.length) == (leaveR R).2, leaveM M, (leaveR R).1)
  else if a.kind = 2 then (((madeF M (hobjT (objL a)) a.stack).2.1 == (makeR R (objT (objL a)) a.stack).2.1) && ((madeF M (hobjT (objL a)) a.stack).2.2 == (makeR R (objT (objL a)) a.stack).2.2), (madeF M (hobjT (objL a)) a.stack).1, (makeR R (objT (objL a)) a.stack).1)
  else if a.kind = 3 then (((sliceF M a.n a.stack).2.1 == (rsliceF R a.n a.stack).2.1) && ((sliceF M a.n a.stack).2.2 == (rsliceF R a.n a.stack).2.2), (sliceF M a.n a.stack).1, (rsliceF R a.n a.stack).1)
  else if a.kind = 4 then (((madeF M tableT a.stack).2.1 == (makeR R tabT a.stack).2.1) && ((madeF M tableT a.stack).2.2 == (makeR R tabT a.stack).2.2), (madeF M tableT a.stack).1, (makeR R tabT a.stack).1)
  else asksF a M R
theorem two_out {w w1 w2 w2' w3 : World} {F F' G G' : Nat → Prop} {p r : Nat} {M' : HM} {R' : RM} {v : Value} (hb : Below w.heap.size w w1) (c2 : Chg F w1 w2) (hb2 : Below w2.heap.size w2 w2') (c3 : Chg G w2' w3)
    (n2 : ∀ k, F' k → F k ∨ w1.heap.size ≤ k) (n3 : ∀ k, G' k → G k ∨ w2'.heap.size ≤ k) (ht : TwoW w3 F' G' p r M' R') : TwoRes w F G p r M' R' v (.returned v) w3 := by
  have hs1 := hb.size
  have hs2 := c2.size
  have hs3 := hb2.size
  refine ⟨F', G', rfl, ht, ?_, fun k hk => ?_, fun k hk => ?_⟩
  · have c22 : Chg F w1 w2' := c2.trans (F := F) (G := Nof) ⟨hb2.os, hb2.tape, hb2.output, hb2.size, fun k hk _ => hb2.block k hk⟩ (fun _ h => h) (fun _ h _ => h.elim)
    exact Chg.trans (F := Nof) ⟨hb.os, hb.tape, hb.output, hb.size, fun k hk _ => hb.block k hk⟩ (c22.trans c3 (fun _ h => .inl h) (fun _ h _ => .inr h)) (fun _ h => h.elim) (fun _ h _ => h)
  · rcases n2 k hk with e | e
    · exact .inl e
    · exact .inr (by omega)
  · rcases n3 k hk with e | e
    · exact .inl e
    · exact .inr (by omega)
set_option maxHeartbeats 4000000 in
set_option maxRecDepth 100000 in
theorem does0 (w : World) (F G : Nat → Prop) (p r : Nat) (M : HM) (R : RM) (a : AC) (h : TwoW w F G p r M R) (ho : Okay M R) (hk : a.kind = 0) :
    Calls Try.prog 20 #[P0 p, P0 r, ActV a] w (TwoRes w F G p r (enterM M) (enterR R) (.bool ((M.frames.length : Int) + 1 == R.frames + 1))) := by
  obtain ⟨ak, ar, ai, an, av, ast⟩ := a
  simp only at hk
  subst hk
  have HH := Lib.hid h
  have HO := Lib.hid ho
  have HB := Lib.hid (below_alloc w (.cells #[I 0, I ar, I ai, I an, I av.n, .string av.s, I av.r, .bool ast] 45))
  clear h ho
  go_enter Try.func20, Try.ntmps20
  go_wp2_with fail
  obtain ⟨tv, fv, qs, hm⟩ := HH.out.h
  refine (enter_any _ F p M tv fv qs (hm.below HB.out) HO.out.calm.fr HO.out.l0 HO.out.l1 HO.out.calm.fl).mono ?_
  rintro e w2 ⟨F2, fv2, rfl, ho2⟩
  have HT2 := Lib.hid ((HH.out.below HB.out).heap ho2.mem ho2.chg ho2.new)
  have HC2 := Lib.hid ho2.chg
  have HN2 := Lib.hid ho2.new
  clear hm ho2
  go_wp2_with fail
  obtain ⟨lv, rqs, hr⟩ := HT2.out.r
  refine (renter_any _ G r R lv rqs hr ⟨HO.out.rr.f0, HO.out.rr.f1⟩).mono ?_
  rintro e w3 ⟨G3, lv3, rqs3, rfl, hr3, hc3, hn3⟩
  have HT3 := Lib.hid (HT2.out.ref hr3 hc3 hn3)
  have HN3 := Lib.hid hn3
  have HC3 := Lib.hid hc3
  clear hr hr3 hc3 hn3
  obtain ⟨x, hx⟩ : ∃ x : Int, (M.frames.length : Int) + 1 = x := ⟨_, rfl⟩
  obtain ⟨y, hy⟩ : ∃ y : Int, R.frames + 1 = y := ⟨_, rfl⟩
  rw [hx, hy]
  have HX := Lib.hid hx
  have HY := Lib.hid hy
  clear hx hy
  go_wp2_with fail
  go_ret
  rw [HX.out, HY.out]
  have hs1 := HB.out.size
  have hs2 := HC2.out.size
  refine ⟨F2, G3, rfl, HT3.out, ?_, fun k hk => ?_, fun k hk => ?_⟩
  · exact Chg.trans (F := Nof) ⟨HB.out.os, HB.out.tape, HB.out.output, HB.out.size, fun k hk _ => HB.out.block k hk⟩ (HC2.out.trans HC3.out (fun _ h => .inl h) (fun _ h _ => .inr h)) (fun _ h => h.elim) (fun _ h _ => h)
  · rcases HN2.out k hk with e | e
    · exact .inl e
    · exact .inr (by omega)
  · rcases HN3.out k hk with e | e
    · exact .inl e
    · exact .inr (by omega)
set_option maxHeartbeats 4000000 in
set_option maxRecDepth 100000 in
theorem does1 (w : World) (F G : Nat → Prop) (p r : Nat) (M : HM) (R : RM) (a : AC) (h : TwoW w F G p r M R) (ho : Okay M R) (hk : a.kind = 1) :
    Calls Try.prog 20 #[P0 p, P0 r, ActV a] w (TwoRes w F G p r (leaveM M) (leaveR R).1 (.bool (decide (2 ≤ M.frames.length) == (leaveR R).2))) := by
  obtain ⟨ak, ar, ai, an, av, ast⟩ := a
  simp only at hk
  subst hk
  have HH := Lib.hid h
  have HO := Lib.hid ho
  have HB := Lib.hid (below_alloc w (.cells #[I 1, I ar, I ai, I an, I av.n, .string av.s, I av.r, .bool ast] 45))
  clear h ho
  go_enter Try.func20, Try.ntmps20
  go_wp2_with fail
  obtain ⟨tv, fv, qs, hm⟩ := HH.out.h
  refine (leave_any _ F p M tv fv qs (hm.below HB.out) HO.out.calm.fl).mono ?_
  rintro e w2 ⟨fv2, rfl, ho2⟩
  have HT2 : Hid (TwoW w2 F G p r (leaveM M) R) := Lib.hid ((HH.out.below HB.out).heap ho2.mem ho2.chg ho2.new)
  have HC2 := Lib.hid ho2.chg
  have HN2 := Lib.hid ho2.new
  obtain ⟨x, hx⟩ : ∃ x : Bool, decide (2 ≤ M.frames.length) = x := ⟨_, rfl⟩
  rw [hx]
  have HX := Lib.hid hx
  clear hm ho2 hx
  go_wp2_with fail
  obtain ⟨lv, rqs, hr⟩ := HT2.out.r
  refine (rleave_any _ G r R lv rqs hr ⟨HO.out.rr.f0, HO.out.rr.f1⟩ HO.out.rr.ll).mono ?_
  rintro e w3 ⟨G3, lv3, rqs3, rfl, hr3, hc3, hn3⟩
  have HT3 := Lib.hid (HT2.out.ref hr3 hc3 hn3)
  have HN3 := Lib.hid hn3
  have HC3 := Lib.hid hc3
  obtain ⟨y, hy⟩ : ∃ y : Bool, (leaveR R).2 = y := ⟨_, rfl⟩
  rw [hy]
  have HY := Lib.hid hy
  clear hr hr3 hc3 hn3 hy
  cases x <;> cases y
  all_goals
    go_wp2_with fail
    go_ret
    rw [HX.out, HY.out]
    exact two_out HB.out HC2.out (Below.refl _ _) HC3.out HN2.out HN3.out HT3.out
set_option maxHeartbeats 4000000 in
set_option maxRecDepth 100000 in
theorem does3 (w : World) (F G : Nat → Prop) (p r : Nat) (M : HM) (R : RM) (a : AC) (h : TwoW w F G p r M R) (ho : Okay M R) (hk : a.kind = 3) :
    Calls Try.prog 20 #[P0 p, P0 r, ActV a] w (TwoRes w F G p r (sliceF M a.n a.stack).1 (rsliceF R a.n a.stack).1 (.bool (((sliceF M a.n a.stack).2.1 == (rsliceF R a.n a.stack).2.1) && ((sliceF M a.n a.stack).2.2 == (rsliceF R a.n a.stack).2.2)))) := by
  obtain ⟨ak, ar, ai, an, av, ast⟩ := a
  simp only at hk ⊢
  subst hk
  have HH := Lib.hid h
  have HO := Lib.hid ho
  have HA := Lib.hid (Arr.new w 45 #[I 3, I ar, I ai, I an, I av.n, .string av.s, I av.r, .bool ast])
  have HB := Lib.hid (below_alloc w (.cells #[I 3, I ar, I ai, I an, I av.n, .string av.s, I av.r, .bool ast] 45))
  have hnF : Hid (¬ F w.heap.size) := Lib.hid (fun e => by have := HH.out.lt _ (.inl e); omega)
  clear h ho
  go_enter Try.func20, Try.ntmps20
  go_wp2_with fail
  obtain ⟨tv, fv, qs, hm⟩ := HH.out.h
  refine (slice_any _ F p M tv fv qs an ast (hm.below HB.out) HO.out.calm).mono ?_
  obtain ⟨X, hX⟩ : ∃ X, (sliceF M an ast) = X := ⟨_, rfl⟩
  rw [hX]
  have HX := Lib.hid hX
  clear hX
  rintro e w2 ⟨F2, tv2, qs2, rfl, hm2, hc2, hn2⟩
  have HT2 := Lib.hid ((HH.out.below HB.out).heap hm2 hc2 hn2)
  have HC2 := Lib.hid hc2
  have HN2 := Lib.hid hn2
  have hA2 := box_kept HA.out hc2 hnF.out
  have x3 : w2.cell? ⟨w.heap.size, 3, none⟩ = some (I an) := hA2.cell 3
  have x7 : w2.cell? ⟨w.heap.size, 7, none⟩ = some (.bool ast) := hA2.cell 7
  obtain ⟨X1, xa, xb⟩ := X
  simp only at HX HT2 ⊢
  clear hm hm2 hc2 hn2 hA2
  go_wp2_with fail
  obtain ⟨lv, rqs, hr⟩ := HT2.out.r
  refine (rslice_any _ G r R lv rqs an ast hr HO.out.rr).mono ?_
  obtain ⟨Y, hY⟩ : ∃ Y, (rsliceF R an ast) = Y := ⟨_, rfl⟩
  rw [hY]
  have HY := Lib.hid hY
  clear hY
  rintro e w3 ⟨G3, lv3, rqs3, rfl, hr3, hc3, hn3⟩
  have HT3 := Lib.hid (HT2.out.ref hr3 hc3 hn3)
  have HN3 := Lib.hid hn3
  have HC3 := Lib.hid hc3
  obtain ⟨Y1, ya, yb⟩ := Y
  simp only at HY HT3 ⊢
  clear hr hr3 hc3 hn3 x3 x7
  have hfin : TwoRes w F G p r X1 Y1 (.bool ((xa == ya) && (xb == yb))) (.returned (.bool ((xa == ya) && (xb == yb)))) w3 := two_out HB.out HC2.out (Below.refl _ _) HC3.out HN2.out HN3.out HT3.out
  have HFIN := Lib.hid hfin
  clear hfin
  by_cases h1 : xa = ya
  · subst h1
    go_wp2_with fail
    go_ret
    rw [HX.out, HY.out]
    simpa using HFIN.out
  · have d1 : (xa == ya) = false := by simpa using h1
    have H1 := Lib.hid h1
    clear h1
    go_wp2_with fail
    go_ret
    rw [HX.out, HY.out]
    simpa [d1] using HFIN.out
set_option maxHeartbeats 4000000 in
set_option maxRecDepth 100000 in
theorem does4 (w : World) (F G : Nat → Prop) (p r : Nat) (M : HM) (R : RM) (a : AC) (h : TwoW w F G p r M R) (ho : Okay M R) (hk : a.kind = 4) :
    Calls Try.prog 20 #[P0 p, P0 r, ActV a] w (TwoRes w F G p r (madeF M tableT a.stack).1 (makeR R tabT a.stack).1 (.bool (((madeF M tableT a.stack).2.1 == (makeR R tabT a.stack).2.1) && ((madeF M tableT a.stack).2.2 == (makeR R tabT a.stack).2.2)))) := by
  obtain ⟨ak, ar, ai, an, av, ast⟩ := a
  simp only at hk ⊢
  subst hk
  have HH := Lib.hid h
  have HO := Lib.hid ho
  have HA := Lib.hid (Arr.new w 45 #[I 4, I ar, I ai, I an, I av.n, .string av.s, I av.r, .bool ast])
  have HB := Lib.hid (below_alloc w (.cells #[I 4, I ar, I ai, I an, I av.n, .string av.s, I av.r, .bool ast] 45))
  have hnF : Hid (¬ F w.heap.size) := Lib.hid (fun e => by have := HH.out.lt _ (.inl e); omega)
  clear h ho
  go_enter Try.func20, Try.ntmps20
  go_wp2_with fail
  obtain ⟨tv, fv, qs, hm⟩ := HH.out.h
  refine (table_any _ F p M tv fv qs ast (hm.below HB.out) HO.out.calm).mono ?_
  obtain ⟨X, hX⟩ : ∃ X, (madeF M tableT ast) = X := ⟨_, rfl⟩
  rw [hX]
  have HX := Lib.hid hX
  clear hX
  rintro e w2 ⟨F2, tv2, qs2, rfl, hm2, hc2, hn2⟩
  have HT2 := Lib.hid ((HH.out.below HB.out).heap hm2 hc2 hn2)
  have HC2 := Lib.hid hc2
  have HN2 := Lib.hid hn2
  have hA2 := box_kept HA.out hc2 hnF.out
  have x3 : w2.cell? ⟨w.heap.size, 3, none⟩ = some (I an) := hA2.cell 3
  have x7 : w2.cell? ⟨w.heap.size, 7, none⟩ = some (.bool ast) := hA2.cell 7
  obtain ⟨X1, xa, xb⟩ := X
  simp only at HX HT2 ⊢
  clear hm hm2 hc2 hn2 hA2
  go_wp2_with fail
  obtain ⟨lv, rqs, hr⟩ := HT2.out.r
  refine (rtable_any _ G r R lv rqs ast hr HO.out.rr).mono ?_
  obtain ⟨Y, hY⟩ : ∃ Y, (makeR R tabT ast) = Y := ⟨_, rfl⟩
  rw [hY]
  have HY := Lib.hid hY
  clear hY
  rintro e w3 ⟨G3, lv3, rqs3, rfl, hr3, hc3, hn3⟩
  have HT3 := Lib.hid (HT2.out.ref hr3 hc3 hn3)
  have HN3 := Lib.hid hn3
  have HC3 := Lib.hid hc3
  obtain ⟨Y1, ya, yb⟩ := Y
  simp only at HY HT3 ⊢
  clear hr hr3 hc3 hn3 x3 x7
  have hfin : TwoRes w F G p r X1 Y1 (.bool ((xa == ya) && (xb == yb))) (.returned (.bool ((xa == ya) && (xb == yb)))) w3 := two_out HB.out HC2.out (Below.refl _ _) HC3.out HN2.out HN3.out HT3.out
  have HFIN := Lib.hid hfin
  clear hfin
  by_cases h1 : xa = ya
  · subst h1
    go_wp2_with fail
    go_ret
    rw [HX.out, HY.out]
    simpa using HFIN.out
  · have d1 : (xa == ya) = false := by simpa using h1
    have H1 := Lib.hid h1
    clear h1
    go_wp2_with fail
    go_ret
    rw [HX.out, HY.out]
    simpa [d1] using HFIN.out
end Go.Proofs.Ytakpikoffbgjfaa
