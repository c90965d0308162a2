import Derived.Test.YtakpikoffbgjfaaRJ
namespace Go.Proofs.Ytakpikoffbgjfaa
open Go.RowKit Go.Maps

/-- A call, as the law is handed it. -/
structure AC where
  kind : Int
  r : Int
  i : Int
  n : Int
  v : VV
  stack : Bool
def AC.cs (a : AC) : List Value := [I a.kind, I a.r, I a.i, I a.n, I a.v.n, .string a.v.s, I a.v.r, .bool a.stack]
abbrev ActV (a : AC) : Value := .agg #[I a.kind, I a.r, I a.i, I a.n, I a.v.n, .string a.v.s, I a.v.r, .bool a.stack]
/-- Both memories, apart from each other. -/
structure TwoW (w : World) (F G : Nat → Prop) (p r : Nat) (M : HM) (R : RM) : Prop where
  h : ∃ tv fv qs, MemW w F p M tv fv qs
  r : ∃ lv qs, RmW w G r R lv qs
  d : ∀ k, F k → ¬ G k
theorem TwoW.lt {w : World} {F G : Nat → Prop} {p r : Nat} {M : HM} {R : RM} (h : TwoW w F G p r M R) : ∀ k, F k ∨ G k → k < w.heap.size := by
  obtain ⟨_, _, _, h1⟩ := h.h
  obtain ⟨_, _, h2⟩ := h.r
  intro k hk
  rcases hk with hk | hk
  · exact h1.lt k hk
  · exact h2.lt k hk
theorem TwoW.below {w w' : World} {F G : Nat → Prop} {p r : Nat} {M : HM} {R : RM} (h : TwoW w F G p r M R) (hb : Below w.heap.size w w') : TwoW w' F G p r M R := by
  obtain ⟨_, _, _, h1⟩ := h.h
  obtain ⟨_, _, h2⟩ := h.r
  exact ⟨⟨_, _, _, h1.below hb⟩, ⟨_, _, h2.below hb⟩, h.d⟩
theorem TwoW.heap {w w' : World} {F F' G : Nat → Prop} {p r : Nat} {M M' : HM} {R : RM} {tv fv : Value} {qs : List TQ} (h : TwoW w F G p r M R) (hm : MemW w' F' p M' tv fv qs) (hc : Chg F w w') (hn : ∀ k, F' k → F k ∨ w.heap.size ≤ k) : TwoW w' F' G p r M' R := by
  obtain ⟨_, _, h2⟩ := h.r
  refine ⟨⟨_, _, _, hm⟩, ⟨_, _, h2.chg hc (fun k hg hf => h.d k hf hg)⟩, fun k hf hg => ?_⟩
  rcases hn k hf with e | e
  · exact h.d k e hg
  · have := h2.lt k hg; omega
theorem TwoW.ref {w w' : World} {F G G' : Nat → Prop} {p r : Nat} {M : HM} {R R' : RM} {lv : Value} {qs : List RQ} (h : TwoW w F G p r M R) (hm : RmW w' G' r R' lv qs) (hc : Chg G w w') (hn : ∀ k, G' k → G k ∨ w.heap.size ≤ k) : TwoW w' F G' p r M R' := by
  obtain ⟨_, _, _, h1⟩ := h.h
  refine ⟨⟨_, _, _, h1.chg hc (fun k hf hg => h.d k hf hg)⟩, ⟨_, _, hm⟩, fun k hf hg => ?_⟩
  rcases hn k hg with e | e
  · exact h.d k hf e
  · have := h1.lt k hf; omega
/-- A call that changes both. -/
def TwoRes (w : World) (F G : Nat → Prop) (p r : Nat) (M' : HM) (R' : RM) (v : Value) (e : Ending) (w' : World) : Prop :=
  ∃ F' G', e = .returned v ∧ TwoW w' F' G' p r M' R' ∧ Chg (fun k => F k ∨ G k) w w' ∧ (∀ k, F' k → F k ∨ w.heap.size ≤ k) ∧ (∀ k, G' k → G k ∨ w.heap.size ≤ k)
/-- What both can bear. -/
structure Okay (M : HM) (R : RM) : Prop where
  calm : Calm M
  sorted : M.frames.Pairwise (· < ·)
  l0 : 0 ≤ M.last
  l1 : M.last ≤ 1000000000
  mkeys : ∀ t ∈ M.things, t.keys.length ≤ 1000000000
  rr : RRoom R
  rkeys : ∀ t ∈ R.l, t.vals.length ≤ 1000000000 ∧ t.keys.length ≤ 1000000000
/-- The box of a call stays. -/
theorem box_kept {w w' : World} {F : Nat → Prop} {bx e : Nat} {cs : List Value} (h : Arr w bx e cs) (hc : Chg F w w') (hF : ¬ F bx) : Arr w' bx e cs := h.block (hc.block bx h.lt hF)
def eqV (x y : VV) : Bool := (x.n == y.n) && (decide (x.s.toList = y.s.toList) && (x.r == y.r))
def getV (M : HM) (r i : Int) : VV := if valF M r i ≠ 0 then V0 else ((M.things[(r - 1).toNat]?).bind fun t => t.vals[i.toNat]?).getD V0
theorem get_any2 (w : World) (F : Nat → Prop) (p : Nat) (M : HM) (tv fv : Value) (qs : List TQ) (r i : Int) (h : MemW w F p M tv fv qs) (hs : M.frames.Pairwise (· < ·)) (hfl : M.frames.length ≤ 1000000000) (hth : M.things.length ≤ 1000000000) :
    Calls Try.prog 11 #[P0 p, I r, I i] w (RGetRes w (getV M r i, valF M r i)) := by
  refine (get_any w F p M tv fv qs r i h hs hfl hth).mono ?_
  rintro e w' ⟨v, rfl, hb, h1, h2⟩
  have hv : getV M r i = v := by
    unfold getV
    by_cases hx : valF M r i = 0
    · obtain ⟨j, k, t, rfl, rfl, ht, hv⟩ := h2 hx
      rw [if_neg (by simp [hx]), show ((j : Int) + 1 - 1).toNat = j by omega, ht]
      simp [hv]
    · rw [if_pos hx, h1 hx]
  exact ⟨by rw [hv], hb⟩
def asksF (a : AC) (M : HM) (R : RM) : Bool × HM × RM :=
  if a.kind = 5 then (eqV (getV M a.r a.i) (rgetF R a.r a.i).1 && (valF M a.r a.i == (rgetF R a.r a.i).2), M, R)
  else if a.kind = 6 then ((setF M a.r a.i a.v).2 == (rsetF R a.r a.i a.v).2, (setF M a.r a.i a.v).1, (rsetF R a.r a.i a.v).1)
  else if a.kind = 7 then (((sizeF M a.r).1 == (rsizeF R a.r).1) && ((sizeF M a.r).2 == (rsizeF R a.r).2), M, R)
  else if a.kind = 8 then ((putF M a.r a.i a.n).2 == (rputF R a.r a.i a.n).2, (putF M a.r a.i a.n).1, (rputF R a.r a.i a.n).1)
  else if a.kind = 9 then (((lookF M a.r a.i).1 == (rlookF R a.r a.i).1) && ((lookF M a.r a.i).2 == (rlookF R a.r a.i).2), M, R)
  else if a.kind = 10 then (((keyF M a.r a.i).1 == (rkeyF R a.r a.i).1) && ((keyF M a.r a.i).2 == (rkeyF R a.r a.i).2), M, R)
  else (true, M, R)
set_option maxHeartbeats 4000000 in
set_option maxRecDepth 100000 in
theorem asks5 (w : World) (F G : Nat → Prop) (p r : Nat) (M : HM) (R : RM) (a : AC) (h : TwoW w F G p r M R) (ho : Okay M R) (hk : a.kind = 5) :
    Calls Try.prog 33 #[P0 p, P0 r, ActV a] w (TwoRes w F G p r M R (.bool (eqV (getV M a.r a.i) (rgetF R a.r a.i).1 && (valF M a.r a.i == (rgetF R a.r a.i).2)))) := by
  obtain ⟨ak, ar, ai, an, av, ast⟩ := a
  simp only at hk ⊢
  subst hk
  have HH := Lib.hid h
  have HO := Lib.hid ho
  have HA := Lib.hid (Arr.new w 45 #[I 5, I ar, I ai, I an, I av.n, .string av.s, I av.r, .bool ast])
  have HB := Lib.hid (below_alloc w (.cells #[I 5, I ar, I ai, I an, I av.n, .string av.s, I av.r, .bool ast] 45))
  clear h ho
  go_enter Try.func33, Try.ntmps33
  go_wp2_with fail
  obtain ⟨tv, fv, qs, hm⟩ := HH.out.h
  obtain ⟨lv, rqs, hr⟩ := HH.out.r
  have HM := Lib.hid hm
  have HR := Lib.hid hr
  clear hm hr
  refine (get_any2 _ F p M tv fv qs ar ai (HM.out.below HB.out) HO.out.sorted HO.out.calm.fl HO.out.calm.th).mono ?_
  rintro e w2 ⟨rfl, hb2⟩
  obtain ⟨X, hX⟩ : ∃ X, (getV M ar ai, valF M ar ai) = X := ⟨_, rfl⟩
  rw [hX]
  have hB2 := below_step HB.out hb2 HB.out.size
  have hA2 := HA.out.below hb2
  have x1 : w2.cell? ⟨w.heap.size, 1, none⟩ = some (I ar) := hA2.cell 1
  have x2 : w2.cell? ⟨w.heap.size, 2, none⟩ = some (I ai) := hA2.cell 2
  have HA2 := Lib.hid hA2
  have HB2 := Lib.hid hB2
  have hbl := hA2.lt
  have HX := Lib.hid hX
  clear hA2 hB2 hb2 hX
  go_wp2_with fail
  refine (rget_any _ G r R lv rqs ar ai ((HR.out.below HB2.out).below (below_alloc w2 (.cells #[I X.1.n, .string X.1.s, I X.1.r] 30))) HO.out.rr.ll).mono ?_
  rintro e w3 ⟨rfl, hb3⟩
  obtain ⟨Y, hY⟩ : ∃ Y, rgetF R ar ai = Y := ⟨_, rfl⟩
  rw [hY]
  have hA3 := (Arr.new w2 30 #[I X.1.n, .string X.1.s, I X.1.r]).below hb3
  have y0 : w3.cell? ⟨w2.heap.size, 0, none⟩ = some (I X.1.n) := hA3.cell 0
  have y1 : w3.cell? ⟨w2.heap.size, 1, none⟩ = some (.string X.1.s) := hA3.cell 1
  have y2 : w3.cell? ⟨w2.heap.size, 2, none⟩ = some (I X.1.r) := hA3.cell 2
  have hyl := hA3.lt
  have HB3 := Lib.hid (below_step (HB2.out.alloc HB2.out.size (.cells #[I X.1.n, .string X.1.s, I X.1.r] 30)) hb3 (by have := HB2.out.size; simp; omega))
  have HY := Lib.hid hY
  clear hA3 hb3 hY x1 x2
  have HT3 := Lib.hid (HH.out.below (HB3.out.alloc HB3.out.size (.cells #[I Y.1.n, .string Y.1.s, I Y.1.r] 30)))
  have HC3 : Hid (Chg (fun k => F k ∨ G k) w (w3.alloc (.cells #[I Y.1.n, .string Y.1.s, I Y.1.r] 30))) := Lib.hid (chg_seq (F := fun k => F k ∨ G k) (a := w) ⟨HB3.out.os, HB3.out.tape, HB3.out.output, HB3.out.size, fun k hk _ => HB3.out.block k hk⟩ ((Chg.refl _ w3).alloc _))
  obtain ⟨⟨xn, xs, xr⟩, xe⟩ := X
  obtain ⟨⟨yn, ys, yr⟩, ye⟩ := Y
  simp only at *
  go_wp2_with fail
  all_goals
    go_ret
    refine ⟨F, G, ?_, HT3.out, HC3.out, fun k hk => .inl hk, fun k hk => .inl hk⟩
    rw [show getV M ar ai = _ from congrArg Prod.fst HX.out, show valF M ar ai = _ from congrArg Prod.snd HX.out, HY.out]
    clear HX HY HT3 HC3 HB3 HA2 HB2 HA HB HM HR HH HO
    simp_all [eqV]
set_option maxHeartbeats 4000000 in
set_option maxRecDepth 100000 in
theorem asks7 (w : World) (F G : Nat → Prop) (p r : Nat) (M : HM) (R : RM) (a : AC) (h : TwoW w F G p r M R) (ho : Okay M R) (hk : a.kind = 7) :
    Calls Try.prog 33 #[P0 p, P0 r, ActV a] w (TwoRes w F G p r M R (.bool (((sizeF M a.r).1 == (rsizeF R a.r).1) && ((sizeF M a.r).2 == (rsizeF R a.r).2)))) := by
  obtain ⟨ak, ar, ai, an, av, ast⟩ := a
  simp only at hk ⊢
  subst hk
  have HH := Lib.hid h
  have HO := Lib.hid ho
  have HB := Lib.hid (below_alloc w (.cells #[I 7, I ar, I ai, I an, I av.n, .string av.s, I av.r, .bool ast] 45))
  clear h ho
  go_enter Try.func33, Try.ntmps33
  go_wp2_with fail
  obtain ⟨tv, fv, qs, hm⟩ := HH.out.h
  obtain ⟨lv, rqs, hr⟩ := HH.out.r
  have HM := Lib.hid hm
  have HR := Lib.hid hr
  clear hm hr
  refine (size_any _ F p M tv fv qs ar (HM.out.below HB.out) HO.out.sorted HO.out.calm.fl HO.out.calm.th).mono ?_
  rintro e w2 ⟨q, rfl, rfl⟩
  obtain ⟨X, hX⟩ : ∃ X, (sizeF M ar) = X := ⟨_, rfl⟩
  rw [hX]
  have HX := Lib.hid hX
  clear hX
  go_wp2_with fail
  refine (rsize_any _ G r R lv rqs ar ((HR.out.below HB.out).drewN q) HO.out.rkeys).mono ?_
  rintro e w3 ⟨rfl, hb3⟩
  obtain ⟨Y, hY⟩ : ∃ Y, (rsizeF R ar) = Y := ⟨_, rfl⟩
  rw [hY]
  have HB3 : Hid (Below w.heap.size w w3) := Lib.hid (below_step (below_drewN HB.out q) hb3 (below_drewN HB.out q).size)
  have HY := Lib.hid hY
  clear hb3 hY
  have HT3 := Lib.hid (HH.out.below HB3.out)
  have HC3 : Hid (Chg (fun k => F k ∨ G k) w w3) := Lib.hid ⟨HB3.out.os, HB3.out.tape, HB3.out.output, HB3.out.size, fun k hk _ => HB3.out.block k hk⟩
  obtain ⟨xn, xe⟩ := X
  obtain ⟨yn, ye⟩ := Y
  simp only at *
  go_wp2_with fail
  all_goals
    go_ret
    refine ⟨F, G, ?_, HT3.out, HC3.out, fun k hk => .inl hk, fun k hk => .inl hk⟩
    rw [HX.out, HY.out]
    clear HX HY HT3 HC3 HB3 HB HM HR HH HO
    simp_all
set_option maxHeartbeats 4000000 in
set_option maxRecDepth 100000 in
theorem asks9 (w : World) (F G : Nat → Prop) (p r : Nat) (M : HM) (R : RM) (a : AC) (h : TwoW w F G p r M R) (ho : Okay M R) (hi : (Lit.int .i64 a.i).wf = true) (hk : a.kind = 9) :
    Calls Try.prog 33 #[P0 p, P0 r, ActV a] w (TwoRes w F G p r M R (.bool (((lookF M a.r a.i).1 == (rlookF R a.r a.i).1) && ((lookF M a.r a.i).2 == (rlookF R a.r a.i).2)))) := by
  obtain ⟨ak, ar, ai, an, av, ast⟩ := a
  simp only at hk hi ⊢
  subst hk
  have HI := Lib.hid hi
  clear hi
  have HH := Lib.hid h
  have HO := Lib.hid ho
  have HB := Lib.hid (below_alloc w (.cells #[I 9, I ar, I ai, I an, I av.n, .string av.s, I av.r, .bool ast] 45))
  clear h ho
  go_enter Try.func33, Try.ntmps33
  go_wp2_with fail
  obtain ⟨tv, fv, qs, hm⟩ := HH.out.h
  obtain ⟨lv, rqs, hr⟩ := HH.out.r
  have HM := Lib.hid hm
  have HR := Lib.hid hr
  clear hm hr
  refine (look_any _ F p M tv fv qs ar ai (HM.out.below HB.out) HO.out.sorted HO.out.calm.fl HO.out.calm.th HI.out).mono ?_
  rintro e w2 ⟨q, rfl, rfl⟩
  obtain ⟨X, hX⟩ : ∃ X, (lookF M ar ai) = X := ⟨_, rfl⟩
  rw [hX]
  have HX := Lib.hid hX
  clear hX
  go_wp2_with fail
  refine (rlook_any _ G r R lv rqs ar ai ((HR.out.below HB.out).drewN q) HO.out.rr.ll (fun t ht => (HO.out.rkeys t ht).2)).mono ?_
  rintro e w3 ⟨rfl, hb3⟩
  obtain ⟨Y, hY⟩ : ∃ Y, (rlookF R ar ai) = Y := ⟨_, rfl⟩
  rw [hY]
  have HB3 : Hid (Below w.heap.size w w3) := Lib.hid (below_step (below_drewN HB.out q) hb3 (below_drewN HB.out q).size)
  have HY := Lib.hid hY
  clear hb3 hY
  have HT3 := Lib.hid (HH.out.below HB3.out)
  have HC3 : Hid (Chg (fun k => F k ∨ G k) w w3) := Lib.hid ⟨HB3.out.os, HB3.out.tape, HB3.out.output, HB3.out.size, fun k hk _ => HB3.out.block k hk⟩
  obtain ⟨xn, xe⟩ := X
  obtain ⟨yn, ye⟩ := Y
  simp only at *
  go_wp2_with fail
  all_goals
    go_ret
    refine ⟨F, G, ?_, HT3.out, HC3.out, fun k hk => .inl hk, fun k hk => .inl hk⟩
    rw [HX.out, HY.out]
    clear HX HY HT3 HC3 HB3 HB HM HR HH HO
    simp_all
set_option maxHeartbeats 4000000 in
set_option maxRecDepth 100000 in
theorem asks10 (w : World) (F G : Nat → Prop) (p r : Nat) (M : HM) (R : RM) (a : AC) (h : TwoW w F G p r M R) (ho : Okay M R) (hk : a.kind = 10) :
    Calls Try.prog 33 #[P0 p, P0 r, ActV a] w (TwoRes w F G p r M R (.bool (((keyF M a.r a.i).1 == (rkeyF R a.r a.i).1) && ((keyF M a.r a.i).2 == (rkeyF R a.r a.i).2)))) := by
  obtain ⟨ak, ar, ai, an, av, ast⟩ := a
  simp only at hk ⊢
  subst hk
  have HH := Lib.hid h
  have HO := Lib.hid ho
  have HB := Lib.hid (below_alloc w (.cells #[I 10, I ar, I ai, I an, I av.n, .string av.s, I av.r, .bool ast] 45))
  clear h ho
  go_enter Try.func33, Try.ntmps33
  go_wp2_with fail
  obtain ⟨tv, fv, qs, hm⟩ := HH.out.h
  obtain ⟨lv, rqs, hr⟩ := HH.out.r
  have HM := Lib.hid hm
  have HR := Lib.hid hr
  clear hm hr
  refine (key_any _ F p M tv fv qs ar ai (HM.out.below HB.out) HO.out.sorted HO.out.calm.fl HO.out.calm.th).mono ?_
  rintro e w2 ⟨q, rfl, rfl⟩
  obtain ⟨X, hX⟩ : ∃ X, (keyF M ar ai) = X := ⟨_, rfl⟩
  rw [hX]
  have HX := Lib.hid hX
  clear hX
  go_wp2_with fail
  refine (rkey_any _ G r R lv rqs ar ai ((HR.out.below HB.out).drewN q) HO.out.rr.ll).mono ?_
  rintro e w3 ⟨rfl, hb3⟩
  obtain ⟨Y, hY⟩ : ∃ Y, (rkeyF R ar ai) = Y := ⟨_, rfl⟩
  rw [hY]
  have HB3 : Hid (Below w.heap.size w w3) := Lib.hid (below_step (below_drewN HB.out q) hb3 (below_drewN HB.out q).size)
  have HY := Lib.hid hY
  clear hb3 hY
  have HT3 := Lib.hid (HH.out.below HB3.out)
  have HC3 : Hid (Chg (fun k => F k ∨ G k) w w3) := Lib.hid ⟨HB3.out.os, HB3.out.tape, HB3.out.output, HB3.out.size, fun k hk _ => HB3.out.block k hk⟩
  obtain ⟨xn, xe⟩ := X
  obtain ⟨yn, ye⟩ := Y
  simp only at *
  go_wp2_with fail
  all_goals
    go_ret
    refine ⟨F, G, ?_, HT3.out, HC3.out, fun k hk => .inl hk, fun k hk => .inl hk⟩
    rw [HX.out, HY.out]
    clear HX HY HT3 HC3 HB3 HB HM HR HH HO
    simp_all
set_option maxHeartbeats 4000000 in
set_option maxRecDepth 100000 in
theorem asks_else (w : World) (F G : Nat → Prop) (p r : Nat) (M : HM) (R : RM) (a : AC) (h : TwoW w F G p r M R) (hk : a.kind ≠ 5 ∧ a.kind ≠ 6 ∧ a.kind ≠ 7 ∧ a.kind ≠ 8 ∧ a.kind ≠ 9 ∧ a.kind ≠ 10) :
    Calls Try.prog 33 #[P0 p, P0 r, ActV a] w (TwoRes w F G p r M R (.bool true)) := by
  obtain ⟨ak, ar, ai, an, av, ast⟩ := a
  simp only at hk ⊢
  obtain ⟨h5, h6, h7, h8, h9, h10⟩ := hk
  have d5 : (ak == 5) = false := by simpa using h5
  have d6 : (ak == 6) = false := by simpa using h6
  have d7 : (ak == 7) = false := by simpa using h7
  have d8 : (ak == 8) = false := by simpa using h8
  have d9 : (ak == 9) = false := by simpa using h9
  have d10 : (ak == 10) = false := by simpa using h10
  have HH := Lib.hid h
  have HB := Lib.hid (below_alloc w (.cells #[I ak, I ar, I ai, I an, I av.n, .string av.s, I av.r, .bool ast] 45))
  clear h h5 h6 h7 h8 h9 h10
  go_enter Try.func33, Try.ntmps33
  go_wp2_with fail
  go_ret
  exact ⟨F, G, rfl, HH.out.below HB.out, (Chg.refl _ w).alloc _, fun k hk => .inl hk, fun k hk => .inl hk⟩
end Go.Proofs.Ytakpikoffbgjfaa
