import Derived.Test.YtakpikoffbgjfaaRD
namespace Go.Proofs.Ytakpikoffbgjfaa
open Go.RowKit Go.Maps

theorem vvs_append (a b : List VV) : vvs (a ++ b) = vvs a ++ vvs b := by simp [vvs]
theorem vvs_length (a : List VV) : (vvs a).length = a.length * 3 := by
  induction a with
  | nil => rfl
  | cons x l ih => simp only [vvs, List.flatMap_cons] at *; simp only [List.length_append, ih, VV.cs, List.length_cons, List.length_nil]; omega
theorem vvs_one (a : List VV) : ∀ c ∈ vvs a, c.oneCell' = true := by
  intro c h
  obtain ⟨v, _, h⟩ := List.mem_flatMap.1 h
  simp only [VV.cs, List.mem_cons, List.not_mem_nil, or_false] at h
  rcases h with rfl | rfl | rfl <;> rfl
theorem own_mono {w : World} {base e sz n : Nat} {v : Value} {xs : List Value} (h : w.ownsRow base e sz v n xs) : w.ownsRow 0 e sz v n xs := by
  refine ⟨h.1, ?_⟩
  rcases h.2 with hn | ⟨g', cap, cur, e1, hb, hh, hr⟩
  · exact .inl hn
  · exact .inr ⟨g', cap, cur, e1, Nat.zero_le _, hh, hr⟩
/-- A copy of values: it lies in a block that is new. -/
theorem copy_new {w w1 : World} {c1 : Value} {n : Nat} {l : List VV} {o : Obj} {v0 : Value} (h0 : (w.alloc o).ownsRow w.heap.size 30 3 v0 0 []) (hap : Ap w.heap.size 30 3 (w.alloc o) w1 v0 c1 n (vvs l)) :
    Below w.heap.size w w1 ∧ w1.ownsRow 0 30 3 c1 n (vvs l) ∧ ∀ k, c1.ownBlock = some k → w.heap.size ≤ k ∧ k < w1.heap.size :=
  ⟨hap.below (below_alloc _ _) h0 (Nat.le_refl _) (by simp), own_mono hap.own, fun k hk => hap.own.lt k hk⟩
def objT (l : List VV) : RT := ⟨0, l, [], [], 0, false⟩
def tabT : RT := ⟨1, [], [], [], 0, false⟩
def hobjT (l : List VV) : Th := ⟨l, false, [], fun _ => 0, 0⟩
theorem objT_lies {w : World} {c : Value} {l : List VV} (h : w.ownsRow 0 30 3 c l.length (vvs l)) : RtW w (fun k => c.ownBlock = some k) (objT l) ⟨c, .slice none 0 0, .slice none 0 0⟩ := by
  refine ⟨h, World.ownsRow_nil _ _ _ _, World.ownsRow_nil _ _ _ _, fun a k e => ?_⟩
  match a, e with
  | 0, e => exact e
  | 1, e => cases e
  | 2, e => cases e
theorem objT_apart (c : Value) : ∀ a b : Fin 3, a ≠ b → ∀ k, ((⟨c, .slice none 0 0, .slice none 0 0⟩ : RQ).s a).ownBlock = some k → ((⟨c, .slice none 0 0, .slice none 0 0⟩ : RQ).s b).ownBlock ≠ some k := by
  intro a b hab k e e2
  match a, e with
  | 0, e =>
    match b, e2 with
    | 0, e2 => exact hab rfl
    | 1, e2 => cases e2
    | 2, e2 => cases e2
  | 1, e => cases e
  | 2, e => cases e
theorem make_out {w w2 w' : World} {F G : Nat → Prop} {p : Nat} {M : RM} {t : RT} {stack : Bool} {e : Ending} (hb : Below w.heap.size w w2) (hG : ∀ k, G k → w.heap.size ≤ k) (h : MakeRes w2 F G p M t stack e w') : RmRes w F p (makeR M t stack).1 (.tuple #[I (makeR M t stack).2.1, I (makeR M t stack).2.2]) e w' := by
  obtain ⟨F', lv', qs', rfl, h1, h2, h3⟩ := h
  refine ⟨F', lv', qs', rfl, h1, Chg.trans (F := fun _ => False) ⟨hb.os, hb.tape, hb.output, hb.size, fun k hk _ => hb.block k hk⟩ h2 (fun _ h => h.elim) (fun _ h _ => h), fun k hk => ?_⟩
  rcases h3 k hk with h | h | h
  · exact .inl h
  · exact .inr (hG k h)
  · exact .inr (Nat.le_trans hb.size h)
theorem hmade_out {w w2 w' : World} {F G : Nat → Prop} {p : Nat} {M : HM} {fv : Value} {t : Th} {stack : Bool} {e : Ending} (hb : Below w.heap.size w w2) (hG : ∀ k, G k → w.heap.size ≤ k) (h : MadeRes w2 F G p M fv t stack e w') : MemRes w F p (madeF M t stack).1 (.tuple #[I (madeF M t stack).2.1, I (madeF M t stack).2.2]) e w' := by
  obtain ⟨F', tv', qs', rfl, h1, h2, h3⟩ := h
  refine ⟨F', tv', fv, qs', rfl, h1, Chg.trans (F := fun _ => False) ⟨hb.os, hb.tape, hb.output, hb.size, fun k hk _ => hb.block k hk⟩ h2 (fun _ h => h.elim) (fun _ h _ => h), fun k hk => ?_⟩
  rcases h3 k hk with h | h | h
  · exact .inl h
  · exact .inr (hG k h)
  · exact .inr (Nat.le_trans hb.size h)
theorem start30 (w : World) : (w.alloc (.cells #[] 30)).ownsRow w.heap.size 30 3 (.slice (some ⟨w.heap.size, 0, none⟩) 0 0) 0 [] := (Arr.new w 30 #[]).own (sz := 3) w.heap.size 0 (Nat.le_refl _) rfl (Nat.zero_le _)
set_option maxHeartbeats 4000000 in
set_option maxRecDepth 100000 in
theorem robject_any (w : World) (F : Nat → Prop) (p : Nat) (M : RM) (lv : Value) (qs : List RQ) (v : Value) (l : List VV) (stack : Bool) (h : RmW w F p M lv qs) (hv : Rd w v l.length (vvs l)) (hr : RRoom M) (hl : l.length ≤ 1000000) :
    Calls Try.prog 30 #[P0 p, v, .bool stack] w (RmRes w F p (makeR M (objT l) stack).1 (.tuple #[I (makeR M (objT l) stack).2.1, I (makeR M (objT l) stack).2.2])) := by
  have HH := Lib.hid h
  have HV := Lib.hid (hv.alloc (.cells #[] 30))
  have HO := Lib.hid (start30 w)
  have HR := Lib.hid hr
  clear h hv hr
  go_enter Try.func30, Try.ntmps30
  go_wp2_with (at_builtin; refine wpl_append rfl _ _ _ rfl E53 rfl HO.out rfl HV.out (vvs_length l) (vvs_one l) (by omega) (by simp only [maxLen]; omega) (by simp) ?_; intro c1 w2 hap1; obtain ⟨A1, k1, rfl, _, _⟩ := (Rd.of_own hap1.own).form)
  rw [Nat.zero_add, List.nil_append] at hap1
  obtain ⟨c1, hc1⟩ : ∃ c, Value.slice A1 l.length k1 = c := ⟨_, rfl⟩
  rw [hc1] at hap1
  rw [hc1]
  clear hc1
  obtain ⟨hB, hown, hnew⟩ := copy_new HO.out hap1
  have HB := Lib.hid hB
  have HOW := Lib.hid hown
  have HN := Lib.hid hnew
  clear hap1 hB hown hnew
  refine (rmake_any w2 F (fun k => c1.ownBlock = some k) p M lv qs (objT l) ⟨c1, .slice none 0 0, .slice none 0 0⟩ stack (HH.out.below HB.out) (objT_lies HOW.out) (fun k hk => ⟨(HN.out k hk).2, fun hF => by have := HH.out.lt k hF; have := (HN.out k hk).1; omega⟩) (objT_apart c1) HR.out hl).mono ?_
  intro e w3 hm
  obtain ⟨F', lv', qs', rfl, h1, h2, h3⟩ := make_out HB.out (fun k hk => (HN.out k hk).1) hm
  go_wp2
  go_ret2
  exact ⟨F', lv', qs', rfl, h1, h2, h3⟩
set_option maxHeartbeats 4000000 in
set_option maxRecDepth 100000 in
theorem object_any (w : World) (F : Nat → Prop) (p : Nat) (M : HM) (tv fv : Value) (qs : List TQ) (v : Value) (l : List VV) (stack : Bool) (h : MemW w F p M tv fv qs) (hv : Rd w v l.length (vvs l)) (hc : Calm M) (hl : l.length ≤ 1000000) :
    Calls Try.prog 29 #[P0 p, v, .bool stack] w (MemRes w F p (madeF M (hobjT l) stack).1 (.tuple #[I (madeF M (hobjT l) stack).2.1, I (madeF M (hobjT l) stack).2.2])) := by
  have HH := Lib.hid h
  have HV := Lib.hid (hv.alloc (.cells #[] 30))
  have HO := Lib.hid (start30 w)
  have HR := Lib.hid hc
  clear h hv hc
  go_enter Try.func29, Try.ntmps29
  go_wp2_with (at_builtin; refine wpl_append rfl _ _ _ rfl E53 rfl HO.out rfl HV.out (vvs_length l) (vvs_one l) (by omega) (by simp only [maxLen]; omega) (by simp) ?_; intro c1 w2 hap1; obtain ⟨A1, k1, rfl, _, _⟩ := (Rd.of_own hap1.own).form)
  rw [Nat.zero_add, List.nil_append] at hap1
  obtain ⟨c1, hc1⟩ : ∃ c, Value.slice A1 l.length k1 = c := ⟨_, rfl⟩
  rw [hc1] at hap1
  rw [hc1]
  clear hc1
  obtain ⟨hB, hown, hnew⟩ := copy_new HO.out hap1
  have HB := Lib.hid hB
  have HOW := Lib.hid hown
  have HN := Lib.hid hnew
  clear hap1 hB hown hnew
  refine (made_any w2 F (fun k => c1.ownBlock = some k) p M tv fv qs (hobjT l) c1 (.slice none 0 0) (.map none) stack (HH.out.below HB.out) ⟨rfl, HOW.out, fun k hk => hk, World.ownsRow_nil _ _ _ _, (fun k hk => by cases hk), .inl ⟨rfl, rfl⟩⟩ (fun k hk => ⟨(HN.out k hk).2, fun hF => by have := HH.out.lt k hF; have := (HN.out k hk).1; omega⟩) rfl HR.out.room HR.out.fr HR.out.fl HR.out.th hl HR.out.m0 HR.out.m1).mono ?_
  intro e w3 hm
  obtain ⟨F', tv', fv', qs', rfl, h1, h2, h3⟩ := hmade_out HB.out (fun k hk => (HN.out k hk).1) hm
  go_wp2
  go_ret2
  exact ⟨F', tv', fv', qs', rfl, h1, h2, h3⟩
set_option maxHeartbeats 4000000 in
set_option maxRecDepth 100000 in
theorem rtable_any (w : World) (F : Nat → Prop) (p : Nat) (M : RM) (lv : Value) (qs : List RQ) (stack : Bool) (h : RmW w F p M lv qs) (hr : RRoom M) :
    Calls Try.prog 32 #[P0 p, .bool stack] w (RmRes w F p (makeR M tabT stack).1 (.tuple #[I (makeR M tabT stack).2.1, I (makeR M tabT stack).2.2])) := by
  have HH := Lib.hid h
  have HR := Lib.hid hr
  clear h hr
  go_enter Try.func32, Try.ntmps32
  go_wp2_with fail
  refine (rmake_any w F (fun _ => False) p M lv qs tabT ⟨.slice none 0 0, .slice none 0 0, .slice none 0 0⟩ stack HH.out ⟨World.ownsRow_nil _ _ _ _, World.ownsRow_nil _ _ _ _, World.ownsRow_nil _ _ _ _, fun a k e => by match a, e with | 0, e => cases e | 1, e => cases e | 2, e => cases e⟩ (fun k hk => hk.elim) (fun a b _ k e => by match a, e with | 0, e => cases e | 1, e => cases e | 2, e => cases e) HR.out (by simp [tabT])).mono ?_
  intro e w3 hm
  obtain ⟨F', lv', qs', rfl, h1, h2, h3⟩ := make_out (Below.refl _ _) (fun k hk => hk.elim) hm
  go_wp2
  go_ret2
  exact ⟨F', lv', qs', rfl, h1, h2, h3⟩
def rsliceF (M : RM) (n : Int) (stack : Bool) : RM × Int × Int := if n < 0 ∨ 1024 < n then (M, 0, 2) else makeR M (objT (List.replicate n.toNat V0)) stack
set_option maxHeartbeats 4000000 in
set_option maxRecDepth 100000 in
theorem rslice_any (w : World) (F : Nat → Prop) (p : Nat) (M : RM) (lv : Value) (qs : List RQ) (n : Int) (stack : Bool) (h : RmW w F p M lv qs) (hr : RRoom M) :
    Calls Try.prog 31 #[P0 p, I n, .bool stack] w (RmRes w F p (rsliceF M n stack).1 (.tuple #[I (rsliceF M n stack).2.1, I (rsliceF M n stack).2.2])) := by
  have HH := Lib.hid h
  have HR := Lib.hid hr
  clear h hr
  by_cases h1 : n < 0
  · have d1 : decide (n < 0) = true := de_t h1
    have e : rsliceF M n stack = (M, 0, 2) := by rw [rsliceF, if_pos (.inl h1)]
    have HE := Lib.hid e
    clear e
    go_enter Try.func31, Try.ntmps31
    go_wp2
    go_ret2
    exact ⟨F, lv, qs, by rw [HE.out]; rfl, by rw [HE.out]; exact HH.out, Chg.refl F w, fun k hk => .inl hk⟩
  · have d1 : decide (n < 0) = false := de_f h1
    by_cases h2 : 1024 < n
    · have d2 : decide (1024 < n) = true := de_t h2
      have e : rsliceF M n stack = (M, 0, 2) := by rw [rsliceF, if_pos (.inr h2)]
      have HE := Lib.hid e
      clear e
      go_enter Try.func31, Try.ntmps31
      go_wp2
      go_ret2
      exact ⟨F, lv, qs, by rw [HE.out]; rfl, by rw [HE.out]; exact HH.out, Chg.refl F w, fun k hk => .inl hk⟩
    · have d2 : decide (1024 < n) = false := de_f h2
      have e : rsliceF M n stack = makeR M (objT (List.replicate n.toNat V0)) stack := by rw [rsliceF, if_neg (by omega)]
      obtain ⟨m, rfl⟩ : ∃ m : Nat, n = m := ⟨n.toNat, by omega⟩
      rw [Int.toNat_natCast] at e
      have hm : m ≤ 1024 := by omega
      have HE := Lib.hid e
      have HO := Lib.hid (start30 w)
      clear e h1 h2
      go_enter Try.func31, Try.ntmps31
      go_wp2_with fail
      go_loopw [8, 9] (fun v i wr => ∃ k : Nat, k ≤ m ∧ i = .int .i64 k ∧ wr.ownsRow w.heap.size 30 3 v k (vvs (List.replicate k V0)) ∧ Below w.heap.size w wr) (fun _ i _ => m - (intOf i).toNat)
      case atStart => exact ⟨0, Nat.zero_le _, rfl, HO.out, below_alloc _ _⟩
      case round =>
        obtain ⟨k, hk, rfl, hown, hb⟩ := hrel
        have HOW := Lib.hid hown
        have HB := Lib.hid hb
        have hbs := hb.size
        clear hown hb
        by_cases hlt : k < m
        · have hlt1 : (k : Int) < m := by omega
          go_wp2_with (at_builtin; refine wpl_append1 rfl _ _ _ rfl E53 rfl (HOW.out.alloc _) (u := .slice (some ⟨wr.heap.size, 0, none⟩) 1 1) (m := 1) (news := [I 0, .string ⟨#[]⟩, I 0]) rfl (Rd.fresh wr #[I 0, .string ⟨#[]⟩, I 0] 30 1 1 (by omega) (by omega)) rfl (by simp [Value.oneCell']) (by omega) (by omega) (by simp only [maxLen]; omega) (by simp; omega) ?_; intro g' cap' w2 hap)
          go_roundw
          case rel => exact ⟨k + 1, by omega, by go_num, by rw [List.replicate_succ', vvs_append]; exact hap.own, hap.below (HB.out.alloc (by omega) _) (HOW.out.alloc _) (Nat.le_refl _) (by simp; omega)⟩
          case measure => simp [intOf]; omega
        · obtain rfl : k = m := by omega
          obtain ⟨A8, c8, rfl, _, _⟩ := (Rd.of_own HOW.out).form
          go_wp2_with fail
          obtain ⟨u8, hu8⟩ : ∃ c, Value.slice A8 k c8 = c := ⟨_, rfl⟩
          rw [hu8] at HOW
          rw [hu8]
          clear hu8
          refine (rmake_any wr F (fun j => w.heap.size ≤ j ∧ u8.ownBlock = some j) p M lv qs (objT (List.replicate k V0)) ⟨u8, .slice none 0 0, .slice none 0 0⟩ stack (HH.out.below HB.out) ?_ (fun j hj => ⟨(HOW.out.lt j hj.2).2, fun hF => by have := HH.out.lt j hF; omega⟩) (objT_apart _) HR.out (by simp [objT]; omega)).mono ?_
          · have := objT_lies (w := wr) (c := u8) (l := List.replicate k V0) (by rw [List.length_replicate]; exact own_mono HOW.out)
            exact ⟨this.v, this.k, this.u, fun a j e => ⟨(HOW.out.lt j (this.sF a j e)).1, this.sF a j e⟩⟩
          intro e w3 hm
          obtain ⟨F', lv', qs', rfl, h1, h2, h3⟩ := make_out HB.out (fun j hj => hj.1) hm
          rw [← HE.out] at h1 
          rw [← HE.out]
          go_wp2
          go_ret2
          exact ⟨F', lv', qs', rfl, h1, h2, h3⟩
end Go.Proofs.Ytakpikoffbgjfaa
