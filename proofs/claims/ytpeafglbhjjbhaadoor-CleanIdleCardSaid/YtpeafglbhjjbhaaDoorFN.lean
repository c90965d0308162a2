/- Parts of a row: cut with a bound, beyond its end, put behind itself, cleared. -/
import Derived.Test.YtpeafglbhjjbhaaDoorFM
namespace Go.Proofs.YtpeafglbhjjbhaaDoor
open Go Go.RowKit

theorem del_map {α β : Type} (f : α → β) (l : List α) (i j : Nat) : (l.map f).take i ++ (l.map f).drop (0 + j) = (l.take i ++ l.drop j).map f := by simp [List.map_take, List.map_drop]
section
variable {F : Fence} {n : Nat} {P : Program} {X : Cx} {ops : Array Oper} {t : List (Nat × CT)} {r : List (Nat × Option Root)} {nx : Nat} [hF : Wd F] {dst ty : Nat} {pos : String} {af : Array Edge}
omit hF in
theorem dv0 {o : Oper} {os : List Oper} {d : Nd} {ks : List Nat} {K : St → Prop} (h : Sg F n P X ops o t r nx d ks ⟨[], []⟩) (hK : DvT F n P X ops os t r (nx + 1) K) : DvT F n P X ops (o :: os) t r nx K := dvt h hK
/-- x[l:h:m]: nobody looks at it. -/
theorem l_cut3 {T e lo m sz k l h : Nat} {x y y2 y3 : Operand} {kd kd2 kd3 : IntKind} {z z2 z3 : Int} (hT : SlI P T e sz) (hx : St.ev ⟨t, r, nx⟩ x = .rf k lo m sz) (hy : St.ev ⟨t, r, nx⟩ y = .v (.int kd z)) (hy2 : St.ev ⟨t, r, nx⟩ y2 = .v (.int kd2 z2)) (hy3 : St.ev ⟨t, r, nx⟩ y3 = .v (.int kd3 z3)) (hz : z = (l : Int)) (hz2 : z2 = (h : Int)) (hz3 : z3 = (m : Int)) (hlh : l ≤ h) (hl : h ≤ m) :
    Sg F n P X ops ⟨some dst, .slice T x (some y) (some y2) (some y3), ty, pos, af, none⟩ t r nx ⟨needO x (.rf k lo m sz) ++ (needO y (.v (.int kd z)) ++ (needO y2 (.v (.int kd2 z2)) ++ needO y3 (.v (.int kd3 z3)))), []⟩ [] ⟨[(dst, .un)], []⟩ :=
  sg_q (by simp) ⟨fun p hp => (List.mem_append.1 hp).elim (need_ok hx p) fun hp => (List.mem_append.1 hp).elim (need_ok hy p) fun hp => (List.mem_append.1 hp).elim (need_ok hy2 p) (need_ok hy3 p), fun p hp => by cases hp⟩ fun U S a w N bs FP hd hR => by
    have hvx := hR.hv_of X (ev_again hx fun p hp => hd.t p (List.mem_append_left _ hp))
    have hvy := hR.ev_v (ev_again hy fun p hp => hd.t p (List.mem_append_right _ (List.mem_append_left _ hp)))
    have hvy2 := hR.ev_v (ev_again hy2 fun p hp => hd.t p (List.mem_append_right _ (List.mem_append_right _ (List.mem_append_left _ hp))))
    have hvy3 := hR.ev_v (ev_again hy3 fun p hp => hd.t p (List.mem_append_right _ (List.mem_append_right _ (List.mem_append_right _ hp))))
    subst hz
    subst hz2
    subst hz3
    generalize he : a.eval x = u at hvx
    obtain ⟨A, cap, rfl⟩ := hvx.rf_form
    obtain ⟨h1, _⟩ := hvx.cut (l := 0) (h := m) (Nat.zero_le _) (Nat.le_refl _)
    exact ⟨.slice (if m = l then A else A.map (·.add (l * sz))) (h - l) (m - l), by simp [execOp, he, hvy, hvy2, hvy3, Instr.sliceAt, Instr.slice, run_underlying hT.u, Instr.sliceBounds, Instr.sliceBound, asIntOf, h1, hlh, hl, hT.sz], .un _⟩
/-- x[l:h] beyond the end: another slice shows that there is room. -/
theorem l_cutX {T e lo m m2 sz k l h tw : Nat} {x y y2 : Operand} {kd kd2 : IntKind} {z z2 : Int} (hT : SlI P T e sz) (hx : St.ev ⟨t, r, nx⟩ x = .rf k lo m sz) (hy : St.ev ⟨t, r, nx⟩ y = .v (.int kd z)) (hy2 : St.ev ⟨t, r, nx⟩ y2 = .v (.int kd2 z2)) (hw : St.tm ⟨t, r, nx⟩ tw = .rf k lo m2 sz) (hz : z = (l : Int)) (hz2 : z2 = (h : Int)) (hlh : l ≤ h) (hl : h ≤ m2) :
    Sg F n P X ops ⟨some dst, .slice T x (some y) (some y2) none, ty, pos, af, none⟩ t r nx ⟨(tw, .rf k lo m2 sz) :: (needO x (.rf k lo m sz) ++ (needO y (.v (.int kd z)) ++ needO y2 (.v (.int kd2 z2)))), []⟩ [] ⟨[(dst, .rf k (lo + l) (h - l) sz)], []⟩ :=
  sg_q (by simp) ⟨fun p hp => (List.mem_cons.1 hp).elim (fun e => by subst e; exact hw) fun hp => (List.mem_append.1 hp).elim (need_ok hx p) fun hp => (List.mem_append.1 hp).elim (need_ok hy p) (need_ok hy2 p), fun p hp => by cases hp⟩ fun U S a w N bs FP hd hR => by
    have hd' : ∀ p ∈ needO x (.rf k lo m sz) ++ (needO y (.v (.int kd z)) ++ needO y2 (.v (.int kd2 z2))), S.tm p.1 = p.2 := fun p hp => hd.t p (List.mem_cons_of_mem _ hp)
    have hvx := hR.hv_of X (ev_again hx fun p hp => hd' p (List.mem_append_left _ hp))
    have hvy := hR.ev_v (ev_again hy fun p hp => hd' p (List.mem_append_right _ (List.mem_append_left _ hp)))
    have hvy2 := hR.ev_v (ev_again hy2 fun p hp => hd' p (List.mem_append_right _ (List.mem_append_right _ hp)))
    have hvw := hR.ts tw
    rw [hd.t (tw, .rf k lo m2 sz) List.mem_cons_self] at hvw
    subst hz
    subst hz2
    generalize he : a.eval x = u at hvx
    generalize a.tmps.getD tw undef = u2 at hvw
    have hv2 : ∃ A cap, u = .slice A m cap ∧ HV w N bs NoB (.rf k lo m2 sz) (.slice A m2 cap) := by
      cases hvx with
      | rf A g off cap hb hn hm hA =>
        cases hvw with
        | rf A2 g2 off2 cap2 hb2 hn2 hm2 hA2 =>
          have := hb.symm.trans hb2
          cases this
          exact ⟨A, _, rfl, .rf A g off cap hb hn2 hm hA⟩
        | rfNil hb2 =>
          have := hb.symm.trans hb2
          cases this
      | rfNil hb =>
        cases hvw with
        | rf A2 g2 off2 cap2 hb2 hn2 hm2 hA2 =>
          have := hb.symm.trans hb2
          cases this
        | rfNil hb2 => exact ⟨none, 0, rfl, .rfNil hb⟩
    obtain ⟨A, cap, rfl, hv2⟩ := hv2
    obtain ⟨h1, h2⟩ := hv2.cut hlh hl
    refine ⟨_, ?_, h2⟩
    have := slice_lh (P := P) hT A m cap l h (some (.int kd l)) (some (.int kd2 h)) (.inr ⟨kd, rfl⟩) (.inr ⟨kd2, rfl⟩) hlh h1 w
    simp [execOp, he, hvy, hvy2, this]
/-- Of a root's row some elements are left out: those behind them are put ahead. -/
theorem l_appIn {T e sz by_ i q k lo : Nat} {x y : Operand} {els els' : List (List CT)} {at_ : Array TypeId} (E : ElemT P T e sz by_) (hat : at_ = #[T, T]) (hx : St.ev ⟨t, r, nx⟩ x = .rf k 0 i sz) (hr : St.rt ⟨t, r, nx⟩ k = some ⟨e, sz, els⟩) (hy : St.ev ⟨t, r, nx⟩ y = .rf k lo q sz) (hlo : i ≤ lo) (hq : lo + q = els.length) (hc : ∀ es ∈ els, ∀ c ∈ es, c.cp = true) (he : els.take i ++ els.drop lo = els') (hpos : 0 < els.length) :
    Sg F n P X ops ⟨some dst, .call { callee := .builtin .append, args := #[x, y], argTypes := at_ }, ty, pos, af, none⟩ t r nx ⟨needO x (.rf k 0 i sz) ++ needO y (.rf k lo q sz), [(k, ⟨e, sz, els⟩)]⟩ [] ⟨[(dst, .rf k 0 (i + q) sz)], [(k, some ⟨e, sz, els'⟩)]⟩ := by
  refine ⟨?_, ⟨fun p hp => (List.mem_append.1 hp).elim (need_ok hx p) (need_ok hy p), fun p hp => by simp at hp; subst hp; exact hr⟩, fun k hk => by cases hk⟩
  intro ix hi0 hdd Q0 U S a w hd hk0 hR
  have hdn := fun k => hdd ix _ k hi0
  obtain ⟨N, bs, FP, hR⟩ := hR
  subst hat
  subst he
  have hvx := hR.hv_of X (ev_again hx fun p hp => hd.t p (List.mem_append_left _ hp))
  have hvy := hR.hv_of X (ev_again hy fun p hp => hd.t p (List.mem_append_right _ hp))
  have hrt : S.rt k = some ⟨e, sz, els⟩ := hd.r (k, ⟨e, sz, els⟩) (by simp)
  generalize hex : a.eval x = u at hvx
  generalize hey : a.eval y = v at hvy
  cases hvx with
  | rfNil hb =>
    obtain ⟨x0, hx0, hv0⟩ := hR.rs k _ hrt
    rw [hb] at hx0
    cases hx0
    simp only [hdr] at hv0
    cases hv0
    simp at hpos
  | rf A g off cap hb hn hm63 hA =>
    have hA' := hA (.inr rfl)
    subst hA'
    obtain ⟨cur, us, Q, hg, hh, hcs, hcl, hcm, hz, hQ, hdj, hw1, h11, hv1⟩ := hR.root hb hrt
    obtain ⟨ht, ⟨ti, z, hti, hiz, hsz, hby, hzs⟩, hp0⟩ := E
    subst hsz
    have hsrc : ∃ A2 c2, v = .slice A2 q c2 ∧ (0 < q → A2 = some ⟨g, off + lo * ti.size, none⟩) := by
      cases hvy with
      | rf A2 g2 off2 cap2 hb2 hn2 hm2 hA2 =>
        have := hb.symm.trans hb2
        cases this
        exact ⟨A2, _, rfl, fun h => hA2 (.inl (by omega))⟩
      | rfNil hb2 =>
        have := hb.symm.trans hb2
        cases this
    obtain ⟨A2, c2, rfl, hA2⟩ := hsrc
    have hcell : ∀ (P : Nat → Prop) x o es c, els[x]? = some es → es[o]? = some c → HV w N bs P c (us x o) := fun P x o es c hi ho => ((hv1 x o es c hi ho).cp (hc es (List.mem_of_getElem? hi) c (List.mem_of_getElem? ho))).mono fun _ (h : False) => h.elim
    -- the world behind
    have hrun : ∃ w' cur', (Builtin.append_ #[T, T] ty #[.slice (some ⟨g, off + 0 * ti.size, none⟩) i (cap - 0), .slice A2 q c2]).run P w = .ok (.slice (some ⟨g, off + 0 * ti.size, none⟩) (i + q) (cap - 0)) w' ∧ Chd (· = g) w w' ∧ w'.heap[g]? = some (.cells cur' e (0, 0)) ∧ cur'.size = cur.size ∧
        (∀ x o, x < i → o < ti.size → cur'[off + (x * ti.size + o)]? = cur[off + (x * ti.size + o)]?) ∧ (∀ x o, x < q → o < ti.size → cur'[off + ((i + x) * ti.size + o)]? = some (us (lo + x) o)) := by
      by_cases hq0 : q = 0
      · subst hq0
        refine ⟨w, cur, ?_, Chd.refl _ _, hh, rfl, fun _ _ _ _ => rfl, fun _ _ h => by omega⟩
        cases A2 with
        | none => exact run_app_none w T ty e ti ht hti _ i (cap - 0) c2 (by omega)
        | some ad => exact run_app_empty w T ty e ti ht hti _ ad i (cap - 0) c2 (by omega)
      · have hA2' := hA2 (by omega)
        subst hA2'
        have hbig : (i + q) * ti.size ≤ cap * ti.size := Nat.mul_le_mul_right _ (by omega)
        have hfit : off + 0 * ti.size + i * ti.size + (flatV (fun x o => us (lo + x) o) q ti.size).length ≤ cur.size := by
          rw [flatV_len, hcs]
          rw [Nat.add_mul] at hbig
          omega
        have hnews : ∀ j u, (flatV (fun x o => us (lo + x) o) q ti.size)[j]? = some u → w.cell? ((⟨g, off + lo * ti.size, none⟩ : Addr).add j) = some u := fun j u hj => by
          obtain ⟨h1, h2, h3, h4⟩ := flatV_at _ hj
          rw [add_plain']
          simp only [World.cell?, hh]
          have hes : ∃ es, els[lo + j / ti.size]? = some es := ⟨_, List.getElem?_eq_getElem (by omega)⟩
          obtain ⟨es, hes⟩ := hes
          have hlen := hz es (List.mem_of_getElem? hes)
          have hco : es[j % ti.size]? = some es[j % ti.size] := List.getElem?_eq_getElem (by omega)
          have := hw1 _ _ es _ hes hco
          rw [h4]
          have hj2 : lo * ti.size + j = (lo + j / ti.size) * ti.size + j % ti.size := by
            rw [Nat.add_mul, Nat.add_assoc]
            congr 1
            have := Nat.div_add_mod j ti.size
            rw [Nat.mul_comm] at this
            exact this.symm
          rw [← hj2, ← Nat.add_assoc] at this
          simpa using this
        have h1 : ∀ u ∈ flatV (fun x o => us (lo + x) o) q ti.size, u.oneCell' = true := fun u hu => by
          obtain ⟨j, hj, rfl⟩ := List.getElem_of_mem hu
          obtain ⟨h1, h2, h3, h4⟩ := flatV_at _ (List.getElem?_eq_getElem hj)
          rw [h4]
          have hes : ∃ es, els[lo + j / ti.size]? = some es := ⟨_, List.getElem?_eq_getElem (by omega)⟩
          obtain ⟨es, hes⟩ := hes
          have hlen := hz es (List.mem_of_getElem? hes)
          exact h11 _ _ es _ hes (List.getElem?_eq_getElem (by omega))
        have hrun := run_app_room (P := P) w T ty e ti ht hti g (off + 0 * ti.size) i (cap - 0) cur hh ⟨g, off + lo * ti.size, none⟩ q c2 (flatV (fun x o => us (lo + x) o) q ti.size) (flatV_len _ _ _) hnews h1 (by omega) hfit
        refine ⟨_, _, hrun, ⟨by rw [size_setRow]; exact Nat.le_refl _, rfl, rfl, rfl, fun q' hq' hne => setRow_other w g q' _ hne⟩, setRow_heap w g cur _ e _ hh, ?_, fun x o hx ho => ?_, fun x o hx ho => ?_⟩
        · simp; omega
        · have : (x + 1) * ti.size ≤ i * ti.size := Nat.mul_le_mul_right _ (by omega)
          rw [Nat.succ_mul] at this
          rw [List.getElem?_toArray, List.append_assoc, List.getElem?_append_left (by simp; omega), List.getElem?_take_of_lt (by omega), Array.getElem?_toList]
        · have hf := flatV_get (fun x o => us (lo + x) o) hx ho
          have hlt := (List.getElem?_eq_some_iff.1 hf).1
          have hxx : off + ((i + x) * ti.size + o) - (off + 0 * ti.size + i * ti.size) = x * ti.size + o := by rw [Nat.add_mul]; omega
          have hge : off + 0 * ti.size + i * ti.size ≤ off + ((i + x) * ti.size + o) := by rw [Nat.add_mul]; omega
          rw [List.getElem?_toArray, List.append_assoc, List.getElem?_append_right (by rw [List.length_take]; omega), List.length_take, Nat.min_eq_left (by simp; omega), hxx, List.getElem?_append_left hlt]
          exact hf
    obtain ⟨w', cur', hrun, hch, hh', hsz', hold, hnew⟩ := hrun
    refine opWp_value rfl (by simp) (v := .slice (some ⟨g, off + 0 * ti.size, none⟩) (i + q) (cap - 0)) (w' := w') (by
      have h2 := hrun
      simp only [Nat.zero_mul, Nat.add_zero, Nat.sub_zero] at h2 ⊢
      simp [execOp, resolve, invoke, builtin, hex, hey, h2]) ⟨_, rfl, N, bs, FP, RelI.weakU (U := U) ?_ fun _ h => .inl h⟩
    have hD : ∀ q, q = g → ∃ r, FP r q := fun q hq => ⟨k, hq ▸ hg⟩
    refine hR.next (D := (· = g)) hch hD (fun _ h => h) (fun q hq => Nat.lt_of_lt_of_le (hR.n1 q hq) hch.size) hR.u (fun r q hq => ⟨Nat.lt_of_lt_of_le (hR.f1 r q hq).1 hch.size, (hR.f1 r q hq).2⟩) hR.f2 ((put_size a _ _).trans hR.sz) (put_defers a _ _)
      (ts_put (d := some dst) (c := .rf k 0 (i + q) ti.size) (v := .slice (some ⟨g, off + 0 * ti.size, none⟩) (i + q) (cap - 0)) (fun t => hR.ts_next hch hD (fun _ h => h) (fun _ _ h => h) (hR.ts t)) (fun q hq => by rw [hR.sz]; exact hdn q hq) (.rf _ g off cap hb (by omega) hm63 fun _ => rfl) _) (fun r' R hR' => ?_) (fun r q h => .inl ⟨r, h⟩) (fs_app hR.nl hdn) (fun _ _ h => h)
    rw [St.rt_app, St.rt_app0] at hR'
    by_cases e1 : k = r'
    · rw [if_pos e1] at hR'
      cases hR'
      subst e1
      refine ⟨_, hb, ?_⟩
      have hl : (els.take i ++ els.drop lo).length = i + q := by simp; omega
      have hgetlo : ∀ x es, (els.take i ++ els.drop lo)[x]? = some es → x < i ∧ els[x]? = some es ∨ i ≤ x ∧ els[lo + (x - i)]? = some es := fun x es hx => by
        by_cases hxi : x < i
        · rw [List.getElem?_append_left (by simp; omega), List.getElem?_take_of_lt hxi] at hx
          exact .inl ⟨hxi, hx⟩
        · rw [List.getElem?_append_right (by simp; omega), List.length_take, Nat.min_eq_left (by omega), List.getElem?_drop] at hx
          exact .inr ⟨by omega, hx⟩
      refine .own g off _ cap cur' (fun x o => if x < i then us x o else us (lo + (x - i)) o) (fun _ _ _ => False) rfl hg hh' (by rw [hsz', hcs]) (by rw [hl]; omega) hm63 (fun es he => ?_) (fun _ _ _ h => h.elim) (fun _ _ _ _ _ h => h.elim) (fun x o es c hx ho => ?_) (fun x o es c hx ho => ?_) (fun x o es c hx ho => ?_)
      · obtain ⟨x, hx, rfl⟩ := List.getElem_of_mem he
        rcases hgetlo x _ (List.getElem?_eq_getElem hx) with ⟨_, h2⟩ | ⟨_, h2⟩ <;> exact hz _ (List.mem_of_getElem? h2)
      · rcases hgetlo x es hx with ⟨h1, h2⟩ | ⟨h1, h2⟩
        · have ho' : o < ti.size := by rw [← hz es (List.mem_of_getElem? h2)]; exact (List.getElem?_eq_some_iff.1 ho).1
          rw [if_pos h1, hold x o h1 ho']
          exact hw1 x o es c h2 ho
        · have ho' : o < ti.size := by rw [← hz es (List.mem_of_getElem? h2)]; exact (List.getElem?_eq_some_iff.1 ho).1
          have hx2 : x - i < q := by
            have := (List.getElem?_eq_some_iff.1 hx).1
            rw [hl] at this
            omega
          have := hnew (x - i) o hx2 ho'
          rw [show i + (x - i) = x by omega] at this
          rw [if_neg (by omega)]
          exact this
      · rcases hgetlo x es hx with ⟨h1, h2⟩ | ⟨h1, h2⟩
        · rw [if_pos h1]; exact h11 x o es c h2 ho
        · rw [if_neg (by omega)]; exact h11 _ o es c h2 ho
      · have hfr : ∀ y o es c, els[y]? = some es → es[o]? = some c → HV w' N bs (fun _ => False) c (us y o) := fun y o es c h1 h2 => (hcell (fun _ => False) y o es c h1 h2).frame (fun _ h => h.elim) (hR.same_N hch hD) (fun _ h => h) (fun _ _ h => h)
        rcases hgetlo x es hx with ⟨h1, h2⟩ | ⟨h1, h2⟩
        · rw [if_pos h1]; exact hfr x o es c h2 ho
        · rw [if_neg (by omega)]; exact hfr _ o es c h2 ho
    · rw [if_neg e1] at hR'
      exact hR.rs_next hch hD (fun _ h => h) (fun _ _ h => h) hR' fun q hq hq' => e1 (hR.f2 k r' q (hq ▸ hg) hq')
/-- What lies behind a root's end is cleared. -/
theorem l_clear {T e sz by_ m k lo : Nat} {x : Operand} {els : List (List CT)} {at_ : Array TypeId} {zs : List Value} (E : ElemT P T e sz by_) (hzi : ZtI P e zs) (hat : at_ = #[T]) (hx : St.ev ⟨t, r, nx⟩ x = .rf k lo m sz) (hr : St.rt ⟨t, r, nx⟩ k = some ⟨e, sz, els⟩) (hlo : els.length ≤ lo) :
    Sg F n P X ops ⟨none, .call { callee := .builtin .clear, args := #[x], argTypes := at_ }, ty, pos, af, none⟩ t r nx ⟨needO x (.rf k lo m sz), [(k, ⟨e, sz, els⟩)]⟩ [] ⟨[], []⟩ := by
  refine ⟨?_, ⟨fun p hp => need_ok hx p hp, fun p hp => by simp at hp; subst hp; exact hr⟩, fun k hk => by cases hk⟩
  intro ix hi0 hdd Q0 U S a w hd hk0 hR
  have hdn := fun k => hdd ix _ k hi0
  obtain ⟨N, bs, FP, hR⟩ := hR
  subst hat
  have hvx := hR.hv_of X (ev_again hx hd.t)
  have hrt : S.rt k = some ⟨e, sz, els⟩ := hd.r (k, ⟨e, sz, els⟩) (by simp)
  generalize hex : a.eval x = u at hvx
  obtain ⟨ht, ⟨ti, z, hti, hiz, hsz, hby, hzs⟩, hp0⟩ := E
  subst hsz
  have done : (Builtin.clear_ #[T] ty #[u]).run P w = .ok (.tuple #[]) w → opWp F n P ops ⟨none, .call { callee := .builtin .clear, args := #[x], argTypes := #[T] }, ty, pos, af, none⟩ (fun a' w' => ∃ E, E = (⟨[], []⟩ : Eff) ∧ Rel X (fun r => U r ∨ r ∈ ([] : List Nat)) (S.app E) a' w') Q0 a w := fun hrun =>
    opWp_value rfl (by simp) (v := .tuple #[]) (w' := w) (by simp [execOp, resolve, invoke, builtin, hex, hrun]) ⟨_, rfl, N, bs, FP, RelI.weakU (U := U) hR fun _ h => .inl h⟩
  by_cases hm0 : m = 0
  · subst hm0
    obtain ⟨A, cap, rfl⟩ := hvx.rf_form
    refine done ?_
    cases A <;> simp [Builtin.clear_, run_underlying ht]
  · cases hvx with
    | rfNil hb => omega
    | rf A g off cap hb hn hm63 hA =>
      have hA' := hA (.inl (by omega))
      subst hA'
      obtain ⟨cur, us, Q, hg, hh, hcs, hcl, hcm, hz, hQ, hdj, hw1, h11, hv1⟩ := hR.root hb hrt
      have hzs2 : (Builtin.zeroCells z.cells m).size = m * ti.size := by
        have := size_zeroCells z.cells m
        rwa [hzs] at this
      have hzl : (Builtin.zeroCells z.cells m).toList.length = m * ti.size := by simpa using hzs2
      have hbig : (lo + m) * ti.size ≤ cap * ti.size := Nat.mul_le_mul_right _ hn
      rw [Nat.add_mul] at hbig
      have hz1 : ∀ u ∈ (Builtin.zeroCells z.cells m).toList, u.oneCell' = true := fun u hu => by
        obtain ⟨z', hz', hzl', hz1'⟩ := hzi.z
        have : z' = z := by
          have h1 := hz' w
          simp [zeroValue, typeInfo, hti, hiz] at h1
          exact h1.symm
        subst this
        simp only [Builtin.zeroCells, Array.toList_map, List.mem_map] at hu
        obtain ⟨j, hj, rfl⟩ := hu
        have hj' : j < m * z'.cells.size := by simpa using hj
        have hpos : 0 < z'.cells.size := by rw [hzs]; exact hp0
        have hlt : j % z'.cells.size < z'.cells.size := Nat.mod_lt _ hpos
        rw [getElem!_pos z'.cells (j % z'.cells.size) hlt]
        exact hz1' _ (by rw [← hzl']; exact Array.getElem_mem_toList hlt)
      have hst := run_storeCells_at P g (off + lo * ti.size) e (Builtin.zeroCells z.cells m).toList 0 cur w hh (by rw [hzl, hcs]; omega) hz1
      simp only [Nat.add_zero] at hst
      refine opWp_value rfl (by simp) (v := .tuple #[]) (w' := w.setRow g (cur.toList.take (off + lo * ti.size) ++ (Builtin.zeroCells z.cells m).toList ++ cur.toList.drop (off + lo * ti.size + (Builtin.zeroCells z.cells m).toList.length)).toArray) ?_ ⟨_, rfl, N, bs, FP, RelI.weakU (U := U) ?_ fun _ h => .inl h⟩
      · obtain ⟨m', rfl⟩ : ∃ m', m = m' + 1 := ⟨m - 1, by omega⟩
        simp [execOp, resolve, invoke, builtin, hex, Builtin.clear_, run_underlying ht, zeroValue, typeInfo, hti, hiz, hst]
      · have hch : Chd (· = g) w (w.setRow g (cur.toList.take (off + lo * ti.size) ++ (Builtin.zeroCells z.cells m).toList ++ cur.toList.drop (off + lo * ti.size + (Builtin.zeroCells z.cells m).toList.length)).toArray) := ⟨by rw [size_setRow]; exact Nat.le_refl _, rfl, rfl, rfl, fun q' hq' hne => setRow_other w g q' _ hne⟩
        have hD : ∀ q, q = g → ∃ r, FP r q := fun q hq => ⟨k, hq ▸ hg⟩
        refine hR.next (D := (· = g)) hch hD (fun _ h => h) (fun q hq => Nat.lt_of_lt_of_le (hR.n1 q hq) hch.size) hR.u (fun r q hq => ⟨Nat.lt_of_lt_of_le (hR.f1 r q hq).1 hch.size, (hR.f1 r q hq).2⟩) hR.f2 hR.sz rfl
          (fun t => hR.ts_next hch hD (fun _ h => h) (fun _ _ h => h) (hR.ts t)) (fun r' R hR' => ?_) (fun r q h => .inl ⟨r, h⟩) (fun _ h => h) (fun _ _ h => h)
        by_cases e1 : k = r'
        · subst e1
          have hRR : S.rt k = some R := hR'
          rw [hrt] at hRR
          cases hRR
          refine ⟨_, hb, ?_⟩
          show HV _ N bs (FP k) (.sl e ti.size els) (hdr (some (g, off, cap)) els.length)
          refine .own g off _ cap _ us Q rfl hg (setRow_heap w g cur _ e _ hh) (by simp; omega) hcl hm63 hz hQ hdj (fun i o es c hi ho => ?_) h11 (fun i o es c hi ho => (hv1 i o es c hi ho).frame (fun q hq => hch.blk q (hR.f1 k q (hQ i o q hq).1).1 (hQ i o q hq).2) (hR.same_N hch hD) (fun _ h => h) (fun _ _ h => h))
          have hos : o < ti.size := by rw [← hz es (List.mem_of_getElem? hi)]; exact (List.getElem?_eq_some_iff.1 ho).1
          have hil : i < els.length := (List.getElem?_eq_some_iff.1 hi).1
          have hlt : (i + 1) * ti.size ≤ lo * ti.size := Nat.mul_le_mul_right _ (by omega)
          rw [Nat.succ_mul] at hlt
          rw [List.getElem?_toArray, List.append_assoc, List.getElem?_append_left (by simp; omega), List.getElem?_take_of_lt (by omega), Array.getElem?_toList]
          exact hw1 i o es c hi ho
        · exact hR.rs_next hch hD (fun _ h => h) (fun _ _ h => h) hR' fun q hq hq' => e1 (hR.f2 k r' q (hq ▸ hg) hq')
end
end Go.Proofs.YtpeafglbhjjbhaaDoor

