/- Deep words, eleventh part: appends and parts of slices, as operations. -/
import Derived.Test.YtpeafglbhjjbhaaDoorDJ
import Derived.Laws.Slices
namespace Go.Proofs.YtpeafglbhjjbhaaDoor
open Go Go.RowKit

section
variable {F : Fence} {n : Nat} {P : Program} {X : Cx} {ops : Array Oper} {o : Oper} {os : List Oper} {t : List (Nat × CT)} {r : List (Nat × Option Root)} {nx : Nat} {d : Nd} {ks : List Nat} {K : St → Prop}
theorem dvN3 {x k k' k'' : Nat} {c : CT} {R R' R'' : Option Root} (h : Sg F n P X ops o t r nx d ks ⟨[(x, c)], [(k, R), (k', R'), (k'', R'')]⟩) (hK : DvT F n P X ops os ((x, c) :: t) ((k, R) :: (k', R') :: (k'', R'') :: r) (nx + 1) K) : DvT F n P X ops (o :: os) t r nx K := dvt h hK
end
section
variable {F : Fence} {n : Nat} {P : Program} {X : Cx} {ops : Array Oper} {t : List (Nat × CT)} {r : List (Nat × Option Root)} {nx : Nat} [hF : Wd F] {dst ty : Nat} {pos : String} {af : Array Edge}
/-- The frame of appends. -/
theorem sg_app {T e sz q : Nat} {x y : Operand} {d : Nd} {kl : List Nat} {els' : List (List CT)} {at_ : Array TypeId} (hat : at_ = #[T, T]) (hok : d.ok ⟨t, r, nx⟩)
    (h : ∀ U S a w N bs FP, d.ok S → RelI X U S a w N bs FP → (∀ k, some dst = some k → k < X.nt) → ¬ U (nx * 64) → ∃ v' w', (Builtin.append_ #[T, T] ty #[a.eval x, a.eval y]).run P w = .ok v' w' ∧ Rel X (fun r => U r ∨ r ∈ [nx * 64]) (S.app ⟨tE (some dst) (.rf (nx * 64) 0 q sz), (nx * 64, some ⟨e, sz, els'⟩) :: noneR kl⟩) (a.put (some dst) v') w') :
    Sg F n P X ops ⟨some dst, .call { callee := .builtin .append, args := #[x, y], argTypes := at_ }, ty, pos, af, none⟩ t r nx d [nx * 64] ⟨[(dst, .rf (nx * 64) 0 q sz)], (nx * 64, some ⟨e, sz, els'⟩) :: noneR kl⟩ := by
  refine ⟨?_, hok, fun k hk => by simp at hk; omega⟩
  intro i hi hdd Q U S a w hd hk hR
  obtain ⟨N, bs, FP, hR⟩ := hR
  subst hat
  obtain ⟨v', w', hr, hR'⟩ := h U S a w N bs FP hd hR (fun k => hdd i _ k hi) (hk _ (by simp))
  refine opWp_value rfl (by simp) (v := v') (w' := w') ?_ ⟨_, rfl, hR'⟩
  simp [execOp, resolve, invoke, builtin, hr]
theorem RelI.hv_of (X : Cx) {U : Nat → Prop} {S : St} {a : Act} {w : World} {N : Nat → Prop} {bs : Bs} {FP : Nat → Nat → Prop} (h : RelI X U S a w N bs FP) {x : Operand} {c : CT} (hx : S.ev x = c) : HV w N bs NoB c (a.eval x) := by rw [← hx]; exact h.ev x
theorem one_src {X : Cx} {U : Nat → Prop} {S : St} {a : Act} {w : World} {N : Nat → Prop} {bs : Bs} {FP : Nat → Nat → Prop} (h : RelI X U S a w N bs FP) {k sz e : Nat} {es : List CT} {u : Value} (hr : S.rt k = some ⟨e, sz, [es]⟩) (hu : HV w N bs NoB (.rf k 0 1 sz) u) : Src w N bs (FP k) sz u [es] := by
  have := Src.root h hr hu (by simp)
  simpa using this
/-- One more; the slice is all of its root. -/
theorem l_app1 {T e sz by_ m k k2 : Nat} {x y : Operand} {els : List (List CT)} {es : List CT} {at_ : Array TypeId} (E : ElemT P T e sz by_) (hat : at_ = #[T, T]) (hx : St.ev ⟨t, r, nx⟩ x = .rf k 0 m sz) (hr : St.rt ⟨t, r, nx⟩ k = some ⟨e, sz, els⟩) (hm : els.length = m) (hy : St.ev ⟨t, r, nx⟩ y = .rf k2 0 1 sz) (hr2 : St.rt ⟨t, r, nx⟩ k2 = some ⟨e, sz, [es]⟩) (hne : k ≠ k2) (hb : (m + 1) * by_ ≤ 140737488355328) (h63 : m + 1 ≤ 9223372036854775807) :
    Sg F n P X ops ⟨some dst, .call { callee := .builtin .append, args := #[x, y], argTypes := at_ }, ty, pos, af, none⟩ t r nx ⟨needO x (.rf k 0 m sz) ++ needO y (.rf k2 0 1 sz), [(k, ⟨e, sz, els⟩), (k2, ⟨e, sz, [es]⟩)]⟩ [nx * 64] ⟨[(dst, .rf (nx * 64) 0 (m + 1) sz)], [(nx * 64, some ⟨e, sz, els ++ [es]⟩), (k, none), (k2, none)]⟩ :=
  sg_app (kl := [k, k2]) hat ⟨fun p hp => (List.mem_append.1 hp).elim (need_ok hx p) (need_ok hy p), fun p hp => by simp at hp; rcases hp with rfl | rfl <;> assumption⟩ fun U S a w N bs FP hd hR hdn hk => by
    have hvx := hR.hv_of X (ev_again hx fun p hp => hd.t p (List.mem_append_left _ hp))
    have hvy := hR.hv_of X (ev_again hy fun p hp => hd.t p (List.mem_append_right _ hp))
    have h1 := hd.r (k, ⟨e, sz, els⟩) (by simp)
    have h2 := hd.r (k2, ⟨e, sz, [es]⟩) (by simp)
    have := append_root (ty := ty) hR hdn hk E hvx h1 (by omega) [k, k2] (by simp) (one_src hR h2 hvy) (fun q hq => ⟨⟨k2, by simp, hq⟩, fun hq' => hne (hR.f2 k k2 q hq' hq)⟩) (.inl rfl) hb h63
    simpa [List.take_of_length_le (show els.length ≤ m by omega)] using this
/-- One, to nil. -/
theorem l_app1n {T e sz by_ k2 : Nat} {x y : Operand} {es : List CT} {at_ : Array TypeId} (E : ElemT P T e sz by_) (hat : at_ = #[T, T]) (hx : St.ev ⟨t, r, nx⟩ x = .v (.slice none 0 0)) (hy : St.ev ⟨t, r, nx⟩ y = .rf k2 0 1 sz) (hr2 : St.rt ⟨t, r, nx⟩ k2 = some ⟨e, sz, [es]⟩) (hb : by_ ≤ 140737488355328) :
    Sg F n P X ops ⟨some dst, .call { callee := .builtin .append, args := #[x, y], argTypes := at_ }, ty, pos, af, none⟩ t r nx ⟨needO x (.v (.slice none 0 0)) ++ needO y (.rf k2 0 1 sz), [(k2, ⟨e, sz, [es]⟩)]⟩ [nx * 64] ⟨[(dst, .rf (nx * 64) 0 1 sz)], [(nx * 64, some ⟨e, sz, [es]⟩), (k2, none)]⟩ :=
  sg_app (kl := [k2]) hat ⟨fun p hp => (List.mem_append.1 hp).elim (need_ok hx p) (need_ok hy p), fun p hp => by simp at hp; rcases hp with rfl; assumption⟩ fun U S a w N bs FP hd hR hdn hk => by
    have hvx := hR.ev_v (ev_again hx fun p hp => hd.t p (List.mem_append_left _ hp))
    have hvy := hR.hv_of X (ev_again hy fun p hp => hd.t p (List.mem_append_right _ hp))
    have h2 := hd.r (k2, ⟨e, sz, [es]⟩) (by simp)
    rw [hvx]
    exact append_nil (ty := ty) hR hdn hk E [k2] (one_src hR h2 hvy) (fun q hq => ⟨k2, by simp, hq⟩) (by simpa using hb) (by simp)
/-- A list that is read, to all of a root. -/
theorem l_appO {T e sz by_ m q k e2 : Nat} {x y : Operand} {els els2 nls : List (List CT)} {at_ : Array TypeId} (E : ElemT P T e sz by_) (hat : at_ = #[T, T]) (hx : St.ev ⟨t, r, nx⟩ x = .rf k 0 m sz) (hr : St.rt ⟨t, r, nx⟩ k = some ⟨e, sz, els⟩) (hm : els.length = m) (hy : St.ev ⟨t, r, nx⟩ y = .ro (.sl e2 sz els2)) (hn : els2.map (List.map roC) = nls) (hq : nls.length = q) (hb : (m + q) * by_ ≤ 140737488355328) (h63 : m + q ≤ 9223372036854775807) :
    Sg F n P X ops ⟨some dst, .call { callee := .builtin .append, args := #[x, y], argTypes := at_ }, ty, pos, af, none⟩ t r nx ⟨needO x (.rf k 0 m sz) ++ needO y (.ro (.sl e2 sz els2)), [(k, ⟨e, sz, els⟩)]⟩ [nx * 64] ⟨[(dst, .rf (nx * 64) 0 (m + q) sz)], [(nx * 64, some ⟨e, sz, els ++ nls⟩), (k, none)]⟩ :=
  sg_app (kl := [k]) hat ⟨fun p hp => (List.mem_append.1 hp).elim (need_ok hx p) (need_ok hy p), fun p hp => by simp at hp; rcases hp with rfl; assumption⟩ fun U S a w N bs FP hd hR hdn hk => by
    have hvx := hR.hv_of X (ev_again hx fun p hp => hd.t p (List.mem_append_left _ hp))
    have hvy := hR.hv_of X (ev_again hy fun p hp => hd.t p (List.mem_append_right _ hp))
    have h1 := hd.r (k, ⟨e, sz, els⟩) (by simp)
    subst hq
    have := append_root (ty := ty) hR hdn hk E hvx h1 (by omega) [k] (by simp) (hn ▸ Src.ro hvy.out_ro) (fun q hq => hq.elim) (.inl rfl) hb h63
    simpa [List.take_of_length_le (show els.length ≤ m by omega)] using this
/-- A root's elements, to all of a root; they may be copied. -/
theorem l_appC {T e sz by_ m q k k2 lo2 e2 : Nat} {x y : Operand} {els els2 nls : List (List CT)} {at_ : Array TypeId} (E : ElemT P T e sz by_) (hat : at_ = #[T, T]) (hx : St.ev ⟨t, r, nx⟩ x = .rf k 0 m sz) (hr : St.rt ⟨t, r, nx⟩ k = some ⟨e, sz, els⟩) (hm : els.length = m) (hy : St.ev ⟨t, r, nx⟩ y = .rf k2 lo2 q sz) (hr2 : St.rt ⟨t, r, nx⟩ k2 = some ⟨e2, sz, els2⟩)
    (hle : lo2 + q ≤ els2.length) (hn : (els2.drop lo2).take q = nls) (hc : ∀ es ∈ nls, ∀ c ∈ es, c.cp = true) (hb : (m + q) * by_ ≤ 140737488355328) (h63 : m + q ≤ 9223372036854775807) :
    Sg F n P X ops ⟨some dst, .call { callee := .builtin .append, args := #[x, y], argTypes := at_ }, ty, pos, af, none⟩ t r nx ⟨needO x (.rf k 0 m sz) ++ needO y (.rf k2 lo2 q sz), [(k, ⟨e, sz, els⟩), (k2, ⟨e2, sz, els2⟩)]⟩ [nx * 64] ⟨[(dst, .rf (nx * 64) 0 (m + q) sz)], [(nx * 64, some ⟨e, sz, els ++ nls⟩), (k, none)]⟩ :=
  sg_app (kl := [k]) hat ⟨fun p hp => (List.mem_append.1 hp).elim (need_ok hx p) (need_ok hy p), fun p hp => by simp at hp; rcases hp with rfl | rfl <;> assumption⟩ fun U S a w N bs FP hd hR hdn hk => by
    have hvx := hR.hv_of X (ev_again hx fun p hp => hd.t p (List.mem_append_left _ hp))
    have hvy := hR.hv_of X (ev_again hy fun p hp => hd.t p (List.mem_append_right _ hp))
    have h1 := hd.r (k, ⟨e, sz, els⟩) (by simp)
    have h2 := hd.r (k2, ⟨e2, sz, els2⟩) (by simp)
    have hql : nls.length = q := by rw [← hn]; simp; omega
    have hs : Src w N bs NoB sz (a.eval y) nls := (hn ▸ Src.root hR h2 hvy hle : Src w N bs (FP k2) sz (a.eval y) nls).copy hc
    have := append_root (ty := ty) hR hdn hk E hvx h1 (by omega) [k] (by simp) hs (fun q hq => hq.elim) (.inl rfl) (by rw [hql]; exact hb) (by rw [hql]; exact h63)
    rw [hql] at this
    simpa [List.take_of_length_le (show els.length ≤ m by omega)] using this
/-! ### parts -/
theorem slice_lh {T e s : Nat} (hT : SlI P T e s) (A : Option Addr) (m cap l h : Nat) (lo hi : Option Value) (hlo : lo = none ∧ l = 0 ∨ ∃ k, lo = some (.int k (l : Int))) (hhi : hi = none ∧ h = m ∨ ∃ k, hi = some (.int k (h : Int))) (hlh : l ≤ h) (hh : h ≤ cap) (w : World) :
    (Instr.sliceAt T (.slice A m cap) lo hi none).run P w = .ok (.slice (if cap = l then A else A.map (·.add (l * s))) (h - l) (cap - l)) w := by
  have h0 : ∀ k, (Instr.sliceBound (.int k (l : Int)) h .sliceB).run P w = .ok l w := fun k => by
    have e1 : (l : Int) ≤ (h : Int) := by omega
    simp [Instr.sliceBound, asIntOf, e1]
  have h1 : ∀ k, (Instr.sliceBound (.int k (h : Int)) cap .sliceAcap).run P w = .ok h w := fun k => by
    have e1 : (h : Int) ≤ (cap : Int) := by omega
    simp [Instr.sliceBound, asIntOf, e1]
  rcases hlo with ⟨rfl, rfl⟩ | ⟨k, rfl⟩ <;> rcases hhi with ⟨rfl, rfl⟩ | ⟨k', rfl⟩ <;>
    simp [Instr.sliceAt, Instr.slice, run_underlying hT.u, Instr.sliceBounds, hT.sz, h0, h1]
theorem HV.cut {w : World} {N : Nat → Prop} {bs : Bs} {k lo m sz l h : Nat} {A : Option Addr} {m' cap : Nat} (hv : HV w N bs NoB (.rf k lo m sz) (.slice A m' cap)) (hlh : l ≤ h) (hh : h ≤ m) : h ≤ cap ∧ HV w N bs NoB (.rf k (lo + l) (h - l) sz) (.slice (if cap = l then A else A.map (·.add (l * sz))) (h - l) (cap - l)) := by
  cases hv with
  | rfNil hb =>
    have h0 : h = 0 := by omega
    have l0 : l = 0 := by omega
    subst h0; subst l0
    exact ⟨Nat.le_refl _, by simpa using HV.rfNil hb⟩
  | rf A g off cap hb hn hm hA =>
    refine ⟨by omega, ?_⟩
    rw [show cap - lo - l = cap - (lo + l) by omega]
    refine .rf _ g off cap hb (by omega) hm fun hc => ?_
    rcases hc with hc | hc
    · have := hA (.inl (by omega))
      subst this
      rw [if_neg (by omega)]
      simp only [Option.map_some, Option.some.injEq]
      rw [add_plain', Nat.add_mul, Nat.add_assoc]
    · have l0 : l = 0 := by omega
      have lo0 : lo = 0 := by omega
      subst l0; subst lo0
      have := hA (.inr rfl)
      subst this
      split
      · simp
      · simp only [Option.map_some, Option.some.injEq]
        rw [add_plain']
        simp
theorem RD.cut {w : World} {N : Nat → Prop} {e sz l h : Nat} {els : List (List CT)} {A : Option Addr} {m cap : Nat} (hv : RD w N (.sl e sz els) (.slice A m cap)) (hlh : l ≤ h) (hh : h ≤ els.length) : h ≤ cap ∧ RD w N (.sl e sz ((els.drop l).take (h - l))) (.slice (if cap = l then A else A.map (·.add (l * sz))) (h - l) (cap - l)) := by
  cases hv with
  | sl A b off m cap us hn hA hc hm hz hw h1 hr =>
    refine ⟨by omega, .sl _ b (off + l * sz) _ _ (fun i o => us (l + i) o) (by simp; omega) (fun hne => ?_) (by omega) (by omega) (fun es he => hz es (List.mem_of_mem_drop (List.mem_of_mem_take he))) (fun i o es c hi ho => ?_) (fun i o es c hi ho => ?_) (fun i o es c hi ho => ?_)⟩
    · have hlt : l < h := by
        rcases Nat.lt_or_ge l h with h' | h'
        · exact h'
        · exact absurd (by simp [show h - l = 0 by omega]) hne
      obtain ⟨rfl, hN⟩ := hA (fun e => by rw [e] at hh; simp at hh; omega)
      rw [if_neg (by omega)]
      exact ⟨by simp [add_plain'], hN⟩
    · obtain ⟨_, hi⟩ := cut_at hi
      have := hw _ o es c hi ho
      rwa [show off + ((l + i) * sz + o) = off + l * sz + (i * sz + o) by rw [Nat.add_mul]; omega] at this
    · obtain ⟨_, hi⟩ := cut_at hi
      exact h1 _ o es c hi ho
    · obtain ⟨_, hi⟩ := cut_at hi
      exact hr _ o es c hi ho
theorem HV.rf_form {w : World} {N : Nat → Prop} {bs : Bs} {k lo m sz : Nat} {u : Value} (hv : HV w N bs NoB (.rf k lo m sz) u) : ∃ A cap, u = .slice A m cap := by
  cases hv with
  | rfNil hb => exact ⟨none, 0, rfl⟩
  | rf A g off cap hb hn hm hA => exact ⟨A, _, rfl⟩
theorem RD.sl_form {w : World} {N : Nat → Prop} {e sz : Nat} {els : List (List CT)} {u : Value} (hv : RD w N (.sl e sz els) u) : ∃ A cap, u = .slice A els.length cap := by
  cases hv with
  | sl A b off m cap us hn hA hc hm hz hw h1 hr => exact ⟨A, cap, by rw [hn]⟩
/-- x[l:] -/
theorem l_cutL {T e lo m sz k l : Nat} {x y : Operand} {kd : IntKind} {z : Int} (hT : SlI P T e sz) (hx : St.ev ⟨t, r, nx⟩ x = .rf k lo m sz) (hy : St.ev ⟨t, r, nx⟩ y = .v (.int kd z)) (hz : z = (l : Int)) (hl : l ≤ m) :
    Sg F n P X ops ⟨some dst, .slice T x (some y) none none, ty, pos, af, none⟩ t r nx ⟨needO x (.rf k lo m sz) ++ needO y (.v (.int kd z)), []⟩ [] ⟨[(dst, .rf k (lo + l) (m - l) sz)], []⟩ :=
  sg_q (by simp) ⟨fun p hp => (List.mem_append.1 hp).elim (need_ok hx p) (need_ok hy p), fun p hp => by cases hp⟩ fun U S a w N bs FP hd hR => by
    have hvx := hR.hv_of X (ev_again hx fun p hp => hd.t p (List.mem_append_left _ hp))
    have hvy := hR.ev_v (ev_again hy fun p hp => hd.t p (List.mem_append_right _ hp))
    subst hz
    generalize he : a.eval x = u at hvx
    obtain ⟨A, cap, rfl⟩ := hvx.rf_form
    obtain ⟨h1, h2⟩ := hvx.cut hl (Nat.le_refl m)
    refine ⟨_, ?_, h2⟩
    have := slice_lh (P := P) hT A m cap l m (some (.int kd l)) none (.inr ⟨kd, rfl⟩) (.inl ⟨rfl, rfl⟩) hl h1 w
    simp [execOp, he, hvy, this]
/-- x[:h] -/
theorem l_cutH {T e lo m sz k h : Nat} {x y : Operand} {kd : IntKind} {z : Int} (hT : SlI P T e sz) (hx : St.ev ⟨t, r, nx⟩ x = .rf k lo m sz) (hy : St.ev ⟨t, r, nx⟩ y = .v (.int kd z)) (hz : z = (h : Int)) (hl : h ≤ m) :
    Sg F n P X ops ⟨some dst, .slice T x none (some y) none, ty, pos, af, none⟩ t r nx ⟨needO x (.rf k lo m sz) ++ needO y (.v (.int kd z)), []⟩ [] ⟨[(dst, .rf k lo h sz)], []⟩ :=
  sg_q (by simp) ⟨fun p hp => (List.mem_append.1 hp).elim (need_ok hx p) (need_ok hy p), fun p hp => by cases hp⟩ fun U S a w N bs FP hd hR => by
    have hvx := hR.hv_of X (ev_again hx fun p hp => hd.t p (List.mem_append_left _ hp))
    have hvy := hR.ev_v (ev_again hy fun p hp => hd.t p (List.mem_append_right _ hp))
    subst hz
    generalize he : a.eval x = u at hvx
    obtain ⟨A, cap, rfl⟩ := hvx.rf_form
    obtain ⟨h1, h2⟩ := hvx.cut (Nat.zero_le h) hl
    refine ⟨_, ?_, by simpa using h2⟩
    have := slice_lh (P := P) hT A m cap 0 h none (some (.int kd h)) (.inl ⟨rfl, rfl⟩) (.inr ⟨kd, rfl⟩) (Nat.zero_le _) h1 w
    simp [execOp, he, hvy] at this ⊢
    simp [this]
/-- x[l:h] of what is read. -/
theorem l_cutRo {T e e' sz l h : Nat} {x : Operand} {lo hi : Option Operand} {els els' : List (List CT)} (hT : SlI P T e sz) (hx : St.ev ⟨t, r, nx⟩ x = .ro (.sl e' sz els)) (hlo : lo = none ∧ l = 0 ∨ ∃ y k, lo = some y ∧ St.ev ⟨t, r, nx⟩ y = .v (.int k (l : Int))) (hhi : hi = none ∧ h = els.length ∨ ∃ y k, hi = some y ∧ St.ev ⟨t, r, nx⟩ y = .v (.int k (h : Int)))
    (hlh : l ≤ h) (hl : h ≤ els.length) (he : (els.drop l).take (h - l) = els') :
    Sg F n P X ops ⟨some dst, .slice T x lo hi none, ty, pos, af, none⟩ t r nx ⟨needO x (.ro (.sl e' sz els)) ++ ((lo.toList.flatMap fun y => needO y (St.ev ⟨t, r, nx⟩ y)) ++ (hi.toList.flatMap fun y => needO y (St.ev ⟨t, r, nx⟩ y))), []⟩ [] ⟨[(dst, .ro (.sl e' sz els'))], []⟩ :=
  sg_q (by simp) ⟨fun p hp => (List.mem_append.1 hp).elim (need_ok hx p) fun hp => (List.mem_append.1 hp).elim (fun hp => by
      obtain ⟨y, _, hp⟩ := List.mem_flatMap.1 hp
      exact need_ok rfl p hp) (fun hp => by
      obtain ⟨y, _, hp⟩ := List.mem_flatMap.1 hp
      exact need_ok rfl p hp), fun p hp => by cases hp⟩ fun U S a w N bs FP hd hR => by
    have hvx := (hR.hv_of X (ev_again hx fun p hp => hd.t p (List.mem_append_left _ hp))).out_ro
    have hlo' : lo.map a.eval = none ∧ l = 0 ∨ ∃ k, lo.map a.eval = some (.int k (l : Int)) := by
      rcases hlo with ⟨rfl, h⟩ | ⟨y, k, rfl, h⟩
      · exact .inl ⟨rfl, h⟩
      · exact .inr ⟨k, by simp [hR.ev_v (ev_again h fun p hp => hd.t p (List.mem_append_right _ (List.mem_append_left _ (by rw [← h] at hp; simpa using hp))))]⟩
    have hhi' : hi.map a.eval = none ∧ h = els.length ∨ ∃ k, hi.map a.eval = some (.int k (h : Int)) := by
      rcases hhi with ⟨rfl, h⟩ | ⟨y, k, rfl, h⟩
      · exact .inl ⟨rfl, h⟩
      · exact .inr ⟨k, by simp [hR.ev_v (ev_again h fun p hp => hd.t p (List.mem_append_right _ (List.mem_append_right _ (by rw [← h] at hp; simpa using hp))))]⟩
    generalize hev : a.eval x = u at hvx
    obtain ⟨A, cap, rfl⟩ := hvx.sl_form
    obtain ⟨h1, h2⟩ := hvx.cut hlh hl
    subst he
    refine ⟨_, ?_, .ro h2⟩
    have := slice_lh (P := P) hT A els.length cap l h (lo.map a.eval) (hi.map a.eval) hlo' hhi' hlh h1 w
    simp [execOp, hev, this]
end
end Go.Proofs.YtpeafglbhjjbhaaDoor

