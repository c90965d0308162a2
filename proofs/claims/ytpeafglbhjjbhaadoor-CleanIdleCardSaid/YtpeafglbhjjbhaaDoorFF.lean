/- More steps: scopes, bytes of a string, what is written no more. -/
import Derived.Test.YtpeafglbhjjbhaaDoorFE
import Derived.Lib.ConvBytes
import Derived.Scope
import Derived.Laws.AppendOwn
namespace Go
section
variable {F : Fence} {n : Nat} {P : Program} {b : Frame} {a : Act} {k : List Item} {cs : List Frame} {w : World} {Q : Exit → Act → World → Prop}
theorem stepR_scope {c : Code} : step P (lone (b.atR a (.code (.scope c) :: k)) cs w) = .next (lone (b.atR a (.code c :: .inScope c :: k)) cs w) :=
  step_lone_go (by simp [stepG, stepG.exec, Frame.atR])
theorem stepR_inScope {c : Code} : step P (lone (b.atR a (.inScope c :: k)) cs w) = .next (lone (b.atR a k) cs w) :=
  step_lone_go (by simp [stepG, stepG.exec, Frame.atR])
theorem wpIn_scope_straight {c : Code} (h : c.wpIn F n P (Exit.noGoto Q) a w) : (Code.scope c).wpIn F n P Q a w := by
  intro b k cs hro hb hr
  have h0 : (lone (b.atR a (.code (.scope c) :: k)) cs w).fenced P F := fenced_calm hb hr rfl
  obtain ⟨e, a₁, w₁, hq, harr⟩ := h b (.inScope c :: k) cs hro hb hr
  cases e with
  | normal => exact ⟨.normal, a₁, w₁, hq, .head h0 stepR_scope (StepsIn.trans harr (.one (fenced_calm hb hr rfl) stepR_inScope))⟩
  | exit id =>
    have hx : exitTo id (.inScope c :: k) = exitTo id k := by simp [exitTo]
    exact ⟨.exit id, a₁, w₁, hq, fun k' hk => .head h0 stepR_scope (harr.1 k' (by rw [hx]; exact hk)),
      fun hr' hk => let ⟨k₁, h1, h2⟩ := harr.2 hr' (by rw [hx]; exact hk); ⟨k₁, h1, .head h0 stepR_scope h2⟩⟩
  | goto l => exact hq.elim
  | ret => exact ⟨_, a₁, w₁, hq, .of_steps (.one h0 stepR_scope) harr⟩
  | panic ch => exact ⟨_, a₁, w₁, hq, .of_steps (.one h0 stepR_scope) harr⟩
  | outgrown => exact ⟨_, a₁, w₁, hq, .of_steps (.one h0 stepR_scope) harr⟩
end
end Go
namespace Go.Proofs.YtpeafglbhjjbhaaDoor
open Go Go.RowKit

/-- In a scope no jump by name is made. -/
def QSc (Q : Exit → St → Prop) : Exit → St → Prop
  | .goto _, _ => False
  | e, S => Q e S
section
variable {F : Fence} {n : Nat} {P : Program} {X : Cx} {Q : Exit → St → Prop} {S : St} {id : Nat}
theorem w_scope {c : Code} (h : W F n P X c S (QSc Q)) : W F n P X (.scope c) S Q :=
  fun a w hR => wpIn_scope_straight (wpIn_mono (h a w hR) fun e a' w' ⟨S', h1, h2⟩ => by
    cases e with
    | goto l => exact h2.elim
    | _ => exact ⟨S', h1, h2⟩)
theorem q_nSc (h : Q .normal S) : QSc Q .normal S := h
theorem q_rSc (h : Q .ret S) : QSc Q .ret S := h
end
def uC (n : Int) : List CT := [.v (.int .u8 n)]
def bytesL (s : ByteArray) : List Int := s.data.toList.map fun b => (b.toNat : Int)
section
variable {F : Fence} {n : Nat} {P : Program} {X : Cx} {ops : Array Oper} {t : List (Nat × CT)} {r : List (Nat × Option Root)} {nx : Nat} [hF : Wd F] {dst ty : Nat} {pos : String} {af : Array Edge}
structure CbI (P : Program) (T T2 e : Nat) : Prop where
  s : P.underlying T = some .string
  d : P.underlying T2 = some (.slice e)
  e : P.underlying e = some (.int .u8)
theorem l_convB {T T2 e : Nat} {x : Operand} {s : ByteArray} (hT : CbI P T T2 e) (hx : St.ev ⟨t, r, nx⟩ x = .v (.string s)) (hs : s.size ≤ 140737488355328) :
    Sg F n P X ops ⟨some dst, .convert T T2 x, ty, pos, af, none⟩ t r nx ⟨needO x (.v (.string s)), []⟩ [] ⟨[(dst, .ro (.sl e 1 ((bytesL s).map uC)))], []⟩ := by
  refine ⟨?_, ⟨need_ok hx, fun p hp => by cases hp⟩, fun _ h => by cases h⟩
  intro i hi hdd Q U S a w hd hk hR
  have hn := fun k => hdd i _ k hi
  obtain ⟨N, bs, FP, hR⟩ := hR
  have hev := hR.ev_v (ev_again hx hd.t)
  have hrun := Lib.run_convert_string_bytes (P := P) w T T2 e s hT.s hT.d hT.e
  have hr : (execOp a.eval ⟨some dst, .convert T T2 x, ty, pos, af, none⟩).run P w = .ok (.value (.slice (some ⟨w.heap.size, 0, none⟩) s.size (grownCap w s.size 0 e))) (Lib.bytesWorld w e s) := by
    simp [execOp, hev, hrun]
  refine opWp_value rfl (by simp) hr ⟨_, rfl, fun q => N q ∨ q = w.heap.size, bs, FP, ?_⟩
  have hsz := Lib.bytesWorld_size w e s
  have hold := Lib.bytesWorld_at_old w e s
  have hc : Chd NoB w (Lib.bytesWorld w e s) := ⟨by omega, by simp [Lib.bytesWorld, World.freeze]; rfl, by simp [Lib.bytesWorld, World.freeze], by simp [Lib.bytesWorld, World.freeze]; rfl, fun k hk _ => hold k hk⟩
  have hcap : s.size ≤ grownCap w s.size 0 e ∧ grownCap w s.size 0 e ≤ 9223372036854775807 := by
    exact ⟨Go.grownCap_ge _ _ _ _, by have := Go.grownCap_le_maxLen w s.size 0 e (by unfold maxLen; omega); unfold maxLen at this; omega⟩
  refine RelI.weakU (U := U) (hR.next (D := NoB) (N' := fun q => N q ∨ q = w.heap.size) hc (fun _ h => h.elim) (fun _ h => .inl h) ?_ hR.u ?_ hR.f2 ((put_size a _ _).trans hR.sz) (put_defers a _ _) ?_ ?_ (fun r _ h => .inl ⟨r, h⟩) (fs_app hR.nl hn) (fun _ _ h => h) (fun q hq => hq.elim Or.inl fun h => Or.inr (by omega))) fun _ h => Or.inl h
  · rintro q (hq | rfl)
    · have := hR.n1 q hq; omega
    · omega
  · intro r q hq
    obtain ⟨g1, g2, g3⟩ := hR.f1 r q hq
    exact ⟨by omega, fun h => h.elim g2 (fun h => by omega), g3⟩
  · refine ts_put (fun t => hR.ts_next (N' := fun q => N q ∨ q = w.heap.size) hc (fun _ h => h.elim) (fun _ h => Or.inl h) (fun _ _ h => h) (hR.ts t)) (fun k hk => by rw [hR.sz]; exact hn k hk) (.ro ?_) _
    have hl : (bytesL s).length = s.size := by simp [bytesL]
    refine .sl (some ⟨w.heap.size, 0, none⟩) w.heap.size 0 s.size (grownCap w s.size 0 e) (fun i _ => .int .u8 ((bytesL s).getD i 0)) (by simp [hl]) (fun _ => ⟨rfl, .inr rfl⟩) hcap.1 hcap.2 (fun es he => by
      obtain ⟨x, _, rfl⟩ := List.mem_map.1 he
      rfl) (fun i o es c hi ho => ?_) (fun _ _ _ _ _ _ => rfl) (fun i o es c hi ho => ?_)
    · rw [List.getElem?_map] at hi
      cases hb : (bytesL s)[i]? with
      | none => simp [hb] at hi
      | some b =>
        simp [hb] at hi
        subst hi
        have ho0 : o = 0 := by
          have := (List.getElem?_eq_some_iff.1 ho).1
          simp [uC] at this
          exact this
        subst ho0
        have hi' : i < s.size := by rw [← hl]; exact (List.getElem?_eq_some_iff.1 hb).1
        have := Lib.bytesWorld_cell w e s i hi'
        simp only [Nat.mul_one, Nat.add_zero, Nat.zero_add]
        rw [this]
        simp [bytesL, List.getD, hi', List.getElem?_map]
    · rw [List.getElem?_map] at hi
      cases hb : (bytesL s)[i]? with
      | none => simp [hb] at hi
      | some b =>
        simp [hb] at hi
        subst hi
        have ho0 : o = 0 := by
          have := (List.getElem?_eq_some_iff.1 ho).1
          simp [uC] at this
          exact this
        subst ho0
        simp [uC] at ho
        subst ho
        simp [List.getD, hb]
        exact .v _
  · intro q R hq
    exact hR.rs_next (N' := fun q => N q ∨ q = w.heap.size) hc (fun _ h => h.elim) (fun _ h => Or.inl h) (fun _ _ h => h) hq (fun _ h => h.elim)
/-- A root of one element that is written no more: it is read from here on. -/
theorem le_freeze (k : Nat) (ts : List (Nat × CT)) {e sz : Nat} {es : List CT} (hr : St.rt ⟨t, r, nx⟩ k = some ⟨e, sz, [es]⟩) (hc : ∀ c ∈ es, Cl true c) (hts : ∀ p ∈ ts, ∃ o, St.tm ⟨t, r, nx⟩ p.1 = .ad k sz 0 o ∧ p.2 = .ro (.rp es o)) :
    St.le X ⟨t, r, nx⟩ ⟨ts ++ t, (k, none) :: r, nx⟩ := fun a w hR => by
  obtain ⟨N, bs, FP, h⟩ := hR
  have hup : ∀ {P : Nat → Prop} {c : CT} {u : Value}, HV w N bs P c u → HV w (fun q => N q ∨ FP k q) bs P c u := fun hv => hv.frame (fun _ _ => rfl) (fun _ _ => rfl) (fun _ h => .inl h) (fun _ _ h => h)
  refine ⟨fun q => N q ∨ FP k q, bs, upd FP k NoB, {
    blk := h.blk
    size := h.size
    os := h.os
    tape := h.tape
    output := h.output
    n1 := fun q hq => hq.elim (h.n1 q) fun hq => (h.f1 k q hq).1
    n0 := fun q hq => .inl (h.n0 q hq)
    n2 := fun q hq => hq.elim (h.n2 q) fun hq => .inr (h.f1 k q hq).2.2
    f1 := fun r' q hq => ?_
    f2 := fun r' r2 q hq hq2 => ?_
    u := h.u
    sz := h.sz
    pk := h.pk
    nl := h.nl
    df := h.df.mono fun q ⟨g1, g2, g3, g4⟩ _ => ⟨⟨g1, fun hn => hn.elim g2 (g4 k), g3, fun r' hq => by
      by_cases e1 : r' = k
      · rw [e1, upd_same] at hq; exact hq
      · rw [upd_ne _ _ e1] at hq; exact g4 r' hq⟩, rfl⟩
    fo := fun f hf => by
      have hf' : St.tm ⟨t, r, nx⟩ FS = .fo f := by
        have key : ∀ ts' : List (Nat × CT), (∀ p ∈ ts', ∃ o, St.tm ⟨t, r, nx⟩ p.1 = .ad k sz 0 o ∧ p.2 = .ro (.rp es o)) → lk .un (ts' ++ t) FS = .fo f → St.tm ⟨t, r, nx⟩ FS = .fo f := by
          intro ts'
          induction ts' with
          | nil => intro _ h; exact h
          | cons p ts' ih =>
            intro hp h
            obtain ⟨p1, p2⟩ := p
            by_cases e1 : p1 = FS
            · subst e1
              obtain ⟨o, _, g2⟩ := hp _ List.mem_cons_self
              simp only at g2
              subst g2
              have h2 : lk CT.un ((FS, .ro (.rp es o)) :: (ts' ++ t)) FS = .ro (.rp es o) := lk_same _ _ _ _
              rw [List.cons_append, h2] at h
              cases h
            · have h2 : lk CT.un ((p1, p2) :: (ts' ++ t)) FS = lk .un (ts' ++ t) FS := lk_ne _ _ _ e1
              rw [List.cons_append, h2] at h
              exact ih (fun p hp' => hp p (List.mem_cons_of_mem _ hp')) h
        exact key ts hts hf
      obtain ⟨g0, F, g1, g2, g3⟩ := h.fo f hf'
      exact ⟨g0, F, f.st w w F N _ g1 (fun _ h => .inl h) (fun _ _ => rfl) (Nat.le_refl _) rfl rfl rfl (fun _ _ => rfl) (fun _ _ => rfl), ⟨g2.1, fun r' q hq => by
        by_cases e1 : r' = k
        · rw [e1, upd_same] at hq; exact hq.elim
        · rw [upd_ne _ _ e1] at hq; exact g2.2 r' q hq⟩, fun q hq => ⟨(g3 q hq).1, fun hn => hn.elim (g3 q hq).2.1 ((g3 q hq).2.2.2 k), (g3 q hq).2.2.1, fun r' hr' => by
        by_cases e1 : r' = k
        · rw [e1, upd_same] at hr'; exact hr'
        · rw [upd_ne _ _ e1] at hr'; exact (g3 q hq).2.2.2 r' hr'⟩⟩
    gl := fun p hp => (h.gl p hp).mono (fun _ _ => rfl) fun _ h => .inl h
    ts := fun t' => ?_
    rs := fun r' R hR => ?_ }⟩
  · by_cases e1 : r' = k
    · rw [e1, upd_same] at hq; exact hq.elim
    · rw [upd_ne _ _ e1] at hq
      obtain ⟨g1, g2, g3⟩ := h.f1 r' q hq
      exact ⟨g1, fun hn => hn.elim g2 fun hk => e1 (h.f2 r' k q hq hk), g3⟩
  · by_cases e1 : r' = k
    · rw [e1, upd_same] at hq; exact hq.elim
    · by_cases e2 : r2 = k
      · rw [e2, upd_same] at hq2; exact hq2.elim
      · rw [upd_ne _ _ e1] at hq; rw [upd_ne _ _ e2] at hq2; exact h.f2 r' r2 q hq hq2
  · show HV w _ bs NoB (lk .un (ts ++ t) t') _
    have key : ∀ ts' : List (Nat × CT), (∀ p ∈ ts', ∃ o, St.tm ⟨t, r, nx⟩ p.1 = .ad k sz 0 o ∧ p.2 = .ro (.rp es o)) → HV w (fun q => N q ∨ FP k q) bs NoB (lk .un (ts' ++ t) t') (a.tmps.getD t' undef) := by
      intro ts'
      induction ts' with
      | nil => intro _; exact hup (h.ts t')
      | cons p ts' ih =>
        intro hp
        obtain ⟨p1, p2⟩ := p
        by_cases e1 : p1 = t'
        · subst e1
          obtain ⟨o, g1, g2⟩ := hp _ List.mem_cons_self
          simp only at g1 g2
          subst g2
          show HV w _ bs NoB (lk .un ((p1, .ro (.rp es o)) :: (ts' ++ t)) p1) _
          rw [lk_same]
          have hu := h.ts p1
          rw [g1] at hu
          generalize a.tmps.getD p1 undef = u at hu
          cases hu with
          | ad g off cap hb =>
            obtain ⟨cur, us, Q, hg, hh, hs, hcl, hm, hz, hQ, hd, hw, h1, hv⟩ := h.root hb hr
            rw [Nat.zero_mul, Nat.zero_add]
            refine .ro (.rp g off (us 0) (.inr hg) (fun j c hj => ?_) (fun j c hj => ?_))
            · have := hw 0 j es c rfl hj
              simp only [World.cell?, hh]
              simpa using this
            · exact (hv 0 j es c rfl hj).rd (hc c (List.mem_of_getElem? hj)) (fun _ h => .inl h) (fun q hq => .inr (hQ 0 j q hq).1)
        · show HV w _ bs NoB (lk .un ((p1, p2) :: (ts' ++ t)) t') _
          rw [lk_ne _ _ _ e1]
          exact ih fun p hp' => hp p (List.mem_cons_of_mem _ hp')
    exact key ts hts
  · have hR' : (if k = r' then none else lk none r r') = some R := hR
    by_cases e1 : k = r'
    · rw [if_pos e1] at hR'; cases hR'
    · rw [if_neg e1] at hR'
      obtain ⟨x, hx, hv⟩ := h.rs r' R hR'
      refine ⟨x, hx, ?_⟩
      rw [upd_ne FP _ (Ne.symm e1)]
      exact hup hv
inductive EvL (S : St) : List Operand → List CT → Prop
  | nil : EvL S [] []
  | cons {x : Operand} {c : CT} {xs : List Operand} {l : List CT} (h : Is (S.ev x) c) (h' : EvL S xs l) : EvL S (x :: xs) (c :: l)
omit hF in
theorem EvL.at_ {S : St} {xs : List Operand} {l : List CT} (h : EvL S xs l) : xs.length = l.length ∧ ∀ (j : Nat) (x : Operand) (c : CT), xs[j]? = some x → l[j]? = some c → S.ev x = c := by
  induction h with
  | nil => exact ⟨rfl, fun j x c hx => by simp at hx⟩
  | cons h _ ih =>
    refine ⟨by simp [ih.1], fun j x c hx hc => ?_⟩
    cases j with
    | zero => simp at hx hc; subst hx; subst hc; exact h.eq
    | succ j => exact ih.2 j x c (by simpa using hx) (by simpa using hc)
theorem l_fnE {f : FuncId} {l : List CT} {xs : List Operand} (h : EvL ⟨t, r, nx⟩ xs l) :
    Sg F n P X ops ⟨some dst, .makeFunc (.func f) #[] xs.toArray, ty, pos, af, none⟩ t r nx ⟨(xs.zip l).flatMap fun p => needO p.1 p.2, []⟩ [] ⟨[(dst, .fn (.func f) [] l)], []⟩ :=
  l_fn (xs := xs.toArray) (by simpa using h.at_.1) fun j x c hx hc => h.at_.2 j x c (by simpa using hx) hc
omit hF in
/-- A row's end is left out of account. -/
theorem le_trunc (k m : Nat) {e sz : Nat} {els els' : List (List CT)} (hr : St.rt ⟨t, r, nx⟩ k = some ⟨e, sz, els⟩) (he : els.take m = els') : St.le X ⟨t, r, nx⟩ ⟨t, (k, some ⟨e, sz, els'⟩) :: r, nx⟩ := fun a w hR => by
  obtain ⟨N, bs, FP, h⟩ := hR
  subst he
  refine ⟨N, bs, FP, { h with fo := fun f hf => h.fo f hf, u := h.u, ts := h.ts, rs := fun r' R hR' => ?_ }⟩
  by_cases e1 : k = r'
  · subst e1
    have hR2 : lk none ((k, some ⟨e, sz, els.take m⟩) :: r) k = some R := hR'
    rw [lk_same] at hR2
    cases hR2
    obtain ⟨x, hx, hv⟩ := h.rs k _ hr
    refine ⟨x, hx, ?_⟩
    cases x with
    | none =>
      cases hv
      rw [List.take_nil]
      exact .nil
    | some x =>
      obtain ⟨g, off, cap⟩ := x
      obtain ⟨cur, us, Q, hg, hh, hs, hcl, hm', hz, hQ, hd, hw, h1, hvv⟩ := h.root hx hr
      have hat : ∀ i es, (els.take m)[i]? = some es → els[i]? = some es := fun i es hi => by
        have := cut_at (lo := 0) (els := els) (m := m) (i := i) (x := es) (by simpa using hi)
        simpa using this.2
      exact .own g off _ cap cur us Q rfl hg hh hs (by simp; omega) hm' (fun es he => hz es (List.mem_of_mem_take he)) hQ hd (fun i o es c hi ho => hw i o es c (hat i es hi) ho) (fun i o es c hi ho => h1 i o es c (hat i es hi) ho) (fun i o es c hi ho => hvv i o es c (hat i es hi) ho)
  · have hR2 : lk none ((k, some ⟨e, sz, els.take m⟩) :: r) r' = some R := hR'
    rw [lk_ne _ _ _ e1] at hR2
    exact h.rs r' R hR2
end
end Go.Proofs.YtpeafglbhjjbhaaDoor

