/- Deep words, thirteenth part: calls as operations. -/
import Derived.Test.YtpeafglbhjjbhaaDoorDL
namespace Go.Proofs.YtpeafglbhjjbhaaDoor
open Go Go.RowKit

/-- How an argument is seen by a call: B: roots may be lent. -/
inductive Vw1 (S : St) (B : Bool) : CT → CT → List (Nat × Root) → Prop
  | v (x : Value) : Vw1 S B (.v x) (.v x) []
  | ro (c : CT) : Vw1 S B (.ro c) c []
  | un : Vw1 S B .un .un []
  | rf {k m sz e : Nat} {els : List (List CT)} (hB : B = true) (hr : S.rt k = some ⟨e, sz, els⟩) (hl : els.length = m) (hc : ∀ es ∈ els, ∀ c ∈ es, Cl true c) : Vw1 S B (.rf k 0 m sz) (.sl e sz els) [(k, ⟨e, sz, els⟩)]
  | cut {k lo m sz e : Nat} {els els' : List (List CT)} (hB : B = true) (hr : S.rt k = some ⟨e, sz, els⟩) (hl : lo + m ≤ els.length) (he : (els.drop lo).take m = els') (hc : ∀ es ∈ els', ∀ c ∈ es, Cl true c) : Vw1 S B (.rf k lo m sz) (.sl e sz els') [(k, ⟨e, sz, els⟩)]
  | ad {k sz i o e : Nat} {els : List (List CT)} {es : List CT} (hB : B = true) (hr : S.rt k = some ⟨e, sz, els⟩) (hi : els[i]? = some es) (hc : ∀ c ∈ es, Cl true c) : Vw1 S B (.ad k sz i o) (.rp es o) [(k, ⟨e, sz, els⟩)]
inductive VwL (S : St) (B : Bool) : List CT → List CT → List (Nat × Root) → Prop
  | nil : VwL S B [] [] []
  | cons {c c' : CT} {l l' : List CT} {d d' : List (Nat × Root)} (h : Vw1 S B c c' d) (h' : VwL S B l l' d') : VwL S B (c :: l) (c' :: l') (d ++ d')
inductive Vw (S : St) (B : Bool) : CT → CT → List (Nat × Root) → Prop
  | one {c c' : CT} {d : List (Nat × Root)} (h : Vw1 S B c c' d) : Vw S B c c' d
  | ag {l l' : List CT} {d : List (Nat × Root)} (h : VwL S B l l' d) : Vw S B (.ag l) (.ag l') d
  | fn {f : Fn} {b b' : List CT} {d : List (Nat × Root)} (h : VwL S B b b' d) : Vw S B (.fn f [] b) (.fn f [] b') d
/-- The arguments of a call. -/
inductive AL (S : St) (B : Bool) : List Operand → List CT → List (Nat × CT) → List (Nat × Root) → Prop
  | nil : AL S B [] [] [] []
  | cons {x : Operand} {c c' : CT} {xs : List Operand} {cs : List CT} {nt : List (Nat × CT)} {d nr : List (Nat × Root)} (h : Is (S.ev x) c) (hv : Vw S B c c' d) (h' : AL S B xs cs nt nr) : AL S B (x :: xs) (c' :: cs) (needO x c ++ nt) (d ++ nr)
theorem Vw1.r {S : St} {B : Bool} {c c' : CT} {d : List (Nat × Root)} (h : Vw1 S B c c' d) : ∀ p ∈ d, S.rt p.1 = some p.2 := by
  intro p hp
  cases h <;> simp at hp <;> (subst hp; assumption)
theorem VwL.r {S : St} {B : Bool} {c c' : List CT} {d : List (Nat × Root)} (h : VwL S B c c' d) : ∀ p ∈ d, S.rt p.1 = some p.2 := by
  induction h with
  | nil => intro p hp; cases hp
  | cons h _ ih => intro p hp; exact (List.mem_append.1 hp).elim (h.r p) (ih p)
theorem Vw.r {S : St} {B : Bool} {c c' : CT} {d : List (Nat × Root)} (h : Vw S B c c' d) : ∀ p ∈ d, S.rt p.1 = some p.2 := by
  cases h with
  | one h => exact h.r
  | ag h => exact h.r
  | fn h => exact h.r
theorem Vw1.again {S S2 : St} {B : Bool} {c c' : CT} {d : List (Nat × Root)} (h : Vw1 S B c c' d) (h2 : ∀ p ∈ d, S2.rt p.1 = some p.2) : Vw1 S2 B c c' d := by
  cases h with
  | v x => exact .v x
  | ro c => exact .ro _
  | un => exact .un
  | rf hB hr hl hc => exact .rf hB (h2 (_, _) List.mem_cons_self) hl hc
  | cut hB hr hl he hc => exact .cut hB (h2 (_, _) List.mem_cons_self) hl he hc
  | ad hB hr hi hc => exact .ad hB (h2 (_, _) List.mem_cons_self) hi hc
theorem VwL.again {S S2 : St} {B : Bool} {c c' : List CT} {d : List (Nat × Root)} (h : VwL S B c c' d) (h2 : ∀ p ∈ d, S2.rt p.1 = some p.2) : VwL S2 B c c' d := by
  induction h with
  | nil => exact .nil
  | cons h _ ih => exact .cons (h.again fun p hp => h2 p (List.mem_append_left _ hp)) (ih fun p hp => h2 p (List.mem_append_right _ hp))
theorem Vw.again {S S2 : St} {B : Bool} {c c' : CT} {d : List (Nat × Root)} (h : Vw S B c c' d) (h2 : ∀ p ∈ d, S2.rt p.1 = some p.2) : Vw S2 B c c' d := by
  cases h with
  | one h => exact .one (h.again h2)
  | ag h => exact .ag (h.again h2)
  | fn h => exact .fn (h.again h2)
theorem AL.ok {S : St} {B : Bool} {xs : List Operand} {cs : List CT} {nt : List (Nat × CT)} {nr : List (Nat × Root)} (h : AL S B xs cs nt nr) : Nd.ok ⟨nt, nr⟩ S := by
  induction h with
  | nil => exact ⟨fun p hp => (by cases hp), fun p hp => (by cases hp)⟩
  | cons h hv _ ih => exact ⟨fun p hp => (List.mem_append.1 hp).elim (need_ok h.eq p) (ih.t p), fun p hp => (List.mem_append.1 hp).elim (hv.r p) (ih.r p)⟩
section
variable {X : Cx} {U : Nat → Prop} {S : St} {a : Act} {w : World} {N : Nat → Prop} {bs : Bs} {FP : Nat → Nat → Prop}
/-- What a call may read. -/
def lent (B : Bool) (N : Nat → Prop) (FP : Nat → Nat → Prop) : Nat → Prop := fun q => N q ∨ (B = true ∧ ∃ r, FP r q)
theorem Vw1.rd (h : RelI X U S a w N bs FP) {B : Bool} {c c' : CT} {d : List (Nat × Root)} (hv : Vw1 S B c c' d) {u : Value} (hu : HV w N bs NoB c u) : RD w (lent B N FP) c' u := by
  cases hv with
  | v x => rw [hu.val]; exact .v x
  | ro c => exact hu.out_ro.mono (fun _ _ => rfl) fun _ h => .inl h
  | un => exact .un _
  | rf hB hr hl hc =>
    cases hu with
    | rfNil hb =>
      obtain ⟨x, hx, hv⟩ := h.rs _ _ hr
      rw [hb] at hx
      cases hx
      simp only [hdr] at hv
      exact hv.rd (.sl _ _ hc) (fun _ h => .inl h) fun q hq => .inr ⟨hB, _, hq⟩
    | rf A g off cap hb hn hm hA =>
      obtain ⟨x, hx, hv⟩ := h.rs _ _ hr
      rw [hb] at hx
      cases hx
      have hA' := hA (.inr rfl)
      subst hA'
      have := hv.rd (.sl _ _ hc) (N' := lent B N FP) (fun _ h => .inl h) fun q hq => .inr ⟨hB, _, hq⟩
      simpa [hdr, hl] using this
  | @cut k lo m sz e els els' hB hr hl he hc =>
    obtain ⟨A, cap, rfl⟩ := hu.rf_form
    have hs := Src.root h hr hu hl
    subst he
    cases hu with
    | rfNil hb =>
      refine .sl none 0 0 0 0 (fun _ _ => undef) (by simp) (fun h => absurd (by simp) h) (Nat.le_refl _) (by omega) (by simp) (fun i o es c hi => by simp at hi) (fun i o es c hi => by simp at hi) (fun i o es c hi => by simp at hi)
    | rf A g off cap hb hn hm63 hA =>
      obtain ⟨cur, us, Q, hg, hh, hs', hcl, hm', hz, hQ, hd, hw, h1, hv⟩ := h.root hb hr
      refine .sl A g (off + lo * sz) m _ (fun i o => us (lo + i) o) (by simp; omega) (fun hne => ?_) (by omega) (by omega) (fun es he => hz es (List.mem_of_mem_drop (List.mem_of_mem_take he))) (fun i o es c hi ho => ?_) (fun i o es c hi ho => ?_) (fun i o es c hi ho => ?_)
      · have hm0 : 0 < m := by
          rcases Nat.eq_zero_or_pos m with e | e
          · exact absurd (by simp [e]) hne
          · exact e
        exact ⟨hA (by omega), .inr ⟨hB, k, hg⟩⟩
      · obtain ⟨_, hi⟩ := cut_at hi
        have := hw _ o es c hi ho
        simp only [World.cell?, hh]
        rw [Nat.add_mul] at this
        simpa [Nat.add_assoc] using this
      · obtain ⟨_, hi⟩ := cut_at hi
        exact h1 _ o es c hi ho
      · have hm := List.mem_of_getElem? hi
        obtain ⟨_, hi⟩ := cut_at hi
        exact (hv _ o es c hi ho).rd (hc es hm c (List.mem_of_getElem? ho)) (fun _ h => .inl h) fun q hq => .inr ⟨hB, k, (hQ _ o q hq).1⟩
  | @ad k sz i o e els es hB hr hi hc =>
    cases hu with
    | ad g off cap hb =>
      obtain ⟨cur, us, Q, hg, hh, hs', hcl, hm', hz, hQ, hd, hw, h1, hv⟩ := h.root hb hr
      have := RD.rp (w := w) (N := lent B N FP) (els := es) (o := o) g (off + i * sz) (us i) (.inr ⟨hB, k, hg⟩) (fun j c hj => by
        have := hw i j es c hi hj
        simp only [World.cell?, hh]
        simpa [Nat.add_assoc] using this) (fun j c hj => (hv i j es c hi hj).rd (hc c (List.mem_of_getElem? hj)) (fun _ h => .inl h) fun q hq => .inr ⟨hB, k, (hQ _ j q hq).1⟩)
      rwa [Nat.add_assoc] at this
theorem VwL.rd (h : RelI X U S a w N bs FP) {B : Bool} {l l' : List CT} {d : List (Nat × Root)} (hv : VwL S B l l' d) : l'.length = l.length ∧ ∀ (us : Nat → Value), (∀ j c, l[j]? = some c → HV w N bs NoB c (us j)) → ∀ j c, l'[j]? = some c → RD w (lent B N FP) c (us j) := by
  induction hv with
  | nil => exact ⟨rfl, fun us _ j c hj => by simp at hj⟩
  | cons h1 _ ih =>
    refine ⟨by simp [ih.1], fun us hu j c hj => ?_⟩
    cases j with
    | zero =>
      cases hj
      exact h1.rd h (hu 0 _ rfl)
    | succ j => exact ih.2 (fun j => us (j + 1)) (fun j c hj => hu (j + 1) c (by simpa using hj)) j c (by simpa using hj)
theorem Vw.rd (h : RelI X U S a w N bs FP) {B : Bool} {c c' : CT} {d : List (Nat × Root)} (hv : Vw S B c c' d) {u : Value} (hu : HV w N bs NoB c u) : RD w (lent B N FP) c' u := by
  cases hv with
  | one hv => exact hv.rd h hu
  | ag hv =>
    obtain ⟨h1, h2⟩ := hv.rd h
    cases hu with
    | ag us hl hr => exact .ag us (by rw [hl, h1]) (h2 (fun j => us.getD j undef) hr)
  | fn hv =>
    obtain ⟨h1, h2⟩ := hv.rd h
    cases hu with
    | fn us vs hl hl' hr hr' => exact .fn us vs hl (by rw [hl', h1]) (fun j c hj => by simp at hj) (h2 (fun j => vs.getD j undef) hr')
theorem AL.rd (h : RelI X U S a w N bs FP) {S0 : St} {B : Bool} {xs : List Operand} {cs : List CT} {nt : List (Nat × CT)} {nr : List (Nat × Root)} (hl : AL S0 B xs cs nt nr) (hok : Nd.ok ⟨nt, nr⟩ S) : cs.length = xs.length ∧ ∀ j c, cs[j]? = some c → RD w (lent B N FP) c ((xs.map a.eval).getD j undef) := by
  induction hl with
  | nil => exact ⟨rfl, fun j c hj => by simp at hj⟩
  | cons h1 hv _ ih =>
    obtain ⟨g1, g2⟩ := ih ⟨fun p hp => hok.t p (List.mem_append_right _ hp), fun p hp => hok.r p (List.mem_append_right _ hp)⟩
    refine ⟨by simp [g1], fun j c hj => ?_⟩
    cases j with
    | zero =>
      cases hj
      have hu := hR_ev h (ev_again h1.eq fun p hp => hok.t p (List.mem_append_left _ hp))
      exact (hv.again fun p hp => hok.r p (List.mem_append_left _ hp)).rd h hu
    | succ j => simpa using g2 j c (by simpa using hj)
where
  hR_ev {S : St} {x : Operand} {c : CT} (h : RelI X U S a w N bs FP) (hx : S.ev x = c) : HV w N bs NoB c (a.eval x) := by rw [← hx]; exact h.ev x
end
/-- A function that can be called. -/
structure FnI (P : Program) (f : FuncId) : Prop where
  run : ∀ args w, (callFunc f args).run P w = .ok (.enter f args) w
theorem FnI.mk' {P : Program} {f : FuncId} (h : ((P.funcs[f]?).map fun fn => fn.body.isSome && !(fn.name == "runtime.NumGoroutine")) = some true) : FnI P f := by
  cases hf : P.funcs[f]? with
  | none => simp [hf] at h
  | some fn =>
    simp [hf] at h
    refine ⟨fun args w => ?_⟩
    obtain ⟨b, hb⟩ := Option.isSome_iff_exists.1 h.1
    simp [callFunc, hf, h.2, hb]
/-- Nothing that is read is told. -/
inductive Fr : CT → Prop
  | cl {c : CT} (h : Cl false c) : Fr c
  | op {e sz : Nat} {es : List CT} (h : ∀ c ∈ es, Cl false c) : Fr (.op e sz es)
  | ag {l : List CT} (h : ∀ c ∈ l, Cl false c) : Fr (.ag l)
inductive FrT : CT → Prop
  | one {c : CT} (h : Fr c) : FrT c
  | tu {l : List CT} (h : ∀ c ∈ l, Fr c) : FrT (.tu l)
section
variable {w : World} {N N' : Nat → Prop} {P : Nat → Prop} {c : CT} {u : Value}
theorem HC.wider (h : HC w N P c u) (hN : ∀ q, N q → N' q) : HC w N' P c u := by
  cases h with
  | cell h => exact .cell (h.frame (fun _ _ => rfl) (fun _ _ => rfl) hN (fun _ _ h => h))
  | op h => exact .op (h.frame (fun _ _ => rfl) (fun _ _ => rfl) hN (fun _ _ h => h))
theorem HA.wider (h : HA w N P c u) (hN : ∀ q, N q → N' q) : HA w N' P c u := by
  cases h with
  | one h => exact .one (h.wider hN)
  | ag us Q hs hQ hd hr => exact .ag us Q hs hQ hd fun j c hj => (hr j c hj).wider hN
theorem HR.wider (h : HR w N P c u) (hN : ∀ q, N q → N' q) : HR w N' P c u := by
  cases h with
  | one h => exact .one (h.wider hN)
  | tu us Q hs hQ hd hr => exact .tu us Q hs hQ hd fun j c hj => (hr j c hj).wider hN
theorem HV.anyF (h : HV w N NoR P c u) (hf : Fr c) : HV w N' NoR P c u := by
  cases hf with
  | cl hf => exact h.any hf
  | op hf => cases h
  | ag hf =>
    cases h with
    | ag us hl hr => exact .ag us hl fun j c hj => (hr j c hj).any (hf c (List.mem_of_getElem? hj))
theorem HC.any (h : HC w N P c u) (hf : Fr c) : HC w N' P c u := by
  cases h with
  | cell h => exact .cell (h.anyF hf)
  | op h =>
    cases hf with
    | cl hf => cases hf
    | op hf => exact .op (h.any (.sl _ _ fun es he c hc => (by simp at he; subst he; exact hf c hc)))
theorem HA.any (h : HA w N P c u) (hf : Fr c) : HA w N' P c u := by
  cases h with
  | one h => exact .one (h.any hf)
  | ag us Q hs hQ hd hr =>
    cases hf with
    | cl hf => cases hf
    | ag hf => exact .ag us Q hs hQ hd fun j c hj => (hr j c hj).any (.cl (hf c (List.mem_of_getElem? hj)))
theorem HR.any (h : HR w N P c u) (hf : FrT c) : HR w N' P c u := by
  cases h with
  | one h =>
    cases hf with
    | one hf => exact .one (h.any hf)
    | tu hf =>
      cases h with
      | one h =>
        cases h with
        | cell h =>
          cases h with
          | tu us hl hr => exact .one (.one (.cell (.tu us hl fun j c hj => (hr j c hj).anyF (hf c (List.mem_of_getElem? hj)))))
  | tu us Q hs hQ hd hr =>
    cases hf with
    | one hf => cases hf with | cl hf => cases hf
    | tu hf => exact .tu us Q hs hQ hd fun j c hj => (hr j c hj).any (hf c (List.mem_of_getElem? hj))
end
section
variable {F : Fence} {n : Nat} {P : Program} {X : Cx} {ops : Array Oper} {o : Oper} {os : List Oper} {t : List (Nat × CT)} {r : List (Nat × Option Root)} {nx : Nat} {K : St → Prop} [hF : Wd F] {dst ty : Nat} {pos : String} {af : Array Edge}
/-- A call, as a step. -/
def SgC (F : Fence) (n : Nat) (P : Program) (X : Cx) (ops : Array Oper) (o : Oper) (t : List (Nat × CT)) (r : List (Nat × Option Root)) (nx : Nat) (d : Nd) (ks : List Nat) (dst : Nat) (post : CT → Prop) : Prop :=
  OpL F n P X ops o d ks (fun E => ∃ c, post c ∧ E = ⟨[(dst, rC (nx * 64) c)], rRC (nx * 64) c⟩) ∧ d.ok ⟨t, r, nx⟩ ∧ ∀ k ∈ ks, nx * 64 ≤ k ∧ k < nx * 64 + 64
omit hF in
theorem dvC {d : Nd} {ks : List Nat} {post : CT → Prop} (h : SgC F n P X ops o t r nx d ks dst post) (hK : ∀ c, post c → DvT F n P X ops os ((dst, rC (nx * 64) c) :: t) (rRC (nx * 64) c ++ r) (nx + 1) K) : DvT F n P X ops (o :: os) t r nx K :=
  ⟨t, r, nx, fun _ _ h => h, d, ks, _, h.1, h.2.1, h.2.2, by rintro E ⟨c, hc, rfl⟩; exact hK c hc⟩
/-- A function of the program is called; B: roots are lent, and nothing that is read is told. -/
theorem sg_call {o : Oper} {d : Nd} {f : FuncId} {cs : List CT} {B : Bool} {post : CT → Prop} (ho : o.dst = some dst) (hg : o.guard = none) (hdf : ∀ c, o.op ≠ .defer c) (hd0 : d.ok ⟨t, r, nx⟩) (hc : AC P X.G f cs post) (hok : ∀ c, post c → rOk c = true ∧ (B = true → FrT c))
    (hrun : ∀ U S a w N bs FP, d.ok S → RelI X U S a w N bs FP → ∃ vs : Array Value, (execOp a.eval o).run P w = .ok (.enter f vs) w ∧ vs.size = cs.length ∧ ∀ (j : Nat) c, cs[j]? = some c → RD w (lent B N FP) c (vs.getD j undef)) :
    SgC F n P X ops o t r nx d ((List.range 64).map (nx * 64 + ·)) dst post := by
  refine ⟨?_, hd0, fun k hk => by
    obtain ⟨j, hj, rfl⟩ := List.mem_map.1 hk
    simp at hj
    omega⟩
  intro i hi hdd Q U S a w hd hk hR
  obtain ⟨N, bs, FP, hR⟩ := hR
  obtain ⟨vs, hrun, hlen, hrd⟩ := hrun U S a w N bs FP hd hR
  have hcall := hc w (lent B N FP) vs (fun q hq => by
    rcases hq with hq | ⟨_, r, hq⟩
    · exact hR.n1 q hq
    · exact (hR.f1 r q hq).1) hlen hrd (fun p hp => (hR.gl p hp).mono (fun _ _ => rfl) fun _ h => .inl h)
  refine opWp_enter hg hdf hrun ((Wd.ci _ _ _ _ _ _ hcall).mono ?_)
  rintro e w' ⟨u, c, N', Pr, rfl, hp, hb, hN1, hN2, hPr, hres⟩
  refine ⟨u, rfl, ?_⟩
  rw [ho]
  obtain ⟨h8, hfr⟩ := hok c hp
  -- the blocks that are read, from the caller's side
  have hres' : HR w' (fun q => N q ∨ (w.heap.size ≤ q ∧ q < w'.heap.size ∧ ¬ Pr q)) Pr c u := by
    cases hB : B with
    | true => exact hres.any (hfr hB)
    | false =>
      subst hB
      have hsub : ∀ q, N' q → N q ∨ (w.heap.size ≤ q ∧ q < w'.heap.size ∧ ¬ Pr q) := fun q hq => by
        obtain ⟨g1, g2⟩ := hN2 q hq
        rcases g2 with g2 | g2
        · rcases g2 with g2 | ⟨hh, _⟩
          · exact .inl g2
          · cases hh
        · exact .inr ⟨g2, g1, fun hp => (hPr q hp).2.2 hq⟩
      exact HR.wider hres hsub
  have hR1 : RelI X U S a w' (fun q => N q ∨ (w.heap.size ≤ q ∧ q < w'.heap.size ∧ ¬ Pr q)) bs FP :=
    hR.next (D := NoB) (Chd.of_below hb) (fun _ h => h.elim) (fun _ h => .inl h) (fun q hq => by
      rcases hq with hq | hq
      · exact Nat.lt_of_lt_of_le (hR.n1 q hq) hb.size
      · exact hq.2.1) hR.u (fun r q hq => by
      obtain ⟨g1, g2, g3⟩ := hR.f1 r q hq
      exact ⟨Nat.lt_of_lt_of_le g1 hb.size, fun hn => by
        rcases hn with hn | hn
        · exact g2 hn
        · omega, g3⟩) hR.f2 hR.sz rfl (fun t => hR.ts_next (D := NoB) (Chd.of_below hb) (fun _ h => h.elim) (fun _ h => .inl h) (fun _ _ h => h) (hR.ts t)) (fun r R hr => hR.rs_next (D := NoB) (Chd.of_below hb) (fun _ h => h.elim) (fun _ h => .inl h) (fun _ _ h => h) hr (fun _ h => h.elim)) (fun r _ h => .inl ⟨r, h⟩) (fun _ h => h) (fun _ _ h => h) (fun q hq => hq.imp id fun h => .inl h.1)
  obtain ⟨bs', FP', g1, g2, g3, g4⟩ := (RelI.bare (t := S.t) (r := S.r) (nx := S.nx) hR1).addR (bare_of _ _ _ _) (key := nx * 64) (fun j hj => hk _ (List.mem_map.2 ⟨j, by simpa using hj, rfl⟩)) h8 (fun q hq => by
    obtain ⟨e1, e2, e3⟩ := hPr q hq
    exact ⟨e2, fun hn => by
      rcases hn with hn | hn
      · have := hR.n1 q hn; omega
      · exact hn.2.2 hq, Or.inl (Nat.le_trans hR.size e1), fun r hr => by have := (hR.f1 r q hr).1; omega⟩) hres'
  refine ⟨⟨[(dst, rC (nx * 64) c)], rRC (nx * 64) c⟩, ⟨c, hp, rfl⟩, (fun q => N q ∨ (w.heap.size ≤ q ∧ q < w'.heap.size ∧ ¬ Pr q)), bs', FP', ?_⟩
  have hfd := hR.fd (D := NoB) (FP' := FP') (N' := fun q => N q ∨ (w.heap.size ≤ q ∧ q < w'.heap.size ∧ ¬ Pr q)) (Chd.of_below hb) (fun _ h => h.elim) (fun _ h => .inl h) (fun q hq => hq.imp id fun h => .inl h.1) (fun r q hq => (g4 r q hq).imp (fun h => ⟨r, h⟩) fun h => (hPr q h).1)
  have g1 := RelI.unbare (r' := S.r) (nx' := S.nx) g1 hfd.1 hfd.2 ((hR1.ts FS).refs g2)
  have := g1.quiet (d := some dst) (c := rC (nx * 64) c) (v := u) (fun k hk => hdd i _ k hi (ho.trans hk)) g3
  refine RelI.weakU (this.nx rfl rfl) fun q hq => ?_
  rcases hq with hq | hq
  · exact .inl hq
  · exact .inr (List.mem_map.2 ⟨q - nx * 64, by simp; omega, by omega⟩)
theorem l_call {f : FuncId} {xs : List Operand} {cs : List CT} {nt : List (Nat × CT)} {nr : List (Nat × Root)} {B : Bool} {at_ : Array TypeId} {post : CT → Prop} (hf : FnI P f) (ha : AL ⟨t, r, nx⟩ B xs cs nt nr) (hc : AC P X.G f cs post) (hok : ∀ c, post c → rOk c = true ∧ (B = true → FrT c)) :
    SgC F n P X ops ⟨some dst, .call { callee := .value (.func f), args := xs.toArray, argTypes := at_ }, ty, pos, af, none⟩ t r nx ⟨nt, nr⟩ ((List.range 64).map (nx * 64 + ·)) dst post := by
  refine sg_call (B := B) rfl rfl (by simp) ha.ok hc hok fun U S a w N bs FP hd hR => ?_
  obtain ⟨hlen, hrd⟩ := AL.rd hR ha hd
  refine ⟨(xs.map a.eval).toArray, ?_, by simp [hlen], fun j c hj => by have := hrd j c hj; simpa using this⟩
  have e : execOp a.eval ⟨some dst, .call { callee := .value (.func f), args := xs.toArray, argTypes := at_ }, ty, pos, af, none⟩ = callFunc f (#[] ++ xs.toArray.map a.eval ++ #[]) := rfl
  rw [e, hf.run]
  simp
/-- What a function value leads to: a function, and what it has captured. -/
inductive FnV : CT → FuncId → List CT → Prop
  | c0 (f : FuncId) : FnV (.v (.func (.func f) #[] #[])) f []
  | ro (f : FuncId) (b : List CT) : FnV (.ro (.fn (.func f) [] b)) f b
  | fn (f : FuncId) {b b' : List CT} (h : b.map roC = b') : FnV (.fn (.func f) [] b') f b
theorem roC_rd {w : World} {N : Nat → Prop} {bs : Bs} {P : Nat → Prop} {c : CT} {u : Value} (h : HV w N bs P (roC c) u) : RD w N c u := by
  cases c with
  | v x => rw [HV.val h]; exact .v _
  | un => exact .un _
  | ro c => exact .ro h.out_ro
  | _ => exact h.out_ro
/-- A function value is called. -/
theorem l_callV {f : FuncId} {x : Operand} {cv : CT} {caps : List CT} {xs : List Operand} {cs : List CT} {nt : List (Nat × CT)} {nr : List (Nat × Root)} {B : Bool} {at_ : Array TypeId} {post : CT → Prop} (hf : FnI P f) (hx0 : Is (St.ev ⟨t, r, nx⟩ x) cv) (hv : FnV cv f caps) (ha : AL ⟨t, r, nx⟩ B xs cs nt nr) (hc : AC P X.G f (cs ++ caps) post) (hok : ∀ c, post c → rOk c = true ∧ (B = true → FrT c)) :
    SgC F n P X ops ⟨some dst, .call { callee := .value x, args := xs.toArray, argTypes := at_ }, ty, pos, af, none⟩ t r nx ⟨needO x cv ++ nt, nr⟩ ((List.range 64).map (nx * 64 + ·)) dst post := by
  have hx := hx0.eq
  refine sg_call (B := B) rfl rfl (by simp) ⟨fun p hp => (List.mem_append.1 hp).elim (need_ok hx p) (ha.ok.t p), ha.ok.r⟩ hc hok fun U S a w N bs FP hd hR => ?_
  obtain ⟨hlen, hrd⟩ := AL.rd hR ha ⟨fun p hp => hd.t p (List.mem_append_right _ hp), hd.r⟩
  have hu := hR.ev x
  rw [ev_again hx fun p hp => hd.t p (List.mem_append_left _ hp)] at hu
  have key : ∃ vs : Array Value, a.eval x = .func (.func f) #[] vs ∧ vs.size = caps.length ∧ ∀ (j : Nat) c, caps[j]? = some c → RD w (lent B N FP) c (vs.getD j undef) := by
    cases hv with
    | c0 => exact ⟨#[], hu.val, rfl, fun j c hj => by simp at hj⟩
    | ro =>
      have hu' := hu.out_ro
      generalize a.eval x = u at hu' ⊢
      cases hu' with
      | fn us vs hl hl' hr hr' =>
        have : us = #[] := Array.eq_empty_of_size_eq_zero hl
        subst this
        exact ⟨vs, rfl, hl', fun j c hj => (hr' j c hj).mono (fun _ _ => rfl) fun _ h => .inl h⟩
    | fn _ h =>
      subst h
      generalize a.eval x = u at hu ⊢
      cases hu with
      | fn us vs hl hl' hr hr' =>
        have : us = #[] := Array.eq_empty_of_size_eq_zero hl
        subst this
        refine ⟨vs, rfl, by simpa using hl', fun j c hj => ?_⟩
        exact (roC_rd (hr' j (roC c) (by rw [List.getElem?_map, hj]; rfl))).mono (fun _ _ => rfl) fun _ h => .inl h
  obtain ⟨vs, hev, hl, hrv⟩ := key
  refine ⟨(xs.map a.eval).toArray ++ vs, ?_, by simp [hlen, hl], fun j c hj => ?_⟩
  · have e : execOp a.eval ⟨some dst, .call { callee := .value x, args := xs.toArray, argTypes := at_ }, ty, pos, af, none⟩ = (do let d ← resolve a.eval { callee := .value x, args := xs.toArray, argTypes := at_ } ty; invoke d.target d.args) := rfl
    have e2 : (resolve a.eval { callee := .value x, args := xs.toArray, argTypes := at_ } ty).run P w = .ok { target := .fn (.func f) vs, args := (xs.map a.eval).toArray } w := by
      simp only [resolve, hev]
      simp [go_sem]
    rw [e, Sem.run_bind, e2]
    simp [Result.andThen, invoke, hf.run]
  · have hsz : (xs.map a.eval).toArray.size = cs.length := by simp [hlen]
    rcases Nat.lt_or_ge j cs.length with h | h
    · rw [List.getElem?_append_left h] at hj
      have := hrd j c hj
      rw [Array.getD_eq_getD_getElem?, Array.getElem?_append_left (by omega)]
      simpa using this
    · rw [List.getElem?_append_right h] at hj
      have := hrv (j - cs.length) c hj
      rw [Array.getD_eq_getD_getElem?, Array.getElem?_append_right (by omega), hsz]
      rwa [Array.getD_eq_getD_getElem?] at this
end
end Go.Proofs.YtpeafglbhjjbhaaDoor

