/- Deep words, fourth part: single operations that leave the memory alone. -/
import Derived.Test.YtpeafglbhjjbhaaDoorDC
namespace Go.Proofs.YtpeafglbhjjbhaaDoor
open Go Go.RowKit

/-- What a term comes to. -/
inductive Is : CT → CT → Prop
  | v (x : Value) : Is (.v x) (.v x)
  | rf (r lo n sz : Nat) : Is (.rf r lo n sz) (.rf r lo n sz)
  | ad (r sz i o : Nat) : Is (.ad r sz i o) (.ad r sz i o)
  | ro (c : CT) : Is (.ro c) (.ro c)
  | ag (l : List CT) : Is (.ag l) (.ag l)
  | tu (l : List CT) : Is (.tu l) (.tu l)
  | gd (b : Bool) (c : CT) : Is (.gd b c) (.gd b c)
  | fn (f : Fn) (a b : List CT) : Is (.fn f a b) (.fn f a b)
  | un : Is .un .un
  | fo (f : Fo) : Is (.fo f) (.fo f)
theorem Is.eq {a b : CT} (h : Is a b) : a = b := by cases h <;> rfl
def needO : Operand → CT → List (Nat × CT)
  | .tmp t, c => [(t, c)]
  | _, _ => []
theorem need_ok {S : St} {x : Operand} {c : CT} (h : S.ev x = c) : ∀ p ∈ needO x c, S.tm p.1 = p.2 := by
  intro p hp
  cases x <;> simp [needO] at hp
  subst hp
  exact h
theorem ev_again {S S2 : St} {x : Operand} {c : CT} (h : S.ev x = c) (h2 : ∀ p ∈ needO x c, S2.tm p.1 = p.2) : S2.ev x = c := by
  cases x with
  | tmp t => exact h2 (t, c) (by simp [needO])
  | _ => exact h
/-- A step: an operation, from a state of slots and roots on. -/
def Sg (F : Fence) (n : Nat) (P : Program) (X : Cx) (ops : Array Oper) (o : Oper) (t : List (Nat × CT)) (r : List (Nat × Option Root)) (nx : Nat) (d : Nd) (ks : List Nat) (E : Eff) : Prop :=
  OpL F n P X ops o d ks (fun E' => E' = E) ∧ d.ok ⟨t, r, nx⟩ ∧ ∀ k ∈ ks, nx * 64 ≤ k ∧ k < nx * 64 + 64
section
variable {F : Fence} {n : Nat} {P : Program} {X : Cx} {ops : Array Oper} {o : Oper} {os : List Oper} {t : List (Nat × CT)} {r : List (Nat × Option Root)} {nx : Nat} {d : Nd} {ks : List Nat} {K : St → Prop}
theorem dvt {E : Eff} (h : Sg F n P X ops o t r nx d ks E) (hK : DvT F n P X ops os (E.t ++ t) (E.r ++ r) (nx + 1) K) : DvT F n P X ops (o :: os) t r nx K :=
  ⟨t, r, nx, fun _ _ h => h, d, ks, _, h.1, h.2.1, h.2.2, fun E' hE => by subst hE; exact hK⟩
/-- The same in other words, or less. -/
theorem dvG {t' : List (Nat × CT)} {r' : List (Nat × Option Root)} {nx' : Nat} (hle : St.le X ⟨t, r, nx⟩ ⟨t', r', nx'⟩) (h : DvT F n P X ops (o :: os) t' r' nx' K) : DvT F n P X ops (o :: os) t r nx K := by
  obtain ⟨t2, r2, nx2, hle2, h⟩ := h
  exact ⟨t2, r2, nx2, fun a w hR => hle2 a w (hle a w hR), h⟩
theorem dv1 {x : Nat} {c : CT} (h : Sg F n P X ops o t r nx d ks ⟨[(x, c)], []⟩) (hK : DvT F n P X ops os ((x, c) :: t) r (nx + 1) K) : DvT F n P X ops (o :: os) t r nx K := dvt h hK
theorem dvN {x k : Nat} {c : CT} {R : Option Root} (h : Sg F n P X ops o t r nx d ks ⟨[(x, c)], [(k, R)]⟩) (hK : DvT F n P X ops os ((x, c) :: t) ((k, R) :: r) (nx + 1) K) : DvT F n P X ops (o :: os) t r nx K := dvt h hK
theorem dvN2 {x k k' : Nat} {c : CT} {R R' : Option Root} (h : Sg F n P X ops o t r nx d ks ⟨[(x, c)], [(k, R), (k', R')]⟩) (hK : DvT F n P X ops os ((x, c) :: t) ((k, R) :: (k', R') :: r) (nx + 1) K) : DvT F n P X ops (o :: os) t r nx K := dvt h hK
theorem dvS {k : Nat} {R : Option Root} (h : Sg F n P X ops o t r nx d ks ⟨[], [(k, R)]⟩) (hK : DvT F n P X ops os t ((k, R) :: r) (nx + 1) K) : DvT F n P X ops (o :: os) t r nx K := dvt h hK
end
/-! ### types -/
def aggB : TypeDesc → Bool
  | .struct _ | .array _ _ => true
  | _ => false
structure TyI (P : Program) (T : Nat) (agg : Bool) (s : Nat) : Prop where
  ag : ∀ w, (isAgg T).run P w = .ok agg w
  sz : ∀ w, (sizeOf T).run P w = .ok s w
theorem TyI.mk' {P : Program} {T : Nat} {agg : Bool} {s : Nat} (hu : (P.underlying T).map aggB = some agg) (hs : (P.info? T).map (·.size) = some s) : TyI P T agg s := by
  cases hd : P.underlying T with
  | none => simp [hd] at hu
  | some d =>
    cases hi : P.info? T with
    | none => simp [hi] at hs
    | some i =>
      simp [hd] at hu
      simp [hi] at hs
      refine ⟨fun w => ?_, fun w => by simp [sizeOf, typeInfo, hi, hs]⟩
      unfold isAgg
      rw [Sem.run_bind, run_underlying hd w]
      subst hu
      cases d <;> simp [aggB]
/-- A struct's field: where it lies. -/
structure FdI (P : Program) (T f off : Nat) : Prop where
  run : ∀ w g o, (Instr.fieldAt T (.pointer (some ⟨g, o, none⟩)) f).run P w = .ok (.pointer (some ⟨g, o + off, none⟩)) w
theorem FdI.mk' {P : Program} {T f off : Nat} (h : ((P.underlying T).bind fun d => match d with | .struct fs => (fs[f]?).bind fun x => (P.info? x.type).map fun i => (x.offset, i.size != 0) | _ => none) = some (off, true)) : FdI P T f off := by
  cases hd : P.underlying T with
  | none => simp [hd] at h
  | some d =>
    rw [hd] at h
    cases d with
    | struct fs =>
      simp only [Option.bind_some] at h
      cases hf : fs[f]? with
      | none => simp [hf] at h
      | some x =>
        cases hi : P.info? x.type with
        | none => simp [hf, hi] at h
        | some i =>
          simp [hf, hi] at h
          refine ⟨fun w g o => ?_⟩
          simp [Instr.fieldAt, run_underlying hd, hf, Instr.sureAddr, fieldPlace, sizeOf, typeInfo, hi, h.2, h.1, add_plain']
    | _ => simp at h
/-- A struct's field, of a value. -/
structure FvI (P : Program) (T f off : Nat) (agg : Bool) (s : Nat) : Prop where
  st : ∃ fs x, P.underlying T = some (.struct fs) ∧ fs[f]? = some x ∧ x.offset = off ∧ TyI P x.type agg s
theorem FvI.mk' {P : Program} {T f off s : Nat} {agg : Bool} (h : ((P.underlying T).bind fun d => match d with | .struct fs => (fs[f]?).bind fun x => (P.underlying x.type).bind fun d => (P.info? x.type).map fun i => (x.offset, aggB d, i.size) | _ => none) = some (off, agg, s)) : FvI P T f off agg s := by
  cases hd : P.underlying T with
  | none => simp [hd] at h
  | some d =>
    rw [hd] at h
    cases d with
    | struct fs =>
      simp only [Option.bind_some] at h
      cases hf : fs[f]? with
      | none => simp [hf] at h
      | some x =>
        cases hu : P.underlying x.type with
        | none => simp [hf, hu] at h
        | some d =>
          cases hi : P.info? x.type with
          | none => simp [hf, hu, hi] at h
          | some i =>
            simp [hf, hu, hi] at h
            exact ⟨⟨fs, x, hd, hf, h.1, TyI.mk' (by simp [hu, h.2.1]) (by simp [hi, h.2.2])⟩⟩
    | _ => simp at h
/-- A slice type's elements. -/
structure SlI (P : Program) (T e s : Nat) : Prop where
  u : P.underlying T = some (.slice e)
  sz : ∀ w, (sizeOf e).run P w = .ok s w
theorem SlI.mk' {P : Program} {T e s : Nat} (hu : P.underlying T = some (.slice e)) (hs : (P.info? e).map (·.size) = some s) : SlI P T e s := by
  cases hi : P.info? e with
  | none => simp [hi] at hs
  | some i => simp [hi] at hs; exact ⟨hu, fun w => by simp [sizeOf, typeInfo, hi, hs]⟩
/-! ### cells -/
/-- May be copied. -/
def CT.cp : CT → Bool
  | .sl .. => false
  | _ => true
theorem HV.cp {w : World} {N : Nat → Prop} {bs : Bs} {P P' : Nat → Prop} {c : CT} {u : Value} (h : HV w N bs P c u) (hc : c.cp = true) : HV w N bs P' c u := by
  cases h with
  | v x => exact .v _
  | un u => exact .un _
  | fo f u => exact .fo _ _
  | ro h => exact .ro h
  | rf A g off cap hb hn hm hA => exact .rf A g off cap hb hn hm hA
  | rfNil hb => exact .rfNil hb
  | ad g off cap hb => exact .ad g off cap hb
  | ag us hl hr => exact .ag us hl hr
  | tu us hl hr => exact .tu us hl hr
  | fn us vs hl hl' hr hr' => exact .fn us vs hl hl' hr hr'
  | gd h => exact .gd h
  | nil => simp [CT.cp] at hc
  | own => simp [CT.cp] at hc
def roC : CT → CT
  | .v x => .v x
  | .un => .un
  | .ro c => .ro c
  | c => .ro c
theorem RD.roC {w : World} {N : Nat → Prop} {bs : Bs} {P : Nat → Prop} {c : CT} {u : Value} (h : RD w N c u) : HV w N bs P (roC c) u := by
  cases h with
  | v x => exact .v _
  | un u => exact .un _
  | ro h => exact .ro h
  | nz h => exact .ro (.nz h)
  | sl A b off n cap us hn hA hc hm hz hw h1 hr => exact .ro (.sl A b off n cap us hn hA hc hm hz hw h1 hr)
  | rp b off us hN hw hr => exact .ro (.rp b off us hN hw hr)
  | ag us hl hr => exact .ro (.ag us hl hr)
  | fn us vs hl hl' hr hr' => exact .ro (.fn us vs hl hl' hr hr')
section
variable {X : Cx} {U : Nat → Prop} {S : St} {a : Act} {w : World} {N : Nat → Prop} {bs : Bs} {FP : Nat → Nat → Prop}
theorem RelI.ev_v (h : RelI X U S a w N bs FP) {x : Operand} {y : Value} (hx : S.ev x = .v y) : a.eval x = y := by have := h.ev x; rw [hx] at this; exact this.val
theorem RelI.ev_ad (h : RelI X U S a w N bs FP) {x : Operand} {k sz i o : Nat} (hx : S.ev x = .ad k sz i o) : ∃ g off cap, bs k = some (some (g, off, cap)) ∧ a.eval x = .pointer (some ⟨g, off + (i * sz + o), none⟩) := by
  have := h.ev x
  rw [hx] at this
  generalize a.eval x = u at this ⊢
  cases this with
  | ad g off cap hb => exact ⟨g, off, cap, hb, rfl⟩
theorem RelI.root (h : RelI X U S a w N bs FP) {k g off cap : Nat} (hb : bs k = some (some (g, off, cap))) {e sz : Nat} {els : List (List CT)} (hr : S.rt k = some ⟨e, sz, els⟩) :
    ∃ (cur : Array Value) (us : Nat → Nat → Value) (Q : Nat → Nat → Nat → Prop), FP k g ∧ w.heap[g]? = some (.cells cur e (0, 0)) ∧ cur.size = off + cap * sz ∧ els.length ≤ cap ∧ cap ≤ 9223372036854775807 ∧ (∀ es ∈ els, es.length = sz) ∧ (∀ i o k', Q i o k' → FP k k' ∧ k' ≠ g) ∧ (∀ i o i' o' k, Q i o k → Q i' o' k → i = i' ∧ o = o') ∧
      (∀ i o es c, els[i]? = some es → es[o]? = some c → cur[off + (i * sz + o)]? = some (us i o)) ∧ (∀ i o es c, els[i]? = some es → es[o]? = some c → (us i o).oneCell' = true) ∧ (∀ i o es c, els[i]? = some es → es[o]? = some c → HV w N bs (Q i o) c (us i o)) := by
  obtain ⟨x, hx, hv⟩ := h.rs k _ hr
  rw [hb] at hx
  cases hx
  simp only [hdr] at hv
  cases hv with
  | own g off n cap cur us Q hn hg hh hs hc hm hz hQ hd hw h1 hr => exact ⟨cur, us, Q, hg, hh, hs, hc, hm, hz, hQ, hd, hw, h1, hr⟩
theorem RelI.cell (h : RelI X U S a w N bs FP) {k g off cap : Nat} (hb : bs k = some (some (g, off, cap))) {e sz : Nat} {els : List (List CT)} (hr : S.rt k = some ⟨e, sz, els⟩) {i o : Nat} {es : List CT} {c : CT} (hi : els[i]? = some es) (ho : es[o]? = some c) (hc : c.cp = true) :
    ∃ u, w.cell? ⟨g, off + (i * sz + o), none⟩ = some u ∧ HV w N bs NoB c u := by
  obtain ⟨cur, us, Q, hg, hh, hs, hc', hm, hz, hQ, hd, hw, h1, hv⟩ := h.root hb hr
  exact ⟨us i o, by simp only [World.cell?, hh]; simpa using hw i o es c hi ho, (hv i o es c hi ho).cp hc⟩
end
/-! ### operations -/
section
variable {F : Fence} {n : Nat} {P : Program} {X : Cx} {ops : Array Oper} {t : List (Nat × CT)} {r : List (Nat × Option Root)} {nx : Nat} [hF : Wd F] {dst ty : Nat} {pos : String} {af : Array Edge}
/-- The frame of most operations: what they need, and what they come to. -/
theorem sg_q {op : Op} {d : Nd} {c : CT} (hop : ∀ c, op ≠ .defer c) (hok : d.ok ⟨t, r, nx⟩)
    (h : ∀ U S a w N bs FP, d.ok S → RelI X U S a w N bs FP → ∃ v, (execOp a.eval ⟨some dst, op, ty, pos, af, none⟩).run P w = .ok (.value v) w ∧ HV w N bs NoB c v) : Sg F n P X ops ⟨some dst, op, ty, pos, af, none⟩ t r nx d [] ⟨[(dst, c)], []⟩ :=
  ⟨OpL.quiet rfl hop h, hok, fun _ h => by cases h⟩
theorem l_move {x : Operand} {c : CT} (h : Is (St.ev ⟨t, r, nx⟩ x) c) : Sg F n P X ops ⟨some dst, .move x, ty, pos, af, none⟩ t r nx ⟨needO x c, []⟩ [] ⟨[(dst, c)], []⟩ :=
  sg_q (by simp) ⟨need_ok h.eq, fun _ hp => by cases hp⟩ fun U S a w N bs FP hd hR => ⟨a.eval x, rfl, by have := hR.ev x; rwa [ev_again h.eq hd.t] at this⟩
theorem l_assign {x : Operand} {c : CT} (h : Is (St.ev ⟨t, r, nx⟩ x) c) : Sg F n P X ops ⟨some dst, .assign x, ty, pos, af, none⟩ t r nx ⟨needO x c, []⟩ [] ⟨[(dst, c)], []⟩ :=
  sg_q (by simp) ⟨need_ok h.eq, fun _ hp => by cases hp⟩ fun U S a w N bs FP hd hR => ⟨a.eval x, rfl, by have := hR.ev x; rwa [ev_again h.eq hd.t] at this⟩
theorem l_load {T : Nat} {x : Operand} {k sz i o e : Nat} {els : List (List CT)} {es : List CT} {c : CT} (hT : TyI P T false 1) (h : St.ev ⟨t, r, nx⟩ x = .ad k sz i o) (hr : St.rt ⟨t, r, nx⟩ k = some ⟨e, sz, els⟩) (hi : els[i]? = some es) (ho : es[o]? = some c) (hc : c.cp = true) :
    Sg F n P X ops ⟨some dst, .load T x, ty, pos, af, none⟩ t r nx ⟨needO x (.ad k sz i o), [(k, ⟨e, sz, els⟩)]⟩ [] ⟨[(dst, c)], []⟩ :=
  sg_q (by simp) ⟨need_ok h, fun p hp => by simp at hp; subst hp; exact hr⟩ fun U S a w N bs FP hd hR => by
    obtain ⟨g, off, cap, hb, he⟩ := hR.ev_ad (ev_again h hd.t)
    obtain ⟨u, hu, hv⟩ := hR.cell hb (hd.r (k, ⟨e, sz, els⟩) (by simp)) hi ho hc
    refine ⟨u, ?_, hv⟩
    simp [execOp, Instr.loadAt, Instr.sureAddr, he, loadVar, hT.ag, hu]
theorem l_loadRo {T : Nat} {x : Operand} {o : Nat} {els : List CT} {c : CT} (hT : TyI P T false 1) (h : St.ev ⟨t, r, nx⟩ x = .ro (.rp els o)) (ho : els[o]? = some c) :
    Sg F n P X ops ⟨some dst, .load T x, ty, pos, af, none⟩ t r nx ⟨needO x (.ro (.rp els o)), []⟩ [] ⟨[(dst, roC c)], []⟩ :=
  sg_q (by simp) ⟨need_ok h, fun p hp => by cases hp⟩ fun U S a w N bs FP hd hR => by
    have h1 := hR.ev x
    rw [ev_again h hd.t] at h1
    have h2 := h1.out_ro
    generalize he : a.eval x = v at h2
    cases h2 with
    | rp b off us hN hw hr =>
      refine ⟨us o, ?_, (hr o c ho).roC⟩
      simp [execOp, Instr.loadAt, Instr.sureAddr, he, loadVar, hT.ag, hw o c ho]
theorem l_loadA {T : Nat} {x : Operand} {k sz i o e s : Nat} {els : List (List CT)} {es : List CT} (hT : TyI P T true s) (h : St.ev ⟨t, r, nx⟩ x = .ad k sz i o) (hr : St.rt ⟨t, r, nx⟩ k = some ⟨e, sz, els⟩) (hi : els[i]? = some es) (hl : ((es.drop o).take s).length = s) (hc : ((es.drop o).take s).all CT.cp = true) :
    Sg F n P X ops ⟨some dst, .load T x, ty, pos, af, none⟩ t r nx ⟨needO x (.ad k sz i o), [(k, ⟨e, sz, els⟩)]⟩ [] ⟨[(dst, .ag ((es.drop o).take s))], []⟩ :=
  sg_q (by simp) ⟨need_ok h, fun p hp => by simp at hp; subst hp; exact hr⟩ fun U S a w N bs FP hd hR => by
    obtain ⟨g, off, cap, hb, he⟩ := hR.ev_ad (ev_again h hd.t)
    have hcell : ∀ j, j < s → ∃ u, w.cell? ⟨g, off + (i * sz + o) + j, none⟩ = some u ∧ HV w N bs NoB (((es.drop o).take s)[j]?.getD .un) u := fun j hj => by
      have hjl : j < ((es.drop o).take s).length := by rw [hl]; exact hj
      have e1 : es[o + j]? = some ((es.drop o).take s)[j] := by
        rw [List.getElem_take, List.getElem_drop, List.getElem?_eq_getElem]
      obtain ⟨u, hu, hv⟩ := hR.cell hb (hd.r (k, ⟨e, sz, els⟩) (by simp)) hi e1 (List.all_eq_true.1 hc _ (List.getElem_mem _))
      rw [Nat.add_assoc, Nat.add_assoc]
      exact ⟨u, hu, by rw [List.getElem?_eq_getElem hjl]; exact hv⟩
    let us : List Value := (List.range s).map fun j => (w.cell? ⟨g, off + (i * sz + o) + j, none⟩).getD undef
    have hus : us.length = s := by simp [us]
    have hrun := run_loadCells_list (P := P) w ⟨g, off + (i * sz + o), none⟩ us (fun j v hv => by
      have hj : j < s := by rw [← hus]; exact (List.getElem?_eq_some_iff.1 hv).1
      obtain ⟨u, hu, _⟩ := hcell j hj
      have : us[j]? = some u := by simp [us, hj, hu]
      rw [this] at hv
      cases hv
      rw [add_plain']
      exact hu)
    rw [hus] at hrun
    refine ⟨.agg us.toArray, ?_, .ag _ (by simp [hus, hl]) fun j c hj => ?_⟩
    · simp [execOp, Instr.loadAt, Instr.sureAddr, he, loadVar, hT.ag, hT.sz, hrun]
    · have hj' : j < s := by rw [← hl]; exact (List.getElem?_eq_some_iff.1 hj).1
      obtain ⟨u, hu, hv⟩ := hcell j hj'
      rw [hj] at hv
      have : us.toArray.getD j undef = u := by simp [us, hj', hu]
      rw [this]
      exact hv
theorem l_loadARo {T : Nat} {x : Operand} {o s : Nat} {els : List CT} (hT : TyI P T true s) (h : St.ev ⟨t, r, nx⟩ x = .ro (.rp els o)) (hl : ((els.drop o).take s).length = s) :
    Sg F n P X ops ⟨some dst, .load T x, ty, pos, af, none⟩ t r nx ⟨needO x (.ro (.rp els o)), []⟩ [] ⟨[(dst, .ag (((els.drop o).take s).map roC))], []⟩ :=
  sg_q (by simp) ⟨need_ok h, fun p hp => by cases hp⟩ fun U S a w N bs FP hd hR => by
    have h1 := hR.ev x
    rw [ev_again h hd.t] at h1
    have h2 := h1.out_ro
    generalize he : a.eval x = v at h2
    cases h2 with
    | rp b off us hN hw hr =>
      have hel : ∀ j, j < s → ∃ c, ((els.drop o).take s)[j]? = some c ∧ els[o + j]? = some c := fun j hj => by
        have hjl : j < ((els.drop o).take s).length := by rw [hl]; exact hj
        refine ⟨_, List.getElem?_eq_getElem hjl, ?_⟩
        rw [List.getElem_take, List.getElem_drop, List.getElem?_eq_getElem]
      let vs : List Value := (List.range s).map fun j => us (o + j)
      have hus : vs.length = s := by simp [vs]
      have hrun := run_loadCells_list (P := P) w ⟨b, off + o, none⟩ vs (fun j v hv => by
        have hj : j < s := by rw [← hus]; exact (List.getElem?_eq_some_iff.1 hv).1
        obtain ⟨c, _, hc⟩ := hel j hj
        have : vs[j]? = some (us (o + j)) := by simp [vs, hj]
        rw [this] at hv
        cases hv
        rw [add_plain', Nat.add_assoc]
        exact hw _ c hc)
      rw [hus] at hrun
      refine ⟨.agg vs.toArray, ?_, .ag _ (by rw [List.length_map, hl]; simpa using hus) fun j c hj => ?_⟩
      · simp [execOp, Instr.loadAt, Instr.sureAddr, he, loadVar, hT.ag, hT.sz, hrun]
      · have hj' : j < s := by have := (List.getElem?_eq_some_iff.1 hj).1; rw [List.length_map, hl] at this; exact this
        obtain ⟨c0, h0, hc⟩ := hel j hj'
        rw [List.getElem?_map, h0] at hj
        cases hj
        have : vs.toArray.getD j undef = us (o + j) := by simp [vs, hj']
        rw [this]
        exact (hr _ _ hc).roC
theorem l_field {T : Nat} {x : Operand} {f k sz i o off : Nat} (hT : FdI P T f off) (h : St.ev ⟨t, r, nx⟩ x = .ad k sz i o) : Sg F n P X ops ⟨some dst, .fieldAddr T x f, ty, pos, af, none⟩ t r nx ⟨needO x (.ad k sz i o), []⟩ [] ⟨[(dst, .ad k sz i (o + off))], []⟩ :=
  sg_q (by simp) ⟨need_ok h, fun p hp => by cases hp⟩ fun U S a w N bs FP hd hR => by
    obtain ⟨g, of, cap, hb, he⟩ := hR.ev_ad (ev_again h hd.t)
    refine ⟨.pointer (some ⟨g, of + (i * sz + o) + off, none⟩), by simp [execOp, he, hT.run], ?_⟩
    have := HV.ad (w := w) (N := N) (bs := bs) (P := NoB) (sz := sz) (i := i) (o := o + off) g of cap hb
    rwa [show of + (i * sz + (o + off)) = of + (i * sz + o) + off by omega] at this
theorem l_fieldRo {T : Nat} {x : Operand} {f o off : Nat} {els : List CT} (hT : FdI P T f off) (h : St.ev ⟨t, r, nx⟩ x = .ro (.rp els o)) : Sg F n P X ops ⟨some dst, .fieldAddr T x f, ty, pos, af, none⟩ t r nx ⟨needO x (.ro (.rp els o)), []⟩ [] ⟨[(dst, .ro (.rp els (o + off)))], []⟩ :=
  sg_q (by simp) ⟨need_ok h, fun p hp => by cases hp⟩ fun U S a w N bs FP hd hR => by
    have h1 := hR.ev x
    rw [ev_again h hd.t] at h1
    have h2 := h1.out_ro
    generalize he : a.eval x = v at h2
    cases h2 with
    | rp b of us hN hw hr =>
      refine ⟨.pointer (some ⟨b, of + o + off, none⟩), by simp [execOp, he, hT.run], .ro ?_⟩
      have := RD.rp (w := w) (N := N) (o := o + off) b of us hN hw hr
      rwa [← Nat.add_assoc] at this
theorem l_nil {x : Operand} {k sz i o : Nat} (h : St.ev ⟨t, r, nx⟩ x = .ad k sz i o) : Sg F n P X ops ⟨some dst, .nilCheck x, ty, pos, af, none⟩ t r nx ⟨needO x (.ad k sz i o), []⟩ [] ⟨[(dst, .ad k sz i o)], []⟩ :=
  sg_q (by simp) ⟨need_ok h, fun p hp => by cases hp⟩ fun U S a w N bs FP hd hR => by
    obtain ⟨g, of, cap, hb, he⟩ := hR.ev_ad (ev_again h hd.t)
    exact ⟨.pointer (some ⟨g, of + (i * sz + o), none⟩), by simp [execOp, he], .ad g of cap hb⟩
theorem l_nilRo {x : Operand} {o : Nat} {els : List CT} (h : St.ev ⟨t, r, nx⟩ x = .ro (.rp els o)) : Sg F n P X ops ⟨some dst, .nilCheck x, ty, pos, af, none⟩ t r nx ⟨needO x (.ro (.rp els o)), []⟩ [] ⟨[(dst, .ro (.rp els o))], []⟩ :=
  sg_q (by simp) ⟨need_ok h, fun p hp => by cases hp⟩ fun U S a w N bs FP hd hR => by
    have h1 := hR.ev x
    rw [ev_again h hd.t] at h1
    have h2 := h1.out_ro
    generalize he : a.eval x = v at h2
    cases h2 with
    | rp b of us hN hw hr => exact ⟨.pointer (some ⟨b, of + o, none⟩), by simp [execOp, he], .ro (.rp b of us hN hw hr)⟩
/-- An operation on values that are known. -/
theorem sg_v2 {op : Op} {x y : Operand} {u v z : Value} (hop : ∀ c, op ≠ .defer c) (hx : St.ev ⟨t, r, nx⟩ x = .v u) (hy : St.ev ⟨t, r, nx⟩ y = .v v) (h : ∀ (ρ : Operand → Value) w, ρ x = u → ρ y = v → (execOp ρ ⟨some dst, op, ty, pos, af, none⟩).run P w = .ok (.value z) w) :
    Sg F n P X ops ⟨some dst, op, ty, pos, af, none⟩ t r nx ⟨needO x (.v u) ++ needO y (.v v), []⟩ [] ⟨[(dst, .v z)], []⟩ :=
  sg_q hop ⟨fun p hp => (List.mem_append.1 hp).elim (need_ok hx p) (need_ok hy p), fun p hp => by cases hp⟩ fun U S a w N bs FP hd hR =>
    ⟨z, h a.eval w (hR.ev_v (ev_again hx fun p hp => hd.t p (List.mem_append_left _ hp))) (hR.ev_v (ev_again hy fun p hp => hd.t p (List.mem_append_right _ hp))), .v _⟩
theorem sg_v1 {op : Op} {x : Operand} {u z : Value} (hop : ∀ c, op ≠ .defer c) (hx : St.ev ⟨t, r, nx⟩ x = .v u) (h : ∀ (ρ : Operand → Value) w, ρ x = u → (execOp ρ ⟨some dst, op, ty, pos, af, none⟩).run P w = .ok (.value z) w) :
    Sg F n P X ops ⟨some dst, op, ty, pos, af, none⟩ t r nx ⟨needO x (.v u), []⟩ [] ⟨[(dst, .v z)], []⟩ :=
  sg_q hop ⟨need_ok hx, fun p hp => by cases hp⟩ fun U S a w N bs FP hd hR => ⟨z, h a.eval w (hR.ev_v (ev_again hx hd.t)), .v _⟩
/-- Whole numbers: an operator that is told by a law. -/
theorem l_bin {b : BinOp} {T T2 : Nat} {x y : Operand} {k : IntKind} {m q : Int} {z : Value} (hx : St.ev ⟨t, r, nx⟩ x = .v (.int k m)) (hy : St.ev ⟨t, r, nx⟩ y = .v (.int k q)) (h : ∀ w, (binOp b T (.int k m) (.int k q)).run P w = .ok z w) :
    Sg F n P X ops ⟨some dst, .binOp b T x y T2, ty, pos, af, none⟩ t r nx ⟨needO x (.v (.int k m)) ++ needO y (.v (.int k q)), []⟩ [] ⟨[(dst, .v z)], []⟩ :=
  sg_v2 (by simp) hx hy fun ρ w h1 h2 => by
    have hg : ∀ w, (eqGuard b T x y (.int k m) (.int k q)).run P w = .ok () w := fun w => by
      unfold eqGuard
      cases b <;> rfl
    simp [execOp, h1, h2, hg, h]
theorem b_lss {T : Nat} {k : IntKind} {m q : Int} (w : World) : (binOp .lss T (.int k m) (.int k q)).run P w = .ok (.bool (decide (m < q))) w := by simp [binOp, Op.intCmp]
theorem b_leq {T : Nat} {k : IntKind} {m q : Int} (w : World) : (binOp .leq T (.int k m) (.int k q)).run P w = .ok (.bool (decide (m ≤ q))) w := by simp [binOp, Op.intCmp]
theorem b_gtr {T : Nat} {k : IntKind} {m q : Int} (w : World) : (binOp .gtr T (.int k m) (.int k q)).run P w = .ok (.bool (decide (q < m))) w := by simp [binOp, Op.intCmp]
theorem b_geq {T : Nat} {k : IntKind} {m q : Int} (w : World) : (binOp .geq T (.int k m) (.int k q)).run P w = .ok (.bool (decide (q ≤ m))) w := by simp [binOp, Op.intCmp]
theorem b_eql {T : Nat} {k : IntKind} {m q : Int} (w : World) : (binOp .eql T (.int k m) (.int k q)).run P w = .ok (.bool (decide (m = q))) w := by simp [binOp, Op.intCmp]; rfl
theorem b_neq {T : Nat} {k : IntKind} {m q : Int} (w : World) : (binOp .neq T (.int k m) (.int k q)).run P w = .ok (.bool (!decide (m = q))) w := by simp [binOp, Op.intCmp]; rfl
theorem b_add {T : Nat} {k : IntKind} {m q s : Int} (h : k.wrap (m + q) = s) (w : World) : (binOp .add T (.int k m) (.int k q)).run P w = .ok (.int k s) w := by simp [binOp, Op.intArith, h]
theorem b_sub {T : Nat} {k : IntKind} {m q s : Int} (h : k.wrap (m - q) = s) (w : World) : (binOp .sub T (.int k m) (.int k q)).run P w = .ok (.int k s) w := by simp [binOp, Op.intArith, h]
theorem l_not {T : Nat} {x : Operand} {b : Bool} (hx : St.ev ⟨t, r, nx⟩ x = .v (.bool b)) : Sg F n P X ops ⟨some dst, .unOp .not T x, ty, pos, af, none⟩ t r nx ⟨needO x (.v (.bool b)), []⟩ [] ⟨[(dst, .v (.bool (!b)))], []⟩ :=
  sg_v1 (by simp) hx fun ρ w h1 => by simp [execOp, h1, Op.unary]
end
end Go.Proofs.YtpeafglbhjjbhaaDoor

