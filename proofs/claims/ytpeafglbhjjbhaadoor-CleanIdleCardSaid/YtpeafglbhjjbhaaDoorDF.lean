/- Deep words, sixth part: what is made, what is stored. -/
import Derived.Test.YtpeafglbhjjbhaaDoorDE
namespace Go.Proofs.YtpeafglbhjjbhaaDoor
open Go Go.RowKit

section
variable {F : Fence} {n : Nat} {P : Program} {X : Cx} {ops : Array Oper} {t : List (Nat × CT)} {r : List (Nat × Option Root)} {nx : Nat} [hF : Wd F] {dst ty : Nat} {pos : String} {af : Array Edge}
/-- The frame of what makes one block. -/
theorem sg_new {op : Op} {d : Nd} {c : CT} {e sz : Nat} {els : List (List CT)} (hop : ∀ c, op ≠ .defer c) (hok : d.ok ⟨t, r, nx⟩) (hz : ∀ es ∈ els, es.length = sz)
    (h : ∀ U S a w N bs FP, d.ok S → RelI X U S a w N bs FP → ∃ (v : Value) (cur : Array Value) (cap : Nat) (us : Nat → Nat → Value), (execOp a.eval ⟨some dst, op, ty, pos, af, none⟩).run P w = .ok (.value v) (w.alloc (.cells cur e)) ∧ cur.size = cap * sz ∧ els.length ≤ cap ∧ cap ≤ 9223372036854775807 ∧
      (∀ (i o : Nat) (es : List CT) (c : CT), els[i]? = some es → es[o]? = some c → cur[i * sz + o]? = some (us i o) ∧ (us i o).oneCell' = true ∧ HV w N bs NoB c (us i o)) ∧
      HV (w.alloc (.cells cur e)) N (upd bs (nx * 64) (some (some (w.heap.size, 0, cap)))) NoB c v) :
    Sg F n P X ops ⟨some dst, op, ty, pos, af, none⟩ t r nx d [nx * 64] ⟨[(dst, c)], [(nx * 64, some ⟨e, sz, els⟩)]⟩ := by
  refine ⟨?_, hok, fun k hk => by simp at hk; omega⟩
  intro i hi hdd Q U S a w hd' hk hR
  have hn := fun k => hdd i _ k hi
  obtain ⟨N, bs, FP, hR⟩ := hR
  obtain ⟨v, cur, cap, us, hr, hs, hc, hm, hw, hv⟩ := h U S a w N bs FP hd' hR
  exact opWp_value rfl hop hr ⟨_, rfl, N, _, _, hR.new (d := some dst) (k := nx * 64) hn (hk _ (by simp)) hs hc hm hz us (fun i o es c hi ho => (hw i o es c hi ho).1) (fun i o es c hi ho => (hw i o es c hi ho).2.1) (fun i o es c hi ho => (hw i o es c hi ho).2.2) hv⟩
theorem box_cells {w : World} {N : Nat → Prop} {bs : Bs} {l : List CT} {us : List Value} (h : HL w N bs l us) (h1 : l.all CT.one = true) (i o : Nat) (es : List CT) (c : CT) (hi : [l][i]? = some es) (ho : es[o]? = some c) :
    us.toArray[i * l.length + o]? = some (us.getD o undef) ∧ (us.getD o undef).oneCell' = true ∧ HV w N bs NoB c (us.getD o undef) := by
  cases i with
  | succ i => simp at hi
  | zero =>
    simp at hi
    subst hi
    have hl : o < us.length := by rw [h.1]; exact (List.getElem?_eq_some_iff.1 ho).1
    have hu : us[o]? = some us[o] := List.getElem?_eq_getElem hl
    have e : us.getD o undef = us[o] := by simp [hl]
    rw [e]
    exact ⟨by simp [hl], h.one h1 _ (List.getElem_mem _), h.2 o c _ ho hu⟩
theorem l_box {T : Nat} {x : Operand} {c : CT} {l : List CT} (hx : Is (St.ev ⟨t, r, nx⟩ x) c) (hl : cellsC c = l) (h1 : l.all CT.one = true) :
    Sg F n P X ops ⟨some dst, .box T x, ty, pos, af, none⟩ t r nx ⟨needO x c, []⟩ [nx * 64] ⟨[(dst, .ad (nx * 64) l.length 0 0)], [(nx * 64, some ⟨T, l.length, [l]⟩)]⟩ := by
  subst hl
  refine sg_new (by simp) ⟨need_ok hx.eq, fun p hp => by cases hp⟩ (by simp) fun U S a w N bs FP hd hR => ?_
  have hex := hR.ev x
  rw [ev_again hx.eq hd.t] at hex
  have hc := hex.cells h1
  refine ⟨.pointer (some ⟨w.heap.size, 0, none⟩), (a.eval x).cells, 1, fun _ o => (a.eval x).cells.toList.getD o undef, by simp [execOp, Instr.box, newVar, newRow], ?_, by simp, by omega, ?_, ?_⟩
  · rw [Nat.one_mul, ← hc.1]; simp
  · intro i o es c hi ho
    have := box_cells hc h1 i o es c hi ho
    simpa using this
  · have := HV.ad (w := w.alloc (.cells (a.eval x).cells T)) (N := N) (P := NoB) (r := nx * 64) (sz := (cellsC c).length) (i := 0) (o := 0) w.heap.size 0 1 (upd_same bs (nx * 64) _)
    simpa using this
/-- A type's zero value. -/
structure ZtI (P : Program) (T : Nat) (zs : List Value) : Prop where
  z : ∃ z : Value, (∀ w, (zeroValue T).run P w = .ok z w) ∧ z.cells.toList = zs ∧ ∀ u ∈ zs, u.oneCell' = true
theorem ZtI.mk' {P : Program} {T : Nat} {zs : List Value} (h : ((P.info? T).bind (·.zero)).map (fun z => z.cells.toList) = some zs) (h1 : zs.all Value.oneCell' = true) : ZtI P T zs := by
  cases hi : P.info? T with
  | none => simp [hi] at h
  | some i =>
    cases hz : i.zero with
    | none => simp [hi, hz] at h
    | some z =>
      simp only [hi, hz, Option.bind_some, Option.map_some, Option.some.injEq] at h
      exact ⟨⟨z, fun w => by simp [zeroValue, typeInfo, hi, hz], h, fun u hu => List.all_eq_true.1 h1 u hu⟩⟩
theorem HL.zeros (w : World) (N : Nat → Prop) (bs : Bs) (zs : List Value) : HL w N bs (zs.map .v) zs := ⟨by simp, fun j c u hc hu => by
  rw [List.getElem?_map, hu] at hc
  cases hc
  exact .v _⟩
theorem zeros_one {zs : List Value} (h : ∀ u ∈ zs, u.oneCell' = true) : (zs.map CT.v).all CT.one = true := by
  rw [List.all_map]
  exact List.all_eq_true.2 h
theorem l_alloc {T : Nat} {zs : List Value} (hz : ZtI P T zs) :
    Sg F n P X ops ⟨some dst, .alloc T, ty, pos, af, none⟩ t r nx ⟨[], []⟩ [nx * 64] ⟨[(dst, .ad (nx * 64) zs.length 0 0)], [(nx * 64, some ⟨T, zs.length, [zs.map .v]⟩)]⟩ := by
  obtain ⟨z, hz1, hz2, hz3⟩ := hz.z
  subst hz2
  refine sg_new (by simp) ⟨fun p hp => (by cases hp), fun p hp => by cases hp⟩ (by simp) fun U S a w N bs FP hd hR => ?_
  refine ⟨.pointer (some ⟨w.heap.size, 0, none⟩), z.cells, 1, fun _ o => z.cells.toList.getD o undef, by simp [execOp, Instr.alloc, hz1, newVar, newRow], by simp, by simp, by omega, ?_, ?_⟩
  · intro i o es c hi ho
    have := box_cells (HL.zeros w N bs z.cells.toList) (zeros_one hz3) i o es c hi ho
    simpa using this
  · have := HV.ad (w := w.alloc (.cells z.cells T)) (N := N) (P := NoB) (r := nx * 64) (sz := z.cells.toList.length) (i := 0) (o := 0) w.heap.size 0 1 (upd_same bs (nx * 64) _)
    simpa using this
/-! ### literals -/
/-- The cells from 'off' on are replaced, one by one. -/
theorem setIn (off : Nat) : ∀ (vs : List Value) (j : Nat) (cs : Array Value), off + j + vs.length ≤ cs.size →
    ((vs.zipIdx j).foldl (fun cs (c, j) => cs.setIfInBounds (off + j) c) cs).toList = cs.toList.take (off + j) ++ vs ++ cs.toList.drop (off + j + vs.length)
  | [], j, cs, _ => by simp
  | v :: vs, j, cs, h => by
    rw [List.zipIdx_cons, List.foldl_cons, setIn off vs (j + 1) _ (by simp at h ⊢; omega)]
    have e := list_seg_step cs.toList (off + j) v vs (by simp at h ⊢; omega)
    simpa [Array.toList_setIfInBounds, Nat.add_assoc] using e
def fillC (place : Nat → Option (Nat × Nat)) (l : List CT) : List (Nat × CT) → Option (List CT)
  | [] => some l
  | (i, c) :: rest => match place i with
    | none => none
    | some (off, size) => if (cellsC c).length ≠ size || off + (cellsC c).length > l.length then none else fillC place (setC l off (cellsC c)) rest
theorem HL.set {w : World} {N : Nat → Prop} {bs : Bs} {l cs : List CT} {us vs : List Value} {o : Nat} (h : HL w N bs l us) (h' : HL w N bs cs vs) (ho : o + cs.length ≤ l.length) : HL w N bs (setC l o cs) (us.take o ++ vs ++ us.drop (o + vs.length)) := by
  have hl := h.1
  have hl' := h'.1
  refine ⟨by rw [setC_len ho]; simp; omega, fun j c u hc hu => ?_⟩
  rw [setC_get ho] at hc
  have hu' : (if o ≤ j ∧ j < o + vs.length then vs[j - o]? else us[j]?) = some u := by
    rw [← hu]
    by_cases h1 : j < o
    · rw [if_neg (by omega), List.append_assoc, List.getElem?_append_left (by simp; omega), List.getElem?_take_of_lt h1]
    · by_cases h2 : j < o + vs.length
      · rw [if_pos ⟨by omega, h2⟩, List.append_assoc, List.getElem?_append_right (by simp; omega), List.getElem?_append_left (by simp; omega)]
        congr 1
        simp; omega
      · rw [if_neg (by omega), List.getElem?_append_right (by simp; omega), List.getElem?_drop]
        congr 1
        simp; omega
  rw [hl'] at hu'
  split at hc
  · rename_i hin
    rw [if_pos hin] at hu'
    exact h'.2 _ c u hc hu'
  · rename_i hin
    rw [if_neg hin] at hu'
    exact h.2 _ c u hc hu'
theorem setC_one {l cs : List CT} {o : Nat} (h : l.all CT.one = true) (h' : cs.all CT.one = true) : (setC l o cs).all CT.one = true := by
  unfold setC
  rw [List.all_append, List.all_append, h', Bool.and_true, Bool.and_eq_true]
  exact ⟨List.all_eq_true.2 fun x hx => List.all_eq_true.1 h x (List.mem_of_mem_take hx), List.all_eq_true.2 fun x hx => List.all_eq_true.1 h x (List.mem_of_mem_drop hx)⟩
theorem fill_ok {w : World} {N : Nat → Prop} {bs : Bs} {place : Nat → Option (Nat × Nat)} : ∀ (ps : List (Nat × CT)) (vs : List (Nat × Value)) (l l' : List CT) (us : Array Value), HL w N bs l us.toList → l.all CT.one = true → vs.length = ps.length →
    (∀ (j : Nat) (p : Nat × CT) (v : Nat × Value), ps[j]? = some p → vs[j]? = some v → v.1 = p.1 ∧ HV w N bs NoB p.2 v.2) → (∀ p ∈ ps, (cellsC p.2).all CT.one = true) → fillC place l ps = some l' →
    ∃ us', Instr.fill place us vs = some us' ∧ HL w N bs l' us'.toList ∧ l'.all CT.one = true ∧ l'.length = l.length
  | [], vs, l, l', us, h, h1, hl, hp, hc, hf => by
    have : vs = [] := List.eq_nil_of_length_eq_zero (by simpa using hl)
    subst this
    simp [fillC] at hf
    subst hf
    exact ⟨us, rfl, h, h1, rfl⟩
  | (i, c) :: ps, [], l, l', us, h, h1, hl, hp, hc, hf => by simp at hl
  | (i, c) :: ps, (i', v) :: vs, l, l', us, h, h1, hl, hp, hc, hf => by
    obtain ⟨hi, hv⟩ := hp 0 (i, c) (i', v) rfl rfl
    simp only at hi
    subst hi
    simp only [fillC] at hf
    cases hpl : place i' with
    | none => simp [hpl] at hf
    | some q =>
      obtain ⟨off, size⟩ := q
      rw [hpl] at hf
      simp only at hf
      have hone := hc (i', c) (by simp)
      have hcl := hv.cells hone
      by_cases hbad : ((cellsC c).length ≠ size || off + (cellsC c).length > l.length) = true
      · rw [if_pos hbad] at hf; cases hf
      · rw [if_neg hbad] at hf
        simp at hbad
        have hfit : off + (cellsC c).length ≤ l.length := hbad.2
        have hvl : v.cells.size = (cellsC c).length := by have := hcl.1; simpa using this
        have hus : us.size = l.length := by have := h.1; simpa using this
        have hset := setIn off v.cells.toList 0 us (by simp [hvl, hus]; omega)
        simp only [Nat.add_zero] at hset
        obtain ⟨us', e1, e2, e3, e4⟩ := fill_ok (place := place) ps vs (setC l off (cellsC c)) l' (v.cells.toList.zipIdx.foldl (fun cs (c, j) => cs.setIfInBounds (off + j) c) us) (by rw [hset]; exact h.set hcl hfit) (setC_one h1 hone) (by simpa using hl)
          (fun j p q hj hq => hp (j + 1) p q (by simpa using hj) (by simpa using hq)) (fun p hp => hc p (by simp [hp])) hf
        refine ⟨us', ?_, e2, e3, by rw [e4, setC_len hfit]⟩
        rw [← e1]
        simp only [Instr.fill, hpl]
        rw [if_neg (by simp [hvl, hus, hbad.1]; omega)]
        congr 1
        rw [← Array.foldl_toList, Array.toList_zipIdx]
/-- Operands and what they are good for. -/
inductive IsP (S : St) : List (Nat × Operand) → List (Nat × CT) → Prop
  | nil : IsP S [] []
  | cons {i : Nat} {x : Operand} {c : CT} {ps : List (Nat × Operand)} {cs : List (Nat × CT)} (h : Is (S.ev x) c) (h' : IsP S ps cs) : IsP S ((i, x) :: ps) ((i, c) :: cs)
def needP : List (Nat × Operand) → List (Nat × CT) → List (Nat × CT)
  | (_, x) :: ps, (_, c) :: cs => needO x c ++ needP ps cs
  | _, _ => []
theorem needP_ok {S : St} {ps : List (Nat × Operand)} {cs : List (Nat × CT)} (h : IsP S ps cs) : ∀ p ∈ needP ps cs, S.tm p.1 = p.2 := by
  induction h with
  | nil => intro p hp; cases hp
  | cons h _ ih => intro p hp; exact (List.mem_append.1 hp).elim (need_ok h.eq p) (ih p)
theorem needP_again {S S2 : St} {ps : List (Nat × Operand)} {cs : List (Nat × CT)} (h : IsP S ps cs) (h2 : ∀ p ∈ needP ps cs, S2.tm p.1 = p.2) : cs.length = ps.length ∧ ∀ (j : Nat) (p : Nat × CT) (q : Nat × Operand), cs[j]? = some p → ps[j]? = some q → q.1 = p.1 ∧ S2.ev q.2 = p.2 := by
  induction h with
  | nil => exact ⟨rfl, fun j p q hj => by simp at hj⟩
  | cons h _ ih =>
    obtain ⟨i1, i2⟩ := ih fun p hp => h2 p (List.mem_append_right _ hp)
    refine ⟨by simp [i1], fun j p q hj hq => ?_⟩
    cases j with
    | zero =>
      cases hj; cases hq
      exact ⟨rfl, ev_again h.eq fun p hp => h2 p (List.mem_append_left _ hp)⟩
    | succ j => exact i2 j p q (by simpa using hj) (by simpa using hq)
/-- A struct's fields: where they lie. -/
structure StI (P : Program) (T : Nat) (pl : List (Nat × Nat)) : Prop where
  fs : ∃ fields, P.underlying T = some (.struct fields) ∧ ∀ w, (fields.mapM fun (f : Field) => do pure (f.offset, ← sizeOf f.type)).run P w = .ok pl.toArray w
theorem run_mapM_list {P : Program} {α β : Type} (f : α → Sem β) (g : α → β) (w : World) : ∀ (l : List α), (∀ x ∈ l, (f x).run P w = .ok (g x) w) → (l.mapM f).run P w = .ok (l.map g) w
  | [], _ => rfl
  | x :: l, h => by
    rw [List.mapM_cons, Sem.run_bind, h x (by simp), Result.andThen_ok, Sem.run_bind, run_mapM_list f g w l (fun y hy => h y (by simp [hy])), Result.andThen_ok]
    rfl
def fieldsB (P : Program) : List Field → Option (List (Nat × Nat))
  | [] => some []
  | f :: fs => match P.info? f.type, fieldsB P fs with
    | some i, some l => some ((f.offset, i.size) :: l)
    | _, _ => none
theorem fieldsB_ok {P : Program} : ∀ (fs : List Field) (pl : List (Nat × Nat)), fieldsB P fs = some pl → (fs.map fun f => (f.offset, ((P.info? f.type).map (·.size)).getD 0)) = pl ∧ ∀ f ∈ fs, ∃ i, P.info? f.type = some i
  | [], pl, h => by simp [fieldsB] at h; subst h; exact ⟨rfl, by simp⟩
  | f :: fs, pl, h => by
    simp only [fieldsB] at h
    cases hi : P.info? f.type with
    | none => simp [hi] at h
    | some i =>
      cases hl : fieldsB P fs with
      | none => simp [hi, hl] at h
      | some l =>
        simp [hi, hl] at h
        subst h
        obtain ⟨h1, h2⟩ := fieldsB_ok fs l hl
        refine ⟨by simp [hi, h1], fun g hg => ?_⟩
        rcases List.mem_cons.1 hg with e | e
        · exact ⟨i, by rw [e]; exact hi⟩
        · exact h2 g e
theorem StI.mk' {P : Program} {T : Nat} {pl : List (Nat × Nat)} (h : ((P.underlying T).bind fun d => match d with | .struct fs => fieldsB P fs.toList | _ => none) = some pl) : StI P T pl := by
  cases hd : P.underlying T with
  | none => simp [hd] at h
  | some d =>
    rw [hd] at h
    cases d with
    | struct fs =>
      simp only [Option.bind_some] at h
      obtain ⟨h1, h2⟩ := fieldsB_ok fs.toList pl h
      refine ⟨⟨fs, hd, fun w => ?_⟩⟩
      have := run_mapM_list (P := P) (fun f : Field => do pure (f.offset, ← sizeOf f.type)) (fun f => (f.offset, ((P.info? f.type).map (·.size)).getD 0)) w fs.toList (fun f hf => by
        obtain ⟨i, hi⟩ := h2 f hf
        simp [sizeOf, typeInfo, hi])
      rw [h1] at this
      rw [← Array.toList_mapM] at this
      simp only [Sem.run_map] at this
      generalize hx : (fs.mapM fun (f : Field) => do pure (f.offset, ← sizeOf f.type) : Sem _).run P w = x at this ⊢
      cases x with
      | ok y w' =>
        simp only [Result.andThen_ok, Result.ok.injEq] at this
        obtain ⟨e1, e2⟩ := this
        rw [← e1, e2]
      | halt => simp at this
    | _ => simp at h
theorem l_build {T : Nat} {ps : List (Nat × Operand)} {cs : List (Nat × CT)} {pl : List (Nat × Nat)} {zs : List Value} {l : List CT} (hT : StI P T pl) (hz : ZtI P T zs) (hp : IsP ⟨t, r, nx⟩ ps cs) (hf : fillC (pl[·]?) (zs.map .v) cs = some l) (h1 : cs.all (fun p => (cellsC p.2).all CT.one) = true) :
    Sg F n P X ops ⟨some dst, .build T ps.toArray, ty, pos, af, none⟩ t r nx ⟨needP ps cs, []⟩ [] ⟨[(dst, .ag l)], []⟩ :=
  sg_q (by simp) ⟨needP_ok hp, fun p hp => by cases hp⟩ fun U S a w N bs FP hd hR => by
    obtain ⟨fields, hu, hm⟩ := hT.fs
    obtain ⟨z, hz1, hz2, hz3⟩ := hz.z
    obtain ⟨hlen, hag⟩ := needP_again hp hd.t
    obtain ⟨us, e1, e2, e3, e4⟩ := fill_ok (w := w) (N := N) (bs := bs) (place := (pl[·]?)) cs (ps.map fun p => (p.1, a.eval p.2)) (zs.map .v) l z.cells (by rw [hz2]; exact HL.zeros w N bs zs) (zeros_one hz3) (by simp [hlen])
      (fun j p v hj hv => by
        rw [List.getElem?_map] at hv
        cases hq : ps[j]? with
        | none => simp [hq] at hv
        | some q =>
          simp [hq] at hv
          subst hv
          obtain ⟨g1, g2⟩ := hag j p q hj hq
          exact ⟨g1, by have := hR.ev q.2; rw [g2] at this; exact this⟩)
      (fun p hp => List.all_eq_true.1 h1 p hp) hf
    refine ⟨.agg us, ?_, .ag us (by have := e2.1; simpa using this) fun j c hj => ?_⟩
    · have e1' : Instr.fill (fun x => pl[x]?) z.cells (List.map (fun p => (p.1, a.eval p.2)) ps) = some us := e1
      have hm' := hm w
      simp only [bind_pure_comp] at hm'
      simp [execOp, Instr.build, hz1, run_underlying hu, hm', e1']
    · have hjl : j < us.toList.length := by rw [e2.1]; exact (List.getElem?_eq_some_iff.1 hj).1
      have := e2.2 j c _ hj (List.getElem?_eq_getElem hjl)
      have e : us.getD j undef = us.toList[j] := by simp at hjl; simp [hjl]
      rw [e]
      exact this
end
end Go.Proofs.YtpeafglbhjjbhaaDoor

