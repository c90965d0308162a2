/- Deep words, fourteenth part: a function's begin and end. -/
import Derived.Test.YtpeafglbhjjbhaaDoorDM
import Derived.RangeFuncLeaves
import Derived.RangeFuncRecord
namespace Go.Proofs.YtpeafglbhjjbhaaDoor
open Go Go.RowKit

def argC : CT → CT
  | .ag l => .ag (l.map roC)
  | .fn f a b => .fn f (a.map roC) (b.map roC)
  | c => roC c
theorem rd_argC {w : World} {N : Nat → Prop} {bs : Bs} {c : CT} {u : Value} (h : RD w N c u) : HV w N bs NoB (argC c) u := by
  have hm : ∀ (l : List CT) (us : Array Value), (∀ j c, l[j]? = some c → RD w N c (us.getD j undef)) → ∀ j c, (l.map roC)[j]? = some c → HV w N bs NoB c (us.getD j undef) := fun l us hr j c hj => by
    rw [List.getElem?_map] at hj
    cases hl : l[j]? with
    | none => simp [hl] at hj
    | some c0 =>
      simp [hl] at hj
      subst hj
      exact (hr j c0 hl).roC
  cases h with
  | ag us hl hr => exact .ag us (by simpa using hl) (hm _ us hr)
  | fn us vs hl hl' hr hr' => exact .fn us vs (by simpa using hl) (by simpa using hl') (hm _ us hr) (hm _ vs hr')
  | v x => exact .v _
  | un u => exact .un _
  | ro h => exact (RD.ro h).roC
  | nz h => exact (RD.nz h).roC
  | sl A b off n cap us hn hA hc hm' hz hw h1 hr => exact (RD.sl A b off n cap us hn hA hc hm' hz hw h1 hr).roC
  | rp b off us hN hw hr => exact (RD.rp b off us hN hw hr).roC
def argsT : Nat → List CT → List (Nat × CT)
  | _, [] => []
  | i, c :: l => (i, argC c) :: argsT (i + 1) l
theorem argsT_at : ∀ (l : List CT) (i t : Nat), lk CT.un (argsT i l) t = if i ≤ t then (l[t - i]?.map argC).getD .un else .un
  | [], i, t => by simp [argsT, lk]
  | c :: l, i, t => by
    simp only [argsT, lk]
    by_cases e : i = t
    · subst e; simp
    · rw [if_neg e, argsT_at l (i + 1) t]
      by_cases h : i ≤ t
      · rw [if_pos (by omega), if_pos h, show t - i = (t - (i + 1)) + 1 by omega]; simp
      · rw [if_neg (by omega), if_neg h]
/-- A mark is taken away. -/
theorem RelI.unmark {X : Cx} {U : Nat → Prop} {S : St} {w : World} {N : Nat → Prop} {bs : Bs} {FP : Nat → Nat → Prop} {tmps : Array Value} {D : Nat} {ds : List Deferred} (h : RelI X U S { tmps := tmps, defers := ⟨.collected D, #[]⟩ :: ds } w N bs FP) :
    w.heap[D]? = some (.deferred (some [])) ∧ RelI X U S { tmps := tmps, defers := ds } (w.putObj D (.deferred none)) N bs FP := by
  obtain ⟨Ds, h1, h2, h3⟩ := h.df
  cases Ds with
  | nil => cases h2
  | cons D' Ds =>
    simp only [List.map_cons, List.cons.injEq, Deferred.mk.injEq, Target.collected.injEq, and_true] at h2
    obtain ⟨rfl, h2⟩ := h2
    obtain ⟨⟨o1, o2, o3, o4⟩, hD⟩ := h3 D List.mem_cons_self
    rw [List.nodup_cons] at h1
    have hs : (w.putObj D (.deferred none)).heap.size = w.heap.size := by simp [World.putObj]
    have hk : ∀ k, k ≠ D → (w.putObj D (.deferred none)).heap[k]? = w.heap[k]? := fun k hk => by
      simp [World.putObj, Array.getElem?_setIfInBounds_ne (Ne.symm hk)]
    have hN : ∀ k, N k → (w.putObj D (.deferred none)).heap[k]? = w.heap[k]? := fun k hn => hk k fun e => o2 (e ▸ hn)
    refine ⟨hD, {
      blk := fun k hk' hM => (hk k (by omega)).trans (h.blk k hk' hM)
      size := by rw [hs]; exact h.size
      os := h.os
      tape := h.tape
      output := h.output
      n1 := fun k hn => by rw [hs]; exact h.n1 k hn
      n0 := h.n0
      n2 := h.n2
      f1 := fun r k hr => by rw [hs]; exact h.f1 r k hr
      f2 := h.f2
      u := h.u
      sz := h.sz
      pk := h.pk
      nl := h.nl
      df := ⟨Ds, h1.2, h2, fun D' hD' => ?_⟩
      fo := fun f hf => by cases (h.fo f hf).1
      gl := fun p hp => (h.gl p hp).mono hN fun _ h => h
      ts := fun t => (h.ts t).frame (fun _ hk => hk.elim) hN (fun _ h => h) (fun _ _ h => h)
      rs := fun r R hR => ?_ }⟩
    · obtain ⟨g1, g2⟩ := h3 D' (List.mem_cons_of_mem _ hD')
      exact ⟨by rw [hs]; exact g1, (hk D' fun e => h1.1 (e ▸ hD')).trans g2⟩
    · obtain ⟨x, hx, hv⟩ := h.rs r R hR
      exact ⟨x, hx, hv.frame (fun k hr => hk k fun e => o4 r (e ▸ hr)) hN (fun _ h => h) (fun _ _ h => h)⟩
theorem RelI.leaves {F : Fence} {n : Nat} {P : Program} {fn : Func} {R : Ending → World → Prop} {X : Cx} {U : Nat → Prop} {S : St} {N : Nat → Prop} {bs : Bs} {FP : Nat → Nat → Prop} : ∀ {a : Act} {w : World}, RelI X U S a w N bs FP →
    (∀ w2, RelI X U S { tmps := a.tmps, defers := [] } w2 N bs FP → ∃ v, (results fn a.tmps).run P w2 = .ok v w2 ∧ R (.returned v) w2) → LeavesInM F n P fn a.tmps R a.defers .returning w
  | ⟨tmps, []⟩, w, h, hr => hr w h
  | ⟨tmps, d :: ds⟩, w, h, hr => by
    obtain ⟨Ds, h1, h2, h3⟩ := h.df
    cases Ds with
    | nil => cases h2
    | cons D Ds =>
      simp only [List.map_cons, List.cons.injEq] at h2
      obtain ⟨rfl, _⟩ := h2
      obtain ⟨g1, g2⟩ := h.unmark
      exact ⟨by simp, .inl ⟨D, _, rfl, run_takeDeferred g1, RelI.leaves g2 hr⟩⟩
/-- What a function tells in a state. -/
def RetOK (P : Program) (fn : Func) (X : Cx) (S : St) (post : CT → Prop) : Prop :=
  ∀ a w N bs FP, RelI X (Us S.nx) S a w N bs FP → ∃ u c Pr, (results fn a.tmps).run P w = .ok u w ∧ post c ∧ (∀ q, Pr q → ∃ r, FP r q) ∧ HR w N Pr c u
/-- The same, with the roots that it takes. -/
def RetK (P : Program) (fn : Func) (X : Cx) (S : St) (post : CT → Prop) (ks : List Nat) : Prop :=
  ∀ a w N bs FP, RelI X (Us S.nx) S a w N bs FP → ∃ u c Pr, (results fn a.tmps).run P w = .ok u w ∧ post c ∧ (∀ q, Pr q → ∃ k ∈ ks, FP k q) ∧ HR w N Pr c u
theorem RetK.ok {P : Program} {fn : Func} {X : Cx} {S : St} {post : CT → Prop} {ks : List Nat} (h : RetK P fn X S post ks) : RetOK P fn X S post := fun a w N bs FP hI => by
  obtain ⟨u, c, Pr, g1, g2, g3, g4⟩ := h a w N bs FP hI
  exact ⟨u, c, Pr, g1, g2, fun q hq => by obtain ⟨k, _, hk⟩ := g3 q hq; exact ⟨k, hk⟩, g4⟩
theorem AC.mk {P : Program} {G : List (Nat × List CT)} {f : FuncId} {fn : Func} {code : Code} {nt : Nat} {cs : List CT} {post : CT → Prop} (hf : P.funcs[f]? = some fn) (hb : fn.body = some code) (hnt : fn.ntmps = nt) (hle : Nat.ble cs.length nt = true)
    (h : ∀ w N, W Fence.wide 0 P ⟨w, NoB, N, nt, G, []⟩ code ⟨argsT 0 cs, [], 0⟩ (fun x S => (x = .normal ∨ x = .ret) ∧ RetOK P fn ⟨w, NoB, N, nt, G, []⟩ S post)) (hnl : Nat.ble nt FS = true := by rfl) : AC P G f cs post := by
  intro w N vs hN hl hr hG
  have hle' : cs.length ≤ nt := Nat.le_of_ble_eq_true hle
  refine callsIn_wide.1 (callsIn_of_wp_marks (F := Fence.wide) (n := 0) hf hb trivial ?_ rfl)
  have hW := h w N { tmps := vs ++ Array.replicate (fn.ntmps - vs.size) undef, defers := [] } w ⟨N, NoR, fun _ _ => False, {
    blk := fun _ _ _ => rfl
    size := Nat.le_refl _
    os := rfl
    tape := rfl
    output := rfl
    n1 := hN
    n0 := fun _ h => h
    n2 := fun _ h => .inl h
    f1 := fun _ _ h => h.elim
    f2 := fun _ _ _ h => h.elim
    u := fun _ h => absurd rfl h
    sz := by simp [hnt, hl]; omega
    pk := fun p hp => nomatch hp
    nl := Nat.le_of_ble_eq_true hnl
    df := Marks.nil _ _
    fo := fun f hf => absurd hf (by
      show lk CT.un (argsT 0 cs) FS ≠ _
      rw [argsT_at, if_pos (Nat.zero_le _), Nat.sub_zero, List.getElem?_eq_none (Nat.le_trans hle' (Nat.le_of_ble_eq_true hnl))]
      simp)
    gl := hG
    ts := fun t => by
      show HV w N NoR NoB (lk .un (argsT 0 cs) t) _
      rw [argsT_at]
      simp only [Nat.zero_le, if_true, Nat.sub_zero]
      cases hc : cs[t]? with
      | none => exact .un _
      | some c =>
        have ht : t < vs.size := by rw [hl]; exact (List.getElem?_eq_some_iff.1 hc).1
        have := hr t c hc
        have e : (vs ++ Array.replicate (fn.ntmps - vs.size) undef).getD t undef = vs.getD t undef := by simp [ht, Array.getElem?_append_left]
        rw [e]
        exact rd_argC this
    rs := fun r R h => by cases h }⟩
  refine wpIn_mono hW ?_
  rintro e a w' ⟨S', hR, hx, hret⟩
  have key : LeavesInM Fence.wide 0 P fn a.tmps (fun e w' => ∃ u c N' Pr, e = .returned u ∧ post c ∧ Below w.heap.size w w' ∧ (∀ k, N k → N' k) ∧ (∀ k, N' k → k < w'.heap.size ∧ (N k ∨ w.heap.size ≤ k)) ∧ (∀ k, Pr k → w.heap.size ≤ k ∧ k < w'.heap.size ∧ ¬ N' k) ∧ HR w' N' Pr c u) a.defers .returning w' := by
    obtain ⟨N', bs, FP, hI⟩ := hR
    refine hI.leaves fun w2 hI => ?_
    obtain ⟨u, c, Pr, g1, g2, g3, g4⟩ := hret _ w2 N' bs FP hI
    exact ⟨u, g1, u, c, N', Pr, rfl, g2, ⟨hI.os, hI.tape, hI.output, hI.size, fun k hk => hI.blk k hk (fun h => h)⟩, hI.n0, fun k hk => ⟨hI.n1 k hk, (hI.n2 k hk).imp id fun h => h.resolve_right fun h => h⟩, fun k hk => by
      obtain ⟨r, hr⟩ := g3 k hk
      obtain ⟨e1, e2, e3⟩ := hI.f1 r k hr
      exact ⟨e3.resolve_right (fun h => h), e1, e2⟩, g4⟩
  rcases hx with rfl | rfl
  · exact key
  · exact key
/-! ### what is told -/
/-- A value that is told, closed; the roots that it takes. -/
inductive Sh1 (S : St) : CT → CT → List Nat → Prop
  | v (x : Value) : Sh1 S (.v x) (.v x) []
  | ro (c : CT) : Sh1 S (.ro c) (.ro c) []
  | nil (e sz : Nat) : Sh1 S (.v (.slice none 0 0)) (.sl e sz []) []
  | nilRo (e sz : Nat) : Sh1 S (.v (.slice none 0 0)) (.ro (.sl e sz [])) []
  | rf {k m sz e : Nat} {els : List (List CT)} (hr : S.rt k = some ⟨e, sz, els⟩) (hl : els.length = m) (hc : ∀ es ∈ els, ∀ c ∈ es, Cl true c) : Sh1 S (.rf k 0 m sz) (.sl e sz els) [k]
  | cut {k m sz e : Nat} {els els' : List (List CT)} (hr : S.rt k = some ⟨e, sz, els⟩) (hl : m ≤ els.length) (he : els.take m = els') (hc : ∀ es ∈ els', ∀ c ∈ es, Cl true c) : Sh1 S (.rf k 0 m sz) (.sl e sz els') [k]
  | ad {k sz e : Nat} {es : List CT} (hr : S.rt k = some ⟨e, sz, [es]⟩) (hc : ∀ c ∈ es, Cl true c) : Sh1 S (.ad k sz 0 0) (.op e sz es) [k]
  | un : Sh1 S .un .un []
  | gone (c : CT) (h : c.cp = true) : Sh1 S c .un []
  | fn (f : Fn) {l : List CT} (h : ∀ c ∈ l, Cl true c) : Sh1 S (.fn f [] l) (.fn f [] l) []
/-- The same, of a cell. -/
inductive ShC (S : St) : CT → CT → List Nat → Prop
  | of {c c' : CT} {ks : List Nat} (h : Sh1 S c c' ks) : ShC S c c' ks
  | own {e sz : Nat} {els : List (List CT)} (hc : Cl true (.sl e sz els)) : ShC S (.sl e sz els) (.sl e sz els) []
inductive ShL (S : St) : List CT → List CT → List Nat → Prop
  | nil : ShL S [] [] []
  | cons {c c' : CT} {ks ks' : List Nat} {l l' : List CT} (h : ShC S c c' ks) (h' : ShL S l l' ks') : ShL S (c :: l) (c' :: l') (ks ++ ks')
inductive RV (P : Program) (S : St) : ResultVar → CT → List Nat → Prop
  | tmp {t : Nat} {c c' : CT} {ks : List Nat} (h : Is (S.tm t) c) (hs : Sh1 S c c' ks) : RV P S (.tmp t) c' ks
  | tmpA {t : Nat} {l l' : List CT} {ks : List Nat} (h : S.tm t = .ag l) (hs : ShL S l l' ks) (hc : l.all CT.cp = true) : RV P S (.tmp t) (.ag l') ks
  | cell {t T k sz e : Nat} {c c' : CT} {ks : List Nat} (hT : TyI P T false 1) (h : S.tm t = .ad k sz 0 0) (hr : S.rt k = some ⟨e, sz, [[c]]⟩) (hs : ShC S c c' ks) : RV P S (.cell t T) c' (k :: ks)
  | cellA {t T k sz e s : Nat} {es l' : List CT} {ks : List Nat} (hT : TyI P T true s) (h : S.tm t = .ad k sz 0 0) (hr : S.rt k = some ⟨e, sz, [es]⟩) (hl : es.length = s) (hs : ShL S es l' ks) : RV P S (.cell t T) (.ag l') (k :: ks)
section
variable {X : Cx} {U : Nat → Prop} {S : St} {a : Act} {w : World} {N : Nat → Prop} {bs : Bs} {FP : Nat → Nat → Prop} {P : Program}
def Kp (FP : Nat → Nat → Prop) (ks : List Nat) : Nat → Prop := fun q => ∃ k ∈ ks, FP k q
theorem Sh1.hc (h : RelI X U S a w N bs FP) {c c' : CT} {ks : List Nat} (hs : Sh1 S c c' ks) {u : Value} (hu : HV w N bs NoB c u) : HC w N (Kp FP ks) c' u := by
  cases hs with
  | v x => rw [hu.val]; exact .cell (.v _)
  | un => exact .cell (.un _)
  | gone c h => exact .cell (.un _)
  | ro c => exact .cell (.ro hu.out_ro)
  | fn f h => exact .cell ((hu.shut (.fn f h)).mono fun _ h => h.elim)
  | nil e sz => rw [hu.val]; exact .cell .nil
  | nilRo e sz => rw [hu.val]; exact .cell (.ro (.sl none 0 0 0 0 (fun _ _ => undef) rfl (fun h => absurd rfl h) (Nat.le_refl _) (by omega) (by simp) (fun i o es c hi => by simp at hi) (fun i o es c hi => by simp at hi) (fun i o es c hi => by simp at hi)))
  | @rf k m sz e els hr hl hc =>
    obtain ⟨x, hx, hv⟩ := h.rs _ _ hr
    have hv' : HV w N NoR (Kp FP [k]) (.sl e sz els) (hdr x els.length) := (hv.shut (.sl _ _ hc)).mono fun q hq => ⟨k, by simp, hq⟩
    cases hu with
    | rfNil hb =>
      rw [hb] at hx
      cases hx
      exact .cell hv'
    | rf A g off cap hb hn hm hA =>
      rw [hb] at hx
      cases hx
      have := hA (.inr rfl)
      subst this
      simp only [hdr, hl] at hv'
      exact .cell (by simpa using hv')
  | @cut k m sz e els els' hr hl he hc =>
    subst he
    cases hu with
    | rfNil hb =>
      rw [List.take_zero] 
      exact .cell .nil
    | rf A g off cap hb hn hm hA =>
      have := hA (.inr rfl)
      subst this
      obtain ⟨cur, us, Q, hg, hh, hs, hcl, hm', hz, hQ, hd, hw, h1, hv⟩ := h.root hb hr
      have hat : ∀ i es, (els.take m)[i]? = some es → els[i]? = some es := fun i es hi => by
        have := cut_at (lo := 0) (els := els) (m := m) (i := i) (x := es) (by simpa using hi)
        simpa using this.2
      refine .cell ?_
      have := HV.own (w := w) (N := N) (bs := NoR) (P := Kp FP [k]) (e := e) (sz := sz) (els := els.take m) g off m cap cur us Q (by simp; omega) ⟨k, by simp, hg⟩ hh hs (by omega) hm (fun es he => hz es (List.mem_of_mem_take he)) (fun i o q hq => ⟨⟨k, by simp, (hQ i o q hq).1⟩, (hQ i o q hq).2⟩) hd (fun i o es c hi ho => hw i o es c (hat i es hi) ho) (fun i o es c hi ho => h1 i o es c (hat i es hi) ho)
        (fun i o es c hi ho => (hv i o es c (hat i es hi) ho).shut (hc es (List.mem_of_getElem? hi) c (List.mem_of_getElem? ho)))
      simpa using this
  | @ad k sz e es hr hc =>
    obtain ⟨x, hx, hv⟩ := h.rs _ _ hr
    cases hu with
    | ad g off cap hb =>
      rw [hb] at hx
      cases hx
      have hv' : HV w N NoR (Kp FP [k]) (.sl e sz [es]) (hdr (some (g, off, cap)) 1) := (hv.shut (.sl _ _ (fun es' he c hc' => (by simp at he; subst he; exact hc c hc')))).mono fun q hq => ⟨k, by simp, hq⟩
      have := HC.op hv'
      simpa using this
theorem HC.mono {Q Q' : Nat → Prop} {c : CT} {u : Value} (h : HC w N Q c u) (hQ : ∀ q, Q q → Q' q) : HC w N Q' c u := by
  cases h with
  | cell hx => exact .cell (hx.mono hQ)
  | op hx => exact .op (hx.mono hQ)
/-- A list of cells, closed: the footprints lie apart. -/
theorem ShL.hc (h : RelI X U S a w N bs FP) {l l' : List CT} {ks : List Nat} (hs : ShL S l l' ks) (hnd : ks.Nodup) : ∀ (us : Nat → Value) (Q0 : Nat → Nat → Prop), (∀ j c, l[j]? = some c → HV w N bs (Q0 j) c (us j)) → (∀ i j q, Q0 i q → Q0 j q → i = j) → (∀ j q, Q0 j q → ∀ k ∈ ks, ¬ FP k q) →
    l'.length = l.length ∧ ∃ Q : Nat → Nat → Prop, (∀ j c, l'[j]? = some c → HC w N (Q j) c (us j)) ∧ (∀ j q, Q j q → Q0 j q ∨ Kp FP ks q) ∧ (∀ i j q, Q i q → Q j q → i = j) := by
  induction hs with
  | nil => exact fun us Q0 _ _ _ => ⟨rfl, fun _ _ => False, fun j c hj => by simp at hj, fun _ _ h => h.elim, fun _ _ _ h => h.elim⟩
  | @cons c c' ks ks' l l' h1 h2 ih =>
    intro us Q0 hu hd0 hk0
    obtain ⟨n1, n2, n3⟩ := List.nodup_append.1 hnd
    obtain ⟨g1, Q, g2, g3, g4⟩ := ih n2 (fun j => us (j + 1)) (fun j => Q0 (j + 1)) (fun j c hj => hu (j + 1) c (by simpa using hj)) (fun i j q e1 e2 => by have := hd0 _ _ q e1 e2; omega) (fun j q hq k hk => hk0 _ q hq k (List.mem_append_right _ hk))
    have hfar : ∀ q, (Q0 0 q ∨ Kp FP ks q) → ∀ j, ¬ Q j q := fun q hq j hj => by
      rcases hq with hq | ⟨k, hk, hq⟩ <;> rcases g3 j q hj with hj | ⟨k', hk', hj⟩
      · have := hd0 _ _ q hq hj; omega
      · exact hk0 0 q hq k' (List.mem_append_right _ hk') hj
      · exact hk0 (j + 1) q hj k (List.mem_append_left _ hk) hq
      · have := h.f2 k k' q hq hj
        subst this
        exact n3 k hk k hk' rfl
    have h0 := hu 0 c rfl
    have hcell : ∃ P0 : Nat → Prop, (∀ q, P0 q → Q0 0 q ∨ Kp FP ks q) ∧ HC w N P0 c' (us 0) := by
      cases h1 with
      | of hs1 =>
        have hcp : c.cp = true := by cases hs1 <;> first | rfl | assumption
        exact ⟨Kp FP ks, fun _ h => .inr h, hs1.hc h (h0.cp hcp)⟩
      | own hcl => exact ⟨Q0 0, fun _ h => .inl h, .cell (h0.shut hcl)⟩
    obtain ⟨P0, p1, p2⟩ := hcell
    refine ⟨by simp [g1], fun j => match j with | 0 => P0 | j + 1 => Q j, fun j c hj => ?_, fun j q hq => ?_, fun i j q e1 e2 => ?_⟩
    · cases j with
      | zero => cases hj; exact p2
      | succ j => exact g2 j c (by simpa using hj)
    · cases j with
      | zero =>
        rcases p1 q hq with hq | ⟨k, hk, hq⟩
        · exact .inl hq
        · exact .inr ⟨k, List.mem_append_left _ hk, hq⟩
      | succ j =>
        rcases g3 j q hq with hq | ⟨k, hk, hq⟩
        · exact .inl hq
        · exact .inr ⟨k, List.mem_append_right _ hk, hq⟩
    · cases i with
      | zero =>
        cases j with
        | zero => rfl
        | succ j => exact absurd e2 (hfar q (p1 q e1) j)
      | succ i =>
        cases j with
        | zero => exact absurd e1 (hfar q (p1 q e2) i)
        | succ j => rw [g4 i j q e1 e2]
theorem RV.ha (h : RelI X U S a w N bs FP) {v : ResultVar} {c : CT} {ks : List Nat} (hv : RV P S v c ks) (hnd : ks.Nodup) :
    ∃ u, ((match v with | .tmp t => pure (a.tmps.getD t undef) | .cell p t => do loadVar t (← asAddr (a.tmps.getD p undef)) : Sem Value)).run P w = .ok u w ∧ HA w N (Kp FP ks) c u := by
  cases hv with
  | @tmp t c0 c' ks h0 hs =>
    have hu := h.ts t
    rw [h0.eq] at hu
    exact ⟨_, rfl, .one (hs.hc h hu)⟩
  | @tmpA t l l' ks h0 hs hc =>
    have hu := h.ts t
    rw [h0] at hu
    generalize hE : a.tmps.getD t undef = u at hu
    cases hu with
    | ag us hl hr =>
      obtain ⟨g1, Q, g2, g3, g4⟩ := hs.hc h hnd (fun j => us.getD j undef) (fun _ _ => False) (fun j c hj => (hr j c hj).mono fun _ h => h.elim) (fun _ _ _ h => h.elim) (fun _ _ h => h.elim)
      exact ⟨.agg us, by show Result.ok (a.tmps.getD t undef) w = _; rw [hE], .ag us Q (by rw [hl, g1]) (fun j q hq => (g3 j q hq).resolve_left (fun h => h)) g4 g2⟩
  | @cell t T k sz e c0 c' ks hT h0 hr hs =>
    have hu := h.ts t
    rw [h0] at hu
    generalize hE : a.tmps.getD t undef = u at hu
    cases hu with
    | ad g off cap hb =>
      have hE' : a.tmps[t]?.getD undef = .pointer (some ⟨g, off + (0 * sz + 0), none⟩) := by simpa using hE
      obtain ⟨cur, us, Q, hg, hh, hs', hcl, hm', hz, hQ, hd, hw, h1, hv⟩ := h.root hb hr
      have hc := hw 0 0 [c0] c0 rfl rfl
      have hvv := hv 0 0 [c0] c0 rfl rfl
      rw [List.nodup_cons] at hnd
      refine ⟨us 0 0, ?_, .one ?_⟩
      · have : w.cell? ⟨g, off + (0 * sz + 0), none⟩ = some (us 0 0) := by simp only [World.cell?, hh]; simpa using hc
        simp [hE', asAddr, loadVar, hT.ag]
        simp at this
        simp [this]
      · cases hs with
        | of hs1 =>
          have hcp : c0.cp = true := by cases hs1 <;> first | rfl | assumption
          exact (hs1.hc h (hvv.cp hcp)).mono fun q ⟨k', hk, hq⟩ => ⟨k', by simp [hk], hq⟩
        | own hcl' => exact .cell ((hvv.shut hcl').mono fun q hq => ⟨k, by simp, (hQ _ _ q hq).1⟩)
  | @cellA t T k sz e s es l' ks hT h0 hr hl hs =>
    have hu := h.ts t
    rw [h0] at hu
    generalize hE : a.tmps.getD t undef = u at hu
    cases hu with
    | ad g off cap hb =>
      have hE' : a.tmps[t]?.getD undef = .pointer (some ⟨g, off + (0 * sz + 0), none⟩) := by simpa using hE
      obtain ⟨cur, us, Q, hg, hh, hs', hcl, hm', hz, hQ, hd, hw, h1, hv⟩ := h.root hb hr
      rw [List.nodup_cons] at hnd
      have hesz : es.length = sz := hz es (by simp)
      let vs : List Value := (List.range s).map fun j => us 0 j
      have hvs : vs.length = s := by simp [vs]
      have hrun := run_loadCells_list (P := P) w ⟨g, off, none⟩ vs (fun j v hv => by
        have hj : j < s := by rw [← hvs]; exact (List.getElem?_eq_some_iff.1 hv).1
        have hje : j < es.length := by omega
        have e1 : vs[j]? = some (us 0 j) := by simp [vs, hj]
        rw [e1] at hv
        cases hv
        rw [add_plain']
        have := hw 0 j es es[j] rfl (List.getElem?_eq_getElem hje)
        simp only [World.cell?, hh]
        simpa using this)
      rw [hvs] at hrun
      obtain ⟨g1, Q', g2, g3, g4⟩ := hs.hc h hnd.2 (fun j => us 0 j) (fun j q => Q 0 j q) (fun j c hj => hv 0 j es c rfl hj) (fun i j q e1 e2 => (hd _ _ _ _ q e1 e2).2) (fun j q hq k' hk' hf => hnd.1 (by
        have := h.f2 k k' q (hQ _ _ q hq).1 hf
        rwa [this]))
      refine ⟨.agg vs.toArray, ?_, .ag vs.toArray Q' (by simp [hvs, g1, hl]) (fun j q hq => ?_) g4 fun j c hj => ?_⟩
      · simp [hE', asAddr, loadVar, hT.ag, hT.sz, hrun]
      · rcases g3 j q hq with hq | ⟨k', hk, hq⟩
        · exact ⟨k, by simp, (hQ _ _ q hq).1⟩
        · exact ⟨k', by simp [hk], hq⟩
      · have hj' : j < s := by
          have := (List.getElem?_eq_some_iff.1 hj).1
          omega
        have e1 : vs.toArray.getD j undef = us 0 j := by simp [vs, hj']
        rw [e1]
        exact g2 j c hj
end
inductive RVL (P : Program) (S : St) : List ResultVar → List CT → List Nat → Prop
  | nil : RVL P S [] [] []
  | cons {v : ResultVar} {c : CT} {ks ks' : List Nat} {vs : List ResultVar} {cs : List CT} (h : RV P S v c ks) (h' : RVL P S vs cs ks') : RVL P S (v :: vs) (c :: cs) (ks ++ ks')
def resT : List CT → CT
  | [c] => c
  | l => .tu l
theorem ret_okK {P : Program} {fn : Func} {X : Cx} {S : St} {post : CT → Prop} {vs : List ResultVar} {cs : List CT} {ks : List Nat} (hfn : fn.results = vs.toArray) (hv : RVL P S vs cs ks) (hnd : ks.Nodup) (hp : post (resT cs)) : RetK P fn X S post ks := by
  intro a w N bs FP hI
  let run1 : ResultVar → Sem Value := fun v => match v with | .tmp t => pure (a.tmps.getD t undef) | .cell p t => do loadVar t (← asAddr (a.tmps.getD p undef))
  have key : ∃ us : List Value, us.length = cs.length ∧ (vs.mapM run1).run P w = .ok us w ∧ ∃ Q : Nat → Nat → Prop, (∀ j q, Q j q → Kp FP ks q) ∧ (∀ i j q, Q i q → Q j q → i = j) ∧ ∀ j c, cs[j]? = some c → HA w N (Q j) c (us.getD j undef) := by
    clear hfn hp
    induction hv with
    | nil => exact ⟨[], rfl, rfl, fun _ _ => False, fun _ _ h => h.elim, fun _ _ _ h => h.elim, fun j c hj => by simp at hj⟩
    | @cons v c ks ks' vs cs h1 h2 ih =>
      obtain ⟨n1, n2, n3⟩ := List.nodup_append.1 hnd
      obtain ⟨us, l1, r1, Q, q1, q2, q3⟩ := ih n2
      obtain ⟨u, r0, h0⟩ := h1.ha hI n1
      have r0' : (run1 v).run P w = .ok u w := r0
      refine ⟨u :: us, by simp [l1], ?_, fun j => match j with | 0 => Kp FP ks | j + 1 => Q j, fun j q hq => ?_, fun i j q e1 e2 => ?_, fun j c hj => ?_⟩
      · rw [List.mapM_cons, Sem.run_bind, r0', Result.andThen_ok, Sem.run_bind, r1]
        rfl
      · cases j with
        | zero => obtain ⟨k, hk, hq⟩ := hq; exact ⟨k, List.mem_append_left _ hk, hq⟩
        | succ j => obtain ⟨k, hk, hq⟩ := q1 j q hq; exact ⟨k, List.mem_append_right _ hk, hq⟩
      · have far : ∀ j, Kp FP ks q → ¬ Q j q := fun j ⟨k, hk, hq⟩ hj => by
          obtain ⟨k', hk', hq'⟩ := q1 j q hj
          have := hI.f2 k k' q hq hq'
          subst this
          exact n3 k hk k hk' rfl
        cases i with
        | zero =>
          cases j with
          | zero => rfl
          | succ j => exact absurd e2 (far j e1)
        | succ i =>
          cases j with
          | zero => exact absurd e1 (far i e2)
          | succ j => rw [q2 i j q e1 e2]
      · cases j with
        | zero => cases hj; simpa using h0
        | succ j => simpa using q3 j c (by simpa using hj)
  obtain ⟨us, hl, hr, Q, q1, q2, q3⟩ := key
  have hrun : (results fn a.tmps).run P w = .ok (if h : us.toArray.size = 1 then us.toArray[0] else .tuple us.toArray) w := by
    have e : (vs.toArray.mapM run1).run P w = .ok us.toArray w := by
      rw [← Array.toList_mapM] at hr
      simp only [Sem.run_map] at hr
      generalize (vs.toArray.mapM run1).run P w = x at hr ⊢
      cases x with
      | ok y w' =>
        simp only [Result.andThen_ok, Result.ok.injEq] at hr
        obtain ⟨e1, e2⟩ := hr
        rw [← e1, e2]
      | halt => simp at hr
    have hres : results fn a.tmps = (vs.toArray.mapM run1 >>= fun vs => pure (if h : vs.size = 1 then vs[0] else .tuple vs)) := by
      unfold results
      rw [hfn]
      rfl
    rw [hres, Sem.run_bind, e, Result.andThen_ok]
    rfl
  by_cases h1 : us.length = 1
  · have hc1 : cs.length = 1 := by omega
    obtain ⟨c, rfl⟩ : ∃ c, cs = [c] := by
      match cs, hc1 with
      | [c], _ => exact ⟨c, rfl⟩
    obtain ⟨u, rfl⟩ : ∃ u, us = [u] := by
      match us, h1 with
      | [u], _ => exact ⟨u, rfl⟩
    refine ⟨u, c, Q 0, by simpa using hrun, hp, fun q hq => ?_, .one (by simpa using q3 0 c rfl)⟩
    exact q1 0 q hq
  · have e1 : resT cs = .tu cs := by
      match cs, hl with
      | [], _ => rfl
      | [c], hl => exact absurd hl h1
      | _ :: _ :: _, _ => rfl
    rw [e1] at hp
    refine ⟨.tuple us.toArray, .tu cs, Kp FP ks, by simpa [h1] using hrun, hp, fun q hq => hq, .tu us.toArray Q (by simpa using hl) q1 q2 fun j c hj => by simpa using q3 j c hj⟩
theorem ret_ok {P : Program} {fn : Func} {X : Cx} {S : St} {post : CT → Prop} {vs : List ResultVar} {cs : List CT} {ks : List Nat} (hfn : fn.results = vs.toArray) (hv : RVL P S vs cs ks) (hnd : ks.Nodup) (hp : post (resT cs)) : RetOK P fn X S post := (ret_okK hfn hv hnd hp).ok
end Go.Proofs.YtpeafglbhjjbhaaDoor

