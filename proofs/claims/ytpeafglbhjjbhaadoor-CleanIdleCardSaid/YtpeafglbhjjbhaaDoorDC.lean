/- Deep words, third part: operations, regions in the order of the text, code. -/
import Derived.Test.YtpeafglbhjjbhaaDoorDB
import Derived.RangeFuncCalls
namespace Go.Proofs.YtpeafglbhjjbhaaDoor
open Go Go.RowKit

/-- A fence that bars nothing. -/
class Wd (F : Fence) : Prop where
  fn : ∀ f, F.fn f
  dp : F.depth = none
  ci : ∀ (n : Nat) (P : Program) (f : FuncId) (args : Array Value) (w : World) (R : Ending → World → Prop), Calls P f args w R → CallsIn F n P f args w R
def opWp (F : Fence) (n : Nat) (P : Program) (ops : Array Oper) (o : Oper) (K : Act → World → Prop) (Q : Exit → Act → World → Prop) (a : Act) (w : World) : Prop :=
  if Region.wanted o (yielded ops a.tmps) then o.wpIn F n P a w K Q else (∀ f, o.about P w a.eval = some f → F.fn f) ∧ K (a.put o.dst undef) w
structure Nd where
  t : List (Nat × CT)
  r : List (Nat × Root)
structure Nd.ok (d : Nd) (S : St) : Prop where
  t : ∀ p ∈ d.t, S.tm p.1 = p.2
  r : ∀ p ∈ d.r, S.rt p.1 = some p.2
/-- An operation, from whatever state that has what it needs. -/
def Dsts (ops : Array Oper) (nt : Nat) : Prop := ∀ (i : Nat) (o : Oper) (k : Nat), ops[i]? = some o → o.dst = some k → k < nt
def OpL (F : Fence) (n : Nat) (P : Program) (X : Cx) (ops : Array Oper) (o : Oper) (d : Nd) (ks : List Nat) (post : Eff → Prop) : Prop :=
  ∀ (i : Nat), ops[i]? = some o → Dsts ops X.nt → ∀ (Q : Exit → Act → World → Prop) (U : Nat → Prop) (S : St) (a : Act) (w : World), d.ok S → (∀ k ∈ ks, ¬ U k) → Rel X U S a w →
    opWp F n P ops o (fun a' w' => ∃ E, post E ∧ Rel X (fun r => U r ∨ r ∈ ks) (S.app E) a' w') Q a w
theorem opWp_mono {F : Fence} {n : Nat} {P : Program} {ops : Array Oper} {o : Oper} {K K' : Act → World → Prop} {Q : Exit → Act → World → Prop} {a : Act} {w : World} (h : ∀ a w, K a w → K' a w) (hh : opWp F n P ops o K Q a w) : opWp F n P ops o K' Q a w := by
  unfold opWp at *
  split
  · rename_i hw; rw [if_pos hw] at hh; exact Oper.wpIn_mono h hh
  · rename_i hw; rw [if_neg hw] at hh; exact ⟨hh.1, h _ _ hh.2⟩
instance : Wd Fence.wide := ⟨fun _ => trivial, rfl, fun _ _ _ _ _ _ h => callsIn_wide.2 h⟩
instance (l : Nat) : Wd (Fence.wide.inRound l) := ⟨fun _ => trivial, rfl, fun _ _ _ _ _ _ h => CallsIn.inRound l (callsIn_wide.2 h)⟩
section
variable {F : Fence} {n : Nat} {P : Program} {X : Cx} {ops : Array Oper} {o : Oper}
theorem wanted_none {y : Nat → Option Bool} (h : o.guard = none) : Region.wanted o y = true := by simp [Region.wanted, h]
/-- An operation that comes to a value. -/
theorem opWp_value [hF : Wd F] (hg : o.guard = none) (hd : ∀ c, o.op ≠ .defer c) {K : Act → World → Prop} {Q : Exit → Act → World → Prop} {a : Act} {w w' : World} {v : Value} (hr : (execOp a.eval o).run P w = .ok (.value v) w') (h : K (a.put o.dst v) w') : opWp F n P ops o K Q a w := by
  unfold opWp
  rw [if_pos (wanted_none hg)]
  refine ⟨fun f _ => hF.fn f, ?_⟩
  rw [Oper.semAt_plain F _ o hd, hr]
  exact h
theorem opWp_skip [hF : Wd F] (hg : o.guard = none) (hd : ∀ c, o.op ≠ .defer c) {K : Act → World → Prop} {Q : Exit → Act → World → Prop} {a : Act} {w w' : World} (hr : (execOp a.eval o).run P w = .ok .skip w') (h : K (a.put o.dst undef) w') : opWp F n P ops o K Q a w := by
  unfold opWp
  rw [if_pos (wanted_none hg)]
  refine ⟨fun f _ => hF.fn f, ?_⟩
  rw [Oper.semAt_plain F _ o hd, hr]
  exact h
theorem opWp_enter [hF : Wd F] (hg : o.guard = none) (hd : ∀ c, o.op ≠ .defer c) {K : Act → World → Prop} {Q : Exit → Act → World → Prop} {a : Act} {w w' : World} {f : FuncId} {args : Array Value} (hr : (execOp a.eval o).run P w = .ok (.enter f args) w')
    (h : CallsIn F (n - 1) P f args w' fun e w'' => ∃ v, e = .returned v ∧ K (a.put o.dst v) w'') : opWp F n P ops o K Q a w := by
  unfold opWp
  rw [if_pos (wanted_none hg)]
  refine ⟨fun f _ => hF.fn f, ?_⟩
  rw [Oper.semAt_plain F _ o hd, hr]
  refine ⟨fun h => (by rw [hF.dp] at h; cases h), h.mono ?_⟩
  rintro e w'' ⟨v, rfl, hK⟩
  exact hK
/-- Nothing but a slot. -/
theorem OpL.quiet [hF : Wd F] (hg : o.guard = none) (hd : ∀ c, o.op ≠ .defer c) {d : Nd} {c : CT}
    (h : ∀ U S a w N bs FP, d.ok S → RelI X U S a w N bs FP → ∃ v, (execOp a.eval o).run P w = .ok (.value v) w ∧ HV w N bs NoB c v) : OpL F n P X ops o d [] (fun E => E = ⟨tE o.dst c, []⟩) := by
  intro i hi hdd Q U S a w hd' hk hR
  have hn := fun k => hdd i o k hi
  obtain ⟨N, bs, FP, hR⟩ := hR
  obtain ⟨v, hr, hv⟩ := h U S a w N bs FP hd' hR
  exact opWp_value hg hd hr ⟨_, rfl, N, bs, FP, (hR.quiet hn hv).weakU fun _ h => .inl h⟩
/-- An operation that isn't wanted. -/
theorem OpL.skipped [hF : Wd F] {j g : Nat} {oj : Oper} {b b' : Bool} (hg : o.guard = some (j, b)) (hj : ops[j]? = some oj) (hjd : oj.dst = some g) (hb : b ≠ b') :
    OpL F n P X ops o ⟨[(g, .v (.bool b'))], []⟩ [] (fun E => E = ⟨tE o.dst (.v undef), []⟩) := by
  intro i hi hdd Q U S a w hd' hk hR
  have hn := fun k => hdd i o k hi
  have hgn := hdd j oj g hj hjd
  obtain ⟨N, bs, FP, hR⟩ := hR
  have h1 := hR.ts g
  rw [hd'.t (g, .v (.bool b')) (by simp)] at h1
  have h2 : a.tmps[g]? = some (.bool b') := by
    have hlt : g < a.tmps.size := by rw [hR.sz]; exact hgn
    have e : a.tmps.getD g undef = .bool b' := h1.val
    rw [Array.getElem?_eq_getElem hlt]
    simpa [hlt] using e
  have hw : Region.wanted o (yielded ops a.tmps) = false := by
    simp only [Region.wanted, hg, yielded, hj, Option.bind_some, hjd, h2]
    simpa using hb.symm
  unfold opWp
  rw [if_neg (by rw [hw]; decide)]
  exact ⟨fun f _ => hF.fn f, _, rfl, N, bs, FP, (hR.quiet hn (.v _)).weakU fun _ h => .inl h⟩
theorem guard_val {S : St} {a : Act} {w : World} {N : Nat → Prop} {bs : Bs} {FP : Nat → Nat → Prop} {U : Nat → Prop} {j g : Nat} {oj : Oper} {b' : Bool} (hR : RelI X U S a w N bs FP) (hj : ops[j]? = some oj) (hjd : oj.dst = some g) (hgn : g < X.nt) (h : S.tm g = .v (.bool b')) :
    yielded ops a.tmps j = some b' := by
  have h1 := hR.ts g
  rw [h] at h1
  have h2 : a.tmps[g]? = some (.bool b') := by
    have hlt : g < a.tmps.size := by rw [hR.sz]; exact hgn
    have e : a.tmps.getD g undef = .bool b' := h1.val
    rw [Array.getElem?_eq_getElem hlt]
    simpa [hlt] using e
  simp [yielded, hj, hjd, h2]
/-- An operation that is wanted: as one without a guard. -/
theorem OpL.wanted {j g : Nat} {oj : Oper} {b : Bool} {dst : Option Nat} {op : Op} {ty : TypeId} {pos : String} {af : Array Edge} (hj : ops[j]? = some oj) (hjd : oj.dst = some g) {d : Nd} {ks : List Nat} {post : Eff → Prop}
    (h : ∀ ops', OpL F n P X ops' ⟨dst, op, ty, pos, af, none⟩ d ks post) : OpL F n P X ops ⟨dst, op, ty, pos, af, some (j, b)⟩ ⟨(g, .v (.bool b)) :: d.t, d.r⟩ ks post := by
  intro i hi hdd Q U S a w hd' hk hR
  have h0 := h #[⟨dst, op, ty, pos, af, none⟩] 0 rfl (fun i' o k ho hk => by
    have e : o = ⟨dst, op, ty, pos, af, none⟩ := by
      cases i' with
      | zero => simpa using ho.symm
      | succ i' => simp at ho
    subst e
    exact hdd i _ k hi hk) Q U S a w ⟨fun p hp => hd'.t p (by simp [hp]), hd'.r⟩ hk hR
  obtain ⟨N, bs, FP, hR⟩ := hR
  have hy := guard_val hR hj hjd (hdd j oj g hj hjd) (hd'.t (g, .v (.bool b)) (by simp))
  have hw : Region.wanted ⟨dst, op, ty, pos, af, some (j, b)⟩ (yielded ops a.tmps) = true := by
    simp [Region.wanted, hy]
  unfold opWp at h0 ⊢
  rw [if_pos (wanted_none rfl)] at h0
  rw [if_pos hw]
  exact h0
end
/-- Keys that are used. -/
def Us (nx : Nat) : Nat → Prop := fun r => r < nx * 64
/-- A state that says less. -/
def St.le (X : Cx) (S S' : St) : Prop := ∀ a w, Rel X (Us S.nx) S a w → Rel X (Us S'.nx) S' a w
/-- A region's operations one by one; ahead of each a state may say less, or the same in other words. -/
def DvT (F : Fence) (n : Nat) (P : Program) (X : Cx) (ops : Array Oper) : List Oper → List (Nat × CT) → List (Nat × Option Root) → Nat → (St → Prop) → Prop
  | [], t, r, nx, K => K ⟨t, r, nx⟩
  | o :: os, t, r, nx, K => ∃ t' r' nx', St.le X ⟨t, r, nx⟩ ⟨t', r', nx'⟩ ∧ ∃ d ks post, OpL F n P X ops o d ks post ∧ d.ok ⟨t', r', nx'⟩ ∧ (∀ k ∈ ks, nx' * 64 ≤ k ∧ k < nx' * 64 + 64) ∧ ∀ E, post E → DvT F n P X ops os (E.t ++ t') (E.r ++ r') (nx' + 1) K
/-- Code, from a state on. -/
def W (F : Fence) (n : Nat) (P : Program) (X : Cx) (c : Code) (S : St) (Q : Exit → St → Prop) : Prop :=
  ∀ a w, Rel X (Us S.nx) S a w → c.wpIn F n P (fun x a' w' => ∃ S', Rel X (Us S'.nx) S' a' w' ∧ Q x S') a w
def QThen (K : St → Prop) (Q : Exit → St → Prop) : Exit → St → Prop
  | .normal, S => K S
  | e, S => Q e S
def QIn (id : Nat) (Q : Exit → St → Prop) : Exit → St → Prop
  | .exit id', S => if id' = id then Q .normal S else Q (.exit id') S
  | e, S => Q e S
section
variable {F : Fence} {n : Nat} {P : Program} {X : Cx} {Q Q' : Exit → St → Prop} {S : St}
theorem W.mono {c : Code} (h : W F n P X c S Q) (hq : ∀ x S, Q x S → Q' x S) : W F n P X c S Q' :=
  fun a w hR => wpIn_mono (h a w hR) fun _ _ _ ⟨S', h1, h2⟩ => ⟨S', h1, hq _ _ h2⟩
theorem w_skip (h : Q .normal S) : W F n P X .skip S Q := fun _ _ hR => wpIn_skip ⟨S, hR, h⟩
theorem w_label {l : Nat} (h : Q .normal S) : W F n P X (.label l) S Q := fun _ _ hR => wpIn_label ⟨S, hR, h⟩
theorem w_exit {id : Nat} (h : Q (.exit id) S) : W F n P X (.exit id) S Q := fun _ _ hR => wpIn_exit ⟨S, hR, h⟩
theorem w_ret (h : Q .ret S) : W F n P X .ret S Q := fun _ _ hR => wpIn_ret ⟨S, hR, h⟩
theorem w_seq {x y : Code} (h : W F n P X x S (QThen (fun S' => W F n P X y S' Q) Q)) : W F n P X (.seq x y) S Q :=
  fun a w hR => wpIn_seq (wpIn_mono (h a w hR) fun e a' w' ⟨S', h1, h2⟩ => by
    cases e with
    | normal => exact h2 a' w' h1
    | _ => exact ⟨S', h1, h2⟩)
theorem w_block {id : Nat} {c : Code} (h : W F n P X c S (QIn id Q)) : W F n P X (.block id c) S Q :=
  fun a w hR => wpIn_block (wpIn_mono (h a w hR) fun e a' w' ⟨S', h1, h2⟩ => by
    cases e with
    | exit id' =>
      simp only [QIn] at h2
      simp only [Exit.inBlock]
      split
      · rename_i hi; rw [if_pos hi] at h2; exact ⟨S', h1, h2⟩
      · rename_i hi; rw [if_neg hi] at h2; exact ⟨S', h1, h2⟩
    | _ => exact ⟨S', h1, h2⟩)
theorem w_cond {c : Operand} {x y : Code} {b : Bool} (hc : S.ev c = .v (.bool b)) (ht : b = true → W F n P X x S Q) (hf : b = false → W F n P X y S Q) : W F n P X (.cond c x y) S Q :=
  fun a w hR => by
    obtain ⟨N, bs, FP, hI⟩ := hR
    have he : a.eval c = .bool b := by have := hI.ev c; rw [hc] at this; exact this.val
    exact wpIn_cond_split he (fun h => ht h a w ⟨N, bs, FP, hI⟩) (fun h => hf h a w ⟨N, bs, FP, hI⟩)
theorem w_true {c : Operand} {x y : Code} (hc : S.ev c = .v (.bool true)) (ht : W F n P X x S Q) : W F n P X (.cond c x y) S Q := w_cond hc (fun _ => ht) (fun h => by cases h)
theorem w_false {c : Operand} {x y : Code} (hc : S.ev c = .v (.bool false)) (ht : W F n P X y S Q) : W F n P X (.cond c x y) S Q := w_cond hc (fun h => by cases h) (fun _ => ht)
theorem W.le {c : Code} {S' : St} (hle : St.le X S S') (h : W F n P X c S' Q) : W F n P X c S Q := fun a w hR => h a w (hle a w hR)
theorem w_loop {σ : Type} {c : Code} (I : σ → St) (Inv : σ → Prop) (μ : σ → Nat) (s0 : σ) (h0 : Inv s0) (hle : St.le X S (I s0))
    (round : ∀ s, Inv s → W F n P X c (I s) (QThen (fun S' => ∃ s', Inv s' ∧ μ s' < μ s ∧ St.le X S' (I s')) Q)) : W F n P X (.loop c) S Q := by
  intro a w hR b k cs hro hb hr
  have key : ∀ j s a w, μ s = j → Inv s → Rel X (Us (I s).nx) (I s) a w →
      ∃ e a' w', (∃ S', Rel X (Us S'.nx) S' a' w' ∧ Q e S') ∧ ArrivesIn (Machine.fenced P F) P (lone (b.atR a (.code c :: .inLoop c :: k)) cs w) b k cs e a' w' := by
    intro j
    induction j using Nat.strongRecOn with
    | _ j ih =>
      intro s a w hn hI hR
      obtain ⟨e, a₁, w₁, ⟨S', hR', hq⟩, harr⟩ := round s hI a w hR b (.inLoop c :: k) cs hro hb hr
      cases e with
      | normal =>
        obtain ⟨s', hI', hlt, hle'⟩ := hq
        obtain ⟨e₂, a₂, w₂, hq₂, harr₂⟩ := ih (μ s') (hn ▸ hlt) s' a₁ w₁ rfl hI' (hle' _ _ hR')
        exact ⟨e₂, a₂, w₂, hq₂, .of_steps (StepsIn.trans harr (.one (fenced_calm hb hr rfl) stepR_inLoop)) harr₂⟩
      | exit id => exact ⟨_, a₁, w₁, ⟨S', hR', hq⟩, .pass (x := .inLoop c) rfl (fun _ _ => .inl (by simp)) harr⟩
      | goto l => exact ⟨_, a₁, w₁, ⟨S', hR', hq⟩, .pass (x := .inLoop c) rfl (fun _ _ => .inl (by simp)) harr⟩
      | ret => exact ⟨_, a₁, w₁, ⟨S', hR', hq⟩, .pass (x := .inLoop c) rfl (fun _ _ => .inl (by simp)) harr⟩
      | panic ch => exact ⟨_, a₁, w₁, ⟨S', hR', hq⟩, .pass (x := .inLoop c) rfl (fun _ _ => .inl (by simp)) harr⟩
      | outgrown => exact ⟨_, a₁, w₁, ⟨S', hR', hq⟩, .pass (x := .inLoop c) rfl (fun _ _ => .inl (by simp)) harr⟩
  obtain ⟨e, a', w', hq, harr⟩ := key _ s0 a w rfl h0 (hle a w hR)
  exact ⟨e, a', w', hq, .of_steps (.one (fenced_calm hb hr rfl) stepR_loop) harr⟩
theorem dvT_sound (ops : List Oper) (hdd : Dsts ops.toArray X.nt) (K : St → Prop) (Q : Exit → Act → World → Prop) (hQ : ∀ S a w, Rel X (Us S.nx) S a w → K S → Q .normal a w) : ∀ (os pre : List Oper) (t : List (Nat × CT)) (r : List (Nat × Option Root)) (nx : Nat) (a : Act) (w : World), ops = pre ++ os → DvT F n P X ops.toArray os t r nx K →
    Rel X (Us nx) ⟨t, r, nx⟩ a w → wpOpsIn F n P ops.toArray Q ((List.range os.length).map (· + pre.length)) a w
  | [], pre, t, r, nx, a, w, _, h, hR => hQ ⟨t, r, nx⟩ a w hR h
  | o :: os, pre, t0, r0, nx0, a, w, he, h, hR0 => by
    obtain ⟨t, r, nx, hle, d, ks, post, h1, h2, h3, h4⟩ := h
    have hR : Rel X (Us nx) ⟨t, r, nx⟩ a w := hle a w hR0
    have hi : ops.toArray[0 + pre.length]? = some o := by rw [he]; simp
    rw [List.length_cons, List.range_succ_eq_map, List.map_cons, wpOpsIn_cons]
    unfold wpOpIn
    simp only [hi]
    refine opWp_mono ?_ (h1 _ hi hdd Q (Us nx) ⟨t, r, nx⟩ a w h2 (fun k hk hu => by have := (h3 k hk).1; have : k < nx * 64 := hu; omega) hR)
    rintro a' w' ⟨E, hE, hR'⟩
    have := dvT_sound ops hdd K Q hQ os (pre ++ [o]) _ _ _ a' w' (by rw [he]; simp) (h4 E hE) (by
      obtain ⟨N, bs, FP, hI⟩ := hR'
      exact ⟨N, bs, FP, RelI.weakU (U' := Us (nx + 1)) (hI.nx rfl rfl) (fun q hq => by
        rcases hq with hu | hu
        · have hu' : q < nx * 64 := hu
          show q < (nx + 1) * 64
          omega
        · have := (h3 q hu).2
          show q < (nx + 1) * 64
          omega)⟩)
    rw [show ((List.range os.length).map Nat.succ).map (· + pre.length) = (List.range os.length).map (· + (pre ++ [o]).length) by
      rw [List.map_map]; exact List.map_congr_left fun x _ => by simp; omega]
    exact this
def dstsB (ops : List Oper) (nt : Nat) : Bool := ops.all fun o => match o.dst with | some d => Nat.blt d nt | none => true
theorem dsts_of {ops : List Oper} {nt : Nat} (h : dstsB ops nt = true) : Dsts ops.toArray nt := fun i o k hi hk => by
  have hm : o ∈ ops := List.mem_of_getElem? (i := i) (by simpa using hi)
  have := List.all_eq_true.1 h o hm
  rw [hk] at this
  simpa [Nat.blt_eq] using this
theorem w_region {id : Nat} {ops : List Oper} {t : List (Nat × CT)} {r : List (Nat × Option Root)} {nx : Nat} (hd : dstsB ops X.nt = true) (h : DvT F n P X ops.toArray ops t r nx (Q .normal)) : W F n P X (.region id ops.toArray false) ⟨t, r, nx⟩ Q :=
  fun a w hR => wpIn_region (by
    have h0 : ∀ S a w, Rel X (Us S.nx) S a w → Q .normal S → ∃ S', Rel X (Us S'.nx) S' a w ∧ Q .normal S' := fun S a w h1 h2 => ⟨S, h1, h2⟩
    have f1 := @dvT_sound F n P X ops (dsts_of hd) (Q .normal)
    have f2 := f1 (fun x a' w' => ∃ S', Rel X (Us S'.nx) S' a' w' ∧ Q x S')
    have f3 := f2 h0
    have this := f3 ops [] t r nx a w rfl h hR
    have e : (List.range ops.length).map (· + ([] : List Oper).length) = List.range ops.toArray.size := by simp
    rw [e] at this
    exact this)
end
end Go.Proofs.YtpeafglbhjjbhaaDoor

