/- Deep words, twelfth part: calls and contracts. -/
import Derived.Test.YtpeafglbhjjbhaaDoorDK
namespace Go.Proofs.YtpeafglbhjjbhaaDoor
open Go Go.RowKit

abbrev NoR : Bs := fun _ => none
/-- A part of what a call tells. -/
inductive HC (w : World) (N : Nat → Prop) : (Nat → Prop) → CT → Value → Prop
  | cell {P : Nat → Prop} {c : CT} {u : Value} (h : HV w N NoR P c u) : HC w N P c u
  | op {P : Nat → Prop} {e sz g off cap : Nat} {es : List CT} (h : HV w N NoR P (.sl e sz [es]) (.slice (some ⟨g, off, none⟩) 1 cap)) : HC w N P (.op e sz es) (.pointer (some ⟨g, off, none⟩))
inductive HA (w : World) (N : Nat → Prop) : (Nat → Prop) → CT → Value → Prop
  | one {P : Nat → Prop} {c : CT} {u : Value} (h : HC w N P c u) : HA w N P c u
  | ag {P : Nat → Prop} {l : List CT} (us : Array Value) (Q : Nat → Nat → Prop) (hs : us.size = l.length) (hQ : ∀ j q, Q j q → P q) (hd : ∀ i j q, Q i q → Q j q → i = j) (hr : ∀ j c, l[j]? = some c → HC w N (Q j) c (us.getD j undef)) : HA w N P (.ag l) (.agg us)
/-- What a call tells. -/
inductive HR (w : World) (N : Nat → Prop) : (Nat → Prop) → CT → Value → Prop
  | one {P : Nat → Prop} {c : CT} {u : Value} (h : HA w N P c u) : HR w N P c u
  | tu {P : Nat → Prop} {l : List CT} (us : Array Value) (Q : Nat → Nat → Prop) (hs : us.size = l.length) (hQ : ∀ j q, Q j q → P q) (hd : ∀ i j q, Q i q → Q j q → i = j) (hr : ∀ j c, l[j]? = some c → HA w N (Q j) c (us.getD j undef)) : HR w N P (.tu l) (.tuple us)
/-- A contract: of closed arguments comes what meets post, in new blocks, or read ones. -/
def AC (P : Program) (G : List (Nat × List CT)) (f : FuncId) (cs : List CT) (post : CT → Prop) : Prop :=
  ∀ (w : World) (N : Nat → Prop) (vs : Array Value), (∀ k, N k → k < w.heap.size) → vs.size = cs.length → (∀ j c, cs[j]? = some c → RD w N c (vs.getD j undef)) → (∀ p ∈ G, RD w N (.rp p.2 0) (.pointer (some ⟨p.1, 0, none⟩))) →
    Calls P f vs w fun e w' => ∃ u c N' Pr, e = .returned u ∧ post c ∧ Below w.heap.size w w' ∧ (∀ k, N k → N' k) ∧ (∀ k, N' k → k < w'.heap.size ∧ (N k ∨ w.heap.size ≤ k)) ∧ (∀ k, Pr k → w.heap.size ≤ k ∧ k < w'.heap.size ∧ ¬ N' k) ∧ HR w' N' Pr c u
theorem AC.mono {P : Program} {G : List (Nat × List CT)} {f : FuncId} {cs : List CT} {post post' : CT → Prop} (h : AC P G f cs post) (hp : ∀ c, post c → post' c) : AC P G f cs post' := fun w N vs h1 h2 h3 h4 => (h w N vs h1 h2 h3 h4).mono fun e w' ⟨u, c, N', Pr, g1, g2, g3⟩ => ⟨u, c, N', Pr, g1, hp c g2, g3⟩
/-! ### what is told becomes a part of a state -/
def rA1 (k : Nat) : CT → CT
  | .sl _ sz els => .rf k 0 els.length sz
  | .op _ sz _ => .ad k sz 0 0
  | c => c
def rR1 (k : Nat) : CT → List (Nat × Option Root)
  | .sl e sz els => [(k, some ⟨e, sz, els⟩)]
  | .op e sz es => [(k, some ⟨e, sz, [es]⟩)]
  | _ => []
def rA (k : Nat) : List CT → List CT
  | [] => []
  | c :: l => rA1 k c :: rA (k + 1) l
def rR (k : Nat) : List CT → List (Nat × Option Root)
  | [] => []
  | c :: l => rR1 k c ++ rR (k + 1) l
def rA2 (k : Nat) : CT → CT
  | .ag l => .ag (rA k l)
  | c => rA1 k c
def rR2 (k : Nat) : CT → List (Nat × Option Root)
  | .ag l => rR k l
  | c => rR1 k c
def rT (k : Nat) : List CT → List CT
  | [] => []
  | c :: l => rA2 k c :: rT (k + 8) l
def rRT (k : Nat) : List CT → List (Nat × Option Root)
  | [] => []
  | c :: l => rR2 k c ++ rRT (k + 8) l
def rC (k : Nat) : CT → CT
  | .tu l => .tu (rT k l)
  | c => rA2 k c
def rRC (k : Nat) : CT → List (Nat × Option Root)
  | .tu l => rRT k l
  | c => rR2 k c
def len8 : CT → Bool
  | .ag l => Nat.ble l.length 8
  | _ => true
/-- Not too many parts. -/
def rOk : CT → Bool
  | .tu l => Nat.ble l.length 8 && l.all len8
  | c => len8 c
/-- Nothing of somebody else's, no marks. -/
def Bare (S : St) (a : Act) : Prop := a.defers = [] ∧ ∀ f, S.tm FS ≠ .fo f
theorem bare_of (t : List (Nat × CT)) (r : List (Nat × Option Root)) (nx : Nat) (a : Act) : Bare ⟨(FS, .un) :: t, r, nx⟩ { a with defers := [] } := ⟨rfl, fun f h => by
  have : St.tm ⟨(FS, .un) :: t, r, nx⟩ FS = .un := lk_same _ _ _ _
  rw [this] at h
  cases h⟩
/-- That is set aside. -/
theorem RelI.bare {X : Cx} {U : Nat → Prop} {t : List (Nat × CT)} {r : List (Nat × Option Root)} {nx : Nat} {a : Act} {w : World} {N : Nat → Prop} {bs : Bs} {FP : Nat → Nat → Prop} (h : RelI X U ⟨t, r, nx⟩ a w N bs FP) : RelI X U ⟨(FS, .un) :: t, r, nx⟩ { a with defers := [] } w N bs FP :=
  { h with
    df := Marks.nil _ _
    fo := fun f hf => absurd hf ((bare_of t r nx a).2 f)
    ts := fun t' => by
      show HV w N bs NoB (lk .un ((FS, .un) :: t) t') _
      by_cases e : FS = t'
      · subst e; rw [lk_same]; exact .un _
      · rw [lk_ne _ _ _ e]; exact h.ts t' }
/-- And taken up again. -/
theorem RelI.unbare {X : Cx} {U : Nat → Prop} {t : List (Nat × CT)} {r r' : List (Nat × Option Root)} {nx nx' : Nat} {a : Act} {w : World} {N : Nat → Prop} {bs : Bs} {FP : Nat → Nat → Prop} (h : RelI X U ⟨(FS, .un) :: t, r, nx⟩ { a with defers := [] } w N bs FP)
    (ts : ∀ f, St.tm ⟨t, r', nx'⟩ FS = .fo f → a.defers = [] ∧ ∃ F, f.Φ w F N ∧ (f.B ≤ w.heap.size ∧ ∀ r k, FP r k → f.B ≤ k) ∧ ∀ k, F k → k < w.heap.size ∧ ¬ N k ∧ (X.w0.heap.size ≤ k ∨ X.M k) ∧ ∀ r, ¬ FP r k) (df : Marks (fun q => q < w.heap.size ∧ ¬ N q ∧ X.w0.heap.size ≤ q ∧ ∀ r, ¬ FP r q) w a.defers)
    (hfs : HV w N bs NoB (lk .un t FS) (a.tmps.getD FS undef)) : RelI X U ⟨t, r, nx⟩ a w N bs FP :=
  { h with
    df := df
    fo := ts
    ts := fun t' => by
      by_cases e : FS = t'
      · subst e; exact hfs
      · have := h.ts t'
        rw [show St.tm ⟨(FS, .un) :: t, r, nx⟩ t' = lk .un t t' from lk_ne _ _ _ e] at this
        exact this }
section
variable {X : Cx} {U : Nat → Prop} {S : St} {a : Act} {w : World} {N : Nat → Prop} {bs : Bs} {FP : Nat → Nat → Prop}
theorem RelI.add (h : RelI X U S a w N bs FP) (hB : Bare S a) {key : Nat} (hk : ¬ U key) {Pk : Nat → Prop} {R : Root} {b : Option (Nat × Nat × Nat)} (hP : ∀ q, Pk q → q < w.heap.size ∧ ¬ N q ∧ (X.w0.heap.size ≤ q ∨ X.M q) ∧ ∀ r, ¬ FP r q) (hv : HV w N bs Pk (.sl R.e R.sz R.els) (hdr b R.els.length)) :
    RelI X (fun r => U r ∨ r = key) ⟨S.t, (key, some R) :: S.r, S.nx⟩ a w N (upd bs key (some b)) (upd FP key Pk) ∧ ∀ r x, bs r = some x → upd bs key (some b) r = some x := by
  have hbk : bs key = none := by
    cases hb : bs key with
    | none => rfl
    | some x => exact absurd (h.u key (by rw [hb]; simp)) hk
  have hbs : ∀ r x, bs r = some x → upd bs key (some b) r = some x := fun r x hx => by
    by_cases e : r = key
    · subst e; rw [hbk] at hx; cases hx
    · rw [upd_ne _ _ e]; exact hx
  refine ⟨{
    blk := h.blk
    size := h.size
    os := h.os
    tape := h.tape
    output := h.output
    n1 := h.n1
    n0 := h.n0
    n2 := h.n2
    sz := h.sz
    pk := fun p hp => hbs _ _ (h.pk p hp)
    nl := h.nl
    df := by rw [hB.1]; exact Marks.nil _ _
    fo := fun f hf => absurd hf (hB.2 f)
    gl := h.gl
    ts := fun t => (h.ts t).refs hbs
    u := ?gu
    f1 := ?g1
    f2 := ?g2
    rs := ?g3 }, hbs⟩
  case gu =>
    intro r hr
    by_cases e : r = key
    · exact .inr e
    · rw [upd_ne _ _ e] at hr; exact .inl (h.u r hr)
  case g1 =>
    intro r q hq
    by_cases e : r = key
    · rw [e, upd_same] at hq
      obtain ⟨g1, g2, g3, g4⟩ := hP q hq
      exact ⟨g1, g2, g3⟩
    · rw [upd_ne _ _ e] at hq; exact h.f1 r q hq
  case g2 =>
    intro r r' q hq hq'
    by_cases e : r = key <;> by_cases e' : r' = key
    · rw [e, e']
    · rw [e, upd_same] at hq; rw [upd_ne _ _ e'] at hq'; exact absurd hq' ((hP q hq).2.2.2 r')
    · rw [e', upd_same] at hq'; rw [upd_ne _ _ e] at hq; exact absurd hq ((hP q hq').2.2.2 r)
    · rw [upd_ne _ _ e] at hq; rw [upd_ne _ _ e'] at hq'; exact h.f2 r r' q hq hq'
  case g3 =>
    intro r R' hR
    have hR' : (if key = r then some R else S.rt r) = some R' := hR
    by_cases e : key = r
    · rw [if_pos e] at hR'
      cases hR'
      subst e
      refine ⟨b, upd_same _ _ _, ?_⟩
      rw [upd_same]
      exact hv.refs hbs
    · rw [if_neg e] at hR'
      obtain ⟨x, hx, hv⟩ := h.rs r R' hR'
      rw [upd_ne FP _ (Ne.symm e)]
      exact ⟨x, hbs r x hx, hv.refs hbs⟩
/-- A part is told: a value and perhaps a root. -/
theorem RelI.add1B (h : RelI X U S a w N bs FP) (hB : Bare S a) {key : Nat} (hk : ¬ U key) {Pk : Nat → Prop} {c : CT} {u : Value} (hP : ∀ q, Pk q → q < w.heap.size ∧ ¬ N q ∧ (X.w0.heap.size ≤ q ∨ X.M q) ∧ ∀ r, ¬ FP r q) (hv : HV w N bs Pk c u) :
    ∃ bs' FP', RelI X (fun r => U r ∨ r = key) ⟨S.t, rR1 key c ++ S.r, S.nx⟩ a w N bs' FP' ∧ (∀ r x, bs r = some x → bs' r = some x) ∧ HV w N bs' NoB (rA1 key c) u ∧ ∀ r q, FP' r q → FP r q ∨ Pk q := by
  have hfp : ∀ r q, upd FP key Pk r q → FP r q ∨ Pk q := fun r q hq => by
    by_cases e : r = key
    · rw [e, upd_same] at hq; exact .inr hq
    · rw [upd_ne _ _ e] at hq; exact .inl hq
  have keep : ∀ {c : CT}, rR1 key c = [] → rA1 key c = c → HV w N bs Pk c u → c.cp = true → ∃ bs' FP', RelI X (fun r => U r ∨ r = key) ⟨S.t, rR1 key c ++ S.r, S.nx⟩ a w N bs' FP' ∧ (∀ r x, bs r = some x → bs' r = some x) ∧ HV w N bs' NoB (rA1 key c) u ∧ ∀ r q, FP' r q → FP r q ∨ Pk q := fun e1 e2 hv hcp => by
    rw [e1, e2]
    exact ⟨bs, FP, h.weakU fun _ h => .inl h, fun _ _ h => h, hv.cp hcp, fun _ _ h => .inl h⟩
  cases hv with
  | nil =>
    rename_i e sz
    obtain ⟨h1, h2⟩ := h.add hB (R := ⟨e, sz, []⟩) (b := none) hk hP .nil
    exact ⟨_, _, h1, h2, .rfNil (upd_same bs key _), hfp⟩
  | own g off n cap cur us Q hn hg hh hs hcc hm hz hQ hd hw h1 hr =>
    rename_i e sz els
    subst hn
    obtain ⟨h1', h2⟩ := h.add hB (R := ⟨e, sz, els⟩) (b := some (g, off, cap)) hk hP (.own g off els.length cap cur us Q rfl hg hh hs hcc hm hz hQ hd hw h1 hr)
    refine ⟨_, _, h1', h2, ?_, hfp⟩
    have := HV.rf (w := w) (N := N) (P := NoB) (r := key) (lo := 0) (n := els.length) (sz := sz) (some ⟨g, off, none⟩) g off cap (upd_same bs key _) (by omega) hm (fun _ => by simp)
    simpa [rA1] using this
  | v x => exact keep rfl rfl (.v _) rfl
  | un u => exact keep rfl rfl (.un _) rfl
  | fo f u => exact keep rfl rfl (.fo _ _) rfl
  | ro h => exact keep rfl rfl (.ro h) rfl
  | rf A g off cap hb hn hm hA => exact keep rfl rfl (.rf A g off cap hb hn hm hA) rfl
  | rfNil hb => exact keep rfl rfl (.rfNil hb) rfl
  | ad g off cap hb => exact keep rfl rfl (.ad g off cap hb) rfl
  | ag us hl hr => exact keep rfl rfl (.ag us hl hr) rfl
  | tu us hl hr => exact keep rfl rfl (.tu us hl hr) rfl
  | fn us vs hl hl' hr hr' => exact keep rfl rfl (.fn us vs hl hl' hr hr') rfl
  | gd h => exact keep rfl rfl (.gd h) rfl
/-- A part is told: a value and perhaps a root. -/
theorem RelI.add1 (h : RelI X U S a w N bs FP) (hB : Bare S a) {key : Nat} (hk : ¬ U key) {Pk : Nat → Prop} {c : CT} {u : Value} (hP : ∀ q, Pk q → q < w.heap.size ∧ ¬ N q ∧ (X.w0.heap.size ≤ q ∨ X.M q) ∧ ∀ r, ¬ FP r q) (hc : HC w N Pk c u) :
    ∃ bs' FP', RelI X (fun r => U r ∨ r = key) ⟨S.t, rR1 key c ++ S.r, S.nx⟩ a w N bs' FP' ∧ (∀ r x, bs r = some x → bs' r = some x) ∧ HV w N bs' NoB (rA1 key c) u ∧ ∀ r q, FP' r q → FP r q ∨ Pk q := by
  cases hc with
  | op hv =>
    rename_i e sz g off cap es
    obtain ⟨h1, h2⟩ := h.add hB (R := ⟨e, sz, [es]⟩) (b := some (g, off, cap)) hk hP (by have := hv.refs (bs' := bs) (fun _ _ h => by cases h); simpa [hdr] using this)
    refine ⟨_, _, h1, h2, ?_, fun r q hq => ?_⟩
    · have := HV.ad (w := w) (N := N) (P := NoB) (r := key) (sz := sz) (i := 0) (o := 0) g off cap (upd_same bs key _)
      simpa [rA1] using this
    · by_cases e : r = key
      · rw [e, upd_same] at hq; exact .inr hq
      · rw [upd_ne _ _ e] at hq; exact .inl hq
  | cell hv => exact h.add1B hB hk hP (hv.refs (fun _ _ h => by cases h))
theorem RelI.addL (a : Act) (w : World) (N : Nat → Prop) (X : Cx) : ∀ (l : List CT) (us : Nat → Value) (Q : Nat → Nat → Prop) (k0 : Nat) (U : Nat → Prop) (S : St) (bs : Bs) (FP : Nat → Nat → Prop), RelI X U S a w N bs FP → Bare S a → (∀ j, j < l.length → ¬ U (k0 + j)) → (∀ j c, l[j]? = some c → HC w N (Q j) c (us j)) →
    (∀ j q, Q j q → q < w.heap.size ∧ ¬ N q ∧ (X.w0.heap.size ≤ q ∨ X.M q) ∧ ∀ r, ¬ FP r q) → (∀ i j q, Q i q → Q j q → i = j) →
    ∃ bs' FP', RelI X (fun r => U r ∨ (k0 ≤ r ∧ r < k0 + l.length)) ⟨S.t, rR k0 l ++ S.r, S.nx⟩ a w N bs' FP' ∧ (∀ r x, bs r = some x → bs' r = some x) ∧ (∀ j c, (rA k0 l)[j]? = some c → HV w N bs' NoB c (us j)) ∧ ∀ r q, FP' r q → FP r q ∨ ∃ j, Q j q
  | [], us, Q, k0, U, S, bs, FP, h, _, _, _, _, _ => ⟨bs, FP, h.weakU fun _ h => .inl h, fun _ _ h => h, fun j c hj => by simp [rA] at hj, fun _ _ h => .inl h⟩
  | c :: l, us, Q, k0, U, S, bs, FP, h, hB, hk, hc, hq, hd => by
    obtain ⟨bs1, FP1, h1, h2, h3, h4⟩ := RelI.addL a w N X l (fun j => us (j + 1)) (fun j => Q (j + 1)) (k0 + 1) U S bs FP h hB (fun j hj => by have := hk (j + 1) (by simp; omega); rwa [show k0 + (j + 1) = k0 + 1 + j by omega] at this) (fun j c hj => hc (j + 1) c (by simpa using hj)) (fun j q hq' => hq (j + 1) q hq') (fun i j q h1 h2 => by have := hd (i + 1) (j + 1) q h1 h2; omega)
    obtain ⟨bs2, FP2, g1, g2, g3, g4⟩ := h1.add1 hB (key := k0) (Pk := Q 0) (c := c) (u := us 0) (fun hu => by
      rcases hu with hu | hu
      · exact hk 0 (by simp) (by simpa using hu)
      · omega) (fun q hq0 => by
      obtain ⟨e1, e2, e3, e4⟩ := hq 0 q hq0
      exact ⟨e1, e2, e3, fun r hr => by
        rcases h4 r q hr with hr | ⟨j, hj⟩
        · exact e4 r hr
        · have := hd 0 (j + 1) q hq0 hj; omega⟩) (hc 0 c rfl)
    refine ⟨bs2, FP2, ?_, fun r x hx => g2 r x (h2 r x hx), fun j c' hj => ?_, fun r q hr => ?_⟩
    · have := g1.weakU (U' := fun r => U r ∨ (k0 ≤ r ∧ r < k0 + (c :: l).length)) (fun r hr => by
        rcases hr with (hr | hr) | hr
        · exact .inl hr
        · exact .inr (by simp; omega)
        · exact .inr (by simp; omega))
      simpa [rR] using this
    · cases j with
      | zero => simp [rA] at hj; subst hj; exact g3
      | succ j => exact (h3 j c' (by simpa [rA] using hj)).refs g2
    · rcases g4 r q hr with hr | hr
      · rcases h4 r q hr with hr | ⟨j, hj⟩
        · exact .inl hr
        · exact .inr ⟨j + 1, hj⟩
      · exact .inr ⟨0, hr⟩
theorem RelI.addLB (a : Act) (w : World) (N : Nat → Prop) (X : Cx) : ∀ (l : List CT) (us : Nat → Value) (Q : Nat → Nat → Prop) (k0 : Nat) (U : Nat → Prop) (S : St) (bs : Bs) (FP : Nat → Nat → Prop), RelI X U S a w N bs FP → Bare S a → (∀ j, j < l.length → ¬ U (k0 + j)) → (∀ j c, l[j]? = some c → HV w N bs (Q j) c (us j)) →
    (∀ j q, Q j q → q < w.heap.size ∧ ¬ N q ∧ (X.w0.heap.size ≤ q ∨ X.M q) ∧ ∀ r, ¬ FP r q) → (∀ i j q, Q i q → Q j q → i = j) →
    ∃ bs' FP', RelI X (fun r => U r ∨ (k0 ≤ r ∧ r < k0 + l.length)) ⟨S.t, rR k0 l ++ S.r, S.nx⟩ a w N bs' FP' ∧ (∀ r x, bs r = some x → bs' r = some x) ∧ (∀ j c, (rA k0 l)[j]? = some c → HV w N bs' NoB c (us j)) ∧ ∀ r q, FP' r q → FP r q ∨ ∃ j, Q j q
  | [], us, Q, k0, U, S, bs, FP, h, _, _, _, _, _ => ⟨bs, FP, h.weakU fun _ h => .inl h, fun _ _ h => h, fun j c hj => by simp [rA] at hj, fun _ _ h => .inl h⟩
  | c :: l, us, Q, k0, U, S, bs, FP, h, hB, hk, hc, hq, hd => by
    obtain ⟨bs1, FP1, h1, h2, h3, h4⟩ := RelI.addLB a w N X l (fun j => us (j + 1)) (fun j => Q (j + 1)) (k0 + 1) U S bs FP h hB (fun j hj => by have := hk (j + 1) (by simp; omega); rwa [show k0 + (j + 1) = k0 + 1 + j by omega] at this) (fun j c hj => hc (j + 1) c (by simpa using hj)) (fun j q hq' => hq (j + 1) q hq') (fun i j q h1 h2 => by have := hd (i + 1) (j + 1) q h1 h2; omega)
    obtain ⟨bs2, FP2, g1, g2, g3, g4⟩ := h1.add1B hB (key := k0) (Pk := Q 0) (c := c) (u := us 0) (fun hu => by
      rcases hu with hu | hu
      · exact hk 0 (by simp) (by simpa using hu)
      · omega) (fun q hq0 => by
      obtain ⟨e1, e2, e3, e4⟩ := hq 0 q hq0
      exact ⟨e1, e2, e3, fun r hr => by
        rcases h4 r q hr with hr | ⟨j, hj⟩
        · exact e4 r hr
        · have := hd 0 (j + 1) q hq0 hj; omega⟩) ((hc 0 c rfl).refs h2)
    refine ⟨bs2, FP2, ?_, fun r x hx => g2 r x (h2 r x hx), fun j c' hj => ?_, fun r q hr => ?_⟩
    · have := g1.weakU (U' := fun r => U r ∨ (k0 ≤ r ∧ r < k0 + (c :: l).length)) (fun r hr => by
        rcases hr with (hr | hr) | hr
        · exact .inl hr
        · exact .inr (by simp; omega)
        · exact .inr (by simp; omega))
      simpa [rR] using this
    · cases j with
      | zero => simp [rA] at hj; subst hj; exact g3
      | succ j => exact (h3 j c' (by simpa [rA] using hj)).refs g2
    · rcases g4 r q hr with hr | hr
      · rcases h4 r q hr with hr | ⟨j, hj⟩
        · exact .inl hr
        · exact .inr ⟨j + 1, hj⟩
      · exact .inr ⟨0, hr⟩
/-- A component is told. -/
theorem RelI.add2 (h : RelI X U S a w N bs FP) (hB : Bare S a) {key : Nat} (hk : ∀ j, j < 8 → ¬ U (key + j)) {Pk : Nat → Prop} {c : CT} {u : Value} (h8 : len8 c = true) (hP : ∀ q, Pk q → q < w.heap.size ∧ ¬ N q ∧ (X.w0.heap.size ≤ q ∨ X.M q) ∧ ∀ r, ¬ FP r q) (hc : HA w N Pk c u) :
    ∃ bs' FP', RelI X (fun r => U r ∨ (key ≤ r ∧ r < key + 8)) ⟨S.t, rR2 key c ++ S.r, S.nx⟩ a w N bs' FP' ∧ (∀ r x, bs r = some x → bs' r = some x) ∧ HV w N bs' NoB (rA2 key c) u ∧ ∀ r q, FP' r q → FP r q ∨ Pk q := by
  cases hc with
  | ag us Q hs hQ hd hr =>
    rename_i l
    have hl8 : l.length ≤ 8 := Nat.le_of_ble_eq_true h8
    obtain ⟨bs', FP', g1, g2, g3, g4⟩ := RelI.addL a w N X l (fun j => us.getD j undef) Q key U S bs FP h hB (fun j hj => hk j (by omega)) hr (fun j q hq => hP q (hQ j q hq)) hd
    refine ⟨bs', FP', g1.weakU fun r hr => hr.imp id (fun h => ⟨h.1, by omega⟩), g2, .ag us ?_ g3, fun r q hr => (g4 r q hr).imp id fun ⟨j, hj⟩ => hQ j q hj⟩
    rw [hs]
    have : ∀ (k : Nat) (l : List CT), (rA k l).length = l.length := fun k l => by
      induction l generalizing k with
      | nil => rfl
      | cons c l ih => simp [rA, ih]
    exact (this key l).symm
  | one hc =>
    by_cases hag : ∃ l, c = .ag l
    · obtain ⟨l, rfl⟩ := hag
      -- an aggregate that owns nothing
      cases hc with
      | cell hv =>
        cases hv with
        | ag us hl hr =>
          have hl8 : l.length ≤ 8 := Nat.le_of_ble_eq_true h8
          obtain ⟨bs', FP', g1, g2, g3, g4⟩ := RelI.addL a w N X l (fun j => us.getD j undef) (fun _ _ => False) key U S bs FP h hB (fun j hj => hk j (by omega)) (fun j c hj => .cell (hr j c hj)) (fun j q hq => hq.elim) (fun _ _ _ h => h.elim)
          refine ⟨bs', FP', g1.weakU fun r hr => hr.imp id (fun h => ⟨h.1, by omega⟩), g2, .ag us ?_ g3, fun r q hr => (g4 r q hr).imp id fun ⟨j, hj⟩ => hj.elim⟩
          rw [hl]
          have : ∀ (k : Nat) (l : List CT), (rA k l).length = l.length := fun k l => by
            induction l generalizing k with
            | nil => rfl
            | cons c l ih => simp [rA, ih]
          exact (this key l).symm
    · have e1 : rR2 key c = rR1 key c := by cases c <;> first | rfl | exact absurd ⟨_, rfl⟩ hag
      have e2 : rA2 key c = rA1 key c := by cases c <;> first | rfl | exact absurd ⟨_, rfl⟩ hag
      rw [e1, e2]
      obtain ⟨bs', FP', g1, g2, g3, g4⟩ := h.add1 hB (key := key) (by have := hk 0 (by omega); simpa using this) hP hc
      exact ⟨bs', FP', g1.weakU fun r hr => hr.imp id (fun h => ⟨by omega, by omega⟩), g2, g3, g4⟩
theorem RelI.addT (a : Act) (w : World) (N : Nat → Prop) (X : Cx) : ∀ (l : List CT) (us : Nat → Value) (Q : Nat → Nat → Prop) (k0 : Nat) (U : Nat → Prop) (S : St) (bs : Bs) (FP : Nat → Nat → Prop), RelI X U S a w N bs FP → Bare S a → (∀ j, j < 8 * l.length → ¬ U (k0 + j)) → l.all len8 = true → (∀ j c, l[j]? = some c → HA w N (Q j) c (us j)) →
    (∀ j q, Q j q → q < w.heap.size ∧ ¬ N q ∧ (X.w0.heap.size ≤ q ∨ X.M q) ∧ ∀ r, ¬ FP r q) → (∀ i j q, Q i q → Q j q → i = j) →
    ∃ bs' FP', RelI X (fun r => U r ∨ (k0 ≤ r ∧ r < k0 + 8 * l.length)) ⟨S.t, rRT k0 l ++ S.r, S.nx⟩ a w N bs' FP' ∧ (∀ r x, bs r = some x → bs' r = some x) ∧ (∀ j c, (rT k0 l)[j]? = some c → HV w N bs' NoB c (us j)) ∧ ∀ r q, FP' r q → FP r q ∨ ∃ j, Q j q
  | [], us, Q, k0, U, S, bs, FP, h, _, _, _, _, _, _ => ⟨bs, FP, h.weakU fun _ h => .inl h, fun _ _ h => h, fun j c hj => by simp [rT] at hj, fun _ _ h => .inl h⟩
  | c :: l, us, Q, k0, U, S, bs, FP, h, hB, hk, h8, hc, hq, hd => by
    simp only [List.all_cons, Bool.and_eq_true] at h8
    obtain ⟨bs1, FP1, h1, h2, h3, h4⟩ := RelI.addT a w N X l (fun j => us (j + 1)) (fun j => Q (j + 1)) (k0 + 8) U S bs FP h hB (fun j hj => by have := hk (j + 8) (by simp; omega); rwa [show k0 + (j + 8) = k0 + 8 + j by omega] at this) h8.2 (fun j c hj => hc (j + 1) c (by simpa using hj)) (fun j q hq' => hq (j + 1) q hq') (fun i j q h1 h2 => by have := hd (i + 1) (j + 1) q h1 h2; omega)
    obtain ⟨bs2, FP2, g1, g2, g3, g4⟩ := h1.add2 hB (key := k0) (Pk := Q 0) (c := c) (u := us 0) (fun j hj hu => by
      rcases hu with hu | hu
      · exact hk j (by simp; omega) hu
      · omega) h8.1 (fun q hq0 => by
      obtain ⟨e1, e2, e3, e4⟩ := hq 0 q hq0
      exact ⟨e1, e2, e3, fun r hr => by
        rcases h4 r q hr with hr | ⟨j, hj⟩
        · exact e4 r hr
        · have := hd 0 (j + 1) q hq0 hj; omega⟩) (hc 0 c rfl)
    refine ⟨bs2, FP2, ?_, fun r x hx => g2 r x (h2 r x hx), fun j c' hj => ?_, fun r q hr => ?_⟩
    · have := g1.weakU (U' := fun r => U r ∨ (k0 ≤ r ∧ r < k0 + 8 * (c :: l).length)) (fun r hr => by
        rcases hr with (hr | hr) | hr
        · exact .inl hr
        · exact .inr (by simp; omega)
        · exact .inr (by simp; omega))
      simpa [rRT] using this
    · cases j with
      | zero => simp [rT] at hj; subst hj; exact g3
      | succ j => exact (h3 j c' (by simpa [rT] using hj)).refs g2
    · rcases g4 r q hr with hr | hr
      · rcases h4 r q hr with hr | ⟨j, hj⟩
        · exact .inl hr
        · exact .inr ⟨j + 1, hj⟩
      · exact .inr ⟨0, hr⟩
/-- What a call tells, all of it. -/
theorem RelI.addR (h : RelI X U S a w N bs FP) (hB : Bare S a) {key : Nat} (hk : ∀ j, j < 64 → ¬ U (key + j)) {Pk : Nat → Prop} {c : CT} {u : Value} (h8 : rOk c = true) (hP : ∀ q, Pk q → q < w.heap.size ∧ ¬ N q ∧ (X.w0.heap.size ≤ q ∨ X.M q) ∧ ∀ r, ¬ FP r q) (hc : HR w N Pk c u) :
    ∃ bs' FP', RelI X (fun r => U r ∨ (key ≤ r ∧ r < key + 64)) ⟨S.t, rRC key c ++ S.r, S.nx⟩ a w N bs' FP' ∧ (∀ r x, bs r = some x → bs' r = some x) ∧ HV w N bs' NoB (rC key c) u ∧ ∀ r q, FP' r q → FP r q ∨ Pk q := by
  have lenT : ∀ (k : Nat) (l : List CT), (rT k l).length = l.length := fun k l => by
    induction l generalizing k with
    | nil => rfl
    | cons c l ih => simp [rT, ih]
  cases hc with
  | tu us Q hs hQ hd hr =>
    rename_i l
    simp only [rOk, Bool.and_eq_true] at h8
    have hl8 : l.length ≤ 8 := Nat.le_of_ble_eq_true h8.1
    obtain ⟨bs', FP', g1, g2, g3, g4⟩ := RelI.addT a w N X l (fun j => us.getD j undef) Q key U S bs FP h hB (fun j hj => hk j (by omega)) h8.2 hr (fun j q hq => hP q (hQ j q hq)) hd
    exact ⟨bs', FP', g1.weakU fun r hr => hr.imp id (fun h => ⟨h.1, by omega⟩), g2, .tu us (by rw [hs]; exact (lenT key l).symm) g3, fun r q hr => (g4 r q hr).imp id fun ⟨j, hj⟩ => hQ j q hj⟩
  | one hc =>
    by_cases htu : ∃ l, c = .tu l
    · obtain ⟨l, rfl⟩ := htu
      simp only [rOk, Bool.and_eq_true] at h8
      have hl8 : l.length ≤ 8 := Nat.le_of_ble_eq_true h8.1
      cases hc with
      | one hc =>
        cases hc with
        | cell hv =>
          cases hv with
          | tu us hl hr =>
            obtain ⟨bs', FP', g1, g2, g3, g4⟩ := RelI.addT a w N X l (fun j => us.getD j undef) (fun _ _ => False) key U S bs FP h hB (fun j hj => hk j (by omega)) h8.2 (fun j c hj => .one (.cell (hr j c hj))) (fun j q hq => hq.elim) (fun _ _ _ h => h.elim)
            exact ⟨bs', FP', g1.weakU fun r hr => hr.imp id (fun h => ⟨h.1, by omega⟩), g2, .tu us (by rw [hl]; exact (lenT key l).symm) g3, fun r q hr => (g4 r q hr).imp id fun ⟨j, hj⟩ => hj.elim⟩
    · have e1 : rRC key c = rR2 key c := by cases c <;> first | rfl | exact absurd ⟨_, rfl⟩ htu
      have e2 : rC key c = rA2 key c := by cases c <;> first | rfl | exact absurd ⟨_, rfl⟩ htu
      have e3 : rOk c = len8 c := by cases c <;> first | rfl | exact absurd ⟨_, rfl⟩ htu
      rw [e1, e2]
      rw [e3] at h8
      obtain ⟨bs', FP', g1, g2, g3, g4⟩ := h.add2 hB (key := key) (fun j hj => hk j (by omega)) h8 hP hc
      exact ⟨bs', FP', g1.weakU fun r hr => hr.imp id (fun h => ⟨h.1, by omega⟩), g2, g3, g4⟩
end
end Go.Proofs.YtpeafglbhjjbhaaDoor

