/- Deep words, second part: states, and what a state says of a frame and a world. -/
import Derived.Test.YtpeafglbhjjbhaaDoorDA
import Derived.CallsIn
import Derived.OrdersIn
import Derived.OwnWalkIn
namespace Go.Proofs.YtpeafglbhjjbhaaDoor
open Go Go.RowKit

structure Root where
  e : Nat
  sz : Nat
  els : List (List CT)
structure St where
  t : List (Nat × CT)
  r : List (Nat × Option Root)
  nx : Nat
def lk {α : Type} (d : α) : List (Nat × α) → Nat → α
  | [], _ => d
  | (k, x) :: l, n => if k = n then x else lk d l n
def St.tm (S : St) (t : Nat) : CT := lk .un S.t t
def St.rt (S : St) (r : Nat) : Option Root := lk none S.r r
def St.ev (S : St) : Operand → CT
  | .tmp t => S.tm t
  | .const v => .v v
  | .global g => .v (.pointer (some ⟨g, 0, none⟩))
  | .func f => .v (.func (.func f) #[] #[])
structure Eff where
  t : List (Nat × CT)
  r : List (Nat × Option Root)
def St.app (S : St) (E : Eff) : St := ⟨E.t ++ S.t, E.r ++ S.r, S.nx⟩
def tE : Option Nat → CT → List (Nat × CT)
  | some d, c => [(d, c)]
  | none, _ => []
theorem lk_same {α : Type} (d : α) (k : Nat) (x : α) (l : List (Nat × α)) : lk d ((k, x) :: l) k = x := by simp [lk]
theorem lk_ne {α : Type} (d : α) {k n : Nat} (x : α) (l : List (Nat × α)) (h : k ≠ n) : lk d ((k, x) :: l) n = lk d l n := by simp [lk, h]
/-- The slot of what somebody else holds. -/
def FS : Nat := 1000000
/-- A call's surroundings: the world that it came into, the blocks that it may write, those that are read; its slots. -/
structure Cx where
  w0 : World
  M : Nat → Prop
  N0 : Nat → Prop
  nt : Nat
  G : List (Nat × List CT)
  pk : List (Nat × Option (Nat × Nat × Nat)) := []
/-- Marks of rounds over functions that are through, among the deferred calls. -/
def Marks (own : Nat → Prop) (w : World) (ds : List Deferred) : Prop := ∃ Ds : List Nat, Ds.Nodup ∧ ds = Ds.map (fun D => ⟨.collected D, #[]⟩) ∧ ∀ D ∈ Ds, own D ∧ w.heap[D]? = some (.deferred (some []))
theorem Marks.nil (own : Nat → Prop) (w : World) : Marks own w [] := ⟨[], List.nodup_nil, rfl, fun _ h => nomatch h⟩
theorem Marks.mono {own own' : Nat → Prop} {w w' : World} {ds : List Deferred} (h : Marks own w ds) (ho : ∀ D, own D → w.heap[D]? = some (.deferred (some [])) → own' D ∧ w'.heap[D]? = w.heap[D]?) : Marks own' w' ds := by
  obtain ⟨Ds, h1, h2, h3⟩ := h
  exact ⟨Ds, h1, h2, fun D hD => ⟨(ho D (h3 D hD).1 (h3 D hD).2).1, (ho D (h3 D hD).1 (h3 D hD).2).2.trans (h3 D hD).2⟩⟩
def hdr : Option (Nat × Nat × Nat) → Nat → Value
  | none, _ => .slice none 0 0
  | some (g, off, cap), n => .slice (some ⟨g, off, none⟩) n cap
structure RelI (X : Cx) (U : Nat → Prop) (S : St) (a : Act) (w : World) (N : Nat → Prop) (bs : Bs) (FP : Nat → Nat → Prop) : Prop where
  blk : ∀ k, k < X.w0.heap.size → ¬ X.M k → w.heap[k]? = X.w0.heap[k]?
  size : X.w0.heap.size ≤ w.heap.size
  os : w.os = X.w0.os
  tape : w.tape = X.w0.tape
  output : w.output = X.w0.output
  n1 : ∀ k, N k → k < w.heap.size
  n0 : ∀ k, X.N0 k → N k
  n2 : ∀ k, N k → X.N0 k ∨ X.w0.heap.size ≤ k ∨ X.M k
  f1 : ∀ r k, FP r k → k < w.heap.size ∧ ¬ N k ∧ (X.w0.heap.size ≤ k ∨ X.M k)
  f2 : ∀ r r' k, FP r k → FP r' k → r = r'
  u : ∀ r, bs r ≠ none → U r
  sz : a.tmps.size = X.nt
  pk : ∀ p ∈ X.pk, bs p.1 = some p.2
  nl : X.nt ≤ FS
  df : Marks (fun q => q < w.heap.size ∧ ¬ N q ∧ X.w0.heap.size ≤ q ∧ ∀ r, ¬ FP r q) w a.defers
  fo : ∀ f, S.tm FS = .fo f → a.defers = [] ∧ ∃ F, f.Φ w F N ∧ (f.B ≤ w.heap.size ∧ ∀ r k, FP r k → f.B ≤ k) ∧ ∀ k, F k → k < w.heap.size ∧ ¬ N k ∧ (X.w0.heap.size ≤ k ∨ X.M k) ∧ ∀ r, ¬ FP r k
  gl : ∀ p ∈ X.G, RD w N (.rp p.2 0) (.pointer (some ⟨p.1, 0, none⟩))
  ts : ∀ t, HV w N bs NoB (S.tm t) (a.tmps.getD t undef)
  rs : ∀ r R, S.rt r = some R → ∃ x, bs r = some x ∧ HV w N bs (FP r) (.sl R.e R.sz R.els) (hdr x R.els.length)
def Rel (X : Cx) (U : Nat → Prop) (S : St) (a : Act) (w : World) : Prop := ∃ N bs FP, RelI X U S a w N bs FP

/-- Of the blocks that are there only those of D may have changed. -/
structure Chd (D : Nat → Prop) (w w' : World) : Prop where
  size : w.heap.size ≤ w'.heap.size
  os : w'.os = w.os
  tape : w'.tape = w.tape
  output : w'.output = w.output
  blk : ∀ k, k < w.heap.size → ¬ D k → w'.heap[k]? = w.heap[k]?
theorem Chd.refl (D : Nat → Prop) (w : World) : Chd D w w := ⟨Nat.le_refl _, rfl, rfl, rfl, fun _ _ _ => rfl⟩
theorem Chd.alloc (D : Nat → Prop) (w : World) (o : Obj) : Chd D w (w.alloc o) := ⟨by simp, rfl, rfl, rfl, fun k hk _ => Below.heap_alloc w o k hk⟩
theorem Chd.of_below {D : Nat → Prop} {w w' : World} (h : Below w.heap.size w w') : Chd D w w' := ⟨h.size, h.os, h.tape, h.output, fun k hk _ => h.block k hk⟩
theorem Chd.trans {D : Nat → Prop} {a b c : World} (h : Chd D a b) (k : Chd D b c) : Chd D a c :=
  ⟨Nat.le_trans h.size k.size, k.os.trans h.os, k.tape.trans h.tape, k.output.trans h.output, fun i hi hd => (k.blk i (Nat.lt_of_lt_of_le hi h.size) hd).trans (h.blk i hi hd)⟩
theorem Chd.drew (D : Nat → Prop) (w : World) : Chd D w w.drew := ⟨Nat.le_refl _, rfl, rfl, rfl, fun _ _ _ => rfl⟩

section
variable {X : Cx} {U U' : Nat → Prop} {S S' : St} {a a' : Act} {w w' : World} {N N' : Nat → Prop} {bs bs' : Bs} {FP FP' : Nat → Nat → Prop}
theorem RelI.ev (h : RelI X U S a w N bs FP) (x : Operand) : HV w N bs NoB (S.ev x) (a.eval x) := by
  cases x with
  | tmp t => exact h.ts t
  | const v => exact .v v
  | global g => exact .v _
  | func f => exact .v _
theorem St.tm_app (S : St) (d : Option Nat) (c : CT) (t : Nat) (r : List (Nat × Option Root)) : (S.app ⟨tE d c, r⟩).tm t = if d = some t then c else S.tm t := by
  cases d with
  | none => simp [St.app, St.tm, tE]
  | some d => by_cases e : d = t <;> simp [St.app, St.tm, tE, lk, e]
theorem St.rt_app (S : St) (t : List (Nat × CT)) (k : Nat) (R : Option Root) (l : List (Nat × Option Root)) (r : Nat) : (S.app ⟨t, (k, R) :: l⟩).rt r = if k = r then R else (S.app ⟨t, l⟩).rt r := by
  by_cases e : k = r <;> simp [St.app, St.rt, lk, e]
theorem St.rt_app0 (S : St) (t : List (Nat × CT)) (r : Nat) : (S.app ⟨t, []⟩).rt r = S.rt r := rfl
theorem put_size (a : Act) (d : Option Nat) (v : Value) : (a.put d v).tmps.size = a.tmps.size := by cases d <;> simp [Act.put]
theorem put_defers (a : Act) (d : Option Nat) (v : Value) : (a.put d v).defers = a.defers := by cases d <;> rfl
theorem put_get (a : Act) (d : Option Nat) (v : Value) (t : Nat) (hd : ∀ k, d = some k → k < a.tmps.size) : (a.put d v).tmps.getD t undef = if d = some t then v else a.tmps.getD t undef := by
  cases d with
  | none => simp [Act.put]
  | some d =>
    by_cases e : d = t
    · subst e
      simp [Act.put, hd d rfl]
    · simp [Act.put, e, Array.getElem?_setIfInBounds_ne]
/-- The slots, behind an operation. -/
theorem ts_put (h : ∀ t, HV w N bs NoB (S.tm t) (a.tmps.getD t undef)) {d : Option Nat} {c : CT} {v : Value} (hd : ∀ k, d = some k → k < a.tmps.size) (hv : HV w N bs NoB c v) (r : List (Nat × Option Root)) (t : Nat) :
    HV w N bs NoB ((S.app ⟨tE d c, r⟩).tm t) ((a.put d v).tmps.getD t undef) := by
  rw [St.tm_app, put_get a d v t hd]
  split
  · exact hv
  · exact h t
theorem RelI.same_N (h : RelI X U S a w N bs FP) {D : Nat → Prop} (hc : Chd D w w') (hD : ∀ k, D k → ∃ r, FP r k) : ∀ k, N k → w'.heap[k]? = w.heap[k]? := fun k hk => hc.blk k (h.n1 k hk) fun hd => by
  obtain ⟨r, hr⟩ := hD k hd
  exact (h.f1 r k hr).2.1 hk
/-- What somebody else holds, and marks, one step on. -/
theorem RelI.fd (h : RelI X U S a w N bs FP) {D : Nat → Prop} (hc : Chd D w w') (hD : ∀ k, D k → ∃ r, FP r k) (hN : ∀ k, N k → N' k) (hN2 : ∀ k, N' k → N k ∨ w.heap.size ≤ k ∨ ∃ r, FP r k) (hFP : ∀ r q, FP' r q → (∃ r', FP r' q) ∨ w.heap.size ≤ q) :
    (∀ f, S.tm FS = .fo f → a.defers = [] ∧ ∃ F, f.Φ w' F N' ∧ (f.B ≤ w'.heap.size ∧ ∀ r k, FP' r k → f.B ≤ k) ∧ ∀ k, F k → k < w'.heap.size ∧ ¬ N' k ∧ (X.w0.heap.size ≤ k ∨ X.M k) ∧ ∀ r, ¬ FP' r k) ∧ Marks (fun q => q < w'.heap.size ∧ ¬ N' q ∧ X.w0.heap.size ≤ q ∧ ∀ r, ¬ FP' r q) w' a.defers := by
  refine ⟨fun f hf => ?_, ?_⟩
  · obtain ⟨g0, F, g1, ⟨g2, g2'⟩, g3⟩ := h.fo f hf
    refine ⟨g0, F, f.st w w' F N N' g1 hN (h.same_N hc hD) hc.size hc.os hc.tape hc.output (fun k hk => hc.blk k (g3 k hk).1 fun hd => ?_) (fun k hk => hc.blk k (Nat.lt_of_lt_of_le hk g2) fun hd => ?_), ⟨Nat.le_trans g2 hc.size, fun r k hr => (hFP r k hr).elim (fun ⟨r', h'⟩ => g2' r' k h') fun h => Nat.le_trans g2 h⟩, fun k hk => ?_⟩
    · obtain ⟨r, hr⟩ := hD k hd
      exact (g3 k hk).2.2.2 r hr
    · obtain ⟨r, hr⟩ := hD k hd
      have := g2' r k hr
      omega
    · obtain ⟨e1, e2, e3, e4⟩ := g3 k hk
      exact ⟨Nat.lt_of_lt_of_le e1 hc.size, fun hn => (hN2 k hn).elim e2 (fun h => h.elim (fun h => by omega) fun ⟨r, hr⟩ => e4 r hr), e3, fun r hr => (hFP r k hr).elim (fun ⟨r', h'⟩ => e4 r' h') (fun h => by omega)⟩
  · refine h.df.mono fun q ⟨g1, g2, g3, g4⟩ _ => ⟨⟨Nat.lt_of_lt_of_le g1 hc.size, fun hn => (hN2 q hn).elim g2 (fun h => h.elim (fun h => by omega) fun ⟨r, hr⟩ => g4 r hr), g3, fun r hr => (hFP r q hr).elim (fun ⟨r', h'⟩ => g4 r' h') (fun h => by omega)⟩, hc.blk q g1 fun hd => ?_⟩
    obtain ⟨r, hr⟩ := hD q hd
    exact g4 r hr
/-- One step on. -/
theorem RelI.nextK (h : RelI X U S a w N bs FP) {D : Nat → Prop} (hc : Chd D w w') (hD : ∀ k, D k → ∃ r, FP r k) (hN : ∀ k, N k → N' k) (hN1 : ∀ k, N' k → k < w'.heap.size) (hu : ∀ r, bs' r ≠ none → U' r)
    (f1 : ∀ r k, FP' r k → k < w'.heap.size ∧ ¬ N' k ∧ (X.w0.heap.size ≤ k ∨ X.M k)) (f2 : ∀ r r' k, FP' r k → FP' r' k → r = r') (hs : a'.tmps.size = X.nt) (hdf : a'.defers = a.defers)
    (ts : ∀ t, HV w' N' bs' NoB (S'.tm t) (a'.tmps.getD t undef)) (rs : ∀ r R, S'.rt r = some R → ∃ x, bs' r = some x ∧ HV w' N' bs' (FP' r) (.sl R.e R.sz R.els) (hdr x R.els.length))
    (hFP : ∀ r q, FP' r q → (∃ r', FP r' q) ∨ w.heap.size ≤ q) (hfs : ∀ f, S'.tm FS = .fo f → S.tm FS = .fo f) (hpk : ∀ p ∈ X.pk, bs' p.1 = some p.2) (hN2 : ∀ k, N' k → N k ∨ w.heap.size ≤ k ∨ ∃ r, FP r k := by exact fun _ h => .inl h) : RelI X U' S' a' w' N' bs' FP' where
  blk := fun k hk hM => (hc.blk k (Nat.lt_of_lt_of_le hk h.size) (fun hd => by
    obtain ⟨r, hr⟩ := hD k hd
    rcases (h.f1 r k hr).2.2 with h1 | h1
    · omega
    · exact hM h1)).trans (h.blk k hk hM)
  size := Nat.le_trans h.size hc.size
  os := hc.os.trans h.os
  tape := hc.tape.trans h.tape
  output := hc.output.trans h.output
  n1 := hN1
  n0 := fun k hk => hN k (h.n0 k hk)
  n2 := fun k hk => (hN2 k hk).elim (h.n2 k) fun hk => .inr (hk.elim (fun hk => .inl (Nat.le_trans h.size hk)) fun ⟨r, hr⟩ => (h.f1 r k hr).2.2)
  f1 := f1
  f2 := f2
  u := hu
  sz := hs
  pk := hpk
  nl := h.nl
  df := by rw [hdf]; exact (h.fd hc hD hN hN2 hFP).2
  fo := fun f hf => by rw [hdf]; exact (h.fd hc hD hN hN2 hFP).1 f (hfs f hf)
  gl := fun p hp => (h.gl p hp).mono (h.same_N hc hD) hN
  ts := ts
  rs := rs
theorem RelI.next (h : RelI X U S a w N bs FP) {D : Nat → Prop} (hc : Chd D w w') (hD : ∀ k, D k → ∃ r, FP r k) (hN : ∀ k, N k → N' k) (hN1 : ∀ k, N' k → k < w'.heap.size) (hu : ∀ r, bs' r ≠ none → U' r)
    (f1 : ∀ r k, FP' r k → k < w'.heap.size ∧ ¬ N' k ∧ (X.w0.heap.size ≤ k ∨ X.M k)) (f2 : ∀ r r' k, FP' r k → FP' r' k → r = r') (hs : a'.tmps.size = X.nt) (hdf : a'.defers = a.defers)
    (ts : ∀ t, HV w' N' bs' NoB (S'.tm t) (a'.tmps.getD t undef)) (rs : ∀ r R, S'.rt r = some R → ∃ x, bs' r = some x ∧ HV w' N' bs' (FP' r) (.sl R.e R.sz R.els) (hdr x R.els.length))
    (hFP : ∀ r q, FP' r q → (∃ r', FP r' q) ∨ w.heap.size ≤ q) (hfs : ∀ f, S'.tm FS = .fo f → S.tm FS = .fo f) (hbs : ∀ r x, bs r = some x → bs' r = some x) (hN2 : ∀ k, N' k → N k ∨ w.heap.size ≤ k ∨ ∃ r, FP r k := by exact fun _ h => .inl h) : RelI X U' S' a' w' N' bs' FP' :=
  h.nextK hc hD hN hN1 hu f1 f2 hs hdf ts rs hFP hfs (fun p hp => hbs _ _ (h.pk p hp)) hN2
/-- A fact about a slot, one step on. -/
theorem RelI.ts_next (h : RelI X U S a w N bs FP) {D : Nat → Prop} (hc : Chd D w w') (hD : ∀ k, D k → ∃ r, FP r k) (hN : ∀ k, N k → N' k) (hbs : ∀ r x, bs r = some x → bs' r = some x) {c : CT} {v : Value} (hv : HV w N bs NoB c v) : HV w' N' bs' NoB c v :=
  hv.frame (fun _ hk => hk.elim) (h.same_N hc hD) hN hbs
/-- A root that is left alone. -/
theorem RelI.rs_next (h : RelI X U S a w N bs FP) {D : Nat → Prop} (hc : Chd D w w') (hD : ∀ k, D k → ∃ r, FP r k) (hN : ∀ k, N k → N' k) (hbs : ∀ r x, bs r = some x → bs' r = some x) {r : Nat} {R : Root} (hr : S.rt r = some R) (hl : ∀ k, D k → ¬ FP r k) :
    ∃ x, bs' r = some x ∧ HV w' N' bs' (FP r) (.sl R.e R.sz R.els) (hdr x R.els.length) := by
  obtain ⟨x, hx, hv⟩ := h.rs r R hr
  exact ⟨x, hbs r x hx, hv.frame (fun k hk => hc.blk k (h.f1 r k hk).1 (fun hd => hl k hd hk)) (h.same_N hc hD) hN hbs⟩
theorem fs_app {nt : Nat} (hn : nt ≤ FS) {d : Option Nat} (hd : ∀ k, d = some k → k < nt) {c : CT} {r : List (Nat × Option Root)} (f : Fo) (h : (S.app ⟨tE d c, r⟩).tm FS = .fo f) : S.tm FS = .fo f := by
  rw [St.tm_app] at h
  split at h
  · rename_i e
    have := hd _ e
    omega
  · exact h
/-- Nothing but a slot. -/
theorem RelI.quiet (h : RelI X U S a w N bs FP) {d : Option Nat} {c : CT} {v : Value} (hd : ∀ k, d = some k → k < X.nt) (hv : HV w N bs NoB c v) : RelI X U (S.app ⟨tE d c, []⟩) (a.put d v) w N bs FP :=
  h.next (D := NoB) (Chd.refl _ _) (fun _ hk => hk.elim) (fun _ h => h) h.n1 h.u h.f1 h.f2 ((put_size a d v).trans h.sz) (put_defers a d v)
    (ts_put h.ts (fun k hk => by rw [h.sz]; exact hd k hk) hv []) h.rs (fun r _ h => .inl ⟨r, h⟩) (fs_app h.nl hd) (fun _ _ h => h)
theorem RelI.drew (h : RelI X U S a w N bs FP) : RelI X U S a w.drew N bs FP :=
  h.next (D := NoB) (Chd.drew _ _) (fun _ hk => hk.elim) (fun _ h => h) h.n1 h.u h.f1 h.f2 h.sz rfl (fun t => (h.ts t).frame (fun _ hk => hk.elim) (fun _ _ => rfl) (fun _ h => h) (fun _ _ h => h))
    (fun r R hr => by obtain ⟨x, hx, hv⟩ := h.rs r R hr; exact ⟨x, hx, hv.frame (fun _ _ => rfl) (fun _ _ => rfl) (fun _ h => h) (fun _ _ h => h)⟩) (fun r _ h => .inl ⟨r, h⟩) (fun _ h => h) (fun _ _ h => h)
theorem RelI.weakU (h : RelI X U S a w N bs FP) (hU : ∀ r, U r → U' r) : RelI X U' S a w N bs FP := { h with u := fun r hr => hU r (h.u r hr) }
end
theorem RelI.nx {X : Cx} {U : Nat → Prop} {S S' : St} {a : Act} {w : World} {N : Nat → Prop} {bs : Bs} {FP : Nat → Nat → Prop} (h : RelI X U S a w N bs FP) (ht : S'.t = S.t) (hr : S'.r = S.r) : RelI X U S' a w N bs FP :=
  { h with fo := fun f hf => h.fo f (by unfold St.tm at hf ⊢; rwa [ht] at hf), ts := fun t => by unfold St.tm; rw [ht]; exact h.ts t, rs := fun r R => by unfold St.rt; rw [hr]; exact h.rs r R }
def upd {α : Type} (f : Nat → α) (k : Nat) (x : α) : Nat → α := fun r => if r = k then x else f r
theorem upd_same {α : Type} (f : Nat → α) (k : Nat) (x : α) : upd f k x k = x := by simp [upd]
theorem upd_ne {α : Type} (f : Nat → α) {k r : Nat} (x : α) (h : r ≠ k) : upd f k x r = f r := by simp [upd, h]
/-- A new root of a block of its own. -/
theorem RelI.new {X : Cx} {U : Nat → Prop} {S : St} {a : Act} {w : World} {N : Nat → Prop} {bs : Bs} {FP : Nat → Nat → Prop} (h : RelI X U S a w N bs FP) {d : Option Nat} {c : CT} {v : Value} (hd : ∀ k, d = some k → k < X.nt) {k : Nat} (hk : ¬ U k) {e sz cap : Nat} {els : List (List CT)} {cur : Array Value}
    (hs : cur.size = cap * sz) (hc : els.length ≤ cap) (hm : cap ≤ 9223372036854775807) (hz : ∀ es ∈ els, es.length = sz) (us : Nat → Nat → Value)
    (hw : ∀ i o es c, els[i]? = some es → es[o]? = some c → cur[i * sz + o]? = some (us i o)) (h1 : ∀ i o es c, els[i]? = some es → es[o]? = some c → (us i o).oneCell' = true)
    (hr : ∀ i o es c, els[i]? = some es → es[o]? = some c → HV w N bs NoB c (us i o))
    (hv : HV (w.alloc (.cells cur e)) N (upd bs k (some (some (w.heap.size, 0, cap)))) NoB c v) :
    RelI X (fun r => U r ∨ r ∈ [k]) (S.app ⟨tE d c, [(k, some ⟨e, sz, els⟩)]⟩) (a.put d v) (w.alloc (.cells cur e)) N (upd bs k (some (some (w.heap.size, 0, cap)))) (upd FP k (· = w.heap.size)) := by
  have hbk : bs k = none := by
    cases hb : bs k with
    | none => rfl
    | some x => exact absurd (h.u k (by rw [hb]; simp)) hk
  have hbs : ∀ r x, bs r = some x → upd bs k (some (some (w.heap.size, 0, cap))) r = some x := fun r x hx => by
    by_cases e : r = k
    · subst e; rw [hbk] at hx; cases hx
    · rw [upd_ne _ _ e]; exact hx
  have hcd : Chd NoB w (w.alloc (.cells cur e)) := Chd.alloc _ _ _
  have hD : ∀ k, NoB k → ∃ r, FP r k := fun _ h => h.elim
  refine h.next hcd hD (fun _ h => h) (fun k hk => by have := h.n1 k hk; simp; omega) ?_ ?_ ?_ ((put_size a d v).trans h.sz) (put_defers a d v) ?_ ?_ ?_ (fs_app h.nl hd) hbs
  · intro r hr
    by_cases e : r = k
    · exact .inr (by simp [e])
    · rw [upd_ne _ _ e] at hr; exact .inl (h.u r hr)
  · intro r q hq
    by_cases e : r = k
    · rw [e, upd_same] at hq
      subst hq
      exact ⟨by simp, fun hn => Nat.lt_irrefl _ (h.n1 _ hn), .inl h.size⟩
    · rw [upd_ne _ _ e] at hq
      have := h.f1 r q hq
      exact ⟨by simp; omega, this.2⟩
  · intro r r' q hq hq'
    by_cases e : r = k <;> by_cases e' : r' = k
    · rw [e, e']
    · rw [e, upd_same] at hq; rw [upd_ne _ _ e'] at hq'
      have := (h.f1 r' q hq').1; omega
    · rw [e', upd_same] at hq'; rw [upd_ne _ _ e] at hq
      have := (h.f1 r q hq).1; omega
    · rw [upd_ne _ _ e] at hq; rw [upd_ne _ _ e'] at hq'; exact h.f2 r r' q hq hq'
  · exact ts_put (fun t => h.ts_next hcd hD (fun _ h => h) hbs (h.ts t)) (fun q hq => by rw [h.sz]; exact hd q hq) hv _
  · intro r R hR
    rw [St.rt_app, St.rt_app0] at hR
    by_cases e : k = r
    · rw [if_pos e] at hR
      cases hR
      subst e
      refine ⟨_, upd_same _ _ _, ?_⟩
      rw [upd_same]
      refine .own w.heap.size 0 _ cap cur us (fun _ _ _ => False) rfl rfl (heap_alloc_new w _) (by rw [hs, Nat.zero_add]) hc hm hz (fun _ _ _ h => h.elim) (fun _ _ _ _ _ h => h.elim) (fun i o es c hi ho => by rw [Nat.zero_add]; exact hw i o es c hi ho) h1 (fun i o es c hi ho => h.ts_next hcd hD (fun _ h => h) hbs (hr i o es c hi ho))
    · rw [if_neg e] at hR
      rw [upd_ne FP _ (Ne.symm e)]
      exact h.rs_next hcd hD (fun _ h => h) hbs hR (fun _ h => h.elim)
  · intro r q hq
    by_cases e : r = k
    · rw [e, upd_same] at hq; exact .inr (by omega)
    · rw [upd_ne _ _ e] at hq; exact .inl ⟨r, hq⟩
end Go.Proofs.YtpeafglbhjjbhaaDoor

