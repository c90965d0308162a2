/- A range over a function: rounds in the caller's frame. -/
import Derived.Test.YtpeafglbhjjbhaaDoorFG
import Derived.RangeFuncIn
namespace Go.Proofs.YtpeafglbhjjbhaaDoor
open Go Go.RowKit

def pin1 (ks : List Nat) : CT → Bool
  | .rf r _ _ _ | .ad r _ _ _ => inB r ks
  | .v _ | .ro _ | .un => true
  | _ => false
/-- Its refs are among these. -/
def pinC (ks : List Nat) : CT → Bool
  | .ag l | .tu l => l.all (pin1 ks)
  | .fn _ a b => a.all (pin1 ks) && b.all (pin1 ks)
  | c => pin1 ks c
section
variable {w w' : World} {N N' : Nat → Prop} {bs bs' : Bs} {P : Nat → Prop} {c : CT} {u : Value} {ks : List Nat}
theorem HV.pin1 (h : HV w N bs P c u) (hc : pin1 ks c = true) (hb : ∀ k ∈ ks, bs' k = bs k) (hN : ∀ k, N k → N' k) (hw : ∀ k, N k → w'.heap[k]? = w.heap[k]?) : HV w' N' bs' P c u := by
  cases h with
  | v x => exact .v _
  | un u => exact .un _
  | ro h => exact .ro (h.mono hw hN)
  | rf A g off cap hbk hn hm hA => exact .rf A g off cap ((hb _ (inB_ok hc)).trans hbk) hn hm hA
  | rfNil hbk => exact .rfNil ((hb _ (inB_ok hc)).trans hbk)
  | ad g off cap hbk => exact .ad g off cap ((hb _ (inB_ok hc)).trans hbk)
  | _ => cases hc
theorem HV.pin (h : HV w N bs P c u) (hc : pinC ks c = true) (hb : ∀ k ∈ ks, bs' k = bs k) (hN : ∀ k, N k → N' k) (hw : ∀ k, N k → w'.heap[k]? = w.heap[k]?) : HV w' N' bs' P c u := by
  have hl : ∀ {l : List CT} {us : Array Value}, l.all (Go.Proofs.YtpeafglbhjjbhaaDoor.pin1 ks) = true → (∀ j c, l[j]? = some c → HV w N bs NoB c (us.getD j undef)) → ∀ j c, l[j]? = some c → HV w' N' bs' NoB c (us.getD j undef) := fun ha hr j c hj => (hr j c hj).pin1 (List.all_eq_true.1 ha c (List.mem_of_getElem? hj)) hb hN hw
  cases h with
  | ag us hs hr => exact .ag us hs (hl hc hr)
  | tu us hs hr => exact .tu us hs (hl hc hr)
  | @fn _ f_ a_ b_ us vs hs hs' hr hr' =>
    have hc' : a_.all (Go.Proofs.YtpeafglbhjjbhaaDoor.pin1 ks) = true ∧ b_.all (Go.Proofs.YtpeafglbhjjbhaaDoor.pin1 ks) = true := by simpa [pinC] using hc
    exact .fn us vs hs hs' (hl hc'.1 hr) (hl hc'.2 hr')
  | v x => exact .v _
  | un u => exact .un _
  | ro h => exact .ro (h.mono hw hN)
  | rf A g off cap hbk hn hm hA => exact HV.pin1 (.rf A g off cap hbk hn hm hA) hc hb hN hw
  | rfNil hbk => exact HV.pin1 (.rfNil hbk) hc hb hN hw
  | ad g off cap hbk => exact HV.pin1 (.ad g off cap hbk) hc hb hN hw
  | _ => cases hc
end
def noFo : CT → Bool
  | .fo _ => false
  | _ => true
theorem noFo_ok {c : CT} (h : noFo c = true) (f : Fo) : c ≠ .fo f := fun e => by rw [e] at h; cases h
/-- The same, seen from another world on, with other slots. -/
theorem RelI.rebase {X X' : Cx} {U : Nat → Prop} {S : St} {a : Act} {w w' : World} {N N' : Nat → Prop} {bs : Bs} {FP : Nat → Nat → Prop} (h : RelI X U S a w N bs FP) {S' : St} {tmps : Array Value} (hr : S'.r = S.r) (hfo : noFo (S'.tm FS) = true) (hsz : w.heap.size ≤ w'.heap.size) (hN : ∀ k, N k → w'.heap[k]? = w.heap[k]?) (hF : ∀ r k, FP r k → w'.heap[k]? = w.heap[k]?)
    (h0 : X'.w0 = w') (hNN : ∀ k, N k → N' k) (hn1 : ∀ k, N' k → k < w'.heap.size) (hXN : ∀ k, X'.N0 k → N' k) (hn2 : ∀ k, N' k → X'.N0 k ∨ w'.heap.size ≤ k ∨ X'.M k) (hfd : ∀ r k, FP r k → ¬ N' k) (hXM : ∀ r k, FP r k → X'.M k) (hnt : X'.nt = X.nt) (hG : X'.G = X.G) (hpk : ∀ p ∈ X'.pk, bs p.1 = some p.2)
    (hs : tmps.size = X.nt) (ts : ∀ t, HV w' N' bs NoB (S'.tm t) (tmps.getD t undef)) : RelI X' U S' ⟨tmps, []⟩ w' N' bs FP where
  blk := fun _ _ _ => by rw [h0]
  size := by rw [h0]; exact Nat.le_refl _
  os := by rw [h0]
  tape := by rw [h0]
  output := by rw [h0]
  n1 := hn1
  n0 := hXN
  n2 := fun k hk => by rw [h0]; exact hn2 k hk
  f1 := fun r k hk => ⟨Nat.lt_of_lt_of_le (h.f1 r k hk).1 hsz, hfd r k hk, .inr (hXM r k hk)⟩
  f2 := h.f2
  u := h.u
  sz := by rw [hnt]; exact hs
  pk := hpk
  nl := by rw [hnt]; exact h.nl
  df := Marks.nil _ _
  fo := fun f hf => absurd hf (noFo_ok hfo f)
  gl := fun p hp => (h.gl p (hG ▸ hp)).mono hN hNN
  ts := ts
  rs := fun r R hR => by
    have hR' : S.rt r = some R := by unfold St.rt at hR ⊢; rwa [hr] at hR
    obtain ⟨x, hx, hv⟩ := h.rs r R hR'
    exact ⟨x, hx, hv.frame (fun k hk => hF r k hk) hN hNN (fun _ _ h => h)⟩
/-- A block of somebody else's is written, in the world of the start too. -/
theorem RelI.poke {X : Cx} {U : Nat → Prop} {S : St} {a : Act} {w : World} {N : Nat → Prop} {bs : Bs} {FP : Nat → Nat → Prop} (h : RelI X U S a w N bs FP) {l : Nat} {o : Obj} (hfo : noFo (S.tm FS) = true) (hl : l < X.w0.heap.size) (hN : ¬ N l) (hF : ∀ r, ¬ FP r l) :
    RelI { X with w0 := X.w0.putObj l o } U S a (w.putObj l o) N bs FP := by
  have hk : ∀ k, k ≠ l → (w.putObj l o).heap[k]? = w.heap[k]? := fun k hk => World.putObj_heap_other hk
  have hs : (w.putObj l o).heap.size = w.heap.size := World.putObj_size
  have hs0 : (X.w0.putObj l o).heap.size = X.w0.heap.size := World.putObj_size
  have hlw : l < w.heap.size := Nat.lt_of_lt_of_le hl h.size
  have hNk : ∀ k, N k → (w.putObj l o).heap[k]? = w.heap[k]? := fun k hn => hk k fun e => hN (e ▸ hn)
  exact {
    blk := fun k hk' hM => by
      by_cases e : k = l
      · subst e
        rw [World.putObj_heap_same hlw]
        exact (World.putObj_heap_same hl).symm
      · rw [hk k e]
        refine (h.blk k (by rw [← hs0]; exact hk') hM).trans (World.putObj_heap_other e).symm
    size := by rw [hs]; exact Nat.le_trans (Nat.le_of_eq hs0) h.size
    os := h.os
    tape := h.tape
    output := h.output
    n1 := fun k hn => by rw [hs]; exact h.n1 k hn
    n0 := h.n0
    n2 := fun k hn => (h.n2 k hn).imp id fun h => h.imp (fun h => Nat.le_trans (Nat.le_of_eq hs0) h) id
    f1 := fun r k hr => ⟨by rw [hs]; exact (h.f1 r k hr).1, (h.f1 r k hr).2.1, (h.f1 r k hr).2.2.imp (fun h => Nat.le_trans (Nat.le_of_eq hs0) h) id⟩
    f2 := h.f2
    u := h.u
    sz := h.sz
    pk := h.pk
    nl := h.nl
    df := h.df.mono fun q ⟨g1, g2, g3, g4⟩ _ => ⟨⟨by rw [hs]; exact g1, g2, Nat.le_trans (Nat.le_of_eq hs0) g3, g4⟩, hk q fun e => by omega⟩
    fo := fun f hf => absurd hf (noFo_ok hfo f)
    gl := fun p hp => (h.gl p hp).mono hNk fun _ h => h
    ts := fun t => (h.ts t).frame (fun _ h => h.elim) hNk (fun _ h => h) (fun _ _ h => h)
    rs := fun r R hR => by
      obtain ⟨x, hx, hv⟩ := h.rs r R hR
      exact ⟨x, hx, hv.frame (fun k hr => hk k fun e => hF r (e ▸ hr)) hNk (fun _ h => h) (fun _ _ h => h)⟩ }
abbrev Pk := Nat → Option (Nat × Nat × Nat)
/-- What holds ahead of a round, and behind it. -/
def rndJ {σ : Type} (nt : Nat) (G : List (Nat × List CT)) (tmps : Array Value) (t : List (Nat × CT)) (rr : σ → List (Nat × Option Root)) (nx : Nat) (pk : List (Nat × Option (Nat × Nat × Nat))) (Ns : Nat → Prop) (l D : Nat) (o : Obj) (s : σ) (W : World) (F Nn : Nat → Prop) : Prop :=
  ∃ N bs FP, RelI ⟨W, fun k => ∃ r, FP r k, N, nt, G, pk⟩ (Us nx) ⟨t, rr s, nx⟩ ⟨tmps, []⟩ W N bs FP ∧ (∀ k, Ns k → N k) ∧ (∀ k, N k → Ns k ∨ F k ∨ Nn k) ∧ (∀ r k, FP r k → F k) ∧ F l ∧ ¬ N l ∧ (∀ r, ¬ FP r l) ∧
    W.heap[l]? = some o ∧ W.heap[D]? = some (.deferred (some [])) ∧ ¬ F D
theorem rndJ_stb {σ : Type} {nt : Nat} {G : List (Nat × List CT)} {tmps : Array Value} {t : List (Nat × CT)} {rr : σ → List (Nat × Option Root)} {nx : Nat} {pk : List (Nat × Option (Nat × Nat × Nat))} {Ns : Nat → Prop} {l D : Nat} {o : Obj} {B : Nat} (hl : l < B) (hD : D < B) (hNs : ∀ k, Ns k → k < B) (hfo : noFo (lk .un t FS) = true) :
    Stb B (rndJ nt G tmps t rr nx pk Ns l D o) := ⟨by
  rintro s w w' F Nn Nn' ⟨N, bs, FP, h, h1, h2, h3, h5, h6, h7, h8, h9, h10⟩ hNN hNs' hsz hos htape hout hF hB
  have hN : ∀ k, N k → w'.heap[k]? = w.heap[k]? := fun k hk => by
    rcases h2 k hk with g | g | g
    · exact hB k (hNs k g)
    · exact hF k g
    · exact hNs' k g
  exact ⟨N, bs, FP, h.rebase rfl hfo hsz hN (fun r k hk => hF k (h3 r k hk)) rfl (fun _ h => h) (fun k hk => Nat.lt_of_lt_of_le (h.n1 k hk) hsz) (fun _ h => h) (fun _ h => .inl h) (fun r k hk => (h.f1 r k hk).2.1) (fun r k hk => ⟨r, hk⟩) rfl rfl h.pk h.sz fun t' => (h.ts t').frame (fun _ h => h.elim) hN (fun _ h => h) (fun _ _ h => h),
    h1, fun k hk => (h2 k hk).imp id (Or.imp id (hNN k)), h3, h5, h6, h7, (hB l hl).trans h8, (hB D hD).trans h9, h10⟩⟩
/-- A round's parameters. -/
def argsP : List Nat → List CT → List (Nat × CT)
  | p :: ps, c :: cs => (p, argC c) :: argsP ps cs
  | _, _ => []
theorem argsP_hv {w : World} {N : Nat → Prop} {bs : Bs} {t : List (Nat × CT)} {tt : Nat} {v0 : Value} : ∀ (ps : List Nat) (cs : List CT) (vs : List Value), vs.length = cs.length → ps.length = cs.length → (∀ (j : Nat) c, cs[j]? = some c → HV w N bs NoB (argC c) (vs.getD j undef)) → HV w N bs NoB (lk .un t tt) v0 → HV w N bs NoB (lk .un (argsP ps cs ++ t) tt) (lk v0 (ps.zip vs) tt)
  | [], [], [], _, _, _, h0 => h0
  | p :: ps, c :: cs, v :: vs, h1, h2, h, h0 => by
    simp only [argsP, List.cons_append, List.zip_cons_cons]
    by_cases e : p = tt
    · subst e
      rw [lk_same, lk_same]
      exact h 0 c rfl
    · rw [lk_ne _ _ _ e, lk_ne _ _ _ e]
      exact argsP_hv ps cs vs (by simpa using h1) (by simpa using h2) (fun j c hj => by simpa using h (j + 1) c (by simpa using hj)) h0
  | [], _ :: _, _, _, h2, _, _ => by cases h2
  | _ :: _, [], _, _, h2, _, _ => by cases h2
  | [], [], _ :: _, h1, _, _, _ => by cases h1
  | _ :: _, _ :: _, [], h1, _, _, _ => by cases h1
theorem argsP_fs {t : List (Nat × CT)} {n : Nat} : ∀ (ps : List Nat) (cs : List CT), (∀ p ∈ ps, p ≠ n) → lk .un (argsP ps cs ++ t) n = lk .un t n
  | [], _, _ => by simp [argsP]
  | _ :: _, [], _ => by simp [argsP]
  | p :: ps, c :: cs, h => by
    simp only [argsP, List.cons_append]
    rw [lk_ne _ _ _ (h p List.mem_cons_self)]
    exact argsP_fs ps cs fun q hq => h q (List.mem_cons_of_mem _ hq)
theorem fold_set : ∀ (l : List (Nat × Value)) (tmps : Array Value) (t : Nat), (l.map (·.1)).Nodup → (∀ p ∈ l, p.1 < tmps.size) → (l.foldl (fun tmps (t, a) => tmps.setIfInBounds t a) tmps).size = tmps.size ∧ (l.foldl (fun tmps (t, a) => tmps.setIfInBounds t a) tmps).getD t undef = lk (tmps.getD t undef) l t
  | [], tmps, t, _, _ => ⟨rfl, rfl⟩
  | (p, v) :: l, tmps, t, hn, hp => by
    rw [List.map_cons, List.nodup_cons] at hn
    obtain ⟨g1, g2⟩ := fold_set l (tmps.setIfInBounds p v) t hn.2 (fun q hq => by simpa using hp q (List.mem_cons_of_mem _ hq))
    refine ⟨by simpa using g1, ?_⟩
    rw [List.foldl_cons, g2]
    by_cases e : p = t
    · subst e
      rw [lk_same]
      have hne : ∀ (l : List (Nat × Value)) (d : Value), p ∉ l.map (·.1) → lk d l p = d := fun l d hl => by
        induction l with
        | nil => rfl
        | cons q l ih =>
          obtain ⟨q1, q2⟩ := q
          simp only [List.map_cons, List.mem_cons, not_or] at hl
          rw [lk_ne _ _ _ (Ne.symm hl.1)]
          exact ih hl.2
      rw [hne l _ hn.1]
      have := hp (p, v) List.mem_cons_self
      simp at this
      simp [this]
    · rw [lk_ne _ _ _ e]
      congr 1
      simp [Array.getElem?_setIfInBounds_ne e]
/-- Code that goes on where a round was left. -/
def jmpC : Exit → Option Code
  | .ret => some .ret
  | .exit id => some (.exit id)
  | _ => none
/-- A round over a function is through. -/
theorem rnd_end {σ : Type} {w0 w W1 W2 : World} {N0 N F' N' : Nat → Prop} {nt : Nat} {G : List (Nat × List CT)} {S : St} {a : Act} {bs : Bs} {FP : Nat → Nat → Prop} {t : List (Nat × CT)} {rr : σ → List (Nat × Option Root)} {nx nx0 : Nat} {pk : List (Nat × Option (Nat × Nat × Nat))} {o o' : Obj} {s : σ} {pk0 : List (Nat × Option (Nat × Nat × Nat))} (hpk0 : ∀ p ∈ pk0, p ∈ pk) (hI : RelI ⟨w0, NoB, N0, nt, G, pk0⟩ (Us nx0) S a w N bs FP) (hfo : noFo (lk .un t FS) = true)
    (hs1 : W1.heap.size = w.heap.size + 2) (hW1 : ∀ k, k < w.heap.size → W1.heap[k]? = w.heap[k]?) (hos : W1.os = w.os) (htape : W1.tape = w.tape) (hout : W1.output = w.output) (hC : Chd (fun k => (∃ r, FP r k) ∨ k = w.heap.size + 1) W1 W2)
    (hF' : ∀ k, F' k → (((∃ r, FP r k) ∨ k = w.heap.size + 1) ∨ W1.heap.size ≤ k) ∧ k < W2.heap.size) (hN' : ∀ k, N' k → (N k ∨ W1.heap.size ≤ k ∨ ((∃ r, FP r k) ∨ k = w.heap.size + 1)) ∧ k < W2.heap.size ∧ ¬ F' k) (hJ : rndJ nt G a.tmps t rr nx pk N (w.heap.size + 1) w.heap.size o s W2 F' N') :
    ∃ N2 bs2 FP2, RelI ⟨w0, NoB, N0, nt, G, pk0⟩ (Us nx) ⟨t, rr s, nx⟩ { a with defers := ⟨.collected w.heap.size, #[]⟩ :: a.defers } (W2.putObj (w.heap.size + 1) o') N2 bs2 FP2 := by
  obtain ⟨Nf, bsf, FPf, h, h1, h2, h3, h5, h6, h7, h8, h9, h10⟩ := hJ
  have hs : (W2.putObj (w.heap.size + 1) o').heap.size = W2.heap.size := World.putObj_size
  have hk : ∀ k, k ≠ w.heap.size + 1 → (W2.putObj (w.heap.size + 1) o').heap[k]? = W2.heap[k]? := fun k hk => World.putObj_heap_other hk
  have hfp0 : ∀ r k, FP r k → w0.heap.size ≤ k := fun r k hr => ((hI.f1 r k hr).2.2).resolve_right fun h => h
  have hsw : w0.heap.size ≤ w.heap.size := hI.size
  have hold : ∀ k, k < w.heap.size → (∀ r, ¬ FP r k) → W2.heap[k]? = w.heap[k]? := fun k hk hf => (hC.blk k (by omega) fun h => h.elim (fun ⟨r, hr⟩ => hf r hr) fun h => by omega).trans (hW1 k hk)
  have hF0 : ∀ k, F' k → w0.heap.size ≤ k := fun k hk => (hF' k hk).1.elim (fun h => h.elim (fun ⟨r, hr⟩ => hfp0 r k hr) fun h => by omega) fun h => by omega
  have hNk : ∀ k, Nf k → (W2.putObj (w.heap.size + 1) o').heap[k]? = W2.heap[k]? := fun k hn => hk k fun e => h6 (e ▸ hn)
  have hnl : nt ≤ FS := hI.nl
  have hfar : ∀ q, q < w.heap.size + 1 → ¬ N q → (∀ r, ¬ FP r q) → ¬ F' q ∧ ¬ Nf q := fun q hq hn hf => by
    have hF : ¬ F' q := fun h => (hF' q h).1.elim (fun h => h.elim (fun ⟨r, hr⟩ => hf r hr) fun h => by omega) fun h => by omega
    exact ⟨hF, fun h => (h2 q h).elim hn fun h => h.elim hF fun h => (hN' q h).1.elim hn fun h => by rcases h with h | ⟨r, h⟩ | h <;> first | exact hf r h | omega⟩
  refine ⟨Nf, bsf, FPf, {
    blk := fun k hk' _ => by
      have hk0 : k < w0.heap.size := hk'
      rw [hk k (by omega), hold k (by omega) fun r hr => by have := hfp0 r k hr; omega]
      exact hI.blk k hk0 fun h => h
    size := by rw [hs]; have := hC.size; show w0.heap.size ≤ _; omega
    os := (hC.os.trans hos).trans hI.os
    tape := (hC.tape.trans htape).trans hI.tape
    output := (hC.output.trans hout).trans hI.output
    n1 := fun k hn => by rw [hs]; exact h.n1 k hn
    n0 := fun k hn => h1 k (hI.n0 k hn)
    n2 := fun k hn => by
      rcases h2 k hn with g | g | g
      · exact hI.n2 k g
      · exact .inr (.inl (hF0 k g))
      · rcases (hN' k g).1 with g | g
        · exact hI.n2 k g
        · refine .inr (.inl ?_)
          show w0.heap.size ≤ k
          rcases g with g | ⟨r, g⟩ | g
          · omega
          · exact hfp0 r k g
          · omega
    f1 := fun r k hr => ⟨by rw [hs]; exact (h.f1 r k hr).1, (h.f1 r k hr).2.1, .inl (hF0 k (h3 r k hr))⟩
    f2 := h.f2
    u := h.u
    sz := hI.sz
    pk := fun p hp => h.pk p (hpk0 p hp)
    nl := hI.nl
    df := ?_
    fo := fun f hf => absurd hf (noFo_ok hfo f)
    gl := fun p hp => (h.gl p hp).mono hNk fun _ h => h
    ts := fun t' => (h.ts t').frame (fun _ h => h.elim) hNk (fun _ h => h) (fun _ _ h => h)
    rs := fun r R hR => by
      obtain ⟨x, hx, hv⟩ := h.rs r R hR
      exact ⟨x, hx, hv.frame (fun k hr => hk k fun e => h7 r (e ▸ hr)) hNk (fun _ h => h) (fun _ _ h => h)⟩ }⟩
  obtain ⟨Ds, d1, d2, d3⟩ := hI.df
  refine ⟨w.heap.size :: Ds, List.nodup_cons.2 ⟨fun hm => by have := (d3 _ hm).1.1; omega, d1⟩, by simp [d2], fun q hq => ?_⟩
  have hsz2 : W1.heap.size ≤ W2.heap.size := hC.size
  rcases List.mem_cons.1 hq with rfl | hq
  · obtain ⟨e1, e2⟩ := hfar w.heap.size (by omega) (fun h => by have := hI.n1 _ h; omega) (fun r hr => by have := (hI.f1 r _ hr).1; omega)
    exact ⟨⟨by rw [hs]; omega, e2, hsw, fun r hr => e1 (h3 r _ hr)⟩, (hk _ (by omega)).trans h9⟩
  · obtain ⟨⟨g1, g2, g3, g4⟩, g5⟩ := d3 q hq
    obtain ⟨e1, e2⟩ := hfar q (by omega) g2 g4
    exact ⟨⟨by rw [hs]; omega, e2, g3, fun r hr => e1 (h3 r _ hr)⟩, (hk _ (by omega)).trans ((hold q g1 g4).trans g5)⟩
theorem w_rangeFP {σ ρ α : Type} {P : Program} {w0 : World} {N0 : Nat → Prop} {nt : Nat} {G : List (Nat × List CT)} {S : St} {Q : Exit → St → Prop} {g : Operand} {ps : Array Tmp} {assign body jmp : Code} {gf : FuncId} {caps cs' : List CT} {enc : α → List CT} {it : ∀ (σ ρ : Type), (σ → α → Option (Xt σ ρ)) → σ → Option (Xt σ ρ)} {bodyF : σ → α → Option (Xt σ ρ)} {s0 : σ} {z : Xt σ ρ} {t : List (Nat × CT)} {nx : Nat} (pk0 : List (Nat × Option (Nat × Nat × Nat))) (rd : List (Addr × Value))
    (hit : IC P G gf caps enc it rd) (hz : it σ ρ bodyF s0 = some z) (rr : σ → List (Nat × Option Root)) (rx : ρ → List (Nat × Option Root)) (ks : List Nat) (S2 : σ → α → St) (hcs : caps.map roC = cs')
    (eg : ∀ args w, (callFunc gf args).run P w = .ok (.enter gf args) w)
    (hle : St.le ⟨w0, NoB, N0, nt, G, pk0⟩ S ⟨t, rr s0, nx⟩) (hg : St.ev ⟨t, rr s0, nx⟩ g = .fn (.func gf) [] cs') (hps : ∀ y, (enc y).length = ps.size) (hpn : ps.toList.Nodup) (hpl : ps.toList.all (fun p => Nat.blt p nt) = true)
    (hpin : t.all (fun p => pinC ks p.2) = true) (hks : ks.all (fun k => (lk none (rr s0) k).isSome) = true) (hpk0 : pk0.all (fun p => ks.elem p.1) = true) (hfo : noFo (lk .un t FS) = true) (hfo2 : ∀ s y, noFo ((S2 s y).tm FS) = true)
    (hasg : ∀ (l : Nat) (W : World) (M N : Nat → Prop) (f : Pk) s y, (∀ p ∈ pk0, f p.1 = p.2) → Go.Proofs.YtpeafglbhjjbhaaDoor.W (Fence.wide.inRound l) 0 P ⟨W, M, N, nt, G, ks.map fun k => (k, f k)⟩ assign ⟨argsP ps.toList (enc y) ++ t, rr s, nx⟩ (fun e S' => e = .normal ∧ St.le ⟨W, M, N, nt, G, ks.map fun k => (k, f k)⟩ S' (S2 s y)))
    (hbody : ∀ (l : Nat) (W : World) (M N : Nat → Prop) (f : Pk) s y z', (∀ p ∈ pk0, f p.1 = p.2) → bodyF s y = some z' → Go.Proofs.YtpeafglbhjjbhaaDoor.W (Fence.wide.inRound l) 0 P ⟨W, M, N, nt, G, ks.map fun k => (k, f k)⟩ body (S2 s y) (fun e S' => (e = .normal ∧ ∃ s', z' = .go s' ∧ St.le ⟨W, M, N, nt, G, ks.map fun k => (k, f k)⟩ S' ⟨[], rr s', nx⟩) ∨ (jmpC e = some jmp ∧ ∃ o, z' = .out o ∧ St.le ⟨W, M, N, nt, G, ks.map fun k => (k, f k)⟩ S' ⟨[], rx o, nx⟩)))
    (hrd : ∀ (bs : Bs) s (X : Cx) U a w N FP, RelI X U ⟨t, rr s, nx⟩ a w N bs FP → (∀ p ∈ pk0, bs p.1 = some p.2) → ∀ p ∈ rd, w.cell? p.1 = some p.2)
    (hdone : ∀ s, z = .go s → Q .normal ⟨t, rr s, nx⟩) (hstop : ∀ o, z = .out o → Go.Proofs.YtpeafglbhjjbhaaDoor.W Fence.wide 0 P ⟨w0, NoB, N0, nt, G, pk0⟩ jmp ⟨t, rx o, nx⟩ Q) :
    Go.Proofs.YtpeafglbhjjbhaaDoor.W Fence.wide 0 P ⟨w0, NoB, N0, nt, G, pk0⟩ (.rangeFunc g ps assign body) S Q := by
  subst hcs
  intro a w hR0
  obtain ⟨N, bs, FP, hI⟩ := hle a w hR0
  refine wpIn_rangeFunc ?_
  intro fn hfn
  obtain ⟨rec, hrec⟩ : ∃ rec : LoopState → Option Code → Loop, rec = fun st pe => { state := st, pending := pe, fn, tmps := a.tmps, params := ps, assign, body, defers := w.heap.size } := ⟨_, rfl⟩
  obtain ⟨W1, hW1⟩ : ∃ W1, (w.alloc (.deferred (some []))).alloc (.loop (rec .ready none)) = W1 := ⟨_, rfl⟩
  have hL1 : W1.heap[w.heap.size + 1]? = some (.loop (rec .ready none)) := by
    rw [← hW1]; have := World.alloc_heap_new (w.alloc (.deferred (some []))) (.loop (rec .ready none)); rwa [World.size_alloc] at this
  have hK1 : W1.heap[w.heap.size]? = some (.deferred (some [])) := by
    rw [← hW1]; exact (Below.heap_alloc _ _ _ (by simp)).trans (World.alloc_heap_new w _)
  have hs1 : W1.heap.size = w.heap.size + 2 := by rw [← hW1]; simp
  have hb1 : ∀ k, k < w.heap.size → W1.heap[k]? = w.heap[k]? := fun k hk => by
    rw [← hW1]; exact (Below.heap_alloc _ _ _ (by simp; omega)).trans (Below.heap_alloc _ _ _ hk)
  have hos : W1.os = w.os := by rw [← hW1]; rfl
  have htp : W1.tape = w.tape := by rw [← hW1]; rfl
  have hou : W1.output = w.output := by rw [← hW1]; rfl
  have hgv := hI.ev g
  rw [hg] at hgv
  obtain ⟨us, vs, hev, hl, hl', hr'⟩ : ∃ us vs, a.eval g = .func (.func gf) us vs ∧ us.size = 0 ∧ vs.size = (caps.map roC).length ∧ ∀ (j : Nat) c, (caps.map roC)[j]? = some c → HV w N bs NoB c (vs.getD j undef) := by
    generalize a.eval g = u at hgv ⊢
    cases hgv with
    | fn us vs hl hl' hr hr' => exact ⟨us, vs, rfl, hl, hl', hr'⟩
  have hus : us = #[] := Array.eq_empty_of_size_eq_zero hl
  subst hus
  have hNw : ∀ k, N k → W1.heap[k]? = w.heap[k]? := fun k hk => hb1 k (hI.n1 k hk)
  let f : Pk := fun k => (bs k).getD none
  have hf : ∀ p ∈ ks.map (fun k => (k, f k)), bs p.1 = some p.2 := fun p hp => by
    obtain ⟨k, hk, rfl⟩ := List.mem_map.1 hp
    have := List.all_eq_true.1 hks k hk
    cases hR : lk none (rr s0) k with
    | none => rw [hR] at this; cases this
    | some R =>
      obtain ⟨x, hx, _⟩ := hI.rs k R hR
      show bs k = some ((bs k).getD none)
      rw [hx]; rfl
  have hf0 : ∀ p ∈ pk0, f p.1 = p.2 := fun p hp => by
    have e : bs p.1 = some p.2 := hI.pk p hp
    show (bs p.1).getD none = p.2
    rw [e]; rfl
  have hpk1 : ∀ p ∈ pk0, p ∈ ks.map fun k => (k, f k) := fun p hp => by
    have h1 := List.all_eq_true.1 hpk0 p hp
    refine List.mem_map.2 ⟨p.1, by simpa using h1, ?_⟩
    rw [hf0 p hp]
  have hfl : ∀ r, ¬ FP r (w.heap.size + 1) := fun r hr => by have := (hI.f1 r _ hr).1; omega
  have hfD : ∀ r, ¬ FP r w.heap.size := fun r hr => by have := (hI.f1 r _ hr).1; omega
  have hJ0 : rndJ nt G a.tmps t rr nx (ks.map fun k => (k, f k)) N (w.heap.size + 1) w.heap.size (.loop (rec .ready none)) s0 W1 (fun k => (∃ r, FP r k) ∨ k = w.heap.size + 1) N :=
    ⟨N, bs, FP, hI.rebase rfl hfo (by omega) hNw (fun r k hk => hb1 k (hI.f1 r k hk).1) rfl (fun _ h => h) (fun k hk => by have := hI.n1 k hk; omega) (fun _ h => h) (fun _ h => .inl h) (fun r k hk => (hI.f1 r k hk).2.1) (fun r k hk => ⟨r, hk⟩) rfl rfl hf hI.sz fun t' => (hI.ts t').frame (fun _ h => h.elim) hNw (fun _ h => h) (fun _ _ h => h),
      fun _ h => h, fun _ h => .inl h, fun r k hk => .inl ⟨r, hk⟩, .inr rfl, fun h => by have := hI.n1 _ h; omega, hfl, hL1, hK1, fun h => h.elim (fun ⟨r, hr⟩ => hfD r hr) fun h => by omega⟩
  have hSt : ∀ {τ : Type} (rr : τ → List (Nat × Option Root)) (o : Obj), Stb W1.heap.size (rndJ nt G a.tmps t rr nx (ks.map fun k => (k, f k)) N (w.heap.size + 1) w.heap.size o) := fun rr o => rndJ_stb (by omega) (by omega) (fun k hk => by have := hI.n1 k hk; omega) hfo
  refine ⟨w.heap.size + 1, [{ target := .collected w.heap.size, args := #[] }], W1, { target := .fn (.func gf) vs, args := #[.func (.yield (w.heap.size + 1)) #[] #[]] }, W1, gf,
    #[.func (.yield (w.heap.size + 1)) #[] #[]] ++ vs, W1, ?_, ?_, fun _ _ => trivial, ?_, fun h => (by cases h), ?_⟩
  · rw [← hW1, hrec]; exact run_enterLoop_outer _ _ _ _ _
  · simp only [resolve, hev]
    simp [go_sem]
  · simp [invoke, go_sem, eg]
  · refine callsIn_wide.2 ((hit σ ρ bodyF s0 z hz (w.heap.size + 1) W1 N vs (rndJ nt G a.tmps t rr nx (ks.map fun k => (k, f k)) N (w.heap.size + 1) w.heap.size (.loop (rec .ready none))) (rndJ nt G a.tmps t rx nx (ks.map fun k => (k, f k)) N (w.heap.size + 1) w.heap.size (.loop (rec .done (some jmp)))) (fun k => (∃ r, FP r k) ∨ k = w.heap.size + 1)
      (fun k hk => ⟨by have := hI.n1 k hk; omega, fun h => h.elim (fun ⟨r, hr⟩ => (hI.f1 r k hr).2.1 hk) fun e => by have := hI.n1 k hk; omega⟩) (fun k hk => hk.elim (fun ⟨r, hr⟩ => by have := (hI.f1 r k hr).1; omega) fun e => by omega) (by rw [hl', List.length_map])
      (fun j c hj => (roC_rd (hr' j (roC c) (by rw [List.getElem?_map, hj]; rfl))).mono hNw fun _ h => h) (fun p hp => (hI.gl p hp).mono hNw fun _ h => h) (hSt _ _) (hSt _ _) ?_ hJ0 (fun s W F' N' hJ p hp => by
        obtain ⟨Nr, bsr, FPr, hr, _⟩ := hJ
        exact hrd bsr s _ _ _ _ _ _ hr (fun p hp => hr.pk p (hpk1 p hp)) p hp)).mono ?_)
    · -- one round
      rintro s y z' W F' Nn vs' hbod ⟨Nr, bsr, FPr, hr, h1, h2, h3, h5, h6, h7, h8, h9, h10⟩ hB hNn hNN hvs hrd
      have hlW : w.heap.size + 1 < W.heap.size := by omega
      have hsz : vs'.size = ps.size := hvs.trans (hps y)
      have hy := run_yield (P := P) (args := vs') h8 (by rw [hrec]; exact hsz)
      have hN2 : ∀ k, (Nr k ∨ Nn k) → k < W.heap.size := fun k hk => hk.elim (hr.n1 k) fun h => (hNn k h).1
      have hfd : ∀ r k, FPr r k → ¬ (Nr k ∨ Nn k) := fun r k hk h => h.elim (hr.f1 r k hk).2.1 fun h => (hNn k h).2 (h3 r k hk)
      have hl2N : ¬ (Nr (w.heap.size + 1) ∨ Nn (w.heap.size + 1)) := fun h => h.elim h6 fun h => (hNn _ h).2 h5
      have hnt : nt ≤ FS := hI.nl
      have hpl' : ∀ p ∈ ps.toList, p < nt := fun p hp => by
        have := List.all_eq_true.1 hpl p hp
        exact Nat.le_of_ble_eq_true this
      have hzl : (ps.zip vs').foldl (fun tmps (t, a) => tmps.setIfInBounds t a) a.tmps = (ps.toList.zip vs'.toList).foldl (fun tmps (t, a) => tmps.setIfInBounds t a) a.tmps := by
        rw [← Array.foldl_toList, Array.toList_zip]
      have hmap : (ps.toList.zip vs'.toList).map (·.1) = ps.toList := by
        rw [List.map_fst_zip]
        simp [hsz]
      have hset := fun tt => fold_set (ps.toList.zip vs'.toList) a.tmps tt (by rw [hmap]; exact hpn) fun p hp => by
        have : p.1 ∈ (ps.toList.zip vs'.toList).map (·.1) := List.mem_map_of_mem hp
        rw [hmap] at this
        rw [hI.sz]
        exact hpl' p.1 this
      have hA : RelI ⟨W, fun k => ∃ r, FPr r k, fun k => Nr k ∨ Nn k, nt, G, ks.map fun k => (k, f k)⟩ (Us nx) ⟨argsP ps.toList (enc y) ++ t, rr s, nx⟩ ⟨(ps.zip vs').foldl (fun tmps (t, a) => tmps.setIfInBounds t a) a.tmps, []⟩ W (fun k => Nr k ∨ Nn k) bsr FPr := by
        refine hr.rebase rfl ?_ (Nat.le_refl _) (fun _ _ => rfl) (fun _ _ _ => rfl) rfl (fun _ h => .inl h) hN2 (fun _ h => h) (fun _ h => .inl h) hfd (fun r k hk => ⟨r, hk⟩) rfl rfl hr.pk ?_ fun tt => ?_
        · show noFo (lk .un (argsP ps.toList (enc y) ++ t) FS) = true
          rw [argsP_fs _ _ fun p hp => Nat.ne_of_lt (Nat.lt_of_lt_of_le (hpl' p hp) hnt)]
          exact hfo
        · rw [hzl, (hset 0).1]
          exact hI.sz
        · rw [hzl, (hset tt).2]
          refine argsP_hv _ _ _ (by simp [hvs]) (by simp [hps]) (fun j c hj => ?_) ((hr.ts tt).frame (fun _ h => h.elim) (fun _ _ => rfl) (fun _ h => .inl h) (fun _ _ h => h))
          have := (hrd j c hj).mono (N' := fun k => Nr k ∨ Nn k) (fun _ _ => rfl) fun _ h => .inr h
          simpa using rd_argC this
      have hy' := hy
      rw [hrec] at hy'
      refine ⟨fn, _, assign, body, hy', roundIn_of_wpIn hfn (wpIn_mono (hasg (w.heap.size + 1) W _ _ f s y hf0 _ W ⟨_, bsr, FPr, hA⟩) ?_)⟩
      rintro e a1 w1 ⟨S', hR1, he, hle1⟩
      subst he
      obtain ⟨N1, bs1, FP1, hI1⟩ := hle1 a1 w1 hR1
      have hl1 : w1.heap[w.heap.size + 1]? = some (.loop (rec .ready none)) := (hI1.blk _ hlW fun ⟨r, hr⟩ => h7 r hr).trans h8
      have hs0 : W.heap.size ≤ w1.heap.size := hI1.size
      have hN1l : ¬ N1 (w.heap.size + 1) := fun h => (hI1.n2 _ h).elim hl2N fun h => h.elim (fun h => by have : W.heap.size ≤ _ := h; omega) fun ⟨r, hr⟩ => h7 r hr
      have hF1l : ∀ r, ¬ FP1 r (w.heap.size + 1) := fun r h => ((hI1.f1 r _ h).2.2).elim (fun h => by have : W.heap.size ≤ _ := h; omega) fun ⟨r, hr⟩ => h7 r hr
      refine ⟨_, run_beginRound hl1 (by rw [hrec]), ?_⟩
      have hI2 := hI1.poke (l := w.heap.size + 1) (o := .loop { rec .ready none with state := .busy }) (hfo2 s y) hlW hN1l hF1l
      refine wpIn_mono (hbody (w.heap.size + 1) _ _ _ f s y z' hf0 hbod a1 _ ⟨_, bs1, FP1, hI2⟩) ?_
      rintro e a3 w3 ⟨S3, hR3, h3'⟩
      have fin : ∀ {τ : Type} (rq : τ → List (Nat × Option Root)) (q : τ) (jump : Option Code), St.le ⟨W.putObj (w.heap.size + 1) (.loop { rec .ready none with state := .busy }), fun k => ∃ r, FPr r k, fun k => Nr k ∨ Nn k, nt, G, ks.map fun k => (k, f k)⟩ S3 ⟨[], rq q, nx⟩ →
          ∃ w4, (Instr.endRound (w.heap.size + 1) jump).run P w3 = .ok (.bool jump.isNone) w4 ∧ ∃ F'', Chd F' W w4 ∧ (∀ k, F'' k → (F' k ∨ W.heap.size ≤ k) ∧ k < w4.heap.size) ∧ rndJ nt G a.tmps t rq nx (ks.map fun k => (k, f k)) N (w.heap.size + 1) w.heap.size (.loop (rec (if jump.isNone then .ready else .done) jump)) q w4 F'' Nn := by
        intro τ rq q jump hle3
        obtain ⟨Ne, bse, FPe, hE⟩ := hle3 a3 w3 hR3
        have hWs : (W.putObj (w.heap.size + 1) (.loop { rec .ready none with state := .busy })).heap.size = W.heap.size := World.putObj_size
        have hl3 : w3.heap[w.heap.size + 1]? = some (.loop { rec .ready none with state := .busy }) := (hE.blk _ (by show _ < (World.putObj _ _ _).heap.size; rw [hWs]; exact hlW) fun ⟨r, hr⟩ => h7 r hr).trans (World.putObj_heap_same hlW)
        have hs3 : W.heap.size ≤ w3.heap.size := by have : (World.putObj _ _ _).heap.size ≤ w3.heap.size := hE.size; rwa [hWs] at this
        have hrun := run_endRound (P := P) jump hl3
        have hs4 : ∀ o, (w3.putObj (w.heap.size + 1) o).heap.size = w3.heap.size := fun o => World.putObj_size
        have hk4 : ∀ o k, k ≠ w.heap.size + 1 → (w3.putObj (w.heap.size + 1) o).heap[k]? = w3.heap[k]? := fun o k hk => World.putObj_heap_other hk
        have hk3 : ∀ k, k < W.heap.size → k ≠ w.heap.size + 1 → (∀ r, ¬ FPr r k) → w3.heap[k]? = W.heap[k]? := fun k hk hne hf => (hE.blk k (by show _ < (World.putObj _ _ _).heap.size; rw [hWs]; exact hk) fun ⟨r, hr⟩ => hf r hr).trans (World.putObj_heap_other hne)
        have hE2 : ∀ k, Ne k → (Nr k ∨ Nn k) ∨ W.heap.size ≤ k ∨ ∃ r, FPr r k := fun k hk => (hE.n2 k hk).imp id fun h => h.imp (fun h => by have : (World.putObj _ _ _).heap.size ≤ k := h; rwa [hWs] at this) id
        have hEf : ∀ r k, FPe r k → W.heap.size ≤ k ∨ ∃ r, FPr r k := fun r k hk => (hE.f1 r k hk).2.2.imp (fun h => by have : (World.putObj _ _ _).heap.size ≤ k := h; rwa [hWs] at this) id
        have hNel : ¬ Ne (w.heap.size + 1) := fun h => (hE2 _ h).elim hl2N fun h => h.elim (fun h => by omega) fun ⟨r, hr⟩ => h7 r hr
        have hFel : ∀ r, ¬ FPe r (w.heap.size + 1) := fun r h => (hEf r _ h).elim (fun h => by omega) fun ⟨r, hr⟩ => h7 r hr
        have hDF : ∀ r, ¬ FPr r w.heap.size := fun r h => h10 (h3 r _ h)
        refine ⟨_, hrun, fun k => (∃ r, FPe r k) ∨ (Ne k ∧ ¬ N k ∧ ¬ Nn k) ∨ k = w.heap.size + 1, ⟨by rw [hs4]; exact hs3, hE.os, hE.tape, hE.output, fun k hk hF => ?_⟩, fun k hk => ⟨?_, ?_⟩, Ne, bse, FPe, ?_, fun k hk => hE.n0 k (.inl (h1 k hk)), fun k hk => ?_, fun r k hk => .inl ⟨r, hk⟩, .inr (.inr rfl), hNel, hFel, ?_, ?_, ?_⟩
        · rw [hk4 _ k fun e => hF (e ▸ h5)]
          exact hk3 k hk (fun e => hF (e ▸ h5)) fun r hr => hF (h3 r k hr)
        · rcases hk with ⟨r, hk⟩ | ⟨g1, g2, g3⟩ | rfl
          · exact (hEf r k hk).elim .inr fun ⟨r, hr⟩ => .inl (h3 r k hr)
          · rcases hE2 k g1 with (g | g) | g | ⟨r, g⟩
            · exact .inl ((h2 k g).elim (fun h => absurd h g2) fun h => h.elim id fun h => absurd h g3)
            · exact absurd g g3
            · exact .inr g
            · exact .inl (h3 r k g)
          · exact .inl h5
        · rw [hs4]
          rcases hk with ⟨r, hk⟩ | ⟨g1, _⟩ | rfl
          · exact (hE.f1 r k hk).1
          · exact hE.n1 k g1
          · omega
        · have hNe : ∀ k, Ne k → (w3.putObj (w.heap.size + 1) (.loop { rec .ready none with state := if jump.isNone then .ready else .done, pending := jump })).heap[k]? = w3.heap[k]? := fun k hk => hk4 _ k fun e => hNel (e ▸ hk)
          have := hE.rebase (X' := ⟨w3.putObj (w.heap.size + 1) (.loop { rec .ready none with state := if jump.isNone then .ready else .done, pending := jump }), fun k => ∃ r, FPe r k, Ne, nt, G, ks.map fun k => (k, f k)⟩) (S' := ⟨t, rq q, nx⟩) (tmps := a.tmps) (w' := w3.putObj (w.heap.size + 1) (.loop { rec .ready none with state := if jump.isNone then .ready else .done, pending := jump })) (N' := Ne) rfl hfo (by rw [hs4]; exact Nat.le_refl _) hNe (fun r k hk => hk4 _ k fun e => hFel r (e ▸ hk)) rfl (fun _ h => h) (fun k hk => by rw [hs4]; exact hE.n1 k hk) (fun _ h => h) (fun _ h => .inl h) (fun r k hk => (hE.f1 r k hk).2.1) (fun r k hk => ⟨r, hk⟩) rfl rfl hE.pk hI.sz fun tt => ?_
          · rw [hrec] at this ⊢
            exact this
          · refine (hr.ts tt).pin (N' := Ne) (ks := ks) ?_ (fun k hk => ?_) (fun k hk => hE.n0 k (.inl hk)) (fun k hk => ?_)
            · show pinC ks (lk .un t tt) = true
              have hall : ∀ t : List (Nat × CT), t.all (fun p => pinC ks p.2) = true → pinC ks (lk .un t tt) = true := fun t ht => by
                induction t with
                | nil => rfl
                | cons p t ih =>
                  obtain ⟨p1, p2⟩ := p
                  simp only [List.all_cons, Bool.and_eq_true] at ht
                  by_cases e : p1 = tt
                  · subst e; rw [lk_same]; exact ht.1
                  · rw [lk_ne _ _ _ e]; exact ih ht.2
              exact hall t hpin
            · have hm : (k, f k) ∈ ks.map (fun k => (k, f k)) := List.mem_map_of_mem (f := fun k => (k, f k)) hk
              exact (hE.pk _ hm).trans (hr.pk _ hm).symm
            · have hne : k ≠ w.heap.size + 1 := fun e => h6 (e ▸ hk)
              rw [hk4 _ k hne]
              exact hk3 k (hr.n1 k hk) hne fun r hr' => (hr.f1 r k hr').2.1 hk
        · by_cases g2 : N k
          · exact .inl g2
          · by_cases g3 : Nn k
            · exact .inr (.inr g3)
            · exact .inr (.inl (.inr (.inl ⟨hk, g2, g3⟩)))
        · rw [World.putObj_heap_same (by omega)]
          rw [hrec]
        · rw [hk4 _ _ (by omega), hk3 _ (by omega) (by omega) hDF]
          exact h9
        · rintro (⟨r, hk⟩ | ⟨g1, g2, g3⟩ | e)
          · exact (hEf r _ hk).elim (fun h => by omega) fun ⟨r, hr⟩ => hDF r hr
          · rcases hE2 _ g1 with (g | g) | g | ⟨r, g⟩
            · exact (h2 _ g).elim g2 fun h => h.elim h10 g3
            · exact g3 g
            · omega
            · exact hDF r g
          · omega
      rcases h3' with ⟨rfl, s', rfl, hle3⟩ | ⟨hj, o, rfl, hle3⟩
      · obtain ⟨w4, e1, F'', e2, e3, e4⟩ := fin rr s' none hle3
        exact ⟨_, w4, e1, F'', e2, e3, .inl ⟨s', rfl, rfl, e4⟩⟩
      · obtain ⟨w4, e1, F'', e2, e3, e4⟩ := fin rx o (some jmp) hle3
        cases e with
        | ret =>
          cases hj
          exact ⟨_, w4, e1, F'', e2, e3, .inr ⟨o, rfl, rfl, e4⟩⟩
        | exit id =>
          cases hj
          exact ⟨_, w4, e1, F'', e2, e3, .inr ⟨o, rfl, rfl, e4⟩⟩
        | _ => cases hj
    · rintro e W2 ⟨⟨v, rfl⟩, hC, F', N', hF', hN', hz'⟩
      rcases hz' with ⟨s, hs, hJ⟩ | ⟨o, ho, hJ⟩
      · have hl2 := hJ
        obtain ⟨_, _, _, _, _, _, _, _, _, _, hl2, _, _⟩ := hl2
        refine ⟨none, _, by have := run_endLoop (P := P) hl2 (by rw [hrec]; simp); rw [hrec] at this; exact this, _, ?_, hdone s hs⟩
        exact rnd_end hpk1 hI hfo hs1 hb1 hos htp hou hC hF' hN' hJ
      · have hl2 := hJ
        obtain ⟨_, _, _, _, _, _, _, _, _, _, hl2, _, _⟩ := hl2
        refine ⟨some jmp, _, by have := run_endLoop (P := P) hl2 (by rw [hrec]; simp); rw [hrec] at this; exact this, ?_⟩
        exact hstop o ho _ _ (rnd_end hpk1 hI hfo hs1 hb1 hos htp hou hC hF' hN' hJ)
theorem w_rangeF {σ ρ α : Type} {P : Program} {w0 : World} {N0 : Nat → Prop} {nt : Nat} {G : List (Nat × List CT)} {S : St} {Q : Exit → St → Prop} {g : Operand} {ps : Array Tmp} {assign body jmp : Code} {gf : FuncId} {caps cs' : List CT} {enc : α → List CT} {it : ∀ (σ ρ : Type), (σ → α → Option (Xt σ ρ)) → σ → Option (Xt σ ρ)} {bodyF : σ → α → Option (Xt σ ρ)} {s0 : σ} {z : Xt σ ρ} {t : List (Nat × CT)} {nx : Nat}
    (hit : IC P G gf caps enc it) (hz : it σ ρ bodyF s0 = some z) (rr : σ → List (Nat × Option Root)) (rx : ρ → List (Nat × Option Root)) (ks : List Nat) (S2 : σ → α → St) (hcs : caps.map roC = cs')
    (eg : ∀ args w, (callFunc gf args).run P w = .ok (.enter gf args) w)
    (hle : St.le ⟨w0, NoB, N0, nt, G, []⟩ S ⟨t, rr s0, nx⟩) (hg : St.ev ⟨t, rr s0, nx⟩ g = .fn (.func gf) [] cs') (hps : ∀ y, (enc y).length = ps.size) (hpn : ps.toList.Nodup) (hpl : ps.toList.all (fun p => Nat.blt p nt) = true)
    (hpin : t.all (fun p => pinC ks p.2) = true) (hks : ks.all (fun k => (lk none (rr s0) k).isSome) = true) (hfo : noFo (lk .un t FS) = true) (hfo2 : ∀ s y, noFo ((S2 s y).tm FS) = true)
    (hasg : ∀ (l : Nat) (W : World) (M N : Nat → Prop) (f : Pk) s y, Go.Proofs.YtpeafglbhjjbhaaDoor.W (Fence.wide.inRound l) 0 P ⟨W, M, N, nt, G, ks.map fun k => (k, f k)⟩ assign ⟨argsP ps.toList (enc y) ++ t, rr s, nx⟩ (fun e S' => e = .normal ∧ St.le ⟨W, M, N, nt, G, ks.map fun k => (k, f k)⟩ S' (S2 s y)))
    (hbody : ∀ (l : Nat) (W : World) (M N : Nat → Prop) (f : Pk) s y z', bodyF s y = some z' → Go.Proofs.YtpeafglbhjjbhaaDoor.W (Fence.wide.inRound l) 0 P ⟨W, M, N, nt, G, ks.map fun k => (k, f k)⟩ body (S2 s y) (fun e S' => (e = .normal ∧ ∃ s', z' = .go s' ∧ St.le ⟨W, M, N, nt, G, ks.map fun k => (k, f k)⟩ S' ⟨[], rr s', nx⟩) ∨ (jmpC e = some jmp ∧ ∃ o, z' = .out o ∧ St.le ⟨W, M, N, nt, G, ks.map fun k => (k, f k)⟩ S' ⟨[], rx o, nx⟩)))
    (hdone : ∀ s, z = .go s → Q .normal ⟨t, rr s, nx⟩) (hstop : ∀ o, z = .out o → Go.Proofs.YtpeafglbhjjbhaaDoor.W Fence.wide 0 P ⟨w0, NoB, N0, nt, G, []⟩ jmp ⟨t, rx o, nx⟩ Q) :
    Go.Proofs.YtpeafglbhjjbhaaDoor.W Fence.wide 0 P ⟨w0, NoB, N0, nt, G, []⟩ (.rangeFunc g ps assign body) S Q :=
  w_rangeFP [] [] hit hz rr rx ks S2 hcs eg hle hg hps hpn hpl hpin hks rfl hfo hfo2 (fun l W M N f s y _ => hasg l W M N f s y) (fun l W M N f s y z' _ h => hbody l W M N f s y z' h) (fun _ _ _ _ _ _ _ _ _ _ _ hp => nomatch hp) hdone hstop
end Go.Proofs.YtpeafglbhjjbhaaDoor

