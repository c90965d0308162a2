/- Deep words, first part: what a value is good for, read (RD) and held (HV). -/
import Derived.Test.YtpeafglbhjjbhaaDoorBase
namespace Go.Proofs.YtpeafglbhjjbhaaDoor
open Go

/-- What somebody else holds: Φ says it, of a world, of the blocks that are his, and of those that nobody writes; what lay below B stays. -/
structure Fo where
  Φ : World → (Nat → Prop) → (Nat → Prop) → Prop
  B : Nat
  st : ∀ w w' F N N', Φ w F N → (∀ k, N k → N' k) → (∀ k, N k → w'.heap[k]? = w.heap[k]?) → w.heap.size ≤ w'.heap.size → w'.os = w.os → w'.tape = w.tape → w'.output = w.output → (∀ k, F k → w'.heap[k]? = w.heap[k]?) → (∀ k, k < B → w'.heap[k]? = w.heap[k]?) → Φ w' F N'
/-- What is known of a value. -/
inductive CT where
  | fo (f : Fo)
  | v (x : Value)
  | un
  | sl (e sz : Nat) (els : List (List CT))
  | nz (c : CT)
  | ro (c : CT)
  | rp (els : List CT) (o : Nat)
  | rf (r lo n sz : Nat)
  | ad (r sz i o : Nat)
  | ag (l : List CT)
  | tu (l : List CT)
  | fn (f : Fn) (a b : List CT)
  | gd (b : Bool) (c : CT)
  | op (e sz : Nat) (es : List CT)

/-- It is read, in blocks of N. -/
inductive RD (w : World) (N : Nat → Prop) : CT → Value → Prop
  | v (x : Value) : RD w N (.v x) x
  | un (u : Value) : RD w N .un u
  | ro {c : CT} {u : Value} (h : RD w N c u) : RD w N (.ro c) u
  | nz {c : CT} {a : Addr} {n cap : Nat} (h : RD w N c (.slice (some a) n cap)) : RD w N (.nz c) (.slice (some a) n cap)
  | sl {e sz : Nat} {els : List (List CT)} (A : Option Addr) (b off n cap : Nat) (us : Nat → Nat → Value) (hn : els.length = n) (hA : els ≠ [] → A = some ⟨b, off, none⟩ ∧ N b) (hc : n ≤ cap) (hm : cap ≤ 9223372036854775807)
      (hz : ∀ es ∈ els, es.length = sz) (hw : ∀ i o es c, els[i]? = some es → es[o]? = some c → w.cell? ⟨b, off + (i * sz + o), none⟩ = some (us i o))
      (h1 : ∀ i o es c, els[i]? = some es → es[o]? = some c → (us i o).oneCell' = true) (hr : ∀ i o es c, els[i]? = some es → es[o]? = some c → RD w N c (us i o)) : RD w N (.sl e sz els) (.slice A n cap)
  | rp {els : List CT} {o : Nat} (b off : Nat) (us : Nat → Value) (hN : N b) (hw : ∀ j c, els[j]? = some c → w.cell? ⟨b, off + j, none⟩ = some (us j))
      (hr : ∀ j c, els[j]? = some c → RD w N c (us j)) : RD w N (.rp els o) (.pointer (some ⟨b, off + o, none⟩))
  | ag {l : List CT} (us : Array Value) (hl : us.size = l.length) (hr : ∀ j c, l[j]? = some c → RD w N c (us.getD j undef)) : RD w N (.ag l) (.agg us)
  | fn {f : Fn} {a b : List CT} (us vs : Array Value) (hl : us.size = a.length) (hl' : vs.size = b.length) (hr : ∀ j c, a[j]? = some c → RD w N c (us.getD j undef)) (hr' : ∀ j c, b[j]? = some c → RD w N c (vs.getD j undef)) : RD w N (.fn f a b) (.func f us vs)

abbrev NoB : Nat → Prop := fun _ => False
abbrev Bs := Nat → Option (Option (Nat × Nat × Nat))

/-- It is held, in blocks of P; read ones in blocks of N; refs by bs. -/
inductive HV (w : World) (N : Nat → Prop) (bs : Bs) : (Nat → Prop) → CT → Value → Prop
  | v {P : Nat → Prop} (x : Value) : HV w N bs P (.v x) x
  | un {P : Nat → Prop} (u : Value) : HV w N bs P .un u
  | fo {P : Nat → Prop} (f : Fo) (u : Value) : HV w N bs P (.fo f) u
  | ro {P : Nat → Prop} {c : CT} {u : Value} (h : RD w N c u) : HV w N bs P (.ro c) u
  | rf {P : Nat → Prop} {r lo n sz : Nat} (A : Option Addr) (g off cap : Nat) (hb : bs r = some (some (g, off, cap))) (hn : lo + n ≤ cap) (hm : cap ≤ 9223372036854775807) (hA : lo < cap ∨ lo = 0 → A = some ⟨g, off + lo * sz, none⟩) : HV w N bs P (.rf r lo n sz) (.slice A n (cap - lo))
  | rfNil {P : Nat → Prop} {r sz : Nat} (hb : bs r = some none) : HV w N bs P (.rf r 0 0 sz) (.slice none 0 0)
  | ad {P : Nat → Prop} {r sz i o : Nat} (g off cap : Nat) (hb : bs r = some (some (g, off, cap))) : HV w N bs P (.ad r sz i o) (.pointer (some ⟨g, off + (i * sz + o), none⟩))
  | ag {P : Nat → Prop} {l : List CT} (us : Array Value) (hl : us.size = l.length) (hr : ∀ j c, l[j]? = some c → HV w N bs NoB c (us.getD j undef)) : HV w N bs P (.ag l) (.agg us)
  | tu {P : Nat → Prop} {l : List CT} (us : Array Value) (hl : us.size = l.length) (hr : ∀ j c, l[j]? = some c → HV w N bs NoB c (us.getD j undef)) : HV w N bs P (.tu l) (.tuple us)
  | fn {P : Nat → Prop} {f : Fn} {a b : List CT} (us vs : Array Value) (hl : us.size = a.length) (hl' : vs.size = b.length) (hr : ∀ j c, a[j]? = some c → HV w N bs NoB c (us.getD j undef)) (hr' : ∀ j c, b[j]? = some c → HV w N bs NoB c (vs.getD j undef)) : HV w N bs P (.fn f a b) (.func f us vs)
  | gd {P : Nat → Prop} {b : Bool} {c : CT} {u : Value} (h : b = true → HV w N bs NoB c u) : HV w N bs P (.gd b c) u
  | nil {P : Nat → Prop} {e sz : Nat} : HV w N bs P (.sl e sz []) (.slice none 0 0)
  | own {P : Nat → Prop} {e sz : Nat} {els : List (List CT)} (g off n cap : Nat) (cur : Array Value) (us : Nat → Nat → Value) (Q : Nat → Nat → Nat → Prop) (hn : els.length = n) (hg : P g) (hh : w.heap[g]? = some (.cells cur e (0, 0))) (hs : cur.size = off + cap * sz)
      (hc : n ≤ cap) (hm : cap ≤ 9223372036854775807) (hz : ∀ es ∈ els, es.length = sz) (hQ : ∀ i o k, Q i o k → P k ∧ k ≠ g) (hd : ∀ i o i' o' k, Q i o k → Q i' o' k → i = i' ∧ o = o')
      (hw : ∀ i o es c, els[i]? = some es → es[o]? = some c → cur[off + (i * sz + o)]? = some (us i o)) (h1 : ∀ i o es c, els[i]? = some es → es[o]? = some c → (us i o).oneCell' = true)
      (hr : ∀ i o es c, els[i]? = some es → es[o]? = some c → HV w N bs (Q i o) c (us i o)) : HV w N bs P (.sl e sz els) (.slice (some ⟨g, off, none⟩) n cap)

theorem cell_of_heap {w w' : World} {b o : Nat} (h : w'.heap[b]? = w.heap[b]?) : w'.cell? ⟨b, o, none⟩ = w.cell? ⟨b, o, none⟩ := by simp [World.cell?, h]
section
variable {w w' : World} {N N' : Nat → Prop} {bs bs' : Bs} {P P' : Nat → Prop} {c : CT} {u : Value}
theorem RD.mono (h : RD w N c u) (hw : ∀ k, N k → w'.heap[k]? = w.heap[k]?) (hN : ∀ k, N k → N' k) : RD w' N' c u := by
  induction h with
  | v x => exact .v _
  | un u => exact .un _
  | ro _ ih => exact .ro ih
  | nz _ ih => exact .nz ih
  | sl A b off n cap us hn hA hc hm hz hcell h1 _ ih =>
    refine .sl A b off n cap us hn (fun he => ⟨(hA he).1, hN _ (hA he).2⟩) hc hm hz (fun i o es c hi ho => ?_) h1 ih
    have hne : _ ≠ [] := List.ne_nil_of_mem (List.mem_of_getElem? hi)
    rw [cell_of_heap (hw _ (hA hne).2)]
    exact hcell i o es c hi ho
  | rp b off us hb hcell _ ih => exact .rp b off us (hN _ hb) (fun j c hj => by rw [cell_of_heap (hw _ hb)]; exact hcell j c hj) ih
  | ag us hl _ ih => exact .ag us hl ih
  | fn us vs hl hl' _ _ ih ih' => exact .fn us vs hl hl' ih ih'
theorem HV.mono (h : HV w N bs P c u) (hP : ∀ k, P k → P' k) : HV w N bs P' c u := by
  cases h with
  | v x => exact .v _
  | un u => exact .un _
  | fo f u => exact .fo _ _
  | ro h => exact .ro h
  | rf A g off cap hb hn hm hA => exact .rf A g off cap hb hn hm hA
  | rfNil hb => exact .rfNil hb
  | ad g off cap hb => exact .ad g off cap hb
  | ag us hl hr => exact .ag us hl hr
  | tu us hl hr => exact .tu us hl hr
  | fn us vs hl hl' hr hr' => exact .fn us vs hl hl' hr hr'
  | gd h => exact .gd h
  | nil => exact .nil
  | own g off n cap cur us Q hn hg hh hs hc hm hz hQ hd hw h1 hr => exact .own g off n cap cur us Q hn (hP _ hg) hh hs hc hm hz (fun i o k hk => ⟨hP _ (hQ i o k hk).1, (hQ i o k hk).2⟩) hd hw h1 hr
/-- The world has changed elsewhere; there are more refs. -/
theorem HV.frame (h : HV w N bs P c u) (hP : ∀ k, P k → w'.heap[k]? = w.heap[k]?) (hN : ∀ k, N k → w'.heap[k]? = w.heap[k]?) (hNN : ∀ k, N k → N' k) (hbs : ∀ r x, bs r = some x → bs' r = some x) : HV w' N' bs' P c u := by
  induction h with
  | v x => exact .v _
  | un u => exact .un _
  | fo f u => exact .fo _ _
  | ro h => exact .ro (h.mono hN hNN)
  | rf A g off cap hb hn hm hA => exact .rf A g off cap (hbs _ _ hb) hn hm hA
  | rfNil hb => exact .rfNil (hbs _ _ hb)
  | ad g off cap hb => exact .ad g off cap (hbs _ _ hb)
  | ag us hl _ ih => exact .ag us hl fun j c hj => ih j c hj (fun _ hk => hk.elim)
  | tu us hl _ ih => exact .tu us hl fun j c hj => ih j c hj (fun _ hk => hk.elim)
  | fn us vs hl hl' _ _ ih ih' => exact .fn us vs hl hl' (fun j c hj => ih j c hj (fun _ hk => hk.elim)) (fun j c hj => ih' j c hj (fun _ hk => hk.elim))
  | gd _ ih => exact .gd fun hb => ih hb (fun _ hk => hk.elim)
  | nil => exact .nil
  | own g off n cap cur us Q hn hg hh hs hc hm hz hQ hd hw h1 _ ih =>
    exact .own g off n cap cur us Q hn hg ((hP g hg).trans hh) hs hc hm hz hQ hd hw h1 fun i o es c hi ho => ih i o es c hi ho fun k hk => hP k (hQ i o k hk).1
theorem HV.refs (h : HV w N bs P c u) (hbs : ∀ r x, bs r = some x → bs' r = some x) : HV w N bs' P c u := h.frame (fun _ _ => rfl) (fun _ _ => rfl) (fun _ h => h) hbs
end
theorem HV.val {w : World} {N : Nat → Prop} {bs : Bs} {P : Nat → Prop} {x u : Value} (h : HV w N bs P (.v x) u) : u = x := by cases h; rfl
theorem HV.out_ro {w : World} {N : Nat → Prop} {bs : Bs} {P : Nat → Prop} {c : CT} {u : Value} (h : HV w N bs P (.ro c) u) : RD w N c u := by cases h with | ro h => exact h
/-- Closed: no refs; b: there may be parts that are read. -/
inductive Cl (b : Bool) : CT → Prop
  | v (x : Value) : Cl b (.v x)
  | un : Cl b .un
  | ro (c : CT) (h : b = true) : Cl b (.ro c)
  | sl (e sz : Nat) {els : List (List CT)} (h : ∀ es ∈ els, ∀ c ∈ es, Cl b c) : Cl b (.sl e sz els)
  | fn (f : Fn) {l : List CT} (h : ∀ c ∈ l, Cl b c) : Cl b (.fn f [] l)
section
variable {w w' : World} {N N' : Nat → Prop} {bs bs' : Bs} {P P' : Nat → Prop} {c : CT} {u : Value} {b : Bool}
/-- What is held and closed can be read. -/
theorem HV.rd (h : HV w N bs P c u) (hc : Cl b c) (hN : ∀ k, N k → N' k) (hP : ∀ k, P k → N' k) : RD w N' c u := by
  induction h with
  | v x => exact .v _
  | un u => exact .un _
  | ro h => exact .ro (h.mono (fun _ _ => rfl) hN)
  | fo => cases hc
  | rf => cases hc
  | rfNil => cases hc
  | ad => cases hc
  | ag => cases hc
  | tu => cases hc
  | fn us vs hl hl' hr hr' ih ih' => cases hc with | fn _ hc => exact .fn us vs hl hl' (fun j c hj => by simp at hj) fun j c hj => ih' j c hj (hc c (List.mem_of_getElem? hj)) fun _ h => h.elim
  | gd => cases hc
  | nil => exact .sl none 0 0 0 0 (fun _ _ => undef) rfl (fun h => absurd rfl h) (Nat.le_refl _) (by omega) (by simp) (fun i o es c hi => by simp at hi) (fun i o es c hi => by simp at hi) (fun i o es c hi => by simp at hi)
  | own g off n cap cur us Q hn hg hh hs hc' hm hz hQ hd hw h1 _ ih =>
    cases hc with
    | sl _ _ hc =>
    refine .sl (some ⟨g, off, none⟩) g off n cap us hn (fun _ => ⟨rfl, hP _ hg⟩) hc' hm hz (fun i o es c hi ho => ?_) h1 (fun i o es c hi ho => ih i o es c hi ho (hc es (List.mem_of_getElem? hi) c (List.mem_of_getElem? ho)) fun k hk => hP k (hQ i o k hk).1)
    simp only [World.cell?, hh]
    simpa using hw i o es c hi ho
/-- Closed: the refs don't matter. -/
theorem HV.shut (h : HV w N bs P c u) (hc : Cl b c) : HV w N bs' P c u := by
  induction h with
  | v x => exact .v _
  | un u => exact .un _
  | ro h => exact .ro h
  | fo => cases hc
  | rf => cases hc
  | rfNil => cases hc
  | ad => cases hc
  | ag => cases hc
  | tu => cases hc
  | fn us vs hl hl' hr hr' ih ih' => cases hc with | fn _ hc => exact .fn us vs hl hl' (fun j c hj => by simp at hj) fun j c hj => ih' j c hj (hc c (List.mem_of_getElem? hj))
  | gd => cases hc
  | nil => exact .nil
  | own g off n cap cur us Q hn hg hh hs hc' hm hz hQ hd hw h1 _ ih =>
    cases hc with
    | sl _ _ hc => exact .own g off n cap cur us Q hn hg hh hs hc' hm hz hQ hd hw h1 fun i o es c hi ho => ih i o es c hi ho (hc es (List.mem_of_getElem? hi) c (List.mem_of_getElem? ho))
/-- Closed, nothing read: N doesn't matter. -/
theorem HV.any (h : HV w N bs P c u) (hc : Cl false c) : HV w N' bs' P c u := by
  induction h with
  | v x => exact .v _
  | un u => exact .un _
  | ro h => cases hc with | ro _ h => cases h
  | fo => cases hc
  | rf => cases hc
  | rfNil => cases hc
  | ad => cases hc
  | ag => cases hc
  | tu => cases hc
  | fn us vs hl hl' hr hr' ih ih' => cases hc with | fn _ hc => exact .fn us vs hl hl' (fun j c hj => by simp at hj) fun j c hj => ih' j c hj (hc c (List.mem_of_getElem? hj))
  | gd => cases hc
  | nil => exact .nil
  | own g off n cap cur us Q hn hg hh hs hc' hm hz hQ hd hw h1 _ ih =>
    cases hc with
    | sl _ _ hc => exact .own g off n cap cur us Q hn hg hh hs hc' hm hz hQ hd hw h1 fun i o es c hi ho => ih i o es c hi ho (hc es (List.mem_of_getElem? hi) c (List.mem_of_getElem? ho))
end
end Go.Proofs.YtpeafglbhjjbhaaDoor

