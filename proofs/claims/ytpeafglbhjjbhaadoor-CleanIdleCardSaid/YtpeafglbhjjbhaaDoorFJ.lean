/- Addresses that are known: what a function yields that hands out places of a thing of its caller's. -/
import Derived.Test.YtpeafglbhjjbhaaDoorFH
import Derived.Test.YtpeafglbhjjbhaaDoorFI
namespace Go.Proofs.YtpeafglbhjjbhaaDoor
open Go Go.RowKit

theorem RelI.pkd {X : Cx} {U : Nat → Prop} {S : St} {a : Act} {w : World} {N : Nat → Prop} {bs : Bs} {FP : Nat → Nat → Prop} (h : RelI X U S a w N bs FP) {k : Nat} {x : Option (Nat × Nat × Nat)} (hb : bs k = some x) : RelI { X with pk := (k, x) :: X.pk } U S a w N bs FP :=
  { h with pk := fun p hp => (List.mem_cons.1 hp).elim (fun e => by subst e; exact hb) (h.pk p) }
section
variable {F : Fence} {n : Nat} {P : Program} {X : Cx} {S : St} {Q : Exit → St → Prop} {c : Code}
theorem w_unpk (k : Nat) {R : Root} (hr : S.rt k = some R) (h : ∀ x, (x = none → R.els = []) → W F n P { X with pk := (k, x) :: X.pk } c S Q) : W F n P X c S Q := by
  intro a w hR
  obtain ⟨N, bs, FP, hI⟩ := hR
  obtain ⟨x, hx, hv⟩ := hI.rs k R hr
  have hn : x = none → R.els = [] := fun e => by
    subst e
    simp only [hdr] at hv
    generalize R.els = els at hv
    cases hv
    rfl
  refine wpIn_mono (h x hn a w ⟨N, bs, FP, hI.pkd hx⟩) ?_
  rintro e a' w' ⟨S', ⟨N', bs', FP', h'⟩, hq⟩
  exact ⟨S', ⟨N', bs', FP', { h' with pk := fun p hp => h'.pk p (List.mem_cons_of_mem _ hp) }⟩, hq⟩
/-- A root's place gets a name. -/
theorem w_reveal (k : Nat) {e sz : Nat} {es : List CT} {l : List (List CT)} (hr : S.rt k = some ⟨e, sz, es :: l⟩) (h : ∀ g off cap, W F n P { X with pk := (k, some (g, off, cap)) :: X.pk } c S Q) : W F n P X c S Q :=
  w_unpk k hr fun x hx => by
    cases x with
    | none => exact absurd (hx rfl) (by simp)
    | some x => obtain ⟨g, off, cap⟩ := x; exact h g off cap
end
section
variable {X : Cx} {t : List (Nat × CT)} {r : List (Nat × Option Root)} {nx : Nat}
/-- A slot in other words. -/
theorem le_slot (s : Nat) {c c' : CT} (h : St.tm ⟨t, r, nx⟩ s = c) (hn : noFo c' = true) (hw : ∀ U a w N bs FP u, RelI X U ⟨t, r, nx⟩ a w N bs FP → HV w N bs NoB c u → HV w N bs NoB c' u) : St.le X ⟨t, r, nx⟩ ⟨(s, c') :: t, r, nx⟩ := fun a w hR => by
  obtain ⟨N, bs, FP, hR⟩ := hR
  have hfs : ∀ f, St.tm ⟨(s, c') :: t, r, nx⟩ FS = .fo f → St.tm ⟨t, r, nx⟩ FS = .fo f := fun f hf => by
    by_cases e : s = FS
    · have h2 : St.tm ⟨(s, c') :: t, r, nx⟩ FS = c' := by rw [← e]; exact lk_same _ _ _ _
      rw [h2] at hf
      exact absurd hf (noFo_ok hn f)
    · have h2 : St.tm ⟨(s, c') :: t, r, nx⟩ FS = St.tm ⟨t, r, nx⟩ FS := lk_ne _ _ _ e
      rw [h2] at hf
      exact hf
  refine ⟨N, bs, FP, { hR with fo := fun f hf => hR.fo f (hfs f hf), ts := fun q => ?_ }⟩
  show HV w N bs NoB (if s = q then c' else lk .un t q) _
  split
  · rename_i e
    subst e
    have h1 := hR.ts s
    rw [h] at h1
    exact hw _ a w N bs FP _ hR h1
  · exact hR.ts q
theorem le_ptr (s : Nat) {k sz i o g off off' cap : Nat} (h : St.tm ⟨t, r, nx⟩ s = .ad k sz i o) (hp : (k, some (g, off, cap)) ∈ X.pk) (e : off + (i * sz + o) = off') : St.le X ⟨t, r, nx⟩ ⟨(s, .v (.pointer (some ⟨g, off', none⟩))) :: t, r, nx⟩ :=
  le_slot s h rfl fun U a w N bs FP u hR hu => by
    subst e
    cases hu with
    | ad g' off' cap' hb =>
      have := (hR.pk _ hp).symm.trans hb
      cases this
      exact .v _
theorem le_ad (s : Nat) {k sz i o g off off' cap : Nat} (h : St.tm ⟨t, r, nx⟩ s = .v (.pointer (some ⟨g, off', none⟩))) (hp : (k, some (g, off, cap)) ∈ X.pk) (e : off + (i * sz + o) = off') : St.le X ⟨t, r, nx⟩ ⟨(s, .ad k sz i o) :: t, r, nx⟩ :=
  le_slot s h rfl fun U a w N bs FP u hR hu => by
    subst e
    rw [hu.val]
    exact .ad g off cap (hR.pk _ hp)
/-- The places of a step's values: those of its fields, those of its list. -/
def opPl (g off : Nat) (x : Option (Nat × Nat × Nat)) : Nat → Addr
  | 0 => ⟨g, off + 1, none⟩
  | 1 => ⟨g, off + 2, none⟩
  | 2 => ⟨g, off + 3, none⟩
  | i + 3 => ⟨(x.getD (0, 0, 0)).1, (x.getD (0, 0, 0)).2.1 + i, none⟩
theorem le_adL (s : Nat) {k i g off e : Nat} {x : Option (Nat × Nat × Nat)} {els : List (List CT)} (h : St.tm ⟨t, r, nx⟩ s = .v (.pointer (some (opPl g off x (i + 3))))) (hp : (k, x) ∈ X.pk) (hr : St.rt ⟨t, r, nx⟩ k = some ⟨e, 1, els⟩) (hi : i < els.length) : St.le X ⟨t, r, nx⟩ ⟨(s, .ad k 1 i 0) :: t, r, nx⟩ :=
  le_slot s h rfl fun U a w N bs FP u hR hu => by
    rw [hu.val]
    have hb : bs k = some x := hR.pk (k, x) hp
    cases x with
    | none =>
      obtain ⟨y, hy, hv⟩ := hR.rs k _ hr
      rw [hb] at hy
      cases hy
      simp only [hdr] at hv
      cases hv
      simp at hi
    | some x =>
      obtain ⟨b, o, cap⟩ := x
      have := HV.ad (w := w) (N := N) (bs := bs) (P := NoB) (sz := 1) (i := i) (o := 0) b o cap hb
      simpa [opPl] using this
end
theorem pk_of {ks : List Nat} {f : Pk} {pk0 : List (Nat × Option (Nat × Nat × Nat))} (hf : ∀ p ∈ pk0, f p.1 = p.2) {p : Nat × Option (Nat × Nat × Nat)} (hp : p ∈ pk0) (hk : ks.elem p.1 = true) : p ∈ ks.map fun k => (k, f k) :=
  List.mem_map.2 ⟨p.1, by simpa using hk, by rw [hf p hp]⟩
theorem plC4 (y : Nat) : y = 0 ∨ y = 1 ∨ y = 2 ∨ ∃ i, y = i + 3 := by
  rcases y with _ | _ | _ | i
  · exact .inl rfl
  · exact .inr (.inl rfl)
  · exact .inr (.inr (.inl rfl))
  · exact .inr (.inr (.inr ⟨i, rfl⟩))
def placeC {α : Type} (y : Nat) (a b c : α) (d : Nat → α) : α := match y with
  | 0 => a
  | 1 => b
  | 2 => c
  | i + 3 => d i
section
variable {α : Type} {a b c z : α} {d : Nat → α} {i : Nat}
theorem pl0 (h : placeC 0 a b c d = z) : a = z := h
theorem pl1 (h : placeC 1 a b c d = z) : b = z := h
theorem pl2 (h : placeC 2 a b c d = z) : c = z := h
theorem pl3 (h : placeC (i + 3) a b c d = z) : d i = z := h
end
abbrev plC (pl : Nat → Addr) (y : Nat) : List CT := [.v (.pointer (some (pl y)))]
theorem k_plC {pl : Nat → Addr} {b : Bool} (y : Nat) : ∀ c ∈ plC pl y, Cl b c := fun c hc => by
  rw [List.mem_singleton.1 hc]
  exact .v _
section
variable {F : Fence} {n : Nat} {P : Program} {X : Cx} {ops : Array Oper} {t : List (Nat × CT)} {r : List (Nat × Option Root)} {nx : Nat} [hF : Wd F] {dst ty : Nat} {pos : String} {af : Array Edge}
theorem l_loadFo {T : Nat} {x : Operand} {a : Addr} {v : Value} {σ : Type} {J : σ → World → (Nat → Prop) → (Nat → Prop) → Prop} {B : Nat} {hJ : Stb B J} {s : σ} {rd : List (Addr × Value)} (hT : TyI P T false 1) (h : St.ev ⟨t, r, nx⟩ x = .v (.pointer (some a))) (hs : St.tm ⟨t, r, nx⟩ FS = .fo (foJ hJ s)) (hRd : ∀ s W F' N', J s W F' N' → ∀ p ∈ rd, W.cell? p.1 = some p.2) (hm : (a, v) ∈ rd) :
    Sg F n P X ops ⟨some dst, .load T x, ty, pos, af, none⟩ t r nx ⟨(FS, .fo (foJ hJ s)) :: needO x (.v (.pointer (some a))), []⟩ [] ⟨[(dst, .v v)], []⟩ :=
  sg_q (by simp) ⟨fun p hp => (List.mem_cons.1 hp).elim (fun e => by subst e; exact hs) (need_ok h p), fun p hp => by cases hp⟩ fun U S A w N bs FP hd hR => by
    have he := hR.ev_v (ev_again h fun p hp => hd.t p (List.mem_cons_of_mem _ hp))
    obtain ⟨_, F, g1, _⟩ := hR.fo _ (hd.t (FS, .fo (foJ hJ s)) List.mem_cons_self)
    have hc := hRd s w F N g1 _ hm
    refine ⟨v, ?_, .v _⟩
    simp [execOp, Instr.loadAt, Instr.sureAddr, he, loadVar, hT.ag, hc]
theorem l_fieldP {T : Nat} {x : Operand} {f b o off : Nat} (hT : FdI P T f off) (h : St.ev ⟨t, r, nx⟩ x = .v (.pointer (some ⟨b, o, none⟩))) : Sg F n P X ops ⟨some dst, .fieldAddr T x f, ty, pos, af, none⟩ t r nx ⟨needO x (.v (.pointer (some ⟨b, o, none⟩))), []⟩ [] ⟨[(dst, .v (.pointer (some ⟨b, o + off, none⟩)))], []⟩ :=
  sg_v1 (by simp) h fun ρ w h1 => by simp [execOp, h1, hT.run]
theorem l_nilP {x : Operand} {a : Addr} (h : St.ev ⟨t, r, nx⟩ x = .v (.pointer (some a))) : Sg F n P X ops ⟨some dst, .nilCheck x, ty, pos, af, none⟩ t r nx ⟨needO x (.v (.pointer (some a))), []⟩ [] ⟨[(dst, .v (.pointer (some a)))], []⟩ :=
  sg_v1 (by simp) h fun ρ w h1 => by simp [execOp, h1]
theorem l_lenP {T e s : Nat} {x : Operand} {y : Option (Nat × Nat × Nat)} {m : Nat} {at_ : Array TypeId} (hT : SlI P T e s) (hat : at_ = #[T]) (hx : St.ev ⟨t, r, nx⟩ x = .v (hdr y m)) (hy : y = none → m = 0) :
    Sg F n P X ops ⟨some dst, .call { callee := .builtin .len, args := #[x], argTypes := at_ }, ty, pos, af, none⟩ t r nx ⟨needO x (.v (hdr y m)), []⟩ [] ⟨[(dst, .v (.int .i64 m))], []⟩ := by
  cases y with
  | none =>
    have := hy rfl
    subst this
    exact l_lenNil hT hat hx
  | some y => obtain ⟨g, o, cap⟩ := y; exact l_lenNil hT hat hx
theorem l_indexP {T e : Nat} {x y : Operand} {h0 : Option (Nat × Nat × Nat)} {g off m : Nat} {kd : IntKind} {z : Int} (j : Nat) (hT : SlI P T e 1) (hx : St.ev ⟨t, r, nx⟩ x = .v (hdr h0 m)) (hy : St.ev ⟨t, r, nx⟩ y = .v (.int kd z)) (hz : z = (j : Int)) (hj : j < m) (h0n : h0 = none → m = 0) :
    Sg F n P X ops ⟨some dst, .indexAddr T x y, ty, pos, af, none⟩ t r nx ⟨needO x (.v (hdr h0 m)) ++ needO y (.v (.int kd z)), []⟩ [] ⟨[(dst, .v (.pointer (some (opPl g off h0 (j + 3)))))], []⟩ :=
  sg_v2 (by simp) hx hy fun ρ w h1 h2 => by
    subst hz
    cases h0 with
    | none => have := h0n rfl; omega
    | some p =>
      obtain ⟨b, o, cap⟩ := p
      have h3 : (j : Int) < (m : Int) := by omega
      simp [execOp, Instr.indexAt, h1, h2, hdr, opPl, asIntOf, run_underlying hT.u, hT.sz, h3, add_plain']
      intro hh; omega
end
/-- What the one that yields may read of the thing. -/
theorem rd_op {X : Cx} {U : Nat → Prop} {S : St} {a : Act} {w : World} {N : Nat → Prop} {bs : Bs} {FP : Nat → Nat → Prop} (h : RelI X U S a w N bs FP) {k kL g off cap e sz m : Nat} {x : Option (Nat × Nat × Nat)} {es : List CT} {v : Value} (hk : bs k = some (some (g, off, cap))) (hr : S.rt k = some ⟨e, sz, [es]⟩) (h0 : es[0]? = some (.v v)) (h6 : es[6]? = some (.rf kL 0 m 1)) (hx : bs kL = some x) : ∀ p ∈ [((⟨g, off, none⟩ : Addr), v), (⟨g, off + 6, none⟩, hdr x m)], w.cell? p.1 = some p.2 := by
  intro p hp
  simp only [List.mem_cons, List.not_mem_nil, or_false] at hp
  rcases hp with rfl | rfl
  · obtain ⟨u, hu, hv⟩ := h.cell hk hr (i := 0) rfl h0 rfl
    rw [hv.val] at hu
    simpa using hu
  · obtain ⟨u, hu, hv⟩ := h.cell hk hr (i := 0) rfl h6 rfl
    have e : u = hdr x m := by
      cases hv with
      | rf A g' off' cap' hb hn hm hA =>
        have := hx.symm.trans hb
        cases this
        have hA' := hA (.inr rfl)
        subst hA'
        simp [hdr]
      | rfNil hb =>
        have := hx.symm.trans hb
        cases this
        rfl
    rw [e] at hu
    simpa using hu
end Go.Proofs.YtpeafglbhjjbhaaDoor

