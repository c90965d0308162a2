/- Deep words, six and twentieth part: what is read, seen in other ways. -/
import Derived.Test.YtpeafglbhjjbhaaDoorDY
namespace Go.Proofs.YtpeafglbhjjbhaaDoor
open Go Go.RowKit

/-- Whatever can be read as the one can be read as the other. -/
def Wk (c c' : CT) : Prop := ∀ (w : World) (N : Nat → Prop) (u : Value), RD w N c u → RD w N c' u
theorem Wk.refl (c : CT) : Wk c c := fun _ _ _ h => h
theorem Wk.trans {a b c : CT} (h : Wk a b) (k : Wk b c) : Wk a c := fun w N u x => k w N u (h w N u x)
theorem Wk.ro {c c' : CT} (h : Wk c c') : Wk (.ro c) c' := fun w N u x => by cases x with | ro x => exact h w N u x
theorem Wk.un (c : CT) : Wk c .un := fun _ _ u _ => .un u
theorem Wk.nil (e sz : Nat) : Wk (.v (.slice none 0 0)) (.sl e sz []) := fun w N u x => by
  cases x
  exact .sl none 0 0 0 0 (fun _ _ => undef) rfl (fun h => absurd rfl h) (Nat.le_refl _) (by omega) (by simp) (fun i o es c hi => by simp at hi) (fun i o es c hi => by simp at hi) (fun i o es c hi => by simp at hi)
theorem Wk.nz (c : CT) : Wk (.nz c) c := fun w N u x => by cases x with | nz x => exact x
inductive WkL : List CT → List CT → Prop
  | nil : WkL [] []
  | cons {c c' : CT} {l l' : List CT} (h : Wk c c') (h' : WkL l l') : WkL (c :: l) (c' :: l')
theorem WkL.at_ {l l' : List CT} (h : WkL l l') : l.length = l'.length ∧ ∀ (j : Nat) (c' : CT), l'[j]? = some c' → ∃ c : CT, l[j]? = some c ∧ Wk c c' := by
  induction h with
  | nil => exact ⟨rfl, fun j c hj => by simp at hj⟩
  | cons h _ ih =>
    refine ⟨by simp [ih.1], fun j c hj => ?_⟩
    cases j with
    | zero => simp at hj; subst hj; exact ⟨_, rfl, h⟩
    | succ j => simpa using ih.2 j c (by simpa using hj)
theorem WkL.refl : ∀ l : List CT, WkL l l
  | [] => .nil
  | c :: l => .cons (.refl c) (.refl l)
/-- Rows, element by element. -/
inductive WkE : List (List CT) → List (List CT) → Prop
  | nil : WkE [] []
  | cons {c c' : List CT} {l l' : List (List CT)} (h : WkL c c') (h' : WkE l l') : WkE (c :: l) (c' :: l')
theorem WkE.at_ {l l' : List (List CT)} (h : WkE l l') : l.length = l'.length ∧ ∀ (i : Nat) (es' : List CT), l'[i]? = some es' → ∃ es : List CT, l[i]? = some es ∧ WkL es es' := by
  induction h with
  | nil => exact ⟨rfl, fun j c hj => by simp at hj⟩
  | cons h _ ih =>
    refine ⟨by simp [ih.1], fun j c hj => ?_⟩
    cases j with
    | zero => simp at hj; subst hj; exact ⟨_, rfl, h⟩
    | succ j => simpa using ih.2 j c (by simpa using hj)
theorem WkE.map {α : Type} {φ ψ : α → List CT} (h : ∀ x, WkL (φ x) (ψ x)) : ∀ l : List α, WkE (l.map φ) (l.map ψ)
  | [] => .nil
  | x :: l => .cons (h x) (WkE.map h l)
theorem Wk.sl {e sz : Nat} {els els' : List (List CT)} (h : WkE els els') : Wk (.sl e sz els) (.sl e sz els') := fun w N u x => by
  obtain ⟨hl, ha⟩ := h.at_
  cases x with
  | sl A b off n cap us hn hA hc hm hz hw h1 hr =>
    have key : ∀ (i o : Nat) (es' : List CT) (c' : CT), els'[i]? = some es' → es'[o]? = some c' → ∃ (es : List CT) (c : CT), els[i]? = some es ∧ es[o]? = some c ∧ Wk c c' := fun i o es' c' hi ho => by
      obtain ⟨es, h1, h2⟩ := ha i es' hi
      obtain ⟨c, h3, h4⟩ := h2.at_.2 o c' ho
      exact ⟨es, c, h1, h3, h4⟩
    refine .sl A b off n cap us (by rw [← hl]; exact hn) (fun hne => hA fun e => hne (by subst e; exact List.eq_nil_of_length_eq_zero (by rw [← hl]; rfl))) hc hm ?_ ?_ ?_ ?_
    · intro es' he
      obtain ⟨i, hi, rfl⟩ := List.getElem_of_mem he
      obtain ⟨es, g1, g2⟩ := ha i _ (List.getElem?_eq_getElem hi)
      rw [← g2.at_.1]
      exact hz es (List.mem_of_getElem? g1)
    · intro i o es' c' hi ho
      obtain ⟨es, c, g1, g2, _⟩ := key i o es' c' hi ho
      exact hw i o es c g1 g2
    · intro i o es' c' hi ho
      obtain ⟨es, c, g1, g2, _⟩ := key i o es' c' hi ho
      exact h1 i o es c g1 g2
    · intro i o es' c' hi ho
      obtain ⟨es, c, g1, g2, g3⟩ := key i o es' c' hi ho
      exact g3 w N _ (hr i o es c g1 g2)
theorem Wk.rp {l l' : List CT} {o : Nat} (h : WkL l l') : Wk (.rp l o) (.rp l' o) := fun w N u x => by
  obtain ⟨_, ha⟩ := h.at_
  cases x with
  | rp b off us hN hw hr =>
    refine .rp b off us hN (fun j c' hj => ?_) (fun j c' hj => ?_)
    · obtain ⟨c, g1, _⟩ := ha j c' hj
      exact hw j c g1
    · obtain ⟨c, g1, g2⟩ := ha j c' hj
      exact g2 w N _ (hr j c g1)
theorem Wk.fn (f : Fn) {l l' : List CT} (h : WkL l l') : Wk (.fn f [] l) (.fn f [] l') := fun w N u x => by
  cases x with
  | fn us vs hl hl' hr hr' =>
    obtain ⟨h1, h2⟩ := h.at_
    refine .fn us vs hl (hl'.trans h1) (fun j c hj => by simp at hj) fun j c hj => ?_
    obtain ⟨c0, g1, g2⟩ := h2 j c hj
    exact g2 _ _ _ (hr' j c0 g1)
theorem Wk.ag {l l' : List CT} (h : WkL l l') : Wk (.ag l) (.ag l') := fun w N u x => by
  obtain ⟨hl, ha⟩ := h.at_
  cases x with
  | ag us hs hr =>
    refine .ag us (by rw [hs, hl]) fun j c' hj => ?_
    obtain ⟨c, g1, g2⟩ := ha j c' hj
    exact g2 w N _ (hr j c g1)
section
variable {F : Fence} {n : Nat} {P : Program} {X : Cx} {ops : Array Oper} {t : List (Nat × CT)} {r : List (Nat × Option Root)} {nx : Nat} [hF : Wd F] {dst ty : Nat} {pos : String} {af : Array Edge}
omit hF in
/-- A slot, seen in another way. -/
theorem le_wk (s : Nat) {c c' : CT} (h : St.tm ⟨t, r, nx⟩ s = .ro c) (hw : Wk c c') : St.le X ⟨t, r, nx⟩ ⟨(s, .ro c') :: t, r, nx⟩ := fun a w hR => by
  obtain ⟨N, bs, FP, hR⟩ := hR
  have hfs : ∀ f, St.tm ⟨(s, .ro c') :: t, r, nx⟩ FS = .fo f → St.tm ⟨t, r, nx⟩ FS = .fo f := fun f hf => by
    by_cases e : s = FS
    · have h2 : St.tm ⟨(s, .ro c') :: t, r, nx⟩ FS = .ro c' := by rw [← e]; exact lk_same _ _ _ _
      rw [h2] at hf
      cases hf
    · have h2 : St.tm ⟨(s, .ro c') :: t, r, nx⟩ FS = St.tm ⟨t, r, nx⟩ FS := lk_ne _ _ _ e
      rw [h2] at hf
      exact hf
  refine ⟨N, bs, FP, { hR with fo := fun f hf => hR.fo f (hfs f hf), ts := fun q => ?_ }⟩
  show HV w N bs NoB (if s = q then .ro c' else lk .un t q) _
  split
  · rename_i e
    subst e
    have h1 := hR.ts s
    rw [h] at h1
    exact .ro (hw w N _ h1.out_ro)
  · exact hR.ts q
end
/-- A contract, of arguments that say as much. -/
theorem AC.rd {P : Program} {G : List (Nat × List CT)} {f : FuncId} {cs cs' : List CT} {post : CT → Prop} (h : AC P G f cs post) (hw : WkL cs' cs) : AC P G f cs' post := fun w N vs hN hl hr hG => by
  obtain ⟨g1, g2⟩ := hw.at_
  exact h w N vs hN (by rw [hl, g1]) (fun j c hj => by
    obtain ⟨c', e1, e2⟩ := g2 j c hj
    exact e2 w N _ (hr j c' e1)) hG
end Go.Proofs.YtpeafglbhjjbhaaDoor

