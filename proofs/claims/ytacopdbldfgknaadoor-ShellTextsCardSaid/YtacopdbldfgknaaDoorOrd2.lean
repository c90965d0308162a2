/- A region that draws its order: reads may be taken first, under a condition on the world, till one of the operations zs has come up. -/
import Derived.Test.YtacopdbldfgknaaDoorOrd
namespace Go.Proofs.YtacopdbldfgknaaDoor
open Go
section
variable {P : Program} {ops : Array Oper} {Q : Exit → Act → World → Prop} {md : Region.Mode} {S : World → Prop} {zs : List Nat}

def nozB (zs : List Nat) (listed : Array Bool) : Bool := zs.all fun z => !listed.getD z false
/-- Till one of zs has come up the world meets S. -/
def wpY (P : Program) (md : Region.Mode) (ops : Array Oper) (Q : Exit → Act → World → Prop) (S : World → Prop) (zs : List Nat) : Nat → Array Bool → Act → World → Prop
  | 0, listed, a, w => Region.ready md ops listed = [] ∧ Q .normal a w
  | fuel + 1, listed, a, w =>
    (Region.ready md ops listed = [] → Q .normal a w) ∧
    ∀ i ∈ Region.ready md ops listed, wpOp P ops Q i (fun a' w' => (nozB zs (listed.setIfInBounds i true) = true → S w') ∧ wpY P md ops Q S zs fuel (listed.setIfInBounds i true) a' w') a w

theorem wpAny_of_wpY : ∀ (fuel : Nat) (listed : Array Bool) (a : Act) (w : World), wpY P md ops Q S zs fuel listed a w → wpAny P md ops Q fuel listed a w
  | 0, _, _, _, h => h
  | fuel + 1, _, _, _, h => ⟨h.1, fun i hi => wpOp_mono (fun a' w' h' => wpAny_of_wpY fuel _ a' w' h'.2) (h.2 i hi)⟩
/-- Each of zs waits for i. -/
def lateB (md : Region.Mode) (ops : Array Oper) (zs : List Nat) (i : Nat) : Bool := zs.all fun z => z != i && afterB md ops 3 z i
theorem getD_set_iff {l : Array Bool} {i k : Nat} (h : (l.setIfInBounds i true).getD k false = true) : k = i ∨ l.getD k false = true := by
  by_cases e : k = i
  · exact .inl e
  · refine .inr ?_
    rcases Nat.lt_or_ge k l.size with h' | h'
    · simp [h', Ne.symm e] at h
      simp [h', h]
    · simp [h'] at h
theorem noz_of {l : Array Bool} {i : Nat} (hi : zs.contains i = false) (h : nozB zs l = true) : nozB zs (l.setIfInBounds i true) = true := by
  simp only [nozB, List.all_eq_true, Bool.not_eq_true'] at h ⊢
  intro z hz
  cases hg : (l.setIfInBounds i true).getD z false with
  | false => rfl
  | true =>
    rcases getD_set_iff hg with e | e
    · subst e
      have : zs.contains z = true := by simpa using hz
      rw [hi] at this
      cases this
    · rw [h z hz] at e; cases e
theorem noz_late {i j : Nat} {l : Array Bool} (hl : lateB md ops zs i = true) (his : i < ops.size) (hc : Closed md ops l) (hj : j ∈ Region.ready md ops l) (hi : l.getD i false ≠ true) : nozB zs (l.setIfInBounds j true) = true := by
  simp only [lateB, List.all_eq_true, Bool.and_eq_true, bne_iff_ne] at hl
  simp only [nozB, List.all_eq_true, Bool.not_eq_true']
  intro z hz
  cases hg : (l.setIfInBounds j true).getD z false with
  | false => rfl
  | true =>
    exfalso
    rcases getD_set_iff hg with e | e
    · subst e
      exact hi (afterB_spec hc 3 z i his (hl z hz).2 (fun k _ hk => ready_all hj hk))
    · exact hi (afterB_spec hc 3 z i his (hl z hz).2 (fun k hk hw => hc z k hk e hw))

theorem wpY_first {i : Nat} {oi : Oper} {v : Value} (hi : ops[i]? = some oi) (hsel : ∀ (j : Nat) (o : Oper) cs b, ops[j]? = some o → o.op ≠ .select cs b)
    (hQ : ∀ c a w, Q (.panic c) (a.put oi.dst v) w → Q (.panic c) a w) (hiz : zs.contains i = false) {T : World → Prop} (hT : (∀ w, T w) ∨ ((∀ w, S w → T w) ∧ lateB md ops zs i = true)) :
    ∀ (fuel : Nat) (listed : Array Bool) (a : Act) (w : World), Closed md ops listed →
      (∀ j oj, ops[j]? = some oj → j ≠ i → listed.getD j true = false → (∀ e ∈ oj.after, Region.binds md e = true → e.on ≠ i) → oi.apart ops oj = true) →
      i ∈ Region.ready md ops listed → YieldsIf P ops T oi v a → T w → (nozB zs (listed.setIfInBounds i true) = true → S w) →
      wpY P md ops Q S zs fuel (listed.setIfInBounds i true) (a.put oi.dst v) w → wpY P md ops Q S zs (fuel + 1) listed a w := by
  have his : i < ops.size := (Array.getElem?_eq_some_iff.1 hi).1
  intro fuel
  induction fuel with
  | zero =>
    intro listed a w _ _ hr hy hTw hS H
    refine ⟨fun h => (by rw [h] at hr; cases hr), fun j hj => ?_⟩
    by_cases hji : j = i
    · subst hji; exact hy.wpOp hi hTw ⟨hS, H⟩
    · have := ready_mono hj hji
      rw [H.1] at this
      cases this
  | succ fuel ih =>
    intro listed a w hcl hfree hr hy hTw hS H
    refine ⟨fun h => (by rw [h] at hr; cases hr), fun j hj => ?_⟩
    by_cases hji : j = i
    · subst hji; exact hy.wpOp hi hTw ⟨hS, H⟩
    · have h0 := (mem_ready.1 hr).1
      have hun : listed.getD i false ≠ true := fun h1 => by
        rcases Nat.lt_or_ge i listed.size with h' | h'
        · simp [h'] at h0 h1; rw [h0] at h1; cases h1
        · simp [Array.getElem?_eq_none h'] at h1
      have h1 := H.2 j (ready_mono hj hji)
      obtain ⟨hjun, oj, hoj, hall⟩ := mem_ready.1 hj
      have hnot : ∀ e ∈ oj.after, Region.binds md e = true → e.on ≠ i := fun e he hb heq => hun (heq ▸ hall e he hb)
      have h2 := wpOp_putIf hoj (hfree j oj hoj hji hjun hnot) (fun cs b => hsel i oi cs b hi) (fun cs b => hsel j oj cs b hoj) hQ hy h1
      have hfree' : ∀ k ok, ops[k]? = some ok → k ≠ i → (listed.setIfInBounds j true).getD k true = false →
          (∀ e ∈ ok.after, Region.binds md e = true → e.on ≠ i) → oi.apart ops ok = true := fun k ok hk hki hun' hno => by
        refine hfree k ok hk hki ?_ hno
        by_cases hjk : j = k
        · subst hjk; exact hjun
        · rw [getD_set_ne true hjk] at hun'; exact hun'
      have hcomm : (listed.setIfInBounds i true).setIfInBounds j true = (listed.setIfInBounds j true).setIfInBounds i true := Array.setIfInBounds_comm _ _ (Ne.symm hji)
      have hTS : ∀ w', (nozB zs ((listed.setIfInBounds i true).setIfInBounds j true) = true → S w') → T w' := fun w' hw => by
        rcases hT with hT | ⟨hT, hl⟩
        · exact hT w'
        · refine hT _ (hw ?_)
          rw [hcomm]
          exact noz_of hiz (noz_late hl his hcl hj hun)
      refine wpOp_mono (fun a' w' h3 => ⟨fun hz => h3.2.1 (by rw [hcomm]; exact noz_of hiz hz), ih (listed.setIfInBounds j true) a' w' (hcl.list hj) hfree' (ready_mono hr (Ne.symm hji)) h3.1 (hTS w' h3.2.1) (fun hz => h3.2.1 (by rw [hcomm]; exact hz)) ?_⟩) h2
      rw [← hcomm]
      exact h3.2.2
def takeB (md : Region.Mode) (ops : Array Oper) (listed : Array Bool) (zs : List Nat) (i : Nat) : Bool :=
  Region.noSelect ops && Region.free md ops listed i && (Region.ready md ops listed).contains i && !zs.contains i && closedB md ops listed
/-- Take number i first; its value hangs on S. -/
theorem wpY_take {i : Nat} {oi : Oper} {v : Value} {fuel : Nat} {listed : Array Bool} {a : Act} {w : World} (hi : ops[i]? = some oi)
    (hs : (takeB md ops listed zs i && lateB md ops zs i) = true)
    (hQ : ∀ c a w, Q (.panic c) (a.put oi.dst v) w → Q (.panic c) a w) (hy : YieldsIf P ops S oi v a) (hS : S w)
    (h : wpY P md ops Q S zs fuel (listed.setIfInBounds i true) (a.put oi.dst v) w) : wpY P md ops Q S zs (fuel + 1) listed a w := by
  simp only [takeB, Bool.and_eq_true, Bool.not_eq_true'] at hs
  obtain ⟨⟨⟨⟨⟨h1, h2⟩, h3⟩, h4⟩, h5⟩, h6⟩ := hs
  exact wpY_first hi (Region.noSelect_spec h1) hQ h4 (T := S) (.inr ⟨fun _ h => h, h6⟩) fuel listed a w (closedB_spec h5) (Region.free_spec hi h2) (by simpa using h3) hy hS (fun _ => hS) h
/-- Take number i first; its value hangs on no world. -/
theorem wpY_pure {i : Nat} {oi : Oper} {v : Value} {fuel : Nat} {listed : Array Bool} {a : Act} {w : World} (hi : ops[i]? = some oi)
    (hs : takeB md ops listed zs i = true)
    (hQ : ∀ c a w, Q (.panic c) (a.put oi.dst v) w → Q (.panic c) a w) (hy : YieldsIf P ops (fun _ => True) oi v a) (hS : nozB zs (listed.setIfInBounds i true) = true → S w)
    (h : wpY P md ops Q S zs fuel (listed.setIfInBounds i true) (a.put oi.dst v) w) : wpY P md ops Q S zs (fuel + 1) listed a w := by
  simp only [takeB, Bool.and_eq_true, Bool.not_eq_true'] at hs
  obtain ⟨⟨⟨⟨h1, h2⟩, h3⟩, h4⟩, h5⟩ := hs
  exact wpY_first hi (Region.noSelect_spec h1) hQ h4 (T := fun _ => True) (.inl fun _ => trivial) fuel listed a w (closedB_spec h5) (Region.free_spec hi h2) (by simpa using h3) hy trivial hS h
theorem wpOp_of {i : Nat} {oi : Oper} {a : Act} {w : World} {R : Act → World → Prop} (hi : ops[i]? = some oi)
    (hs : ∀ K : Act → World → Prop, (∀ a' w', R a' w' → K a' w') → if Region.wanted oi (yielded ops a.tmps) = true then oi.wp P a w K Q else K (a.put oi.dst undef) w) : wpOp P ops Q i R a w := by
  have h1 := hs R (fun a' w' k => k)
  unfold wpOp
  simp only [hi]
  split
  · rename_i hw; rw [if_pos hw] at h1; exact .inl h1
  · rename_i hw; rw [if_neg hw] at h1; exact h1
/-- Only number i may come up. -/
theorem wpY_one {i : Nat} {oi : Oper} {fuel : Nat} {listed : Array Bool} {a : Act} {w : World} (hi : ops[i]? = some oi) (hr : Region.ready md ops listed = [i])
    (hs : ∀ K : Act → World → Prop, (∀ a' w', (nozB zs (listed.setIfInBounds i true) = true → S w') → wpY P md ops Q S zs fuel (listed.setIfInBounds i true) a' w' → K a' w') →
      if Region.wanted oi (yielded ops a.tmps) = true then oi.wp P a w K Q else K (a.put oi.dst undef) w) : wpY P md ops Q S zs (fuel + 1) listed a w := by
  refine ⟨fun h0 => (by rw [hr] at h0; cases h0), fun j hj => ?_⟩
  rw [hr] at hj
  have : j = i := by simpa using hj
  subst this
  exact wpOp_of hi (fun K hK => hs K (fun a' w' h1 h2 => hK a' w' ⟨h1, h2⟩))
/-- Two may come up. -/
theorem wpY_two {i k : Nat} {oi ok : Oper} {fuel : Nat} {listed : Array Bool} {a : Act} {w : World} (hi : ops[i]? = some oi) (hk : ops[k]? = some ok) (hr : Region.ready md ops listed = [i, k])
    (hs : ∀ K : Act → World → Prop, (∀ a' w', (nozB zs (listed.setIfInBounds i true) = true → S w') → wpY P md ops Q S zs fuel (listed.setIfInBounds i true) a' w' → K a' w') →
      if Region.wanted oi (yielded ops a.tmps) = true then oi.wp P a w K Q else K (a.put oi.dst undef) w)
    (hs2 : ∀ K : Act → World → Prop, (∀ a' w', (nozB zs (listed.setIfInBounds k true) = true → S w') → wpY P md ops Q S zs fuel (listed.setIfInBounds k true) a' w' → K a' w') →
      if Region.wanted ok (yielded ops a.tmps) = true then ok.wp P a w K Q else K (a.put ok.dst undef) w) : wpY P md ops Q S zs (fuel + 1) listed a w := by
  refine ⟨fun h0 => (by rw [hr] at h0; cases h0), fun j hj => ?_⟩
  rw [hr] at hj
  have : j = i ∨ j = k := by simpa using hj
  rcases this with e | e <;> subst e
  · exact wpOp_of hi (fun K hK => hs K (fun a' w' h1 h2 => hK a' w' ⟨h1, h2⟩))
  · exact wpOp_of hk (fun K hK => hs2 K (fun a' w' h1 h2 => hK a' w' ⟨h1, h2⟩))
theorem wpY_done {listed : Array Bool} {a : Act} {w : World} (hr : Region.ready md ops listed = []) (h : Q .normal a w) : ∀ fuel, wpY P md ops Q S zs fuel listed a w
  | 0 => ⟨hr, h⟩
  | _ + 1 => ⟨fun _ => h, by rw [hr]; simp⟩
theorem noz_no {b : Bool} {X : Prop} (h : b = false) (e : b = true) : X := by rw [h] at e; cases e
theorem wp_region_y {id : Nat} {a : Act} {w : World} (S : World → Prop) (zs : List Nat) (hm : P.follows .mixedOrders = true)
    (h : wpY P .any ops Q S zs ops.size (Array.replicate ops.size false) a w.drew) : (Code.region id ops true).wp P Q a w :=
  wp_region_any hm (wpAny_of_wpY _ _ _ _ h)
end
end Go.Proofs.YtacopdbldfgknaaDoor
