/- Deep words, one and twentieth part: a drawn region, as a step. -/
import Derived.Test.YtpeafglbhjjbhaaDoorDT
namespace Go.Proofs.YtpeafglbhjjbhaaDoor
open Go Go.RowKit

structure Dr (F : Fence) (n : Nat) (P : Program) (X : Cx) (ops : Array Oper) (anc : List (List Nat)) (t0 : List (Nat × CT)) (r0 : List (Nat × Option Root)) (nx0 : Nat) (K : St → Prop) (π : List Nat) (li : Nat → Bool) (done : List Ex) (rest : List Nat) : Prop where
  dn : Dn F n P X ops anc t0 r0 nx0 li done
  dv : DvD F n P X ops anc (done.map Ex.en) rest (tS (fun _ => true) done ++ t0) (rS (fun _ => true) done ++ r0) (nx0 + done.length) K
  pm : (done.map (·.i)).reverse ++ rest = π
  un : ∀ j ∈ rest, li j = false
section
variable {F : Fence} {n : Nat} {P : Program} {X : Cx} {ops : Array Oper} {anc : List (List Nat)} {t0 : List (Nat × CT)} {r0 : List (Nat × Option Root)} {nx0 : Nat} {K : St → Prop} {π : List Nat}
def RelD (X : Cx) (t0 : List (Nat × CT)) (r0 : List (Nat × Option Root)) (nx0 : Nat) (li : Nat → Bool) (done : List Ex) (a : Act) (w : World) : Prop := Rel X (Ud nx0 li done) ⟨tS li done ++ t0, rS li done ++ r0, nx0⟩ a w
/-- One more, that isn't carried out. -/
theorem RelD.cons {li : Nat → Bool} {done : List Ex} {e : Ex} {a : Act} {w : World} (h : RelD X t0 r0 nx0 li done a w) (h0 : li e.i = false) : RelD X t0 r0 nx0 li (e :: done) a w := by
  refine Rel.eqv h (fun t => ?_) (fun r => ?_) fun r hr => ?_
  · simp only [tS, sumA, h0, Bool.false_eq_true, if_false]
  · simp only [rS, sumA, h0, Bool.false_eq_true, if_false]
  · exact hr.imp id fun ⟨e', he', h⟩ => ⟨e', List.mem_cons_of_mem _ he', h⟩
def HeadC (F : Fence) (n : Nat) (P : Program) (X : Cx) (ops : Array Oper) (anc : List (List Nat)) (t0 : List (Nat × CT)) (r0 : List (Nat × Option Root)) (nx0 : Nat) (K : St → Prop) (done : List Ex) (rest : List Nat) : Prop :=
  ∃ i π' o d ks post, rest = i :: π' ∧ ops[i]? = some o ∧ OpL F n P X ops o d ks post ∧ d.ok ⟨tS (fun _ => true) done ++ t0, rS (fun _ => true) done ++ r0, nx0 + done.length⟩ ∧ (∀ k ∈ ks, (nx0 + done.length) * 64 ≤ k ∧ k < (nx0 + done.length) * 64 + 64) ∧
      π'.all (fun j => inB i (anc.getD j [])) = true ∧ okB anc (done.map Ex.en) ⟨i, d.t.map (·.1), d.r.map (·.1), [], []⟩ = true ∧
      ∀ E, post E → okB anc (done.map Ex.en) (entOf i d E) = true ∧ DvD F n P X ops anc (entOf i d E :: done.map Ex.en) π' (E.t ++ (tS (fun _ => true) done ++ t0)) (E.r ++ (rS (fun _ => true) done ++ r0)) (nx0 + done.length + 1) K
/-- What is known of each operation up to the next call. -/
theorem Dr.on {li : Nat → Bool} : ∀ (rest : List Nat) (done : List Ex) (a : Act) (w : World), Dr F n P X ops anc t0 r0 nx0 K π li done rest → RelD X t0 r0 nx0 li done a w →
    ∃ done' rest', Dr F n P X ops anc t0 r0 nx0 K π li done' rest' ∧ RelD X t0 r0 nx0 li done' a w ∧ (rest' = [] ∨ HeadC F n P X ops anc t0 r0 nx0 K done' rest')
  | [], done, a, w, h, hR => ⟨done, [], h, hR, .inl rfl⟩
  | i :: rest, done, a, w, h, hR => by
    have hdv := h.dv
    obtain ⟨o, d, ks, post, h1, h2, h3, h4, h5, h6, h7⟩ := hdv
    rcases h5 with ⟨E, rfl⟩ | h5
    · obtain ⟨g1, g2⟩ := h7 E rfl
      have hli : li i = false := h.un i List.mem_cons_self
      refine Dr.on rest (⟨i, o, d, ks, E⟩ :: done) a w ⟨.cons h.dn h1 (fun _ => h2) h3 h4 g1, ?_, ?_, fun j hj => h.un j (List.mem_cons_of_mem _ hj)⟩ (hR.cons hli)
      · have e1 : tS (fun _ => true) (⟨i, o, d, ks, E⟩ :: done) ++ t0 = E.t ++ (tS (fun _ => true) done ++ t0) := by simp [tS, sumA]
        have e2 : rS (fun _ => true) (⟨i, o, d, ks, E⟩ :: done) ++ r0 = E.r ++ (rS (fun _ => true) done ++ r0) := by simp [rS, sumA]
        rw [e1, e2]
        exact g2
      · rw [← h.pm]; simp
    · exact ⟨done, i :: rest, h, hR, .inr ⟨i, rest, o, d, ks, post, rfl, h1, h2, h3, h4, h5, h6, h7⟩⟩
theorem all_true {li : Nat → Bool} {done : List Ex} (h : ∀ e ∈ done, li e.i = true) : tS li done = tS (fun _ => true) done ∧ rS li done = rS (fun _ => true) done := ⟨sumA_same _ h, sumA_same _ h⟩
theorem dn_lt {li : Nat → Bool} {done : List Ex} (h : Dn F n P X ops anc t0 r0 nx0 li done) : ∀ e ∈ done, e.i < ops.size := by
  induction h with
  | nil => intro e he; cases he
  | cons _ ho _ _ _ _ ih =>
    intro e he
    rcases List.mem_cons.1 he with rfl | he
    · exact (Array.getElem?_eq_some_iff.1 ho).1
    · exact ih e he
/-- All is carried out. -/
theorem Dr.fin {Q : Exit → Act → World → Prop} (hQ : ∀ S a w, Rel X (Us S.nx) S a w → K S → Q .normal a w) {li : Nat → Bool} (hall : ∀ j, j < ops.size → li j = true) {done : List Ex} {rest : List Nat} {a : Act} {w : World} (h : Dr F n P X ops anc t0 r0 nx0 K π li done rest) (hR : RelD X t0 r0 nx0 li done a w) : Q .normal a w := by
  cases rest with
  | cons i rest =>
    obtain ⟨o, _, _, _, h1, _⟩ := h.dv
    have := hall i (Array.getElem?_eq_some_iff.1 h1).1
    rw [h.un i List.mem_cons_self] at this
    cases this
  | nil =>
    have hk : K _ := h.dv
    obtain ⟨e1, e2⟩ := all_true fun e he => hall _ (dn_lt h.dn e he)
    unfold RelD at hR
    rw [e1, e2] at hR
    refine hQ _ a w ?_ hk
    refine Rel.eqv hR (fun _ => rfl) (fun _ => rfl) fun r hr => ?_
    show r < (nx0 + done.length) * 64
    rcases hr with hr | ⟨e, he, _, hke⟩
    · omega
    · exact h.dn.keys e he r hke
theorem li_set {li : Array Bool} {i : Nat} (hi : i < li.size) : liB (li.setIfInBounds i true) i = true ∧ ∀ j, j ≠ i → liB li j = liB (li.setIfInBounds i true) j := by
  refine ⟨by simp [liB, hi], fun j hj => ?_⟩
  simp [liB, Array.getElem?_setIfInBounds_ne (Ne.symm hj)]
theorem draw_sound (hA : Anc ops anc) (hdd : Dsts ops X.nt) (hπ : π.Nodup) (hall : ∀ i, i < ops.size → i ∈ π) {Q : Exit → Act → World → Prop} (hQ : ∀ S a w, Rel X (Us S.nx) S a w → K S → Q .normal a w) :
    ∀ (fuel : Nat) (li : Array Bool) (done : List Ex) (rest : List Nat) (a : Act) (w : World), li.size = ops.size → Closed ops li → Dr F n P X ops anc t0 r0 nx0 K π (liB li) done rest → RelD X t0 r0 nx0 (liB li) done a w → unl ops.size li ≤ fuel →
      wpAnyIn F n P .any ops Q fuel li a w := by
  intro fuel
  induction fuel with
  | zero =>
    intro li done rest a w hsz hcl hI hR hu
    have hz : ∀ j, j < ops.size → liB li j = true := fun j hj => by
      have h0 : unl ops.size li = 0 := by omega
      have := List.countP_eq_zero.1 h0 j (List.mem_range.2 hj)
      simpa using this
    refine ⟨?_, hI.fin hQ hz hR⟩
    refine List.eq_nil_iff_forall_not_mem.2 fun j hj => ?_
    obtain ⟨h1, o, ho, _⟩ := ready_iff.1 hj
    have hlt := (Array.getElem?_eq_some_iff.1 ho).1
    have := hz j hlt
    have hj' : j < li.size := by omega
    simp [liB, hj'] at this
    simp [hj', this] at h1
  | succ fuel IH =>
    intro li done rest a w hsz hcl hI hR hu
    refine ⟨fun hr => hI.fin hQ (ready_some hA hsz hr) hR, fun j hj => ?_⟩
    obtain ⟨h1, o, ho, hp⟩ := ready_iff.1 hj
    have hlt := (Array.getElem?_eq_some_iff.1 ho).1
    have hlt' : j < li.size := by omega
    have hl0 : liB li j = false := by simpa [liB, hlt'] using h1
    obtain ⟨hs1, hs2⟩ := li_set (li := li) hlt'
    have hcl' : Closed ops (li.setIfInBounds j true) := by
      intro j' o' hj' ho' p hpp
      have key : liB li p = true → liB (li.setIfInBounds j true) p = true := fun h => by
        by_cases e : p = j
        · rw [e]; exact hs1
        · rw [← hs2 p e]; exact h
      by_cases e : j' = j
      · subst e
        rw [ho] at ho'
        cases ho'
        exact key (hp p hpp)
      · exact key (hcl j' o' (by have := hs2 j' e; show liB li j' = true; rw [this]; exact hj') ho' p hpp)
    have hu' : unl ops.size (li.setIfInBounds j true) ≤ fuel := by
      have := unl_put hsz hlt hl0
      omega
    have hmono : ∀ i, liB li i = true → liB (li.setIfInBounds j true) i = true := fun i h => by
      by_cases e : i = j
      · rw [e]; exact hs1
      · rw [← hs2 i e]; exact h
    have hup : ∀ k ∈ anc.getD j [], liB li k = true := hcl.up hA hsz j ⟨o, ho, hp⟩
    have hupA : ∀ i oi, ops[i]? = some oi → liB li i = true → ∀ k ∈ anc.getD i [], liB li k = true := fun i oi hoi hli => hcl.up hA hsz i ⟨oi, hoi, hcl i oi hli hoi⟩
    obtain ⟨done, rest, hI, hR, hend⟩ := hI.on rest done a w hR
    have hnd : ((done.map (·.i)).reverse ++ rest).Nodup := by rw [hI.pm]; exact hπ
    -- the operation is carried out, and the rest follows
    have go : ∀ (A B : List Ex) (e : Ex) (rest' : List Nat), e.i = j → e.o = o → (A ++ e :: B).length = (A ++ e :: B).length → Dr F n P X ops anc t0 r0 nx0 K π (liB (li.setIfInBounds j true)) (A ++ e :: B) rest' → (∀ x ∈ A ++ B, x.i ≠ e.i) → (∀ x ∈ A, liB li x.i = true → e.en.apart x.en = true) →
        ∀ a' w', Rel X (fun r => Ud nx0 (liB li) (A ++ e :: B) r ∨ r ∈ e.ks) (St.app ⟨tS (liB li) (A ++ e :: B) ++ t0, rS (liB li) (A ++ e :: B) ++ r0, nx0⟩ e.E) a' w' → wpAnyIn F n P .any ops Q fuel (li.setIfInBounds j true) a' w' := by
      intro A B e rest' hej _ _ hD hne hap a' w' hR'
      exact IH _ _ _ a' w' (by simpa using hsz) hcl' hD (d_put (by rw [hej]; exact hl0) (by rw [hej]; exact hs1) (fun i hi => hs2 i (by rw [← hej]; exact hi)) hne hap hR') hu'
    have hmem : j ∈ (done.map (·.i)).reverse ++ rest := by rw [hI.pm]; exact hall j hlt
    have hwp : ∀ K', wpOpIn F n P ops Q j K' a w ↔ opWp F n P ops o K' Q a w := fun K' => by
      unfold wpOpIn opWp
      rw [ho]
    rw [hwp]
    rcases List.mem_append.1 hmem with hm | hm
    · rw [List.mem_reverse, List.mem_map] at hm
      obtain ⟨e, he, hej⟩ := hm
      obtain ⟨A, B, rfl⟩ := List.append_of_mem he
      have hdn := hI.dn
      have hne : ∀ x ∈ A ++ B, x.i ≠ e.i := by
        have h2 := (List.nodup_append.1 hnd).1
        have h2 : (List.map (·.i) (A ++ e :: B)).Nodup := (List.pairwise_reverse.1 h2).imp fun h => Ne.symm h
        rw [List.map_append, List.map_cons] at h2
        intro x hx hxe
        rw [List.nodup_append] at h2
        obtain ⟨n1, n2, n3⟩ := h2
        rw [List.nodup_cons] at n2
        rcases List.mem_append.1 hx with hx | hx
        · exact n3 x.i (List.mem_map.2 ⟨x, hx, rfl⟩) e.i List.mem_cons_self hxe
        · exact n2.1 (by rw [← hxe]; exact List.mem_map.2 ⟨x, hx, rfl⟩)
      have hap : ∀ x ∈ A, liB li x.i = true → e.en.apart x.en = true := fun x hx hl => by
        rcases hdn.pair' hx with h | h
        · obtain ⟨A1, A2, rfl⟩ := List.append_of_mem hx
          rw [List.append_assoc, List.cons_append] at hdn
          have hox : ops[x.i]? = some x.o := by have := hdn.tail; cases this with | cons _ ho _ _ _ _ => exact ho
          have := hupA x.i x.o hox hl e.i h
          rw [hej, hl0] at this
          cases this
        · exact h
      have hap' : ∀ x ∈ B, liB li x.i = false → x.en.apart e.en = true := fun x hx hl => by
        rcases hdn.tail.pair hx with h | h
        · rw [hej] at h
          have := hup x.i h
          rw [hl] at this
          cases this
        · exact h
      have h0 : liB li e.i = false := by rw [hej]; exact hl0
      have hdt := hdn.tail
      cases hdt with
      | cons hdB hoe hle hde hke hce =>
        have hoe' : e.o = o := by rw [hej, ho] at hoe; exact (Option.some.inj hoe).symm
        have hL := hle h0
        rw [hoe'] at hL
        have hdok : e.d.ok ⟨tS (liB li) (A ++ e :: B) ++ t0, rS (liB li) (A ++ e :: B) ++ r0, nx0⟩ := by
          refine d_ok (B := B) (C := e :: B) ⟨by simp only [tS, sumA, h0, Bool.false_eq_true, if_false], by simp only [rS, sumA, h0, Bool.false_eq_true, if_false]⟩ (fun x hx hl => ?_) (fun x hx hl => ?_) hde
          · exact apart_read' (hap x hx hl)
          · exact apart_read (hap' x hx hl)
        refine opWp_mono ?_ (hL j ho hdd Q _ _ a w hdok (d_free hdn h0 hne) hR)
        rintro a' w' ⟨E, rfl, hR'⟩
        exact go A B e rest hej hoe' rfl ⟨hI.dn.more hmono, hI.dv, hI.pm, fun i hi => by
          have hij : i ≠ j := fun e1 => by
            subst e1
            have := (List.nodup_append.1 hnd).2.2 i (by rw [List.mem_reverse]; exact List.mem_map.2 ⟨e, he, hej⟩) i hi
            exact this rfl
          rw [← hs2 i hij]; exact hI.un i hi⟩ hne hap a' w' hR'
    · rcases hend with rfl | ⟨i, π', oi, d, ks, post, rfl, hoi, hL, hde, hke, hw, hc0, hK⟩
      · cases hm
      · rcases List.mem_cons.1 hm with rfl | hm
        · rw [ho] at hoi
          cases hoi
          have hdok : d.ok ⟨tS (liB li) ([] ++ done) ++ t0, rS (liB li) ([] ++ done) ++ r0, nx0⟩ := by
            refine d_ok (B := done) (C := done) ⟨rfl, rfl⟩ (fun x hx => by cases hx) (fun x hx hl => ?_) hde
            have := List.all_eq_true.1 hc0 x.en (List.mem_map.2 ⟨x, hx, rfl⟩)
            rw [Bool.or_eq_true] at this
            rcases this with h | h
            · have := hup x.i (inB_ok h)
              rw [hl] at this
              cases this
            · exact apart_read h
          have hne : ∀ x ∈ done, x.i ≠ j := fun x hx hxj => by
            have := (List.nodup_append.1 hnd).2.2 x.i (by rw [List.mem_reverse]; exact List.mem_map.2 ⟨x, hx, rfl⟩) j List.mem_cons_self
            exact this hxj
          have hfree : ∀ k ∈ ks, ¬ Ud nx0 (liB li) done k := by
            intro k hk hu
            have h2 := hke k hk
            rcases hu with hu | ⟨e', he', hl, hk'⟩
            · omega
            · have := hI.dn.keys e' he' k hk'; omega
          refine opWp_mono ?_ (hL j ho hdd Q _ _ a w hdok hfree hR)
          rintro a' w' ⟨E, hE, hR'⟩
          obtain ⟨g1, g2⟩ := hK E hE
          refine go [] done ⟨j, o, d, ks, E⟩ π' rfl rfl rfl ⟨.cons (hI.dn.more hmono) ho (fun h => ?_) hde hke g1, ?_, ?_, fun i hi => ?_⟩ (by simpa using hne) (fun x hx => by cases hx) a' w' ?_
          · rw [hs1] at h; cases h
          · have e1 : tS (fun _ => true) (⟨j, o, d, ks, E⟩ :: done) ++ t0 = E.t ++ (tS (fun _ => true) done ++ t0) := by simp [tS, sumA]
            have e2 : rS (fun _ => true) (⟨j, o, d, ks, E⟩ :: done) ++ r0 = E.r ++ (rS (fun _ => true) done ++ r0) := by simp [rS, sumA]
            show DvD F n P X ops anc _ π' (tS (fun _ => true) (⟨j, o, d, ks, E⟩ :: done) ++ t0) (rS (fun _ => true) (⟨j, o, d, ks, E⟩ :: done) ++ r0) _ K
            rw [e1, e2]
            exact g2
          · rw [← hI.pm]; simp
          · have hij : i ≠ j := fun e1 => by
              subst e1
              have := (List.nodup_append.1 hnd).2.1
              rw [List.nodup_cons] at this
              exact this.1 hi
            rw [← hs2 i hij]; exact hI.un i (List.mem_cons_of_mem _ hi)
          · refine Rel.eqv hR' (fun t => ?_) (fun r => ?_) fun r hr => ?_
            · simp only [List.nil_append, tS, sumA, hl0, Bool.false_eq_true, if_false]
            · simp only [List.nil_append, rS, sumA, hl0, Bool.false_eq_true, if_false]
            · exact hr.imp (fun hr => hr.imp id fun ⟨e', he', h⟩ => ⟨e', List.mem_cons_of_mem _ he', h⟩) id
        · have h2 := inB_ok (List.all_eq_true.1 hw j hm)
          have := hup i h2
          rw [hI.un i List.mem_cons_self] at this
          cases this
/-- A region that draws its order. -/
theorem w_draw (anc : List (List Nat)) (π : List Nat) {id : Nat} {ops : List Oper} {t : List (Nat × CT)} {r : List (Nat × Option Root)} {nx : Nat} {Q : Exit → St → Prop} (hm : P.follows .mixedOrders = true) (ha : ancB ops anc = true) (hp : π.Nodup ∧ permB ops.length π = true) (hd : dstsB ops X.nt = true)
    (h : DvD F n P X ops.toArray anc [] π t r nx (Q .normal)) : W F n P X (.region id ops.toArray true) ⟨t, r, nx⟩ Q := fun a w hR => by
  refine wpIn_region_any hm ?_
  have h0 : ∀ S a w, Rel X (Us S.nx) S a w → Q .normal S → ∃ S', Rel X (Us S'.nx) S' a w ∧ Q .normal S' := fun S a w h1 h2 => ⟨S, h1, h2⟩
  have hpm := hp.2
  simp only [permB, Bool.and_eq_true] at hpm
  have hall : ∀ i, i < ops.toArray.size → i ∈ π := fun i hi => inB_ok (List.all_eq_true.1 hpm.1 i (List.mem_range.2 (by simpa using hi)))
  have hcl : Closed ops.toArray (Array.replicate ops.toArray.size false) := by
    intro j o hj
    rw [Array.getD_eq_getD_getElem?, Array.getElem?_replicate] at hj
    split at hj <;> simp at hj
  have hun : ∀ j, liB (Array.replicate ops.toArray.size false) j = false := fun j => by
    show (Array.replicate ops.toArray.size false).getD j false = false
    rw [Array.getD_eq_getD_getElem?, Array.getElem?_replicate]
    split <;> rfl
  have hle : unl ops.toArray.size (Array.replicate ops.toArray.size false) ≤ ops.toArray.size := by
    unfold unl
    exact Nat.le_trans List.countP_le_length (by simp)
  have hD : Dr F n P X ops.toArray anc t r nx (Q .normal) π (liB (Array.replicate ops.toArray.size false)) [] π := ⟨.nil, h, rfl, fun j _ => hun j⟩
  have hRD : RelD X t r nx (liB (Array.replicate ops.toArray.size false)) [] a { w with drawn := w.drawn + 1 } := by
    obtain ⟨N, bs, FP, hI⟩ := hR
    have h2 : Rel X (Us nx) ⟨t, r, nx⟩ a { w with drawn := w.drawn + 1 } := ⟨N, bs, FP, RelI.drew hI⟩
    exact h2.eqv (fun _ => rfl) (fun _ => rfl) fun r hr => .inl hr
  exact draw_sound (Anc.of ha) (dsts_of hd) hp.1 hall h0 _ _ _ _ _ _ (by simp) hcl hD hRD hle
end
end Go.Proofs.YtpeafglbhjjbhaaDoor

