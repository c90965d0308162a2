import Derived.Test.YtakpikoffbgjfaaRQ
namespace Go.Proofs.Ytakpikoffbgjfaa
open Go.RowKit Go.Maps

def acs (l : List AC) : List Value := l.flatMap AC.cs
theorem acs_length (l : List AC) : (acs l).length = l.length * 8 := by
  induction l with
  | nil => rfl
  | cons x l ih => simp only [acs, List.flatMap_cons] at *; simp only [List.length_append, ih, AC.cs, List.length_cons, List.length_nil]; omega
theorem acs_at (l : List AC) : ∀ (i : Nat) (a : AC), l[i]? = some a → ∀ j, j < 8 → (acs l)[i * 8 + j]? = a.cs[j]? := by
  induction l with
  | nil => intro i a h; simp at h
  | cons x l ih =>
    intro i a h j hj
    cases i with
    | zero =>
      simp at h; subst h
      simp only [acs, List.flatMap_cons, Nat.zero_mul, Nat.zero_add]
      rw [List.getElem?_append_left (by simpa [AC.cs] using hj)]
    | succ i =>
      have := ih i a (by simpa using h) j hj
      simp only [acs, List.flatMap_cons]
      rw [List.getElem?_append_right (by simp [AC.cs]; omega)]
      have e : (i + 1) * 8 + j - x.cs.length = i * 8 + j := by simp [AC.cs]; omega
      rw [e]; exact this
def AC.good (a : AC) : Prop := (Lit.int .i64 a.i).wf = true ∧ (Lit.int .i64 a.n).wf = true
theorem act_cells {w : World} {v : Value} {l : List AC} (h : Rd w v l.length (acs l)) {k : Nat} {a : AC} (ha : l[k]? = some a) : ∃ b o cap, v = .slice (some ⟨b, o, none⟩) l.length cap ∧ b < w.heap.size ∧ ∀ j u, a.cs[j]? = some u → w.cell? ⟨b, o + k * 8 + j, none⟩ = some u := by
  have hk : k < l.length := (List.getElem?_eq_some_iff.1 ha).1
  obtain ⟨b, o, cap, e, _, hb, g⟩ := h.elem (by rw [acs_length]; omega)
  refine ⟨b, o, cap, e, hb, fun j u hu => ?_⟩
  have hj : j < 8 := by have := (List.getElem?_eq_some_iff.1 hu).1; simpa [AC.cs] using this
  have := g (k * 8 + j) u (by rw [acs_at l k a ha j hj]; exact hu)
  rwa [← Nat.add_assoc] at this
set_option maxHeartbeats 8000000 in
set_option maxRecDepth 100000 in
theorem heapAlone_walk (w : World) (v : Value) (l : List AC) (hrd : Rd w v l.length (acs l)) (hg : ∀ a ∈ l, a.good) :
    Calls Try.prog 6 #[v] w fun e w' => e = .returned (.bool true) ∧ Below w.heap.size w w' := by
  obtain ⟨Av, cv, rfl, hcv1, hcv2⟩ := hrd.form
  have HR := Lib.hid hrd
  have HG := Lib.hid hg
  clear hrd hg
  go_enter Try.func6, Try.ntmps6
  go_wp2_with fail
  refine (new_any w 1048576).mono ?_
  rintro e w1 ⟨p, F1, tv1, fv1, rfl, m1, b1, n1⟩
  have HM1 := Lib.hid m1
  have HB1 := Lib.hid b1
  have HN1 := Lib.hid n1
  clear m1 b1 n1
  go_wp2_with fail
  refine (rnew_any w1 1048576).mono ?_
  rintro e w2 ⟨r, G1, lv1, rfl, m2, b2, n2⟩
  have HB2 := Lib.hid (below_step HB1.out b2 HB1.out.size)
  have HT : Hid (TwoW w2 F1 G1 p r (M0 1048576) (rM0 1048576)) := Lib.hid ⟨⟨_, _, _, HM1.out.below b2⟩, ⟨_, _, m2⟩, fun k hf hg => by have := HM1.out.lt k hf; have := n2 k hg; omega⟩
  have HN2 : Hid (∀ k, F1 k ∨ G1 k → w.heap.size ≤ k) := Lib.hid (fun k hk => by
    rcases hk with hk | hk
    · exact HN1.out k hk
    · have := n2 k hk; have := HB1.out.size; omega)
  clear m2 b2 n2 HM1 HB1 HN1
  go_wp2_with fail
  go_loopw [5] (fun i wr => ∃ (c : Nat) (F G : Nat → Prop) (M : HM) (R : RM), c ≤ l.length ∧ c ≤ 100 ∧ i = .int .i64 c ∧ TwoW wr F G p r M R ∧ SmallM c M ∧ SmallR c R ∧ Agree M R ∧ (∀ k, F k ∨ G k → w.heap.size ≤ k) ∧ Below w.heap.size w wr) (fun i _ => l.length - (intOf i).toNat)
  case atStart => exact ⟨0, F1, G1, _, _, Nat.zero_le _, by omega, rfl, HT.out, small_start.1, small_start.2, agree_start, HN2.out, HB2.out⟩
  case round =>
    obtain ⟨c, F, G, M, R, hc1, hc2, rfl, hT, hM, hR, hAg, hN, hB⟩ := hrel
    have HT1 := Lib.hid hT
    have HM := Lib.hid hM
    have HR1 := Lib.hid hR
    have HAG := Lib.hid hAg
    have HN := Lib.hid hN
    have HB := Lib.hid hB
    have hbs := hB.size
    clear hT hM hR hAg hN hB HT HN2 HB2
    by_cases hlt : c < l.length ∧ c < 100
    · have hlt1 : (c : Int) < l.length := by omega
      have hlt2 : (c : Int) < 100 := by omega
      obtain ⟨a, ha⟩ : ∃ a, l[c]? = some a := ⟨_, List.getElem?_eq_getElem hlt.1⟩
      obtain ⟨b, o, cap, ev, hb, hcell⟩ := act_cells (HR.out.below HB.out) ha
      cases ev
      have hgd := HG.out a (List.mem_of_getElem? ha)
      have HGD := Lib.hid hgd
      obtain ⟨ak, ar, ai, an, av, ast⟩ := a
      have x0 : wr.cell? ⟨b, o + c * 8, none⟩ = some (I ak) := hcell 0 _ rfl
      have x1 : wr.cell? ⟨b, o + c * 8 + 1, none⟩ = some (I ar) := hcell 1 _ rfl
      have x2 : wr.cell? ⟨b, o + c * 8 + 2, none⟩ = some (I ai) := hcell 2 _ rfl
      have x3 : wr.cell? ⟨b, o + c * 8 + 3, none⟩ = some (I an) := hcell 3 _ rfl
      have x4 : wr.cell? ⟨b, o + c * 8 + 4, none⟩ = some (I av.n) := hcell 4 _ rfl
      have x5 : wr.cell? ⟨b, o + c * 8 + 5, none⟩ = some (.string av.s) := hcell 5 _ rfl
      have x6 : wr.cell? ⟨b, o + c * 8 + 6, none⟩ = some (I av.r) := hcell 6 _ rfl
      have x7 : wr.cell? ⟨b, o + c * 8 + 7, none⟩ = some (.bool ast) := hcell 7 _ rfl
      have HLT := Lib.hid hlt
      clear hcell ha hlt hgd
      go_wp2_with fail
      have hBx := below_alloc wr (.cells #[I ak, I ar, I ai, I an, I av.n, .string av.s, I av.r, .bool true] 45)
      refine (does_any _ F G p r M R ⟨ak, ar, ai, an, av, true⟩ (HT1.out.below hBx) (small_okay HM.out HR1.out (by have := HLT.out; omega)) HGD.out.1 HGD.out.2).mono ?_
      have hag := agree_does HM.out HAG.out ⟨ak, ar, ai, an, av, true⟩ rfl
      have hsm := small_does HM.out HR1.out ⟨ak, ar, ai, an, av, true⟩
      rw [hag.1]
      rintro e w3 ⟨F2, G2, rfl, ht, hch, hn1, hn2⟩
      have HT2 := Lib.hid ht
      have HAG2 := Lib.hid hag.2
      have HSM2 := Lib.hid hsm
      have HB3 : Hid (Below w.heap.size w w3) := Lib.hid (Chg.newBelow (HB.out.alloc HB.out.size _) (by have := HB.out.size; simp; omega) hch HN.out)
      have HN3 : Hid (∀ k, F2 k ∨ G2 k → w.heap.size ≤ k) := Lib.hid (fun k hk => by
        have hs := hBx.size
        rcases hk with hk | hk
        · rcases hn1 k hk with e | e
          · exact HN.out k (.inl e)
          · omega
        · rcases hn2 k hk with e | e
          · exact HN.out k (.inr e)
          · omega)
      clear ht hch hn1 hn2 hag hsm hBx
      go_wp2_with fail
      go_roundw
      case rel => exact ⟨c + 1, F2, G2, _, _, by have := HLT.out; omega, by have := HLT.out; omega, by go_num, HT2.out, HSM2.out.1, HSM2.out.2, HAG2.out, HN3.out, HB3.out⟩
      case measure => have := HLT.out; simp [intOf]; omega
    · have hdis : (¬ (c : Int) < l.length) ∨ ((c : Int) < l.length ∧ ¬ (c : Int) < 100) := by omega
      obtain ⟨tv, fv, qs, hm⟩ := HT1.out.h
      have HM2 := Lib.hid hm
      have hu := HAG.out.u
      have hmk := HAG.out.m
      have HU := Lib.hid hu
      have HMK := Lib.hid hmk
      clear hlt HR HG hm hu hmk
      rcases hdis with hlt1 | ⟨hlt1, hlt2⟩
      all_goals
        go_wp2_with fail
        refine (used_any _ F p M tv fv qs HM2.out).mono ?_
        rintro e w4 ⟨rfl, rfl⟩
        rw [HU.out]
        go_wp2_with fail
        refine (makes_any _ F p M tv fv qs HM2.out).mono ?_
        rintro e w4 ⟨rfl, rfl⟩
        rw [HMK.out]
        go_wp2_with fail
        refine (lives_any _).mono ?_
        rintro e w5 ⟨rfl, hb5⟩
        go_wp2
        go_ret
        exact ⟨rfl, below_step HB.out hb5 HB.out.size⟩
end Go.Proofs.Ytakpikoffbgjfaa
