import Derived.Test.YtakpikoffbgjfaaRN
namespace Go.Proofs.Ytakpikoffbgjfaa
open Go.RowKit Go.Maps

theorem asks_any (w : World) (F G : Nat → Prop) (p r : Nat) (M : HM) (R : RM) (a : AC) (h : TwoW w F G p r M R) (ho : Okay M R) (hi : (Lit.int .i64 a.i).wf = true) (hn : (Lit.int .i64 a.n).wf = true) :
    Calls Try.prog 33 #[P0 p, P0 r, ActV a] w (TwoRes w F G p r (asksF a M R).2.1 (asksF a M R).2.2 (.bool (asksF a M R).1)) := by
  unfold asksF
  by_cases h5 : a.kind = 5
  · rw [if_pos h5]; exact asks5 w F G p r M R a h ho h5
  rw [if_neg h5]
  by_cases h6 : a.kind = 6
  · rw [if_pos h6]; exact asks6 w F G p r M R a h ho h6
  rw [if_neg h6]
  by_cases h7 : a.kind = 7
  · rw [if_pos h7]; exact asks7 w F G p r M R a h ho h7
  rw [if_neg h7]
  by_cases h8 : a.kind = 8
  · rw [if_pos h8]; exact asks8 w F G p r M R a h ho hi hn h8
  rw [if_neg h8]
  by_cases h9 : a.kind = 9
  · rw [if_pos h9]; exact asks9 w F G p r M R a h ho hi h9
  rw [if_neg h9]
  by_cases h10 : a.kind = 10
  · rw [if_pos h10]; exact asks10 w F G p r M R a h ho h10
  rw [if_neg h10]
  exact asks_else w F G p r M R a h ⟨h5, h6, h7, h8, h9, h10⟩
set_option maxHeartbeats 4000000 in
set_option maxRecDepth 100000 in
theorem does_else (w : World) (F G : Nat → Prop) (p r : Nat) (M : HM) (R : RM) (a : AC) (h : TwoW w F G p r M R) (ho : Okay M R) (hi : (Lit.int .i64 a.i).wf = true) (hn : (Lit.int .i64 a.n).wf = true) (hk : a.kind ≠ 0 ∧ a.kind ≠ 1 ∧ a.kind ≠ 2 ∧ a.kind ≠ 3 ∧ a.kind ≠ 4) :
    Calls Try.prog 20 #[P0 p, P0 r, ActV a] w (TwoRes w F G p r (asksF a M R).2.1 (asksF a M R).2.2 (.bool (asksF a M R).1)) := by
  obtain ⟨ak, ar, ai, an, av, ast⟩ := a
  simp only at hk
  obtain ⟨h0, h1, h2, h3, h4⟩ := hk
  have d0 : (ak == 0) = false := by simpa using h0
  have d1 : (ak == 1) = false := by simpa using h1
  have d2 : (ak == 2) = false := by simpa using h2
  have d3 : (ak == 3) = false := by simpa using h3
  have d4 : (ak == 4) = false := by simpa using h4
  have HB := Lib.hid (below_alloc w (.cells #[I ak, I ar, I ai, I an, I av.n, .string av.s, I av.r, .bool ast] 45))
  have HK := Lib.hid (asks_any (w.alloc (.cells #[I ak, I ar, I ai, I an, I av.n, .string av.s, I av.r, .bool ast] 45)) F G p r M R ⟨ak, ar, ai, an, av, ast⟩ (h.below HB.out) ho hi hn)
  clear h ho hi hn h0 h1 h2 h3 h4
  go_enter Try.func20, Try.ntmps20
  go_wp2_with fail
  refine HK.out.mono ?_
  obtain ⟨X, hX⟩ : ∃ X, asksF ⟨ak, ar, ai, an, av, ast⟩ M R = X := ⟨_, rfl⟩
  rw [hX]
  have HX := Lib.hid hX
  clear hX
  rintro e w2 ⟨F2, G2, rfl, ht, hc, hn1, hn2⟩
  have HT := Lib.hid ht
  have HC := Lib.hid hc
  have HN1 := Lib.hid hn1
  have HN2 := Lib.hid hn2
  clear ht hc hn1 hn2
  go_wp2_with fail
  go_ret
  rw [HX.out]
  have hs := HB.out.size
  refine ⟨F2, G2, rfl, HT.out, Chg.trans (F := Nof) ⟨HB.out.os, HB.out.tape, HB.out.output, HB.out.size, fun k hk _ => HB.out.block k hk⟩ HC.out (fun _ h => h.elim) (fun _ h _ => h), fun k hk => ?_, fun k hk => ?_⟩
  · rcases HN1.out k hk with e | e
    · exact .inl e
    · exact .inr (by omega)
  · rcases HN2.out k hk with e | e
    · exact .inl e
    · exact .inr (by omega)
theorem does_any (w : World) (F G : Nat → Prop) (p r : Nat) (M : HM) (R : RM) (a : AC) (h : TwoW w F G p r M R) (ho : Okay M R) (hi : (Lit.int .i64 a.i).wf = true) (hn : (Lit.int .i64 a.n).wf = true) :
    Calls Try.prog 20 #[P0 p, P0 r, ActV a] w (TwoRes w F G p r (doesF a M R).2.1 (doesF a M R).2.2 (.bool (doesF a M R).1)) := by
  unfold doesF
  by_cases h0 : a.kind = 0
  · rw [if_pos h0]; exact does0 w F G p r M R a h ho h0
  rw [if_neg h0]
  by_cases h1 : a.kind = 1
  · rw [if_pos h1]; exact does1 w F G p r M R a h ho h1
  rw [if_neg h1]
  by_cases h2 : a.kind = 2
  · rw [if_pos h2]; exact does2 w F G p r M R a h ho h2
  rw [if_neg h2]
  by_cases h3 : a.kind = 3
  · rw [if_pos h3]; exact does3 w F G p r M R a h ho h3
  rw [if_neg h3]
  by_cases h4 : a.kind = 4
  · rw [if_pos h4]; exact does4 w F G p r M R a h ho h4
  rw [if_neg h4]
  exact does_else w F G p r M R a h ho hi hn ⟨h0, h1, h2, h3, h4⟩
end Go.Proofs.Ytakpikoffbgjfaa
