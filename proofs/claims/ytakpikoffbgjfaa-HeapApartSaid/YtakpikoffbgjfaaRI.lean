import Derived.Test.YtakpikoffbgjfaaRH
namespace Go.Proofs.Ytakpikoffbgjfaa
open Go.RowKit Go.Maps

abbrev Nof : Nat → Prop := fun _ => False
theorem chg_alloc (w : World) (o : Obj) : Chg Nof w (w.alloc o) := (Chg.refl _ w).alloc o
theorem chg_seq {F : Nat → Prop} {a b c : World} (h : Chg Nof a b) (k : Chg F b c) : Chg F a c := h.trans k (fun _ h => h.elim) (fun _ h _ => h)
theorem chg_own {w w' : World} (h : Chg Nof w w') {base e sz n : Nat} {v : Value} {xs : List Value} (ho : w.ownsRow base e sz v n xs) : w'.ownsRow base e sz v n xs := own_kept ho (fun k hk => h.block k (ho.lt k hk).2 (fun h => h))
theorem news1 {w : World} {b : Nat} {u : Value} (h : w.cell? ⟨b, 0, none⟩ = some u) : ∀ j v, [u][j]? = some v → w.cell? ((⟨b, 0, none⟩ : Addr).add j) = some v := by
  intro j v hj
  cases j with
  | zero => simp at hj; subst hj; rw [add_plain']; exact h
  | succ j => simp at hj
/-- Both rows have been appended to. -/
structure Mid2 (W0 w : World) (xk xu k' u' : Value) (n : Nat) (ks us : List Value) : Prop where
  chg : Chg (fun b => xk.ownBlock = some b ∨ xu.ownBlock = some b) W0 w
  k : w.ownsRow 0 2 1 k' n ks
  u : w.ownsRow 0 2 1 u' n us
  kn : ∀ b, k'.ownBlock = some b → xk.ownBlock = some b ∨ W0.heap.size ≤ b
  un : ∀ b, u'.ownBlock = some b → xu.ownBlock = some b ∨ W0.heap.size ≤ b
  ne : ∀ b, k'.ownBlock = some b → u'.ownBlock ≠ some b
theorem own_b {W0 wa w1 wb : World} {xk xu k' : Value} {nk n : Nat} {ks' us : List Value} (hWa : Chg Nof W0 wa) (hap1 : Ap 0 2 1 wa w1 xk k' n ks') (hWb : Chg Nof w1 wb)
    (hu : W0.ownsRow 0 2 1 xu nk us) (hne : ∀ b, xk.ownBlock = some b → xu.ownBlock ≠ some b) : wb.ownsRow 0 2 1 xu nk us := by
  refine own_kept hu (fun b hb => ?_)
  have hl := (hu.lt b hb).2
  have h1 := hWa.block b hl (fun h => h)
  have hs := hWa.size
  have h2 := hap1.grew.block b (by omega) (fun e => hne b e.symm hb)
  have hs2 := hap1.grew.size
  have h3 := hWb.block b (by omega) (fun h => h)
  exact h3.trans (h2.trans h1)
theorem mid2 {W0 wa w1 wb w2 : World} {xk xu k' u' : Value} {nk n : Nat} {ks' us us' : List Value} (hWa : Chg Nof W0 wa) (hap1 : Ap 0 2 1 wa w1 xk k' n ks') (hWb : Chg Nof w1 wb) (hap2 : Ap 0 2 1 wb w2 xu u' n us')
    (hu : W0.ownsRow 0 2 1 xu nk us) (hne : ∀ b, xk.ownBlock = some b → xu.ownBlock ≠ some b) : Mid2 W0 w2 xk xu k' u' n ks' us' := by
  have hs := hWa.size
  have hs1 := hap1.grew.size
  have hs2 := hWb.size
  have hs3 := hap2.grew.size
  have hkn : ∀ b, k'.ownBlock = some b → xk.ownBlock = some b ∨ W0.heap.size ≤ b := fun b hb => by
    rcases hap1.lies with e | e
    · rw [e] at hb; exact .inl hb
    · rw [e] at hb; cases hb; exact .inr hs
  have hun : ∀ b, u'.ownBlock = some b → xu.ownBlock = some b ∨ b = wb.heap.size := fun b hb => by
    rcases hap2.lies with e | e
    · rw [e] at hb; exact .inl hb
    · rw [e] at hb; cases hb; exact .inr rfl
  have hk1 : ∀ b, k'.ownBlock = some b → b < w1.heap.size := fun b hb => (hap1.own.lt b hb).2
  have hxu : ∀ b, xu.ownBlock = some b → b < W0.heap.size := fun b hb => (hu.lt b hb).2
  have hkx : ∀ b, k'.ownBlock = some b → xu.ownBlock ≠ some b := fun b hb e => by
    rcases hkn b hb with h | h
    · exact hne b h e
    · have := hxu b e; omega
  refine ⟨?_, own_kept hap1.own (fun b hb => ?_), hap2.own, hkn, fun b hb => ?_, fun b hb e => ?_⟩
  · have c1 : Chg (fun b => xk.ownBlock = some b) W0 w1 := chg_seq hWa ((Chg.refl _ wa).grown hap1.grew (fun k e _ => e))
    have c2 : Chg (fun b => xk.ownBlock = some b) W0 wb := c1.trans hWb (fun _ h => h) (fun _ h _ => h.elim)
    exact c2.trans ((Chg.refl (fun b => xu.ownBlock = some b) wb).grown hap2.grew (fun k e _ => e)) (fun _ h => .inl h) (fun _ h _ => .inr h)
  · have h3 := hWb.block b (hk1 b hb) (fun h => h)
    have h4 := hap2.grew.block b (by have := hk1 b hb; omega) (fun e => hkx b hb e.symm)
    exact h4.trans h3
  · rcases hun b hb with h | h
    · exact .inl h
    · exact .inr (by omega)
  · rcases hun b e with h | h
    · exact hkx b hb h
    · have := hk1 b hb; omega
/-- The two rows are put into their thing. -/
theorem RmW.put2 {W0 w : World} {F : Nat → Prop} {p j g nl cap n : Nat} {M : RM} {qs : List RQ} {t : RT} {x : RQ} {k' u' : Value} {key v : Int} (h : RmW W0 F p M (.slice (some ⟨g, 0, none⟩) nl cap) qs) (hnl : M.l.length = nl)
    (ht : M.l[j]? = some t) (hq : qs[j]? = some x) (hn : t.keys.length + 1 = n) (hm : Mid2 W0 w x.k x.u k' u' n (ints t.keys ++ [I key]) (ints t.under ++ [I v])) :
    ∃ F' qs', RmW ((w.setCell ⟨g, j * 6 + 2, none⟩ k').setCell ⟨g, j * 6 + 3, none⟩ u') F' p { M with l := M.l.set j { t with keys := t.keys ++ [key], under := t.under ++ [v] } } (.slice (some ⟨g, 0, none⟩) nl cap) qs' ∧
      Chg F W0 ((w.setCell ⟨g, j * 6 + 2, none⟩ k').setCell ⟨g, j * 6 + 3, none⟩ u') ∧ ∀ k, F' k → F k ∨ W0.heap.size ≤ k := by
  subst hnl hn
  have hT := h.each j t x ht hq
  obtain ⟨gc, hgc⟩ := own_type h.row (k := g) rfl
  have hgl : g < W0.heap.size := h.lt g (h.rowF g rfl)
  have hs := hm.chg.size
  have hxg : ∀ a b, (x.s a).ownBlock = some b → b ≠ g := fun a b e => hT.off hgc (by decide) (by decide) b a e
  have hkg : ∀ b, k'.ownBlock = some b → b ≠ g := fun b e => by
    rcases hm.kn b e with e2 | e2
    · exact hxg 1 b e2
    · omega
  have hug : ∀ b, u'.ownBlock = some b → b ≠ g := fun b e => by
    rcases hm.un b e with e2 | e2
    · exact hxg 2 b e2
    · omega
  have hsb : ∀ b, b ≠ g → ((w.setCell ⟨g, j * 6 + 2, none⟩ k').setCell ⟨g, j * 6 + 3, none⟩ u').heap[b]? = w.heap[b]? := fun b hb => (Below.heap_setCell _ _ _ _ hb).trans (Below.heap_setCell _ _ _ _ hb)
  have hblk : ∀ b, b < W0.heap.size → b ≠ g → (∀ a, (x.s a).ownBlock ≠ some b) → ((w.setCell ⟨g, j * 6 + 2, none⟩ k').setCell ⟨g, j * 6 + 3, none⟩ u').heap[b]? = W0.heap[b]? := fun b hb h1 h2 =>
    (hsb b h1).trans (hm.chg.block b hb (fun e => by rcases e with e | e; exact h2 1 e; exact h2 2 e))
  have hrow0 : w.ownsRow 0 77 6 (.slice (some ⟨g, 0, none⟩) M.l.length cap) M.l.length (rcs M.l qs) := own_kept h.row (fun b hb => by
    cases hb
    exact hm.chg.block g hgl (fun e => by rcases e with e | e; exact hxg 1 g e rfl; exact hxg 2 g e rfl))
  have hrow := ((hrow0.stored (j * 6 + 2) k').1.stored (j * 6 + 3) u').1
  have hjl : j < M.l.length := (List.getElem?_eq_some_iff.1 ht).1
  have hjq : j < qs.length := (List.getElem?_eq_some_iff.1 hq).1
  rw [rcs_set M.l qs j t t x { x with k := k' } ht hq 2 k' (by omega) rfl, rcs_set (M.l.set j t) (qs.set j { x with k := k' }) j t { t with keys := t.keys ++ [key], under := t.under ++ [v] } { x with k := k' } { x with k := k', u := u' } (List.getElem?_set_self hjl) (List.getElem?_set_self hjq) 3 u' (by omega) rfl, List.set_set, List.set_set] at hrow
  have hlenk : (t.keys ++ [key]).length = t.keys.length + 1 := by simp
  have hnot0 : ∀ b, x.v.ownBlock = some b → x.k.ownBlock ≠ some b ∧ x.u.ownBlock ≠ some b := fun b e => ⟨h.apart j j 0 1 x x hq hq (.inr (by decide)) b e, h.apart j j 0 2 x x hq hq (.inr (by decide)) b e⟩
  have hT' : RtW ((w.setCell ⟨g, j * 6 + 2, none⟩ k').setCell ⟨g, j * 6 + 3, none⟩ u') (fun b => F b ∨ k'.ownBlock = some b ∨ u'.ownBlock = some b) { t with keys := t.keys ++ [key], under := t.under ++ [v] } { x with k := k', u := u' } := by
    refine ⟨own_kept hT.v (fun b hb => (hsb b (hxg 0 b hb)).trans (hm.chg.block b (h.lt b (hT.sF 0 b hb)) (fun e => by rcases e with e | e; exact (hnot0 b hb).1 e; exact (hnot0 b hb).2 e))), ?_, ?_, fun a b e => ?_⟩
    · have := own_kept hm.k (w' := (w.setCell ⟨g, j * 6 + 2, none⟩ k').setCell ⟨g, j * 6 + 3, none⟩ u') (fun b hb => hsb b (hkg b hb))
      simpa [ints_append, ints] using this
    · have := own_kept hm.u (w' := (w.setCell ⟨g, j * 6 + 2, none⟩ k').setCell ⟨g, j * 6 + 3, none⟩ u') (fun b hb => hsb b (hug b hb))
      simpa [ints_append, ints] using this
    · match a, e with
      | 0, e => exact .inl (hT.sF 0 b e)
      | 1, e => exact .inr (.inl e)
      | 2, e => exact .inr (.inr e)
  have hC : Chg F W0 ((w.setCell ⟨g, j * 6 + 2, none⟩ k').setCell ⟨g, j * 6 + 3, none⟩ u') :=
    ((hm.chg.mono (G := F) (fun b _ e => by rcases e with e | e; exact hT.sF 1 b e; exact hT.sF 2 b e)).set (a := ⟨g, _, none⟩) (h.rowF g rfl) _).set (a := ⟨g, _, none⟩) (h.rowF g rfl) _
  refine ⟨fun b => F b ∨ k'.ownBlock = some b ∨ u'.ownBlock = some b, _, RmW.change h ht hq hT' (fun b hb h1 h2 => hblk b (h.lt b hb) h1 h2) hrow (fun b hb => .inl hb) ?_ ?_ ?_, hC, ?_⟩
  · rintro b (hb | hb | hb)
    · have := h.lt b hb; simp; omega
    · have := (hm.k.lt b hb).2; simpa using this
    · have := (hm.u.lt b hb).2; simpa using this
  · intro a b e
    match a, e with
    | 0, e => exact .inl e
    | 1, e => exact hm.kn b e
    | 2, e => exact hm.un b e
  · intro a b hab c e e2
    have old0 : ∀ c, x.v.ownBlock = some c → c < W0.heap.size := fun c e => h.lt c (hT.sF 0 c e)
    match a, e, b, e2 with
    | 0, _, 0, _ => exact hab rfl
    | 0, e, 1, e2 => rcases hm.kn c e2 with h2 | h2; exact (hnot0 c e).1 h2; have := old0 c e; omega
    | 0, e, 2, e2 => rcases hm.un c e2 with h2 | h2; exact (hnot0 c e).2 h2; have := old0 c e; omega
    | 1, e, 0, e2 => rcases hm.kn c e with h2 | h2; exact (hnot0 c e2).1 h2; have := old0 c e2; omega
    | 1, _, 1, _ => exact hab rfl
    | 1, e, 2, e2 => exact hm.ne c e e2
    | 2, e, 0, e2 => rcases hm.un c e with h2 | h2; exact (hnot0 c e2).2 h2; have := old0 c e2; omega
    | 2, e, 1, e2 => exact hm.ne c e2 e
    | 2, _, 2, _ => exact hab rfl
  · rintro b (hb | hb | hb)
    · exact .inl hb
    · rcases hm.kn b hb with e | e
      · exact .inl (hT.sF 1 b e)
      · exact .inr e
    · rcases hm.un b hb with e | e
      · exact .inl (hT.sF 2 b e)
      · exact .inr e
/-- What is under a key is changed. -/
theorem RmW.setUnder {W : World} {F : Nat → Prop} {p j g nl cap k ub nv cc : Nat} {M : RM} {qs : List RQ} {t : RT} {x : RQ} {n : Int} (h : RmW W F p M (.slice (some ⟨g, 0, none⟩) nl cap) qs) (hnl : M.l.length = nl)
    (ht : M.l[j]? = some t) (hq : qs[j]? = some x) (hx : x.u = .slice (some ⟨ub, 0, none⟩) nv cc) :
    RmW (W.setCell ⟨ub, k, none⟩ (I n)) F p { M with l := M.l.set j { t with under := t.under.set k n } } (.slice (some ⟨g, 0, none⟩) nl cap) qs := by
  subst hnl
  have hT := h.each j t x ht hq
  have hub : (x.s 2).ownBlock = some ub := by show x.u.ownBlock = _; rw [hx]; rfl
  have hown := hT.u
  obtain ⟨A, c2, e2, _⟩ := (Rd.of_own hown).form
  have hnv : nv = t.keys.length := by rw [hx] at e2; cases e2; rfl
  subst hnv
  rw [hx] at hown
  have hs := (hown.stored k (I n)).1
  have hbk : ∀ b, b ≠ ub → (W.setCell ⟨ub, k, none⟩ (I n)).heap[b]? = W.heap[b]? := fun b hb => Below.heap_setCell _ _ _ _ hb
  obtain ⟨cur, hcur⟩ := own_type hT.u (k := ub) hub
  obtain ⟨gc, hgc⟩ := own_type h.row (k := g) rfl
  have hT' : RtW (W.setCell ⟨ub, k, none⟩ (I n)) F { t with under := t.under.set k n } x := by
    refine ⟨own_kept hT.v (fun b hb => hbk b (fun e => by subst e; exact h.apart j j 0 2 x x hq hq (.inr (by decide)) _ hb hub)), own_kept hT.k (fun b hb => hbk b (fun e => by subst e; exact h.apart j j 1 2 x x hq hq (.inr (by decide)) _ hb hub)), ?_, hT.sF⟩
    rw [hx]
    simpa [ints, List.map_set] using hs
  have hrow : (W.setCell ⟨ub, k, none⟩ (I n)).ownsRow 0 77 6 (.slice (some ⟨g, 0, none⟩) M.l.length cap) M.l.length (rcs (M.l.set j { t with under := t.under.set k n }) (qs.set j x)) := by
    have h1 := rcs_set M.l qs j t { t with under := t.under.set k n } x x ht hq 0 (I t.kind) (by omega) rfl
    have h2 : (rcs M.l qs).set (j * 6 + 0) (I t.kind) = rcs M.l qs := set_same _ _ _ (rcs_at M.l qs j t x ht hq 0 (by omega))
    rw [← h1, h2]
    exact own_kept h.row (fun b hb => hbk b (by cases hb; exact ne_type hgc hcur (by decide)))
  have := RmW.change (w' := W.setCell ⟨ub, k, none⟩ (I n)) (F' := F) h ht hq hT' (fun b _ _ hn => hbk b (fun e => hn 2 (e ▸ hub))) hrow (fun _ h => h) (fun b hb => by simpa using h.lt b hb) (fun a b hb => .inl hb) (fun a b hab b' e => h.apart j j a b x x hq hq (.inr hab) b' e)
  rwa [set_same qs j x hq] at this
end Go.Proofs.Ytakpikoffbgjfaa
