import Derived.Test.YtakpikoffbgjfaaHL
namespace Go.Proofs.Ytakpikoffbgjfaa
open Go.RowKit Go.Maps

theorem tqs_setk (l : List TQ) : ∀ (j : Nat) (q : TQ) (v : Value), l[j]? = some q → (tqs l).set (j * 4 + 1) v = tqs (l.set j { q with k := v }) := by
  induction l with
  | nil => intro j q v h; simp at h
  | cons x l ih =>
    intro j q v h
    cases j with
    | zero => simp at h; subst h; simp [tqs, TQ.cs]
    | succ j =>
      have := ih j q v (by simpa using h)
      rw [show (j + 1) * 4 + 1 = j * 4 + 1 + 1 + 1 + 1 + 1 by omega]
      simpa [tqs, TQ.cs] using this
theorem set_same {A : Type} (l : List A) (j : Nat) (x : A) (h : l[j]? = some x) : l.set j x = l := by
  obtain ⟨_, e⟩ := List.getElem?_eq_some_iff.1 h
  rw [← e]; simp
/-- In the middle of a Put: the keys are as they will be, the map is not yet. -/
structure PutMid (w W0 wx : World) (F : Nat → Prop) (p : Nat) (M1 : HM) (tv fv : Value) (qs : List TQ) (j : Nat) (x : TQ) (xk : Value) (ks : List Int) : Prop where
  mem : MemW W0 F p M1 tv fv qs
  chg : Chg F w W0
  wchg : Chg (fun k => tv.ownBlock = some k ∨ x.k.ownBlock = some k) W0 wx
  row : wx.ownsRow 0 64 4 tv qs.length (tqs (qs.set j { x with k := xk }))
  keys : wx.ownsRow 0 2 1 xk ks.length (ints ks)
  new : ∀ k, xk.ownBlock = some k → x.k.ownBlock = some k ∨ W0.heap.size ≤ k
theorem PutMid.same {w W0 : World} {F : Nat → Prop} {p : Nat} {M1 : HM} {tv fv : Value} {qs : List TQ} {j : Nat} {x : TQ} {t : Th} (h : MemW W0 F p M1 tv fv qs) (hc : Chg F w W0) (ht : M1.things[j]? = some t) (hx : qs[j]? = some x) :
    PutMid w W0 W0 F p M1 tv fv qs j x x.k t.keys := by
  refine ⟨h, hc, Chg.refl _ _, ?_, (h.each j t x ht hx).keys, fun k hk => .inl hk⟩
  have : qs.set j { x with k := x.k } = qs := set_same qs j x hx
  rw [this]; exact h.things
theorem PutMid.append {w W0 w1 : World} {F : Nat → Prop} {p g cap n : Nat} {M1 : HM} {fv xk : Value} {qs : List TQ} {j : Nat} {x : TQ} {t : Th} {key : Int} {o : Obj} (h : MemW W0 F p M1 (.slice (some ⟨g, 0, none⟩) M1.things.length cap) fv qs) (hc : Chg F w W0)
    (ht : M1.things[j]? = some t) (hx : qs[j]? = some x) (hn : t.keys.length + 1 = n) (hap : Ap 0 2 1 (W0.alloc o) w1 x.k xk n (ints t.keys ++ [I key])) :
    PutMid w W0 (w1.setCell ⟨g, j * 4 + 1, none⟩ xk) F p M1 (.slice (some ⟨g, 0, none⟩) M1.things.length cap) fv qs j x xk (t.keys ++ [key]) := by
  subst hn
  have hT := h.each j t x ht hx
  obtain ⟨gc, hgc⟩ := own_type h.things (k := g) rfl
  have hgl : g < W0.heap.size := h.lt g (h.thingsF g rfl)
  have hkg : ∀ k, x.k.ownBlock = some k → g ≠ k := fun k hk => by obtain ⟨c2, h2⟩ := own_type hT.keys hk; exact ne_type hgc h2 (by decide)
  have hC : Chg (fun k => (Value.slice (some ⟨g, 0, none⟩) M1.things.length cap).ownBlock = some k ∨ x.k.ownBlock = some k) W0 (w1.setCell ⟨g, j * 4 + 1, none⟩ xk) :=
    ((((Chg.refl _ W0).alloc o).grown hap.grew (fun k e _ => .inr e))).set (a := ⟨g, _, none⟩) (.inl rfl) _
  have hrow1 : w1.ownsRow 0 64 4 (.slice (some ⟨g, 0, none⟩) M1.things.length cap) M1.things.length (tqs qs) := by
    have h0 := h.things
    rw [h.len] at h0
    refine own_kept h0 (fun k hk => ?_)
    cases hk
    rw [hap.grew.block g (by simp; omega) (fun e => hkg g e.symm rfl)]
    exact Below.heap_alloc _ _ _ hgl
  refine ⟨h, hc, hC, ?_, ?_, ?_⟩
  · have := (hrow1.stored (j * 4 + 1) xk).1
    rw [tqs_setk _ _ _ _ hx] at this
    rw [h.len]; exact this
  · have h1 := own_kept hap.own (w' := w1.setCell ⟨g, j * 4 + 1, none⟩ xk) (fun k hk => Below.heap_setCell _ _ _ _ (fun e => by
      have e' : k = g := e
      subst e'
      rcases hap.lies with h2 | h2
      · rw [h2] at hk; exact hkg k hk rfl
      · rw [h2] at hk; cases hk; simp at hgl; omega))
    simpa [ints_append, ints] using h1
  · intro k hk
    rcases hap.lies with h2 | h2
    · rw [h2] at hk; exact .inl hk
    · rw [h2] at hk; cases hk; exact .inr (by simp)
theorem ownsMap_tight {w : World} {b n m : Nat} {D : DataW Unit} (h : w.ownsMap Try.prog 2 (plainElem Try.prog 2) b n D) (hs : Maps.size D = m) : w.ownsMap Try.prog 2 (plainElem Try.prog 2) b m D := by
  obtain ⟨es, clock, hb, F, hn, rfl⟩ := h
  exact ⟨es, clock, hb, F, by rw [← hs]; simp [Maps.size, Go.length_sorted], rfl⟩
/-- What is put is put. -/
theorem PutMid.done {w W0 wx w3 : World} {F : Nat → Prop} {p g cap b m : Nat} {M1 : HM} {fv : Value} {qs : List TQ} {j : Nat} {x : TQ} {xk : Value} {ks : List Int} {t : Th} {D : DataW Unit} {key n : Int}
    (h : PutMid w W0 wx F p M1 (.slice (some ⟨g, 0, none⟩) M1.things.length cap) fv qs j x xk ks) (ht : M1.things[j]? = some t) (hx : qs[j]? = some x) (htab : t.tab = true) (hxm : x.m = .map (some b)) (hks : ks = if key ∈ t.keys then t.keys else t.keys ++ [key])
    (hsz : Maps.size D = t.keys.length) (hkw : (Lit.int .i64 key).wf = true)
    (hD : ∀ x : Int, (Lit.int .i64 x).wf = true → Maps.has D (.int .i64 x) = decide (x ∈ t.keys) ∧ D.atKey (.int .i64 x) (.lit (.int .i64 0)) = .lit (.int .i64 (t.under x)))
    (hg : wx.grownBy w3 (some b)) (hown : w3.ownsMap Try.prog 2 (plainElem Try.prog 2) b m (D.put (.int .i64 key) (.lit (.int .i64 n)))) (hDm : IsMap D) (hDt : Maps.Tidy D) :
    ∃ F' qs', MemW w3 F' p { M1 with things := M1.things.set j { t with keys := ks, under := fun x => if x = key then n else t.under x } } (.slice (some ⟨g, 0, none⟩) M1.things.length cap) fv qs' ∧ Chg F w w3 ∧ ∀ k, F' k → F k ∨ w.heap.size ≤ k := by
  have hT := h.mem.each j t x ht hx
  have hbm : x.mb = some b := by rw [TQ.mb, hxm]
  have hFb : F b := hT.inF (.inr (.inr hbm))
  have hbl := h.mem.lt b hFb
  obtain ⟨gc, hgc⟩ := own_type h.mem.things (k := g) rfl
  obtain ⟨es, cl, hes⟩ := mb_block hT hbm
  have hs1 := h.wchg.size
  have hs2 := hg.size
  have hbg : b ≠ g := by rintro rfl; rw [hgc] at hes; cases hes
  have hbk : x.k.ownBlock ≠ some b := fun e => by obtain ⟨c2, h2⟩ := own_type hT.keys e; rw [h2] at hes; cases hes
  have hblk : ∀ k, k < W0.heap.size → k ≠ g → x.k.ownBlock ≠ some k → k ≠ b → w3.heap[k]? = W0.heap[k]? := fun k hk h1 h2 h3 =>
    (hg.block k (by omega) (fun e => h3 (by cases e; rfl))).trans (h.wchg.block k hk (fun e => by
      rcases e with e | e
      · cases e; exact h1 rfl
      · exact h2 e))
  have hxkb : ∀ k, xk.ownBlock = some k → k ≠ b := fun k hk e => by
    subst e
    rcases h.new k hk with e | e
    · exact hbk e
    · omega
  have hC : Chg F w w3 := by
    refine ⟨hg.os.trans (h.wchg.os.trans h.chg.os), hg.tape.trans (h.wchg.tape.trans h.chg.tape), hg.output.trans (h.wchg.output.trans h.chg.output), by have := h.chg.size; omega, fun k hk hn => ?_⟩
    have hk2 := Nat.lt_of_lt_of_le hk h.chg.size
    rw [hblk k hk2 (fun e => hn (e ▸ h.mem.thingsF g rfl)) (fun e => hn (hT.keysF k e)) (fun e => hn (e ▸ hFb))]
    exact h.chg.block k hk hn
  have hlen : ks.length = t.keys.length + (if key ∈ t.keys then 0 else 1) := by rw [hks]; split <;> simp
  have hsz2 : Maps.size (D.put (.int .i64 key) (.lit (.int .i64 n))) = ks.length := by
    rw [Maps.size_put hDt, (hD key hkw).1, hsz, hlen]
    by_cases hin : key ∈ t.keys <;> simp [hin]
  have hT' : ThW w3 (fun k => F k ∨ xk.ownBlock = some k) { t with keys := ks, under := fun x => if x = key then n else t.under x } { x with k := xk } := by
    refine ⟨hT.f, own_kept hT.cells (fun k hk => ?_), fun k hk => .inl (hT.cellsF k hk), own_kept h.keys (fun k hk => hg.block k (h.keys.lt k hk).2 (fun e => hxkb k hk (by cases e; rfl))), fun k hk => .inr hk, .inr ⟨htab, b, D.put (.int .i64 key) (.lit (.int .i64 n)), hxm, .inl hFb, ?_, ?_, fun y hy => ⟨?_, ?_⟩⟩⟩
    · obtain ⟨c2, h2⟩ := own_type hT.cells hk
      exact hblk k (h.mem.lt k (hT.cellsF k hk)) (ne_type h2 hgc (by decide)) (fun e => by obtain ⟨c3, h3⟩ := own_type hT.keys e; exact ne_type h2 h3 (by decide) rfl) (fun e => by subst e; rw [h2] at hes; cases hes)
    · exact ownsMap_tight hown hsz2
    · exact hsz2
    · by_cases hyk : y = key
      · subst hyk
        rw [Maps.has_put_same hDm (show WideAt.IsKeyLit (.int .i64 y) from trivial), hks]
        by_cases hin : y ∈ t.keys <;> simp [hin]
      · rw [Maps.has_put_other (by intro e; cases e; exact hyk rfl), (hD y hy).1, hks]
        by_cases hin : key ∈ t.keys <;> simp [hin, hyk]
    · by_cases hyk : y = key
      · subst hyk
        rw [Maps.atKey_put_same hDm (show WideAt.IsKeyLit (.int .i64 y) from trivial)]
        simp
      · rw [Maps.atKey_put_other (by intro e; cases e; exact hyk rfl), (hD y hy).2]
        simp [hyk]
  refine ⟨fun k => F k ∨ xk.ownBlock = some k, _, MemW.change h.mem ht hx hT' (fun k hF h1 h2 => hblk k (h.mem.lt k hF) h1 (fun e => h2 (.inr (.inl e))) (fun e => h2 (.inr (.inr (e ▸ hbm))))) (own_kept h.row (fun k hk => hg.block k (h.row.lt k hk).2 (fun e => by cases hk; cases e; exact hbg rfl))) (fun k hk => .inl hk) ?_ (fun k hk => .inl hk) (fun k hk => h.new k hk) (fun k hk => .inl hk), hC, ?_⟩
  · rintro k (hk | hk)
    · have := h.mem.lt k hk; omega
    · have := (h.keys.lt k hk).2; omega
  · rintro k (hk | hk)
    · exact .inl hk
    · rcases h.new k hk with e | e
      · exact .inl (hT.keysF k e)
      · exact .inr (by have := h.chg.size; omega)
theorem PutMid.mcell {w W0 wx : World} {F : Nat → Prop} {p g n cap : Nat} {M1 : HM} {fv : Value} {qs : List TQ} {j : Nat} {x : TQ} {xk : Value} {ks : List Int}
    (h : PutMid w W0 wx F p M1 (.slice (some ⟨g, 0, none⟩) n cap) fv qs j x xk ks) (hx : qs[j]? = some x) : wx.cell? ⟨g, j * 4 + 2, none⟩ = some x.m := by
  have hj : j < qs.length := (List.getElem?_eq_some_iff.1 hx).1
  have h1 := (tqs_at (qs.set j { x with k := xk }) j { x with k := xk } (List.getElem?_set_self hj)).2.2.1
  have := h.row.cells (g := g) rfl (j * 4 + 2) x.m h1
  rwa [add_plain', Nat.zero_add] at this
theorem PutMid.map {w W0 wx : World} {F : Nat → Prop} {p g n cap b m : Nat} {M1 : HM} {fv : Value} {qs : List TQ} {j : Nat} {x : TQ} {xk : Value} {ks : List Int} {t : Th} {D : DataW Unit}
    (h : PutMid w W0 wx F p M1 (.slice (some ⟨g, 0, none⟩) n cap) fv qs j x xk ks) (ht : M1.things[j]? = some t) (hx : qs[j]? = some x) (hxm : x.m = .map (some b)) (hown : W0.ownsMap Try.prog 2 (plainElem Try.prog 2) b m D) :
    wx.ownsMap Try.prog 2 (plainElem Try.prog 2) b m D := by
  have hT := h.mem.each j t x ht hx
  obtain ⟨gc, hgc⟩ := own_type h.mem.things (k := g) rfl
  obtain ⟨es, cl, hes⟩ := map_block hown
  refine map_kept hown (h.wchg.block b hown.lt (fun e => ?_))
  rcases e with e | e
  · cases e; rw [hgc] at hes; cases hes
  · obtain ⟨c2, h2⟩ := own_type hT.keys e; rw [h2] at hes; cases hes
end Go.Proofs.Ytakpikoffbgjfaa
