import Derived.Test.YtcghkemfepnihaaGraph
namespace Go.Proofs.Ytcghkemfepnihaa
open Go.RowKit

/-- v is met from S along rows of nodes. -/
inductive MetBy (gs : List (List Int)) (S : List Int) : Int → Prop
  | start {v : Int} : v ∈ S → MetBy gs S v
  | step {a b : Int} : MetBy gs S a → 0 ≤ a → b ∈ gs.getD a.toNat [] → MetBy gs S b
def unv (gs : List (List Int)) (out : List Bool) : Nat := ((gs.zip out).map fun p => if p.2 then 0 else p.1.length).sum
theorem unv_set (gs : List (List Int)) (out : List Bool) (v : Nat) (h1 : v < gs.length) (h2 : v < out.length) (h : out.getD v true = false) : unv gs (out.set v true) + (gs.getD v []).length = unv gs out := by
  induction gs generalizing out v with
  | nil => simp at h1
  | cons a gs ih =>
    cases out with
    | nil => simp at h2
    | cons b out =>
      cases v with
      | zero => simp at h; subst h; simp [unv]; omega
      | succ v =>
        have := ih out v (by simpa using h1) (by simpa using h2) (by simpa using h)
        simp [unv] at *
        omega
theorem unv_start (gs : List (List Int)) : unv gs (List.replicate gs.length false) = total gs := by
  induction gs with
  | nil => rfl
  | cons a gs ih => simp [unv, total, List.replicate_succ] at *; omega
/-- What stands between the rounds of met. -/
structure Mid (gs : List (List Int)) (S : List Int) (out : List Bool) (wait : List Int) : Prop where
  len : out.length = gs.length
  rng : ∀ v ∈ wait, 0 ≤ v ∧ v < gs.length
  ok : ∀ v ∈ wait, MetBy gs S v
  ok' : ∀ v : Nat, out.getD v false = true → MetBy gs S v
  all : ∀ v ∈ S, v ∈ wait ∨ out.getD v.toNat false = true
  next : ∀ a : Nat, out.getD a false = true → ∀ b ∈ gs.getD a [], b ∈ wait ∨ out.getD b.toNat false = true
structure MetOut (gs : List (List Int)) (S : List Int) (out : List Bool) : Prop where
  len : out.length = gs.length
  at_ : ∀ v : Nat, out.getD v false = true ↔ MetBy gs S v
/-- rows of nodes of so many -/
def InRows (gs : List (List Int)) : Prop := ∀ a : Nat, ∀ b ∈ gs.getD a [], 0 ≤ b ∧ b < gs.length
theorem mid_start {gs : List (List Int)} {S : List Int} (hS : ∀ v ∈ S, 0 ≤ v ∧ v < gs.length) : Mid gs S (List.replicate gs.length false) S := by
  refine ⟨by simp, hS, fun v hv => .start hv, fun v hv => ?_, fun v hv => .inl hv, fun a ha => ?_⟩
  · rw [getD_replicate] at hv; cases hv
  · rw [getD_replicate] at ha; cases ha
theorem mid_seen {gs : List (List Int)} {S : List Int} {out : List Bool} {ws : List Int} {v : Int} (h : Mid gs S out (ws ++ [v])) (hv : out.getD v.toNat false = true) : Mid gs S out ws := by
  refine ⟨h.len, fun u hu => h.rng u (by simp [hu]), fun u hu => h.ok u (by simp [hu]), h.ok', fun u hu => ?_, fun a ha b hb => ?_⟩
  · rcases h.all u hu with h1 | h1
    · rcases List.mem_append.1 h1 with h2 | h2
      · exact .inl h2
      · simp at h2; subst h2; exact .inr hv
    · exact .inr h1
  · rcases h.next a ha b hb with h1 | h1
    · rcases List.mem_append.1 h1 with h2 | h2
      · exact .inl h2
      · simp at h2; subst h2; exact .inr hv
    · exact .inr h1
theorem mid_new {gs : List (List Int)} {S : List Int} {out : List Bool} {ws : List Int} {v : Nat} (hin : InRows gs) (h : Mid gs S out (ws ++ [(v : Int)])) (hv : v < gs.length) : Mid gs S (out.set v true) (ws ++ gs.getD v []) := by
  have hl : v < out.length := by rw [h.len]; exact hv
  have hm : MetBy gs S v := h.ok v (by simp)
  have hk : ∀ u : Nat, out.getD u false = true → (out.set v true).getD u false = true := fun u hu => by
    rw [getD_set' _ _ _ _ _ hl]; split
    · rfl
    · exact hu
  have hself : (out.set v true).getD v false = true := by rw [getD_set' _ _ _ _ _ hl, if_pos rfl]
  refine ⟨by simpa using h.len, fun u hu => ?_, fun u hu => ?_, fun u hu => ?_, fun u hu => ?_, fun a ha b hb => ?_⟩
  · rcases List.mem_append.1 hu with h1 | h1
    · exact h.rng u (by simp [h1])
    · exact hin v u h1
  · rcases List.mem_append.1 hu with h1 | h1
    · exact h.ok u (by simp [h1])
    · exact .step hm (by omega) (by simpa using h1)
  · rw [getD_set' _ _ _ _ _ hl] at hu
    by_cases e : u = v
    · subst e; exact hm
    · rw [if_neg e] at hu; exact h.ok' u hu
  · rcases h.all u hu with h1 | h1
    · rcases List.mem_append.1 h1 with h2 | h2
      · exact .inl (by simp [h2])
      · simp at h2; subst h2; exact .inr (by simpa using hself)
    · exact .inr (hk _ h1)
  · rw [getD_set' _ _ _ _ _ hl] at ha
    by_cases e : a = v
    · subst e; exact .inl (List.mem_append.2 (.inr hb))
    · rw [if_neg e] at ha
      rcases h.next a ha b hb with h1 | h1
      · rcases List.mem_append.1 h1 with h2 | h2
        · exact .inl (by simp [h2])
        · simp at h2; subst h2; exact .inr (by simpa using hself)
      · exact .inr (hk _ h1)
theorem mid_end {gs : List (List Int)} {S : List Int} {out : List Bool} (hS : ∀ v ∈ S, 0 ≤ v) (hin : InRows gs) (h : Mid gs S out []) : MetOut gs S out := by
  refine ⟨h.len, fun v => ⟨h.ok' v, fun hm => ?_⟩⟩
  have key : ∀ u : Int, MetBy gs S u → 0 ≤ u ∧ out.getD u.toNat false = true := by
    intro u hu
    induction hu with
    | start hs =>
      refine ⟨hS _ hs, ?_⟩
      rcases h.all _ hs with h1 | h1
      · simp at h1
      · exact h1
    | step _ h0 hb ih =>
      refine ⟨(hin _ _ hb).1, ?_⟩
      rcases h.next _ ih.2 _ hb with h1 | h1
      · simp at h1
      · exact h1
  simpa using (key v hm).2

theorem own_pop {w : World} {base e g n cap : Nat} {xs : List Value} {x : Value} (h : w.ownsRow base e 1 (.slice (some ⟨g, 0, none⟩) (n + 1) cap) (n + 1) (xs ++ [x])) : w.ownsRow base e 1 (.slice (some ⟨g, 0, none⟩) n cap) n xs := by
  have hl := h.1
  simp at hl
  rcases h.2 with ⟨h2, _⟩ | ⟨g', cap', cur, h2, hb, hh, hn, hm, hs, ht⟩
  · cases h2
  · cases h2
    refine ⟨by simpa using hl, .inr ⟨g, cap, cur, rfl, hb, hh, by omega, hm, hs, ?_⟩⟩
    have : (cur.toList.take ((n + 1) * 1)).take n = (xs ++ [x]).take n := by rw [ht]
    rw [List.take_take, List.take_append_of_le_length (by omega), List.take_of_length_le (l := xs) (by omega)] at this
    rw [← this]
    congr 1
    omega
theorem bools_set (d : List Bool) (i : Nat) (x : Bool) : (bools d).set i (.bool x) = bools (d.set i x) := by simp [bools, List.map_set]

set_option maxHeartbeats 4000000 in
set_option maxRecDepth 100000 in
theorem met_any (w : World) (v1 v2 : Value) (gs : List (List Int)) (S : List Int) (h1 : RdRows w v1 gs) (h2 : Rd w v2 S.length (ints S)) (hn : gs.length ≤ 16384) (hin : InRows gs) (hS : ∀ v ∈ S, 0 ≤ v ∧ v < gs.length) (hb : (S.length + total gs) * 8 ≤ 140737488355328) :
    Calls Try.prog 24 #[v1, v2] w fun e w' => ∃ r out, e = .returned r ∧ Rd w' r gs.length (bools out) ∧ MetOut gs S out ∧ Below w.heap.size w w' := by
  obtain ⟨vs, r1, r2, r3⟩ := h1.out
  obtain ⟨A1, c1, rfl, hm1⟩ := r1.form
  have hmk := run_make_row' (P := Try.prog) 27 4 (.bool false) 1 Try.underlying27 (by kernel_rfl) rfl .i64 .i64 gs.length (by omega) (by omega)
  have hx := Lib.hid r1
  have hr2 := Lib.hid r2
  have hr3 := Lib.hid r3
  have HIN := Lib.hid hin
  have HS := Lib.hid hS
  have H2 := Lib.hid (h2.alloc (.cells (madeCells #[.bool false] gs.length) 4))
  clear h1 h2 r1 r2 r3 hin hS
  go_enter Try.func24, Try.ntmps24
  go_wp2_with (go_at_call 33; refine (clone_ints _ _ S H2.out (by omega)).mono ?_; rintro e w1 ⟨rw, rfl, hown, hB1⟩)
  have hown' : w1.ownsRow (w.heap.size + 1) 3 1 rw S.length (ints S) := by simpa using hown
  have hO1 := Lib.hid hown'
  have hB0 : Below w.heap.size w w1 := below_step (below_alloc w _) hB1 (by simp)
  have hA1 : Hid (Arr w1 w.heap.size 4 (bools (List.replicate gs.length false))) := Lib.hid (by
    have := (Arr.made w 4 gs.length (.bool false)).below hB1
    simpa [bools] using this)
  clear hown hown' hB1 hmk
  go_loopg [6] (S.length + total gs) (fun g s6 wr => ∃ (out : List Bool) (wait : List Int), Arr wr w.heap.size 4 (bools out) ∧ wr.ownsRow (w.heap.size + 1) 3 1 s6 wait.length (ints wait) ∧ Mid gs S out wait ∧ wait.length + unv gs out ≤ g ∧ g ≤ S.length + total gs ∧ Below w.heap.size w wr)
  case atStart => exact ⟨_, S, hA1.out, hO1.out, mid_start HS.out, by rw [unv_start]; omega, Nat.le_refl _, hB0⟩
  case round =>
    clear hO1 hA1 hB0 H2
    obtain ⟨out, wait, harr, hown, hM, hg, hg2, hB⟩ := hrel
    have hA := Lib.hid harr
    have HM := Lib.hid hM
    have hsz := hB.size
    clear hM
    rcases List.eq_nil_or_concat wait with rfl | ⟨ws, v, rfl⟩
    · obtain ⟨A, c, rfl, _⟩ := (Rd.of_own hown).form
      clear harr hown
      go_wp2
      go_ret
      exact ⟨_, out, rfl, hA.out.rd _ _ (Nat.le_refl _) (by omega), mid_end (fun v hv => (HS.out v hv).1) HIN.out HM.out, hB⟩
    · simp only [List.concat_eq_append] at *
      have hwl : (ws ++ [v]).length = ws.length + 1 := by simp
      have hown2 : wr.ownsRow (w.heap.size + 1) 3 1 u6 (ws.length + 1) (ints ws ++ [I v]) := by
        rw [hwl, ints_append] at hown; exact hown
      clear hown
      have hvr := HM.out.rng v (by simp)
      obtain ⟨n, hvn⟩ : ∃ n : Nat, v = n := ⟨v.toNat, by omega⟩
      subst hvn
      have hng : n < gs.length := by omega
      have hgl : ws.length + 1 + unv gs out ≤ gk := by rw [hwl] at hg; exact hg
      clear hg hwl
      obtain ⟨gb, cap, rfl, hgb, hgb2⟩ := hown2.form (by omega)
      have hlast : wr.cell? ⟨gb, ws.length, none⟩ = some (I n) := by
        have := hown2.cells (g := gb) rfl ws.length (I n) (by rw [List.getElem?_append_right (by simp)]; simp)
        rwa [add_plain', Nat.zero_add] at this
      have hcap : ws.length + 1 ≤ cap := by
        obtain ⟨A, c, e, h, _⟩ := (Rd.of_own hown2).form
        cases e; exact h
      have hO := Lib.hid (own_pop hown2)
      clear hown2
      have hnl : n < out.length := by rw [HM.out.len]; exact hng
      obtain ⟨o, ho⟩ : ∃ o, out.getD n true = o := ⟨_, rfl⟩
      have ho' : out.getD n false = o := by rw [← ho]; simp [List.getD_eq_getElem?_getD, hnl]
      have hcell : wr.cell? ⟨w.heap.size, n, none⟩ = some (.bool o) := by
        rw [harr.cell, bools_at _ _ hnl, ← ho]
        simp [List.getD_eq_getElem?_getD, hnl]
      have hfr := harr.frozen n
      have HO := Lib.hid ho
      have HO' := Lib.hid ho'
      clear harr ho ho'
      have hng' : (n : Int) < gs.length := by omega
      have hl1 : (0 : Int) < (ws.length : Int) + 1 := by omega
      have hl2 : (ws.length : Int) ≤ cap := by omega
      obtain ⟨b1, o1, _, e1, _, hb1, g1⟩ := hx.out.elem (by rw [hr2.out]; omega)
      cases e1
      obtain ⟨vn, hvn⟩ : ∃ vn, vs.getD n nilS = vn := ⟨_, rfl⟩
      obtain ⟨row, hrow⟩ : ∃ row, gs.getD n [] = row := ⟨_, rfl⟩
      have hvc : w.cell? ⟨b1, o1 + n, none⟩ = some vn := by
        refine g1 n vn ?_
        rw [← hvn, List.getD_eq_getElem?_getD, List.getElem?_eq_getElem (by rw [hr2.out]; exact hng)]; rfl
      have hB2 : Below w.heap.size w (wr.setCell ⟨w.heap.size, n, none⟩ (.bool true)) := hB.setCell (Nat.le_refl _) _
      have hcs : (wr.setCell ⟨w.heap.size, n, none⟩ (.bool true)).cell? ⟨b1, o1 + n, none⟩ = some vn := (hB2.cell (p := ⟨b1, o1 + n, none⟩) hb1).trans hvc
      have hrn := hr3.out n hng
      rw [hvn, hrow] at hrn
      have HRN := Lib.hid (hrn.below hB2)
      have HROW := Lib.hid hrow
      have hO2 := Lib.hid (ownsRow_setCell_below hO.out (a := ⟨w.heap.size, n, none⟩) (by show w.heap.size < w.heap.size + 1; omega) (.bool true))
      have hA2 := Lib.hid (hA.out.set n (.bool true))
      have hBH := Lib.hid hB2
      clear hvn hrow hvc g1 hrn hB2
      cases o with
      | true =>
        go_wp2
        go_roundg (ws.length + unv gs out)
        case measure => go_light; omega
        case rel => exact ⟨out, ws, hA.out, by simpa [Addr.add] using hO.out, mid_seen HM.out (by simpa using HO'.out), Nat.le_refl _, by omega, hB⟩
      | false =>
        have hu := unv_set gs out n hng hnl HO.out
        rw [HROW.out] at hu
        go_wp2_with (at_builtin; refine wpl_append rfl _ _ _ rfl E26 rfl hO2.out rfl HRN.out (by simp) (ints_one _) (by omega) (by simp only [maxLen]; omega) (by simp; omega) ?_; intro v' w2 hap)
        go_roundg (ws.length + row.length + unv gs (out.set n true))
        case measure => go_light; omega
        case rel =>
          have hmn := mid_new HIN.out HM.out hng
          rw [HROW.out] at hmn
          have hbel : Below w.heap.size w w2 := hap.below hBH.out hO2.out (Nat.le_succ _) (by simp; omega)
          have hne : some w.heap.size ≠ (Value.slice (some ⟨gb, 0, none⟩) ws.length cap).ownBlock := by simp [Value.ownBlock]; omega
          refine ⟨out.set n true, ws ++ row, by rw [← bools_set]; exact hA2.out.grown hap.grew hne, by have := hap.own; rw [ints_append]; simpa using this, hmn, by simp, by omega, hbel⟩
end Go.Proofs.Ytcghkemfepnihaa
