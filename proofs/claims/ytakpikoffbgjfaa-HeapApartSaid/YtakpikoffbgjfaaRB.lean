import Derived.Test.YtakpikoffbgjfaaRA
import Derived.BigQuiet
namespace Go.Proofs.Ytakpikoffbgjfaa
open Go.RowKit Go.Maps

def rM0 (limit : Int) : RM := ⟨[], 1, min (max limit 0) 16777216, 0, 0⟩
def RNewRes (limit : Int) (w : World) (e : Ending) (w' : World) : Prop := ∃ p F lv, e = .returned (P0 p) ∧ RmW w' F p (rM0 limit) lv [] ∧ Below w.heap.size w w' ∧ ∀ k, F k → w.heap.size ≤ k
theorem rnew_res (w : World) (limit x : Int) (hx : x = min (max limit 0) 16777216) : RNewRes limit w (.returned (P0 w.heap.size)) (w.alloc (.cells #[.slice none 0 0, I 1, I x, I 0, I 0] 52)) := by
  subst hx
  have hb := below_alloc w (.cells #[.slice none 0 0, I 1, I (min (max limit 0) 16777216), I 0, I 0] 52)
  have hA := Arr.new w 52 #[.slice none 0 0, I 1, I (min (max limit 0) 16777216), I 0, I 0]
  refine ⟨_, fun k => k = w.heap.size, .slice none 0 0, rfl, ⟨?_, rfl, hA, rfl, World.ownsRow_nil _ _ _ _, (fun k h => by cases h), (fun i t q h => by simp [rM0] at h), (fun i j a b q r h => by simp at h)⟩, hb, ?_⟩
  · rintro k rfl; simp
  · rintro k rfl; exact Nat.le_refl _
set_option maxHeartbeats 1000000 in
theorem rnew_any (w : World) (limit : Int) : Calls Try.prog 19 #[I limit] w (RNewRes limit w) := by
  go_enter Try.func19, Try.ntmps19
  go_wp2
  all_goals
    go_ret
    exact rnew_res w limit _ (by omega)
def enterR (M : RM) : RM := { M with frames := M.frames + 1 }
set_option maxHeartbeats 1000000 in
theorem renter_any (w : World) (F : Nat → Prop) (p : Nat) (M : RM) (lv : Value) (qs : List RQ) (h : RmW w F p M lv qs) (hf : 0 ≤ M.frames ∧ M.frames ≤ 1000000000) :
    Calls Try.prog 27 #[P0 p] w (RmRes w F p (enterR M) (I (M.frames + 1))) := by
  obtain ⟨_, c1, _, _, _⟩ := h.cell
  have f1 := h.arr.frozen 1
  have HH := Lib.hid h
  obtain ⟨hf1, hf2⟩ := hf
  clear h
  go_enter Try.func27, Try.ntmps27
  go_wp2
  go_ret
  exact ⟨F, lv, qs, rfl, RmW.word (M' := enterR M) HH.out 1 _ rfl rfl, (Chg.refl F w).set (a := ⟨p, 1, none⟩) HH.out.fp _, fun k hk => .inl hk⟩
/-- Whether a thing of the reference can be asked. -/
def whyR (M : RM) (r kind : Int) : Int :=
  if r < 1 then 6 else match M.l[(r - 1).toNat]? with
    | none => 6
    | some t => if t.kind ≠ kind then 6 else if t.gone then 5 else 0
set_option maxHeartbeats 4000000 in
set_option maxRecDepth 100000 in
theorem rwhy_any (w : World) (F : Nat → Prop) (p : Nat) (M : RM) (lv : Value) (qs : List RQ) (r kind : Int) (h : RmW w F p M lv qs) :
    Calls Try.prog 45 #[P0 p, I r, I kind] w fun e w' => e = .returned (I (whyR M r kind)) ∧ w' = w := by
  have HH := Lib.hid h
  obtain ⟨c0, _, _, _, _⟩ := h.cell
  obtain ⟨nt, hnt⟩ : ∃ n, M.l.length = n := ⟨_, rfl⟩
  have hto := h.row
  rw [hnt] at hto
  obtain ⟨At, ct, rfl, ht1, ht2⟩ := (Rd.of_own hto).form
  have HNT := Lib.hid hnt
  clear h hnt hto
  by_cases h1 : r < 1
  · have d1 : decide (r < 1) = true := de_t h1
    have e : whyR M r kind = 6 := by rw [whyR, if_pos h1]
    have HE := Lib.hid e
    clear e h1
    go_enter Try.func45, Try.ntmps45
    go_wp2
    go_ret
    exact ⟨by rw [HE.out]; rfl, rfl⟩
  · have d1 : decide (r < 1) = false := de_f h1
    by_cases h2 : (nt : Int) < r
    · have d2 : decide ((nt : Int) < r) = true := de_t h2
      have e : whyR M r kind = 6 := by
        rw [whyR, if_neg h1, List.getElem?_eq_none (by rw [HNT.out]; omega)]
      have HE := Lib.hid e
      clear e h1 h2
      go_enter Try.func45, Try.ntmps45
      go_wp2
      go_ret
      exact ⟨by rw [HE.out]; rfl, rfl⟩
    · have d2 : decide ((nt : Int) < r) = false := de_f h2
      obtain ⟨i, rfl⟩ : ∃ i : Nat, r = i + 1 := ⟨(r - 1).toNat, by omega⟩
      have hin : i < M.l.length := by rw [HNT.out]; omega
      obtain ⟨t, htt⟩ : ∃ t, M.l[i]? = some t := ⟨_, List.getElem?_eq_getElem hin⟩
      obtain ⟨g, cap, q, etv, hn1, hn2, hgl, hq, hT, k0, _, _, _, _, k5, hfz⟩ := HH.out.thing htt
      rw [HNT.out] at etv
      cases etv
      have hwi : IntKind.i64.wrap (i : Int) = i := IntWalk.i64_in _ ⟨by omega, by omega⟩
      have hil : (i : Int) < nt := by omega
      have hwhy : whyR M ((i : Int) + 1) kind = if t.kind ≠ kind then 6 else if t.gone then 5 else 0 := by
        rw [whyR, if_neg h1, show ((i : Int) + 1 - 1).toNat = i by omega, htt]
      obtain ⟨tk, htk⟩ : ∃ x, t.kind = x := ⟨_, rfl⟩
      obtain ⟨tg, htg⟩ : ∃ x, t.gone = x := ⟨_, rfl⟩
      rw [htk, htg] at hwhy
      rw [htk] at k0
      rw [htg] at k5
      clear hfz htt hT hq htk htg
      by_cases hk : tk = kind
      · subst hk
        have db : (tk != tk) = false := by simp
        cases tg with
        | true =>
          have e : whyR M ((i : Int) + 1) tk = 5 := by rw [hwhy]; simp
          have HE := Lib.hid e
          clear hwhy e
          go_enter Try.func45, Try.ntmps45
          go_wp2
          go_ret
          exact ⟨by rw [HE.out]; rfl, rfl⟩
        | false =>
          have e : whyR M ((i : Int) + 1) tk = 0 := by rw [hwhy]; simp
          have HE := Lib.hid e
          clear hwhy e
          go_enter Try.func45, Try.ntmps45
          go_wp2
          go_ret
          exact ⟨by rw [HE.out]; rfl, rfl⟩
      · have db : (tk != kind) = true := ne_t hk
        have e : whyR M ((i : Int) + 1) kind = 6 := by rw [hwhy, if_pos hk]
        have HE := Lib.hid e
        clear hwhy e hk
        go_enter Try.func45, Try.ntmps45
        go_wp2
        go_ret
        exact ⟨by rw [HE.out]; rfl, rfl⟩
/-- A key's place. -/
def findR (l : List Int) (k : Int) : Int := if k ∈ l then (l.idxOf k : Int) else -1
theorem findR_at : ∀ (l : List Int) (i : Nat) (k : Int), l[i]? = some k → (∀ j, j < i → l[j]? ≠ some k) → findR l k = i
  | [], i, k, h, _ => by simp at h
  | x :: l, 0, k, h, _ => by
    simp at h; subst h
    simp [findR]
  | x :: l, i + 1, k, h, hn => by
    have h1 : l[i]? = some k := by simpa using h
    have hx : x ≠ k := fun e => hn 0 (by omega) (by simp [e])
    have ih := findR_at l i k h1 (fun j hj => by have := hn (j + 1) (by omega); simpa using this)
    have hm : k ∈ l := List.mem_of_getElem? h1
    simp only [findR, if_pos hm, if_pos (List.mem_cons_of_mem x hm)] at ih ⊢
    rw [List.idxOf_cons]
    have : (x == k) = false := by simpa using hx
    simp only [this, cond_false]
    omega
set_option maxHeartbeats 4000000 in
set_option maxRecDepth 100000 in
theorem rfind_any (w : World) (v : Value) (l : List Int) (key : Int) (h : Rd w v l.length (ints l)) (hl : l.length ≤ 1000000000) :
    Calls Try.prog 46 #[v, I key] w fun e w' => e = .returned (I (findR l key)) ∧ w' = w := by
  obtain ⟨A, c, rfl, hc1, hc2⟩ := h.form
  have HR := Lib.hid h
  clear h
  go_enter Try.func46, Try.ntmps46
  go_wp2_with fail
  go_loopw [5] (fun i wr => ∃ k : Nat, k ≤ l.length ∧ i = .int .i64 k ∧ wr = w ∧ ∀ j, j < k → l[j]? ≠ some key) (fun i _ => l.length - (intOf i).toNat)
  case atStart => exact ⟨0, Nat.zero_le _, rfl, rfl, fun j hj => by omega⟩
  case round =>
    obtain ⟨k, hk, rfl, rfl, hno⟩ := hrel
    by_cases hlt : k < l.length
    · have hlt1 : (k : Int) < l.length := by omega
      obtain ⟨b, o, c', e, _, hb, g⟩ := HR.out.elem (by simp; omega)
      cases e
      obtain ⟨y, hy⟩ : ∃ y, l[k]? = some y := ⟨_, List.getElem?_eq_getElem hlt⟩
      have c0 := g k (I y) (by simp [ints, hy])
      have HY := Lib.hid hy
      have HNO := Lib.hid hno
      have HLT := Lib.hid hlt
      clear g hy hno hlt
      by_cases hyk : y = key
      · subst hyk
        have hd : (y == y) = true := by simp
        go_wp2
        go_ret
        exact ⟨by rw [findR_at l k y HY.out HNO.out]; rfl, rfl⟩
      · have hd : (y == key) = false := by simpa using hyk
        have HYK := Lib.hid hyk
        clear hyk
        go_wp2_with fail
        go_roundw
        case rel => exact ⟨k + 1, by have := HLT.out; omega, by go_num, trivial, fun j hj => by
          by_cases e : j = k
          · subst e; rw [HY.out]; intro e2; cases e2; exact HYK.out rfl
          · exact HNO.out j (by omega)⟩
        case measure => have := HLT.out; simp [intOf]; omega
    · obtain rfl : k = l.length := by omega
      have hf : findR l key = -1 := by
        rw [findR, if_neg]
        intro hm
        obtain ⟨j, hj, e⟩ := List.mem_iff_getElem.1 hm
        exact hno j hj (by rw [List.getElem?_eq_getElem hj, e])
      have HF := Lib.hid hf
      clear hf hno hlt
      go_wp2
      go_ret
      exact ⟨by rw [HF.out]; rfl, rfl⟩
end Go.Proofs.Ytakpikoffbgjfaa
