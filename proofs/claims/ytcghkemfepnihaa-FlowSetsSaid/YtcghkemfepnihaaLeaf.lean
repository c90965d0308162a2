import Derived.Test.YtcghkemfepnihaaProg
import Derived.Test.YtcghkemfepnihaaBase
import Derived.Deep.LoopGhost
import Derived.Deep.RegionHeld3
import Derived.Handy
import Derived.Lib.Hide
namespace Go.Proofs.Ytcghkemfepnihaa
open Go.RowKit

theorem E24 : ElemT Try.prog 24 47 2 16 := .mk' (z := .agg #[.int .i64 0, .int .i64 0]) Try.underlying24 (by kernel_rfl) rfl (by omega)
theorem E26 : ElemT Try.prog 26 3 1 8 := .mk' (z := .int .i64 0) Try.underlying26 (by kernel_rfl) rfl (by omega)
theorem E27 : ElemT Try.prog 27 4 1 1 := .mk' (z := .bool false) Try.underlying27 (by kernel_rfl) rfl (by omega)
theorem E42 : ElemT Try.prog 42 26 1 24 := .mk' (z := .slice none 0 0) Try.underlying42 (by kernel_rfl) rfl (by omega)

/-! ### few: at most 60 edges -/
def fewE (l : List (Int × Int)) : List (Int × Int) := l.take 60
theorem fewE_length (l : List (Int × Int)) : (fewE l).length ≤ 60 := by simp [fewE]; omega
theorem pairs_take (l : List (Int × Int)) (k : Nat) : pairs (l.take k) = (pairs l).take (k * 2) := by
  induction l generalizing k with
  | nil => simp [pairs]
  | cons x l ih =>
    cases k with
    | zero => simp [pairs]
    | succ k =>
      rw [show (k + 1) * 2 = k * 2 + 1 + 1 by omega]
      simp only [pairs, List.take_succ_cons, List.flatMap_cons, List.cons_append, List.nil_append] at *
      rw [ih]
set_option maxHeartbeats 400000 in
theorem few_any (w : World) (v : Value) (l : List (Int × Int)) (h : Rd w v l.length (pairs l)) :
    Calls Try.prog 12 #[v] w fun e w' => ∃ r, e = .returned r ∧ w = w' ∧ Rd w r (fewE l).length (pairs (fewE l)) := by
  obtain ⟨A, cap, rfl, hm⟩ := h.form
  by_cases hl : 60 < l.length
  · have hl' : (60 : Int) < l.length := by omega
    have hc : (60 : Int) ≤ cap := by omega
    have h60 : (fewE l).length = 60 := by simp [fewE]; omega
    have hr : Rd w (.slice A 60 cap) 60 (pairs (fewE l)) := h.first 60 (by omega) _ (fun j u hu => by
      rw [fewE, pairs_take, List.getElem?_take] at hu
      split at hu
      · exact hu
      · cases hu)
    have hA : A.map (fun x => x.add 0) = A := by cases A <;> rfl
    go_enter Try.func12, Try.ntmps12
    go_wp2
    go_ret
    refine ⟨_, rfl, rfl, ?_⟩
    rw [h60]
    simpa [Addr.add] using hr
  · have hl' : ¬ (60 : Int) < l.length := by omega
    have e : fewE l = l := by rw [fewE, List.take_of_length_le (by omega)]
    go_enter Try.func12, Try.ntmps12
    go_wp2
    go_ret
    exact ⟨_, rfl, rfl, h⟩

/-! ### own: a copy -/
set_option maxHeartbeats 400000 in
theorem own_any (w : World) (v : Value) (l : List (Int × Int)) (h : Rd w v l.length (pairs l)) (hb : l.length * 16 ≤ 140737488355328) :
    Calls Try.prog 10 #[v] w fun e w' => ∃ r, e = .returned r ∧ w'.ownsRow w.heap.size 47 2 r l.length (pairs l) ∧ Below w.heap.size w w' := by
  obtain ⟨A, cap, rfl, hm⟩ := h.form
  have h0 : (w.alloc (.cells #[] 47)).ownsRow w.heap.size 47 2 (.slice (some ⟨w.heap.size, 0, none⟩) 0 0) 0 [] := World.ownsRow_made w _ 0 (Nat.le_refl _) (by simp [maxLen]) rfl
  have H0 := Lib.hid h0
  have H1 := Lib.hid (h.alloc (.cells #[] 47))
  clear h0
  go_enter Try.func10, Try.ntmps10
  go_wp2_with (at_builtin; refine wpl_append rfl _ _ _ rfl E24 rfl H0.out rfl H1.out (pairs_length _) (pairs_one _) (by omega) (by simp [maxLen]; omega) (by simp) ?_; intro v' w' hap)
  go_ret
  exact ⟨_, rfl, by simpa using hap.own, hap.below (below_alloc _ _) H0.out (Nat.le_refl _) (by simp)⟩

/-! ### same, Ints -/
def sameB (xs ys : List Bool) : Bool := decide (xs = ys)
def sameI (xs ys : List Int) : Bool := decide (xs = ys)
theorem take_next {α : Type} {xs ys : List α} {k : Nat} (h : xs.take k = ys.take k) (h1 : k < xs.length) (h2 : k < ys.length) (he : xs[k] = ys[k]) : xs.take (k + 1) = ys.take (k + 1) := by
  rw [List.take_succ_eq_append_getElem h1, List.take_succ_eq_append_getElem h2, h, he]
theorem take_full {α : Type} {xs ys : List α} (h : xs.take xs.length = ys.take xs.length) (hl : xs.length = ys.length) : xs = ys := by
  rw [List.take_length] at h
  rw [h, hl, List.take_length]
set_option maxHeartbeats 400000 in
theorem same_any (w : World) (v1 v2 : Value) (xs ys : List Bool) (h1 : Rd w v1 xs.length (bools xs)) (h2 : Rd w v2 ys.length (bools ys)) :
    Calls Try.prog 16 #[v1, v2] w fun e w' => e = .returned (.bool (sameB xs ys)) ∧ Below w.heap.size w w' := by
  obtain ⟨A1, c1, rfl, hm1⟩ := h1.form
  obtain ⟨A2, c2, rfl, hm2⟩ := h2.form
  by_cases hle : xs.length = ys.length
  · have he : ((xs.length : Int) != ys.length) = false := ne_f (by omega)
    have hl1 := Lib.hid hle
    have hx := Lib.hid h1
    have hy := Lib.hid h2
    clear hle h1 h2
    go_enter Try.func16, Try.ntmps16
    go_wp2
    go_loopw [5] (fun i wr => ∃ k : Nat, k ≤ xs.length ∧ i = .int .i64 k ∧ xs.take k = ys.take k ∧ Below w.heap.size w wr) (fun i _ => xs.length - (intOf i).toNat)
    case atStart => exact ⟨0, Nat.zero_le _, rfl, by simp, Below.refl _ _⟩
    case round =>
      obtain ⟨k, hk, rfl, hsame, hB⟩ := hrel
      have hsm := Lib.hid hsame
      clear hsame
      by_cases hlt : k < xs.length
      · have hlt2 : k < ys.length := by have := hl1.out; omega
        obtain ⟨b1, o1, _, e1, _, hb1, g1⟩ := hx.out.elem (by simp; omega)
        obtain ⟨b2, o2, _, e2, _, hb2, g2⟩ := hy.out.elem (by simp; omega)
        cases e1
        cases e2
        have f1 : wr.cell? ⟨b1, o1 + k, none⟩ = some (.bool xs[k]) := (hB.cell (p := ⟨b1, o1 + k, none⟩) hb1).trans (g1 k _ (bools_at xs k hlt))
        have f2 : wr.cell? ⟨b2, o2 + k, none⟩ = some (.bool ys[k]) := (hB.cell (p := ⟨b2, o2 + k, none⟩) hb2).trans (g2 k _ (bools_at ys k hlt2))
        clear g1 g2
        by_cases hxy : xs[k] = ys[k]
        · have hxy' : (!(xs[k] == ys[k])) = false := by simp [hxy]
          have hxyH := Lib.hid hxy
          clear hxy
          go_wp2
          go_quiet (fail)
          go_wp2
          go_roundw
          case rel => exact ⟨k + 1, by omega, by go_num, take_next hsm.out hlt hlt2 hxyH.out, below_drewN hB _⟩
          case measure => simp [intOf]; omega
        · have hxy' : (!(xs[k] == ys[k])) = true := by simp [hxy]
          have hne : sameB xs ys = false := by
            simp only [sameB, decide_eq_false_iff_not]
            intro h
            subst h
            exact hxy rfl
          have hneH := Lib.hid hne
          clear hne hxy
          go_wp2
          go_quiet (fail)
          go_wp2
          go_ret
          exact ⟨by rw [hneH.out]; rfl, below_drewN hB _⟩
      · go_wp2
        go_ret
        have hk' : k = xs.length := by omega
        subst hk'
        have : sameB xs ys = true := by simp only [sameB, decide_eq_true_eq]; exact take_full hsm.out hl1.out
        exact ⟨by rw [this]; rfl, hB⟩
  · have he : ((xs.length : Int) != ys.length) = true := ne_t (by omega)
    have hne : sameB xs ys = false := by
      simp only [sameB, decide_eq_false_iff_not]
      intro h
      exact hle (by rw [h])
    have hneH := Lib.hid hne
    clear hne
    go_enter Try.func16, Try.ntmps16
    go_wp2
    go_ret
    exact ⟨by rw [hneH.out]; rfl, Below.refl _ _⟩

/-! ### off, fit of the reference -/
def offB (n v : Int) : Bool := decide (v < 0) || decide (n ≤ v)
theorem offB_false {n v : Int} (h : offB n v = false) : 0 ≤ v ∧ v < n := by simp [offB] at h; omega
theorem off_any (w : World) (n v : Int) : Calls Try.prog 34 #[I n, I v] w fun e w' => e = .returned (.bool (offB n v)) ∧ w = w' := by
  by_cases h : v < 0
  · have e : offB n v = true := by simp [offB, h]
    go_enter Try.func34, Try.ntmps34
    go_wp2
    go_ret
    exact ⟨by simp [offB, h], rfl⟩
  · have hd : decide (v < 0) = false := de_f h
    go_enter Try.func34, Try.ntmps34
    go_wp2
    go_ret
    exact ⟨by simp [offB, hd], rfl⟩

def badE (n : Int) (E : List (Int × Int)) : Bool := E.any fun p => offB n p.1 || offB n p.2
def badL (n : Int) (l : List Int) : Bool := l.any (offB n)
def fitF (n : Int) (E : List (Int × Int)) (l : List Int) : Int := if n < 0 then 1 else if badE n E then 1 else if badL n l then 1 else if 16384 < n then 2 else 0
theorem badE_snoc {n : Int} {E : List (Int × Int)} {k : Nat} (h : k < E.length) : badE n (E.take (k + 1)) = (badE n (E.take k) || (offB n E[k].1 || offB n E[k].2)) := by
  rw [List.take_succ_eq_append_getElem h, badE, badE, List.any_append]; simp
theorem badL_snoc {n : Int} {l : List Int} {k : Nat} (h : k < l.length) : badL n (l.take (k + 1)) = (badL n (l.take k) || offB n l[k]) := by
  rw [List.take_succ_eq_append_getElem h, badL, badL, List.any_append]; simp
theorem badE_take {n : Int} {E : List (Int × Int)} {k : Nat} (h : badE n (E.take k) = true) : badE n E = true := by
  rw [← List.take_append_drop k E, badE, List.any_append]
  rw [badE] at h
  rw [h]; rfl
theorem badL_take {n : Int} {E : List Int} {k : Nat} (h : badL n (E.take k) = true) : badL n E = true := by
  rw [← List.take_append_drop k E, badL, List.any_append]
  rw [badL] at h
  rw [h]; rfl

set_option maxHeartbeats 1000000 in
theorem fit26_any (w : World) (n : Int) (v1 v2 : Value) (E : List (Int × Int)) (l : List Int) (h1 : Rd w v1 E.length (pairs E)) (h2 : Rd w v2 l.length (ints l)) :
    Calls Try.prog 26 #[I n, v1, v2] w fun e w' => e = .returned (I (fitF n E l)) ∧ w = w' := by
  obtain ⟨A1, c1, rfl, hm1⟩ := h1.form
  obtain ⟨A2, c2, rfl, hm2⟩ := h2.form
  have hx := Lib.hid h1
  have hy := Lib.hid h2
  clear h1 h2
  by_cases hn : n < 0
  · have e : Hid (fitF n E l = 1) := Lib.hid (by simp [fitF, hn])
    go_enter Try.func26, Try.ntmps26
    go_wp2
    go_ret
    exact ⟨by rw [e.out]; rfl, rfl⟩
  · go_enter Try.func26, Try.ntmps26
    go_wp2
    go_loopw [7] (fun i wr => ∃ k : Nat, k ≤ E.length ∧ i = .int .i64 k ∧ badE n (E.take k) = false ∧ w = wr) (fun i _ => E.length - (intOf i).toNat)
    case atStart => exact ⟨0, Nat.zero_le _, rfl, by simp [badE], rfl⟩
    case round =>
      obtain ⟨k, hk, rfl, hbad, rfl⟩ := hrel
      have hbd := Lib.hid hbad
      clear hbad
      by_cases hlt : k < E.length
      · obtain ⟨b1, o1, _, e1, _, hb1, g1⟩ := hx.out.elem (by simp; omega)
        cases e1
        have f0 : w.cell? ⟨b1, o1 + k * 2, none⟩ = some (I E[k].1) := g1 _ _ (pairs_at0 E k hlt)
        have f1 : w.cell? ⟨b1, o1 + k * 2 + 1, none⟩ = some (I E[k].2) := by rw [Nat.add_assoc]; exact g1 _ _ (pairs_at1 E k hlt)
        clear g1
        have hs := Lib.hid (badE_snoc (n := n) hlt)
        by_cases ha : offB n E[k].1 = true
        · have e : Hid (fitF n E l = 1) := by
            have hb : badE n E = true := badE_take (k := k + 1) (by rw [hs.out, ha]; simp)
            exact Lib.hid (by simp [fitF, hb])
          go_wp2_with (go_at_call 34; refine (off_any _ _ _).mono ?_; rintro e w' ⟨rfl, rfl⟩)
          go_ret
          exact ⟨by rw [e.out]; rfl, rfl⟩
        · have ha' : offB n E[k].1 = false := by simpa using ha
          clear ha
          by_cases hb : offB n E[k].2 = true
          · have e : Hid (fitF n E l = 1) := by
              have hb : badE n E = true := badE_take (k := k + 1) (by rw [hs.out, hb]; simp)
              exact Lib.hid (by simp [fitF, hb])
            go_wp2_with (go_at_call 34; refine (off_any _ _ _).mono ?_; rintro e w' ⟨rfl, rfl⟩)
            go_ret
            exact ⟨by rw [e.out]; rfl, rfl⟩
          · have hb' : offB n E[k].2 = false := by simpa using hb
            clear hb
            go_wp2_with (go_at_call 34; refine (off_any _ _ _).mono ?_; rintro e w' ⟨rfl, rfl⟩)
            go_roundw
            case rel => exact ⟨k + 1, by omega, by go_num, by rw [hs.out, hbd.out, ha', hb']; rfl, trivial⟩
            case measure => simp [intOf]; omega
      · have hbE : Hid (badE n E = false) := by
          have := hbd.out
          rw [List.take_of_length_le (by omega)] at this
          exact Lib.hid this
        clear hbd
        go_wp2
        go_loopw [8] (fun i wr => ∃ k : Nat, k ≤ l.length ∧ i = .int .i64 k ∧ badL n (l.take k) = false ∧ w = wr) (fun i _ => l.length - (intOf i).toNat)
        case atStart => exact ⟨0, Nat.zero_le _, rfl, by simp [badL], rfl⟩
        case round =>
          obtain ⟨k, hk, rfl, hbad, rfl⟩ := hrel
          have hbd := Lib.hid hbad
          clear hbad
          by_cases hlt : k < l.length
          · obtain ⟨b1, o1, _, e1, _, hb1, g1⟩ := hy.out.elem (by simp; omega)
            cases e1
            have f0 : w.cell? ⟨b1, o1 + k, none⟩ = some (I l[k]) := g1 _ _ (ints_at l k hlt)
            clear g1
            have hs := Lib.hid (badL_snoc (n := n) hlt)
            by_cases ha : offB n l[k] = true
            · have e : Hid (fitF n E l = 1) := by
                have hb : badL n l = true := badL_take (k := k + 1) (by rw [hs.out, ha]; simp)
                exact Lib.hid (by simp [fitF, hb])
              go_wp2_with (go_at_call 34; refine (off_any _ _ _).mono ?_; rintro e w' ⟨rfl, rfl⟩)
              go_ret
              exact ⟨by rw [e.out]; rfl, rfl⟩
            · have ha' : offB n l[k] = false := by simpa using ha
              clear ha
              go_wp2_with (go_at_call 34; refine (off_any _ _ _).mono ?_; rintro e w' ⟨rfl, rfl⟩)
              go_roundw
              case rel => exact ⟨k + 1, by omega, by go_num, by rw [hs.out, hbd.out, ha']; rfl, trivial⟩
              case measure => simp [intOf]; omega
          · have hbL : Hid (badL n l = false) := by
              have := hbd.out
              rw [List.take_of_length_le (by omega)] at this
              exact Lib.hid this
            clear hbd
            by_cases hg : (16384 : Int) < n
            · have e : Hid (fitF n E l = 2) := Lib.hid (by simp [fitF, hn, hbE.out, hbL.out, hg])
              go_wp2
              go_ret
              exact ⟨by rw [e.out]; rfl, rfl⟩
            · have e : Hid (fitF n E l = 0) := Lib.hid (by simp [fitF, hbE.out, hbL.out]; omega)
              go_wp2
              go_ret
              exact ⟨by rw [e.out]; rfl, rfl⟩

/-! ### nodes, Turned: edges made anew -/
def nodesF (l : List (Int × Int)) (n : Int) : List (Int × Int) := (l.take 60).map fun p => (p.1 % n, p.2 % n)
def turnF (l : List (Int × Int)) : List (Int × Int) := l.map fun p => (p.2, p.1)
theorem nodesF_snoc {l : List (Int × Int)} {n : Int} {k : Nat} (h : k < l.length) (h60 : k < 60) : nodesF (l.take (k + 1)) n = nodesF (l.take k) n ++ [(l[k].1 % n, l[k].2 % n)] := by
  simp only [nodesF, List.take_take]
  rw [show min 60 (k + 1) = k + 1 by omega, show min 60 k = k by omega, List.take_succ_eq_append_getElem h, List.map_append]
  rfl
theorem turnF_snoc {l : List (Int × Int)} {k : Nat} (h : k < l.length) : turnF (l.take (k + 1)) = turnF (l.take k) ++ [(l[k].2, l[k].1)] := by
  simp only [turnF]
  rw [List.take_succ_eq_append_getElem h, List.map_append]
  rfl
theorem turnF_length (l : List (Int × Int)) : (turnF l).length = l.length := by simp [turnF]
theorem nodesF_length (l : List (Int × Int)) (n : Int) : (nodesF l n).length ≤ 60 := by simp [nodesF]; omega
theorem own_start (w : World) (e sz : Nat) : (w.alloc (.cells #[] e)).ownsRow w.heap.size e sz (.slice (some ⟨w.heap.size, 0, none⟩) 0 0) 0 [] := World.ownsRow_made w _ 0 (Nat.le_refl _) (by simp [maxLen]) (by simp)

set_option maxHeartbeats 1000000 in
theorem turned_any (w : World) (v : Value) (l : List (Int × Int)) (h : Rd w v l.length (pairs l)) (hb : l.length * 16 ≤ 140737488355328) :
    Calls Try.prog 15 #[v] w fun e w' => ∃ r, e = .returned r ∧ w'.ownsRow w.heap.size 47 2 r (turnF l).length (pairs (turnF l)) ∧ Below w.heap.size w w' := by
  obtain ⟨A, cap, rfl, hm⟩ := h.form
  have hx := Lib.hid h
  clear h
  go_enter Try.func15, Try.ntmps15
  go_wp2
  go_loopw [3, 4] (fun r i wr => ∃ k : Nat, k ≤ l.length ∧ i = .int .i64 k ∧ wr.ownsRow w.heap.size 47 2 r (turnF (l.take k)).length (pairs (turnF (l.take k))) ∧ Below w.heap.size w wr) (fun _ i _ => l.length - (intOf i).toNat)
  case atStart => exact ⟨0, Nat.zero_le _, rfl, by simpa [turnF, pairs] using own_start w 47 2, below_alloc _ _⟩
  case round =>
    obtain ⟨k, hk, rfl, hown, hB⟩ := hrel
    have hown := Lib.hid hown
    by_cases hlt : k < l.length
    · obtain ⟨b1, o1, _, e1, _, hb1, g1⟩ := hx.out.elem (by simp; omega)
      cases e1
      have f0 : wr.cell? ⟨b1, o1 + k * 2, none⟩ = some (I l[k].1) := (hB.cell (p := ⟨b1, o1 + k * 2, none⟩) hb1).trans (g1 _ _ (pairs_at0 l k hlt))
      have f1 : wr.cell? ⟨b1, o1 + k * 2 + 1, none⟩ = some (I l[k].2) := (hB.cell (p := ⟨b1, o1 + k * 2 + 1, none⟩) hb1).trans (by rw [Nat.add_assoc]; exact g1 _ _ (pairs_at1 l k hlt))
      clear g1
      have hsz := hB.size
      have hs := Lib.hid (turnF_snoc hlt)
      have hlk : (turnF (l.take k)).length = k := by rw [turnF_length]; simp; omega
      have hlkH := Lib.hid hlk
      clear hlk
      go_wp2
      go_region_held3 (fun w' => w'.cell? ⟨b1, o1 + k * 2, none⟩ = some (I l[k].1) ∧ w'.cell? ⟨b1, o1 + k * 2 + 1, none⟩ = some (I l[k].2))
        (first | go_keep | (go_split_ands; refine ⟨?_, ?_⟩ <;> (refine hap.cell ((hown.out.alloc _).drew) hb1 ?_; assumption)))
        ((refine step_append (by rfl) _ _ _ (by rfl) E24 (by rfl) ((hown.out.alloc _).drew) (ad := ⟨wr.heap.size, 0, none⟩) (m := 1) (c := 1) (news := [I l[k].2, I l[k].1]) (by rfl) (by rfl) (World.news_of_block (cs := #[I l[k].2, I l[k].1]) (t := 47) (fr := (0, 0)) (heap_alloc_new wr _)) (by simp [Value.oneCell']) (by omega) (by rw [hlkH.out]; simp [maxLen]; omega) (by rw [hlkH.out]; omega) (by simp; omega) ?_; intro g' cap' w1 hap))
      go_wp2
      go_roundw
      case rel => exact ⟨k + 1, by omega, by go_num, by rw [hs.out, pairs_append]; simpa [pairs] using hap.own, hap.below ((hB.alloc hsz _).drew) ((hown.out.alloc _).drew) (Nat.le_refl _) (by simp; omega)⟩
      case measure => simp [intOf]; omega
    · go_wp2
      go_ret
      have e : l.take k = l := List.take_of_length_le (by omega)
      rw [e] at hown
      exact ⟨_, rfl, hown.out, hB⟩

set_option maxHeartbeats 2000000 in
theorem nodes_any (w : World) (v : Value) (l : List (Int × Int)) (h : Rd w v l.length (pairs8 l)) (hu : ∀ p ∈ l, (0 ≤ p.1 ∧ p.1 ≤ 255) ∧ (0 ≤ p.2 ∧ p.2 ≤ 255)) :
    Calls Try.prog 8 #[v, I 20] w fun e w' => ∃ r, e = .returned r ∧ w'.ownsRow w.heap.size 47 2 r (nodesF l 20).length (pairs (nodesF l 20)) ∧ Below w.heap.size w w' := by
  obtain ⟨A, cap, rfl, hm⟩ := h.form
  have hx := Lib.hid h
  have huH := Lib.hid hu
  clear h hu
  go_enter Try.func8, Try.ntmps8
  go_wp2
  go_loopw [5, 6] (fun r i wr => ∃ k : Nat, k ≤ l.length ∧ k ≤ 60 ∧ i = .int .i64 k ∧ wr.ownsRow w.heap.size 47 2 r (nodesF (l.take k) 20).length (pairs (nodesF (l.take k) 20)) ∧ Below w.heap.size w wr) (fun _ i _ => l.length - (intOf i).toNat)
  case atStart => exact ⟨0, Nat.zero_le _, by omega, rfl, by simpa [nodesF, pairs] using own_start w 47 2, below_alloc _ _⟩
  case round =>
    obtain ⟨k, hk, hk60, rfl, hown, hB⟩ := hrel
    have hown := Lib.hid hown
    have hend : Hid ((k = l.length ∨ k = 60) → nodesF (l.take k) 20 = nodesF l 20) := Lib.hid (by
      intro h
      simp only [nodesF, List.take_take]
      rcases h with h | h
      · rw [h, List.take_of_length_le (l := l) (by omega)]
        by_cases hl : l.length ≤ 60
        · rw [List.take_of_length_le (l := l) hl]
        · omega
      · rw [h]; simp)
    by_cases hlt : k < l.length
    · have hd1 : decide ((k : Int) < (l.length : Int)) = true := de_t (by omega)
      by_cases h60 : k < 60
      · have hd2 : decide ((k : Int) < 60) = true := de_t (by omega)
        obtain ⟨b1, o1, _, e1, _, hb1, g1⟩ := hx.out.elem (by simp; omega)
        cases e1
        have hu0 := huH.out l[k] (List.getElem_mem hlt)
        obtain ⟨⟨u1, u2⟩, u3, u4⟩ := hu0
        have f0 : wr.cell? ⟨b1, o1 + k * 2, none⟩ = some (.int .u8 l[k].1) := (hB.cell (p := ⟨b1, o1 + k * 2, none⟩) hb1).trans (g1 _ _ (pairs8_at0 l k hlt))
        have f1 : wr.cell? ⟨b1, o1 + k * 2 + 1, none⟩ = some (.int .u8 l[k].2) := (hB.cell (p := ⟨b1, o1 + k * 2 + 1, none⟩) hb1).trans (by rw [Nat.add_assoc]; exact g1 _ _ (pairs8_at1 l k hlt))
        clear g1
        have hsz := hB.size
        have hs := Lib.hid (nodesF_snoc (n := 20) hlt h60)
        have hlk : Hid ((nodesF (l.take k) 20).length ≤ 60) := Lib.hid (nodesF_length _ _)
        have hw1 : IntKind.i64.wrap l[k].1 = l[k].1 := IntWalk.i64_in _ (by omega)
        have hw2 : IntKind.i64.wrap l[k].2 = l[k].2 := IntWalk.i64_in _ (by omega)
        have ht1 : l[k].1.tmod 20 = l[k].1 % 20 := Int.tmod_eq_emod_of_nonneg u1
        have ht2 : l[k].2.tmod 20 = l[k].2 % 20 := Int.tmod_eq_emod_of_nonneg u3
        go_wp2
        go_region_held3 (fun w' => w'.cell? ⟨b1, o1 + k * 2, none⟩ = some (.int .u8 l[k].1) ∧ w'.cell? ⟨b1, o1 + k * 2 + 1, none⟩ = some (.int .u8 l[k].2))
          (first | go_keep | (go_split_ands; refine ⟨?_, ?_⟩ <;> (refine hap.cell ((hown.out.alloc _).drew) hb1 ?_; assumption)))
          ((refine step_append (by rfl) _ _ _ (by rfl) E24 (by rfl) ((hown.out.alloc _).drew) (ad := ⟨wr.heap.size, 0, none⟩) (m := 1) (c := 1) (news := [I (l[k].1 % 20), I (l[k].2 % 20)]) (by rfl) (by rfl) (World.news_of_block (cs := #[I (l[k].1 % 20), I (l[k].2 % 20)]) (t := 47) (fr := (0, 0)) (heap_alloc_new wr _)) (by simp [Value.oneCell']) (by omega) (by have := hlk.out; simp only [maxLen]; omega) (by have := hlk.out; omega) (by simp; omega) ?_; intro g' cap' w1 hap))
        go_wp2
        go_roundw
        case rel => exact ⟨k + 1, by omega, by omega, by go_num, by rw [hs.out, pairs_append]; simpa [pairs] using hap.own, hap.below ((hB.alloc hsz _).drew) ((hown.out.alloc _).drew) (Nat.le_refl _) (by simp; omega)⟩
        case measure => simp [intOf]; omega
      · have hd2 : decide ((k : Int) < 60) = false := de_f (by omega)
        go_wp2
        go_ret
        have e := hend.out (by omega)
        rw [e] at hown
        exact ⟨_, rfl, hown.out, hB⟩
    · have hd1 : decide ((k : Int) < (l.length : Int)) = false := de_f (by omega)
      go_wp2
      go_ret
      have e := hend.out (by omega)
      rw [e] at hown
      exact ⟨_, rfl, hown.out, hB⟩
end Go.Proofs.Ytcghkemfepnihaa
