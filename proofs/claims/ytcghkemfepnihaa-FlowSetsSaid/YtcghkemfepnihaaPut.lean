import Derived.Test.YtcghkemfepnihaaSetsP
namespace Go.Proofs.Ytcghkemfepnihaa
open Go.RowKit

/-! ### put -/
theorem rd_setOther {w : World} {v : Value} {n : Nat} {cs : List Value} (h : Rd w v n cs) {a : Addr} (ha : v.ownBlock ≠ some a.block) (u : Value) : Rd (w.setCell a u) v n cs := by
  obtain ⟨A, cap, rfl, hm, hc⟩ := h.out
  refine ⟨A, cap, rfl, hm, fun hl => ?_⟩
  obtain ⟨b, off, rfl, hb, hx⟩ := hc hl
  refine ⟨b, off, rfl, by simpa using hb, fun j x hj => ?_⟩
  rw [World.cell?_of_block (w := w) (Below.heap_setCell _ _ _ _ (fun e => ha (by rw [← e]; rfl)))]
  exact hx j x hj
/-- What put has made behind k numbers. -/
def PutAt (l : List Int) (n : Int) (k : Nat) (out : List Int) (inn : Bool) : Prop := (inn = true ↔ ∃ x ∈ l.take k, n < x) ∧ out = if inn then putL (l.take k) n else l.take k
theorem putAt_step {l : List Int} {n : Int} {k : Nat} {out : List Int} {inn : Bool} (h : PutAt l n k out inn) (hk : k < l.length) :
    PutAt l n (k + 1) (if (!inn && decide (n < l[k])) then (out ++ [n]) ++ [l[k]] else out ++ [l[k]]) (inn || decide (n < l[k])) := by
  obtain ⟨h1, h2⟩ := h
  have ht := List.take_succ_eq_append_getElem hk
  refine ⟨?_, ?_⟩
  · rw [ht, Bool.or_eq_true, h1, decide_eq_true_eq]
    simp only [List.mem_append, List.mem_singleton]
    constructor
    · rintro (⟨x, hx, hn⟩ | hn)
      · exact ⟨x, .inl hx, hn⟩
      · exact ⟨_, .inr rfl, hn⟩
    · rintro ⟨x, hx | hx, hn⟩
      · exact .inl ⟨x, hx, hn⟩
      · subst hx; exact .inr hn
  · rw [ht, putL_snoc]
    have hd : ∀ A B : List Int, (if ∃ x ∈ l.take k, n < x then A else B) = if inn then A else B := fun A B => by
      cases inn with
      | true => rw [if_pos (h1.1 rfl)]; rfl
      | false => rw [if_neg (fun h => by cases h1.2 h)]; rfl
    rw [hd]
    cases inn with
    | true => simp [h2]
    | false =>
      by_cases hn : n < l[k]
      · simp [h2, hn]
      · simp [h2, hn]

set_option maxHeartbeats 4000000 in
set_option maxRecDepth 100000 in
theorem put_any (w : World) (v : Value) (l : List Int) (n : Int) (h : Rd w v l.length (ints l)) (hb : l.length ≤ 1000000) :
    Calls Try.prog 31 #[v, I n] w fun e w' => ∃ r, e = .returned r ∧ Rd w' r (putF l n).length (ints (putF l n)) ∧ Below w.heap.size w w' ∧ (r = v ∨ ∀ b, r.ownBlock = some b → w.heap.size ≤ b) := by
  obtain ⟨A, cap, rfl, hm⟩ := h.form
  have H0 := Lib.hid (own_start w 3 1)
  have HX := Lib.hid h
  clear h
  go_enter Try.func31, Try.ntmps31
  go_wp2
  go_loopw [5, 6, 7] (fun r b i wr => ∃ (k : Nat) (out : List Int) (inn : Bool), k ≤ l.length ∧ i = .int .i64 k ∧ b = .bool inn ∧ PutAt l n k out inn ∧ n ∉ l.take k ∧ out.length ≤ k + 1 ∧ wr.ownsRow w.heap.size 3 1 r out.length (ints out) ∧ Below w.heap.size w wr) (fun _ _ i _ => l.length - (intOf i).toNat)
  case atStart => exact ⟨0, [], false, Nat.zero_le _, rfl, rfl, ⟨by simp, by simp⟩, by simp, by simp, by simpa [ints] using H0.out, below_alloc _ _⟩
  case round =>
    clear H0
    obtain ⟨k, out, inn, hk, rfl, rfl, hP, hN, hol, hown, hB⟩ := hrel
    have HP := Lib.hid hP
    have HN := Lib.hid hN
    have HO := Lib.hid hown
    have hsz := hB.size
    clear hP hN hown
    by_cases hlt : k < l.length
    · obtain ⟨b1, o1, _, e1, _, hb1, g1⟩ := HX.out.elem (by simp; omega)
      cases e1
      have f0 : wr.cell? ⟨b1, o1 + k, none⟩ = some (I l[k]) := (hB.cell (p := ⟨b1, o1 + k, none⟩) hb1).trans (g1 k _ (ints_at l k hlt))
      clear g1
      obtain ⟨a, ha⟩ : ∃ a, l[k] = a := ⟨_, rfl⟩
      rw [ha] at f0
      have HA := Lib.hid ha
      clear ha
      by_cases hax : a = n
      · have hd : (a == n) = true := eq_t hax
        have hF : Hid (putF l n = l) := Lib.hid (by rw [putF, if_pos]; rw [← hax, ← HA.out]; exact List.getElem_mem hlt)
        clear hax
        go_wp2
        go_ret
        exact ⟨_, rfl, by rw [hF.out]; exact HX.out.below hB, hB, .inl rfl⟩
      · have hd : (a == n) = false := eq_f hax
        have HNX : Hid (l[k] ≠ n) := Lib.hid (by rw [HA.out]; exact hax)
        have hst := putAt_step HP.out hlt
        rw [HA.out] at hst
        have HN2 : Hid (n ∉ l.take (k + 1)) := Lib.hid (by
          rw [List.take_succ_eq_append_getElem hlt, List.mem_append]
          rintro (h | h)
          · exact HN.out h
          · simp at h; exact HNX.out h.symm)
        clear hax
        by_cases hgt : n < a
        · have hd2 : decide (n < a) = true := de_t hgt
          rw [hd2] at hst
          have HST := Lib.hid hst
          clear hgt hst
          cases inn with
          | true =>
            go_wp2_with (at_builtin; refine wpl_append1 rfl _ _ _ rfl E26 rfl (HO.out.alloc _) (u := .slice (some ⟨wr.heap.size, 0, none⟩) 1 1) (m := 1) (news := [I a]) rfl (Rd.fresh wr #[I a] 3 1 1 (by omega) (by omega)) rfl (by simp [Value.oneCell']) (by omega) (by omega) (by simp only [maxLen]; omega) (by simp; omega) ?_; intro g' cap' w2 hap)
            go_roundw
            case rel =>
              have hb2 : Below w.heap.size w w2 := hap.below (hB.alloc hsz _) (HO.out.alloc _) (Nat.le_refl _) (by simp; omega)
              exact ⟨k + 1, out ++ [a], true, by omega, by go_num, rfl, by simpa using HST.out, HN2.out, by simp; omega, by simpa [ints] using hap.own, hb2⟩
            case measure => simp [intOf]; omega
          | false =>
            go_upto_region 9 with (at_builtin; refine wpl_append1 rfl _ _ _ rfl E26 rfl (HO.out.alloc _) (u := .slice (some ⟨wr.heap.size, 0, none⟩) 1 1) (m := 1) (news := [I n]) rfl (Rd.fresh wr #[I n] 3 1 1 (by omega) (by omega)) rfl (by simp [Value.oneCell']) (by omega) (by omega) (by simp only [maxLen]; omega) (by simp; omega) ?_; intro g2 cap2 w2 hap)
            have hb2 : Below w.heap.size w w2 := hap.below (hB.alloc hsz _) (HO.out.alloc _) (Nat.le_refl _) (by simp; omega)
            have hb3 : Below w.heap.size w w2 := hb2
            have hs2 := hb2.size
            have HO2 : Hid (w2.ownsRow w.heap.size 3 1 (.slice (some ⟨g2, 0, none⟩) (out.length + 1) cap2) (out ++ [n]).length (ints (out ++ [n]))) := Lib.hid (by simpa [ints] using hap.own)
            have f2 : w2.cell? ⟨b1, o1 + k, none⟩ = some (I a) := (hb2.cell (p := ⟨b1, o1 + k, none⟩) hb1).trans ((hB.cell (p := ⟨b1, o1 + k, none⟩) hb1).symm.trans f0)
            have hl2 : (out ++ [n]).length = out.length + 1 := by simp
            rw [hl2] at HO2
            clear hb2 hap f0
            go_wp2_with (at_builtin; refine wpl_append1 rfl _ _ _ rfl E26 rfl (HO2.out.alloc _) (u := .slice (some ⟨w2.heap.size, 0, none⟩) 1 1) (m := 1) (news := [I a]) rfl (Rd.fresh w2 #[I a] 3 1 1 (by omega) (by omega)) rfl (by simp [Value.oneCell']) (by omega) (by omega) (by simp only [maxLen]; omega) (by simp; omega) ?_; intro g' cap' w3 hap3)
            go_roundw
            case rel =>
              have hb4 : Below w.heap.size w w3 := hap3.below (hb3.alloc hs2 _) (HO2.out.alloc _) (Nat.le_refl _) (by simp; omega)
              exact ⟨k + 1, out ++ [n] ++ [a], true, by omega, by go_num, rfl, by simpa using HST.out, HN2.out, by have h := congrArg List.length HP.out.2; simp at h ⊢; omega, by have := hap3.own; simpa [ints] using this, hb4⟩
            case measure => simp [intOf]; omega
        · have hd2 : decide (n < a) = false := de_f hgt
          rw [hd2] at hst
          have HST := Lib.hid hst
          clear hgt hst
          cases inn
          all_goals
            go_wp2_with (at_builtin; refine wpl_append1 rfl _ _ _ rfl E26 rfl (HO.out.alloc _) (u := .slice (some ⟨wr.heap.size, 0, none⟩) 1 1) (m := 1) (news := [I a]) rfl (Rd.fresh wr #[I a] 3 1 1 (by omega) (by omega)) rfl (by simp [Value.oneCell']) (by omega) (by omega) (by simp only [maxLen]; omega) (by simp; omega) ?_; intro g' cap' w2 hap)
            go_roundw
            case rel =>
              have hb2 : Below w.heap.size w w2 := hap.below (hB.alloc hsz _) (HO.out.alloc _) (Nat.le_refl _) (by simp; omega)
              exact ⟨k + 1, out ++ [a], _, by omega, by go_num, rfl, by simpa using HST.out, HN2.out, by simp; omega, by simpa [ints] using hap.own, hb2⟩
            case measure => simp [intOf]; omega
    · have hke : k = l.length := by omega
      subst hke
      obtain ⟨hp1, hp2⟩ := HP.out
      have hn := HN.out
      rw [List.take_length] at hp1 hp2 hn
      have hF : Hid (putF l n = putL l n) := Lib.hid (by rw [putF, if_neg hn])
      have HP1 := Lib.hid hp1
      have HP2 := Lib.hid hp2
      clear hp1 hp2 hn
      cases inn with
      | true =>
        go_wp2
        go_ret
        have e : putL l n = out := by simpa using HP2.out.symm
        exact ⟨_, rfl, by rw [hF.out, e]; exact Rd.of_own HO.out, hB, .inr fun b hb => (HO.out.lt b hb).1⟩
      | false =>
        have e : out ++ [n] = putL l n := by
          have h1 : ∀ x ∈ l, ¬ n < x := fun x hx hn => by have := HP1.out.2 ⟨x, hx, hn⟩; cases this
          rw [putL_le h1]
          simpa using HP2.out
        have HE := Lib.hid e
        clear e
        go_wp2_with (at_builtin; refine wpl_append1 rfl _ _ _ rfl E26 rfl (HO.out.alloc _) (u := .slice (some ⟨wr.heap.size, 0, none⟩) 1 1) (m := 1) (news := [I n]) rfl (Rd.fresh wr #[I n] 3 1 1 (by omega) (by omega)) rfl (by simp [Value.oneCell']) (by omega) (by omega) (by simp only [maxLen]; omega) (by simp; omega) ?_; intro g' cap' w2 hap)
        go_ret
        have hb2 : Below w.heap.size w w2 := hap.below (hB.alloc hsz _) (HO.out.alloc _) (Nat.le_refl _) (by simp; omega)
        refine ⟨_, rfl, ?_, hb2, .inr fun b hb => (hap.own.lt b hb).1⟩
        rw [hF.out, ← HE.out]
        have := Rd.of_own hap.own
        simpa [ints] using this
end Go.Proofs.Ytcghkemfepnihaa
