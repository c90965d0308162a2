import Derived.Test.YtakpikoffbgjfaaHSh
import Derived.Laws.Cover3
import Derived.BigQuiet
namespace Go.Proofs.Ytakpikoffbgjfaa
open Go.RowKit

/-- Whether a thing can be asked: 6 no such thing, 5 its frame is gone, 0 it can. -/
def whyF (M : HM) (r : Int) (table : Bool) : Int :=
  if r < 1 then 6 else match M.things[(r - 1).toNat]? with
    | none => 6
    | some t => if t.tab = table then (if 0 < t.frame ∧ t.frame ∉ M.frames then 5 else 0) else 6
def AtRes (w : World) (M : HM) (tv : Value) (r : Int) (table : Bool) (e : Ending) (w' : World) : Prop :=
  ∃ q ptr, w' = w.drewN q ∧ e = .returned (.tuple #[ptr, I (whyF M r table)]) ∧ (whyF M r table ≠ 0 → ptr = .pointer none) ∧
    (whyF M r table = 0 → ∃ (i g cap : Nat), r = i + 1 ∧ i < M.things.length ∧ tv = .slice (some ⟨g, 0, none⟩) M.things.length cap ∧ ptr = .pointer (some ⟨g, i * 4, none⟩))
/-- The words of a thing, in the row. -/
theorem tqs_at (l : List TQ) : ∀ (i : Nat) (q : TQ), l[i]? = some q → (tqs l)[i * 4]? = some q.c ∧ (tqs l)[i * 4 + 1]? = some q.k ∧ (tqs l)[i * 4 + 2]? = some q.m ∧ (tqs l)[i * 4 + 3]? = some (I q.f) := by
  induction l with
  | nil => intro i q h; simp at h
  | cons x l ih =>
    intro i q h
    cases i with
    | zero => simp at h; subst h; simp [tqs, TQ.cs]
    | succ i =>
      have := ih i q (by simpa using h)
      rw [show (i + 1) * 4 = i * 4 + 1 + 1 + 1 + 1 by omega]
      simpa [tqs, TQ.cs] using this
theorem MemW.thing {w : World} {F : Nat → Prop} {p : Nat} {M : HM} {tv fv : Value} {qs : List TQ} (h : MemW w F p M tv fv qs) {i : Nat} {t : Th} (ht : M.things[i]? = some t) :
    ∃ g cap q, tv = .slice (some ⟨g, 0, none⟩) M.things.length cap ∧ M.things.length ≤ cap ∧ cap ≤ 9223372036854775807 ∧ g < w.heap.size ∧ qs[i]? = some q ∧ ThW w F t q ∧
      w.cell? ⟨g, i * 4, none⟩ = some q.c ∧ w.cell? ⟨g, i * 4 + 1, none⟩ = some q.k ∧ w.cell? ⟨g, i * 4 + 2, none⟩ = some q.m ∧ w.cell? ⟨g, i * 4 + 3, none⟩ = some (I t.frame) ∧ ∀ j, w.frozen? ⟨g, j, none⟩ = false := by
  have hi : i < M.things.length := (List.getElem?_eq_some_iff.1 ht).1
  have hq : qs[i]? = some (qs[i]'(by rw [h.len]; exact hi)) := List.getElem?_eq_getElem _
  have hth := h.each i t _ ht hq
  have hto := h.things
  have hl := h.len
  obtain ⟨g, cap, e, hg1, hg2⟩ := hto.form (by omega)
  subst e
  obtain ⟨A, c, e, h1, h2⟩ := (Rd.of_own hto).form
  cases e
  obtain ⟨a0, a1, a2, a3⟩ := tqs_at qs i _ hq
  obtain ⟨cur, hcur⟩ := own_type hto (k := g) rfl
  have cl : ∀ (j : Nat) (u : Value), (tqs qs)[j]? = some u → w.cell? ⟨g, j, none⟩ = some u := fun j u hu => by
    have := hto.cells (g := g) rfl j u hu
    rwa [add_plain', Nat.zero_add] at this
  refine ⟨g, cap, _, by rw [← hl], by omega, h2, hg2, hq, hth, cl _ _ a0, cl _ _ a1, cl _ _ a2, by rw [← hth.f]; exact cl _ _ a3, fun j => by simp [World.frozen?, hcur]⟩

set_option maxHeartbeats 4000000 in
set_option maxRecDepth 100000 in
theorem at_any (w : World) (F : Nat → Prop) (p : Nat) (M : HM) (tv fv : Value) (qs : List TQ) (r : Int) (table : Bool) (h : MemW w F p M tv fv qs) (hs : M.frames.Pairwise (· < ·)) (hfl : M.frames.length ≤ 1000000000) (hth : M.things.length ≤ 1000000000) :
    Calls Try.prog 25 #[P0 p, I r, .bool table] w (AtRes w M tv r table) := by
  have HH := Lib.hid h
  obtain ⟨c0, c1, _, _, _, _⟩ := h.cell
  have hlen := h.len
  obtain ⟨nt, hnt⟩ : ∃ n, M.things.length = n := ⟨_, rfl⟩
  have hto := h.things
  rw [hlen, hnt] at hto
  obtain ⟨At, ct, rfl, ht1, ht2⟩ := (Rd.of_own hto).form
  have HNT := Lib.hid hnt
  rw [hnt] at hth
  clear h hlen hnt hto
  by_cases h1 : r < 1
  · have d1 : decide (r < 1) = true := de_t h1
    have e : whyF M r table = 6 := by rw [whyF, if_pos h1]
    have HE := Lib.hid e
    clear e h1
    go_enter Try.func25, Try.ntmps25
    go_wp2
    go_ret2
    exact ⟨0, .pointer none, rfl, by rw [HE.out]; rfl, fun _ => rfl, fun h => by rw [HE.out] at h; cases h⟩
  · have d1 : decide (r < 1) = false := de_f h1
    by_cases h2 : (nt : Int) < r
    · have d2 : decide ((nt : Int) < r) = true := de_t h2
      have e : whyF M r table = 6 := by
        rw [whyF, if_neg h1, List.getElem?_eq_none (by rw [HNT.out]; omega)]
      have HE := Lib.hid e
      clear e h1 h2
      go_enter Try.func25, Try.ntmps25
      go_wp2
      go_ret2
      exact ⟨0, .pointer none, rfl, by rw [HE.out]; rfl, fun _ => rfl, fun h => by rw [HE.out] at h; cases h⟩
    · have d2 : decide ((nt : Int) < r) = false := de_f h2
      obtain ⟨i, rfl⟩ : ∃ i : Nat, r = i + 1 := ⟨(r - 1).toNat, by omega⟩
      have hin : i < M.things.length := by rw [HNT.out]; omega
      obtain ⟨t, htt⟩ : ∃ t, M.things[i]? = some t := ⟨_, List.getElem?_eq_getElem hin⟩
      obtain ⟨g, cap, q, etv, hn1, hn2, hgl, hq, hT, k0, k1, k2, k3, hfz⟩ := HH.out.thing htt
      cases etv
      have HT := Lib.hid hT
      have HTT := Lib.hid htt
      have hfo := Rd.of_own HH.out.frames
      obtain ⟨Af, cf, rfl, hf1, hf2⟩ := hfo.form
      have HFO := Lib.hid hfo
      have hwi : IntKind.i64.wrap (i : Int) = i := IntWalk.i64_in _ ⟨by omega, by omega⟩
      have hil : (i : Int) < M.things.length := by omega
      have hneq := fun w m => run_neq_map_nil (P := Try.prog) w 62 2 2 m Try.underlying62
      have hwhy : whyF M ((i : Int) + 1) table = if t.tab = table then (if 0 < t.frame ∧ t.frame ∉ M.frames then 5 else 0) else 6 := by
        rw [whyF, if_neg h1, show ((i : Int) + 1 - 1).toNat = i by omega, htt]
      have HWHY := Lib.hid hwhy
      have HHF := Lib.hid hs
      clear hfz hwhy htt hT hfo hs k0 k1 hq
      obtain ⟨fr, hfr⟩ : ∃ fr, t.frame = fr := ⟨_, rfl⟩
      rw [hfr] at k3
      have HFR := Lib.hid hfr
      clear hfr
      have bad : ∀ m, q.m = .map m → (!m.isNone) = t.tab := fun m e => by
        rcases HT.out.map with ⟨a, b⟩ | ⟨a, b, D, c, _⟩
        · rw [b] at e; cases e; rw [a]; rfl
        · rw [c] at e; cases e; rw [a]; rfl
      obtain ⟨mm, em⟩ : ∃ m, q.m = .map m := by
        rcases HT.out.map with ⟨a, b⟩ | ⟨a, b, D, c, _⟩
        · exact ⟨_, b⟩
        · exact ⟨_, c⟩
      have hbad := bad mm em
      rw [em] at k2
      obtain ⟨nb, hnb⟩ : ∃ b, (!mm.isNone) = b := ⟨_, rfl⟩
      rw [hnb] at hbad
      have HBAD := Lib.hid hbad
      have hnq : ∀ w, (binOp .neq 62 (.map mm) (.map none)).run Try.prog w = .ok (.bool nb) w := fun w => by rw [hneq w mm, hnb]
      clear hneq bad em hbad hnb
      by_cases htab : nb = table
      · obtain ⟨bc, hbc⟩ : ∃ b, M.frames.contains fr = b := ⟨_, rfl⟩
        obtain ⟨cn, hcn⟩ : ∃ c, M.frames.countP (· < fr) = c := ⟨_, rfl⟩
        have HSCH : Hid (∀ n : Nat, Calls Try.prog 34 #[.slice Af M.frames.length cf, I fr] (w.drewN n) fun e w' => e = .returned (.tuple #[I cn, .bool bc]) ∧ ∃ q, w' = (w.drewN n).drewN q) :=
          Lib.hid (fun n => by have := search_any (w.drewN n) _ M.frames fr (HFO.out.drewN n) HHF.out (by omega); rw [hbc, hcn] at this; exact this)
        have hw : whyF M ((i : Int) + 1) table = if 0 < fr ∧ bc = false then 5 else 0 := by
          rw [HWHY.out, if_pos (by rw [← HBAD.out]; exact htab), HFR.out]
          have : fr ∉ M.frames ↔ bc = false := by rw [← hbc]; simp
          simp only [this]
        have HW := Lib.hid hw
        subst htab
        clear hbc hcn hw
        by_cases hz : 0 < fr
        · have dz : decide (0 < fr) = true := de_t hz
          have HZ := Lib.hid hz
          clear hz
          cases bc
          · have e : whyF M ((i : Int) + 1) nb = 5 := by rw [HW.out, if_pos ⟨HZ.out, rfl⟩]
            have HE := Lib.hid e
            clear e
            cases nb
            all_goals
              go_enter Try.func25, Try.ntmps25
              go_wp2
              go_quiet ((go_at_call 34; refine Calls.quiet_of (HSCH.out _)))
              go_wp2
              go_ret2
              exact ⟨_, .pointer none, rfl, by rw [HE.out]; rfl, fun _ => rfl, fun h => by rw [HE.out] at h; cases h⟩
          · have e : whyF M ((i : Int) + 1) nb = 0 := by rw [HW.out, if_neg (by simp)]
            have HE := Lib.hid e
            clear e
            cases nb
            all_goals
              go_enter Try.func25, Try.ntmps25
              go_wp2
              go_quiet ((go_at_call 34; refine Calls.quiet_of (HSCH.out _)))
              go_wp2
              go_ret2
              exact ⟨_, .pointer (some ⟨g, i * 4, none⟩), rfl, by rw [HE.out]; rfl, fun h => absurd HE.out h, fun _ => ⟨i, g, ct, rfl, hin, rfl, rfl⟩⟩
        · have dz : decide (0 < fr) = false := de_f hz
          have e : whyF M ((i : Int) + 1) nb = 0 := by rw [HW.out, if_neg (fun h => hz h.1)]
          have HE := Lib.hid e
          clear e hz
          cases nb
          all_goals
            go_enter Try.func25, Try.ntmps25
            go_wp2
            go_quiet ((go_at_call 34; refine Calls.quiet_of (HSCH.out _)))
            go_wp2
            go_ret2
            exact ⟨_, .pointer (some ⟨g, i * 4, none⟩), rfl, by rw [HE.out]; rfl, fun h => absurd HE.out h, fun _ => ⟨i, g, ct, rfl, hin, rfl, rfl⟩⟩
      · have e : whyF M ((i : Int) + 1) table = 6 := by rw [HWHY.out, if_neg (by rw [← HBAD.out]; exact htab)]
        have HE := Lib.hid e
        clear e
        cases nb <;> cases table <;> first | (exact absurd rfl htab) | skip
        all_goals
          clear htab
          go_enter Try.func25, Try.ntmps25
          go_wp2
          go_ret2
          exact ⟨0, .pointer none, rfl, by rw [HE.out]; rfl, fun _ => rfl, fun h => by rw [HE.out] at h; cases h⟩
end Go.Proofs.Ytakpikoffbgjfaa
