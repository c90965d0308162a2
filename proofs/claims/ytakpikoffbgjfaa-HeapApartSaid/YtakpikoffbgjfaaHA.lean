import Derived.Test.YtakpikoffbgjfaaHMem
namespace Go.Proofs.Ytakpikoffbgjfaa
open Go.RowKit

theorem map_block {w : World} {b n : Nat} {D : DataW Unit} (h : w.ownsMap Try.prog 2 (plainElem Try.prog 2) b n D) : ∃ es clock, w.heap[b]? = some (.map es clock) := by
  obtain ⟨es, clock, hb, _⟩ := h
  exact ⟨es, clock, hb⟩
theorem mb_block {w : World} {F : Nat → Prop} {t : Th} {q : TQ} (h : ThW w F t q) {k : Nat} (hk : q.mb = some k) : ∃ es clock, w.heap[k]? = some (.map es clock) := by
  rcases h.map with ⟨_, e⟩ | ⟨_, b, D, e, _, hm, _⟩
  · rw [TQ.mb, e] at hk; cases hk
  · rw [TQ.mb, e] at hk; cases hk; exact map_block hm
/-- No part of a thing lies in a block of this type. -/
theorem ThW.off {w : World} {F : Nat → Prop} {t : Th} {q : TQ} (h : ThW w F t q) {k e : Nat} {c : Array Value} {fr : Nat × Nat} (hk : w.heap[k]? = some (.cells c e fr)) (h30 : e ≠ 30) (h2 : e ≠ 2) : ∀ j, (q.c.ownBlock = some j ∨ q.k.ownBlock = some j ∨ q.mb = some j) → j ≠ k := by
  rintro j (e1 | e1 | e1) rfl
  · obtain ⟨cur, hc⟩ := own_type h.cells e1
    rw [hc] at hk; cases hk; exact h30 rfl
  · obtain ⟨cur, hc⟩ := own_type h.keys e1
    rw [hc] at hk; cases hk; exact h2 rfl
  · obtain ⟨es, clock, hc⟩ := mb_block h e1
    rw [hc] at hk; cases hk
/-- A word of the memory itself is set. -/
theorem MemW.word {w : World} {F : Nat → Prop} {p : Nat} {M M' : HM} {tv fv : Value} {qs : List TQ} (h : MemW w F p M tv fv qs) (i : Nat) (v : Value) (ht : M'.things = M.things) (hf : M'.frames = M.frames)
    (ha : ([tv, fv, I M.last, I M.limit, I M.used, I M.makes] : List Value).set i v = [tv, fv, I M'.last, I M'.limit, I M'.used, I M'.makes]) : MemW (w.setCell ⟨p, i, none⟩ v) F p M' tv fv qs := by
  have hkp : ∀ k, k ≠ p → (w.setCell ⟨p, i, none⟩ v).heap[k]? = w.heap[k]? := fun k hk => Below.heap_setCell _ _ _ _ hk
  have h1 := own_kept h.things (w' := w.setCell ⟨p, i, none⟩ v) (fun k e => hkp k (by
    obtain ⟨cur, hc⟩ := own_type h.things e
    exact ne_type hc h.arr.out (by decide)))
  have h2 := own_kept h.frames (w' := w.setCell ⟨p, i, none⟩ v) (fun k e => hkp k (by
    obtain ⟨cur, hc⟩ := own_type h.frames e
    exact ne_type hc h.arr.out (by decide)))
  refine ⟨fun k hk => by simpa using h.lt k hk, h.fp, by rw [← ha]; exact h.arr.set i v, by rw [ht]; exact h.len, h1, h.thingsF, by rw [hf]; exact h2, h.framesF, fun j t q hj hq => ?_, h.apart⟩
  · rw [ht] at hj
    have hth := h.each j t q hj hq
    exact hth.kept (fun k _ hk => hkp k (hth.off h.arr.out (by decide) (by decide) k hk)) (fun _ h => h)
theorem MemW.cell {w : World} {F : Nat → Prop} {p : Nat} {M : HM} {tv fv : Value} {qs : List TQ} (h : MemW w F p M tv fv qs) :
    w.cell? ⟨p, 0, none⟩ = some tv ∧ w.cell? ⟨p, 1, none⟩ = some fv ∧ w.cell? ⟨p, 2, none⟩ = some (I M.last) ∧ w.cell? ⟨p, 3, none⟩ = some (I M.limit) ∧ w.cell? ⟨p, 4, none⟩ = some (I M.used) ∧ w.cell? ⟨p, 5, none⟩ = some (I M.makes) :=
  ⟨h.arr.cell 0, h.arr.cell 1, h.arr.cell 2, h.arr.cell 3, h.arr.cell 4, h.arr.cell 5⟩
theorem MemW.drewN {w : World} {F : Nat → Prop} {p : Nat} {M : HM} {tv fv : Value} {qs : List TQ} (h : MemW w F p M tv fv qs) (n : Nat) : MemW (w.drewN n) F p M tv fv qs := h.kept (fun _ _ => rfl) (Nat.le_refl _)
theorem Chg.drewN {F : Nat → Prop} {w w' : World} (h : Chg F w w') (n : Nat) : Chg F w (w'.drewN n) := ⟨h.os, h.tape, h.output, h.size, h.block⟩
abbrev P0 (p : Nat) : Value := .pointer (some ⟨p, 0, none⟩)
theorem used_any (w : World) (F : Nat → Prop) (p : Nat) (M : HM) (tv fv : Value) (qs : List TQ) (h : MemW w F p M tv fv qs) : Calls Try.prog 18 #[P0 p] w fun e w' => e = .returned (I M.used) ∧ w = w' := by
  obtain ⟨_, _, _, _, c4, _⟩ := h.cell
  clear h
  go_enter Try.func18, Try.ntmps18
  go_wp2
  go_ret
  exact ⟨rfl, rfl⟩
theorem makes_any (w : World) (F : Nat → Prop) (p : Nat) (M : HM) (tv fv : Value) (qs : List TQ) (h : MemW w F p M tv fv qs) : Calls Try.prog 22 #[P0 p] w fun e w' => e = .returned (I M.makes) ∧ w = w' := by
  obtain ⟨_, _, _, _, _, c5⟩ := h.cell
  clear h
  go_enter Try.func22, Try.ntmps22
  go_wp2
  go_ret
  exact ⟨rfl, rfl⟩
/-- How much is taken of the heap. -/
structure Room (M : HM) : Prop where
  u0 : 0 ≤ M.used
  ul : M.used ≤ M.limit
  l : M.limit ≤ 16777216
def takeM (M : HM) (n : Int) : HM := if n ≤ M.limit - M.used then { M with used := M.used + n } else M
set_option maxHeartbeats 1000000 in
theorem takes_any (w : World) (F : Nat → Prop) (p : Nat) (M : HM) (tv fv : Value) (qs : List TQ) (h : MemW w F p M tv fv qs) (hr : Room M) (n : Int) (hn : 0 ≤ n) (hn2 : n ≤ 1000000000000) :
    Calls Try.prog 26 #[P0 p, I n] w fun e w' => e = .returned (.bool (decide (n ≤ M.limit - M.used))) ∧ MemW w' F p (takeM M n) tv fv qs ∧ Chg F w w' := by
  obtain ⟨_, _, _, c3, c4, _⟩ := h.cell
  have f4 := h.arr.frozen 4
  have HH := Lib.hid h
  obtain ⟨u0, ul, hl⟩ := hr
  have e1 : IntKind.i64.wrap (M.limit - M.used) = M.limit - M.used := IntWalk.i64_in _ ⟨by omega, by omega⟩
  clear h
  by_cases hc : n ≤ M.limit - M.used
  · have hd : decide (M.limit - M.used < n) = false := de_f (by omega)
    have e2 : IntKind.i64.wrap (M.used + n) = M.used + n := IntWalk.i64_in _ ⟨by omega, by omega⟩
    have HC := Lib.hid hc
    clear hc
    go_enter Try.func26, Try.ntmps26
    go_wp2
    go_quiet (fail)
    go_wp2
    go_ret
    exact ⟨by rw [de_t HC.out]; rfl, by rw [takeM, if_pos HC.out]; exact MemW.word (M' := { M with used := M.used + n }) (HH.out.drewN nq) 4 _ rfl rfl rfl, ((Chg.refl F w).drewN nq).set (a := ⟨p, 4, none⟩) HH.out.fp _⟩
  · have hd : decide (M.limit - M.used < n) = true := de_t (by omega)
    have HC := Lib.hid hc
    clear hc
    go_enter Try.func26, Try.ntmps26
    go_wp2
    go_quiet (fail)
    go_wp2
    go_ret
    exact ⟨by have := HC.out; rw [de_f (by omega)]; rfl, by have := HC.out; rw [takeM, if_neg (by omega)]; exact HH.out.drewN nq, (Chg.refl F w).drewN nq⟩
end Go.Proofs.Ytakpikoffbgjfaa
