/- What a step, an end, a function comes to that is one's own: the program's and the document's copies. -/
import Derived.Test.YtbebdcpakjfgdaaDoorGB
namespace Go.Proofs.YtbebdcpakjfgdaaDoor
open Go Go.RowKit

theorem bif_some {α : Type} {b : Bool} {x y : α} : (bif b then some x else some y) = some (bif b then x else y) := by cases b <;> rfl
theorem clone_eq {l : List Int} (h : l.length ≤ 400) : p_slices_Clone_int_int l = some l := by
  unfold p_slices_Clone_int_int nilC
  rw [ck_t (by omega)]
  split
  · rename_i e
    have : l = [] := by simpa using e
    subst this
    rfl
  · rfl
def fb (k : Int) : ByteArray := if k < 0 ∨ 26 ≤ k then ⟨#[]⟩ else (fldT[k.toNat]?).getD ⟨#[]⟩
theorem fb_out {k : Int} (h : k < 0 ∨ 26 ≤ k) : fb k = ⟨#[]⟩ := if_pos h
theorem in_range (k : Int) : (k < 0 ∨ 26 ≤ k) ∨ k = 0 ∨ k = 1 ∨ k = 2 ∨ k = 3 ∨ k = 4 ∨ k = 5 ∨ k = 6 ∨ k = 7 ∨ k = 8 ∨ k = 9 ∨ k = 10 ∨ k = 11 ∨ k = 12 ∨ k = 13 ∨ k = 14 ∨ k = 15 ∨ k = 16 ∨ k = 17 ∨ k = 18 ∨ k = 19 ∨ k = 20 ∨ k = 21 ∨ k = 22 ∨ k = 23 ∨ k = 24 ∨ k = 25 := by omega
theorem fin_range {k : Int} (h : ¬ (k < 0 ∨ 26 ≤ k)) : ∃ n : Fin 26, k = (n.val : Int) := ⟨⟨k.toNat, by omega⟩, by simp; omega⟩
set_option maxRecDepth 100000 in
theorem fieldsOf_fin : ∀ n : Fin 26, p_kind_fieldsOf (n.val : Int) = some (fb (n.val : Int)) := by decide +kernel
set_option maxRecDepth 100000 in
theorem fields_fin : ∀ n : Fin 26, p_R04_Fields (n.val : Int) = some (fb (n.val : Int)) := by decide +kernel
theorem fieldsOf_eq (k : Int) : p_kind_fieldsOf k = some (fb k) := by
  by_cases h : k < 0 ∨ 26 ≤ k
  · rw [fb_out h]
    unfold p_kind_fieldsOf
    rcases h with h | h
    · simp [h]
    · have : ¬ k < 0 := by omega
      simp [h, this]
  · obtain ⟨n, rfl⟩ := fin_range h
    exact fieldsOf_fin n
theorem fields_eq (k : Int) : p_R04_Fields k = some (fb k) := by
  by_cases h : k < 0 ∨ 26 ≤ k
  · rw [fb_out h]
    have hne : ∀ c : Int, 0 ≤ c → c < 26 → decide (k = c) = false := fun c h1 h2 => by simp; omega
    unfold p_R04_Fields
    simp only [hne 0 (by decide) (by decide), hne 1 (by decide) (by decide), hne 2 (by decide) (by decide), hne 3 (by decide) (by decide), hne 4 (by decide) (by decide), hne 5 (by decide) (by decide), hne 6 (by decide) (by decide), hne 7 (by decide) (by decide), hne 8 (by decide) (by decide), hne 9 (by decide) (by decide), hne 10 (by decide) (by decide), hne 11 (by decide) (by decide), hne 12 (by decide) (by decide), hne 13 (by decide) (by decide), hne 14 (by decide) (by decide), hne 15 (by decide) (by decide), hne 16 (by decide) (by decide), hne 17 (by decide) (by decide), hne 18 (by decide) (by decide), hne 19 (by decide) (by decide), hne 20 (by decide) (by decide), hne 21 (by decide) (by decide), hne 22 (by decide) (by decide), hne 23 (by decide) (by decide), hne 24 (by decide) (by decide), hne 25 (by decide) (by decide), cond_false, Option.bind_some]
  · obtain ⟨n, rfl⟩ := fin_range h
    exact fields_fin n
def hasB (k c : Int) : Bool := (fb k).data.toList.any fun b => decide (((b.toNat : Nat) : Int) = c)
def ltrs : List Int := [65, 66, 67, 75, 76, 78, 83]
set_option maxRecDepth 100000 in
theorem has_fin : ∀ n : Fin 26, ∀ c ∈ ltrs, p_R04_Has (n.val : Int) c = some (hasB (n.val : Int) c) := by decide +kernel
theorem hasB_out {k : Int} (h : k < 0 ∨ 26 ≤ k) (c : Int) : hasB k c = false := by
  unfold hasB
  rw [fb_out h]
  rfl
theorem has_eq (k c : Int) (hc : c ∈ ltrs) : p_R04_Has k c = some (hasB k c) := by
  by_cases h : k < 0 ∨ 26 ≤ k
  · rw [hasB_out h]
    unfold p_R04_Has
    rw [fields_eq, fb_out h]
    rfl
  · obtain ⟨n, rfl⟩ := fin_range h
    exact has_fin n c hc
/-- A step, without what plays no part. -/
def plO (o : MOp) : MOp := ⟨o.K, bif hasB o.K 65 then o.A else 0, bif hasB o.K 66 then o.B else 0, bif hasB o.K 67 then o.C else 0, bif hasB o.K 78 then o.N else 0, bif hasB o.K 83 then o.S else ⟨#[]⟩, bif hasB o.K 76 then o.L else [], bif hasB o.K 75 then o.Stack else false⟩
theorem plainR_eq {o : MOp} (h : o.L.length ≤ 400) : p_R04_Plain o = some (plO o) := by
  unfold p_R04_Plain
  simp only [has_eq o.K 78 (by decide), has_eq o.K 83 (by decide), has_eq o.K 65 (by decide), has_eq o.K 66 (by decide), has_eq o.K 67 (by decide), has_eq o.K 76 (by decide), has_eq o.K 75 (by decide), Option.bind_some, ck_t (show o.L.length * 8 ≤ 140737488355328 by omega), bif_some]
  rfl
set_option maxRecDepth 100000 in
set_option maxHeartbeats 2000000 in
theorem plainP_eq {o : MOp} (h : o.L.length ≤ 400) : p_kind_plain o = some (plO o) := by
  obtain ⟨K, A, B, C, N, S, L, T⟩ := o
  have hcl := clone_eq h
  unfold p_kind_plain
  simp only at hcl
  simp only [fieldsOf_eq, Option.bind_some, hcl]
  rcases in_range K with h0 | rfl | rfl | rfl | rfl | rfl | rfl | rfl | rfl | rfl | rfl | rfl | rfl | rfl | rfl | rfl | rfl | rfl | rfl | rfl | rfl | rfl | rfl | rfl | rfl | rfl | rfl
  · simp only [plO, hasB, fb_out h0]
    refine (?_ : _ = _)
    kernel_rfl
  all_goals
    refine (?_ : _ = _)
    kernel_rfl
theorem plainP2_eq {o : MOp} (h : o.L.length ≤ 400) : p_kind_Plain o = some (plO o) := by
  unfold p_kind_Plain
  rw [plainP_eq h]
  rfl
/-- An end, without what plays no part. -/
def plE (e : MEnd) : MEnd := ⟨e.K, bif decide (e.K = 1) || (decide (e.K = 2) || decide (e.K = 3)) then e.A else 0, bif decide (e.K = 0) || decide (e.K = 1) then e.To else 0, bif decide (e.K = 1) then e.Else else 0, bif decide (e.K = 0) || decide (e.K = 1) then e.L else [], bif decide (e.K = 1) then e.M else []⟩
theorem endP_eq {e : MEnd} (hL : e.L.length ≤ 400) (hM : e.M.length ≤ 400) : p_code_ownEnd e = some (plE e) := by
  unfold p_code_ownEnd plE
  rw [clone_eq hL, clone_eq hM]
  cases decide (e.K = 0) <;> cases decide (e.K = 1) <;> cases decide (e.K = 2) <;> cases decide (e.K = 3) <;> rfl
theorem endR_eq {e : MEnd} (hL : e.L.length ≤ 400) (hM : e.M.length ≤ 400) : p_R05_End e = some (plE e) := by
  unfold p_R05_End plE
  rw [ck_t (by omega), ck_t (by omega)]
  have h13 : (bif decide ((1 : Int) ≤ e.K) then some (decide (e.K ≤ 3)) else some false) = some (decide (e.K = 1) || (decide (e.K = 2) || decide (e.K = 3))) := by
    by_cases h1 : (1 : Int) ≤ e.K
    · by_cases h3 : e.K ≤ 3
      · have : e.K = 1 ∨ e.K = 2 ∨ e.K = 3 := by omega
        rcases this with h | h | h <;> simp [h]
      · have e1 : ¬ e.K = 1 := by omega
        have e2 : ¬ e.K = 2 := by omega
        have e3 : ¬ e.K = 3 := by omega
        simp [h1, h3, e1, e2, e3]
    · have e1 : ¬ e.K = 1 := by omega
      have e2 : ¬ e.K = 2 := by omega
      have e3 : ¬ e.K = 3 := by omega
      simp [h1, e1, e2, e3]
  rw [h13]
  cases decide (e.K = 0) <;> cases decide (e.K = 1) <;> cases decide (e.K = 2) <;> cases decide (e.K = 3) <;> rfl
def plB (b : MBlk) : MBlk := ⟨b.Params, b.Ops.map plO, plE b.End⟩
def plF (f : MFun) : MFun := ⟨f.Ret, f.Blocks.map plB⟩
/-- It isn't great. -/
structure SzB (b : MBlk) : Prop where
  p : b.Params.length ≤ 400
  o : b.Ops.length ≤ 400
  l : b.End.L.length ≤ 400
  m : b.End.M.length ≤ 400
  os : ∀ o ∈ b.Ops, o.L.length ≤ 400
structure SzF (f : MFun) : Prop where
  b : f.Blocks.length ≤ 400
  bs : ∀ b ∈ f.Blocks, SzB b
theorem ownP_eq {f : MFun} (h : SzF f) : p_tidy_own f = some (plF f) := by
  have hops : ∀ (b : MBlk), SzB b → loop (fun (s : (List MOp) × Nat) => (bif decide (s.2 < b.Ops.length) then ((b.Ops[s.2]?).bind fun x => ((p_kind_Plain x).bind fun y => (ck ((s.1.length + 1) * 88 ≤ 140737488355328) (some (Xt.go ((s.1 ++ [y]), (s.2 + 1))))))) else some (Xt.out s.1))) Fu ([], 0) = some (b.Ops.map plO) := fun b hb => by
    refine loop_push b.Ops plO (fun i x acc hx ha hi hm => ?_) (fun acc => by simp) (by have := hb.o; omega)
    have := hb.o
    simp only [hi, decide_true, cond_true, hx, Option.bind_some, plainP2_eq (hb.os x hm)]
    rw [ck_t (by omega)]
  have hbl : loop (fun (s12049 : (List MBlk) × Nat) => (bif decide (s12049.2 < f.Blocks.length) then ((((f.Blocks[s12049.2]?).bind fun x12058 => ((p_slices_Clone_int_int x12058.Params).bind fun y12060 => ((p_code_ownEnd x12058.End).bind fun y12062 => (((loop (fun (s : (List MOp) × Nat) => (bif decide (s.2 < x12058.Ops.length) then ((x12058.Ops[s.2]?).bind fun x => ((p_kind_Plain x).bind fun y => (ck ((s.1.length + 1) * 88 ≤ 140737488355328) (some (Xt.go ((s.1 ++ [y]), (s.2 + 1))))))) else some (Xt.out s.1))) Fu ([], 0))).bind fun (s12065 : (List MOp)) => (ck ((s12049.1.length + 1) * 128 ≤ 140737488355328) (some (s12049.1 ++ [(⟨y12060, s12065, y12062⟩ : MBlk)])))))))).bind fun (s12056 : (List MBlk)) => some (Xt.go (s12056, (s12049.2 + 1)))) else some (Xt.out s12049.1))) Fu ([], 0) = some (f.Blocks.map plB) := by
    refine loop_push f.Blocks plB (fun i x acc hx ha hi hm => ?_) (fun acc => by simp) (by have := h.b; omega)
    have hb := h.bs x hm
    have := h.b
    simp only [hi, decide_true, cond_true, hx, Option.bind_some, clone_eq hb.p, endP_eq hb.l hb.m, hops x hb]
    rw [ck_t (by omega)]
    rfl
  have hown : p_code_own (some ⟨[], [], [f]⟩) = some (some ⟨[], [], [plF f]⟩) := by
    unfold p_code_own optC
    simp only
    rw [show ∀ (b : (List MSig) × Nat → Option (Xt ((List MSig) × Nat) (List MSig))), b ([], 0) = some (.out []) → loop b Fu ([], 0) = some [] from fun b hb => loop_at (fun _ => ([], 0)) 0 [] rfl (fun i hi => by omega) hb (by omega)] <;> try rfl
    simp only [Option.bind_some]
    rw [show ∀ (b : (List MCls) × Nat → Option (Xt ((List MCls) × Nat) (List MCls))), b ([], 0) = some (.out []) → loop b Fu ([], 0) = some [] from fun b hb => loop_at (fun _ => ([], 0)) 0 [] rfl (fun i hi => by omega) hb (by omega)] <;> try rfl
    simp only [Option.bind_some]
    rw [loop_push [f] plF (fun i x acc hx ha hi hm => ?_) (fun acc => by simp) (by simp)]
    · rfl
    · obtain rfl : x = f := by simpa using hm
      have hi' : i = 0 := by simpa using hi
      subst hi'
      simp only [hi, decide_true, cond_true, hx, Option.bind_some]
      rw [hbl]
      have : acc = [] := List.eq_nil_of_length_eq_zero ha
      subst this
      rfl
  unfold p_tidy_own p_code_Copy
  simp only [optC, hown, Option.bind_some]
  rfl
end Go.Proofs.YtbebdcpakjfgdaaDoor
