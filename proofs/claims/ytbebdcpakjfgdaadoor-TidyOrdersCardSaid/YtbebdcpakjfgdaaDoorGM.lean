/- Several of my texts in one. -/
import Derived.Test.YtbebdcpakjfgdaaDoorFZ
/- Loops of the plain functions. -/
namespace Go.Proofs.YtbebdcpakjfgdaaDoor
open Go Go.RowKit

theorem loop_succ {σ ρ : Type} (body : σ → Option (Xt σ ρ)) (n : Nat) (s : σ) : loop body (n + 1) s = (body s).bind fun x => x.on (fun s' => loop body n s') some := rfl
/-- Rounds 0, 1 .. q, then it's enough. -/
theorem loop_run {σ ρ : Type} {body : σ → Option (Xt σ ρ)} (st : Nat → σ) (q : Nat) (r : ρ) (h1 : ∀ i, i < q → body (st i) = some (.go (st (i + 1)))) (h2 : body (st q) = some (.out r)) : ∀ (n i : Nat), i ≤ q → q - i < n → loop body n (st i) = some r
  | 0, i, _, h => by omega
  | n + 1, i, hi, h => by
    rw [loop_succ]
    by_cases e : i = q
    · subst e
      rw [h2]
      rfl
    · rw [h1 i (by omega)]
      exact loop_run st q r h1 h2 n (i + 1) (by omega) (by omega)
theorem loop_at {σ ρ : Type} {body : σ → Option (Xt σ ρ)} (st : Nat → σ) (q : Nat) (r : ρ) {s : σ} (hs : s = st 0) (h1 : ∀ i, i < q → body (st i) = some (.go (st (i + 1)))) (h2 : body (st q) = some (.out r)) (hq : q < 18446744073709551616) : loop body Fu s = some r := by
  subst hs
  exact loop_run st q r h1 h2 Fu 0 (Nat.zero_le _) (by unfold Fu; omega)
theorem take_map_succ {α β : Type} (l : List α) (g : α → β) {i : Nat} (hi : i < l.length) : (l.take (i + 1)).map g = (l.take i).map g ++ [g l[i]] := by
  rw [List.take_succ_eq_append_getElem hi, List.map_append]
  rfl
theorem drop_set {α : Type} (l : List α) (a : List α) (y : α) {i : Nat} (hi : i < l.length) (ha : a.length = i) : (a ++ l.drop i).set i y = (a ++ [y]) ++ l.drop (i + 1) := by
  rw [List.set_append_right _ _ (by omega), ha, Nat.sub_self, List.drop_eq_getElem_cons hi, List.set_cons_zero, List.append_assoc]
  rfl
/-- A list is made out of another one, element by element. -/
theorem loop_push {α β : Type} (l : List α) (g : α → β) {body : List β × Nat → Option (Xt (List β × Nat) (List β))} (h1 : ∀ i x acc, l[i]? = some x → acc.length = i → i < l.length → x ∈ l → body (acc, i) = some (.go (acc ++ [g x], i + 1))) (h2 : ∀ acc, body (acc, l.length) = some (.out acc)) (hq : l.length < 18446744073709551616) : loop body Fu ([], 0) = some (l.map g) := by
  refine loop_at (fun i => ((l.take i).map g, i)) l.length _ (by simp) (fun i hi => ?_) (by rw [h2]; simp) hq
  have hx : l[i]? = some l[i] := List.getElem?_eq_getElem hi
  show body ((l.take i).map g, i) = _
  rw [h1 i l[i] _ hx (by simp; omega) hi (List.getElem_mem hi)]
  rw [take_map_succ l g hi]
/-- A list is changed, element by element. -/
theorem loop_set {α : Type} (l : List α) (g : α → α) {body : List α × Nat → Option (Xt (List α × Nat) (List α))} (h1 : ∀ i x (s : List α), s[i]? = some x → s.length = l.length → i < l.length → x ∈ l → body (s, i) = some (.go (s.set i (g x), i + 1))) (h2 : ∀ s : List α, s.length = l.length → body (s, l.length) = some (.out s)) (hq : l.length < 18446744073709551616) : loop body Fu (l, 0) = some (l.map g) := by
  refine loop_at (fun i => ((l.take i).map g ++ l.drop i, i)) l.length _ (by simp) (fun i hi => ?_) (by rw [h2 _ (by simp)]; simp) hq
  have hx : ((l.take i).map g ++ l.drop i)[i]? = some l[i] := by
    rw [List.getElem?_append_right (by simp; omega)]
    simp [Nat.min_eq_left (Nat.le_of_lt hi)]
  show body ((l.take i).map g ++ l.drop i, i) = _
  rw [h1 i l[i] _ hx (by simp; omega) hi (List.getElem_mem hi)]
  rw [take_map_succ l g hi, drop_set l _ _ hi (by simp; omega)]
/-- The same, with a number of Go's. -/
theorem loop_setI {α : Type} (l : List α) (g : α → α) {body : List α × Int → Option (Xt (List α × Int) (List α))} (h1 : ∀ (i : Nat) x (s : List α), s[i]? = some x → s.length = l.length → i < l.length → x ∈ l → body (s, (i : Int)) = some (.go (s.set i (g x), ((i + 1 : Nat) : Int)))) (h2 : ∀ s : List α, s.length = l.length → body (s, (l.length : Int)) = some (.out s)) (hq : l.length < 18446744073709551616) : loop body Fu (l, 0) = some (l.map g) := by
  refine loop_at (fun i => ((l.take i).map g ++ l.drop i, (i : Int))) l.length _ (by simp) (fun i hi => ?_) (by rw [h2 _ (by simp)]; simp) hq
  have hx : ((l.take i).map g ++ l.drop i)[i]? = some l[i] := by
    rw [List.getElem?_append_right (by simp; omega)]
    simp [Nat.min_eq_left (Nat.le_of_lt hi)]
  show body ((l.take i).map g ++ l.drop i, (i : Int)) = _
  rw [h1 i l[i] _ hx (by simp; omega) hi (List.getElem_mem hi)]
  rw [take_map_succ l g hi, drop_set l _ _ hi (by simp; omega)]
theorem wrap_nat {n : Nat} (h : n < 9223372036854775808) : IntKind.i64.wrap (n : Int) = (n : Int) := by
  simp [IntKind.wrap, IntKind.bits, IntKind.signed]
  omega
theorem wrap_inc {n : Nat} (h : n < 9223372036854775807) : IntKind.i64.wrap ((n : Int) + 1) = ((n + 1 : Nat) : Int) := by
  have := wrap_nat (n := n + 1) (by omega)
  rwa [Int.natCast_add] at this
theorem atI_nat {α : Type} (l : List α) (n : Nat) : atI l (n : Int) = l[n]? := by simp [atI]
theorem ck_t {α : Type} {p : Prop} [Decidable p] {k : Option α} (h : p) : ck p k = k := if_pos h
end Go.Proofs.YtbebdcpakjfgdaaDoor


/- What a step, an end, a function comes to that is one's own: the program's and the document's copies. -/
namespace Go.Proofs.YtbebdcpakjfgdaaDoor
open Go Go.RowKit

theorem bif_some {α : Type} {b : Bool} {x y : α} : (bif b then some x else some y) = some (bif b then x else y) := by cases b <;> rfl
theorem clone_eq {l : List Int} (h : l.length ≤ 400) : p_slices_Clone_int_int l = some l := by
  unfold p_slices_Clone_int_int nilC
  rw [ck_t (by omega)]
  split
  · rename_i e
    have : l = [] := by simpa using e
    subst this
    rfl
  · rfl
def fb (k : Int) : ByteArray := if k < 0 ∨ 26 ≤ k then ⟨#[]⟩ else (fldT[k.toNat]?).getD ⟨#[]⟩
theorem fb_out {k : Int} (h : k < 0 ∨ 26 ≤ k) : fb k = ⟨#[]⟩ := if_pos h
theorem in_range (k : Int) : (k < 0 ∨ 26 ≤ k) ∨ k = 0 ∨ k = 1 ∨ k = 2 ∨ k = 3 ∨ k = 4 ∨ k = 5 ∨ k = 6 ∨ k = 7 ∨ k = 8 ∨ k = 9 ∨ k = 10 ∨ k = 11 ∨ k = 12 ∨ k = 13 ∨ k = 14 ∨ k = 15 ∨ k = 16 ∨ k = 17 ∨ k = 18 ∨ k = 19 ∨ k = 20 ∨ k = 21 ∨ k = 22 ∨ k = 23 ∨ k = 24 ∨ k = 25 := by omega
theorem fin_range {k : Int} (h : ¬ (k < 0 ∨ 26 ≤ k)) : ∃ n : Fin 26, k = (n.val : Int) := ⟨⟨k.toNat, by omega⟩, by simp; omega⟩
set_option maxRecDepth 100000 in
theorem fieldsOf_fin : ∀ n : Fin 26, p_kind_fieldsOf (n.val : Int) = some (fb (n.val : Int)) := by decide +kernel
set_option maxRecDepth 100000 in
theorem fields_fin : ∀ n : Fin 26, p_R04_Fields (n.val : Int) = some (fb (n.val : Int)) := by decide +kernel
theorem fieldsOf_eq (k : Int) : p_kind_fieldsOf k = some (fb k) := by
  by_cases h : k < 0 ∨ 26 ≤ k
  · rw [fb_out h]
    unfold p_kind_fieldsOf
    rcases h with h | h
    · simp [h]
    · have : ¬ k < 0 := by omega
      simp [h, this]
  · obtain ⟨n, rfl⟩ := fin_range h
    exact fieldsOf_fin n
theorem fields_eq (k : Int) : p_R04_Fields k = some (fb k) := by
  by_cases h : k < 0 ∨ 26 ≤ k
  · rw [fb_out h]
    have hne : ∀ c : Int, 0 ≤ c → c < 26 → decide (k = c) = false := fun c h1 h2 => by simp; omega
    unfold p_R04_Fields
    simp only [hne 0 (by decide) (by decide), hne 1 (by decide) (by decide), hne 2 (by decide) (by decide), hne 3 (by decide) (by decide), hne 4 (by decide) (by decide), hne 5 (by decide) (by decide), hne 6 (by decide) (by decide), hne 7 (by decide) (by decide), hne 8 (by decide) (by decide), hne 9 (by decide) (by decide), hne 10 (by decide) (by decide), hne 11 (by decide) (by decide), hne 12 (by decide) (by decide), hne 13 (by decide) (by decide), hne 14 (by decide) (by decide), hne 15 (by decide) (by decide), hne 16 (by decide) (by decide), hne 17 (by decide) (by decide), hne 18 (by decide) (by decide), hne 19 (by decide) (by decide), hne 20 (by decide) (by decide), hne 21 (by decide) (by decide), hne 22 (by decide) (by decide), hne 23 (by decide) (by decide), hne 24 (by decide) (by decide), hne 25 (by decide) (by decide), cond_false, Option.bind_some]
  · obtain ⟨n, rfl⟩ := fin_range h
    exact fields_fin n
def hasB (k c : Int) : Bool := (fb k).data.toList.any fun b => decide (((b.toNat : Nat) : Int) = c)
def ltrs : List Int := [65, 66, 67, 75, 76, 78, 83]
set_option maxRecDepth 100000 in
theorem has_fin : ∀ n : Fin 26, ∀ c ∈ ltrs, p_R04_Has (n.val : Int) c = some (hasB (n.val : Int) c) := by decide +kernel
theorem hasB_out {k : Int} (h : k < 0 ∨ 26 ≤ k) (c : Int) : hasB k c = false := by
  unfold hasB
  rw [fb_out h]
  rfl
theorem has_eq (k c : Int) (hc : c ∈ ltrs) : p_R04_Has k c = some (hasB k c) := by
  by_cases h : k < 0 ∨ 26 ≤ k
  · rw [hasB_out h]
    unfold p_R04_Has
    rw [fields_eq, fb_out h]
    rfl
  · obtain ⟨n, rfl⟩ := fin_range h
    exact has_fin n c hc
/-- A step, without what plays no part. -/
def plO (o : MOp) : MOp := ⟨o.K, bif hasB o.K 65 then o.A else 0, bif hasB o.K 66 then o.B else 0, bif hasB o.K 67 then o.C else 0, bif hasB o.K 78 then o.N else 0, bif hasB o.K 83 then o.S else ⟨#[]⟩, bif hasB o.K 76 then o.L else [], bif hasB o.K 75 then o.Stack else false⟩
theorem plainR_eq {o : MOp} (h : o.L.length ≤ 400) : p_R04_Plain o = some (plO o) := by
  unfold p_R04_Plain
  simp only [has_eq o.K 78 (by decide), has_eq o.K 83 (by decide), has_eq o.K 65 (by decide), has_eq o.K 66 (by decide), has_eq o.K 67 (by decide), has_eq o.K 76 (by decide), has_eq o.K 75 (by decide), Option.bind_some, ck_t (show o.L.length * 8 ≤ 140737488355328 by omega), bif_some]
  rfl
set_option maxRecDepth 100000 in
set_option maxHeartbeats 2000000 in
theorem plainP_eq {o : MOp} (h : o.L.length ≤ 400) : p_kind_plain o = some (plO o) := by
  obtain ⟨K, A, B, C, N, S, L, T⟩ := o
  have hcl := clone_eq h
  unfold p_kind_plain
  simp only at hcl
  simp only [fieldsOf_eq, Option.bind_some, hcl]
  rcases in_range K with h0 | rfl | rfl | rfl | rfl | rfl | rfl | rfl | rfl | rfl | rfl | rfl | rfl | rfl | rfl | rfl | rfl | rfl | rfl | rfl | rfl | rfl | rfl | rfl | rfl | rfl | rfl
  · simp only [plO, hasB, fb_out h0]
    refine (?_ : _ = _)
    kernel_rfl
  all_goals
    refine (?_ : _ = _)
    kernel_rfl
theorem plainP2_eq {o : MOp} (h : o.L.length ≤ 400) : p_kind_Plain o = some (plO o) := by
  unfold p_kind_Plain
  rw [plainP_eq h]
  rfl
/-- An end, without what plays no part. -/
def plE (e : MEnd) : MEnd := ⟨e.K, bif decide (e.K = 1) || (decide (e.K = 2) || decide (e.K = 3)) then e.A else 0, bif decide (e.K = 0) || decide (e.K = 1) then e.To else 0, bif decide (e.K = 1) then e.Else else 0, bif decide (e.K = 0) || decide (e.K = 1) then e.L else [], bif decide (e.K = 1) then e.M else []⟩
theorem endP_eq {e : MEnd} (hL : e.L.length ≤ 400) (hM : e.M.length ≤ 400) : p_code_ownEnd e = some (plE e) := by
  unfold p_code_ownEnd plE
  rw [clone_eq hL, clone_eq hM]
  cases decide (e.K = 0) <;> cases decide (e.K = 1) <;> cases decide (e.K = 2) <;> cases decide (e.K = 3) <;> rfl
theorem endR_eq {e : MEnd} (hL : e.L.length ≤ 400) (hM : e.M.length ≤ 400) : p_R05_End e = some (plE e) := by
  unfold p_R05_End plE
  rw [ck_t (by omega), ck_t (by omega)]
  have h13 : (bif decide ((1 : Int) ≤ e.K) then some (decide (e.K ≤ 3)) else some false) = some (decide (e.K = 1) || (decide (e.K = 2) || decide (e.K = 3))) := by
    by_cases h1 : (1 : Int) ≤ e.K
    · by_cases h3 : e.K ≤ 3
      · have : e.K = 1 ∨ e.K = 2 ∨ e.K = 3 := by omega
        rcases this with h | h | h <;> simp [h]
      · have e1 : ¬ e.K = 1 := by omega
        have e2 : ¬ e.K = 2 := by omega
        have e3 : ¬ e.K = 3 := by omega
        simp [h1, h3, e1, e2, e3]
    · have e1 : ¬ e.K = 1 := by omega
      have e2 : ¬ e.K = 2 := by omega
      have e3 : ¬ e.K = 3 := by omega
      simp [h1, e1, e2, e3]
  rw [h13]
  cases decide (e.K = 0) <;> cases decide (e.K = 1) <;> cases decide (e.K = 2) <;> cases decide (e.K = 3) <;> rfl
def plB (b : MBlk) : MBlk := ⟨b.Params, b.Ops.map plO, plE b.End⟩
def plF (f : MFun) : MFun := ⟨f.Ret, f.Blocks.map plB⟩
/-- It isn't great. -/
structure SzB (b : MBlk) : Prop where
  p : b.Params.length ≤ 400
  o : b.Ops.length ≤ 400
  l : b.End.L.length ≤ 400
  m : b.End.M.length ≤ 400
  os : ∀ o ∈ b.Ops, o.L.length ≤ 400
structure SzF (f : MFun) : Prop where
  b : f.Blocks.length ≤ 400
  bs : ∀ b ∈ f.Blocks, SzB b
theorem ownP_eq {f : MFun} (h : SzF f) : p_tidy_own f = some (plF f) := by
  have hops : ∀ (b : MBlk), SzB b → loop (fun (s : (List MOp) × Nat) => (bif decide (s.2 < b.Ops.length) then ((b.Ops[s.2]?).bind fun x => ((p_kind_Plain x).bind fun y => (ck ((s.1.length + 1) * 88 ≤ 140737488355328) (some (Xt.go ((s.1 ++ [y]), (s.2 + 1))))))) else some (Xt.out s.1))) Fu ([], 0) = some (b.Ops.map plO) := fun b hb => by
    refine loop_push b.Ops plO (fun i x acc hx ha hi hm => ?_) (fun acc => by simp) (by have := hb.o; omega)
    have := hb.o
    simp only [hi, decide_true, cond_true, hx, Option.bind_some, plainP2_eq (hb.os x hm)]
    rw [ck_t (by omega)]
  have hbl : loop (fun (s12049 : (List MBlk) × Nat) => (bif decide (s12049.2 < f.Blocks.length) then ((((f.Blocks[s12049.2]?).bind fun x12058 => ((p_slices_Clone_int_int x12058.Params).bind fun y12060 => ((p_code_ownEnd x12058.End).bind fun y12062 => (((loop (fun (s : (List MOp) × Nat) => (bif decide (s.2 < x12058.Ops.length) then ((x12058.Ops[s.2]?).bind fun x => ((p_kind_Plain x).bind fun y => (ck ((s.1.length + 1) * 88 ≤ 140737488355328) (some (Xt.go ((s.1 ++ [y]), (s.2 + 1))))))) else some (Xt.out s.1))) Fu ([], 0))).bind fun (s12065 : (List MOp)) => (ck ((s12049.1.length + 1) * 128 ≤ 140737488355328) (some (s12049.1 ++ [(⟨y12060, s12065, y12062⟩ : MBlk)])))))))).bind fun (s12056 : (List MBlk)) => some (Xt.go (s12056, (s12049.2 + 1)))) else some (Xt.out s12049.1))) Fu ([], 0) = some (f.Blocks.map plB) := by
    refine loop_push f.Blocks plB (fun i x acc hx ha hi hm => ?_) (fun acc => by simp) (by have := h.b; omega)
    have hb := h.bs x hm
    have := h.b
    simp only [hi, decide_true, cond_true, hx, Option.bind_some, clone_eq hb.p, endP_eq hb.l hb.m, hops x hb]
    rw [ck_t (by omega)]
    rfl
  have hown : p_code_own (some ⟨[], [], [f]⟩) = some (some ⟨[], [], [plF f]⟩) := by
    unfold p_code_own optC
    simp only
    rw [show ∀ (b : (List MSig) × Nat → Option (Xt ((List MSig) × Nat) (List MSig))), b ([], 0) = some (.out []) → loop b Fu ([], 0) = some [] from fun b hb => loop_at (fun _ => ([], 0)) 0 [] rfl (fun i hi => by omega) hb (by omega)] <;> try rfl
    simp only [Option.bind_some]
    rw [show ∀ (b : (List MCls) × Nat → Option (Xt ((List MCls) × Nat) (List MCls))), b ([], 0) = some (.out []) → loop b Fu ([], 0) = some [] from fun b hb => loop_at (fun _ => ([], 0)) 0 [] rfl (fun i hi => by omega) hb (by omega)] <;> try rfl
    simp only [Option.bind_some]
    rw [loop_push [f] plF (fun i x acc hx ha hi hm => ?_) (fun acc => by simp) (by simp)]
    · rfl
    · obtain rfl : x = f := by simpa using hm
      have hi' : i = 0 := by simpa using hi
      subst hi'
      simp only [hi, decide_true, cond_true, hx, Option.bind_some]
      rw [hbl]
      have : acc = [] := List.eq_nil_of_length_eq_zero ha
      subst this
      rfl
  unfold p_tidy_own p_code_Copy
  simp only [optC, hown, Option.bind_some]
  rfl
end Go.Proofs.YtbebdcpakjfgdaaDoor


/- The document's copy; other names of values. -/
namespace Go.Proofs.YtbebdcpakjfgdaaDoor
open Go Go.RowKit

theorem ownR_eq {f : MFun} (h : SzF f) : p_R16_Own f = some (plF f) := by
  have hops : ∀ (b : MBlk), SzB b → loop (fun (s : (List MOp) × Nat) => (bif decide (s.2 < b.Ops.length) then ((b.Ops[s.2]?).bind fun x => ((p_R04_Plain x).bind fun y => (ck ((s.1.length + 1) * 88 ≤ 140737488355328) (some (Xt.go ((s.1 ++ [y]), (s.2 + 1))))))) else some (Xt.out s.1))) Fu ([], 0) = some (b.Ops.map plO) := fun b hb => by
    refine loop_push b.Ops plO (fun i x acc hx ha hi hm => ?_) (fun acc => by simp) (by have := hb.o; omega)
    have := hb.o
    simp only [hi, decide_true, cond_true, hx, Option.bind_some, plainR_eq (hb.os x hm)]
    rw [ck_t (by omega)]
  have hbl : loop (fun (s12046 : (List MBlk) × Nat) => (bif decide (s12046.2 < f.Blocks.length) then ((((f.Blocks[s12046.2]?).bind fun x12055 => (ck (x12055.Params.length * 8 ≤ 140737488355328) (((p_R05_End x12055.End).bind fun y12058 => (((loop (fun (s : (List MOp) × Nat) => (bif decide (s.2 < x12055.Ops.length) then ((x12055.Ops[s.2]?).bind fun x => ((p_R04_Plain x).bind fun y => (ck ((s.1.length + 1) * 88 ≤ 140737488355328) (some (Xt.go ((s.1 ++ [y]), (s.2 + 1))))))) else some (Xt.out s.1))) Fu ([], 0))).bind fun (s12061 : (List MOp)) => (ck ((s12046.1.length + 1) * 128 ≤ 140737488355328) (some (s12046.1 ++ [(⟨x12055.Params, s12061, y12058⟩ : MBlk)]))))))))).bind fun (s12053 : (List MBlk)) => some (Xt.go (s12053, (s12046.2 + 1)))) else some (Xt.out s12046.1))) Fu ([], 0) = some (f.Blocks.map plB) := by
    refine loop_push f.Blocks plB (fun i x acc hx ha hi hm => ?_) (fun acc => by simp) (by have := h.b; omega)
    have hb := h.bs x hm
    have := h.b
    have hp := hb.p
    simp only [hi, decide_true, cond_true, hx, Option.bind_some, endR_eq hb.l hb.m, hops x hb]
    rw [ck_t (by omega), ck_t (by omega)]
    rfl
  have hown : p_R05_Own (some ⟨[], [], [f]⟩) = some (some ⟨[], [], [plF f]⟩) := by
    unfold p_R05_Own optC
    simp only
    rw [show ∀ (b : (List MSig) × Nat → Option (Xt ((List MSig) × Nat) (List MSig))), b ([], 0) = some (.out []) → loop b Fu ([], 0) = some [] from fun b hb => loop_at (fun _ => ([], 0)) 0 [] rfl (fun i hi => by omega) hb (by omega)] <;> try rfl
    simp only [Option.bind_some]
    rw [show ∀ (b : (List MCls) × Nat → Option (Xt ((List MCls) × Nat) (List MCls))), b ([], 0) = some (.out []) → loop b Fu ([], 0) = some [] from fun b hb => loop_at (fun _ => ([], 0)) 0 [] rfl (fun i hi => by omega) hb (by omega)] <;> try rfl
    simp only [Option.bind_some]
    rw [loop_push [f] plF (fun i x acc hx ha hi hm => ?_) (fun acc => by simp) (by simp)]
    · rfl
    · obtain rfl : x = f := by simpa using hm
      have hi' : i = 0 := by simpa using hi
      subst hi'
      simp only [hi, decide_true, cond_true, hx, Option.bind_some]
      rw [hbl]
      have : acc = [] := List.eq_nil_of_length_eq_zero ha
      subst this
      rfl
  unfold p_R16_Own
  simp only [hown, Option.bind_some]
  rfl
/-- A value's name. -/
def toF (to : List Int) (v : Int) : Int := bif decide ((0 : Int) ≤ v) && decide (v < ((to.length : Nat) : Int)) then (to[v.toNat]?).getD 0 else v
theorem to_eq (v : Int) (to : List Int) : p_R04_To v to = some (toF to v) := by
  unfold p_R04_To toF
  by_cases h0 : (0 : Int) ≤ v
  · by_cases h1 : v < ((to.length : Nat) : Int)
    · have hl : v.toNat < to.length := by omega
      simp [h0, h1, atI, hl]
    · simp [h0, h1]
  · simp [h0]
theorem named_eq (v : Int) (to : List Int) : p_tidy_named_1 v to = some (toF to v) := to_eq v to
theorem all_eq {l : List Int} (to : List Int) (h : l.length ≤ 400) : p_R04_All l to = some (l.map (toF to)) := by
  unfold p_R04_All
  rw [loop_push l (toF to) (fun i x acc hx ha hi hm => ?_) (fun acc => by simp) (by omega)]
  · rfl
  · simp only [hi, decide_true, cond_true, hx, Option.bind_some, to_eq]
    rw [ck_t (by omega)]
theorem names_eq {l : List Int} (to : List Int) (h : l.length ≤ 400) : p_tidy_end_1 l to = some (l.map (toF to)) := by
  unfold p_tidy_end_1
  simp only [clone_eq h, Option.bind_some]
  rw [loop_setI l (toF to) (fun i x s hx hs hi hm => ?_) (fun s hs => by simp) (by omega)]
  · rfl
  · have hlt : ((i : Nat) : Int) < ((l.length : Nat) : Int) := by omega
    simp only [hlt, decide_true, cond_true, atI_nat, hx, Option.bind_some, named_eq, Int.toNat_natCast, wrap_inc (show i < 9223372036854775807 by omega)]
/-- A step with other names. -/
def reO (to : List Int) (o : MOp) : MOp := ⟨o.K, bif hasB o.K 65 then toF to o.A else o.A, bif hasB o.K 66 then toF to o.B else o.B, bif hasB o.K 67 then toF to o.C else o.C, o.N, o.S, bif hasB o.K 76 then o.L.map (toF to) else o.L, o.Stack⟩
theorem bif_len {α : Type} {b : Bool} {l m : List α} {n : Nat} (hl : l.length ≤ n) (hm : m.length ≤ n) : (bif b then l else m).length ≤ n := by cases b <;> assumption
theorem plO_L {o : MOp} (h : o.L.length ≤ 400) : (plO o).L.length ≤ 400 := bif_len h (by simp)
theorem renR_eq {o : MOp} (to : List Int) (h : o.L.length ≤ 400) : p_R04_Renamed o to = some (reO to (plO o)) := by
  unfold p_R04_Renamed
  simp only [plainR_eq h, Option.bind_some, has_eq _ 65 (by decide), has_eq _ 66 (by decide), has_eq _ 67 (by decide), has_eq _ 76 (by decide), to_eq, all_eq to (plO_L h), bif_some]
  rfl
set_option maxRecDepth 100000 in
theorem idx_fin : ∀ n : Fin 26, ∀ c ∈ ([65, 66, 67] : List Int), (p_strings_IndexByte (fb (n.val : Int)) c).map (fun z => decide ((0 : Int) ≤ z)) = some (hasB (n.val : Int) c) := by decide +kernel
theorem idx_eq (k c : Int) (hc : c ∈ ([65, 66, 67] : List Int)) : ∃ z, p_strings_IndexByte (fb k) c = some z ∧ decide ((0 : Int) ≤ z) = hasB k c := by
  have key : (p_strings_IndexByte (fb k) c).map (fun z => decide ((0 : Int) ≤ z)) = some (hasB k c) := by
    by_cases h : k < 0 ∨ 26 ≤ k
    · rw [hasB_out h, fb_out h]
      simp only [List.mem_cons, List.not_mem_nil, or_false] at hc
      rcases hc with rfl | rfl | rfl <;> rfl
    · obtain ⟨n, rfl⟩ := fin_range h
      exact idx_fin n c hc
  cases hz : p_strings_IndexByte (fb k) c with
  | none => rw [hz] at key; cases key
  | some z => rw [hz] at key; exact ⟨z, rfl, by simpa using key⟩
/-- The places of a step's values, one by one. -/
theorem operands_eq {σ ρ : Type} (K : Int) (n : Nat) (hn : n < 18446744073709551616) (body : σ → Nat → Option (Xt σ ρ)) (g : σ → Nat → σ) (s0 : σ) (Inv : σ → Prop) (hi0 : Inv s0) (h' : ∀ s y, Inv s → y < n + 3 → body s y = some (.go (g s y)) ∧ Inv (g s y)) :
    p_kind_operands_1_i K n body s0 = some (.go ((List.range n).foldl (fun s i => g s (i + 3)) (let s1 := bif hasB K 65 then g s0 0 else s0; let s2 := bif hasB K 66 then g s1 1 else s1; bif hasB K 67 then g s2 2 else s2))) := by
  unfold p_kind_operands_1_i
  obtain ⟨z0, hz0, hh0⟩ := idx_eq K 65 (by decide)
  obtain ⟨z1, hz1, hh1⟩ := idx_eq K 66 (by decide)
  obtain ⟨z2, hz2, hh2⟩ := idx_eq K 67 (by decide)
  simp only [fieldsOf_eq, Option.bind_some]
  have hb : ∀ {b : Bool} {x y : σ}, Inv x → Inv y → Inv (bif b then x else y) := fun {b x y} hx hy => by cases b <;> assumption
  have i1 : Inv (bif hasB K 65 then g s0 0 else s0) := hb (h' _ 0 hi0 (by omega)).2 hi0
  have i2 : Inv (bif hasB K 66 then g (bif hasB K 65 then g s0 0 else s0) 1 else bif hasB K 65 then g s0 0 else s0) := hb (h' _ 1 i1 (by omega)).2 i1
  let st : Nat → σ := fun i => match i with
    | 0 => s0
    | 1 => bif hasB K 65 then g s0 0 else s0
    | 2 => let s1 := bif hasB K 65 then g s0 0 else s0; bif hasB K 66 then g s1 1 else s1
    | _ => let s1 := bif hasB K 65 then g s0 0 else s0; let s2 := bif hasB K 66 then g s1 1 else s1; bif hasB K 67 then g s2 2 else s2
  have i3 : Inv (st 3) := hb (h' _ 2 i2 (by omega)).2 i2
  have hf : ∀ i, i ≤ n → Inv ((List.range i).foldl (fun s i => g s (i + 3)) (st 3)) := fun i => by
    induction i with
    | zero => exact fun _ => i3
    | succ i ih =>
      intro hi
      rw [List.range_succ, List.foldl_append]
      exact (h' _ _ (ih (by omega)) (by omega)).2
  rw [loop_at (s := (0, s0)) (fun i => (i, st i)) 3 (.go (st 3)) rfl (fun i hi => ?_) rfl (by omega)]
  · simp only [Option.bind_some, Xt.on]
    rw [loop_at (s := (0, st 3)) (fun i => (i, (List.range i).foldl (fun s i => g s (i + 3)) (st 3))) n (.go ((List.range n).foldl (fun s i => g s (i + 3)) (st 3))) rfl (fun i hi => ?_) (by simp) hn]
    · rfl
    · simp only [hi, decide_true, cond_true, ck_t, Option.bind_some]
      rw [(h' _ _ (hf i (by omega)) (by omega)).1]
      simp only [Option.bind_some, Xt.on, List.range_succ, List.foldl_append, List.foldl_cons, List.foldl_nil]
  · have hi' : i = 0 ∨ i = 1 ∨ i = 2 := by omega
    rcases hi' with rfl | rfl | rfl
    · have e : (((65 : UInt8).toNat : Nat) : Int) = 65 := rfl
      show (((p_strings_IndexByte (fb K) (((65 : UInt8).toNat : Nat) : Int)).bind fun y => bif decide ((0 : Int) ≤ y) then ((body s0 0).bind fun z => (z.on (fun s => some (Xt.go s)) (fun o => some (Xt.out (Xt.out o))))) else some (Xt.go s0)).bind fun s => s.on (fun (s' : σ) => some (Xt.go ((0 + 1), s'))) (fun o => some (Xt.out (Xt.out o)))) = _
      rw [e, hz0, Option.bind_some, hh0, (h' s0 0 hi0 (by omega)).1]
      cases hb : hasB K 65 <;> simp [Xt.on, st, hb]
    · have e : (((66 : UInt8).toNat : Nat) : Int) = 66 := rfl
      show (((p_strings_IndexByte (fb K) (((66 : UInt8).toNat : Nat) : Int)).bind fun y => bif decide ((0 : Int) ≤ y) then ((body (st 1) 1).bind fun z => (z.on (fun s => some (Xt.go s)) (fun o => some (Xt.out (Xt.out o))))) else some (Xt.go (st 1))).bind fun s => s.on (fun (s' : σ) => some (Xt.go ((1 + 1), s'))) (fun o => some (Xt.out (Xt.out o)))) = _
      rw [e, hz1, Option.bind_some, hh1, (h' (st 1) 1 i1 (by omega)).1]
      cases hb : hasB K 66 <;> simp [Xt.on, st, hb]
    · have e : (((67 : UInt8).toNat : Nat) : Int) = 67 := rfl
      show (((p_strings_IndexByte (fb K) (((67 : UInt8).toNat : Nat) : Int)).bind fun y => bif decide ((0 : Int) ≤ y) then ((body (st 2) 2).bind fun z => (z.on (fun s => some (Xt.go s)) (fun o => some (Xt.out (Xt.out o))))) else some (Xt.go (st 2))).bind fun s => s.on (fun (s' : σ) => some (Xt.go ((2 + 1), s'))) (fun o => some (Xt.out (Xt.out o)))) = _
      rw [e, hz2, Option.bind_some, hh2, (h' (st 2) 2 i2 (by omega)).1]
      cases hb : hasB K 67 <;> simp [Xt.on, st, hb]
end Go.Proofs.YtbebdcpakjfgdaaDoor


/- A function with other names of its values: the program's, the document's. -/
namespace Go.Proofs.YtbebdcpakjfgdaaDoor
open Go Go.RowKit

theorem set_fold (f : Int → Int) (l : List Int) : ∀ (n : Nat), n ≤ l.length → (List.range n).foldl (fun (m : List Int) i => m.set i (f ((m[i]?).getD 0))) l = (l.take n).map f ++ l.drop n
  | 0, _ => by simp
  | n + 1, h => by
    rw [List.range_succ, List.foldl_append, set_fold f l n (by omega)]
    have hn : n < l.length := h
    have hx : ((l.take n).map f ++ l.drop n)[n]? = some l[n] := by
      rw [List.getElem?_append_right (by simp; omega)]
      simp [Nat.min_eq_left (Nat.le_of_lt hn)]
    simp only [List.foldl_cons, List.foldl_nil, hx, Option.getD_some]
    rw [take_map_succ l f hn, drop_set l _ _ hn (by simp; omega)]
/-- A value gets its name, in its place. -/
theorem ren1 {σ ρ : Type} (to : List Int) (v : Int) (k : Int → σ) (s : σ) (hs : s = k v) : ((bif decide ((0 : Int) ≤ v) then some (decide (v < ((to.length : Nat) : Int))) else some false).bind fun b => bif b then ((atI to v).bind fun x => some (Xt.go (k x) : Xt σ ρ)) else some (Xt.go s)) = some (Xt.go (k (toF to v))) := by
  subst hs
  unfold toF
  by_cases h0 : (0 : Int) ≤ v
  · by_cases h1 : v < ((to.length : Nat) : Int)
    · have hl : v.toNat < to.length := by omega
      simp [h0, h1, atI, hl]
    · simp [h0, h1]
  · simp [h0]
theorem renP_eq {o : MOp} (to : List Int) (h : o.L.length ≤ 400) : p_kind_Renamed o to = some (reO to (plO o)) := by
  have hL := plO_L h
  have hLe : hasB o.K 76 = false → (plO o).L = [] := fun e => by
    unfold plO
    rw [e]
    rfl
  have hK : (plO o).K = o.K := rfl
  have hre : reO to (plO o) = ⟨(plO o).K, bif hasB (plO o).K 65 then toF to (plO o).A else (plO o).A, bif hasB (plO o).K 66 then toF to (plO o).B else (plO o).B, bif hasB (plO o).K 67 then toF to (plO o).C else (plO o).C, (plO o).N, (plO o).S, (plO o).L.map (toF to), (plO o).Stack⟩ := by
    unfold reO
    cases hh : hasB o.K 76 with
    | false =>
      have := hLe hh
      simp [hK, hh, this]
    | true => simp [hK, hh]
  rw [hre]
  unfold p_kind_Renamed
  simp only [plainP_eq h, Option.bind_some]
  generalize plO o = y at hL
  rw [operands_eq y.K y.L.length (by omega) _ (fun (s : Int × Int × Int × (List Int)) j => placeC j (toF to s.1, s.2.1, s.2.2.1, s.2.2.2) (s.1, toF to s.2.1, s.2.2.1, s.2.2.2) (s.1, s.2.1, toF to s.2.2.1, s.2.2.2) (fun i => (s.1, s.2.1, s.2.2.1, s.2.2.2.set i (toF to ((s.2.2.2[i]?).getD 0))))) (y.A, y.B, y.C, y.L) (fun s => s.2.2.2.length = y.L.length) rfl ?_]
  · have hfold : ∀ (a b c : Int) (m : List Int) (n : Nat), (List.range n).foldl (fun (s : Int × Int × Int × (List Int)) i => (s.1, s.2.1, s.2.2.1, s.2.2.2.set i (toF to ((s.2.2.2[i]?).getD 0)))) (a, b, c, m) = (a, b, c, (List.range n).foldl (fun (m : List Int) i => m.set i (toF to ((m[i]?).getD 0))) m) := fun a b c m n => by
      induction n with
      | zero => rfl
      | succ n ih =>
        rw [List.range_succ, List.foldl_append, List.foldl_append, ih]
        rfl
    have hset := set_fold (toF to) y.L y.L.length (Nat.le_refl _)
    rw [List.take_length, List.drop_length, List.append_nil] at hset
    cases h65 : hasB y.K 65 <;> cases h66 : hasB y.K 66 <;> cases h67 : hasB y.K 67 <;> simp only [cond_true, cond_false, placeC, Option.bind_some, Xt.on] <;> rw [hfold] <;> simp only [hset] <;> rw [ck_t (by simp)]
  · rintro ⟨a, b, c, m⟩ j hm hj
    have hm' : m.length = y.L.length := hm
    rcases plC4 j with rfl | rfl | rfl | ⟨i, rfl⟩
    · exact ⟨ren1 to a (fun x => (x, b, c, m)) _ rfl, hm⟩
    · exact ⟨ren1 to b (fun x => (a, x, c, m)) _ rfl, hm⟩
    · exact ⟨ren1 to c (fun x => (a, b, x, m)) _ rfl, hm⟩
    · have hi : i < m.length := by omega
      refine ⟨?_, by simpa [placeC] using hm⟩
      have hx : m[i]? = some m[i] := List.getElem?_eq_getElem hi
      show ck (i < m.length) (((m[i]?).bind fun x => (bif decide ((0 : Int) ≤ x) then some (decide (x < ((to.length : Nat) : Int))) else some false)).bind fun b' => bif b' then ((m[i]?).bind fun x => ((atI to x).bind fun x' => some (Xt.go (a, b, c, m.set i x')))) else some (Xt.go (a, b, c, m))) = some (Xt.go (a, b, c, m.set i (toF to ((m[i]?).getD 0))))
      rw [ck_t hi, hx]
      simp only [Option.bind_some, Option.getD_some]
      exact ren1 to m[i] (fun x => (a, b, c, m.set i x)) (a, b, c, m) (by simp)
end Go.Proofs.YtbebdcpakjfgdaaDoor


/- A function with other names of its values: program and document come to the same. -/
namespace Go.Proofs.YtbebdcpakjfgdaaDoor
open Go Go.RowKit

theorem plE_sz {e : MEnd} (hL : e.L.length ≤ 400) (hM : e.M.length ≤ 400) : (plE e).L.length ≤ 400 ∧ (plE e).M.length ≤ 400 := ⟨bif_len hL (by simp), bif_len hM (by simp)⟩
theorem plB_sz {b : MBlk} (h : SzB b) : SzB (plB b) where
  p := h.p
  o := by simpa [plB] using h.o
  l := (plE_sz h.l h.m).1
  m := (plE_sz h.l h.m).2
  os := fun o ho => by
    obtain ⟨o', h1, rfl⟩ := List.mem_map.1 ho
    exact plO_L (h.os o' h1)
theorem plF_sz {f : MFun} (h : SzF f) : SzF (plF f) where
  b := by simpa [plF] using h.b
  bs := fun b hb => by
    obtain ⟨b', h1, rfl⟩ := List.mem_map.1 hb
    exact plB_sz (h.bs b' h1)
theorem innerP (to : List Int) (s : List MBlk) (i : Nat) (x : MBlk) (hi : i < s.length) (hx : SzB x) : loop (fun (s21084 : (List MBlk) × Int) => (bif decide (s21084.2 < ((x.Ops.length : Nat) : Int)) then ((s21084.1[i]?).bind fun x21089 => ((x21089.Ops[s21084.2.toNat]?).bind fun x21091 => ((atI x21089.Ops s21084.2).bind fun x21093 => ((p_kind_Renamed x21091 to).bind fun y21095 => some (Xt.go ((s21084.1.set i (⟨x21089.Params, (x21089.Ops.set s21084.2.toNat y21095), x21089.End⟩ : MBlk)), IntKind.i64.wrap (s21084.2 + 1))))))) else some (Xt.out s21084.1))) Fu ((s.set i x), 0) = some (s.set i ⟨x.Params, x.Ops.map (fun o => reO to (plO o)), x.End⟩) := by
  have ho := hx.o
  refine loop_at (fun k => (s.set i ⟨x.Params, (x.Ops.take k).map (fun o => reO to (plO o)) ++ x.Ops.drop k, x.End⟩, (k : Int))) x.Ops.length _ (by simp) (fun k hk => ?_) (by simp) (by omega)
  have hlt : ((k : Nat) : Int) < ((x.Ops.length : Nat) : Int) := by omega
  have hxk : ((x.Ops.take k).map (fun o => reO to (plO o)) ++ x.Ops.drop k)[k]? = some x.Ops[k] := by
    rw [List.getElem?_append_right (by simp; omega)]
    simp [Nat.min_eq_left (Nat.le_of_lt hk)]
  simp only [hlt, decide_true, cond_true, List.getElem?_set_self hi, Option.bind_some, Int.toNat_natCast, hxk, atI_nat, renP_eq to (hx.os _ (List.getElem_mem hk)), List.set_set, wrap_inc (show k < 9223372036854775807 by omega)]
  rw [take_map_succ x.Ops (fun o => reO to (plO o)) hk, drop_set x.Ops _ _ hk (by simp; omega)]
end Go.Proofs.YtbebdcpakjfgdaaDoor


/- A function is the same as itself; what isn't great. -/
namespace Go.Proofs.YtbebdcpakjfgdaaDoor
open Go Go.RowKit

theorem ints_self {l : List Int} (h : l.length ≤ 400) : p_R04_Ints l l = some true := by
  unfold p_R04_Ints
  simp only [decide_true, cond_true]
  rw [loop_at (s := 0) (fun i => i) l.length (.go ()) rfl (fun i hi => ?_) (by simp) (by omega)]
  · rfl
  · simp [hi]
theorem sameEnd_self {e : MEnd} (hL : e.L.length ≤ 400) (hM : e.M.length ≤ 400) : p_R05_sameEnd e e = some true := by
  obtain ⟨g1, g2⟩ := plE_sz hL hM
  unfold p_R05_sameEnd
  simp only [endR_eq hL hM, Option.bind_some, ints_self g1, ints_self g2, decide_true, cond_true]
theorem same_self {o : MOp} (h : o.L.length ≤ 400) : p_R04_Same o o = some true := by
  unfold p_R04_Same
  simp only [plainR_eq h, Option.bind_some, ints_self (plO_L h), decide_true, cond_true, beq_self_eq_true]
theorem sameFunc_self {f : MFun} (h : SzF f) : p_R05_SameFunc f f = some true := by
  unfold p_R05_SameFunc
  simp only [decide_true, cond_true, Bool.not_true, Option.bind_some, cond_false]
  have hb := h.b
  rw [loop_at (s := 0) (fun i => i) f.Blocks.length (.go ()) rfl (fun i hi => ?_) (by simp) (by omega)]
  · rfl
  · have hx : f.Blocks[i]? = some f.Blocks[i] := List.getElem?_eq_getElem hi
    have hm := h.bs _ (List.getElem_mem hi)
    have ho := hm.o
    simp only [hi, decide_true, cond_true, hx, Option.bind_some, ints_self hm.p, sameEnd_self hm.l hm.m, Bool.not_true, cond_false]
    rw [loop_at (s := 0) (fun i => i) (f.Blocks[i]).Ops.length (.go ()) rfl (fun k hk => ?_) (by simp) (by omega)]
    · rfl
    · have hok : (f.Blocks[i]).Ops[k]? = some (f.Blocks[i]).Ops[k] := List.getElem?_eq_getElem hk
      simp only [hk, decide_true, cond_true, hok, Option.bind_some, same_self (hm.os _ (List.getElem_mem hk))]
theorem wrap_small {i : Int} (h0 : 0 ≤ i) (h1 : i < 9223372036854775808) : IntKind.i64.wrap i = i := by
  have := wrap_nat (n := i.toNat) (by omega)
  rwa [Int.toNat_of_nonneg h0] at this
/-- A sum, till it's great. -/
theorem loop_acc {α : Type} (l : List α) (a1 : Int) {body : Int × Int → Option (Xt (Int × Int) Int)} (P : α → Prop)
    (h1 : ∀ (i : Nat) x (s : Int), l[i]? = some x → i < l.length → x ∈ l → 0 ≤ s → s ≤ a1 → ∃ s', body (s, (i : Int)) = some (.go (s', ((i + 1 : Nat) : Int))) ∧ s ≤ s' ∧ (s' ≤ a1 → P x))
    (h2 : ∀ (i : Nat) (s : Int), i ≤ l.length → (i = l.length ∨ a1 < s) → body (s, (i : Int)) = some (.out s)) (hq : l.length < 18446744073709551616) (s0 : Int) (hs : 0 ≤ s0) : ∃ r, loop body Fu (s0, 0) = some r ∧ s0 ≤ r ∧ (r ≤ a1 → ∀ x ∈ l, P x) := by
  have key : ∀ (n i : Nat) (s : Int), i ≤ l.length → l.length - i < n → 0 ≤ s → ∃ r, loop body n (s, (i : Int)) = some r ∧ s ≤ r ∧ (r ≤ a1 → ∀ x ∈ l.drop i, P x) := by
    intro n
    induction n with
    | zero => intro i s _ h; omega
    | succ n ih =>
      intro i s hi hn hs
      rw [loop_succ]
      by_cases e : i = l.length ∨ a1 < s
      · rw [h2 i s hi e]
        refine ⟨s, rfl, Int.le_refl _, fun hr x hx => ?_⟩
        rcases e with rfl | e
        · simp at hx
        · omega
      · have hil : i < l.length := by omega
        obtain ⟨s', e1, e2, e3⟩ := h1 i l[i] s (List.getElem?_eq_getElem hil) hil (List.getElem_mem hil) hs (by omega)
        rw [e1]
        obtain ⟨r, f1, f2, f3⟩ := ih (i + 1) s' hil (by omega) (by omega)
        refine ⟨r, f1, by omega, fun hr x hx => ?_⟩
        rw [List.drop_eq_getElem_cons hil] at hx
        rcases List.mem_cons.1 hx with rfl | hx
        · exact e3 (by omega)
        · exact f3 hr x hx
  obtain ⟨r, e1, e2, e3⟩ := key Fu 0 s0 (Nat.zero_le _) (by unfold Fu; omega) hs
  exact ⟨r, e1, e2, by simpa using e3⟩
structure LimB (b : MBlk) : Prop where
  p : b.Params.length ≤ 17592186044416
  o : b.Ops.length ≤ 17592186044416
  l : b.End.L.length ≤ 17592186044416
  m : b.End.M.length ≤ 17592186044416
  os : ∀ o ∈ b.Ops, o.L.length ≤ 17592186044416 ∧ o.S.size ≤ 140737488355328
structure LimF (f : MFun) : Prop where
  b : f.Blocks.length ≤ 17592186044416
  bs : ∀ b ∈ f.Blocks, LimB b
structure LimP (p : MPrg) : Prop where
  s : p.Sigs.length ≤ 17592186044416
  c : p.Classes.length ≤ 17592186044416
  f : p.Funcs.length ≤ 17592186044416
  ss : ∀ s ∈ p.Sigs, s.Params.length ≤ 17592186044416
  cs : ∀ c ∈ p.Classes, c.Fields.length ≤ 17592186044416 ∧ c.Methods.length ≤ 17592186044416
  fs : ∀ f ∈ p.Funcs, LimF f
theorem grd_t {n : Int} {i q : Nat} {a1 : Int} (hi : i < q) (hn : n ≤ a1) : (bif decide (((i : Nat) : Int) < ((q : Nat) : Int)) then some (decide (n ≤ a1)) else some false) = some true := by
  have : ((i : Nat) : Int) < ((q : Nat) : Int) := by omega
  simp [this, hn]
theorem grd_f {n : Int} {i q : Nat} {a1 : Int} (h : i = q ∨ a1 < n) (hi : i ≤ q) : (bif decide (((i : Nat) : Int) < ((q : Nat) : Int)) then some (decide (n ≤ a1)) else some false) = some false := by
  rcases h with rfl | h
  · simp
  · have hn : ¬ n ≤ a1 := by omega
    by_cases e : ((i : Nat) : Int) < ((q : Nat) : Int) <;> simp [e, hn]
theorem smallOps (x : MBlk) (hx : LimB x) (s0 : Int) (hs : 0 ≤ s0) : ∃ r, loop (fun (s15061 : Int × Int) => (((bif decide (s15061.2 < ((x.Ops.length : Nat) : Int)) then some (decide (s15061.1 ≤ 400)) else some false)).bind fun (s15066 : Bool) => (bif s15066 then ((atI x.Ops s15061.2).bind fun x15070 => some (Xt.go (IntKind.i64.wrap (IntKind.i64.wrap (s15061.1 + ((x15070.L.length : Nat) : Int)) + IntKind.i64.wrap (Int.tdiv ((x15070.S.size : Nat) : Int) 8)), IntKind.i64.wrap (s15061.2 + 1)))) else some (Xt.out s15061.1)))) Fu (s0, 0) = some r ∧ s0 ≤ r ∧ (r ≤ 400 → ∀ o ∈ x.Ops, o.L.length ≤ 400) := by
  have ho := hx.o
  refine loop_acc x.Ops 400 (fun o => o.L.length ≤ 400) (fun i o s hio hi hm h0 h1 => ?_) (fun i s hi h => ?_) (by omega) s0 hs
  · obtain ⟨g1, g2⟩ := hx.os o hm
    have hd0 : 0 ≤ Int.tdiv ((o.S.size : Nat) : Int) 8 := Int.tdiv_nonneg (by omega) (by omega)
    have hd1 : Int.tdiv ((o.S.size : Nat) : Int) 8 ≤ ((o.S.size : Nat) : Int) := by
      rw [Int.tdiv_eq_ediv_of_nonneg (by omega)]
      omega
    simp only [grd_t hi h1, Option.bind_some, cond_true, atI_nat, hio, wrap_inc (show i < 9223372036854775807 by omega)]
    rw [wrap_small hd0 (by omega), wrap_small (i := s + _) (by omega) (by omega), wrap_small (by omega) (by omega)]
    exact ⟨_, rfl, by omega, fun h => by omega⟩
  · simp only [grd_f h hi, Option.bind_some, cond_false]
theorem smallBlks (f : MFun) (hf : LimF f) (s0 : Int) (hs : 0 ≤ s0) : ∃ r, loop (fun (s12047 : Int × Int) => (((bif decide (s12047.2 < ((f.Blocks.length : Nat) : Int)) then some (decide (s12047.1 ≤ 400)) else some false)).bind fun (s12052 : Bool) => (bif s12052 then ((((atI f.Blocks s12047.2).bind fun x12059 => (loop (fun (s15061 : Int × Int) => (((bif decide (s15061.2 < ((x12059.Ops.length : Nat) : Int)) then some (decide (s15061.1 ≤ 400)) else some false)).bind fun (s15066 : Bool) => (bif s15066 then ((atI x12059.Ops s15061.2).bind fun x15070 => some (Xt.go (IntKind.i64.wrap (IntKind.i64.wrap (s15061.1 + ((x15070.L.length : Nat) : Int)) + IntKind.i64.wrap (Int.tdiv ((x15070.S.size : Nat) : Int) 8)), IntKind.i64.wrap (s15061.2 + 1)))) else some (Xt.out s15061.1)))) Fu (IntKind.i64.wrap (IntKind.i64.wrap (IntKind.i64.wrap (IntKind.i64.wrap (s12047.1 + ((x12059.Params.length : Nat) : Int)) + ((x12059.Ops.length : Nat) : Int)) + ((x12059.End.L.length : Nat) : Int)) + ((x12059.End.M.length : Nat) : Int)), 0)))).bind fun (s12057 : Int) => some (Xt.go (s12057, IntKind.i64.wrap (s12047.2 + 1)))) else some (Xt.out s12047.1)))) Fu (s0, 0) = some r ∧ s0 ≤ r ∧ (r ≤ 400 → ∀ b ∈ f.Blocks, SzB b) := by
  have hb := hf.b
  refine loop_acc f.Blocks 400 SzB (fun i x s hix hi hm h0 h1 => ?_) (fun i s hi h => ?_) (by omega) s0 hs
  · have hl := hf.bs x hm
    have g1 := hl.p
    have g2 := hl.o
    have g3 := hl.l
    have g4 := hl.m
    simp only [grd_t hi h1, Option.bind_some, cond_true, atI_nat, hix, wrap_inc (show i < 9223372036854775807 by omega)]
    rw [wrap_small (i := s + _) (by omega) (by omega), wrap_small (i := s + _ + _) (by omega) (by omega), wrap_small (i := s + _ + _ + _) (by omega) (by omega), wrap_small (by omega) (by omega)]
    obtain ⟨r, e1, e2, e3⟩ := smallOps x hl (s + ((x.Params.length : Nat) : Int) + ((x.Ops.length : Nat) : Int) + ((x.End.L.length : Nat) : Int) + ((x.End.M.length : Nat) : Int)) (by omega)
    rw [e1]
    exact ⟨r, rfl, by omega, fun h => ⟨by omega, by omega, by omega, by omega, e3 h⟩⟩
  · simp only [grd_f h hi, Option.bind_some, cond_false]
theorem small_eq (p : MPrg) (hp : LimP p) : ∃ b, p_R05_Small (some p) 400 = some b ∧ (b = true → ∀ f ∈ p.Funcs, SzF f) := by
  have q1 := hp.s
  have q2 := hp.c
  have q3 := hp.f
  unfold p_R05_Small optC
  simp only
  rw [wrap_small (i := ((p.Sigs.length : Nat) : Int) + _) (by omega) (by omega), wrap_small (by omega) (by omega)]
  obtain ⟨r1, e1, e2, _⟩ := loop_acc p.Sigs 400 (body := (fun (s3005 : Int × Int) => (((bif decide (s3005.2 < ((p.Sigs.length : Nat) : Int)) then some (decide (s3005.1 ≤ 400)) else some false)).bind fun (s3010 : Bool) => (bif s3010 then ((atI p.Sigs s3005.2).bind fun x3014 => some (Xt.go (IntKind.i64.wrap (s3005.1 + ((x3014.Params.length : Nat) : Int)), IntKind.i64.wrap (s3005.2 + 1)))) else some (Xt.out s3005.1))))) (fun _ => True) (fun i x s hix hi hm h0 h1 => by
    have g1 := hp.ss x hm
    simp only [grd_t hi h1, Option.bind_some, cond_true, atI_nat, hix, wrap_inc (show i < 9223372036854775807 by omega)]
    rw [wrap_small (by omega) (by omega)]
    exact ⟨_, rfl, by omega, fun _ => trivial⟩) (fun i s hi h => by simp only [grd_f h hi, Option.bind_some, cond_false]) (by omega) (((p.Sigs.length : Nat) : Int) + ((p.Classes.length : Nat) : Int) + ((p.Funcs.length : Nat) : Int)) (by omega)
  rw [e1]
  simp only [Option.bind_some]
  obtain ⟨r2, f1, f2, _⟩ := loop_acc p.Classes 400 (body := (fun (s6019 : Int × Int) => (((bif decide (s6019.2 < ((p.Classes.length : Nat) : Int)) then some (decide (s6019.1 ≤ 400)) else some false)).bind fun (s6024 : Bool) => (bif s6024 then ((atI p.Classes s6019.2).bind fun x6028 => some (Xt.go (IntKind.i64.wrap (IntKind.i64.wrap (s6019.1 + ((x6028.Fields.length : Nat) : Int)) + ((x6028.Methods.length : Nat) : Int)), IntKind.i64.wrap (s6019.2 + 1)))) else some (Xt.out s6019.1))))) (fun _ => True) (fun i x s hix hi hm h0 h1 => by
    obtain ⟨g1, g2⟩ := hp.cs x hm
    simp only [grd_t hi h1, Option.bind_some, cond_true, atI_nat, hix, wrap_inc (show i < 9223372036854775807 by omega)]
    rw [wrap_small (i := s + _) (by omega) (by omega), wrap_small (by omega) (by omega)]
    exact ⟨_, rfl, by omega, fun _ => trivial⟩) (fun i s hi h => by simp only [grd_f h hi, Option.bind_some, cond_false]) (by omega) r1 (by omega)
  rw [f1]
  simp only [Option.bind_some]
  obtain ⟨r3, k1, k2, k3⟩ := loop_acc p.Funcs 400 (body := (fun (s9033 : Int × Int) => (((bif decide (s9033.2 < ((p.Funcs.length : Nat) : Int)) then some (decide (s9033.1 ≤ 400)) else some false)).bind fun (s9038 : Bool) => (bif s9038 then ((((atI p.Funcs s9033.2).bind fun x9045 => (loop (fun (s12047 : Int × Int) => (((bif decide (s12047.2 < ((x9045.Blocks.length : Nat) : Int)) then some (decide (s12047.1 ≤ 400)) else some false)).bind fun (s12052 : Bool) => (bif s12052 then ((((atI x9045.Blocks s12047.2).bind fun x12059 => (loop (fun (s15061 : Int × Int) => (((bif decide (s15061.2 < ((x12059.Ops.length : Nat) : Int)) then some (decide (s15061.1 ≤ 400)) else some false)).bind fun (s15066 : Bool) => (bif s15066 then ((atI x12059.Ops s15061.2).bind fun x15070 => some (Xt.go (IntKind.i64.wrap (IntKind.i64.wrap (s15061.1 + ((x15070.L.length : Nat) : Int)) + IntKind.i64.wrap (Int.tdiv ((x15070.S.size : Nat) : Int) 8)), IntKind.i64.wrap (s15061.2 + 1)))) else some (Xt.out s15061.1)))) Fu (IntKind.i64.wrap (IntKind.i64.wrap (IntKind.i64.wrap (IntKind.i64.wrap (s12047.1 + ((x12059.Params.length : Nat) : Int)) + ((x12059.Ops.length : Nat) : Int)) + ((x12059.End.L.length : Nat) : Int)) + ((x12059.End.M.length : Nat) : Int)), 0)))).bind fun (s12057 : Int) => some (Xt.go (s12057, IntKind.i64.wrap (s12047.2 + 1)))) else some (Xt.out s12047.1)))) Fu (IntKind.i64.wrap (s9033.1 + ((x9045.Blocks.length : Nat) : Int)), 0)))).bind fun (s9043 : Int) => some (Xt.go (s9043, IntKind.i64.wrap (s9033.2 + 1)))) else some (Xt.out s9033.1))))) SzF (fun i x s hix hi hm h0 h1 => by
    have hl := hp.fs x hm
    have g1 := hl.b
    simp only [grd_t hi h1, Option.bind_some, cond_true, atI_nat, hix, wrap_inc (show i < 9223372036854775807 by omega)]
    rw [wrap_small (by omega) (by omega)]
    obtain ⟨r, e1, e2, e3⟩ := smallBlks x hl (s + ((x.Blocks.length : Nat) : Int)) (by omega)
    rw [e1]
    exact ⟨r, rfl, by omega, fun h => ⟨by omega, e3 h⟩⟩) (fun i s hi h => by simp only [grd_f h hi, Option.bind_some, cond_false]) (by omega) r2 (by omega)
  rw [k1]
  exact ⟨_, rfl, fun h => k3 (by simpa using h)⟩
theorem fun_eq (p : MPrg) (n : Int) (hp : LimP p) (hn : 0 ≤ n) (hn2 : n < 256) : ∃ f b, p_L16_fun (some p) n = some (f, b) ∧ (b = true → SzF f ∧ f ∈ p.Funcs) := by
  unfold p_L16_fun optC
  simp only
  obtain ⟨b, e1, e2⟩ := small_eq p hp
  rw [e1]
  have q3 := hp.f
  by_cases h0 : ((p.Funcs.length : Nat) : Int) = 0
  · exact ⟨⟨0, []⟩, false, by simp [h0], fun h => by cases h⟩
  · cases b with
    | false => exact ⟨⟨0, []⟩, false, by simp [h0], fun h => by cases h⟩
    | true =>
      have hm0 : 0 ≤ Int.tmod n ((p.Funcs.length : Nat) : Int) := Int.tmod_nonneg _ hn
      have hm1 : Int.tmod n ((p.Funcs.length : Nat) : Int) < ((p.Funcs.length : Nat) : Int) := by
        rw [Int.tmod_eq_emod_of_nonneg hn]
        exact Int.emod_lt_of_pos _ (by omega)
      have hl : (Int.tmod n ((p.Funcs.length : Nat) : Int)).toNat < p.Funcs.length := by omega
      have hat : atI p.Funcs (Int.tmod n ((p.Funcs.length : Nat) : Int)) = some p.Funcs[(Int.tmod n ((p.Funcs.length : Nat) : Int)).toNat] := by
        unfold atI
        rw [if_pos hm0]
        exact List.getElem?_eq_getElem hl
      refine ⟨_, true, ?_, fun _ => ⟨e2 rfl _ (List.getElem_mem hl), List.getElem_mem hl⟩⟩
      rw [wrap_small hn (by omega), hat]
      have hne : ¬ p.Funcs = [] := fun e => h0 (by rw [e]; rfl)
      simp [hne, ck]
set_option maxRecDepth 100000 in
/-- The small living call. -/
theorem lives_true : p_L16_lives = some true := by decide +kernel
end Go.Proofs.YtbebdcpakjfgdaaDoor


/- Steps that are left out: names, and which steps stay. -/
namespace Go.Proofs.YtbebdcpakjfgdaaDoor
open Go Go.RowKit

def gone (keep : List Bool) (v : Nat) : Bool := decide (v < keep.length) && !((keep[v]?).getD true)
def nB (b : MBlk) : Nat := b.Params.length + b.Ops.length
def offs (bs : List MBlk) (i : Nat) : Nat := ((bs.take i).map nB).sum
theorem offs_succ (bs : List MBlk) {i : Nat} (hi : i < bs.length) : offs bs (i + 1) = offs bs i + nB bs[i] := by
  unfold offs
  rw [List.take_succ_eq_append_getElem hi, List.map_append, List.sum_append]
  rfl
theorem offs_le {f : MFun} (h : SzF f) : ∀ i, i ≤ f.Blocks.length → offs f.Blocks i ≤ 800 * i
  | 0, _ => by simp [offs]
  | i + 1, hi => by
    have := offs_le h i (by omega)
    have hb := h.bs _ (List.getElem_mem (show i < f.Blocks.length from hi))
    have h1 := hb.p
    have h2 := hb.o
    rw [offs_succ f.Blocks hi]
    unfold nB
    omega
theorem offs_lt {f : MFun} (h : SzF f) {i : Nat} (hi : i ≤ f.Blocks.length) : offs f.Blocks i ≤ 320000 := by
  have := offs_le h i hi
  have := h.b
  omega
end Go.Proofs.YtbebdcpakjfgdaaDoor


/- Steps that are left out: program and document come to the same. -/
namespace Go.Proofs.YtbebdcpakjfgdaaDoor
open Go Go.RowKit

theorem first_eq {f : MFun} (h : SzF f) {i : Nat} (hi : i ≤ f.Blocks.length) : p_R05_First f (i : Int) = some ((offs f.Blocks i : Nat) : Int) := by
  unfold p_R05_First
  have hb := h.b
  rw [loop_at (s := (0, 0)) (fun j => (((offs f.Blocks j : Nat) : Int), (j : Int))) i ((offs f.Blocks i : Nat) : Int) (by simp [offs]) (fun j hj => ?_) (by simp) (by omega)]
  · rfl
  · have hjl : j < f.Blocks.length := by omega
    have hj1 : ((j : Nat) : Int) < ((i : Nat) : Int) := by omega
    have hj2 : ((j : Nat) : Int) < ((f.Blocks.length : Nat) : Int) := by omega
    have hx : f.Blocks[j]? = some f.Blocks[j] := List.getElem?_eq_getElem hjl
    have hbi := h.bs _ (List.getElem_mem hjl)
    have hp := hbi.p
    have ho := hbi.o
    have hl := offs_lt h (show j ≤ f.Blocks.length by omega)
    simp only [hj1, hj2, decide_true, cond_true, Option.bind_some, atI_nat, hx, wrap_inc (show j < 9223372036854775807 by omega)]
    rw [wrap_small (i := ((offs f.Blocks j : Nat) : Int) + _) (by omega) (by omega), wrap_small (by omega) (by omega), offs_succ f.Blocks hjl]
    congr 3
    unfold nB
    omega
end Go.Proofs.YtbebdcpakjfgdaaDoor


/- Blocks in another order: names of values and of blocks. -/
namespace Go.Proofs.YtbebdcpakjfgdaaDoor
open Go Go.RowKit

def fill (a : Nat) : Nat → List Int × Int → List Int × Int
  | 0, s => s
  | m + 1, s => ((fill a m s).1.set (a + m) (fill a m s).2, (fill a m s).2 + 1)
theorem fill_len (a : Nat) (s : List Int × Int) : ∀ m, (fill a m s).1.length = s.1.length ∧ (fill a m s).2 = s.2 + (m : Int)
  | 0 => ⟨rfl, by simp [fill]⟩
  | m + 1 => by
    obtain ⟨g1, g2⟩ := fill_len a s m
    refine ⟨by simp [fill, g1], ?_⟩
    show (fill a m s).2 + 1 = _
    omega
theorem fill_loop {ρ : Type} {F1 : Option Int} (a m : Nat) (hF : F1 = some ((a + m : Nat) : Int)) (K : List Int → Int → ρ) (to : List Int) (n : Int) (hto : a + m ≤ to.length) (ham : a + m ≤ 400000) (hn0 : 0 ≤ n) (hn : n ≤ 400000) :
    loop (fun (s : (List Int) × Int × Int) => (F1.bind fun y => (bif decide (s.2.2 < y) then ((atI s.1 s.2.2).bind fun _ => some (Xt.go ((s.1.set s.2.2.toNat s.2.1), IntKind.i64.wrap (s.2.1 + 1), IntKind.i64.wrap (s.2.2 + 1)))) else some (Xt.out (K s.1 s.2.1))))) Fu (to, n, (a : Int)) = some (K (fill a m (to, n)).1 (fill a m (to, n)).2) := by
  subst hF
  refine loop_at (fun i => ((fill a i (to, n)).1, (fill a i (to, n)).2, ((a + i : Nat) : Int))) m _ (by simp [fill]) (fun i hi => ?_) (by simp) (by omega)
  obtain ⟨g1, g2⟩ := fill_len a (to, n) i
  have hlt : ((a + i : Nat) : Int) < ((a + m : Nat) : Int) := by omega
  have hx : (fill a i (to, n)).1[a + i]? = some ((fill a i (to, n)).1[a + i]'(by rw [g1]; show a + i < to.length; omega)) := List.getElem?_eq_getElem _
  simp only [Option.bind_some, hlt, decide_true, cond_true, atI_nat, hx, Int.toNat_natCast, wrap_inc (show a + i < 9223372036854775807 by omega)]
  rw [wrap_small (by omega) (by omega)]
  rfl
structure OS where
  to : List Int
  n : Int
  wh : List Int
  l : List Int
def skipO (s : OS) (x : Int) : Bool := decide (x < 0) || (decide (((s.wh.length : Nat) : Int) ≤ x) || decide ((0 : Int) ≤ (s.wh[x.toNat]?).getD 0))
def stepO (bs : List MBlk) (s : OS) (x : Int) : OS := bif skipO s x then s else ⟨(fill (offs bs x.toNat) (offs bs (x.toNat + 1) - offs bs x.toNat) (s.to, s.n)).1, (fill (offs bs x.toNat) (offs bs (x.toNat + 1) - offs bs x.toNat) (s.to, s.n)).2, s.wh.set x.toNat ((s.l.length : Nat) : Int), s.l ++ [x]⟩
structure InvO (bs : List MBlk) (s : OS) : Prop where
  w : s.wh.length = bs.length
  t : s.to.length = offs bs bs.length
  c : s.l.length + s.wh.countP (fun w => decide (w < 0)) = bs.length
  m : ∀ x ∈ s.l, 0 ≤ x ∧ x < ((bs.length : Nat) : Int)
  n0 : 0 ≤ s.n
  n1 : s.n ≤ 800 * (s.l.length : Int)
theorem skipO_f {s : OS} {x : Int} (h : skipO s x = false) : 0 ≤ x ∧ x < ((s.wh.length : Nat) : Int) ∧ ∃ w, s.wh[x.toNat]? = some w ∧ w < 0 := by
  unfold skipO at h
  simp only [Bool.or_eq_false_iff, decide_eq_false_iff_not] at h
  obtain ⟨h1, h2, h3⟩ := h
  have hl : x.toNat < s.wh.length := by omega
  have hx : s.wh[x.toNat]? = some s.wh[x.toNat] := List.getElem?_eq_getElem hl
  rw [hx] at h3
  exact ⟨by omega, by omega, _, hx, by simpa using h3⟩
theorem offs_mono {f : MFun} (h : SzF f) {i : Nat} (hi : i < f.Blocks.length) : offs f.Blocks i ≤ offs f.Blocks (i + 1) ∧ offs f.Blocks (i + 1) ≤ offs f.Blocks i + 800 := by
  have hb := h.bs _ (List.getElem_mem hi)
  have h1 := hb.p
  have h2 := hb.o
  rw [offs_succ f.Blocks hi]
  unfold nB
  omega
theorem offs_end {bs : List MBlk} : ∀ (d i : Nat), i + d = bs.length → offs bs i ≤ offs bs bs.length
  | 0, i, h => by
    obtain rfl : i = bs.length := by omega
    exact Nat.le_refl _
  | d + 1, i, h => by
    have hi : i < bs.length := by omega
    have := offs_end (bs := bs) d (i + 1) (by omega)
    rw [offs_succ bs hi] at this
    omega
theorem stepO_inv {f : MFun} (h : SzF f) {s : OS} (hs : InvO f.Blocks s) (x : Int) : InvO f.Blocks (stepO f.Blocks s x) := by
  unfold stepO
  cases hk : skipO s x with
  | true => exact hs
  | false =>
    obtain ⟨h0, h1, w, h2, h3⟩ := skipO_f hk
    have hl : x.toNat < s.wh.length := by omega
    have hb : x.toNat < f.Blocks.length := by have := hs.w; omega
    obtain ⟨m1, m2⟩ := offs_mono h hb
    obtain ⟨f1, f2⟩ := fill_len (offs f.Blocks x.toNat) (s.to, s.n) (offs f.Blocks (x.toNat + 1) - offs f.Blocks x.toNat)
    have hw : s.wh[x.toNat] = w := by
      have := List.getElem?_eq_getElem hl
      rw [h2] at this
      exact (Option.some.inj this).symm
    refine ⟨by simpa using hs.w, by simp only [cond_false]; rw [f1]; exact hs.t, ?_, fun y hy => ?_, ?_, ?_⟩
    · simp only [cond_false]
      rw [List.countP_set hl, hw]
      have hc := hs.c
      have hpos : 0 < s.wh.countP (fun w => decide (w < 0)) := List.countP_pos_iff.2 ⟨w, List.mem_of_getElem? h2, by simpa using h3⟩
      have hn : ¬ (((s.l.length : Nat) : Int) < 0) := by omega
      simp [h3, hn]
      omega
    · simp only [cond_false] at hy
      rcases List.mem_append.1 hy with hy | hy
      · exact hs.m y hy
      · rw [List.mem_singleton.1 hy]
        have := hs.w
        exact ⟨h0, by omega⟩
    · simp only [cond_false]
      rw [f2]
      have := hs.n0
      show 0 ≤ s.n + _
      omega
    · simp only [cond_false]
      rw [f2]
      have := hs.n1
      simp only [List.length_append, List.length_cons, List.length_nil]
      show s.n + _ ≤ _
      omega
def s0O (bs : List MBlk) : OS := ⟨List.replicate (offs bs bs.length) (-1), 0, List.replicate bs.length (-1), []⟩
theorem s0O_inv (bs : List MBlk) : InvO bs (s0O bs) where
  w := by simp [s0O]
  t := by simp [s0O]
  c := by simp [s0O, List.countP_replicate]
  m := fun x hx => by simp [s0O] at hx
  n0 := by simp [s0O]
  n1 := by simp [s0O]
def runO (bs : List MBlk) (l : List Int) : OS := l.foldl (stepO bs) (s0O bs)
theorem runO_inv {f : MFun} (h : SzF f) (l : List Int) : InvO f.Blocks (runO f.Blocks l) := by
  unfold runO
  have : ∀ (l : List Int) (s : OS), InvO f.Blocks s → InvO f.Blocks (l.foldl (stepO f.Blocks) s) := fun l => by
    induction l with
    | nil => exact fun s hs => hs
    | cons x l ih => exact fun s hs => ih _ (stepO_inv h hs x)
  exact this l _ (s0O_inv _)
theorem runO_succ (bs : List MBlk) (l : List Int) {i : Nat} (hi : i < l.length) : runO bs (l.take (i + 1)) = stepO bs (runO bs (l.take i)) l[i] := by
  unfold runO
  rw [List.take_succ_eq_append_getElem hi, List.foldl_append]
  rfl
theorem codeFirst_eq {f : MFun} (h : SzF f) {i : Nat} (hi : i ≤ f.Blocks.length) : p_code_first f (i : Int) = some ((offs f.Blocks i : Nat) : Int) := by
  unfold p_code_first
  have hb := h.b
  have e1 : (if ((f.Blocks.length : Nat) : Int) < (i : Int) then ((f.Blocks.length : Nat) : Int) else (i : Int)) = (i : Int) := if_neg (by omega)
  have e2 : (if (0 : Int) < (i : Int) then (i : Int) else 0) = (i : Int) := by split <;> omega
  have e3 : natI (i : Int) = some i := by simp [natI]
  have ht : takeN f.Blocks 0 i = f.Blocks.take i := by simp [takeN]
  rw [e1, e2, e3]
  simp only [Option.bind_some]
  rw [ck_t ⟨Nat.zero_le _, hi⟩, ht]
  rw [loop_at (s := (0, 0)) (fun j => (((offs f.Blocks j : Nat) : Int), j)) i ((offs f.Blocks i : Nat) : Int) (by simp [offs]) (fun j hj => ?_) (by simp [Nat.min_eq_left hi]) (by omega)]
  · rfl
  · have hjl : j < f.Blocks.length := by omega
    have hj1 : j < (f.Blocks.take i).length := by simp; omega
    have hx : (f.Blocks.take i)[j]? = some f.Blocks[j] := by rw [List.getElem?_take_of_lt hj]; exact List.getElem?_eq_getElem hjl
    have hbi := h.bs _ (List.getElem_mem hjl)
    have hp := hbi.p
    have ho := hbi.o
    have hl := offs_lt h (show j ≤ f.Blocks.length by omega)
    simp only [hj1, decide_true, cond_true, Option.bind_some, hx]
    rw [wrap_small (i := ((f.Blocks[j].Params.length : Nat) : Int) + _) (by omega) (by omega), wrap_small (by omega) (by omega), offs_succ f.Blocks hjl]
    rfl
theorem codeFirst2_eq {f : MFun} (h : SzF f) {i : Nat} (hi : i ≤ f.Blocks.length) : p_code_First f (i : Int) = some ((offs f.Blocks i : Nat) : Int) := by
  unfold p_code_First
  rw [codeFirst_eq h hi]
  rfl
theorem skip_eq (s : OS) (x : Int) : (bif decide (x < 0) then some true else (bif decide (((s.wh.length : Nat) : Int) ≤ x) then some true else ((atI s.wh x).bind fun w => some (decide ((0 : Int) ≤ w))))) = some (skipO s x) := by
  unfold skipO
  by_cases h0 : x < 0
  · simp [h0]
  · by_cases h1 : ((s.wh.length : Nat) : Int) ≤ x
    · simp [h0, h1]
    · have hl : x.toNat < s.wh.length := by omega
      have h00 : 0 ≤ x := by omega
      simp [h0, h1, atI, h00, hl]
/-- A number's name. -/
def nmF (wh : List Int) (n : Int) : Int := bif decide (n < 0) || decide (((wh.length : Nat) : Int) ≤ n) then (-1) else (wh[n.toNat]?).getD 0
theorem nm_core (n : Int) (wh : List Int) : ((bif decide (n < 0) then some true else some (decide (((wh.length : Nat) : Int) ≤ n))).bind fun (b : Bool) => (bif b then some (-1) else ((atI wh n).bind fun x => some x))) = some (nmF wh n) := by
  unfold nmF
  by_cases h0 : n < 0
  · simp [h0]
  · by_cases h1 : ((wh.length : Nat) : Int) ≤ n
    · simp [h0, h1]
    · have hl : n.toNat < wh.length := by omega
      have h00 : 0 ≤ n := by omega
      simp [h0, h1, atI, h00, hl]
theorem nmP_eq (n : Int) (wh : List Int) : p_tidy_blocks_1 n wh = some (nmF wh n) := nm_core n wh
theorem nmR_eq (n : Int) {wh : List Int} (h : wh ≠ []) : p_R16_Name n wh = some (nmF wh n) := by
  unfold p_R16_Name nilC
  have : ¬ (wh.isEmpty = true) := by simpa using h
  rw [dif_neg this]
  exact nm_core n wh
end Go.Proofs.YtbebdcpakjfgdaaDoor


/- Blocks in another order: program and document come to the same; the law in plain terms. -/
namespace Go.Proofs.YtbebdcpakjfgdaaDoor
open Go Go.RowKit

def reE3 (ret : Int) (to wh : List Int) (e : MEnd) : MEnd := ⟨e.K, bif decide (e.K = 1) || (decide (e.K = 3) || (decide (e.K = 2) && !(decide (ret = (-1))))) then toF to e.A else e.A, bif decide (e.K = 0) || decide (e.K = 1) then nmF wh e.To else e.To, bif decide (e.K = 1) then nmF wh e.Else else e.Else, bif decide (e.K = 0) || decide (e.K = 1) then e.L.map (toF to) else e.L, bif decide (e.K = 1) then e.M.map (toF to) else e.M⟩
def reB3 (ret : Int) (to wh : List Int) (b : MBlk) : MBlk := ⟨b.Params, b.Ops.map (fun o => reO to (plO o)), reE3 ret to wh b.End⟩
theorem endRen3_eq {ret K A To Else : Int} {L M : List Int} (to wh : List Int) (hL : L.length ≤ 400) (hM : M.length ≤ 400) : p_tidy_end_t3 ret K A To Else L M to wh = some (reE3 ret to wh ⟨K, A, To, Else, L, M⟩) := by
  unfold p_tidy_end_t3 reE3
  simp only [named_eq, names_eq to hL, names_eq to hM, nmP_eq, Option.bind_some]
  cases decide (K = 0) <;> cases decide (K = 1) <;> cases decide (K = 2) <;> cases decide (K = 3) <;> cases decide (ret = -1) <;> rfl
theorem renamed3P_eq {f : MFun} (to wh : List Int) (h : SzF f) : p_tidy_renamed_s3 f to wh = some ⟨f.Ret, (plF f).Blocks.map (reB3 f.Ret to wh)⟩ := by
  have hF := plF_sz h
  unfold p_tidy_renamed_s3
  simp only [ownP_eq h, Option.bind_some, p_tidy_named]
  rw [loop_setI (plF f).Blocks (reB3 f.Ret to wh) (fun i x s hx hs hi hm => ?_) (fun s hs => by simp) (by have := hF.b; omega)]
  · rfl
  · have hlt : ((i : Nat) : Int) < (((plF f).Blocks.length : Nat) : Int) := by omega
    have hb := hF.bs x hm
    have := hF.b
    simp only [hlt, decide_true, cond_true, atI_nat, hx, Option.bind_some, Int.toNat_natCast]
    rw [innerP to s i x (by omega) hb]
    simp only [Option.bind_some, List.getElem?_set_self (show i < s.length by omega), endRen3_eq to wh hb.l hb.m, List.set_set, wrap_inc (show i < 9223372036854775807 by omega)]
    rfl
theorem renamed3R_eq {f : MFun} (to wh : List Int) (h : SzF f) (hw : wh.length = f.Blocks.length) : p_R16_Rename f to wh = some ⟨f.Ret, (plF f).Blocks.map (reB3 f.Ret to wh)⟩ := by
  have hF := plF_sz h
  unfold p_R16_Rename
  simp only [ownR_eq h, Option.bind_some, to_eq]
  rw [loop_set (plF f).Blocks (reB3 f.Ret to wh) (fun i x s hx hs hi hm => ?_) (fun s hs => by simp [hs]) (by have := hF.b; omega)]
  · rfl
  · have hb := hF.bs x hm
    have hbo := hb.o
    have := hF.b
    have hi' : i < s.length := by omega
    have hne : wh ≠ [] := fun e => by
      rw [e] at hw
      have : (plF f).Blocks.length = f.Blocks.length := by simp [plF]
      simp at hw
      omega
    simp only [hi', decide_true, cond_true, hx, Option.bind_some]
    rw [loop_set x.Ops (fun o => reO to (plO o)) (fun k o s2 ho hs2 hk hm2 => ?_) (fun s2 hs2 => by simp [hs2]) (by omega)]
    · simp only [Option.bind_some, all_eq to hb.l, all_eq to hb.m, nmR_eq _ hne]
      have e : ∀ (b0 b1 b2 b3 br : Bool), ((((((bif b1 then some true else (bif b3 then some true else (bif b2 then some (!br) else some false)))).bind fun (s6040 : Bool) => (bif s6040 then some (toF to x.End.A) else some x.End.A))).bind fun (s6037 : Int) => (((((bif b0 then some true else some b1)).bind fun (s6053 : Bool) => (bif s6053 then some (nmF wh x.End.To, List.map (toF to) x.End.L) else some (x.End.To, x.End.L)))).bind fun (s6050 : Int × (List Int)) => (((bif b1 then some (nmF wh x.End.Else, List.map (toF to) x.End.M) else some (x.End.Else, x.End.M))).bind fun (s6063 : Int × (List Int)) => some (s.set i (⟨x.Params, x.Ops.map (fun o => reO to (plO o)), (⟨x.End.K, s6037, s6050.1, s6063.1, s6050.2, s6063.2⟩ : MEnd)⟩ : MBlk)))))) = some (s.set i (⟨x.Params, x.Ops.map (fun o => reO to (plO o)), (⟨x.End.K, bif b1 || (b3 || (b2 && !br)) then toF to x.End.A else x.End.A, bif b0 || b1 then nmF wh x.End.To else x.End.To, bif b1 then nmF wh x.End.Else else x.End.Else, bif b0 || b1 then x.End.L.map (toF to) else x.End.L, bif b1 then x.End.M.map (toF to) else x.End.M⟩ : MEnd)⟩ : MBlk)) := fun b0 b1 b2 b3 br => by
        cases b0 <;> cases b1 <;> cases b2 <;> cases b3 <;> cases br <;> rfl
      rw [e]
      rfl
    · have hk' : k < s2.length := by omega
      simp only [hk', decide_true, cond_true, ho, Option.bind_some, renR_eq to (hb.os o hm2)]
theorem re3_sz {f : MFun} (to wh : List Int) (hs : SzF f) : SzF ⟨f.Ret, (plF f).Blocks.map (reB3 f.Ret to wh)⟩ := by
  have hF := plF_sz hs
  refine ⟨by simpa using hF.b, fun b hb => ?_⟩
  obtain ⟨b', h1, rfl⟩ := List.mem_map.1 hb
  have hb' := hF.bs b' h1
  refine ⟨hb'.p, by simpa [reB3] using hb'.o, bif_len (by simpa using hb'.l) hb'.l, bif_len (by simpa using hb'.m) hb'.m, fun o ho => ?_⟩
  obtain ⟨o', h2, rfl⟩ := List.mem_map.1 ho
  have := plO_L (hb'.os o' h2)
  exact bif_len (by simpa using this) this
/-- The blocks, in their order. -/
def dB : MBlk := ⟨[], [], ⟨0, 0, 0, 0, [], []⟩⟩
def pick (Bs : List MBlk) (l : List Int) : List MBlk := l.map fun x => (Bs[x.toNat]?).getD dB
def outO (f : MFun) (order : List Int) : MFun := ⟨f.Ret, pick ((plF f).Blocks.map (reB3 f.Ret (runO f.Blocks order).to (runO f.Blocks order).wh)) (runO f.Blocks order).l⟩
theorem stepO_f {bs : List MBlk} {s : OS} {x : Int} (h : skipO s x = false) : stepO bs s x = ⟨(fill (offs bs x.toNat) (offs bs (x.toNat + 1) - offs bs x.toNat) (s.to, s.n)).1, (fill (offs bs x.toNat) (offs bs (x.toNat + 1) - offs bs x.toNat) (s.to, s.n)).2, s.wh.set x.toNat ((s.l.length : Nat) : Int), s.l ++ [x]⟩ := by
  unfold stepO
  rw [h]
  rfl
theorem stepO_t {bs : List MBlk} {s : OS} {x : Int} (h : skipO s x = true) : stepO bs s x = s := by
  unfold stepO
  rw [h]
  rfl
theorem pick_loop {f : MFun} (h : SzF f) (to wh l : List Int) (hl : l.length ≤ 400) (hm : ∀ x ∈ l, 0 ≤ x ∧ x < ((f.Blocks.length : Nat) : Int)) : loop (fun (s17073 : (List MBlk) × Nat) => (bif decide (s17073.2 < l.length) then ((l[s17073.2]?).bind fun x17079 => ((atI ((plF f).Blocks.map (reB3 f.Ret to wh)) x17079).bind fun x17081 => (ck ((s17073.1.length + 1) * 128 ≤ 140737488355328) (some (Xt.go ((s17073.1 ++ [x17081]), (s17073.2 + 1))))))) else some (Xt.out s17073.1))) Fu ([], 0) = some (pick ((plF f).Blocks.map (reB3 f.Ret to wh)) l) := by
  refine loop_push l _ (fun i x acc hx ha hi hmx => ?_) (fun acc => by simp) (by omega)
  obtain ⟨h0, h1⟩ := hm x hmx
  have hlen : ((plF f).Blocks.map (reB3 f.Ret to wh)).length = f.Blocks.length := by simp [plF]
  have hxl : x.toNat < ((plF f).Blocks.map (reB3 f.Ret to wh)).length := by omega
  have hat : atI ((plF f).Blocks.map (reB3 f.Ret to wh)) x = some (((plF f).Blocks.map (reB3 f.Ret to wh))[x.toNat]) := by
    unfold atI
    rw [if_pos h0]
    exact List.getElem?_eq_getElem hxl
  have hgd : (((plF f).Blocks.map (reB3 f.Ret to wh))[x.toNat]?).getD dB = ((plF f).Blocks.map (reB3 f.Ret to wh))[x.toNat] := by rw [List.getElem?_eq_getElem hxl]; rfl
  simp only [hi, decide_true, cond_true, hx, Option.bind_some, hat]
  rw [ck_t (by omega), hgd]
theorem rep_set (m : Nat) (hm : m < 18446744073709551616) : (List.replicate m (0 : Int)).map (fun _ => (-1 : Int)) = List.replicate m (-1) := by simp
theorem blocksP_eq {f : MFun} (order : List Int) (h : SzF f) (ho : order.length ≤ 17592186044416) : p_tidy_blocks_t1 f.Ret f.Blocks order = some (outO f order, order) := by
  have hb := h.b
  have hT := offs_lt h (Nat.le_refl f.Blocks.length)
  unfold p_tidy_blocks_t1
  rw [ck_t (by omega), show (⟨f.Ret, f.Blocks⟩ : MFun) = f from rfl]
  unfold p_code_Values
  rw [codeFirst_eq h (Nat.le_refl _)]
  simp only [Option.bind_some]
  rw [show natI ((offs f.Blocks f.Blocks.length : Nat) : Int) = some (offs f.Blocks f.Blocks.length) by simp [natI]]
  simp only [Option.bind_some]
  rw [ck_t (by omega)]
  rw [loop_setI (List.replicate (offs f.Blocks f.Blocks.length) (0 : Int)) (fun _ => (-1 : Int)) (fun i x s hx hs hi hm => by
    have hlt : ((i : Nat) : Int) < (((List.replicate (offs f.Blocks f.Blocks.length) (0 : Int)).length : Nat) : Int) := by omega
    have hil : i < 320001 := by rw [List.length_replicate] at hi; omega
    simp only [hlt, decide_true, cond_true, atI_nat, hx, Option.bind_some, Int.toNat_natCast, wrap_inc (show i < 9223372036854775807 by omega)]) (fun s hs => by simp) (by simp; omega)]
  simp only [Option.bind_some, rep_set _ (show offs f.Blocks f.Blocks.length < 18446744073709551616 by omega)]
  rw [loop_setI (List.replicate f.Blocks.length (0 : Int)) (fun _ => (-1 : Int)) (fun i x s hx hs hi hm => by
    have hlt : ((i : Nat) : Int) < (((List.replicate f.Blocks.length (0 : Int)).length : Nat) : Int) := by omega
    have hil : i < 401 := by rw [List.length_replicate] at hi; omega
    simp only [hlt, decide_true, cond_true, atI_nat, hx, Option.bind_some, Int.toNat_natCast, wrap_inc (show i < 9223372036854775807 by omega)]) (fun s hs => by simp) (by simp; omega)]
  simp only [Option.bind_some, rep_set _ (show f.Blocks.length < 18446744073709551616 by omega)]
  rw [loop_at (s := (List.replicate (offs f.Blocks f.Blocks.length) (-1), List.replicate f.Blocks.length (-1), [], 0, 0)) (fun i => ((runO f.Blocks (order.take i)).to, (runO f.Blocks (order.take i)).wh, (runO f.Blocks (order.take i)).l, (runO f.Blocks (order.take i)).n, i)) order.length ((runO f.Blocks order).to, (runO f.Blocks order).wh, (runO f.Blocks order).l) rfl (fun i hi => ?_) (by simp) (by omega)]
  · have hI := runO_inv h order
    simp only [Option.bind_some, renamed3P_eq _ _ h]
    rw [pick_loop h _ _ _ (by have := hI.c; omega) hI.m]
    rfl
  · have hx : order[i]? = some order[i] := List.getElem?_eq_getElem hi
    have hI := runO_inv h (order.take i)
    simp only [hi, decide_true, cond_true, hx, Option.bind_some, runO_succ f.Blocks order hi]
    generalize runO f.Blocks (order.take i) = s at hI
    generalize order[i] = x
    rw [skip_eq s x]
    cases hk : skipO s x with
    | true =>
      rw [stepO_t hk]
      rfl
    | false =>
      rw [stepO_f hk]
      obtain ⟨h0, h1, w, h2, h3⟩ := skipO_f hk
      have hxb : x.toNat < f.Blocks.length := by have := hI.w; omega
      have hxe : ((x.toNat : Nat) : Int) = x := by omega
      obtain ⟨m1, m2⟩ := offs_mono h hxb
      have hl := offs_lt h (show x.toNat + 1 ≤ f.Blocks.length by omega)
      have hend := offs_end (bs := f.Blocks) (f.Blocks.length - (x.toNat + 1)) (x.toNat + 1) (by omega)
      have hat : atI s.wh x = some w := by
        unfold atI
        rw [if_pos h0]
        exact h2
      have hF1 : p_code_First f x = some ((offs f.Blocks x.toNat : Nat) : Int) := by
        have := codeFirst2_eq h (show x.toNat ≤ f.Blocks.length by omega)
        rwa [hxe] at this
      have hF2 : p_code_First f (IntKind.i64.wrap (x + 1)) = some ((offs f.Blocks x.toNat + (offs f.Blocks (x.toNat + 1) - offs f.Blocks x.toNat) : Nat) : Int) := by
        have := codeFirst2_eq h (show x.toNat + 1 ≤ f.Blocks.length by omega)
        rw [wrap_small (by omega) (by omega), show x + 1 = ((x.toNat + 1 : Nat) : Int) by omega, this]
        congr 2
        omega
      have hn0 := hI.n0
      have hn1 := hI.n1
      have hc := hI.c
      simp only [Option.bind_some, cond_false, hat, hF1]
      rw [ck_t (by omega)]
      rw [fill_loop (offs f.Blocks x.toNat) (offs f.Blocks (x.toNat + 1) - offs f.Blocks x.toNat) hF2 (fun t n => (t, s.wh.set x.toNat ((s.l.length : Nat) : Int), s.l ++ [x], n)) s.to s.n (by rw [hI.t]; omega) (by omega) hn0 (by omega)]
      rfl
theorem blocksR_eq {f : MFun} (order : List Int) (h : SzF f) (ho : order.length ≤ 17592186044416) : p_R16_Blocks f order = some (outO f order) := by
  have hb := h.b
  have hT := offs_lt h (Nat.le_refl f.Blocks.length)
  unfold p_R16_Blocks p_R05_Values
  rw [first_eq h (Nat.le_refl _)]
  simp only [Option.bind_some]
  rw [show natI ((offs f.Blocks f.Blocks.length : Nat) : Int) = some (offs f.Blocks f.Blocks.length) by simp [natI]]
  simp only [Option.bind_some]
  rw [ck_t (by omega)]
  rw [loop_set (List.replicate (offs f.Blocks f.Blocks.length) (0 : Int)) (fun _ => (-1 : Int)) (fun i x s hx hs hi hm => by
    have hlt : i < s.length := by omega
    simp only [hlt, decide_true, cond_true, hx, Option.bind_some]) (fun s hs => by simp [hs]) (by simp; omega)]
  simp only [Option.bind_some, rep_set _ (show offs f.Blocks f.Blocks.length < 18446744073709551616 by omega)]
  rw [ck_t (by omega)]
  rw [loop_set (List.replicate f.Blocks.length (0 : Int)) (fun _ => (-1 : Int)) (fun i x s hx hs hi hm => by
    have hlt : i < s.length := by omega
    simp only [hlt, decide_true, cond_true, hx, Option.bind_some]) (fun s hs => by simp [hs]) (by simp; omega)]
  simp only [Option.bind_some, rep_set _ (show f.Blocks.length < 18446744073709551616 by omega)]
  rw [loop_at (s := ([], List.replicate (offs f.Blocks f.Blocks.length) (-1), 0, List.replicate f.Blocks.length (-1), 0)) (fun i => ((runO f.Blocks (order.take i)).l, (runO f.Blocks (order.take i)).to, (runO f.Blocks (order.take i)).n, (runO f.Blocks (order.take i)).wh, i)) order.length ((runO f.Blocks order).l, (runO f.Blocks order).to, (runO f.Blocks order).wh) rfl (fun i hi => ?_) (by simp) (by omega)]
  · have hI := runO_inv h order
    simp only [Option.bind_some, renamed3R_eq _ _ h hI.w]
    rw [pick_loop h _ _ _ (by have := hI.c; omega) hI.m]
    rfl
  · have hx : order[i]? = some order[i] := List.getElem?_eq_getElem hi
    have hI := runO_inv h (order.take i)
    simp only [hi, decide_true, cond_true, hx, Option.bind_some, runO_succ f.Blocks order hi]
    generalize runO f.Blocks (order.take i) = s at hI
    generalize order[i] = x
    rw [← hI.w, skip_eq s x]
    cases hk : skipO s x with
    | true =>
      rw [stepO_t hk]
      rfl
    | false =>
      rw [stepO_f hk]
      obtain ⟨h0, h1, w, h2, h3⟩ := skipO_f hk
      have hxb : x.toNat < f.Blocks.length := by have := hI.w; omega
      have hxe : ((x.toNat : Nat) : Int) = x := by omega
      obtain ⟨m1, m2⟩ := offs_mono h hxb
      have hl := offs_lt h (show x.toNat + 1 ≤ f.Blocks.length by omega)
      have hend := offs_end (bs := f.Blocks) (f.Blocks.length - (x.toNat + 1)) (x.toNat + 1) (by omega)
      have hat : atI s.wh x = some w := by
        unfold atI
        rw [if_pos h0]
        exact h2
      have hF1 : p_R05_First f x = some ((offs f.Blocks x.toNat : Nat) : Int) := by
        have := first_eq h (show x.toNat ≤ f.Blocks.length by omega)
        rwa [hxe] at this
      have hF2 : p_R05_First f (IntKind.i64.wrap (x + 1)) = some ((offs f.Blocks x.toNat + (offs f.Blocks (x.toNat + 1) - offs f.Blocks x.toNat) : Nat) : Int) := by
        have := first_eq h (show x.toNat + 1 ≤ f.Blocks.length by omega)
        rw [wrap_small (by omega) (by omega), show x + 1 = ((x.toNat + 1 : Nat) : Int) by omega, this]
        congr 2
        omega
      have hn0 := hI.n0
      have hn1 := hI.n1
      have hc := hI.c
      simp only [Option.bind_some, cond_false, hat, hF1]
      rw [ck_t (by omega)]
      rw [fill_loop (offs f.Blocks x.toNat) (offs f.Blocks (x.toNat + 1) - offs f.Blocks x.toNat) hF2 (fun t n => (s.l ++ [x], t, n, s.wh.set x.toNat ((s.l.length : Nat) : Int))) s.to s.n (by rw [hI.t]; omega) (by omega) hn0 (by omega)]
      rfl
theorem outO_sz {f : MFun} (order : List Int) (h : SzF f) : SzF (outO f order) := by
  have hI := runO_inv h order
  have hb := h.b
  have hS := re3_sz (runO f.Blocks order).to (runO f.Blocks order).wh h
  refine ⟨by have := hI.c; simp [outO, pick]; omega, fun b hb => ?_⟩
  obtain ⟨x, hx, rfl⟩ := List.mem_map.1 hb
  obtain ⟨h0, h1⟩ := hI.m x hx
  have hlen : ((plF f).Blocks.map (reB3 f.Ret (runO f.Blocks order).to (runO f.Blocks order).wh)).length = f.Blocks.length := by simp [plF]
  have hxl : x.toNat < ((plF f).Blocks.map (reB3 f.Ret (runO f.Blocks order).to (runO f.Blocks order).wh)).length := by omega
  rw [List.getElem?_eq_getElem hxl]
  exact hS.bs _ (List.getElem_mem hxl)
/-- The law of blocks in another order, in plain terms. -/
theorem orders_plain (p : MPrg) (n : Int) (order : List Int) (hp : LimP p) (hn : 0 ≤ n) (hn2 : n < 256) (ht : order.length ≤ 17592186044416) : p_L16_TidyOrders p n order = some true := by
  unfold p_L16_TidyOrders
  obtain ⟨f, b, e1, e2⟩ := fun_eq p n hp hn hn2
  rw [e1]
  cases b with
  | false => simp [lives_true]
  | true =>
    obtain ⟨hs, _⟩ := e2 rfl
    have hbt : p_tidy_Blocks_t1 f.Ret f.Blocks order = some (outO f order, order) := by
      unfold p_tidy_Blocks_t1
      rw [blocksP_eq order hs ht]
      simp only [Option.bind_some]
      rw [ck_t trivial]
    simp only [Option.bind_some, cond_true, hbt, blocksR_eq order hs ht, sameFunc_self (outO_sz order hs), lives_true]
    rw [ck_t (by omega), ck_t trivial]
    rfl
end Go.Proofs.YtbebdcpakjfgdaaDoor


