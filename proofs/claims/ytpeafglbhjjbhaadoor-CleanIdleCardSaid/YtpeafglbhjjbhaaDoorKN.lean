/- Several of my texts in one. -/
import Derived.Test.YtpeafglbhjjbhaaDoorFZ
/- Loops of the plain functions. -/
namespace Go.Proofs.YtpeafglbhjjbhaaDoor
open Go Go.RowKit

theorem loop_succ {σ ρ : Type} (body : σ → Option (Xt σ ρ)) (n : Nat) (s : σ) : loop body (n + 1) s = (body s).bind fun x => x.on (fun s' => loop body n s') some := rfl
/-- Rounds 0, 1 .. q, then it's enough. -/
theorem loop_run {σ ρ : Type} {body : σ → Option (Xt σ ρ)} (st : Nat → σ) (q : Nat) (r : ρ) (h1 : ∀ i, i < q → body (st i) = some (.go (st (i + 1)))) (h2 : body (st q) = some (.out r)) : ∀ (n i : Nat), i ≤ q → q - i < n → loop body n (st i) = some r
  | 0, i, _, h => by omega
  | n + 1, i, hi, h => by
    rw [loop_succ]
    by_cases e : i = q
    · subst e
      rw [h2]
      rfl
    · rw [h1 i (by omega)]
      exact loop_run st q r h1 h2 n (i + 1) (by omega) (by omega)
theorem loop_at {σ ρ : Type} {body : σ → Option (Xt σ ρ)} (st : Nat → σ) (q : Nat) (r : ρ) {s : σ} (hs : s = st 0) (h1 : ∀ i, i < q → body (st i) = some (.go (st (i + 1)))) (h2 : body (st q) = some (.out r)) (hq : q < 18446744073709551616) : loop body Fu s = some r := by
  subst hs
  exact loop_run st q r h1 h2 Fu 0 (Nat.zero_le _) (by unfold Fu; omega)
theorem take_map_succ {α β : Type} (l : List α) (g : α → β) {i : Nat} (hi : i < l.length) : (l.take (i + 1)).map g = (l.take i).map g ++ [g l[i]] := by
  rw [List.take_succ_eq_append_getElem hi, List.map_append]
  rfl
theorem drop_set {α : Type} (l : List α) (a : List α) (y : α) {i : Nat} (hi : i < l.length) (ha : a.length = i) : (a ++ l.drop i).set i y = (a ++ [y]) ++ l.drop (i + 1) := by
  rw [List.set_append_right _ _ (by omega), ha, Nat.sub_self, List.drop_eq_getElem_cons hi, List.set_cons_zero, List.append_assoc]
  rfl
/-- A list is made out of another one, element by element. -/
theorem loop_push {α β : Type} (l : List α) (g : α → β) {body : List β × Nat → Option (Xt (List β × Nat) (List β))} (h1 : ∀ i x acc, l[i]? = some x → acc.length = i → i < l.length → x ∈ l → body (acc, i) = some (.go (acc ++ [g x], i + 1))) (h2 : ∀ acc, body (acc, l.length) = some (.out acc)) (hq : l.length < 18446744073709551616) : loop body Fu ([], 0) = some (l.map g) := by
  refine loop_at (fun i => ((l.take i).map g, i)) l.length _ (by simp) (fun i hi => ?_) (by rw [h2]; simp) hq
  have hx : l[i]? = some l[i] := List.getElem?_eq_getElem hi
  show body ((l.take i).map g, i) = _
  rw [h1 i l[i] _ hx (by simp; omega) hi (List.getElem_mem hi)]
  rw [take_map_succ l g hi]
/-- The same, with a number of Go's. -/
theorem loop_setI {α : Type} (l : List α) (g : α → α) {body : List α × Int → Option (Xt (List α × Int) (List α))} (h1 : ∀ (i : Nat) x (s : List α), s[i]? = some x → s.length = l.length → i < l.length → x ∈ l → body (s, (i : Int)) = some (.go (s.set i (g x), ((i + 1 : Nat) : Int)))) (h2 : ∀ s : List α, s.length = l.length → body (s, (l.length : Int)) = some (.out s)) (hq : l.length < 18446744073709551616) : loop body Fu (l, 0) = some (l.map g) := by
  refine loop_at (fun i => ((l.take i).map g ++ l.drop i, (i : Int))) l.length _ (by simp) (fun i hi => ?_) (by rw [h2 _ (by simp)]; simp) hq
  have hx : ((l.take i).map g ++ l.drop i)[i]? = some l[i] := by
    rw [List.getElem?_append_right (by simp; omega)]
    simp [Nat.min_eq_left (Nat.le_of_lt hi)]
  show body ((l.take i).map g ++ l.drop i, (i : Int)) = _
  rw [h1 i l[i] _ hx (by simp; omega) hi (List.getElem_mem hi)]
  rw [take_map_succ l g hi, drop_set l _ _ hi (by simp; omega)]
theorem wrap_nat {n : Nat} (h : n < 9223372036854775808) : IntKind.i64.wrap (n : Int) = (n : Int) := by
  simp [IntKind.wrap, IntKind.bits, IntKind.signed]
  omega
theorem wrap_inc {n : Nat} (h : n < 9223372036854775807) : IntKind.i64.wrap ((n : Int) + 1) = ((n + 1 : Nat) : Int) := by
  have := wrap_nat (n := n + 1) (by omega)
  rwa [Int.natCast_add] at this
theorem atI_nat {α : Type} (l : List α) (n : Nat) : atI l (n : Int) = l[n]? := by simp [atI]
theorem ck_t {α : Type} {p : Prop} [Decidable p] {k : Option α} (h : p) : ck p k = k := if_pos h
end Go.Proofs.YtpeafglbhjjbhaaDoor


/- What a step, an end, a function comes to that is one's own: the program's and the document's copies. -/
namespace Go.Proofs.YtpeafglbhjjbhaaDoor
open Go Go.RowKit

theorem bif_some {α : Type} {b : Bool} {x y : α} : (bif b then some x else some y) = some (bif b then x else y) := by cases b <;> rfl
theorem clone_eq {l : List Int} (h : l.length ≤ 400) : p_slices_Clone_int_int l = some l := by
  unfold p_slices_Clone_int_int nilC
  rw [ck_t (by omega)]
  split
  · rename_i e
    have : l = [] := by simpa using e
    subst this
    rfl
  · rfl
def fb (k : Int) : ByteArray := if k < 0 ∨ 26 ≤ k then ⟨#[]⟩ else (fldT[k.toNat]?).getD ⟨#[]⟩
theorem fb_out {k : Int} (h : k < 0 ∨ 26 ≤ k) : fb k = ⟨#[]⟩ := if_pos h
theorem in_range (k : Int) : (k < 0 ∨ 26 ≤ k) ∨ k = 0 ∨ k = 1 ∨ k = 2 ∨ k = 3 ∨ k = 4 ∨ k = 5 ∨ k = 6 ∨ k = 7 ∨ k = 8 ∨ k = 9 ∨ k = 10 ∨ k = 11 ∨ k = 12 ∨ k = 13 ∨ k = 14 ∨ k = 15 ∨ k = 16 ∨ k = 17 ∨ k = 18 ∨ k = 19 ∨ k = 20 ∨ k = 21 ∨ k = 22 ∨ k = 23 ∨ k = 24 ∨ k = 25 := by omega
theorem fin_range {k : Int} (h : ¬ (k < 0 ∨ 26 ≤ k)) : ∃ n : Fin 26, k = (n.val : Int) := ⟨⟨k.toNat, by omega⟩, by simp; omega⟩
set_option maxRecDepth 100000 in
theorem fieldsOf_fin : ∀ n : Fin 26, p_kind_fieldsOf (n.val : Int) = some (fb (n.val : Int)) := by decide +kernel
set_option maxRecDepth 100000 in
theorem fields_fin : ∀ n : Fin 26, p_R04_Fields (n.val : Int) = some (fb (n.val : Int)) := by decide +kernel
theorem fieldsOf_eq (k : Int) : p_kind_fieldsOf k = some (fb k) := by
  by_cases h : k < 0 ∨ 26 ≤ k
  · rw [fb_out h]
    unfold p_kind_fieldsOf
    rcases h with h | h
    · simp [h]
    · have : ¬ k < 0 := by omega
      simp [h, this]
  · obtain ⟨n, rfl⟩ := fin_range h
    exact fieldsOf_fin n
theorem fields_eq (k : Int) : p_R04_Fields k = some (fb k) := by
  by_cases h : k < 0 ∨ 26 ≤ k
  · rw [fb_out h]
    have hne : ∀ c : Int, 0 ≤ c → c < 26 → decide (k = c) = false := fun c h1 h2 => by simp; omega
    unfold p_R04_Fields
    simp only [hne 0 (by decide) (by decide), hne 1 (by decide) (by decide), hne 2 (by decide) (by decide), hne 3 (by decide) (by decide), hne 4 (by decide) (by decide), hne 5 (by decide) (by decide), hne 6 (by decide) (by decide), hne 7 (by decide) (by decide), hne 8 (by decide) (by decide), hne 9 (by decide) (by decide), hne 10 (by decide) (by decide), hne 11 (by decide) (by decide), hne 12 (by decide) (by decide), hne 13 (by decide) (by decide), hne 14 (by decide) (by decide), hne 15 (by decide) (by decide), hne 16 (by decide) (by decide), hne 17 (by decide) (by decide), hne 18 (by decide) (by decide), hne 19 (by decide) (by decide), hne 20 (by decide) (by decide), hne 21 (by decide) (by decide), hne 22 (by decide) (by decide), hne 23 (by decide) (by decide), hne 24 (by decide) (by decide), hne 25 (by decide) (by decide), cond_false, Option.bind_some]
  · obtain ⟨n, rfl⟩ := fin_range h
    exact fields_fin n
def hasB (k c : Int) : Bool := (fb k).data.toList.any fun b => decide (((b.toNat : Nat) : Int) = c)
def ltrs : List Int := [65, 66, 67, 75, 76, 78, 83]
set_option maxRecDepth 100000 in
theorem has_fin : ∀ n : Fin 26, ∀ c ∈ ltrs, p_R04_Has (n.val : Int) c = some (hasB (n.val : Int) c) := by decide +kernel
theorem hasB_out {k : Int} (h : k < 0 ∨ 26 ≤ k) (c : Int) : hasB k c = false := by
  unfold hasB
  rw [fb_out h]
  rfl
theorem has_eq (k c : Int) (hc : c ∈ ltrs) : p_R04_Has k c = some (hasB k c) := by
  by_cases h : k < 0 ∨ 26 ≤ k
  · rw [hasB_out h]
    unfold p_R04_Has
    rw [fields_eq, fb_out h]
    rfl
  · obtain ⟨n, rfl⟩ := fin_range h
    exact has_fin n c hc
/-- A step, without what plays no part. -/
def plO (o : MOp) : MOp := ⟨o.K, bif hasB o.K 65 then o.A else 0, bif hasB o.K 66 then o.B else 0, bif hasB o.K 67 then o.C else 0, bif hasB o.K 78 then o.N else 0, bif hasB o.K 83 then o.S else ⟨#[]⟩, bif hasB o.K 76 then o.L else [], bif hasB o.K 75 then o.Stack else false⟩
set_option maxRecDepth 100000 in
set_option maxHeartbeats 2000000 in
theorem plainP_eq {o : MOp} (h : o.L.length ≤ 400) : p_kind_plain o = some (plO o) := by
  obtain ⟨K, A, B, C, N, S, L, T⟩ := o
  have hcl := clone_eq h
  unfold p_kind_plain
  simp only at hcl
  simp only [fieldsOf_eq, Option.bind_some, hcl]
  rcases in_range K with h0 | rfl | rfl | rfl | rfl | rfl | rfl | rfl | rfl | rfl | rfl | rfl | rfl | rfl | rfl | rfl | rfl | rfl | rfl | rfl | rfl | rfl | rfl | rfl | rfl | rfl | rfl
  · simp only [plO, hasB, fb_out h0]
    refine (?_ : _ = _)
    kernel_rfl
  all_goals
    refine (?_ : _ = _)
    kernel_rfl
theorem plainP2_eq {o : MOp} (h : o.L.length ≤ 400) : p_kind_Plain o = some (plO o) := by
  unfold p_kind_Plain
  rw [plainP_eq h]
  rfl
/-- An end, without what plays no part. -/
def plE (e : MEnd) : MEnd := ⟨e.K, bif decide (e.K = 1) || (decide (e.K = 2) || decide (e.K = 3)) then e.A else 0, bif decide (e.K = 0) || decide (e.K = 1) then e.To else 0, bif decide (e.K = 1) then e.Else else 0, bif decide (e.K = 0) || decide (e.K = 1) then e.L else [], bif decide (e.K = 1) then e.M else []⟩
theorem endP_eq {e : MEnd} (hL : e.L.length ≤ 400) (hM : e.M.length ≤ 400) : p_code_ownEnd e = some (plE e) := by
  unfold p_code_ownEnd plE
  rw [clone_eq hL, clone_eq hM]
  cases decide (e.K = 0) <;> cases decide (e.K = 1) <;> cases decide (e.K = 2) <;> cases decide (e.K = 3) <;> rfl
def plB (b : MBlk) : MBlk := ⟨b.Params, b.Ops.map plO, plE b.End⟩
def plF (f : MFun) : MFun := ⟨f.Ret, f.Blocks.map plB⟩
/-- It isn't great. -/
structure SzB (b : MBlk) : Prop where
  p : b.Params.length ≤ 400
  o : b.Ops.length ≤ 400
  l : b.End.L.length ≤ 400
  m : b.End.M.length ≤ 400
  os : ∀ o ∈ b.Ops, o.L.length ≤ 400
structure SzF (f : MFun) : Prop where
  b : f.Blocks.length ≤ 400
  bs : ∀ b ∈ f.Blocks, SzB b
theorem ownP_eq {f : MFun} (h : SzF f) : p_tidy_own f = some (plF f) := by
  have hops : ∀ (b : MBlk), SzB b → loop (fun (s : (List MOp) × Nat) => (bif decide (s.2 < b.Ops.length) then ((b.Ops[s.2]?).bind fun x => ((p_kind_Plain x).bind fun y => (ck ((s.1.length + 1) * 88 ≤ 140737488355328) (some (Xt.go ((s.1 ++ [y]), (s.2 + 1))))))) else some (Xt.out s.1))) Fu ([], 0) = some (b.Ops.map plO) := fun b hb => by
    refine loop_push b.Ops plO (fun i x acc hx ha hi hm => ?_) (fun acc => by simp) (by have := hb.o; omega)
    have := hb.o
    simp only [hi, decide_true, cond_true, hx, Option.bind_some, plainP2_eq (hb.os x hm)]
    rw [ck_t (by omega)]
  have hbl : loop (fun (s12049 : (List MBlk) × Nat) => (bif decide (s12049.2 < f.Blocks.length) then ((((f.Blocks[s12049.2]?).bind fun x12058 => ((p_slices_Clone_int_int x12058.Params).bind fun y12060 => ((p_code_ownEnd x12058.End).bind fun y12062 => (((loop (fun (s : (List MOp) × Nat) => (bif decide (s.2 < x12058.Ops.length) then ((x12058.Ops[s.2]?).bind fun x => ((p_kind_Plain x).bind fun y => (ck ((s.1.length + 1) * 88 ≤ 140737488355328) (some (Xt.go ((s.1 ++ [y]), (s.2 + 1))))))) else some (Xt.out s.1))) Fu ([], 0))).bind fun (s12065 : (List MOp)) => (ck ((s12049.1.length + 1) * 128 ≤ 140737488355328) (some (s12049.1 ++ [(⟨y12060, s12065, y12062⟩ : MBlk)])))))))).bind fun (s12056 : (List MBlk)) => some (Xt.go (s12056, (s12049.2 + 1)))) else some (Xt.out s12049.1))) Fu ([], 0) = some (f.Blocks.map plB) := by
    refine loop_push f.Blocks plB (fun i x acc hx ha hi hm => ?_) (fun acc => by simp) (by have := h.b; omega)
    have hb := h.bs x hm
    have := h.b
    simp only [hi, decide_true, cond_true, hx, Option.bind_some, clone_eq hb.p, endP_eq hb.l hb.m, hops x hb]
    rw [ck_t (by omega)]
    rfl
  have hown : p_code_own (some ⟨[], [], [f]⟩) = some (some ⟨[], [], [plF f]⟩) := by
    unfold p_code_own optC
    simp only
    rw [show ∀ (b : (List MSig) × Nat → Option (Xt ((List MSig) × Nat) (List MSig))), b ([], 0) = some (.out []) → loop b Fu ([], 0) = some [] from fun b hb => loop_at (fun _ => ([], 0)) 0 [] rfl (fun i hi => by omega) hb (by omega)] <;> try rfl
    simp only [Option.bind_some]
    rw [show ∀ (b : (List MCls) × Nat → Option (Xt ((List MCls) × Nat) (List MCls))), b ([], 0) = some (.out []) → loop b Fu ([], 0) = some [] from fun b hb => loop_at (fun _ => ([], 0)) 0 [] rfl (fun i hi => by omega) hb (by omega)] <;> try rfl
    simp only [Option.bind_some]
    rw [loop_push [f] plF (fun i x acc hx ha hi hm => ?_) (fun acc => by simp) (by simp)]
    · rfl
    · obtain rfl : x = f := by simpa using hm
      have hi' : i = 0 := by simpa using hi
      subst hi'
      simp only [hi, decide_true, cond_true, hx, Option.bind_some]
      rw [hbl]
      have : acc = [] := List.eq_nil_of_length_eq_zero ha
      subst this
      rfl
  unfold p_tidy_own p_code_Copy
  simp only [optC, hown, Option.bind_some]
  rfl
end Go.Proofs.YtpeafglbhjjbhaaDoor


/- The document's copy; other names of values. -/
namespace Go.Proofs.YtpeafglbhjjbhaaDoor
open Go Go.RowKit

/-- A value's name. -/
def toF (to : List Int) (v : Int) : Int := bif decide ((0 : Int) ≤ v) && decide (v < ((to.length : Nat) : Int)) then (to[v.toNat]?).getD 0 else v
theorem named_eq (v : Int) (to : List Int) : p_tidy_named_1 v to = some (toF to v) := by
  unfold p_tidy_named_1 toF
  by_cases h0 : (0 : Int) ≤ v
  · by_cases h1 : v < ((to.length : Nat) : Int)
    · have hl : v.toNat < to.length := by omega
      simp [h0, h1, atI, hl]
    · simp [h0, h1]
  · simp [h0]
theorem names_eq {l : List Int} (to : List Int) (h : l.length ≤ 400) : p_tidy_end_1 l to = some (l.map (toF to)) := by
  unfold p_tidy_end_1
  simp only [clone_eq h, Option.bind_some]
  rw [loop_setI l (toF to) (fun i x s hx hs hi hm => ?_) (fun s hs => by simp) (by omega)]
  · rfl
  · have hlt : ((i : Nat) : Int) < ((l.length : Nat) : Int) := by omega
    simp only [hlt, decide_true, cond_true, atI_nat, hx, Option.bind_some, named_eq, Int.toNat_natCast, wrap_inc (show i < 9223372036854775807 by omega)]
/-- A step with other names. -/
def reO (to : List Int) (o : MOp) : MOp := ⟨o.K, bif hasB o.K 65 then toF to o.A else o.A, bif hasB o.K 66 then toF to o.B else o.B, bif hasB o.K 67 then toF to o.C else o.C, o.N, o.S, bif hasB o.K 76 then o.L.map (toF to) else o.L, o.Stack⟩
theorem bif_len {α : Type} {b : Bool} {l m : List α} {n : Nat} (hl : l.length ≤ n) (hm : m.length ≤ n) : (bif b then l else m).length ≤ n := by cases b <;> assumption
theorem plO_L {o : MOp} (h : o.L.length ≤ 400) : (plO o).L.length ≤ 400 := bif_len h (by simp)
set_option maxRecDepth 100000 in
theorem idx_fin : ∀ n : Fin 26, ∀ c ∈ ([65, 66, 67] : List Int), (p_strings_IndexByte (fb (n.val : Int)) c).map (fun z => decide ((0 : Int) ≤ z)) = some (hasB (n.val : Int) c) := by decide +kernel
theorem idx_eq (k c : Int) (hc : c ∈ ([65, 66, 67] : List Int)) : ∃ z, p_strings_IndexByte (fb k) c = some z ∧ decide ((0 : Int) ≤ z) = hasB k c := by
  have key : (p_strings_IndexByte (fb k) c).map (fun z => decide ((0 : Int) ≤ z)) = some (hasB k c) := by
    by_cases h : k < 0 ∨ 26 ≤ k
    · rw [hasB_out h, fb_out h]
      simp only [List.mem_cons, List.not_mem_nil, or_false] at hc
      rcases hc with rfl | rfl | rfl <;> rfl
    · obtain ⟨n, rfl⟩ := fin_range h
      exact idx_fin n c hc
  cases hz : p_strings_IndexByte (fb k) c with
  | none => rw [hz] at key; cases key
  | some z => rw [hz] at key; exact ⟨z, rfl, by simpa using key⟩
/-- The places of a step's values, one by one. -/
theorem operands_eq {σ ρ : Type} (K : Int) (n : Nat) (hn : n < 18446744073709551616) (body : σ → Nat → Option (Xt σ ρ)) (g : σ → Nat → σ) (s0 : σ) (Inv : σ → Prop) (hi0 : Inv s0) (h' : ∀ s y, Inv s → y < n + 3 → body s y = some (.go (g s y)) ∧ Inv (g s y)) :
    p_kind_operands_1_i K n body s0 = some (.go ((List.range n).foldl (fun s i => g s (i + 3)) (let s1 := bif hasB K 65 then g s0 0 else s0; let s2 := bif hasB K 66 then g s1 1 else s1; bif hasB K 67 then g s2 2 else s2))) := by
  unfold p_kind_operands_1_i
  obtain ⟨z0, hz0, hh0⟩ := idx_eq K 65 (by decide)
  obtain ⟨z1, hz1, hh1⟩ := idx_eq K 66 (by decide)
  obtain ⟨z2, hz2, hh2⟩ := idx_eq K 67 (by decide)
  simp only [fieldsOf_eq, Option.bind_some]
  have hb : ∀ {b : Bool} {x y : σ}, Inv x → Inv y → Inv (bif b then x else y) := fun {b x y} hx hy => by cases b <;> assumption
  have i1 : Inv (bif hasB K 65 then g s0 0 else s0) := hb (h' _ 0 hi0 (by omega)).2 hi0
  have i2 : Inv (bif hasB K 66 then g (bif hasB K 65 then g s0 0 else s0) 1 else bif hasB K 65 then g s0 0 else s0) := hb (h' _ 1 i1 (by omega)).2 i1
  let st : Nat → σ := fun i => match i with
    | 0 => s0
    | 1 => bif hasB K 65 then g s0 0 else s0
    | 2 => let s1 := bif hasB K 65 then g s0 0 else s0; bif hasB K 66 then g s1 1 else s1
    | _ => let s1 := bif hasB K 65 then g s0 0 else s0; let s2 := bif hasB K 66 then g s1 1 else s1; bif hasB K 67 then g s2 2 else s2
  have i3 : Inv (st 3) := hb (h' _ 2 i2 (by omega)).2 i2
  have hf : ∀ i, i ≤ n → Inv ((List.range i).foldl (fun s i => g s (i + 3)) (st 3)) := fun i => by
    induction i with
    | zero => exact fun _ => i3
    | succ i ih =>
      intro hi
      rw [List.range_succ, List.foldl_append]
      exact (h' _ _ (ih (by omega)) (by omega)).2
  rw [loop_at (s := (0, s0)) (fun i => (i, st i)) 3 (.go (st 3)) rfl (fun i hi => ?_) rfl (by omega)]
  · simp only [Option.bind_some, Xt.on]
    rw [loop_at (s := (0, st 3)) (fun i => (i, (List.range i).foldl (fun s i => g s (i + 3)) (st 3))) n (.go ((List.range n).foldl (fun s i => g s (i + 3)) (st 3))) rfl (fun i hi => ?_) (by simp) hn]
    · rfl
    · simp only [hi, decide_true, cond_true, ck_t, Option.bind_some]
      rw [(h' _ _ (hf i (by omega)) (by omega)).1]
      simp only [Option.bind_some, Xt.on, List.range_succ, List.foldl_append, List.foldl_cons, List.foldl_nil]
  · have hi' : i = 0 ∨ i = 1 ∨ i = 2 := by omega
    rcases hi' with rfl | rfl | rfl
    · have e : (((65 : UInt8).toNat : Nat) : Int) = 65 := rfl
      show (((p_strings_IndexByte (fb K) (((65 : UInt8).toNat : Nat) : Int)).bind fun y => bif decide ((0 : Int) ≤ y) then ((body s0 0).bind fun z => (z.on (fun s => some (Xt.go s)) (fun o => some (Xt.out (Xt.out o))))) else some (Xt.go s0)).bind fun s => s.on (fun (s' : σ) => some (Xt.go ((0 + 1), s'))) (fun o => some (Xt.out (Xt.out o)))) = _
      rw [e, hz0, Option.bind_some, hh0, (h' s0 0 hi0 (by omega)).1]
      cases hb : hasB K 65 <;> simp [Xt.on, st, hb]
    · have e : (((66 : UInt8).toNat : Nat) : Int) = 66 := rfl
      show (((p_strings_IndexByte (fb K) (((66 : UInt8).toNat : Nat) : Int)).bind fun y => bif decide ((0 : Int) ≤ y) then ((body (st 1) 1).bind fun z => (z.on (fun s => some (Xt.go s)) (fun o => some (Xt.out (Xt.out o))))) else some (Xt.go (st 1))).bind fun s => s.on (fun (s' : σ) => some (Xt.go ((1 + 1), s'))) (fun o => some (Xt.out (Xt.out o)))) = _
      rw [e, hz1, Option.bind_some, hh1, (h' (st 1) 1 i1 (by omega)).1]
      cases hb : hasB K 66 <;> simp [Xt.on, st, hb]
    · have e : (((67 : UInt8).toNat : Nat) : Int) = 67 := rfl
      show (((p_strings_IndexByte (fb K) (((67 : UInt8).toNat : Nat) : Int)).bind fun y => bif decide ((0 : Int) ≤ y) then ((body (st 2) 2).bind fun z => (z.on (fun s => some (Xt.go s)) (fun o => some (Xt.out (Xt.out o))))) else some (Xt.go (st 2))).bind fun s => s.on (fun (s' : σ) => some (Xt.go ((2 + 1), s'))) (fun o => some (Xt.out (Xt.out o)))) = _
      rw [e, hz2, Option.bind_some, hh2, (h' (st 2) 2 i2 (by omega)).1]
      cases hb : hasB K 67 <;> simp [Xt.on, st, hb]
end Go.Proofs.YtpeafglbhjjbhaaDoor


/- A function with other names of its values: the program's, the document's. -/
namespace Go.Proofs.YtpeafglbhjjbhaaDoor
open Go Go.RowKit

theorem set_fold (f : Int → Int) (l : List Int) : ∀ (n : Nat), n ≤ l.length → (List.range n).foldl (fun (m : List Int) i => m.set i (f ((m[i]?).getD 0))) l = (l.take n).map f ++ l.drop n
  | 0, _ => by simp
  | n + 1, h => by
    rw [List.range_succ, List.foldl_append, set_fold f l n (by omega)]
    have hn : n < l.length := h
    have hx : ((l.take n).map f ++ l.drop n)[n]? = some l[n] := by
      rw [List.getElem?_append_right (by simp; omega)]
      simp [Nat.min_eq_left (Nat.le_of_lt hn)]
    simp only [List.foldl_cons, List.foldl_nil, hx, Option.getD_some]
    rw [take_map_succ l f hn, drop_set l _ _ hn (by simp; omega)]
/-- A value gets its name, in its place. -/
theorem ren1 {σ ρ : Type} (to : List Int) (v : Int) (k : Int → σ) (s : σ) (hs : s = k v) : ((bif decide ((0 : Int) ≤ v) then some (decide (v < ((to.length : Nat) : Int))) else some false).bind fun b => bif b then ((atI to v).bind fun x => some (Xt.go (k x) : Xt σ ρ)) else some (Xt.go s)) = some (Xt.go (k (toF to v))) := by
  subst hs
  unfold toF
  by_cases h0 : (0 : Int) ≤ v
  · by_cases h1 : v < ((to.length : Nat) : Int)
    · have hl : v.toNat < to.length := by omega
      simp [h0, h1, atI, hl]
    · simp [h0, h1]
  · simp [h0]
theorem renP_eq {o : MOp} (to : List Int) (h : o.L.length ≤ 400) : p_kind_Renamed o to = some (reO to (plO o)) := by
  have hL := plO_L h
  have hLe : hasB o.K 76 = false → (plO o).L = [] := fun e => by
    unfold plO
    rw [e]
    rfl
  have hK : (plO o).K = o.K := rfl
  have hre : reO to (plO o) = ⟨(plO o).K, bif hasB (plO o).K 65 then toF to (plO o).A else (plO o).A, bif hasB (plO o).K 66 then toF to (plO o).B else (plO o).B, bif hasB (plO o).K 67 then toF to (plO o).C else (plO o).C, (plO o).N, (plO o).S, (plO o).L.map (toF to), (plO o).Stack⟩ := by
    unfold reO
    cases hh : hasB o.K 76 with
    | false =>
      have := hLe hh
      simp [hK, hh, this]
    | true => simp [hK, hh]
  rw [hre]
  unfold p_kind_Renamed
  simp only [plainP_eq h, Option.bind_some]
  generalize plO o = y at hL
  rw [operands_eq y.K y.L.length (by omega) _ (fun (s : Int × Int × Int × (List Int)) j => placeC j (toF to s.1, s.2.1, s.2.2.1, s.2.2.2) (s.1, toF to s.2.1, s.2.2.1, s.2.2.2) (s.1, s.2.1, toF to s.2.2.1, s.2.2.2) (fun i => (s.1, s.2.1, s.2.2.1, s.2.2.2.set i (toF to ((s.2.2.2[i]?).getD 0))))) (y.A, y.B, y.C, y.L) (fun s => s.2.2.2.length = y.L.length) rfl ?_]
  · have hfold : ∀ (a b c : Int) (m : List Int) (n : Nat), (List.range n).foldl (fun (s : Int × Int × Int × (List Int)) i => (s.1, s.2.1, s.2.2.1, s.2.2.2.set i (toF to ((s.2.2.2[i]?).getD 0)))) (a, b, c, m) = (a, b, c, (List.range n).foldl (fun (m : List Int) i => m.set i (toF to ((m[i]?).getD 0))) m) := fun a b c m n => by
      induction n with
      | zero => rfl
      | succ n ih =>
        rw [List.range_succ, List.foldl_append, List.foldl_append, ih]
        rfl
    have hset := set_fold (toF to) y.L y.L.length (Nat.le_refl _)
    rw [List.take_length, List.drop_length, List.append_nil] at hset
    cases h65 : hasB y.K 65 <;> cases h66 : hasB y.K 66 <;> cases h67 : hasB y.K 67 <;> simp only [cond_true, cond_false, placeC, Option.bind_some, Xt.on] <;> rw [hfold] <;> simp only [hset] <;> rw [ck_t (by simp)]
  · rintro ⟨a, b, c, m⟩ j hm hj
    have hm' : m.length = y.L.length := hm
    rcases plC4 j with rfl | rfl | rfl | ⟨i, rfl⟩
    · exact ⟨ren1 to a (fun x => (x, b, c, m)) _ rfl, hm⟩
    · exact ⟨ren1 to b (fun x => (a, x, c, m)) _ rfl, hm⟩
    · exact ⟨ren1 to c (fun x => (a, b, x, m)) _ rfl, hm⟩
    · have hi : i < m.length := by omega
      refine ⟨?_, by simpa [placeC] using hm⟩
      have hx : m[i]? = some m[i] := List.getElem?_eq_getElem hi
      show ck (i < m.length) (((m[i]?).bind fun x => (bif decide ((0 : Int) ≤ x) then some (decide (x < ((to.length : Nat) : Int))) else some false)).bind fun b' => bif b' then ((m[i]?).bind fun x => ((atI to x).bind fun x' => some (Xt.go (a, b, c, m.set i x')))) else some (Xt.go (a, b, c, m))) = some (Xt.go (a, b, c, m.set i (toF to ((m[i]?).getD 0))))
      rw [ck_t hi, hx]
      simp only [Option.bind_some, Option.getD_some]
      exact ren1 to m[i] (fun x => (a, b, c, m.set i x)) (a, b, c, m) (by simp)
end Go.Proofs.YtpeafglbhjjbhaaDoor


/- A function with other names of its values: program and document come to the same. -/
namespace Go.Proofs.YtpeafglbhjjbhaaDoor
open Go Go.RowKit

def reE (ret : Int) (to : List Int) (e : MEnd) : MEnd := ⟨e.K, bif decide (e.K = 1) || (decide (e.K = 3) || (decide (e.K = 2) && !(decide (ret = (-1))))) then toF to e.A else e.A, e.To, e.Else, bif decide (e.K = 0) || decide (e.K = 1) then e.L.map (toF to) else e.L, bif decide (e.K = 1) then e.M.map (toF to) else e.M⟩
def reB (ret : Int) (to : List Int) (b : MBlk) : MBlk := ⟨b.Params, b.Ops.map (fun o => reO to (plO o)), reE ret to b.End⟩
theorem plE_sz {e : MEnd} (hL : e.L.length ≤ 400) (hM : e.M.length ≤ 400) : (plE e).L.length ≤ 400 ∧ (plE e).M.length ≤ 400 := ⟨bif_len hL (by simp), bif_len hM (by simp)⟩
theorem plB_sz {b : MBlk} (h : SzB b) : SzB (plB b) where
  p := h.p
  o := by simpa [plB] using h.o
  l := (plE_sz h.l h.m).1
  m := (plE_sz h.l h.m).2
  os := fun o ho => by
    obtain ⟨o', h1, rfl⟩ := List.mem_map.1 ho
    exact plO_L (h.os o' h1)
theorem plF_sz {f : MFun} (h : SzF f) : SzF (plF f) where
  b := by simpa [plF] using h.b
  bs := fun b hb => by
    obtain ⟨b', h1, rfl⟩ := List.mem_map.1 hb
    exact plB_sz (h.bs b' h1)
theorem endRen_eq {ret K A To Else : Int} {L M : List Int} (to : List Int) (hL : L.length ≤ 400) (hM : M.length ≤ 400) : p_tidy_end_t1 ret K A To Else L M to = some (reE ret to ⟨K, A, To, Else, L, M⟩) := by
  unfold p_tidy_end_t1 reE p_tidy_itself
  simp only [named_eq, names_eq to hL, names_eq to hM, Option.bind_some]
  cases decide (K = 0) <;> cases decide (K = 1) <;> cases decide (K = 2) <;> cases decide (K = 3) <;> cases decide (ret = -1) <;> rfl
theorem innerP (to : List Int) (s : List MBlk) (i : Nat) (x : MBlk) (hi : i < s.length) (hx : SzB x) : loop (fun (s21084 : (List MBlk) × Int) => (bif decide (s21084.2 < ((x.Ops.length : Nat) : Int)) then ((s21084.1[i]?).bind fun x21089 => ((x21089.Ops[s21084.2.toNat]?).bind fun x21091 => ((atI x21089.Ops s21084.2).bind fun x21093 => ((p_kind_Renamed x21091 to).bind fun y21095 => some (Xt.go ((s21084.1.set i (⟨x21089.Params, (x21089.Ops.set s21084.2.toNat y21095), x21089.End⟩ : MBlk)), IntKind.i64.wrap (s21084.2 + 1))))))) else some (Xt.out s21084.1))) Fu ((s.set i x), 0) = some (s.set i ⟨x.Params, x.Ops.map (fun o => reO to (plO o)), x.End⟩) := by
  have ho := hx.o
  refine loop_at (fun k => (s.set i ⟨x.Params, (x.Ops.take k).map (fun o => reO to (plO o)) ++ x.Ops.drop k, x.End⟩, (k : Int))) x.Ops.length _ (by simp) (fun k hk => ?_) (by simp) (by omega)
  have hlt : ((k : Nat) : Int) < ((x.Ops.length : Nat) : Int) := by omega
  have hxk : ((x.Ops.take k).map (fun o => reO to (plO o)) ++ x.Ops.drop k)[k]? = some x.Ops[k] := by
    rw [List.getElem?_append_right (by simp; omega)]
    simp [Nat.min_eq_left (Nat.le_of_lt hk)]
  simp only [hlt, decide_true, cond_true, List.getElem?_set_self hi, Option.bind_some, Int.toNat_natCast, hxk, atI_nat, renP_eq to (hx.os _ (List.getElem_mem hk)), List.set_set, wrap_inc (show k < 9223372036854775807 by omega)]
  rw [take_map_succ x.Ops (fun o => reO to (plO o)) hk, drop_set x.Ops _ _ hk (by simp; omega)]
theorem renamedS_eq {f : MFun} (to : List Int) (h : SzF f) : p_tidy_renamed_s1 f to = some ⟨f.Ret, (plF f).Blocks.map (reB f.Ret to)⟩ := by
  have hF := plF_sz h
  unfold p_tidy_renamed_s1
  simp only [ownP_eq h, Option.bind_some, p_tidy_named]
  rw [loop_setI (plF f).Blocks (reB f.Ret to) (fun i x s hx hs hi hm => ?_) (fun s hs => by simp) (by have := hF.b; omega)]
  · rfl
  · have hlt : ((i : Nat) : Int) < (((plF f).Blocks.length : Nat) : Int) := by omega
    have hb := hF.bs x hm
    have := hF.b
    simp only [hlt, decide_true, cond_true, atI_nat, hx, Option.bind_some, Int.toNat_natCast]
    rw [innerP to s i x (by omega) hb]
    simp only [Option.bind_some, List.getElem?_set_self (show i < s.length by omega), endRen_eq to hb.l hb.m, List.set_set, wrap_inc (show i < 9223372036854775807 by omega)]
    rfl
end Go.Proofs.YtpeafglbhjjbhaaDoor


/- A function is the same as itself; what isn't great. -/
namespace Go.Proofs.YtpeafglbhjjbhaaDoor
open Go Go.RowKit

theorem wrap_small {i : Int} (h0 : 0 ≤ i) (h1 : i < 9223372036854775808) : IntKind.i64.wrap i = i := by
  have := wrap_nat (n := i.toNat) (by omega)
  rwa [Int.toNat_of_nonneg h0] at this
/-- A sum, till it's great. -/
theorem loop_acc {α : Type} (l : List α) (a1 : Int) {body : Int × Int → Option (Xt (Int × Int) Int)} (P : α → Prop)
    (h1 : ∀ (i : Nat) x (s : Int), l[i]? = some x → i < l.length → x ∈ l → 0 ≤ s → s ≤ a1 → ∃ s', body (s, (i : Int)) = some (.go (s', ((i + 1 : Nat) : Int))) ∧ s ≤ s' ∧ (s' ≤ a1 → P x))
    (h2 : ∀ (i : Nat) (s : Int), i ≤ l.length → (i = l.length ∨ a1 < s) → body (s, (i : Int)) = some (.out s)) (hq : l.length < 18446744073709551616) (s0 : Int) (hs : 0 ≤ s0) : ∃ r, loop body Fu (s0, 0) = some r ∧ s0 ≤ r ∧ (r ≤ a1 → ∀ x ∈ l, P x) := by
  have key : ∀ (n i : Nat) (s : Int), i ≤ l.length → l.length - i < n → 0 ≤ s → ∃ r, loop body n (s, (i : Int)) = some r ∧ s ≤ r ∧ (r ≤ a1 → ∀ x ∈ l.drop i, P x) := by
    intro n
    induction n with
    | zero => intro i s _ h; omega
    | succ n ih =>
      intro i s hi hn hs
      rw [loop_succ]
      by_cases e : i = l.length ∨ a1 < s
      · rw [h2 i s hi e]
        refine ⟨s, rfl, Int.le_refl _, fun hr x hx => ?_⟩
        rcases e with rfl | e
        · simp at hx
        · omega
      · have hil : i < l.length := by omega
        obtain ⟨s', e1, e2, e3⟩ := h1 i l[i] s (List.getElem?_eq_getElem hil) hil (List.getElem_mem hil) hs (by omega)
        rw [e1]
        obtain ⟨r, f1, f2, f3⟩ := ih (i + 1) s' hil (by omega) (by omega)
        refine ⟨r, f1, by omega, fun hr x hx => ?_⟩
        rw [List.drop_eq_getElem_cons hil] at hx
        rcases List.mem_cons.1 hx with rfl | hx
        · exact e3 (by omega)
        · exact f3 hr x hx
  obtain ⟨r, e1, e2, e3⟩ := key Fu 0 s0 (Nat.zero_le _) (by unfold Fu; omega) hs
  exact ⟨r, e1, e2, by simpa using e3⟩
structure LimB (b : MBlk) : Prop where
  p : b.Params.length ≤ 17592186044416
  o : b.Ops.length ≤ 17592186044416
  l : b.End.L.length ≤ 17592186044416
  m : b.End.M.length ≤ 17592186044416
  os : ∀ o ∈ b.Ops, o.L.length ≤ 17592186044416 ∧ o.S.size ≤ 140737488355328
structure LimF (f : MFun) : Prop where
  b : f.Blocks.length ≤ 17592186044416
  bs : ∀ b ∈ f.Blocks, LimB b
structure LimP (p : MPrg) : Prop where
  s : p.Sigs.length ≤ 17592186044416
  c : p.Classes.length ≤ 17592186044416
  f : p.Funcs.length ≤ 17592186044416
  ss : ∀ s ∈ p.Sigs, s.Params.length ≤ 17592186044416
  cs : ∀ c ∈ p.Classes, c.Fields.length ≤ 17592186044416 ∧ c.Methods.length ≤ 17592186044416
  fs : ∀ f ∈ p.Funcs, LimF f
theorem grd_t {n : Int} {i q : Nat} {a1 : Int} (hi : i < q) (hn : n ≤ a1) : (bif decide (((i : Nat) : Int) < ((q : Nat) : Int)) then some (decide (n ≤ a1)) else some false) = some true := by
  have : ((i : Nat) : Int) < ((q : Nat) : Int) := by omega
  simp [this, hn]
theorem grd_f {n : Int} {i q : Nat} {a1 : Int} (h : i = q ∨ a1 < n) (hi : i ≤ q) : (bif decide (((i : Nat) : Int) < ((q : Nat) : Int)) then some (decide (n ≤ a1)) else some false) = some false := by
  rcases h with rfl | h
  · simp
  · have hn : ¬ n ≤ a1 := by omega
    by_cases e : ((i : Nat) : Int) < ((q : Nat) : Int) <;> simp [e, hn]
theorem smallOps (x : MBlk) (hx : LimB x) (s0 : Int) (hs : 0 ≤ s0) : ∃ r, loop (fun (s15061 : Int × Int) => (((bif decide (s15061.2 < ((x.Ops.length : Nat) : Int)) then some (decide (s15061.1 ≤ 400)) else some false)).bind fun (s15066 : Bool) => (bif s15066 then ((atI x.Ops s15061.2).bind fun x15070 => some (Xt.go (IntKind.i64.wrap (IntKind.i64.wrap (s15061.1 + ((x15070.L.length : Nat) : Int)) + IntKind.i64.wrap (Int.tdiv ((x15070.S.size : Nat) : Int) 8)), IntKind.i64.wrap (s15061.2 + 1)))) else some (Xt.out s15061.1)))) Fu (s0, 0) = some r ∧ s0 ≤ r ∧ (r ≤ 400 → ∀ o ∈ x.Ops, o.L.length ≤ 400) := by
  have ho := hx.o
  refine loop_acc x.Ops 400 (fun o => o.L.length ≤ 400) (fun i o s hio hi hm h0 h1 => ?_) (fun i s hi h => ?_) (by omega) s0 hs
  · obtain ⟨g1, g2⟩ := hx.os o hm
    have hd0 : 0 ≤ Int.tdiv ((o.S.size : Nat) : Int) 8 := Int.tdiv_nonneg (by omega) (by omega)
    have hd1 : Int.tdiv ((o.S.size : Nat) : Int) 8 ≤ ((o.S.size : Nat) : Int) := by
      rw [Int.tdiv_eq_ediv_of_nonneg (by omega)]
      omega
    simp only [grd_t hi h1, Option.bind_some, cond_true, atI_nat, hio, wrap_inc (show i < 9223372036854775807 by omega)]
    rw [wrap_small hd0 (by omega), wrap_small (i := s + _) (by omega) (by omega), wrap_small (by omega) (by omega)]
    exact ⟨_, rfl, by omega, fun h => by omega⟩
  · simp only [grd_f h hi, Option.bind_some, cond_false]
theorem smallBlks (f : MFun) (hf : LimF f) (s0 : Int) (hs : 0 ≤ s0) : ∃ r, loop (fun (s12047 : Int × Int) => (((bif decide (s12047.2 < ((f.Blocks.length : Nat) : Int)) then some (decide (s12047.1 ≤ 400)) else some false)).bind fun (s12052 : Bool) => (bif s12052 then ((((atI f.Blocks s12047.2).bind fun x12059 => (loop (fun (s15061 : Int × Int) => (((bif decide (s15061.2 < ((x12059.Ops.length : Nat) : Int)) then some (decide (s15061.1 ≤ 400)) else some false)).bind fun (s15066 : Bool) => (bif s15066 then ((atI x12059.Ops s15061.2).bind fun x15070 => some (Xt.go (IntKind.i64.wrap (IntKind.i64.wrap (s15061.1 + ((x15070.L.length : Nat) : Int)) + IntKind.i64.wrap (Int.tdiv ((x15070.S.size : Nat) : Int) 8)), IntKind.i64.wrap (s15061.2 + 1)))) else some (Xt.out s15061.1)))) Fu (IntKind.i64.wrap (IntKind.i64.wrap (IntKind.i64.wrap (IntKind.i64.wrap (s12047.1 + ((x12059.Params.length : Nat) : Int)) + ((x12059.Ops.length : Nat) : Int)) + ((x12059.End.L.length : Nat) : Int)) + ((x12059.End.M.length : Nat) : Int)), 0)))).bind fun (s12057 : Int) => some (Xt.go (s12057, IntKind.i64.wrap (s12047.2 + 1)))) else some (Xt.out s12047.1)))) Fu (s0, 0) = some r ∧ s0 ≤ r ∧ (r ≤ 400 → ∀ b ∈ f.Blocks, SzB b) := by
  have hb := hf.b
  refine loop_acc f.Blocks 400 SzB (fun i x s hix hi hm h0 h1 => ?_) (fun i s hi h => ?_) (by omega) s0 hs
  · have hl := hf.bs x hm
    have g1 := hl.p
    have g2 := hl.o
    have g3 := hl.l
    have g4 := hl.m
    simp only [grd_t hi h1, Option.bind_some, cond_true, atI_nat, hix, wrap_inc (show i < 9223372036854775807 by omega)]
    rw [wrap_small (i := s + _) (by omega) (by omega), wrap_small (i := s + _ + _) (by omega) (by omega), wrap_small (i := s + _ + _ + _) (by omega) (by omega), wrap_small (by omega) (by omega)]
    obtain ⟨r, e1, e2, e3⟩ := smallOps x hl (s + ((x.Params.length : Nat) : Int) + ((x.Ops.length : Nat) : Int) + ((x.End.L.length : Nat) : Int) + ((x.End.M.length : Nat) : Int)) (by omega)
    rw [e1]
    exact ⟨r, rfl, by omega, fun h => ⟨by omega, by omega, by omega, by omega, e3 h⟩⟩
  · simp only [grd_f h hi, Option.bind_some, cond_false]
theorem re_sz {f : MFun} (to : List Int) (hs : SzF f) : SzF ⟨f.Ret, (plF f).Blocks.map (reB f.Ret to)⟩ := by
  have hF := plF_sz hs
  refine ⟨by simpa using hF.b, fun b hb => ?_⟩
  obtain ⟨b', h1, rfl⟩ := List.mem_map.1 hb
  have hb' := hF.bs b' h1
  refine ⟨hb'.p, by simpa [reB] using hb'.o, bif_len (by simpa using hb'.l) hb'.l, bif_len (by simpa using hb'.m) hb'.m, fun o ho => ?_⟩
  obtain ⟨o', h2, rfl⟩ := List.mem_map.1 ho
  have := plO_L (hb'.os o' h2)
  exact bif_len (by simpa using this) this
end Go.Proofs.YtpeafglbhjjbhaaDoor


/- Steps that are left out: names, and which steps stay. -/
namespace Go.Proofs.YtpeafglbhjjbhaaDoor
open Go Go.RowKit

def gone (keep : List Bool) (v : Nat) : Bool := decide (v < keep.length) && !((keep[v]?).getD true)
theorem gone_eq (keep : List Bool) (v : Nat) : p_tidy_Kept_1 (v : Int) keep = some (gone keep v) := by
  unfold p_tidy_Kept_1 gone
  by_cases h : v < keep.length
  · have h2 : ((v : Nat) : Int) < ((keep.length : Nat) : Int) := by omega
    simp [h, h2, atI_nat]
  · have h2 : ¬ ((v : Nat) : Int) < ((keep.length : Nat) : Int) := by omega
    simp [h, h2]
def rndK (keep : List Bool) (P k : Nat) (s : List Int × Int) : List Int × Int := bif decide (P ≤ k) && gone keep s.1.length then (s.1 ++ [(-1)], s.2) else (s.1 ++ [s.2], s.2 + 1)
def blkK (keep : List Bool) (P n : Nat) (s : List Int × Int) : List Int × Int := (List.range n).foldl (fun s k => rndK keep P k s) s
theorem blkK_succ (keep : List Bool) (P n : Nat) (s : List Int × Int) : blkK keep P (n + 1) s = rndK keep P n (blkK keep P n s) := by
  unfold blkK
  rw [List.range_succ, List.foldl_append]
  rfl
theorem blkK_inv (keep : List Bool) (P : Nat) (s : List Int × Int) (hs : 0 ≤ s.2 ∧ s.2 ≤ (s.1.length : Int)) : ∀ n, (blkK keep P n s).1.length = s.1.length + n ∧ 0 ≤ (blkK keep P n s).2 ∧ (blkK keep P n s).2 ≤ ((blkK keep P n s).1.length : Int) ∧ (∀ j, j < s.1.length → (blkK keep P n s).1[j]? = s.1[j]?) ∧
    ∀ k, k < n → ∃ x, (blkK keep P n s).1[s.1.length + k]? = some x ∧ (0 ≤ x ↔ ¬ (P ≤ k ∧ gone keep (s.1.length + k) = true))
  | 0 => ⟨rfl, hs.1, hs.2, fun _ _ => rfl, fun _ h => by omega⟩
  | n + 1 => by
    obtain ⟨g1, g2, g3, g4, g5⟩ := blkK_inv keep P s hs n
    rw [blkK_succ]
    generalize blkK keep P n s = t at g1 g2 g3 g4 g5
    unfold rndK
    have key : ∀ (y m : Int), 0 ≤ m → m ≤ ((t.1.length : Int) + 1) → (0 ≤ y ↔ ¬ (P ≤ n ∧ gone keep (s.1.length + n) = true)) → (t.1 ++ [y]).length = s.1.length + (n + 1) ∧ 0 ≤ m ∧ m ≤ ((t.1 ++ [y]).length : Int) ∧ (∀ j, j < s.1.length → (t.1 ++ [y])[j]? = s.1[j]?) ∧ ∀ k, k < n + 1 → ∃ x, (t.1 ++ [y])[s.1.length + k]? = some x ∧ (0 ≤ x ↔ ¬ (P ≤ k ∧ gone keep (s.1.length + k) = true)) := fun y m h0 h1 hy => by
      refine ⟨by simp; omega, h0, by simp; omega, fun j hj => ?_, fun k hk => ?_⟩
      · rw [List.getElem?_append_left (by omega)]
        exact g4 j hj
      · by_cases e : k = n
        · subst e
          refine ⟨y, ?_, hy⟩
          rw [List.getElem?_append_right (by omega), g1, Nat.sub_self]
          rfl
        · rw [List.getElem?_append_left (by omega)]
          exact g5 k (by omega)
    by_cases hP : P ≤ n
    · cases hg : gone keep (s.1.length + n) with
      | true =>
        rw [g1]
        simp only [hP, hg, decide_true, Bool.and_self, cond_true]
        exact key (-1) t.2 g2 (by omega) (by simp [hP, hg])
      | false =>
        rw [g1]
        simp only [hg, Bool.and_false, cond_false]
        exact key t.2 (t.2 + 1) (by omega) (by omega) (by simp [hg]; omega)
    · simp only [hP, decide_false, Bool.false_and, cond_false]
      exact key t.2 (t.2 + 1) (by omega) (by omega) (by simp [hP]; omega)
def nB (b : MBlk) : Nat := b.Params.length + b.Ops.length
def offs (bs : List MBlk) (i : Nat) : Nat := ((bs.take i).map nB).sum
theorem offs_succ (bs : List MBlk) {i : Nat} (hi : i < bs.length) : offs bs (i + 1) = offs bs i + nB bs[i] := by
  unfold offs
  rw [List.take_succ_eq_append_getElem hi, List.map_append, List.sum_append]
  rfl
def toK (keep : List Bool) (bs : List MBlk) : List Int × Int := bs.foldl (fun s b => blkK keep b.Params.length (nB b) s) ([], 0)
theorem toK_succ (keep : List Bool) (bs : List MBlk) {i : Nat} (hi : i < bs.length) : toK keep (bs.take (i + 1)) = blkK keep bs[i].Params.length (nB bs[i]) (toK keep (bs.take i)) := by
  unfold toK
  rw [List.take_succ_eq_append_getElem hi, List.foldl_append]
  rfl
theorem toK_inv (keep : List Bool) (bs : List MBlk) : ∀ i, i ≤ bs.length → (toK keep (bs.take i)).1.length = offs bs i ∧ 0 ≤ (toK keep (bs.take i)).2 ∧ (toK keep (bs.take i)).2 ≤ ((toK keep (bs.take i)).1.length : Int) ∧
    ∀ i' (h : i' < bs.length), i' < i → ∀ k, k < nB bs[i'] → ∃ x, (toK keep (bs.take i)).1[offs bs i' + k]? = some x ∧ (0 ≤ x ↔ ¬ (bs[i'].Params.length ≤ k ∧ gone keep (offs bs i' + k) = true))
  | 0, _ => by simp [toK, offs]
  | i + 1, hi => by
    obtain ⟨g1, g2, g3, g4⟩ := toK_inv keep bs i (by omega)
    have hi' : i < bs.length := hi
    rw [toK_succ keep bs hi', offs_succ bs hi']
    obtain ⟨f1, f2, f3, f4, f5⟩ := blkK_inv keep bs[i].Params.length (toK keep (bs.take i)) ⟨g2, g3⟩ (nB bs[i])
    refine ⟨by rw [f1, g1], f2, f3, fun i' h hlt k hk => ?_⟩
    by_cases e : i' = i
    · subst e
      rw [← g1]
      exact f5 k hk
    · obtain ⟨x, e1, e2⟩ := g4 i' h (by omega) k hk
      refine ⟨x, ?_, e2⟩
      rw [f4 _ ?_]
      · exact e1
      · exact (List.getElem?_eq_some_iff.1 e1).1
theorem offs_le {f : MFun} (h : SzF f) : ∀ i, i ≤ f.Blocks.length → offs f.Blocks i ≤ 800 * i
  | 0, _ => by simp [offs]
  | i + 1, hi => by
    have := offs_le h i (by omega)
    have hb := h.bs _ (List.getElem_mem (show i < f.Blocks.length from hi))
    have h1 := hb.p
    have h2 := hb.o
    rw [offs_succ f.Blocks hi]
    unfold nB
    omega
theorem offs_lt {f : MFun} (h : SzF f) {i : Nat} (hi : i ≤ f.Blocks.length) : offs f.Blocks i ≤ 320000 := by
  have := offs_le h i hi
  have := h.b
  omega
/-- The program's names. -/
theorem toP_eq {f : MFun} (keep : List Bool) (h : SzF f) : loop (fun (s3004 : (List Int) × Int × Nat) => (bif decide (s3004.2.2 < f.Blocks.length) then ((((f.Blocks[s3004.2.2]?).bind fun x3014 => (loop (fun (s6016 : (List Int) × Int × Int) => (bif decide (s6016.2.2 < IntKind.i64.wrap (((x3014.Params.length : Nat) : Int) + ((x3014.Ops.length : Nat) : Int))) then (((((bif decide (((x3014.Params.length : Nat) : Int) ≤ s6016.2.2) then ((p_tidy_Kept_1 ((s6016.1.length : Nat) : Int) keep).bind fun y6029 => some y6029) else some false)).bind fun (s6026 : Bool) => (bif s6026 then (ck ((s6016.1.length + 1) * 8 ≤ 140737488355328) (some ((s6016.1 ++ [(-1)]), s6016.2.1))) else (ck ((s6016.1.length + 1) * 8 ≤ 140737488355328) (some ((s6016.1 ++ [s6016.2.1]), IntKind.i64.wrap (s6016.2.1 + 1))))))).bind fun (s6023 : (List Int) × Int) => some (Xt.go (s6023.1, s6023.2, IntKind.i64.wrap (s6016.2.2 + 1)))) else some (Xt.out (s6016.1, s6016.2.1)))) Fu (s3004.1, s3004.2.1, 0)))).bind fun (s3012 : (List Int) × Int) => some (Xt.go (s3012.1, s3012.2, (s3004.2.2 + 1)))) else some (Xt.out s3004.1))) Fu ([], 0, 0) = some (toK keep f.Blocks).1 := by
  have hb := h.b
  refine loop_at (fun i => ((toK keep (f.Blocks.take i)).1, (toK keep (f.Blocks.take i)).2, i)) f.Blocks.length _ (by simp [toK]) (fun i hi => ?_) (by simp) (by omega)
  have hx : f.Blocks[i]? = some f.Blocks[i] := List.getElem?_eq_getElem hi
  have hbi := h.bs _ (List.getElem_mem hi)
  obtain ⟨g1, g2, g3, _⟩ := toK_inv keep f.Blocks i (by omega)
  have hl := offs_lt h (show i ≤ f.Blocks.length by omega)
  have hp := hbi.p
  have ho := hbi.o
  simp only [hi, decide_true, cond_true, hx, Option.bind_some, toK_succ keep f.Blocks hi]
  generalize toK keep (f.Blocks.take i) = s at g1 g2 g3
  have hw : IntKind.i64.wrap (((f.Blocks[i].Params.length : Nat) : Int) + ((f.Blocks[i].Ops.length : Nat) : Int)) = ((nB f.Blocks[i] : Nat) : Int) := by
    rw [wrap_small (by omega) (by omega)]
    unfold nB
    omega
  rw [hw]
  rw [loop_at (s := (s.1, s.2, 0)) (fun k => ((blkK keep f.Blocks[i].Params.length k s).1, (blkK keep f.Blocks[i].Params.length k s).2, (k : Int))) (nB f.Blocks[i]) (blkK keep f.Blocks[i].Params.length (nB f.Blocks[i]) s) rfl (fun k hk => ?_) (by simp) (by unfold nB; omega)]
  · rfl
  · obtain ⟨f1, f2, f3, _, _⟩ := blkK_inv keep f.Blocks[i].Params.length s ⟨g2, g3⟩ k
    have hk2 : ((k : Nat) : Int) < ((nB f.Blocks[i] : Nat) : Int) := by omega
    have hnb : nB f.Blocks[i] ≤ 800 := by unfold nB; omega
    simp only [hk2, decide_true, cond_true, gone_eq, Option.bind_some, blkK_succ, wrap_inc (show k < 9223372036854775807 by omega)]
    generalize blkK keep f.Blocks[i].Params.length k s = t at f1 f2 f3
    rw [ck_t (by omega), ck_t (by omega), wrap_small (i := t.2 + 1) (by omega) (by omega)]
    unfold rndK
    by_cases hP : f.Blocks[i].Params.length ≤ k
    · have hP2 : ((f.Blocks[i].Params.length : Nat) : Int) ≤ ((k : Nat) : Int) := by omega
      cases hg : gone keep t.1.length <;> simp [hP, hP2]
    · have hP2 : ¬ ((f.Blocks[i].Params.length : Nat) : Int) ≤ ((k : Nat) : Int) := by omega
      simp [hP, hP2]
end Go.Proofs.YtpeafglbhjjbhaaDoor


/- Steps that are left out: program and document come to the same. -/
namespace Go.Proofs.YtpeafglbhjjbhaaDoor
open Go Go.RowKit

theorem first_eq {f : MFun} (h : SzF f) {i : Nat} (hi : i ≤ f.Blocks.length) : p_R05_First f (i : Int) = some ((offs f.Blocks i : Nat) : Int) := by
  unfold p_R05_First
  have hb := h.b
  rw [loop_at (s := (0, 0)) (fun j => (((offs f.Blocks j : Nat) : Int), (j : Int))) i ((offs f.Blocks i : Nat) : Int) (by simp [offs]) (fun j hj => ?_) (by simp) (by omega)]
  · rfl
  · have hjl : j < f.Blocks.length := by omega
    have hj1 : ((j : Nat) : Int) < ((i : Nat) : Int) := by omega
    have hj2 : ((j : Nat) : Int) < ((f.Blocks.length : Nat) : Int) := by omega
    have hx : f.Blocks[j]? = some f.Blocks[j] := List.getElem?_eq_getElem hjl
    have hbi := h.bs _ (List.getElem_mem hjl)
    have hp := hbi.p
    have ho := hbi.o
    have hl := offs_lt h (show j ≤ f.Blocks.length by omega)
    simp only [hj1, hj2, decide_true, cond_true, Option.bind_some, atI_nat, hx, wrap_inc (show j < 9223372036854775807 by omega)]
    rw [wrap_small (i := ((offs f.Blocks j : Nat) : Int) + _) (by omega) (by omega), wrap_small (by omega) (by omega), offs_succ f.Blocks hjl]
    congr 3
    unfold nB
    omega
/-- The steps that stay. -/
def kAcc (keep : List Bool) (j0 : Nat) (ops : List MOp) (k : Nat) : List MOp := (List.range k).filterMap fun i => bif gone keep (j0 + i) then none else ops[i]?
theorem kAcc_succ (keep : List Bool) (j0 : Nat) (ops : List MOp) {k : Nat} (hk : k < ops.length) : kAcc keep j0 ops (k + 1) = bif gone keep (j0 + k) then kAcc keep j0 ops k else kAcc keep j0 ops k ++ [ops[k]] := by
  unfold kAcc
  rw [List.range_succ, List.filterMap_append]
  have hx : ops[k]? = some ops[k] := List.getElem?_eq_getElem hk
  cases hg : gone keep (j0 + k) <;> simp [hg, hx]
theorem kAcc_len (keep : List Bool) (j0 : Nat) (ops : List MOp) (k : Nat) : (kAcc keep j0 ops k).length ≤ k := by
  have := List.length_filterMap_le (fun i => bif gone keep (j0 + i) then none else ops[i]?) (List.range k)
  simpa [kAcc] using this
theorem kAcc_mem {keep : List Bool} {j0 : Nat} {ops : List MOp} {k : Nat} {o : MOp} (h : o ∈ kAcc keep j0 ops k) : o ∈ ops := by
  obtain ⟨i, _, hi⟩ := List.mem_filterMap.1 h
  cases hg : gone keep (j0 + i) with
  | true => rw [hg] at hi; cases hi
  | false => rw [hg] at hi; exact List.mem_of_getElem? hi
def kB (keep : List Bool) (Bs : List MBlk) (i : Nat) (b : MBlk) : MBlk := ⟨b.Params, kAcc keep (offs Bs i + b.Params.length) b.Ops b.Ops.length, b.End⟩
theorem mapIdx_take {α : Type} (l : List α) (g : Nat → α → α) {i : Nat} (hi : i < l.length) : (l.mapIdx g).take (i + 1) = (l.mapIdx g).take i ++ [g i l[i]] := by
  rw [List.take_succ_eq_append_getElem (by simpa using hi)]
  simp
/-- Blocks are changed one by one, each by its number. -/
theorem idx_step {α : Type} (l : List α) (g : Nat → α → α) {i : Nat} (hi : i < l.length) : ((l.mapIdx g).take i ++ l.drop i)[i]? = some l[i] ∧ ((l.mapIdx g).take i ++ l.drop i).length = l.length ∧ ((l.mapIdx g).take i ++ l.drop i).set i (g i l[i]) = (l.mapIdx g).take (i + 1) ++ l.drop (i + 1) := by
  have hlen : ((l.mapIdx g).take i).length = i := by simp; omega
  refine ⟨?_, by simp; omega, ?_⟩
  · rw [List.getElem?_append_right (by omega), hlen, Nat.sub_self, List.getElem?_drop]
    exact List.getElem?_eq_getElem hi
  · rw [drop_set l _ _ hi hlen, mapIdx_take l g hi]
theorem keptP_eq {f : MFun} (keep : List Bool) (h : SzF f) : p_tidy_Kept_t1 f.Ret f.Blocks keep = some ⟨f.Ret, ((plF f).Blocks.map (reB f.Ret (toK keep f.Blocks).1)).mapIdx (kB keep ((plF f).Blocks.map (reB f.Ret (toK keep f.Blocks).1)))⟩ := by
  have hren2 := renamedS_eq (toK keep f.Blocks).1 h
  unfold p_tidy_Kept_t1
  rw [toP_eq keep h]
  simp only [Option.bind_some]
  rw [show (⟨f.Ret, f.Blocks⟩ : MFun) = f from rfl, hren2]
  simp only [Option.bind_some]
  have hF := plF_sz h
  have hSz : SzF ⟨f.Ret, (plF f).Blocks.map (reB f.Ret (toK keep f.Blocks).1)⟩ := re_sz (toK keep f.Blocks).1 h
  generalize (plF f).Blocks.map (reB f.Ret (toK keep f.Blocks).1) = Bs at hSz
  have hbn : Bs.length ≤ 400 := hSz.b
  rw [loop_at (s := (Bs, 0, 0)) (fun i => ((Bs.mapIdx (kB keep Bs)).take i ++ Bs.drop i, ((offs Bs i : Nat) : Int), (i : Int))) Bs.length (Bs.mapIdx (kB keep Bs)) (by simp [offs]) (fun i hi => ?_) (by
    have e : (Bs.mapIdx (kB keep Bs)).take Bs.length = Bs.mapIdx (kB keep Bs) := List.take_of_length_le (by simp)
    simp [e]) (by omega)]
  · rfl
  · obtain ⟨g1, g2, g3⟩ := idx_step Bs (kB keep Bs) hi
    have hbi := hSz.bs _ (List.getElem_mem hi)
    have hp := hbi.p
    have ho := hbi.o
    have hl : offs Bs i ≤ 320000 := offs_lt hSz (show i ≤ Bs.length by omega)
    have hi2 : ((i : Nat) : Int) < ((Bs.length : Nat) : Int) := by omega
    simp only [hi2, decide_true, cond_true, atI_nat, g1, Option.bind_some, Int.toNat_natCast]
    have hw : IntKind.i64.wrap (((offs Bs i : Nat) : Int) + ((Bs[i].Params.length : Nat) : Int)) = ((offs Bs i + Bs[i].Params.length : Nat) : Int) := by
      rw [wrap_small (by omega) (by omega)]
      omega
    rw [hw, loop_at (s := (((offs Bs i + Bs[i].Params.length : Nat) : Int), 0, [])) (fun k => (((offs Bs i + Bs[i].Params.length + k : Nat) : Int), k, kAcc keep (offs Bs i + Bs[i].Params.length) Bs[i].Ops k)) Bs[i].Ops.length (((Bs.mapIdx (kB keep Bs)).take i ++ Bs.drop i).set i (kB keep Bs i Bs[i]), ((offs Bs (i + 1) : Nat) : Int)) (by simp [kAcc]) (fun k hk => ?_) (by
      simp only [Nat.lt_irrefl, decide_false, cond_false, offs_succ Bs hi]
      congr 4
      unfold nB
      omega) (by omega)]
    · simp only [Option.bind_some, g3, wrap_inc (show i < 9223372036854775807 by omega)]
    · have hx : Bs[i].Ops[k]? = some Bs[i].Ops[k] := List.getElem?_eq_getElem hk
      have hal := kAcc_len keep (offs Bs i + Bs[i].Params.length) Bs[i].Ops k
      simp only [hk, decide_true, cond_true, hx, Option.bind_some, gone_eq, kAcc_succ keep _ Bs[i].Ops hk]
      rw [ck_t (by omega), bif_some]
      simp only [Option.bind_some]
      rw [show ((offs Bs i + Bs[i].Params.length + k : Nat) : Int) + 1 = ((offs Bs i + Bs[i].Params.length + (k + 1) : Nat) : Int) by omega, wrap_nat (by omega)]
end Go.Proofs.YtpeafglbhjjbhaaDoor


/- Steps that are left out: the document's function; the law in plain terms. -/
namespace Go.Proofs.YtpeafglbhjjbhaaDoor
open Go Go.RowKit

theorem offs_map {l m : List MBlk} (h : l.map nB = m.map nB) (i : Nat) : offs l i = offs m i := by
  unfold offs
  rw [List.map_take, List.map_take, h]
theorem re_nB {f : MFun} (to : List Int) : ((plF f).Blocks.map (reB f.Ret to)).map nB = f.Blocks.map nB := by
  simp only [plF, List.map_map]
  refine List.map_congr_left fun b _ => ?_
  simp [nB, reB, plB]
theorem re_at {f : MFun} (to : List Int) {i : Nat} (hi : i < f.Blocks.length) (hi2 : i < ((plF f).Blocks.map (reB f.Ret to)).length) : (((plF f).Blocks.map (reB f.Ret to))[i]).Params = (f.Blocks[i]).Params ∧ (((plF f).Blocks.map (reB f.Ret to))[i]).Ops.length = (f.Blocks[i]).Ops.length := by
  simp [plF, reB, plB]
theorem kept_sz {f : MFun} (keep : List Bool) (h : SzF f) : SzF ⟨f.Ret, ((plF f).Blocks.map (reB f.Ret (toK keep f.Blocks).1)).mapIdx (kB keep ((plF f).Blocks.map (reB f.Ret (toK keep f.Blocks).1)))⟩ := by
  have hSz : SzF ⟨f.Ret, (plF f).Blocks.map (reB f.Ret (toK keep f.Blocks).1)⟩ := re_sz (toK keep f.Blocks).1 h
  generalize (plF f).Blocks.map (reB f.Ret (toK keep f.Blocks).1) = Bs at hSz
  refine ⟨by simpa using hSz.b, fun b hb => ?_⟩
  obtain ⟨i, hi, rfl⟩ := List.getElem_of_mem hb
  have hi' : i < Bs.length := by simpa using hi
  have hbi := hSz.bs _ (List.getElem_mem hi')
  simp only [List.getElem_mapIdx]
  have hal := kAcc_len keep (offs Bs i + Bs[i].Params.length) Bs[i].Ops Bs[i].Ops.length
  exact ⟨hbi.p, Nat.le_trans hal hbi.o, hbi.l, hbi.m, fun o ho => hbi.os o (kAcc_mem ho)⟩
end Go.Proofs.YtpeafglbhjjbhaaDoor


/- Blocks in another order: names of values and of blocks. -/
namespace Go.Proofs.YtpeafglbhjjbhaaDoor
open Go Go.RowKit

def fill (a : Nat) : Nat → List Int × Int → List Int × Int
  | 0, s => s
  | m + 1, s => ((fill a m s).1.set (a + m) (fill a m s).2, (fill a m s).2 + 1)
theorem fill_len (a : Nat) (s : List Int × Int) : ∀ m, (fill a m s).1.length = s.1.length ∧ (fill a m s).2 = s.2 + (m : Int)
  | 0 => ⟨rfl, by simp [fill]⟩
  | m + 1 => by
    obtain ⟨g1, g2⟩ := fill_len a s m
    refine ⟨by simp [fill, g1], ?_⟩
    show (fill a m s).2 + 1 = _
    omega
theorem fill_loop {ρ : Type} {F1 : Option Int} (a m : Nat) (hF : F1 = some ((a + m : Nat) : Int)) (K : List Int → Int → ρ) (to : List Int) (n : Int) (hto : a + m ≤ to.length) (ham : a + m ≤ 400000) (hn0 : 0 ≤ n) (hn : n ≤ 400000) :
    loop (fun (s : (List Int) × Int × Int) => (F1.bind fun y => (bif decide (s.2.2 < y) then ((atI s.1 s.2.2).bind fun _ => some (Xt.go ((s.1.set s.2.2.toNat s.2.1), IntKind.i64.wrap (s.2.1 + 1), IntKind.i64.wrap (s.2.2 + 1)))) else some (Xt.out (K s.1 s.2.1))))) Fu (to, n, (a : Int)) = some (K (fill a m (to, n)).1 (fill a m (to, n)).2) := by
  subst hF
  refine loop_at (fun i => ((fill a i (to, n)).1, (fill a i (to, n)).2, ((a + i : Nat) : Int))) m _ (by simp [fill]) (fun i hi => ?_) (by simp) (by omega)
  obtain ⟨g1, g2⟩ := fill_len a (to, n) i
  have hlt : ((a + i : Nat) : Int) < ((a + m : Nat) : Int) := by omega
  have hx : (fill a i (to, n)).1[a + i]? = some ((fill a i (to, n)).1[a + i]'(by rw [g1]; show a + i < to.length; omega)) := List.getElem?_eq_getElem _
  simp only [Option.bind_some, hlt, decide_true, cond_true, atI_nat, hx, Int.toNat_natCast, wrap_inc (show a + i < 9223372036854775807 by omega)]
  rw [wrap_small (by omega) (by omega)]
  rfl
structure OS where
  to : List Int
  n : Int
  wh : List Int
  l : List Int
def skipO (s : OS) (x : Int) : Bool := decide (x < 0) || (decide (((s.wh.length : Nat) : Int) ≤ x) || decide ((0 : Int) ≤ (s.wh[x.toNat]?).getD 0))
def stepO (bs : List MBlk) (s : OS) (x : Int) : OS := bif skipO s x then s else ⟨(fill (offs bs x.toNat) (offs bs (x.toNat + 1) - offs bs x.toNat) (s.to, s.n)).1, (fill (offs bs x.toNat) (offs bs (x.toNat + 1) - offs bs x.toNat) (s.to, s.n)).2, s.wh.set x.toNat ((s.l.length : Nat) : Int), s.l ++ [x]⟩
structure InvO (bs : List MBlk) (s : OS) : Prop where
  w : s.wh.length = bs.length
  t : s.to.length = offs bs bs.length
  c : s.l.length + s.wh.countP (fun w => decide (w < 0)) = bs.length
  m : ∀ x ∈ s.l, 0 ≤ x ∧ x < ((bs.length : Nat) : Int)
  n0 : 0 ≤ s.n
  n1 : s.n ≤ 800 * (s.l.length : Int)
theorem skipO_f {s : OS} {x : Int} (h : skipO s x = false) : 0 ≤ x ∧ x < ((s.wh.length : Nat) : Int) ∧ ∃ w, s.wh[x.toNat]? = some w ∧ w < 0 := by
  unfold skipO at h
  simp only [Bool.or_eq_false_iff, decide_eq_false_iff_not] at h
  obtain ⟨h1, h2, h3⟩ := h
  have hl : x.toNat < s.wh.length := by omega
  have hx : s.wh[x.toNat]? = some s.wh[x.toNat] := List.getElem?_eq_getElem hl
  rw [hx] at h3
  exact ⟨by omega, by omega, _, hx, by simpa using h3⟩
theorem offs_mono {f : MFun} (h : SzF f) {i : Nat} (hi : i < f.Blocks.length) : offs f.Blocks i ≤ offs f.Blocks (i + 1) ∧ offs f.Blocks (i + 1) ≤ offs f.Blocks i + 800 := by
  have hb := h.bs _ (List.getElem_mem hi)
  have h1 := hb.p
  have h2 := hb.o
  rw [offs_succ f.Blocks hi]
  unfold nB
  omega
theorem offs_end {bs : List MBlk} : ∀ (d i : Nat), i + d = bs.length → offs bs i ≤ offs bs bs.length
  | 0, i, h => by
    obtain rfl : i = bs.length := by omega
    exact Nat.le_refl _
  | d + 1, i, h => by
    have hi : i < bs.length := by omega
    have := offs_end (bs := bs) d (i + 1) (by omega)
    rw [offs_succ bs hi] at this
    omega
theorem stepO_inv {f : MFun} (h : SzF f) {s : OS} (hs : InvO f.Blocks s) (x : Int) : InvO f.Blocks (stepO f.Blocks s x) := by
  unfold stepO
  cases hk : skipO s x with
  | true => exact hs
  | false =>
    obtain ⟨h0, h1, w, h2, h3⟩ := skipO_f hk
    have hl : x.toNat < s.wh.length := by omega
    have hb : x.toNat < f.Blocks.length := by have := hs.w; omega
    obtain ⟨m1, m2⟩ := offs_mono h hb
    obtain ⟨f1, f2⟩ := fill_len (offs f.Blocks x.toNat) (s.to, s.n) (offs f.Blocks (x.toNat + 1) - offs f.Blocks x.toNat)
    have hw : s.wh[x.toNat] = w := by
      have := List.getElem?_eq_getElem hl
      rw [h2] at this
      exact (Option.some.inj this).symm
    refine ⟨by simpa using hs.w, by simp only [cond_false]; rw [f1]; exact hs.t, ?_, fun y hy => ?_, ?_, ?_⟩
    · simp only [cond_false]
      rw [List.countP_set hl, hw]
      have hc := hs.c
      have hpos : 0 < s.wh.countP (fun w => decide (w < 0)) := List.countP_pos_iff.2 ⟨w, List.mem_of_getElem? h2, by simpa using h3⟩
      have hn : ¬ (((s.l.length : Nat) : Int) < 0) := by omega
      simp [h3, hn]
      omega
    · simp only [cond_false] at hy
      rcases List.mem_append.1 hy with hy | hy
      · exact hs.m y hy
      · rw [List.mem_singleton.1 hy]
        have := hs.w
        exact ⟨h0, by omega⟩
    · simp only [cond_false]
      rw [f2]
      have := hs.n0
      show 0 ≤ s.n + _
      omega
    · simp only [cond_false]
      rw [f2]
      have := hs.n1
      simp only [List.length_append, List.length_cons, List.length_nil]
      show s.n + _ ≤ _
      omega
def s0O (bs : List MBlk) : OS := ⟨List.replicate (offs bs bs.length) (-1), 0, List.replicate bs.length (-1), []⟩
theorem s0O_inv (bs : List MBlk) : InvO bs (s0O bs) where
  w := by simp [s0O]
  t := by simp [s0O]
  c := by simp [s0O, List.countP_replicate]
  m := fun x hx => by simp [s0O] at hx
  n0 := by simp [s0O]
  n1 := by simp [s0O]
def runO (bs : List MBlk) (l : List Int) : OS := l.foldl (stepO bs) (s0O bs)
theorem runO_inv {f : MFun} (h : SzF f) (l : List Int) : InvO f.Blocks (runO f.Blocks l) := by
  unfold runO
  have : ∀ (l : List Int) (s : OS), InvO f.Blocks s → InvO f.Blocks (l.foldl (stepO f.Blocks) s) := fun l => by
    induction l with
    | nil => exact fun s hs => hs
    | cons x l ih => exact fun s hs => ih _ (stepO_inv h hs x)
  exact this l _ (s0O_inv _)
theorem runO_succ (bs : List MBlk) (l : List Int) {i : Nat} (hi : i < l.length) : runO bs (l.take (i + 1)) = stepO bs (runO bs (l.take i)) l[i] := by
  unfold runO
  rw [List.take_succ_eq_append_getElem hi, List.foldl_append]
  rfl
theorem codeFirst_eq {f : MFun} (h : SzF f) {i : Nat} (hi : i ≤ f.Blocks.length) : p_code_first f (i : Int) = some ((offs f.Blocks i : Nat) : Int) := by
  unfold p_code_first
  have hb := h.b
  have e1 : (if ((f.Blocks.length : Nat) : Int) < (i : Int) then ((f.Blocks.length : Nat) : Int) else (i : Int)) = (i : Int) := if_neg (by omega)
  have e2 : (if (0 : Int) < (i : Int) then (i : Int) else 0) = (i : Int) := by split <;> omega
  have e3 : natI (i : Int) = some i := by simp [natI]
  have ht : takeN f.Blocks 0 i = f.Blocks.take i := by simp [takeN]
  rw [e1, e2, e3]
  simp only [Option.bind_some]
  rw [ck_t ⟨Nat.zero_le _, hi⟩, ht]
  rw [loop_at (s := (0, 0)) (fun j => (((offs f.Blocks j : Nat) : Int), j)) i ((offs f.Blocks i : Nat) : Int) (by simp [offs]) (fun j hj => ?_) (by simp [Nat.min_eq_left hi]) (by omega)]
  · rfl
  · have hjl : j < f.Blocks.length := by omega
    have hj1 : j < (f.Blocks.take i).length := by simp; omega
    have hx : (f.Blocks.take i)[j]? = some f.Blocks[j] := by rw [List.getElem?_take_of_lt hj]; exact List.getElem?_eq_getElem hjl
    have hbi := h.bs _ (List.getElem_mem hjl)
    have hp := hbi.p
    have ho := hbi.o
    have hl := offs_lt h (show j ≤ f.Blocks.length by omega)
    simp only [hj1, decide_true, cond_true, Option.bind_some, hx]
    rw [wrap_small (i := ((f.Blocks[j].Params.length : Nat) : Int) + _) (by omega) (by omega), wrap_small (by omega) (by omega), offs_succ f.Blocks hjl]
    rfl
theorem codeFirst2_eq {f : MFun} (h : SzF f) {i : Nat} (hi : i ≤ f.Blocks.length) : p_code_First f (i : Int) = some ((offs f.Blocks i : Nat) : Int) := by
  unfold p_code_First
  rw [codeFirst_eq h hi]
  rfl
theorem skip_eq (s : OS) (x : Int) : (bif decide (x < 0) then some true else (bif decide (((s.wh.length : Nat) : Int) ≤ x) then some true else ((atI s.wh x).bind fun w => some (decide ((0 : Int) ≤ w))))) = some (skipO s x) := by
  unfold skipO
  by_cases h0 : x < 0
  · simp [h0]
  · by_cases h1 : ((s.wh.length : Nat) : Int) ≤ x
    · simp [h0, h1]
    · have hl : x.toNat < s.wh.length := by omega
      have h00 : 0 ≤ x := by omega
      simp [h0, h1, atI, h00, hl]
/-- A number's name. -/
def nmF (wh : List Int) (n : Int) : Int := bif decide (n < 0) || decide (((wh.length : Nat) : Int) ≤ n) then (-1) else (wh[n.toNat]?).getD 0
theorem nm_core (n : Int) (wh : List Int) : ((bif decide (n < 0) then some true else some (decide (((wh.length : Nat) : Int) ≤ n))).bind fun (b : Bool) => (bif b then some (-1) else ((atI wh n).bind fun x => some x))) = some (nmF wh n) := by
  unfold nmF
  by_cases h0 : n < 0
  · simp [h0]
  · by_cases h1 : ((wh.length : Nat) : Int) ≤ n
    · simp [h0, h1]
    · have hl : n.toNat < wh.length := by omega
      have h00 : 0 ≤ n := by omega
      simp [h0, h1, atI, h00, hl]
theorem nmP_eq (n : Int) (wh : List Int) : p_tidy_blocks_1 n wh = some (nmF wh n) := nm_core n wh
end Go.Proofs.YtpeafglbhjjbhaaDoor


/- Blocks in another order: program and document come to the same; the law in plain terms. -/
namespace Go.Proofs.YtpeafglbhjjbhaaDoor
open Go Go.RowKit

def reE3 (ret : Int) (to wh : List Int) (e : MEnd) : MEnd := ⟨e.K, bif decide (e.K = 1) || (decide (e.K = 3) || (decide (e.K = 2) && !(decide (ret = (-1))))) then toF to e.A else e.A, bif decide (e.K = 0) || decide (e.K = 1) then nmF wh e.To else e.To, bif decide (e.K = 1) then nmF wh e.Else else e.Else, bif decide (e.K = 0) || decide (e.K = 1) then e.L.map (toF to) else e.L, bif decide (e.K = 1) then e.M.map (toF to) else e.M⟩
def reB3 (ret : Int) (to wh : List Int) (b : MBlk) : MBlk := ⟨b.Params, b.Ops.map (fun o => reO to (plO o)), reE3 ret to wh b.End⟩
theorem endRen3_eq {ret K A To Else : Int} {L M : List Int} (to wh : List Int) (hL : L.length ≤ 400) (hM : M.length ≤ 400) : p_tidy_end_t3 ret K A To Else L M to wh = some (reE3 ret to wh ⟨K, A, To, Else, L, M⟩) := by
  unfold p_tidy_end_t3 reE3
  simp only [named_eq, names_eq to hL, names_eq to hM, nmP_eq, Option.bind_some]
  cases decide (K = 0) <;> cases decide (K = 1) <;> cases decide (K = 2) <;> cases decide (K = 3) <;> cases decide (ret = -1) <;> rfl
theorem renamed3P_eq {f : MFun} (to wh : List Int) (h : SzF f) : p_tidy_renamed_s3 f to wh = some ⟨f.Ret, (plF f).Blocks.map (reB3 f.Ret to wh)⟩ := by
  have hF := plF_sz h
  unfold p_tidy_renamed_s3
  simp only [ownP_eq h, Option.bind_some, p_tidy_named]
  rw [loop_setI (plF f).Blocks (reB3 f.Ret to wh) (fun i x s hx hs hi hm => ?_) (fun s hs => by simp) (by have := hF.b; omega)]
  · rfl
  · have hlt : ((i : Nat) : Int) < (((plF f).Blocks.length : Nat) : Int) := by omega
    have hb := hF.bs x hm
    have := hF.b
    simp only [hlt, decide_true, cond_true, atI_nat, hx, Option.bind_some, Int.toNat_natCast]
    rw [innerP to s i x (by omega) hb]
    simp only [Option.bind_some, List.getElem?_set_self (show i < s.length by omega), endRen3_eq to wh hb.l hb.m, List.set_set, wrap_inc (show i < 9223372036854775807 by omega)]
    rfl
theorem re3_sz {f : MFun} (to wh : List Int) (hs : SzF f) : SzF ⟨f.Ret, (plF f).Blocks.map (reB3 f.Ret to wh)⟩ := by
  have hF := plF_sz hs
  refine ⟨by simpa using hF.b, fun b hb => ?_⟩
  obtain ⟨b', h1, rfl⟩ := List.mem_map.1 hb
  have hb' := hF.bs b' h1
  refine ⟨hb'.p, by simpa [reB3] using hb'.o, bif_len (by simpa using hb'.l) hb'.l, bif_len (by simpa using hb'.m) hb'.m, fun o ho => ?_⟩
  obtain ⟨o', h2, rfl⟩ := List.mem_map.1 ho
  have := plO_L (hb'.os o' h2)
  exact bif_len (by simpa using this) this
/-- The blocks, in their order. -/
def dB : MBlk := ⟨[], [], ⟨0, 0, 0, 0, [], []⟩⟩
def pick (Bs : List MBlk) (l : List Int) : List MBlk := l.map fun x => (Bs[x.toNat]?).getD dB
def outO (f : MFun) (order : List Int) : MFun := ⟨f.Ret, pick ((plF f).Blocks.map (reB3 f.Ret (runO f.Blocks order).to (runO f.Blocks order).wh)) (runO f.Blocks order).l⟩
theorem stepO_f {bs : List MBlk} {s : OS} {x : Int} (h : skipO s x = false) : stepO bs s x = ⟨(fill (offs bs x.toNat) (offs bs (x.toNat + 1) - offs bs x.toNat) (s.to, s.n)).1, (fill (offs bs x.toNat) (offs bs (x.toNat + 1) - offs bs x.toNat) (s.to, s.n)).2, s.wh.set x.toNat ((s.l.length : Nat) : Int), s.l ++ [x]⟩ := by
  unfold stepO
  rw [h]
  rfl
theorem stepO_t {bs : List MBlk} {s : OS} {x : Int} (h : skipO s x = true) : stepO bs s x = s := by
  unfold stepO
  rw [h]
  rfl
theorem pick_loop {f : MFun} (h : SzF f) (to wh l : List Int) (hl : l.length ≤ 400) (hm : ∀ x ∈ l, 0 ≤ x ∧ x < ((f.Blocks.length : Nat) : Int)) : loop (fun (s17073 : (List MBlk) × Nat) => (bif decide (s17073.2 < l.length) then ((l[s17073.2]?).bind fun x17079 => ((atI ((plF f).Blocks.map (reB3 f.Ret to wh)) x17079).bind fun x17081 => (ck ((s17073.1.length + 1) * 128 ≤ 140737488355328) (some (Xt.go ((s17073.1 ++ [x17081]), (s17073.2 + 1))))))) else some (Xt.out s17073.1))) Fu ([], 0) = some (pick ((plF f).Blocks.map (reB3 f.Ret to wh)) l) := by
  refine loop_push l _ (fun i x acc hx ha hi hmx => ?_) (fun acc => by simp) (by omega)
  obtain ⟨h0, h1⟩ := hm x hmx
  have hlen : ((plF f).Blocks.map (reB3 f.Ret to wh)).length = f.Blocks.length := by simp [plF]
  have hxl : x.toNat < ((plF f).Blocks.map (reB3 f.Ret to wh)).length := by omega
  have hat : atI ((plF f).Blocks.map (reB3 f.Ret to wh)) x = some (((plF f).Blocks.map (reB3 f.Ret to wh))[x.toNat]) := by
    unfold atI
    rw [if_pos h0]
    exact List.getElem?_eq_getElem hxl
  have hgd : (((plF f).Blocks.map (reB3 f.Ret to wh))[x.toNat]?).getD dB = ((plF f).Blocks.map (reB3 f.Ret to wh))[x.toNat] := by rw [List.getElem?_eq_getElem hxl]; rfl
  simp only [hi, decide_true, cond_true, hx, Option.bind_some, hat]
  rw [ck_t (by omega), hgd]
theorem rep_set (m : Nat) (hm : m < 18446744073709551616) : (List.replicate m (0 : Int)).map (fun _ => (-1 : Int)) = List.replicate m (-1) := by simp
theorem blocksP_eq {f : MFun} (order : List Int) (h : SzF f) (ho : order.length ≤ 17592186044416) : p_tidy_blocks_t1 f.Ret f.Blocks order = some (outO f order, order) := by
  have hb := h.b
  have hT := offs_lt h (Nat.le_refl f.Blocks.length)
  unfold p_tidy_blocks_t1
  rw [ck_t (by omega), show (⟨f.Ret, f.Blocks⟩ : MFun) = f from rfl]
  unfold p_code_Values
  rw [codeFirst_eq h (Nat.le_refl _)]
  simp only [Option.bind_some]
  rw [show natI ((offs f.Blocks f.Blocks.length : Nat) : Int) = some (offs f.Blocks f.Blocks.length) by simp [natI]]
  simp only [Option.bind_some]
  rw [ck_t (by omega)]
  rw [loop_setI (List.replicate (offs f.Blocks f.Blocks.length) (0 : Int)) (fun _ => (-1 : Int)) (fun i x s hx hs hi hm => by
    have hlt : ((i : Nat) : Int) < (((List.replicate (offs f.Blocks f.Blocks.length) (0 : Int)).length : Nat) : Int) := by omega
    have hil : i < 320001 := by rw [List.length_replicate] at hi; omega
    simp only [hlt, decide_true, cond_true, atI_nat, hx, Option.bind_some, Int.toNat_natCast, wrap_inc (show i < 9223372036854775807 by omega)]) (fun s hs => by simp) (by simp; omega)]
  simp only [Option.bind_some, rep_set _ (show offs f.Blocks f.Blocks.length < 18446744073709551616 by omega)]
  rw [loop_setI (List.replicate f.Blocks.length (0 : Int)) (fun _ => (-1 : Int)) (fun i x s hx hs hi hm => by
    have hlt : ((i : Nat) : Int) < (((List.replicate f.Blocks.length (0 : Int)).length : Nat) : Int) := by omega
    have hil : i < 401 := by rw [List.length_replicate] at hi; omega
    simp only [hlt, decide_true, cond_true, atI_nat, hx, Option.bind_some, Int.toNat_natCast, wrap_inc (show i < 9223372036854775807 by omega)]) (fun s hs => by simp) (by simp; omega)]
  simp only [Option.bind_some, rep_set _ (show f.Blocks.length < 18446744073709551616 by omega)]
  rw [loop_at (s := (List.replicate (offs f.Blocks f.Blocks.length) (-1), List.replicate f.Blocks.length (-1), [], 0, 0)) (fun i => ((runO f.Blocks (order.take i)).to, (runO f.Blocks (order.take i)).wh, (runO f.Blocks (order.take i)).l, (runO f.Blocks (order.take i)).n, i)) order.length ((runO f.Blocks order).to, (runO f.Blocks order).wh, (runO f.Blocks order).l) rfl (fun i hi => ?_) (by simp) (by omega)]
  · have hI := runO_inv h order
    simp only [Option.bind_some, renamed3P_eq _ _ h]
    rw [pick_loop h _ _ _ (by have := hI.c; omega) hI.m]
    rfl
  · have hx : order[i]? = some order[i] := List.getElem?_eq_getElem hi
    have hI := runO_inv h (order.take i)
    simp only [hi, decide_true, cond_true, hx, Option.bind_some, runO_succ f.Blocks order hi]
    generalize runO f.Blocks (order.take i) = s at hI
    generalize order[i] = x
    rw [skip_eq s x]
    cases hk : skipO s x with
    | true =>
      rw [stepO_t hk]
      rfl
    | false =>
      rw [stepO_f hk]
      obtain ⟨h0, h1, w, h2, h3⟩ := skipO_f hk
      have hxb : x.toNat < f.Blocks.length := by have := hI.w; omega
      have hxe : ((x.toNat : Nat) : Int) = x := by omega
      obtain ⟨m1, m2⟩ := offs_mono h hxb
      have hl := offs_lt h (show x.toNat + 1 ≤ f.Blocks.length by omega)
      have hend := offs_end (bs := f.Blocks) (f.Blocks.length - (x.toNat + 1)) (x.toNat + 1) (by omega)
      have hat : atI s.wh x = some w := by
        unfold atI
        rw [if_pos h0]
        exact h2
      have hF1 : p_code_First f x = some ((offs f.Blocks x.toNat : Nat) : Int) := by
        have := codeFirst2_eq h (show x.toNat ≤ f.Blocks.length by omega)
        rwa [hxe] at this
      have hF2 : p_code_First f (IntKind.i64.wrap (x + 1)) = some ((offs f.Blocks x.toNat + (offs f.Blocks (x.toNat + 1) - offs f.Blocks x.toNat) : Nat) : Int) := by
        have := codeFirst2_eq h (show x.toNat + 1 ≤ f.Blocks.length by omega)
        rw [wrap_small (by omega) (by omega), show x + 1 = ((x.toNat + 1 : Nat) : Int) by omega, this]
        congr 2
        omega
      have hn0 := hI.n0
      have hn1 := hI.n1
      have hc := hI.c
      simp only [Option.bind_some, cond_false, hat, hF1]
      rw [ck_t (by omega)]
      rw [fill_loop (offs f.Blocks x.toNat) (offs f.Blocks (x.toNat + 1) - offs f.Blocks x.toNat) hF2 (fun t n => (t, s.wh.set x.toNat ((s.l.length : Nat) : Int), s.l ++ [x], n)) s.to s.n (by rw [hI.t]; omega) (by omega) hn0 (by omega)]
      rfl
theorem outO_sz {f : MFun} (order : List Int) (h : SzF f) : SzF (outO f order) := by
  have hI := runO_inv h order
  have hb := h.b
  have hS := re3_sz (runO f.Blocks order).to (runO f.Blocks order).wh h
  refine ⟨by have := hI.c; simp [outO, pick]; omega, fun b hb => ?_⟩
  obtain ⟨x, hx, rfl⟩ := List.mem_map.1 hb
  obtain ⟨h0, h1⟩ := hI.m x hx
  have hlen : ((plF f).Blocks.map (reB3 f.Ret (runO f.Blocks order).to (runO f.Blocks order).wh)).length = f.Blocks.length := by simp [plF]
  have hxl : x.toNat < ((plF f).Blocks.map (reB3 f.Ret (runO f.Blocks order).to (runO f.Blocks order).wh)).length := by omega
  rw [List.getElem?_eq_getElem hxl]
  exact hS.bs _ (List.getElem_mem hxl)
end Go.Proofs.YtpeafglbhjjbhaaDoor


/- Whether a plain function answers, and what holds of the answer; names that point to names come to rest. -/
namespace Go.Proofs.YtpeafglbhjjbhaaDoor
open Go Go.RowKit

/-- There is an answer, and this holds of it. -/
def Ok {α : Type} (o : Option α) (P : α → Prop) : Prop := ∃ a, o = some a ∧ P a
theorem Ok.ok {α : Type} {a : α} {P : α → Prop} (h : P a) : Ok (some a) P := ⟨a, rfl, h⟩
theorem Ok.mono {α : Type} {o : Option α} {P Q : α → Prop} (h : Ok o P) (k : ∀ a, P a → Q a) : Ok o Q := by
  obtain ⟨a, e, p⟩ := h
  exact ⟨a, e, k a p⟩
theorem Ok.bind {α β : Type} {o : Option α} {f : α → Option β} {P : α → Prop} {Q : β → Prop} (h : Ok o P) (k : ∀ a, P a → Ok (f a) Q) : Ok (o.bind f) Q := by
  obtain ⟨a, rfl, p⟩ := h
  exact k a p
theorem Ok.eq {α β : Type} {o : Option α} {a : α} {f : α → Option β} {Q : β → Prop} (h : o = some a) (k : Ok (f a) Q) : Ok (o.bind f) Q := by
  subst h
  exact k
theorem Ok.ck {α : Type} {p : Prop} [Decidable p] {k : Option α} {Q : α → Prop} (h : p) (hk : Ok k Q) : Ok (ck p k) Q := by
  rw [ck_t h]
  exact hk
theorem Ok.bif {α : Type} {b : Bool} {x y : Option α} {Q : α → Prop} (ht : b = true → Ok x Q) (hf : b = false → Ok y Q) : Ok (bif b then x else y) Q := by
  cases b
  · exact hf rfl
  · exact ht rfl
theorem Ok.dec {α : Type} {p : Prop} [Decidable p] {x y : Option α} {Q : α → Prop} (ht : p → Ok x Q) (hf : ¬ p → Ok y Q) : Ok (bif decide p then x else y) Q := by
  by_cases h : p
  · simpa [h] using ht h
  · simpa [h] using hf h
theorem Ok.get {α : Type} {l : List α} {i : Nat} {Q : α → Prop} (h : i < l.length) (hQ : ∀ x, l[i]? = .some x → x ∈ l → Q x) : Ok l[i]? Q := ⟨l[i], List.getElem?_eq_getElem h, hQ _ (List.getElem?_eq_getElem h) (List.getElem_mem h)⟩
theorem Ok.at {α : Type} {l : List α} {i : Int} {Q : α → Prop} (h0 : 0 ≤ i) (h1 : i < ((l.length : Nat) : Int)) (hQ : ∀ x, l[i.toNat]? = .some x → x ∈ l → Q x) : Ok (atI l i) Q := by
  unfold atI
  rw [if_pos h0]
  exact Ok.get (by omega) hQ
/-- A loop's round: it goes on, and the measure falls; or it is through. -/
def Rnd {σ ρ : Type} (Inv : σ → Prop) (m : σ → Nat) (b : Nat) (Post : ρ → Prop) (x : Xt σ ρ) : Prop := x.on (fun s => Inv s ∧ m s < b) Post
theorem loop_inv {σ ρ : Type} {body : σ → Option (Xt σ ρ)} (Inv : σ → Prop) (m : σ → Nat) (Post : ρ → Prop) (step : ∀ s, Inv s → Ok (body s) (Rnd Inv m (m s) Post)) : ∀ (n : Nat) (s : σ), Inv s → m s < n → Ok (loop body n s) Post
  | 0, _, _, h => absurd h (Nat.not_lt_zero _)
  | n + 1, s, hi, hm => by
    rw [loop_succ]
    refine Ok.bind (step s hi) fun x hx => ?_
    cases x with
    | go s' => exact loop_inv Inv m Post step n s' hx.1 (by have := hx.2; omega)
    | out r => exact .ok hx
theorem Ok.loop {σ ρ : Type} {body : σ → Option (Xt σ ρ)} {s : σ} {Post : ρ → Prop} (Inv : σ → Prop) (m : σ → Nat) (h0 : Inv s) (hm : m s < 18446744073709551616) (step : ∀ s, Inv s → Ok (body s) (Rnd Inv m (m s) Post)) : Ok (loop body Fu s) Post := loop_inv Inv m Post step Fu s h0 hm

/-! How many numbers below n are such. -/
open Classical in
noncomputable def cnt (p : Int → Prop) : Nat → Nat
  | 0 => 0
  | n + 1 => cnt p n + if p (n : Int) then 1 else 0
theorem cnt_le {p q : Int → Prop} (h : ∀ x, q x → p x) : ∀ n, cnt q n ≤ cnt p n
  | 0 => Nat.le_refl _
  | n + 1 => by
    have := cnt_le h n
    unfold cnt
    by_cases hq : q (n : Int)
    · simp only [if_pos hq, if_pos (h _ hq)]; omega
    · simp only [if_neg hq]; omega
theorem cnt_max (p : Int → Prop) : ∀ n, cnt p n ≤ n
  | 0 => Nat.le_refl _
  | n + 1 => by
    have := cnt_max p n
    unfold cnt
    split <;> omega
theorem cnt_lt {p q : Int → Prop} (h : ∀ x, q x → p x) {z : Int} (h1 : p z) (h2 : ¬ q z) (h0 : 0 ≤ z) : ∀ n : Nat, z < (n : Int) → cnt q n < cnt p n
  | 0, hz => by omega
  | n + 1, hz => by
    unfold cnt
    by_cases e : z = (n : Int)
    · subst e
      have := cnt_le h n
      simp only [if_pos h1, if_neg h2]
      omega
    · have := cnt_lt h h1 h2 h0 n (by omega)
      by_cases hq : q (n : Int)
      · simp only [if_pos hq, if_pos (h _ hq)]; omega
      · simp only [if_neg hq]; omega
theorem pigeon : ∀ (n : Nat) (g : Nat → Int), (∀ k, k ≤ n → 0 ≤ g k ∧ g k < (n : Int)) → ∃ a b, a < b ∧ b ≤ n ∧ g a = g b
  | 0, g, h => by have := h 0 (Nat.le_refl _); omega
  | n + 1, g, h => by
    by_cases e : ∃ a, a ≤ n ∧ g a = g (n + 1)
    · obtain ⟨a, h1, h2⟩ := e
      exact ⟨a, n + 1, by omega, by omega, h2⟩
    · obtain ⟨a, b, h1, h0, h2⟩ := pigeon n (fun k => if g k > g (n + 1) then g k - 1 else g k) (fun k hk => by
        have h3 := h k (by omega)
        have h4 := h (n + 1) (Nat.le_refl _)
        have h5 : g k ≠ g (n + 1) := fun e' => e ⟨k, hk, e'⟩
        show 0 ≤ (if g k > g (n + 1) then g k - 1 else g k) ∧ (if g k > g (n + 1) then g k - 1 else g k) < (n : Int)
        split <;> omega)
      have h5 : g a ≠ g (n + 1) := fun e' => e ⟨a, by omega, e'⟩
      have h6 : g b ≠ g (n + 1) := fun e' => e ⟨b, h0, e'⟩
      refine ⟨a, b, h1, by omega, ?_⟩
      replace h2 : (if g a > g (n + 1) then g a - 1 else g a) = (if g b > g (n + 1) then g b - 1 else g b) := h2
      split at h2 <;> split at h2 <;> omega

/-! Names: f names each number; some are names of themselves. -/
def itr (f : Int → Int) : Nat → Int → Int
  | 0, x => x
  | k + 1, x => f (itr f k x)
theorem itr_add (f : Int → Int) (a : Nat) (x : Int) : ∀ b, itr f (b + a) x = itr f b (itr f a x)
  | 0 => by rw [Nat.zero_add]; rfl
  | b + 1 => by
    rw [show b + 1 + a = (b + a) + 1 by omega]
    show f (itr f (b + a) x) = f (itr f b (itr f a x))
    rw [itr_add f a x b]
theorem itr_mul (f : Int → Int) {a : Nat} {x : Int} (h : itr f a x = x) : ∀ b, itr f (b * a) x = x
  | 0 => by rw [Nat.zero_mul]; rfl
  | b + 1 => by rw [Nat.succ_mul, itr_add, h, itr_mul f h b]
theorem itr_fix (f : Int → Int) {x : Int} (h : f x = x) : ∀ k, itr f k x = x
  | 0 => rfl
  | k + 1 => by
    show f (itr f k x) = x
    rw [itr_fix f h k, h]
/-- One that is met again, on a way. -/
def Rec (f : Int → Int) (x : Int) : Prop := f x ≠ x ∧ ∃ k, itr f (k + 1) x = x
/-- One whose name is settled. -/
def dn (f : Int → Int) (x : Int) : Prop := f (f x) = f x
def nup (f : Int → Int) (i y : Int) : Int → Int := fun x => if x = i then y else f x
theorem nup_itr (f : Int → Int) (i x : Int) : ∀ k, ∃ j, k ≤ j ∧ itr (nup f i (f (f i))) k x = itr f j x
  | 0 => ⟨0, Nat.le_refl _, rfl⟩
  | k + 1 => by
    obtain ⟨j, h1, h2⟩ := nup_itr f i x k
    show ∃ j, k + 1 ≤ j ∧ nup f i (f (f i)) (itr (nup f i (f (f i))) k x) = itr f j x
    rw [h2]
    unfold nup
    by_cases e : itr f j x = i
    · rw [if_pos e]
      exact ⟨j + 2, by omega, by show _ = f (f (itr f j x)); rw [e]⟩
    · rw [if_neg e]
      exact ⟨j + 1, by omega, rfl⟩
theorem nup_rec {f : Int → Int} {i x : Int} (h : Rec (nup f i (f (f i))) x) : Rec f x := by
  obtain ⟨h1, k, h2⟩ := h
  refine ⟨fun e => h1 ?_, ?_⟩
  · unfold nup
    by_cases e2 : x = i
    · subst e2
      rw [if_pos rfl, e, e]
    · rw [if_neg e2, e]
  · obtain ⟨j, h3, h4⟩ := nup_itr f i x (k + 1)
    obtain ⟨j', rfl⟩ : ∃ j', j = j' + 1 := ⟨j - 1, by omega⟩
    exact ⟨j', by rw [← h4, h2]⟩
theorem rec_next {f : Int → Int} {x : Int} (h : Rec f x) : f (f x) ≠ f x := by
  obtain ⟨h1, k, h2⟩ := h
  intro e
  apply h1
  have : itr f (k + 1) x = f x := by
    rw [show k + 1 = k + 1 from rfl, itr_add f 1 x k]
    exact itr_fix f e k
  rw [← this, h2]
/-- A way gets shorter. -/
theorem nup_lost {f : Int → Int} {i : Int} (h : Rec f i) : Rec f (f i) ∧ ¬ Rec (nup f i (f (f i))) (f i) := by
  have hn := rec_next h
  obtain ⟨h1, p, hp⟩ := h
  have hv : itr f (p + 1) (f i) = f i := by
    have := itr_add f 1 i (p + 1)
    rw [show p + 1 + 1 = 1 + (p + 1) by omega, itr_add f (p + 1) i 1, hp] at this
    exact this.symm
  have hi : itr f p (f i) = i := by
    have := itr_add f 1 i p
    rw [hp] at this
    exact this.symm
  refine ⟨⟨hn, p, hv⟩, fun hr => ?_⟩
  obtain ⟨_, k, hk⟩ := hr
  obtain ⟨j, _, hj⟩ := nup_itr f i (f i) k
  have hk' : nup f i (f (f i)) (itr f j (f i)) = f i := by rw [← hj]; exact hk
  unfold nup at hk'
  by_cases e : itr f j (f i) = i
  · rw [if_pos e] at hk'
    exact hn hk'
  · rw [if_neg e] at hk'
    have ha : itr f (j + 1) (f i) = f i := hk'
    -- both lie on one way round
    have e1 : itr f (p * (j + 1) + j) (f i) = itr f j (f i) := by
      rw [Nat.add_comm, itr_add, itr_mul f ha]
    have e2 : itr f (j * (p + 1) + p) (f i) = itr f p (f i) := by
      rw [Nat.add_comm, itr_add, itr_mul f hv]
    have e3 : p * (j + 1) + j = j * (p + 1) + p := by
      rw [Nat.mul_add, Nat.mul_add, Nat.mul_comm p j]
      omega
    rw [e3, e2, hi] at e1
    exact e e1.symm
theorem nup_dn {f : Int → Int} {i x : Int} (hc : ¬ dn f i) (h : dn f x) : dn (nup f i (f (f i))) x := by
  unfold dn at *
  have h1 : x ≠ i := fun e => hc (e ▸ h)
  have h2 : f x ≠ i := fun e => hc (by rw [← e, h, h])
  unfold nup
  rw [if_neg h1, if_neg h2, h]
/-- If none is met again, some unsettled one's name's name is settled. -/
theorem depth2 {f : Int → Int} {n : Nat} (hout : ∀ x, ¬ (0 ≤ x ∧ x < (n : Int)) → f x = x) (hR : ∀ x, 0 ≤ x → x < (n : Int) → ¬ Rec f x) {x : Int} (hx : ¬ dn f x) : ∃ z, ¬ dn f z ∧ dn f (f z) ∧ 0 ≤ z ∧ z < (n : Int) := by
  have hin : ∀ y, ¬ dn f y → 0 ≤ y ∧ y < (n : Int) := fun y hy => Classical.byContradiction fun hc => hy (by
    unfold dn
    rw [hout y hc, hout y hc])
  by_cases hs : ∃ k, ¬ dn f (itr f k x) ∧ dn f (itr f (k + 1) x)
  · obtain ⟨k, h1, h2⟩ := hs
    exact ⟨itr f k x, h1, h2, hin _ h1⟩
  · have hall : ∀ k, ¬ dn f (itr f k x) := by
      intro k
      induction k with
      | zero => exact hx
      | succ k ih => exact fun h => hs ⟨k, ih, h⟩
    obtain ⟨a, b, h1, _, h2⟩ := pigeon n (fun k => itr f k x) (fun k _ => hin _ (hall k))
    exfalso
    refine hR (itr f a x) (hin _ (hall a)).1 (hin _ (hall a)).2 ⟨fun e => hall a (by unfold dn; rw [e, e]), b - a - 1, ?_⟩
    rw [show b - a - 1 + 1 = b - a by omega, ← itr_add f a x (b - a), show b - a + a = b by omega]
    exact h2.symm
end Go.Proofs.YtpeafglbhjjbhaaDoor


/- A block and its only next one become one: the program's own loops come to an end, and what comes of them. -/
namespace Go.Proofs.YtpeafglbhjjbhaaDoor
open Go Go.RowKit

/-! Names that name other names: the loop that settles them. -/
theorem toF_out {l : List Int} {x : Int} (h : ¬ (0 ≤ x ∧ x < ((l.length : Nat) : Int))) : toF l x = x := by
  unfold toF
  by_cases h0 : (0 : Int) ≤ x
  · have h1 : ¬ x < ((l.length : Nat) : Int) := fun e => h ⟨h0, e⟩
    simp [h0, h1]
  · simp [h0]
theorem toF_in {l : List Int} {x y : Int} (h0 : 0 ≤ x) (h : l[x.toNat]? = some y) : toF l x = y := by
  have h1 : x.toNat < l.length := (List.getElem?_eq_some_iff.1 h).1
  have h2 : x < ((l.length : Nat) : Int) := by omega
  unfold toF
  simp only [h0, h2, decide_true, Bool.and_self, cond_true, h, Option.getD_some]
theorem toF_set {l : List Int} {i : Nat} (hi : i < l.length) (y : Int) : toF (l.set i y) = nup (toF l) (i : Int) y := by
  funext x
  unfold nup
  by_cases hx : 0 ≤ x ∧ x < ((l.length : Nat) : Int)
  · by_cases e : x = (i : Int)
    · subst e
      rw [if_pos rfl]
      exact toF_in hx.1 (by rw [Int.toNat_natCast, List.getElem?_set_self hi])
    · rw [if_neg e]
      have hlt : x.toNat < l.length := by omega
      have h1 : l[x.toNat]? = some l[x.toNat] := List.getElem?_eq_getElem hlt
      rw [toF_in hx.1 h1]
      refine toF_in hx.1 ?_
      rw [List.getElem?_set_ne (by omega)]
      exact h1
  · have hx' : ¬ (0 ≤ x ∧ x < (((l.set i y).length : Nat) : Int)) := by rw [List.length_set]; exact hx
    rw [toF_out hx', toF_out hx]
    have e : ¬ x = (i : Int) := fun e => hx (by omega)
    rw [if_neg e]
/-- What is known inside of one way through all names. -/
structure Ps (n : Nat) (l0 l : List Int) (b : Bool) (i : Int) : Prop where
  len : l.length = n
  i0 : 0 ≤ i
  i1 : i ≤ (n : Int)
  rc : ∀ x, Rec (toF l) x → Rec (toF l0) x
  dn : ∀ x, dn (toF l0) x → dn (toF l) x
  un : ∀ x, i ≤ x → toF l x = toF l0 x
  lost : ∀ x, 0 ≤ x → x < i → Rec (toF l0) x → ∃ y, (0 ≤ y ∧ y < (n : Int)) ∧ Rec (toF l0) y ∧ ¬ Rec (toF l) y
  won : ∀ x, 0 ≤ x → x < i → ¬ Go.Proofs.YtpeafglbhjjbhaaDoor.dn (toF l0) x → Go.Proofs.YtpeafglbhjjbhaaDoor.dn (toF l0) (toF l0 x) → Go.Proofs.YtpeafglbhjjbhaaDoor.dn (toF l) x
  any : b = true → ∃ x, ¬ Go.Proofs.YtpeafglbhjjbhaaDoor.dn (toF l0) x
theorem Ps.start {n : Nat} {l : List Int} (h : l.length = n) : Ps n l l false 0 :=
  ⟨h, Int.le_refl _, by omega, fun _ h => h, fun _ h => h, fun _ _ => rfl, fun x h0 h1 => by omega, fun x h0 h1 => by omega, fun h => by cases h⟩
theorem dn_rec {f : Int → Int} {x : Int} (h : dn f x) : ¬ Rec f x := fun hr => rec_next hr h
/-- A name stays. -/
theorem Ps.keep {n : Nat} {l0 l : List Int} {b : Bool} {i : Int} (h : Ps n l0 l b i) (hi : i < (n : Int)) (hd : Go.Proofs.YtpeafglbhjjbhaaDoor.dn (toF l) i) : Ps n l0 l b (i + 1) where
  len := h.len
  i0 := by have := h.i0; omega
  i1 := by omega
  rc := h.rc
  dn := h.dn
  un := fun x hx => h.un x (by omega)
  lost := fun x h0 h1 hr => by
    by_cases e : x = i
    · subst e
      exact ⟨x, ⟨h0, by omega⟩, hr, dn_rec hd⟩
    · exact h.lost x h0 (by omega) hr
  won := fun x h0 h1 hn hd2 => by
    by_cases e : x = i
    · subst e; exact hd
    · exact h.won x h0 (by omega) hn hd2
  any := h.any
/-- A name is changed. -/
theorem Ps.turn {n : Nat} {l0 l : List Int} {b : Bool} {i : Int} (h : Ps n l0 l b i) (hi : i < (n : Int)) (hd : ¬ Go.Proofs.YtpeafglbhjjbhaaDoor.dn (toF l) i) : Ps n l0 (l.set i.toNat (toF l (toF l i))) true (i + 1) := by
  have h0 := h.i0
  have hl : i.toNat < l.length := by have := h.len; omega
  have hs : toF (l.set i.toNat (toF l (toF l i))) = nup (toF l) i (toF l (toF l i)) := by
    rw [toF_set hl]
    congr 1
    omega
  have hrc : ∀ x, Rec (toF (l.set i.toNat (toF l (toF l i)))) x → Rec (toF l) x := fun x hx => nup_rec (by rw [hs] at hx; exact hx)
  have hdn : ∀ x, Go.Proofs.YtpeafglbhjjbhaaDoor.dn (toF l) x → Go.Proofs.YtpeafglbhjjbhaaDoor.dn (toF (l.set i.toNat (toF l (toF l i)))) x := fun x hx => by rw [hs]; exact nup_dn hd hx
  refine ⟨by rw [List.length_set]; exact h.len, by omega, by omega, fun x hx => h.rc x (hrc x hx), fun x hx => hdn x (h.dn x hx), fun x hx => ?_, fun x hx0 hx1 hr => ?_, fun x hx0 hx1 hn hd2 => ?_, fun _ => ⟨i, fun hd' => hd (h.dn i hd')⟩⟩
  · rw [hs]
    unfold nup
    rw [if_neg (by omega), h.un x (by omega)]
  · by_cases e : x = i
    · subst e
      by_cases hrl : Rec (toF l) x
      · obtain ⟨h1, h2⟩ := nup_lost hrl
        have hin : 0 ≤ toF l x ∧ toF l x < (n : Int) := Classical.byContradiction fun hc => h1.1 (toF_out (by rw [h.len]; exact hc))
        exact ⟨toF l x, hin, h.rc _ h1, by rw [hs]; exact h2⟩
      · exact ⟨x, ⟨hx0, hi⟩, hr, fun hc => hrl (hrc x hc)⟩
    · obtain ⟨y, h1, h2, h3⟩ := h.lost x hx0 (by omega) hr
      exact ⟨y, h1, h2, fun hc => h3 (hrc y hc)⟩
  · by_cases e : x = i
    · subst e
      -- its name's name is settled since the start, and nothing has touched it
      have e1 : toF l x = toF l0 x := h.un x (Int.le_refl _)
      have h3 := h.dn _ hd2
      rw [← e1] at h3
      have hne : toF l x ≠ x := fun e2 => hd (by unfold Go.Proofs.YtpeafglbhjjbhaaDoor.dn; rw [e2, e2])
      rw [hs]
      unfold Go.Proofs.YtpeafglbhjjbhaaDoor.dn nup
      rw [if_pos rfl]
      by_cases e4 : toF l (toF l x) = x
      · rw [if_pos e4]
      · rw [if_neg e4]
        exact h3
    · exact hdn x (h.won x hx0 (by omega) hn hd2)
/-- How far names are from rest. -/
noncomputable def far (n : Nat) (l : List Int) : Nat := cnt (Rec (toF l)) n * (n + 1) + cnt (fun x => ¬ dn (toF l) x) n
theorem far_le (n : Nat) (l : List Int) : far n l ≤ n * (n + 1) + n := by
  unfold far
  have h1 := cnt_max (Rec (toF l)) n
  have h2 := cnt_max (fun x => ¬ dn (toF l) x) n
  have h3 := Nat.mul_le_mul_right (n + 1) h1
  omega
theorem Ps.far_le {n : Nat} {l0 l : List Int} {b : Bool} (h : Ps n l0 l b (n : Int)) : far n l ≤ far n l0 := by
  unfold far
  have h1 := cnt_le h.rc n
  have h2 := cnt_le (p := fun x => ¬ Go.Proofs.YtpeafglbhjjbhaaDoor.dn (toF l0) x) (q := fun x => ¬ Go.Proofs.YtpeafglbhjjbhaaDoor.dn (toF l) x) (fun x hx hd => hx (h.dn x hd)) n
  have h3 := Nat.mul_le_mul_right (n + 1) h1
  omega
theorem Ps.far_lt {n : Nat} {l0 l : List Int} (h0 : l0.length = n) (h : Ps n l0 l true (n : Int)) : far n l < far n l0 := by
  unfold far
  have h1 := cnt_le h.rc n
  have h2 := cnt_le (p := fun x => ¬ Go.Proofs.YtpeafglbhjjbhaaDoor.dn (toF l0) x) (q := fun x => ¬ Go.Proofs.YtpeafglbhjjbhaaDoor.dn (toF l) x) (fun x hx hd => hx (h.dn x hd)) n
  have h4 := cnt_max (fun x => ¬ Go.Proofs.YtpeafglbhjjbhaaDoor.dn (toF l) x) n
  by_cases hR : ∃ x, 0 ≤ x ∧ x < (n : Int) ∧ Rec (toF l0) x
  · obtain ⟨x, hx0, hx1, hr⟩ := hR
    obtain ⟨y, ⟨hy0, hy1⟩, hy2, hy3⟩ := h.lost x hx0 hx1 hr
    have h5 := cnt_lt h.rc hy2 hy3 hy0 n hy1
    have h6 := Nat.mul_le_mul_right (n + 1) (show cnt (Rec (toF l)) n + 1 ≤ cnt (Rec (toF l0)) n by omega)
    rw [Nat.add_mul, Nat.one_mul] at h6
    omega
  · obtain ⟨x, hx⟩ := h.any rfl
    obtain ⟨z, hz1, hz2, hz3, hz4⟩ := depth2 (n := n) (fun y hy => toF_out (by rw [h0]; exact hy)) (fun y hy0 hy1 hr => hR ⟨y, hy0, hy1, hr⟩) hx
    have h5 := cnt_lt (p := fun x => ¬ Go.Proofs.YtpeafglbhjjbhaaDoor.dn (toF l0) x) (q := fun x => ¬ Go.Proofs.YtpeafglbhjjbhaaDoor.dn (toF l) x) (fun x hx hd => hx (h.dn x hd)) hz1 (fun hc => hc (h.won z hz3 hz4 hz1 hz2)) hz3 n hz4
    have h6 := Nat.mul_le_mul_right (n + 1) h1
    omega
end Go.Proofs.YtpeafglbhjjbhaaDoor


/- A block and its only next one become one: what the program makes. -/
namespace Go.Proofs.YtpeafglbhjjbhaaDoor
open Go Go.RowKit

theorem natI_nat (n : Nat) : natI ((n : Nat) : Int) = some n := by simp [natI]
theorem wrap_add1 {i : Int} (h0 : 0 ≤ i) (h1 : i < 9223372036854775807) : IntKind.i64.wrap (i + 1) = i + 1 := wrap_small (by omega) (by omega)
theorem values_eq {f : MFun} (h : SzF f) : p_code_Values f = some ((offs f.Blocks f.Blocks.length : Nat) : Int) := by
  unfold p_code_Values
  rw [codeFirst_eq h (Nat.le_refl _)]
  rfl
/-- Each place of a list is set. -/
theorem setAll_ok {α : Type} {l : List α} {n : Nat} (c : Int → α) (hl : l.length = n) (hn : n < 9223372036854775807) : Ok (loop (fun (s : (List α) × Int) =>
(bif decide (s.2 < ((n : Nat) : Int)) then
((atI s.1 s.2).bind fun _ =>
some (Xt.go ((s.1.set s.2.toNat (c s.2)), IntKind.i64.wrap (s.2 + 1))))
else
some (Xt.out s.1))) Fu (l, 0)) (fun r => r.length = n) := by
  refine Ok.loop (fun s => s.1.length = n ∧ 0 ≤ s.2 ∧ s.2 ≤ (n : Int)) (fun s => n - s.2.toNat) ⟨hl, by simp, by simp⟩ (by simp; omega) fun s hs => ?_
  obtain ⟨h1, h2, h3⟩ := hs
  refine Ok.dec (fun hlt => ?_) (fun _ => .ok h1)
  refine Ok.bind (Ok.at (Q := fun _ => True) h2 (by omega) fun _ _ _ => trivial) fun _ _ => .ok ?_
  rw [wrap_add1 h2 (by omega)]
  exact ⟨⟨by simpa using h1, by simp; omega, by simp; omega⟩, by simp; omega⟩
/-- Names come to rest. -/
theorem again_ok (l : List Int) (hl : l.length ≤ 400000) : Ok (loop (fun (s34165 : (List Int) × Bool) =>
(bif s34165.2 then
((loop (fun (s38170 : (List Int) × Bool × Int) =>
(bif decide (s38170.2.2 < ((s34165.1.length : Nat) : Int)) then
((((atI s38170.1 s38170.2.2).bind fun x38180 =>
(((bif decide ((0 : Int) ≤ x38180) then
(bif decide (x38180 < ((s38170.1.length : Nat) : Int)) then
((atI s38170.1 x38180).bind fun x38187 =>
(bif decide (x38187 = x38180) then
some false
else
some (!(decide (x38180 = s38170.2.2)))))
else
some false)
else
some false)).bind fun (s38183 : Bool) =>
(bif s38183 then
((atI s38170.1 x38180).bind fun x38191 =>
some ((s38170.1.set s38170.2.2.toNat x38191), true))
else
some (s38170.1, s38170.2.1))))).bind fun (s38178 : (List Int) × Bool) =>
some (Xt.go (s38178.1, s38178.2, IntKind.i64.wrap (s38170.2.2 + 1))))
else
some (Xt.out (s38170.1, s38170.2.1)))) Fu (s34165.1, false, 0)).bind fun o38173 => some (Xt.go o38173))
else
some (Xt.out s34165.1))) Fu (l, true)) (fun r => r.length = l.length) := by
  have hb : ∀ l' : List Int, far l.length l' ≤ 160000800000 := fun l' => by
    have h1 := far_le l.length l'
    have h2 : l.length * (l.length + 1) ≤ 400000 * (400000 + 1) := Nat.mul_le_mul hl (by omega)
    omega
  refine Ok.loop (fun s => s.1.length = l.length) (fun s => 2 * far l.length s.1 + (bif s.2 then 1 else 0)) rfl (by have := hb l; simp; omega) fun s hs => Ok.bif (fun hs2 => ?_) (fun _ => .ok hs)
  refine Ok.bind (P := fun r => Ps l.length s.1 r.1 r.2 (l.length : Int)) (Ok.loop (fun t => Ps l.length s.1 t.1 t.2.1 t.2.2) (fun t => l.length - t.2.2.toNat) (Ps.start hs) (by simp; omega) fun t ht => ?_) fun r hr => .ok ?_
  · refine Ok.dec (fun hlt => ?_) (fun hge => .ok ?_)
    · have h0 := ht.i0
      have hlen := ht.len
      have hlt' : t.2.2 < ((t.1.length : Nat) : Int) := by omega
      refine Ok.bind (P := fun r => Ps l.length s.1 r.1 r.2 (t.2.2 + 1)) (Ok.bind (P := fun x => x = toF t.1 t.2.2) (Ok.at h0 hlt' fun x hx _ => (toF_in h0 hx).symm) fun x hx => ?_) fun r hr => .ok ?_
      · refine Ok.bind (P := fun c => (c = true ↔ ¬ dn (toF t.1) t.2.2) ∧ (c = true → 0 ≤ x ∧ x < ((t.1.length : Nat) : Int))) ?_ fun c hc => Ok.bif (fun hc1 => ?_) (fun hc1 => ?_)
        · refine Ok.dec (fun g0 => Ok.dec (fun g1 => ?_) (fun g1 => .ok ⟨⟨fun e => (by cases e), fun e => absurd ?_ e⟩, fun e => by cases e⟩)) (fun g0 => .ok ⟨⟨fun e => (by cases e), fun e => absurd ?_ e⟩, fun e => by cases e⟩)
          · refine Ok.bind (P := fun y => y = toF t.1 x) (Ok.at g0 g1 fun y hy _ => (toF_in g0 hy).symm) fun y hy => Ok.dec (fun e => .ok ⟨⟨fun e => (by cases e), fun e' => absurd ?_ e'⟩, fun e => by cases e⟩) (fun e => .ok ⟨⟨fun e' => ?_, fun e' => ?_⟩, fun _ => ⟨g0, g1⟩⟩)
            · unfold dn
              rw [← hx, ← hy, e]
            · unfold dn
              rw [← hx, ← hy]
              exact e
            · simp only [Bool.not_eq_true', decide_eq_false_iff_not]
              intro e2
              apply e
              rw [hy, e2, ← hx, e2]
          · unfold dn
            rw [← hx, toF_out fun hc => g1 hc.2]
          · unfold dn
            rw [← hx, toF_out fun hc => g0 hc.1]
        · obtain ⟨g0, g1⟩ := hc.2 hc1
          refine Ok.bind (P := fun y => y = toF t.1 x) (Ok.at g0 g1 fun y hy _ => (toF_in g0 hy).symm) fun y hy => .ok ?_
          subst hy
          subst hx
          exact ht.turn (by omega) (hc.1.1 hc1)
        · have : dn (toF t.1) t.2.2 := Classical.byContradiction fun e => by
            have := hc.1.2 e
            rw [hc1] at this
            cases this
          exact .ok (ht.keep (by omega) this)
      · rw [wrap_add1 h0 (by omega)]
        exact ⟨hr, by simp; omega⟩
    · have := ht.i1
      have h9 : t.2.2 = (l.length : Int) := by omega
      rw [← h9]
      exact ht
  · refine ⟨hr.len, ?_⟩
    obtain ⟨r1, r2⟩ := r
    obtain ⟨s1, s2⟩ := s
    simp only at hs2 hs hr
    subst hs2
    cases r2 with
    | false =>
      have := hr.far_le
      simp
      omega
    | true =>
      have := hr.far_lt hs
      simp
      omega
end Go.Proofs.YtpeafglbhjjbhaaDoor


/- A block and its only next one become one: what comes is no greater. -/
namespace Go.Proofs.YtpeafglbhjjbhaaDoor
open Go Go.RowKit

/-! Sums. -/
theorem sum_set : ∀ (l : List Nat) (i y : Nat) (h : i < l.length), (l.set i y).sum + l[i] = l.sum + y
  | a :: l, 0, y, _ => by simp; omega
  | a :: l, i + 1, y, h => by
    have := sum_set l i y (by simpa using h)
    simp
    omega
theorem sum_del : ∀ (l : List Nat) (i : Nat) (h : i < l.length), (l.take i ++ l.drop (i + 1)).sum + l[i] = l.sum
  | a :: l, 0, _ => by simp; omega
  | a :: l, i + 1, h => by
    have := sum_del l i (by simpa using h)
    simp at this ⊢
    omega
theorem sum_two : ∀ (l : List Nat) (i j : Nat) (hi : i < l.length) (hj : j < l.length), i ≠ j → l[i] + l[j] ≤ l.sum := fun l i j hi hj hij => by
  have h1 := sum_set l i 0 hi
  have h2 := sum_set (l.set i 0) j 0 (by simpa using hj)
  rw [List.getElem_set_ne hij] at h2
  omega
/-- How many steps of blocks are such. -/
def sm (q : MOp → Bool) (bs : List MBlk) : Nat := (bs.map fun b => b.Ops.countP q).sum
/-- It does not hang on names. -/
structure Nl (q : MOp → Bool) : Prop where
  r : ∀ to o, q (reO to o) = q o
  p : ∀ o, q (plO o) = q o
theorem countP_map' {q : MOp → Bool} {g : MOp → MOp} (h : ∀ o, q (g o) = q o) (l : List MOp) : (l.map g).countP q = l.countP q := by
  induction l with
  | nil => rfl
  | cons a l ih => simp only [List.map_cons, List.countP_cons, ih, h]
theorem sm_map {q : MOp → Bool} {g : MBlk → MBlk} (h : ∀ b, (g b).Ops.countP q = b.Ops.countP q) (bs : List MBlk) : sm q (bs.map g) = sm q bs := by
  unfold sm
  rw [List.map_map]
  congr 1
  exact List.map_congr_left fun b _ => h b
theorem sm_pl {q : MOp → Bool} (h : Nl q) (f : MFun) : sm q (plF f).Blocks = sm q f.Blocks := sm_map (fun b => countP_map' h.p b.Ops) f.Blocks
theorem sm_re {q : MOp → Bool} (h : Nl q) (ret : Int) (to : List Int) (bs : List MBlk) : sm q (bs.map (reB ret to)) = sm q bs := sm_map (fun b => countP_map' (fun o => (h.r to _).trans (h.p o)) b.Ops) bs
theorem sm_merge {q : MOp → Bool} {bs : List MBlk} {i j : Nat} (hi : i < bs.length) (hj : j < bs.length) (hij : i ≠ j) (P : List Int) (E : MEnd) : sm q ((bs.set i ⟨P, bs[i].Ops ++ bs[j].Ops, E⟩).take j ++ (bs.set i ⟨P, bs[i].Ops ++ bs[j].Ops, E⟩).drop (j + 1)) = sm q bs := by
  unfold sm
  rw [List.map_append, List.map_take, List.map_drop, List.map_set]
  have h1 := sum_set (bs.map fun b => b.Ops.countP q) i ((bs[i].Ops ++ bs[j].Ops).countP q) (by simpa using hi)
  have h2 := sum_del ((bs.map fun b => b.Ops.countP q).set i ((bs[i].Ops ++ bs[j].Ops).countP q)) j (by simpa using hj)
  rw [List.getElem_set_ne hij] at h2
  simp only [List.getElem_map, List.countP_append] at h1 h2
  simp only [List.countP_append]
  omega
theorem sm_ops {bs : List MBlk} : sm (fun _ => true) bs = (bs.map fun b => b.Ops.length).sum := by
  unfold sm
  congr 1
  exact List.map_congr_left fun b _ => List.countP_eq_length.2 fun _ _ => rfl
theorem nl_all : Nl (fun _ => true) := ⟨fun _ _ => rfl, fun _ => rfl⟩
theorem ops_two {bs : List MBlk} {i j : Nat} (hi : i < bs.length) (hj : j < bs.length) (hij : i ≠ j) : bs[i].Ops.length + bs[j].Ops.length ≤ sm (fun _ => true) bs := by
  rw [sm_ops]
  have := sum_two (bs.map fun b => b.Ops.length) i j (by simpa using hi) (by simpa using hj) hij
  simpa using this
/-! Names of blocks, when one is gone. -/
def mvF (b n : Int) : Int := bif decide (n = b) then (-1) else (bif decide (b < n) then IntKind.i64.wrap (n - 1) else n)
theorem mv_eq (n b : Int) : p_tidy_merged_1 n b = some (mvF b n) := by
  unfold p_tidy_merged_1 mvF
  cases decide (n = b) <;> cases decide (b < n) <;> rfl
def reE2 (ret : Int) (to : List Int) (b : Int) (e : MEnd) : MEnd := ⟨e.K, bif decide (e.K = 1) || (decide (e.K = 3) || (decide (e.K = 2) && !(decide (ret = (-1))))) then toF to e.A else e.A, bif decide (e.K = 0) || decide (e.K = 1) then mvF b e.To else e.To, bif decide (e.K = 1) then mvF b e.Else else e.Else, bif decide (e.K = 0) || decide (e.K = 1) then e.L.map (toF to) else e.L, bif decide (e.K = 1) then e.M.map (toF to) else e.M⟩
def reB2 (ret : Int) (to : List Int) (wh : Int) (b : MBlk) : MBlk := ⟨b.Params, b.Ops.map (fun o => reO to (plO o)), reE2 ret to wh b.End⟩
theorem endRen2_eq {ret K A To Else : Int} {L M : List Int} (to : List Int) (wh : Int) (hL : L.length ≤ 400) (hM : M.length ≤ 400) : p_tidy_end_t2 ret K A To Else L M to wh = some (reE2 ret to wh ⟨K, A, To, Else, L, M⟩) := by
  unfold p_tidy_end_t2 reE2
  simp only [named_eq, names_eq to hL, names_eq to hM, mv_eq, Option.bind_some]
  cases decide (K = 0) <;> cases decide (K = 1) <;> cases decide (K = 2) <;> cases decide (K = 3) <;> cases decide (ret = -1) <;> rfl
theorem renamed2_eq {f : MFun} (to : List Int) (wh : Int) (h : SzF f) : p_tidy_renamed_s2 f to wh = some ⟨f.Ret, (plF f).Blocks.map (reB2 f.Ret to wh)⟩ := by
  have hF := plF_sz h
  unfold p_tidy_renamed_s2
  simp only [ownP_eq h, Option.bind_some, p_tidy_named]
  rw [loop_setI (plF f).Blocks (reB2 f.Ret to wh) (fun i x s hx hs hi hm => ?_) (fun s hs => by simp) (by have := hF.b; omega)]
  · rfl
  · have hlt : ((i : Nat) : Int) < (((plF f).Blocks.length : Nat) : Int) := by omega
    have hb := hF.bs x hm
    have := hF.b
    simp only [hlt, decide_true, cond_true, atI_nat, hx, Option.bind_some, Int.toNat_natCast]
    rw [innerP to s i x (by omega) hb]
    simp only [Option.bind_some, List.getElem?_set_self (show i < s.length by omega), endRen2_eq to wh hb.l hb.m, List.set_set, wrap_inc (show i < 9223372036854775807 by omega)]
    rfl
theorem re2_sz {f : MFun} (to : List Int) (wh : Int) (hs : SzF f) : SzF ⟨f.Ret, (plF f).Blocks.map (reB2 f.Ret to wh)⟩ := by
  have hF := plF_sz hs
  refine ⟨by simpa using hF.b, fun b hb => ?_⟩
  obtain ⟨b', h1, rfl⟩ := List.mem_map.1 hb
  have hb' := hF.bs b' h1
  refine ⟨hb'.p, by simpa [reB2] using hb'.o, bif_len (by simpa using hb'.l) hb'.l, bif_len (by simpa using hb'.m) hb'.m, fun o ho => ?_⟩
  obtain ⟨o', h2, rfl⟩ := List.mem_map.1 ho
  have := plO_L (hb'.os o' h2)
  exact bif_len (by simpa using this) this
theorem sm_re2 {q : MOp → Bool} (h : Nl q) (ret : Int) (to : List Int) (wh : Int) (bs : List MBlk) : sm q (bs.map (reB2 ret to wh)) = sm q bs := sm_map (fun b => countP_map' (fun o => (h.r to _).trans (h.p o)) b.Ops) bs
/-- A block's values. -/
theorem span_ok {f : MFun} (h : SzF f) {i : Nat} (hi : i < f.Blocks.length) : Ok (p_tidy_span f (i : Int)) (fun l => l.length = nB f.Blocks[i] ∧ ∀ v ∈ l, 0 ≤ v ∧ v < ((offs f.Blocks f.Blocks.length : Nat) : Int)) := by
  have h1 := offs_lt h (Nat.le_refl _)
  have h2 := offs_mono h hi
  have h3 := offs_end (bs := f.Blocks) (f.Blocks.length - (i + 1)) (i + 1) (by omega)
  have h4 := offs_succ f.Blocks hi
  have hb := h.b
  unfold p_tidy_span
  simp only [codeFirst2_eq h (Nat.le_of_lt hi), Option.bind_some, wrap_inc (show i < 9223372036854775807 by omega), codeFirst2_eq h (show i + 1 ≤ f.Blocks.length by omega)]
  refine Ok.bind (Ok.loop (fun s => (s.1.length : Int) + offs f.Blocks i = s.2 ∧ s.2 ≤ offs f.Blocks (i + 1) ∧ ∀ v ∈ s.1, 0 ≤ v ∧ v < ((offs f.Blocks f.Blocks.length : Nat) : Int)) (fun s => offs f.Blocks (i + 1) - s.2.toNat) ⟨by simp, by omega, by simp⟩ (by simp; omega) (Post := fun l => l.length = nB f.Blocks[i] ∧ ∀ v ∈ l, 0 ≤ v ∧ v < ((offs f.Blocks f.Blocks.length : Nat) : Int)) fun s hs => ?_) fun r hr => .ok hr
  obtain ⟨e1, e2, e3⟩ := hs
  refine Ok.dec (fun hlt => Ok.ck (by omega) (.ok ?_)) (fun hge => .ok ⟨by omega, e3⟩)
  rw [wrap_add1 (by omega) (by omega)]
  refine ⟨⟨by simp; omega, by simp; omega, fun v hv => ?_⟩, by simp; omega⟩
  rcases List.mem_append.1 hv with hv | hv
  · exact e3 v hv
  · rw [List.mem_singleton.1 hv]
    omega
end Go.Proofs.YtpeafglbhjjbhaaDoor


/- A block and its only next one become one: it comes to an end. -/
namespace Go.Proofs.YtpeafglbhjjbhaaDoor
open Go Go.RowKit

theorem len_pl (f : MFun) : (plF f).Blocks.length = f.Blocks.length := by simp [plF]
theorem offs_re {f : MFun} (to : List Int) (i : Nat) : offs ((plF f).Blocks.map (reB f.Ret to)) i = offs f.Blocks i := offs_map (re_nB to) i
theorem nB_re {f : MFun} (to : List Int) {i : Nat} (hi : i < f.Blocks.length) (hi2 : i < ((plF f).Blocks.map (reB f.Ret to)).length) : nB ((plF f).Blocks.map (reB f.Ret to))[i] = nB f.Blocks[i] := by
  obtain ⟨h1, h2⟩ := re_at to hi hi2
  unfold nB
  rw [h1, h2]
/-- What becomes of a program's function when one block goes into another one. -/
structure Mg (f g : MFun) : Prop where
  sz : SzF g
  len : g.Blocks.length + 1 = f.Blocks.length
  sm : ∀ q, Nl q → Go.Proofs.YtpeafglbhjjbhaaDoor.sm q g.Blocks = Go.Proofs.YtpeafglbhjjbhaaDoor.sm q f.Blocks
theorem SzF.merge {bs : List MBlk} {ret : Int} (h : SzF ⟨ret, bs⟩) {i j : Nat} (hi : i < bs.length) (hj : j < bs.length) (ho : bs[i].Ops.length + bs[j].Ops.length ≤ 400) : SzF ⟨ret, (bs.set i ⟨bs[i].Params, bs[i].Ops ++ bs[j].Ops, bs[j].End⟩).take j ++ (bs.set i ⟨bs[i].Params, bs[i].Ops ++ bs[j].Ops, bs[j].End⟩).drop (j + 1)⟩ := by
  have hb := h.b
  simp only at hb
  have hI := h.bs _ (List.getElem_mem hi)
  have hJ := h.bs _ (List.getElem_mem hj)
  refine ⟨by simp; omega, fun b hm => ?_⟩
  have hm' : b ∈ bs.set i ⟨bs[i].Params, bs[i].Ops ++ bs[j].Ops, bs[j].End⟩ := by
    rcases List.mem_append.1 hm with hm | hm
    · exact List.mem_of_mem_take hm
    · exact List.mem_of_mem_drop hm
  rcases List.mem_or_eq_of_mem_set hm' with hm' | rfl
  · exact h.bs b hm'
  · refine ⟨hI.p, by simp; omega, hJ.l, hJ.m, fun o ho => ?_⟩
    rcases List.mem_append.1 ho with ho | ho
    · exact hI.os o ho
    · exact hJ.os o ho
theorem del_eq (l : List MBlk) (b : Nat) (hb : b < l.length) (hl : l.length ≤ 400) : p_slices_Delete_api_Block_api_Block_t1 l (b : Int) (IntKind.i64.wrap ((b : Int) + 1)) = some (l.take b ++ l.drop (b + 1)) := by
  unfold p_slices_Delete_api_Block_api_Block_t1
  rw [wrap_inc (by omega)]
  simp only [natI_nat, Option.bind_some]
  rw [ck_t ⟨by omega, by omega⟩]
  have : ¬ ((b : Nat) : Int) = ((b + 1 : Nat) : Int) := by omega
  rw [decide_eq_false this]
  rfl
theorem merged_ok {f : MFun} {a b : Nat} (h : SzF f) (ht : sm (fun _ => true) f.Blocks ≤ 400) (ha : a < f.Blocks.length) (hb : b < f.Blocks.length) (hab : a ≠ b) (hL : f.Blocks[a].End.L.length = f.Blocks[b].Params.length) : Ok (p_tidy_merged f (a : Int) (b : Int)) (Mg f) := by
  have h1 := offs_lt h (Nat.le_refl _)
  have h2 := offs_mono h hb
  have h3 := offs_end (bs := f.Blocks) (f.Blocks.length - (b + 1)) (b + 1) (by omega)
  have h4 := offs_succ f.Blocks hb
  have hn := h.b
  have hla := (h.bs _ (List.getElem_mem ha)).l
  have hpb := (h.bs _ (List.getElem_mem hb)).p
  have hnb : nB f.Blocks[b] = f.Blocks[b].Params.length + f.Blocks[b].Ops.length := rfl
  unfold p_tidy_merged
  simp only [values_eq h, Option.bind_some, natI_nat, List.length_replicate]
  refine Ok.ck (by omega) ?_
  refine Ok.bind (setAll_ok (fun i => i) (by simp) (by omega)) fun l0 hl0 => ?_
  simp only [atI_nat, List.getElem?_eq_getElem ha, List.getElem?_eq_getElem hb, Option.bind_some, codeFirst2_eq h (Nat.le_of_lt hb)]
  refine Ok.bind (P := fun l => l.length = offs f.Blocks f.Blocks.length) (Ok.loop (fun s => s.1.length = offs f.Blocks f.Blocks.length) (fun s => f.Blocks[a].End.L.length - s.2) hl0 (by simp; omega) fun s hs => ?_) fun l1 hl1 => ?_
  · refine Ok.dec (fun hlt => ?_) (fun _ => .ok hs)
    refine Ok.bind (Ok.get (Q := fun _ => True) hlt fun _ _ _ => trivial) fun x _ => ?_
    have e : IntKind.i64.wrap (((offs f.Blocks b : Nat) : Int) + ((s.2 : Nat) : Int)) = ((offs f.Blocks b + s.2 : Nat) : Int) := by
      rw [wrap_small (by omega) (by omega)]
      omega
    rw [e]
    refine Ok.bind (Ok.at (Q := fun _ => True) (by omega) (by omega) fun _ _ _ => trivial) fun _ _ => .ok ?_
    exact ⟨by simpa using hs, by simp; omega⟩
  refine Ok.bind (again_ok l1 (by omega)) fun l2 hl2 => ?_
  rw [renamedS_eq l2 h]
  simp only [Option.bind_some]
  have hy : SzF ⟨f.Ret, (plF f).Blocks.map (reB f.Ret l2)⟩ := re_sz l2 h
  have hylen : ((plF f).Blocks.map (reB f.Ret l2)).length = f.Blocks.length := by simp [len_pl]
  have hoffs : offs ((plF f).Blocks.map (reB f.Ret l2)) ((plF f).Blocks.map (reB f.Ret l2)).length = offs f.Blocks f.Blocks.length := by rw [offs_re, hylen]
  have hsp : ∀ i : Nat, i < f.Blocks.length → Ok (p_tidy_span ⟨f.Ret, (plF f).Blocks.map (reB f.Ret l2)⟩ (i : Int)) (fun l => (∀ hi : i < f.Blocks.length, l.length = nB f.Blocks[i]) ∧ ∀ v ∈ l, 0 ≤ v ∧ v < ((offs f.Blocks f.Blocks.length : Nat) : Int)) := fun i hi => by
    refine Ok.mono (span_ok hy (i := i) (by simp only; omega)) fun l hl => ⟨fun hi => ?_, fun v hv => ?_⟩
    · rw [hl.1]
      exact nB_re l2 hi (by omega)
    · have := hl.2 v hv
      simp only at this
      rw [hoffs] at this
      exact this
  have hnB : ∀ (i : Nat) (hi : i < f.Blocks.length), nB f.Blocks[i] ≤ 800 := fun i hi => by
    have q1 := (h.bs _ (List.getElem_mem hi)).p
    have q2 := (h.bs _ (List.getElem_mem hi)).o
    unfold nB
    omega
  generalize hV : offs f.Blocks f.Blocks.length = V at *
  rw [hylen]
  refine Ok.bind (P := fun l => l.length ≤ 640000 ∧ ∀ v ∈ l, 0 ≤ v ∧ v < (V : Int)) (Ok.loop (fun s => s.2 ≤ f.Blocks.length ∧ s.1.length ≤ 1600 * s.2 ∧ ∀ v ∈ s.1, 0 ≤ v ∧ v < (V : Int)) (fun s => f.Blocks.length - s.2) ⟨by simp, by simp, by simp⟩ (by simp; omega) fun s hs => ?_) fun at_ hat => ?_
  · obtain ⟨e1, e2, e3⟩ := hs
    refine Ok.dec (fun hlt => ?_) (fun _ => .ok ⟨by omega, e3⟩)
    refine Ok.bind (P := fun l => l.length ≤ 1600 * (s.2 + 1) ∧ ∀ v ∈ l, 0 ≤ v ∧ v < (V : Int)) ?_ fun l hl => .ok ⟨⟨hlt, hl.1, hl.2⟩, by simp; omega⟩
    refine Ok.dec (fun _ => .ok ⟨by omega, e3⟩) (fun _ => ?_)
    refine Ok.bind (hsp s.2 hlt) fun y hy1 => ?_
    have g1 := hy1.1 hlt
    have g2 := hnB s.2 hlt
    refine Ok.ck (by simp; omega) ?_
    have hm1 : ∀ v ∈ s.1 ++ y, 0 ≤ v ∧ v < (V : Int) := fun v hv => by
      rcases List.mem_append.1 hv with hv | hv
      · exact e3 v hv
      · exact hy1.2 v hv
    refine Ok.dec (fun _ => ?_) (fun _ => .ok ⟨by simp; omega, hm1⟩)
    refine Ok.bind (hsp b hb) fun z hz1 => ?_
    have g3 := hz1.1 hb
    have g4 := hnB b hb
    have hlz : (takeN z f.Blocks[b].Params.length z.length).length ≤ 800 := by
      unfold takeN
      simp
      omega
    refine Ok.ck ⟨by omega, by omega⟩ (Ok.ck (by simp only [List.length_append] at hlz ⊢; omega) (.ok ⟨by simp only [List.length_append] at hlz ⊢; omega, fun v hv => ?_⟩))
    rcases List.mem_append.1 hv with hv | hv
    · exact hm1 v hv
    · unfold takeN at hv
      exact hz1.2 v (List.mem_of_mem_drop (List.mem_of_mem_take hv))
  have hl2' : l2.length = V := by omega
  rw [hl2']
  refine Ok.bind (setAll_ok (fun _ => (-1 : Int)) hl2' (by omega)) fun l3 hl3 => ?_
  refine Ok.bind (P := fun l => l.length = V) (Ok.loop (fun s => s.1.length = V) (fun s => at_.length - s.2) hl3 (by simp; omega) fun s hs => ?_) fun l4 hl4 => ?_
  · refine Ok.dec (fun hlt => ?_) (fun _ => .ok hs)
    refine Ok.bind (Ok.get (Q := fun x => 0 ≤ x ∧ x < (V : Int)) hlt fun x _ hx => hat.2 x hx) fun x hx => ?_
    refine Ok.bind (Ok.at (Q := fun _ => True) hx.1 (by omega) fun _ _ _ => trivial) fun _ _ => .ok ?_
    exact ⟨by simpa using hs, by simp; omega⟩
  rw [renamed2_eq l4 (b : Int) hy]
  have hz := re2_sz l4 (b : Int) hy
  have hsmz : ∀ q, Nl q → sm q ((plF ⟨f.Ret, (plF f).Blocks.map (reB f.Ret l2)⟩).Blocks.map (reB2 f.Ret l4 (b : Int))) = sm q f.Blocks := fun q hq => by
    rw [sm_re2 hq, sm_pl hq]
    show sm q ((plF f).Blocks.map (reB f.Ret l2)) = sm q f.Blocks
    rw [sm_re hq, sm_pl hq]
  have hzlen : ((plF ⟨f.Ret, (plF f).Blocks.map (reB f.Ret l2)⟩).Blocks.map (reB2 f.Ret l4 (b : Int))).length = f.Blocks.length := by
    rw [List.length_map, len_pl]
    exact hylen
  simp only [Option.bind_some] at hz ⊢
  generalize (plF ⟨f.Ret, (plF f).Blocks.map (reB f.Ret l2)⟩).Blocks.map (reB2 f.Ret l4 (b : Int)) = Z at *
  have hza : a < Z.length := by omega
  have hzb : b < Z.length := by omega
  simp only [List.getElem?_eq_getElem hza, List.getElem?_eq_getElem hzb, Option.bind_some, Int.toNat_natCast]
  have ho := ops_two hza hzb hab
  rw [hsmz _ nl_all] at ho
  refine Ok.ck hab (Ok.ck (by simp only [List.length_append]; omega) (Ok.ck hab ?_))
  rw [del_eq _ b (by simpa using hzb) (by simp; omega)]
  refine .ok ⟨SzF.merge hz hza hzb (by omega), by simp; omega, fun q hq => ?_⟩
  show sm q _ = _
  rw [sm_merge hza hzb hab, hsmz q hq]
end Go.Proofs.YtpeafglbhjjbhaaDoor


/- How blocks follow one another: the program's walks come to an end. -/
namespace Go.Proofs.YtpeafglbhjjbhaaDoor
open Go Go.RowKit

theorem index_ok (l : List Int) (x : Int) (hl : l.length < 18446744073709551616) : Ok (p_slices_Index_int_int l x) (fun _ => True) := by
  unfold p_slices_Index_int_int
  refine Ok.bind (P := fun _ => True) (Ok.loop (fun _ => True) (fun s => l.length - s) trivial (by simpa using hl) fun s _ => ?_) fun s _ => ?_
  · refine Ok.dec (fun hlt => ?_) (fun _ => .ok trivial)
    refine Ok.bind (Ok.get (Q := fun _ => True) hlt fun _ _ _ => trivial) fun y _ => Ok.dec (fun _ => .ok trivial) (fun _ => .ok ⟨trivial, by simp only; omega⟩)
  · cases s with
    | go _ => exact .ok trivial
    | out r => exact .ok trivial
theorem contains_ok (l : List Int) (x : Int) (hl : l.length < 18446744073709551616) : Ok (p_slices_Contains_int_int l x) (fun _ => True) := by
  unfold p_slices_Contains_int_int
  exact Ok.bind (index_ok l x hl) fun _ _ => .ok trivial
theorem equal_ok (l m : List Int) (hl : l.length < 18446744073709551616) : Ok (p_slices_Equal_int_int l m) (fun _ => True) := by
  unfold p_slices_Equal_int_int
  refine Ok.dec (fun he => ?_) (fun _ => .ok trivial)
  refine Ok.bind (P := fun _ => True) (Ok.loop (fun _ => True) (fun s => l.length - s) trivial (by simpa using hl) fun s _ => ?_) fun s _ => ?_
  · refine Ok.dec (fun hlt => ?_) (fun _ => .ok trivial)
    refine Ok.bind (Ok.get (Q := fun _ => True) hlt fun _ _ _ => trivial) fun y _ => Ok.bind (Ok.get (Q := fun _ => True) (by omega) fun _ _ _ => trivial) fun z _ => Ok.dec (fun _ => .ok ⟨trivial, by simp only; omega⟩) (fun _ => .ok trivial)
  · cases s with
    | go _ => exact .ok trivial
    | out r => exact .ok trivial
theorem next_ok (b : MBlk) : Ok (p_cfg_next b) (fun l => l.length ≤ 2) := by
  unfold p_cfg_next p_cfg_targets
  simp only [Option.bind_some]
  have hB : ∀ (s : List Int) (y : MTarget), s.length ≤ 2 → Ok (((p_slices_Contains_int_int s y.To).bind fun y3009 =>
(bif y3009 then
some (Xt.go s)
else
(ck ((s.length + 1) * 8 ≤ 140737488355328)
(some (Xt.go (s ++ [y.To])))))) : Option (Xt ((List Int)) Unit)) (fun z => ∃ s', z = Xt.go s' ∧ s'.length ≤ s.length + 1) := fun s y hs => by
    refine Ok.bind (contains_ok s y.To (by omega)) fun c _ => Ok.bif (fun _ => .ok ⟨_, rfl, by omega⟩) (fun _ => Ok.ck (by omega) (.ok ⟨_, rfl, by simp⟩))
  refine Ok.bind (P := fun l => l.length ≤ 2) (Ok.bind (P := fun z => ∃ s', z = Xt.go s' ∧ s'.length ≤ 2) ?_ fun z hz => ?_) fun l hl => .ok hl
  · unfold p_cfg_targets_1_i
    refine Ok.bind (P := fun x => ∃ s', x = Xt.go s' ∧ s'.length ≤ 1) (Ok.dec (fun _ => Ok.bind (hB [] _ (by simp)) fun z hz => ?_) (fun _ => Ok.dec (fun _ => Ok.bind (hB [] _ (by simp)) fun z hz => ?_) (fun _ => .ok ⟨_, rfl, by simp⟩))) fun x hx => ?_
    · obtain ⟨s', rfl, h⟩ := hz
      exact .ok ⟨s', rfl, by simpa using h⟩
    · obtain ⟨s', rfl, h⟩ := hz
      exact .ok ⟨s', rfl, by simpa using h⟩
    · obtain ⟨s', rfl, h⟩ := hx
      refine Ok.dec (fun _ => Ok.bind (hB s' _ (by omega)) fun z hz => ?_) (fun _ => .ok ⟨s', rfl, by omega⟩)
      obtain ⟨s2, rfl, h2⟩ := hz
      exact .ok ⟨s2, rfl, by omega⟩
  · obtain ⟨s', rfl, h⟩ := hz
    exact .ok h
theorem there_ok (f : MFun) (n : Int) : p_cfg_there f n = some (decide (0 ≤ n ∧ n < ((f.Blocks.length : Nat) : Int))) := by
  unfold p_cfg_there
  by_cases h0 : (0 : Int) ≤ n <;> simp [h0]
theorem ahead_ok {f : MFun} (h : SzF f) : Ok (p_cfg_Ahead f) (fun l => l.length = f.Blocks.length ∧ ∀ x ∈ l, x.length ≤ 2000) := by
  have hn := h.b
  unfold p_cfg_Ahead
  refine Ok.ck (by omega) ?_
  refine Ok.bind (P := fun l => l.length = f.Blocks.length ∧ ∀ x ∈ l, x.length ≤ 2000) (Ok.loop (fun s => s.1.length = f.Blocks.length ∧ s.2 ≤ f.Blocks.length ∧ ∀ x ∈ s.1, x.length ≤ 2 * s.2) (fun s => f.Blocks.length - s.2) ⟨by simp, by simp, fun x hx => by rw [List.eq_of_mem_replicate hx]; simp⟩ (by simp; omega) fun s hs => ?_) fun l hl => .ok hl
  obtain ⟨e1, e2, e3⟩ := hs
  refine Ok.dec (fun hlt => ?_) (fun _ => .ok ⟨e1, fun x hx => by have := e3 x hx; omega⟩)
  refine Ok.bind (P := fun l => l.length = f.Blocks.length ∧ ∀ x ∈ l, x.length ≤ 2 * s.2 + 2) ?_ fun l hl => .ok ⟨⟨hl.1, by omega, fun x hx => by have := hl.2 x hx; simp only; omega⟩, by simp; omega⟩
  refine Ok.bind (Ok.get (Q := fun _ => True) hlt fun _ _ _ => trivial) fun b _ => ?_
  refine Ok.bind (next_ok b) fun y hy => ?_
  refine Ok.loop (fun t => t.1.length = f.Blocks.length ∧ t.2 ≤ y.length ∧ ∀ x ∈ t.1, x.length ≤ 2 * s.2 + t.2) (fun t => y.length - t.2) ⟨e1, by simp, by simpa using e3⟩ (by simp; omega) fun t ht => ?_
  obtain ⟨g1, g2, g3⟩ := ht
  refine Ok.dec (fun hlt2 => ?_) (fun _ => .ok ⟨g1, fun x hx => by have := g3 x hx; omega⟩)
  refine Ok.bind (P := fun l => l.length = f.Blocks.length ∧ ∀ x ∈ l, x.length ≤ 2 * s.2 + t.2 + 1) ?_ fun l hl => .ok ⟨⟨hl.1, by omega, fun x hx => by have := hl.2 x hx; simp only; omega⟩, by simp; omega⟩
  refine Ok.bind (Ok.get (Q := fun _ => True) hlt2 fun _ _ _ => trivial) fun n _ => ?_
  rw [there_ok]
  simp only [Option.bind_some]
  refine Ok.dec (fun hin => ?_) (fun _ => .ok ⟨g1, fun x hx => by have := g3 x hx; omega⟩)
  refine Ok.bind (Ok.at (Q := fun x => x.length ≤ 2 * s.2 + t.2) hin.1 (by omega) fun x _ hx => g3 x hx) fun x hx => Ok.ck (by omega) (.ok ⟨by simpa using g1, fun z hz => ?_⟩)
  rcases List.mem_or_eq_of_mem_set hz with hz | rfl
  · have := g3 z hz
    omega
  · simp
    omega
/-- A block that can go into the one ahead of it. -/
def Goes (f : MFun) (a : Nat) (n : Int) : Prop := ∃ b : Nat, n = (b : Int) ∧ ∃ (ha : a < f.Blocks.length) (hb : b < f.Blocks.length), a ≠ b ∧ f.Blocks[a].End.L.length = f.Blocks[b].Params.length
theorem tidyNext_ok {f : MFun} (h : SzF f) {a : Nat} (ha : a < f.Blocks.length) {l : List (List Int)} (hl : l.length = f.Blocks.length) (hx : ∀ x ∈ l, x.length ≤ 2000) : Ok (p_tidy_next f (a : Int) l) (fun r => r.2 = true → Goes f a r.1) := by
  unfold p_tidy_next
  refine Ok.bind (P := fun c => c = false) (Ok.dec (fun hc => absurd hc (by omega)) (fun _ => .ok (decide_eq_false (by omega)))) fun c hc => ?_
  subst hc
  show Ok ((atI f.Blocks (a : Int)).bind _) _
  rw [atI_nat, List.getElem?_eq_getElem ha]
  simp only [Option.bind_some]
  refine Ok.bind (P := fun c => c = false → 0 < f.Blocks[a].End.To ∧ f.Blocks[a].End.To < ((f.Blocks.length : Nat) : Int) ∧ f.Blocks[a].End.To ≠ (a : Int)) (Ok.dec (fun _ => Ok.dec (fun _ => .ok fun e => by cases e) (fun g1 => Ok.dec (fun _ => .ok fun e => by cases e) (fun g2 => .ok fun e => ⟨by omega, by omega, by simpa using e⟩))) (fun _ => .ok fun e => by cases e)) fun c hc => Ok.bif (fun _ => .ok fun e => by cases e) (fun hc2 => ?_)
  obtain ⟨g1, g2, g3⟩ := hc hc2
  have hb : (f.Blocks[a].End.To).toNat < f.Blocks.length := by omega
  refine Ok.bind (P := fun c => c = true → Goes f a f.Blocks[a].End.To) ?_ fun c hc => .ok hc
  refine Ok.bind (Ok.at (Q := fun x => x.length ≤ 2000) (by omega) (by omega) fun x _ hm => hx x hm) fun x hx1 => ?_
  refine Ok.bind (equal_ok x [(a : Int)] (by omega)) fun c _ => Ok.bif (fun _ => ?_) (fun _ => .ok fun e => by cases e)
  refine Ok.bind (Ok.at (Q := fun x => x = f.Blocks[(f.Blocks[a].End.To).toNat]) (by omega) (by omega) fun x hx2 _ => ?_) fun x hx2 => .ok fun e => ?_
  · rw [List.getElem?_eq_getElem hb] at hx2
    exact (Option.some.inj hx2).symm
  · refine ⟨(f.Blocks[a].End.To).toNat, by omega, ha, hb, by omega, ?_⟩
    subst hx2
    have := of_decide_eq_true e
    omega
end Go.Proofs.YtpeafglbhjjbhaaDoor


/- Blocks as a walk leaves them: it comes to an end. -/
namespace Go.Proofs.YtpeafglbhjjbhaaDoor
open Go Go.RowKit

def unm (l : List Bool) : Nat := l.countP fun b => !b
theorem unm_set : ∀ {l : List Bool} {i : Nat}, l[i]? = some false → unm (l.set i true) + 1 = unm l
  | [], _, h => by simp at h
  | a :: l, 0, h => by
    simp at h
    subst h
    simp [unm]
  | a :: l, i + 1, h => by
    have := unm_set (l := l) (i := i) (by simpa using h)
    simp only [unm, List.set_cons_succ, List.countP_cons] at this ⊢
    omega
theorem unm_rep (n : Nat) (h : 0 < n) : unm ((List.replicate n false).set 0 true) + 1 = n := by
  rw [unm_set (by simp [h])]
  simp [unm, List.countP_replicate]
def Pl (n : Nat) (l : List Mcfg_place) : Prop := ∀ p ∈ l, 0 ≤ p.block ∧ p.block < (n : Int) ∧ 0 ≤ p.at_ ∧ p.at_ ≤ 2
theorem Pl.set {n : Nat} {l : List Mcfg_place} (h : Pl n l) {i : Nat} {p : Mcfg_place} (hp : 0 ≤ p.block ∧ p.block < (n : Int) ∧ 0 ≤ p.at_ ∧ p.at_ ≤ 2) : Pl n (l.set i p) := fun q hq => by
  rcases List.mem_or_eq_of_mem_set hq with hq | rfl
  · exact h q hq
  · exact hp
theorem Pl.app {n : Nat} {l : List Mcfg_place} (h : Pl n l) {p : Mcfg_place} (hp : 0 ≤ p.block ∧ p.block < (n : Int) ∧ 0 ≤ p.at_ ∧ p.at_ ≤ 2) : Pl n (l ++ [p]) := fun q hq => by
  rcases List.mem_append.1 hq with hq | hq
  · exact h q hq
  · rw [List.mem_singleton.1 hq]; exact hp
theorem left_ok {f : MFun} (h : SzF f) : Ok (p_cfg_left_1_i f (fun (s3007 : (List Int)) (y6 : Int) =>
((ck ((s3007.length + 1) * 8 ≤ 140737488355328)
(some (Xt.go (s3007 ++ [y6])))) : Option (Xt ((List Int)) Unit))) []) (fun z => ∃ l, z = Xt.go l ∧ l.length ≤ f.Blocks.length) := by
  have hn := h.b
  unfold p_cfg_left_1_i
  refine Ok.dec (fun h0 => .ok ⟨[], rfl, by simp⟩) (fun h0 => Ok.ck (by omega) ?_)
  refine Ok.bind (Ok.get (Q := fun _ => True) (by simp; omega) fun _ _ _ => trivial) fun _ _ => ?_
  refine Ok.bind (P := fun z => ∃ l, z = Xt.go l ∧ l.length ≤ f.Blocks.length) (Ok.loop (fun s => s.1.length = f.Blocks.length ∧ Pl f.Blocks.length s.2.1 ∧ s.2.2.length + s.2.1.length + unm s.1 = f.Blocks.length) (fun s => 2 * unm s.1 + s.2.1.length) ?_ ?_ fun s hs => ?_) fun z hz => .ok hz
  · refine ⟨by simp, fun p hp => ?_, ?_⟩
    · rw [List.mem_singleton.1 hp]
      exact ⟨by simp, by simp only; omega, by simp, by simp⟩
    · have := unm_rep f.Blocks.length (by omega)
      simp
      omega
  · have := unm_rep f.Blocks.length (by omega)
    simp
    omega
  obtain ⟨e1, e2, e3⟩ := hs
  refine Ok.dec (fun hlt => ?_) (fun _ => .ok ⟨s.2.2, rfl, by omega⟩)
  obtain ⟨k, hk⟩ : ∃ k, s.2.1.length = k + 1 := ⟨s.2.1.length - 1, by omega⟩
  have hw : IntKind.i64.wrap (((s.2.1.length : Nat) : Int) - 1) = (k : Int) := by rw [wrap_small (by omega) (by omega)]; omega
  simp only [hw, Int.toNat_natCast]
  refine Ok.bind (Ok.at (Q := fun p => 0 ≤ p.block ∧ p.block < (f.Blocks.length : Int)) (by omega) (by omega) fun p _ hp => ⟨(e2 p hp).1, (e2 p hp).2.1⟩) fun p hp => ?_
  refine Ok.bind (Ok.at (Q := fun _ => True) hp.1 hp.2 fun _ _ _ => trivial) fun b _ => ?_
  refine Ok.bind (next_ok b) fun y hy => ?_
  refine Ok.bind (P := fun r => r.on (fun t => t.length = k + 1 ∧ Pl f.Blocks.length t) (fun t => t.1.length = f.Blocks.length ∧ Pl f.Blocks.length t.2.1 ∧ t.2.1.length = k + 2 ∧ unm t.1 + 1 = unm s.1 ∧ t.2.2 = s.2.2)) (Ok.loop (fun t => t.length = k + 1 ∧ Pl f.Blocks.length t) (fun t => 3 - ((t[k]?).getD ⟨0, 0⟩).at_.toNat) ⟨hk, e2⟩ (Nat.lt_of_le_of_lt (Nat.sub_le _ _) (by decide)) fun t ht => ?_) fun r hr => ?_
  · obtain ⟨g1, g2⟩ := ht
    have hkt : k < t.length := by omega
    refine Ok.bind (P := fun x => t[k]? = some x ∧ x ∈ t) (Ok.get hkt fun x hx hm => ⟨hx, hm⟩) fun x hx => ?_
    obtain ⟨hx1, hx2⟩ := hx
    obtain ⟨q1, q2, q3, q4⟩ := g2 x hx2
    have hwx : x.at_ < ((y.length : Nat) : Int) → IntKind.i64.wrap (x.at_ + 1) = x.at_ + 1 := fun _ => wrap_add1 q3 (by omega)
    refine Ok.dec (fun hlt2 => ?_) (fun _ => .ok ⟨g1, g2⟩)
    rw [hwx hlt2]
    refine Ok.bind (Ok.at (Q := fun _ => True) q3 hlt2 fun _ _ _ => trivial) fun n _ => ?_
    rw [there_ok]
    simp only [Option.bind_some]
    refine Ok.bind (P := fun c => c = true → 0 ≤ n ∧ n < (f.Blocks.length : Int) ∧ s.1[n.toNat]? = some false) (Ok.dec (fun hin => Ok.bind (P := fun x => s.1[n.toNat]? = some x) (Ok.at hin.1 (by omega) fun x hx _ => hx) fun z hz => .ok fun e => ?_) (fun _ => .ok fun e => by cases e)) fun c hc => Ok.bif (fun hc1 => ?_) (fun _ => .ok ⟨⟨by simpa using g1, g2.set ⟨q1, q2, by simp only; omega, by simp only; omega⟩⟩, ?_⟩)
    · cases z with
      | false => exact ⟨hin.1, hin.2, hz⟩
      | true => cases e
    · obtain ⟨r1, r2, r3⟩ := hc hc1
      refine Ok.bind (Ok.at (Q := fun _ => True) r1 (by omega) fun _ _ _ => trivial) fun _ _ => Ok.ck (by simp; omega) (.ok ?_)
      refine ⟨by simpa using e1, ?_, by simp; omega, unm_set r3, rfl⟩
      exact (g2.set (p := ⟨x.block, x.at_ + 1⟩) ⟨q1, q2, by simp only; omega, by simp only; omega⟩).app (p := ⟨n, 0⟩) ⟨r1, r2, by simp, by simp⟩
    · simp only [List.getElem?_set_self hkt, hx1, Option.getD_some]
      omega
  · cases r with
    | go t =>
      obtain ⟨g1, g2⟩ := hr
      refine Ok.bind (Ok.get (Q := fun _ => True) (by omega) fun _ _ _ => trivial) fun x _ => ?_
      show Ok (((ck ((s.2.2.length + 1) * 8 ≤ 140737488355328) (some (Xt.go (s.2.2 ++ [x.block])))) : Option (Xt (List Int) Unit)).bind _) _
      rw [ck_t (by omega)]
      have hw2 : IntKind.i64.wrap (((t.length : Nat) : Int) - 1) = (k : Int) := by rw [wrap_small (by omega) (by omega)]; omega
      show Ok ((natI (IntKind.i64.wrap (((t.length : Nat) : Int) - 1))).bind _) _
      rw [hw2, natI_nat]
      refine Ok.ck (by omega) (.ok ⟨⟨e1, fun q hq => g2 q (List.mem_of_mem_take hq), by simp; omega⟩, by simp; omega⟩)
    | out t =>
      obtain ⟨g1, g2, g3, g4, g5⟩ := hr
      refine .ok ⟨⟨g1, g2, by rw [g5]; omega⟩, by simp only; omega⟩
theorem reverse_ok (l : List Int) (hl : l.length ≤ 400) : Ok (p_slices_Reverse_int_int_t1 l) (fun r => r.length = l.length) := by
  unfold p_slices_Reverse_int_int_t1
  refine Ok.bind (P := fun r => r.length = l.length) (Ok.loop (fun s => s.1.length = l.length ∧ 0 ≤ s.2.1 ∧ -1 ≤ s.2.2 ∧ s.2.2 < (l.length : Int)) (fun s => (s.2.2 + 1).toNat) ?_ ?_ fun s hs => ?_) fun r hr => .ok hr
  · refine ⟨rfl, by simp, ?_, ?_⟩
    · by_cases e : l.length = 0
      · simp only [e]; decide
      · simp only; rw [wrap_small (by omega) (by omega)]; omega
    · by_cases e : l.length = 0
      · simp only [e]; decide
      · simp only; rw [wrap_small (by omega) (by omega)]; omega
  · by_cases e : l.length = 0
    · simp only [e]; decide
    · simp only; rw [wrap_small (by omega) (by omega)]; omega
  · obtain ⟨e1, e2, e3, e4⟩ := hs
    refine Ok.dec (fun hlt => ?_) (fun _ => .ok e1)
    refine Ok.bind (Ok.at (Q := fun _ => True) (by omega) (by omega) fun _ _ _ => trivial) fun _ _ => ?_
    refine Ok.bind (Ok.at (Q := fun _ => True) (by omega) (by omega) fun _ _ _ => trivial) fun _ _ => ?_
    refine Ok.bind (Ok.at (Q := fun _ => True) (by omega) (by simp; omega) fun _ _ _ => trivial) fun _ _ => .ok ?_
    rw [wrap_add1 e2 (by omega), wrap_small (i := s.2.2 - 1) (by omega) (by omega)]
    exact ⟨⟨by simpa using e1, by simp only; omega, by simp only; omega, by simp only; omega⟩, by simp only; omega⟩
theorem order_ok {f : MFun} (h : SzF f) : Ok (p_cfg_Order f) (fun l => l.length ≤ 400) := by
  have hn := h.b
  unfold p_cfg_Order p_cfg_order p_cfg_left
  simp only [Option.bind_some]
  refine Ok.bind (P := fun l => l.length ≤ 400) (Ok.bind (P := fun l => l.length ≤ 400) (Ok.bind (left_ok h) fun z hz => ?_) fun l hl => ?_) fun l hl => .ok hl
  · obtain ⟨l, rfl, hl⟩ := hz
    exact .ok (by omega)
  · exact Ok.bind (reverse_ok l hl) fun r hr => Ok.ck hr (.ok (by omega))
end Go.Proofs.YtpeafglbhjjbhaaDoor


/- A function put in order: it comes to an end, and nothing is more. -/
namespace Go.Proofs.YtpeafglbhjjbhaaDoor
open Go Go.RowKit

def rest (w : List Nat) (wh : List Int) : Nat := ((w.zip wh).map fun p => if p.2 < 0 then p.1 else 0).sum
theorem rest_set : ∀ (w : List Nat) (wh : List Int) (i : Nat) (y : Int) (hi : i < w.length) (hi2 : i < wh.length), wh[i] < 0 → 0 ≤ y → rest w (wh.set i y) + w[i] = rest w wh
  | [], _, _, _, hi, _, _, _ => by simp at hi
  | _ :: _, [], _, _, _, hi2, _, _ => by simp at hi2
  | a :: w, b :: wh, 0, y, _, _, h, hy => by
    have hy' : ¬ y < 0 := by omega
    have hb : b < 0 := by simpa using h
    simp [rest, hy', hb]
    omega
  | a :: w, b :: wh, i + 1, y, hi, hi2, h, hy => by
    have := rest_set w wh i y (by simpa using hi) (by simpa using hi2) (by simpa using h) hy
    simp [rest] at this ⊢
    omega
theorem rest_all : ∀ (w : List Nat), rest w (List.replicate w.length (-1)) = w.sum
  | [] => rfl
  | a :: w => by
    have := rest_all w
    simp only [rest] at this
    simp [rest, List.replicate_succ, this]
def pk (w : List Nat) (l : List Int) : Nat := (l.map fun x => (w[x.toNat]?).getD 0).sum
theorem pk_run {f : MFun} (h : SzF f) (w : List Nat) (hw : w.length = f.Blocks.length) (order : List Int) : pk w (runO f.Blocks order).l ≤ w.sum := by
  have key : ∀ (l : List Int) (s : OS), InvO f.Blocks s → pk w s.l + rest w s.wh = w.sum → pk w (l.foldl (stepO f.Blocks) s).l + rest w (l.foldl (stepO f.Blocks) s).wh = w.sum := fun l => by
    induction l with
    | nil => exact fun s _ hs => hs
    | cons x l ih =>
      refine fun s hI hs => ih _ (stepO_inv h hI x) ?_
      cases hk : skipO s x with
      | true => rw [stepO_t hk]; exact hs
      | false =>
        obtain ⟨h0, h1, v, h2, h3⟩ := skipO_f hk
        have hl : x.toNat < s.wh.length := by omega
        have hb : x.toNat < w.length := by have := hI.w; omega
        have hv : s.wh[x.toNat] = v := by
          have := List.getElem?_eq_getElem hl
          rw [h2] at this
          exact (Option.some.inj this).symm
        have hr := rest_set w s.wh x.toNat ((s.l.length : Nat) : Int) hb hl (by rw [hv]; exact h3) (by omega)
        rw [stepO_f hk]
        simp only [pk, List.map_append, List.sum_append, List.map_cons, List.map_nil, List.sum_cons, List.sum_nil, List.getElem?_eq_getElem hb, Option.getD_some] at hs ⊢
        omega
  have := key order (s0O f.Blocks) (s0O_inv _) (by
    show pk w [] + rest w (List.replicate f.Blocks.length (-1)) = w.sum
    rw [← hw, rest_all]
    simp [pk])
  unfold runO
  omega
theorem sm_out {q : MOp → Bool} (hq : Nl q) {f : MFun} (h : SzF f) (order : List Int) : sm q (outO f order).Blocks ≤ sm q f.Blocks := by
  have hZ : sm q ((plF f).Blocks.map (reB3 f.Ret (runO f.Blocks order).to (runO f.Blocks order).wh)) = sm q f.Blocks := (sm_map (fun b => countP_map' (fun o => (hq.r (runO f.Blocks order).to _).trans (hq.p o)) b.Ops) _).trans (sm_pl hq f)
  have hlen : ((plF f).Blocks.map (reB3 f.Ret (runO f.Blocks order).to (runO f.Blocks order).wh)).length = f.Blocks.length := by simp [len_pl]
  unfold outO
  simp only
  generalize (plF f).Blocks.map (reB3 f.Ret (runO f.Blocks order).to (runO f.Blocks order).wh) = Z at *
  rw [← hZ]
  have hp := pk_run h (Z.map fun b => b.Ops.countP q) (by simpa using hlen) order
  have e : sm q (pick Z (runO f.Blocks order).l) = pk (Z.map fun b => b.Ops.countP q) (runO f.Blocks order).l := by
    unfold sm pick pk
    rw [List.map_map]
    congr 1
    refine List.map_congr_left fun x _ => ?_
    simp only [Function.comp_apply, List.getElem?_map]
    cases Z[x.toNat]? with
    | none => rfl
    | some b => rfl
  rw [e]
  exact hp
/-- Nothing of a function is more. -/
structure Le (f g : MFun) : Prop where
  sz : SzF g
  sm : ∀ q, Nl q → Go.Proofs.YtpeafglbhjjbhaaDoor.sm q g.Blocks ≤ Go.Proofs.YtpeafglbhjjbhaaDoor.sm q f.Blocks
theorem tfun_ok {f : MFun} (h : SzF f) (ht : sm (fun _ => true) f.Blocks ≤ 400) : Ok (p_tidy_fun f) (Le f) := by
  unfold p_tidy_fun
  rw [ownP_eq h]
  simp only [Option.bind_some]
  refine Ok.bind (Ok.loop (fun s => Le f ⟨s.1, s.2⟩) (fun s => s.2.length) ⟨plF_sz h, fun q hq => Nat.le_of_eq (sm_pl hq f)⟩ (by have := h.b; have := len_pl f; simp only; omega) (Post := Le f) fun s hs => ?_) fun r hr => .ok hr
  have hsz := hs.sz
  have hn := hsz.b
  simp only at hn
  have hst : sm (fun _ => true) s.2 ≤ 400 := Nat.le_trans (hs.sm _ nl_all) ht
  refine Ok.bind (ahead_ok hsz) fun ah hah => ?_
  refine Ok.bind (P := fun r => r.on (fun _ => True) (fun t => Le f ⟨t.1, t.2⟩ ∧ t.2.length < s.2.length)) (Ok.loop (fun i => 0 ≤ i ∧ i ≤ (s.2.length : Int)) (fun i => s.2.length - i.toNat) ⟨by simp, by simp⟩ (by simp; omega) fun i hi => ?_) fun r hr => ?_
  · obtain ⟨a, rfl⟩ : ∃ a : Nat, i = (a : Int) := ⟨i.toNat, by omega⟩
    refine Ok.dec (fun hlt => ?_) (fun _ => .ok trivial)
    have ha : a < s.2.length := by omega
    refine Ok.bind (tidyNext_ok hsz (a := a) ha hah.1 hah.2) fun r hr => Ok.bif (fun e => ?_) (fun _ => .ok ?_)
    · obtain ⟨b, hb, ha', hb', hab, hL⟩ := hr e
      rw [hb]
      refine Ok.bind (merged_ok hsz hst ha' hb' hab hL) fun g hg => .ok ?_
      refine ⟨⟨hg.sz, fun q hq => by rw [hg.sm q hq]; exact hs.sm q hq⟩, ?_⟩
      have := hg.len
      simp only at this ⊢
      omega
    · rw [wrap_inc (by omega)]
      refine ⟨⟨by omega, by omega⟩, by simp only; omega⟩
  · cases r with
    | go _ =>
      refine Ok.bind (order_ok hsz) fun o ho => ?_
      have hB := blocksP_eq (f := ⟨s.1, s.2⟩) o hsz (by omega)
      simp only at hB
      refine Ok.eq hB (Ok.ck rfl (.ok ?_))
      exact ⟨outO_sz o hsz, fun q hq => Nat.le_trans (sm_out hq hsz o) (hs.sm q hq)⟩
    | out t => exact .ok hr
theorem tidyFunc_ok {f : MFun} (h : SzF f) (ht : sm (fun _ => true) f.Blocks ≤ 400) : Ok (p_tidy_Func f) (Le f) := by
  unfold p_tidy_Func
  exact Ok.bind (tfun_ok h ht) fun g hg => .ok hg
end Go.Proofs.YtpeafglbhjjbhaaDoor


/- The values that steps and ends are of; program and document come to the same. -/
namespace Go.Proofs.YtpeafglbhjjbhaaDoor
open Go Go.RowKit

/-- The places that a step's values stand at. -/
def pls (K : Int) : Nat → List Nat
  | 0 => (bif hasB K 65 then [0] else []) ++ ((bif hasB K 66 then [1] else []) ++ (bif hasB K 67 then [2] else []))
  | 1 => (bif hasB K 66 then [1] else []) ++ (bif hasB K 67 then [2] else [])
  | 2 => (bif hasB K 67 then [2] else [])
  | _ => []
def rg (n i : Nat) : List Nat := (List.range' i (n - i)).map (· + 3)
theorem rg_cons {n i : Nat} (h : i < n) : rg n i = (i + 3) :: rg n (i + 1) := by
  unfold rg
  obtain ⟨k, hk⟩ : ∃ k, n - i = k + 1 := ⟨n - i - 1, by omega⟩
  rw [hk, List.range'_succ, show n - (i + 1) = k by omega]
  rfl
theorem rg_nil (n : Nat) : rg n n = [] := by simp [rg]
theorem operands_ok {σ ρ : Type} {K : Int} {n : Nat} (hn : n < 18446744073709551616) {body : σ → Nat → Option (Xt σ ρ)} (J : List Nat → σ → Prop) (hb : ∀ y r s, J (y :: r) s → Ok (body s y) (fun z => ∃ s', z = .go s' ∧ J r s')) {s0 : σ} (h0 : J (pls K 0 ++ rg n 0) s0) : Ok (p_kind_operands_1_i K n body s0) (fun z => ∃ s, z = .go s ∧ J [] s) := by
  unfold p_kind_operands_1_i
  rw [fieldsOf_eq]
  simp only [Option.bind_some]
  refine Ok.bind (P := fun x => ∃ s, x = Xt.go s ∧ J (rg n 0) s) (Ok.loop (fun t => t.1 ≤ 3 ∧ J (pls K t.1 ++ rg n 0) t.2) (fun t => 3 - t.1) ⟨by simp, h0⟩ (by simp) fun t ht => ?_) fun x hx => ?_
  · obtain ⟨i, s⟩ := t
    obtain ⟨e1, e2⟩ := ht
    refine Ok.dec (fun hlt => ?_) (fun hge => ?_)
    · -- one of three
      have step : ∀ (c : Int) (hc : c ∈ ([65, 66, 67] : List Int)) (k : Nat) (r : List Nat) (s : σ), J ((bif hasB K c then [k] else []) ++ r) s → Ok ((p_strings_IndexByte (fb K) c).bind fun y => bif decide ((0 : Int) ≤ y) then ((body s k).bind fun z => (z.on (fun s => some (Xt.go s)) (fun o => some (Xt.out (Xt.out o))))) else some (Xt.go s) : Option (Xt σ (Xt σ ρ))) (fun x => ∃ s', x = .go s' ∧ J r s') := fun c hc k r s hJ => by
        obtain ⟨z, hz, hh⟩ := idx_eq K c hc
        rw [hz]
        simp only [Option.bind_some]
        rw [hh]
        cases hB : hasB K c with
        | false =>
          rw [hB] at hJ
          exact .ok ⟨s, rfl, hJ⟩
        | true =>
          rw [hB] at hJ
          refine Ok.bind (hb k r s hJ) fun z hz => ?_
          obtain ⟨s', rfl, h⟩ := hz
          exact .ok ⟨s', rfl, h⟩
      have fin : ∀ (o : Option (Xt σ (Xt σ ρ))) (r : List Nat), r = pls K (i + 1) ++ rg n 0 → Ok o (fun x => ∃ s', x = .go s' ∧ J r s') → Ok (o.bind fun s3012 => s3012.on (fun (s3026 : σ) => some (Xt.go ((i + 1), s3026))) (fun o3028 => some (Xt.out (Xt.out o3028))) : Option (Xt (Nat × σ) (Xt σ (Xt σ ρ)))) (Rnd (fun t : Nat × σ => t.1 ≤ 3 ∧ J (pls K t.1 ++ rg n 0) t.2) (fun t => 3 - t.1) (3 - i) (fun x => ∃ s, x = Xt.go s ∧ J (rg n 0) s)) := fun o r hr ho => by
        refine Ok.bind ho fun x hx => ?_
        obtain ⟨s', rfl, h⟩ := hx
        subst hr
        exact .ok ⟨⟨hlt, h⟩, by simp only at hlt ⊢; omega⟩
      have hi : i = 0 ∨ i = 1 ∨ i = 2 := by simp only at hlt; omega
      rcases hi with rfl | rfl | rfl
      · refine fin _ _ rfl (step 65 (by decide) 0 _ s ?_)
        simp only [pls, List.append_assoc] at e2 ⊢
        exact e2
      · refine fin _ _ rfl (step 66 (by decide) 1 _ s ?_)
        simp only [pls, List.append_assoc] at e2 ⊢
        exact e2
      · refine fin _ _ rfl (step 67 (by decide) 2 _ s ?_)
        simp only [pls, List.nil_append] at e2 ⊢
        exact e2
    · obtain rfl : i = 3 := by simp only at hge e1; omega
      exact .ok ⟨s, rfl, e2⟩
  · obtain ⟨s, rfl, h⟩ := hx
    refine Ok.bind (P := fun z => ∃ s, z = Xt.go s ∧ J [] s) (Ok.loop (fun t => t.1 ≤ n ∧ J (rg n t.1) t.2) (fun t => n - t.1) ⟨by simp, h⟩ (by simpa using hn) fun t ht => ?_) fun z hz => .ok hz
    obtain ⟨i, s⟩ := t
    obtain ⟨e1, e2⟩ := ht
    refine Ok.dec (fun hlt => Ok.ck hlt ?_) (fun hge => ?_)
    · have hlt' : i < n := hlt
      simp only at e2
      rw [rg_cons hlt'] at e2
      refine Ok.bind (hb _ _ _ e2) fun z hz => ?_
      obtain ⟨s', rfl, h⟩ := hz
      exact .ok ⟨⟨hlt', h⟩, by simp only; omega⟩
    · obtain rfl : i = n := by simp only at hge e1; omega
      simp only at e2
      rw [rg_nil] at e2
      exact .ok ⟨s, rfl, e2⟩
/-- The values that a step is of. -/
def usO (o : MOp) : List Int := (bif hasB o.K 65 then [o.A] else []) ++ (bif hasB o.K 66 then [o.B] else []) ++ (bif hasB o.K 67 then [o.C] else []) ++ (bif hasB o.K 76 then o.L else [])
theorem usO_len {o : MOp} (h : o.L.length ≤ 400) : (usO o).length ≤ 403 := by
  unfold usO
  cases hasB o.K 65 <;> cases hasB o.K 66 <;> cases hasB o.K 67 <;> cases hasB o.K 76 <;> simp <;> omega
theorem vals_rg (l : List Int) : (List.range' 0 l.length).map (fun i => (l[i]?).getD 0) = l := by
  refine List.ext_getElem (by simp) fun i h1 h2 => ?_
  simp only [List.getElem_map, List.getElem_range', Nat.zero_add, Nat.one_mul]
  rw [List.getElem?_eq_getElem h2]
  rfl
def vaP (o : MOp) (y : Nat) : Int := placeC y o.A o.B o.C (fun i => (o.L[i]?).getD 0)
theorem vaP_all (o : MOp) : (pls o.K 0 ++ rg (plO o).L.length 0).map (vaP (plO o)) = usO o := by
  have h1 : (rg (plO o).L.length 0).map (vaP (plO o)) = (plO o).L := by
    unfold rg
    rw [List.map_map]
    exact vals_rg (plO o).L
  rw [List.map_append, h1]
  unfold usO pls
  cases h65 : hasB o.K 65 <;> cases h66 : hasB o.K 66 <;> cases h67 : hasB o.K 67 <;> cases h76 : hasB o.K 76 <;> simp [vaP, placeC, plO, h65, h66, h67, h76]
theorem kindUses_eq {o : MOp} (h : o.L.length ≤ 400) : p_kind_Uses o = some (usO o) := by
  have hL := plO_L h
  have hlen := usO_len h
  have hv := vaP_all o
  unfold p_kind_Uses p_kind_uses
  rw [plainP_eq h]
  simp only [Option.bind_some]
  have key : Ok (p_kind_operands_1_i (plO o).K (plO o).L.length (fun (s3007 : (List Int)) (y6 : Nat) =>
((placeC y6
((ck ((s3007.length + 1) * 8 ≤ 140737488355328)
(some (Xt.go (s3007 ++ [(plO o).A])))))
((ck ((s3007.length + 1) * 8 ≤ 140737488355328)
(some (Xt.go (s3007 ++ [(plO o).B])))))
((ck ((s3007.length + 1) * 8 ≤ 140737488355328)
(some (Xt.go (s3007 ++ [(plO o).C])))))
(fun i_ => (ck (i_ < (plO o).L.length)
((((plO o).L[i_]?).bind fun x3013 =>
(ck ((s3007.length + 1) * 8 ≤ 140737488355328)
(some (Xt.go (s3007 ++ [x3013]))))))))) : Option (Xt ((List Int)) Unit))) []) (fun z => ∃ s, z = .go s ∧ s = usO o) := by
    refine Ok.mono (operands_ok (J := fun r s => s ++ r.map (vaP (plO o)) = usO o ∧ ∀ y ∈ r, y < (plO o).L.length + 3) (by omega) (fun y r s hs => ?_) ⟨by rw [List.nil_append]; exact hv, fun y hy => ?_⟩) fun z hz => ?_
    · obtain ⟨h1, h2⟩ := hs
      have hl : s.length + 1 ≤ 403 := by
        have := congrArg List.length h1
        simp at this
        omega
      have hy := h2 y (List.mem_cons_self ..)
      have h3 : ∀ v, vaP (plO o) y = v → (s ++ [v]) ++ r.map (vaP (plO o)) = usO o ∧ ∀ y ∈ r, y < (plO o).L.length + 3 := fun v hv' => by
        refine ⟨?_, fun y hy => h2 y (List.mem_cons_of_mem _ hy)⟩
        rw [← h1, ← hv']
        simp
      rcases plC4 y with rfl | rfl | rfl | ⟨i, rfl⟩
      · exact Ok.ck (by omega) (.ok ⟨_, rfl, h3 _ rfl⟩)
      · exact Ok.ck (by omega) (.ok ⟨_, rfl, h3 _ rfl⟩)
      · exact Ok.ck (by omega) (.ok ⟨_, rfl, h3 _ rfl⟩)
      · have hi : i < (plO o).L.length := by omega
        refine Ok.ck hi (Ok.bind (Ok.get (Q := fun x => (plO o).L[i]? = some x) hi fun x hx _ => hx) fun x hx => Ok.ck (by omega) (.ok ⟨_, rfl, h3 _ ?_⟩))
        show ((plO o).L[i]?).getD 0 = x
        rw [hx]
        rfl
    · rcases List.mem_append.1 hy with hy | hy
      · have : y ≤ 2 := by
          unfold pls at hy
          revert hy
          cases hasB (plO o).K 65 <;> cases hasB (plO o).K 66 <;> cases hasB (plO o).K 67 <;> simp <;> omega
        omega
      · unfold rg at hy
        obtain ⟨i, hi, rfl⟩ := List.mem_map.1 hy
        have := (List.mem_range'_1.1 hi).2
        omega
    · obtain ⟨s, rfl, h1, _⟩ := hz
      exact ⟨s, rfl, by simpa using h1⟩
  obtain ⟨z, hz, s, rfl, rfl⟩ := key
  rw [hz]
  rfl
theorem refUses_eq {o : MOp} (h : o.L.length ≤ 400) : p_R04_Uses o = some (usO o) := by
  unfold p_R04_Uses usO
  simp only [has_eq _ 65 (by decide), has_eq _ 66 (by decide), has_eq _ 67 (by decide), has_eq _ 76 (by decide), Option.bind_some]
  cases hasB o.K 65 <;> cases hasB o.K 66 <;> cases hasB o.K 67 <;> cases hasB o.K 76 <;> simp [ck] <;> omega
end Go.Proofs.YtpeafglbhjjbhaaDoor


/- Where values are used, how often; which steps can be seen. -/
namespace Go.Proofs.YtpeafglbhjjbhaaDoor
open Go Go.RowKit

def tgs (e : MEnd) : List MTarget := (bif decide (e.K = 0) || decide (e.K = 1) then [⟨e.To, e.L⟩] else []) ++ (bif decide (e.K = 1) then [⟨e.Else, e.M⟩] else [])
def usA (ret : Int) (e : MEnd) : List Int := bif decide (e.K = 1) || (decide (e.K = 3) || (decide (e.K = 2) && !(decide (ret = (-1))))) then [e.A] else []
/-- The values that an end is of. -/
def usE (ret : Int) (e : MEnd) : List Int := usA ret e ++ (tgs e).flatMap (·.L)
theorem targetsP_eq {e : MEnd} (hL : e.L.length ≤ 400) (hM : e.M.length ≤ 400) : p_cfg_Targets e = some (tgs e) := by
  unfold p_cfg_Targets p_cfg_targets p_cfg_targets_1_i tgs
  simp only [Option.bind_some, clone_eq hL, clone_eq hM]
  cases decide (e.K = 0) <;> cases decide (e.K = 1) <;> rfl
theorem targetsR_eq {e : MEnd} : p_R07_Targets e = some (tgs e) := by
  unfold p_R07_Targets tgs
  cases decide (e.K = 0) <;> cases decide (e.K = 1) <;> rfl
theorem tgs_len (e : MEnd) : (tgs e).length ≤ 2 := by
  unfold tgs
  cases decide (e.K = 0) <;> cases decide (e.K = 1) <;> simp
theorem tgs_L {e : MEnd} (hL : e.L.length ≤ 400) (hM : e.M.length ≤ 400) : ∀ t ∈ tgs e, t.L.length ≤ 400 := by
  unfold tgs
  cases decide (e.K = 0) <;> cases decide (e.K = 1) <;> simp [hL, hM]
theorem fml_len {α β : Type} {g : α → List β} {c : Nat} : ∀ {l : List α}, (∀ x ∈ l, (g x).length ≤ c) → (l.flatMap g).length ≤ l.length * c
  | [], _ => by simp
  | a :: l, h => by
    have h1 := h a (List.mem_cons_self ..)
    have h2 := fml_len (l := l) (g := g) (c := c) (fun x hx => h x (List.mem_cons_of_mem _ hx))
    simp only [List.flatMap_cons, List.length_append, List.length_cons, Nat.add_mul, Nat.one_mul]
    omega
theorem drop_flat {α β : Type} {g : α → List β} {l : List α} {i : Nat} (h : i < l.length) : (l.drop i).flatMap g = g l[i] ++ (l.drop (i + 1)).flatMap g := by
  rw [List.drop_eq_getElem_cons h]
  rfl
theorem usE_len {ret : Int} {e : MEnd} (hL : e.L.length ≤ 400) (hM : e.M.length ≤ 400) : (usE ret e).length ≤ 801 := by
  unfold usE
  have h1 := fml_len (g := fun t : MTarget => t.L) (c := 400) (tgs_L hL hM)
  have h2 := tgs_len e
  have h3 := Nat.mul_le_mul_right 400 h2
  have h4 : (usA ret e).length ≤ 1 := by
    unfold usA
    exact bif_len (by simp) (by simp)
  simp only [List.length_append]
  omega
theorem ends_ok {f : MFun} {e : MEnd} (hL : e.L.length ≤ 400) (hM : e.M.length ≤ 400) : Ok (p_uses_ends f e) (fun l => l = usE f.Ret e) := by
  have hlen := usE_len (ret := f.Ret) hL hM
  have ht := tgs_len e
  unfold p_uses_ends
  refine Ok.bind (P := fun l => l = usA f.Ret e) ?_ fun l hl => ?_
  · unfold usA
    cases decide (e.K = 1) <;> cases decide (e.K = 2) <;> cases decide (e.K = 3) <;> cases decide (f.Ret = -1) <;> exact .ok rfl
  · subst hl
    rw [targetsP_eq hL hM]
    simp only [Option.bind_some]
    refine Ok.bind (P := fun l => l = usE f.Ret e) (Ok.loop (fun t => t.2.1 = tgs e ∧ 0 ≤ t.2.2 ∧ t.2.2 ≤ ((tgs e).length : Int) ∧ t.1 ++ ((tgs e).drop t.2.2.toNat).flatMap (·.L) = usE f.Ret e) (fun t => (tgs e).length - t.2.2.toNat) ⟨rfl, by simp, by simp, rfl⟩ (by simp; omega) fun t hs => ?_) fun l hl => .ok hl
    obtain ⟨e1, e2, e3, e4⟩ := hs
    refine Ok.dec (fun hlt => ?_) (fun hge => .ok ?_)
    · have hi : t.2.2.toNat < (tgs e).length := by omega
      rw [drop_flat hi] at e4
      rw [e1]
      refine Ok.bind (Ok.at (Q := fun x => x = (tgs e)[t.2.2.toNat]) e2 (by omega) fun x hx _ => by
        rw [List.getElem?_eq_getElem hi] at hx
        exact (Option.some.inj hx).symm) fun x hx => ?_
      subst hx
      have hl2 : (t.1 ++ (tgs e)[t.2.2.toNat].L).length ≤ 801 := by
        have := congrArg List.length e4
        simp only [List.length_append] at this ⊢
        omega
      refine Ok.ck (by omega) (.ok ?_)
      rw [wrap_add1 e2 (by omega)]
      refine ⟨⟨List.set_getElem_self hi, by simp only; omega, by simp only; omega, ?_⟩, by simp only; omega⟩
      rw [show (t.2.2 + 1).toNat = t.2.2.toNat + 1 by omega, List.append_assoc]
      exact e4
    · have : t.2.2.toNat = (tgs e).length := by omega
      rw [this, List.drop_length] at e4
      show t.1 = _
      simpa using e4
theorem endsR_ok {f : MFun} {i : Nat} (hi : i < f.Blocks.length) {k : Nat} (hk : k ≤ f.Blocks[i].Ops.length) (hb : SzB f.Blocks[i]) : Ok (p_R13_At f (i : Int) (k : Int)) (fun l => (∀ h : k < f.Blocks[i].Ops.length, l = usO f.Blocks[i].Ops[k]) ∧ (k = f.Blocks[i].Ops.length → l = usE f.Ret f.Blocks[i].End)) := by
  unfold p_R13_At
  rw [atI_nat, List.getElem?_eq_getElem hi]
  simp only [Option.bind_some]
  refine Ok.dec (fun hlt => ?_) (fun hge => ?_)
  · have hk' : k < f.Blocks[i].Ops.length := by omega
    rw [atI_nat, List.getElem?_eq_getElem hk']
    simp only [Option.bind_some, refUses_eq (hb.os _ (List.getElem_mem hk'))]
    exact .ok ⟨fun _ => rfl, fun e => by omega⟩
  · have hk' : k = f.Blocks[i].Ops.length := by omega
    have hL := hb.l
    have hM := hb.m
    have hne : ∀ l, l = usE f.Ret f.Blocks[i].End → (∀ h : k < f.Blocks[i].Ops.length, l = usO f.Blocks[i].Ops[k]) ∧ (k = f.Blocks[i].Ops.length → l = usE f.Ret f.Blocks[i].End) := fun l h => ⟨fun h => by omega, fun _ => h⟩
    refine Ok.mono (P := fun l => l = usE f.Ret f.Blocks[i].End) ?_ hne
    generalize f.Blocks[i].End = e at *
    have hlen := usE_len (ret := f.Ret) hL hM
    have ht := tgs_len e
    refine Ok.bind (P := fun l => l = usA f.Ret e) ?_ fun l hl => ?_
    · unfold usA
      cases decide (e.K = 1) <;> cases decide (e.K = 2) <;> cases decide (e.K = 3) <;> cases decide (f.Ret = -1) <;> first | exact .ok rfl | exact Ok.ck (by decide) (.ok rfl)
    · subst hl
      rw [targetsR_eq]
      simp only [Option.bind_some]
      refine Ok.bind (P := fun l => l = usE f.Ret e) (Ok.loop (fun t => t.2 ≤ (tgs e).length ∧ t.1 ++ ((tgs e).drop t.2).flatMap (·.L) = usE f.Ret e) (fun t => (tgs e).length - t.2) ⟨by simp, rfl⟩ (by simp; omega) fun t hs => ?_) fun l hl => .ok hl
      obtain ⟨e3, e4⟩ := hs
      refine Ok.dec (fun hi => ?_) (fun hge => .ok ?_)
      · rw [drop_flat hi] at e4
        refine Ok.bind (Ok.get (Q := fun x => x = (tgs e)[t.2]) hi fun x hx _ => by
          rw [List.getElem?_eq_getElem hi] at hx
          exact (Option.some.inj hx).symm) fun x hx => ?_
        subst hx
        have hl2 : (t.1 ++ (tgs e)[t.2].L).length ≤ 801 := by
          have := congrArg List.length e4
          simp only [List.length_append] at this ⊢
          omega
        refine Ok.ck (by omega) (.ok ⟨⟨hi, ?_⟩, by simp only; omega⟩)
        rw [List.append_assoc]
        exact e4
      · have : t.2 = (tgs e).length := by omega
        rw [this, List.drop_length] at e4
        show t.1 = _
        simpa using e4
/-- The values that a block, or a function, is of. -/
def usB (ret : Int) (b : MBlk) : List Int := b.Ops.flatMap usO ++ usE ret b.End
def usF (f : MFun) : List Int := f.Blocks.flatMap (usB f.Ret)
theorem usF_len {f : MFun} (h : SzF f) : (usF f).length ≤ 70000000 := by
  have h1 : ∀ b ∈ f.Blocks, (usB f.Ret b).length ≤ 162001 := fun b hb => by
    have hB := h.bs b hb
    have q1 := fml_len (g := usO) (c := 403) (fun o ho => usO_len (hB.os o ho))
    have q2 := usE_len (ret := f.Ret) hB.l hB.m
    have q3 := Nat.mul_le_mul_right 403 hB.o
    unfold usB
    simp only [List.length_append]
    omega
  have h2 := fml_len h1
  have h3 := Nat.mul_le_mul_right 162001 h.b
  unfold usF
  omega
/-- All uses, one by one. -/
theorem vals_ok {σ R : Type} {body : σ → MSite × Int → Option (Xt σ R)} (J : List Int → σ → Prop) (hb : ∀ s site v r, J (v :: r) s → Ok (body s (site, v)) (fun z => ∃ s', z = .go s' ∧ J r s')) {S : Type} (g : R → S) (site : MSite) (y r : List Int) (hy : y.length < 18446744073709551616) {s0 : σ} (h0 : J (y ++ r) s0) : Ok (loop (fun (t : Nat × σ) =>
(bif decide (t.1 < y.length) then
((y[t.1]?).bind fun x =>
((body t.2 (site, x)).bind fun z =>
(z.on (fun s =>
some (Xt.go ((t.1 + 1), s)))
(fun o =>
some (Xt.out (Xt.out (g o)))))))
else
some (Xt.out (Xt.go t.2)))) Fu (0, s0) : Option (Xt σ S)) (fun z => ∃ s, z = .go s ∧ J r s) := by
  refine Ok.loop (fun t => t.1 ≤ y.length ∧ J (y.drop t.1 ++ r) t.2) (fun t => y.length - t.1) ⟨by simp, h0⟩ (by simpa using hy) fun t ht => ?_
  obtain ⟨i, s⟩ := t
  obtain ⟨e1, e2⟩ := ht
  refine Ok.dec (fun hlt => ?_) (fun hge => ?_)
  · have hi : i < y.length := hlt
    simp only at e2
    rw [List.drop_eq_getElem_cons hi] at e2
    refine Ok.bind (Ok.get (Q := fun x => x = y[i]) hi fun x hx _ => by
      rw [List.getElem?_eq_getElem hi] at hx
      exact (Option.some.inj hx).symm) fun x hx => ?_
    subst hx
    refine Ok.bind (hb s site _ _ e2) fun z hz => ?_
    obtain ⟨s', rfl, h⟩ := hz
    exact .ok ⟨⟨hi, h⟩, by simp only; omega⟩
  · obtain rfl : i = y.length := by simp only at hge e1; omega
    simp only at e2
    rw [List.drop_length] at e2
    exact .ok ⟨s, rfl, e2⟩
theorem all_ok {σ ρ : Type} {f : MFun} (h : SzF f) {body : σ → MSite × Int → Option (Xt σ ρ)} (J : List Int → σ → Prop) (hb : ∀ s site v r, J (v :: r) s → Ok (body s (site, v)) (fun z => ∃ s', z = .go s' ∧ J r s')) {s0 : σ} (h0 : J (usF f) s0) : Ok (p_uses_all_1_i f body s0) (fun z => ∃ s, z = .go s ∧ J [] s) := by
  have hn := h.b
  unfold p_uses_all_1_i
  refine Ok.bind (P := fun z => ∃ s, z = Xt.go s ∧ J [] s) (Ok.loop (fun t => t.1 ≤ f.Blocks.length ∧ J ((f.Blocks.drop t.1).flatMap (usB f.Ret)) t.2) (fun t => f.Blocks.length - t.1) ⟨by simp, h0⟩ (by simp; omega) fun t ht => ?_) fun z hz => .ok hz
  obtain ⟨i, s⟩ := t
  obtain ⟨e1, e2⟩ := ht
  refine Ok.dec (fun hlt => ?_) (fun hge => ?_)
  · have hi : i < f.Blocks.length := hlt
    simp only at e2
    rw [drop_flat hi] at e2
    have hB := h.bs _ (List.getElem_mem hi)
    have ho := hB.o
    refine Ok.bind (P := fun x => ∃ s', x = Xt.go s' ∧ J ((f.Blocks.drop (i + 1)).flatMap (usB f.Ret)) s') ?_ fun x hx => ?_
    · simp only [List.getElem?_eq_getElem hi, Option.bind_some]
      generalize f.Blocks[i] = b at *
      unfold usB at e2
      rw [List.append_assoc] at e2
      refine Ok.bind (P := fun x => ∃ s', x = Xt.go s' ∧ J (usE f.Ret b.End ++ (f.Blocks.drop (i + 1)).flatMap (usB f.Ret)) s') (Ok.loop (fun t => t.1 ≤ b.Ops.length ∧ J ((b.Ops.drop t.1).flatMap usO ++ (usE f.Ret b.End ++ (f.Blocks.drop (i + 1)).flatMap (usB f.Ret))) t.2) (fun t => b.Ops.length - t.1) ⟨by simp, e2⟩ (by simp; omega) fun t ht => ?_) fun x hx => ?_
      · obtain ⟨k, s1⟩ := t
        obtain ⟨g1, g2⟩ := ht
        refine Ok.dec (fun hlt2 => ?_) (fun hge2 => ?_)
        · have hk : k < b.Ops.length := hlt2
          simp only at g2
          rw [drop_flat hk, List.append_assoc] at g2
          have hoL := hB.os _ (List.getElem_mem hk)
          have hul := usO_len hoL
          refine Ok.bind (P := fun x => ∃ s', x = Xt.go s' ∧ J ((b.Ops.drop (k + 1)).flatMap usO ++ (usE f.Ret b.End ++ (f.Blocks.drop (i + 1)).flatMap (usB f.Ret))) s') ?_ fun x hx => ?_
          · simp only [List.getElem?_eq_getElem hk, Option.bind_some, kindUses_eq hoL]
            exact vals_ok J hb (fun o => Xt.out o) ⟨0, ((i : Nat) : Int), ((k : Nat) : Int)⟩ (usO b.Ops[k]) _ (by omega) g2
          · obtain ⟨s', rfl, hJ⟩ := hx
            exact .ok ⟨⟨hk, hJ⟩, by simp only; omega⟩
        · obtain rfl : k = b.Ops.length := by simp only at hge2 g1; omega
          simp only at g2
          rw [List.drop_length] at g2
          exact .ok ⟨s1, rfl, g2⟩
      · obtain ⟨s', rfl, hJ⟩ := hx
        refine Ok.bind (ends_ok hB.l hB.m) fun y hy => ?_
        subst hy
        have hul := usE_len (ret := f.Ret) hB.l hB.m
        exact vals_ok J hb (fun o => Xt.out o) ⟨0, ((i : Nat) : Int), ((b.Ops.length : Nat) : Int)⟩ (usE f.Ret b.End) _ (by omega) hJ
    · obtain ⟨s', rfl, hJ⟩ := hx
      exact .ok ⟨⟨hi, hJ⟩, by simp only; omega⟩
  · obtain rfl : i = f.Blocks.length := by simp only at hge e1; omega
    simp only at e2
    rw [List.drop_length] at e2
    exact .ok ⟨s, rfl, e2⟩
end Go.Proofs.YtpeafglbhjjbhaaDoor


/- How often values are used: program and document come to the same. -/
namespace Go.Proofs.YtpeafglbhjjbhaaDoor
open Go Go.RowKit

/-- How often a number is in a list. -/
def oft (v : Int) (l : List Int) : Nat := l.countP fun x => decide (x = v)
theorem oft_le (v : Int) (l : List Int) : oft v l ≤ l.length := List.countP_le_length
theorem oft_cons_self (v : Int) (l : List Int) : oft v (v :: l) = oft v l + 1 := by simp [oft]
theorem oft_cons_ne {v x : Int} (h : x ≠ v) (l : List Int) : oft v (x :: l) = oft v l := by simp [oft, h]
theorem oft_app (v : Int) (l m : List Int) : oft v (l ++ m) = oft v l + oft v m := List.countP_append
theorem counts_ok {f : MFun} (h : SzF f) : Ok (p_uses_Counts f) (fun l => l.length = offs f.Blocks f.Blocks.length ∧ ∀ v : Nat, v < offs f.Blocks f.Blocks.length → l[v]? = some ((oft (v : Int) (usF f) : Nat) : Int)) := by
  have h1 := offs_lt h (Nat.le_refl _)
  have h2 := usF_len h
  unfold p_uses_Counts p_uses_all
  rw [values_eq h]
  simp only [Option.bind_some, natI_nat]
  generalize offs f.Blocks f.Blocks.length = V at *
  refine Ok.ck (by omega) (Ok.bind (P := fun (l : List Int) => l.length = V ∧ ∀ v : Nat, v < V → l[v]? = some ((oft (v : Int) (usF f) : Nat) : Int)) (Ok.bind (all_ok h (J := fun r (s : List Int) => s.length = V ∧ ∀ v : Nat, v < V → ∃ c : Nat, s[v]? = some (c : Int) ∧ c + oft (v : Int) r = oft (v : Int) (usF f)) ?_ ?_) fun z hz => ?_) fun l hl => .ok hl)
  · intro s site v r hJ
    obtain ⟨e1, e2⟩ := hJ
    refine Ok.bind (P := fun c => c = decide (0 ≤ v ∧ v < ((s.length : Nat) : Int))) ?_ fun c hc => ?_
    · by_cases h0 : (0 : Int) ≤ v
      · simp only [h0, decide_true, cond_true, true_and]; exact .ok rfl
      · simp only [h0, decide_false, cond_false, false_and]; exact .ok rfl
    · subst hc
      refine Ok.dec (fun hin => ?_) (fun hout => .ok ⟨s, rfl, e1, fun w hw => ?_⟩)
      · obtain ⟨c, hc1, hc2⟩ := e2 v.toNat (by omega)
        have hv : ((v.toNat : Nat) : Int) = v := by omega
        rw [hv, oft_cons_self] at hc2
        have h3 := oft_le v (usF f)
        refine Ok.bind (Ok.at (Q := fun x => x = (c : Int)) hin.1 hin.2 fun x hx _ => by
          rw [hc1] at hx
          exact (Option.some.inj hx).symm) fun x hx => ?_
        subst hx
        refine .ok ⟨_, rfl, by simpa using e1, fun w hw => ?_⟩
        rw [wrap_inc (by omega)]
        by_cases e : w = v.toNat
        · subst e
          refine ⟨c + 1, by rw [List.getElem?_set_self (by omega)], ?_⟩
          rw [hv]
          omega
        · obtain ⟨c', g1, g2⟩ := e2 w hw
          refine ⟨c', by rw [List.getElem?_set_ne (fun e' => e e'.symm)]; exact g1, ?_⟩
          rw [oft_cons_ne (by omega)] at g2
          exact g2
      · obtain ⟨c', g1, g2⟩ := e2 w hw
        rw [oft_cons_ne (by omega)] at g2
        exact ⟨c', g1, g2⟩
  · exact ⟨by simp, fun v hv => ⟨0, by simp [hv], by simp⟩⟩
  · obtain ⟨s, rfl, e1, e2⟩ := hz
    refine .ok ⟨e1, fun v hv => ?_⟩
    obtain ⟨c, g1, g2⟩ := e2 v hv
    rw [g1]
    simp [oft] at g2 ⊢
    omega
/-- What is left of a block's uses, from a step on; the end is the last one. -/
def remB (ret : Int) (b : MBlk) (k : Nat) : List Int := if k ≤ b.Ops.length then (b.Ops.drop k).flatMap usO ++ usE ret b.End else []
theorem remB_cons {ret : Int} {b : MBlk} {k : Nat} {l : List Int} (hk : k ≤ b.Ops.length) (h1 : ∀ h : k < b.Ops.length, l = usO b.Ops[k]) (h2 : k = b.Ops.length → l = usE ret b.End) : remB ret b k = l ++ remB ret b (k + 1) := by
  unfold remB
  rw [if_pos hk]
  by_cases e : k < b.Ops.length
  · rw [if_pos (by omega), drop_flat e, h1 e, List.append_assoc]
  · obtain rfl : k = b.Ops.length := by omega
    rw [if_neg (by omega), List.drop_length, h2 rfl]
    simp
theorem count_ok {f : MFun} (h : SzF f) (v : Int) : Ok (p_R13_Count f v) (fun n => n = ((oft v (usF f) : Nat) : Int)) := by
  have hn := h.b
  have hU := usF_len h
  have hO := oft_le v (usF f)
  unfold p_R13_Count
  refine Ok.bind (P := fun n => n = ((oft v (usF f) : Nat) : Int)) (Ok.loop (fun t => t.2 ≤ f.Blocks.length ∧ 0 ≤ t.1 ∧ t.1 + (oft v ((f.Blocks.drop t.2).flatMap (usB f.Ret)) : Nat) = ((oft v (usF f) : Nat) : Int)) (fun t => f.Blocks.length - t.2) ⟨by simp, by simp, by simp [usF]⟩ (by simp; omega) fun t ht => ?_) fun n hn => .ok hn
  obtain ⟨s, i⟩ := t
  obtain ⟨e1, e2, e3⟩ := ht
  refine Ok.dec (fun hlt => ?_) (fun hge => ?_)
  · have hi : i < f.Blocks.length := hlt
    simp only at e2 e3
    rw [drop_flat hi, oft_app] at e3
    have hB := h.bs _ (List.getElem_mem hi)
    have ho := hB.o
    refine Ok.bind (P := fun r => 0 ≤ r ∧ r + (oft v ((f.Blocks.drop (i + 1)).flatMap (usB f.Ret)) : Nat) = ((oft v (usF f) : Nat) : Int)) ?_ fun r hr => .ok ⟨⟨hi, hr.1, hr.2⟩, by simp only; omega⟩
    refine Ok.loop (fun t => 0 ≤ t.2 ∧ t.2 ≤ (f.Blocks[i].Ops.length : Int) + 1 ∧ 0 ≤ t.1 ∧ t.1 + (oft v (remB f.Ret f.Blocks[i] t.2.toNat) : Nat) + (oft v ((f.Blocks.drop (i + 1)).flatMap (usB f.Ret)) : Nat) = ((oft v (usF f) : Nat) : Int)) (fun t => f.Blocks[i].Ops.length + 1 - t.2.toNat) ⟨by simp, by simp only; omega, e2, ?_⟩ (by simp; omega) fun t ht => ?_
    · show s + (oft v (remB f.Ret f.Blocks[i] 0) : Nat) + _ = _
      have : remB f.Ret f.Blocks[i] 0 = usB f.Ret f.Blocks[i] := by simp [remB, usB]
      rw [this]
      omega
    · obtain ⟨s1, k⟩ := t
      obtain ⟨g1, g2, g3, g4⟩ := ht
      simp only at g1 g2 g3 g4
      simp only [List.getElem?_eq_getElem hi, Option.bind_some]
      refine Ok.dec (fun hle => ?_) (fun hgt => ?_)
      · obtain ⟨k', rfl⟩ : ∃ k' : Nat, k = (k' : Int) := ⟨k.toNat, by omega⟩
        have hk : k' ≤ f.Blocks[i].Ops.length := by omega
        rw [Int.toNat_natCast] at g4
        refine Ok.bind (P := fun r => 0 ≤ r ∧ r + (oft v (remB f.Ret f.Blocks[i] (k' + 1)) : Nat) + (oft v ((f.Blocks.drop (i + 1)).flatMap (usB f.Ret)) : Nat) = ((oft v (usF f) : Nat) : Int)) (Ok.bind (endsR_ok hi hk hB) fun y hy => ?_) fun r hr => .ok ?_
        · have hr := remB_cons (ret := f.Ret) hk hy.1 hy.2
          have hyl : y.length ≤ 801 := by
            by_cases e : k' < f.Blocks[i].Ops.length
            · rw [hy.1 e]
              have := usO_len (hB.os _ (List.getElem_mem e))
              omega
            · rw [hy.2 (by omega)]
              exact usE_len hB.l hB.m
          rw [hr, oft_app] at g4
          refine Ok.loop (fun t => t.2 ≤ y.length ∧ 0 ≤ t.1 ∧ t.1 + (oft v (y.drop t.2) : Nat) + (oft v (remB f.Ret f.Blocks[i] (k' + 1)) : Nat) + (oft v ((f.Blocks.drop (i + 1)).flatMap (usB f.Ret)) : Nat) = ((oft v (usF f) : Nat) : Int)) (fun t => y.length - t.2) ⟨by simp, g3, by rw [List.drop_zero]; omega⟩ (by simp; omega) fun t ht => ?_
          obtain ⟨s2, j⟩ := t
          obtain ⟨q1, q2, q3⟩ := ht
          simp only at q1 q2 q3
          refine Ok.dec (fun hlt2 => ?_) (fun hge2 => ?_)
          · have hj : j < y.length := hlt2
            rw [List.drop_eq_getElem_cons hj] at q3
            refine Ok.bind (P := fun r => 0 ≤ r ∧ r + (oft v (y.drop (j + 1)) : Nat) + (oft v (remB f.Ret f.Blocks[i] (k' + 1)) : Nat) + (oft v ((f.Blocks.drop (i + 1)).flatMap (usB f.Ret)) : Nat) = ((oft v (usF f) : Nat) : Int)) ?_ fun r hr => .ok ⟨⟨hj, hr.1, hr.2⟩, by simp only; omega⟩
            simp only [List.getElem?_eq_getElem hj, Option.bind_some]
            refine Ok.dec (fun e => .ok ?_) (fun e => .ok ?_)
            · rw [e, oft_cons_self] at q3
              rw [wrap_add1 q2 (by omega)]
              omega
            · rw [oft_cons_ne e] at q3
              exact ⟨q2, q3⟩
          · obtain rfl : j = y.length := by simp only at hge2; omega
            rw [List.drop_length] at q3
            refine .ok ?_
            show 0 ≤ s2 ∧ _
            simp [oft] at q3 ⊢
            omega
        · rw [wrap_inc (by omega)]
          refine ⟨⟨by simp only; omega, by simp only; omega, hr.1, ?_⟩, by simp only; omega⟩
          simp only [Int.toNat_natCast]
          exact hr.2
      · refine .ok ?_
        show 0 ≤ s1 ∧ _
        have : remB f.Ret f.Blocks[i] k.toNat = [] := by
          unfold remB
          rw [if_neg (by omega)]
        rw [this] at g4
        simp [oft] at g4 ⊢
        omega
  · obtain rfl : i = f.Blocks.length := by simp only at hge e1; omega
    simp only at e3
    rw [List.drop_length] at e3
    refine .ok ?_
    show s = _
    simp [oft] at e3 ⊢
    omega
/-- Whether a step can be seen. -/
def seenO (o : MOp) : Bool := (decide (o.K = 3) && (decide (o.N = 3) || decide (o.N = 4))) || (decide (o.K = 5) || decide (o.K = 7) || decide (o.K = 11) || decide (o.K = 13) || decide (o.K = 15) || decide (o.K = 16) || decide (o.K = 18) || decide (o.K = 21) || decide (o.K = 23) || decide (o.K = 24) || decide (o.K = 25))
theorem and53 : ∀ n ∈ ([(0, true), (1, false), (2, true), (3, false), (4, false), (5, false), (8, true), (9, false), (16, false), (17, false), (32, false)] : List (Int × Bool)), decide (bAnd .i64 n.1 53 = 0) = n.2 := by decide +kernel
theorem flags_ok (o : MOp) : Ok (p_kind_Flags o) (fun n => decide (bAnd .i64 n 53 = 0) = !seenO o) := by
  have a0 := and53 (0, true) (by decide)
  have a1 := and53 (1, false) (by decide)
  have a2 := and53 (2, true) (by decide)
  have a3 := and53 (3, false) (by decide)
  have a4 := and53 (4, false) (by decide)
  have a5 := and53 (5, false) (by decide)
  have a8 := and53 (8, true) (by decide)
  have a9 := and53 (9, false) (by decide)
  have a16 := and53 (16, false) (by decide)
  have a17 := and53 (17, false) (by decide)
  have a32 := and53 (32, false) (by decide)
  obtain ⟨K, A, B, C, N, S, L, St⟩ := o
  rcases in_range K with h | h | h | h | h | h | h | h | h | h | h | h | h | h | h | h | h | h | h | h | h | h | h | h | h | h | h
  · have hk : ∀ j : Int, 0 ≤ j → j < 26 → ¬ K = j := fun j h0 h1 => by omega
    refine ⟨0, ?_, ?_⟩
    · simp [p_kind_Flags, hk, Xt.on]
    · simp only [seenO, hk, decide_false, Bool.false_and, Bool.or_self, Bool.not_false]
      simp [a0, hk]
  all_goals subst h
  all_goals first
    | exact ⟨0, rfl, a0⟩
    | exact ⟨1, rfl, a1⟩
    | exact ⟨2, rfl, a2⟩
    | exact ⟨3, rfl, a3⟩
    | exact ⟨4, rfl, a4⟩
    | exact ⟨5, rfl, a5⟩
    | exact ⟨8, rfl, a8⟩
    | exact ⟨9, rfl, a9⟩
    | exact ⟨16, rfl, a16⟩
    | exact ⟨17, rfl, a17⟩
    | exact ⟨32, rfl, a32⟩
    | skip
  by_cases h3 : N = 3
  · subst h3
    exact ⟨1, rfl, a1⟩
  · by_cases h4 : N = 4
    · subst h4
      exact ⟨1, rfl, a1⟩
    · refine ⟨0, ?_, ?_⟩
      · simp [p_kind_Flags, h3, h4, Xt.on]
      · simp only [seenO, h3, h4, decide_false, Bool.or_self, Bool.and_false]
        exact a0
end Go.Proofs.YtpeafglbhjjbhaaDoor


/- What nobody needs: program and document come to the same. -/
namespace Go.Proofs.YtpeafglbhjjbhaaDoor
open Go Go.RowKit

theorem seen_eq (o : MOp) : p_R17_Seen o = some (seenO o) := by
  obtain ⟨K, A, B, C, N, S, L, St⟩ := o
  rcases in_range K with h | h | h | h | h | h | h | h | h | h | h | h | h | h | h | h | h | h | h | h | h | h | h | h | h | h | h
  · have hk : ∀ j : Int, 0 ≤ j → j < 26 → ¬ K = j := fun j h0 h1 => by omega
    have e : seenO ⟨K, A, B, C, N, S, L, St⟩ = false := by simp [seenO, hk]
    rw [e]
    have e2 : p_R04_Flags ⟨K, A, B, C, N, S, L, St⟩ = some 0 := by simp [p_R04_Flags, hk]
    unfold p_R17_Seen
    rw [e2]
    decide +kernel
  all_goals subst h
  all_goals first
    | rfl
    | skip
  by_cases h3 : N = 3
  · subst h3
    rfl
  · by_cases h4 : N = 4
    · subst h4
      rfl
    · have e : seenO ⟨3, A, B, C, N, S, L, St⟩ = false := by simp [seenO, h3, h4]
      rw [e]
      have e2 : p_R04_Flags ⟨3, A, B, C, N, S, L, St⟩ = some 0 := by simp [p_R04_Flags, h3, h4]
      unfold p_R17_Seen
      rw [e2]
      decide +kernel
def idlO (c : Int → Bool) : Int → List MOp → List Int
  | _, [] => []
  | a, o :: os => (bif !seenO o && c a then [a] else []) ++ idlO c (a + 1) os
def idlB (c : Int → Bool) : Int → List MBlk → List Int
  | _, [] => []
  | a, b :: bs => idlO c (a + b.Params.length) b.Ops ++ idlB c (a + nB b) bs
def unu (f : MFun) (v : Int) : Bool := decide (oft v (usF f) = 0)
/-- What nobody needs. -/
def idl (f : MFun) : List Int := idlB (unu f) 0 f.Blocks
theorem idlO_len (c : Int → Bool) : ∀ (os : List MOp) (a : Int), (idlO c a os).length ≤ os.length
  | [], _ => by simp [idlO]
  | o :: os, a => by
    have := idlO_len c os (a + 1)
    unfold idlO
    cases !seenO o && c a <;> simp <;> omega
theorem idlB_len (c : Int → Bool) : ∀ (bs : List MBlk) (a : Int), (idlB c a bs).length ≤ (bs.map nB).sum
  | [], _ => by simp [idlB]
  | b :: bs, a => by
    have h1 := idlO_len c b.Ops (a + b.Params.length)
    have h2 := idlB_len c bs (a + nB b)
    unfold idlB
    simp only [List.length_append, List.map_cons, List.sum_cons]
    have : nB b = b.Params.length + b.Ops.length := rfl
    omega
theorem idl_len {f : MFun} (h : SzF f) : (idl f).length ≤ 320000 := by
  have h1 := idlB_len (unu f) f.Blocks 0
  have h2 := offs_lt h (Nat.le_refl _)
  unfold offs at h2
  rw [List.take_length] at h2
  unfold idl
  omega
theorem idlO_mem {c : Int → Bool} {v : Int} : ∀ {os : List MOp} {a : Int}, v ∈ idlO c a os → ∃ k : Nat, k < os.length ∧ v = a + k
  | [], _, h => by simp [idlO] at h
  | o :: os, a, h => by
    unfold idlO at h
    rcases List.mem_append.1 h with h | h
    · cases hc : !seenO o && c a with
      | false => rw [hc] at h; simp at h
      | true => rw [hc] at h; exact ⟨0, by simp, by simpa using h⟩
    · obtain ⟨k, h1, h2⟩ := idlO_mem h
      exact ⟨k + 1, by simpa using h1, by omega⟩
theorem idlB_mem {c : Int → Bool} {v : Int} : ∀ {bs : List MBlk} {a : Int}, v ∈ idlB c a bs → ∃ (i : Nat) (hi : i < bs.length) (k : Nat), k < bs[i].Ops.length ∧ v = a + offs bs i + bs[i].Params.length + k
  | [], _, h => by simp [idlB] at h
  | b :: bs, a, h => by
    unfold idlB at h
    rcases List.mem_append.1 h with h | h
    · obtain ⟨k, h1, h2⟩ := idlO_mem h
      exact ⟨0, by simp, k, by simpa using h1, by simp [offs]; omega⟩
    · obtain ⟨i, hi, k, h1, h2⟩ := idlB_mem h
      refine ⟨i + 1, by simpa using hi, k, by simpa using h1, ?_⟩
      have : offs (b :: bs) (i + 1) = nB b + offs bs i := by simp [offs]
      rw [this]
      simp only [List.getElem_cons_succ]
      omega
theorem idlO_drop {c : Int → Bool} {a : Int} {os : List MOp} {k : Nat} (hk : k < os.length) : idlO c (a + k) (os.drop k) = (bif !seenO os[k] && c (a + k) then [a + k] else []) ++ idlO c (a + ((k + 1 : Nat) : Int)) (os.drop (k + 1)) := by
  rw [List.drop_eq_getElem_cons hk]
  show (bif !seenO os[k] && c (a + k) then [a + k] else []) ++ idlO c (a + k + 1) (os.drop (k + 1)) = _
  rw [show a + (k : Int) + 1 = a + ((k + 1 : Nat) : Int) by omega]
theorem idlB_drop {c : Int → Bool} {bs : List MBlk} {i : Nat} (hi : i < bs.length) : idlB c (offs bs i) (bs.drop i) = idlO c (offs bs i + bs[i].Params.length) bs[i].Ops ++ idlB c (offs bs (i + 1)) (bs.drop (i + 1)) := by
  rw [List.drop_eq_getElem_cons hi, offs_succ bs hi]
  show idlO c _ bs[i].Ops ++ idlB c _ (bs.drop (i + 1)) = _
  rw [show ((offs bs i : Nat) : Int) + (nB bs[i] : Nat) = ((offs bs i + nB bs[i] : Nat) : Int) by omega]
theorem idle_ok {f : MFun} (h : SzF f) : Ok (p_clean_idle f) (fun l => l = idl f) := by
  have hn := h.b
  have hV := offs_lt h (Nat.le_refl _)
  have hlen := idl_len h
  unfold p_clean_idle
  refine Ok.bind (counts_ok h) fun y hy => ?_
  obtain ⟨hy1, hy2⟩ := hy
  refine Ok.bind (P := fun l => l = idl f) (Ok.loop (fun t => t.2.2 ≤ f.Blocks.length ∧ t.2.1 = ((offs f.Blocks t.2.2 : Nat) : Int) ∧ t.1 ++ idlB (unu f) (offs f.Blocks t.2.2 : Nat) (f.Blocks.drop t.2.2) = idl f) (fun t => f.Blocks.length - t.2.2) ⟨by simp, by simp [offs], by simp [idl, offs]⟩ (by simp; omega) fun t ht => ?_) fun l hl => .ok hl
  obtain ⟨acc, v, i⟩ := t
  obtain ⟨e1, e2, e3⟩ := ht
  simp only at e2 e3
  subst e2
  refine Ok.dec (fun hlt => ?_) (fun hge => ?_)
  · have hi : i < f.Blocks.length := hlt
    rw [idlB_drop hi] at e3
    have hB := h.bs _ (List.getElem_mem hi)
    have hp := hB.p
    have ho := hB.o
    have h2 := offs_mono h hi
    have h3 := offs_end (bs := f.Blocks) (f.Blocks.length - (i + 1)) (i + 1) (by omega)
    have h4 := offs_succ f.Blocks hi
    have hnb : nB f.Blocks[i] = f.Blocks[i].Params.length + f.Blocks[i].Ops.length := rfl
    simp only [List.getElem?_eq_getElem hi, Option.bind_some]
    rw [wrap_small (i := ((offs f.Blocks i : Nat) : Int) + _) (by omega) (by omega)]
    generalize hb : f.Blocks[i] = b at *
    refine Ok.bind (P := fun r => r.2 = ((offs f.Blocks (i + 1) : Nat) : Int) ∧ r.1 ++ idlB (unu f) (offs f.Blocks (i + 1) : Nat) (f.Blocks.drop (i + 1)) = idl f) (Ok.loop (fun t => t.2.2 ≤ b.Ops.length ∧ t.2.1 = ((offs f.Blocks i : Nat) : Int) + (b.Params.length : Nat) + (t.2.2 : Nat) ∧ t.1 ++ (idlO (unu f) (((offs f.Blocks i : Nat) : Int) + (b.Params.length : Nat) + (t.2.2 : Nat)) (b.Ops.drop t.2.2) ++ idlB (unu f) (offs f.Blocks (i + 1) : Nat) (f.Blocks.drop (i + 1))) = idl f) (fun t => b.Ops.length - t.2.2) ⟨by simp, by simp, by simpa using e3⟩ (by simp; omega) fun t ht => ?_) fun r hr => .ok ⟨⟨hi, hr.1, hr.2⟩, by simp only; omega⟩
    obtain ⟨acc2, v2, k⟩ := t
    obtain ⟨g1, g2, g3⟩ := ht
    simp only at g1 g2 g3
    refine Ok.dec (fun hlt2 => ?_) (fun hge2 => ?_)
    · have hk : k < b.Ops.length := hlt2
      rw [idlO_drop hk, List.append_assoc] at g3
      have hvv : v2 = ((offs f.Blocks i + b.Params.length + k : Nat) : Int) := by omega
      have hat : offs f.Blocks i + b.Params.length + k < offs f.Blocks f.Blocks.length := by omega
      simp only [List.getElem?_eq_getElem hk, Option.bind_some]
      have hg3 := congrArg List.length g3
      refine Ok.bind (P := fun r => r ++ (idlO (unu f) (((offs f.Blocks i : Nat) : Int) + (b.Params.length : Nat) + ((k + 1 : Nat) : Int)) (b.Ops.drop (k + 1)) ++ idlB (unu f) (offs f.Blocks (i + 1) : Nat) (f.Blocks.drop (i + 1))) = idl f) (Ok.bind (P := fun c => c = (!seenO b.Ops[k] && unu f v2)) (Ok.bind (flags_ok b.Ops[k]) fun n hn => ?_) fun c hc => Ok.bif (fun hc1 => ?_) (fun hc1 => ?_)) fun r hr => .ok ?_
      · rw [hn]
        cases hs : seenO b.Ops[k] with
        | true => exact .ok rfl
        | false =>
          simp only [Bool.not_false, cond_true]
          have := hy2 _ hat
          rw [hvv, atI_nat, this]
          refine .ok ?_
          unfold unu
          simp only [Bool.true_and]
          exact decide_eq_decide.2 (by omega)
      · rw [← g2, ← hc, hc1] at g3
        simp only [cond_true] at g3
        have hl : acc2.length + 1 ≤ 320000 := by
          have := congrArg List.length g3
          simp at this
          omega
        refine Ok.ck (by omega) (.ok ?_)
        rw [List.append_assoc]
        exact g3
      · rw [← g2, ← hc, hc1] at g3
        simp only [cond_false, List.nil_append] at g3
        exact .ok g3
      · rw [wrap_add1 (by omega) (by omega)]
        refine ⟨⟨hk, ?_, hr⟩, by simp only; omega⟩
        simp only
        omega
    · obtain rfl : k = b.Ops.length := by simp only at hge2; omega
      rw [List.drop_length] at g3
      refine .ok ⟨?_, ?_⟩
      · show v2 = _
        omega
      · simpa [idlO] using g3
  · obtain rfl : i = f.Blocks.length := by simp only at hge e1; omega
    rw [List.drop_length] at e3
    refine .ok ?_
    show acc = _
    simpa [idlB] using e3
theorem refIdle_ok {f : MFun} (h : SzF f) : Ok (p_R17_Idle f) (fun l => l = idl f) := by
  have hn := h.b
  have hV := offs_lt h (Nat.le_refl _)
  have hlen := idl_len h
  unfold p_R17_Idle
  refine Ok.bind (P := fun l => l = idl f) (Ok.loop (fun t => t.2 ≤ f.Blocks.length ∧ t.1 ++ idlB (unu f) (offs f.Blocks t.2 : Nat) (f.Blocks.drop t.2) = idl f) (fun t => f.Blocks.length - t.2) ⟨by simp, by simp [idl, offs]⟩ (by simp; omega) fun t ht => ?_) fun l hl => .ok hl
  obtain ⟨acc, i⟩ := t
  obtain ⟨e1, e3⟩ := ht
  simp only at e3
  refine Ok.dec (fun hlt => ?_) (fun hge => ?_)
  · have hi : i < f.Blocks.length := hlt
    rw [idlB_drop hi] at e3
    have hB := h.bs _ (List.getElem_mem hi)
    have hp := hB.p
    have ho := hB.o
    have h2 := offs_mono h hi
    have h3 := offs_end (bs := f.Blocks) (f.Blocks.length - (i + 1)) (i + 1) (by omega)
    have h4 := offs_succ f.Blocks hi
    have hnb : nB f.Blocks[i] = f.Blocks[i].Params.length + f.Blocks[i].Ops.length := rfl
    simp only [List.getElem?_eq_getElem hi, Option.bind_some, first_eq h (Nat.le_of_lt hi)]
    generalize hb : f.Blocks[i] = b at *
    refine Ok.bind (P := fun r => r ++ idlB (unu f) (offs f.Blocks (i + 1) : Nat) (f.Blocks.drop (i + 1)) = idl f) (Ok.loop (fun t => t.2 ≤ b.Ops.length ∧ t.1 ++ (idlO (unu f) (((offs f.Blocks i : Nat) : Int) + (b.Params.length : Nat) + (t.2 : Nat)) (b.Ops.drop t.2) ++ idlB (unu f) (offs f.Blocks (i + 1) : Nat) (f.Blocks.drop (i + 1))) = idl f) (fun t => b.Ops.length - t.2) ⟨by simp, by simpa using e3⟩ (by simp; omega) fun t ht => ?_) fun r hr => .ok ⟨⟨hi, hr⟩, by simp only; omega⟩
    obtain ⟨acc2, k⟩ := t
    obtain ⟨g1, g3⟩ := ht
    simp only at g1 g3
    refine Ok.dec (fun hlt2 => ?_) (fun hge2 => ?_)
    · have hk : k < b.Ops.length := hlt2
      rw [idlO_drop hk, List.append_assoc] at g3
      rw [wrap_small (i := ((offs f.Blocks i : Nat) : Int) + _) (by omega) (by omega), wrap_small (i := ((offs f.Blocks i : Nat) : Int) + _ + _) (by simp only; omega) (by simp only; omega)]
      simp only [List.getElem?_eq_getElem hk, Option.bind_some, seen_eq]
      refine Ok.bind (P := fun r => r ++ (idlO (unu f) (((offs f.Blocks i : Nat) : Int) + (b.Params.length : Nat) + ((k + 1 : Nat) : Int)) (b.Ops.drop (k + 1)) ++ idlB (unu f) (offs f.Blocks (i + 1) : Nat) (f.Blocks.drop (i + 1))) = idl f) (Ok.bind (P := fun c => c = (!seenO b.Ops[k] && unu f (((offs f.Blocks i : Nat) : Int) + (b.Params.length : Nat) + (k : Nat)))) ?_ fun c hc => Ok.bif (fun hc1 => ?_) (fun hc1 => ?_)) fun r hr => .ok ⟨⟨hk, hr⟩, by simp only; omega⟩
      · cases hs : seenO b.Ops[k] with
        | true => exact .ok rfl
        | false =>
          simp only [cond_false]
          refine Ok.bind (count_ok h _) fun n hn => .ok ?_
          rw [hn]
          unfold unu
          simp only [Bool.not_false, Bool.true_and]
          exact decide_eq_decide.2 (by omega)
      · rw [← hc, hc1] at g3
        simp only [cond_true] at g3
        have hl : acc2.length + 1 ≤ 320000 := by
          have := congrArg List.length g3
          simp at this
          omega
        refine Ok.ck (by omega) (.ok ?_)
        rw [List.append_assoc]
        exact g3
      · rw [← hc, hc1] at g3
        simp only [cond_false, List.nil_append] at g3
        exact .ok g3
    · obtain rfl : k = b.Ops.length := by simp only at hge2; omega
      rw [List.drop_length] at g3
      refine .ok ?_
      show acc2 ++ _ = _
      simpa [idlO] using g3
  · obtain rfl : i = f.Blocks.length := by simp only at hge e1; omega
    rw [List.drop_length] at e3
    refine .ok ?_
    show acc = _
    simpa [idlB] using e3
end Go.Proofs.YtpeafglbhjjbhaaDoor


/- A function without what nobody needs: it comes to an end, and makes no more. -/
namespace Go.Proofs.YtpeafglbhjjbhaaDoor
open Go Go.RowKit

theorem sum_le_at : ∀ (a b : List Nat), a.length = b.length → (∀ (i : Nat) (h : i < a.length) (h' : i < b.length), a[i] ≤ b[i]) → a.sum ≤ b.sum
  | [], [], _, _ => Nat.le_refl _
  | x :: a, y :: b, hl, h => by
    have h1 := h 0 (by simp) (by simp)
    have h2 := sum_le_at a b (by simpa using hl) fun i hi hi' => h (i + 1) (by simpa using hi) (by simpa using hi')
    simp only [List.getElem_cons_zero] at h1
    simp only [List.sum_cons]
    omega
  | [], _ :: _, hl, _ => by simp at hl
  | _ :: _, [], hl, _ => by simp at hl
theorem sum_lt_at : ∀ (a b : List Nat), a.length = b.length → (∀ (i : Nat) (h : i < a.length) (h' : i < b.length), a[i] ≤ b[i]) → (j : Nat) → (hj : j < a.length) → (hj' : j < b.length) → a[j] < b[j] → a.sum < b.sum
  | [], _, _, _, _, hj, _, _ => by simp at hj
  | _ :: _, [], hl, _, _, _, _, _ => by simp at hl
  | x :: a, y :: b, hl, h, 0, _, _, hlt => by
    have h2 := sum_le_at a b (by simpa using hl) fun i hi hi' => h (i + 1) (by simpa using hi) (by simpa using hi')
    simp only [List.getElem_cons_zero] at hlt
    simp only [List.sum_cons]
    omega
  | x :: a, y :: b, hl, h, j + 1, hj, hj', hlt => by
    have h1 := h 0 (by simp) (by simp)
    have h2 := sum_lt_at a b (by simpa using hl) (fun i hi hi' => h (i + 1) (by simpa using hi) (by simpa using hi')) j (by simpa using hj) (by simpa using hj') (by simpa using hlt)
    simp only [List.getElem_cons_zero] at h1
    simp only [List.sum_cons]
    omega
theorem kAcc_count (q : MOp → Bool) (keep : List Bool) (j0 : Nat) (ops : List MOp) : ∀ k, k ≤ ops.length → (kAcc keep j0 ops k).countP q ≤ (ops.take k).countP q
  | 0, _ => by simp [kAcc]
  | k + 1, h => by
    have h1 := kAcc_count q keep j0 ops k (by omega)
    rw [kAcc_succ keep j0 ops (show k < ops.length by omega), List.take_succ_eq_append_getElem (show k < ops.length by omega), List.countP_append]
    cases gone keep (j0 + k)
    · simp only [cond_false, List.countP_append]
      omega
    · simp only [cond_true]
      omega
theorem kAcc_lt (keep : List Bool) (j0 : Nat) (ops : List MOp) {z : Nat} (hz : gone keep (j0 + z) = true) : ∀ k, k ≤ ops.length → z < k → (kAcc keep j0 ops k).length < k
  | 0, _, h => by omega
  | k + 1, h, hz2 => by
    rw [kAcc_succ keep j0 ops (show k < ops.length by omega)]
    by_cases e : z = k
    · subst e
      rw [hz]
      have := kAcc_len keep j0 ops z
      simp only [cond_true]
      omega
    · have := kAcc_lt keep j0 ops hz k (by omega) (by omega)
      cases gone keep (j0 + k)
      · simp only [cond_false, List.length_append, List.length_cons, List.length_nil]
        omega
      · simp only [cond_true]
        omega
def keptF (f : MFun) (keep : List Bool) : MFun := ⟨f.Ret, ((plF f).Blocks.map (reB f.Ret (toK keep f.Blocks).1)).mapIdx (kB keep ((plF f).Blocks.map (reB f.Ret (toK keep f.Blocks).1)))⟩
theorem sm_kept {q : MOp → Bool} (hq : Nl q) (f : MFun) (keep : List Bool) : sm q (keptF f keep).Blocks ≤ sm q f.Blocks := by
  have hZ : sm q ((plF f).Blocks.map (reB f.Ret (toK keep f.Blocks).1)) = sm q f.Blocks := (sm_re hq _ _ _).trans (sm_pl hq f)
  unfold keptF
  simp only
  generalize (plF f).Blocks.map (reB f.Ret (toK keep f.Blocks).1) = Z at *
  rw [← hZ]
  unfold sm
  refine sum_le_at _ _ (by simp) fun i h h' => ?_
  simp only [List.getElem_map, List.getElem_mapIdx, kB]
  have hi : i < Z.length := by simpa using h'
  have := kAcc_count q keep (offs Z i + Z[i].Params.length) Z[i].Ops Z[i].Ops.length (Nat.le_refl _)
  rwa [List.take_length] at this
theorem kB_lt {Z : List MBlk} {keep : List Bool} {i k : Nat} (hi : i < Z.length) (hk : k < Z[i].Ops.length) (hg : gone keep (offs Z i + Z[i].Params.length + k) = true) : sm (fun _ => true) (Z.mapIdx (kB keep Z)) < sm (fun _ => true) Z := by
  unfold sm
  refine sum_lt_at _ _ (by simp) (fun i h h' => ?_) i (by simpa using hi) (by simpa using hi) ?_
  · simp only [List.getElem_map, List.getElem_mapIdx, kB]
    have hi : i < Z.length := by simpa using h'
    have := kAcc_count (fun _ => true) keep (offs Z i + Z[i].Params.length) Z[i].Ops Z[i].Ops.length (Nat.le_refl _)
    rwa [List.take_length] at this
  · simp only [List.getElem_map, List.getElem_mapIdx, kB]
    have h1 : ∀ l : List MOp, l.countP (fun _ => true) = l.length := fun l => List.countP_eq_length.2 fun _ _ => rfl
    rw [h1, h1]
    exact kAcc_lt keep _ Z[i].Ops hg Z[i].Ops.length (Nat.le_refl _) hk
theorem sm_kept_lt {f : MFun} {keep : List Bool} {i k : Nat} (hi : i < f.Blocks.length) (hk : k < f.Blocks[i].Ops.length) (hg : gone keep (offs f.Blocks i + f.Blocks[i].Params.length + k) = true) : sm (fun _ => true) (keptF f keep).Blocks < sm (fun _ => true) f.Blocks := by
  have hZ : sm (fun _ => true) ((plF f).Blocks.map (reB f.Ret (toK keep f.Blocks).1)) = sm (fun _ => true) f.Blocks := (sm_re nl_all _ _ _).trans (sm_pl nl_all f)
  have hlen : ((plF f).Blocks.map (reB f.Ret (toK keep f.Blocks).1)).length = f.Blocks.length := by simp [len_pl]
  have hiZ : i < ((plF f).Blocks.map (reB f.Ret (toK keep f.Blocks).1)).length := by omega
  have hra := re_at (toK keep f.Blocks).1 hi hiZ
  rw [← hZ]
  exact kB_lt hiZ (k := k) (by rw [hra.2]; exact hk) (by rw [offs_re, hra.1]; exact hg)
theorem cfun_ok {f : MFun} (h : SzF f) (ht : sm (fun _ => true) f.Blocks ≤ 400) : Ok (p_clean_fun f) (Le f) := by
  unfold p_clean_fun
  refine Ok.bind (Ok.loop (fun s => Le f ⟨s.1, s.2⟩) (fun s => sm (fun _ => true) s.2) ⟨h, fun q _ => Nat.le_refl _⟩ (by simp only; omega) (Post := Le f) fun s hs => ?_) fun r hr => .ok hr
  have hst : sm (fun _ => true) s.2 ≤ 400 := Nat.le_trans (hs.sm _ nl_all) ht
  refine Ok.bind (tidyFunc_ok hs.sz hst) fun y hy => ?_
  have hysz := hy.sz
  have hyl : sm (fun _ => true) y.Blocks ≤ sm (fun _ => true) s.2 := hy.sm _ nl_all
  have hV := offs_lt hysz (Nat.le_refl _)
  refine Ok.bind (idle_ok hysz) fun l hl => ?_
  have hll := idl_len hysz
  refine Ok.dec (fun _ => .ok ⟨hysz, fun q hq => Nat.le_trans (hy.sm q hq) (hs.sm q hq)⟩) (fun hne => ?_)
  rw [values_eq hysz]
  simp only [Option.bind_some, natI_nat, List.length_replicate]
  refine Ok.ck (by omega) ?_
  refine Ok.bind (setAll_ok (fun _ => true) (by simp) (by omega)) fun k0 hk0 => ?_
  have hin : ∀ v ∈ l, 0 ≤ v ∧ v < ((offs y.Blocks y.Blocks.length : Nat) : Int) := fun v hv => by
    subst hl
    obtain ⟨i, hi, k, h1, h2⟩ := idlB_mem hv
    have q2 := offs_mono hysz hi
    have q3 := offs_end (bs := y.Blocks) (y.Blocks.length - (i + 1)) (i + 1) (by omega)
    have q4 := offs_succ y.Blocks hi
    have hnb : nB y.Blocks[i] = y.Blocks[i].Params.length + y.Blocks[i].Ops.length := rfl
    omega
  refine Ok.bind (P := fun (r : List Bool) => r.length = offs y.Blocks y.Blocks.length ∧ ∀ v ∈ l, r[v.toNat]? = some false) (Ok.loop (fun t => t.2 ≤ l.length ∧ t.1.length = offs y.Blocks y.Blocks.length ∧ ∀ v ∈ l.take t.2, t.1[v.toNat]? = some false) (fun t => l.length - t.2) ⟨by simp, hk0, by simp⟩ (by subst hl; simp; omega) fun t ht2 => ?_) fun keep hkeep => ?_
  · obtain ⟨e1, e2, e3⟩ := ht2
    refine Ok.dec (fun hlt => ?_) (fun hge => .ok ⟨e2, ?_⟩)
    · have hx := hin _ (List.getElem_mem hlt)
      simp only [List.getElem?_eq_getElem hlt, Option.bind_some]
      refine Ok.bind (Ok.at (Q := fun _ => True) hx.1 (by omega) fun _ _ _ => trivial) fun _ _ => .ok ⟨⟨hlt, by simpa using e2, fun v hv => ?_⟩, by simp only; omega⟩
      simp only at hv ⊢
      rw [List.take_succ_eq_append_getElem hlt] at hv
      by_cases e : v.toNat = (l[t.2]).toNat
      · rw [e, List.getElem?_set_self (by omega)]
      · rw [List.getElem?_set_ne (fun e' => e e'.symm)]
        rcases List.mem_append.1 hv with hv | hv
        · exact e3 v hv
        · rw [List.mem_singleton.1 hv] at e
          exact absurd rfl e
    · have : t.2 = l.length := by omega
      rw [this, List.take_length] at e3
      exact e3
  · have hK := keptP_eq keep hysz
    rw [hK]
    simp only [Option.bind_some]
    refine .ok ⟨⟨kept_sz keep hysz, fun q hq => Nat.le_trans (sm_kept hq y keep) (Nat.le_trans (hy.sm q hq) (hs.sm q hq))⟩, ?_⟩
    -- one goes
    obtain ⟨v, hv⟩ : ∃ v, v ∈ l := by
      cases l with
      | nil => exact absurd rfl hne
      | cons v l => exact ⟨v, List.mem_cons_self ..⟩
    have hg := hkeep.2 v hv
    subst hl
    obtain ⟨i, hi, k, h1, h2⟩ := idlB_mem hv
    have hv2 : v.toNat = offs y.Blocks i + y.Blocks[i].Params.length + k := by omega
    rw [hv2] at hg
    have hgo : gone keep (offs y.Blocks i + y.Blocks[i].Params.length + k) = true := by
      unfold gone
      have := (List.getElem?_eq_some_iff.1 hg).1
      rw [hg]
      simp [this]
    have := sm_kept_lt hi h1 hgo
    show sm (fun _ => true) (keptF y keep).Blocks < sm (fun _ => true) s.2
    omega
/-- A step that makes something on the heap. -/
def mkO (o : MOp) : Bool := (decide (o.K = 9) || (decide (o.K = 12) || decide (o.K = 17))) && !o.Stack
theorem nl_mk : Nl mkO where
  r := fun _ _ => rfl
  p := fun o => by
    unfold mkO plO
    simp only
    by_cases h9 : o.K = 9
    · simp [h9, show hasB 9 75 = true by decide +kernel]
    · by_cases h12 : o.K = 12
      · simp [h12, show hasB 12 75 = true by decide +kernel]
      · by_cases h17 : o.K = 17
        · simp [h17, show hasB 17 75 = true by decide +kernel]
        · simp [h9, h12, h17]
theorem sm_le {q : MOp → Bool} {f : MFun} (h : SzF f) : ∀ i, sm q (f.Blocks.drop i) ≤ 400 * 400 := fun i => by
  have key : ∀ bs : List MBlk, (∀ b ∈ bs, SzB b) → sm q bs ≤ bs.length * 400 := fun bs => by
    induction bs with
    | nil => simp [sm]
    | cons b bs ih =>
      intro hb
      have h1 := ih fun b' hb' => hb b' (List.mem_cons_of_mem _ hb')
      have h2 := (hb b (List.mem_cons_self ..)).o
      have h3 := List.countP_le_length (p := q) (l := b.Ops)
      have h4 : sm q (b :: bs) = b.Ops.countP q + sm q bs := by simp [sm]
      rw [h4, List.length_cons, Nat.add_mul]
      omega
  have h1 := key (f.Blocks.drop i) fun b hb => h.bs b (List.mem_of_mem_drop hb)
  have h2 : (f.Blocks.drop i).length ≤ 400 := by have := h.b; simp; omega
  exact Nat.le_trans h1 (Nat.mul_le_mul_right 400 h2)
theorem sm_drop {q : MOp → Bool} {bs : List MBlk} {i : Nat} (hi : i < bs.length) : sm q (bs.drop i) = bs[i].Ops.countP q + sm q (bs.drop (i + 1)) := by
  unfold sm
  rw [List.drop_eq_getElem_cons hi, List.map_cons, List.sum_cons]
theorem made_ok {f : MFun} (h : SzF f) : Ok (p_clean_made f) (fun n => n = ((sm mkO f.Blocks : Nat) : Int)) := by
  have hn := h.b
  have hT := sm_le (q := mkO) h 0
  rw [List.drop_zero] at hT
  unfold p_clean_made
  refine Ok.bind (P := fun n => n = ((sm mkO f.Blocks : Nat) : Int)) (Ok.loop (fun t => t.2 ≤ f.Blocks.length ∧ 0 ≤ t.1 ∧ t.1 + (sm mkO (f.Blocks.drop t.2) : Nat) = ((sm mkO f.Blocks : Nat) : Int)) (fun t => f.Blocks.length - t.2) ⟨by simp, by simp, by simp⟩ (by simp; omega) fun t ht => ?_) fun l hl => .ok hl
  obtain ⟨n, i⟩ := t
  obtain ⟨e1, e2, e3⟩ := ht
  simp only at e2 e3
  refine Ok.dec (fun hlt => ?_) (fun hge => ?_)
  · have hi : i < f.Blocks.length := hlt
    rw [sm_drop hi] at e3
    have ho := (h.bs _ (List.getElem_mem hi)).o
    simp only [List.getElem?_eq_getElem hi, Option.bind_some]
    generalize f.Blocks[i] = b at *
    refine Ok.bind (P := fun r => 0 ≤ r ∧ r + (sm mkO (f.Blocks.drop (i + 1)) : Nat) = ((sm mkO f.Blocks : Nat) : Int)) (Ok.loop (fun t => t.2 ≤ b.Ops.length ∧ 0 ≤ t.1 ∧ t.1 + ((b.Ops.drop t.2).countP mkO : Nat) + (sm mkO (f.Blocks.drop (i + 1)) : Nat) = ((sm mkO f.Blocks : Nat) : Int)) (fun t => b.Ops.length - t.2) ⟨by simp, e2, by rw [List.drop_zero]; omega⟩ (by simp; omega) fun t ht => ?_) fun r hr => .ok ⟨⟨hi, hr.1, hr.2⟩, by simp only; omega⟩
    obtain ⟨n2, k⟩ := t
    obtain ⟨g1, g2, g3⟩ := ht
    simp only at g1 g2 g3
    refine Ok.dec (fun hlt2 => ?_) (fun hge2 => ?_)
    · have hk : k < b.Ops.length := hlt2
      rw [List.drop_eq_getElem_cons hk, List.countP_cons] at g3
      simp only [List.getElem?_eq_getElem hk, Option.bind_some]
      refine Ok.bind (P := fun r => 0 ≤ r ∧ r + ((b.Ops.drop (k + 1)).countP mkO : Nat) + (sm mkO (f.Blocks.drop (i + 1)) : Nat) = ((sm mkO f.Blocks : Nat) : Int)) (Ok.bind (P := fun c => c = mkO b.Ops[k]) ?_ fun c hc => Ok.bif (fun hc1 => .ok ?_) (fun hc1 => .ok ?_)) fun r hr => .ok ⟨⟨hk, hr.1, hr.2⟩, by simp only; omega⟩
      · unfold mkO
        cases decide (b.Ops[k].K = 9) <;> cases decide (b.Ops[k].K = 12) <;> cases decide (b.Ops[k].K = 17) <;> cases b.Ops[k].Stack <;> exact .ok rfl
      · rw [← hc, hc1, if_pos rfl] at g3
        rw [wrap_add1 g2 (by omega)]
        omega
      · rw [← hc, hc1] at g3
        simp only [Bool.false_eq_true, if_false] at g3
        exact ⟨g2, g3⟩
    · obtain rfl : k = b.Ops.length := by simp only at hge2; omega
      rw [List.drop_length] at g3
      refine .ok ⟨g2, ?_⟩
      simpa using g3
  · obtain rfl : i = f.Blocks.length := by simp only at hge e1; omega
    rw [List.drop_length] at e3
    refine .ok ?_
    show n = _
    simpa [sm] using e3
theorem steps_ok {f : MFun} (h : SzF f) : Ok (p_R17_Steps f 1) (fun n => n = ((sm mkO f.Blocks : Nat) : Int)) := by
  have hn := h.b
  have hT := sm_le (q := mkO) h 0
  rw [List.drop_zero] at hT
  unfold p_R17_Steps
  refine Ok.bind (P := fun n => n = ((sm mkO f.Blocks : Nat) : Int)) (Ok.loop (fun t => t.2 ≤ f.Blocks.length ∧ 0 ≤ t.1 ∧ t.1 + (sm mkO (f.Blocks.drop t.2) : Nat) = ((sm mkO f.Blocks : Nat) : Int)) (fun t => f.Blocks.length - t.2) ⟨by simp, by simp, by simp⟩ (by simp; omega) fun t ht => ?_) fun l hl => .ok hl
  obtain ⟨n, i⟩ := t
  obtain ⟨e1, e2, e3⟩ := ht
  simp only at e2 e3
  refine Ok.dec (fun hlt => ?_) (fun hge => ?_)
  · have hi : i < f.Blocks.length := hlt
    rw [sm_drop hi] at e3
    have ho := (h.bs _ (List.getElem_mem hi)).o
    simp only [List.getElem?_eq_getElem hi, Option.bind_some]
    generalize f.Blocks[i] = b at *
    refine Ok.bind (P := fun r => 0 ≤ r ∧ r + (sm mkO (f.Blocks.drop (i + 1)) : Nat) = ((sm mkO f.Blocks : Nat) : Int)) (Ok.loop (fun t => t.2 ≤ b.Ops.length ∧ 0 ≤ t.1 ∧ t.1 + ((b.Ops.drop t.2).countP mkO : Nat) + (sm mkO (f.Blocks.drop (i + 1)) : Nat) = ((sm mkO f.Blocks : Nat) : Int)) (fun t => b.Ops.length - t.2) ⟨by simp, e2, by rw [List.drop_zero]; omega⟩ (by simp; omega) fun t ht => ?_) fun r hr => .ok ⟨⟨hi, hr.1, hr.2⟩, by simp only; omega⟩
    obtain ⟨n2, k⟩ := t
    obtain ⟨g1, g2, g3⟩ := ht
    simp only at g1 g2 g3
    refine Ok.dec (fun hlt2 => ?_) (fun hge2 => ?_)
    · have hk : k < b.Ops.length := hlt2
      rw [List.drop_eq_getElem_cons hk, List.countP_cons] at g3
      simp only [List.getElem?_eq_getElem hk, Option.bind_some]
      refine Ok.bind (P := fun r => 0 ≤ r ∧ r + ((b.Ops.drop (k + 1)).countP mkO : Nat) + (sm mkO (f.Blocks.drop (i + 1)) : Nat) = ((sm mkO f.Blocks : Nat) : Int)) (Ok.bind (P := fun c => c = mkO b.Ops[k]) ?_ fun c hc => Ok.bif (fun hc1 => .ok ?_) (fun hc1 => .ok ?_)) fun r hr => .ok ⟨⟨hk, hr.1, hr.2⟩, by simp only; omega⟩
      · unfold mkO
        cases decide (b.Ops[k].K = 9) <;> cases decide (b.Ops[k].K = 12) <;> cases decide (b.Ops[k].K = 17) <;> cases b.Ops[k].Stack <;> exact .ok rfl
      · rw [← hc, hc1, if_pos rfl] at g3
        rw [wrap_add1 g2 (by omega)]
        omega
      · rw [← hc, hc1] at g3
        simp only [Bool.false_eq_true, if_false] at g3
        exact ⟨g2, g3⟩
    · obtain rfl : k = b.Ops.length := by simp only at hge2; omega
      rw [List.drop_length] at g3
      refine .ok ⟨g2, ?_⟩
      simpa using g3
  · obtain rfl : i = f.Blocks.length := by simp only at hge e1; omega
    rw [List.drop_length] at e3
    refine .ok ?_
    show n = _
    simpa [sm] using e3
end Go.Proofs.YtpeafglbhjjbhaaDoor


/- The law of what nobody needs, in plain terms. -/
namespace Go.Proofs.YtpeafglbhjjbhaaDoor
open Go Go.RowKit

theorem sm_take {bs : List MBlk} {i : Nat} (hi : i < bs.length) : sm (fun _ => true) (bs.take (i + 1)) = sm (fun _ => true) (bs.take i) + bs[i].Ops.length := by
  have h1 : ∀ l : List MOp, l.countP (fun _ => true) = l.length := fun l => List.countP_eq_length.2 fun _ _ => rfl
  unfold sm
  rw [List.take_succ_eq_append_getElem hi, List.map_append, List.sum_append, List.map_cons, List.map_nil, List.sum_cons, List.sum_nil, h1]
  rfl
theorem smallSum (f : MFun) (hf : LimF f) (s0 : Int) (hs : 0 ≤ s0) : Ok (loop (fun (s12047 : Int × Int) => (((bif decide (s12047.2 < ((f.Blocks.length : Nat) : Int)) then some (decide (s12047.1 ≤ 400)) else some false)).bind fun (s12052 : Bool) => (bif s12052 then ((((atI f.Blocks s12047.2).bind fun x12059 => (loop (fun (s15061 : Int × Int) => (((bif decide (s15061.2 < ((x12059.Ops.length : Nat) : Int)) then some (decide (s15061.1 ≤ 400)) else some false)).bind fun (s15066 : Bool) => (bif s15066 then ((atI x12059.Ops s15061.2).bind fun x15070 => some (Xt.go (IntKind.i64.wrap (IntKind.i64.wrap (s15061.1 + ((x15070.L.length : Nat) : Int)) + IntKind.i64.wrap (Int.tdiv ((x15070.S.size : Nat) : Int) 8)), IntKind.i64.wrap (s15061.2 + 1)))) else some (Xt.out s15061.1)))) Fu (IntKind.i64.wrap (IntKind.i64.wrap (IntKind.i64.wrap (IntKind.i64.wrap (s12047.1 + ((x12059.Params.length : Nat) : Int)) + ((x12059.Ops.length : Nat) : Int)) + ((x12059.End.L.length : Nat) : Int)) + ((x12059.End.M.length : Nat) : Int)), 0)))).bind fun (s12057 : Int) => some (Xt.go (s12057, IntKind.i64.wrap (s12047.2 + 1)))) else some (Xt.out s12047.1)))) Fu (s0, 0)) (fun r => r ≤ 400 → s0 + (sm (fun _ => true) f.Blocks : Nat) ≤ r) := by
  have hb := hf.b
  refine Ok.loop (fun t => 0 ≤ t.2 ∧ t.2 ≤ (f.Blocks.length : Int) ∧ 0 ≤ t.1 ∧ (t.1 ≤ 400 → s0 + (sm (fun _ => true) (f.Blocks.take t.2.toNat) : Nat) ≤ t.1)) (fun t => f.Blocks.length - t.2.toNat) ⟨by simp, by simp, hs, fun _ => by simp [sm]⟩ (by simp; omega) fun t ht => ?_
  obtain ⟨s, i'⟩ := t
  obtain ⟨e1, e2, e3, e4⟩ := ht
  simp only at e1 e2 e3 e4
  obtain ⟨i, rfl⟩ : ∃ i : Nat, i' = (i : Int) := ⟨i'.toNat, by omega⟩
  rw [Int.toNat_natCast] at e4
  by_cases hg : ((i : Nat) : Int) < ((f.Blocks.length : Nat) : Int) ∧ s ≤ 400
  · obtain ⟨h1, h2⟩ := hg
    have hi : i < f.Blocks.length := by omega
    have hl := hf.bs _ (List.getElem_mem hi)
    have g1 := hl.p
    have g2 := hl.o
    have g3 := hl.l
    have g4 := hl.m
    simp only [grd_t hi h2, Option.bind_some, cond_true, atI_nat, List.getElem?_eq_getElem hi, wrap_inc (show i < 9223372036854775807 by omega)]
    have ht := sm_take hi
    generalize f.Blocks[i] = x at *
    rw [wrap_small (i := s + _) (by omega) (by omega), wrap_small (i := s + _ + _) (by omega) (by omega), wrap_small (i := s + _ + _ + _) (by omega) (by omega), wrap_small (by omega) (by omega)]
    obtain ⟨r, q1, q2, _⟩ := smallOps x hl (s + ((x.Params.length : Nat) : Int) + ((x.Ops.length : Nat) : Int) + ((x.End.L.length : Nat) : Int) + ((x.End.M.length : Nat) : Int)) (by omega)
    rw [q1]
    refine .ok ⟨⟨by simp only; omega, by simp only; omega, by simp only; omega, fun h => ?_⟩, by simp only; omega⟩
    simp only [Int.toNat_natCast] at h ⊢
    rw [ht]
    have := e4 h2
    omega
  · have hc : i = f.Blocks.length ∨ 400 < s := by omega
    simp only [grd_f hc (show i ≤ f.Blocks.length by omega), Option.bind_some, cond_false]
    refine .ok fun h => ?_
    have h5 := e4 h
    rcases hc with rfl | hc
    · rwa [List.take_length] at h5
    · omega
theorem smallBlks2 (f : MFun) (hf : LimF f) (s0 : Int) (hs : 0 ≤ s0) : ∃ r, loop (fun (s12047 : Int × Int) => (((bif decide (s12047.2 < ((f.Blocks.length : Nat) : Int)) then some (decide (s12047.1 ≤ 400)) else some false)).bind fun (s12052 : Bool) => (bif s12052 then ((((atI f.Blocks s12047.2).bind fun x12059 => (loop (fun (s15061 : Int × Int) => (((bif decide (s15061.2 < ((x12059.Ops.length : Nat) : Int)) then some (decide (s15061.1 ≤ 400)) else some false)).bind fun (s15066 : Bool) => (bif s15066 then ((atI x12059.Ops s15061.2).bind fun x15070 => some (Xt.go (IntKind.i64.wrap (IntKind.i64.wrap (s15061.1 + ((x15070.L.length : Nat) : Int)) + IntKind.i64.wrap (Int.tdiv ((x15070.S.size : Nat) : Int) 8)), IntKind.i64.wrap (s15061.2 + 1)))) else some (Xt.out s15061.1)))) Fu (IntKind.i64.wrap (IntKind.i64.wrap (IntKind.i64.wrap (IntKind.i64.wrap (s12047.1 + ((x12059.Params.length : Nat) : Int)) + ((x12059.Ops.length : Nat) : Int)) + ((x12059.End.L.length : Nat) : Int)) + ((x12059.End.M.length : Nat) : Int)), 0)))).bind fun (s12057 : Int) => some (Xt.go (s12057, IntKind.i64.wrap (s12047.2 + 1)))) else some (Xt.out s12047.1)))) Fu (s0, 0) = some r ∧ s0 ≤ r ∧ (r ≤ 400 → (∀ b ∈ f.Blocks, SzB b) ∧ sm (fun _ => true) f.Blocks ≤ 400) := by
  obtain ⟨r, e1, e2, e3⟩ := smallBlks f hf s0 hs
  obtain ⟨r', f1, f2⟩ := smallSum f hf s0 hs
  rw [e1] at f1
  obtain rfl := Option.some.inj f1
  exact ⟨r, e1, e2, fun h => ⟨e3 h, by have := f2 h; omega⟩⟩
theorem small2_eq (p : MPrg) (hp : LimP p) : ∃ b, p_R05_Small (some p) 400 = some b ∧ (b = true → ∀ f ∈ p.Funcs, SzF f ∧ sm (fun _ => true) f.Blocks ≤ 400) := by
  have q1 := hp.s
  have q2 := hp.c
  have q3 := hp.f
  unfold p_R05_Small optC
  simp only
  rw [wrap_small (i := ((p.Sigs.length : Nat) : Int) + _) (by omega) (by omega), wrap_small (by omega) (by omega)]
  obtain ⟨r1, e1, e2, _⟩ := loop_acc p.Sigs 400 (body := (fun (s3005 : Int × Int) => (((bif decide (s3005.2 < ((p.Sigs.length : Nat) : Int)) then some (decide (s3005.1 ≤ 400)) else some false)).bind fun (s3010 : Bool) => (bif s3010 then ((atI p.Sigs s3005.2).bind fun x3014 => some (Xt.go (IntKind.i64.wrap (s3005.1 + ((x3014.Params.length : Nat) : Int)), IntKind.i64.wrap (s3005.2 + 1)))) else some (Xt.out s3005.1))))) (fun _ => True) (fun i x s hix hi hm h0 h1 => by
    have g1 := hp.ss x hm
    simp only [grd_t hi h1, Option.bind_some, cond_true, atI_nat, hix, wrap_inc (show i < 9223372036854775807 by omega)]
    rw [wrap_small (by omega) (by omega)]
    exact ⟨_, rfl, by omega, fun _ => trivial⟩) (fun i s hi h => by simp only [grd_f h hi, Option.bind_some, cond_false]) (by omega) (((p.Sigs.length : Nat) : Int) + ((p.Classes.length : Nat) : Int) + ((p.Funcs.length : Nat) : Int)) (by omega)
  rw [e1]
  simp only [Option.bind_some]
  obtain ⟨r2, f1, f2, _⟩ := loop_acc p.Classes 400 (body := (fun (s6019 : Int × Int) => (((bif decide (s6019.2 < ((p.Classes.length : Nat) : Int)) then some (decide (s6019.1 ≤ 400)) else some false)).bind fun (s6024 : Bool) => (bif s6024 then ((atI p.Classes s6019.2).bind fun x6028 => some (Xt.go (IntKind.i64.wrap (IntKind.i64.wrap (s6019.1 + ((x6028.Fields.length : Nat) : Int)) + ((x6028.Methods.length : Nat) : Int)), IntKind.i64.wrap (s6019.2 + 1)))) else some (Xt.out s6019.1))))) (fun _ => True) (fun i x s hix hi hm h0 h1 => by
    obtain ⟨g1, g2⟩ := hp.cs x hm
    simp only [grd_t hi h1, Option.bind_some, cond_true, atI_nat, hix, wrap_inc (show i < 9223372036854775807 by omega)]
    rw [wrap_small (i := s + _) (by omega) (by omega), wrap_small (by omega) (by omega)]
    exact ⟨_, rfl, by omega, fun _ => trivial⟩) (fun i s hi h => by simp only [grd_f h hi, Option.bind_some, cond_false]) (by omega) r1 (by omega)
  rw [f1]
  simp only [Option.bind_some]
  obtain ⟨r3, k1, k2, k3⟩ := loop_acc p.Funcs 400 (body := (fun (s9033 : Int × Int) => (((bif decide (s9033.2 < ((p.Funcs.length : Nat) : Int)) then some (decide (s9033.1 ≤ 400)) else some false)).bind fun (s9038 : Bool) => (bif s9038 then ((((atI p.Funcs s9033.2).bind fun x9045 => (loop (fun (s12047 : Int × Int) => (((bif decide (s12047.2 < ((x9045.Blocks.length : Nat) : Int)) then some (decide (s12047.1 ≤ 400)) else some false)).bind fun (s12052 : Bool) => (bif s12052 then ((((atI x9045.Blocks s12047.2).bind fun x12059 => (loop (fun (s15061 : Int × Int) => (((bif decide (s15061.2 < ((x12059.Ops.length : Nat) : Int)) then some (decide (s15061.1 ≤ 400)) else some false)).bind fun (s15066 : Bool) => (bif s15066 then ((atI x12059.Ops s15061.2).bind fun x15070 => some (Xt.go (IntKind.i64.wrap (IntKind.i64.wrap (s15061.1 + ((x15070.L.length : Nat) : Int)) + IntKind.i64.wrap (Int.tdiv ((x15070.S.size : Nat) : Int) 8)), IntKind.i64.wrap (s15061.2 + 1)))) else some (Xt.out s15061.1)))) Fu (IntKind.i64.wrap (IntKind.i64.wrap (IntKind.i64.wrap (IntKind.i64.wrap (s12047.1 + ((x12059.Params.length : Nat) : Int)) + ((x12059.Ops.length : Nat) : Int)) + ((x12059.End.L.length : Nat) : Int)) + ((x12059.End.M.length : Nat) : Int)), 0)))).bind fun (s12057 : Int) => some (Xt.go (s12057, IntKind.i64.wrap (s12047.2 + 1)))) else some (Xt.out s12047.1)))) Fu (IntKind.i64.wrap (s9033.1 + ((x9045.Blocks.length : Nat) : Int)), 0)))).bind fun (s9043 : Int) => some (Xt.go (s9043, IntKind.i64.wrap (s9033.2 + 1)))) else some (Xt.out s9033.1))))) (fun f => SzF f ∧ sm (fun _ => true) f.Blocks ≤ 400) (fun i x s hix hi hm h0 h1 => by
    have hl := hp.fs x hm
    have g1 := hl.b
    simp only [grd_t hi h1, Option.bind_some, cond_true, atI_nat, hix, wrap_inc (show i < 9223372036854775807 by omega)]
    rw [wrap_small (by omega) (by omega)]
    obtain ⟨r, e1, e2, e3⟩ := smallBlks2 x hl (s + ((x.Blocks.length : Nat) : Int)) (by omega)
    rw [e1]
    exact ⟨r, rfl, by omega, fun h => ⟨⟨by omega, (e3 h).1⟩, (e3 h).2⟩⟩) (fun i s hi h => by simp only [grd_f h hi, Option.bind_some, cond_false]) (by omega) r2 (by omega)
  rw [k1]
  exact ⟨_, rfl, fun h => k3 (by simpa using h)⟩
theorem idle_empty : ((p_clean_Idle (⟨0, []⟩ : MFun)).bind fun y8 => some (decide (((y8.length : Nat) : Int) = 0))) = some true := by decide +kernel
theorem ints_self2 {l : List Int} (h : l.length ≤ 320000) : Ok (p_R04_Ints l l) (fun b => b = true) := by
  unfold p_R04_Ints
  simp only [decide_true, cond_true]
  rw [loop_at (s := 0) (fun i => i) l.length (.go ()) rfl (fun i hi => ?_) (by simp) (by omega)]
  · exact .ok rfl
  · simp [hi]
/-- The law of what nobody needs, in plain terms. -/
theorem idle_plain (p : MPrg) (n : Int) (hp : LimP p) (hn : 0 ≤ n) (hn2 : n < 256) : p_L17_CleanIdle p n = some true := by
  unfold p_L17_CleanIdle
  obtain ⟨b, e1, e2⟩ := small2_eq p hp
  rw [e1]
  have q3 := hp.f
  by_cases h0 : ((p.Funcs.length : Nat) : Int) = 0
  · simp only [h0, decide_true, cond_true, Option.bind_some]
    exact idle_empty
  · simp only [h0, decide_false, cond_false, Option.bind_some]
    cases b with
    | false =>
      simp only [Bool.not_false, cond_true]
      exact idle_empty
    | true =>
      simp only [Bool.not_true, cond_false]
      have hm0 : 0 ≤ Int.tmod n ((p.Funcs.length : Nat) : Int) := Int.tmod_nonneg _ hn
      have hm1 : Int.tmod n ((p.Funcs.length : Nat) : Int) < ((p.Funcs.length : Nat) : Int) := by
        rw [Int.tmod_eq_emod_of_nonneg hn]
        exact Int.emod_lt_of_pos _ (by omega)
      rw [ck_t (p := ¬ False) (fun h => h), wrap_small hn (by omega)]
      have key : Ok (((atI p.Funcs (Int.tmod n ((p.Funcs.length : Nat) : Int))).bind fun x11 =>
((p_clean_Func x11).bind fun y13 =>
((((p_clean_Idle x11).bind fun y18 =>
((p_R17_Idle x11).bind fun y20 =>
((p_R04_Ints y18 y20).bind fun y22 =>
(bif y22 then
((p_clean_Dead x11).bind fun y25 =>
((p_R17_Steps x11 1).bind fun y27 =>
((p_R17_Steps y13 1).bind fun y29 =>
(bif decide (y25 = IntKind.i64.wrap (y27 - y29)) then
((p_clean_Dead x11).bind fun y32 =>
some (decide ((0 : Int) ≤ y32)))
else
some false))))
else
some false))))).bind fun (s16 : Bool) =>
some s16)))) (fun r => r = true) := by
        refine Ok.bind (Ok.at (Q := fun f => f ∈ p.Funcs) hm0 hm1 fun _ _ h => h) fun f hf => ?_
        obtain ⟨hsz, hsm⟩ := e2 rfl f hf
        obtain ⟨g, hg, hle⟩ := cfun_ok hsz hsm
        have hgsz := hle.sz
        have hmk := hle.sm _ nl_mk
        have hT := sm_le (q := mkO) hsz 0
        rw [List.drop_zero] at hT
        have hD : p_clean_Dead f = some (((sm mkO f.Blocks : Nat) : Int) - ((sm mkO g.Blocks : Nat) : Int)) := by
          obtain ⟨a, ha, rfl⟩ := made_ok hsz
          obtain ⟨b, hb, rfl⟩ := made_ok hgsz
          unfold p_clean_Dead
          rw [ha, hg]
          simp only [Option.bind_some]
          rw [hb]
          simp only [Option.bind_some]
          rw [wrap_small (by omega) (by omega)]
        have hF : p_clean_Func f = some g := by
          unfold p_clean_Func
          rw [hg]
          rfl
        obtain ⟨l, hl, rfl⟩ := idle_ok hsz
        obtain ⟨l2, hl2, rfl⟩ := refIdle_ok hsz
        obtain ⟨c, hc, rfl⟩ := ints_self2 (idl_len hsz)
        obtain ⟨a, ha, rfl⟩ := steps_ok hsz
        obtain ⟨b, hb, rfl⟩ := steps_ok hgsz
        have hI : p_clean_Idle f = some (idl f) := by
          unfold p_clean_Idle
          rw [hl]
          rfl
        rw [hF]
        simp only [Option.bind_some, hI, hl2, hc, cond_true, hD, ha, hb]
        refine Ok.bind (Ok.dec (fun _ => .ok (P := fun r => r = true) ?_) (fun h => absurd ?_ h)) fun r hr => .ok hr
        · exact decide_eq_true (by omega)
        · rw [wrap_small (by omega) (by omega)]
      obtain ⟨r, hr, rfl⟩ := key
      exact hr
end Go.Proofs.YtpeafglbhjjbhaaDoor


