/- Loops of the plain functions. -/
import Derived.Test.YtbebdcpakjfgdaaDoorFZ
namespace Go.Proofs.YtbebdcpakjfgdaaDoor
open Go Go.RowKit

theorem loop_succ {σ ρ : Type} (body : σ → Option (Xt σ ρ)) (n : Nat) (s : σ) : loop body (n + 1) s = (body s).bind fun x => x.on (fun s' => loop body n s') some := rfl
/-- Rounds 0, 1 .. q, then it's enough. -/
theorem loop_run {σ ρ : Type} {body : σ → Option (Xt σ ρ)} (st : Nat → σ) (q : Nat) (r : ρ) (h1 : ∀ i, i < q → body (st i) = some (.go (st (i + 1)))) (h2 : body (st q) = some (.out r)) : ∀ (n i : Nat), i ≤ q → q - i < n → loop body n (st i) = some r
  | 0, i, _, h => by omega
  | n + 1, i, hi, h => by
    rw [loop_succ]
    by_cases e : i = q
    · subst e
      rw [h2]
      rfl
    · rw [h1 i (by omega)]
      exact loop_run st q r h1 h2 n (i + 1) (by omega) (by omega)
theorem loop_at {σ ρ : Type} {body : σ → Option (Xt σ ρ)} (st : Nat → σ) (q : Nat) (r : ρ) {s : σ} (hs : s = st 0) (h1 : ∀ i, i < q → body (st i) = some (.go (st (i + 1)))) (h2 : body (st q) = some (.out r)) (hq : q < 18446744073709551616) : loop body Fu s = some r := by
  subst hs
  exact loop_run st q r h1 h2 Fu 0 (Nat.zero_le _) (by unfold Fu; omega)
theorem take_map_succ {α β : Type} (l : List α) (g : α → β) {i : Nat} (hi : i < l.length) : (l.take (i + 1)).map g = (l.take i).map g ++ [g l[i]] := by
  rw [List.take_succ_eq_append_getElem hi, List.map_append]
  rfl
theorem drop_set {α : Type} (l : List α) (a : List α) (y : α) {i : Nat} (hi : i < l.length) (ha : a.length = i) : (a ++ l.drop i).set i y = (a ++ [y]) ++ l.drop (i + 1) := by
  rw [List.set_append_right _ _ (by omega), ha, Nat.sub_self, List.drop_eq_getElem_cons hi, List.set_cons_zero, List.append_assoc]
  rfl
/-- A list is made out of another one, element by element. -/
theorem loop_push {α β : Type} (l : List α) (g : α → β) {body : List β × Nat → Option (Xt (List β × Nat) (List β))} (h1 : ∀ i x acc, l[i]? = some x → acc.length = i → i < l.length → x ∈ l → body (acc, i) = some (.go (acc ++ [g x], i + 1))) (h2 : ∀ acc, body (acc, l.length) = some (.out acc)) (hq : l.length < 18446744073709551616) : loop body Fu ([], 0) = some (l.map g) := by
  refine loop_at (fun i => ((l.take i).map g, i)) l.length _ (by simp) (fun i hi => ?_) (by rw [h2]; simp) hq
  have hx : l[i]? = some l[i] := List.getElem?_eq_getElem hi
  show body ((l.take i).map g, i) = _
  rw [h1 i l[i] _ hx (by simp; omega) hi (List.getElem_mem hi)]
  rw [take_map_succ l g hi]
/-- A list is changed, element by element. -/
theorem loop_set {α : Type} (l : List α) (g : α → α) {body : List α × Nat → Option (Xt (List α × Nat) (List α))} (h1 : ∀ i x (s : List α), s[i]? = some x → s.length = l.length → i < l.length → x ∈ l → body (s, i) = some (.go (s.set i (g x), i + 1))) (h2 : ∀ s : List α, s.length = l.length → body (s, l.length) = some (.out s)) (hq : l.length < 18446744073709551616) : loop body Fu (l, 0) = some (l.map g) := by
  refine loop_at (fun i => ((l.take i).map g ++ l.drop i, i)) l.length _ (by simp) (fun i hi => ?_) (by rw [h2 _ (by simp)]; simp) hq
  have hx : ((l.take i).map g ++ l.drop i)[i]? = some l[i] := by
    rw [List.getElem?_append_right (by simp; omega)]
    simp [Nat.min_eq_left (Nat.le_of_lt hi)]
  show body ((l.take i).map g ++ l.drop i, i) = _
  rw [h1 i l[i] _ hx (by simp; omega) hi (List.getElem_mem hi)]
  rw [take_map_succ l g hi, drop_set l _ _ hi (by simp; omega)]
/-- The same, with a number of Go's. -/
theorem loop_setI {α : Type} (l : List α) (g : α → α) {body : List α × Int → Option (Xt (List α × Int) (List α))} (h1 : ∀ (i : Nat) x (s : List α), s[i]? = some x → s.length = l.length → i < l.length → x ∈ l → body (s, (i : Int)) = some (.go (s.set i (g x), ((i + 1 : Nat) : Int)))) (h2 : ∀ s : List α, s.length = l.length → body (s, (l.length : Int)) = some (.out s)) (hq : l.length < 18446744073709551616) : loop body Fu (l, 0) = some (l.map g) := by
  refine loop_at (fun i => ((l.take i).map g ++ l.drop i, (i : Int))) l.length _ (by simp) (fun i hi => ?_) (by rw [h2 _ (by simp)]; simp) hq
  have hx : ((l.take i).map g ++ l.drop i)[i]? = some l[i] := by
    rw [List.getElem?_append_right (by simp; omega)]
    simp [Nat.min_eq_left (Nat.le_of_lt hi)]
  show body ((l.take i).map g ++ l.drop i, (i : Int)) = _
  rw [h1 i l[i] _ hx (by simp; omega) hi (List.getElem_mem hi)]
  rw [take_map_succ l g hi, drop_set l _ _ hi (by simp; omega)]
theorem wrap_nat {n : Nat} (h : n < 9223372036854775808) : IntKind.i64.wrap (n : Int) = (n : Int) := by
  simp [IntKind.wrap, IntKind.bits, IntKind.signed]
  omega
theorem wrap_inc {n : Nat} (h : n < 9223372036854775807) : IntKind.i64.wrap ((n : Int) + 1) = ((n + 1 : Nat) : Int) := by
  have := wrap_nat (n := n + 1) (by omega)
  rwa [Int.natCast_add] at this
theorem atI_nat {α : Type} (l : List α) (n : Nat) : atI l (n : Int) = l[n]? := by simp [atI]
theorem ck_t {α : Type} {p : Prop} [Decidable p] {k : Option α} (h : p) : ck p k = k := if_pos h
end Go.Proofs.YtbebdcpakjfgdaaDoor
