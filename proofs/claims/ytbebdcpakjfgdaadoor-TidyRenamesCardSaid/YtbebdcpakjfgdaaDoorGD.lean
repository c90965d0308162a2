/- The document's copy; other names of values. -/
import Derived.Test.YtbebdcpakjfgdaaDoorGC
namespace Go.Proofs.YtbebdcpakjfgdaaDoor
open Go Go.RowKit

theorem ownR_eq {f : MFun} (h : SzF f) : p_R16_Own f = some (plF f) := by
  have hops : ∀ (b : MBlk), SzB b → loop (fun (s : (List MOp) × Nat) => (bif decide (s.2 < b.Ops.length) then ((b.Ops[s.2]?).bind fun x => ((p_R04_Plain x).bind fun y => (ck ((s.1.length + 1) * 88 ≤ 140737488355328) (some (Xt.go ((s.1 ++ [y]), (s.2 + 1))))))) else some (Xt.out s.1))) Fu ([], 0) = some (b.Ops.map plO) := fun b hb => by
    refine loop_push b.Ops plO (fun i x acc hx ha hi hm => ?_) (fun acc => by simp) (by have := hb.o; omega)
    have := hb.o
    simp only [hi, decide_true, cond_true, hx, Option.bind_some, plainR_eq (hb.os x hm)]
    rw [ck_t (by omega)]
  have hbl : loop (fun (s12046 : (List MBlk) × Nat) => (bif decide (s12046.2 < f.Blocks.length) then ((((f.Blocks[s12046.2]?).bind fun x12055 => (ck (x12055.Params.length * 8 ≤ 140737488355328) (((p_R05_End x12055.End).bind fun y12058 => (((loop (fun (s : (List MOp) × Nat) => (bif decide (s.2 < x12055.Ops.length) then ((x12055.Ops[s.2]?).bind fun x => ((p_R04_Plain x).bind fun y => (ck ((s.1.length + 1) * 88 ≤ 140737488355328) (some (Xt.go ((s.1 ++ [y]), (s.2 + 1))))))) else some (Xt.out s.1))) Fu ([], 0))).bind fun (s12061 : (List MOp)) => (ck ((s12046.1.length + 1) * 128 ≤ 140737488355328) (some (s12046.1 ++ [(⟨x12055.Params, s12061, y12058⟩ : MBlk)]))))))))).bind fun (s12053 : (List MBlk)) => some (Xt.go (s12053, (s12046.2 + 1)))) else some (Xt.out s12046.1))) Fu ([], 0) = some (f.Blocks.map plB) := by
    refine loop_push f.Blocks plB (fun i x acc hx ha hi hm => ?_) (fun acc => by simp) (by have := h.b; omega)
    have hb := h.bs x hm
    have := h.b
    have hp := hb.p
    simp only [hi, decide_true, cond_true, hx, Option.bind_some, endR_eq hb.l hb.m, hops x hb]
    rw [ck_t (by omega), ck_t (by omega)]
    rfl
  have hown : p_R05_Own (some ⟨[], [], [f]⟩) = some (some ⟨[], [], [plF f]⟩) := by
    unfold p_R05_Own optC
    simp only
    rw [show ∀ (b : (List MSig) × Nat → Option (Xt ((List MSig) × Nat) (List MSig))), b ([], 0) = some (.out []) → loop b Fu ([], 0) = some [] from fun b hb => loop_at (fun _ => ([], 0)) 0 [] rfl (fun i hi => by omega) hb (by omega)] <;> try rfl
    simp only [Option.bind_some]
    rw [show ∀ (b : (List MCls) × Nat → Option (Xt ((List MCls) × Nat) (List MCls))), b ([], 0) = some (.out []) → loop b Fu ([], 0) = some [] from fun b hb => loop_at (fun _ => ([], 0)) 0 [] rfl (fun i hi => by omega) hb (by omega)] <;> try rfl
    simp only [Option.bind_some]
    rw [loop_push [f] plF (fun i x acc hx ha hi hm => ?_) (fun acc => by simp) (by simp)]
    · rfl
    · obtain rfl : x = f := by simpa using hm
      have hi' : i = 0 := by simpa using hi
      subst hi'
      simp only [hi, decide_true, cond_true, hx, Option.bind_some]
      rw [hbl]
      have : acc = [] := List.eq_nil_of_length_eq_zero ha
      subst this
      rfl
  unfold p_R16_Own
  simp only [hown, Option.bind_some]
  rfl
/-- A value's name. -/
def toF (to : List Int) (v : Int) : Int := bif decide ((0 : Int) ≤ v) && decide (v < ((to.length : Nat) : Int)) then (to[v.toNat]?).getD 0 else v
theorem to_eq (v : Int) (to : List Int) : p_R04_To v to = some (toF to v) := by
  unfold p_R04_To toF
  by_cases h0 : (0 : Int) ≤ v
  · by_cases h1 : v < ((to.length : Nat) : Int)
    · have hl : v.toNat < to.length := by omega
      simp [h0, h1, atI, hl]
    · simp [h0, h1]
  · simp [h0]
theorem named_eq (v : Int) (to : List Int) : p_tidy_named_1 v to = some (toF to v) := to_eq v to
theorem all_eq {l : List Int} (to : List Int) (h : l.length ≤ 400) : p_R04_All l to = some (l.map (toF to)) := by
  unfold p_R04_All
  rw [loop_push l (toF to) (fun i x acc hx ha hi hm => ?_) (fun acc => by simp) (by omega)]
  · rfl
  · simp only [hi, decide_true, cond_true, hx, Option.bind_some, to_eq]
    rw [ck_t (by omega)]
theorem names_eq {l : List Int} (to : List Int) (h : l.length ≤ 400) : p_tidy_end_1 l to = some (l.map (toF to)) := by
  unfold p_tidy_end_1
  simp only [clone_eq h, Option.bind_some]
  rw [loop_setI l (toF to) (fun i x s hx hs hi hm => ?_) (fun s hs => by simp) (by omega)]
  · rfl
  · have hlt : ((i : Nat) : Int) < ((l.length : Nat) : Int) := by omega
    simp only [hlt, decide_true, cond_true, atI_nat, hx, Option.bind_some, named_eq, Int.toNat_natCast, wrap_inc (show i < 9223372036854775807 by omega)]
/-- A step with other names. -/
def reO (to : List Int) (o : MOp) : MOp := ⟨o.K, bif hasB o.K 65 then toF to o.A else o.A, bif hasB o.K 66 then toF to o.B else o.B, bif hasB o.K 67 then toF to o.C else o.C, o.N, o.S, bif hasB o.K 76 then o.L.map (toF to) else o.L, o.Stack⟩
theorem plO_K (o : MOp) : (plO o).K = o.K := rfl
theorem bif_len {α : Type} {b : Bool} {l m : List α} {n : Nat} (hl : l.length ≤ n) (hm : m.length ≤ n) : (bif b then l else m).length ≤ n := by cases b <;> assumption
theorem plO_L {o : MOp} (h : o.L.length ≤ 400) : (plO o).L.length ≤ 400 := bif_len h (by simp)
theorem renR_eq {o : MOp} (to : List Int) (h : o.L.length ≤ 400) : p_R04_Renamed o to = some (reO to (plO o)) := by
  unfold p_R04_Renamed
  simp only [plainR_eq h, Option.bind_some, has_eq _ 65 (by decide), has_eq _ 66 (by decide), has_eq _ 67 (by decide), has_eq _ 76 (by decide), to_eq, all_eq to (plO_L h), bif_some]
  rfl
set_option maxRecDepth 100000 in
theorem idx_fin : ∀ n : Fin 26, ∀ c ∈ ([65, 66, 67] : List Int), (p_strings_IndexByte (fb (n.val : Int)) c).map (fun z => decide ((0 : Int) ≤ z)) = some (hasB (n.val : Int) c) := by decide +kernel
theorem idx_eq (k c : Int) (hc : c ∈ ([65, 66, 67] : List Int)) : ∃ z, p_strings_IndexByte (fb k) c = some z ∧ decide ((0 : Int) ≤ z) = hasB k c := by
  have key : (p_strings_IndexByte (fb k) c).map (fun z => decide ((0 : Int) ≤ z)) = some (hasB k c) := by
    by_cases h : k < 0 ∨ 26 ≤ k
    · rw [hasB_out h, fb_out h]
      simp only [List.mem_cons, List.not_mem_nil, or_false] at hc
      rcases hc with rfl | rfl | rfl <;> rfl
    · obtain ⟨n, rfl⟩ := fin_range h
      exact idx_fin n c hc
  cases hz : p_strings_IndexByte (fb k) c with
  | none => rw [hz] at key; cases key
  | some z => rw [hz] at key; exact ⟨z, rfl, by simpa using key⟩
/-- The places of a step's values, one by one. -/
theorem operands_eq {σ ρ : Type} (K : Int) (n : Nat) (hn : n < 18446744073709551616) (body : σ → Nat → Option (Xt σ ρ)) (g : σ → Nat → σ) (s0 : σ) (Inv : σ → Prop) (hi0 : Inv s0) (h' : ∀ s y, Inv s → y < n + 3 → body s y = some (.go (g s y)) ∧ Inv (g s y)) :
    p_kind_operands_1_i K n body s0 = some (.go ((List.range n).foldl (fun s i => g s (i + 3)) (let s1 := bif hasB K 65 then g s0 0 else s0; let s2 := bif hasB K 66 then g s1 1 else s1; bif hasB K 67 then g s2 2 else s2))) := by
  unfold p_kind_operands_1_i
  obtain ⟨z0, hz0, hh0⟩ := idx_eq K 65 (by decide)
  obtain ⟨z1, hz1, hh1⟩ := idx_eq K 66 (by decide)
  obtain ⟨z2, hz2, hh2⟩ := idx_eq K 67 (by decide)
  simp only [fieldsOf_eq, Option.bind_some]
  have hb : ∀ {b : Bool} {x y : σ}, Inv x → Inv y → Inv (bif b then x else y) := fun {b x y} hx hy => by cases b <;> assumption
  have i1 : Inv (bif hasB K 65 then g s0 0 else s0) := hb (h' _ 0 hi0 (by omega)).2 hi0
  have i2 : Inv (bif hasB K 66 then g (bif hasB K 65 then g s0 0 else s0) 1 else bif hasB K 65 then g s0 0 else s0) := hb (h' _ 1 i1 (by omega)).2 i1
  let st : Nat → σ := fun i => match i with
    | 0 => s0
    | 1 => bif hasB K 65 then g s0 0 else s0
    | 2 => let s1 := bif hasB K 65 then g s0 0 else s0; bif hasB K 66 then g s1 1 else s1
    | _ => let s1 := bif hasB K 65 then g s0 0 else s0; let s2 := bif hasB K 66 then g s1 1 else s1; bif hasB K 67 then g s2 2 else s2
  have i3 : Inv (st 3) := hb (h' _ 2 i2 (by omega)).2 i2
  have hf : ∀ i, i ≤ n → Inv ((List.range i).foldl (fun s i => g s (i + 3)) (st 3)) := fun i => by
    induction i with
    | zero => exact fun _ => i3
    | succ i ih =>
      intro hi
      rw [List.range_succ, List.foldl_append]
      exact (h' _ _ (ih (by omega)) (by omega)).2
  rw [loop_at (s := (0, s0)) (fun i => (i, st i)) 3 (.go (st 3)) rfl (fun i hi => ?_) rfl (by omega)]
  · simp only [Option.bind_some, Xt.on]
    rw [loop_at (s := (0, st 3)) (fun i => (i, (List.range i).foldl (fun s i => g s (i + 3)) (st 3))) n (.go ((List.range n).foldl (fun s i => g s (i + 3)) (st 3))) rfl (fun i hi => ?_) (by simp) hn]
    · rfl
    · simp only [hi, decide_true, cond_true, ck_t, Option.bind_some]
      rw [(h' _ _ (hf i (by omega)) (by omega)).1]
      simp only [Option.bind_some, Xt.on, List.range_succ, List.foldl_append, List.foldl_cons, List.foldl_nil]
  · have hi' : i = 0 ∨ i = 1 ∨ i = 2 := by omega
    rcases hi' with rfl | rfl | rfl
    · have e : (((65 : UInt8).toNat : Nat) : Int) = 65 := rfl
      show (((p_strings_IndexByte (fb K) (((65 : UInt8).toNat : Nat) : Int)).bind fun y => bif decide ((0 : Int) ≤ y) then ((body s0 0).bind fun z => (z.on (fun s => some (Xt.go s)) (fun o => some (Xt.out (Xt.out o))))) else some (Xt.go s0)).bind fun s => s.on (fun (s' : σ) => some (Xt.go ((0 + 1), s'))) (fun o => some (Xt.out (Xt.out o)))) = _
      rw [e, hz0, Option.bind_some, hh0, (h' s0 0 hi0 (by omega)).1]
      cases hb : hasB K 65 <;> simp [Xt.on, st, hb]
    · have e : (((66 : UInt8).toNat : Nat) : Int) = 66 := rfl
      show (((p_strings_IndexByte (fb K) (((66 : UInt8).toNat : Nat) : Int)).bind fun y => bif decide ((0 : Int) ≤ y) then ((body (st 1) 1).bind fun z => (z.on (fun s => some (Xt.go s)) (fun o => some (Xt.out (Xt.out o))))) else some (Xt.go (st 1))).bind fun s => s.on (fun (s' : σ) => some (Xt.go ((1 + 1), s'))) (fun o => some (Xt.out (Xt.out o)))) = _
      rw [e, hz1, Option.bind_some, hh1, (h' (st 1) 1 i1 (by omega)).1]
      cases hb : hasB K 66 <;> simp [Xt.on, st, hb]
    · have e : (((67 : UInt8).toNat : Nat) : Int) = 67 := rfl
      show (((p_strings_IndexByte (fb K) (((67 : UInt8).toNat : Nat) : Int)).bind fun y => bif decide ((0 : Int) ≤ y) then ((body (st 2) 2).bind fun z => (z.on (fun s => some (Xt.go s)) (fun o => some (Xt.out (Xt.out o))))) else some (Xt.go (st 2))).bind fun s => s.on (fun (s' : σ) => some (Xt.go ((2 + 1), s'))) (fun o => some (Xt.out (Xt.out o)))) = _
      rw [e, hz2, Option.bind_some, hh2, (h' (st 2) 2 i2 (by omega)).1]
      cases hb : hasB K 67 <;> simp [Xt.on, st, hb]
end Go.Proofs.YtbebdcpakjfgdaaDoor
