/- A function with other names of its values: program and document come to the same. -/
import Derived.Test.YtbebdcpakjfgdaaDoorGE
namespace Go.Proofs.YtbebdcpakjfgdaaDoor
open Go Go.RowKit

def reE (ret : Int) (to : List Int) (e : MEnd) : MEnd := ⟨e.K, bif decide (e.K = 1) || (decide (e.K = 3) || (decide (e.K = 2) && !(decide (ret = (-1))))) then toF to e.A else e.A, e.To, e.Else, bif decide (e.K = 0) || decide (e.K = 1) then e.L.map (toF to) else e.L, bif decide (e.K = 1) then e.M.map (toF to) else e.M⟩
def reB (ret : Int) (to : List Int) (b : MBlk) : MBlk := ⟨b.Params, b.Ops.map (fun o => reO to (plO o)), reE ret to b.End⟩
theorem plE_sz {e : MEnd} (hL : e.L.length ≤ 400) (hM : e.M.length ≤ 400) : (plE e).L.length ≤ 400 ∧ (plE e).M.length ≤ 400 := ⟨bif_len hL (by simp), bif_len hM (by simp)⟩
theorem plB_sz {b : MBlk} (h : SzB b) : SzB (plB b) where
  p := h.p
  o := by simpa [plB] using h.o
  l := (plE_sz h.l h.m).1
  m := (plE_sz h.l h.m).2
  os := fun o ho => by
    obtain ⟨o', h1, rfl⟩ := List.mem_map.1 ho
    exact plO_L (h.os o' h1)
theorem plF_sz {f : MFun} (h : SzF f) : SzF (plF f) where
  b := by simpa [plF] using h.b
  bs := fun b hb => by
    obtain ⟨b', h1, rfl⟩ := List.mem_map.1 hb
    exact plB_sz (h.bs b' h1)
theorem endRen_eq {ret K A To Else : Int} {L M : List Int} (to : List Int) (hL : L.length ≤ 400) (hM : M.length ≤ 400) : p_tidy_end_t1 ret K A To Else L M to = some (reE ret to ⟨K, A, To, Else, L, M⟩) := by
  unfold p_tidy_end_t1 reE p_tidy_itself
  simp only [named_eq, names_eq to hL, names_eq to hM, Option.bind_some]
  cases decide (K = 0) <;> cases decide (K = 1) <;> cases decide (K = 2) <;> cases decide (K = 3) <;> cases decide (ret = -1) <;> rfl
theorem innerP (to : List Int) (s : List MBlk) (i : Nat) (x : MBlk) (hi : i < s.length) (hx : SzB x) : loop (fun (s21084 : (List MBlk) × Int) => (bif decide (s21084.2 < ((x.Ops.length : Nat) : Int)) then ((s21084.1[i]?).bind fun x21089 => ((x21089.Ops[s21084.2.toNat]?).bind fun x21091 => ((atI x21089.Ops s21084.2).bind fun x21093 => ((p_kind_Renamed x21091 to).bind fun y21095 => some (Xt.go ((s21084.1.set i (⟨x21089.Params, (x21089.Ops.set s21084.2.toNat y21095), x21089.End⟩ : MBlk)), IntKind.i64.wrap (s21084.2 + 1))))))) else some (Xt.out s21084.1))) Fu ((s.set i x), 0) = some (s.set i ⟨x.Params, x.Ops.map (fun o => reO to (plO o)), x.End⟩) := by
  have ho := hx.o
  refine loop_at (fun k => (s.set i ⟨x.Params, (x.Ops.take k).map (fun o => reO to (plO o)) ++ x.Ops.drop k, x.End⟩, (k : Int))) x.Ops.length _ (by simp) (fun k hk => ?_) (by simp) (by omega)
  have hlt : ((k : Nat) : Int) < ((x.Ops.length : Nat) : Int) := by omega
  have hxk : ((x.Ops.take k).map (fun o => reO to (plO o)) ++ x.Ops.drop k)[k]? = some x.Ops[k] := by
    rw [List.getElem?_append_right (by simp; omega)]
    simp [Nat.min_eq_left (Nat.le_of_lt hk)]
  simp only [hlt, decide_true, cond_true, List.getElem?_set_self hi, Option.bind_some, Int.toNat_natCast, hxk, atI_nat, renP_eq to (hx.os _ (List.getElem_mem hk)), List.set_set, wrap_inc (show k < 9223372036854775807 by omega)]
  rw [take_map_succ x.Ops (fun o => reO to (plO o)) hk, drop_set x.Ops _ _ hk (by simp; omega)]
theorem renamedP_eq {f : MFun} (to : List Int) (h : SzF f) : p_tidy_Renamed f to = some ⟨f.Ret, (plF f).Blocks.map (reB f.Ret to)⟩ := by
  have hF := plF_sz h
  unfold p_tidy_Renamed p_tidy_renamed_s1
  simp only [ownP_eq h, Option.bind_some, p_tidy_named]
  rw [loop_setI (plF f).Blocks (reB f.Ret to) (fun i x s hx hs hi hm => ?_) (fun s hs => by simp) (by have := hF.b; omega)]
  · rfl
  · have hlt : ((i : Nat) : Int) < (((plF f).Blocks.length : Nat) : Int) := by omega
    have hb := hF.bs x hm
    have := hF.b
    simp only [hlt, decide_true, cond_true, atI_nat, hx, Option.bind_some, Int.toNat_natCast]
    rw [innerP to s i x (by omega) hb]
    simp only [Option.bind_some, List.getElem?_set_self (show i < s.length by omega), endRen_eq to hb.l hb.m, List.set_set, wrap_inc (show i < 9223372036854775807 by omega)]
    rfl
theorem renamedR_eq {f : MFun} (to : List Int) (h : SzF f) : p_R16_Rename_s1 f to = some ⟨f.Ret, (plF f).Blocks.map (reB f.Ret to)⟩ := by
  have hF := plF_sz h
  unfold p_R16_Rename_s1
  simp only [ownR_eq h, Option.bind_some, p_R16_Name_s1, to_eq]
  rw [loop_set (plF f).Blocks (reB f.Ret to) (fun i x s hx hs hi hm => ?_) (fun s hs => by simp [hs]) (by have := hF.b; omega)]
  · rfl
  · have hb := hF.bs x hm
    have hbo := hb.o
    have := hF.b
    have hi' : i < s.length := by omega
    simp only [hi', decide_true, cond_true, hx, Option.bind_some]
    rw [loop_set x.Ops (fun o => reO to (plO o)) (fun k o s2 ho hs2 hk hm2 => ?_) (fun s2 hs2 => by simp [hs2]) (by omega)]
    · simp only [Option.bind_some, all_eq to hb.l, all_eq to hb.m]
      have e : ∀ (b0 b1 b2 b3 br : Bool), ((((((bif b1 then some true else (bif b3 then some true else (bif b2 then some (!br) else some false)))).bind fun (s6040 : Bool) => (bif s6040 then some (toF to x.End.A) else some x.End.A))).bind fun (s6037 : Int) => (((((bif b0 then some true else some b1)).bind fun (s6053 : Bool) => (bif s6053 then some (x.End.To, List.map (toF to) x.End.L) else some (x.End.To, x.End.L)))).bind fun (s6050 : Int × (List Int)) => (((bif b1 then some (x.End.Else, List.map (toF to) x.End.M) else some (x.End.Else, x.End.M))).bind fun (s6063 : Int × (List Int)) => some (s.set i (⟨x.Params, x.Ops.map (fun o => reO to (plO o)), (⟨x.End.K, s6037, s6050.1, s6063.1, s6050.2, s6063.2⟩ : MEnd)⟩ : MBlk)))))) = some (s.set i (⟨x.Params, x.Ops.map (fun o => reO to (plO o)), (⟨x.End.K, bif b1 || (b3 || (b2 && !br)) then toF to x.End.A else x.End.A, x.End.To, x.End.Else, bif b0 || b1 then x.End.L.map (toF to) else x.End.L, bif b1 then x.End.M.map (toF to) else x.End.M⟩ : MEnd)⟩ : MBlk)) := fun b0 b1 b2 b3 br => by
        cases b0 <;> cases b1 <;> cases b2 <;> cases b3 <;> cases br <;> rfl
      rw [e]
      rfl
    · have hk' : k < s2.length := by omega
      simp only [hk', decide_true, cond_true, ho, Option.bind_some, renR_eq to (hb.os o hm2)]
end Go.Proofs.YtbebdcpakjfgdaaDoor
