import Derived.Test.YtakpikoffbgjfaaHP
namespace Go.Proofs.Ytakpikoffbgjfaa
open Go.RowKit Go.Maps

def fTh (i : Nat) : Th := { sliceT 1 with frame := (i : Int) + 2 }
def fM (n k j : Nat) : HM := ⟨(List.range n).map fTh, (List.range (n + 1 - k)).map (fun i : Nat => (i : Int) + 1) ++ (List.range j).map (fun i : Nat => (n : Int) + 2 + i), (n : Int) + 1 + j, 0, 0, 0⟩
theorem fM_start : M0 0 = fM 0 0 0 := by
  simp [M0, fM, List.range_succ]
  omega
theorem fM_made (k : Nat) : sliceF { fM k 0 0 with last := (fM k 0 0).last + 1, frames := (fM k 0 0).frames ++ [(fM k 0 0).last + 1] } 1 true = (fM (k + 1) 0 0, (k : Int) + 1, 0) := by
  have e1 : (fM k 0 0).frames ++ [(fM k 0 0).last + 1] = (fM (k + 1) 0 0).frames := by
    simp only [fM, List.range_zero, List.map_nil, List.append_nil, Nat.sub_zero]
    rw [List.range_succ (n := k + 1), List.map_append]
    simp
  rw [sliceF, if_neg (by omega), madeF, if_pos rfl]
  rw [e1]
  have e2 : ((fM (k + 1) 0 0).frames).getLastD 0 = (k : Int) + 2 := by
    simp only [fM, List.range_zero, List.map_nil, List.append_nil, Nat.sub_zero]
    rw [List.range_succ (n := k + 1), List.map_append]
    simp
    omega
  have e3 : (fM k 0 0).things ++ [{ sliceT (1 : Int).toNat with frame := (k : Int) + 2 }] = (fM (k + 1) 0 0).things := by
    simp only [fM]
    rw [List.range_succ, List.map_append]
    rfl
  have e4 : (fM k 0 0).last + 1 = (fM (k + 1) 0 0).last := by simp [fM]
  simp only [e2, e3, e4]
  refine Prod.ext rfl (Prod.ext ?_ rfl)
  simp [fM]
theorem fM_left {n k : Nat} (h : k < n) : { fM n k 0 with frames := (fM n k 0).frames.dropLast } = fM n (k + 1) 0 := by
  have : (fM n k 0).frames.dropLast = (fM n (k + 1) 0).frames := by
    simp only [fM, List.range_zero, List.map_nil, List.append_nil]
    rw [show n + 1 - k = (n - k) + 1 by omega, List.range_succ, List.map_append, List.map_singleton, List.dropLast_concat, show n + 1 - (k + 1) = n - k by omega]
  rw [this]; rfl
theorem fM_flen (n k j : Nat) : (fM n k j).frames.length = n + 1 - k + j := by simp [fM]
theorem fM_tlen (n k j : Nat) : (fM n k j).things.length = n := by simp [fM]
theorem fM_again (n k j : Nat) : { fM n k j with last := (fM n k j).last + 1, frames := (fM n k j).frames ++ [(fM n k j).last + 1] } = fM n k (j + 1) := by
  have e1 : (fM n k j).frames ++ [(fM n k j).last + 1] = (fM n k (j + 1)).frames := by
    simp only [fM]
    rw [List.range_succ (n := j), List.map_append, List.append_assoc]
    simp
    omega
  have e2 : (fM n k j).last + 1 = (fM n k (j + 1)).last := by simp [fM]; omega
  rw [e1, e2]; rfl
theorem pair_map {f : Nat → Int} (hf : ∀ i j, i < j → f i < f j) (n : Nat) : ((List.range n).map f).Pairwise (· < ·) := by
  rw [List.pairwise_map]
  exact List.pairwise_lt_range.imp (fun {a b} h => hf a b h)
theorem fM_sorted (n k j : Nat) : (fM n k j).frames.Pairwise (· < ·) := by
  simp only [fM]
  rw [List.pairwise_append]
  refine ⟨pair_map (fun i j h => by omega) _, pair_map (fun i j h => by omega) _, fun a ha b hb => ?_⟩
  simp only [List.mem_map, List.mem_range] at ha hb
  obtain ⟨i, hi, rfl⟩ := ha
  obtain ⟨i2, hi2, rfl⟩ := hb
  omega
theorem fM_val {n k j i : Nat} (hi : i < n) (hk : k ≤ n) : valF (fM n k j) ((i : Int) + 1) 0 = if n - k ≤ i then 5 else 0 := by
  have ht : (fM n k j).things[i]? = some (fTh i) := by simp [fM, hi]
  have hmem : ((i : Int) + 2 ∈ (fM n k j).frames) ↔ i < n - k := by
    simp only [fM, List.mem_append, List.mem_map, List.mem_range]
    constructor
    · rintro (⟨a, ha, e⟩ | ⟨a, ha, e⟩) <;> omega
    · intro h
      exact .inl ⟨i + 1, by omega, by omega⟩
  have hw : whyF (fM n k j) ((i : Int) + 1) false = if n - k ≤ i then 5 else 0 := by
    unfold whyF
    rw [if_neg (by omega), show ((i : Int) + 1 - 1).toNat = i by omega, ht]
    simp only
    rw [if_pos (by rfl)]
    have hf : (fTh i).frame = (i : Int) + 2 := rfl
    rw [hf]
    by_cases h : n - k ≤ i
    · rw [if_pos h, if_pos ⟨by omega, fun e => by have := hmem.1 e; omega⟩]
    · rw [if_neg h, if_neg (fun e => e.2 (hmem.2 (by omega)))]
  unfold valF
  rw [hw]
  by_cases h : n - k ≤ i
  · simp [h]
  · rw [if_neg (by simp [h]), show ((i : Int) + 1 - 1).toNat = i by omega, ht]
    simp only
    have : (fTh i).vals.length = 1 := rfl
    rw [this, if_neg (by omega), if_neg h]
def up1 (k : Nat) : List Int := (List.range k).map fun i : Nat => (i : Int) + 1
theorem up1_succ (k : Nat) : up1 (k + 1) = up1 k ++ [(k : Int) + 1] := by simp [up1, List.range_succ]
theorem up1_len (k : Nat) : (up1 k).length = k := by simp [up1]
theorem up1_get {k i : Nat} (h : i < k) : (up1 k)[i]? = some ((i : Int) + 1) := by simp [up1, h]
/-- A memory and a list of numbers beside it, all of this call. -/
structure Side (w : World) (wr : World) (p : Nat) (M : HM) (lv : Value) (l : List Int) : Prop where
  ex : ∃ F tv fv qs, MemW wr F p M tv fv qs ∧ (∀ b, F b → w.heap.size ≤ b) ∧ ∀ b, lv.ownBlock = some b → ¬ F b
  own : wr.ownsRow w.heap.size 3 1 lv l.length (ints l)
  below : Below w.heap.size w wr
theorem Side.step {w wr w' : World} {p : Nat} {M' : HM} {F F' : Nat → Prop} {tv' fv' lv : Value} {qs' : List TQ} {l : List Int} (hl : wr.ownsRow w.heap.size 3 1 lv l.length (ints l)) (hb : Below w.heap.size w wr)
    (hn : ∀ b, F b → w.heap.size ≤ b) (ha : ∀ b, lv.ownBlock = some b → ¬ F b) (hm : MemW w' F' p M' tv' fv' qs') (hc : Chg F wr w') (hF : ∀ k, F' k → F k ∨ wr.heap.size ≤ k) : Side w w' p M' lv l := by
  have hs := hb.size
  refine ⟨⟨F', tv', fv', qs', hm, fun b h => ?_, fun b h h2 => ?_⟩, own_kept hl (fun k hk => hc.block k (hl.lt k hk).2 (ha k hk)), Chg.newBelow hb hs hc hn⟩
  · rcases hF b h with h | h
    · exact hn b h
    · omega
  · rcases hF b h2 with h3 | h3
    · exact ha b h h3
    · have := (hl.lt b h).2; omega
theorem Side.put {w wr w1 : World} {p n : Nat} {M : HM} {lv lv' : Value} {l : List Int} {x : Int} {o : Obj} (h : Side w wr p M lv l) (hn : l.length + 1 = n) (hap : Ap w.heap.size 3 1 (wr.alloc o) w1 lv lv' n (ints l ++ [I x])) : Side w w1 p M lv' (l ++ [x]) := by
  subst hn
  obtain ⟨⟨F, tv, fv, qs, hm, hn, ha⟩, hl, hb⟩ := h
  have hs := hb.size
  have hC : Chg (fun k => lv.ownBlock = some k) wr w1 := ((Chg.refl _ wr).alloc o).grown hap.grew (fun k e _ => e)
  refine ⟨⟨F, tv, fv, qs, hm.chg hC (fun k hk e => ha k e hk), hn, fun b hb' hF => ?_⟩, by simpa [ints_append, ints] using hap.own, Chg.newBelow hb hs hC (fun k hk => (hl.lt k hk).1)⟩
  rcases hap.lies with e | e
  · rw [e] at hb'; exact ha b hb' hF
  · rw [e] at hb'; cases hb'; have := hm.lt _ hF; simp at this; omega
end Go.Proofs.Ytakpikoffbgjfaa
