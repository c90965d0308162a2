import Derived.Test.YtakpikoffbgjfaaHP
namespace Go.Proofs.Ytakpikoffbgjfaa
open Go.RowKit Go.Maps

/-- A memory and a list of numbers beside it, all of this call. -/
structure SideE (w : World) (wr : World) (p : Nat) (M : HM) (e : Nat) (lv : Value) (l : List Int) : Prop where
  ex : ∃ F tv fv qs, MemW wr F p M tv fv qs ∧ (∀ b, F b → w.heap.size ≤ b) ∧ ∀ b, lv.ownBlock = some b → ¬ F b
  own : wr.ownsRow w.heap.size e 1 lv l.length (l.map (.int .i64))
  below : Below w.heap.size w wr
theorem SideE.step {w wr w' : World} {p e : Nat} {M' : HM} {F F' : Nat → Prop} {tv' fv' lv : Value} {qs' : List TQ} {l : List Int} (hl : wr.ownsRow w.heap.size e 1 lv l.length (l.map (.int .i64))) (hb : Below w.heap.size w wr)
    (hn : ∀ b, F b → w.heap.size ≤ b) (ha : ∀ b, lv.ownBlock = some b → ¬ F b) (hm : MemW w' F' p M' tv' fv' qs') (hc : Chg F wr w') (hF : ∀ k, F' k → F k ∨ wr.heap.size ≤ k) : SideE w w' p M' e lv l := by
  have hs := hb.size
  refine ⟨⟨F', tv', fv', qs', hm, fun b h => ?_, fun b h h2 => ?_⟩, own_kept hl (fun k hk => hc.block k (hl.lt k hk).2 (ha k hk)), Chg.newBelow hb hs hc hn⟩
  · rcases hF b h with h | h
    · exact hn b h
    · omega
  · rcases hF b h2 with h3 | h3
    · exact ha b h h3
    · have := (hl.lt b h).2; omega
theorem SideE.put {w wr w1 : World} {p n e : Nat} {M : HM} {lv lv' : Value} {l : List Int} {x : Int} {o : Obj} (h : SideE w wr p M e lv l) (hn : l.length + 1 = n) (hap : Ap w.heap.size e 1 (wr.alloc o) w1 lv lv' n (l.map (.int .i64) ++ [I x])) : SideE w w1 p M e lv' (l ++ [x]) := by
  subst hn
  obtain ⟨⟨F, tv, fv, qs, hm, hn, ha⟩, hl, hb⟩ := h
  have hs := hb.size
  have hC : Chg (fun k => lv.ownBlock = some k) wr w1 := ((Chg.refl _ wr).alloc o).grown hap.grew (fun k e _ => e)
  refine ⟨⟨F, tv, fv, qs, hm.chg hC (fun k hk e => ha k e hk), hn, fun b hb' hF => ?_⟩, by simpa using hap.own, Chg.newBelow hb hs hC (fun k hk => (hl.lt k hk).1)⟩
  rcases hap.lies with e | e
  · rw [e] at hb'; exact ha b hb' hF
  · rw [e] at hb'; cases hb'; have := hm.lt _ hF; simp at this; omega
theorem SideE.kept {w wr w' : World} {p e : Nat} {M : HM} {lv : Value} {l : List Int} (h : SideE w wr p M e lv l) (hb : Below wr.heap.size wr w') : SideE w w' p M e lv l := by
  obtain ⟨⟨F, tv, fv, qs, hm, hn, ha⟩, hl, hb0⟩ := h
  exact ⟨⟨F, tv, fv, qs, hm.below hb, hn, ha⟩, own_kept hl (fun b hb' => hb.block b (hl.lt b hb').2), below_step hb0 hb hb0.size⟩
/-- A memory of one table, on the heap. -/
def tT (ks : List Int) (u : Int → Int) : Th := ⟨[], true, ks, u, 0⟩
def tM (ks : List Int) (u : Int → Int) : HM := ⟨[tT ks u], [1], 1, 1048576, 8 + 16 * (ks.length : Int), 1⟩
theorem tM_start : madeF (M0 1048576) tableT false = (tM [] (fun _ => 0), 1, 0) := rfl
theorem tM_why (ks : List Int) (u : Int → Int) : whyF (tM ks u) 1 true = 0 ∧ whyF (tM ks u) 1 false = 6 := by
  constructor <;> simp [whyF, tM, tT]
def addK (ks : List Int) (k : Int) : List Int := if k ∈ ks then ks else ks ++ [k]
theorem addK_len (ks : List Int) (k : Int) : (addK ks k).length ≤ ks.length + 1 := by unfold addK; split <;> simp
theorem tM_put {ks : List Int} {u : Int → Int} {k i : Int} (h : ks.length ≤ 1000) : putF (tM ks u) 1 k i = (tM (addK ks k) (fun x => if x = k then i else u x), 0) := by
  have h0 : (tM ks u).things[((1 : Int) - 1).toNat]? = some (tT ks u) := rfl
  have hpt : putT (tT ks u) k i = tT (addK ks k) (fun x => if x = k then i else u x) := rfl
  have hset : (tM ks u).things.set ((1 : Int) - 1).toNat (putT (tT ks u) k i) = [tT (addK ks k) (fun x => if x = k then i else u x)] := rfl
  unfold putF
  rw [if_neg (by rw [(tM_why ks u).1]; simp), h0]
  simp only [hset]
  have hk : (tT ks u).keys = ks := rfl
  have hf : (tT ks u).frame = 0 := rfl
  by_cases hin : k ∈ ks
  · rw [if_pos (by rw [hk]; exact .inl hin)]
    have : addK ks k = ks := if_pos hin
    rw [this]; rfl
  · have hal : addK ks k = ks ++ [k] := if_neg hin
    rw [if_neg (by rw [hk, hf]; simp [hin])]
    have hu : (tM ks u).used = 8 + 16 * (ks.length : Int) := rfl
    have hl : (tM ks u).limit = 1048576 := rfl
    rw [if_pos (by rw [hu, hl]; omega), hal]
    refine Prod.ext ?_ rfl
    simp only [tM, List.length_append, List.length_singleton]
    congr 1
theorem tM_look (ks : List Int) (u : Int → Int) (k : Int) : lookF (tM ks u) 1 k = (u k, 0) := by
  unfold lookF; rw [if_neg (by rw [(tM_why ks u).1]; simp)]; rfl
theorem tM_size (ks : List Int) (u : Int → Int) : sizeF (tM ks u) 1 = ((ks.length : Int), 0) := by
  unfold sizeF; rw [if_neg (by rw [(tM_why ks u).2]; simp), if_neg (by rw [(tM_why ks u).1]; simp)]; rfl
theorem tM_key {ks : List Int} {u : Int → Int} {j : Nat} {v : Int} (h : ks[j]? = some v) : keyF (tM ks u) 1 j = (v, 0) := by
  have hj : j < ks.length := (List.getElem?_eq_some_iff.1 h).1
  have h0 : (tM ks u).things[((1 : Int) - 1).toNat]? = some (tT ks u) := rfl
  have hk : (tT ks u).keys = ks := rfl
  unfold keyF; rw [if_neg (by rw [(tM_why ks u).1]; simp), h0]
  simp only
  rw [hk, if_neg (by omega), Int.toNat_natCast, h]; rfl
theorem tM_nokey (ks : List Int) (u : Int → Int) : keyF (tM ks u) 1 (ks.length : Int) = (0, 2) := by
  have h0 : (tM ks u).things[((1 : Int) - 1).toNat]? = some (tT ks u) := rfl
  have hk : (tT ks u).keys = ks := rfl
  unfold keyF; rw [if_neg (by rw [(tM_why ks u).1]; simp), h0]
  simp only
  rw [hk, if_pos (by omega)]
theorem tM_calm (ks : List Int) (u : Int → Int) (h : ks.length ≤ 1000) : Room (tM ks u) := ⟨by simp [tM]; omega, by simp [tM]; omega, by simp [tM]⟩
end Go.Proofs.Ytakpikoffbgjfaa
