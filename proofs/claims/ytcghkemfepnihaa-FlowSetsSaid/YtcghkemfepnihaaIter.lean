import Derived.RangeFuncFrom
import Derived.RangeFuncBox
import Derived.RangeFuncBound
import Derived.RangeFuncCalls
import Derived.RangeFuncLeaves
import Derived.Shelf.Abstract
import Derived.Shelf.RegionOpen
import Derived.OwnWalkIn
import Derived.TacticsInMore
import Derived.LoopNIn
import Derived.LoopIn
import Derived.Test.YtcghkemfepnihaaLeaf
namespace Go.Proofs.Ytcghkemfepnihaa
open Go.RowKit Go.Shelf
attribute [local go_sem] Oper.semAt_some

/-- Whatever cells there are stay as they are. -/
structure KeepsC (A B : World) : Prop where
  size : A.heap.size ≤ B.heap.size
  same : ∀ (k : Nat) (o : Obj), A.heap[k]? = some o → o.isCells = true → B.heap[k]? = some o
theorem KeepsC.refl (A : World) : KeepsC A A := ⟨Nat.le_refl _, fun _ _ h _ => h⟩
theorem KeepsC.trans {A B C : World} (h : KeepsC A B) (k : KeepsC B C) : KeepsC A C := ⟨Nat.le_trans h.size k.size, fun i o hi ho => k.same i o (h.same i o hi ho) ho⟩
theorem KeepsC.alloc (A : World) (o : Obj) : KeepsC A (A.alloc o) := ⟨by simp, fun k _ h _ => (Below.heap_alloc A o k (Array.getElem?_eq_some_iff.1 h).1).trans h⟩
theorem KeepsC.cell {A B : World} (h : KeepsC A B) {a : Addr} {v : Value} (hc : A.cell? a = some v) : B.cell? a = some v := by
  unfold World.cell? at hc ⊢
  cases hb : A.heap[a.block]? with
  | none => rw [hb] at hc; cases hc
  | some o =>
    rw [hb] at hc
    cases o with
    | cells c t f => rw [h.same _ _ hb rfl]; exact hc
    | _ => cases hc
theorem KeepsC.putObj {w : World} (W : World) (l : Nat) (o o' : Obj) (_ : w.heap.size ≤ l) (h : W.heap[l]? = some o) (hc : o.isCells = false) (_ : o.isWalk = false) : KeepsC W (W.putObj l o') := by
  refine ⟨(grownBy_putObj' W l o').size, fun k o1 hk ho => ?_⟩
  have hne : k ≠ l := fun e => by subst e; rw [h] at hk; cases hk; rw [hc] at ho; cases ho
  rw [(grownBy_putObj' W l o').block k (Array.getElem?_eq_some_iff.1 hk).1 (fun e => hne (by cases e; rfl))]
  exact hk
theorem KeepsC.of_below {A B : World} (h : Below A.heap.size A B) : KeepsC A B := ⟨h.size, fun k _ hk _ => (h.block k (Array.getElem?_eq_some_iff.1 hk).1).trans hk⟩

def flatN (E : List (Int × Int)) : List Int := E.flatMap fun p => [p.1, p.2]
theorem flatN_snoc {E : List (Int × Int)} {k : Nat} (h : k < E.length) : flatN (E.take (k + 1)) = (flatN (E.take k) ++ [E[k].1]) ++ [E[k].2] := by
  rw [flatN, List.take_succ_eq_append_getElem h, List.flatMap_append]; simp [flatN]
theorem flatN_length (E : List (Int × Int)) : (flatN E).length = E.length * 2 := by
  induction E with
  | nil => rfl
  | cons x l ih => simp [flatN, List.flatMap_cons] at *; omega
theorem flatN_take (E : List (Int × Int)) (k : Nat) : flatN (E.take k) <+: flatN E := by
  refine ⟨flatN (E.drop k), ?_⟩
  rw [flatN, flatN, ← List.flatMap_append, List.take_append_drop]; rfl
theorem take_snoc {α : Type} {l : List α} {k : Nat} (h : k < l.length) : l.take (k + 1) = l.take k ++ [l[k]] := List.take_succ_eq_append_getElem h

set_option maxRecDepth 100000 in
set_option maxHeartbeats 4000000 in
theorem named1_in (F : Fence) (n : Nat) (h32 : F.fn 32) (hro : F.round = none) (hn : 1 ≤ n) (l b1 b2 : Nat) (v1 v2 : Value) (E : List (Int × Int)) (L : List Int) (J Jx : List Int → World → Prop)
    (W : World) (hJ : AbidesFrom W.heap.size J)
    (hY : ∀ pre x W, J pre W → pre.length < (flatN E ++ L).length → YieldAt F (n - 1) Try.prog l #[I x] W fun e W' =>
      (e = .returned (.bool true) ∧ J (pre ++ [x]) W' ∧ KeepsC W W') ∨ (e = .returned (.bool false) ∧ Jx (pre ++ [x]) W'))
    (hc1 : W.cell? ⟨b1, 0, none⟩ = some v1) (hc2 : W.cell? ⟨b2, 0, none⟩ = some v2) (h1 : Rd W v1 E.length (pairs E)) (h2 : Rd W v2 L.length (ints L)) (h0 : J [] W) :
    CallsIn F n Try.prog 32 #[.func (.yield l) #[] #[], .pointer (some ⟨b1, 0, none⟩), .pointer (some ⟨b2, 0, none⟩)] W fun e W' => (∃ v, e = .returned v) ∧
      ((∃ ys, ys = flatN E ++ L ∧ J ys W') ∨ (∃ pre, pre <+: flatN E ++ L ∧ Jx pre W')) := by
  obtain ⟨A1, p1, rfl, hm1⟩ := h1.form
  obtain ⟨A2, p2, rfl, hm2⟩ := h2.form
  have hx := Lib.hid h1
  have hy' := Lib.hid h2
  have HC2 := Lib.hid hc2
  clear h1 h2 hc2
  refine callsIn_of_wp Try.func32 rfl h32 ?_ hro
  simp only [Try.ntmps32, List.size_toArray, List.length_cons, List.length_nil, Nat.reduceAdd, Nat.reduceSub, Array.replicate_succ, Array.replicate_zero, List.push_toArray, List.append_toArray, List.nil_append, List.cons_append]
  gi_wp2
  gi_loopw [10] (fun i wr => ∃ k : Nat, k ≤ E.length ∧ i = .int .i64 k ∧ J (flatN (E.take k)) wr ∧ KeepsC W wr) (fun i _ => E.length - (intOf i).toNat)
  case atStart => exact ⟨0, Nat.zero_le _, rfl, by simpa [flatN] using h0, KeepsC.refl _⟩
  case round =>
    obtain ⟨k, hk, rfl, hJs, hK⟩ := hrel
    by_cases hlt : k < E.length
    · obtain ⟨c1, o1, _, e1, _, hb1, g1⟩ := hx.out.elem (by simp; omega)
      cases e1
      have f0 : wr.cell? ⟨c1, o1 + k * 2, none⟩ = some (I E[k].1) := hK.cell (g1 _ _ (pairs_at0 E k hlt))
      have f1 : wr.cell? ⟨c1, o1 + k * 2 + 1, none⟩ = some (I E[k].2) := hK.cell (by rw [Nat.add_assoc]; exact g1 _ _ (pairs_at1 E k hlt))
      clear g1
      have hJ1 : J (flatN (E.take k)) (wr.alloc (.cells #[I E[k].1, I E[k].2] 47)) := hJ _ _ _ none hJs (World.grownBy_alloc _ _ none) (fun r e => by cases e)
      have hl1 : (flatN (E.take k)).length < (flatN E ++ L).length := by rw [List.length_append, flatN_length, flatN_length]; simp; omega
      have hb1' : (wr.alloc (.cells #[I E[k].1, I E[k].2] 47)).cell? ⟨wr.heap.size, 1, none⟩ = some (I E[k].2) := by rw [World.cell?_alloc_at _ _ _ _ rfl]; rfl
      have HB1 := Lib.hid hb1'
      have HS := Lib.hid (flatN_snoc hlt)
      clear hb1'
      obtain ⟨fn, tmps, assign, body, hy, hR⟩ := hY _ E[k].1 _ hJ1 hl1
      gi_wp2
      refine hR.mono ?_
      rintro e W3 (⟨rfl, hJ3, hk3⟩ | ⟨rfl, hJx3⟩)
      · have hl2 : (flatN (E.take k) ++ [E[k].1]).length < (flatN E ++ L).length := by rw [List.length_append, List.length_append, flatN_length, flatN_length]; simp; omega
        have f3 : W3.cell? ⟨wr.heap.size, 1, none⟩ = some (I E[k].2) := hk3.cell HB1.out
        have hK3 : KeepsC W W3 := (hK.trans (KeepsC.alloc _ _)).trans hk3
        obtain ⟨fn, tmps, assign, body, hy, hR⟩ := hY _ E[k].2 _ hJ3 hl2
        gi_wp2
        refine hR.mono ?_
        rintro e W4 (⟨rfl, hJ4, hk4⟩ | ⟨rfl, hJx4⟩)
        · gi_wp2
          go_roundw
          case rel => exact ⟨k + 1, by omega, by go_num, by rw [HS.out]; exact hJ4, hK3.trans hk4⟩
          case measure => simp [intOf]; omega
        · gi_wp2
          refine bodyPost_ret (results_none rfl _ _ _) rfl ?_
          exact ⟨⟨_, rfl⟩, .inr ⟨_, by rw [← HS.out]; exact List.IsPrefix.trans (flatN_take E (k + 1)) (List.prefix_append _ _), hJx4⟩⟩
      · gi_wp2
        refine ⟨fun _ h => (by cases h), ?_⟩
        gi_wp2
        refine bodyPost_ret (results_none rfl _ _ _) rfl ?_
        exact ⟨⟨_, rfl⟩, .inr ⟨_, List.IsPrefix.trans (List.IsPrefix.trans ⟨[E[k].2], by rw [← HS.out]⟩ (flatN_take E (k + 1))) (List.prefix_append _ _), hJx3⟩⟩
    · have hke : flatN (E.take k) = flatN E := by rw [List.take_of_length_le (by omega)]
      rw [hke] at hJs
      have g2 : wr.cell? ⟨b2, 0, none⟩ = some (Value.slice A2 L.length p2) := hK.cell HC2.out
      clear hke
      gi_wp2
      gi_loopw [29] (fun i wr => ∃ k : Nat, k ≤ L.length ∧ i = .int .i64 k ∧ J (flatN E ++ L.take k) wr ∧ KeepsC W wr) (fun i _ => L.length - (intOf i).toNat)
      case atStart => exact ⟨0, Nat.zero_le _, rfl, by simpa using hJs, hK⟩
      case round =>
        clear hJs hK hk hlt g2
        obtain ⟨k, hk, rfl, hJs, hK⟩ := hrel
        by_cases hlt : k < L.length
        · obtain ⟨c1, o1, _, e1, _, hb1, g1⟩ := hy'.out.elem (by simp; omega)
          cases e1
          have f0 : wr.cell? ⟨c1, o1 + k, none⟩ = some (I L[k]) := hK.cell (g1 _ _ (ints_at L k hlt))
          clear g1
          have hl1 : (flatN E ++ L.take k).length < (flatN E ++ L).length := by simp; omega
          have HS := Lib.hid (take_snoc hlt)
          obtain ⟨fn, tmps, assign, body, hy, hR⟩ := hY _ L[k] _ hJs hl1
          gi_wp2
          refine hR.mono ?_
          rintro e W3 (⟨rfl, hJ3, hk3⟩ | ⟨rfl, hJx3⟩)
          · gi_wp2
            go_roundw
            case rel => exact ⟨k + 1, by omega, by go_num, by rw [HS.out, ← List.append_assoc]; exact hJ3, hK.trans hk3⟩
            case measure => simp [intOf]; omega
          · gi_wp2
            refine bodyPost_ret (results_none rfl _ _ _) rfl ?_
            exact ⟨⟨_, rfl⟩, .inr ⟨_, by rw [List.append_assoc, ← HS.out]; exact (List.prefix_append_right_inj _).2 (List.take_prefix _ _), hJx3⟩⟩
        · have hke : L.take k = L := List.take_of_length_le (by omega)
          rw [hke] at hJs
          gi_wp2
          go_end0
          exact ⟨⟨_, rfl⟩, .inl ⟨_, rfl, hJs⟩⟩

theorem named_stops (F : Fence) (n : Nat) (h32 : F.fn 32) (hro : F.round = none) (hn : 1 ≤ n) (b1 b2 : Nat) (v1 v2 : Value) (E : List (Int × Int)) (L : List Int) (w : World)
    (hc1 : w.cell? ⟨b1, 0, none⟩ = some v1) (hc2 : w.cell? ⟨b2, 0, none⟩ = some v2) (h1 : Rd w v1 E.length (pairs E)) (h2 : Rd w v2 L.length (ints L)) :
    SeqStopsK F n Try.prog 32 #[.pointer (some ⟨b1, 0, none⟩), .pointer (some ⟨b2, 0, none⟩)] (fun x : Int => #[I x]) KeepsC (fun ys => ys = flatN E ++ L) (fun pre => pre <+: flatN E ++ L) (flatN E ++ L).length w := fun l J Jx W hW hJ _ hY h0 =>
  named1_in F n h32 hro hn l b1 b2 v1 v2 E L J Jx W hJ hY ((hW.cell (p := ⟨b1, 0, none⟩) (World.block_lt_of_cell? _ _ hc1)).trans hc1) ((hW.cell (p := ⟨b2, 0, none⟩) (World.block_lt_of_cell? _ _ hc2)).trans hc2) (h1.below hW) (h2.below hW) h0

/-- named hands back the iterator over copies of its arguments' headers. -/
theorem named_any (w : World) (v1 v2 : Value) (h1 : ∃ A n c, v1 = .slice A n c) (h2 : ∃ A n c, v2 = .slice A n c) :
    Calls Try.prog 23 #[v1, v2] w fun e w' => e = .returned (.func (.func 32) #[] #[.pointer (some ⟨w.heap.size, 0, none⟩), .pointer (some ⟨w.heap.size + 1, 0, none⟩)]) ∧ w' = (w.alloc (.cells #[v1] 24)).alloc (.cells #[v2] 26) := by
  obtain ⟨A, n, c, rfl⟩ := h1
  obtain ⟨A', n', c', rfl⟩ := h2
  have hmf : ∀ (fn : Fn) (first cap : Array Value) (w : World), (Instr.makeFunc fn first cap).run Try.prog w = .ok (.func fn first cap) w := fun _ _ _ _ => rfl
  go_enter Try.func23, Try.ntmps23
  go_wp2
  go_ret
  exact ⟨rfl, rfl⟩

end Go.Proofs.Ytcghkemfepnihaa
