/- Small words for slices that are read and slices that a call makes, over any program. -/
import Derived.WalkKit
import Derived.ProofKit
import Derived.Deep.AppendLies
import Derived.Maps.AppendAt
import Derived.Laws.AppendOwnNone
import Derived.Laws.OwnMore
import Derived.Laws.MakeOwn
import Derived.OneCell
import Derived.Deep.QuietTactic
import Derived.BigQuiet
import Derived.StillTailTactics
namespace Go.Proofs.YtbebdcpakjfgdaaDoor
open Go.RowKit

/-! ### tests in the walk's own spelling -/
theorem ne_t {a b : Int} (h : ¬ a = b) : (a != b) = true := bne_iff_ne.2 h
theorem ne_f {a b : Int} (h : a = b) : (a != b) = false := by simp [h]
theorem eq_t {a b : Int} (h : a = b) : (a == b) = true := beq_iff_eq.2 h
theorem eq_f {a b : Int} (h : ¬ a = b) : (a == b) = false := beq_eq_false_iff_ne.2 h
theorem de_t {p : Prop} [Decidable p] (h : p) : decide p = true := decide_eq_true h
theorem de_f {p : Prop} [Decidable p] (h : ¬ p) : decide p = false := decide_eq_false h
theorem ret_int {k : IntKind} {a b : Int} (h : a = b) : Ending.returned (.int k a) = .returned (.int k b) := by rw [h]
theorem ret_bool {a b : Bool} (h : a = b) : Ending.returned (.bool a) = .returned (.bool b) := by rw [h]

/-! ### lists of cells -/
abbrev I (n : Int) : Value := .int .i64 n
def ints (xs : List Int) : List Value := xs.map I
def bools (xs : List Bool) : List Value := xs.map .bool
def u8s (xs : List Int) : List Value := xs.map (.int .u8)
def pairs (xs : List (Int × Int)) : List Value := xs.flatMap fun p => [I p.1, I p.2]
def pairs8 (xs : List (Int × Int)) : List Value := xs.flatMap fun p => [.int .u8 p.1, .int .u8 p.2]
@[simp] theorem ints_length (xs : List Int) : (ints xs).length = xs.length := by simp [ints]
@[simp] theorem bools_length (xs : List Bool) : (bools xs).length = xs.length := by simp [bools]
@[simp] theorem u8s_length (xs : List Int) : (u8s xs).length = xs.length := by simp [u8s]
@[simp] theorem pairs_length (xs : List (Int × Int)) : (pairs xs).length = xs.length * 2 := by
  induction xs with
  | nil => rfl
  | cons x l ih => simp only [pairs, List.flatMap_cons] at *; simp only [List.length_append, List.length_cons, ih, List.length_nil]; omega
@[simp] theorem pairs8_length (xs : List (Int × Int)) : (pairs8 xs).length = xs.length * 2 := by
  induction xs with
  | nil => rfl
  | cons x l ih => simp only [pairs8, List.flatMap_cons] at *; simp only [List.length_append, List.length_cons, ih, List.length_nil]; omega
theorem ints_append (xs ys : List Int) : ints (xs ++ ys) = ints xs ++ ints ys := by simp [ints]
theorem bools_append (xs ys : List Bool) : bools (xs ++ ys) = bools xs ++ bools ys := by simp [bools]
theorem pairs_append (xs ys : List (Int × Int)) : pairs (xs ++ ys) = pairs xs ++ pairs ys := by simp [pairs]
theorem ints_at (xs : List Int) (i : Nat) (h : i < xs.length) : (ints xs)[i]? = some (I xs[i]) := by simp [ints, h]
theorem bools_at (xs : List Bool) (i : Nat) (h : i < xs.length) : (bools xs)[i]? = some (.bool xs[i]) := by simp [bools, h]
theorem u8s_at (xs : List Int) (i : Nat) (h : i < xs.length) : (u8s xs)[i]? = some (.int .u8 xs[i]) := by simp [u8s, h]
theorem pairs_at0 (xs : List (Int × Int)) : ∀ (i : Nat) (h : i < xs.length), (pairs xs)[i * 2]? = some (I xs[i].1) := by
  induction xs with
  | nil => intro i h; simp at h
  | cons x l ih =>
    intro i h
    cases i with
    | zero => simp [pairs]
    | succ i => rw [show (i + 1) * 2 = i * 2 + 1 + 1 by omega]; simp only [pairs, List.flatMap_cons, List.cons_append, List.nil_append, List.getElem?_cons_succ]; exact ih i (by simpa using h)
theorem pairs_at1 (xs : List (Int × Int)) : ∀ (i : Nat) (h : i < xs.length), (pairs xs)[i * 2 + 1]? = some (I xs[i].2) := by
  induction xs with
  | nil => intro i h; simp at h
  | cons x l ih =>
    intro i h
    cases i with
    | zero => simp [pairs]
    | succ i => rw [show (i + 1) * 2 + 1 = i * 2 + 1 + 1 + 1 by omega]; simp only [pairs, List.flatMap_cons, List.cons_append, List.nil_append, List.getElem?_cons_succ]; exact ih i (by simpa using h)
theorem pairs8_at0 (xs : List (Int × Int)) : ∀ (i : Nat) (h : i < xs.length), (pairs8 xs)[i * 2]? = some (.int .u8 xs[i].1) := by
  induction xs with
  | nil => intro i h; simp at h
  | cons x l ih =>
    intro i h
    cases i with
    | zero => simp [pairs8]
    | succ i => rw [show (i + 1) * 2 = i * 2 + 1 + 1 by omega]; simp only [pairs8, List.flatMap_cons, List.cons_append, List.nil_append, List.getElem?_cons_succ]; exact ih i (by simpa using h)
theorem pairs8_at1 (xs : List (Int × Int)) : ∀ (i : Nat) (h : i < xs.length), (pairs8 xs)[i * 2 + 1]? = some (.int .u8 xs[i].2) := by
  induction xs with
  | nil => intro i h; simp at h
  | cons x l ih =>
    intro i h
    cases i with
    | zero => simp [pairs8]
    | succ i => rw [show (i + 1) * 2 + 1 = i * 2 + 1 + 1 + 1 by omega]; simp only [pairs8, List.flatMap_cons, List.cons_append, List.nil_append, List.getElem?_cons_succ]; exact ih i (by simpa using h)
theorem ints_one (xs : List Int) : ∀ c ∈ ints xs, c.oneCell' = true := by intro c h; obtain ⟨x, _, rfl⟩ := List.mem_map.1 h; rfl
theorem bools_one (xs : List Bool) : ∀ c ∈ bools xs, c.oneCell' = true := by intro c h; obtain ⟨x, _, rfl⟩ := List.mem_map.1 h; rfl
theorem pairs_one (xs : List (Int × Int)) : ∀ c ∈ pairs xs, c.oneCell' = true := by
  intro c h; obtain ⟨x, _, h⟩ := List.mem_flatMap.1 h; simp at h; rcases h with rfl | rfl <;> rfl

/-! ### a slice that is read -/
/-- The slice v has n elements; its cells are cs (nil, empty and others alike). -/
structure Rd (w : World) (v : Value) (n : Nat) (cs : List Value) : Prop where
  out : ∃ A cap, v = .slice A n cap ∧ (n ≤ cap ∧ cap ≤ 9223372036854775807) ∧ (0 < cs.length → ∃ b off, A = some ⟨b, off, none⟩ ∧ b < w.heap.size ∧ ∀ j u, cs[j]? = some u → w.cell? ⟨b, off + j, none⟩ = some u)
theorem Rd.below {w w' : World} {v : Value} {n : Nat} {cs : List Value} (h : Rd w v n cs) (hb : Below w.heap.size w w') : Rd w' v n cs := by
  obtain ⟨A, cap, rfl, hm, h⟩ := h.out
  exact ⟨A, cap, rfl, hm, fun hl => by
    obtain ⟨b, off, rfl, hlt, hc⟩ := h hl
    exact ⟨b, off, rfl, Nat.lt_of_lt_of_le hlt hb.size, fun j u hu => (hb.cell (p := ⟨b, off + j, none⟩) hlt).trans (hc j u hu)⟩⟩
theorem below_all {w w' : World} (h : Below w.heap.size w w') {B : Nat} (hB : B ≤ w.heap.size) : Below B w w' := h.mono hB
theorem below_step {B : Nat} {a b c : World} (h : Below B a b) (k : Below b.heap.size b c) (hB : B ≤ b.heap.size) : Below B a c := h.trans (k.mono hB)
theorem below_alloc (w : World) (o : Obj) : Below w.heap.size w (w.alloc o) := (Below.refl _ _).alloc (Nat.le_refl _) o
theorem below_drewN {B : Nat} {w W : World} (h : Below B w W) (n : Nat) : Below B w (W.drewN n) := ⟨h.os, h.tape, h.output, h.size, h.block⟩
theorem Rd.alloc {w : World} {v : Value} {n : Nat} {cs : List Value} (h : Rd w v n cs) (o : Obj) : Rd (w.alloc o) v n cs := h.below (below_alloc w o)
theorem Rd.drew {w : World} {v : Value} {n : Nat} {cs : List Value} (h : Rd w v n cs) : Rd w.drew v n cs := h.below (Below.refl _ _).drew
theorem Rd.drewN {w : World} {v : Value} {n : Nat} {cs : List Value} (h : Rd w v n cs) (k : Nat) : Rd (w.drewN k) v n cs := h.below (below_drewN (Below.refl _ _) k)
theorem add_plain' (b off j : Nat) : (⟨b, off, none⟩ : Addr).add j = ⟨b, off + j, none⟩ := by unfold Addr.add; split <;> simp_all
theorem Rd.of_own {w : World} {base : Nat} {e : TypeId} {sz : Nat} {v : Value} {n : Nat} {cs : List Value} (h : w.ownsRow base e sz v n cs) : Rd w v n cs := by
  rcases h.2 with ⟨rfl, rfl⟩ | ⟨g, cap, cur, rfl, hb, hh, hn, hm, hs, ht⟩
  · exact ⟨none, 0, rfl, ⟨by omega, by omega⟩, fun hl => by have := h.1; simp at this; simp [this] at hl⟩
  · refine ⟨some ⟨g, 0, none⟩, cap, rfl, ⟨hn, by simp only [maxLen] at hm; omega⟩, fun _ => ⟨g, 0, rfl, (Array.getElem?_eq_some_iff.1 hh).1, fun j u hu => ?_⟩⟩
    have := h.cells (g := g) rfl j u hu
    rwa [add_plain'] at this
theorem Rd.nil (w : World) : Rd w (.slice none 0 0) 0 [] := ⟨none, 0, rfl, ⟨by omega, by omega⟩, fun h => by simp at h⟩
/-- A block that has just been laid. -/
theorem Rd.fresh (w : World) (c : Array Value) (t : TypeId) (n cap : Nat) (hn : n ≤ cap) (hc : cap ≤ 9223372036854775807) : Rd (w.alloc (.cells c t)) (.slice (some ⟨w.heap.size, 0, none⟩) n cap) n c.toList :=
  ⟨_, cap, rfl, ⟨hn, hc⟩, fun _ => ⟨_, 0, rfl, by simp, fun j u hu => by rw [World.cell?_alloc_at _ _ _ _ rfl]; simpa using hu⟩⟩
/-- Where there is an element. -/
theorem Rd.elem {w : World} {v : Value} {n : Nat} {cs : List Value} (h : Rd w v n cs) (hl : 0 < cs.length) :
    ∃ b off cap, v = .slice (some ⟨b, off, none⟩) n cap ∧ (n ≤ cap ∧ cap ≤ 9223372036854775807) ∧ b < w.heap.size ∧ ∀ j u, cs[j]? = some u → w.cell? ⟨b, off + j, none⟩ = some u := by
  obtain ⟨A, cap, rfl, hm, h⟩ := h.out
  obtain ⟨b, off, rfl, hb, hc⟩ := h hl
  exact ⟨b, off, cap, rfl, hm, hb, hc⟩
theorem Rd.form {w : World} {v : Value} {n : Nat} {cs : List Value} (h : Rd w v n cs) : ∃ (A : Option Addr) (cap : Nat), v = .slice A n cap ∧ n ≤ cap ∧ cap ≤ 9223372036854775807 := by
  obtain ⟨A, cap, rfl, hm, _⟩ := h.out
  exact ⟨A, cap, rfl, hm⟩
/-- The first ones alone. -/
theorem Rd.first {w : World} {A : Option Addr} {n cap : Nat} {cs : List Value} (h : Rd w (.slice A n cap) n cs) (k : Nat) (hk : k ≤ n) (ds : List Value) (hd : ∀ (j : Nat) (u : Value), ds[j]? = some u → cs[j]? = some u) : Rd w (.slice A k cap) k ds := by
  obtain ⟨A', cap', e, hm, hc⟩ := h.out
  cases e
  refine ⟨A, cap, rfl, ⟨by omega, hm.2⟩, fun hl => ?_⟩
  have h0 := hd 0 (ds[0]'hl) (List.getElem?_eq_getElem hl)
  have hl' : 0 < cs.length := by
    rcases Nat.eq_zero_or_pos cs.length with e | e
    · rw [List.eq_nil_of_length_eq_zero e] at h0; simp at h0
    · exact e
  obtain ⟨b, off, e, hb, hx⟩ := hc hl'
  exact ⟨b, off, e, hb, fun j u hu => hx j u (hd j u hu)⟩

/-! ### element types -/
/-- t is the type of slices of e; an e has so many cells and bytes. -/
structure ElemT (P : Program) (t e sz by_ : Nat) : Prop where
  ht : P.underlying t = some (.slice e)
  hi : ∃ i z, P.info? e = some i ∧ i.zero = some z ∧ i.size = sz ∧ i.bytes = by_ ∧ z.cells.size = sz
  hs : 0 < sz
theorem ElemT.mk' {P : Program} {t e sz by_ : Nat} {z : Value} (ht : P.underlying t = some (.slice e)) (hi : (P.info? e).map (fun i => (i.zero, i.size, i.bytes)) = some (some z, sz, by_)) (hz : z.cells.size = sz) (hs : 0 < sz) : ElemT P t e sz by_ := by
  obtain ⟨i0, hi, h1, h2, h3⟩ := info_parts hi
  exact ⟨ht, ⟨i0, z, hi, h1, h2, h3, hz⟩, hs⟩

/-- What an append to a slice of the call's own leaves. -/
structure Ap (base e sz : Nat) (w w' : World) (v v' : Value) (n : Nat) (xs : List Value) : Prop where
  own : w'.ownsRow base e sz v' n xs
  grew : w.grownBy w' v.ownBlock
  lies : v'.ownBlock = v.ownBlock ∨ v'.ownBlock = some w.heap.size

theorem wpl_append {P : Program} {w : World} {ops : Array Oper} {rest : List Oper} {o : Oper} {a : Act} {Q : Exit → Act → World → Prop} (hgd : o.guard = none) (s x : Operand) (t : TypeId)
    (ho : o.op = .call { callee := .builtin .append, args := #[s, x], argTypes := #[t, t] })
    {e sz by_ : Nat} (E : ElemT P t e sz by_) {base : Nat} {v : Value} {n : Nat} {xs : List Value} (hs : a.eval s = v) (hown : w.ownsRow base e sz v n xs)
    {u : Value} {m : Nat} {news : List Value} (hx : a.eval x = u) (hr : Rd w u m news) (hl : news.length = m * sz) (h1 : ∀ c ∈ news, c.oneCell' = true)
    (hb : (n + m) * by_ ≤ 140737488355328) (hn : n + m ≤ maxLen) (hbase : base ≤ w.heap.size)
    (h : ∀ v' w', Ap base e sz w w' v v' (n + m) (xs ++ news) → wpList P ops Q rest (a.put o.dst v') w') : wpList P ops Q (o :: rest) a w := by
  obtain ⟨ht, ⟨i, z, hi, hz, hsz, hby, hzs⟩, hpos⟩ := E
  obtain ⟨A, cap, rfl, hm, hc⟩ := hr.out
  rcases A with _ | ad
  · have hl0 : news = [] := by
      rcases Nat.eq_zero_or_pos news.length with h0 | h0
      · exact List.eq_nil_of_length_eq_zero h0
      · obtain ⟨b, off, hb, _⟩ := hc h0; cases hb
    subst hl0
    have hm0 : m = 0 := by
      rcases Nat.eq_zero_or_pos m with h0 | h0
      · exact h0
      · have := Nat.mul_pos h0 hpos
        simp at hl
        omega
    subst hm0
    refine wpList_plain hgd fun K hK => ?_
    have hrun : ∀ c, (Builtin.append_ #[t, t] o.type #[v, .slice none 0 c]).run P w = .ok v w := by
      intro c
      have hd := run_append_owned_none (P := P) (w := w) base t o.type e i sz ht hi v n xs hown
      rcases hown.2 with ⟨rfl, rfl⟩ | ⟨g, cp, cur, rfl, hbg, hg, hnc, hcm, hcs, htk⟩
      · simp [Builtin.append_, run_underlying ht, sizeOf, typeInfo, hi, Builtin.lenOf, Builtin.firstCells]
      · simp [Builtin.append_, run_underlying ht, sizeOf, typeInfo, hi, Builtin.lenOf, Builtin.firstCells, hnc, storeCells] at hd ⊢
    unfold Oper.wp
    simp [execOp, ho, resolve, invoke, builtin, hs, hx, hrun, Result.andThen]
    refine hK _ _ (h v w ⟨?_, ⟨rfl, rfl, rfl, Nat.le_refl _, fun _ _ _ => rfl⟩, .inl rfl⟩)
    simpa using hown
  · by_cases h0 : 0 < news.length
    · obtain ⟨b, off, e1, hlt, hcell⟩ := hc h0
      cases e1
      exact wpList_append_own_at w hgd s x t ho base e i z sz by_ ht hi hz hsz hby hzs hpos v n xs hs hown ⟨b, off, none⟩ m cap news hx hl
        (fun j u hu => by rw [add_plain']; exact hcell j u hu) h1 hn hb hbase (fun v' w' g1 g2 g3 g4 => h v' w' ⟨g1, g2, g4⟩)
    · have hnil : news = [] := List.eq_nil_of_length_eq_zero (by omega)
      subst hnil
      exact wpList_append_own_at w hgd s x t ho base e i z sz by_ ht hi hz hsz hby hzs hpos v n xs hs hown ad m cap [] hx hl
        (fun j u hu => by simp at hu) (by simp) hn hb hbase (fun v' w' g1 g2 g3 g4 => h v' w' ⟨g1, g2, g4⟩)

/-- The same; something is appended: the new value is written out. -/
theorem wpl_append1 {P : Program} {w : World} {ops : Array Oper} {rest : List Oper} {o : Oper} {a : Act} {Q : Exit → Act → World → Prop} (hgd : o.guard = none) (s x : Operand) (t : TypeId)
    (ho : o.op = .call { callee := .builtin .append, args := #[s, x], argTypes := #[t, t] })
    {e sz by_ : Nat} (E : ElemT P t e sz by_) {base : Nat} {v : Value} {n : Nat} {xs : List Value} (hs : a.eval s = v) (hown : w.ownsRow base e sz v n xs)
    {u : Value} {m : Nat} {news : List Value} (hx : a.eval x = u) (hr : Rd w u m news) (hl : news.length = m * sz) (h1 : ∀ c ∈ news, c.oneCell' = true) (hm : 0 < m)
    (hb : (n + m) * by_ ≤ 140737488355328) (hn : n + m ≤ maxLen) (hbase : base ≤ w.heap.size)
    (h : ∀ g cap w', Ap base e sz w w' v (.slice (some ⟨g, 0, none⟩) (n + m) cap) (n + m) (xs ++ news) → wpList P ops Q rest (a.put o.dst (.slice (some ⟨g, 0, none⟩) (n + m) cap)) w') : wpList P ops Q (o :: rest) a w := by
  obtain ⟨ht, ⟨i, z, hi, hz, hsz, hby, hzs⟩, hpos⟩ := E
  obtain ⟨A, cap, rfl, hm', hc⟩ := hr.out
  have h0 : 0 < news.length := by rw [hl]; exact Nat.mul_pos hm hpos
  obtain ⟨b, off, e1, hlt, hcell⟩ := hc h0
  subst e1
  exact wpList_append_lies w hgd s x t ho base e i z sz by_ ht hi hz hsz hby hzs hpos v n xs hs hown ⟨b, off, none⟩ m cap news hx hl
    (fun j u hu => by rw [add_plain']; exact hcell j u hu) h1 hm hn hb hbase w.heap.size rfl
    (fun g cap w' g1 g2 g3 g4 => h g cap w' ⟨g1, g2, g3.elim (fun e => .inl e.symm) (fun e => .inr (congrArg some e))⟩)

/-- The same, one operation of a region that draws its order; something is appended. -/
theorem step_append {P : Program} {w : World} {ops : Array Oper} {o : Oper} {a : Act} {K : Act → World → Prop} {Q : Exit → Act → World → Prop} {G : Prop} (hgd : o.guard = none) (s x : Operand) (t : TypeId)
    (ho : o.op = .call { callee := .builtin .append, args := #[s, x], argTypes := #[t, t] })
    {e sz by_ : Nat} (E : ElemT P t e sz by_) {base : Nat} {v : Value} {n : Nat} {xs : List Value} (hs : a.eval s = v) (hown : w.ownsRow base e sz v n xs)
    {ad : Addr} {m c : Nat} {news : List Value} (hx : a.eval x = .slice (some ad) m c) (hl : news.length = m * sz) (hnews : ∀ j u, news[j]? = some u → w.cell? (ad.add j) = some u) (h1 : ∀ c ∈ news, c.oneCell' = true)
    (hm : 0 < m) (hn : n + m ≤ maxLen) (hb : (n + m) * by_ ≤ 140737488355328) (hbase : base ≤ w.heap.size)
    (h : ∀ g cap w', Ap base e sz w w' v (.slice (some ⟨g, 0, none⟩) (n + m) cap) (n + m) (xs ++ news) → K (a.put o.dst (.slice (some ⟨g, 0, none⟩) (n + m) cap)) w') :
    if Region.wanted o (yielded ops a.tmps) = true then Oper.wp P o a w K Q else G := by
  obtain ⟨ht, ⟨i, z, hi, hz, hsz, hby, hzs⟩, hpos⟩ := E
  exact step_append_lies w hgd s x t ho base e i z sz by_ ht hi hz hsz hby hzs hpos v n xs hs hown ad m c news hx hl hnews h1 hm hn hb hbase w.heap.size rfl
    (fun g cap w' g1 g2 g3 g4 => h g cap w' ⟨g1, g2, g3.elim (fun e => .inl e.symm) (fun e => .inr (congrArg some e))⟩)

theorem Ap.below {base e sz : Nat} {w w' : World} {v v' : Value} {n k : Nat} {xs ys : List Value} {B : Nat} {w0 : World} (h : Ap base e sz w w' v v' n xs) (hB : Below B w0 w) (hown : w.ownsRow base e sz v k ys) (hb : B ≤ base) (hs : B ≤ w.heap.size) : Below B w0 w' :=
  hB.grown h.grew hs (fun j hj => Nat.le_trans hb (hown.lt j hj).1)
/-- A cell below the base is as it was. -/
theorem Ap.cell {base e sz : Nat} {w w' : World} {v v' : Value} {n k : Nat} {xs ys : List Value} (h : Ap base e sz w w' v v' n xs) (hown : w.ownsRow base e sz v k ys) {b o : Nat} {u : Value} (hb : b < base) (hc : w.cell? ⟨b, o, none⟩ = some u) : w'.cell? ⟨b, o, none⟩ = some u :=
  h.grew.cell hc (fun e => by have := (hown.lt b e.symm).1; omega)

/-! ### a block that is known whole -/
structure Arr (w : World) (g e : Nat) (cs : List Value) : Prop where
  out : w.heap[g]? = some (.cells cs.toArray e (0, 0))
theorem Arr.lt {w : World} {g e : Nat} {cs : List Value} (h : Arr w g e cs) : g < w.heap.size := (Array.getElem?_eq_some_iff.1 h.out).1
theorem Arr.cell {w : World} {g e : Nat} {cs : List Value} (h : Arr w g e cs) (i : Nat) : w.cell? ⟨g, i, none⟩ = cs[i]? := by simp [World.cell?, h.out]
theorem Arr.frozen {w : World} {g e : Nat} {cs : List Value} (h : Arr w g e cs) (i : Nat) : w.frozen? ⟨g, i, none⟩ = false := by simp [World.frozen?, h.out]
theorem Arr.set {w : World} {g e : Nat} {cs : List Value} (h : Arr w g e cs) (i : Nat) (v : Value) : Arr (w.setCell ⟨g, i, none⟩ v) g e (cs.set i v) := by
  refine ⟨?_⟩
  simp [World.setCell, Array.getElem?_modify, h.out]
theorem Arr.block {w w' : World} {g e : Nat} {cs : List Value} (h : Arr w g e cs) (hb : w'.heap[g]? = w.heap[g]?) : Arr w' g e cs := ⟨hb.trans h.out⟩
theorem Arr.other {w : World} {g e : Nat} {cs : List Value} (h : Arr w g e cs) {a : Addr} (ha : g ≠ a.block) (v : Value) : Arr (w.setCell a v) g e cs := h.block (Below.heap_setCell _ _ _ _ ha)
theorem Arr.alloc {w : World} {g e : Nat} {cs : List Value} (h : Arr w g e cs) (o : Obj) : Arr (w.alloc o) g e cs := h.block (Below.heap_alloc _ _ _ h.lt)
theorem Arr.drew {w : World} {g e : Nat} {cs : List Value} (h : Arr w g e cs) : Arr w.drew g e cs := ⟨h.out⟩
theorem Arr.drewN {w : World} {g e : Nat} {cs : List Value} (h : Arr w g e cs) (n : Nat) : Arr (w.drewN n) g e cs := ⟨h.out⟩
theorem Arr.below {w w' : World} {g e : Nat} {cs : List Value} (h : Arr w g e cs) (hb : Below w.heap.size w w') : Arr w' g e cs := h.block (hb.block g h.lt)
theorem Arr.below' {w w' : World} {g e B : Nat} {cs : List Value} (h : Arr w g e cs) (hb : Below B w w') (hg : g < B) : Arr w' g e cs := h.block (hb.block g hg)
theorem Arr.new (w : World) (e : Nat) (c : Array Value) : Arr (w.alloc (.cells c e)) w.heap.size e c.toList := ⟨by simpa using heap_alloc_new w (.cells c e)⟩
theorem Arr.made (w : World) (e n : Nat) (z : Value) : Arr (w.alloc (.cells (madeCells #[z] n) e)) w.heap.size e (List.replicate n z) := by
  have := Arr.new w e (madeCells #[z] n)
  rwa [toList_madeCells_one] at this
theorem Arr.grown {w w' : World} {g e : Nat} {cs : List Value} (h : Arr w g e cs) {row : Option Nat} (hg : w.grownBy w' row) (hr : some g ≠ row) : Arr w' g e cs := h.block (hg.block g h.lt hr)
theorem Arr.rd {w : World} {g e : Nat} {cs : List Value} (h : Arr w g e cs) (n cap : Nat) (hn : n ≤ cap) (hc : cap ≤ 9223372036854775807) : Rd w (.slice (some ⟨g, 0, none⟩) n cap) n cs :=
  ⟨_, cap, rfl, ⟨hn, hc⟩, fun _ => ⟨g, 0, rfl, h.lt, fun j u hu => by rw [h.cell]; simpa using hu⟩⟩
theorem Arr.own {w : World} {g e sz : Nat} {cs : List Value} (h : Arr w g e cs) (base n : Nat) (hb : base ≤ g) (hn : cs.length = n * sz) (hm : n ≤ maxLen) : w.ownsRow base e sz (.slice (some ⟨g, 0, none⟩) n n) n cs :=
  ⟨hn, .inr ⟨g, n, cs.toArray, rfl, hb, h.out, Nat.le_refl _, hm, by simpa using hn, by rw [← hn]; exact List.take_length⟩⟩

theorem cell_later {w : World} {b i : Nat} {u : Value} (o : Obj) (h : w.cell? ⟨b, i, none⟩ = some u) : (w.alloc o).drew.cell? ⟨b, i, none⟩ = some u := by
  have hb := World.block_lt_of_cell? w _ h
  exact (World.cell?_alloc_past (w := w) o b i hb).trans h
theorem frozen_later {w : World} {b i : Nat} (o : Obj) (h : w.frozen? ⟨b, i, none⟩ = false) (hb : b < w.heap.size) : (w.alloc o).drew.frozen? ⟨b, i, none⟩ = false :=
  (World.frozen?_alloc_past (w := w) o b i hb).trans h
end Go.Proofs.YtbebdcpakjfgdaaDoor
