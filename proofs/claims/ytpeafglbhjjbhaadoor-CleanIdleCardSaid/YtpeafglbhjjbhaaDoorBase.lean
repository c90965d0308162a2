/- Small words for slices that are read and slices that a call makes, over any program. -/
import Derived.WalkKit
import Derived.ProofKit
import Derived.Deep.AppendLies
import Derived.Maps.AppendAt
import Derived.Laws.AppendOwnNone
import Derived.Laws.OwnMore
import Derived.Laws.MakeOwn
import Derived.OneCell
import Derived.Deep.QuietTactic
import Derived.BigQuiet
import Derived.StillTailTactics
namespace Go.Proofs.YtpeafglbhjjbhaaDoor
open Go.RowKit

/-! ### tests in the walk's own spelling -/
/-! ### lists of cells -/
abbrev I (n : Int) : Value := .int .i64 n
def ints (xs : List Int) : List Value := xs.map I
def bools (xs : List Bool) : List Value := xs.map .bool
def u8s (xs : List Int) : List Value := xs.map (.int .u8)
def pairs (xs : List (Int × Int)) : List Value := xs.flatMap fun p => [I p.1, I p.2]
def pairs8 (xs : List (Int × Int)) : List Value := xs.flatMap fun p => [.int .u8 p.1, .int .u8 p.2]
@[simp] theorem ints_length (xs : List Int) : (ints xs).length = xs.length := by simp [ints]
@[simp] theorem bools_length (xs : List Bool) : (bools xs).length = xs.length := by simp [bools]
@[simp] theorem u8s_length (xs : List Int) : (u8s xs).length = xs.length := by simp [u8s]
@[simp] theorem pairs_length (xs : List (Int × Int)) : (pairs xs).length = xs.length * 2 := by
  induction xs with
  | nil => rfl
  | cons x l ih => simp only [pairs, List.flatMap_cons] at *; simp only [List.length_append, List.length_cons, ih, List.length_nil]; omega
@[simp] theorem pairs8_length (xs : List (Int × Int)) : (pairs8 xs).length = xs.length * 2 := by
  induction xs with
  | nil => rfl
  | cons x l ih => simp only [pairs8, List.flatMap_cons] at *; simp only [List.length_append, List.length_cons, ih, List.length_nil]; omega
/-! ### a slice that is read -/
/-- The slice v has n elements; its cells are cs (nil, empty and others alike). -/
structure Rd (w : World) (v : Value) (n : Nat) (cs : List Value) : Prop where
  out : ∃ A cap, v = .slice A n cap ∧ (n ≤ cap ∧ cap ≤ 9223372036854775807) ∧ (0 < cs.length → ∃ b off, A = some ⟨b, off, none⟩ ∧ b < w.heap.size ∧ ∀ j u, cs[j]? = some u → w.cell? ⟨b, off + j, none⟩ = some u)
theorem Rd.below {w w' : World} {v : Value} {n : Nat} {cs : List Value} (h : Rd w v n cs) (hb : Below w.heap.size w w') : Rd w' v n cs := by
  obtain ⟨A, cap, rfl, hm, h⟩ := h.out
  exact ⟨A, cap, rfl, hm, fun hl => by
    obtain ⟨b, off, rfl, hlt, hc⟩ := h hl
    exact ⟨b, off, rfl, Nat.lt_of_lt_of_le hlt hb.size, fun j u hu => (hb.cell (p := ⟨b, off + j, none⟩) hlt).trans (hc j u hu)⟩⟩
theorem below_alloc (w : World) (o : Obj) : Below w.heap.size w (w.alloc o) := (Below.refl _ _).alloc (Nat.le_refl _) o
theorem below_drewN {B : Nat} {w W : World} (h : Below B w W) (n : Nat) : Below B w (W.drewN n) := ⟨h.os, h.tape, h.output, h.size, h.block⟩
theorem Rd.alloc {w : World} {v : Value} {n : Nat} {cs : List Value} (h : Rd w v n cs) (o : Obj) : Rd (w.alloc o) v n cs := h.below (below_alloc w o)
theorem Rd.drew {w : World} {v : Value} {n : Nat} {cs : List Value} (h : Rd w v n cs) : Rd w.drew v n cs := h.below (Below.refl _ _).drew
theorem Rd.drewN {w : World} {v : Value} {n : Nat} {cs : List Value} (h : Rd w v n cs) (k : Nat) : Rd (w.drewN k) v n cs := h.below (below_drewN (Below.refl _ _) k)
theorem add_plain' (b off j : Nat) : (⟨b, off, none⟩ : Addr).add j = ⟨b, off + j, none⟩ := by unfold Addr.add; split <;> simp_all
theorem Rd.nil (w : World) : Rd w (.slice none 0 0) 0 [] := ⟨none, 0, rfl, ⟨by omega, by omega⟩, fun h => by simp at h⟩
/-- Where there is an element. -/
theorem Rd.elem {w : World} {v : Value} {n : Nat} {cs : List Value} (h : Rd w v n cs) (hl : 0 < cs.length) :
    ∃ b off cap, v = .slice (some ⟨b, off, none⟩) n cap ∧ (n ≤ cap ∧ cap ≤ 9223372036854775807) ∧ b < w.heap.size ∧ ∀ j u, cs[j]? = some u → w.cell? ⟨b, off + j, none⟩ = some u := by
  obtain ⟨A, cap, rfl, hm, h⟩ := h.out
  obtain ⟨b, off, rfl, hb, hc⟩ := h hl
  exact ⟨b, off, cap, rfl, hm, hb, hc⟩
theorem Rd.form {w : World} {v : Value} {n : Nat} {cs : List Value} (h : Rd w v n cs) : ∃ (A : Option Addr) (cap : Nat), v = .slice A n cap ∧ n ≤ cap ∧ cap ≤ 9223372036854775807 := by
  obtain ⟨A, cap, rfl, hm, _⟩ := h.out
  exact ⟨A, cap, rfl, hm⟩
/-- The first ones alone. -/
theorem Rd.first {w : World} {A : Option Addr} {n cap : Nat} {cs : List Value} (h : Rd w (.slice A n cap) n cs) (k : Nat) (hk : k ≤ n) (ds : List Value) (hd : ∀ (j : Nat) (u : Value), ds[j]? = some u → cs[j]? = some u) : Rd w (.slice A k cap) k ds := by
  obtain ⟨A', cap', e, hm, hc⟩ := h.out
  cases e
  refine ⟨A, cap, rfl, ⟨by omega, hm.2⟩, fun hl => ?_⟩
  have h0 := hd 0 (ds[0]'hl) (List.getElem?_eq_getElem hl)
  have hl' : 0 < cs.length := by
    rcases Nat.eq_zero_or_pos cs.length with e | e
    · rw [List.eq_nil_of_length_eq_zero e] at h0; simp at h0
    · exact e
  obtain ⟨b, off, e, hb, hx⟩ := hc hl'
  exact ⟨b, off, e, hb, fun j u hu => hx j u (hd j u hu)⟩

/-! ### element types -/
/-- t is the type of slices of e; an e has so many cells and bytes. -/
structure ElemT (P : Program) (t e sz by_ : Nat) : Prop where
  ht : P.underlying t = some (.slice e)
  hi : ∃ i z, P.info? e = some i ∧ i.zero = some z ∧ i.size = sz ∧ i.bytes = by_ ∧ z.cells.size = sz
  hs : 0 < sz
theorem ElemT.mk' {P : Program} {t e sz by_ : Nat} {z : Value} (ht : P.underlying t = some (.slice e)) (hi : (P.info? e).map (fun i => (i.zero, i.size, i.bytes)) = some (some z, sz, by_)) (hz : z.cells.size = sz) (hs : 0 < sz) : ElemT P t e sz by_ := by
  obtain ⟨i0, hi, h1, h2, h3⟩ := info_parts hi
  exact ⟨ht, ⟨i0, z, hi, h1, h2, h3, hz⟩, hs⟩

/-- What an append to a slice of the call's own leaves. -/
structure Ap (base e sz : Nat) (w w' : World) (v v' : Value) (n : Nat) (xs : List Value) : Prop where
  own : w'.ownsRow base e sz v' n xs
  grew : w.grownBy w' v.ownBlock
  lies : v'.ownBlock = v.ownBlock ∨ v'.ownBlock = some w.heap.size

theorem Ap.below {base e sz : Nat} {w w' : World} {v v' : Value} {n k : Nat} {xs ys : List Value} {B : Nat} {w0 : World} (h : Ap base e sz w w' v v' n xs) (hB : Below B w0 w) (hown : w.ownsRow base e sz v k ys) (hb : B ≤ base) (hs : B ≤ w.heap.size) : Below B w0 w' :=
  hB.grown h.grew hs (fun j hj => Nat.le_trans hb (hown.lt j hj).1)
/-- A cell below the base is as it was. -/
theorem Ap.cell {base e sz : Nat} {w w' : World} {v v' : Value} {n k : Nat} {xs ys : List Value} (h : Ap base e sz w w' v v' n xs) (hown : w.ownsRow base e sz v k ys) {b o : Nat} {u : Value} (hb : b < base) (hc : w.cell? ⟨b, o, none⟩ = some u) : w'.cell? ⟨b, o, none⟩ = some u :=
  h.grew.cell hc (fun e => by have := (hown.lt b e.symm).1; omega)

/-! ### a block that is known whole -/
structure Arr (w : World) (g e : Nat) (cs : List Value) : Prop where
  out : w.heap[g]? = some (.cells cs.toArray e (0, 0))
theorem Arr.lt {w : World} {g e : Nat} {cs : List Value} (h : Arr w g e cs) : g < w.heap.size := (Array.getElem?_eq_some_iff.1 h.out).1
theorem Arr.cell {w : World} {g e : Nat} {cs : List Value} (h : Arr w g e cs) (i : Nat) : w.cell? ⟨g, i, none⟩ = cs[i]? := by simp [World.cell?, h.out]
theorem Arr.set {w : World} {g e : Nat} {cs : List Value} (h : Arr w g e cs) (i : Nat) (v : Value) : Arr (w.setCell ⟨g, i, none⟩ v) g e (cs.set i v) := by
  refine ⟨?_⟩
  simp [World.setCell, Array.getElem?_modify, h.out]
theorem Arr.block {w w' : World} {g e : Nat} {cs : List Value} (h : Arr w g e cs) (hb : w'.heap[g]? = w.heap[g]?) : Arr w' g e cs := ⟨hb.trans h.out⟩
theorem Arr.other {w : World} {g e : Nat} {cs : List Value} (h : Arr w g e cs) {a : Addr} (ha : g ≠ a.block) (v : Value) : Arr (w.setCell a v) g e cs := h.block (Below.heap_setCell _ _ _ _ ha)
theorem Arr.alloc {w : World} {g e : Nat} {cs : List Value} (h : Arr w g e cs) (o : Obj) : Arr (w.alloc o) g e cs := h.block (Below.heap_alloc _ _ _ h.lt)
theorem Arr.drew {w : World} {g e : Nat} {cs : List Value} (h : Arr w g e cs) : Arr w.drew g e cs := ⟨h.out⟩
theorem Arr.drewN {w : World} {g e : Nat} {cs : List Value} (h : Arr w g e cs) (n : Nat) : Arr (w.drewN n) g e cs := ⟨h.out⟩
theorem Arr.below {w w' : World} {g e : Nat} {cs : List Value} (h : Arr w g e cs) (hb : Below w.heap.size w w') : Arr w' g e cs := h.block (hb.block g h.lt)
theorem Arr.new (w : World) (e : Nat) (c : Array Value) : Arr (w.alloc (.cells c e)) w.heap.size e c.toList := ⟨by simpa using heap_alloc_new w (.cells c e)⟩
theorem Arr.made (w : World) (e n : Nat) (z : Value) : Arr (w.alloc (.cells (madeCells #[z] n) e)) w.heap.size e (List.replicate n z) := by
  have := Arr.new w e (madeCells #[z] n)
  rwa [toList_madeCells_one] at this
theorem Arr.grown {w w' : World} {g e : Nat} {cs : List Value} (h : Arr w g e cs) {row : Option Nat} (hg : w.grownBy w' row) (hr : some g ≠ row) : Arr w' g e cs := h.block (hg.block g h.lt hr)
theorem Arr.rd {w : World} {g e : Nat} {cs : List Value} (h : Arr w g e cs) (n cap : Nat) (hn : n ≤ cap) (hc : cap ≤ 9223372036854775807) : Rd w (.slice (some ⟨g, 0, none⟩) n cap) n cs :=
  ⟨_, cap, rfl, ⟨hn, hc⟩, fun _ => ⟨g, 0, rfl, h.lt, fun j u hu => by rw [h.cell]; simpa using hu⟩⟩
theorem Arr.own {w : World} {g e sz : Nat} {cs : List Value} (h : Arr w g e cs) (base n : Nat) (hb : base ≤ g) (hn : cs.length = n * sz) (hm : n ≤ maxLen) : w.ownsRow base e sz (.slice (some ⟨g, 0, none⟩) n n) n cs :=
  ⟨hn, .inr ⟨g, n, cs.toArray, rfl, hb, h.out, Nat.le_refl _, hm, by simpa using hn, by rw [← hn]; exact List.take_length⟩⟩

end Go.Proofs.YtpeafglbhjjbhaaDoor

