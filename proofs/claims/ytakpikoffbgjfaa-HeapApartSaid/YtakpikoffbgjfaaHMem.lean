/- What a memory of package heap is in the world, by the blocks that it has. -/
import Derived.Test.YtakpikoffbgjfaaProg
import Derived.Test.YtakpikoffbgjfaaBase
import Derived.Test.YtakpikoffbgjfaaOrd
import Derived.Maps.Own
import Derived.Maps.OwnSet
import Derived.Deep.LoopGhost
import Derived.Deep.RegionHeld3
import Derived.Handy
import Derived.Lib.Hide
import Derived.WalkSpells
import Derived.Deep.DeepCutAuto
import Derived.Deep.Light
namespace Go.Proofs.Ytakpikoffbgjfaa
open Go.RowKit

theorem E24 : ElemT Try.prog 24 3 1 8 := .mk' (z := .int .i64 0) Try.underlying24 (by kernel_rfl) rfl (by omega)
theorem E36 : ElemT Try.prog 36 2 1 8 := .mk' (z := .int .i64 0) Try.underlying36 (by kernel_rfl) rfl (by omega)
theorem E53 : ElemT Try.prog 53 30 3 32 := .mk' (z := .agg #[.int .i64 0, .string ⟨#[]⟩, .int .i64 0]) Try.underlying53 (by kernel_rfl) rfl (by omega)
theorem E58 : ElemT Try.prog 58 64 4 64 := .mk' (z := .agg #[.slice none 0 0, .slice none 0 0, .map none, .int .i64 0]) Try.underlying58 (by kernel_rfl) rfl (by omega)

structure VV where
  n : Int
  s : ByteArray
  r : Int
def VV.cs (v : VV) : List Value := [I v.n, .string v.s, I v.r]
def vvs (l : List VV) : List Value := l.flatMap VV.cs
/-- A thing: values; whether it is a table; keys, in their order, and what is under each; its frame. -/
structure Th where
  vals : List VV
  tab : Bool
  keys : List Int
  under : Int → Int
  frame : Int
structure HM where
  things : List Th
  frames : List Int
  last : Int
  limit : Int
  used : Int
  makes : Int
/-- The words of a thing in the row of things. -/
structure TQ where
  c : Value
  k : Value
  m : Value
  f : Int
def TQ.cs (q : TQ) : List Value := [q.c, q.k, q.m, I q.f]
def tqs (l : List TQ) : List Value := l.flatMap TQ.cs

/-- What has come of w: nothing of it but what F names has changed. -/
structure Chg (F : Nat → Prop) (w w' : World) : Prop where
  os : w'.os = w.os
  tape : w'.tape = w.tape
  output : w'.output = w.output
  size : w.heap.size ≤ w'.heap.size
  block : ∀ k, k < w.heap.size → ¬ F k → w'.heap[k]? = w.heap[k]?
theorem Chg.refl (F : Nat → Prop) (w : World) : Chg F w w := ⟨rfl, rfl, rfl, Nat.le_refl _, fun _ _ _ => rfl⟩
theorem Chg.trans {F G H : Nat → Prop} {a b c : World} (h : Chg F a b) (k : Chg G b c) (hF : ∀ j, F j → H j) (hG : ∀ j, G j → j < a.heap.size → H j) : Chg H a c :=
  ⟨k.os.trans h.os, k.tape.trans h.tape, k.output.trans h.output, Nat.le_trans h.size k.size, fun j hj hn => (k.block j (Nat.lt_of_lt_of_le hj h.size) (fun e => hn (hG j e hj))).trans (h.block j hj (fun e => hn (hF j e)))⟩
theorem Chg.alloc {F : Nat → Prop} {w w' : World} (h : Chg F w w') (o : Obj) : Chg F w (w'.alloc o) :=
  ⟨h.os, h.tape, h.output, by have := h.size; simp; omega, fun k hk hn => (Below.heap_alloc _ _ _ (Nat.lt_of_lt_of_le hk h.size)).trans (h.block k hk hn)⟩
theorem Chg.drew {F : Nat → Prop} {w w' : World} (h : Chg F w w') : Chg F w w'.drew := ⟨h.os, h.tape, h.output, h.size, h.block⟩
theorem Chg.set {F : Nat → Prop} {w w' : World} (h : Chg F w w') {a : Addr} (ha : F a.block) (v : Value) : Chg F w (w'.setCell a v) :=
  ⟨h.os, h.tape, h.output, by simpa using h.size, fun k hk hn => (Below.heap_setCell _ _ _ _ (fun e => hn (by rw [e]; exact ha))).trans (h.block k hk hn)⟩
theorem Chg.grown {F : Nat → Prop} {w w' w'' : World} {row : Option Nat} (h : Chg F w w') (hg : w'.grownBy w'' row) (hr : ∀ k, row = some k → k < w.heap.size → F k) : Chg F w w'' :=
  ⟨hg.os.trans h.os, hg.tape.trans h.tape, hg.output.trans h.output, Nat.le_trans h.size hg.size, fun k hk hn => (hg.block k (Nat.lt_of_lt_of_le hk h.size) (fun e => hn (hr k e.symm hk))).trans (h.block k hk hn)⟩
theorem Chg.below {F : Nat → Prop} {B : Nat} {w w' : World} (h : Chg F w w') (hF : ∀ k, F k → B ≤ k) (hB : B ≤ w.heap.size) : Below B w w' :=
  ⟨h.os, h.tape, h.output, h.size, fun k hk => h.block k (Nat.lt_of_lt_of_le hk hB) (fun e => by have := hF k e; omega)⟩

/-- How a thing lies. -/
structure ThW (w : World) (F : Nat → Prop) (t : Th) (q : TQ) : Prop where
  f : q.f = t.frame
  cells : w.ownsRow 0 30 3 q.c t.vals.length (vvs t.vals)
  cellsF : ∀ k, q.c.ownBlock = some k → F k
  keys : w.ownsRow 0 2 1 q.k t.keys.length (ints t.keys)
  keysF : ∀ k, q.k.ownBlock = some k → F k
  map : (t.tab = false ∧ q.m = .map none) ∨ (t.tab = true ∧ ∃ (b : Nat) (D : DataW Unit), q.m = .map (some b) ∧ F b ∧ w.ownsMap Try.prog 2 (plainElem Try.prog 2) b t.keys.length D ∧ Maps.size D = t.keys.length ∧
    ∀ x : Int, (Lit.int .i64 x).wf = true → Maps.has D (.int .i64 x) = decide (x ∈ t.keys) ∧ D.atKey (.int .i64 x) (.lit (.int .i64 0)) = .lit (.int .i64 (t.under x)))
def TQ.mb (q : TQ) : Option Nat := match q.m with | .map (some b) => some b | _ => none
structure MemW (w : World) (F : Nat → Prop) (p : Nat) (M : HM) (tv fv : Value) (qs : List TQ) : Prop where
  lt : ∀ k, F k → k < w.heap.size
  fp : F p
  arr : Arr w p 60 [tv, fv, I M.last, I M.limit, I M.used, I M.makes]
  len : qs.length = M.things.length
  things : w.ownsRow 0 64 4 tv qs.length (tqs qs)
  thingsF : ∀ k, tv.ownBlock = some k → F k
  frames : w.ownsRow 0 3 1 fv M.frames.length (ints M.frames)
  framesF : ∀ k, fv.ownBlock = some k → F k
  each : ∀ (i : Nat) (t : Th) (q : TQ), M.things[i]? = some t → qs[i]? = some q → ThW w F t q
  apart : ∀ (i j : Nat) (q r : TQ), qs[i]? = some q → qs[j]? = some r → i ≠ j → (∀ k, q.c.ownBlock = some k → r.c.ownBlock ≠ some k) ∧ (∀ k, q.k.ownBlock = some k → r.k.ownBlock ≠ some k) ∧ (∀ k, q.mb = some k → r.mb ≠ some k)
theorem own_kept {w w' : World} {base e sz n : Nat} {v : Value} {xs : List Value} (h : w.ownsRow base e sz v n xs) (hk : ∀ k, v.ownBlock = some k → w'.heap[k]? = w.heap[k]?) : w'.ownsRow base e sz v n xs := by
  refine ⟨h.1, ?_⟩
  rcases h.2 with hn | ⟨g', cap, cur, rfl, hb, hh, hr⟩
  · exact .inl hn
  · exact .inr ⟨g', cap, cur, rfl, hb, (hk g' rfl).trans hh, hr⟩
theorem own_type {w : World} {base e sz n : Nat} {v : Value} {xs : List Value} (h : w.ownsRow base e sz v n xs) {k : Nat} (hk : v.ownBlock = some k) : ∃ cur, w.heap[k]? = some (.cells cur e (0, 0)) := by
  rcases h.2 with ⟨rfl, _⟩ | ⟨g', cap, cur, rfl, hb, hh, hr⟩
  · cases hk
  · cases hk; exact ⟨cur, hh⟩
theorem map_kept {w w' : World} {b n : Nat} {D : DataW Unit} (h : w.ownsMap Try.prog 2 (plainElem Try.prog 2) b n D) (hk : w'.heap[b]? = w.heap[b]?) : w'.ownsMap Try.prog 2 (plainElem Try.prog 2) b n D := by
  obtain ⟨es, clock, hb, Fi, hs, hD⟩ := h
  exact ⟨es, clock, hk.trans hb, Fi, hs, hD⟩
theorem ThW.kept {w w' : World} {F G : Nat → Prop} {t : Th} {q : TQ} (h : ThW w F t q) (hk : ∀ k, F k → (q.c.ownBlock = some k ∨ q.k.ownBlock = some k ∨ q.mb = some k) → w'.heap[k]? = w.heap[k]?) (hG : ∀ k, F k → G k) : ThW w' G t q := by
  refine ⟨h.f, own_kept h.cells (fun k e => hk k (h.cellsF k e) (.inl e)), fun k e => hG k (h.cellsF k e), own_kept h.keys (fun k e => hk k (h.keysF k e) (.inr (.inl e))), fun k e => hG k (h.keysF k e), ?_⟩
  rcases h.map with hm | ⟨ht, b, D, e, hb, hm⟩
  · exact .inl hm
  · exact .inr ⟨ht, b, D, e, hG b hb, map_kept hm.1 (hk b hb (.inr (.inr (by rw [TQ.mb, e])))), hm.2⟩
theorem MemW.kept {w w' : World} {F : Nat → Prop} {p : Nat} {M : HM} {tv fv : Value} {qs : List TQ} (h : MemW w F p M tv fv qs) (hk : ∀ k, F k → w'.heap[k]? = w.heap[k]?) (hs : w.heap.size ≤ w'.heap.size) : MemW w' F p M tv fv qs :=
  ⟨fun k hF => Nat.lt_of_lt_of_le (h.lt k hF) hs, h.fp, h.arr.block (hk p h.fp), h.len, own_kept h.things (fun k e => hk k (h.thingsF k e)), h.thingsF, own_kept h.frames (fun k e => hk k (h.framesF k e)), h.framesF,
    fun i t q ht hq => (h.each i t q ht hq).kept (fun k hF _ => hk k hF) (fun _ h => h), h.apart⟩
theorem MemW.below {w w' : World} {F : Nat → Prop} {p : Nat} {M : HM} {tv fv : Value} {qs : List TQ} (h : MemW w F p M tv fv qs) (hb : Below w.heap.size w w') : MemW w' F p M tv fv qs :=
  h.kept (fun k hF => hb.block k (h.lt k hF)) hb.size
theorem MemW.chg {w w' : World} {F G : Nat → Prop} {p : Nat} {M : HM} {tv fv : Value} {qs : List TQ} (h : MemW w F p M tv fv qs) (hc : Chg G w w') (hd : ∀ k, F k → ¬ G k) : MemW w' F p M tv fv qs :=
  h.kept (fun k hF => hc.block k (h.lt k hF) (hd k hF)) hc.size
/-- Another type: another block. -/
theorem ne_type {w : World} {e e' : Nat} {g k : Nat} {c c' : Array Value} {fr fr' : Nat × Nat} (h : w.heap[g]? = some (.cells c e fr)) (h' : w.heap[k]? = some (.cells c' e' fr')) (he : e ≠ e') : g ≠ k := by
  rintro rfl
  rw [h] at h'
  cases h'
  exact he rfl
end Go.Proofs.Ytakpikoffbgjfaa
