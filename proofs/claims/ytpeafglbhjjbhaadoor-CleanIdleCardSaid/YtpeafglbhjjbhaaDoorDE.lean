/- Deep words, fifth part: elements, lengths, what is made, what is stored. -/
import Derived.Test.YtpeafglbhjjbhaaDoorDD
import Derived.Laws.CopyRow
import Derived.Laws.MakeOwn
namespace Go.Proofs.YtpeafglbhjjbhaaDoor
open Go Go.RowKit

/-- Fits into one cell. -/
def CT.one : CT → Bool
  | .v x => x.oneCell'
  | .rf .. | .ad .. | .fn .. => true
  | .ro (.sl ..) | .ro (.rp ..) | .ro (.fn ..) | .ro (.nz _) => true
  | _ => false
theorem HV.one {w : World} {N : Nat → Prop} {bs : Bs} {P : Nat → Prop} {c : CT} {u : Value} (h : HV w N bs P c u) (hc : c.one = true) : u.oneCell' = true := by
  cases h with
  | v x => exact hc
  | rf => rfl
  | rfNil => rfl
  | ad => rfl
  | fn => rfl
  | ro h => cases h <;> first | rfl | (simp [CT.one] at hc)
  | _ => simp [CT.one] at hc
/-- The cells of what is stored. -/
def cellsC : CT → List CT
  | .ag l => l
  | c => [c]
/-- Cells are replaced. -/
def setC (l : List CT) (o : Nat) (cs : List CT) : List CT := l.take o ++ cs ++ l.drop (o + cs.length)
theorem setC_len {l : List CT} {o : Nat} {cs : List CT} (h : o + cs.length ≤ l.length) : (setC l o cs).length = l.length := by unfold setC; simp; omega
theorem setC_get {l : List CT} {o : Nat} {cs : List CT} (h : o + cs.length ≤ l.length) (j : Nat) : (setC l o cs)[j]? = if o ≤ j ∧ j < o + cs.length then cs[j - o]? else l[j]? := by
  unfold setC
  by_cases h1 : j < o
  · rw [if_neg (by omega), List.append_assoc, List.getElem?_append_left (by simp; omega), List.getElem?_take_of_lt h1]
  · by_cases h2 : j < o + cs.length
    · rw [if_pos ⟨by omega, h2⟩, List.append_assoc, List.getElem?_append_right (by simp; omega), List.getElem?_append_left (by simp; omega)]
      congr 1
      simp; omega
    · rw [if_neg (by omega), List.getElem?_append_right (by simp; omega), List.getElem?_drop]
      congr 1
      simp; omega
/-- Values and what they are good for, side by side. -/
def HL (w : World) (N : Nat → Prop) (bs : Bs) (l : List CT) (us : List Value) : Prop := us.length = l.length ∧ ∀ (j : Nat) (c : CT) (u : Value), l[j]? = some c → us[j]? = some u → HV w N bs NoB c u
theorem HV.cells {w : World} {N : Nat → Prop} {bs : Bs} {c : CT} {u : Value} (h : HV w N bs NoB c u) (hc : (cellsC c).all CT.one = true) : HL w N bs (cellsC c) u.cells.toList := by
  by_cases ha : ∃ l, c = .ag l
  · obtain ⟨l, rfl⟩ := ha
    cases h with
    | ag us hl hr =>
      refine ⟨by simpa [Value.cells, cellsC] using hl, fun j c u hj hu => ?_⟩
      have := hr j c hj
      have e : us.getD j undef = u := by
        have : us[j]? = some u := by simpa [Value.cells] using hu
        simp [this]
      rw [e] at this
      exact this
  · have e1 : cellsC c = [c] := by cases c <;> first | rfl | exact absurd ⟨_, rfl⟩ ha
    rw [e1] at hc ⊢
    have h1 : u.oneCell' = true := h.one (by simpa using hc)
    have e2 : u.cells = #[u] := by cases u <;> first | rfl | cases h1
    rw [e2]
    refine ⟨rfl, fun j c' u' hj hu => ?_⟩
    cases j with
    | zero => cases hj; cases hu; exact h
    | succ j => simp at hj
theorem HL.one {w : World} {N : Nat → Prop} {bs : Bs} {l : List CT} {us : List Value} (h : HL w N bs l us) (hc : l.all CT.one = true) : ∀ u ∈ us, u.oneCell' = true := fun u hu => by
  obtain ⟨j, hj, rfl⟩ := List.mem_iff_getElem.1 hu
  have hl : j < l.length := by rw [← h.1]; exact hj
  exact (h.2 j _ _ (List.getElem?_eq_getElem hl) (List.getElem?_eq_getElem hj)).one (List.all_eq_true.1 hc _ (List.getElem_mem _))
/-! ### elements, lengths -/
section
variable {F : Fence} {n : Nat} {P : Program} {X : Cx} {ops : Array Oper} {t : List (Nat × CT)} {r : List (Nat × Option Root)} {nx : Nat} [hF : Wd F] {dst ty : Nat} {pos : String} {af : Array Edge}
theorem l_index {T e s : Nat} {x y : Operand} {k lo m : Nat} {kd : IntKind} {z : Int} (j : Nat) (hT : SlI P T e s) (hx : St.ev ⟨t, r, nx⟩ x = .rf k lo m s) (hy : St.ev ⟨t, r, nx⟩ y = .v (.int kd z)) (hz : z = (j : Int)) (hj : j < m) :
    Sg F n P X ops ⟨some dst, .indexAddr T x y, ty, pos, af, none⟩ t r nx ⟨needO x (.rf k lo m s) ++ needO y (.v (.int kd z)), []⟩ [] ⟨[(dst, .ad k s (j + lo) 0)], []⟩ :=
  sg_q (by simp) ⟨fun p hp => (List.mem_append.1 hp).elim (need_ok hx p) (need_ok hy p), fun p hp => by cases hp⟩ fun U S a w N bs FP hd hR => by
    have hex := hR.ev x
    rw [ev_again hx fun p hp => hd.t p (List.mem_append_left _ hp)] at hex
    have hey := hR.ev_v (ev_again hy fun p hp => hd.t p (List.mem_append_right _ hp))
    generalize he : a.eval x = v at hex
    subst hz
    cases hex with
    | rf A g off cap hb hn hm hA =>
      have hA' := hA (by omega)
      subst hA'
      refine ⟨.pointer (some ⟨g, off + lo * s + j * s, none⟩), ?_, ?_⟩
      · have h1 : (j : Int) < (m : Int) := by omega
        simp [execOp, Instr.indexAt, he, hey, asIntOf, run_underlying hT.u, hT.sz, h1, add_plain']
        intro hh; omega
      · have := HV.ad (w := w) (N := N) (bs := bs) (P := NoB) (sz := s) (i := j + lo) (o := 0) g off cap hb
        rwa [show off + ((j + lo) * s + 0) = off + lo * s + j * s by rw [Nat.add_mul]; omega] at this
    | rfNil hb => omega
theorem l_indexRo {T e s e' : Nat} {x y : Operand} {els : List (List CT)} {es : List CT} {kd : IntKind} {z : Int} (j : Nat) (hT : SlI P T e s) (hx : St.ev ⟨t, r, nx⟩ x = .ro (.sl e' s els)) (hy : St.ev ⟨t, r, nx⟩ y = .v (.int kd z)) (hz : z = (j : Int)) (hj : els[j]? = some es) :
    Sg F n P X ops ⟨some dst, .indexAddr T x y, ty, pos, af, none⟩ t r nx ⟨needO x (.ro (.sl e' s els)) ++ needO y (.v (.int kd z)), []⟩ [] ⟨[(dst, .ro (.rp es 0))], []⟩ :=
  sg_q (by simp) ⟨fun p hp => (List.mem_append.1 hp).elim (need_ok hx p) (need_ok hy p), fun p hp => by cases hp⟩ fun U S a w N bs FP hd hR => by
    have hex := hR.ev x
    rw [ev_again hx fun p hp => hd.t p (List.mem_append_left _ hp)] at hex
    have hey := hR.ev_v (ev_again hy fun p hp => hd.t p (List.mem_append_right _ hp))
    have hex := hex.out_ro
    generalize he : a.eval x = v at hex
    subst hz
    cases hex with
    | sl A b off m cap us hn hA hc hm hz hw h1' hr =>
      have hne : els ≠ [] := List.ne_nil_of_mem (List.mem_of_getElem? hj)
      obtain ⟨rfl, hN⟩ := hA hne
      have hjm : j < m := by rw [← hn]; exact (List.getElem?_eq_some_iff.1 hj).1
      refine ⟨.pointer (some ⟨b, off + j * s, none⟩), ?_, .ro ?_⟩
      · have h1 : (j : Int) < (m : Int) := by omega
        simp [execOp, Instr.indexAt, he, hey, asIntOf, run_underlying hT.u, hT.sz, h1, add_plain']
        intro hh; omega
      · refine RD.rp (o := 0) b (off + j * s) (us j) hN (fun o c ho => ?_) (fun o c ho => hr j o es c hj ho)
        rw [Nat.add_assoc]
        exact hw j o es c hj ho
theorem l_len {T e s : Nat} {x : Operand} {k lo m sz : Nat} {at_ : Array TypeId} (hT : SlI P T e s) (hat : at_ = #[T]) (hx : St.ev ⟨t, r, nx⟩ x = .rf k lo m sz) :
    Sg F n P X ops ⟨some dst, .call { callee := .builtin .len, args := #[x], argTypes := at_ }, ty, pos, af, none⟩ t r nx ⟨needO x (.rf k lo m sz), []⟩ [] ⟨[(dst, .v (.int .i64 m))], []⟩ :=
  sg_q (by simp) ⟨need_ok hx, fun p hp => by cases hp⟩ fun U S a w N bs FP hd hR => by
    subst hat
    have hex := hR.ev x
    rw [ev_again hx hd.t] at hex
    generalize he : a.eval x = v at hex
    cases hex with
    | rf A g off cap hb hn hm hA => exact ⟨.int .i64 m, by simp [execOp, resolve, invoke, builtin, Builtin.len_, he, run_underlying hT.u, goInt], .v _⟩
    | rfNil hb => exact ⟨.int .i64 (0 : Nat), by simp [execOp, resolve, invoke, builtin, Builtin.len_, he, run_underlying hT.u, goInt], .v _⟩
theorem l_lenRo {T e s : Nat} {x : Operand} {e' sz m : Nat} {els : List (List CT)} {at_ : Array TypeId} (hT : SlI P T e s) (hat : at_ = #[T]) (hx : St.ev ⟨t, r, nx⟩ x = .ro (.sl e' sz els)) (hm : els.length = m) :
    Sg F n P X ops ⟨some dst, .call { callee := .builtin .len, args := #[x], argTypes := at_ }, ty, pos, af, none⟩ t r nx ⟨needO x (.ro (.sl e' sz els)), []⟩ [] ⟨[(dst, .v (.int .i64 m))], []⟩ :=
  sg_q (by simp) ⟨need_ok hx, fun p hp => by cases hp⟩ fun U S a w N bs FP hd hR => by
    subst hat
    have hex := hR.ev x
    rw [ev_again hx hd.t] at hex
    have hex := hex.out_ro
    generalize he : a.eval x = v at hex
    cases hex with
    | sl A b off m' cap us hn hA hc hm' hz hw h1' hr =>
      have : m' = m := hn.symm.trans hm
      subst this
      exact ⟨.int .i64 m', by simp [execOp, resolve, invoke, builtin, Builtin.len_, he, run_underlying hT.u, goInt], .v _⟩
theorem l_lenNil {T e s : Nat} {x : Operand} {A : Option Addr} {m c : Nat} {at_ : Array TypeId} (hT : SlI P T e s) (hat : at_ = #[T]) (hx : St.ev ⟨t, r, nx⟩ x = .v (.slice A m c)) :
    Sg F n P X ops ⟨some dst, .call { callee := .builtin .len, args := #[x], argTypes := at_ }, ty, pos, af, none⟩ t r nx ⟨needO x (.v (.slice A m c)), []⟩ [] ⟨[(dst, .v (.int .i64 m))], []⟩ :=
  sg_v1 (by simp) hx fun ρ w h1 => by subst hat; simp [execOp, resolve, invoke, builtin, Builtin.len_, h1, run_underlying hT.u, goInt]
theorem l_lenStr {T : Nat} {x : Operand} {s : ByteArray} {at_ : Array TypeId} (hT : P.underlying T = some .string) (hat : at_ = #[T]) (hx : St.ev ⟨t, r, nx⟩ x = .v (.string s)) :
    Sg F n P X ops ⟨some dst, .call { callee := .builtin .len, args := #[x], argTypes := at_ }, ty, pos, af, none⟩ t r nx ⟨needO x (.v (.string s)), []⟩ [] ⟨[(dst, .v (.int .i64 s.size))], []⟩ :=
  sg_v1 (by simp) hx fun ρ w h1 => by subst hat; simp [execOp, resolve, invoke, builtin, Builtin.len_, h1, run_underlying hT, goInt]
theorem l_indexStr {T : Nat} {x y : Operand} {s : ByteArray} {kd : IntKind} {z : Int} {b : UInt8} (j : Nat) (hT : P.underlying T = some .string) (hx : St.ev ⟨t, r, nx⟩ x = .v (.string s)) (hy : St.ev ⟨t, r, nx⟩ y = .v (.int kd z)) (hz : z = (j : Int)) (hj : s[j]? = some b) :
    Sg F n P X ops ⟨some dst, .index T x y, ty, pos, af, none⟩ t r nx ⟨needO x (.v (.string s)) ++ needO y (.v (.int kd z)), []⟩ [] ⟨[(dst, .v (.int .u8 b.toNat))], []⟩ :=
  sg_v2 (by simp) hx hy fun ρ w h1 h2 => by
    subst hz
    simp [execOp, Instr.index, h1, h2, asIntOf, run_underlying hT, hj]
theorem l_extract {x : Operand} {l : List CT} {i : Nat} {c : CT} (hx : St.ev ⟨t, r, nx⟩ x = .tu l) (hi : l[i]? = some c) : Sg F n P X ops ⟨some dst, .extract x i, ty, pos, af, none⟩ t r nx ⟨needO x (.tu l), []⟩ [] ⟨[(dst, c)], []⟩ :=
  sg_q (by simp) ⟨need_ok hx, fun p hp => by cases hp⟩ fun U S a w N bs FP hd hR => by
    have hex := hR.ev x
    rw [ev_again hx hd.t] at hex
    generalize he : a.eval x = v at hex
    cases hex with
    | tu us hl hr =>
      have hi' : i < us.size := by rw [hl]; exact (List.getElem?_eq_some_iff.1 hi).1
      have := hr i c hi
      refine ⟨us.getD i undef, ?_, this⟩
      simp [execOp, Instr.extract, he, hi']
theorem l_conv {T T2 : Nat} {x : Operand} {k k2 : IntKind} {m q : Int} (h1 : (P.underlying T).isSome = true) (h2 : P.underlying T2 = some (.int k2)) (hx : St.ev ⟨t, r, nx⟩ x = .v (.int k m)) (hq : k2.wrap m = q) :
    Sg F n P X ops ⟨some dst, .convert T T2 x, ty, pos, af, none⟩ t r nx ⟨needO x (.v (.int k m)), []⟩ [] ⟨[(dst, .v (.int k2 q))], []⟩ :=
  sg_v1 (by simp) hx fun ρ w e => by
    obtain ⟨d, hd⟩ := Option.isSome_iff_exists.1 h1
    have hc : (convert T T2 (.int k m)).run P w = .ok (.int k2 q) w := by
      unfold convert
      simp only [Sem.run_bind, run_underlying hd, run_underlying h2, Result.andThen_ok]
      cases d <;> simp [Conv.intToInt, hq]
    simp [execOp, e, hc]
theorem l_fn {f : FuncId} {l : List CT} {xs : Array Operand} (hl : xs.size = l.length) (h : ∀ (j : Nat) (x : Operand) (c : CT), xs[j]? = some x → l[j]? = some c → St.ev ⟨t, r, nx⟩ x = c) :
    Sg F n P X ops ⟨some dst, .makeFunc (.func f) #[] xs, ty, pos, af, none⟩ t r nx ⟨(xs.toList.zip l).flatMap fun p => needO p.1 p.2, []⟩ [] ⟨[(dst, .fn (.func f) [] l)], []⟩ := by
  have hz : ∀ (j : Nat) (x : Operand) (c : CT), xs[j]? = some x → l[j]? = some c → ∀ p ∈ needO x c, p ∈ (xs.toList.zip l).flatMap fun p => needO p.1 p.2 := fun j x c hx hc p hp => by
    refine List.mem_flatMap.2 ⟨(x, c), List.mem_of_getElem? (i := j) ?_, hp⟩
    rw [List.getElem?_zip_eq_some]
    exact ⟨by simpa using hx, hc⟩
  refine sg_q (by simp) ⟨fun p hp => ?_, fun p hp => by cases hp⟩ fun U S a w N bs FP hd hR => ?_
  · obtain ⟨q, hq, hp⟩ := List.mem_flatMap.1 hp
    obtain ⟨j, hj⟩ := List.mem_iff_getElem?.1 hq
    rw [List.getElem?_zip_eq_some] at hj
    exact need_ok (h j q.1 q.2 (by simpa using hj.1) hj.2) p hp
  · refine ⟨.func (.func f) #[] (xs.map a.eval), by simp [execOp, Instr.makeFunc], .fn _ _ rfl (by simpa using hl) (fun j c hj => by simp at hj) fun j c hj => ?_⟩
    have hj' : j < xs.size := by rw [hl]; exact (List.getElem?_eq_some_iff.1 hj).1
    have hx : xs[j]? = some xs[j] := Array.getElem?_eq_getElem hj'
    have := hR.ev xs[j]
    rw [ev_again (h j _ c hx hj) fun p hp => hd.t p (hz j _ c hx hj p hp)] at this
    simpa [hj'] using this
end
end Go.Proofs.YtpeafglbhjjbhaaDoor

