/- Texts: what a call that tells a text leaves; the data of package api that are read. -/
import Derived.Test.YtacopdbldfgknaaDoorOpen
import Derived.Test.YtacopdbldfgknaaDoorOrd2
import Derived.Test.YtacopdbldfgknaaDoorTSh
import Derived.Lib.Hide
import Derived.Lib.LaidTab
namespace Go.Proofs.YtacopdbldfgknaaDoor
open Go.RowKit

/-- A text as a value. -/
abbrev T (s : List UInt8) : Value := .string ⟨s.toArray⟩
/-- The call tells the text l (of at most M bytes); what was there is as it was. -/
def TX (w : World) (l : List UInt8) (M : Nat) (e : Ending) (w' : World) : Prop :=
  ∃ s : List UInt8, e = .returned (T s) ∧ Hid (s = l) ∧ s.length ≤ M ∧ Hid (Below w.heap.size w w')
theorem TX.mk {w w' : World} {l : List UInt8} {M : Nat} {b : ByteArray} (h : b.data.toList = l) (hM : l.length ≤ M) (hb : Below w.heap.size w w') : TX w l M (.returned (.string b)) w' := by
  subst h
  exact ⟨_, rfl, Lib.hid rfl, hM, Lib.hid hb⟩
theorem TX.to {P : Program} {f : Nat} {args : Array Value} {w : World} {l l' : List UInt8} {M M' : Nat} (h : Calls P f args w (TX w l M)) (e : l = l') (hM : M ≤ M') : Calls P f args w (TX w l' M') := by
  subst e
  exact h.mono fun e w' ⟨s, a, b, c, d⟩ => ⟨s, a, b, Nat.le_trans c hM, d⟩
theorem T_of (b : ByteArray) : Value.string b = T b.data.toList := by cases b; rfl

/-! ### joined texts -/
/-- The texts of the first k ones, one behind the other. -/
def upto (f : Nat → List UInt8) (k : Nat) : List UInt8 := (List.range k).flatMap f
theorem upto_zero (f : Nat → List UInt8) : upto f 0 = [] := rfl
theorem upto_succ (f : Nat → List UInt8) (k : Nat) : upto f (k + 1) = upto f k ++ f k := by
  simp [upto, List.range_succ, List.flatMap_append]
theorem upto_len (f : Nat → List UInt8) (M : Nat) : ∀ k, (∀ i, i < k → (f i).length ≤ M) → (upto f k).length ≤ k * M
  | 0, _ => by simp [upto_zero]
  | k + 1, h => by
    rw [upto_succ, List.length_append, Nat.succ_mul]
    exact Nat.add_le_add (upto_len f M k fun i hi => h i (by omega)) (h k (by omega))
theorem upto_congr {f g : Nat → List UInt8} : ∀ k, (∀ i, i < k → f i = g i) → upto f k = upto g k
  | 0, _ => rfl
  | k + 1, h => by rw [upto_succ, upto_succ, upto_congr k (fun i hi => h i (by omega)), h k (by omega)]
end Go.Proofs.YtacopdbldfgknaaDoor
