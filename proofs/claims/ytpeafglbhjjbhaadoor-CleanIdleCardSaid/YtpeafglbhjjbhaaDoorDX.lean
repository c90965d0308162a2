/- Deep words, four and twentieth part: what stays as it is, under new names; shorter ends. -/
import Derived.Test.YtpeafglbhjjbhaaDoorDW
namespace Go.Proofs.YtpeafglbhjjbhaaDoor
open Go Go.RowKit

def invK : Nm → Nat → Option Nat
  | [], _ => none
  | (_, none) :: l, r => invK l r
  | (n, some o) :: l, r => if o = r then some n else invK l r
def rnc (κ : Nm) : CT → CT
  | .rf r lo n sz => .rf ((invK κ r).getD 0) lo n sz
  | .ad r sz i o => .ad ((invK κ r).getD 0) sz i o
  | c => c
def okK (κ : Nm) (r : Nat) : Bool := match invK κ r with
  | some n => (match lk none κ n with | some o => Nat.beq o r | none => false)
  | none => false
def capB : CT → Bool
  | .v _ | .ro _ => true
  | _ => false
theorem capB_ok {l : List CT} (h : l.all capB = true) : ∀ c ∈ l, Cl true c := fun c hc => by
  have := List.all_eq_true.1 h c hc
  cases c <;> first | exact .v _ | exact .ro _ rfl | cases this
def rnB (κ : Nm) : CT → Bool
  | .v _ | .ro _ | .un => true
  | .fn _ [] l => l.all capB
  | .rf r _ _ _ | .ad r _ _ _ => okK κ r
  | _ => false
theorem okK_ok {κ : Nm} {r : Nat} (h : okK κ r = true) : lk none κ ((invK κ r).getD 0) = some r := by
  unfold okK at h
  split at h
  · rename_i n hn
    rw [hn]
    simp only [Option.getD_some]
    split at h
    · rename_i o ho
      rw [ho, Nat.eq_of_beq_eq_true h]
    · cases h
  · cases h
theorem rnc_ok {κ : Nm} {c : CT} (h : rnB κ c = true) : Rn κ c (rnc κ c) := by
  cases c with
  | v x => exact .v rfl
  | ro c => exact .ro rfl
  | un => exact .un _
  | rf r lo n sz => exact .rf (okK_ok h) rfl
  | ad r sz i o => exact .ad (okK_ok h) rfl
  | fn f a l =>
    cases a with
    | nil => exact .fn rfl (capB_ok h)
    | cons => cases h
  | _ => cases h
theorem RnL.s {κ : Nm} {l : List CT} (h : l.all (rnB κ) = true) : RnL κ l (l.map (rnc κ)) := by
  induction l with
  | nil => exact .nil
  | cons c l ih =>
    simp only [List.all_cons, Bool.and_eq_true] at h
    exact .cons (rnc_ok h.1) (ih h.2)
theorem is_rnB {κ : Nm} {c : CT} (h : rnB κ c = true) : Is c c := by
  cases c <;> first | constructor | cases h
theorem TL.s {κ : Nm} {S : St} {t : Nat} {l : List (Nat × CT)} (h : TL κ S l) (hok : rnB κ (S.tm t) = true) : TL κ S ((t, rnc κ (S.tm t)) :: l) := .cons (is_rnB hok) (rnc_ok hok) h
theorem TL.g {κ : Nm} {S : St} {t : Nat} {cs : List CT} {l : List (Nat × CT)} (h : TL κ S l) (ht : S.tm t = .ag cs) (hok : cs.all (rnB κ) = true) : TL κ S ((t, .ag (cs.map (rnc κ))) :: l) := .ag ht (.s hok) h
end Go.Proofs.YtpeafglbhjjbhaaDoor

