/- Deep words, seventeenth part: what stands behind a piece of code. -/
import Derived.Test.YtpeafglbhjjbhaaDoorDP
namespace Go.Proofs.YtpeafglbhjjbhaaDoor
open Go Go.RowKit

section
variable {F : Fence} {n : Nat} {P : Program} {X : Cx} {Q Q' : Exit → St → Prop} {S : St} {K : St → Prop} {id id' : Nat} {b : Code}
theorem q_seq (h : W F n P X b S Q) : QThen (fun S' => W F n P X b S' Q) Q' .normal S := h
theorem q_exS (h : Q (.exit id) S) : QThen K Q (.exit id) S := h
theorem q_reS (h : Q .ret S) : QThen K Q .ret S := h
theorem q_in (h : Q .normal S) : QIn id Q .normal S := h
theorem q_here (h : Q .normal S) : QIn id Q (.exit id) S := by simp only [QIn, if_true]; exact h
theorem q_far (hne : Nat.beq id' id = false) (h : Q (.exit id') S) : QIn id Q (.exit id') S := by
  have : id' ≠ id := fun e => by subst e; simp at hne
  simp only [QIn, if_neg this]
  exact h
theorem q_reI (h : Q .ret S) : QIn id Q .ret S := h
theorem q_join {J : St} (h : St.le X S J) : QThen (fun S' => St.le X S' J) Q .normal S := h
theorem q_end {fn : Func} {post : CT → Prop} {x : Exit} (hx : x = .normal ∨ x = .ret) (h : RetOK P fn X S post) : (fun (x : Exit) (S : St) => (x = .normal ∨ x = .ret) ∧ RetOK P fn X S post) x S := ⟨hx, h⟩
end
end Go.Proofs.YtpeafglbhjjbhaaDoor

