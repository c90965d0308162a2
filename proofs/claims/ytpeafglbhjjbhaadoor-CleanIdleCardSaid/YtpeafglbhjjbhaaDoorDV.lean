/- Deep words, two and twentieth part: what a state tells. -/
import Derived.Test.YtpeafglbhjjbhaaDoorDU
namespace Go.Proofs.YtpeafglbhjjbhaaDoor
open Go Go.RowKit

section
variable {F : Fence} {n : Nat} {P : Program} {X : Cx} {Q : Exit → St → Prop} {S : St} {c : Code}
/-- A slice that is read isn't too long. -/
theorem w_len {e sz : Nat} {els : List (List CT)} (t : Nat) (h : S.tm t = .ro (.sl e sz els)) (hK : els.length ≤ 9223372036854775807 → W F n P X c S Q) : W F n P X c S Q := fun a w hR => by
  refine hK ?_ a w hR
  obtain ⟨N, bs, FP, hR⟩ := hR
  have h1 := hR.ts t
  rw [h] at h1
  have h2 := h1.out_ro
  generalize a.tmps.getD t undef = u at h2
  cases h2 with
  | sl A b off n cap us hn hA hc hm hz hw h1 hr => omega
/-- A row of one's own isn't too long. -/
theorem w_lenR {R : Root} (k : Nat) (h : S.rt k = some R) (hK : R.els.length ≤ 9223372036854775807 → W F n P X c S Q) : W F n P X c S Q := fun a w hR => by
  refine hK ?_ a w hR
  obtain ⟨N, bs, FP, hR⟩ := hR
  obtain ⟨x, hx, hv⟩ := hR.rs k R h
  obtain ⟨e, sz, els⟩ := R
  simp only at hv ⊢
  generalize hdr x els.length = u at hv
  cases hv with
  | nil => simp
  | own g off n cap cur us Q hn hg hh hs hc hm hz hQ hd hw h1 hr => omega
end
end Go.Proofs.YtpeafglbhjjbhaaDoor

