import Derived.Test.YtakpikoffbgjfaaOpen
import Derived.Test.YtakpikoffbgjfaaLawAlone
namespace Go.Proofs.Ytakpikoffbgjfaa
open Go.ChangeShapes Go.WideShapes Go.ChangeAt Go.RowKit Go.Deep

instance actSome : Inhabited AC := ⟨⟨0, 0, 0, 0, V0, false⟩⟩
section
variable {H : Type} {enc' : TypeId × Value → H} {W : World}
theorem open_val {fuel : Nat} {cs : List Value} {x : DataW H × List MemPlace} (h : DataW.trod enc' Try.prog W 0 (fun _ => true) true fuel 30 cs = some x) : ∃ v : VV, cs = v.cs := by
  obtain ⟨xs, n, _, _, hl, hlen, hf⟩ := DataW.trod_struct Try.underlying30 h
  have c30 : Try.prog.cellsOf 30 = 3 := by kernel_rfl
  have c2 : Try.prog.cellsOf 2 = 1 := by kernel_rfl
  have c3 : Try.prog.cellsOf 3 = 1 := by kernel_rfl
  have c9 : Try.prog.cellsOf 9 = 1 := by kernel_rfl
  rw [c30] at hl
  match cs, hl with
  | [a0, a1, a2], _ =>
    match xs, hlen with
    | [y0, y1, y2], _ =>
      have h0 : DataW.trod enc' Try.prog W 0 (fun _ => true) true n 2 (List.take (Try.prog.cellsOf 2) [a0, a1, a2]) = some y0 := hf 0 _ rfl
      rw [c2] at h0
      have h1 : DataW.trod enc' Try.prog W 0 (fun _ => true) true n 9 (List.take (Try.prog.cellsOf 9) [a1, a2]) = some y1 := hf 1 _ rfl
      rw [c9] at h1
      have h2 : DataW.trod enc' Try.prog W 0 (fun _ => true) true n 3 (List.take (Try.prog.cellsOf 3) [a2]) = some y2 := hf 2 _ rfl
      rw [c3] at h2
      simp only [List.take] at h0 h1 h2
      obtain ⟨n0, e0, _⟩ := DataW.trod_int Try.underlying2 h0
      obtain ⟨s1, e1, _⟩ := DataW.trod_string Try.underlying9 h1
      obtain ⟨n2, e2, _⟩ := DataW.trod_int Try.underlying3 h2
      cases e0; cases e1; cases e2
      exact ⟨⟨n0, s1, n2⟩, rfl⟩
theorem open_act {fuel : Nat} {cs : List Value} {x : DataW H × List MemPlace} (h : DataW.trod enc' Try.prog W 0 (fun _ => true) true fuel 45 cs = some x) : ∃ a : AC, cs = a.cs ∧ a.good := by
  obtain ⟨xs, n, _, _, hl, hlen, hf⟩ := DataW.trod_struct Try.underlying45 h
  have c45 : Try.prog.cellsOf 45 = 8 := by kernel_rfl
  have c30 : Try.prog.cellsOf 30 = 3 := by kernel_rfl
  have c2 : Try.prog.cellsOf 2 = 1 := by kernel_rfl
  have c3 : Try.prog.cellsOf 3 = 1 := by kernel_rfl
  have c4 : Try.prog.cellsOf 4 = 1 := by kernel_rfl
  rw [c45] at hl
  match cs, hl with
  | [a0, a1, a2, a3, a4, a5, a6, a7], _ =>
    match xs, hlen with
    | [y0, y1, y2, y3, y4, y5], _ =>
      have h0 : DataW.trod enc' Try.prog W 0 (fun _ => true) true n 3 (List.take (Try.prog.cellsOf 3) [a0, a1, a2, a3, a4, a5, a6, a7]) = some y0 := hf 0 _ rfl
      rw [c3] at h0
      have h1 : DataW.trod enc' Try.prog W 0 (fun _ => true) true n 3 (List.take (Try.prog.cellsOf 3) [a1, a2, a3, a4, a5, a6, a7]) = some y1 := hf 1 _ rfl
      rw [c3] at h1
      have h2 : DataW.trod enc' Try.prog W 0 (fun _ => true) true n 2 (List.take (Try.prog.cellsOf 2) [a2, a3, a4, a5, a6, a7]) = some y2 := hf 2 _ rfl
      rw [c2] at h2
      have h3 : DataW.trod enc' Try.prog W 0 (fun _ => true) true n 2 (List.take (Try.prog.cellsOf 2) [a3, a4, a5, a6, a7]) = some y3 := hf 3 _ rfl
      rw [c2] at h3
      have h4 : DataW.trod enc' Try.prog W 0 (fun _ => true) true n 30 (List.take (Try.prog.cellsOf 30) [a4, a5, a6, a7]) = some y4 := hf 4 _ rfl
      rw [c30] at h4
      have h5 : DataW.trod enc' Try.prog W 0 (fun _ => true) true n 4 (List.take (Try.prog.cellsOf 4) [a7]) = some y5 := hf 5 _ rfl
      rw [c4] at h5
      simp only [List.take] at h0 h1 h2 h3 h4 h5
      obtain ⟨n0, e0, _⟩ := DataW.trod_int Try.underlying3 h0
      obtain ⟨n1, e1, _⟩ := DataW.trod_int Try.underlying3 h1
      obtain ⟨n2, e2, _, w2⟩ := DataW.trod_int Try.underlying2 h2
      obtain ⟨n3, e3, _, w3⟩ := DataW.trod_int Try.underlying2 h3
      obtain ⟨v, e4⟩ := open_val h4
      obtain ⟨b5, e5, _⟩ := DataW.trod_bool Try.underlying4 h5
      cases e0; cases e1; cases e2; cases e3; cases e5
      simp only [VV.cs, List.cons.injEq, and_true] at e4
      obtain ⟨rfl, rfl, rfl⟩ := e4
      exact ⟨⟨n0, n1, n2, n3, v, b5⟩, rfl, w2, w3⟩
theorem open_acts {A : Option Addr} {len cap : Nat} {d : DataW H} {p : List MemPlace} (h : DataW.Trod enc' Try.prog W 0 (fun _ => true) true 43 (.slice A len cap) d p) :
    ∃ xs : List AC, xs.length = len ∧ Rd W (.slice A len cap) len (acs xs) ∧ (∀ a ∈ xs, a.good) := by
  obtain ⟨xs, h1, h2, h3, _⟩ := open_rd (sz := 8) AC.cs AC.good (by omega) (fun _ => rfl) Try.underlying43 (by kernel_rfl) (fun fuel cs x hx => open_act hx) h
  exact ⟨xs, h1, h2, h3⟩
end
end Go.Proofs.Ytakpikoffbgjfaa
