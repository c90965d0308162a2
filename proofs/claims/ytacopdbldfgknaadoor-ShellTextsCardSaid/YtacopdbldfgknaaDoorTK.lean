/- A program as it lies in memory; its text; what is small. -/
import Derived.Test.YtacopdbldfgknaaDoorTU
namespace Go.Proofs.YtacopdbldfgknaaDoor
open Go Go.RowKit PShellTexts YtacopdbldfgknaaDoorW.PrintWords YtacopdbldfgknaaDoorW.PrintMore YtacopdbldfgknaaDoorW.PrintLast

structure S36 where
  f0 : List Int
  f1 : Int
def z36 : S36 := ⟨[], 0⟩
def k36 : Kd S36 := Kd.iso (Kd.pair (Kd.slice 3 (Kd.int .i64)) (Kd.int .i64)) (fun x : S36 => (x.f0, x.f1))
theorem k36_open {w : World} {x : S36} {cs : List Value} (h : k36.K w x cs) : ∃ A0 c0, cs = [.slice A0 x.f0.length c0, .int .i64 x.f1] ∧ x.f0.length ≤ c0 ∧ (Kd.int .i64).C w A0 x.f0.length x.f0 := by
  obtain ⟨_, _, rfl, ⟨A0, c0, rfl, l0, g0⟩, rfl⟩ := h
  exact ⟨A0, c0, rfl, l0, g0⟩
theorem at_T36 {w : World} {A : Option Addr} {n : Nat} {xs : List S36} (h : Kd.C k36 w A n xs) (i : Int) (h0 : 0 ≤ i) (h1 : i < n) : ∃ ad A0 c0, A = some ad ∧ w.cell? (ad.add (i.toNat * 2)) = some (.slice A0 (xs.getD i.toNat z36).f0.length c0) ∧ w.cell? ⟨(ad.add (i.toNat * 2)).block, (ad.add (i.toNat * 2)).off + 1, none⟩ = some (.int .i64 (xs.getD i.toNat z36).f1) ∧ (xs.getD i.toNat z36).f0.length ≤ c0 ∧ (Kd.int .i64).C w A0 (xs.getD i.toNat z36).f0.length (xs.getD i.toNat z36).f0 := by
  obtain ⟨ad, c, e, _, hK, hc0⟩ := Kd.C_get h z36 i h0 h1
  have hc : ∀ j u, c[j]? = some u → w.cell? (ad.add (i.toNat * 2 + j)) = some u := hc0
  obtain ⟨A0, c0, rfl, l0, g0⟩ := k36_open hK
  exact ⟨ad, A0, c0, e, hc 0 _ rfl, by rw [← add_field _ _ 1 (by omega)]; exact hc 1 _ rfl, l0, g0⟩
structure S38 where
  f0 : List Int
  f1 : List Int
def z38 : S38 := ⟨[], []⟩
def k38 : Kd S38 := Kd.iso (Kd.pair (Kd.slice 3 (Kd.int .i64)) (Kd.slice 3 (Kd.int .i64))) (fun x : S38 => (x.f0, x.f1))
theorem k38_open {w : World} {x : S38} {cs : List Value} (h : k38.K w x cs) : ∃ A0 c0 A1 c1, cs = [.slice A0 x.f0.length c0, .slice A1 x.f1.length c1] ∧ x.f0.length ≤ c0 ∧ (Kd.int .i64).C w A0 x.f0.length x.f0 ∧ x.f1.length ≤ c1 ∧ (Kd.int .i64).C w A1 x.f1.length x.f1 := by
  obtain ⟨_, _, rfl, ⟨A0, c0, rfl, l0, g0⟩, ⟨A1, c1, rfl, l1, g1⟩⟩ := h
  exact ⟨A0, c0, A1, c1, rfl, l0, g0, l1, g1⟩
theorem at_T38 {w : World} {A : Option Addr} {n : Nat} {xs : List S38} (h : Kd.C k38 w A n xs) (i : Int) (h0 : 0 ≤ i) (h1 : i < n) : ∃ ad A0 c0 A1 c1, A = some ad ∧ w.cell? (ad.add (i.toNat * 2)) = some (.slice A0 (xs.getD i.toNat z38).f0.length c0) ∧ w.cell? ⟨(ad.add (i.toNat * 2)).block, (ad.add (i.toNat * 2)).off + 1, none⟩ = some (.slice A1 (xs.getD i.toNat z38).f1.length c1) ∧ (xs.getD i.toNat z38).f0.length ≤ c0 ∧ (Kd.int .i64).C w A0 (xs.getD i.toNat z38).f0.length (xs.getD i.toNat z38).f0 ∧ (xs.getD i.toNat z38).f1.length ≤ c1 ∧ (Kd.int .i64).C w A1 (xs.getD i.toNat z38).f1.length (xs.getD i.toNat z38).f1 := by
  obtain ⟨ad, c, e, _, hK, hc0⟩ := Kd.C_get h z38 i h0 h1
  have hc : ∀ j u, c[j]? = some u → w.cell? (ad.add (i.toNat * 2 + j)) = some u := hc0
  obtain ⟨A0, c0, A1, c1, rfl, l0, g0, l1, g1⟩ := k38_open hK
  exact ⟨ad, A0, c0, A1, c1, e, hc 0 _ rfl, by rw [← add_field _ _ 1 (by omega)]; exact hc 1 _ rfl, l0, g0, l1, g1⟩
structure S41 where
  f0 : Int
  f1 : List S46
def z41 : S41 := ⟨0, []⟩
def k41 : Kd S41 := Kd.iso (Kd.pair (Kd.int .i64) (Kd.slice 46 k46)) (fun x : S41 => (x.f0, x.f1))
theorem k41_open {w : World} {x : S41} {cs : List Value} (h : k41.K w x cs) : ∃ A1 c1, cs = [.int .i64 x.f0, .slice A1 x.f1.length c1] ∧ x.f1.length ≤ c1 ∧ k46.C w A1 x.f1.length x.f1 := by
  obtain ⟨_, _, rfl, rfl, ⟨A1, c1, rfl, l1, g1⟩⟩ := h
  exact ⟨A1, c1, rfl, l1, g1⟩
theorem at_T41 {w : World} {A : Option Addr} {n : Nat} {xs : List S41} (h : Kd.C k41 w A n xs) (i : Int) (h0 : 0 ≤ i) (h1 : i < n) : ∃ ad A1 c1, A = some ad ∧ w.cell? (ad.add (i.toNat * 2)) = some (.int .i64 (xs.getD i.toNat z41).f0) ∧ w.cell? ⟨(ad.add (i.toNat * 2)).block, (ad.add (i.toNat * 2)).off + 1, none⟩ = some (.slice A1 (xs.getD i.toNat z41).f1.length c1) ∧ (xs.getD i.toNat z41).f1.length ≤ c1 ∧ k46.C w A1 (xs.getD i.toNat z41).f1.length (xs.getD i.toNat z41).f1 := by
  obtain ⟨ad, c, e, _, hK, hc0⟩ := Kd.C_get h z41 i h0 h1
  have hc : ∀ j u, c[j]? = some u → w.cell? (ad.add (i.toNat * 2 + j)) = some u := hc0
  obtain ⟨A1, c1, rfl, l1, g1⟩ := k41_open hK
  exact ⟨ad, A1, c1, e, hc 0 _ rfl, by rw [← add_field _ _ 1 (by omega)]; exact hc 1 _ rfl, l1, g1⟩
structure S26 where
  f0 : List S36
  f1 : List S38
  f2 : List S41
/-- The program p lies in block bp. -/
structure PM (w : World) (bp : Nat) (p : S26) : Prop where
  out : ∃ A0 c0 A1 c1 A2 c2, (w.cell? ⟨bp, 0, none⟩ = some (.slice A0 p.f0.length c0) ∧ w.cell? ⟨bp, 1, none⟩ = some (.slice A1 p.f1.length c1) ∧ w.cell? ⟨bp, 2, none⟩ = some (.slice A2 p.f2.length c2)) ∧
    (p.f0.length ≤ c0 ∧ k36.C w A0 p.f0.length p.f0) ∧ (p.f1.length ≤ c1 ∧ k38.C w A1 p.f1.length p.f1) ∧ (p.f2.length ≤ c2 ∧ k41.C w A2 p.f2.length p.f2)
theorem cell_b {w w' : World} {a : Addr} {v : Value} (h : w.cell? a = some v) (hb : Below w.heap.size w w') : w'.cell? a = some v := (hb.cell (World.block_lt_of_cell? w _ h)).trans h
theorem PM.below {w w' : World} {bp : Nat} {p : S26} (h : PM w bp p) (hb : Below w.heap.size w w') : PM w' bp p := by
  obtain ⟨A0, c0, A1, c1, A2, c2, ⟨h0, h1, h2⟩, ⟨l0, g0⟩, ⟨l1, g1⟩, ⟨l2, g2⟩⟩ := h.out
  exact ⟨A0, c0, A1, c1, A2, c2, ⟨cell_b h0 hb, cell_b h1 hb, cell_b h2 hb⟩, ⟨l0, Kd.C_below g0 hb⟩, ⟨l1, Kd.C_below g1 hb⟩, ⟨l2, Kd.C_below g2 hb⟩⟩

/-! ### texts -/
def sigTx (s : S36) : List UInt8 := [115, 105, 103, 32, 40] ++ commas tyTx s.f0 ++ [41, 32] ++ tyTx s.f1 ++ [10]
def classTx (s : S38) : List UInt8 := [99, 108, 97, 115, 115, 32, 40] ++ commas tyTx s.f0 ++ [41, 32, 91] ++ commas Lib.itoa s.f1 ++ [93, 10]
def sigAt (l : List S36) (i : Nat) : List UInt8 := sigTx (l.getD i z36)
def classAt (l : List S38) (i : Nat) : List UInt8 := classTx (l.getD i z38)
def funAt (l : List S41) (i : Nat) : List UInt8 := funTx (l.getD i z41).f0 (l.getD i z41).f1
def progTx (p : S26) : List UInt8 := upto (sigAt p.f0) p.f0.length ++ upto (classAt p.f1) p.f1.length ++ upto (funAt p.f2) p.f2.length
structure okP (p : S26) : Prop where
  s : ∀ x ∈ p.f0, okL x.f0 ∧ In x.f1
  c : ∀ x ∈ p.f1, okL x.f0 ∧ okL x.f1
  f : ∀ x ∈ p.f2, okF x.f0 x.f1
  ls : p.f0.length ≤ 1000
  lc : p.f1.length ≤ 1000
  lf : p.f2.length ≤ 1000
theorem itoa_le22 (n : Int) (h : In n) : (Lib.itoa n).length ≤ 22 := by have := itoa_le n h; omega
theorem sigAt_le {p : S26} (h : okP p) (i : Nat) (hi : i < p.f0.length) : (sigAt p.f0 i).length ≤ 23100 := by
  have hx := getD_ok h.s (d := z36) hi
  have h1 := commas_le tyTx_le hx.1
  have h2 := tyTx_le _ hx.2
  simp only [sigAt, sigTx, List.length_append, List.length_cons, List.length_nil]; omega
theorem classAt_le {p : S26} (h : okP p) (i : Nat) (hi : i < p.f1.length) : (classAt p.f1 i).length ≤ 46100 := by
  have hx := getD_ok h.c (d := z38) hi
  have h1 := commas_le tyTx_le hx.1
  have h2 := commas_le itoa_le22 hx.2
  simp only [classAt, classTx, List.length_append, List.length_cons, List.length_nil]; omega
theorem funAt_le {p : S26} (h : okP p) (i : Nat) (hi : i < p.f2.length) : (funAt p.f2 i).length ≤ 80200000100 := funTx_le _ _ (getD_ok h.f (d := z41) hi)
theorem sigs_le {p : S26} (h : okP p) (k : Nat) (hk : k ≤ p.f0.length) : (upto (sigAt p.f0) k).length ≤ 23100000 := by
  have := upto_len (sigAt p.f0) 23100 k (fun i hi => sigAt_le h i (by omega))
  have := h.ls
  omega
theorem classes_le {p : S26} (h : okP p) (k : Nat) (hk : k ≤ p.f1.length) : (upto (classAt p.f1) k).length ≤ 46100000 := by
  have := upto_len (classAt p.f1) 46100 k (fun i hi => classAt_le h i (by omega))
  have := h.lc
  omega
theorem funs_le {p : S26} (h : okP p) (k : Nat) (hk : k ≤ p.f2.length) : (upto (funAt p.f2) k).length ≤ 80200000100000 := by
  have := upto_len (funAt p.f2) 80200000100 k (fun i hi => funAt_le h i (by omega))
  have := h.lf
  omega
theorem progTx_le {p : S26} (h : okP p) : (progTx p).length ≤ 80200100000000 := by
  have := sigs_le h _ (Nat.le_refl _)
  have := classes_le h _ (Nat.le_refl _)
  have := funs_le h _ (Nat.le_refl _)
  rw [progTx, List.length_append, List.length_append]; omega
end Go.Proofs.YtacopdbldfgknaaDoor
