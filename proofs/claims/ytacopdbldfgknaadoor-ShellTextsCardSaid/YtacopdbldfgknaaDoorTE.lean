/- The texts that are told, in plain Lean (printed by wip/mk_ts.py). Plain laws: how long the texts are. -/
import Derived.Test.YtacopdbldfgknaaDoorTD
namespace Go.Proofs.YtacopdbldfgknaaDoor
open Go.RowKit PShellTexts YtacopdbldfgknaaDoorW.PrintWords YtacopdbldfgknaaDoorW.PrintMore

def stepW : List (List UInt8) := [[105, 110, 116], [98, 111, 111, 108], [116, 101, 120, 116], [97, 114, 105, 116, 104], [110, 111, 116], [99, 97, 116], [108, 111, 110, 103], [98, 121, 116, 101], [97, 108, 105, 107, 101], [110, 101, 119], [103, 101, 116], [115, 101, 116], [109, 97, 107, 101], [114, 111, 111, 109], [115, 105, 122, 101], [97, 116], [112, 117, 116], [116, 97, 98, 108, 101], [101, 110, 116, 101, 114], [108, 111, 111, 107], [99, 111, 117, 110, 116], [107, 101, 121], [102, 97, 99, 101], [99, 97, 108, 108], [97, 115, 107], [116, 101, 108, 108]]
def typeW : List (List UInt8) := [[110, 111, 110, 101], [105, 110, 116], [98, 111, 111, 108], [116, 101, 120, 116], [115, 108, 105, 99, 101], [116, 97, 98, 108, 101], [102, 97, 99, 101]]
def signW : List (List UInt8) := [[97, 100, 100], [115, 117, 98], [109, 117, 108], [100, 105, 118], [114, 101, 109], [97, 110, 100], [111, 114], [120, 111, 114], [115, 104, 108], [115, 104, 114], [108, 101, 115, 115], [109, 111, 115, 116], [115, 97, 109, 101], [101, 108, 115, 101]]
def toldW : List (List UInt8) := [[115, 97, 109, 101], [98, 97, 100], [115, 104, 97, 112, 101], [115, 116, 97, 108, 101], [111, 116, 104, 101, 114], [104, 105, 103, 104, 101, 114], [101, 120, 116, 114, 97]]
def fldW : List (List UInt8) := [[78], [78], [83], [78, 65, 66], [65], [65, 66], [65], [65, 66], [65, 66], [78, 76, 75], [78, 65], [78, 65, 66], [78, 75], [65], [65], [65, 66], [65, 66, 67], [75], [65, 66, 67], [65, 66], [65], [65, 66], [65], [78, 76], [78, 65, 76], [65]]
def stepS : ByteArray := ⟨#[105, 110, 116, 32, 98, 111, 111, 108, 32, 116, 101, 120, 116, 32, 97, 114, 105, 116, 104, 32, 110, 111, 116, 32, 99, 97, 116, 32, 108, 111, 110, 103, 32, 98, 121, 116, 101, 32, 97, 108, 105, 107, 101, 32, 110, 101, 119, 32, 103, 101, 116, 32, 115, 101, 116, 32, 109, 97, 107, 101, 32, 114, 111, 111, 109, 32, 115, 105, 122, 101, 32, 97, 116, 32, 112, 117, 116, 32, 116, 97, 98, 108, 101, 32, 101, 110, 116, 101, 114, 32, 108, 111, 111, 107, 32, 99, 111, 117, 110, 116, 32, 107, 101, 121, 32, 102, 97, 99, 101, 32, 99, 97, 108, 108, 32, 97, 115, 107, 32, 116, 101, 108, 108]⟩
def typeS : ByteArray := ⟨#[110, 111, 110, 101, 32, 105, 110, 116, 32, 98, 111, 111, 108, 32, 116, 101, 120, 116, 32, 115, 108, 105, 99, 101, 32, 116, 97, 98, 108, 101, 32, 102, 97, 99, 101]⟩
def signS : ByteArray := ⟨#[97, 100, 100, 32, 115, 117, 98, 32, 109, 117, 108, 32, 100, 105, 118, 32, 114, 101, 109, 32, 97, 110, 100, 32, 111, 114, 32, 120, 111, 114, 32, 115, 104, 108, 32, 115, 104, 114, 32, 108, 101, 115, 115, 32, 109, 111, 115, 116, 32, 115, 97, 109, 101, 32, 101, 108, 115, 101]⟩

/-- One of some words; '?': there is none. -/
def nameTx (l : List (List UInt8)) (n : Int) : List UInt8 := if 0 ≤ n ∧ n < l.length then l.getD n.toNat [] else [63]
def In (n : Int) : Prop := -9223372036854775808 ≤ n ∧ n ≤ 9223372036854775807
def okL (l : List Int) : Prop := (∀ x ∈ l, In x) ∧ l.length ≤ 1000
/-- A type. -/
def tyTx (t : Int) : List UInt8 := if 6 ≤ t then 42 :: Lib.itoa (t - 6) else nameTx typeW (t + 1)
/-- A value. -/
def vTx (n : Int) : List UInt8 := 118 :: Lib.itoa n
/-- Numbers with commas between. -/
def comma (f : Int → List UInt8) (l : List Int) (i : Nat) : List UInt8 := (if i = 0 then [] else [44]) ++ f (l.getD i 0)
def commas (f : Int → List UInt8) (l : List Int) : List UInt8 := upto (comma f l) l.length
/-- Which fields a step has. -/
def flds (k : Int) : List UInt8 := if 0 ≤ k ∧ k < 26 then fldW.getD k.toNat [] else []
def hasF (k : Int) (c : Int) : Bool := (flds k).any fun b => decide ((b.toNat : Int) = c)
/-- A quote. -/
def hexd (n : Nat) : UInt8 := UInt8.ofNat (if n < 10 then 48 + n else 87 + n)
def qb (c : Nat) : List UInt8 := if c = 34 ∨ c = 92 then [92, UInt8.ofNat c] else if c < 32 ∨ 126 < c then [92, hexd (c / 16), hexd (c % 16)] else [UInt8.ofNat c]
def quoteTx (s : List UInt8) : List UInt8 := 34 :: (s.flatMap fun c => qb c.toNat) ++ [34]
/-- A step's field. -/
def fTx (o : S48) (c : UInt8) : List UInt8 :=
  if c = 78 then 32 :: (if o.f0 = 3 then nameTx signW o.f4 else Lib.itoa o.f4)
  else if c = 83 then 32 :: quoteTx o.f5.data.toList
  else if c = 65 then 32 :: vTx o.f1
  else if c = 66 then 32 :: vTx o.f2
  else if c = 67 then 32 :: vTx o.f3
  else if c = 76 then 32 :: 40 :: commas vTx o.f6 ++ [41]
  else if o.f7 = true then [32, 115, 116, 97, 99, 107] else []
def opTx (o : S48) : List UInt8 := nameTx stepW o.f0 ++ (flds o.f0).flatMap (fTx o)
/-- An end. -/
def toTx (n : Int) (l : List Int) : List UInt8 := Lib.itoa n ++ 40 :: commas vTx l ++ [41]
def endTx (e : S44) : List UInt8 :=
  if e.f0 = 0 then [106, 117, 109, 112, 32] ++ toTx e.f2 e.f4
  else if e.f0 = 1 then [98, 114, 97, 110, 99, 104, 32] ++ vTx e.f1 ++ 32 :: toTx e.f2 e.f4 ++ 32 :: toTx e.f3 e.f5
  else if e.f0 = 2 then [114, 101, 116, 32] ++ vTx e.f1
  else if e.f0 = 3 then [115, 116, 111, 112, 32] ++ vTx e.f1
  else [63]
/-- A function: its step number n; block i from value n on. -/
def stepTx (b : S46) (n : Nat) (k : Nat) : List UInt8 := [32, 32] ++ vTx ((n + k : Nat) : Int) ++ [32, 61, 32] ++ opTx (b.f1.getD k z48) ++ [10]
def blockTx (n i : Nat) (b : S46) : List UInt8 :=
  Lib.itoa i ++ 40 :: commas tyTx b.f0 ++ [41, 10] ++ upto (stepTx b (n + b.f0.length)) b.f1.length ++ [32, 32] ++ endTx b.f2 ++ [10]
/-- How many values the blocks ahead of i have. -/
def firstAt (bs : List S46) : Nat → Nat
  | 0 => 0
  | i + 1 => firstAt bs i + ((bs.getD i z46).f0.length + (bs.getD i z46).f1.length)
def funHd (ret : Int) : List UInt8 := [102, 117, 110, 99, 32] ++ tyTx ret ++ [10]
def blockAt (bs : List S46) (i : Nat) : List UInt8 := blockTx (firstAt bs i) i (bs.getD i z46)
def funTx (ret : Int) (bs : List S46) : List UInt8 := funHd ret ++ upto (blockAt bs) bs.length

/-! ### what is small -/
def okO (o : S48) : Prop := In o.f0 ∧ In o.f1 ∧ In o.f2 ∧ In o.f3 ∧ In o.f4 ∧ o.f5.size ≤ 8007 ∧ okL o.f6
def okE (e : S44) : Prop := In e.f0 ∧ In e.f1 ∧ In e.f2 ∧ In e.f3 ∧ okL e.f4 ∧ okL e.f5
def okB (b : S46) : Prop := okL b.f0 ∧ (∀ o ∈ b.f1, okO o) ∧ b.f1.length ≤ 1000 ∧ okE b.f2
def okF (ret : Int) (bs : List S46) : Prop := In ret ∧ (∀ b ∈ bs, okB b) ∧ bs.length ≤ 1000
end Go.Proofs.YtacopdbldfgknaaDoor
namespace Go.Proofs.YtacopdbldfgknaaDoor
open Go.RowKit PShellTexts YtacopdbldfgknaaDoorW.PrintWords YtacopdbldfgknaaDoorW.PrintMore

theorem itoa_le (n : Int) (h : In n) : (Lib.itoa n).length ≤ 21 := Lib.itoa_length_le n h.1 h.2
theorem vTx_le (n : Int) (h : In n) : (vTx n).length ≤ 22 := by have := itoa_le n h; simp only [vTx, List.length_cons]; omega
theorem nameTx_le (l : List (List UInt8)) (hl : ∀ x ∈ l, x.length ≤ 6) (n : Int) : (nameTx l n).length ≤ 6 := by
  unfold nameTx
  split
  · rename_i h
    have hn : n.toNat < l.length := by omega
    rw [List.getD_eq_getElem?_getD, List.getElem?_eq_getElem hn]
    exact hl _ (List.getElem_mem hn)
  · simp
theorem stepW_le : ∀ x ∈ stepW, x.length ≤ 6 := by decide
theorem typeW_le : ∀ x ∈ typeW, x.length ≤ 6 := by decide
theorem signW_le : ∀ x ∈ signW, x.length ≤ 6 := by decide
theorem toldW_le : ∀ x ∈ toldW, x.length ≤ 6 := by decide
theorem tyTx_le (n : Int) (h : In n) : (tyTx n).length ≤ 22 := by
  unfold tyTx
  split
  · have := itoa_le (n - 6) ⟨by unfold In at h; omega, by unfold In at h; omega⟩
    simp only [List.length_cons]; omega
  · have := nameTx_le typeW typeW_le (n + 1); omega
theorem okL_at {l : List Int} (h : okL l) (i : Nat) : In (l.getD i 0) := by
  rw [List.getD_eq_getElem?_getD]
  by_cases hi : i < l.length
  · rw [List.getElem?_eq_getElem hi]; exact h.1 _ (List.getElem_mem hi)
  · rw [List.getElem?_eq_none (by omega)]; exact ⟨by simp, by simp⟩
theorem comma_le {f : Int → List UInt8} (hf : ∀ n, In n → (f n).length ≤ 22) {l : List Int} (h : okL l) (i : Nat) : (comma f l i).length ≤ 23 := by
  have := hf _ (okL_at h i)
  unfold comma
  rw [List.length_append]
  split
  · rw [List.length_nil]; omega
  · rw [List.length_cons, List.length_nil]; omega
theorem commasTo_le {f : Int → List UInt8} (hf : ∀ n, In n → (f n).length ≤ 22) {l : List Int} (h : okL l) (k : Nat) (hk : k ≤ l.length) : (upto (comma f l) k).length ≤ 23000 := by
  have h1 := upto_len (comma f l) 23 k (fun i _ => comma_le hf h i)
  have h2 := h.2
  omega
theorem commas_le {f : Int → List UInt8} (hf : ∀ n, In n → (f n).length ≤ 22) {l : List Int} (h : okL l) : (commas f l).length ≤ 23000 := commasTo_le hf h _ (Nat.le_refl _)
theorem qb_le (c : Nat) : (qb c).length ≤ 3 := by unfold qb; split <;> (try split) <;> simp
theorem quo_le (s : List UInt8) : (s.flatMap fun c => qb c.toNat).length ≤ 3 * s.length := by
  induction s with
  | nil => simp
  | cons a l ih => rw [List.flatMap_cons, List.length_append, List.length_cons]; have := qb_le a.toNat; omega
theorem quoteTx_le (s : List UInt8) : (quoteTx s).length ≤ 3 * s.length + 2 := by
  have := quo_le s
  simp only [quoteTx, List.length_append, List.length_cons, List.length_nil]; omega
theorem flds_le (k : Int) : (flds k).length ≤ 3 := by
  unfold flds
  split
  · rename_i h
    have hn : k.toNat < fldW.length := by have : fldW.length = 26 := rfl; omega
    rw [List.getD_eq_getElem?_getD, List.getElem?_eq_getElem hn]
    have : ∀ x ∈ fldW, x.length ≤ 3 := by decide
    exact this _ (List.getElem_mem hn)
  · simp
theorem fTx_le (o : S48) (h : okO o) (c : UInt8) : (fTx o c).length ≤ 24100 := by
  obtain ⟨h0, h1, h2, h3, h4, h5, h6⟩ := h
  have hv1 := vTx_le _ h1
  have hv2 := vTx_le _ h2
  have hv3 := vTx_le _ h3
  have hv4 := itoa_le _ h4
  have hs := nameTx_le signW signW_le o.f4
  have hc := commas_le vTx_le h6
  have hq := quoteTx_le o.f5.data.toList
  have hq' : o.f5.data.toList.length = o.f5.size := data_length _
  unfold fTx
  repeat' split
  all_goals simp only [List.length_cons, List.length_append, List.length_nil]
  all_goals omega
theorem flat_le {f : UInt8 → List UInt8} {M : Nat} (hf : ∀ c, (f c).length ≤ M) : ∀ l : List UInt8, (l.flatMap f).length ≤ l.length * M
  | [] => by simp
  | a :: l => by
    rw [List.flatMap_cons, List.length_append, List.length_cons, Nat.succ_mul]
    have := hf a
    have := flat_le hf l
    omega
theorem opTx_le (o : S48) (h : okO o) : (opTx o).length ≤ 80000 := by
  have h1 := flat_le (fTx_le o h) (flds o.f0)
  have h2 := flds_le o.f0
  have h3 := nameTx_le stepW stepW_le o.f0
  have h4 : (flds o.f0).length * 24100 ≤ 3 * 24100 := Nat.mul_le_mul_right _ h2
  rw [opTx, List.length_append]
  omega
theorem toTx_le (n : Int) (hn : In n) (l : List Int) (h : okL l) : (toTx n l).length ≤ 23100 := by
  have := itoa_le n hn
  have := commas_le vTx_le h
  simp only [toTx, List.length_append, List.length_cons, List.length_nil]; omega
theorem endTx_le (e : S44) (h : okE e) : (endTx e).length ≤ 47000 := by
  obtain ⟨h0, h1, h2, h3, h4, h5⟩ := h
  have := vTx_le _ h1
  have := toTx_le _ h2 _ h4
  have := toTx_le _ h3 _ h5
  unfold endTx
  repeat' split
  all_goals simp only [List.length_cons, List.length_append, List.length_nil]
  all_goals omega
theorem getD_ok {α : Type} {p : α → Prop} {l : List α} (h : ∀ x ∈ l, p x) {d : α} {i : Nat} (hi : i < l.length) : p (l.getD i d) := by
  rw [List.getD_eq_getElem?_getD, List.getElem?_eq_getElem hi]; exact h _ (List.getElem_mem hi)
theorem firstAt_le (bs : List S46) (h : ∀ b ∈ bs, okB b) : ∀ i, i ≤ bs.length → firstAt bs i ≤ i * 2000
  | 0, _ => by simp [firstAt]
  | i + 1, hi => by
    have h1 := firstAt_le bs h i (by omega)
    have h2 := getD_ok h (d := z46) (i := i) (by omega)
    have h3 := h2.1.2
    have h4 := h2.2.2.1
    simp only [firstAt]
    omega
theorem stepTx_le (b : S46) (h : okB b) (n k : Nat) (hk : k < b.f1.length) (hn : n ≤ 9000000000) : (stepTx b n k).length ≤ 80100 := by
  have h1 := opTx_le _ (getD_ok h.2.1 (d := z48) hk)
  have h2 := h.2.2.1
  have h3 := vTx_le ((n + k : Nat) : Int) ⟨by omega, by omega⟩
  simp only [stepTx, List.length_append, List.length_cons, List.length_nil]; omega
theorem steps_le (b : S46) (h : okB b) (n k : Nat) (hk : k ≤ b.f1.length) (hn : n ≤ 9000000000) : (upto (stepTx b n) k).length ≤ 80100000 := by
  have h1 := upto_len (stepTx b n) 80100 k (fun i hi => stepTx_le b h n i (by omega) hn)
  have h2 := h.2.2.1
  omega
theorem blockTx_le (n i : Nat) (b : S46) (h : okB b) (hn : n ≤ 8000000000) (hi : i ≤ 1000) : (blockTx n i b).length ≤ 80200000 := by
  have h1 := steps_le b h (n + b.f0.length) b.f1.length (Nat.le_refl _) (by have := h.1.2; omega)
  have h2 := itoa_le (i : Int) ⟨by omega, by omega⟩
  have h3 := commas_le tyTx_le h.1
  have h4 := endTx_le _ h.2.2.2
  simp only [blockTx, List.length_append, List.length_cons, List.length_nil]; omega
theorem blocksTo_le (ret : Int) (bs : List S46) (h : okF ret bs) (k : Nat) (hk : k ≤ bs.length) : (upto (blockAt bs) k).length ≤ 80200000000 := by
  have h1 := upto_len (blockAt bs) 80200000 k (fun i hi => blockTx_le _ i _ (getD_ok h.2.1 (by omega)) (by have := firstAt_le bs h.2.1 i (by omega); have := h.2.2; omega) (by have := h.2.2; omega))
  have h2 := h.2.2
  omega
theorem funHd_le (ret : Int) (h : In ret) : (funHd ret).length ≤ 30 := by
  have := tyTx_le ret h
  simp only [funHd, List.length_append, List.length_cons, List.length_nil]; omega
theorem funTx_le (ret : Int) (bs : List S46) (h : okF ret bs) : (funTx ret bs).length ≤ 80200000100 := by
  have := blocksTo_le ret bs h _ (Nat.le_refl _)
  have := funHd_le ret h.1
  rw [funTx, List.length_append]; omega
end Go.Proofs.YtacopdbldfgknaaDoor
