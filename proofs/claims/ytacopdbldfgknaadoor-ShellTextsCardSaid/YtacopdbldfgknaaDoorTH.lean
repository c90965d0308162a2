/- Plain laws: what the printed functions of the document tell. Plain laws: what the printed functions of the document tell of quotes, steps, ends and functions. Plain laws: what the printed functions of the document tell of functions; the first value of a block. -/
import Derived.Test.YtacopdbldfgknaaDoorTE
import Derived.Test.YtacopdbldfgknaaDoorPG
import Derived.Test.YtacopdbldfgknaaDoorPH
import Derived.Test.YtacopdbldfgknaaDoorPI
import Derived.Test.YtacopdbldfgknaaDoorPJ
import Derived.Lib.LazyBuf
import Derived.Test.YtacopdbldfgknaaDoorPF
namespace Go.Proofs.YtacopdbldfgknaaDoor
open Go.RowKit PShellTexts YtacopdbldfgknaaDoorW.PrintWords YtacopdbldfgknaaDoorW.PrintMore

/-! ### words -/
def cnt (s : ByteArray) : Nat → Nat → Nat
  | 0, _ => 0
  | d + 1, i => (if i = s.size ∨ bt s i = 32 then 1 else 0) + cnt s d (i + 1)
theorem word_none (s : ByteArray) (hs : s.size ≤ 1000) (n : Int) : ∀ (d i at_ : Nat) (from_ : Int), i + d = s.size + 1 → at_ ≤ i → (n < at_ ∨ at_ + cnt s d i ≤ n) → Ev (fun k => hallmarkref06_word.l0 k s n at_ from_ i) (B [63])
  | 0, i, at_, from_, h, hat, hn => by
    refine Ev.step (fun k => by simp only [hallmarkref06_word.l0]; rfl) ?_
    exact Ev.neg (by omega) (Ev.now _)
  | d + 1, i, at_, from_, h, hat, hn => by
    refine Ev.step (fun k => by simp only [hallmarkref06_word.l0]; rfl) ?_
    refine Ev.pos (by omega) ?_
    simp only [cnt] at hn
    have hw : wrap64 ((i : Int) + 1) = ((i + 1 : Nat) : Int) := by rw [w64 (by omega) (by omega)]; rfl
    have hw' : wrap64 ((at_ : Int) + 1) = ((at_ + 1 : Nat) : Int) := by rw [w64 (by omega) (by omega)]; rfl
    by_cases hi : (i : Int) = (s.size : Int)
    · refine Ev.pos hi ?_
      refine Ev.step (fun k => by simp only [hallmarkref06_word.j1]; rfl) ?_
      rw [if_pos (.inl (by omega))] at hn
      refine Ev.pos (by trivial) (Ev.neg (by omega) ?_)
      rw [hw, hw']
      exact word_none s hs n d (i + 1) (at_ + 1) _ (by omega) (by omega) (by omega)
    · refine Ev.neg hi (Ev.pos (by omega) (Ev.pos (by omega) ?_))
      refine Ev.step (fun k => by simp only [hallmarkref06_word.j1]; rfl) ?_
      by_cases hb : bt s i = 32
      · rw [if_pos (.inr hb)] at hn
        refine Ev.pos (by simp [hb]) (Ev.neg (by omega) ?_)
        rw [hw, hw']
        exact word_none s hs n d (i + 1) (at_ + 1) _ (by omega) (by omega) (by omega)
      · rw [if_neg (by omega)] at hn
        refine Ev.neg (by simp [hb]) ?_
        rw [hw]
        exact word_none s hs n d (i + 1) at_ _ (by omega) (by omega) (by omega)
theorem word_out (s : ByteArray) (hs : s.size ≤ 1000) (n : Int) (m : Nat) (hm : cnt s (s.size + 1) 0 = m) (hn : ¬ (0 ≤ n ∧ n < m)) : Ev (fun k => hallmarkref06_word.f k s n) (B [63]) := by
  unfold hallmarkref06_word.f
  exact word_none s hs n (s.size + 1) 0 0 0 (by omega) (Nat.le_refl _) (by omega)
theorem word_tab (s : ByteArray) (l : List (List UInt8)) (h : (List.range l.length).map (fun (n : Nat) => hallmarkref06_word.f 400 s n) = l.map (fun x => some (B x))) (n : Int) (hn : 0 ≤ n ∧ n < l.length) : Ev (fun k => hallmarkref06_word.f k s n) (B (l.getD n.toNat [])) := by
  obtain ⟨m, rfl⟩ := Int.eq_ofNat_of_zero_le hn.1
  have hm : m < l.length := by omega
  refine Ev.of (k := 400) (fun k => hallmarkref06_word.mono _ _ _) ?_
  have := congrArg (fun x => x[m]?) h
  simp [hm] at this
  simpa [hm] using this
theorem word_ev (s : ByteArray) (l : List (List UInt8)) (hs : s.size ≤ 1000) (hm : cnt s (s.size + 1) 0 = l.length) (h : (List.range l.length).map (fun (n : Nat) => hallmarkref06_word.f 400 s n) = l.map (fun x => some (B x))) (n : Int) :
    Ev (fun k => hallmarkref06_word.f k s n) (B (nameTx l n)) := by
  unfold nameTx
  by_cases hn : 0 ≤ n ∧ n < l.length
  · rw [if_pos hn]; exact word_tab s l h n hn
  · rw [if_neg hn]; exact word_out s hs n _ hm hn
theorem steps_ev (n : Int) : Ev (fun k => hallmarkref06_word.f k stepS n) (B (nameTx stepW n)) := word_ev stepS stepW (by decide) (by kernel_rfl) (by kernel_rfl) n
theorem types_ev (n : Int) : Ev (fun k => hallmarkref06_word.f k typeS n) (B (nameTx typeW n)) := word_ev typeS typeW (by decide) (by kernel_rfl) (by kernel_rfl) n
theorem signs_ev (n : Int) : Ev (fun k => hallmarkref06_word.f k signS n) (B (nameTx signW n)) := word_ev signS signW (by decide) (by kernel_rfl) (by kernel_rfl) n
/-! ### types, lists -/
theorem type_ev (t : Int) (h : In t) : Ev (fun k => hallmarkref06_Type.f k t) (B (tyTx t)) := by
  unfold In at h
  unfold hallmarkref06_Type.f tyTx
  by_cases h6 : 6 ≤ t
  · rw [if_pos h6]
    refine Ev.pos h6 ?_
    rw [w64' (by omega) (by omega)]
    refine Ev.bind (num6_ev (t - 6) (by omega) (by omega)) ?_
    have := itoa_le (t - 6) ⟨by omega, by omega⟩
    refine Ev.pos (by rw [B_size]; omega) ?_
    exact Ev.some' (B_app [42] _)
  · rw [if_neg h6]
    refine Ev.neg (by omega) ?_
    by_cases h1 : t < -1
    · refine Ev.pos h1 ?_
      unfold nameTx
      rw [if_neg (by omega)]
      exact Ev.now _
    · refine Ev.neg h1 ?_
      rw [w64' (by omega) (by omega)]
      refine Ev.bind (types_ev (t + 1)) (Ev.now _)
def howF (how : Int) : Int → List UInt8 := if how = 0 then tyTx else if how = 1 then vTx else Lib.itoa
theorem list_from (l : List Int) (hl : okL l) (how : Int) : ∀ d i : Nat, i + d = l.length → Ev (fun k => hallmarkref06_list.l0 k l how (B (upto (comma (howF how) l) i)) i) (B (commas (howF how) l))
  | 0, i, h => by
    refine Ev.step (fun k => by simp only [hallmarkref06_list.l0]; rfl) ?_
    refine Ev.neg (by omega) (Ev.some' ?_)
    obtain rfl : i = l.length := by omega
    rfl
  | d + 1, i, h => by
    have hF : ∀ n, In n → (howF how n).length ≤ 22 := by
      intro n hn
      unfold howF
      split
      · exact tyTx_le n hn
      · split
        · exact vTx_le n hn
        · have := itoa_le n hn; omega
    have hb := commasTo_le hF hl i (by omega)
    have hat := okL_at hl i
    have hn := hF _ hat
    have hrd : rd l i = l.getD i 0 := rfl
    have hw : wrap64 ((i : Int) + 1) = ((i + 1 : Nat) : Int) := by rw [w64 (by omega) (by have := hl.2; omega)]; rfl
    have hsu : upto (comma (howF how) l) (i + 1) = upto (comma (howF how) l) i ++ (if i = 0 then [] else [44]) ++ howF how (l.getD i 0) := by rw [upto_succ, comma, List.append_assoc]
    obtain ⟨X, hX⟩ : ∃ X, upto (comma (howF how) l) i ++ (if i = 0 then [] else [44]) = X := ⟨_, rfl⟩
    have hXl : X.length ≤ 23001 := by
      rw [← hX, List.length_append]
      split
      · rw [List.length_nil]; omega
      · rw [List.length_cons, List.length_nil]; omega
    rw [hX] at hsu
    have hit := list_from l hl how d (i + 1) (by omega)
    rw [hsu] at hit
    have hj : Ev (fun k => hallmarkref06_list.j1 k l how (B X) i) (B (commas (howF how) l)) := by
      refine Ev.step (fun k => by simp only [hallmarkref06_list.j1]; rfl) ?_
      rw [hw, hrd]
      unfold howF at hit hn hsu ⊢
      by_cases h0 : how = 0
      · rw [if_pos h0] at hit hn ⊢
        refine Ev.pos h0 (Ev.pos (by omega) (Ev.pos (by omega) ?_))
        refine Ev.bind (type_ev _ hat) ?_
        refine Ev.pos (by rw [B_size, B_size]; omega) ?_
        rw [B_app]
        exact hit
      · rw [if_neg h0] at hit hn ⊢
        refine Ev.neg h0 ?_
        by_cases h1 : how = 1
        · rw [if_pos h1] at hit hn ⊢
          refine Ev.pos h1 (Ev.pos (by rw [B_size]; omega) (Ev.pos (by omega) (Ev.pos (by omega) ?_)))
          refine Ev.bind (num6_ev _ hat.1 hat.2) ?_
          have := itoa_le _ hat
          have e : B X ++ (⟨#[118]⟩ : ByteArray) = B (X ++ [118]) := B_app _ _
          refine Ev.pos (by rw [e, B_size, B_size, List.length_append, List.length_cons, List.length_nil]; omega) ?_
          rw [e, B_app]
          simpa [vTx, List.append_assoc] using hit
        · rw [if_neg h1] at hit hn ⊢
          refine Ev.neg h1 (Ev.pos (by omega) (Ev.pos (by omega) ?_))
          refine Ev.bind (num6_ev _ hat.1 hat.2) ?_
          refine Ev.pos (by rw [B_size, B_size]; omega) ?_
          rw [B_app]
          exact hit
    refine Ev.step (fun k => by simp only [hallmarkref06_list.l0]; rfl) ?_
    refine Ev.pos (by omega) ?_
    by_cases hi : i = 0
    · rw [if_pos hi, List.append_nil] at hX
      rw [hX]
      exact Ev.neg (by omega) hj
    · rw [if_neg hi] at hX
      refine Ev.pos (by omega) (Ev.pos (by rw [B_size]; omega) ?_)
      have e : B (upto (comma (howF how) l) i) ++ (⟨#[44]⟩ : ByteArray) = B X := by rw [← hX]; exact B_app _ _
      rw [e]
      exact hj
theorem list_ev (l : List Int) (hl : okL l) (how : Int) : Ev (fun k => hallmarkref06_list.f k l how) (B (commas (howF how) l)) := by
  unfold hallmarkref06_list.f
  exact list_from l hl how l.length 0 (by omega)
/-! ### fields -/
theorem bt_B (l : List UInt8) (i : Nat) (h : i < l.length) : bt (B l) i = (l[i].toNat : Int) := by
  have hs : (i : Int).toNat < (B l).size := by rw [B_size]; omega
  rw [← bt_at (B l) i hs]
  rfl
theorem has_from (l : List UInt8) (hl : l.length ≤ 1000) (c : Int) : ∀ d i : Nat, i + d = l.length → Ev (fun k => hallmarkref04_Has.l0 k c (B l) i) ((l.drop i).any fun b => decide ((b.toNat : Int) = c))
  | 0, i, h => by
    refine Ev.step (fun k => by simp only [hallmarkref04_Has.l0]; rfl) ?_
    refine Ev.neg (by rw [B_size]; omega) (Ev.some' ?_)
    rw [List.drop_eq_nil_of_le (by omega)]; rfl
  | d + 1, i, h => by
    refine Ev.step (fun k => by simp only [hallmarkref04_Has.l0]; rfl) ?_
    have hi : i < l.length := by omega
    refine Ev.pos (by rw [B_size]; omega) (Ev.pos (by omega) ?_)
    rw [bt_B l i hi, List.drop_eq_getElem_cons hi, List.any_cons]
    by_cases hc : (l[i].toNat : Int) = c
    · refine Ev.pos hc (Ev.some' ?_); simp [hc]
    · refine Ev.neg hc ?_
      have hw : wrap64 ((i : Int) + 1) = ((i + 1 : Nat) : Int) := by rw [w64 (by omega) (by omega)]; rfl
      rw [hw]
      simpa [hc] using has_from l hl c d (i + 1) (by omega)
theorem flds_ev (n : Int) : Ev (fun k => hallmarkref04_Fields.f k n) (B (flds n)) := by
  by_cases h : 0 ≤ n ∧ n < 26
  · obtain ⟨m, rfl⟩ := Int.eq_ofNat_of_zero_le h.1
    refine Ev.of (k := 10) (fun k => hallmarkref04_Fields.mono _ _) ?_
    have ht : (List.range 26).map (fun (n : Nat) => hallmarkref04_Fields.f 10 n) = (List.range 26).map (fun (n : Nat) => some (B (flds n))) := by kernel_rfl
    have := congrArg (fun x => x[m]?) ht
    have hm : m < 26 := by omega
    simp [hm] at this
    simpa [hm] using this
  · unfold flds
    rw [if_neg h]
    refine Ev.of (k := 10) (fun k => hallmarkref04_Fields.mono _ _) ?_
    have hne : ∀ c : Int, 0 ≤ c → c < 26 → ¬ n = c := fun c h1 h2 e => h ⟨by omega, by omega⟩
    have hbe : ∀ c : Int, 0 ≤ c → c < 26 → (n == c) = false := fun c h1 h2 => beq_eq_false_iff_ne.2 (hne c h1 h2)
    simp [hallmarkref04_Fields.f, hallmarkref04_Fields.j0, hallmarkref04_Fields.j1, hallmarkref04_Fields.j2, hallmarkref04_Fields.j3, hallmarkref04_Fields.j4, hne, hbe]
theorem has_ev (n c : Int) : Ev (fun k => hallmarkref04_Has.f k n c) (hasF n c) := by
  unfold hallmarkref04_Has.f
  refine Ev.bind (flds_ev n) ?_
  have := has_from (flds n) (by have := flds_le n; omega) c (flds n).length 0 (by omega)
  simpa [hasF] using this
end Go.Proofs.YtacopdbldfgknaaDoor
namespace Go.Proofs.YtacopdbldfgknaaDoor
open Go.RowKit PShellTexts YtacopdbldfgknaaDoorW.PrintWords YtacopdbldfgknaaDoorW.PrintMore

/-! ### quotes -/
def N (l : List UInt8) : List Int := l.map fun b => (b.toNat : Int)
theorem N_app (a b : List UInt8) : N a ++ N b = N (a ++ b) := by simp [N]
theorem N_len (a : List UInt8) : (N a).length = a.length := by simp [N]
theorem N_str (a : List UInt8) : strOfNums (N a) = B a := Lib.Lz.strOfNums_map a
def preQ (s : List UInt8) (i : Nat) : List UInt8 := 34 :: ((s.take i).flatMap fun c => qb c.toNat)
theorem preQ_succ (s : List UInt8) (i : Nat) (h : i < s.length) : preQ s (i + 1) = preQ s i ++ qb (s[i].toNat) := by
  unfold preQ
  rw [List.take_succ_eq_append_getElem h, List.flatMap_append, List.cons_append]
  simp only [List.flatMap_cons, List.flatMap_nil, List.append_nil]
theorem preQ_le (s : List UInt8) (i : Nat) (h : i ≤ s.length) : (preQ s i).length ≤ 3 * s.length + 1 := by
  have := quo_le (s.take i)
  rw [List.length_take] at this
  simp only [preQ, List.length_cons]; omega
theorem hexd_ev (m : Nat) (h : m < 16) : hallmarkref02_Digit.f (m : Int) = some ((hexd m).toNat : Int) := by
  have ht : (List.range 16).map (fun (n : Nat) => hallmarkref02_Digit.f n) = (List.range 16).map (fun (n : Nat) => some ((hexd n).toNat : Int)) := by kernel_rfl
  have := congrArg (fun x => x[m]?) ht
  simpa [h] using this
theorem quote_from (s : List UInt8) (hs : s.length ≤ 8007) : ∀ d i : Nat, i + d = s.length → Ev (fun k => hallmarkref02_Quote.l0 k (B s) (N (preQ s i)) i) (B (quoteTx s))
  | 0, i, h => by
    have hp := preQ_le s i (by omega)
    refine Ev.step (fun k => by simp only [hallmarkref02_Quote.l0]; rfl) ?_
    refine Ev.neg (by rw [B_size]; omega) (Ev.pos (by rw [N_len]; omega) (Ev.some' ?_))
    obtain rfl : i = s.length := by omega
    have e : N (preQ s s.length) ++ [34] = N (preQ s s.length ++ [34]) := N_app _ [34]
    rw [e, N_str]
    simp [preQ, quoteTx]
  | d + 1, i, h => by
    have hp := preQ_le s i (by omega)
    have hi : i < s.length := by omega
    have hit := quote_from s hs d (i + 1) (by omega)
    rw [preQ_succ s i hi, ← N_app] at hit
    obtain ⟨c, hc⟩ : ∃ c, s[i] = c := ⟨_, rfl⟩
    have hb := bt_B s i hi
    rw [hc] at hit hb
    have hlt : c.toNat < 256 := c.toNat_lt
    have hw : wrap64 ((i : Int) + 1) = ((i + 1 : Nat) : Int) := by rw [w64 (by omega) (by omega)]; rfl
    refine Ev.step (fun k => by simp only [hallmarkref02_Quote.l0]; rfl) ?_
    refine Ev.pos (by rw [B_size]; omega) (Ev.pos (by omega) ?_)
    rw [hb]
    have hj : ∀ t : Bool, t = decide (c.toNat = 34 ∨ c.toNat = 92) → Ev (fun k => hallmarkref02_Quote.j1 k (B s) (N (preQ s i)) i (c.toNat : Int) t) (B (quoteTx s)) := by
      rintro t rfl
      refine Ev.step (fun k => by simp only [hallmarkref02_Quote.j1]; rfl) ?_
      by_cases h1 : c.toNat = 34 ∨ c.toNat = 92
      · refine Ev.pos (by simp [h1]) ?_
        simp only [Option.bind_some]
        refine Ev.pos (by rw [N_len]; simp only [List.length_cons, List.length_nil]; omega) ?_
        have e : N (qb c.toNat) = [92, (c.toNat : Int)] := by unfold qb; rw [if_pos h1]; simp [N]
        rw [e] at hit
        rw [hw]; exact hit
      · refine Ev.neg (by simp [h1]) ?_
        have hj2 : ∀ t : Bool, t = decide (c.toNat < 32 ∨ 126 < c.toNat) → Ev (fun k => hallmarkref02_Quote.j2 k (B s) (N (preQ s i)) i (c.toNat : Int) t) (B (quoteTx s)) := by
          rintro t rfl
          refine Ev.step (fun k => by simp only [hallmarkref02_Quote.j2]; rfl) ?_
          by_cases h2 : c.toNat < 32 ∨ 126 < c.toNat
          · refine Ev.pos (by simp [h2]) ?_
            have e1 : Int.tdiv (c.toNat : Int) 16 % 256 = ((c.toNat / 16 : Nat) : Int) := by
              have : Int.tdiv (c.toNat : Int) 16 = ((c.toNat / 16 : Nat) : Int) := rfl
              rw [this]; omega
            have e2 : Int.tmod (c.toNat : Int) 16 = ((c.toNat % 16 : Nat) : Int) := rfl
            rw [e1, e2]
            refine Ev.bind1 (hexd_ev _ (by omega)) (Ev.bind1 (hexd_ev _ (by omega)) ?_)
            simp only [Option.bind_some]
            refine Ev.pos (by rw [N_len]; simp only [List.length_cons, List.length_nil]; omega) ?_
            have e : N (qb c.toNat) = [92, ((hexd (c.toNat / 16)).toNat : Int), ((hexd (c.toNat % 16)).toNat : Int)] := by unfold qb; rw [if_neg h1, if_pos h2]; simp [N]
            rw [e] at hit
            rw [hw]; exact hit
          · refine Ev.neg (by simp [h2]) ?_
            refine Ev.pos (by rw [N_len]; omega) ?_
            have e : N (qb c.toNat) = [(c.toNat : Int)] := by unfold qb; rw [if_neg h1, if_neg h2]; simp [N]
            rw [e] at hit
            rw [hw]; exact hit
        by_cases h3 : (c.toNat : Int) < 32
        · exact Ev.pos h3 (hj2 true (by simp; omega))
        · refine Ev.neg h3 (hj2 _ ?_)
          have e3 : ¬ c.toNat < 32 := by omega
          simp [e3]
          omega
    by_cases h0 : (c.toNat : Int) = 34
    · exact Ev.pos h0 (hj true (by simp; omega))
    · refine Ev.neg h0 (hj _ ?_)
      have e0 : ¬ c.toNat = 34 := by omega
      by_cases h9 : c.toNat = 92
      · simp [h9]
      · have : ¬ (c.toNat : Int) = 92 := by omega
        simp [e0, h9, this]
theorem quote_ev (s : List UInt8) (hs : s.length ≤ 8007) : Ev (fun k => hallmarkref02_Quote.f k (B s)) (B (quoteTx s)) := by
  unfold hallmarkref02_Quote.f
  exact quote_from s hs s.length 0 (by omega)

/-! ### a step -/
/-- The document's order: field by field. -/
def opR (o : S48) (c : UInt8) : List UInt8 := if hasF o.f0 c.toNat = true then fTx o c else []
theorem opTx_doc (o : S48) : opTx o = nameTx stepW o.f0 ++ opR o 78 ++ opR o 83 ++ opR o 65 ++ opR o 66 ++ opR o 67 ++ opR o 76 ++ opR o 75 := by
  unfold opTx opR hasF
  simp only [List.append_assoc]
  congr 1
  by_cases h : 0 ≤ o.f0 ∧ o.f0 < 26
  · have hm : (flds o.f0) ∈ fldW := by
      unfold flds
      rw [if_pos h, List.getD_eq_getElem?_getD, List.getElem?_eq_getElem (by have : fldW.length = 26 := rfl; omega)]
      exact List.getElem_mem _
    generalize flds o.f0 = l at hm
    simp only [fldW, List.mem_cons, List.not_mem_nil, or_false] at hm
    rcases hm with rfl | rfl | rfl | rfl | rfl | rfl | rfl | rfl | rfl | rfl | rfl | rfl | rfl | rfl | rfl | rfl | rfl | rfl | rfl | rfl | rfl | rfl | rfl | rfl | rfl | rfl <;> simp
  · have : flds o.f0 = [] := by unfold flds; rw [if_neg h]
    simp [this]
theorem opR_le (o : S48) (h : okO o) (c : UInt8) : (opR o c).length ≤ 24100 := by
  unfold opR
  split
  · exact fTx_le o h c
  · simp


section
variable (o : S48) (ho : okO o)
include ho
theorem op_j5 (x : List UInt8) (hx : x.length ≤ 300000) : Ev (fun k => hallmarkref06_Op.j5 k (B x) o.f0 o.f1 o.f2 o.f3 o.f4 o.f5 o.f6 o.f7) (B (x ++ opR o 76 ++ opR o 75)) := by
  have hc := commas_le vTx_le ho.2.2.2.2.2.2
  refine Ev.step (fun k => by simp only [hallmarkref06_Op.j5]; rfl) ?_
  refine Ev.bind (has_ev o.f0 76) ?_
  have e76 : hasF o.f0 ((76 : UInt8).toNat : Nat) = hasF o.f0 76 := rfl
  have e75 : hasF o.f0 ((75 : UInt8).toNat : Nat) = hasF o.f0 75 := rfl
  unfold opR
  rw [e76, e75]
  have hk : ∀ y : List UInt8, y.length ≤ 400000 → Ev (fun k => (hallmarkref04_Has.f k o.f0 75).bind fun t213 => (if t213 = true then (if o.f7 = true then (if (B y).size + 6 ≤ 9223372036854775807 then (some ((B y) ++ (⟨#[32, 115, 116, 97, 99, 107]⟩ : ByteArray))) else (none)) else (some (B y))) else (some (B y)))) (B (y ++ if hasF o.f0 75 = true then fTx o 75 else [])) := by
    intro y hy
    refine Ev.bind (has_ev o.f0 75) ?_
    by_cases h5 : hasF o.f0 75 = true
    · refine Ev.pos h5 ?_
      rw [if_pos h5]
      by_cases h7 : o.f7 = true
      · refine Ev.pos h7 (Ev.pos (by (simp only [B_app, B_size, List.length_append, List.length_cons, List.length_nil]; omega)) (Ev.some' ?_))
        have e : (⟨#[32, 115, 116, 97, 99, 107]⟩ : ByteArray) = B [32, 115, 116, 97, 99, 107] := rfl
        rw [e, B_app]
        simp [fTx, h7]
      · refine Ev.neg h7 (Ev.some' ?_)
        simp [fTx, h7]
    · refine Ev.neg h5 (Ev.some' ?_)
      rw [if_neg h5]; simp
  by_cases h : hasF o.f0 76 = true
  · rw [if_pos h]
    refine Ev.pos h (Ev.pos (by (simp only [B_app, B_size, List.length_append, List.length_cons, List.length_nil]; omega)) (Ev.bind (list_ev o.f6 ho.2.2.2.2.2.2 1) ?_))
    have e1 : (⟨#[32, 40]⟩ : ByteArray) = B [32, 40] := rfl
    have e2 : (⟨#[41]⟩ : ByteArray) = B [41] := rfl
    have e3 : commas (howF 1) o.f6 = commas vTx o.f6 := rfl
    rw [e1, e2, e3]
    refine Ev.pos (by (simp only [B_app, B_size, List.length_append, List.length_cons, List.length_nil]; omega)) (Ev.pos (by (simp only [B_app, B_size, List.length_append, List.length_cons, List.length_nil]; omega)) ?_)
    have e4 : (B x ++ B [32, 40]) ++ B (commas vTx o.f6) ++ B [41] = B (x ++ fTx o 76) := by simp [B_app, fTx]
    simp only [e4]
    exact hk _ (by have := fTx_le o ho 76; rw [List.length_append]; omega)
  · rw [if_neg h]
    refine Ev.neg h ?_
    have := hk x (by omega)
    simpa using this
theorem op_v (c : Int) (cb : UInt8) (hcb : (cb.toNat : Int) = c) (n : Int) (hn : In n) (hf : fTx o cb = 32 :: vTx n) (x z : List UInt8) (hx : x.length ≤ 300000) {g : Nat → ByteArray → Option ByteArray}
    (hg : ∀ y, y.length ≤ x.length + 24100 → Ev (fun k => g k (B y)) (B (y ++ z))) :
    Ev (fun k => (hallmarkref04_Has.f k o.f0 c).bind fun t => (if t = true then (if (B x).size + 2 ≤ 9223372036854775807 then ((hallmarkref06_num.f k n).bind fun u => (if ((B x) ++ (⟨#[32, 118]⟩ : ByteArray)).size + u.size ≤ 9223372036854775807 then (g k (((B x) ++ (⟨#[32, 118]⟩ : ByteArray)) ++ u)) else (none))) else (none)) else (g k (B x)))) (B (x ++ (opR o cb ++ z))) := by
  subst hcb
  refine Ev.bind (has_ev o.f0 _) ?_
  unfold opR
  by_cases h : hasF o.f0 cb.toNat = true
  · rw [if_pos h, hf]
    have hi := itoa_le n hn
    refine Ev.pos h (Ev.pos (by (simp only [B_app, B_size, List.length_append, List.length_cons, List.length_nil]; omega)) (Ev.bind (num6_ev n hn.1 hn.2) ?_))
    have e1 : (⟨#[32, 118]⟩ : ByteArray) = B [32, 118] := rfl
    rw [e1]
    refine Ev.pos (by (simp only [B_app, B_size, List.length_append, List.length_cons, List.length_nil]; omega)) ?_
    have e4 : (B x ++ B [32, 118]) ++ B (Lib.itoa n) = B (x ++ 32 :: vTx n) := by simp [B_app, vTx]
    rw [e4, ← List.append_assoc]
    exact hg _ (by have := fTx_le o ho cb; rw [hf] at this; rw [List.length_append]; omega)
  · rw [if_neg h]
    refine Ev.neg h ?_
    have := hg x (by omega)
    simpa using this
theorem op_j4 (x : List UInt8) (hx : x.length ≤ 200000) : Ev (fun k => hallmarkref06_Op.j4 k (B x) o.f0 o.f1 o.f2 o.f3 o.f4 o.f5 o.f6 o.f7) (B (x ++ (opR o 67 ++ (opR o 76 ++ opR o 75)))) := by
  refine Ev.step (fun k => by simp only [hallmarkref06_Op.j4]; rfl) ?_
  exact op_v o ho 67 67 rfl o.f3 ho.2.2.2.1 rfl x _ (by omega) (g := fun k y => hallmarkref06_Op.j5 k y o.f0 o.f1 o.f2 o.f3 o.f4 o.f5 o.f6 o.f7) (fun y hy => by have := op_j5 o ho y (by omega); simpa using this)
theorem op_j3 (x : List UInt8) (hx : x.length ≤ 150000) : Ev (fun k => hallmarkref06_Op.j3 k (B x) o.f0 o.f1 o.f2 o.f3 o.f4 o.f5 o.f6 o.f7) (B (x ++ (opR o 66 ++ (opR o 67 ++ (opR o 76 ++ opR o 75))))) := by
  refine Ev.step (fun k => by simp only [hallmarkref06_Op.j3]; rfl) ?_
  exact op_v o ho 66 66 rfl o.f2 ho.2.2.1 rfl x _ (by omega) (g := fun k y => hallmarkref06_Op.j4 k y o.f0 o.f1 o.f2 o.f3 o.f4 o.f5 o.f6 o.f7) (fun y hy => op_j4 o ho y (by omega))
theorem op_j2 (x : List UInt8) (hx : x.length ≤ 100000) : Ev (fun k => hallmarkref06_Op.j2 k (B x) o.f0 o.f1 o.f2 o.f3 o.f4 o.f5 o.f6 o.f7) (B (x ++ (opR o 65 ++ (opR o 66 ++ (opR o 67 ++ (opR o 76 ++ opR o 75)))))) := by
  refine Ev.step (fun k => by simp only [hallmarkref06_Op.j2]; rfl) ?_
  exact op_v o ho 65 65 rfl o.f1 ho.2.1 rfl x _ (by omega) (g := fun k y => hallmarkref06_Op.j3 k y o.f0 o.f1 o.f2 o.f3 o.f4 o.f5 o.f6 o.f7) (fun y hy => op_j3 o ho y (by omega))
theorem op_j1 (x : List UInt8) (hx : x.length ≤ 60000) : Ev (fun k => hallmarkref06_Op.j1 k (B x) o.f0 o.f1 o.f2 o.f3 o.f4 o.f5 o.f6 o.f7) (B (x ++ (opR o 83 ++ (opR o 65 ++ (opR o 66 ++ (opR o 67 ++ (opR o 76 ++ opR o 75))))))) := by
  refine Ev.step (fun k => by simp only [hallmarkref06_Op.j1]; rfl) ?_
  refine Ev.bind (has_ev o.f0 83) ?_
  have e : hasF o.f0 ((83 : UInt8).toNat : Nat) = hasF o.f0 83 := rfl
  have hs : o.f5.data.toList.length = o.f5.size := data_length _
  have hq := quoteTx_le o.f5.data.toList
  have h5 := ho.2.2.2.2.2.1
  rw [show opR o 83 = if hasF o.f0 83 = true then fTx o 83 else [] from rfl]
  by_cases h : hasF o.f0 83 = true
  · rw [if_pos h]
    have hqe : Ev (fun k => hallmarkref02_Quote.f k o.f5) (B (quoteTx o.f5.data.toList)) := quote_ev o.f5.data.toList (by omega)
    refine Ev.pos h (Ev.pos (by (simp only [B_app, B_size, List.length_append, List.length_cons, List.length_nil]; omega)) (Ev.bind hqe ?_))
    have e1 : (⟨#[32]⟩ : ByteArray) = B [32] := rfl
    rw [e1]
    refine Ev.pos (by (simp only [B_app, B_size, List.length_append, List.length_cons, List.length_nil]; omega)) ?_
    have e4 : (B x ++ B [32]) ++ B (quoteTx o.f5.data.toList) = B (x ++ fTx o 83) := by simp [B_app, fTx]
    rw [e4, ← List.append_assoc]
    exact op_j2 o ho _ (by have := fTx_le o ho 83; rw [List.length_append]; omega)
  · rw [if_neg h]
    refine Ev.neg h ?_
    simpa using op_j2 o ho x (by omega)
theorem op_ev : Ev (fun k => hallmarkref06_Op.f k o.f0 o.f1 o.f2 o.f3 o.f4 o.f5 o.f6 o.f7) (B (opTx o)) := by
  rw [opTx_doc]
  simp only [List.append_assoc]
  unfold hallmarkref06_Op.f
  have hst := steps_ev o.f0
  refine Ev.bind hst (Ev.bind (has_ev o.f0 78) ?_)
  have hn := nameTx_le stepW stepW_le o.f0
  have hg := nameTx_le signW signW_le o.f4
  have hi := itoa_le o.f4 ho.2.2.2.2.1
  rw [show opR o 78 = if hasF o.f0 78 = true then fTx o 78 else [] from rfl]
  have e1 : (⟨#[32]⟩ : ByteArray) = B [32] := rfl
  by_cases h : hasF o.f0 78 = true
  · rw [if_pos h]
    refine Ev.pos h ?_
    refine Ev.step (fun k => by simp only [hallmarkref06_Op.j0]; rfl) ?_
    by_cases h3 : o.f0 = 3
    · refine Ev.pos (by simp [h3]) (Ev.pos (by (simp only [B_app, B_size, List.length_append, List.length_cons, List.length_nil]; omega)) (Ev.bind (signs_ev o.f4) ?_))
      rw [e1]
      refine Ev.pos (by (simp only [B_app, B_size, List.length_append, List.length_cons, List.length_nil]; omega)) ?_
      have e4 : (B (nameTx stepW o.f0) ++ B [32]) ++ B (nameTx signW o.f4) = B (nameTx stepW o.f0 ++ fTx o 78) := by simp [B_app, fTx, h3]
      rw [e4, ← List.append_assoc]
      exact op_j1 o ho _ (by have := fTx_le o ho 78; rw [List.length_append]; omega)
    · refine Ev.neg (by simp [h3]) (Ev.bind (has_ev o.f0 78) (Ev.pos h (Ev.pos (by (simp only [B_app, B_size, List.length_append, List.length_cons, List.length_nil]; omega)) (Ev.bind (num_ev o.f4 ho.2.2.2.2.1.1 ho.2.2.2.2.1.2) ?_))))
      rw [e1]
      refine Ev.pos (by (simp only [B_app, B_size, List.length_append, List.length_cons, List.length_nil]; omega)) ?_
      have e4 : (B (nameTx stepW o.f0) ++ B [32]) ++ B (Lib.itoa o.f4) = B (nameTx stepW o.f0 ++ fTx o 78) := by simp [B_app, fTx, h3]
      rw [e4, ← List.append_assoc]
      exact op_j1 o ho _ (by have := fTx_le o ho 78; rw [List.length_append]; omega)
  · rw [if_neg h]
    refine Ev.neg h ?_
    refine Ev.step (fun k => by simp only [hallmarkref06_Op.j0]; rfl) ?_
    refine Ev.neg (by simp) (Ev.bind (has_ev o.f0 78) (Ev.neg h ?_))
    simpa using op_j1 o ho (nameTx stepW o.f0) (by omega)
end
/-! ### an end -/
theorem end_ev (e : S44) (he : okE e) : Ev (fun k => hallmarkref06_end.f k e.f0 e.f1 e.f2 e.f3 e.f4 e.f5) (B (endTx e)) := by
  obtain ⟨h0, h1, h2, h3, h4, h5⟩ := he
  unfold hallmarkref06_end.f
  have i1 := itoa_le _ h1
  have i2 := itoa_le _ h2
  have i3 := itoa_le _ h3
  have c4 := commas_le vTx_le h4
  have c5 := commas_le vTx_le h5
  have e1 : (⟨#[40]⟩ : ByteArray) = B [40] := rfl
  have e2 : (⟨#[41]⟩ : ByteArray) = B [41] := rfl
  have e3 : (⟨#[32]⟩ : ByteArray) = B [32] := rfl
  have e4 : (⟨#[106, 117, 109, 112, 32]⟩ : ByteArray) = B [106, 117, 109, 112, 32] := rfl
  have e5 : (⟨#[98, 114, 97, 110, 99, 104, 32, 118]⟩ : ByteArray) = B [98, 114, 97, 110, 99, 104, 32, 118] := rfl
  have e6 : (⟨#[114, 101, 116, 32, 118]⟩ : ByteArray) = B [114, 101, 116, 32, 118] := rfl
  have e7 : (⟨#[115, 116, 111, 112, 32, 118]⟩ : ByteArray) = B [115, 116, 111, 112, 32, 118] := rfl
  rw [e1, e2, e3, e4, e5, e6, e7]
  refine Ev.bind (num6_ev _ h2.1 h2.2) (Ev.pos (by (simp only [B_app, B_size, List.length_append, List.length_cons, List.length_nil]; omega)) (Ev.bind (list_ev e.f4 h4 1) ?_))
  have ec : ∀ l, commas (howF 1) l = commas vTx l := fun _ => rfl
  rw [ec]
  refine Ev.pos (by (simp only [B_app, B_size, List.length_append, List.length_cons, List.length_nil]; omega)) (Ev.pos (by (simp only [B_app, B_size, List.length_append, List.length_cons, List.length_nil]; omega)) (Ev.bind (num6_ev _ h3.1 h3.2) (Ev.pos (by (simp only [B_app, B_size, List.length_append, List.length_cons, List.length_nil]; omega)) (Ev.bind (list_ev e.f5 h5 1) ?_))))
  rw [ec]
  refine Ev.pos (by (simp only [B_app, B_size, List.length_append, List.length_cons, List.length_nil]; omega)) (Ev.pos (by (simp only [B_app, B_size, List.length_append, List.length_cons, List.length_nil]; omega)) ?_)
  unfold endTx
  by_cases k0 : e.f0 = 0
  · rw [if_pos k0]
    exact Ev.pos k0 (Ev.pos (by (simp only [B_app, B_size, List.length_append, List.length_cons, List.length_nil]; omega)) (Ev.some' (by simp [B_app, toTx])))
  rw [if_neg k0]
  refine Ev.neg k0 ?_
  by_cases k1 : e.f0 = 1
  · rw [if_pos k1]
    exact Ev.pos k1 (Ev.bind (num6_ev _ h1.1 h1.2) (Ev.pos (by (simp only [B_app, B_size, List.length_append, List.length_cons, List.length_nil]; omega)) (Ev.pos (by (simp only [B_app, B_size, List.length_append, List.length_cons, List.length_nil]; omega)) (Ev.pos (by (simp only [B_app, B_size, List.length_append, List.length_cons, List.length_nil]; omega)) (Ev.pos (by (simp only [B_app, B_size, List.length_append, List.length_cons, List.length_nil]; omega)) (Ev.pos (by (simp only [B_app, B_size, List.length_append, List.length_cons, List.length_nil]; omega)) (Ev.some' (by simp [B_app, toTx, vTx]))))))))
  rw [if_neg k1]
  refine Ev.neg k1 ?_
  by_cases k2 : e.f0 = 2
  · rw [if_pos k2]
    exact Ev.pos k2 (Ev.bind (num6_ev _ h1.1 h1.2) (Ev.pos (by (simp only [B_app, B_size, List.length_append, List.length_cons, List.length_nil]; omega)) (Ev.some' (by simp [B_app, vTx]))))
  rw [if_neg k2]
  refine Ev.neg k2 ?_
  by_cases k3 : e.f0 = 3
  · rw [if_pos k3]
    exact Ev.pos k3 (Ev.bind (num6_ev _ h1.1 h1.2) (Ev.pos (by (simp only [B_app, B_size, List.length_append, List.length_cons, List.length_nil]; omega)) (Ev.some' (by simp [B_app, vTx]))))
  rw [if_neg k3]
  exact Ev.neg k3 (Ev.now _)
end Go.Proofs.YtacopdbldfgknaaDoor
namespace Go.Proofs.YtacopdbldfgknaaDoor
open Go.RowKit PShellTexts YtacopdbldfgknaaDoorW.PrintWords YtacopdbldfgknaaDoorW.PrintMore

section
variable (ret : Int) (bs : List S46) (h : okF ret bs)
include h
theorem fun_step (i : Nat) (hi : i < bs.length) (k : Nat) (b : S46) (hb : bs.getD i z46 = b) (hk : k < b.f1.length) (x : List UInt8) (hx : x.length ≤ 100000000000000) (m : Nat) (hm : m ≤ 9000000000)
    {g : Nat → ByteArray → Option ByteArray} {r : ByteArray} (hg : Ev (fun k' => g k' (B (x ++ stepTx b m k))) r) :
    Ev (fun k' => if (B x).size + 3 ≤ 9223372036854775807 then ((hallmarkref06_num.f k' ((m + k : Nat) : Int)).bind fun t228 => (if ((B x) ++ (⟨#[32, 32, 118]⟩ : ByteArray)).size + t228.size ≤ 9223372036854775807 then (if (((B x) ++ (⟨#[32, 32, 118]⟩ : ByteArray)) ++ t228).size + 3 ≤ 9223372036854775807 then (if 0 ≤ (k : Int) then ((hallmarkref06_Op.f k' ((rd_T48 b.f1 k).f0) ((rd_T48 b.f1 k).f1) ((rd_T48 b.f1 k).f2) ((rd_T48 b.f1 k).f3) ((rd_T48 b.f1 k).f4) ((rd_T48 b.f1 k).f5) ((rd_T48 b.f1 k).f6) ((rd_T48 b.f1 k).f7)).bind fun t230 => (if ((((B x) ++ (⟨#[32, 32, 118]⟩ : ByteArray)) ++ t228) ++ (⟨#[32, 61, 32]⟩ : ByteArray)).size + t230.size ≤ 9223372036854775807 then (if (((((B x) ++ (⟨#[32, 32, 118]⟩ : ByteArray)) ++ t228) ++ (⟨#[32, 61, 32]⟩ : ByteArray)) ++ t230).size + 1 ≤ 9223372036854775807 then (g k' ((((((B x) ++ (⟨#[32, 32, 118]⟩ : ByteArray)) ++ t228) ++ (⟨#[32, 61, 32]⟩ : ByteArray)) ++ t230) ++ (⟨#[10]⟩ : ByteArray))) else (none)) else (none))) else (none)) else (none)) else (none))) else (none)) r := by
  have e1 : (⟨#[32, 32, 118]⟩ : ByteArray) = B [32, 32, 118] := rfl
  have e2 : (⟨#[32, 61, 32]⟩ : ByteArray) = B [32, 61, 32] := rfl
  have e3 : (⟨#[10]⟩ : ByteArray) = B [10] := rfl
  rw [e1, e2, e3]
  have hbok : okB b := hb ▸ getD_ok h.2.1 hi
  have hmk : In ((m + k : Nat) : Int) := ⟨by omega, by have := hbok.2.2.1; omega⟩
  have i1 := itoa_le _ hmk
  have ho : okO (b.f1.getD k z48) := getD_ok hbok.2.1 hk
  have hl := opTx_le _ ho
  have hrd : rd_T48 b.f1 (k : Int) = b.f1.getD k z48 := rfl
  rw [hrd]
  refine Ev.pos (by (simp only [B_app, B_size, List.length_append, List.length_cons, List.length_nil]; omega)) (Ev.bind (num6_ev _ hmk.1 hmk.2) (Ev.pos (by (simp only [B_app, B_size, List.length_append, List.length_cons, List.length_nil]; omega)) (Ev.pos (by (simp only [B_app, B_size, List.length_append, List.length_cons, List.length_nil]; omega)) (Ev.pos (by omega) (Ev.bind (op_ev _ ho) (Ev.pos (by (simp only [B_app, B_size, List.length_append, List.length_cons, List.length_nil]; omega)) (Ev.pos (by (simp only [B_app, B_size, List.length_append, List.length_cons, List.length_nil]; omega)) ?_)))))))
  have e4 : ((((B x ++ B [32, 32, 118]) ++ B (Lib.itoa ((m + k : Nat) : Int))) ++ B [32, 61, 32]) ++ B (opTx (b.f1.getD k z48))) ++ B [10] = B (x ++ stepTx b m k) := by simp [B_app, stepTx, vTx]
  rw [e4]
  exact hg
theorem fun_inner (i : Nat) (hi : i < bs.length) (b : S46) (hb : bs.getD i z46 = b) (x : List UInt8) (hx : x.length ≤ 90000000000000) (m : Nat) (hm : m ≤ 8900000000) {r : ByteArray}
    (hnext : Ev (fun k => hallmarkref06_Func.l0 k (B (x ++ upto (stepTx b m) b.f1.length ++ [32, 32] ++ endTx b.f2 ++ [10])) ((m + b.f1.length : Nat) : Int) ((i + 1 : Nat) : Int) ret bs) r) : ∀ d k : Nat, k + d = b.f1.length →
    Ev (fun k' => hallmarkref06_Func.l1 k' (B (x ++ upto (stepTx b m) k)) ((m + k : Nat) : Int) i k ret bs b.f0 b.f1 b.f2.f0 b.f2.f1 b.f2.f2 b.f2.f3 b.f2.f4 b.f2.f5) r
  | 0, k, hk => by
    obtain rfl : k = b.f1.length := by omega
    have hbok : okB b := hb ▸ getD_ok h.2.1 hi
    have hs := steps_le b hbok m _ (Nat.le_refl _) (by omega)
    have he := endTx_le _ hbok.2.2.2
    refine Ev.step (fun k => by simp only [hallmarkref06_Func.l1]; rfl) ?_
    have e1 : (⟨#[32, 32]⟩ : ByteArray) = B [32, 32] := rfl
    have e3 : (⟨#[10]⟩ : ByteArray) = B [10] := rfl
    have hw : wrap64 ((i : Int) + 1) = ((i + 1 : Nat) : Int) := by rw [w64 (by omega) (by have := h.2.2; omega)]; rfl
    rw [e1, e3, hw]
    refine Ev.neg (by omega) (Ev.pos (by (simp only [B_app, B_size, List.length_append, List.length_cons, List.length_nil]; omega)) (Ev.bind (end_ev b.f2 hbok.2.2.2) (Ev.pos (by (simp only [B_app, B_size, List.length_append, List.length_cons, List.length_nil]; omega)) (Ev.pos (by (simp only [B_app, B_size, List.length_append, List.length_cons, List.length_nil]; omega)) ?_))))
    simp only [B_app]
    exact hnext
  | d + 1, k, hk => by
    have hbok : okB b := hb ▸ getD_ok h.2.1 hi
    have hs := steps_le b hbok m k (by omega) (by omega)
    refine Ev.step (fun k => by simp only [hallmarkref06_Func.l1]; rfl) ?_
    refine Ev.pos (by omega) ?_
    have hw : wrap64 ((k : Int) + 1) = ((k + 1 : Nat) : Int) := by rw [w64 (by omega) (by have := hbok.2.2.1; omega)]; rfl
    have hw2 : wrap64 (((m + k : Nat) : Int) + 1) = ((m + (k + 1) : Nat) : Int) := by rw [w64 (by omega) (by have := hbok.2.2.1; omega)]; omega
    rw [hw, hw2]
    refine fun_step ret bs h i hi k b hb (by omega) (x ++ upto (stepTx b m) k) (by rw [List.length_append]; omega) m (by omega) (g := fun k' y => hallmarkref06_Func.l1 k' y ((m + (k + 1) : Nat) : Int) i ((k + 1 : Nat) : Int) ret bs b.f0 b.f1 b.f2.f0 b.f2.f1 b.f2.f2 b.f2.f3 b.f2.f4 b.f2.f5) ?_
    rw [List.append_assoc, ← upto_succ]
    exact fun_inner i hi b hb x hx m hm hnext d (k + 1) (by omega)
theorem fun_from : ∀ d i : Nat, i + d = bs.length → Ev (fun k => hallmarkref06_Func.l0 k (B (funHd ret ++ upto (blockAt bs) i)) (firstAt bs i) i ret bs) (B (funTx ret bs))
  | 0, i, hi => by
    refine Ev.step (fun k => by simp only [hallmarkref06_Func.l0]; rfl) ?_
    refine Ev.neg (by omega) (Ev.some' ?_)
    obtain rfl : i = bs.length := by omega
    rfl
  | d + 1, i, hi => by
    have hil : i < bs.length := by omega
    have hbok : okB (bs.getD i z46) := getD_ok h.2.1 hil
    obtain ⟨b, hb⟩ : ∃ b, bs.getD i z46 = b := ⟨_, rfl⟩
    rw [hb] at hbok
    have h1 := blocksTo_le ret bs h i (by omega)
    have h2 := funHd_le ret h.1
    have h3 := firstAt_le bs h.2.1 i (by omega)
    have h4 := h.2.2
    have hin : In (i : Int) := ⟨by omega, by omega⟩
    have h5 := itoa_le _ hin
    have h6 := commas_le tyTx_le hbok.1
    refine Ev.step (fun k => by simp only [hallmarkref06_Func.l0]; rfl) ?_
    have hrd : rd_T46 bs (i : Int) = b := hb
    have e1 : (⟨#[40]⟩ : ByteArray) = B [40] := rfl
    have e3 : (⟨#[41, 10]⟩ : ByteArray) = B [41, 10] := rfl
    have hw : wrap64 ((firstAt bs i : Int) + (b.f0.length : Int)) = ((firstAt bs i + b.f0.length + 0 : Nat) : Int) := by rw [w64' (by omega) (by have := hbok.1.2; omega)]; omega
    rw [hrd, e1, e3, hw]
    have ec : commas (howF 0) b.f0 = commas tyTx b.f0 := rfl
    refine Ev.pos (by omega) (Ev.pos (by omega) (Ev.bind (num6_ev _ hin.1 hin.2) (Ev.pos (by (simp only [B_app, B_size, List.length_append, List.length_cons, List.length_nil]; omega)) (Ev.pos (by (simp only [B_app, B_size, List.length_append, List.length_cons, List.length_nil]; omega)) (Ev.bind (list_ev b.f0 hbok.1 0) ?_)))))
    rw [ec]
    refine Ev.pos (by (simp only [B_app, B_size, List.length_append, List.length_cons, List.length_nil]; omega)) (Ev.pos (by (simp only [B_app, B_size, List.length_append, List.length_cons, List.length_nil]; omega)) ?_)
    have e4 : (((B (funHd ret ++ upto (blockAt bs) i) ++ B (Lib.itoa (i : Int))) ++ B [40]) ++ B (commas tyTx b.f0)) ++ B [41, 10] = B ((funHd ret ++ upto (blockAt bs) i ++ (Lib.itoa (i : Int) ++ 40 :: commas tyTx b.f0 ++ [41, 10])) ++ upto (stepTx b (firstAt bs i + b.f0.length)) 0) := by simp [B_app, upto_zero]
    rw [e4]
    refine fun_inner ret bs h i hil b hb _ (by (simp only [B_app, B_size, List.length_append, List.length_cons, List.length_nil]; omega)) (firstAt bs i + b.f0.length) (by have := hbok.1.2; omega) ?_ b.f1.length 0 (by omega)
    have e5 : funHd ret ++ upto (blockAt bs) i ++ (Lib.itoa (i : Int) ++ 40 :: commas tyTx b.f0 ++ [41, 10]) ++ upto (stepTx b (firstAt bs i + b.f0.length)) b.f1.length ++ [32, 32] ++ endTx b.f2 ++ [10] = funHd ret ++ upto (blockAt bs) (i + 1) := by
      rw [upto_succ, blockAt, hb, blockTx]; simp
    have e6 : firstAt bs i + b.f0.length + b.f1.length = firstAt bs (i + 1) := by simp only [firstAt, hb]; omega
    rw [e5, e6]
    exact fun_from d (i + 1) (by omega)
theorem func_ev : Ev (fun k => hallmarkref06_Func.f k ret bs) (B (funTx ret bs)) := by
  have h2 := tyTx_le ret h.1
  unfold hallmarkref06_Func.f
  have e1 : (⟨#[102, 117, 110, 99, 32]⟩ : ByteArray) = B [102, 117, 110, 99, 32] := rfl
  have e3 : (⟨#[10]⟩ : ByteArray) = B [10] := rfl
  rw [e1, e3]
  refine Ev.bind (type_ev ret h.1) (Ev.pos (by (simp only [B_app, B_size, List.length_append, List.length_cons, List.length_nil]; omega)) (Ev.pos (by (simp only [B_app, B_size, List.length_append, List.length_cons, List.length_nil]; omega)) ?_))
  have := fun_from ret bs h bs.length 0 (by omega)
  have e4 : (B [102, 117, 110, 99, 32] ++ B (tyTx ret)) ++ B [10] = B (funHd ret ++ upto (blockAt bs) 0) := by simp [B_app, upto_zero, funHd]
  rw [e4]
  exact this
end
/-! ### the first value of a block -/
theorem firstAt_take (bs : List S46) (n : Nat) (hn : n ≤ bs.length) : ∀ i, i ≤ n → firstAt (bs.take n) i = firstAt bs i
  | 0, _ => rfl
  | i + 1, hi => by
    simp only [firstAt]
    rw [firstAt_take bs n hn i (by omega)]
    have : (bs.take n).getD i z46 = bs.getD i z46 := by
      rw [List.getD_eq_getElem?_getD, List.getD_eq_getElem?_getD, List.getElem?_take_of_lt (by omega)]
    rw [this]
theorem first_from (bs : List S46) (h : ∀ b ∈ bs, okB b) (hl : bs.length ≤ 1000) : ∀ d i : Nat, i + d = bs.length → Ev (fun k => code_first.l0 k (firstAt bs i) bs bs.length i) ((firstAt bs bs.length : Nat) : Int)
  | 0, i, hi => by
    refine Ev.step (fun k => by simp only [code_first.l0]; rfl) ?_
    refine Ev.neg (by omega) (Ev.some' ?_)
    obtain rfl : i = bs.length := by omega
    rfl
  | d + 1, i, hi => by
    refine Ev.step (fun k => by simp only [code_first.l0]; rfl) ?_
    have hb := getD_ok h (d := z46) (i := i) (by omega)
    have h1 := hb.1.2
    have h2 := hb.2.2.1
    have h3 := firstAt_le bs h i (by omega)
    have hrd : rd_T46 bs (i : Int) = bs.getD i z46 := rfl
    have hw : wrap64 ((i : Int) + 1) = ((i + 1 : Nat) : Int) := by rw [w64 (by omega) (by omega)]; rfl
    have hw2 : wrap64 ((firstAt bs i : Int) + wrap64 (((bs.getD i z46).f0.length : Int) + ((bs.getD i z46).f1.length : Int))) = ((firstAt bs (i + 1) : Nat) : Int) := by
      rw [w64' (x := ((bs.getD i z46).f0.length : Int) + ((bs.getD i z46).f1.length : Int)) (by omega) (by omega), w64' (by omega) (by omega)]
      simp only [firstAt]; omega
    rw [hrd, hw, hw2]
    refine Ev.pos (by omega) (Ev.pos (by omega) (Ev.pos (by omega) ?_))
    exact first_from bs h hl d (i + 1) (by omega)
theorem first_ev (ret : Int) (bs : List S46) (h : ∀ b ∈ bs, okB b) (hl : bs.length ≤ 1000) (i : Nat) (hi : i ≤ bs.length) : Ev (fun k => code_First.f k ret bs i) ((firstAt bs i : Nat) : Int) := by
  unfold code_First.f
  refine Ev.bind ?_ (Ev.now _)
  unfold code_first.f
  have e : mx 0 (mn (i : Int) (bs.length : Int)) = i := by unfold mx mn; split <;> split <;> omega
  rw [e]
  simp only [Option.bind_some, Int.toNat_natCast]
  refine Ev.pos (by omega) (Ev.pos (by omega) ?_)
  have hlen : (bs.take i).length = i := by rw [List.length_take]; omega
  have := first_from (bs.take i) (fun b hb => h b (List.mem_of_mem_take hb)) (by omega) i 0 (by omega)
  rw [hlen, firstAt_take bs i hi i (Nat.le_refl _)] at this
  rw [hlen]
  exact this
end Go.Proofs.YtacopdbldfgknaaDoor
