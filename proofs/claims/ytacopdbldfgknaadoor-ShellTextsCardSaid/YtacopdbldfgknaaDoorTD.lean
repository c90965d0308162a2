/- Plain laws on the printed functions: numbers as digits. -/
import Derived.Test.YtacopdbldfgknaaDoorTA
import Derived.Test.YtacopdbldfgknaaDoorPB
import Derived.Lib.ItoaNum
import Derived.Lib.ItoaMem
import Derived.Lib.ItoaLen
import Derived.Laws.BitsAllLaws
namespace Go.Proofs.YtacopdbldfgknaaDoor
open Go.RowKit PShellTexts YtacopdbldfgknaaDoorW.PrintWords YtacopdbldfgknaaDoorW.PrintMore

/-! ### the rounds of a printed function -/
theorem Ev.pos {α : Type} {c : Prop} [Decidable c] {f g : Nat → Option α} {r : α} (hc : c) (h : Ev f r) : Ev (fun k => if c then f k else g k) r := by
  simpa [hc] using h
theorem Ev.neg {α : Type} {c : Prop} [Decidable c] {f g : Nat → Option α} {r : α} (hc : ¬ c) (h : Ev g r) : Ev (fun k => if c then f k else g k) r := by
  simpa [hc] using h
theorem Ev.some' {α : Type} {r r' : α} (h : r = r') : Ev (fun _ => some r) r' := h ▸ Ev.now r
theorem Ev.bind1 {α β : Type} {g : Option α} {f : Nat → α → Option β} {a : α} {r : β} (h : g = some a) (k : Ev (fun n => f n a) r) : Ev (fun n => g.bind (f n)) r := by
  subst h; exact k
theorem Ev.to {α : Type} {g : Nat → Option α} {r r' : α} (h : Ev g r) (e : r = r') : Ev g r' := e ▸ h
/-- A text's bytes. -/
abbrev B (l : List UInt8) : ByteArray := ⟨l.toArray⟩
theorem B_size (l : List UInt8) : (B l).size = l.length := by show l.toArray.size = _; simp
theorem B_app (x y : List UInt8) : B x ++ B y = B (x ++ y) := ByteArray.mk_append_mk x y
theorem w64 {x : Int} (h0 : 0 ≤ x) (h1 : x < 9223372036854775807) : wrap64 (x + 1) = x + 1 := by unfold wrap64; omega
theorem w64' {x : Int} (h0 : -9223372036854775808 ≤ x) (h1 : x ≤ 9223372036854775807) : wrap64 x = x := by unfold wrap64; omega
theorem u64w {x : Int} (h0 : 0 ≤ x) (h1 : x ≤ 18446744073709551615) : IntKind.u64.wrap x = x := by
  have : IntKind.u64.wrap x = x % 18446744073709551616 := rfl
  omega

/-! ### a sum, bit by bit -/
theorem mod_succ (x i : Nat) : x % 2 ^ (i + 1) = x % 2 ^ i + 2 ^ i * (x / 2 ^ i % 2) := by
  rw [Nat.pow_succ, Nat.mod_mul]
theorem sum_div (a b i : Nat) : (a + b) / 2 ^ i = a / 2 ^ i + b / 2 ^ i + (a % 2 ^ i + b % 2 ^ i) / 2 ^ i := by
  have hp : 0 < 2 ^ i := Nat.two_pow_pos i
  have ha := Nat.div_add_mod a (2 ^ i)
  have hb := Nat.div_add_mod b (2 ^ i)
  have : a + b = (a % 2 ^ i + b % 2 ^ i) + 2 ^ i * (a / 2 ^ i + b / 2 ^ i) := by rw [Nat.mul_add]; omega
  rw [this, Nat.add_mul_div_left _ _ hp]; omega
def car (a b i : Nat) : Nat := (a % 2 ^ i + b % 2 ^ i) / 2 ^ i
theorem car_lt (a b i : Nat) : car a b i ≤ 1 := by
  have hp : 0 < 2 ^ i := Nat.two_pow_pos i
  have h1 := Nat.mod_lt a hp
  have h2 := Nat.mod_lt b hp
  unfold car
  rw [← Nat.lt_succ_iff, Nat.div_lt_iff_lt_mul hp]
  omega
theorem car_succ (a b i : Nat) : car a b (i + 1) = (a / 2 ^ i % 2 + b / 2 ^ i % 2 + car a b i) / 2 := by
  have hp : 0 < 2 ^ i := Nat.two_pow_pos i
  unfold car
  rw [mod_succ, mod_succ]
  have e : a % 2 ^ i + 2 ^ i * (a / 2 ^ i % 2) + (b % 2 ^ i + 2 ^ i * (b / 2 ^ i % 2)) = (a % 2 ^ i + b % 2 ^ i) + 2 ^ i * (a / 2 ^ i % 2 + b / 2 ^ i % 2) := by rw [Nat.mul_add]; omega
  rw [e, Nat.pow_succ, ← Nat.div_div_eq_div_mul, Nat.add_mul_div_left _ _ hp]
  congr 1
  omega
theorem out_succ (a b i : Nat) : (a + b) % 2 ^ (i + 1) = (a + b) % 2 ^ i ||| ((a / 2 ^ i % 2 + b / 2 ^ i % 2 + car a b i) % 2) * 2 ^ i := by
  have hp : 0 < 2 ^ i := Nat.two_pow_pos i
  rw [mod_succ, sum_div]
  have e : (a / 2 ^ i + b / 2 ^ i + (a % 2 ^ i + b % 2 ^ i) / 2 ^ i) % 2 = (a / 2 ^ i % 2 + b / 2 ^ i % 2 + car a b i) % 2 := by unfold car; omega
  rw [e, Nat.or_comm, Nat.mul_comm, ← Nat.shiftLeft_eq, ← Nat.shiftLeft_add_eq_or_of_lt (Nat.mod_lt _ hp), Nat.shiftLeft_eq]
  omega
theorem bit_val (a i : Nat) (hi : i < 64) : hallmarkref01_Bit.f (a : Int) (i : Int) = some ((a / 2 ^ i % 2 : Nat) : Int) := by
  unfold hallmarkref01_Bit.f
  rw [u64w (by omega) (by omega), if_pos (by omega)]
  have : shr .u64 (a : Int) (i : Int) = ((a / 2 ^ i : Nat) : Int) := by
    unfold shr
    rw [Nat.min_eq_left (by show (i : Int).toNat ≤ 64; omega)]
    simp
  rw [this]
  rfl
theorem plus_from (a b : Nat) (ha : a < 2 ^ 64) (hb : b < 2 ^ 64) : ∀ d i : Nat, i + d = 64 → Ev (fun k => hallmarkref01_plus.l0 k a b (((a + b) % 2 ^ i : Nat) : Int) (car a b i : Int) i) (((a + b) % 2 ^ 64 : Nat) : Int)
  | 0, i, h => by
    obtain rfl : i = 64 := by omega
    refine Ev.step (fun k => by simp only [hallmarkref01_plus.l0]; rfl) ?_
    refine Ev.neg (by omega) (Ev.now _)
  | d + 1, i, h => by
    refine Ev.step (fun k => by simp only [hallmarkref01_plus.l0]; rfl) ?_
    refine Ev.pos (by omega) ?_
    refine Ev.bind1 (bit_val a i (by omega)) ?_
    refine Ev.bind1 (bit_val b i (by omega)) ?_
    refine Ev.pos (by rw [u64w (by omega) (by omega)]; omega) ?_
    have hc := car_lt a b i
    have hlt : (a + b) % 2 ^ i < 2 ^ 64 := Nat.lt_of_lt_of_le (Nat.mod_lt _ (Nat.two_pow_pos i)) (Nat.pow_le_pow_right (by omega) (by omega))
    have e1 : IntKind.u64.wrap (IntKind.u64.wrap (((a / 2 ^ i % 2 : Nat) : Int) + ((b / 2 ^ i % 2 : Nat) : Int)) + (car a b i : Int)) = ((a / 2 ^ i % 2 + b / 2 ^ i % 2 + car a b i : Nat) : Int) := by
      rw [u64w (x := ((a / 2 ^ i % 2 : Nat) : Int) + ((b / 2 ^ i % 2 : Nat) : Int)) (by omega) (by omega), u64w (by omega) (by omega)]; omega
    have e2 : IntKind.u64.wrap (Int.tdiv ((a / 2 ^ i % 2 + b / 2 ^ i % 2 + car a b i : Nat) : Int) 2) = (car a b (i + 1) : Int) := by
      rw [car_succ]
      have : Int.tdiv ((a / 2 ^ i % 2 + b / 2 ^ i % 2 + car a b i : Nat) : Int) 2 = (((a / 2 ^ i % 2 + b / 2 ^ i % 2 + car a b i) / 2 : Nat) : Int) := rfl
      rw [this, u64w (by omega) (by omega)]
    have e3 : Int.tmod ((a / 2 ^ i % 2 + b / 2 ^ i % 2 + car a b i : Nat) : Int) 2 = (((a / 2 ^ i % 2 + b / 2 ^ i % 2 + car a b i) % 2 : Nat) : Int) := rfl
    have hx : ((a / 2 ^ i % 2 + b / 2 ^ i % 2 + car a b i) % 2) * 2 ^ i < 2 ^ 64 := by
      have h1 : 2 ^ i ≤ 2 ^ 63 := Nat.pow_le_pow_right (by omega) (by omega)
      have h2 : (a / 2 ^ i % 2 + b / 2 ^ i % 2 + car a b i) % 2 ≤ 1 := by omega
      calc _ ≤ 1 * 2 ^ i := Nat.mul_le_mul_right _ h2
        _ < 2 ^ 64 := by omega
    have e4 : shl .u64 (((a / 2 ^ i % 2 + b / 2 ^ i % 2 + car a b i) % 2 : Nat) : Int) (i : Int) = (((a / 2 ^ i % 2 + b / 2 ^ i % 2 + car a b i) % 2 * 2 ^ i : Nat) : Int) := by
      unfold shl
      rw [Nat.min_eq_left (by show (i : Int).toNat ≤ 64; omega), Int.toNat_natCast]
      have : ((((a / 2 ^ i % 2 + b / 2 ^ i % 2 + car a b i) % 2 : Nat) : Int) * 2 ^ i) = (((a / 2 ^ i % 2 + b / 2 ^ i % 2 + car a b i) % 2 * 2 ^ i : Nat) : Int) := by simp
      rw [this, u64w (by omega) (by omega)]
    rw [e1, e2, e3, u64w (x := (i : Int)) (by omega) (by omega), e4, u64_or_nat _ _ (by omega) (by omega), ← out_succ, w64 (by omega) (by omega)]
    exact plus_from a b ha hb d (i + 1) (by omega)
theorem plus_ev (a b : Nat) (ha : a < 2 ^ 64) (hb : b < 2 ^ 64) : Ev (fun k => hallmarkref01_plus.f k a b) (((a + b) % 2 ^ 64 : Nat) : Int) := by
  have h := plus_from a b ha hb 64 0 rfl
  simpa [hallmarkref01_plus.f, car, Nat.mod_one] using h
theorem minus_ev (a : Nat) (ha : 0 < a) (hb : a < 2 ^ 64) : Ev (fun k => hallmarkref01_minus.f k a) ((2 ^ 64 - a : Nat) : Int) := by
  unfold hallmarkref01_minus.f
  have e : bits .xor .u64 (a : Int) 18446744073709551615 = ((2 ^ 64 - 1 - a : Nat) : Int) := by
    have h1 : (18446744073709551615 : Int) = ((18446744073709551615 : Nat) : Int) := rfl
    rw [h1, u64_xor_nat _ _ (by omega) (by omega)]
    congr 1
    apply Nat.eq_of_testBit_eq
    intro i
    have h2 : (18446744073709551615 : Nat) = 2 ^ 64 - 1 := rfl
    rw [Nat.testBit_xor, h2, Nat.testBit_two_pow_sub_one]
    have h3 : 2 ^ 64 - 1 - a = 2 ^ 64 - (a + 1) := by omega
    rw [h3, Nat.testBit_two_pow_sub_succ (by omega)]
    by_cases hi : i < 64
    · simp [hi]
    · have : a.testBit i = false := Nat.testBit_lt_two_pow (Nat.lt_of_lt_of_le hb (Nat.pow_le_pow_right (by omega) (by omega)))
      simp [hi, this]
  rw [e]
  refine Ev.bind (plus_ev _ 1 (by omega) (by omega)) ?_
  refine Ev.some' ?_
  congr 1
  omega
theorem size_ev (n : Int) (h0 : -9223372036854775808 ≤ n) (h1 : n < 0) : Ev (fun k => hallmarkref01_Size.f k n) (n.natAbs : Int) := by
  unfold hallmarkref01_Size.f
  refine Ev.pos h1 ?_
  have e : IntKind.u64.wrap n = ((2 ^ 64 - n.natAbs : Nat) : Int) := by
    have : IntKind.u64.wrap n = n % 18446744073709551616 := rfl
    omega
  rw [e]
  refine Ev.bind (minus_ev _ (by omega) (by omega)) ?_
  refine Ev.some' ?_
  omega
/-! ### digits -/
theorem dig1 (u : Nat) : strOfNums [(48 + ((Int.tmod (u : Int) 10) % 256)) % 256] = B [UInt8.ofNat (48 + u % 10)] := by
  have e : (48 + ((Int.tmod (u : Int) 10) % 256)) % 256 = ((48 + u % 10 : Nat) : Int) := by
    have : Int.tmod (u : Int) 10 = ((u % 10 : Nat) : Int) := rfl
    rw [this]; omega
  rw [e]
  rfl
theorem digs_ev (u : Nat) (h : u < 2 ^ 64) : Ev (fun k => hallmarkref02_digits.f k u) (B (Lib.decDigits u)) := by
  induction u using Nat.strongRecOn with
  | _ u ih =>
  refine Ev.step (fun k => by simp only [hallmarkref02_digits.f]; rfl) ?_
  simp only [Option.bind_some]
  rw [Lib.decDigits]
  by_cases hu : u < 10
  · rw [dif_pos hu]
    refine Ev.neg (by omega) ?_
    rw [dig1, Nat.mod_eq_of_lt hu]
    exact Ev.now _
  · rw [dif_neg hu]
    refine Ev.pos (by omega) ?_
    have e : IntKind.u64.wrap (Int.tdiv (u : Int) 10) = ((u / 10 : Nat) : Int) := by
      have : Int.tdiv (u : Int) 10 = ((u / 10 : Nat) : Int) := rfl
      rw [this, u64w (by omega) (by omega)]
    rw [e]
    refine Ev.bind (ih (u / 10) (by omega) (by omega)) ?_
    rw [dig1]
    have hl : (Lib.decDigits (u / 10)).length ≤ 20 := by rw [Lib.decDigits_length]; exact Lib.nDigits_le20 _ (by omega)
    refine Ev.pos (by rw [B_size, B_size]; simp; omega) ?_
    exact Ev.some' (B_app _ _)
theorem num_ev (n : Int) (h0 : -9223372036854775808 ≤ n) (h1 : n ≤ 9223372036854775807) : Ev (fun k => hallmarkref02_Digits.f k n) (B (Lib.itoa n)) := by
  unfold hallmarkref02_Digits.f Lib.itoa
  by_cases h : n < 0
  · rw [if_pos h]
    refine Ev.pos h ?_
    refine Ev.bind (size_ev n h0 h) ?_
    refine Ev.bind (digs_ev _ (by omega)) ?_
    have hl : (Lib.decDigits n.natAbs).length ≤ 20 := by rw [Lib.decDigits_length]; exact Lib.nDigits_le20 _ (by omega)
    refine Ev.pos (by rw [B_size]; omega) ?_
    exact Ev.some' (B_app [45] _)
  · rw [if_neg h]
    refine Ev.neg h ?_
    have e : IntKind.u64.wrap n = (n.toNat : Int) := by rw [u64w (by omega) (by omega)]; omega
    rw [e]
    refine Ev.bind (digs_ev _ (by omega)) ?_
    exact Ev.now _
theorem num6_ev (n : Int) (h0 : -9223372036854775808 ≤ n) (h1 : n ≤ 9223372036854775807) : Ev (fun k => hallmarkref06_num.f k n) (B (Lib.itoa n)) := by
  unfold hallmarkref06_num.f
  exact Ev.bind (num_ev n h0 h1) (Ev.now _)
end Go.Proofs.YtacopdbldfgknaaDoor
