/- The tables that the program reads; digits, types, values: walks. Lists of numbers as texts: walks. strings.Builder inside a paper (type 58): copyCheck, WriteString, String (lines of the shelf's proofs, turned to a block of another type). A quote: the walk; a name out of a table. -/
import Derived.Test.YtacopdbldfgknaaDoorTH
import Derived.Test.YtacopdbldfgknaaDoorTSh
import Derived.Lib.Join
namespace Go.Proofs.YtacopdbldfgknaaDoor
open Go.RowKit PShellTexts YtacopdbldfgknaaDoorW.PrintWords YtacopdbldfgknaaDoorW.PrintMore

structure Vars (w : World) : Prop where
  pow : Lib.TabIs Tryd.prog w "internal/strconv.uint64pow10" .u64 Lib.pow10Tab
  told : w.var? Tryd.prog "hallmark/shell.words" = some (toldW.map T).toArray
  types : w.var? Tryd.prog "hallmark/show.types" = some (typeW.map T).toArray
  steps : w.var? Tryd.prog "hallmark/show.steps" = some (stepW.map T).toArray
  signs : w.var? Tryd.prog "hallmark/show.signs" = some (signW.map T).toArray
  flds : w.var? Tryd.prog "hallmark/kind.fields" = some (fldW.map T).toArray
theorem var_below {P : Program} {n : String} {g : Nat} {cs : Array Value} {w w' : World} (hg : P.globalNamed n = some g) (h : w.var? P n = some cs) (hb : Below w.heap.size w w') : w'.var? P n = some cs := by
  unfold World.var? at h ⊢
  rw [hg] at h ⊢
  simp only [Option.bind_some] at h ⊢
  have hlt : g < w.heap.size := by
    rcases Nat.lt_or_ge g w.heap.size with h' | h'
    · exact h'
    · rw [Array.getElem?_eq_none h'] at h; cases h
  rw [hb.block g hlt]
  exact h
theorem var_lt {P : Program} {n : String} {g : Nat} {cs : Array Value} {w : World} (hg : P.globalNamed n = some g) (h : w.var? P n = some cs) : g < w.heap.size := by
  unfold World.var? at h
  rw [hg] at h
  simp only [Option.bind_some] at h
  rcases Nat.lt_or_ge g w.heap.size with h' | h'
  · exact h'
  · rw [Array.getElem?_eq_none h'] at h; cases h
theorem g_told : Tryd.prog.globalNamed "hallmark/shell.words" = some 0 := by kernel_rfl
theorem g_types : Tryd.prog.globalNamed "hallmark/show.types" = some 1 := by kernel_rfl
theorem g_steps : Tryd.prog.globalNamed "hallmark/show.steps" = some 2 := by kernel_rfl
theorem g_signs : Tryd.prog.globalNamed "hallmark/show.signs" = some 3 := by kernel_rfl
theorem g_pow : Tryd.prog.globalNamed "internal/strconv.uint64pow10" = some 5 := by kernel_rfl
theorem g_flds : Tryd.prog.globalNamed "hallmark/kind.fields" = some 6 := by kernel_rfl
theorem Vars.below {w w' : World} (h : Vars w) (hb : Below w.heap.size w w') : Vars w' :=
  ⟨var_below g_pow h.pow hb, var_below g_told h.told hb, var_below g_types h.types hb, var_below g_steps h.steps hb, var_below g_signs h.signs hb, var_below g_flds h.flds hb⟩
theorem var_cell {P : Program} {n : String} {g : Nat} {l : List (List UInt8)} {w : World} (hg : P.globalNamed n = some g) (h : w.var? P n = some (l.map T).toArray) (i : Nat) (hi : i < l.length) : w.cell? ⟨g, i, none⟩ = some (T (l.getD i [])) := by
  rw [World.var?_cell hg h i]
  simp [hi]

theorem TX.of {P : Program} {f : Nat} {args : Array Value} {w : World} {l : List UInt8} {M : Nat} (h : Calls P f args w fun e w' => e = .returned (.string (B l)) ∧ Below w.heap.size w w') (hM : l.length ≤ M) : Calls P f args w (TX w l M) :=
  h.mono fun _ _ ⟨a, b⟩ => ⟨l, a, Lib.hid rfl, hM, Lib.hid b⟩

/-! ### digits -/
theorem grow_below (w : World) (k : Nat) (os : Array Obj) : Below w.heap.size w (Go.Sort.grow (w.drewN k) os) :=
  ⟨rfl, rfl, rfl, by simp [Go.Sort.grow, World.drewN], fun b hb => by show (w.heap ++ os)[b]? = _; rw [Array.getElem?_append_left hb]⟩
theorem tdigits (w : World) (n : Int) (hn : In n) (hv : Vars w) : Calls Tryd.prog 23 #[I n] w (TX w (Lib.itoa n) 21) := by
  have HV := Lib.hid hv
  have HN := Lib.hid hn
  have hl := itoa_le n hn
  clear hv hn
  go_enter Tryd.func23, Tryd.ntmps23
  go_wp2_with fail
  refine (Tryd.strconv_FormatInt_10 n HN.out.1 HN.out.2 _ HV.out.pow).mono ?_
  rintro e w' ⟨rfl, k, os, rfl⟩
  go_wp2_with fail
  go_ret
  exact TX.mk rfl hl (grow_below w k os)
theorem sdigits (w : World) (n : Int) (hn : In n) (hv : Vars w) : Calls Tryd.prog 28 #[I n] w (TX w (Lib.itoa n) 21) := by
  have HV := Lib.hid hv
  have HN := Lib.hid hn
  have hl := itoa_le n hn
  clear hv hn
  go_enter Tryd.func28, Tryd.ntmps28
  go_wp2_with fail
  refine (tdigits w n HN.out HV.out).mono ?_
  rintro e w1 ⟨s, rfl, hs, h1, hb⟩
  go_wp2_with fail
  go_ret
  exact TX.mk (by simp [hs.out]) hl hb.out
theorem hdigits (w : World) (n : Int) (hn : In n) (hv : Vars w) : Calls Tryd.prog 13 #[I n] w (TX w (Lib.itoa n) 21) := by
  have HV := Lib.hid hv
  have HN := Lib.hid hn
  have hl := itoa_le n hn
  clear hv hn
  go_enter Tryd.func13, Tryd.ntmps13
  go_wp2_with fail
  refine (tdigits w n HN.out HV.out).mono ?_
  rintro e w1 ⟨s, rfl, hs, h1, hb⟩
  go_wp2_with fail
  go_ret
  exact TX.mk (by simp [hs.out]) hl hb.out
theorem value_any (w : World) (n : Int) (hn : In n) (hv : Vars w) : Calls Tryd.prog 39 #[I n] w (TX w (vTx n) 22) := by
  have HV := Lib.hid hv
  have HN := Lib.hid hn
  have hl := vTx_le n hn
  clear hv hn
  go_enter Tryd.func39, Tryd.ntmps39
  go_wp2_with fail
  refine (sdigits w n HN.out HV.out).mono ?_
  rintro e w1 ⟨s, rfl, hs, h1, hb⟩
  go_wp2_with fail
  go_ret
  exact TX.mk (by simp [hs.out, vTx]) hl hb.out
theorem typed_any (w : World) (n : Int) (hn : In n) (hv : Vars w) : Calls Tryd.prog 26 #[I n] w (TX w (tyTx n) 22) := by
  have HV := Lib.hid hv
  have hl := tyTx_le n hn
  have h0 := hn.1
  have h1 := hn.2
  clear hv hn
  by_cases h6 : 6 ≤ n
  · have HH : Hid (tyTx n = 42 :: Lib.itoa (n - 6)) := Lib.hid (by rw [tyTx, if_pos h6])
    go_enter Tryd.func26, Tryd.ntmps26
    go_wp2_with fail
    refine (sdigits w (n - 6) ⟨by omega, by omega⟩ HV.out).mono ?_
    rintro e w1 ⟨s, rfl, hs, h1, hb⟩
    go_wp2_with fail
    go_ret
    exact TX.mk (by simp [hs.out, HH.out]) hl hb.out
  · have h6 : n < 6 := by omega
    by_cases hm : n < -1
    · have HH : Hid (tyTx n = [63]) := Lib.hid (by rw [tyTx, if_neg (by omega), nameTx, if_neg (by omega)])
      go_enter Tryd.func26, Tryd.ntmps26
      go_wp2_with fail
      go_ret
      exact TX.mk (by simp [HH.out]) hl (Below.refl _ _)
    · have hm : -1 ≤ n := by omega
      have HH : Hid (tyTx n = typeW.getD (n + 1).toNat []) := Lib.hid (by rw [tyTx, if_neg (by omega), nameTx, if_pos ⟨by omega, by have : typeW.length = 7 := rfl; omega⟩])
      have hc := var_cell g_types HV.out.types (n + 1).toNat (by have : typeW.length = 7 := rfl; omega)
      obtain ⟨x, hx⟩ : ∃ x, typeW.getD (n + 1).toNat [] = x := ⟨_, rfl⟩
      rw [hx] at HH hc
      clear hx
      go_enter Tryd.func26, Tryd.ntmps26
      go_wp2_with fail
      go_ret
      exact TX.mk (by simp [HH.out]) hl (Below.refl _ _)
theorem fieldsOf_any (w : World) (n : Int) (hv : Vars w) : Calls Tryd.prog 59 #[I n] w (TX w (flds n) 3) := by
  have HV := Lib.hid hv
  have hl := flds_le n
  clear hv
  by_cases h : 0 ≤ n
  · by_cases h2 : n < 26
    · have HH : Hid (flds n = fldW.getD n.toNat []) := Lib.hid (by rw [flds, if_pos ⟨h, h2⟩])
      have hc := var_cell g_flds HV.out.flds n.toNat (by have : fldW.length = 26 := rfl; omega)
      obtain ⟨x, hx⟩ : ∃ x, fldW.getD n.toNat [] = x := ⟨_, rfl⟩
      rw [hx] at HH hc
      clear hx
      go_enter Tryd.func59, Tryd.ntmps59
      go_wp2_with fail
      go_ret
      exact TX.mk (by simp [HH.out]) hl (Below.refl _ _)
    · have h2 : 26 ≤ n := by omega
      have HH : Hid (flds n = []) := Lib.hid (by rw [flds, if_neg (by omega)])
      go_enter Tryd.func59, Tryd.ntmps59
      go_wp2_with fail
      go_ret
      exact TX.mk (by simp [HH.out]) hl (Below.refl _ _)
  · have h : n < 0 := by omega
    have HH : Hid (flds n = []) := Lib.hid (by rw [flds, if_neg (by omega)])
    go_enter Tryd.func59, Tryd.ntmps59
    go_wp2_with fail
    go_ret
    exact TX.mk (by simp [HH.out]) hl (Below.refl _ _)
theorem fields_any (w : World) (n : Int) (hv : Vars w) : Calls Tryd.prog 49 #[I n] w (TX w (flds n) 3) := by
  have HV := Lib.hid hv
  have hl := flds_le n
  clear hv
  go_enter Tryd.func49, Tryd.ntmps49
  go_wp2_with fail
  refine (fieldsOf_any w n HV.out).mono ?_
  rintro e w1 ⟨s, rfl, hs, h1, hb⟩
  go_wp2_with fail
  go_ret
  exact TX.mk (by simp [hs.out]) hl hb.out
end Go.Proofs.YtacopdbldfgknaaDoor
namespace Go.Proofs.YtacopdbldfgknaaDoor
open Go.RowKit PShellTexts YtacopdbldfgknaaDoorW.PrintWords YtacopdbldfgknaaDoorW.PrintMore

def FN (f : Nat) : Value := .func (.func f) #[] #[]
/-- Function fid tells f of a number. -/
def Tells (fid : Nat) (f : Int → List UInt8) : Prop := ∀ (w : World) (n : Int), In n → Vars w → Calls Tryd.prog fid #[I n] w (TX w (f n) 22)
def strs (xs : List (List UInt8)) : List Value := xs.map T
theorem strs_len (xs : List (List UInt8)) : (strs xs).length = xs.length := by simp [strs]
theorem elem9 : ElemT Tryd.prog 69 9 1 16 := ElemT.mk' Tryd.underlying69 (by kernel_rfl : (Tryd.prog.info? 9).map (fun i => (i.zero, i.size, i.bytes)) = some (some (.string ⟨#[]⟩), 1, 16)) (by decide) (by decide)
theorem join_comma (f : Int → List UInt8) (l : List Int) : Lib.join (l.map f) [44] = commas f l := by
  cases l with
  | nil => rfl
  | cons x r =>
    rw [List.map_cons, Lib.join_cons]
    have h : ∀ k, k ≤ r.length → upto (comma f (x :: r)) (k + 1) = f x ++ Lib.joinTail [44] ((r.take k).map f) := by
      intro k
      induction k with
      | zero => intro _; simp [upto_succ, upto_zero, comma, Lib.joinTail]
      | succ k ih =>
        intro hk
        rw [upto_succ, ih (by omega), List.take_succ_eq_append_getElem (by omega)]
        simp only [comma, Lib.joinTail, List.map_append, List.flatten_append, List.map_cons, List.map_nil, List.append_assoc]
        have hk' : k < r.length := by omega
        simp [hk']
    have := h r.length (Nat.le_refl _)
    rw [List.take_length] at this
    exact this.symm

theorem join_own (w : World) (base n : Nat) (v : Value) (ts : List (List UInt8)) (sep : List UInt8) (M : Nat) (h : w.ownsRow base 9 1 v n (strs ts)) (hn : n ≤ 1000000) (hM : (Lib.join ts sep).length ≤ M) (hM2 : M ≤ 140737488355328) :
    Calls Tryd.prog 22 #[v, T sep] w (TX w (Lib.join ts sep) M) := by
  have hl : ts.length = n := by have := h.1; rw [strs_len] at this; omega
  rcases h.2 with ⟨rfl, rfl⟩ | ⟨g, cap, cur, rfl, hb, hh, hc, hm, hs, ht⟩
  · have : ts = [] := List.eq_nil_of_length_eq_zero hl
    subst this
    exact (Tryd.strings_Join_none none 0 _ w).mono fun e w' ⟨he, hw⟩ => by subst he; subst hw; exact TX.mk rfl (by simp [Lib.join_nil]) (Below.refl _ _)
  · have e1 : (ts.map fun t => (⟨t.toArray⟩ : ByteArray)).length = n := by simp [hl]
    have e2 : ((ts.map fun t => (⟨t.toArray⟩ : ByteArray)).map (·.data.toList)) = ts := by simp [Function.comp_def]
    have hj := Tryd.strings_Join g 0 cap (ts.map fun t => (⟨t.toArray⟩ : ByteArray)) ⟨sep.toArray⟩ w (fun j x hx => by
      have hx' : (strs ts)[j]? = some (.string x) := by
        simp only [List.getElem?_map, Option.map_eq_some_iff] at hx
        obtain ⟨t, ht, rfl⟩ := hx
        simp [strs, ht]
      have := h.cells rfl j _ hx'
      rwa [add_plain'] at this) ((Array.getElem?_eq_some_iff.1 hh).1) (by rw [e1]; omega) (by rw [e1]; exact hc) (by rw [e2]; simp; omega)
    rw [e1, e2] at hj
    exact hj.mono fun e w' ⟨he, hb⟩ => by subst he; exact TX.mk (by simp) hM hb
set_option maxRecDepth 100000 in
set_option maxHeartbeats 1000000 in
theorem many_any (w : World) (fid : Nat) (hfid : fid = 39 ∨ fid = 26 ∨ fid = 28) (f : Int → List UInt8) (hT : Tells fid f) (hF : ∀ n, In n → (f n).length ≤ 22) (A : Option Addr) (c : Nat) (l : List Int) (hr : Kd.C (Kd.int .i64) w A l.length l) (_hc : l.length ≤ c) (hl : okL l) (hv : Vars w) :
    Calls Tryd.prog 27 #[.slice A l.length c, FN fid] w (TX w (commas f l) 23000) := by
  have hlen := hl.2
  have HR := Lib.hid hr
  have HL := Lib.hid hl
  have HV := Lib.hid hv
  have HT := Lib.hid hT
  have HF := Lib.hid hF
  clear hr hl hv hT hF
  unfold FN
  rcases hfid with rfl | rfl | rfl
  all_goals
    go_enter Tryd.func27, Tryd.ntmps27
    go_upto_block 1 with fail
    go_loopw [5, 10] (fun v5 v10 wr => ∃ k : Nat, k ≤ l.length ∧ v10 = I k ∧ Hid (wr.ownsRow w.heap.size 9 1 v5 k (strs ((l.take k).map f))) ∧ Hid (Below w.heap.size w wr)) (fun _ v10 _ => l.length - (intOf v10).toNat)
    case atStart => exact ⟨0, Nat.zero_le _, rfl, Lib.hid ⟨rfl, .inl ⟨rfl, rfl⟩⟩, Lib.hid (Below.refl _ _)⟩
    case round =>
      obtain ⟨k, hk, rfl, HO, HB⟩ := hrel
      have hsz := HB.out.size
      by_cases hlt : k < l.length
      · obtain ⟨ad, e, hx⟩ := Kd.at_int HR.out (k : Int) (by omega) (by omega)
        subst e
        replace hx := (HB.out.cell (World.block_lt_of_cell? w _ hx)).trans hx
        rw [Int.toNat_natCast, show rd l (k : Int) = l.getD k 0 from rfl] at hx
        have HN := Lib.hid (okL_at HL.out k)
        have HE : Hid (strs ((l.take (k + 1)).map f) = strs ((l.take k).map f) ++ [T (f (l.getD k 0))]) := Lib.hid (by rw [List.take_succ_eq_append_getElem hlt, List.map_append]; simp [strs, hlt])
        obtain ⟨n, hn⟩ : ∃ n, l.getD k 0 = n := ⟨_, rfl⟩
        rw [hn] at hx HN HE
        clear hn
        go_wp2_with fail
        refine (HT.out _ n HN.out (HV.out.below HB.out)).mono ?_
        rintro e w1 ⟨s, rfl, hs, h1, hb⟩
        have HO1 := Lib.hid (pw_own_below HO.out hb.out)
        have hbl := hb.out.size
        go_wp2_with (at_builtin; go_loud (refine wpl_append1 rfl _ _ _ rfl elem9 rfl (HO1.out.alloc _) (u := .slice (some ⟨w1.heap.size, 0, none⟩) 1 1) (m := 1) (news := [T s]) rfl (Rd.fresh w1 #[T s] 9 1 1 (by omega) (by omega)) rfl (by simp [Value.oneCell']) (by omega) (by omega) (by simp only [maxLen]; omega) (by simp; omega) ?_; intro g' cap' w3 hap))
        go_roundw
        case rel =>
          refine ⟨k + 1, by omega, by go_num, Lib.hid ?_, Lib.hid ?_⟩
          · rw [HE.out, ← hs.out]; exact hap.own
          · exact hap.below ((HB.out.trans (hb.out.mono hsz)).alloc (by omega) _) (HO1.out.alloc _) (Nat.le_refl _) (by simp; omega)
        case measure => simp [intOf]; omega
      · obtain rfl : k = l.length := by omega
        rw [List.take_length] at HO
        have hj := join_comma f l
        have hM : (Lib.join (l.map f) [44]).length ≤ 23000 := by rw [hj]; exact commas_le HF.out HL.out
        have HJ := Lib.hid hj
        have HM := Lib.hid hM
        clear hj hM
        go_wp2_with fail
        refine (join_own _ _ _ _ (l.map f) [44] 23000 HO.out (by omega) HM.out (by omega)).mono ?_
        rintro e w1 ⟨s, rfl, hs, h1, hb⟩
        go_wp2_with fail
        go_ret
        exact TX.mk (by rw [← HJ.out, ← hs.out]) (by rw [← HJ.out]; exact HM.out) (HB.out.trans (hb.out.mono hsz))
theorem brackets_any (w : World) (fid : Nat) (hfid : fid = 39 ∨ fid = 26 ∨ fid = 28) (f : Int → List UInt8) (hT : Tells fid f) (hF : ∀ n, In n → (f n).length ≤ 22) (A : Option Addr) (c : Nat) (l : List Int) (hr : Kd.C (Kd.int .i64) w A l.length l) (hc : l.length ≤ c) (hl : okL l) (hv : Vars w) :
    Calls Tryd.prog 25 #[.slice A l.length c, FN fid] w (TX w (40 :: commas f l ++ [41]) 23002) := by
  have HM := Lib.hid (commas_le hF hl)
  have H := Lib.hid (many_any w fid hfid f hT hF A c l hr hc hl hv)
  clear hr hl hv hT hF hc
  unfold FN at H ⊢
  go_enter Tryd.func25, Tryd.ntmps25
  go_wp2_with fail
  refine H.out.mono ?_
  rintro e w1 ⟨s, rfl, hs, h1, hb⟩
  go_wp2_with fail
  go_ret
  exact TX.mk (by simp [hs.out]) (by have := HM.out; simp only [List.length_cons, List.length_append, List.length_nil]; omega) hb.out
theorem tells_value : Tells 39 vTx := fun w n hn hv => value_any w n hn hv
theorem tells_type : Tells 26 tyTx := fun w n hn hv => typed_any w n hn hv
theorem tells_digits : Tells 28 Lib.itoa := fun w n hn hv => TX.to (sdigits w n hn hv) rfl (by omega)
end Go.Proofs.YtacopdbldfgknaaDoor
namespace Go.Proofs.YtacopdbldfgknaaDoor
open Go Go.RowKit

/-- A builder in a block of type t. -/
abbrev BF (t : TypeId) (B b : Nat) (l : List UInt8) (w : World) : Prop := Lib.IsBuilderF t 5 B b (Lib.byteCells l) w
theorem lies58 : (liesAt Tryd.prog Tryd.prog.depth 58 (2 / Tryd.prog.cellsOf 58) 0 56 1) = true := by kernel_rfl
theorem e24 : ∀ args w, (callFunc 24 args).run Tryd.prog w = .ok (.enter 24 args) w := enters_of Tryd.func24 (by kernel_rfl) rfl
set_option maxHeartbeats 1000000 in
set_option maxRecDepth 100000 in
theorem copyCheck58 (b : Nat) (w : World) (h0 : w.cell? ⟨b, 0, none⟩ = some (.pointer none)) (hsh : w.shape? b = some (58, 2)) (hfz : w.frozen? ⟨b, 0, none⟩ = false) :
    Calls Tryd.prog 24 #[.pointer (some ⟨b, 0, none⟩)] w fun e w' => e = .returned (.tuple #[]) ∧ w' = w.setCell ⟨b, 0, none⟩ (.pointer (some ⟨b, 0, none⟩)) := by
  obtain ⟨j, hj, hjs⟩ := Option.map_eq_some_iff.1 (Tryd.Builder_ExtraB.toX72.sizeBuilder)
  go_enter Tryd.func24, Tryd.ntmps24
  go_wp2
  rw [Lib.run_to_unsafe w ⟨b, 0, none⟩ Tryd.underlying53 Tryd.underlying82 hj (by rw [hjs]; decide) hsh (Nat.zero_lt_succ 1)]
  simp only [Result.andThen]
  rw [Oper.upon_value]
  go_wp2
  rw [run_callFunc_extern Tryd.func37 (by kernel_rfl) (by kernel_rfl) (by kernel_rfl) (e := Extern.AbiNoEscape.same) (by kernel_rfl)]
  rw [Lib.run_noEscape]
  simp only [Result.andThen]
  rw [Oper.upon_value]
  go_wp2
  rw [Lib.run_from_unsafe w ⟨b, 0, none⟩ Tryd.underlying82 Tryd.underlying53 hj hsh lies58]
  simp only [Result.andThen]
  rw [Oper.upon_value]
  go_wp2
  go_end0
  exact ⟨rfl, rfl⟩
theorem copyCheck58_k (B b : Nat) (bs : List Value) (w : World) (h : Lib.IsBuilderF 58 5 B b bs w) :
    Calls Tryd.prog 24 #[.pointer (some ⟨b, 0, none⟩)] w fun e w' => e = .returned (.tuple #[]) ∧ (Lib.BuilderAtF 58 5 B b (.pointer (some ⟨b, 0, none⟩)) bs w' ∧ Below B w w' ∧ Lib.OthersKept 5 (some b) w w') := by
  rcases h with h | h
  · refine (copyCheck58 b w h.cell0 h.shape h.frozen0).mono ?_
    rintro e w' ⟨rfl, rfl⟩
    exact ⟨rfl, h.used _, (Below.refl B w).setCell (p := ⟨b, 0, none⟩) h.1 _, (Lib.OthersKept.refl _ _ w).setCell ⟨b, 0, none⟩ rfl _⟩
  · refine (Any.Builder_copyCheck_used { Tryd.laysB166 with } Tryd.Builder_ExtraB.toX72 b w h.cell0).mono ?_
    rintro e w' ⟨rfl, rfl⟩
    exact ⟨rfl, h, Below.refl B _, Lib.OthersKept.refl _ _ _⟩
set_option maxHeartbeats 2000000 in
set_option maxRecDepth 100000 in
theorem writeString58 (B b : Nat) (bs : List Value) (s : ByteArray) (w : World) (h : Lib.IsBuilderF 58 5 B b bs w) (hlen : bs.length + s.size ≤ 140737488355328) (hBw : B ≤ w.heap.size) :
    Calls Tryd.prog 14 #[.pointer (some ⟨b, 0, none⟩), .string s] w fun e w' => e = .returned (.tuple #[.int .i64 s.size, .nilIface]) ∧ (Lib.BuilderAtF 58 5 B b (.pointer (some ⟨b, 0, none⟩)) (bs ++ Lib.strCells s) w' ∧ Below B w w' ∧ Lib.OthersKept 5 (some b) w w') := by
  obtain ⟨i0, hi, hz0, hz1, hz2⟩ := info_parts Tryd.Builder_ExtraB.infoByte
  have e24 := e24
  go_enter Tryd.func14, Tryd.ntmps14
  go_wp2_with (go_at_call 24; refine (copyCheck58_k B b bs _ h).mono ?_)
  rintro e w1 ⟨rfl, h1, hb1, hk1⟩
  obtain ⟨hB, v, hbk, hown, hne⟩ := h1
  have c0 : w1.cell? ⟨b, 0, none⟩ = some (.pointer (some ⟨b, 0, none⟩)) := by rw [Lib.cell_of_heap hbk]; rfl
  have c1 : w1.cell? ⟨b, 1, none⟩ = some v := by rw [Lib.cell_of_heap hbk]; rfl
  go_wp2_with (at_builtin; refine Lib.wpList_append_own_stringF _ rfl _ _ 54 9 rfl B 5 i0 Tryd.underlying54 Tryd.underlying9 hi hz0 hz1 hz2 _ _ _ rfl hown s rfl ?c3 ?c4 ?c5 ?_)
  case c3 => unfold maxLen; omega
  case c4 => omega
  case c5 => have := hb1.size; omega
  intro v' w2 hown' hgrow _
  have hlt : b < w1.heap.size := by
    rcases Nat.lt_or_ge b w1.heap.size with h' | h'
    · exact h'
    · simp [Array.getElem?_eq_none h'] at hbk
  have hb2 : w2.heap[b]? = some (.cells #[.pointer (some ⟨b, 0, none⟩), v] 58 (0, 0)) := by
    rw [hgrow.block b hlt (fun e => hne e.symm)]
    exact hbk
  have d0 : w2.cell? ⟨b, 0, none⟩ = some (.pointer (some ⟨b, 0, none⟩)) := by rw [Lib.cell_of_heap hb2]; rfl
  have d1 : w2.cell? ⟨b, 1, none⟩ = some v := by rw [Lib.cell_of_heap hb2]; rfl
  have f1 : w2.frozen? ⟨b, 1, none⟩ = false := Lib.frozen_of_heap hb2 1
  obtain ⟨ao, n', cap, rfl⟩ : ∃ ao n' cap, v' = .slice ao n' cap := by
    rcases hown'.2 with ⟨hv, _⟩ | ⟨g, cap, cur, fz, hv, _⟩
    · exact ⟨_, _, _, hv⟩
    · exact ⟨_, _, _, hv⟩
  go_wp2
  go_ret2
  refine ⟨rfl, ?_, ?_, (hk1.grown hgrow (Lib.ownsRowF_kind hown)).setCell ⟨b, 1, none⟩ rfl _⟩
  · exact Lib.BuilderAtF.put (T := 58) (e := 5) hB hb2 (bs' := bs ++ Lib.strCells s) (by simpa [Lib.strCells_length] using hown') (by decide)
  · exact (hb1.grown hgrow (by have := hb1.size; omega) (fun k hk => (hown.lt k hk).1)).setCell (p := ⟨b, 1, none⟩) hB _
set_option maxHeartbeats 1000000 in
set_option maxRecDepth 100000 in
theorem string58 (B b : Nat) (l : List UInt8) (w : World) (h : Lib.IsBuilderF 58 5 B b (Lib.byteCells l) w) (h0 : l ≠ []) :
    Calls Tryd.prog 16 #[.pointer (some ⟨b, 0, none⟩)] w fun e w' => e = .returned (.string ⟨l.toArray⟩) ∧ Below B w w' := by
  obtain ⟨p, hp, hAt⟩ : ∃ p, (p = .pointer none ∨ p = .pointer (some ⟨b, 0, none⟩)) ∧ Lib.BuilderAtF 58 5 B b p (Lib.byteCells l) w := by
    rcases h with h | h
    · exact ⟨_, .inl rfl, h⟩
    · exact ⟨_, .inr rfl, h⟩
  obtain ⟨hB, v, hbk, hown, hne⟩ := hAt
  have hl0 : l.length ≠ 0 := by simpa using h0
  rw [Lib.byteCells_length] at hown
  obtain ⟨g, cap, cur, fz, rfl, hbg, hg, hfz, hnc, hcm, hcs, htake⟩ : ∃ g cap cur fz, v = .slice (some ⟨g, 0, none⟩) l.length cap ∧ B ≤ g ∧ w.heap[g]? = some (.cells cur 5 fz) ∧ fz.2 ≤ l.length * 1 ∧ l.length ≤ cap ∧ cap ≤ maxLen ∧ cur.size = cap * 1 ∧ cur.toList.take (l.length * 1) = Lib.byteCells l := by
    rcases hown.2 with ⟨_, hz⟩ | ⟨g, cap, cur, fz, hv, r⟩
    · exact absurd hz hl0
    · exact ⟨g, cap, cur, fz, hv, r⟩
  have c1 : w.drew.cell? ⟨b, 1, none⟩ = some (.slice (some ⟨g, 0, none⟩) l.length cap) := by
    have : w.drew.heap[b]? = some (.cells #[p, .slice (some ⟨g, 0, none⟩) l.length cap] 58 (0, 0)) := hbk
    rw [Lib.cell_of_heap this]; rfl
  have hSD : (Builtin.unsafeSliceData_ #[54] 75 #[.slice (some ⟨g, 0, none⟩) l.length cap]).run Tryd.prog w.drew = .ok (.pointer (some ⟨g, 0, none⟩)) w.drew :=
    Lib.run_unsafeSliceData_row _ _ _ _ _ _ (by omega)
  have hUS : (Builtin.unsafeString_ #[75, 3] 9 #[.pointer (some ⟨g, 0, none⟩), .int .i64 l.length]).run Tryd.prog w.drew = .ok (.string ⟨l.toArray⟩) (w.drew.freeze ⟨g, 0, none⟩ l.length) := by
    refine Lib.run_unsafeString_row w.drew 75 3 9 5 Tryd.underlying75 (by kernel_rfl) g cur.size (by have hg' : w.drew.heap[g]? = some (.cells cur 5 fz) := hg; simp [World.shape?, hg']) l h0 (by omega) (by unfold maxLen at hcm; omega) ?_
    intro j x hx
    have := hown.cells (g := g) rfl j (.int .u8 x.toNat) (by simp [Lib.byteCells, hx])
    exact this
  have mixed : Tryd.prog.follows Departure.mixedOrders = true := by kernel_rfl
  go_enter Tryd.func16, Tryd.ntmps16
  go_wp2
  go_region_o
  all_goals (go_wp2; go_ret; exact ⟨rfl, Lib.below_freeze (Below.drew (Below.refl B w)) (p := ⟨g, 0, none⟩) hbg _⟩)
end Go.Proofs.YtacopdbldfgknaaDoor
namespace Go.Proofs.YtacopdbldfgknaaDoor
open Go Go.RowKit PShellTexts YtacopdbldfgknaaDoorW.PrintWords YtacopdbldfgknaaDoorW.PrintMore

theorem byteCells_app (a b : List UInt8) : Lib.byteCells a ++ Lib.byteCells b = Lib.byteCells (a ++ b) := by simp [Lib.byteCells]
theorem strCells_T (s : List UInt8) : Lib.strCells (B s) = Lib.byteCells s := by simp [Lib.strCells, Lib.byteCells]
/-- What a write leaves. -/
structure Wr (t : TypeId) (B b : Nat) (l : List UInt8) (w w' : World) : Prop where
  at_ : BF t B b l w'
  below : Below B w w'
  others : Lib.OthersKept 5 (some b) w w'
theorem writeS56 (B b : Nat) (l s : List UInt8) (w : World) (h : BF 56 B b l w) (hlen : l.length + s.length ≤ 140737488355328) (hBw : B ≤ w.heap.size) :
    Calls Tryd.prog 14 #[.pointer (some ⟨b, 0, none⟩), T s] w fun e w' => e = .returned (.tuple #[.int .i64 s.length, .nilIface]) ∧ Wr 56 B b (l ++ s) w w' := by
  refine (Tryd.Builder_WriteString_k B b (Lib.byteCells l) ⟨s.toArray⟩ w h (by rw [Lib.byteCells_length, B_size]; exact hlen) hBw).mono ?_
  rintro e w' ⟨rfl, h1, h2, h3⟩
  rw [strCells_T, byteCells_app] at h1
  exact ⟨by rw [B_size], .inr h1, h2, h3⟩
theorem writeS58 (B b : Nat) (l s : List UInt8) (w : World) (h : BF 58 B b l w) (hlen : l.length + s.length ≤ 140737488355328) (hBw : B ≤ w.heap.size) :
    Calls Tryd.prog 14 #[.pointer (some ⟨b, 0, none⟩), T s] w fun e w' => e = .returned (.tuple #[.int .i64 s.length, .nilIface]) ∧ Wr 58 B b (l ++ s) w w' := by
  refine (writeString58 B b (Lib.byteCells l) ⟨s.toArray⟩ w h (by rw [Lib.byteCells_length, B_size]; exact hlen) hBw).mono ?_
  rintro e w' ⟨rfl, h1, h2, h3⟩
  rw [strCells_T, byteCells_app] at h1
  exact ⟨by rw [B_size], .inr h1, h2, h3⟩
theorem writeB56 (B b : Nat) (l : List UInt8) (c : UInt8) (w : World) (h : BF 56 B b l w) (hlen : l.length + 1 ≤ 140737488355328) (hBw : B ≤ w.heap.size) :
    Calls Tryd.prog 60 #[.pointer (some ⟨b, 0, none⟩), .int .u8 c.toNat] w fun e w' => e = .returned .nilIface ∧ Wr 56 B b (l ++ [c]) w w' := by
  refine (Tryd.Builder_WriteByte_k B b (Lib.byteCells l) c.toNat w h (by rw [Lib.byteCells_length]; exact hlen) hBw).mono ?_
  rintro e w' ⟨rfl, h1, h2, h3⟩
  have e1 : Lib.byteCells l ++ [.int .u8 (c.toNat : Int)] = Lib.byteCells (l ++ [c]) := by simp [Lib.byteCells]
  rw [e1] at h1
  exact ⟨rfl, .inr h1, h2, h3⟩
theorem BAt.below {T e : TypeId} {B b : Nat} {p : Value} {bs : List Value} {W W' : World} (h : Lib.BuilderAtF T e B b p bs W) (hb : Below W.heap.size W W') : Lib.BuilderAtF T e B b p bs W' := by
  have hlt := h.lt
  obtain ⟨hB, v, hv, hown, hne⟩ := h
  exact ⟨hB, v, (hb.block b hlt).trans hv, hown.kept (row := none) ⟨hb.os, hb.tape, hb.output, hb.size, fun k hk _ => hb.block k hk⟩ (Classical.em _), hne⟩
theorem BF.below {t : TypeId} {B b : Nat} {l : List UInt8} {W W' : World} (h : BF t B b l W) (hb : Below W.heap.size W W') : BF t B b l W' :=
  h.elim (fun x => .inl (BAt.below x hb)) (fun x => .inr (BAt.below x hb))
theorem BF.fresh (t : TypeId) (w : World) : BF t w.heap.size w.heap.size [] (w.alloc (.cells #[.pointer none, .slice none 0 0] t)) := Lib.IsBuilderF.of (Lib.fresh_isBuilder t 5 w)
theorem quoted_tab : (List.range 256).map (fun (c : Nat) => text_quoted.f 4 c) = (List.range 256).map (fun (c : Nat) => some (B (qb c))) := by kernel_rfl
theorem quoted_any (w : World) (c : Nat) (hc : c < 256) : Calls Tryd.prog 61 #[.int .u8 c] w (TX w (qb c) 3) := by
  refine TX.of (text_quoted.calls 4 c _ w ?_) (qb_le c)
  have := congrArg (fun x => x[c]?) quoted_tab
  simpa [hc] using this
theorem quoteP (w : World) (s : ByteArray) (hs : s.size ≤ 8007) : Calls Tryd.prog 50 #[.string s] w (TX w (quoteTx s.data.toList) 24023) := by
  have hd : s.data.toList.length = s.size := data_length s
  have hq := quoteTx_le s.data.toList
  have HF := Lib.hid (BF.fresh 56 w)
  have HB0 := Lib.hid (below_alloc w (.cells #[.pointer none, .slice none 0 0] 56))
  have HD := Lib.hid hd
  clear hd
  go_enter Tryd.func50, Tryd.ntmps50
  go_wp2_with fail
  refine (writeB56 w.heap.size w.heap.size [] 34 _ HF.out (by simp) (by simp)).mono ?_
  rintro e w1 ⟨rfl, h1⟩
  have H1 := Lib.hid h1
  have HB1 : Hid (Below w.heap.size w w1) := Lib.hid (HB0.out.trans h1.below)
  clear h1
  go_upto_block 1 with fail
  go_loopw [8] (fun v8 wr => ∃ k : Nat, k ≤ s.size ∧ v8 = I k ∧ Hid (BF 56 w.heap.size w.heap.size (preQ s.data.toList k) wr) ∧ Hid (Below w.heap.size w wr)) (fun v8 _ => s.size - (intOf v8).toNat)
  case atStart => exact ⟨0, Nat.zero_le _, rfl, Lib.hid H1.out.at_, HB1⟩
  case round =>
    obtain ⟨k, hk, rfl, HO, HB⟩ := hrel
    have hsz := HB.out.size
    by_cases hlt : k < s.size
    · have hlt' : k < s.data.toList.length := by rw [HD.out]; exact hlt
      have HE := Lib.hid (preQ_succ s.data.toList k hlt')
      have HPL := Lib.hid (preQ_le s.data.toList k (by omega))
      have HC : Hid (s.data.toList[k].toNat = s[k].toNat) := Lib.hid rfl
      rw [HC.out] at HE
      clear HC
      have hc := s[k].toNat_lt
      have hb1 := quoted_any wr s[k].toNat (by omega)
      have HQ1 := Lib.hid hb1
      clear hb1
      go_wp2_with fail
      refine HQ1.out.mono ?_
      rintro e w2 ⟨t, rfl, ht, htl, hb2⟩
      have HO2 : Hid (BF 56 w.heap.size w.heap.size (preQ s.data.toList k) w2) := Lib.hid (HO.out.below hb2.out)
      have hs2 := hb2.out.size
      have hpl := HPL.out
      rw [HD.out] at hpl
      go_wp2_with fail
      refine (writeS56 w.heap.size w.heap.size _ t w2 HO2.out (by omega) (by omega)).mono ?_
      rintro e w3 ⟨rfl, h3⟩
      have H3 := Lib.hid h3
      clear h3
      go_wp2_with fail
      go_roundw
      case rel =>
        refine ⟨k + 1, by omega, by go_num, Lib.hid ?_, Lib.hid ?_⟩
        · rw [HE.out, ← ht.out]; exact H3.out.at_
        · exact (HB.out.trans (hb2.out.mono hsz)).trans H3.out.below
      case measure => simp [intOf]; omega
    · obtain rfl : k = s.size := by omega
      have HPL := Lib.hid (preQ_le s.data.toList s.size (by rw [HD.out]; omega))
      have hpl := HPL.out
      rw [HD.out] at hpl
      have HE : Hid (preQ s.data.toList s.size ++ [34] = quoteTx s.data.toList) := Lib.hid (by rw [preQ, quoteTx, ← HD.out, List.take_length])
      go_wp2_with fail
      refine (writeB56 w.heap.size w.heap.size _ 34 wr HO.out (by omega) (by omega)).mono ?_
      rintro e w3 ⟨rfl, h3⟩
      have H3 := Lib.hid h3
      have hs3 := h3.below.size
      clear h3
      go_wp2_with fail
      refine (Tryd.Builder_String_any_k w.heap.size w.heap.size _ w3 H3.out.at_ (by omega)).mono ?_
      rintro e w4 ⟨rfl, h4, hb4, ho4⟩
      have HB4 := Lib.hid hb4
      clear h4 hb4 ho4
      go_wp2_with fail
      go_ret
      exact TX.mk (by rw [← HE.out]) (by rw [HD.out] at hq; omega) ((HB.out.trans H3.out.below).trans HB4.out)
/-! ### names -/
theorem strs_C (w : World) (g n : Nat) (l : List (List UInt8)) (hn : l.length = n) (h : ∀ i, i < l.length → w.cell? ⟨g, i, none⟩ = some (T (l.getD i []))) (hl : n ≤ 1000) : Kd.C Kd.string w (some ⟨g, 0, none⟩) n (l.map B) := by
  refine ⟨by simp [hn], by omega, fun _ => ⟨_, rfl, fun j p hj => ?_⟩⟩
  simp only [List.getElem?_map, Option.map_eq_some_iff] at hj
  obtain ⟨x, hx, rfl⟩ := hj
  obtain ⟨hjl, hxe⟩ := List.getElem?_eq_some_iff.1 hx
  refine ⟨[T x], rfl, rfl, fun i u hu => ?_⟩
  match i, hu with
  | 0, hu =>
    simp at hu
    subst hu
    have := h j hjl
    rw [List.getD_eq_getElem?_getD, hx] at this
    rw [add_plain']
    simpa [Kd.string, Kd.scalar] using this
theorem name_any (w : World) (g : Nat) (l : List (List UInt8)) (m : Nat) (hm : l.length = m) (h6 : ∀ x ∈ l, x.length ≤ 6) (h : ∀ i, i < l.length → w.cell? ⟨g, i, none⟩ = some (T (l.getD i []))) (hl : m ≤ 1000) (n : Int) :
    Calls Tryd.prog 48 #[.slice (some ⟨g, 0, none⟩) m m, I n] w (TX w (nameTx l n) 6) := by
  have hC := strs_C w g m l hm h hl
  have hlm : (l.map B).length = m := by simp [hm]
  have hc := show_name.calls (some ⟨g, 0, none⟩) m (l.map B) n (B (nameTx l n)) w (by rw [hlm]; exact hC) (by omega) (by
    unfold show_name.f nameTx
    rw [hlm]
    by_cases h0 : n < 0
    · rw [if_pos h0, if_neg (by omega)]
    · rw [if_neg h0]
      by_cases h1 : n ≥ (m : Int)
      · rw [if_pos h1, if_neg (by omega)]
      · rw [if_neg h1, if_pos (by omega), if_pos (by omega), if_pos ⟨by omega, by omega⟩]
        have hn : n.toNat < l.length := by omega
        simp [rdOf, hn])
  rw [hlm] at hc
  exact TX.of (hc.mono fun e w' ⟨he, hd⟩ => ⟨he, hd.below⟩) (nameTx_le l h6 n)
end Go.Proofs.YtacopdbldfgknaaDoor
