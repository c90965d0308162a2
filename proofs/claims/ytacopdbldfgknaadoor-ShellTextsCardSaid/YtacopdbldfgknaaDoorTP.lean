/- A report's text by package shell: the walk (printed by wip/mk_tl.py). A report's text by the document; the small living call; the law: the walk (printed by wip/mk_tm.py). ShellTexts: the law's walk (printed by wip/mk_tp.py). -/
import Derived.Test.YtacopdbldfgknaaDoorTZ
namespace Go.Proofs.YtacopdbldfgknaaDoor
open Go Go.RowKit PShellTexts YtacopdbldfgknaaDoorW.PrintWords YtacopdbldfgknaaDoorW.PrintMore YtacopdbldfgknaaDoorW.PrintLast

theorem FWt.zs : True := trivial
def LineRes (w0 : World) (b : Nat) (l : List UInt8) (e : Ending) (w' : World) : Prop := e = .returned (.tuple #[]) ∧ Hid (FW 58 w0 b l w')
set_option maxHeartbeats 2000000 in
set_option maxRecDepth 100000 in
theorem line_any (w0 w : World) (b g n c : Nat) (x : List UInt8) (ts : List (List UInt8)) (hn : ts.length = n) (hnc : n ≤ c) (hn1 : n ≤ 1000) (hc : ∀ j, j < ts.length → w.cell? ⟨g, j, none⟩ = some (T (ts.getD j []))) (hg : g < w.heap.size) (hF : FW 58 w0 b x w)
    (hJ : (Lib.join ts [32]).length ≤ 1000) (hx : x.length ≤ 100000000000000) :
    Calls Tryd.prog 12 #[.pointer (some ⟨b, 0, none⟩), .slice (some ⟨g, 0, none⟩) n c] w (LineRes w0 b (x ++ (Lib.join ts [32] ++ [10]))) := by
  have hj : Calls Tryd.prog 22 #[.slice (some ⟨g, 0, none⟩) n c, T [32]] w.drew (TX w.drew (Lib.join ts [32]) 1000) := by
    have e1 : (ts.map fun t => (⟨t.toArray⟩ : ByteArray)).length = n := by simp [hn]
    have e2 : ((ts.map fun t => (⟨t.toArray⟩ : ByteArray)).map (·.data.toList)) = ts := by simp [Function.comp_def]
    have hj := Tryd.strings_Join g 0 c (ts.map fun t => (⟨t.toArray⟩ : ByteArray)) ⟨[32].toArray⟩ w.drew (fun j x hx => by
      simp only [List.getElem?_map, Option.map_eq_some_iff] at hx
      obtain ⟨t, ht, rfl⟩ := hx
      obtain ⟨hjl, hje⟩ := List.getElem?_eq_some_iff.1 ht
      have := hc j hjl
      rw [List.getD_eq_getElem?_getD, ht] at this
      simpa using this) hg (by rw [e1]; omega) (by rw [e1]; exact hnc) (by rw [e2]; simp; omega)
    rw [e1, e2] at hj
    exact hj.mono fun e w' ⟨he, hb⟩ => by subst he; exact TX.mk (by simp) hJ hb
  have HJ := Lib.hid hj
  have HF := Lib.hid hF
  have HJL := Lib.hid hJ
  clear hj hc hF hJ
  go_enter Tryd.func12, Tryd.ntmps12
  go_upto_region 0 with fail
  refine wp_region_y (fun w' => True) [] (by kernel_rfl) ?_
  have hS0 : True := trivial
  refine wpY_pure (i := 0) (v := ?_) rfl (by kernel_rfl) (fun _ _ _ h => h) (Or.inl ⟨rfl, ?_⟩) (fun _ => hS0) ?_
  rotate_left
  · intro W _
    go_simp
    try (with_reducible rfl)
  refine wpY_pure (i := 1) (v := ?_) rfl (by kernel_rfl) (fun _ _ _ h => h) (Or.inl ⟨rfl, ?_⟩) (fun _ => hS0) ?_
  rotate_left
  · intro W _
    go_simp
    try (with_reducible rfl)
  refine wpY_pure (i := 2) (v := ?_) rfl (by kernel_rfl) (fun _ _ _ h => h) (Or.inl ⟨rfl, ?_⟩) (fun _ => hS0) ?_
  rotate_left
  · intro W _
    go_simp
    try (with_reducible rfl)
  refine wpY_pure (i := 3) (v := ?_) rfl (by kernel_rfl) (fun _ _ _ h => h) (Or.inl ⟨rfl, ?_⟩) (fun _ => hS0) ?_
  rotate_left
  · intro W _
    go_simp
    try (with_reducible rfl)
  refine wpY_one (i := 4) rfl (by kernel_rfl) (fun K hK => ?_)
  go_simp
  refine (HJ.out).mono ?_
  rintro e w7 ⟨t7, rfl, ht7, hl7, hb7⟩
  have HF7 := Lib.hid (HF.out.drew.next hb7.out)
  have hS1 : True := trivial
  go_wp2_with fail
  refine hK _ _ (fun _ => hS1) ?_
  clear hK K
  have hn1 : (9223372036854775807 < t7.length + 1) = False := eq_false (by omega)
  refine wpY_pure (i := 5) (v := ?_) rfl (by kernel_rfl) (fun _ _ _ h => h) (Or.inl ⟨rfl, ?_⟩) (fun _ => hS1) ?_
  rotate_left
  · intro W _
    go_simp
    try (with_reducible rfl)
  refine wpY_one (i := 6) rfl (by kernel_rfl) (fun K hK => ?_)
  go_simp
  refine (write58 w0 w7 b x (t7 ++ [10]) _ (by (apply ByteArray.ext; simp [ByteArray.data_append])) HF7.out (by simp only [List.length_append, List.length_cons, List.length_nil]; omega)).mono ?_
  rintro e w8 ⟨n8, rfl, HF8, HW8⟩
  have hS2 : True := trivial
  go_wp2_with fail
  refine hK _ _ (fun _ => hS2) ?_
  clear hK K
  refine wpY_done (by kernel_rfl) ?_ _
  clear hS0 hS1 hS2
  clear hn1
  go_wp2_with fail
  go_end0
  exact ⟨rfl, by rw [← ht7.out]; exact HF8⟩

/-! ### a report -/
def toldAt (l : List Int) (i : Nat) : List UInt8 := Lib.itoa ((i + 1 : Nat) : Int) ++ [32] ++ nameTx toldW (l.getD i 0) ++ [10]
def endS (st : Bool) : List UInt8 := if st = true then [115, 116, 97, 98, 108, 101, 10] else [98, 111, 117, 110, 100, 10]
def reportTx (l : List Int) (st : Bool) (ptx : List UInt8) : List UInt8 := upto (toldAt l) l.length ++ endS st ++ ptx
theorem toldAt_le (l : List Int) (i : Nat) (hi : i ≤ 1000) : (toldAt l i).length ≤ 30 := by
  have h1 := itoa_le ((i + 1 : Nat) : Int) ⟨by omega, by omega⟩
  have h2 := nameTx_le toldW toldW_le (l.getD i 0)
  simp only [toldAt, List.length_append, List.length_cons, List.length_nil]; omega
theorem tolds_le (l : List Int) (k : Nat) (hk : k ≤ 300) : (upto (toldAt l) k).length ≤ 9000 := by
  have := upto_len (toldAt l) 30 k (fun i hi => toldAt_le l i (by omega))
  omega
theorem reportTx_le (l : List Int) (st : Bool) (ptx : List UInt8) (hl : l.length ≤ 300) (hp : ptx.length ≤ 80200100000000) : (reportTx l st ptx).length ≤ 80200100010000 := by
  have h1 := tolds_le l l.length hl
  have h2 : (endS st).length ≤ 7 := by unfold endS; split <;> simp
  simp only [reportTx, List.length_append]; omega
theorem reportTx_ne (l : List Int) (st : Bool) (ptx : List UInt8) : reportTx l st ptx ≠ [] := by
  intro h
  have h2 : (endS st).length ≤ 0 := by have := congrArg List.length h; simp only [reportTx, List.length_append, List.length_nil] at this; omega
  revert h2; unfold endS; split <;> simp
theorem app_endS (x : List UInt8) (st : Bool) (n : Nat) (h : x.length ≤ 9000) (hn : n ≤ 80200100000000) : (x ++ endS st).length + n ≤ 140737488355328 := by
  have h2 : (endS st).length ≤ 7 := by unfold endS; split <;> simp
  rw [List.length_append]; omega
def RepV (pv : Value) (A : Option Addr) (n c : Nat) (st : Bool) : Value := .agg #[pv, .slice A n c, .bool st]
/-- Whatever has been made since, package show tells ptx of the program. -/
def Shows (w : World) (f : Nat) (pv : Value) (ptx : List UInt8) : Prop := ∀ w', Below w.heap.size w w' → Calls Tryd.prog f #[pv] w' (TX w' ptx 80200100000000)
theorem FW.fresh58 (w : World) : FW 58 w w.heap.size [] (w.alloc (.cells #[.pointer none, .slice none 0 0] 58)) := ⟨BF.fresh 58 w, below_alloc _ _⟩
theorem two_cells (w : World) (t : TypeId) (a b : List UInt8) (j : Nat) (hj : j < [a, b].length) : (w.alloc (.cells #[T a, T b] t)).cell? ⟨w.heap.size, j, none⟩ = some (T ([a, b].getD j [])) := by
  rw [(Arr.new w t #[T a, T b]).cell j]
  match j, hj with
  | 0, _ => rfl
  | 1, _ => rfl
theorem one_cell (w : World) (t : TypeId) (a : List UInt8) (j : Nat) (hj : j < [a].length) : (w.alloc (.cells #[T a] t)).cell? ⟨w.heap.size, j, none⟩ = some (T ([a].getD j [])) := by
  rw [(Arr.new w t #[T a]).cell j]
  match j, hj with
  | 0, _ => rfl
theorem join2 (a b : List UInt8) : Lib.join [a, b] [32] = a ++ [32] ++ b := by simp [Lib.join, List.intercalate]
set_option maxHeartbeats 8000000 in
set_option maxRecDepth 100000 in
theorem texted_any (w : World) (pv : Value) (hpv : pv.oneCell' = true) (A : Option Addr) (c : Nat) (l : List Int) (st : Bool) (ptx : List UInt8) (hr : Kd.C (Kd.int .i64) w A l.length l) (_hc : l.length ≤ c) (hi : ∀ x ∈ l, In x) (hl : l.length ≤ 300) (hs : Shows w 15 pv ptx) (hpl : ptx.length ≤ 80200100000000) (hv : Vars w) :
    Calls Tryd.prog 8 #[RepV pv A l.length c st] w (TX w (reportTx l st ptx) 80200100010000) := by
  have HL := Lib.hid (reportTx_le l st ptx hl hpl)
  have HPL := Lib.hid hpl
  have HB0 := Lib.hid (below_alloc w (.cells #[pv, .slice A l.length c, .bool st] 30))
  have HR := Lib.hid (Kd.C_below hr HB0.out)
  have HV := Lib.hid (hv.below HB0.out)
  have HI := Lib.hid hi
  have HS := Lib.hid hs
  have HAX := Lib.hid (Arr.new w 30 #[pv, .slice A l.length c, .bool st])
  have HF0 := Lib.hid (FW.fresh58 (w.alloc (.cells #[pv, .slice A l.length c, .bool st] 30)))
  have HP1 := Lib.hid hpv
  clear hr hi hs hv hpl
  unfold RepV
  have hcx1 := cell_b (HAX.out.cell 1) HF0.out.below
  go_enter Tryd.func8, Tryd.ntmps8
  go_upto_region 2 with fail
  obtain ⟨W, hW⟩ : ∃ W, (w.alloc (.cells #[pv, .slice A l.length c, .bool st] 30)).alloc (.cells #[.pointer none, .slice none 0 0] 58) = W := ⟨_, rfl⟩
  obtain ⟨W0, hW0⟩ : ∃ W0, w.alloc (.cells #[pv, .slice A l.length c, .bool st] 30) = W0 := ⟨_, rfl⟩
  obtain ⟨b, hb⟩ : ∃ b, w.heap.size + 1 = b := ⟨_, rfl⟩
  obtain ⟨br, hbr⟩ : ∃ br, w.heap.size = br := ⟨_, rfl⟩
  have hsz0 : (w.alloc (.cells #[pv, .slice A l.length c, .bool st] 30)).heap.size = w.heap.size + 1 := by simp
  rw [hsz0, hW, hb, hW0] at HF0
  rw [hW0] at HB0 HR HV HAX
  rw [hbr] at HAX
  rw [hW] at hcx1 ⊢
  rw [hbr] at hcx1
  rw [hb, hbr]
  clear hW hW0 hb hbr hsz0
  go_upto_block 1 with fail
  clear hcx1
  go_loopw [12] (fun v12 wr => ∃ k : Nat, k ≤ l.length ∧ v12 = I k ∧ Hid (FW 58 W0 b (upto (toldAt l) k) wr)) (fun v12 _ => l.length - (intOf v12).toNat)
  case atStart => exact ⟨0, Nat.zero_le _, rfl, HF0⟩
  case round =>
    clear HF0
    obtain ⟨k, hk, rfl, HFK⟩ := hrel
    by_cases hlt : k < l.length
    · obtain ⟨ad, e, hx⟩ := Kd.at_int HR.out (k : Int) (by omega) (by omega)
      subst e
      replace hx := cell_b hx HFK.out.below
      rw [Int.toNat_natCast, show rd l (k : Int) = l.getD k 0 from rfl] at hx
      have HSL := Lib.hid (tolds_le l k (by omega))
      have HSK : Hid (upto (toldAt l) (k + 1) = upto (toldAt l) k ++ toldAt l k) := Lib.hid (upto_succ _ k)
      have HTA : Hid (toldAt l k = Lib.itoa ((k : Int) + 1) ++ [32] ++ nameTx toldW (l.getD k 0) ++ [10]) := Lib.hid rfl
      have HTL := Lib.hid (toldAt_le l k (by omega))
      obtain ⟨n, hn⟩ : ∃ n, l.getD k 0 = n := ⟨_, rfl⟩
      rw [hn] at hx HTA
      clear hn
      have HV1 := Lib.hid (HFK.out.vars HV.out)
      rcases (by omega : n < 0 ∨ 7 ≤ n ∨ (0 ≤ n ∧ n < 7)) with hr | hr | hr
      · have HNT : Hid (nameTx toldW n = [63]) := Lib.hid (by rw [nameTx, if_neg]; simp [toldW]; omega)
        go_wp2_with fail
        refine (hdigits _ _ ⟨by omega, by omega⟩ HV1.out).mono ?_
        rintro e w1 ⟨t1, rfl, ht1, hl1, hb1⟩
        have HF1 := Lib.hid (HFK.out.next hb1.out)
        go_wp2_with fail
        have HF2 := Lib.hid (HF1.out.alloc (.cells #[T t1, T [63]] 9))
        refine (line_any W0 _ b _ 2 2 (upto (toldAt l) k) [t1, [63]] rfl (by omega) (by omega) (fun j hj => two_cells w1 9 t1 [63] j hj) (by simp) HF2.out ?_ (by have := HSL.out; omega)).mono ?_
        · rw [join2, ht1.out]
          have h1 := HTA.out ▸ HTL.out
          rw [← HNT.out]
          simp only [List.length_append, List.length_cons, List.length_nil] at h1 ⊢
          omega
        rintro e w9 ⟨rfl, HF9⟩
        go_wp2_with fail
        go_roundw
        case rel =>
          refine ⟨k + 1, by omega, by go_num, Lib.hid ?_⟩
          rw [HSK.out, HTA.out, HNT.out, ← List.append_assoc, ← ht1.out, ← join2]
          simpa using HF9.out
        case measure => simp [intOf]; omega
      · have HNT : Hid (nameTx toldW n = [63]) := Lib.hid (by rw [nameTx, if_neg]; simp [toldW]; omega)
        go_wp2_with fail
        refine (hdigits _ _ ⟨by omega, by omega⟩ HV1.out).mono ?_
        rintro e w1 ⟨t1, rfl, ht1, hl1, hb1⟩
        have HF1 := Lib.hid (HFK.out.next hb1.out)
        go_wp2_with fail
        have HF2 := Lib.hid (HF1.out.alloc (.cells #[T t1, T [63]] 9))
        refine (line_any W0 _ b _ 2 2 (upto (toldAt l) k) [t1, [63]] rfl (by omega) (by omega) (fun j hj => two_cells w1 9 t1 [63] j hj) (by simp) HF2.out ?_ (by have := HSL.out; omega)).mono ?_
        · rw [join2, ht1.out]
          have h1 := HTA.out ▸ HTL.out
          rw [← HNT.out]
          simp only [List.length_append, List.length_cons, List.length_nil] at h1 ⊢
          omega
        rintro e w9 ⟨rfl, HF9⟩
        go_wp2_with fail
        go_roundw
        case rel =>
          refine ⟨k + 1, by omega, by go_num, Lib.hid ?_⟩
          rw [HSK.out, HTA.out, HNT.out, ← List.append_assoc, ← ht1.out, ← join2]
          simpa using HF9.out
        case measure => simp [intOf]; omega
      · obtain ⟨h0, h7⟩ := hr
        have hcw := var_cell g_told HV1.out.told n.toNat (by simp [toldW]; omega)
        have HNT : Hid (nameTx toldW n = toldW.getD n.toNat []) := Lib.hid (by rw [nameTx, if_pos]; simp [toldW]; omega)
        obtain ⟨wd, hwd⟩ : ∃ wd, toldW.getD n.toNat [] = wd := ⟨_, rfl⟩
        rw [hwd] at hcw HNT
        clear hwd
        go_wp2_with fail
        refine (hdigits _ _ ⟨by omega, by omega⟩ HV1.out).mono ?_
        rintro e w1 ⟨t1, rfl, ht1, hl1, hb1⟩
        have HF1 := Lib.hid (HFK.out.next hb1.out)
        go_wp2_with fail
        have HF2 := Lib.hid (HF1.out.alloc (.cells #[T t1, T wd] 9))
        refine (line_any W0 _ b _ 2 2 (upto (toldAt l) k) [t1, wd] rfl (by omega) (by omega) (fun j hj => two_cells w1 9 t1 wd j hj) (by simp) HF2.out ?_ (by have := HSL.out; omega)).mono ?_
        · rw [join2, ht1.out]
          have h1 := HTA.out ▸ HTL.out
          rw [← HNT.out]
          simp only [List.length_append, List.length_cons, List.length_nil] at h1 ⊢
          omega
        rintro e w9 ⟨rfl, HF9⟩
        go_wp2_with fail
        go_roundw
        case rel =>
          refine ⟨k + 1, by omega, by go_num, Lib.hid ?_⟩
          rw [HSK.out, HTA.out, HNT.out, ← List.append_assoc, ← ht1.out, ← join2]
          simpa using HF9.out
        case measure => simp [intOf]; omega
    · obtain rfl : k = l.length := by omega
      have HSL := Lib.hid (tolds_le l l.length hl)
      obtain ⟨x0, hx0⟩ : ∃ x0, upto (toldAt l) l.length = x0 := ⟨_, rfl⟩
      have HX0 := Lib.hid hx0
      have hx0l : x0.length ≤ 9000 := by rw [← hx0]; exact HSL.out
      rw [hx0] at HFK
      clear hx0 HSL
      have hcs := cell_b (HAX.out.cell 2) HFK.out.below
      cases st
      · go_wp2_with fail
        clear hcs
        have HF2 := Lib.hid (HFK.out.alloc (.cells #[T [98, 111, 117, 110, 100]] 9))
        refine (line_any W0 _ b _ 1 1 x0 [[98, 111, 117, 110, 100]] rfl (by omega) (by omega) (fun j hj => one_cell wr 9 [98, 111, 117, 110, 100] j hj) (by simp) HF2.out (by simp [Lib.join, List.intercalate]) (by omega)).mono ?_
        rintro e wl ⟨rfl, HFL⟩
        have HFL' : Hid (FW 58 W0 b (x0 ++ endS false) wl) := Lib.hid HFL.out
        go_upto_region 13 with fail
        have hst : wl.drew.cell? ⟨br, 0, none⟩ = some pv := cell_b (HAX.out.cell 0) HFL'.out.drew.below
        refine wp_region_y (fun w' => w'.cell? ⟨br, 0, none⟩ = some (pv)) [] (by kernel_rfl) ?_
        have hS0 : wl.drew.cell? ⟨br, 0, none⟩ = some (pv) := hst
        refine wpY_pure (i := 0) (v := ?_) rfl (by kernel_rfl) (fun _ _ _ h => h) (Or.inl ⟨rfl, ?_⟩) (fun _ => hS0) ?_
        rotate_left
        · intro W _
          go_simp
          try (with_reducible rfl)
        refine wpY_pure (i := 1) (v := ?_) rfl (by kernel_rfl) (fun _ _ _ h => h) (Or.inl ⟨rfl, ?_⟩) (fun _ => hS0) ?_
        rotate_left
        · intro W _
          go_simp
          try (with_reducible rfl)
        refine wpY_pure (i := 2) (v := ?_) rfl (by kernel_rfl) (fun _ _ _ h => h) (Or.inl ⟨rfl, ?_⟩) (fun _ => hS0) ?_
        rotate_left
        · intro W _
          go_simp
          try (with_reducible rfl)
        refine wpY_pure (i := 3) (v := ?_) rfl (by kernel_rfl) (fun _ _ _ h => h) (Or.inl ⟨rfl, ?_⟩) (fun _ => hS0) ?_
        rotate_left
        · intro W _
          go_simp
          try (with_reducible rfl)
        refine wpY_take (i := 4) (v := ?_) rfl (by kernel_rfl) (fun _ _ _ h => h) (Or.inl ⟨rfl, ?_⟩) hS0 ?_
        rotate_left
        · intro W s0
          go_simp
          try (with_reducible rfl)
        refine wpY_one (i := 5) rfl (by kernel_rfl) (fun K hK => ?_)
        go_simp
        refine (HS.out _ (HB0.out.trans (HFL'.out.drew.below.mono HB0.out.size))).mono ?_
        rintro e w7 ⟨t7, rfl, ht7, hl7, hb7⟩
        have HF7 := Lib.hid (HFL'.out.drew.next hb7.out)
        have hS1 : w7.cell? ⟨br, 0, none⟩ = some (pv) := cell_b hst hb7.out
        go_wp2_with fail
        refine hK _ _ (fun _ => hS1) ?_
        clear hK K
        refine wpY_one (i := 6) rfl (by kernel_rfl) (fun K hK => ?_)
        go_simp
        refine (write58 W0 w7 b (x0 ++ endS false) t7 _ rfl HF7.out (app_endS x0 false _ hx0l (by have := HPL.out; rw [← ht7.out] at this; exact this))).mono ?_
        rintro e w8 ⟨n8, rfl, HF8, HW8⟩
        have hS2 : w8.cell? ⟨br, 0, none⟩ = some (pv) := cell_b (HAX.out.cell 0) HF8.out.below
        go_wp2_with fail
        refine hK _ _ (fun _ => hS2) ?_
        clear hK K
        refine wpY_done (by kernel_rfl) ?_ _
        clear hS0 hS1 hS2
        have HE : Hid (x0 ++ endS false ++ t7 = reportTx l false ptx) := Lib.hid (by rw [← HX0.out, ht7.out, reportTx])
        rw [HE.out] at HF8
        have hs8 := HF8.out.below.size
        have hne : reportTx l false ptx ≠ [] := reportTx_ne l _ ptx
        have HNE := Lib.hid hne
        clear hst hne
        go_wp2_with fail
        refine (string58 W0.heap.size b _ w8 HF8.out.bf HNE.out).mono ?_
        rintro e w9 ⟨rfl, hb9⟩
        have HB9 := Lib.hid hb9
        clear hb9
        go_wp2_with fail
        go_ret
        exact TX.mk rfl HL.out (HB0.out.trans ((HF8.out.below.trans HB9.out).mono HB0.out.size))
      · go_wp2_with fail
        clear hcs
        have HF2 := Lib.hid (HFK.out.alloc (.cells #[T [115, 116, 97, 98, 108, 101]] 9))
        refine (line_any W0 _ b _ 1 1 x0 [[115, 116, 97, 98, 108, 101]] rfl (by omega) (by omega) (fun j hj => one_cell wr 9 [115, 116, 97, 98, 108, 101] j hj) (by simp) HF2.out (by simp [Lib.join, List.intercalate]) (by omega)).mono ?_
        rintro e wl ⟨rfl, HFL⟩
        have HFL' : Hid (FW 58 W0 b (x0 ++ endS true) wl) := Lib.hid HFL.out
        go_upto_region 13 with fail
        have hst : wl.drew.cell? ⟨br, 0, none⟩ = some pv := cell_b (HAX.out.cell 0) HFL'.out.drew.below
        refine wp_region_y (fun w' => w'.cell? ⟨br, 0, none⟩ = some (pv)) [] (by kernel_rfl) ?_
        have hS0 : wl.drew.cell? ⟨br, 0, none⟩ = some (pv) := hst
        refine wpY_pure (i := 0) (v := ?_) rfl (by kernel_rfl) (fun _ _ _ h => h) (Or.inl ⟨rfl, ?_⟩) (fun _ => hS0) ?_
        rotate_left
        · intro W _
          go_simp
          try (with_reducible rfl)
        refine wpY_pure (i := 1) (v := ?_) rfl (by kernel_rfl) (fun _ _ _ h => h) (Or.inl ⟨rfl, ?_⟩) (fun _ => hS0) ?_
        rotate_left
        · intro W _
          go_simp
          try (with_reducible rfl)
        refine wpY_pure (i := 2) (v := ?_) rfl (by kernel_rfl) (fun _ _ _ h => h) (Or.inl ⟨rfl, ?_⟩) (fun _ => hS0) ?_
        rotate_left
        · intro W _
          go_simp
          try (with_reducible rfl)
        refine wpY_pure (i := 3) (v := ?_) rfl (by kernel_rfl) (fun _ _ _ h => h) (Or.inl ⟨rfl, ?_⟩) (fun _ => hS0) ?_
        rotate_left
        · intro W _
          go_simp
          try (with_reducible rfl)
        refine wpY_take (i := 4) (v := ?_) rfl (by kernel_rfl) (fun _ _ _ h => h) (Or.inl ⟨rfl, ?_⟩) hS0 ?_
        rotate_left
        · intro W s0
          go_simp
          try (with_reducible rfl)
        refine wpY_one (i := 5) rfl (by kernel_rfl) (fun K hK => ?_)
        go_simp
        refine (HS.out _ (HB0.out.trans (HFL'.out.drew.below.mono HB0.out.size))).mono ?_
        rintro e w7 ⟨t7, rfl, ht7, hl7, hb7⟩
        have HF7 := Lib.hid (HFL'.out.drew.next hb7.out)
        have hS1 : w7.cell? ⟨br, 0, none⟩ = some (pv) := cell_b hst hb7.out
        go_wp2_with fail
        refine hK _ _ (fun _ => hS1) ?_
        clear hK K
        refine wpY_one (i := 6) rfl (by kernel_rfl) (fun K hK => ?_)
        go_simp
        refine (write58 W0 w7 b (x0 ++ endS true) t7 _ rfl HF7.out (app_endS x0 true _ hx0l (by have := HPL.out; rw [← ht7.out] at this; exact this))).mono ?_
        rintro e w8 ⟨n8, rfl, HF8, HW8⟩
        have hS2 : w8.cell? ⟨br, 0, none⟩ = some (pv) := cell_b (HAX.out.cell 0) HF8.out.below
        go_wp2_with fail
        refine hK _ _ (fun _ => hS2) ?_
        clear hK K
        refine wpY_done (by kernel_rfl) ?_ _
        clear hS0 hS1 hS2
        have HE : Hid (x0 ++ endS true ++ t7 = reportTx l true ptx) := Lib.hid (by rw [← HX0.out, ht7.out, reportTx])
        rw [HE.out] at HF8
        have hs8 := HF8.out.below.size
        have hne : reportTx l true ptx ≠ [] := reportTx_ne l _ ptx
        have HNE := Lib.hid hne
        clear hst hne
        go_wp2_with fail
        refine (string58 W0.heap.size b _ w8 HF8.out.bf HNE.out).mono ?_
        rintro e w9 ⟨rfl, hb9⟩
        have HB9 := Lib.hid hb9
        clear hb9
        go_wp2_with fail
        go_ret
        exact TX.mk rfl HL.out (HB0.out.trans ((HF8.out.below.trans HB9.out).mono HB0.out.size))
end Go.Proofs.YtacopdbldfgknaaDoor
namespace Go.Proofs.YtacopdbldfgknaaDoor
open Go Go.RowKit PShellTexts YtacopdbldfgknaaDoorW.PrintWords YtacopdbldfgknaaDoorW.PrintMore YtacopdbldfgknaaDoorW.PrintLast

theorem toldB : toldW.map B = [(⟨#[115, 97, 109, 101]⟩ : ByteArray), (⟨#[98, 97, 100]⟩ : ByteArray), (⟨#[115, 104, 97, 112, 101]⟩ : ByteArray), (⟨#[115, 116, 97, 108, 101]⟩ : ByteArray), (⟨#[111, 116, 104, 101, 114]⟩ : ByteArray), (⟨#[104, 105, 103, 104, 101, 114]⟩ : ByteArray), (⟨#[101, 120, 116, 114, 97]⟩ : ByteArray)] := rfl
theorem wordR (w : World) (n : Int) : Calls Tryd.prog 10 #[I n] w (TX w (nameTx toldW n) 6) := by
  refine TX.of (hallmarklaw28_word.calls n (B (nameTx toldW n)) w ?_) (nameTx_le toldW toldW_le n)
  unfold hallmarklaw28_word.f nameTx
  rw [← toldB]
  have hl : (toldW.map B).length = 7 := rfl
  have hl2 : toldW.length = 7 := rfl
  simp only [Option.bind_some, hl, hl2]
  by_cases h0 : n < 0
  · rw [if_pos h0, if_neg (by omega)]
  · rw [if_neg h0]
    by_cases h1 : n ≥ ((7 : Nat) : Int)
    · rw [if_pos h1, if_neg (by omega)]
    · rw [if_neg h1, if_pos (by omega), if_pos (by omega), if_pos ⟨by omega, by omega⟩]
      have hn : n.toNat < toldW.length := by rw [hl2]; omega
      simp [rdOf, hn]
set_option maxHeartbeats 8000000 in
set_option maxRecDepth 100000 in
theorem report_any (w : World) (pv : Value) (hpv : pv.oneCell' = true) (A : Option Addr) (c : Nat) (l : List Int) (st : Bool) (ptx : List UInt8) (hr : Kd.C (Kd.int .i64) w A l.length l) (_hc : l.length ≤ c) (hi : ∀ x ∈ l, In x) (hl : l.length ≤ 300) (hs : Shows w 11 pv ptx) (hpl : ptx.length ≤ 80200100000000) :
    Calls Tryd.prog 7 #[RepV pv A l.length c st] w (TX w (reportTx l st ptx) 80200100010000) := by
  have HL := Lib.hid (reportTx_le l st ptx hl hpl)
  have HPL := Lib.hid hpl
  have HB0 := Lib.hid (below_alloc w (.cells #[pv, .slice A l.length c, .bool st] 30))
  have HR := Lib.hid (Kd.C_below hr HB0.out)
  have HI := Lib.hid hi
  have HS := Lib.hid hs
  have HAX := Lib.hid (Arr.new w 30 #[pv, .slice A l.length c, .bool st])
  have HP1 := Lib.hid hpv
  clear hr hi hs hpl
  unfold RepV
  go_enter Tryd.func7, Tryd.ntmps7
  go_upto_block 1 with fail
  obtain ⟨W0, hW0⟩ : ∃ W0, w.alloc (.cells #[pv, .slice A l.length c, .bool st] 30) = W0 := ⟨_, rfl⟩
  obtain ⟨br, hbr⟩ : ∃ br, w.heap.size = br := ⟨_, rfl⟩
  rw [hW0] at HB0 HR HAX
  rw [hbr] at HAX
  rw [hW0, hbr]
  clear hW0 hbr
  go_loopw [3, 4] (fun v3 v4 wr => ∃ k : Nat, k ≤ l.length ∧ v4 = I k ∧ v3 = .string (B (upto (toldAt l) k)) ∧ Hid (Below W0.heap.size W0 wr)) (fun _ v4 _ => l.length - (intOf v4).toNat)
  case atStart => exact ⟨0, Nat.zero_le _, rfl, rfl, Lib.hid (Below.refl _ _)⟩
  case round =>
    obtain ⟨k, hk, rfl, rfl, HB⟩ := hrel
    have hsz := HB.out.size
    have hcs := cell_b (HAX.out.cell 1) HB.out
    by_cases hlt : k < l.length
    · obtain ⟨ad, e, hx⟩ := Kd.at_int HR.out (k : Int) (by omega) (by omega)
      subst e
      replace hx := cell_b hx HB.out
      rw [Int.toNat_natCast, show rd l (k : Int) = l.getD k 0 from rfl] at hx
      have HSL := Lib.hid (tolds_le l k (by omega))
      have HSK : Hid (upto (toldAt l) (k + 1) = upto (toldAt l) k ++ toldAt l k) := Lib.hid (upto_succ _ k)
      have HTA : Hid (toldAt l k = Lib.itoa ((k : Int) + 1) ++ [32] ++ nameTx toldW (l.getD k 0) ++ [10]) := Lib.hid rfl
      obtain ⟨n, hn⟩ : ∃ n, l.getD k 0 = n := ⟨_, rfl⟩
      rw [hn] at hx HTA
      obtain ⟨x2, hx2⟩ : ∃ x2, upto (toldAt l) k = x2 := ⟨_, rfl⟩
      have hx2l : x2.length ≤ 9000 := by rw [← hx2]; exact HSL.out
      rw [hx2] at HSK ⊢
      clear hx2 HSL hn
      go_upto_region 5 with fail
      have HCS := Lib.hid hcs
      have HX := Lib.hid hx
      clear hcs hx
      have hw1 := wr64 ((k : Int) + 1) (by omega) (by omega)
      have hlt' : decide ((k : Int) < (l.length : Int)) = true := decide_eq_true (by omega)
      have hge' : decide (0 ≤ (k : Int)) = true := decide_eq_true (by omega)
      refine wp_region_y (fun w' => w'.cell? ⟨br, 1, none⟩ = some (.slice (some ad) l.length c) ∧ w'.cell? (ad.add k) = some (I n)) [] (by kernel_rfl) ?_
      have hS0 : wr.drew.cell? ⟨br, 1, none⟩ = some (.slice (some ad) l.length c) ∧ wr.drew.cell? (ad.add k) = some (I n) := ⟨cell_b HCS.out (Below.refl wr.heap.size wr).drew, cell_b HX.out (Below.refl wr.heap.size wr).drew⟩
      refine wpY_pure (i := 0) (v := ?_) rfl (by kernel_rfl) (fun _ _ _ h => h) (Or.inl ⟨rfl, ?_⟩) (fun _ => hS0) ?_
      rotate_left
      · intro W _
        go_simp
        try (with_reducible rfl)
      refine wpY_pure (i := 1) (v := ?_) rfl (by kernel_rfl) (fun _ _ _ h => h) (Or.inl ⟨rfl, ?_⟩) (fun _ => hS0) ?_
      rotate_left
      · intro W _
        go_simp
        try (with_reducible rfl)
      refine wpY_pure (i := 2) (v := ?_) rfl (by kernel_rfl) (fun _ _ _ h => h) (Or.inl ⟨rfl, ?_⟩) (fun _ => hS0) ?_
      rotate_left
      · intro W _
        go_simp
        try (with_reducible rfl)
      refine wpY_pure (i := 6) (v := ?_) rfl (by kernel_rfl) (fun _ _ _ h => h) (Or.inl ⟨rfl, ?_⟩) (fun _ => hS0) ?_
      rotate_left
      · intro W _
        go_simp
        try (with_reducible rfl)
      refine wpY_take (i := 7) (v := ?_) rfl (by kernel_rfl) (fun _ _ _ h => h) (Or.inl ⟨rfl, ?_⟩) hS0 ?_
      rotate_left
      · rintro W ⟨s0, s1⟩
        go_simp
        try (with_reducible rfl)
      refine wpY_pure (i := 8) (v := ?_) rfl (by kernel_rfl) (fun _ _ _ h => h) (Or.inl ⟨rfl, ?_⟩) (fun _ => hS0) ?_
      rotate_left
      · intro W _
        go_simp
        try (with_reducible rfl)
      refine wpY_pure (i := 9) (v := ?_) rfl (by kernel_rfl) (fun _ _ _ h => h) (Or.inl ⟨rfl, ?_⟩) (fun _ => hS0) ?_
      rotate_left
      · intro W _
        go_simp
        try (with_reducible rfl)
      refine wpY_take (i := 10) (v := ?_) rfl (by kernel_rfl) (fun _ _ _ h => h) (Or.inl ⟨rfl, ?_⟩) hS0 ?_
      rotate_left
      · rintro W ⟨s0, s1⟩
        go_simp
        try (with_reducible rfl)
      refine wpY_one (i := 3) rfl (by kernel_rfl) (fun K hK => ?_)
      go_simp
      refine (digitsR _ ((k : Int) + 1) ⟨by omega, by omega⟩).mono ?_
      rintro e w7 ⟨t7, rfl, ht7, hl7, hb7⟩
      have HB7 : Hid (Below wr.heap.size wr w7) := Lib.hid ((Below.refl wr.heap.size wr).drew.trans hb7.out)
      have hS1 : w7.cell? ⟨br, 1, none⟩ = some (.slice (some ad) l.length c) ∧ w7.cell? (ad.add k) = some (I n) := ⟨cell_b HCS.out HB7.out, cell_b HX.out HB7.out⟩
      go_wp2_with fail
      refine hK _ _ (fun _ => hS1) ?_
      clear hK K
      have hn1 : (9223372036854775807 < x2.length + t7.length) = False := eq_false (by omega)
      have hn2 : (9223372036854775807 < x2.length + t7.length + 1) = False := eq_false (by omega)
      refine wpY_pure (i := 4) (v := ?_) rfl (by kernel_rfl) (fun _ _ _ h => h) (Or.inl ⟨rfl, ?_⟩) (fun _ => hS1) ?_
      rotate_left
      · intro W _
        go_simp
        try (with_reducible rfl)
      refine wpY_pure (i := 5) (v := ?_) rfl (by kernel_rfl) (fun _ _ _ h => h) (Or.inl ⟨rfl, ?_⟩) (fun _ => hS1) ?_
      rotate_left
      · intro W _
        go_simp
        try (with_reducible rfl)
      refine wpY_one (i := 11) rfl (by kernel_rfl) (fun K hK => ?_)
      go_simp
      refine (wordR _ n).mono ?_
      rintro e w8 ⟨t8, rfl, ht8, hl8b, hb8⟩
      have HB8 : Hid (Below wr.heap.size wr w8) := Lib.hid (HB7.out.trans (hb8.out.mono HB7.out.size))
      have hS2 : w8.cell? ⟨br, 1, none⟩ = some (.slice (some ad) l.length c) ∧ w8.cell? (ad.add k) = some (I n) := ⟨cell_b HCS.out HB8.out, cell_b HX.out HB8.out⟩
      go_wp2_with fail
      refine hK _ _ (fun _ => hS2) ?_
      clear hK K
      have hn3 : (9223372036854775807 < x2.length + t7.length + 1 + t8.length) = False := eq_false (by omega)
      have hn4 : (9223372036854775807 < x2.length + t7.length + 1 + t8.length + 1) = False := eq_false (by omega)
      refine wpY_pure (i := 12) (v := ?_) rfl (by kernel_rfl) (fun _ _ _ h => h) (Or.inl ⟨rfl, ?_⟩) (fun _ => hS2) ?_
      rotate_left
      · intro W _
        go_simp
        try (with_reducible rfl)
      refine wpY_pure (i := 13) (v := ?_) rfl (by kernel_rfl) (fun _ _ _ h => h) (Or.inl ⟨rfl, ?_⟩) (fun _ => hS2) ?_
      rotate_left
      · intro W _
        go_simp
        try (with_reducible rfl)
      refine wpY_pure (i := 14) (v := ?_) rfl (by kernel_rfl) (fun _ _ _ h => h) (Or.inl ⟨rfl, ?_⟩) (fun _ => hS2) ?_
      rotate_left
      · intro W _
        go_simp
        try (with_reducible rfl)
      refine wpY_done (by kernel_rfl) ?_ _
      clear hS0 hS1 hS2
      clear hn1 hn2 hn3 hn4
      clear hlt' hge' hw1
      go_wp2_with fail
      go_roundw
      case rel => exact ⟨k + 1, by omega, by go_num, T_lit _ _ (by rw [HSK.out, HTA.out, ← ht7.out, ← ht8.out]; (apply ByteArray.ext; simp [ByteArray.data_append])), Lib.hid (HB.out.trans (HB8.out.mono hsz))⟩
      case measure => simp [intOf]; omega
    · obtain rfl : k = l.length := by omega
      have HSL := Lib.hid (tolds_le l l.length hl)
      obtain ⟨x0, hx0⟩ : ∃ x0, upto (toldAt l) l.length = x0 := ⟨_, rfl⟩
      have HX0 := Lib.hid hx0
      have hx0l : x0.length ≤ 9000 := by rw [← hx0]; exact HSL.out
      rw [hx0]
      clear hx0 HSL
      have hct := cell_b (HAX.out.cell 2) HB.out
      have hcp := cell_b (HAX.out.cell 0) HB.out
      have hpl := HPL.out
      cases st
      all_goals
        go_wp2_with fail
        refine (HS.out _ (HB0.out.trans (HB.out.mono HB0.out.size))).mono ?_
        rintro e w7 ⟨t7, rfl, ht7, hl7, hb7⟩
        go_wp2_with fail
        go_ret
        refine TX.mk ?_ HL.out (HB0.out.trans ((HB.out.trans (hb7.out.mono hsz)).mono HB0.out.size))
        rw [reportTx, HX0.out, ← ht7.out]
        simp [endS, ByteArray.data_append]

    theorem texts_any (w : World) (pv : Value) (hpv : pv.oneCell' = true) (A : Option Addr) (c : Nat) (l : List Int) (st : Bool) (ptx : List UInt8) (hr : Kd.C (Kd.int .i64) w A l.length l) (hc : l.length ≤ c) (hi : ∀ x ∈ l, In x) (hl : l.length ≤ 300) (hs : Shows w 15 pv ptx) (hpl : ptx.length ≤ 80200100000000) (hv : Vars w) :
        Calls Tryd.prog 6 #[RepV pv A l.length c st] w (TX w (reportTx l st ptx) 80200100010000) := by
      have HB0 := Lib.hid (below_alloc w (.cells #[pv, .slice A l.length c, .bool st] 30))
      have HT := Lib.hid (texted_any (w.alloc (.cells #[pv, .slice A l.length c, .bool st] 30)) pv hpv A c l st ptx (Kd.C_below hr HB0.out) hc hi hl (fun w' hb => hs w' (HB0.out.trans (hb.mono HB0.out.size))) hpl (hv.below HB0.out))
      clear hr hi hs hpl hv
      unfold RepV at HT ⊢
      go_enter Tryd.func6, Tryd.ntmps6
      go_wp2_with fail
      refine HT.out.mono ?_
      rintro e w1 ⟨t1, rfl, ht1, hl1, hb1⟩
      go_wp2_with fail
      go_ret
      exact TX.mk (by rw [← ht1.out]) (by rw [← ht1.out]; exact hl1) (HB0.out.trans (hb1.out.mono HB0.out.size))
    theorem ints2_C (w : World) (g : Nat) (l : List Int) (n : Nat) (hn : l.length = n) (h : ∀ i, i < l.length → w.cell? ⟨g, i, none⟩ = some (I (l.getD i 0))) (hl : n ≤ 1000) : Kd.C (Kd.int .i64) w (some ⟨g, 0, none⟩) n l := by
      refine ⟨hn, by omega, fun _ => ⟨_, rfl, fun j x hj => ?_⟩⟩
      obtain ⟨hjl, hxe⟩ := List.getElem?_eq_some_iff.1 hj
      refine ⟨[I x], rfl, rfl, fun i u hu => ?_⟩
      match i, hu with
      | 0, hu =>
        simp at hu
        subst hu
        have := h j hjl
        rw [List.getD_eq_getElem?_getD, hj] at this
        rw [add_plain']
        simpa [Kd.int, Kd.scalar] using this
    def small28 : List UInt8 := [49, 32, 115, 97, 109, 101, 10, 50, 32, 111, 116, 104, 101, 114, 10, 115, 116, 97, 98, 108, 101, 10]
    theorem small_tx : reportTx [0, 4] true [] = small28 := by kernel_rfl
    def YesRes (w : World) (e : Ending) (w' : World) : Prop := e = .returned (.bool true) ∧ Hid (Below w.heap.size w w')
    theorem lives_any (w : World) (hv : Vars w) : Calls Tryd.prog 5 #[] w (YesRes w) := by
      have HB0 := Lib.hid (below_alloc w (.cells #[I 0, I 4] 3))
      have hr : Kd.C (Kd.int .i64) (w.alloc (.cells #[I 0, I 4] 3)) (some ⟨w.heap.size, 0, none⟩) [0, 4].length [0, 4] := ints2_C _ _ _ _ rfl (fun i hi => by
        rw [(Arr.new w 3 #[I 0, I 4]).cell i]
        match i, hi with
        | 0, _ => rfl
        | 1, _ => rfl) (by decide)
      have HT := Lib.hid (texts_any (w.alloc (.cells #[I 0, I 4] 3)) (.pointer none) rfl (some ⟨w.heap.size, 0, none⟩) 2 [0, 4] true [] hr (by decide) (by intro x hx; simp at hx; rcases hx with rfl | rfl <;> exact ⟨by omega, by omega⟩) (by decide) (fun w' _ => TX.to (prog_nil w') rfl (by omega)) (by simp) (hv.below HB0.out))
      clear hr hv
      unfold RepV at HT
      go_enter Tryd.func5, Tryd.ntmps5
      go_wp2_with fail
      refine HT.out.mono ?_
      rintro e w1 ⟨t1, rfl, ht1, hl1, hb1⟩
      rw [small_tx] at ht1
      obtain rfl := ht1.out
      go_wp2_with fail
      go_ret
      exact ⟨rfl, Lib.hid (HB0.out.trans (hb1.out.mono HB0.out.size))⟩
    end Go.Proofs.YtacopdbldfgknaaDoor
namespace Go.Proofs.YtacopdbldfgknaaDoor
open Go Go.RowKit PShellTexts YtacopdbldfgknaaDoorW.PrintWords YtacopdbldfgknaaDoorW.PrintMore YtacopdbldfgknaaDoorW.PrintLast

set_option maxHeartbeats 8000000 in
set_option maxRecDepth 100000 in
theorem shellTexts_walk (w : World) (p : S26) (A0 A1 A2 : Option Addr) (c0 c1 c2 : Nat) (hp : InP w p A0 A1 A2 c0 c1 c2) (hg : gP p) (A : Option Addr) (c : Nat) (l : List Int) (st : Bool) (hr : Kd.C (Kd.int .i64) w A l.length l) (hc : l.length ≤ c) (hi : ∀ x ∈ l, In x) (hv : Vars w) :
    Calls Tryd.prog 3 #[.agg (ProgC p A0 A1 A2 c0 c1 c2).toArray, .slice A l.length c, .bool st] w (YesRes w) := by
  have HG := Lib.hid hg
  have HI := Lib.hid hi
  have HV := Lib.hid hv
  have HR := Lib.hid hr
  have HP := Lib.hid hp
  clear hp hg hr hi hv
  unfold ProgC
  go_enter Tryd.func3, Tryd.ntmps3
  go_upto_region 2 with fail
  have HARP := Lib.hid (Arr.new w 26 #[.slice A0 p.f0.length c0, .slice A1 p.f1.length c1, .slice A2 p.f2.length c2])
  have HAQ := Lib.hid (Arr.new (w.alloc (.cells #[.slice A0 p.f0.length c0, .slice A1 p.f1.length c1, .slice A2 p.f2.length c2] 26)) 30 #[.pointer (some ⟨w.heap.size, 0, none⟩), .slice A l.length c, .bool st])
  have HB : Hid (Below w.heap.size w ((w.alloc (.cells #[.slice A0 p.f0.length c0, .slice A1 p.f1.length c1, .slice A2 p.f2.length c2] 26)).alloc (.cells #[.pointer (some ⟨w.heap.size, 0, none⟩), .slice A l.length c, .bool st] 30))) := Lib.hid ((below_alloc w _).alloc (by simp) _)
  replace HARP := Lib.hid (HARP.out.alloc (.cells #[.pointer (some ⟨w.heap.size, 0, none⟩), .slice A l.length c, .bool st] 30))
  have hsz0 : (w.alloc (.cells #[.slice A0 p.f0.length c0, .slice A1 p.f1.length c1, .slice A2 p.f2.length c2] 26)).heap.size = w.heap.size + 1 := by simp
  rw [hsz0] at HAQ
  clear hsz0
  obtain ⟨bq, hbq⟩ : ∃ bq, w.heap.size + 1 = bq := ⟨_, rfl⟩
  rw [hbq] at HAQ ⊢
  clear hbq
  obtain ⟨W, hW⟩ : ∃ W, (w.alloc (.cells #[.slice A0 p.f0.length c0, .slice A1 p.f1.length c1, .slice A2 p.f2.length c2] 26)).alloc (.cells #[.pointer (some ⟨w.heap.size, 0, none⟩), .slice A l.length c, .bool st] 30) = W := ⟨_, rfl⟩
  rw [hW] at HB HARP HAQ ⊢
  clear hW
  have HPM : Hid (PM W w.heap.size p) := Lib.hid ⟨A0, c0, A1, c1, A2, c2, ⟨HARP.out.cell 0, HARP.out.cell 1, HARP.out.cell 2⟩, ⟨HP.out.s.1, Kd.C_below HP.out.s.2 HB.out⟩, ⟨HP.out.c.1, Kd.C_below HP.out.c.2 HB.out⟩, ⟨HP.out.f.1, Kd.C_below HP.out.f.2 HB.out⟩⟩
  have HVW := Lib.hid (HV.out.below HB.out)
  have HRW := Lib.hid (Kd.C_below HR.out HB.out)
  have HS := Lib.hid (small_any W w.heap.size p HPM.out HG.out)
  obtain ⟨bp, hbp⟩ : ∃ bp, w.heap.size = bp := ⟨_, rfl⟩
  rw [hbp] at HPM HS HAQ ⊢
  clear hbp HARP
  have hcs := HAQ.out.cell 1
  by_cases hlen : 300 < l.length
  · go_wp2_with fail
    refine (lives_any W HVW.out).mono ?_
    rintro e w1 ⟨rfl, hb1⟩
    go_wp2_with fail
    go_ret
    exact ⟨rfl, Lib.hid (HB.out.trans (hb1.out.mono HB.out.size))⟩
  · have hcp := HAQ.out.cell 0
    have hle : l.length ≤ 300 := by omega
    have HLE := Lib.hid hle
    clear hle
    go_wp2_with fail
    refine HS.out.mono ?_
    rintro e w1 ⟨r, rfl, hok, hb1⟩
    clear hcs hcp
    have HOK := Lib.hid hok
    clear hok
    cases r
    · go_wp2_with fail
      refine (lives_any _ (HVW.out.below hb1.out)).mono ?_
      rintro e w2 ⟨rfl, hb2⟩
      go_wp2_with fail
      go_ret
      exact ⟨rfl, Lib.hid (HB.out.trans ((hb1.out.trans (hb2.out.mono hb1.out.size)).mono HB.out.size))⟩
    · have HO : Hid (okP p) := Lib.hid (HOK.out rfl)
      have HPM1 := Lib.hid (HPM.out.below hb1.out)
      have HV1 := Lib.hid (HVW.out.below hb1.out)
      have HA1 := Lib.hid (HAQ.out.below hb1.out)
      have HR1 := Lib.hid (Kd.C_below HRW.out hb1.out)
      have HB1 := Lib.hid (HB.out.trans (hb1.out.mono HB.out.size))
      have HT1 : Hid (Calls Tryd.prog 6 #[RepV (.pointer (some ⟨bp, 0, none⟩)) A l.length c st] w1.drew (TX w1.drew (reportTx l st (progTx p)) 80200100010000)) := Lib.hid (texts_any w1.drew _ rfl A c l st (progTx p) (Kd.C_below HR1.out (Below.refl _ _).drew) hc HI.out HLE.out (fun w' hb => prog_any w' bp p ((HPM1.out.below (Below.refl _ _).drew).below hb) HO.out ((HV1.out.below (Below.refl _ _).drew).below hb)) (progTx_le HO.out) (HV1.out.below (Below.refl _ _).drew))
      have HT2 : Hid (∀ w2, Below w1.drew.heap.size w1.drew w2 → Calls Tryd.prog 7 #[RepV (.pointer (some ⟨bp, 0, none⟩)) A l.length c st] w2 (TX w2 (reportTx l st (progTx p)) 80200100010000)) := Lib.hid fun w2 hb2 => report_any w2 _ rfl A c l st (progTx p) (Kd.C_below (Kd.C_below HR1.out (Below.refl _ _).drew) hb2) hc HI.out HLE.out (fun w' hb => progR w' bp p (((HPM1.out.below (Below.refl _ _).drew).below hb2).below hb) HO.out) (progTx_le HO.out)
      have HL3 : Hid (∀ w2, Below w1.drew.heap.size w1.drew w2 → Calls Tryd.prog 5 #[] w2 (YesRes w2)) := Lib.hid fun w2 hb2 => lives_any w2 ((HV1.out.below (Below.refl _ _).drew).below hb2)
      unfold RepV at HT1 HT2
      clear HR1 HRW HR HPM HPM1 HV1 HV HVW HS HG HP
      go_upto_region 4 with fail
      refine wp_region_y (fun w' => w'.cell? ⟨bq, 0, none⟩ = some (.pointer (some ⟨bp, 0, none⟩)) ∧ w'.cell? ⟨bq, 1, none⟩ = some (.slice A l.length c) ∧ w'.cell? ⟨bq, 2, none⟩ = some (.bool st)) [] (by kernel_rfl) ?_
      have hS0 : w1.drew.cell? ⟨bq, 0, none⟩ = some (.pointer (some ⟨bp, 0, none⟩)) ∧ w1.drew.cell? ⟨bq, 1, none⟩ = some (.slice A l.length c) ∧ w1.drew.cell? ⟨bq, 2, none⟩ = some (.bool st) := ⟨cell_b (HA1.out.cell 0) (Below.refl w1.heap.size w1).drew, cell_b (HA1.out.cell 1) (Below.refl w1.heap.size w1).drew, cell_b (HA1.out.cell 2) (Below.refl w1.heap.size w1).drew⟩
      refine wpY_take (i := 0) (v := ?_) rfl (by kernel_rfl) (fun _ _ _ h => h) (Or.inl ⟨rfl, ?_⟩) hS0 ?_
      rotate_left
      · rintro W ⟨s0, s1, s2⟩
        go_simp
        try (with_reducible rfl)
      refine wpY_take (i := 2) (v := ?_) rfl (by kernel_rfl) (fun _ _ _ h => h) (Or.inl ⟨rfl, ?_⟩) hS0 ?_
      rotate_left
      · rintro W ⟨s0, s1, s2⟩
        go_simp
        try (with_reducible rfl)
      refine wpY_one (i := 1) rfl (by kernel_rfl) (fun K hK => ?_)
      go_simp
      refine (HT1.out).mono ?_
      rintro e w7 ⟨t7, rfl, ht7, hl7, hb7⟩
      have HB7 : Hid (Below w1.heap.size w1 w7) := Lib.hid ((Below.refl w1.heap.size w1).drew.trans hb7.out)
      have hS1 : w7.cell? ⟨bq, 0, none⟩ = some (.pointer (some ⟨bp, 0, none⟩)) ∧ w7.cell? ⟨bq, 1, none⟩ = some (.slice A l.length c) ∧ w7.cell? ⟨bq, 2, none⟩ = some (.bool st) := ⟨cell_b (HA1.out.cell 0) HB7.out, cell_b (HA1.out.cell 1) HB7.out, cell_b (HA1.out.cell 2) HB7.out⟩
      go_wp2_with fail
      refine hK _ _ (fun _ => hS1) ?_
      clear hK K
      refine wpY_one (i := 3) rfl (by kernel_rfl) (fun K hK => ?_)
      go_simp
      refine (HT2.out _ hb7.out).mono ?_
      rintro e w8 ⟨t8, rfl, ht8, hl8, hb8⟩
      have HB8 : Hid (Below w1.heap.size w1 w8) := Lib.hid (HB7.out.trans (hb8.out.mono HB7.out.size))
      have hte : t8 = t7 := ht8.out.trans ht7.out.symm
      subst hte
      have hS2 : w8.cell? ⟨bq, 0, none⟩ = some (.pointer (some ⟨bp, 0, none⟩)) ∧ w8.cell? ⟨bq, 1, none⟩ = some (.slice A l.length c) ∧ w8.cell? ⟨bq, 2, none⟩ = some (.bool st) := ⟨cell_b (HA1.out.cell 0) HB8.out, cell_b (HA1.out.cell 1) HB8.out, cell_b (HA1.out.cell 2) HB8.out⟩
      go_wp2_with fail
      refine hK _ _ (fun _ => hS2) ?_
      clear hK K
      refine wpY_pure (i := 4) (v := ?_) rfl (by kernel_rfl) (fun _ _ _ h => h) (Or.inl ⟨rfl, ?_⟩) (fun _ => hS2) ?_
      rotate_left
      · intro W _
        go_simp
        try (with_reducible rfl)
      refine wpY_pure (i := 5) (v := ?_) rfl (by kernel_rfl) (fun _ _ _ h => h) (Or.inl ⟨rfl, ?_⟩) (fun _ => hS2) ?_
      rotate_left
      · intro W _
        go_simp
        try (with_reducible rfl)
      refine wpY_one (i := 6) rfl (by kernel_rfl) (fun K hK => ?_)
      go_simp
      refine (HL3.out _ (hb7.out.trans (hb8.out.mono hb7.out.size))).mono ?_
      rintro e w9 ⟨rfl, hb9⟩
      have HB9 : Hid (Below w1.heap.size w1 w9) := Lib.hid (HB8.out.trans (hb9.out.mono HB8.out.size))
      have hS3 : w9.cell? ⟨bq, 0, none⟩ = some (.pointer (some ⟨bp, 0, none⟩)) ∧ w9.cell? ⟨bq, 1, none⟩ = some (.slice A l.length c) ∧ w9.cell? ⟨bq, 2, none⟩ = some (.bool st) := ⟨cell_b (HA1.out.cell 0) HB9.out, cell_b (HA1.out.cell 1) HB9.out, cell_b (HA1.out.cell 2) HB9.out⟩
      go_wp2_with fail
      refine hK _ _ (fun _ => hS3) ?_
      clear hK K
      refine wpY_pure (i := 7) (v := ?_) rfl (by kernel_rfl) (fun _ _ _ h => h) (Or.inl ⟨rfl, ?_⟩) (fun _ => hS3) ?_
      rotate_left
      · intro W _
        go_simp
        try (with_reducible rfl)
      refine wpY_pure (i := 8) (v := ?_) rfl (by kernel_rfl) (fun _ _ _ h => h) (Or.inl ⟨rfl, ?_⟩) (fun _ => hS3) ?_
      rotate_left
      · intro W _
        go_simp
        try (with_reducible rfl)
      refine wpY_done (by kernel_rfl) ?_ _
      clear hS0 hS1 hS2 hS3
      go_wp2_with fail
      go_ret
      exact ⟨rfl, Lib.hid (HB1.out.trans (HB9.out.mono HB1.out.size))⟩
end Go.Proofs.YtacopdbldfgknaaDoor
