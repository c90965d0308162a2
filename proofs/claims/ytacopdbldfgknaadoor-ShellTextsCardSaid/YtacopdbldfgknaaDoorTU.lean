/- A function's text: the walk (printed by wip/mk_tu.py). -/
import Derived.Test.YtacopdbldfgknaaDoorTN
namespace Go.Proofs.YtacopdbldfgknaaDoor
open Go Go.RowKit PShellTexts YtacopdbldfgknaaDoorW.PrintWords YtacopdbldfgknaaDoorW.PrintMore

/-- The builder in block b holds l; what was there in w0 is as it was. -/
structure FW (t : TypeId) (w0 : World) (b : Nat) (l : List UInt8) (w : World) : Prop where
  bf : BF t w0.heap.size b l w
  below : Below w0.heap.size w0 w
theorem FW.next {t : TypeId} {w0 w w' : World} {b : Nat} {l : List UInt8} (h : FW t w0 b l w) (hb : Below w.heap.size w w') : FW t w0 b l w' := ⟨h.bf.below hb, h.below.trans (hb.mono h.below.size)⟩
theorem FW.alloc {t : TypeId} {w0 w : World} {b : Nat} {l : List UInt8} (h : FW t w0 b l w) (o : Obj) : FW t w0 b l (w.alloc o) := h.next (below_alloc w o)
theorem FW.drew {t : TypeId} {w0 w : World} {b : Nat} {l : List UInt8} (h : FW t w0 b l w) : FW t w0 b l w.drew := h.next (Below.refl _ _).drew
theorem FW.wr {t : TypeId} {w0 w w' : World} {b : Nat} {l l' : List UInt8} (h : FW t w0 b l w) (k : Wr t w0.heap.size b l' w w') : FW t w0 b l' w' := ⟨k.at_, h.below.trans k.below⟩
theorem FW.vars {t : TypeId} {w0 w : World} {b : Nat} {l : List UInt8} (h : FW t w0 b l w) (hv : Vars w0) : Vars w := hv.below h.below
theorem FW.ge {t : TypeId} {w0 w : World} {b : Nat} {l : List UInt8} (h : FW t w0 b l w) : w0.heap.size ≤ b := h.bf.elim (fun x => x.1) (fun x => x.1)
theorem FW.lt {t : TypeId} {w0 w : World} {b : Nat} {l : List UInt8} (h : FW t w0 b l w) : b < w.heap.size := h.bf.elim (fun x => x.lt) (fun x => x.lt)
/-- Another block than the builder's, and no row of bytes, stays over a write. -/
theorem Arr.wr {t : TypeId} {B b g e : Nat} {l' : List UInt8} {w w' : World} {cs : List Value} (h : Arr w g e cs) (k : Wr t B b l' w w') (hg : g ≠ b) (he : e ≠ 5) : Arr w' g e cs :=
  ⟨k.others g _ h.out (fun e => hg (Option.some.inj e)) (fun c fz heq => he (by cases heq; rfl))⟩
theorem alloc_set (w : World) (cs : Array Value) (e i : Nat) (v : Value) : (w.alloc (.cells cs e)).setCell ⟨w.heap.size, i, none⟩ v = w.alloc (.cells (cs.setIfInBounds i v) e) := by
  simp only [World.setCell, World.alloc]
  congr 1
  apply Array.ext_getElem?
  intro k
  simp only [Array.getElem?_modify, Array.getElem?_push]
  by_cases hk : k = w.heap.size
  · subst hk; simp
  · simp [hk, Ne.symm hk]
def WRes (t : TypeId) (w0 : World) (b : Nat) (l : List UInt8) (w : World) (e : Ending) (w' : World) : Prop := ∃ n : Int, e = .returned (.tuple #[.int .i64 n, .nilIface]) ∧ Hid (FW t w0 b l w') ∧ Hid (Wr t w0.heap.size b l w w')
theorem write56 (w0 w : World) (b : Nat) (l t : List UInt8) (s : ByteArray) (hs : s = B t) (hF : FW 56 w0 b l w) (hlen : l.length + t.length ≤ 140737488355328) :
    Calls Tryd.prog 14 #[.pointer (some ⟨b, 0, none⟩), .string s] w (WRes 56 w0 b (l ++ t) w) := by
  subst hs
  exact (writeS56 w0.heap.size b l t w hF.bf hlen hF.below.size).mono fun e w' ⟨a, k⟩ => ⟨_, a, Lib.hid (hF.wr k), Lib.hid k⟩
theorem write58 (w0 w : World) (b : Nat) (l t : List UInt8) (s : ByteArray) (hs : s = B t) (hF : FW 58 w0 b l w) (hlen : l.length + t.length ≤ 140737488355328) :
    Calls Tryd.prog 14 #[.pointer (some ⟨b, 0, none⟩), .string s] w (WRes 58 w0 b (l ++ t) w) := by
  subst hs
  exact (writeS58 w0.heap.size b l t w hF.bf hlen hF.below.size).mono fun e w' ⟨a, k⟩ => ⟨_, a, Lib.hid (hF.wr k), Lib.hid k⟩
def FunRes (w0 : World) (b : Nat) (l : List UInt8) (e : Ending) (w' : World) : Prop := e = .returned (.tuple #[]) ∧ Hid (FW 56 w0 b l w')
theorem first_any (w : World) (ret : Int) (A : Option Addr) (c : Nat) (bs : List S46) (hr : Kd.C k46 w A bs.length bs) (hc : bs.length ≤ c) (h : ∀ b ∈ bs, okB b) (hl : bs.length ≤ 1000) (i : Nat) (hi : i ≤ bs.length) :
    Calls Tryd.prog 38 #[.agg #[I ret, .slice A bs.length c], I i] w fun e w' => e = .returned (I (firstAt bs i)) ∧ Hid (Below w.heap.size w w') := by
  obtain ⟨k, hk⟩ := (first_ev ret bs h hl i hi).rounds
  exact (code_First.calls k ret A c bs i _ w hr hc hk).mono fun e w' ⟨a, b⟩ => ⟨a, Lib.hid b⟩
set_option maxHeartbeats 8000000 in
set_option maxRecDepth 100000 in
theorem fun_any (w0 w : World) (b : Nat) (l : List UInt8) (ret : Int) (A : Option Addr) (c : Nat) (bs : List S46) (hr : Kd.C k46 w0 A bs.length bs) (hc : bs.length ≤ c) (ho : okF ret bs) (hv : Vars w0) (hF : FW 56 w0 b l w) (hl : l.length ≤ 130000000000000) :
    Calls Tryd.prog 29 #[.pointer (some ⟨b, 0, none⟩), .agg #[I ret, .slice A bs.length c]] w (FunRes w0 b (l ++ funTx ret bs)) := by
  have HR := Lib.hid hr
  have HO := Lib.hid ho
  have HV := Lib.hid hv
  have hbs := ho.2.2
  have HHD := Lib.hid (funHd_le ret ho.1)
  have HF0 := Lib.hid (hF.alloc (.cells #[I ret, .slice A bs.length c] 41))
  have HAX0 := Lib.hid (Arr.new w 41 #[I ret, .slice A bs.length c])
  have HNE : Hid (w.heap.size ≠ b) := Lib.hid (by have := hF.lt; omega)
  clear hr ho hv hF
  have hcx0 := HAX0.out.cell 0
  have hcx1 := HAX0.out.cell 1
  go_enter Tryd.func29, Tryd.ntmps29
  go_wp2_with fail
  refine (typed_any _ ret HO.out.1 (HF0.out.vars HV.out)).mono ?_
  rintro e w1 ⟨t1, rfl, ht1, hl1, hb1⟩
  have HF1 := Lib.hid (HF0.out.next hb1.out)
  have HAX1 := Lib.hid (HAX0.out.below hb1.out)
  clear hcx0 hcx1
  go_wp2_with fail
  refine (write56 w0 w1 b l ([102, 117, 110, 99, 32] ++ t1 ++ [10]) _ (by (apply ByteArray.ext; simp [ByteArray.data_append])) HF1.out (by simp only [List.length_append, List.length_cons, List.length_nil]; omega)).mono ?_
  rintro e w2 ⟨n2, rfl, HF2, HW2⟩
  have HE0 : Hid (funHd ret = [102, 117, 110, 99, 32] ++ t1 ++ [10]) := Lib.hid (by rw [funHd, ht1.out])
  rw [← HE0.out] at HF2
  have HAX2 := Lib.hid (HAX1.out.wr HW2.out HNE.out (by decide))
  obtain ⟨bx, hbx⟩ : ∃ bx, w.heap.size = bx := ⟨_, rfl⟩
  rw [hbx] at HNE HAX2 ⊢
  have HFW0 : Hid (Below w0.heap.size w0 w2) := Lib.hid HF2.out.below
  clear hbx HAX0 HAX1 HW2 ht1 hb1
  have hcx1 : w2.cell? ⟨bx, 1, none⟩ = some (.slice A bs.length c) := HAX2.out.cell 1
  go_upto_block 1 with fail
  clear hcx1
  go_loopw [19] (fun v19 wr => ∃ i : Nat, i ≤ bs.length ∧ v19 = I i ∧ Hid (FW 56 w0 b (l ++ funHd ret ++ upto (blockAt bs) i) wr) ∧ Hid (Arr wr bx 41 [I ret, .slice A bs.length c])) (fun v19 _ => bs.length - (intOf v19).toNat)
  case atStart => exact ⟨0, Nat.zero_le _, rfl, Lib.hid (by simpa [upto_zero] using HF2.out), HAX2⟩
  case round =>
    obtain ⟨i, hi, rfl, HFR, HAR⟩ := hrel
    clear HF2 HAX2 HF0 HF1
    by_cases hlt : i < bs.length
    · obtain ⟨ad, A0, c0, A1, c1, A6, c6, A7, c7, e, hx0, hx1, hx2, hx3, hx4, hx5, hx6, hx7, hl0, hi0, hl1, hi1, hl6, hi6, hl7, hi7⟩ := at_T46 HR.out (i : Int) (by omega) (by omega)
      subst e
      replace hx0 := (HFR.out.below.cell (World.block_lt_of_cell? _ _ hx0)).trans hx0
      replace hx1 := (HFR.out.below.cell (World.block_lt_of_cell? _ _ hx1)).trans hx1
      replace hx2 := (HFR.out.below.cell (World.block_lt_of_cell? _ _ hx2)).trans hx2
      replace hx3 := (HFR.out.below.cell (World.block_lt_of_cell? _ _ hx3)).trans hx3
      replace hx4 := (HFR.out.below.cell (World.block_lt_of_cell? _ _ hx4)).trans hx4
      replace hx5 := (HFR.out.below.cell (World.block_lt_of_cell? _ _ hx5)).trans hx5
      replace hx6 := (HFR.out.below.cell (World.block_lt_of_cell? _ _ hx6)).trans hx6
      replace hx7 := (HFR.out.below.cell (World.block_lt_of_cell? _ _ hx7)).trans hx7
      have HBK := Lib.hid (getD_ok HO.out.2.1 (d := z46) hlt)
      have HSU := Lib.hid (upto_succ (blockAt bs) i)
      have HBA : Hid (blockAt bs i = blockTx (firstAt bs i) i (bs.getD i z46)) := Lib.hid rfl
      have HXL := Lib.hid (blocksTo_le ret bs HO.out i (by omega))
      have HFA := Lib.hid (firstAt_le bs HO.out.2.1 i (by omega))
      rw [Int.toNat_natCast] at hx0 hx1 hx2 hx3 hx4 hx5 hx6 hx7
      rw [show rd_T46 bs (i : Int) = bs.getD i z46 from rfl] at hx0 hx1 hx2 hx3 hx4 hx5 hx6 hx7 hl0 hi0 hl1 hi1 hl6 hi6 hl7 hi7
      obtain ⟨bk, hbk⟩ : ∃ bk, bs.getD i z46 = bk := ⟨_, rfl⟩
      rw [hbk] at hx0 hx1 hx2 hx3 hx4 hx5 hx6 hx7 hl0 hi0 hl1 hi1 hl6 hi6 hl7 hi7 HBK HBA
      clear hbk
      obtain ⟨ps, ops, ⟨e0, e1, e2, e3, e4, e5⟩⟩ := bk
      dsimp only at hx0 hx1 hx2 hx3 hx4 hx5 hx6 hx7 hl0 hi0 hl1 hi1 hl6 hi6 hl7 hi7
      have HI0 := Lib.hid hi0
      have HI1 := Lib.hid hi1
      have HI6 := Lib.hid hi6
      have HI7 := Lib.hid hi7
      clear hi0 hi1 hi6 hi7
      go_upto_region 5 with fail
      have HP := Lib.hid hl0
      clear hx0 hx1 hx2 hx3 hx4 hx5 hx6 hx7
      obtain ⟨x, hx⟩ : ∃ x, l ++ funHd ret ++ upto (blockAt bs) i = x := ⟨_, rfl⟩
      have HXX := Lib.hid hx
      have hxl : x.length ≤ 130100000000000 := by rw [← hx]; have := HHD.out; have := HXL.out; simp only [List.length_append]; omega
      rw [hx] at HFR
      clear hx
      have HF1 := Lib.hid (HFR.out.alloc (.cells #[.slice A0 ps.length c0, .slice A1 ops.length c1, I e0, I e1, I e2, I e3, .slice A6 e4.length c6, .slice A7 e5.length c7] 46))
      have HAX1 := Lib.hid (HAR.out.alloc (.cells #[.slice A0 ps.length c0, .slice A1 ops.length c1, I e0, I e1, I e2, I e3, .slice A6 e4.length c6, .slice A7 e5.length c7] 46))
      have HAB1 := Lib.hid (Arr.new wr 46 #[.slice A0 ps.length c0, .slice A1 ops.length c1, I e0, I e1, I e2, I e3, .slice A6 e4.length c6, .slice A7 e5.length c7])
      have HNB : Hid (wr.heap.size ≠ b) := Lib.hid (by have := HFR.out.lt; omega)
      have HNX : Hid (wr.heap.size ≠ bx) := Lib.hid (by have := HAR.out.lt; omega)
      obtain ⟨W, hW⟩ : ∃ W, wr.alloc (.cells #[.slice A0 ps.length c0, .slice A1 ops.length c1, I e0, I e1, I e2, I e3, .slice A6 e4.length c6, .slice A7 e5.length c7] 46) = W := ⟨_, rfl⟩
      obtain ⟨bb, hbb⟩ : ∃ bb, wr.heap.size = bb := ⟨_, rfl⟩
      rw [hW] at HF1 HAX1 HAB1
      rw [hbb] at HAB1 HNB HNX
      rw [hW, hbb]
      clear hW hbb HFR HAR
      have HPS := Lib.hid HBK.out.1
      have HOPS := Lib.hid HBK.out.2.1
      have hopl := HBK.out.2.2.1
      have HEND := Lib.hid HBK.out.2.2.2
      have hpl := HBK.out.1.2
      have HII : Hid (In (i : Int)) := Lib.hid ⟨by omega, by omega⟩
      dsimp only at HPS HOPS hopl HEND hpl
      refine wp_region_y (fun w' => w'.cell? ⟨bb, 0, none⟩ = some (.slice A0 ps.length c0)) [] (by kernel_rfl) ?_
      have hS0 : W.drew.cell? ⟨bb, 0, none⟩ = some (.slice A0 ps.length c0) := HAB1.out.cell 0
      refine wpY_pure (i := 0) (v := ?_) rfl (by kernel_rfl) (fun _ _ _ h => h) (Or.inl ⟨rfl, ?_⟩) (fun _ => hS0) ?_
      rotate_left
      · intro W _
        go_simp
        try (with_reducible rfl)
      refine wpY_pure (i := 1) (v := ?_) rfl (by kernel_rfl) (fun _ _ _ h => h) (Or.inl ⟨rfl, ?_⟩) (fun _ => hS0) ?_
      rotate_left
      · intro W _
        go_simp
        try (with_reducible rfl)
      refine wpY_pure (i := 3) (v := ?_) rfl (by kernel_rfl) (fun _ _ _ h => h) (Or.inl ⟨rfl, ?_⟩) (fun _ => hS0) ?_
      rotate_left
      · intro W _
        go_simp
        try (with_reducible rfl)
      refine wpY_take (i := 4) (v := ?_) rfl (by kernel_rfl) (fun _ _ _ h => h) (Or.inl ⟨rfl, ?_⟩) hS0 ?_
      rotate_left
      · intro W s0
        go_simp
        try (with_reducible rfl)
      refine wpY_one (i := 2) rfl (by kernel_rfl) (fun K hK => ?_)
      go_simp
      refine (sdigits _ (i : Int) HII.out (HF1.out.drew.vars HV.out)).mono ?_
      rintro e w3 ⟨t3, rfl, ht3, hl3, hb3⟩
      have HF3 := Lib.hid (HF1.out.drew.next hb3.out)
      have HAB3 := Lib.hid (HAB1.out.drew.below hb3.out)
      have HAX3 := Lib.hid (HAX1.out.drew.below hb3.out)
      have hS1 : w3.cell? ⟨bb, 0, none⟩ = some (.slice A0 ps.length c0) := HAB3.out.cell 0
      go_wp2_with fail
      refine hK _ _ (fun _ => hS1) ?_
      clear hK K
      refine wpY_one (i := 5) rfl (by kernel_rfl) (fun K hK => ?_)
      go_simp
      refine (brackets_any _ 26 (.inr (.inl rfl)) tyTx tells_type tyTx_le A0 c0 ps (Kd.C_below HI0.out HF3.out.below) HP.out HPS.out (HF3.out.vars HV.out)).mono ?_
      rintro e w4 ⟨t4, rfl, ht4, hl4, hb4⟩
      have HF4 := Lib.hid (HF3.out.next hb4.out)
      have HAB4 := Lib.hid (HAB3.out.below hb4.out)
      have HAX4 := Lib.hid (HAX3.out.below hb4.out)
      have hS2 : w4.cell? ⟨bb, 0, none⟩ = some (.slice A0 ps.length c0) := HAB4.out.cell 0
      go_wp2_with fail
      refine hK _ _ (fun _ => hS2) ?_
      clear hK K
      have hn1 : (9223372036854775807 < t3.length + t4.length) = False := eq_false (by omega)
      have hn2 : (9223372036854775807 < t3.length + t4.length + 1) = False := eq_false (by omega)
      refine wpY_pure (i := 6) (v := ?_) rfl (by kernel_rfl) (fun _ _ _ h => h) (Or.inl ⟨rfl, ?_⟩) (fun _ => hS2) ?_
      rotate_left
      · intro W _
        go_simp
        try (with_reducible rfl)
      refine wpY_pure (i := 7) (v := ?_) rfl (by kernel_rfl) (fun _ _ _ h => h) (Or.inl ⟨rfl, ?_⟩) (fun _ => hS2) ?_
      rotate_left
      · intro W _
        go_simp
        try (with_reducible rfl)
      refine wpY_one (i := 8) rfl (by kernel_rfl) (fun K hK => ?_)
      go_simp
      refine (write56 w0 w4 b x (t3 ++ t4 ++ [10]) _ (by (apply ByteArray.ext; simp [ByteArray.data_append])) HF4.out (by simp only [List.length_append, List.length_cons, List.length_nil]; omega)).mono ?_
      rintro e w5 ⟨n5, rfl, HF5, HW5⟩
      have HAB5 := Lib.hid (HAB4.out.wr HW5.out HNB.out (by decide))
      have HAX5 := Lib.hid (HAX4.out.wr HW5.out HNE.out (by decide))
      have hS3 : w5.cell? ⟨bb, 0, none⟩ = some (.slice A0 ps.length c0) := HAB5.out.cell 0
      go_wp2_with fail
      refine hK _ _ (fun _ => hS3) ?_
      clear hK K
      refine wpY_done (by kernel_rfl) ?_ _
      clear hS0 hS1 hS2 hS3
      clear hn1 hn2
      have HB5 : Hid (Below w0.heap.size w0 w5) := Lib.hid HF5.out.below
      clear HF1 HF3 HF4 HAB1 HAB3 HAB4 HAX1 HAX3 HAX4 hb3 hb4 HW5
      go_upto_region 6 with fail
      have hmm : firstAt bs i + ps.length ≤ 3000000 := by have := HFA.out; omega
      obtain ⟨m, hm⟩ : ∃ m, firstAt bs i + ps.length = m := ⟨_, rfl⟩
      have HWR : Hid (IntKind.i64.wrap ((firstAt bs i : Int) + (ps.length : Int)) = (m : Int)) := Lib.hid (by rw [IntWalk.i64_in _ (by omega)]; omega)
      obtain ⟨f, hf⟩ : ∃ f, firstAt bs i = f := ⟨_, rfl⟩
      have HFF := Lib.hid hf
      rw [hf] at hmm HWR HBA hm
      have HM := Lib.hid hm
      clear hf hm
      refine wp_region_y (fun w' => w'.cell? ⟨bx, 0, none⟩ = some (I ret) ∧ w'.cell? ⟨bx, 1, none⟩ = some (.slice (some ad) bs.length c) ∧ w'.cell? ⟨bb, 0, none⟩ = some (.slice A0 ps.length c0)) [] (by kernel_rfl) ?_
      have hS0 : w5.drew.cell? ⟨bx, 0, none⟩ = some (I ret) ∧ w5.drew.cell? ⟨bx, 1, none⟩ = some (.slice (some ad) bs.length c) ∧ w5.drew.cell? ⟨bb, 0, none⟩ = some (.slice A0 ps.length c0) := ⟨HAX5.out.cell 0, HAX5.out.cell 1, HAB5.out.cell 0⟩
      refine wpY_take (i := 0) (v := ?_) rfl (by kernel_rfl) (fun _ _ _ h => h) (Or.inl ⟨rfl, ?_⟩) hS0 ?_
      rotate_left
      · rintro W ⟨s0, s1, s2⟩
        go_simp
        try (with_reducible rfl)
      refine wpY_pure (i := 1) (v := ?_) rfl (by kernel_rfl) (fun _ _ _ h => h) (Or.inl ⟨rfl, ?_⟩) (fun _ => hS0) ?_
      rotate_left
      · intro W _
        go_simp
        try (with_reducible rfl)
      refine wpY_pure (i := 3) (v := ?_) rfl (by kernel_rfl) (fun _ _ _ h => h) (Or.inl ⟨rfl, ?_⟩) (fun _ => hS0) ?_
      rotate_left
      · intro W _
        go_simp
        try (with_reducible rfl)
      refine wpY_take (i := 4) (v := ?_) rfl (by kernel_rfl) (fun _ _ _ h => h) (Or.inl ⟨rfl, ?_⟩) hS0 ?_
      rotate_left
      · rintro W ⟨s0, s1, s2⟩
        go_simp
        try (with_reducible rfl)
      refine wpY_pure (i := 5) (v := ?_) rfl (by kernel_rfl) (fun _ _ _ h => h) (Or.inl ⟨rfl, ?_⟩) (fun _ => hS0) ?_
      rotate_left
      · intro W _
        go_simp
        try (with_reducible rfl)
      refine wpY_one (i := 2) rfl (by kernel_rfl) (fun K hK => ?_)
      go_simp
      refine (first_any _ ret (some ad) c bs (Kd.C_below HR.out HF5.out.drew.below) hc HO.out.2.1 hbs i (by omega)).mono ?_
      rintro e w6 ⟨rfl, hb6⟩
      rw [HFF.out]
      have HF6 := Lib.hid (HF5.out.drew.next hb6.out)
      have HAB6 := Lib.hid (HAB5.out.drew.below hb6.out)
      have HAX6 := Lib.hid (HAX5.out.drew.below hb6.out)
      have hS1 : w6.cell? ⟨bx, 0, none⟩ = some (I ret) ∧ w6.cell? ⟨bx, 1, none⟩ = some (.slice (some ad) bs.length c) ∧ w6.cell? ⟨bb, 0, none⟩ = some (.slice A0 ps.length c0) := ⟨HAX6.out.cell 0, HAX6.out.cell 1, HAB6.out.cell 0⟩
      go_wp2_with fail
      refine hK _ _ (fun _ => hS1) ?_
      clear hK K
      have hwr := HWR.out
      refine wpY_pure (i := 6) (v := ?_) rfl (by kernel_rfl) (fun _ _ _ h => h) (Or.inl ⟨rfl, ?_⟩) (fun _ => hS1) ?_
      rotate_left
      · intro W _
        go_simp
        try (with_reducible rfl)
      refine wpY_pure (i := 7) (v := ?_) rfl (by kernel_rfl) (fun _ _ _ h => h) (Or.inl ⟨rfl, ?_⟩) (fun _ => hS1) ?_
      rotate_left
      · intro W _
        go_simp
        try (with_reducible rfl)
      refine wpY_done (by kernel_rfl) ?_ _
      clear hS0 hS1
      clear hwr HF5 HAB5 HAX5 hb6 HWR HB5
      have HE5 : Hid (Lib.itoa (i : Int) ++ 40 :: commas tyTx ps ++ [41, 10] = t3 ++ t4 ++ [10]) := Lib.hid (by rw [ht3.out, ht4.out]; simp)
      have HBA2 : Hid (blockAt bs i = t3 ++ t4 ++ [10] ++ upto (stepTx ⟨ps, ops, ⟨e0, e1, e2, e3, e4, e5⟩⟩ (f + ps.length)) ops.length ++ [32, 32] ++ endTx ⟨e0, e1, e2, e3, e4, e5⟩ ++ [10]) := Lib.hid (by rw [HBA.out, blockTx, HE5.out])
      rw [HM.out] at hmm HBA2
      clear HBA HE5 ht3 ht4
      obtain ⟨y, hy⟩ : ∃ y, x ++ (t3 ++ t4 ++ [10]) = y := ⟨_, rfl⟩
      have HY := Lib.hid hy
      have hyl : y.length ≤ 130100000030000 := by rw [← hy]; simp only [List.length_append, List.length_cons, List.length_nil]; omega
      rw [hy] at HF6
      clear hy
      have hcb1 : w6.cell? ⟨bb, 1, none⟩ = some (.slice A1 ops.length c1) := HAB6.out.cell 1
      have HSL := Lib.hid (fun k => steps_le _ HBK.out m k)
      go_wp2_with fail
      clear hcb1
      go_loopw [43] (fun v43 wr => ∃ k : Nat, k ≤ ops.length ∧ v43 = I k ∧ Hid (FW 56 w0 b (y ++ upto (stepTx ⟨ps, ops, ⟨e0, e1, e2, e3, e4, e5⟩⟩ m) k) wr) ∧ Hid (Arr wr bx 41 [I ret, .slice (some ad) bs.length c]) ∧ Hid (Arr wr bb 46 [.slice A0 ps.length c0, .slice A1 ops.length c1, I e0, I e1, I e2, I e3, .slice A6 e4.length c6, .slice A7 e5.length c7])) (fun v43 _ => ops.length - (intOf v43).toNat)
      case atStart => exact ⟨0, Nat.zero_le _, rfl, Lib.hid (by simpa [upto_zero] using HF6.out), HAX6, HAB6⟩
      case round =>
        obtain ⟨k, hk, rfl, HFK, HAX, HAB⟩ := hrel
        clear HF6 HAX6 HAB6
        have hsl := HSL.out k hk (by omega)
        have HFLT := Lib.hid HFK.out.lt
        by_cases hltk : k < ops.length
        · obtain ⟨ad8, A8, c8, e, hx0, hx1, hx2, hx3, hx4, hx5, hx6, hx7, hl8, hi8⟩ := at_T48 HI1.out (k : Int) (by omega) (by omega)
          subst e
          replace hx0 := (HFK.out.below.cell (World.block_lt_of_cell? _ _ hx0)).trans hx0
          replace hx1 := (HFK.out.below.cell (World.block_lt_of_cell? _ _ hx1)).trans hx1
          replace hx2 := (HFK.out.below.cell (World.block_lt_of_cell? _ _ hx2)).trans hx2
          replace hx3 := (HFK.out.below.cell (World.block_lt_of_cell? _ _ hx3)).trans hx3
          replace hx4 := (HFK.out.below.cell (World.block_lt_of_cell? _ _ hx4)).trans hx4
          replace hx5 := (HFK.out.below.cell (World.block_lt_of_cell? _ _ hx5)).trans hx5
          replace hx6 := (HFK.out.below.cell (World.block_lt_of_cell? _ _ hx6)).trans hx6
          replace hx7 := (HFK.out.below.cell (World.block_lt_of_cell? _ _ hx7)).trans hx7
          have HOK := Lib.hid (getD_ok HOPS.out (d := z48) hltk)
          have HSK : Hid (upto (stepTx ⟨ps, ops, ⟨e0, e1, e2, e3, e4, e5⟩⟩ m) (k + 1) = upto (stepTx ⟨ps, ops, ⟨e0, e1, e2, e3, e4, e5⟩⟩ m) k ++ ([32, 32] ++ vTx ((m + k : Nat) : Int) ++ [32, 61, 32] ++ opTx (ops.getD k z48) ++ [10])) := Lib.hid (upto_succ _ k)
          rw [Int.toNat_natCast] at hx0 hx1 hx2 hx3 hx4 hx5 hx6 hx7
          rw [show rd_T48 ops (k : Int) = ops.getD k z48 from rfl] at hx0 hx1 hx2 hx3 hx4 hx5 hx6 hx7 hl8 hi8
          obtain ⟨o, ho⟩ : ∃ o, ops.getD k z48 = o := ⟨_, rfl⟩
          rw [ho] at hx0 hx1 hx2 hx3 hx4 hx5 hx6 hx7 hl8 hi8 HOK HSK
          clear ho
          have HI8 := Lib.hid hi8
          clear hi8
          go_upto_region 10 with fail
          have HC8 := Lib.hid hl8
          clear hx0 hx1 hx2 hx3 hx4 hx5 hx6 hx7
          have HF1 := Lib.hid (HFK.out.alloc (.cells #[I o.f0, I o.f1, I o.f2, I o.f3, I o.f4, .string o.f5, .slice A8 o.f6.length c8, .bool o.f7] 48))
          have HAX1 := Lib.hid (HAX.out.alloc (.cells #[I o.f0, I o.f1, I o.f2, I o.f3, I o.f4, .string o.f5, .slice A8 o.f6.length c8, .bool o.f7] 48))
          have HAB1 := Lib.hid (HAB.out.alloc (.cells #[I o.f0, I o.f1, I o.f2, I o.f3, I o.f4, .string o.f5, .slice A8 o.f6.length c8, .bool o.f7] 48))
          have HAK1 := Lib.hid (Arr.new wr 48 #[I o.f0, I o.f1, I o.f2, I o.f3, I o.f4, .string o.f5, .slice A8 o.f6.length c8, .bool o.f7])
          obtain ⟨x2, hx2⟩ : ∃ x2, y ++ upto (stepTx ⟨ps, ops, ⟨e0, e1, e2, e3, e4, e5⟩⟩ m) k = x2 := ⟨_, rfl⟩
          have HXK := Lib.hid hx2
          have hx2l : x2.length ≤ 130200000000000 := by rw [← hx2, List.length_append]; omega
          rw [hx2] at HF1
          clear hx2 HFK
          have HNK : Hid (wr.heap.size ≠ b) := Lib.hid (by have := HFLT.out; omega)
          obtain ⟨WK, hWK⟩ : ∃ WK, wr.alloc (.cells #[I o.f0, I o.f1, I o.f2, I o.f3, I o.f4, .string o.f5, .slice A8 o.f6.length c8, .bool o.f7] 48) = WK := ⟨_, rfl⟩
          obtain ⟨bo, hbo⟩ : ∃ bo, wr.heap.size = bo := ⟨_, rfl⟩
          rw [hWK] at HF1 HAX1 HAB1 HAK1
          rw [hbo] at HAK1 HNK
          rw [hWK, hbo]
          clear hWK hbo HAX HAB HFLT
          have hwk : IntKind.i64.wrap ((m : Int) + (k : Int)) = (((m + k : Nat) : Int)) := by rw [IntWalk.i64_in _ (by omega)]; omega
          obtain ⟨mk, hmk⟩ : ∃ mk : Nat, m + k = mk := ⟨_, rfl⟩
          rw [hmk] at hwk HSK
          have hmkl : mk ≤ 4000000 := by omega
          have HMK : Hid (In (mk : Int)) := Lib.hid ⟨by omega, by omega⟩
          clear hmk
          refine wp_region_y (fun w' => w'.cell? ⟨bo, 0, none⟩ = some (I o.f0) ∧ w'.cell? ⟨bo, 1, none⟩ = some (I o.f1) ∧ w'.cell? ⟨bo, 2, none⟩ = some (I o.f2) ∧ w'.cell? ⟨bo, 3, none⟩ = some (I o.f3) ∧ w'.cell? ⟨bo, 4, none⟩ = some (I o.f4) ∧ w'.cell? ⟨bo, 5, none⟩ = some (.string o.f5) ∧ w'.cell? ⟨bo, 6, none⟩ = some (.slice A8 o.f6.length c8) ∧ w'.cell? ⟨bo, 7, none⟩ = some (.bool o.f7)) [] (by kernel_rfl) ?_
          have hS0 : WK.drew.cell? ⟨bo, 0, none⟩ = some (I o.f0) ∧ WK.drew.cell? ⟨bo, 1, none⟩ = some (I o.f1) ∧ WK.drew.cell? ⟨bo, 2, none⟩ = some (I o.f2) ∧ WK.drew.cell? ⟨bo, 3, none⟩ = some (I o.f3) ∧ WK.drew.cell? ⟨bo, 4, none⟩ = some (I o.f4) ∧ WK.drew.cell? ⟨bo, 5, none⟩ = some (.string o.f5) ∧ WK.drew.cell? ⟨bo, 6, none⟩ = some (.slice A8 o.f6.length c8) ∧ WK.drew.cell? ⟨bo, 7, none⟩ = some (.bool o.f7) := ⟨HAK1.out.cell 0, HAK1.out.cell 1, HAK1.out.cell 2, HAK1.out.cell 3, HAK1.out.cell 4, HAK1.out.cell 5, HAK1.out.cell 6, HAK1.out.cell 7⟩
          refine wpY_pure (i := 0) (v := ?_) rfl (by kernel_rfl) (fun _ _ _ h => h) (Or.inl ⟨rfl, ?_⟩) (fun _ => hS0) ?_
          rotate_left
          · intro W _
            go_simp
            try (with_reducible rfl)
          refine wpY_pure (i := 1) (v := ?_) rfl (by kernel_rfl) (fun _ _ _ h => h) (Or.inl ⟨rfl, ?_⟩) (fun _ => hS0) ?_
          rotate_left
          · intro W _
            go_simp
            try (with_reducible rfl)
          refine wpY_pure (i := 2) (v := ?_) rfl (by kernel_rfl) (fun _ _ _ h => h) (Or.inl ⟨rfl, ?_⟩) (fun _ => hS0) ?_
          rotate_left
          · intro W _
            go_simp
            try (with_reducible rfl)
          refine wpY_pure (i := 3) (v := ?_) rfl (by kernel_rfl) (fun _ _ _ h => h) (Or.inl ⟨rfl, ?_⟩) (fun _ => hS0) ?_
          rotate_left
          · intro W _
            go_simp
            try (with_reducible rfl)
          refine wpY_take (i := 7) (v := ?_) rfl (by kernel_rfl) (fun _ _ _ h => h) (Or.inl ⟨rfl, ?_⟩) hS0 ?_
          rotate_left
          · rintro W ⟨s0, s1, s2, s3, s4, s5, s6, s7⟩
            go_simp
            try (with_reducible rfl)
          clear hwk
          refine wpY_one (i := 4) rfl (by kernel_rfl) (fun K hK => ?_)
          go_simp
          refine (value_any _ (mk : Int) HMK.out (HF1.out.drew.vars HV.out)).mono ?_
          rintro e w7 ⟨t7, rfl, ht7, hl7b, hb7⟩
          have HF7 := Lib.hid (HF1.out.drew.next hb7.out)
          have HAK7 := Lib.hid (HAK1.out.drew.below hb7.out)
          have HAB7 := Lib.hid (HAB1.out.drew.below hb7.out)
          have HAX7 := Lib.hid (HAX1.out.drew.below hb7.out)
          have hS1 : w7.cell? ⟨bo, 0, none⟩ = some (I o.f0) ∧ w7.cell? ⟨bo, 1, none⟩ = some (I o.f1) ∧ w7.cell? ⟨bo, 2, none⟩ = some (I o.f2) ∧ w7.cell? ⟨bo, 3, none⟩ = some (I o.f3) ∧ w7.cell? ⟨bo, 4, none⟩ = some (I o.f4) ∧ w7.cell? ⟨bo, 5, none⟩ = some (.string o.f5) ∧ w7.cell? ⟨bo, 6, none⟩ = some (.slice A8 o.f6.length c8) ∧ w7.cell? ⟨bo, 7, none⟩ = some (.bool o.f7) := ⟨HAK7.out.cell 0, HAK7.out.cell 1, HAK7.out.cell 2, HAK7.out.cell 3, HAK7.out.cell 4, HAK7.out.cell 5, HAK7.out.cell 6, HAK7.out.cell 7⟩
          go_wp2_with fail
          refine hK _ _ (fun _ => hS1) ?_
          clear hK K
          have hn1 : (9223372036854775807 < 2 + t7.length) = False := eq_false (by omega)
          have hn2 : (9223372036854775807 < 2 + t7.length + 3) = False := eq_false (by omega)
          refine wpY_pure (i := 5) (v := ?_) rfl (by kernel_rfl) (fun _ _ _ h => h) (Or.inl ⟨rfl, ?_⟩) (fun _ => hS1) ?_
          rotate_left
          · intro W _
            go_simp
            try (with_reducible rfl)
          refine wpY_pure (i := 6) (v := ?_) rfl (by kernel_rfl) (fun _ _ _ h => h) (Or.inl ⟨rfl, ?_⟩) (fun _ => hS1) ?_
          rotate_left
          · intro W _
            go_simp
            try (with_reducible rfl)
          refine wpY_one (i := 8) rfl (by kernel_rfl) (fun K hK => ?_)
          go_simp
          refine (op_any _ o A8 c8 (Kd.C_below HI8.out HF7.out.below) HC8.out HOK.out (HF7.out.vars HV.out)).mono ?_
          rintro e w8 ⟨t8, rfl, ht8, hl8b, hb8⟩
          have HF8 := Lib.hid (HF7.out.next hb8.out)
          have HAK8 := Lib.hid (HAK7.out.below hb8.out)
          have HAB8 := Lib.hid (HAB7.out.below hb8.out)
          have HAX8 := Lib.hid (HAX7.out.below hb8.out)
          have hS2 : w8.cell? ⟨bo, 0, none⟩ = some (I o.f0) ∧ w8.cell? ⟨bo, 1, none⟩ = some (I o.f1) ∧ w8.cell? ⟨bo, 2, none⟩ = some (I o.f2) ∧ w8.cell? ⟨bo, 3, none⟩ = some (I o.f3) ∧ w8.cell? ⟨bo, 4, none⟩ = some (I o.f4) ∧ w8.cell? ⟨bo, 5, none⟩ = some (.string o.f5) ∧ w8.cell? ⟨bo, 6, none⟩ = some (.slice A8 o.f6.length c8) ∧ w8.cell? ⟨bo, 7, none⟩ = some (.bool o.f7) := ⟨HAK8.out.cell 0, HAK8.out.cell 1, HAK8.out.cell 2, HAK8.out.cell 3, HAK8.out.cell 4, HAK8.out.cell 5, HAK8.out.cell 6, HAK8.out.cell 7⟩
          go_wp2_with fail
          refine hK _ _ (fun _ => hS2) ?_
          clear hK K
          have hn3 : (9223372036854775807 < 2 + t7.length + 3 + t8.length) = False := eq_false (by omega)
          have hn4 : (9223372036854775807 < 2 + t7.length + 3 + t8.length + 1) = False := eq_false (by omega)
          refine wpY_pure (i := 9) (v := ?_) rfl (by kernel_rfl) (fun _ _ _ h => h) (Or.inl ⟨rfl, ?_⟩) (fun _ => hS2) ?_
          rotate_left
          · intro W _
            go_simp
            try (with_reducible rfl)
          refine wpY_pure (i := 10) (v := ?_) rfl (by kernel_rfl) (fun _ _ _ h => h) (Or.inl ⟨rfl, ?_⟩) (fun _ => hS2) ?_
          rotate_left
          · intro W _
            go_simp
            try (with_reducible rfl)
          refine wpY_one (i := 11) rfl (by kernel_rfl) (fun K hK => ?_)
          go_simp
          refine (write56 w0 w8 b x2 ([32, 32] ++ t7 ++ [32, 61, 32] ++ t8 ++ [10]) _ (by (apply ByteArray.ext; simp [ByteArray.data_append])) HF8.out (by simp only [List.length_append, List.length_cons, List.length_nil]; omega)).mono ?_
          rintro e w9 ⟨n9, rfl, HF9, HW9⟩
          have HAK9 := Lib.hid (HAK8.out.wr HW9.out HNK.out (by decide))
          have HAB9 := Lib.hid (HAB8.out.wr HW9.out HNB.out (by decide))
          have HAX9 := Lib.hid (HAX8.out.wr HW9.out HNE.out (by decide))
          have hS3 : w9.cell? ⟨bo, 0, none⟩ = some (I o.f0) ∧ w9.cell? ⟨bo, 1, none⟩ = some (I o.f1) ∧ w9.cell? ⟨bo, 2, none⟩ = some (I o.f2) ∧ w9.cell? ⟨bo, 3, none⟩ = some (I o.f3) ∧ w9.cell? ⟨bo, 4, none⟩ = some (I o.f4) ∧ w9.cell? ⟨bo, 5, none⟩ = some (.string o.f5) ∧ w9.cell? ⟨bo, 6, none⟩ = some (.slice A8 o.f6.length c8) ∧ w9.cell? ⟨bo, 7, none⟩ = some (.bool o.f7) := ⟨HAK9.out.cell 0, HAK9.out.cell 1, HAK9.out.cell 2, HAK9.out.cell 3, HAK9.out.cell 4, HAK9.out.cell 5, HAK9.out.cell 6, HAK9.out.cell 7⟩
          go_wp2_with fail
          refine hK _ _ (fun _ => hS3) ?_
          clear hK K
          refine wpY_done (by kernel_rfl) ?_ _
          clear hS0 hS1 hS2 hS3
          clear hn1 hn2 hn3 hn4
          go_wp2_with fail
          go_roundw
          case rel => exact ⟨k + 1, by omega, by go_num, Lib.hid (by rw [HSK.out, ← ht7.out, ← ht8.out, ← List.append_assoc, HXK.out]; exact HF9.out), HAX9, HAB9⟩
          case measure => simp [intOf]; omega
        · obtain rfl : k = ops.length := by omega
          have hb2 : wr.cell? ⟨bb, 2, none⟩ = some (I e0) := HAB.out.cell 2
          have hb3 : wr.cell? ⟨bb, 3, none⟩ = some (I e1) := HAB.out.cell 3
          have hb4 : wr.cell? ⟨bb, 4, none⟩ = some (I e2) := HAB.out.cell 4
          have hb5 : wr.cell? ⟨bb, 5, none⟩ = some (I e3) := HAB.out.cell 5
          have hb6 : wr.cell? ⟨bb, 6, none⟩ = some (.slice A6 e4.length c6) := HAB.out.cell 6
          have hb7 : wr.cell? ⟨bb, 7, none⟩ = some (.slice A7 e5.length c7) := HAB.out.cell 7
          have HL6 := Lib.hid hl6
          have HL7 := Lib.hid hl7
          go_wp2_with fail
          refine (end_any _ ⟨e0, e1, e2, e3, e4, e5⟩ A6 A7 c6 c7 (Kd.C_below HI6.out HFK.out.below) HL6.out (Kd.C_below HI7.out HFK.out.below) HL7.out HEND.out (HFK.out.vars HV.out)).mono ?_
          rintro e w7 ⟨t7, rfl, ht7, hl7b, hb7'⟩
          have HF7 := Lib.hid (HFK.out.next hb7'.out)
          have HAX7 := Lib.hid (HAX.out.below hb7'.out)
          clear hb2 hb3 hb4 hb5 hb6 hb7 hb7'
          go_wp2_with fail
          refine (write56 w0 w7 b _ ([32, 32] ++ t7 ++ [10]) _ (by (apply ByteArray.ext; simp [ByteArray.data_append])) HF7.out (by simp only [List.length_append, List.length_cons, List.length_nil]; omega)).mono ?_
          rintro e w8 ⟨n8, rfl, HF8, HW8⟩
          have HAX8 := Lib.hid (HAX7.out.wr HW8.out HNE.out (by decide))
          clear HW8
          go_wp2_with fail
          go_roundw
          case rel => exact ⟨i + 1, by omega, by go_num, Lib.hid (by rw [HSU.out, HBA2.out, ← ht7.out, ← List.append_assoc, HXX.out]; have := HF8.out; rw [← HY.out] at this; simpa [List.append_assoc] using this), HAX8⟩
          case measure => simp [intOf]; omega
    · obtain rfl : i = bs.length := by omega
      go_wp2_with fail
      go_end0
      exact ⟨rfl, Lib.hid (by have := HFR.out; rwa [List.append_assoc] at this)⟩
end Go.Proofs.YtacopdbldfgknaaDoor
