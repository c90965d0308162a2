import Derived.Test.YtcghkemfepnihaaHas
namespace Go.Proofs.Ytcghkemfepnihaa
open Go.RowKit

theorem Rows.kept {w w' : World} {g : Nat} {vs : List Value} {xss : List (List Int)} (h : Rows w g vs xss) (hk : ∀ k, k < w.heap.size → (k = g ∨ ∃ cur fr, w.heap[k]? = some (.cells cur 3 fr)) → w'.heap[k]? = w.heap[k]?) : Rows w' g vs xss := by
  refine ⟨h.arr.block (hk g h.arr.lt (.inl rfl)), h.len, fun i hi => ?_, h.apart⟩
  have ho := h.own i hi
  refine ⟨ho.1, ?_⟩
  rcases ho.2 with hn | ⟨g', cap, cur, hv, hb, hh, hr⟩
  · exact .inl hn
  · exact .inr ⟨g', cap, cur, hv, hb, (hk g' (Array.getElem?_eq_some_iff.1 hh).1 (.inr ⟨_, _, hh⟩)).trans hh, hr⟩
theorem own_kept {w w' : World} {base e sz n : Nat} {v : Value} {xs : List Value} (h : w.ownsRow base e sz v n xs) (hk : ∀ k, v.ownBlock = some k → w'.heap[k]? = w.heap[k]?) : w'.ownsRow base e sz v n xs := by
  refine ⟨h.1, ?_⟩
  rcases h.2 with hn | ⟨g', cap, cur, rfl, hb, hh, hr⟩
  · exact .inl hn
  · exact .inr ⟨g', cap, cur, rfl, hb, (hk g' rfl).trans hh, hr⟩
theorem own_type {w : World} {base e sz n : Nat} {v : Value} {xs : List Value} (h : w.ownsRow base e sz v n xs) {k : Nat} (hk : v.ownBlock = some k) : ∃ cur, w.heap[k]? = some (.cells cur e (0, 0)) := by
  rcases h.2 with ⟨rfl, _⟩ | ⟨g', cap, cur, rfl, hb, hh, hr⟩
  · cases hk
  · cases hk; exact ⟨cur, hh⟩
theorem own_pop2 {w : World} {base e g n cap : Nat} {xs : List Value} {x y : Value} (h : w.ownsRow base e 2 (.slice (some ⟨g, 0, none⟩) (n + 1) cap) (n + 1) (xs ++ [x, y])) : w.ownsRow base e 2 (.slice (some ⟨g, 0, none⟩) n cap) n xs := by
  have hl := h.1
  simp at hl
  rcases h.2 with ⟨h2, _⟩ | ⟨g', cap', cur, h2, hb, hh, hn, hm, hs, ht⟩
  · cases h2
  · cases h2
    refine ⟨by omega, .inr ⟨g, cap, cur, rfl, hb, hh, by omega, hm, hs, ?_⟩⟩
    have : (cur.toList.take ((n + 1) * 2)).take (n * 2) = (xs ++ [x, y]).take (n * 2) := by rw [ht]
    rw [List.take_take, List.take_append_of_le_length (by omega), List.take_of_length_le (l := xs) (by omega)] at this
    rw [← this]
    congr 1
    omega

set_option maxHeartbeats 8000000 in
set_option maxRecDepth 100000 in
theorem sets_any (w : World) (n : Int) (v1 v2 : Value) (E D : List (Int × Int)) (h1 : Rd w v1 E.length (pairs E)) (h2 : Rd w v2 D.length (pairs D)) (hE : E.length ≤ 1000) (hD : D.length ≤ 1000) :
    Calls Try.prog 20 #[I n, v1, v2] w (SetsRes w n E D) := by
  obtain ⟨A1, c1, rfl, hm1⟩ := h1.form
  obtain ⟨A2, c2, rfl, hm2⟩ := h2.form
  have HX := Lib.hid h1
  have HY := Lib.hid h2
  have HN := Lib.hid (World.ownsRow_nil w w.heap.size 3 1)
  clear h1 h2
  go_enter Try.func20, Try.ntmps20
  go_wp2
  go_loopw [8, 21] (fun r i wr => ∃ k : Nat, k ≤ D.length ∧ i = .int .i64 k ∧ wr.ownsRow w.heap.size 3 1 r k (ints (firsts (D.take k))) ∧ Below w.heap.size w wr) (fun _ i _ => D.length - (intOf i).toNat)
  case atStart => exact ⟨0, Nat.zero_le _, rfl, by simpa [ints, firsts] using HN.out, Below.refl _ _⟩
  case round =>
    clear HN
    obtain ⟨k, hk, rfl, hown, hB⟩ := hrel
    have HO := Lib.hid hown
    have hsz := hB.size
    clear hown
    by_cases hlt : k < D.length
    · obtain ⟨b2, o2, _, e2, _, hb2, g2⟩ := HY.out.elem (by simp; omega)
      cases e2
      obtain ⟨f0, f1⟩ := edge_cells hB hb2 g2 k hlt
      have HS := Lib.hid (firsts_snoc hlt)
      obtain ⟨x, hx⟩ : ∃ x, D[k].1 = x := ⟨_, rfl⟩
      obtain ⟨s, hs⟩ : ∃ s, D[k].2 = s := ⟨_, rfl⟩
      rw [hx] at f0
      rw [hs] at f1
      have HXX := Lib.hid hx
      clear g2 hx hs
      have HO2 := Lib.hid (HO.out.alloc (.cells #[I x, I s] 47))
      have HB2 := Lib.hid (hB.alloc hsz (.cells #[I x, I s] 47))
      go_wp2_with (at_builtin; refine wpl_append1 rfl _ _ _ rfl E26 rfl (HO2.out.alloc _) (u := .slice (some ⟨wr.heap.size + 1, 0, none⟩) 1 1) (m := 1) (news := [I x]) rfl (by simpa using Rd.fresh (wr.alloc (.cells #[I x, I s] 47)) #[I x] 3 1 1 (by omega) (by omega)) rfl (by simp [Value.oneCell']) (by omega) (by omega) (by simp only [maxLen]; omega) (by simp; omega) ?_; intro g' cap' w2 hap)
      go_roundw
      case rel =>
        have hb2 : Below w.heap.size w w2 := hap.below (HB2.out.alloc (by simp; omega) _) (HO2.out.alloc _) (Nat.le_refl _) (by simp; omega)
        exact ⟨k + 1, by omega, by go_num, by rw [HS.out, HXX.out, ints_append]; exact hap.own, hb2⟩
      case measure => simp [intOf]; omega
    · have hke : k = D.length := by omega
      subst hke
      have hR : Rd wr u8 (firsts D).length (ints (firsts D)) := by have := Rd.of_own HO.out; rwa [List.take_length, ← firsts_length] at this
      obtain ⟨A3, c3, rfl, hm3⟩ := hR.form
      have hX1 := HX.out.below hB
      clear HO
      have c0 := cell_alloc_l (.cells #[.slice A3 (firsts D).length c3] 26) (cell_new_l wr (.slice A1 E.length c1) 24).1
      have c1' := (cell_new_l (wr.alloc (.cells #[.slice A1 E.length c1] 24)) (.slice A3 (firsts D).length c3) 26).1
      simp only [World.size_alloc] at c1'
      have C0 := Lib.hid c0
      have C1 := Lib.hid c1'
      have hx1 := Lib.hid ((hX1.alloc (.cells #[.slice A1 E.length c1] 24)).alloc (.cells #[.slice A3 (firsts D).length c3] 26))
      have hy1 := Lib.hid ((hR.alloc (.cells #[.slice A1 E.length c1] 24)).alloc (.cells #[.slice A3 (firsts D).length c3] 26))
      have hB0 : Below w.heap.size w ((wr.alloc (.cells #[.slice A1 E.length c1] 24)).alloc (.cells #[.slice A3 (firsts D).length c3] 26)) := (hB.alloc hsz _).alloc (by simp; omega) _
      clear hR hX1 c0 c1'
      by_cases hf : fitF n E (firsts D) = 0
      · have hf' : (fitF n E (firsts D) != 0) = false := ne_f hf
        obtain ⟨m, rfl, hm, F⟩ := fits_of hf
        have HF := Lib.hid F
        have HE := Lib.hid hf
        have hmk := run_make_row' (P := Try.prog) 42 26 (.slice none 0 0) 24 Try.underlying42 Try.info26 rfl .i64 .i64 m (by omega) (by omega)
        clear hf F
        go_upto_region 11 with (first
          | (go_at_call 23; refine (named_any _ _ _ ⟨_, _, _, rfl⟩ ⟨_, _, _, rfl⟩).mono ?_; rintro e w' ⟨rfl, rfl⟩)
          | (go_at_call 22; refine (fit22_any _ _ _ _ _ E (firsts D) _ C0.out C1.out hx1.out hy1.out).mono ?_; rintro e w1 ⟨rfl, hB1⟩; have hx2 := Lib.hid (hx1.out.below hB1))
          | (go_at_call 25; refine (graph_any _ m _ E false hx2.out hm HF.out.e (by omega)).mono ?_; rintro e w3 ⟨rg, rfl, hg, hB3⟩; have HG := Lib.hid hg; obtain ⟨vsG, rG1, rG2, rG3⟩ := hg.out; obtain ⟨AG, cG, rfl, hmG⟩ := rG1.form))
        have hB3' : Below w.heap.size w w3 := by
          have b1 := hB1.size
          simp at b1
          exact below_step (below_step hB0 hB1 (by simp; omega)) hB3 (by omega)
        have hs3 := hB3'.size
        have HD3 := Lib.hid (((HY.out.below hB3').alloc (.cells (madeCells #[nilS] m) 26)).alloc (.cells #[.slice (some ⟨w3.heap.size, 0, none⟩) m m] 42))
        have R0 := (Rows.start w3 m).alloc (.cells #[.slice (some ⟨w3.heap.size, 0, none⟩) m m] 42)
        have A0 := Arr.new (w3.alloc (.cells (madeCells #[nilS] m) 26)) 42 #[.slice (some ⟨w3.heap.size, 0, none⟩) m m]
        simp only [World.size_alloc] at A0
        have HR0 := Lib.hid R0
        have HA0 := Lib.hid A0
        have HB0 : Hid (Below w3.heap.size w3 ((w3.alloc (.cells (madeCells #[nilS] m) 26)).alloc (.cells #[.slice (some ⟨w3.heap.size, 0, none⟩) m m] 42))) := Lib.hid ((below_alloc _ _).alloc (by simp) _)
        clear R0 A0 C0 C1 hx1 hy1 hB0 hB1 hx2 hg rG2 rG1 rG3 HX
        go_wp2_with (go_at_call 30; refine (clone_pairs _ _ D HD3.out (by omega)).mono ?_; rintro e w4 ⟨rw, rfl, hown, hB4⟩)
        clear hmk
        have hR4 := Rows.kept (w' := w4) HR0.out (fun k hk _ => hB4.block k hk)
        have hA4 := HA0.out.below hB4
        have hB4' : Below w3.heap.size w3 w4 := below_step HB0.out hB4 (by simp; omega)
        have hown4 : w4.ownsRow (w3.heap.size + 2) 47 2 rw D.length (pairs D) := by simpa using hown
        obtain ⟨g0, hg0⟩ : ∃ g0, w3.heap.size = g0 := ⟨_, rfl⟩
        rw [hg0] at hR4 hA4 hB4' hown4 ⊢
        have hs3' : w.heap.size ≤ g0 := by omega
        have hG0 : Hid (w3.heap.size = g0) := Lib.hid hg0
        have hB3h : Hid (Below w.heap.size w w3) := Lib.hid hB3'
        have htot := total_graph m E false
        obtain ⟨gs, hgs⟩ : ∃ gs, graphF m E false = gs := ⟨_, rfl⟩
        have hgl : gs.length = m := by rw [← hgs, graphF_length]
        have HMEM : Hid (∀ (a : Nat) (b : Int), b ∈ gs.getD a [] ↔ ((a : Int), b) ∈ E) := Lib.hid (fun a b => by rw [← hgs, mem_graph HF.out.e, turn_false])
        rw [hgs] at HG htot ⊢
        rw [hgs] at hmG
        have hDr : ∀ p ∈ D, 0 ≤ p.1 ∧ p.1 < m := fun p hp => HF.out.s p.1 (List.mem_map.2 ⟨p, hp, rfl⟩)
        have HDR := Lib.hid hDr
        have hG : total gs * D.length ≤ 1000 * 1000 := Nat.mul_le_mul (by omega) hD
        obtain ⟨T, hT⟩ : ∃ T, total gs * D.length = T := ⟨_, rfl⟩
        rw [hT] at hG
        have hus := unp_start D gs m
        rw [hT] at hus
        have HGL := Lib.hid hgl
        have hrl : ∀ a, (gs.getD a []).length ≤ 1000 := fun a => Nat.le_trans (le_total _ _) (by omega)
        have HRL := Lib.hid hrl
        clear hown hB4 HB0 HR0 HA0 HD3 hB3' hB3 hB hgs hDr hT htot hgl hrl hs3 hsz hg0
        go_loopg [15] (D.length + T) (fun g s15 wr => ∃ (vs : List Value) (outs : List (List Int)) (wait : List (Int × Int)), Arr wr (g0 + 1) 42 [.slice (some ⟨g0, 0, none⟩) m m] ∧ Rows wr g0 vs outs ∧ wr.ownsRow (g0 + 2) 47 2 s15 wait.length (pairs wait) ∧ Mids E D m outs wait ∧ wait.length + unp D gs outs ≤ g ∧ g ≤ D.length + T ∧ (∀ v, v < m → (outs.getD v []).length + g ≤ D.length + T) ∧ Below g0 w3 wr)
        case atStart => exact ⟨_, _, D, hA4, hR4, hown4, mids_start HDR.out, by omega, Nat.le_refl _, fun v _ => by rw [getD_replicate]; simp, hB4'⟩
        case round =>
          clear hA4 hR4 hown4 hB4' hus
          obtain ⟨vs, outs, wait, harr, hR, hown, hM, hg, hg2, hsh, hB⟩ := hrel
          have HA := Lib.hid harr
          have HRW := Lib.hid hR
          have HM := Lib.hid hM
          have HSH := Lib.hid hsh
          have hsz := hB.size
          have hc := harr.cell 0
          have hobl := harr.lt
          simp at hc
          clear hM hR hsh harr
          rcases List.eq_nil_or_concat wait with rfl | ⟨ws, p, rfl⟩
          · obtain ⟨A, c, rfl, _⟩ := (Rd.of_own hown).form
            clear hown
            go_wp2
            go_ret2
            have hl := HM.out.len
            exact ⟨_, outs, by rw [HE.out]; rfl, by have := HRW.out.rd (by omega); rwa [hl] at this, below_step hB3h.out (B := w.heap.size) (hB.mono (by have := hG0.out; omega)) (by have := hB3h.out.size; omega), fun h => absurd HE.out h, fun k hk _ => (by obtain rfl : m = k := (by omega); exact mids_end HF.out.e HDR.out HM.out)⟩
          · simp only [List.concat_eq_append] at *
            obtain ⟨pv, s⟩ := p
            have hvr : 0 ≤ pv ∧ pv < m := HM.out.rng (pv, s) (by simp)
            obtain ⟨v, hv⟩ : ∃ v : Nat, pv = v := ⟨pv.toNat, by omega⟩
            subst hv
            have hvm : v < m := by omega
            have hown2 : wr.ownsRow (g0 + 2) 47 2 u15 (ws.length + 1) (pairs ws ++ [I v, I s]) := by
              have h := hown
              rw [pairs_append] at h
              simpa [pairs] using h
            have hgk : ws.length + 1 + unp D gs outs ≤ gk := by simpa using hg
            clear hown hg
            obtain ⟨gb, cap, rfl, hgb, hgb2⟩ := hown2.form (by omega)
            have hl0 : wr.cell? ⟨gb, ws.length * 2, none⟩ = some (I v) := by
              have := hown2.cells (g := gb) rfl (ws.length * 2) (I v) (by rw [List.getElem?_append_right (by simp)]; simp)
              rwa [add_plain', Nat.zero_add] at this
            have hl1 : wr.cell? ⟨gb, ws.length * 2 + 1, none⟩ = some (I s) := by
              have := hown2.cells (g := gb) rfl (ws.length * 2 + 1) (I s) (by rw [List.getElem?_append_right (by simp)]; simp)
              rwa [add_plain', Nat.zero_add] at this
            have hcap : ws.length + 1 ≤ cap := by
              obtain ⟨A, c, e, h, _⟩ := (Rd.of_own hown2).form
              cases e; exact h
            have hO := own_pop2 hown2
            have hO1 := hO.alloc (.cells #[I v, I s] 47)
            obtain ⟨curw, hcurw⟩ := own_type hO1 (k := gb) rfl
            have hout := HM.out.len
            have hA1 := HA.out.alloc (.cells #[I v, I s] 47)
            have hx1 := Arr.new wr 47 #[I v, I s]
            obtain ⟨bb, hbb⟩ : ∃ b, (outs.getD v []).contains s = b := ⟨_, rfl⟩
            have hhas := has_any (wr.alloc (.cells #[I v, I s] 47)) (g0 + 1) g0 m vs outs v s (by rw [hA1.cell]; rfl) (fun cur fr h => by rw [hA1.out] at h; cases h) (by omega) (HRW.out.alloc _) hout hvm hm (HM.out.up v hvm) (by have := HSH.out v hvm; omega)
            rw [hbb] at hhas
            have HHAS := Lib.hid hhas
            have HA1 := Lib.hid hA1
            have HX1 := Lib.hid hx1
            have HO1 := Lib.hid hO1
            have HCW := Lib.hid hcurw
            have HBB := Lib.hid hbb
            have HB1 := Lib.hid (hB.alloc (by have := hG0.out; omega) (.cells #[I v, I s] 47))
            have hl2 : (0 : Int) < (ws.length : Int) + 1 := by omega
            have hl3 : (ws.length : Int) ≤ cap := by omega
            clear hown2 hO hO1 hcurw hA1 hx1 hhas hbb hvr hout
            go_wp2_with fail
            refine HHAS.out.mono ?_
            rintro e w5 ⟨rfl, hB5, hk5, vs5, hR5⟩
            have hB5' : Below g0 w3 w5 := HB1.out.trans hB5
            have hA5 : Arr w5 (g0 + 1) 42 [.slice (some ⟨g0, 0, none⟩) m m] := HA1.out.block (hk5 _ (by omega) (by simp; omega) (fun cur fr h => by rw [HA1.out.out] at h; cases h))
            have hX5 : Arr w5 wr.heap.size 47 [I v, I s] := HX1.out.block (hk5 _ (by omega) (by simp) (fun cur fr h => by rw [HX1.out.out] at h; cases h))
            have hO5 : w5.ownsRow (g0 + 2) 47 2 (.slice (some ⟨gb, 0, none⟩) ws.length cap) ws.length (pairs ws) := own_kept HO1.out (fun k hk => by
              obtain rfl : gb = k := by simpa [Value.ownBlock] using hk
              exact hk5 _ (by omega) (by simp; omega) (fun cur fr h => by rw [HCW.out] at h; cases h))
            have HA5 := Lib.hid hA5
            have HX5 := Lib.hid hX5
            have HO5 := Lib.hid hO5
            have HR5 := Lib.hid hR5
            have hs5 := hB5.size
            simp only [World.size_alloc] at hs5
            clear hB5 hk5 hA5 hO5 hR5 hl0 hl1 hc
            cases bb with
            | true =>
              go_wp2
              go_roundg (gk - 1)
              case measure => go_light; omega
              case rel =>
                have hho : hasOut outs v s = outs := by rw [hasOut, if_pos HBB.out]
                rw [hho] at HR5
                have hmem : s ∈ outs.getD v [] := by have := HBB.out; simpa using this
                exact ⟨vs5, outs, ws, HA5.out, HR5.out, by simpa [Addr.add] using HO5.out, mids_seen HM.out (by simpa using hmem), by omega, by omega, fun u hu => by have := HSH.out u hu; omega, hB5'⟩
            | false =>
              have hho : hasOut outs v s = outs.set v (insF (outs.getD v []) ((outs.getD v []).countP (· < s)) s) := by rw [hasOut, if_neg (by rw [HBB.out]; simp)]
              rw [hho] at HR5
              have hmem : s ∉ outs.getD v [] := by have := HBB.out; simpa using this
              obtain ⟨row, hrow⟩ : ∃ row, gs.getD v [] = row := ⟨_, rfl⟩
              have hmn := mids_new HF.out.e (row := row) (fun b => by rw [← hrow]; exact HMEM.out v b) HM.out hvm hmem
              have hln : lack D (insF (outs.getD v []) ((outs.getD v []).countP (· < s)) s) + 1 ≤ lack D (outs.getD v []) :=
                lack_new (by obtain ⟨x, hx, _⟩ := HM.out.ok _ (List.mem_append.2 (.inr (List.mem_singleton.2 rfl))); exact ⟨x, hx⟩) hmem (fun t => insF_mem _ _ _ _)
              have hup := unp_set D gs outs v _ (by rw [HGL.out]; exact hvm) (by rw [HM.out.len]; exact hvm) hln
              have hsh' : ∀ u, u < m → ((outs.set v (insF (outs.getD v []) ((outs.getD v []).countP (· < s)) s)).getD u []).length + (gk - 1) ≤ D.length + T := fun u hu => by
                have h1 := HSH.out u hu
                rw [getD_set' _ _ _ _ _ (by rw [HM.out.len]; exact hvm)]
                split
                · rename_i e; rw [insF_length]; subst e; omega
                · omega
              have hrl := HRL.out v
              rw [hrow] at hup hrl
              obtain ⟨outs', ho'⟩ : ∃ o, outs.set v (insF (outs.getD v []) ((outs.getD v []).countP (· < s)) s) = o := ⟨_, rfl⟩
              rw [ho'] at HR5 hmn hup hsh'
              have HMN := Lib.hid hmn
              have HSH2 := Lib.hid hsh'
              have HUP := Lib.hid hup
              obtain ⟨vsG, rG1, rG2, rG3⟩ := HG.out.out
              have hvG : v < vsG.length := by rw [rG2, HGL.out]; exact hvm
              obtain ⟨bG, oG, _, eG, _, hbG, gG⟩ := rG1.elem (by omega)
              cases eG
              have hbG' : bG < g0 := by have := hG0.out; omega
              obtain ⟨vn, hvn⟩ : ∃ vn, vsG.getD v nilS = vn := ⟨_, rfl⟩
              have fG : w5.cell? ⟨bG, oG + v, none⟩ = some vn := (hB5'.cell (p := ⟨bG, oG + v, none⟩) hbG').trans (gG v vn (by rw [← hvn, List.getD_eq_getElem?_getD, List.getElem?_eq_getElem hvG]; rfl))
              have hrd := rG3 v (by rw [HGL.out]; exact hvm)
              rw [hvn, hrow] at hrd
              obtain ⟨Ar, cr, rfl, hmr⟩ := hrd.form
              have HRD := Lib.hid hrd
              have fx : w5.cell? ⟨wr.heap.size, 0, none⟩ = some (I v) := by rw [hX5.cell]; rfl
              have hvG' : (v : Int) < gs.length := by rw [HGL.out]; omega
              obtain ⟨xb, hxb⟩ : ∃ xb, wr.heap.size = xb := ⟨_, rfl⟩
              rw [hxb] at HX5 fx ⊢
              have hgx : gb < xb := by omega
              have hx5 : xb < w5.heap.size := by omega
              clear hho hmem hmn hln hup hsh' ho' rG1 rG2 rG3 hvG gG hvn hrow hrd hX5 hB hsz hobl HHAS HA1 HX1 HO1 HCW HBB HB1 hs5 hgb2 hxb
              go_wp2
              go_loopw [15, 73] (fun r i wi => ∃ k : Nat, k ≤ row.length ∧ i = .int .i64 k ∧ wi.ownsRow (g0 + 2) 47 2 r (ws.length + k) (pairs (ws ++ (row.take k).map fun b => (b, s))) ∧ (∀ b, r.ownBlock = some b → b ≠ xb) ∧ Arr wi xb 47 [I v, I s] ∧ Arr wi (g0 + 1) 42 [.slice (some ⟨g0, 0, none⟩) m m] ∧ Rows wi g0 vs5 outs' ∧ Below g0 w3 wi ∧ xb < wi.heap.size) (fun _ i _ => row.length - (intOf i).toNat)
              case atStart => exact ⟨0, Nat.zero_le _, rfl, by simpa [Addr.add] using HO5.out, fun b hb => by simp [Value.ownBlock, Addr.add] at hb; omega, HX5.out, HA5.out, HR5.out, hB5', hx5⟩
              case round =>
                clear HO5 HX5 HA5 HR5 hB5' hx5 fx fG
                obtain ⟨k, hk, rfl, hown, hnx, hX, hA, hR, hB, hxw⟩ := hrel
                have HO := Lib.hid hown
                have HNX := Lib.hid hnx
                have HX := Lib.hid hX
                have HA := Lib.hid hA
                have HRW2 := Lib.hid hR
                have fx1 : wr.cell? ⟨xb, 1, none⟩ = some (I s) := by rw [hX.cell]; rfl
                clear hown hnx hX hA hR
                by_cases hlt : k < row.length
                · obtain ⟨b4, o4, _, e4, _, hb4, g4⟩ := HRD.out.elem (by simp; omega)
                  cases e4
                  have f4 : wr.cell? ⟨b4, o4 + k, none⟩ = some (I row[k]) := (hB.cell (p := ⟨b4, o4 + k, none⟩) (by have := hG0.out; show b4 < g0; omega)).trans (g4 k _ (ints_at row k hlt))
                  obtain ⟨y, hy⟩ : ∃ y, row[k] = y := ⟨_, rfl⟩
                  rw [hy] at f4
                  have HYY := Lib.hid hy
                  clear g4 hy
                  go_wp2_with (at_builtin; refine wpl_append1 rfl _ _ _ rfl E24 rfl (HO.out.alloc _) (u := .slice (some ⟨wr.heap.size, 0, none⟩) 1 1) (m := 1) (news := [I y, I s]) rfl (Rd.fresh wr #[I y, I s] 47 1 1 (by omega) (by omega)) rfl (by simp [Value.oneCell']) (by omega) (by omega) (by simp only [maxLen]; omega) (by simp; omega) ?_; intro g' cap' w6 hap)
                  go_roundw
                  case rel =>
                    have hne : ∀ b, u15.ownBlock = some b → g0 + 2 ≤ b ∧ b ≠ xb ∧ ∃ cur, (wr.alloc (.cells #[I y, I s] 47)).heap[b]? = some (.cells cur 47 (0, 0)) := fun b hb => ⟨((HO.out.alloc (.cells #[I y, I s] 47)).lt b hb).1, HNX.out b hb, own_type (HO.out.alloc (.cells #[I y, I s] 47)) hb⟩
                    have hb6 : Below g0 w3 w6 := hap.below (hB.alloc (by omega) _) (HO.out.alloc _) (by omega) (by simp; omega)
                    refine ⟨k + 1, by omega, by go_num, ?_, fun b hb => ?_, (HX.out.alloc _).grown hap.grew (fun e => (hne xb e.symm).2.1 rfl), (HA.out.alloc _).grown hap.grew (fun e => by have := (hne (g0 + 1) e.symm).1; omega), Rows.kept (HRW2.out.alloc _) (fun j hj h => hap.grew.block j hj (fun e => ?_)), hb6, by have := hap.grew.size; simp at this; omega⟩
                    · have := hap.own
                      rw [List.take_succ_eq_append_getElem hlt, List.map_append, ← List.append_assoc, pairs_append, HYY.out]
                      simpa [pairs, Nat.add_assoc] using this
                    · rcases hap.lies with h | h
                      · rw [h] at hb; exact HNX.out b hb
                      · rw [h] at hb; cases hb; simp; omega
                    · obtain ⟨h1, _, cur, h2⟩ := hne j e.symm
                      rcases h with h | ⟨cur', fr, h⟩
                      · omega
                      · rw [h2] at h; cases h
                  case measure => simp [intOf]; omega
                · have hke : k = row.length := by omega
                  subst hke
                  go_wp2
                  go_roundg (gk - 1)
                  case measure => go_light; omega
                  case rel =>
                    have ho := HO.out
                    rw [List.take_length] at ho
                    have hu := HUP.out
                    exact ⟨vs5, outs', ws ++ row.map fun b => (b, s), HA.out, HRW2.out, by simpa using ho, HMN.out, by simp; omega, by omega, HSH2.out, hB⟩
      · have hf' : (fitF n E (firsts D) != 0) = true := ne_t hf
        go_wp2_with (first
          | (go_at_call 23; refine (named_any _ _ _ ⟨_, _, _, rfl⟩ ⟨_, _, _, rfl⟩).mono ?_; rintro e w' ⟨rfl, rfl⟩)
          | (go_at_call 22; refine (fit22_any _ _ _ _ _ E (firsts D) _ C0.out C1.out hx1.out hy1.out).mono ?_; rintro e w1 ⟨rfl, hB1⟩))
        go_ret2
        exact ⟨_, [], rfl, ⟨[], Rd.nil _, rfl, fun i hi => by simp at hi⟩, below_step hB0 hB1 (by simp; omega), fun _ => rfl, fun _ _ h => absurd h hf⟩
end Go.Proofs.Ytcghkemfepnihaa
