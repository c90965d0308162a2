/- A function is the same as itself; what isn't great. -/
import Derived.Test.YtbebdcpakjfgdaaDoorGF
namespace Go.Proofs.YtbebdcpakjfgdaaDoor
open Go Go.RowKit

theorem ints_self {l : List Int} (h : l.length ≤ 400) : p_R04_Ints l l = some true := by
  unfold p_R04_Ints
  simp only [decide_true, cond_true]
  rw [loop_at (s := 0) (fun i => i) l.length (.go ()) rfl (fun i hi => ?_) (by simp) (by omega)]
  · rfl
  · simp [hi]
theorem sameEnd_self {e : MEnd} (hL : e.L.length ≤ 400) (hM : e.M.length ≤ 400) : p_R05_sameEnd e e = some true := by
  obtain ⟨g1, g2⟩ := plE_sz hL hM
  unfold p_R05_sameEnd
  simp only [endR_eq hL hM, Option.bind_some, ints_self g1, ints_self g2, decide_true, cond_true]
theorem same_self {o : MOp} (h : o.L.length ≤ 400) : p_R04_Same o o = some true := by
  unfold p_R04_Same
  simp only [plainR_eq h, Option.bind_some, ints_self (plO_L h), decide_true, cond_true, beq_self_eq_true]
theorem sameFunc_self {f : MFun} (h : SzF f) : p_R05_SameFunc f f = some true := by
  unfold p_R05_SameFunc
  simp only [decide_true, cond_true, Bool.not_true, Option.bind_some, cond_false]
  have hb := h.b
  rw [loop_at (s := 0) (fun i => i) f.Blocks.length (.go ()) rfl (fun i hi => ?_) (by simp) (by omega)]
  · rfl
  · have hx : f.Blocks[i]? = some f.Blocks[i] := List.getElem?_eq_getElem hi
    have hm := h.bs _ (List.getElem_mem hi)
    have ho := hm.o
    simp only [hi, decide_true, cond_true, hx, Option.bind_some, ints_self hm.p, sameEnd_self hm.l hm.m, Bool.not_true, cond_false]
    rw [loop_at (s := 0) (fun i => i) (f.Blocks[i]).Ops.length (.go ()) rfl (fun k hk => ?_) (by simp) (by omega)]
    · rfl
    · have hok : (f.Blocks[i]).Ops[k]? = some (f.Blocks[i]).Ops[k] := List.getElem?_eq_getElem hk
      simp only [hk, decide_true, cond_true, hok, Option.bind_some, same_self (hm.os _ (List.getElem_mem hk))]
theorem wrap_small {i : Int} (h0 : 0 ≤ i) (h1 : i < 9223372036854775808) : IntKind.i64.wrap i = i := by
  have := wrap_nat (n := i.toNat) (by omega)
  rwa [Int.toNat_of_nonneg h0] at this
/-- A sum, till it's great. -/
theorem loop_acc {α : Type} (l : List α) (a1 : Int) {body : Int × Int → Option (Xt (Int × Int) Int)} (P : α → Prop)
    (h1 : ∀ (i : Nat) x (s : Int), l[i]? = some x → i < l.length → x ∈ l → 0 ≤ s → s ≤ a1 → ∃ s', body (s, (i : Int)) = some (.go (s', ((i + 1 : Nat) : Int))) ∧ s ≤ s' ∧ (s' ≤ a1 → P x))
    (h2 : ∀ (i : Nat) (s : Int), i ≤ l.length → (i = l.length ∨ a1 < s) → body (s, (i : Int)) = some (.out s)) (hq : l.length < 18446744073709551616) (s0 : Int) (hs : 0 ≤ s0) : ∃ r, loop body Fu (s0, 0) = some r ∧ s0 ≤ r ∧ (r ≤ a1 → ∀ x ∈ l, P x) := by
  have key : ∀ (n i : Nat) (s : Int), i ≤ l.length → l.length - i < n → 0 ≤ s → ∃ r, loop body n (s, (i : Int)) = some r ∧ s ≤ r ∧ (r ≤ a1 → ∀ x ∈ l.drop i, P x) := by
    intro n
    induction n with
    | zero => intro i s _ h; omega
    | succ n ih =>
      intro i s hi hn hs
      rw [loop_succ]
      by_cases e : i = l.length ∨ a1 < s
      · rw [h2 i s hi e]
        refine ⟨s, rfl, Int.le_refl _, fun hr x hx => ?_⟩
        rcases e with rfl | e
        · simp at hx
        · omega
      · have hil : i < l.length := by omega
        obtain ⟨s', e1, e2, e3⟩ := h1 i l[i] s (List.getElem?_eq_getElem hil) hil (List.getElem_mem hil) hs (by omega)
        rw [e1]
        obtain ⟨r, f1, f2, f3⟩ := ih (i + 1) s' hil (by omega) (by omega)
        refine ⟨r, f1, by omega, fun hr x hx => ?_⟩
        rw [List.drop_eq_getElem_cons hil] at hx
        rcases List.mem_cons.1 hx with rfl | hx
        · exact e3 (by omega)
        · exact f3 hr x hx
  obtain ⟨r, e1, e2, e3⟩ := key Fu 0 s0 (Nat.zero_le _) (by unfold Fu; omega) hs
  exact ⟨r, e1, e2, by simpa using e3⟩
structure LimB (b : MBlk) : Prop where
  p : b.Params.length ≤ 17592186044416
  o : b.Ops.length ≤ 17592186044416
  l : b.End.L.length ≤ 17592186044416
  m : b.End.M.length ≤ 17592186044416
  os : ∀ o ∈ b.Ops, o.L.length ≤ 17592186044416 ∧ o.S.size ≤ 140737488355328
structure LimF (f : MFun) : Prop where
  b : f.Blocks.length ≤ 17592186044416
  bs : ∀ b ∈ f.Blocks, LimB b
structure LimP (p : MPrg) : Prop where
  s : p.Sigs.length ≤ 17592186044416
  c : p.Classes.length ≤ 17592186044416
  f : p.Funcs.length ≤ 17592186044416
  ss : ∀ s ∈ p.Sigs, s.Params.length ≤ 17592186044416
  cs : ∀ c ∈ p.Classes, c.Fields.length ≤ 17592186044416 ∧ c.Methods.length ≤ 17592186044416
  fs : ∀ f ∈ p.Funcs, LimF f
theorem grd_t {n : Int} {i q : Nat} {a1 : Int} (hi : i < q) (hn : n ≤ a1) : (bif decide (((i : Nat) : Int) < ((q : Nat) : Int)) then some (decide (n ≤ a1)) else some false) = some true := by
  have : ((i : Nat) : Int) < ((q : Nat) : Int) := by omega
  simp [this, hn]
theorem grd_f {n : Int} {i q : Nat} {a1 : Int} (h : i = q ∨ a1 < n) (hi : i ≤ q) : (bif decide (((i : Nat) : Int) < ((q : Nat) : Int)) then some (decide (n ≤ a1)) else some false) = some false := by
  rcases h with rfl | h
  · simp
  · have hn : ¬ n ≤ a1 := by omega
    by_cases e : ((i : Nat) : Int) < ((q : Nat) : Int) <;> simp [e, hn]
theorem smallOps (x : MBlk) (hx : LimB x) (s0 : Int) (hs : 0 ≤ s0) : ∃ r, loop (fun (s15061 : Int × Int) => (((bif decide (s15061.2 < ((x.Ops.length : Nat) : Int)) then some (decide (s15061.1 ≤ 400)) else some false)).bind fun (s15066 : Bool) => (bif s15066 then ((atI x.Ops s15061.2).bind fun x15070 => some (Xt.go (IntKind.i64.wrap (IntKind.i64.wrap (s15061.1 + ((x15070.L.length : Nat) : Int)) + IntKind.i64.wrap (Int.tdiv ((x15070.S.size : Nat) : Int) 8)), IntKind.i64.wrap (s15061.2 + 1)))) else some (Xt.out s15061.1)))) Fu (s0, 0) = some r ∧ s0 ≤ r ∧ (r ≤ 400 → ∀ o ∈ x.Ops, o.L.length ≤ 400) := by
  have ho := hx.o
  refine loop_acc x.Ops 400 (fun o => o.L.length ≤ 400) (fun i o s hio hi hm h0 h1 => ?_) (fun i s hi h => ?_) (by omega) s0 hs
  · obtain ⟨g1, g2⟩ := hx.os o hm
    have hd0 : 0 ≤ Int.tdiv ((o.S.size : Nat) : Int) 8 := Int.tdiv_nonneg (by omega) (by omega)
    have hd1 : Int.tdiv ((o.S.size : Nat) : Int) 8 ≤ ((o.S.size : Nat) : Int) := by
      rw [Int.tdiv_eq_ediv_of_nonneg (by omega)]
      omega
    simp only [grd_t hi h1, Option.bind_some, cond_true, atI_nat, hio, wrap_inc (show i < 9223372036854775807 by omega)]
    rw [wrap_small hd0 (by omega), wrap_small (i := s + _) (by omega) (by omega), wrap_small (by omega) (by omega)]
    exact ⟨_, rfl, by omega, fun h => by omega⟩
  · simp only [grd_f h hi, Option.bind_some, cond_false]
theorem smallBlks (f : MFun) (hf : LimF f) (s0 : Int) (hs : 0 ≤ s0) : ∃ r, loop (fun (s12047 : Int × Int) => (((bif decide (s12047.2 < ((f.Blocks.length : Nat) : Int)) then some (decide (s12047.1 ≤ 400)) else some false)).bind fun (s12052 : Bool) => (bif s12052 then ((((atI f.Blocks s12047.2).bind fun x12059 => (loop (fun (s15061 : Int × Int) => (((bif decide (s15061.2 < ((x12059.Ops.length : Nat) : Int)) then some (decide (s15061.1 ≤ 400)) else some false)).bind fun (s15066 : Bool) => (bif s15066 then ((atI x12059.Ops s15061.2).bind fun x15070 => some (Xt.go (IntKind.i64.wrap (IntKind.i64.wrap (s15061.1 + ((x15070.L.length : Nat) : Int)) + IntKind.i64.wrap (Int.tdiv ((x15070.S.size : Nat) : Int) 8)), IntKind.i64.wrap (s15061.2 + 1)))) else some (Xt.out s15061.1)))) Fu (IntKind.i64.wrap (IntKind.i64.wrap (IntKind.i64.wrap (IntKind.i64.wrap (s12047.1 + ((x12059.Params.length : Nat) : Int)) + ((x12059.Ops.length : Nat) : Int)) + ((x12059.End.L.length : Nat) : Int)) + ((x12059.End.M.length : Nat) : Int)), 0)))).bind fun (s12057 : Int) => some (Xt.go (s12057, IntKind.i64.wrap (s12047.2 + 1)))) else some (Xt.out s12047.1)))) Fu (s0, 0) = some r ∧ s0 ≤ r ∧ (r ≤ 400 → ∀ b ∈ f.Blocks, SzB b) := by
  have hb := hf.b
  refine loop_acc f.Blocks 400 SzB (fun i x s hix hi hm h0 h1 => ?_) (fun i s hi h => ?_) (by omega) s0 hs
  · have hl := hf.bs x hm
    have g1 := hl.p
    have g2 := hl.o
    have g3 := hl.l
    have g4 := hl.m
    simp only [grd_t hi h1, Option.bind_some, cond_true, atI_nat, hix, wrap_inc (show i < 9223372036854775807 by omega)]
    rw [wrap_small (i := s + _) (by omega) (by omega), wrap_small (i := s + _ + _) (by omega) (by omega), wrap_small (i := s + _ + _ + _) (by omega) (by omega), wrap_small (by omega) (by omega)]
    obtain ⟨r, e1, e2, e3⟩ := smallOps x hl (s + ((x.Params.length : Nat) : Int) + ((x.Ops.length : Nat) : Int) + ((x.End.L.length : Nat) : Int) + ((x.End.M.length : Nat) : Int)) (by omega)
    rw [e1]
    exact ⟨r, rfl, by omega, fun h => ⟨by omega, by omega, by omega, by omega, e3 h⟩⟩
  · simp only [grd_f h hi, Option.bind_some, cond_false]
theorem small_eq (p : MPrg) (hp : LimP p) : ∃ b, p_R05_Small (some p) 400 = some b ∧ (b = true → ∀ f ∈ p.Funcs, SzF f) := by
  have q1 := hp.s
  have q2 := hp.c
  have q3 := hp.f
  unfold p_R05_Small optC
  simp only
  rw [wrap_small (i := ((p.Sigs.length : Nat) : Int) + _) (by omega) (by omega), wrap_small (by omega) (by omega)]
  obtain ⟨r1, e1, e2, _⟩ := loop_acc p.Sigs 400 (body := (fun (s3005 : Int × Int) => (((bif decide (s3005.2 < ((p.Sigs.length : Nat) : Int)) then some (decide (s3005.1 ≤ 400)) else some false)).bind fun (s3010 : Bool) => (bif s3010 then ((atI p.Sigs s3005.2).bind fun x3014 => some (Xt.go (IntKind.i64.wrap (s3005.1 + ((x3014.Params.length : Nat) : Int)), IntKind.i64.wrap (s3005.2 + 1)))) else some (Xt.out s3005.1))))) (fun _ => True) (fun i x s hix hi hm h0 h1 => by
    have g1 := hp.ss x hm
    simp only [grd_t hi h1, Option.bind_some, cond_true, atI_nat, hix, wrap_inc (show i < 9223372036854775807 by omega)]
    rw [wrap_small (by omega) (by omega)]
    exact ⟨_, rfl, by omega, fun _ => trivial⟩) (fun i s hi h => by simp only [grd_f h hi, Option.bind_some, cond_false]) (by omega) (((p.Sigs.length : Nat) : Int) + ((p.Classes.length : Nat) : Int) + ((p.Funcs.length : Nat) : Int)) (by omega)
  rw [e1]
  simp only [Option.bind_some]
  obtain ⟨r2, f1, f2, _⟩ := loop_acc p.Classes 400 (body := (fun (s6019 : Int × Int) => (((bif decide (s6019.2 < ((p.Classes.length : Nat) : Int)) then some (decide (s6019.1 ≤ 400)) else some false)).bind fun (s6024 : Bool) => (bif s6024 then ((atI p.Classes s6019.2).bind fun x6028 => some (Xt.go (IntKind.i64.wrap (IntKind.i64.wrap (s6019.1 + ((x6028.Fields.length : Nat) : Int)) + ((x6028.Methods.length : Nat) : Int)), IntKind.i64.wrap (s6019.2 + 1)))) else some (Xt.out s6019.1))))) (fun _ => True) (fun i x s hix hi hm h0 h1 => by
    obtain ⟨g1, g2⟩ := hp.cs x hm
    simp only [grd_t hi h1, Option.bind_some, cond_true, atI_nat, hix, wrap_inc (show i < 9223372036854775807 by omega)]
    rw [wrap_small (i := s + _) (by omega) (by omega), wrap_small (by omega) (by omega)]
    exact ⟨_, rfl, by omega, fun _ => trivial⟩) (fun i s hi h => by simp only [grd_f h hi, Option.bind_some, cond_false]) (by omega) r1 (by omega)
  rw [f1]
  simp only [Option.bind_some]
  obtain ⟨r3, k1, k2, k3⟩ := loop_acc p.Funcs 400 (body := (fun (s9033 : Int × Int) => (((bif decide (s9033.2 < ((p.Funcs.length : Nat) : Int)) then some (decide (s9033.1 ≤ 400)) else some false)).bind fun (s9038 : Bool) => (bif s9038 then ((((atI p.Funcs s9033.2).bind fun x9045 => (loop (fun (s12047 : Int × Int) => (((bif decide (s12047.2 < ((x9045.Blocks.length : Nat) : Int)) then some (decide (s12047.1 ≤ 400)) else some false)).bind fun (s12052 : Bool) => (bif s12052 then ((((atI x9045.Blocks s12047.2).bind fun x12059 => (loop (fun (s15061 : Int × Int) => (((bif decide (s15061.2 < ((x12059.Ops.length : Nat) : Int)) then some (decide (s15061.1 ≤ 400)) else some false)).bind fun (s15066 : Bool) => (bif s15066 then ((atI x12059.Ops s15061.2).bind fun x15070 => some (Xt.go (IntKind.i64.wrap (IntKind.i64.wrap (s15061.1 + ((x15070.L.length : Nat) : Int)) + IntKind.i64.wrap (Int.tdiv ((x15070.S.size : Nat) : Int) 8)), IntKind.i64.wrap (s15061.2 + 1)))) else some (Xt.out s15061.1)))) Fu (IntKind.i64.wrap (IntKind.i64.wrap (IntKind.i64.wrap (IntKind.i64.wrap (s12047.1 + ((x12059.Params.length : Nat) : Int)) + ((x12059.Ops.length : Nat) : Int)) + ((x12059.End.L.length : Nat) : Int)) + ((x12059.End.M.length : Nat) : Int)), 0)))).bind fun (s12057 : Int) => some (Xt.go (s12057, IntKind.i64.wrap (s12047.2 + 1)))) else some (Xt.out s12047.1)))) Fu (IntKind.i64.wrap (s9033.1 + ((x9045.Blocks.length : Nat) : Int)), 0)))).bind fun (s9043 : Int) => some (Xt.go (s9043, IntKind.i64.wrap (s9033.2 + 1)))) else some (Xt.out s9033.1))))) SzF (fun i x s hix hi hm h0 h1 => by
    have hl := hp.fs x hm
    have g1 := hl.b
    simp only [grd_t hi h1, Option.bind_some, cond_true, atI_nat, hix, wrap_inc (show i < 9223372036854775807 by omega)]
    rw [wrap_small (by omega) (by omega)]
    obtain ⟨r, e1, e2, e3⟩ := smallBlks x hl (s + ((x.Blocks.length : Nat) : Int)) (by omega)
    rw [e1]
    exact ⟨r, rfl, by omega, fun h => ⟨by omega, e3 h⟩⟩) (fun i s hi h => by simp only [grd_f h hi, Option.bind_some, cond_false]) (by omega) r2 (by omega)
  rw [k1]
  exact ⟨_, rfl, fun h => k3 (by simpa using h)⟩
theorem fun_eq (p : MPrg) (n : Int) (hp : LimP p) (hn : 0 ≤ n) (hn2 : n < 256) : ∃ f b, p_L16_fun (some p) n = some (f, b) ∧ (b = true → SzF f ∧ f ∈ p.Funcs) := by
  unfold p_L16_fun optC
  simp only
  obtain ⟨b, e1, e2⟩ := small_eq p hp
  rw [e1]
  have q3 := hp.f
  by_cases h0 : ((p.Funcs.length : Nat) : Int) = 0
  · exact ⟨⟨0, []⟩, false, by simp [h0], fun h => by cases h⟩
  · cases b with
    | false => exact ⟨⟨0, []⟩, false, by simp [h0], fun h => by cases h⟩
    | true =>
      have hm0 : 0 ≤ Int.tmod n ((p.Funcs.length : Nat) : Int) := Int.tmod_nonneg _ hn
      have hm1 : Int.tmod n ((p.Funcs.length : Nat) : Int) < ((p.Funcs.length : Nat) : Int) := by
        rw [Int.tmod_eq_emod_of_nonneg hn]
        exact Int.emod_lt_of_pos _ (by omega)
      have hl : (Int.tmod n ((p.Funcs.length : Nat) : Int)).toNat < p.Funcs.length := by omega
      have hat : atI p.Funcs (Int.tmod n ((p.Funcs.length : Nat) : Int)) = some p.Funcs[(Int.tmod n ((p.Funcs.length : Nat) : Int)).toNat] := by
        unfold atI
        rw [if_pos hm0]
        exact List.getElem?_eq_getElem hl
      refine ⟨_, true, ?_, fun _ => ⟨e2 rfl _ (List.getElem_mem hl), List.getElem_mem hl⟩⟩
      rw [wrap_small hn (by omega), hat]
      have hne : ¬ p.Funcs = [] := fun e => h0 (by rw [e]; rfl)
      simp [hne, ck]
set_option maxRecDepth 100000 in
/-- The small living call. -/
theorem lives_true : p_L16_lives = some true := by decide +kernel
/-- The law of other names, in plain terms. -/
theorem renames_plain (p : MPrg) (n : Int) (to : List Int) (hp : LimP p) (hn : 0 ≤ n) (hn2 : n < 256) (ht : to.length ≤ 17592186044416) : p_L16_TidyRenames p n to = some true := by
  unfold p_L16_TidyRenames
  obtain ⟨f, b, e1, e2⟩ := fun_eq p n hp hn hn2
  rw [e1]
  cases b with
  | false => simp [lives_true]
  | true =>
    obtain ⟨hs, _⟩ := e2 rfl
    have hre : SzF ⟨f.Ret, (plF f).Blocks.map (reB f.Ret to)⟩ := by
      have hF := plF_sz hs
      refine ⟨by simpa using hF.b, fun b hb => ?_⟩
      obtain ⟨b', h1, rfl⟩ := List.mem_map.1 hb
      have hb' := hF.bs b' h1
      refine ⟨hb'.p, by simpa [reB] using hb'.o, bif_len (by simpa using hb'.l) hb'.l, bif_len (by simpa using hb'.m) hb'.m, fun o ho => ?_⟩
      obtain ⟨o', h2, rfl⟩ := List.mem_map.1 ho
      have := plO_L (hb'.os o' h2)
      exact bif_len (by simpa using this) this
    simp only [Option.bind_some, cond_true, renamedP_eq to hs, renamedR_eq to hs, sameFunc_self hre, lives_true]
    rw [ck_t (by omega)]
    rfl
end Go.Proofs.YtbebdcpakjfgdaaDoor
