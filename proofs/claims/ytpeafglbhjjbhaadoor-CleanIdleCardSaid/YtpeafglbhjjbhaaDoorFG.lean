/- Functions that yield: what they are promised, what they promise, a call of yield. -/
import Derived.Test.YtpeafglbhjjbhaaDoorFF
namespace Go.Proofs.YtpeafglbhjjbhaaDoor
open Go Go.RowKit

/-- What the one who is yielded to holds: it hangs on his blocks, and on those that were there at the start. -/
structure Stb (B : Nat) {σ : Type} (J : σ → World → (Nat → Prop) → (Nat → Prop) → Prop) : Prop where
  st : ∀ s w w' F N N', J s w F N → (∀ k, N k → N' k) → (∀ k, N k → w'.heap[k]? = w.heap[k]?) → w.heap.size ≤ w'.heap.size → w'.os = w.os → w'.tape = w.tape → w'.output = w.output → (∀ k, F k → w'.heap[k]? = w.heap[k]?) → (∀ k, k < B → w'.heap[k]? = w.heap[k]?) → J s w' F N'
def foJ {σ : Type} {J : σ → World → (Nat → Prop) → (Nat → Prop) → Prop} {B : Nat} (h : Stb B J) (s : σ) : Fo := ⟨J s, B, h.st s⟩
/-- What is promised of a call of yield. -/
def YOk (P : Program) (l B : Nat) (N : Nat → Prop) {α σ ρ : Type} (enc : α → List CT) (body : σ → α → Option (Xt σ ρ)) (J : σ → World → (Nat → Prop) → (Nat → Prop) → Prop) (Jx : ρ → World → (Nat → Prop) → (Nat → Prop) → Prop) : Prop :=
  ∀ s y z W F N' vs, body s y = some z → J s W F N' → B ≤ W.heap.size → (∀ k, N' k → k < W.heap.size ∧ ¬ F k) → (∀ k, N k → N' k) → vs.size = (enc y).length → (∀ (j : Nat) c, (enc y)[j]? = some c → RD W N' c (vs.getD j undef)) →
    YieldAt Fence.wide 0 P l vs W fun e W' => ∃ F', Chd F W W' ∧ (∀ k, F' k → (F k ∨ W.heap.size ≤ k) ∧ k < W'.heap.size) ∧
      ((∃ s', z = .go s' ∧ e = .returned (.bool true) ∧ J s' W' F' N') ∨ (∃ r, z = .out r ∧ e = .returned (.bool false) ∧ Jx r W' F' N'))
def YOkP (P : Program) (l : Nat) (N : Nat → Prop) {α σ ρ : Type} (enc : α → List CT) (body : σ → α → Option (Xt σ ρ)) {J : σ → World → (Nat → Prop) → (Nat → Prop) → Prop} {Jx : ρ → World → (Nat → Prop) → (Nat → Prop) → Prop} {B : Nat} (_ : Stb B J) (_ : Stb B Jx) : Prop := YOk P l B N enc body J Jx
def finJ {σ ρ : Type} {J : σ → World → (Nat → Prop) → (Nat → Prop) → Prop} {Jx : ρ → World → (Nat → Prop) → (Nat → Prop) → Prop} {B : Nat} (hJ : Stb B J) (hX : Stb B Jx) (z : Xt σ ρ) : Fo := z.on (foJ hJ) (foJ hX)
/-- A contract of a function that yields. -/
def IC (P : Program) (G : List (Nat × List CT)) (g : FuncId) (caps : List CT) {α : Type} (enc : α → List CT) (it : ∀ (σ ρ : Type), (σ → α → Option (Xt σ ρ)) → σ → Option (Xt σ ρ)) (rd : List (Addr × Value) := []) : Prop :=
  ∀ (σ ρ : Type) (body : σ → α → Option (Xt σ ρ)) (s0 : σ) (z : Xt σ ρ), it σ ρ body s0 = some z → ∀ (l : Nat) (w : World) (N : Nat → Prop) (vs : Array Value) (J : σ → World → (Nat → Prop) → (Nat → Prop) → Prop) (Jx : ρ → World → (Nat → Prop) → (Nat → Prop) → Prop) (F : Nat → Prop),
    (∀ k, N k → k < w.heap.size ∧ ¬ F k) → (∀ k, F k → k < w.heap.size) → vs.size = caps.length → (∀ (j : Nat) c, caps[j]? = some c → RD w N c (vs.getD j undef)) → (∀ p ∈ G, RD w N (.rp p.2 0) (.pointer (some ⟨p.1, 0, none⟩))) →
    Stb w.heap.size J → Stb w.heap.size Jx → YOk P l w.heap.size N enc body J Jx → J s0 w F N → (∀ s W F' N', J s W F' N' → ∀ p ∈ rd, W.cell? p.1 = some p.2) →
    Calls P g (#[Value.func (.yield l) #[] #[]] ++ vs) w fun e w' => (∃ v, e = .returned v) ∧ Chd F w w' ∧ ∃ F' N', (∀ k, F' k → (F k ∨ w.heap.size ≤ k) ∧ k < w'.heap.size) ∧ (∀ k, N' k → (N k ∨ w.heap.size ≤ k ∨ F k) ∧ k < w'.heap.size ∧ ¬ F' k) ∧
      ((∃ s, z = .go s ∧ J s w' F' N') ∨ (∃ r, z = .out r ∧ Jx r w' F' N'))
theorem IC.mk {P : Program} {G : List (Nat × List CT)} {g : FuncId} {fn : Func} {code : Code} {nt : Nat} {caps : List CT} {α : Type} {enc : α → List CT} {it : ∀ (σ ρ : Type), (σ → α → Option (Xt σ ρ)) → σ → Option (Xt σ ρ)} {rd : List (Addr × Value)} (hf : P.funcs[g]? = some fn) (hb : fn.body = some code) (hnt : fn.ntmps = nt) (hres : fn.results = #[]) (hle : Nat.ble (caps.length + 1) nt = true)
    (h : ∀ (σ ρ : Type) (body : σ → α → Option (Xt σ ρ)) (s0 : σ) (z : Xt σ ρ), it σ ρ body s0 = some z → ∀ (w : World) (N F : Nat → Prop) (l : Nat) (J : σ → World → (Nat → Prop) → (Nat → Prop) → Prop) (Jx : ρ → World → (Nat → Prop) → (Nat → Prop) → Prop) (hJ : Stb w.heap.size J) (hX : Stb w.heap.size Jx), YOkP P l N enc body hJ hX → (∀ s W F' N', J s W F' N' → ∀ p ∈ rd, W.cell? p.1 = some p.2) →
      W Fence.wide 0 P ⟨w, F, N, nt, G, []⟩ code ⟨(FS, .fo (foJ hJ s0)) :: (0, .v (.func (.yield l) #[] #[])) :: argsT 1 caps, [], 0⟩ (fun x S => (x = .normal ∨ x = .ret) ∧ S.tm FS = .fo (finJ hJ hX z))) (hnl : Nat.ble nt FS = true := by rfl) : IC P G g caps enc it rd := by
  intro σ ρ body s0 z hz l w N vs J Jx F hN hFw hl hr hG hJ hX hY h0 hrd
  have hle' : caps.length + 1 ≤ nt := Nat.le_of_ble_eq_true hle
  have hnl' : nt ≤ FS := Nat.le_of_ble_eq_true hnl
  refine callsIn_wide.1 (callsIn_of_wp_marks (F := Fence.wide) (n := 0) hf hb trivial ?_ rfl)
  have hsz : (#[Value.func (.yield l) #[] #[]] ++ vs : Array Value).size = caps.length + 1 := by simp [hl]; omega
  have hW := h σ ρ body s0 z hz w N F l J Jx hJ hX hY hrd { tmps := (#[Value.func (.yield l) #[] #[]] ++ vs) ++ Array.replicate (fn.ntmps - (#[Value.func (.yield l) #[] #[]] ++ vs : Array Value).size) undef, defers := [] } w ⟨N, NoR, fun _ _ => False, {
    blk := fun _ _ _ => rfl
    size := Nat.le_refl _
    os := rfl
    tape := rfl
    output := rfl
    n1 := fun k hk => (hN k hk).1
    n0 := fun _ h => h
    n2 := fun _ h => .inl h
    f1 := fun _ _ h => h.elim
    f2 := fun _ _ _ h => h.elim
    u := fun _ h => absurd rfl h
    sz := by simp only [Array.size_append, Array.size_replicate, hnt] at hsz ⊢; simp at hsz ⊢; omega
    pk := fun p hp => nomatch hp
    nl := hnl'
    df := Marks.nil _ _
    fo := fun f hf => by
      have : St.tm ⟨(FS, .fo (foJ hJ s0)) :: (0, .v (.func (.yield l) #[] #[])) :: argsT 1 caps, [], 0⟩ FS = .fo (foJ hJ s0) := lk_same _ _ _ _
      rw [this] at hf
      cases hf
      exact ⟨rfl, F, h0, ⟨Nat.le_refl _, fun _ _ h => h.elim⟩, fun k hk => ⟨hFw k hk, fun hn => (hN k hn).2 hk, .inr hk, fun _ h => h⟩⟩
    gl := hG
    ts := fun t => by
      show HV w N NoR NoB (lk .un ((FS, .fo (foJ hJ s0)) :: (0, .v (.func (.yield l) #[] #[])) :: argsT 1 caps) t) _
      by_cases e : FS = t
      · subst e; rw [lk_same]; exact .fo _ _
      · rw [lk_ne _ _ _ e]
        by_cases e0 : 0 = t
        · subst e0
          rw [lk_same]
          have : ((#[Value.func (.yield l) #[] #[]] ++ vs) ++ Array.replicate (fn.ntmps - (#[Value.func (.yield l) #[] #[]] ++ vs : Array Value).size) undef).getD 0 undef = .func (.yield l) #[] #[] := by
            rw [Array.getD_eq_getD_getElem?, Array.getElem?_append_left (by simp; omega), Array.getElem?_append_left (by simp)]
            rfl
          rw [this]
          exact .v _
        · rw [lk_ne _ _ _ e0, argsT_at]
          have ht1 : 1 ≤ t := by omega
          rw [if_pos ht1]
          cases hc : caps[t - 1]? with
          | none => exact .un _
          | some c =>
            have ht : t - 1 < vs.size := by rw [hl]; exact (List.getElem?_eq_some_iff.1 hc).1
            have := hr (t - 1) c hc
            have e : ((#[Value.func (.yield l) #[] #[]] ++ vs) ++ Array.replicate (fn.ntmps - (#[Value.func (.yield l) #[] #[]] ++ vs : Array Value).size) undef).getD t undef = vs.getD (t - 1) undef := by
              obtain ⟨t', rfl⟩ : ∃ t', t = t' + 1 := ⟨t - 1, by omega⟩
              have ht' : t' < vs.size := by simpa using ht
              have h2 : t' + 1 < (#[Value.func (.yield l) #[] #[]] ++ vs : Array Value).size := by rw [hsz, ← hl]; omega
              simp only [Array.getD_eq_getD_getElem?, Array.getElem?_append_left h2]
              rw [Array.getElem?_append_right (by simp)]
              simp
            rw [e]
            exact rd_argC this
    rs := fun r R h => by cases h }⟩
  refine wpIn_mono hW ?_
  rintro e a w' ⟨S', hR, hx, hret⟩
  have key : LeavesInM Fence.wide 0 P fn a.tmps (fun e w' => (∃ v, e = .returned v) ∧ Chd F w w' ∧ ∃ F' N', (∀ k, F' k → (F k ∨ w.heap.size ≤ k) ∧ k < w'.heap.size) ∧ (∀ k, N' k → (N k ∨ w.heap.size ≤ k ∨ F k) ∧ k < w'.heap.size ∧ ¬ F' k) ∧ ((∃ s, z = .go s ∧ J s w' F' N') ∨ (∃ r, z = .out r ∧ Jx r w' F' N'))) a.defers .returning w' := by
    obtain ⟨N', bs, FP, hI⟩ := hR
    refine hI.leaves fun w2 hI => ⟨.tuple #[], by simp [results, hres], ⟨_, rfl⟩, ⟨hI.size, hI.os, hI.tape, hI.output, fun k hk hF => hI.blk k hk hF⟩, ?_⟩
    obtain ⟨g0, F', g1, g2, g3⟩ := hI.fo _ hret
    refine ⟨F', N', fun k hk => ⟨(g3 k hk).2.2.1.symm, (g3 k hk).1⟩, fun k hk => ⟨hI.n2 k hk, hI.n1 k hk, fun hf => (g3 k hf).2.1 hk⟩, ?_⟩
    cases z with
    | go s => exact .inl ⟨s, rfl, g1⟩
    | out r => exact .inr ⟨r, rfl, g1⟩
  rcases hx with rfl | rfl
  · exact key
  · exact key
section
variable {F : Fence} {n : Nat} {P : Program} {X : Cx} {ops : Array Oper} {anc : List (List Nat)} {pre : List Ent} {i : Nat} {π : List Nat} {o : Oper} {os : List Oper} {t : List (Nat × CT)} {r : List (Nat × Option Root)} {nx : Nat} {d : Nd} {ks : List Nat} {K : St → Prop}
theorem dvY {x y : Nat} {c c' : CT} (h : Sg F n P X ops o t r nx d ks ⟨[(x, c), (y, c')], []⟩) (hK : DvT F n P X ops os ((x, c) :: (y, c') :: t) r (nx + 1) K) : DvT F n P X ops (o :: os) t r nx K := dvt h hK
end
section
variable {P : Program} {X : Cx} {ops : Array Oper} {t : List (Nat × CT)} {r : List (Nat × Option Root)} {nx : Nat} {dst ty : Nat} {pos : String} {af : Array Edge}
/-- A call of yield. -/
theorem l_yield {α σ ρ : Type} {enc : α → List CT} {body : σ → α → Option (Xt σ ρ)} {J : σ → World → (Nat → Prop) → (Nat → Prop) → Prop} {Jx : ρ → World → (Nat → Prop) → (Nat → Prop) → Prop} {hJ : Stb X.w0.heap.size J} {hX : Stb X.w0.heap.size Jx} {l : Nat} {s : σ} (y : α) {z : Xt σ ρ} {x : Operand} {xs : List Operand} {nt : List (Nat × CT)} {nr : List (Nat × Root)} {at_ : Array TypeId}
    (hY : YOkP P l X.N0 enc body hJ hX) (hx : St.ev ⟨t, r, nx⟩ x = .v (.func (.yield l) #[] #[])) (ha : AL ⟨t, r, nx⟩ false xs (enc y) nt nr) (hs : St.tm ⟨t, r, nx⟩ FS = .fo (foJ hJ s)) (hz : body s y = some z) :
    Sg Fence.wide 0 P X ops ⟨some dst, .call { callee := .value x, args := xs.toArray, argTypes := at_ }, ty, pos, af, none⟩ t r nx ⟨needO x (.v (.func (.yield l) #[] #[])) ++ ((FS, .fo (foJ hJ s)) :: nt), nr⟩ [] ⟨[(dst, .v (.bool (z.on (fun _ => true) (fun _ => false)))), (FS, .fo (finJ hJ hX z))], []⟩ := by
  refine ⟨?_, ⟨fun p hp => ?_, ha.ok.r⟩, fun _ h => by cases h⟩
  · intro i hi hdd Q U S a w hd hk hR
    obtain ⟨N, bs, FP, hR⟩ := hR
    have hok : Nd.ok ⟨nt, nr⟩ S := ⟨fun p hp => hd.t p (List.mem_append_right _ (List.mem_cons_of_mem _ hp)), hd.r⟩
    obtain ⟨hlen, hrd⟩ := AL.rd hR ha hok
    have hex : a.eval x = .func (.yield l) #[] #[] := hR.ev_v (ev_again hx fun p hp => hd.t p (List.mem_append_left _ hp))
    have hfs : S.tm FS = .fo (foJ hJ s) := hd.t (FS, .fo (foJ hJ s)) (List.mem_append_right _ List.mem_cons_self)
    obtain ⟨g0, F, g1, ⟨g2, g2'⟩, g3⟩ := hR.fo _ hfs
    have hNl : ∀ q, lent false N FP q → N q := fun q hq => hq.elim id fun h => by cases h.1
    obtain ⟨fn, tmps, asg, bd, hrun, hround⟩ := hY s y z w F N (xs.map a.eval).toArray hz g1 g2 (fun k hk => ⟨hR.n1 k hk, fun hf => (g3 k hf).2.1 hk⟩) hR.n0 (by simp [hlen]) (fun j c hj => by
      have := (hrd j c hj).mono (fun _ _ => rfl) hNl
      simpa using this)
    have hr : (execOp a.eval ⟨some dst, .call { callee := .value x, args := xs.toArray, argTypes := at_ }, ty, pos, af, none⟩).run P w = .ok (.round l fn tmps asg bd) w := by
      have e : execOp a.eval ⟨some dst, .call { callee := .value x, args := xs.toArray, argTypes := at_ }, ty, pos, af, none⟩ = (do let d ← resolve a.eval { callee := .value x, args := xs.toArray, argTypes := at_ } ty; invoke d.target d.args) := rfl
      rw [e]
      have e2 : (resolve a.eval { callee := .value x, args := xs.toArray, argTypes := at_ } ty).run P w = .ok { target := .fn (.yield l) #[], args := (xs.map a.eval).toArray } w := by
        simp only [resolve, hex]
        simp [go_sem]
      rw [Sem.run_bind, e2]
      simpa [Result.andThen, invoke] using hrun
    unfold opWp
    rw [if_pos (wanted_none rfl)]
    refine ⟨fun f _ => trivial, ?_⟩
    rw [Oper.semAt_plain Fence.wide _ _ (by simp), hr]
    refine ⟨fun h => (by cases h), hround.mono ?_⟩
    rintro e w' ⟨F', c1, c2, c3⟩
    have hN : ∀ k, N k → w'.heap[k]? = w.heap[k]? := fun k hk => c1.blk k (hR.n1 k hk) fun hf => (g3 k hf).2.1 hk
    have hn : dst < X.nt := hdd i _ dst hi rfl
    have new : ∀ (b : Bool) (f : Fo), f.Φ w' F' N → f.B = X.w0.heap.size → RelI X U (S.app ⟨[(dst, .v (.bool b)), (FS, .fo f)], []⟩) (a.put (some dst) (.bool b)) w' N bs FP := fun b f hf hB => {
      blk := fun k hk hM => (c1.blk k (Nat.lt_of_lt_of_le hk hR.size) fun hf => (g3 k hf).2.2.1.elim (fun h => by omega) hM).trans (hR.blk k hk hM)
      size := Nat.le_trans hR.size c1.size
      os := c1.os.trans hR.os
      tape := c1.tape.trans hR.tape
      output := c1.output.trans hR.output
      n1 := fun k hk => Nat.lt_of_lt_of_le (hR.n1 k hk) c1.size
      n0 := hR.n0
      n2 := hR.n2
      f1 := fun r k hk => ⟨Nat.lt_of_lt_of_le (hR.f1 r k hk).1 c1.size, (hR.f1 r k hk).2⟩
      f2 := hR.f2
      u := hR.u
      sz := (put_size _ _ _).trans hR.sz
      pk := hR.pk
      nl := hR.nl
      df := by rw [put_defers, g0]; exact Marks.nil _ _
      fo := fun f' hf' => by
        have h1 : (S.app ⟨[(dst, .v (.bool b)), (FS, .fo f)], []⟩).tm FS = .fo f := by
          have : dst ≠ FS := by have := hR.nl; omega
          simp [St.app, St.tm, lk, this]
        rw [h1] at hf'
        cases hf'
        rw [put_defers]
        exact ⟨g0, F', hf, ⟨by rw [hB]; exact Nat.le_trans hR.size c1.size, fun r k hk => by rw [hB]; exact g2' r k hk⟩, fun k hk => by
          obtain ⟨e1, e2⟩ := c2 k hk
          rcases e1 with e1 | e1
          · exact ⟨e2, (g3 k e1).2⟩
          · exact ⟨e2, fun hn => by have := hR.n1 k hn; omega, .inl (Nat.le_trans hR.size e1), fun r hr => by have := (hR.f1 r k hr).1; omega⟩⟩
      gl := fun p hp => (hR.gl p hp).mono hN fun _ h => h
      ts := fun t' => by
        have hold : HV w' N bs NoB (S.tm t') (a.tmps.getD t' undef) := (hR.ts t').frame (fun _ h => h.elim) hN (fun _ h => h) (fun _ _ h => h)
        show HV w' N bs NoB (lk .un ((dst, .v (.bool b)) :: (FS, .fo f) :: S.t) t') _
        rw [put_get a (some dst) _ t' (fun k hk => by cases hk; rw [hR.sz]; exact hn)]
        by_cases e1 : dst = t'
        · subst e1; rw [lk_same, if_pos rfl]; exact .v _
        · rw [lk_ne _ _ _ e1, if_neg (by simpa using e1)]
          by_cases e2 : FS = t'
          · subst e2; rw [lk_same]; exact .fo _ _
          · rw [lk_ne _ _ _ e2]; exact hold
      rs := fun q R hq => by
        obtain ⟨x, hx, hv⟩ := hR.rs q R hq
        exact ⟨x, hx, hv.frame (fun k hk => c1.blk k (hR.f1 q k hk).1 fun hf => (g3 k hf).2.2.2 q hk) hN (fun _ h => h) (fun _ _ h => h)⟩ }
    rcases c3 with ⟨s', rfl, rfl, h3⟩ | ⟨s', rfl, rfl, h3⟩
    · exact ⟨_, rfl, N, bs, FP, (new true (foJ hJ s') h3 rfl).weakU fun _ h => .inl h⟩
    · exact ⟨_, rfl, N, bs, FP, (new false (foJ hX s') h3 rfl).weakU fun _ h => .inl h⟩
  · rcases List.mem_append.1 hp with hp | hp
    · exact need_ok hx p hp
    · rcases List.mem_cons.1 hp with rfl | hp
      · exact hs
      · exact ha.ok.t p hp
end
end Go.Proofs.YtpeafglbhjjbhaaDoor

