/- Deep words, five and twentieth part: equality of what is no whole number; nil. -/
import Derived.Test.YtpeafglbhjjbhaaDoorDX
namespace Go.Proofs.YtpeafglbhjjbhaaDoor
open Go Go.RowKit

def ptrB (P : Program) (T : Nat) : Bool := match P.underlying T with
  | some (.pointer _) => true
  | _ => false
theorem ptrB_ok {P : Program} {T : Nat} (h : ptrB P T = true) : ∃ e, P.underlying T = some (.pointer e) := by
  unfold ptrB at h
  split at h
  · rename_i e he; exact ⟨e, he⟩
  · cases h
section
variable {F : Fence} {n : Nat} {P : Program} {X : Cx} {ops : Array Oper} {t : List (Nat × CT)} {r : List (Nat × Option Root)} {nx : Nat} [hF : Wd F] {dst ty : Nat} {pos : String} {af : Array Edge}
theorem eqG {b : BinOp} {T : Nat} {x y : Operand} {u v : Value} (h : (match u, v with | .nilIface, .nilIface => false | .agg _, .agg _ => false | _, _ => true) = true) (w : World) : (eqGuard b T x y u v).run P w = .ok () w := by
  unfold eqGuard
  cases b <;> first | rfl | (cases u <;> cases v <;> first | rfl | cases h)
theorem run_eqNil {T e : Nat} {A : Option Addr} {m c : Nat} (hT : P.underlying T = some (.slice e)) (w : World) : (binOp .eql T (.slice A m c) (.slice none 0 0)).run P w = .ok (.bool A.isNone) w := by
  have e1 : ∀ d, (Op.equalIn (d + 1) T (.slice A m c) (.slice none 0 0)).run P w = .ok A.isNone w := fun d => by cases A <;> simp [Op.equalIn, run_underlying hT]
  have : (Op.equal T (.slice A m c) (.slice none 0 0)).run P w = .ok A.isNone w := e1 9999
  simp [binOp, this]
omit hF in
/-- A call that is wanted. -/
theorem l_gTC {op : Op} {j g : Nat} {oj : Oper} {b : Bool} {o0 : Option Nat} {d : Nd} {ks : List Nat} {post : CT → Prop} (hj : ops[j]? = some oj) (hjd : oj.dst = some g) (hg : St.tm ⟨t, r, nx⟩ g = .v (.bool b)) (h : ∀ ops', SgC F n P X ops' ⟨o0, op, ty, pos, af, none⟩ t r nx d ks dst post) :
    SgC F n P X ops ⟨o0, op, ty, pos, af, some (j, b)⟩ t r nx ⟨(g, .v (.bool b)) :: d.t, d.r⟩ ks dst post :=
  ⟨OpL.wanted hj hjd fun ops' => (h ops').1, ⟨fun p hp => by
    rcases List.mem_cons.1 hp with rfl | hp
    · exact hg
    · exact (h ops).2.1.t p hp, (h ops).2.1.r⟩, (h ops).2.2⟩
/-- A slice that is read, is it nil? -/
theorem l_nilRoS {T T2 e sz e' : Nat} {els : List (List CT)} {x : Operand} (hT : SlI P T e sz) (hx : St.ev ⟨t, r, nx⟩ x = .ro (.sl e' sz els)) :
    OpL F n P X ops ⟨some dst, .binOp .eql T x (.const (.slice none 0 0)) T2, ty, pos, af, none⟩ ⟨needO x (.ro (.sl e' sz els)), []⟩ [] (fun E => ∃ b, (b = true → els = []) ∧ E = ⟨[(dst, .v (.bool b))], []⟩) ∧ Nd.ok ⟨needO x (.ro (.sl e' sz els)), []⟩ ⟨t, r, nx⟩ := by
  refine ⟨?_, need_ok hx, fun p hp => by cases hp⟩
  intro i hi hdd Q U S a w hd' hk hR
  have hn := fun k => hdd i _ k hi
  obtain ⟨N, bs, FP, hR⟩ := hR
  have h1 := hR.ev x
  rw [ev_again hx hd'.t] at h1
  have h2 := h1.out_ro
  generalize he : a.eval x = u at h2
  cases h2 with
  | sl A b off m cap us hn' hA hc hm hz hw h1 hr =>
    have hrun : (execOp a.eval ⟨some dst, .binOp .eql T x (.const (.slice none 0 0)) T2, ty, pos, af, none⟩).run P w = .ok (.value (.bool A.isNone)) w := by
      have e2 : a.eval (.const (.slice none 0 0)) = .slice none 0 0 := rfl
      simp [execOp, he, e2, eqG (P := P) (b := .eql) (T := T) (x := x) (y := .const (.slice none 0 0)) (u := .slice A m cap) (v := .slice none 0 0) rfl, run_eqNil hT.u]
    refine opWp_value rfl (by simp) hrun ⟨_, ⟨A.isNone, fun hb => ?_, rfl⟩, N, bs, FP, (hR.quiet (d := some dst) hn (.v _)).weakU fun _ h => .inl h⟩
    cases els with
    | nil => rfl
    | cons es els => have := (hA (by simp)).1; rw [this] at hb; cases hb
omit hF in
/-- A test that isn't known. -/
theorem dvB {o : Oper} {os : List Oper} {d : Nd} {p : Prop} {K : St → Prop} (h : OpL F n P X ops o d [] (fun E => ∃ b, (b = true → p) ∧ E = ⟨[(dst, .v (.bool b))], []⟩) ∧ d.ok ⟨t, r, nx⟩) (hK : ∀ b, (b = true → p) → DvT F n P X ops os ((dst, .v (.bool b)) :: t) r (nx + 1) K) : DvT F n P X ops (o :: os) t r nx K :=
  ⟨t, r, nx, fun _ _ h => h, d, [], _, h.1, h.2, (fun _ h => nomatch h), by rintro E ⟨b, hb, rfl⟩; exact hK b hb⟩
theorem run_eqP {T : Nat} {A : Option Addr} (hT : ptrB P T = true) (w : World) : (binOp .eql T (.pointer A) (.pointer none)).run P w = .ok (.bool A.isNone) w := by
  obtain ⟨e, hT⟩ := ptrB_ok hT
  have e1 : ∀ d, (Op.equalIn (d + 1) T (.pointer A) (.pointer none)).run P w = .ok A.isNone w := fun d => by cases A <;> simp [Op.equalIn, run_underlying hT]
  have : (Op.equal T (.pointer A) (.pointer none)).run P w = .ok A.isNone w := e1 9999
  simp [binOp, this]
/-- A pointer that is there isn't nil. -/
theorem l_ptrRo {T T2 o : Nat} {els : List CT} {x : Operand} (hT : ptrB P T = true) (hx : St.ev ⟨t, r, nx⟩ x = .ro (.rp els o)) :
    Sg F n P X ops ⟨some dst, .binOp .eql T x (.const (.pointer none)) T2, ty, pos, af, none⟩ t r nx ⟨needO x (.ro (.rp els o)), []⟩ [] ⟨[(dst, .v (.bool false))], []⟩ :=
  sg_q (by simp) ⟨need_ok hx, fun p hp => by cases hp⟩ fun U S a w N bs FP hd hR => by
    have h1 := hR.ev x
    rw [ev_again hx hd.t] at h1
    have h2 := h1.out_ro
    generalize he : a.eval x = u at h2
    cases h2 with
    | rp b off us hN hw hr =>
      have e2 : a.eval (.const (.pointer none)) = .pointer none := rfl
      exact ⟨.bool false, by simp [execOp, he, e2, eqG (P := P) (b := .eql) (T := T) (x := x) (y := .const (.pointer none)) (u := .pointer (some ⟨b, off + o, none⟩)) (v := .pointer none) rfl, run_eqP hT], .v _⟩
theorem l_ptrAd {T T2 k sz i o : Nat} {x : Operand} (hT : ptrB P T = true) (hx : St.ev ⟨t, r, nx⟩ x = .ad k sz i o) :
    Sg F n P X ops ⟨some dst, .binOp .eql T x (.const (.pointer none)) T2, ty, pos, af, none⟩ t r nx ⟨needO x (.ad k sz i o), []⟩ [] ⟨[(dst, .v (.bool false))], []⟩ :=
  sg_q (by simp) ⟨need_ok hx, fun p hp => by cases hp⟩ fun U S a w N bs FP hd hR => by
    obtain ⟨g, off, cap, hb, he⟩ := hR.ev_ad (ev_again hx hd.t)
    have e2 : a.eval (.const (.pointer none)) = .pointer none := rfl
    exact ⟨.bool false, by simp [execOp, he, e2, eqG (P := P) (b := .eql) (T := T) (x := x) (y := .const (.pointer none)) (u := .pointer (some ⟨g, off + (i * sz + o), none⟩)) (v := .pointer none) rfl, run_eqP hT], .v _⟩
end
end Go.Proofs.YtpeafglbhjjbhaaDoor

