/- More steps for printed walks: pointers, lists that are made, joined and cut, tests that aren't known. -/
import Derived.Test.YtpeafglbhjjbhaaDoorFA
namespace Go.Proofs.YtpeafglbhjjbhaaDoor
open Go Go.RowKit

def optC {α β : Type} (o : Option α) (a : Option β) (f : α → Option β) : Option β := match o with
  | none => a
  | some x => f x
theorem optN {α β : Type} {a : Option β} {f : α → Option β} {r : Option β} (h : optC none a f = r) : a = r := h
theorem optS {α β : Type} {a : Option β} {f : α → Option β} {r : Option β} {x : α} (h : optC (some x) a f = r) : f x = r := h
/-- A pointer, as it is read. -/
def ptC {α : Type} (f : α → List CT) : Option α → CT
  | none => .v (.pointer none)
  | some x => .rp (f x) 0
/-- A pointer, as it is told. -/
def opC {α : Type} (e sz : Nat) (f : α → List CT) : Option α → CT
  | none => .v (.pointer none)
  | some x => .op e sz (f x)
/-- Nobody knows whether an empty list is nil: both ways must say the same. -/
def nilC {α β : Type} [DecidableEq β] (l : List α) (A B : Option β) : Option β := if h0 : l.isEmpty then (if A = B then B else none) else B
theorem nilE {α β : Type} [DecidableEq β] {l : List α} {A B : Option β} {r : β} (h : nilC l A B = some r) : (l = [] → A = some r) ∧ B = some r := by
  unfold nilC at h
  split at h
  · split at h
    · rename_i e
      exact ⟨fun _ => e ▸ h, h⟩
    · cases h
  · rename_i h0
    exact ⟨fun e => absurd (by rw [e]; rfl) h0, h⟩
theorem nil_of {α β : Type} {f : α → β} {l : List α} (h : l.map f = []) : l = [] := List.map_eq_nil_iff.1 h
def natI (i : Int) : Option Nat := if 0 ≤ i then some i.toNat else none
theorem natI_z {i : Int} {m : Nat} (h : natI i = some m) : i = (m : Int) := by
  unfold natI at h
  split at h
  · cases h; omega
  · cases h
def strI (s : ByteArray) (i : Int) : Option UInt8 := if 0 ≤ i then s[i.toNat]? else none
theorem strI_z {s : ByteArray} {i : Int} {x : UInt8} (h : strI s i = some x) : i = ((i.toNat : Nat) : Int) := by
  unfold strI at h
  split at h
  · omega
  · cases h
theorem strI_at {s : ByteArray} {i : Int} {x : UInt8} (h : strI s i = some x) : s[i.toNat]? = some x := by
  unfold strI at h
  split at h
  · exact h
  · cases h
def takeN {α : Type} (l : List α) (a b : Nat) : List α := (l.drop a).take (b - a)
theorem map_takeN {α β : Type} (f : α → β) (l : List α) (a b : Nat) : ((l.map f).drop a).take (b - a) = (takeN l a b).map f := by simp [takeN]
theorem ro_map {α : Type} {f : α → List CT} (h : ∀ x, (f x).map roC = f x) (l : List α) : (l.map f).map (List.map roC) = l.map f := by rw [List.map_map]; exact List.map_congr_left fun x _ => h x
theorem cp_map {α : Type} {f : α → List CT} (h : ∀ x, (f x).all CT.cp = true) (l : List α) : ∀ es ∈ l.map f, ∀ c ∈ es, c.cp = true := fun es he c hc => by
  obtain ⟨x, _, rfl⟩ := List.mem_map.1 he
  exact List.all_eq_true.1 (h x) c hc
theorem all_take {α : Type} (l : List α) : (l.drop 0).take l.length = l := by simp
theorem len_snoc {α β : Type} {f : α → β} {l : List α} {c : β} : (l.map f ++ [c]).length = l.length + 1 := by simp
theorem cl0 {b : Bool} : ∀ c ∈ ([] : List CT), Cl b c := fun _ h => nomatch h
theorem cl1 {b : Bool} {c : CT} {l : List CT} (h : Cl b c) (k : ∀ c ∈ l, Cl b c) : ∀ c' ∈ c :: l, Cl b c' := fun c' hc => by
  rcases List.mem_cons.1 hc with rfl | hc
  · exact h
  · exact k c' hc
theorem cr0 {b : Bool} : ∀ es ∈ ([] : List (List CT)), ∀ c ∈ es, Cl b c := fun _ h => nomatch h
theorem cr1 {b : Bool} {es : List CT} {l : List (List CT)} (h : ∀ c ∈ es, Cl b c) (k : ∀ es ∈ l, ∀ c ∈ es, Cl b c) : ∀ es' ∈ es :: l, ∀ c ∈ es', Cl b c := fun es' he => by
  rcases List.mem_cons.1 he with rfl | he
  · exact h
  · exact k es' he
theorem opok {α : Type} {f : α → List CT} {e sz : Nat} (h : ∀ x, ∀ c ∈ f x, Cl false c) (r : Option α) : rOk (opC e sz f r) = true ∧ FrT (opC e sz f r) := by
  cases r with
  | none => exact ⟨rfl, .one (.cl (.v _))⟩
  | some x => exact ⟨rfl, .one (.op (h x))⟩
section
variable {F : Fence} {n : Nat} {P : Program} {X : Cx} {ops : Array Oper} {t : List (Nat × CT)} {r : List (Nat × Option Root)} {nx : Nat} [hF : Wd F] {dst ty : Nat} {pos : String} {af : Array Edge}
theorem l_makeR {T e s : Nat} {x y : Operand} {k1 k2 : IntKind} {z1 z2 : Int} {zs : List Value} (cs : List CT) {els : List (List CT)} (m : Nat) {by_ : Nat} (hT : SlI P T e s) (hby : (P.info? e).map (·.bytes) = some by_) (hz : ZtI P e zs) (hzs : zs.length = s) (hx : St.ev ⟨t, r, nx⟩ x = .v (.int k1 z1)) (hy : St.ev ⟨t, r, nx⟩ y = .v (.int k2 z2))
    (h1 : z1 = (m : Int)) (h2 : z2 = (m : Int)) (hb : by_ * m ≤ 140737488355328) (hp : 0 < by_) (hcl : cs.length = s) (hcs : ∀ (j : Nat) c z, cs[j]? = some c → zs[j]? = some z → ∀ w N bs, HV w N bs NoB c z) (he : List.replicate m cs = els) :
    Sg F n P X ops ⟨some dst, .makeSlice T x y, ty, pos, af, none⟩ t r nx ⟨needO x (.v (.int k1 z1)) ++ needO y (.v (.int k2 z2)), []⟩ [nx * 64] ⟨[(dst, .rf (nx * 64) 0 els.length s)], [(nx * 64, some ⟨e, s, els⟩)]⟩ := by
  subst he
  have h63 : m ≤ 9223372036854775807 := by
    have : 1 * m ≤ by_ * m := Nat.mul_le_mul_right _ hp
    omega
  have hb : by_ * m ≤ 281474976710656 := by omega
  rw [List.length_replicate]
  have hes' : ∀ es ∈ List.replicate m cs, es.length = s := fun es h => by rw [(List.mem_replicate.1 h).2, hcl]
  refine sg_new (by simp) ⟨fun p hp => (List.mem_append.1 hp).elim (need_ok hx p) (need_ok hy p), fun p hp => by cases hp⟩ hes' fun U S a w N bs FP hd hR => ?_
  have ex := hR.ev_v (ev_again hx fun p hp => hd.t p (List.mem_append_left _ hp))
  have ey := hR.ev_v (ev_again hy fun p hp => hd.t p (List.mem_append_right _ hp))
  obtain ⟨z, hz1, hz2, hz3⟩ := hz.z
  subst h1 h2
  cases hi : P.info? e with
  | none => simp [hi] at hby
  | some i =>
    have hib : i.bytes = by_ := by simpa [hi] using hby
    have his : i.size = s := by have := hT.sz w; simpa [sizeOf, typeInfo, hi] using this
    have hz0 : i.zero = some z := by
      have := hz1 w
      cases hzz : i.zero with
      | none => simp [zeroValue, typeInfo, hi, hzz] at this
      | some z' => simp [zeroValue, typeInfo, hi, hzz] at this; rw [this]
    have hbi : (i.bytes : Int) * (m : Int) ≤ 281474976710656 := by
      rw [hib]
      have : ((by_ * m : Nat) : Int) ≤ 281474976710656 := by omega
      rwa [Int.natCast_mul] at this
    have hrun := run_make (P := P) w T e i z hT.u hi hz0 k1 k2 (m : Int) (m : Int) (by omega) (by omega) hbi (by omega)
    simp only [Int.toNat_natCast, his] at hrun
    refine ⟨.slice (some ⟨w.heap.size, 0, none⟩) m m, madeCells z.cells (m * s), m, fun i o => (madeCells z.cells (m * s)).getD (i * s + o) undef, by simp [execOp, ex, ey, hrun], size_madeCells _ _, by simp, h63, fun i o es c hi ho => ?_, ref_new (Nat.le_refl _) h63⟩
    have him : i < m := by
      have := (List.getElem?_eq_some_iff.1 hi).1
      simpa using this
    have hes : es = cs := by
      rw [List.getElem?_replicate, if_pos him] at hi
      exact (Option.some.inj hi).symm
    subst hes
    have hol : o < zs.length := by
      have := (List.getElem?_eq_some_iff.1 ho).1
      omega
    have hq : (List.replicate m (zs.map CT.v))[i]? = some (zs.map CT.v) := by rw [List.getElem?_replicate, if_pos him]
    have ho' : (zs.map CT.v)[o]? = some (.v zs[o]) := by rw [List.getElem?_map, List.getElem?_eq_getElem hol, Option.map_some]
    obtain ⟨g1, g2, g3⟩ := rows_of_flat (s := s) (w := w) (N := N) (bs := bs) (els := List.replicate m (zs.map CT.v)) (fun es h => by rw [(List.mem_replicate.1 h).2, List.length_map]; exact hzs) (made_HL hz2 hzs m) (by
      refine List.all_eq_true.2 fun c hc => ?_
      obtain ⟨l, hl, hc⟩ := List.mem_flatten.1 hc
      rw [(List.mem_replicate.1 hl).2] at hc
      exact List.all_eq_true.1 (zeros_one hz3) c hc) i o (zs.map CT.v) (.v zs[o]) hq ho'
    exact ⟨g1, g2, by show HV w N bs NoB c ((madeCells z.cells (m * s)).getD (i * s + o) undef); rw [g3.val]; exact hcs o c zs[o] ho (List.getElem?_eq_getElem hol) _ _ _⟩
theorem l_appOR {T e sz by_ m k e2 : Nat} {x y : Operand} {els els2 nls els' : List (List CT)} {at_ : Array TypeId} (E : ElemT P T e sz by_) (hat : at_ = #[T, T]) (hx : St.ev ⟨t, r, nx⟩ x = .rf k 0 m sz) (hr : St.rt ⟨t, r, nx⟩ k = some ⟨e, sz, els⟩) (hm : els.length = m) (hy : St.ev ⟨t, r, nx⟩ y = .ro (.sl e2 sz els2)) (hn : els2.map (List.map roC) = nls) (he : els ++ nls = els') (hb : els'.length * by_ ≤ 140737488355328) (h0 : 0 < by_) :
    Sg F n P X ops ⟨some dst, .call { callee := .builtin .append, args := #[x, y], argTypes := at_ }, ty, pos, af, none⟩ t r nx ⟨needO x (.rf k 0 m sz) ++ needO y (.ro (.sl e2 sz els2)), [(k, ⟨e, sz, els⟩)]⟩ [nx * 64] ⟨[(dst, .rf (nx * 64) 0 els'.length sz)], [(nx * 64, some ⟨e, sz, els'⟩), (k, none)]⟩ := by
  subst he
  have e1 : (els ++ nls).length = m + nls.length := by rw [List.length_append, hm]
  rw [e1] at hb ⊢
  have : (m + nls.length) * 1 ≤ (m + nls.length) * by_ := Nat.mul_le_mul_left _ h0
  exact l_appO E hat hx hr hm hy hn rfl hb (by omega)
/-- All of a root, to all of a root; it stays. -/
theorem l_appCR {T e sz by_ m q k k2 e2 : Nat} {x y : Operand} {els els2 els' : List (List CT)} {at_ : Array TypeId} (E : ElemT P T e sz by_) (hat : at_ = #[T, T]) (hx : St.ev ⟨t, r, nx⟩ x = .rf k 0 m sz) (hr : St.rt ⟨t, r, nx⟩ k = some ⟨e, sz, els⟩) (hm : els.length = m) (hy : St.ev ⟨t, r, nx⟩ y = .rf k2 0 q sz) (hr2 : St.rt ⟨t, r, nx⟩ k2 = some ⟨e2, sz, els2⟩) (hq : els2.length = q)
    (hc : ∀ es ∈ els2, ∀ c ∈ es, c.cp = true) (he : els ++ els2 = els') (hb : els'.length * by_ ≤ 140737488355328) (h0 : 0 < by_) :
    Sg F n P X ops ⟨some dst, .call { callee := .builtin .append, args := #[x, y], argTypes := at_ }, ty, pos, af, none⟩ t r nx ⟨needO x (.rf k 0 m sz) ++ needO y (.rf k2 0 q sz), [(k, ⟨e, sz, els⟩), (k2, ⟨e2, sz, els2⟩)]⟩ [nx * 64] ⟨[(dst, .rf (nx * 64) 0 els'.length sz)], [(nx * 64, some ⟨e, sz, els'⟩), (k, none)]⟩ := by
  subst he
  subst hq
  have e1 : (els ++ els2).length = m + els2.length := by rw [List.length_append, hm]
  rw [e1] at hb ⊢
  have : (m + els2.length) * 1 ≤ (m + els2.length) * by_ := Nat.mul_le_mul_left _ h0
  exact l_appC E hat hx hr hm hy hr2 (by omega) (all_take _) hc hb (by omega)
theorem cutLo {x : Operand} {lo : Option Operand} {S : St} {l : Nat} {kd : IntKind} {z : Int} (h : S.ev x = .v (.int kd z)) (hz : z = (l : Int)) : some x = none ∧ l = 0 ∨ ∃ y k, some x = some y ∧ S.ev y = .v (.int k (l : Int)) := .inr ⟨x, kd, rfl, by rw [h, hz]⟩
theorem cutHi {x : Operand} {S : St} {l q : Nat} {kd : IntKind} {z : Int} (h : S.ev x = .v (.int kd z)) (hz : z = (l : Int)) : some x = none ∧ l = q ∨ ∃ y k, some x = some y ∧ S.ev y = .v (.int k (l : Int)) := .inr ⟨x, kd, rfl, by rw [h, hz]⟩
theorem l_minI {x y : Operand} {k : IntKind} {p q : Int} {at_ : Array TypeId} (hx : St.ev ⟨t, r, nx⟩ x = .v (.int k p)) (hy : St.ev ⟨t, r, nx⟩ y = .v (.int k q)) :
    Sg F n P X ops ⟨some dst, .call { callee := .builtin .min, args := #[x, y], argTypes := at_ }, ty, pos, af, none⟩ t r nx ⟨needO x (.v (.int k p)) ++ needO y (.v (.int k q)), []⟩ [] ⟨[(dst, .v (.int k (if q < p then q else p)))], []⟩ :=
  sg_v2 (by simp) hx hy fun ρ w h1 h2 => by simp [execOp, resolve, invoke, builtin, Builtin.min_, Builtin.min2, h1, h2]
theorem l_maxI {x y : Operand} {k : IntKind} {p q : Int} {at_ : Array TypeId} (hx : St.ev ⟨t, r, nx⟩ x = .v (.int k p)) (hy : St.ev ⟨t, r, nx⟩ y = .v (.int k q)) :
    Sg F n P X ops ⟨some dst, .call { callee := .builtin .max, args := #[x, y], argTypes := at_ }, ty, pos, af, none⟩ t r nx ⟨needO x (.v (.int k p)) ++ needO y (.v (.int k q)), []⟩ [] ⟨[(dst, .v (.int k (if p < q then q else p)))], []⟩ :=
  sg_v2 (by simp) hx hy fun ρ w h1 h2 => by simp [execOp, resolve, invoke, builtin, Builtin.max_, Builtin.max2, h1, h2]
theorem b_quo {T : Nat} {k : IntKind} {m q s : Int} (hq : ¬ q = 0) (h : k.wrap (m.tdiv q) = s) (w : World) : (binOp .quo T (.int k m) (.int k q)).run P w = .ok (.int k s) w := by simp [binOp, Op.intDiv, hq, h]
theorem b_rem {T : Nat} {k : IntKind} {m q s : Int} (hq : ¬ q = 0) (h : m.tmod q = s) (w : World) : (binOp .rem T (.int k m) (.int k q)).run P w = .ok (.int k s) w := by simp [binOp, Op.intDiv, hq, h]
theorem l_ptrNil {T T2 : Nat} {x : Operand} (hT : ptrB P T = true) (hx : St.ev ⟨t, r, nx⟩ x = .v (.pointer none)) :
    Sg F n P X ops ⟨some dst, .binOp .eql T x (.const (.pointer none)) T2, ty, pos, af, none⟩ t r nx ⟨needO x (.v (.pointer none)), []⟩ [] ⟨[(dst, .v (.bool true))], []⟩ :=
  sg_q (by simp) ⟨need_ok hx, fun p hp => by cases hp⟩ fun U S a w N bs FP hd hR => by
    have he := hR.ev_v (ev_again hx hd.t)
    have e2 : a.eval (.const (.pointer none)) = .pointer none := rfl
    exact ⟨.bool true, by simp [execOp, he, e2, eqG (P := P) (b := .eql) (T := T) (x := x) (y := .const (.pointer none)) (u := .pointer none) (v := .pointer none) rfl, run_eqP hT], .v _⟩
end
end Go.Proofs.YtpeafglbhjjbhaaDoor

