/- Deep words, sixteenth part: guards, tests that are decided; ends of regions. -/
import Derived.Test.YtpeafglbhjjbhaaDoorDO
namespace Go.Proofs.YtpeafglbhjjbhaaDoor
open Go Go.RowKit

section
variable {F : Fence} {n : Nat} {P : Program} {X : Cx} {ops : Array Oper} {t : List (Nat × CT)} {r : List (Nat × Option Root)} {nx : Nat} {K : St → Prop} {Q Q' : Exit → St → Prop} {b : Code}
theorem dvE (h : K ⟨t, r, nx⟩) : DvT F n P X ops [] t r nx K := h
end
section
variable {F : Fence} {n : Nat} {P : Program} {X : Cx} {ops : Array Oper} {t : List (Nat × CT)} {r : List (Nat × Option Root)} {nx : Nat} [hF : Wd F] {dst ty : Nat} {pos : String} {af : Array Edge}
omit hF in
/-- An operation that is wanted. -/
theorem l_gT {op : Op} {j g : Nat} {oj : Oper} {b : Bool} {o0 : Option Nat} {d : Nd} {ks : List Nat} {E : Eff} (hj : ops[j]? = some oj) (hjd : oj.dst = some g) (hg : St.tm ⟨t, r, nx⟩ g = .v (.bool b)) (h : ∀ ops', Sg F n P X ops' ⟨o0, op, ty, pos, af, none⟩ t r nx d ks E) :
    Sg F n P X ops ⟨o0, op, ty, pos, af, some (j, b)⟩ t r nx ⟨(g, .v (.bool b)) :: d.t, d.r⟩ ks E :=
  ⟨OpL.wanted hj hjd fun ops' => (h ops').1, ⟨fun p hp => by
    rcases List.mem_cons.1 hp with rfl | hp
    · exact hg
    · exact (h ops).2.1.t p hp, (h ops).2.1.r⟩, (h ops).2.2⟩
/-- An operation that isn't. -/
theorem l_gF {op : Op} {j g : Nat} {oj : Oper} {b b' : Bool} (hj : ops[j]? = some oj) (hjd : oj.dst = some g) (hg : St.tm ⟨t, r, nx⟩ g = .v (.bool b')) (hb : (b != b') = true) :
    Sg F n P X ops ⟨some dst, op, ty, pos, af, some (j, b)⟩ t r nx ⟨[(g, .v (.bool b'))], []⟩ [] ⟨[(dst, .v undef)], []⟩ :=
  ⟨OpL.skipped rfl hj hjd (by simpa using hb), ⟨fun p hp => by simp at hp; subst hp; exact hg, fun p hp => by cases hp⟩, fun _ h => by cases h⟩
/-- An operation that hangs on one that wasn't carried out. -/
theorem l_gU {op : Op} {j g : Nat} {oj : Oper} {b : Bool} (hj : ops[j]? = some oj) (hjd : oj.dst = some g) (hg : St.tm ⟨t, r, nx⟩ g = .v undef) :
    Sg F n P X ops ⟨some dst, op, ty, pos, af, some (j, b)⟩ t r nx ⟨[(g, .v undef)], []⟩ [] ⟨[(dst, .v undef)], []⟩ := by
  refine ⟨?_, ⟨fun p hp => by simp at hp; subst hp; exact hg, fun p hp => by cases hp⟩, fun _ h => by cases h⟩
  intro i hi hdd Q U S a w hd' hk hR
  obtain ⟨N, bs, FP, hR⟩ := hR
  have h1 := hR.ts g
  rw [hd'.t (g, .v undef) (by simp)] at h1
  have h2 : a.tmps[g]? = some undef := by
    have hlt : g < a.tmps.size := by rw [hR.sz]; exact hdd j oj g hj hjd
    have e : a.tmps.getD g undef = undef := h1.val
    rw [Array.getElem?_eq_getElem hlt]
    simpa [hlt] using e
  have hw : Region.wanted ⟨some dst, op, ty, pos, af, some (j, b)⟩ (yielded ops a.tmps) = false := by
    simp [Region.wanted, yielded, hj, hjd, h2, undef]
  unfold opWp
  rw [if_neg (by rw [hw]; decide)]
  exact ⟨fun f _ => hF.fn f, _, rfl, N, bs, FP, (hR.quiet (d := some dst) (fun k => hdd i _ k hi) (.v undef)).weakU fun _ h => .inl h⟩
theorem l_pickT {x y z : Operand} {c : CT} (hx : St.ev ⟨t, r, nx⟩ x = .v (.bool true)) (hy : Is (St.ev ⟨t, r, nx⟩ y) c) : Sg F n P X ops ⟨some dst, .pick x y z, ty, pos, af, none⟩ t r nx ⟨needO x (.v (.bool true)) ++ needO y c, []⟩ [] ⟨[(dst, c)], []⟩ :=
  sg_q (by simp) ⟨fun o ho => (List.mem_append.1 ho).elim (need_ok hx o) (need_ok hy.eq o), fun p hp => by cases hp⟩ fun U S a w N bs FP hd hR => by
    have h1 := hR.ev_v (ev_again hx fun p hp => hd.t p (List.mem_append_left _ hp))
    refine ⟨a.eval y, ?_, hR.hv_of X (ev_again hy.eq fun p hp => hd.t p (List.mem_append_right _ hp))⟩
    simp [execOp, h1, asBool]
theorem l_pickF {x y z : Operand} {c : CT} (hx : St.ev ⟨t, r, nx⟩ x = .v (.bool false)) (hy : Is (St.ev ⟨t, r, nx⟩ z) c) : Sg F n P X ops ⟨some dst, .pick x y z, ty, pos, af, none⟩ t r nx ⟨needO x (.v (.bool false)) ++ needO z c, []⟩ [] ⟨[(dst, c)], []⟩ :=
  sg_q (by simp) ⟨fun o ho => (List.mem_append.1 ho).elim (need_ok hx o) (need_ok hy.eq o), fun p hp => by cases hp⟩ fun U S a w N bs FP hd hR => by
    have h1 := hR.ev_v (ev_again hx fun p hp => hd.t p (List.mem_append_left _ hp))
    refine ⟨a.eval z, ?_, hR.hv_of X (ev_again hy.eq fun p hp => hd.t p (List.mem_append_right _ hp))⟩
    simp [execOp, h1, asBool]
end
section
variable {F : Fence} {n : Nat} {P : Program} {X : Cx} {ops : Array Oper} {t : List (Nat × CT)} {r : List (Nat × Option Root)} {nx : Nat} [hF : Wd F] {dst ty : Nat} {pos : String} {af : Array Edge}
theorem l_bs0 {T e s : Nat} {zs : List Value} (hT : SlI P T e s) (hz : ZtI P e zs) (hzs : zs.length = s) (hs : 0 < s) :
    Sg F n P X ops ⟨some dst, .buildSlice T 0 #[], ty, pos, af, none⟩ t r nx ⟨[], []⟩ [nx * 64] ⟨[(dst, .rf (nx * 64) 0 0 s)], [(nx * 64, some ⟨e, s, []⟩)]⟩ :=
  l_bslice (ps := []) (cs := []) hT hz hzs .nil rfl rfl rfl rfl (by omega) hs
theorem l_bs1 {T e s : Nat} {x : Operand} {c : CT} {l : List CT} {zs : List Value} (hT : SlI P T e s) (hz : ZtI P e zs) (hzs : zs.length = s) (hx : Is (St.ev ⟨t, r, nx⟩ x) c) (hl : cellsC c = l) (hls : l.length = s) (h1 : l.all CT.one = true) (hlen : s ≤ 16777216) (hs : 0 < s) :
    Sg F n P X ops ⟨some dst, .buildSlice T 1 #[(0, x)], ty, pos, af, none⟩ t r nx ⟨needO x c ++ [], []⟩ [nx * 64] ⟨[(dst, .rf (nx * 64) 0 1 s)], [(nx * 64, some ⟨e, s, [l]⟩)]⟩ := by
  subst hl
  refine l_bslice (ps := [(0, x)]) (cs := [(0, c)]) hT hz hzs (.cons hx .nil) ?_ rfl (by simp [hls]) (by simpa using h1) (by omega) hs
  have e1 : (List.replicate 1 (zs.map CT.v)).flatten = zs.map CT.v := by simp
  simp only [fillC, e1, List.length_map, hzs, hls, Nat.zero_mul, Nat.zero_add, setC, List.flatten_cons, List.flatten_nil, List.append_nil, List.take_zero, List.nil_append]
  simp [hzs]
theorem l_bsn {T e s len : Nat} {ps : List (Nat × Operand)} {cs : List (Nat × CT)} {zs : List Value} (hT : SlI P T e s) (hz : ZtI P e zs) (hzs : zs.length = s) (hp : IsP ⟨t, r, nx⟩ ps cs) (hf : fillC (fun i => some (i * s, s)) (List.replicate len (zs.map CT.v)).flatten cs = some (cs.map fun p => cellsC p.2).flatten) (hel : cs.length = len)
    (hes : (cs.map fun p => cellsC p.2).all (fun es => es.length == s) = true) (h1 : cs.all (fun p => (cellsC p.2).all CT.one) = true) (hlen : len * s ≤ 16777216) (hs : 0 < s) :
    Sg F n P X ops ⟨some dst, .buildSlice T len ps.toArray, ty, pos, af, none⟩ t r nx ⟨needP ps cs, []⟩ [nx * 64] ⟨[(dst, .rf (nx * 64) 0 len s)], [(nx * 64, some ⟨e, s, cs.map fun p => cellsC p.2⟩)]⟩ :=
  l_bslice hT hz hzs hp hf (by simpa using hel) hes h1 hlen hs
end
section
variable {P : Program} {T : Nat} {k : IntKind} {m q : Int}
/-- One more, of a whole number that counts. -/
theorem b_inc {i : Nat} (h : i + 1 ≤ 9223372036854775807) (w : World) : (binOp .add T (.int .i64 (i : Int)) (.int .i64 1)).run P w = .ok (.int .i64 ((i + 1 : Nat) : Int)) w := by
  refine b_add ?_ w
  rw [IntKind.wrap_i64]
  omega
end
/-- An element of a list that is told by another one. -/
theorem map_at {α β : Type} {φ : α → β} {l : List α} {i : Nat} {x : α} (h : l[i]? = some x) : (l.map φ)[i]? = some (φ x) := by rw [List.getElem?_map, h]; rfl
abbrev iC (n : Int) : List CT := [.v (.int .i64 n)]
end Go.Proofs.YtpeafglbhjjbhaaDoor

