/- More steps: tables, entries of the library. -/
import Derived.Test.YtpeafglbhjjbhaaDoorFD
import Derived.Lib.Bytealg
namespace Go.Proofs.YtpeafglbhjjbhaaDoor
open Go Go.RowKit

structure ArI (P : Program) (T e len : Nat) : Prop where
  u : P.underlying T = some (.array len e)
  sz : ∀ w, (sizeOf e).run P w = .ok 1 w
theorem ArI.mk' {P : Program} {T e len : Nat} (hu : P.underlying T = some (.array len e)) (hs : (P.info? e).map (·.size) = some 1) : ArI P T e len := by
  refine ⟨hu, fun w => ?_⟩
  cases hi : P.info? e with
  | none => simp [hi] at hs
  | some i => simp [hi] at hs; simp [sizeOf, typeInfo, hi, hs]
structure XbI (P : Program) (f : FuncId) : Prop where
  run : ∀ (s : ByteArray) (c : Int) (w : World), (callFunc f #[.string s, .int .u8 c]).run P w = .ok (.value (.int .i64 (Lib.indexByte s.data.toList c.toNat.toUInt8))) w
theorem XbI.mk' {P : Program} {f : FuncId} (h1 : ((P.funcs[f]?).map fun fn => fn.body.isNone && !(fn.name == "runtime.NumGoroutine")) = some true) (h2 : ((P.funcs[f]?).bind fun fn => Extern.findNext fn).isNone = true) (h3 : ((P.funcs[f]?).bind fun fn => Extern.find fn) = some Extern.BytealgIndexByte.indexByte) : XbI P f := by
  refine ⟨fun s c w => ?_⟩
  cases hf : P.funcs[f]? with
  | none => simp [hf] at h1
  | some fn =>
    simp [hf] at h1 h2 h3
    simp [callFunc, hf, h1, h2, h3, Lib.run_indexByteString]
section
variable {F : Fence} {n : Nat} {P : Program} {X : Cx} {ops : Array Oper} {t : List (Nat × CT)} {r : List (Nat × Option Root)} {nx : Nat} [hF : Wd F] {dst ty : Nat} {pos : String} {af : Array Edge}
theorem l_indexG {T e len g : Nat} {y : Operand} {tab : List CT} {kd : IntKind} {z : Int} (j : Nat) (hT : ArI P T e len) (hg : (g, tab) ∈ X.G) (hy : St.ev ⟨t, r, nx⟩ y = .v (.int kd z)) (hz : z = (j : Int)) (hj : j < len) :
    Sg F n P X ops ⟨some dst, .indexAddr T (.global g) y, ty, pos, af, none⟩ t r nx ⟨needO y (.v (.int kd z)), []⟩ [] ⟨[(dst, .ro (.rp tab j))], []⟩ :=
  sg_q (by simp) ⟨need_ok hy, fun p hp => by cases hp⟩ fun U S a w N bs FP hd hR => by
    have hey := hR.ev_v (ev_again hy hd.t)
    have hG := hR.gl _ hg
    subst hz
    generalize hv : (Value.pointer (some ⟨g, 0, none⟩)) = v at hG
    cases hG with
    | rp b off us hN hw hr =>
      simp only [Value.pointer.injEq, Option.some.injEq, Addr.mk.injEq, and_true] at hv
      obtain ⟨rfl, ho⟩ := hv
      have h0 : off = 0 := by omega
      subst h0
      have h1 : (j : Int) < (len : Int) := by omega
      have h2 : a.eval (.global g) = .pointer (some ⟨g, 0, none⟩) := rfl
      refine ⟨.pointer (some ⟨g, 0 + j, none⟩), ?_, .ro (RD.rp (o := j) g 0 us hN hw hr)⟩
      simp [execOp, Instr.indexAt, Instr.sureAddr, h2, hey, asIntOf, run_underlying hT.u, hT.sz, h1, add_plain']
      intro hh; omega
theorem l_indexByte {f : FuncId} {x y : Operand} {s : ByteArray} {c : Int} {at_ : Array TypeId} (hf : XbI P f) (hx : St.ev ⟨t, r, nx⟩ x = .v (.string s)) (hy : St.ev ⟨t, r, nx⟩ y = .v (.int .u8 c)) :
    Sg F n P X ops ⟨some dst, .call { callee := .value (.func f), args := #[x, y], argTypes := at_ }, ty, pos, af, none⟩ t r nx ⟨needO x (.v (.string s)) ++ needO y (.v (.int .u8 c)), []⟩ [] ⟨[(dst, .v (.int .i64 (Lib.indexByte s.data.toList c.toNat.toUInt8)))], []⟩ :=
  sg_q (by simp) ⟨fun p hp => (List.mem_append.1 hp).elim (need_ok hx p) (need_ok hy p), fun p hp => by cases hp⟩ fun U S a w N bs FP hd hR => by
    have h1 := hR.ev_v (ev_again hx fun p hp => hd.t p (List.mem_append_left _ hp))
    have h2 := hR.ev_v (ev_again hy fun p hp => hd.t p (List.mem_append_right _ hp))
    refine ⟨_, ?_, .v _⟩
    have e : execOp a.eval ⟨some dst, .call { callee := .value (.func f), args := #[x, y], argTypes := at_ }, ty, pos, af, none⟩ = callFunc f (#[] ++ (#[x, y] : Array Operand).map a.eval ++ #[]) := rfl
    rw [e]
    have := hf.run s c w
    simpa [h1, h2] using this
end
end Go.Proofs.YtpeafglbhjjbhaaDoor

