/- The data, as cells (printed by wip/auto/am.py). -/
import Derived.Test.YtpeafglbhjjbhaaDoorFA
import Derived.Test.YtpeafglbhjjbhaaDoorFF
namespace Go.Proofs.YtpeafglbhjjbhaaDoor
open Go Go.RowKit

theorem clm {α : Type} {f : α → List CT} {b : Bool} (h : ∀ x, ∀ c ∈ f x, Cl b c) (l : List α) : ∀ es ∈ l.map f, ∀ c ∈ es, Cl b c := fun es he c hc => by
  obtain ⟨x, _, rfl⟩ := List.mem_map.1 he
  exact h x c hc

def fldT : List ByteArray := [⟨#[78]⟩, ⟨#[78]⟩, ⟨#[83]⟩, ⟨#[78, 65, 66]⟩, ⟨#[65]⟩, ⟨#[65, 66]⟩, ⟨#[65]⟩, ⟨#[65, 66]⟩, ⟨#[65, 66]⟩, ⟨#[78, 76, 75]⟩, ⟨#[78, 65]⟩, ⟨#[78, 65, 66]⟩, ⟨#[78, 75]⟩, ⟨#[65]⟩, ⟨#[65]⟩, ⟨#[65, 66]⟩, ⟨#[65, 66, 67]⟩, ⟨#[75]⟩, ⟨#[65, 66, 67]⟩, ⟨#[65, 66]⟩, ⟨#[65]⟩, ⟨#[65, 66]⟩, ⟨#[65]⟩, ⟨#[78, 76]⟩, ⟨#[78, 65, 76]⟩, ⟨#[65]⟩]
def GT : List (Nat × List CT) := [(0, fldT.map (fun s => .v (.string s)))]
theorem gt_fldT : (0, fldT.map (fun s => CT.v (.string s))) ∈ GT := List.mem_cons_self
theorem lt_gt {α : Type} {l : List α} {j : Nat} {x : α} (h : l[j]? = some x) : j < l.length := (List.getElem?_eq_some_iff.1 h).1
theorem ar113 : ArI Tryd.prog 113 9 26 := .mk' (by kernel_rfl) (by kernel_rfl)

theorem cll {α : Type} {f : α → List CT} {b : Bool} (h : ∀ x, ∀ c ∈ f x, Cl b c) (l : List α) : ∀ es ∈ l.map f, ∀ c ∈ es, Cl b c := clm h l

theorem okT {c : CT} (h : rOk c = true ∧ FrT c) : ∀ c', c' = c → rOk c' = true ∧ (true = true → FrT c') := by
  rintro _ rfl
  exact ⟨h.1, fun _ => h.2⟩

theorem okF {c : CT} {p : Prop} (h : rOk c = true ∧ p) : ∀ c', c' = c → rOk c' = true ∧ (false = true → FrT c') := by
  rintro _ rfl
  exact ⟨h.1, fun h => Bool.noConfusion h⟩

theorem k_iC {b : Bool} (n : Int) : ∀ c ∈ iC n, Cl b c := fun c hc => by
  rw [List.mem_singleton.1 (show c ∈ [_] from hc)]
  exact .v _

abbrev bC (n : Bool) : List CT := [.v (.bool n)]
theorem k_bC {b : Bool} (n : Bool) : ∀ c ∈ bC n, Cl b c := fun c hc => by
  rw [List.mem_singleton.1 hc]
  exact .v _

abbrev lC_iC (l : List Int) : List CT := [.sl 3 1 (l.map iC)]
theorem k_lC_iC {b : Bool} (l : List Int) : ∀ c ∈ lC_iC l, Cl b c := fun c hc => by
  rw [List.mem_singleton.1 hc]
  exact .sl _ _ (clm k_iC _)

abbrev lC_bC (l : List Bool) : List CT := [.sl 4 1 (l.map bC)]
structure MSig where
  Params : List Int
  Ret : Int
  deriving DecidableEq

def MSig.ct (x : MSig) : List CT := [.sl 3 1 (x.Params.map iC), .v (.int .i64 x.Ret)]

theorem k_MSigct {b : Bool} (x : MSig) : ∀ c ∈ MSig.ct x, Cl b c := by
  intro c hc
  simp only [MSig.ct, List.mem_cons, List.not_mem_nil, or_false] at hc
  rcases hc with rfl | rfl
  · exact .sl _ _ (clm k_iC _)
  · exact .v _

structure MCls where
  Fields : List Int
  Methods : List Int
  deriving DecidableEq

def MCls.ct (x : MCls) : List CT := [.sl 3 1 (x.Fields.map iC), .sl 3 1 (x.Methods.map iC)]

theorem k_MClsct {b : Bool} (x : MCls) : ∀ c ∈ MCls.ct x, Cl b c := by
  intro c hc
  simp only [MCls.ct, List.mem_cons, List.not_mem_nil, or_false] at hc
  rcases hc with rfl | rfl
  · exact .sl _ _ (clm k_iC _)
  · exact .sl _ _ (clm k_iC _)

structure MOp where
  K : Int
  A : Int
  B : Int
  C : Int
  N : Int
  S : ByteArray
  L : List Int
  Stack : Bool
  deriving DecidableEq

def MOp.ct (x : MOp) : List CT := [.v (.int .i64 x.K), .v (.int .i64 x.A), .v (.int .i64 x.B), .v (.int .i64 x.C), .v (.int .i64 x.N), .v (.string x.S), .sl 3 1 (x.L.map iC), .v (.bool x.Stack)]

theorem k_MOpct {b : Bool} (x : MOp) : ∀ c ∈ MOp.ct x, Cl b c := by
  intro c hc
  simp only [MOp.ct, List.mem_cons, List.not_mem_nil, or_false] at hc
  rcases hc with rfl | rfl | rfl | rfl | rfl | rfl | rfl | rfl
  · exact .v _
  · exact .v _
  · exact .v _
  · exact .v _
  · exact .v _
  · exact .v _
  · exact .sl _ _ (clm k_iC _)
  · exact .v _

structure MEnd where
  K : Int
  A : Int
  To : Int
  Else : Int
  L : List Int
  M : List Int
  deriving DecidableEq

def MEnd.ct (x : MEnd) : List CT := [.v (.int .i64 x.K), .v (.int .i64 x.A), .v (.int .i64 x.To), .v (.int .i64 x.Else), .sl 3 1 (x.L.map iC), .sl 3 1 (x.M.map iC)]

theorem k_MEndct {b : Bool} (x : MEnd) : ∀ c ∈ MEnd.ct x, Cl b c := by
  intro c hc
  simp only [MEnd.ct, List.mem_cons, List.not_mem_nil, or_false] at hc
  rcases hc with rfl | rfl | rfl | rfl | rfl | rfl
  · exact .v _
  · exact .v _
  · exact .v _
  · exact .v _
  · exact .sl _ _ (clm k_iC _)
  · exact .sl _ _ (clm k_iC _)

structure MBlk where
  Params : List Int
  Ops : List MOp
  End : MEnd
  deriving DecidableEq

def MBlk.ct (x : MBlk) : List CT := [.sl 3 1 (x.Params.map iC), .sl 49 8 (x.Ops.map MOp.ct), .v (.int .i64 x.End.K), .v (.int .i64 x.End.A), .v (.int .i64 x.End.To), .v (.int .i64 x.End.Else), .sl 3 1 (x.End.L.map iC), .sl 3 1 (x.End.M.map iC)]

theorem k_MBlkct {b : Bool} (x : MBlk) : ∀ c ∈ MBlk.ct x, Cl b c := by
  intro c hc
  simp only [MBlk.ct, List.mem_cons, List.not_mem_nil, or_false] at hc
  rcases hc with rfl | rfl | rfl | rfl | rfl | rfl | rfl | rfl
  · exact .sl _ _ (clm k_iC _)
  · exact .sl _ _ (clm k_MOpct _)
  · exact .v _
  · exact .v _
  · exact .v _
  · exact .v _
  · exact .sl _ _ (clm k_iC _)
  · exact .sl _ _ (clm k_iC _)

structure MFun where
  Ret : Int
  Blocks : List MBlk
  deriving DecidableEq

def MFun.ct (x : MFun) : List CT := [.v (.int .i64 x.Ret), .sl 47 8 (x.Blocks.map MBlk.ct)]

theorem k_MFunct {b : Bool} (x : MFun) : ∀ c ∈ MFun.ct x, Cl b c := by
  intro c hc
  simp only [MFun.ct, List.mem_cons, List.not_mem_nil, or_false] at hc
  rcases hc with rfl | rfl
  · exact .v _
  · exact .sl _ _ (clm k_MBlkct _)

structure MPrg where
  Sigs : List MSig
  Classes : List MCls
  Funcs : List MFun
  deriving DecidableEq

def MPrg.ct (x : MPrg) : List CT := [.sl 40 2 (x.Sigs.map MSig.ct), .sl 42 2 (x.Classes.map MCls.ct), .sl 33 2 (x.Funcs.map MFun.ct)]

theorem k_MPrgct {b : Bool} (x : MPrg) : ∀ c ∈ MPrg.ct x, Cl b c := by
  intro c hc
  simp only [MPrg.ct, List.mem_cons, List.not_mem_nil, or_false] at hc
  rcases hc with rfl | rfl | rfl
  · exact .sl _ _ (clm k_MSigct _)
  · exact .sl _ _ (clm k_MClsct _)
  · exact .sl _ _ (clm k_MFunct _)

structure MTarget where
  To : Int
  L : List Int
  deriving DecidableEq

def MTarget.ct (x : MTarget) : List CT := [.v (.int .i64 x.To), .sl 3 1 (x.L.map iC)]

theorem k_MTargetct {b : Bool} (x : MTarget) : ∀ c ∈ MTarget.ct x, Cl b c := by
  intro c hc
  simp only [MTarget.ct, List.mem_cons, List.not_mem_nil, or_false] at hc
  rcases hc with rfl | rfl
  · exact .v _
  · exact .sl _ _ (clm k_iC _)

structure Mcfg_place where
  block : Int
  at_ : Int
  deriving DecidableEq

def Mcfg_place.ct (x : Mcfg_place) : List CT := [.v (.int .i64 x.block), .v (.int .i64 x.at_)]

theorem k_Mcfg_placect {b : Bool} (x : Mcfg_place) : ∀ c ∈ Mcfg_place.ct x, Cl b c := by
  intro c hc
  simp only [Mcfg_place.ct, List.mem_cons, List.not_mem_nil, or_false] at hc
  rcases hc with rfl | rfl
  · exact .v _
  · exact .v _

structure MSite where
  Fun : Int
  Block : Int
  At : Int
  deriving DecidableEq

def MSite.ct (x : MSite) : List CT := [.v (.int .i64 x.Fun), .v (.int .i64 x.Block), .v (.int .i64 x.At)]

end Go.Proofs.YtpeafglbhjjbhaaDoor

