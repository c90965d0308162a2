/- Rows whose elements' parts are read (printed by wip/auto/am.py). -/
import Derived.Test.YtpeafglbhjjbhaaDoorFB
import Derived.Test.YtpeafglbhjjbhaaDoorFL
namespace Go.Proofs.YtpeafglbhjjbhaaDoor
open Go Go.RowKit

def MSig.ctr (x : MSig) : List CT := [.ro (.sl 3 1 (x.Params.map iC)), .v (.int .i64 x.Ret)]

def MCls.ctr (x : MCls) : List CT := [.ro (.sl 3 1 (x.Fields.map iC)), .ro (.sl 3 1 (x.Methods.map iC))]

def MOp.ctr (x : MOp) : List CT := [.v (.int .i64 x.K), .v (.int .i64 x.A), .v (.int .i64 x.B), .v (.int .i64 x.C), .v (.int .i64 x.N), .v (.string x.S), .ro (.sl 3 1 (x.L.map iC)), .v (.bool x.Stack)]

theorem kr_MOpct (x : MOp) : ∀ c ∈ MOp.ctr x, Cl true c := by
  intro c hc
  simp only [MOp.ctr, List.mem_cons, List.not_mem_nil, or_false] at hc
  rcases hc with rfl | rfl | rfl | rfl | rfl | rfl | rfl | rfl
  · exact .v _
  · exact .v _
  · exact .v _
  · exact .v _
  · exact .v _
  · exact .v _
  · exact .ro _ rfl
  · exact .v _

theorem rl_MOpct (x : MOp) : RoL (MOp.ct x) (MOp.ctr x) := (.same rfl (.same rfl (.same rfl (.same rfl (.same rfl (.same rfl (.ro (.sl _ _ (clm k_iC _)) (.same rfl .nil))))))))

theorem wr_MOpct (x : MOp) : WkL (MOp.ctr x) (MOp.ct x) := (.cons (Wk.refl _) (.cons (Wk.refl _) (.cons (Wk.refl _) (.cons (Wk.refl _) (.cons (Wk.refl _) (.cons (Wk.refl _) (.cons (Wk.ro (Wk.refl _)) (.cons (Wk.refl _) .nil))))))))

def MEnd.ctr (x : MEnd) : List CT := [.v (.int .i64 x.K), .v (.int .i64 x.A), .v (.int .i64 x.To), .v (.int .i64 x.Else), .ro (.sl 3 1 (x.L.map iC)), .ro (.sl 3 1 (x.M.map iC))]

def MBlk.ctr (x : MBlk) : List CT := [.ro (.sl 3 1 (x.Params.map iC)), .ro (.sl 49 8 (x.Ops.map MOp.ct)), .v (.int .i64 x.End.K), .v (.int .i64 x.End.A), .v (.int .i64 x.End.To), .v (.int .i64 x.End.Else), .ro (.sl 3 1 (x.End.L.map iC)), .ro (.sl 3 1 (x.End.M.map iC))]

theorem kr_MBlkct (x : MBlk) : ∀ c ∈ MBlk.ctr x, Cl true c := by
  intro c hc
  simp only [MBlk.ctr, List.mem_cons, List.not_mem_nil, or_false] at hc
  rcases hc with rfl | rfl | rfl | rfl | rfl | rfl | rfl | rfl
  · exact .ro _ rfl
  · exact .ro _ rfl
  · exact .v _
  · exact .v _
  · exact .v _
  · exact .v _
  · exact .ro _ rfl
  · exact .ro _ rfl

theorem rl_MBlkct (x : MBlk) : RoL (MBlk.ct x) (MBlk.ctr x) := (.ro (.sl _ _ (clm k_iC _)) (.ro (.sl _ _ (clm k_MOpct _)) (.same rfl (.same rfl (.same rfl (.same rfl (.ro (.sl _ _ (clm k_iC _)) (.ro (.sl _ _ (clm k_iC _)) .nil))))))))

theorem wr_MBlkct (x : MBlk) : WkL (MBlk.ctr x) (MBlk.ct x) := (.cons (Wk.ro (Wk.refl _)) (.cons (Wk.ro (Wk.refl _)) (.cons (Wk.refl _) (.cons (Wk.refl _) (.cons (Wk.refl _) (.cons (Wk.refl _) (.cons (Wk.ro (Wk.refl _)) (.cons (Wk.ro (Wk.refl _)) .nil))))))))

def MFun.ctr (x : MFun) : List CT := [.v (.int .i64 x.Ret), .ro (.sl 47 8 (x.Blocks.map MBlk.ct))]

def MPrg.ctr (x : MPrg) : List CT := [.ro (.sl 40 2 (x.Sigs.map MSig.ct)), .ro (.sl 42 2 (x.Classes.map MCls.ct)), .ro (.sl 33 2 (x.Funcs.map MFun.ct))]

def MTarget.ctr (x : MTarget) : List CT := [.v (.int .i64 x.To), .ro (.sl 3 1 (x.L.map iC))]

theorem kr_MTargetct (x : MTarget) : ∀ c ∈ MTarget.ctr x, Cl true c := by
  intro c hc
  simp only [MTarget.ctr, List.mem_cons, List.not_mem_nil, or_false] at hc
  rcases hc with rfl | rfl
  · exact .v _
  · exact .ro _ rfl

theorem rl_MTargetct (x : MTarget) : RoL (MTarget.ct x) (MTarget.ctr x) := (.same rfl (.ro (.sl _ _ (clm k_iC _)) .nil))

theorem wr_MTargetct (x : MTarget) : WkL (MTarget.ctr x) (MTarget.ct x) := (.cons (Wk.refl _) (.cons (Wk.ro (Wk.refl _)) .nil))
end Go.Proofs.YtpeafglbhjjbhaaDoor

