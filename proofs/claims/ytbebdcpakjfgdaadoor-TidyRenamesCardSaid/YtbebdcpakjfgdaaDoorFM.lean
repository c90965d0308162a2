/- Rows whose elements' parts are read (printed by wip/auto/am.py). -/
import Derived.Test.YtbebdcpakjfgdaaDoorFB
import Derived.Test.YtbebdcpakjfgdaaDoorFL
namespace Go.Proofs.YtbebdcpakjfgdaaDoor
open Go Go.RowKit

def lR_iC (x : List Int) : List CT := [.ro (.sl 3 1 (x.map iC))]

theorem kr_lC_iC (x : List Int) : ∀ c ∈ lR_iC x, Cl true c := by
  intro c hc
  simp only [lR_iC, List.mem_cons, List.not_mem_nil, or_false] at hc
  rcases hc with rfl
  · exact .ro _ rfl

theorem rl_lC_iC (x : List Int) : RoL (lC_iC x) (lR_iC x) := (.ro (.sl _ _ (clm k_iC _)) .nil)

theorem wr_lC_iC (x : List Int) : WkL (lR_iC x) (lC_iC x) := (.cons (Wk.ro (Wk.refl _)) .nil)

def lR_lC_iC (x : List (List Int)) : List CT := [.ro (.sl 27 1 (x.map lC_iC))]

theorem kr_lC_lC_iC (x : List (List Int)) : ∀ c ∈ lR_lC_iC x, Cl true c := by
  intro c hc
  simp only [lR_lC_iC, List.mem_cons, List.not_mem_nil, or_false] at hc
  rcases hc with rfl
  · exact .ro _ rfl

theorem rl_lC_lC_iC (x : List (List Int)) : RoL (lC_lC_iC x) (lR_lC_iC x) := (.ro (.sl _ _ (clm k_lC_iC _)) .nil)

theorem wr_lC_lC_iC (x : List (List Int)) : WkL (lR_lC_iC x) (lC_lC_iC x) := (.cons (Wk.ro (Wk.refl _)) .nil)

def lR_bC (x : List Bool) : List CT := [.ro (.sl 4 1 (x.map bC))]

theorem kr_lC_bC (x : List Bool) : ∀ c ∈ lR_bC x, Cl true c := by
  intro c hc
  simp only [lR_bC, List.mem_cons, List.not_mem_nil, or_false] at hc
  rcases hc with rfl
  · exact .ro _ rfl

theorem rl_lC_bC (x : List Bool) : RoL (lC_bC x) (lR_bC x) := (.ro (.sl _ _ (clm k_bC _)) .nil)

theorem wr_lC_bC (x : List Bool) : WkL (lR_bC x) (lC_bC x) := (.cons (Wk.ro (Wk.refl _)) .nil)

def MSig.ctr (x : MSig) : List CT := [.ro (.sl 3 1 (x.Params.map iC)), .v (.int .i64 x.Ret)]

theorem kr_MSigct (x : MSig) : ∀ c ∈ MSig.ctr x, Cl true c := by
  intro c hc
  simp only [MSig.ctr, List.mem_cons, List.not_mem_nil, or_false] at hc
  rcases hc with rfl | rfl
  · exact .ro _ rfl
  · exact .v _

theorem rl_MSigct (x : MSig) : RoL (MSig.ct x) (MSig.ctr x) := (.ro (.sl _ _ (clm k_iC _)) (.same rfl .nil))

theorem wr_MSigct (x : MSig) : WkL (MSig.ctr x) (MSig.ct x) := (.cons (Wk.ro (Wk.refl _)) (.cons (Wk.refl _) .nil))

def MCls.ctr (x : MCls) : List CT := [.ro (.sl 3 1 (x.Fields.map iC)), .ro (.sl 3 1 (x.Methods.map iC))]

theorem kr_MClsct (x : MCls) : ∀ c ∈ MCls.ctr x, Cl true c := by
  intro c hc
  simp only [MCls.ctr, List.mem_cons, List.not_mem_nil, or_false] at hc
  rcases hc with rfl | rfl
  · exact .ro _ rfl
  · exact .ro _ rfl

theorem rl_MClsct (x : MCls) : RoL (MCls.ct x) (MCls.ctr x) := (.ro (.sl _ _ (clm k_iC _)) (.ro (.sl _ _ (clm k_iC _)) .nil))

theorem wr_MClsct (x : MCls) : WkL (MCls.ctr x) (MCls.ct x) := (.cons (Wk.ro (Wk.refl _)) (.cons (Wk.ro (Wk.refl _)) .nil))

def MOp.ctr (x : MOp) : List CT := [.v (.int .i64 x.K), .v (.int .i64 x.A), .v (.int .i64 x.B), .v (.int .i64 x.C), .v (.int .i64 x.N), .v (.string x.S), .ro (.sl 3 1 (x.L.map iC)), .v (.bool x.Stack)]

theorem kr_MOpct (x : MOp) : ∀ c ∈ MOp.ctr x, Cl true c := by
  intro c hc
  simp only [MOp.ctr, List.mem_cons, List.not_mem_nil, or_false] at hc
  rcases hc with rfl | rfl | rfl | rfl | rfl | rfl | rfl | rfl
  · exact .v _
  · exact .v _
  · exact .v _
  · exact .v _
  · exact .v _
  · exact .v _
  · exact .ro _ rfl
  · exact .v _

theorem rl_MOpct (x : MOp) : RoL (MOp.ct x) (MOp.ctr x) := (.same rfl (.same rfl (.same rfl (.same rfl (.same rfl (.same rfl (.ro (.sl _ _ (clm k_iC _)) (.same rfl .nil))))))))

theorem wr_MOpct (x : MOp) : WkL (MOp.ctr x) (MOp.ct x) := (.cons (Wk.refl _) (.cons (Wk.refl _) (.cons (Wk.refl _) (.cons (Wk.refl _) (.cons (Wk.refl _) (.cons (Wk.refl _) (.cons (Wk.ro (Wk.refl _)) (.cons (Wk.refl _) .nil))))))))

def MEnd.ctr (x : MEnd) : List CT := [.v (.int .i64 x.K), .v (.int .i64 x.A), .v (.int .i64 x.To), .v (.int .i64 x.Else), .ro (.sl 3 1 (x.L.map iC)), .ro (.sl 3 1 (x.M.map iC))]

theorem kr_MEndct (x : MEnd) : ∀ c ∈ MEnd.ctr x, Cl true c := by
  intro c hc
  simp only [MEnd.ctr, List.mem_cons, List.not_mem_nil, or_false] at hc
  rcases hc with rfl | rfl | rfl | rfl | rfl | rfl
  · exact .v _
  · exact .v _
  · exact .v _
  · exact .v _
  · exact .ro _ rfl
  · exact .ro _ rfl

theorem rl_MEndct (x : MEnd) : RoL (MEnd.ct x) (MEnd.ctr x) := (.same rfl (.same rfl (.same rfl (.same rfl (.ro (.sl _ _ (clm k_iC _)) (.ro (.sl _ _ (clm k_iC _)) .nil))))))

theorem wr_MEndct (x : MEnd) : WkL (MEnd.ctr x) (MEnd.ct x) := (.cons (Wk.refl _) (.cons (Wk.refl _) (.cons (Wk.refl _) (.cons (Wk.refl _) (.cons (Wk.ro (Wk.refl _)) (.cons (Wk.ro (Wk.refl _)) .nil))))))

def MBlk.ctr (x : MBlk) : List CT := [.ro (.sl 3 1 (x.Params.map iC)), .ro (.sl 49 8 (x.Ops.map MOp.ct)), .v (.int .i64 x.End.K), .v (.int .i64 x.End.A), .v (.int .i64 x.End.To), .v (.int .i64 x.End.Else), .ro (.sl 3 1 (x.End.L.map iC)), .ro (.sl 3 1 (x.End.M.map iC))]

theorem kr_MBlkct (x : MBlk) : ∀ c ∈ MBlk.ctr x, Cl true c := by
  intro c hc
  simp only [MBlk.ctr, List.mem_cons, List.not_mem_nil, or_false] at hc
  rcases hc with rfl | rfl | rfl | rfl | rfl | rfl | rfl | rfl
  · exact .ro _ rfl
  · exact .ro _ rfl
  · exact .v _
  · exact .v _
  · exact .v _
  · exact .v _
  · exact .ro _ rfl
  · exact .ro _ rfl

theorem rl_MBlkct (x : MBlk) : RoL (MBlk.ct x) (MBlk.ctr x) := (.ro (.sl _ _ (clm k_iC _)) (.ro (.sl _ _ (clm k_MOpct _)) (.same rfl (.same rfl (.same rfl (.same rfl (.ro (.sl _ _ (clm k_iC _)) (.ro (.sl _ _ (clm k_iC _)) .nil))))))))

theorem wr_MBlkct (x : MBlk) : WkL (MBlk.ctr x) (MBlk.ct x) := (.cons (Wk.ro (Wk.refl _)) (.cons (Wk.ro (Wk.refl _)) (.cons (Wk.refl _) (.cons (Wk.refl _) (.cons (Wk.refl _) (.cons (Wk.refl _) (.cons (Wk.ro (Wk.refl _)) (.cons (Wk.ro (Wk.refl _)) .nil))))))))

def MFun.ctr (x : MFun) : List CT := [.v (.int .i64 x.Ret), .ro (.sl 47 8 (x.Blocks.map MBlk.ct))]

theorem kr_MFunct (x : MFun) : ∀ c ∈ MFun.ctr x, Cl true c := by
  intro c hc
  simp only [MFun.ctr, List.mem_cons, List.not_mem_nil, or_false] at hc
  rcases hc with rfl | rfl
  · exact .v _
  · exact .ro _ rfl

theorem rl_MFunct (x : MFun) : RoL (MFun.ct x) (MFun.ctr x) := (.same rfl (.ro (.sl _ _ (clm k_MBlkct _)) .nil))

theorem wr_MFunct (x : MFun) : WkL (MFun.ctr x) (MFun.ct x) := (.cons (Wk.refl _) (.cons (Wk.ro (Wk.refl _)) .nil))

def MPrg.ctr (x : MPrg) : List CT := [.ro (.sl 64 2 (x.Sigs.map MSig.ct)), .ro (.sl 66 2 (x.Classes.map MCls.ct)), .ro (.sl 31 2 (x.Funcs.map MFun.ct))]

theorem kr_MPrgct (x : MPrg) : ∀ c ∈ MPrg.ctr x, Cl true c := by
  intro c hc
  simp only [MPrg.ctr, List.mem_cons, List.not_mem_nil, or_false] at hc
  rcases hc with rfl | rfl | rfl
  · exact .ro _ rfl
  · exact .ro _ rfl
  · exact .ro _ rfl

theorem rl_MPrgct (x : MPrg) : RoL (MPrg.ct x) (MPrg.ctr x) := (.ro (.sl _ _ (clm k_MSigct _)) (.ro (.sl _ _ (clm k_MClsct _)) (.ro (.sl _ _ (clm k_MFunct _)) .nil)))

theorem wr_MPrgct (x : MPrg) : WkL (MPrg.ctr x) (MPrg.ct x) := (.cons (Wk.ro (Wk.refl _)) (.cons (Wk.ro (Wk.refl _)) (.cons (Wk.ro (Wk.refl _)) .nil)))

def MTarget.ctr (x : MTarget) : List CT := [.v (.int .i64 x.To), .ro (.sl 3 1 (x.L.map iC))]

theorem kr_MTargetct (x : MTarget) : ∀ c ∈ MTarget.ctr x, Cl true c := by
  intro c hc
  simp only [MTarget.ctr, List.mem_cons, List.not_mem_nil, or_false] at hc
  rcases hc with rfl | rfl
  · exact .v _
  · exact .ro _ rfl

theorem rl_MTargetct (x : MTarget) : RoL (MTarget.ct x) (MTarget.ctr x) := (.same rfl (.ro (.sl _ _ (clm k_iC _)) .nil))

theorem wr_MTargetct (x : MTarget) : WkL (MTarget.ctr x) (MTarget.ct x) := (.cons (Wk.refl _) (.cons (Wk.ro (Wk.refl _)) .nil))
end Go.Proofs.YtbebdcpakjfgdaaDoor
