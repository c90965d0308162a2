/- Facts about types (printed by wip/deep/tab.py). -/
import Derived.Test.YtbebdcpakjfgdaaDoorDP
import Derived.Test.YtbebdcpakjfgdaaDoorProg
namespace Go.Proofs.YtbebdcpakjfgdaaDoor
open Go Go.RowKit

theorem ty2 : TyI Tryd.prog 2 false 1 := .mk' (by kernel_rfl) (by kernel_rfl)
theorem ty3 : TyI Tryd.prog 3 false 1 := .mk' (by kernel_rfl) (by kernel_rfl)
theorem by3 : (Tryd.prog.info? 3).map (·.bytes) = some 8 := by kernel_rfl
theorem zt3 : ZtI Tryd.prog 3 [.int .i64 0] := .mk' (by kernel_rfl) rfl
theorem ty4 : TyI Tryd.prog 4 false 1 := .mk' (by kernel_rfl) (by kernel_rfl)
theorem by4 : (Tryd.prog.info? 4).map (·.bytes) = some 1 := by kernel_rfl
theorem zt4 : ZtI Tryd.prog 4 [.bool false] := .mk' (by kernel_rfl) rfl
theorem ty5 : TyI Tryd.prog 5 false 1 := .mk' (by kernel_rfl) (by kernel_rfl)
theorem ty9 : TyI Tryd.prog 9 false 1 := .mk' (by kernel_rfl) (by kernel_rfl)
theorem ty22 : TyI Tryd.prog 22 false 1 := .mk' (by kernel_rfl) (by kernel_rfl)
theorem sl22 : SlI Tryd.prog 22 64 2 := .mk' (by kernel_rfl) (by kernel_rfl)
theorem el22 : ElemT Tryd.prog 22 64 2 32 := .mk' (z := .agg #[.slice none 0 0, .int .i64 0]) (by kernel_rfl) (by kernel_rfl) rfl (by decide)
theorem ty23 : TyI Tryd.prog 23 false 1 := .mk' (by kernel_rfl) (by kernel_rfl)
theorem sl23 : SlI Tryd.prog 23 66 2 := .mk' (by kernel_rfl) (by kernel_rfl)
theorem el23 : ElemT Tryd.prog 23 66 2 48 := .mk' (z := .agg #[.slice none 0 0, .slice none 0 0]) (by kernel_rfl) (by kernel_rfl) rfl (by decide)
theorem ty24 : TyI Tryd.prog 24 false 1 := .mk' (by kernel_rfl) (by kernel_rfl)
theorem sl24 : SlI Tryd.prog 24 31 2 := .mk' (by kernel_rfl) (by kernel_rfl)
theorem el24 : ElemT Tryd.prog 24 31 2 32 := .mk' (z := .agg #[.int .i64 0, .slice none 0 0]) (by kernel_rfl) (by kernel_rfl) rfl (by decide)
theorem zt26 : ZtI Tryd.prog 26 [.slice none 0 0, .slice none 0 0, .slice none 0 0] := .mk' (by kernel_rfl) rfl
theorem fd26_0 : FdI Tryd.prog 26 0 0 := .mk' (by kernel_rfl)
theorem fd26_1 : FdI Tryd.prog 26 1 1 := .mk' (by kernel_rfl)
theorem fd26_2 : FdI Tryd.prog 26 2 2 := .mk' (by kernel_rfl)
theorem st26 : StI Tryd.prog 26 [(0, 1), (1, 1), (2, 1)] := .mk' (by kernel_rfl)
theorem ty27 : TyI Tryd.prog 27 false 1 := .mk' (by kernel_rfl) (by kernel_rfl)
theorem by27 : (Tryd.prog.info? 27).map (·.bytes) = some 24 := by kernel_rfl
theorem zt27 : ZtI Tryd.prog 27 [.slice none 0 0] := .mk' (by kernel_rfl) rfl
theorem sl27 : SlI Tryd.prog 27 3 1 := .mk' (by kernel_rfl) (by kernel_rfl)
theorem el27 : ElemT Tryd.prog 27 3 1 8 := .mk' (z := .int .i64 0) (by kernel_rfl) (by kernel_rfl) rfl (by decide)
theorem ty29 : TyI Tryd.prog 29 false 1 := .mk' (by kernel_rfl) (by kernel_rfl)
theorem sl29 : SlI Tryd.prog 29 47 8 := .mk' (by kernel_rfl) (by kernel_rfl)
theorem el29 : ElemT Tryd.prog 29 47 8 128 := .mk' (z := .agg #[.slice none 0 0, .slice none 0 0, .int .i64 0, .int .i64 0, .int .i64 0, .int .i64 0, .slice none 0 0, .slice none 0 0]) (by kernel_rfl) (by kernel_rfl) rfl (by decide)
theorem ty31 : TyI Tryd.prog 31 true 2 := .mk' (by kernel_rfl) (by kernel_rfl)
theorem zt31 : ZtI Tryd.prog 31 [.int .i64 0, .slice none 0 0] := .mk' (by kernel_rfl) rfl
theorem fd31_0 : FdI Tryd.prog 31 0 0 := .mk' (by kernel_rfl)
theorem fd31_1 : FdI Tryd.prog 31 1 1 := .mk' (by kernel_rfl)
theorem st31 : StI Tryd.prog 31 [(0, 1), (1, 1)] := .mk' (by kernel_rfl)
theorem sl39 : SlI Tryd.prog 39 4 1 := .mk' (by kernel_rfl) (by kernel_rfl)
theorem ty44 : TyI Tryd.prog 44 true 6 := .mk' (by kernel_rfl) (by kernel_rfl)
theorem zt44 : ZtI Tryd.prog 44 [.int .i64 0, .int .i64 0, .int .i64 0, .int .i64 0, .slice none 0 0, .slice none 0 0] := .mk' (by kernel_rfl) rfl
theorem fd44_0 : FdI Tryd.prog 44 0 0 := .mk' (by kernel_rfl)
theorem fd44_1 : FdI Tryd.prog 44 1 1 := .mk' (by kernel_rfl)
theorem fd44_2 : FdI Tryd.prog 44 2 2 := .mk' (by kernel_rfl)
theorem fd44_3 : FdI Tryd.prog 44 3 3 := .mk' (by kernel_rfl)
theorem fd44_4 : FdI Tryd.prog 44 4 4 := .mk' (by kernel_rfl)
theorem fd44_5 : FdI Tryd.prog 44 5 5 := .mk' (by kernel_rfl)
theorem st44 : StI Tryd.prog 44 [(0, 1), (1, 1), (2, 1), (3, 1), (4, 1), (5, 1)] := .mk' (by kernel_rfl)
theorem ty45 : TyI Tryd.prog 45 false 1 := .mk' (by kernel_rfl) (by kernel_rfl)
theorem sl45 : SlI Tryd.prog 45 49 8 := .mk' (by kernel_rfl) (by kernel_rfl)
theorem el45 : ElemT Tryd.prog 45 49 8 88 := .mk' (z := .agg #[.int .i64 0, .int .i64 0, .int .i64 0, .int .i64 0, .int .i64 0, .string ⟨#[]⟩, .slice none 0 0, .bool false]) (by kernel_rfl) (by kernel_rfl) rfl (by decide)
theorem ty47 : TyI Tryd.prog 47 true 8 := .mk' (by kernel_rfl) (by kernel_rfl)
theorem zt47 : ZtI Tryd.prog 47 [.slice none 0 0, .slice none 0 0, .int .i64 0, .int .i64 0, .int .i64 0, .int .i64 0, .slice none 0 0, .slice none 0 0] := .mk' (by kernel_rfl) rfl
theorem fd47_0 : FdI Tryd.prog 47 0 0 := .mk' (by kernel_rfl)
theorem fd47_1 : FdI Tryd.prog 47 1 1 := .mk' (by kernel_rfl)
theorem fd47_2 : FdI Tryd.prog 47 2 2 := .mk' (by kernel_rfl)
theorem st47 : StI Tryd.prog 47 [(0, 1), (1, 1), (2, 6)] := .mk' (by kernel_rfl)
theorem ty49 : TyI Tryd.prog 49 true 8 := .mk' (by kernel_rfl) (by kernel_rfl)
theorem zt49 : ZtI Tryd.prog 49 [.int .i64 0, .int .i64 0, .int .i64 0, .int .i64 0, .int .i64 0, .string ⟨#[]⟩, .slice none 0 0, .bool false] := .mk' (by kernel_rfl) rfl
theorem fd49_0 : FdI Tryd.prog 49 0 0 := .mk' (by kernel_rfl)
theorem fd49_1 : FdI Tryd.prog 49 1 1 := .mk' (by kernel_rfl)
theorem fd49_2 : FdI Tryd.prog 49 2 2 := .mk' (by kernel_rfl)
theorem fd49_3 : FdI Tryd.prog 49 3 3 := .mk' (by kernel_rfl)
theorem fd49_4 : FdI Tryd.prog 49 4 4 := .mk' (by kernel_rfl)
theorem fd49_5 : FdI Tryd.prog 49 5 5 := .mk' (by kernel_rfl)
theorem fd49_6 : FdI Tryd.prog 49 6 6 := .mk' (by kernel_rfl)
theorem fd49_7 : FdI Tryd.prog 49 7 7 := .mk' (by kernel_rfl)
theorem st49 : StI Tryd.prog 49 [(0, 1), (1, 1), (2, 1), (3, 1), (4, 1), (5, 1), (6, 1), (7, 1)] := .mk' (by kernel_rfl)
theorem ty55 : TyI Tryd.prog 55 false 1 := .mk' (by kernel_rfl) (by kernel_rfl)
theorem ty64 : TyI Tryd.prog 64 true 2 := .mk' (by kernel_rfl) (by kernel_rfl)
theorem zt64 : ZtI Tryd.prog 64 [.slice none 0 0, .int .i64 0] := .mk' (by kernel_rfl) rfl
theorem fd64_0 : FdI Tryd.prog 64 0 0 := .mk' (by kernel_rfl)
theorem fd64_1 : FdI Tryd.prog 64 1 1 := .mk' (by kernel_rfl)
theorem st64 : StI Tryd.prog 64 [(0, 1), (1, 1)] := .mk' (by kernel_rfl)
theorem ty66 : TyI Tryd.prog 66 true 2 := .mk' (by kernel_rfl) (by kernel_rfl)
theorem zt66 : ZtI Tryd.prog 66 [.slice none 0 0, .slice none 0 0] := .mk' (by kernel_rfl) rfl
theorem fd66_0 : FdI Tryd.prog 66 0 0 := .mk' (by kernel_rfl)
theorem fd66_1 : FdI Tryd.prog 66 1 1 := .mk' (by kernel_rfl)
theorem st66 : StI Tryd.prog 66 [(0, 1), (1, 1)] := .mk' (by kernel_rfl)
theorem sl73 : SlI Tryd.prog 73 27 1 := .mk' (by kernel_rfl) (by kernel_rfl)
theorem ty82 : TyI Tryd.prog 82 false 1 := .mk' (by kernel_rfl) (by kernel_rfl)
theorem ty83 : TyI Tryd.prog 83 false 1 := .mk' (by kernel_rfl) (by kernel_rfl)
theorem zt83 : ZtI Tryd.prog 83 [.pointer none] := .mk' (by kernel_rfl) rfl
theorem sl90 : SlI Tryd.prog 90 5 1 := .mk' (by kernel_rfl) (by kernel_rfl)
theorem sl92 : SlI Tryd.prog 92 83 1 := .mk' (by kernel_rfl) (by kernel_rfl)
theorem ty98 : TyI Tryd.prog 98 true 2 := .mk' (by kernel_rfl) (by kernel_rfl)
theorem zt98 : ZtI Tryd.prog 98 [.int .i64 0, .slice none 0 0] := .mk' (by kernel_rfl) rfl
theorem fd98_0 : FdI Tryd.prog 98 0 0 := .mk' (by kernel_rfl)
theorem st98 : StI Tryd.prog 98 [(0, 1), (1, 1)] := .mk' (by kernel_rfl)
theorem zt108 : ZtI Tryd.prog 108 [.int .i64 0, .int .i64 0] := .mk' (by kernel_rfl) rfl
theorem fd108_0 : FdI Tryd.prog 108 0 0 := .mk' (by kernel_rfl)
theorem fd108_1 : FdI Tryd.prog 108 1 1 := .mk' (by kernel_rfl)
theorem st108 : StI Tryd.prog 108 [(0, 1), (1, 1)] := .mk' (by kernel_rfl)
theorem sl109 : SlI Tryd.prog 109 108 2 := .mk' (by kernel_rfl) (by kernel_rfl)
theorem el109 : ElemT Tryd.prog 109 108 2 16 := .mk' (z := .agg #[.int .i64 0, .int .i64 0]) (by kernel_rfl) (by kernel_rfl) rfl (by decide)
end Go.Proofs.YtbebdcpakjfgdaaDoor

