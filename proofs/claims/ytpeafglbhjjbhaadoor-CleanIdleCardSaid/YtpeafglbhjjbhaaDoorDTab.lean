/- Facts about types (printed by wip/deep/tab.py). -/
import Derived.Test.YtpeafglbhjjbhaaDoorDP
import Derived.Test.YtpeafglbhjjbhaaDoorProg
namespace Go.Proofs.YtpeafglbhjjbhaaDoor
open Go Go.RowKit

theorem ty2 : TyI Tryd.prog 2 false 1 := .mk' (by kernel_rfl) (by kernel_rfl)
theorem ty3 : TyI Tryd.prog 3 false 1 := .mk' (by kernel_rfl) (by kernel_rfl)
theorem by3 : (Tryd.prog.info? 3).map (·.bytes) = some 8 := by kernel_rfl
theorem zt3 : ZtI Tryd.prog 3 [.int .i64 0] := .mk' (by kernel_rfl) rfl
theorem ty4 : TyI Tryd.prog 4 false 1 := .mk' (by kernel_rfl) (by kernel_rfl)
theorem by4 : (Tryd.prog.info? 4).map (·.bytes) = some 1 := by kernel_rfl
theorem zt4 : ZtI Tryd.prog 4 [.bool false] := .mk' (by kernel_rfl) rfl
theorem ty5 : TyI Tryd.prog 5 false 1 := .mk' (by kernel_rfl) (by kernel_rfl)
theorem ty9 : TyI Tryd.prog 9 false 1 := .mk' (by kernel_rfl) (by kernel_rfl)
theorem ty22 : TyI Tryd.prog 22 false 1 := .mk' (by kernel_rfl) (by kernel_rfl)
theorem sl22 : SlI Tryd.prog 22 40 2 := .mk' (by kernel_rfl) (by kernel_rfl)
theorem el22 : ElemT Tryd.prog 22 40 2 32 := .mk' (z := .agg #[.slice none 0 0, .int .i64 0]) (by kernel_rfl) (by kernel_rfl) rfl (by decide)
theorem ty23 : TyI Tryd.prog 23 false 1 := .mk' (by kernel_rfl) (by kernel_rfl)
theorem sl23 : SlI Tryd.prog 23 42 2 := .mk' (by kernel_rfl) (by kernel_rfl)
theorem el23 : ElemT Tryd.prog 23 42 2 48 := .mk' (z := .agg #[.slice none 0 0, .slice none 0 0]) (by kernel_rfl) (by kernel_rfl) rfl (by decide)
theorem ty24 : TyI Tryd.prog 24 false 1 := .mk' (by kernel_rfl) (by kernel_rfl)
theorem sl24 : SlI Tryd.prog 24 33 2 := .mk' (by kernel_rfl) (by kernel_rfl)
theorem el24 : ElemT Tryd.prog 24 33 2 32 := .mk' (z := .agg #[.int .i64 0, .slice none 0 0]) (by kernel_rfl) (by kernel_rfl) rfl (by decide)
theorem zt26 : ZtI Tryd.prog 26 [.slice none 0 0, .slice none 0 0, .slice none 0 0] := .mk' (by kernel_rfl) rfl
theorem fd26_0 : FdI Tryd.prog 26 0 0 := .mk' (by kernel_rfl)
theorem fd26_1 : FdI Tryd.prog 26 1 1 := .mk' (by kernel_rfl)
theorem fd26_2 : FdI Tryd.prog 26 2 2 := .mk' (by kernel_rfl)
theorem st26 : StI Tryd.prog 26 [(0, 1), (1, 1), (2, 1)] := .mk' (by kernel_rfl)
theorem ty29 : TyI Tryd.prog 29 false 1 := .mk' (by kernel_rfl) (by kernel_rfl)
theorem by29 : (Tryd.prog.info? 29).map (·.bytes) = some 24 := by kernel_rfl
theorem zt29 : ZtI Tryd.prog 29 [.slice none 0 0] := .mk' (by kernel_rfl) rfl
theorem sl29 : SlI Tryd.prog 29 3 1 := .mk' (by kernel_rfl) (by kernel_rfl)
theorem el29 : ElemT Tryd.prog 29 3 1 8 := .mk' (z := .int .i64 0) (by kernel_rfl) (by kernel_rfl) rfl (by decide)
theorem ty31 : TyI Tryd.prog 31 false 1 := .mk' (by kernel_rfl) (by kernel_rfl)
theorem sl31 : SlI Tryd.prog 31 47 8 := .mk' (by kernel_rfl) (by kernel_rfl)
theorem el31 : ElemT Tryd.prog 31 47 8 128 := .mk' (z := .agg #[.slice none 0 0, .slice none 0 0, .int .i64 0, .int .i64 0, .int .i64 0, .int .i64 0, .slice none 0 0, .slice none 0 0]) (by kernel_rfl) (by kernel_rfl) rfl (by decide)
theorem ty33 : TyI Tryd.prog 33 true 2 := .mk' (by kernel_rfl) (by kernel_rfl)
theorem zt33 : ZtI Tryd.prog 33 [.int .i64 0, .slice none 0 0] := .mk' (by kernel_rfl) rfl
theorem fd33_0 : FdI Tryd.prog 33 0 0 := .mk' (by kernel_rfl)
theorem fd33_1 : FdI Tryd.prog 33 1 1 := .mk' (by kernel_rfl)
theorem st33 : StI Tryd.prog 33 [(0, 1), (1, 1)] := .mk' (by kernel_rfl)
theorem ty40 : TyI Tryd.prog 40 true 2 := .mk' (by kernel_rfl) (by kernel_rfl)
theorem zt40 : ZtI Tryd.prog 40 [.slice none 0 0, .int .i64 0] := .mk' (by kernel_rfl) rfl
theorem fd40_0 : FdI Tryd.prog 40 0 0 := .mk' (by kernel_rfl)
theorem fd40_1 : FdI Tryd.prog 40 1 1 := .mk' (by kernel_rfl)
theorem st40 : StI Tryd.prog 40 [(0, 1), (1, 1)] := .mk' (by kernel_rfl)
theorem ty42 : TyI Tryd.prog 42 true 2 := .mk' (by kernel_rfl) (by kernel_rfl)
theorem zt42 : ZtI Tryd.prog 42 [.slice none 0 0, .slice none 0 0] := .mk' (by kernel_rfl) rfl
theorem fd42_0 : FdI Tryd.prog 42 0 0 := .mk' (by kernel_rfl)
theorem fd42_1 : FdI Tryd.prog 42 1 1 := .mk' (by kernel_rfl)
theorem st42 : StI Tryd.prog 42 [(0, 1), (1, 1)] := .mk' (by kernel_rfl)
theorem ty43 : TyI Tryd.prog 43 false 1 := .mk' (by kernel_rfl) (by kernel_rfl)
theorem sl43 : SlI Tryd.prog 43 49 8 := .mk' (by kernel_rfl) (by kernel_rfl)
theorem el43 : ElemT Tryd.prog 43 49 8 88 := .mk' (z := .agg #[.int .i64 0, .int .i64 0, .int .i64 0, .int .i64 0, .int .i64 0, .string ⟨#[]⟩, .slice none 0 0, .bool false]) (by kernel_rfl) (by kernel_rfl) rfl (by decide)
theorem ty45 : TyI Tryd.prog 45 true 6 := .mk' (by kernel_rfl) (by kernel_rfl)
theorem zt45 : ZtI Tryd.prog 45 [.int .i64 0, .int .i64 0, .int .i64 0, .int .i64 0, .slice none 0 0, .slice none 0 0] := .mk' (by kernel_rfl) rfl
theorem fd45_0 : FdI Tryd.prog 45 0 0 := .mk' (by kernel_rfl)
theorem fd45_1 : FdI Tryd.prog 45 1 1 := .mk' (by kernel_rfl)
theorem fd45_2 : FdI Tryd.prog 45 2 2 := .mk' (by kernel_rfl)
theorem fd45_3 : FdI Tryd.prog 45 3 3 := .mk' (by kernel_rfl)
theorem fd45_4 : FdI Tryd.prog 45 4 4 := .mk' (by kernel_rfl)
theorem fd45_5 : FdI Tryd.prog 45 5 5 := .mk' (by kernel_rfl)
theorem st45 : StI Tryd.prog 45 [(0, 1), (1, 1), (2, 1), (3, 1), (4, 1), (5, 1)] := .mk' (by kernel_rfl)
theorem ty47 : TyI Tryd.prog 47 true 8 := .mk' (by kernel_rfl) (by kernel_rfl)
theorem zt47 : ZtI Tryd.prog 47 [.slice none 0 0, .slice none 0 0, .int .i64 0, .int .i64 0, .int .i64 0, .int .i64 0, .slice none 0 0, .slice none 0 0] := .mk' (by kernel_rfl) rfl
theorem fd47_0 : FdI Tryd.prog 47 0 0 := .mk' (by kernel_rfl)
theorem fd47_1 : FdI Tryd.prog 47 1 1 := .mk' (by kernel_rfl)
theorem fd47_2 : FdI Tryd.prog 47 2 2 := .mk' (by kernel_rfl)
theorem st47 : StI Tryd.prog 47 [(0, 1), (1, 1), (2, 6)] := .mk' (by kernel_rfl)
theorem ty49 : TyI Tryd.prog 49 true 8 := .mk' (by kernel_rfl) (by kernel_rfl)
theorem zt49 : ZtI Tryd.prog 49 [.int .i64 0, .int .i64 0, .int .i64 0, .int .i64 0, .int .i64 0, .string ⟨#[]⟩, .slice none 0 0, .bool false] := .mk' (by kernel_rfl) rfl
theorem fd49_0 : FdI Tryd.prog 49 0 0 := .mk' (by kernel_rfl)
theorem fd49_1 : FdI Tryd.prog 49 1 1 := .mk' (by kernel_rfl)
theorem fd49_2 : FdI Tryd.prog 49 2 2 := .mk' (by kernel_rfl)
theorem fd49_3 : FdI Tryd.prog 49 3 3 := .mk' (by kernel_rfl)
theorem fd49_4 : FdI Tryd.prog 49 4 4 := .mk' (by kernel_rfl)
theorem fd49_5 : FdI Tryd.prog 49 5 5 := .mk' (by kernel_rfl)
theorem fd49_6 : FdI Tryd.prog 49 6 6 := .mk' (by kernel_rfl)
theorem fd49_7 : FdI Tryd.prog 49 7 7 := .mk' (by kernel_rfl)
theorem st49 : StI Tryd.prog 49 [(0, 1), (1, 1), (2, 1), (3, 1), (4, 1), (5, 1), (6, 1), (7, 1)] := .mk' (by kernel_rfl)
theorem ty52 : TyI Tryd.prog 52 false 1 := .mk' (by kernel_rfl) (by kernel_rfl)
theorem sl52 : SlI Tryd.prog 52 4 1 := .mk' (by kernel_rfl) (by kernel_rfl)
theorem zt59 : ZtI Tryd.prog 59 [.int .i64 0, .int .i64 0, .int .i64 0] := .mk' (by kernel_rfl) rfl
theorem st59 : StI Tryd.prog 59 [(0, 1), (1, 1), (2, 1)] := .mk' (by kernel_rfl)
theorem ty62 : TyI Tryd.prog 62 false 1 := .mk' (by kernel_rfl) (by kernel_rfl)
theorem ty65 : TyI Tryd.prog 65 false 1 := .mk' (by kernel_rfl) (by kernel_rfl)
theorem zt65 : ZtI Tryd.prog 65 [.slice none 0 0] := .mk' (by kernel_rfl) rfl
theorem sl65 : SlI Tryd.prog 65 68 2 := .mk' (by kernel_rfl) (by kernel_rfl)
theorem el65 : ElemT Tryd.prog 65 68 2 32 := .mk' (z := .agg #[.int .i64 0, .slice none 0 0]) (by kernel_rfl) (by kernel_rfl) rfl (by decide)
theorem ty68 : TyI Tryd.prog 68 true 2 := .mk' (by kernel_rfl) (by kernel_rfl)
theorem zt68 : ZtI Tryd.prog 68 [.int .i64 0, .slice none 0 0] := .mk' (by kernel_rfl) rfl
theorem fd68_0 : FdI Tryd.prog 68 0 0 := .mk' (by kernel_rfl)
theorem fd68_1 : FdI Tryd.prog 68 1 1 := .mk' (by kernel_rfl)
theorem st68 : StI Tryd.prog 68 [(0, 1), (1, 1)] := .mk' (by kernel_rfl)
theorem sl71 : SlI Tryd.prog 71 29 1 := .mk' (by kernel_rfl) (by kernel_rfl)
theorem ty90 : TyI Tryd.prog 90 false 1 := .mk' (by kernel_rfl) (by kernel_rfl)
theorem ty91 : TyI Tryd.prog 91 false 1 := .mk' (by kernel_rfl) (by kernel_rfl)
theorem zt91 : ZtI Tryd.prog 91 [.pointer none] := .mk' (by kernel_rfl) rfl
theorem sl102 : SlI Tryd.prog 102 5 1 := .mk' (by kernel_rfl) (by kernel_rfl)
theorem sl104 : SlI Tryd.prog 104 91 1 := .mk' (by kernel_rfl) (by kernel_rfl)
theorem zt110 : ZtI Tryd.prog 110 [.int .i64 0, .int .i64 0] := .mk' (by kernel_rfl) rfl
theorem fd110_0 : FdI Tryd.prog 110 0 0 := .mk' (by kernel_rfl)
theorem fd110_1 : FdI Tryd.prog 110 1 1 := .mk' (by kernel_rfl)
theorem st110 : StI Tryd.prog 110 [(0, 1), (1, 1)] := .mk' (by kernel_rfl)
theorem sl111 : SlI Tryd.prog 111 110 2 := .mk' (by kernel_rfl) (by kernel_rfl)
theorem el111 : ElemT Tryd.prog 111 110 2 16 := .mk' (z := .agg #[.int .i64 0, .int .i64 0]) (by kernel_rfl) (by kernel_rfl) rfl (by decide)
end Go.Proofs.YtpeafglbhjjbhaaDoor

