/- Facts about types (printed by wip/deep/tab.py). -/
import Derived.Test.YtbebdcpakjfgdaaDoorDP
import Derived.Test.YtbebdcpakjfgdaaDoorProg
namespace Go.Proofs.YtbebdcpakjfgdaaDoor
open Go Go.RowKit

theorem ty1 : TyI Tryd.prog 1 false 1 := .mk' (by kernel_rfl) (by kernel_rfl)
theorem by1 : (Tryd.prog.info? 1).map (·.bytes) = some 8 := by kernel_rfl
theorem zt1 : ZtI Tryd.prog 1 [.nilFunc] := .mk' (by kernel_rfl) rfl
theorem ty2 : TyI Tryd.prog 2 false 1 := .mk' (by kernel_rfl) (by kernel_rfl)
theorem by2 : (Tryd.prog.info? 2).map (·.bytes) = some 8 := by kernel_rfl
theorem zt2 : ZtI Tryd.prog 2 [.int .i64 0] := .mk' (by kernel_rfl) rfl
theorem ty3 : TyI Tryd.prog 3 false 1 := .mk' (by kernel_rfl) (by kernel_rfl)
theorem by3 : (Tryd.prog.info? 3).map (·.bytes) = some 8 := by kernel_rfl
theorem zt3 : ZtI Tryd.prog 3 [.int .i64 0] := .mk' (by kernel_rfl) rfl
theorem ty4 : TyI Tryd.prog 4 false 1 := .mk' (by kernel_rfl) (by kernel_rfl)
theorem by4 : (Tryd.prog.info? 4).map (·.bytes) = some 1 := by kernel_rfl
theorem zt4 : ZtI Tryd.prog 4 [.bool false] := .mk' (by kernel_rfl) rfl
theorem ty5 : TyI Tryd.prog 5 false 1 := .mk' (by kernel_rfl) (by kernel_rfl)
theorem by5 : (Tryd.prog.info? 5).map (·.bytes) = some 1 := by kernel_rfl
theorem zt5 : ZtI Tryd.prog 5 [.int .u8 0] := .mk' (by kernel_rfl) rfl
theorem ty9 : TyI Tryd.prog 9 false 1 := .mk' (by kernel_rfl) (by kernel_rfl)
theorem by9 : (Tryd.prog.info? 9).map (·.bytes) = some 16 := by kernel_rfl
theorem zt9 : ZtI Tryd.prog 9 [.string ⟨#[]⟩] := .mk' (by kernel_rfl) rfl
theorem ty12 : TyI Tryd.prog 12 false 1 := .mk' (by kernel_rfl) (by kernel_rfl)
theorem by12 : (Tryd.prog.info? 12).map (·.bytes) = some 8 := by kernel_rfl
theorem zt12 : ZtI Tryd.prog 12 [.int .u64 0] := .mk' (by kernel_rfl) rfl
theorem ty21 : TyI Tryd.prog 21 false 1 := .mk' (by kernel_rfl) (by kernel_rfl)
theorem by21 : (Tryd.prog.info? 21).map (·.bytes) = some 4 := by kernel_rfl
theorem zt21 : ZtI Tryd.prog 21 [.int .i32 0] := .mk' (by kernel_rfl) rfl
theorem ty22 : TyI Tryd.prog 22 false 1 := .mk' (by kernel_rfl) (by kernel_rfl)
theorem by22 : (Tryd.prog.info? 22).map (·.bytes) = some 24 := by kernel_rfl
theorem zt22 : ZtI Tryd.prog 22 [.slice none 0 0] := .mk' (by kernel_rfl) rfl
theorem sl22 : SlI Tryd.prog 22 64 2 := .mk' (by kernel_rfl) (by kernel_rfl)
theorem el22 : ElemT Tryd.prog 22 64 2 32 := .mk' (z := .agg #[.slice none 0 0, .int .i64 0]) (by kernel_rfl) (by kernel_rfl) rfl (by decide)
theorem ty23 : TyI Tryd.prog 23 false 1 := .mk' (by kernel_rfl) (by kernel_rfl)
theorem by23 : (Tryd.prog.info? 23).map (·.bytes) = some 24 := by kernel_rfl
theorem zt23 : ZtI Tryd.prog 23 [.slice none 0 0] := .mk' (by kernel_rfl) rfl
theorem sl23 : SlI Tryd.prog 23 66 2 := .mk' (by kernel_rfl) (by kernel_rfl)
theorem el23 : ElemT Tryd.prog 23 66 2 48 := .mk' (z := .agg #[.slice none 0 0, .slice none 0 0]) (by kernel_rfl) (by kernel_rfl) rfl (by decide)
theorem ty24 : TyI Tryd.prog 24 false 1 := .mk' (by kernel_rfl) (by kernel_rfl)
theorem by24 : (Tryd.prog.info? 24).map (·.bytes) = some 24 := by kernel_rfl
theorem zt24 : ZtI Tryd.prog 24 [.slice none 0 0] := .mk' (by kernel_rfl) rfl
theorem sl24 : SlI Tryd.prog 24 31 2 := .mk' (by kernel_rfl) (by kernel_rfl)
theorem el24 : ElemT Tryd.prog 24 31 2 32 := .mk' (z := .agg #[.int .i64 0, .slice none 0 0]) (by kernel_rfl) (by kernel_rfl) rfl (by decide)
theorem ty25 : TyI Tryd.prog 25 true 3 := .mk' (by kernel_rfl) (by kernel_rfl)
theorem by25 : (Tryd.prog.info? 25).map (·.bytes) = some 72 := by kernel_rfl
theorem zt25 : ZtI Tryd.prog 25 [.slice none 0 0, .slice none 0 0, .slice none 0 0] := .mk' (by kernel_rfl) rfl
theorem fd25_0 : FdI Tryd.prog 25 0 0 := .mk' (by kernel_rfl)
theorem fv25_0 : FvI Tryd.prog 25 0 0 false 1 := .mk' (by kernel_rfl)
theorem fd25_1 : FdI Tryd.prog 25 1 1 := .mk' (by kernel_rfl)
theorem fv25_1 : FvI Tryd.prog 25 1 1 false 1 := .mk' (by kernel_rfl)
theorem fd25_2 : FdI Tryd.prog 25 2 2 := .mk' (by kernel_rfl)
theorem fv25_2 : FvI Tryd.prog 25 2 2 false 1 := .mk' (by kernel_rfl)
theorem st25 : StI Tryd.prog 25 [(0, 1), (1, 1), (2, 1)] := .mk' (by kernel_rfl)
theorem ty26 : TyI Tryd.prog 26 true 3 := .mk' (by kernel_rfl) (by kernel_rfl)
theorem by26 : (Tryd.prog.info? 26).map (·.bytes) = some 72 := by kernel_rfl
theorem zt26 : ZtI Tryd.prog 26 [.slice none 0 0, .slice none 0 0, .slice none 0 0] := .mk' (by kernel_rfl) rfl
theorem fd26_0 : FdI Tryd.prog 26 0 0 := .mk' (by kernel_rfl)
theorem fv26_0 : FvI Tryd.prog 26 0 0 false 1 := .mk' (by kernel_rfl)
theorem fd26_1 : FdI Tryd.prog 26 1 1 := .mk' (by kernel_rfl)
theorem fv26_1 : FvI Tryd.prog 26 1 1 false 1 := .mk' (by kernel_rfl)
theorem fd26_2 : FdI Tryd.prog 26 2 2 := .mk' (by kernel_rfl)
theorem fv26_2 : FvI Tryd.prog 26 2 2 false 1 := .mk' (by kernel_rfl)
theorem st26 : StI Tryd.prog 26 [(0, 1), (1, 1), (2, 1)] := .mk' (by kernel_rfl)
theorem ty27 : TyI Tryd.prog 27 false 1 := .mk' (by kernel_rfl) (by kernel_rfl)
theorem by27 : (Tryd.prog.info? 27).map (·.bytes) = some 24 := by kernel_rfl
theorem zt27 : ZtI Tryd.prog 27 [.slice none 0 0] := .mk' (by kernel_rfl) rfl
theorem sl27 : SlI Tryd.prog 27 3 1 := .mk' (by kernel_rfl) (by kernel_rfl)
theorem el27 : ElemT Tryd.prog 27 3 1 8 := .mk' (z := .int .i64 0) (by kernel_rfl) (by kernel_rfl) rfl (by decide)
theorem ty28 : TyI Tryd.prog 28 false 1 := .mk' (by kernel_rfl) (by kernel_rfl)
theorem by28 : (Tryd.prog.info? 28).map (·.bytes) = some 8 := by kernel_rfl
theorem zt28 : ZtI Tryd.prog 28 [.pointer none] := .mk' (by kernel_rfl) rfl
theorem ty29 : TyI Tryd.prog 29 false 1 := .mk' (by kernel_rfl) (by kernel_rfl)
theorem by29 : (Tryd.prog.info? 29).map (·.bytes) = some 24 := by kernel_rfl
theorem zt29 : ZtI Tryd.prog 29 [.slice none 0 0] := .mk' (by kernel_rfl) rfl
theorem sl29 : SlI Tryd.prog 29 47 8 := .mk' (by kernel_rfl) (by kernel_rfl)
theorem el29 : ElemT Tryd.prog 29 47 8 128 := .mk' (z := .agg #[.slice none 0 0, .slice none 0 0, .int .i64 0, .int .i64 0, .int .i64 0, .int .i64 0, .slice none 0 0, .slice none 0 0]) (by kernel_rfl) (by kernel_rfl) rfl (by decide)
theorem ty30 : TyI Tryd.prog 30 true 2 := .mk' (by kernel_rfl) (by kernel_rfl)
theorem by30 : (Tryd.prog.info? 30).map (·.bytes) = some 32 := by kernel_rfl
theorem zt30 : ZtI Tryd.prog 30 [.int .i64 0, .slice none 0 0] := .mk' (by kernel_rfl) rfl
theorem fd30_0 : FdI Tryd.prog 30 0 0 := .mk' (by kernel_rfl)
theorem fv30_0 : FvI Tryd.prog 30 0 0 false 1 := .mk' (by kernel_rfl)
theorem fd30_1 : FdI Tryd.prog 30 1 1 := .mk' (by kernel_rfl)
theorem fv30_1 : FvI Tryd.prog 30 1 1 false 1 := .mk' (by kernel_rfl)
theorem st30 : StI Tryd.prog 30 [(0, 1), (1, 1)] := .mk' (by kernel_rfl)
theorem ty31 : TyI Tryd.prog 31 true 2 := .mk' (by kernel_rfl) (by kernel_rfl)
theorem by31 : (Tryd.prog.info? 31).map (·.bytes) = some 32 := by kernel_rfl
theorem zt31 : ZtI Tryd.prog 31 [.int .i64 0, .slice none 0 0] := .mk' (by kernel_rfl) rfl
theorem fd31_0 : FdI Tryd.prog 31 0 0 := .mk' (by kernel_rfl)
theorem fv31_0 : FvI Tryd.prog 31 0 0 false 1 := .mk' (by kernel_rfl)
theorem fd31_1 : FdI Tryd.prog 31 1 1 := .mk' (by kernel_rfl)
theorem fv31_1 : FvI Tryd.prog 31 1 1 false 1 := .mk' (by kernel_rfl)
theorem st31 : StI Tryd.prog 31 [(0, 1), (1, 1)] := .mk' (by kernel_rfl)
theorem ty33 : TyI Tryd.prog 33 false 1 := .mk' (by kernel_rfl) (by kernel_rfl)
theorem by33 : (Tryd.prog.info? 33).map (·.bytes) = some 8 := by kernel_rfl
theorem zt33 : ZtI Tryd.prog 33 [.nilFunc] := .mk' (by kernel_rfl) rfl
theorem ty34 : TyI Tryd.prog 34 false 1 := .mk' (by kernel_rfl) (by kernel_rfl)
theorem by34 : (Tryd.prog.info? 34).map (·.bytes) = some 8 := by kernel_rfl
theorem zt34 : ZtI Tryd.prog 34 [.nilFunc] := .mk' (by kernel_rfl) rfl
theorem ty35 : TyI Tryd.prog 35 false 1 := .mk' (by kernel_rfl) (by kernel_rfl)
theorem by35 : (Tryd.prog.info? 35).map (·.bytes) = some 8 := by kernel_rfl
theorem zt35 : ZtI Tryd.prog 35 [.nilFunc] := .mk' (by kernel_rfl) rfl
theorem ty36 : TyI Tryd.prog 36 false 1 := .mk' (by kernel_rfl) (by kernel_rfl)
theorem by36 : (Tryd.prog.info? 36).map (·.bytes) = some 8 := by kernel_rfl
theorem zt36 : ZtI Tryd.prog 36 [.nilFunc] := .mk' (by kernel_rfl) rfl
theorem ty37 : TyI Tryd.prog 37 false 1 := .mk' (by kernel_rfl) (by kernel_rfl)
theorem by37 : (Tryd.prog.info? 37).map (·.bytes) = some 8 := by kernel_rfl
theorem zt37 : ZtI Tryd.prog 37 [.nilFunc] := .mk' (by kernel_rfl) rfl
theorem ty38 : TyI Tryd.prog 38 false 1 := .mk' (by kernel_rfl) (by kernel_rfl)
theorem by38 : (Tryd.prog.info? 38).map (·.bytes) = some 8 := by kernel_rfl
theorem zt38 : ZtI Tryd.prog 38 [.nilFunc] := .mk' (by kernel_rfl) rfl
theorem ty39 : TyI Tryd.prog 39 false 1 := .mk' (by kernel_rfl) (by kernel_rfl)
theorem by39 : (Tryd.prog.info? 39).map (·.bytes) = some 24 := by kernel_rfl
theorem zt39 : ZtI Tryd.prog 39 [.slice none 0 0] := .mk' (by kernel_rfl) rfl
theorem sl39 : SlI Tryd.prog 39 4 1 := .mk' (by kernel_rfl) (by kernel_rfl)
theorem el39 : ElemT Tryd.prog 39 4 1 1 := .mk' (z := .bool false) (by kernel_rfl) (by kernel_rfl) rfl (by decide)
theorem ty40 : TyI Tryd.prog 40 false 1 := .mk' (by kernel_rfl) (by kernel_rfl)
theorem by40 : (Tryd.prog.info? 40).map (·.bytes) = some 8 := by kernel_rfl
theorem zt40 : ZtI Tryd.prog 40 [.nilFunc] := .mk' (by kernel_rfl) rfl
theorem ty41 : TyI Tryd.prog 41 false 1 := .mk' (by kernel_rfl) (by kernel_rfl)
theorem by41 : (Tryd.prog.info? 41).map (·.bytes) = some 8 := by kernel_rfl
theorem zt41 : ZtI Tryd.prog 41 [.nilFunc] := .mk' (by kernel_rfl) rfl
theorem ty42 : TyI Tryd.prog 42 false 1 := .mk' (by kernel_rfl) (by kernel_rfl)
theorem by42 : (Tryd.prog.info? 42).map (·.bytes) = some 8 := by kernel_rfl
theorem zt42 : ZtI Tryd.prog 42 [.nilFunc] := .mk' (by kernel_rfl) rfl
theorem ty43 : TyI Tryd.prog 43 true 6 := .mk' (by kernel_rfl) (by kernel_rfl)
theorem by43 : (Tryd.prog.info? 43).map (·.bytes) = some 80 := by kernel_rfl
theorem zt43 : ZtI Tryd.prog 43 [.int .i64 0, .int .i64 0, .int .i64 0, .int .i64 0, .slice none 0 0, .slice none 0 0] := .mk' (by kernel_rfl) rfl
theorem fd43_0 : FdI Tryd.prog 43 0 0 := .mk' (by kernel_rfl)
theorem fv43_0 : FvI Tryd.prog 43 0 0 false 1 := .mk' (by kernel_rfl)
theorem fd43_1 : FdI Tryd.prog 43 1 1 := .mk' (by kernel_rfl)
theorem fv43_1 : FvI Tryd.prog 43 1 1 false 1 := .mk' (by kernel_rfl)
theorem fd43_2 : FdI Tryd.prog 43 2 2 := .mk' (by kernel_rfl)
theorem fv43_2 : FvI Tryd.prog 43 2 2 false 1 := .mk' (by kernel_rfl)
theorem fd43_3 : FdI Tryd.prog 43 3 3 := .mk' (by kernel_rfl)
theorem fv43_3 : FvI Tryd.prog 43 3 3 false 1 := .mk' (by kernel_rfl)
theorem fd43_4 : FdI Tryd.prog 43 4 4 := .mk' (by kernel_rfl)
theorem fv43_4 : FvI Tryd.prog 43 4 4 false 1 := .mk' (by kernel_rfl)
theorem fd43_5 : FdI Tryd.prog 43 5 5 := .mk' (by kernel_rfl)
theorem fv43_5 : FvI Tryd.prog 43 5 5 false 1 := .mk' (by kernel_rfl)
theorem st43 : StI Tryd.prog 43 [(0, 1), (1, 1), (2, 1), (3, 1), (4, 1), (5, 1)] := .mk' (by kernel_rfl)
theorem ty44 : TyI Tryd.prog 44 true 6 := .mk' (by kernel_rfl) (by kernel_rfl)
theorem by44 : (Tryd.prog.info? 44).map (·.bytes) = some 80 := by kernel_rfl
theorem zt44 : ZtI Tryd.prog 44 [.int .i64 0, .int .i64 0, .int .i64 0, .int .i64 0, .slice none 0 0, .slice none 0 0] := .mk' (by kernel_rfl) rfl
theorem fd44_0 : FdI Tryd.prog 44 0 0 := .mk' (by kernel_rfl)
theorem fv44_0 : FvI Tryd.prog 44 0 0 false 1 := .mk' (by kernel_rfl)
theorem fd44_1 : FdI Tryd.prog 44 1 1 := .mk' (by kernel_rfl)
theorem fv44_1 : FvI Tryd.prog 44 1 1 false 1 := .mk' (by kernel_rfl)
theorem fd44_2 : FdI Tryd.prog 44 2 2 := .mk' (by kernel_rfl)
theorem fv44_2 : FvI Tryd.prog 44 2 2 false 1 := .mk' (by kernel_rfl)
theorem fd44_3 : FdI Tryd.prog 44 3 3 := .mk' (by kernel_rfl)
theorem fv44_3 : FvI Tryd.prog 44 3 3 false 1 := .mk' (by kernel_rfl)
theorem fd44_4 : FdI Tryd.prog 44 4 4 := .mk' (by kernel_rfl)
theorem fv44_4 : FvI Tryd.prog 44 4 4 false 1 := .mk' (by kernel_rfl)
theorem fd44_5 : FdI Tryd.prog 44 5 5 := .mk' (by kernel_rfl)
theorem fv44_5 : FvI Tryd.prog 44 5 5 false 1 := .mk' (by kernel_rfl)
theorem st44 : StI Tryd.prog 44 [(0, 1), (1, 1), (2, 1), (3, 1), (4, 1), (5, 1)] := .mk' (by kernel_rfl)
theorem ty45 : TyI Tryd.prog 45 false 1 := .mk' (by kernel_rfl) (by kernel_rfl)
theorem by45 : (Tryd.prog.info? 45).map (·.bytes) = some 24 := by kernel_rfl
theorem zt45 : ZtI Tryd.prog 45 [.slice none 0 0] := .mk' (by kernel_rfl) rfl
theorem sl45 : SlI Tryd.prog 45 49 8 := .mk' (by kernel_rfl) (by kernel_rfl)
theorem el45 : ElemT Tryd.prog 45 49 8 88 := .mk' (z := .agg #[.int .i64 0, .int .i64 0, .int .i64 0, .int .i64 0, .int .i64 0, .string ⟨#[]⟩, .slice none 0 0, .bool false]) (by kernel_rfl) (by kernel_rfl) rfl (by decide)
theorem ty46 : TyI Tryd.prog 46 true 8 := .mk' (by kernel_rfl) (by kernel_rfl)
theorem by46 : (Tryd.prog.info? 46).map (·.bytes) = some 128 := by kernel_rfl
theorem zt46 : ZtI Tryd.prog 46 [.slice none 0 0, .slice none 0 0, .int .i64 0, .int .i64 0, .int .i64 0, .int .i64 0, .slice none 0 0, .slice none 0 0] := .mk' (by kernel_rfl) rfl
theorem fd46_0 : FdI Tryd.prog 46 0 0 := .mk' (by kernel_rfl)
theorem fv46_0 : FvI Tryd.prog 46 0 0 false 1 := .mk' (by kernel_rfl)
theorem fd46_1 : FdI Tryd.prog 46 1 1 := .mk' (by kernel_rfl)
theorem fv46_1 : FvI Tryd.prog 46 1 1 false 1 := .mk' (by kernel_rfl)
theorem fd46_2 : FdI Tryd.prog 46 2 2 := .mk' (by kernel_rfl)
theorem fv46_2 : FvI Tryd.prog 46 2 2 true 6 := .mk' (by kernel_rfl)
theorem st46 : StI Tryd.prog 46 [(0, 1), (1, 1), (2, 6)] := .mk' (by kernel_rfl)
theorem ty47 : TyI Tryd.prog 47 true 8 := .mk' (by kernel_rfl) (by kernel_rfl)
theorem by47 : (Tryd.prog.info? 47).map (·.bytes) = some 128 := by kernel_rfl
theorem zt47 : ZtI Tryd.prog 47 [.slice none 0 0, .slice none 0 0, .int .i64 0, .int .i64 0, .int .i64 0, .int .i64 0, .slice none 0 0, .slice none 0 0] := .mk' (by kernel_rfl) rfl
theorem fd47_0 : FdI Tryd.prog 47 0 0 := .mk' (by kernel_rfl)
theorem fv47_0 : FvI Tryd.prog 47 0 0 false 1 := .mk' (by kernel_rfl)
theorem fd47_1 : FdI Tryd.prog 47 1 1 := .mk' (by kernel_rfl)
theorem fv47_1 : FvI Tryd.prog 47 1 1 false 1 := .mk' (by kernel_rfl)
theorem fd47_2 : FdI Tryd.prog 47 2 2 := .mk' (by kernel_rfl)
theorem fv47_2 : FvI Tryd.prog 47 2 2 true 6 := .mk' (by kernel_rfl)
theorem st47 : StI Tryd.prog 47 [(0, 1), (1, 1), (2, 6)] := .mk' (by kernel_rfl)
theorem ty48 : TyI Tryd.prog 48 true 8 := .mk' (by kernel_rfl) (by kernel_rfl)
theorem by48 : (Tryd.prog.info? 48).map (·.bytes) = some 88 := by kernel_rfl
theorem zt48 : ZtI Tryd.prog 48 [.int .i64 0, .int .i64 0, .int .i64 0, .int .i64 0, .int .i64 0, .string ⟨#[]⟩, .slice none 0 0, .bool false] := .mk' (by kernel_rfl) rfl
theorem fd48_0 : FdI Tryd.prog 48 0 0 := .mk' (by kernel_rfl)
theorem fv48_0 : FvI Tryd.prog 48 0 0 false 1 := .mk' (by kernel_rfl)
theorem fd48_1 : FdI Tryd.prog 48 1 1 := .mk' (by kernel_rfl)
theorem fv48_1 : FvI Tryd.prog 48 1 1 false 1 := .mk' (by kernel_rfl)
theorem fd48_2 : FdI Tryd.prog 48 2 2 := .mk' (by kernel_rfl)
theorem fv48_2 : FvI Tryd.prog 48 2 2 false 1 := .mk' (by kernel_rfl)
theorem fd48_3 : FdI Tryd.prog 48 3 3 := .mk' (by kernel_rfl)
theorem fv48_3 : FvI Tryd.prog 48 3 3 false 1 := .mk' (by kernel_rfl)
theorem fd48_4 : FdI Tryd.prog 48 4 4 := .mk' (by kernel_rfl)
theorem fv48_4 : FvI Tryd.prog 48 4 4 false 1 := .mk' (by kernel_rfl)
theorem fd48_5 : FdI Tryd.prog 48 5 5 := .mk' (by kernel_rfl)
theorem fv48_5 : FvI Tryd.prog 48 5 5 false 1 := .mk' (by kernel_rfl)
theorem fd48_6 : FdI Tryd.prog 48 6 6 := .mk' (by kernel_rfl)
theorem fv48_6 : FvI Tryd.prog 48 6 6 false 1 := .mk' (by kernel_rfl)
theorem fd48_7 : FdI Tryd.prog 48 7 7 := .mk' (by kernel_rfl)
theorem fv48_7 : FvI Tryd.prog 48 7 7 false 1 := .mk' (by kernel_rfl)
theorem st48 : StI Tryd.prog 48 [(0, 1), (1, 1), (2, 1), (3, 1), (4, 1), (5, 1), (6, 1), (7, 1)] := .mk' (by kernel_rfl)
theorem ty49 : TyI Tryd.prog 49 true 8 := .mk' (by kernel_rfl) (by kernel_rfl)
theorem by49 : (Tryd.prog.info? 49).map (·.bytes) = some 88 := by kernel_rfl
theorem zt49 : ZtI Tryd.prog 49 [.int .i64 0, .int .i64 0, .int .i64 0, .int .i64 0, .int .i64 0, .string ⟨#[]⟩, .slice none 0 0, .bool false] := .mk' (by kernel_rfl) rfl
theorem fd49_0 : FdI Tryd.prog 49 0 0 := .mk' (by kernel_rfl)
theorem fv49_0 : FvI Tryd.prog 49 0 0 false 1 := .mk' (by kernel_rfl)
theorem fd49_1 : FdI Tryd.prog 49 1 1 := .mk' (by kernel_rfl)
theorem fv49_1 : FvI Tryd.prog 49 1 1 false 1 := .mk' (by kernel_rfl)
theorem fd49_2 : FdI Tryd.prog 49 2 2 := .mk' (by kernel_rfl)
theorem fv49_2 : FvI Tryd.prog 49 2 2 false 1 := .mk' (by kernel_rfl)
theorem fd49_3 : FdI Tryd.prog 49 3 3 := .mk' (by kernel_rfl)
theorem fv49_3 : FvI Tryd.prog 49 3 3 false 1 := .mk' (by kernel_rfl)
theorem fd49_4 : FdI Tryd.prog 49 4 4 := .mk' (by kernel_rfl)
theorem fv49_4 : FvI Tryd.prog 49 4 4 false 1 := .mk' (by kernel_rfl)
theorem fd49_5 : FdI Tryd.prog 49 5 5 := .mk' (by kernel_rfl)
theorem fv49_5 : FvI Tryd.prog 49 5 5 false 1 := .mk' (by kernel_rfl)
theorem fd49_6 : FdI Tryd.prog 49 6 6 := .mk' (by kernel_rfl)
theorem fv49_6 : FvI Tryd.prog 49 6 6 false 1 := .mk' (by kernel_rfl)
theorem fd49_7 : FdI Tryd.prog 49 7 7 := .mk' (by kernel_rfl)
theorem fv49_7 : FvI Tryd.prog 49 7 7 false 1 := .mk' (by kernel_rfl)
theorem st49 : StI Tryd.prog 49 [(0, 1), (1, 1), (2, 1), (3, 1), (4, 1), (5, 1), (6, 1), (7, 1)] := .mk' (by kernel_rfl)
theorem ty50 : TyI Tryd.prog 50 false 1 := .mk' (by kernel_rfl) (by kernel_rfl)
theorem by50 : (Tryd.prog.info? 50).map (·.bytes) = some 8 := by kernel_rfl
theorem zt50 : ZtI Tryd.prog 50 [.nilFunc] := .mk' (by kernel_rfl) rfl
theorem ty51 : TyI Tryd.prog 51 false 1 := .mk' (by kernel_rfl) (by kernel_rfl)
theorem by51 : (Tryd.prog.info? 51).map (·.bytes) = some 8 := by kernel_rfl
theorem zt51 : ZtI Tryd.prog 51 [.nilFunc] := .mk' (by kernel_rfl) rfl
theorem ty52 : TyI Tryd.prog 52 false 1 := .mk' (by kernel_rfl) (by kernel_rfl)
theorem by52 : (Tryd.prog.info? 52).map (·.bytes) = some 8 := by kernel_rfl
theorem zt52 : ZtI Tryd.prog 52 [.nilFunc] := .mk' (by kernel_rfl) rfl
theorem ty53 : TyI Tryd.prog 53 false 1 := .mk' (by kernel_rfl) (by kernel_rfl)
theorem by53 : (Tryd.prog.info? 53).map (·.bytes) = some 8 := by kernel_rfl
theorem zt53 : ZtI Tryd.prog 53 [.nilFunc] := .mk' (by kernel_rfl) rfl
theorem ty54 : TyI Tryd.prog 54 false 1 := .mk' (by kernel_rfl) (by kernel_rfl)
theorem by54 : (Tryd.prog.info? 54).map (·.bytes) = some 8 := by kernel_rfl
theorem zt54 : ZtI Tryd.prog 54 [.nilFunc] := .mk' (by kernel_rfl) rfl
theorem ty55 : TyI Tryd.prog 55 false 1 := .mk' (by kernel_rfl) (by kernel_rfl)
theorem by55 : (Tryd.prog.info? 55).map (·.bytes) = some 8 := by kernel_rfl
theorem zt55 : ZtI Tryd.prog 55 [.nilFunc] := .mk' (by kernel_rfl) rfl
theorem ty56 : TyI Tryd.prog 56 false 1 := .mk' (by kernel_rfl) (by kernel_rfl)
theorem by56 : (Tryd.prog.info? 56).map (·.bytes) = some 8 := by kernel_rfl
theorem zt56 : ZtI Tryd.prog 56 [.nilFunc] := .mk' (by kernel_rfl) rfl
theorem ty57 : TyI Tryd.prog 57 false 1 := .mk' (by kernel_rfl) (by kernel_rfl)
theorem by57 : (Tryd.prog.info? 57).map (·.bytes) = some 8 := by kernel_rfl
theorem zt57 : ZtI Tryd.prog 57 [.nilFunc] := .mk' (by kernel_rfl) rfl
theorem ty58 : TyI Tryd.prog 58 false 1 := .mk' (by kernel_rfl) (by kernel_rfl)
theorem by58 : (Tryd.prog.info? 58).map (·.bytes) = some 8 := by kernel_rfl
theorem zt58 : ZtI Tryd.prog 58 [.nilFunc] := .mk' (by kernel_rfl) rfl
theorem ty59 : TyI Tryd.prog 59 false 1 := .mk' (by kernel_rfl) (by kernel_rfl)
theorem by59 : (Tryd.prog.info? 59).map (·.bytes) = some 8 := by kernel_rfl
theorem zt59 : ZtI Tryd.prog 59 [.nilFunc] := .mk' (by kernel_rfl) rfl
theorem ty60 : TyI Tryd.prog 60 false 1 := .mk' (by kernel_rfl) (by kernel_rfl)
theorem by60 : (Tryd.prog.info? 60).map (·.bytes) = some 8 := by kernel_rfl
theorem zt60 : ZtI Tryd.prog 60 [.nilFunc] := .mk' (by kernel_rfl) rfl
theorem ty61 : TyI Tryd.prog 61 false 1 := .mk' (by kernel_rfl) (by kernel_rfl)
theorem by61 : (Tryd.prog.info? 61).map (·.bytes) = some 8 := by kernel_rfl
theorem zt61 : ZtI Tryd.prog 61 [.nilFunc] := .mk' (by kernel_rfl) rfl
theorem ty62 : TyI Tryd.prog 62 false 1 := .mk' (by kernel_rfl) (by kernel_rfl)
theorem by62 : (Tryd.prog.info? 62).map (·.bytes) = some 8 := by kernel_rfl
theorem zt62 : ZtI Tryd.prog 62 [.pointer none] := .mk' (by kernel_rfl) rfl
theorem ty63 : TyI Tryd.prog 63 true 2 := .mk' (by kernel_rfl) (by kernel_rfl)
theorem by63 : (Tryd.prog.info? 63).map (·.bytes) = some 32 := by kernel_rfl
theorem zt63 : ZtI Tryd.prog 63 [.slice none 0 0, .int .i64 0] := .mk' (by kernel_rfl) rfl
theorem fd63_0 : FdI Tryd.prog 63 0 0 := .mk' (by kernel_rfl)
theorem fv63_0 : FvI Tryd.prog 63 0 0 false 1 := .mk' (by kernel_rfl)
theorem fd63_1 : FdI Tryd.prog 63 1 1 := .mk' (by kernel_rfl)
theorem fv63_1 : FvI Tryd.prog 63 1 1 false 1 := .mk' (by kernel_rfl)
theorem st63 : StI Tryd.prog 63 [(0, 1), (1, 1)] := .mk' (by kernel_rfl)
theorem ty64 : TyI Tryd.prog 64 true 2 := .mk' (by kernel_rfl) (by kernel_rfl)
theorem by64 : (Tryd.prog.info? 64).map (·.bytes) = some 32 := by kernel_rfl
theorem zt64 : ZtI Tryd.prog 64 [.slice none 0 0, .int .i64 0] := .mk' (by kernel_rfl) rfl
theorem fd64_0 : FdI Tryd.prog 64 0 0 := .mk' (by kernel_rfl)
theorem fv64_0 : FvI Tryd.prog 64 0 0 false 1 := .mk' (by kernel_rfl)
theorem fd64_1 : FdI Tryd.prog 64 1 1 := .mk' (by kernel_rfl)
theorem fv64_1 : FvI Tryd.prog 64 1 1 false 1 := .mk' (by kernel_rfl)
theorem st64 : StI Tryd.prog 64 [(0, 1), (1, 1)] := .mk' (by kernel_rfl)
theorem ty65 : TyI Tryd.prog 65 true 2 := .mk' (by kernel_rfl) (by kernel_rfl)
theorem by65 : (Tryd.prog.info? 65).map (·.bytes) = some 48 := by kernel_rfl
theorem zt65 : ZtI Tryd.prog 65 [.slice none 0 0, .slice none 0 0] := .mk' (by kernel_rfl) rfl
theorem fd65_0 : FdI Tryd.prog 65 0 0 := .mk' (by kernel_rfl)
theorem fv65_0 : FvI Tryd.prog 65 0 0 false 1 := .mk' (by kernel_rfl)
theorem fd65_1 : FdI Tryd.prog 65 1 1 := .mk' (by kernel_rfl)
theorem fv65_1 : FvI Tryd.prog 65 1 1 false 1 := .mk' (by kernel_rfl)
theorem st65 : StI Tryd.prog 65 [(0, 1), (1, 1)] := .mk' (by kernel_rfl)
theorem ty66 : TyI Tryd.prog 66 true 2 := .mk' (by kernel_rfl) (by kernel_rfl)
theorem by66 : (Tryd.prog.info? 66).map (·.bytes) = some 48 := by kernel_rfl
theorem zt66 : ZtI Tryd.prog 66 [.slice none 0 0, .slice none 0 0] := .mk' (by kernel_rfl) rfl
theorem fd66_0 : FdI Tryd.prog 66 0 0 := .mk' (by kernel_rfl)
theorem fv66_0 : FvI Tryd.prog 66 0 0 false 1 := .mk' (by kernel_rfl)
theorem fd66_1 : FdI Tryd.prog 66 1 1 := .mk' (by kernel_rfl)
theorem fv66_1 : FvI Tryd.prog 66 1 1 false 1 := .mk' (by kernel_rfl)
theorem st66 : StI Tryd.prog 66 [(0, 1), (1, 1)] := .mk' (by kernel_rfl)
theorem ty67 : TyI Tryd.prog 67 false 1 := .mk' (by kernel_rfl) (by kernel_rfl)
theorem by67 : (Tryd.prog.info? 67).map (·.bytes) = some 8 := by kernel_rfl
theorem zt67 : ZtI Tryd.prog 67 [.nilFunc] := .mk' (by kernel_rfl) rfl
theorem ty68 : TyI Tryd.prog 68 false 1 := .mk' (by kernel_rfl) (by kernel_rfl)
theorem by68 : (Tryd.prog.info? 68).map (·.bytes) = some 8 := by kernel_rfl
theorem zt68 : ZtI Tryd.prog 68 [.nilFunc] := .mk' (by kernel_rfl) rfl
theorem ty69 : TyI Tryd.prog 69 false 1 := .mk' (by kernel_rfl) (by kernel_rfl)
theorem by69 : (Tryd.prog.info? 69).map (·.bytes) = some 8 := by kernel_rfl
theorem zt69 : ZtI Tryd.prog 69 [.nilFunc] := .mk' (by kernel_rfl) rfl
theorem ty70 : TyI Tryd.prog 70 false 1 := .mk' (by kernel_rfl) (by kernel_rfl)
theorem by70 : (Tryd.prog.info? 70).map (·.bytes) = some 8 := by kernel_rfl
theorem zt70 : ZtI Tryd.prog 70 [.nilFunc] := .mk' (by kernel_rfl) rfl
theorem ty71 : TyI Tryd.prog 71 false 1 := .mk' (by kernel_rfl) (by kernel_rfl)
theorem by71 : (Tryd.prog.info? 71).map (·.bytes) = some 8 := by kernel_rfl
theorem zt71 : ZtI Tryd.prog 71 [.nilFunc] := .mk' (by kernel_rfl) rfl
theorem ty72 : TyI Tryd.prog 72 false 1 := .mk' (by kernel_rfl) (by kernel_rfl)
theorem by72 : (Tryd.prog.info? 72).map (·.bytes) = some 8 := by kernel_rfl
theorem zt72 : ZtI Tryd.prog 72 [.nilFunc] := .mk' (by kernel_rfl) rfl
theorem ty73 : TyI Tryd.prog 73 false 1 := .mk' (by kernel_rfl) (by kernel_rfl)
theorem by73 : (Tryd.prog.info? 73).map (·.bytes) = some 24 := by kernel_rfl
theorem zt73 : ZtI Tryd.prog 73 [.slice none 0 0] := .mk' (by kernel_rfl) rfl
theorem sl73 : SlI Tryd.prog 73 27 1 := .mk' (by kernel_rfl) (by kernel_rfl)
theorem el73 : ElemT Tryd.prog 73 27 1 24 := .mk' (z := .slice none 0 0) (by kernel_rfl) (by kernel_rfl) rfl (by decide)
theorem ty74 : TyI Tryd.prog 74 false 1 := .mk' (by kernel_rfl) (by kernel_rfl)
theorem by74 : (Tryd.prog.info? 74).map (·.bytes) = some 8 := by kernel_rfl
theorem zt74 : ZtI Tryd.prog 74 [.nilFunc] := .mk' (by kernel_rfl) rfl
theorem ty76 : TyI Tryd.prog 76 false 1 := .mk' (by kernel_rfl) (by kernel_rfl)
theorem by76 : (Tryd.prog.info? 76).map (·.bytes) = some 8 := by kernel_rfl
theorem zt76 : ZtI Tryd.prog 76 [.nilFunc] := .mk' (by kernel_rfl) rfl
theorem ty77 : TyI Tryd.prog 77 false 1 := .mk' (by kernel_rfl) (by kernel_rfl)
theorem by77 : (Tryd.prog.info? 77).map (·.bytes) = some 8 := by kernel_rfl
theorem zt77 : ZtI Tryd.prog 77 [.nilFunc] := .mk' (by kernel_rfl) rfl
theorem ty78 : TyI Tryd.prog 78 false 1 := .mk' (by kernel_rfl) (by kernel_rfl)
theorem by78 : (Tryd.prog.info? 78).map (·.bytes) = some 8 := by kernel_rfl
theorem zt78 : ZtI Tryd.prog 78 [.nilFunc] := .mk' (by kernel_rfl) rfl
theorem ty79 : TyI Tryd.prog 79 false 1 := .mk' (by kernel_rfl) (by kernel_rfl)
theorem by79 : (Tryd.prog.info? 79).map (·.bytes) = some 8 := by kernel_rfl
theorem zt79 : ZtI Tryd.prog 79 [.nilFunc] := .mk' (by kernel_rfl) rfl
theorem ty80 : TyI Tryd.prog 80 false 1 := .mk' (by kernel_rfl) (by kernel_rfl)
theorem by80 : (Tryd.prog.info? 80).map (·.bytes) = some 8 := by kernel_rfl
theorem zt80 : ZtI Tryd.prog 80 [.nilFunc] := .mk' (by kernel_rfl) rfl
theorem ty81 : TyI Tryd.prog 81 false 1 := .mk' (by kernel_rfl) (by kernel_rfl)
theorem by81 : (Tryd.prog.info? 81).map (·.bytes) = some 8 := by kernel_rfl
theorem zt81 : ZtI Tryd.prog 81 [.nilFunc] := .mk' (by kernel_rfl) rfl
theorem ty82 : TyI Tryd.prog 82 false 1 := .mk' (by kernel_rfl) (by kernel_rfl)
theorem by82 : (Tryd.prog.info? 82).map (·.bytes) = some 8 := by kernel_rfl
theorem zt82 : ZtI Tryd.prog 82 [.pointer none] := .mk' (by kernel_rfl) rfl
theorem ty83 : TyI Tryd.prog 83 false 1 := .mk' (by kernel_rfl) (by kernel_rfl)
theorem by83 : (Tryd.prog.info? 83).map (·.bytes) = some 8 := by kernel_rfl
theorem zt83 : ZtI Tryd.prog 83 [.pointer none] := .mk' (by kernel_rfl) rfl
theorem ty84 : TyI Tryd.prog 84 false 1 := .mk' (by kernel_rfl) (by kernel_rfl)
theorem by84 : (Tryd.prog.info? 84).map (·.bytes) = some 8 := by kernel_rfl
theorem zt84 : ZtI Tryd.prog 84 [.nilFunc] := .mk' (by kernel_rfl) rfl
theorem ty85 : TyI Tryd.prog 85 false 1 := .mk' (by kernel_rfl) (by kernel_rfl)
theorem by85 : (Tryd.prog.info? 85).map (·.bytes) = some 8 := by kernel_rfl
theorem zt85 : ZtI Tryd.prog 85 [.nilFunc] := .mk' (by kernel_rfl) rfl
theorem ty86 : TyI Tryd.prog 86 false 1 := .mk' (by kernel_rfl) (by kernel_rfl)
theorem by86 : (Tryd.prog.info? 86).map (·.bytes) = some 8 := by kernel_rfl
theorem zt86 : ZtI Tryd.prog 86 [.nilFunc] := .mk' (by kernel_rfl) rfl
theorem ty87 : TyI Tryd.prog 87 false 1 := .mk' (by kernel_rfl) (by kernel_rfl)
theorem by87 : (Tryd.prog.info? 87).map (·.bytes) = some 8 := by kernel_rfl
theorem zt87 : ZtI Tryd.prog 87 [.nilFunc] := .mk' (by kernel_rfl) rfl
theorem ty88 : TyI Tryd.prog 88 false 1 := .mk' (by kernel_rfl) (by kernel_rfl)
theorem by88 : (Tryd.prog.info? 88).map (·.bytes) = some 8 := by kernel_rfl
theorem zt88 : ZtI Tryd.prog 88 [.nilFunc] := .mk' (by kernel_rfl) rfl
theorem ty89 : TyI Tryd.prog 89 false 1 := .mk' (by kernel_rfl) (by kernel_rfl)
theorem by89 : (Tryd.prog.info? 89).map (·.bytes) = some 8 := by kernel_rfl
theorem zt89 : ZtI Tryd.prog 89 [.nilFunc] := .mk' (by kernel_rfl) rfl
theorem ty90 : TyI Tryd.prog 90 false 1 := .mk' (by kernel_rfl) (by kernel_rfl)
theorem by90 : (Tryd.prog.info? 90).map (·.bytes) = some 24 := by kernel_rfl
theorem zt90 : ZtI Tryd.prog 90 [.slice none 0 0] := .mk' (by kernel_rfl) rfl
theorem sl90 : SlI Tryd.prog 90 5 1 := .mk' (by kernel_rfl) (by kernel_rfl)
theorem el90 : ElemT Tryd.prog 90 5 1 1 := .mk' (z := .int .u8 0) (by kernel_rfl) (by kernel_rfl) rfl (by decide)
theorem ty91 : TyI Tryd.prog 91 false 1 := .mk' (by kernel_rfl) (by kernel_rfl)
theorem by91 : (Tryd.prog.info? 91).map (·.bytes) = some 8 := by kernel_rfl
theorem zt91 : ZtI Tryd.prog 91 [.nilFunc] := .mk' (by kernel_rfl) rfl
theorem ty92 : TyI Tryd.prog 92 false 1 := .mk' (by kernel_rfl) (by kernel_rfl)
theorem by92 : (Tryd.prog.info? 92).map (·.bytes) = some 24 := by kernel_rfl
theorem zt92 : ZtI Tryd.prog 92 [.slice none 0 0] := .mk' (by kernel_rfl) rfl
theorem sl92 : SlI Tryd.prog 92 83 1 := .mk' (by kernel_rfl) (by kernel_rfl)
theorem el92 : ElemT Tryd.prog 92 83 1 8 := .mk' (z := .pointer none) (by kernel_rfl) (by kernel_rfl) rfl (by decide)
theorem ty93 : TyI Tryd.prog 93 false 1 := .mk' (by kernel_rfl) (by kernel_rfl)
theorem by93 : (Tryd.prog.info? 93).map (·.bytes) = some 8 := by kernel_rfl
theorem zt93 : ZtI Tryd.prog 93 [.nilFunc] := .mk' (by kernel_rfl) rfl
theorem ty94 : TyI Tryd.prog 94 false 1 := .mk' (by kernel_rfl) (by kernel_rfl)
theorem by94 : (Tryd.prog.info? 94).map (·.bytes) = some 8 := by kernel_rfl
theorem zt94 : ZtI Tryd.prog 94 [.nilFunc] := .mk' (by kernel_rfl) rfl
theorem ty95 : TyI Tryd.prog 95 false 1 := .mk' (by kernel_rfl) (by kernel_rfl)
theorem by95 : (Tryd.prog.info? 95).map (·.bytes) = some 8 := by kernel_rfl
theorem zt95 : ZtI Tryd.prog 95 [.nilFunc] := .mk' (by kernel_rfl) rfl
theorem ty96 : TyI Tryd.prog 96 false 1 := .mk' (by kernel_rfl) (by kernel_rfl)
theorem by96 : (Tryd.prog.info? 96).map (·.bytes) = some 8 := by kernel_rfl
theorem zt96 : ZtI Tryd.prog 96 [.nilFunc] := .mk' (by kernel_rfl) rfl
theorem ty97 : TyI Tryd.prog 97 true 2 := .mk' (by kernel_rfl) (by kernel_rfl)
theorem by97 : (Tryd.prog.info? 97).map (·.bytes) = some 32 := by kernel_rfl
theorem zt97 : ZtI Tryd.prog 97 [.int .i64 0, .slice none 0 0] := .mk' (by kernel_rfl) rfl
theorem fd97_0 : FdI Tryd.prog 97 0 0 := .mk' (by kernel_rfl)
theorem fv97_0 : FvI Tryd.prog 97 0 0 false 1 := .mk' (by kernel_rfl)
theorem fd97_1 : FdI Tryd.prog 97 1 1 := .mk' (by kernel_rfl)
theorem fv97_1 : FvI Tryd.prog 97 1 1 false 1 := .mk' (by kernel_rfl)
theorem st97 : StI Tryd.prog 97 [(0, 1), (1, 1)] := .mk' (by kernel_rfl)
theorem ty98 : TyI Tryd.prog 98 true 2 := .mk' (by kernel_rfl) (by kernel_rfl)
theorem by98 : (Tryd.prog.info? 98).map (·.bytes) = some 32 := by kernel_rfl
theorem zt98 : ZtI Tryd.prog 98 [.int .i64 0, .slice none 0 0] := .mk' (by kernel_rfl) rfl
theorem fd98_0 : FdI Tryd.prog 98 0 0 := .mk' (by kernel_rfl)
theorem fv98_0 : FvI Tryd.prog 98 0 0 false 1 := .mk' (by kernel_rfl)
theorem fd98_1 : FdI Tryd.prog 98 1 1 := .mk' (by kernel_rfl)
theorem fv98_1 : FvI Tryd.prog 98 1 1 false 1 := .mk' (by kernel_rfl)
theorem st98 : StI Tryd.prog 98 [(0, 1), (1, 1)] := .mk' (by kernel_rfl)
theorem ty99 : TyI Tryd.prog 99 false 1 := .mk' (by kernel_rfl) (by kernel_rfl)
theorem by99 : (Tryd.prog.info? 99).map (·.bytes) = some 8 := by kernel_rfl
theorem zt99 : ZtI Tryd.prog 99 [.nilFunc] := .mk' (by kernel_rfl) rfl
theorem ty100 : TyI Tryd.prog 100 false 1 := .mk' (by kernel_rfl) (by kernel_rfl)
theorem by100 : (Tryd.prog.info? 100).map (·.bytes) = some 8 := by kernel_rfl
theorem zt100 : ZtI Tryd.prog 100 [.nilFunc] := .mk' (by kernel_rfl) rfl
theorem ty101 : TyI Tryd.prog 101 false 1 := .mk' (by kernel_rfl) (by kernel_rfl)
theorem by101 : (Tryd.prog.info? 101).map (·.bytes) = some 8 := by kernel_rfl
theorem zt101 : ZtI Tryd.prog 101 [.nilFunc] := .mk' (by kernel_rfl) rfl
theorem ty102 : TyI Tryd.prog 102 false 1 := .mk' (by kernel_rfl) (by kernel_rfl)
theorem by102 : (Tryd.prog.info? 102).map (·.bytes) = some 8 := by kernel_rfl
theorem zt102 : ZtI Tryd.prog 102 [.nilFunc] := .mk' (by kernel_rfl) rfl
theorem ty103 : TyI Tryd.prog 103 false 1 := .mk' (by kernel_rfl) (by kernel_rfl)
theorem by103 : (Tryd.prog.info? 103).map (·.bytes) = some 8 := by kernel_rfl
theorem zt103 : ZtI Tryd.prog 103 [.nilFunc] := .mk' (by kernel_rfl) rfl
theorem ty104 : TyI Tryd.prog 104 true 26 := .mk' (by kernel_rfl) (by kernel_rfl)
theorem by104 : (Tryd.prog.info? 104).map (·.bytes) = some 416 := by kernel_rfl
theorem zt104 : ZtI Tryd.prog 104 [.string ⟨#[]⟩, .string ⟨#[]⟩, .string ⟨#[]⟩, .string ⟨#[]⟩, .string ⟨#[]⟩, .string ⟨#[]⟩, .string ⟨#[]⟩, .string ⟨#[]⟩, .string ⟨#[]⟩, .string ⟨#[]⟩, .string ⟨#[]⟩, .string ⟨#[]⟩, .string ⟨#[]⟩, .string ⟨#[]⟩, .string ⟨#[]⟩, .string ⟨#[]⟩, .string ⟨#[]⟩, .string ⟨#[]⟩, .string ⟨#[]⟩, .string ⟨#[]⟩, .string ⟨#[]⟩, .string ⟨#[]⟩, .string ⟨#[]⟩, .string ⟨#[]⟩, .string ⟨#[]⟩, .string ⟨#[]⟩] := .mk' (by kernel_rfl) rfl
theorem ty105 : TyI Tryd.prog 105 false 1 := .mk' (by kernel_rfl) (by kernel_rfl)
theorem by105 : (Tryd.prog.info? 105).map (·.bytes) = some 8 := by kernel_rfl
theorem zt105 : ZtI Tryd.prog 105 [.nilFunc] := .mk' (by kernel_rfl) rfl
theorem ty106 : TyI Tryd.prog 106 false 1 := .mk' (by kernel_rfl) (by kernel_rfl)
theorem by106 : (Tryd.prog.info? 106).map (·.bytes) = some 8 := by kernel_rfl
theorem zt106 : ZtI Tryd.prog 106 [.nilFunc] := .mk' (by kernel_rfl) rfl
theorem ty107 : TyI Tryd.prog 107 true 2 := .mk' (by kernel_rfl) (by kernel_rfl)
theorem by107 : (Tryd.prog.info? 107).map (·.bytes) = some 16 := by kernel_rfl
theorem zt107 : ZtI Tryd.prog 107 [.int .i64 0, .int .i64 0] := .mk' (by kernel_rfl) rfl
theorem fd107_0 : FdI Tryd.prog 107 0 0 := .mk' (by kernel_rfl)
theorem fv107_0 : FvI Tryd.prog 107 0 0 false 1 := .mk' (by kernel_rfl)
theorem fd107_1 : FdI Tryd.prog 107 1 1 := .mk' (by kernel_rfl)
theorem fv107_1 : FvI Tryd.prog 107 1 1 false 1 := .mk' (by kernel_rfl)
theorem st107 : StI Tryd.prog 107 [(0, 1), (1, 1)] := .mk' (by kernel_rfl)
theorem ty108 : TyI Tryd.prog 108 true 2 := .mk' (by kernel_rfl) (by kernel_rfl)
theorem by108 : (Tryd.prog.info? 108).map (·.bytes) = some 16 := by kernel_rfl
theorem zt108 : ZtI Tryd.prog 108 [.int .i64 0, .int .i64 0] := .mk' (by kernel_rfl) rfl
theorem fd108_0 : FdI Tryd.prog 108 0 0 := .mk' (by kernel_rfl)
theorem fv108_0 : FvI Tryd.prog 108 0 0 false 1 := .mk' (by kernel_rfl)
theorem fd108_1 : FdI Tryd.prog 108 1 1 := .mk' (by kernel_rfl)
theorem fv108_1 : FvI Tryd.prog 108 1 1 false 1 := .mk' (by kernel_rfl)
theorem st108 : StI Tryd.prog 108 [(0, 1), (1, 1)] := .mk' (by kernel_rfl)
theorem ty109 : TyI Tryd.prog 109 false 1 := .mk' (by kernel_rfl) (by kernel_rfl)
theorem by109 : (Tryd.prog.info? 109).map (·.bytes) = some 24 := by kernel_rfl
theorem zt109 : ZtI Tryd.prog 109 [.slice none 0 0] := .mk' (by kernel_rfl) rfl
theorem sl109 : SlI Tryd.prog 109 108 2 := .mk' (by kernel_rfl) (by kernel_rfl)
theorem el109 : ElemT Tryd.prog 109 108 2 16 := .mk' (z := .agg #[.int .i64 0, .int .i64 0]) (by kernel_rfl) (by kernel_rfl) rfl (by decide)
theorem ty110 : TyI Tryd.prog 110 false 1 := .mk' (by kernel_rfl) (by kernel_rfl)
theorem by110 : (Tryd.prog.info? 110).map (·.bytes) = some 8 := by kernel_rfl
theorem zt110 : ZtI Tryd.prog 110 [.pointer none] := .mk' (by kernel_rfl) rfl
theorem ty111 : TyI Tryd.prog 111 false 1 := .mk' (by kernel_rfl) (by kernel_rfl)
theorem by111 : (Tryd.prog.info? 111).map (·.bytes) = some 8 := by kernel_rfl
theorem zt111 : ZtI Tryd.prog 111 [.nilFunc] := .mk' (by kernel_rfl) rfl
theorem ty117 : TyI Tryd.prog 117 false 1 := .mk' (by kernel_rfl) (by kernel_rfl)
theorem by117 : (Tryd.prog.info? 117).map (·.bytes) = some 8 := by kernel_rfl
theorem zt117 : ZtI Tryd.prog 117 [.nilFunc] := .mk' (by kernel_rfl) rfl
theorem ty118 : TyI Tryd.prog 118 false 1 := .mk' (by kernel_rfl) (by kernel_rfl)
theorem by118 : (Tryd.prog.info? 118).map (·.bytes) = some 4 := by kernel_rfl
theorem zt118 : ZtI Tryd.prog 118 [.int .u32 0] := .mk' (by kernel_rfl) rfl
theorem ty121 : TyI Tryd.prog 121 false 1 := .mk' (by kernel_rfl) (by kernel_rfl)
theorem by121 : (Tryd.prog.info? 121).map (·.bytes) = some 8 := by kernel_rfl
theorem zt121 : ZtI Tryd.prog 121 [.nilFunc] := .mk' (by kernel_rfl) rfl
theorem ty122 : TyI Tryd.prog 122 false 1 := .mk' (by kernel_rfl) (by kernel_rfl)
theorem by122 : (Tryd.prog.info? 122).map (·.bytes) = some 8 := by kernel_rfl
theorem zt122 : ZtI Tryd.prog 122 [.pointer none] := .mk' (by kernel_rfl) rfl
end Go.Proofs.YtbebdcpakjfgdaaDoor
