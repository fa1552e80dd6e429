import Derived.Test.YtdpfakplphlbgaaGreatDoorMh
import Derived.Test.YtdpfakplphlbgaaGreatDoorProg
/- The table of the types that the walks lean on: printed by te.py, each entry shown to fit the program. -/
namespace Go.Fw
open Go.Proofs
def ti2 : TI := ⟨ .int .i64, 1, 8, some (.int .i64 0), false, []⟩
theorem fit2 : TI.Fits Tryz.prog 2 ti2 := .of Tryz.type2 Tryz.underlying2 rfl rfl rfl rfl (fun _ h => by cases h <;> rfl)
def ti3 : TI := ⟨ .int .i64, 1, 8, some (.int .i64 0), false, []⟩
theorem fit3 : TI.Fits Tryz.prog 3 ti3 := .of Tryz.type3 Tryz.underlying3 rfl rfl rfl rfl (fun _ h => by cases h <;> rfl)
def ti4 : TI := ⟨ .bool, 1, 1, some (.bool false), false, []⟩
theorem fit4 : TI.Fits Tryz.prog 4 ti4 := .of Tryz.type4 Tryz.underlying4 rfl rfl rfl rfl (fun _ h => by cases h <;> rfl)
def ti5 : TI := ⟨ .int .u8, 1, 1, some (.int .u8 0), false, []⟩
theorem fit5 : TI.Fits Tryz.prog 5 ti5 := .of Tryz.type5 Tryz.underlying5 rfl rfl rfl rfl (fun _ h => by cases h <;> rfl)
def ti6 : TI := ⟨ .int .u8, 1, 1, some (.int .u8 0), false, []⟩
theorem fit6 : TI.Fits Tryz.prog 6 ti6 := .of Tryz.type6 Tryz.underlying6 rfl rfl rfl rfl (fun _ h => by cases h <;> rfl)
def ti7 : TI := ⟨ .struct #[.mk "x" 2 0 false "" "runtime" 0, .mk "y" 3 1 false "" "runtime" 8, .mk "signed" 4 2 false "" "runtime" 16, .mk "code" 6 3 false "" "runtime" 17], 4, 24, some (.agg #[.int .i64 0, .int .i64 0, .bool false, .int .u8 0]), true, [(0, 2), (1, 3), (2, 4), (3, 6)]⟩
theorem fit7 : TI.Fits Tryz.prog 7 ti7 := .of Tryz.type7 Tryz.underlying7 rfl rfl rfl rfl (fun _ h => by cases h <;> rfl)
def ti8 : TI := ⟨ .struct #[.mk "x" 2 0 false "" "runtime" 0, .mk "y" 3 1 false "" "runtime" 8, .mk "signed" 4 2 false "" "runtime" 16, .mk "code" 6 3 false "" "runtime" 17], 4, 24, some (.agg #[.int .i64 0, .int .i64 0, .bool false, .int .u8 0]), true, [(0, 2), (1, 3), (2, 4), (3, 6)]⟩
theorem fit8 : TI.Fits Tryz.prog 8 ti8 := .of Tryz.type8 Tryz.underlying8 rfl rfl rfl rfl (fun _ h => by cases h <;> rfl)
def ti9 : TI := ⟨ .string, 1, 16, some (.string (ByteArray.mk #[])), false, []⟩
theorem fit9 : TI.Fits Tryz.prog 9 ti9 := .of Tryz.type9 Tryz.underlying9 rfl rfl rfl rfl (fun _ h => by cases h <;> rfl)
def ti10 : TI := ⟨ .string, 1, 16, some (.string (ByteArray.mk #[])), false, []⟩
theorem fit10 : TI.Fits Tryz.prog 10 ti10 := .of Tryz.type10 Tryz.underlying10 rfl rfl rfl rfl (fun _ h => by cases h <;> rfl)
def ti11 : TI := ⟨ .string, 1, 16, some (.string (ByteArray.mk #[])), false, []⟩
theorem fit11 : TI.Fits Tryz.prog 11 ti11 := .of Tryz.type11 Tryz.underlying11 rfl rfl rfl rfl (fun _ h => by cases h <;> rfl)
def ti12 : TI := ⟨ .int .u64, 1, 8, some (.int .u64 0), false, []⟩
theorem fit12 : TI.Fits Tryz.prog 12 ti12 := .of Tryz.type12 Tryz.underlying12 rfl rfl rfl rfl (fun _ h => by cases h <;> rfl)
def ti13 : TI := ⟨ .struct #[.mk "msg" 9 0 false "" "runtime" 0, .mk "addr" 12 1 false "" "runtime" 16], 2, 24, some (.agg #[.string (ByteArray.mk #[]), .int .u64 0]), true, [(0, 9), (1, 12)]⟩
theorem fit13 : TI.Fits Tryz.prog 13 ti13 := .of Tryz.type13 Tryz.underlying13 rfl rfl rfl rfl (fun _ h => by cases h <;> rfl)
def ti14 : TI := ⟨ .struct #[.mk "msg" 9 0 false "" "runtime" 0, .mk "addr" 12 1 false "" "runtime" 16], 2, 24, some (.agg #[.string (ByteArray.mk #[]), .int .u64 0]), true, [(0, 9), (1, 12)]⟩
theorem fit14 : TI.Fits Tryz.prog 14 ti14 := .of Tryz.type14 Tryz.underlying14 rfl rfl rfl rfl (fun _ h => by cases h <;> rfl)
def ti15 : TI := ⟨ .pointer 425, 1, 8, some (.pointer Option.none), false, []⟩
theorem fit15 : TI.Fits Tryz.prog 15 ti15 := .of Tryz.type15 Tryz.underlying15 rfl rfl rfl rfl (fun _ h => by cases h <;> rfl)
def ti16 : TI := ⟨ .pointer 428, 1, 8, some (.pointer Option.none), false, []⟩
theorem fit16 : TI.Fits Tryz.prog 16 ti16 := .of Tryz.type16 Tryz.underlying16 rfl rfl rfl rfl (fun _ h => by cases h <;> rfl)
def ti17 : TI := ⟨ .pointer 436, 1, 8, some (.pointer Option.none), false, []⟩
theorem fit17 : TI.Fits Tryz.prog 17 ti17 := .of Tryz.type17 Tryz.underlying17 rfl rfl rfl rfl (fun _ h => by cases h <;> rfl)
def ti18 : TI := ⟨ .struct #[.mk "typ" 17 0 false "" "internal/runtime/maps" 0], 1, 8, some (.agg #[.pointer Option.none]), true, [(0, 17)]⟩
theorem fit18 : TI.Fits Tryz.prog 18 ti18 := .of Tryz.type18 Tryz.underlying18 rfl rfl rfl rfl (fun _ h => by cases h <;> rfl)
def ti19 : TI := ⟨ .struct #[.mk "typ" 17 0 false "" "internal/runtime/maps" 0], 1, 8, some (.agg #[.pointer Option.none]), true, [(0, 17)]⟩
theorem fit19 : TI.Fits Tryz.prog 19 ti19 := .of Tryz.type19 Tryz.underlying19 rfl rfl rfl rfl (fun _ h => by cases h <;> rfl)
def ti20 : TI := ⟨ .interface #[], 1, 16, some .nilIface, false, []⟩
theorem fit20 : TI.Fits Tryz.prog 20 ti20 := .of Tryz.type20 Tryz.underlying20 rfl rfl rfl rfl (fun _ h => by cases h <;> rfl)
def ti21 : TI := ⟨ .int .i32, 1, 4, some (.int .i32 0), false, []⟩
theorem fit21 : TI.Fits Tryz.prog 21 ti21 := .of Tryz.type21 Tryz.underlying21 rfl rfl rfl rfl (fun _ h => by cases h <;> rfl)
def ti22 : TI := ⟨ .slice 28, 1, 24, some (.slice Option.none 0 0), false, []⟩
theorem fit22 : TI.Fits Tryz.prog 22 ti22 := .of Tryz.type22 Tryz.underlying22 rfl rfl rfl rfl (fun _ h => by cases h <;> rfl)
def ti23 : TI := ⟨ .slice 35, 1, 24, some (.slice Option.none 0 0), false, []⟩
theorem fit23 : TI.Fits Tryz.prog 23 ti23 := .of Tryz.type23 Tryz.underlying23 rfl rfl rfl rfl (fun _ h => by cases h <;> rfl)
def ti27 : TI := ⟨ .struct #[.mk "Year" 3 0 false "" "" 0, .mk "ID" 3 1 false "" "" 8, .mk "Parent" 3 2 false "" "" 16, .mk "Fund" 3 3 false "" "" 24, .mk "Object" 3 4 false "" "" 32, .mk "Absolute" 4 5 false "" "" 40, .mk "Limit" 3 6 false "" "" 48, .mk "Pre" 3 7 false "" "" 56, .mk "Enc" 3 8 false "" "" 64, .mk "Exp" 3 9 false "" "" 72, .mk "Lapsed" 3 10 false "" "" 80, .mk "Carried" 3 11 false "" "" 88], 12, 96, some (.agg #[.int .i64 0, .int .i64 0, .int .i64 0, .int .i64 0, .int .i64 0, .bool false, .int .i64 0, .int .i64 0, .int .i64 0, .int .i64 0, .int .i64 0, .int .i64 0]), true, [(0, 3), (1, 3), (2, 3), (3, 3), (4, 3), (5, 4), (6, 3), (7, 3), (8, 3), (9, 3), (10, 3), (11, 3)]⟩
theorem fit27 : TI.Fits Tryz.prog 27 ti27 := .of Tryz.type27 Tryz.underlying27 rfl rfl rfl rfl (fun _ h => by cases h <;> rfl)
def ti28 : TI := ⟨ .struct #[.mk "Year" 3 0 false "" "" 0, .mk "ID" 3 1 false "" "" 8, .mk "Parent" 3 2 false "" "" 16, .mk "Fund" 3 3 false "" "" 24, .mk "Object" 3 4 false "" "" 32, .mk "Absolute" 4 5 false "" "" 40, .mk "Limit" 3 6 false "" "" 48, .mk "Pre" 3 7 false "" "" 56, .mk "Enc" 3 8 false "" "" 64, .mk "Exp" 3 9 false "" "" 72, .mk "Lapsed" 3 10 false "" "" 80, .mk "Carried" 3 11 false "" "" 88], 12, 96, some (.agg #[.int .i64 0, .int .i64 0, .int .i64 0, .int .i64 0, .int .i64 0, .bool false, .int .i64 0, .int .i64 0, .int .i64 0, .int .i64 0, .int .i64 0, .int .i64 0]), true, [(0, 3), (1, 3), (2, 3), (3, 3), (4, 3), (5, 4), (6, 3), (7, 3), (8, 3), (9, 3), (10, 3), (11, 3)]⟩
theorem fit28 : TI.Fits Tryz.prog 28 ti28 := .of Tryz.type28 Tryz.underlying28 rfl rfl rfl rfl (fun _ h => by cases h <;> rfl)
def ti29 : TI := ⟨ .pointer 75, 1, 8, some (.pointer Option.none), false, []⟩
theorem fit29 : TI.Fits Tryz.prog 29 ti29 := .of Tryz.type29 Tryz.underlying29 rfl rfl rfl rfl (fun _ h => by cases h <;> rfl)
def ti30 : TI := ⟨ .pointer 116, 1, 8, some (.pointer Option.none), false, []⟩
theorem fit30 : TI.Fits Tryz.prog 30 ti30 := .of Tryz.type30 Tryz.underlying30 rfl rfl rfl rfl (fun _ h => by cases h <;> rfl)
def ti33 : TI := ⟨ .slice 45, 1, 24, some (.slice Option.none 0 0), false, []⟩
theorem fit33 : TI.Fits Tryz.prog 33 ti33 := .of Tryz.type33 Tryz.underlying33 rfl rfl rfl rfl (fun _ h => by cases h <;> rfl)
def ti34 : TI := ⟨ .struct #[.mk "Year" 3 0 false "" "" 0, .mk "From" 3 1 false "" "" 8, .mk "Lines" 33 2 false "" "" 16], 3, 40, some (.agg #[.int .i64 0, .int .i64 0, .slice Option.none 0 0]), true, [(0, 3), (1, 3), (2, 33)]⟩
theorem fit34 : TI.Fits Tryz.prog 34 ti34 := .of Tryz.type34 Tryz.underlying34 rfl rfl rfl rfl (fun _ h => by cases h <;> rfl)
def ti35 : TI := ⟨ .struct #[.mk "Year" 3 0 false "" "" 0, .mk "From" 3 1 false "" "" 8, .mk "Lines" 33 2 false "" "" 16], 3, 40, some (.agg #[.int .i64 0, .int .i64 0, .slice Option.none 0 0]), true, [(0, 3), (1, 3), (2, 33)]⟩
theorem fit35 : TI.Fits Tryz.prog 35 ti35 := .of Tryz.type35 Tryz.underlying35 rfl rfl rfl rfl (fun _ h => by cases h <;> rfl)
def ti36 : TI := ⟨ .int .i64, 1, 8, some (.int .i64 0), false, []⟩
theorem fit36 : TI.Fits Tryz.prog 36 ti36 := .of Tryz.type36 Tryz.underlying36 rfl rfl rfl rfl (fun _ h => by cases h <;> rfl)
def ti43 : TI := ⟨ .slice 47, 1, 24, some (.slice Option.none 0 0), false, []⟩
theorem fit43 : TI.Fits Tryz.prog 43 ti43 := .of Tryz.type43 Tryz.underlying43 rfl rfl rfl rfl (fun _ h => by cases h <;> rfl)
def ti44 : TI := ⟨ .struct #[.mk "Fund" 3 0 false "" "" 0, .mk "Object" 3 1 false "" "" 8, .mk "Node" 3 2 false "" "" 16, .mk "Amount" 3 3 false "" "" 24], 4, 32, some (.agg #[.int .i64 0, .int .i64 0, .int .i64 0, .int .i64 0]), true, [(0, 3), (1, 3), (2, 3), (3, 3)]⟩
theorem fit44 : TI.Fits Tryz.prog 44 ti44 := .of Tryz.type44 Tryz.underlying44 rfl rfl rfl rfl (fun _ h => by cases h <;> rfl)
def ti45 : TI := ⟨ .struct #[.mk "Fund" 3 0 false "" "" 0, .mk "Object" 3 1 false "" "" 8, .mk "Node" 3 2 false "" "" 16, .mk "Amount" 3 3 false "" "" 24], 4, 32, some (.agg #[.int .i64 0, .int .i64 0, .int .i64 0, .int .i64 0]), true, [(0, 3), (1, 3), (2, 3), (3, 3)]⟩
theorem fit45 : TI.Fits Tryz.prog 45 ti45 := .of Tryz.type45 Tryz.underlying45 rfl rfl rfl rfl (fun _ h => by cases h <;> rfl)
def ti46 : TI := ⟨ .struct #[.mk "Node" 3 0 false "" "" 0, .mk "Original" 3 1 false "" "" 8, .mk "Liquidated" 3 2 false "" "" 16, .mk "Cancelled" 3 3 false "" "" 24], 4, 32, some (.agg #[.int .i64 0, .int .i64 0, .int .i64 0, .int .i64 0]), true, [(0, 3), (1, 3), (2, 3), (3, 3)]⟩
theorem fit46 : TI.Fits Tryz.prog 46 ti46 := .of Tryz.type46 Tryz.underlying46 rfl rfl rfl rfl (fun _ h => by cases h <;> rfl)
def ti47 : TI := ⟨ .struct #[.mk "Node" 3 0 false "" "" 0, .mk "Original" 3 1 false "" "" 8, .mk "Liquidated" 3 2 false "" "" 16, .mk "Cancelled" 3 3 false "" "" 24], 4, 32, some (.agg #[.int .i64 0, .int .i64 0, .int .i64 0, .int .i64 0]), true, [(0, 3), (1, 3), (2, 3), (3, 3)]⟩
theorem fit47 : TI.Fits Tryz.prog 47 ti47 := .of Tryz.type47 Tryz.underlying47 rfl rfl rfl rfl (fun _ h => by cases h <;> rfl)
def ti62 : TI := ⟨ .struct #[.mk "View" 29 0 true "" "" 0, .mk "year" 3 1 false "" "exchequer/exp" 8, .mk "from" 3 2 false "" "exchequer/exp" 16], 3, 24, some (.agg #[.pointer Option.none, .int .i64 0, .int .i64 0]), true, [(0, 29), (1, 3), (2, 3)]⟩
theorem fit62 : TI.Fits Tryz.prog 62 ti62 := .of Tryz.type62 Tryz.underlying62 rfl rfl rfl rfl (fun _ h => by cases h <;> rfl)
def ti63 : TI := ⟨ .struct #[.mk "View" 29 0 true "" "" 0, .mk "year" 3 1 false "" "exchequer/exp" 8, .mk "from" 3 2 false "" "exchequer/exp" 16], 3, 24, some (.agg #[.pointer Option.none, .int .i64 0, .int .i64 0]), true, [(0, 29), (1, 3), (2, 3)]⟩
theorem fit63 : TI.Fits Tryz.prog 63 ti63 := .of Tryz.type63 Tryz.underlying63 rfl rfl rfl rfl (fun _ h => by cases h <;> rfl)
def ti70 : TI := ⟨ .map 9 136, 1, 8, some (.map Option.none), false, []⟩
theorem fit70 : TI.Fits Tryz.prog 70 ti70 := .of Tryz.type70 Tryz.underlying70 rfl rfl rfl rfl (fun _ h => by cases h <;> rfl)
def ti71 : TI := ⟨ .map 9 136, 1, 8, some (.map Option.none), false, []⟩
theorem fit71 : TI.Fits Tryz.prog 71 ti71 := .of Tryz.type71 Tryz.underlying71 rfl rfl rfl rfl (fun _ h => by cases h <;> rfl)
def ti72 : TI := ⟨ .pointer 197, 1, 8, some (.pointer Option.none), false, []⟩
theorem fit72 : TI.Fits Tryz.prog 72 ti72 := .of Tryz.type72 Tryz.underlying72 rfl rfl rfl rfl (fun _ h => by cases h <;> rfl)
def ti73 : TI := ⟨ .map 9 107, 1, 8, some (.map Option.none), false, []⟩
theorem fit73 : TI.Fits Tryz.prog 73 ti73 := .of Tryz.type73 Tryz.underlying73 rfl rfl rfl rfl (fun _ h => by cases h <;> rfl)
def ti74 : TI := ⟨ .struct #[.mk "changes" 71 0 true "" "exchequer/view" 0, .mk "kv" 72 1 false "" "exchequer/view" 8, .mk "memory" 73 2 false "" "exchequer/view" 16, .mk "err" 36 3 false "" "exchequer/view" 24], 4, 32, some (.agg #[.map Option.none, .pointer Option.none, .map Option.none, .int .i64 0]), true, [(0, 71), (1, 72), (2, 73), (3, 36)]⟩
theorem fit74 : TI.Fits Tryz.prog 74 ti74 := .of Tryz.type74 Tryz.underlying74 rfl rfl rfl rfl (fun _ h => by cases h <;> rfl)
def ti75 : TI := ⟨ .struct #[.mk "changes" 71 0 true "" "exchequer/view" 0, .mk "kv" 72 1 false "" "exchequer/view" 8, .mk "memory" 73 2 false "" "exchequer/view" 16, .mk "err" 36 3 false "" "exchequer/view" 24], 4, 32, some (.agg #[.map Option.none, .pointer Option.none, .map Option.none, .int .i64 0]), true, [(0, 71), (1, 72), (2, 73), (3, 36)]⟩
theorem fit75 : TI.Fits Tryz.prog 75 ti75 := .of Tryz.type75 Tryz.underlying75 rfl rfl rfl rfl (fun _ h => by cases h <;> rfl)
def ti76 : TI := ⟨ .slice 124, 1, 24, some (.slice Option.none 0 0), false, []⟩
theorem fit76 : TI.Fits Tryz.prog 76 ti76 := .of Tryz.type76 Tryz.underlying76 rfl rfl rfl rfl (fun _ h => by cases h <;> rfl)
def ti77 : TI := ⟨ .slice 107, 1, 24, some (.slice Option.none 0 0), false, []⟩
theorem fit77 : TI.Fits Tryz.prog 77 ti77 := .of Tryz.type77 Tryz.underlying77 rfl rfl rfl rfl (fun _ h => by cases h <;> rfl)
def ti82 : TI := ⟨ .slice 85, 1, 24, some (.slice Option.none 0 0), false, []⟩
theorem fit82 : TI.Fits Tryz.prog 82 ti82 := .of Tryz.type82 Tryz.underlying82 rfl rfl rfl rfl (fun _ h => by cases h <;> rfl)
def ti84 : TI := ⟨ .struct #[.mk "Fund" 3 0 false "" "" 0, .mk "Debits" 3 1 false "" "" 8, .mk "Credits" 3 2 false "" "" 16], 3, 24, some (.agg #[.int .i64 0, .int .i64 0, .int .i64 0]), true, [(0, 3), (1, 3), (2, 3)]⟩
theorem fit84 : TI.Fits Tryz.prog 84 ti84 := .of Tryz.type84 Tryz.underlying84 rfl rfl rfl rfl (fun _ h => by cases h <;> rfl)
def ti85 : TI := ⟨ .struct #[.mk "Fund" 3 0 false "" "" 0, .mk "Debits" 3 1 false "" "" 8, .mk "Credits" 3 2 false "" "" 16], 3, 24, some (.agg #[.int .i64 0, .int .i64 0, .int .i64 0]), true, [(0, 3), (1, 3), (2, 3)]⟩
theorem fit85 : TI.Fits Tryz.prog 85 ti85 := .of Tryz.type85 Tryz.underlying85 rfl rfl rfl rfl (fun _ h => by cases h <;> rfl)
def ti88 : TI := ⟨ .struct #[.mk "View" 29 0 true "" "" 0, .mk "year" 3 1 false "" "exchequer/enc" 8, .mk "from" 3 2 false "" "exchequer/enc" 16], 3, 24, some (.agg #[.pointer Option.none, .int .i64 0, .int .i64 0]), true, [(0, 29), (1, 3), (2, 3)]⟩
theorem fit88 : TI.Fits Tryz.prog 88 ti88 := .of Tryz.type88 Tryz.underlying88 rfl rfl rfl rfl (fun _ h => by cases h <;> rfl)
def ti89 : TI := ⟨ .struct #[.mk "View" 29 0 true "" "" 0, .mk "year" 3 1 false "" "exchequer/enc" 8, .mk "from" 3 2 false "" "exchequer/enc" 16], 3, 24, some (.agg #[.pointer Option.none, .int .i64 0, .int .i64 0]), true, [(0, 29), (1, 3), (2, 3)]⟩
theorem fit89 : TI.Fits Tryz.prog 89 ti89 := .of Tryz.type89 Tryz.underlying89 rfl rfl rfl rfl (fun _ h => by cases h <;> rfl)
def ti91 : TI := ⟨ .struct #[.mk "ID" 3 0 false "" "" 0, .mk "Kind" 3 1 false "" "" 8, .mk "Year" 3 2 false "" "" 16, .mk "From" 3 3 false "" "" 24, .mk "Lines" 3 4 false "" "" 32], 5, 40, some (.agg #[.int .i64 0, .int .i64 0, .int .i64 0, .int .i64 0, .int .i64 0]), true, [(0, 3), (1, 3), (2, 3), (3, 3), (4, 3)]⟩
theorem fit91 : TI.Fits Tryz.prog 91 ti91 := .of Tryz.type91 Tryz.underlying91 rfl rfl rfl rfl (fun _ h => by cases h <;> rfl)
def ti92 : TI := ⟨ .struct #[.mk "ID" 3 0 false "" "" 0, .mk "Kind" 3 1 false "" "" 8, .mk "Year" 3 2 false "" "" 16, .mk "From" 3 3 false "" "" 24, .mk "Lines" 3 4 false "" "" 32], 5, 40, some (.agg #[.int .i64 0, .int .i64 0, .int .i64 0, .int .i64 0, .int .i64 0]), true, [(0, 3), (1, 3), (2, 3), (3, 3), (4, 3)]⟩
theorem fit92 : TI.Fits Tryz.prog 92 ti92 := .of Tryz.type92 Tryz.underlying92 rfl rfl rfl rfl (fun _ h => by cases h <;> rfl)
def ti100 : TI := ⟨ .struct #[.mk "ID" 3 0 false "" "" 0, .mk "Year" 3 1 false "" "" 8, .mk "Kind" 3 2 false "" "" 16, .mk "Lines" 3 3 false "" "" 24, .mk "Of" 3 4 false "" "" 32, .mk "By" 3 5 false "" "" 40], 6, 48, some (.agg #[.int .i64 0, .int .i64 0, .int .i64 0, .int .i64 0, .int .i64 0, .int .i64 0]), true, [(0, 3), (1, 3), (2, 3), (3, 3), (4, 3), (5, 3)]⟩
theorem fit100 : TI.Fits Tryz.prog 100 ti100 := .of Tryz.type100 Tryz.underlying100 rfl rfl rfl rfl (fun _ h => by cases h <;> rfl)
def ti101 : TI := ⟨ .struct #[.mk "ID" 3 0 false "" "" 0, .mk "Year" 3 1 false "" "" 8, .mk "Kind" 3 2 false "" "" 16, .mk "Lines" 3 3 false "" "" 24, .mk "Of" 3 4 false "" "" 32, .mk "By" 3 5 false "" "" 40], 6, 48, some (.agg #[.int .i64 0, .int .i64 0, .int .i64 0, .int .i64 0, .int .i64 0, .int .i64 0]), true, [(0, 3), (1, 3), (2, 3), (3, 3), (4, 3), (5, 3)]⟩
theorem fit101 : TI.Fits Tryz.prog 101 ti101 := .of Tryz.type101 Tryz.underlying101 rfl rfl rfl rfl (fun _ h => by cases h <;> rfl)
def ti104 : TI := ⟨ .struct #[.mk "View" 29 0 true "" "" 0, .mk "year" 3 1 false "" "exchequer/tree" 8], 2, 16, some (.agg #[.pointer Option.none, .int .i64 0]), true, [(0, 29), (1, 3)]⟩
theorem fit104 : TI.Fits Tryz.prog 104 ti104 := .of Tryz.type104 Tryz.underlying104 rfl rfl rfl rfl (fun _ h => by cases h <;> rfl)
def ti105 : TI := ⟨ .struct #[.mk "View" 29 0 true "" "" 0, .mk "year" 3 1 false "" "exchequer/tree" 8], 2, 16, some (.agg #[.pointer Option.none, .int .i64 0]), true, [(0, 29), (1, 3)]⟩
theorem fit105 : TI.Fits Tryz.prog 105 ti105 := .of Tryz.type105 Tryz.underlying105 rfl rfl rfl rfl (fun _ h => by cases h <;> rfl)
def ti107 : TI := ⟨ .slice 5, 1, 24, some (.slice Option.none 0 0), false, []⟩
theorem fit107 : TI.Fits Tryz.prog 107 ti107 := .of Tryz.type107 Tryz.underlying107 rfl rfl rfl rfl (fun _ h => by cases h <;> rfl)
def ti108 : TI := ⟨ .struct #[.mk "View" 29 0 true "" "" 0, .mk "key" 107 1 false "" "exchequer/bal" 8], 2, 32, some (.agg #[.pointer Option.none, .slice Option.none 0 0]), true, [(0, 29), (1, 107)]⟩
theorem fit108 : TI.Fits Tryz.prog 108 ti108 := .of Tryz.type108 Tryz.underlying108 rfl rfl rfl rfl (fun _ h => by cases h <;> rfl)
def ti109 : TI := ⟨ .struct #[.mk "View" 29 0 true "" "" 0, .mk "key" 107 1 false "" "exchequer/bal" 8], 2, 32, some (.agg #[.pointer Option.none, .slice Option.none 0 0]), true, [(0, 29), (1, 107)]⟩
theorem fit109 : TI.Fits Tryz.prog 109 ti109 := .of Tryz.type109 Tryz.underlying109 rfl rfl rfl rfl (fun _ h => by cases h <;> rfl)
def ti112 : TI := ⟨ .pointer 114, 1, 8, some (.pointer Option.none), false, []⟩
theorem fit112 : TI.Fits Tryz.prog 112 ti112 := .of Tryz.type112 Tryz.underlying112 rfl rfl rfl rfl (fun _ h => by cases h <;> rfl)
def ti113 : TI := ⟨ .struct #[.mk "L" 76 0 false "" "" 0], 1, 24, some (.agg #[.slice Option.none 0 0]), true, [(0, 76)]⟩
theorem fit113 : TI.Fits Tryz.prog 113 ti113 := .of Tryz.type113 Tryz.underlying113 rfl rfl rfl rfl (fun _ h => by cases h <;> rfl)
def ti114 : TI := ⟨ .struct #[.mk "L" 76 0 false "" "" 0], 1, 24, some (.agg #[.slice Option.none 0 0]), true, [(0, 76)]⟩
theorem fit114 : TI.Fits Tryz.prog 114 ti114 := .of Tryz.type114 Tryz.underlying114 rfl rfl rfl rfl (fun _ h => by cases h <;> rfl)
def ti115 : TI := ⟨ .struct #[.mk "Was" 112 0 false "" "" 0, .mk "Now" 112 1 false "" "" 8, .mk "Told" 112 2 false "" "" 16], 3, 24, some (.agg #[.pointer Option.none, .pointer Option.none, .pointer Option.none]), true, [(0, 112), (1, 112), (2, 112)]⟩
theorem fit115 : TI.Fits Tryz.prog 115 ti115 := .of Tryz.type115 Tryz.underlying115 rfl rfl rfl rfl (fun _ h => by cases h <;> rfl)
def ti116 : TI := ⟨ .struct #[.mk "Was" 112 0 false "" "" 0, .mk "Now" 112 1 false "" "" 8, .mk "Told" 112 2 false "" "" 16], 3, 24, some (.agg #[.pointer Option.none, .pointer Option.none, .pointer Option.none]), true, [(0, 112), (1, 112), (2, 112)]⟩
theorem fit116 : TI.Fits Tryz.prog 116 ti116 := .of Tryz.type116 Tryz.underlying116 rfl rfl rfl rfl (fun _ h => by cases h <;> rfl)
def ti117 : TI := ⟨ .struct #[.mk "View" 29 0 true "" "" 0, .mk "n" 3 1 false "" "exchequer/years" 8], 2, 16, some (.agg #[.pointer Option.none, .int .i64 0]), true, [(0, 29), (1, 3)]⟩
theorem fit117 : TI.Fits Tryz.prog 117 ti117 := .of Tryz.type117 Tryz.underlying117 rfl rfl rfl rfl (fun _ h => by cases h <;> rfl)
def ti118 : TI := ⟨ .struct #[.mk "View" 29 0 true "" "" 0, .mk "n" 3 1 false "" "exchequer/years" 8], 2, 16, some (.agg #[.pointer Option.none, .int .i64 0]), true, [(0, 29), (1, 3)]⟩
theorem fit118 : TI.Fits Tryz.prog 118 ti118 := .of Tryz.type118 Tryz.underlying118 rfl rfl rfl rfl (fun _ h => by cases h <;> rfl)
def ti123 : TI := ⟨ .struct #[.mk "Key" 107 0 false "" "" 0, .mk "Value" 107 1 false "" "" 24], 2, 48, some (.agg #[.slice Option.none 0 0, .slice Option.none 0 0]), true, [(0, 107), (1, 107)]⟩
theorem fit123 : TI.Fits Tryz.prog 123 ti123 := .of Tryz.type123 Tryz.underlying123 rfl rfl rfl rfl (fun _ h => by cases h <;> rfl)
def ti124 : TI := ⟨ .struct #[.mk "Key" 107 0 false "" "" 0, .mk "Value" 107 1 false "" "" 24], 2, 48, some (.agg #[.slice Option.none 0 0, .slice Option.none 0 0]), true, [(0, 107), (1, 107)]⟩
theorem fit124 : TI.Fits Tryz.prog 124 ti124 := .of Tryz.type124 Tryz.underlying124 rfl rfl rfl rfl (fun _ h => by cases h <;> rfl)
def ti133 : TI := ⟨ .slice 9, 1, 24, some (.slice Option.none 0 0), false, []⟩
theorem fit133 : TI.Fits Tryz.prog 133 ti133 := .of Tryz.type133 Tryz.underlying133 rfl rfl rfl rfl (fun _ h => by cases h <;> rfl)
def ti135 : TI := ⟨ .struct #[.mk "value" 107 0 false "" "exchequer/view" 0, .mk "gone" 4 1 false "" "exchequer/view" 24], 2, 32, some (.agg #[.slice Option.none 0 0, .bool false]), true, [(0, 107), (1, 4)]⟩
theorem fit135 : TI.Fits Tryz.prog 135 ti135 := .of Tryz.type135 Tryz.underlying135 rfl rfl rfl rfl (fun _ h => by cases h <;> rfl)
def ti136 : TI := ⟨ .struct #[.mk "value" 107 0 false "" "exchequer/view" 0, .mk "gone" 4 1 false "" "exchequer/view" 24], 2, 32, some (.agg #[.slice Option.none 0 0, .bool false]), true, [(0, 107), (1, 4)]⟩
theorem fit136 : TI.Fits Tryz.prog 136 ti136 := .of Tryz.type136 Tryz.underlying136 rfl rfl rfl rfl (fun _ h => by cases h <;> rfl)
def ti146 : TI := ⟨ .struct #[.mk "View" 29 0 true "" "" 0], 1, 8, some (.agg #[.pointer Option.none]), true, [(0, 29)]⟩
theorem fit146 : TI.Fits Tryz.prog 146 ti146 := .of Tryz.type146 Tryz.underlying146 rfl rfl rfl rfl (fun _ h => by cases h <;> rfl)
def ti147 : TI := ⟨ .struct #[.mk "View" 29 0 true "" "" 0], 1, 8, some (.agg #[.pointer Option.none]), true, [(0, 29)]⟩
theorem fit147 : TI.Fits Tryz.prog 147 ti147 := .of Tryz.type147 Tryz.underlying147 rfl rfl rfl rfl (fun _ h => by cases h <;> rfl)
def ti162 : TI := ⟨ .slice 3, 1, 24, some (.slice Option.none 0 0), false, []⟩
theorem fit162 : TI.Fits Tryz.prog 162 ti162 := .of Tryz.type162 Tryz.underlying162 rfl rfl rfl rfl (fun _ h => by cases h <;> rfl)
def ti173 : TI := ⟨ .struct #[.mk "tag" 5 0 false "" "exchequer/recs" 0, .mk "keys" 3 1 false "" "exchequer/recs" 8, .mk "values" 3 2 false "" "exchequer/recs" 16], 3, 24, some (.agg #[.int .u8 0, .int .i64 0, .int .i64 0]), true, [(0, 5), (1, 3), (2, 3)]⟩
theorem fit173 : TI.Fits Tryz.prog 173 ti173 := .of Tryz.type173 Tryz.underlying173 rfl rfl rfl rfl (fun _ h => by cases h <;> rfl)
def ti174 : TI := ⟨ .struct #[.mk "tag" 5 0 false "" "exchequer/recs" 0, .mk "keys" 3 1 false "" "exchequer/recs" 8, .mk "values" 3 2 false "" "exchequer/recs" 16], 3, 24, some (.agg #[.int .u8 0, .int .i64 0, .int .i64 0]), true, [(0, 5), (1, 3), (2, 3)]⟩
theorem fit174 : TI.Fits Tryz.prog 174 ti174 := .of Tryz.type174 Tryz.underlying174 rfl rfl rfl rfl (fun _ h => by cases h <;> rfl)
def ti185 : TI := ⟨ .struct #[.mk "pre" 3 0 false "" "exchequer/ctrl" 0, .mk "enc" 3 1 false "" "exchequer/ctrl" 8, .mk "exp" 3 2 false "" "exchequer/ctrl" 16], 3, 24, some (.agg #[.int .i64 0, .int .i64 0, .int .i64 0]), true, [(0, 3), (1, 3), (2, 3)]⟩
theorem fit185 : TI.Fits Tryz.prog 185 ti185 := .of Tryz.type185 Tryz.underlying185 rfl rfl rfl rfl (fun _ h => by cases h <;> rfl)
def ti186 : TI := ⟨ .struct #[.mk "pre" 3 0 false "" "exchequer/ctrl" 0, .mk "enc" 3 1 false "" "exchequer/ctrl" 8, .mk "exp" 3 2 false "" "exchequer/ctrl" 16], 3, 24, some (.agg #[.int .i64 0, .int .i64 0, .int .i64 0]), true, [(0, 3), (1, 3), (2, 3)]⟩
theorem fit186 : TI.Fits Tryz.prog 186 ti186 := .of Tryz.type186 Tryz.underlying186 rfl rfl rfl rfl (fun _ h => by cases h <;> rfl)
def ti189 : TI := ⟨ .struct #[.mk "View" 29 0 true "" "" 0], 1, 8, some (.agg #[.pointer Option.none]), true, [(0, 29)]⟩
theorem fit189 : TI.Fits Tryz.prog 189 ti189 := .of Tryz.type189 Tryz.underlying189 rfl rfl rfl rfl (fun _ h => by cases h <;> rfl)
def ti194 : TI := ⟨ .pointer 263, 1, 8, some (.pointer Option.none), false, []⟩
theorem fit194 : TI.Fits Tryz.prog 194 ti194 := .of Tryz.type194 Tryz.underlying194 rfl rfl rfl rfl (fun _ h => by cases h <;> rfl)
def ti195 : TI := ⟨ .pointer 252, 1, 8, some (.pointer Option.none), false, []⟩
theorem fit195 : TI.Fits Tryz.prog 195 ti195 := .of Tryz.type195 Tryz.underlying195 rfl rfl rfl rfl (fun _ h => by cases h <;> rfl)
def ti196 : TI := ⟨ .struct #[.mk "Store" 194 0 true "" "" 0, .mk "pager" 195 1 false "" "exchequer/kv" 8, .mk "broken" 4 2 false "" "exchequer/kv" 16], 3, 24, some (.agg #[.pointer Option.none, .pointer Option.none, .bool false]), true, [(0, 194), (1, 195), (2, 4)]⟩
theorem fit196 : TI.Fits Tryz.prog 196 ti196 := .of Tryz.type196 Tryz.underlying196 rfl rfl rfl rfl (fun _ h => by cases h <;> rfl)
def ti197 : TI := ⟨ .struct #[.mk "Store" 194 0 true "" "" 0, .mk "pager" 195 1 false "" "exchequer/kv" 8, .mk "broken" 4 2 false "" "exchequer/kv" 16], 3, 24, some (.agg #[.pointer Option.none, .pointer Option.none, .bool false]), true, [(0, 194), (1, 195), (2, 4)]⟩
theorem fit197 : TI.Fits Tryz.prog 197 ti197 := .of Tryz.type197 Tryz.underlying197 rfl rfl rfl rfl (fun _ h => by cases h <;> rfl)
def ti205 : TI := ⟨ .struct #[.mk "View" 29 0 true "" "" 0, .mk "key" 107 1 false "" "exchequer/seqn" 8], 2, 32, some (.agg #[.pointer Option.none, .slice Option.none 0 0]), true, [(0, 29), (1, 107)]⟩
theorem fit205 : TI.Fits Tryz.prog 205 ti205 := .of Tryz.type205 Tryz.underlying205 rfl rfl rfl rfl (fun _ h => by cases h <;> rfl)
def ti206 : TI := ⟨ .struct #[.mk "View" 29 0 true "" "" 0, .mk "key" 107 1 false "" "exchequer/seqn" 8], 2, 32, some (.agg #[.pointer Option.none, .slice Option.none 0 0]), true, [(0, 29), (1, 107)]⟩
theorem fit206 : TI.Fits Tryz.prog 206 ti206 := .of Tryz.type206 Tryz.underlying206 rfl rfl rfl rfl (fun _ h => by cases h <;> rfl)
def ti240 : TI := ⟨ .int .u64, 1, 8, some (.int .u64 0), false, []⟩
theorem fit240 : TI.Fits Tryz.prog 240 ti240 := .of Tryz.type240 Tryz.underlying240 rfl rfl rfl rfl (fun _ h => by cases h <;> rfl)
def ti242 : TI := ⟨ .slice 295, 1, 24, some (.slice Option.none 0 0), false, []⟩
theorem fit242 : TI.Fits Tryz.prog 242 ti242 := .of Tryz.type242 Tryz.underlying242 rfl rfl rfl rfl (fun _ h => by cases h <;> rfl)
def ti243 : TI := ⟨ .slice 295, 1, 24, some (.slice Option.none 0 0), false, []⟩
theorem fit243 : TI.Fits Tryz.prog 243 ti243 := .of Tryz.type243 Tryz.underlying243 rfl rfl rfl rfl (fun _ h => by cases h <;> rfl)
def ti249 : TI := ⟨ .pointer 310, 1, 8, some (.pointer Option.none), false, []⟩
theorem fit249 : TI.Fits Tryz.prog 249 ti249 := .of Tryz.type249 Tryz.underlying249 rfl rfl rfl rfl (fun _ h => by cases h <;> rfl)
def ti250 : TI := ⟨ .map 3 107, 1, 8, some (.map Option.none), false, []⟩
theorem fit250 : TI.Fits Tryz.prog 250 ti250 := .of Tryz.type250 Tryz.underlying250 rfl rfl rfl rfl (fun _ h => by cases h <;> rfl)
def ti251 : TI := ⟨ .struct #[.mk "log" 249 0 false "" "exchequer/pager" 0, .mk "set" 250 1 false "" "exchequer/pager" 8], 2, 16, some (.agg #[.pointer Option.none, .map Option.none]), true, [(0, 249), (1, 250)]⟩
theorem fit251 : TI.Fits Tryz.prog 251 ti251 := .of Tryz.type251 Tryz.underlying251 rfl rfl rfl rfl (fun _ h => by cases h <;> rfl)
def ti252 : TI := ⟨ .struct #[.mk "log" 249 0 false "" "exchequer/pager" 0, .mk "set" 250 1 false "" "exchequer/pager" 8], 2, 16, some (.agg #[.pointer Option.none, .map Option.none]), true, [(0, 249), (1, 250)]⟩
theorem fit252 : TI.Fits Tryz.prog 252 ti252 := .of Tryz.type252 Tryz.underlying252 rfl rfl rfl rfl (fun _ h => by cases h <;> rfl)
def ti254 : TI := ⟨ .slice 320, 1, 24, some (.slice Option.none 0 0), false, []⟩
theorem fit254 : TI.Fits Tryz.prog 254 ti254 := .of Tryz.type254 Tryz.underlying254 rfl rfl rfl rfl (fun _ h => by cases h <;> rfl)
def ti258 : TI := ⟨ .struct #[.mk "Depth" 3 0 false "" "" 0, .mk "Free" 3 1 false "" "" 8, .mk "Next" 3 2 false "" "" 16, .mk "Count" 3 3 false "" "" 24, .mk "Dir" 162 4 false "" "" 32], 5, 56, some (.agg #[.int .i64 0, .int .i64 0, .int .i64 0, .int .i64 0, .slice Option.none 0 0]), true, [(0, 3), (1, 3), (2, 3), (3, 3), (4, 162)]⟩
theorem fit258 : TI.Fits Tryz.prog 258 ti258 := .of Tryz.type258 Tryz.underlying258 rfl rfl rfl rfl (fun _ h => by cases h <;> rfl)
def ti259 : TI := ⟨ .struct #[.mk "Depth" 3 0 false "" "" 0, .mk "Free" 3 1 false "" "" 8, .mk "Next" 3 2 false "" "" 16, .mk "Count" 3 3 false "" "" 24, .mk "Dir" 162 4 false "" "" 32], 5, 56, some (.agg #[.int .i64 0, .int .i64 0, .int .i64 0, .int .i64 0, .slice Option.none 0 0]), true, [(0, 3), (1, 3), (2, 3), (3, 3), (4, 162)]⟩
theorem fit259 : TI.Fits Tryz.prog 259 ti259 := .of Tryz.type259 Tryz.underlying259 rfl rfl rfl rfl (fun _ h => by cases h <;> rfl)
def ti262 : TI := ⟨ .struct #[.mk "Pager" 195 0 true "" "" 0, .mk "m" 259 1 false "" "exchequer/ext" 8], 6, 64, some (.agg #[.pointer Option.none, .int .i64 0, .int .i64 0, .int .i64 0, .int .i64 0, .slice Option.none 0 0]), true, [(0, 195), (1, 259)]⟩
theorem fit262 : TI.Fits Tryz.prog 262 ti262 := .of Tryz.type262 Tryz.underlying262 rfl rfl rfl rfl (fun _ h => by cases h <;> rfl)
def ti263 : TI := ⟨ .struct #[.mk "Pager" 195 0 true "" "" 0, .mk "m" 259 1 false "" "exchequer/ext" 8], 6, 64, some (.agg #[.pointer Option.none, .int .i64 0, .int .i64 0, .int .i64 0, .int .i64 0, .slice Option.none 0 0]), true, [(0, 195), (1, 259)]⟩
theorem fit263 : TI.Fits Tryz.prog 263 ti263 := .of Tryz.type263 Tryz.underlying263 rfl rfl rfl rfl (fun _ h => by cases h <;> rfl)
def ti274 : TI := ⟨ .int .u64, 1, 8, some (.int .u64 0), false, []⟩
theorem fit274 : TI.Fits Tryz.prog 274 ti274 := .of Tryz.type274 Tryz.underlying274 rfl rfl rfl rfl (fun _ h => by cases h <;> rfl)
def ti278 : TI := ⟨ .slice 33, 1, 24, some (.slice Option.none 0 0), false, []⟩
theorem fit278 : TI.Fits Tryz.prog 278 ti278 := .of Tryz.type278 Tryz.underlying278 rfl rfl rfl rfl (fun _ h => by cases h <;> rfl)
def ti282 : TI := ⟨ .int .i64, 1, 8, some (.int .i64 0), false, []⟩
theorem fit282 : TI.Fits Tryz.prog 282 ti282 := .of Tryz.type282 Tryz.underlying282 rfl rfl rfl rfl (fun _ h => by cases h <;> rfl)
def ti290 : TI := ⟨ .int .u32, 1, 4, some (.int .u32 0), false, []⟩
theorem fit290 : TI.Fits Tryz.prog 290 ti290 := .of Tryz.type290 Tryz.underlying290 rfl rfl rfl rfl (fun _ h => by cases h <;> rfl)
def ti292 : TI := ⟨ .struct #[.mk "Depth" 3 0 false "" "" 0, .mk "Next" 3 1 false "" "" 8, .mk "Pairs" 76 2 false "" "" 16], 3, 40, some (.agg #[.int .i64 0, .int .i64 0, .slice Option.none 0 0]), true, [(0, 3), (1, 3), (2, 76)]⟩
theorem fit292 : TI.Fits Tryz.prog 292 ti292 := .of Tryz.type292 Tryz.underlying292 rfl rfl rfl rfl (fun _ h => by cases h <;> rfl)
def ti293 : TI := ⟨ .struct #[.mk "Depth" 3 0 false "" "" 0, .mk "Next" 3 1 false "" "" 8, .mk "Pairs" 76 2 false "" "" 16], 3, 40, some (.agg #[.int .i64 0, .int .i64 0, .slice Option.none 0 0]), true, [(0, 3), (1, 3), (2, 76)]⟩
theorem fit293 : TI.Fits Tryz.prog 293 ti293 := .of Tryz.type293 Tryz.underlying293 rfl rfl rfl rfl (fun _ h => by cases h <;> rfl)
def ti294 : TI := ⟨ .struct #[.mk "Bucket" 293 0 true "" "" 0, .mk "page" 3 3 false "" "exchequer/ext" 40], 4, 48, some (.agg #[.int .i64 0, .int .i64 0, .slice Option.none 0 0, .int .i64 0]), true, [(0, 293), (3, 3)]⟩
theorem fit294 : TI.Fits Tryz.prog 294 ti294 := .of Tryz.type294 Tryz.underlying294 rfl rfl rfl rfl (fun _ h => by cases h <;> rfl)
def ti295 : TI := ⟨ .struct #[.mk "Bucket" 293 0 true "" "" 0, .mk "page" 3 3 false "" "exchequer/ext" 40], 4, 48, some (.agg #[.int .i64 0, .int .i64 0, .slice Option.none 0 0, .int .i64 0]), true, [(0, 293), (3, 3)]⟩
theorem fit295 : TI.Fits Tryz.prog 295 ti295 := .of Tryz.type295 Tryz.underlying295 rfl rfl rfl rfl (fun _ h => by cases h <;> rfl)
def ti308 : TI := ⟨ .pointer 385, 1, 8, some (.pointer Option.none), false, []⟩
theorem fit308 : TI.Fits Tryz.prog 308 ti308 := .of Tryz.type308 Tryz.underlying308 rfl rfl rfl rfl (fun _ h => by cases h <;> rfl)
def ti309 : TI := ⟨ .struct #[.mk "Disk" 308 0 true "" "" 0, .mk "seq" 3 1 false "" "exchequer/redo" 8], 2, 16, some (.agg #[.pointer Option.none, .int .i64 0]), true, [(0, 308), (1, 3)]⟩
theorem fit309 : TI.Fits Tryz.prog 309 ti309 := .of Tryz.type309 Tryz.underlying309 rfl rfl rfl rfl (fun _ h => by cases h <;> rfl)
def ti310 : TI := ⟨ .struct #[.mk "Disk" 308 0 true "" "" 0, .mk "seq" 3 1 false "" "exchequer/redo" 8], 2, 16, some (.agg #[.pointer Option.none, .int .i64 0]), true, [(0, 308), (1, 3)]⟩
theorem fit310 : TI.Fits Tryz.prog 310 ti310 := .of Tryz.type310 Tryz.underlying310 rfl rfl rfl rfl (fun _ h => by cases h <;> rfl)
def ti311 : TI := ⟨ .slice 362, 1, 24, some (.slice Option.none 0 0), false, []⟩
theorem fit311 : TI.Fits Tryz.prog 311 ti311 := .of Tryz.type311 Tryz.underlying311 rfl rfl rfl rfl (fun _ h => by cases h <;> rfl)
def ti316 : TI := ⟨ .struct #[.mk "count" 3 0 false "" "exchequer/redo" 0, .mk "seq" 3 1 false "" "exchequer/redo" 8], 2, 16, some (.agg #[.int .i64 0, .int .i64 0]), true, [(0, 3), (1, 3)]⟩
theorem fit316 : TI.Fits Tryz.prog 316 ti316 := .of Tryz.type316 Tryz.underlying316 rfl rfl rfl rfl (fun _ h => by cases h <;> rfl)
def ti317 : TI := ⟨ .struct #[.mk "count" 3 0 false "" "exchequer/redo" 0, .mk "seq" 3 1 false "" "exchequer/redo" 8], 2, 16, some (.agg #[.int .i64 0, .int .i64 0]), true, [(0, 3), (1, 3)]⟩
theorem fit317 : TI.Fits Tryz.prog 317 ti317 := .of Tryz.type317 Tryz.underlying317 rfl rfl rfl rfl (fun _ h => by cases h <;> rfl)
def ti319 : TI := ⟨ .struct #[.mk "Page" 3 0 false "" "" 0, .mk "Data" 107 1 false "" "" 8], 2, 32, some (.agg #[.int .i64 0, .slice Option.none 0 0]), true, [(0, 3), (1, 107)]⟩
theorem fit319 : TI.Fits Tryz.prog 319 ti319 := .of Tryz.type319 Tryz.underlying319 rfl rfl rfl rfl (fun _ h => by cases h <;> rfl)
def ti320 : TI := ⟨ .struct #[.mk "Page" 3 0 false "" "" 0, .mk "Data" 107 1 false "" "" 8], 2, 32, some (.agg #[.int .i64 0, .slice Option.none 0 0]), true, [(0, 3), (1, 107)]⟩
theorem fit320 : TI.Fits Tryz.prog 320 ti320 := .of Tryz.type320 Tryz.underlying320 rfl rfl rfl rfl (fun _ h => by cases h <;> rfl)
def ti330 : TI := ⟨ .map 3 3, 1, 8, some (.map Option.none), false, []⟩
theorem fit330 : TI.Fits Tryz.prog 330 ti330 := .of Tryz.type330 Tryz.underlying330 rfl rfl rfl rfl (fun _ h => by cases h <;> rfl)
def ti334 : TI := ⟨ .int .u64, 1, 8, some (.int .u64 0), false, []⟩
theorem fit334 : TI.Fits Tryz.prog 334 ti334 := .of Tryz.type334 Tryz.underlying334 rfl rfl rfl rfl (fun _ h => by cases h <;> rfl)
def ti338 : TI := ⟨ .pointer 3, 1, 8, some (.pointer Option.none), false, []⟩
theorem fit338 : TI.Fits Tryz.prog 338 ti338 := .of Tryz.type338 Tryz.underlying338 rfl rfl rfl rfl (fun _ h => by cases h <;> rfl)
def ti341 : TI := ⟨ .struct #[.mk "page" 3 0 false "" "exchequer/dir" 0, .mk "at" 3 1 false "" "exchequer/dir" 8], 2, 16, some (.agg #[.int .i64 0, .int .i64 0]), true, [(0, 3), (1, 3)]⟩
theorem fit341 : TI.Fits Tryz.prog 341 ti341 := .of Tryz.type341 Tryz.underlying341 rfl rfl rfl rfl (fun _ h => by cases h <;> rfl)
def ti342 : TI := ⟨ .struct #[.mk "page" 3 0 false "" "exchequer/dir" 0, .mk "at" 3 1 false "" "exchequer/dir" 8], 2, 16, some (.agg #[.int .i64 0, .int .i64 0]), true, [(0, 3), (1, 3)]⟩
theorem fit342 : TI.Fits Tryz.prog 342 ti342 := .of Tryz.type342 Tryz.underlying342 rfl rfl rfl rfl (fun _ h => by cases h <;> rfl)
def ti358 : TI := ⟨ .map 3 4, 1, 8, some (.map Option.none), false, []⟩
theorem fit358 : TI.Fits Tryz.prog 358 ti358 := .of Tryz.type358 Tryz.underlying358 rfl rfl rfl rfl (fun _ h => by cases h <;> rfl)
def ti361 : TI := ⟨ .struct #[.mk "at" 3 0 false "" "exchequer/redo" 0, .mk "bytes" 107 1 false "" "exchequer/redo" 8], 2, 32, some (.agg #[.int .i64 0, .slice Option.none 0 0]), true, [(0, 3), (1, 107)]⟩
theorem fit361 : TI.Fits Tryz.prog 361 ti361 := .of Tryz.type361 Tryz.underlying361 rfl rfl rfl rfl (fun _ h => by cases h <;> rfl)
def ti362 : TI := ⟨ .struct #[.mk "at" 3 0 false "" "exchequer/redo" 0, .mk "bytes" 107 1 false "" "exchequer/redo" 8], 2, 32, some (.agg #[.int .i64 0, .slice Option.none 0 0]), true, [(0, 3), (1, 107)]⟩
theorem fit362 : TI.Fits Tryz.prog 362 ti362 := .of Tryz.type362 Tryz.underlying362 rfl rfl rfl rfl (fun _ h => by cases h <;> rfl)
def ti375 : TI := ⟨ .pointer 334, 1, 8, some (.pointer Option.none), false, []⟩
theorem fit375 : TI.Fits Tryz.prog 375 ti375 := .of Tryz.type375 Tryz.underlying375 rfl rfl rfl rfl (fun _ h => by cases h <;> rfl)
def ti382 : TI := ⟨ .struct #[.mk "armed" 4 0 false "" "exchequer/disk" 0, .mk "left" 3 1 false "" "exchequer/disk" 8, .mk "down" 4 2 false "" "exchequer/disk" 16], 3, 24, some (.agg #[.bool false, .int .i64 0, .bool false]), true, [(0, 4), (1, 3), (2, 4)]⟩
theorem fit382 : TI.Fits Tryz.prog 382 ti382 := .of Tryz.type382 Tryz.underlying382 rfl rfl rfl rfl (fun _ h => by cases h <;> rfl)
def ti383 : TI := ⟨ .struct #[.mk "armed" 4 0 false "" "exchequer/disk" 0, .mk "left" 3 1 false "" "exchequer/disk" 8, .mk "down" 4 2 false "" "exchequer/disk" 16], 3, 24, some (.agg #[.bool false, .int .i64 0, .bool false]), true, [(0, 4), (1, 3), (2, 4)]⟩
theorem fit383 : TI.Fits Tryz.prog 383 ti383 := .of Tryz.type383 Tryz.underlying383 rfl rfl rfl rfl (fun _ h => by cases h <;> rfl)
def ti384 : TI := ⟨ .struct #[.mk "fuse" 383 0 true "" "exchequer/disk" 0, .mk "size" 3 3 false "" "exchequer/disk" 24, .mk "safe" 250 4 false "" "exchequer/disk" 32, .mk "fresh" 250 5 false "" "exchequer/disk" 40, .mk "order" 162 6 false "" "exchequer/disk" 48, .mk "writes" 3 7 false "" "exchequer/disk" 72], 8, 80, some (.agg #[.bool false, .int .i64 0, .bool false, .int .i64 0, .map Option.none, .map Option.none, .slice Option.none 0 0, .int .i64 0]), true, [(0, 383), (3, 3), (4, 250), (5, 250), (6, 162), (7, 3)]⟩
theorem fit384 : TI.Fits Tryz.prog 384 ti384 := .of Tryz.type384 Tryz.underlying384 rfl rfl rfl rfl (fun _ h => by cases h <;> rfl)
def ti385 : TI := ⟨ .struct #[.mk "fuse" 383 0 true "" "exchequer/disk" 0, .mk "size" 3 3 false "" "exchequer/disk" 24, .mk "safe" 250 4 false "" "exchequer/disk" 32, .mk "fresh" 250 5 false "" "exchequer/disk" 40, .mk "order" 162 6 false "" "exchequer/disk" 48, .mk "writes" 3 7 false "" "exchequer/disk" 72], 8, 80, some (.agg #[.bool false, .int .i64 0, .bool false, .int .i64 0, .map Option.none, .map Option.none, .slice Option.none 0 0, .int .i64 0]), true, [(0, 383), (3, 3), (4, 250), (5, 250), (6, 162), (7, 3)]⟩
theorem fit385 : TI.Fits Tryz.prog 385 ti385 := .of Tryz.type385 Tryz.underlying385 rfl rfl rfl rfl (fun _ h => by cases h <;> rfl)
def ti386 : TI := ⟨ .struct #[.mk "from" 3 0 false "" "exchequer/layout" 0, .mk "many" 3 1 false "" "exchequer/layout" 8], 2, 16, some (.agg #[.int .i64 0, .int .i64 0]), true, [(0, 3), (1, 3)]⟩
theorem fit386 : TI.Fits Tryz.prog 386 ti386 := .of Tryz.type386 Tryz.underlying386 rfl rfl rfl rfl (fun _ h => by cases h <;> rfl)
def ti387 : TI := ⟨ .struct #[.mk "from" 3 0 false "" "exchequer/layout" 0, .mk "many" 3 1 false "" "exchequer/layout" 8], 2, 16, some (.agg #[.int .i64 0, .int .i64 0]), true, [(0, 3), (1, 3)]⟩
theorem fit387 : TI.Fits Tryz.prog 387 ti387 := .of Tryz.type387 Tryz.underlying387 rfl rfl rfl rfl (fun _ h => by cases h <;> rfl)
def ti400 : TI := ⟨ .pointer 402, 1, 8, some (.pointer Option.none), false, []⟩
theorem fit400 : TI.Fits Tryz.prog 400 ti400 := .of Tryz.type400 Tryz.underlying400 rfl rfl rfl rfl (fun _ h => by cases h <;> rfl)
def ti401 : TI := ⟨ .struct #[.mk "data" 107 0 false "" "exchequer/bucket" 0, .mk "at" 3 1 false "" "exchequer/bucket" 24, .mk "bad" 4 2 false "" "exchequer/bucket" 32], 3, 40, some (.agg #[.slice Option.none 0 0, .int .i64 0, .bool false]), true, [(0, 107), (1, 3), (2, 4)]⟩
theorem fit401 : TI.Fits Tryz.prog 401 ti401 := .of Tryz.type401 Tryz.underlying401 rfl rfl rfl rfl (fun _ h => by cases h <;> rfl)
def ti402 : TI := ⟨ .struct #[.mk "data" 107 0 false "" "exchequer/bucket" 0, .mk "at" 3 1 false "" "exchequer/bucket" 24, .mk "bad" 4 2 false "" "exchequer/bucket" 32], 3, 40, some (.agg #[.slice Option.none 0 0, .int .i64 0, .bool false]), true, [(0, 107), (1, 3), (2, 4)]⟩
theorem fit402 : TI.Fits Tryz.prog 402 ti402 := .of Tryz.type402 Tryz.underlying402 rfl rfl rfl rfl (fun _ h => by cases h <;> rfl)
def ti405 : TI := ⟨ .pointer 383, 1, 8, some (.pointer Option.none), false, []⟩
theorem fit405 : TI.Fits Tryz.prog 405 ti405 := .of Tryz.type405 Tryz.underlying405 rfl rfl rfl rfl (fun _ h => by cases h <;> rfl)
def ti422 : TI := ⟨ .array 16 290, 16, 64, some (.agg #[.int .u32 0, .int .u32 0, .int .u32 0, .int .u32 0, .int .u32 0, .int .u32 0, .int .u32 0, .int .u32 0, .int .u32 0, .int .u32 0, .int .u32 0, .int .u32 0, .int .u32 0, .int .u32 0, .int .u32 0, .int .u32 0]), true, []⟩
theorem fit422 : TI.Fits Tryz.prog 422 ti422 := .of Tryz.type422 Tryz.underlying422 rfl rfl rfl rfl (fun _ h => by cases h <;> rfl)
def ti424 : TI := ⟨ .struct #[.mk "_interface" 17 0 false "" "runtime" 0, .mk "concrete" 17 1 false "" "runtime" 8, .mk "asserted" 17 2 false "" "runtime" 16, .mk "missingMethod" 9 3 false "" "runtime" 24], 4, 40, some (.agg #[.pointer Option.none, .pointer Option.none, .pointer Option.none, .string (ByteArray.mk #[])]), true, [(0, 17), (1, 17), (2, 17), (3, 9)]⟩
theorem fit424 : TI.Fits Tryz.prog 424 ti424 := .of Tryz.type424 Tryz.underlying424 rfl rfl rfl rfl (fun _ h => by cases h <;> rfl)
def ti425 : TI := ⟨ .struct #[.mk "_interface" 17 0 false "" "runtime" 0, .mk "concrete" 17 1 false "" "runtime" 8, .mk "asserted" 17 2 false "" "runtime" 16, .mk "missingMethod" 9 3 false "" "runtime" 24], 4, 40, some (.agg #[.pointer Option.none, .pointer Option.none, .pointer Option.none, .string (ByteArray.mk #[])]), true, [(0, 17), (1, 17), (2, 17), (3, 9)]⟩
theorem fit425 : TI.Fits Tryz.prog 425 ti425 := .of Tryz.type425 Tryz.underlying425 rfl rfl rfl rfl (fun _ h => by cases h <;> rfl)
def ti426 : TI := ⟨ .array 0 16, 0, 0, some (.agg #[]), true, []⟩
theorem fit426 : TI.Fits Tryz.prog 426 ti426 := .of Tryz.type426 Tryz.underlying426 rfl rfl rfl rfl (fun _ h => by cases h <;> rfl)
def ti427 : TI := ⟨ .struct #[.mk "_" 426 0 false "" "runtime" 0], 0, 0, some (.agg #[]), true, [(0, 426)]⟩
theorem fit427 : TI.Fits Tryz.prog 427 ti427 := .of Tryz.type427 Tryz.underlying427 rfl rfl rfl rfl (fun _ h => by cases h <;> rfl)
def ti428 : TI := ⟨ .struct #[.mk "_" 426 0 false "" "runtime" 0], 0, 0, some (.agg #[]), true, [(0, 426)]⟩
theorem fit428 : TI.Fits Tryz.prog 428 ti428 := .of Tryz.type428 Tryz.underlying428 rfl rfl rfl rfl (fun _ h => by cases h <;> rfl)
def ti429 : TI := ⟨ .int .u8, 1, 1, some (.int .u8 0), false, []⟩
theorem fit429 : TI.Fits Tryz.prog 429 ti429 := .of Tryz.type429 Tryz.underlying429 rfl rfl rfl rfl (fun _ h => by cases h <;> rfl)
def ti430 : TI := ⟨ .int .u8, 1, 1, some (.int .u8 0), false, []⟩
theorem fit430 : TI.Fits Tryz.prog 430 ti430 := .of Tryz.type430 Tryz.underlying430 rfl rfl rfl rfl (fun _ h => by cases h <;> rfl)
def ti432 : TI := ⟨ .pointer 5, 1, 8, some (.pointer Option.none), false, []⟩
theorem fit432 : TI.Fits Tryz.prog 432 ti432 := .of Tryz.type432 Tryz.underlying432 rfl rfl rfl rfl (fun _ h => by cases h <;> rfl)
def ti433 : TI := ⟨ .int .i32, 1, 4, some (.int .i32 0), false, []⟩
theorem fit433 : TI.Fits Tryz.prog 433 ti433 := .of Tryz.type433 Tryz.underlying433 rfl rfl rfl rfl (fun _ h => by cases h <;> rfl)
def ti434 : TI := ⟨ .int .i32, 1, 4, some (.int .i32 0), false, []⟩
theorem fit434 : TI.Fits Tryz.prog 434 ti434 := .of Tryz.type434 Tryz.underlying434 rfl rfl rfl rfl (fun _ h => by cases h <;> rfl)
def ti435 : TI := ⟨ .struct #[.mk "Size_" 12 0 false "" "" 0, .mk "PtrBytes" 12 1 false "" "" 8, .mk "Hash" 290 2 false "" "" 16, .mk "TFlag" 429 3 false "" "" 20, .mk "Align_" 5 4 false "" "" 21, .mk "FieldAlign_" 5 5 false "" "" 22, .mk "Kind_" 430 6 false "" "" 23, .mk "Equal" 431 7 false "" "" 24, .mk "GCData" 432 8 false "" "" 32, .mk "Str" 433 9 false "" "" 40, .mk "PtrToThis" 434 10 false "" "" 44], 11, 48, some (.agg #[.int .u64 0, .int .u64 0, .int .u32 0, .int .u8 0, .int .u8 0, .int .u8 0, .int .u8 0, .nilFunc, .pointer Option.none, .int .i32 0, .int .i32 0]), true, [(0, 12), (1, 12), (2, 290), (3, 429), (4, 5), (5, 5), (6, 430), (7, 431), (8, 432), (9, 433), (10, 434)]⟩
theorem fit435 : TI.Fits Tryz.prog 435 ti435 := .of Tryz.type435 Tryz.underlying435 rfl rfl rfl rfl (fun _ h => by cases h <;> rfl)
def ti436 : TI := ⟨ .struct #[.mk "Size_" 12 0 false "" "" 0, .mk "PtrBytes" 12 1 false "" "" 8, .mk "Hash" 290 2 false "" "" 16, .mk "TFlag" 429 3 false "" "" 20, .mk "Align_" 5 4 false "" "" 21, .mk "FieldAlign_" 5 5 false "" "" 22, .mk "Kind_" 430 6 false "" "" 23, .mk "Equal" 431 7 false "" "" 24, .mk "GCData" 432 8 false "" "" 32, .mk "Str" 433 9 false "" "" 40, .mk "PtrToThis" 434 10 false "" "" 44], 11, 48, some (.agg #[.int .u64 0, .int .u64 0, .int .u32 0, .int .u8 0, .int .u8 0, .int .u8 0, .int .u8 0, .nilFunc, .pointer Option.none, .int .i32 0, .int .i32 0]), true, [(0, 12), (1, 12), (2, 290), (3, 429), (4, 5), (5, 5), (6, 430), (7, 431), (8, 432), (9, 433), (10, 434)]⟩
theorem fit436 : TI.Fits Tryz.prog 436 ti436 := .of Tryz.type436 Tryz.underlying436 rfl rfl rfl rfl (fun _ h => by cases h <;> rfl)
def ti438 : TI := ⟨ .unsafePointer, 1, 8, some (.pointer Option.none), false, []⟩
theorem fit438 : TI.Fits Tryz.prog 438 ti438 := .of Tryz.type438 Tryz.underlying438 rfl rfl rfl rfl (fun _ h => by cases h <;> rfl)
def te : Te := Te.nd 162 (Te.nd 63 (Te.nd 20 (Te.nd 11 (Te.nd 6 (Te.nd 4 (Te.nd 3 (Te.lf 2 ti2) (Te.lf 3 ti3)) (Te.nd 5 (Te.lf 4 ti4) (Te.lf 5 ti5))) (Te.nd 8 (Te.nd 7 (Te.lf 6 ti6) (Te.lf 7 ti7)) (Te.nd 9 (Te.lf 8 ti8) (Te.nd 10 (Te.lf 9 ti9) (Te.lf 10 ti10))))) (Te.nd 15 (Te.nd 13 (Te.nd 12 (Te.lf 11 ti11) (Te.lf 12 ti12)) (Te.nd 14 (Te.lf 13 ti13) (Te.lf 14 ti14))) (Te.nd 17 (Te.nd 16 (Te.lf 15 ti15) (Te.lf 16 ti16)) (Te.nd 18 (Te.lf 17 ti17) (Te.nd 19 (Te.lf 18 ti18) (Te.lf 19 ti19)))))) (Te.nd 34 (Te.nd 27 (Te.nd 22 (Te.nd 21 (Te.lf 20 ti20) (Te.lf 21 ti21)) (Te.nd 23 (Te.lf 22 ti22) (Te.lf 23 ti23))) (Te.nd 29 (Te.nd 28 (Te.lf 27 ti27) (Te.lf 28 ti28)) (Te.nd 30 (Te.lf 29 ti29) (Te.nd 33 (Te.lf 30 ti30) (Te.lf 33 ti33))))) (Te.nd 44 (Te.nd 36 (Te.nd 35 (Te.lf 34 ti34) (Te.lf 35 ti35)) (Te.nd 43 (Te.lf 36 ti36) (Te.lf 43 ti43))) (Te.nd 46 (Te.nd 45 (Te.lf 44 ti44) (Te.lf 45 ti45)) (Te.nd 47 (Te.lf 46 ti46) (Te.nd 62 (Te.lf 47 ti47) (Te.lf 62 ti62))))))) (Te.nd 104 (Te.nd 82 (Te.nd 73 (Te.nd 71 (Te.nd 70 (Te.lf 63 ti63) (Te.lf 70 ti70)) (Te.nd 72 (Te.lf 71 ti71) (Te.lf 72 ti72))) (Te.nd 75 (Te.nd 74 (Te.lf 73 ti73) (Te.lf 74 ti74)) (Te.nd 76 (Te.lf 75 ti75) (Te.nd 77 (Te.lf 76 ti76) (Te.lf 77 ti77))))) (Te.nd 89 (Te.nd 85 (Te.nd 84 (Te.lf 82 ti82) (Te.lf 84 ti84)) (Te.nd 88 (Te.lf 85 ti85) (Te.lf 88 ti88))) (Te.nd 92 (Te.nd 91 (Te.lf 89 ti89) (Te.lf 91 ti91)) (Te.nd 100 (Te.lf 92 ti92) (Te.nd 101 (Te.lf 100 ti100) (Te.lf 101 ti101)))))) (Te.nd 116 (Te.nd 109 (Te.nd 107 (Te.nd 105 (Te.lf 104 ti104) (Te.lf 105 ti105)) (Te.nd 108 (Te.lf 107 ti107) (Te.lf 108 ti108))) (Te.nd 113 (Te.nd 112 (Te.lf 109 ti109) (Te.lf 112 ti112)) (Te.nd 114 (Te.lf 113 ti113) (Te.nd 115 (Te.lf 114 ti114) (Te.lf 115 ti115))))) (Te.nd 133 (Te.nd 118 (Te.nd 117 (Te.lf 116 ti116) (Te.lf 117 ti117)) (Te.nd 123 (Te.lf 118 ti118) (Te.nd 124 (Te.lf 123 ti123) (Te.lf 124 ti124)))) (Te.nd 136 (Te.nd 135 (Te.lf 133 ti133) (Te.lf 135 ti135)) (Te.nd 146 (Te.lf 136 ti136) (Te.nd 147 (Te.lf 146 ti146) (Te.lf 147 ti147)))))))) (Te.nd 316 (Te.nd 252 (Te.nd 197 (Te.nd 186 (Te.nd 174 (Te.nd 173 (Te.lf 162 ti162) (Te.lf 173 ti173)) (Te.nd 185 (Te.lf 174 ti174) (Te.lf 185 ti185))) (Te.nd 194 (Te.nd 189 (Te.lf 186 ti186) (Te.lf 189 ti189)) (Te.nd 195 (Te.lf 194 ti194) (Te.nd 196 (Te.lf 195 ti195) (Te.lf 196 ti196))))) (Te.nd 242 (Te.nd 206 (Te.nd 205 (Te.lf 197 ti197) (Te.lf 205 ti205)) (Te.nd 240 (Te.lf 206 ti206) (Te.lf 240 ti240))) (Te.nd 249 (Te.nd 243 (Te.lf 242 ti242) (Te.lf 243 ti243)) (Te.nd 250 (Te.lf 249 ti249) (Te.nd 251 (Te.lf 250 ti250) (Te.lf 251 ti251)))))) (Te.nd 290 (Te.nd 262 (Te.nd 258 (Te.nd 254 (Te.lf 252 ti252) (Te.lf 254 ti254)) (Te.nd 259 (Te.lf 258 ti258) (Te.lf 259 ti259))) (Te.nd 274 (Te.nd 263 (Te.lf 262 ti262) (Te.lf 263 ti263)) (Te.nd 278 (Te.lf 274 ti274) (Te.nd 282 (Te.lf 278 ti278) (Te.lf 282 ti282))))) (Te.nd 295 (Te.nd 293 (Te.nd 292 (Te.lf 290 ti290) (Te.lf 292 ti292)) (Te.nd 294 (Te.lf 293 ti293) (Te.lf 294 ti294))) (Te.nd 309 (Te.nd 308 (Te.lf 295 ti295) (Te.lf 308 ti308)) (Te.nd 310 (Te.lf 309 ti309) (Te.nd 311 (Te.lf 310 ti310) (Te.lf 311 ti311))))))) (Te.nd 387 (Te.nd 358 (Te.nd 330 (Te.nd 319 (Te.nd 317 (Te.lf 316 ti316) (Te.lf 317 ti317)) (Te.nd 320 (Te.lf 319 ti319) (Te.lf 320 ti320))) (Te.nd 338 (Te.nd 334 (Te.lf 330 ti330) (Te.lf 334 ti334)) (Te.nd 341 (Te.lf 338 ti338) (Te.nd 342 (Te.lf 341 ti341) (Te.lf 342 ti342))))) (Te.nd 382 (Te.nd 362 (Te.nd 361 (Te.lf 358 ti358) (Te.lf 361 ti361)) (Te.nd 375 (Te.lf 362 ti362) (Te.lf 375 ti375))) (Te.nd 384 (Te.nd 383 (Te.lf 382 ti382) (Te.lf 383 ti383)) (Te.nd 385 (Te.lf 384 ti384) (Te.nd 386 (Te.lf 385 ti385) (Te.lf 386 ti386)))))) (Te.nd 427 (Te.nd 405 (Te.nd 401 (Te.nd 400 (Te.lf 387 ti387) (Te.lf 400 ti400)) (Te.nd 402 (Te.lf 401 ti401) (Te.lf 402 ti402))) (Te.nd 424 (Te.nd 422 (Te.lf 405 ti405) (Te.lf 422 ti422)) (Te.nd 425 (Te.lf 424 ti424) (Te.nd 426 (Te.lf 425 ti425) (Te.lf 426 ti426))))) (Te.nd 433 (Te.nd 429 (Te.nd 428 (Te.lf 427 ti427) (Te.lf 428 ti428)) (Te.nd 430 (Te.lf 429 ti429) (Te.nd 432 (Te.lf 430 ti430) (Te.lf 432 ti432)))) (Te.nd 435 (Te.nd 434 (Te.lf 433 ti433) (Te.lf 434 ti434)) (Te.nd 436 (Te.lf 435 ti435) (Te.nd 438 (Te.lf 436 ti436) (Te.lf 438 ti438))))))))
theorem hte : TeOk Tryz.prog te := TeOk.nd (TeOk.nd (TeOk.nd (TeOk.nd (TeOk.nd (TeOk.nd (TeOk.nd (TeOk.lf fit2) (TeOk.lf fit3)) (TeOk.nd (TeOk.lf fit4) (TeOk.lf fit5))) (TeOk.nd (TeOk.nd (TeOk.lf fit6) (TeOk.lf fit7)) (TeOk.nd (TeOk.lf fit8) (TeOk.nd (TeOk.lf fit9) (TeOk.lf fit10))))) (TeOk.nd (TeOk.nd (TeOk.nd (TeOk.lf fit11) (TeOk.lf fit12)) (TeOk.nd (TeOk.lf fit13) (TeOk.lf fit14))) (TeOk.nd (TeOk.nd (TeOk.lf fit15) (TeOk.lf fit16)) (TeOk.nd (TeOk.lf fit17) (TeOk.nd (TeOk.lf fit18) (TeOk.lf fit19)))))) (TeOk.nd (TeOk.nd (TeOk.nd (TeOk.nd (TeOk.lf fit20) (TeOk.lf fit21)) (TeOk.nd (TeOk.lf fit22) (TeOk.lf fit23))) (TeOk.nd (TeOk.nd (TeOk.lf fit27) (TeOk.lf fit28)) (TeOk.nd (TeOk.lf fit29) (TeOk.nd (TeOk.lf fit30) (TeOk.lf fit33))))) (TeOk.nd (TeOk.nd (TeOk.nd (TeOk.lf fit34) (TeOk.lf fit35)) (TeOk.nd (TeOk.lf fit36) (TeOk.lf fit43))) (TeOk.nd (TeOk.nd (TeOk.lf fit44) (TeOk.lf fit45)) (TeOk.nd (TeOk.lf fit46) (TeOk.nd (TeOk.lf fit47) (TeOk.lf fit62))))))) (TeOk.nd (TeOk.nd (TeOk.nd (TeOk.nd (TeOk.nd (TeOk.lf fit63) (TeOk.lf fit70)) (TeOk.nd (TeOk.lf fit71) (TeOk.lf fit72))) (TeOk.nd (TeOk.nd (TeOk.lf fit73) (TeOk.lf fit74)) (TeOk.nd (TeOk.lf fit75) (TeOk.nd (TeOk.lf fit76) (TeOk.lf fit77))))) (TeOk.nd (TeOk.nd (TeOk.nd (TeOk.lf fit82) (TeOk.lf fit84)) (TeOk.nd (TeOk.lf fit85) (TeOk.lf fit88))) (TeOk.nd (TeOk.nd (TeOk.lf fit89) (TeOk.lf fit91)) (TeOk.nd (TeOk.lf fit92) (TeOk.nd (TeOk.lf fit100) (TeOk.lf fit101)))))) (TeOk.nd (TeOk.nd (TeOk.nd (TeOk.nd (TeOk.lf fit104) (TeOk.lf fit105)) (TeOk.nd (TeOk.lf fit107) (TeOk.lf fit108))) (TeOk.nd (TeOk.nd (TeOk.lf fit109) (TeOk.lf fit112)) (TeOk.nd (TeOk.lf fit113) (TeOk.nd (TeOk.lf fit114) (TeOk.lf fit115))))) (TeOk.nd (TeOk.nd (TeOk.nd (TeOk.lf fit116) (TeOk.lf fit117)) (TeOk.nd (TeOk.lf fit118) (TeOk.nd (TeOk.lf fit123) (TeOk.lf fit124)))) (TeOk.nd (TeOk.nd (TeOk.lf fit133) (TeOk.lf fit135)) (TeOk.nd (TeOk.lf fit136) (TeOk.nd (TeOk.lf fit146) (TeOk.lf fit147)))))))) (TeOk.nd (TeOk.nd (TeOk.nd (TeOk.nd (TeOk.nd (TeOk.nd (TeOk.lf fit162) (TeOk.lf fit173)) (TeOk.nd (TeOk.lf fit174) (TeOk.lf fit185))) (TeOk.nd (TeOk.nd (TeOk.lf fit186) (TeOk.lf fit189)) (TeOk.nd (TeOk.lf fit194) (TeOk.nd (TeOk.lf fit195) (TeOk.lf fit196))))) (TeOk.nd (TeOk.nd (TeOk.nd (TeOk.lf fit197) (TeOk.lf fit205)) (TeOk.nd (TeOk.lf fit206) (TeOk.lf fit240))) (TeOk.nd (TeOk.nd (TeOk.lf fit242) (TeOk.lf fit243)) (TeOk.nd (TeOk.lf fit249) (TeOk.nd (TeOk.lf fit250) (TeOk.lf fit251)))))) (TeOk.nd (TeOk.nd (TeOk.nd (TeOk.nd (TeOk.lf fit252) (TeOk.lf fit254)) (TeOk.nd (TeOk.lf fit258) (TeOk.lf fit259))) (TeOk.nd (TeOk.nd (TeOk.lf fit262) (TeOk.lf fit263)) (TeOk.nd (TeOk.lf fit274) (TeOk.nd (TeOk.lf fit278) (TeOk.lf fit282))))) (TeOk.nd (TeOk.nd (TeOk.nd (TeOk.lf fit290) (TeOk.lf fit292)) (TeOk.nd (TeOk.lf fit293) (TeOk.lf fit294))) (TeOk.nd (TeOk.nd (TeOk.lf fit295) (TeOk.lf fit308)) (TeOk.nd (TeOk.lf fit309) (TeOk.nd (TeOk.lf fit310) (TeOk.lf fit311))))))) (TeOk.nd (TeOk.nd (TeOk.nd (TeOk.nd (TeOk.nd (TeOk.lf fit316) (TeOk.lf fit317)) (TeOk.nd (TeOk.lf fit319) (TeOk.lf fit320))) (TeOk.nd (TeOk.nd (TeOk.lf fit330) (TeOk.lf fit334)) (TeOk.nd (TeOk.lf fit338) (TeOk.nd (TeOk.lf fit341) (TeOk.lf fit342))))) (TeOk.nd (TeOk.nd (TeOk.nd (TeOk.lf fit358) (TeOk.lf fit361)) (TeOk.nd (TeOk.lf fit362) (TeOk.lf fit375))) (TeOk.nd (TeOk.nd (TeOk.lf fit382) (TeOk.lf fit383)) (TeOk.nd (TeOk.lf fit384) (TeOk.nd (TeOk.lf fit385) (TeOk.lf fit386)))))) (TeOk.nd (TeOk.nd (TeOk.nd (TeOk.nd (TeOk.lf fit387) (TeOk.lf fit400)) (TeOk.nd (TeOk.lf fit401) (TeOk.lf fit402))) (TeOk.nd (TeOk.nd (TeOk.lf fit405) (TeOk.lf fit422)) (TeOk.nd (TeOk.lf fit424) (TeOk.nd (TeOk.lf fit425) (TeOk.lf fit426))))) (TeOk.nd (TeOk.nd (TeOk.nd (TeOk.lf fit427) (TeOk.lf fit428)) (TeOk.nd (TeOk.lf fit429) (TeOk.nd (TeOk.lf fit430) (TeOk.lf fit432)))) (TeOk.nd (TeOk.nd (TeOk.lf fit433) (TeOk.lf fit434)) (TeOk.nd (TeOk.lf fit435) (TeOk.nd (TeOk.lf fit436) (TeOk.lf fit438))))))))
end Go.Fw
