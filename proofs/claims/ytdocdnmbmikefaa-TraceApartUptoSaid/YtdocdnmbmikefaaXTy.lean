/- A part of the proof: it states nothing of its own that is handed in. -/
import Derived.Test.YtdocdnmbmikefaaProg
import Derived.Test.YtdocdnmbmikefaaAmV
import Derived.KernelRfl
set_option linter.unusedVariables false
set_option linter.unusedSimpArgs false
/-! The types of the seat. -/
namespace Go.AM
open Go.Proofs
theorem mixed : Try.prog.follows .mixedOrders = true := by kernel_rfl
theorem ty3 : tyOf Try.prog 3 = ⟨1, 8, false, .int .i64, some [.d (.int .i64 0)]⟩ := by kernel_rfl
theorem ty4 : tyOf Try.prog 4 = ⟨1, 1, false, .bool, some [.d (.bool false)]⟩ := by kernel_rfl
theorem ty22 : tyOf Try.prog 22 = ⟨1, 24, false, .slice 77, some [.d .nilS]⟩ := by kernel_rfl
theorem ty24 : tyOf Try.prog 24 = ⟨9, 88, true, .strct [(0, 1, false), (1, 1, false), (2, 1, false), (3, 1, false), (4, 1, false), (5, 1, false), (6, 1, false), (7, 1, false), (8, 1, false)], some [.d (.int .i64 0), .d (.int .i64 0), .d (.int .i64 0), .d (.int .i64 0), .d (.int .i64 0), .d (.int .i64 0), .d (.int .i64 0), .d (.int .i64 0), .d .nilS]⟩ := by kernel_rfl
theorem ty25 : tyOf Try.prog 25 = ⟨1, 24, false, .slice 74, some [.d .nilS]⟩ := by kernel_rfl
theorem ty26 : tyOf Try.prog 26 = ⟨1, 24, false, .slice 39, some [.d .nilS]⟩ := by kernel_rfl
theorem ty28 : tyOf Try.prog 28 = ⟨11, 136, true, .strct [(0, 9, true), (9, 1, false), (10, 1, false)], some [.d (.int .i64 0), .d (.int .i64 0), .d (.int .i64 0), .d (.int .i64 0), .d (.int .i64 0), .d (.int .i64 0), .d (.int .i64 0), .d (.int .i64 0), .d .nilS, .d .nilS, .d .nilS]⟩ := by kernel_rfl
theorem ty29 : tyOf Try.prog 29 = ⟨1, 24, false, .slice 42, some [.d .nilS]⟩ := by kernel_rfl
theorem ty30 : tyOf Try.prog 30 = ⟨1, 24, false, .slice 45, some [.d .nilS]⟩ := by kernel_rfl
theorem ty32 : tyOf Try.prog 32 = ⟨2, 48, true, .strct [(0, 1, false), (1, 1, false)], some [.d .nilS, .d .nilS]⟩ := by kernel_rfl
theorem ty35 : tyOf Try.prog 35 = ⟨3, 24, true, .strct [(0, 1, false), (1, 1, false), (2, 1, false)], some [.d (.int .i64 0), .d (.int .i64 0), .d (.int .i64 0)]⟩ := by kernel_rfl
theorem ty39 : tyOf Try.prog 39 = ⟨1, 24, false, .slice 3, some [.d .nilS]⟩ := by kernel_rfl
theorem ty42 : tyOf Try.prog 42 = ⟨1, 24, false, .slice 49, some [.d .nilS]⟩ := by kernel_rfl
theorem ty45 : tyOf Try.prog 45 = ⟨5, 32, true, .strct [(0, 1, false), (1, 1, false), (2, 1, false), (3, 1, false), (4, 1, false)], some [.d (.int .i64 0), .d (.int .i64 0), .d (.int .i64 0), .d (.bool false), .d (.bool false)]⟩ := by kernel_rfl
theorem ty49 : tyOf Try.prog 49 = ⟨3, 24, true, .strct [(0, 1, false), (1, 1, false), (2, 1, false)], some [.d (.int .i64 0), .d (.int .i64 0), .d (.int .i64 0)]⟩ := by kernel_rfl
theorem ty51 : tyOf Try.prog 51 = ⟨1, 8, false, .pointer 54, some [.d .nilP]⟩ := by kernel_rfl
theorem ty52 : tyOf Try.prog 52 = ⟨1, 8, false, .map 86 3, some [.d .nilM]⟩ := by kernel_rfl
theorem ty54 : tyOf Try.prog 54 = ⟨14, 192, true, .strct [(0, 11, true), (11, 2, true), (13, 1, false)], some [.d (.int .i64 0), .d (.int .i64 0), .d (.int .i64 0), .d (.int .i64 0), .d (.int .i64 0), .d (.int .i64 0), .d (.int .i64 0), .d (.int .i64 0), .d .nilS, .d .nilS, .d .nilS, .d .nilS, .d .nilS, .d .nilM]⟩ := by kernel_rfl
theorem ty64 : tyOf Try.prog 64 = ⟨1, 24, false, .slice 69, some [.d .nilS]⟩ := by kernel_rfl
theorem ty66 : tyOf Try.prog 66 = ⟨1, 8, false, .int .i64, some [.d (.int .i64 0)]⟩ := by kernel_rfl
theorem ty69 : tyOf Try.prog 69 = ⟨1, 24, false, .slice 71, some [.d .nilS]⟩ := by kernel_rfl
theorem ty71 : tyOf Try.prog 71 = ⟨5, 40, true, .strct [(0, 1, false), (1, 1, false), (2, 1, false), (3, 1, false), (4, 1, false)], some [.d (.int .i64 0), .d (.int .i64 0), .d (.int .i64 0), .d (.int .i64 0), .d (.bool false)]⟩ := by kernel_rfl
theorem ty74 : tyOf Try.prog 74 = ⟨2, 32, true, .strct [(0, 1, false), (1, 1, false)], some [.d .nilS, .d (.int .i64 0)]⟩ := by kernel_rfl
theorem ty75 : tyOf Try.prog 75 = ⟨1, 24, false, .slice 115, some [.d .nilS]⟩ := by kernel_rfl
theorem ty77 : tyOf Try.prog 77 = ⟨4, 48, true, .strct [(0, 1, false), (1, 1, false), (2, 1, false), (3, 1, false)], some [.d (.int .i64 0), .d (.int .i64 0), .d (.int .i64 0), .d .nilS]⟩ := by kernel_rfl
theorem ty86 : tyOf Try.prog 86 = ⟨2, 16, true, .strct [(0, 1, false), (1, 1, false)], some [.d (.int .i64 0), .d (.int .i64 0)]⟩ := by kernel_rfl
theorem ty97 : tyOf Try.prog 97 = ⟨1, 24, false, .slice 100, some [.d .nilS]⟩ := by kernel_rfl
theorem ty100 : tyOf Try.prog 100 = ⟨7, 56, true, .strct [(0, 5, true), (5, 1, false), (6, 1, false)], some [.d (.int .i64 0), .d (.int .i64 0), .d (.int .i64 0), .d (.int .i64 0), .d (.bool false), .d (.int .i64 0), .d (.int .i64 0)]⟩ := by kernel_rfl
theorem ty110 : tyOf Try.prog 110 = ⟨12, 160, true, .strct [(0, 9, true), (9, 1, false), (10, 1, false), (11, 1, false)], some [.d (.int .i64 0), .d (.int .i64 0), .d (.int .i64 0), .d (.int .i64 0), .d (.int .i64 0), .d (.int .i64 0), .d (.int .i64 0), .d (.int .i64 0), .d .nilS, .d .nilS, .d .nilS, .d .nilS]⟩ := by kernel_rfl
theorem ty115 : tyOf Try.prog 115 = ⟨3, 24, true, .strct [(0, 1, false), (1, 1, false), (2, 1, false)], some [.d (.int .i64 0), .d (.int .i64 0), .d (.int .i64 0)]⟩ := by kernel_rfl
theorem ty118 : tyOf Try.prog 118 = ⟨1, 8, false, .map 124 4, some [.d .nilM]⟩ := by kernel_rfl
theorem ty119 : tyOf Try.prog 119 = ⟨1, 8, false, .map 3 3, some [.d .nilM]⟩ := by kernel_rfl
theorem ty120 : tyOf Try.prog 120 = ⟨1, 8, false, .map 3 4, some [.d .nilM]⟩ := by kernel_rfl
theorem ty124 : tyOf Try.prog 124 = ⟨2, 16, true, .array 2 3, some [.d (.int .i64 0), .d (.int .i64 0)]⟩ := by kernel_rfl
theorem ty130 : tyOf Try.prog 130 = ⟨3, 24, true, .strct [(0, 1, false), (1, 1, false), (2, 1, false)], some [.d (.int .i64 0), .d (.int .i64 0), .d (.int .i64 0)]⟩ := by kernel_rfl
theorem ty137 : tyOf Try.prog 137 = ⟨1, 8, false, .int .u64, some [.d (.int .u64 0)]⟩ := by kernel_rfl
theorem eq35 : eqOf Try.prog 35 = some [.i, .i, .i] := by kernel_rfl
theorem eq71 : eqOf Try.prog 71 = some [.i, .i, .i, .i, .b] := by kernel_rfl
theorem key3 : keyTI Try.prog 3 = some (false, 1) := by kernel_rfl
theorem key86 : keyTI Try.prog 86 = some (true, 2) := by kernel_rfl
theorem key124 : keyTI Try.prog 124 = some (true, 2) := by kernel_rfl
theorem zv3 : zvOf Try.prog 3 = some (.d (.int .i64 0)) := by kernel_rfl
theorem zv4 : zvOf Try.prog 4 = some (.d (.bool false)) := by kernel_rfl

end Go.AM
