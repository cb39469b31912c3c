/- A part of the proof: it states nothing of its own that is handed in. -/
import Derived.Test.YtdocdnmbmikefaaXKe
import Derived.Test.YtdocdnmbmikefaaAmL
set_option linter.unusedVariables false
set_option linter.unusedSimpArgs false
/-! The chapter's examples, reckoned out. -/
namespace Go.AM
open Go.Proofs
def i8 (n : Int) : D := .int .i64 n
def exSys : List D := [i8 1, i8 1, i8 1, i8 1, i8 2, i8 1, i8 1, i8 0, .ro [[i8 20, i8 20, i8 2, .ro []]]]
def exPlan (p : Int) : D := .ro [[.ro [[i8 0, i8 2, i8 20, i8 p, .bool false]]]]
def exTable : List D := exSys ++ [.ro [[.ro [[i8 0, i8 2, i8 20, i8 1, .bool false]], i8 20]], .ro [[.ro []]]]
def exX1 : List D := [.ro [[.ro [[i8 1, i8 0, i8 0]]], [.ro [[i8 1, i8 0, i8 0]]], [.ro [[i8 1, i8 0, i8 0]]], [.ro [[i8 2, i8 0, i8 0]]], [.ro [[i8 2, i8 0, i8 0]]], [.ro [[i8 1, i8 0, i8 0]]]], .ro [[i8 0, i8 0, i8 5, .bool true, .bool false]]]
def exX2 : List D := [.ro [[.ro [[i8 1, i8 0, i8 0]]], [.ro [[i8 1, i8 0, i8 0]]], [.ro [[i8 1, i8 0, i8 0], [i8 2, i8 0, i8 0]]], [.ro [[i8 2, i8 0, i8 0]]], [.ro [[i8 2, i8 0, i8 0]]], [.ro [[i8 1, i8 0, i8 0]]]], .ro [[i8 0, i8 0, i8 5, .bool true, .bool false]]]
theorem ex_rank17a_ev : evE (evF Try.prog keeps nfun 5000 noMemo 30) 41 (([.agg exSys, .one (exPlan 0)] : List AD).map AD.v) = some (.tup [.d (exPlan 1), .d (.bool true)]) := by kernel_rfl
theorem ex_rank17a : Pure Try.prog 41 (([.agg exSys, .one (exPlan 0)] : List AD).map AD.v) (.tup [.d (exPlan 1), .d (.bool true)]) := Pure.eval keeps nfun 5000 30 (noMemo_ok _) mixed names ex_rank17a_ev
def exM1 : FuncId → List AV → Option AV := memo noMemo 41 [.agg exSys, .one (exPlan 0)] (.tup [.d (exPlan 1), .d (.bool true)])
theorem exM1_ok : MemoOK Try.prog exM1 := memo_ok (noMemo_ok _) ex_rank17a
theorem ex_ceil17a_ev : evE (evF Try.prog keeps nfun 5000 exM1 30) 42 (([.agg exSys, .one (exPlan 0)] : List AD).map AD.v) = some (.tup [.d (.ro [[.ro []]]), .d (.bool true)]) := by kernel_rfl
theorem ex_ceil17a : Pure Try.prog 42 (([.agg exSys, .one (exPlan 0)] : List AD).map AD.v) (.tup [.d (.ro [[.ro []]]), .d (.bool true)]) := Pure.eval keeps nfun 5000 30 exM1_ok mixed names ex_ceil17a_ev
def exM2 : FuncId → List AV → Option AV := memo exM1 42 [.agg exSys, .one (exPlan 0)] (.tup [.d (.ro [[.ro []]]), .d (.bool true)])
theorem exM2_ok : MemoOK Try.prog exM2 := memo_ok exM1_ok ex_ceil17a
theorem ex_rank17b_ev : evE (evF Try.prog keeps nfun 5000 exM2 30) 41 (([.agg exSys, .one (exPlan 1)] : List AD).map AD.v) = some (.tup [.d (exPlan 1), .d (.bool true)]) := by kernel_rfl
theorem ex_rank17b : Pure Try.prog 41 (([.agg exSys, .one (exPlan 1)] : List AD).map AD.v) (.tup [.d (exPlan 1), .d (.bool true)]) := Pure.eval keeps nfun 5000 30 exM2_ok mixed names ex_rank17b_ev
def exM3 : FuncId → List AV → Option AV := memo exM2 41 [.agg exSys, .one (exPlan 1)] (.tup [.d (exPlan 1), .d (.bool true)])
theorem exM3_ok : MemoOK Try.prog exM3 := memo_ok exM2_ok ex_rank17b
theorem ex_ceil17b_ev : evE (evF Try.prog keeps nfun 5000 exM3 30) 42 (([.agg exSys, .one (exPlan 1)] : List AD).map AD.v) = some (.tup [.d (.ro [[.ro []]]), .d (.bool true)]) := by kernel_rfl
theorem ex_ceil17b : Pure Try.prog 42 (([.agg exSys, .one (exPlan 1)] : List AD).map AD.v) (.tup [.d (.ro [[.ro []]]), .d (.bool true)]) := Pure.eval keeps nfun 5000 30 exM3_ok mixed names ex_ceil17b_ev
def exM4 : FuncId → List AV → Option AV := memo exM3 42 [.agg exSys, .one (exPlan 1)] (.tup [.d (.ro [[.ro []]]), .d (.bool true)])
theorem exM4_ok : MemoOK Try.prog exM4 := memo_ok exM3_ok ex_ceil17b
theorem ex_right19_ev : evE (evF Try.prog keeps nfun 5000 exM4 30) 16 (([.agg exTable] : List AD).map AD.v) = some (.d (.bool true)) := by kernel_rfl
theorem ex_right19 : Pure Try.prog 16 (([.agg exTable] : List AD).map AD.v) (.d (.bool true)) := Pure.eval keeps nfun 5000 30 exM4_ok mixed names ex_right19_ev
def exM5 : FuncId → List AV → Option AV := memo exM4 16 [.agg exTable] (.d (.bool true))
theorem exM5_ok : MemoOK Try.prog exM5 := memo_ok exM4_ok ex_right19
theorem ex_only_ev : evE (evF Try.prog keeps nfun 5000 exM5 30) 12 (([] : List AD).map AD.v) = some (.agg (exTable.map .d)) := by kernel_rfl
theorem ex_only : Pure Try.prog 12 (([] : List AD).map AD.v) (.agg (exTable.map .d)) := Pure.eval keeps nfun 5000 30 exM5_ok mixed names ex_only_ev
def exM6 : FuncId → List AV → Option AV := memo exM5 12 [] (.agg (exTable.map .d))
theorem exM6_ok : MemoOK Try.prog exM6 := memo_ok exM5_ok ex_only
theorem ex_rank_ev : evE (evF Try.prog keeps nfun 5000 exM6 30) 28 (([.agg exSys, .one (exPlan 1)] : List AD).map AD.v) = some (.tup [.d (exPlan 1), .d (i8 0)]) := by kernel_rfl
theorem ex_rank : Pure Try.prog 28 (([.agg exSys, .one (exPlan 1)] : List AD).map AD.v) (.tup [.d (exPlan 1), .d (i8 0)]) := Pure.eval keeps nfun 5000 30 exM6_ok mixed names ex_rank_ev
def exM7 : FuncId → List AV → Option AV := memo exM6 28 [.agg exSys, .one (exPlan 1)] (.tup [.d (exPlan 1), .d (i8 0)])
theorem exM7_ok : MemoOK Try.prog exM7 := memo_ok exM6_ok ex_rank
theorem ex_ceil_ev : evE (evF Try.prog keeps nfun 5000 exM7 30) 30 (([.agg exSys, .one (exPlan 1)] : List AD).map AD.v) = some (.tup [.d (.ro [[.ro []]]), .d (i8 0)]) := by kernel_rfl
theorem ex_ceil : Pure Try.prog 30 (([.agg exSys, .one (exPlan 1)] : List AD).map AD.v) (.tup [.d (.ro [[.ro []]]), .d (i8 0)]) := Pure.eval keeps nfun 5000 30 exM7_ok mixed names ex_ceil_ev
def exM8 : FuncId → List AV → Option AV := memo exM7 30 [.agg exSys, .one (exPlan 1)] (.tup [.d (.ro [[.ro []]]), .d (i8 0)])
theorem exM8_ok : MemoOK Try.prog exM8 := memo_ok exM7_ok ex_ceil
theorem ex_tright_ev : evE (evF Try.prog keeps nfun 5000 exM8 30) 11 (([.agg exTable] : List AD).map AD.v) = some (.d (.bool true)) := by kernel_rfl
theorem ex_tright : Pure Try.prog 11 (([.agg exTable] : List AD).map AD.v) (.d (.bool true)) := Pure.eval keeps nfun 5000 30 exM8_ok mixed names ex_tright_ev
def exM9 : FuncId → List AV → Option AV := memo exM8 11 [.agg exTable] (.d (.bool true))
theorem exM9_ok : MemoOK Try.prog exM9 := memo_ok exM8_ok ex_tright
theorem ex_check1_ev : evE (evF Try.prog keeps nfun 5000 exM9 30) 7 (([.agg exTable, .agg exX1] : List AD).map AD.v) = some (.agg ([i8 0, i8 (-1), i8 (-1)].map .d)) := by kernel_rfl
theorem ex_check1 : Pure Try.prog 7 (([.agg exTable, .agg exX1] : List AD).map AD.v) (.agg ([i8 0, i8 (-1), i8 (-1)].map .d)) := Pure.eval keeps nfun 5000 30 exM9_ok mixed names ex_check1_ev
def exM10 : FuncId → List AV → Option AV := memo exM9 7 [.agg exTable, .agg exX1] (.agg ([i8 0, i8 (-1), i8 (-1)].map .d))
theorem exM10_ok : MemoOK Try.prog exM10 := memo_ok exM9_ok ex_check1
theorem ex_check2_ev : evE (evF Try.prog keeps nfun 5000 exM10 30) 7 (([.agg exTable, .agg exX2] : List AD).map AD.v) = some (.agg ([i8 2, i8 2, i8 1].map .d)) := by kernel_rfl
theorem ex_check2 : Pure Try.prog 7 (([.agg exTable, .agg exX2] : List AD).map AD.v) (.agg ([i8 2, i8 2, i8 1].map .d)) := Pure.eval keeps nfun 5000 30 exM10_ok mixed names ex_check2_ev
def exM11 : FuncId → List AV → Option AV := memo exM10 7 [.agg exTable, .agg exX2] (.agg ([i8 2, i8 2, i8 1].map .d))
theorem exM11_ok : MemoOK Try.prog exM11 := memo_ok exM10_ok ex_check2
theorem ex_examples_ev : evE (evF Try.prog keeps nfun 5000 exM11 30) 6 (([] : List AD).map AD.v) = some (.d (.bool true)) := by kernel_rfl
theorem ex_examples : Pure Try.prog 6 (([] : List AD).map AD.v) (.d (.bool true)) := Pure.eval keeps nfun 5000 30 exM11_ok mixed names ex_examples_ev
def exM12 : FuncId → List AV → Option AV := memo exM11 6 [] (.d (.bool true))
theorem exM12_ok : MemoOK Try.prog exM12 := memo_ok exM11_ok ex_examples
end Go.AM
